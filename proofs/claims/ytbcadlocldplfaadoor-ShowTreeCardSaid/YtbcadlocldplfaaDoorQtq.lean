/- The document's show: contract of bare, from those of at and block. And what follows from it. -/
import Derived.Test.YtbcadlocldplfaaDoorQto
import Derived.Test.YtbcadlocldplfaaDoorQtp
import Derived.Test.YtbcadlocldplfaaDoorQt0
set_option maxHeartbeats 16000000
set_option linter.unusedSimpArgs false
set_option linter.unusedVariables false
namespace Go.Proofs.YtbcadlocldplfaaDoor
open Go.Proofs.Tryd
set_option maxRecDepth 100000
open Go.RowKit T8
theorem Twg.lis1 {w : World} {l r : List Tw} {A : Option Addr} {i : Nat} {x : Tw} {ks : List Tr} (h : Twg w l A i r x ks) {N : Nat} (hE : AtR N) {j z : Nat} {k : Tr} (hk : ks[j]? = some k) (hz : z = i + 1 + (flats (ks.take j)).length) (hR : Rt 0 k ∧ k.flat.length <= N) (sb cb : ByteArray) (c cK : Nat) (K : Option Addr) (W : World) (hW : Below w.heap.size w W) (hK : RdN W K [z]) :
 Calls prog 121 #[.slice A l.length c, .slice K 1 cK, .string sb, .string cb] W (RP W (sgB sb :: (commas 1 (shs [k]) ++ [sgB cb]))) :=
 rlist_any N hE [k] (mem1 hR) sb cb l A K c cK z 1 _ W h.len (by rw [flat1, hz]; exact drop_kid h.at_.2.2.1 hk) (h.rd.below hW) hK rfl
theorem Bst.one {w w2 : World} {B g i : Nat} {x : Tw} {b off j z : Nat} {k : Tr} {ks : List Tr} (h : Bst w w2 B g x (some ⟨b, off, none⟩) ks i) (hk : ks[j]? = some k) (hz : z = i + 1 + (flats (ks.take j)).length) : RdN w2 (some ⟨b, off + j, none⟩) [z] := by
 have h1 := h.kcell hk hz
 have h2 := h.kB _ rfl (fun e => by rw [e] at hk; simp at hk)
 refine .inr ⟨b, off + j, rfl, Nat.lt_of_lt_of_le h2 h.big, fun i' y hy j' v hv => ?_⟩
 cases i' with
 | succ i' => simp at hy
 | zero =>
  obtain rfl : z = y := by simpa using hy
  cases j' with
  | succ j' => simp [ncell] at hv
  | zero =>
   obtain rfl : Value.int .i64 (z : Nat) = v := by simpa [ncell] using hv
   simpa using h1
theorem rb56 (N : Nat) (hE : AtR N) (hB : BlockR N) (s : ByteArray) (l : List Tw) (A : Option Addr) (c i : Nat) (r : List Tw) (w : World) (h : Twg w l A i r ⟨56, 0, 0, s⟩ []) :
 Calls prog 100 #[.slice A l.length c, .int .i64 (i : Nat)] w (RP w (bareS ⟨56, 0, 0, s⟩ (shs []))) := by
 have HT := zh h
 obtain ⟨ha1, hi, ha2, b, off, rfl, hbl, hrg⟩ := h.at_
 have HRG : Hid (w.rangeAt b (off + i * 4) [.int .u8 56, .int .i64 0, .int .i64 0, .string (s)]) := zh (hrg w (Below.refl _ _))
 have HKD := zh (fun W hW => h.kids c 0 rfl W hW)
 have HWD := zh (fun s W => rword_v s W)
 obtain ⟨q, hq⟩ := ex l.length
 have HQ := zh hq
 have hq9 : q <= 100000 := by have := h.len; omega
 rw [<- hq] at hi |-
 have a0 : (0 : Int) <= (i : Int) := by omega
 have a1 : (i : Int) < (q : Int) := by omega
 have HB0 := zh (Blk.new w 42 #[.int .u8 0, .int .i64 0, .int .i64 0, .string ⟨#[]⟩])
 have HWB := zh ((Below.refl w.heap.size w).alloc (nlr _) (.cells #[.int .u8 56, .int .i64 0, .int .i64 0, .string (s)] 42))
 have HWA := zh (Blk.new w 42 #[.int .u8 56, .int .i64 0, .int .i64 0, .string (s)])
 rw [<- HQ.out] at HKD
 clear h hrg hE hB hq hbl ha1 ha2
 go_in
 go_upto_region 2 with (first | (refine wpList_load_mid rfl 42 (.tmp 17) rfl b (off + i * 4) rfl [.int .u8 56, .int .i64 0, .int .i64 0, .string (s)] (.struct _) HRG.out underlying42 rfl (by kernel_rfl) ?_) | (refine wpList_store_row rfl 42 (.tmp 5) (.tmp 18) rfl w.heap.size #[.int .u8 56, .int .i64 0, .int .i64 0, .string (s)] rfl rfl 42 #[.int .u8 0, .int .i64 0, .int .i64 0, .string ⟨#[]⟩] HB0.out (by kernel_rfl) rfl (by kernel_rfl) ?_; rw [World.setRow_alloc_new]) | fail)
 clear HB0
 obtain ⟨g, hg⟩ := ex w.heap.size
 rw [<- hg] at HWA |-
 generalize w.alloc _ = wa at *
 have HG := zh hg
 clear hg
 go_wp2_with fail
 refine (HKD.out wa HWB.out).mono ?_
 rintro e w2 ⟨K, cK, rfl, hcK, hK, hKb, hb2⟩
 obtain ⟨B, hBw⟩ := ex w2.heap.size
 have HS : Hid (Bst w w2 B g ⟨56, 0, 0, s⟩ K [] i) := zh (Bst.new (w2' := w2) (HWB.out.trans (hb2.mono HWB.out.size)) ((hb2.block _ HWA.out.lt).trans HWA.out) hK (by rw [HG.out]; exact nlr _) hBw)
 have hg2 : g < w2.heap.size := HS.out.blk.lt
 have c0 : w2.cell? ⟨g, 0, none⟩ = some (.int .u8 56) := HS.out.blk.cell 0
 have c2 : w2.cell? ⟨g, 2, none⟩ = some (.int .i64 (0)) := HS.out.blk.cell 2
 have c3 : w2.cell? ⟨g, 3, none⟩ = some (.string (s)) := HS.out.blk.cell 3
 have HKB := zh (ai hKb hcK)
 clear hK hKb hb2 hcK hBw
 go_wp2_with fail
 have HG0 : Hid (∀ W, Below w2.heap.size w2 W -> W.cell? ⟨g, 0, none⟩ = some (.int .u8 56)) := zh (fun W hW => (hW.cell (p := ⟨g, 0, none⟩) hg2).trans (HS.out.blk.cell 0))
 have HG3 : Hid (∀ W, Below w2.heap.size w2 W -> W.cell? ⟨g, 3, none⟩ = some (.string s)) := zh (fun W hW => (hW.cell (p := ⟨g, 3, none⟩) hg2).trans (HS.out.blk.cell 3))
 refine (rwidth56 _).mono ?_
 rintro e w3 ⟨rfl, hw⟩
 rw [hw]
 clear hw w3
 go_upto_region 11 with fail
 clear c0 c2 c3
 refine F3.wp_region_plan (.q 1 (.q 2 (.a1 0 (.a1 3 (.a1 4 (.q 5 .fin)))))) 4 (fun W => Below w2.heap.size w2 W) (by kernel_rfl) rfl (by kernel_rfl) ((Below.refl _ _).drew) ?_
 refine F3.wpPlan_q rfl rfl rfl ?_; intro K hK
 go_big_quiet_op
 first | go_big_quiet_on | (refine ⟨_, fun _ _ => rfl, ?_⟩; go_big_quiet_on)
 refine F3.wpPlan_q rfl rfl rfl ?_; intro K hK
 refine ⟨.string s, fun W hW => ?_, ?_⟩
 . have q0 := HG3.out W hW
   unfold Oper.quietAt Oper.quietUpon
   simp [go_sem, q0]
 refine hK _ ?_
 clear hK K
 try simp only [Act.put, List.setIfInBounds_toArray, List.set_cons_succ, List.set_cons_zero]
 refine F3.wpPlan_act true rfl rfl rfl ?_
 intro K hK
 go_simp
 refine (HWD.out ⟨#[116, 97, 107, 101]⟩ w2.drew).mono ?_
 rintro e w4 ⟨rfl, hb⟩
 have Hw4 : Hid (Below w2.heap.size w2 w4) := zh (((Below.refl w2.heap.size w2).drew).trans hb)
 refine hK _ _ (fun _ => Hw4.out) ?_
 clear hK K hb
 refine F3.wpPlan_act true rfl rfl rfl ?_; intro K hK
 go_simp
 refine (HWD.out s w4).mono ?_
 rintro e w5 ⟨rfl, hb⟩
 have Hw5 : Hid (Below w2.heap.size w2 w5) := zh (Hw4.out.trans (hb.mono Hw4.out.size))
 refine hK _ _ (fun _ => Hw5.out) ?_
 clear hK K hb
 have HRB : Hid ((w5.alloc (.cells #[.int .u8 1, .string ⟨#[116, 97, 107, 101]⟩, .int .i64 0, .int .i64 0, .int .u8 1, .string s, .int .i64 0, .int .i64 0] 35)).ownsRow B 35 4 (.slice (some ⟨w5.heap.size, 0, none⟩) 2 2) 2 (rowOf zcell [⟨1, ⟨#[116, 97, 107, 101]⟩, 0, 0⟩, ⟨1, s, 0, 0⟩])) := zh (own_new [⟨1, ⟨#[116, 97, 107, 101]⟩, 0, 0⟩, ⟨1, s, 0, 0⟩] 2 _ rfl rfl (Nat.le_trans HS.out.big Hw5.out.size) (by unfold maxLen; omega))
 have HSB := zh ((HS.out.below Hw5.out).alloc (.cells #[.int .u8 1, .string ⟨#[116, 97, 107, 101]⟩, .int .i64 0, .int .i64 0, .int .u8 1, .string s, .int .i64 0, .int .i64 0] 35))
 refine F3.wpPlan_act false rfl rfl rfl ?_; intro K hK
 go_simp
 refine hK _ _ (fun h => by cases h) ?_
 clear hK K
 try simp only [Act.put, List.setIfInBounds_toArray, List.set_cons_succ, List.set_cons_zero]
 refine F3.wpPlan_p rfl rfl rfl ?_; intro K hK
 refine ⟨.slice (some ⟨w5.heap.size, 0, none⟩) 2 2, fun W hW => ?_, ?_⟩
 . unfold Oper.quietAt Oper.quietUpon
   simp [go_sem]
 refine hK _ ?_
 clear hK K
 try simp only [Act.put, List.setIfInBounds_toArray, List.set_cons_succ, List.set_cons_zero]
 refine F3.wpPlan_fin ?_
 go_wp2_with fail
 go_ret
 exact rp_of (own_mono HRB.out HSB.out.lowB) rfl HSB.out.bel rfl
theorem rb50 (N : Nat) (hE : AtR N) (hB : BlockR N) (n : Nat) (ks : List Tr) (hn : n = ks.length) (hks : ∀ k ∈ ks, Rt 0 k ∧ k.flat.length <= N) (s : ByteArray) (l : List Tw) (A : Option Addr) (c i : Nat) (r : List Tw) (w : World) (h : Twg w l A i r ⟨50, (n : Nat), 0, s⟩ ks) :
 Calls prog 100 #[.slice A l.length c, .int .i64 (i : Nat)] w (RP w (bareS ⟨50, (n : Nat), 0, s⟩ (shs ks))) := by
 have HT := zh h
 obtain ⟨ha1, hi, ha2, b, off, rfl, hbl, hrg⟩ := h.at_
 have HRG : Hid (w.rangeAt b (off + i * 4) [.int .u8 50, .int .i64 (n : Nat), .int .i64 0, .string (s)]) := zh (hrg w (Below.refl _ _))
 have HKD := zh (fun W hW => h.kids c n hn W hW)
 have HM := zh mark50
 have HWD := zh (fun s W => rword_v s W)
 have HL := zh (fun cK K W hW hK => h.lis hE hks ⟨#[40]⟩ ⟨#[41]⟩ c cK n hn K W hW hK)
 have HLL : Hid ((sgB ⟨#[40]⟩ :: (commas 1 (shs ks) ++ [sgB ⟨#[41]⟩])).length <= 900000) := zh (by rw [lnc, lna, List.length_singleton]; have := h.lisn (N := N) hks; omega)
 have HN := zh hn
 clear hn
 obtain ⟨q, hq⟩ := ex l.length
 have HQ := zh hq
 have hq9 : q <= 100000 := by have := h.len; omega
 rw [<- hq] at hi |-
 have a0 : (0 : Int) <= (i : Int) := by omega
 have a1 : (i : Int) < (q : Int) := by omega
 have HB0 := zh (Blk.new w 42 #[.int .u8 0, .int .i64 0, .int .i64 0, .string ⟨#[]⟩])
 have HWB := zh ((Below.refl w.heap.size w).alloc (nlr _) (.cells #[.int .u8 50, .int .i64 (n : Nat), .int .i64 0, .string (s)] 42))
 have HWA := zh (Blk.new w 42 #[.int .u8 50, .int .i64 (n : Nat), .int .i64 0, .string (s)])
 rw [<- HQ.out] at HKD HL
 clear h hrg hE hB hq hbl ha1 ha2
 go_in
 go_upto_region 2 with (first | (refine wpList_load_mid rfl 42 (.tmp 17) rfl b (off + i * 4) rfl [.int .u8 50, .int .i64 (n : Nat), .int .i64 0, .string (s)] (.struct _) HRG.out underlying42 rfl (by kernel_rfl) ?_) | (refine wpList_store_row rfl 42 (.tmp 5) (.tmp 18) rfl w.heap.size #[.int .u8 50, .int .i64 (n : Nat), .int .i64 0, .string (s)] rfl rfl 42 #[.int .u8 0, .int .i64 0, .int .i64 0, .string ⟨#[]⟩] HB0.out (by kernel_rfl) rfl (by kernel_rfl) ?_; rw [World.setRow_alloc_new]) | fail)
 clear HB0
 obtain ⟨g, hg⟩ := ex w.heap.size
 rw [<- hg] at HWA |-
 generalize w.alloc _ = wa at *
 have HG := zh hg
 clear hg
 go_wp2_with fail
 refine (HKD.out wa HWB.out).mono ?_
 rintro e w2 ⟨K, cK, rfl, hcK, hK, hKb, hb2⟩
 obtain ⟨B, hBw⟩ := ex w2.heap.size
 have HS : Hid (Bst w w2 B g ⟨50, (n : Nat), 0, s⟩ K ks i) := zh (Bst.new (w2' := w2) (HWB.out.trans (hb2.mono HWB.out.size)) ((hb2.block _ HWA.out.lt).trans HWA.out) hK (by rw [HG.out]; exact nlr _) hBw)
 have hg2 : g < w2.heap.size := HS.out.blk.lt
 have c0 : w2.cell? ⟨g, 0, none⟩ = some (.int .u8 50) := HS.out.blk.cell 0
 have c2 : w2.cell? ⟨g, 2, none⟩ = some (.int .i64 (0)) := HS.out.blk.cell 2
 have c3 : w2.cell? ⟨g, 3, none⟩ = some (.string (s)) := HS.out.blk.cell 3
 have HKB := zh (ai hKb hcK)
 clear hK hKb hb2 hcK hBw
 go_wp2_with fail
 have HG0 : Hid (∀ W, Below w2.heap.size w2 W -> W.cell? ⟨g, 0, none⟩ = some (.int .u8 50)) := zh (fun W hW => (hW.cell (p := ⟨g, 0, none⟩) hg2).trans (HS.out.blk.cell 0))
 have HG3 : Hid (∀ W, Below w2.heap.size w2 W -> W.cell? ⟨g, 3, none⟩ = some (.string s)) := zh (fun W hW => (hW.cell (p := ⟨g, 3, none⟩) hg2).trans (HS.out.blk.cell 3))
 refine (rwidth50 _).mono ?_
 rintro e w3 ⟨rfl, hw⟩
 rw [hw]
 clear hw w3
 go_upto_region 15 with fail
 clear c0 c2 c3
 refine F3.wp_region_plan (.q 0 (.q 1 (.q 3 (.q 4 (.a1 2 (.a1 5 (.a1 6 (.q 7 .fin)))))))) 6 (fun W => Below w2.heap.size w2 W) (by kernel_rfl) rfl (by kernel_rfl) ((Below.refl _ _).drew) ?_
 refine F3.wpPlan_q rfl rfl rfl ?_; intro K hK
 go_big_quiet_op
 first | go_big_quiet_on | (refine ⟨_, fun _ _ => rfl, ?_⟩; go_big_quiet_on)
 refine F3.wpPlan_q rfl rfl rfl ?_; intro K hK
 refine ⟨.int .u8 50, fun W hW => ?_, ?_⟩
 . have q0 := HG0.out W hW
   unfold Oper.quietAt Oper.quietUpon
   simp [go_sem, q0]
 refine hK _ ?_
 clear hK K
 try simp only [Act.put, List.setIfInBounds_toArray, List.set_cons_succ, List.set_cons_zero]
 refine F3.wpPlan_q rfl rfl rfl ?_; intro K hK
 go_big_quiet_op
 first | go_big_quiet_on | (refine ⟨_, fun _ _ => rfl, ?_⟩; go_big_quiet_on)
 refine F3.wpPlan_q rfl rfl rfl ?_; intro K hK
 refine ⟨.string s, fun W hW => ?_, ?_⟩
 . have q0 := HG3.out W hW
   unfold Oper.quietAt Oper.quietUpon
   simp [go_sem, q0]
 refine hK _ ?_
 clear hK K
 try simp only [Act.put, List.setIfInBounds_toArray, List.set_cons_succ, List.set_cons_zero]
 refine F3.wpPlan_act true rfl rfl rfl ?_
 intro K hK
 go_simp
 refine (HM.out w2.drew).mono ?_
 rintro e w4 ⟨rfl, hb⟩
 have Hw4 : Hid (Below w2.heap.size w2 w4) := zh (((Below.refl w2.heap.size w2).drew).trans hb)
 refine hK _ _ (fun _ => Hw4.out) ?_
 clear hK K hb
 refine F3.wpPlan_act true rfl rfl rfl ?_; intro K hK
 go_simp
 refine (HWD.out s w4).mono ?_
 rintro e w5 ⟨rfl, hb⟩
 have Hw5 : Hid (Below w2.heap.size w2 w5) := zh (Hw4.out.trans (hb.mono Hw4.out.size))
 refine hK _ _ (fun _ => Hw5.out) ?_
 clear hK K hb
 have HRB : Hid ((w5.alloc (.cells #[.int .u8 1, .string ⟨#[99, 97, 108, 108]⟩, .int .i64 0, .int .i64 0, .int .u8 1, .string s, .int .i64 0, .int .i64 0] 35)).ownsRow B 35 4 (.slice (some ⟨w5.heap.size, 0, none⟩) 2 2) 2 (rowOf zcell [⟨1, ⟨#[99, 97, 108, 108]⟩, 0, 0⟩, ⟨1, s, 0, 0⟩])) := zh (own_new [⟨1, ⟨#[99, 97, 108, 108]⟩, 0, 0⟩, ⟨1, s, 0, 0⟩] 2 _ rfl rfl (Nat.le_trans HS.out.big Hw5.out.size) (by unfold maxLen; omega))
 have HSB := zh ((HS.out.below Hw5.out).alloc (.cells #[.int .u8 1, .string ⟨#[99, 97, 108, 108]⟩, .int .i64 0, .int .i64 0, .int .u8 1, .string s, .int .i64 0, .int .i64 0] 35))
 refine F3.wpPlan_act false rfl rfl rfl ?_; intro K hK
 go_simp
 refine hK _ _ (fun h => by cases h) ?_
 clear hK K
 try simp only [Act.put, List.setIfInBounds_toArray, List.set_cons_succ, List.set_cons_zero]
 refine F3.wpPlan_p rfl rfl rfl ?_; intro K hK
 refine ⟨.slice (some ⟨w5.heap.size, 0, none⟩) 2 2, fun W hW => ?_, ?_⟩
 . unfold Oper.quietAt Oper.quietUpon
   simp [go_sem]
 refine hK _ ?_
 clear hK K
 try simp only [Act.put, List.setIfInBounds_toArray, List.set_cons_succ, List.set_cons_zero]
 refine F3.wpPlan_fin ?_
 generalize w5.alloc _ = wb at *
 go_wp2_with fail
 refine (HL.out cK K wb HSB.out.bel HSB.out.kid).mono ?_
 rintro e w6 ⟨A6, c6, rfl, ho6, hb6⟩
 obtain ⟨m6, hm6⟩ : ∃ z, z = (sgB ⟨#[40]⟩ :: (commas 1 (shs ks) ++ [sgB ⟨#[41]⟩])).length := ⟨_, rfl⟩
 have hm96 : m6 <= 900000 := by rw [hm6]; exact HLL.out
 rw [<- hm6] at ho6 |-
 have HM6 := zh hm6
 have HS6 := zh (HSB.out.below hb6)
 have HR6 := zh (own_below HRB.out hb6)
 have HX6 := zh (rdz_ow ho6 HM6.out)
 clear ho6 hb6 hm6
 go_wp2_with (at_builtin; refine wpList_app_z rfl (.tmp 81) (.tmp 84) rfl B (2) 2 m6 c6 (some ⟨w5.heap.size, 0, none⟩) A6 ([⟨1, ⟨#[99, 97, 108, 108]⟩, 0, 0⟩, ⟨1, s, 0, 0⟩]) (sgB ⟨#[40]⟩ :: (commas 1 (shs ks) ++ [sgB ⟨#[41]⟩])) rfl HR6.out rfl HM6.out HX6.out (by omega) HS6.out.big ?_; intro A7 c7 w7 ho7 hg7; have HR7 := zh ho7; have HS7 := zh (HS6.out.grown HR6.out hg7); clear ho7 hg7)
 go_ret
 exact rp_of (own_mono HR7.out HS7.out.lowB) (by rw [lna, <- HM6.out]; rfl) HS7.out.bel (rfl)
theorem rb51 (N : Nat) (hE : AtR N) (hB : BlockR N) (n : Nat) (ks : List Tr) (hn : n = ks.length) (hks : ∀ k ∈ ks, Rt 0 k ∧ k.flat.length <= N) (s : ByteArray) (l : List Tw) (A : Option Addr) (c i : Nat) (r : List Tw) (w : World) (h : Twg w l A i r ⟨51, (n : Nat), 0, s⟩ ks) :
 Calls prog 100 #[.slice A l.length c, .int .i64 (i : Nat)] w (RP w (bareS ⟨51, (n : Nat), 0, s⟩ (shs ks))) := by
 have HT := zh h
 obtain ⟨ha1, hi, ha2, b, off, rfl, hbl, hrg⟩ := h.at_
 have HRG : Hid (w.rangeAt b (off + i * 4) [.int .u8 51, .int .i64 (n : Nat), .int .i64 0, .string (s)]) := zh (hrg w (Below.refl _ _))
 have HKD := zh (fun W hW => h.kids c n hn W hW)
 have HM := zh mark51
 have HWD := zh (fun s W => rword_v s W)
 have HL := zh (fun cK K W hW hK => h.lis hE hks ⟨#[40]⟩ ⟨#[41]⟩ c cK n hn K W hW hK)
 have HLL : Hid ((sgB ⟨#[40]⟩ :: (commas 1 (shs ks) ++ [sgB ⟨#[41]⟩])).length <= 900000) := zh (by rw [lnc, lna, List.length_singleton]; have := h.lisn (N := N) hks; omega)
 have HN := zh hn
 clear hn
 obtain ⟨q, hq⟩ := ex l.length
 have HQ := zh hq
 have hq9 : q <= 100000 := by have := h.len; omega
 rw [<- hq] at hi |-
 have a0 : (0 : Int) <= (i : Int) := by omega
 have a1 : (i : Int) < (q : Int) := by omega
 have HB0 := zh (Blk.new w 42 #[.int .u8 0, .int .i64 0, .int .i64 0, .string ⟨#[]⟩])
 have HWB := zh ((Below.refl w.heap.size w).alloc (nlr _) (.cells #[.int .u8 51, .int .i64 (n : Nat), .int .i64 0, .string (s)] 42))
 have HWA := zh (Blk.new w 42 #[.int .u8 51, .int .i64 (n : Nat), .int .i64 0, .string (s)])
 rw [<- HQ.out] at HKD HL
 clear h hrg hE hB hq hbl ha1 ha2
 go_in
 go_upto_region 2 with (first | (refine wpList_load_mid rfl 42 (.tmp 17) rfl b (off + i * 4) rfl [.int .u8 51, .int .i64 (n : Nat), .int .i64 0, .string (s)] (.struct _) HRG.out underlying42 rfl (by kernel_rfl) ?_) | (refine wpList_store_row rfl 42 (.tmp 5) (.tmp 18) rfl w.heap.size #[.int .u8 51, .int .i64 (n : Nat), .int .i64 0, .string (s)] rfl rfl 42 #[.int .u8 0, .int .i64 0, .int .i64 0, .string ⟨#[]⟩] HB0.out (by kernel_rfl) rfl (by kernel_rfl) ?_; rw [World.setRow_alloc_new]) | fail)
 clear HB0
 obtain ⟨g, hg⟩ := ex w.heap.size
 rw [<- hg] at HWA |-
 generalize w.alloc _ = wa at *
 have HG := zh hg
 clear hg
 go_wp2_with fail
 refine (HKD.out wa HWB.out).mono ?_
 rintro e w2 ⟨K, cK, rfl, hcK, hK, hKb, hb2⟩
 obtain ⟨B, hBw⟩ := ex w2.heap.size
 have HS : Hid (Bst w w2 B g ⟨51, (n : Nat), 0, s⟩ K ks i) := zh (Bst.new (w2' := w2) (HWB.out.trans (hb2.mono HWB.out.size)) ((hb2.block _ HWA.out.lt).trans HWA.out) hK (by rw [HG.out]; exact nlr _) hBw)
 have hg2 : g < w2.heap.size := HS.out.blk.lt
 have c0 : w2.cell? ⟨g, 0, none⟩ = some (.int .u8 51) := HS.out.blk.cell 0
 have c2 : w2.cell? ⟨g, 2, none⟩ = some (.int .i64 (0)) := HS.out.blk.cell 2
 have c3 : w2.cell? ⟨g, 3, none⟩ = some (.string (s)) := HS.out.blk.cell 3
 have HKB := zh (ai hKb hcK)
 clear hK hKb hb2 hcK hBw
 go_wp2_with fail
 have HG0 : Hid (∀ W, Below w2.heap.size w2 W -> W.cell? ⟨g, 0, none⟩ = some (.int .u8 51)) := zh (fun W hW => (hW.cell (p := ⟨g, 0, none⟩) hg2).trans (HS.out.blk.cell 0))
 have HG3 : Hid (∀ W, Below w2.heap.size w2 W -> W.cell? ⟨g, 3, none⟩ = some (.string s)) := zh (fun W hW => (hW.cell (p := ⟨g, 3, none⟩) hg2).trans (HS.out.blk.cell 3))
 refine (rwidth51 _).mono ?_
 rintro e w3 ⟨rfl, hw⟩
 rw [hw]
 clear hw w3
 go_upto_region 15 with fail
 clear c0 c2 c3
 refine F3.wp_region_plan (.q 0 (.q 1 (.q 3 (.q 4 (.a1 2 (.a1 5 (.a1 6 (.q 7 .fin)))))))) 6 (fun W => Below w2.heap.size w2 W) (by kernel_rfl) rfl (by kernel_rfl) ((Below.refl _ _).drew) ?_
 refine F3.wpPlan_q rfl rfl rfl ?_; intro K hK
 go_big_quiet_op
 first | go_big_quiet_on | (refine ⟨_, fun _ _ => rfl, ?_⟩; go_big_quiet_on)
 refine F3.wpPlan_q rfl rfl rfl ?_; intro K hK
 refine ⟨.int .u8 51, fun W hW => ?_, ?_⟩
 . have q0 := HG0.out W hW
   unfold Oper.quietAt Oper.quietUpon
   simp [go_sem, q0]
 refine hK _ ?_
 clear hK K
 try simp only [Act.put, List.setIfInBounds_toArray, List.set_cons_succ, List.set_cons_zero]
 refine F3.wpPlan_q rfl rfl rfl ?_; intro K hK
 go_big_quiet_op
 first | go_big_quiet_on | (refine ⟨_, fun _ _ => rfl, ?_⟩; go_big_quiet_on)
 refine F3.wpPlan_q rfl rfl rfl ?_; intro K hK
 refine ⟨.string s, fun W hW => ?_, ?_⟩
 . have q0 := HG3.out W hW
   unfold Oper.quietAt Oper.quietUpon
   simp [go_sem, q0]
 refine hK _ ?_
 clear hK K
 try simp only [Act.put, List.setIfInBounds_toArray, List.set_cons_succ, List.set_cons_zero]
 refine F3.wpPlan_act true rfl rfl rfl ?_
 intro K hK
 go_simp
 refine (HM.out w2.drew).mono ?_
 rintro e w4 ⟨rfl, hb⟩
 have Hw4 : Hid (Below w2.heap.size w2 w4) := zh (((Below.refl w2.heap.size w2).drew).trans hb)
 refine hK _ _ (fun _ => Hw4.out) ?_
 clear hK K hb
 refine F3.wpPlan_act true rfl rfl rfl ?_; intro K hK
 go_simp
 refine (HWD.out s w4).mono ?_
 rintro e w5 ⟨rfl, hb⟩
 have Hw5 : Hid (Below w2.heap.size w2 w5) := zh (Hw4.out.trans (hb.mono Hw4.out.size))
 refine hK _ _ (fun _ => Hw5.out) ?_
 clear hK K hb
 have HRB : Hid ((w5.alloc (.cells #[.int .u8 1, .string ⟨#[99, 104, 105, 108, 100]⟩, .int .i64 0, .int .i64 0, .int .u8 1, .string s, .int .i64 0, .int .i64 0] 35)).ownsRow B 35 4 (.slice (some ⟨w5.heap.size, 0, none⟩) 2 2) 2 (rowOf zcell [⟨1, ⟨#[99, 104, 105, 108, 100]⟩, 0, 0⟩, ⟨1, s, 0, 0⟩])) := zh (own_new [⟨1, ⟨#[99, 104, 105, 108, 100]⟩, 0, 0⟩, ⟨1, s, 0, 0⟩] 2 _ rfl rfl (Nat.le_trans HS.out.big Hw5.out.size) (by unfold maxLen; omega))
 have HSB := zh ((HS.out.below Hw5.out).alloc (.cells #[.int .u8 1, .string ⟨#[99, 104, 105, 108, 100]⟩, .int .i64 0, .int .i64 0, .int .u8 1, .string s, .int .i64 0, .int .i64 0] 35))
 refine F3.wpPlan_act false rfl rfl rfl ?_; intro K hK
 go_simp
 refine hK _ _ (fun h => by cases h) ?_
 clear hK K
 try simp only [Act.put, List.setIfInBounds_toArray, List.set_cons_succ, List.set_cons_zero]
 refine F3.wpPlan_p rfl rfl rfl ?_; intro K hK
 refine ⟨.slice (some ⟨w5.heap.size, 0, none⟩) 2 2, fun W hW => ?_, ?_⟩
 . unfold Oper.quietAt Oper.quietUpon
   simp [go_sem]
 refine hK _ ?_
 clear hK K
 try simp only [Act.put, List.setIfInBounds_toArray, List.set_cons_succ, List.set_cons_zero]
 refine F3.wpPlan_fin ?_
 generalize w5.alloc _ = wb at *
 go_wp2_with fail
 refine (HL.out cK K wb HSB.out.bel HSB.out.kid).mono ?_
 rintro e w6 ⟨A6, c6, rfl, ho6, hb6⟩
 obtain ⟨m6, hm6⟩ : ∃ z, z = (sgB ⟨#[40]⟩ :: (commas 1 (shs ks) ++ [sgB ⟨#[41]⟩])).length := ⟨_, rfl⟩
 have hm96 : m6 <= 900000 := by rw [hm6]; exact HLL.out
 rw [<- hm6] at ho6 |-
 have HM6 := zh hm6
 have HS6 := zh (HSB.out.below hb6)
 have HR6 := zh (own_below HRB.out hb6)
 have HX6 := zh (rdz_ow ho6 HM6.out)
 clear ho6 hb6 hm6
 go_wp2_with (at_builtin; refine wpList_app_z rfl (.tmp 81) (.tmp 84) rfl B (2) 2 m6 c6 (some ⟨w5.heap.size, 0, none⟩) A6 ([⟨1, ⟨#[99, 104, 105, 108, 100]⟩, 0, 0⟩, ⟨1, s, 0, 0⟩]) (sgB ⟨#[40]⟩ :: (commas 1 (shs ks) ++ [sgB ⟨#[41]⟩])) rfl HR6.out rfl HM6.out HX6.out (by omega) HS6.out.big ?_; intro A7 c7 w7 ho7 hg7; have HR7 := zh ho7; have HS7 := zh (HS6.out.grown HR6.out hg7); clear ho7 hg7)
 go_ret
 exact rp_of (own_mono HR7.out HS7.out.lowB) (by rw [lna, <- HM6.out]; rfl) HS7.out.bel (rfl)
theorem rb42 (N : Nat) (hE : AtR N) (hB : BlockR N) (k j : Tr) (hk : Rt 0 k ∧ k.flat.length <= N) (hj : Rt 0 j ∧ j.flat.length <= N) (l : List Tw) (A : Option Addr) (c i : Nat) (r : List Tw) (w : World) (h : Twg w l A i r ⟨42, 2, 0, bs []⟩ [k, j]) :
 Calls prog 100 #[.slice A l.length c, .int .i64 (i : Nat)] w (RP w (bareS ⟨42, 2, 0, bs []⟩ (shs [k, j]))) := by
 have HT := zh h
 obtain ⟨ha1, hi, ha2, b, off, rfl, hbl, hrg⟩ := h.at_
 have HRG : Hid (w.rangeAt b (off + i * 4) [.int .u8 42, .int .i64 2, .int .i64 0, .string (bs [])]) := zh (hrg w (Below.refl _ _))
 have HKD := zh (fun W hW => h.kids c 2 rfl W hW)
 obtain ⟨z0, hz0⟩ : ∃ z, z = i + 1 + (flats ([k, j].take 0)).length := ⟨_, rfl⟩
 have HZ0 := zh hz0
 have hz90 : z0 <= 100000 := by rw [hz0]; exact h.pos (j := 0) (k := k) rfl
 have HC0 := zh (fun W hW => h.kid hE (j := 0) (k := k) rfl hk c 8 (by omega) W hW)
 rw [<- hz0] at HC0
 have HF0 : Hid ((sh k 8).length <= 900000) := zh (Nat.le_trans (h.few (k := k) (by simp) ((few_any hk.1).1 rfl 8 (by omega))) (by omega))
 clear hz0
 obtain ⟨z1, hz1⟩ : ∃ z, z = i + 1 + (flats ([k, j].take 1)).length := ⟨_, rfl⟩
 have HZ1 := zh hz1
 have hz91 : z1 <= 100000 := by rw [hz1]; exact h.pos (j := 1) (k := j) rfl
 have HC1 := zh (fun W hW => h.kid hE (j := 1) (k := j) rfl hj c 1 (by omega) W hW)
 rw [<- hz1] at HC1
 have HF1 : Hid ((sh j 1).length <= 900000) := zh (Nat.le_trans (h.few (k := j) (by simp) ((few_any hj.1).1 rfl 1 (by omega))) (by omega))
 clear hz1
 have HL := zh (fun cK K W hW hK => h.lis1 hE (j := 1) (k := j) rfl HZ1.out hj ⟨#[91]⟩ ⟨#[93]⟩ c cK K W hW hK)
 have HLL : Hid ((sgB ⟨#[91]⟩ :: (commas 1 (shs [j]) ++ [sgB ⟨#[93]⟩])).length <= 900000) := zh (by rw [lnc, lna, List.length_singleton]; have h1 : (commas 1 (shs [j])).length <= 800000 := h.few (k := j) (by simp) ((few_any hj.1).1 rfl 1 (by omega)); omega)
 obtain ⟨q, hq⟩ := ex l.length
 have HQ := zh hq
 have hq9 : q <= 100000 := by have := h.len; omega
 rw [<- hq] at hi |-
 have a0 : (0 : Int) <= (i : Int) := by omega
 have a1 : (i : Int) < (q : Int) := by omega
 have HB0 := zh (Blk.new w 42 #[.int .u8 0, .int .i64 0, .int .i64 0, .string ⟨#[]⟩])
 have HWB := zh ((Below.refl w.heap.size w).alloc (nlr _) (.cells #[.int .u8 42, .int .i64 2, .int .i64 0, .string (bs [])] 42))
 have HWA := zh (Blk.new w 42 #[.int .u8 42, .int .i64 2, .int .i64 0, .string (bs [])])
 rw [<- HQ.out] at HKD HC0 HL
 clear h hrg hE hB hq hbl ha1 ha2
 go_in
 go_upto_region 2 with (first | (refine wpList_load_mid rfl 42 (.tmp 17) rfl b (off + i * 4) rfl [.int .u8 42, .int .i64 2, .int .i64 0, .string (bs [])] (.struct _) HRG.out underlying42 rfl (by kernel_rfl) ?_) | (refine wpList_store_row rfl 42 (.tmp 5) (.tmp 18) rfl w.heap.size #[.int .u8 42, .int .i64 2, .int .i64 0, .string (bs [])] rfl rfl 42 #[.int .u8 0, .int .i64 0, .int .i64 0, .string ⟨#[]⟩] HB0.out (by kernel_rfl) rfl (by kernel_rfl) ?_; rw [World.setRow_alloc_new]) | fail)
 clear HB0
 obtain ⟨g, hg⟩ := ex w.heap.size
 rw [<- hg] at HWA |-
 generalize w.alloc _ = wa at *
 have HG := zh hg
 clear hg
 go_wp2_with fail
 refine (HKD.out wa HWB.out).mono ?_
 rintro e w2 ⟨K, cK, rfl, hcK, hK, hKb, hb2⟩
 obtain ⟨B, hBw⟩ := ex w2.heap.size
 have HS : Hid (Bst w w2 B g ⟨42, 2, 0, bs []⟩ K [k, j] i) := zh (Bst.new (w2' := w2) (HWB.out.trans (hb2.mono HWB.out.size)) ((hb2.block _ HWA.out.lt).trans HWA.out) hK (by rw [HG.out]; exact nlr _) hBw)
 have hg2 : g < w2.heap.size := HS.out.blk.lt
 have c0 : w2.cell? ⟨g, 0, none⟩ = some (.int .u8 42) := HS.out.blk.cell 0
 have c2 : w2.cell? ⟨g, 2, none⟩ = some (.int .i64 (0)) := HS.out.blk.cell 2
 have c3 : w2.cell? ⟨g, 3, none⟩ = some (.string (bs [])) := HS.out.blk.cell 3
 have HKB := zh (ai hKb hcK)
 clear hK hKb hb2 hcK hBw
 obtain ⟨kb, ko, rfl⟩ := HS.out.place (by simp)
 have kk00 : w2.cell? ⟨kb, ko, none⟩ = some (.int .i64 (z0 : Nat)) := HS.out.kcell (j := 0) rfl HZ0.out
 go_wp2_with fail
 refine (rwidth42 _).mono ?_
 rintro e w3 ⟨rfl, hw⟩
 rw [hw]
 clear hw w3
 go_wp2_with fail
 refine (HC0.out w2 HS.out.bel).mono ?_
 rintro e w4 ⟨A4, c4, rfl, ho4, hb4⟩
 obtain ⟨m4, hm4⟩ : ∃ z, z = (sh k 8).length := ⟨_, rfl⟩
 have hm94 : m4 <= 900000 := by rw [hm4]; exact HF0.out
 rw [<- hm4] at ho4 |-
 have HM4 := zh hm4
 have HS4 := zh (HS.out.below hb4)
 have HR4 := zh (own_mono ho4 HS.out.big)
 clear ho4 hb4 hm4
 have hsl := fun W => run_kid_tail kb ko cK HKB.out.2 W
 go_wp2_with fail
 refine (HL.out (cK - 1) (some ⟨kb, ko + 1, none⟩) w4 HS4.out.bel (HS4.out.one (j := 1) rfl HZ1.out)).mono ?_
 rintro e w5 ⟨A5, c5, rfl, ho5, hb5⟩
 obtain ⟨m5, hm5⟩ : ∃ z, z = (sgB ⟨#[91]⟩ :: (commas 1 (shs [j]) ++ [sgB ⟨#[93]⟩])).length := ⟨_, rfl⟩
 have hm95 : m5 <= 900000 := by rw [hm5]; exact HLL.out
 rw [<- hm5] at ho5 |-
 have HM5 := zh hm5
 have HS5 := zh (HS4.out.below hb5)
 have HR5 := zh (own_below HR4.out hb5)
 have HX5 := zh (rdz_ow ho5 HM5.out)
 clear ho5 hb5 hm5
 go_wp2_with (at_builtin; refine wpList_app_z rfl (.tmp 108) (.tmp 112) rfl B (m4) c4 m5 c5 A4 A5 (sh k 8) (sgB ⟨#[91]⟩ :: (commas 1 (shs [j]) ++ [sgB ⟨#[93]⟩])) rfl HR5.out rfl HM5.out HX5.out (by omega) HS5.out.big ?_; intro A6 c6 w6 ho6 hg6; have HR6 := zh ho6; have HS6 := zh (HS5.out.grown HR5.out hg6); clear ho6 hg6)
 go_ret
 exact rp_of (own_mono HR6.out HS6.out.lowB) (by rw [lna, <- HM4.out, <- HM5.out]) HS6.out.bel (rfl)
theorem rwidth_any {x : Tw} {ks : List Tr} (h : Rt 0 (.node x ks)) (w : World) : Calls prog 101 #[.int .u8 (x.op : Nat)] w fun e w' => e = .returned (.int .i64 (width x.op : Nat)) ∧ w' = w := by
 cases h with
 | word h =>
  rcases h with rfl | rfl | rfl | rfl
  . exact rwidth20 w
  . exact rwidth21 w
  . exact rwidth22 w
  . exact rwidth57 w
 | int i => exact rwidth23 w
 | text s => exact rwidth24 w
 | name h => exact rwidth26 w
 | take h => exact rwidth56 w
 | list h => exact rwidth25 w
 | call ho hs h =>
  rcases ho with rfl | rfl
  . exact rwidth50 w
  . exact rwidth51 w
 | one ho h =>
  rcases ho with rfl | rfl | rfl | rfl | rfl
  . exact rwidth45 w
  . exact rwidth46 w
  . exact rwidth47 w
  . exact rwidth48 w
  . exact rwidth52 w
 | num h h2 => exact rwidth41 w
 | fork h => exact rwidth53 w
 | not h => exact rwidth43 w
 | pre ho h =>
  rcases ho with rfl | rfl | rfl
  . exact rwidth44 w
  . exact rwidth54 w
  . exact rwidth55 w
 | at_ h h2 => exact rwidth42 w
 | @cmp op k j ho h h2 =>
  have ho2 : op = 32 ∨ op = 33 ∨ op = 34 ∨ op = 35 := by omega
  rcases ho2 with rfl | rfl | rfl | rfl
  . exact rwidth32 w
  . exact rwidth33 w
  . exact rwidth34 w
  . exact rwidth35 w
 | @bin op k j ho h h2 =>
  have ho2 : op = 30 ∨ op = 31 ∨ op = 36 ∨ op = 37 ∨ op = 38 ∨ op = 39 ∨ op = 40 := by omega
  rcases ho2 with rfl | rfl | rfl | rfl | rfl | rfl | rfl
  . exact rwidth30 w
  . exact rwidth31 w
  . exact rwidth36 w
  . exact rwidth37 w
  . exact rwidth38 w
  . exact rwidth39 w
  . exact rwidth40 w
theorem rat_step (N : Nat) (hB : BareR N) : AtR N := by
 intro T hT hTN l A c i r a w hl ha hd hrd
 obtain ⟨x, ks⟩ := T
 have h : Twg w l A i r x ks := ⟨hl, hd, hrd, rt_cok hT⟩
 obtain ⟨ha1, hi, ha2, b, off, rfl, hbl, hrg⟩ := h.at_
 have HC : Hid (∀ W, Below w.heap.size w W -> W.cell? ⟨b, off + i * 4, none⟩ = some (.int .u8 (x.op : Nat))) := zh (fun W hW => hrg W hW 0 _ rfl)
 have HX := zh (hB x ks hT hTN l (some ⟨b, off, none⟩) c i r w hl hd hrd)
 have HWD := zh (fun W => rwidth_any hT W)
 have HF : Hid ((bareS x (shs ks)).length <= 900000) := zh (by
  have h1 := (few_any hT).1 rfl 0 (by omega)
  unfold Few at h1
  rw [sh_expr x ks (by omega), if_neg (by omega)] at h1
  have h2 := drop_len hd
  rw [lna] at h2
  omega)
 have HSH := zh (sh_expr x ks ha)
 have HS := zh (fun s W => rsign_v s W)
 obtain ⟨q, hq⟩ := ex l.length
 have hq9 : q <= 100000 := by omega
 rw [<- hq] at hi HX |-
 obtain ⟨v, hv⟩ := ex (width x.op)
 rw [<- hv] at HWD HSH
 obtain ⟨op, hop⟩ := ex x.op
 rw [<- hop] at HC HWD
 obtain ⟨o, ho⟩ := ex (bareS x (shs ks))
 rw [<- ho] at HX HF HSH
 have a0 : (0 : Int) <= (i : Int) := by omega
 have a1 : (i : Int) < (q : Int) := by omega
 clear hB hT hTN hd hrd h ha1 ha2 hrg hl hq hv hop ho
 by_cases hw : v < a
 . have hdd : decide ((a : Int) <= (v : Int)) = false := dqf (by omega)
   rw [HSH.out, if_pos hw]
   have hnle : ¬ a <= v := by omega
   go_in
   go_wp2_with fail
   refine HX.out.mono ?_
   rintro e w1 ⟨A1, c1, rfl, ho1, hb1⟩
   obtain ⟨m, hm⟩ := ex o.length
   have hm9 : m <= 900000 := by have := HF.out; omega
   rw [<- hm] at ho1 |-
   have H1 := zh (ai ho1 (ai hb1 hm))
   have k1 := HC.out w1 hb1
   have hb1l : b < w1.heap.size := Nat.lt_of_lt_of_le hbl hb1.size
   clear ho1 hb1 hm HX
   go_wp2_with fail
   refine (HWD.out w1).mono ?_
   rintro e w2 ⟨rfl, hw2⟩
   rw [hw2]
   clear hw2 w2
   go_wp2_with fail
   refine (HS.out ⟨#[40]⟩ w1).mono ?_
   rintro e w3 ⟨rfl, hb3⟩
   have H3 : Hid (Below w.heap.size w (w3.alloc (.cells #[.int .u8 4, .string ⟨#[40]⟩, .int .i64 0, .int .i64 0] 35)) ∧ (w3.alloc (.cells #[.int .u8 4, .string ⟨#[40]⟩, .int .i64 0, .int .i64 0] 35)).ownsRow w.heap.size 35 4 (.slice (some ⟨w3.heap.size, 0, none⟩) 1 1) 1 (rowOf zcell [sg [40]]) ∧ RdZ (w3.alloc (.cells #[.int .u8 4, .string ⟨#[40]⟩, .int .i64 0, .int .i64 0] 35)) A1 o) :=
    zh (by
     have h1 := H1.out.2.1.trans (hb3.mono H1.out.2.1.size)
     exact ⟨h1.alloc h1.size _, own_new [sg [40]] 1 _ rfl rfl h1.size (by unfold maxLen; omega), rdz_ow ((own_below H1.out.1 hb3).alloc _) H1.out.2.2⟩)
   clear hb3
   go_wp2_with (at_builtin; refine wpList_app_z rfl (.tmp 23) (.tmp 24) rfl w.heap.size 1 1 m c1 (some ⟨w3.heap.size, 0, none⟩) A1 [sg [40]] o rfl H3.out.2.1 rfl H1.out.2.2 H3.out.2.2 (by omega) H3.out.1.size ?_; intro A4 c4 w4 ho4 hg4; have H4 := zh (ai ho4 (app_below H3.out.1 H3.out.2.1 hg4 H3.out.1.size)); clear ho4 hg4)
   refine (HS.out ⟨#[41]⟩ w4).mono ?_
   rintro e w5 ⟨rfl, hb5⟩
   have H5 : Hid (Below w.heap.size w (w5.alloc (.cells #[.int .u8 4, .string ⟨#[41]⟩, .int .i64 0, .int .i64 0] 35)) ∧ (w5.alloc (.cells #[.int .u8 4, .string ⟨#[41]⟩, .int .i64 0, .int .i64 0] 35)).ownsRow w.heap.size 35 4 (.slice A4 (1 + m) c4) (1 + m) (rowOf zcell ([sg [40]] ++ o)) ∧ RdZ (w5.alloc (.cells #[.int .u8 4, .string ⟨#[41]⟩, .int .i64 0, .int .i64 0] 35)) (some ⟨w5.heap.size, 0, none⟩) [sg [41]]) :=
    zh (by
     have h1 := H4.out.2.trans (hb5.mono H4.out.2.size)
     exact ⟨h1.alloc h1.size _, (own_below H4.out.1 hb5).alloc _, rdz_one (x := sg [41]) (Blk.new w5 35 _)⟩)
   clear hb5
   go_wp2_with (at_builtin; refine wpList_app_z rfl (.tmp 26) (.tmp 28) rfl w.heap.size (1 + m) c4 1 1 A4 (some ⟨w5.heap.size, 0, none⟩) ([sg [40]] ++ o) [sg [41]] rfl H5.out.2.1 rfl rfl H5.out.2.2 (by omega) H5.out.1.size ?_; intro A6 c6 w6 ho6 hg6; have H6 := zh (ai ho6 (app_below H5.out.1 H5.out.2.1 hg6 H5.out.1.size)); clear ho6 hg6)
   go_ret
   exact rp_of H6.out.1 (by rw [lna, lna, <- H1.out.2.2]; rfl) H6.out.2 (by rw [List.append_assoc]; rfl)
 . have hdd : decide ((a : Int) <= (v : Int)) = true := dqt (by omega)
   have hdn : decide (a <= v) = true := dqt (by omega)
   rw [HSH.out, if_neg hw]
   clear hw
   go_in
   go_wp2_with fail
   refine HX.out.mono ?_
   rintro e w1 ⟨A1, c1, rfl, ho1, hb1⟩
   have H1 := zh (ai ho1 hb1)
   have k1 := HC.out w1 hb1
   have hb1l : b < w1.heap.size := Nat.lt_of_lt_of_le hbl hb1.size
   clear ho1 hb1 HX
   go_wp2_with fail
   refine (HWD.out w1).mono ?_
   rintro e w2 ⟨rfl, hw2⟩
   rw [hw2]
   clear hw2 w2
   go_wp2_with fail
   go_ret
   exact ⟨A1, c1, rfl, H1.out.1, H1.out.2⟩
theorem own_other {w w' : World} {B e s n B' e' s' n' : Nat} {v v' : Value} {xs xs' : List Value} (h : w.ownsRow B e s v n xs) (h' : w.ownsRow B' e' s' v' n' xs') (hne : e ≠ e') (hg : w.grownBy w' v'.ownBlock) : w'.ownsRow B e s v n xs := by
 refine h.kept hg ?_
 rcases h.2 with ⟨rfl, _⟩ | ⟨g, cap, cur, rfl, _, h3, _⟩
 . exact .inl rfl
 . refine .inr fun he => ?_
   rcases h'.2 with ⟨rfl, _⟩ | ⟨g', cap', cur', rfl, _, h3', _⟩
   . cases he
   . have : g = g' := Option.some.inj he
     subst this
     rw [h3] at h3'
     injection h3' with h4
     injection h4 with _ h5 _
     exact hne h5
theorem take_all (m : Nat) (ks : List Tr) {j : Nat} {k : Tr} (hk : ks[j]? = some k) : allS m (shs (ks.take (j + 1))) = allS m (shs (ks.take j)) ++ sh k m := by
 rw [take_shs ks hk]
 unfold allS
 rw [List.flatMap_append]
 simp
theorem allS_le (m : Nat) (ks : List Tr) (j : Nat) : (allS m (shs (ks.take j))).length <= (allS m (shs ks)).length := by
 have e : shs ks = shs (ks.take j) ++ shs (ks.drop j) := by rw [shs_map, shs_map, shs_map, <- List.map_append, List.take_append_drop]
 rw [e]
 unfold allS
 rw [List.flatMap_append, lna]
 omega
theorem rblock_step (N : Nat) (hE : StmtR N) : BlockR (N + 1) := by
 intro T hT hTN l A c i r w hl hd hrd
 cases hT with
 | @block ks hks =>
 have h : Twg w l A i r ⟨3, (ks.length : Nat), 0, bs []⟩ ks := ⟨hl, hd, hrd, rt_cok (.block hks)⟩
 have hkN : ∀ k ∈ ks, k.flat.length <= N := fun k hk => kid_lt hk hTN
 obtain ⟨n, hn⟩ := ex ks.length
 have hal : (allS 11 (shs ks)).length <= 800000 := by
  have h1 := few_all (m := 11) (ks := ks) (fun k hk => (few_any (hks k hk)).2.2 rfl)
  have h2 := drop_len h.at_.2.2.1
  rw [lna] at h2
  omega
 have HKD := zh (fun W (hW : Below w.heap.size w W) => refKids_any ⟨3, (ks.length : Nat), 0, bs []⟩ ks A c i l r W hl h.cok hd (rdw_of (hrd.below hW)))
 have HH := zh (ai h (ai hks (ai hkN (ai hn hal))))
 have HE : Hid (∀ (j : Nat) (k : Tr), ks[j]? = some k -> ∀ W, Below w.heap.size w W -> Calls prog 103 #[.slice A l.length c, .int .i64 ((i + 1 + (flats (ks.take j)).length : Nat) : Int)] W (RP W (sh k 11))) := zh (fun j k hk W hW =>
  hE k (hks k (List.mem_of_getElem? hk)) (hkN k (List.mem_of_getElem? hk)) l A c _ _ W hl (drop_kid h.at_.2.2.1 hk) (hrd.below hW))
 have HS := zh (fun s W => rsign_v s W)
 have hn9 : n <= 100000 := by
  have h1 := len_flats ks
  have h2 := drop_len h.at_.2.2.1
  rw [lna] at h2
  omega
 have HSH : Hid (sh (.node ⟨3, (ks.length : Nat), 0, bs []⟩ ks) 10 = sg [123] :: (allS 11 (shs ks) ++ [sg [125]])) := zh rfl
 rw [HSH.out]
 obtain ⟨q, hq⟩ := ex l.length
 rw [<- hq] at HKD HE |-
 rw [<- hn] at HKD
 clear hE hTN hl hd hrd h hks hkN hn hal hq
 go_in
 go_wp2_with fail
 refine (HS.out ⟨#[123]⟩ w).mono ?_
 rintro e w1 ⟨rfl, hb1⟩
 have H1 : Hid (Below w.heap.size w (w1.alloc (.cells #[.int .u8 4, .string ⟨#[123]⟩, .int .i64 0, .int .i64 0] 35)) ∧ (w1.alloc (.cells #[.int .u8 4, .string ⟨#[123]⟩, .int .i64 0, .int .i64 0] 35)).ownsRow w.heap.size 35 4 (.slice (some ⟨w1.heap.size, 0, none⟩) 1 1) 1 (rowOf zcell [sg [123]])) :=
  zh ⟨hb1.alloc hb1.size _, own_new [sg [123]] 1 _ rfl rfl hb1.size (by unfold maxLen; omega)⟩
 clear hb1
 go_upto_region 2 with fail
 generalize w1.alloc _ = wa at *
 go_wp2_with fail
 refine (HKD.out wa H1.out.1).mono ?_
 rintro e w2 ⟨⟨K, cK, rfl, hoK⟩, hb2⟩
 have H2 : Hid (Below w.heap.size w w2 ∧ w2.ownsRow w.heap.size 35 4 (.slice (some ⟨w1.heap.size, 0, none⟩) 1 1) 1 (rowOf zcell [sg [123]]) ∧ w2.ownsRow w.heap.size 3 1 (.slice K n cK) n (ncells (posL (i + 1) ks))) :=
  zh ⟨H1.out.1.trans (hb2.mono H1.out.1.size), own_below H1.out.2 hb2, own_mono hoK H1.out.1.size⟩
 clear hoK hb2 HKD
 go_wp2_with fail
 go_loopw [5, 7] (fun s5 s7 wr => ∃ (j m c1 : Nat) (A1 : Option Addr), s5 = .slice A1 m c1 ∧ s7 = .int .i64 (j : Nat) ∧ j <= n ∧ m = (allS 11 (shs (ks.take j))).length + 1 ∧ wr.ownsRow w.heap.size 35 4 (.slice A1 m c1) m (rowOf zcell (sg [123] :: allS 11 (shs (ks.take j)))) ∧ Below w.heap.size w wr ∧ wr.ownsRow w.heap.size 3 1 (.slice K n cK) n (ncells (posL (i + 1) ks))) (fun _ s7 _ => n - (intOf s7).toNat)
 case atStart => exact ⟨0, 1, 1, some ⟨w1.heap.size, 0, none⟩, rfl, rfl, by omega, by rw [List.take_zero, shs]; rfl, by rw [List.take_zero, shs]; exact H2.out.2.1, H2.out.1, H2.out.2.2⟩
 case round =>
  obtain ⟨j, m, c1, A1, rfl, rfl, hj, hm, ho, hb, hoK⟩ := hrel
  have HO := zh (ai ho (ai hb (ai hm hoK)))
  have hm9 : m <= 900000 := by
   have := allS_le 11 ks j
   have := HH.out.2.2.2.2
   omega
  clear ho hb hm hoK
  by_cases hlt : j < n
  . have hdd : decide ((j : Int) < (n : Int)) = true := dqt (by omega)
    obtain ⟨k, hk⟩ : ∃ k, ks[j]? = some k := by
     have : j < ks.length := by rw [<- HH.out.2.2.2.1]; exact hlt
     exact ⟨_, List.getElem?_eq_getElem this⟩
    have HK := zh hk
    obtain ⟨b, off, rfl, hbl, hcell⟩ := kid_read (rdn_own HO.out.2.2.2 (by rw [posL_length]; exact HH.out.2.2.2.1)) hk
    obtain ⟨z, hz⟩ := ex (i + 1 + (flats (ks.take j)).length)
    rw [<- hz] at hcell
    have hz9 : z <= 100000 := by rw [hz]; exact HH.out.1.pos hk
    have HX := zh (HE.out j k hk wr HO.out.2.1)
    rw [<- hz] at HX
    have HKL : Hid ((sh k 11).length <= 800000) := zh (HH.out.1.few (List.mem_of_getElem? hk) ((few_any (HH.out.2.1 k (List.mem_of_getElem? hk))).2.2 rfl))
    have HCM := zh (take_all 11 ks hk)
    clear hz hk
    go_wp2_with fail
    refine HX.out.mono ?_
    rintro e w3 ⟨A3, c3, rfl, ho3, hb3⟩
    obtain ⟨m3, hm3⟩ : ∃ z, z = (sh k 11).length := ⟨_, rfl⟩
    have hm39 : m3 <= 800000 := by have := HKL.out; omega
    rw [<- hm3] at ho3 |-
    have H3 : Hid (Below w.heap.size w w3 ∧ w3.ownsRow w.heap.size 35 4 (.slice A1 m c1) m (rowOf zcell (sg [123] :: allS 11 (shs (ks.take j)))) ∧ RdZ w3 A3 (sh k 11) ∧ w3.ownsRow w.heap.size 3 1 (.slice (some ⟨b, off, none⟩) n cK) n (ncells (posL (i + 1) ks)) ∧ m3 = (sh k 11).length) :=
     zh ⟨HO.out.2.1.trans (hb3.mono HO.out.2.1.size), own_below HO.out.1 hb3, rdz_ow ho3 hm3, own_below HO.out.2.2.2 hb3, hm3⟩
    clear ho3 hb3 hm3 HX
    go_wp2_with (at_builtin; refine wpList_app_z rfl (.tmp 19) (.tmp 25) rfl w.heap.size m c1 m3 c3 A1 A3 (sg [123] :: allS 11 (shs (ks.take j))) (sh k 11) rfl H3.out.2.1 rfl H3.out.2.2.2.2 H3.out.2.2.1 (by omega) H3.out.1.size ?_; intro A4 c4 w4 ho4 hg4; have H4 := zh (ai ho4 (ai (app_below H3.out.1 H3.out.2.1 hg4 H3.out.1.size) (own_other H3.out.2.2.2.1 H3.out.2.1 (by decide) hg4))); clear ho4 hg4)
    go_roundw
    case rel => exact ⟨j + 1, m + m3, c4, A4, rfl, by go_num, by omega, by rw [HCM.out, lna, <- H3.out.2.2.2.2]; have := HO.out.2.2.1; omega, by rw [HCM.out]; exact H4.out.1, H4.out.2.1, H4.out.2.2⟩
    case measure => simp [intOf]; omega
  . have hdd : decide ((j : Int) < (n : Int)) = false := dqf (by omega)
    have HF : Hid (ks.take j = ks) := zh (List.take_of_length_le (by rw [<- HH.out.2.2.2.1]; omega))
    rw [HF.out] at HO
    have HSG := zh (fun W => HS.out ⟨#[125]⟩ W)
    go_wp2_with fail
    refine (HSG.out wr).mono ?_
    rintro e w2 ⟨rfl, hb2⟩
    have H2 : Hid (Below w.heap.size w (w2.alloc (.cells #[.int .u8 4, .string ⟨#[125]⟩, .int .i64 0, .int .i64 0] 35)) ∧ (w2.alloc (.cells #[.int .u8 4, .string ⟨#[125]⟩, .int .i64 0, .int .i64 0] 35)).ownsRow w.heap.size 35 4 (.slice A1 m c1) m (rowOf zcell (sg [123] :: allS 11 (shs ks))) ∧ RdZ (w2.alloc (.cells #[.int .u8 4, .string ⟨#[125]⟩, .int .i64 0, .int .i64 0] 35)) (some ⟨w2.heap.size, 0, none⟩) [sg [125]]) :=
     zh (by
      have h1 := HO.out.2.1.trans (hb2.mono HO.out.2.1.size)
      exact ⟨h1.alloc h1.size _, (own_below HO.out.1 hb2).alloc _, rdz_one (x := sg [125]) (Blk.new w2 35 _)⟩)
    clear hb2
    go_wp2_with (at_builtin; refine wpList_app_z rfl (.tmp 27) (.tmp 29) rfl w.heap.size m c1 1 1 A1 (some ⟨w2.heap.size, 0, none⟩) (sg [123] :: allS 11 (shs ks)) [sg [125]] rfl H2.out.2.1 rfl rfl H2.out.2.2 (by omega) H2.out.1.size ?_; intro A5 c5 w5 ho5 hg5; have H5 := zh (ai ho5 (app_below H2.out.1 H2.out.2.1 hg5 H2.out.1.size)); clear ho5 hg5)
    go_ret
    exact rp_of H5.out.1 (by rw [lna, lnc, List.length_singleton]; have := HO.out.2.2.1; omega) H5.out.2 rfl
theorem rs8 (N : Nat) (hE : AtR N) (hB : BlockR N) (k : Tr) (hk : Rt 0 k ∧ k.flat.length <= N) (l : List Tw) (A : Option Addr) (c i : Nat) (r : List Tw) (w : World) (h : Twg w l A i r ⟨8, 1, 0, bs []⟩ [k]) :
 Calls prog 103 #[.slice A l.length c, .int .i64 (i : Nat)] w (RP w (sh (.node ⟨8, 1, 0, bs []⟩ [k]) 11)) := by
 have HT := zh h
 obtain ⟨ha1, hi, ha2, b, off, rfl, hbl, hrg⟩ := h.at_
 have HRG : Hid (w.rangeAt b (off + i * 4) [.int .u8 8, .int .i64 1, .int .i64 0, .string (bs [])]) := zh (hrg w (Below.refl _ _))
 have HKD := zh (fun W hW => h.kids c 1 rfl W hW)
 have HM := zh mark8
 obtain ⟨z0, hz0⟩ : ∃ z, z = i + 1 + (flats ([k].take 0)).length := ⟨_, rfl⟩
 have HZ0 := zh hz0
 have hz90 : z0 <= 100000 := by rw [hz0]; exact h.pos (j := 0) (k := k) rfl
 have HC0 := zh (fun W hW => h.kid hE (j := 0) (k := k) rfl hk c 1 (by omega) W hW)
 rw [<- hz0] at HC0
 have HF0 : Hid ((sh k 1).length <= 900000) := zh (Nat.le_trans (h.few (k := k) (by simp) ((few_any hk.1).1 rfl 1 (by omega))) (by omega))
 clear hz0
 obtain ⟨q, hq⟩ := ex l.length
 have HQ := zh hq
 have hq9 : q <= 100000 := by have := h.len; omega
 rw [<- hq] at hi |-
 have a0 : (0 : Int) <= (i : Int) := by omega
 have a1 : (i : Int) < (q : Int) := by omega
 have HB0 := zh (Blk.new w 42 #[.int .u8 0, .int .i64 0, .int .i64 0, .string ⟨#[]⟩])
 have HWB := zh ((Below.refl w.heap.size w).alloc (nlr _) (.cells #[.int .u8 8, .int .i64 1, .int .i64 0, .string (bs [])] 42))
 have HWA := zh (Blk.new w 42 #[.int .u8 8, .int .i64 1, .int .i64 0, .string (bs [])])
 rw [<- HQ.out] at HKD HC0
 clear h hrg hE hB hq hbl ha1 ha2
 go_in
 go_upto_region 2 with (first | (refine wpList_load_mid rfl 42 (.tmp 10) rfl b (off + i * 4) rfl [.int .u8 8, .int .i64 1, .int .i64 0, .string (bs [])] (.struct _) HRG.out underlying42 rfl (by kernel_rfl) ?_) | (refine wpList_store_row rfl 42 (.tmp 5) (.tmp 11) rfl w.heap.size #[.int .u8 8, .int .i64 1, .int .i64 0, .string (bs [])] rfl rfl 42 #[.int .u8 0, .int .i64 0, .int .i64 0, .string ⟨#[]⟩] HB0.out (by kernel_rfl) rfl (by kernel_rfl) ?_; rw [World.setRow_alloc_new]) | fail)
 clear HB0
 obtain ⟨g, hg⟩ := ex w.heap.size
 rw [<- hg] at HWA |-
 generalize w.alloc _ = wa at *
 have HG := zh hg
 clear hg
 go_wp2_with fail
 refine (HKD.out wa HWB.out).mono ?_
 rintro e w2 ⟨K, cK, rfl, hcK, hK, hKb, hb2⟩
 obtain ⟨B, hBw⟩ := ex w2.heap.size
 have HS : Hid (Bst w w2 B g ⟨8, 1, 0, bs []⟩ K [k] i) := zh (Bst.new (w2' := w2) (HWB.out.trans (hb2.mono HWB.out.size)) ((hb2.block _ HWA.out.lt).trans HWA.out) hK (by rw [HG.out]; exact nlr _) hBw)
 have hg2 : g < w2.heap.size := HS.out.blk.lt
 have c0 : w2.cell? ⟨g, 0, none⟩ = some (.int .u8 8) := HS.out.blk.cell 0
 have c2 : w2.cell? ⟨g, 2, none⟩ = some (.int .i64 (0)) := HS.out.blk.cell 2
 have c3 : w2.cell? ⟨g, 3, none⟩ = some (.string (bs [])) := HS.out.blk.cell 3
 have HKB := zh (ai hKb hcK)
 clear hK hKb hb2 hcK hBw
 obtain ⟨kb, ko, rfl⟩ := HS.out.place (by simp)
 go_wp2_with fail
 have HN0 : Hid (w2.ownsRow B 35 4 (.slice none 0 0) 0 (rowOf zcell [])) := zh (World.ownsRow_nil _ _ _ _)
 refine (HM.out w2).mono ?_
 rintro e w4 ⟨rfl, hb4⟩
 have HS4 := zh (HS.out.below hb4)
 have HR4 := zh (own_below HN0.out hb4)
 clear hb4
 have HX5 : Hid ((w4.alloc (.cells #[.int .u8 1, .string (⟨#[114, 101, 116, 117, 114, 110]⟩), .int .i64 0, .int .i64 0] 35)).ownsRow B 35 4 (.slice none (0) 0) (0) (rowOf zcell ([])) ∧ RdZ (w4.alloc (.cells #[.int .u8 1, .string (⟨#[114, 101, 116, 117, 114, 110]⟩), .int .i64 0, .int .i64 0] 35)) (some ⟨w4.heap.size, 0, none⟩) [⟨1, ⟨#[114, 101, 116, 117, 114, 110]⟩, 0, 0⟩]) := zh ⟨HR4.out.alloc _, rdz_ow (own_new [⟨1, ⟨#[114, 101, 116, 117, 114, 110]⟩, 0, 0⟩] 1 _ rfl rfl (nlr _) (by unfold maxLen; omega)) rfl⟩
 have HA5 := zh (HS4.out.alloc (.cells #[.int .u8 1, .string (⟨#[114, 101, 116, 117, 114, 110]⟩), .int .i64 0, .int .i64 0] 35))
 go_wp2_with (at_builtin; refine wpList_app_z rfl (.tmp 17) (.tmp 21) rfl B (0) 0 1 1 none (some ⟨w4.heap.size, 0, none⟩) ([]) [⟨1, ⟨#[114, 101, 116, 117, 114, 110]⟩, 0, 0⟩] rfl HX5.out.1 rfl rfl HX5.out.2 (by omega) HA5.out.big ?_; intro A5 c5 w5 ho5 hg5; have HR5 := zh ho5; have HS5 := zh (HA5.out.grown HX5.out.1 hg5); clear ho5 hg5; have kk50 : w5.cell? ⟨kb, ko, none⟩ = some (.int .i64 (z0 : Nat)) := HS5.out.kcell (j := 0) rfl HZ0.out)
 refine (HC0.out w5 HS5.out.bel).mono ?_
 rintro e w6 ⟨A6, c6, rfl, ho6, hb6⟩
 obtain ⟨m6, hm6⟩ : ∃ z, z = (sh k 1).length := ⟨_, rfl⟩
 have hm96 : m6 <= 900000 := by rw [hm6]; exact HF0.out
 rw [<- hm6] at ho6 |-
 have HM6 := zh hm6
 have HS6 := zh (HS5.out.below hb6)
 have HR6 := zh (own_below HR5.out hb6)
 have HX6 := zh (rdz_ow ho6 HM6.out)
 clear ho6 hb6 hm6
 go_wp2_with (at_builtin; refine wpList_app_z rfl (.tmp 54) (.tmp 59) rfl B (1) c5 m6 c6 A5 A6 ([] ++ [⟨1, ⟨#[114, 101, 116, 117, 114, 110]⟩, 0, 0⟩]) (sh k 1) rfl HR6.out rfl HM6.out HX6.out (by omega) HS6.out.big ?_; intro A7 c7 w7 ho7 hg7; have HR7 := zh ho7; have HS7 := zh (HS6.out.grown HR6.out hg7); clear ho7 hg7)
 go_ret
 exact rp_of (own_mono HR7.out HS7.out.lowB) (by simp only [lna, lnc, lnn, <- HM6.out]) HS7.out.bel (rfl)
theorem rs9 (N : Nat) (hE : AtR N) (hB : BlockR N) (k : Tr) (hk : Rt 0 k ∧ k.flat.length <= N) (l : List Tw) (A : Option Addr) (c i : Nat) (r : List Tw) (w : World) (h : Twg w l A i r ⟨9, 1, 0, bs []⟩ [k]) :
 Calls prog 103 #[.slice A l.length c, .int .i64 (i : Nat)] w (RP w (sh (.node ⟨9, 1, 0, bs []⟩ [k]) 11)) := by
 have HT := zh h
 obtain ⟨ha1, hi, ha2, b, off, rfl, hbl, hrg⟩ := h.at_
 have HRG : Hid (w.rangeAt b (off + i * 4) [.int .u8 9, .int .i64 1, .int .i64 0, .string (bs [])]) := zh (hrg w (Below.refl _ _))
 have HKD := zh (fun W hW => h.kids c 1 rfl W hW)
 have HM := zh mark9
 obtain ⟨z0, hz0⟩ : ∃ z, z = i + 1 + (flats ([k].take 0)).length := ⟨_, rfl⟩
 have HZ0 := zh hz0
 have hz90 : z0 <= 100000 := by rw [hz0]; exact h.pos (j := 0) (k := k) rfl
 have HC0 := zh (fun W hW => h.kid hE (j := 0) (k := k) rfl hk c 1 (by omega) W hW)
 rw [<- hz0] at HC0
 have HF0 : Hid ((sh k 1).length <= 900000) := zh (Nat.le_trans (h.few (k := k) (by simp) ((few_any hk.1).1 rfl 1 (by omega))) (by omega))
 clear hz0
 obtain ⟨q, hq⟩ := ex l.length
 have HQ := zh hq
 have hq9 : q <= 100000 := by have := h.len; omega
 rw [<- hq] at hi |-
 have a0 : (0 : Int) <= (i : Int) := by omega
 have a1 : (i : Int) < (q : Int) := by omega
 have HB0 := zh (Blk.new w 42 #[.int .u8 0, .int .i64 0, .int .i64 0, .string ⟨#[]⟩])
 have HWB := zh ((Below.refl w.heap.size w).alloc (nlr _) (.cells #[.int .u8 9, .int .i64 1, .int .i64 0, .string (bs [])] 42))
 have HWA := zh (Blk.new w 42 #[.int .u8 9, .int .i64 1, .int .i64 0, .string (bs [])])
 rw [<- HQ.out] at HKD HC0
 clear h hrg hE hB hq hbl ha1 ha2
 go_in
 go_upto_region 2 with (first | (refine wpList_load_mid rfl 42 (.tmp 10) rfl b (off + i * 4) rfl [.int .u8 9, .int .i64 1, .int .i64 0, .string (bs [])] (.struct _) HRG.out underlying42 rfl (by kernel_rfl) ?_) | (refine wpList_store_row rfl 42 (.tmp 5) (.tmp 11) rfl w.heap.size #[.int .u8 9, .int .i64 1, .int .i64 0, .string (bs [])] rfl rfl 42 #[.int .u8 0, .int .i64 0, .int .i64 0, .string ⟨#[]⟩] HB0.out (by kernel_rfl) rfl (by kernel_rfl) ?_; rw [World.setRow_alloc_new]) | fail)
 clear HB0
 obtain ⟨g, hg⟩ := ex w.heap.size
 rw [<- hg] at HWA |-
 generalize w.alloc _ = wa at *
 have HG := zh hg
 clear hg
 go_wp2_with fail
 refine (HKD.out wa HWB.out).mono ?_
 rintro e w2 ⟨K, cK, rfl, hcK, hK, hKb, hb2⟩
 obtain ⟨B, hBw⟩ := ex w2.heap.size
 have HS : Hid (Bst w w2 B g ⟨9, 1, 0, bs []⟩ K [k] i) := zh (Bst.new (w2' := w2) (HWB.out.trans (hb2.mono HWB.out.size)) ((hb2.block _ HWA.out.lt).trans HWA.out) hK (by rw [HG.out]; exact nlr _) hBw)
 have hg2 : g < w2.heap.size := HS.out.blk.lt
 have c0 : w2.cell? ⟨g, 0, none⟩ = some (.int .u8 9) := HS.out.blk.cell 0
 have c2 : w2.cell? ⟨g, 2, none⟩ = some (.int .i64 (0)) := HS.out.blk.cell 2
 have c3 : w2.cell? ⟨g, 3, none⟩ = some (.string (bs [])) := HS.out.blk.cell 3
 have HKB := zh (ai hKb hcK)
 clear hK hKb hb2 hcK hBw
 obtain ⟨kb, ko, rfl⟩ := HS.out.place (by simp)
 go_wp2_with fail
 have HN0 : Hid (w2.ownsRow B 35 4 (.slice none 0 0) 0 (rowOf zcell [])) := zh (World.ownsRow_nil _ _ _ _)
 refine (HM.out w2).mono ?_
 rintro e w4 ⟨rfl, hb4⟩
 have HS4 := zh (HS.out.below hb4)
 have HR4 := zh (own_below HN0.out hb4)
 clear hb4
 have HX5 : Hid ((w4.alloc (.cells #[.int .u8 1, .string (⟨#[102, 97, 105, 108]⟩), .int .i64 0, .int .i64 0] 35)).ownsRow B 35 4 (.slice none (0) 0) (0) (rowOf zcell ([])) ∧ RdZ (w4.alloc (.cells #[.int .u8 1, .string (⟨#[102, 97, 105, 108]⟩), .int .i64 0, .int .i64 0] 35)) (some ⟨w4.heap.size, 0, none⟩) [⟨1, ⟨#[102, 97, 105, 108]⟩, 0, 0⟩]) := zh ⟨HR4.out.alloc _, rdz_ow (own_new [⟨1, ⟨#[102, 97, 105, 108]⟩, 0, 0⟩] 1 _ rfl rfl (nlr _) (by unfold maxLen; omega)) rfl⟩
 have HA5 := zh (HS4.out.alloc (.cells #[.int .u8 1, .string (⟨#[102, 97, 105, 108]⟩), .int .i64 0, .int .i64 0] 35))
 go_wp2_with (at_builtin; refine wpList_app_z rfl (.tmp 17) (.tmp 21) rfl B (0) 0 1 1 none (some ⟨w4.heap.size, 0, none⟩) ([]) [⟨1, ⟨#[102, 97, 105, 108]⟩, 0, 0⟩] rfl HX5.out.1 rfl rfl HX5.out.2 (by omega) HA5.out.big ?_; intro A5 c5 w5 ho5 hg5; have HR5 := zh ho5; have HS5 := zh (HA5.out.grown HX5.out.1 hg5); clear ho5 hg5; have kk50 : w5.cell? ⟨kb, ko, none⟩ = some (.int .i64 (z0 : Nat)) := HS5.out.kcell (j := 0) rfl HZ0.out)
 refine (HC0.out w5 HS5.out.bel).mono ?_
 rintro e w6 ⟨A6, c6, rfl, ho6, hb6⟩
 obtain ⟨m6, hm6⟩ : ∃ z, z = (sh k 1).length := ⟨_, rfl⟩
 have hm96 : m6 <= 900000 := by rw [hm6]; exact HF0.out
 rw [<- hm6] at ho6 |-
 have HM6 := zh hm6
 have HS6 := zh (HS5.out.below hb6)
 have HR6 := zh (own_below HR5.out hb6)
 have HX6 := zh (rdz_ow ho6 HM6.out)
 clear ho6 hb6 hm6
 go_wp2_with (at_builtin; refine wpList_app_z rfl (.tmp 54) (.tmp 59) rfl B (1) c5 m6 c6 A5 A6 ([] ++ [⟨1, ⟨#[102, 97, 105, 108]⟩, 0, 0⟩]) (sh k 1) rfl HR6.out rfl HM6.out HX6.out (by omega) HS6.out.big ?_; intro A7 c7 w7 ho7 hg7; have HR7 := zh ho7; have HS7 := zh (HS6.out.grown HR6.out hg7); clear ho7 hg7)
 go_ret
 exact rp_of (own_mono HR7.out HS7.out.lowB) (by simp only [lna, lnc, lnn, <- HM6.out]) HS7.out.bel (rfl)
theorem rs10 (N : Nat) (hE : AtR N) (hB : BlockR N) (k : Tr) (hk : Rt 0 k ∧ k.flat.length <= N) (l : List Tw) (A : Option Addr) (c i : Nat) (r : List Tw) (w : World) (h : Twg w l A i r ⟨10, 1, 0, bs []⟩ [k]) :
 Calls prog 103 #[.slice A l.length c, .int .i64 (i : Nat)] w (RP w (sh (.node ⟨10, 1, 0, bs []⟩ [k]) 11)) := by
 have HT := zh h
 obtain ⟨ha1, hi, ha2, b, off, rfl, hbl, hrg⟩ := h.at_
 have HRG : Hid (w.rangeAt b (off + i * 4) [.int .u8 10, .int .i64 1, .int .i64 0, .string (bs [])]) := zh (hrg w (Below.refl _ _))
 have HKD := zh (fun W hW => h.kids c 1 rfl W hW)
 have HM := zh mark10
 obtain ⟨z0, hz0⟩ : ∃ z, z = i + 1 + (flats ([k].take 0)).length := ⟨_, rfl⟩
 have HZ0 := zh hz0
 have hz90 : z0 <= 100000 := by rw [hz0]; exact h.pos (j := 0) (k := k) rfl
 have HC0 := zh (fun W hW => h.kid hE (j := 0) (k := k) rfl hk c 1 (by omega) W hW)
 rw [<- hz0] at HC0
 have HF0 : Hid ((sh k 1).length <= 900000) := zh (Nat.le_trans (h.few (k := k) (by simp) ((few_any hk.1).1 rfl 1 (by omega))) (by omega))
 clear hz0
 obtain ⟨q, hq⟩ := ex l.length
 have HQ := zh hq
 have hq9 : q <= 100000 := by have := h.len; omega
 rw [<- hq] at hi |-
 have a0 : (0 : Int) <= (i : Int) := by omega
 have a1 : (i : Int) < (q : Int) := by omega
 have HB0 := zh (Blk.new w 42 #[.int .u8 0, .int .i64 0, .int .i64 0, .string ⟨#[]⟩])
 have HWB := zh ((Below.refl w.heap.size w).alloc (nlr _) (.cells #[.int .u8 10, .int .i64 1, .int .i64 0, .string (bs [])] 42))
 have HWA := zh (Blk.new w 42 #[.int .u8 10, .int .i64 1, .int .i64 0, .string (bs [])])
 rw [<- HQ.out] at HKD HC0
 clear h hrg hE hB hq hbl ha1 ha2
 go_in
 go_upto_region 2 with (first | (refine wpList_load_mid rfl 42 (.tmp 10) rfl b (off + i * 4) rfl [.int .u8 10, .int .i64 1, .int .i64 0, .string (bs [])] (.struct _) HRG.out underlying42 rfl (by kernel_rfl) ?_) | (refine wpList_store_row rfl 42 (.tmp 5) (.tmp 11) rfl w.heap.size #[.int .u8 10, .int .i64 1, .int .i64 0, .string (bs [])] rfl rfl 42 #[.int .u8 0, .int .i64 0, .int .i64 0, .string ⟨#[]⟩] HB0.out (by kernel_rfl) rfl (by kernel_rfl) ?_; rw [World.setRow_alloc_new]) | fail)
 clear HB0
 obtain ⟨g, hg⟩ := ex w.heap.size
 rw [<- hg] at HWA |-
 generalize w.alloc _ = wa at *
 have HG := zh hg
 clear hg
 go_wp2_with fail
 refine (HKD.out wa HWB.out).mono ?_
 rintro e w2 ⟨K, cK, rfl, hcK, hK, hKb, hb2⟩
 obtain ⟨B, hBw⟩ := ex w2.heap.size
 have HS : Hid (Bst w w2 B g ⟨10, 1, 0, bs []⟩ K [k] i) := zh (Bst.new (w2' := w2) (HWB.out.trans (hb2.mono HWB.out.size)) ((hb2.block _ HWA.out.lt).trans HWA.out) hK (by rw [HG.out]; exact nlr _) hBw)
 have hg2 : g < w2.heap.size := HS.out.blk.lt
 have c0 : w2.cell? ⟨g, 0, none⟩ = some (.int .u8 10) := HS.out.blk.cell 0
 have c2 : w2.cell? ⟨g, 2, none⟩ = some (.int .i64 (0)) := HS.out.blk.cell 2
 have c3 : w2.cell? ⟨g, 3, none⟩ = some (.string (bs [])) := HS.out.blk.cell 3
 have HKB := zh (ai hKb hcK)
 clear hK hKb hb2 hcK hBw
 obtain ⟨kb, ko, rfl⟩ := HS.out.place (by simp)
 go_wp2_with fail
 have HN0 : Hid (w2.ownsRow B 35 4 (.slice none 0 0) 0 (rowOf zcell [])) := zh (World.ownsRow_nil _ _ _ _)
 refine (HM.out w2).mono ?_
 rintro e w4 ⟨rfl, hb4⟩
 have HS4 := zh (HS.out.below hb4)
 have HR4 := zh (own_below HN0.out hb4)
 clear hb4
 have HX5 : Hid ((w4.alloc (.cells #[.int .u8 1, .string (⟨#[115, 108, 101, 101, 112]⟩), .int .i64 0, .int .i64 0] 35)).ownsRow B 35 4 (.slice none (0) 0) (0) (rowOf zcell ([])) ∧ RdZ (w4.alloc (.cells #[.int .u8 1, .string (⟨#[115, 108, 101, 101, 112]⟩), .int .i64 0, .int .i64 0] 35)) (some ⟨w4.heap.size, 0, none⟩) [⟨1, ⟨#[115, 108, 101, 101, 112]⟩, 0, 0⟩]) := zh ⟨HR4.out.alloc _, rdz_ow (own_new [⟨1, ⟨#[115, 108, 101, 101, 112]⟩, 0, 0⟩] 1 _ rfl rfl (nlr _) (by unfold maxLen; omega)) rfl⟩
 have HA5 := zh (HS4.out.alloc (.cells #[.int .u8 1, .string (⟨#[115, 108, 101, 101, 112]⟩), .int .i64 0, .int .i64 0] 35))
 go_wp2_with (at_builtin; refine wpList_app_z rfl (.tmp 17) (.tmp 21) rfl B (0) 0 1 1 none (some ⟨w4.heap.size, 0, none⟩) ([]) [⟨1, ⟨#[115, 108, 101, 101, 112]⟩, 0, 0⟩] rfl HX5.out.1 rfl rfl HX5.out.2 (by omega) HA5.out.big ?_; intro A5 c5 w5 ho5 hg5; have HR5 := zh ho5; have HS5 := zh (HA5.out.grown HX5.out.1 hg5); clear ho5 hg5; have kk50 : w5.cell? ⟨kb, ko, none⟩ = some (.int .i64 (z0 : Nat)) := HS5.out.kcell (j := 0) rfl HZ0.out)
 refine (HC0.out w5 HS5.out.bel).mono ?_
 rintro e w6 ⟨A6, c6, rfl, ho6, hb6⟩
 obtain ⟨m6, hm6⟩ : ∃ z, z = (sh k 1).length := ⟨_, rfl⟩
 have hm96 : m6 <= 900000 := by rw [hm6]; exact HF0.out
 rw [<- hm6] at ho6 |-
 have HM6 := zh hm6
 have HS6 := zh (HS5.out.below hb6)
 have HR6 := zh (own_below HR5.out hb6)
 have HX6 := zh (rdz_ow ho6 HM6.out)
 clear ho6 hb6 hm6
 go_wp2_with (at_builtin; refine wpList_app_z rfl (.tmp 54) (.tmp 59) rfl B (1) c5 m6 c6 A5 A6 ([] ++ [⟨1, ⟨#[115, 108, 101, 101, 112]⟩, 0, 0⟩]) (sh k 1) rfl HR6.out rfl HM6.out HX6.out (by omega) HS6.out.big ?_; intro A7 c7 w7 ho7 hg7; have HR7 := zh ho7; have HS7 := zh (HS6.out.grown HR6.out hg7); clear ho7 hg7)
 go_ret
 exact rp_of (own_mono HR7.out HS7.out.lowB) (by simp only [lna, lnc, lnn, <- HM6.out]) HS7.out.bel (rfl)
theorem rs11 (N : Nat) (hE : AtR N) (hB : BlockR N) (k : Tr) (hk : Rt 0 k ∧ k.flat.length <= N) (l : List Tw) (A : Option Addr) (c i : Nat) (r : List Tw) (w : World) (h : Twg w l A i r ⟨11, 1, 0, bs []⟩ [k]) :
 Calls prog 103 #[.slice A l.length c, .int .i64 (i : Nat)] w (RP w (sh (.node ⟨11, 1, 0, bs []⟩ [k]) 11)) := by
 have HT := zh h
 obtain ⟨ha1, hi, ha2, b, off, rfl, hbl, hrg⟩ := h.at_
 have HRG : Hid (w.rangeAt b (off + i * 4) [.int .u8 11, .int .i64 1, .int .i64 0, .string (bs [])]) := zh (hrg w (Below.refl _ _))
 have HKD := zh (fun W hW => h.kids c 1 rfl W hW)
 have HM := zh mark11
 obtain ⟨z0, hz0⟩ : ∃ z, z = i + 1 + (flats ([k].take 0)).length := ⟨_, rfl⟩
 have HZ0 := zh hz0
 have hz90 : z0 <= 100000 := by rw [hz0]; exact h.pos (j := 0) (k := k) rfl
 have HC0 := zh (fun W hW => h.kid hE (j := 0) (k := k) rfl hk c 1 (by omega) W hW)
 rw [<- hz0] at HC0
 have HF0 : Hid ((sh k 1).length <= 900000) := zh (Nat.le_trans (h.few (k := k) (by simp) ((few_any hk.1).1 rfl 1 (by omega))) (by omega))
 clear hz0
 obtain ⟨q, hq⟩ := ex l.length
 have HQ := zh hq
 have hq9 : q <= 100000 := by have := h.len; omega
 rw [<- hq] at hi |-
 have a0 : (0 : Int) <= (i : Int) := by omega
 have a1 : (i : Int) < (q : Int) := by omega
 have HB0 := zh (Blk.new w 42 #[.int .u8 0, .int .i64 0, .int .i64 0, .string ⟨#[]⟩])
 have HWB := zh ((Below.refl w.heap.size w).alloc (nlr _) (.cells #[.int .u8 11, .int .i64 1, .int .i64 0, .string (bs [])] 42))
 have HWA := zh (Blk.new w 42 #[.int .u8 11, .int .i64 1, .int .i64 0, .string (bs [])])
 rw [<- HQ.out] at HKD HC0
 clear h hrg hE hB hq hbl ha1 ha2
 go_in
 go_upto_region 2 with (first | (refine wpList_load_mid rfl 42 (.tmp 10) rfl b (off + i * 4) rfl [.int .u8 11, .int .i64 1, .int .i64 0, .string (bs [])] (.struct _) HRG.out underlying42 rfl (by kernel_rfl) ?_) | (refine wpList_store_row rfl 42 (.tmp 5) (.tmp 11) rfl w.heap.size #[.int .u8 11, .int .i64 1, .int .i64 0, .string (bs [])] rfl rfl 42 #[.int .u8 0, .int .i64 0, .int .i64 0, .string ⟨#[]⟩] HB0.out (by kernel_rfl) rfl (by kernel_rfl) ?_; rw [World.setRow_alloc_new]) | fail)
 clear HB0
 obtain ⟨g, hg⟩ := ex w.heap.size
 rw [<- hg] at HWA |-
 generalize w.alloc _ = wa at *
 have HG := zh hg
 clear hg
 go_wp2_with fail
 refine (HKD.out wa HWB.out).mono ?_
 rintro e w2 ⟨K, cK, rfl, hcK, hK, hKb, hb2⟩
 obtain ⟨B, hBw⟩ := ex w2.heap.size
 have HS : Hid (Bst w w2 B g ⟨11, 1, 0, bs []⟩ K [k] i) := zh (Bst.new (w2' := w2) (HWB.out.trans (hb2.mono HWB.out.size)) ((hb2.block _ HWA.out.lt).trans HWA.out) hK (by rw [HG.out]; exact nlr _) hBw)
 have hg2 : g < w2.heap.size := HS.out.blk.lt
 have c0 : w2.cell? ⟨g, 0, none⟩ = some (.int .u8 11) := HS.out.blk.cell 0
 have c2 : w2.cell? ⟨g, 2, none⟩ = some (.int .i64 (0)) := HS.out.blk.cell 2
 have c3 : w2.cell? ⟨g, 3, none⟩ = some (.string (bs [])) := HS.out.blk.cell 3
 have HKB := zh (ai hKb hcK)
 clear hK hKb hb2 hcK hBw
 obtain ⟨kb, ko, rfl⟩ := HS.out.place (by simp)
 go_wp2_with fail
 have HN0 : Hid (w2.ownsRow B 35 4 (.slice none 0 0) 0 (rowOf zcell [])) := zh (World.ownsRow_nil _ _ _ _)
 refine (HM.out w2).mono ?_
 rintro e w4 ⟨rfl, hb4⟩
 have HS4 := zh (HS.out.below hb4)
 have HR4 := zh (own_below HN0.out hb4)
 clear hb4
 have HX5 : Hid ((w4.alloc (.cells #[.int .u8 1, .string (⟨#[100, 111]⟩), .int .i64 0, .int .i64 0] 35)).ownsRow B 35 4 (.slice none (0) 0) (0) (rowOf zcell ([])) ∧ RdZ (w4.alloc (.cells #[.int .u8 1, .string (⟨#[100, 111]⟩), .int .i64 0, .int .i64 0] 35)) (some ⟨w4.heap.size, 0, none⟩) [⟨1, ⟨#[100, 111]⟩, 0, 0⟩]) := zh ⟨HR4.out.alloc _, rdz_ow (own_new [⟨1, ⟨#[100, 111]⟩, 0, 0⟩] 1 _ rfl rfl (nlr _) (by unfold maxLen; omega)) rfl⟩
 have HA5 := zh (HS4.out.alloc (.cells #[.int .u8 1, .string (⟨#[100, 111]⟩), .int .i64 0, .int .i64 0] 35))
 go_wp2_with (at_builtin; refine wpList_app_z rfl (.tmp 17) (.tmp 21) rfl B (0) 0 1 1 none (some ⟨w4.heap.size, 0, none⟩) ([]) [⟨1, ⟨#[100, 111]⟩, 0, 0⟩] rfl HX5.out.1 rfl rfl HX5.out.2 (by omega) HA5.out.big ?_; intro A5 c5 w5 ho5 hg5; have HR5 := zh ho5; have HS5 := zh (HA5.out.grown HX5.out.1 hg5); clear ho5 hg5; have kk50 : w5.cell? ⟨kb, ko, none⟩ = some (.int .i64 (z0 : Nat)) := HS5.out.kcell (j := 0) rfl HZ0.out)
 refine (HC0.out w5 HS5.out.bel).mono ?_
 rintro e w6 ⟨A6, c6, rfl, ho6, hb6⟩
 obtain ⟨m6, hm6⟩ : ∃ z, z = (sh k 1).length := ⟨_, rfl⟩
 have hm96 : m6 <= 900000 := by rw [hm6]; exact HF0.out
 rw [<- hm6] at ho6 |-
 have HM6 := zh hm6
 have HS6 := zh (HS5.out.below hb6)
 have HR6 := zh (own_below HR5.out hb6)
 have HX6 := zh (rdz_ow ho6 HM6.out)
 clear ho6 hb6 hm6
 go_wp2_with (at_builtin; refine wpList_app_z rfl (.tmp 54) (.tmp 59) rfl B (1) c5 m6 c6 A5 A6 ([] ++ [⟨1, ⟨#[100, 111]⟩, 0, 0⟩]) (sh k 1) rfl HR6.out rfl HM6.out HX6.out (by omega) HS6.out.big ?_; intro A7 c7 w7 ho7 hg7; have HR7 := zh ho7; have HS7 := zh (HS6.out.grown HR6.out hg7); clear ho7 hg7)
 go_ret
 exact rp_of (own_mono HR7.out HS7.out.lowB) (by simp only [lna, lnc, lnn, <- HM6.out]) HS7.out.bel (rfl)
theorem rs7 (N : Nat) (hE : AtR N) (hB : BlockR N) (k j : Tr) (hk : Rt 0 k ∧ k.flat.length <= N) (hj : Rt 1 j ∧ j.flat.length <= N) (l : List Tw) (A : Option Addr) (c i : Nat) (r : List Tw) (w : World) (h : Twg w l A i r ⟨7, 2, 0, bs []⟩ [k, j]) :
 Calls prog 103 #[.slice A l.length c, .int .i64 (i : Nat)] w (RP w (sh (.node ⟨7, 2, 0, bs []⟩ [k, j]) 11)) := by
 have HT := zh h
 obtain ⟨ha1, hi, ha2, b, off, rfl, hbl, hrg⟩ := h.at_
 have HRG : Hid (w.rangeAt b (off + i * 4) [.int .u8 7, .int .i64 2, .int .i64 0, .string (bs [])]) := zh (hrg w (Below.refl _ _))
 have HKD := zh (fun W hW => h.kids c 2 rfl W hW)
 have HWD := zh (fun s W => rword_v s W)
 obtain ⟨z0, hz0⟩ : ∃ z, z = i + 1 + (flats ([k, j].take 0)).length := ⟨_, rfl⟩
 have HZ0 := zh hz0
 have hz90 : z0 <= 100000 := by rw [hz0]; exact h.pos (j := 0) (k := k) rfl
 have HC0 := zh (fun W hW => h.kid hE (j := 0) (k := k) rfl hk c 1 (by omega) W hW)
 rw [<- hz0] at HC0
 have HF0 : Hid ((sh k 1).length <= 900000) := zh (Nat.le_trans (h.few (k := k) (by simp) ((few_any hk.1).1 rfl 1 (by omega))) (by omega))
 clear hz0
 obtain ⟨z1, hz1⟩ : ∃ z, z = i + 1 + (flats ([k, j].take 1)).length := ⟨_, rfl⟩
 have HZ1 := zh hz1
 have hz91 : z1 <= 100000 := by rw [hz1]; exact h.pos (j := 1) (k := j) rfl
 have HC1 := zh (fun W hW => h.blk hB (j := 1) (k := j) rfl hj c  W hW)
 rw [<- hz1] at HC1
 have HF1 : Hid ((sh j 10).length <= 900000) := zh (Nat.le_trans (h.few (k := j) (by simp) ((few_any hj.1).2.1 rfl)) (by omega))
 clear hz1
 obtain ⟨q, hq⟩ := ex l.length
 have HQ := zh hq
 have hq9 : q <= 100000 := by have := h.len; omega
 rw [<- hq] at hi |-
 have a0 : (0 : Int) <= (i : Int) := by omega
 have a1 : (i : Int) < (q : Int) := by omega
 have HB0 := zh (Blk.new w 42 #[.int .u8 0, .int .i64 0, .int .i64 0, .string ⟨#[]⟩])
 have HWB := zh ((Below.refl w.heap.size w).alloc (nlr _) (.cells #[.int .u8 7, .int .i64 2, .int .i64 0, .string (bs [])] 42))
 have HWA := zh (Blk.new w 42 #[.int .u8 7, .int .i64 2, .int .i64 0, .string (bs [])])
 rw [<- HQ.out] at HKD HC0 HC1
 clear h hrg hE hB hq hbl ha1 ha2
 go_in
 go_upto_region 2 with (first | (refine wpList_load_mid rfl 42 (.tmp 10) rfl b (off + i * 4) rfl [.int .u8 7, .int .i64 2, .int .i64 0, .string (bs [])] (.struct _) HRG.out underlying42 rfl (by kernel_rfl) ?_) | (refine wpList_store_row rfl 42 (.tmp 5) (.tmp 11) rfl w.heap.size #[.int .u8 7, .int .i64 2, .int .i64 0, .string (bs [])] rfl rfl 42 #[.int .u8 0, .int .i64 0, .int .i64 0, .string ⟨#[]⟩] HB0.out (by kernel_rfl) rfl (by kernel_rfl) ?_; rw [World.setRow_alloc_new]) | fail)
 clear HB0
 obtain ⟨g, hg⟩ := ex w.heap.size
 rw [<- hg] at HWA |-
 generalize w.alloc _ = wa at *
 have HG := zh hg
 clear hg
 go_wp2_with fail
 refine (HKD.out wa HWB.out).mono ?_
 rintro e w2 ⟨K, cK, rfl, hcK, hK, hKb, hb2⟩
 obtain ⟨B, hBw⟩ := ex w2.heap.size
 have HS : Hid (Bst w w2 B g ⟨7, 2, 0, bs []⟩ K [k, j] i) := zh (Bst.new (w2' := w2) (HWB.out.trans (hb2.mono HWB.out.size)) ((hb2.block _ HWA.out.lt).trans HWA.out) hK (by rw [HG.out]; exact nlr _) hBw)
 have hg2 : g < w2.heap.size := HS.out.blk.lt
 have c0 : w2.cell? ⟨g, 0, none⟩ = some (.int .u8 7) := HS.out.blk.cell 0
 have c2 : w2.cell? ⟨g, 2, none⟩ = some (.int .i64 (0)) := HS.out.blk.cell 2
 have c3 : w2.cell? ⟨g, 3, none⟩ = some (.string (bs [])) := HS.out.blk.cell 3
 have HKB := zh (ai hKb hcK)
 clear hK hKb hb2 hcK hBw
 obtain ⟨kb, ko, rfl⟩ := HS.out.place (by simp)
 go_wp2_with fail
 have HN0 : Hid (w2.ownsRow B 35 4 (.slice none 0 0) 0 (rowOf zcell [])) := zh (World.ownsRow_nil _ _ _ _)
 refine (HWD.out _ w2).mono ?_
 rintro e w4 ⟨rfl, hb4⟩
 have HS4 := zh (HS.out.below hb4)
 have HR4 := zh (own_below HN0.out hb4)
 clear hb4
 have HX5 : Hid ((w4.alloc (.cells #[.int .u8 1, .string (⟨#[119, 104, 105, 108, 101]⟩), .int .i64 0, .int .i64 0] 35)).ownsRow B 35 4 (.slice none (0) 0) (0) (rowOf zcell ([])) ∧ RdZ (w4.alloc (.cells #[.int .u8 1, .string (⟨#[119, 104, 105, 108, 101]⟩), .int .i64 0, .int .i64 0] 35)) (some ⟨w4.heap.size, 0, none⟩) [⟨1, ⟨#[119, 104, 105, 108, 101]⟩, 0, 0⟩]) := zh ⟨HR4.out.alloc _, rdz_ow (own_new [⟨1, ⟨#[119, 104, 105, 108, 101]⟩, 0, 0⟩] 1 _ rfl rfl (nlr _) (by unfold maxLen; omega)) rfl⟩
 have HA5 := zh (HS4.out.alloc (.cells #[.int .u8 1, .string (⟨#[119, 104, 105, 108, 101]⟩), .int .i64 0, .int .i64 0] 35))
 go_wp2_with (at_builtin; refine wpList_app_z rfl (.tmp 50) (.tmp 52) rfl B (0) 0 1 1 none (some ⟨w4.heap.size, 0, none⟩) ([]) [⟨1, ⟨#[119, 104, 105, 108, 101]⟩, 0, 0⟩] rfl HX5.out.1 rfl rfl HX5.out.2 (by omega) HA5.out.big ?_; intro A5 c5 w5 ho5 hg5; have HR5 := zh ho5; have HS5 := zh (HA5.out.grown HX5.out.1 hg5); clear ho5 hg5; have kk50 : w5.cell? ⟨kb, ko, none⟩ = some (.int .i64 (z0 : Nat)) := HS5.out.kcell (j := 0) rfl HZ0.out)
 refine (HC0.out w5 HS5.out.bel).mono ?_
 rintro e w6 ⟨A6, c6, rfl, ho6, hb6⟩
 obtain ⟨m6, hm6⟩ : ∃ z, z = (sh k 1).length := ⟨_, rfl⟩
 have hm96 : m6 <= 900000 := by rw [hm6]; exact HF0.out
 rw [<- hm6] at ho6 |-
 have HM6 := zh hm6
 have HS6 := zh (HS5.out.below hb6)
 have HR6 := zh (own_below HR5.out hb6)
 have HX6 := zh (rdz_ow ho6 HM6.out)
 clear ho6 hb6 hm6
 go_wp2_with (at_builtin; refine wpList_app_z rfl (.tmp 54) (.tmp 59) rfl B (1) c5 m6 c6 A5 A6 ([] ++ [⟨1, ⟨#[119, 104, 105, 108, 101]⟩, 0, 0⟩]) (sh k 1) rfl HR6.out rfl HM6.out HX6.out (by omega) HS6.out.big ?_; intro A7 c7 w7 ho7 hg7; have HR7 := zh ho7; have HS7 := zh (HS6.out.grown HR6.out hg7); clear ho7 hg7; have kk71 : w7.cell? ⟨kb, ko + 1, none⟩ = some (.int .i64 (z1 : Nat)) := HS7.out.kcell (j := 1) rfl HZ1.out)
 refine (HC1.out w7 HS7.out.bel).mono ?_
 rintro e w8 ⟨A8, c8, rfl, ho8, hb8⟩
 obtain ⟨m8, hm8⟩ : ∃ z, z = (sh j 10).length := ⟨_, rfl⟩
 have hm98 : m8 <= 900000 := by rw [hm8]; exact HF1.out
 rw [<- hm8] at ho8 |-
 have HM8 := zh hm8
 have HS8 := zh (HS7.out.below hb8)
 have HR8 := zh (own_below HR7.out hb8)
 have HX8 := zh (rdz_ow ho8 HM8.out)
 clear ho8 hb8 hm8
 go_wp2_with (at_builtin; refine wpList_app_z rfl (.tmp 64) (.tmp 69) rfl B (1 + m6) c7 m8 c8 A7 A8 ([] ++ [⟨1, ⟨#[119, 104, 105, 108, 101]⟩, 0, 0⟩] ++ (sh k 1)) (sh j 10) rfl HR8.out rfl HM8.out HX8.out (by omega) HS8.out.big ?_; intro A9 c9 w9 ho9 hg9; have HR9 := zh ho9; have HS9 := zh (HS8.out.grown HR8.out hg9); clear ho9 hg9)
 go_ret
 exact rp_of (own_mono HR9.out HS9.out.lowB) (by simp only [lna, lnc, lnn, <- HM6.out, <- HM8.out]) HS9.out.bel (by rw [List.append_assoc]; rfl)
theorem rs6a (N : Nat) (hE : AtR N) (hB : BlockR N) (k j : Tr) (hk : Rt 0 k ∧ k.flat.length <= N) (hj : Rt 1 j ∧ j.flat.length <= N) (l : List Tw) (A : Option Addr) (c i : Nat) (r : List Tw) (w : World) (h : Twg w l A i r ⟨6, 2, 0, bs []⟩ [k, j]) :
 Calls prog 103 #[.slice A l.length c, .int .i64 (i : Nat)] w (RP w (sh (.node ⟨6, 2, 0, bs []⟩ [k, j]) 11)) := by
 have HT := zh h
 obtain ⟨ha1, hi, ha2, b, off, rfl, hbl, hrg⟩ := h.at_
 have HRG : Hid (w.rangeAt b (off + i * 4) [.int .u8 6, .int .i64 2, .int .i64 0, .string (bs [])]) := zh (hrg w (Below.refl _ _))
 have HKD := zh (fun W hW => h.kids c 2 rfl W hW)
 have HWD := zh (fun s W => rword_v s W)
 obtain ⟨z0, hz0⟩ : ∃ z, z = i + 1 + (flats ([k, j].take 0)).length := ⟨_, rfl⟩
 have HZ0 := zh hz0
 have hz90 : z0 <= 100000 := by rw [hz0]; exact h.pos (j := 0) (k := k) rfl
 have HC0 := zh (fun W hW => h.kid hE (j := 0) (k := k) rfl hk c 1 (by omega) W hW)
 rw [<- hz0] at HC0
 have HF0 : Hid ((sh k 1).length <= 900000) := zh (Nat.le_trans (h.few (k := k) (by simp) ((few_any hk.1).1 rfl 1 (by omega))) (by omega))
 clear hz0
 obtain ⟨z1, hz1⟩ : ∃ z, z = i + 1 + (flats ([k, j].take 1)).length := ⟨_, rfl⟩
 have HZ1 := zh hz1
 have hz91 : z1 <= 100000 := by rw [hz1]; exact h.pos (j := 1) (k := j) rfl
 have HC1 := zh (fun W hW => h.blk hB (j := 1) (k := j) rfl hj c  W hW)
 rw [<- hz1] at HC1
 have HF1 : Hid ((sh j 10).length <= 900000) := zh (Nat.le_trans (h.few (k := j) (by simp) ((few_any hj.1).2.1 rfl)) (by omega))
 clear hz1
 obtain ⟨q, hq⟩ := ex l.length
 have HQ := zh hq
 have hq9 : q <= 100000 := by have := h.len; omega
 rw [<- hq] at hi |-
 have a0 : (0 : Int) <= (i : Int) := by omega
 have a1 : (i : Int) < (q : Int) := by omega
 have HB0 := zh (Blk.new w 42 #[.int .u8 0, .int .i64 0, .int .i64 0, .string ⟨#[]⟩])
 have HWB := zh ((Below.refl w.heap.size w).alloc (nlr _) (.cells #[.int .u8 6, .int .i64 2, .int .i64 0, .string (bs [])] 42))
 have HWA := zh (Blk.new w 42 #[.int .u8 6, .int .i64 2, .int .i64 0, .string (bs [])])
 rw [<- HQ.out] at HKD HC0 HC1
 clear h hrg hE hB hq hbl ha1 ha2
 go_in
 go_upto_region 2 with (first | (refine wpList_load_mid rfl 42 (.tmp 10) rfl b (off + i * 4) rfl [.int .u8 6, .int .i64 2, .int .i64 0, .string (bs [])] (.struct _) HRG.out underlying42 rfl (by kernel_rfl) ?_) | (refine wpList_store_row rfl 42 (.tmp 5) (.tmp 11) rfl w.heap.size #[.int .u8 6, .int .i64 2, .int .i64 0, .string (bs [])] rfl rfl 42 #[.int .u8 0, .int .i64 0, .int .i64 0, .string ⟨#[]⟩] HB0.out (by kernel_rfl) rfl (by kernel_rfl) ?_; rw [World.setRow_alloc_new]) | fail)
 clear HB0
 obtain ⟨g, hg⟩ := ex w.heap.size
 rw [<- hg] at HWA |-
 generalize w.alloc _ = wa at *
 have HG := zh hg
 clear hg
 go_wp2_with fail
 refine (HKD.out wa HWB.out).mono ?_
 rintro e w2 ⟨K, cK, rfl, hcK, hK, hKb, hb2⟩
 obtain ⟨B, hBw⟩ := ex w2.heap.size
 have HS : Hid (Bst w w2 B g ⟨6, 2, 0, bs []⟩ K [k, j] i) := zh (Bst.new (w2' := w2) (HWB.out.trans (hb2.mono HWB.out.size)) ((hb2.block _ HWA.out.lt).trans HWA.out) hK (by rw [HG.out]; exact nlr _) hBw)
 have hg2 : g < w2.heap.size := HS.out.blk.lt
 have c0 : w2.cell? ⟨g, 0, none⟩ = some (.int .u8 6) := HS.out.blk.cell 0
 have c2 : w2.cell? ⟨g, 2, none⟩ = some (.int .i64 (0)) := HS.out.blk.cell 2
 have c3 : w2.cell? ⟨g, 3, none⟩ = some (.string (bs [])) := HS.out.blk.cell 3
 have HKB := zh (ai hKb hcK)
 clear hK hKb hb2 hcK hBw
 obtain ⟨kb, ko, rfl⟩ := HS.out.place (by simp)
 go_wp2_with fail
 have HN0 : Hid (w2.ownsRow B 35 4 (.slice none 0 0) 0 (rowOf zcell [])) := zh (World.ownsRow_nil _ _ _ _)
 refine (HWD.out _ w2).mono ?_
 rintro e w4 ⟨rfl, hb4⟩
 have HS4 := zh (HS.out.below hb4)
 have HR4 := zh (own_below HN0.out hb4)
 clear hb4
 have HX5 : Hid ((w4.alloc (.cells #[.int .u8 1, .string (⟨#[105, 102]⟩), .int .i64 0, .int .i64 0] 35)).ownsRow B 35 4 (.slice none (0) 0) (0) (rowOf zcell ([])) ∧ RdZ (w4.alloc (.cells #[.int .u8 1, .string (⟨#[105, 102]⟩), .int .i64 0, .int .i64 0] 35)) (some ⟨w4.heap.size, 0, none⟩) [⟨1, ⟨#[105, 102]⟩, 0, 0⟩]) := zh ⟨HR4.out.alloc _, rdz_ow (own_new [⟨1, ⟨#[105, 102]⟩, 0, 0⟩] 1 _ rfl rfl (nlr _) (by unfold maxLen; omega)) rfl⟩
 have HA5 := zh (HS4.out.alloc (.cells #[.int .u8 1, .string (⟨#[105, 102]⟩), .int .i64 0, .int .i64 0] 35))
 go_wp2_with (at_builtin; refine wpList_app_z rfl (.tmp 44) (.tmp 46) rfl B (0) 0 1 1 none (some ⟨w4.heap.size, 0, none⟩) ([]) [⟨1, ⟨#[105, 102]⟩, 0, 0⟩] rfl HX5.out.1 rfl rfl HX5.out.2 (by omega) HA5.out.big ?_; intro A5 c5 w5 ho5 hg5; have HR5 := zh ho5; have HS5 := zh (HA5.out.grown HX5.out.1 hg5); clear ho5 hg5; have kk50 : w5.cell? ⟨kb, ko, none⟩ = some (.int .i64 (z0 : Nat)) := HS5.out.kcell (j := 0) rfl HZ0.out)
 refine (HC0.out w5 HS5.out.bel).mono ?_
 rintro e w6 ⟨A6, c6, rfl, ho6, hb6⟩
 obtain ⟨m6, hm6⟩ : ∃ z, z = (sh k 1).length := ⟨_, rfl⟩
 have hm96 : m6 <= 900000 := by rw [hm6]; exact HF0.out
 rw [<- hm6] at ho6 |-
 have HM6 := zh hm6
 have HS6 := zh (HS5.out.below hb6)
 have HR6 := zh (own_below HR5.out hb6)
 have HX6 := zh (rdz_ow ho6 HM6.out)
 clear ho6 hb6 hm6
 go_wp2_with (at_builtin; refine wpList_app_z rfl (.tmp 54) (.tmp 59) rfl B (1) c5 m6 c6 A5 A6 ([] ++ [⟨1, ⟨#[105, 102]⟩, 0, 0⟩]) (sh k 1) rfl HR6.out rfl HM6.out HX6.out (by omega) HS6.out.big ?_; intro A7 c7 w7 ho7 hg7; have HR7 := zh ho7; have HS7 := zh (HS6.out.grown HR6.out hg7); clear ho7 hg7; have kk71 : w7.cell? ⟨kb, ko + 1, none⟩ = some (.int .i64 (z1 : Nat)) := HS7.out.kcell (j := 1) rfl HZ1.out)
 refine (HC1.out w7 HS7.out.bel).mono ?_
 rintro e w8 ⟨A8, c8, rfl, ho8, hb8⟩
 obtain ⟨m8, hm8⟩ : ∃ z, z = (sh j 10).length := ⟨_, rfl⟩
 have hm98 : m8 <= 900000 := by rw [hm8]; exact HF1.out
 rw [<- hm8] at ho8 |-
 have HM8 := zh hm8
 have HS8 := zh (HS7.out.below hb8)
 have HR8 := zh (own_below HR7.out hb8)
 have HX8 := zh (rdz_ow ho8 HM8.out)
 clear ho8 hb8 hm8
 go_wp2_with (at_builtin; refine wpList_app_z rfl (.tmp 64) (.tmp 69) rfl B (1 + m6) c7 m8 c8 A7 A8 ([] ++ [⟨1, ⟨#[105, 102]⟩, 0, 0⟩] ++ (sh k 1)) (sh j 10) rfl HR8.out rfl HM8.out HX8.out (by omega) HS8.out.big ?_; intro A9 c9 w9 ho9 hg9; have HR9 := zh ho9; have HS9 := zh (HS8.out.grown HR8.out hg9); clear ho9 hg9)
 go_ret
 exact rp_of (own_mono HR9.out HS9.out.lowB) (by simp only [lna, lnc, lnn, <- HM6.out, <- HM8.out]) HS9.out.bel (by rw [show sh (.node ⟨6, 2, 0, bs []⟩ [k, j]) 11 = wd [105, 102] :: (sh k 1 ++ (sh j 10 ++ [])) from rfl, List.append_nil, List.append_assoc]; rfl)
theorem rs6b (N : Nat) (hE : AtR N) (hB : BlockR N) (k j u : Tr) (hk : Rt 0 k ∧ k.flat.length <= N) (hj : Rt 1 j ∧ j.flat.length <= N) (hu : Rt 1 u ∧ u.flat.length <= N) (l : List Tw) (A : Option Addr) (c i : Nat) (r : List Tw) (w : World) (h : Twg w l A i r ⟨6, 3, 0, bs []⟩ [k, j, u]) :
 Calls prog 103 #[.slice A l.length c, .int .i64 (i : Nat)] w (RP w (sh (.node ⟨6, 3, 0, bs []⟩ [k, j, u]) 11)) := by
 have HT := zh h
 obtain ⟨ha1, hi, ha2, b, off, rfl, hbl, hrg⟩ := h.at_
 have HRG : Hid (w.rangeAt b (off + i * 4) [.int .u8 6, .int .i64 3, .int .i64 0, .string (bs [])]) := zh (hrg w (Below.refl _ _))
 have HKD := zh (fun W hW => h.kids c 3 rfl W hW)
 have HWD := zh (fun s W => rword_v s W)
 obtain ⟨z0, hz0⟩ : ∃ z, z = i + 1 + (flats ([k, j, u].take 0)).length := ⟨_, rfl⟩
 have HZ0 := zh hz0
 have hz90 : z0 <= 100000 := by rw [hz0]; exact h.pos (j := 0) (k := k) rfl
 have HC0 := zh (fun W hW => h.kid hE (j := 0) (k := k) rfl hk c 1 (by omega) W hW)
 rw [<- hz0] at HC0
 have HF0 : Hid ((sh k 1).length <= 900000) := zh (Nat.le_trans (h.few (k := k) (by simp) ((few_any hk.1).1 rfl 1 (by omega))) (by omega))
 clear hz0
 obtain ⟨z1, hz1⟩ : ∃ z, z = i + 1 + (flats ([k, j, u].take 1)).length := ⟨_, rfl⟩
 have HZ1 := zh hz1
 have hz91 : z1 <= 100000 := by rw [hz1]; exact h.pos (j := 1) (k := j) rfl
 have HC1 := zh (fun W hW => h.blk hB (j := 1) (k := j) rfl hj c  W hW)
 rw [<- hz1] at HC1
 have HF1 : Hid ((sh j 10).length <= 900000) := zh (Nat.le_trans (h.few (k := j) (by simp) ((few_any hj.1).2.1 rfl)) (by omega))
 clear hz1
 obtain ⟨z2, hz2⟩ : ∃ z, z = i + 1 + (flats ([k, j, u].take 2)).length := ⟨_, rfl⟩
 have HZ2 := zh hz2
 have hz92 : z2 <= 100000 := by rw [hz2]; exact h.pos (j := 2) (k := u) rfl
 have HC2 := zh (fun W hW => h.blk hB (j := 2) (k := u) rfl hu c  W hW)
 rw [<- hz2] at HC2
 have HF2 : Hid ((sh u 10).length <= 900000) := zh (Nat.le_trans (h.few (k := u) (by simp) ((few_any hu.1).2.1 rfl)) (by omega))
 clear hz2
 have HSUM : Hid ((sh k 1).length + (sh j 10).length + (sh u 10).length <= 900000) := zh (by
  have h1 := (few_any hk.1).1 rfl 1 (by omega)
  have h2 := (few_any hj.1).2.1 rfl
  have h3 := (few_any hu.1).2.1 rfl
  unfold Few at h1 h2 h3
  have h4 := drop_len h.at_.2.2.1
  rw [lna] at h4
  have h5 := fl3 k j u
  have h6 := h.len
  omega)
 obtain ⟨q, hq⟩ := ex l.length
 have HQ := zh hq
 have hq9 : q <= 100000 := by have := h.len; omega
 rw [<- hq] at hi |-
 have a0 : (0 : Int) <= (i : Int) := by omega
 have a1 : (i : Int) < (q : Int) := by omega
 have HB0 := zh (Blk.new w 42 #[.int .u8 0, .int .i64 0, .int .i64 0, .string ⟨#[]⟩])
 have HWB := zh ((Below.refl w.heap.size w).alloc (nlr _) (.cells #[.int .u8 6, .int .i64 3, .int .i64 0, .string (bs [])] 42))
 have HWA := zh (Blk.new w 42 #[.int .u8 6, .int .i64 3, .int .i64 0, .string (bs [])])
 rw [<- HQ.out] at HKD HC0 HC1 HC2
 clear h hrg hE hB hq hbl ha1 ha2
 go_in
 go_upto_region 2 with (first | (refine wpList_load_mid rfl 42 (.tmp 10) rfl b (off + i * 4) rfl [.int .u8 6, .int .i64 3, .int .i64 0, .string (bs [])] (.struct _) HRG.out underlying42 rfl (by kernel_rfl) ?_) | (refine wpList_store_row rfl 42 (.tmp 5) (.tmp 11) rfl w.heap.size #[.int .u8 6, .int .i64 3, .int .i64 0, .string (bs [])] rfl rfl 42 #[.int .u8 0, .int .i64 0, .int .i64 0, .string ⟨#[]⟩] HB0.out (by kernel_rfl) rfl (by kernel_rfl) ?_; rw [World.setRow_alloc_new]) | fail)
 clear HB0
 obtain ⟨g, hg⟩ := ex w.heap.size
 rw [<- hg] at HWA |-
 generalize w.alloc _ = wa at *
 have HG := zh hg
 clear hg
 go_wp2_with fail
 refine (HKD.out wa HWB.out).mono ?_
 rintro e w2 ⟨K, cK, rfl, hcK, hK, hKb, hb2⟩
 obtain ⟨B, hBw⟩ := ex w2.heap.size
 have HS : Hid (Bst w w2 B g ⟨6, 3, 0, bs []⟩ K [k, j, u] i) := zh (Bst.new (w2' := w2) (HWB.out.trans (hb2.mono HWB.out.size)) ((hb2.block _ HWA.out.lt).trans HWA.out) hK (by rw [HG.out]; exact nlr _) hBw)
 have hg2 : g < w2.heap.size := HS.out.blk.lt
 have c0 : w2.cell? ⟨g, 0, none⟩ = some (.int .u8 6) := HS.out.blk.cell 0
 have c2 : w2.cell? ⟨g, 2, none⟩ = some (.int .i64 (0)) := HS.out.blk.cell 2
 have c3 : w2.cell? ⟨g, 3, none⟩ = some (.string (bs [])) := HS.out.blk.cell 3
 have HKB := zh (ai hKb hcK)
 clear hK hKb hb2 hcK hBw
 obtain ⟨kb, ko, rfl⟩ := HS.out.place (by simp)
 go_wp2_with fail
 have HN0 : Hid (w2.ownsRow B 35 4 (.slice none 0 0) 0 (rowOf zcell [])) := zh (World.ownsRow_nil _ _ _ _)
 refine (HWD.out _ w2).mono ?_
 rintro e w4 ⟨rfl, hb4⟩
 have HS4 := zh (HS.out.below hb4)
 have HR4 := zh (own_below HN0.out hb4)
 clear hb4
 have HX5 : Hid ((w4.alloc (.cells #[.int .u8 1, .string (⟨#[105, 102]⟩), .int .i64 0, .int .i64 0] 35)).ownsRow B 35 4 (.slice none (0) 0) (0) (rowOf zcell ([])) ∧ RdZ (w4.alloc (.cells #[.int .u8 1, .string (⟨#[105, 102]⟩), .int .i64 0, .int .i64 0] 35)) (some ⟨w4.heap.size, 0, none⟩) [⟨1, ⟨#[105, 102]⟩, 0, 0⟩]) := zh ⟨HR4.out.alloc _, rdz_ow (own_new [⟨1, ⟨#[105, 102]⟩, 0, 0⟩] 1 _ rfl rfl (nlr _) (by unfold maxLen; omega)) rfl⟩
 have HA5 := zh (HS4.out.alloc (.cells #[.int .u8 1, .string (⟨#[105, 102]⟩), .int .i64 0, .int .i64 0] 35))
 go_wp2_with (at_builtin; refine wpList_app_z rfl (.tmp 44) (.tmp 46) rfl B (0) 0 1 1 none (some ⟨w4.heap.size, 0, none⟩) ([]) [⟨1, ⟨#[105, 102]⟩, 0, 0⟩] rfl HX5.out.1 rfl rfl HX5.out.2 (by omega) HA5.out.big ?_; intro A5 c5 w5 ho5 hg5; have HR5 := zh ho5; have HS5 := zh (HA5.out.grown HX5.out.1 hg5); clear ho5 hg5; have kk50 : w5.cell? ⟨kb, ko, none⟩ = some (.int .i64 (z0 : Nat)) := HS5.out.kcell (j := 0) rfl HZ0.out)
 refine (HC0.out w5 HS5.out.bel).mono ?_
 rintro e w6 ⟨A6, c6, rfl, ho6, hb6⟩
 obtain ⟨m6, hm6⟩ : ∃ z, z = (sh k 1).length := ⟨_, rfl⟩
 have hm96 : m6 <= 900000 := by rw [hm6]; exact HF0.out
 rw [<- hm6] at ho6 |-
 have HM6 := zh hm6
 have HS6 := zh (HS5.out.below hb6)
 have HR6 := zh (own_below HR5.out hb6)
 have HX6 := zh (rdz_ow ho6 HM6.out)
 clear ho6 hb6 hm6
 go_wp2_with (at_builtin; refine wpList_app_z rfl (.tmp 54) (.tmp 59) rfl B (1) c5 m6 c6 A5 A6 ([] ++ [⟨1, ⟨#[105, 102]⟩, 0, 0⟩]) (sh k 1) rfl HR6.out rfl HM6.out HX6.out (by omega) HS6.out.big ?_; intro A7 c7 w7 ho7 hg7; have HR7 := zh ho7; have HS7 := zh (HS6.out.grown HR6.out hg7); clear ho7 hg7; have kk71 : w7.cell? ⟨kb, ko + 1, none⟩ = some (.int .i64 (z1 : Nat)) := HS7.out.kcell (j := 1) rfl HZ1.out)
 refine (HC1.out w7 HS7.out.bel).mono ?_
 rintro e w8 ⟨A8, c8, rfl, ho8, hb8⟩
 obtain ⟨m8, hm8⟩ : ∃ z, z = (sh j 10).length := ⟨_, rfl⟩
 have hm98 : m8 <= 900000 := by rw [hm8]; exact HF1.out
 rw [<- hm8] at ho8 |-
 have HM8 := zh hm8
 have HS8 := zh (HS7.out.below hb8)
 have HR8 := zh (own_below HR7.out hb8)
 have HX8 := zh (rdz_ow ho8 HM8.out)
 clear ho8 hb8 hm8
 go_wp2_with (at_builtin; refine wpList_app_z rfl (.tmp 64) (.tmp 69) rfl B (1 + m6) c7 m8 c8 A7 A8 ([] ++ [⟨1, ⟨#[105, 102]⟩, 0, 0⟩] ++ (sh k 1)) (sh j 10) rfl HR8.out rfl HM8.out HX8.out (by omega) HS8.out.big ?_; intro A9 c9 w9 ho9 hg9; have HR9 := zh ho9; have HS9 := zh (HS8.out.grown HR8.out hg9); clear ho9 hg9)
 refine (HWD.out _ w9).mono ?_
 rintro e w10 ⟨rfl, hb10⟩
 have HS10 := zh (HS9.out.below hb10)
 have HR10 := zh (own_below HR9.out hb10)
 clear hb10
 have HX11 : Hid ((w10.alloc (.cells #[.int .u8 1, .string (⟨#[101, 108, 115, 101]⟩), .int .i64 0, .int .i64 0] 35)).ownsRow B 35 4 (.slice A9 (1 + m6 + m8) c9) (1 + m6 + m8) (rowOf zcell ([] ++ [⟨1, ⟨#[105, 102]⟩, 0, 0⟩] ++ (sh k 1) ++ (sh j 10))) ∧ RdZ (w10.alloc (.cells #[.int .u8 1, .string (⟨#[101, 108, 115, 101]⟩), .int .i64 0, .int .i64 0] 35)) (some ⟨w10.heap.size, 0, none⟩) [⟨1, ⟨#[101, 108, 115, 101]⟩, 0, 0⟩]) := zh ⟨HR10.out.alloc _, rdz_ow (own_new [⟨1, ⟨#[101, 108, 115, 101]⟩, 0, 0⟩] 1 _ rfl rfl (nlr _) (by unfold maxLen; omega)) rfl⟩
 have HA11 := zh (HS10.out.alloc (.cells #[.int .u8 1, .string (⟨#[101, 108, 115, 101]⟩), .int .i64 0, .int .i64 0] 35))
 go_wp2_with (at_builtin; refine wpList_app_z rfl (.tmp 74) (.tmp 76) rfl B (1 + m6 + m8) c9 1 1 A9 (some ⟨w10.heap.size, 0, none⟩) ([] ++ [⟨1, ⟨#[105, 102]⟩, 0, 0⟩] ++ (sh k 1) ++ (sh j 10)) [⟨1, ⟨#[101, 108, 115, 101]⟩, 0, 0⟩] rfl HX11.out.1 rfl rfl HX11.out.2 (by omega) HA11.out.big ?_; intro A11 c11 w11 ho11 hg11; have HR11 := zh ho11; have HS11 := zh (HA11.out.grown HX11.out.1 hg11); clear ho11 hg11; have kk112 : w11.cell? ⟨kb, ko + 2, none⟩ = some (.int .i64 (z2 : Nat)) := HS11.out.kcell (j := 2) rfl HZ2.out)
 refine (HC2.out w11 HS11.out.bel).mono ?_
 rintro e w12 ⟨A12, c12, rfl, ho12, hb12⟩
 obtain ⟨m12, hm12⟩ : ∃ z, z = (sh u 10).length := ⟨_, rfl⟩
 have hm912 : m12 <= 900000 := by rw [hm12]; exact HF2.out
 rw [<- hm12] at ho12 |-
 have HM12 := zh hm12
 have HS12 := zh (HS11.out.below hb12)
 have HR12 := zh (own_below HR11.out hb12)
 have HX12 := zh (rdz_ow ho12 HM12.out)
 clear ho12 hb12 hm12
 have hsum : m6 + m8 + m12 <= 900000 := by have h1 := HSUM.out; rw [<- HM6.out, <- HM8.out, <- HM12.out] at h1; exact h1
 go_wp2_with (at_builtin; refine wpList_app_z rfl (.tmp 78) (.tmp 83) rfl B (1 + m6 + m8 + 1) c11 m12 c12 A11 A12 ([] ++ [⟨1, ⟨#[105, 102]⟩, 0, 0⟩] ++ (sh k 1) ++ (sh j 10) ++ [⟨1, ⟨#[101, 108, 115, 101]⟩, 0, 0⟩]) (sh u 10) rfl HR12.out rfl HM12.out HX12.out (by omega) HS12.out.big ?_; intro A13 c13 w13 ho13 hg13; have HR13 := zh ho13; have HS13 := zh (HS12.out.grown HR12.out hg13); clear ho13 hg13)
 go_ret
 exact rp_of (own_mono HR13.out HS13.out.lowB) (by simp only [lna, lnc, lnn, <- HM6.out, <- HM8.out, <- HM12.out]) HS13.out.bel (by simp only [List.append_assoc]; rfl)
theorem rs5 (N : Nat) (hE : AtR N) (hB : BlockR N) (k : Tr) (hk : Rt 0 k ∧ k.flat.length <= N) (s : ByteArray) (l : List Tw) (A : Option Addr) (c i : Nat) (r : List Tw) (w : World) (h : Twg w l A i r ⟨5, 1, 0, s⟩ [k]) :
 Calls prog 103 #[.slice A l.length c, .int .i64 (i : Nat)] w (RP w (sh (.node ⟨5, 1, 0, s⟩ [k]) 11)) := by
 have HT := zh h
 obtain ⟨ha1, hi, ha2, b, off, rfl, hbl, hrg⟩ := h.at_
 have HRG : Hid (w.rangeAt b (off + i * 4) [.int .u8 5, .int .i64 1, .int .i64 0, .string (s)]) := zh (hrg w (Below.refl _ _))
 have HKD := zh (fun W hW => h.kids c 1 rfl W hW)
 have HWD := zh (fun s W => rword_v s W)
 have HSG := zh (fun s W => rsign_v s W)
 obtain ⟨z0, hz0⟩ : ∃ z, z = i + 1 + (flats ([k].take 0)).length := ⟨_, rfl⟩
 have HZ0 := zh hz0
 have hz90 : z0 <= 100000 := by rw [hz0]; exact h.pos (j := 0) (k := k) rfl
 have HC0 := zh (fun W hW => h.kid hE (j := 0) (k := k) rfl hk c 1 (by omega) W hW)
 rw [<- hz0] at HC0
 have HF0 : Hid ((sh k 1).length <= 900000) := zh (Nat.le_trans (h.few (k := k) (by simp) ((few_any hk.1).1 rfl 1 (by omega))) (by omega))
 clear hz0
 obtain ⟨q, hq⟩ := ex l.length
 have HQ := zh hq
 have hq9 : q <= 100000 := by have := h.len; omega
 rw [<- hq] at hi |-
 have a0 : (0 : Int) <= (i : Int) := by omega
 have a1 : (i : Int) < (q : Int) := by omega
 have HB0 := zh (Blk.new w 42 #[.int .u8 0, .int .i64 0, .int .i64 0, .string ⟨#[]⟩])
 have HWB := zh ((Below.refl w.heap.size w).alloc (nlr _) (.cells #[.int .u8 5, .int .i64 1, .int .i64 0, .string (s)] 42))
 have HWA := zh (Blk.new w 42 #[.int .u8 5, .int .i64 1, .int .i64 0, .string (s)])
 rw [<- HQ.out] at HKD HC0
 clear h hrg hE hB hq hbl ha1 ha2
 go_in
 go_upto_region 2 with (first | (refine wpList_load_mid rfl 42 (.tmp 10) rfl b (off + i * 4) rfl [.int .u8 5, .int .i64 1, .int .i64 0, .string (s)] (.struct _) HRG.out underlying42 rfl (by kernel_rfl) ?_) | (refine wpList_store_row rfl 42 (.tmp 5) (.tmp 11) rfl w.heap.size #[.int .u8 5, .int .i64 1, .int .i64 0, .string (s)] rfl rfl 42 #[.int .u8 0, .int .i64 0, .int .i64 0, .string ⟨#[]⟩] HB0.out (by kernel_rfl) rfl (by kernel_rfl) ?_; rw [World.setRow_alloc_new]) | fail)
 clear HB0
 obtain ⟨g, hg⟩ := ex w.heap.size
 rw [<- hg] at HWA |-
 generalize w.alloc _ = wa at *
 have HG := zh hg
 clear hg
 go_wp2_with fail
 refine (HKD.out wa HWB.out).mono ?_
 rintro e w2 ⟨K, cK, rfl, hcK, hK, hKb, hb2⟩
 obtain ⟨B, hBw⟩ := ex w2.heap.size
 have HS : Hid (Bst w w2 B g ⟨5, 1, 0, s⟩ K [k] i) := zh (Bst.new (w2' := w2) (HWB.out.trans (hb2.mono HWB.out.size)) ((hb2.block _ HWA.out.lt).trans HWA.out) hK (by rw [HG.out]; exact nlr _) hBw)
 have hg2 : g < w2.heap.size := HS.out.blk.lt
 have c0 : w2.cell? ⟨g, 0, none⟩ = some (.int .u8 5) := HS.out.blk.cell 0
 have c2 : w2.cell? ⟨g, 2, none⟩ = some (.int .i64 (0)) := HS.out.blk.cell 2
 have c3 : w2.cell? ⟨g, 3, none⟩ = some (.string (s)) := HS.out.blk.cell 3
 have HKB := zh (ai hKb hcK)
 clear hK hKb hb2 hcK hBw
 obtain ⟨kb, ko, rfl⟩ := HS.out.place (by simp)
 go_wp2_with fail
 have HN0 : Hid (w2.ownsRow B 35 4 (.slice none 0 0) 0 (rowOf zcell [])) := zh (World.ownsRow_nil _ _ _ _)
 refine (HWD.out s w2).mono ?_
 rintro e w4 ⟨rfl, hb4⟩
 have HS4 := zh (HS.out.below hb4)
 have HR4 := zh (own_below HN0.out hb4)
 clear hb4
 go_wp2_with fail
 refine (HSG.out ⟨#[61]⟩ w4).mono ?_
 rintro e w5 ⟨rfl, hb5⟩
 have HS5 := zh (HS4.out.below hb5)
 have HR5 := zh (own_below HR4.out hb5)
 clear hb5
 have HX6 : Hid ((w5.alloc (.cells #[.int .u8 1, .string (s), .int .i64 0, .int .i64 0, .int .u8 4, .string (⟨#[61]⟩), .int .i64 0, .int .i64 0] 35)).ownsRow B 35 4 (.slice none (0) 0) (0) (rowOf zcell ([])) ∧ RdZ (w5.alloc (.cells #[.int .u8 1, .string (s), .int .i64 0, .int .i64 0, .int .u8 4, .string (⟨#[61]⟩), .int .i64 0, .int .i64 0] 35)) (some ⟨w5.heap.size, 0, none⟩) [⟨1, s, 0, 0⟩, ⟨4, ⟨#[61]⟩, 0, 0⟩]) := zh ⟨HR5.out.alloc _, rdz_ow (own_new [⟨1, s, 0, 0⟩, ⟨4, ⟨#[61]⟩, 0, 0⟩] 2 _ rfl rfl (nlr _) (by unfold maxLen; omega)) rfl⟩
 have HA6 := zh (HS5.out.alloc (.cells #[.int .u8 1, .string (s), .int .i64 0, .int .i64 0, .int .u8 4, .string (⟨#[61]⟩), .int .i64 0, .int .i64 0] 35))
 go_wp2_with (at_builtin; refine wpList_app_z rfl (.tmp 35) (.tmp 40) rfl B (0) 0 2 2 none (some ⟨w5.heap.size, 0, none⟩) ([]) [⟨1, s, 0, 0⟩, ⟨4, ⟨#[61]⟩, 0, 0⟩] rfl HX6.out.1 rfl rfl HX6.out.2 (by omega) HA6.out.big ?_; intro A6 c6 w6 ho6 hg6; have HR6 := zh ho6; have HS6 := zh (HA6.out.grown HX6.out.1 hg6); clear ho6 hg6; have kk60 : w6.cell? ⟨kb, ko, none⟩ = some (.int .i64 (z0 : Nat)) := HS6.out.kcell (j := 0) rfl HZ0.out)
 refine (HC0.out w6 HS6.out.bel).mono ?_
 rintro e w7 ⟨A7, c7, rfl, ho7, hb7⟩
 obtain ⟨m7, hm7⟩ : ∃ z, z = (sh k 1).length := ⟨_, rfl⟩
 have hm97 : m7 <= 900000 := by rw [hm7]; exact HF0.out
 rw [<- hm7] at ho7 |-
 have HM7 := zh hm7
 have HS7 := zh (HS6.out.below hb7)
 have HR7 := zh (own_below HR6.out hb7)
 have HX7 := zh (rdz_ow ho7 HM7.out)
 clear ho7 hb7 hm7
 go_wp2_with (at_builtin; refine wpList_app_z rfl (.tmp 54) (.tmp 59) rfl B (2) c6 m7 c7 A6 A7 ([] ++ [⟨1, s, 0, 0⟩, ⟨4, ⟨#[61]⟩, 0, 0⟩]) (sh k 1) rfl HR7.out rfl HM7.out HX7.out (by omega) HS7.out.big ?_; intro A8 c8 w8 ho8 hg8; have HR8 := zh ho8; have HS8 := zh (HS7.out.grown HR7.out hg8); clear ho8 hg8)
 go_ret
 exact rp_of (own_mono HR8.out HS8.out.lowB) (by simp only [lna, lnc, lnn, <- HM7.out]) HS8.out.bel (rfl)
theorem rs4 (N : Nat) (hE : AtR N) (hB : BlockR N) (k : Tr) (hk : Rt 0 k ∧ k.flat.length <= N) (s : ByteArray) (l : List Tw) (A : Option Addr) (c i : Nat) (r : List Tw) (w : World) (h : Twg w l A i r ⟨4, 1, 0, s⟩ [k]) :
 Calls prog 103 #[.slice A l.length c, .int .i64 (i : Nat)] w (RP w (sh (.node ⟨4, 1, 0, s⟩ [k]) 11)) := by
 have HT := zh h
 obtain ⟨ha1, hi, ha2, b, off, rfl, hbl, hrg⟩ := h.at_
 have HRG : Hid (w.rangeAt b (off + i * 4) [.int .u8 4, .int .i64 1, .int .i64 0, .string (s)]) := zh (hrg w (Below.refl _ _))
 have HKD := zh (fun W hW => h.kids c 1 rfl W hW)
 have HWD := zh (fun s W => rword_v s W)
 have HSG := zh (fun s W => rsign_v s W)
 obtain ⟨z0, hz0⟩ : ∃ z, z = i + 1 + (flats ([k].take 0)).length := ⟨_, rfl⟩
 have HZ0 := zh hz0
 have hz90 : z0 <= 100000 := by rw [hz0]; exact h.pos (j := 0) (k := k) rfl
 have HC0 := zh (fun W hW => h.kid hE (j := 0) (k := k) rfl hk c 1 (by omega) W hW)
 rw [<- hz0] at HC0
 have HF0 : Hid ((sh k 1).length <= 900000) := zh (Nat.le_trans (h.few (k := k) (by simp) ((few_any hk.1).1 rfl 1 (by omega))) (by omega))
 clear hz0
 obtain ⟨q, hq⟩ := ex l.length
 have HQ := zh hq
 have hq9 : q <= 100000 := by have := h.len; omega
 rw [<- hq] at hi |-
 have a0 : (0 : Int) <= (i : Int) := by omega
 have a1 : (i : Int) < (q : Int) := by omega
 have HB0 := zh (Blk.new w 42 #[.int .u8 0, .int .i64 0, .int .i64 0, .string ⟨#[]⟩])
 have HWB := zh ((Below.refl w.heap.size w).alloc (nlr _) (.cells #[.int .u8 4, .int .i64 1, .int .i64 0, .string (s)] 42))
 have HWA := zh (Blk.new w 42 #[.int .u8 4, .int .i64 1, .int .i64 0, .string (s)])
 rw [<- HQ.out] at HKD HC0
 clear h hrg hE hB hq hbl ha1 ha2
 go_in
 go_upto_region 2 with (first | (refine wpList_load_mid rfl 42 (.tmp 10) rfl b (off + i * 4) rfl [.int .u8 4, .int .i64 1, .int .i64 0, .string (s)] (.struct _) HRG.out underlying42 rfl (by kernel_rfl) ?_) | (refine wpList_store_row rfl 42 (.tmp 5) (.tmp 11) rfl w.heap.size #[.int .u8 4, .int .i64 1, .int .i64 0, .string (s)] rfl rfl 42 #[.int .u8 0, .int .i64 0, .int .i64 0, .string ⟨#[]⟩] HB0.out (by kernel_rfl) rfl (by kernel_rfl) ?_; rw [World.setRow_alloc_new]) | fail)
 clear HB0
 obtain ⟨g, hg⟩ := ex w.heap.size
 rw [<- hg] at HWA |-
 generalize w.alloc _ = wa at *
 have HG := zh hg
 clear hg
 go_wp2_with fail
 refine (HKD.out wa HWB.out).mono ?_
 rintro e w2 ⟨K, cK, rfl, hcK, hK, hKb, hb2⟩
 obtain ⟨B, hBw⟩ := ex w2.heap.size
 have HS : Hid (Bst w w2 B g ⟨4, 1, 0, s⟩ K [k] i) := zh (Bst.new (w2' := w2) (HWB.out.trans (hb2.mono HWB.out.size)) ((hb2.block _ HWA.out.lt).trans HWA.out) hK (by rw [HG.out]; exact nlr _) hBw)
 have hg2 : g < w2.heap.size := HS.out.blk.lt
 have c0 : w2.cell? ⟨g, 0, none⟩ = some (.int .u8 4) := HS.out.blk.cell 0
 have c2 : w2.cell? ⟨g, 2, none⟩ = some (.int .i64 (0)) := HS.out.blk.cell 2
 have c3 : w2.cell? ⟨g, 3, none⟩ = some (.string (s)) := HS.out.blk.cell 3
 have HKB := zh (ai hKb hcK)
 clear hK hKb hb2 hcK hBw
 obtain ⟨kb, ko, rfl⟩ := HS.out.place (by simp)
 go_upto_region 7 with fail
 have HG0 : Hid (∀ W, Below w2.heap.size w2 W -> W.cell? ⟨g, 0, none⟩ = some (.int .u8 4)) := zh (fun W hW => (hW.cell (p := ⟨g, 0, none⟩) hg2).trans (HS.out.blk.cell 0))
 have HG3 : Hid (∀ W, Below w2.heap.size w2 W -> W.cell? ⟨g, 3, none⟩ = some (.string s)) := zh (fun W hW => (hW.cell (p := ⟨g, 3, none⟩) hg2).trans (HS.out.blk.cell 3))
 clear c0 c2 c3
 refine F3.wp_region_plan (.q 0 (.q 2 (.q 3 (.a1 1 (.a1 4 (.a1 5 (.a1 6 (.a1 7 (.q 8 .fin))))))))) 7 (fun W => Below w2.heap.size w2 W) (by kernel_rfl) rfl (by kernel_rfl) ((Below.refl _ _).drew) ?_
 refine F3.wpPlan_q rfl rfl rfl ?_; intro K hK
 go_big_quiet_op
 first | go_big_quiet_on | (refine ⟨_, fun _ _ => rfl, ?_⟩; go_big_quiet_on)
 refine F3.wpPlan_q rfl rfl rfl ?_; intro K hK
 go_big_quiet_op
 first | go_big_quiet_on | (refine ⟨_, fun _ _ => rfl, ?_⟩; go_big_quiet_on)
 refine F3.wpPlan_q rfl rfl rfl ?_; intro K hK
 refine ⟨.string s, fun W hW => ?_, ?_⟩
 . have q0 := HG3.out W hW
   unfold Oper.quietAt Oper.quietUpon
   simp [go_sem, q0]
 refine hK _ ?_
 clear hK K
 try simp only [Act.put, List.setIfInBounds_toArray, List.set_cons_succ, List.set_cons_zero]
 refine F3.wpPlan_act true rfl rfl rfl ?_
 intro K hK
 go_simp
 refine (HWD.out ⟨#[108, 101, 116]⟩ w2.drew).mono ?_
 rintro e w4 ⟨rfl, hb⟩
 have Hw4 : Hid (Below w2.heap.size w2 w4) := zh (((Below.refl w2.heap.size w2).drew).trans hb)
 refine hK _ _ (fun _ => Hw4.out) ?_
 clear hK K hb
 refine F3.wpPlan_act true rfl rfl rfl ?_; intro K hK
 go_simp
 refine (HWD.out s w4).mono ?_
 rintro e w5 ⟨rfl, hb⟩
 have Hw5 : Hid (Below w2.heap.size w2 w5) := zh (Hw4.out.trans (hb.mono Hw4.out.size))
 refine hK _ _ (fun _ => Hw5.out) ?_
 clear hK K hb
 refine F3.wpPlan_act true rfl rfl rfl ?_; intro K hK
 go_simp
 refine (HSG.out ⟨#[61]⟩ w5).mono ?_
 rintro e w6 ⟨rfl, hb⟩
 have Hw6 : Hid (Below w2.heap.size w2 w6) := zh (Hw5.out.trans (hb.mono Hw5.out.size))
 refine hK _ _ (fun _ => Hw6.out) ?_
 clear hK K hb
 have HSB := zh ((HS.out.below Hw6.out).alloc (.cells #[.int .u8 1, .string ⟨#[108, 101, 116]⟩, .int .i64 0, .int .i64 0, .int .u8 1, .string s, .int .i64 0, .int .i64 0, .int .u8 4, .string ⟨#[61]⟩, .int .i64 0, .int .i64 0] 35))
 have HNB : Hid ((w6.alloc (.cells #[.int .u8 1, .string ⟨#[108, 101, 116]⟩, .int .i64 0, .int .i64 0, .int .u8 1, .string s, .int .i64 0, .int .i64 0, .int .u8 4, .string ⟨#[61]⟩, .int .i64 0, .int .i64 0] 35)).ownsRow B 35 4 (.slice none 0 0) 0 (rowOf zcell []) ∧ RdZ (w6.alloc (.cells #[.int .u8 1, .string ⟨#[108, 101, 116]⟩, .int .i64 0, .int .i64 0, .int .u8 1, .string s, .int .i64 0, .int .i64 0, .int .u8 4, .string ⟨#[61]⟩, .int .i64 0, .int .i64 0] 35)) (some ⟨w6.heap.size, 0, none⟩) [⟨1, ⟨#[108, 101, 116]⟩, 0, 0⟩, ⟨1, s, 0, 0⟩, ⟨4, ⟨#[61]⟩, 0, 0⟩]) := zh ⟨World.ownsRow_nil _ _ _ _, rdz_ow (own_new [⟨1, ⟨#[108, 101, 116]⟩, 0, 0⟩, ⟨1, s, 0, 0⟩, ⟨4, ⟨#[61]⟩, 0, 0⟩] 3 _ rfl rfl (nlr _) (by unfold maxLen; omega)) rfl⟩
 have HWB2 : Hid (Below w2.heap.size w2 (w6.alloc (.cells #[.int .u8 1, .string ⟨#[108, 101, 116]⟩, .int .i64 0, .int .i64 0, .int .u8 1, .string s, .int .i64 0, .int .i64 0, .int .u8 4, .string ⟨#[61]⟩, .int .i64 0, .int .i64 0] 35))) := zh (Hw6.out.alloc Hw6.out.size _)
 refine F3.wpPlan_act true rfl rfl rfl ?_; intro K hK
 go_simp
 refine hK _ _ (fun _ => HWB2.out) ?_
 clear hK K
 refine F3.wpPlan_act false rfl rfl rfl ?_; intro K hK
 refine wp_app_z (.tmp 25) (.tmp 31) rfl B 0 0 3 3 none (some ⟨w6.heap.size, 0, none⟩) [] [⟨1, ⟨#[108, 101, 116]⟩, 0, 0⟩, ⟨1, s, 0, 0⟩, ⟨4, ⟨#[61]⟩, 0, 0⟩] rfl HNB.out.1 rfl rfl HNB.out.2 (by omega) HSB.out.big ?_
 intro A7 c7 w7 ho7 hg7
 have HR7 : Hid (w7.ownsRow B 35 4 (.slice A7 3 c7) 3 (rowOf zcell [⟨1, ⟨#[108, 101, 116]⟩, 0, 0⟩, ⟨1, s, 0, 0⟩, ⟨4, ⟨#[61]⟩, 0, 0⟩])) := zh ho7
 have HS7 := zh (HSB.out.grown HNB.out.1 hg7)
 refine hK _ _ (fun h => by cases h) ?_
 clear hK K ho7 hg7
 try simp only [Act.put, List.setIfInBounds_toArray, List.set_cons_succ, List.set_cons_zero]
 refine F3.wpPlan_p rfl rfl rfl ?_; intro K hK
 refine ⟨.slice A7 3 c7, fun W hW => ?_, ?_⟩
 . unfold Oper.quietAt Oper.quietUpon
   simp [go_sem]
 refine hK _ ?_
 clear hK K
 try simp only [Act.put, List.setIfInBounds_toArray, List.set_cons_succ, List.set_cons_zero]
 refine F3.wpPlan_fin ?_
 have kk70 : w7.cell? ⟨kb, ko, none⟩ = some (.int .i64 (z0 : Nat)) := HS7.out.kcell (j := 0) rfl HZ0.out
 go_wp2_with fail
 refine (HC0.out w7 HS7.out.bel).mono ?_
 rintro e w8 ⟨A8, c8, rfl, ho8, hb8⟩
 obtain ⟨m8, hm8⟩ : ∃ z, z = (sh k 1).length := ⟨_, rfl⟩
 have hm98 : m8 <= 900000 := by rw [hm8]; exact HF0.out
 rw [<- hm8] at ho8 |-
 have HM8 := zh hm8
 have HS8 := zh (HS7.out.below hb8)
 have HR8 := zh (own_below HR7.out hb8)
 have HX8 := zh (rdz_ow ho8 HM8.out)
 clear ho8 hb8 hm8
 go_wp2_with (at_builtin; refine wpList_app_z rfl (.tmp 54) (.tmp 59) rfl B (3) c7 m8 c8 A7 A8 ([⟨1, ⟨#[108, 101, 116]⟩, 0, 0⟩, ⟨1, s, 0, 0⟩, ⟨4, ⟨#[61]⟩, 0, 0⟩]) (sh k 1) rfl HR8.out rfl HM8.out HX8.out (by omega) HS8.out.big ?_; intro A9 c9 w9 ho9 hg9; have HR9 := zh ho9; have HS9 := zh (HS8.out.grown HR8.out hg9); clear ho9 hg9)
 go_ret
 exact rp_of (own_mono HR9.out HS9.out.lowB) (by simp only [lna, lnc, lnn, <- HM8.out]) HS9.out.bel (rfl)
theorem rbare_step (N : Nat) (hE : AtR N) (hB : BlockR N) : BareR (N + 1) := by
 intro x ks hT hl l A c i r w hlen hd hrd
 have h : Twg w l A i r x ks := ⟨hlen, hd, hrd, rt_cok hT⟩
 cases hT with
 | word ho2 =>
  rcases ho2 with rfl | rfl | rfl | rfl
  . exact rb20 N hE hB l A c i r w h
  . exact rb21 N hE hB l A c i r w h
  . exact rb22 N hE hB l A c i r w h
  . exact rb57 N hE hB l A c i r w h
 | int iv => exact rb23 N hE hB iv l A c i r w h
 | text s => exact rb24 N hE hB s l A c i r w h
 | @name s hs => exact rb26 N hE hB s l A c i r w h
 | @take s hs => exact rb56 N hE hB s l A c i r w h
 | list h0 => exact rb25 N hE hB ks.length ks rfl (fun k hk => ⟨h0 k hk, kid_lt hk hl⟩) l A c i r w h
 | @call op s ks ho2 hs h0 =>
  rcases ho2 with rfl | rfl
  . exact rb50 N hE hB ks.length ks rfl (fun k hk => ⟨h0 k hk, kid_lt hk hl⟩) s l A c i r w h
  . exact rb51 N hE hB ks.length ks rfl (fun k hk => ⟨h0 k hk, kid_lt hk hl⟩) s l A c i r w h
 | @one op k ho2 h0 =>
  have hk : Rt 0 k ∧ k.flat.length <= N := ⟨h0, kid_lt (by simp) hl⟩
  rcases ho2 with rfl | rfl | rfl | rfl | rfl
  . exact rb45 N hE hB k hk l A c i r w h
  . exact rb46 N hE hB k hk l A c i r w h
  . exact rb47 N hE hB k hk l A c i r w h
  . exact rb48 N hE hB k hk l A c i r w h
  . exact rb52 N hE hB k hk l A c i r w h
 | @num k j h0 h2 => exact rb41 N hE hB k j ⟨h0, kid_lt (by simp) hl⟩ ⟨h2, kid_lt (by simp) hl⟩ l A c i r w h
 | @fork k h0 => exact rb53 N hE hB k ⟨h0, kid_lt (by simp) hl⟩ l A c i r w h
 | @not k h0 => exact rb43 N hE hB k ⟨h0, kid_lt (by simp) hl⟩ l A c i r w h
 | @pre op k ho2 h0 =>
  have hk : Rt 0 k ∧ k.flat.length <= N := ⟨h0, kid_lt (by simp) hl⟩
  rcases ho2 with rfl | rfl | rfl
  . exact rb44 N hE hB k hk l A c i r w h
  . exact rb54 N hE hB k hk l A c i r w h
  . exact rb55 N hE hB k hk l A c i r w h
 | @at_ k j h0 h2 => exact rb42 N hE hB k j ⟨h0, kid_lt (by simp) hl⟩ ⟨h2, kid_lt (by simp) hl⟩ l A c i r w h
 | @cmp op k j ho3 h0 h2 =>
  have hk : Rt 0 k ∧ k.flat.length <= N := ⟨h0, kid_lt (by simp) hl⟩
  have hj : Rt 0 j ∧ j.flat.length <= N := ⟨h2, kid_lt (by simp) hl⟩
  have ho2 : op = 32 ∨ op = 33 ∨ op = 34 ∨ op = 35 := by omega
  rcases ho2 with rfl | rfl | rfl | rfl
  . exact rb32 N hE hB k j hk hj l A c i r w h
  . exact rb33 N hE hB k j hk hj l A c i r w h
  . exact rb34 N hE hB k j hk hj l A c i r w h
  . exact rb35 N hE hB k j hk hj l A c i r w h
 | @bin op k j ho3 h0 h2 =>
  have hk : Rt 0 k ∧ k.flat.length <= N := ⟨h0, kid_lt (by simp) hl⟩
  have hj : Rt 0 j ∧ j.flat.length <= N := ⟨h2, kid_lt (by simp) hl⟩
  have ho2 : op = 30 ∨ op = 31 ∨ op = 36 ∨ op = 37 ∨ op = 38 ∨ op = 39 ∨ op = 40 := by omega
  rcases ho2 with rfl | rfl | rfl | rfl | rfl | rfl | rfl
  . exact rb30 N hE hB k j hk hj l A c i r w h
  . exact rb31 N hE hB k j hk hj l A c i r w h
  . exact rb36 N hE hB k j hk hj l A c i r w h
  . exact rb37 N hE hB k j hk hj l A c i r w h
  . exact rb38 N hE hB k j hk hj l A c i r w h
  . exact rb39 N hE hB k j hk hj l A c i r w h
  . exact rb40 N hE hB k j hk hj l A c i r w h
theorem rstmt_step (N : Nat) (hE : AtR N) (hB : BlockR N) : StmtR (N + 1) := by
 intro T hT hl l A c i r w hlen hd hrd
 obtain ⟨x, ks⟩ := T
 have h : Twg w l A i r x ks := ⟨hlen, hd, hrd, rt_cok hT⟩
 cases hT with
 | @put op s k ho2 hs h0 =>
  have hk : Rt 0 k ∧ k.flat.length <= N := ⟨h0, kid_lt (by simp) hl⟩
  rcases ho2 with rfl | rfl
  . exact rs4 N hE hB k hk s l A c i r w h
  . exact rs5 N hE hB k hk s l A c i r w h
 | @if2 k j h0 h2 => exact rs6a N hE hB k j ⟨h0, kid_lt (by simp) hl⟩ ⟨h2, kid_lt (by simp) hl⟩ l A c i r w h
 | @if3 k j u h0 h2 h3 => exact rs6b N hE hB k j u ⟨h0, kid_lt (by simp) hl⟩ ⟨h2, kid_lt (by simp) hl⟩ ⟨h3, kid_lt (by simp) hl⟩ l A c i r w h
 | @while_ k j h0 h2 => exact rs7 N hE hB k j ⟨h0, kid_lt (by simp) hl⟩ ⟨h2, kid_lt (by simp) hl⟩ l A c i r w h
 | @do_ op k ho2 h0 =>
  have hk : Rt 0 k ∧ k.flat.length <= N := ⟨h0, kid_lt (by simp) hl⟩
  have ho3 : op = 8 ∨ op = 9 ∨ op = 10 ∨ op = 11 := by omega
  rcases ho3 with rfl | rfl | rfl | rfl
  . exact rs8 N hE hB k hk l A c i r w h
  . exact rs9 N hE hB k hk l A c i r w h
  . exact rs10 N hE hB k hk l A c i r w h
  . exact rs11 N hE hB k hk l A c i r w h
theorem ref_ok : ∀ N, AtR N ∧ BlockR N ∧ StmtR N
 | 0 => ⟨fun T _ h => absurd (flat_pos T) (by omega), fun T _ h => absurd (flat_pos T) (by omega), fun T _ h => absurd (flat_pos T) (by omega)⟩
 | N + 1 => by
  obtain ⟨h1, h2, h3⟩ := ref_ok N
  exact ⟨rat_step (N + 1) (rbare_step N h1 h2), rblock_step N h3, rstmt_step N h1 h2⟩
theorem rtok_expr (T : Tr) (hT : Rt 0 T) (l : List Tw) (A : Option Addr) (c : Nat) (w : World) (hl : l.length <= 100000) (hd : l = T.flat) (hrd : RdL twcell 4 w A l) (ho : opOf T ≠ 1) (ho9 : opOf T < 256) :
 Calls prog 30 #[.slice A l.length c] w (RP w (sh T 1)) := by
 obtain ⟨x, ks⟩ := T
 have h : Twg w l A 0 [] x ks := ⟨hl, by rw [List.drop_zero, List.append_nil]; exact hd, hrd, rt_cok hT⟩
 have HX : Hid (Calls prog 63 #[.slice A l.length c, .int .i64 0, .int .i64 1] w (RP w (sh (.node x ks) 1))) := zh (by
  have := (ref_ok 100000).1 (.node x ks) hT (by rw [<- hd]; exact hl) l A c 0 [] 1 w hl (by omega) (by rw [List.drop_zero, List.append_nil]; exact hd) hrd
  exact this)
 obtain ⟨ha1, hi, ha2, b, off, rfl, hbl, hrg⟩ := h.at_
 have k0 : w.cell? ⟨b, off, none⟩ = some (.int .u8 (x.op : Nat)) := by
  have := hrg w (Below.refl _ _) 0 _ rfl
  simpa using this
 obtain ⟨q, hq⟩ := ex l.length
 rw [<- hq] at HX hi |-
 obtain ⟨op, hop⟩ := ex x.op
 rw [<- hop] at k0
 have hne : ((op : Int) != 1) = true := by
  have h1 : x.op ≠ 1 := ho
  rw [bne_iff_ne]; omega
 clear hT hl hd hrd ho ho9 h ha1 ha2 hrg hq hop
 go_in
 go_wp2_with fail
 refine HX.out.mono ?_
 rintro e w1 ⟨A1, c1, rfl, ho1, hb1⟩
 have H1 := zh (ai ho1 hb1)
 clear ho1 hb1 HX
 go_wp2_with fail
 go_ret
 exact ⟨A1, c1, rfl, H1.out.1, H1.out.2⟩
end Go.Proofs.YtbcadlocldplfaaDoor
