/- The document's show: Tokens of a flow. And what follows from it. -/
import Derived.Deep.QuietTactic
import Derived.BigQuiet
import Derived.Outline
import Derived.Deep.DeepCutAuto
import Derived.Test.YtbcadlocldplfaaDoorQte
import Derived.Test.YtbcadlocldplfaaDoorQtg
import Derived.Test.YtbcadlocldplfaaDoorQth
import Derived.Test.YtbcadlocldplfaaDoorQti
import Derived.Test.YtbcadlocldplfaaDoorQtj
import Derived.Test.YtbcadlocldplfaaDoorQto
import Derived.Test.YtbcadlocldplfaaDoorQtp
import Derived.Test.YtbcadlocldplfaaDoorQtq
import Derived.Test.YtbcadlocldplfaaDoorQt0
set_option maxHeartbeats 16000000
set_option linter.unusedSimpArgs false
set_option linter.unusedVariables false
namespace Go.Proofs.YtbcadlocldplfaaDoor
open Go.Proofs.Tryd
set_option maxRecDepth 100000
open Go.RowKit T8
theorem names_cok (ss : List ByteArray) : coks (ss.map nameT) := by
 induction ss with
 | nil => exact trivial
 | cons s ss ih => exact ⟨⟨rfl, trivial⟩, ih⟩
theorem kid_one {w : World} {B n c b off p z j : Nat} {ks : List Tr} {k : Tr} (h : w.ownsRow B 3 1 (.slice (some ⟨b, off, none⟩) n c) n (ncells (posL p ks))) (hk : ks[j]? = some k) (hz : z = p + (flats (ks.take j)).length) : w.cell? ⟨b, off + j, none⟩ = some (.int .i64 (z : Nat)) := by
 obtain ⟨b1, o1, e1, _, h3⟩ := kid_read (rdn_own h (by have := h.1; rw [ncells_length] at this; rw [this]; omega)) hk
 injection e1 with e1
 injection e1 with e1 e2
 subst e1
 subst e2
 rw [hz]
 exact h3
theorem rtok_flow (s : ByteArray) (ss : List ByteArray) (b : Tr) (hb : Rt 1 b) (l : List Tw) (A : Option Addr) (c : Nat) (w : World) (hl : l.length <= 100000) (hd : l = (Tr.node ⟨1, ((ss.length + 1 : Nat) : Int), 0, s⟩ (ss.map nameT ++ [b])).flat) (hrd : RdL twcell 4 w A l) :
 Calls prog 30 #[.slice A l.length c] w (RP w (sh (.node ⟨1, ((ss.length + 1 : Nat) : Int), 0, s⟩ (ss.map nameT ++ [b])) 13)) := by
 rw [flow_sh]
 obtain ⟨n, hn⟩ : ∃ z, z = ss.length := ⟨_, rfl⟩
 obtain ⟨M, hM⟩ : ∃ z, z = n + 1 := ⟨_, rfl⟩
 have hcok : (Tr.node ⟨1, ((ss.length + 1 : Nat) : Int), 0, s⟩ (ss.map nameT ++ [b])).cok := ⟨by simp, (coks_append _ _).2 ⟨names_cok ss, rt_cok hb, trivial⟩⟩
 have h : Twg w l A 0 [] ⟨1, ((ss.length + 1 : Nat) : Int), 0, s⟩ (ss.map nameT ++ [b]) := ⟨hl, by rw [List.drop_zero, List.append_nil]; exact hd, hrd, hcok⟩
 have HKD := zh (fun W (hW : Below w.heap.size w W) => refKids_any ⟨1, ((ss.length + 1 : Nat) : Int), 0, s⟩ (ss.map nameT ++ [b]) A c 0 l [] W hl hcok (by rw [List.drop_zero, List.append_nil]; exact hd) (rdw_of (hrd.below hW)))
 rw [show (ss.map nameT ++ [b]).length = M by rw [lna, List.length_map, hM, hn]; rfl] at HKD
 have HBL := zh (fun W (hW : Below w.heap.size w W) => h.blk (ref_ok 100000).2.1 (j := n) (k := b) (by rw [hn]; simp) ⟨hb, by
  have h1 := T8.flat_le (k := b) (ks := ss.map nameT ++ [b]) (by simp)
  have h2 := drop_len h.at_.2.2.1
  rw [lna] at h2
  omega⟩ c W hW)
 obtain ⟨zb, hzb⟩ : ∃ z, z = 0 + 1 + (flats ((ss.map nameT ++ [b]).take n)).length := ⟨_, rfl⟩
 have HZB := zh hzb
 have hzb9 : zb <= 100000 := by rw [hzb]; exact h.pos (j := n) (k := b) (by rw [hn]; simp)
 rw [<- hzb] at HBL
 obtain ⟨ha1, hi, ha2, bb, off, rfl, hbl, hrg⟩ := h.at_
 have HT := zh h
 have HFB : Hid (Few 10 b) := zh ((few_any hb).2.1 rfl)
 have HAL : Hid ((commas 12 (shs (ss.map nameT))).length <= 800000) := zh (by
  have h1 := few_commas (m := 12) (ks := ss.map nameT) (fun k hk => by obtain ⟨x, _, rfl⟩ := List.mem_map.1 hk; exact (by decide : 1 + 1 <= 8 * 1))
  have h2 := drop_len h.at_.2.2.1
  rw [lna, flats_append, lna] at h2
  omega)
 have HN : Hid (n = ss.length ∧ M = n + 1) := zh ⟨hn, hM⟩
 have HRG : Hid (∀ W, Below w.heap.size w W -> W.cell? ⟨bb, off, none⟩ = some (.int .u8 1) ∧ W.cell? ⟨bb, off + 3, none⟩ = some (.string s)) := zh (fun W hW => ⟨by have := hrg W hW 0 _ rfl; simpa using this, by have := hrg W hW 3 _ rfl; simpa using this⟩)
 have k0 := (HRG.out w (Below.refl _ _)).1
 have HWD := zh (fun s W => rword_v s W)
 have HSG := zh (fun s W => rsign_v s W)
 obtain ⟨q, hq⟩ := ex l.length
 have HQ := zh hq
 rw [<- hq] at HKD HBL hi |-
 have hq9 : q <= 100000 := by omega
 have hM1 : 0 < M := by omega
 clear hb hl hd hrd h ha1 ha2 hrg hq hcok hn hM hzb
 go_in
 go_upto_region 3 with fail
 clear k0
 refine F3.wp_region_plan (.q 1 (.q 2 (.q 3 (.q 4 (.a1 0 (.a1 5 (.a1 6 (.a1 7 (.q 8 .fin))))))))) 7 (fun W => Below w.heap.size w W) (by kernel_rfl) rfl (by kernel_rfl) ((Below.refl _ _).drew) ?_
 refine F3.wpPlan_q rfl rfl rfl ?_; intro K hK
 go_big_quiet_op
 first | go_big_quiet_on | (refine ⟨_, fun _ _ => rfl, ?_⟩; go_big_quiet_on)
 refine F3.wpPlan_q rfl rfl rfl ?_; intro K hK
 go_big_quiet_op
 first | go_big_quiet_on | (refine ⟨_, fun _ _ => rfl, ?_⟩; go_big_quiet_on)
 refine F3.wpPlan_q rfl rfl rfl ?_; intro K hK
 go_big_quiet_op
 first | go_big_quiet_on | (refine ⟨_, fun _ _ => rfl, ?_⟩; go_big_quiet_on)
 refine F3.wpPlan_q rfl rfl rfl ?_; intro K hK
 refine ⟨.string s, fun W hW => ?_, ?_⟩
 . have q0 := (HRG.out W hW).2
   unfold Oper.quietAt Oper.quietUpon
   simp [go_sem, q0]
 refine hK _ ?_
 clear hK K
 try simp only [Act.put, List.setIfInBounds_toArray, List.set_cons_succ, List.set_cons_zero]
 refine F3.wpPlan_act true rfl rfl rfl ?_; intro K hK
 go_simp
 refine (HWD.out ⟨#[102, 108, 111, 119]⟩ w.drew).mono ?_
 rintro e w4 ⟨rfl, hb⟩
 have Hw4 : Hid (Below w.heap.size w w4) := zh (((Below.refl w.heap.size w).drew).trans hb)
 refine hK _ _ (fun _ => Hw4.out) ?_
 clear hK K hb
 refine F3.wpPlan_act true rfl rfl rfl ?_; intro K hK
 go_simp
 refine (HWD.out s w4).mono ?_
 rintro e w5 ⟨rfl, hb⟩
 have Hw5 : Hid (Below w.heap.size w w5) := zh (Hw4.out.trans (hb.mono Hw4.out.size))
 refine hK _ _ (fun _ => Hw5.out) ?_
 clear hK K hb
 refine F3.wpPlan_act true rfl rfl rfl ?_; intro K hK
 go_simp
 refine (HSG.out ⟨#[40]⟩ w5).mono ?_
 rintro e w6 ⟨rfl, hb⟩
 have Hw6 : Hid (Below w.heap.size w w6) := zh (Hw5.out.trans (hb.mono Hw5.out.size))
 refine hK _ _ (fun _ => Hw6.out) ?_
 clear hK K hb
 have H7 : Hid (Below w.heap.size w (w6.alloc (.cells #[.int .u8 1, .string ⟨#[102, 108, 111, 119]⟩, .int .i64 0, .int .i64 0, .int .u8 1, .string s, .int .i64 0, .int .i64 0, .int .u8 4, .string ⟨#[40]⟩, .int .i64 0, .int .i64 0] 35)) ∧ (w6.alloc (.cells #[.int .u8 1, .string ⟨#[102, 108, 111, 119]⟩, .int .i64 0, .int .i64 0, .int .u8 1, .string s, .int .i64 0, .int .i64 0, .int .u8 4, .string ⟨#[40]⟩, .int .i64 0, .int .i64 0] 35)).ownsRow w.heap.size 35 4 (.slice (some ⟨w6.heap.size, 0, none⟩) 3 3) 3 (rowOf zcell [⟨1, ⟨#[102, 108, 111, 119]⟩, 0, 0⟩, ⟨1, s, 0, 0⟩, ⟨4, ⟨#[40]⟩, 0, 0⟩])) := zh ⟨Hw6.out.alloc Hw6.out.size _, own_new [⟨1, ⟨#[102, 108, 111, 119]⟩, 0, 0⟩, ⟨1, s, 0, 0⟩, ⟨4, ⟨#[40]⟩, 0, 0⟩] 3 _ rfl rfl Hw6.out.size (by unfold maxLen; omega)⟩
 refine F3.wpPlan_act false rfl rfl rfl ?_; intro K hK
 go_simp
 refine hK _ _ (fun h => by cases h) ?_
 clear hK K
 try simp only [Act.put, List.setIfInBounds_toArray, List.set_cons_succ, List.set_cons_zero]
 refine F3.wpPlan_p rfl rfl rfl ?_; intro K hK
 refine ⟨.slice (some ⟨w6.heap.size, 0, none⟩) 3 3, fun W hW => ?_, ?_⟩
 . unfold Oper.quietAt Oper.quietUpon
   simp [go_sem]
 refine hK _ ?_
 clear hK K
 try simp only [Act.put, List.setIfInBounds_toArray, List.set_cons_succ, List.set_cons_zero]
 refine F3.wpPlan_fin ?_
 generalize w6.alloc _ = wa at *
 go_wp2_with fail
 refine (HKD.out wa H7.out.1).mono ?_
 rintro e w2 ⟨⟨K, cK, rfl, hoK⟩, hb2⟩
 have H2 : Hid (Below w.heap.size w w2 ∧ w2.ownsRow w.heap.size 35 4 (.slice (some ⟨w6.heap.size, 0, none⟩) 3 3) 3 (rowOf zcell [⟨1, ⟨#[102, 108, 111, 119]⟩, 0, 0⟩, ⟨1, s, 0, 0⟩, ⟨4, ⟨#[40]⟩, 0, 0⟩]) ∧ w2.ownsRow w.heap.size 3 1 (.slice K M cK) M (ncells (posL (0 + 1) (ss.map nameT ++ [b])))) :=
  zh ⟨H7.out.1.trans (hb2.mono H7.out.1.size), own_below H7.out.2 hb2, own_mono hoK H7.out.1.size⟩
 clear hoK hb2 HKD
 go_wp2_with fail
 go_loopw [3, 5] (fun s3 s5 wr => ∃ (j m c1 : Nat) (A1 : Option Addr), s3 = .slice A1 m c1 ∧ s5 = .int .i64 (j : Nat) ∧ j <= n ∧ m = (commas 12 (shs ((ss.map nameT).take j))).length + 3 ∧ wr.ownsRow w.heap.size 35 4 (.slice A1 m c1) m (rowOf zcell ([⟨1, ⟨#[102, 108, 111, 119]⟩, 0, 0⟩, ⟨1, s, 0, 0⟩, ⟨4, ⟨#[40]⟩, 0, 0⟩] ++ commas 12 (shs ((ss.map nameT).take j)))) ∧ Below w.heap.size w wr ∧ wr.ownsRow w.heap.size 3 1 (.slice K M cK) M (ncells (posL (0 + 1) (ss.map nameT ++ [b])))) (fun _ s5 _ => n - (intOf s5).toNat)
 case atStart => exact ⟨0, 3, 3, some ⟨w6.heap.size, 0, none⟩, rfl, rfl, by omega, by rw [List.take_zero, shs]; rfl, by rw [List.take_zero, shs]; exact H2.out.2.1, H2.out.1, H2.out.2.2⟩
 case round =>
  obtain ⟨j, m, c1, A1, rfl, rfl, hj, hm, ho, hb, hoK⟩ := hrel
  have HO := zh (ai ho (ai hb (ai hm hoK)))
  have hm9 : m <= 900000 := by
   have := take_len 12 (ss.map nameT) j
   have := HAL.out
   omega
  have hnM := HN.out.2
  have hn5 : n <= 100000 := by have h1 := len_flats (ss.map nameT ++ [b]); have h2 := drop_len HT.out.at_.2.2.1; rw [lna] at h2; rw [lna, List.length_map] at h1; have h3 := HT.out.len; have h4 := HN.out.1; omega
  have hwr : wrap64 ((j : Int) + 1) = (j : Int) + 1 := by first | (unfold wrap64; omega) | (rw [wrap64_id] <;> omega) | exact wrap64_of (by omega) (by omega)
  clear ho hb hm hoK
  by_cases hlt : j < n
  . obtain ⟨sj, hsj⟩ : ∃ x, ss[j]? = some x := ⟨_, List.getElem?_eq_getElem (by have := HN.out.1; omega)⟩
    have htj : (ss.map nameT)[j]? = some (nameT sj) := by rw [List.getElem?_map, hsj]; rfl
    have hkj : (ss.map nameT ++ [b])[j]? = some (nameT sj) := by rw [List.getElem?_append_left (by rw [List.length_map]; have := HN.out.1; omega)]; exact htj
    obtain ⟨kb, ko, rfl, hkb, hcell⟩ := kid_read (rdn_own HO.out.2.2.2 (by rw [posL_length, lna, List.length_map, HN.out.2, HN.out.1]; rfl)) hkj
    obtain ⟨z, hz⟩ := ex (0 + 1 + (flats ((ss.map nameT ++ [b]).take j)).length)
    rw [<- hz] at hcell
    have hdz := drop_kid HT.out.at_.2.2.1 hkj
    rw [<- hz] at hdz
    have hlz := (drop_head (x := (⟨2, 0, 0, sj⟩ : Tw)) hdz).1
    have hzq : z < q := by rw [HQ.out]; exact (List.getElem?_eq_some_iff.1 hlz).1
    have HTX : Hid (∀ W, Below w.heap.size w W -> W.cell? ⟨bb, off + z * 4 + 3, none⟩ = some (.string sj)) := zh (fun W hW => by
     rcases HT.out.rd with h1 | ⟨b1, o1, e1, h2, h3⟩
     . rw [h1] at hlz; simp at hlz
     . injection e1 with e1
       injection e1 with e1 e2
       subst e1
       subst e2
       exact (hW.cell (p := ⟨bb, _, none⟩) h2).trans (h3 z _ hlz 3 _ rfl))
    have HTJ := zh htj
    have HKJ := zh hkj
    have HZJ := zh hz
    clear hsj htj hkj hz hdz hlz
    have i1 : (j : Int) + 1 < (M : Int) := by omega
    have i2 : decide ((j : Int) + 1 < (M : Int)) = true := dqt i1
    have i3 : j + 1 < M := by omega
    clear hnM
    have z1 : (z : Int) < (q : Int) := by omega
    have k1 := (HO.out.2.1.cell (p := ⟨bb, off + z * 4 + 3, none⟩) hbl).trans (HTX.out w (Below.refl _ _))
    by_cases h0 : j = 0
    . have HCM : Hid (commas 12 (shs ((ss.map nameT).take (j + 1))) = commas 12 (shs ((ss.map nameT).take j)) ++ [wt sj]) := zh (by rw [take_shs _ HTJ.out, commas_snoc, if_pos (by rw [h0, List.take_zero]; rfl), h0, List.take_zero]; rfl)
      have j0 : decide ((0 : Int) < (j : Int)) = false := dqf (by omega)
      have hcell2 : wr.cell? ⟨kb, ko + j, none⟩ = some (.int .i64 (z : Nat)) := hcell
      have j1 : ¬ 0 < j := by omega
      clear h0
      go_wp2_with fail
      refine (HWD.out sj wr).mono ?_
      rintro e w7 ⟨rfl, hb⟩
      have HX7 : Hid (Below w.heap.size w (w7.alloc (.cells #[.int .u8 1, .string sj, .int .i64 0, .int .i64 0] 35)) ∧ (w7.alloc (.cells #[.int .u8 1, .string sj, .int .i64 0, .int .i64 0] 35)).ownsRow w.heap.size 35 4 (.slice A1 (m) c1) (m) (rowOf zcell ([⟨1, ⟨#[102, 108, 111, 119]⟩, 0, 0⟩, ⟨1, s, 0, 0⟩, ⟨4, ⟨#[40]⟩, 0, 0⟩] ++ commas 12 (shs ((ss.map nameT).take j)))) ∧ RdZ (w7.alloc (.cells #[.int .u8 1, .string sj, .int .i64 0, .int .i64 0] 35)) (some ⟨w7.heap.size, 0, none⟩) [⟨1, sj, 0, 0⟩] ∧ (w7.alloc (.cells #[.int .u8 1, .string sj, .int .i64 0, .int .i64 0] 35)).ownsRow w.heap.size 3 1 (.slice (some ⟨kb, ko, none⟩) M cK) M (ncells (posL (0 + 1) (ss.map nameT ++ [b])))) := zh (by
       have h1 := (HO.out.2.1).trans (hb.mono (HO.out.2.1).size)
       exact ⟨h1.alloc h1.size _, (own_below HO.out.1 hb).alloc _, tok_read 1 sj 0, (own_below HO.out.2.2.2 hb).alloc _⟩)
      clear hb
      go_wp2_with (at_builtin; refine wpList_app_z rfl (.tmp 36) (.tmp 46) rfl w.heap.size (m) c1 1 1 A1 (some ⟨w7.heap.size, 0, none⟩) ([⟨1, ⟨#[102, 108, 111, 119]⟩, 0, 0⟩, ⟨1, s, 0, 0⟩, ⟨4, ⟨#[40]⟩, 0, 0⟩] ++ commas 12 (shs ((ss.map nameT).take j))) [⟨1, sj, 0, 0⟩] rfl HX7.out.2.1 rfl rfl HX7.out.2.2.1 (by omega) HX7.out.1.size ?_; intro A8 c8 w8 ho hg; have HY7 := zh (ai ho (ai (app_below HX7.out.1 HX7.out.2.1 hg HX7.out.1.size) (own_other HX7.out.2.2.2 HX7.out.2.1 (by decide) hg))); clear ho hg)
      go_roundw
      case rel => exact ⟨j + 1, m + 1, c8, A8, rfl, by go_num, by omega, by rw [HCM.out, lna, List.length_singleton]; have := HO.out.2.2.1; omega, by rw [HCM.out, <- List.append_assoc]; exact HY7.out.1, HY7.out.2.1, HY7.out.2.2⟩
      case measure => simp [intOf]; omega
    . have HCM : Hid (commas 12 (shs ((ss.map nameT).take (j + 1))) = commas 12 (shs ((ss.map nameT).take j)) ++ sg [44] :: [wt sj]) := zh (by
       rw [take_shs _ HTJ.out, commas_snoc, if_neg]
       . rfl
       intro he
       have := congrArg List.length he
       rw [shs_len, List.length_take, List.length_map, <- HN.out.1, lnn] at this
       omega)
      have j0 : decide ((0 : Int) < (j : Int)) = true := dqt (by omega)
      have j1 : 0 < j := by omega
      go_wp2_with fail
      refine (HSG.out ⟨#[44]⟩ wr).mono ?_
      rintro e w7 ⟨rfl, hb⟩
      have HX7 : Hid (Below w.heap.size w (w7.alloc (.cells #[.int .u8 4, .string ⟨#[44]⟩, .int .i64 0, .int .i64 0] 35)) ∧ (w7.alloc (.cells #[.int .u8 4, .string ⟨#[44]⟩, .int .i64 0, .int .i64 0] 35)).ownsRow w.heap.size 35 4 (.slice A1 (m) c1) (m) (rowOf zcell ([⟨1, ⟨#[102, 108, 111, 119]⟩, 0, 0⟩, ⟨1, s, 0, 0⟩, ⟨4, ⟨#[40]⟩, 0, 0⟩] ++ commas 12 (shs ((ss.map nameT).take j)))) ∧ RdZ (w7.alloc (.cells #[.int .u8 4, .string ⟨#[44]⟩, .int .i64 0, .int .i64 0] 35)) (some ⟨w7.heap.size, 0, none⟩) [⟨4, ⟨#[44]⟩, 0, 0⟩] ∧ (w7.alloc (.cells #[.int .u8 4, .string ⟨#[44]⟩, .int .i64 0, .int .i64 0] 35)).ownsRow w.heap.size 3 1 (.slice (some ⟨kb, ko, none⟩) M cK) M (ncells (posL (0 + 1) (ss.map nameT ++ [b])))) := zh (by
       have h1 := (HO.out.2.1).trans (hb.mono (HO.out.2.1).size)
       exact ⟨h1.alloc h1.size _, (own_below HO.out.1 hb).alloc _, tok_read 4 ⟨#[44]⟩ 0, (own_below HO.out.2.2.2 hb).alloc _⟩)
      clear hb
      go_wp2_with (at_builtin; refine wpList_app_z rfl (.tmp 32) (.tmp 34) rfl w.heap.size (m) c1 1 1 A1 (some ⟨w7.heap.size, 0, none⟩) ([⟨1, ⟨#[102, 108, 111, 119]⟩, 0, 0⟩, ⟨1, s, 0, 0⟩, ⟨4, ⟨#[40]⟩, 0, 0⟩] ++ commas 12 (shs ((ss.map nameT).take j))) [⟨4, ⟨#[44]⟩, 0, 0⟩] rfl HX7.out.2.1 rfl rfl HX7.out.2.2.1 (by omega) HX7.out.1.size ?_; intro A8 c8 w8 ho hg; have HY7 := zh (ai ho (ai (app_below HX7.out.1 HX7.out.2.1 hg HX7.out.1.size) (own_other HX7.out.2.2.2 HX7.out.2.1 (by decide) hg))); clear ho hg; have hcell2 : w8.cell? ⟨kb, ko + j, none⟩ = some (.int .i64 (z : Nat)) := (kid_one HY7.out.2.2 HKJ.out HZJ.out); have k2 := HTX.out w8 HY7.out.2.1)
      refine (HWD.out sj w8).mono ?_
      rintro e w9 ⟨rfl, hb⟩
      have HX9 : Hid (Below w.heap.size w (w9.alloc (.cells #[.int .u8 1, .string sj, .int .i64 0, .int .i64 0] 35)) ∧ (w9.alloc (.cells #[.int .u8 1, .string sj, .int .i64 0, .int .i64 0] 35)).ownsRow w.heap.size 35 4 (.slice A8 (m + 1) c8) (m + 1) (rowOf zcell ([⟨1, ⟨#[102, 108, 111, 119]⟩, 0, 0⟩, ⟨1, s, 0, 0⟩, ⟨4, ⟨#[40]⟩, 0, 0⟩] ++ commas 12 (shs ((ss.map nameT).take j)) ++ [⟨4, ⟨#[44]⟩, 0, 0⟩])) ∧ RdZ (w9.alloc (.cells #[.int .u8 1, .string sj, .int .i64 0, .int .i64 0] 35)) (some ⟨w9.heap.size, 0, none⟩) [⟨1, sj, 0, 0⟩] ∧ (w9.alloc (.cells #[.int .u8 1, .string sj, .int .i64 0, .int .i64 0] 35)).ownsRow w.heap.size 3 1 (.slice (some ⟨kb, ko, none⟩) M cK) M (ncells (posL (0 + 1) (ss.map nameT ++ [b])))) := zh (by
       have h1 := (HY7.out.2.1).trans (hb.mono (HY7.out.2.1).size)
       exact ⟨h1.alloc h1.size _, (own_below HY7.out.1 hb).alloc _, tok_read 1 sj 0, (own_below HY7.out.2.2 hb).alloc _⟩)
      clear hb
      go_wp2_with (at_builtin; refine wpList_app_z rfl (.tmp 36) (.tmp 46) rfl w.heap.size (m + 1) c8 1 1 A8 (some ⟨w9.heap.size, 0, none⟩) ([⟨1, ⟨#[102, 108, 111, 119]⟩, 0, 0⟩, ⟨1, s, 0, 0⟩, ⟨4, ⟨#[40]⟩, 0, 0⟩] ++ commas 12 (shs ((ss.map nameT).take j)) ++ [⟨4, ⟨#[44]⟩, 0, 0⟩]) [⟨1, sj, 0, 0⟩] rfl HX9.out.2.1 rfl rfl HX9.out.2.2.1 (by omega) HX9.out.1.size ?_; intro A10 c10 w10 ho hg; have HY9 := zh (ai ho (ai (app_below HX9.out.1 HX9.out.2.1 hg HX9.out.1.size) (own_other HX9.out.2.2.2 HX9.out.2.1 (by decide) hg))); clear ho hg)
      go_roundw
      case rel => exact ⟨j + 1, m + 1 + 1, c10, A10, rfl, by go_num, by omega, by rw [HCM.out, lna]; have := HO.out.2.2.1; simp only [lnc, lnn]; omega, by have h1 := HY9.out.1; simp only [List.append_assoc] at h1; rw [HCM.out]; exact h1, HY9.out.2.1, HY9.out.2.2⟩
      case measure => simp [intOf]; omega
  . have i2 : decide ((j : Int) + 1 < (M : Int)) = false := dqf (by omega)
    have i3 : ¬ j + 1 < M := by omega
    clear hnM
    have HF : Hid ((ss.map nameT).take j = ss.map nameT) := zh (List.take_of_length_le (by rw [List.length_map, <- HN.out.1]; omega))
    rw [HF.out] at HO
    have hkn : (ss.map nameT ++ [b])[n]? = some b := by rw [HN.out.1]; simp
    obtain ⟨kb, ko, rfl, hkb, hcell⟩ := kid_read (rdn_own HO.out.2.2.2 (by rw [posL_length, lna, List.length_map, HN.out.2, HN.out.1]; rfl)) hkn
    have HKN := zh hkn
    have hsub : wrap64 ((M : Int) - 1) = (n : Int) := by have := HN.out.2; unfold wrap64; omega
    have hnm : (n : Int) < (M : Int) := by have := HN.out.2; omega
    clear hcell hkn hkb
    go_wp2_with fail
    refine (HSG.out ⟨#[41]⟩ wr).mono ?_
    rintro e w7 ⟨rfl, hb⟩
    have HX7 : Hid (Below w.heap.size w (w7.alloc (.cells #[.int .u8 4, .string ⟨#[41]⟩, .int .i64 0, .int .i64 0] 35)) ∧ (w7.alloc (.cells #[.int .u8 4, .string ⟨#[41]⟩, .int .i64 0, .int .i64 0] 35)).ownsRow w.heap.size 35 4 (.slice A1 m c1) m (rowOf zcell ([⟨1, ⟨#[102, 108, 111, 119]⟩, 0, 0⟩, ⟨1, s, 0, 0⟩, ⟨4, ⟨#[40]⟩, 0, 0⟩] ++ commas 12 (shs (ss.map nameT)))) ∧ RdZ (w7.alloc (.cells #[.int .u8 4, .string ⟨#[41]⟩, .int .i64 0, .int .i64 0] 35)) (some ⟨w7.heap.size, 0, none⟩) [⟨4, ⟨#[41]⟩, 0, 0⟩] ∧ (w7.alloc (.cells #[.int .u8 4, .string ⟨#[41]⟩, .int .i64 0, .int .i64 0] 35)).ownsRow w.heap.size 3 1 (.slice (some ⟨kb, ko, none⟩) M cK) M (ncells (posL (0 + 1) (ss.map nameT ++ [b])))) := zh (by
     have h1 := HO.out.2.1.trans (hb.mono HO.out.2.1.size)
     exact ⟨h1.alloc h1.size _, (own_below HO.out.1 hb).alloc _, tok_read 4 ⟨#[41]⟩ 0, (own_below HO.out.2.2.2 hb).alloc _⟩)
    clear hb
    go_wp2_with (at_builtin; refine wpList_app_z rfl (.tmp 48) (.tmp 50) rfl w.heap.size m c1 1 1 A1 (some ⟨w7.heap.size, 0, none⟩) ([⟨1, ⟨#[102, 108, 111, 119]⟩, 0, 0⟩, ⟨1, s, 0, 0⟩, ⟨4, ⟨#[40]⟩, 0, 0⟩] ++ commas 12 (shs (ss.map nameT))) [⟨4, ⟨#[41]⟩, 0, 0⟩] rfl HX7.out.2.1 rfl rfl HX7.out.2.2.1 (by omega) HX7.out.1.size ?_; intro A8 c8 w8 ho hg; have HY7 := zh (ai ho (ai (app_below HX7.out.1 HX7.out.2.1 hg HX7.out.1.size) (own_other HX7.out.2.2.2 HX7.out.2.1 (by decide) hg))); clear ho hg; have hcell2 : w8.cell? ⟨kb, ko + (M - 1), none⟩ = some (.int .i64 (zb : Nat)) := (by rw [show M - 1 = n from by have := HN.out.2; omega]; exact kid_one HY7.out.2.2 HKN.out HZB.out))
    refine (HBL.out w8 HY7.out.2.1).mono ?_
    rintro e w9 ⟨A9, c9, rfl, ho9, hb9⟩
    obtain ⟨m9, hm9e⟩ : ∃ z, z = (sh b 10).length := ⟨_, rfl⟩
    have hm99 : m9 <= 900000 := by rw [hm9e]; exact Nat.le_trans (HT.out.few (k := b) (by simp) HFB.out) (by omega)
    rw [<- hm9e] at ho9 |-
    have H9 := zh (ai (HY7.out.2.1.trans (hb9.mono HY7.out.2.1.size)) (ai (own_below HY7.out.1 hb9) (ai (rdz_ow ho9 hm9e) hm9e)))
    clear ho9 hb9 hm9e
    go_wp2_with (at_builtin; refine wpList_app_z rfl (.tmp 52) (.tmp 60) rfl w.heap.size (m + 1) c8 m9 c9 A8 A9 ([⟨1, ⟨#[102, 108, 111, 119]⟩, 0, 0⟩, ⟨1, s, 0, 0⟩, ⟨4, ⟨#[40]⟩, 0, 0⟩] ++ commas 12 (shs (ss.map nameT)) ++ [⟨4, ⟨#[41]⟩, 0, 0⟩]) (sh b 10) rfl H9.out.2.1 rfl H9.out.2.2.2 H9.out.2.2.1 (by omega) H9.out.1.size ?_; intro A10 c10 w10 ho hg; have HZ9 := zh (ai ho (app_below H9.out.1 H9.out.2.1 hg H9.out.1.size)); clear ho hg)
    go_ret
    exact rp_of HZ9.out.1 (by have := HO.out.2.2.1; have := H9.out.2.2.2; simp only [lna, lnc, lnn]; omega) HZ9.out.2 (by simp only [List.append_assoc]; rfl)
theorem rtok_any {l : List Tw} {T : Tr} (hT : Right l T) (hk : Kind T) (A : Option Addr) (c : Nat) (w : World) (hl : l.length <= 100000) (hrd : RdL twcell 4 w A l) (ho9 : opOf T < 256) :
 Calls prog 30 #[.slice A l.length c] w (RP w (shown T)) := by
 by_cases h1 : opOf T = 1
 . obtain ⟨s, ss, bt, g1, g2, g3, g4⟩ := (rt_of T _ hT.1).2.2.2.2 h1
   have hd := hT.2
   rw [g4] at hd |-
   exact rtok_flow s ss bt g3 l A c w hl hd.symm hrd
 . have hx : exprB (opOf T) = true := hk.resolve_left h1
   have hR := (rt_of T _ hT.1).1 hx
   have hs : shown T = sh T 1 := by
    obtain ⟨y, ks⟩ := T
    unfold shown
    dsimp only
    rw [if_neg (show ¬ y.op = 1 from h1)]
   rw [hs]
   exact rtok_expr T hR l A c w hl hT.2.symm hrd h1 ho9
theorem rall_any (A : Option Addr) (c : Nat) (l : List Tw) (w : World) (hok : ∀ x ∈ l, TwOk x) (hrd : RdL twcell 4 w A l) (hlen : l.length <= 100000) :
 Calls prog 13 #[.slice A l.length c] w (TokPost w l) := by
 have HC := zh (refCheck_any A c l w hok (rdw_of hrd) (by omega))
 have HH := zh (ai hok hrd)
 obtain ⟨er, her⟩ : ∃ z, z = (chk l).2 := ⟨_, rfl⟩
 have HR := zh her
 rw [<- her] at HC
 obtain ⟨n, hn⟩ := ex l.length
 have HN := zh hn
 by_cases h0 : er = 0
 . subst h0
   obtain ⟨_, T, h2, _⟩ := chk_fine.1 her.symm
   have HT := zh (ai h2 her.symm)
   obtain ⟨x, r, hx, hop⟩ := head_of h2.2
   have hnpos : 0 < n := by rw [hn, hx]; simp
   have hop9 : x.op < 256 := (hok x (by rw [hx]; simp)).1
   obtain ⟨b, off, rfl, hb, hat⟩ : ∃ b off, A = some ⟨b, off, none⟩ ∧ b < w.heap.size ∧ ∀ i x, l[i]? = some x -> ∀ j v, (twcell x)[j]? = some v -> w.cell? ⟨b, off + i * 4 + j, none⟩ = some v := by
    rcases hrd with h | h
    . rw [hx] at h; cases h
    . exact h
   have k0 : w.cell? ⟨b, off, none⟩ = some (.int .u8 (x.op : Nat)) := by
    have := hat 0 x (by rw [hx]; rfl) 0 _ rfl
    simpa using this
   obtain ⟨op, kids, iv, tx⟩ := x
   dsimp only at k0 hop9 hop
   have hlt1 : ∀ w1 : World, Below w.heap.size w w1 -> w1.cell? ⟨b, off, none⟩ = some (.int .u8 (op : Nat)) ∧ b < w1.heap.size := fun w1 h1 => ⟨(h1.cell (p := ⟨b, off, none⟩) hb).trans k0, Nat.lt_of_lt_of_le hb h1.size⟩
   have HL1 := zh hlt1
   have HOP := zh hop
   have HTK : Hid (Kind T -> ∀ W, Below w.heap.size w W -> Calls prog 30 #[.slice (some ⟨b, off, none⟩) l.length c] W (RP W (shown T))) := zh (fun hk W hW => rtok_any h2 hk _ c W hlen (hrd.below hW) (by rw [<- hop]; exact hop9))
   have HE := zh (fun W => refExpr_any op W hop9)
   rw [<- hn] at HC HTK |-
   clear hx hat k0 hlt1 hop h2 her hn hok hrd hlen
   by_cases h1 : op = 1
   . have HKI : Hid (Kind T) := zh (.inl (by rw [<- HOP.out, h1]))
     subst h1
     go_in
     go_wp2_with fail
     refine HC.out.mono ?_
     rintro e w1 ⟨⟨z, rfl⟩, hb1⟩
     have HB1 := zh hb1
     have k1 := (HL1.out w1 hb1).1
     have hb1' := (HL1.out w1 hb1).2
     clear hb1
     go_wp2_with fail
     refine (HTK.out HKI.out w1 HB1.out).mono ?_
     rintro e w2 ⟨A2, c2, rfl, ho, hb2⟩
     have HO := zh (ai ho hb2)
     clear ho hb2
     obtain ⟨m, hm⟩ := ex ((shown T).length)
     rw [<- hm] at HO |-
     have HM := zh hm
     clear hm
     go_wp2_with fail
     go_ret2
     exact ⟨A2, m, c2, _, 0, rfl, HM.out, own_mono HO.out.1 HB1.out.size, HB1.out.trans (HO.out.2.mono HB1.out.size), .inr ⟨T, HT.out.1, HT.out.2, .inl ⟨HKI.out, rfl, rfl⟩⟩⟩
   . have hne : ((op : Int) != 1) = true := by
      rw [bne_iff_ne]
      omega
     cases hx2 : exprB op with
     | true =>
      rw [hx2] at HE
      have HKI : Hid (Kind T) := zh (.inr (by rw [<- HOP.out]; exact hx2))
      clear hx2 h1
      go_in
      go_wp2_with fail
      refine HC.out.mono ?_
      rintro e w1 ⟨⟨z, rfl⟩, hb1⟩
      have HB1 := zh hb1
      have k1 := (HL1.out w1 hb1).1
      have hb1' := (HL1.out w1 hb1).2
      clear hb1
      go_wp2_with fail
      refine (HE.out w1).mono ?_
      rintro e w1' ⟨rfl, hw⟩
      rw [hw]
      clear hw w1'
      go_wp2_with fail
      refine (HTK.out HKI.out w1 HB1.out).mono ?_
      rintro e w2 ⟨A2, c2, rfl, ho, hb2⟩
      have HO := zh (ai ho hb2)
      clear ho hb2
      obtain ⟨m, hm⟩ := ex ((shown T).length)
      rw [<- hm] at HO |-
      have HM := zh hm
      clear hm
      go_wp2_with fail
      go_ret2
      exact ⟨A2, m, c2, _, 0, rfl, HM.out, own_mono HO.out.1 HB1.out.size, HB1.out.trans (HO.out.2.mono HB1.out.size), .inr ⟨T, HT.out.1, HT.out.2, .inl ⟨HKI.out, rfl, rfl⟩⟩⟩
     | false =>
      rw [hx2] at HE
      have HKI : Hid (¬ Kind T) := zh (by
       rintro (h | h)
       . have := HOP.out; omega
       . rw [<- HOP.out, hx2] at h; cases h)
      clear hx2 h1
      go_in
      go_wp2_with fail
      refine HC.out.mono ?_
      rintro e w1 ⟨⟨z, rfl⟩, hb1⟩
      have HB1 := zh hb1
      have k1 := (HL1.out w1 hb1).1
      have hb1' := (HL1.out w1 hb1).2
      clear hb1
      go_wp2_with fail
      refine (HE.out w1).mono ?_
      rintro e w1' ⟨rfl, hw⟩
      rw [hw]
      clear hw w1'
      go_wp2_with fail
      go_ret2
      exact ⟨none, 0, 0, [], 3, rfl, rfl, World.ownsRow_nil _ _ _ _, HB1.out, .inr ⟨T, HT.out.1, HT.out.2, .inr ⟨HKI.out, rfl, rfl⟩⟩⟩
 . have hne : (er != 0) = true := by simpa using h0
   have HZ : Hid ((chk l).2 ≠ 0 ∧ er = (chk l).2) := zh (by rw [<- HR.out]; exact ⟨h0, rfl⟩)
   rw [<- hn] at HC |-
   clear h0 her hn hok hrd hlen
   go_in
   go_wp2_with fail
   refine HC.out.mono ?_
   rintro e w1 ⟨⟨z, rfl⟩, hb1⟩
   have HB1 := zh hb1
   clear hb1
   go_wp2_with fail
   go_ret2
   exact ⟨none, 0, 0, [], er, rfl, rfl, World.ownsRow_nil _ _ _ _, HB1.out, .inl ⟨HZ.out.1, HZ.out.2, rfl⟩⟩
end Go.Proofs.YtbcadlocldplfaaDoor
namespace Go.Proofs.YtbcadlocldplfaaDoor
open Go.Proofs.Tryd
open T8
def cv (x : Tz) : T7.Tz := ⟨x.kind, x.text, x.int, (x.at_ : Int)⟩
def Gd1 (x : Tz) : Prop := T7.rightB (cv x) = true ∧ x.int <= 9223372036854775807
def GL (l : List Tz) : Prop := ∀ x ∈ l, Gd1 x
theorem GL.nil : GL [] := fun x hx => by cases hx
theorem GL.cons {x : Tz} {l : List Tz} (h : Gd1 x) (hl : GL l) : GL (x :: l) := fun y hy => by
 rcases List.mem_cons.1 hy with rfl | hy
 . exact h
 . exact hl y hy
theorem GL.app {a b : List Tz} (h : GL a) (h2 : GL b) : GL (a ++ b) := fun y hy => (List.mem_append.1 hy).elim (h y) (h2 y)
theorem gd_wd {s : List UInt8} (h : T7.wordOk s = true) : Gd1 (wd s) := by
 refine ⟨?_, show (0 : Int) <= _ by decide⟩
 show (T7.wordOk s && decide ((0 : Int) = 0)) = true
 rw [h]; rfl
theorem gd_wt {s : ByteArray} (h : T7.wordOk s.data.toList = true) : Gd1 (wt s) := by
 refine ⟨?_, show (0 : Int) <= _ by decide⟩
 show (T7.wordOk s.data.toList && decide ((0 : Int) = 0)) = true
 rw [h]; rfl
theorem gd_sg {s : List UInt8} (h : s ∈ T7.sgn17) : Gd1 (sg s) := by
 refine ⟨?_, show (0 : Int) <= _ by decide⟩
 show (decide (s ∈ T7.sgn17) && decide ((0 : Int) = 0)) = true
 rw [dqt h]; rfl
theorem gd_mid (op : Nat) : Gd1 (midT op) := by
 unfold midT
 repeat' split
 all_goals first | exact gd_wd (by decide) | exact gd_sg (by decide)
theorem gd_one (op : Nat) : Gd1 (oneT op) := by
 unfold oneT
 repeat' split
 all_goals exact gd_wd (by decide)
def NiceT (x : Tw) : Prop := (x.op = 1 ∨ x.op = 2 ∨ x.op = 4 ∨ x.op = 5 ∨ x.op = 26 ∨ x.op = 50 ∨ x.op = 51 ∨ x.op = 56 -> T7.wordOk x.text.data.toList = true) ∧ (x.op = 23 -> 0 <= x.int ∧ x.int <= 9223372036854775807) ∧ (x.op = 24 -> x.text.data.toList.length <= 4095)
theorem word_of {s : ByteArray} (h : nameB s.toList = true) : T7.wordOk s.data.toList = true := by
 rw [ByteArray.toList_eq] at h
 generalize s.data.toList = l at h
 unfold nameB at h
 rw [Bool.and_eq_true, Bool.and_eq_true] at h
 obtain ⟨⟨h1, h2⟩, h3⟩ := h
 cases l with
 | nil => cases h2
 | cons c r =>
  show (decide ((c :: r).length <= 24) && lowB c && (c :: r).all innB) = true
  rw [h1, Bool.true_and, Bool.and_eq_true]
  have h2' : decide (97 <= c.toNat ∧ c.toNat <= 122) = true := h2
  refine ⟨?_, ?_⟩
  . unfold lowB
    simpa using h2'
  . rw [List.all_eq_true] at h3 |-
    intro d hd
    have h4 := h3 d hd
    unfold inC at h4
    unfold innB lowB digB
    simp only [decide_eq_true_eq] at h4
    simp only [Bool.or_eq_true, Bool.and_eq_true, decide_eq_true_eq]
    omega
theorem nice_of {x : Tw} {may : Nat -> Bool} (h : fineB x may = true) (hi : x.int <= 9223372036854775807) : NiceT x := by
 unfold fineB at h
 cases hf : formOf x.op with
 | none => rw [hf] at h; cases h
 | some f =>
  rw [hf] at h
  simp only [Bool.and_eq_true, decide_eq_true_eq] at h
  refine ⟨fun ho => ?_, fun ho => ⟨h.2.2.2.2.2, hi⟩, fun ho => ?_⟩
  . have hf2 : f.txt = 78 := by
     rcases ho with ho | ho | ho | ho | ho | ho | ho | ho <;> (rw [ho] at hf; injection hf with hf; rw [<- hf])
    have h1 : txtB f.txt x.text = true := h.2.1
    rw [hf2] at h1
    have h2 : (nameB x.text.toList && !kw x.text.toList) = true := h1
    rw [Bool.and_eq_true] at h2
    exact word_of h2.1
  . have hf2 : f.txt = 84 := by rw [ho] at hf; injection hf with hf; rw [<- hf]
    have h1 : txtB f.txt x.text = true := h.2.1
    rw [hf2] at h1
    have h2 : decide (x.text.size <= 4095) = true := h1
    exact of_decide_eq_true h2
mutual
theorem flat_fine : ∀ (t : Tr) (may : Nat -> Bool), t.ok may -> ∀ x ∈ t.flat, ∃ m, fineB x m = true
 | .node y ks, may, h, x, hx => by
  rw [Tr.ok] at h
  rw [Tr.flat] at hx
  rcases List.mem_cons.1 hx with rfl | hx
  . exact ⟨may, h.1⟩
  . exact flats_fine ks y 0 h.2.2 x hx
theorem flats_fine : ∀ (ks : List Tr) (y : Tw) (i : Nat), oks y i ks -> ∀ x ∈ flats ks, ∃ m, fineB x m = true
 | [], _, _, _, x, hx => by rw [flats] at hx; cases hx
 | k :: ks, y, i, h, x, hx => by
  rw [oks] at h
  rw [flats] at hx
  rcases List.mem_append.1 hx with hx | hx
  . exact flat_fine k _ h.1 x hx
  . exact flats_fine ks y (i + 1) h.2 x hx
end
/-! What is shown of good twigs. -/
theorem gl_br {x : Tw} {ks : List Tr} (h : GL (bareS x (shs ks))) {a : Nat} (ha : a <= 9) : GL (sh (.node x ks) a) := by
 rw [sh_expr x ks ha]
 split
 . exact .cons (gd_sg (by decide)) (.app h (.cons (gd_sg (by decide)) .nil))
 . exact h
theorem gl_commas {m : Nat} : ∀ {ks : List Tr}, (∀ k ∈ ks, GL (sh k m)) -> GL (commas m (shs ks))
 | [], _ => by rw [shs, commas]; exact .nil
 | [k], h => by rw [shs, shs, commas]; exact h k (by simp)
 | k :: j :: ks, h => by
  have h2 := gl_commas (ks := j :: ks) (m := m) (fun i hi => h i (by simp [hi]))
  rw [show shs (k :: j :: ks) = sh k :: sh j :: shs ks from by rw [shs, shs], commas]
  rw [show shs (j :: ks) = sh j :: shs ks from by rw [shs]] at h2
  exact .app (h k (by simp)) (.cons (gd_sg (by decide)) h2)
theorem gl_all {m : Nat} : ∀ {ks : List Tr}, (∀ k ∈ ks, GL (sh k m)) -> GL (allS m (shs ks))
 | [], _ => by rw [shs]; exact .nil
 | k :: ks, h => by
  have h2 := gl_all (ks := ks) (m := m) (fun i hi => h i (by simp [hi]))
  unfold allS at h2 |-
  rw [shs, List.flatMap_cons]
  exact .app (h k (by simp)) h2
theorem gl_lis {o e : List UInt8} (ho : o ∈ T7.sgn17) (he : e ∈ T7.sgn17) {ks : List Tr} (h : ∀ k ∈ ks, GL (sh k 1)) : GL (lisS o (shs ks) e) :=
 .cons (gd_sg ho) (.app (gl_commas h) (.cons (gd_sg he) .nil))
def Nices (t : Tr) : Prop := ∀ x ∈ t.flat, NiceT x
theorem Nices.kid {x : Tw} {ks : List Tr} (h : Nices (.node x ks)) {k : Tr} (hk : k ∈ ks) : Nices k := fun y hy => h y (by rw [Tr.flat]; exact List.mem_cons_of_mem _ (flat_mem hk y hy))
theorem Nices.top {x : Tw} {ks : List Tr} (h : Nices (.node x ks)) : NiceT x := h x (by rw [Tr.flat]; simp)
theorem gl_any {kd : Nat} {t : Tr} (h : Rt kd t) : Nices t -> (kd = 0 -> ∀ a, a <= 9 -> GL (sh t a)) ∧ (kd = 1 -> GL (sh t 10)) ∧ (kd = 2 -> GL (sh t 11)) := by
 induction h with
 | @word op ho =>
  refine fun _ => ⟨fun _ a ha => gl_br ?_ ha, fun h => (by cases h), fun h => (by cases h)⟩
  rcases ho with rfl | rfl | rfl | rfl <;> exact .cons (gd_wd (by decide)) .nil
 | int i =>
  intro hn
  have h2 := hn.top.2.1 rfl
  refine ⟨fun _ a ha => gl_br ?_ ha, fun h => (by cases h), fun h => (by cases h)⟩
  refine .cons ⟨?_, h2.2⟩ .nil
  show (decide (([] : List UInt8) = []) && decide ((0 : Int) <= i)) = true
  rw [dqt rfl, dqt h2.1]; rfl
 | text s =>
  intro hn
  have h2 := hn.top.2.2 rfl
  refine ⟨fun _ a ha => gl_br ?_ ha, fun h => (by cases h), fun h => (by cases h)⟩
  refine .cons ⟨?_, show (0 : Int) <= _ by decide⟩ .nil
  show (decide (s.data.toList.length <= 4095) && decide ((0 : Int) = 0)) = true
  rw [dqt h2]; rfl
 | name hs =>
  refine fun hn => ⟨fun _ a ha => gl_br ?_ ha, fun h => (by cases h), fun h => (by cases h)⟩
  exact .cons (gd_wt (hn.top.1 (by simp))) .nil
 | take hs =>
  refine fun hn => ⟨fun _ a ha => gl_br ?_ ha, fun h => (by cases h), fun h => (by cases h)⟩
  exact .cons (gd_wd (s := [116, 97, 107, 101]) (by decide)) (.cons (gd_wt (hn.top.1 (by simp))) .nil)
 | @list ks h ih =>
  refine fun hn => ⟨fun _ a ha => gl_br ?_ ha, fun h => (by cases h), fun h => (by cases h)⟩
  exact gl_lis (by decide) (by decide) fun k hk => (ih k hk (hn.kid hk)).1 rfl 1 (by omega)
 | @call op s ks ho hs h ih =>
  refine fun hn => ⟨fun _ a ha => gl_br ?_ ha, fun h => (by cases h), fun h => (by cases h)⟩
  have h1 := gl_lis (o := [40]) (e := [41]) (by decide) (by decide) fun k hk => (ih k hk (hn.kid hk)).1 rfl 1 (by omega)
  have h2 := hn.top.1
  rcases ho with rfl | rfl
  . exact .cons (gd_wd (s := [99, 97, 108, 108]) (by decide)) (.cons (gd_wt (h2 (by simp))) h1)
  . exact .cons (gd_wd (s := [99, 104, 105, 108, 100]) (by decide)) (.cons (gd_wt (h2 (by simp))) h1)
 | @one op k ho h ih =>
  refine fun hn => ⟨fun _ a ha => gl_br ?_ ha, fun h => (by cases h), fun h => (by cases h)⟩
  have h1 := gl_lis (o := [40]) (e := [41]) (by decide) (by decide) (mem_one ((ih (hn.kid (by simp))).1 rfl 1 (by omega)))
  have e : bareS ⟨op, 1, 0, bs []⟩ (shs [k]) = oneT op :: lisS [40] (shs [k]) [41] := by rcases ho with rfl | rfl | rfl | rfl | rfl <;> rfl
  rw [e]
  exact .cons (gd_one op) h1
 | @num k j h h2 ih ih2 =>
  refine fun hn => ⟨fun _ a ha => gl_br ?_ ha, fun h => (by cases h), fun h => (by cases h)⟩
  exact .cons (gd_one 41) (gl_lis (o := [40]) (e := [41]) (by decide) (by decide) (mem_duo ((ih (hn.kid (by simp))).1 rfl 1 (by omega)) ((ih2 (hn.kid (by simp))).1 rfl 1 (by omega))))
 | @fork k h ih =>
  refine fun hn => ⟨fun _ a ha => gl_br ?_ ha, fun h => (by cases h), fun h => (by cases h)⟩
  rw [shs1]
  exact .cons (gd_wd (s := [102, 111, 114, 107]) (by decide)) ((ih (hn.kid (by simp))).2.1 rfl)
 | @not k h ih =>
  refine fun hn => ⟨fun _ a ha => gl_br ?_ ha, fun h => (by cases h), fun h => (by cases h)⟩
  rw [shs1]
  exact .cons (gd_wd (s := [110, 111, 116]) (by decide)) ((ih (hn.kid (by simp))).1 rfl 3 (by omega))
 | @pre op k ho h ih =>
  refine fun hn => ⟨fun _ a ha => gl_br ?_ ha, fun h => (by cases h), fun h => (by cases h)⟩
  have h1 := (ih (hn.kid (by simp))).1 rfl 7 (by omega)
  rw [shs1]
  rcases ho with rfl | rfl | rfl
  . exact .cons (gd_sg (s := [45]) (by decide)) h1
  . exact .cons (gd_wd (s := [97, 119, 97, 105, 116]) (by decide)) h1
  . exact .cons (gd_wd (s := [115, 101, 116, 116, 108, 101]) (by decide)) h1
 | @at_ k j h h2 ih ih2 =>
  refine fun hn => ⟨fun _ a ha => gl_br ?_ ha, fun h => (by cases h), fun h => (by cases h)⟩
  rw [shs2]
  exact .app ((ih (hn.kid (by simp))).1 rfl 8 (by omega)) (.cons (gd_sg (s := [91]) (by decide)) (.app ((ih2 (hn.kid (by simp))).1 rfl 1 (by omega)) (.cons (gd_sg (s := [93]) (by decide)) .nil)))
 | @cmp op k j ho h h2 ih ih2 =>
  refine fun hn => ⟨fun _ a ha => gl_br ?_ ha, fun h => (by cases h), fun h => (by cases h)⟩
  rw [shs2]
  have e : bareS ⟨op, 2, 0, bs []⟩ [sh k, sh j] = sh k 5 ++ midT op :: sh j 5 := by
   have : op = 32 ∨ op = 33 ∨ op = 34 ∨ op = 35 := by omega
   rcases this with rfl | rfl | rfl | rfl <;> rfl
  rw [e]
  exact .app ((ih (hn.kid (by simp))).1 rfl 5 (by omega)) (.cons (gd_mid op) ((ih2 (hn.kid (by simp))).1 rfl 5 (by omega)))
 | @bin op k j ho h h2 ih ih2 =>
  refine fun hn => ⟨fun _ a ha => gl_br ?_ ha, fun h => (by cases h), fun h => (by cases h)⟩
  have hc : op = 30 ∨ op = 31 ∨ op = 36 ∨ op = 37 ∨ op = 38 ∨ op = 39 ∨ op = 40 := by omega
  have hw : width op <= 6 := by rcases hc with rfl | rfl | rfl | rfl | rfl | rfl | rfl <;> decide
  rw [shs2]
  have e : bareS ⟨op, 2, 0, bs []⟩ [sh k, sh j] = sh k (width op) ++ midT op :: sh j (width op + 1) := by rcases hc with rfl | rfl | rfl | rfl | rfl | rfl | rfl <;> rfl
  rw [e]
  exact .app ((ih (hn.kid (by simp))).1 rfl _ (by omega)) (.cons (gd_mid op) ((ih2 (hn.kid (by simp))).1 rfl _ (by omega)))
 | @block ks h ih =>
  refine fun hn => ⟨fun h => (by cases h), fun _ => ?_, fun h => (by cases h)⟩
  rw [sh_node]
  exact .cons (gd_sg (s := [123]) (by decide)) (.app (gl_all (m := 11) fun k hk => (ih k hk (hn.kid hk)).2.2 rfl) (.cons (gd_sg (s := [125]) (by decide)) .nil))
 | @put op s k ho hs h ih =>
  refine fun hn => ⟨fun h => (by cases h), fun h => (by cases h), fun _ => ?_⟩
  have h1 := (ih (hn.kid (by simp))).1 rfl 1 (by omega)
  have h2 := hn.top.1
  rw [sh_node, shs1]
  rcases ho with rfl | rfl
  . exact .cons (gd_wd (s := [108, 101, 116]) (by decide)) (.cons (gd_wt (h2 (by simp))) (.cons (gd_sg (s := [61]) (by decide)) h1))
  . exact .cons (gd_wt (h2 (by simp))) (.cons (gd_sg (s := [61]) (by decide)) h1)
 | @if2 k j h h2 ih ih2 =>
  refine fun hn => ⟨fun h => (by cases h), fun h => (by cases h), fun _ => ?_⟩
  rw [sh_node, shs2]
  exact .cons (gd_wd (s := [105, 102]) (by decide)) (.app ((ih (hn.kid (by simp))).1 rfl 1 (by omega)) (.app ((ih2 (hn.kid (by simp))).2.1 rfl) .nil))
 | @if3 k j i h h2 h3 ih ih2 ih3 =>
  refine fun hn => ⟨fun h => (by cases h), fun h => (by cases h), fun _ => ?_⟩
  rw [sh_node, shs3]
  exact .cons (gd_wd (s := [105, 102]) (by decide)) (.app ((ih (hn.kid (by simp))).1 rfl 1 (by omega)) (.app ((ih2 (hn.kid (by simp))).2.1 rfl) (.cons (gd_wd (s := [101, 108, 115, 101]) (by decide)) ((ih3 (hn.kid (by simp))).2.1 rfl))))
 | @while_ k j h h2 ih ih2 =>
  refine fun hn => ⟨fun h => (by cases h), fun h => (by cases h), fun _ => ?_⟩
  rw [sh_node, shs2]
  exact .cons (gd_wd (s := [119, 104, 105, 108, 101]) (by decide)) (.app ((ih (hn.kid (by simp))).1 rfl 1 (by omega)) ((ih2 (hn.kid (by simp))).2.1 rfl))
 | @do_ op k ho h ih =>
  refine fun hn => ⟨fun h => (by cases h), fun h => (by cases h), fun _ => ?_⟩
  have h1 := (ih (hn.kid (by simp))).1 rfl 1 (by omega)
  rw [sh_node, shs1]
  have : op = 8 ∨ op = 9 ∨ op = 10 ∨ op = 11 := by omega
  rcases this with rfl | rfl | rfl | rfl
  . exact .cons (gd_wd (s := [114, 101, 116, 117, 114, 110]) (by decide)) h1
  . exact .cons (gd_wd (s := [102, 97, 105, 108]) (by decide)) h1
  . exact .cons (gd_wd (s := [115, 108, 101, 101, 112]) (by decide)) h1
  . exact .cons (gd_wd (s := [100, 111]) (by decide)) h1
theorem gl_shown {T : Tr} {may : Nat -> Bool} (h : T.ok may) (hk : Kind T) (hi : ∀ x ∈ T.flat, x.int <= 9223372036854775807) : GL (shown T) := by
 have hn : Nices T := fun x hx => by
  obtain ⟨m, hm⟩ := flat_fine T may h x hx
  exact nice_of hm (hi x hx)
 have hg := rt_of T may h
 obtain ⟨x, ks⟩ := T
 unfold shown
 rcases hk with hk | hk
 . have hk1 : x.op = 1 := hk
   dsimp only
   rw [if_pos hk1]
   obtain ⟨s, ss, b, h1, h2, h3, h4⟩ := hg.2.2.2.2 hk
   rw [h4] at hn |-
   rw [sh_node]
   show GL (flowS _ _)
   unfold flowS
   have e1 : shs (ss.map nameT ++ [b]) = shs (ss.map nameT) ++ [sh b] := by rw [shs_map, shs_map, List.map_append]; rfl
   have e2 : nthS (shs (ss.map nameT) ++ [sh b]) ((shs (ss.map nameT) ++ [sh b]).length - 1) 10 = sh b 10 := by
    unfold nthS
    rw [lna, List.length_singleton, Nat.add_sub_cancel, List.getElem?_append_right (nlr _), Nat.sub_self]
    rfl
   rw [e1, List.dropLast_concat, e2]
   refine .cons (gd_wd (by decide)) (.cons (gd_wt (hn.top.1 (by simp))) (.cons (gd_sg (by decide)) (.app (gl_commas fun k hk => ?_) (.cons (gd_sg (by decide)) ((gl_any h3 (hn.kid (by simp))).2.1 rfl)))))
   have hk2 := hn.kid (k := k) (by simp [List.mem_append, hk])
   obtain ⟨s2, _, rfl⟩ := List.mem_map.1 hk
   have e3 : sh (nameT s2) 12 = [wt s2] := by unfold nameT; rw [sh_node]; rfl
   rw [e3]
   exact .cons (gd_wt ((Nices.top hk2).1 (by simp))) .nil
 . have hk1 : x.op ≠ 1 := by
    intro he
    have hk2 : exprB x.op = true := hk
    rw [he] at hk2
    cases hk2
   dsimp only
   rw [if_neg hk1]
   exact (gl_any (hg.1 hk) hn).1 rfl 1 (by omega)
end Go.Proofs.YtbcadlocldplfaaDoor
namespace Go.Proofs.YtbcadlocldplfaaDoor
open Go.Proofs.Tryd
set_option maxRecDepth 100000
open Go.RowKit T8
abbrev Tab (w : World) : Prop := Lib.TabIs prog w "internal/strconv.uint64pow10" .u64 Lib.pow10Tab
theorem ite_or {α : Type} {c : Prop} [Decidable c] {a b x : α} (h : (if c then a else b) = x) : (c ∧ a = x) ∨ (¬ c ∧ b = x) := by
 by_cases hc : c
 . rw [if_pos hc] at h
   exact .inl ⟨hc, h⟩
 . rw [if_neg hc] at h
   exact .inr ⟨hc, h⟩
theorem gd_ok {x : Tz} (h : Gd1 x) : T7.TzOk (cv x) := by
 obtain ⟨k, tx, iv, p⟩ := x
 obtain ⟨h1, h2⟩ := h
 have h2' : iv <= 9223372036854775807 := h2
 unfold T7.rightB at h1
 have hs : tx.size = tx.data.toList.length := rfl
 have hb : k < 256 ∧ tx.size <= 9223372036854775807 ∧ 0 <= iv := by
  change (if k = 1 then T7.wordOk tx.data.toList && decide (iv = 0) else if k = 2 then decide (tx.data.toList = []) && decide (0 <= iv) else if k = 3 then decide (tx.data.toList.length <= 4095) && decide (iv = 0) else if k = 4 then decide (tx.data.toList ∈ T7.sgn17) && decide (iv = 0) else false) = true at h1
  rw [hs]
  generalize tx.data.toList = l at *
  rcases ite_or h1 with ⟨hk, h1⟩ | ⟨_, h1⟩
  . rw [Bool.and_eq_true, decide_eq_true_eq] at h1
    have h3 := h1.1
    unfold T7.wordOk at h3
    cases l with
    | nil => cases h3
    | cons c r =>
     simp only [Bool.and_eq_true, decide_eq_true_eq] at h3
     omega
  rcases ite_or h1 with ⟨hk, h1⟩ | ⟨_, h1⟩
  . simp only [Bool.and_eq_true, decide_eq_true_eq] at h1
    rw [h1.1]
    exact ⟨by omega, by simp, h1.2⟩
  rcases ite_or h1 with ⟨hk, h1⟩ | ⟨_, h1⟩
  . simp only [Bool.and_eq_true, decide_eq_true_eq] at h1
    omega
  rcases ite_or h1 with ⟨hk, h1⟩ | ⟨_, h1⟩
  . simp only [Bool.and_eq_true, decide_eq_true_eq] at h1
    have key : ∀ s ∈ T7.sgn17, s.length <= 2 := by decide
    have := key l h1.1
    omega
  . cases h1
 exact ⟨hb.1, hb.2.1, by show -9223372036854775808 <= iv; omega, h2'⟩
theorem gl_tz {o : List Tz} (h : GL o) : ∀ x ∈ o.map cv, T7.TzOk x := fun x hx => by
 obtain ⟨y, hy, rfl⟩ := List.mem_map.1 hx
 exact gd_ok (h y hy)
theorem rowOf_cv (o : List Tz) : rowOf T7.zcell (o.map cv) = rowOf zcell o := by
 unfold rowOf
 rw [List.flatMap_map]
 rfl
theorem rd_cv {w : World} {base n c : Nat} {A : Option Addr} {o : List Tz} (h : w.ownsRow base 35 4 (.slice A n c) n (rowOf zcell o)) (hn : n = o.length) : T7.RdZ w A (o.map cv) := by
 rw [<- rowOf_cv] at h
 exact RdL.of_own T7.zcell_len h (by rw [List.length_map]; exact hn)
theorem ShowR.gl {l : List Tw} {o : List Tz} {er : Int} (h : ShowR l o er) (hok : ∀ x ∈ l, TwOk x) : GL o := by
 rcases h with ⟨_, _, h⟩ | ⟨T, h1, h2, ⟨h3, _, h4⟩ | ⟨_, _, h4⟩⟩
 . rw [h]; exact .nil
 . rw [h4]
   exact gl_shown h1.1 h3 (fun x hx => (hok x (by rw [<- h1.2]; exact hx)).2.2.2.2.1)
 . rw [h4]; exact .nil
def strL (o : List Tz) (er : Int) : List UInt8 × Int := if er = 0 then ((T7.spellL (o.map cv)).1, ((T7.spellL (o.map cv)).2 : Nat)) else ([], er)
def StrPost (w : World) (l : List Tw) (e : Ending) (w' : World) : Prop :=
 ∃ o er, ShowR l o er ∧ Below w.heap.size w w' ∧ e = .returned (.tuple #[.string ⟨(strL o er).1.toArray⟩, .int .i64 (strL o er).2])
theorem stree_any (A : Option Addr) (c : Nat) (l : List Tw) (w : World) (hok : ∀ x ∈ l, TwOk x) (hrd : RdL twcell 4 w A l) (hc : l.length <= c) (hlen : l.length <= 100000) (htab : Tab w) :
 Calls prog 9 #[.slice A l.length c] w (StrPost w l) := by
 have HC := zh (tokens_any A c l w hok hrd hc hlen)
 have HH := zh (ai hok htab)
 obtain ⟨n, hn⟩ := ex l.length
 rw [<- hn] at HC |-
 clear hok hrd hc hlen htab hn
 go_in
 go_wp2_with fail
 refine HC.out.mono ?_
 rintro e w1 ⟨A1, n1, c1, o, er, rfl, hn1, ho1, hb1, hr1⟩
 have H1 := zh (ai hn1 (ai ho1 (ai hb1 hr1)))
 clear hn1 ho1 hb1 hr1 HC
 by_cases h0 : er = 0
 . subst h0
   have HS : Hid (Calls prog 21 #[.slice A1 n1 c1] w1 (T7.SpellPost w1 (o.map cv))) := zh (by
    have := T7.spell_any A1 c1 (o.map cv) w1 (rd_cv H1.out.2.1 H1.out.1) (by rw [List.length_map]; have := H1.out.2.2.2.few; omega) (gl_tz (H1.out.2.2.2.gl HH.out.1)) (T7.tab_below HH.out.2 H1.out.2.2.1)
    rwa [List.length_map, <- H1.out.1] at this)
   go_wp2_with fail
   refine HS.out.mono ?_
   rintro e w2 ⟨rfl, hb2⟩
   have H2 := zh hb2
   clear hb2 HS
   go_wp2_with fail
   go_ret2
   exact ⟨o, 0, H1.out.2.2.2, H1.out.2.2.1.trans (H2.out.mono H1.out.2.2.1.size), by unfold strL; rfl⟩
 . have hne : (er != 0) = true := by simpa using h0
   have HE : Hid (strL o er = ([], er)) := zh (by unfold strL; rw [if_neg h0])
   clear h0
   go_wp2_with fail
   go_ret2
   exact ⟨o, er, H1.out.2.2.2, H1.out.2.2.1, by rw [HE.out]; rfl⟩
def wakeW : List Tw := [⟨37, 2, 0, bs []⟩, ⟨23, 0, 1, bs []⟩, ⟨37, 2, 0, bs []⟩, ⟨23, 0, 2, bs []⟩, ⟨23, 0, 3, bs []⟩]
def wakeR : Tr := .node ⟨37, 2, 0, bs []⟩ [.node ⟨23, 0, 1, bs []⟩ [], .node ⟨37, 2, 0, bs []⟩ [.node ⟨23, 0, 2, bs []⟩ [], .node ⟨23, 0, 3, bs []⟩ []]]
theorem wakeW_str {o : List Tz} {er : Int} (h : ShowR wakeW o er) : strL o er = ([49, 32, 45, 32, 40, 32, 50, 32, 45, 32, 51, 32, 41], 0) := by
 have hc : (chk wakeW).2 = 0 := by kernel_rfl
 rcases h with ⟨h1, _⟩ | ⟨T, h1, h2, h3⟩
 . exact absurd hc h1
 . have hT : T = wakeR := by
    have hw : Wf wakeR := by simp [wakeR, Wf, Wfs]
    have hf : wakeR.flat = wakeW := by simp [wakeR, wakeW, Tr.flat, flats]
    exact (wf_same T wakeR [] [] (wf_ok T _ h1.1) hw (by rw [List.append_nil, List.append_nil, h1.2, hf])).1
   subst hT
   rcases h3 with ⟨_, rfl, rfl⟩ | ⟨h3, _⟩
   . unfold strL
     rw [if_pos rfl]
     have e : shown wakeR = [⟨2, bs [], 1, 0⟩, sg [45], sg [40], ⟨2, bs [], 2, 0⟩, sg [45], ⟨2, bs [], 3, 0⟩, sg [41]] := by
      simp [shown, wakeR, sh, shs, bodyS, bareS, width, nthS, midT]
     rw [e]
     have k1 : T7.spellL (([⟨2, bs [], 1, 0⟩, sg [45], sg [40], ⟨2, bs [], 2, 0⟩, sg [45], ⟨2, bs [], 3, 0⟩, sg [41]] : List Tz).map cv) = ([49, 32, 45, 32, 40, 32, 50, 32, 45, 32, 51, 32, 41], 0) := by kernel_rfl
     rw [k1]
     rfl
   . exact absurd (Or.inr (by decide)) h3
theorem wakes10_any (w : World) (htab : Tab w) : Calls prog 8 #[] w fun e w' => e = .returned (.bool true) ∧ Below w.heap.size w w' := by
 have HT := zh htab
 clear htab
 have e1 : ((⟨#[49, 32, 45, 32, 40, 32, 50, 32, 45, 32, 51, 32, 41]⟩ : ByteArray).toList == (⟨#[49, 32, 45, 32, 40, 32, 50, 32, 45, 32, 51, 32, 41]⟩ : ByteArray).toList) = true := bse _
 go_in
 have hd : RdL twcell 4 (w.alloc (.cells (rowOf twcell wakeW).toArray 42)) (some ⟨w.heap.size, 0, none⟩) wakeW := by
  refine .inr ⟨w.heap.size, 0, rfl, by simp, fun i x hx j v hv => ?_⟩
  have h1 := rowOf_get twcell_len wakeW i x j v hx hv
  rw [Nat.zero_add, (Blk.new w 42 (rowOf twcell wakeW).toArray).cell]
  simpa using h1
 have hok : ∀ x ∈ wakeW, TwOk x := by
  intro x hx
  simp only [wakeW, List.mem_cons, List.not_mem_nil, or_false] at hx
  rcases hx with rfl | rfl | rfl | rfl | rfl <;> (unfold TwOk maxLen; simp [bs]; exact Nat.zero_le _)
 have HC := zh (stree_any (some ⟨w.heap.size, 0, none⟩) 5 wakeW _ hok hd (nlr _) (by decide) (T7.tab_below HT.out ((Below.refl _ _).alloc (nlr _) _)))
 clear hd hok
 go_wp2_with fail
 refine HC.out.mono ?_
 rintro e w1 ⟨o, er, hr, hb, rfl⟩
 have hs := wakeW_str hr
 rw [hs]
 have HB := zh hb
 clear hs hr hb HC
 go_wp2_with fail
 go_ret
 exact ⟨rfl, ((Below.refl _ _).alloc (nlr _) _).trans (HB.out.mono (by simp))⟩
theorem rtree_any (A : Option Addr) (c : Nat) (l : List Tw) (w : World) (hok : ∀ x ∈ l, TwOk x) (hrd : RdL twcell 4 w A l) (hlen : l.length <= 100000) :
 Calls prog 10 #[.slice A l.length c] w (StrPost w l) := by
 have HC := zh (rall_any A c l w hok hrd hlen)
 have HH := zh hok
 obtain ⟨n, hn⟩ := ex l.length
 rw [<- hn] at HC |-
 clear hok hrd hlen hn
 go_in
 go_wp2_with fail
 refine HC.out.mono ?_
 rintro e w1 ⟨A1, n1, c1, o, er, rfl, hn1, ho1, hb1, hr1⟩
 have H1 := zh (ai hn1 (ai ho1 (ai hb1 hr1)))
 clear hn1 ho1 hb1 hr1 HC
 by_cases h0 : er = 0
 . subst h0
   have HS : Hid (Calls prog 25 #[.slice A1 n1 c1] w1 (T7.SpellPost w1 (o.map cv))) := zh (by
    have := T7.rspell_any A1 c1 (o.map cv) w1 (rd_cv H1.out.2.1 H1.out.1) (by rw [List.length_map]; have := H1.out.2.2.2.few; omega) (gl_tz (H1.out.2.2.2.gl HH.out))
    rwa [List.length_map, <- H1.out.1] at this)
   go_wp2_with fail
   refine HS.out.mono ?_
   rintro e w2 ⟨rfl, hb2⟩
   have H2 := zh hb2
   clear hb2 HS
   go_wp2_with fail
   go_ret2
   exact ⟨o, 0, H1.out.2.2.2, H1.out.2.2.1.trans (H2.out.mono H1.out.2.2.1.size), by unfold strL; rfl⟩
 . have hne : (er != 0) = true := by simpa using h0
   have HE : Hid (strL o er = ([], er)) := zh (by unfold strL; rw [if_neg h0])
   clear h0
   go_wp2_with fail
   go_ret2
   exact ⟨o, er, H1.out.2.2.2, H1.out.2.2.1, by rw [HE.out]; rfl⟩
theorem tokens_same (A B : Option Addr) (ca cb n : Nat) (l : List Tz) (w : World) (ha : RdZ w A l) (hb : RdZ w B l) (hl : n = l.length) (hn : n <= 1000000) :
 Calls prog 14 #[.slice A n ca, .slice B n cb] w fun e w' => e = .returned (.bool true) ∧ ∃ q, w' = w.drewN q := by
 have HA := zh ha
 have HB := zh hb
 have HL := zh hl
 clear ha hb hl
 go_in
 go_wp2_with fail
 go_loopw [5] (fun s5 wr => ∃ k : Nat, s5 = .int .i64 k ∧ k <= n ∧ ∃ q, wr = w.drewN q) (fun s5 _ => n - (intOf s5).toNat)
 case atStart => exact ⟨0, rfl, by omega, 0, rfl⟩
 case round =>
  obtain ⟨k, rfl, hk, hw⟩ := hrel
  by_cases hlt : k < n
  . have hka : k < l.length := by rw [<- HL.out]; exact hlt
    obtain ⟨x, hx⟩ : ∃ g, l[k]? = some g := ⟨_, List.getElem?_eq_getElem hka⟩
    obtain ⟨b1, o1, rfl, _, hc1⟩ : ∃ b off, A = some ⟨b, off, none⟩ ∧ b < w.heap.size ∧ ∀ i x, l[i]? = some x -> ∀ j v, (zcell x)[j]? = some v -> w.cell? ⟨b, off + i * 4 + j, none⟩ = some v := HA.out.resolve_left (fun h => by rw [h] at hka; exact absurd hka (by simp))
    obtain ⟨b2, o2, rfl, _, hc2⟩ : ∃ b off, B = some ⟨b, off, none⟩ ∧ b < w.heap.size ∧ ∀ i x, l[i]? = some x -> ∀ j v, (zcell x)[j]? = some v -> w.cell? ⟨b, off + i * 4 + j, none⟩ = some v := HB.out.resolve_left (fun h => by rw [h] at hka; exact absurd hka (by simp))
    obtain ⟨q, hq⟩ := hw
    have hd : ∀ p, wr.cell? p = w.cell? p := fun p => by rw [hq]; simp
    have c0 := (hd _).trans (hc1 k x hx 0 _ rfl)
    have c1 := (hd _).trans (hc1 k x hx 1 _ rfl)
    have c2 := (hd _).trans (hc1 k x hx 2 _ rfl)
    have c3 := (hd _).trans (hc1 k x hx 3 _ rfl)
    have d0 := (hd _).trans (hc2 k x hx 0 _ rfl)
    have d1 := (hd _).trans (hc2 k x hx 1 _ rfl)
    have d2 := (hd _).trans (hc2 k x hx 2 _ rfl)
    have d3 := (hd _).trans (hc2 k x hx 3 _ rfl)
    have HQ := zh hq
    have hkn : (k : Int) < (n : Int) := by omega
    have hk0 : (0 : Int) <= (k : Int) := by omega
    have hd1 : decide ((k : Int) < (n : Int)) = true := dqt hkn
    clear hx hq hc1 hc2 hka hd
    obtain ⟨kd, tx, iv, p⟩ := x
    dsimp only [Nat.add_zero] at c0 c1 c2 c3 d0 d1 d2 d3
    have e1 : (tx.toList == tx.toList) = true := bse _
    go_wp2_with fail
    go_quiet (fail)
    go_wp2_with fail
    go_roundw
    case rel => exact ⟨k + 1, by go_num, by omega, q + nq, by rw [HQ.out]; exact World.drewN_drewN w q nq⟩
    case measure => simp [intOf]; omega
  . have hd1 : decide ((k : Int) < (n : Int)) = false := dqf (by omega)
    obtain ⟨q, hq⟩ := hw
    have HQ := zh hq
    clear hq
    go_wp2_with fail
    go_ret
    exact ⟨rfl, q, HQ.out⟩
theorem rdl_rw {w : World} {A : Option Addr} {l : List Tw} (h : RdW w A l) : RdL twcell 4 w A l := by
 rcases h with h | ⟨b, off, h1, h2, h3⟩
 . exact .inl h
 . refine .inr ⟨b, off, h1, h2, fun k x hx j v hv => ?_⟩
   obtain ⟨c0, c1, c2, c3⟩ := h3 k x hx
   match j, hv with
   | 0, hv => obtain rfl := Option.some.inj hv; exact c0
   | 1, hv => obtain rfl := Option.some.inj hv; exact c1
   | 2, hv => obtain rfl := Option.some.inj hv; exact c2
   | 3, hv => obtain rfl := Option.some.inj hv; exact c3
   | j + 4, hv => simp [twcell] at hv
theorem showTree_walk (A : Option Addr) (c : Nat) (l : List Tw) (w : World) (hok : ∀ x ∈ l, TwOk x) (hrw : RdW w A l) (hc : l.length <= c ∧ c <= 9223372036854775807) (htab : Tab w) :
 Calls prog 3 #[.slice A l.length c] w fun e w' => e = .returned (.bool true) ∧ Below w.heap.size w w' := by
 obtain ⟨i0, hi0, hz0, hz1, hz2⟩ := info_parts Tryd.info42
 have HI := zh (ai hi0 (ai hz0 (ai hz1 hz2)))
 clear hi0 hz0 hz1 hz2
 have HH := zh (ai hok (ai (rdl_rw hrw) htab))
 have HWK := zh (fun W (hb : Below w.heap.size w W) => wakes10_any W (T7.tab_below htab hb))
 obtain ⟨n, hn⟩ := ex l.length
 have HN := zh hn
 have hn9 : n <= 9223372036854775807 := by omega
 rw [<- hn]
 clear hok hrw hc htab hn
 by_cases hbig : 5000 < n
 . have db : decide ((n : Int) > 5000) = true := dqt (by omega)
   have db' : decide (5000 < n) = true := dqt hbig
   have hd : decide ((5000 : Int) < (n : Int)) = true := dqt (by omega)
   go_in
   go_wp2_with fail
   refine (HWK.out w (Below.refl _ _)).mono ?_
   rintro e w1 ⟨rfl, hb1⟩
   have HB := zh hb1
   clear hb1
   go_wp2_with fail
   go_ret
   exact ⟨rfl, HB.out⟩
 . have db : decide ((n : Int) > 5000) = false := dqf (by omega)
   have db' : decide (5000 < n) = false := dqf hbig
   have hd : decide ((5000 : Int) < (n : Int)) = false := dqf (by omega)
   obtain ⟨hi0, hz0, hz1, hz2⟩ := HI.out
   have HB0 := zh ((Below.refl w.heap.size w).alloc (nlr _) (.cells #[] 42))
   have HO0 : Hid ((w.alloc (.cells #[] 42)).ownsRow w.heap.size 42 4 (.slice (some ⟨w.heap.size, 0, none⟩) 0 0) 0 []) := zh (World.ownsRow_made w #[] 0 (nlr _) (by unfold maxLen; omega) rfl)
   have HR0 : Hid (Reads (w.alloc (.cells #[] 42)) (w.alloc (.cells #[] 42)).heap.size 4 A n (rowOf twcell l)) := zh (by rw [HN.out]; exact (HH.out.2.1.below HB0.out).reads twcell_len)
   go_in
   go_upto_region 4 with (at_builtin; generalize w.alloc (.cells #[] 42) = w0 at *; refine wpList_append_any _ rfl (.tmp 12) (.tmp 13) 23 rfl w.heap.size 42 i0 (.agg #[.int .u8 0, .int .i64 0, .int .i64 0, .string ⟨#[]⟩]) 4 40 underlying23 hi0 hz0 hz1 hz2 rfl (by decide) (.slice (some ⟨w.heap.size, 0, none⟩) 0 0) 0 [] rfl HO0.out w0.heap.size A n c (rowOf twcell l) rfl HR0.out (rowOf_one twcell_one l) (by unfold maxLen; omega) (by omega) HB0.out.size ?_; intro v1 w1 ho1 hg1 _; obtain ⟨A1, c1, rfl, hnc1⟩ := own_form ho1; have HO1 := zh ho1; have HG1 := zh hg1; clear ho1 hg1)
   have HB1 : Hid (Below w.heap.size w w1) := zh (HB0.out.grown HG1.out HB0.out.size (fun k hk => by
    have e : w.heap.size = k := by simpa [Value.ownBlock] using hk
    omega))
   have HRD : Hid (RdL twcell 4 w1 A1 l ∧ RdL twcell 4 w1 A l ∧ l.length <= c1) := zh ⟨RdL.of_own twcell_len HO1.out (by rw [Nat.zero_add]; exact HN.out), HH.out.2.1.below HB1.out, by rw [<- HN.out]; omega⟩
   have HST := zh (stree_any A1 c1 l w1 HH.out.1 HRD.out.1 HRD.out.2.2 (by rw [<- HN.out]; omega) (T7.tab_below HH.out.2.2 HB1.out))
   have HRT := zh (fun W (hW : Below w.heap.size w W) => rtree_any A c l W HH.out.1 (HH.out.2.1.below hW) (by rw [<- HN.out]; omega))
   rw [<- HN.out] at HST HRT
   clear HG1 HO1 HR0 HO0 HB0 hi0 hz0 hz1 hz2
   go_wp2_with fail
   refine HST.out.mono ?_
   rintro e w2 ⟨o, er, hr, hb2, rfl⟩
   obtain ⟨S, hS⟩ := ex (strL o er)
   rw [<- hS]
   have HB2 : Hid (Below w.heap.size w w2 ∧ RdL twcell 4 w2 A1 l) := zh ⟨HB1.out.trans (hb2.mono HB1.out.size), HRD.out.1.below hb2⟩
   have HS := zh (ai hr hS)
   obtain ⟨ss, e0⟩ := S
   dsimp only
   obtain ⟨st, hst⟩ : ∃ z : ByteArray, z = ⟨ss.toArray⟩ := ⟨_, rfl⟩
   rw [<- hst]
   have HRT2 : Hid (Calls prog 10 #[.slice A n c] w2 fun e w' => Below w2.heap.size w2 w' ∧ e = .returned (.tuple #[.string st, .int .i64 e0])) := zh ((HRT.out w2 HB2.out.1).mono (by
    rintro e w3 ⟨o2, er2, hr2, hb3, rfl⟩
    obtain ⟨rfl, rfl⟩ := ShowR.one HS.out.1 hr2
    rw [<- HS.out.2, hst]
    exact ⟨hb3, rfl⟩))
   clear hb2 hS hst hr HST HRT
   go_wp2_with fail
   refine HRT2.out.mono ?_
   rintro e w3 ⟨hb3, rfl⟩
   have HB3 : Hid (Below w.heap.size w w3 ∧ RdL twcell 4 w3 A1 l ∧ RdL twcell 4 w3 A l) := zh ⟨HB2.out.1.trans (hb3.mono HB2.out.1.size), HB2.out.2.below hb3, HH.out.2.1.below (HB2.out.1.trans (hb3.mono HB2.out.1.size))⟩
   have HAL := zh (T8.alike_same A1 A c1 c n l w3 (rdw_of HB3.out.2.1) (rdw_of HB3.out.2.2) HN.out (by omega))
   have es : (st.toList == st.toList) = true := bse _
   have ee : (e0 == e0) = true := bse _
   clear hb3 HRT2
   go_wp2_with fail
   refine HAL.out.mono ?_
   rintro e w4 ⟨rfl, q, rfl⟩
   have HB4 : Hid (Below w.heap.size w (w3.drewN q)) := zh (below_drewN HB3.out.1 q)
   generalize w3.drewN q = w4 at *
   go_wp2_with fail
   refine (HWK.out w4 HB4.out).mono ?_
   rintro e w5 ⟨rfl, hb5⟩
   have HB5 := zh (HB4.out.trans (hb5.mono HB4.out.size))
   clear hb5
   go_wp2_with fail
   go_ret
   exact ⟨rfl, HB5.out⟩
end Go.Proofs.YtbcadlocldplfaaDoor
