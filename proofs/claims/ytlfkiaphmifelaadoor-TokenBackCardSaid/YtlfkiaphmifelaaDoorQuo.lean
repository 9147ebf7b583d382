/- Contracts of quoted: a text as a source says it. -/
import Derived.Outline
import Derived.Deep.DeepCutAuto
import Derived.Test.YtlfkiaphmifelaaDoorSpe
import Derived.Test.YtlfkiaphmifelaaDoorFrk
import Derived.Test.YtlfkiaphmifelaaDoorTxt
namespace Go.Proofs.YtlfkiaphmifelaaDoor
open Go.RowKit

theorem hex_all : ∀ q : Fin 16, (⟨#[48, 49, 50, 51, 52, 53, 54, 55, 56, 57, 97, 98, 99, 100, 101, 102]⟩ : ByteArray)[q.val]'(by have := q.isLt; exact this) = hx q.val := by decide
theorem hex_get {q : Nat} (h : q < 16) : (⟨#[48, 49, 50, 51, 52, 53, 54, 55, 56, 57, 97, 98, 99, 100, 101, 102]⟩ : ByteArray)[q]'(by exact h) = hx q := hex_all ⟨q, h⟩
theorem hex_getz {z : Int} {q : Nat} (e : z = (q : Int)) (hq : q < 16) (h : z.toNat < (⟨#[48, 49, 50, 51, 52, 53, 54, 55, 56, 57, 97, 98, 99, 100, 101, 102]⟩ : ByteArray).size) : (⟨#[48, 49, 50, 51, 52, 53, 54, 55, 56, 57, 97, 98, 99, 100, 101, 102]⟩ : ByteArray)[z.toNat]'h = hx q := by
  subst e
  exact hex_get hq
theorem reads_n {w : World} {g : Nat} {e : TypeId} {l : List Value} {B m : Nat} (h : Blk w g e l.toArray) (hl : l.length = m) (hB : g < B) : Reads w B 1 (some ⟨g, 0, none⟩) m l :=
  ⟨by rw [hl, Nat.mul_one], fun _ => ⟨_, rfl, hB, fun j x hx => by rw [addr_add, Nat.zero_add, h.cell, ← hx, List.getElem?_toArray]⟩⟩
theorem cells_new (w : World) (cs : List Value) (t : TypeId) : ∀ j u, cs[j]? = some u → (w.alloc (.cells cs.toArray t)).cell? ((⟨w.heap.size, 0, none⟩ : Addr).add j) = some u := fun j u hj => by
  rw [addr_add, Nat.zero_add]
  have := (Blk.new w t cs.toArray).cell j
  rw [this, ← hj]
  simp
set_option maxRecDepth 100000 in
set_option maxHeartbeats 8000000 in
theorem quoted_any (s : List UInt8) (hs : s.length ≤ 5000) (w : World) : Calls Tryd.prog 16 #[.string ⟨s.toArray⟩] w fun e w' => e = .returned (.string ⟨(quoteL s).toArray⟩) ∧ Below w.heap.size w w' := by
  obtain ⟨i0, hi0, hz0, hz1, hz2⟩ := info_parts Tryd.info5
  have HI := Lib.hid (And.intro hi0 (And.intro hz0 (And.intro hz1 hz2)))
  clear hi0 hz0 hz1 hz2
  obtain ⟨st, hst⟩ : ∃ st : ByteArray, st = ⟨s.toArray⟩ := ⟨_, rfl⟩
  have hsz : st.size = s.length := by rw [hst]; rfl
  obtain ⟨n, hn⟩ : ∃ n, n = s.length := ⟨_, rfl⟩
  obtain ⟨R, hR⟩ : ∃ R, R = quoteL s := ⟨_, rfl⟩
  rw [← hst, ← hR]
  rw [← hn] at hsz hs
  have HST := Lib.hid hst
  have HN := Lib.hid hn
  have HR0 := Lib.hid hR
  clear hst hn hR
  have HO0 : Hid ((w.alloc (.cells #[.int .u8 34] 5)).ownsRow w.heap.size 5 1 (.slice (some ⟨w.heap.size, 0, none⟩) 1 1) 1 (bcells [34]) ∧ Below w.heap.size w (w.alloc (.cells #[.int .u8 34] 5))) := Lib.hid ⟨by
    exact ⟨rfl, .inr ⟨w.heap.size, 1, #[.int .u8 34], rfl, Nat.le_refl _, heap_alloc_new w _, Nat.le_refl _, by unfold maxLen; omega, rfl, rfl⟩⟩, (Below.refl _ _).alloc (Nat.le_refl _) _⟩
  go_enter Tryd.func16, Tryd.ntmps16
  go_upto_region 2 with fail
  generalize w.alloc (.cells #[.int .u8 34] 5) = w0 at *
  go_wp2_with fail
  go_loopw [9, 3] (fun s9 s3 wr => ∃ (k : Nat) (b : List UInt8) (A : Option Addr) (cap : Nat), s9 = .int .i64 k ∧ s3 = .slice A b.length cap ∧ k ≤ n ∧ b = 34 :: (s.take k).flatMap q1 ∧ b.length ≤ 1 + 4 * k ∧ wr.ownsRow w.heap.size 5 1 (.slice A b.length cap) b.length (bcells b) ∧ Below w.heap.size w wr) (fun s9 _ _ => n - (intOf s9).toNat)
  case atStart => exact ⟨0, [34], some ⟨w.heap.size, 0, none⟩, 1, by go_num, rfl, by omega, by simp, by simp, HO0.out.1, HO0.out.2⟩
  case round =>
    clear HO0
    obtain ⟨k, b, A, cap, rfl, rfl, hkn, hbd, hbl, ho, hb⟩ := hrel
    have HB := Lib.hid hb
    obtain ⟨m, hm⟩ : ∃ m, m = b.length := ⟨_, rfl⟩
    rw [← hm] at ho hbl ⊢
    have HO := Lib.hid ho
    have HM := Lib.hid hm
    have HBD := Lib.hid hbd
    clear hbd hb ho hm
    by_cases hlt : k < n
    · have di : decide ((k : Int) < (n : Int)) = true := decide_eq_true (by omega)
      have hks : k < s.length := by rw [← HN.out]; exact hlt
      obtain ⟨ch, hch⟩ : ∃ c, c = s[k] := ⟨_, rfl⟩
      have hkst : k < st.size := by omega
      have hg : st[k] = ch := by rw [hch]; exact st_get HST.out hkst hks
      have HTK : Hid (s.take (k + 1) = s.take k ++ [ch]) := Lib.hid (by rw [hch]; exact List.take_succ_eq_append_getElem hks)
      have hcl : ch.toNat < 256 := UInt8.toNat_lt _
      have HE : Hid (∀ q : UInt8, ch = q ↔ ch.toNat = q.toNat) := fun q => ⟨fun h => by rw [h], fun h => UInt8.toNat_inj.1 h⟩
      obtain ⟨cv, hcv⟩ : ∃ v, v = ch.toNat := ⟨_, rfl⟩
      have hg2 : st[k].toNat = cv := by rw [hg, hcv]
      have HCV := Lib.hid hcv
      rw [← hcv] at hcl
      have k0 : (0 : Int) ≤ (k : Int) := by omega
      have k1 : (k : Int) < (n : Int) := by omega
      clear hg hcv hch hks
      by_cases h34 : cv = 34 ∨ cv = 92
      · have H34 : Hid (ch = 34 ∨ ch = 92) := Lib.hid (h34.imp (fun h => (HE.out 34).2 (HCV.out.symm.trans h)) (fun h => (HE.out 92).2 (HCV.out.symm.trans h)))
        by_cases h34' : cv = 34
        · have e34 : ((cv : Int) == 34) = true := by rw [h34']; rfl
          clear h34 h34'
          have HQ : Hid (q1 ch = [92, ch]) := Lib.hid (by unfold q1; rw [if_pos H34.out])
          have HX2 : Hid (bcells (b ++ q1 ch) = bcells b ++ [.int .u8 92, .int .u8 (cv : Nat)]) := Lib.hid (by rw [bcells_append, HQ.out]; simp [bcells, HCV.out])
          have HL : Hid ((b ++ q1 ch).length = m + 2) := Lib.hid (by rw [List.length_append, HQ.out, ← HM.out]; rfl)
          obtain ⟨hi0, hz0, hz1, hz2⟩ := HI.out
          go_wp2_with (at_builtin; refine wpList_append_own _ rfl (.tmp 26) (.tmp 28) 35 rfl w.heap.size 5 i0 (.int .u8 0) 1 1 Tryd.underlying35 hi0 hz0 hz1 hz2 rfl (by decide) (.slice A m cap) m (bcells b) rfl (HO.out.alloc _) ⟨wr.heap.size, 0, none⟩ 2 2 [.int .u8 92, .int .u8 (cv : Nat)] rfl rfl (cells_new _ _ _) (by intro u hu; simp only [List.mem_cons, List.not_mem_nil, or_false] at hu; rcases hu with rfl | rfl <;> rfl) (by unfold maxLen; omega) (by omega) (by have := HB.out.size; simp; omega) ?_; intro v3 w3 ho3 hg3 _; obtain ⟨A3, c3, rfl, _⟩ := own_form ho3; have HO3 := Lib.hid ho3; have HG3 := Lib.hid hg3; clear ho3 hg3)
          go_wp2_with fail
          go_roundw
          case rel => exact ⟨k + 1, b ++ q1 ch, A3, c3, by go_num, by rw [HL.out], by omega, by rw [HTK.out, List.flatMap_append, ← List.cons_append, ← HBD.out]; simp, by rw [HL.out]; omega, by rw [HL.out, HX2.out]; exact HO3.out, (HB.out.alloc HB.out.size _).grown HG3.out (by have := HB.out.size; simp; omega) (fun g hg => (World.ownsRow.lt HO.out g hg).1)⟩
          case measure => simp [intOf]; omega
        · have e34 : ((cv : Int) == 34) = false := by rw [beq_eq_false_iff_ne]; omega
          have e92 : ((cv : Int) == 92) = true := by rw [h34.resolve_left h34']; rfl
          clear h34 h34'
          have HQ : Hid (q1 ch = [92, ch]) := Lib.hid (by unfold q1; rw [if_pos H34.out])
          have HX2 : Hid (bcells (b ++ q1 ch) = bcells b ++ [.int .u8 92, .int .u8 (cv : Nat)]) := Lib.hid (by rw [bcells_append, HQ.out]; simp [bcells, HCV.out])
          have HL : Hid ((b ++ q1 ch).length = m + 2) := Lib.hid (by rw [List.length_append, HQ.out, ← HM.out]; rfl)
          obtain ⟨hi0, hz0, hz1, hz2⟩ := HI.out
          go_wp2_with (at_builtin; refine wpList_append_own _ rfl (.tmp 26) (.tmp 28) 35 rfl w.heap.size 5 i0 (.int .u8 0) 1 1 Tryd.underlying35 hi0 hz0 hz1 hz2 rfl (by decide) (.slice A m cap) m (bcells b) rfl (HO.out.alloc _) ⟨wr.heap.size, 0, none⟩ 2 2 [.int .u8 92, .int .u8 (cv : Nat)] rfl rfl (cells_new _ _ _) (by intro u hu; simp only [List.mem_cons, List.not_mem_nil, or_false] at hu; rcases hu with rfl | rfl <;> rfl) (by unfold maxLen; omega) (by omega) (by have := HB.out.size; simp; omega) ?_; intro v3 w3 ho3 hg3 _; obtain ⟨A3, c3, rfl, _⟩ := own_form ho3; have HO3 := Lib.hid ho3; have HG3 := Lib.hid hg3; clear ho3 hg3)
          go_wp2_with fail
          go_roundw
          case rel => exact ⟨k + 1, b ++ q1 ch, A3, c3, by go_num, by rw [HL.out], by omega, by rw [HTK.out, List.flatMap_append, ← List.cons_append, ← HBD.out]; simp, by rw [HL.out]; omega, by rw [HL.out, HX2.out]; exact HO3.out, (HB.out.alloc HB.out.size _).grown HG3.out (by have := HB.out.size; simp; omega) (fun g hg => (World.ownsRow.lt HO.out g hg).1)⟩
          case measure => simp [intOf]; omega
      · have H34 : Hid (¬ (ch = 34 ∨ ch = 92)) := Lib.hid (fun h => h34 (h.imp (fun h => HCV.out.trans ((HE.out 34).1 h)) (fun h => HCV.out.trans ((HE.out 92).1 h))))
        have e34 : ((cv : Int) == 34) = false := by rw [beq_eq_false_iff_ne]; omega
        have e92 : ((cv : Int) == 92) = false := by rw [beq_eq_false_iff_ne]; omega
        clear h34
        by_cases h10 : cv = 10
        · have e10 : ((cv : Int) == 10) = true := by rw [h10]; rfl
          have HQ : Hid (q1 ch = [92, 110]) := Lib.hid (by unfold q1; rw [if_neg H34.out, if_pos ((HE.out 10).2 (HCV.out.symm.trans h10))])
          have HX2 : Hid (bcells (b ++ q1 ch) = bcells b ++ [.int .u8 92, .int .u8 110]) := Lib.hid (by rw [bcells_append, HQ.out]; simp [bcells, HCV.out])
          have HL : Hid ((b ++ q1 ch).length = m + 2) := Lib.hid (by rw [List.length_append, HQ.out, ← HM.out]; rfl)
          obtain ⟨hi0, hz0, hz1, hz2⟩ := HI.out
          go_wp2_with (at_builtin; refine wpList_append_own _ rfl (.tmp 33) (.tmp 34) 35 rfl w.heap.size 5 i0 (.int .u8 0) 1 1 Tryd.underlying35 hi0 hz0 hz1 hz2 rfl (by decide) (.slice A m cap) m (bcells b) rfl (HO.out.alloc _) ⟨wr.heap.size, 0, none⟩ 2 2 [.int .u8 92, .int .u8 110] rfl rfl (cells_new _ _ _) (by intro u hu; simp only [List.mem_cons, List.not_mem_nil, or_false] at hu; rcases hu with rfl | rfl <;> rfl) (by unfold maxLen; omega) (by omega) (by have := HB.out.size; simp; omega) ?_; intro v3 w3 ho3 hg3 _; obtain ⟨A3, c3, rfl, _⟩ := own_form ho3; have HO3 := Lib.hid ho3; have HG3 := Lib.hid hg3; clear ho3 hg3)
          go_wp2_with fail
          go_roundw
          case rel => exact ⟨k + 1, b ++ q1 ch, A3, c3, by go_num, by rw [HL.out], by omega, by rw [HTK.out, List.flatMap_append, ← List.cons_append, ← HBD.out]; simp, by rw [HL.out]; omega, by rw [HL.out, HX2.out]; exact HO3.out, (HB.out.alloc HB.out.size _).grown HG3.out (by have := HB.out.size; simp; omega) (fun g hg => (World.ownsRow.lt HO.out g hg).1)⟩
          case measure => simp [intOf]; omega
        · have e10 : ((cv : Int) == 10) = false := by rw [beq_eq_false_iff_ne]; omega
          by_cases h32 : cv < 32
          · have e32 : decide ((cv : Int) < 32) = true := decide_eq_true (by omega)
            have e32' : decide (cv < 32) = true := decide_eq_true h32
            have H12 : Hid (q1 ch = [92, 120, hx (cv / 16), hx (cv % 16)]) := Lib.hid (by unfold q1; rw [if_neg H34.out, if_neg (fun h => h10 (HCV.out.trans ((HE.out 10).1 h))), if_pos (by rw [← HCV.out]; omega), ← HCV.out])
            have HX2 : Hid (bcells (b ++ q1 ch) = bcells b ++ [.int .u8 92, .int .u8 120, .int .u8 ((hx (cv / 16)).toNat : Nat), .int .u8 ((hx (cv % 16)).toNat : Nat)]) := Lib.hid (by rw [bcells_append, H12.out]; rfl)
            have HL : Hid ((b ++ q1 ch).length = m + 4) := Lib.hid (by rw [List.length_append, H12.out, ← HM.out]; rfl)
            obtain ⟨hi0, hz0, hz1, hz2⟩ := HI.out
            have HB7 : Hid (Below wr.heap.size wr (wr.drew.alloc (.cells #[.int .u8 92, .int .u8 120, .int .u8 ((hx (cv / 16)).toNat : Nat), .int .u8 ((hx (cv % 16)).toNat : Nat)] 5)) ∧ Blk (wr.drew.alloc (.cells #[.int .u8 92, .int .u8 120, .int .u8 ((hx (cv / 16)).toNat : Nat), .int .u8 ((hx (cv % 16)).toNat : Nat)] 5)) wr.heap.size 5 #[.int .u8 92, .int .u8 120, .int .u8 ((hx (cv / 16)).toNat : Nat), .int .u8 ((hx (cv % 16)).toNat : Nat)]) := Lib.hid ⟨(Below.refl _ _).drew.alloc (Nat.le_refl _) _, Blk.new wr.drew _ _⟩
            have HO7 : Hid ((wr.drew.alloc (.cells #[.int .u8 92, .int .u8 120, .int .u8 ((hx (cv / 16)).toNat : Nat), .int .u8 ((hx (cv % 16)).toNat : Nat)] 5)).ownsRow w.heap.size 5 1 (.slice A m cap) m (bcells b)) := Lib.hid (own_below HO.out HB7.out.1)
            go_wp2_with fail
            refine wp_region_plan (.q 0 (.q 1 (.q 2 (.q 3 (.q 4 (.q 5 (.q 6 (.a1 7 (.a1 8 (.q 9 .fin)))))))))) 8 (fun W => True) (by kernel_rfl) rfl (by kernel_rfl) trivial ?_
            refine wpPlan_q rfl rfl rfl ?_; intro K hK
            go_big_quiet_op
            first | go_big_quiet_on | (refine ⟨_, fun _ _ => rfl, ?_⟩; go_big_quiet_on)
            refine wpPlan_q rfl rfl rfl ?_; intro K hK
            go_big_quiet_op
            first | go_big_quiet_on | (refine ⟨_, fun _ _ => rfl, ?_⟩; go_big_quiet_on)
            refine wpPlan_q rfl rfl rfl ?_; intro K hK
            go_big_quiet_op
            first | go_big_quiet_on | (refine ⟨_, fun _ _ => rfl, ?_⟩; go_big_quiet_on)
            refine wpPlan_q rfl rfl rfl ?_; intro K hK
            refine ⟨(.int .u8 ((hx (cv / 16)).toNat : Nat)), fun W hW => ?_, ?_⟩
            · have hq : cv / 16 < 16 := by omega
              have hd : (0 : Int) ≤ (cv : Int) / 16 ∧ (cv : Int) / 16 < 16 := by omega
              have hd1 := hd.1
              have hd2 := hd.2
              unfold Oper.quietAt Oper.quietUpon
              simp [go_sem, hd]
              exact congrArg (fun z : UInt8 => ((z.toNat : Nat) : Int)) (hex_getz (by omega) hq _)
            refine hK _ ?_
            clear hK K
            try simp only [Act.put, List.setIfInBounds_toArray, List.set_cons_succ, List.set_cons_zero]
            refine wpPlan_q rfl rfl rfl ?_; intro K hK
            go_big_quiet_op
            first | go_big_quiet_on | (refine ⟨_, fun _ _ => rfl, ?_⟩; go_big_quiet_on)
            refine wpPlan_q rfl rfl rfl ?_; intro K hK
            go_big_quiet_op
            first | go_big_quiet_on | (refine ⟨_, fun _ _ => rfl, ?_⟩; go_big_quiet_on)
            refine wpPlan_q rfl rfl rfl ?_; intro K hK
            refine ⟨(.int .u8 ((hx (cv % 16)).toNat : Nat)), fun W hW => ?_, ?_⟩
            · have hq : cv % 16 < 16 := by omega
              have hd : (0 : Int) ≤ (cv : Int) % 16 ∧ (cv : Int) % 16 < 16 := by omega
              have hd1 := hd.1
              have hd2 := hd.2
              unfold Oper.quietAt Oper.quietUpon
              simp [go_sem, hd]
              exact congrArg (fun z : UInt8 => ((z.toNat : Nat) : Int)) (hex_getz (by omega) hq _)
            refine hK _ ?_
            clear hK K
            try simp only [Act.put, List.setIfInBounds_toArray, List.set_cons_succ, List.set_cons_zero]
            refine wpPlan_act true rfl rfl rfl ?_; intro K hK
            go_simp
            refine hK _ _ (fun _ => trivial) ?_
            clear hK K
            try simp only [Act.put, List.setIfInBounds_toArray, List.set_cons_succ, List.set_cons_zero]
            refine wpPlan_act false rfl rfl rfl ?_; intro K hK
            refine wp_append_any _ (.tmp 43) (.tmp 50) 35 rfl w.heap.size 5 i0 (.int .u8 0) 1 1 Tryd.underlying35 hi0 hz0 hz1 hz2 rfl (by decide) (.slice A m cap) m (bcells b) rfl HO7.out (wr.heap.size + 1) (some ⟨wr.heap.size, 0, none⟩) 4 4 [.int .u8 92, .int .u8 120, .int .u8 ((hx (cv / 16)).toNat : Nat), .int .u8 ((hx (cv % 16)).toNat : Nat)] rfl (reads_n HB7.out.2 rfl (Nat.lt_succ_self _)) (by intro u hu; simp only [List.mem_cons, List.not_mem_nil, or_false] at hu; rcases hu with rfl | rfl | rfl | rfl <;> rfl) (by unfold maxLen; omega) (by omega) (Nat.le_trans HB.out.size HB7.out.1.size) ?_
            intro v3 w3 ho3 hg3 _
            obtain ⟨A3, c3, rfl, _⟩ := own_form ho3
            have HO3 := Lib.hid ho3
            have HG3 := Lib.hid hg3
            clear ho3 hg3
            refine hK _ _ (fun h => by cases h) ?_
            clear hK K
            try simp only [Act.put, List.setIfInBounds_toArray, List.set_cons_succ, List.set_cons_zero]
            refine wpPlan_p rfl rfl rfl ?_; intro K hK
            go_big_quiet_op
            first | go_big_quiet_on | (refine ⟨_, fun _ _ => rfl, ?_⟩; go_big_quiet_on)
            refine wpPlan_fin ?_
            go_wp2_with fail
            go_roundw
            case rel => exact ⟨k + 1, b ++ q1 ch, A3, c3, by go_num, by rw [HL.out], by omega, by rw [HTK.out, List.flatMap_append, ← List.cons_append, ← HBD.out]; simp, by rw [HL.out]; omega, by rw [HL.out, HX2.out]; exact HO3.out, (HB.out.trans (HB7.out.1.mono HB.out.size)).grown HG3.out (Nat.le_trans HB.out.size HB7.out.1.size) (fun g hg => (World.ownsRow.lt HO.out g hg).1)⟩
            case measure => simp [intOf]; omega
          · have e32 : decide ((cv : Int) < 32) = false := decide_eq_false (by omega)
            have e32' : decide (cv < 32) = false := decide_eq_false h32
            by_cases h126 : 126 < cv
            · have e126 : decide ((cv : Int) > 126) = true := decide_eq_true (by omega)
              have e126' : decide (126 < cv) = true := decide_eq_true h126
              have H12 : Hid (q1 ch = [92, 120, hx (cv / 16), hx (cv % 16)]) := Lib.hid (by unfold q1; rw [if_neg H34.out, if_neg (fun h => h10 (HCV.out.trans ((HE.out 10).1 h))), if_pos (by rw [← HCV.out]; omega), ← HCV.out])
              have HX2 : Hid (bcells (b ++ q1 ch) = bcells b ++ [.int .u8 92, .int .u8 120, .int .u8 ((hx (cv / 16)).toNat : Nat), .int .u8 ((hx (cv % 16)).toNat : Nat)]) := Lib.hid (by rw [bcells_append, H12.out]; rfl)
              have HL : Hid ((b ++ q1 ch).length = m + 4) := Lib.hid (by rw [List.length_append, H12.out, ← HM.out]; rfl)
              obtain ⟨hi0, hz0, hz1, hz2⟩ := HI.out
              have HB7 : Hid (Below wr.heap.size wr (wr.drew.alloc (.cells #[.int .u8 92, .int .u8 120, .int .u8 ((hx (cv / 16)).toNat : Nat), .int .u8 ((hx (cv % 16)).toNat : Nat)] 5)) ∧ Blk (wr.drew.alloc (.cells #[.int .u8 92, .int .u8 120, .int .u8 ((hx (cv / 16)).toNat : Nat), .int .u8 ((hx (cv % 16)).toNat : Nat)] 5)) wr.heap.size 5 #[.int .u8 92, .int .u8 120, .int .u8 ((hx (cv / 16)).toNat : Nat), .int .u8 ((hx (cv % 16)).toNat : Nat)]) := Lib.hid ⟨(Below.refl _ _).drew.alloc (Nat.le_refl _) _, Blk.new wr.drew _ _⟩
              have HO7 : Hid ((wr.drew.alloc (.cells #[.int .u8 92, .int .u8 120, .int .u8 ((hx (cv / 16)).toNat : Nat), .int .u8 ((hx (cv % 16)).toNat : Nat)] 5)).ownsRow w.heap.size 5 1 (.slice A m cap) m (bcells b)) := Lib.hid (own_below HO.out HB7.out.1)
              go_wp2_with fail
              refine wp_region_plan (.q 0 (.q 1 (.q 2 (.q 3 (.q 4 (.q 5 (.q 6 (.a1 7 (.a1 8 (.q 9 .fin)))))))))) 8 (fun W => True) (by kernel_rfl) rfl (by kernel_rfl) trivial ?_
              refine wpPlan_q rfl rfl rfl ?_; intro K hK
              go_big_quiet_op
              first | go_big_quiet_on | (refine ⟨_, fun _ _ => rfl, ?_⟩; go_big_quiet_on)
              refine wpPlan_q rfl rfl rfl ?_; intro K hK
              go_big_quiet_op
              first | go_big_quiet_on | (refine ⟨_, fun _ _ => rfl, ?_⟩; go_big_quiet_on)
              refine wpPlan_q rfl rfl rfl ?_; intro K hK
              go_big_quiet_op
              first | go_big_quiet_on | (refine ⟨_, fun _ _ => rfl, ?_⟩; go_big_quiet_on)
              refine wpPlan_q rfl rfl rfl ?_; intro K hK
              refine ⟨(.int .u8 ((hx (cv / 16)).toNat : Nat)), fun W hW => ?_, ?_⟩
              · have hq : cv / 16 < 16 := by omega
                have hd : (0 : Int) ≤ (cv : Int) / 16 ∧ (cv : Int) / 16 < 16 := by omega
                have hd1 := hd.1
                have hd2 := hd.2
                unfold Oper.quietAt Oper.quietUpon
                simp [go_sem, hd]
                exact congrArg (fun z : UInt8 => ((z.toNat : Nat) : Int)) (hex_getz (by omega) hq _)
              refine hK _ ?_
              clear hK K
              try simp only [Act.put, List.setIfInBounds_toArray, List.set_cons_succ, List.set_cons_zero]
              refine wpPlan_q rfl rfl rfl ?_; intro K hK
              go_big_quiet_op
              first | go_big_quiet_on | (refine ⟨_, fun _ _ => rfl, ?_⟩; go_big_quiet_on)
              refine wpPlan_q rfl rfl rfl ?_; intro K hK
              go_big_quiet_op
              first | go_big_quiet_on | (refine ⟨_, fun _ _ => rfl, ?_⟩; go_big_quiet_on)
              refine wpPlan_q rfl rfl rfl ?_; intro K hK
              refine ⟨(.int .u8 ((hx (cv % 16)).toNat : Nat)), fun W hW => ?_, ?_⟩
              · have hq : cv % 16 < 16 := by omega
                have hd : (0 : Int) ≤ (cv : Int) % 16 ∧ (cv : Int) % 16 < 16 := by omega
                have hd1 := hd.1
                have hd2 := hd.2
                unfold Oper.quietAt Oper.quietUpon
                simp [go_sem, hd]
                exact congrArg (fun z : UInt8 => ((z.toNat : Nat) : Int)) (hex_getz (by omega) hq _)
              refine hK _ ?_
              clear hK K
              try simp only [Act.put, List.setIfInBounds_toArray, List.set_cons_succ, List.set_cons_zero]
              refine wpPlan_act true rfl rfl rfl ?_; intro K hK
              go_simp
              refine hK _ _ (fun _ => trivial) ?_
              clear hK K
              try simp only [Act.put, List.setIfInBounds_toArray, List.set_cons_succ, List.set_cons_zero]
              refine wpPlan_act false rfl rfl rfl ?_; intro K hK
              refine wp_append_any _ (.tmp 43) (.tmp 50) 35 rfl w.heap.size 5 i0 (.int .u8 0) 1 1 Tryd.underlying35 hi0 hz0 hz1 hz2 rfl (by decide) (.slice A m cap) m (bcells b) rfl HO7.out (wr.heap.size + 1) (some ⟨wr.heap.size, 0, none⟩) 4 4 [.int .u8 92, .int .u8 120, .int .u8 ((hx (cv / 16)).toNat : Nat), .int .u8 ((hx (cv % 16)).toNat : Nat)] rfl (reads_n HB7.out.2 rfl (Nat.lt_succ_self _)) (by intro u hu; simp only [List.mem_cons, List.not_mem_nil, or_false] at hu; rcases hu with rfl | rfl | rfl | rfl <;> rfl) (by unfold maxLen; omega) (by omega) (Nat.le_trans HB.out.size HB7.out.1.size) ?_
              intro v3 w3 ho3 hg3 _
              obtain ⟨A3, c3, rfl, _⟩ := own_form ho3
              have HO3 := Lib.hid ho3
              have HG3 := Lib.hid hg3
              clear ho3 hg3
              refine hK _ _ (fun h => by cases h) ?_
              clear hK K
              try simp only [Act.put, List.setIfInBounds_toArray, List.set_cons_succ, List.set_cons_zero]
              refine wpPlan_p rfl rfl rfl ?_; intro K hK
              go_big_quiet_op
              first | go_big_quiet_on | (refine ⟨_, fun _ _ => rfl, ?_⟩; go_big_quiet_on)
              refine wpPlan_fin ?_
              go_wp2_with fail
              go_roundw
              case rel => exact ⟨k + 1, b ++ q1 ch, A3, c3, by go_num, by rw [HL.out], by omega, by rw [HTK.out, List.flatMap_append, ← List.cons_append, ← HBD.out]; simp, by rw [HL.out]; omega, by rw [HL.out, HX2.out]; exact HO3.out, (HB.out.trans (HB7.out.1.mono HB.out.size)).grown HG3.out (Nat.le_trans HB.out.size HB7.out.1.size) (fun g hg => (World.ownsRow.lt HO.out g hg).1)⟩
              case measure => simp [intOf]; omega
            · have e126 : decide ((cv : Int) > 126) = false := decide_eq_false (by omega)
              have e126' : decide (126 < cv) = false := decide_eq_false h126
              have HQ : Hid (q1 ch = [ch]) := Lib.hid (by unfold q1; rw [if_neg H34.out, if_neg (fun h => h10 (HCV.out.trans ((HE.out 10).1 h))), if_neg (by rw [← HCV.out]; omega)])
              have HX2 : Hid (bcells (b ++ q1 ch) = bcells b ++ [.int .u8 (cv : Nat)]) := Lib.hid (by rw [bcells_append, HQ.out]; simp [bcells, HCV.out])
              have HL : Hid ((b ++ q1 ch).length = m + 1) := Lib.hid (by rw [List.length_append, HQ.out, ← HM.out]; rfl)
              obtain ⟨hi0, hz0, hz1, hz2⟩ := HI.out
              go_wp2_with (at_builtin; refine wpList_append_own _ rfl (.tmp 15) (.tmp 17) 35 rfl w.heap.size 5 i0 (.int .u8 0) 1 1 Tryd.underlying35 hi0 hz0 hz1 hz2 rfl (by decide) (.slice A m cap) m (bcells b) rfl (HO.out.alloc _) ⟨wr.heap.size, 0, none⟩ 1 1 [.int .u8 (cv : Nat)] rfl rfl (cells_new _ _ _) (by intro u hu; simp only [List.mem_cons, List.not_mem_nil, or_false] at hu; rcases hu with rfl <;> rfl) (by unfold maxLen; omega) (by omega) (by have := HB.out.size; simp; omega) ?_; intro v3 w3 ho3 hg3 _; obtain ⟨A3, c3, rfl, _⟩ := own_form ho3; have HO3 := Lib.hid ho3; have HG3 := Lib.hid hg3; clear ho3 hg3)
              go_wp2_with fail
              go_roundw
              case rel => exact ⟨k + 1, b ++ q1 ch, A3, c3, by go_num, by rw [HL.out], by omega, by rw [HTK.out, List.flatMap_append, ← List.cons_append, ← HBD.out]; simp, by rw [HL.out]; omega, by rw [HL.out, HX2.out]; exact HO3.out, (HB.out.alloc HB.out.size _).grown HG3.out (by have := HB.out.size; simp; omega) (fun g hg => (World.ownsRow.lt HO.out g hg).1)⟩
              case measure => simp [intOf]; omega
    · have di : decide ((k : Int) < (n : Int)) = false := decide_eq_false (by omega)
      obtain ⟨hi0, hz0, hz1, hz2⟩ := HI.out
      have HF : Hid (R = b ++ [34]) := Lib.hid (by
        rw [HR0.out]
        unfold quoteL
        rw [HBD.out, List.take_of_length_le (by rw [← HN.out]; omega)]
        rfl)
      have HX2 : Hid (bcells (b ++ [34]) = bcells b ++ [.int .u8 34]) := Lib.hid (by rw [bcells_append]; rfl)
      go_wp2_with (at_builtin; refine wpList_append_own _ rfl (.tmp 53) (.tmp 54) 35 rfl w.heap.size 5 i0 (.int .u8 0) 1 1 Tryd.underlying35 hi0 hz0 hz1 hz2 rfl (by decide) (.slice A m cap) m (bcells b) rfl (HO.out.alloc _) ⟨wr.heap.size, 0, none⟩ 1 1 [.int .u8 34] rfl rfl (cells_new _ _ _) (by intro u hu; simp only [List.mem_cons, List.not_mem_nil, or_false] at hu; rcases hu with rfl <;> rfl) (by unfold maxLen; omega) (by omega) (by have := HB.out.size; simp; omega) ?_; intro v3 w3 ho3 hg3 _; obtain ⟨A3, c3, rfl, _⟩ := own_form ho3; have HO3 := Lib.hid ho3; have HG3 := Lib.hid hg3; clear ho3 hg3)
      have hstr := run_str_own (P := Tryd.prog) w3 35 9 5 w.heap.size (.slice A3 (m + 1) c3) (m + 1) (b ++ [34]) Tryd.underlying35 Tryd.underlying5 Tryd.underlying9 (by rw [List.length_append, ← HM.out]; rfl) (by rw [HX2.out]; exact HO3.out)
      rw [hstr]
      simp only [Result.andThen]
      rw [Oper.upon_value]
      go_wp2_with fail
      go_ret
      exact ⟨by rw [HF.out]; simp, (HB.out.alloc HB.out.size _).grown HG3.out (by have := HB.out.size; simp; omega) (fun g hg => (World.ownsRow.lt HO.out g hg).1)⟩
set_option maxRecDepth 100000 in
set_option maxHeartbeats 8000000 in
theorem rquoted_any (s : List UInt8) (hs : s.length ≤ 5000) (w : World) : Calls Tryd.prog 20 #[.string ⟨s.toArray⟩] w fun e w' => e = .returned (.string ⟨(quoteL s).toArray⟩) ∧ Below w.heap.size w w' := by
  obtain ⟨i0, hi0, hz0, hz1, hz2⟩ := info_parts Tryd.info5
  have HI := Lib.hid (And.intro hi0 (And.intro hz0 (And.intro hz1 hz2)))
  clear hi0 hz0 hz1 hz2
  obtain ⟨st, hst⟩ : ∃ st : ByteArray, st = ⟨s.toArray⟩ := ⟨_, rfl⟩
  have hsz : st.size = s.length := by rw [hst]; rfl
  obtain ⟨n, hn⟩ : ∃ n, n = s.length := ⟨_, rfl⟩
  obtain ⟨R, hR⟩ : ∃ R, R = quoteL s := ⟨_, rfl⟩
  rw [← hst, ← hR]
  rw [← hn] at hsz hs
  have HST := Lib.hid hst
  have HN := Lib.hid hn
  have HR0 := Lib.hid hR
  clear hst hn hR
  have HO0 : Hid ((w.alloc (.cells #[.int .u8 34] 5)).ownsRow w.heap.size 5 1 (.slice (some ⟨w.heap.size, 0, none⟩) 1 1) 1 (bcells [34]) ∧ Below w.heap.size w (w.alloc (.cells #[.int .u8 34] 5))) := Lib.hid ⟨by
    exact ⟨rfl, .inr ⟨w.heap.size, 1, #[.int .u8 34], rfl, Nat.le_refl _, heap_alloc_new w _, Nat.le_refl _, by unfold maxLen; omega, rfl, rfl⟩⟩, (Below.refl _ _).alloc (Nat.le_refl _) _⟩
  go_enter Tryd.func20, Tryd.ntmps20
  go_upto_region 3 with fail
  generalize w.alloc (.cells #[.int .u8 34] 5) = w0 at *
  go_wp2_with fail
  go_loopw [5, 4] (fun s9 s3 wr => ∃ (k : Nat) (b : List UInt8) (A : Option Addr) (cap : Nat), s9 = .int .i64 k ∧ s3 = .slice A b.length cap ∧ k ≤ n ∧ b = 34 :: (s.take k).flatMap q1 ∧ b.length ≤ 1 + 4 * k ∧ wr.ownsRow w.heap.size 5 1 (.slice A b.length cap) b.length (bcells b) ∧ Below w.heap.size w wr) (fun s9 _ _ => n - (intOf s9).toNat)
  case atStart => exact ⟨0, [34], some ⟨w.heap.size, 0, none⟩, 1, by go_num, rfl, by omega, by simp, by simp, HO0.out.1, HO0.out.2⟩
  case round =>
    clear HO0
    obtain ⟨k, b, A, cap, rfl, rfl, hkn, hbd, hbl, ho, hb⟩ := hrel
    have HB := Lib.hid hb
    obtain ⟨m, hm⟩ : ∃ m, m = b.length := ⟨_, rfl⟩
    rw [← hm] at ho hbl ⊢
    have HO := Lib.hid ho
    have HM := Lib.hid hm
    have HBD := Lib.hid hbd
    clear hbd hb ho hm
    by_cases hlt : k < n
    · have di : decide ((k : Int) < (n : Int)) = true := decide_eq_true (by omega)
      have hks : k < s.length := by rw [← HN.out]; exact hlt
      obtain ⟨ch, hch⟩ : ∃ c, c = s[k] := ⟨_, rfl⟩
      have hkst : k < st.size := by omega
      have hg : st[k] = ch := by rw [hch]; exact st_get HST.out hkst hks
      have HTK : Hid (s.take (k + 1) = s.take k ++ [ch]) := Lib.hid (by rw [hch]; exact List.take_succ_eq_append_getElem hks)
      have hcl : ch.toNat < 256 := UInt8.toNat_lt _
      have HE : Hid (∀ q : UInt8, ch = q ↔ ch.toNat = q.toNat) := fun q => ⟨fun h => by rw [h], fun h => UInt8.toNat_inj.1 h⟩
      obtain ⟨cv, hcv⟩ : ∃ v, v = ch.toNat := ⟨_, rfl⟩
      have hg2 : st[k].toNat = cv := by rw [hg, hcv]
      have HCV := Lib.hid hcv
      rw [← hcv] at hcl
      have k0 : (0 : Int) ≤ (k : Int) := by omega
      have k1 : (k : Int) < (n : Int) := by omega
      clear hg hcv hch hks
      by_cases h34 : cv = 34 ∨ cv = 92
      · have H34 : Hid (ch = 34 ∨ ch = 92) := Lib.hid (h34.imp (fun h => (HE.out 34).2 (HCV.out.symm.trans h)) (fun h => (HE.out 92).2 (HCV.out.symm.trans h)))
        have e10 : ((cv : Int) == 10) = false := by rw [beq_eq_false_iff_ne]; omega
        have e32 : decide ((cv : Int) < 32) = false := decide_eq_false (by omega)
        have e32' : decide (cv < 32) = false := decide_eq_false (by omega)
        have e126 : decide ((cv : Int) > 126) = false := decide_eq_false (by omega)
        have e126' : decide (126 < cv) = false := decide_eq_false (by omega)
        by_cases h34' : cv = 34
        · have e34 : ((cv : Int) == 34) = true := by rw [h34']; rfl
          clear h34 h34'
          have HQ : Hid (q1 ch = [92, ch]) := Lib.hid (by unfold q1; rw [if_pos H34.out])
          have HX2 : Hid (bcells (b ++ q1 ch) = bcells b ++ [.int .u8 92, .int .u8 (cv : Nat)]) := Lib.hid (by rw [bcells_append, HQ.out]; simp [bcells, HCV.out])
          have HL : Hid ((b ++ q1 ch).length = m + 2) := Lib.hid (by rw [List.length_append, HQ.out, ← HM.out]; rfl)
          obtain ⟨hi0, hz0, hz1, hz2⟩ := HI.out
          go_wp2_with (at_builtin; refine wpList_append_own _ rfl (.tmp 45) (.tmp 47) 35 rfl w.heap.size 5 i0 (.int .u8 0) 1 1 Tryd.underlying35 hi0 hz0 hz1 hz2 rfl (by decide) (.slice A m cap) m (bcells b) rfl (HO.out.alloc _) ⟨wr.heap.size, 0, none⟩ 2 2 [.int .u8 92, .int .u8 (cv : Nat)] rfl rfl (cells_new _ _ _) (by intro u hu; simp only [List.mem_cons, List.not_mem_nil, or_false] at hu; rcases hu with rfl | rfl <;> rfl) (by unfold maxLen; omega) (by omega) (by have := HB.out.size; simp; omega) ?_; intro v3 w3 ho3 hg3 _; obtain ⟨A3, c3, rfl, _⟩ := own_form ho3; have HO3 := Lib.hid ho3; have HG3 := Lib.hid hg3; clear ho3 hg3)
          go_wp2_with fail
          go_roundw
          case rel => exact ⟨k + 1, b ++ q1 ch, A3, c3, by go_num, by rw [HL.out], by omega, by rw [HTK.out, List.flatMap_append, ← List.cons_append, ← HBD.out]; simp, by rw [HL.out]; omega, by rw [HL.out, HX2.out]; exact HO3.out, (HB.out.alloc HB.out.size _).grown HG3.out (by have := HB.out.size; simp; omega) (fun g hg => (World.ownsRow.lt HO.out g hg).1)⟩
          case measure => simp [intOf]; omega
        · have e34 : ((cv : Int) == 34) = false := by rw [beq_eq_false_iff_ne]; omega
          have e92 : ((cv : Int) == 92) = true := by rw [h34.resolve_left h34']; rfl
          clear h34 h34'
          have HQ : Hid (q1 ch = [92, ch]) := Lib.hid (by unfold q1; rw [if_pos H34.out])
          have HX2 : Hid (bcells (b ++ q1 ch) = bcells b ++ [.int .u8 92, .int .u8 (cv : Nat)]) := Lib.hid (by rw [bcells_append, HQ.out]; simp [bcells, HCV.out])
          have HL : Hid ((b ++ q1 ch).length = m + 2) := Lib.hid (by rw [List.length_append, HQ.out, ← HM.out]; rfl)
          obtain ⟨hi0, hz0, hz1, hz2⟩ := HI.out
          go_wp2_with (at_builtin; refine wpList_append_own _ rfl (.tmp 45) (.tmp 47) 35 rfl w.heap.size 5 i0 (.int .u8 0) 1 1 Tryd.underlying35 hi0 hz0 hz1 hz2 rfl (by decide) (.slice A m cap) m (bcells b) rfl (HO.out.alloc _) ⟨wr.heap.size, 0, none⟩ 2 2 [.int .u8 92, .int .u8 (cv : Nat)] rfl rfl (cells_new _ _ _) (by intro u hu; simp only [List.mem_cons, List.not_mem_nil, or_false] at hu; rcases hu with rfl | rfl <;> rfl) (by unfold maxLen; omega) (by omega) (by have := HB.out.size; simp; omega) ?_; intro v3 w3 ho3 hg3 _; obtain ⟨A3, c3, rfl, _⟩ := own_form ho3; have HO3 := Lib.hid ho3; have HG3 := Lib.hid hg3; clear ho3 hg3)
          go_wp2_with fail
          go_roundw
          case rel => exact ⟨k + 1, b ++ q1 ch, A3, c3, by go_num, by rw [HL.out], by omega, by rw [HTK.out, List.flatMap_append, ← List.cons_append, ← HBD.out]; simp, by rw [HL.out]; omega, by rw [HL.out, HX2.out]; exact HO3.out, (HB.out.alloc HB.out.size _).grown HG3.out (by have := HB.out.size; simp; omega) (fun g hg => (World.ownsRow.lt HO.out g hg).1)⟩
          case measure => simp [intOf]; omega
      · have H34 : Hid (¬ (ch = 34 ∨ ch = 92)) := Lib.hid (fun h => h34 (h.imp (fun h => HCV.out.trans ((HE.out 34).1 h)) (fun h => HCV.out.trans ((HE.out 92).1 h))))
        have e34 : ((cv : Int) == 34) = false := by rw [beq_eq_false_iff_ne]; omega
        have e92 : ((cv : Int) == 92) = false := by rw [beq_eq_false_iff_ne]; omega
        clear h34
        by_cases h10 : cv = 10
        · have e10 : ((cv : Int) == 10) = true := by rw [h10]; rfl
          have HQ : Hid (q1 ch = [92, 110]) := Lib.hid (by unfold q1; rw [if_neg H34.out, if_pos ((HE.out 10).2 (HCV.out.symm.trans h10))])
          have HX2 : Hid (bcells (b ++ q1 ch) = bcells b ++ [.int .u8 92, .int .u8 110]) := Lib.hid (by rw [bcells_append, HQ.out]; simp [bcells, HCV.out])
          have HL : Hid ((b ++ q1 ch).length = m + 2) := Lib.hid (by rw [List.length_append, HQ.out, ← HM.out]; rfl)
          obtain ⟨hi0, hz0, hz1, hz2⟩ := HI.out
          go_wp2_with (at_builtin; refine wpList_append_own _ rfl (.tmp 19) (.tmp 20) 35 rfl w.heap.size 5 i0 (.int .u8 0) 1 1 Tryd.underlying35 hi0 hz0 hz1 hz2 rfl (by decide) (.slice A m cap) m (bcells b) rfl (HO.out.alloc _) ⟨wr.heap.size, 0, none⟩ 2 2 [.int .u8 92, .int .u8 110] rfl rfl (cells_new _ _ _) (by intro u hu; simp only [List.mem_cons, List.not_mem_nil, or_false] at hu; rcases hu with rfl | rfl <;> rfl) (by unfold maxLen; omega) (by omega) (by have := HB.out.size; simp; omega) ?_; intro v3 w3 ho3 hg3 _; obtain ⟨A3, c3, rfl, _⟩ := own_form ho3; have HO3 := Lib.hid ho3; have HG3 := Lib.hid hg3; clear ho3 hg3)
          go_wp2_with fail
          go_roundw
          case rel => exact ⟨k + 1, b ++ q1 ch, A3, c3, by go_num, by rw [HL.out], by omega, by rw [HTK.out, List.flatMap_append, ← List.cons_append, ← HBD.out]; simp, by rw [HL.out]; omega, by rw [HL.out, HX2.out]; exact HO3.out, (HB.out.alloc HB.out.size _).grown HG3.out (by have := HB.out.size; simp; omega) (fun g hg => (World.ownsRow.lt HO.out g hg).1)⟩
          case measure => simp [intOf]; omega
        · have e10 : ((cv : Int) == 10) = false := by rw [beq_eq_false_iff_ne]; omega
          by_cases h32 : cv < 32
          · have e32 : decide ((cv : Int) < 32) = true := decide_eq_true (by omega)
            have e32' : decide (cv < 32) = true := decide_eq_true h32
            have H12 : Hid (q1 ch = [92, 120, hx (cv / 16), hx (cv % 16)]) := Lib.hid (by unfold q1; rw [if_neg H34.out, if_neg (fun h => h10 (HCV.out.trans ((HE.out 10).1 h))), if_pos (by rw [← HCV.out]; omega), ← HCV.out])
            have HX2 : Hid (bcells (b ++ q1 ch) = bcells b ++ [.int .u8 92, .int .u8 120, .int .u8 ((hx (cv / 16)).toNat : Nat), .int .u8 ((hx (cv % 16)).toNat : Nat)]) := Lib.hid (by rw [bcells_append, H12.out]; rfl)
            have HL : Hid ((b ++ q1 ch).length = m + 4) := Lib.hid (by rw [List.length_append, H12.out, ← HM.out]; rfl)
            obtain ⟨hi0, hz0, hz1, hz2⟩ := HI.out
            have HB7 : Hid (Below wr.heap.size wr (wr.drew.alloc (.cells #[.int .u8 92, .int .u8 120, .int .u8 ((hx (cv / 16)).toNat : Nat), .int .u8 ((hx (cv % 16)).toNat : Nat)] 5)) ∧ Blk (wr.drew.alloc (.cells #[.int .u8 92, .int .u8 120, .int .u8 ((hx (cv / 16)).toNat : Nat), .int .u8 ((hx (cv % 16)).toNat : Nat)] 5)) wr.heap.size 5 #[.int .u8 92, .int .u8 120, .int .u8 ((hx (cv / 16)).toNat : Nat), .int .u8 ((hx (cv % 16)).toNat : Nat)]) := Lib.hid ⟨(Below.refl _ _).drew.alloc (Nat.le_refl _) _, Blk.new wr.drew _ _⟩
            have HO7 : Hid ((wr.drew.alloc (.cells #[.int .u8 92, .int .u8 120, .int .u8 ((hx (cv / 16)).toNat : Nat), .int .u8 ((hx (cv % 16)).toNat : Nat)] 5)).ownsRow w.heap.size 5 1 (.slice A m cap) m (bcells b)) := Lib.hid (own_below HO.out HB7.out.1)
            go_wp2_with fail
            refine wp_region_plan (.q 0 (.q 1 (.q 2 (.q 3 (.q 4 (.q 5 (.q 6 (.q 7 (.q 8 (.a1 9 (.a1 10 (.q 11 .fin)))))))))))) 10 (fun W => True) (by kernel_rfl) rfl (by kernel_rfl) trivial ?_
            refine wpPlan_q rfl rfl rfl ?_; intro K hK
            go_big_quiet_op
            first | go_big_quiet_on | (refine ⟨_, fun _ _ => rfl, ?_⟩; go_big_quiet_on)
            refine wpPlan_q rfl rfl rfl ?_; intro K hK
            go_big_quiet_op
            first | go_big_quiet_on | (refine ⟨_, fun _ _ => rfl, ?_⟩; go_big_quiet_on)
            refine wpPlan_q rfl rfl rfl ?_; intro K hK
            go_big_quiet_op
            first | go_big_quiet_on | (refine ⟨_, fun _ _ => rfl, ?_⟩; go_big_quiet_on)
            refine wpPlan_q rfl rfl rfl ?_; intro K hK
            go_big_quiet_op
            first | go_big_quiet_on | (refine ⟨_, fun _ _ => rfl, ?_⟩; go_big_quiet_on)
            refine wpPlan_q rfl rfl rfl ?_; intro K hK
            refine ⟨(.int .u8 ((hx (cv / 16)).toNat : Nat)), fun W hW => ?_, ?_⟩
            · have hq : cv / 16 < 16 := by omega
              have hd : (0 : Int) ≤ (cv : Int) / 16 ∧ (cv : Int) / 16 < 16 := by omega
              have hd1 := hd.1
              have hd2 := hd.2
              unfold Oper.quietAt Oper.quietUpon
              simp [go_sem, hd]
              exact congrArg (fun z : UInt8 => ((z.toNat : Nat) : Int)) (hex_getz (by omega) hq _)
            refine hK _ ?_
            clear hK K
            try simp only [Act.put, List.setIfInBounds_toArray, List.set_cons_succ, List.set_cons_zero]
            refine wpPlan_q rfl rfl rfl ?_; intro K hK
            go_big_quiet_op
            first | go_big_quiet_on | (refine ⟨_, fun _ _ => rfl, ?_⟩; go_big_quiet_on)
            refine wpPlan_q rfl rfl rfl ?_; intro K hK
            go_big_quiet_op
            first | go_big_quiet_on | (refine ⟨_, fun _ _ => rfl, ?_⟩; go_big_quiet_on)
            refine wpPlan_q rfl rfl rfl ?_; intro K hK
            go_big_quiet_op
            first | go_big_quiet_on | (refine ⟨_, fun _ _ => rfl, ?_⟩; go_big_quiet_on)
            refine wpPlan_q rfl rfl rfl ?_; intro K hK
            refine ⟨(.int .u8 ((hx (cv % 16)).toNat : Nat)), fun W hW => ?_, ?_⟩
            · have hq : cv % 16 < 16 := by omega
              have hd : (0 : Int) ≤ (cv : Int) % 16 ∧ (cv : Int) % 16 < 16 := by omega
              have hd1 := hd.1
              have hd2 := hd.2
              unfold Oper.quietAt Oper.quietUpon
              simp [go_sem, hd]
              exact congrArg (fun z : UInt8 => ((z.toNat : Nat) : Int)) (hex_getz (by omega) hq _)
            refine hK _ ?_
            clear hK K
            try simp only [Act.put, List.setIfInBounds_toArray, List.set_cons_succ, List.set_cons_zero]
            refine wpPlan_act true rfl rfl rfl ?_; intro K hK
            go_simp
            refine hK _ _ (fun _ => trivial) ?_
            clear hK K
            try simp only [Act.put, List.setIfInBounds_toArray, List.set_cons_succ, List.set_cons_zero]
            refine wpPlan_act false rfl rfl rfl ?_; intro K hK
            refine wp_append_any _ (.tmp 28) (.tmp 37) 35 rfl w.heap.size 5 i0 (.int .u8 0) 1 1 Tryd.underlying35 hi0 hz0 hz1 hz2 rfl (by decide) (.slice A m cap) m (bcells b) rfl HO7.out (wr.heap.size + 1) (some ⟨wr.heap.size, 0, none⟩) 4 4 [.int .u8 92, .int .u8 120, .int .u8 ((hx (cv / 16)).toNat : Nat), .int .u8 ((hx (cv % 16)).toNat : Nat)] rfl (reads_n HB7.out.2 rfl (Nat.lt_succ_self _)) (by intro u hu; simp only [List.mem_cons, List.not_mem_nil, or_false] at hu; rcases hu with rfl | rfl | rfl | rfl <;> rfl) (by unfold maxLen; omega) (by omega) (Nat.le_trans HB.out.size HB7.out.1.size) ?_
            intro v3 w3 ho3 hg3 _
            obtain ⟨A3, c3, rfl, _⟩ := own_form ho3
            have HO3 := Lib.hid ho3
            have HG3 := Lib.hid hg3
            clear ho3 hg3
            refine hK _ _ (fun h => by cases h) ?_
            clear hK K
            try simp only [Act.put, List.setIfInBounds_toArray, List.set_cons_succ, List.set_cons_zero]
            refine wpPlan_p rfl rfl rfl ?_; intro K hK
            go_big_quiet_op
            first | go_big_quiet_on | (refine ⟨_, fun _ _ => rfl, ?_⟩; go_big_quiet_on)
            refine wpPlan_fin ?_
            go_wp2_with fail
            go_roundw
            case rel => exact ⟨k + 1, b ++ q1 ch, A3, c3, by go_num, by rw [HL.out], by omega, by rw [HTK.out, List.flatMap_append, ← List.cons_append, ← HBD.out]; simp, by rw [HL.out]; omega, by rw [HL.out, HX2.out]; exact HO3.out, (HB.out.trans (HB7.out.1.mono HB.out.size)).grown HG3.out (Nat.le_trans HB.out.size HB7.out.1.size) (fun g hg => (World.ownsRow.lt HO.out g hg).1)⟩
            case measure => simp [intOf]; omega
          · have e32 : decide ((cv : Int) < 32) = false := decide_eq_false (by omega)
            have e32' : decide (cv < 32) = false := decide_eq_false h32
            by_cases h126 : 126 < cv
            · have e126 : decide ((cv : Int) > 126) = true := decide_eq_true (by omega)
              have e126' : decide (126 < cv) = true := decide_eq_true h126
              have H12 : Hid (q1 ch = [92, 120, hx (cv / 16), hx (cv % 16)]) := Lib.hid (by unfold q1; rw [if_neg H34.out, if_neg (fun h => h10 (HCV.out.trans ((HE.out 10).1 h))), if_pos (by rw [← HCV.out]; omega), ← HCV.out])
              have HX2 : Hid (bcells (b ++ q1 ch) = bcells b ++ [.int .u8 92, .int .u8 120, .int .u8 ((hx (cv / 16)).toNat : Nat), .int .u8 ((hx (cv % 16)).toNat : Nat)]) := Lib.hid (by rw [bcells_append, H12.out]; rfl)
              have HL : Hid ((b ++ q1 ch).length = m + 4) := Lib.hid (by rw [List.length_append, H12.out, ← HM.out]; rfl)
              obtain ⟨hi0, hz0, hz1, hz2⟩ := HI.out
              have HB7 : Hid (Below wr.heap.size wr (wr.drew.alloc (.cells #[.int .u8 92, .int .u8 120, .int .u8 ((hx (cv / 16)).toNat : Nat), .int .u8 ((hx (cv % 16)).toNat : Nat)] 5)) ∧ Blk (wr.drew.alloc (.cells #[.int .u8 92, .int .u8 120, .int .u8 ((hx (cv / 16)).toNat : Nat), .int .u8 ((hx (cv % 16)).toNat : Nat)] 5)) wr.heap.size 5 #[.int .u8 92, .int .u8 120, .int .u8 ((hx (cv / 16)).toNat : Nat), .int .u8 ((hx (cv % 16)).toNat : Nat)]) := Lib.hid ⟨(Below.refl _ _).drew.alloc (Nat.le_refl _) _, Blk.new wr.drew _ _⟩
              have HO7 : Hid ((wr.drew.alloc (.cells #[.int .u8 92, .int .u8 120, .int .u8 ((hx (cv / 16)).toNat : Nat), .int .u8 ((hx (cv % 16)).toNat : Nat)] 5)).ownsRow w.heap.size 5 1 (.slice A m cap) m (bcells b)) := Lib.hid (own_below HO.out HB7.out.1)
              go_wp2_with fail
              refine wp_region_plan (.q 0 (.q 1 (.q 2 (.q 3 (.q 4 (.q 5 (.q 6 (.q 7 (.q 8 (.a1 9 (.a1 10 (.q 11 .fin)))))))))))) 10 (fun W => True) (by kernel_rfl) rfl (by kernel_rfl) trivial ?_
              refine wpPlan_q rfl rfl rfl ?_; intro K hK
              go_big_quiet_op
              first | go_big_quiet_on | (refine ⟨_, fun _ _ => rfl, ?_⟩; go_big_quiet_on)
              refine wpPlan_q rfl rfl rfl ?_; intro K hK
              go_big_quiet_op
              first | go_big_quiet_on | (refine ⟨_, fun _ _ => rfl, ?_⟩; go_big_quiet_on)
              refine wpPlan_q rfl rfl rfl ?_; intro K hK
              go_big_quiet_op
              first | go_big_quiet_on | (refine ⟨_, fun _ _ => rfl, ?_⟩; go_big_quiet_on)
              refine wpPlan_q rfl rfl rfl ?_; intro K hK
              go_big_quiet_op
              first | go_big_quiet_on | (refine ⟨_, fun _ _ => rfl, ?_⟩; go_big_quiet_on)
              refine wpPlan_q rfl rfl rfl ?_; intro K hK
              refine ⟨(.int .u8 ((hx (cv / 16)).toNat : Nat)), fun W hW => ?_, ?_⟩
              · have hq : cv / 16 < 16 := by omega
                have hd : (0 : Int) ≤ (cv : Int) / 16 ∧ (cv : Int) / 16 < 16 := by omega
                have hd1 := hd.1
                have hd2 := hd.2
                unfold Oper.quietAt Oper.quietUpon
                simp [go_sem, hd]
                exact congrArg (fun z : UInt8 => ((z.toNat : Nat) : Int)) (hex_getz (by omega) hq _)
              refine hK _ ?_
              clear hK K
              try simp only [Act.put, List.setIfInBounds_toArray, List.set_cons_succ, List.set_cons_zero]
              refine wpPlan_q rfl rfl rfl ?_; intro K hK
              go_big_quiet_op
              first | go_big_quiet_on | (refine ⟨_, fun _ _ => rfl, ?_⟩; go_big_quiet_on)
              refine wpPlan_q rfl rfl rfl ?_; intro K hK
              go_big_quiet_op
              first | go_big_quiet_on | (refine ⟨_, fun _ _ => rfl, ?_⟩; go_big_quiet_on)
              refine wpPlan_q rfl rfl rfl ?_; intro K hK
              go_big_quiet_op
              first | go_big_quiet_on | (refine ⟨_, fun _ _ => rfl, ?_⟩; go_big_quiet_on)
              refine wpPlan_q rfl rfl rfl ?_; intro K hK
              refine ⟨(.int .u8 ((hx (cv % 16)).toNat : Nat)), fun W hW => ?_, ?_⟩
              · have hq : cv % 16 < 16 := by omega
                have hd : (0 : Int) ≤ (cv : Int) % 16 ∧ (cv : Int) % 16 < 16 := by omega
                have hd1 := hd.1
                have hd2 := hd.2
                unfold Oper.quietAt Oper.quietUpon
                simp [go_sem, hd]
                exact congrArg (fun z : UInt8 => ((z.toNat : Nat) : Int)) (hex_getz (by omega) hq _)
              refine hK _ ?_
              clear hK K
              try simp only [Act.put, List.setIfInBounds_toArray, List.set_cons_succ, List.set_cons_zero]
              refine wpPlan_act true rfl rfl rfl ?_; intro K hK
              go_simp
              refine hK _ _ (fun _ => trivial) ?_
              clear hK K
              try simp only [Act.put, List.setIfInBounds_toArray, List.set_cons_succ, List.set_cons_zero]
              refine wpPlan_act false rfl rfl rfl ?_; intro K hK
              refine wp_append_any _ (.tmp 28) (.tmp 37) 35 rfl w.heap.size 5 i0 (.int .u8 0) 1 1 Tryd.underlying35 hi0 hz0 hz1 hz2 rfl (by decide) (.slice A m cap) m (bcells b) rfl HO7.out (wr.heap.size + 1) (some ⟨wr.heap.size, 0, none⟩) 4 4 [.int .u8 92, .int .u8 120, .int .u8 ((hx (cv / 16)).toNat : Nat), .int .u8 ((hx (cv % 16)).toNat : Nat)] rfl (reads_n HB7.out.2 rfl (Nat.lt_succ_self _)) (by intro u hu; simp only [List.mem_cons, List.not_mem_nil, or_false] at hu; rcases hu with rfl | rfl | rfl | rfl <;> rfl) (by unfold maxLen; omega) (by omega) (Nat.le_trans HB.out.size HB7.out.1.size) ?_
              intro v3 w3 ho3 hg3 _
              obtain ⟨A3, c3, rfl, _⟩ := own_form ho3
              have HO3 := Lib.hid ho3
              have HG3 := Lib.hid hg3
              clear ho3 hg3
              refine hK _ _ (fun h => by cases h) ?_
              clear hK K
              try simp only [Act.put, List.setIfInBounds_toArray, List.set_cons_succ, List.set_cons_zero]
              refine wpPlan_p rfl rfl rfl ?_; intro K hK
              go_big_quiet_op
              first | go_big_quiet_on | (refine ⟨_, fun _ _ => rfl, ?_⟩; go_big_quiet_on)
              refine wpPlan_fin ?_
              go_wp2_with fail
              go_roundw
              case rel => exact ⟨k + 1, b ++ q1 ch, A3, c3, by go_num, by rw [HL.out], by omega, by rw [HTK.out, List.flatMap_append, ← List.cons_append, ← HBD.out]; simp, by rw [HL.out]; omega, by rw [HL.out, HX2.out]; exact HO3.out, (HB.out.trans (HB7.out.1.mono HB.out.size)).grown HG3.out (Nat.le_trans HB.out.size HB7.out.1.size) (fun g hg => (World.ownsRow.lt HO.out g hg).1)⟩
              case measure => simp [intOf]; omega
            · have e126 : decide ((cv : Int) > 126) = false := decide_eq_false (by omega)
              have e126' : decide (126 < cv) = false := decide_eq_false h126
              have HQ : Hid (q1 ch = [ch]) := Lib.hid (by unfold q1; rw [if_neg H34.out, if_neg (fun h => h10 (HCV.out.trans ((HE.out 10).1 h))), if_neg (by rw [← HCV.out]; omega)])
              have HX2 : Hid (bcells (b ++ q1 ch) = bcells b ++ [.int .u8 (cv : Nat)]) := Lib.hid (by rw [bcells_append, HQ.out]; simp [bcells, HCV.out])
              have HL : Hid ((b ++ q1 ch).length = m + 1) := Lib.hid (by rw [List.length_append, HQ.out, ← HM.out]; rfl)
              obtain ⟨hi0, hz0, hz1, hz2⟩ := HI.out
              go_wp2_with (at_builtin; refine wpList_append_own _ rfl (.tmp 49) (.tmp 51) 35 rfl w.heap.size 5 i0 (.int .u8 0) 1 1 Tryd.underlying35 hi0 hz0 hz1 hz2 rfl (by decide) (.slice A m cap) m (bcells b) rfl (HO.out.alloc _) ⟨wr.heap.size, 0, none⟩ 1 1 [.int .u8 (cv : Nat)] rfl rfl (cells_new _ _ _) (by intro u hu; simp only [List.mem_cons, List.not_mem_nil, or_false] at hu; rcases hu with rfl <;> rfl) (by unfold maxLen; omega) (by omega) (by have := HB.out.size; simp; omega) ?_; intro v3 w3 ho3 hg3 _; obtain ⟨A3, c3, rfl, _⟩ := own_form ho3; have HO3 := Lib.hid ho3; have HG3 := Lib.hid hg3; clear ho3 hg3)
              go_wp2_with fail
              go_roundw
              case rel => exact ⟨k + 1, b ++ q1 ch, A3, c3, by go_num, by rw [HL.out], by omega, by rw [HTK.out, List.flatMap_append, ← List.cons_append, ← HBD.out]; simp, by rw [HL.out]; omega, by rw [HL.out, HX2.out]; exact HO3.out, (HB.out.alloc HB.out.size _).grown HG3.out (by have := HB.out.size; simp; omega) (fun g hg => (World.ownsRow.lt HO.out g hg).1)⟩
              case measure => simp [intOf]; omega
    · have di : decide ((k : Int) < (n : Int)) = false := decide_eq_false (by omega)
      obtain ⟨hi0, hz0, hz1, hz2⟩ := HI.out
      have HF : Hid (R = b ++ [34]) := Lib.hid (by
        rw [HR0.out]
        unfold quoteL
        rw [HBD.out, List.take_of_length_le (by rw [← HN.out]; omega)]
        rfl)
      have HX2 : Hid (bcells (b ++ [34]) = bcells b ++ [.int .u8 34]) := Lib.hid (by rw [bcells_append]; rfl)
      go_wp2_with (at_builtin; refine wpList_append_own _ rfl (.tmp 53) (.tmp 54) 35 rfl w.heap.size 5 i0 (.int .u8 0) 1 1 Tryd.underlying35 hi0 hz0 hz1 hz2 rfl (by decide) (.slice A m cap) m (bcells b) rfl (HO.out.alloc _) ⟨wr.heap.size, 0, none⟩ 1 1 [.int .u8 34] rfl rfl (cells_new _ _ _) (by intro u hu; simp only [List.mem_cons, List.not_mem_nil, or_false] at hu; rcases hu with rfl <;> rfl) (by unfold maxLen; omega) (by omega) (by have := HB.out.size; simp; omega) ?_; intro v3 w3 ho3 hg3 _; obtain ⟨A3, c3, rfl, _⟩ := own_form ho3; have HO3 := Lib.hid ho3; have HG3 := Lib.hid hg3; clear ho3 hg3)
      have hstr := run_str_own (P := Tryd.prog) w3 35 9 5 w.heap.size (.slice A3 (m + 1) c3) (m + 1) (b ++ [34]) Tryd.underlying35 Tryd.underlying5 Tryd.underlying9 (by rw [List.length_append, ← HM.out]; rfl) (by rw [HX2.out]; exact HO3.out)
      rw [hstr]
      simp only [Result.andThen]
      rw [Oper.upon_value]
      go_wp2_with fail
      go_ret
      exact ⟨by rw [HF.out]; simp, (HB.out.alloc HB.out.size _).grown HG3.out (by have := HB.out.size; simp; omega) (fun g hg => (World.ownsRow.lt HO.out g hg).1)⟩
end Go.Proofs.YtlfkiaphmifelaaDoor
