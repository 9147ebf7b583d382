/- The walk of prompterlaw07.TokenBlanks: it returns true. -/
import Derived.OpenShut
import Derived.Test.YtlfkiaphmifelaaWak
import Derived.Test.YtlfkiaphmifelaaBla
namespace Go.Proofs.Ytlfkiaphmifelaa
open Go.RowKit

theorem cat_list (x y : List UInt8) : (⟨x.toArray⟩ : ByteArray) ++ ⟨y.toArray⟩ = ⟨(x ++ y).toArray⟩ := ByteArray.mk_append_mk _ _
theorem src_nil (s : List UInt8) (h : (srcL s).2.2 ≠ 0) : (srcL s).1 = [] := by
  unfold srcL at h ⊢
  split at h
  · rename_i h1; rw [if_pos h1]
  · rename_i h1
    rw [if_neg h1]
    have key : ∀ (n : Nat) (i : Nat) (l : List Tok), (allN n s i l).2.2 ≠ 0 → (allN n s i l).1 = [] := by
      intro n
      induction n with
      | zero => intro i l h; exact absurd rfl h
      | succ n ih =>
        intro i l h
        unfold allN at h ⊢
        cases hc : s[i]? with
        | none => rw [hc] at h; exact absurd rfl h
        | some c =>
          rw [hc] at h
          dsimp only at h ⊢
          split at h
          · rename_i h1; rw [if_pos h1]; exact ih _ _ h
          · rename_i h1
            rw [if_neg h1]
            split at h
            · rename_i h2; rw [if_pos h2]; exact ih _ _ h
            · rename_i h2
              rw [if_neg h2]
              rcases ho : oneL s i c with ⟨q, e⟩ | ⟨t, e⟩
              · rfl
              · rw [ho] at h; exact ih _ _ h
    exact key _ _ _ h
theorem one_place {s : List UInt8} {i : Nat} {c : UInt8} {t : Tok} {e : Nat} (h : oneL s i c = .inr (t, e)) : t.place = i := by
  unfold oneL at h
  split at h
  · unfold wordL at h
    split at h
    · cases h
    · injection h with h; injection h with h _; rw [← h]
  · split at h
    · unfold numT at h
      split at h
      · injection h with h; injection h with h _; rw [← h]
      · cases h
    · split at h
      · unfold textT at h
        split at h
        · injection h with h; injection h with h _; rw [← h]
        · cases h
      · unfold signL at h
        split at h
        · cases h
        · split at h
          · cases h
          · split at h
            · split at h
              · injection h with h; injection h with h _; rw [← h]
              · injection h with h; injection h with h _; rw [← h]
            · cases h
theorem all_place (s : List UInt8) : ∀ (n i : Nat) (l : List Tok), (∀ t ∈ l, t.place < s.length) → ∀ t ∈ (allN n s i l).1, t.place < s.length
  | 0, _, _, h => h
  | n + 1, i, l, h => by
    unfold allN
    cases hc : s[i]? with
    | none => exact h
    | some c =>
      have hi : i < s.length := (List.getElem?_eq_some_iff.1 hc).1
      dsimp only
      split
      · exact all_place s n _ l h
      · split
        · exact all_place s n _ l h
        · rcases ho : oneL s i c with ⟨q, e⟩ | ⟨t, e⟩
          · intro t ht; cases ht
          · refine all_place s n e _ (fun u hu => ?_)
            rw [List.mem_append] at hu
            rcases hu with hu | hu
            · exact h u hu
            · rw [List.mem_singleton] at hu; rw [hu, one_place ho]; exact hi
theorem At4.below {W wx : World} {b o : Nat} {g : Gk} (h : At4 W b o g) (hb : Below W.heap.size W wx) (hlt : b < W.heap.size) : At4 wx b o g :=
  ⟨(hb.cell (p := ⟨b, o, none⟩) hlt).trans h.1, (hb.cell (p := ⟨b, o + 1, none⟩) hlt).trans h.2.1, (hb.cell (p := ⟨b, o + 2, none⟩) hlt).trans h.2.2.1, (hb.cell (p := ⟨b, o + 3, none⟩) hlt).trans h.2.2.2⟩
/-- What stands between the two sources, behind the new line. -/
def midL (x y : Nat) : List UInt8 := List.replicate x 32 ++ (if y = 0 then [] else 35 :: ((List.replicate y [97, 34]).flatten ++ [10]))
theorem midL_skips (x y : Nat) : Skips (midL x y) := by
  unfold midL
  refine skips_app (skips_many (.inl rfl) x) ?_
  split
  · exact skips_nil
  · refine skips_remark (fun c hc => ?_)
    rw [List.mem_flatten] at hc
    obtain ⟨l, hl, hc⟩ := hc
    have := List.eq_of_mem_replicate hl
    subst this
    simp at hc
    rcases hc with rfl | rfl <;> decide

set_option maxRecDepth 100000 in
set_option maxHeartbeats 16000000 in
theorem tokenBlanks_walk (sa sb : ByteArray) (x y : Nat) (wa : sa.size ≤ maxLen) (wb : sb.size ≤ maxLen) (hx : x ≤ 255) (hy : y ≤ 255) (w : World) :
    Calls Try.prog 5 #[.string sa, .string sb, .int .u8 (x : Nat), .int .u8 (y : Nat)] w fun e w' => e = .returned (.bool true) ∧ Below w.heap.size w w' := by
  unfold maxLen at wa wb
  have HWK := Lib.hid (fun W => wakes_any W)
  by_cases hla : 4000 < sa.size
  · have hd : decide ((4000 : Int) < (sa.size : Int)) = true := decide_eq_true (by omega)
    clear hla
    go_enter Try.func5, Try.ntmps5
    go_wp2_with fail
    refine (HWK.out _).mono ?_
    rintro e w1 ⟨rfl, hb⟩
    have HB := Lib.hid hb
    clear hb
    go_wp2_with fail
    go_ret
    exact ⟨rfl, HB.out⟩
  · by_cases hlb : 4000 < sb.size
    · have hd : decide ((4000 : Int) < (sa.size : Int)) = false := decide_eq_false (by omega)
      have hd2 : decide ((4000 : Int) < (sb.size : Int)) = true := decide_eq_true (by omega)
      clear hla hlb
      go_enter Try.func5, Try.ntmps5
      go_wp2_with fail
      refine (HWK.out _).mono ?_
      rintro e w1 ⟨rfl, hb⟩
      have HB := Lib.hid hb
      clear hb
      go_wp2_with fail
      go_ret
      exact ⟨rfl, HB.out⟩
    · obtain ⟨a, ha⟩ : ∃ s : List UInt8, sa = ⟨s.toArray⟩ := ⟨sa.data.toList, by cases sa; rfl⟩
      obtain ⟨b, hb⟩ : ∃ s : List UInt8, sb = ⟨s.toArray⟩ := ⟨sb.data.toList, by cases sb; rfl⟩
      have hal : sa.size = a.length := by rw [ha]; rfl
      have hbl : sb.size = b.length := by rw [hb]; rfl
      have HCA := Lib.hid (fun W => all_any a (by omega) W)
      have HCB := Lib.hid (fun W => all_any b (by omega) W)
      rw [← ha] at HCA
      rw [← hb] at HCB
      have hlena := srcL_len a
      have hlenb := srcL_len b
      have HNA := Lib.hid (src_nil a)
      have HSA : Hid (srcL a = allL a 0 []) := if_neg (by omega)
      have HSB : Hid (srcL b = allL b 0 []) := if_neg (by omega)
      obtain ⟨la, qa, ea, hRa⟩ : ∃ l q er, srcL a = (l, q, er) := ⟨_, _, _, rfl⟩
      obtain ⟨lb, qb, eb, hRb⟩ : ∃ l q er, srcL b = (l, q, er) := ⟨_, _, _, rfl⟩
      rw [hRa] at HCA hlena HNA HSA
      rw [hRb] at HCB hlenb HSB
      unfold AllPost at HCA HCB
      dsimp only at HCA HCB hlena hlenb HNA
      obtain ⟨ma, hma⟩ : ∃ m, m = la.length := ⟨_, rfl⟩
      obtain ⟨mb, hmb⟩ : ∃ m, m = lb.length := ⟨_, rfl⟩
      rw [← hma] at HCA hlena
      rw [← hmb] at HCB hlenb
      have hma4 : ma ≤ 4000 := by omega
      have hmb4 : mb ≤ 4000 := by omega
      have HA := Lib.hid ha
      have HBB := Lib.hid hb
      have HMA := Lib.hid hma
      have HMB := Lib.hid hmb
      have HAL := Lib.hid hal
      have HBL := Lib.hid hbl
      have hsa : sa.size ≤ 4000 := by omega
      have hsb : sb.size ≤ 4000 := by omega
      clear hRa hRb ha hb hal hbl hma hmb hlena hlenb wa wb
      go_enter Try.func5, Try.ntmps5
      go_wp2_with fail
      refine (HCA.out w).mono ?_
      rintro e w1 ⟨A1, c1, rfl, ho1, hb1⟩
      have HO1 := Lib.hid ho1
      have HB1 := Lib.hid hb1
      clear ho1 hb1
      go_wp2_with fail
      refine (HCB.out w1).mono ?_
      rintro e w2 ⟨A2, c2, rfl, ho2, hb2⟩
      have HB2 := Lib.hid (HB1.out.trans (hb2.mono HB1.out.size))
      have HR1 : Hid (Rd4 w2 A1 (la.map gk)) := own_rd4 (own_below HO1.out hb2) HMA.out
      have HR2 : Hid (Rd4 w2 A2 (lb.map gk)) := own_rd4 ho2 HMB.out
      have HLT : Hid (∀ x, (A1 = some x ∨ A2 = some x) → x.block < w2.heap.size) := fun x hx => by
        rcases hx with hx | hx
        · have h3 := HO1.out; rw [hx] at h3; exact Nat.lt_of_lt_of_le (World.ownsRow.lt h3 x.block rfl).2 hb2.size
        · have h3 := ho2; rw [hx] at h3; exact (World.ownsRow.lt h3 x.block rfl).2
      clear ho2 hb2 HO1 HB1
      by_cases hea : ea = 0
      · subst hea
        by_cases heb : eb = 0
        · subst heb
          have HLA : Hid (allL a 0 [] = (la, 0, 0)) := by rw [← HSA.out, all_ok HSA.out.symm rfl]; exact rfl
          have HLB : Hid (allL b 0 [] = (lb, 0, 0)) := by rw [← HSB.out, all_ok HSB.out.symm rfl]; exact rfl
          clear HNA
          go_wp2_with fail
          go_loopw [15, 16] (fun s15 s16 wr => wr = w2 ∧ ∃ (k : Nat) (sv : ByteArray), s15 = .string sv ∧ s16 = .int .i64 k ∧ k ≤ x ∧ sv.size ≤ 4001 + k ∧ sv = ⟨(a ++ 10 :: List.replicate k 32).toArray⟩) (fun _ s16 _ => x - (intOf s16).toNat)
          case atStart => exact ⟨rfl, 0, _, rfl, rfl, by omega, by rw [ByteArray.size_append]; show sa.size + 1 ≤ 4001 + 0; omega, by rw [HA.out]; exact cat_list a [10]⟩
          case round =>
            obtain ⟨rfl, k, sv, rfl, rfl, hk, hsv, hse⟩ := hrel
            have HSV := Lib.hid hse
            clear hse
            by_cases hlt : k < x
            · go_wp2_with fail
              go_roundw
              case rel => exact ⟨trivial, k + 1, _, rfl, by go_num, by omega, by rw [ByteArray.size_append]; show sv.size + 1 ≤ 4001 + (k + 1); omega, by rw [HSV.out]; exact (cat_list _ [32]).trans (by simp [List.replicate_succ'])⟩
              case measure => simp [intOf]; omega
            · obtain rfl : k = x := by omega
              by_cases hy0 : y = 0
              · subst hy0
                go_wp2_with fail
                have HFS : Hid (sv = ⟨(a ++ 10 :: midL k 0).toArray⟩) := by rw [HSV.out]; unfold midL; rw [if_pos rfl, List.append_nil]; exact rfl
                have hsv5 : sv.size ≤ 10000 := by omega
                obtain ⟨mid, hmid⟩ : ∃ m, m = midL k 0 := ⟨_, rfl⟩
                have HMS : Hid (Skips mid) := by rw [hmid]; exact midL_skips _ _
                rw [← hmid] at HFS
                clear hmid
                obtain ⟨S, hS⟩ : ∃ S, S = a.length + 1 + mid.length := ⟨_, rfl⟩
                have HSS : Hid ((sv).size = S) := by rw [HFS.out, hS]; show (a ++ 10 :: mid).toArray.size = _; simp; omega
                have hszle : (sv).size ≤ 10000 := by first | omega | (rw [ByteArray.size_append]; show sv.size + 1 ≤ 10000; omega)
                have hSle : S ≤ 10000 := by rw [← HSS.out]; exact hszle
                have HALL : Hid (allL (a ++ 10 :: (mid ++ b)) 0 [] = (la ++ lb.map (shift S), 0, 0)) := by rw [hS]; exact blanks_law HMS.out HLA.out HLB.out
                have HCAT : Hid (sv ++ sb = ⟨(a ++ 10 :: (mid ++ b)).toArray⟩) := by rw [HFS.out, HBB.out, cat_list]; exact congrArg (fun l : List UInt8 => (⟨l.toArray⟩ : ByteArray)) (by simp)
                have hlall : (a ++ 10 :: (mid ++ b)).length ≤ 14000 := by
                  have h1 : (sv ++ sb).size = (a ++ 10 :: (mid ++ b)).length := by rw [HCAT.out]; exact rfl
                  rw [← h1, ByteArray.size_append]
                  omega
                have HSRC : Hid (srcL (a ++ 10 :: (mid ++ b)) = (la ++ lb.map (shift S), 0, 0)) := by rw [← HALL.out]; exact if_neg (by omega)
                have HC3 := Lib.hid (fun W => all_any (a ++ 10 :: (mid ++ b)) (by omega) W)
                rw [HSRC.out, ← HCAT.out] at HC3
                unfold AllPost at HC3
                dsimp only at HC3
                have hlen3 : (la ++ lb.map (shift S)).length = ma + mb := by rw [List.length_append, List.length_map, ← HMA.out, ← HMB.out]
                rw [hlen3] at HC3
                have HLEN3 := Lib.hid hlen3
                clear hlen3 hlall hS
                refine (HC3.out wr).mono ?_
                rintro e w4 ⟨A3, c3, rfl, ho3, hb3⟩
                have HB4 := Lib.hid (HB2.out.trans (hb3.mono HB2.out.size))
                have HK1 : Hid (Rd4 w4 A1 (la.map gk)) := HR1.out.keep fun x hx p hp => hb3.cell (by rw [hp]; exact HLT.out x (.inl hx))
                have HK2 : Hid (Rd4 w4 A2 (lb.map gk)) := HR2.out.keep fun x hx p hp => hb3.cell (by rw [hp]; exact HLT.out x (.inr hx))
                have HK3 : Hid (Rd4 w4 A3 ((la ++ lb.map (shift S)).map gk)) := own_rd4 ho3 HLEN3.out.symm
                have hlt2 : wr.heap.size ≤ w4.heap.size := hb3.size
                have HLT4 : Hid (∀ x, (A2 = some x ∨ A3 = some x) → x.block < w4.heap.size) := fun x hx => by
                  rcases hx with hx | hx
                  · exact Nat.lt_of_lt_of_le (HLT.out x (.inr hx)) hlt2
                  · have h3 := ho3; rw [hx] at h3; exact (World.ownsRow.lt h3 x.block rfl).2
                have hform : (A3 = none ∧ c3 = 0 ∧ ma = 0 ∧ mb = 0) ∨ (∃ g, A3 = some ⟨g, 0, none⟩ ∧ ma + mb ≤ c3 ∧ c3 ≤ 9223372036854775807) := by
                  rcases ho3.2 with ⟨h1, h2⟩ | ⟨g, cap, cur, h1, _, _, h4, h5, _⟩
                  · injection h1 with h1 _ h3
                    exact .inl ⟨h1, h3, by omega, by omega⟩
                  · injection h1 with h1 _ h3
                    unfold maxLen at h5
                    exact .inr ⟨g, h1, by omega, by omega⟩
                have HPRE : Hid (Rd4 w4 A3 (la.map gk)) := by
                  rcases HK3.out with h | ⟨b', o', h1, h2⟩
                  · left
                    rw [List.map_append, List.append_eq_nil_iff] at h
                    exact h.1
                  · right
                    refine ⟨b', o', h1, fun k g hg => h2 k g ?_⟩
                    rw [List.map_append, List.getElem?_append_left (List.getElem?_eq_some_iff.1 hg).1]
                    exact hg
                have HAL := Lib.hid (fun c => alike_same A3 A1 c c1 ma (la.map gk) w4 HPRE.out HK1.out (by rw [List.length_map]; exact HMA.out.symm) (by omega))
                clear ho3 hb3 HC3 hlt2
                rcases hform with ⟨rfl, rfl, rfl, rfl⟩ | ⟨g3, rfl, hc3, hc3m⟩
                · have HAL0 := Lib.hid (HAL.out 0)
                  go_wp2_with fail
                  refine HAL0.out.mono ?_
                  rintro e w5 ⟨rfl, q5, hw5⟩
                  rw [hw5]
                  clear hw5 w5
                  go_wp2_with fail
                  go_loopw [21] (fun s21 wx => s21 = .int .i64 0 ∧ wx = w4.drewN q5) (fun _ _ => 0)
                  case atStart => exact ⟨rfl, rfl⟩
                  case round =>
                    obtain ⟨rfl, rfl⟩ := hrel
                    go_wp2_with fail
                    refine (HWK.out _).mono ?_
                    rintro e w6 ⟨rfl, hb6⟩
                    have HB6 := Lib.hid ((below_drewN HB4.out q5).trans (hb6.mono HB4.out.size))
                    clear hb6
                    go_wp2_with fail
                    go_ret
                    exact ⟨rfl, HB6.out⟩
                · go_wp2_with fail
                  refine (HAL.out c3).mono ?_
                  rintro e w5 ⟨rfl, q5, hw5⟩
                  rw [hw5]
                  clear hw5 w5
                  go_wp2_with fail
                  have HK2q : Hid (Rd4 (w4.drewN q5) A2 (lb.map gk)) := HK2.out.drewN q5
                  have HK3q : Hid (Rd4 (w4.drewN q5) (some ⟨g3, 0, none⟩) ((la ++ lb.map (shift S)).map gk)) := HK3.out.drewN q5
                  have HLTq : Hid (∀ x, (A2 = some x ∨ some ⟨g3, 0, none⟩ = some x) → x.block < (w4.drewN q5).heap.size) := HLT4.out
                  have HBq : Hid (Below w.heap.size w (w4.drewN q5)) := below_drewN HB4.out q5
                  have hszS : (sv).size = S := HSS.out
                  clear HK2 HK3 HLT4 HB4 HPRE HK1 HAL
                  generalize w4.drewN q5 = W at *
                  go_loopw [21] (fun s21 wx => ∃ k : Nat, s21 = .int .i64 k ∧ k ≤ mb ∧ Below W.heap.size W wx) (fun s21 _ => mb - (intOf s21).toNat)
                  case atStart => exact ⟨0, rfl, by omega, Below.refl _ _⟩
                  case round =>
                    obtain ⟨i, rfl, hi, hbx⟩ := hrel
                    obtain ⟨wx, rfl⟩ : ∃ wx : World, wx = wr := ⟨_, rfl⟩
                    have HBX := Lib.hid hbx
                    clear hbx
                    by_cases hilt : i < mb
                    · have hkl : i < lb.length := by rw [← HMB.out]; exact hilt
                      obtain ⟨t, ht⟩ : ∃ t, lb[i]? = some t := ⟨_, List.getElem?_eq_getElem hkl⟩
                      have hg2 : (lb.map gk)[i]? = some (gk t) := by rw [List.getElem?_map, ht]; rfl
                      have hg3 : ((la ++ lb.map (shift S)).map gk)[ma + i]? = some (gk (shift S t)) := by
                        rw [List.getElem?_map, List.getElem?_append_right (by rw [← HMA.out]; omega), ← HMA.out, Nat.add_sub_cancel_left, List.getElem?_map, ht]; rfl
                      obtain ⟨b2, o2, hA2, hat2⟩ : ∃ b off, A2 = some ⟨b, off, none⟩ ∧ ∀ k g, (lb.map gk)[k]? = some g → At4 W b (off + k * 4) g := HK2q.out.resolve_left (fun h => by rw [h] at hg2; cases hg2)
                      obtain ⟨b3, o3, hA3, hat3⟩ : ∃ b off, some (⟨g3, 0, none⟩ : Addr) = some ⟨b, off, none⟩ ∧ ∀ k g, ((la ++ lb.map (shift S)).map gk)[k]? = some g → At4 W b (off + k * 4) g := HK3q.out.resolve_left (fun h => by rw [h] at hg3; cases hg3)
                      have hlt2 := HLTq.out ⟨b2, o2, none⟩ (.inl hA2)
                      have hlt3 := HLTq.out ⟨g3, 0, none⟩ (.inr rfl)
                      injection hA3 with hA3
                      injection hA3 with hA31 hA32
                      subst hA31; subst hA32
                      have h2 := hat2 i _ hg2
                      have h3 := hat3 (ma + i) _ hg3
                      have hc2 := h2.below HBX.out hlt2
                      have hc3x := h3.below HBX.out hlt3
                      have htp : t.place < b.length := by
                        have hin : t ∈ lb := List.mem_of_getElem? ht
                        have h := all_place b b.length 0 [] (by simp) t
                        rw [show allN b.length b 0 [] = (lb, 0, 0) from HLB.out] at h
                        exact h hin
                      rw [← HBL.out] at htp
                      have hlt2x : b2 < wx.heap.size := Nat.lt_of_lt_of_le hlt2 HBX.out.size
                      subst hA2
                      clear hat2 hat3 h2 h3 hg2 hg3 ht hkl hlt2 hlt3
                      obtain ⟨tk, tt, ti, tp⟩ := t
                      unfold gk shift at hc3x
                      unfold gk at hc2
                      dsimp only at hc2 hc3x htp
                      obtain ⟨c20, c21, c22, c23⟩ := hc2
                      obtain ⟨c30, c31, c32, c33⟩ := hc3x
                      dsimp only at c20 c21 c22 c23 c30 c31 c32 c33
                      rw [Nat.zero_add] at c30 c31 c32 c33
                      have hii : (i : Int) < (mb : Int) := by omega
                      have hal : ∀ (ob : Obj) (o : Nat), (wx.alloc ob).cell? ⟨b2, o, none⟩ = wx.cell? ⟨b2, o, none⟩ := fun ob o => World.cell?_alloc_lt _ _ _ hlt2x
                      have d20 : ∀ ob, (wx.alloc ob).cell? ⟨b2, o2 + i * 4, none⟩ = some (.int .u8 tk) := fun ob => (hal ob _).trans c20
                      have d21 : ∀ ob, (wx.alloc ob).cell? ⟨b2, o2 + i * 4 + 1, none⟩ = some (.string ⟨tt.toArray⟩) := fun ob => (hal ob _).trans c21
                      have d22 : ∀ ob, (wx.alloc ob).cell? ⟨b2, o2 + i * 4 + 2, none⟩ = some (.int .i64 ti) := fun ob => (hal ob _).trans c22
                      have d23 : ∀ ob, (wx.alloc ob).cell? ⟨b2, o2 + i * 4 + 3, none⟩ = some (.int .i64 tp) := fun ob => (hal ob _).trans c23
                      have hi0 : (0 : Int) ≤ (i : Int) := by omega
                      clear hal c20 c21 c22 c23 hlt2x
                      go_wp2_with fail
                      go_quiet (fail)
                      go_wp2_with fail
                      go_roundw
                      case rel => exact ⟨i + 1, by go_num, by omega, below_drewN (HBX.out.alloc HBX.out.size _) nq⟩
                      case measure => simp [intOf]; omega
                    · have HB5 := Lib.hid (HBq.out.trans (HBX.out.mono HBq.out.size))
                      go_wp2_with fail
                      refine (HWK.out _).mono ?_
                      rintro e w6 ⟨rfl, hb6⟩
                      have HB6 := Lib.hid (HB5.out.trans (hb6.mono HB5.out.size))
                      clear hb6
                      go_wp2_with fail
                      go_ret
                      exact ⟨rfl, HB6.out⟩
              · have hyp : decide ((0 : Int) < (y : Int)) = true := decide_eq_true (by omega)
                go_wp2_with fail
                go_loopw [15, 17] (fun s15 s17 wx => wx = wr ∧ ∃ (j : Nat) (sv : ByteArray), s15 = .string sv ∧ s17 = .int .i64 j ∧ j ≤ y ∧ sv.size ≤ 4300 + 2 * j ∧ sv = ⟨(a ++ 10 :: (List.replicate k 32 ++ 35 :: (List.replicate j [97, 34]).flatten)).toArray⟩) (fun _ s17 _ => y - (intOf s17).toNat)
                case atStart => exact ⟨rfl, 0, _, rfl, rfl, by omega, by rw [ByteArray.size_append]; show sv.size + 1 ≤ 4300 + 2 * 0; omega, by rw [HSV.out]; exact (cat_list _ [35]).trans (by simp)⟩
                case round =>
                  obtain ⟨rfl, j, sv, rfl, rfl, hj, hsv2, hse⟩ := hrel
                  have HSV2 := Lib.hid hse
                  clear hse
                  by_cases hjlt : j < y
                  · go_wp2_with fail
                    go_roundw
                    case rel => exact ⟨trivial, j + 1, _, rfl, by go_num, by omega, by rw [ByteArray.size_append]; show sv.size + 2 ≤ 4300 + 2 * (j + 1); omega, by rw [HSV2.out]; exact (cat_list _ [97, 34]).trans (by simp [List.replicate_succ'])⟩
                    case measure => simp [intOf]; omega
                  · obtain rfl : j = y := by omega
                    have HFS : Hid (sv ++ ⟨#[10]⟩ = ⟨(a ++ 10 :: midL k j).toArray⟩) := by rw [HSV2.out]; refine (cat_list _ [10]).trans ?_; unfold midL; rw [if_neg hy0]; simp
                    have hsv5 : sv.size ≤ 9000 := by omega
                    go_wp2_with fail
                    obtain ⟨mid, hmid⟩ : ∃ m, m = midL k j := ⟨_, rfl⟩
                    have HMS : Hid (Skips mid) := by rw [hmid]; exact midL_skips _ _
                    rw [← hmid] at HFS
                    clear hmid
                    obtain ⟨S, hS⟩ : ∃ S, S = a.length + 1 + mid.length := ⟨_, rfl⟩
                    have HSS : Hid (((sv ++ ⟨#[10]⟩)).size = S) := by rw [HFS.out, hS]; show (a ++ 10 :: mid).toArray.size = _; simp; omega
                    have hszle : ((sv ++ ⟨#[10]⟩)).size ≤ 10000 := by first | omega | (rw [ByteArray.size_append]; show sv.size + 1 ≤ 10000; omega)
                    have hSle : S ≤ 10000 := by rw [← HSS.out]; exact hszle
                    have HALL : Hid (allL (a ++ 10 :: (mid ++ b)) 0 [] = (la ++ lb.map (shift S), 0, 0)) := by rw [hS]; exact blanks_law HMS.out HLA.out HLB.out
                    have HCAT : Hid ((sv ++ ⟨#[10]⟩) ++ sb = ⟨(a ++ 10 :: (mid ++ b)).toArray⟩) := by rw [HFS.out, HBB.out, cat_list]; exact congrArg (fun l : List UInt8 => (⟨l.toArray⟩ : ByteArray)) (by simp)
                    have hlall : (a ++ 10 :: (mid ++ b)).length ≤ 14000 := by
                      have h1 : ((sv ++ ⟨#[10]⟩) ++ sb).size = (a ++ 10 :: (mid ++ b)).length := by rw [HCAT.out]; exact rfl
                      rw [← h1, ByteArray.size_append]
                      omega
                    have HSRC : Hid (srcL (a ++ 10 :: (mid ++ b)) = (la ++ lb.map (shift S), 0, 0)) := by rw [← HALL.out]; exact if_neg (by omega)
                    have HC3 := Lib.hid (fun W => all_any (a ++ 10 :: (mid ++ b)) (by omega) W)
                    rw [HSRC.out, ← HCAT.out] at HC3
                    unfold AllPost at HC3
                    dsimp only at HC3
                    have hlen3 : (la ++ lb.map (shift S)).length = ma + mb := by rw [List.length_append, List.length_map, ← HMA.out, ← HMB.out]
                    rw [hlen3] at HC3
                    have HLEN3 := Lib.hid hlen3
                    clear hlen3 hlall hS
                    refine (HC3.out wr).mono ?_
                    rintro e w4 ⟨A3, c3, rfl, ho3, hb3⟩
                    have HB4 := Lib.hid (HB2.out.trans (hb3.mono HB2.out.size))
                    have HK1 : Hid (Rd4 w4 A1 (la.map gk)) := HR1.out.keep fun x hx p hp => hb3.cell (by rw [hp]; exact HLT.out x (.inl hx))
                    have HK2 : Hid (Rd4 w4 A2 (lb.map gk)) := HR2.out.keep fun x hx p hp => hb3.cell (by rw [hp]; exact HLT.out x (.inr hx))
                    have HK3 : Hid (Rd4 w4 A3 ((la ++ lb.map (shift S)).map gk)) := own_rd4 ho3 HLEN3.out.symm
                    have hlt2 : wr.heap.size ≤ w4.heap.size := hb3.size
                    have HLT4 : Hid (∀ x, (A2 = some x ∨ A3 = some x) → x.block < w4.heap.size) := fun x hx => by
                      rcases hx with hx | hx
                      · exact Nat.lt_of_lt_of_le (HLT.out x (.inr hx)) hlt2
                      · have h3 := ho3; rw [hx] at h3; exact (World.ownsRow.lt h3 x.block rfl).2
                    have hform : (A3 = none ∧ c3 = 0 ∧ ma = 0 ∧ mb = 0) ∨ (∃ g, A3 = some ⟨g, 0, none⟩ ∧ ma + mb ≤ c3 ∧ c3 ≤ 9223372036854775807) := by
                      rcases ho3.2 with ⟨h1, h2⟩ | ⟨g, cap, cur, h1, _, _, h4, h5, _⟩
                      · injection h1 with h1 _ h3
                        exact .inl ⟨h1, h3, by omega, by omega⟩
                      · injection h1 with h1 _ h3
                        unfold maxLen at h5
                        exact .inr ⟨g, h1, by omega, by omega⟩
                    have HPRE : Hid (Rd4 w4 A3 (la.map gk)) := by
                      rcases HK3.out with h | ⟨b', o', h1, h2⟩
                      · left
                        rw [List.map_append, List.append_eq_nil_iff] at h
                        exact h.1
                      · right
                        refine ⟨b', o', h1, fun k g hg => h2 k g ?_⟩
                        rw [List.map_append, List.getElem?_append_left (List.getElem?_eq_some_iff.1 hg).1]
                        exact hg
                    have HAL := Lib.hid (fun c => alike_same A3 A1 c c1 ma (la.map gk) w4 HPRE.out HK1.out (by rw [List.length_map]; exact HMA.out.symm) (by omega))
                    clear ho3 hb3 HC3 hlt2
                    rcases hform with ⟨rfl, rfl, rfl, rfl⟩ | ⟨g3, rfl, hc3, hc3m⟩
                    · have HAL0 := Lib.hid (HAL.out 0)
                      go_wp2_with fail
                      refine HAL0.out.mono ?_
                      rintro e w5 ⟨rfl, q5, hw5⟩
                      rw [hw5]
                      clear hw5 w5
                      go_wp2_with fail
                      go_loopw [21] (fun s21 wx => s21 = .int .i64 0 ∧ wx = w4.drewN q5) (fun _ _ => 0)
                      case atStart => exact ⟨rfl, rfl⟩
                      case round =>
                        obtain ⟨rfl, rfl⟩ := hrel
                        go_wp2_with fail
                        refine (HWK.out _).mono ?_
                        rintro e w6 ⟨rfl, hb6⟩
                        have HB6 := Lib.hid ((below_drewN HB4.out q5).trans (hb6.mono HB4.out.size))
                        clear hb6
                        go_wp2_with fail
                        go_ret
                        exact ⟨rfl, HB6.out⟩
                    · go_wp2_with fail
                      refine (HAL.out c3).mono ?_
                      rintro e w5 ⟨rfl, q5, hw5⟩
                      rw [hw5]
                      clear hw5 w5
                      go_wp2_with fail
                      have HK2q : Hid (Rd4 (w4.drewN q5) A2 (lb.map gk)) := HK2.out.drewN q5
                      have HK3q : Hid (Rd4 (w4.drewN q5) (some ⟨g3, 0, none⟩) ((la ++ lb.map (shift S)).map gk)) := HK3.out.drewN q5
                      have HLTq : Hid (∀ x, (A2 = some x ∨ some ⟨g3, 0, none⟩ = some x) → x.block < (w4.drewN q5).heap.size) := HLT4.out
                      have HBq : Hid (Below w.heap.size w (w4.drewN q5)) := below_drewN HB4.out q5
                      have hszS : ((sv ++ ⟨#[10]⟩)).size = S := HSS.out
                      clear HK2 HK3 HLT4 HB4 HPRE HK1 HAL
                      generalize w4.drewN q5 = W at *
                      go_loopw [21] (fun s21 wx => ∃ k : Nat, s21 = .int .i64 k ∧ k ≤ mb ∧ Below W.heap.size W wx) (fun s21 _ => mb - (intOf s21).toNat)
                      case atStart => exact ⟨0, rfl, by omega, Below.refl _ _⟩
                      case round =>
                        obtain ⟨i, rfl, hi, hbx⟩ := hrel
                        obtain ⟨wx, rfl⟩ : ∃ wx : World, wx = wr := ⟨_, rfl⟩
                        have HBX := Lib.hid hbx
                        clear hbx
                        by_cases hilt : i < mb
                        · have hkl : i < lb.length := by rw [← HMB.out]; exact hilt
                          obtain ⟨t, ht⟩ : ∃ t, lb[i]? = some t := ⟨_, List.getElem?_eq_getElem hkl⟩
                          have hg2 : (lb.map gk)[i]? = some (gk t) := by rw [List.getElem?_map, ht]; rfl
                          have hg3 : ((la ++ lb.map (shift S)).map gk)[ma + i]? = some (gk (shift S t)) := by
                            rw [List.getElem?_map, List.getElem?_append_right (by rw [← HMA.out]; omega), ← HMA.out, Nat.add_sub_cancel_left, List.getElem?_map, ht]; rfl
                          obtain ⟨b2, o2, hA2, hat2⟩ : ∃ b off, A2 = some ⟨b, off, none⟩ ∧ ∀ k g, (lb.map gk)[k]? = some g → At4 W b (off + k * 4) g := HK2q.out.resolve_left (fun h => by rw [h] at hg2; cases hg2)
                          obtain ⟨b3, o3, hA3, hat3⟩ : ∃ b off, some (⟨g3, 0, none⟩ : Addr) = some ⟨b, off, none⟩ ∧ ∀ k g, ((la ++ lb.map (shift S)).map gk)[k]? = some g → At4 W b (off + k * 4) g := HK3q.out.resolve_left (fun h => by rw [h] at hg3; cases hg3)
                          have hlt2 := HLTq.out ⟨b2, o2, none⟩ (.inl hA2)
                          have hlt3 := HLTq.out ⟨g3, 0, none⟩ (.inr rfl)
                          injection hA3 with hA3
                          injection hA3 with hA31 hA32
                          subst hA31; subst hA32
                          have h2 := hat2 i _ hg2
                          have h3 := hat3 (ma + i) _ hg3
                          have hc2 := h2.below HBX.out hlt2
                          have hc3x := h3.below HBX.out hlt3
                          have htp : t.place < b.length := by
                            have hin : t ∈ lb := List.mem_of_getElem? ht
                            have h := all_place b b.length 0 [] (by simp) t
                            rw [show allN b.length b 0 [] = (lb, 0, 0) from HLB.out] at h
                            exact h hin
                          rw [← HBL.out] at htp
                          have hlt2x : b2 < wx.heap.size := Nat.lt_of_lt_of_le hlt2 HBX.out.size
                          subst hA2
                          clear hat2 hat3 h2 h3 hg2 hg3 ht hkl hlt2 hlt3
                          obtain ⟨tk, tt, ti, tp⟩ := t
                          unfold gk shift at hc3x
                          unfold gk at hc2
                          dsimp only at hc2 hc3x htp
                          obtain ⟨c20, c21, c22, c23⟩ := hc2
                          obtain ⟨c30, c31, c32, c33⟩ := hc3x
                          dsimp only at c20 c21 c22 c23 c30 c31 c32 c33
                          rw [Nat.zero_add] at c30 c31 c32 c33
                          have hii : (i : Int) < (mb : Int) := by omega
                          have hal : ∀ (ob : Obj) (o : Nat), (wx.alloc ob).cell? ⟨b2, o, none⟩ = wx.cell? ⟨b2, o, none⟩ := fun ob o => World.cell?_alloc_lt _ _ _ hlt2x
                          have d20 : ∀ ob, (wx.alloc ob).cell? ⟨b2, o2 + i * 4, none⟩ = some (.int .u8 tk) := fun ob => (hal ob _).trans c20
                          have d21 : ∀ ob, (wx.alloc ob).cell? ⟨b2, o2 + i * 4 + 1, none⟩ = some (.string ⟨tt.toArray⟩) := fun ob => (hal ob _).trans c21
                          have d22 : ∀ ob, (wx.alloc ob).cell? ⟨b2, o2 + i * 4 + 2, none⟩ = some (.int .i64 ti) := fun ob => (hal ob _).trans c22
                          have d23 : ∀ ob, (wx.alloc ob).cell? ⟨b2, o2 + i * 4 + 3, none⟩ = some (.int .i64 tp) := fun ob => (hal ob _).trans c23
                          have hi0 : (0 : Int) ≤ (i : Int) := by omega
                          clear hal c20 c21 c22 c23 hlt2x
                          go_wp2_with fail
                          go_quiet (fail)
                          go_wp2_with fail
                          go_roundw
                          case rel => exact ⟨i + 1, by go_num, by omega, below_drewN (HBX.out.alloc HBX.out.size _) nq⟩
                          case measure => simp [intOf]; omega
                        · have HB5 := Lib.hid (HBq.out.trans (HBX.out.mono HBq.out.size))
                          go_wp2_with fail
                          refine (HWK.out _).mono ?_
                          rintro e w6 ⟨rfl, hb6⟩
                          have HB6 := Lib.hid (HB5.out.trans (hb6.mono HB5.out.size))
                          clear hb6
                          go_wp2_with fail
                          go_ret
                          exact ⟨rfl, HB6.out⟩
        · have hb0 : ((eb : Int) != 0) = true := by rw [bne_iff_ne]; omega
          clear heb
          by_cases hm0 : ma = 0
          · subst hm0
            go_wp2_with fail
            refine (HWK.out _).mono ?_
            rintro e w3 ⟨rfl, hb3⟩
            have HB3 := Lib.hid (HB2.out.trans (hb3.mono HB2.out.size))
            clear hb3
            go_wp2_with fail
            go_ret
            exact ⟨rfl, HB3.out⟩
          · have hbm : ((ma : Int) == 0) = false := by rw [beq_eq_false_iff_ne]; omega
            clear hm0
            go_wp2_with fail
            refine (HWK.out _).mono ?_
            rintro e w3 ⟨rfl, hb3⟩
            have HB3 := Lib.hid (HB2.out.trans (hb3.mono HB2.out.size))
            clear hb3
            go_wp2_with fail
            go_ret
            exact ⟨rfl, HB3.out⟩
      · have hm0 : ma = 0 := by rw [HMA.out, HNA.out hea]; rfl
        subst hm0
        have hb0 : ((ea : Int) != 0) = true := by rw [bne_iff_ne]; omega
        clear hea
        go_wp2_with fail
        refine (HWK.out _).mono ?_
        rintro e w3 ⟨rfl, hb3⟩
        have HB3 := Lib.hid (HB2.out.trans (hb3.mono HB2.out.size))
        clear hb3
        go_wp2_with fail
        go_ret
        exact ⟨rfl, HB3.out⟩
theorem tokenBlanks_law (a0 a1 : ByteArray) (a2 a3 : Int) (w0 : a0.size ≤ maxLen) (w1 : a1.size ≤ maxLen) (w2 : (Lit.int .u8 a2).wf = true) (w3 : (Lit.int .u8 a3).wf = true) (w : World) :
    Calls Try.prog 5 #[.string a0, .string a1, .int .u8 a2, .int .u8 a3] w fun e w' => e = .returned (.bool true) ∧ Below w.heap.size w w' := by
  have h2 := bounds_u8 w2
  have h3 := bounds_u8 w3
  obtain ⟨x, rfl⟩ : ∃ x : Nat, a2 = (x : Int) := ⟨a2.toNat, by omega⟩
  obtain ⟨y, rfl⟩ : ∃ y : Nat, a3 = (y : Int) := ⟨a3.toNat, by omega⟩
  exact tokenBlanks_walk a0 a1 x y w0 w1 (by omega) (by omega) w
end Go.Proofs.Ytlfkiaphmifelaa
