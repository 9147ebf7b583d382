/- Contract of the cache's Shrink. -/
import Derived.Test.YtnipmhidiiondaaShp
namespace Go.Proofs.Ytnipmhidiiondaa
open Go.RowKit Go.Maps

theorem shrink_no (g : Nat) (A : Abs) (p : Pls) (R : Int) (w : World) (h : CRep w g A p) (hR : mayB R = false) :
    Calls Try.prog 22 #[.pointer (some ⟨g, 0, none⟩), .int .i64 R] w fun e w' => e = .returned (.slice none 0 0) ∧ w' = w := by
  obtain ⟨S, q, hh⟩ := h
  have HRM := Lib.hid (room_any g S p w hh.rep)
  have hr0 : ((S.room : Int) == 0) = false := by rw [beq_eq_false_iff_ne]; have := hh.inv.room1; omega
  have HM := Lib.hid (may_any R w)
  rw [hR] at HM
  clear hR hh
  go_enter Try.func22, Try.ntmps22
  go_wp2_with fail
  refine HRM.out.mono ?_
  rintro e w1 ⟨rfl, hw1⟩
  rw [hw1]
  clear hw1 w1
  go_wp2_with fail
  refine HM.out.mono ?_
  rintro e w1 ⟨rfl, hw1⟩
  rw [hw1]
  clear hw1 w1
  go_wp2_with fail
  go_ret
  exact ⟨rfl, rfl⟩
structure ShR (w wr : World) (g : Nat) (p : Pls) (A : Abs) (r m : Nat) (S : Sta) (p' : Pls) (q : List Nat) (A' : Option Addr) (c' : Nat) : Prop where
  rep : Rep wr g S p'
  room : S.room = r
  inv : InvP { S with room := A.room } (A.L.take m) q
  hits : S.hits = A.hits
  misses : S.misses = A.misses
  own : wr.ownsRow w.heap.size 9 1 (.slice A' (outs A.L m).length c') (outs A.L m).length (scells (outs A.L m))
  apart : ∀ b, (Value.slice A' (outs A.L m).length c').ownBlock = some b → ¬ Own g p' b
  chg : Chg (Own g p) w wr
  ownb : ∀ b, Own g p' b → Own g p b ∨ w.heap.size ≤ b
theorem InvP.len {S : Sta} {L : List Ent} {q : List Nat} (h : InvP S L q) : S.m = L.length := h.m
set_option maxHeartbeats 4000000 in
theorem shrink_any (g : Nat) (A : Abs) (p : Pls) (r : Nat) (w : World) (h : CRep w g A p) (h1 : 1 ≤ r) (h2 : r ≤ 4096) :
    Calls Try.prog 22 #[.pointer (some ⟨g, 0, none⟩), .int .i64 (r : Nat)] w fun e w' => (∃ A' c', e = .returned (.slice A' (outs A.L r).length c') ∧ w'.ownsRow w.heap.size 9 1 (.slice A' (outs A.L r).length c') (outs A.L r).length (scells (outs A.L r))) ∧ KeepsA w g p { A with room := r, L := A.L.take r } w' := by
  obtain ⟨S, q, hh⟩ := h
  have HRM := Lib.hid (room_any g S p w hh.rep)
  have hr0 : ((S.room : Int) == 0) = false := by rw [beq_eq_false_iff_ne]; have := hh.inv.room1; omega
  have HM := Lib.hid (may_any (r : Nat) w)
  rw [show mayB (r : Nat) = true from by unfold mayB; rw [decide_eq_true (by omega), decide_eq_true (by omega)]; rfl] at HM
  have k0 : w.cell? ⟨g, 0, none⟩ = some (.int .i64 (S.room : Nat)) := hh.rep.top.cell 0
  have f0 : w.frozen? ⟨g, 0, none⟩ = false := hh.rep.top.frozen 0
  have hset := hh.rep.field (j := 0) (v := .int .i64 (r : Nat)) (S' := { S with room := r }) rfl rfl rfl rfl rfl
  obtain ⟨n, hn⟩ : ∃ n, n = A.L.length := ⟨_, rfl⟩
  have hn4 : n ≤ 4096 := by rw [hn, ← hh.inv.m]; exact Nat.le_trans hh.inv.fit hh.inv.room2
  have HN := Lib.hid hn
  have HS0 : Hid (ShR w (w.setCell ⟨g, 0, none⟩ (.int .i64 (r : Nat))) g p A r n { S with room := r } p q none 0) := by
    refine ⟨hset.1, rfl, ?_, hh.hits, hh.misses, ?_, ?_, hset.2, fun b hb => .inl hb⟩
    · rw [hn, List.take_length, ← hh.room]; exact hh.inv
    · rw [hn, outs_all]; exact World.ownsRow_nil _ _ _ _
    · rw [hn, outs_all]; intro b hb; cases hb
  clear hh hset hn
  go_enter Try.func22, Try.ntmps22
  go_wp2_with fail
  refine HRM.out.mono ?_
  rintro e w1 ⟨rfl, hw1⟩
  rw [hw1]
  clear hw1 w1
  go_wp2_with fail
  refine HM.out.mono ?_
  rintro e w1 ⟨rfl, hw1⟩
  rw [hw1]
  clear hw1 w1
  go_wp2_with fail
  clear k0 f0 HM HRM
  generalize w.setCell ⟨g, 0, none⟩ (Value.int IntKind.i64 ↑r) = ws at *
  go_loopw [5] (fun s5 wr => ∃ (m c' : Nat) (A' : Option Addr) (S' : Sta) (p' : Pls) (q' : List Nat), m ≤ n ∧ (n ≤ r → m = n) ∧ (r ≤ n → r ≤ m) ∧ s5 = .slice A' (outs A.L m).length c' ∧ ShR w wr g p A r m S' p' q' A' c') (fun s5 _ => n - sliceLen s5)
  case atStart => exact ⟨n, 0, none, _, p, q, by omega, fun _ => rfl, fun h => h, by rw [HN.out, outs_all]; rfl, HS0.out⟩
  case round =>
    clear HS0
    obtain ⟨m, c', A', S', p', q', hm, hm1, hm2, rfl, hs⟩ := hrel
    obtain ⟨gm, gc, cap, fv⟩ := p'
    have hsm : S'.m = m := by have h := hs.inv.m; rw [List.length_take, ← HN.out] at h; have : S'.m = min m n := h; omega
    have k1 : wr.cell? ⟨g, 1, none⟩ = some (.map (some gm)) := hs.rep.top.cell 1
    obtain ⟨D, hD, hsz, hf⟩ := hs.rep.map
    rw [hsm] at hsz
    have HD := Lib.hid (And.intro hD (And.intro hsz hf))
    have HS := Lib.hid hs
    have HSM := Lib.hid hsm
    obtain ⟨j, hj⟩ : ∃ j, j = (outs A.L m).length := ⟨_, rfl⟩
    rw [← hj]
    have HJ := Lib.hid (And.intro hj (show j = n - m by rw [hj, outs_length, ← HN.out]))
    clear hD hsz hf hs hsm hj
    by_cases hmr : r < m
    · have hd : decide ((r : Int) < (m : Int)) = true := decide_eq_true (by omega)
      obtain ⟨ii, hmi⟩ : ∃ ii, m = ii + 1 := ⟨m - 1, by omega⟩
      obtain ⟨x, hx⟩ : ∃ x, A.L[ii]? = some x := ⟨_, List.getElem?_eq_getElem (by rw [← HN.out]; omega)⟩
      have htk := take_last hx
      rw [← hmi] at htk
      have hL0 : A.L.take m ≠ [] := by intro h; rw [h] at htk; cases htk.1
      obtain ⟨i, hip, hi0a, hrm, hlast⟩ := HS.out.inv.last hL0
      rw [htk.1] at hlast
      obtain rfl : x = ent S'.cs i := Option.some.inj hlast
      obtain ⟨q1, q2, q3, q4, q5, q6⟩ := HS.out.inv.places hip
      have hfew := HS.out.inv.few
      have hfl4 : S'.fl.length ≤ 100000 := by have := HS.out.inv.all; dsimp only at this hfew; omega
      have HEL := Lib.hid (eldest_any g S' ⟨gm, gc, cap, fv⟩ i wr HS.out.rep hi0a q1 q2 q3 q5 (by dsimp only at hfew; omega) hfl4)
      obtain ⟨q'', hi2⟩ := HS.out.inv.out hip
      have hrm2 : rm (A.L.take m) (nm S'.cs i) = A.L.take ii := by rw [← htk.2]; exact hrm
      have HI2 : Hid (InvP { outS S' i with room := A.room } (A.L.take ii) q'') := by
        have h := hi2
        change InvP (outS { S' with room := A.room } i) (rm (A.L.take m) (nm S'.cs i)) q'' at h
        rw [hrm2] at h
        exact h
      have HX := Lib.hid hx
      have HMI := Lib.hid hmi
      obtain ⟨xn, hxn⟩ : ∃ z, z = nm S'.cs i := ⟨_, rfl⟩
      rw [← hxn] at HEL
      have HXN := Lib.hid hxn
      clear htk hL0 hip hi0a hrm hlast q1 q2 q3 q4 q5 q6 hfew hfl4 hi2 hrm2 hx hmi hxn
      go_wp2_with (at_len; refine wpList_len_own _ rfl (.tmp 22) 51 rfl 9 3 Try.underlying51 (plainElem Try.prog 3) gm S'.m D rfl HD.out.1 ?_; rw [HD.out.2.1])
      refine HEL.out.mono ?_
      rintro e w2 ⟨rfl, p2, hr2, hc2, ho2⟩
      have HK := Lib.hid (And.intro hr2 (And.intro hc2 ho2))
      clear hr2 hc2 ho2
      have HOW := Lib.hid (own_chg (by have h := HS.out.own; rw [← HJ.out.1] at h; exact h) HK.out.2.1 (fun b hb e => by have h := HS.out.apart; rw [← HJ.out.1] at h; exact h b hb e))
      have HSZ : Hid (w.heap.size ≤ w2.heap.size) := Nat.le_trans HS.out.chg.size HK.out.2.1.size
      obtain ⟨i0, hi0, hz0, hz1, hz2⟩ := info_parts Try.info9
      have HI0 := Lib.hid (And.intro hi0 (And.intro hz0 (And.intro hz1 hz2)))
      clear hi0 hz0 hz1 hz2
      go_wp2_with (at_builtin; refine wpList_append_own_at _ rfl (.tmp 26) (.tmp 29) 35 rfl w.heap.size 9 i0 (.string ⟨#[]⟩) 1 16 Try.underlying35 HI0.out.1 HI0.out.2.1 HI0.out.2.2.1 HI0.out.2.2.2 rfl (by decide) (.slice A' j c') j (scells (outs A.L m)) rfl (HOW.out.alloc _) ⟨w2.heap.size, 0, none⟩ 1 1 [.string xn] rfl rfl (news_of_blk (heap_alloc_new w2 _)) (by intro u hu; rw [List.mem_singleton] at hu; subst hu; rfl) (by have := HJ.out.2; unfold maxLen; omega) (by have := HJ.out.2; omega) (by have := HSZ.out; simp; omega) ?_; intro v3 w3 ho3 hg3 _ hloc; obtain ⟨A3, c3, rfl, _⟩ := own_form ho3; have HO3 := Lib.hid (And.intro ho3 (And.intro hg3 hloc)); clear ho3 hg3 hloc)
      go_roundw
      case rel =>
        have hmi := HMI.out
        have e : outs A.L ii = outs A.L m ++ [xn] := by rw [hmi, HXN.out]; exact outs_step HX.out
        have e2 : (outs A.L ii).length = j + 1 := by rw [e, List.length_append, ← HJ.out.1]; rfl
        have hap : ∀ b, (Value.slice A' j c').ownBlock = some b → ¬ Own g p2 b := fun b hb ho => by
          have h1 := HS.out.apart
          have h2 := (World.ownsRow.lt HS.out.own b (by rw [← HJ.out.1]; exact hb)).2
          rw [← HJ.out.1] at h1
          rcases HK.out.2.2 b ho with h | h
          · exact h1 b hb h
          · omega
        have hc2 : Chg (fun b => Own g p b ∨ w.heap.size ≤ b) w2 w3 := ((Chg.refl _ w2).alloc _).trans (.of_grown HO3.out.2.1 (fun q hq => .inr (World.ownsRow.lt HS.out.own q (by rw [← HJ.out.1]; exact hq)).1))
        refine ⟨ii, c3, A3, outS S' i, p2, q'', by omega, fun h => by omega, fun h => by omega, by rw [e2], ⟨?_, HS.out.room, HI2.out, HS.out.hits, HS.out.misses, ?_, ?_, ?_, ?_⟩⟩
        · exact (HK.out.1.alloc _).chg (T := fun b => (Value.slice A' j c').ownBlock = some b) (.of_grown HO3.out.2.1 (fun q hq => hq)) (fun b hb hq => hap b hq hb)
        · rw [e2, e, scells_append]; exact HO3.out.1
        · rw [e2]
          intro b hb ho
          rcases HO3.out.2.2 with h | h
          · rw [h] at hb; exact hap b hb ho
          · rw [h] at hb
            have := HK.out.1.lt b ho
            have hb2 := Option.some.inj hb
            have : (w2.alloc (.cells #[.string xn] 9)).heap.size = w2.heap.size + 1 := by simp
            omega
        · exact (((HS.out.chg.mono (T' := fun b => Own g p b ∨ w.heap.size ≤ b) (fun _ h => .inl h)).trans (HK.out.2.1.mono (fun b hb => HS.out.ownb b hb))).trans hc2).old (fun k hk h => h.resolve_right (by omega))
        · intro b hb
          rcases HK.out.2.2 b hb with h | h
          · exact HS.out.ownb b h
          · exact .inr (Nat.le_trans HS.out.chg.size h)
      case measure =>
        have hmi := HMI.out
        have hj := HJ.out.2
        show n - (j + 1) < n - j
        omega
    · have hd : decide ((r : Int) < (m : Int)) = false := decide_eq_false (by omega)
      have hd2 : ¬ r < m := hmr
      go_wp2_with (at_len; refine wpList_len_own _ rfl (.tmp 22) 51 rfl 9 3 Try.underlying51 (plainElem Try.prog 3) gm S'.m D rfl HD.out.1 ?_; rw [HD.out.2.1])
      go_ret
      have e1 : outs A.L r = outs A.L m := by
        rcases Nat.lt_or_ge r n with h | h
        · rw [show r = m by omega]
        · have := hm1 h
          unfold outs
          rw [List.drop_of_length_le (by rw [← HN.out]; exact h), List.drop_of_length_le (by rw [← HN.out]; omega)]
      have e2 : A.L.take r = A.L.take m := by
        rcases Nat.lt_or_ge r n with h | h
        · rw [show r = m by omega]
        · have := hm1 h
          rw [List.take_of_length_le (by rw [← HN.out]; exact h), List.take_of_length_le (by rw [← HN.out]; omega)]
      rw [e1, e2, ← HJ.out.1]
      have hv := HS.out.inv
      refine ⟨⟨A', c', rfl, by rw [HJ.out.1]; exact HS.out.own⟩, _, ⟨S', q', HS.out.rep, ⟨hv.ring, hv.nd, hv.lt, hv.all, hv.lst, hv.fnd, hv.nms, hv.sz, hv.m, ?_, ?_, ?_, hv.few⟩, HS.out.room, HS.out.hits, HS.out.misses⟩, HS.out.chg, HS.out.ownb⟩
      · rw [HSM.out, HS.out.room]; omega
      · rw [HS.out.room]; exact h1
      · rw [HS.out.room]; exact h2
end Go.Proofs.Ytnipmhidiiondaa
