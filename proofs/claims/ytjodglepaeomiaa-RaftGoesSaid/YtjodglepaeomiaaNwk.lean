/- Contracts of the net's put, come, out. -/
import Derived.Test.YtjodglepaeomiaaNem
namespace Go.Proofs.Ytjodglepaeomiaa
open Go.RowKit

/-- What put leaves. -/
def PutPost (w : World) (B gN : Nat) (X : Nat → Prop) (ps : List (Nat × Sv)) (way : List Mx) (Z : Seen) (ms : List Mg) (w' : World) : Prop :=
  ∃ X' zs v', NetM w' B gN X' ps (way ++ zs) Z v' ∧ zs.map (·.1) = ms ∧ Chg X w w'
set_option maxRecDepth 100000 in
set_option maxHeartbeats 4000000 in
theorem nput_any {w : World} {B gN : Nat} {X : Nat → Prop} {ps : List (Nat × Sv)} {way : List Mx} {Z : Seen} {v : Nv} (h : NetM w B gN X ps way Z v) {D : Option Addr} {d : Nat} {ms : List Mg} (hm : MsX w X D ms.length d ms) (hlen : way.length + ms.length ≤ 100000) :
    Calls Try.prog 20 #[.pointer (some ⟨gN, 0, none⟩), .slice D ms.length d] w fun e w' => e = .returned (.tuple #[]) ∧ PutPost w B gN X ps way Z ms w' := by
  obtain ⟨zs, hz1, hz2, ⟨hz3, _⟩, hz4⟩ := hm
  obtain ⟨q, hq⟩ : ∃ q, q = ms.length := ⟨_, rfl⟩
  obtain ⟨n, hn⟩ : ∃ n, n = way.length := ⟨_, rfl⟩
  have HN := Lib.hid (And.intro hq hn)
  have c1 := h.c1
  have f1 : w.frozen? ⟨gN, 1, none⟩ = false := h.top.frozen 1
  have HR : Hid (Reads w w.heap.size 9 D q (rowOf xcell zs)) := by rw [hq]; exact Lib.hid (Reads.of_own hz3)
  have HW : Hid (RowZ w X 34 9 (.slice v.Aw n v.cw) n (rowOf xcell way)) := by rw [hn]; exact Lib.hid h.wy
  have HH := Lib.hid h
  have HZ := Lib.hid (And.intro hz1 (And.intro hz2 hz4))
  rw [← hn] at c1 hlen
  rw [← hq] at hlen ⊢
  clear h hz1 hz2 hz3 hz4 hq hn
  obtain ⟨Al, cl, Aw, cw, As, cs, Ad, cd, Ah, ch⟩ := v
  dsimp only at c1 HW
  go_enter Try.func20, Try.ntmps20
  go_wp2_with (first | (at_builtin; refine wpList_append_way rfl (.tmp 8) (.tmp 9) rfl X Aw D n cw q d w.heap.size way zs rfl HW.out rfl HR.out (by omega) ?_; intro A' c' w1 hr1 hc1; have H1 := Lib.hid (And.intro hr1 hc1); clear hr1 hc1; have d1 : w1.cell? ⟨gN, 1, none⟩ = some (.slice Aw n cw) := by { have hb := HH.out.top.chg H1.out.2 (fun ⟨_, cur, hb⟩ => HH.out.top.ne_ hb (by decide) rfl); rw [hb.cell, HN.out.2]; rfl }; have g1 : w1.frozen? ⟨gN, 1, none⟩ = false := (HH.out.top.chg H1.out.2 (fun ⟨_, cur, hb⟩ => HH.out.top.ne_ hb (by decide) rfl)).frozen 1) | fail)
  go_end0
  have hl : (way ++ zs).length = n + q := by rw [List.length_append, ← HN.out.2, HN.out.1, HZ.out.2.1]
  have key := HH.out.newWay (w1 := w1) (X1 := fun b => X b ∨ (w.heap.size ≤ b ∧ b < w1.heap.size)) (A' := A') (c' := c') (way' := way ++ zs) H1.out.2 (fun b hb => .inl hb) (fun b hb => hb) (by rw [hl]; exact H1.out.1) (fun x hx => by
    have hp : ∀ {y : Mx}, (w.ownsRow 0 39 2 (.slice y.2.1 y.1.ents.length y.2.2) y.1.ents.length (rowOf ecell y.1.ents) ∧ ∀ g, (Value.slice y.2.1 y.1.ents.length y.2.2).ownBlock = some g → X g) → (w1.ownsRow 0 39 2 (.slice y.2.1 y.1.ents.length y.2.2) y.1.ents.length (rowOf ecell y.1.ents) ∧ ∀ g, (Value.slice y.2.1 y.1.ents.length y.2.2).ownBlock = some g → X g ∨ (w.heap.size ≤ g ∧ g < w1.heap.size)) := fun {y} hy =>
      ⟨own_chg hy.1 H1.out.2 (fun g hg ⟨_, cur, hb⟩ => own_blk_ne hy.1 hb (by decide) hg), fun g hg => .inl (hy.2 g hg)⟩
    rcases List.mem_append.1 hx with hx | hx
    · exact hp (HH.out.ent x hx)
    · exact hp (HZ.out.2.2 x hx))
  rw [hl] at key
  exact ⟨rfl, _, zs, _, key.1, HZ.out.1, key.2⟩
/-- What come leaves. -/
def ComePost (w : World) (B gN : Nat) (ps : List (Nat × Sv)) (way : List Mx) (Z : Seen) (ms : List Mg) (w' : World) : Prop :=
  ∃ X' zs v', NetM w' B gN X' ps (way ++ zs) Z v' ∧ zs.map (·.1) = ms ∧ Chg (fun b => B ≤ b) w w'
theorem NetM.did {w w' : World} {B gN : Nat} {X : Nat → Prop} {ps : List (Nat × Sv)} {way : List Mx} {Z : Seen} {v : Nv} (h : NetM w B gN X ps way Z v) {i g : Nat} {S S' : Sv} {ms : List Mg} {e : Ending} (hi : ps[i]? = some (g, S)) (hd : DidB w (fun b => X b ∨ b < B) ps i g S' ms e w') :
    ∃ D d X', e = .returned (.slice D ms.length d) ∧ NetM w' B gN X' (ps.set i (g, S')) way Z v ∧ MsX w' X' D ms.length d ms ∧ Chg (fun b => B ≤ b) w w' := by
  obtain ⟨D, d, B1, rfl, hB1, hs, hms, hc⟩ := hd
  exact ⟨D, d, _, rfl, h.srvs hc hB1 hs (set_fst hi), hms.mono (fun b hb => .inr hb), hc.mono (fun b hb => Nat.le_of_not_lt (fun h => hb (.inr h)))⟩
set_option maxRecDepth 100000 in
set_option maxHeartbeats 8000000 in
theorem come_any {w : World} {B gN : Nat} {X : Nat → Prop} {ps : List (Nat × Sv)} {way : List Mx} {Z : Seen} {v : Nv} (h : NetM w B gN X ps way Z v) {i g : Nat} {S : Sv} (hi : ps[i]? = some (g, S)) (hg : S.Good) {m : Mg} {E : Option Addr} {ec : Nat} (hm : MgOk m) (hto : m.to = (i : Nat))
    (ho : w.ownsRow 0 39 2 (.slice E m.ents.length ec) m.ents.length (rowOf ecell m.ents)) (hX : ∀ b, (Value.slice E m.ents.length ec).ownBlock = some b → X b) (hlen : way.length ≤ 90000) (hpl : ps.length ≤ 7) (hsm : (S.handle m).2.length ≤ 7) :
    Calls Try.prog 52 #[.pointer (some ⟨gN, 0, none⟩), .agg (mcell E ec m).toArray] w fun e w' => e = .returned (.tuple #[]) ∧ ComePost w B gN (ps.set i (g, (S.handle m).1)) way Z (S.handle m).2 w' := by
  have HA := Lib.hid (And.intro h (And.intro ho hX))
  have HDO : Hid (∀ W, Below w.heap.size w W → Calls Try.prog 10 #[.pointer (some ⟨g, 0, none⟩), .agg (mcell E ec m).toArray] W (DidB W (fun b => X b ∨ b < B) ps i g (S.handle m).1 (S.handle m).2)) := Lib.hid (fun W hW => by
    have hN := h.below hW
    obtain ⟨a1, a2, a3⟩ := own_arg (own_below ho hW) rfl
    exact hN.srv.outsB hN.Xw' hi 10 _ _ _ (fun A c hs => handle_any S m g A E c ec W ⟨hs, hg.toOk⟩ hm a1 (fun a ha _ he => hN.srv.notX hi (he ▸ .inl (hX _ (own_block ho a ha)))) a2 a3))
  obtain ⟨ms, hms⟩ : ∃ z, z = (S.handle m).2 := ⟨_, rfl⟩
  obtain ⟨S', hS'⟩ : ∃ z, z = (S.handle m).1 := ⟨_, rfl⟩
  rw [← hms] at HDO hsm ⊢
  rw [← hS'] at HDO ⊢
  clear hms hS'
  obtain ⟨n, hn⟩ : ∃ n, n = ps.length := ⟨_, rfl⟩
  have hin : i < n := by rw [hn]; exact (List.getElem?_eq_some_iff.1 hi).1
  obtain ⟨gl, hAl, hcl⟩ := h.srvAt hi
  have c0 := h.c0
  rw [← hn] at c0 hpl
  have HI := Lib.hid (And.intro hi hn)
  obtain ⟨Al, cl, Aw, cw, As, cs, Ad, cd, Ah, ch⟩ := v
  dsimp only at hAl c0 hcl
  subst hAl
  obtain ⟨mk, frm, dst, term, index, logTerm, ents, commit, mok⟩ := m
  dsimp only [mcell] at HDO hto ⊢
  subst hto
  obtain ⟨q, hq⟩ : ∃ q, q = ents.length := ⟨_, rfl⟩
  rw [← hq] at HDO ⊢
  have HC : Hid (∀ W, Below w.heap.size w W → W.cell? ⟨gN, 0, none⟩ = some (.slice (some ⟨gl, 0, none⟩) n cl) ∧ W.cell? ⟨gl, i, none⟩ = some (.pointer (some ⟨g, 0, none⟩))) := Lib.hid (fun W hW => by
    have hN := h.below hW
    obtain ⟨gl', e1, e2⟩ := hN.srvAt hi
    injection e1 with e1
    injection e1 with e1
    subst e1
    exact ⟨by rw [HI.out.2]; exact hN.c0, e2⟩)
  have HBX : Hid (Below w.heap.size w (w.alloc (.cells #[.int .u8 (mk : Nat), .int .i64 frm, .int .i64 (i : Nat), .int .i64 term, .int .i64 index, .int .i64 logTerm, .slice E q ec, .int .i64 commit, .bool mok] 34)) ∧ Blk (w.alloc (.cells #[.int .u8 (mk : Nat), .int .i64 frm, .int .i64 (i : Nat), .int .i64 term, .int .i64 index, .int .i64 logTerm, .slice E q ec, .int .i64 commit, .bool mok] 34)) w.heap.size 34 #[.int .u8 (mk : Nat), .int .i64 frm, .int .i64 (i : Nat), .int .i64 term, .int .i64 index, .int .i64 logTerm, .slice E q ec, .int .i64 commit, .bool mok]) := Lib.hid ⟨(Below.refl _ w).alloc (Nat.le_refl _) _, Blk.new _ _ _⟩
  clear h hi hn hq ho hX hm hg c0 hcl
  have i0 : (0 : Int) ≤ (i : Int) := by omega
  have i1 : (i : Int) < (n : Int) := by omega
  have d0 : decide ((i : Int) < 0) = false := decide_eq_false (by omega)
  have d1 : decide ((n : Int) ≤ (i : Int)) = false := decide_eq_false (by omega)
  go_enter Try.func52, Try.ntmps52
  go_upto_region 1 with fail
  generalize w.alloc (.cells #[.int .u8 (mk : Nat), .int .i64 frm, .int .i64 (i : Nat), .int .i64 term, .int .i64 index, .int .i64 logTerm, .slice E q ec, .int .i64 commit, .bool mok] 34) = w0 at *
  have x2 : w0.cell? ⟨w.heap.size, 2, none⟩ = some (.int .i64 (i : Nat)) := HBX.out.2.cell 2
  have c0 := (HC.out w0 HBX.out.1).1
  go_quiet (fail)
  have HB1 : Hid (Below w.heap.size w (w0.drewN nq) ∧ Blk (w0.drewN nq) w.heap.size 34 #[.int .u8 (mk : Nat), .int .i64 frm, .int .i64 (i : Nat), .int .i64 term, .int .i64 index, .int .i64 logTerm, .slice E q ec, .int .i64 commit, .bool mok]) := Lib.hid ⟨below_drewN HBX.out.1 _, HBX.out.2.drewN _⟩
  generalize w0.drewN nq = w1 at *
  clear x2 c0
  go_wp2_with fail
  have HF : Hid (∀ W, Below w1.heap.size w1 W → W.cell? ⟨w.heap.size, 2, none⟩ = some (.int .i64 (i : Nat)) ∧ W.heap[w.heap.size]? = some (.cells #[.int .u8 (mk : Nat), .int .i64 frm, .int .i64 (i : Nat), .int .i64 term, .int .i64 index, .int .i64 logTerm, .slice E q ec, .int .i64 commit, .bool mok] 34 (0, 0)) ∧ W.cell? ⟨gN, 0, none⟩ = some (.slice (some ⟨gl, 0, none⟩) n cl) ∧ W.cell? ⟨gl, i, none⟩ = some (.pointer (some ⟨g, 0, none⟩))) := Lib.hid (fun W hW => by
    have hb := HB1.out.2.below hW HB1.out.2.lt
    have hc := HC.out W (HB1.out.1.trans (hW.mono HB1.out.1.size))
    exact ⟨hb.cell 2, hb, hc.1, hc.2⟩)
  refine wp_region_plan (.q 0 (.q 1 (.q 2 (.q 3 (.q 4 (.q 5 (.q 6 (.q 7 (.q 8 (.a1 9 (.q 10 .fin))))))))))) 9 (fun W => Below w1.heap.size w1 W) (by kernel_rfl) rfl (by kernel_rfl) (Below.refl _ _).drew ?_
  refine wpPlan_q rfl rfl rfl ?_; intro K hK
  go_big_quiet_op
  first | go_big_quiet_on | (refine ⟨_, fun _ _ => rfl, ?_⟩; go_big_quiet_on)
  refine wpPlan_q rfl rfl rfl ?_; intro K hK
  go_big_quiet_op
  first | go_big_quiet_on | (refine ⟨_, fun _ _ => rfl, ?_⟩; go_big_quiet_on)
  refine wpPlan_q rfl rfl rfl ?_; intro K hK
  go_big_quiet_op
  first | go_big_quiet_on | (refine ⟨_, fun _ _ => rfl, ?_⟩; go_big_quiet_on)
  refine wpPlan_q rfl rfl rfl ?_; intro K hK
  refine ⟨(.slice (some ⟨gl, 0, none⟩) n cl), fun W hW => ?_, ?_⟩
  · have q0 := (HF.out W hW).2.2.1
    unfold Oper.quietAt Oper.quietUpon
    simp [go_sem, q0]
  refine hK _ ?_
  clear hK K
  try simp only [Act.put, List.setIfInBounds_toArray, List.set_cons_succ, List.set_cons_zero]
  refine wpPlan_q rfl rfl rfl ?_; intro K hK
  go_big_quiet_op
  first | go_big_quiet_on | (refine ⟨_, fun _ _ => rfl, ?_⟩; go_big_quiet_on)
  refine wpPlan_q rfl rfl rfl ?_; intro K hK
  refine ⟨(.int .i64 (i : Nat)), fun W hW => ?_, ?_⟩
  · have q0 := (HF.out W hW).1
    unfold Oper.quietAt Oper.quietUpon
    simp [go_sem, q0]
  refine hK _ ?_
  clear hK K
  try simp only [Act.put, List.setIfInBounds_toArray, List.set_cons_succ, List.set_cons_zero]
  refine wpPlan_q rfl rfl rfl ?_; intro K hK
  go_big_quiet_op
  first | go_big_quiet_on | (refine ⟨_, fun _ _ => rfl, ?_⟩; go_big_quiet_on)
  refine wpPlan_q rfl rfl rfl ?_; intro K hK
  refine ⟨(.pointer (some ⟨g, 0, none⟩)), fun W hW => ?_, ?_⟩
  · have q0 := (HF.out W hW).2.2.2
    unfold Oper.quietAt Oper.quietUpon
    simp [go_sem, q0]
  refine hK _ ?_
  clear hK K
  try simp only [Act.put, List.setIfInBounds_toArray, List.set_cons_succ, List.set_cons_zero]
  refine wpPlan_q rfl rfl rfl ?_; intro K hK
  refine quiet_load_row 34 (.tmp 3) rfl w.heap.size rfl 34 #[.int .u8 (mk : Nat), .int .i64 frm, .int .i64 (i : Nat), .int .i64 term, .int .i64 index, .int .i64 logTerm, .slice E q ec, .int .i64 commit, .bool mok] (0, 0) _ (fun W hW => (HF.out W hW).2.1) Try.underlying34 rfl (by kernel_rfl) ?_
  refine hK _ ?_
  clear hK K
  try simp only [Act.put, List.setIfInBounds_toArray, List.set_cons_succ, List.set_cons_zero]
  refine wpPlan_act false rfl rfl rfl ?_; intro K hK
  go_simp
  refine ((HDO.out w1.drew (HB1.out.1.trans ((Below.refl w1.heap.size w1).drew.mono HB1.out.1.size)))).mono ?_
  intro e w4 hd4
  obtain ⟨D, d, X4, rfl, hN4, hm4, hc4⟩ := (HA.out.1.below (HB1.out.1.trans ((Below.refl w1.heap.size w1).drew.mono HB1.out.1.size))).did HI.out.1 hd4
  have HW4 : Hid (∃ X', NetM w4 B gN X' (ps.set i (g, S')) way Z ⟨some ⟨gl, 0, none⟩, cl, Aw, cw, As, cs, Ad, cd, Ah, ch⟩ ∧ MsX w4 X' D ms.length d ms ∧ Chg (fun b => B ≤ b) w w4) := Lib.hid ⟨X4, hN4, hm4, (Chg.of_below (HB1.out.1.trans ((Below.refl w1.heap.size w1).drew.mono HB1.out.1.size))).trans hc4⟩
  clear hd4 hN4 hm4 hc4
  refine hK _ _ (fun h => by cases h) ?_
  clear hK K
  try simp only [Act.put, List.setIfInBounds_toArray, List.set_cons_succ, List.set_cons_zero]
  refine wpPlan_p rfl rfl rfl ?_; intro K hK
  go_big_quiet_op
  first | go_big_quiet_on | (refine ⟨_, fun _ _ => rfl, ?_⟩; go_big_quiet_on)
  refine wpPlan_fin ?_
  have H4 : Hid (∃ X', NetM w4 B gN X' (ps.set i (g, S')) way Z ⟨some ⟨gl, 0, none⟩, cl, Aw, cw, As, cs, Ad, cd, Ah, ch⟩ ∧ MsX w4 X' D ms.length d ms ∧ Chg (fun b => B ≤ b) w w4) := HW4
  obtain ⟨X4, hN4, hm4, hc4⟩ := H4.out
  have HPT := Lib.hid (nput_any hN4 hm4 (by omega))
  have HN4 := Lib.hid (And.intro hN4 hc4)
  clear hN4 hm4 hc4
  obtain ⟨k, hk⟩ : ∃ k, k = ms.length := ⟨_, rfl⟩
  rw [← hk] at HPT ⊢
  clear hk
  go_wp2_with fail
  refine HPT.out.mono ?_
  rintro e w5 ⟨rfl, X5, zs, v5, hN5, hz5, hc5⟩
  have H5 := Lib.hid (And.intro hN5 (And.intro hz5 hc5))
  clear hN5 hz5 hc5
  go_wp2_with fail
  go_end0
  exact ⟨rfl, X5, zs, v5, H5.out.1, H5.out.2.1, HN4.out.2.trans (H5.out.2.2.mono (fun b hb => (HN4.out.1.Xw b hb).1))⟩
end Go.Proofs.Ytjodglepaeomiaa
