/- Appends to rows of entries and of messages; Clone and Clip. -/
import Derived.WalkSpells
import Derived.Test.YtjodglepaeomiaaGts
namespace Go.Proofs.Ytjodglepaeomiaa
open Go.RowKit

theorem Try.info39 : (Try.prog.info? 39).map (fun i => (i.zero, i.size, i.bytes)) = some (some (.agg #[.int .i64 0, .string ⟨#[]⟩]), 2, 24) := by kernel_rfl
theorem Try.info34 : (Try.prog.info? 34).map (fun i => (i.zero, i.size, i.bytes)) = some (some (.agg #[.int .u8 0, .int .i64 0, .int .i64 0, .int .i64 0, .int .i64 0, .int .i64 0, .slice none 0 0, .int .i64 0, .bool false]), 9, 88) := by kernel_rfl
theorem own_form2 {w : World} {base : Nat} {e : TypeId} {size n : Nat} {v : Value} {xs : List Value} (h : w.ownsRow base e size v n xs) : ∃ A c, v = .slice A n c ∧ n ≤ c ∧ (A = none → c = 0) := by
  rcases h.2 with ⟨rfl, h0⟩ | ⟨g, cap, cur, rfl, _, _, hc, _⟩
  · exact ⟨none, 0, by rw [h0], by omega, fun _ => rfl⟩
  · exact ⟨_, cap, rfl, hc, fun h => by cases h⟩
/-- 'append(l, m...)' of entries. -/
theorem wpList_app_ents {ops : Array Oper} {rest : List Oper} {o : Oper} {a : Act} {W : World} {Q : Exit → Act → World → Prop} (hgd : o.guard = none) (sl x : Operand)
    (ho : o.op = .call { callee := .builtin .append, args := #[sl, x], argTypes := #[27, 27] }) (base n m cap c B : Nat) (A X : Option Addr) (l L : List Ent)
    (hs : a.eval sl = .slice A n cap) (hown : W.ownsRow base 39 2 (.slice A n cap) n (rowOf ecell l)) (hx : a.eval x = .slice X m c) (hr : Reads W B 2 X m (rowOf ecell L)) (hb : n + m ≤ 100000) (hbase : base ≤ W.heap.size)
    (h : ∀ A' c' W', W'.ownsRow base 39 2 (.slice A' (n + m) c') (n + m) (rowOf ecell (l ++ L)) → W.grownBy W' (Value.slice A n cap).ownBlock → ((Value.slice A' (n + m) c').ownBlock = (Value.slice A n cap).ownBlock ∨ (Value.slice A' (n + m) c').ownBlock = some W.heap.size) → wpList Try.prog ops Q rest (a.put o.dst (.slice A' (n + m) c')) W') :
    wpList Try.prog ops Q (o :: rest) a W := by
  obtain ⟨i0, hi0, hz0, hz1, hz2⟩ := info_parts Try.info39
  refine wpList_append_any W hgd sl x 27 ho base 39 i0 (.agg #[.int .i64 0, .string ⟨#[]⟩]) 2 24 Try.underlying27 hi0 hz0 hz1 hz2 rfl (by decide) (.slice A n cap) n (rowOf ecell l) hs hown B X m c (rowOf ecell L) hx hr (rowOf_one ecell_one L) (by unfold maxLen; omega) (by omega) hbase ?_
  intro v3 w3 ho3 hg3 hv3
  obtain ⟨A3, c3, rfl, _⟩ := own_form ho3
  refine h A3 c3 w3 ?_ hg3 hv3
  rw [rowOf_append]
  exact ho3
/-- The same as one operation. -/
theorem wp_app_ents {o : Oper} {a : Act} {W : World} {K : Act → World → Prop} {Q : Exit → Act → World → Prop} (sl x : Operand)
    (ho : o.op = .call { callee := .builtin .append, args := #[sl, x], argTypes := #[27, 27] }) (base n m cap c B : Nat) (A X : Option Addr) (l L : List Ent)
    (hs : a.eval sl = .slice A n cap) (hown : W.ownsRow base 39 2 (.slice A n cap) n (rowOf ecell l)) (hx : a.eval x = .slice X m c) (hr : Reads W B 2 X m (rowOf ecell L)) (hb : n + m ≤ 100000) (hbase : base ≤ W.heap.size)
    (h : ∀ A' c' W', W'.ownsRow base 39 2 (.slice A' (n + m) c') (n + m) (rowOf ecell (l ++ L)) → W.grownBy W' (Value.slice A n cap).ownBlock → ((Value.slice A' (n + m) c').ownBlock = (Value.slice A n cap).ownBlock ∨ (Value.slice A' (n + m) c').ownBlock = some W.heap.size) → K (a.put o.dst (.slice A' (n + m) c')) W') :
    o.wp Try.prog a W K Q := by
  obtain ⟨i0, hi0, hz0, hz1, hz2⟩ := info_parts Try.info39
  refine wp_append_any W sl x 27 ho base 39 i0 (.agg #[.int .i64 0, .string ⟨#[]⟩]) 2 24 Try.underlying27 hi0 hz0 hz1 hz2 rfl (by decide) (.slice A n cap) n (rowOf ecell l) hs hown B X m c (rowOf ecell L) hx hr (rowOf_one ecell_one L) (by unfold maxLen; omega) (by omega) hbase ?_
  intro v3 w3 ho3 hg3 hv3
  obtain ⟨A3, c3, rfl, _⟩ := own_form ho3
  refine h A3 c3 w3 ?_ hg3 hv3
  rw [rowOf_append]
  exact ho3
/-- What Clone leaves. -/
def ClonePost (w : World) (l : List Ent) (e : Ending) (w' : World) : Prop :=
  (∃ A' c', e = .returned (.slice A' l.length c') ∧ w'.ownsRow w.heap.size 39 2 (.slice A' l.length c') l.length (rowOf ecell l)) ∧ Below w.heap.size w w'
set_option maxRecDepth 100000 in
set_option maxHeartbeats 1000000 in
theorem clone_any (A : Option Addr) (c : Nat) (l : List Ent) (w : World) (hrd : RdE w A l) (hlen : l.length ≤ 90000) (hnil : A = none → c = 0) :
    Calls Try.prog 34 #[.slice A l.length c] w (ClonePost w l) := by
  obtain ⟨n, hn⟩ : ∃ n, n = l.length := ⟨_, rfl⟩
  have HB0 := Lib.hid ((Below.refl w.heap.size w).alloc (Nat.le_refl _) (.cells #[] 39))
  have HRD := Lib.hid ((hrd.below HB0.out).reads ecell_len)
  have HO0 : Hid ((w.alloc (.cells #[] 39)).ownsRow w.heap.size 39 2 (.slice (some ⟨w.heap.size, 0, none⟩) 0 0) 0 (rowOf ecell [])) := ⟨rfl, .inr ⟨w.heap.size, 0, _, rfl, Nat.le_refl _, heap_alloc_new w _, Nat.le_refl _, by decide, rfl, rfl⟩⟩
  unfold ClonePost
  rw [← hn] at HRD hlen ⊢
  cases A with
  | none =>
    have h1 : l = [] := hrd.resolve_right (fun ⟨b, off, h, _⟩ => by cases h)
    subst h1
    have h2 : c = 0 := hnil rfl
    subst h2
    have h3 : n = 0 := hn
    subst h3
    clear hrd hlen hnil HRD HO0 HB0 hn
    have kn : ∀ (w : World) (a : Option Addr) (n c n' c' : Nat), (binOp .eql 27 (.slice a n c) (.slice none n' c')).run Try.prog w = .ok (.bool a.isNone) w := fun w a n c n' c' => Lib.run_eql_slice_nil w _ _ a n c n' c' Try.underlying27
    go_enter Try.func34, Try.ntmps34
    go_wp2
    go_ret
    exact ⟨⟨none, 0, rfl, World.ownsRow_nil _ _ _ _⟩, Below.refl _ _⟩
  | some a =>
    clear hrd hnil hn
    have kn : ∀ (w : World) (a : Option Addr) (n c n' c' : Nat), (binOp .eql 27 (.slice a n c) (.slice none n' c')).run Try.prog w = .ok (.bool a.isNone) w := fun w a n c n' c' => Lib.run_eql_slice_nil w _ _ a n c n' c' Try.underlying27
    go_enter Try.func34, Try.ntmps34
    go_wp2_with (at_builtin; refine wpList_app_ents rfl (.tmp 5) (.tmp 6) rfl w.heap.size 0 n 0 c _ (some ⟨w.heap.size, 0, none⟩) (some a) [] l rfl HO0.out rfl HRD.out (by omega) HB0.out.size ?_; intro A4 c4 w6 ho6 hg6 _; have H6 := Lib.hid (And.intro ho6 (HB0.out.grown hg6 HB0.out.size (fun r hr => (World.ownsRow.lt HO0.out r hr).1))); clear ho6 hg6)
    go_ret
    exact ⟨⟨A4, c4, rfl, by have h := H6.out.1; rw [Nat.zero_add] at h; exact h⟩, H6.out.2⟩
theorem clip_any (A : Option Addr) (n c : Nat) (w : World) (hn : n ≤ c) (hc : n ≤ 100000) :
    Calls Try.prog 68 #[.slice A n c] w fun e w' => e = .returned (.slice A n n) ∧ w' = w := by
  have h1 : ¬ c < n := by omega
  go_enter Try.func68, Try.ntmps68
  go_wp2_with fail
  go_ret
  exact ⟨rfl, rfl⟩
end Go.Proofs.Ytjodglepaeomiaa
