/- The document's cache: contracts of ahead and without. -/
import Derived.Test.YtnipmhidiiondaaRef
import Derived.OwnWalk
import Derived.Deep.Cut
namespace Go.Proofs.Ytnipmhidiiondaa
open Go.RowKit Go.Maps

theorem Try.info72 : (Try.prog.info? 72).map (fun i => (i.zero, i.size, i.bytes)) = some (some (.agg #[.string ⟨#[]⟩, .int .i64 0]), 2, 24) := by kernel_rfl
theorem tcells_one {L : List Ent} : ∀ u ∈ tcells L, u.oneCell' = true := by
  intro u hu
  unfold tcells at hu
  rw [List.mem_flatMap] at hu
  obtain ⟨x, _, hx⟩ := hu
  simp only [List.mem_cons, List.not_mem_nil, or_false] at hx
  rcases hx with rfl | rfl <;> rfl
/-- 'append(l, m...)' of things. -/
theorem wpList_app_things {ops : Array Oper} {rest : List Oper} {o : Oper} {a : Act} {W : World} {Q : Exit → Act → World → Prop} (hgd : o.guard = none) (sl x : Operand)
    (ho : o.op = .call { callee := .builtin .append, args := #[sl, x], argTypes := #[43, 43] }) (base n m cap c B : Nat) (A X : Option Addr) (l L : List Ent) (hn : n = l.length) (hm : m = L.length)
    (hs : a.eval sl = .slice A n cap) (hown : W.ownsRow base 72 2 (.slice A n cap) n (tcells l)) (hx : a.eval x = .slice X m c) (hr : Reads W B 2 X m (tcells L)) (hb : n + m ≤ 100000) (hbase : base ≤ W.heap.size)
    (h : ∀ A' c' W', W'.ownsRow base 72 2 (.slice A' (n + m) c') (n + m) (tcells (l ++ L)) → W.grownBy W' (Value.slice A n cap).ownBlock → wpList Try.prog ops Q rest (a.put o.dst (.slice A' (n + m) c')) W') :
    wpList Try.prog ops Q (o :: rest) a W := by
  obtain ⟨i0, hi0, hz0, hz1, hz2⟩ := info_parts Try.info72
  refine wpList_append_any W hgd sl x 43 ho base 72 i0 (.agg #[.string ⟨#[]⟩, .int .i64 0]) 2 24 Try.underlying43 hi0 hz0 hz1 hz2 rfl (by decide) (.slice A n cap) n (tcells l) hs hown B X m c (tcells L) hx hr tcells_one (by unfold maxLen; omega) (by omega) hbase ?_
  intro v3 w3 ho3 hg3 _
  obtain ⟨A3, c3, rfl, _⟩ := own_form ho3
  refine h A3 c3 w3 ?_ hg3
  rw [tcells_append]
  exact ho3
/-- A list of things in new memory. -/
def NewL (w : World) (L : List Ent) (e : Ending) (w' : World) : Prop := ∃ A c, e = .returned (.slice A L.length c) ∧ RdE w' A L ∧ (L.length ≤ c ∧ c ≤ 9223372036854775807) ∧ (∀ a, A = some a → w.heap.size ≤ a.block ∧ a.block < w'.heap.size) ∧ Below w.heap.size w w'
theorem own_new {w' : World} {base n c : Nat} {A : Option Addr} {L : List Ent} (h : w'.ownsRow base 72 2 (.slice A n c) n (tcells L)) (hn : n = L.length) : RdE w' A L ∧ (L.length ≤ c ∧ c ≤ 9223372036854775807) ∧ ∀ a, A = some a → base ≤ a.block ∧ a.block < w'.heap.size := by
  refine ⟨(RdE.of_own h hn).1, ?_⟩
  rcases h.2 with ⟨h1, h0⟩ | ⟨g, cap, cur, h1, hb, hh, hc, hm, _⟩
  · injection h1 with h1 h2 h3
    subst h1; subst h3
    exact ⟨⟨by omega, by omega⟩, fun a ha => by cases ha⟩
  · injection h1 with h1 h2 h3
    subst h1; subst h3
    exact ⟨⟨by omega, hm⟩, fun a ha => by injection ha with ha; subst ha; exact ⟨hb, (Array.getElem?_eq_some_iff.1 hh).1⟩⟩
theorem own_fresh {w : World} {g base : Nat} {x : Ent} (hb : base ≤ g) (h : w.heap[g]? = some (.cells #[.string x.1, .int .i64 x.2] 72 (0, 0))) : w.ownsRow base 72 2 (.slice (some ⟨g, 0, none⟩) 1 1) 1 (tcells [x]) :=
  ⟨rfl, .inr ⟨g, 1, _, rfl, hb, h, Nat.le_refl _, by decide, rfl, rfl⟩⟩
set_option maxHeartbeats 1000000 in
theorem ahead_ref (s : ByteArray) (v : Int) (AL : Option Addr) (n cap : Nat) (L : List Ent) (w : World) (hn : n = L.length) (h : RdE w AL L) (hl : L.length ≤ 5000) :
    Calls Try.prog 43 #[.agg #[.string s, .int .i64 v], .slice AL n cap] w (NewL w ((s, v) :: L)) := by
  have HR := Lib.hid (And.intro hn (And.intro h hl))
  clear hn h hl
  go_enter Try.func43, Try.ntmps43
  go_wp2_with (at_builtin; refine wpList_app_things rfl (.tmp 8) (.tmp 9) rfl w.heap.size 1 n 1 cap w.heap.size (some ⟨w.heap.size + 1, 0, none⟩) AL [(s, v)] L rfl HR.out.1 rfl (own_fresh (x := (s, v)) (by omega) (by have h := heap_alloc_new (w.alloc (.cells #[.string s, .int .i64 v] 72)) (.cells #[.string s, .int .i64 v] 72); rw [show (w.alloc (.cells #[.string s, .int .i64 v] 72)).heap.size = w.heap.size + 1 by simp] at h; exact h)) rfl (by rw [HR.out.1]; exact (HR.out.2.1.reads.alloc (Nat.le_refl _) _).alloc (by simp) _) (by have := HR.out; omega) (by simp; omega) ?_; intro A' c' W' ho' hg'; have HO := Lib.hid (And.intro ho' hg'); clear ho' hg')
  go_ret
  obtain ⟨h1, h2, h3⟩ := own_new HO.out.1 (L := (s, v) :: L) (by rw [HR.out.1]; simp; omega)
  exact ⟨A', c', by rw [HR.out.1, List.length_cons, Nat.add_comm]; rfl, h1, h2, h3, (((Below.refl w.heap.size w).alloc (Nat.le_refl _) (.cells #[.string s, .int .i64 v] 72)).alloc (by simp) (.cells #[.string s, .int .i64 v] 72)).grown HO.out.2 (by simp; omega) (fun r hr => by have hr : w.heap.size + 1 = r := Option.some.inj hr; omega)⟩
set_option maxHeartbeats 2000000 in
theorem without_ref (g : Nat) (A : Abs) (AL : Option Addr) (cap : Nat) (l r : List Ent) (x : Ent) (w : World) (h : RR w g A AL cap) (hL : A.L = l ++ x :: r) (hl : A.L.length ≤ 4096) :
    Calls Try.prog 44 #[.pointer (some ⟨g, 0, none⟩), .int .i64 (l.length : Nat)] w (NewL w (l ++ r)) := by
  obtain ⟨n, hn⟩ : ∃ n, n = A.L.length := ⟨_, rfl⟩
  obtain ⟨i, hi⟩ : ∃ i, i = l.length := ⟨_, rfl⟩
  have k1 : w.cell? ⟨g, 1, none⟩ = some (.slice AL n cap) := by rw [hn]; exact h.top.cell 1
  have hin : i < n := by rw [hn, hi, hL]; simp
  have hncap : n ≤ cap := by rw [hn]; exact h.cp.1
  have hcap := h.cp.2
  obtain ⟨b, o, rfl, hb, hat⟩ : ∃ b off, AL = some ⟨b, off, none⟩ ∧ b < w.heap.size ∧ ∀ k x, A.L[k]? = some x → w.cell? ⟨b, off + k * 2, none⟩ = some (.string x.1) ∧ w.cell? ⟨b, off + k * 2 + 1, none⟩ = some (.int .i64 x.2) := h.rd.resolve_left (fun h => by rw [h] at hL; simp at hL)
  have HT : Hid (A.L.take i = l ∧ A.L.drop (i + 1) = r) := ⟨by rw [hi, hL]; simp, by rw [hi, hL]; simp⟩
  have hr1 := (h.rd.take i).reads
  rw [HT.out.1] at hr1
  have HR1 := Lib.hid hr1
  have hr2 := h.rd.reads.cut (k := i + 1) (cap := cap) (by omega) (by omega)
  have e2 : (tcells A.L).drop ((i + 1) * 2) = tcells r := by
    rw [hL, show l ++ x :: r = (l ++ [x]) ++ r by simp, tcells_append, List.drop_left' (by rw [tcells_length, hi]; simp)]
  rw [e2, ← hn] at hr2
  have HR2 := Lib.hid hr2
  have hlr : (l ++ r).length + 1 = n := by rw [hn, hL]; simp; omega
  have HLR := Lib.hid (And.intro hlr (And.intro hi hl))
  rw [← hn] at hl
  have hi0 : (0 : Int) ≤ (i : Int) := by omega
  have hic : (i : Int) ≤ (cap : Int) := by omega
  have hin2 : (i : Int) + 1 ≤ (n : Int) := by omega
  rw [← hi]
  have HG : Hid (g < w.heap.size) := h.top.lt
  clear h hL hn hi hr1 hr2 e2 hlr hat hb
  go_enter Try.func44, Try.ntmps44
  go_upto_region 3 with (at_builtin; refine wpList_app_things rfl (.tmp 6) (.tmp 12) rfl w.heap.size 0 i 0 cap w.heap.size none (some ⟨b, o, none⟩) [] l rfl HLR.out.2.1 rfl (World.ownsRow_nil _ _ _ _) rfl (by rw [HLR.out.2.1]; exact HR1.out) (by omega) (Nat.le_refl _) ?_; intro A1 c1 W1 ho1 hg1; rw [Nat.zero_add] at ho1 ⊢; have HO1 := Lib.hid (And.intro ho1 hg1); clear ho1 hg1)
  have HB1 : Hid (Below w.heap.size w W1) := (Below.refl w.heap.size w).grown HO1.out.2 (Nat.le_refl _) (fun r hr => by cases hr)
  have k2 : W1.cell? ⟨g, 1, none⟩ = some (.slice (some ⟨b, o, none⟩) n cap) := (HB1.out.cell (p := ⟨g, 1, none⟩) HG.out).trans k1
  clear k1
  have HR4 : Hid (n - (i + 1) = r.length) := by have h := HLR.out.1; rw [List.length_append, ← HLR.out.2.1] at h; exact (show n - (i + 1) = r.length by omega)
  by_cases hce : cap = i + 1
  · have HR3 := Lib.hid (show Reads w w.heap.size 2 (some ⟨b, o, none⟩) (n - (i + 1)) (tcells r) by have := HR2.out; rwa [if_pos hce] at this)
    go_wp2_with (at_builtin; refine wpList_app_things rfl (.tmp 14) (.tmp 21) rfl w.heap.size i (n - (i + 1)) c1 (0) w.heap.size A1 (some ⟨b, o, none⟩) l r HLR.out.2.1 HR4.out rfl HO1.out.1 rfl (HR3.out.below HB1.out) (by omega) HB1.out.size ?_; intro A2 c2 W2 ho2 hg2; have HO2 := Lib.hid (And.intro ho2 hg2); clear ho2 hg2)
    go_ret
    obtain ⟨h1, h2, h3⟩ := own_new HO2.out.1 (L := l ++ r) (by rw [List.length_append, ← HLR.out.2.1, ← HR4.out])
    exact ⟨A2, c2, by rw [List.length_append, ← HLR.out.2.1, ← HR4.out]; rfl, h1, h2, h3, HB1.out.grown HO2.out.2 HB1.out.size (fun q hq => (World.ownsRow.lt HO1.out.1 q hq).1)⟩
  · have HR3 := Lib.hid (show Reads w w.heap.size 2 (some ⟨b, o + (i + 1) * 2, none⟩) (n - (i + 1)) (tcells r) by have := HR2.out; rw [if_neg hce] at this; rw [← addr_add]; exact this)
    go_wp2_with (at_builtin; refine wpList_app_things rfl (.tmp 14) (.tmp 21) rfl w.heap.size i (n - (i + 1)) c1 (cap - (i + 1)) w.heap.size A1 (some ⟨b, o + (i + 1) * 2, none⟩) l r HLR.out.2.1 HR4.out rfl HO1.out.1 rfl (HR3.out.below HB1.out) (by omega) HB1.out.size ?_; intro A2 c2 W2 ho2 hg2; have HO2 := Lib.hid (And.intro ho2 hg2); clear ho2 hg2)
    go_ret
    obtain ⟨h1, h2, h3⟩ := own_new HO2.out.1 (L := l ++ r) (by rw [List.length_append, ← HLR.out.2.1, ← HR4.out])
    exact ⟨A2, c2, by rw [List.length_append, ← HLR.out.2.1, ← HR4.out]; rfl, h1, h2, h3, HB1.out.grown HO2.out.2 HB1.out.size (fun q hq => (World.ownsRow.lt HO1.out.1 q hq).1)⟩
end Go.Proofs.Ytnipmhidiiondaa
