/- What the walk of token.All leans on: cells of tokens, the post, small laws. No walk but the two of IndexByte. -/
import Derived.WalkMore
import Derived.ScopeJumps
import Derived.Test.YtlfkiaphmifelaaDoorTxt
import Derived.Test.YtlfkiaphmifelaaDoorAls
namespace Go
section
variable {P : Program} {a : Act} {w : World} {Q : Exit → Act → World → Prop}
/-- A scope in which the run jumps forward to one label: what is left behind the label is walked where the jump stands. -/
theorem wp_scope_forward {c rest : Code} (l : Nat) (hf : findLabel c l = some rest)
    (first : c.wp P (Exit.jump l (fun a w => rest.wp P (Exit.jump l (fun _ _ => False) Q) a w) Q) a w) : (Code.scope c).wp P Q a w :=
  wp_scope_jumps l (fun a w => rest.wp P (Exit.jump l (fun _ _ => False) Q) a w) (fun _ _ => 0) hf first
    (fun _ _ h => wp_mono h (fun e a w h => by cases e <;> first | exact h | exact h.2.elim))
end
end Go
namespace Go.Proofs.YtlfkiaphmifelaaDoor
open Go.RowKit

theorem Tryd.info32 : (Tryd.prog.info? 33).map (fun i => (i.zero, i.size, i.bytes)) = some (some (.agg #[.int .u8 0, .string ⟨#[]⟩, .int .i64 0, .int .i64 0]), 4, 40) := by kernel_rfl
def tokCells (t : Tok) : List Value := [.int .u8 (t.kind : Nat), .string ⟨t.text.toArray⟩, .int .i64 (t.int : Nat), .int .i64 (t.place : Nat)]
def tcells (l : List Tok) : List Value := l.flatMap tokCells
theorem tcells_append (l m : List Tok) : tcells (l ++ m) = tcells l ++ tcells m := by unfold tcells; rw [List.flatMap_append]
theorem tcells_one (t : Tok) : tcells [t] = tokCells t := by unfold tcells; simp
theorem tcells_length (l : List Tok) : (tcells l).length = l.length * 4 := by
  unfold tcells
  induction l with
  | nil => rfl
  | cons t l ih => rw [List.flatMap_cons, List.length_append, ih, List.length_cons]; simp [tokCells]; omega
def AllPost (w : World) (R : List Tok × Nat × Nat) (e : Ending) (w' : World) : Prop :=
  ∃ A c, e = .returned (.tuple #[.slice A R.1.length c, .int .i64 (R.2.1 : Nat), .int .i64 (R.2.2 : Nat)]) ∧ w'.ownsRow w.heap.size 33 4 (.slice A R.1.length c) R.1.length (tcells R.1) ∧ Below w.heap.size w w'

abbrev sg2 : List UInt8 := [61, 60, 33]
theorem sg1_any (c : UInt8) (w : World) : Calls Tryd.prog 26 #[.string ⟨#[40, 41, 123, 125, 91, 93, 44, 61, 60, 43, 45, 42, 47, 37, 33]⟩, .int .u8 (c.toNat : Nat)] w fun e w' => e = .returned (.int .i64 (Lib.indexByte signs c)) ∧ w' = w := by
  have h := idx19 ⟨signs.toArray⟩ (c.toNat : Nat) w
  have e : ((c.toNat : Nat) : Int).toNat.toUInt8 = c := by rw [Int.toNat_natCast]; exact UInt8.ofNat_toNat
  have e2 : (⟨signs.toArray⟩ : ByteArray).data.toList = signs := rfl
  rw [e, e2] at h
  exact h
theorem sg2_any (c : UInt8) (w : World) : Calls Tryd.prog 26 #[.string ⟨#[61, 60, 33]⟩, .int .u8 (c.toNat : Nat)] w fun e w' => e = .returned (.int .i64 (Lib.indexByte sg2 c)) ∧ w' = w := by
  have h := idx19 ⟨sg2.toArray⟩ (c.toNat : Nat) w
  have e : ((c.toNat : Nat) : Int).toNat.toUInt8 = c := by rw [Int.toNat_natCast]; exact UInt8.ofNat_toNat
  have e2 : (⟨sg2.toArray⟩ : ByteArray).data.toList = sg2 := rfl
  rw [e, e2] at h
  exact h
theorem sg1_idx0 : ∀ n : Fin 256, (Lib.indexByte signs (UInt8.ofNat n.1) < 0) ↔ UInt8.ofNat n.1 ∉ signs := by decide +kernel
theorem sg2_idx0 : ∀ n : Fin 256, (0 ≤ Lib.indexByte sg2 (UInt8.ofNat n.1)) ↔ (UInt8.ofNat n.1 = 61 ∨ UInt8.ofNat n.1 = 60 ∨ UInt8.ofNat n.1 = 33) := by decide +kernel
theorem sg1_idx (c : UInt8) : (Lib.indexByte signs c < 0) ↔ c ∉ signs := by
  have h := sg1_idx0 ⟨c.toNat, UInt8.toNat_lt c⟩
  have e : UInt8.ofNat c.toNat = c := UInt8.ofNat_toNat
  rw [e] at h
  exact h
theorem sg2_idx (c : UInt8) : (0 ≤ Lib.indexByte sg2 c) ↔ (c = 61 ∨ c = 60 ∨ c = 33) := by
  have h := sg2_idx0 ⟨c.toNat, UInt8.toNat_lt c⟩
  have e : UInt8.ofNat c.toNat = c := UInt8.ofNat_toNat
  rw [e] at h
  exact h

theorem new2 (w : World) (o p : Obj) : ((w.alloc o).alloc p).heap[w.heap.size + 1]? = some p := by
  have h := heap_alloc_new (w.alloc o) p
  simpa using h
theorem news_of_blk {w : World} {g : Nat} {t : TypeId} {xs : List Value} (h : w.heap[g]? = some (.cells xs.toArray t (0, 0))) : ∀ j u, xs[j]? = some u → w.cell? ((⟨g, 0, none⟩ : Addr).add j) = some u := by
  intro j u hu
  rw [addr_add, Nat.zero_add, Blk.cell (show Blk w g t xs.toArray from h)]
  simpa using hu
theorem tokCells_one (t : Tok) : ∀ u ∈ tokCells t, u.oneCell' = true := by
  intro u hu
  unfold tokCells at hu
  simp only [List.mem_cons, List.not_mem_nil, or_false] at hu
  rcases hu with rfl | rfl | rfl | rfl <;> rfl
/-- 'l = append(l, t)' for a token t that was laid in memory of its own. -/
theorem wpList_app_tok {ops : Array Oper} {rest : List Oper} {o : Oper} {a : Act} {W : World} {Q : Exit → Act → World → Prop} (hgd : o.guard = none) (sl x : Operand)
    (ho : o.op = .call { callee := .builtin .append, args := #[sl, x], argTypes := #[22, 22] }) (base g m : Nat) (A : Option Addr) (cap : Nat) (l : List Tok) (t : Tok)
    (hs : a.eval sl = .slice A m cap) (hown : W.ownsRow base 33 4 (.slice A m cap) m (tcells l)) (hx : a.eval x = .slice (some ⟨g, 0, none⟩) 1 1)
    (hg : W.heap[g]? = some (.cells (tokCells t).toArray 33 (0, 0))) (hm : m ≤ 100000) (hb : base ≤ W.heap.size)
    (h : ∀ A' c' W', W'.ownsRow base 33 4 (.slice A' (m + 1) c') (m + 1) (tcells (l ++ [t])) → W.grownBy W' (Value.slice A m cap).ownBlock → wpList Tryd.prog ops Q rest (a.put o.dst (.slice A' (m + 1) c')) W') :
    wpList Tryd.prog ops Q (o :: rest) a W := by
  obtain ⟨i0, hi0, hz0, hz1, hz2⟩ := info_parts Tryd.info32
  refine wpList_append_own _ hgd sl x 22 ho base 33 i0 (.agg #[.int .u8 0, .string ⟨#[]⟩, .int .i64 0, .int .i64 0]) 4 40 Tryd.underlying22 hi0 hz0 hz1 hz2 rfl (by decide) (.slice A m cap) m (tcells l) hs hown ⟨g, 0, none⟩ 1 1 (tokCells t) hx rfl (news_of_blk hg) (tokCells_one t) (by unfold maxLen; omega) (by omega) hb ?_
  intro v3 w3 ho3 hg3 _
  obtain ⟨A3, c3, rfl, _⟩ := own_form ho3
  refine h A3 c3 w3 ?_ hg3
  rw [tcells_append, tcells_one]
  exact ho3
theorem ext_cut (s : List UInt8) (i e : Nat) : (⟨s.toArray⟩ : ByteArray).extract i e = ⟨(cutL s i e).toArray⟩ := by
  apply ByteArray.ext
  rw [ByteArray.data_extract]
  unfold cutL
  simp [List.drop_take]
section
variable {s : List UInt8} {i : Nat} {c : UInt8}
theorem all_end (h : s.length ≤ i) {l : List Tok} : allL s i l = (l, 0, 0) := by
  rw [allL_step, List.getElem?_eq_none h]
theorem all_blank (hc : s[i]? = some c) (h : c = 32 ∨ c = 10) (l : List Tok) : allL s i l = allL s (i + 1) l := by
  rw [allL_step, hc]
  show (if c = 32 ∨ c = 10 then _ else _) = _
  rw [if_pos h]
theorem all_remark (hc : s[i]? = some c) (h : c = 35) (l : List Tok) : allL s i l = allL s (scan notNl s i) l := by
  have hi : i < s.length := (List.getElem?_eq_some_iff.1 hc).1
  have hci : s[i] = c := by rw [List.getElem?_eq_getElem hi] at hc; injection hc
  rw [scan_step notNl s hi (by rw [hci, h]; rfl), allL_step, hc]
  show (if c = 32 ∨ c = 10 then _ else _) = _
  rw [if_neg (by rw [h]; decide), if_pos h]
theorem all_tok (hc : s[i]? = some c) (h1 : c ≠ 32) (h2 : c ≠ 10) (h3 : c ≠ 35) {t : Tok} {e : Nat} (h : oneL s i c = .inr (t, e)) (l : List Tok) : allL s i l = allL s e (l ++ [t]) := by
  rw [allL_step, hc]
  show (if c = 32 ∨ c = 10 then _ else _) = _
  rw [if_neg (fun h => h.elim h1 h2), if_neg h3, h]
theorem all_bad (hc : s[i]? = some c) (h1 : c ≠ 32) (h2 : c ≠ 10) (h3 : c ≠ 35) {q e : Nat} (h : oneL s i c = .inl (q, e)) (l : List Tok) : allL s i l = ([], q, e) := by
  rw [allL_step, hc]
  show (if c = 32 ∨ c = 10 then _ else _) = _
  rw [if_neg (fun h => h.elim h1 h2), if_neg h3, h]
end

theorem num_cases (s : List UInt8) (i : Nat) (hs : s.length ≤ 100000) (hi : i ≤ s.length) :
    (∃ x e q : Nat, numT s i = .inr (⟨2, [], x, i⟩, e) ∧ ∀ W, Calls Tryd.prog 24 #[.string ⟨s.toArray⟩, .int .i64 (i : Nat)] W fun E W' => E = .returned (.tuple #[.int .i64 (x : Nat), .int .i64 (e : Nat), .int .i64 (q : Nat), .int .i64 0]) ∧ W' = W) ∨
    (∃ x e q er : Nat, er ≠ 0 ∧ numT s i = .inl (q, er) ∧ ∀ W, Calls Tryd.prog 24 #[.string ⟨s.toArray⟩, .int .i64 (i : Nat)] W fun E W' => E = .returned (.tuple #[.int .i64 (x : Nat), .int .i64 (e : Nat), .int .i64 (q : Nat), .int .i64 (er : Nat)]) ∧ W' = W) := by
  by_cases h : (numL s i).2.2.2 = 0
  · refine .inl ⟨_, _, (numL s i).2.2.1, by unfold numT; rw [if_pos h], fun W => (number_any s i hs hi W).mono ?_⟩
    rintro e w' ⟨rfl, rfl⟩
    rw [h]
    exact ⟨rfl, rfl⟩
  · refine .inr ⟨(numL s i).1, (numL s i).2.1, _, _, h, by unfold numT; rw [if_neg h], fun W => (number_any s i hs hi W).mono ?_⟩
    rintro e w' ⟨rfl, rfl⟩
    exact ⟨rfl, rfl⟩
theorem text_cases (s : List UInt8) (i : Nat) (hs : s.length ≤ 100000) (hi : i < s.length) :
    (∃ (b : List UInt8) (e q : Nat), textT s i = .inr (⟨3, b, 0, i⟩, e) ∧ ∀ W, Calls Tryd.prog 25 #[.string ⟨s.toArray⟩, .int .i64 (i : Nat)] W fun E W' => E = .returned (.tuple #[.string ⟨b.toArray⟩, .int .i64 (e : Nat), .int .i64 (q : Nat), .int .i64 0]) ∧ Below W.heap.size W W') ∨
    (∃ (b : List UInt8) (e q er : Nat), er ≠ 0 ∧ textT s i = .inl (q, er) ∧ ∀ W, Calls Tryd.prog 25 #[.string ⟨s.toArray⟩, .int .i64 (i : Nat)] W fun E W' => E = .returned (.tuple #[.string ⟨b.toArray⟩, .int .i64 (e : Nat), .int .i64 (q : Nat), .int .i64 (er : Nat)]) ∧ Below W.heap.size W W') := by
  by_cases h : (textL s i (i + 1) []).2.2.2 = 0
  · refine .inl ⟨_, _, (textL s i (i + 1) []).2.2.1, by unfold textT; rw [if_pos h], fun W => (text_any s i hs hi W).mono ?_⟩
    rintro e w' ⟨st, rfl, h1, hb⟩
    rw [h, ← h1]
    exact ⟨rfl, hb⟩
  · refine .inr ⟨(textL s i (i + 1) []).1, (textL s i (i + 1) []).2.1, _, _, h, by unfold textT; rw [if_neg h], fun W => (text_any s i hs hi W).mono ?_⟩
    rintro e w' ⟨st, rfl, h1, hb⟩
    rw [← h1]
    exact ⟨rfl, hb⟩
end Go.Proofs.YtlfkiaphmifelaaDoor
