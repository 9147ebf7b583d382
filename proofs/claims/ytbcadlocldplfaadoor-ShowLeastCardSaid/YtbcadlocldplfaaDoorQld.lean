/- Rows of twigs that grow; a row of twigs that was made. And what follows from it. -/
import Derived.Test.YtbcadlocldplfaaDoorQla
import Derived.Test.YtbcadlocldplfaaDoorQlb
set_option linter.unusedSimpArgs false
set_option linter.unusedVariables false
namespace Go.Proofs.YtbcadlocldplfaaDoor
set_option maxRecDepth 100000
open Go.RowKit
variable {w wk wn : World}
structure Od (w wk : World) (A : Option Addr) (n c : Nat) (t : List Tw) : Prop where
  len : n = t.length
  own : wk.ownsRow w.heap.size 42 4 (.slice A n c) n (rowOf twcell t)
theorem Od.rd {A : Option Addr} {n c : Nat} {t : List Tw} (ho : Od w wk A n c t) : RdL twcell 4 wk A t := RdL.of_own twcell_len ho.own ho.len
theorem Od.nil (w wk : World) : Od w wk none 0 0 [] := ⟨rfl, World.ownsRow_nil _ _ _ _⟩
end Go.Proofs.YtbcadlocldplfaaDoor
namespace Go.Proofs.YtbcadlocldplfaaDoor
theorem bind_ne {α β : Type} {r : Pr α} {f : α → List Tz → Pr β} (h : r ≠ .out) (hf : ∀ a l m, r = .ok a l m → f a l ≠ .out) : r.bind f ≠ .out := by
  cases r with
  | out => exact absurd rfl h
  | bad l => intro h2; cases h2
  | ok a l m =>
    rw [Pr.bind_ok]
    exact fun h2 => hf a l m rfl (Pr.add_out.1 h2)
theorem ofP_ne (x : Tw) (ts : List (List Tw)) (l : List Tz) : ofP x ts l ≠ .out := by
  obtain ⟨t, m, h, _⟩ := ofP_ok x ts l
  rw [h]
  intro h2
  cases h2
theorem mustP_ne (s : List UInt8) (l : List Tz) : mustP s l ≠ .out := by
  unfold mustP
  split <;> (intro h; cases h)
theorem ownP_ne (l : List Tz) : ownP l ≠ .out := by
  unfold ownP
  split <;> (intro h; cases h)
theorem ok_ne {α : Type} (a : α) (l : List Tz) (m : Bool) : Pr.ok a l m ≠ .out := fun h => by cases h
theorem bad_ne {α : Type} (l : List Tz) : (Pr.bad l : Pr α) ≠ .out := fun h => by cases h
theorem ite_ne {α : Type} {b : Bool} {x y z : α} (h1 : b = true → x ≠ z) (h2 : b = false → y ≠ z) : (if b then x else y) ≠ z := by
  cases b
  · exact h2 rfl
  · exact h1 rfl
def Ends (f : List Tz → Pr (List Tw)) (k : Nat) : Prop := ∀ l, l.length < k → f l ≠ .out
theorem leftP_ne {f : List Tz → Pr (List Tw)} {v : List (List UInt8 × Nat)} {once : Bool} {L : Nat} (hf : Ends f L) (he : Eats f) : ∀ (n : Nat) (t : List Tw) (l : List Tz), l.length ≤ L → l.length < n → leftP f v once n t l ≠ .out
  | 0, t, l, hl, hn => by omega
  | n + 1, t, l, hl, hn => by
    rw [leftP]
    split
    · exact ok_ne _ _ _
    · rename_i p hp
      have hT : isT p.1 l = true := by have := List.find?_some hp; exact this
      have h2 := isT_len hT
      refine bind_ne (hf _ (by omega)) fun u l1 m h1 => bind_ne (ofP_ne _ _ _) fun t2 l2 m2 h3 => ?_
      have h4 := (he _ _ _ _ h1).2
      obtain ⟨_, rfl⟩ := of_inv h3
      exact ite_ne (fun _ => ok_ne _ _ _) (fun _ => leftP_ne hf he n t2 l2 (by omega) (by omega))
theorem listP_ne {f : List Tz → Pr (List Tw)} {s : List UInt8} {L : Nat} (hf : Ends f (L + 1)) (he : Eats f) : ∀ (n : Nat) (acc : List (List Tw)) (l : List Tz), l.length ≤ L → l.length < n → listP f s n acc l ≠ .out
  | 0, acc, l, hl, hn => by omega
  | n + 1, acc, l, hl, hn => by
    rw [listP]
    refine bind_ne (hf _ (by omega)) fun u l1 m h1 => ?_
    have h4 := (he _ _ _ _ h1).2
    refine ite_ne (fun _ => ok_ne _ _ _) (fun _ => bind_ne (mustP_ne _ _) fun _ l2 m2 h3 => ?_)
    obtain ⟨_, _, h5⟩ := must_inv h3
    exact listP_ne hf he n _ l2 (by omega) (by omega)
theorem lisP_ne {f : List Tz → Pr (List Tw)} {s : List UInt8} {L n : Nat} {l : List Tz} (hf : Ends f (L + 1)) (he : Eats f) (hl : l.length ≤ L) (hn : l.length < n) : lisP f s n l ≠ .out := by
  unfold lisP
  exact ite_ne (fun _ => ok_ne _ _ _) (fun _ => listP_ne hf he n [] l hl hn)
theorem postP_ne {f : List Tz → Pr (List Tw)} {L : Nat} (hf : Ends f L) (he : Eats f) : ∀ (n : Nat) (t : List Tw) (l : List Tz), l.length ≤ L → l.length < n → postP f n t l ≠ .out
  | 0, t, l, hl, hn => by omega
  | n + 1, t, l, hl, hn => by
    rw [postP]
    refine ite_ne (fun hT => ?_) (fun _ => ok_ne _ _ _)
    have h2 := isT_len hT
    refine bind_ne (hf _ (by omega)) fun u l1 m h1 => bind_ne (ofP_ne _ _ _) fun t2 l2 m2 h3 => bind_ne (mustP_ne _ _) fun _ l3 m3 h5 => ?_
    have h4 := (he _ _ _ _ h1).2
    obtain ⟨_, rfl⟩ := of_inv h3
    obtain ⟨_, _, h6⟩ := must_inv h5
    exact postP_ne hf he n t2 l3 (by omega) (by omega)
theorem stmtsP_ne {f : List Tz → Pr (List Tw)} {L : Nat} (hf : Ends f (L + 1)) (he : Eats f) : ∀ (n : Nat) (acc : List (List Tw)) (l : List Tz), l.length ≤ L → l.length < n → stmtsP f n acc l ≠ .out
  | 0, acc, l, hl, hn => by omega
  | n + 1, acc, l, hl, hn => by
    rw [stmtsP]
    refine ite_ne (fun _ => ok_ne _ _ _) (fun _ => bind_ne (hf _ (by omega)) fun u l1 m h1 => ?_)
    have h4 := (he _ _ _ _ h1).2
    exact stmtsP_ne hf he n _ l1 (by omega) (by omega)
theorem oneP_ne {f : List Tz → Pr (List Tw)} {L : Nat} (hf : Ends f L) (op : Nat) {l : List Tz} (hl : l.length ≤ L) : oneP f op l ≠ .out := by
  unfold oneP
  refine bind_ne (mustP_ne _ _) fun _ l1 m1 h1 => ?_
  obtain ⟨_, _, h2⟩ := must_inv h1
  exact bind_ne (hf _ (by omega)) fun t l2 m2 _ => bind_ne (mustP_ne _ _) fun _ l3 m3 _ => ofP_ne _ _ _
theorem askP_ne {f : List Tz → Pr (List Tw)} {L n : Nat} (hf : Ends f L) (he : Eats f) (op : Nat) {l : List Tz} (hl : l.length ≤ L) (hn : l.length ≤ n) : askP f n op l ≠ .out := by
  unfold askP
  refine bind_ne (ownP_ne _) fun s l1 m1 h1 => bind_ne (mustP_ne _ _) fun _ l2 m2 h3 => ?_
  obtain ⟨_, _, h2⟩ := own_inv h1
  obtain ⟨_, _, h4⟩ := must_inv h3
  exact bind_ne (lisP_ne (L := l2.length) (fun l' hl' => hf l' (by omega)) he (Nat.le_refl _) (by omega)) fun ts l3 m3 _ => ofP_ne _ _ _
theorem wordP_ne {expr block : List Tz → Pr (List Tw)} {L n : Nat} (he : Ends expr L) (hb : Ends block L) (ee : Eats expr) {l : List Tz} (hl : l.length ≤ L) (hn : l.length ≤ n) : wordP expr block n l ≠ .out := by
  unfold wordP
  have key : ∀ {s : List UInt8}, isT s l = true → l.tail.length < L ∧ l.tail.length < n := fun hT => by have := isT_len hT; omega
  refine ite_ne (fun _ => ok_ne _ _ _) fun _ => ite_ne (fun _ => ok_ne _ _ _) fun _ => ite_ne (fun _ => ok_ne _ _ _) fun _ => ite_ne (fun _ => ok_ne _ _ _) fun _ => ?_
  refine ite_ne (fun hT => bind_ne (lisP_ne (L := l.tail.length) (fun l' hl' => he l' (by have := (key hT).1; omega)) ee (Nat.le_refl _) (key hT).2) fun ts l1 m1 _ => ofP_ne _ _ _) fun _ => ?_
  refine ite_ne (fun hT => bind_ne (he _ (key hT).1) fun t l1 m1 _ => bind_ne (mustP_ne _ _) fun _ l2 m2 _ => ok_ne _ _ _) fun _ => ?_
  refine ite_ne (fun hT => oneP_ne he _ (Nat.le_of_lt (key hT).1)) fun _ => ite_ne (fun hT => oneP_ne he _ (Nat.le_of_lt (key hT).1)) fun _ => ite_ne (fun hT => oneP_ne he _ (Nat.le_of_lt (key hT).1)) fun _ => ite_ne (fun hT => oneP_ne he _ (Nat.le_of_lt (key hT).1)) fun _ => ite_ne (fun hT => oneP_ne he _ (Nat.le_of_lt (key hT).1)) fun _ => ?_
  refine ite_ne (fun hT => bind_ne (mustP_ne _ _) fun _ l1 m1 h1 => ?_) fun _ => ?_
  · have h0 := key hT
    obtain ⟨_, _, h2⟩ := must_inv h1
    refine bind_ne (he _ (by omega)) fun a l2 m2 h3 => bind_ne (mustP_ne _ _) fun _ l3 m3 h4 => ?_
    have h5 := (ee _ _ _ _ h3).2
    obtain ⟨_, _, h6⟩ := must_inv h4
    exact bind_ne (he _ (by omega)) fun b l4 m4 _ => bind_ne (mustP_ne _ _) fun _ l5 m5 _ => ofP_ne _ _ _
  refine ite_ne (fun hT => bind_ne (hb _ (key hT).1) fun t l1 m1 _ => ofP_ne _ _ _) fun _ => ?_
  refine ite_ne (fun hT => bind_ne (ownP_ne _) fun s l1 m1 _ => ok_ne _ _ _) fun _ => ?_
  exact ite_ne (fun hT => askP_ne he ee _ (Nat.le_of_lt (key hT).1) (Nat.le_of_lt (key hT).2)) fun _ => ite_ne (fun hT => askP_ne he ee _ (Nat.le_of_lt (key hT).1) (Nat.le_of_lt (key hT).2)) fun _ => bad_ne _
theorem primP_ne {expr block : List Tz → Pr (List Tw)} {L n : Nat} (he : Ends expr L) (hb : Ends block L) (ee : Eats expr) {l : List Tz} (hl : l.length ≤ L) (hn : l.length ≤ n) : primP expr block n l ≠ .out := by
  unfold primP
  split
  · exact bad_ne _
  · split
    · exact ok_ne _ _ _
    · split
      · exact ok_ne _ _ _
      · exact ite_ne (fun _ => ok_ne _ _ _) fun _ => wordP_ne he hb ee hl hn
theorem stmtP_ne {expr block : List Tz → Pr (List Tw)} {L : Nat} (he : Ends expr L) (hb : Ends block L) (ee : Eats expr) (eb : Eats block) {l : List Tz} (hl : l.length ≤ L) : stmtP expr block l ≠ .out := by
  unfold stmtP
  have key : ∀ {s : List UInt8}, isT s l = true → l.tail.length < L := fun hT => by have := isT_len hT; omega
  have set_ : ∀ (op : Nat) (l0 : List Tz), l0.length ≤ L → ((ownP l0).bind fun s l1 => (mustP [61] l1).bind fun _ l2 => (expr l2).bind fun t l3 => ofP ⟨op, 0, 0, s⟩ [t] l3) ≠ .out := fun op l0 h0 => by
    refine bind_ne (ownP_ne _) fun s l1 m1 h1 => bind_ne (mustP_ne _ _) fun _ l2 m2 h3 => ?_
    obtain ⟨_, _, h2⟩ := own_inv h1
    obtain ⟨_, _, h4⟩ := must_inv h3
    exact bind_ne (he _ (by omega)) fun t l3 m3 _ => ofP_ne _ _ _
  refine ite_ne (fun _ => set_ 5 l hl) fun _ => ite_ne (fun hT => set_ 4 _ (Nat.le_of_lt (key hT))) fun _ => ?_
  refine ite_ne (fun hT => bind_ne (he _ (key hT)) fun c l1 m1 h1 => ?_) fun _ => ?_
  · have h0 := key hT
    have h2 := (ee _ _ _ _ h1).2
    refine bind_ne (hb _ (by omega)) fun t l2 m2 h3 => ?_
    have h4 := (eb _ _ _ _ h3).2
    exact ite_ne (fun hT2 => bind_ne (hb _ (by have := isT_len hT2; omega)) fun u l3 m3 _ => ofP_ne _ _ _) fun _ => ofP_ne _ _ _
  refine ite_ne (fun hT => bind_ne (he _ (key hT)) fun c l1 m1 h1 => ?_) fun _ => ?_
  · have h0 := key hT
    have h2 := (ee _ _ _ _ h1).2
    exact bind_ne (hb _ (by omega)) fun t l2 m2 h3 => ofP_ne _ _ _
  exact ite_ne (fun hT => bind_ne (he _ (key hT)) fun c l1 m1 h1 => ofP_ne _ _ _) fun _ => ite_ne (fun hT => bind_ne (he _ (key hT)) fun c l1 m1 h1 => ofP_ne _ _ _) fun _ => ite_ne (fun hT => bind_ne (he _ (key hT)) fun c l1 m1 h1 => ofP_ne _ _ _) fun _ => ite_ne (fun hT => bind_ne (he _ (key hT)) fun c l1 m1 h1 => ofP_ne _ _ _) fun _ => bad_ne _
theorem preP_ne {pre prim expr : List Tz → Pr (List Tw)} {L n : Nat} (hp : Ends pre L) (hq : Ends prim (L + 1)) (he : Ends expr L) (eq : Eats prim) (ee : Eats expr) {l : List Tz} (hl : l.length ≤ L) (hn : l.length ≤ n) : preP pre prim expr n l ≠ .out := by
  unfold preP
  have key : ∀ {s : List UInt8}, isT s l = true → l.tail.length < L := fun hT => by have := isT_len hT; omega
  refine ite_ne (fun hT => bind_ne (hp _ (key hT)) fun c l1 m1 h1 => ofP_ne _ _ _) fun _ => ite_ne (fun hT => bind_ne (hp _ (key hT)) fun c l1 m1 h1 => ofP_ne _ _ _) fun _ => ite_ne (fun hT => bind_ne (hp _ (key hT)) fun c l1 m1 h1 => ofP_ne _ _ _) fun _ => ?_
  refine bind_ne (hq _ (by omega)) fun t l1 m1 h1 => ?_
  have h2 := (eq _ _ _ _ h1).2
  exact postP_ne he ee n t l1 (by omega) (by omega)
def rank : Nt → Nat
  | .expr => 7
  | .and_ => 6
  | .not_ => 5
  | .sum => 4
  | .term => 3
  | .pre => 2
  | .prim => 1
  | .block => 1
  | .stmt => 1
theorem P_end : ∀ (n : Nat) (nt : Nt) (l : List Tz), 10 * l.length + rank nt ≤ n → P n nt l ≠ .out
  | 0, nt, l, h => by cases nt <;> simp [rank] at h
  | n + 1, nt, l, h => by
    have ih := P_end n
    have en : ∀ nt2, 10 * l.length + rank nt2 ≤ n + 10 → Ends (P n nt2) l.length := fun nt2 h2 l2 hl2 => ih nt2 l2 (by omega)
    have en1 : ∀ nt2, 10 * l.length + rank nt2 ≤ n → Ends (P n nt2) (l.length + 1) := fun nt2 h2 l2 hl2 => ih nt2 l2 (by omega)
    have lv : ∀ (nt2 : Nt) (v : List (List UInt8 × Nat)) (once : Bool), 10 * l.length + rank nt2 ≤ n → 1 ≤ rank nt2 → (P n nt2 l).bind (leftP (P n nt2) v once n) ≠ .out := fun nt2 v once h2 h3 =>
      bind_ne (ih nt2 l h2) fun t l1 m1 h1 => by
        have h4 := (P_len n nt2 _ _ _ _ h1).2
        exact leftP_ne (L := l.length) (en nt2 (by omega)) (P_len n nt2) n t l1 (by omega) (by omega)
    cases nt with
    | expr => rw [P]; simp only [rank] at h; exact lv .and_ sOr false (by simp only [rank]; omega) (by decide)
    | and_ => rw [P]; simp only [rank] at h; exact lv .not_ sAnd false (by simp only [rank]; omega) (by decide)
    | not_ =>
      rw [P]
      simp only [rank] at h
      refine ite_ne (fun hT => bind_ne (ih .not_ _ (by have := isT_len hT; simp only [rank]; omega)) fun t l1 m1 _ => ofP_ne _ _ _) fun _ => lv .sum sCmp true (by simp only [rank]; omega) (by decide)
    | sum => rw [P]; simp only [rank] at h; exact lv .term sSum false (by simp only [rank]; omega) (by decide)
    | term => rw [P]; simp only [rank] at h; exact lv .pre sTerm false (by simp only [rank]; omega) (by decide)
    | pre =>
      rw [P]
      simp only [rank] at h
      exact preP_ne (en .pre (by simp only [rank]; omega)) (en1 .prim (by simp only [rank]; omega)) (en .expr (by simp only [rank]; omega)) (P_len n .prim) (P_len n .expr) (Nat.le_refl _) (by omega)
    | prim =>
      rw [P]
      simp only [rank] at h
      exact primP_ne (en .expr (by simp only [rank]; omega)) (en .block (by simp only [rank]; omega)) (P_len n .expr) (Nat.le_refl _) (by omega)
    | block =>
      rw [P]
      simp only [rank] at h
      refine bind_ne (mustP_ne _ _) fun _ l1 m1 h1 => ?_
      obtain ⟨_, _, h2⟩ := must_inv h1
      exact bind_ne (stmtsP_ne (L := l1.length) (fun l' hl' => ih .stmt l' (by simp only [rank]; omega)) (P_len n .stmt) n [] l1 (Nat.le_refl _) (by omega)) fun ts l2 m2 _ => ofP_ne _ _ _
    | stmt =>
      rw [P]
      simp only [rank] at h
      exact stmtP_ne (en .expr (by simp only [rank]; omega)) (en .block (by simp only [rank]; omega)) (P_len n .expr) (P_len n .block) (Nat.le_refl _)
theorem paramP_ne (l : List Tz) : paramP l ≠ .out := by
  unfold paramP
  exact bind_ne (ownP_ne _) fun _ _ _ _ => ok_ne _ _ _
theorem flowP_end {n : Nat} {l : List Tz} (h : 10 * l.length + 1 ≤ n) : flowP n l ≠ .out := by
  unfold flowP
  refine bind_ne (mustP_ne _ _) fun _ l1 m1 h1 => bind_ne (ownP_ne _) fun s l2 m2 h2 => bind_ne (mustP_ne _ _) fun _ l3 m3 h3 => ?_
  obtain ⟨_, _, h4⟩ := must_inv h1
  obtain ⟨_, _, h5⟩ := own_inv h2
  obtain ⟨_, _, h6⟩ := must_inv h3
  refine bind_ne (lisP_ne (L := l3.length) (fun l' _ => paramP_ne l') paramP_len (Nat.le_refl _) (by omega)) fun ps l4 m4 h7 => ?_
  have h8 := lisP_len paramP_len h7
  exact bind_ne (P_end n .block l4 (by simp only [rank]; omega)) fun b l5 m5 _ => ofP_ne _ _ _
def GoodT (l : List Tz) : Prop := ∀ x ∈ l, x.kind = 4 → kwB x.text = false
end Go.Proofs.YtbcadlocldplfaaDoor
