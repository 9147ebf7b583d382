/- Plain law: the reader comes to an end: fuel that is enough. No walk. And what follows from it. -/
import Derived.Lib.Hide
import Derived.Deep.MidRow
import Derived.Test.YtbcadlocldplfaaGreatMaa
import Derived.Test.YtbcadlocldplfaaGreatMab
set_option linter.unusedSimpArgs false
set_option linter.unusedVariables false
namespace Go.Proofs.YtbcadlocldplfaaGreat
theorem bind_ne {α β : Type} {r : Pr α} {f : α → List Tz → Pr β} (h : r ≠ .out) (hf : ∀ a l m, r = .ok a l m → f a l ≠ .out) : r.bind f ≠ .out := by
  cases r with
  | out => exact absurd rfl h
  | bad l => intro h2; cases h2
  | ok a l m =>
    rw [Pr.bind_ok]
    exact fun h2 => hf a l m rfl (Pr.add_out.1 h2)
theorem ofP_ne (x : Tw) (ts : List (List Tw)) (l : List Tz) : ofP x ts l ≠ .out := by
  obtain ⟨t, m, h, _⟩ := ofP_ok x ts l
  rw [h]
  intro h2
  cases h2
theorem mustP_ne (s : List UInt8) (l : List Tz) : mustP s l ≠ .out := by
  unfold mustP
  split <;> (intro h; cases h)
theorem ownP_ne (l : List Tz) : ownP l ≠ .out := by
  unfold ownP
  split <;> (intro h; cases h)
theorem ok_ne {α : Type} (a : α) (l : List Tz) (m : Bool) : Pr.ok a l m ≠ .out := fun h => by cases h
theorem bad_ne {α : Type} (l : List Tz) : (Pr.bad l : Pr α) ≠ .out := fun h => by cases h
theorem ite_ne {α : Type} {b : Bool} {x y z : α} (h1 : b = true → x ≠ z) (h2 : b = false → y ≠ z) : (if b then x else y) ≠ z := by
  cases b
  · exact h2 rfl
  · exact h1 rfl
def Ends (f : List Tz → Pr (List Tw)) (k : Nat) : Prop := ∀ l, l.length < k → f l ≠ .out
theorem leftP_ne {f : List Tz → Pr (List Tw)} {v : List (List UInt8 × Nat)} {once : Bool} {L : Nat} (hf : Ends f L) (he : Eats f) : ∀ (n : Nat) (t : List Tw) (l : List Tz), l.length ≤ L → l.length < n → leftP f v once n t l ≠ .out
  | 0, t, l, hl, hn => by omega
  | n + 1, t, l, hl, hn => by
    rw [leftP]
    split
    · exact ok_ne _ _ _
    · rename_i p hp
      have hT : isT p.1 l = true := by have := List.find?_some hp; exact this
      have h2 := isT_len hT
      refine bind_ne (hf _ (by omega)) fun u l1 m h1 => bind_ne (ofP_ne _ _ _) fun t2 l2 m2 h3 => ?_
      have h4 := (he _ _ _ _ h1).2
      obtain ⟨_, rfl⟩ := of_inv h3
      exact ite_ne (fun _ => ok_ne _ _ _) (fun _ => leftP_ne hf he n t2 l2 (by omega) (by omega))
theorem listP_ne {f : List Tz → Pr (List Tw)} {s : List UInt8} {L : Nat} (hf : Ends f (L + 1)) (he : Eats f) : ∀ (n : Nat) (acc : List (List Tw)) (l : List Tz), l.length ≤ L → l.length < n → listP f s n acc l ≠ .out
  | 0, acc, l, hl, hn => by omega
  | n + 1, acc, l, hl, hn => by
    rw [listP]
    refine bind_ne (hf _ (by omega)) fun u l1 m h1 => ?_
    have h4 := (he _ _ _ _ h1).2
    refine ite_ne (fun _ => ok_ne _ _ _) (fun _ => bind_ne (mustP_ne _ _) fun _ l2 m2 h3 => ?_)
    obtain ⟨_, _, h5⟩ := must_inv h3
    exact listP_ne hf he n _ l2 (by omega) (by omega)
theorem lisP_ne {f : List Tz → Pr (List Tw)} {s : List UInt8} {L n : Nat} {l : List Tz} (hf : Ends f (L + 1)) (he : Eats f) (hl : l.length ≤ L) (hn : l.length < n) : lisP f s n l ≠ .out := by
  unfold lisP
  exact ite_ne (fun _ => ok_ne _ _ _) (fun _ => listP_ne hf he n [] l hl hn)
theorem postP_ne {f : List Tz → Pr (List Tw)} {L : Nat} (hf : Ends f L) (he : Eats f) : ∀ (n : Nat) (t : List Tw) (l : List Tz), l.length ≤ L → l.length < n → postP f n t l ≠ .out
  | 0, t, l, hl, hn => by omega
  | n + 1, t, l, hl, hn => by
    rw [postP]
    refine ite_ne (fun hT => ?_) (fun _ => ok_ne _ _ _)
    have h2 := isT_len hT
    refine bind_ne (hf _ (by omega)) fun u l1 m h1 => bind_ne (ofP_ne _ _ _) fun t2 l2 m2 h3 => bind_ne (mustP_ne _ _) fun _ l3 m3 h5 => ?_
    have h4 := (he _ _ _ _ h1).2
    obtain ⟨_, rfl⟩ := of_inv h3
    obtain ⟨_, _, h6⟩ := must_inv h5
    exact postP_ne hf he n t2 l3 (by omega) (by omega)
theorem stmtsP_ne {f : List Tz → Pr (List Tw)} {L : Nat} (hf : Ends f (L + 1)) (he : Eats f) : ∀ (n : Nat) (acc : List (List Tw)) (l : List Tz), l.length ≤ L → l.length < n → stmtsP f n acc l ≠ .out
  | 0, acc, l, hl, hn => by omega
  | n + 1, acc, l, hl, hn => by
    rw [stmtsP]
    refine ite_ne (fun _ => ok_ne _ _ _) (fun _ => bind_ne (hf _ (by omega)) fun u l1 m h1 => ?_)
    have h4 := (he _ _ _ _ h1).2
    exact stmtsP_ne hf he n _ l1 (by omega) (by omega)
theorem oneP_ne {f : List Tz → Pr (List Tw)} {L : Nat} (hf : Ends f L) (op : Nat) {l : List Tz} (hl : l.length ≤ L) : oneP f op l ≠ .out := by
  unfold oneP
  refine bind_ne (mustP_ne _ _) fun _ l1 m1 h1 => ?_
  obtain ⟨_, _, h2⟩ := must_inv h1
  exact bind_ne (hf _ (by omega)) fun t l2 m2 _ => bind_ne (mustP_ne _ _) fun _ l3 m3 _ => ofP_ne _ _ _
theorem askP_ne {f : List Tz → Pr (List Tw)} {L n : Nat} (hf : Ends f L) (he : Eats f) (op : Nat) {l : List Tz} (hl : l.length ≤ L) (hn : l.length ≤ n) : askP f n op l ≠ .out := by
  unfold askP
  refine bind_ne (ownP_ne _) fun s l1 m1 h1 => bind_ne (mustP_ne _ _) fun _ l2 m2 h3 => ?_
  obtain ⟨_, _, h2⟩ := own_inv h1
  obtain ⟨_, _, h4⟩ := must_inv h3
  exact bind_ne (lisP_ne (L := l2.length) (fun l' hl' => hf l' (by omega)) he (Nat.le_refl _) (by omega)) fun ts l3 m3 _ => ofP_ne _ _ _
theorem wordP_ne {expr block : List Tz → Pr (List Tw)} {L n : Nat} (he : Ends expr L) (hb : Ends block L) (ee : Eats expr) {l : List Tz} (hl : l.length ≤ L) (hn : l.length ≤ n) : wordP expr block n l ≠ .out := by
  unfold wordP
  have key : ∀ {s : List UInt8}, isT s l = true → l.tail.length < L ∧ l.tail.length < n := fun hT => by have := isT_len hT; omega
  refine ite_ne (fun _ => ok_ne _ _ _) fun _ => ite_ne (fun _ => ok_ne _ _ _) fun _ => ite_ne (fun _ => ok_ne _ _ _) fun _ => ite_ne (fun _ => ok_ne _ _ _) fun _ => ?_
  refine ite_ne (fun hT => bind_ne (lisP_ne (L := l.tail.length) (fun l' hl' => he l' (by have := (key hT).1; omega)) ee (Nat.le_refl _) (key hT).2) fun ts l1 m1 _ => ofP_ne _ _ _) fun _ => ?_
  refine ite_ne (fun hT => bind_ne (he _ (key hT).1) fun t l1 m1 _ => bind_ne (mustP_ne _ _) fun _ l2 m2 _ => ok_ne _ _ _) fun _ => ?_
  refine ite_ne (fun hT => oneP_ne he _ (Nat.le_of_lt (key hT).1)) fun _ => ite_ne (fun hT => oneP_ne he _ (Nat.le_of_lt (key hT).1)) fun _ => ite_ne (fun hT => oneP_ne he _ (Nat.le_of_lt (key hT).1)) fun _ => ite_ne (fun hT => oneP_ne he _ (Nat.le_of_lt (key hT).1)) fun _ => ite_ne (fun hT => oneP_ne he _ (Nat.le_of_lt (key hT).1)) fun _ => ?_
  refine ite_ne (fun hT => bind_ne (mustP_ne _ _) fun _ l1 m1 h1 => ?_) fun _ => ?_
  · have h0 := key hT
    obtain ⟨_, _, h2⟩ := must_inv h1
    refine bind_ne (he _ (by omega)) fun a l2 m2 h3 => bind_ne (mustP_ne _ _) fun _ l3 m3 h4 => ?_
    have h5 := (ee _ _ _ _ h3).2
    obtain ⟨_, _, h6⟩ := must_inv h4
    exact bind_ne (he _ (by omega)) fun b l4 m4 _ => bind_ne (mustP_ne _ _) fun _ l5 m5 _ => ofP_ne _ _ _
  refine ite_ne (fun hT => bind_ne (hb _ (key hT).1) fun t l1 m1 _ => ofP_ne _ _ _) fun _ => ?_
  refine ite_ne (fun hT => bind_ne (ownP_ne _) fun s l1 m1 _ => ok_ne _ _ _) fun _ => ?_
  exact ite_ne (fun hT => askP_ne he ee _ (Nat.le_of_lt (key hT).1) (Nat.le_of_lt (key hT).2)) fun _ => ite_ne (fun hT => askP_ne he ee _ (Nat.le_of_lt (key hT).1) (Nat.le_of_lt (key hT).2)) fun _ => bad_ne _
theorem primP_ne {expr block : List Tz → Pr (List Tw)} {L n : Nat} (he : Ends expr L) (hb : Ends block L) (ee : Eats expr) {l : List Tz} (hl : l.length ≤ L) (hn : l.length ≤ n) : primP expr block n l ≠ .out := by
  unfold primP
  split
  · exact bad_ne _
  · split
    · exact ok_ne _ _ _
    · split
      · exact ok_ne _ _ _
      · exact ite_ne (fun _ => ok_ne _ _ _) fun _ => wordP_ne he hb ee hl hn
theorem stmtP_ne {expr block : List Tz → Pr (List Tw)} {L : Nat} (he : Ends expr L) (hb : Ends block L) (ee : Eats expr) (eb : Eats block) {l : List Tz} (hl : l.length ≤ L) : stmtP expr block l ≠ .out := by
  unfold stmtP
  have key : ∀ {s : List UInt8}, isT s l = true → l.tail.length < L := fun hT => by have := isT_len hT; omega
  have set_ : ∀ (op : Nat) (l0 : List Tz), l0.length ≤ L → ((ownP l0).bind fun s l1 => (mustP [61] l1).bind fun _ l2 => (expr l2).bind fun t l3 => ofP ⟨op, 0, 0, s⟩ [t] l3) ≠ .out := fun op l0 h0 => by
    refine bind_ne (ownP_ne _) fun s l1 m1 h1 => bind_ne (mustP_ne _ _) fun _ l2 m2 h3 => ?_
    obtain ⟨_, _, h2⟩ := own_inv h1
    obtain ⟨_, _, h4⟩ := must_inv h3
    exact bind_ne (he _ (by omega)) fun t l3 m3 _ => ofP_ne _ _ _
  refine ite_ne (fun _ => set_ 5 l hl) fun _ => ite_ne (fun hT => set_ 4 _ (Nat.le_of_lt (key hT))) fun _ => ?_
  refine ite_ne (fun hT => bind_ne (he _ (key hT)) fun c l1 m1 h1 => ?_) fun _ => ?_
  · have h0 := key hT
    have h2 := (ee _ _ _ _ h1).2
    refine bind_ne (hb _ (by omega)) fun t l2 m2 h3 => ?_
    have h4 := (eb _ _ _ _ h3).2
    exact ite_ne (fun hT2 => bind_ne (hb _ (by have := isT_len hT2; omega)) fun u l3 m3 _ => ofP_ne _ _ _) fun _ => ofP_ne _ _ _
  refine ite_ne (fun hT => bind_ne (he _ (key hT)) fun c l1 m1 h1 => ?_) fun _ => ?_
  · have h0 := key hT
    have h2 := (ee _ _ _ _ h1).2
    exact bind_ne (hb _ (by omega)) fun t l2 m2 h3 => ofP_ne _ _ _
  exact ite_ne (fun hT => bind_ne (he _ (key hT)) fun c l1 m1 h1 => ofP_ne _ _ _) fun _ => ite_ne (fun hT => bind_ne (he _ (key hT)) fun c l1 m1 h1 => ofP_ne _ _ _) fun _ => ite_ne (fun hT => bind_ne (he _ (key hT)) fun c l1 m1 h1 => ofP_ne _ _ _) fun _ => ite_ne (fun hT => bind_ne (he _ (key hT)) fun c l1 m1 h1 => ofP_ne _ _ _) fun _ => bad_ne _
theorem preP_ne {pre prim expr : List Tz → Pr (List Tw)} {L n : Nat} (hp : Ends pre L) (hq : Ends prim (L + 1)) (he : Ends expr L) (eq : Eats prim) (ee : Eats expr) {l : List Tz} (hl : l.length ≤ L) (hn : l.length ≤ n) : preP pre prim expr n l ≠ .out := by
  unfold preP
  have key : ∀ {s : List UInt8}, isT s l = true → l.tail.length < L := fun hT => by have := isT_len hT; omega
  refine ite_ne (fun hT => bind_ne (hp _ (key hT)) fun c l1 m1 h1 => ofP_ne _ _ _) fun _ => ite_ne (fun hT => bind_ne (hp _ (key hT)) fun c l1 m1 h1 => ofP_ne _ _ _) fun _ => ite_ne (fun hT => bind_ne (hp _ (key hT)) fun c l1 m1 h1 => ofP_ne _ _ _) fun _ => ?_
  refine bind_ne (hq _ (by omega)) fun t l1 m1 h1 => ?_
  have h2 := (eq _ _ _ _ h1).2
  exact postP_ne he ee n t l1 (by omega) (by omega)
def rank : Nt → Nat
  | .expr => 7
  | .and_ => 6
  | .not_ => 5
  | .sum => 4
  | .term => 3
  | .pre => 2
  | .prim => 1
  | .block => 1
  | .stmt => 1
theorem P_end : ∀ (n : Nat) (nt : Nt) (l : List Tz), 10 * l.length + rank nt ≤ n → P n nt l ≠ .out
  | 0, nt, l, h => by cases nt <;> simp [rank] at h
  | n + 1, nt, l, h => by
    have ih := P_end n
    have en : ∀ nt2, 10 * l.length + rank nt2 ≤ n + 10 → Ends (P n nt2) l.length := fun nt2 h2 l2 hl2 => ih nt2 l2 (by omega)
    have en1 : ∀ nt2, 10 * l.length + rank nt2 ≤ n → Ends (P n nt2) (l.length + 1) := fun nt2 h2 l2 hl2 => ih nt2 l2 (by omega)
    have lv : ∀ (nt2 : Nt) (v : List (List UInt8 × Nat)) (once : Bool), 10 * l.length + rank nt2 ≤ n → 1 ≤ rank nt2 → (P n nt2 l).bind (leftP (P n nt2) v once n) ≠ .out := fun nt2 v once h2 h3 =>
      bind_ne (ih nt2 l h2) fun t l1 m1 h1 => by
        have h4 := (P_len n nt2 _ _ _ _ h1).2
        exact leftP_ne (L := l.length) (en nt2 (by omega)) (P_len n nt2) n t l1 (by omega) (by omega)
    cases nt with
    | expr => rw [P]; simp only [rank] at h; exact lv .and_ sOr false (by simp only [rank]; omega) (by decide)
    | and_ => rw [P]; simp only [rank] at h; exact lv .not_ sAnd false (by simp only [rank]; omega) (by decide)
    | not_ =>
      rw [P]
      simp only [rank] at h
      refine ite_ne (fun hT => bind_ne (ih .not_ _ (by have := isT_len hT; simp only [rank]; omega)) fun t l1 m1 _ => ofP_ne _ _ _) fun _ => lv .sum sCmp true (by simp only [rank]; omega) (by decide)
    | sum => rw [P]; simp only [rank] at h; exact lv .term sSum false (by simp only [rank]; omega) (by decide)
    | term => rw [P]; simp only [rank] at h; exact lv .pre sTerm false (by simp only [rank]; omega) (by decide)
    | pre =>
      rw [P]
      simp only [rank] at h
      exact preP_ne (en .pre (by simp only [rank]; omega)) (en1 .prim (by simp only [rank]; omega)) (en .expr (by simp only [rank]; omega)) (P_len n .prim) (P_len n .expr) (Nat.le_refl _) (by omega)
    | prim =>
      rw [P]
      simp only [rank] at h
      exact primP_ne (en .expr (by simp only [rank]; omega)) (en .block (by simp only [rank]; omega)) (P_len n .expr) (Nat.le_refl _) (by omega)
    | block =>
      rw [P]
      simp only [rank] at h
      refine bind_ne (mustP_ne _ _) fun _ l1 m1 h1 => ?_
      obtain ⟨_, _, h2⟩ := must_inv h1
      exact bind_ne (stmtsP_ne (L := l1.length) (fun l' hl' => ih .stmt l' (by simp only [rank]; omega)) (P_len n .stmt) n [] l1 (Nat.le_refl _) (by omega)) fun ts l2 m2 _ => ofP_ne _ _ _
    | stmt =>
      rw [P]
      simp only [rank] at h
      exact stmtP_ne (en .expr (by simp only [rank]; omega)) (en .block (by simp only [rank]; omega)) (P_len n .expr) (P_len n .block) (Nat.le_refl _)
theorem paramP_ne (l : List Tz) : paramP l ≠ .out := by
  unfold paramP
  exact bind_ne (ownP_ne _) fun _ _ _ _ => ok_ne _ _ _
theorem flowP_end {n : Nat} {l : List Tz} (h : 10 * l.length + 1 ≤ n) : flowP n l ≠ .out := by
  unfold flowP
  refine bind_ne (mustP_ne _ _) fun _ l1 m1 h1 => bind_ne (ownP_ne _) fun s l2 m2 h2 => bind_ne (mustP_ne _ _) fun _ l3 m3 h3 => ?_
  obtain ⟨_, _, h4⟩ := must_inv h1
  obtain ⟨_, _, h5⟩ := own_inv h2
  obtain ⟨_, _, h6⟩ := must_inv h3
  refine bind_ne (lisP_ne (L := l3.length) (fun l' _ => paramP_ne l') paramP_len (Nat.le_refl _) (by omega)) fun ps l4 m4 h7 => ?_
  have h8 := lisP_len paramP_len h7
  exact bind_ne (P_end n .block l4 (by simp only [rank]; omega)) fun b l5 m5 _ => ofP_ne _ _ _
def GoodT (l : List Tz) : Prop := ∀ x ∈ l, x.kind = 4 → kwB x.text = false
theorem isT_two {a b : List UInt8} {l : List Tz} (h : isT a l = true) (h2 : isT b l = true) : a = b := by
  cases l with
  | nil => cases h
  | cons x r =>
    have h' : ((decide (x.kind = 1) || decide (x.kind = 4)) && decide (x.text.data.toList = a)) = true := h
    have h2' : ((decide (x.kind = 1) || decide (x.kind = 4)) && decide (x.text.data.toList = b)) = true := h2
    simp only [Bool.and_eq_true, decide_eq_true_eq] at h' h2'
    exact h'.2.symm.trans h2'.2
theorem isT_no {a b : List UInt8} {l : List Tz} (h : isT a l = true) (hne : a ≠ b) : isT b l = false := by
  cases h2 : isT b l with
  | false => rfl
  | true => exact absurd (isT_two h h2) hne
theorem of_must (x : Tw) (ts : List (List Tw)) (s : List UInt8) (l : List Tz) (k : List Tw → List Tz → Pr (List Tw)) :
    ((ofP x ts l).bind fun t2 l2 => (mustP s l2).bind fun _ l3 => k t2 l3) = (mustP s l).bind fun _ l3 => (ofP x ts l3).bind k := by
  have key : ∀ l, ofP x ts l = Pr.ok (if 2048 < 1 + ts.flatten.length then [{ x with kids := (ts.length : Nat) }] else { x with kids := (ts.length : Nat) } :: ts.flatten) l (decide (2048 < 1 + ts.flatten.length)) := by
    intro l
    unfold ofP
    split
    · rename_i hh; rw [decide_eq_true hh]
    · rename_i hh; rw [decide_eq_false hh]
  simp only [key, Pr.bind_ok]
  cases hT : isT s l with
  | true => rw [mustP_true hT, Pr.bind_ok, Pr.bind_ok, Pr.add_false, Pr.add_add, Bool.false_or]
  | false => rw [mustP_false hT]; rfl
def stmtD (expr block : List Tz → Pr (List Tw)) (l : List Tz) : Pr (List Tw) :=
  if mineT l then (ownP l).bind fun s l1 => (mustP [61] l1).bind fun _ l2 => (expr l2).bind fun t l3 => ofP ⟨5, 0, 0, s⟩ [t] l3
  else if isT [108, 101, 116] l then (ownP l.tail).bind fun s l1 => (mustP [61] l1).bind fun _ l2 => (expr l2).bind fun t l3 => ofP ⟨4, 0, 0, s⟩ [t] l3
  else if isT [114, 101, 116, 117, 114, 110] l then (expr l.tail).bind fun t l1 => ofP (tw 8) [t] l1
  else if isT [102, 97, 105, 108] l then (expr l.tail).bind fun t l1 => ofP (tw 9) [t] l1
  else if isT [115, 108, 101, 101, 112] l then (expr l.tail).bind fun t l1 => ofP (tw 10) [t] l1
  else if isT [100, 111] l then (expr l.tail).bind fun t l1 => ofP (tw 11) [t] l1
  else if isT [119, 104, 105, 108, 101] l then (expr l.tail).bind fun c l1 => (block l1).bind fun t l2 => ofP (tw 7) [c, t] l2
  else if isT [105, 102] l then (expr l.tail).bind fun c l1 => (block l1).bind fun t l2 => if isT [101, 108, 115, 101] l2 then (block l2.tail).bind fun u l3 => ofP (tw 6) [c, t, u] l3 else ofP (tw 6) [c, t] l2
  else .bad l
theorem stmtP_doc (expr block : List Tz → Pr (List Tw)) (l : List Tz) : stmtP expr block l = stmtD expr block l := by
  unfold stmtP stmtD
  cases hm : mineT l with
  | true => rfl
  | false =>
    cases h0 : isT [108, 101, 116] l with
    | true => rfl
    | false =>
      cases h1 : isT [105, 102] l with
      | true =>
        rw [isT_no h1 (show _ ≠ [114, 101, 116, 117, 114, 110] by decide), isT_no h1 (show _ ≠ [102, 97, 105, 108] by decide), isT_no h1 (show _ ≠ [115, 108, 101, 101, 112] by decide), isT_no h1 (show _ ≠ [100, 111] by decide), isT_no h1 (show _ ≠ [119, 104, 105, 108, 101] by decide)]
        rfl
      | false =>
        cases h2 : isT [119, 104, 105, 108, 101] l with
        | true =>
          rw [isT_no h2 (show _ ≠ [114, 101, 116, 117, 114, 110] by decide), isT_no h2 (show _ ≠ [102, 97, 105, 108] by decide), isT_no h2 (show _ ≠ [115, 108, 101, 101, 112] by decide), isT_no h2 (show _ ≠ [100, 111] by decide)]
          rfl
        | false => rfl
def plainL (s : List UInt8) : Nat := if s = [110, 111, 110, 101] then 20 else if s = [116, 114, 117, 101] then 21 else if s = [102, 97, 108, 115, 101] then 22 else if s = [118, 101, 114, 115, 105, 111, 110] then 57 else 0
def aroundL (s : List UInt8) : Nat := if s = [108, 101, 110] then 45 else if s = [114, 101] then 46 else if s = [105, 109] then 47 else if s = [99, 111, 110, 106] then 48 else if s = [116, 105, 109, 101, 114] then 52 else 0
def wordD (expr block : List Tz → Pr (List Tw)) (n : Nat) (x : Tz) (r : List Tz) : Pr (List Tw) :=
  if x.kind = 1 ∧ plainL x.text.data.toList ≠ 0 then .ok [tw (plainL x.text.data.toList)] r false
  else if x.kind = 1 ∧ aroundL x.text.data.toList ≠ 0 then oneP expr (aroundL x.text.data.toList) r
  else if isT [91] (x :: r) then (lisP expr [93] n r).bind fun ts l1 => ofP (tw 25) ts l1
  else if isT [40] (x :: r) then (expr r).bind fun t l1 => (mustP [41] l1).bind fun _ l2 => .ok t l2 false
  else if isT [110, 117, 109] (x :: r) then (mustP [40] r).bind fun _ l1 => (expr l1).bind fun a l2 => (mustP [44] l2).bind fun _ l3 => (expr l3).bind fun b l4 => (mustP [41] l4).bind fun _ l5 => ofP (tw 41) [a, b] l5
  else if isT [102, 111, 114, 107] (x :: r) then (block r).bind fun t l1 => ofP (tw 53) [t] l1
  else if isT [116, 97, 107, 101] (x :: r) then (ownP r).bind fun s l1 => .ok [⟨56, 0, 0, s⟩] l1 false
  else if isT [99, 97, 108, 108] (x :: r) then askP expr n 50 r
  else if isT [99, 104, 105, 108, 100] (x :: r) then askP expr n 51 r
  else .bad (x :: r)
theorem isT_form (s : List UInt8) (x : Tz) (r : List Tz) : isT s (x :: r) = ((decide (x.kind = 1) || decide (x.kind = 4)) && decide (x.text.data.toList = s)) := rfl
theorem isT_kw {s : List UInt8} {x : Tz} {r : List Tz} (hg : x.kind = 4 → kwB x.text = false) (hs : s ∈ kw28) : isT s (x :: r) = decide (x.kind = 1 ∧ x.text.data.toList = s) := by
  rw [isT_form]
  by_cases h1 : x.kind = 1
  · simp [h1]
  · by_cases h4 : x.kind = 4
    · have h := hg h4
      have hne : x.text.data.toList ≠ s := by
        rintro rfl
        unfold kwB at h
        rw [decide_eq_true hs] at h
        cases h
      simp [h4, hne]
    · simp [h1, h4]
theorem wordP_doc (expr block : List Tz → Pr (List Tw)) (n : Nat) (x : Tz) (r : List Tz) (hg : x.kind = 4 → kwB x.text = false) : wordP expr block n (x :: r) = wordD expr block n x r := by
  unfold wordP wordD
  rw [isT_kw hg (show [110, 111, 110, 101] ∈ kw28 by decide), isT_kw hg (show [116, 114, 117, 101] ∈ kw28 by decide), isT_kw hg (show [102, 97, 108, 115, 101] ∈ kw28 by decide), isT_kw hg (show [118, 101, 114, 115, 105, 111, 110] ∈ kw28 by decide), isT_kw hg (show [108, 101, 110] ∈ kw28 by decide), isT_kw hg (show [114, 101] ∈ kw28 by decide), isT_kw hg (show [105, 109] ∈ kw28 by decide), isT_kw hg (show [99, 111, 110, 106] ∈ kw28 by decide), isT_kw hg (show [116, 105, 109, 101, 114] ∈ kw28 by decide)]
  rw [isT_form [91], isT_form [40]]
  unfold plainL aroundL
  simp only [List.tail_cons]
  generalize x.text.data.toList = s
  by_cases hk : x.kind = 1
  · simp only [hk, true_and, decide_true, Bool.true_or, Bool.true_and]
    by_cases h1 : s = [110, 111, 110, 101]
    · subst h1; rfl
    by_cases h2 : s = [116, 114, 117, 101]
    · subst h2; rfl
    by_cases h3 : s = [102, 97, 108, 115, 101]
    · subst h3; rfl
    by_cases h4 : s = [118, 101, 114, 115, 105, 111, 110]
    · subst h4; rfl
    by_cases h5 : s = [108, 101, 110]
    · subst h5; rfl
    by_cases h6 : s = [114, 101]
    · subst h6; rfl
    by_cases h7 : s = [105, 109]
    · subst h7; rfl
    by_cases h8 : s = [99, 111, 110, 106]
    · subst h8; rfl
    by_cases h9 : s = [116, 105, 109, 101, 114]
    · subst h9; rfl
    simp [h1, h2, h3, h4, h5, h6, h7, h8, h9]
  · simp [hk]
end Go.Proofs.YtbcadlocldplfaaGreat
namespace Go.Proofs.YtbcadlocldplfaaGreat
open Go.RowKit
def strOf (l : List UInt8) : Value := .string ⟨l.toArray⟩
def wordCells : Array Value := (kw28.map strOf).toArray
theorem words_call (w : World) :
    Calls Tryz.prog 96 #[] w fun e w' => e = .returned (.slice (some ⟨w.heap.size, 0, none⟩) 28 28) ∧ w.alloc (.cells wordCells 9) = w' := by
  go_enter Tryz.func96, Tryz.ntmps96
  go_wp2
  go_ret
  exact ⟨rfl, rfl⟩
def amongL (ss : List (List UInt8)) (k : Nat) (s : List UInt8) : Bool := (ss.take k).any fun x => x == s
theorem amongL_succ (ss : List (List UInt8)) (k : Nat) (s : List UInt8) (h : k < ss.length) : amongL ss (k + 1) s = (amongL ss k s || ss[k] == s) := by
  unfold amongL; rw [List.take_succ_eq_append_getElem h]; simp only [List.any_append, List.any_cons, List.any_nil, Bool.or_false]
theorem amongL_true (ss : List (List UInt8)) (k n : Nat) (s : List UInt8) (h : k < ss.length) (hn : k < n) (he : (ss[k] == s) = true) : amongL ss n s = true := by
  unfold amongL
  rw [List.any_eq_true]
  refine ⟨ss[k], ?_, he⟩
  rw [List.mem_take_iff_getElem]
  exact ⟨k, by omega, rfl⟩
set_option maxHeartbeats 400000 in
theorem among_any (b n cap : Nat) (ss : List (List UInt8)) (s : ByteArray) (w : World) (hlen : ss.length = n) (hn : n ≤ 1000)
    (hc : ∀ k x, ss[k]? = some x → w.cell? ⟨b, k, none⟩ = some (strOf x)) :
    Calls Tryz.prog 95 #[.slice (some ⟨b, 0, none⟩) n cap, .string s] w fun e w' => e = .returned (.bool (amongL ss n s.toList)) ∧ w = w' := by
  have HL := Lib.hid hlen
  clear hlen
  have HC := Lib.hid hc
  clear hc
  go_enter Tryz.func95, Tryz.ntmps95
  go_wp2
  go_loop [5] (fun i => ∃ k : Nat, k ≤ n ∧ i = .int .i64 k ∧ amongL ss k s.toList = false) (fun i => n - (intOf i).toNat)
  case atStart => exact ⟨0, by omega, rfl, by simp [amongL]⟩
  case round =>
    obtain ⟨k, hk, rfl, hf⟩ := hrel
    by_cases hlt : k < n
    · have hl : k < ss.length := by rw [HL.out]; exact hlt
      have hcell := HC.out k ss[k] (List.getElem?_eq_getElem hl)
      unfold strOf at hcell
      have HF := Lib.hid hf
      clear hf
      have HS := Lib.hid (amongL_succ ss k s.toList hl)
      go_wp2
      · go_ret
        exact ⟨ret_bool (amongL_true ss k n s.toList hl hlt (by assumption)).symm, rfl⟩
      · have hne : (ss[k] == s.toList) = false := by assumption
        go_round
        case rel => exact ⟨k + 1, by omega, by go_num, by rw [HS.out, HF.out, hne]; rfl⟩
        case measure => simp [intOf]; omega
    · have hkn : k = n := by omega
      have HF := Lib.hid hf
      clear hf
      go_wp2
      go_ret
      exact ⟨ret_bool (by rw [← hkn, HF.out]), rfl⟩
theorem kw28_length : kw28.length = 28 := by decide
theorem among_kw (s : List UInt8) : amongL kw28 28 s = kw s := by
  unfold amongL kw
  rw [List.take_of_length_le (by decide), Bool.eq_iff_iff]
  simp
theorem words_cell (w : World) (k : Nat) (x : List UInt8) (h : kw28[k]? = some x) : (w.alloc (.cells wordCells 9)).cell? ⟨w.heap.size, k, none⟩ = some (strOf x) := by
  have : wordCells[k]? = some (strOf x) := by
    unfold wordCells
    rw [List.getElem?_toArray, List.getElem?_map, h]; rfl
  rw [← this]
  exact World.cell?_alloc_new w _ _ _
set_option maxHeartbeats 400000 in
theorem refKeyword_any (s : ByteArray) (w : World) :
    Calls Tryz.prog 89 #[.string s] w fun e w' => e = .returned (.bool (kw s.toList)) ∧ w.alloc (.cells wordCells 9) = w' := by
  go_enter Tryz.func89, Tryz.ntmps89
  go_wp2_with fail
  refine (words_call w).mono ?_
  rintro e w' ⟨rfl, rfl⟩
  go_wp2_with fail
  refine (among_any _ _ _ kw28 s _ kw28_length (by omega) (words_cell w)).mono ?_
  rintro e w' ⟨rfl, rfl⟩
  go_wp2_with fail
  go_ret
  exact ⟨ret_bool (among_kw _), rfl⟩
def StD (w : World) (h : Nat) (L l : List Tz) (b lg : Bool) : Prop :=
  ∃ A c i, Blk w h 54 #[.slice A L.length c, .int .i64 (i : Nat), .bool b, .bool lg] ∧ RdZ w A L ∧ l = L.drop i ∧ i ≤ L.length ∧ L.length ≤ 50000 ∧ ∀ a, A = some a → a.block < h
section
variable {w w' : World} {h : Nat} {L l : List Tz} {b lg : Bool}
theorem StD.lt (hr : StD w h L l b lg) : h < w.heap.size := by
  obtain ⟨A, c, i, h1, _⟩ := hr
  exact h1.lt
theorem StD.chg {T : Nat → Prop} (hr : StD w h L l b lg) (hc : Chg T w w') (hn : ∀ k, k < w.heap.size → T k → h < k) : StD w' h L l b lg := by
  obtain ⟨A, c, i, h1, h2, h3, h4, h5, h6⟩ := hr
  refine ⟨A, c, i, h1.chg (T := fun k => k < w.heap.size ∧ T k) (hc.old (fun k a b => ⟨a, b⟩)) (fun hg => by have := hn h hg.1 hg.2; omega), h2.chg (T := fun k => k < w.heap.size ∧ T k) (hc.old (fun k a b => ⟨a, b⟩)) (fun a ha _ hk => by have := hn _ hk.1 hk.2; have := h6 a ha; omega), h3, h4, h5, h6⟩
theorem StD.below (hr : StD w h L l b lg) (hb : Below w.heap.size w w') : StD w' h L l b lg := hr.chg (T := fun _ => False) (.of_below hb) (fun _ _ h => h.elim)
theorem StD.drewN (hr : StD w h L l b lg) (n : Nat) : StD (w.drewN n) h L l b lg := hr.below (below_drewN (Below.refl _ _) n)
theorem StD.len (hr : StD w h L l b lg) : l.length ≤ 50000 := by
  obtain ⟨A, c, i, h1, h2, h3, h4, h5, h6⟩ := hr
  rw [h3, List.length_drop]
  omega
theorem StD.bad_cell (hr : StD w h L l b lg) : w.cell? ⟨h, 2, none⟩ = some (.bool b) := by
  obtain ⟨A, c, i, h1, _⟩ := hr
  exact h1.cell 2
theorem StD.none_ (hr : StD w h L [] b lg) : ∃ A c n, w.cell? ⟨h, 0, none⟩ = some (.slice A n c) ∧ w.cell? ⟨h, 1, none⟩ = some (.int .i64 (n : Nat)) ∧ n ≤ 50000 := by
  obtain ⟨A, c, i, h1, h2, h3, h4, h5, h6⟩ := hr
  have : i = L.length := by
    have := congrArg List.length h3
    rw [List.length_drop, List.length_nil] at this
    omega
  subst this
  exact ⟨A, c, _, h1.cell 0, h1.cell 1, h5⟩
theorem StD.head {x : Tz} {r : List Tz} (hr : StD w h L (x :: r) b lg) : ∃ bk off c n i, w.cell? ⟨h, 0, none⟩ = some (.slice (some ⟨bk, off, none⟩) n c) ∧ w.cell? ⟨h, 1, none⟩ = some (.int .i64 (i : Nat)) ∧ i < n ∧ n ≤ 50000 ∧
    w.cell? ⟨bk, off + i * 4, none⟩ = some (.int .u8 (x.kind : Nat)) ∧ w.cell? ⟨bk, off + i * 4 + 1, none⟩ = some (.string x.text) ∧ w.cell? ⟨bk, off + i * 4 + 2, none⟩ = some (.int .i64 x.int) ∧ w.cell? ⟨bk, off + i * 4 + 3, none⟩ = some (.int .i64 (x.at_ : Nat)) := by
  obtain ⟨A, c, i, h1, h2, h3, h4, h5, h6⟩ := hr
  have hx : L[i]? = some x := by
    have := congrArg (·[0]?) h3
    simp only [List.getElem?_cons_zero, List.getElem?_drop, Nat.add_zero] at this
    exact this.symm
  have hi : i < L.length := (List.getElem?_eq_some_iff.1 hx).1
  rcases h2 with h2 | ⟨bk, off, rfl, hb, hat⟩
  · rw [h2] at hi; cases hi
  · have key := fun j v hv => hat i x hx j v hv
    exact ⟨bk, off, c, _, i, h1.cell 0, h1.cell 1, hi, h5, key 0 _ rfl, key 1 _ rfl, key 2 _ rfl, key 3 _ rfl⟩
theorem StD.spoil (hr : StD w h L l b lg) : StD (w.setCell ⟨h, 2, none⟩ (.bool true)) h L l true lg ∧ w.frozen? ⟨h, 2, none⟩ = false := by
  obtain ⟨A, c, i, h1, h2, h3, h4, h5, h6⟩ := hr
  refine ⟨⟨A, c, i, by have := h1.set_ 2 (.bool true); simpa using this, h2.chg (chg_self w h 2 _) (fun a ha _ hk => Nat.ne_of_lt (h6 a ha) hk), h3, h4, h5, h6⟩, h1.frozen 2⟩
theorem StD.long (hr : StD w h L l b lg) : StD (w.setCell ⟨h, 3, none⟩ (.bool true)) h L l b true ∧ w.frozen? ⟨h, 3, none⟩ = false ∧ w.cell? ⟨h, 3, none⟩ = some (.bool lg) := by
  obtain ⟨A, c, i, h1, h2, h3, h4, h5, h6⟩ := hr
  refine ⟨⟨A, c, i, by have := h1.set_ 3 (.bool true); simpa using this, h2.chg (chg_self w h 3 _) (fun a ha _ hk => Nat.ne_of_lt (h6 a ha) hk), h3, h4, h5, h6⟩, h1.frozen 3, h1.cell 3⟩
theorem StD.pass {x : Tz} {r : List Tz} (hr : StD w h L (x :: r) b lg) : ∃ i : Nat, w.cell? ⟨h, 1, none⟩ = some (.int .i64 (i : Nat)) ∧ i < 50000 ∧ w.frozen? ⟨h, 1, none⟩ = false ∧ StD (w.setCell ⟨h, 1, none⟩ (.int .i64 ((i : Int) + 1))) h L r b lg := by
  obtain ⟨A, c, i, h1, h2, h3, h4, h5, h6⟩ := hr
  have hl := congrArg List.length h3
  rw [List.length_cons, List.length_drop] at hl
  refine ⟨i, h1.cell 1, by omega, h1.frozen 1, A, c, i + 1, ?_, h2.chg (chg_self w h 1 _) (fun a ha _ hk => Nat.ne_of_lt (h6 a ha) hk), ?_, by omega, h5, h6⟩
  · have := h1.set_ 1 (.int .i64 ((i : Int) + 1))
    simpa using this
  · rw [← List.drop_drop, ← h3]
    rfl
end
def Look (w : World) (h : Nat) (L l : List Tz) (b lg v : Bool) (e : Ending) (w' : World) : Prop := e = .returned (.bool v) ∧ StD w' h L l b lg ∧ Chg (fun k => k = h) w w'
theorem isT_text (s : List UInt8) (kd : Nat) (tx : ByteArray) (iv : Int) (pl : Nat) (r : List Tz) : isT s (⟨kd, tx, iv, pl⟩ :: r) = ((decide (kd = 1) || decide (kd = 4)) && (tx.toList == (bs s).toList)) := by
  unfold isT
  show ((decide (kd = 1) || decide (kd = 4)) && decide (tx.data.toList = s)) = _
  congr 1
  rw [ByteArray.toList_eq, ByteArray.toList_eq]
  exact (Bool.beq_eq_decide_eq _ _).symm
set_option maxRecDepth 100000 in
set_option maxHeartbeats 4000000 in
theorem dis_any (s : List UInt8) (h : Nat) (L l : List Tz) (b lg : Bool) (w : World) (hr : StD w h L l b lg) :
    Calls Tryz.prog 71 #[gp h, .string (bs s)] w (Look w h L l b lg (!b && isT s l)) := by
  have HR := Lib.hid hr
  have k2 := hr.bad_cell
  have DN : Hid (∀ n, StD (w.drewN n) h L l b lg ∧ Chg (fun k => k = h) w (w.drewN n)) := fun n => ⟨HR.out.drewN n, (Chg.refl _ _).drewN n⟩
  cases b with
  | true =>
    clear hr
    go_enter Tryz.func71, Tryz.ntmps71
    go_wp2_with fail
    go_quiet (fail)
    go_wp2_with fail
    go_ret
    exact ⟨rfl, DN.out nq⟩
  | false =>
    cases l with
    | nil =>
      obtain ⟨A, c, n, k0, k1, hn⟩ := hr.none_
      have d0 : decide ((n : Int) < (n : Int)) = false := by simp
      clear hr
      go_enter Tryz.func71, Tryz.ntmps71
      go_wp2_with fail
      go_quiet (fail)
      go_wp2_with fail
      go_ret
      exact ⟨rfl, DN.out nq⟩
    | cons x r =>
      obtain ⟨bk, off, c, n, i, k0, k1, hi, hn, c0, c1, _, _⟩ := hr.head
      obtain ⟨kd, tx, iv, pl⟩ := x
      dsimp only at c0 c1
      have HT := Lib.hid (isT_text s kd tx iv pl r)
      obtain ⟨R, hR⟩ : ∃ R, R = isT s (⟨kd, tx, iv, pl⟩ :: r) := ⟨_, rfl⟩
      rw [← hR] at HT ⊢
      obtain ⟨sb, hsb⟩ : ∃ z, z = bs s := ⟨_, rfl⟩
      rw [← hsb] at HT ⊢
      have d0 : decide ((i : Int) < (n : Int)) = true := decide_eq_true (by omega)
      have i0 : (0 : Int) ≤ (i : Int) := by omega
      clear hR hsb hr
      by_cases h1 : kd = 1
      · have m1 : ((kd : Int) == 1) = true := by simp [h1]
        have HX : Hid (R = (tx.toList == sb.toList)) := Lib.hid (by rw [HT.out, decide_eq_true h1]; rfl)
        clear h1
        go_enter Tryz.func71, Tryz.ntmps71
        go_wp2_with fail
        go_quiet (fail)
        go_wp2_with fail
        go_ret
        exact ⟨by rw [HX.out]; rfl, DN.out nq⟩
      · have m1 : ((kd : Int) == 1) = false := by simp; omega
        by_cases h4 : kd = 4
        · have m4 : ((kd : Int) == 4) = true := by simp [h4]
          have HX : Hid (R = (tx.toList == sb.toList)) := Lib.hid (by rw [HT.out, decide_eq_true h4, Bool.or_true]; rfl)
          clear h1 h4
          go_enter Tryz.func71, Tryz.ntmps71
          go_wp2_with fail
          go_quiet (fail)
          go_wp2_with fail
          go_ret
          exact ⟨by rw [HX.out]; rfl, DN.out nq⟩
        · have m4 : ((kd : Int) == 4) = false := by simp; omega
          have HX : Hid (R = false) := Lib.hid (by rw [HT.out, decide_eq_false h1, decide_eq_false h4]; rfl)
          clear h1 h4
          go_enter Tryz.func71, Tryz.ntmps71
          go_wp2_with fail
          go_quiet (fail)
          go_wp2_with fail
          go_ret
          exact ⟨by rw [HX.out]; rfl, DN.out nq⟩
def DHas (w : World) (h : Nat) (L l : List Tz) (b lg v : Bool) (e : Ending) (w' : World) : Prop := e = .returned (.bool v) ∧ StD w' h L (if v then l.tail else l) b lg ∧ Chg (fun k => k = h) w w'
set_option maxRecDepth 100000 in
theorem dhas_any (s : List UInt8) (h : Nat) (L l : List Tz) (b lg : Bool) (w : World) (hr : StD w h L l b lg) :
    Calls Tryz.prog 44 #[gp h, .string (bs s)] w (DHas w h L l b lg (!b && isT s l)) := by
  have HI := Lib.hid (dis_any s h L l b lg w hr)
  obtain ⟨v, hv⟩ : ∃ v, v = (!b && isT s l) := ⟨_, rfl⟩
  have HV := Lib.hid hv
  rw [← hv] at HI ⊢
  clear hv hr
  go_enter Tryz.func44, Tryz.ntmps44
  go_wp2_with fail
  refine HI.out.mono ?_
  rintro e w1 ⟨rfl, hr1, hc1⟩
  have HC := Lib.hid hc1
  cases v with
  | false =>
    have HR := Lib.hid hr1
    clear hr1 hc1
    go_wp2_with fail
    go_ret
    exact ⟨rfl, HR.out, HC.out⟩
  | true =>
    cases l with
    | nil =>
      have := HV.out
      rw [show isT s [] = false from rfl, Bool.and_false] at this
      cases this
    | cons x r =>
      obtain ⟨i, k1, hi, f1, hp⟩ := hr1.pass
      have HP := Lib.hid (And.intro hp (hc1.trans (chg_self w1 h 1 (.int .i64 ((i : Int) + 1)))))
      clear hp hr1 hc1 HC
      go_wp2_with fail
      go_ret
      exact ⟨rfl, HP.out.1, HP.out.2⟩
def Says {α : Type} (r : Pr α) (a : α) (b : Bool) (l : List Tz) (m : Bool) : Prop := (b = true ∧ r = .bad l) ∨ (b = false ∧ r = .ok a l m)
def onB {α : Type} (b : Bool) (l : List Tz) (r : Pr α) : Pr α := if b then .bad l else r
def DMust (w : World) (h : Nat) (L l : List Tz) (b lg : Bool) (r : Pr Unit) (e : Ending) (w' : World) : Prop :=
  e = .returned (.tuple #[]) ∧ ∃ l' b', StD w' h L l' b' lg ∧ Chg (fun k => k = h) w w' ∧ Says (onB b l r) () b' l' false
set_option maxRecDepth 100000 in
theorem dmust_any (s : List UInt8) (h : Nat) (L l : List Tz) (b lg : Bool) (w : World) (hr : StD w h L l b lg) :
    Calls Tryz.prog 42 #[gp h, .string (bs s)] w (DMust w h L l b lg (mustP s l)) := by
  have HI := Lib.hid (dhas_any s h L l b lg w hr)
  obtain ⟨v, hv⟩ : ∃ v, v = (!b && isT s l) := ⟨_, rfl⟩
  have HV := Lib.hid hv
  rw [← hv] at HI
  clear hv hr
  go_enter Tryz.func42, Tryz.ntmps42
  go_wp2_with fail
  refine HI.out.mono ?_
  rintro e w1 ⟨rfl, hr1, hc1⟩
  cases v with
  | true =>
    have HR := Lib.hid (And.intro hr1 hc1)
    clear hr1 hc1
    go_wp2_with fail
    go_end0
    refine ⟨rfl, l.tail, b, HR.out.1, HR.out.2, ?_⟩
    have := HV.out.symm
    simp only [Bool.and_eq_true, Bool.not_eq_true'] at this
    exact .inr ⟨this.1, by unfold onB; rw [this.1, mustP_true this.2]; rfl⟩
  | false =>
    obtain ⟨hs, f2⟩ := StD.spoil hr1
    have k2 := hr1.bad_cell
    have HP := Lib.hid (And.intro hs (hc1.trans (chg_self w1 h 2 (.bool true))))
    clear hs hr1 hc1
    go_wp2_with fail
    go_end0
    refine ⟨rfl, l, true, HP.out.1, HP.out.2, .inl ⟨rfl, ?_⟩⟩
    unfold onB
    cases b with
    | true => rfl
    | false =>
      have := HV.out
      rw [Bool.not_false, Bool.true_and] at this
      rw [if_neg (by simp), mustP_false this.symm]
set_option maxRecDepth 100000 in
set_option maxHeartbeats 8000000 in
theorem dmine_any (h : Nat) (L l : List Tz) (b lg : Bool) (w : World) (hr : StD w h L l b lg) :
    Calls Tryz.prog 70 #[gp h] w (Look w h L l b lg (!b && mineT l)) := by
  have HR := Lib.hid hr
  have k2 := hr.bad_cell
  have DN : Hid (∀ n, StD (w.drewN n) h L l b lg ∧ Chg (fun k => k = h) w (w.drewN n)) := fun n => ⟨HR.out.drewN n, (Chg.refl _ _).drewN n⟩
  cases b with
  | true =>
    clear hr
    go_enter Tryz.func70, Tryz.ntmps70
    go_wp2_with fail
    go_quiet (fail)
    go_wp2_with fail
    go_ret
    exact ⟨rfl, DN.out nq⟩
  | false =>
    cases l with
    | nil =>
      obtain ⟨A, c, n, k0, k1, hn⟩ := hr.none_
      have d0 : decide ((n : Int) < (n : Int)) = false := by simp
      clear hr
      go_enter Tryz.func70, Tryz.ntmps70
      go_wp2_with fail
      go_quiet (fail)
      go_wp2_with fail
      go_ret
      exact ⟨rfl, DN.out nq⟩
    | cons x r =>
      obtain ⟨bk, off, c, n, i, k0, k1, hi, hn, c0, c1, _, _⟩ := hr.head
      have hlt := hr.lt
      obtain ⟨kd, tx, iv, pl⟩ := x
      dsimp only at c0 c1
      have HT : Hid (mineT (⟨kd, tx, iv, pl⟩ :: r) = (decide (kd = 1) && !kw tx.toList)) := Lib.hid (by rw [kw_kwB]; rfl)
      obtain ⟨R, hR⟩ : ∃ R, R = mineT (⟨kd, tx, iv, pl⟩ :: r) := ⟨_, rfl⟩
      rw [← hR] at HT ⊢
      have d0 : decide ((i : Int) < (n : Int)) = true := decide_eq_true (by omega)
      have i0 : (0 : Int) ≤ (i : Int) := by omega
      clear hR hr
      by_cases h1 : kd = 1
      · have m1 : ((kd : Int) == 1) = true := by simp [h1]
        have HX : Hid (R = !kw tx.toList) := Lib.hid (by rw [HT.out, decide_eq_true h1]; rfl)
        have HK := Lib.hid (fun W => refKeyword_any tx W)
        obtain ⟨K, hK⟩ : ∃ K, K = kw tx.toList := ⟨_, rfl⟩
        rw [← hK] at HX HK
        have HBL : Hid (∀ W, Below w.heap.size w W → StD W h L (⟨kd, tx, iv, pl⟩ :: r) false lg ∧ Chg (fun k => k = h) w W) := fun W hb => ⟨HR.out.below hb, .of_below hb⟩
        have hb0 : bk < w.heap.size := by
          rcases Nat.lt_or_ge bk w.heap.size with hh | hh
          · exact hh
          · unfold World.cell? at c0
            rw [Array.getElem?_eq_none hh] at c0
            cases c0
        have q0 : ∀ n' : Over w.heap.size w, n'.at.cell? ⟨h, 0, none⟩ = some (.slice (some ⟨bk, off, none⟩) n c) := fun n' => (n'.cell hlt).trans k0
        have q1 : ∀ n' : Over w.heap.size w, n'.at.cell? ⟨h, 1, none⟩ = some (.int .i64 (i : Nat)) := fun n' => (n'.cell hlt).trans k1
        have q2 : ∀ n' : Over w.heap.size w, n'.at.cell? ⟨h, 2, none⟩ = some (.bool false) := fun n' => (n'.cell hlt).trans k2
        have q3 : ∀ n' : Over w.heap.size w, n'.at.cell? ⟨bk, off + i * 4, none⟩ = some (.int .u8 (kd : Nat)) := fun n' => (n'.cell hb0).trans c0
        have q4 : ∀ n' : Over w.heap.size w, n'.at.cell? ⟨bk, off + i * 4 + 1, none⟩ = some (.string tx) := fun n' => (n'.cell hb0).trans c1
        clear h1 hK k0 k1 k2 c0 c1 HR DN
        go_enter Tryz.func70, Tryz.ntmps70
        go_wp2_with fail
        refine wp_region_over (B := w.heap.size) (by kernel_rfl) (by kernel_rfl) ?_
        repeat (go_big_quiet_step (exact Calls.over (Over.size _) ((HK.out _).mono fun e w' hh => ⟨hh.1, by rw [← hh.2]; exact (Below.refl _ _).alloc (Nat.le_refl _) _⟩)))
        refine wpQuiet_nil ?_
        rintro _ ⟨nq, rfl⟩
        have HB := Lib.hid (HBL.out _ nq.bel)
        go_wp2_with fail
        go_ret
        exact ⟨by rw [HX.out]; rfl, HB.out⟩
      · have m1 : ((kd : Int) == 1) = false := by simp; omega
        have HX : Hid (R = false) := Lib.hid (by rw [HT.out, decide_eq_false h1]; rfl)
        clear h1
        go_enter Tryz.func70, Tryz.ntmps70
        go_wp2_with fail
        go_quiet (fail)
        go_wp2_with fail
        go_ret
        exact ⟨by rw [HX.out]; rfl, DN.out nq⟩
def DOwn (w : World) (h : Nat) (L l : List Tz) (b lg : Bool) (r : Pr ByteArray) (e : Ending) (w' : World) : Prop :=
  ∃ s l' b', e = .returned (.string s) ∧ StD w' h L l' b' lg ∧ Chg (fun k => k = h) w w' ∧ Says (onB b l r) s b' l' false
set_option maxRecDepth 100000 in
set_option maxHeartbeats 4000000 in
theorem down_any (h : Nat) (L l : List Tz) (b lg : Bool) (w : World) (hr : StD w h L l b lg) :
    Calls Tryz.prog 43 #[gp h] w (DOwn w h L l b lg (ownP l)) := by
  have HI := Lib.hid (dmine_any h L l b lg w hr)
  obtain ⟨v, hv⟩ : ∃ v, v = (!b && mineT l) := ⟨_, rfl⟩
  have HV := Lib.hid hv
  rw [← hv] at HI
  clear hv hr
  cases v with
  | false =>
    go_enter Tryz.func43, Tryz.ntmps43
    go_wp2_with fail
    refine HI.out.mono ?_
    rintro e w1 ⟨rfl, hr1, hc1⟩
    obtain ⟨hs, f2⟩ := StD.spoil hr1
    have k2 := hr1.bad_cell
    have HP := Lib.hid (And.intro hs (hc1.trans (chg_self w1 h 2 (.bool true))))
    clear hs hr1 hc1
    go_wp2_with fail
    go_ret
    refine ⟨_, l, true, rfl, HP.out.1, HP.out.2, .inl ⟨rfl, ?_⟩⟩
    unfold onB
    cases b with
    | true => rfl
    | false =>
      have := HV.out
      rw [Bool.not_false, Bool.true_and] at this
      rw [if_neg (by simp)]
      unfold ownP
      rw [← this]
      rfl
  | true =>
    have hvv := HV.out.symm
    simp only [Bool.and_eq_true, Bool.not_eq_true'] at hvv
    obtain ⟨rfl, hm⟩ := hvv
    cases l with
    | nil => cases hm
    | cons x r =>
      have HO : Hid (ownP (x :: r) = .ok x.text r false) := Lib.hid (by unfold ownP; rw [hm]; rfl)
      clear hm
      go_enter Tryz.func43, Tryz.ntmps43
      go_wp2_with fail
      refine HI.out.mono ?_
      rintro e w1 ⟨rfl, hr1, hc1⟩
      have hlt := hr1.lt
      obtain ⟨bk, off, c, n, i, k0, k1, hi, hn, c0, c1, _, _⟩ := hr1.head
      obtain ⟨i', k1', hi', f1, hp⟩ := hr1.pass
      have e1 : i' = i := by
        rw [k1] at k1'
        injection k1' with e1
        injection e1 with _ e1
        omega
      subst e1
      have hne : bk ≠ h := by
        obtain ⟨A, c', i2, h1, h2, h3, h4, h5, h6⟩ := hr1
        have hh := h1.cell 0
        rw [k0] at hh
        have hh2 : Value.slice (some ⟨bk, off, none⟩) n c = .slice A L.length c' := Option.some.inj hh
        injection hh2 with e1 e2 e3
        have := h6 _ e1.symm
        exact Nat.ne_of_lt this
      obtain ⟨tx, htx⟩ : ∃ z, z = x.text := ⟨_, rfl⟩
      rw [← htx] at c1 HO
      have HP := Lib.hid (And.intro hp (hc1.trans (chg_self w1 h 1 (.int .i64 ((i' : Int) + 1)))))
      have Q := Lib.hid (show (w1.setCell ⟨h, 1, none⟩ (.int .i64 ((i' : Int) + 1))).cell? ⟨h, 0, none⟩ = some (.slice (some ⟨bk, off, none⟩) n c) ∧ (w1.setCell ⟨h, 1, none⟩ (.int .i64 ((i' : Int) + 1))).cell? ⟨h, 1, none⟩ = some (.int .i64 ((i' : Int) + 1)) ∧ (w1.setCell ⟨h, 1, none⟩ (.int .i64 ((i' : Int) + 1))).cell? ⟨bk, off + i' * 4 + 1, none⟩ = some (.string tx) from by
        obtain ⟨A, c', i2, h1, _⟩ := hr1
        refine ⟨?_, ?_, ?_⟩
        · exact (World.cell?_setCell_other _ _ _ _ (fun e => by simp at e)).trans k0
        · have h2 := (h1.set_ 1 (.int .i64 ((i' : Int) + 1))).cell 1
          simpa using h2
        · exact (World.cell?_setCell_other _ _ _ _ (fun e => hne (by simpa using (congrArg Addr.block e).symm))).trans c1)
      clear hp hr1 hc1 htx c0 k1 hne c1
      go_upto_region 5 with fail
      generalize w1.setCell ⟨h, 1, none⟩ (.int .i64 ((i' : Int) + 1)) = w2 at *
      obtain ⟨q0, q1, q2⟩ := Q.out
      have hj : ((i' : Int) + 1) - 1 = (i' : Int) := by omega
      have i0 : (0 : Int) ≤ (i' : Int) := by omega
      have i1 : (i' : Int) < (n : Int) := by omega
      obtain ⟨j, hjj⟩ : ∃ j, j = (i' : Int) + 1 := ⟨_, rfl⟩
      rw [← hjj] at hj q1
      clear hjj k0 k1' f1
      go_wp2_with fail
      go_quiet (fail)
      go_wp2_with fail
      go_ret
      exact ⟨_, r, false, rfl, HP.out.1.drewN nq, HP.out.2.drewN nq, .inr ⟨rfl, by unfold onB; rw [HO.out]; rfl⟩⟩
theorem wp_app_tw {o : Oper} {a : Act} {W : World} {K : Act → World → Prop} {Q : Exit → Act → World → Prop} (sl x : Operand)
    (ho : o.op = .call { callee := .builtin .append, args := #[sl, x], argTypes := #[23, 23] }) (base n c m d : Nat) (A B : Option Addr) (t u : List Tw)
    (hs : a.eval sl = .slice A n c) (hown : W.ownsRow base 29 4 (.slice A n c) n (rowOf twcell t)) (hx : a.eval x = .slice B m d) (hm : m = u.length) (hr : RdL twcell 4 W B u) (hn : n + m ≤ 1000000) (hb : base ≤ W.heap.size)
    (h : ∀ A' c' W', W'.ownsRow base 29 4 (.slice A' (n + m) c') (n + m) (rowOf twcell (t ++ u)) → W.grownBy W' (Value.slice A n c).ownBlock → K (a.put o.dst (.slice A' (n + m) c')) W') :
    o.wp Tryz.prog a W K Q := by
  obtain ⟨i0, hi0, hz0, hz1, hz2⟩ := info_parts Tryz.info29
  refine wp_append_any _ sl x 23 ho base 29 i0 (.agg #[.int .u8 0, .int .i64 0, .int .i64 0, .string ⟨#[]⟩]) 4 40 Tryz.underlying23 hi0 hz0 hz1 hz2 rfl (by decide) (.slice A n c) n (rowOf twcell t) hs hown W.heap.size B m d (rowOf twcell u) hx (by rw [hm]; exact hr.reads twcell_len) (rowOf_one twcell_one u) (by unfold maxLen; omega) (by omega) hb ?_
  intro v3 w3 ho3 hg3 hown3
  obtain ⟨A3, c3, rfl, _⟩ := own_form ho3
  exact h A3 c3 w3 (by rw [rowOf_append]; exact ho3) hg3
theorem wpList_app_tw {ops : Array Oper} {rest : List Oper} {o : Oper} {a : Act} {W : World} {Q : Exit → Act → World → Prop} (hgd : o.guard = none) (sl x : Operand)
    (ho : o.op = .call { callee := .builtin .append, args := #[sl, x], argTypes := #[23, 23] }) (base n c m d : Nat) (A B : Option Addr) (t u : List Tw)
    (hs : a.eval sl = .slice A n c) (hown : W.ownsRow base 29 4 (.slice A n c) n (rowOf twcell t)) (hx : a.eval x = .slice B m d) (hm : m = u.length) (hr : RdL twcell 4 W B u) (hn : n + m ≤ 1000000) (hb : base ≤ W.heap.size)
    (h : ∀ A' c' W', W'.ownsRow base 29 4 (.slice A' (n + m) c') (n + m) (rowOf twcell (t ++ u)) → W.grownBy W' (Value.slice A n c).ownBlock → wpList Tryz.prog ops Q rest (a.put o.dst (.slice A' (n + m) c')) W') :
    wpList Tryz.prog ops Q (o :: rest) a W :=
  wpList_plain hgd fun _ hK => wp_app_tw sl x ho base n c m d A B t u hs hown hx hm hr hn hb fun A' c' W' h1 h2 => hK _ _ (h A' c' W' h1 h2)
def topT (x : Tw) (nk : Int) (t : List Tw) : List Tw := if 2048 ≤ t.length then [⟨x.op, nk, x.int, x.text⟩] else ⟨x.op, nk, x.int, x.text⟩ :: t
theorem topT_len (x : Tw) (nk : Int) (t : List Tw) : (topT x nk t).length ≤ 2048 := by
  unfold topT
  split
  · simp
  · rw [List.length_cons]; omega
def DTop (w : World) (h : Nat) (L l : List Tz) (b lg : Bool) (x : Tw) (nk : Int) (t : List Tw) (e : Ending) (w' : World) : Prop :=
  Chg (fun k => k = h) w w' ∧ ∃ A' c', e = .returned (.slice A' (topT x nk t).length c') ∧ w'.ownsRow w.heap.size 29 4 (.slice A' (topT x nk t).length c') (topT x nk t).length (rowOf twcell (topT x nk t)) ∧ StD w' h L l b (lg || decide (2048 ≤ t.length))
set_option maxRecDepth 100000 in
set_option maxHeartbeats 8000000 in
theorem dtop_any (x : Tw) (nk : Int) (h : Nat) (L l : List Tz) (b lg : Bool) (A : Option Addr) (tl c : Nat) (t : List Tw) (w : World) (hr : StD w h L l b lg) (hrd : RdL twcell 4 w A t) (htl : tl = t.length) (hbig : tl ≤ 500000) :
    Calls Tryz.prog 46 #[gp h, .agg #[.int .u8 (x.op : Nat), .int .i64 x.kids, .int .i64 x.int, .string x.text], .int .i64 nk, .slice A tl c] w (DTop w h L l b lg x nk t) := by
  obtain ⟨op, kd0, iv, tx⟩ := x
  dsimp only
  have HH := Lib.hid (And.intro hr (And.intro hrd htl))
  have hlt := hr.lt
  clear hr hrd htl
  obtain ⟨b4, hb4⟩ : ∃ b, b = w.heap.size := ⟨_, rfl⟩
  have H1 : Hid (Blk (w.alloc (.cells #[.int .u8 (op : Nat), .int .i64 kd0, .int .i64 iv, .string tx] 29)) b4 29 #[.int .u8 (op : Nat), .int .i64 kd0, .int .i64 iv, .string tx] ∧ Below w.heap.size w (w.alloc (.cells #[.int .u8 (op : Nat), .int .i64 kd0, .int .i64 iv, .string tx] 29)) ∧ w.heap.size ≤ b4) := Lib.hid ⟨by rw [hb4]; exact Blk.new w _ _, (Below.refl _ _).alloc (Nat.le_refl _) _, by omega⟩
  go_enter Tryz.func46, Tryz.ntmps46
  go_upto_region 1 with fail
  rw [← hb4]
  clear hb4
  generalize w.alloc (.cells #[.int .u8 (op : Nat), .int .i64 kd0, .int .i64 iv, .string tx] 29) = w1 at *
  have f1 : w1.frozen? ⟨b4, 1, none⟩ = false := H1.out.1.frozen 1
  have c1 : w1.cell? ⟨b4, 1, none⟩ = some (.int .i64 kd0) := H1.out.1.cell 1
  have H2 : Hid (Blk (w1.setCell ⟨b4, 1, none⟩ (.int .i64 nk)) b4 29 #[.int .u8 (op : Nat), .int .i64 nk, .int .i64 iv, .string tx] ∧ Below w.heap.size w (w1.setCell ⟨b4, 1, none⟩ (.int .i64 nk)) ∧ b4 ≠ h) := Lib.hid ⟨by
    have h1 := H1.out.1.set_ 1 (.int .i64 nk)
    simpa using h1, H1.out.2.1.setCell (p := ⟨b4, 1, none⟩) H1.out.2.2 _, by have := H1.out.2.2; omega⟩
  go_upto_region 2 with fail
  generalize w1.setCell ⟨b4, 1, none⟩ (.int .i64 nk) = w2 at *
  clear f1 c1 H1
  by_cases h48 : 2048 ≤ tl
  · have d1 : decide ((tl : Int) ≥ 2048) = true := decide_eq_true (by omega)
    have d2 : decide (2048 ≤ tl) = true := decide_eq_true h48
    obtain ⟨hl1, f3, c3⟩ := (HH.out.1.below H2.out.2.1).long
    have H3 := Lib.hid (And.intro hl1 (And.intro (Blk.far (p := ⟨h, 3, none⟩) H2.out.1 H2.out.2.2 (.bool true)) ((Chg.of_below H2.out.2.1).trans (chg_self w2 h 3 (.bool true)))))
    clear hl1
    go_upto_region 4 with fail
    generalize w2.setCell ⟨h, 3, none⟩ (.bool true) = w3 at *
    clear f3 c3 H2
    go_wp2_with (refine wpList_load_row rfl 29 (.tmp 5) rfl b4 rfl 29 #[.int .u8 (op : Nat), .int .i64 nk, .int .i64 iv, .string tx] (0, 0) _ H3.out.2.1 Tryz.underlying29 rfl (by kernel_rfl) ?_)
    go_ret
    have e1 : topT ⟨op, kd0, iv, tx⟩ nk t = [⟨op, nk, iv, tx⟩] := if_pos (by rw [← HH.out.2.2]; exact h48)
    have e2 : decide (2048 ≤ t.length) = true := decide_eq_true (by rw [← HH.out.2.2]; exact h48)
    refine ⟨H3.out.2.2.alloc _, _, 1, by rw [e1]; rfl, ?_, ?_⟩
    · rw [e1]
      exact World.ownsRow_lit w3 #[.int .u8 (op : Nat), .int .i64 nk, .int .i64 iv, .string tx] 1 H3.out.2.2.size (by unfold maxLen; omega) rfl
    · rw [e2, Bool.or_true]
      exact H3.out.1.below ((Below.refl _ _).alloc (Nat.le_refl _) _)
  · have d1 : decide ((tl : Int) ≥ 2048) = false := decide_eq_false (by omega)
    have d2 : decide (2048 ≤ tl) = false := decide_eq_false h48
    have hb5 : Below w.heap.size w (w2.alloc (.cells #[.int .u8 (op : Nat), .int .i64 nk, .int .i64 iv, .string tx] 29)) := H2.out.2.1.alloc H2.out.2.1.size _
    have H3 : Hid ((w2.alloc (.cells #[.int .u8 (op : Nat), .int .i64 nk, .int .i64 iv, .string tx] 29)).ownsRow w.heap.size 29 4 (.slice (some ⟨w2.heap.size, 0, none⟩) 1 1) 1 (rowOf twcell [⟨op, nk, iv, tx⟩]) ∧ Below w.heap.size w (w2.alloc (.cells #[.int .u8 (op : Nat), .int .i64 nk, .int .i64 iv, .string tx] 29)) ∧ RdL twcell 4 (w2.alloc (.cells #[.int .u8 (op : Nat), .int .i64 nk, .int .i64 iv, .string tx] 29)) A t) := Lib.hid ⟨World.ownsRow_lit w2 #[.int .u8 (op : Nat), .int .i64 nk, .int .i64 iv, .string tx] 1 H2.out.2.1.size (by unfold maxLen; omega) rfl, hb5, HH.out.2.1.below hb5⟩
    clear hb5
    go_wp2_with (first
      | (refine wpList_load_row rfl 29 (.tmp 5) rfl b4 rfl 29 #[.int .u8 (op : Nat), .int .i64 nk, .int .i64 iv, .string tx] (0, 0) _ H2.out.1 Tryz.underlying29 rfl (by kernel_rfl) ?_)
      | (at_builtin; refine wpList_app_tw rfl (.tmp 20) (.tmp 21) rfl w.heap.size 1 1 tl c (some ⟨w2.heap.size, 0, none⟩) A [⟨op, nk, iv, tx⟩] t rfl H3.out.1 rfl HH.out.2.2 H3.out.2.2 (by omega) H3.out.2.1.size ?_; intro A9 c9 w9 ho9 hg9; have HO9 := Lib.hid (And.intro ho9 hg9); clear ho9 hg9))
    go_ret
    have e1 : topT ⟨op, kd0, iv, tx⟩ nk t = ⟨op, nk, iv, tx⟩ :: t := if_neg (by rw [← HH.out.2.2]; exact h48)
    have e2 : decide (2048 ≤ t.length) = false := decide_eq_false (by rw [← HH.out.2.2]; exact h48)
    have e3 : (⟨op, nk, iv, tx⟩ :: t : List Tw).length = 1 + tl := by rw [List.length_cons, HH.out.2.2]; omega
    have hbw : Below w.heap.size w w9 := H3.out.2.1.grown HO9.out.2 H3.out.2.1.size (fun gg hgg => (World.ownsRow.lt H3.out.1 gg hgg).1)
    refine ⟨.of_below hbw, A9, c9, by rw [e1, e3]; rfl, ?_, ?_⟩
    · rw [e1, e3]
      exact HO9.out.1
    · rw [e2, Bool.or_false]
      exact HH.out.1.below hbw
structure Sd (w : World) (h : Nat) (L : List Tz) (lg : Bool) (wk : World) (l : List Tz) (b M : Bool) : Prop where
  chg : Chg (fun k => k = h) w wk
  rd : StD wk h L l b (lg || M)
  lt : h < w.heap.size
structure Od (w wk : World) (A : Option Addr) (n c : Nat) (t : List Tw) : Prop where
  len : n = t.length
  own : wk.ownsRow w.heap.size 29 4 (.slice A n c) n (rowOf twcell t)
def DPost (w : World) (h : Nat) (L : List Tz) (lg : Bool) (R : Pr (List Tw)) (e : Ending) (w' : World) : Prop :=
  ∃ t l b m A n c, e = .returned (.slice A n c) ∧ t.length ≤ 2048 ∧ Od w w' A n c t ∧ Sd w h L lg w' l b m ∧ Says R t b l m
section
variable {w wk wn : World} {h : Nat} {L l : List Tz} {lg b M : Bool}
theorem Sd.start (hr : StD w h L l b lg) : Sd w h L lg w l b false := ⟨Chg.refl _ _, by rw [Bool.or_false]; exact hr, hr.lt⟩
theorem Od.chg {A : Option Addr} {n c : Nat} {t : List Tw} (ho : Od w wk A n c t) (hc : Chg (fun k => k = h) wk wn) (hg : h < w.heap.size) : Od w wn A n c t :=
  ⟨ho.len, own_chg ho.own hc (fun gg hgg hk => by have := (World.ownsRow.lt ho.own gg hgg).1; have hk2 : gg = h := hk; omega)⟩
theorem Od.rd {A : Option Addr} {n c : Nat} {t : List Tw} (ho : Od w wk A n c t) : RdL twcell 4 wk A t := RdL.of_own twcell_len ho.own ho.len
theorem Od.nil (w wk : World) : Od w wk none 0 0 [] := ⟨rfl, World.ownsRow_nil _ _ _ _⟩
theorem onB_bind {α β : Type} {r : Pr α} {f : α → List Tz → Pr β} {R : Pr β} {a : α} {b' m M : Bool} {l' : List Tz} (hE : R = (onB b l (r.bind f)).add M) (hs : Says (onB b l r) a b' l' m) : R = (onB b' l' (f a l')).add (M || m) := by
  unfold onB at hE hs ⊢
  rcases hs with ⟨rfl, h⟩ | ⟨rfl, h⟩
  · rw [if_pos rfl]
    cases b with
    | true =>
      rw [if_pos rfl] at h hE
      injection h with h
      rw [hE, h]
      rfl
    | false =>
      rw [if_neg (by simp)] at h hE
      rw [hE, h]
      rfl
  · cases b with
    | true => rw [if_pos rfl] at h; cases h
    | false =>
      rw [if_neg (by simp)] at h hE ⊢
      rw [hE, h, Pr.bind_ok, Pr.add_add]
theorem onB_ne {α : Type} {r : Pr α} {R : Pr α} {M : Bool} (hE : R = (onB b l r).add M) (hR : R ≠ .out) : b = false → r ≠ .out := by
  rintro rfl rfl
  exact hR hE
theorem bind_ne1 {α β : Type} {r : Pr α} {f : α → List Tz → Pr β} (hE : r.bind f ≠ .out) : r ≠ .out := bind_out hE
theorem Sd.must (hs : Sd w h L lg wk l b M) (s : List UInt8) : Calls Tryz.prog 42 #[gp h, .string (bs s)] wk fun e w' => e = .returned (.tuple #[]) ∧ ∃ l' b', Sd w h L lg w' l' b' M ∧ Chg (fun k => k = h) wk w' ∧ Says (onB b l (mustP s l)) () b' l' false :=
  (dmust_any s h L l b _ wk hs.rd).mono fun _ _ hp => ⟨hp.1, by
    obtain ⟨l', b', h1, h2, h3⟩ := hp.2
    exact ⟨l', b', ⟨hs.chg.trans h2, h1, hs.lt⟩, h2, h3⟩⟩
theorem Sd.own (hs : Sd w h L lg wk l b M) : Calls Tryz.prog 43 #[gp h] wk fun e w' => ∃ s l' b', e = .returned (.string s) ∧ Sd w h L lg w' l' b' M ∧ Chg (fun k => k = h) wk w' ∧ Says (onB b l (ownP l)) s b' l' false :=
  (down_any h L l b _ wk hs.rd).mono fun _ _ hp => by
    obtain ⟨s, l', b', h0, h1, h2, h3⟩ := hp
    exact ⟨s, l', b', h0, ⟨hs.chg.trans h2, h1, hs.lt⟩, h2, h3⟩
theorem Sd.has (hs : Sd w h L lg wk l b M) (s : List UInt8) : Calls Tryz.prog 44 #[gp h, .string (bs s)] wk fun e w' => e = .returned (.bool (!b && isT s l)) ∧ Sd w h L lg w' (if (!b && isT s l) then l.tail else l) b M ∧ Chg (fun k => k = h) wk w' :=
  (dhas_any s h L l b _ wk hs.rd).mono fun _ _ hp => ⟨hp.1, ⟨hs.chg.trans hp.2.2, hp.2.1, hs.lt⟩, hp.2.2⟩
theorem Sd.mine (hs : Sd w h L lg wk l b M) : Calls Tryz.prog 70 #[gp h] wk fun e w' => e = .returned (.bool (!b && mineT l)) ∧ Sd w h L lg w' l b M ∧ Chg (fun k => k = h) wk w' :=
  (dmine_any h L l b _ wk hs.rd).mono fun _ _ hp => ⟨hp.1, ⟨hs.chg.trans hp.2.2, hp.2.1, hs.lt⟩, hp.2.2⟩
theorem Sd.step (hs : Sd w h L lg wk l b M) {l' : List Tz} {b' : Bool} (hc : Chg (fun k => k = h) wk wn) (hr : StD wn h L l' b' (lg || M)) : Sd w h L lg wn l' b' M := ⟨hs.chg.trans hc, hr, hs.lt⟩
theorem Sd.below (hs : Sd w h L lg wk l b M) (hb : Below wk.heap.size wk wn) : Sd w h L lg wn l b M := ⟨hs.chg.trans (.of_below hb), hs.rd.below hb, hs.lt⟩
theorem Sd.tree {F : FuncId} {args : Array Value} {r : Pr (List Tw)} (hs : Sd w h L lg wk l b M) (hc : Calls Tryz.prog F args wk (DPost wk h L (lg || M) r)) :
    Calls Tryz.prog F args wk fun e w' => ∃ t l' b' m A n c, e = .returned (.slice A n c) ∧ t.length ≤ 2048 ∧ Od w w' A n c t ∧ Sd w h L lg w' l' b' (M || m) ∧ Chg (fun k => k = h) wk w' ∧ Says r t b' l' m :=
  hc.mono fun e w' hp => by
    obtain ⟨t, l', b', m, A, n, c, h0, h1, h2, h3, h4⟩ := hp
    exact ⟨t, l', b', m, A, n, c, h0, h1, ⟨h2.len, own_mono h2.own hs.chg.size⟩, ⟨hs.chg.trans h3.chg, by rw [← Bool.or_assoc]; exact h3.rd, hs.lt⟩, h3.chg, h4⟩
theorem Sd.top {R : Pr (List Tw)} (hs : Sd w h L lg wk l b M) (x : Tw) (ts : List (List Tw)) (nk : Int) {A : Option Addr} {tl c : Nat} {t : List Tw} (hE : R = (onB b l (ofP x ts l)).add M) (ho : Od w wk A tl c t) (hbig : tl ≤ 500000)
    (hp : b = false → (nk = (ts.length : Nat) ∧ (t = ts.flatten ∨ (2048 ≤ t.length ∧ 2048 ≤ ts.flatten.length)))) :
    Calls Tryz.prog 46 #[gp h, .agg #[.int .u8 (x.op : Nat), .int .i64 x.kids, .int .i64 x.int, .string x.text], .int .i64 nk, .slice A tl c] wk (DPost w h L lg R) :=
  (dtop_any x nk h L l b _ A tl c t wk hs.rd ho.rd ho.len hbig).mono fun e w' hq => by
    obtain ⟨h1, A', c', h2, h3, h4⟩ := hq
    refine ⟨topT x nk t, l, b, M || decide (2048 ≤ t.length), A', _, c', h2, topT_len x nk t, ⟨rfl, own_mono h3 hs.chg.size⟩, ⟨hs.chg.trans h1, by rw [← Bool.or_assoc]; exact h4, hs.lt⟩, ?_⟩
    cases b with
    | true => exact .inl ⟨rfl, hE⟩
    | false =>
      obtain ⟨rfl, h5⟩ := hp rfl
      refine .inr ⟨rfl, ?_⟩
      rw [hE]
      unfold onB ofP topT
      rw [if_neg (by simp)]
      rcases h5 with rfl | ⟨h5, h6⟩
      · by_cases hh : 2048 ≤ ts.flatten.length
        · rw [if_pos (by omega), if_pos hh, decide_eq_true hh]; rfl
        · rw [if_neg (by omega), if_neg hh, decide_eq_false hh]; rfl
      · rw [if_pos (by omega), if_pos h5, decide_eq_true h5]; rfl
theorem Sd.same {R : Pr (List Tw)} (hs : Sd w h L lg wk l b M) {A : Option Addr} {n c : Nat} {t : List Tw} (ho : Od w wk A n c t) (ht : t.length ≤ 2048) (hE : R = (onB b l (.ok t l false)).add M) : DPost w h L lg R (.returned (.slice A n c)) wk := by
  refine ⟨t, l, b, M, A, n, c, rfl, ht, ho, hs, ?_⟩
  cases b with
  | true => exact .inl ⟨rfl, hE⟩
  | false => exact .inr ⟨rfl, by rw [hE]; unfold onB; rw [if_neg (by simp)]; show Pr.ok t l (M || false) = _; rw [Bool.or_false]⟩
theorem Sd.wrong {R : Pr (List Tw)} (hs : Sd w h L lg wk l true M) (hE : R = .bad l) : DPost w h L lg R (.returned (.slice none 0 0)) wk :=
  ⟨[], l, true, M, none, 0, 0, rfl, by simp, Od.nil _ _, hs, .inl ⟨rfl, hE⟩⟩
end
theorem quiet_load_mid {P : Program} {C : World → Prop} {o : Oper} {a : Act} {K : Act → Prop} (ty : TypeId) (x : Operand) (ho : o.op = .load ty x)
    (b off : Nat) (hx : a.eval x = .pointer (some ⟨b, off, none⟩)) (cs : List Value) (d : TypeDesc) (hg : ∀ w, C w → w.rangeAt b off cs)
    (hu : P.underlying ty = some d) (hd : d.isRow = true) (hi : (P.info? ty).map (·.size) = some cs.length)
    (h : K (a.put o.dst (.agg cs.toArray))) : o.quiet P a C K := by
  refine ⟨.agg cs.toArray, fun w hw => ?_, h⟩
  unfold Oper.quietAt execOp
  simp only [ho, hx, Instr.loadAt, Instr.sureAddr, Sem.run_bind, Sem.run_pure, Result.andThen_ok, run_loadVar_mid w b off ty cs d (hg w hw) hu hd hi]
  exact ⟨rfl, rfl⟩
theorem wpQuiet_load_mid {P : Program} {ops : Array Oper} {C : World → Prop} {Q : Act → Prop} {o : Oper} {rest : List Oper} {a : Act} (hw : Region.wanted o (yielded ops a.tmps) = true) (ty : TypeId) (x : Operand) (ho : o.op = .load ty x)
    (b off : Nat) (hx : a.eval x = .pointer (some ⟨b, off, none⟩)) (cs : List Value) (d : TypeDesc) (hg : ∀ w, C w → w.rangeAt b off cs)
    (hu : P.underlying ty = some d) (hd : d.isRow = true) (hi : (P.info? ty).map (·.size) = some cs.length)
    (h : wpQuiet P ops C Q rest (a.put o.dst (.agg cs.toArray))) : wpQuiet P ops C Q (o :: rest) a :=
  BigFrame.wpQuiet_want hw fun _ hK => quiet_load_mid ty x ho b off hx cs d hg hu hd hi (hK _ h)
def sAll : List (List UInt8 × Nat × Nat) := [([111, 114], 30, 1), ([97, 110, 100], 31, 2), ([61, 61], 32, 4), ([33, 61], 33, 4), ([60], 34, 4), ([60, 61], 35, 4), ([43], 36, 5), ([45], 37, 5), ([42], 38, 6), ([47], 39, 6), ([37], 40, 6)]
def sgL (s : List UInt8) : Nat × Nat := match sAll.find? (fun p => s == p.1) with
  | some p => p.2
  | none => (0, 0)
def sgn (kd : Nat) (s : List UInt8) : Nat × Nat := if kd = 1 ∨ kd = 4 then sgL s else (0, 0)
set_option maxHeartbeats 4000000 in
theorem sign_any (kd : Nat) (tx : ByteArray) (iv : Int) (pl : Nat) (w : World) :
    Calls Tryz.prog 74 #[.agg #[.int .u8 (kd : Nat), .string tx, .int .i64 iv, .int .i64 (pl : Nat)]] w fun e w' => e = .returned (.tuple #[.int .u8 ((sgn kd tx.toList).1 : Nat), .int .i64 ((sgn kd tx.toList).2 : Nat)]) ∧ Below w.heap.size w w' := by
  have HB := Lib.hid ((Below.refl w.heap.size w).alloc (Nat.le_refl _) (.cells #[.int .u8 (kd : Nat), .string tx, .int .i64 iv, .int .i64 (pl : Nat)] 56))
  by_cases h1 : kd = 1
  · subst h1
    go_enter Tryz.func74, Tryz.ntmps74
    go_wp2
    all_goals first | (exfalso; simp_all; done) | skip
    all_goals go_ret2
    all_goals
      rw [show sgn 1 tx.toList = sgL tx.toList from if_pos (.inl rfl)]
      simp only [sgL, sAll, List.find?, *]
      exact ⟨rfl, HB.out⟩
  · by_cases h4 : kd = 4
    · subst h4
      clear h1
      go_enter Tryz.func74, Tryz.ntmps74
      go_wp2
      all_goals first | (exfalso; simp_all; done) | skip
      all_goals go_ret2
      all_goals
        rw [show sgn 4 tx.toList = sgL tx.toList from if_pos (.inr rfl)]
        simp only [sgL, sAll, List.find?, *]
        exact ⟨rfl, HB.out⟩
    · have m1 : ((kd : Int) != 1) = true := by rw [bne_iff_ne]; omega
      have m4 : ((kd : Int) != 4) = true := by rw [bne_iff_ne]; omega
      have HS : Hid (sgn kd tx.toList = (0, 0)) := Lib.hid (if_neg (by omega))
      clear h1 h4
      go_enter Tryz.func74, Tryz.ntmps74
      go_wp2_with fail
      go_ret2
      rw [HS.out]
      exact ⟨rfl, HB.out⟩
theorem isT_cons (s : List UInt8) (x : Tz) (r : List Tz) : isT s (x :: r) = ((decide (x.kind = 1) || decide (x.kind = 4)) && decide (x.text.toList = s)) := by
  rw [ByteArray.toList_eq]
  rfl
theorem sgn_find {k : Nat} {v : List (List UInt8 × Nat)} (hv : (k = 1 ∧ v = sOr) ∨ (k = 2 ∧ v = sAnd) ∨ (k = 4 ∧ v = sCmp) ∨ (k = 5 ∧ v = sSum) ∨ (k = 6 ∧ v = sTerm)) (x : Tz) (r : List Tz) :
    (v.find? (fun p => isT p.1 (x :: r)) = none ∧ (sgn x.kind x.text.toList).2 ≠ k) ∨ ∃ p, v.find? (fun p => isT p.1 (x :: r)) = some p ∧ sgn x.kind x.text.toList = (p.2, k) ∧ isT p.1 (x :: r) = true := by
  simp only [isT_cons]
  by_cases hk : x.kind = 1 ∨ x.kind = 4
  · have e1 : (decide (x.kind = 1) || decide (x.kind = 4)) = true := by rcases hk with h | h <;> simp [h]
    simp only [e1, Bool.true_and]
    unfold sgn
    rw [if_pos hk]
    generalize x.text.toList = s
    by_cases hs : s ∈ sAll.map (·.1)
    · simp only [sAll, List.map_cons, List.map_nil, List.mem_cons, List.not_mem_nil, or_false] at hs
      rcases hv with ⟨rfl, rfl⟩ | ⟨rfl, rfl⟩ | ⟨rfl, rfl⟩ | ⟨rfl, rfl⟩ | ⟨rfl, rfl⟩ <;>
        rcases hs with rfl | rfl | rfl | rfl | rfl | rfl | rfl | rfl | rfl | rfl | rfl <;>
        first
          | exact .inl ⟨by decide, by decide⟩
          | exact .inr ⟨_, by rfl, by decide, by decide⟩
    · left
      have hn : ∀ p ∈ sAll, p.1 ≠ s := fun p hp he => hs (List.mem_map.2 ⟨p, hp, he⟩)
      constructor
      · rw [List.find?_eq_none]
        intro p hp
        simp only [decide_eq_true_eq]
        rintro rfl
        refine hs ?_
        rcases hv with ⟨rfl, rfl⟩ | ⟨rfl, rfl⟩ | ⟨rfl, rfl⟩ | ⟨rfl, rfl⟩ | ⟨rfl, rfl⟩ <;>
          (simp only [sOr, sAnd, sCmp, sSum, sTerm, List.mem_cons, List.not_mem_nil, or_false] at hp
           rcases hp with rfl | rfl | rfl | rfl <;> decide)
      · have : sAll.find? (fun p => s == p.1) = none := by
          rw [List.find?_eq_none]
          intro p hp
          simp only [beq_iff_eq]
          exact fun e => hn p hp e.symm
        unfold sgL
        rw [this]
        rcases hv with ⟨rfl, _⟩ | ⟨rfl, _⟩ | ⟨rfl, _⟩ | ⟨rfl, _⟩ | ⟨rfl, _⟩ <;> decide
  · left
    have e1 : (decide (x.kind = 1) || decide (x.kind = 4)) = false := by rw [decide_eq_false (fun h => hk (.inl h)), decide_eq_false (fun h => hk (.inr h))]; rfl
    simp only [e1, Bool.false_and]
    unfold sgn
    rw [if_neg hk]
    refine ⟨by rw [List.find?_eq_none]; simp, ?_⟩
    rcases hv with ⟨rfl, _⟩ | ⟨rfl, _⟩ | ⟨rfl, _⟩ | ⟨rfl, _⟩ | ⟨rfl, _⟩ <;> decide
def dbud (w : World) (h : Nat) : Nat := match w.cell? ⟨h, 2, none⟩ with
  | some (.bool false) => match w.cell? ⟨h, 0, none⟩, w.cell? ⟨h, 1, none⟩ with
    | some (.slice _ n _), some (.int _ i) => n - i.toNat + 1
    | _, _ => 0
  | _ => 0
theorem Sd.bud {w wk : World} {h : Nat} {L l : List Tz} {lg b M : Bool} (hs : Sd w h L lg wk l b M) : dbud wk h = if b then 0 else l.length + 1 := by
  obtain ⟨A, c, i, h1, h2, h3, h4, h5, h6⟩ := hs.rd
  have e0 := h1.cell 0
  have e1 := h1.cell 1
  have e2 := h1.cell 2
  unfold dbud
  rw [e2]
  cases b with
  | true => rfl
  | false =>
    rw [e0, e1, h3, List.length_drop]
    rfl
section
variable {w wk wn : World} {h : Nat} {L l : List Tz} {lg b M : Bool}
theorem Sd.grown {A : Option Addr} {n c : Nat} {t : List Tw} (hs : Sd w h L lg wk l b M) (ho : Od w wk A n c t) (hg : wk.grownBy wn (Value.slice A n c).ownBlock) : Sd w h L lg wn l b M := by
  have hgr : Chg (fun k => (Value.slice A n c).ownBlock = some k) wk wn := .of_grown hg (fun r hr => hr)
  have hblk : ∀ k, (Value.slice A n c).ownBlock = some k → w.heap.size ≤ k := fun k hk => (World.ownsRow.lt ho.own _ hk).1
  have hlt := hs.lt
  exact ⟨hs.chg.thn hgr (fun k hk hk2 => by have := hblk k hk2; omega), hs.rd.chg hgr (fun k _ hk => by have := hblk k hk; omega), hlt⟩
theorem onB_mv {α : Type} {b : Bool} (hb : b = false) (l l' : List Tz) (r : Pr α) : onB b l r = onB b l' r := by
  subst hb
  rfl
theorem onB_yes {α : Type} {b t : Bool} {l l' : List Tz} {x y : Pr α} (hv : true = (!b && t)) : onB b l (if t then x else y) = onB b l' x := by
  cases b <;> cases t <;> first | rfl | cases hv
theorem onB_no {α : Type} {b t : Bool} {l : List Tz} {x y : Pr α} (hv : false = (!b && t)) : onB b l (if t then x else y) = onB b l y := by
  cases b <;> cases t <;> first | rfl | cases hv
theorem onB_out {α : Type} {b : Bool} {l : List Tz} {r : Pr α} (h : b = false → r ≠ .out) : onB b l r ≠ .out := by
  cases b with
  | true => intro hh; cases hh
  | false => exact h rfl
theorem DPost.ret {R : Pr (List Tw)} {e : Ending} {w' : World} (hp : DPost w h L lg R e w') : ∃ A n c, e = .returned (.slice A n c) := by
  obtain ⟨t, l, b, m, A, n, c, h0, _⟩ := hp
  exact ⟨A, n, c, h0⟩
end
theorem Sd.hand {w wk : World} {h : Nat} {L l : List Tz} {lg b M : Bool} {F : FuncId} {args : Array Value} {R r : Pr (List Tw)} (hs : Sd w h L lg wk l b M) (hE : R = r.add M) (hc : Calls Tryz.prog F args wk (DPost wk h L (lg || M) r)) : Calls Tryz.prog F args wk (DPost w h L lg R) :=
  (hs.tree hc).mono fun e w' hp => by
    obtain ⟨t, l', b', m, A, n, c, h0, h1, h2, h3, _, h5⟩ := hp
    refine ⟨t, l', b', _, A, n, c, h0, h1, h2, h3, ?_⟩
    rcases h5 with ⟨e1, e2⟩ | ⟨e1, e2⟩
    · exact .inl ⟨e1, by rw [hE, e2]; rfl⟩
    · exact .inr ⟨e1, by rw [hE, e2]; rfl⟩
theorem Sd.lit {w wk : World} {h : Nat} {L l : List Tz} {lg b M : Bool} {R : Pr (List Tw)} (hs : Sd w h L lg wk l b M) (x : Tw) (hE : R = (onB b l (.ok [x] l false)).add M) :
    DPost w h L lg R (.returned (.slice (some ⟨wk.heap.size, 0, none⟩) 1 1)) (wk.alloc (.cells #[.int .u8 (x.op : Nat), .int .i64 x.kids, .int .i64 x.int, .string x.text] 29)) :=
  Sd.same (hs.below ((Below.refl _ _).alloc (Nat.le_refl _) _)) ⟨rfl, World.ownsRow_lit wk #[.int .u8 (x.op : Nat), .int .i64 x.kids, .int .i64 x.int, .string x.text] 1 hs.chg.size (by unfold maxLen; decide) rfl⟩ (by simp) hE
def DLis (w : World) (h : Nat) (L : List Tz) (lg : Bool) (R : Pr (List (List Tw))) (e : Ending) (w' : World) : Prop :=
  ∃ (ts : List (List Tw)) (t : List Tw) (l : List Tz) (b m : Bool) (A : Option Addr) (n c k : Nat), e = .returned (.tuple #[.slice A n c, .int .i64 (k : Nat)]) ∧ t.length ≤ 5000 ∧ Od w w' A n c t ∧ Sd w h L lg w' l b m ∧ Says R ts b l m ∧ (b = false → k = ts.length ∧ (t = ts.flatten ∨ (2048 ≤ t.length ∧ 2048 ≤ ts.flatten.length)))
theorem Sd.lis {w wk : World} {h : Nat} {L l : List Tz} {lg b M : Bool} {F : FuncId} {args : Array Value} {r : Pr (List (List Tw))} (hs : Sd w h L lg wk l b M) (hc : Calls Tryz.prog F args wk (DLis wk h L (lg || M) r)) :
    Calls Tryz.prog F args wk fun e w' => ∃ (ts : List (List Tw)) (t : List Tw) (l' : List Tz) (b' m : Bool) (A : Option Addr) (n c k : Nat), e = .returned (.tuple #[.slice A n c, .int .i64 (k : Nat)]) ∧ t.length ≤ 5000 ∧ Od w w' A n c t ∧ Sd w h L lg w' l' b' (M || m) ∧ Chg (fun k => k = h) wk w' ∧ Says r ts b' l' m ∧ (b' = false → k = ts.length ∧ (t = ts.flatten ∨ (2048 ≤ t.length ∧ 2048 ≤ ts.flatten.length))) :=
  hc.mono fun e w' hp => by
    obtain ⟨ts, t, l', b', m, A, n, c, k, h0, h1, h2, h3, h4, h5⟩ := hp
    exact ⟨ts, t, l', b', m, A, n, c, k, h0, h1, ⟨h2.len, own_mono h2.own hs.chg.size⟩, ⟨hs.chg.trans h3.chg, by rw [← Bool.or_assoc]; exact h3.rd, hs.lt⟩, h3.chg, h4, h5⟩
theorem flatten_snoc (ts : List (List Tw)) (u : List Tw) : (ts ++ [u]).flatten = ts.flatten ++ u := by simp
theorem parts_more {t u : List Tw} {ts : List (List Tw)} (hp : t = ts.flatten ∨ (2048 ≤ t.length ∧ 2048 ≤ ts.flatten.length)) : t ++ u = (ts ++ [u]).flatten ∨ (2048 ≤ (t ++ u).length ∧ 2048 ≤ (ts ++ [u]).flatten.length) := by
  rw [flatten_snoc]
  rcases hp with rfl | ⟨h1, h2⟩
  · exact .inl rfl
  · exact .inr ⟨by rw [List.length_append]; omega, by rw [List.length_append]; omega⟩
theorem parts_skip {t u : List Tw} {ts : List (List Tw)} (ht : 2048 < t.length) (hp : t = ts.flatten ∨ (2048 ≤ t.length ∧ 2048 ≤ ts.flatten.length)) : t = (ts ++ [u]).flatten ∨ (2048 ≤ t.length ∧ 2048 ≤ (ts ++ [u]).flatten.length) := by
  rw [flatten_snoc]
  refine .inr ⟨by omega, ?_⟩
  rw [List.length_append]
  rcases hp with rfl | ⟨h1, h2⟩ <;> omega
def didOf : Nt → FuncId
  | .expr => 47
  | .and_ => 47
  | .not_ => 47
  | .sum => 47
  | .term => 47
  | .pre => 73
  | .prim => 91
  | .block => 45
  | .stmt => 72
def dargs (h : Nat) : Nt → Array Value
  | .expr => #[gp h, .int .i64 1]
  | .and_ => #[gp h, .int .i64 2]
  | .not_ => #[gp h, .int .i64 3]
  | .sum => #[gp h, .int .i64 5]
  | .term => #[gp h, .int .i64 6]
  | _ => #[gp h]
def NtD (L : List Tz) (n : Nat) : Prop := ∀ (nt : Nt) (h : Nat) (l : List Tz) (lg b : Bool) (w : World), StD w h L l b lg → (b = false → P n nt l ≠ .out) → Calls Tryz.prog (didOf nt) (dargs h nt) w (DPost w h L lg (onB b l (P n nt l)))
end Go.Proofs.YtbcadlocldplfaaGreat
