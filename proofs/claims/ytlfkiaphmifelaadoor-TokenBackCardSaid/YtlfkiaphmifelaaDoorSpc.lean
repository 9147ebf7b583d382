/- Plain law: what a source's tokens are. No program in sight. -/
import Derived.Test.YtlfkiaphmifelaaDoorKitb
namespace Go.Proofs.YtlfkiaphmifelaaDoor

def lowB (c : UInt8) : Bool := decide (97 ≤ c.toNat) && decide (c.toNat ≤ 122)
def digB (c : UInt8) : Bool := decide (48 ≤ c.toNat) && decide (c.toNat ≤ 57)
def innB (c : UInt8) : Bool := lowB c || digB c || decide (c.toNat = 95)

/-- The first place from i on at which p holds no more. -/
def scan (p : UInt8 → Bool) (s : List UInt8) (i : Nat) : Nat := i + ((s.drop i).takeWhile p).length
section
variable (p : UInt8 → Bool) (s : List UInt8)
theorem scan_ge (i : Nat) : i ≤ scan p s i := Nat.le_add_right _ _
theorem takeWhile_len : ∀ l : List UInt8, (l.takeWhile p).length ≤ l.length
  | [] => by simp
  | c :: l => by
    rw [List.takeWhile_cons]
    have := takeWhile_len l
    split <;> simp <;> omega
theorem scan_le {i : Nat} (h : i ≤ s.length) : scan p s i ≤ s.length := by
  have := takeWhile_len p (s.drop i)
  rw [List.length_drop] at this
  unfold scan; omega
theorem scan_end {i : Nat} (h : s.length ≤ i) : scan p s i = i := by
  unfold scan; rw [List.drop_of_length_le h]; simp
theorem scan_stop {i : Nat} (h : i < s.length) (hp : p s[i] = false) : scan p s i = i := by
  unfold scan; rw [List.drop_eq_getElem_cons h, List.takeWhile_cons, hp]; simp
theorem scan_step {i : Nat} (h : i < s.length) (hp : p s[i] = true) : scan p s i = scan p s (i + 1) := by
  unfold scan; rw [List.drop_eq_getElem_cons h, List.takeWhile_cons, hp]; simp; omega
end

/-- The number that digits say. -/
def val (l : List UInt8) : Nat := l.foldl (fun x c => 10 * x + (c.toNat - 48)) 0
theorem val_snoc (l : List UInt8) (c : UInt8) : val (l ++ [c]) = 10 * val l + (c.toNat - 48) := by unfold val; rw [List.foldl_append]; rfl
theorem val_mono_aux : ∀ (m : List UInt8) (x : Nat), x ≤ m.foldl (fun x c => 10 * x + (c.toNat - 48)) x
  | [], _ => Nat.le_refl _
  | c :: m, x => Nat.le_trans (by omega) (val_mono_aux m (10 * x + (c.toNat - 48)))
theorem val_mono (l m : List UInt8) : val l ≤ val (l ++ m) := by unfold val; rw [List.foldl_append]; exact val_mono_aux m _
def cutL (s : List UInt8) (i j : Nat) : List UInt8 := (s.take j).drop i
theorem cut_self (s : List UInt8) (i : Nat) : cutL s i i = [] := List.drop_of_length_le (by rw [List.length_take]; omega)
theorem cut_next (s : List UInt8) {i k : Nat} (hik : i ≤ k) (h : k < s.length) : cutL s i (k + 1) = cutL s i k ++ [s[k]] := by
  unfold cutL; rw [List.take_succ_eq_append_getElem h, List.drop_append_of_le_length (by rw [List.length_take]; omega)]
theorem cut_more (s : List UInt8) {i k e : Nat} (hik : i ≤ k) (hke : k ≤ e) (he : e ≤ s.length) : cutL s i e = cutL s i k ++ cutL s k e := by
  unfold cutL
  have e1 : s.take e = s.take k ++ (s.take e).drop k := by
    have := List.take_append_drop k (s.take e)
    rw [List.take_take, Nat.min_eq_left hke] at this
    exact this.symm
  conv => lhs; rw [e1]
  rw [List.drop_append_of_le_length (by rw [List.length_take]; omega)]

/-- What a number is, where it ends; where it goes wrong, and how. -/
def numL (s : List UInt8) (i : Nat) : Nat × Nat × Nat × Nat :=
  if s[i]? = some 48 ∧ i + 1 < scan digB s i then (0, 0, i + 1, 9)
  else if 9223372036854775807 < val (cutL s i (scan digB s i)) then (0, 0, i, 2)
  else if h : scan digB s i < s.length then (if innB s[scan digB s i] then (0, 0, scan digB s i, 9) else (val (cutL s i (scan digB s i)), scan digB s i, 0, 0))
  else (val (cutL s i (scan digB s i)), scan digB s i, 0, 0)
section
variable {s : List UInt8} {i k : Nat}
theorem numL_end (hE : scan digB s i = k) (h48 : i + 1 < k → s[i]? ≠ some 48) (hv : val (cutL s i k) ≤ 9223372036854775807) (hk : s.length ≤ k) : numL s i = (val (cutL s i k), k, 0, 0) := by
  unfold numL
  rw [hE, if_neg (fun h => h48 h.2 h.1), if_neg (by omega), dif_neg (by omega)]
theorem numL_next (hE : scan digB s i = k) (h48 : i + 1 < k → s[i]? ≠ some 48) (hv : val (cutL s i k) ≤ 9223372036854775807) (hk : k < s.length) : numL s i = if innB s[k] then (0, 0, k, 9) else (val (cutL s i k), k, 0, 0) := by
  unfold numL
  subst hE
  rw [if_neg (fun h => h48 h.2 h.1), if_neg (by omega), dif_pos hk]
theorem numL_zero (h0 : s[i]? = some 48) (h : i + 1 < scan digB s i) : numL s i = (0, 0, i + 1, 9) := by
  unfold numL; rw [if_pos ⟨h0, h⟩]
theorem numL_long (h48 : ¬ (s[i]? = some 48 ∧ i + 1 < scan digB s i)) (hv : 9223372036854775807 < val (cutL s i (scan digB s i))) : numL s i = (0, 0, i, 2) := by
  unfold numL; rw [if_neg h48, if_pos hv]
end
end Go.Proofs.YtlfkiaphmifelaaDoor
