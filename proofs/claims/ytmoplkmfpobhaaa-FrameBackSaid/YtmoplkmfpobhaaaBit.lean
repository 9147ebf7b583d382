/- Plain law: bits that are turned change the sum. No program in sight. -/
import Derived.Test.YtmoplkmfpobhaaaRd
namespace Go.Proofs.Ytmoplkmfpobhaaa

theorem steps_zero (n : Nat) : steps n 0 = 0 := by
  induction n with
  | zero => rfl
  | succ n ih => exact ih

theorem step_inj0 {c : Nat} (h : c < 4294967296) (h0 : step c = 0) : c = 0 := by
  unfold step at h0
  split at h0
  · exfalso
    have h1 : c / 2 < 2 ^ 31 := by omega
    have h2 : (c / 2 ^^^ 3988292384).testBit 31 = false := by rw [h0]; rfl
    rw [Nat.testBit_xor, Nat.testBit_lt_two_pow h1] at h2
    revert h2; decide
  · omega
theorem steps_inj0 (n : Nat) {c : Nat} (h : c < 4294967296) (h0 : steps n c = 0) : c = 0 := by
  induction n generalizing c with
  | zero => exact h0
  | succ n ih => exact step_inj0 h (ih (step_lt h) h0)

theorem byteStep_xor (x y b : Nat) : byteStep (x ^^^ y) b = byteStep x b ^^^ steps 8 y := by
  unfold byteStep
  rw [← steps_xor, Nat.xor_assoc, Nat.xor_comm y b, ← Nat.xor_assoc]
theorem sumR_xor (l : List UInt8) (x y : Nat) : sumR (x ^^^ y) l = sumR x l ^^^ steps (8 * l.length) y := by
  induction l generalizing x y with
  | nil => rfl
  | cons b l ih =>
    show sumR (byteStep (x ^^^ y) b.toNat) l = sumR (byteStep x b.toNat) l ^^^ _
    rw [byteStep_xor, ih, List.length_cons, show 8 * (l.length + 1) = 8 + 8 * l.length from by omega, steps_add]

/-- A bit is turned. -/
def flip (l : List UInt8) (k : Nat) : List UInt8 := l.set (k / 8) (UInt8.ofNat ((l.getD (k / 8) 0).toNat ^^^ 2 ^ (k % 8)))
theorem flip_length (l : List UInt8) (k : Nat) : (flip l k).length = l.length := by unfold flip; rw [List.length_set]

theorem byteStep_bit (c b j : Nat) (hj : j ≤ 8) : byteStep c (b ^^^ 2 ^ j) = byteStep c b ^^^ steps (8 - j) 1 := by
  unfold byteStep
  rw [← Nat.xor_assoc, steps_xor]
  congr 1
  have h := steps_pow j 1
  rw [Nat.mul_one] at h
  rw [show 8 = j + (8 - j) from by omega, steps_add, h, show j + (8 - j) - j = 8 - j from by omega]

theorem xor_byte (x j : Nat) (hx : x < 256) (hj : j < 8) : x ^^^ 2 ^ j < 256 := by
  have : 2 ^ j < 2 ^ 8 := Nat.pow_lt_pow_right (by omega) hj
  exact Nat.xor_lt_two_pow (n := 8) hx this

theorem sumR_flip (l : List UInt8) (c k : Nat) (hk : k < 8 * l.length) : sumR c (flip l k) = sumR c l ^^^ steps (8 * l.length - k) 1 := by
  have hi : k / 8 < l.length := by omega
  have hsplit : l = l.take (k / 8) ++ l[k / 8] :: l.drop (k / 8 + 1) := by
    rw [← List.drop_eq_getElem_cons hi, List.take_append_drop]
  have hget : l.getD (k / 8) 0 = l[k / 8] := by rw [List.getD_eq_getElem?_getD, List.getElem?_eq_getElem hi]; rfl
  have hfl : flip l k = l.take (k / 8) ++ UInt8.ofNat (l[k / 8].toNat ^^^ 2 ^ (k % 8)) :: l.drop (k / 8 + 1) := by
    unfold flip
    rw [hget, List.set_eq_take_append_cons_drop, if_pos hi]
  have hb : (UInt8.ofNat (l[k / 8].toNat ^^^ 2 ^ (k % 8))).toNat = l[k / 8].toNat ^^^ 2 ^ (k % 8) := by
    rw [UInt8.toNat_ofNat']
    exact Nat.mod_eq_of_lt (xor_byte _ _ (UInt8.toNat_lt _) (by omega))
  have e1 : sumR c (flip l k) = sumR (byteStep (sumR c (l.take (k / 8))) (l[k / 8].toNat ^^^ 2 ^ (k % 8))) (l.drop (k / 8 + 1)) := by
    rw [hfl, sumR_append]
    show sumR (byteStep (sumR c (l.take (k / 8))) (UInt8.ofNat (l[k / 8].toNat ^^^ 2 ^ (k % 8))).toNat) _ = _
    rw [hb]
  have e2 : sumR c l = sumR (byteStep (sumR c (l.take (k / 8))) l[k / 8].toNat) (l.drop (k / 8 + 1)) := by
    conv => lhs; rw [hsplit]
    rw [sumR_append]; rfl
  rw [e1, e2, byteStep_bit _ _ _ (by omega), sumR_xor, ← steps_add]
  congr 2
  rw [List.length_drop]
  omega

/-- The sum over a body and its sum. -/
def R (l : List UInt8) : Nat := sumR 4294967295 l
def resid : Nat := steps 32 4294967295
theorem R_lt (l : List UInt8) : R l < 4294967296 := sumR_lt l (by omega)

theorem four_steps (c : Nat) (l : List UInt8) (h : l.length = 4) : sumR c l = steps 32 (c ^^^ num4 l) := by
  match l, h with
  | [a, b, d, e], _ =>
    have hn : num4 [a, b, d, e] = a.toNat ^^^ (2 ^ 8 * b.toNat ^^^ (2 ^ 16 * d.toNat ^^^ 2 ^ 24 * e.toNat)) := by
      have ha := UInt8.toNat_lt a
      have hb := UInt8.toNat_lt b
      have hd := UInt8.toNat_lt d
      have he := UInt8.toNat_lt e
      have add_xor : ∀ (i x y : Nat), x < 2 ^ i → x + 2 ^ i * y = x ^^^ 2 ^ i * y := by
        intro i x y hx
        have := split_xor (x + 2 ^ i * y) i
        rw [show (x + 2 ^ i * y) / 2 ^ i = y from by rw [Nat.add_mul_div_left _ _ (Nat.two_pow_pos i), Nat.div_eq_of_lt hx, Nat.zero_add], show (x + 2 ^ i * y) % 2 ^ i = x from by rw [Nat.add_mul_mod_self_left, Nat.mod_eq_of_lt hx], Nat.xor_comm] at this
        exact this
      have e3 : d.toNat + 2 ^ 8 * e.toNat = d.toNat ^^^ 2 ^ 8 * e.toNat := add_xor 8 _ _ hd
      show a.toNat + 256 * b.toNat + 65536 * d.toNat + 16777216 * e.toNat = _
      have x1 := add_xor 8 a.toNat (b.toNat + 256 * d.toNat + 65536 * e.toNat) ha
      have x2 := add_xor 16 (2 ^ 8 * b.toNat) (d.toNat + 256 * e.toNat) (by omega)
      have x3 := add_xor 24 (2 ^ 16 * d.toNat) e.toNat (by omega)
      have y1 : a.toNat + 256 * b.toNat + 65536 * d.toNat + 16777216 * e.toNat = a.toNat + 2 ^ 8 * (b.toNat + 256 * d.toNat + 65536 * e.toNat) := by omega
      have y2 : 2 ^ 8 * (b.toNat + 256 * d.toNat + 65536 * e.toNat) = 2 ^ 8 * b.toNat + 2 ^ 16 * (d.toNat + 256 * e.toNat) := by omega
      have y3 : 2 ^ 16 * (d.toNat + 256 * e.toNat) = 2 ^ 16 * d.toNat + 2 ^ 24 * e.toNat := by omega
      rw [y1, x1, y2, x2, y3, x3]
    have sp : ∀ (i m : Nat) (x : Nat), steps (i + m) (2 ^ i * x) = steps m x := by
      intro i m x; rw [steps_add, steps_pow]
    have s1 : steps 32 (2 ^ 8 * b.toNat) = steps 24 b.toNat := sp 8 24 _
    have s2 : steps 32 (2 ^ 16 * d.toNat) = steps 16 d.toNat := sp 16 16 _
    have s3 : steps 32 (2 ^ 24 * e.toNat) = steps 8 e.toNat := sp 24 8 _
    rw [hn, steps_xor, steps_xor, steps_xor, steps_xor, s1, s2, s3]
    show byteStep (byteStep (byteStep (byteStep c a.toNat) b.toNat) d.toNat) e.toNat = _
    unfold byteStep
    simp only [steps_xor, ← steps_add, Nat.reduceAdd, Nat.xor_assoc]

theorem R_append4 (mid tail : List UInt8) (h : tail.length = 4) : R (mid ++ tail) = steps 32 (sumR 4294967295 mid ^^^ num4 tail) := by
  unfold R
  rw [sumR_append, four_steps _ _ h]

theorem xor_cancel {a b c : Nat} : a ^^^ b = c ↔ b = a ^^^ c := by
  constructor
  · intro h; rw [← h, ← Nat.xor_assoc, Nat.xor_self, Nat.zero_xor]
  · intro h; rw [h, ← Nat.xor_assoc, Nat.xor_self, Nat.zero_xor]

theorem steps_inj {n a b : Nat} (ha : a < 4294967296) (hb : b < 4294967296) (h : steps n a = steps n b) : a = b := by
  have h1 : steps n (a ^^^ b) = 0 := by rw [steps_xor, h, Nat.xor_self]
  have h2 := steps_inj0 n (Nat.xor_lt_two_pow (n := 32) ha hb) h1
  have := xor_cancel.1 h2
  rw [Nat.xor_zero] at this
  exact this.symm

/-- A body and four bytes: the sum is right just if the sum over both is the one of all frames. -/
theorem right_iff (mid tail : List UInt8) (h : tail.length = 4) : num4 tail = sumL mid ↔ R (mid ++ tail) = resid := by
  rw [R_append4 _ _ h]
  unfold resid sumL
  have hs : sumR 4294967295 mid < 4294967296 := sumR_lt _ (by omega)
  have hn := num4_lt tail
  constructor
  · intro h1
    rw [h1, ← Nat.xor_assoc, Nat.xor_self, Nat.zero_xor]
  · intro h1
    have h2 := steps_inj (Nat.xor_lt_two_pow (n := 32) hs hn) (by omega) h1
    exact xor_cancel.1 h2

theorem R_flip (l : List UInt8) (k : Nat) (hk : k < 8 * l.length) : R (flip l k) = R l ^^^ steps (8 * l.length - k) 1 := sumR_flip l _ k hk

/-- Bits that are turned within 32: 'm' says which. -/
theorem R_window (l : List UInt8) (x fr i m : Nat) (hx : R l = x ^^^ steps (8 * l.length - fr) m) (hi : fr + i < 8 * l.length) :
    R (flip l (fr + i)) = x ^^^ steps (8 * l.length - fr) (m ^^^ 2 ^ i) := by
  rw [R_flip l _ hi, hx, Nat.xor_assoc, steps_xor]
  congr 2
  have h := steps_pow i 1
  rw [Nat.mul_one] at h
  rw [show 8 * l.length - fr = i + (8 * l.length - (fr + i)) from by omega, steps_add, h]

theorem R_turned {l : List UInt8} {n m : Nat} (hm : m < 4294967296) (hx : R l = resid ^^^ steps n m) : R l = resid ↔ m = 0 := by
  rw [hx]
  constructor
  · intro h
    have := xor_cancel.1 h
    rw [Nat.xor_self] at this
    exact steps_inj0 n hm this
  · intro h; rw [h, steps_zero, Nat.xor_zero]

/-- What look says of a head that is right, and what stands behind it. -/
theorem look_head (n : Nat) (X : List UInt8) (hn : n ≤ 65536) (hX : X.length = n + 4) :
    lookL (le4 n ++ le4 (sumL (le4 n)) ++ X) = if R X = resid then (n, 0, 0) else (0, 8 + n, 8) := by
  have hlen : (le4 n ++ le4 (sumL (le4 n)) ++ X).length = 8 + n + 4 := by
    rw [List.length_append, List.length_append, le4_length, le4_length, hX]; omega
  have h4 : num4 (le4 n ++ le4 (sumL (le4 n)) ++ X) = n := by
    rw [List.append_assoc]; exact num4_le4 n (by omega) _
  have hd4 : num4 ((le4 n ++ le4 (sumL (le4 n)) ++ X).drop 4) = sumL (le4 n) := by
    rw [List.append_assoc, List.drop_left' (le4_length n)]; exact num4_le4 _ (sumL_lt _) _
  have ht4 : (le4 n ++ le4 (sumL (le4 n)) ++ X).take 4 = le4 n := by
    rw [List.append_assoc, List.take_left' (le4_length n)]
  have h8 : (le4 n ++ le4 (sumL (le4 n))).length = 8 := by rw [List.length_append, le4_length, le4_length]
  have hdn : (le4 n ++ le4 (sumL (le4 n)) ++ X).drop (8 + n) = X.drop n := by
    rw [← List.drop_drop, List.drop_left' h8]
  have htn : ((le4 n ++ le4 (sumL (le4 n)) ++ X).take (8 + n)).drop 8 = X.take n := by
    rw [List.drop_take, List.drop_left' h8, Nat.add_sub_cancel_left]
  have hr := right_iff (X.take n) (X.drop n) (by rw [List.length_drop, hX]; omega)
  rw [List.take_append_drop] at hr
  unfold lookL
  rw [hlen, h4, hd4, ht4, hdn, htn, if_neg (by omega), if_neg (by simp), if_neg (by omega), if_neg (by omega)]
  by_cases h : num4 (X.drop n) = sumL (X.take n)
  · rw [if_neg (by simpa using h), if_pos (hr.1 h)]
  · rw [if_pos h, if_neg (fun h1 => h (hr.2 h1))]

theorem flip_append_right (H X : List UInt8) (k : Nat) (hk : 8 * H.length ≤ k) : flip (H ++ X) k = H ++ flip X (k - 8 * H.length) := by
  unfold flip
  have h1 : H.length ≤ k / 8 := by omega
  have h2 : (k - 8 * H.length) / 8 = k / 8 - H.length := by omega
  have h3 : (k - 8 * H.length) % 8 = k % 8 := by omega
  rw [List.set_append_right _ _ h1, h2, h3]
  congr 2
  rw [List.getD_eq_getElem?_getD, List.getD_eq_getElem?_getD, List.getElem?_append_right h1]
theorem flip_append_left (H X : List UInt8) (k : Nat) (hk : k < 8 * H.length) : flip (H ++ X) k = flip H k ++ X := by
  unfold flip
  have h1 : k / 8 < H.length := by omega
  rw [List.set_append_left _ _ h1]
  congr 3
  rw [List.getD_eq_getElem?_getD, List.getD_eq_getElem?_getD, List.getElem?_append_left h1]

/-- The head with one bit turned. -/
theorem look_head_flip (n k : Nat) (X : List UInt8) (hk : k < 64) : lookL (flip (le4 n ++ le4 (sumL (le4 n)) ++ X) k) = (0, 4, 8) := by
  have h8 : (le4 n ++ le4 (sumL (le4 n))).length = 8 := by rw [List.length_append, le4_length, le4_length]
  rw [flip_append_left _ _ _ (by rw [h8]; omega)]
  generalize hH : flip (le4 n ++ le4 (sumL (le4 n))) k = H
  have hHl : H.length = 8 := by rw [← hH, flip_length, h8]
  have hR0 : R (le4 n ++ le4 (sumL (le4 n))) = resid := by
    rw [← right_iff _ _ (le4_length _)]
    have := num4_le4 (sumL (le4 n)) (sumL_lt _) []
    rwa [List.append_nil] at this
  have hR : ¬ R H = resid := by
    rw [← hH, R_flip _ _ (by rw [h8]; omega), hR0]
    intro h
    have h1 := xor_cancel.1 h
    rw [Nat.xor_self] at h1
    have := steps_inj0 _ (by omega) h1
    omega
  have hn : ¬ num4 (H.drop 4) = sumL (H.take 4) := by
    rw [right_iff _ _ (by rw [List.length_drop, hHl]), List.take_append_drop]; exact hR
  have hd : num4 ((H ++ X).drop 4) = num4 (H.drop 4) := by
    rw [List.drop_append_of_le_length (by omega)]
    have hl : (H.drop 4).length = 4 := by rw [List.length_drop, hHl]
    match H.drop 4, hl with
    | [a, b, c, d], _ => rfl
  unfold lookL
  rw [if_neg (by rw [List.length_append]; omega), hd, List.take_append_of_le_length (by omega), if_pos hn]

theorem xor_back (x y : Nat) : x ^^^ y ^^^ y = x := by rw [Nat.xor_assoc, Nat.xor_self, Nat.xor_zero]
theorem flip_flip (l : List UInt8) (k : Nat) (hk : k < 8 * l.length) : flip (flip l k) k = l := by
  have hi : k / 8 < l.length := by omega
  have hg : (flip l k).getD (k / 8) 0 = UInt8.ofNat ((l.getD (k / 8) 0).toNat ^^^ 2 ^ (k % 8)) := by
    unfold flip
    rw [List.getD_eq_getElem?_getD, List.getElem?_set_self hi]; rfl
  have hb : (UInt8.ofNat ((l.getD (k / 8) 0).toNat ^^^ 2 ^ (k % 8))).toNat = (l.getD (k / 8) 0).toNat ^^^ 2 ^ (k % 8) := by
    rw [UInt8.toNat_ofNat']
    exact Nat.mod_eq_of_lt (xor_byte _ _ (UInt8.toNat_lt _) (by omega))
  have : flip (flip l k) k = (flip l k).set (k / 8) (UInt8.ofNat (((flip l k).getD (k / 8) 0).toNat ^^^ 2 ^ (k % 8))) := rfl
  rw [this, hg, hb, xor_back]
  unfold flip
  rw [List.set_set]
  have hv : UInt8.ofNat (l.getD (k / 8) 0).toNat = l[k / 8] := by
    rw [List.getD_eq_getElem?_getD, List.getElem?_eq_getElem hi]
    exact UInt8.ofNat_toNat
  rw [hv, List.set_getElem_self]

/-- A frame of which one bit is turned is not read; it is, when it is turned back. -/
theorem frame_head (body : List UInt8) : frameL body = le4 body.length ++ le4 (sumL (le4 body.length)) ++ (body ++ le4 (sumL body)) := by
  unfold frameL; rw [List.append_assoc (le4 body.length ++ le4 (sumL (le4 body.length)))]
theorem frame_resid (body : List UInt8) : R (body ++ le4 (sumL body)) = resid := by
  rw [← right_iff _ _ (le4_length _)]
  have := num4_le4 (sumL body) (sumL_lt _) []
  rwa [List.append_nil] at this
theorem look_frame (body : List UInt8) (h : body.length ≤ 65536) : lookL (frameL body) = (body.length, 0, 0) := by
  rw [frame_head, look_head _ _ h (by rw [List.length_append, le4_length]), if_pos (frame_resid body)]
theorem look_flip (body : List UInt8) (h : body.length ≤ 65536) (k : Nat) (hk : k < 8 * (body.length + 12)) : (lookL (flip (frameL body) k)).2.2 = 8 := by
  rw [frame_head]
  by_cases h64 : k < 64
  · rw [look_head_flip _ _ _ h64]
  · have h8 : (le4 body.length ++ le4 (sumL (le4 body.length))).length = 8 := by rw [List.length_append, le4_length, le4_length]
    have hX : (body ++ le4 (sumL body)).length = body.length + 4 := by rw [List.length_append, le4_length]
    rw [flip_append_right _ _ _ (by omega), h8, look_head _ _ h (by rw [flip_length, hX]), if_neg]
    rw [R_flip _ _ (by rw [hX]; omega), frame_resid]
    intro h1
    have h2 := xor_cancel.1 h1
    rw [Nat.xor_self] at h2
    have := steps_inj0 _ (by omega) h2
    omega
end Go.Proofs.Ytmoplkmfpobhaaa
