/- Tokens that are spelled are read again: plain Lean. No walk. And what follows from it. -/
import Derived.Test.YtbcadlocldplfaaDoorQle
import Derived.Test.YtbcadlocldplfaaDoorQlj
set_option linter.unusedSimpArgs false
set_option linter.unusedVariables false
namespace Go.Proofs.YtbcadlocldplfaaDoor.T7
theorem at_pre (pre m : List UInt8) (j : Nat) : (pre ++ m)[pre.length + j]? = m[j]? := by
  rw [List.getElem?_append_right (by omega)]
  congr 1
  omega
theorem at_pre0 (pre m : List UInt8) : (pre ++ m)[pre.length]? = m[0]? := at_pre pre m 0
theorem scan_run (p : UInt8 → Bool) (pre m t : List UInt8) (hm : ∀ c ∈ m, p c = true) (ht : ∀ c, t[0]? = some c → p c = false) : scan p (pre ++ (m ++ t)) pre.length = pre.length + m.length := by
  unfold scan
  rw [List.drop_left, List.takeWhile_append_of_pos hm]
  have : t.takeWhile p = [] := by
    cases t with
    | nil => rfl
    | cons c r => rw [List.takeWhile_cons, ht c rfl]; rfl
  rw [this, List.append_nil]
theorem cut_run (pre m t : List UInt8) : cutL (pre ++ (m ++ t)) pre.length (pre.length + m.length) = m := by
  unfold cutL
  rw [← List.append_assoc, ← List.length_append, List.take_left, List.drop_left]
def Aft (t : List UInt8) : Prop := ∀ c, t[0]? = some c → c = 32
theorem aft_spF (r : List Tz) : Aft (spF true r) := by
  intro c h
  cases r with
  | nil => simp [spF] at h
  | cons x r => simpa [spF] using h.symm
def tk (t : Tok) : Nat × List UInt8 × Int := (t.kind, t.text, (t.int : Int))
def tz (x : Tz) : Nat × List UInt8 × Int := (x.kind, x.tx, x.int)
def Stands (pre : List UInt8) (x : Tz) (t : List UInt8) : Prop :=
  ∃ c, (pre ++ (spellT x ++ t))[pre.length]? = some c ∧ c ≠ 32 ∧ c ≠ 10 ∧ c ≠ 35 ∧ ∃ k, oneL (pre ++ (spellT x ++ t)) pre.length c = .inr (k, pre.length + (spellT x).length) ∧ tk k = tz x
theorem low_not {c : UInt8} (h : lowB c = true) : c ≠ 32 ∧ c ≠ 10 ∧ c ≠ 35 := by
  refine ⟨?_, ?_, ?_⟩ <;> (rintro rfl; revert h; decide)
theorem dig_not {c : UInt8} (h : digB c = true) : c ≠ 32 ∧ c ≠ 10 ∧ c ≠ 35 ∧ lowB c = false := by
  refine ⟨?_, ?_, ?_, ?_⟩
  · rintro rfl; revert h; decide
  · rintro rfl; revert h; decide
  · rintro rfl; revert h; decide
  · unfold digB at h
    have : 48 ≤ c.toNat ∧ c.toNat ≤ 57 := by simpa using h
    unfold lowB
    rw [decide_eq_false (by omega)]
    rfl
theorem aft_inn {t : List UInt8} (ht : Aft t) : ∀ c, t[0]? = some c → innB c = false := fun c h => by rw [ht c h]; decide
theorem aft_dig {t : List UInt8} (ht : Aft t) : ∀ c, t[0]? = some c → digB c = false := fun c h => by rw [ht c h]; decide
theorem stands_word (pre : List UInt8) (x : Tz) (t : List UInt8) (hk : x.kind = 1) (hw : wordOk x.tx = true) (hi : x.int = 0) (ht : Aft t) : Stands pre x t := by
  have hs : spellT x = x.tx := by unfold spellT; rw [if_neg (by omega), if_neg (by omega)]
  unfold Stands
  rw [hs]
  obtain ⟨tx, htx⟩ : ∃ z, z = x.tx := ⟨_, rfl⟩
  rw [← htx] at hw ⊢
  cases tx with
  | nil => cases hw
  | cons c r =>
    have h : ((c :: r).length ≤ 24 ∧ lowB c = true) ∧ (c :: r).all innB = true := by simpa only [wordOk, Bool.and_eq_true, decide_eq_true_eq] using hw
    obtain ⟨n1, n2, n3⟩ := low_not h.1.2
    refine ⟨c, ?_, n1, n2, n3, ⟨1, c :: r, 0, pre.length⟩, ?_, ?_⟩
    · rw [at_pre0]; rfl
    · unfold oneL
      rw [if_pos h.1.2]
      unfold wordL
      rw [scan_run innB pre (c :: r) t (fun y hy => List.all_eq_true.1 h.2 y hy) (aft_inn ht), if_neg (by omega), cut_run]
    · unfold tk tz
      rw [hk, hi, ← htx]
      rfl
theorem dec_facts : ∀ (n : Nat), (∀ c ∈ Lib.decDigits n, digB c = true) ∧ val (Lib.decDigits n) = n ∧ (∃ c r, Lib.decDigits n = c :: r ∧ (c = 48 → n = 0 ∧ r = [])) := by
  have d10 : ∀ d, d < 10 → digB (UInt8.ofNat (48 + d)) = true ∧ (UInt8.ofNat (48 + d)).toNat = 48 + d := by
    intro d hd
    have e : (UInt8.ofNat (48 + d)).toNat = 48 + d := by rw [UInt8.toNat_ofNat_of_lt' (by show 48 + d < 256; omega)]
    refine ⟨?_, e⟩
    unfold digB
    rw [e, decide_eq_true (by omega), decide_eq_true (by omega)]
    rfl
  intro n
  induction n using Nat.strongRecOn with
  | ind n ih =>
    rw [Lib.decDigits]
    split
    · rename_i h
      obtain ⟨h1, h2⟩ := d10 n h
      refine ⟨by simpa using h1, ?_, _, [], rfl, fun h => ⟨?_, rfl⟩⟩
      · unfold val
        simp only [List.foldl_cons, List.foldl_nil]
        rw [h2]; omega
      · have := congrArg UInt8.toNat h
        rw [h2] at this
        have e : (48 : UInt8).toNat = 48 := rfl
        omega
    · rename_i h
      obtain ⟨h1, h2⟩ := d10 (n % 10) (by omega)
      obtain ⟨i1, i2, c, r, i3, i4⟩ := ih (n / 10) (by omega)
      refine ⟨?_, ?_, c, r ++ [_], by rw [i3]; rfl, fun hc => ?_⟩
      · intro c hc
        rcases List.mem_append.1 hc with hc | hc
        · exact i1 c hc
        · obtain rfl := List.mem_singleton.1 hc
          exact h1
      · rw [val_snoc, i2, h2]
        omega
      · have := (i4 hc).1
        omega
theorem stands_num (pre : List UInt8) (x : Tz) (t : List UInt8) (hk : x.kind = 2) (hx : x.tx = []) (h0 : 0 ≤ x.int) (h1 : x.int ≤ 9223372036854775807) (ht : Aft t) : Stands pre x t := by
  obtain ⟨n, hn⟩ : ∃ n : Nat, x.int = n := ⟨x.int.toNat, by omega⟩
  have hs : spellT x = Lib.decDigits n := by unfold spellT; rw [if_pos hk, hn, Lib.itoa_nonneg]
  unfold Stands
  rw [hs]
  obtain ⟨d1, d2, c, r, d3, d4⟩ := dec_facts n
  have hcd : digB c = true := d1 c (by rw [d3]; exact List.mem_cons_self)
  obtain ⟨n1, n2, n3, n4⟩ := dig_not hcd
  have hat : (pre ++ (Lib.decDigits n ++ t))[pre.length]? = some c := by rw [at_pre0, d3]; rfl
  have hsc := scan_run digB pre (Lib.decDigits n) t d1 (aft_dig ht)
  have hcut := cut_run pre (Lib.decDigits n) t
  have hnum : numL (pre ++ (Lib.decDigits n ++ t)) pre.length = (n, pre.length + (Lib.decDigits n).length, 0, 0) := by
    have h48 : pre.length + 1 < pre.length + (Lib.decDigits n).length → (pre ++ (Lib.decDigits n ++ t))[pre.length]? ≠ some 48 := fun hl he => by
      rw [hat] at he
      obtain ⟨_, rfl⟩ := d4 (Option.some.inj he)
      rw [d3] at hl
      simp at hl
    have hv : val (cutL (pre ++ (Lib.decDigits n ++ t)) pre.length (pre.length + (Lib.decDigits n).length)) ≤ 9223372036854775807 := by rw [hcut, d2]; omega
    rcases Nat.lt_or_ge (pre.length + (Lib.decDigits n).length) (pre ++ (Lib.decDigits n ++ t)).length with hl | hl
    · rw [numL_next hsc h48 hv hl, hcut, d2, if_neg]
      have hb : t[0]? = some (pre ++ (Lib.decDigits n ++ t))[pre.length + (Lib.decDigits n).length] := by
        have h := at_pre pre (Lib.decDigits n ++ t) (Lib.decDigits n).length
        rw [at_pre0] at h
        rw [← h]
        exact List.getElem?_eq_getElem hl
      rw [aft_inn ht _ hb]
      decide
    · rw [numL_end hsc h48 hv hl, hcut, d2]
  refine ⟨c, hat, n1, n2, n3, ⟨2, [], n, pre.length⟩, ?_, ?_⟩
  · unfold oneL
    rw [if_neg (by rw [n4]; decide), if_pos hcd]
    unfold numT
    rw [hnum]
    rfl
  · unfold tk tz
    rw [hk, hx, hn]
theorem hex_hx : ∀ n : Fin 16, hexD (hx n.1) = some n.1 := by decide +kernel
theorem char_q (pre t : List UInt8) (c : UInt8) : ∃ d, (pre ++ (q1 c ++ t))[pre.length]? = some d ∧ d ≠ 34 ∧ ¬ (d.toNat < 32 ∨ 126 < d.toNat) ∧ charL (pre ++ (q1 c ++ t)) d pre.length = .inr (c.toNat, pre.length + (q1 c).length) := by
  unfold q1
  split
  · rename_i h
    refine ⟨92, by rw [at_pre0]; rfl, by decide, by decide, ?_⟩
    unfold charL
    rw [if_pos rfl]
    unfold escL
    rw [at_pre]
    show (if c = 34 ∨ c = 92 then _ else _) = _
    rw [if_pos h]
    rfl
  · split
    · rename_i h
      refine ⟨92, by rw [at_pre0]; rfl, by decide, by decide, ?_⟩
      unfold charL
      rw [if_pos rfl]
      unfold escL
      rw [at_pre]
      subst h
      rfl
    · split
      · refine ⟨92, by rw [at_pre0]; rfl, by decide, by decide, ?_⟩
        unfold charL
        rw [if_pos rfl]
        unfold escL
        rw [at_pre]
        show hex2 _ (pre.length + 1 + 1) = _
        have hc := UInt8.toNat_lt c
        unfold hex2
        have e1 := at_pre pre ([92, 120, hx (c.toNat / 16), hx (c.toNat % 16)] ++ t) 2
        have e2 := at_pre pre ([92, 120, hx (c.toNat / 16), hx (c.toNat % 16)] ++ t) 3
        rw [show pre.length + 1 + 1 = pre.length + 2 from rfl, e1]
        have h1 : hexD (hx (c.toNat / 16)) = some (c.toNat / 16) := hex_hx ⟨c.toNat / 16, by omega⟩
        have h2 : hexD (hx (c.toNat % 16)) = some (c.toNat % 16) := hex_hx ⟨c.toNat % 16, by omega⟩
        show (match hexD (hx (c.toNat / 16)) with | none => _ | some x => _) = _
        rw [h1]
        show (match (pre ++ ([92, 120, hx (c.toNat / 16), hx (c.toNat % 16)] ++ t))[pre.length + 3]? with | none => _ | some b => _) = _
        rw [e2]
        show (match hexD (hx (c.toNat % 16)) with | none => _ | some x => _) = _
        rw [h2]
        show Sum.inr (16 * (c.toNat / 16) + c.toNat % 16, pre.length + 2 + 2) = _
        rw [Nat.div_add_mod]
        rfl
      · rename_i h1 h2 h3
        refine ⟨c, by rw [at_pre0]; rfl, fun h => h1 (.inl h), h3, ?_⟩
        unfold charL
        rw [if_neg (fun h => h1 (.inr h))]
        rfl
theorem text_q (i : Nat) (t : List UInt8) : ∀ (tx pre b : List UInt8), b.length + tx.length ≤ 4095 → textL (pre ++ (tx.flatMap q1 ++ 34 :: t)) i pre.length b = (b ++ tx, pre.length + (tx.flatMap q1).length + 1, 0, 0)
  | [], pre, b, _ => by
    rw [textL_step, at_pre0]
    show (if (34 : UInt8) = 34 then _ else _) = _
    rw [if_pos rfl]
    simp
  | c :: r, pre, b, hl => by
    rw [List.length_cons] at hl
    obtain ⟨d, h1, h2, h3, h4⟩ := char_q pre (r.flatMap q1 ++ 34 :: t) c
    have e : pre ++ ((c :: r).flatMap q1 ++ 34 :: t) = pre ++ (q1 c ++ (r.flatMap q1 ++ 34 :: t)) := by rw [List.flatMap_cons, List.append_assoc]
    rw [e, textL_step, h1]
    show (if d = 34 then _ else _) = _
    rw [if_neg h2, if_neg h3, h4]
    show (if b.length = 4095 then _ else _) = _
    rw [if_neg (by omega)]
    have ih := text_q i t r (pre ++ q1 c) (b ++ [c]) (by rw [List.length_append, List.length_singleton]; omega)
    rw [List.append_assoc, List.length_append] at ih
    have ec : UInt8.ofNat c.toNat = c := UInt8.ofNat_toNat
    rw [ec, ih, List.flatMap_cons, List.length_append, List.append_assoc]
    simp [Nat.add_assoc]
theorem stands_text (pre : List UInt8) (x : Tz) (t : List UInt8) (hk : x.kind = 3) (hx : x.tx.length ≤ 4095) (hi : x.int = 0) : Stands pre x t := by
  have hs : spellT x = quoteL x.tx := by unfold spellT; rw [if_neg (by omega), if_pos hk]
  unfold Stands
  rw [hs]
  unfold quoteL
  have e : pre ++ (34 :: (x.tx.flatMap q1 ++ [34]) ++ t) = (pre ++ [34]) ++ (x.tx.flatMap q1 ++ 34 :: t) := by simp
  have h := text_q pre.length t x.tx (pre ++ [34]) [] (by simpa using hx)
  refine ⟨34, by rw [at_pre0]; rfl, by decide, by decide, by decide, ⟨3, x.tx, 0, pre.length⟩, ?_, ?_⟩
  · unfold oneL
    rw [if_neg (by decide), if_neg (by decide), if_pos rfl]
    unfold textT
    rw [e]
    rw [List.length_append, List.length_singleton] at h
    rw [h]
    show (if 0 = 0 then _ else _) = _
    rw [if_pos rfl]
    simp only [List.nil_append, List.length_cons, List.length_append, List.length_nil]
    congr 2
    omega
  · unfold tk tz
    rw [hk, hi]
    rfl
theorem sign_one (s : List UInt8) (i : Nat) (c : UInt8) (h : c ∈ signs ∧ c ≠ 33 ∧ lowB c = false ∧ digB c = false ∧ c ≠ 34) (hn : s[i + 1]? ≠ some 61) : oneL s i c = .inr (⟨4, cutL s i (i + 1), 0, i⟩, i + 1) := by
  unfold oneL
  rw [if_neg (by rw [h.2.2.1]; decide), if_neg (by rw [h.2.2.2.1]; decide), if_neg h.2.2.2.2]
  unfold signL
  rw [if_neg (fun hh => h.2.1 hh.1), if_neg (fun hh => h.2.1 hh.1), if_pos h.1, if_neg (fun hh => hn hh.2)]
theorem sign_two (s : List UInt8) (i : Nat) (c : UInt8) (h : c ∈ signs ∧ (c = 61 ∨ c = 60 ∨ c = 33)) (hn : s[i + 1]? = some 61) : oneL s i c = .inr (⟨4, cutL s i (i + 2), 0, i⟩, i + 2) := by
  have hl : i + 1 < s.length := (List.getElem?_eq_some_iff.1 hn).1
  have h2 : lowB c = false ∧ digB c = false ∧ c ≠ 34 := by rcases h.2 with rfl | rfl | rfl <;> decide
  unfold oneL
  rw [if_neg (by rw [h2.1]; decide), if_neg (by rw [h2.2.1]; decide), if_neg h2.2.2]
  unfold signL
  rw [if_neg (fun hh => by omega), if_neg (fun hh => hh.2 hn), if_pos h.1, if_pos ⟨h.2, hn⟩]
def oneSign (m : List UInt8) : Bool := match m with
  | [c] => decide (c ∈ signs) && decide (c ≠ 33) && !lowB c && !digB c && decide (c ≠ 34) && decide (c ≠ 32) && decide (c ≠ 10) && decide (c ≠ 35)
  | [c, d] => decide (c ∈ signs) && decide (c = 61 ∨ c = 60 ∨ c = 33) && decide (d = 61) && decide (c ≠ 32) && decide (c ≠ 10) && decide (c ≠ 35)
  | _ => false
theorem sgn_one : ∀ m ∈ sgn17, oneSign m = true := by decide
theorem stands_sign (pre : List UInt8) (x : Tz) (t : List UInt8) (hk : x.kind = 4) (hx : x.tx ∈ sgn17) (hi : x.int = 0) (ht : Aft t) : Stands pre x t := by
  have hs : spellT x = x.tx := by unfold spellT; rw [if_neg (by omega), if_neg (by omega)]
  have h1 := sgn_one _ hx
  unfold Stands
  rw [hs]
  obtain ⟨m, hm⟩ : ∃ z, z = x.tx := ⟨_, rfl⟩
  rw [← hm] at h1 ⊢
  have hcut := cut_run pre m t
  have hz : tk ⟨4, m, 0, pre.length⟩ = tz x := by unfold tk tz; rw [hk, hi, hm]; rfl
  unfold oneSign at h1
  split at h1
  · rename_i c
    simp only [Bool.and_eq_true, decide_eq_true_eq, Bool.not_eq_true'] at h1
    obtain ⟨⟨⟨⟨⟨⟨⟨a1, a2⟩, a3⟩, a4⟩, a5⟩, a6⟩, a7⟩, a8⟩ := h1
    refine ⟨c, by rw [at_pre0]; rfl, a6, a7, a8, _, ?_, hz⟩
    rw [sign_one _ _ c ⟨a1, a2, a3, a4, a5⟩ (by
      rw [at_pre]
      intro h
      have := ht 61 (by simpa using h)
      exact absurd this (by decide))]
    show Sum.inr ((⟨4, cutL _ _ (pre.length + [c].length), 0, pre.length⟩ : Tok), pre.length + 1) = _
    rw [hcut]
    rfl
  · rename_i c d
    simp only [Bool.and_eq_true, decide_eq_true_eq] at h1
    obtain ⟨⟨⟨⟨⟨a1, a2⟩, a3⟩, a4⟩, a5⟩, a6⟩ := h1
    subst a3
    refine ⟨c, by rw [at_pre0]; rfl, a4, a5, a6, _, ?_, hz⟩
    rw [sign_two _ _ c ⟨a1, a2⟩ (by rw [at_pre]; rfl)]
    show Sum.inr ((⟨4, cutL _ _ (pre.length + [c, 61].length), 0, pre.length⟩ : Tok), pre.length + 2) = _
    rw [hcut]
    rfl
  · cases h1
theorem stands (pre : List UInt8) (x : Tz) (t : List UInt8) (hr : rightB x = true) (hx : x.int ≤ 9223372036854775807) (ht : Aft t) : Stands pre x t := by
  unfold rightB at hr
  split at hr
  · rename_i hk
    simp only [Bool.and_eq_true, decide_eq_true_eq] at hr
    exact stands_word pre x t hk hr.1 hr.2 ht
  · split at hr
    · rename_i hk
      simp only [Bool.and_eq_true, decide_eq_true_eq] at hr
      exact stands_num pre x t hk hr.1 hr.2 hx ht
    · split at hr
      · rename_i hk
        simp only [Bool.and_eq_true, decide_eq_true_eq] at hr
        exact stands_text pre x t hk hr.1 hr.2
      · split at hr
        · rename_i hk
          simp only [Bool.and_eq_true, decide_eq_true_eq] at hr
          exact stands_sign pre x t hk hr.1 hr.2 ht
        · cases hr
theorem read_one (pre : List UInt8) (x : Tz) (t : List UInt8) (acc : List Tok) (h : Stands pre x t) : ∃ k, allL (pre ++ (spellT x ++ t)) pre.length acc = allL (pre ++ (spellT x ++ t)) (pre.length + (spellT x).length) (acc ++ [k]) ∧ tk k = tz x := by
  obtain ⟨c, h1, h2, h3, h4, k, h5, h6⟩ := h
  exact ⟨k, all_tok h1 h2 h3 h4 h5 acc, h6⟩
theorem read_more : ∀ (r : List Tz) (pre : List UInt8) (acc : List Tok), (∀ x ∈ r, rightB x = true ∧ x.int ≤ 9223372036854775807) → ∃ ks, allL (pre ++ spF true r) pre.length acc = (acc ++ ks, 0, 0) ∧ ks.map tk = r.map tz
  | [], pre, acc, _ => ⟨[], by rw [all_end (by simp [spF])]; simp, rfl⟩
  | x :: r, pre, acc, h => by
    have e : pre ++ spF true (x :: r) = (pre ++ [32]) ++ (spellT x ++ spF true r) := by simp [spF]
    have hb : (pre ++ spF true (x :: r))[pre.length]? = some 32 := by rw [at_pre0]; simp [spF]
    rw [all_blank hb (.inl rfl)]
    obtain ⟨k, h1, h2⟩ := read_one (pre ++ [32]) x (spF true r) acc (stands _ x _ (h x List.mem_cons_self).1 (h x List.mem_cons_self).2 (aft_spF r))
    obtain ⟨ks, h3, h4⟩ := read_more r (pre ++ [32] ++ spellT x) (acc ++ [k]) (fun y hy => h y (List.mem_cons_of_mem _ hy))
    refine ⟨k :: ks, ?_, by rw [List.map_cons, List.map_cons, h2, h4]⟩
    have e1 : (pre ++ [32]).length = pre.length + 1 := by simp
    have e2 : (pre ++ [32] ++ spellT x).length = (pre ++ [32]).length + (spellT x).length := by rw [List.length_append]
    rw [e2, List.append_assoc (pre ++ [32])] at h3
    rw [e, ← e1, h1]
    rw [h3]
    simp
theorem back (l : List Tz) (hl : ∀ x ∈ l, x.int ≤ 9223372036854775807) (hs : (spellL l).2 = 0) : ∃ ks, srcL (spellL l).1 = (ks, 0, 0) ∧ ks.map tk = l.map tz ∧ (spellL l).1.length ≤ 16384 := by
  unfold spellL at hs ⊢
  split at hs
  · rename_i hr
    rw [if_pos hr]
    split at hs
    · cases hs
    · rename_i hlen
      rw [if_neg hlen]
      have each : ∀ x ∈ l, rightB x = true ∧ x.int ≤ 9223372036854775807 := fun x hx => ⟨List.all_eq_true.1 hr x hx, hl x hx⟩
      show ∃ ks, srcL (spF false l) = (ks, 0, 0) ∧ _ ∧ (spF false l).length ≤ 16384
      unfold srcL
      rw [if_neg hlen]
      cases l with
      | nil => exact ⟨[], by rw [all_end (by simp [spF])], rfl, by omega⟩
      | cons x r =>
        have e : spF false (x :: r) = [] ++ (spellT x ++ spF true r) := by simp [spF]
        obtain ⟨k, h1, h2⟩ := read_one [] x (spF true r) [] (stands _ x _ (each x List.mem_cons_self).1 (each x List.mem_cons_self).2 (aft_spF r))
        obtain ⟨ks, h3, h4⟩ := read_more r (spellT x) [k] (fun y hy => each y (List.mem_cons_of_mem _ hy))
        refine ⟨k :: ks, ?_, by rw [List.map_cons, List.map_cons, h2, h4], by omega⟩
        rw [e]
        have h1' : allL ([] ++ (spellT x ++ spF true r)) 0 [] = _ := h1
        rw [h1']
        simp only [List.nil_append, List.length_nil, Nat.zero_add]
        rw [h3]
        rfl
  · cases hs
end Go.Proofs.YtbcadlocldplfaaDoor.T7
