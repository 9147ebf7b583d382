/- Contract of the document's flow. And what follows from it. -/
import Derived.Test.YtbcadlocldplfaaGreatMaf
set_option linter.unusedSimpArgs false
set_option linter.unusedVariables false
namespace Go.Proofs.YtbcadlocldplfaaGreat
open Go.RowKit
theorem param_bind {α : Type} (l : List Tz) (k : List Tw → List Tz → Pr α) : (paramP l).bind k = (ownP l).bind fun s l1 => k [⟨2, 0, 0, s⟩] l1 := by
  unfold paramP
  rw [bind_assoc]
  congr 1
  funext s l1
  rw [Pr.bind_ok, Pr.add_false]
abbrev finP (n : Nat) (s : ByteArray) (ps : List (List Tw)) (l : List Tz) : Pr (List Tw) := (P n .block l).bind fun b l5 => ofP ⟨1, 0, 0, s⟩ (ps ++ [b]) l5
theorem lit_row (wk : World) (base : Nat) (hb : base ≤ wk.heap.size) (x : Tw) : RdL twcell 4 (wk.alloc (.cells #[.int .u8 (x.op : Nat), .int .i64 x.kids, .int .i64 x.int, .string x.text] 29)) (some ⟨wk.heap.size, 0, none⟩) [x] :=
  RdL.of_own twcell_len (World.ownsRow_lit wk #[.int .u8 (x.op : Nat), .int .i64 x.kids, .int .i64 x.int, .string x.text] 1 hb (by unfold maxLen; decide) rfl) rfl
theorem Says.was {α : Type} {b b' : Bool} {l l' : List Tz} {r : Pr α} {a : α} {m : Bool} (h : Says (onB b l r) a b' l' m) (hb : b' = false) : b = false := by
  cases b with
  | false => rfl
  | true =>
    rcases h with ⟨e1, e2⟩ | ⟨e1, e2⟩
    · rw [hb] at e1; cases e1
    · cases e2
theorem ite_bind {α β : Type} {c : Bool} (x y : Pr α) (f : α → List Tz → Pr β) : (if c = true then x else y).bind f = if c = true then x.bind f else y.bind f := by
  cases c <;> rfl
set_option maxRecDepth 100000 in
set_option maxHeartbeats 16000000 in
theorem dflow_any {L : List Tz} (hG : GoodT L) (n : Nat) (h : Nat) (l : List Tz) (lg b : Bool) (w : World) (hr : StD w h L l b lg) (hne : b = false → flowP n l ≠ .out) :
    Calls Tryz.prog 23 #[gp h] w (DPost w h L lg (onB b l (flowP n l))) := by
  have ih := ntd_ok hG n
  have HS0 : Hid (Sd w h L lg w l b false) := Lib.hid (Sd.start hr)
  obtain ⟨R, hR⟩ : ∃ R, R = onB b l (flowP n l) := ⟨_, rfl⟩
  have HNE : Hid (R ≠ .out) := Lib.hid (by rw [hR]; exact onB_out hne)
  rw [← hR]
  have he : R = (onB b l (flowP n l)).add false := by rw [hR, Pr.add_false]
  clear hR hr hne
  unfold flowP at he
  have HE := Lib.hid he
  clear he
  go_enter Tryz.func23, Tryz.ntmps23
  have HC := Lib.hid (HS0.out.must [102, 108, 111, 119])
  go_wp2_with fail
  refine HC.out.mono ?_
  rintro e w1 ⟨rfl, l1, b1, hs, hc, hsy⟩
  clear HC
  have he := onB_bind HE.out hsy
  try dsimp only at he
  rw [Bool.or_false] at he
  have HE := Lib.hid he
  clear he hsy
  have HS1 : Hid (Sd w h L lg w1 l1 b1 false) := Lib.hid hs
  clear hs hc HS0
  have HC := Lib.hid HS1.out.own
  go_wp2_with fail
  refine HC.out.mono ?_
  rintro e w2 ⟨s2, l2, b2, rfl, hs, hc, hsy⟩
  clear HC
  have he := onB_bind HE.out hsy
  try dsimp only at he
  rw [Bool.or_false] at he
  have HE := Lib.hid he
  clear he hsy
  have HS2 : Hid (Sd w h L lg w2 l2 b2 false) := Lib.hid hs
  clear hs hc HS1
  have HC := Lib.hid (HS2.out.must [40])
  go_wp2_with fail
  refine HC.out.mono ?_
  rintro e w3 ⟨rfl, l3, b3, hs, hc, hsy⟩
  clear HC
  have he := onB_bind HE.out hsy
  try dsimp only at he
  rw [Bool.or_false] at he
  have HE := Lib.hid he
  clear he hsy
  have HS3 : Hid (Sd w h L lg w3 l3 b3 false) := Lib.hid hs
  clear hs hc HS2
  have he := HE.out
  unfold lisP at he
  rw [ite_bind] at he
  have HE := Lib.hid he
  clear he
  have HC := Lib.hid (HS3.out.has [41])
  obtain ⟨v, hv⟩ : ∃ v, v = (!b3 && isT [41] l3) := ⟨_, rfl⟩
  have HV3 := Lib.hid hv
  rw [← hv] at HC
  clear hv
  go_wp2_with fail
  refine HC.out.mono ?_
  rintro e w4 ⟨rfl, hs, hc⟩
  clear HC
  cases v
  rotate_left
  · have he := HE.out
    rw [onB_yes (l' := l3.tail) HV3.out] at he
    have HE := Lib.hid he
    clear he
    have HS4 : Hid (Sd w h L lg w4 l3.tail b3 false) := Lib.hid hs
    clear hs hc HS3
    have he := HE.out
    rw [Pr.bind_ok, show ((finP n s2 [] l3.tail).add false) = finP n s2 [] l3.tail from Pr.add_false _] at he
    have HE := Lib.hid he
    clear he
    have HON : Hid (Od w w4 none 0 0 []) := Lib.hid (Od.nil _ _)
    have HTN : Hid (([] : List Tw).length ≤ 2048) := Lib.hid (by simp)
    have HZ0 : Hid (b3 = false → (0 : Nat) = ([] : List (List Tw)).length ∧ ([] : List Tw) = ([] : List (List Tw)).flatten) := Lib.hid fun _ => ⟨rfl, rfl⟩
    have HC := Lib.hid (HS4.out.tree (ih .block h l3.tail _ b3 w4 HS4.out.rd (fun hb => bind_ne1 (onB_ne HE.out HNE.out hb))))
    go_wp2_with fail
    refine HC.out.mono ?_
    rintro e w5 ⟨t5, l5, b5, m5, A5, n5, c5, rfl, htl, ho, hs, hc, hsy⟩
    clear HC
    have HWS : Hid (b5 = false → b3 = false) := Lib.hid fun hb => Says.was hsy hb
    have he := onB_bind HE.out hsy
    try dsimp only at he
    obtain ⟨M5, hM⟩ : ∃ z, z = (false || m5) := ⟨_, rfl⟩
    rw [← hM] at he hs
    have HE := Lib.hid he
    have HT5 := Lib.hid htl
    have HO5 := Lib.hid ho
    clear he hsy hM htl ho
    have HS5 : Hid (Sd w h L lg w5 l5 b5 M5) := Lib.hid hs
    have HON : Hid (Od w w5 none 0 0 []) := Lib.hid (HON.out.chg hc HS4.out.lt)
    clear hs hc HS4
    have HSZ : Hid (w.heap.size ≤ w5.heap.size ∧ 0 + n5 ≤ 1000000) := Lib.hid ⟨HS5.out.chg.size, by have := HTN.out; have := HT5.out; have := HON.out.len; have := HO5.out.len; omega⟩
    go_wp2_with (at_builtin; refine wpList_app_tw rfl (.tmp 52) (.tmp 53) rfl w.heap.size 0 0 n5 c5 none A5 [] t5 rfl HON.out.own rfl HO5.out.len HO5.out.rd HSZ.out.2 HSZ.out.1 ?_; intro A6 c6 w6 ho9 hg9; have HOZ := Lib.hid (And.intro ho9 hg9); clear ho9 hg9)
    have HO6 : Hid (Od w w6 A6 n5 c6 ([] ++ t5)) := Lib.hid ⟨by rw [List.nil_append, HO5.out.len], by have hz := HOZ.out.1; rw [Nat.zero_add] at hz; exact hz⟩
    have HS6 : Hid (Sd w h L lg w6 l5 b5 M5) := Lib.hid (HS5.out.grown HON.out HOZ.out.2)
    have HT6 : Hid (([] ++ t5).length ≤ 200000) := Lib.hid (by rw [List.length_append]; have := HTN.out; have := HT5.out; omega)
    clear HS5 HSZ HOZ
    have HF := Lib.hid (HS6.out.top ⟨1, 0, 0, s2⟩ ([] ++ [t5]) 1 HE.out HO6.out (by have := HT6.out; have := HO6.out.len; omega) (fun _ => ⟨rfl, .inl (by simp)⟩))
    refine HF.out.mono ?_
    intro e w99 hp
    obtain ⟨A99, n99, c99, rfl⟩ := hp.ret
    have HP := Lib.hid hp
    clear hp HF
    go_wp2_with fail
    go_ret
    exact HP.out
  have he := HE.out
  rw [onB_no HV3.out] at he
  have HE := Lib.hid he
  clear he
  have HS4 : Hid (Sd w h L lg w4 l3 b3 false) := Lib.hid hs
  clear hs hc HS3
  obtain ⟨j0, hj0⟩ : ∃ j, n = j + 1 ∨ (n = 0 ∧ j = 0) := by
    cases n with
    | zero => exact ⟨0, .inr ⟨rfl, rfl⟩⟩
    | succ j => exact ⟨j, .inl rfl⟩
  have he : R = (onB b3 l3 ((ownP l3).bind fun s l1 => (if isT [41] l1 then Pr.ok ([] ++ [[⟨2, 0, 0, s⟩]]) l1.tail false else (mustP [44] l1).bind fun _ l2 => listP paramP [41] j0 ([] ++ [[⟨2, 0, 0, s⟩]]) l2).bind (finP n s2))).add false := by
    have hE := HE.out
    rcases hj0 with h0 | ⟨h0, h1⟩
    · conv at hE => rhs; rw [show listP paramP [41] n [] l3 = listP paramP [41] (j0 + 1) [] l3 from by rw [← h0]]
      rw [listP, bind_assoc, param_bind] at hE
      exact hE
    · rcases hbb : b3 with _ | _
      · rw [h0, hbb] at hE
        exact absurd hE HNE.out
      · rw [hE, hbb]
        rfl
  have HE := Lib.hid he
  clear he hj0
  have HC := Lib.hid HS4.out.own
  go_wp2_with fail
  refine HC.out.mono ?_
  rintro e w5 ⟨s5, l5, b5, rfl, hs, hc, hsy⟩
  clear HC
  have he := onB_bind HE.out hsy
  try dsimp only at he
  rw [Bool.or_false] at he
  have HE := Lib.hid he
  clear he hsy
  have HS5 : Hid (Sd w h L lg w5 l5 b5 false) := Lib.hid hs
  clear hs hc HS4
  have HON : Hid (Od w w5 none 0 0 []) := Lib.hid (Od.nil _ _)
  have HTN : Hid (([] : List Tw).length ≤ 100001) := Lib.hid (by simp)
  have hal : Below w5.heap.size w5 (w5.alloc (.cells #[.int .u8 2, .int .i64 0, .int .i64 0, .string s5] 29)) := (Below.refl _ _).alloc (Nat.le_refl _) _
  have HAP : Hid (Od w (w5.alloc (.cells #[.int .u8 2, .int .i64 0, .int .i64 0, .string s5] 29)) none 0 0 [] ∧ Sd w h L lg (w5.alloc (.cells #[.int .u8 2, .int .i64 0, .int .i64 0, .string s5] 29)) l5 b5 false ∧ RdL twcell 4 (w5.alloc (.cells #[.int .u8 2, .int .i64 0, .int .i64 0, .string s5] 29)) (some ⟨w5.heap.size, 0, none⟩) [⟨2, 0, 0, s5⟩]) := Lib.hid ⟨HON.out.chg (h := h) (Chg.of_below hal) HS5.out.lt, HS5.out.below hal, lit_row w5 w.heap.size HS5.out.chg.size ⟨2, 0, 0, s5⟩⟩
  clear hal
  have HLN := Lib.hid HAP.out.1.len
  go_upto_region 9 with (at_builtin; refine wpList_app_tw rfl (.tmp 19) (.tmp 22) rfl w.heap.size 0 0 1 1 none (some ⟨w5.heap.size, 0, none⟩) [] [⟨2, 0, 0, s5⟩] rfl HAP.out.1.own rfl rfl HAP.out.2.2 (by have := HLN.out; have := HTN.out; omega) HAP.out.2.1.chg.size ?_; intro A6 c6 w6 ho9 hg9; have HOZ := Lib.hid (And.intro ho9 hg9); clear ho9 hg9)
  have HO6 : Hid (Od w w6 A6 1 c6 ([] ++ [⟨2, 0, 0, s5⟩])) := Lib.hid ⟨rfl, HOZ.out.1⟩
  have HS6 : Hid (Sd w h L lg w6 l5 b5 false) := Lib.hid (HAP.out.2.1.grown HAP.out.1 HOZ.out.2)
  clear HOZ HS5
  go_wp2_with fail
  go_loopw [4, 5] (fun s4 s5 wr => ∃ (ts : List (List Tw)) (A : Option Addr) (nn c : Nat) (t : List Tw) (l : List Tz) (b M : Bool) (j k : Nat), s4 = .slice A nn c ∧ s5 = .int .i64 (k : Nat) ∧ t.length ≤ 100001 ∧ Od w wr A nn c t ∧ Sd w h L lg wr l b M ∧ (b = false → (k = ts.length ∧ t = ts.flatten) ∧ k + l.length ≤ 100000 ∧ t.length ≤ k) ∧ k ≤ 100001 ∧ R = (onB b l ((if isT [41] l then Pr.ok ts l.tail false else (mustP [44] l).bind fun _ l2 => listP paramP [41] j ts l2).bind (finP n s2))).add M) (fun _ _ wr => dbud wr h)
  case atStart => exact ⟨[] ++ [[⟨2, 0, 0, s5⟩]], A6, 1, c6, ([] ++ [⟨2, 0, 0, s5⟩]), l5, b5, false, j0, 1, rfl, rfl, by simp, HO6.out, HS6.out, fun _ => ⟨⟨rfl, by simp⟩, by have := HS6.out.rd.len; omega, by simp⟩, by omega, HE.out⟩
  case round =>
    clear HE HS6 HO6
    obtain ⟨ts, A, nn, c, t, l, b, M, j, k, rfl, rfl, htl, ho, hs, hp, hk, he⟩ := hrel
    have HT0 := Lib.hid htl
    have HO0 := Lib.hid ho
    have HS0 := Lib.hid hs
    have HE := Lib.hid he
    have HPA := Lib.hid hp
    have k2 := HS0.out.rd.bad_cell
    clear htl ho hs he hp
    cases b with
    | true =>
      have he : R = (onB true l (finP n s2 ts l)).add M := HE.out
      have HE := Lib.hid he
      have HPB : Hid (true = false → k = ts.length ∧ t = ts.flatten) := Lib.hid fun hh => by cases hh
      clear he
      have HC := Lib.hid (HS0.out.tree (ih .block h l _ true wr HS0.out.rd (fun hb => bind_ne1 (onB_ne HE.out HNE.out hb))))
      go_wp2_with fail
      refine HC.out.mono ?_
      rintro e w1 ⟨t1, l1, b1, m1, A1, n1, c1, rfl, htl, ho, hs, hc, hsy⟩
      clear HC
      have HWS : Hid (b1 = false → true = false) := Lib.hid fun hb => Says.was hsy hb
      have he := onB_bind HE.out hsy
      try dsimp only at he
      obtain ⟨M1, hM⟩ : ∃ z, z = (M || m1) := ⟨_, rfl⟩
      rw [← hM] at he hs
      have HE := Lib.hid he
      have HT1 := Lib.hid htl
      have HO1 := Lib.hid ho
      clear he hsy hM htl ho
      have HS1 : Hid (Sd w h L lg w1 l1 b1 M1) := Lib.hid hs
      have HO0 : Hid (Od w w1 A nn c t) := Lib.hid (HO0.out.chg hc HS0.out.lt)
      clear hs hc HS0
      have HSZ : Hid (w.heap.size ≤ w1.heap.size ∧ nn + n1 ≤ 1000000) := Lib.hid ⟨HS1.out.chg.size, by have := HT0.out; have := HT1.out; have := HO0.out.len; have := HO1.out.len; omega⟩
      go_wp2_with (at_builtin; refine wpList_app_tw rfl (.tmp 52) (.tmp 53) rfl w.heap.size nn c n1 c1 A A1 t t1 rfl HO0.out.own rfl HO1.out.len HO1.out.rd HSZ.out.2 HSZ.out.1 ?_; intro A2 c2 w2 ho9 hg9; have HOZ := Lib.hid (And.intro ho9 hg9); clear ho9 hg9)
      have HO2 : Hid (Od w w2 A2 (nn + n1) c2 (t ++ t1)) := Lib.hid ⟨by rw [List.length_append, HO0.out.len, HO1.out.len], HOZ.out.1⟩
      have HS2 : Hid (Sd w h L lg w2 l1 b1 M1) := Lib.hid (HS1.out.grown HO0.out HOZ.out.2)
      have HT2 : Hid ((t ++ t1).length ≤ 200000) := Lib.hid (by rw [List.length_append]; have := HT0.out; have := HT1.out; omega)
      clear HS1 HSZ HOZ
      have HF := Lib.hid (HS2.out.top ⟨1, 0, 0, s2⟩ (ts ++ [t1]) ((k : Nat) + 1 : Int) HE.out HO2.out (by have := HT2.out; have := HO2.out.len; omega) (fun hb => by
        obtain ⟨e1, e2⟩ := HPB.out (HWS.out hb)
        refine ⟨by rw [List.length_append, e1]; rfl, .inl (by rw [e2, flatten_snoc])⟩))
      refine HF.out.mono ?_
      intro e w99 hp
      obtain ⟨A99, n99, c99, rfl⟩ := hp.ret
      have HP := Lib.hid hp
      clear hp HF
      go_wp2_with fail
      go_ret
      exact HP.out
    | false =>
      have HBU := Lib.hid HS0.out.bud
      have HC := Lib.hid (HS0.out.has [41])
      obtain ⟨v, hv⟩ : ∃ v, v = (!false && isT [41] l) := ⟨_, rfl⟩
      have HV := Lib.hid hv
      rw [← hv] at HC
      clear hv
      go_wp2_with fail
      refine HC.out.mono ?_
      rintro e w1 ⟨rfl, hs, hc⟩
      clear HC
      cases v with
      | true =>
        have hT : isT [41] l = true := by have := HV.out; rw [Bool.not_false, Bool.true_and] at this; exact this.symm
        have he : R = (onB false l.tail (finP n s2 ts l.tail)).add M := by
          have := HE.out
          rw [if_pos hT, Pr.bind_ok, Pr.add_false] at this
          exact this
        have HE := Lib.hid he
        have HO1 : Hid (Od w w1 A nn c t) := Lib.hid (HO0.out.chg hc HS0.out.lt)
        have HT1 := HT0
        have HS1 : Hid (Sd w h L lg w1 l.tail false M) := Lib.hid hs
        clear he hT hs hc HS0
        have HC := Lib.hid (HS1.out.tree (ih .block h l.tail _ false w1 HS1.out.rd (fun hb => bind_ne1 (onB_ne HE.out HNE.out hb))))
        go_wp2_with fail
        refine HC.out.mono ?_
        rintro e w2 ⟨t2, l2, b2, m2, A2, n2, c2, rfl, htl, ho, hs, hc, hsy⟩
        clear HC
        have HWS : Hid (b2 = false → false = false) := Lib.hid fun hb => Says.was hsy hb
        have he := onB_bind HE.out hsy
        try dsimp only at he
        obtain ⟨M2, hM⟩ : ∃ z, z = (M || m2) := ⟨_, rfl⟩
        rw [← hM] at he hs
        have HE := Lib.hid he
        have HT2 := Lib.hid htl
        have HO2 := Lib.hid ho
        clear he hsy hM htl ho
        have HS2 : Hid (Sd w h L lg w2 l2 b2 M2) := Lib.hid hs
        have HO1 : Hid (Od w w2 A nn c t) := Lib.hid (HO1.out.chg hc HS1.out.lt)
        clear hs hc HS1
        have HSZ : Hid (w.heap.size ≤ w2.heap.size ∧ nn + n2 ≤ 1000000) := Lib.hid ⟨HS2.out.chg.size, by have := HT1.out; have := HT2.out; have := HO1.out.len; have := HO2.out.len; omega⟩
        go_wp2_with (at_builtin; refine wpList_app_tw rfl (.tmp 52) (.tmp 53) rfl w.heap.size nn c n2 c2 A A2 t t2 rfl HO1.out.own rfl HO2.out.len HO2.out.rd HSZ.out.2 HSZ.out.1 ?_; intro A3 c3 w3 ho9 hg9; have HOZ := Lib.hid (And.intro ho9 hg9); clear ho9 hg9)
        have HO3 : Hid (Od w w3 A3 (nn + n2) c3 (t ++ t2)) := Lib.hid ⟨by rw [List.length_append, HO1.out.len, HO2.out.len], HOZ.out.1⟩
        have HS3 : Hid (Sd w h L lg w3 l2 b2 M2) := Lib.hid (HS2.out.grown HO1.out HOZ.out.2)
        have HT3 : Hid ((t ++ t2).length ≤ 200000) := Lib.hid (by rw [List.length_append]; have := HT1.out; have := HT2.out; omega)
        clear HS2 HSZ HOZ
        have HF := Lib.hid (HS3.out.top ⟨1, 0, 0, s2⟩ (ts ++ [t2]) ((k : Nat) + 1 : Int) HE.out HO3.out (by have := HT3.out; have := HO3.out.len; omega) (fun hb => by
          obtain ⟨e1, e2⟩ := (fun _ => (HPA.out (by trivial)).1) (HWS.out hb)
          refine ⟨by rw [List.length_append, e1]; rfl, .inl (by rw [e2, flatten_snoc])⟩))
        refine HF.out.mono ?_
        intro e w99 hp
        obtain ⟨A99, n99, c99, rfl⟩ := hp.ret
        have HP := Lib.hid hp
        clear hp HF
        go_wp2_with fail
        go_ret
        exact HP.out
      | false =>
        have hT : isT [41] l = false := by have := HV.out; rw [Bool.not_false, Bool.true_and] at this; exact this.symm
        have he : R = (onB false l ((mustP [44] l).bind fun _ l2 => (listP paramP [41] j ts l2).bind (finP n s2))).add M := by
          have := HE.out
          rw [if_neg (by rw [hT]; simp), bind_assoc] at this
          exact this
        have HE := Lib.hid he
        have HO1 : Hid (Od w w1 A nn c t) := Lib.hid (HO0.out.chg hc HS0.out.lt)
        have HT1 := HT0
        have HS1 : Hid (Sd w h L lg w1 l false M) := Lib.hid hs
        clear he hT hs hc HS0
        have HC := Lib.hid (HS1.out.must [44])
        go_wp2_with fail
        refine HC.out.mono ?_
        rintro e w2 ⟨rfl, l2, b2, hs, hc, hsy⟩
        clear HC
        have HL2 : Hid (b2 = false → l2.length < l.length) := Lib.hid fun hb => by
          rcases hsy with ⟨e1, e2⟩ | ⟨e1, e2⟩
          · rw [hb] at e1; cases e1
          · obtain ⟨_, _, h2⟩ := must_inv e2
            omega
        have he := onB_bind HE.out hsy
        try dsimp only at he
        rw [Bool.or_false] at he
        have HE := Lib.hid he
        clear he hsy
        have HS2 : Hid (Sd w h L lg w2 l2 b2 M) := Lib.hid hs
        have HO1 : Hid (Od w w2 A nn c t) := Lib.hid (HO1.out.chg hc HS1.out.lt)
        clear hs hc HS1
        obtain ⟨j1, hj1⟩ : ∃ i, j = i + 1 ∨ (j = 0 ∧ i = 0) := by
          cases j with
          | zero => exact ⟨0, .inr ⟨rfl, rfl⟩⟩
          | succ i => exact ⟨i, .inl rfl⟩
        have he : R = (onB b2 l2 ((ownP l2).bind fun s l1 => (if isT [41] l1 then Pr.ok (ts ++ [[⟨2, 0, 0, s⟩]]) l1.tail false else (mustP [44] l1).bind fun _ l2 => listP paramP [41] j1 (ts ++ [[⟨2, 0, 0, s⟩]]) l2).bind (finP n s2))).add M := by
          have hE := HE.out
          rcases hj1 with h0 | ⟨h0, h1⟩
          · rw [h0, listP, bind_assoc, param_bind] at hE
            exact hE
          · rcases hbb : b2 with _ | _
            · rw [h0, hbb] at hE
              exact absurd hE HNE.out
            · rw [hE, hbb]
              rfl
        have HE := Lib.hid he
        clear he hj1
        have HC := Lib.hid HS2.out.own
        go_wp2_with fail
        refine HC.out.mono ?_
        rintro e w3 ⟨s3, l3, b3, rfl, hs, hc, hsy⟩
        clear HC
        have HL3 : Hid (b3 = false → l3.length < l.length) := Lib.hid fun hb => by
          have hb0 := Says.was hsy hb
          have h1 := HL2.out hb0
          rcases hsy with ⟨e1, e2⟩ | ⟨e1, e2⟩
          · rw [hb] at e1; cases e1
          · rw [hb0] at e2
            obtain ⟨_, _, h2⟩ := own_inv e2
            omega
        have he := onB_bind HE.out hsy
        try dsimp only at he
        rw [Bool.or_false] at he
        have HE := Lib.hid he
        clear he hsy
        have HS3 : Hid (Sd w h L lg w3 l3 b3 M) := Lib.hid hs
        have HO1 : Hid (Od w w3 A nn c t) := Lib.hid (HO1.out.chg hc HS2.out.lt)
        clear hs hc HS2
        have HK0 : Hid (k ≤ 100000 ∧ t.length ≤ 100000) := Lib.hid (by have h2 := (HPA.out (by trivial)).2; omega)
        have hk0 := HK0.out.1
        clear hk
        have hal : Below w3.heap.size w3 (w3.alloc (.cells #[.int .u8 2, .int .i64 0, .int .i64 0, .string s3] 29)) := (Below.refl _ _).alloc (Nat.le_refl _) _
        have HAP : Hid (Od w (w3.alloc (.cells #[.int .u8 2, .int .i64 0, .int .i64 0, .string s3] 29)) A nn c t ∧ Sd w h L lg (w3.alloc (.cells #[.int .u8 2, .int .i64 0, .int .i64 0, .string s3] 29)) l3 b3 M ∧ RdL twcell 4 (w3.alloc (.cells #[.int .u8 2, .int .i64 0, .int .i64 0, .string s3] 29)) (some ⟨w3.heap.size, 0, none⟩) [⟨2, 0, 0, s3⟩]) := Lib.hid ⟨HO1.out.chg (h := h) (Chg.of_below hal) HS3.out.lt, HS3.out.below hal, lit_row w3 w.heap.size HS3.out.chg.size ⟨2, 0, 0, s3⟩⟩
        clear hal
        have HLN := Lib.hid HAP.out.1.len
        go_upto_region 14 with (at_builtin; refine wpList_app_tw rfl (.tmp 38) (.tmp 41) rfl w.heap.size nn c 1 1 A (some ⟨w3.heap.size, 0, none⟩) t [⟨2, 0, 0, s3⟩] rfl HAP.out.1.own rfl rfl HAP.out.2.2 (by have := HLN.out; have := HT1.out; omega) HAP.out.2.1.chg.size ?_; intro A4 c4 w4 ho9 hg9; have HOZ := Lib.hid (And.intro ho9 hg9); clear ho9 hg9)
        have HO4 : Hid (Od w w4 A4 (nn + 1) c4 (t ++ [⟨2, 0, 0, s3⟩])) := Lib.hid ⟨by rw [List.length_append, HAP.out.1.len]; rfl, HOZ.out.1⟩
        have HS4 : Hid (Sd w h L lg w4 l3 b3 M) := Lib.hid (HAP.out.2.1.grown HAP.out.1 HOZ.out.2)
        clear HOZ HS3
        have hlen : dbud w4 h < dbud wr h := by
          rw [HBU.out, HS4.out.bud]
          rcases hbb : b3 with _ | _
          · have := HL3.out hbb
            simp
            omega
          · simp
        have HLEN := Lib.hid hlen
        clear hlen
        go_wp2_with fail
        go_roundw
        case rel => exact ⟨ts ++ [[⟨2, 0, 0, s3⟩]], A4, (nn + 1), c4, (t ++ [⟨2, 0, 0, s3⟩]), l3, b3, M, j1, k + 1, rfl, by go_num, by rw [List.length_append]; have := HK0.out.2; simp; omega, HO4.out, HS4.out, fun hb => ⟨⟨by rw [List.length_append, (HPA.out (by trivial)).1.1]; rfl, by rw [(HPA.out (by trivial)).1.2, flatten_snoc]⟩, by have h1 := HL3.out hb; have h2 := (HPA.out (by trivial)).2.1; omega, by rw [List.length_append]; have h2 := (HPA.out (by trivial)).2.2; simp; omega⟩, by omega, HE.out⟩
        case measure => exact HLEN.out
end Go.Proofs.YtbcadlocldplfaaGreat
