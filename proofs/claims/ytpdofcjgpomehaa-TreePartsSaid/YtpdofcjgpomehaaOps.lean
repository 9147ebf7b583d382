/- Contracts of tree.Depth, of the laws' wakes, of the document's Expression and Statement; the walk of TreeOps. -/
import Derived.Test.YtpdofcjgpomehaaDpt
namespace Go.Proofs.Ytpdofcjgpomehaa
open Go.RowKit

theorem Depth_ok (T : Tr) (A : Option Addr) (c : Nat) (l : List Tw) (w : World) (hT : Right l T) (hd : T.depth ≤ 40) (hok : ∀ x ∈ l, TwOk x) (hrd : RdW w A l) (hlen : l.length ≤ 2048) (hA : ∀ a, A = some a → l ≠ [] → a.block < w.heap.size) :
    Calls Try.prog 21 #[.slice A l.length c] w fun e w' => e = .returned (.int .i64 (T.depth : Nat)) ∧ Below w.heap.size w w' := by
  have HC := Lib.hid (check_any A c l w hok hrd (by omega) hA)
  rw [chk_right hT hlen, if_pos hd] at HC
  have HD := Lib.hid (fun W (hb : Below w.heap.size w W) => depth_any T A c l W (ok_cok T _ hT.1) hT.2 (by omega) (hrd.below hb) (fun a ha hl => Nat.lt_of_lt_of_le (hA a ha hl) hb.size))
  obtain ⟨n, hn⟩ : ∃ n, n = l.length := ⟨_, rfl⟩
  rw [← hn] at HC HD hlen ⊢
  clear hok hrd hA hn hT hd
  go_enter Try.func21, Try.ntmps21
  go_wp2_with fail
  refine HC.out.mono ?_
  rintro e w1 ⟨rfl, hb1⟩
  have HB := Lib.hid hb1
  clear hb1
  go_wp2_with fail
  refine (HD.out w1 HB.out).mono ?_
  rintro e w2 ⟨rfl, hb2⟩
  have HB2 := Lib.hid (HB.out.trans (hb2.mono HB.out.size))
  clear hb2
  go_wp2_with fail
  go_ret
  exact ⟨rfl, HB2.out⟩
theorem Depth_bad (A : Option Addr) (c : Nat) (l : List Tw) (w : World) (hbad : (chk l).2 ≠ 0) (hok : ∀ x ∈ l, TwOk x) (hrd : RdW w A l) (hlen : l.length ≤ 9223372036854775807) (hA : ∀ a, A = some a → l ≠ [] → a.block < w.heap.size) :
    Calls Try.prog 21 #[.slice A l.length c] w fun e w' => e = .returned (.int .i64 0) ∧ Below w.heap.size w w' := by
  have HC := Lib.hid (check_any A c l w hok hrd hlen hA)
  obtain ⟨er, her⟩ : ∃ z, z = (chk l).2 := ⟨_, rfl⟩
  rw [← her] at HC hbad
  have hne : (er != 0) = true := by rw [bne_iff_ne]; exact hbad
  obtain ⟨n, hn⟩ : ∃ n, n = l.length := ⟨_, rfl⟩
  rw [← hn] at HC hlen ⊢
  clear hok hrd hA hn her hbad
  go_enter Try.func21, Try.ntmps21
  go_wp2_with fail
  refine HC.out.mono ?_
  rintro e w1 ⟨rfl, hb1⟩
  have HB := Lib.hid hb1
  clear hb1
  go_wp2_with fail
  go_ret
  exact ⟨rfl, HB.out⟩
abbrev noText : ByteArray := ⟨#[]⟩
def three : List Tw := [⟨36, 2, 0, noText⟩, ⟨23, 0, 1, noText⟩, ⟨23, 0, 2, noText⟩]
def threeT : Tr := .node ⟨36, 2, 0, noText⟩ [.node ⟨23, 0, 1, noText⟩ [], .node ⟨23, 0, 2, noText⟩ []]
theorem txt_no : txtB 36 noText = true := by
  show (ByteArray.toList noText).isEmpty = true
  rw [ByteArray.toList_eq]; rfl
theorem three_right : Right three threeT := by
  refine ⟨?_, rfl⟩
  unfold threeT
  simp only [Tr.ok, oks, and_true]
  refine ⟨?_, rfl, ⟨?_, rfl⟩, ?_, rfl⟩
  · unfold fineB
    rw [show formOf 36 = some ⟨36, 2, 2, 40⟩ from rfl]
    dsimp only
    rw [txt_no]; decide
  · unfold fineB
    rw [show formOf 23 = some ⟨36, 0, 0, 35⟩ from rfl]
    dsimp only
    rw [txt_no]; decide
  · unfold fineB
    rw [show formOf 23 = some ⟨36, 0, 0, 35⟩ from rfl]
    dsimp only
    rw [txt_no]; decide
theorem three_ok : ∀ x ∈ three, TwOk x := by
  intro x hx
  unfold three at hx
  simp only [List.mem_cons, List.not_mem_nil, or_false] at hx
  rcases hx with rfl | rfl | rfl <;> exact ⟨by decide, by decide, by decide, by decide, by decide, by decide⟩
theorem wakes_any (w : World) : Calls Try.prog 12 #[] w fun e w' => e = .returned (.bool true) ∧ Below w.heap.size w w' := by
  have hb := Blk.new w 33 #[.int .u8 36, .int .i64 2, .int .i64 0, .string noText, .int .u8 23, .int .i64 0, .int .i64 1, .string noText, .int .u8 23, .int .i64 0, .int .i64 2, .string noText]
  have hbl : Below w.heap.size w (w.alloc (.cells #[.int .u8 36, .int .i64 2, .int .i64 0, .string noText, .int .u8 23, .int .i64 0, .int .i64 1, .string noText, .int .u8 23, .int .i64 0, .int .i64 2, .string noText] 33)) := (Below.refl _ _).alloc (Nat.le_refl _) _
  have HB := Lib.hid hbl
  have HD := Lib.hid (Depth_ok threeT (some ⟨w.heap.size, 0, none⟩) 3 three (w.alloc (.cells #[.int .u8 36, .int .i64 2, .int .i64 0, .string noText, .int .u8 23, .int .i64 0, .int .i64 1, .string noText, .int .u8 23, .int .i64 0, .int .i64 2, .string noText] 33)) three_right (by decide) three_ok
    (.inr ⟨w.heap.size, 0, rfl, hb.lt, fun k x hx => by
      unfold three at hx
      match k, hx with
      | 0, hx => injection hx with hx; subst hx; exact ⟨hb.cell 0, hb.cell 1, hb.cell 2, hb.cell 3⟩
      | 1, hx => injection hx with hx; subst hx; exact ⟨hb.cell 4, hb.cell 5, hb.cell 6, hb.cell 7⟩
      | 2, hx => injection hx with hx; subst hx; exact ⟨hb.cell 8, hb.cell 9, hb.cell 10, hb.cell 11⟩
      | k + 3, hx => simp at hx⟩) (by decide) (fun a ha _ => by injection ha with ha; subst ha; exact hb.lt))
  clear hb hbl
  go_enter Try.func12, Try.ntmps12
  go_wp2_with fail
  refine HD.out.mono ?_
  rintro e w2 ⟨rfl, hb2⟩
  have HB2 := Lib.hid (HB.out.trans (hb2.mono HB.out.size))
  clear hb2
  go_wp2_with fail
  go_ret
  exact ⟨rfl, HB2.out⟩
theorem refExpr_any (op : Nat) (w : World) (h : op < 256) : Calls Try.prog 9 #[.int .u8 (op : Nat)] w fun e w' => e = .returned (.bool (exprB op)) ∧ w' = w := by
  have HC : Hid (exprB op = decide (20 ≤ op ∧ op ≤ 26 ∨ 30 ≤ op ∧ op ≤ 48 ∨ 50 ≤ op ∧ op ≤ 57)) := rfl
  rcases (by omega : op < 20 ∨ (20 ≤ op ∧ op ≤ 26) ∨ (27 ≤ op ∧ op ≤ 29) ∨ (30 ≤ op ∧ op ≤ 48) ∨ op = 49 ∨ (50 ≤ op ∧ op ≤ 57) ∨ 58 ≤ op) with h1 | h1 | h1 | h1 | h1 | h1 | h1
  case inr.inr.inr.inr.inl =>
    subst h1
    go_enter Try.func9, Try.ntmps9
    go_wp2_with fail
    go_ret
    exact ⟨rfl, rfl⟩
  all_goals
    go_enter Try.func9, Try.ntmps9
    go_wp2_with fail
    go_ret
    refine ⟨ret_bool ?_, rfl⟩
    rw [HC.out]
    first | (rw [decide_eq_decide]; omega) | (symm; rw [decide_eq_true_iff]; omega) | (symm; rw [decide_eq_false_iff_not]; omega) | (rw [Bool.eq_iff_iff]; simp only [Bool.or_eq_true, decide_eq_true_eq]; omega)
theorem refStmt_any (op : Nat) (w : World) (h : op < 256) : Calls Try.prog 11 #[.int .u8 (op : Nat)] w fun e w' => e = .returned (.bool (stmtB op)) ∧ w' = w := by
  have HC : Hid (stmtB op = decide (4 ≤ op ∧ op ≤ 11)) := rfl
  rcases (by omega : op < 4 ∨ (4 ≤ op ∧ op ≤ 11) ∨ 12 ≤ op) with h1 | h1 | h1
  all_goals
    go_enter Try.func11, Try.ntmps11
    go_wp2_with fail
    go_ret
    refine ⟨ret_bool ?_, rfl⟩
    rw [HC.out]
    first | (rw [decide_eq_decide]; omega) | (symm; rw [decide_eq_false_iff_not]; omega)
theorem treeOps_walk (w : World) : Calls Try.prog 3 #[] w fun e w' => e = .returned (.bool true) ∧ Below w.heap.size w w' := by
  have HW := Lib.hid (wakes_any w)
  go_enter Try.func3, Try.ntmps3
  go_wp2_with fail
  go_loopw [1] (fun s1 wr => wr = w ∧ ∃ k : Nat, s1 = .int .i64 k ∧ k ≤ 256) (fun s1 _ => 256 - (intOf s1).toNat)
  case atStart => exact ⟨rfl, 0, rfl, by omega⟩
  case round =>
    obtain ⟨rfl, k, rfl, hk⟩ := hrel
    by_cases hlt : k < 256
    · have d1 : decide ((k : Int) < 256) = true := decide_eq_true (by omega)
      have H1 := Lib.hid (expression_any k wr hlt)
      have H2 := Lib.hid (refExpr_any k wr hlt)
      have H3 := Lib.hid (statement_any k wr hlt)
      have H4 := Lib.hid (refStmt_any k wr hlt)
      generalize exprB k = a at *
      generalize stmtB k = b at *
      have ha : (a != a) = false := by cases a <;> rfl
      have hb : (b != b) = false := by cases b <;> rfl
      go_wp2_with fail
      refine H1.out.mono ?_
      rintro e w2 ⟨rfl, hw2⟩
      rw [hw2]
      clear hw2 w2
      go_wp2_with fail
      refine H2.out.mono ?_
      rintro e w2 ⟨rfl, hw2⟩
      rw [hw2]
      clear hw2 w2
      go_wp2_with fail
      refine H3.out.mono ?_
      rintro e w2 ⟨rfl, hw2⟩
      rw [hw2]
      clear hw2 w2
      go_wp2_with fail
      refine H4.out.mono ?_
      rintro e w2 ⟨rfl, hw2⟩
      rw [hw2]
      clear hw2 w2
      go_wp2_with fail
      go_roundw
      case rel => exact ⟨trivial, k + 1, by go_num, by omega⟩
      case measure => simp [intOf]; omega
    · have d1 : decide ((k : Int) < 256) = false := decide_eq_false (by omega)
      go_wp2_with fail
      refine HW.out.mono ?_
      rintro e w2 ⟨rfl, hb2⟩
      have HB := Lib.hid hb2
      clear hb2
      go_wp2_with fail
      go_ret
      exact ⟨rfl, HB.out⟩
end Go.Proofs.Ytpdofcjgpomehaa
