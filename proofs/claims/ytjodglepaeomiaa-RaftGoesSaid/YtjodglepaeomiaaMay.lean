/- Contracts of raft.may, plain. -/
import Derived.Outline
import Derived.Test.YtjodglepaeomiaaRis
namespace Go.Proofs.Ytjodglepaeomiaa
open Go.RowKit

def mayB (term vote : Int) (log : List Ent) (nodes : Int) : Bool :=
  decide (0 ≤ term ∧ term ≤ 1152921504606846976 ∧ -1 ≤ vote ∧ vote < nodes ∧ log.length ≤ 4096) && rises log 1 term
set_option maxRecDepth 100000 in
set_option maxHeartbeats 2000000 in
theorem may_any (X : Option Addr) (c : Nat) (l : List Ent) (term vote nodes : Int) (w : World) (hrd : RdE w X l) (hlen : l.length ≤ 9223372036854775807) :
    Calls Try.prog 33 #[.agg #[.int .i64 term, .int .i64 vote, .slice X l.length c], .int .i64 nodes] w fun e w' => e = .returned (.bool (mayB term vote l nodes)) ∧ Below w.heap.size w w' := by
  have HB0 : Hid (Below w.heap.size w (w.alloc (.cells #[.int .i64 term, .int .i64 vote, .slice X l.length c] 29))) := (Below.refl _ w).alloc (Nat.le_refl _) _
  have HRI := Lib.hid (rises_any X c l 1 term _ (hrd.below HB0.out) hlen)
  obtain ⟨bb, hbb⟩ : ∃ b, b = mayB term vote l nodes := ⟨_, rfl⟩
  obtain ⟨rr, hrr⟩ : ∃ b, b = rises l 1 term := ⟨_, rfl⟩
  obtain ⟨n, hn⟩ : ∃ n, n = l.length := ⟨_, rfl⟩
  rw [← hbb]
  unfold mayB at hbb
  rw [← hn] at HRI hlen HB0 hbb ⊢
  rw [← hrr] at HRI hbb
  have HBAD := Lib.hid (show ¬ (0 ≤ term ∧ term ≤ 1152921504606846976 ∧ -1 ≤ vote ∧ vote < nodes ∧ n ≤ 4096) → false = bb from fun h => by rw [hbb, decide_eq_false h]; rfl)
  have HGOOD := Lib.hid (show (0 ≤ term ∧ term ≤ 1152921504606846976 ∧ -1 ≤ vote ∧ vote < nodes ∧ n ≤ 4096) → rr = bb from fun h => by rw [hbb, decide_eq_true h]; rfl)
  clear hbb hrr hn hrd
  go_enter Try.func33, Try.ntmps33
  go_wp2_with ((with_reducible refine HRI.out.mono ?_); rintro e w1 ⟨rfl, hb1⟩; have HB1 := Lib.hid (HB0.out.trans (hb1.mono HB0.out.size)); clear hb1)
  all_goals
    go_ret
    first
    | exact ⟨ret_bool (HGOOD.out (by omega)), HB1.out⟩
    | exact ⟨ret_bool (HBAD.out (by omega)), HB0.out⟩

/-- A message as a value. -/
def mcell (E : Option Addr) (c : Nat) (m : Mg) : List Value :=
  [.int .u8 (m.kind : Nat), .int .i64 m.frm, .int .i64 m.to, .int .i64 m.term, .int .i64 m.index, .int .i64 m.logTerm, .slice E m.ents.length c, .int .i64 m.commit, .bool m.ok]
set_option maxRecDepth 100000 in
set_option maxHeartbeats 4000000 in
theorem plain_bits (kind n c : Nat) (frm to term index logTerm commit : Int) (E : Option Addr) (ok bi bt bc bn : Bool) (w : World) (h1 : (index == 0) = bi) (h2 : (logTerm == 0) = bt) (h3 : (commit == 0) = bc) (h4 : decide (0 < n) = bn) (hk : kind < 256) (hn : n ≤ 9223372036854775807) :
    Calls Try.prog 64 #[.agg #[.int .u8 (kind : Nat), .int .i64 frm, .int .i64 to, .int .i64 term, .int .i64 index, .int .i64 logTerm, .slice E n c, .int .i64 commit, .bool ok]] w fun e w' => e = .returned (.bool (plB kind bi bt bc bn ok)) ∧ Below w.heap.size w w' := by
  have g1 : (index != 0) = !bi := by rw [bne, h1]
  have g2 : (logTerm != 0) = !bt := by rw [bne, h2]
  have g3 : (commit != 0) = !bc := by rw [bne, h3]
  have g4 : decide ((0 : Int) < (n : Int)) = bn := by rw [← h4]; simp
  have HB0 : Hid (Below w.heap.size w (w.alloc (.cells #[.int .u8 (kind : Nat), .int .i64 frm, .int .i64 to, .int .i64 term, .int .i64 index, .int .i64 logTerm, .slice E n c, .int .i64 commit, .bool ok] 34))) := (Below.refl _ w).alloc (Nat.le_refl _) _
  have hcase : kind = 1 ∨ kind = 2 ∨ kind = 3 ∨ kind = 4 ∨ (kind ≠ 1 ∧ kind ≠ 2 ∧ kind ≠ 3 ∧ kind ≠ 4) := by omega
  generalize hR : plB kind bi bt bc bn ok = R
  have HR := Lib.hid hR
  clear hR
  rcases hcase with rfl | rfl | rfl | rfl | ⟨k1, k2, k3, k4⟩
  case inr.inr.inr.inr =>
    have q1 : ((kind : Int) == 1) = false := by simp; omega
    have q2 : ((kind : Int) == 2) = false := by simp; omega
    have q3 : ((kind : Int) == 3) = false := by simp; omega
    have q4 : ((kind : Int) == 4) = false := by simp; omega
    have HRR := Lib.hid (show false = R from by rw [← HR.out]; unfold plB; simp [k1, k2, k3, k4])
    clear k1 k2 k3 k4 HR
    go_enter Try.func64, Try.ntmps64
    go_wp2_with fail
    go_quiet (fail)
    go_wp2_with fail
    go_ret
    exact ⟨ret_bool HRR.out, below_drewN HB0.out _⟩
  all_goals
    go_enter Try.func64, Try.ntmps64
    go_wp2_with fail
    go_quiet (fail)
    go_wp2_with fail
    all_goals
      go_ret
      refine ⟨ret_bool ?_, below_drewN HB0.out _⟩
      rw [← HR.out]
      clear HR HB0 h1 h2 h3 h4 g1 g2 g3 g4
      clear hk hn
      revert bi bt bc bn ok
      decide
end Go.Proofs.Ytjodglepaeomiaa
