/- The spelling of tokens, in plain Lean. No walk. -/
import Derived.Test.YtlfkiaphmifelaaDoorTkz
import Derived.Test.YtlfkiaphmifelaaDoorAlk
import Derived.Shelf.Strconv.Itoa3
namespace Go.Proofs.YtlfkiaphmifelaaDoor

def sgn17 : List (List UInt8) := [[40], [41], [123], [125], [91], [93], [44], [61], [60], [43], [45], [42], [47], [37], [61, 61], [33, 61], [60, 61]]
def Tz.tx (x : Tz) : List UInt8 := x.text.data.toList
def wordOk : List UInt8 → Bool
  | [] => false
  | c :: r => decide ((c :: r).length ≤ 24) && lowB c && (c :: r).all innB
/-- May a token be? -/
def rightB (x : Tz) : Bool :=
  if x.kind = 1 then wordOk x.tx && decide (x.int = 0) else if x.kind = 2 then decide (x.tx = []) && decide (0 ≤ x.int) else if x.kind = 3 then decide (x.tx.length ≤ 4095) && decide (x.int = 0)
  else if x.kind = 4 then decide (x.tx ∈ sgn17) && decide (x.int = 0) else false
def hx (n : Nat) : UInt8 := UInt8.ofNat (if n < 10 then 48 + n else 87 + n)
/-- A byte of a text, as a source says it. -/
def q1 (c : UInt8) : List UInt8 :=
  if c = 34 ∨ c = 92 then [92, c] else if c = 10 then [92, 110] else if c.toNat < 32 ∨ 126 < c.toNat then [92, 120, hx (c.toNat / 16), hx (c.toNat % 16)] else [c]
def quoteL (s : List UInt8) : List UInt8 := 34 :: (s.flatMap q1 ++ [34])
def spellT (x : Tz) : List UInt8 := if x.kind = 2 then Lib.itoa x.int else if x.kind = 3 then quoteL x.tx else x.tx
/-- Tokens, one behind the other, a blank ahead of each but the first. -/
def spF : Bool → List Tz → List UInt8
  | _, [] => []
  | f, x :: r => (if f then [32] else []) ++ spellT x ++ spF true r
theorem spF_append (f : Bool) (l : List Tz) (x : Tz) : spF f (l ++ [x]) = spF f l ++ ((if f || !l.isEmpty then [32] else []) ++ spellT x) := by
  induction l generalizing f with
  | nil => simp [spF]
  | cons y l ih =>
    rw [List.cons_append, spF, ih true, spF]
    simp
theorem q1_len (c : UInt8) : (q1 c).length ≤ 4 := by
  unfold q1
  split
  · exact (show 2 ≤ 4 by omega)
  · split
    · exact (show 2 ≤ 4 by omega)
    · split
      · exact (show 4 ≤ 4 by omega)
      · exact (show 1 ≤ 4 by omega)
theorem quote_len (s : List UInt8) : (quoteL s).length ≤ 4 * s.length + 2 := by
  have h : ∀ s : List UInt8, (s.flatMap q1).length ≤ 4 * s.length := fun s => by
    induction s with
    | nil => simp
    | cons c s ih => have := q1_len c; rw [List.flatMap_cons, List.length_append, List.length_cons]; omega
  have := h s
  unfold quoteL
  rw [List.length_cons, List.length_append, List.length_singleton]
  omega
/-- What Spell says. -/
def spellL (l : List Tz) : List UInt8 × Nat := if l.all rightB then (if 16384 < (spF false l).length then ([], 2) else (spF false l, 0)) else ([], 3)
end Go.Proofs.YtlfkiaphmifelaaDoor
