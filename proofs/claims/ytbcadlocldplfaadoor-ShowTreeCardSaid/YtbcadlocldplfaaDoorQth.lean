/- Plain law: what a source's tokens are made of, and what is read out of such tokens: numbers and texts are small. No walk. And what follows from it. -/
import Derived.Deep.QuietTactic
import Derived.BigQuiet
import Derived.Test.YtbcadlocldplfaaDoorQtb
import Derived.Test.YtbcadlocldplfaaDoorQtc
import Derived.Test.YtbcadlocldplfaaDoorQte
import Derived.Test.YtbcadlocldplfaaDoorQt0
set_option maxHeartbeats 16000000
set_option linter.unusedSimpArgs false
set_option linter.unusedVariables false
namespace Go.Proofs.YtbcadlocldplfaaDoor
open Go.Proofs.Tryd
def ZB (x : Tz) : Prop := 0 <= x.int ∧ x.int <= 9223372036854775807 ∧ x.text.size <= 100000
def TwB (x : Tw) : Prop := x.op < 256 ∧ 0 <= x.kids ∧ x.kids <= 200000 ∧ 0 <= x.int ∧ x.int <= 9223372036854775807 ∧ x.text.size <= 100000
def ZBs (l : List Tz) : Prop := ∀ x ∈ l, ZB x
def TB (t : List Tw) : Prop := ∀ x ∈ t, TwB x
theorem ZBs.tail {l : List Tz} (h : ZBs l) : ZBs l.tail := fun x hx => h x (List.mem_of_mem_tail hx)
theorem TB.one {x : Tw} (h : TwB x) : TB [x] := fun y hy => by
 rw [List.mem_singleton] at hy
 rw [hy]
 exact h
def Bd (f : List Tz -> Pr (List Tw)) : Prop := ∀ l t l' m, ZBs l -> l.length <= 50000 -> f l = .ok t l' m -> TB t ∧ ZBs l'
/-! A source's tokens. -/
end Go.Proofs.YtbcadlocldplfaaDoor
namespace Go.Proofs.YtbcadlocldplfaaDoor
open Go.Proofs.Tryd
open Go.RowKit
theorem rdw_of {w : World} {A : Option Addr} {t : List Tw} (h : RdL twcell 4 w A t) : T8.RdW w A t := by
 rcases h with h | ⟨b, off, hA, hb, hat⟩
 . exact .inl h
 . refine .inr ⟨b, off, hA, hb, fun k x hx => ?_⟩
   have key := fun j v hv => hat k x hx j v hv
   exact ⟨key 0 _ rfl, key 1 _ rfl, key 2 _ rfl, key 3 _ rfl⟩
end Go.Proofs.YtbcadlocldplfaaDoor
namespace Go.Proofs.YtbcadlocldplfaaDoor.T8
open Go.Proofs.Tryd
set_option maxRecDepth 100000
open Go.RowKit
theorem alike_same (A B : Option Addr) (ca cb n : Nat) (l : List Tw) (w : World) (ha : RdW w A l) (hb : RdW w B l) (hl : n = l.length) (hn : n <= 1000000) :
 Calls prog 11 #[.slice A n ca, .slice B n cb] w fun e w' => e = .returned (.bool true) ∧ ∃ q, w' = w.drewN q := by
 have HA := zh ha
 have HB := zh hb
 have HL := zh hl
 clear ha hb hl
 go_in
 go_wp2_with fail
 go_loopw [5] (fun s5 wr => ∃ k : Nat, s5 = .int .i64 k ∧ k <= n ∧ ∃ q, wr = w.drewN q) (fun s5 _ => n - (intOf s5).toNat)
 case atStart => exact ⟨0, rfl, by omega, 0, rfl⟩
 case round =>
  obtain ⟨k, rfl, hk, hw⟩ := hrel
  by_cases hlt : k < n
  . have hka : k < l.length := by rw [<- HL.out]; exact hlt
    obtain ⟨x, hx⟩ : ∃ g, l[k]? = some g := ⟨_, List.getElem?_eq_getElem hka⟩
    obtain ⟨b1, o1, rfl, _, hc1⟩ : ∃ b off, A = some ⟨b, off, none⟩ ∧ b < w.heap.size ∧ ∀ k x, l[k]? = some x -> TwAt w b (off + k * 4) x := HA.out.resolve_left (fun h => by rw [h] at hka; exact absurd hka (by simp))
    obtain ⟨b2, o2, rfl, _, hc2⟩ : ∃ b off, B = some ⟨b, off, none⟩ ∧ b < w.heap.size ∧ ∀ k x, l[k]? = some x -> TwAt w b (off + k * 4) x := HB.out.resolve_left (fun h => by rw [h] at hka; exact absurd hka (by simp))
    obtain ⟨q, hq⟩ := hw
    have hat1 : TwAt wr b1 (o1 + k * 4) x := by rw [hq]; exact hc1 k x hx
    have hat2 : TwAt wr b2 (o2 + k * 4) x := by rw [hq]; exact hc2 k x hx
    have HQ := zh hq
    have hkn : (k : Int) < (n : Int) := by omega
    have hk0 : (0 : Int) <= (k : Int) := by omega
    have hd1 : decide ((k : Int) < (n : Int)) = true := dqt hkn
    clear hx hq hc1 hc2 hka
    obtain ⟨op, kids, int, text⟩ := x
    obtain ⟨c0, c1, c2, c3⟩ := hat1
    obtain ⟨d0, d1, d2, d3⟩ := hat2
    dsimp only at c0 c1 c2 c3 d0 d1 d2 d3
    have e1 : (text.toList == text.toList) = true := bse _
    go_wp2_with fail
    go_quiet (fail)
    go_wp2_with fail
    go_roundw
    case rel => exact ⟨k + 1, by go_num, by omega, q + nq, by rw [HQ.out]; exact World.drewN_drewN w q nq⟩
    case measure => simp [intOf]; omega
  . have hd1 : decide ((k : Int) < (n : Int)) = false := dqf (by omega)
    obtain ⟨q, hq⟩ := hw
    have HQ := zh hq
    clear hq
    go_wp2_with fail
    go_ret
    exact ⟨rfl, q, HQ.out⟩
end Go.Proofs.YtbcadlocldplfaaDoor.T8
