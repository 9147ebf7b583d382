/- Plain law: how a checker goes through twigs; twigs in memory; what a checker's variables are in memory. No walk. -/
import Derived.Test.YtpdofcjgpomehaaNam
import Derived.Test.YtpdofcjgpomehaaChg
namespace Go.Proofs.Ytpdofcjgpomehaa
open Go.RowKit

structure Tw where
  op : Nat
  kids : Int
  int : Int
  text : ByteArray
deriving DecidableEq
def fineB (x : Tw) (may : Nat → Bool) : Bool :=
  match formOf x.op with
  | none => false
  | some f => may x.op && (txtB f.txt x.text && (decide ((f.least : Int) ≤ x.kids) && (decide (x.kids ≤ (f.most : Int)) && (decide (x.op = 23 ∨ x.int = 0) && decide (0 ≤ x.int)))))
def partOf (x : Tw) (i op : Nat) : Bool :=
  match formOf x.op with
  | none => false
  | some f => prtB f.prt i x.kids.toNat op
def wkL (g : Nat → Nat → (Nat → Bool) → Int → Nat × Int × Int) (x : Tw) (lv : Nat) : Nat → Nat → Nat → Int → Nat × Int × Int
  | 0, _, nx, dp => (nx, -1, dp)
  | k + 1, i, nx, dp => if 0 ≤ (g nx lv (partOf x i) dp).2.1 then g nx lv (partOf x i) dp else wkL g x lv k (i + 1) (g nx lv (partOf x i) dp).1 (g nx lv (partOf x i) dp).2.2
def wk : Nat → List Tw → Nat → Nat → (Nat → Bool) → Int → Nat × Int × Int
  | 0, l, at_, _, _, dp => (at_, (l.length : Int), dp)
  | f + 1, l, at_, lv, may, dp =>
    match l[at_]? with
    | none => (at_, (l.length : Int), dp)
    | some x => if fineB x may then wkL (wk f l) x (lv + 1) x.kids.toNat 0 (at_ + 1) (if 40 < lv ∧ dp < 0 then (at_ : Int) else dp) else (at_, (at_ : Int), dp)
theorem wkL_le {g : Nat → Nat → (Nat → Bool) → Int → Nat × Int × Int} {x : Tw} {lv n : Nat} (hg : ∀ nx may dp, nx ≤ n → nx ≤ (g nx lv may dp).1 ∧ (g nx lv may dp).1 ≤ n) : ∀ k i nx dp, nx ≤ n → nx ≤ (wkL g x lv k i nx dp).1 ∧ (wkL g x lv k i nx dp).1 ≤ n
  | 0, _, nx, _, h => ⟨Nat.le_refl _, h⟩
  | k + 1, i, nx, dp, h => by
    have h1 := hg nx (partOf x i) dp h
    unfold wkL
    split
    · exact h1
    · have h2 := wkL_le (x := x) hg k (i + 1) (g nx lv (partOf x i) dp).1 (g nx lv (partOf x i) dp).2.2 h1.2
      omega
theorem wk_le : ∀ f (l : List Tw) at_ lv may dp, at_ ≤ l.length → at_ ≤ (wk f l at_ lv may dp).1 ∧ (wk f l at_ lv may dp).1 ≤ l.length
  | 0, l, at_, _, _, _, h => ⟨Nat.le_refl _, h⟩
  | f + 1, l, at_, lv, may, dp, h => by
    unfold wk
    split
    · exact ⟨Nat.le_refl _, h⟩
    · rename_i x hx
      have hlt := (List.getElem?_eq_some_iff.1 hx).1
      split
      · have := wkL_le (g := wk f l) (x := x) (lv := lv + 1) (n := l.length) (fun nx may dp h => wk_le f l nx (lv + 1) may dp h) x.kids.toNat 0 (at_ + 1) (if 40 < lv ∧ dp < 0 then (at_ : Int) else dp) (by omega)
        omega
      · exact ⟨Nat.le_refl _, h⟩

/-! ### Memory -/
def TwAt (w : World) (b o : Nat) (x : Tw) : Prop := w.cell? ⟨b, o, none⟩ = some (.int .u8 (x.op : Nat)) ∧ w.cell? ⟨b, o + 1, none⟩ = some (.int .i64 x.kids) ∧ w.cell? ⟨b, o + 2, none⟩ = some (.int .i64 x.int) ∧ w.cell? ⟨b, o + 3, none⟩ = some (.string x.text)
def TwOk (x : Tw) : Prop := x.op < 256 ∧ -9223372036854775808 ≤ x.kids ∧ x.kids ≤ 9223372036854775807 ∧ -9223372036854775808 ≤ x.int ∧ x.int ≤ 9223372036854775807 ∧ x.text.size ≤ maxLen
def RdW (w : World) (A : Option Addr) (l : List Tw) : Prop := l = [] ∨ ∃ b off, A = some ⟨b, off, none⟩ ∧ b < w.heap.size ∧ ∀ k x, l[k]? = some x → TwAt w b (off + k * 4) x
section
variable {w w' : World} {A : Option Addr} {l : List Tw} {T : Nat → Prop}
theorem TwAt.of_block {b o : Nat} {x : Tw} (h : TwAt w b o x) (hb : w'.heap[b]? = w.heap[b]?) : TwAt w' b o x :=
  ⟨(World.cell?_of_block hb).trans h.1, (World.cell?_of_block hb).trans h.2.1, (World.cell?_of_block hb).trans h.2.2.1, (World.cell?_of_block hb).trans h.2.2.2⟩
theorem RdW.chg (h : RdW w A l) (hc : Chg T w w') (hn : ∀ a, A = some a → l ≠ [] → ¬ T a.block) : RdW w' A l := by
  rcases h with h | ⟨b, off, hA, hb, hat⟩
  · exact .inl h
  · by_cases hl : l = []
    · exact .inl hl
    · exact .inr ⟨b, off, hA, Nat.lt_of_lt_of_le hb hc.size, fun k x hx => (hat k x hx).of_block (hc.block b hb (hn _ hA hl))⟩
theorem MapF.chg {gm m : Nat} {f : Nat → Option Form} (h : MapF w gm m f) (hc : Chg T w w') (hn : ¬ T gm) : MapF w' gm m f := by
  have hlt := h.lt
  obtain ⟨D, ⟨es, clock, hb2, r⟩, h2⟩ := h
  exact ⟨D, ⟨es, clock, (hc.block gm hlt hn).trans hb2, r⟩, h2⟩
end
/-- Where a checker's variables lie. -/
structure Spot where
  bt : Nat
  bw : Nat
  bb : Nat
  bd : Nat
  bk : Nat
  gm : Nat
  m : Nat
abbrev Spot.walk (s : Spot) : Value := .func (.func 27) #[] #[.pointer (some ⟨s.bt, 0, none⟩), .pointer (some ⟨s.bw, 0, none⟩), .pointer (some ⟨s.bb, 0, none⟩), .pointer (some ⟨s.bd, 0, none⟩), .pointer (some ⟨s.bk, 0, none⟩)]
structure Env (w : World) (s : Spot) (A : Option Addr) (c : Nat) (l : List Tw) (wr dp : Int) : Prop where
  t : Blk w s.bt 25 #[.slice A l.length c]
  wr : Blk w s.bw 3 #[.int .i64 wr]
  tab : Blk w s.bb 45 #[.map (some s.gm)]
  dp : Blk w s.bd 3 #[.int .i64 dp]
  wk : Blk w s.bk 47 #[s.walk]
  map : MapF w s.gm s.m formOf
  rd : RdW w A l
  ne1 : s.bw ≠ s.bd
  ne2 : s.gm ≠ s.bw ∧ s.gm ≠ s.bd
  ne3 : ∀ a, A = some a → l ≠ [] → a.block ≠ s.bw ∧ a.block ≠ s.bd
def Spot.own (s : Spot) (b : Nat) : Prop := b = s.bw ∨ b = s.bd
section
variable {w w' : World} {s : Spot} {A : Option Addr} {c : Nat} {l : List Tw} {wr dp : Int}
theorem Env.keep {T : Nat → Prop} (h : Env w s A c l wr dp) (hc : Chg T w w') (hT : ∀ b, T b → b < w.heap.size → s.own b) (h1 : Blk w' s.bw 3 #[.int .i64 wr]) (h2 : Blk w' s.bd 3 #[.int .i64 dp]) : Env w' s A c l wr dp := by
  have n1 : ∀ {b t : Nat} {cs : Array Value}, Blk w b t cs → t ≠ 3 → ¬ T b := fun {b t cs} hb ht hTb => by
    rcases hT b hTb hb.lt with e | e
    · exact Blk.ne_ hb h.wr ht e
    · exact Blk.ne_ hb h.dp ht e
  refine ⟨h.t.chg hc (n1 h.t (by decide)), h1, h.tab.chg hc (n1 h.tab (by decide)), h2, h.wk.chg hc (n1 h.wk (by decide)), h.map.chg hc (fun hTb => ?_), ?_, h.ne1, h.ne2, h.ne3⟩
  · rcases hT _ hTb h.map.lt with e | e
    · exact h.ne2.1 e
    · exact h.ne2.2 e
  · rcases h.rd with h3 | ⟨b, off, hA, hb, hat⟩
    · exact .inl h3
    · by_cases hl : l = []
      · exact .inl hl
      · refine .inr ⟨b, off, hA, Nat.lt_of_lt_of_le hb hc.size, fun k x hx => (hat k x hx).of_block (hc.block b hb (fun hTb => ?_))⟩
        rcases hT b hTb hb with e | e
        · exact (h.ne3 _ hA hl).1 e
        · exact (h.ne3 _ hA hl).2 e
theorem Env.below (h : Env w s A c l wr dp) (hb : Below w.heap.size w w') : Env w' s A c l wr dp :=
  h.keep (T := fun _ => False) (.of_below hb) (fun _ h _ => h.elim) (h.wr.below hb h.wr.lt) (h.dp.below hb h.dp.lt)
theorem Env.setW (h : Env w s A c l wr dp) (v : Int) : Env (w.setCell ⟨s.bw, 0, none⟩ (.int .i64 v)) s A c l v dp := by
  have hc : Chg (fun b => b = s.bw) w (w.setCell ⟨s.bw, 0, none⟩ (.int .i64 v)) := (Chg.refl (fun b => b = s.bw) w).setCell (p := ⟨s.bw, 0, none⟩) rfl _
  have h0 : Env w s A c l wr dp := h
  have key : ∀ {b t : Nat} {cs : Array Value}, Blk w b t cs → t ≠ 3 → b ≠ s.bw := fun hb ht => Blk.ne_ hb h.wr ht
  refine ⟨h.t.chg hc (key h.t (by decide)), ?_, h.tab.chg hc (key h.tab (by decide)), h.dp.chg hc (fun e => h.ne1 e.symm), h.wk.chg hc (key h.wk (by decide)), h.map.chg hc h.ne2.1, h.rd.chg hc (fun a ha hl => (h.ne3 a ha hl).1), h.ne1, h.ne2, h.ne3⟩
  exact h.wr.set_ 0 (.int .i64 v)
theorem Env.setD (h : Env w s A c l wr dp) (v : Int) : Env (w.setCell ⟨s.bd, 0, none⟩ (.int .i64 v)) s A c l wr v := by
  have hc : Chg (fun b => b = s.bd) w (w.setCell ⟨s.bd, 0, none⟩ (.int .i64 v)) := (Chg.refl (fun b => b = s.bd) w).setCell (p := ⟨s.bd, 0, none⟩) rfl _
  have key : ∀ {b t : Nat} {cs : Array Value}, Blk w b t cs → t ≠ 3 → b ≠ s.bd := fun hb ht => Blk.ne_ hb h.dp ht
  refine ⟨h.t.chg hc (key h.t (by decide)), h.wr.chg hc h.ne1, h.tab.chg hc (key h.tab (by decide)), ?_, h.wk.chg hc (key h.wk (by decide)), h.map.chg hc h.ne2.2, h.rd.chg hc (fun a ha hl => (h.ne3 a ha hl).2), h.ne1, h.ne2, h.ne3⟩
  exact h.dp.set_ 0 (.int .i64 v)
end
/-- A function value that says which Ops may be. -/
structure MayOk (w : World) (m : Nat) (caps : Array Value) (P : Nat → Bool) : Prop where
  cf : ∀ args W, (callFunc m args).run Try.prog W = .ok (.enter m args) W
  ok : ∀ op W, op < 256 → Below w.heap.size w W → Calls Try.prog m (#[.int .u8 (op : Nat)] ++ caps) W fun e W' => e = .returned (.bool (P op)) ∧ W' = W
theorem MayOk.below {w w' : World} {m : Nat} {caps : Array Value} {P : Nat → Bool} (h : MayOk w m caps P) (hb : Below w.heap.size w w') : MayOk w' m caps P :=
  ⟨h.cf, fun op W hop hW => h.ok op W hop (hb.trans (hW.mono hb.size))⟩
theorem enter_form {op : Nat} {f : Form} (hf : formOf op = some f) : (∀ args W, (callFunc f.txt args).run Try.prog W = .ok (.enter f.txt args) W) ∧ ∀ args W, (callFunc f.prt args).run Try.prog W = .ok (.enter f.prt args) W := by
  obtain ⟨_, h1, h2, _⟩ := forms_ok hf
  constructor
  · rcases h1 with h | h | h <;> rw [h] <;> exact fun _ _ => by kernel_rfl
  · rcases h2 with h | h | h | h | h | h <;> rw [h] <;> exact fun _ _ => by kernel_rfl
theorem may_true (w : World) : MayOk w 29 #[] (fun _ => true) := by
  refine ⟨fun _ _ => by kernel_rfl, fun op W hop hW => ?_⟩
  show Calls Try.prog 29 #[.int .u8 (op : Nat)] W _
  go_enter Try.func29, Try.ntmps29
  go_wp2_with fail
  go_ret
  exact ⟨rfl, rfl⟩
end Go.Proofs.Ytpdofcjgpomehaa
