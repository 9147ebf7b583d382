/- Small lemmas on worlds, blocks and results, turned from the guide's extra pages. No conditions of their own. And what follows from it. -/
import Derived.Below
import Derived.ChangeSame
import Derived.Laws.OwnMore
import Derived.Deep.AppendLies
import Derived.Deep.Draws
import Derived.Laws.Rows
import Derived.Deep.OwnRows
import Derived.OwnWalk
import Derived.Laws.AppendOwn
import Derived.Tactics
import Derived.WalkKit
import Derived.Lib.Hide
import Derived.Lib.Strings
import Derived.Maps.AppendAt
import Derived.RegionTactic
import Derived.Laws.IdiomStrings
import Derived.Laws.BytesArg
import Derived.OneCell
import Derived.Test.YtbcadlocldplfaaDoorChecked
import Derived.WalkLawsBesides
import Derived.WalkSpells
import Derived.Outline
import Derived.Deep.DeepCutAuto
import Derived.Deep.MidRow
import Derived.Deep.QuietTactic
import Derived.BigQuiet
import Derived.OrdersHeld
import Derived.StillTail
import Derived.Deep.RegionHeld3
import Derived.Test.YtbcadlocldplfaaDoorQt0
set_option maxHeartbeats 16000000
set_option linter.unusedSimpArgs false
set_option linter.unusedVariables false
namespace Go.Proofs.YtbcadlocldplfaaDoor
open Go.Proofs.Tryd
open Go.RowKit Go.WideShapes Go.ChangeShapes
section
variable {H : Type} {enc : TypeId × Value -> H} {P : Program}
end
theorem results_tmp4 {fn : Func} {t u v x : Tmp} (h : fn.results = #[.tmp t, .tmp u, .tmp v, .tmp x]) (tmps : Array Value) (P : Program) (w : World) :
 (results fn tmps).run P w = .ok (.tuple #[tmps.getD t undef, tmps.getD u undef, tmps.getD v undef, tmps.getD x undef]) w := by simp [results, h]
theorem below_drewN {B : Nat} {a w : World} (h : Below B a w) (n : Nat) : Below B a (w.drewN n) := ⟨h.os, h.tape, h.output, h.size, h.block⟩
theorem only_setCell {a w : World} {g : Nat} (h : a.grownBy w (some g)) {p : Addr} (hp : p.block = g ∨ a.heap.size <= p.block) (u : Value) : a.grownBy (w.setCell p u) (some g) :=
 ⟨h.os, h.tape, h.output, by simpa [World.setCell] using h.size, fun i hi hne => (Below.heap_setCell w p u i (by
  rintro rfl
  rcases hp with hp | hp
  . exact hne (by rw [hp])
  . omega)).trans (h.block i hi hne)⟩
theorem only_of_below {a w : World} (h : Below a.heap.size a w) (row : Option Nat) : a.grownBy w row := ⟨h.os, h.tape, h.output, h.size, fun i hi _ => h.block i hi⟩
theorem block_of_add (a : Addr) (n : Nat) : (a.add n).block = a.block := by unfold Addr.add; split <;> rfl
def Reads (w : World) (B size : Nat) (A : Option Addr) (n : Nat) (xs : List Value) : Prop :=
 xs.length = n * size ∧ (0 < n -> ∃ ad, A = some ad ∧ ad.block < B ∧ ∀ j u, xs[j]? = some u -> w.cell? (ad.add j) = some u)
section
variable {w w' : World} {B B' size n : Nat} {A : Option Addr} {xs : List Value}
theorem Reads.at_ {k : Nat} (h : Reads w B 1 A n xs) (hk : k < n) : ∃ ad u, A = some ad ∧ ad.block < B ∧ xs[k]? = some u ∧ w.cell? (ad.add k) = some u := by
 obtain ⟨ad, e, hb, hc⟩ := h.2 (by omega)
 have hl : k < xs.length := by have := h.1; omega
 exact ⟨ad, xs[k], e, hb, List.getElem?_eq_getElem hl, hc k _ (List.getElem?_eq_getElem hl)⟩
theorem Reads.keep (h : Reads w B size A n xs) (hk : ∀ p : Addr, p.block < B -> w'.cell? p = w.cell? p) : Reads w' B size A n xs :=
 ⟨h.1, fun hn => by
  obtain ⟨ad, e, hb, hc⟩ := h.2 hn
  exact ⟨ad, e, hb, fun j u hu => (hk _ (by rw [block_of_add]; exact hb)).trans (hc j u hu)⟩⟩
theorem Reads.below (h : Reads w B size A n xs) (hb : Below B w w') : Reads w' B size A n xs := h.keep fun _ hp => hb.cell hp
theorem Reads.drew (h : Reads w B size A n xs) : Reads w.drew B size A n xs := h
theorem Reads.drewN (h : Reads w B size A n xs) (k : Nat) : Reads (w.drewN k) B size A n xs := h
theorem Reads.alloc (h : Reads w B size A n xs) (hB : B <= w.heap.size) (o : Obj) : Reads (w.alloc o) B size A n xs := h.keep fun p hp => World.cell?_alloc_lt w o p (by omega)
theorem Reads.setCell (h : Reads w B size A n xs) {p : Addr} (hB : B <= p.block) (u : Value) : Reads (w.setCell p u) B size A n xs :=
 h.keep fun q hq => World.cell?_setCell_other w p q u (fun e => by subst e; omega)
theorem Reads.grown (h : Reads w B size A n xs) {row : Option Nat} (hg : w.grownBy w' row) (hB : B <= w.heap.size) (hr : ∀ g, row = some g -> B <= g) : Reads w' B size A n xs :=
 h.keep fun p hp => World.cell?_of_block (hg.block p.block (by omega) (fun e => by have := hr _ e.symm; omega))
theorem Reads.of_own {base : Nat} {e : TypeId} {c : Nat} (h : w.ownsRow base e size (.slice A n c) n xs) : Reads w w.heap.size size A n xs := by
 refine ⟨h.1, fun hn => ?_⟩
 obtain ⟨g, cap, hv, _, hlt⟩ := h.form hn
 have hA : A = some ⟨g, 0, none⟩ := by injection hv
 subst hA
 exact ⟨_, rfl, hlt, h.cells (g := g) rfl⟩
end
def Blk (w : World) (g : Nat) (t : TypeId) (cs : Array Value) : Prop := w.heap[g]? = some (.cells cs t (0, 0))
section
variable {w w' : World} {g : Nat} {t : TypeId} {cs : Array Value}
theorem Blk.lt (h : Blk w g t cs) : g < w.heap.size := by
 rcases Nat.lt_or_ge g w.heap.size with hlt | hge
 . exact hlt
 . unfold Blk at h; rw [Array.getElem?_eq_none hge] at h; cases h
theorem Blk.cell (h : Blk w g t cs) (i : Nat) : w.cell? ⟨g, i, none⟩ = cs[i]? := cell_of_row w g i cs t (0, 0) h
theorem Blk.frozen (h : Blk w g t cs) (i : Nat) : w.frozen? ⟨g, i, none⟩ = false := by
 unfold Blk at h
 simp [World.frozen?, h]
theorem Blk.new (w : World) (t : TypeId) (cs : Array Value) : Blk (w.alloc (.cells cs t)) w.heap.size t cs := heap_alloc_new w _
theorem Blk.drew (h : Blk w g t cs) : Blk w.drew g t cs := h
theorem Blk.drewN (h : Blk w g t cs) (n : Nat) : Blk (w.drewN n) g t cs := h
theorem Blk.alloc (h : Blk w g t cs) (o : Obj) : Blk (w.alloc o) g t cs := (Below.heap_alloc w o g h.lt).trans h
theorem Blk.set_ (h : Blk w g t cs) (i : Nat) (u : Value) : Blk (w.setCell ⟨g, i, none⟩ u) g t (cs.setIfInBounds i u) := by
 unfold Blk at h |-
 simp [World.setCell, Array.getElem?_modify, h]
theorem Blk.far (h : Blk w g t cs) {p : Addr} (hp : g ≠ p.block) (u : Value) : Blk (w.setCell p u) g t cs := (Below.heap_setCell w p u g hp).trans h
theorem Blk.below {B : Nat} (h : Blk w g t cs) (hb : Below B w w') (hg : g < B) : Blk w' g t cs := (hb.block g hg).trans h
theorem Blk.grown {row : Option Nat} (h : Blk w g t cs) (hb : w.grownBy w' row) (hg : some g ≠ row) : Blk w' g t cs := (hb.block g h.lt hg).trans h
theorem Blk.ne_ {g' : Nat} {t' : TypeId} {cs' : Array Value} (h : Blk w g t cs) (h' : Blk w g' t' cs') (hne : t ≠ t') : g ≠ g' := by
 rintro rfl
 unfold Blk at h h'
 rw [h] at h'
 injection h' with h'
 injection h' with _ ht
 exact hne ht
end
section
variable {P : Program} (w : World)
theorem run_append_of_nil (base : Nat) (t ty e : TypeId) (i : TypeInfo) (size : Nat) (ht : P.underlying t = some (.slice e)) (hi : P.info? e = some i)
 (v : Value) (n : Nat) (xs : List Value) (hown : w.ownsRow base e size v n xs) (c : Nat) : (Builtin.append_ #[t, t] ty #[v, .slice none 0 c]).run P w = .ok v w := by
 rcases hown.2 with ⟨rfl, rfl⟩ | ⟨g, cap, cur, rfl, _, _, hnc, _⟩
 . simp [Builtin.append_, run_underlying ht, sizeOf, typeInfo, hi, Builtin.lenOf, Builtin.firstCells]
 . simp [Builtin.append_, run_underlying ht, sizeOf, typeInfo, hi, Builtin.lenOf, Builtin.firstCells, hnc, storeCells]
theorem run_append_any (base : Nat) (t ty e : TypeId) (i : TypeInfo) (z : Value) (size bytes : Nat) (ht : P.underlying t = some (.slice e)) (hi : P.info? e = some i) (hz : i.zero = some z)
 (hsize : i.size = size) (hby : i.bytes = bytes) (hzs : z.cells.size = size) (hsz : 0 < size)
 (v : Value) (n : Nat) (xs : List Value) (hown : w.ownsRow base e size v n xs)
 (B : Nat) (A : Option Addr) (m c : Nat) (news : List Value) (hr : Reads w B size A m news) (h1 : ∀ u ∈ news, u.oneCell' = true)
 (h63 : n + m <= maxLen) (hbytes : (n + m) * bytes <= 140737488355328) (hbase : base <= w.heap.size) :
 ∃ v' w', (Builtin.append_ #[t, t] ty #[v, .slice A m c]).run P w = .ok v' w' ∧ w'.ownsRow base e size v' (n + m) (xs ++ news) ∧ w.grownBy w' v.ownBlock ∧
  (v'.ownBlock = v.ownBlock ∨ v'.ownBlock = some w.heap.size) := by
 rcases A with _ | ad
 . have hm : m = 0 := by
    rcases Nat.eq_zero_or_pos m with h0 | h0
    . exact h0
    . obtain ⟨ad, h, _⟩ := hr.2 h0
      cases h
   subst hm
   have hn : news = [] := List.eq_nil_of_length_eq_zero (by simpa using hr.1)
   subst hn
   exact ⟨v, w, run_append_of_nil w base t ty e i size ht hi v n xs hown c, by simpa using hown, World.grownBy.refl w _, .inl rfl⟩
 . have hcells : ∀ j u, news[j]? = some u -> w.cell? (ad.add j) = some u := by
    intro j u hu
    rcases Nat.eq_zero_or_pos m with h0 | h0
    . subst h0
      have hn : news = [] := List.eq_nil_of_length_eq_zero (by simpa using hr.1)
      subst hn
      simp at hu
    . obtain ⟨ad', h, _, hc⟩ := hr.2 h0
      injection h with h
      subst h
      exact hc j u hu
   obtain ⟨v', w', hrun, h2, h3, _, h5⟩ := run_append_own_at (P := P) w base t ty e i z size bytes ht hi hz hsize hby hzs hsz v n xs hown ad m c news hr.1 hcells h1 h63 hbytes hbase
   exact ⟨v', w', hrun, h2, h3, h5⟩
theorem wp_append_any {o : Oper} {a : Act} {K : Act -> World -> Prop} {Q : Exit -> Act -> World -> Prop} (s x : Operand) (t : TypeId)
 (ho : o.op = .call { callee := .builtin .append, args := #[s, x], argTypes := #[t, t] })
 (base : Nat) (e : TypeId) (i : TypeInfo) (z : Value) (size bytes : Nat) (ht : P.underlying t = some (.slice e)) (hi : P.info? e = some i) (hz : i.zero = some z)
 (hsize : i.size = size) (hby : i.bytes = bytes) (hzs : z.cells.size = size) (hsz : 0 < size)
 (v : Value) (n : Nat) (xs : List Value) (hs : a.eval s = v) (hown : w.ownsRow base e size v n xs)
 (B : Nat) (A : Option Addr) (m c : Nat) (news : List Value) (hx : a.eval x = .slice A m c) (hr : Reads w B size A m news) (h1 : ∀ u ∈ news, u.oneCell' = true)
 (h63 : n + m <= maxLen) (hbytes : (n + m) * bytes <= 140737488355328) (hbase : base <= w.heap.size)
 (h : ∀ v' w', w'.ownsRow base e size v' (n + m) (xs ++ news) -> w.grownBy w' v.ownBlock -> (v'.ownBlock = v.ownBlock ∨ v'.ownBlock = some w.heap.size) -> K (a.put o.dst v') w') : o.wp P a w K Q := by
 obtain ⟨v', w', hrun, h2, h3, h4⟩ := run_append_any (P := P) w base t o.type e i z size bytes ht hi hz hsize hby hzs hsz v n xs hown B A m c news hr h1 h63 hbytes hbase
 unfold Oper.wp execOp
 simp only [ho, resolve, invoke, builtin, Sem.run_bind, Sem.run_pure, Result.andThen_ok, List.map_toArray, List.map_cons, List.map_nil, hs, hx, hrun]
 exact h v' w' h2 h3 h4
theorem wpList_append_any {ops : Array Oper} {rest : List Oper} {o : Oper} {a : Act} {Q : Exit -> Act -> World -> Prop} (hgd : o.guard = none) (s x : Operand) (t : TypeId)
 (ho : o.op = .call { callee := .builtin .append, args := #[s, x], argTypes := #[t, t] })
 (base : Nat) (e : TypeId) (i : TypeInfo) (z : Value) (size bytes : Nat) (ht : P.underlying t = some (.slice e)) (hi : P.info? e = some i) (hz : i.zero = some z)
 (hsize : i.size = size) (hby : i.bytes = bytes) (hzs : z.cells.size = size) (hsz : 0 < size)
 (v : Value) (n : Nat) (xs : List Value) (hs : a.eval s = v) (hown : w.ownsRow base e size v n xs)
 (B : Nat) (A : Option Addr) (m c : Nat) (news : List Value) (hx : a.eval x = .slice A m c) (hr : Reads w B size A m news) (h1 : ∀ u ∈ news, u.oneCell' = true)
 (h63 : n + m <= maxLen) (hbytes : (n + m) * bytes <= 140737488355328) (hbase : base <= w.heap.size)
 (h : ∀ v' w', w'.ownsRow base e size v' (n + m) (xs ++ news) -> w.grownBy w' v.ownBlock -> (v'.ownBlock = v.ownBlock ∨ v'.ownBlock = some w.heap.size) -> wpList P ops Q rest (a.put o.dst v') w') : wpList P ops Q (o :: rest) a w :=
 wpList_plain hgd fun _ hK => wp_append_any w s x t ho base e i z size bytes ht hi hz hsize hby hzs hsz v n xs hs hown B A m c news hx hr h1 h63 hbytes hbase fun v' w' h2 h3 h4 => hK _ _ (h v' w' h2 h3 h4)
end
theorem ret_bool {a b : Bool} (h : a = b) : Ending.returned (.bool a) = .returned (.bool b) := by rw [h]
def bcells (l : List UInt8) : List Value := l.map fun b => .int .u8 (b.toNat : Int)
theorem bcells_append (l m : List UInt8) : bcells (l ++ m) = bcells l ++ bcells m := by simp [bcells]
theorem bcells_get (l : List UInt8) (j : Nat) (h : j < l.length) : (bcells l)[j]? = some (.int .u8 (l[j].toNat : Int)) := by
 unfold bcells
 rw [List.getElem?_map, List.getElem?_eq_getElem h]; rfl
theorem addr_add (b off j : Nat) : (⟨b, off, none⟩ : Addr).add j = ⟨b, off + j, none⟩ := by unfold Addr.add; split <;> simp_all
theorem Reads.place {w : World} {B n : Nat} {A : Option Addr} {xs : List Value} (h : Reads w B 1 A n xs) (hn : 0 < n) :
 ∃ b off, A = some ⟨b, off, none⟩ ∧ b < B ∧ ∀ j u, xs[j]? = some u -> w.cell? ⟨b, off + j, none⟩ = some u := by
 obtain ⟨ad, hA, hb, hc⟩ := h.2 hn
 obtain ⟨b, off, spot⟩ := ad
 have hl : 0 < xs.length := by have := h.1; omega
 have h0 := hc 0 _ (List.getElem?_eq_getElem hl)
 have hs : spot = none := by
  have := World.cell?_spot h0
  simpa [Addr.add] using this
 subst hs
 exact ⟨b, off, hA, hb, fun j u hu => by rw [<- addr_add]; exact hc j u hu⟩
theorem Reads.bytes {w : World} {B n : Nat} {A : Option Addr} {l : List UInt8} (h : Reads w B 1 A n (bcells l)) (hn : 0 < n) :
 ∃ b off, A = some ⟨b, off, none⟩ ∧ b < B ∧ ∀ j (hj : j < l.length), w.cell? ⟨b, off + j, none⟩ = some (.int .u8 (l[j].toNat : Int)) := by
 obtain ⟨b, off, hA, hb, hc⟩ := h.place hn
 exact ⟨b, off, hA, hb, fun j hj => hc j _ (bcells_get l j hj)⟩
theorem own_below {w w' : World} {base : Nat} {e : TypeId} {size n : Nat} {v : Value} {xs : List Value} (h : w.ownsRow base e size v n xs) (hb : Below w.heap.size w w') : w'.ownsRow base e size v n xs :=
 h.kept (only_of_below hb none) (by cases v.ownBlock <;> simp)
theorem own_form {w : World} {base : Nat} {e : TypeId} {size n : Nat} {v : Value} {xs : List Value} (h : w.ownsRow base e size v n xs) : ∃ A c, v = .slice A n c ∧ n <= c := by
 rcases h.2 with ⟨rfl, h0⟩ | ⟨g, cap, cur, rfl, _, _, hc, _⟩
 . exact ⟨none, 0, by rw [h0], by omega⟩
 . exact ⟨_, cap, rfl, hc⟩
theorem own_mono {w : World} {base base' : Nat} {e : TypeId} {size n : Nat} {v : Value} {xs : List Value} (h : w.ownsRow base e size v n xs) (hb : base' <= base) : w.ownsRow base' e size v n xs := by
 rcases h with ⟨h1, h2 | ⟨g, cap, cur, h3, h4, h5⟩⟩
 . exact ⟨h1, .inl h2⟩
 . exact ⟨h1, .inr ⟨g, cap, cur, h3, Nat.le_trans hb h4, h5⟩⟩
theorem run_str_reads {P : Program} (w : World) (src dst e : TypeId) (B : Nat) (A : Option Addr) (cap : Nat) (l : List UInt8) (hs : P.underlying src = some (.slice e)) (he : P.underlying e = some (.int .u8)) (hd : P.underlying dst = some .string)
 (hr : Reads w B 1 A l.length (bcells l)) : (convert src dst (.slice A l.length cap)).run P w = .ok (.string ⟨l.toArray⟩) w := by
 by_cases h0 : 0 < l.length
 . obtain ⟨ad, rfl, _, hc⟩ := hr.2 h0
   exact run_convert_bytes_back w src dst e ad cap l hs he hd fun j hj => hc j _ (bcells_get l j hj)
 . have hl : l = [] := List.eq_nil_of_length_eq_zero (by omega)
   subst hl
   rcases A with _ | ad
   . rw [run_convert_bytes_nil w src e hs he _ _ _ hd]; rfl
   . exact run_convert_bytes_back w src dst e ad cap [] hs he hd fun j hj => absurd hj (by simp)
theorem run_str_own {P : Program} (w : World) (src dst e : TypeId) (base : Nat) (v : Value) (n : Nat) (l : List UInt8) (hs : P.underlying src = some (.slice e)) (he : P.underlying e = some (.int .u8)) (hd : P.underlying dst = some .string)
 (hn : l.length = n) (hown : w.ownsRow base e 1 v n (bcells l)) : (convert src dst v).run P w = .ok (.string ⟨l.toArray⟩) w := by
 subst hn
 rcases hown.2 with ⟨rfl, h0⟩ | ⟨g, cap, cur, rfl, _⟩
 . have hl : l = [] := List.eq_nil_of_length_eq_zero h0
   subst hl
   exact run_str_reads w src dst e w.heap.size none 0 [] hs he hd ⟨by simp [bcells], fun h => absurd h (by simp)⟩
 . exact run_str_reads w src dst e w.heap.size _ cap l hs he hd (Reads.of_own hown)
end Go.Proofs.YtbcadlocldplfaaDoor
namespace Go.Proofs.YtbcadlocldplfaaDoor
open Go.Proofs.Tryd
open Go.RowKit
structure Chg (T : Nat -> Prop) (w w' : World) : Prop where
 os : w'.os = w.os
 tape : w'.tape = w.tape
 output : w'.output = w.output
 size : w.heap.size <= w'.heap.size
 block : ∀ k, k < w.heap.size -> ¬ T k -> w'.heap[k]? = w.heap[k]?
section
variable {T T' : Nat -> Prop} {w w' w'' : World}
theorem Chg.refl (T : Nat -> Prop) (w : World) : Chg T w w := ⟨rfl, rfl, rfl, nlr _, fun _ _ _ => rfl⟩
theorem Chg.trans (h : Chg T w w') (k : Chg T w' w'') : Chg T w w'' :=
 ⟨k.os.trans h.os, k.tape.trans h.tape, k.output.trans h.output, Nat.le_trans h.size k.size, fun i hi hn => (k.block i (Nat.lt_of_lt_of_le hi h.size) hn).trans (h.block i hi hn)⟩
theorem Chg.mono (h : Chg T w w') (hT : ∀ k, T k -> T' k) : Chg T' w w' := ⟨h.os, h.tape, h.output, h.size, fun i hi hn => h.block i hi (fun e => hn (hT i e))⟩
theorem Chg.old (h : Chg T w w') (hT : ∀ k, k < w.heap.size -> T k -> T' k) : Chg T' w w' := ⟨h.os, h.tape, h.output, h.size, fun i hi hn => h.block i hi (fun e => hn (hT i hi e))⟩
theorem Chg.of_grown {row : Option Nat} (h : w.grownBy w' row) (hr : ∀ r, row = some r -> T r) : Chg T w w' :=
 ⟨h.os, h.tape, h.output, h.size, fun k hk hn => h.block k hk (fun e => hn (hr k e.symm))⟩
theorem Chg.of_below (h : Below w.heap.size w w') : Chg T w w' := ⟨h.os, h.tape, h.output, h.size, fun k hk _ => h.block k hk⟩
theorem Chg.alloc (h : Chg T w w') (o : Obj) : Chg T w (w'.alloc o) := h.trans (.of_grown (World.grownBy_alloc w' o none) (fun r e => by cases e))
theorem Chg.setCell (h : Chg T w w') {p : Addr} (hp : T p.block) (u : Value) : Chg T w (w'.setCell p u) :=
 h.trans (.of_grown (only_setCell (World.grownBy.refl w' (some p.block)) (Or.inl rfl) u) (fun r e => by cases e; exact hp))
theorem Chg.drewN (h : Chg T w w') (n : Nat) : Chg T w (w'.drewN n) := ⟨h.os, h.tape, h.output, h.size, h.block⟩
theorem Chg.drew (h : Chg T w w') : Chg T w w'.drew := ⟨h.os, h.tape, h.output, h.size, h.block⟩
theorem Chg.below {B : Nat} {a : World} (hb : Below B a w) (h : Chg T w w') (hB : B <= w.heap.size) (hT : ∀ k, T k -> B <= k) : Below B a w' :=
 ⟨h.os.trans hb.os, h.tape.trans hb.tape, h.output.trans hb.output, Nat.le_trans hb.size h.size, fun k hk => (h.block k (Nat.lt_of_lt_of_le hk hB) (fun e => by have := hT k e; omega)).trans (hb.block k hk)⟩
theorem Blk.chg {g : Nat} {t : TypeId} {cs : Array Value} (hb : Blk w g t cs) (h : Chg T w w') (hn : ¬ T g) : Blk w' g t cs := (h.block g hb.lt hn).trans hb
theorem Reads.chg {B size n : Nat} {A : Option Addr} {xs : List Value} (hr : Reads w B size A n xs) (h : Chg T w w') (hB : B <= w.heap.size) (hn : ∀ ad, 0 < n -> A = some ad -> ¬ T ad.block) : Reads w' B size A n xs :=
 ⟨hr.1, fun h0 => by
  obtain ⟨ad, e, hb, hc⟩ := hr.2 h0
  refine ⟨ad, e, hb, fun j u hu => ?_⟩
  have hbl : (ad.add j).block = ad.block := block_of_add ad j
  exact (World.cell?_of_block (h.block _ (by rw [hbl]; omega) (by rw [hbl]; exact hn ad h0 e))).trans (hc j u hu)⟩
theorem own_chg {base : Nat} {e : TypeId} {size n : Nat} {v : Value} {xs : List Value} (ho : w.ownsRow base e size v n xs) (h : Chg T w w') (hn : ∀ g, v.ownBlock = some g -> ¬ T g) : w'.ownsRow base e size v n xs := by
 refine ⟨ho.1, ?_⟩
 rcases ho.2 with hnil | ⟨g, cap, cur, rfl, hb, hgg, rest⟩
 . exact .inl hnil
 . exact .inr ⟨g, cap, cur, rfl, hb, (h.block g (Array.getElem?_eq_some_iff.1 hgg).1 (hn g rfl)).trans hgg, rest⟩
end
/-! Rows of things of several cells each. -/
def rowOf {α : Type} (f : α -> List Value) (l : List α) : List Value := l.flatMap f
section
variable {α : Type} {f : α -> List Value} {k : Nat}
theorem rowOf_cons (x : α) (l : List α) : rowOf f (x :: l) = f x ++ rowOf f l := rfl
theorem rowOf_append (l m : List α) : rowOf f (l ++ m) = rowOf f l ++ rowOf f m := by unfold rowOf; rw [List.flatMap_append]
theorem rowOf_length (hk : ∀ x, (f x).length = k) (l : List α) : (rowOf f l).length = l.length * k := by
 induction l with
 | nil => simp [rowOf]
 | cons x l ih => rw [rowOf_cons, lna, ih, hk, lnc, Nat.succ_mul, Nat.add_comm]
theorem rowOf_get (hk : ∀ x, (f x).length = k) : ∀ (l : List α) (i : Nat) (x : α) (j : Nat) (v : Value), l[i]? = some x -> (f x)[j]? = some v -> (rowOf f l)[i * k + j]? = some v
 | [], i, x, j, v, h, _ => by simp at h
 | y :: l, 0, x, j, v, h, hj => by
  have : y = x := by simpa using h
  subst this
  have hlt := (List.getElem?_eq_some_iff.1 hj).1
  rw [rowOf_cons, Nat.zero_mul, Nat.zero_add, List.getElem?_append_left hlt]
  exact hj
 | y :: l, i + 1, x, j, v, h, hj => by
  rw [rowOf_cons, List.getElem?_append_right (by rw [hk, Nat.succ_mul]; omega), hk, show (i + 1) * k + j - k = i * k + j by rw [Nat.succ_mul]; omega]
  exact rowOf_get hk l i x j v (by simpa using h) hj
theorem rowOf_one (hf : ∀ x, ∀ u ∈ f x, u.oneCell' = true) (l : List α) : ∀ u ∈ rowOf f l, u.oneCell' = true := by
 intro u hu
 unfold rowOf at hu
 rw [List.mem_flatMap] at hu
 obtain ⟨x, _, hx⟩ := hu
 exact hf x u hx
end
def RdL {α : Type} (f : α -> List Value) (k : Nat) (w : World) (A : Option Addr) (l : List α) : Prop :=
 l = [] ∨ ∃ b off, A = some ⟨b, off, none⟩ ∧ b < w.heap.size ∧ ∀ i x, l[i]? = some x -> ∀ j v, (f x)[j]? = some v -> w.cell? ⟨b, off + i * k + j, none⟩ = some v
section
variable {α : Type} {f : α -> List Value} {k : Nat} {w w' : World} {A : Option Addr} {l : List α}
theorem RdL.chg {T : Nat -> Prop} (h : RdL f k w A l) (hc : Chg T w w') (hn : ∀ a, A = some a -> l ≠ [] -> ¬ T a.block) : RdL f k w' A l := by
 rcases h with h | ⟨b, off, rfl, hb, hat⟩
 . exact .inl h
 . by_cases hl : l = []
   . exact .inl hl
   . exact .inr ⟨b, off, rfl, Nat.lt_of_lt_of_le hb hc.size, fun i x hx j v hv => (World.cell?_of_block (hc.block b hb (hn _ rfl hl))).trans (hat i x hx j v hv)⟩
theorem RdL.below (h : RdL f k w A l) (hb : Below w.heap.size w w') : RdL f k w' A l := h.chg (T := fun _ => False) (.of_below hb) (fun _ _ _ h => h)
theorem RdL.of_own {base n c : Nat} {e : TypeId} (hk : ∀ x, (f x).length = k) (h : w.ownsRow base e k (.slice A n c) n (rowOf f l)) (hn : n = l.length) : RdL f k w A l := by
 rcases Nat.eq_zero_or_pos n with h0 | h0
 . exact .inl (List.eq_nil_of_length_eq_zero (by omega))
 . obtain ⟨g, cap, hv, hb, hlt⟩ := h.form h0
   have hA : A = some ⟨g, 0, none⟩ := by injection hv
   subst hA
   refine .inr ⟨g, 0, rfl, hlt, fun i x hx j v hv => ?_⟩
   have := h.cells (g := g) rfl (i * k + j) _ (rowOf_get hk l i x j v hx hv)
   rw [addr_add, <- Nat.add_assoc] at this
   exact this
theorem RdL.reads (hk : ∀ x, (f x).length = k) (h : RdL f k w A l) : Reads w w.heap.size k A l.length (rowOf f l) := by
 refine ⟨rowOf_length hk l, fun hn => ?_⟩
 rcases h with h | ⟨b, off, rfl, hb, hat⟩
 . rw [h] at hn; simp at hn
 . refine ⟨_, rfl, hb, fun j u hu => ?_⟩
   have hlt := (List.getElem?_eq_some_iff.1 hu).1
   rw [rowOf_length hk] at hlt
   rcases Nat.eq_zero_or_pos k with h0 | h0
   . rw [h0] at hlt; simp at hlt
   . have hq : j / k < l.length := Nat.div_lt_of_lt_mul (by rw [Nat.mul_comm]; exact hlt)
     have hx : l[j / k]? = some l[j / k] := List.getElem?_eq_getElem hq
     have hr : j % k < (f l[j / k]).length := by rw [hk]; exact Nat.mod_lt _ h0
     have h1 := rowOf_get hk l (j / k) _ (j % k) _ hx (List.getElem?_eq_getElem hr)
     have e : j / k * k + j % k = j := by rw [Nat.mul_comm]; exact Nat.div_add_mod j k
     rw [e, hu] at h1
     have h2 := hat (j / k) _ hx (j % k) _ (List.getElem?_eq_getElem hr)
     rw [Nat.add_assoc, e] at h2
     rw [addr_add, h2, h1]
end
structure Tz where
 kind : Nat
 text : ByteArray
 int : Int
 at_ : Nat
def zcell (x : Tz) : List Value := [.int .u8 (x.kind : Nat), .string x.text, .int .i64 x.int, .int .i64 (x.at_ : Nat)]
theorem zcell_len (x : Tz) : (zcell x).length = 4 := rfl
theorem zcell_one (x : Tz) : ∀ u ∈ zcell x, u.oneCell' = true := by
 intro u hu
 simp only [zcell, List.mem_cons, List.not_mem_nil, or_false] at hu
 rcases hu with rfl | rfl | rfl | rfl <;> rfl
abbrev RdZ := RdL zcell 4
structure Tw where
 op : Nat
 kids : Int
 int : Int
 text : ByteArray
deriving DecidableEq
def twcell (x : Tw) : List Value := [.int .u8 (x.op : Nat), .int .i64 x.kids, .int .i64 x.int, .string x.text]
theorem twcell_len (x : Tw) : (twcell x).length = 4 := rfl
theorem twcell_one (x : Tw) : ∀ u ∈ twcell x, u.oneCell' = true := by
 intro u hu
 simp only [twcell, List.mem_cons, List.not_mem_nil, or_false] at hu
 rcases hu with rfl | rfl | rfl | rfl <;> rfl
/-! Words and signs. -/
def bs (l : List UInt8) : ByteArray := ⟨l.toArray⟩
def kw28 : List (List UInt8) := [[102, 108, 111, 119], [108, 101, 116], [105, 102], [101, 108, 115, 101], [119, 104, 105, 108, 101], [114, 101, 116, 117, 114, 110], [102, 97, 105, 108], [115, 108, 101, 101, 112], [100, 111], [110, 111, 110, 101], [116, 114, 117, 101], [102, 97, 108, 115, 101], [111, 114], [97, 110, 100], [110, 111, 116], [108, 101, 110], [110, 117, 109], [114, 101], [105, 109], [99, 111, 110, 106], [99, 97, 108, 108], [99, 104, 105, 108, 100], [116, 105, 109, 101, 114], [102, 111, 114, 107], [97, 119, 97, 105, 116], [115, 101, 116, 116, 108, 101], [116, 97, 107, 101], [118, 101, 114, 115, 105, 111, 110]]
def kwB (s : ByteArray) : Bool := decide (s.data.toList ∈ kw28)
def isT (s : List UInt8) : List Tz -> Bool
 | [] => false
 | x :: _ => (decide (x.kind = 1) || decide (x.kind = 4)) && decide (x.text.data.toList = s)
def mineT : List Tz -> Bool
 | [] => false
 | x :: _ => decide (x.kind = 1) && !kwB x.text
inductive Pr (α : Type) where
 | out : Pr α
 | bad (l : List Tz) : Pr α
 | ok (a : α) (l : List Tz) (lg : Bool) : Pr α
def Pr.add {α : Type} (lg : Bool) : Pr α -> Pr α
 | .out => .out
 | .bad l => .bad l
 | .ok a l m => .ok a l (lg || m)
def Pr.bind {α β : Type} (r : Pr α) (f : α -> List Tz -> Pr β) : Pr β :=
 match r with
 | .out => .out
 | .bad l => .bad l
 | .ok a l lg => (f a l).add lg
theorem Pr.add_false {α : Type} (r : Pr α) : r.add false = r := by cases r <;> rfl
theorem Pr.add_add {α : Type} (a b : Bool) (r : Pr α) : (r.add b).add a = r.add (a || b) := by cases r <;> simp [Pr.add, Bool.or_assoc]
def mustP (s : List UInt8) (l : List Tz) : Pr Unit := if isT s l then .ok () l.tail false else .bad l
def ownP (l : List Tz) : Pr ByteArray := if mineT l then .ok ((l.map (·.text)).headD (bs [])) l.tail false else .bad l
def ofP (x : Tw) (parts : List (List Tw)) (l : List Tz) : Pr (List Tw) :=
 if 2048 < 1 + parts.flatten.length then .ok [{ x with kids := (parts.length : Nat) }] l true else .ok ({ x with kids := (parts.length : Nat) } :: parts.flatten) l false
abbrev tw (op : Nat) : Tw := ⟨op, 0, 0, bs []⟩
def leftP (below : List Tz -> Pr (List Tw)) (v : List (List UInt8 × Nat)) (once : Bool) : Nat -> List Tw -> List Tz -> Pr (List Tw)
 | 0, _, _ => .out
 | n + 1, t, l =>
  match v.find? (fun p => isT p.1 l) with
  | none => .ok t l false
  | some p => (below l.tail).bind fun u l1 => (ofP (tw p.2) [t, u] l1).bind fun t2 l2 => if once then .ok t2 l2 false else leftP below v once n t2 l2
def listP (one : List Tz -> Pr (List Tw)) (s : List UInt8) : Nat -> List (List Tw) -> List Tz -> Pr (List (List Tw))
 | 0, _, _ => .out
 | n + 1, acc, l => (one l).bind fun t l1 => if isT s l1 then .ok (acc ++ [t]) l1.tail false else (mustP [44] l1).bind fun _ l2 => listP one s n (acc ++ [t]) l2
def lisP (one : List Tz -> Pr (List Tw)) (s : List UInt8) (n : Nat) (l : List Tz) : Pr (List (List Tw)) := if isT s l then .ok [] l.tail false else listP one s n [] l
def postP (expr : List Tz -> Pr (List Tw)) : Nat -> List Tw -> List Tz -> Pr (List Tw)
 | 0, _, _ => .out
 | n + 1, t, l => if isT [91] l then (expr l.tail).bind fun u l1 => (ofP (tw 42) [t, u] l1).bind fun t2 l2 => (mustP [93] l2).bind fun _ l3 => postP expr n t2 l3 else .ok t l false
def stmtsP (stmt : List Tz -> Pr (List Tw)) : Nat -> List (List Tw) -> List Tz -> Pr (List (List Tw))
 | 0, _, _ => .out
 | n + 1, acc, l => if isT [125] l then .ok acc l.tail false else (stmt l).bind fun t l1 => stmtsP stmt n (acc ++ [t]) l1
inductive Nt where
 | expr | and_ | not_ | sum | term | pre | prim | block | stmt
abbrev sOr : List (List UInt8 × Nat) := [([111, 114], 30)]
abbrev sAnd : List (List UInt8 × Nat) := [([97, 110, 100], 31)]
abbrev sCmp : List (List UInt8 × Nat) := [([61, 61], 32), ([33, 61], 33), ([60], 34), ([60, 61], 35)]
abbrev sSum : List (List UInt8 × Nat) := [([43], 36), ([45], 37)]
abbrev sTerm : List (List UInt8 × Nat) := [([42], 38), ([47], 39), ([37], 40)]
def oneP (expr : List Tz -> Pr (List Tw)) (op : Nat) (l : List Tz) : Pr (List Tw) :=
 (mustP [40] l).bind fun _ l1 => (expr l1).bind fun t l2 => (mustP [41] l2).bind fun _ l3 => ofP (tw op) [t] l3
def askP (expr : List Tz -> Pr (List Tw)) (n op : Nat) (l : List Tz) : Pr (List Tw) :=
 (ownP l).bind fun s l1 => (mustP [40] l1).bind fun _ l2 => (lisP expr [41] n l2).bind fun ts l3 => ofP ⟨op, 0, 0, s⟩ ts l3
def wordP (expr block : List Tz -> Pr (List Tw)) (n : Nat) (l : List Tz) : Pr (List Tw) :=
 if isT [110, 111, 110, 101] l then .ok [tw 20] l.tail false
 else if isT [116, 114, 117, 101] l then .ok [tw 21] l.tail false
 else if isT [102, 97, 108, 115, 101] l then .ok [tw 22] l.tail false
 else if isT [118, 101, 114, 115, 105, 111, 110] l then .ok [tw 57] l.tail false
 else if isT [91] l then (lisP expr [93] n l.tail).bind fun ts l1 => ofP (tw 25) ts l1
 else if isT [40] l then (expr l.tail).bind fun t l1 => (mustP [41] l1).bind fun _ l2 => .ok t l2 false
 else if isT [108, 101, 110] l then oneP expr 45 l.tail
 else if isT [114, 101] l then oneP expr 46 l.tail
 else if isT [105, 109] l then oneP expr 47 l.tail
 else if isT [99, 111, 110, 106] l then oneP expr 48 l.tail
 else if isT [116, 105, 109, 101, 114] l then oneP expr 52 l.tail
 else if isT [110, 117, 109] l then (mustP [40] l.tail).bind fun _ l1 => (expr l1).bind fun a l2 => (mustP [44] l2).bind fun _ l3 => (expr l3).bind fun b l4 => (mustP [41] l4).bind fun _ l5 => ofP (tw 41) [a, b] l5
 else if isT [102, 111, 114, 107] l then (block l.tail).bind fun t l1 => ofP (tw 53) [t] l1
 else if isT [116, 97, 107, 101] l then (ownP l.tail).bind fun s l1 => .ok [⟨56, 0, 0, s⟩] l1 false
 else if isT [99, 97, 108, 108] l then askP expr n 50 l.tail
 else if isT [99, 104, 105, 108, 100] l then askP expr n 51 l.tail
 else .bad l
def primP (expr block : List Tz -> Pr (List Tw)) (n : Nat) (l : List Tz) : Pr (List Tw) :=
 match l with
 | [] => .bad []
 | x :: r => if x.kind = 2 then .ok [⟨23, 0, x.int, bs []⟩] r false else if x.kind = 3 then .ok [⟨24, 0, 0, x.text⟩] r false
  else if mineT (x :: r) then .ok [⟨26, 0, 0, x.text⟩] r false else wordP expr block n (x :: r)
def stmtP (expr block : List Tz -> Pr (List Tw)) (l : List Tz) : Pr (List Tw) :=
 if mineT l then (ownP l).bind fun s l1 => (mustP [61] l1).bind fun _ l2 => (expr l2).bind fun t l3 => ofP ⟨5, 0, 0, s⟩ [t] l3
 else if isT [108, 101, 116] l then (ownP l.tail).bind fun s l1 => (mustP [61] l1).bind fun _ l2 => (expr l2).bind fun t l3 => ofP ⟨4, 0, 0, s⟩ [t] l3
 else if isT [105, 102] l then (expr l.tail).bind fun c l1 => (block l1).bind fun t l2 => if isT [101, 108, 115, 101] l2 then (block l2.tail).bind fun u l3 => ofP (tw 6) [c, t, u] l3 else ofP (tw 6) [c, t] l2
 else if isT [119, 104, 105, 108, 101] l then (expr l.tail).bind fun c l1 => (block l1).bind fun t l2 => ofP (tw 7) [c, t] l2
 else if isT [114, 101, 116, 117, 114, 110] l then (expr l.tail).bind fun t l1 => ofP (tw 8) [t] l1
 else if isT [102, 97, 105, 108] l then (expr l.tail).bind fun t l1 => ofP (tw 9) [t] l1
 else if isT [115, 108, 101, 101, 112] l then (expr l.tail).bind fun t l1 => ofP (tw 10) [t] l1
 else if isT [100, 111] l then (expr l.tail).bind fun t l1 => ofP (tw 11) [t] l1
 else .bad l
def preP (pre prim expr : List Tz -> Pr (List Tw)) (n : Nat) (l : List Tz) : Pr (List Tw) :=
 if isT [45] l then (pre l.tail).bind fun t l1 => ofP (tw 44) [t] l1
 else if isT [97, 119, 97, 105, 116] l then (pre l.tail).bind fun t l1 => ofP (tw 54) [t] l1
 else if isT [115, 101, 116, 116, 108, 101] l then (pre l.tail).bind fun t l1 => ofP (tw 55) [t] l1
 else (prim l).bind fun t l1 => postP expr n t l1
def P : Nat -> Nt -> List Tz -> Pr (List Tw)
 | 0, _, _ => .out
 | n + 1, .expr, l => (P n .and_ l).bind (leftP (P n .and_) sOr false n)
 | n + 1, .and_, l => (P n .not_ l).bind (leftP (P n .not_) sAnd false n)
 | n + 1, .not_, l => if isT [110, 111, 116] l then (P n .not_ l.tail).bind fun t l1 => ofP (tw 43) [t] l1 else (P n .sum l).bind (leftP (P n .sum) sCmp true n)
 | n + 1, .sum, l => (P n .term l).bind (leftP (P n .term) sSum false n)
 | n + 1, .term, l => (P n .pre l).bind (leftP (P n .pre) sTerm false n)
 | n + 1, .pre, l => preP (P n .pre) (P n .prim) (P n .expr) n l
 | n + 1, .prim, l => primP (P n .expr) (P n .block) n l
 | n + 1, .block, l => (mustP [123] l).bind fun _ l1 => (stmtsP (P n .stmt) n [] l1).bind fun ts l2 => ofP (tw 3) ts l2
 | n + 1, .stmt, l => stmtP (P n .expr) (P n .block) l
def faultAt (size : Nat) : List Tz -> Nat × Nat
 | [] => (size, 4)
 | x :: _ => (x.at_, 9)
def kw (s : List UInt8) : Bool := kw28.contains s
theorem kw_of (s : List UInt8) {x : List UInt8} (h : (s == x) = true) (hx : kw28.contains x = true) : kw s = true := by
 have : s = x := by simpa using h
 subst this; exact hx
theorem kw_kwB (s : ByteArray) : kw s.toList = kwB s := by
 unfold kw kwB
 rw [ByteArray.toList_eq]
 cases h : kw28.contains s.data.toList
 . rw [dqf]
   intro hm
   rw [List.contains_iff_mem.2 hm] at h
   cases h
 . rw [dqt (List.contains_iff_mem.1 h)]
theorem keyword_any (s : ByteArray) (w : World) :
 Calls prog 109 #[.string s] w fun e w' => e = .returned (.bool (kw s.toList)) ∧ w = w' := by
 go_in
 go_wp2
 all_goals first | (exfalso; simp_all; done) | skip
 all_goals go_ret
 all_goals first | (rw [kw_of _ (by assumption) (by decide)]; exact ⟨rfl, rfl⟩) | skip
 all_goals
  have hk : kw s.toList = false := by
   simp only [kw, kw28, List.contains, List.elem, *]
  rw [hk]; exact ⟨rfl, rfl⟩
def RdM (w : World) (g : Nat) (l : List Tz) (size : Nat) (lg : Bool) : Prop :=
 ∃ A c, Blk w g 106 #[.slice A l.length c, .int .i64 (size : Nat), .bool lg] ∧ RdZ w A l ∧ (l.length <= c ∧ l.length <= 50000) ∧ ∀ a, A = some a -> a.block < g
theorem RdM.lt {w : World} {g size : Nat} {l : List Tz} {lg : Bool} (h : RdM w g l size lg) : g < w.heap.size := by
 obtain ⟨A, c, h, _⟩ := h
 exact h.lt
theorem RdM.chg {w w' : World} {g size : Nat} {l : List Tz} {lg : Bool} {T : Nat -> Prop} (h : RdM w g l size lg) (hc : Chg T w w') (hn : ∀ k, k < w.heap.size -> T k -> g < k) : RdM w' g l size lg := by
 obtain ⟨A, c, h1, h2, h3, h4⟩ := h
 refine ⟨A, c, h1.chg (T := fun k => k < w.heap.size ∧ T k) (hc.old (fun k a b => ⟨a, b⟩)) (fun hg => by have := hn g hg.1 hg.2; omega), h2.chg (T := fun k => k < w.heap.size ∧ T k) (hc.old (fun k a b => ⟨a, b⟩)) (fun a ha _ hk => by have := hn _ hk.1 hk.2; have := h4 a ha; omega), h3, h4⟩
theorem RdM.len {w : World} {g size : Nat} {l : List Tz} {lg : Bool} (h : RdM w g l size lg) : l.length <= 50000 := by
 obtain ⟨A, c, h1, h2, h3, h4⟩ := h
 exact h3.2
theorem RdM.below {w w' : World} {g size : Nat} {l : List Tz} {lg : Bool} (h : RdM w g l size lg) (hb : Below w.heap.size w w') : RdM w' g l size lg :=
 h.chg (T := fun _ => False) (.of_below hb) (fun _ _ h => h.elim)
theorem RdM.head {w : World} {g size : Nat} {x : Tz} {r : List Tz} {lg : Bool} (h : RdM w g (x :: r) size lg) :
 ∃ b off c, w.cell? ⟨g, 0, none⟩ = some (.slice (some ⟨b, off, none⟩) (r.length + 1) c) ∧ w.cell? ⟨b, off, none⟩ = some (.int .u8 (x.kind : Nat)) ∧ w.cell? ⟨b, off + 1, none⟩ = some (.string x.text) ∧ w.cell? ⟨b, off + 2, none⟩ = some (.int .i64 x.int) ∧ w.cell? ⟨b, off + 3, none⟩ = some (.int .i64 (x.at_ : Nat)) := by
 obtain ⟨A, c, h1, h2, h3, h4⟩ := h
 rcases h2 with h2 | ⟨b, off, rfl, hb, hat⟩
 . cases h2
 . have key := fun j v hv => hat 0 x rfl j v hv
   simp only [Nat.zero_mul, Nat.add_zero] at key
   exact ⟨b, off, c, h1.cell 0, key 0 _ rfl, key 1 _ rfl, key 2 _ rfl, key 3 _ rfl⟩
theorem RdM.nil_cell {w : World} {g size : Nat} {lg : Bool} (h : RdM w g [] size lg) : ∃ A c, w.cell? ⟨g, 0, none⟩ = some (.slice A 0 c) := by
 obtain ⟨A, c, h1, h2, h3, h4⟩ := h
 exact ⟨A, c, h1.cell 0⟩
theorem RdM.size_cell {w : World} {g size : Nat} {l : List Tz} {lg : Bool} (h : RdM w g l size lg) : w.cell? ⟨g, 1, none⟩ = some (.int .i64 (size : Nat)) := by
 obtain ⟨A, c, h1, _⟩ := h
 exact h1.cell 1
theorem chg_self (w : World) (g i : Nat) (u : Value) : Chg (fun k => k = g) w (w.setCell ⟨g, i, none⟩ u) := Chg.setCell (T := fun k => k = g) (Chg.refl _ _) (p := ⟨g, i, none⟩) rfl u
abbrev gp (g : Nat) : Value := .pointer (some ⟨g, 0, none⟩)
theorem RdM.pass {w : World} {g size : Nat} {x : Tz} {r : List Tz} {lg : Bool} (h : RdM w g (x :: r) size lg) :
 ∃ A c, w.cell? ⟨g, 0, none⟩ = some (.slice A (r.length + 1) c) ∧ r.length + 1 <= c ∧ RdM (w.setCell ⟨g, 0, none⟩ (.slice (if c = 1 then A else A.map (·.add (1 * 4))) r.length (c - 1))) g r size lg := by
 obtain ⟨A, c, h1, h2, h3, h4⟩ := h
 rw [lnc] at h1 h3
 refine ⟨A, c, h1.cell 0, h3.1, _, _, by have := h1.set_ 0 (.slice (if c = 1 then A else A.map (·.add (1 * 4))) r.length (c - 1)); simpa using this, ?_, by omega, ?_⟩
 . have hch : Chg (fun k => k = g) w (w.setCell ⟨g, 0, none⟩ (.slice (if c = 1 then A else A.map (·.add (1 * 4))) r.length (c - 1))) := chg_self _ _ _ _
   rcases h2 with h2 | ⟨b, off, rfl, hb, hat⟩
   . cases h2
   . by_cases hr : r = []
     . exact .inl hr
     . have hc1 : c ≠ 1 := by
        have : r.length ≠ 0 := fun e => hr (List.eq_nil_of_length_eq_zero e)
        omega
       refine RdL.chg (T := fun k => k = g) (.inr ⟨b, off + 4, ?_, hb, fun i y hy j v hv => ?_⟩) hch ?_
       . rw [if_neg hc1, Option.map_some, addr_add]
       . have := hat (i + 1) y (by simpa using hy) j v hv
         rw [show off + 4 + i * 4 + j = off + (i + 1) * 4 + j by omega]
         exact this
       . intro a ha _ hk
         rw [if_neg hc1, Option.map_some, addr_add] at ha
         obtain rfl := Option.some.inj ha
         exact absurd hk (Nat.ne_of_lt (h4 ⟨b, off, none⟩ rfl))
 . intro a ha
   split at ha
   . exact h4 a ha
   . cases A with
     | none => cases ha
     | some y =>
      rw [Option.map_some] at ha
      obtain rfl := Option.some.inj ha
      rw [block_of_add]
      exact h4 y rfl
theorem slice_tail (A : Option Addr) (n c : Nat) (hc : n + 1 <= c) (w : World) : (Instr.sliceAt 30 (.slice A (n + 1) c) (some (.int .i64 1)) none none).run prog w = .ok (.slice (if c = 1 then A else A.map (·.add (1 * 4))) n (c - 1)) w := by
 have hu : prog.underlying 30 = some (.slice (prog.elem 30)) := by kernel_rfl
 have hz : (sizeOf (prog.elem 30)).run prog w = .ok 4 w := by kernel_rfl
 rw [run_sliceAt_slice w 30 _ _ _ _ hu, run_slice_l w 30 A (n + 1) c hu .i64 1 (by omega) (by omega), hz]
 rfl
def wrongV (p : Nat × Nat) : Value := .iface 103 (.agg #[.int .i64 (p.1 : Nat), .int .i64 (p.2 : Nat)])
def thrown (size : Nat) (l : List Tz) : Ending := .panicked [{ v := wrongV (faultAt size l), recovered := false }]
set_option maxRecDepth 100000 in
theorem fault_any (g size : Nat) (l : List Tz) (lg : Bool) (w : World) (hr : RdM w g l size lg) :
 Calls prog 69 #[gp g] w fun e w' => e = thrown size l ∧ w' = w := by
 cases l with
 | nil =>
  obtain ⟨A, c, k0⟩ := hr.nil_cell
  have k1 := hr.size_cell
  clear hr
  go_in
  go_wp2_with fail
  exact ⟨rfl, rfl, rfl⟩
 | cons x r =>
  obtain ⟨b, off, c, k0, k1, k2, k3, k4⟩ := hr.head
  obtain ⟨n, hn⟩ := ex r.length
  rw [<- hn] at k0
  have HF : Hid (faultAt size (x :: r) = (x.at_, 9)) := zh rfl
  unfold thrown
  rw [HF.out]
  obtain ⟨pl, hpl⟩ : ∃ z, z = x.at_ := ⟨_, rfl⟩
  rw [<- hpl] at k4 |-
  clear hr hn k1 k2 k3 HF hpl
  go_in
  go_wp2_with fail
  exact ⟨rfl, rfl, rfl⟩
set_option maxRecDepth 100000 in
theorem mine_any (g size : Nat) (l : List Tz) (lg : Bool) (w : World) (hr : RdM w g l size lg) :
 Calls prog 105 #[gp g] w fun e w' => e = .returned (.bool (mineT l)) ∧ w' = w := by
 cases l with
 | nil =>
  obtain ⟨A, c, k0⟩ := hr.nil_cell
  go_in
  go_wp2_with fail
  go_ret
  exact ⟨rfl, rfl⟩
 | cons x r =>
  obtain ⟨b, off, c, k0, k1, k2, k3, k4⟩ := hr.head
  obtain ⟨kd, tx, iv, pl⟩ := x
  dsimp only at k1 k2
  obtain ⟨n, hn⟩ := ex r.length
  rw [<- hn] at k0
  have HT : Hid (mineT (⟨kd, tx, iv, pl⟩ :: r) = (decide (kd = 1) && !kw tx.toList)) := zh (by rw [kw_kwB]; rfl)
  obtain ⟨R, hR⟩ := ex (mineT (⟨kd, tx, iv, pl⟩ :: r))
  rw [<- hR] at HT |-
  clear hR hn k3 k4
  have HK := zh (fun W => keyword_any tx W)
  obtain ⟨K, hK⟩ := ex (kw tx.toList)
  rw [<- hK] at HT HK
  clear hK
  by_cases h1 : kd = 1
  . have m1 : ((kd : Int) == 1) = true := by simp [h1]
    have HR : Hid (R = !K) := zh (by rw [HT.out, dqt h1]; rfl)
    clear h1
    go_in
    go_wp2_with fail
    refine (HK.out w).mono ?_
    rintro e w1 ⟨rfl, rfl⟩
    go_wp2_with fail
    go_ret
    exact ⟨by rw [HR.out]; rfl, rfl⟩
  . have m1 : ((kd : Int) == 1) = false := by simp; omega
    have HR : Hid (R = false) := zh (by rw [HT.out, dqf h1]; rfl)
    clear h1
    go_in
    go_wp2_with fail
    go_ret
    exact ⟨by rw [HR.out]; rfl, rfl⟩
def OwnPost (w : World) (g size : Nat) (l : List Tz) (lg : Bool) (e : Ending) (w' : World) : Prop :=
 match ownP l with
 | .ok s l1 _ => e = .returned (.string s) ∧ RdM w' g l1 size lg ∧ Chg (fun k => k = g) w w'
 | _ => e = thrown size l ∧ Chg (fun k => k = g) w w'
set_option maxRecDepth 100000 in
theorem own_any (g size : Nat) (l : List Tz) (lg : Bool) (w : World) (hr : RdM w g l size lg) :
 Calls prog 71 #[gp g] w (OwnPost w g size l lg) := by
 have HM := zh (mine_any g size l lg w hr)
 cases hb : mineT l with
 | false =>
  have HO : Hid (ownP l = .bad l) := zh (by unfold ownP; rw [hb]; rfl)
  have HF := zh (fault_any g size l lg w hr)
  rw [hb] at HM
  clear hr hb
  go_in
  go_wp2_with fail
  refine HM.out.mono ?_
  rintro e w1 ⟨rfl, rfl⟩
  go_wp2_with fail
  refine HF.out.mono ?_
  rintro e w2 ⟨he, rfl⟩
  unfold thrown at he
  subst he
  go_wp2_with fail
  refine ⟨rfl, ?_⟩
  unfold OwnPost
  rw [HO.out]
  exact ⟨rfl, Chg.refl _ _⟩
 | true =>
  cases l with
  | nil => cases hb
  | cons x r =>
   have HO : Hid (ownP (x :: r) = .ok x.text r false) := zh (by unfold ownP; rw [hb]; rfl)
   rw [hb] at HM
   clear hb
   obtain ⟨b, off, c0, k0', k1, k2, k3, k4⟩ := hr.head
   obtain ⟨A, c, k0, hc, hR⟩ := hr.pass
   have HP := zh hR
   have hsl := fun W => slice_tail A r.length c hc W
   obtain ⟨A2, hA2⟩ : ∃ z, z = (if c = 1 then A else A.map (·.add (1 * 4))) := ⟨_, rfl⟩
   rw [<- hA2] at HP hsl
   obtain ⟨c1, hc1⟩ : ∃ z, z = c - 1 := ⟨_, rfl⟩
   rw [<- hc1] at hsl HP
   have e0 : A = some ⟨b, off, none⟩ ∧ c = c0 := by
    rw [k0] at k0'
    injection k0' with h
    injection h with h1 h2 h3
    exact ⟨h1, h3⟩
   obtain ⟨rfl, rfl⟩ := e0
   have f0 : w.frozen? ⟨g, 0, none⟩ = false := by
    obtain ⟨A', c', hb, _⟩ := hr
    exact hb.frozen 0
   obtain ⟨n, hn⟩ := ex r.length
   rw [<- hn] at k0 hsl HP
   obtain ⟨tx, htx⟩ : ∃ z, z = x.text := ⟨_, rfl⟩
   rw [<- htx] at k2 HO
   clear hA2 hR hr hc1 hn hc k0' k1 k3 k4 htx
   go_in
   go_wp2_with fail
   refine HM.out.mono ?_
   rintro e w1 ⟨rfl, rfl⟩
   go_wp2_with fail
   go_ret
   unfold OwnPost
   rw [HO.out]
   exact ⟨rfl, HP.out, chg_self _ _ _ _⟩
end Go.Proofs.YtbcadlocldplfaaDoor
namespace Go.Proofs.YtbcadlocldplfaaDoor
open Go.Proofs.Tryd
end Go.Proofs.YtbcadlocldplfaaDoor
namespace Go.Proofs.YtbcadlocldplfaaDoor
open Go.Proofs.Tryd
open Go.RowKit
def RdT (B0 : Nat) (w : World) (A : Option Addr) (t : List Tw) : Prop := RdL twcell 4 w A t ∧ ∀ a, A = some a -> B0 <= a.block
theorem RdT.chg {B0 : Nat} {w w' : World} {A : Option Addr} {t : List Tw} {T : Nat -> Prop} (h : RdT B0 w A t) (hc : Chg T w w') (hT : ∀ k, k < w.heap.size -> T k -> k < B0) : RdT B0 w' A t := by
 refine ⟨?_, h.2⟩
 rcases h.1 with h1 | ⟨b, off, hA, hb, hat⟩
 . exact .inl h1
 . refine RdL.chg (T := fun k => k < w.heap.size ∧ T k) (.inr ⟨b, off, hA, hb, hat⟩) (hc.old (fun k h1 h2 => ⟨h1, h2⟩)) (fun a ha _ hk => ?_)
   have := h.2 a ha
   have := hT _ hk.1 hk.2
   omega
theorem RdT.below {B0 : Nat} {w w' : World} {A : Option Addr} {t : List Tw} (h : RdT B0 w A t) (hb : Below w.heap.size w w') : RdT B0 w' A t := h.chg (T := fun _ => False) (.of_below hb) (fun _ _ h => h.elim)
theorem RdT.of_own {B0 base n c : Nat} {w : World} {A : Option Addr} {t : List Tw} (h : w.ownsRow base 42 4 (.slice A n c) n (rowOf twcell t)) (hn : n = t.length) (hB : B0 <= base) : RdT B0 w A t := by
 refine ⟨RdL.of_own twcell_len h hn, fun a ha => ?_⟩
 subst ha
 have := (World.ownsRow.lt h a.block rfl).1
 omega
theorem RdT.mono {B0 B1 : Nat} {w : World} {A : Option Addr} {t : List Tw} (h : RdT B0 w A t) (hB : B1 <= B0) : RdT B1 w A t := ⟨h.1, fun a ha => Nat.le_trans hB (h.2 a ha)⟩
def PtM (B0 : Nat) (w : World) (A : Option Addr) (ts : List (List Tw)) : Prop :=
 (∀ a, A = some a -> B0 <= a.block) ∧ (ts = [] ∨ ∃ b off, A = some ⟨b, off, none⟩ ∧ b < w.heap.size ∧ ∀ i t, ts[i]? = some t -> ∃ B c, w.cell? ⟨b, off + i, none⟩ = some (.slice B t.length c) ∧ RdT B0 w B t)
theorem PtM.chg {B0 : Nat} {w w' : World} {A : Option Addr} {ts : List (List Tw)} {T : Nat -> Prop} (h : PtM B0 w A ts) (hc : Chg T w w') (hT : ∀ k, k < w.heap.size -> T k -> k < B0) : PtM B0 w' A ts := by
 refine ⟨h.1, ?_⟩
 rcases h.2 with h2 | ⟨b, off, rfl, hb, hat⟩
 . exact .inl h2
 . refine .inr ⟨b, off, rfl, Nat.lt_of_lt_of_le hb hc.size, fun i t ht => ?_⟩
   obtain ⟨B, c, h3, h4⟩ := hat i t ht
   refine ⟨B, c, (World.cell?_of_block (hc.block b hb (fun hk => ?_))).trans h3, h4.chg hc hT⟩
   have := h.1 _ rfl
   have := hT _ hb hk
   simp at *
   omega
theorem PtM.below {B0 : Nat} {w w' : World} {A : Option Addr} {ts : List (List Tw)} (h : PtM B0 w A ts) (hb : Below w.heap.size w w') : PtM B0 w' A ts := h.chg (T := fun _ => False) (.of_below hb) (fun _ _ h => h.elim)
def PPost (w : World) (g size : Nat) (lg : Bool) (R : Pr (List Tw)) (e : Ending) (w' : World) : Prop :=
 Chg (fun k => k = g) w w' ∧ match R with
 | .out => False
 | .bad l => e = thrown size l
 | .ok t l m => ∃ A c, e = .returned (.slice A t.length c) ∧ w'.ownsRow w.heap.size 42 4 (.slice A t.length c) t.length (rowOf twcell t) ∧ RdM w' g l size (lg || m)
theorem Tryd.info42 : (prog.info? 42).map (fun i => (i.zero, i.size, i.bytes)) = some (some (.agg #[.int .u8 0, .int .i64 0, .int .i64 0, .string ⟨#[]⟩]), 4, 40) := by kernel_rfl
theorem flat_le (ts : List (List Tw)) (k : Nat) : (ts.take k).flatten.length <= ts.flatten.length := by
 have h := congrArg List.length (congrArg List.flatten (List.take_append_drop k ts))
 rw [List.flatten_append, lna] at h
 omega
def Over (B : Nat) (w : World) : Type := { W : World // Below B w W }
instance {B : Nat} {w : World} : Nonempty (Over B w) := ⟨⟨w, Below.refl B w⟩⟩
def Over.at {B : Nat} {w : World} (n : Over B w) : World := n.val
theorem Over.bel {B : Nat} {w : World} (n : Over B w) : Below B w n.at := n.property
theorem Over.size {B : Nat} {w : World} (n : Over B w) : w.heap.size <= n.at.heap.size := n.bel.size
theorem Over.cell {B : Nat} {w : World} (n : Over B w) {p : Addr} (hp : p.block < B) : n.at.cell? p = w.cell? p := n.bel.cell hp
section
variable {P : Program} {ops : Array Oper} {Q : Exit -> Act -> World -> Prop} {md : Region.Mode} {e : Nat} {F G : World -> Prop}
def SE (e : Nat) (F : World -> Prop) (listed : Array Bool) (w : World) : Prop := listed.getD e false = true ∨ F w
def wpAnyM (P : Program) (md : Region.Mode) (ops : Array Oper) (Q : Exit -> Act -> World -> Prop) (e : Nat) (F : World -> Prop) : Nat -> Array Bool -> Act -> World -> Prop
 | 0, listed, a, w => Region.ready md ops listed = [] ∧ Q .normal a w
 | n + 1, listed, a, w => (Region.ready md ops listed = [] -> Q .normal a w) ∧
  ∀ i ∈ Region.ready md ops listed, wpOp P ops Q i (fun a' w' => SE e F (listed.setIfInBounds i true) w' ∧ wpAnyM P md ops Q e F n (listed.setIfInBounds i true) a' w') a w
theorem wpAny_of_M : ∀ (n : Nat) (listed : Array Bool) (a : Act) (w : World), wpAnyM P md ops Q e F n listed a w -> wpAny P md ops Q n listed a w
 | 0, _, _, _, h => h
 | n + 1, _, _, _, h => ⟨h.1, fun i hi => wpOp_mono (fun a' w' h' => wpAny_of_M n _ a' w' h'.2) (h.2 i hi)⟩
theorem wpAnyM_first {i : Nat} {oi : Oper} {v : Value} (Good : Array Bool -> Prop) (hi : ops[i]? = some oi) (hsel : ∀ (j : Nat) (o : Oper) cs b, ops[j]? = some o -> o.op ≠ .select cs b)
 (hei : e ≠ i) (hQ : ∀ c a w, Q (.panic c) (a.put oi.dst v) w -> Q (.panic c) a w)
 (hGood : ∀ listed j, Good listed -> i ∈ Region.ready md ops listed -> j ∈ Region.ready md ops listed -> j ≠ i -> Good (listed.setIfInBounds j true))
 (hG : ∀ listed w, Good listed -> SE e F listed w -> G w) :
 ∀ (fuel : Nat) (listed : Array Bool) (a : Act) (w : World),
  (∀ j oj, ops[j]? = some oj -> j ≠ i -> listed.getD j true = false -> (∀ x ∈ oj.after, Region.binds md x = true -> x.on ≠ i) -> oi.apart ops oj = true) ->
  i ∈ Region.ready md ops listed -> Good listed -> YieldsIf P ops G oi v a -> SE e F listed w ->
  wpAnyM P md ops Q e F fuel (listed.setIfInBounds i true) (a.put oi.dst v) w -> wpAnyM P md ops Q e F (fuel + 1) listed a w := by
 intro fuel
 induction fuel with
 | zero =>
  intro listed a w _ hr hg hy hS H
  refine ⟨fun h => (by rw [h] at hr; cases hr), fun j hj => ?_⟩
  by_cases hji : j = i
  . subst hji; exact hy.wpOp hi (hG _ _ hg hS) ⟨hS.imp getD_set_true id, H⟩
  . have := ready_mono hj hji
    rw [H.1] at this
    cases this
 | succ fuel ih =>
  intro listed a w hfree hr hg hy hS H
  refine ⟨fun h => (by rw [h] at hr; cases hr), fun j hj => ?_⟩
  by_cases hji : j = i
  . subst hji; exact hy.wpOp hi (hG _ _ hg hS) ⟨hS.imp getD_set_true id, H⟩
  . have h1 := H.2 j (ready_mono hj hji)
    obtain ⟨hjun, oj, hoj, hall⟩ := mem_ready.1 hj
    have hnot : ∀ x ∈ oj.after, Region.binds md x = true -> x.on ≠ i := fun x hx hb heq => by
     have h1 := hall x hx hb
     rw [heq, getD_both (mem_ready.1 hr).1] at h1
     cases h1
    have h2 := wpOp_putIf hoj (hfree j oj hoj hji hjun hnot) (fun cs b => hsel i oi cs b hi) (fun cs b => hsel j oj cs b hoj) hQ hy h1
    have hfree' : ∀ k ok, ops[k]? = some ok -> k ≠ i -> (listed.setIfInBounds j true).getD k true = false ->
     (∀ x ∈ ok.after, Region.binds md x = true -> x.on ≠ i) -> oi.apart ops ok = true := fun k ok hk hki hun hno => by
     refine hfree k ok hk hki ?_ hno
     by_cases hjk : j = k
     . subst hjk; exact hjun
     . rw [getD_set_ne true hjk] at hun; exact hun
    have hg' := hGood _ j hg hr hj hji
    refine wpOp_mono (fun a' w' h3 => ?_) h2
    obtain ⟨h4, h5, h6⟩ := h3
    rw [Array.setIfInBounds_comm _ _ (Ne.symm hji)] at h6
    have hS' : SE e F (listed.setIfInBounds j true) w' := by
     rcases h5 with h5 | h5
     . exact .inl (by rw [Array.setIfInBounds_comm _ _ (Ne.symm hji), getD_set_ne false (Ne.symm hei)] at h5; exact h5)
     . exact .inr h5
    exact ⟨hS', ih (listed.setIfInBounds j true) a' w' hfree' (ready_mono hr (Ne.symm hji)) hg' h4 hS' h6⟩
def Region.waitsT (md : Region.Mode) (ops : Array Oper) : Nat -> Nat -> Nat -> Bool
 | 0, e, i => Region.waitsFor md ops e i
 | n + 1, e, i => Region.waitsFor md ops e i || (List.range ops.size).any fun j => Region.waitsFor md ops e j && Region.waitsT md ops n j i
def Closed (md : Region.Mode) (ops : Array Oper) (listed : Array Bool) : Prop := ∀ (j : Nat) (oj : Oper), ops[j]? = some oj -> listed.getD j false = true -> ∀ x ∈ oj.after, Region.binds md x = true -> listed.getD x.on false = true
theorem Closed.set {listed : Array Bool} {i : Nat} (h : Closed md ops listed) (hi : i ∈ Region.ready md ops listed) : Closed md ops (listed.setIfInBounds i true) := by
 obtain ⟨_, oi, hoi, hall⟩ := mem_ready.1 hi
 intro j oj hj hl x hx hb
 by_cases hij : i = j
 . subst hij
   have : oj = oi := Option.some.inj (hj.symm.trans hoi)
   subst this
   exact getD_set_true (hall x hx hb)
 . rw [getD_set_ne false hij] at hl
   exact getD_set_true (h j oj hj hl x hx hb)
theorem Closed.start (n : Nat) : Closed md ops (Array.replicate n false) := fun j _ _ h => (by rw [getD_replicate_false] at h; cases h)
theorem waitsT_listed {listed : Array Bool} {i : Nat} (hc : Closed md ops listed) : ∀ (n j : Nat), (j ∈ Region.ready md ops listed ∨ listed.getD j false = true) -> Region.waitsT md ops n j i = true -> listed.getD i false = true := by
 have one : ∀ j k, (j ∈ Region.ready md ops listed ∨ listed.getD j false = true) -> Region.waitsFor md ops j k = true -> listed.getD k false = true := fun j k hj hw => by
  obtain ⟨oj, hoj, x, hx, hb, hon⟩ := Region.waitsFor_spec hw
  rw [<- hon]
  rcases hj with hj | hj
  . obtain ⟨_, oj', hoj', hall⟩ := mem_ready.1 hj
    have : oj = oj' := Option.some.inj (hoj.symm.trans hoj')
    subst this
    exact hall x hx hb
  . exact hc j oj hoj hj x hx hb
 intro n
 induction n with
 | zero => exact fun j hj hw => one j i hj hw
 | succ n ih =>
  intro j hj hw
  simp only [Region.waitsT, Bool.or_eq_true] at hw
  rcases hw with hw | hw
  . exact one j i hj hw
  . obtain ⟨k, _, hk⟩ := List.any_eq_true.1 hw
    rw [Bool.and_eq_true] at hk
    exact ih k (.inr (one j k hj hk.1)) hk.2
end
def pureOp : Op -> Bool
 | .move _ | .assign _ | .pick .. | .load .. | .nilCheck _ | .binOp .. | .unOp .. | .convert .. | .fieldAddr .. | .field .. | .indexAddr .. | .index .. | .extract .. | .slice .. | .build .. => true
 | .call c => match c.callee with
  | .builtin .len | .builtin .cap | .builtin .min | .builtin .max => true
  | _ => false
 | _ => false
theorem value_of_v {P : Program} {S : Sem Value} {w w' : World} {n : Next} (h : Sem.run P (do pure (Next.value (<- S))) w = .ok n w') : ∃ u, n = .value u := by
 rw [Sem.run_bind] at h
 cases hs : S.run P w with
 | ok x w1 => rw [hs] at h; simp only [Result.andThen_ok, Sem.run_pure] at h; cases h; exact ⟨x, rfl⟩
 | halt x w1 => rw [hs] at h; cases h
theorem exec_value {P : Program} {ρ : Operand -> Value} {o : Oper} {w w' : World} {n : Next} (hp : pureOp o.op = true) (h : (execOp ρ o).run P w = .ok n w') : ∃ u, n = .value u := by
 unfold execOp at h
 cases ho : o.op with
 | call c =>
  rw [ho] at hp h
  simp only [pureOp] at hp
  cases hc : c.callee with
  | builtin b =>
   rw [hc] at hp
   simp only [resolve, hc, Sem.run_bind, Sem.run_pure, Result.andThen_ok, invoke] at h
   cases b <;> first | (exfalso; simp at hp; done) | (unfold builtin at h; exact value_of_v h)
  | _ => rw [hc] at hp; simp at hp
 | nilCheck x =>
  rw [ho] at h
  simp only at h
  split at h
  . simp [go_sem] at h
  . simp [go_sem] at h
  . simp [go_sem] at h
  . split at h
    . simp [go_sem] at h
    . rw [Sem.run_bind] at h
      cases hs0 : Sem.run P program w with
      | halt x w1 => rw [hs0] at h; cases h
      | ok x0 w0 =>
      rw [hs0] at h
      simp only [Result.andThen_ok] at h
      rw [Sem.run_bind] at h
      rename_i t0 w00 _
      cases hs : Sem.run P (nilAhead (x0.types.size + Made.depth) t0 w00 _) w0 with
      | ok x w1 =>
       rw [hs] at h
       simp only [Result.andThen_ok] at h
       split at h <;> simp [go_sem] at h
       exact ⟨_, h.1.symm⟩
      | halt x w1 => rw [hs] at h; cases h
    . simp only [Sem.run_pure] at h; cases h; exact ⟨_, rfl⟩
  . simp only [Sem.run_pure] at h; cases h; exact ⟨_, rfl⟩
 | move x => rw [ho] at h; simp only [Sem.run_pure] at h; cases h; exact ⟨_, rfl⟩
 | assign x => rw [ho] at h; simp only [Sem.run_pure] at h; cases h; exact ⟨_, rfl⟩
 | pick c x y => rw [ho] at h; exact value_of_v (S := do pure (if <- asBool (ρ c) then ρ x else ρ y)) (by simpa [Sem.run_bind] using h)
 | _ => rw [ho] at hp h; first | (exfalso; simp [pureOp] at hp; done) | exact value_of_v h
section
variable {P : Program} {ops : Array Oper} {l : List Oper} {Q : Exit -> Act -> World -> Prop} {e : Nat} {F : World -> Prop}
theorem arr_get {l : List Oper} {i : Nat} {o : Oper} (h : l[i]? = some o) : l.toArray[i]? = some o := by simpa using h
end
inductive Plan where
 | fin
 | q (i : Nat) (r : Plan)
 | a1 (i : Nat) (r : Plan)
 | a2 (i : Nat) (r : Plan) (j : Nat) (s : Plan)
def Plan.len : Plan -> Nat
 | .fin => 0
 | .q _ r => r.len + 1
 | .a1 _ r => r.len + 1
 | .a2 _ r _ _ => r.len + 1
section
variable {P : Program} {ops : Array Oper} {Q : Exit -> Act -> World -> Prop} {md : Region.Mode} {e : Nat} {F : World -> Prop}
def wpPlan (P : Program) (ops : Array Oper) (Q : Exit -> Act -> World -> Prop) (e : Nat) (F : World -> Prop) : Bool -> Plan -> Act -> World -> Prop
 | _, .fin, a, w => Q .normal a w
 | nd, .q i r, a, w =>
  match ops[i]? with
  | none => False
  | some o => ∃ v, YieldsIf P ops (fun w => nd = true -> F w) o v a ∧ wpPlan P ops Q e F nd r (a.put o.dst v) w
 | nd, .a1 i r, a, w =>
  match ops[i]? with
  | none => False
  | some o => if Region.wanted o (yielded ops a.tmps) then o.wp P a w (fun a' w' => ((nd && i != e) = true -> F w') ∧ wpPlan P ops Q e F (nd && i != e) r a' w') Q else wpPlan P ops Q e F (nd && i != e) r (a.put o.dst undef) w
 | nd, .a2 i r j s, a, w =>
  (match ops[i]? with
  | none => False
  | some o => if Region.wanted o (yielded ops a.tmps) then o.wp P a w (fun a' w' => ((nd && i != e) = true -> F w') ∧ wpPlan P ops Q e F (nd && i != e) r a' w') Q else wpPlan P ops Q e F (nd && i != e) r (a.put o.dst undef) w) ∧
  (match ops[j]? with
  | none => False
  | some o => if Region.wanted o (yielded ops a.tmps) then o.wp P a w (fun a' w' => ((nd && j != e) = true -> F w') ∧ wpPlan P ops Q e F (nd && j != e) s a' w') Q else wpPlan P ops Q e F (nd && j != e) s (a.put o.dst undef) w)
def Region.planB (md : Region.Mode) (ops : Array Oper) (e : Nat) : Plan -> Array Bool -> Bool
 | .fin, listed => (Region.ready md ops listed).isEmpty
 | .a1 i r, listed => decide (Region.ready md ops listed = [i]) && Region.planB md ops e r (listed.setIfInBounds i true)
 | .a2 i r j s, listed => decide (Region.ready md ops listed = [i, j]) && (r.len == s.len) && Region.planB md ops e r (listed.setIfInBounds i true) && Region.planB md ops e s (listed.setIfInBounds j true)
 | .q i r, listed => (Region.ready md ops listed).contains i && Region.free md ops listed i && (i != e) && (listed.getD e false || decide (ops.size <= e) || Region.waitsT md ops 12 e i) && Region.planB md ops e r (listed.setIfInBounds i true)
theorem nd_step {listed : Array Bool} {nd : Bool} {j : Nat} (hnd : nd = !listed.getD e false) (hlt : j < listed.size) : (nd && j != e) = !(listed.setIfInBounds j true).getD e false := by
 by_cases hje : j = e
 . subst hje
   have : (listed.setIfInBounds j true).getD j false = true := by simp [hlt]
   rw [this]; simp
 . rw [getD_set_ne false hje, hnd]
   have : (j != e) = true := by simpa using hje
   rw [this, Bool.and_true]
theorem plan_act {listed : Array Bool} {nd : Bool} {a : Act} {w : World} {i : Nat} {r : Plan} (hmem : i ∈ Region.ready md ops listed) (hnd : nd = !listed.getD e false) (hF : nd = true -> F w)
 (ih : ∀ a' w', ((nd && i != e) = !(listed.setIfInBounds i true).getD e false) -> ((nd && i != e) = true -> F w') -> wpPlan P ops Q e F (nd && i != e) r a' w' -> wpAnyM P md ops Q e F r.len (listed.setIfInBounds i true) a' w')
 (h : match ops[i]? with
  | none => False
  | some o => if Region.wanted o (yielded ops a.tmps) then o.wp P a w (fun a' w' => ((nd && i != e) = true -> F w') ∧ wpPlan P ops Q e F (nd && i != e) r a' w') Q else wpPlan P ops Q e F (nd && i != e) r (a.put o.dst undef) w) :
 wpOp P ops Q i (fun a' w' => SE e F (listed.setIfInBounds i true) w' ∧ wpAnyM P md ops Q e F r.len (listed.setIfInBounds i true) a' w') a w := by
 obtain ⟨hun, o, ho, _⟩ := mem_ready.1 hmem
 have hlt : i < listed.size := by
  rcases Nat.lt_or_ge i listed.size with h' | h'
  . exact h'
  . simp [Array.getElem?_eq_none h'] at hun
 have hnd' := nd_step (e := e) (j := i) hnd hlt
 have hSE : ∀ w', ((nd && i != e) = true -> F w') -> SE e F (listed.setIfInBounds i true) w' := fun w' hF' => by
  cases hb : (listed.setIfInBounds i true).getD e false with
  | true => exact .inl hb
  | false => rw [hb] at hnd'; exact .inr (hF' (by rw [hnd']; rfl))
 simp only [ho] at h
 unfold wpOp
 simp only [ho]
 split at h
 . rename_i hw
   rw [if_pos hw]
   refine .inl (Oper.wp_mono (fun a' w' h' => ?_) h)
   exact ⟨hSE w' h'.1, ih a' w' hnd' h'.1 h'.2⟩
 . rename_i hw
   rw [if_neg hw]
   have hF' : (nd && i != e) = true -> F w := fun hh => hF (by rw [Bool.and_eq_true] at hh; exact hh.1)
   exact ⟨hSE w hF', ih _ w hnd' hF' h⟩
theorem plan_sound (hsel : Region.noSelect ops = true) (hQ : ∀ c a w d v, Q (.panic c) (Act.put a d v) w -> Q (.panic c) a w) : ∀ (r : Plan) (nd : Bool) (listed : Array Bool) (a : Act) (w : World),
 Region.planB md ops e r listed = true -> (nd = !listed.getD e false) -> Closed md ops listed -> (nd = true -> F w) -> wpPlan P ops Q e F nd r a w -> wpAnyM P md ops Q e F r.len listed a w
 | .fin, nd, listed, a, w, hB, _, _, _, h => ⟨by simpa [Region.planB] using hB, h⟩
 | .a1 i r, nd, listed, a, w, hB, hnd, hcl, hF, h => by
  simp only [Region.planB, Bool.and_eq_true, decide_eq_true_eq] at hB
  refine ⟨fun h0 => (by rw [hB.1] at h0; cases h0), fun j hj => ?_⟩
  rw [hB.1] at hj
  have hji : j = i := by simpa using hj
  subst hji
  have hmem : j ∈ Region.ready md ops listed := by rw [hB.1]; simp
  unfold wpPlan at h
  exact plan_act hmem hnd hF (fun a' w' h1 h2 h3 => plan_sound hsel hQ r _ _ a' w' hB.2 h1 (hcl.set hmem) h2 h3) h
 | .a2 i r k s, nd, listed, a, w, hB, hnd, hcl, hF, h => by
  simp only [Region.planB, Bool.and_eq_true, decide_eq_true_eq, beq_iff_eq] at hB
  obtain ⟨⟨⟨hr, hl⟩, hB1⟩, hB2⟩ := hB
  refine ⟨fun h0 => (by rw [hr] at h0; cases h0), fun j hj => ?_⟩
  have hmem := hj
  rw [hr] at hj
  unfold wpPlan at h
  have hj' : j = i ∨ j = k := by simpa using hj
  rcases hj' with hj' | hj'
  . subst hj'
    exact plan_act hmem hnd hF (fun a' w' h1 h2 h3 => plan_sound hsel hQ r _ _ a' w' hB1 h1 (hcl.set hmem) h2 h3) h.1
  . subst hj'
    have := plan_act (r := s) hmem hnd hF (fun a' w' h1 h2 h3 => plan_sound hsel hQ s _ _ a' w' hB2 h1 (hcl.set hmem) h2 h3) h.2
    rw [<- hl] at this
    exact this
 | .q i r, nd, listed, a, w, hB, hnd, hcl, hF, h => by
  simp only [Region.planB, Bool.and_eq_true] at hB
  obtain ⟨⟨⟨⟨hr, hf⟩, hie⟩, hwe⟩, hB'⟩ := hB
  have hr' : i ∈ Region.ready md ops listed := by simpa using hr
  obtain ⟨hun, o, ho, _⟩ := mem_ready.1 hr'
  have hei : e ≠ i := fun h => by subst h; simp at hie
  unfold wpPlan at h
  simp only [ho] at h
  obtain ⟨v, hy, hK⟩ := h
  have hS : SE e F listed w := by
   cases hb : listed.getD e false with
   | true => exact .inl hb
   | false => rw [hb] at hnd; exact .inr (hF (by rw [hnd]; rfl))
  refine wpAnyM_first (G := fun w => nd = true -> F w) (fun listed => nd = (!listed.getD e false) ∧ Closed md ops listed) ho (Region.noSelect_spec hsel) hei (fun c a w => hQ c a w _ _) ?_ ?_ r.len listed a w (Region.free_spec ho hf) hr' ⟨hnd, hcl⟩ hy hS
   (plan_sound hsel hQ r nd _ _ w hB' (by rw [getD_set_ne false (Ne.symm hei)]; exact hnd) (hcl.set hr') hF hK)
  . rintro listed' j ⟨hg, hcl'⟩ hri hrj hji
    refine ⟨?_, hcl'.set hrj⟩
    rw [hg]
    by_cases hje : j = e
    . subst hje
      rw [Bool.or_eq_true, Bool.or_eq_true] at hwe
      rcases hwe with h1 | h1
      . rcases h1 with h2 | h2
        . have h3 : nd = false := by rw [hnd, h2]; rfl
          rw [h3] at hg
          have h4 : listed'.getD j false = true := by cases hb : listed'.getD j false with | true => rfl | false => rw [hb] at hg; cases hg
          have h5 := (mem_ready.1 hrj).1
          rw [getD_both h5] at h4; cases h4
        . obtain ⟨_, oj, hoj, _⟩ := mem_ready.1 hrj
          have := (Array.getElem?_eq_some_iff.1 hoj).1
          have h3 := of_decide_eq_true h2
          omega
      . have h2 := waitsT_listed hcl' 12 j (.inl hrj) h1
        rw [getD_both (mem_ready.1 hri).1] at h2
        cases h2
    . rw [getD_set_ne false hje]
  . rintro listed' w' ⟨hg, _⟩ hS' hnd'
    rcases hS' with h1 | h1
    . rw [h1] at hg; rw [hg] at hnd'; cases hnd'
    . exact h1
theorem wp_region_plan {id : Nat} {a : Act} {w : World} (r : Plan) (e : Nat) (F : World -> Prop) (hm : P.follows .mixedOrders = true) (hlen : r.len = ops.size)
 (hB : (Region.noSelect ops && Region.planB .any ops e r (Array.replicate ops.size false)) = true) (hF : F w.drew)
 (h : wpPlan P ops (NoPanic Q) e F true r a w.drew) : (Code.region id ops true).wp P Q a w := by
 rw [Bool.and_eq_true] at hB
 refine wp_region_noPanic (wp_region_any hm (wpAny_of_M (e := e) (F := F) _ _ _ _ ?_))
 have := plan_sound (P := P) (Q := NoPanic Q) (F := F) hB.1 (fun c a w d v h => h.elim) r true (Array.replicate ops.size false) a w.drew hB.2 (by rw [getD_replicate_false]; rfl) (Closed.start _) (fun _ => hF) h
 rwa [hlen] at this
end
section
variable {P : Program} {l : List Oper} {Q : Exit -> Act -> World -> Prop} {e : Nat} {F : World -> Prop}
theorem wpPlan_step {nd : Bool} {i : Nat} {o : Oper} {r : Plan} {a : Act} {w : World} (C : World -> Prop) (hC : ∀ w, (nd = true -> F w) -> C w) (ho : l[i]? = some o) (hp : pureOp o.op = true)
 (hw : Region.wanted o (yielded l.toArray a.tmps) = true) (h : ∀ K : Act -> Prop, (∀ a', wpPlan P l.toArray Q e F nd r a' w -> K a') -> o.quiet P a C K) : wpPlan P l.toArray Q e F nd (.q i r) a w := by
 obtain ⟨v, h1, h2⟩ := h _ (fun _ h => h)
 unfold wpPlan
 simp only [arr_get ho]
 refine ⟨v, .inl ⟨hw, fun w hF => ?_⟩, h2⟩
 have h3 := h1 w (hC w hF)
 unfold Oper.quietAt at h3
 cases hr : (execOp a.eval o).run P w with
 | halt x w' => rw [hr] at h3; exact h3.elim
 | ok n w' =>
  obtain ⟨u, rfl⟩ := exec_value hp hr
  rw [hr] at h3
  obtain ⟨e1, e2⟩ := h3
  rw [e1, e2]
theorem wpPlan_q {i : Nat} {o : Oper} {r : Plan} {a : Act} {w : World} (ho : l[i]? = some o) (hp : pureOp o.op = true)
 (hw : Region.wanted o (yielded l.toArray a.tmps) = true) (h : ∀ K : Act -> Prop, (∀ a', wpPlan P l.toArray Q e F true r a' w -> K a') -> o.quiet P a F K) : wpPlan P l.toArray Q e F true (.q i r) a w :=
 wpPlan_step F (fun _ h => h rfl) ho hp hw h
theorem wpPlan_p {i : Nat} {o : Oper} {r : Plan} {a : Act} {w : World} (ho : l[i]? = some o) (hp : pureOp o.op = true)
 (hw : Region.wanted o (yielded l.toArray a.tmps) = true) (h : ∀ K : Act -> Prop, (∀ a', wpPlan P l.toArray Q e F false r a' w -> K a') -> o.quiet P a (fun _ => True) K) : wpPlan P l.toArray Q e F false (.q i r) a w :=
 wpPlan_step (fun _ => True) (fun _ _ => trivial) ho hp hw h
theorem wpPlan_act {nd : Bool} {i : Nat} {o : Oper} {r : Plan} {a : Act} {w : World} (nd' : Bool) (hnd : (nd && i != e) = nd') (ho : l[i]? = some o) (hF : Region.wanted o (yielded l.toArray a.tmps) = true)
 (h : ∀ K : Act -> World -> Prop, (∀ a' w', (nd' = true -> F w') -> wpPlan P l.toArray Q e F nd' r a' w' -> K a' w') -> o.wp P a w K Q) : wpPlan P l.toArray Q e F nd (.a1 i r) a w := by
 have h' := h _ (fun a' w' h1 h2 => ai h1 h2)
 unfold wpPlan
 simp only [arr_get ho]
 rw [if_pos hF, hnd]
 exact h'
theorem wpPlan_fin {nd : Bool} {Q' : Exit -> Act -> World -> Prop} {a : Act} {w : World} (h : Q' .normal a w) : wpPlan P l.toArray (NoPanic Q') e F nd .fin a w := h
end
def FReads (fid : FuncId) (first cap : Array Value) (g size : Nat) (w : World) (f : List Tz -> Pr (List Tw)) : Prop :=
 ∀ l lg W, Chg (fun k => k = g) w W -> RdM W g l size lg -> f l ≠ .out -> Calls prog fid (first ++ cap) W (PPost W g size lg (f l))
theorem FReads.chg {fid : FuncId} {first cap : Array Value} {g size : Nat} {w w' : World} {f : List Tz -> Pr (List Tw)} (h : FReads fid first cap g size w f) (hc : Chg (fun k => k = g) w w') : FReads fid first cap g size w' f :=
 fun l lg W hW => h l lg W (hc.trans hW)
theorem PtM.one {B0 b : Nat} {w : World} {A : Option Addr} {c : Nat} {t : List Tw} (hb : Blk w b 23 #[.slice A t.length c]) (hB : B0 <= b) (h1 : RdT B0 w A t) : PtM B0 w (some ⟨b, 0, none⟩) [t] := by
 refine ⟨fun a ha => by obtain rfl := Option.some.inj ha; exact hB, .inr ⟨b, 0, rfl, hb.lt, fun i x hx => ?_⟩⟩
 match i, hx with
 | 0, hx =>
  obtain rfl : t = x := by simpa using hx
  exact ⟨A, c, hb.cell 0, h1⟩
 | i + 1, hx => simp at hx
def TsR (B0 : Nat) (w : World) (A : Option Addr) (n c : Nat) (ts : List (List Tw)) : Prop :=
 n = ts.length ∧ ∃ vs, w.ownsRow B0 23 1 (.slice A n c) n vs ∧ ∀ (i : Nat) (t : List Tw), ts[i]? = some t -> ∃ (B : Option Addr) (d : Nat), vs[i]? = some (Value.slice B t.length d) ∧ RdT B0 w B t ∧ ∀ a, B = some a -> (Value.slice A n c).ownBlock ≠ some a.block ∧ a.block < w.heap.size
theorem TsR.nil (B0 : Nat) (w : World) : TsR B0 w none 0 0 [] := ⟨rfl, [], World.ownsRow_nil _ _ _ _, fun i t h => by simp at h⟩
theorem TsR.chg {B0 n c : Nat} {w w' : World} {A : Option Addr} {ts : List (List Tw)} {T : Nat -> Prop} (h : TsR B0 w A n c ts) (hc : Chg T w w') (hT : ∀ k, k < w.heap.size -> T k -> k < B0) : TsR B0 w' A n c ts := by
 obtain ⟨h1, vs, h2, h3⟩ := h
 refine ⟨h1, vs, ?_, fun i t ht => ?_⟩
 . exact own_chg (T := fun k => k < w.heap.size ∧ T k) h2 (hc.old (fun k a b => ⟨a, b⟩)) (fun g hg hk => by have := (World.ownsRow.lt h2 g hg).1; have := hT _ hk.1 hk.2; omega)
 . obtain ⟨B, d, h4, h5, h6⟩ := h3 i t ht
   exact ⟨B, d, h4, h5.chg hc hT, fun a ha => ⟨(h6 a ha).1, Nat.lt_of_lt_of_le (h6 a ha).2 hc.size⟩⟩
theorem TsR.below {B0 n c : Nat} {w w' : World} {A : Option Addr} {ts : List (List Tw)} (h : TsR B0 w A n c ts) (hb : Below w.heap.size w w') : TsR B0 w' A n c ts := h.chg (T := fun _ => False) (.of_below hb) (fun _ _ h => h.elim)
theorem TsR.mono {B0 B1 n c : Nat} {w : World} {A : Option Addr} {ts : List (List Tw)} (h : TsR B0 w A n c ts) (hB : B1 <= B0) : TsR B1 w A n c ts := by
 obtain ⟨h1, vs, h2, h3⟩ := h
 refine ⟨h1, vs, own_mono h2 hB, fun i t ht => ?_⟩
 obtain ⟨B, d, h4, h5, h6⟩ := h3 i t ht
 exact ⟨B, d, h4, h5.mono hB, h6⟩
end Go.Proofs.YtbcadlocldplfaaDoor
