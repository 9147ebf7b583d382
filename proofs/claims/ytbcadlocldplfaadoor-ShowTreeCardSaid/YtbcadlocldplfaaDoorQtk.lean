/- Plain law: what the reader says with some fuel it says with more. And what follows from it. -/
import Derived.Test.YtbcadlocldplfaaDoorQta
import Derived.Test.YtbcadlocldplfaaDoorQte
import Derived.Test.YtbcadlocldplfaaDoorQt0
set_option maxHeartbeats 16000000
set_option linter.unusedSimpArgs false
set_option linter.unusedVariables false
namespace Go.Proofs.YtbcadlocldplfaaDoor
open Go.Proofs.Tryd
def Le {α : Type} (a b : Pr α) : Prop := a = .out ∨ a = b
theorem Le.refl {α : Type} (a : Pr α) : Le a a := .inr rfl
theorem Le.eq {α : Type} {a b : Pr α} (h : Le a b) (hn : a ≠ .out) : b = a := (h.resolve_left hn).symm
theorem Le.ite {α : Type} {c : Prop} [Decidable c] {a b a' b' : Pr α} (h1 : Le a a') (h2 : Le b b') : Le (if c then a else b) (if c then a' else b') := by
 by_cases h : c
 . rw [if_pos h, if_pos h]; exact h1
 . rw [if_neg h, if_neg h]; exact h2
theorem Le.add {α : Type} {a b : Pr α} (m : Bool) (h : Le a b) : Le (a.add m) (b.add m) := by
 rcases h with h | h
 . exact .inl (by rw [h]; rfl)
 . exact .inr (by rw [h])
theorem Le.bind {α β : Type} {a b : Pr α} {f g : α -> List Tz -> Pr β} (h : Le a b) (hf : ∀ x l, Le (f x l) (g x l)) : Le (a.bind f) (b.bind g) := by
 rcases h with h | h
 . exact .inl (by rw [h]; rfl)
 . rw [h]
   cases b with
   | out => exact .inl rfl
   | bad l => exact .inr rfl
   | ok x l m => exact (hf x l).add m
section
variable {f f' g g' h h' : List Tz -> Pr (List Tw)} (hf : ∀ l, Le (f l) (f' l)) (hg : ∀ l, Le (g l) (g' l)) (hh : ∀ l, Le (h l) (h' l))
include hf
theorem leftP_le (v : List (List UInt8 × Nat)) (once : Bool) : ∀ (n m : Nat), n <= m -> ∀ t l, Le (leftP f v once n t l) (leftP f' v once m t l)
 | 0, _, _, _, _ => .inl rfl
 | n + 1, 0, hn, _, _ => absurd hn (by omega)
 | n + 1, m + 1, hn, t, l => by
  unfold leftP
  cases v.find? (fun p => isT p.1 l) with
  | none => exact Le.refl _
  | some p => exact (hf _).bind fun u l1 => (Le.refl _).bind fun t2 l2 => Le.ite (Le.refl _) (leftP_le v once n m (by omega) t2 l2)
theorem listP_le (s : List UInt8) : ∀ (n m : Nat), n <= m -> ∀ acc l, Le (listP f s n acc l) (listP f' s m acc l)
 | 0, _, _, _, _ => .inl rfl
 | n + 1, 0, hn, _, _ => absurd hn (by omega)
 | n + 1, m + 1, hn, acc, l => by
  unfold listP
  exact (hf _).bind fun t l1 => Le.ite (Le.refl _) ((Le.refl _).bind fun _ l2 => listP_le s n m (by omega) (acc ++ [t]) l2)
theorem lisP_le (s : List UInt8) {n m : Nat} (hn : n <= m) (l : List Tz) : Le (lisP f s n l) (lisP f' s m l) := Le.ite (Le.refl _) (listP_le hf s n m hn [] l)
theorem postP_le : ∀ (n m : Nat), n <= m -> ∀ t l, Le (postP f n t l) (postP f' m t l)
 | 0, _, _, _, _ => .inl rfl
 | n + 1, 0, hn, _, _ => absurd hn (by omega)
 | n + 1, m + 1, hn, t, l => by
  unfold postP
  exact Le.ite ((hf _).bind fun u l1 => (Le.refl _).bind fun t2 l2 => (Le.refl _).bind fun _ l3 => postP_le n m (by omega) t2 l3) (Le.refl _)
theorem stmtsP_le : ∀ (n m : Nat), n <= m -> ∀ acc l, Le (stmtsP f n acc l) (stmtsP f' m acc l)
 | 0, _, _, _, _ => .inl rfl
 | n + 1, 0, hn, _, _ => absurd hn (by omega)
 | n + 1, m + 1, hn, acc, l => by
  unfold stmtsP
  exact Le.ite (Le.refl _) ((hf _).bind fun t l1 => stmtsP_le n m (by omega) (acc ++ [t]) l1)
theorem oneP_le (op : Nat) (l : List Tz) : Le (oneP f op l) (oneP f' op l) :=
 (Le.refl _).bind fun _ l1 => (hf l1).bind fun t l2 => Le.refl _
theorem askP_le {n m : Nat} (hn : n <= m) (op : Nat) (l : List Tz) : Le (askP f n op l) (askP f' m op l) :=
 (Le.refl _).bind fun s l1 => (Le.refl _).bind fun _ l2 => (lisP_le hf [41] hn l2).bind fun ts l3 => Le.refl _
include hg
theorem wordP_le {n m : Nat} (hn : n <= m) (l : List Tz) : Le (wordP f g n l) (wordP f' g' m l) := by
 unfold wordP
 refine Le.ite (Le.refl _) <| Le.ite (Le.refl _) <| Le.ite (Le.refl _) <| Le.ite (Le.refl _) <| Le.ite ((lisP_le hf [93] hn _).bind fun ts l1 => Le.refl _) <| Le.ite ((hf _).bind fun t l1 => Le.refl _) <|
  Le.ite (oneP_le hf 45 _) <| Le.ite (oneP_le hf 46 _) <| Le.ite (oneP_le hf 47 _) <| Le.ite (oneP_le hf 48 _) <| Le.ite (oneP_le hf 52 _) <|
  Le.ite ((Le.refl _).bind fun _ l1 => (hf l1).bind fun a l2 => (Le.refl _).bind fun _ l3 => (hf l3).bind fun b l4 => Le.refl _) <|
  Le.ite ((hg _).bind fun t l1 => Le.refl _) <| Le.ite (Le.refl _) <| Le.ite (askP_le hf hn 50 _) <| Le.ite (askP_le hf hn 51 _) (Le.refl _)
theorem primP_le {n m : Nat} (hn : n <= m) (l : List Tz) : Le (primP f g n l) (primP f' g' m l) := by
 cases l with
 | nil => exact Le.refl _
 | cons x r => exact Le.ite (Le.refl _) (Le.ite (Le.refl _) (Le.ite (Le.refl _) (wordP_le hf hg hn _)))
theorem stmtP_le (l : List Tz) : Le (stmtP f g l) (stmtP f' g' l) := by
 unfold stmtP
 exact Le.ite ((Le.refl _).bind fun s l1 => (Le.refl _).bind fun _ l2 => (hf l2).bind fun t l3 => Le.refl _) <|
  Le.ite ((Le.refl _).bind fun s l1 => (Le.refl _).bind fun _ l2 => (hf l2).bind fun t l3 => Le.refl _) <|
  Le.ite ((hf _).bind fun c l1 => (hg l1).bind fun t l2 => Le.ite ((hg _).bind fun u l3 => Le.refl _) (Le.refl _)) <|
  Le.ite ((hf _).bind fun c l1 => (hg l1).bind fun t l2 => Le.refl _) <|
  Le.ite ((hf _).bind fun t l1 => Le.refl _) <| Le.ite ((hf _).bind fun t l1 => Le.refl _) <|
  Le.ite ((hf _).bind fun t l1 => Le.refl _) <| Le.ite ((hf _).bind fun t l1 => Le.refl _) (Le.refl _)
include hh
theorem preP_le {n m : Nat} (hn : n <= m) (l : List Tz) : Le (preP f g h n l) (preP f' g' h' m l) := by
 unfold preP
 exact Le.ite ((hf _).bind fun t l1 => Le.refl _) <| Le.ite ((hf _).bind fun t l1 => Le.refl _) <| Le.ite ((hf _).bind fun t l1 => Le.refl _) ((hg _).bind fun t l1 => postP_le hh n m hn t l1)
end
theorem P_le : ∀ (n m : Nat), n <= m -> ∀ nt l, Le (P n nt l) (P m nt l)
 | 0, _, _, _, _ => .inl (by rw [P])
 | n + 1, 0, hn, _, _ => absurd hn (by omega)
 | n + 1, m + 1, hn, nt, l => by
  have hn2 : n <= m := by omega
  have ih := P_le n m hn2
  cases nt <;> rw [P, P]
  . exact (ih _ _).bind fun t l1 => leftP_le (ih _) _ _ n m hn2 t l1
  . exact (ih _ _).bind fun t l1 => leftP_le (ih _) _ _ n m hn2 t l1
  . exact Le.ite ((ih _ _).bind fun t l1 => Le.refl _) ((ih _ _).bind fun t l1 => leftP_le (ih _) _ _ n m hn2 t l1)
  . exact (ih _ _).bind fun t l1 => leftP_le (ih _) _ _ n m hn2 t l1
  . exact (ih _ _).bind fun t l1 => leftP_le (ih _) _ _ n m hn2 t l1
  . exact preP_le (ih _) (ih _) (ih _) hn2 l
  . exact primP_le (ih _) (ih _) hn2 l
  . exact (Le.refl _).bind fun _ l1 => (stmtsP_le (ih _) n m hn2 [] l1).bind fun ts l2 => Le.refl _
  . exact stmtP_le (ih _) (ih _) l
end Go.Proofs.YtbcadlocldplfaaDoor
namespace Go.Proofs.YtbcadlocldplfaaDoor
open Go.Proofs.Tryd
open T8
def wd (s : List UInt8) : Tz := ⟨1, bs s, 0, 0⟩
def wt (s : ByteArray) : Tz := ⟨1, s, 0, 0⟩
def sg (s : List UInt8) : Tz := ⟨4, bs s, 0, 0⟩
def width (op : Nat) : Nat :=
 if op = 30 then 1 else if op = 31 then 2 else if op = 43 then 3 else if 32 <= op ∧ op <= 35 then 4 else if op = 36 ∨ op = 37 then 5
 else if 38 <= op ∧ op <= 40 then 6 else if op = 44 ∨ op = 54 ∨ op = 55 then 7 else if op = 42 then 8 else 9
abbrev Sh := Nat -> List Tz
def commas (m : Nat) : List Sh -> List Tz
 | [] => []
 | [f] => f m
 | f :: g :: r => f m ++ sg [44] :: commas m (g :: r)
def lisS (o : List UInt8) (fs : List Sh) (e : List UInt8) : List Tz := sg o :: (commas 1 fs ++ [sg e])
def nthS (fs : List Sh) (i a : Nat) : List Tz := (fs[i]?.getD fun _ => []) a
def midT (op : Nat) : Tz :=
 if op = 30 then wd [111, 114] else if op = 31 then wd [97, 110, 100] else if op = 32 then sg [61, 61] else if op = 33 then sg [33, 61]
 else if op = 34 then sg [60] else if op = 35 then sg [60, 61] else if op = 36 then sg [43] else if op = 37 then sg [45]
 else if op = 38 then sg [42] else if op = 39 then sg [47] else sg [37]
def oneT (op : Nat) : Tz :=
 if op = 45 then wd [108, 101, 110] else if op = 46 then wd [114, 101] else if op = 47 then wd [105, 109] else if op = 48 then wd [99, 111, 110, 106]
 else if op = 52 then wd [116, 105, 109, 101, 114] else wd [110, 117, 109]
def bareS (x : Tw) (fs : List Sh) : List Tz :=
 if x.op = 20 then [wd [110, 111, 110, 101]] else if x.op = 21 then [wd [116, 114, 117, 101]] else if x.op = 22 then [wd [102, 97, 108, 115, 101]]
 else if x.op = 57 then [wd [118, 101, 114, 115, 105, 111, 110]] else if x.op = 23 then [⟨2, bs [], x.int, 0⟩] else if x.op = 24 then [⟨3, x.text, 0, 0⟩]
 else if x.op = 26 then [wt x.text] else if x.op = 56 then [wd [116, 97, 107, 101], wt x.text] else if x.op = 25 then lisS [91] fs [93]
 else if x.op = 50 then wd [99, 97, 108, 108] :: wt x.text :: lisS [40] fs [41] else if x.op = 51 then wd [99, 104, 105, 108, 100] :: wt x.text :: lisS [40] fs [41]
 else if x.op = 41 ∨ x.op = 45 ∨ x.op = 46 ∨ x.op = 47 ∨ x.op = 48 ∨ x.op = 52 then oneT x.op :: lisS [40] fs [41]
 else if x.op = 53 then wd [102, 111, 114, 107] :: nthS fs 0 10
 else if x.op = 43 then wd [110, 111, 116] :: nthS fs 0 3 else if x.op = 44 then sg [45] :: nthS fs 0 7
 else if x.op = 54 then wd [97, 119, 97, 105, 116] :: nthS fs 0 7 else if x.op = 55 then wd [115, 101, 116, 116, 108, 101] :: nthS fs 0 7
 else if x.op = 42 then nthS fs 0 8 ++ sg [91] :: (nthS fs 1 1 ++ [sg [93]])
 else if 32 <= x.op ∧ x.op <= 35 then nthS fs 0 5 ++ midT x.op :: nthS fs 1 5
 else nthS fs 0 (width x.op) ++ midT x.op :: nthS fs 1 (width x.op + 1)
def allS (m : Nat) (fs : List Sh) : List Tz := fs.flatMap (· m)
def blockS (fs : List Sh) : List Tz := sg [123] :: (allS 11 fs ++ [sg [125]])
def stmtS (x : Tw) (fs : List Sh) : List Tz :=
 if x.op = 4 then wd [108, 101, 116] :: wt x.text :: sg [61] :: nthS fs 0 1 else if x.op = 5 then wt x.text :: sg [61] :: nthS fs 0 1
 else if x.op = 6 then wd [105, 102] :: (nthS fs 0 1 ++ (nthS fs 1 10 ++ if fs.length = 3 then wd [101, 108, 115, 101] :: nthS fs 2 10 else []))
 else if x.op = 7 then wd [119, 104, 105, 108, 101] :: (nthS fs 0 1 ++ nthS fs 1 10)
 else if x.op = 8 then wd [114, 101, 116, 117, 114, 110] :: nthS fs 0 1 else if x.op = 9 then wd [102, 97, 105, 108] :: nthS fs 0 1
 else if x.op = 10 then wd [115, 108, 101, 101, 112] :: nthS fs 0 1 else wd [100, 111] :: nthS fs 0 1
def flowS (x : Tw) (fs : List Sh) : List Tz := wd [102, 108, 111, 119] :: wt x.text :: sg [40] :: (commas 12 fs.dropLast ++ sg [41] :: nthS fs (fs.length - 1) 10)
def bodyS (x : Tw) (fs : List Sh) (a : Nat) : List Tz :=
 if a = 10 then blockS fs else if a = 11 then stmtS x fs else if a = 12 then [wt x.text] else if a = 13 then flowS x fs
 else if width x.op < a then sg [40] :: (bareS x fs ++ [sg [41]]) else bareS x fs
mutual
def sh : Tr -> Sh
 | .node x ks => bodyS x (shs ks)
def shs : List Tr -> List Sh
 | [] => []
 | k :: ks => sh k :: shs ks
end
theorem shs_map : ∀ ks : List Tr, shs ks = ks.map sh
 | [] => rfl
 | k :: ks => by rw [shs, List.map_cons, shs_map ks]
theorem shs_len (ks : List Tr) : (shs ks).length = ks.length := by rw [shs_map, List.length_map]
def shown (t : Tr) : List Tz := match t with
 | .node x _ => sh t (if x.op = 1 then 13 else 1)
def goesOn (a : Nat) : List (List UInt8) :=
 (if a <= 1 then [[111, 114]] else []) ++ ((if a <= 2 then [[97, 110, 100]] else []) ++ ((if a <= 4 then [[61, 61], [33, 61], [60], [60, 61]] else []) ++
 ((if a <= 5 then [[43], [45]] else []) ++ ((if a <= 6 then [[42], [47], [37]] else []) ++ (if a <= 8 then [[91]] else [])))))
def Sp (a : Nat) (r : List Tz) : Prop := ∀ s ∈ goesOn a, isT s r = false
theorem goesOn_mono {a b : Nat} (h : a <= b) : ∀ s ∈ goesOn b, s ∈ goesOn a := by
 intro s hs
 unfold goesOn at hs |-
 simp only [List.mem_append] at hs |-
 rcases hs with hs | hs | hs | hs | hs | hs
 all_goals
  split at hs
  . first
     | exact .inl (by rw [if_pos (by omega)]; exact hs)
     | exact .inr (.inl (by rw [if_pos (by omega)]; exact hs))
     | exact .inr (.inr (.inl (by rw [if_pos (by omega)]; exact hs)))
     | exact .inr (.inr (.inr (.inl (by rw [if_pos (by omega)]; exact hs))))
     | exact .inr (.inr (.inr (.inr (.inl (by rw [if_pos (by omega)]; exact hs)))))
     | exact .inr (.inr (.inr (.inr (.inr (by rw [if_pos (by omega)]; exact hs)))))
  . cases hs
theorem Sp.mono {a b : Nat} {r : List Tz} (h : Sp a r) (hab : a <= b) : Sp b r := fun s hs => h s (goesOn_mono hab s hs)
def Rd (nt : Nt) (l : List Tz) (X : Pr (List Tw)) : Prop := X ≠ .out ∧ ∃ n, P n nt l = X
theorem Rd.at {nt : Nt} {l : List Tz} {X : Pr (List Tw)} (h : Rd nt l X) : ∃ n, ∀ m, n <= m -> P m nt l = X := by
 obtain ⟨h0, n, h⟩ := h
 exact ⟨n, fun m hm => by rw [<- h] at h0 |-; exact (P_le n m hm nt l).eq h0⟩
def Lf (nt : Nt) (v : List (List UInt8 × Nat)) (once : Bool) (t : List Tw) (l : List Tz) (X : Pr (List Tw)) : Prop := X ≠ .out ∧ ∃ n, leftP (P n nt) v once n t l = X
theorem Lf.at {nt : Nt} {v : List (List UInt8 × Nat)} {once : Bool} {t : List Tw} {l : List Tz} {X : Pr (List Tw)} (h : Lf nt v once t l X) : ∃ n, ∀ m k, n <= m -> n <= k -> leftP (P m nt) v once k t l = X := by
 obtain ⟨h0, n, h⟩ := h
 exact ⟨n, fun m k hm hk => by rw [<- h] at h0 |-; exact (leftP_le (P_le n m hm nt) v once n k hk t l).eq h0⟩
def Pf (t : List Tw) (l : List Tz) (X : Pr (List Tw)) : Prop := X ≠ .out ∧ ∃ n, postP (P n .expr) n t l = X
theorem Pf.at {t : List Tw} {l : List Tz} {X : Pr (List Tw)} (h : Pf t l X) : ∃ n, ∀ m k, n <= m -> n <= k -> postP (P m .expr) k t l = X := by
 obtain ⟨h0, n, h⟩ := h
 exact ⟨n, fun m k hm hk => by rw [<- h] at h0 |-; exact (postP_le (P_le n m hm .expr) n k hk t l).eq h0⟩
theorem Rd.level {nt below : Nt} {v : List (List UInt8 × Nat)} {once : Bool} (hP : ∀ n l, P (n + 1) nt l = (P n below l).bind (leftP (P n below) v once n)) {l r : List Tz} {t : List Tw} {X : Pr (List Tw)} (h1 : Rd below l (.ok t r false)) (h2 : Lf below v once t r X) : Rd nt l X := by
 obtain ⟨n1, h1⟩ := h1.at
 have h0 := h2.1
 obtain ⟨n2, h2⟩ := h2.at
 refine ⟨h0, max n1 n2 + 1, ?_⟩
 rw [hP, h1 _ (by omega)]
 show Pr.add false _ = X
 rw [Pr.add_false, h2 _ _ (by omega) (by omega)]
theorem Lf.none {nt : Nt} {v : List (List UInt8 × Nat)} {once : Bool} {t : List Tw} {l : List Tz} (h : ∀ p ∈ v, isT p.1 l = false) : Lf nt v once t l (.ok t l false) := by
 refine ⟨by simp, 1, ?_⟩
 unfold leftP
 rw [List.find?_eq_none.2 (fun p hp => by rw [h p hp]; simp)]
theorem ofP_small {x : Tw} {ts : List (List Tw)} {l : List Tz} (h : 1 + ts.flatten.length <= 2048) : ofP x ts l = .ok ({ x with kids := (ts.length : Nat) } :: ts.flatten) l false := by
 unfold ofP
 rw [if_neg (by omega)]
theorem Lf.once {nt : Nt} {v : List (List UInt8 × Nat)} {t u : List Tw} {y : Tz} {l r : List Tz} {p : List UInt8 × Nat} (hf : v.find? (fun p => isT p.1 (y :: l)) = some p) (h1 : Rd nt l (.ok u r false)) (hs : 1 + (t.length + u.length) <= 2048) : Lf nt v true t (y :: l) (.ok (⟨p.2, 2, 0, bs []⟩ :: (t ++ u)) r false) := by
 obtain ⟨n1, h1⟩ := h1.at
 refine ⟨by simp, n1 + 1, ?_⟩
 unfold leftP
 rw [hf]
 show (P _ nt l).bind _ = _
 rw [h1 _ (by omega)]
 show Pr.add false (Pr.bind (ofP _ _ _) _) = _
 rw [Pr.add_false, ofP_small (by simpa using hs)]
 simp [Pr.bind, Pr.add]
theorem Pf.none {t : List Tw} {l : List Tz} (h : isT [91] l = false) : Pf t l (.ok t l false) := by
 refine ⟨by simp, 1, ?_⟩
 unfold postP
 rw [h]
 rfl
theorem Rd.post {l r : List Tz} {t : List Tw} {X : Pr (List Tw)} (hh : isT [45] l = false ∧ isT [97, 119, 97, 105, 116] l = false ∧ isT [115, 101, 116, 116, 108, 101] l = false) (h1 : Rd .prim l (.ok t r false)) (h2 : Pf t r X) : Rd .pre l X := by
 obtain ⟨n1, h1⟩ := h1.at
 have h0 := h2.1
 obtain ⟨n2, h2⟩ := h2.at
 refine ⟨h0, max n1 n2 + 1, ?_⟩
 rw [P]
 unfold preP
 rw [hh.1, hh.2.1, hh.2.2, if_neg (by simp), if_neg (by simp), if_neg (by simp), h1 _ (by omega)]
 show Pr.add false _ = X
 rw [Pr.add_false]
 exact h2 _ _ (by omega) (by omega)
theorem Rd.cmp {l r : List Tz} {t : List Tw} {X : Pr (List Tw)} (hn : isT [110, 111, 116] l = false) (h1 : Rd .sum l (.ok t r false)) (h2 : Lf .sum sCmp true t r X) : Rd .not_ l X := by
 obtain ⟨n1, h1⟩ := h1.at
 have h0 := h2.1
 obtain ⟨n2, h2⟩ := h2.at
 refine ⟨h0, max n1 n2 + 1, ?_⟩
 rw [P, hn, if_neg (by simp), h1 _ (by omega)]
 show Pr.add false _ = X
 rw [Pr.add_false, h2 _ _ (by omega) (by omega)]
theorem Rd.or_ {l r : List Tz} {t : List Tw} {X : Pr (List Tw)} (h1 : Rd .and_ l (.ok t r false)) (h2 : Lf .and_ sOr false t r X) : Rd .expr l X := Rd.level (fun n l => by rw [P]) h1 h2
theorem Rd.and_ {l r : List Tz} {t : List Tw} {X : Pr (List Tw)} (h1 : Rd .not_ l (.ok t r false)) (h2 : Lf .not_ sAnd false t r X) : Rd .and_ l X := Rd.level (fun n l => by rw [P]) h1 h2
theorem Rd.sum {l r : List Tz} {t : List Tw} {X : Pr (List Tw)} (h1 : Rd .term l (.ok t r false)) (h2 : Lf .term sSum false t r X) : Rd .sum l X := Rd.level (fun n l => by rw [P]) h1 h2
theorem Rd.term {l r : List Tz} {t : List Tw} {X : Pr (List Tw)} (h1 : Rd .pre l (.ok t r false)) (h2 : Lf .pre sTerm false t r X) : Rd .term l X := Rd.level (fun n l => by rw [P]) h1 h2
def signT : List (List UInt8) := [[40], [41], [123], [125], [91], [93], [44], [61], [61, 61], [33, 61], [60], [60, 61], [43], [45], [42], [47], [37]]
def Own (s : ByteArray) : Prop := kwB s = false ∧ s.data.toList ∉ signT
inductive Rt : Nat -> Tr -> Prop where
 | word {op : Nat} (h : op = 20 ∨ op = 21 ∨ op = 22 ∨ op = 57) : Rt 0 (.node ⟨op, 0, 0, bs []⟩ [])
 | int (i : Int) : Rt 0 (.node ⟨23, 0, i, bs []⟩ [])
 | text (s : ByteArray) : Rt 0 (.node ⟨24, 0, 0, s⟩ [])
 | name {s : ByteArray} (h : Own s) : Rt 0 (.node ⟨26, 0, 0, s⟩ [])
 | take {s : ByteArray} (h : Own s) : Rt 0 (.node ⟨56, 0, 0, s⟩ [])
 | list {ks : List Tr} (h : ∀ k ∈ ks, Rt 0 k) : Rt 0 (.node ⟨25, (ks.length : Nat), 0, bs []⟩ ks)
 | call {op : Nat} {s : ByteArray} {ks : List Tr} (ho : op = 50 ∨ op = 51) (hs : Own s) (h : ∀ k ∈ ks, Rt 0 k) : Rt 0 (.node ⟨op, (ks.length : Nat), 0, s⟩ ks)
 | one {op : Nat} {k : Tr} (ho : op = 45 ∨ op = 46 ∨ op = 47 ∨ op = 48 ∨ op = 52) (h : Rt 0 k) : Rt 0 (.node ⟨op, 1, 0, bs []⟩ [k])
 | num {k j : Tr} (h : Rt 0 k) (h2 : Rt 0 j) : Rt 0 (.node ⟨41, 2, 0, bs []⟩ [k, j])
 | fork {k : Tr} (h : Rt 1 k) : Rt 0 (.node ⟨53, 1, 0, bs []⟩ [k])
 | not {k : Tr} (h : Rt 0 k) : Rt 0 (.node ⟨43, 1, 0, bs []⟩ [k])
 | pre {op : Nat} {k : Tr} (ho : op = 44 ∨ op = 54 ∨ op = 55) (h : Rt 0 k) : Rt 0 (.node ⟨op, 1, 0, bs []⟩ [k])
 | at_ {k j : Tr} (h : Rt 0 k) (h2 : Rt 0 j) : Rt 0 (.node ⟨42, 2, 0, bs []⟩ [k, j])
 | cmp {op : Nat} {k j : Tr} (ho : 32 <= op ∧ op <= 35) (h : Rt 0 k) (h2 : Rt 0 j) : Rt 0 (.node ⟨op, 2, 0, bs []⟩ [k, j])
 | bin {op : Nat} {k j : Tr} (ho : op = 30 ∨ op = 31 ∨ (36 <= op ∧ op <= 40)) (h : Rt 0 k) (h2 : Rt 0 j) : Rt 0 (.node ⟨op, 2, 0, bs []⟩ [k, j])
 | block {ks : List Tr} (h : ∀ k ∈ ks, Rt 2 k) : Rt 1 (.node ⟨3, (ks.length : Nat), 0, bs []⟩ ks)
 | put {op : Nat} {s : ByteArray} {k : Tr} (ho : op = 4 ∨ op = 5) (hs : Own s) (h : Rt 0 k) : Rt 2 (.node ⟨op, 1, 0, s⟩ [k])
 | if2 {k j : Tr} (h : Rt 0 k) (h2 : Rt 1 j) : Rt 2 (.node ⟨6, 2, 0, bs []⟩ [k, j])
 | if3 {k j i : Tr} (h : Rt 0 k) (h2 : Rt 1 j) (h3 : Rt 1 i) : Rt 2 (.node ⟨6, 3, 0, bs []⟩ [k, j, i])
 | while_ {k j : Tr} (h : Rt 0 k) (h2 : Rt 1 j) : Rt 2 (.node ⟨7, 2, 0, bs []⟩ [k, j])
 | do_ {op : Nat} {k : Tr} (ho : 8 <= op ∧ op <= 11) (h : Rt 0 k) : Rt 2 (.node ⟨op, 1, 0, bs []⟩ [k])
theorem bs_list (s : List UInt8) : (bs s).data.toList = s := rfl
theorem isT_wd (s t : List UInt8) (l : List Tz) : isT s (wd t :: l) = decide (t = s) := Bool.eq_iff_iff.2 (by simp [isT, wd, bs_list]; exact decide_eq_true_iff)
theorem isT_sg (s t : List UInt8) (l : List Tz) : isT s (sg t :: l) = decide (t = s) := Bool.eq_iff_iff.2 (by simp [isT, sg, bs_list]; exact decide_eq_true_iff)
theorem isT_wt (s : List UInt8) (t : ByteArray) (l : List Tz) : isT s (wt t :: l) = decide (t.data.toList = s) := Bool.eq_iff_iff.2 (by simp [isT, wt]; exact decide_eq_true_iff)
theorem isT_int (s : List UInt8) (x : ByteArray) (i : Int) (l : List Tz) : isT s (⟨2, x, i, 0⟩ :: l) = false := by simp [isT]
theorem isT_text (s : List UInt8) (x : ByteArray) (i : Int) (l : List Tz) : isT s (⟨3, x, i, 0⟩ :: l) = false := by simp [isT]
theorem own_isT {t : ByteArray} (h : Own t) {s : List UInt8} (hs : s ∈ kw28) (l : List Tz) : isT s (wt t :: l) = false := by
 rw [isT_wt, decide_eq_false_iff_not]
 intro he
 have h := h.1
 unfold kwB at h
 rw [decide_eq_false_iff_not] at h
 exact h (he ▸ hs)
theorem own_sign {t : ByteArray} (h : Own t) {s : List UInt8} (hs : s ∈ signT) (l : List Tz) : isT s (wt t :: l) = false := by
 rw [isT_wt, decide_eq_false_iff_not]
 intro he
 exact h.2 (he ▸ hs)
theorem mine_sg (t : List UInt8) (l : List Tz) : mineT (sg t :: l) = false := rfl
theorem sh_node (x : Tw) (ks : List Tr) (a : Nat) : sh (.node x ks) a = bodyS x (shs ks) a := by rw [sh]
theorem sh_expr (x : Tw) (ks : List Tr) {a : Nat} (ha : a <= 9) : sh (.node x ks) a = if width x.op < a then sg [40] :: (bareS x (shs ks) ++ [sg [41]]) else bareS x (shs ks) := by
 rw [sh_node]
 unfold bodyS
 rw [if_neg (by omega), if_neg (by omega), if_neg (by omega), if_neg (by omega)]
abbrev sNot : List UInt8 := [110, 111, 116]
abbrev sAwait : List UInt8 := [97, 119, 97, 105, 116]
abbrev sSettle : List UInt8 := [115, 101, 116, 116, 108, 101]
def Begun (a : Nat) (l : List Tz) : Prop := ∃ y r, l = y :: r ∧ (4 <= a -> isT sNot [y] = false) ∧ (8 <= a -> isT [45] [y] = false ∧ isT sAwait [y] = false ∧ isT sSettle [y] = false) ∧ isT [93] [y] = false ∧ isT [41] [y] = false
theorem Begun.app {a : Nat} {l : List Tz} (h : Begun a l) (r : List Tz) : Begun a (l ++ r) := by
 obtain ⟨y, t, rfl, h1, h2⟩ := h
 exact ⟨y, t ++ r, rfl, h1, h2⟩
theorem Begun.mono {a b : Nat} {l : List Tz} (h : Begun b l) (hab : a <= b) : Begun a l := by
 obtain ⟨y, t, rfl, h1, h2, h3⟩ := h
 exact ⟨y, t, rfl, fun h => h1 (by omega), fun h => h2 (by omega), h3⟩
theorem begun_sg {a : Nat} {s : List UInt8} {r : List Tz} (h : s ≠ [45]) (h1 : s ≠ sNot) (h2 : s ≠ sAwait) (h3 : s ≠ sSettle) (h4 : s ≠ [93] := by decide) (h5 : s ≠ [41] := by decide) : Begun a (sg s :: r) :=
 ⟨_, _, rfl, fun _ => by rw [isT_sg]; exact dqf h1, fun _ => ⟨by rw [isT_sg]; exact dqf h, by rw [isT_sg]; exact dqf h2, by rw [isT_sg]; exact dqf h3⟩, by rw [isT_sg]; exact dqf h4, by rw [isT_sg]; exact dqf h5⟩
theorem begun_wd {a : Nat} {s : List UInt8} {r : List Tz} (h : s ≠ [45]) (h1 : s ≠ sNot) (h2 : s ≠ sAwait) (h3 : s ≠ sSettle) (h4 : s ≠ [93] := by decide) (h5 : s ≠ [41] := by decide) : Begun a (wd s :: r) :=
 ⟨_, _, rfl, fun _ => by rw [isT_wd]; exact dqf h1, fun _ => ⟨by rw [isT_wd]; exact dqf h, by rw [isT_wd]; exact dqf h2, by rw [isT_wd]; exact dqf h3⟩, by rw [isT_wd]; exact dqf h4, by rw [isT_wd]; exact dqf h5⟩
theorem begun_int {a : Nat} {s : ByteArray} {i : Int} {r : List Tz} : Begun a (⟨2, s, i, 0⟩ :: r) := ⟨_, _, rfl, fun _ => isT_int _ _ _ _, fun _ => ⟨isT_int _ _ _ _, isT_int _ _ _ _, isT_int _ _ _ _⟩, isT_int _ _ _ _, isT_int _ _ _ _⟩
theorem begun_text {a : Nat} {s : ByteArray} {i : Int} {r : List Tz} : Begun a (⟨3, s, i, 0⟩ :: r) := ⟨_, _, rfl, fun _ => isT_text _ _ _ _, fun _ => ⟨isT_text _ _ _ _, isT_text _ _ _ _, isT_text _ _ _ _⟩, isT_text _ _ _ _, isT_text _ _ _ _⟩
theorem nth0 (k : Tr) (ks : List Tr) (a : Nat) : nthS (shs (k :: ks)) 0 a = sh k a := by rw [shs]; rfl
theorem nth1 (k j : Tr) (ks : List Tr) (a : Nat) : nthS (shs (k :: j :: ks)) 1 a = sh j a := by rw [shs, shs]; rfl
theorem bare_pre {op : Nat} (ho : op = 44 ∨ op = 54 ∨ op = 55) (k : Tr) : ∃ y, bareS ⟨op, 1, 0, bs []⟩ (shs [k]) = y :: sh k 7 ∧ (isT sNot [y] = false ∧ isT [93] [y] = false ∧ isT [41] [y] = false) ∧ (∀ l, (isT [45] (y :: l) = true ∧ op = 44) ∨ (isT [45] (y :: l) = false ∧ isT [97, 119, 97, 105, 116] (y :: l) = true ∧ op = 54) ∨ (isT [45] (y :: l) = false ∧ isT [97, 119, 97, 105, 116] (y :: l) = false ∧ isT [115, 101, 116, 116, 108, 101] (y :: l) = true ∧ op = 55)) := by
 rcases ho with rfl | rfl | rfl
 . exact ⟨sg [45], by simp [bareS, nth0], by decide, fun l => .inl ⟨by rw [isT_sg]; rfl, rfl⟩⟩
 . exact ⟨wd [97, 119, 97, 105, 116], by simp [bareS, nth0], by decide, fun l => .inr (.inl ⟨by rw [isT_wd]; rfl, by rw [isT_wd]; rfl, rfl⟩)⟩
 . exact ⟨wd [115, 101, 116, 116, 108, 101], by simp [bareS, nth0], by decide, fun l => .inr (.inr ⟨by rw [isT_wd]; rfl, by rw [isT_wd]; rfl, by rw [isT_wd]; rfl, rfl⟩)⟩
theorem bare_cmp {op : Nat} (ho : 32 <= op ∧ op <= 35) (k j : Tr) : bareS ⟨op, 2, 0, bs []⟩ (shs [k, j]) = sh k 5 ++ midT op :: sh j 5 ∧ width op = 4 := by
 rcases (by omega : op = 32 ∨ op = 33 ∨ op = 34 ∨ op = 35) with rfl | rfl | rfl | rfl
 all_goals exact ⟨by simp [bareS, nth0, nth1], by decide⟩
theorem bare_bin {op : Nat} (ho : op = 30 ∨ op = 31 ∨ (36 <= op ∧ op <= 40)) (k j : Tr) : bareS ⟨op, 2, 0, bs []⟩ (shs [k, j]) = sh k (width op) ++ midT op :: sh j (width op + 1) ∧ (width op = 1 ∨ width op = 2 ∨ width op = 5 ∨ width op = 6) := by
 rcases (by omega : op = 30 ∨ op = 31 ∨ op = 36 ∨ op = 37 ∨ op = 38 ∨ op = 39 ∨ op = 40) with rfl | rfl | rfl | rfl | rfl | rfl | rfl
 all_goals exact ⟨by simp [bareS, nth0, nth1], by decide⟩
theorem begun_any : ∀ {kd : Nat} {t : Tr}, Rt kd t -> kd = 0 -> ∀ a, a <= 9 -> Begun a (sh t a) := by
 intro kd t h
 have brk : ∀ {a : Nat} {r : List Tz}, Begun a (sg [40] :: r) := begun_sg (by decide) (by decide) (by decide) (by decide)
 induction h with
 | word ho =>
  intro _ a ha
  rw [sh_expr _ _ ha]
  split
  . exact brk
  . rcases ho with rfl | rfl | rfl | rfl
    all_goals exact begun_wd (by decide) (by decide) (by decide) (by decide)
 | int i =>
  intro _ a ha
  rw [sh_expr _ _ ha]
  split
  . exact brk
  . exact begun_int
 | text s =>
  intro _ a ha
  rw [sh_expr _ _ ha]
  split
  . exact brk
  . exact begun_text
 | @name s hs =>
  intro _ a ha
  rw [sh_expr _ _ ha]
  split
  . exact brk
  . exact ⟨wt s, [], rfl, fun _ => own_isT hs (by decide) _, fun hh => ⟨own_sign hs (by decide) _, own_isT hs (by decide) _, own_isT hs (by decide) _⟩, own_sign hs (by decide) _, own_sign hs (by decide) _⟩
 | @take s hs =>
  intro _ a ha
  rw [sh_expr _ _ ha]
  split
  . exact brk
  . exact begun_wd (by decide) (by decide) (by decide) (by decide)
 | list h ih =>
  intro _ a ha
  rw [sh_expr _ _ ha]
  split
  . exact brk
  . exact begun_sg (by decide) (by decide) (by decide) (by decide)
 | call ho hs h ih =>
  intro _ a ha
  rw [sh_expr _ _ ha]
  split
  . exact brk
  . rcases ho with rfl | rfl
    all_goals exact begun_wd (by decide) (by decide) (by decide) (by decide)
 | one ho h ih =>
  intro _ a ha
  rw [sh_expr _ _ ha]
  split
  . exact brk
  . rcases ho with rfl | rfl | rfl | rfl | rfl
    all_goals exact begun_wd (by decide) (by decide) (by decide) (by decide)
 | num h h2 ih ih2 =>
  intro _ a ha
  rw [sh_expr _ _ ha]
  split
  . exact brk
  . exact begun_wd (by decide) (by decide) (by decide) (by decide)
 | fork h ih =>
  intro _ a ha
  rw [sh_expr _ _ ha]
  split
  . exact brk
  . exact begun_wd (by decide) (by decide) (by decide) (by decide)
 | not h ih =>
  intro _ a ha
  rw [sh_expr _ _ ha]
  split
  . exact brk
  . next hw =>
    have hw3 : width 43 = 3 := by decide
    exact ⟨wd sNot, _, rfl, fun h4 => absurd hw (by simp only [hw3]; omega), fun h8 => absurd hw (by simp only [hw3]; omega), by rw [isT_wd]; decide, by rw [isT_wd]; decide⟩
 | pre ho h ih =>
  intro _ a ha
  rw [sh_expr _ _ ha]
  split
  . exact brk
  . next hw =>
    obtain ⟨y, e, e1, _⟩ := bare_pre ho _
    rw [e]
    refine ⟨y, _, rfl, fun _ => e1.1, fun h8 => absurd hw ?_, e1.2⟩
    rcases ho with rfl | rfl | rfl
    all_goals (simp only [show width 44 = 7 by decide, show width 54 = 7 by decide, show width 55 = 7 by decide]; omega)
 | @at_ k j h h2 ih ih2 =>
  intro _ a ha
  rw [sh_expr _ _ ha]
  split
  . exact brk
  . next hw =>
    have e : bareS ⟨42, 2, 0, bs []⟩ (shs [k, j]) = sh k 8 ++ sg [91] :: (sh j 1 ++ [sg [93]]) := by simp [bareS, nth0, nth1]
    rw [e]
    have hw8 : width 42 = 8 := by decide
    exact ((ih rfl 8 (by decide)).mono (by have := hw; simp only [hw8] at this; omega)).app _
 | @cmp op k j ho h h2 ih ih2 =>
  intro _ a ha
  rw [sh_expr _ _ ha]
  split
  . exact brk
  . next hw =>
    obtain ⟨e, hw4⟩ := bare_cmp ho k j
    rw [e]
    exact ((ih rfl 5 (by decide)).mono (by have := hw; simp only [hw4] at this; omega)).app _
 | @bin op k j ho h h2 ih ih2 =>
  intro _ a ha
  rw [sh_expr _ _ ha]
  split
  . exact brk
  . next hw =>
    obtain ⟨e, hw4⟩ := bare_bin ho k j
    rw [e]
    have hw := Nat.le_of_not_lt hw
    exact ((ih rfl (width op) (by omega)).mono hw).app _
 | _ => intro hk; cases hk
def C (a : Nat) (l : List Tz) (T : List Tw) : Prop :=
 if a = 8 then ∀ r X, Pf T r X -> Rd .pre (l ++ r) X
 else if a = 7 then ∀ r, Sp 7 r -> Rd .pre (l ++ r) (.ok T r false)
 else if a = 6 then ∀ r X, Sp 7 r -> Lf .pre sTerm false T r X -> Rd .term (l ++ r) X
 else if a = 5 then ∀ r X, Sp 6 r -> Lf .term sSum false T r X -> Rd .sum (l ++ r) X
 else if a = 3 then ∀ r, Sp 3 r -> Rd .not_ (l ++ r) (.ok T r false)
 else if a = 2 then ∀ r X, Sp 3 r -> Lf .not_ sAnd false T r X -> Rd .and_ (l ++ r) X
 else ∀ r X, Sp 2 r -> Lf .and_ sOr false T r X -> Rd .expr (l ++ r) X
variable {l : List Tz} {T : List Tw}
theorem go_post {r : List Tz} (h : Sp 7 r) : isT [91] r = false := h _ (by decide)
theorem go_term {r : List Tz} (h : Sp 6 r) : ∀ p ∈ sTerm, isT p.1 r = false := fun p hp => h _ (by
 simp only [List.mem_cons, List.not_mem_nil, or_false] at hp
 rcases hp with rfl | rfl | rfl <;> decide)
theorem go_sum {r : List Tz} (h : Sp 5 r) : ∀ p ∈ sSum, isT p.1 r = false := fun p hp => h _ (by
 simp only [List.mem_cons, List.not_mem_nil, or_false] at hp
 rcases hp with rfl | rfl <;> decide)
theorem go_cmp {r : List Tz} (h : Sp 4 r) : ∀ p ∈ sCmp, isT p.1 r = false := fun p hp => h _ (by
 simp only [List.mem_cons, List.not_mem_nil, or_false] at hp
 rcases hp with rfl | rfl | rfl | rfl <;> decide)
theorem go_and {r : List Tz} (h : Sp 2 r) : ∀ p ∈ sAnd, isT p.1 r = false := fun p hp => h _ (by
 simp only [List.mem_cons, List.not_mem_nil, or_false] at hp
 rcases hp with rfl; decide)
theorem go_or {r : List Tz} (h : Sp 1 r) : ∀ p ∈ sOr, isT p.1 r = false := fun p hp => h _ (by
 simp only [List.mem_cons, List.not_mem_nil, or_false] at hp
 rcases hp with rfl; decide)
theorem C.s87 (h : C 8 l T) : C 7 l T := fun r hr => h r _ (Pf.none (go_post hr))
theorem C.s76 (h : C 7 l T) : C 6 l T := fun r X hr hx => Rd.term (h r hr) hx
theorem C.s65 (h : C 6 l T) : C 5 l T := fun r X hr hx => Rd.sum (h r _ (hr.mono (by decide)) (Lf.none (go_term hr))) hx
theorem C.s53 (h : C 5 l T) (hn : Begun 4 l) : C 3 l T := fun r hr => by
 refine Rd.cmp ?_ (h r _ (hr.mono (by decide)) (Lf.none (go_sum (hr.mono (by decide))))) (Lf.none (go_cmp (hr.mono (by decide))))
 obtain ⟨y, t, rfl, h1, _⟩ := hn
 exact h1 (by decide)
theorem C.s32 (h : C 3 l T) : C 2 l T := fun r X hr hx => Rd.and_ (h r hr) hx
theorem C.s21 (h : C 2 l T) : C 1 l T := fun r X hr hx => Rd.or_ (h r _ (hr.mono (by decide)) (Lf.none (go_and hr))) hx
def Asks (a : Nat) : Prop := a = 1 ∨ a = 2 ∨ a = 3 ∨ a = 5 ∨ a = 6 ∨ a = 7 ∨ a = 8
theorem C.down {a b : Nat} (ha : Asks a) (hb : Asks b) (hab : b <= a) (hn : 4 <= a -> Begun 4 l) (h : C a l T) : C b l T := by
 have d1 : ∀ {b}, Asks b -> b <= 1 -> C 1 l T -> C b l T := fun {b} hb h1 h => by
  rcases hb with rfl | rfl | rfl | rfl | rfl | rfl | rfl <;> first | exact h | omega
 have d2 : ∀ {b}, Asks b -> b <= 2 -> C 2 l T -> C b l T := fun {b} hb h1 h => by
  by_cases he : b = 2
  . rw [he]; exact h
  . exact d1 hb (by omega) h.s21
 have d3 : ∀ {b}, Asks b -> b <= 3 -> C 3 l T -> C b l T := fun {b} hb h1 h => by
  by_cases he : b = 3
  . rw [he]; exact h
  . exact d2 hb (by omega) h.s32
 have d5 : ∀ {b}, Begun 4 l -> Asks b -> b <= 5 -> C 5 l T -> C b l T := fun {b} hn hb h1 h => by
  by_cases he : b = 5
  . rw [he]; exact h
  . exact d3 hb (by rcases hb with rfl | rfl | rfl | rfl | rfl | rfl | rfl <;> omega) (h.s53 hn)
 have d6 : ∀ {b}, Begun 4 l -> Asks b -> b <= 6 -> C 6 l T -> C b l T := fun {b} hn hb h1 h => by
  by_cases he : b = 6
  . rw [he]; exact h
  . exact d5 hn hb (by omega) h.s65
 have d7 : ∀ {b}, Begun 4 l -> Asks b -> b <= 7 -> C 7 l T -> C b l T := fun {b} hn hb h1 h => by
  by_cases he : b = 7
  . rw [he]; exact h
  . exact d6 hn hb (by omega) h.s76
 rcases ha with rfl | rfl | rfl | rfl | rfl | rfl | rfl
 . exact d1 hb hab h
 . exact d2 hb hab h
 . exact d3 hb hab h
 . exact d5 (hn (by decide)) hb hab h
 . exact d6 (hn (by decide)) hb hab h
 . exact d7 (hn (by decide)) hb hab h
 . by_cases he : b = 8
   . rw [he]; exact h
   . exact d7 (hn (by decide)) hb (by omega) h.s87
theorem C.expr (h : C 1 l T) {r : List Tz} (hr : Sp 1 r) : Rd .expr (l ++ r) (.ok T r false) := h r _ (hr.mono (by decide)) (Lf.none (go_or hr))
theorem C.prim (hb : Begun 8 l) (h : ∀ r, Rd .prim (l ++ r) (.ok T r false)) : C 8 l T := fun r X hx => by
 refine Rd.post ?_ (h r) hx
 obtain ⟨y, t, rfl, _, h2, _⟩ := hb
 exact h2 (by decide)
theorem Rd.prim {l : List Tz} {X : Pr (List Tw)} (h0 : X ≠ .out) {n : Nat} (h : primP (P n .expr) (P n .block) n l = X) : Rd .prim l X := ⟨h0, n + 1, by rw [P]; exact h⟩
theorem sp_sg {a : Nat} {s : List UInt8} {r : List Tz} (h : s ∉ goesOn 1) (ha : 1 <= a) : Sp a (sg s :: r) := fun t ht => by
 rw [isT_sg, decide_eq_false_iff_not]
 intro he
 exact h (he ▸ goesOn_mono ha t ht)
theorem primP_cons (f g : List Tz -> Pr (List Tw)) (n : Nat) (x : Tz) (r : List Tz) : primP f g n (x :: r) = if x.kind = 2 then .ok [⟨23, 0, x.int, bs []⟩] r false else if x.kind = 3 then .ok [⟨24, 0, 0, x.text⟩] r false else if mineT (x :: r) = true then .ok [⟨26, 0, 0, x.text⟩] r false else wordP f g n (x :: r) := rfl
theorem prim_sg {f g : List Tz -> Pr (List Tw)} {n : Nat} {s : List UInt8} {m : List Tz} : primP f g n (sg s :: m) = wordP f g n (sg s :: m) := by
 rw [primP_cons, if_neg (show ¬ (sg s).kind = 2 by simp [sg]), if_neg (show ¬ (sg s).kind = 3 by simp [sg]), mine_sg]
 rfl
theorem prim_brk {f g : List Tz -> Pr (List Tw)} {n : Nat} {m : List Tz} : primP f g n (sg [40] :: m) = (f m).bind fun t l1 => (mustP [41] l1).bind fun _ l2 => .ok t l2 false := by
 rw [prim_sg]
 unfold wordP
 simp [isT_sg]
theorem must_sg {s : List UInt8} {m : List Tz} : mustP s (sg s :: m) = .ok () m false := by
 unfold mustP
 rw [isT_sg, dqt rfl, if_pos rfl]
 rfl
theorem C.wrap (h : C 1 l T) : C 8 (sg [40] :: (l ++ [sg [41]])) T := by
 refine C.prim (begun_sg (by decide) (by decide) (by decide) (by decide)) fun r => ?_
 have h1 := h.expr (r := sg [41] :: r) (sp_sg (by decide) (by decide))
 obtain ⟨n, hn⟩ := h1.at
 refine Rd.prim (by simp) (n := n) ?_
 rw [List.cons_append, List.append_assoc, prim_brk]
 show (P n .expr (l ++ sg [41] :: r)).bind _ = _
 rw [hn n (nlr _)]
 simp only [Pr.bind]
 rw [must_sg]
 rfl
theorem C.all {x : Tw} {ks : List Tr} {T : List Tw} (h : Rt 0 (.node x ks)) {w : Nat} (hw : Asks w) (h1 : w <= width x.op) (h2 : ∀ a, Asks a -> w < a -> width x.op < a) (hc : C w (bareS x (shs ks)) T) : ∀ a, Asks a -> C a (sh (.node x ks) a) T := by
 have h9 : ∀ {a}, Asks a -> a <= 9 := fun {a} ha => by rcases ha with rfl | rfl | rfl | rfl | rfl | rfl | rfl <;> decide
 have he : ∀ a, a <= 9 -> a <= w -> sh (.node x ks) a = bareS x (shs ks) := fun a ha9 ha => by rw [sh_expr x ks ha9, if_neg (by omega)]
 have hb : 4 <= w -> Begun 4 (bareS x (shs ks)) := fun h4 => by
  have := begun_any h rfl w (h9 hw)
  rw [he w (h9 hw) (nlr _)] at this
  exact this.mono h4
 have hd : ∀ a, Asks a -> a <= w -> C a (bareS x (shs ks)) T := fun a ha hle => C.down hw ha hle hb hc
 intro a ha
 by_cases hle : a <= w
 . rw [he a (h9 ha) hle]; exact hd a ha hle
 . rw [sh_expr x ks (h9 ha), if_pos (h2 a ha (by omega))]
   have h1w : 1 <= w := by rcases hw with rfl | rfl | rfl | rfl | rfl | rfl | rfl <;> decide
   exact C.down (.inr (.inr (.inr (.inr (.inr (.inr rfl)))))) ha (by rcases ha with rfl | rfl | rfl | rfl | rfl | rfl | rfl <;> decide) (fun _ => begun_sg (by decide) (by decide) (by decide) (by decide)) (hd 1 (.inl rfl) h1w).wrap
def nameT (s : ByteArray) : Tr := .node ⟨2, 0, 0, s⟩ []
theorem own_of {s : ByteArray} (h : (nameB s.toList && !kw s.toList) = true) : Own s := by
 rw [Bool.and_eq_true, ByteArray.toList_eq] at h
 obtain ⟨h1, h2⟩ := h
 have hk : s.data.toList ∉ kw28 := fun hm => by
  have : kw s.data.toList = true := by unfold kw; simpa using hm
  rw [this] at h2
  cases h2
 refine ⟨dqf hk, fun hm => ?_⟩
 have hf : fstC s.data.toList = true := by
  unfold nameB at h1
  rw [Bool.and_eq_true, Bool.and_eq_true] at h1
  exact h1.1.2
 have key : ∀ t ∈ signT, fstC t = false := by decide
 rw [key _ hm] at hf
 cases hf
def opOf : Tr -> Nat
 | .node x _ => x.op
def Goods (t : Tr) : Prop := (exprB (opOf t) = true -> Rt 0 t) ∧ (opOf t = 3 -> Rt 1 t) ∧ (stmtB (opOf t) = true -> Rt 2 t) ∧ (opOf t = 2 -> ∃ s, Own s ∧ t = nameT s) ∧ (opOf t = 1 -> ∃ (s : ByteArray) (ss : List ByteArray) (b : Tr), Own s ∧ (∀ s ∈ ss, Own s) ∧ Rt 1 b ∧ t = .node ⟨1, ((ss.length + 1 : Nat) : Int), 0, s⟩ (ss.map nameT ++ [b]))
theorem ok_part : ∀ {t : Tr} {may : Nat -> Bool}, t.ok may -> may (opOf t) = true
 | .node x ks, may, h => by
  rw [Tr.ok] at h
  have h1 := h.1
  unfold fineB at h1
  split at h1
  . cases h1
  . rw [Bool.and_eq_true] at h1
    exact h1.1
theorem fine_of {x : Tw} {may : Nat -> Bool} {f : T8.Form} (hf : formOf x.op = some f) (h : fineB x may = true) : txtB f.txt x.text = true ∧ (f.least : Int) <= x.kids ∧ x.kids <= (f.most : Int) ∧ (x.op = 23 ∨ x.int = 0) := by
 unfold fineB at h
 rw [hf] at h
 simp only [Bool.and_eq_true, decide_eq_true_eq] at h
 exact ⟨h.2.1, h.2.2.1, h.2.2.2.1, h.2.2.2.2.1⟩
theorem nul_of {s : ByteArray} (h : txtB 81 s = true) : s = bs [] := by
 have h2 : s.toList.isEmpty = true := h
 rw [List.isEmpty_iff, ByteArray.toList_eq] at h2
 have h3 : s.data = #[] := Array.toList_eq_nil_iff.1 h2
 obtain ⟨d⟩ := s
 show ByteArray.mk d = ByteArray.mk _
 congr 1
theorem own56 {s : ByteArray} (h : txtB 78 s = true) : Own s := own_of h
abbrev Parts (x : Tw) (ks : List Tr) : Prop := ∀ (j : Nat) (k : Tr), ks[j]? = some k -> partOf x j (opOf k) = true ∧ Goods k
theorem part_of {x : Tw} {f : T8.Form} (hf : formOf x.op = some f) (i op : Nat) : partOf x i op = prtB f.prt i x.kids.toNat op := by
 unfold partOf
 rw [hf]
theorem kids63 {x : Tw} {ks : List Tr} {a b c : Nat} (hf : formOf x.op = some ⟨a, b, c, 85⟩) (hp : Parts x ks) : ∀ k ∈ ks, Rt 0 k := by
 intro k hk
 obtain ⟨j, hj⟩ := List.getElem?_of_mem hk
 have h := hp j k hj
 rw [part_of hf] at h
 exact h.2.1 h.1
theorem none_of {ks : List Tr} {n : Int} (hn : n = (ks.length : Nat)) (h : n <= ((0 : Nat) : Int)) : ks = [] := List.length_eq_zero_iff.1 (by omega)
theorem one_of {ks : List Tr} {n : Int} (hn : n = (ks.length : Nat)) (h1 : ((1 : Nat) : Int) <= n) (h : n <= ((1 : Nat) : Int)) : ∃ k, ks = [k] := List.length_eq_one_iff.1 (by omega)
theorem len_two {ks : List Tr} (h : ks.length = 2) : ∃ k j, ks = [k, j] := by
 match ks, h with
 | [k, j], _ => exact ⟨k, j, rfl⟩
theorem len_three {ks : List Tr} (h : ks.length = 3) : ∃ k j i, ks = [k, j, i] := by
 match ks, h with
 | [k, j, i], _ => exact ⟨k, j, i, rfl⟩
theorem two_of {ks : List Tr} {n : Int} (hn : n = (ks.length : Nat)) (h1 : ((2 : Nat) : Int) <= n) (h : n <= ((2 : Nat) : Int)) : ∃ k j, ks = [k, j] := len_two (by omega)
theorem part61 {op : Nat} {kids int : Int} {text : ByteArray} {ks : List Tr} (hp : Parts ⟨op, kids, int, text⟩ ks) {b : Nat} (hf : formOf op = some ⟨81, 2, b, 83⟩) : (∀ k, ks[0]? = some k -> Rt 0 k) ∧ (∀ j k, ks[j + 1]? = some k -> Rt 1 k) := by
 refine ⟨fun k hk => ?_, fun j k hk => ?_⟩
 . have hb := hp 0 k hk
   rw [part_of (x := ⟨op, kids, int, text⟩) hf] at hb
   refine hb.2.1 ?_
   have h2 : (decide (0 = 0) && exprB (opOf k) || decide (0 < 0 ∧ opOf k = 3)) = true := hb.1
   simpa using h2
 . have hb := hp (j + 1) k hk
   rw [part_of (x := ⟨op, kids, int, text⟩) hf] at hb
   refine hb.2.2.1 ?_
   have h2 : (decide (j + 1 = 0) && exprB (opOf k) || decide (0 < j + 1 ∧ opOf k = 3)) = true := hb.1
   simpa using h2
section
variable {op : Nat} {kids int : Int} {text : ByteArray} {ks : List Tr} {may : Nat -> Bool} (h : fineB ⟨op, kids, int, text⟩ may = true) (hn : kids = (ks.length : Nat)) (hp : Parts ⟨op, kids, int, text⟩ ks)
include h hn
theorem leaf59 (hf : formOf op = some ⟨81, 0, 0, 80⟩) (h23 : op ≠ 23) : (⟨op, kids, int, text⟩ : Tw) = ⟨op, 0, 0, bs []⟩ ∧ ks = [] := by
 have hh := fine_of (x := ⟨op, kids, int, text⟩) hf h
 have hz := none_of hn hh.2.2.1
 have hi : int = 0 := hh.2.2.2.resolve_left h23
 subst hz
 exact ⟨by rw [nul_of (s := text) hh.1, hi, hn]; rfl, rfl⟩
theorem leaf56 (hf : formOf op = some ⟨78, 0, 0, 80⟩) (h23 : op ≠ 23) : (⟨op, kids, int, text⟩ : Tw) = ⟨op, 0, 0, text⟩ ∧ ks = [] ∧ Own text := by
 have hh := fine_of (x := ⟨op, kids, int, text⟩) hf h
 have hz := none_of hn hh.2.2.1
 have hi : int = 0 := hh.2.2.2.resolve_left h23
 subst hz
 exact ⟨by rw [hi, hn]; rfl, rfl, own56 hh.1⟩
include hp
theorem one63 (hf : formOf op = some ⟨81, 1, 1, 85⟩) (h23 : op ≠ 23) : ∃ k, ks = [k] ∧ Rt 0 k ∧ (⟨op, kids, int, text⟩ : Tw) = ⟨op, 1, 0, bs []⟩ := by
 have hh := fine_of (x := ⟨op, kids, int, text⟩) hf h
 obtain ⟨k, hk⟩ := one_of hn hh.2.1 hh.2.2.1
 have hi : int = 0 := hh.2.2.2.resolve_left h23
 refine ⟨k, hk, kids63 (x := ⟨op, kids, int, text⟩) hf hp k (by rw [hk]; simp), ?_⟩
 rw [nul_of (s := text) hh.1, hi, hn, hk]
 rfl
theorem two63 (hf : formOf op = some ⟨81, 2, 2, 85⟩) (h23 : op ≠ 23) : ∃ k j, ks = [k, j] ∧ Rt 0 k ∧ Rt 0 j ∧ (⟨op, kids, int, text⟩ : Tw) = ⟨op, 2, 0, bs []⟩ := by
 have hh := fine_of (x := ⟨op, kids, int, text⟩) hf h
 obtain ⟨k, j, hk⟩ := two_of hn hh.2.1 hh.2.2.1
 have hi : int = 0 := hh.2.2.2.resolve_left h23
 refine ⟨k, j, hk, kids63 (x := ⟨op, kids, int, text⟩) hf hp k (by rw [hk]; simp), kids63 (x := ⟨op, kids, int, text⟩) hf hp j (by rw [hk]; simp), ?_⟩
 rw [nul_of (s := text) hh.1, hi, hn, hk]
 rfl
theorem expr_node (he : exprB op = true) : Rt 0 (.node ⟨op, kids, int, text⟩ ks) := by
 unfold exprB at he
 rw [decide_eq_true_eq] at he
 have hc : (op = 20 ∨ op = 21 ∨ op = 22 ∨ op = 57) ∨ op = 23 ∨ op = 24 ∨ op = 26 ∨ op = 56 ∨ op = 25 ∨ (op = 50 ∨ op = 51) ∨ (op = 45 ∨ op = 46 ∨ op = 47 ∨ op = 48 ∨ op = 52) ∨ op = 41 ∨ op = 53 ∨ op = 43 ∨ (op = 44 ∨ op = 54 ∨ op = 55) ∨ op = 42 ∨ (32 <= op ∧ op <= 35) ∨ (op = 30 ∨ op = 31 ∨ (36 <= op ∧ op <= 40)) := by omega
 rcases hc with ho | rfl | rfl | rfl | rfl | rfl | ho | ho | rfl | rfl | rfl | ho | rfl | ho | ho
 . obtain ⟨h1, h2⟩ := leaf59 h hn (by rcases ho with rfl | rfl | rfl | rfl <;> rfl) (by omega)
   rw [h1, h2]
   exact .word ho
 . have hh := fine_of (x := ⟨23, kids, int, text⟩) (f := ⟨81, 0, 0, 80⟩) rfl h
   have hz := none_of hn hh.2.2.1
   subst hz
   rw [show (⟨23, kids, int, text⟩ : Tw) = ⟨23, 0, int, bs []⟩ from by rw [nul_of (s := text) hh.1, hn]; rfl]
   exact .int int
 . have hh := fine_of (x := ⟨24, kids, int, text⟩) (f := ⟨84, 0, 0, 80⟩) rfl h
   have hz := none_of hn hh.2.2.1
   have hi : int = 0 := hh.2.2.2.resolve_left (by show ¬ (24 = 23); omega)
   subst hz
   rw [show (⟨24, kids, int, text⟩ : Tw) = ⟨24, 0, 0, text⟩ from by rw [hi, hn]; rfl]
   exact .text text
 . obtain ⟨h1, h2, h3⟩ := leaf56 h hn rfl (by omega)
   rw [h1, h2]
   exact .name h3
 . obtain ⟨h1, h2, h3⟩ := leaf56 h hn rfl (by omega)
   rw [h1, h2]
   exact .take h3
 . have hh := fine_of (x := ⟨25, kids, int, text⟩) (f := ⟨81, 0, 2048, 85⟩) rfl h
   have hi : int = 0 := hh.2.2.2.resolve_left (by show ¬ (25 = 23); omega)
   rw [show (⟨25, kids, int, text⟩ : Tw) = ⟨25, (ks.length : Nat), 0, bs []⟩ from by rw [nul_of (s := text) hh.1, hi, hn]]
   exact .list (kids63 (x := ⟨25, kids, int, text⟩) (a := 81) (b := 0) (c := 2048) rfl hp)
 . have hf : formOf op = some ⟨78, 0, 2048, 85⟩ := by rcases ho with rfl | rfl <;> rfl
   have hh := fine_of (x := ⟨op, kids, int, text⟩) hf h
   have hi : int = 0 := hh.2.2.2.resolve_left (by show ¬ (op = 23); omega)
   rw [show (⟨op, kids, int, text⟩ : Tw) = ⟨op, (ks.length : Nat), 0, text⟩ from by rw [hi, hn]]
   exact .call ho (own56 hh.1) (kids63 (x := ⟨op, kids, int, text⟩) hf hp)
 . obtain ⟨k, h1, h2, h3⟩ := one63 h hn hp (by rcases ho with rfl | rfl | rfl | rfl | rfl <;> rfl) (by omega)
   rw [h1, h3]
   exact .one ho h2
 . obtain ⟨k, j, h1, h2, h3, h4⟩ := two63 h hn hp rfl (by omega)
   rw [h1, h4]
   exact .num h2 h3
 . have hh := fine_of (x := ⟨53, kids, int, text⟩) (f := ⟨81, 1, 1, 86⟩) rfl h
   obtain ⟨k, hk⟩ := one_of hn hh.2.1 hh.2.2.1
   have hi : int = 0 := hh.2.2.2.resolve_left (by show ¬ (53 = 23); omega)
   have hb := hp 0 k (by rw [hk]; rfl)
   rw [part_of (f := ⟨81, 1, 1, 86⟩) rfl] at hb
   rw [show (⟨53, kids, int, text⟩ : Tw) = ⟨53, 1, 0, bs []⟩ from by rw [nul_of (s := text) hh.1, hi, hn, hk]; rfl, hk]
   exact .fork (hb.2.2.1 (of_decide_eq_true hb.1))
 . obtain ⟨k, h1, h2, h3⟩ := one63 h hn hp rfl (by omega)
   rw [h1, h3]
   exact .not h2
 . obtain ⟨k, h1, h2, h3⟩ := one63 h hn hp (by rcases ho with rfl | rfl | rfl <;> rfl) (by omega)
   rw [h1, h3]
   exact .pre ho h2
 . obtain ⟨k, j, h1, h2, h3, h4⟩ := two63 h hn hp rfl (by omega)
   rw [h1, h4]
   exact .at_ h2 h3
 . have hf : formOf op = some ⟨81, 2, 2, 85⟩ := by
    have : op = 32 ∨ op = 33 ∨ op = 34 ∨ op = 35 := by omega
    rcases this with rfl | rfl | rfl | rfl <;> rfl
   obtain ⟨k, j, h1, h2, h3, h4⟩ := two63 h hn hp hf (by omega)
   rw [h1, h4]
   exact .cmp ho h2 h3
 . have hf : formOf op = some ⟨81, 2, 2, 85⟩ := by
    have : op = 30 ∨ op = 31 ∨ op = 36 ∨ op = 37 ∨ op = 38 ∨ op = 39 ∨ op = 40 := by omega
    rcases this with rfl | rfl | rfl | rfl | rfl | rfl | rfl <;> rfl
   obtain ⟨k, j, h1, h2, h3, h4⟩ := two63 h hn hp hf (by omega)
   rw [h1, h4]
   exact .bin ho h2 h3
theorem block_node (he : op = 3) : Rt 1 (.node ⟨op, kids, int, text⟩ ks) := by
 subst he
 have hh := fine_of (x := ⟨3, kids, int, text⟩) (f := ⟨81, 0, 2048, 82⟩) rfl h
 have hi : int = 0 := hh.2.2.2.resolve_left (by show ¬ (3 = 23); omega)
 rw [show (⟨3, kids, int, text⟩ : Tw) = ⟨3, (ks.length : Nat), 0, bs []⟩ from by rw [nul_of (s := text) hh.1, hi, hn]]
 refine .block fun k hk => ?_
 obtain ⟨j, hj⟩ := List.getElem?_of_mem hk
 have hb := hp j k hj
 rw [part_of (f := ⟨81, 0, 2048, 82⟩) rfl] at hb
 exact hb.2.2.2.1 hb.1
theorem stmt_node (he : stmtB op = true) : Rt 2 (.node ⟨op, kids, int, text⟩ ks) := by
 unfold stmtB at he
 rw [decide_eq_true_eq] at he
 have hc : (op = 4 ∨ op = 5) ∨ op = 6 ∨ op = 7 ∨ (8 <= op ∧ op <= 11) := by omega
 rcases hc with ho | rfl | rfl | ho
 . have hf : formOf op = some ⟨78, 1, 1, 85⟩ := by rcases ho with rfl | rfl <;> rfl
   have hh := fine_of (x := ⟨op, kids, int, text⟩) hf h
   obtain ⟨k, hk⟩ := one_of hn hh.2.1 hh.2.2.1
   have hi : int = 0 := hh.2.2.2.resolve_left (by show ¬ (op = 23); omega)
   have hr := kids63 (x := ⟨op, kids, int, text⟩) hf hp k (by rw [hk]; simp)
   rw [show (⟨op, kids, int, text⟩ : Tw) = ⟨op, 1, 0, text⟩ from by rw [hi, hn, hk]; rfl, hk]
   exact .put ho (own56 hh.1) hr
 . have hh := fine_of (x := ⟨6, kids, int, text⟩) (f := ⟨81, 2, 3, 83⟩) rfl h
   have hi : int = 0 := hh.2.2.2.resolve_left (by show ¬ (6 = 23); omega)
   have hq := part61 hp (b := 3) rfl
   have hl : ks.length = 2 ∨ ks.length = 3 := by
    have h1 : ((2 : Nat) : Int) <= kids := hh.2.1
    have h2 : kids <= ((3 : Nat) : Int) := hh.2.2.1
    omega
   rcases hl with hl | hl
   . obtain ⟨k, j, hk⟩ := len_two hl
     have h0 := hq.1 k (by rw [hk]; rfl)
     have h1 := hq.2 0 j (by rw [hk]; rfl)
     rw [show (⟨6, kids, int, text⟩ : Tw) = ⟨6, 2, 0, bs []⟩ from by rw [nul_of (s := text) hh.1, hi, hn, hk]; rfl, hk]
     exact .if2 h0 h1
   . obtain ⟨k, j, i, hk⟩ := len_three hl
     have h0 := hq.1 k (by rw [hk]; rfl)
     have h1 := hq.2 0 j (by rw [hk]; rfl)
     have h2 := hq.2 1 i (by rw [hk]; rfl)
     rw [show (⟨6, kids, int, text⟩ : Tw) = ⟨6, 3, 0, bs []⟩ from by rw [nul_of (s := text) hh.1, hi, hn, hk]; rfl, hk]
     exact .if3 h0 h1 h2
 . have hh := fine_of (x := ⟨7, kids, int, text⟩) (f := ⟨81, 2, 2, 83⟩) rfl h
   have hi : int = 0 := hh.2.2.2.resolve_left (by show ¬ (7 = 23); omega)
   have hq := part61 hp (b := 2) rfl
   obtain ⟨k, j, hk⟩ := two_of hn hh.2.1 hh.2.2.1
   have h0 := hq.1 k (by rw [hk]; rfl)
   have h1 := hq.2 0 j (by rw [hk]; rfl)
   rw [show (⟨7, kids, int, text⟩ : Tw) = ⟨7, 2, 0, bs []⟩ from by rw [nul_of (s := text) hh.1, hi, hn, hk]; rfl, hk]
   exact .while_ h0 h1
 . have hf : formOf op = some ⟨81, 1, 1, 85⟩ := by
    have : op = 8 ∨ op = 9 ∨ op = 10 ∨ op = 11 := by omega
    rcases this with rfl | rfl | rfl | rfl <;> rfl
   obtain ⟨k, h1, h2, h3⟩ := one63 h hn hp hf (by omega)
   rw [h1, h3]
   exact .do_ ho h2
theorem flow_node (he : op = 1) : ∃ (s : ByteArray) (ss : List ByteArray) (b : Tr), Own s ∧ (∀ s ∈ ss, Own s) ∧ Rt 1 b ∧ (Tr.node ⟨op, kids, int, text⟩ ks) = .node ⟨1, ((ss.length + 1 : Nat) : Int), 0, s⟩ (ss.map nameT ++ [b]) := by
 subst he
 have hh := fine_of (x := ⟨1, kids, int, text⟩) (f := ⟨78, 1, 2048, 79⟩) rfl h
 have hi : int = 0 := hh.2.2.2.resolve_left (by show ¬ (1 = 23); omega)
 have hpos : 1 <= ks.length := by
  have h1 : ((1 : Nat) : Int) <= kids := hh.2.1
  omega
 rcases List.eq_nil_or_concat ks with hks | ⟨ps, b, hks⟩
 . rw [hks] at hpos
   simp at hpos
 . have hx : ∀ (j : Nat) (k : Tr), ks[j]? = some k -> ((j + 1 < ks.length ∧ opOf k = 2) ∨ (j + 1 = ks.length ∧ opOf k = 3)) ∧ Goods k := by
    intro j k hk
    have hb := hp j k hk
    rw [part_of (f := ⟨78, 1, 2048, 79⟩) rfl] at hb
    have h1 := of_decide_eq_true (p := (j + 1 < kids.toNat ∧ opOf k = 2) ∨ (j + 1 = kids.toNat ∧ opOf k = 3)) hb.1
    rw [show kids.toNat = ks.length from by omega] at h1
    exact ⟨h1, hb.2⟩
   rw [List.concat_eq_append] at hks
   have hlen : ks.length = ps.length + 1 := by rw [hks]; simp
   have hps : ∀ k ∈ ps, ∃ s, Own s ∧ k = nameT s := by
    intro k hk
    obtain ⟨j, hj⟩ := List.getElem?_of_mem hk
    have hlt := (List.getElem?_eq_some_iff.1 hj).1
    have h1 := hx j k (by rw [hks, List.getElem?_append_left hlt]; exact hj)
    rcases h1.1 with h2 | h2
    . exact h1.2.2.2.2.1 h2.2
    . omega
   have hb := hx ps.length b (by rw [hks, List.getElem?_append_right (nlr _), Nat.sub_self]; rfl)
   have hb3 : opOf b = 3 := by
    rcases hb.1 with h2 | h2
    . omega
    . exact h2.2
   have hss : ∀ (l : List Tr), (∀ k ∈ l, ∃ s, Own s ∧ k = nameT s) -> ∃ ss : List ByteArray, (∀ s ∈ ss, Own s) ∧ l = ss.map nameT := by
    intro l
    induction l with
    | nil => exact fun _ => ⟨[], by simp, rfl⟩
    | cons k l ih =>
     intro hl
     obtain ⟨s, hs, hk⟩ := hl k (by simp)
     obtain ⟨ss, hs2, hk2⟩ := ih fun k hk => hl k (by simp [hk])
     refine ⟨s :: ss, ?_, by rw [hk, hk2]; rfl⟩
     intro s2 hs3
     rcases List.mem_cons.1 hs3 with rfl | hs3
     . exact hs
     . exact hs2 s2 hs3
   obtain ⟨ss, hs2, hk2⟩ := hss ps hps
   refine ⟨text, ss, b, own56 hh.1, hs2, hb.2.2.1 hb3, ?_⟩
   rw [hks, hk2, hi, hn, hlen, hk2, List.length_map]
end
theorem node_ok (x : Tw) (ks : List Tr) (may : Nat -> Bool) (h : fineB x may = true) (hn : x.kids = (ks.length : Nat)) (hp : Parts x ks) : Goods (.node x ks) := by
 obtain ⟨op, kids, int, text⟩ := x
 refine ⟨fun he => expr_node h hn hp he, fun he => block_node h hn hp he, fun he => stmt_node h hn hp he, fun he => ?_, fun he => flow_node h hn hp he⟩
 have he2 : op = 2 := he
 subst he2
 obtain ⟨h1, h2, h3⟩ := leaf56 h hn rfl (by omega)
 exact ⟨text, h3, by rw [h1, h2]; rfl⟩
mutual
theorem rt_of : ∀ (t : Tr) (may : Nat -> Bool), t.ok may -> Goods t
 | .node x ks, may, h => by
  rw [Tr.ok] at h
  exact node_ok x ks may h.1 h.2.1 (fun j k hk => by have := rts_of ks x 0 h.2.2 j k hk; rwa [Nat.zero_add] at this)
theorem rts_of : ∀ (ks : List Tr) (x : Tw) (i : Nat), oks x i ks -> ∀ (j : Nat) (k : Tr), ks[j]? = some k -> partOf x (i + j) (opOf k) = true ∧ Goods k
 | [], _, _, _, j, k, hk => by simp at hk
 | k0 :: ks, x, i, h, j, k, hk => by
  rw [oks] at h
  cases j with
  | zero =>
   obtain rfl : k0 = k := by simpa using hk
   exact ⟨ok_part h.1, rt_of k0 _ h.1⟩
  | succ j =>
   have := rts_of ks x (i + 1) h.2 j k (by simpa using hk)
   rwa [show i + 1 + j = i + (j + 1) by omega] at this
end
/-! Trees that say how many parts they have. -/
mutual
def Wf : Tr -> Prop
 | .node x ks => x.kids = (ks.length : Nat) ∧ Wfs ks
def Wfs : List Tr -> Prop
 | [] => True
 | k :: ks => Wf k ∧ Wfs ks
end
mutual
theorem wf_same : ∀ (t u : Tr) (a b : List Tw), Wf t -> Wf u -> t.flat ++ a = u.flat ++ b -> t = u ∧ a = b
 | .node x ks, .node y js, a, b, ht, hu, h => by
  rw [Wf] at ht hu
  rw [Tr.flat, Tr.flat, List.cons_append, List.cons_append] at h
  injection h with h1 h2
  subst h1
  obtain ⟨h3, h4⟩ := wfs_same ks js a b (by omega) ht.2 hu.2 h2
  exact ⟨by rw [h3], h4⟩
theorem wfs_same : ∀ (ts us : List Tr) (a b : List Tw), ts.length = us.length -> Wfs ts -> Wfs us -> flats ts ++ a = flats us ++ b -> ts = us ∧ a = b
 | [], [], a, b, _, _, _, h => ⟨rfl, by simpa [flats] using h⟩
 | [], _ :: _, _, _, h, _, _, _ => by simp at h
 | _ :: _, [], _, _, h, _, _, _ => by simp at h
 | t :: ts, u :: us, a, b, hl, ht, hu, h => by
  rw [Wfs] at ht hu
  rw [flats, flats, List.append_assoc, List.append_assoc] at h
  obtain ⟨h1, h2⟩ := wf_same t u _ _ ht.1 hu.1 h
  obtain ⟨h3, h4⟩ := wfs_same ts us a b (by simpa using hl) ht.2 hu.2 h2
  exact ⟨by rw [h1, h3], h4⟩
end
mutual
theorem wf_ok : ∀ (t : Tr) (may : Nat -> Bool), t.ok may -> Wf t
 | .node x ks, may, h => by
  rw [Tr.ok] at h
  rw [Wf]
  exact ⟨h.2.1, wfs_ok ks x 0 h.2.2⟩
theorem wfs_ok : ∀ (ks : List Tr) (x : Tw) (i : Nat), oks x i ks -> Wfs ks
 | [], _, _, _ => by rw [Wfs]; trivial
 | k :: ks, x, i, h => by
  rw [oks] at h
  rw [Wfs]
  exact ⟨wf_ok k _ h.1, wfs_ok ks x (i + 1) h.2⟩
end
end Go.Proofs.YtbcadlocldplfaaDoor
