/- Messages that a server answers; contracts of answer, differs, put. -/
import Derived.Test.YtjodglepaeomiaaHrs
import Derived.Test.YtjodglepaeomiaaFrk
namespace Go.Proofs.Ytjodglepaeomiaa
open Go.RowKit

/-- A message with its entries' row. -/
abbrev Mx := Mg × Option Addr × Nat
def xcell (x : Mx) : List Value := mcell x.2.1 x.2.2 x.1
theorem xcell_len (x : Mx) : (xcell x).length = 9 := rfl
theorem xcell_one (x : Mx) : ∀ u ∈ xcell x, u.oneCell' = true := by
  intro u hu
  simp only [xcell, mcell, List.mem_cons, List.not_mem_nil, or_false] at hu
  rcases hu with rfl | rfl | rfl | rfl | rfl | rfl | rfl | rfl | rfl <;> rfl
/-- Messages in memory of their own, and their entries too. -/
def MsR (w : World) (B : Nat) (A : Option Addr) (n c : Nat) (ms : List Mg) : Prop :=
  ∃ X : List Mx, X.map (·.1) = ms ∧ n = X.length ∧ w.ownsRow B 34 9 (.slice A n c) n (rowOf xcell X) ∧ ∀ x ∈ X, w.ownsRow B 39 2 (.slice x.2.1 x.1.ents.length x.2.2) x.1.ents.length (rowOf ecell x.1.ents)
theorem MsR.nil (w : World) (B : Nat) : MsR w B none 0 0 [] := ⟨[], rfl, rfl, World.ownsRow_nil _ _ _ _, fun x h => by cases h⟩
theorem MsR.chg {w w' : World} {B n c : Nat} {A : Option Addr} {ms : List Mg} {T : Nat → Prop} (h : MsR w B A n c ms) (hc : Chg T w w') (hT : ∀ b, B ≤ b → b < w.heap.size → ¬ T b) : MsR w' B A n c ms := by
  obtain ⟨X, h1, h2, h3, h4⟩ := h
  have hx : ∀ {e : TypeId} {k m : Nat} {v : Value} {xs : List Value}, w.ownsRow B e k v m xs → w'.ownsRow B e k v m xs := fun ho => own_chg ho hc (fun g hg => hT g (World.ownsRow.lt ho g hg).1 (World.ownsRow.lt ho g hg).2)
  exact ⟨X, h1, h2, hx h3, fun x hxm => hx (h4 x hxm)⟩
theorem MsR.below {w w' : World} {B n c : Nat} {A : Option Addr} {ms : List Mg} (h : MsR w B A n c ms) (hb : Below w.heap.size w w') : MsR w' B A n c ms := h.chg (T := fun _ => False) (.of_below hb) (fun _ _ _ h => h)
theorem MsR.mono {w : World} {B B' n c : Nat} {A : Option Addr} {ms : List Mg} (h : MsR w B A n c ms) (hb : B' ≤ B) : MsR w B' A n c ms := by
  obtain ⟨X, h1, h2, h3, h4⟩ := h
  have hx : ∀ {e : TypeId} {k m : Nat} {v : Value} {xs : List Value}, w.ownsRow B e k v m xs → w.ownsRow B' e k v m xs := fun ho => own_at ho (fun g hg => Nat.le_trans hb (World.ownsRow.lt ho g hg).1)
  exact ⟨X, h1, h2, hx h3, fun x hxm => hx (h4 x hxm)⟩
theorem MsR.len {w : World} {B n c : Nat} {A : Option Addr} {ms : List Mg} (h : MsR w B A n c ms) : n = ms.length := by
  obtain ⟨X, h1, h2, _⟩ := h
  rw [← h1, List.length_map]; exact h2
theorem own_new34 (w : World) (B g : Nat) (hg : g = w.heap.size) (hB : B ≤ w.heap.size) (x : Mx) : (w.alloc (.cells (xcell x).toArray 34)).ownsRow B 34 9 (.slice (some ⟨g, 0, none⟩) 1 1) 1 (rowOf xcell [x]) := by
  subst hg
  exact ⟨rfl, .inr ⟨w.heap.size, 1, _, rfl, hB, heap_alloc_new w _, Nat.le_refl _, by decide, rfl, rfl⟩⟩
theorem MsR.one {w : World} {B : Nat} {D : Option Addr} {d : Nat} {x : Mx} (h : w.ownsRow B 34 9 (.slice D 1 d) 1 (rowOf xcell [x])) (h2 : w.ownsRow B 39 2 (.slice x.2.1 x.1.ents.length x.2.2) x.1.ents.length (rowOf ecell x.1.ents)) : MsR w B D 1 d [x.1] :=
  ⟨[x], rfl, rfl, h, fun y hy => by rw [List.mem_singleton] at hy; rw [hy]; exact h2⟩
set_option maxRecDepth 100000 in
set_option maxHeartbeats 2000000 in
theorem answer_any (S : Sv) (m : Mg) (g : Nat) (A E : Option Addr) (cs c kind : Nat) (index : Int) (ok : Bool) (w : World) (hS : SvM w g S A cs) :
    Calls Try.prog 65 #[.pointer (some ⟨g, 0, none⟩), .agg (mcell E c m).toArray, .int .u8 (kind : Nat), .int .i64 index, .bool ok] w fun e w' => (∃ D d, e = .returned (.slice D 1 d) ∧ MsR w' w.heap.size D 1 d [S.ans m kind index ok]) ∧ Below w.heap.size w w' := by
  obtain ⟨mk, frm, to, term, mi, logTerm, ents, commit, mok⟩ := m
  have c0 := hS.c0
  have c2 := hS.c2
  have hgl := hS.lt
  dsimp only [mcell]
  go_enter Try.func65, Try.ntmps65
  go_wp2_with fail
  go_region
  go_wp2_with fail
  go_ret
  have hb1 : Below w.heap.size w (w.alloc (.cells #[.int .u8 (mk : Nat), .int .i64 frm, .int .i64 to, .int .i64 term, .int .i64 mi, .int .i64 logTerm, .slice E ents.length c, .int .i64 commit, .bool mok] 34)) := (Below.refl _ w).alloc (Nat.le_refl _) _
  refine ⟨⟨_, 1, rfl, MsR.one (x := (S.ans ⟨mk, frm, to, term, mi, logTerm, ents, commit, mok⟩ kind index ok, none, 0)) ?_ (World.ownsRow_nil _ _ _ _)⟩, (hb1.alloc hb1.size _).drew⟩
  exact own_below (own_new34 _ w.heap.size (w.heap.size + 1) (by simp) hb1.size (S.ans ⟨mk, frm, to, term, mi, logTerm, ents, commit, mok⟩ kind index ok, none, 0)) (Below.refl _ _).drew
theorem term_any {w : World} {g c : Nat} {S : Sv} {A : Option Addr} (h : SvM w g S A c) (k : Nat) (hk : k ≤ S.log.length) (hn : S.log.length ≤ 100000) :
    Calls Try.prog 41 #[.pointer (some ⟨g, 0, none⟩), .int .i64 (k : Nat)] w fun e w' => e = .returned (.int .i64 (termAt S.log k)) ∧ w' = w := by
  cases k with
  | zero => exact term_zero w g
  | succ k =>
    obtain ⟨x, hx⟩ : ∃ x, S.log[k]? = some x := ⟨_, List.getElem?_eq_getElem hk⟩
    obtain ⟨b, off, hA, hb, c0, _⟩ := h.rd.ents hx
    have e : termAt S.log (k + 1) = x.term := by rw [termAt, hx]; rfl
    rw [e]
    subst hA
    exact term_pos w g S.log.length c k b off x.term h.c4 hk hn c0
set_option maxRecDepth 100000 in
set_option maxHeartbeats 4000000 in
theorem differs_any (S : Sv) (m : Mg) (g : Nat) (A E : Option Addr) (cs c i0 : Nat) (w : World) (hS : SvM w g S A cs) (hrd : RdE w E m.ents) (hi : m.index = (i0 : Nat)) (hn : S.log.length ≤ 4096) (hi2 : i0 ≤ 4096) (hm : m.ents.length ≤ 4096) :
    Calls Try.prog 67 #[.pointer (some ⟨g, 0, none⟩), .agg (mcell E c m).toArray] w fun e w' => e = .returned (.int .i64 (differs S.log m.ents i0 : Nat)) ∧ Below w.heap.size w w' := by
  obtain ⟨mk, frm, to, term, mi, logTerm, ents, commit, mok⟩ := m
  dsimp only at hrd hi hm ⊢
  subst hi
  obtain ⟨R, hR⟩ : ∃ R, R = differs S.log ents i0 := ⟨_, rfl⟩
  rw [← hR]
  obtain ⟨n, hnn⟩ : ∃ n, n = ents.length := ⟨_, rfl⟩
  obtain ⟨q, hq⟩ : ∃ q, q = S.log.length := ⟨_, rfl⟩
  dsimp only [mcell]
  have HBX : Hid (Below w.heap.size w (w.alloc (.cells #[.int .u8 (mk : Nat), .int .i64 frm, .int .i64 to, .int .i64 term, .int .i64 (i0 : Nat), .int .i64 logTerm, .slice E ents.length c, .int .i64 commit, .bool mok] 34)) ∧ Blk (w.alloc (.cells #[.int .u8 (mk : Nat), .int .i64 frm, .int .i64 to, .int .i64 term, .int .i64 (i0 : Nat), .int .i64 logTerm, .slice E ents.length c, .int .i64 commit, .bool mok] 34)) w.heap.size 34 #[.int .u8 (mk : Nat), .int .i64 frm, .int .i64 to, .int .i64 term, .int .i64 (i0 : Nat), .int .i64 logTerm, .slice E ents.length c, .int .i64 commit, .bool mok]) := ⟨(Below.refl _ w).alloc (Nat.le_refl _) _, Blk.new _ _ _⟩
  rw [← hnn] at HBX hm ⊢
  rw [← hq] at hn
  have HH := Lib.hid (And.intro hS (And.intro hrd (And.intro hnn (And.intro hq hR))))
  clear hS hrd hnn hq hR
  go_enter Try.func67, Try.ntmps67
  go_wp2_with fail
  generalize w.alloc (.cells #[.int .u8 (mk : Nat), .int .i64 frm, .int .i64 to, .int .i64 term, .int .i64 (i0 : Nat), .int .i64 logTerm, .slice E n c, .int .i64 commit, .bool mok] 34) = w0 at *
  go_loopw [11] (fun s11 wr => ∃ k : Nat, s11 = .int .i64 (k : Nat) ∧ k ≤ n ∧ differs S.log (ents.drop k) (i0 + k) + k = R ∧ Below w0.heap.size w0 wr) (fun s11 _ => n - (intOf s11).toNat)
  case atStart => exact ⟨0, rfl, by omega, by rw [List.drop_zero, Nat.add_zero, Nat.add_zero]; exact HH.out.2.2.2.2.symm, Below.refl _ _⟩
  case round =>
    obtain ⟨k, rfl, hk, hdf, hb⟩ := hrel
    have HB := Lib.hid (And.intro hb (HBX.out.1.trans (hb.mono HBX.out.1.size)))
    clear hb
    by_cases hlt : k < n
    · have hkl : k < ents.length := by rw [← HH.out.2.2.1]; exact hlt
      obtain ⟨x, hx⟩ : ∃ x, ents[k]? = some x := ⟨_, List.getElem?_eq_getElem hkl⟩
      obtain ⟨b, off, hE, hbl, c0, c1⟩ := (HH.out.2.1.below HB.out.2).ents hx
      subst hE
      have hd : ents.drop k = x :: ents.drop (k + 1) := by rw [List.drop_eq_getElem_cons hkl]; congr 1; rw [List.getElem?_eq_getElem hkl] at hx; injection hx
      rw [hd, differs] at hdf
      have HS := Lib.hid (HH.out.1.below HB.out.2)
      rw [← HH.out.2.2.2.1] at hdf
      have hbk := HBX.out.2.below HB.out.1 HBX.out.2.lt
      have x6 : wr.cell? ⟨w.heap.size, 6, none⟩ = some (.slice (some ⟨b, off, none⟩) n c) := hbk.cell 6
      have hk0 : (0 : Int) ≤ (k : Int) := by omega
      have hkn : (k : Int) < (n : Int) := by omega
      have hd1 : decide ((k : Int) < (n : Int)) = true := decide_eq_true hkn
      obtain ⟨t, dt⟩ := x
      dsimp only at c0 c1 hdf
      have HB2 : Hid (Below w0.heap.size w0 (wr.alloc (.cells #[.int .i64 t, .string dt] 39)) ∧ Below w.heap.size w (wr.alloc (.cells #[.int .i64 t, .string dt] 39))) := ⟨HB.out.1.alloc HB.out.1.size _, HB.out.2.alloc HB.out.2.size _⟩
      have x4 : (wr.alloc (.cells #[.int .i64 t, .string dt] 39)).cell? ⟨w.heap.size, 4, none⟩ = some (.int .i64 (i0 : Nat)) := (hbk.alloc _).cell 4
      have y0 : (wr.alloc (.cells #[.int .i64 t, .string dt] 39)).cell? ⟨wr.heap.size, 0, none⟩ = some (.int .i64 t) := (Blk.new wr 39 #[.int .i64 t, .string dt]).cell 0
      have HL := Lib.hid (fun N => last_any ((wr.alloc (.cells #[.int .i64 t, .string dt] 39)).drewN N) g q cs A (by rw [HH.out.2.2.2.1]; exact (HH.out.1.below (below_drewN HB2.out.2 N)).c4))
      by_cases hq : q < i0 + 1 + k
      · have dq : decide ((q : Int) < (i0 : Int) + 1 + (k : Int)) = true := decide_eq_true (by omega)
        rw [if_pos (.inl (by omega))] at hdf
        have HDF := Lib.hid hdf
        clear hdf hd hx hkl hq
        go_wp2_with fail
        generalize wr.alloc (.cells #[.int .i64 t, .string dt] 39) = w1 at *
        go_quiet (refine Calls.quiet_of_same (HL.out _))
        go_wp2_with fail
        go_ret
        rw [show (k : Int) = (R : Int) by have := HDF.out; omega]
        exact ⟨rfl, below_drewN HB2.out.2 _⟩
      · have dq : decide ((q : Int) < (i0 : Int) + 1 + (k : Int)) = false := decide_eq_false (by omega)
        have HT := Lib.hid (fun N => term_any (HH.out.1.below (below_drewN HB2.out.2 N)) (i0 + k + 1) (by rw [← HH.out.2.2.2.1]; omega) (by rw [← HH.out.2.2.2.1]; omega))
        rw [show ((i0 + k + 1 : Nat) : Int) = (i0 : Int) + 1 + (k : Int) by omega] at HT
        obtain ⟨T, hT⟩ : ∃ T, T = termAt S.log (i0 + k + 1) := ⟨_, rfl⟩
        rw [← hT] at HT hdf
        by_cases hne : T = t
        · have db : (T != t) = false := by simp [hne]
          rw [if_neg (fun h => h.elim (fun h => by omega) (fun h => h hne))] at hdf
          have HDF := Lib.hid hdf
          clear hdf hd hx hkl hq hT hne
          go_wp2_with fail
          generalize wr.alloc (.cells #[.int .i64 t, .string dt] 39) = w1 at *
          go_quiet (first | refine Calls.quiet_of_same (HL.out _) | refine Calls.quiet_of_same (HT.out _))
          go_wp2_with fail
          go_roundw
          case rel => exact ⟨k + 1, by go_num, by omega, by have := HDF.out; rw [show i0 + (k + 1) = i0 + k + 1 by omega]; omega, below_drewN HB2.out.1 _⟩
          case measure => simp [intOf]; omega
        · have db : (T != t) = true := by simp [hne]
          rw [if_pos (.inr hne)] at hdf
          have HDF := Lib.hid hdf
          clear hdf hd hx hkl hq hT hne
          go_wp2_with fail
          generalize wr.alloc (.cells #[.int .i64 t, .string dt] 39) = w1 at *
          go_quiet (first | refine Calls.quiet_of_same (HL.out _) | refine Calls.quiet_of_same (HT.out _))
          go_wp2_with fail
          go_ret
          rw [show (k : Int) = (R : Int) by have := HDF.out; omega]
          exact ⟨rfl, below_drewN HB2.out.2 _⟩
    · have hd1 : decide ((k : Int) < (n : Int)) = false := decide_eq_false (by omega)
      rw [List.drop_of_length_le (by rw [← HH.out.2.2.1]; omega), differs, Nat.zero_add] at hdf
      have hkn : k = n := by omega
      have hbk := HBX.out.2.below HB.out.1 HBX.out.2.lt
      have x6 : wr.cell? ⟨w.heap.size, 6, none⟩ = some (.slice E n c) := hbk.cell 6
      have HDF := Lib.hid (hkn.symm.trans hdf)
      clear hdf hkn
      go_wp2_with fail
      go_ret
      rw [HDF.out]
      exact ⟨rfl, HB.out.2⟩
end Go.Proofs.Ytjodglepaeomiaa
