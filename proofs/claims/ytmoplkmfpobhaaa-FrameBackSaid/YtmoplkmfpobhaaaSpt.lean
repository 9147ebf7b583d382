/- Contract of frame.Split. -/
import Derived.Test.YtmoplkmfpobhaaaItf
import Derived.Test.YtmoplkmfpobhaaaRsp
import Derived.RangeFuncLeaves
namespace Go.Proofs.Ytmoplkmfpobhaaa
open Go.RowKit Go.Shelf
attribute [local go_sem] Oper.semAt_some

theorem frames_any (A : Option Addr) (n cap b3 b4 : Nat) (w : World) : Calls Try.prog 30 #[.slice A n cap, .pointer (some ⟨b3, 0, none⟩), .pointer (some ⟨b4, 0, none⟩)] w fun e w' =>
    e = .returned (.func (.func 32) #[] #[.pointer (some ⟨w.heap.size + 1, 0, none⟩), .pointer (some ⟨w.heap.size, 0, none⟩), .pointer (some ⟨w.heap.size + 1 + 1, 0, none⟩)]) ∧ ((w.alloc (.cells #[.slice A n cap] 22)).alloc (.cells #[.pointer (some ⟨b3, 0, none⟩)] 60)).alloc (.cells #[.pointer (some ⟨b4, 0, none⟩)] 61) = w' := by
  have hmf : ∀ (fn : Fn) (first cap : Array Value) (w : World), (Instr.makeFunc fn first cap).run Try.prog w = .ok (.func fn first cap) w := fun _ _ _ _ => rfl
  go_enter Try.func30, Try.ntmps30
  go_wp2_with fail
  go_ret
  exact ⟨rfl, rfl⟩

theorem ownNe {w : World} {base : Nat} {e : TypeId} {s n : Nat} {u : Value} {xs : List Value} (ho : w.ownsRow base e s u n xs) {row : Option Nat} (hr : ∀ r, row = some r → r < base ∨ ∃ o : Obj, w.heap[r]? = some o ∧ o.isCells = false) : u.ownBlock = none ∨ u.ownBlock ≠ row := by
  cases hb : u.ownBlock with
  | none => exact .inl rfl
  | some g =>
    refine .inr fun he => ?_
    rcases hr g he.symm with h2 | ⟨o, h2, h3⟩
    · have h1 := (World.ownsRow.lt ho g hb).1; omega
    · rcases ho.2 with ⟨rfl, _⟩ | ⟨g', cap, cur, rfl, _, hh, _⟩
      · simp [Value.ownBlock] at hb
      · have : g' = g := by simpa [Value.ownBlock] using hb
        subst this
        rw [hh] at h2
        injection h2 with h2
        subst h2
        cases h3
theorem own_isCells {w : World} {base : Nat} {e : TypeId} {s n : Nat} {u : Value} {xs : List Value} (ho : w.ownsRow base e s u n xs) (j : Nat) (o : Obj) (hb : u.ownBlock = some j) (hj : w.heap[j]? = some o) : o.isCells = true := by
  rcases ho.2 with ⟨rfl, _⟩ | ⟨g', cap, cur, rfl, _, hh, _⟩
  · simp [Value.ownBlock] at hb
  · have : g' = j := by simpa [Value.ownBlock] using hb
    subst this
    rw [hh] at hj
    injection hj with hj
    subst hj
    rfl
theorem LL.keptP {w w' : World} {base : Nat} {v : Value} {ls : List (List UInt8)} (h : LL w base v ls) {row : Option Nat} (hg : w.grownBy w' row) (hr : ∀ r, row = some r → r < base ∨ ∃ o : Obj, w.heap[r]? = some o ∧ o.isCells = false) : LL w' base v ls := by
  obtain ⟨us, ho, hl, hu⟩ := h
  exact ⟨us, ho.kept hg (ownNe ho hr), hl, fun i u l h1 h2 => by obtain ⟨A, c, he, ho'⟩ := hu i u l h1 h2; exact ⟨A, c, he, ho'.kept hg (ownNe ho' hr)⟩⟩
theorem Blk.putObj {w : World} {g : Nat} {t : TypeId} {cs : Array Value} (h : Blk w g t cs) {l : Nat} (o : Obj) (hne : g ≠ l) : Blk (w.putObj l o) g t cs := (World.putObj_heap_other hne).trans h

set_option maxHeartbeats 2000000 in
theorem split_any (A : Option Addr) (n cap : Nat) (l : List UInt8) (w : World) (hl : l.length = n) (hn : n ≤ 70000) (hc : n ≤ cap) (hr : Reads w w.heap.size 1 A n (bcells l)) :
    Calls Try.prog 17 #[.slice A n cap] w (NewLL w l) := by
  have HL := Lib.hid hl
  have HR := Lib.hid hr
  clear hl hr
  refine (callsIn_wide (n := 3)).1 ?_
  refine callsIn_of_wp_marks Try.func17 rfl trivial ?_ rfl
  simp only [Try.ntmps17, List.size_toArray, List.length_cons, List.length_nil, Nat.reduceAdd, Nat.reduceSub, Array.replicate_succ, Array.replicate_zero, List.push_toArray, List.append_toArray, List.nil_append, List.cons_append]
  gi_wp2
  refine ⟨trivial, (callsIn_wide.2 (frames_any A n cap _ _ _)).mono ?_⟩
  rintro e w2 ⟨rfl, hw2⟩
  simp only [World.size_alloc] at hw2 ⊢
  have hr2 : Reads w2 w.heap.size 1 A n (bcells l) := by
    rw [← hw2]
    exact (((((HR.out.alloc (Nat.le_refl _) _).alloc (by simp) _).alloc (by simp; omega) _).alloc (by simp; omega) _).alloc (by simp; omega) _).alloc (by simp; omega) _
  have hB : Below w.heap.size w w2 := by
    rw [← hw2]
    exact ((((((Below.refl _ _).alloc (Nat.le_refl _) _).alloc (by simp) _).alloc (by simp; omega) _).alloc (by simp; omega) _).alloc (by simp; omega) _).alloc (by simp; omega) _
  have h2 : Blk w2 w.heap.size 35 #[.slice none 0 0] := by
    rw [← hw2]
    exact (((((Blk.new w 35 _).alloc _).alloc _).alloc _).alloc _).alloc _
  have h3 : Blk w2 (w.heap.size + 1) 3 #[.int .i64 0] := by
    rw [← hw2]
    have h := ((((Blk.new (w.alloc (.cells #[.slice none 0 0] 35)) 3 #[.int .i64 0]).alloc (.cells #[.int .i64 0] 25)).alloc (.cells #[.slice A n cap] 22)).alloc (.cells #[.pointer (some ⟨w.heap.size + 1, 0, none⟩)] 60)).alloc (.cells #[.pointer (some ⟨w.heap.size + 1 + 1, 0, none⟩)] 61)
    simpa only [World.size_alloc] using h
  have h4 : Blk w2 (w.heap.size + 1 + 1) 25 #[.int .i64 0] := by
    rw [← hw2]
    have h := (((Blk.new ((w.alloc (.cells #[.slice none 0 0] 35)).alloc (.cells #[.int .i64 0] 3)) 25 #[.int .i64 0]).alloc (.cells #[.slice A n cap] 22)).alloc (.cells #[.pointer (some ⟨w.heap.size + 1, 0, none⟩)] 60)).alloc (.cells #[.pointer (some ⟨w.heap.size + 1 + 1, 0, none⟩)] 61)
    simpa only [World.size_alloc] using h
  have h5 : Blk w2 (w.heap.size + 1 + 1 + 1) 22 #[.slice A n cap] := by
    rw [← hw2]
    have h := ((Blk.new (((w.alloc (.cells #[.slice none 0 0] 35)).alloc (.cells #[.int .i64 0] 3)).alloc (.cells #[.int .i64 0] 25)) 22 #[.slice A n cap]).alloc (.cells #[.pointer (some ⟨w.heap.size + 1, 0, none⟩)] 60)).alloc (.cells #[.pointer (some ⟨w.heap.size + 1 + 1, 0, none⟩)] 61)
    simpa only [World.size_alloc] using h
  have h6 : Blk w2 (w.heap.size + 1 + 1 + 1 + 1) 60 #[.pointer (some ⟨w.heap.size + 1, 0, none⟩)] := by
    rw [← hw2]
    have h := (Blk.new ((((w.alloc (.cells #[.slice none 0 0] 35)).alloc (.cells #[.int .i64 0] 3)).alloc (.cells #[.int .i64 0] 25)).alloc (.cells #[.slice A n cap] 22)) 60 #[.pointer (some ⟨w.heap.size + 1, 0, none⟩)]).alloc (.cells #[.pointer (some ⟨w.heap.size + 1 + 1, 0, none⟩)] 61)
    simpa only [World.size_alloc] using h
  have h7 : Blk w2 (w.heap.size + 1 + 1 + 1 + 1 + 1) 61 #[.pointer (some ⟨w.heap.size + 1 + 1, 0, none⟩)] := by
    rw [← hw2]
    have h := Blk.new (((((w.alloc (.cells #[.slice none 0 0] 35)).alloc (.cells #[.int .i64 0] 3)).alloc (.cells #[.int .i64 0] 25)).alloc (.cells #[.slice A n cap] 22)).alloc (.cells #[.pointer (some ⟨w.heap.size + 1, 0, none⟩)] 60)) 61 #[.pointer (some ⟨w.heap.size + 1 + 1, 0, none⟩)]
    simpa only [World.size_alloc] using h
  have hsz : w2.heap.size = w.heap.size + 6 := by rw [← hw2]; simp
  clear hw2
  obtain ⟨b2, e2⟩ : ∃ b, b = w.heap.size := ⟨_, rfl⟩
  obtain ⟨b3, e3⟩ : ∃ b, b = b2 + 1 := ⟨_, rfl⟩
  obtain ⟨b4, e4⟩ : ∃ b, b = b3 + 1 := ⟨_, rfl⟩
  obtain ⟨b5, e5⟩ : ∃ b, b = b4 + 1 := ⟨_, rfl⟩
  obtain ⟨b6, e6⟩ : ∃ b, b = b5 + 1 := ⟨_, rfl⟩
  obtain ⟨b7, e7⟩ : ∃ b, b = b6 + 1 := ⟨_, rfl⟩
  simp only [← e2, ← e3, ← e4, ← e5, ← e6, ← e7] at h2 h3 h4 h5 h6 h7 hr2 ⊢
  have o2 : w.heap.size ≤ b2 := by omega
  have o3 : b2 < b3 := by omega
  have o4 : b3 < b4 := by omega
  have o5 : b4 < b5 := by omega
  have o6 : b5 < b6 := by omega
  have o7 : b6 < b7 := by omega
  have o8 : b7 < w2.heap.size := by omega
  have HE2 := Lib.hid e2
  have HSEQ := Lib.hid (frames_seq A n cap l b2 b2 b3 b4 b5 b6 b7 w2 HL.out hn hc hr2 (Nat.le_refl _) o3 o4 o5 o6 o7 o8 h3 h4 h5 h6 h7 2)
  clear e2 e3 e4 e5 e6 e7 h3 h4 h5 h6 h7 hr2 hsz
  obtain ⟨i0, hi, hz0, hz1, hz2⟩ := info_parts Try.info22
  have HI := Lib.hid (And.intro hi (And.intro hz0 (And.intro hz1 hz2)))
  clear hi hz0 hz1 hz2
  gi_wp2
  refine wpIn_range_own (n := 3) rfl (by omega) (gf := 32) (first := #[]) (lb := #[.pointer (some ⟨b6, 0, none⟩), .pointer (some ⟨b5, 0, none⟩), .pointer (some ⟨b7, 0, none⟩)]) rfl trivial (enters_of Try.func32 (by kernel_rfl) rfl) (T := fun k => k = b3 ∨ k = b4) (fun k hk => by rcases hk with rfl | rfl <;> omega)
    HSEQ.out ?hX KeepsB.trans (fun W l o o' h _ _ _ => KeepsB.putObj W l o' h) (fun _ => rfl)
    (fun pre W => ∃ v, Blk W b2 35 #[v] ∧ LL W w2.heap.size v (pre.map (·.2)) ∧ Below w.heap.size w W ∧ w2.heap.size ≤ W.heap.size) (fun _ _ _ => False) ?hI (fun _ s W W' row h => h.elim) ⟨.slice none 0 0, h2, LL.nil_ _ _, hB, Nat.le_refl _⟩
    (fun x => { tmps := #[.slice A n cap, undef, .pointer (some ⟨b2, 0, none⟩), .pointer (some ⟨b3, 0, none⟩), .pointer (some ⟨b4, 0, none⟩), x.1, .slice A n cap, .func (.func 32) #[] #[.pointer (some ⟨b6, 0, none⟩), .pointer (some ⟨b5, 0, none⟩), .pointer (some ⟨b7, 0, none⟩)], x.1, undef, undef, undef, undef, undef, undef, undef], defers := [] })
    ?assign ?body ?done ?stop
  case hX =>
    rintro x s W W' row hx hg hr
    obtain ⟨A2, c2, he, ho⟩ := hx
    exact ⟨A2, c2, he, ho.kept hg (ownNe ho fun r e => by
      rcases hr r e with h | ⟨h1, h2⟩
      · exact .inl (by rcases h with rfl | rfl <;> omega)
      · exact .inr h2)⟩
  case hI =>
    rintro s W W' row ⟨v, g2, g3, g4, g5⟩ hg hr
    refine ⟨v, g2.grown hg (fun e => ?_), g3.keptP hg (fun r e => ?_), g4.grown hg g4.size (fun r e => ?_), Nat.le_trans g5 hg.size⟩
    · rcases hr _ e.symm with h | ⟨h1, h2⟩
      · rcases h with h | h <;> omega
      · omega
    · rcases hr r e with h | ⟨h1, h2⟩
      · exact .inl (by rcases h with rfl | rfl <;> omega)
      · exact .inr h2
    · rcases hr r e with h | ⟨h1, h2⟩
      · rcases h with rfl | rfl <;> omega
      · omega
  case assign =>
    intro l x W K hK
    dsimp only [encB]
    gi_wp2
    exact hK
  case body =>
    rintro l0 pre ⟨xv, xl⟩ W ⟨v, g2, g3, g4, hWs2⟩ ⟨A2, c2, he, hx⟩ hlen
    dsimp only at he hx ⊢
    subst he
    obtain ⟨us2, hv1, hv2, hv3⟩ := g3
    obtain ⟨Av, cv, rfl, _⟩ := own_form hv1
    have hlm : (pre.map (·.2)).length = pre.length := List.length_map _
    rw [hlm] at hv1 hv2 g2
    have hc2 : W.cell? ⟨b2, 0, none⟩ = some (.slice Av pre.length cv) := g2.cell 0
    have hWs := g2.lt
    have HV1 := Lib.hid (hv1.alloc (.cells #[.slice A2 xl.length c2] 22))
    have HV23 := Lib.hid (And.intro hv2 (fun (i : Nat) (u : Value) (l : List UInt8) (h1 : us2[i]? = some u) (h2 : (pre.map (·.2))[i]? = some l) => (hv3 i u l h1 h2).below ((Below.refl _ W).alloc (Nat.le_refl _) (.cells #[.slice A2 xl.length c2] 22))))
    have HBD := Lib.hid (show Bod (W.alloc (.cells #[.slice A2 xl.length c2] 22)) w2.heap.size (.slice A2 xl.length c2) xl from ⟨A2, c2, rfl, hx.alloc _⟩)
    have HG := Lib.hid (And.intro (g2.alloc (.cells #[.slice A2 xl.length c2] 22)) (g4.alloc g4.size (.cells #[.slice A2 xl.length c2] 22)))
    have HLM := Lib.hid hlm
    have HC1 : Hid (∀ (j : Nat) (u : Value), ([.slice A2 xl.length c2] : List Value)[j]? = some u → (W.alloc (.cells #[.slice A2 xl.length c2] 22)).cell? ((⟨W.heap.size, 0, none⟩ : Addr).add j) = some u) := fun j u hu => by
      rcases j with _ | j
      · have : (Value.slice A2 xl.length c2) = u := by simpa using hu
        rw [← this]
        exact World.cell?_alloc_new W _ _ _
      · simp at hu
    have HC2 : Hid (∀ u ∈ ([.slice A2 xl.length c2] : List Value), u.oneCell' = true) := fun u hu => by rw [List.mem_singleton] at hu; subst hu; rfl
    clear hv1 hv2 hv3 g2 g4 hx hlm
    obtain ⟨hi, hz0, hz1, hz2⟩ := HI.out
    gi_wp2_with (refine wpListIn_append_own _ rfl (.tmp 9) (.tmp 11) 35 rfl w2.heap.size 22 i0 (.slice none 0 0) 1 24 Try.underlying35 hi hz0 hz1 hz2 rfl (by decide) (.slice Av pre.length cv) pre.length us2 rfl HV1.out ⟨W.heap.size, 0, none⟩ 1 1 [.slice A2 xl.length c2] rfl rfl HC1.out HC2.out (by unfold maxLen; omega) (by omega) (by simp; omega) ?_; intro v3 w3 ho3 hg3 _; obtain ⟨A3, c3, rfl, _⟩ := own_form ho3; have HO := Lib.hid (And.intro ho3 hg3); have hgr := HG.out.1.grown hg3 (fun e => by have := (World.ownsRow.lt HV1.out b2 e.symm).1; omega); have hc3 : w3.cell? ⟨b2, 0, none⟩ = some (.slice Av pre.length cv) := hgr.cell 0; have hf3 := hgr.frozen 0; have HGR := Lib.hid hgr; clear ho3 hg3 hgr)
    obtain ⟨ho3, hg3⟩ := HO.out
    have hs3 : W.heap.size ≤ w3.heap.size := by have := hg3.size; simp at this; omega
    refine ⟨?_, ?_, .slice A3 (pre.length + 1) c3, HGR.out.set_ 0 _, ?_, ?_, ?_⟩
    · exact ((KeepsOthers.alloc W _).trans (KeepsOthers.of_grownBy hg3 (own_isCells HV1.out))).trans (KeepsOthers.setCell _ _ _)
    · exact ((KeepsB.of_grown (World.grownBy_alloc W _ none) (fun r e => by cases e)).trans (KeepsB.of_grown hg3 (fun r e => .inr (World.ownsRow.lt HV1.out r e).1))).trans (KeepsB.of_grown (only_setCell (World.grownBy.refl w3 (some b2)) (p := ⟨b2, 0, none⟩) (Or.inl rfl) _) (fun r e => by cases e; exact .inl rfl))
    · rw [List.map_append]
      rw [← HLM.out] at ho3
      have hv1 := HV1.out
      have hv2 := HV23.out.1
      rw [← HLM.out] at hv1 hv2
      have hh := (LL.snoc hv1 hv2 HV23.out.2 HBD.out ho3 (by rw [HLM.out]; exact hg3)).kept (only_setCell (World.grownBy.refl w3 (some b2)) (p := ⟨b2, 0, none⟩) (Or.inl rfl) (.slice A3 (pre.length + 1) c3)) (fun r e => by cases e; omega)
      rw [HLM.out] at hh
      exact hh
    · exact (HG.out.2.grown hg3 (by have := HG.out.2.size; exact this) (fun r e => by have := (World.ownsRow.lt HV1.out r e).1; omega)).setCell (p := ⟨b2, 0, none⟩) (by show w.heap.size ≤ b2; omega) _
    · show w2.heap.size ≤ (w3.setCell _ _).heap.size
      simp [World.setCell]; omega
  case done =>
    rintro D xs W hD ⟨W2, o, hS, rfl⟩ ⟨v, g2, g3, g4, _⟩ hK
    obtain ⟨s1, s3, s4⟩ := hS
    have g3' := s3.putObj (l := w2.heap.size + 1) o (by omega)
    have g4' := s4.putObj (l := w2.heap.size + 1) o (by omega)
    rw [s1] at g3
    obtain ⟨Av, cv, rfl, _⟩ := g3.form
    have HALL := Lib.hid (And.intro g2 (And.intro g3' (And.intro g4' (And.intro g3 g4))))
    have hcA : (W2.putObj (w2.heap.size + 1) o).cell? ⟨b2, 0, none⟩ = some (.slice Av (spl l).1.length cv) := g2.cell 0
    have hcB : (W2.putObj (w2.heap.size + 1) o).cell? ⟨b3, 0, none⟩ = some (.int .i64 ((spl l).2.1 : Nat)) := g3'.cell 0
    have hcC : (W2.putObj (w2.heap.size + 1) o).cell? ⟨b4, 0, none⟩ = some (.int .i64 ((spl l).2.2 : Nat)) := g4'.cell 0
    have hfA := g2.frozen 0
    have hfB := g3'.frozen 0
    have hfC := g4'.frozen 0
    have HKD := Lib.hid hK
    clear g2 g3' g4' g3 g4 s1 s3 s4 hK
    generalize W2.putObj (w2.heap.size + 1) o = W at *
    have n1 : b2 ≠ b3 := by omega
    have n2 : b2 ≠ b4 := by omega
    have n3 : b3 ≠ b4 := by omega
    gi_wp2
    refine wpIn_wide.2 ?_
    go_region
    all_goals (go_wp2_with fail)
    all_goals gi_wp2
    obtain ⟨Wf, hWf⟩ : ∃ Wf, Wf = (((W.setCell ⟨b2, 0, none⟩ (.slice Av (spl l).1.length cv)).setCell ⟨b3, 0, none⟩ (.int .i64 ((spl l).2.1 : Nat))).setCell ⟨b4, 0, none⟩ (.int .i64 ((spl l).2.2 : Nat))).drew := ⟨_, rfl⟩
    rw [← hWf]
    obtain ⟨g2, g3, g4, gl, gb⟩ := HALL.out
    have k2 : Blk Wf b2 35 #[.slice Av (spl l).1.length cv] := by rw [hWf]; exact ((g2.set_ 0 _).far (p := ⟨b3, 0, none⟩) n1 _).far (p := ⟨b4, 0, none⟩) n2 _
    have k3 : Blk Wf b3 3 #[.int .i64 ((spl l).2.1 : Nat)] := by rw [hWf]; exact ((g3.far (p := ⟨b2, 0, none⟩) n1.symm _).set_ 0 _).far (p := ⟨b4, 0, none⟩) n3 _
    have k4 : Blk Wf b4 25 #[.int .i64 ((spl l).2.2 : Nat)] := by rw [hWf]; exact ((g4.far (p := ⟨b2, 0, none⟩) n2.symm _).far (p := ⟨b3, 0, none⟩) n3.symm _).set_ 0 _
    have kl : LL Wf w2.heap.size (.slice Av (spl l).1.length cv) (spl l).1 := by
      rw [hWf]
      exact ((((gl.kept (only_setCell (World.grownBy.refl W (some b2)) (p := ⟨b2, 0, none⟩) (Or.inl rfl) _) (fun r e => by cases e; omega)).kept (only_setCell (World.grownBy.refl _ (some b3)) (p := ⟨b3, 0, none⟩) (Or.inl rfl) _) (fun r e => by cases e; omega)).kept (only_setCell (World.grownBy.refl _ (some b4)) (p := ⟨b4, 0, none⟩) (Or.inl rfl) _) (fun r e => by cases e; omega)).kept (only_drew (World.grownBy.refl _ none)) (fun r e => by cases e))
    have kb : Below w.heap.size w Wf := by
      rw [hWf]
      exact (((gb.setCell (p := ⟨b2, 0, none⟩) (by show w.heap.size ≤ b2; omega) _).setCell (p := ⟨b3, 0, none⟩) (by show w.heap.size ≤ b3; omega) _).setCell (p := ⟨b4, 0, none⟩) (by show w.heap.size ≤ b4; omega) _).drew
    have kd : Wf.heap[D]? = some (.deferred (some [])) := by
      rw [hWf]
      exact (((Below.heap_setCell _ _ _ _ (by show D ≠ b4; omega)).trans (Below.heap_setCell _ _ _ _ (by show D ≠ b3; omega))).trans (Below.heap_setCell _ _ _ _ (by show D ≠ b2; omega))).trans HKD.out
    clear hWf
    refine ⟨by simp, .inl ⟨_, _, rfl, run_takeDeferred (w := Wf) kd, ?_⟩⟩
    have kK := belowK_b (w := w2) (n₀ := w.heap.size) (by omega) Wf D _ (.deferred none) hD kd rfl rfl
    have q2 : (Wf.putObj D (.deferred none)).cell? ⟨b2, 0, none⟩ = some (.slice Av (spl l).1.length cv) := (k2.putObj _ (by omega)).cell 0
    have q3 : (Wf.putObj D (.deferred none)).cell? ⟨b3, 0, none⟩ = some (.int .i64 ((spl l).2.1 : Nat)) := (k3.putObj _ (by omega)).cell 0
    have q4 : (Wf.putObj D (.deferred none)).cell? ⟨b4, 0, none⟩ = some (.int .i64 ((spl l).2.2 : Nat)) := (k4.putObj _ (by omega)).cell 0
    refine ⟨.tuple #[.slice Av (spl l).1.length cv, .int .i64 ((spl l).2.1 : Nat), .int .i64 ((spl l).2.2 : Nat)], ?_, ?_⟩
    · simp [results, Try.results17, go_sem, q2, q3, q4]
    · exact ⟨_, rfl, (kl.mono (by omega)).keptP (grownBy_putObj' Wf D _) (fun r e => by cases e; exact .inr ⟨_, kd, rfl⟩), kb.trans kK⟩
  case stop => exact fun _ _ _ _ _ _ h => h.elim
end Go.Proofs.Ytmoplkmfpobhaaa
