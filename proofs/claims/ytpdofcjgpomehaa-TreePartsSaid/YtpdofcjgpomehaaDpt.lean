/- Contract of tree.depth: of a tree's twigs. -/
import Derived.Test.YtpdofcjgpomehaaRws
namespace Go.Proofs.Ytpdofcjgpomehaa
open Go.RowKit

/-! ### Trees whose twigs tell how many parts they have -/
mutual
def Tr.cok : Tr → Prop
  | .node x ks => x.kids = (ks.length : Nat) ∧ coks ks
def coks : List Tr → Prop
  | [] => True
  | k :: ks => k.cok ∧ coks ks
end
mutual
theorem ok_cok : ∀ (t : Tr) (may : Nat → Bool), t.ok may → t.cok
  | .node x ks, may, h => by
    rw [Tr.ok] at h
    rw [Tr.cok]
    exact ⟨h.2.1, oks_coks ks x 0 h.2.2⟩
theorem oks_coks : ∀ (ks : List Tr) (x : Tw) (i : Nat), oks x i ks → coks ks
  | [], _, _, _ => by simp [coks]
  | k :: ks, x, i, h => by
    rw [oks] at h
    rw [coks]
    exact ⟨ok_cok k _ h.1, oks_coks ks x (i + 1) h.2⟩
end
theorem len_flats : ∀ ks : List Tr, ks.length ≤ (flats ks).length
  | [] => Nat.zero_le _
  | k :: ks => by
    have h1 := len_flats ks
    have h2 := flat_pos k
    rw [flats, List.length_append, List.length_cons]
    omega
/-- Forests still to come, the innermost first: their twigs, how many they are, how deep they go. -/
def restS (S : List (List Tr)) : List Tw := (S.map flats).flatten
def cnts : List (List Tr) → List Nat
  | [] => []
  | F :: S => F.length :: S.map (fun G => G.length + 1)
def mxd : List (List Tr) → Nat
  | [] => 0
  | F :: S => max ((F :: S).length + depths F) (mxd S)
def cokS (S : List (List Tr)) : Prop := ∀ F ∈ S, coks F
theorem cnts_length (S : List (List Tr)) : (cnts S).length = S.length := by cases S <;> simp [cnts]
theorem restS_cons (F : List Tr) (S : List (List Tr)) : restS (F :: S) = flats F ++ restS S := by simp [restS]
structure DpI (S : List (List Tr)) (most D : Nat) : Prop where
  cok : cokS S
  len : S.length ≤ most
  mx : max most (mxd S) = D
theorem DpI.pop {S : List (List Tr)} {most D : Nat} (h : DpI ([] :: S) most D) : DpI S most D := by
  obtain ⟨h1, h2, h3⟩ := h
  refine ⟨fun F hF => h1 F (List.mem_cons_of_mem _ hF), by simp at h2; omega, ?_⟩
  rw [mxd, show depths [] = 0 from rfl] at h3
  simp at h2 h3
  omega
theorem DpI.push {S : List (List Tr)} {most D : Nat} {x : Tw} {ks F : List Tr} (h : DpI ((Tr.node x ks :: F) :: S) most D) : x.kids = (ks.length : Nat) ∧ DpI (ks :: F :: S) (max most (S.length + 1 + 1)) D := by
  obtain ⟨h1, h2, h3⟩ := h
  have hc := h1 _ (List.mem_cons_self ..)
  rw [coks, Tr.cok] at hc
  refine ⟨hc.1.1, fun G hG => ?_, ?_, ?_⟩
  · rcases List.mem_cons.1 hG with rfl | hG
    · exact hc.1.2
    · rcases List.mem_cons.1 hG with rfl | hG
      · exact hc.2
      · exact h1 G (List.mem_cons_of_mem _ hG)
  · simp only [List.length_cons]
    exact Nat.le_max_right _ _
  · rw [mxd, depths, Tr.depth] at h3
    rw [mxd, mxd]
    simp only [List.length_cons] at h2 h3 ⊢
    have e : max most (S.length + 1 + 1) = max most (S.length + 1 + 1) := rfl
    rw [e]
    omega
theorem DpI.start {x : Tw} {ks : List Tr} (h : (Tr.node x ks).cok) : x.kids = (ks.length : Nat) ∧ DpI [ks] 1 (Tr.node x ks).depth := by
  rw [Tr.cok] at h
  refine ⟨h.1, fun G hG => by rw [List.mem_singleton] at hG; subst hG; exact h.2, Nat.le_refl _, ?_⟩
  rw [mxd, Tr.depth, show mxd [] = 0 from rfl]
  simp
  omega
/-- No forest is at its end. -/
def Open1 : List (List Tr) → Prop
  | [] => True
  | F :: _ => F ≠ []
theorem bigS : ∀ {S : List (List Tr)} {F : List Tr}, F ∈ S → F.length ≤ (restS S).length
  | G :: S, F, h => by
    rw [restS_cons, List.length_append]
    rcases List.mem_cons.1 h with rfl | h
    · have := len_flats F; omega
    · have := bigS h; omega
theorem own_cap {w : World} {base : Nat} {e : TypeId} {size n c : Nat} {A : Option Addr} {xs : List Value} (h : w.ownsRow base e size (.slice A n c) n xs) : n ≤ c := by
  rcases h.2 with ⟨h1, h0⟩ | ⟨g, cap, cur, h1, _, _, hc, _⟩
  · injection h1 with h1 h2 h3
    omega
  · injection h1 with h1 h2 h3
    omega
def sliceLen : Value → Nat
  | .slice _ n _ => n
  | _ => 0
theorem depth_step {T : Tr} {l r : List Tw} {x : Tw} {j most : Nat} {S : List (List Tr)} (hT : T.cok) (hl : T.flat = l) (hx : l.drop j = x :: r)
    (hS : j = 0 ∧ most = 0 ∧ S = [] ∨ 0 < j ∧ l.drop j = restS S ∧ DpI S most T.depth ∧ Open1 S) :
    ∃ ks S', x.kids = (ks.length : Nat) ∧ DpI (ks :: S') (max most ((cnts S).length + 1)) T.depth ∧ r = restS (ks :: S') ∧ (cnts (ks :: S')).reverse = (cnts S).reverse ++ [ks.length] := by
  rcases hS with ⟨h1, h2, h3⟩ | ⟨h1, h2, h3, h4⟩
  · subst h1; subst h2; subst h3
    obtain ⟨x', ks⟩ := T
    rw [List.drop_zero, ← hl, Tr.flat] at hx
    injection hx with hx1 hx2
    subst hx1
    obtain ⟨d1, d2⟩ := DpI.start hT
    exact ⟨ks, [], d1, d2, by rw [← hx2]; simp [restS], by simp [cnts]⟩
  · match S, h2, h3, h4 with
    | [], h2, _, _ => rw [hx] at h2; simp [restS] at h2
    | [] :: S2, _, _, h4 => exact absurd rfl h4
    | (.node x' ks :: F) :: S2, h2, h3, _ =>
      rw [hx, restS_cons, flats, Tr.flat, List.cons_append, List.cons_append] at h2
      injection h2 with e1 e2
      subst e1
      obtain ⟨d1, d2⟩ := h3.push
      refine ⟨ks, F :: S2, d1, ?_, ?_, ?_⟩
      · rw [cnts_length, List.length_cons]; exact d2
      · rw [e2, restS_cons, restS_cons, List.append_assoc]
      · simp [cnts]
set_option maxRecDepth 100000 in
set_option maxHeartbeats 4000000 in
theorem depth_any (T : Tr) (A : Option Addr) (c : Nat) (l : List Tw) (w : World) (hT : T.cok) (hl : T.flat = l) (hlen : l.length ≤ 100000) (hrd : RdW w A l) (hA : ∀ a, A = some a → l ≠ [] → a.block < w.heap.size) :
    Calls Try.prog 30 #[.slice A l.length c] w fun e w' => e = .returned (.int .i64 (T.depth : Nat)) ∧ Below w.heap.size w w' := by
  obtain ⟨n, hn⟩ : ∃ n, n = l.length := ⟨_, rfl⟩
  rw [← hn] at hlen ⊢
  have hpos : 0 < n := by rw [hn, ← hl]; exact flat_pos T
  have HN := Lib.hid (And.intro hn (And.intro hT hl))
  have HR := Lib.hid (And.intro hrd hA)
  clear hn hT hl hrd hA
  go_enter Try.func30, Try.ntmps30
  go_wp2_with fail
  go_loopw [3, 4, 6, 9] (fun s3 s4 s6 s9 wr => ∃ (j most m c1 : Nat) (A1 : Option Addr) (S : List (List Tr)), s3 = .int .i64 (most : Nat) ∧ s4 = .slice A1 m c1 ∧ s9 = .int .i64 (j : Nat) ∧ j ≤ n ∧ m ≤ j ∧ wr.ownsRow w.heap.size 3 1 (.slice A1 m c1) m (ncells (cnts S).reverse) ∧ Below w.heap.size w wr ∧
    (j = 0 ∧ most = 0 ∧ S = [] ∨ 0 < j ∧ l.drop j = restS S ∧ DpI S most T.depth ∧ Open1 S)) (fun _ _ _ s9 _ => n - (intOf s9).toNat)
  case atStart => exact ⟨0, 0, 0, 0, none, [], rfl, rfl, rfl, by omega, by omega, World.ownsRow_nil _ _ _ _, Below.refl _ w, .inl ⟨rfl, rfl, rfl⟩⟩
  case round =>
    obtain ⟨j, most, m, c1, A1, S, rfl, rfl, rfl, hj, hmj, ho, hb, hS⟩ := hrel
    have HO := Lib.hid (And.intro ho (And.intro hb hS))
    have hm : m = (cnts S).length := by have := ho.1; rw [ncells_length, List.length_reverse] at this; omega
    have HM := Lib.hid hm
    clear ho hb hS hm
    by_cases hlt : j < n
    · have hd1 : decide ((j : Int) < (n : Int)) = true := decide_eq_true (by omega)
      obtain ⟨x, hx⟩ : ∃ x, l[j]? = some x := ⟨_, List.getElem?_eq_getElem (by rw [← HN.out.1]; exact hlt)⟩
      have hdr : l.drop j = x :: l.drop (j + 1) := by
        have h1 := (List.getElem?_eq_some_iff.1 hx).1
        rw [List.drop_eq_getElem_cons h1, (List.getElem?_eq_some_iff.1 hx).2]
      obtain ⟨ks, S1, d1, d2, d3, d4⟩ := depth_step HN.out.2.1 HN.out.2.2 hdr HO.out.2.2
      obtain ⟨b, off, rfl, hbl, hat⟩ : ∃ b off, A = some ⟨b, off, none⟩ ∧ b < wr.heap.size ∧ ∀ k x, l[k]? = some x → TwAt wr b (off + k * 4) x := (HR.out.1.below HO.out.2.1).resolve_left (fun h => by rw [h] at hx; cases hx)
      obtain ⟨c0, c1', c2, c3⟩ := hat j x hx
      obtain ⟨op, kids, int, text⟩ := x
      dsimp only at c0 c1' c2 c3 d1
      obtain ⟨q, hq⟩ : ∃ q, q = ks.length := ⟨_, rfl⟩
      rw [← hq] at d1 d4
      subst d1
      rw [← HM.out] at d2
      have hmx : max most (m + 1) = (if most ≤ m + 1 then m + 1 else most) := rfl
      have HD := Lib.hid (And.intro d2 (And.intro d3 (And.intro d4 hq)))
      have hj0 : (0 : Int) ≤ (j : Int) := by omega
      have hjn : (j : Int) < (n : Int) := by omega
      clear d2 d3 d4 hq hdr hx hat hbl hmx
      by_cases hmx : (m : Int) + 1 ≤ (most : Int)
      · go_wp2_with (at_builtin; refine wpList_app_nat rfl (.tmp 18) (.tmp 21) rfl w.heap.size (wr.heap.size + 1) m c1 A1 (cnts S).reverse q rfl ((HO.out.1.alloc _).alloc _) rfl (by rw [show wr.heap.size + 1 = (wr.alloc (.cells #[.int .u8 (op : Nat), .int .i64 (q : Nat), .int .i64 int, .string text] 33)).heap.size from by simp]; exact heap_alloc_new _ _) (by omega) (by have := HO.out.2.1.size; simp; omega) ?_; intro A2 c2' w3 ho3 hg3; have HO3 := Lib.hid (And.intro ho3 (((HO.out.2.1.alloc HO.out.2.1.size _).alloc (by have := HO.out.2.1.size; simp; omega) _).grown hg3 (by have := HO.out.2.1.size; simp; omega) (fun r hr => (World.ownsRow.lt HO.out.1 r hr).1))); clear ho3 hg3)
        have HS0 : Hid (w3.ownsRow w.heap.size 3 1 (.slice A2 (m + 1) c2') (m + 1) (ncells (cnts (ks :: S1)).reverse)) := by
          have h := HO3.out.1
          rw [← HD.out.2.2.1] at h
          exact h
        have HB0 : Hid (Below w.heap.size w w3) := HO3.out.2
        have HDI : Hid (DpI (ks :: S1) most T.depth) := by
          have h := HD.out.1
          rw [show max most (m + 1) = most from by omega] at h
          exact h
        have HRS := Lib.hid HD.out.2.1
        have HMJ : Hid (m + 1 ≤ j + 1) := (by omega : m + 1 ≤ j + 1)
        clear HO HO3 HD HM hmx hmj
        obtain ⟨wa, hwa⟩ : ∃ x, x = wr := ⟨_, rfl⟩
        subst hwa
        go_loopw [4] (fun s4 wl => ∃ (m2 c2 : Nat) (A3 : Option Addr) (S2 : List (List Tr)), s4 = .slice A3 m2 c2 ∧ m2 ≤ j + 1 ∧ wl.ownsRow w.heap.size 3 1 (.slice A3 m2 c2) m2 (ncells (cnts S2).reverse) ∧ Below w.heap.size w wl ∧ DpI S2 most T.depth ∧ l.drop (j + 1) = restS S2) (fun s4 _ => sliceLen s4)
        case atStart => exact ⟨m + 1, c2', A2, ks :: S1, rfl, HMJ.out, HS0.out, HB0.out, HDI.out, HRS.out⟩
        case round =>
          clear HS0 HB0 HDI HRS
          obtain ⟨m2, c3', A3, S2, rfl, hm2, ho2, hb2, hdi, hrs⟩ := hrel
          have hlen2 : m2 = S2.length := by have := ho2.1; rw [ncells_length, List.length_reverse, cnts_length] at this; omega
          have HL := Lib.hid (And.intro ho2 (And.intro hb2 (And.intro hdi hrs)))
          have HL2 := Lib.hid hlen2
          clear ho2 hb2 hdi hrs hlen2
          cases hS2 : S2 with
          | nil =>
            have h0 : m2 = 0 := by rw [HL2.out, hS2]; rfl
            have HE : Hid (Open1 S2) := by rw [hS2]; exact trivial
            subst h0
            clear hS2
            go_wp2_with fail
            go_roundw
            case rel => exact ⟨j + 1, most, 0, c3', A3, S2, rfl, rfl, by go_num, by omega, by omega, HL.out.1, HL.out.2.1, .inr ⟨by omega, HL.out.2.2.2, HL.out.2.2.1, HE.out⟩⟩
            case measure => simp [intOf]; omega
          | cons F S3 =>
            obtain ⟨m3, hm3⟩ : ∃ k, m2 = k + 1 := ⟨S3.length, by rw [HL2.out, hS2]; rfl⟩
            subst hm3
            obtain ⟨gr, capr, hvr, hgr, hltr⟩ := HL.out.1.form (by omega)
            have hA3 : A3 = some ⟨gr, 0, none⟩ := by injection hvr
            subst hA3
            have hlast : (ncells (cnts S2).reverse)[m3]? = some (.int .i64 (F.length : Nat)) := by
              have e1 : (cnts S2).reverse = (S3.map (fun G => G.length + 1)).reverse ++ [F.length] := by rw [hS2]; simp [cnts]
              have e2 : S3.length = m3 := by have := HL2.out; rw [hS2] at this; simp at this; omega
              rw [e1, ncells_append, List.getElem?_append_right (by rw [ncells_length]; simp; omega), ncells_length]
              simp [e2, ncells]
            have r0 : wr.cell? ⟨gr, m3, none⟩ = some (.int .i64 (F.length : Nat)) := by
              have := HL.out.1.cells (g := gr) rfl m3 _ hlast
              rw [addr_add, Nat.zero_add] at this
              exact this
            have i0 : (0 : Int) ≤ (m3 : Int) := by omega
            have i1 : (m3 : Int) < (m3 : Int) + 1 := by omega
            clear hvr hlast
            cases F with
            | cons k1 F1 =>
              have HE : Hid (Open1 S2) := by rw [hS2]; exact (fun h => by cases h)
              have hne : (((k1 :: F1).length : Int) == 0) = false := by rw [beq_eq_false_iff_ne]; simp; omega
              generalize (k1 :: F1).length = fl at r0 hne
              clear hS2
              go_wp2_with fail
              go_roundw
              case rel => exact ⟨j + 1, most, m3 + 1, c3', some ⟨gr, 0, none⟩, S2, rfl, rfl, by go_num, by omega, by omega, HL.out.1, HL.out.2.1, .inr ⟨by omega, HL.out.2.2.2, HL.out.2.2.1, HE.out⟩⟩
              case measure => simp [intOf]; omega
            | nil =>
              have r1 : wr.cell? ⟨gr, m3, none⟩ = some (.int .i64 0) := r0
              have hcp : m3 + 1 ≤ c3' := own_cap HL.out.1
              have hcp0 : (0 : Int) ≤ (m3 : Int) := by omega
              have e0 : S3.length = m3 := by have := HL2.out; rw [hS2] at this; simp at this; omega
              have HP : Hid (wr.ownsRow w.heap.size 3 1 (.slice (some ⟨gr, 0, none⟩) m3 c3') m3 (ncells (S3.map (fun G => G.length + 1)).reverse)) := by
                have h := HL.out.1
                have e1 : (cnts S2).reverse = (S3.map (fun G => G.length + 1)).reverse ++ [0] := by rw [hS2]; simp [cnts]
                rw [e1, ncells_append] at h
                exact ownsRow_pop (by rw [ncells_length]; simp; omega) h
              have HQ : Hid (DpI S3 most T.depth ∧ l.drop (j + 1) = restS S3) := by
                have h1 := HL.out.2.2.1
                have h2 := HL.out.2.2.2
                rw [hS2] at h1 h2
                exact ⟨h1.pop, by rw [h2, restS_cons]; rfl⟩
              have hg1 : gr < wr.heap.size := hltr
              clear r0 hS2 hltr
              cases hS3 : S3 with
              | nil =>
                have h0 : m3 = 0 := by rw [← e0, hS3]; rfl
                subst h0
                have HZ : Hid (wr.ownsRow w.heap.size 3 1 (.slice (some ⟨gr, 0, none⟩) 0 c3') 0 (ncells (cnts S3).reverse)) := by
                  have h := HP.out
                  rw [hS3] at h ⊢
                  exact h
                clear e0 hS3
                go_wp2_with fail
                go_roundw
                case rel => exact ⟨0, c3', some ⟨gr, 0, none⟩, S3, rfl, by omega, HZ.out, HL.out.2.1, HQ.out.1, HQ.out.2⟩
                case measure => simp [sliceLen]
              | cons G S4 =>
                obtain ⟨m4, hm4⟩ : ∃ k, m3 = k + 1 := ⟨S4.length, by rw [← e0, hS3]; rfl⟩
                subst hm4
                have e4 : S4.length = m4 := by rw [hS3] at e0; simp at e0; omega
                obtain ⟨gl, hgl⟩ : ∃ z, z = G.length := ⟨_, rfl⟩
                have e5 : (S3.map (fun G => G.length + 1)).reverse = (S4.map (fun G => G.length + 1)).reverse ++ [gl + 1] := by rw [hS3, hgl]; simp
                have hls : (ncells (S3.map (fun G => G.length + 1)).reverse)[m4]? = some (.int .i64 ((gl + 1 : Nat) : Int)) := by
                  rw [e5, ncells_append, List.getElem?_append_right (by rw [ncells_length]; simp; omega), ncells_length]
                  simp [e4, ncells]
                have r2 : wr.cell? ⟨gr, m4, none⟩ = some (.int .i64 ((gl : Int) + 1)) := by
                  have := HP.out.cells (g := gr) rfl m4 _ hls
                  rw [addr_add, Nat.zero_add] at this
                  exact this
                have f2 : wr.frozen? ⟨gr, m4, none⟩ = false := World.ownsRow.frozenAt HP.out m4
                have hgb : gl + 1 ≤ 200000 := by
                  have h1 := HQ.out.2
                  rw [hS3] at h1
                  have h2 := bigS (S := G :: S4) (F := G) (List.mem_cons_self ..)
                  rw [← h1, List.length_drop] at h2
                  have := HN.out.1
                  omega
                have HST : Hid (∀ v, v = Value.int .i64 (gl : Nat) → (wr.setCell ⟨gr, m4, none⟩ v).ownsRow w.heap.size 3 1 (.slice (some ⟨gr, 0, none⟩) (m4 + 1) c3') (m4 + 1) (ncells (cnts S3).reverse) ∧ Below w.heap.size w (wr.setCell ⟨gr, m4, none⟩ v)) := by
                  intro v hv
                  subst hv
                  have h := HP.out.stored m4 (.int .i64 (gl : Nat))
                  refine ⟨?_, HL.out.2.1.grown h.2 HL.out.2.1.size (fun r hr => by injection hr with hr; rw [← hr]; exact hgr)⟩
                  have h1 := h.1
                  have e6 : (ncells (S3.map (fun G => G.length + 1)).reverse).set m4 (.int .i64 (gl : Nat)) = ncells (cnts S3).reverse := by
                    rw [e5, ncells_append, List.set_append_right _ _ (by rw [ncells_length]; simp; omega), ncells_length, hS3, hgl]
                    simp [e4, ncells, cnts]
                  rw [e6] at h1
                  exact h1
                have j0 : (0 : Int) ≤ (m4 : Int) := by omega
                have j1 : (m4 : Int) < (m4 : Int) + 1 := by omega
                clear e0 hS3 e4 hgl e5 hls
                go_wp2_with fail
                go_roundw
                case rel =>
                  have h := HST.out _ (show Value.int .i64 _ = Value.int .i64 (gl : Nat) from by congr 1 <;> omega)
                  exact ⟨m4 + 1, c3', some ⟨gr, 0, none⟩, S3, by go_num, by omega, h.1, h.2, HQ.out.1, HQ.out.2⟩
                case measure => simp [sliceLen]
      · have hmx2 : (most : Int) < (m : Int) + 1 := by omega
        go_wp2_with (at_builtin; refine wpList_app_nat rfl (.tmp 18) (.tmp 21) rfl w.heap.size (wr.heap.size + 1) m c1 A1 (cnts S).reverse q rfl ((HO.out.1.alloc _).alloc _) rfl (by rw [show wr.heap.size + 1 = (wr.alloc (.cells #[.int .u8 (op : Nat), .int .i64 (q : Nat), .int .i64 int, .string text] 33)).heap.size from by simp]; exact heap_alloc_new _ _) (by omega) (by have := HO.out.2.1.size; simp; omega) ?_; intro A2 c2' w3 ho3 hg3; have HO3 := Lib.hid (And.intro ho3 (((HO.out.2.1.alloc HO.out.2.1.size _).alloc (by have := HO.out.2.1.size; simp; omega) _).grown hg3 (by have := HO.out.2.1.size; simp; omega) (fun r hr => (World.ownsRow.lt HO.out.1 r hr).1))); clear ho3 hg3)
        have HS0 : Hid (w3.ownsRow w.heap.size 3 1 (.slice A2 (m + 1) c2') (m + 1) (ncells (cnts (ks :: S1)).reverse)) := by
          have h := HO3.out.1
          rw [← HD.out.2.2.1] at h
          exact h
        have HB0 : Hid (Below w.heap.size w w3) := HO3.out.2
        have HDI : Hid (DpI (ks :: S1) (m + 1) T.depth) := by
          have h := HD.out.1
          rw [show max most (m + 1) = (m + 1) from by omega] at h
          exact h
        have HRS := Lib.hid HD.out.2.1
        have HMJ : Hid (m + 1 ≤ j + 1) := (by omega : m + 1 ≤ j + 1)
        clear HO HO3 HD HM hmx hmj
        obtain ⟨wa, hwa⟩ : ∃ x, x = wr := ⟨_, rfl⟩
        subst hwa
        go_loopw [4] (fun s4 wl => ∃ (m2 c2 : Nat) (A3 : Option Addr) (S2 : List (List Tr)), s4 = .slice A3 m2 c2 ∧ m2 ≤ j + 1 ∧ wl.ownsRow w.heap.size 3 1 (.slice A3 m2 c2) m2 (ncells (cnts S2).reverse) ∧ Below w.heap.size w wl ∧ DpI S2 (m + 1) T.depth ∧ l.drop (j + 1) = restS S2) (fun s4 _ => sliceLen s4)
        case atStart => exact ⟨m + 1, c2', A2, ks :: S1, rfl, HMJ.out, HS0.out, HB0.out, HDI.out, HRS.out⟩
        case round =>
          clear HS0 HB0 HDI HRS
          obtain ⟨m2, c3', A3, S2, rfl, hm2, ho2, hb2, hdi, hrs⟩ := hrel
          have hlen2 : m2 = S2.length := by have := ho2.1; rw [ncells_length, List.length_reverse, cnts_length] at this; omega
          have HL := Lib.hid (And.intro ho2 (And.intro hb2 (And.intro hdi hrs)))
          have HL2 := Lib.hid hlen2
          clear ho2 hb2 hdi hrs hlen2
          cases hS2 : S2 with
          | nil =>
            have h0 : m2 = 0 := by rw [HL2.out, hS2]; rfl
            have HE : Hid (Open1 S2) := by rw [hS2]; exact trivial
            subst h0
            clear hS2
            go_wp2_with fail
            go_roundw
            case rel => exact ⟨j + 1, (m + 1), 0, c3', A3, S2, by go_num, rfl, by go_num, by omega, by omega, HL.out.1, HL.out.2.1, .inr ⟨by omega, HL.out.2.2.2, HL.out.2.2.1, HE.out⟩⟩
            case measure => simp [intOf]; omega
          | cons F S3 =>
            obtain ⟨m3, hm3⟩ : ∃ k, m2 = k + 1 := ⟨S3.length, by rw [HL2.out, hS2]; rfl⟩
            subst hm3
            obtain ⟨gr, capr, hvr, hgr, hltr⟩ := HL.out.1.form (by omega)
            have hA3 : A3 = some ⟨gr, 0, none⟩ := by injection hvr
            subst hA3
            have hlast : (ncells (cnts S2).reverse)[m3]? = some (.int .i64 (F.length : Nat)) := by
              have e1 : (cnts S2).reverse = (S3.map (fun G => G.length + 1)).reverse ++ [F.length] := by rw [hS2]; simp [cnts]
              have e2 : S3.length = m3 := by have := HL2.out; rw [hS2] at this; simp at this; omega
              rw [e1, ncells_append, List.getElem?_append_right (by rw [ncells_length]; simp; omega), ncells_length]
              simp [e2, ncells]
            have r0 : wr.cell? ⟨gr, m3, none⟩ = some (.int .i64 (F.length : Nat)) := by
              have := HL.out.1.cells (g := gr) rfl m3 _ hlast
              rw [addr_add, Nat.zero_add] at this
              exact this
            have i0 : (0 : Int) ≤ (m3 : Int) := by omega
            have i1 : (m3 : Int) < (m3 : Int) + 1 := by omega
            clear hvr hlast
            cases F with
            | cons k1 F1 =>
              have HE : Hid (Open1 S2) := by rw [hS2]; exact (fun h => by cases h)
              have hne : (((k1 :: F1).length : Int) == 0) = false := by rw [beq_eq_false_iff_ne]; simp; omega
              generalize (k1 :: F1).length = fl at r0 hne
              clear hS2
              go_wp2_with fail
              go_roundw
              case rel => exact ⟨j + 1, (m + 1), m3 + 1, c3', some ⟨gr, 0, none⟩, S2, by go_num, rfl, by go_num, by omega, by omega, HL.out.1, HL.out.2.1, .inr ⟨by omega, HL.out.2.2.2, HL.out.2.2.1, HE.out⟩⟩
              case measure => simp [intOf]; omega
            | nil =>
              have r1 : wr.cell? ⟨gr, m3, none⟩ = some (.int .i64 0) := r0
              have hcp : m3 + 1 ≤ c3' := own_cap HL.out.1
              have hcp0 : (0 : Int) ≤ (m3 : Int) := by omega
              have e0 : S3.length = m3 := by have := HL2.out; rw [hS2] at this; simp at this; omega
              have HP : Hid (wr.ownsRow w.heap.size 3 1 (.slice (some ⟨gr, 0, none⟩) m3 c3') m3 (ncells (S3.map (fun G => G.length + 1)).reverse)) := by
                have h := HL.out.1
                have e1 : (cnts S2).reverse = (S3.map (fun G => G.length + 1)).reverse ++ [0] := by rw [hS2]; simp [cnts]
                rw [e1, ncells_append] at h
                exact ownsRow_pop (by rw [ncells_length]; simp; omega) h
              have HQ : Hid (DpI S3 (m + 1) T.depth ∧ l.drop (j + 1) = restS S3) := by
                have h1 := HL.out.2.2.1
                have h2 := HL.out.2.2.2
                rw [hS2] at h1 h2
                exact ⟨h1.pop, by rw [h2, restS_cons]; rfl⟩
              have hg1 : gr < wr.heap.size := hltr
              clear r0 hS2 hltr
              cases hS3 : S3 with
              | nil =>
                have h0 : m3 = 0 := by rw [← e0, hS3]; rfl
                subst h0
                have HZ : Hid (wr.ownsRow w.heap.size 3 1 (.slice (some ⟨gr, 0, none⟩) 0 c3') 0 (ncells (cnts S3).reverse)) := by
                  have h := HP.out
                  rw [hS3] at h ⊢
                  exact h
                clear e0 hS3
                go_wp2_with fail
                go_roundw
                case rel => exact ⟨0, c3', some ⟨gr, 0, none⟩, S3, rfl, by omega, HZ.out, HL.out.2.1, HQ.out.1, HQ.out.2⟩
                case measure => simp [sliceLen]
              | cons G S4 =>
                obtain ⟨m4, hm4⟩ : ∃ k, m3 = k + 1 := ⟨S4.length, by rw [← e0, hS3]; rfl⟩
                subst hm4
                have e4 : S4.length = m4 := by rw [hS3] at e0; simp at e0; omega
                obtain ⟨gl, hgl⟩ : ∃ z, z = G.length := ⟨_, rfl⟩
                have e5 : (S3.map (fun G => G.length + 1)).reverse = (S4.map (fun G => G.length + 1)).reverse ++ [gl + 1] := by rw [hS3, hgl]; simp
                have hls : (ncells (S3.map (fun G => G.length + 1)).reverse)[m4]? = some (.int .i64 ((gl + 1 : Nat) : Int)) := by
                  rw [e5, ncells_append, List.getElem?_append_right (by rw [ncells_length]; simp; omega), ncells_length]
                  simp [e4, ncells]
                have r2 : wr.cell? ⟨gr, m4, none⟩ = some (.int .i64 ((gl : Int) + 1)) := by
                  have := HP.out.cells (g := gr) rfl m4 _ hls
                  rw [addr_add, Nat.zero_add] at this
                  exact this
                have f2 : wr.frozen? ⟨gr, m4, none⟩ = false := World.ownsRow.frozenAt HP.out m4
                have hgb : gl + 1 ≤ 200000 := by
                  have h1 := HQ.out.2
                  rw [hS3] at h1
                  have h2 := bigS (S := G :: S4) (F := G) (List.mem_cons_self ..)
                  rw [← h1, List.length_drop] at h2
                  have := HN.out.1
                  omega
                have HST : Hid (∀ v, v = Value.int .i64 (gl : Nat) → (wr.setCell ⟨gr, m4, none⟩ v).ownsRow w.heap.size 3 1 (.slice (some ⟨gr, 0, none⟩) (m4 + 1) c3') (m4 + 1) (ncells (cnts S3).reverse) ∧ Below w.heap.size w (wr.setCell ⟨gr, m4, none⟩ v)) := by
                  intro v hv
                  subst hv
                  have h := HP.out.stored m4 (.int .i64 (gl : Nat))
                  refine ⟨?_, HL.out.2.1.grown h.2 HL.out.2.1.size (fun r hr => by injection hr with hr; rw [← hr]; exact hgr)⟩
                  have h1 := h.1
                  have e6 : (ncells (S3.map (fun G => G.length + 1)).reverse).set m4 (.int .i64 (gl : Nat)) = ncells (cnts S3).reverse := by
                    rw [e5, ncells_append, List.set_append_right _ _ (by rw [ncells_length]; simp; omega), ncells_length, hS3, hgl]
                    simp [e4, ncells, cnts]
                  rw [e6] at h1
                  exact h1
                have j0 : (0 : Int) ≤ (m4 : Int) := by omega
                have j1 : (m4 : Int) < (m4 : Int) + 1 := by omega
                clear e0 hS3 e4 hgl e5 hls
                go_wp2_with fail
                go_roundw
                case rel =>
                  have h := HST.out _ (show Value.int .i64 _ = Value.int .i64 (gl : Nat) from by congr 1 <;> omega)
                  exact ⟨m4 + 1, c3', some ⟨gr, 0, none⟩, S3, by go_num, by omega, h.1, h.2, HQ.out.1, HQ.out.2⟩
                case measure => simp [sliceLen]
    · have hje : j = n := by omega
      have hd1 : decide ((j : Int) < (n : Int)) = false := decide_eq_false (by omega)
      have HF := Lib.hid (show most = T.depth from by
        rcases HO.out.2.2 with ⟨h1, _⟩ | ⟨_, h2, h3, h4⟩
        · omega
        · have h5 : restS S = [] := by rw [← h2]; exact List.drop_of_length_le (by have := HN.out.1; omega)
          have h6 : S = [] := by
            match S, h4, h5 with
            | [], _, _ => rfl
            | [] :: S2, h4, _ => exact absurd rfl h4
            | (k :: F) :: S2, _, h5 =>
              have := flat_pos k
              rw [restS_cons, flats] at h5
              simp at h5
              rw [h5.1] at this
              simp at this
          subst h6
          have := h3.mx
          simpa [mxd] using this)
      clear hje
      go_wp2_with fail
      go_ret
      rw [← HF.out]
      exact ⟨rfl, HO.out.2.1⟩
end Go.Proofs.Ytpdofcjgpomehaa
