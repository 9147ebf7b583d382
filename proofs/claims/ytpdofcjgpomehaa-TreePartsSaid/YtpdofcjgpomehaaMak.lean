/- Contract of tree.Make. -/
import Derived.Test.YtpdofcjgpomehaaPar
namespace Go.Proofs.Ytpdofcjgpomehaa
open Go.RowKit

/-- A slice whose cells are these values. -/
def RdP (w : World) (P : Option Addr) (vs : List Value) : Prop := vs = [] ∨ ∃ b off, P = some ⟨b, off, none⟩ ∧ b < w.heap.size ∧ ∀ (i : Nat) (v : Value), vs[i]? = some v → w.cell? ⟨b, off + i, none⟩ = some v
/-- Slices that read as twigs. -/
structure RdF (w : World) (vs : List Value) (ls : List (List Tw)) : Prop where
  len : vs.length = ls.length
  at_ : ∀ (i : Nat) (v : Value) (l : List Tw), vs[i]? = some v → ls[i]? = some l → ∃ A c, v = .slice A l.length c ∧ RdW w A l ∧ (∀ a, A = some a → l ≠ [] → a.block < w.heap.size) ∧ l.length ≤ c ∧ c ≤ 9223372036854775807
section
variable {w w' : World} {P : Option Addr} {vs : List Value} {ls : List (List Tw)}
theorem RdP.below (h : RdP w P vs) (hb : Below w.heap.size w w') : RdP w' P vs := by
  rcases h with h | ⟨b, off, hP, hlt, hat⟩
  · exact .inl h
  · exact .inr ⟨b, off, hP, Nat.lt_of_lt_of_le hlt hb.size, fun i v hv => (World.cell?_of_block (hb.block b hlt)).trans (hat i v hv)⟩
theorem RdF.below (h : RdF w vs ls) (hb : Below w.heap.size w w') : RdF w' vs ls :=
  ⟨h.len, fun i v l hv hl => by
    obtain ⟨A, c, h1, h2, h3, h4⟩ := h.at_ i v l hv hl
    exact ⟨A, c, h1, h2.below hb, fun a ha hl => Nat.lt_of_lt_of_le (h3 a ha hl) hb.size, h4⟩⟩
end
def accL : List (List Tw) → Nat → Nat
  | [], a => a
  | l :: ls, a => accL ls (if a ≤ 2048 then a + l.length else a)
theorem accL_snoc : ∀ (ls : List (List Tw)) (l : List Tw) (a : Nat), accL (ls ++ [l]) a = if accL ls a ≤ 2048 then accL ls a + l.length else accL ls a
  | [], l, a => rfl
  | k :: ls, l, a => by rw [List.cons_append, accL, accL_snoc ls l, accL]
theorem accL_ge : ∀ (ls : List (List Tw)) (a : Nat), a ≤ accL ls a
  | [], a => Nat.le_refl _
  | l :: ls, a => by
    rw [accL]
    have := accL_ge ls (if a ≤ 2048 then a + l.length else a)
    split at this <;> split <;> omega
theorem accL_sum : ∀ (ls : List (List Tw)) (a : Nat), (accL ls a ≤ 2048 ↔ a + ls.flatten.length ≤ 2048)
  | [], a => by simp [accL]
  | l :: ls, a => by
    rw [accL, List.flatten_cons, List.length_append]
    split
    · rw [accL_sum ls]; omega
    · have := accL_ge ls a; omega
def topOf (top : Tw) (ls : List (List Tw)) : Tw := { top with kids := (ls.length : Nat) }
def outOf (top : Tw) (ls : List (List Tw)) : List Tw := topOf top ls :: ls.flatten
def firstBad : List (List Tw) → Int
  | [] => 0
  | l :: ls => if (chk l).2 = 0 then firstBad ls else (chk l).2
/-- What Make says is wrong. -/
def mkErr (top : Tw) (ls : List (List Tw)) : Int := if firstBad ls = 0 then (if 2048 < (outOf top ls).length then 2 else (chk (outOf top ls)).2) else firstBad ls
theorem firstBad_at : ∀ {ls : List (List Tw)} {i : Nat} {l : List Tw}, (∀ j k, j < i → ls[j]? = some k → (chk k).2 = 0) → ls[i]? = some l → (chk l).2 ≠ 0 → firstBad ls = (chk l).2
  | [], i, l, _, h, _ => by simp at h
  | k :: ls, 0, l, _, h, hne => by
    have : k = l := by simpa using h
    subst this
    rw [firstBad, if_neg hne]
  | k :: ls, i + 1, l, hp, h, hne => by
    rw [firstBad, if_pos (hp 0 k (by omega) rfl)]
    exact firstBad_at (i := i) (fun j k hj hk => hp (j + 1) k (by omega) (by simpa using hk)) (by simpa using h) hne
theorem firstBad_no : ∀ {ls : List (List Tw)}, (∀ k ∈ ls, (chk k).2 = 0) → firstBad ls = 0
  | [], _ => rfl
  | k :: ls, h => by
    rw [firstBad, if_pos (h k (List.mem_cons_self ..))]
    exact firstBad_no (fun k hk => h k (List.mem_cons_of_mem _ hk))
theorem chk_short {l : List Tw} (h : (chk l).2 = 0) : l.length ≤ 2048 := (chk_fine.1 h).1
def MakePost (w : World) (top : Tw) (ls : List (List Tw)) (e : Ending) (w' : World) : Prop :=
  (∃ A' n' c', e = .returned (.tuple #[.slice A' n' c', .int .i64 (mkErr top ls)]) ∧ (mkErr top ls = 0 → n' = (outOf top ls).length ∧ w'.ownsRow w.heap.size 33 4 (.slice A' n' c') n' (wcells (outOf top ls))) ∧ (mkErr top ls ≠ 0 → A' = none ∧ n' = 0 ∧ c' = 0)) ∧ Below w.heap.size w w'
set_option maxRecDepth 100000 in
set_option maxHeartbeats 8000000 in
theorem make_any (top : Tw) (P : Option Addr) (c : Nat) (vs : List Value) (ls : List (List Tw)) (w : World) (htop : TwOk top) (hok : ∀ l ∈ ls, ∀ x ∈ l, TwOk x) (hP : RdP w P vs) (hF : RdF w vs ls) (hlen : vs.length ≤ 100000) (hbig : ∀ l ∈ ls, l.length ≤ 9223372036854775807) :
    Calls Try.prog 18 #[.agg (twCells top), .slice P vs.length c] w (MakePost w top ls) := by
  obtain ⟨n, hn⟩ : ∃ n, n = vs.length := ⟨_, rfl⟩
  rw [← hn] at hlen ⊢
  have HN := Lib.hid (And.intro hn (hn.trans hF.len))
  have HP := Lib.hid (And.intro hP hF)
  have HOK := Lib.hid (And.intro htop (And.intro hok hbig))
  obtain ⟨op, kids, int, text⟩ := top
  clear hn hP hF htop hok hbig
  generalize hQ : MakePost w ⟨op, kids, int, text⟩ ls = Q
  have HQ := Lib.hid hQ
  clear hQ
  have hbx := Blk.new w 33 (twCells ⟨op, kids, int, text⟩)
  have HBX := Lib.hid (And.intro hbx ((Below.refl w.heap.size w).alloc (Nat.le_refl _) (.cells (twCells ⟨op, kids, int, text⟩) 33)))
  clear hbx
  dsimp only [twCells] at HBX ⊢
  go_enter Try.func18, Try.ntmps18
  go_wp2_with fail
  generalize w.alloc (.cells #[.int .u8 (op : Nat), .int .i64 kids, .int .i64 int, .string text] 33) = w0 at *
  obtain ⟨bx, hbx⟩ : ∃ g, g = w.heap.size := ⟨_, rfl⟩
  have HBB := Lib.hid HBX.out.2
  have HB1 := Lib.hid HBX.out.1
  rw [← hbx] at HB1 ⊢
  have HBE := Lib.hid hbx
  clear hbx HBX
  go_loopw [6, 8, 9, 10, 18] (fun s6 s8 s9 s10 s18 wr => ∃ i : Nat, s18 = .int .i64 (i : Nat) ∧ s6 = .int .i64 (accL (ls.take i) 1 : Nat) ∧ i ≤ n ∧ (∀ j k, j < i → ls[j]? = some k → (chk k).2 = 0) ∧ accL (ls.take i) 1 ≤ 4096 ∧ Below w0.heap.size w0 wr) (fun _ _ _ _ s18 _ => n - (intOf s18).toNat)
  case atStart => exact ⟨0, rfl, rfl, by omega, fun j k hj => by omega, by simp [accL], Below.refl _ _⟩
  case round =>
    obtain ⟨i, rfl, rfl, hi, hpre, hacc, hb⟩ := hrel
    have HI := Lib.hid (And.intro hpre hb)
    obtain ⟨ac, hac⟩ : ∃ z, z = accL (ls.take i) 1 := ⟨_, rfl⟩
    rw [← hac] at hacc ⊢
    have HAC := Lib.hid hac
    clear hpre hb hac
    by_cases hlt : i < n
    · have hd1 : decide ((i : Int) < (n : Int)) = true := decide_eq_true (by omega)
      obtain ⟨v, hv⟩ : ∃ v, vs[i]? = some v := ⟨_, List.getElem?_eq_getElem (by rw [← HN.out.1]; exact hlt)⟩
      obtain ⟨l, hl⟩ : ∃ l, ls[i]? = some l := ⟨_, List.getElem?_eq_getElem (by rw [← HN.out.2]; exact hlt)⟩
      have hbw : Below w.heap.size w wr := HBB.out.trans (HI.out.2.mono HBB.out.size)
      obtain ⟨b, off, rfl, hbl, hat⟩ : ∃ b off, P = some ⟨b, off, none⟩ ∧ b < wr.heap.size ∧ ∀ (i : Nat) (v : Value), vs[i]? = some v → wr.cell? ⟨b, off + i, none⟩ = some v := (HP.out.1.below hbw).resolve_left (fun h => by rw [h] at hv; simp at hv)
      have c0 := hat i v hv
      obtain ⟨A1, c1, rfl, hrd, hA1, hcp⟩ := (HP.out.2.below hbw).at_ i v l hv hl
      have hmem := List.mem_of_getElem? hl
      have HC := Lib.hid (check_any A1 c1 l wr (HOK.out.2.1 l hmem) hrd (HOK.out.2.2 l hmem) hA1)
      have HL := Lib.hid hl
      obtain ⟨ll, hll⟩ : ∃ z, z = l.length := ⟨_, rfl⟩
      rw [← hll] at c0 HC
      have HLL := Lib.hid hll
      have hi0 : (0 : Int) ≤ (i : Int) := by omega
      have hin : (i : Int) < (n : Int) := by omega
      clear hat hv hl hrd hA1 hcp hmem hll hbl
      go_wp2_with fail
      refine HC.out.mono ?_
      rintro e w2 ⟨rfl, hb2⟩
      have HB2 := Lib.hid (HI.out.2.trans (hb2.mono HI.out.2.size))
      clear hb2
      by_cases her : (chk l).2 = 0
      · rw [her]
        have hl8 : ll ≤ 2048 := by rw [HLL.out]; exact chk_short her
        have HNX : Hid (accL (ls.take (i + 1)) 1 = if ac ≤ 2048 then ac + ll else ac) := by
          rw [List.take_add_one, HL.out]
          show accL (ls.take i ++ [l]) 1 = _
          rw [accL_snoc, HAC.out, HLL.out]
        have HPR : Hid (∀ j k, j < i + 1 → ls[j]? = some k → (chk k).2 = 0) := fun j k hj hk => by
          rcases Nat.lt_or_ge j i with h | h
          · exact HI.out.1 j k h hk
          · have : j = i := by omega
            subst this
            rw [HL.out] at hk
            injection hk with hk
            subst hk
            exact her
        clear her
        by_cases hac2 : ac ≤ 2048
        · have hd2 : decide ((ac : Int) ≤ 2048) = true := decide_eq_true (by omega)
          have HNX2 : Hid (accL (ls.take (i + 1)) 1 = ac + ll) := by have h := HNX.out; rw [if_pos hac2] at h; exact h
          go_wp2_with fail
          go_roundw
          case rel => exact ⟨i + 1, by go_num, by rw [HNX2.out]; rfl, by omega, HPR.out, by rw [HNX2.out]; omega, HB2.out⟩
          case measure => simp [intOf]; omega
        · have hd2 : decide ((ac : Int) ≤ 2048) = false := decide_eq_false (by omega)
          have HNX2 : Hid (accL (ls.take (i + 1)) 1 = ac) := by have h := HNX.out; rw [if_neg hac2] at h; exact h
          go_wp2_with fail
          go_roundw
          case rel => exact ⟨i + 1, by go_num, by rw [HNX2.out], by omega, HPR.out, by rw [HNX2.out]; omega, HB2.out⟩
          case measure => simp [intOf]; omega
      · have hne : ((chk l).2 != 0) = true := by rw [bne_iff_ne]; exact her
        have HE : Hid (mkErr ⟨op, kids, int, text⟩ ls = (chk l).2 ∧ mkErr ⟨op, kids, int, text⟩ ls ≠ 0) := by
          have h := firstBad_at HI.out.1 HL.out her
          unfold mkErr
          rw [h, if_neg her]
          exact ⟨rfl, her⟩
        have HBF := Lib.hid (HBB.out.trans (HB2.out.mono HBB.out.size))
        generalize (chk l).2 = er at *
        clear her
        go_wp2_with fail
        rw [← HQ.out]
        refine ⟨⟨none, 0, 0, by rw [HE.out.1]; rfl, fun h => absurd h HE.out.2, fun _ => ⟨rfl, rfl, rfl⟩⟩, HBF.out⟩
    · have hd1 : decide ((i : Int) < (n : Int)) = false := decide_eq_false (by omega)
      have hin : i = n := by omega
      have hls : ls.take i = ls := List.take_of_length_le (by have := HN.out; omega)
      have HFB := Lib.hid (firstBad_no (ls := ls) (fun k hk => by
        obtain ⟨j, hj⟩ := List.mem_iff_getElem?.1 hk
        exact HI.out.1 j k (by have := (List.getElem?_eq_some_iff.1 hj).1; have := HN.out; omega) hj))
      have HACC := Lib.hid (accL_sum ls 1)
      rw [hls] at HAC
      rw [← HAC.out] at HACC
      have HLN : Hid ((outOf ⟨op, kids, int, text⟩ ls).length = 1 + ls.flatten.length) := by unfold outOf; rw [List.length_cons]; exact Nat.add_comm _ _
      clear hin hls
      by_cases hlong : 2048 < ac
      · have hd2 : decide ((2048 : Int) < (ac : Int)) = true := decide_eq_true (by omega)
        have HE := Lib.hid (show mkErr ⟨op, kids, int, text⟩ ls = 2 from by
          unfold mkErr
          rw [if_pos HFB.out, if_pos (by rw [HLN.out]; have := HACC.out; omega)])
        have HBF := Lib.hid (HBB.out.trans (HI.out.2.mono HBB.out.size))
        go_wp2_with fail
        rw [← HQ.out]
        exact ⟨⟨none, 0, 0, by rw [HE.out]; rfl, fun h => absurd (HE.out.symm.trans h) (by decide), fun _ => ⟨rfl, rfl, rfl⟩⟩, HBF.out⟩
      · have hd2 : decide ((2048 : Int) < (ac : Int)) = false := decide_eq_false (by omega)
        have hsum : 1 + ls.flatten.length ≤ 2048 := HACC.out.1 (by omega)
        have HSUM := Lib.hid hsum
        have hb1 := HB1.out.below HI.out.2 HB1.out.lt
        have y0 : wr.cell? ⟨bx, 0, none⟩ = some (.int .u8 (op : Nat)) := hb1.cell 0
        have y1 : wr.cell? ⟨bx, 1, none⟩ = some (.int .i64 kids) := hb1.cell 1
        have y2 : wr.cell? ⟨bx, 2, none⟩ = some (.int .i64 int) := hb1.cell 2
        have y3 : wr.cell? ⟨bx, 3, none⟩ = some (.string text) := hb1.cell 3
        have yf : wr.frozen? ⟨bx, 1, none⟩ = false := hb1.frozen 1
        have hbx2 : bx < wr.heap.size := hb1.lt
        clear hb1 hsum
        go_wp2_with fail
        have HL0 : Hid (((wr.setCell ⟨bx, 1, none⟩ (.int .i64 (n : Nat))).alloc (.cells #[.int .u8 (op : Nat), .int .i64 (n : Nat), .int .i64 int, .string text] 33)).ownsRow w.heap.size 33 4 (.slice (some ⟨wr.heap.size, 0, none⟩) 1 1) 1 (wcells (topOf ⟨op, kids, int, text⟩ ls :: (ls.take 0).flatten)) ∧ Below w.heap.size w ((wr.setCell ⟨bx, 1, none⟩ (.int .i64 (n : Nat))).alloc (.cells #[.int .u8 (op : Nat), .int .i64 (n : Nat), .int .i64 int, .string text] 33))) := by
          have hbw : Below w.heap.size w wr := HBB.out.trans (HI.out.2.mono HBB.out.size)
          have hbw2 : Below w.heap.size w (wr.setCell ⟨bx, 1, none⟩ (.int .i64 (n : Nat))) := hbw.setCell (p := ⟨bx, 1, none⟩) (by rw [HBE.out]; exact Nat.le_refl _) _
          have hsz : (wr.setCell ⟨bx, 1, none⟩ (.int .i64 (n : Nat))).heap.size = wr.heap.size := by simp [World.setCell]
          have hnew := heap_alloc_new (wr.setCell ⟨bx, 1, none⟩ (.int .i64 (n : Nat))) (.cells #[.int .u8 (op : Nat), .int .i64 (n : Nat), .int .i64 int, .string text] 33)
          rw [hsz] at hnew
          have htp : wcells (topOf ⟨op, kids, int, text⟩ ls :: (ls.take 0).flatten) = [.int .u8 (op : Nat), .int .i64 (n : Nat), .int .i64 int, .string text] := by
            rw [HN.out.2]; rfl
          rw [htp]
          exact ⟨⟨rfl, .inr ⟨wr.heap.size, 1, _, rfl, hbw.size, hnew, Nat.le_refl _, by decide, rfl, rfl⟩⟩, hbw2.alloc (by rw [hsz]; exact hbw.size) _⟩
        clear y0 y1 y2 y3 yf hbx2
        obtain ⟨wa, hwa⟩ : ∃ x, x = wr := ⟨_, rfl⟩
        subst hwa
        generalize (wa.setCell ⟨bx, 1, none⟩ (.int .i64 (n : Nat))).alloc (.cells #[.int .u8 (op : Nat), .int .i64 (n : Nat), .int .i64 int, .string text] 33) = w5 at *
        generalize wa.heap.size = g5 at *
        go_loopw [11, 13, 46] (fun s11 s13 s46 wl => ∃ (j m c3 : Nat) (A3 : Option Addr), s11 = .slice A3 m c3 ∧ s46 = .int .i64 (j : Nat) ∧ j ≤ n ∧ m = 1 + (ls.take j).flatten.length ∧ wl.ownsRow w.heap.size 33 4 (.slice A3 m c3) m (wcells (topOf ⟨op, kids, int, text⟩ ls :: (ls.take j).flatten)) ∧ Below w.heap.size w wl) (fun _ _ s46 _ => n - (intOf s46).toNat)
        case atStart => exact ⟨0, 1, 1, some ⟨g5, 0, none⟩, rfl, rfl, by omega, by simp, HL0.out.1, HL0.out.2⟩
        case round =>
          clear HL0
          obtain ⟨j, m, c3, A3, rfl, rfl, hj, hm, ho, hb⟩ := hrel
          have HO := Lib.hid (And.intro hm (And.intro ho hb))
          have hm8 : m ≤ 2048 := by
            have h1 := HSUM.out
            have h2 : (ls.take j).flatten.length ≤ ls.flatten.length := by
              conv => rhs; rw [← List.take_append_drop j ls, List.flatten_append, List.length_append]
              omega
            omega
          clear hm ho hb
          by_cases hjn : j < n
          · have hd3 : decide ((j : Int) < (n : Int)) = true := decide_eq_true (by omega)
            obtain ⟨v, hv⟩ : ∃ v, vs[j]? = some v := ⟨_, List.getElem?_eq_getElem (by rw [← HN.out.1]; exact hjn)⟩
            obtain ⟨l, hl⟩ : ∃ l, ls[j]? = some l := ⟨_, List.getElem?_eq_getElem (by rw [← HN.out.2]; exact hjn)⟩
            obtain ⟨b, off, rfl, hbl, hat⟩ : ∃ b off, P = some ⟨b, off, none⟩ ∧ b < wr.heap.size ∧ ∀ (i : Nat) (v : Value), vs[i]? = some v → wr.cell? ⟨b, off + i, none⟩ = some v := (HP.out.1.below HO.out.2.2).resolve_left (fun h => by rw [h] at hv; simp at hv)
            have c0 := hat j v hv
            obtain ⟨A1, c1, rfl, hrd, hA1, hcp⟩ := (HP.out.2.below HO.out.2.2).at_ j v l hv hl
            have hll8 : l.length ≤ 2048 := chk_short (HI.out.1 j l (by have := (List.getElem?_eq_some_iff.1 hl).1; have := HN.out; omega) hl)
            have HRD := Lib.hid hrd.reads
            have HTK := Lib.hid (show (ls.take (j + 1)).flatten = (ls.take j).flatten ++ l from by rw [List.take_add_one, hl]; simp)
            obtain ⟨ll, hll⟩ : ∃ z, z = l.length := ⟨_, rfl⟩
            rw [← hll] at c0 HRD hll8
            have HLL := Lib.hid hll
            have hj0 : (0 : Int) ≤ (j : Int) := by omega
            have hjn2 : (j : Int) < (n : Int) := by omega
            have HBD : Hid (m + ll ≤ 100000) := (by omega : m + ll ≤ 100000)
            clear hat hv hl hrd hA1 hcp hll hbl
            go_wp2_with (at_builtin; refine wpList_app_twigs rfl (.tmp 50) (.tmp 51) rfl w.heap.size m ll c3 c1 wr.heap.size A3 A1 (topOf ⟨op, kids, int, text⟩ ls :: (ls.take j).flatten) l rfl HO.out.2.1 rfl HRD.out HBD.out HO.out.2.2.size ?_; intro A4 c4 w6 ho6 hg6; have H6 := Lib.hid (And.intro ho6 (HO.out.2.2.grown hg6 HO.out.2.2.size (fun r hr => (World.ownsRow.lt HO.out.2.1 r hr).1))); clear ho6 hg6)
            go_roundw
            case rel => exact ⟨j + 1, m + ll, c4, A4, rfl, by go_num, by omega, by rw [HTK.out, List.length_append, ← HLL.out, HO.out.1]; omega, by rw [HTK.out]; exact H6.out.1, H6.out.2⟩
            case measure => simp [intOf]; omega
          · have hd3 : decide ((j : Int) < (n : Int)) = false := decide_eq_false (by omega)
            have HFIN : Hid (m = (outOf ⟨op, kids, int, text⟩ ls).length ∧ wr.ownsRow w.heap.size 33 4 (.slice A3 m c3) m (wcells (outOf ⟨op, kids, int, text⟩ ls))) := by
              have h1 := HO.out.1
              have h2 := HO.out.2.1
              have h3 : ls.take j = ls := List.take_of_length_le (by have := HN.out; omega)
              rw [h3] at h1 h2
              exact ⟨by rw [HLN.out]; exact h1, h2⟩
            have HCK : Hid (Calls Try.prog 20 #[.slice A3 m c3] wr fun e w' => e = .returned (.tuple #[.int .i64 (chk (outOf ⟨op, kids, int, text⟩ ls)).1, .int .i64 (chk (outOf ⟨op, kids, int, text⟩ ls)).2]) ∧ Below wr.heap.size wr w') := by
              have h := check_any A3 c3 (outOf ⟨op, kids, int, text⟩ ls) wr (fun x hx => by
                unfold outOf at hx
                rcases List.mem_cons.1 hx with rfl | hx
                · have h0 := HOK.out.1
                  have := HN.out.2
                  exact ⟨h0.1, by unfold topOf; dsimp only; omega, by unfold topOf; dsimp only; omega, h0.2.2.2.1, h0.2.2.2.2.1, h0.2.2.2.2.2⟩
                · obtain ⟨l, hl1, hl2⟩ := List.mem_flatten.1 hx
                  exact HOK.out.2.1 l hl1 x hl2) (RdW.of_own HFIN.out.2 HFIN.out.1) (by rw [← HFIN.out.1]; omega) (fun a ha _ => by
                  have h1 := HFIN.out.2
                  rw [ha] at h1
                  exact (World.ownsRow.lt h1 a.block rfl).2)
              rw [← HFIN.out.1] at h
              exact h
            have HME := Lib.hid (show mkErr ⟨op, kids, int, text⟩ ls = (chk (outOf ⟨op, kids, int, text⟩ ls)).2 from by
              unfold mkErr
              rw [if_pos HFB.out, if_neg (by rw [HLN.out]; have := HSUM.out; omega)])
            obtain ⟨ck, hck⟩ : ∃ z, z = chk (outOf ⟨op, kids, int, text⟩ ls) := ⟨_, rfl⟩
            rw [← hck] at HCK HME
            clear hck
            obtain ⟨ca, ce⟩ := ck
            dsimp only at HCK HME
            go_wp2_with fail
            refine HCK.out.mono ?_
            rintro e w7 ⟨rfl, hb7⟩
            have HB7 := Lib.hid (HO.out.2.2.trans (hb7.mono HO.out.2.2.size))
            have HOW7 := Lib.hid (own_below HFIN.out.2 hb7)
            clear hb7
            by_cases hce : ce = 0
            · subst hce
              go_wp2_with fail
              rw [← HQ.out]
              exact ⟨⟨A3, m, c3, by rw [HME.out]; rfl, fun _ => ⟨HFIN.out.1, HOW7.out⟩, fun h => absurd HME.out h⟩, HB7.out⟩
            · have hne : (ce != 0) = true := by rw [bne_iff_ne]; exact hce
              have HCE := Lib.hid hce
              clear hce
              go_wp2_with fail
              rw [← HQ.out]
              exact ⟨⟨none, 0, 0, by rw [HME.out]; rfl, fun h => absurd (HME.out.symm.trans h) HCE.out, fun _ => ⟨rfl, rfl, rfl⟩⟩, HB7.out⟩
end Go.Proofs.Ytpdofcjgpomehaa
