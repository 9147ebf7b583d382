/- The iterator of frames. -/
import Derived.Test.YtmoplkmfpobhaaaSpl
import Derived.Test.YtmoplkmfpobhaaaSeq
import Derived.Shelf.Abstract
import Derived.Shelf.RegionOpen
import Derived.OwnWalkIn
import Derived.TacticsInMore
import Derived.LoopNIn
import Derived.LoopIn
import Derived.Test.YtmoplkmfpobhaaaMix
namespace Go.Proofs.Ytmoplkmfpobhaaa
open Go.RowKit Go.Shelf
attribute [local go_sem] Oper.semAt_some

/-- Rows below B, other than b2, lie as they lay. -/
def KeepsB (B b2 : Nat) (W W' : World) : Prop := W.heap.size ≤ W'.heap.size ∧ ∀ k cs t fr, k < B → k ≠ b2 → W.heap[k]? = some (.cells cs t fr) → W'.heap[k]? = some (.cells cs t fr)
theorem KeepsB.trans {B b2 : Nat} {X Y Z : World} (h : KeepsB B b2 X Y) (k : KeepsB B b2 Y Z) : KeepsB B b2 X Z :=
  ⟨Nat.le_trans h.1 k.1, fun i cs t fr h1 h2 h3 => k.2 i cs t fr h1 h2 (h.2 i cs t fr h1 h2 h3)⟩
theorem KeepsB.putObj {B b2 : Nat} (W : World) (l : Nat) (o' : Obj) (h : B ≤ l) : KeepsB B b2 W (W.putObj l o') :=
  ⟨by simp, fun k cs t fr h1 _ h3 => (World.putObj_heap_other (by omega)).trans h3⟩
theorem KeepsB.of_grown {B b2 : Nat} {W W' : World} {row : Option Nat} (hg : W.grownBy W' row) (hr : ∀ r, row = some r → r = b2 ∨ B ≤ r) : KeepsB B b2 W W' :=
  ⟨hg.size, fun k cs t fr h1 h2 h3 => (hg.block k (Array.getElem?_eq_some_iff.1 h3).1 (fun e => by rcases hr k e.symm with h | h <;> omega)).trans h3⟩
theorem Blk.keepsB {B b2 : Nat} {W W' : World} {g : Nat} {t : TypeId} {cs : Array Value} (h : Blk W g t cs) (hk : KeepsB B b2 W W') (h1 : g < B) (h2 : g ≠ b2) : Blk W' g t cs := hk.2 g cs t _ h1 h2 h
theorem Reads.keepsB {B b2 B' : Nat} {W W' : World} {size n : Nat} {A : Option Addr} {xs : List Value} (h : Reads W B' size A n xs) (hk : KeepsB B b2 W W') (h1 : B' ≤ b2) (h2 : B' ≤ B) : Reads W' B' size A n xs := by
  refine ⟨h.1, fun hn => ?_⟩
  obtain ⟨ad, e, hb, hc⟩ := h.2 hn
  refine ⟨ad, e, hb, fun j u hu => ?_⟩
  have := hc j u hu
  have hbl : (ad.add j).block = ad.block := block_of_add ad j
  unfold World.cell? at this ⊢
  cases hh : W.heap[(ad.add j).block]? with
  | none => rw [hh] at this; cases this
  | some o =>
    cases o with
    | cells cs t fr => rw [hk.2 _ cs t fr (by rw [hbl]; omega) (by rw [hbl]; omega) hh]; rw [hh] at this; exact this
    | _ => rw [hh] at this; cases this

def encB (x : Value × List UInt8) : Array Value := #[x.1]
def XB (base : Nat) (x : Value × List UInt8) (W : World) : Prop := Bod W base x.1 x.2
def cellN (w : World) (b : Nat) : Nat := match w.cell? ⟨b, 0, none⟩ with | some (.int _ k) => k.toNat | _ => 0
theorem cellN_blk {w : World} {b : Nat} {t : TypeId} {k : IntKind} {p : Nat} (h : Blk w b t #[.int k (p : Nat)]) : cellN w b = p := by
  unfold cellN; rw [h.cell 0]; simp

def SF (b3 b4 : Nat) (l : List UInt8) (xs : List (Value × List UInt8)) (W : World) : Prop :=
  xs.map (·.2) = (spl l).1 ∧ Blk W b3 3 #[.int .i64 ((spl l).2.1 : Nat)] ∧ Blk W b4 25 #[.int .i64 ((spl l).2.2 : Nat)]

set_option maxHeartbeats 2000000 in
theorem frames_seq (A : Option Addr) (n cap : Nat) (l : List UInt8) (B b2 b3 b4 b5 b6 b7 : Nat) (w : World) (hl : l.length = n) (hn : n ≤ 70000) (hc : n ≤ cap) (hr : Reads w B 1 A n (bcells l))
    (o2 : B ≤ b2) (o3 : b2 < b3) (o4 : b3 < b4) (o5 : b4 < b5) (o6 : b5 < b6) (o7 : b6 < b7) (o8 : b7 < w.heap.size)
    (h3 : Blk w b3 3 #[.int .i64 0]) (h4 : Blk w b4 25 #[.int .i64 0]) (h5 : Blk w b5 22 #[.slice A n cap]) (h6 : Blk w b6 60 #[.pointer (some ⟨b3, 0, none⟩)]) (h7 : Blk w b7 61 #[.pointer (some ⟨b4, 0, none⟩)]) (m : Nat) :
    SeqX Fence.wide m Try.prog 32 #[] #[.pointer (some ⟨b6, 0, none⟩), .pointer (some ⟨b5, 0, none⟩), .pointer (some ⟨b7, 0, none⟩)] encB (KeepsB w.heap.size b2) (XB w.heap.size) (SF b3 b4 l) (fun _ _ => True) 70000 (fun k => k = b3 ∨ k = b4) w := by
  intro l0 J Jx W hW hJ hJx hY h0
  have HR := Lib.hid (hr.below (hW.mono (by omega)))
  have H3 := Lib.hid (h3.below hW (by omega))
  have H4 := Lib.hid (h4.below hW (by omega))
  have H5 := Lib.hid (h5.below hW (by omega))
  have H6 := Lib.hid (h6.below hW (by omega))
  have H7 := Lib.hid (h7.below hW (by omega))
  have HL := Lib.hid hl
  have hsz := hW.size
  clear hr h3 h4 h5 h6 h7 hl
  refine callsIn_of_wp Try.func32 rfl trivial ?_ rfl
  simp only [Try.ntmps32, List.size_toArray, List.length_cons, List.length_nil, Nat.reduceAdd, Nat.reduceSub, Array.replicate_succ, Array.replicate_zero, List.push_toArray, List.append_toArray, List.nil_append, List.cons_append]
  gi_wp2
  gi_loopw [5] (fun _ wr => ∃ (p : Nat) (xs : List (Value × List UInt8)), J xs wr ∧ SplAt l p (xs.map (·.2)) ∧ Blk wr b3 3 #[.int .i64 (p : Nat)] ∧ (Blk wr b4 25 #[.int .i64 0] ∧ Blk wr b5 22 #[.slice A n cap] ∧ Blk wr b6 60 #[.pointer (some ⟨b3, 0, none⟩)] ∧ Blk wr b7 61 #[.pointer (some ⟨b4, 0, none⟩)] ∧ Reads wr B 1 A n (bcells l) ∧ w.heap.size ≤ wr.heap.size)) (fun _ wr => n - cellN wr b3)
  case atStart => exact ⟨0, [], h0, splAt_zero l, H3.out, H4.out, H5.out, H6.out, H7.out, HR.out, hsz⟩
  case round =>
    obtain ⟨p, xs, hj, hs, g3, g4, g5, g6, g7, gr, gsz⟩ := hrel
    have c3 : wr.cell? ⟨b3, 0, none⟩ = some (.int .i64 (p : Nat)) := g3.cell 0
    have c5 : wr.cell? ⟨b5, 0, none⟩ = some (.slice A n cap) := g5.cell 0
    have c6 : wr.cell? ⟨b6, 0, none⟩ = some (.pointer (some ⟨b3, 0, none⟩)) := g6.cell 0
    have c7 : wr.cell? ⟨b7, 0, none⟩ = some (.pointer (some ⟨b4, 0, none⟩)) := g7.cell 0
    have HG := Lib.hid (And.intro g3 (And.intro g4 (And.intro g5 (And.intro g6 (And.intro g7 gr)))))
    have HCN := Lib.hid (cellN_blk g3)
    have HJ := Lib.hid hj
    have HS := Lib.hid hs
    have hpn : p ≤ n := by rw [← HL.out]; exact hs.1
    clear g3 g4 g5 g6 g7 gr hj hs
    by_cases hlt : p < n
    · have hcp : ¬ cap = p := by omega
      obtain ⟨b, off, rfl, -, -⟩ := HR.out.bytes (by omega)
      gi_wp2
      refine wpIn_wide.2 ?_
      go_quiet (fail)
      go_wp2_with fail
      gi_wp2
      refine wpIn_wide.2 ?_
      replace c3 : (wr.drewN nq).cell? ⟨b3, 0, none⟩ = some (.int .i64 (p : Nat)) := c3
      replace c5 : (wr.drewN nq).cell? ⟨b5, 0, none⟩ = some (.slice (some ⟨b, off, none⟩) n cap) := c5
      replace c6 : (wr.drewN nq).cell? ⟨b6, 0, none⟩ = some (.pointer (some ⟨b3, 0, none⟩)) := c6
      replace c7 : (wr.drewN nq).cell? ⟨b7, 0, none⟩ = some (.pointer (some ⟨b4, 0, none⟩)) := c7
      replace HG : Hid (Blk (wr.drewN nq) b3 3 #[.int .i64 (p : Nat)] ∧ Blk (wr.drewN nq) b4 25 #[.int .i64 0] ∧ Blk (wr.drewN nq) b5 22 #[.slice (some ⟨b, off, none⟩) n cap] ∧ Blk (wr.drewN nq) b6 60 #[.pointer (some ⟨b3, 0, none⟩)] ∧ Blk (wr.drewN nq) b7 61 #[.pointer (some ⟨b4, 0, none⟩)] ∧ Reads (wr.drewN nq) B 1 (some ⟨b, off, none⟩) n (bcells l)) := HG
      replace HJ := Lib.hid (hJ _ _ _ none HJ.out (only_drewN (World.grownBy.refl wr none) nq) (fun r e => by cases e))
      have gsz2 : w.heap.size ≤ (wr.drewN nq).heap.size := gsz
      generalize hwq : wr.drewN nq = wq at *
      clear hwq gsz
      refine wp_region_mix [(0, false), (1, false), (2, false), (3, false), (4, false), (5, true), (6, false), (7, false), (8, false), (9, false), (10, false), (11, false), (12, false)] 5 (fun W => ∃ n : Nat, W = wq.drewN n) (by kernel_rfl) rfl (by kernel_rfl) ⟨1, rfl⟩ ?_
      refine wpMix_q rfl rfl rfl ?_; intro K hK
      go_big_quiet_op
      go_big_quiet_on
      refine wpMix_q rfl rfl rfl ?_; intro K hK
      go_big_quiet_op
      go_big_quiet_on
      refine wpMix_q rfl rfl rfl ?_; intro K hK
      go_big_quiet_op
      go_big_quiet_on
      refine wpMix_q rfl rfl rfl ?_; intro K hK
      go_big_quiet_op
      go_big_quiet_on
      refine wpMix_q rfl rfl rfl ?_; intro K hK
      go_big_quiet_op
      go_big_quiet_on
      refine wpMix_act false rfl rfl rfl ?_; intro K hK
      go_simp
      have HRp : Hid (Reads wq.drew wq.drew.heap.size 1 (some ⟨b, off + p, none⟩) (n - p) (bcells (l.drop p))) := by
        have h := (HG.out.2.2.2.2.2.sub p n (by omega) (Nat.le_refl _)).more (B' := wq.heap.size) (by omega)
        rwa [List.take_of_length_le (by rw [HL.out]; exact Nat.le_refl _)] at h
      refine (read_any _ (n - p) (cap - p) (l.drop p) wq.drew (by rw [List.length_drop, HL.out]) (by omega) (by omega) HRp.out).mono ?_
      rintro e w2 ⟨v2, rfl, A2, c2, rfl, ho2, hb2⟩
      refine hK _ _ (fun h => by cases h) ?_
      clear hK K
      repeat (refine wpMix_p rfl rfl rfl ?_; intro K hK; go_big_quiet_op; go_big_quiet_on)
      refine wpMix_end ?_
      have hz : wq.heap.size ≤ w2.heap.size := by have := hb2.size; simpa using this
      have k3 := HG.out.1.drew.below hb2 (by simp; omega)
      have k4 := HG.out.2.1.drew.below hb2 (by simp; omega)
      have k5 := HG.out.2.2.1.drew.below hb2 (by simp; omega)
      have k6 := HG.out.2.2.2.1.drew.below hb2 (by simp; omega)
      have k7 := HG.out.2.2.2.2.1.drew.below hb2 (by simp; omega)
      have kr := HG.out.2.2.2.2.2.drew.below (hb2.mono (by simp; omega))
      have kj := hJ _ _ _ none (hJ _ _ _ none HJ.out (only_drew (World.grownBy.refl wq none)) (fun r e => by cases e)) (only_of_below hb2 none) (fun r e => by cases e)
      have HO2 := Lib.hid (own_mono ho2 (base' := w.heap.size) (by simp; omega))
      have HLK := Lib.hid (used_pos (l := l.drop p))
      have HNX := Lib.hid (HS.out.next (by rw [HL.out]; exact hlt))
      have HER := Lib.hid (HS.out.err (by rw [HL.out]; exact hlt))
      have HDL := Lib.hid (show (l.drop p).length = n - p by rw [List.length_drop, HL.out])
      have hle := (lookL_le (l.drop p) (by rw [HDL.out]; omega)).2.2
      have hxl : 12 * xs.length ≤ n := by have := HS.out.2.2; rw [List.length_map] at this; omega
      clear ho2 hb2 c3 c5 c6 c7 HG HJ HS HRp hcp
      generalize (lookL (l.drop p)).2.2 = er at *
      generalize bodyL (l.drop p) = bd at *
      generalize usedL (l.drop p) = us at *
      have c3 : w2.cell? ⟨b3, 0, none⟩ = some (.int .i64 (p : Nat)) := k3.cell 0
      have c4 : w2.cell? ⟨b4, 0, none⟩ = some (.int .i64 0) := k4.cell 0
      have c6 : w2.cell? ⟨b6, 0, none⟩ = some (.pointer (some ⟨b3, 0, none⟩)) := k6.cell 0
      have c7 : w2.cell? ⟨b7, 0, none⟩ = some (.pointer (some ⟨b4, 0, none⟩)) := k7.cell 0
      have f3 := k3.frozen 0
      have f4 := k4.frozen 0
      have HK := Lib.hid (And.intro k3 (And.intro k4 (And.intro k5 (And.intro k6 (And.intro k7 (And.intro kr kj))))))
      have n34 : b3 ≠ b4 := by omega
      have n64 : b6 ≠ b4 := by omega
      have n63 : b6 ≠ b3 := by omega
      have n74 : b7 ≠ b4 := by omega
      have n73 : b7 ≠ b3 := by omega
      clear k3 k4 k5 k6 k7 kr kj
      by_cases he : er = 0
      · subst he
        obtain ⟨hul0, hul⟩ := HLK.out rfl
        rw [HDL.out] at hul
        have HNX2 := Lib.hid (HNX.out rfl)
        obtain ⟨k3, k4, k5, k6, k7, kr, kj⟩ := HK.out
        have hg1 := only_setCell (World.grownBy.refl w2 (some b4)) (p := ⟨b4, 0, none⟩) (Or.inl rfl) (.int .i64 0)
        have hg2 := only_setCell (World.grownBy.refl (w2.setCell ⟨b4, 0, none⟩ (.int .i64 0)) (some b3)) (p := ⟨b3, 0, none⟩) (Or.inl rfl) (.int .i64 ((p : Int) + (us : Int)))
        have kj2 := hJ _ _ _ (some b3) (hJ _ _ _ (some b4) kj hg1 (fun r e => by cases e; exact .inr rfl)) hg2 (fun r e => by cases e; exact .inl rfl)
        have HB3 := Lib.hid (show Blk ((w2.setCell ⟨b4, 0, none⟩ (.int .i64 0)).setCell ⟨b3, 0, none⟩ (.int .i64 ((p : Int) + (us : Int)))) b3 3 #[.int .i64 ((p + us : Nat) : Int)] from (k3.far n34 _).set_ 0 _)
        have HB4 := Lib.hid (show Blk ((w2.setCell ⟨b4, 0, none⟩ (.int .i64 0)).setCell ⟨b3, 0, none⟩ (.int .i64 ((p : Int) + (us : Int)))) b4 25 #[.int .i64 0] from (k4.set_ 0 _).far n34.symm _)
        have HB5 := Lib.hid ((k5.far (p := ⟨b4, 0, none⟩) (by show b5 ≠ b4; omega) (.int .i64 0)).far (p := ⟨b3, 0, none⟩) (by show b5 ≠ b3; omega) (.int .i64 ((p : Int) + (us : Int))))
        have HB6 := Lib.hid ((k6.far (p := ⟨b4, 0, none⟩) n64 (.int .i64 0)).far (p := ⟨b3, 0, none⟩) n63 (.int .i64 ((p : Int) + (us : Int))))
        have HB7 := Lib.hid ((k7.far (p := ⟨b4, 0, none⟩) n74 (.int .i64 0)).far (p := ⟨b3, 0, none⟩) n73 (.int .i64 ((p : Int) + (us : Int))))
        have HBR := Lib.hid ((kr.setCell (p := ⟨b4, 0, none⟩) (by show B ≤ b4; omega) (.int .i64 0)).setCell (p := ⟨b3, 0, none⟩) (by show B ≤ b3; omega) (.int .i64 ((p : Int) + (us : Int))))
        have hx : XB w.heap.size (.slice A2 bd.length c2, bd) ((w2.setCell ⟨b4, 0, none⟩ (.int .i64 0)).setCell ⟨b3, 0, none⟩ (.int .i64 ((p : Int) + (us : Int)))) :=
          ⟨A2, c2, rfl, ownsRow_setCell_below (ownsRow_setCell_below HO2.out (a := ⟨b4, 0, none⟩) (by show b4 < w.heap.size; omega) _) (a := ⟨b3, 0, none⟩) (by show b3 < w.heap.size; omega) _⟩
        obtain ⟨fn, tmps, assign, body, hy, hR⟩ := hY xs (.slice A2 bd.length c2, bd) _ kj2 hx (by omega)
        dsimp only [encB] at hy hR
        have HRR := Lib.hid hR
        have hsz3 : w2.heap.size = ((w2.setCell ⟨b4, 0, none⟩ (.int .i64 0)).setCell ⟨b3, 0, none⟩ (.int .i64 ((p : Int) + (us : Int)))).heap.size := by simp [World.setCell]
        have HSZ := Lib.hid hsz3
        clear k3 k4 k5 k6 k7 kr kj HK HNX HER HLK hg1 hg2 kj2 hx hR hsz3
        go_wp2_with fail
        gi_wp2
        refine ⟨fun h => by simp [Fence.wide] at h, HRR.out.mono ?_⟩
        rintro e W' (⟨rfl, hJ', hk'⟩ | ⟨rfl, hJx', hk'⟩)
        · gi_wp2
          go_roundw
          case rel => exact ⟨p + us, xs ++ [(.slice A2 bd.length c2, bd)], hJ', by rw [List.map_append]; exact HNX2.out, HB3.out.keepsB hk' (by omega) (by omega), HB4.out.keepsB hk' (by omega) (by omega), HB5.out.keepsB hk' (by omega) (by omega), HB6.out.keepsB hk' (by omega) (by omega), HB7.out.keepsB hk' (by omega) (by omega), HBR.out.keepsB hk' o2 (by omega), by have := hk'.1; rw [← HSZ.out] at this; omega⟩
          case measure =>
            rw [cellN_blk (HB3.out.keepsB hk' (by omega) (by omega)), HCN.out]
            omega
        · gi_wp2
          refine bodyPost_ret (results_none rfl _ _ _) rfl ?_
          exact ⟨⟨_, rfl⟩, .inr ⟨_, trivial, hJx'⟩⟩
      · have hne : ((er : Int) != 0) = true := by rw [bne_iff_ne]; omega
        have HV := Lib.hid (HER.out he)
        clear he
        go_wp2_with fail
        gi_wp2
        refine bodyPost_ret (results_none rfl _ _ _) rfl ?_
        obtain ⟨k3, k4, k5, k6, k7, kr, kj⟩ := HK.out
        exact ⟨⟨_, rfl⟩, .inl ⟨xs, ⟨by rw [HV.out], by rw [HV.out]; exact k3.far n34 _, by rw [HV.out]; exact k4.set_ 0 _⟩, hJ _ _ _ (some b4) kj (only_setCell (World.grownBy.refl w2 _) (p := ⟨b4, 0, none⟩) (Or.inl rfl) _) (fun r e => by cases e; exact .inr rfl)⟩⟩
    · have hpn2 : p = l.length := by rw [HL.out]; omega
      have HV := Lib.hid (show spl l = (xs.map (·.2), l.length, 0) by have h := HS.out; rw [hpn2] at h; exact h.done)
      have HPN := Lib.hid hpn2
      clear hpn2
      gi_wp2
      refine wpIn_wide.2 ?_
      go_quiet (fail)
      go_wp2_with fail
      gi_wp2
      go_end0
      obtain ⟨g3, g4, g5, g6, g7, gr⟩ := HG.out
      exact ⟨⟨_, rfl⟩, .inl ⟨xs, ⟨by rw [HV.out], by rw [HV.out, ← HPN.out]; exact g3, by rw [HV.out]; exact g4⟩, hJ _ _ _ none HJ.out (only_drewN (World.grownBy.refl wr none) nq) (fun r e => by cases e)⟩⟩
end Go.Proofs.Ytmoplkmfpobhaaa
