/- Contract of the net's do. -/
import Derived.Test.YtjodglepaeomiaaNrn
namespace Go.Proofs.Ytjodglepaeomiaa
open Go.RowKit

theorem rem_in {who : Int} {n : Nat} (h : 0 < n) (hn : n ≤ 90000) : ∃ i : Nat, i < n ∧ wrap64 ((IntKind.u64.wrap who).tmod (n : Int)) = (i : Int) := by
  have h1 : (0 : Int) ≤ IntKind.u64.wrap who := by
    simp only [IntKind.wrap, IntKind.signed, IntKind.bits]
    exact Int.emod_nonneg _ (by decide)
  have h2 := Int.tmod_nonneg (n : Int) h1
  have h3 := Int.tmod_lt_of_pos (IntKind.u64.wrap who) (show (0 : Int) < (n : Int) by omega)
  refine ⟨((IntKind.u64.wrap who).tmod (n : Int)).toNat, by omega, ?_⟩
  rw [Int.toNat_of_nonneg h2]
  generalize (IntKind.u64.wrap who).tmod (n : Int) = z at *
  unfold wrap64; omega
theorem new_fine {w w' : World} {e : Ending} {i n : Nat} {t v : Int} {L : List Ent} (h : NewPost w (i : Nat) (n : Nat) t v L e w') (hn : n ≤ 7) (hi : i < n) (hm : mayB t v L n = true) :
    ∃ (g : Nat) (A : Option Addr) (c : Nat), e = .returned (.tuple #[.pointer (some ⟨g, 0, none⟩), .int .i64 0]) ∧ w.heap.size ≤ g ∧ (∀ a, A = some a → w.heap.size ≤ a.block) ∧ SvM w' g (Sv.begin_ i n t v L) A c ∧ Below w.heap.size w w' := by
  unfold NewPost at h
  rw [if_neg (by omega), if_neg (by rw [hm]; decide)] at h
  obtain ⟨⟨g, A, c, h1, h2, h3, h4⟩, h5⟩ := h
  exact ⟨g, A, c, h1, h2, h3, h4, h5⟩
theorem NetM.lBlk {w : World} {B gN : Nat} {X : Nat → Prop} {ps : List (Nat × Sv)} {way : List Mx} {Z : Seen} {v : Nv} (h : NetM w B gN X ps way Z v) {gl : Nat} (hA : v.Al = some ⟨gl, 0, none⟩) : ∃ cur, Blk w gl 22 cur := by
  have hl := h.l
  rw [hA] at hl
  rcases hl.2 with ⟨h2, _⟩ | ⟨g2, cap, cur, h2, _, h3, _⟩
  · cases h2
  · injection h2 with e1 _ _
    injection e1 with e1
    injection e1 with e1
    subst e1
    exact ⟨cur, h3⟩
def Seen.Same (Z Z0 : Seen) : Prop := Z.sure = Z0.sure ∧ Z.leads.length = Z0.leads.length ∧ Z.bud = Z0.bud
def Stood (w : World) (B gN n d c : Nat) (Z0 : Seen) (w' : World) : Prop :=
  ∃ X ps way Z v, Up w' B gN n d X ps way Z v ∧ way.length ≤ c ∧ Z.Same Z0 ∧ Chg (fun b => B ≤ b) w w'
theorem Stood.of {w w' : World} {B gN n d : Nat} {ps : List (Nat × Sv)} {way : List Mx} {Z Z0 : Seen} {ms : List Mg} {c : Nat} (hZ : Z.Same Z0) (hp : ∃ X' zs v', NetM w' B gN X' ps (way ++ zs) Z v' ∧ zs.map (·.1) = ms) (hc : Chg (fun b => B ≤ b) w w')
    (hs : Sys n (ps.map (·.2)) (way.map (·.1) ++ ms) Z d) (ho : ∀ x ∈ way, MgOk x.1) (hf : ∀ m ∈ ms, MgOk m) (hl : way.length + ms.length ≤ c) : Stood w B gN n d c Z0 w' := by
  obtain ⟨X', zs, v', hN, hz⟩ := hp
  have hzl : zs.length = ms.length := by rw [← hz, List.length_map]
  refine ⟨X', ps, way ++ zs, Z, v', ⟨hN, by rw [List.map_append, hz]; exact hs, fun x hx => ?_⟩, by rw [List.length_append, hzl]; exact hl, hZ, hc⟩
  rcases List.mem_append.1 hx with h | h
  · exact ho x h
  · exact hf x.1 (by rw [← hz]; exact List.mem_map_of_mem h)
set_option maxRecDepth 100000 in
set_option maxHeartbeats 16000000 in
theorem ndo_any {w : World} {B gN n d : Nat} {X : Nat → Prop} {ps : List (Nat × Sv)} {way : List Mx} {Z Z0 : Seen} {v : Nv} (h : Up w B gN n d X ps way Z v) (hZ : Z.Same Z0) (hn1 : 1 ≤ n) (hd : d ≤ 150) (hlen : way.length ≤ 200) {dd : Nat} {who at_ : Int} {data : ByteArray}
    (hdd : dd < 256) (hdt : data.size ≤ 65536) :
    Calls Try.prog 50 #[.pointer (some ⟨gN, 0, none⟩), .agg #[.int .u8 (dd : Nat), .int .i64 who, .int .i64 at_, .string data]] w fun e w' => e = .returned (.tuple #[]) ∧ Stood w B gN n (d + 1) 2000 Z0 w' := by
  have HSM := Lib.hid hZ
  clear hZ
  have HA := Lib.hid h
  have hpl := h.n
  have hn7 := h.s.n7
  have HBX : Hid (Below w.heap.size w (w.alloc (.cells #[.int .u8 (dd : Nat), .int .i64 who, .int .i64 at_, .string data] 89)) ∧ Blk (w.alloc (.cells #[.int .u8 (dd : Nat), .int .i64 who, .int .i64 at_, .string data] 89)) w.heap.size 89 #[.int .u8 (dd : Nat), .int .i64 who, .int .i64 at_, .string data]) := ⟨(Below.refl _ w).alloc (Nat.le_refl _) _, Blk.new _ _ _⟩
  obtain ⟨q, hq⟩ : ∃ q, q = way.length := ⟨_, rfl⟩
  have HQ := Lib.hid hq
  obtain ⟨i, hin, hiw⟩ := rem_in (who := who) (n := n) (by omega) (by omega)
  obtain ⟨p, hp⟩ : ∃ p, ps[i]? = some p := ⟨_, List.getElem?_eq_getElem (by omega)⟩
  obtain ⟨g, S⟩ := p
  obtain ⟨gl, hAl, _⟩ := h.m.srvAt hp
  have HP := Lib.hid hp
  have HV : Hid (v.Al = some ⟨gl, 0, none⟩) := Lib.hid hAl
  rw [← hq] at hlen
  clear h hq hp hAl
  go_enter Try.func50, Try.ntmps50
  go_upto_region 1 with fail
  generalize w.alloc (.cells #[.int .u8 (dd : Nat), .int .i64 who, .int .i64 at_, .string data] 89) = w1 at *
  have HC : Hid (∀ W, Below w.heap.size w W → W.cell? ⟨gN, 0, none⟩ = some (.slice (some ⟨gl, 0, none⟩) n v.cl) ∧ W.cell? ⟨gN, 1, none⟩ = some (.slice v.Aw q v.cw) ∧ W.cell? ⟨gl, i, none⟩ = some (.pointer (some ⟨g, 0, none⟩))) := Lib.hid (fun W hW => by
    have hN := HA.out.m.below hW
    obtain ⟨gl', e1, e2⟩ := hN.srvAt HP.out
    rw [HV.out] at e1
    injection e1 with e1
    injection e1 with e1
    subst e1
    exact ⟨by rw [← hpl, ← HV.out]; exact hN.c0, by rw [HQ.out]; exact hN.c1, e2⟩)
  have x0 : w1.cell? ⟨w.heap.size, 0, none⟩ = some (.int .u8 (dd : Nat)) := HBX.out.2.cell 0
  have x1 : w1.cell? ⟨w.heap.size, 1, none⟩ = some (.int .i64 who) := HBX.out.2.cell 1
  have x2 : w1.cell? ⟨w.heap.size, 2, none⟩ = some (.int .i64 at_) := HBX.out.2.cell 2
  have c0 := (HC.out w1 HBX.out.1).1
  have c1 := (HC.out w1 HBX.out.1).2.1
  have cg := (HC.out w1 HBX.out.1).2.2
  have i0 : (0 : Int) ≤ (i : Int) := by omega
  have i1 : (i : Int) < (n : Int) := by omega
  go_quiet (fail)
  rw [hiw]
  have HB1 : Hid (Below w.heap.size w (w1.drewN nq) ∧ Blk (w1.drewN nq) w.heap.size 89 #[.int .u8 (dd : Nat), .int .i64 who, .int .i64 at_, .string data]) := Lib.hid ⟨below_drewN HBX.out.1 _, HBX.out.2.drewN _⟩
  generalize w1.drewN nq = w2 at *
  clear x0 x1 x2 c0 c1 cg
  have x0 : w2.cell? ⟨w.heap.size, 0, none⟩ = some (.int .u8 (dd : Nat)) := HB1.out.2.cell 0
  have x2 : w2.cell? ⟨w.heap.size, 2, none⟩ = some (.int .i64 at_) := HB1.out.2.cell 2
  have c0 := (HC.out w2 HB1.out.1).1
  have c1 := (HC.out w2 HB1.out.1).2.1
  have cg := (HC.out w2 HB1.out.1).2.2
  by_cases hk : dd = 0
  · have m0 : ((dd : Int) == 0) = true := by simp [hk]
    have HDT := Lib.hid (fun W (hW : Below w.heap.size w W) => (HA.out.m.below hW).srv.outsB (HA.out.m.below hW).Xw' HP.out 9 #[.pointer (some ⟨g, 0, none⟩)] S.tick.1 S.tick.2 (fun A c hs => tick_any S g A c W hs (HA.out.s.good (sv_at HP.out)).1.toOk))
    have HF := Lib.hid (tick_fine (HA.out.s.good (sv_at HP.out)).1)
    clear hk
    by_cases hq0 : q = 0
    · have dq : decide ((q : Int) > 0) = false := decide_eq_false (by omega)
      have HB3 := HB1
      generalize w2 = w3 at *
      have x3 : w3.cell? ⟨w.heap.size, 3, none⟩ = some (.string data) := HB3.out.2.cell 3
      go_wp2_with fail
      refine (HDT.out w3 HB3.out.1).mono ?_
      intro e w4 hd4
      obtain ⟨D, e4, X4, rfl, hN4, hm4, hc4⟩ := (HA.out.m.below HB3.out.1).did HP.out hd4
      have HPT := Lib.hid (nput_any hN4 hm4 (by have := HF.out.len; have := HQ.out; omega))
      have HN4 := Lib.hid (And.intro hN4 hc4)
      clear hd4 hN4 hm4 hc4
      obtain ⟨ms, hms⟩ : ∃ z, z = S.tick.2 := ⟨_, rfl⟩
      have HMS := Lib.hid hms
      rw [← hms] at HPT ⊢
      clear hms
      obtain ⟨k, hk⟩ : ∃ k, k = ms.length := ⟨_, rfl⟩
      rw [← hk] at HPT ⊢
      clear hk
      go_wp2_with fail
      refine HPT.out.mono ?_
      rintro e w5 ⟨rfl, X5, zs, v5, hN5, hz5, hc5⟩
      have H5 := Lib.hid (And.intro hN5 (And.intro hz5 hc5))
      clear hN5 hz5 hc5
      go_wp2_with fail
      go_end0
      exact ⟨rfl, .of HSM.out ⟨X5, zs, v5, H5.out.1, H5.out.2.1⟩ (((Chg.of_below HB3.out.1).trans HN4.out.2).trans (H5.out.2.2.mono (fun b hb => (HN4.out.1.Xw b hb).1))) (by rw [sv_set, HMS.out]; exact HA.out.s.tick (sv_at HP.out)) HA.out.o (by rw [HMS.out]; exact HF.out.ok) (by rw [HMS.out]; have := HF.out.len; have := HQ.out; omega)⟩
    · have dq : decide ((q : Int) > 0) = true := decide_eq_true (by omega)
      obtain ⟨j, hjq, hjw⟩ := rem_in (who := at_) (n := q) (by omega) (by omega)
      have j0 : (0 : Int) ≤ (j : Int) := by omega
      have j1 : (j : Int) < (q : Int) := by omega
      go_upto_region 4 with fail
      go_quiet (fail)
      rw [hjw]
      have HB3 : Hid (Below w.heap.size w (w2.drewN nq) ∧ Blk (w2.drewN nq) w.heap.size 89 #[.int .u8 (dd : Nat), .int .i64 who, .int .i64 at_, .string data]) := Lib.hid ⟨below_drewN HB1.out.1 _, HB1.out.2.drewN _⟩
      generalize w2.drewN nq = w3 at *
      clear x0 x2 c0 c1 cg
      have x0 : w3.cell? ⟨w.heap.size, 0, none⟩ = some (.int .u8 (dd : Nat)) := HB3.out.2.cell 0
      have c0 := (HC.out w3 HB3.out.1).1
      have c1 := (HC.out w3 HB3.out.1).2.1
      have cg := (HC.out w3 HB3.out.1).2.2
      have x3 : w3.cell? ⟨w.heap.size, 3, none⟩ = some (.string data) := HB3.out.2.cell 3
      go_wp2_with fail
      refine (HDT.out w3 HB3.out.1).mono ?_
      intro e w4 hd4
      obtain ⟨D, e4, X4, rfl, hN4, hm4, hc4⟩ := (HA.out.m.below HB3.out.1).did HP.out hd4
      have HPT := Lib.hid (nput_any hN4 hm4 (by have := HF.out.len; have := HQ.out; omega))
      have HN4 := Lib.hid (And.intro hN4 hc4)
      clear hd4 hN4 hm4 hc4
      obtain ⟨ms, hms⟩ : ∃ z, z = S.tick.2 := ⟨_, rfl⟩
      have HMS := Lib.hid hms
      rw [← hms] at HPT ⊢
      clear hms
      obtain ⟨k, hk⟩ : ∃ k, k = ms.length := ⟨_, rfl⟩
      rw [← hk] at HPT ⊢
      clear hk
      go_wp2_with fail
      refine HPT.out.mono ?_
      rintro e w5 ⟨rfl, X5, zs, v5, hN5, hz5, hc5⟩
      have H5 := Lib.hid (And.intro hN5 (And.intro hz5 hc5))
      clear hN5 hz5 hc5
      go_wp2_with fail
      go_end0
      exact ⟨rfl, .of HSM.out ⟨X5, zs, v5, H5.out.1, H5.out.2.1⟩ (((Chg.of_below HB3.out.1).trans HN4.out.2).trans (H5.out.2.2.mono (fun b hb => (HN4.out.1.Xw b hb).1))) (by rw [sv_set, HMS.out]; exact HA.out.s.tick (sv_at HP.out)) HA.out.o (by rw [HMS.out]; exact HF.out.ok) (by rw [HMS.out]; have := HF.out.len; have := HQ.out; omega)⟩
  by_cases hk : dd = 1
  · have m0 : ((dd : Int) == 0) = false := by simp; omega
    have m1 : ((dd : Int) == 1) = true := by simp [hk]
    skip
    clear hk
    by_cases hq0 : q = 0
    · have dq : decide ((q : Int) > 0) = false := decide_eq_false (by omega)
      have HB3 := HB1
      generalize w2 = w3 at *
      have qz : ((q : Int) == 0) = true := by simp [hq0]
      go_wp2_with fail
      refine bodyPost_ret (results_none rfl _ _ _) rfl ?_
      exact ⟨rfl, X, ps, way, Z, v, ⟨HA.out.m.below HB3.out.1, HA.out.s.more (by omega), HA.out.o⟩, by have := HQ.out; omega, HSM.out, .of_below HB3.out.1⟩
    · have dq : decide ((q : Int) > 0) = true := decide_eq_true (by omega)
      obtain ⟨j, hjq, hjw⟩ := rem_in (who := at_) (n := q) (by omega) (by omega)
      have j0 : (0 : Int) ≤ (j : Int) := by omega
      have j1 : (j : Int) < (q : Int) := by omega
      go_upto_region 4 with fail
      go_quiet (fail)
      rw [hjw]
      have HB3 : Hid (Below w.heap.size w (w2.drewN nq) ∧ Blk (w2.drewN nq) w.heap.size 89 #[.int .u8 (dd : Nat), .int .i64 who, .int .i64 at_, .string data]) := Lib.hid ⟨below_drewN HB1.out.1 _, HB1.out.2.drewN _⟩
      generalize w2.drewN nq = w3 at *
      clear x0 x2 c0 c1 cg
      have x0 : w3.cell? ⟨w.heap.size, 0, none⟩ = some (.int .u8 (dd : Nat)) := HB3.out.2.cell 0
      have c0 := (HC.out w3 HB3.out.1).1
      have c1 := (HC.out w3 HB3.out.1).2.1
      have cg := (HC.out w3 HB3.out.1).2.2
      have qz : ((q : Int) == 0) = false := by simp; omega
      obtain ⟨x, hx⟩ : ∃ x, way[j]? = some x := ⟨_, List.getElem?_eq_getElem (by have := HQ.out; omega)⟩
      obtain ⟨gw, off, hAw, hcell⟩ := (HA.out.m.below HB3.out.1).wayAt hx
      have hmo := HA.out.o _ (List.mem_of_getElem? hx)
      have hmem : x.1 ∈ way.map (·.1) := List.mem_map_of_mem (List.mem_of_getElem? hx)
      have hto := HA.out.s.toAt hmem
      have hen := HA.out.m.ent _ (List.mem_of_getElem? hx)
      have HX := Lib.hid (And.intro hx (And.intro hmo (And.intro hmem (And.intro hto hen))))
      obtain ⟨m, E, ec⟩ := x
      have HRG : Hid (w3.rangeAt gw (off + j * 9) (xcell (m, E, ec))) := Lib.hid (fun jj u hu => hcell jj u hu)
      rw [hAw] at c1
      clear hx hmo hmem hto hen hAw hcell
      obtain ⟨M, hM⟩ : ∃ z, z = m := ⟨_, rfl⟩
      have HM := Lib.hid hM
      rw [← hM] at HX
      clear hM
      obtain ⟨mk, frm, dst, term, index, logTerm, ents, commit, mok⟩ := m
      dsimp only [xcell, mcell] at HRG
      obtain ⟨ne, hne⟩ : ∃ z, z = ents.length := ⟨_, rfl⟩
      have HNE := Lib.hid hne
      rw [← hne] at HRG
      clear hne
      have HB0 : Hid (Blk (w3.alloc (.cells #[.int .u8 0, .int .i64 0, .int .i64 0, .int .i64 0, .int .i64 0, .int .i64 0, .slice none 0 0, .int .i64 0, .bool false] 34)) w3.heap.size 34 #[.int .u8 0, .int .i64 0, .int .i64 0, .int .i64 0, .int .i64 0, .int .i64 0, .slice none 0 0, .int .i64 0, .bool false]) := Lib.hid (Blk.new w3 _ _)
      have H4 : Hid (Below w3.heap.size w3 (w3.alloc (.cells #[.int .u8 (mk : Nat), .int .i64 frm, .int .i64 dst, .int .i64 term, .int .i64 index, .int .i64 logTerm, .slice E ne ec, .int .i64 commit, .bool mok] 34)) ∧ Blk (w3.alloc (.cells #[.int .u8 (mk : Nat), .int .i64 frm, .int .i64 dst, .int .i64 term, .int .i64 index, .int .i64 logTerm, .slice E ne ec, .int .i64 commit, .bool mok] 34)) w3.heap.size 34 #[.int .u8 (mk : Nat), .int .i64 frm, .int .i64 dst, .int .i64 term, .int .i64 index, .int .i64 logTerm, .slice E ne ec, .int .i64 commit, .bool mok]) := Lib.hid ⟨(Below.refl _ _).alloc (Nat.le_refl _) _, Blk.new _ _ _⟩
      have HSZ : Hid (w.heap.size ≤ w3.heap.size) := Lib.hid HB3.out.1.size
      go_upto_region 14 with fail
      go_upto_region 15 with (first | (refine wpList_load_mid rfl 34 (.tmp 76) rfl gw (off + j * 9) rfl [.int .u8 (mk : Nat), .int .i64 frm, .int .i64 dst, .int .i64 term, .int .i64 index, .int .i64 logTerm, .slice E ne ec, .int .i64 commit, .bool mok] (.struct _) HRG.out Try.underlying34 rfl (by kernel_rfl) ?_) | (refine wpList_store_row rfl 34 (.tmp 8) (.tmp 77) rfl w3.heap.size #[.int .u8 (mk : Nat), .int .i64 frm, .int .i64 dst, .int .i64 term, .int .i64 index, .int .i64 logTerm, .slice E ne ec, .int .i64 commit, .bool mok] rfl rfl 34 #[.int .u8 0, .int .i64 0, .int .i64 0, .int .i64 0, .int .i64 0, .int .i64 0, .slice none 0 0, .int .i64 0, .bool false] HB0.out (by kernel_rfl) rfl (by kernel_rfl) ?_; rw [World.setRow_alloc_new]) | fail)
      generalize hb3 : w3.heap.size = b3 at *
      generalize w3.alloc (.cells #[.int .u8 (mk : Nat), .int .i64 frm, .int .i64 dst, .int .i64 term, .int .i64 index, .int .i64 logTerm, .slice E ne ec, .int .i64 commit, .bool mok] 34) = w4 at *
      have HL4 : Hid (Below w.heap.size w w4 ∧ Blk w4 w.heap.size 89 #[.int .u8 (dd : Nat), .int .i64 who, .int .i64 at_, .string data] ∧ Blk w4 b3 34 #[.int .u8 (mk : Nat), .int .i64 frm, .int .i64 dst, .int .i64 term, .int .i64 index, .int .i64 logTerm, .slice E ne ec, .int .i64 commit, .bool mok]) := Lib.hid ⟨HB3.out.1.trans (H4.out.1.mono HSZ.out), HB3.out.2.below H4.out.1 (by have := HB3.out.2.lt; omega), H4.out.2⟩
      clear x0 c0 c1 cg HB0 H4
      have x0 : w4.cell? ⟨w.heap.size, 0, none⟩ = some (.int .u8 (dd : Nat)) := HL4.out.2.1.cell 0
      have HOU := Lib.hid (nout_any (HA.out.m.below HL4.out.1) (k := j) (by have := HQ.out; omega) (by have := HQ.out; omega))
      go_wp2_with fail
      refine HOU.out.mono ?_
      rintro e w5 ⟨rfl, X5, v5, hN5, hc5, hs5, he5⟩
      have H5 : Hid (NetM w5 B gN X5 ps (way.take j ++ way.drop (j + 1)) Z v5 ∧ (∀ x ∈ (way.take j ++ way.drop (j + 1)), x ∈ way) ∧ (way.take j ++ way.drop (j + 1)).length ≤ q ∧ Chg (fun b => B ≤ b) w w5 ∧ Blk w5 w.heap.size 89 #[.int .u8 (dd : Nat), .int .i64 who, .int .i64 at_, .string data] ∧ Blk w5 b3 34 #[.int .u8 (mk : Nat), .int .i64 frm, .int .i64 dst, .int .i64 term, .int .i64 index, .int .i64 logTerm, .slice E ne ec, .int .i64 commit, .bool mok] ∧ w5.ownsRow 0 39 2 (.slice E M.ents.length ec) M.ents.length (rowOf ecell M.ents) ∧ ∀ b, (Value.slice E M.ents.length ec).ownBlock = some b → X5 b) := Lib.hid ⟨hN5, fun x hx => by rcases List.mem_append.1 hx with hx | hx; exact List.mem_of_mem_take hx; exact List.mem_of_mem_drop hx, by rw [List.length_append, List.length_take, List.length_drop]; have := HQ.out; omega,
        (Chg.of_below HL4.out.1).trans (hc5.mono (fun b hb => (HA.out.m.Xw b hb).1)), HL4.out.2.1.chg hc5 (fun hb => by have := (HA.out.m.Xw _ hb).2; omega), HL4.out.2.2.chg hc5 (fun hb => by have := (HA.out.m.Xw _ hb).2; have := HSZ.out; omega), he5 _ (List.mem_of_getElem? HX.out.1), fun b hb => hs5 b (HX.out.2.2.2.2.2 b hb)⟩
      generalize way.take j ++ way.drop (j + 1) = way5 at *
      clear hN5 hc5 hs5 he5 x0
      have x0 : w5.cell? ⟨w.heap.size, 0, none⟩ = some (.int .u8 (dd : Nat)) := H5.out.2.2.2.2.1.cell 0
      have hto' : 0 ≤ M.to ∧ M.to < (n : Int) := HX.out.2.2.2.1
      obtain ⟨i', hi'⟩ : ∃ i' : Nat, M.to = (i' : Int) := ⟨M.to.toNat, by omega⟩
      have hin' : i' < ps.length := by omega
      obtain ⟨p', hp'⟩ : ∃ p, ps[i']? = some p := ⟨_, List.getElem?_eq_getElem hin'⟩
      obtain ⟨g', S'⟩ := p'
      have HF := Lib.hid (handle_fine (HA.out.s.good (sv_at hp')).1 HX.out.2.1)
      have HCO := Lib.hid (come_any H5.out.1 hp' (HA.out.s.good (sv_at hp')).1 HX.out.2.1 hi' H5.out.2.2.2.2.2.2.1 H5.out.2.2.2.2.2.2.2 (by have := H5.out.2.2.1; omega) (by omega) HF.out.len)
      have HSY := Lib.hid (((HA.out.s.handle (sv_at hp') HX.out.2.2.1).less (way' := way5.map (·.1) ++ (S'.handle M).2) (fun m hm => by
        rcases List.mem_append.1 hm with hm | hm
        · obtain ⟨y, hy, rfl⟩ := List.mem_map.1 hm
          exact List.mem_append_left _ (List.mem_map_of_mem (H5.out.2.1 y hy))
        · exact List.mem_append_right _ hm)).more (Nat.le_succ d))
      clear hi' hp' hin' hto'
      generalize S'.handle M = hh at *
      rw [HM.out] at HCO
      dsimp only [mcell] at HCO
      rw [← HNE.out] at HCO
      go_wp2_with (first | (refine wpList_load_row rfl 34 (.tmp 8) rfl b3 rfl 34 #[.int .u8 (mk : Nat), .int .i64 frm, .int .i64 dst, .int .i64 term, .int .i64 index, .int .i64 logTerm, .slice E ne ec, .int .i64 commit, .bool mok] (0, 0) _ H5.out.2.2.2.2.2.1 Try.underlying34 rfl (by kernel_rfl) ?_) | fail)
      refine HCO.out.mono ?_
      rintro e w6 ⟨rfl, X6, zs, v6, hN6, hz6, hc6⟩
      have H6 := Lib.hid (And.intro hN6 (And.intro hz6 hc6))
      clear hN6 hz6 hc6
      go_wp2_with fail
      go_end0
      exact ⟨rfl, .of HSM.out ⟨X6, zs, v6, H6.out.1, H6.out.2.1⟩ (H5.out.2.2.2.1.trans H6.out.2.2) (by rw [sv_set]; exact HSY.out) (fun x hx => HA.out.o x (H5.out.2.1 x hx)) HF.out.ok (by have := HF.out.len; have := H5.out.2.2.1; omega)⟩
  by_cases hk : dd = 2
  · have m0 : ((dd : Int) == 0) = false := by simp; omega
    have m1 : ((dd : Int) == 1) = false := by simp; omega
    have m2 : ((dd : Int) == 2) = true := by simp [hk]
    skip
    clear hk
    by_cases hq0 : q = 0
    · have dq : decide ((q : Int) > 0) = false := decide_eq_false (by omega)
      have HB3 := HB1
      generalize w2 = w3 at *
      have qz : ((q : Int) == 0) = true := by simp [hq0]
      go_wp2_with fail
      refine bodyPost_ret (results_none rfl _ _ _) rfl ?_
      exact ⟨rfl, X, ps, way, Z, v, ⟨HA.out.m.below HB3.out.1, HA.out.s.more (by omega), HA.out.o⟩, by have := HQ.out; omega, HSM.out, .of_below HB3.out.1⟩
    · have dq : decide ((q : Int) > 0) = true := decide_eq_true (by omega)
      obtain ⟨j, hjq, hjw⟩ := rem_in (who := at_) (n := q) (by omega) (by omega)
      have j0 : (0 : Int) ≤ (j : Int) := by omega
      have j1 : (j : Int) < (q : Int) := by omega
      go_upto_region 4 with fail
      go_quiet (fail)
      rw [hjw]
      have HB3 : Hid (Below w.heap.size w (w2.drewN nq) ∧ Blk (w2.drewN nq) w.heap.size 89 #[.int .u8 (dd : Nat), .int .i64 who, .int .i64 at_, .string data]) := Lib.hid ⟨below_drewN HB1.out.1 _, HB1.out.2.drewN _⟩
      generalize w2.drewN nq = w3 at *
      clear x0 x2 c0 c1 cg
      have x0 : w3.cell? ⟨w.heap.size, 0, none⟩ = some (.int .u8 (dd : Nat)) := HB3.out.2.cell 0
      have c0 := (HC.out w3 HB3.out.1).1
      have c1 := (HC.out w3 HB3.out.1).2.1
      have cg := (HC.out w3 HB3.out.1).2.2
      have qz : ((q : Int) == 0) = false := by simp; omega
      obtain ⟨x, hx⟩ : ∃ x, way[j]? = some x := ⟨_, List.getElem?_eq_getElem (by have := HQ.out; omega)⟩
      obtain ⟨gw, off, hAw, hcell⟩ := (HA.out.m.below HB3.out.1).wayAt hx
      have hmo := HA.out.o _ (List.mem_of_getElem? hx)
      have hmem : x.1 ∈ way.map (·.1) := List.mem_map_of_mem (List.mem_of_getElem? hx)
      have hto := HA.out.s.toAt hmem
      have hen := HA.out.m.ent _ (List.mem_of_getElem? hx)
      have HX := Lib.hid (And.intro hx (And.intro hmo (And.intro hmem (And.intro hto hen))))
      obtain ⟨m, E, ec⟩ := x
      have HRG : Hid (w3.rangeAt gw (off + j * 9) (xcell (m, E, ec))) := Lib.hid (fun jj u hu => hcell jj u hu)
      rw [hAw] at c1
      clear hx hmo hmem hto hen hAw hcell
      obtain ⟨M, hM⟩ : ∃ z, z = m := ⟨_, rfl⟩
      have HM := Lib.hid hM
      rw [← hM] at HX
      clear hM
      obtain ⟨mk, frm, dst, term, index, logTerm, ents, commit, mok⟩ := m
      dsimp only [xcell, mcell] at HRG
      obtain ⟨ne, hne⟩ : ∃ z, z = ents.length := ⟨_, rfl⟩
      have HNE := Lib.hid hne
      rw [← hne] at HRG
      clear hne
      have HB0 : Hid (Blk (w3.alloc (.cells #[.int .u8 0, .int .i64 0, .int .i64 0, .int .i64 0, .int .i64 0, .int .i64 0, .slice none 0 0, .int .i64 0, .bool false] 34)) w3.heap.size 34 #[.int .u8 0, .int .i64 0, .int .i64 0, .int .i64 0, .int .i64 0, .int .i64 0, .slice none 0 0, .int .i64 0, .bool false]) := Lib.hid (Blk.new w3 _ _)
      have H4 : Hid (Below w3.heap.size w3 (w3.alloc (.cells #[.int .u8 (mk : Nat), .int .i64 frm, .int .i64 dst, .int .i64 term, .int .i64 index, .int .i64 logTerm, .slice E ne ec, .int .i64 commit, .bool mok] 34)) ∧ Blk (w3.alloc (.cells #[.int .u8 (mk : Nat), .int .i64 frm, .int .i64 dst, .int .i64 term, .int .i64 index, .int .i64 logTerm, .slice E ne ec, .int .i64 commit, .bool mok] 34)) w3.heap.size 34 #[.int .u8 (mk : Nat), .int .i64 frm, .int .i64 dst, .int .i64 term, .int .i64 index, .int .i64 logTerm, .slice E ne ec, .int .i64 commit, .bool mok]) := Lib.hid ⟨(Below.refl _ _).alloc (Nat.le_refl _) _, Blk.new _ _ _⟩
      have HSZ : Hid (w.heap.size ≤ w3.heap.size) := Lib.hid HB3.out.1.size
      go_upto_region 14 with fail
      go_upto_region 15 with (first | (refine wpList_load_mid rfl 34 (.tmp 76) rfl gw (off + j * 9) rfl [.int .u8 (mk : Nat), .int .i64 frm, .int .i64 dst, .int .i64 term, .int .i64 index, .int .i64 logTerm, .slice E ne ec, .int .i64 commit, .bool mok] (.struct _) HRG.out Try.underlying34 rfl (by kernel_rfl) ?_) | (refine wpList_store_row rfl 34 (.tmp 8) (.tmp 77) rfl w3.heap.size #[.int .u8 (mk : Nat), .int .i64 frm, .int .i64 dst, .int .i64 term, .int .i64 index, .int .i64 logTerm, .slice E ne ec, .int .i64 commit, .bool mok] rfl rfl 34 #[.int .u8 0, .int .i64 0, .int .i64 0, .int .i64 0, .int .i64 0, .int .i64 0, .slice none 0 0, .int .i64 0, .bool false] HB0.out (by kernel_rfl) rfl (by kernel_rfl) ?_; rw [World.setRow_alloc_new]) | fail)
      generalize hb3 : w3.heap.size = b3 at *
      generalize w3.alloc (.cells #[.int .u8 (mk : Nat), .int .i64 frm, .int .i64 dst, .int .i64 term, .int .i64 index, .int .i64 logTerm, .slice E ne ec, .int .i64 commit, .bool mok] 34) = w4 at *
      have HL4 : Hid (Below w.heap.size w w4 ∧ Blk w4 w.heap.size 89 #[.int .u8 (dd : Nat), .int .i64 who, .int .i64 at_, .string data] ∧ Blk w4 b3 34 #[.int .u8 (mk : Nat), .int .i64 frm, .int .i64 dst, .int .i64 term, .int .i64 index, .int .i64 logTerm, .slice E ne ec, .int .i64 commit, .bool mok]) := Lib.hid ⟨HB3.out.1.trans (H4.out.1.mono HSZ.out), HB3.out.2.below H4.out.1 (by have := HB3.out.2.lt; omega), H4.out.2⟩
      clear x0 c0 c1 cg HB0 H4
      have x0 : w4.cell? ⟨w.heap.size, 0, none⟩ = some (.int .u8 (dd : Nat)) := HL4.out.2.1.cell 0
      have H5 : Hid (NetM w4 B gN X ps way Z v ∧ (∀ x ∈ way, x ∈ way) ∧ way.length ≤ q ∧ Chg (fun b => B ≤ b) w w4 ∧ Blk w4 w.heap.size 89 #[.int .u8 (dd : Nat), .int .i64 who, .int .i64 at_, .string data] ∧ Blk w4 b3 34 #[.int .u8 (mk : Nat), .int .i64 frm, .int .i64 dst, .int .i64 term, .int .i64 index, .int .i64 logTerm, .slice E ne ec, .int .i64 commit, .bool mok] ∧ w4.ownsRow 0 39 2 (.slice E M.ents.length ec) M.ents.length (rowOf ecell M.ents) ∧ ∀ b, (Value.slice E M.ents.length ec).ownBlock = some b → X b) := Lib.hid ⟨HA.out.m.below HL4.out.1, fun _ h => h, Nat.le_of_eq HQ.out.symm, .of_below HL4.out.1, HL4.out.2.1, HL4.out.2.2, own_below HX.out.2.2.2.2.1 HL4.out.1, HX.out.2.2.2.2.2⟩
      obtain ⟨way5, hw5⟩ : ∃ z, z = way := ⟨_, rfl⟩
      have H5' : Hid (NetM w4 B gN X ps way5 Z v ∧ (∀ x ∈ way5, x ∈ way) ∧ way5.length ≤ q ∧ Chg (fun b => B ≤ b) w w4 ∧ Blk w4 w.heap.size 89 #[.int .u8 (dd : Nat), .int .i64 who, .int .i64 at_, .string data] ∧ Blk w4 b3 34 #[.int .u8 (mk : Nat), .int .i64 frm, .int .i64 dst, .int .i64 term, .int .i64 index, .int .i64 logTerm, .slice E ne ec, .int .i64 commit, .bool mok] ∧ w4.ownsRow 0 39 2 (.slice E M.ents.length ec) M.ents.length (rowOf ecell M.ents) ∧ ∀ b, (Value.slice E M.ents.length ec).ownBlock = some b → X b) := by rw [hw5]; exact H5
      clear H5
      have H5 := H5'
      clear H5' hw5
      generalize w4 = w5 at *
      have hto' : 0 ≤ M.to ∧ M.to < (n : Int) := HX.out.2.2.2.1
      obtain ⟨i', hi'⟩ : ∃ i' : Nat, M.to = (i' : Int) := ⟨M.to.toNat, by omega⟩
      have hin' : i' < ps.length := by omega
      obtain ⟨p', hp'⟩ : ∃ p, ps[i']? = some p := ⟨_, List.getElem?_eq_getElem hin'⟩
      obtain ⟨g', S'⟩ := p'
      have HF := Lib.hid (handle_fine (HA.out.s.good (sv_at hp')).1 HX.out.2.1)
      have HCO := Lib.hid (come_any H5.out.1 hp' (HA.out.s.good (sv_at hp')).1 HX.out.2.1 hi' H5.out.2.2.2.2.2.2.1 H5.out.2.2.2.2.2.2.2 (by have := H5.out.2.2.1; omega) (by omega) HF.out.len)
      have HSY := Lib.hid (((HA.out.s.handle (sv_at hp') HX.out.2.2.1).less (way' := way5.map (·.1) ++ (S'.handle M).2) (fun m hm => by
        rcases List.mem_append.1 hm with hm | hm
        · obtain ⟨y, hy, rfl⟩ := List.mem_map.1 hm
          exact List.mem_append_left _ (List.mem_map_of_mem (H5.out.2.1 y hy))
        · exact List.mem_append_right _ hm)).more (Nat.le_succ d))
      clear hi' hp' hin' hto'
      generalize S'.handle M = hh at *
      rw [HM.out] at HCO
      dsimp only [mcell] at HCO
      rw [← HNE.out] at HCO
      go_wp2_with (first | (refine wpList_load_row rfl 34 (.tmp 8) rfl b3 rfl 34 #[.int .u8 (mk : Nat), .int .i64 frm, .int .i64 dst, .int .i64 term, .int .i64 index, .int .i64 logTerm, .slice E ne ec, .int .i64 commit, .bool mok] (0, 0) _ H5.out.2.2.2.2.2.1 Try.underlying34 rfl (by kernel_rfl) ?_) | fail)
      refine HCO.out.mono ?_
      rintro e w6 ⟨rfl, X6, zs, v6, hN6, hz6, hc6⟩
      have H6 := Lib.hid (And.intro hN6 (And.intro hz6 hc6))
      clear hN6 hz6 hc6
      go_wp2_with fail
      go_end0
      exact ⟨rfl, .of HSM.out ⟨X6, zs, v6, H6.out.1, H6.out.2.1⟩ (H5.out.2.2.2.1.trans H6.out.2.2) (by rw [sv_set]; exact HSY.out) (fun x hx => HA.out.o x (H5.out.2.1 x hx)) HF.out.ok (by have := HF.out.len; have := H5.out.2.2.1; omega)⟩
  by_cases hk : dd = 3
  · have m0 : ((dd : Int) == 0) = false := by simp; omega
    have m1 : ((dd : Int) == 1) = false := by simp; omega
    have m2 : ((dd : Int) == 2) = false := by simp; omega
    have m3 : ((dd : Int) == 3) = true := by simp [hk]
    skip
    clear hk
    by_cases hq0 : q = 0
    · have dq : decide ((q : Int) > 0) = false := decide_eq_false (by omega)
      have HB3 := HB1
      generalize w2 = w3 at *
      have qz : ((q : Int) == 0) = true := by simp [hq0]
      go_wp2_with fail
      refine bodyPost_ret (results_none rfl _ _ _) rfl ?_
      exact ⟨rfl, X, ps, way, Z, v, ⟨HA.out.m.below HB3.out.1, HA.out.s.more (by omega), HA.out.o⟩, by have := HQ.out; omega, HSM.out, .of_below HB3.out.1⟩
    · have dq : decide ((q : Int) > 0) = true := decide_eq_true (by omega)
      obtain ⟨j, hjq, hjw⟩ := rem_in (who := at_) (n := q) (by omega) (by omega)
      have j0 : (0 : Int) ≤ (j : Int) := by omega
      have j1 : (j : Int) < (q : Int) := by omega
      go_upto_region 4 with fail
      go_quiet (fail)
      rw [hjw]
      have HB3 : Hid (Below w.heap.size w (w2.drewN nq) ∧ Blk (w2.drewN nq) w.heap.size 89 #[.int .u8 (dd : Nat), .int .i64 who, .int .i64 at_, .string data]) := Lib.hid ⟨below_drewN HB1.out.1 _, HB1.out.2.drewN _⟩
      generalize w2.drewN nq = w3 at *
      clear x0 x2 c0 c1 cg
      have x0 : w3.cell? ⟨w.heap.size, 0, none⟩ = some (.int .u8 (dd : Nat)) := HB3.out.2.cell 0
      have c0 := (HC.out w3 HB3.out.1).1
      have c1 := (HC.out w3 HB3.out.1).2.1
      have cg := (HC.out w3 HB3.out.1).2.2
      have qz : ((q : Int) == 0) = false := by simp; omega
      obtain ⟨x, hx⟩ : ∃ x, way[j]? = some x := ⟨_, List.getElem?_eq_getElem (by have := HQ.out; omega)⟩
      obtain ⟨gw, off, hAw, hcell⟩ := (HA.out.m.below HB3.out.1).wayAt hx
      have hmo := HA.out.o _ (List.mem_of_getElem? hx)
      have hmem : x.1 ∈ way.map (·.1) := List.mem_map_of_mem (List.mem_of_getElem? hx)
      have hto := HA.out.s.toAt hmem
      have hen := HA.out.m.ent _ (List.mem_of_getElem? hx)
      have HX := Lib.hid (And.intro hx (And.intro hmo (And.intro hmem (And.intro hto hen))))
      obtain ⟨m, E, ec⟩ := x
      have HRG : Hid (w3.rangeAt gw (off + j * 9) (xcell (m, E, ec))) := Lib.hid (fun jj u hu => hcell jj u hu)
      rw [hAw] at c1
      clear hx hmo hmem hto hen hAw hcell
      obtain ⟨M, hM⟩ : ∃ z, z = m := ⟨_, rfl⟩
      have HM := Lib.hid hM
      rw [← hM] at HX
      clear hM
      obtain ⟨mk, frm, dst, term, index, logTerm, ents, commit, mok⟩ := m
      dsimp only [xcell, mcell] at HRG
      obtain ⟨ne, hne⟩ : ∃ z, z = ents.length := ⟨_, rfl⟩
      have HNE := Lib.hid hne
      rw [← hne] at HRG
      clear hne
      have HB0 : Hid (Blk (w3.alloc (.cells #[.int .u8 0, .int .i64 0, .int .i64 0, .int .i64 0, .int .i64 0, .int .i64 0, .slice none 0 0, .int .i64 0, .bool false] 34)) w3.heap.size 34 #[.int .u8 0, .int .i64 0, .int .i64 0, .int .i64 0, .int .i64 0, .int .i64 0, .slice none 0 0, .int .i64 0, .bool false]) := Lib.hid (Blk.new w3 _ _)
      have H4 : Hid (Below w3.heap.size w3 (w3.alloc (.cells #[.int .u8 (mk : Nat), .int .i64 frm, .int .i64 dst, .int .i64 term, .int .i64 index, .int .i64 logTerm, .slice E ne ec, .int .i64 commit, .bool mok] 34)) ∧ Blk (w3.alloc (.cells #[.int .u8 (mk : Nat), .int .i64 frm, .int .i64 dst, .int .i64 term, .int .i64 index, .int .i64 logTerm, .slice E ne ec, .int .i64 commit, .bool mok] 34)) w3.heap.size 34 #[.int .u8 (mk : Nat), .int .i64 frm, .int .i64 dst, .int .i64 term, .int .i64 index, .int .i64 logTerm, .slice E ne ec, .int .i64 commit, .bool mok]) := Lib.hid ⟨(Below.refl _ _).alloc (Nat.le_refl _) _, Blk.new _ _ _⟩
      have HSZ : Hid (w.heap.size ≤ w3.heap.size) := Lib.hid HB3.out.1.size
      go_upto_region 14 with fail
      go_upto_region 15 with (first | (refine wpList_load_mid rfl 34 (.tmp 76) rfl gw (off + j * 9) rfl [.int .u8 (mk : Nat), .int .i64 frm, .int .i64 dst, .int .i64 term, .int .i64 index, .int .i64 logTerm, .slice E ne ec, .int .i64 commit, .bool mok] (.struct _) HRG.out Try.underlying34 rfl (by kernel_rfl) ?_) | (refine wpList_store_row rfl 34 (.tmp 8) (.tmp 77) rfl w3.heap.size #[.int .u8 (mk : Nat), .int .i64 frm, .int .i64 dst, .int .i64 term, .int .i64 index, .int .i64 logTerm, .slice E ne ec, .int .i64 commit, .bool mok] rfl rfl 34 #[.int .u8 0, .int .i64 0, .int .i64 0, .int .i64 0, .int .i64 0, .int .i64 0, .slice none 0 0, .int .i64 0, .bool false] HB0.out (by kernel_rfl) rfl (by kernel_rfl) ?_; rw [World.setRow_alloc_new]) | fail)
      generalize hb3 : w3.heap.size = b3 at *
      generalize w3.alloc (.cells #[.int .u8 (mk : Nat), .int .i64 frm, .int .i64 dst, .int .i64 term, .int .i64 index, .int .i64 logTerm, .slice E ne ec, .int .i64 commit, .bool mok] 34) = w4 at *
      have HL4 : Hid (Below w.heap.size w w4 ∧ Blk w4 w.heap.size 89 #[.int .u8 (dd : Nat), .int .i64 who, .int .i64 at_, .string data] ∧ Blk w4 b3 34 #[.int .u8 (mk : Nat), .int .i64 frm, .int .i64 dst, .int .i64 term, .int .i64 index, .int .i64 logTerm, .slice E ne ec, .int .i64 commit, .bool mok]) := Lib.hid ⟨HB3.out.1.trans (H4.out.1.mono HSZ.out), HB3.out.2.below H4.out.1 (by have := HB3.out.2.lt; omega), H4.out.2⟩
      clear x0 c0 c1 cg HB0 H4
      have x0 : w4.cell? ⟨w.heap.size, 0, none⟩ = some (.int .u8 (dd : Nat)) := HL4.out.2.1.cell 0
      have HOU := Lib.hid (nout_any (HA.out.m.below HL4.out.1) (k := j) (by have := HQ.out; omega) (by have := HQ.out; omega))
      go_wp2_with fail
      refine HOU.out.mono ?_
      rintro e w5 ⟨rfl, X5, v5, hN5, hc5, hs5, he5⟩
      have H5 : Hid (NetM w5 B gN X5 ps (way.take j ++ way.drop (j + 1)) Z v5 ∧ (∀ x ∈ (way.take j ++ way.drop (j + 1)), x ∈ way) ∧ (way.take j ++ way.drop (j + 1)).length ≤ q ∧ Chg (fun b => B ≤ b) w w5 ∧ Blk w5 w.heap.size 89 #[.int .u8 (dd : Nat), .int .i64 who, .int .i64 at_, .string data] ∧ Blk w5 b3 34 #[.int .u8 (mk : Nat), .int .i64 frm, .int .i64 dst, .int .i64 term, .int .i64 index, .int .i64 logTerm, .slice E ne ec, .int .i64 commit, .bool mok] ∧ w5.ownsRow 0 39 2 (.slice E M.ents.length ec) M.ents.length (rowOf ecell M.ents) ∧ ∀ b, (Value.slice E M.ents.length ec).ownBlock = some b → X5 b) := Lib.hid ⟨hN5, fun x hx => by rcases List.mem_append.1 hx with hx | hx; exact List.mem_of_mem_take hx; exact List.mem_of_mem_drop hx, by rw [List.length_append, List.length_take, List.length_drop]; have := HQ.out; omega,
        (Chg.of_below HL4.out.1).trans (hc5.mono (fun b hb => (HA.out.m.Xw b hb).1)), HL4.out.2.1.chg hc5 (fun hb => by have := (HA.out.m.Xw _ hb).2; omega), HL4.out.2.2.chg hc5 (fun hb => by have := (HA.out.m.Xw _ hb).2; have := HSZ.out; omega), he5 _ (List.mem_of_getElem? HX.out.1), fun b hb => hs5 b (HX.out.2.2.2.2.2 b hb)⟩
      generalize way.take j ++ way.drop (j + 1) = way5 at *
      clear hN5 hc5 hs5 he5 x0
      have x0 : w5.cell? ⟨w.heap.size, 0, none⟩ = some (.int .u8 (dd : Nat)) := H5.out.2.2.2.2.1.cell 0
      go_wp2_with fail
      go_end0
      exact ⟨rfl, X5, ps, way5, Z, v5, ⟨H5.out.1, (HA.out.s.less (fun m hm => by
        obtain ⟨y, hy, rfl⟩ := List.mem_map.1 hm
        exact List.mem_map_of_mem (H5.out.2.1 y hy))).more (Nat.le_succ d), fun x hx => HA.out.o x (H5.out.2.1 x hx)⟩, by have := H5.out.2.2.1; omega, HSM.out, H5.out.2.2.2.1⟩
  by_cases hk : dd = 4
  · have m0 : ((dd : Int) == 0) = false := by simp; omega
    have m1 : ((dd : Int) == 1) = false := by simp; omega
    have m2 : ((dd : Int) == 2) = false := by simp; omega
    have m3 : ((dd : Int) == 3) = false := by simp; omega
    have m4 : ((dd : Int) == 4) = true := by simp [hk]
    have hg : S.Good ∧ S.id = i ∧ S.n = n ∧ S.log.length ≤ d ∧ i < n := (HA.out.s.good (sv_at HP.out))
    have HPR := Lib.hid (fun W (hW : Below w.heap.size w W) => (HA.out.m.below hW).srv.propose (HA.out.m.below hW).Xw' HP.out hg.1 data)
    have HSY := Lib.hid (HA.out.s.propose (sv_at HP.out) data)
    have HG1 := Lib.hid (hg.1.propose (d := data))
    have HBB : Hid ((((S.propose data).1.role : Int) == 2) = decide (S.role = 2) ∧ ((S.propose data).2.2 == 0) = decide (S.role = 2)) := Lib.hid (by
      have hl := hg.2.2.2.1
      unfold Sv.propose
      by_cases hr : S.role = 2
      · rw [if_neg (fun h => h hr), if_neg (by omega), if_neg (by omega)]
        have e : (S.put data).agree.role = 2 := hr
        simp [e, hr]
      · rw [if_pos hr]
        simp [hr]
        omega)
    obtain ⟨S1, hS1⟩ : ∃ z, z = (S.propose data).1 := ⟨_, rfl⟩
    obtain ⟨pn, hpn⟩ : ∃ z, z = (S.propose data).2.1 := ⟨_, rfl⟩
    obtain ⟨pe, hpe⟩ : ∃ z, z = (S.propose data).2.2 := ⟨_, rfl⟩
    obtain ⟨bb, hbb⟩ : ∃ z, z = decide (S.role = 2) := ⟨_, rfl⟩
    rw [← hS1] at HPR HSY HG1 HBB
    rw [← hpn, ← hpe] at HPR
    rw [← hpe, ← hbb] at HBB
    clear hg hS1 hpn hpe hbb
    clear hk
    by_cases hq0 : q = 0
    · have dq : decide ((q : Int) > 0) = false := decide_eq_false (by omega)
      have HB3 := HB1
      generalize w2 = w3 at *
      have x3 : w3.cell? ⟨w.heap.size, 3, none⟩ = some (.string data) := HB3.out.2.cell 3
      go_wp2_with fail
      refine (HPR.out w3 HB3.out.1).mono ?_
      rintro e w4 ⟨rfl, hs4, hc4⟩
      have hN4 := (HA.out.m.below HB3.out.1).srvs (X := X) (B1 := w4.heap.size) hc4 hc4.size (hs4.less (fun b hb => .inl (hb.elim id (fun h => by omega)))) (set_fst HP.out)
      obtain ⟨A4, c4, hm4⟩ := hs4.get (i := i) (g := g) (S := S1) (by rw [List.getElem?_set_self (List.getElem?_eq_some_iff.1 HP.out).1])
      have HRL := Lib.hid (Role_any w4 g S1.n (S1.role : Nat) hm4.c1 (by have := HG1.out.id; omega) hm4.c5)
      have H4 : Hid (NetM w4 B gN (fun b => X b ∨ (w4.heap.size ≤ b ∧ b < w4.heap.size)) (ps.set i (g, S1)) way Z v ∧ Chg (fun b => B ≤ b) w w4) := Lib.hid ⟨hN4, (Chg.of_below HB3.out.1).trans (hc4.mono (fun b hb => Nat.le_of_not_lt (fun h => hb (.inr h))))⟩
      clear hs4 hc4 hN4 hm4 x0 x3 c0 c1 cg
      go_wp2_with fail
      refine HRL.out.mono ?_
      rintro e w5 ⟨rfl, rfl⟩
      by_cases hb : bb = true
      · have r2 : ((S1.role : Int) == 2) = true := by rw [HBB.out.1]; exact hb
        have p0 : (pe == 0) = true := by rw [HBB.out.2]; exact hb
        go_wp2_with fail
        go_end0
        exact ⟨rfl, _, _, way, Z, v, ⟨H4.out.1, by rw [sv_set]; exact HSY.out, HA.out.o⟩, by have := HQ.out; omega, HSM.out, H4.out.2⟩
      · have r2 : ((S1.role : Int) == 2) = false := by rw [HBB.out.1]; simpa using hb
        have p0 : (pe == 0) = false := by rw [HBB.out.2]; simpa using hb
        go_wp2_with fail
        go_end0
        exact ⟨rfl, _, _, way, Z, v, ⟨H4.out.1, by rw [sv_set]; exact HSY.out, HA.out.o⟩, by have := HQ.out; omega, HSM.out, H4.out.2⟩
    · have dq : decide ((q : Int) > 0) = true := decide_eq_true (by omega)
      obtain ⟨j, hjq, hjw⟩ := rem_in (who := at_) (n := q) (by omega) (by omega)
      have j0 : (0 : Int) ≤ (j : Int) := by omega
      have j1 : (j : Int) < (q : Int) := by omega
      go_upto_region 4 with fail
      go_quiet (fail)
      rw [hjw]
      have HB3 : Hid (Below w.heap.size w (w2.drewN nq) ∧ Blk (w2.drewN nq) w.heap.size 89 #[.int .u8 (dd : Nat), .int .i64 who, .int .i64 at_, .string data]) := Lib.hid ⟨below_drewN HB1.out.1 _, HB1.out.2.drewN _⟩
      generalize w2.drewN nq = w3 at *
      clear x0 x2 c0 c1 cg
      have x0 : w3.cell? ⟨w.heap.size, 0, none⟩ = some (.int .u8 (dd : Nat)) := HB3.out.2.cell 0
      have c0 := (HC.out w3 HB3.out.1).1
      have c1 := (HC.out w3 HB3.out.1).2.1
      have cg := (HC.out w3 HB3.out.1).2.2
      have x3 : w3.cell? ⟨w.heap.size, 3, none⟩ = some (.string data) := HB3.out.2.cell 3
      go_wp2_with fail
      refine (HPR.out w3 HB3.out.1).mono ?_
      rintro e w4 ⟨rfl, hs4, hc4⟩
      have hN4 := (HA.out.m.below HB3.out.1).srvs (X := X) (B1 := w4.heap.size) hc4 hc4.size (hs4.less (fun b hb => .inl (hb.elim id (fun h => by omega)))) (set_fst HP.out)
      obtain ⟨A4, c4, hm4⟩ := hs4.get (i := i) (g := g) (S := S1) (by rw [List.getElem?_set_self (List.getElem?_eq_some_iff.1 HP.out).1])
      have HRL := Lib.hid (Role_any w4 g S1.n (S1.role : Nat) hm4.c1 (by have := HG1.out.id; omega) hm4.c5)
      have H4 : Hid (NetM w4 B gN (fun b => X b ∨ (w4.heap.size ≤ b ∧ b < w4.heap.size)) (ps.set i (g, S1)) way Z v ∧ Chg (fun b => B ≤ b) w w4) := Lib.hid ⟨hN4, (Chg.of_below HB3.out.1).trans (hc4.mono (fun b hb => Nat.le_of_not_lt (fun h => hb (.inr h))))⟩
      clear hs4 hc4 hN4 hm4 x0 x3 c0 c1 cg
      go_wp2_with fail
      refine HRL.out.mono ?_
      rintro e w5 ⟨rfl, rfl⟩
      by_cases hb : bb = true
      · have r2 : ((S1.role : Int) == 2) = true := by rw [HBB.out.1]; exact hb
        have p0 : (pe == 0) = true := by rw [HBB.out.2]; exact hb
        go_wp2_with fail
        go_end0
        exact ⟨rfl, _, _, way, Z, v, ⟨H4.out.1, by rw [sv_set]; exact HSY.out, HA.out.o⟩, by have := HQ.out; omega, HSM.out, H4.out.2⟩
      · have r2 : ((S1.role : Int) == 2) = false := by rw [HBB.out.1]; simpa using hb
        have p0 : (pe == 0) = false := by rw [HBB.out.2]; simpa using hb
        go_wp2_with fail
        go_end0
        exact ⟨rfl, _, _, way, Z, v, ⟨H4.out.1, by rw [sv_set]; exact HSY.out, HA.out.o⟩, by have := HQ.out; omega, HSM.out, H4.out.2⟩
  by_cases hk : dd = 5
  · have m0 : ((dd : Int) == 0) = false := by simp; omega
    have m1 : ((dd : Int) == 1) = false := by simp; omega
    have m2 : ((dd : Int) == 2) = false := by simp; omega
    have m3 : ((dd : Int) == 3) = false := by simp; omega
    have m4 : ((dd : Int) == 4) = false := by simp; omega
    have m5 : ((dd : Int) == 5) = true := by simp [hk]
    have hg : S.Good ∧ S.id = i ∧ S.n = n ∧ S.log.length ≤ d ∧ i < n := (HA.out.s.good (sv_at HP.out))
    have HSV := Lib.hid (fun W (hW : Below w.heap.size w W) => (show Calls Try.prog 31 #[.pointer (some ⟨g, 0, none⟩)] W (SavedPost W S.term S.vote S.log) by
      obtain ⟨A, c, hm⟩ := (HA.out.m.below hW).srv.get HP.out
      exact saved_any S g A c W hm (by have := hg.1.id; omega) hg.1.len))
    have HSY := Lib.hid (HA.out.s.again (sv_at HP.out))
    have HMB : Hid (mayB S.term S.vote S.log n = true) := Lib.hid (by
      unfold mayB
      rw [Bool.and_eq_true, decide_eq_true_eq]
      exact ⟨⟨hg.1.t0, hg.1.t1, hg.1.v0, by have := hg.1.v1; rw [hg.2.2.1] at this; exact this, hg.1.len⟩, hg.1.log⟩)
    have hl9 : S.log.length ≤ 4096 := hg.1.len
    have HNW := Lib.hid (fun W A c (hrd : RdE W A S.log) (h0 : A = none → c = 0) => new_any (i : Nat) (n : Nat) S.term S.vote S.log A c W hrd (by omega) h0)
    obtain ⟨T', hT'⟩ : ∃ z, z = Sv.begin_ i n S.term S.vote S.log := ⟨_, rfl⟩
    have HTT := Lib.hid hT'
    unfold SavedPost at HSV
    obtain ⟨l, hll⟩ : ∃ l, l = S.log.length := ⟨_, rfl⟩
    have HLL := Lib.hid hll
    rw [← hll] at HSV HNW
    clear hg hT' hll hl9
    clear hk
    by_cases hq0 : q = 0
    · have dq : decide ((q : Int) > 0) = false := decide_eq_false (by omega)
      have HB3 := HB1
      generalize w2 = w3 at *
      have x3 : w3.cell? ⟨w.heap.size, 3, none⟩ = some (.string data) := HB3.out.2.cell 3
      go_wp2_with fail
      refine (HSV.out w3 HB3.out.1).mono ?_
      rintro e w4 ⟨A1, c9, rfl, ho1, hb1⟩
      have H4 : Hid (w4.ownsRow w3.heap.size 39 2 (.slice A1 l c9) l (rowOf ecell S.log) ∧ Below w.heap.size w w4) := Lib.hid ⟨ho1, HB3.out.1.trans (hb1.mono HB3.out.1.size)⟩
      have HB0 : Hid (Blk (w4.alloc (.cells #[.int .i64 0, .int .i64 0, .slice none 0 0] 29)) w4.heap.size 29 #[.int .i64 0, .int .i64 0, .slice none 0 0]) := Lib.hid (Blk.new w4 _ _)
      have H5 : Hid (Below w.heap.size w (w4.alloc (.cells #[.int .i64 S.term, .int .i64 S.vote, .slice A1 l c9] 29)) ∧ Blk (w4.alloc (.cells #[.int .i64 S.term, .int .i64 S.vote, .slice A1 l c9] 29)) w4.heap.size 29 #[.int .i64 S.term, .int .i64 S.vote, .slice A1 l c9] ∧ (w4.alloc (.cells #[.int .i64 S.term, .int .i64 S.vote, .slice A1 l c9] 29)).ownsRow w3.heap.size 39 2 (.slice A1 l c9) l (rowOf ecell S.log)) := Lib.hid ⟨H4.out.2.alloc H4.out.2.size _, Blk.new _ _ _, own_below H4.out.1 ((Below.refl _ _).alloc (Nat.le_refl _) _)⟩
      clear ho1 hb1 x0 x3 c0 c1 cg
      go_wp2_with (first | (refine wpList_store_row rfl 29 (.tmp 11) (.tmp 111) rfl w4.heap.size #[.int .i64 S.term, .int .i64 S.vote, .slice A1 l c9] rfl rfl 29 #[.int .i64 0, .int .i64 0, .slice none 0 0] HB0.out (by kernel_rfl) rfl (by kernel_rfl) ?_; rw [World.setRow_alloc_new]) | fail)
      generalize w4.heap.size = b4 at *
      generalize w4.alloc (.cells #[.int .i64 S.term, .int .i64 S.vote, .slice A1 l c9] 29) = w5 at *
      have HF : Hid (∀ W, Below w5.heap.size w5 W → W.cell? ⟨gN, 0, none⟩ = some (.slice (some ⟨gl, 0, none⟩) n v.cl) ∧ W.heap[b4]? = some (.cells #[.int .i64 S.term, .int .i64 S.vote, .slice A1 l c9] 29 (0, 0))) := Lib.hid (fun W hW => ⟨(HC.out W (H5.out.1.trans (hW.mono H5.out.1.size))).1, H5.out.2.1.below hW H5.out.2.1.lt⟩)
      try simp only [Act.put, List.setIfInBounds_toArray, List.set_cons_succ, List.set_cons_zero]
      refine wp_region_plan (.q 0 (.q 1 (.q 2 (.q 3 (.q 4 (.q 5 (.q 6 (.a1 7 (.q 8 (.q 9 (.q 10 (.q 11 (.q 12 .fin))))))))))))) 7 (fun W => Below w5.heap.size w5 W) (by kernel_rfl) rfl (by kernel_rfl) (Below.refl _ _).drew ?_
      refine wpPlan_q rfl rfl rfl ?_; intro K hK
      go_big_quiet_op
      first | go_big_quiet_on | (refine ⟨_, fun _ _ => rfl, ?_⟩; go_big_quiet_on)
      refine wpPlan_q rfl rfl rfl ?_; intro K hK
      go_big_quiet_op
      first | go_big_quiet_on | (refine ⟨_, fun _ _ => rfl, ?_⟩; go_big_quiet_on)
      refine wpPlan_q rfl rfl rfl ?_; intro K hK
      go_big_quiet_op
      first | go_big_quiet_on | (refine ⟨_, fun _ _ => rfl, ?_⟩; go_big_quiet_on)
      refine wpPlan_q rfl rfl rfl ?_; intro K hK
      go_big_quiet_op
      first | go_big_quiet_on | (refine ⟨_, fun _ _ => rfl, ?_⟩; go_big_quiet_on)
      refine wpPlan_q rfl rfl rfl ?_; intro K hK
      refine ⟨(.slice (some ⟨gl, 0, none⟩) n v.cl), fun W hW => ?_, ?_⟩
      · have q0 := (HF.out W hW).1
        unfold Oper.quietAt Oper.quietUpon
        simp [go_sem, q0]
      refine hK _ ?_
      clear hK K
      try simp only [Act.put, List.setIfInBounds_toArray, List.set_cons_succ, List.set_cons_zero]
      refine wpPlan_q rfl rfl rfl ?_; intro K hK
      go_big_quiet_op
      first | go_big_quiet_on | (refine ⟨_, fun _ _ => rfl, ?_⟩; go_big_quiet_on)
      refine wpPlan_q rfl rfl rfl ?_; intro K hK
      refine quiet_load_row 29 (.tmp 11) rfl b4 rfl 29 #[.int .i64 S.term, .int .i64 S.vote, .slice A1 l c9] (0, 0) _ (fun W hW => (HF.out W hW).2) Try.underlying29 rfl (by kernel_rfl) ?_
      refine hK _ ?_
      clear hK K
      try simp only [Act.put, List.setIfInBounds_toArray, List.set_cons_succ, List.set_cons_zero]
      refine wpPlan_act false rfl rfl rfl ?_; intro K hK
      go_simp
      have hb5 : Below w.heap.size w w5.drew := H5.out.1.trans ((Below.refl w5.heap.size w5).drew.mono H5.out.1.size)
      refine (HNW.out w5.drew A1 c9 (.of_own ecell_len (own_below H5.out.2.2 (Below.refl w5.heap.size w5).drew) HLL.out) (by obtain ⟨A', c', e1, e2, e3⟩ := own_form2 H5.out.2.2; injection e1 with e4 e5 e6; subst e4; subst e6; exact e3)).mono ?_
      intro e w6 hn6
      obtain ⟨g', A', c', rfl, hg', hA', hm', hb6⟩ := new_fine hn6 hn7 hin HMB.out
      have HW6 : Hid (∃ A' c', SvM w6 g' T' A' c' ∧ (∀ b, SvT g' A' b → w.heap.size ≤ b) ∧ Below w.heap.size w w6) := Lib.hid ⟨A', c', by rw [HTT.out]; exact hm', fun b hb => by
        rcases hb with rfl | ⟨a, ha, rfl⟩
        · exact Nat.le_trans hb5.size hg'
        · exact Nat.le_trans hb5.size (hA' a ha), hb5.trans (hb6.mono hb5.size)⟩
      clear hn6 hg' hA' hm' hb6 hb5
      refine hK _ _ (fun h => by cases h) ?_
      clear hK K
      try simp only [Act.put, List.setIfInBounds_toArray, List.set_cons_succ, List.set_cons_zero]
      refine wpPlan_p rfl rfl rfl ?_; intro K hK
      go_big_quiet_op
      first | go_big_quiet_on | (refine ⟨_, fun _ _ => rfl, ?_⟩; go_big_quiet_on)
      refine wpPlan_p rfl rfl rfl ?_; intro K hK
      go_big_quiet_op
      first | go_big_quiet_on | (refine ⟨_, fun _ _ => rfl, ?_⟩; go_big_quiet_on)
      refine wpPlan_p rfl rfl rfl ?_; intro K hK
      go_big_quiet_op
      first | go_big_quiet_on | (refine ⟨_, fun _ _ => rfl, ?_⟩; go_big_quiet_on)
      refine wpPlan_p rfl rfl rfl ?_; intro K hK
      go_big_quiet_op
      first | go_big_quiet_on | (refine ⟨_, fun _ _ => rfl, ?_⟩; go_big_quiet_on)
      refine wpPlan_p rfl rfl rfl ?_; intro K hK
      go_big_quiet_op
      first | go_big_quiet_on | (refine ⟨_, fun _ _ => rfl, ?_⟩; go_big_quiet_on)
      refine wpPlan_fin ?_
      have H6 : Hid (∃ A' c', SvM w6 g' T' A' c' ∧ (∀ b, SvT g' A' b → w.heap.size ≤ b) ∧ Below w.heap.size w w6) := HW6
      clear HW6
      have cg : w6.cell? ⟨gl, i, none⟩ = some (.pointer (some ⟨g, 0, none⟩)) := by obtain ⟨_, _, _, _, hb⟩ := H6.out; exact (HC.out w6 hb).2.2
      have c0 : w6.cell? ⟨gN, 0, none⟩ = some (.slice (some ⟨gl, 0, none⟩) n v.cl) := by obtain ⟨_, _, _, _, hb⟩ := H6.out; exact (HC.out w6 hb).1
      have fg : w6.frozen? ⟨gl, i, none⟩ = false := by obtain ⟨_, _, _, _, hb⟩ := H6.out; obtain ⟨cur, hk⟩ := (HA.out.m.below hb).lBlk HV.out; exact hk.frozen i
      have H7 : Hid (NetM (w6.setCell ⟨gl, i, none⟩ (.pointer (some ⟨g', 0, none⟩))) B gN X (ps.set i (g', T')) way Z v ∧ Chg (fun b => B ≤ b) w (w6.setCell ⟨gl, i, none⟩ (.pointer (some ⟨g', 0, none⟩)))) := by obtain ⟨_, _, hm, hn, hb⟩ := H6.out; exact Lib.hid (HA.out.m.newSrv hb HP.out hm hn HV.out)
      have i7 : (i : Int) < 7 := by omega
      go_upto_region 29 with fail
      generalize w6.setCell ⟨gl, i, none⟩ (.pointer (some ⟨g', 0, none⟩)) = w7 at *
      have d3 := H7.out.1.c3 (k := i) (by omega)
      have f3 : w7.frozen? ⟨gN, 3 + i, none⟩ = false := H7.out.1.top.frozen (3 + i)
      clear cg c0 fg
      go_wp2_with fail
      go_end0
      have H8 := H7.out.1.setTold (i := i) (k := 0) (by omega)
      exact ⟨rfl, _, _, way, _, v, ⟨H8.1, by rw [sv_set, HTT.out]; exact HSY.out.more (Nat.le_succ d), HA.out.o⟩, by have := HQ.out; omega, ⟨HSM.out.1, HSM.out.2⟩, H7.out.2.trans (H8.2.mono (fun b hb => (HA.out.m.Xw b hb).1))⟩
    · have dq : decide ((q : Int) > 0) = true := decide_eq_true (by omega)
      obtain ⟨j, hjq, hjw⟩ := rem_in (who := at_) (n := q) (by omega) (by omega)
      have j0 : (0 : Int) ≤ (j : Int) := by omega
      have j1 : (j : Int) < (q : Int) := by omega
      go_upto_region 4 with fail
      go_quiet (fail)
      rw [hjw]
      have HB3 : Hid (Below w.heap.size w (w2.drewN nq) ∧ Blk (w2.drewN nq) w.heap.size 89 #[.int .u8 (dd : Nat), .int .i64 who, .int .i64 at_, .string data]) := Lib.hid ⟨below_drewN HB1.out.1 _, HB1.out.2.drewN _⟩
      generalize w2.drewN nq = w3 at *
      clear x0 x2 c0 c1 cg
      have x0 : w3.cell? ⟨w.heap.size, 0, none⟩ = some (.int .u8 (dd : Nat)) := HB3.out.2.cell 0
      have c0 := (HC.out w3 HB3.out.1).1
      have c1 := (HC.out w3 HB3.out.1).2.1
      have cg := (HC.out w3 HB3.out.1).2.2
      have x3 : w3.cell? ⟨w.heap.size, 3, none⟩ = some (.string data) := HB3.out.2.cell 3
      go_wp2_with fail
      refine (HSV.out w3 HB3.out.1).mono ?_
      rintro e w4 ⟨A1, c9, rfl, ho1, hb1⟩
      have H4 : Hid (w4.ownsRow w3.heap.size 39 2 (.slice A1 l c9) l (rowOf ecell S.log) ∧ Below w.heap.size w w4) := Lib.hid ⟨ho1, HB3.out.1.trans (hb1.mono HB3.out.1.size)⟩
      have HB0 : Hid (Blk (w4.alloc (.cells #[.int .i64 0, .int .i64 0, .slice none 0 0] 29)) w4.heap.size 29 #[.int .i64 0, .int .i64 0, .slice none 0 0]) := Lib.hid (Blk.new w4 _ _)
      have H5 : Hid (Below w.heap.size w (w4.alloc (.cells #[.int .i64 S.term, .int .i64 S.vote, .slice A1 l c9] 29)) ∧ Blk (w4.alloc (.cells #[.int .i64 S.term, .int .i64 S.vote, .slice A1 l c9] 29)) w4.heap.size 29 #[.int .i64 S.term, .int .i64 S.vote, .slice A1 l c9] ∧ (w4.alloc (.cells #[.int .i64 S.term, .int .i64 S.vote, .slice A1 l c9] 29)).ownsRow w3.heap.size 39 2 (.slice A1 l c9) l (rowOf ecell S.log)) := Lib.hid ⟨H4.out.2.alloc H4.out.2.size _, Blk.new _ _ _, own_below H4.out.1 ((Below.refl _ _).alloc (Nat.le_refl _) _)⟩
      clear ho1 hb1 x0 x3 c0 c1 cg
      go_wp2_with (first | (refine wpList_store_row rfl 29 (.tmp 11) (.tmp 111) rfl w4.heap.size #[.int .i64 S.term, .int .i64 S.vote, .slice A1 l c9] rfl rfl 29 #[.int .i64 0, .int .i64 0, .slice none 0 0] HB0.out (by kernel_rfl) rfl (by kernel_rfl) ?_; rw [World.setRow_alloc_new]) | fail)
      generalize w4.heap.size = b4 at *
      generalize w4.alloc (.cells #[.int .i64 S.term, .int .i64 S.vote, .slice A1 l c9] 29) = w5 at *
      have HF : Hid (∀ W, Below w5.heap.size w5 W → W.cell? ⟨gN, 0, none⟩ = some (.slice (some ⟨gl, 0, none⟩) n v.cl) ∧ W.heap[b4]? = some (.cells #[.int .i64 S.term, .int .i64 S.vote, .slice A1 l c9] 29 (0, 0))) := Lib.hid (fun W hW => ⟨(HC.out W (H5.out.1.trans (hW.mono H5.out.1.size))).1, H5.out.2.1.below hW H5.out.2.1.lt⟩)
      try simp only [Act.put, List.setIfInBounds_toArray, List.set_cons_succ, List.set_cons_zero]
      refine wp_region_plan (.q 0 (.q 1 (.q 2 (.q 3 (.q 4 (.q 5 (.q 6 (.a1 7 (.q 8 (.q 9 (.q 10 (.q 11 (.q 12 .fin))))))))))))) 7 (fun W => Below w5.heap.size w5 W) (by kernel_rfl) rfl (by kernel_rfl) (Below.refl _ _).drew ?_
      refine wpPlan_q rfl rfl rfl ?_; intro K hK
      go_big_quiet_op
      first | go_big_quiet_on | (refine ⟨_, fun _ _ => rfl, ?_⟩; go_big_quiet_on)
      refine wpPlan_q rfl rfl rfl ?_; intro K hK
      go_big_quiet_op
      first | go_big_quiet_on | (refine ⟨_, fun _ _ => rfl, ?_⟩; go_big_quiet_on)
      refine wpPlan_q rfl rfl rfl ?_; intro K hK
      go_big_quiet_op
      first | go_big_quiet_on | (refine ⟨_, fun _ _ => rfl, ?_⟩; go_big_quiet_on)
      refine wpPlan_q rfl rfl rfl ?_; intro K hK
      go_big_quiet_op
      first | go_big_quiet_on | (refine ⟨_, fun _ _ => rfl, ?_⟩; go_big_quiet_on)
      refine wpPlan_q rfl rfl rfl ?_; intro K hK
      refine ⟨(.slice (some ⟨gl, 0, none⟩) n v.cl), fun W hW => ?_, ?_⟩
      · have q0 := (HF.out W hW).1
        unfold Oper.quietAt Oper.quietUpon
        simp [go_sem, q0]
      refine hK _ ?_
      clear hK K
      try simp only [Act.put, List.setIfInBounds_toArray, List.set_cons_succ, List.set_cons_zero]
      refine wpPlan_q rfl rfl rfl ?_; intro K hK
      go_big_quiet_op
      first | go_big_quiet_on | (refine ⟨_, fun _ _ => rfl, ?_⟩; go_big_quiet_on)
      refine wpPlan_q rfl rfl rfl ?_; intro K hK
      refine quiet_load_row 29 (.tmp 11) rfl b4 rfl 29 #[.int .i64 S.term, .int .i64 S.vote, .slice A1 l c9] (0, 0) _ (fun W hW => (HF.out W hW).2) Try.underlying29 rfl (by kernel_rfl) ?_
      refine hK _ ?_
      clear hK K
      try simp only [Act.put, List.setIfInBounds_toArray, List.set_cons_succ, List.set_cons_zero]
      refine wpPlan_act false rfl rfl rfl ?_; intro K hK
      go_simp
      have hb5 : Below w.heap.size w w5.drew := H5.out.1.trans ((Below.refl w5.heap.size w5).drew.mono H5.out.1.size)
      refine (HNW.out w5.drew A1 c9 (.of_own ecell_len (own_below H5.out.2.2 (Below.refl w5.heap.size w5).drew) HLL.out) (by obtain ⟨A', c', e1, e2, e3⟩ := own_form2 H5.out.2.2; injection e1 with e4 e5 e6; subst e4; subst e6; exact e3)).mono ?_
      intro e w6 hn6
      obtain ⟨g', A', c', rfl, hg', hA', hm', hb6⟩ := new_fine hn6 hn7 hin HMB.out
      have HW6 : Hid (∃ A' c', SvM w6 g' T' A' c' ∧ (∀ b, SvT g' A' b → w.heap.size ≤ b) ∧ Below w.heap.size w w6) := Lib.hid ⟨A', c', by rw [HTT.out]; exact hm', fun b hb => by
        rcases hb with rfl | ⟨a, ha, rfl⟩
        · exact Nat.le_trans hb5.size hg'
        · exact Nat.le_trans hb5.size (hA' a ha), hb5.trans (hb6.mono hb5.size)⟩
      clear hn6 hg' hA' hm' hb6 hb5
      refine hK _ _ (fun h => by cases h) ?_
      clear hK K
      try simp only [Act.put, List.setIfInBounds_toArray, List.set_cons_succ, List.set_cons_zero]
      refine wpPlan_p rfl rfl rfl ?_; intro K hK
      go_big_quiet_op
      first | go_big_quiet_on | (refine ⟨_, fun _ _ => rfl, ?_⟩; go_big_quiet_on)
      refine wpPlan_p rfl rfl rfl ?_; intro K hK
      go_big_quiet_op
      first | go_big_quiet_on | (refine ⟨_, fun _ _ => rfl, ?_⟩; go_big_quiet_on)
      refine wpPlan_p rfl rfl rfl ?_; intro K hK
      go_big_quiet_op
      first | go_big_quiet_on | (refine ⟨_, fun _ _ => rfl, ?_⟩; go_big_quiet_on)
      refine wpPlan_p rfl rfl rfl ?_; intro K hK
      go_big_quiet_op
      first | go_big_quiet_on | (refine ⟨_, fun _ _ => rfl, ?_⟩; go_big_quiet_on)
      refine wpPlan_p rfl rfl rfl ?_; intro K hK
      go_big_quiet_op
      first | go_big_quiet_on | (refine ⟨_, fun _ _ => rfl, ?_⟩; go_big_quiet_on)
      refine wpPlan_fin ?_
      have H6 : Hid (∃ A' c', SvM w6 g' T' A' c' ∧ (∀ b, SvT g' A' b → w.heap.size ≤ b) ∧ Below w.heap.size w w6) := HW6
      clear HW6
      have cg : w6.cell? ⟨gl, i, none⟩ = some (.pointer (some ⟨g, 0, none⟩)) := by obtain ⟨_, _, _, _, hb⟩ := H6.out; exact (HC.out w6 hb).2.2
      have c0 : w6.cell? ⟨gN, 0, none⟩ = some (.slice (some ⟨gl, 0, none⟩) n v.cl) := by obtain ⟨_, _, _, _, hb⟩ := H6.out; exact (HC.out w6 hb).1
      have fg : w6.frozen? ⟨gl, i, none⟩ = false := by obtain ⟨_, _, _, _, hb⟩ := H6.out; obtain ⟨cur, hk⟩ := (HA.out.m.below hb).lBlk HV.out; exact hk.frozen i
      have H7 : Hid (NetM (w6.setCell ⟨gl, i, none⟩ (.pointer (some ⟨g', 0, none⟩))) B gN X (ps.set i (g', T')) way Z v ∧ Chg (fun b => B ≤ b) w (w6.setCell ⟨gl, i, none⟩ (.pointer (some ⟨g', 0, none⟩)))) := by obtain ⟨_, _, hm, hn, hb⟩ := H6.out; exact Lib.hid (HA.out.m.newSrv hb HP.out hm hn HV.out)
      have i7 : (i : Int) < 7 := by omega
      go_upto_region 29 with fail
      generalize w6.setCell ⟨gl, i, none⟩ (.pointer (some ⟨g', 0, none⟩)) = w7 at *
      have d3 := H7.out.1.c3 (k := i) (by omega)
      have f3 : w7.frozen? ⟨gN, 3 + i, none⟩ = false := H7.out.1.top.frozen (3 + i)
      clear cg c0 fg
      go_wp2_with fail
      go_end0
      have H8 := H7.out.1.setTold (i := i) (k := 0) (by omega)
      exact ⟨rfl, _, _, way, _, v, ⟨H8.1, by rw [sv_set, HTT.out]; exact HSY.out.more (Nat.le_succ d), HA.out.o⟩, by have := HQ.out; omega, ⟨HSM.out.1, HSM.out.2⟩, H7.out.2.trans (H8.2.mono (fun b hb => (HA.out.m.Xw b hb).1))⟩
  by_cases hk : dd = 6
  · have m0 : ((dd : Int) == 0) = false := by simp; omega
    have m1 : ((dd : Int) == 1) = false := by simp; omega
    have m2 : ((dd : Int) == 2) = false := by simp; omega
    have m3 : ((dd : Int) == 3) = false := by simp; omega
    have m4 : ((dd : Int) == 4) = false := by simp; omega
    have m5 : ((dd : Int) == 5) = false := by simp; omega
    have m6 : ((dd : Int) == 6) = true := by simp [hk]
    skip
    clear hk
    by_cases hq0 : q = 0
    · have dq : decide ((q : Int) > 0) = false := decide_eq_false (by omega)
      have HB3 := HB1
      generalize w2 = w3 at *
      have x3 : w3.cell? ⟨w.heap.size, 3, none⟩ = some (.string data) := HB3.out.2.cell 3
      go_wp2_with fail
      go_loopw [15] (fun s15 wr => ∃ r : Nat, s15 = .int .i64 (r : Nat) ∧ r ≤ q ∧ ∃ X ps way Z v, Up wr B gN n (d + 1) X ps way Z v ∧ q ≤ way.length + r ∧ way.length ≤ q + 7 * r ∧ Z.Same Z0 ∧ Chg (fun b => B ≤ b) w wr) (fun s15 _ => q - (intOf s15).toNat)
      case atStart => exact ⟨0, rfl, by omega, X, ps, way, Z, v, ⟨HA.out.m.below HB3.out.1, HA.out.s.more (Nat.le_succ d), HA.out.o⟩, by have := HQ.out; omega, by have := HQ.out; omega, HSM.out, .of_below HB3.out.1⟩
      case round =>
        clear HA HC HP HV HQ HSM
        obtain ⟨r, rfl, hr, X, ps, way, Z, v, hU, hlo, hhi, hsm, hch⟩ := hrel
        have HSM := Lib.hid hsm
        clear hsm
        by_cases hlt : r < q
        · have dr : decide ((r : Int) < (q : Int)) = true := decide_eq_true (by omega)
          have hrq : (r : Int) < (q : Int) := by omega
          omega
        · have dr : decide ((r : Int) < (q : Int)) = false := decide_eq_false (by omega)
          go_wp2_with fail
          go_end0
          exact ⟨rfl, X, ps, way, Z, v, hU, by omega, HSM.out, hch⟩
    · have dq : decide ((q : Int) > 0) = true := decide_eq_true (by omega)
      obtain ⟨j, hjq, hjw⟩ := rem_in (who := at_) (n := q) (by omega) (by omega)
      have j0 : (0 : Int) ≤ (j : Int) := by omega
      have j1 : (j : Int) < (q : Int) := by omega
      go_upto_region 4 with fail
      go_quiet (fail)
      rw [hjw]
      have HB3 : Hid (Below w.heap.size w (w2.drewN nq) ∧ Blk (w2.drewN nq) w.heap.size 89 #[.int .u8 (dd : Nat), .int .i64 who, .int .i64 at_, .string data]) := Lib.hid ⟨below_drewN HB1.out.1 _, HB1.out.2.drewN _⟩
      generalize w2.drewN nq = w3 at *
      clear x0 x2 c0 c1 cg
      have x0 : w3.cell? ⟨w.heap.size, 0, none⟩ = some (.int .u8 (dd : Nat)) := HB3.out.2.cell 0
      have c0 := (HC.out w3 HB3.out.1).1
      have c1 := (HC.out w3 HB3.out.1).2.1
      have cg := (HC.out w3 HB3.out.1).2.2
      have x3 : w3.cell? ⟨w.heap.size, 3, none⟩ = some (.string data) := HB3.out.2.cell 3
      go_wp2_with fail
      go_loopw [15] (fun s15 wr => ∃ r : Nat, s15 = .int .i64 (r : Nat) ∧ r ≤ q ∧ ∃ X ps way Z v, Up wr B gN n (d + 1) X ps way Z v ∧ q ≤ way.length + r ∧ way.length ≤ q + 7 * r ∧ Z.Same Z0 ∧ Chg (fun b => B ≤ b) w wr) (fun s15 _ => q - (intOf s15).toNat)
      case atStart => exact ⟨0, rfl, by omega, X, ps, way, Z, v, ⟨HA.out.m.below HB3.out.1, HA.out.s.more (Nat.le_succ d), HA.out.o⟩, by have := HQ.out; omega, by have := HQ.out; omega, HSM.out, .of_below HB3.out.1⟩
      case round =>
        clear HA HC HP HV HQ HSM
        obtain ⟨r, rfl, hr, X, ps, way, Z, v, hU, hlo, hhi, hsm, hch⟩ := hrel
        have HSM := Lib.hid hsm
        clear hsm
        by_cases hlt : r < q
        · have dr : decide ((r : Int) < (q : Int)) = true := decide_eq_true (by omega)
          have hrq : (r : Int) < (q : Int) := by omega
          cases way with
          | nil => simp at hlo; omega
          | cons x rest =>
            have hpl := hU.n
            obtain ⟨gw, off, hAw, hcw, hcm, htl⟩ := hU.m.tail
            obtain ⟨gw', off', e1, hcell⟩ := hU.m.wayAt (i := 0) (x := x) rfl
            rw [hAw] at e1
            injection e1 with e1
            injection e1 with e1 e2
            subst e1
            subst e2
            have hmo := hU.o _ List.mem_cons_self
            have hto := hU.s.toAt (List.mem_map_of_mem (f := fun y : Mx => y.1) (List.mem_cons_self (a := x) (l := rest)))
            have hen := hU.m.ent _ List.mem_cons_self
            have HX := Lib.hid (And.intro hmo (And.intro hto (And.intro hto hen)))
            have HUO := Lib.hid hU.o
            obtain ⟨m, E, ec⟩ := x
            have HRG : Hid (wr.rangeAt gw off (xcell (m, E, ec))) := Lib.hid (fun jj u hu => by
              have := hcell jj u hu
              rw [Nat.zero_mul, Nat.add_zero] at this
              exact this)
            have c1 := hU.m.c1
            rw [hAw, List.length_cons] at c1
            have f1 : wr.frozen? ⟨gN, 1, none⟩ = false := hU.m.top.frozen 1
            have HTOP := Lib.hid hU.m.top
            have hcwl : v.cw = v.cw := rfl
            clear hmo hen hcell
            obtain ⟨M, hM⟩ : ∃ z, z = m := ⟨_, rfl⟩
            have HM := Lib.hid hM
            rw [← hM] at HX
            dsimp only at hto
            rw [← hM] at hto
            obtain ⟨i', hi'⟩ : ∃ i' : Nat, M.to = (i' : Int) := ⟨M.to.toNat, by omega⟩
            have hin' : i' < ps.length := by omega
            obtain ⟨p', hp'⟩ : ∃ p, ps[i']? = some p := ⟨_, List.getElem?_eq_getElem hin'⟩
            obtain ⟨g', S'⟩ := p'
            have HGD := Lib.hid (hU.s.good (sv_at hp')).1
            have HF := Lib.hid (handle_fine HGD.out HX.out.1)
            have HSY : Hid (Sys n ((ps.map (·.2)).set i' (S'.handle M).1) (rest.map (·.1) ++ (S'.handle M).2) Z (d + 1)) := Lib.hid ((hU.s.handle (sv_at hp') (m := M) (by rw [HM.out]; exact List.mem_map_of_mem List.mem_cons_self)).less (way' := rest.map (·.1) ++ (S'.handle M).2) (fun y hy => by
              rcases List.mem_append.1 hy with hy | hy
              · exact List.mem_append_left _ (List.mem_cons_of_mem _ hy)
              · exact List.mem_append_right _ hy))
            clear hM hto hin'
            obtain ⟨mk, frm, dst, term, index, logTerm, ents, commit, mok⟩ := m
            dsimp only [xcell, mcell] at HRG
            obtain ⟨ne, hne⟩ : ∃ z, z = ents.length := ⟨_, rfl⟩
            have HNE := Lib.hid hne
            rw [← hne] at HRG
            clear hne
            have HB0 : Hid (Blk (wr.alloc (.cells #[.int .u8 0, .int .i64 0, .int .i64 0, .int .i64 0, .int .i64 0, .int .i64 0, .slice none 0 0, .int .i64 0, .bool false] 34)) wr.heap.size 34 #[.int .u8 0, .int .i64 0, .int .i64 0, .int .i64 0, .int .i64 0, .int .i64 0, .slice none 0 0, .int .i64 0, .bool false]) := Lib.hid (Blk.new wr _ _)
            have HL4 : Hid (Below wr.heap.size wr (wr.alloc (.cells #[.int .u8 (mk : Nat), .int .i64 frm, .int .i64 dst, .int .i64 term, .int .i64 index, .int .i64 logTerm, .slice E ne ec, .int .i64 commit, .bool mok] 34)) ∧ Blk (wr.alloc (.cells #[.int .u8 (mk : Nat), .int .i64 frm, .int .i64 dst, .int .i64 term, .int .i64 index, .int .i64 logTerm, .slice E ne ec, .int .i64 commit, .bool mok] 34)) wr.heap.size 34 #[.int .u8 (mk : Nat), .int .i64 frm, .int .i64 dst, .int .i64 term, .int .i64 index, .int .i64 logTerm, .slice E ne ec, .int .i64 commit, .bool mok] ∧ Blk (wr.alloc (.cells #[.int .u8 (mk : Nat), .int .i64 frm, .int .i64 dst, .int .i64 term, .int .i64 index, .int .i64 logTerm, .slice E ne ec, .int .i64 commit, .bool mok] 34)) gN 54 (netCells v ps.length (rest.length + 1) Z).toArray) := Lib.hid ⟨(Below.refl _ _).alloc (Nat.le_refl _) _, Blk.new _ _ _, hU.m.top.below ((Below.refl _ _).alloc (Nat.le_refl _) _) hU.m.top.lt⟩
            have HNX := Lib.hid hU.m.Xw
            obtain ⟨gw2, off2, e3, _, _, htl2⟩ := (hU.m.below HL4.out.1).tail
            rw [hAw] at e3
            injection e3 with e3
            injection e3 with e3 e4
            subst e3
            subst e4
            have HTL := Lib.hid htl2
            clear htl2 hAw
            have HCH := Lib.hid hch
            have HLN := Lib.hid (And.intro hlo hhi)
            rw [List.length_cons] at HLN
            clear hU hch hlo hhi htl
            obtain ⟨rl, hrl⟩ : ∃ z, z = rest.length := ⟨_, rfl⟩
            have HLR := Lib.hid hrl
            rw [← hrl] at c1 hcw
            have i1 : (0 : Int) < (rl : Int) + 1 := by omega
            have i2 : (1 : Int) ≤ (rl : Int) + 1 := by omega
            clear hrl
            go_upto_region 35 with fail
            go_upto_region 36 with (first | (refine wpList_load_mid rfl 34 (.tmp 156) rfl gw off rfl [.int .u8 (mk : Nat), .int .i64 frm, .int .i64 dst, .int .i64 term, .int .i64 index, .int .i64 logTerm, .slice E ne ec, .int .i64 commit, .bool mok] (.struct _) HRG.out Try.underlying34 rfl (by kernel_rfl) ?_) | (refine wpList_store_row rfl 34 (.tmp 16) (.tmp 157) rfl wr.heap.size #[.int .u8 (mk : Nat), .int .i64 frm, .int .i64 dst, .int .i64 term, .int .i64 index, .int .i64 logTerm, .slice E ne ec, .int .i64 commit, .bool mok] rfl rfl 34 #[.int .u8 0, .int .i64 0, .int .i64 0, .int .i64 0, .int .i64 0, .int .i64 0, .slice none 0 0, .int .i64 0, .bool false] HB0.out (by kernel_rfl) rfl (by kernel_rfl) ?_; rw [World.setRow_alloc_new]) | fail)
            have d1 : (wr.alloc (.cells #[.int .u8 (mk : Nat), .int .i64 frm, .int .i64 dst, .int .i64 term, .int .i64 index, .int .i64 logTerm, .slice E ne ec, .int .i64 commit, .bool mok] 34)).cell? ⟨gN, 1, none⟩ = some (.slice (some ⟨gw, off, none⟩) (rl + 1) v.cw) := (HL4.out.2.2.cell 1).trans ((HTOP.out.cell 1).symm.trans c1)
            have d2 : (wr.alloc (.cells #[.int .u8 (mk : Nat), .int .i64 frm, .int .i64 dst, .int .i64 term, .int .i64 index, .int .i64 logTerm, .slice E ne ec, .int .i64 commit, .bool mok] 34)).frozen? ⟨gN, 1, none⟩ = false := HL4.out.2.2.frozen 1
            generalize hb3 : wr.heap.size = b3 at *
            generalize wr.alloc (.cells #[.int .u8 (mk : Nat), .int .i64 frm, .int .i64 dst, .int .i64 term, .int .i64 index, .int .i64 logTerm, .slice E ne ec, .int .i64 commit, .bool mok] 34) = w4 at *
            clear c1 f1 HB0 HRG
            have f1 := d2
            clear d2
            obtain ⟨cw, hcw0⟩ : ∃ z, z = v.cw := ⟨_, rfl⟩
            rw [← hcw0] at d1 hcw hcm HTL
            clear hcw0 hcwl
            by_cases hcc : cw = 1
            · have hrl : rl = 0 := by omega
              subst hcc
              subst hrl
              have H5 : Hid (NetM (w4.setCell ⟨gN, 1, none⟩ (.slice (some ⟨gw, off, none⟩) 0 0)) B gN X ps rest Z { v with Aw := some ⟨gw, off, none⟩, cw := 1 - 1 } ∧ Chg (fun b => B ≤ b) w (w4.setCell ⟨gN, 1, none⟩ (.slice (some ⟨gw, off, none⟩) 0 0)) ∧ Blk (w4.setCell ⟨gN, 1, none⟩ (.slice (some ⟨gw, off, none⟩) 0 0)) b3 34 #[.int .u8 (mk : Nat), .int .i64 frm, .int .i64 dst, .int .i64 term, .int .i64 index, .int .i64 logTerm, .slice E ne ec, .int .i64 commit, .bool mok] ∧ (w4.setCell ⟨gN, 1, none⟩ (.slice (some ⟨gw, off, none⟩) 0 0)).ownsRow 0 39 2 (.slice E M.ents.length ec) M.ents.length (rowOf ecell M.ents) ∧ ∀ b, (Value.slice E M.ents.length ec).ownBlock = some b → X b) := Lib.hid (by
                obtain ⟨hN5, hc5⟩ := HTL.out (some ⟨gw, off, none⟩) (if_pos rfl).symm
                rw [← HLR.out] at hN5 hc5
                exact ⟨hN5, HCH.out.trans (((Chg.of_below (w := wr) (w' := w4) (by rw [hb3]; exact HL4.out.1)).trans (hc5.mono (fun b hb => (HNX.out b hb).1)))), HL4.out.2.1.chg hc5 (fun hb => absurd (HNX.out _ hb).2 (Nat.lt_irrefl _)), by
                  have h0 := own_below (w' := w4) HX.out.2.2.2.1 (by rw [hb3]; exact HL4.out.1)
                  exact own_chg h0 (Chg.setCell (T := fun b => b = gN) (Chg.refl _ _) (p := ⟨gN, 1, none⟩) rfl _) (fun g hg hg2 => own_blk_ne h0 HL4.out.2.2 (by decide) (hg.trans (congrArg some hg2))), HX.out.2.2.2.2⟩)
              go_upto_region 37 with fail
              generalize w4.setCell ⟨gN, 1, none⟩ (.slice (some ⟨gw, off, none⟩) 0 0) = w5 at *
              clear d1 f1
              have HCO := Lib.hid (come_any H5.out.1 hp' HGD.out HX.out.1 hi' H5.out.2.2.2.1 H5.out.2.2.2.2 (by have := HLN.out; omega) (by omega) HF.out.len)
              clear hi' hp'
              generalize S'.handle M = hh at *
              rw [HM.out] at HCO
              dsimp only [mcell] at HCO
              rw [← HNE.out] at HCO
              go_wp2_with (first | (refine wpList_load_row rfl 34 (.tmp 16) rfl b3 rfl 34 #[.int .u8 (mk : Nat), .int .i64 frm, .int .i64 dst, .int .i64 term, .int .i64 index, .int .i64 logTerm, .slice E ne ec, .int .i64 commit, .bool mok] (0, 0) _ H5.out.2.2.1 Try.underlying34 rfl (by kernel_rfl) ?_) | fail)
              refine HCO.out.mono ?_
              rintro e w6 ⟨rfl, X6, zs, v6, hN6, hz6, hc6⟩
              have H6 := Lib.hid (And.intro hN6 (And.intro hz6 hc6))
              clear hN6 hz6 hc6
              go_wp2_with fail
              go_roundw
              case rel =>
                have hzl : zs.length = hh.2.length := by rw [← H6.out.2.1, List.length_map]
                have := HLN.out
                have := HF.out.len
                exact ⟨r + 1, by go_num, by omega, X6, _, _, _, v6, ⟨H6.out.1, by rw [sv_set, List.map_append, H6.out.2.1]; exact HSY.out, fun y hy => by
                  rcases List.mem_append.1 hy with hy | hy
                  · exact HUO.out y (List.mem_cons_of_mem _ hy)
                  · exact HF.out.ok y.1 (by rw [← H6.out.2.1]; exact List.mem_map_of_mem hy)⟩, by rw [List.length_append]; omega, by rw [List.length_append]; omega, HSM.out, H5.out.2.1.trans H6.out.2.2⟩
              case measure => simp [intOf]; omega
            · have hcc2 : (1 : Int) ≤ (cw : Int) := by omega
              have H5 : Hid (NetM (w4.setCell ⟨gN, 1, none⟩ (.slice (some ⟨gw, off + 9, none⟩) rl (cw - 1))) B gN X ps rest Z { v with Aw := some ⟨gw, off + 9, none⟩, cw := cw - 1 } ∧ Chg (fun b => B ≤ b) w (w4.setCell ⟨gN, 1, none⟩ (.slice (some ⟨gw, off + 9, none⟩) rl (cw - 1))) ∧ Blk (w4.setCell ⟨gN, 1, none⟩ (.slice (some ⟨gw, off + 9, none⟩) rl (cw - 1))) b3 34 #[.int .u8 (mk : Nat), .int .i64 frm, .int .i64 dst, .int .i64 term, .int .i64 index, .int .i64 logTerm, .slice E ne ec, .int .i64 commit, .bool mok] ∧ (w4.setCell ⟨gN, 1, none⟩ (.slice (some ⟨gw, off + 9, none⟩) rl (cw - 1))).ownsRow 0 39 2 (.slice E M.ents.length ec) M.ents.length (rowOf ecell M.ents) ∧ ∀ b, (Value.slice E M.ents.length ec).ownBlock = some b → X b) := Lib.hid (by
                obtain ⟨hN5, hc5⟩ := HTL.out (some ⟨gw, off + 9, none⟩) (if_neg hcc).symm
                rw [← HLR.out] at hN5 hc5
                exact ⟨hN5, HCH.out.trans (((Chg.of_below (w := wr) (w' := w4) (by rw [hb3]; exact HL4.out.1)).trans (hc5.mono (fun b hb => (HNX.out b hb).1)))), HL4.out.2.1.chg hc5 (fun hb => absurd (HNX.out _ hb).2 (Nat.lt_irrefl _)), by
                  have h0 := own_below (w' := w4) HX.out.2.2.2.1 (by rw [hb3]; exact HL4.out.1)
                  exact own_chg h0 (Chg.setCell (T := fun b => b = gN) (Chg.refl _ _) (p := ⟨gN, 1, none⟩) rfl _) (fun g hg hg2 => own_blk_ne h0 HL4.out.2.2 (by decide) (hg.trans (congrArg some hg2))), HX.out.2.2.2.2⟩)
              go_upto_region 37 with fail
              generalize w4.setCell ⟨gN, 1, none⟩ (.slice (some ⟨gw, off + 9, none⟩) rl (cw - 1)) = w5 at *
              clear d1 f1
              have HCO := Lib.hid (come_any H5.out.1 hp' HGD.out HX.out.1 hi' H5.out.2.2.2.1 H5.out.2.2.2.2 (by have := HLN.out; omega) (by omega) HF.out.len)
              clear hi' hp'
              generalize S'.handle M = hh at *
              rw [HM.out] at HCO
              dsimp only [mcell] at HCO
              rw [← HNE.out] at HCO
              go_wp2_with (first | (refine wpList_load_row rfl 34 (.tmp 16) rfl b3 rfl 34 #[.int .u8 (mk : Nat), .int .i64 frm, .int .i64 dst, .int .i64 term, .int .i64 index, .int .i64 logTerm, .slice E ne ec, .int .i64 commit, .bool mok] (0, 0) _ H5.out.2.2.1 Try.underlying34 rfl (by kernel_rfl) ?_) | fail)
              refine HCO.out.mono ?_
              rintro e w6 ⟨rfl, X6, zs, v6, hN6, hz6, hc6⟩
              have H6 := Lib.hid (And.intro hN6 (And.intro hz6 hc6))
              clear hN6 hz6 hc6
              go_wp2_with fail
              go_roundw
              case rel =>
                have hzl : zs.length = hh.2.length := by rw [← H6.out.2.1, List.length_map]
                have := HLN.out
                have := HF.out.len
                exact ⟨r + 1, by go_num, by omega, X6, _, _, _, v6, ⟨H6.out.1, by rw [sv_set, List.map_append, H6.out.2.1]; exact HSY.out, fun y hy => by
                  rcases List.mem_append.1 hy with hy | hy
                  · exact HUO.out y (List.mem_cons_of_mem _ hy)
                  · exact HF.out.ok y.1 (by rw [← H6.out.2.1]; exact List.mem_map_of_mem hy)⟩, by rw [List.length_append]; omega, by rw [List.length_append]; omega, HSM.out, H5.out.2.1.trans H6.out.2.2⟩
              case measure => simp [intOf]; omega
        · have dr : decide ((r : Int) < (q : Int)) = false := decide_eq_false (by omega)
          go_wp2_with fail
          go_end0
          exact ⟨rfl, X, ps, way, Z, v, hU, by omega, HSM.out, hch⟩
  have m0 : ((dd : Int) == 0) = false := by simp; omega
  have m1 : ((dd : Int) == 1) = false := by simp; omega
  have m2 : ((dd : Int) == 2) = false := by simp; omega
  have m3 : ((dd : Int) == 3) = false := by simp; omega
  have m4 : ((dd : Int) == 4) = false := by simp; omega
  have m5 : ((dd : Int) == 5) = false := by simp; omega
  have m6 : ((dd : Int) == 6) = false := by simp; omega
  by_cases hq0 : q = 0
  · have dq : decide ((q : Int) > 0) = false := decide_eq_false (by omega)
    have HB3 := HB1
    generalize w2 = w3 at *
    have x3 : w3.cell? ⟨w.heap.size, 3, none⟩ = some (.string data) := HB3.out.2.cell 3
    go_wp2_with fail
    go_end0
    exact ⟨rfl, X, ps, way, Z, v, ⟨HA.out.m.below HB3.out.1, HA.out.s.more (Nat.le_succ d), HA.out.o⟩, by have := HQ.out; omega, HSM.out, .of_below HB3.out.1⟩
  · have dq : decide ((q : Int) > 0) = true := decide_eq_true (by omega)
    obtain ⟨j, hjq, hjw⟩ := rem_in (who := at_) (n := q) (by omega) (by omega)
    have j0 : (0 : Int) ≤ (j : Int) := by omega
    have j1 : (j : Int) < (q : Int) := by omega
    go_upto_region 4 with fail
    go_quiet (fail)
    rw [hjw]
    have HB3 : Hid (Below w.heap.size w (w2.drewN nq) ∧ Blk (w2.drewN nq) w.heap.size 89 #[.int .u8 (dd : Nat), .int .i64 who, .int .i64 at_, .string data]) := Lib.hid ⟨below_drewN HB1.out.1 _, HB1.out.2.drewN _⟩
    generalize w2.drewN nq = w3 at *
    clear x0 x2 c0 c1 cg
    have x0 : w3.cell? ⟨w.heap.size, 0, none⟩ = some (.int .u8 (dd : Nat)) := HB3.out.2.cell 0
    have c0 := (HC.out w3 HB3.out.1).1
    have c1 := (HC.out w3 HB3.out.1).2.1
    have cg := (HC.out w3 HB3.out.1).2.2
    have x3 : w3.cell? ⟨w.heap.size, 3, none⟩ = some (.string data) := HB3.out.2.cell 3
    go_wp2_with fail
    go_end0
    exact ⟨rfl, X, ps, way, Z, v, ⟨HA.out.m.below HB3.out.1, HA.out.s.more (Nat.le_succ d), HA.out.o⟩, by have := HQ.out; omega, HSM.out, .of_below HB3.out.1⟩
end Go.Proofs.Ytjodglepaeomiaa
