/- The contract of told: two caches that read alike tell themselves alike. -/
import Derived.Deep.QuietTactic
import Derived.BigQuiet
import Derived.Test.YtnipmhidiiondaaDuo
namespace Go.Proofs.Ytnipmhidiiondaa
open Go.RowKit Go.Maps

theorem len_cq (g : Nat) (A : Abs) (p : Pls) (w : World) (h : CRep w g A p) :
    Calls Try.prog 14 #[.pointer (some ⟨g, 0, none⟩)] w fun e w' => e = .returned (.int .i64 (A.L.length : Nat)) ∧ w' = w := by
  obtain ⟨S, q, hh⟩ := h
  have := len_any g S p w hh.rep
  rw [hh.inv.m] at this
  exact this
theorem room_c (g : Nat) (A : Abs) (p : Pls) (w : World) (h : CRep w g A p) :
    Calls Try.prog 36 #[.pointer (some ⟨g, 0, none⟩)] w fun e w' => e = .returned (.int .i64 (A.room : Nat)) ∧ w' = w := by
  obtain ⟨S, q, hh⟩ := h
  have := room_any g S p w hh.rep
  rw [hh.room] at this
  exact this
theorem counts_c (g : Nat) (A : Abs) (p : Pls) (w : World) (h : CRep w g A p) :
    Calls Try.prog 46 #[.pointer (some ⟨g, 0, none⟩)] w fun e w' => e = .returned (.tuple #[.int .i64 (A.hits : Nat), .int .i64 (A.misses : Nat)]) ∧ ∃ n, w' = w.drewN n := by
  obtain ⟨S, q, hh⟩ := h
  have := counts_any g S p w hh.rep
  rw [hh.hits, hh.misses] at this
  exact this
set_option maxHeartbeats 4000000 in
theorem told_any (gc gd : Nat) (A : Abs) (pc : Pls) (AL : Option Addr) (cap : Nat) (w : World) (hc : CRep w gc A pc) (hd : RR w gd A AL cap) :
    Calls Try.prog 25 #[.pointer (some ⟨gc, 0, none⟩), .pointer (some ⟨gd, 0, none⟩)] w fun e w' => e = .returned (.bool true) ∧ Below w.heap.size w w' := by
  have hl := hc.facts
  have HC := Lib.hid hc
  have HD := Lib.hid hd
  obtain ⟨N, hN⟩ : ∃ N, N = A.L.map (·.1) := ⟨_, rfl⟩
  obtain ⟨n, hn⟩ : ∃ n, n = A.L.length := ⟨_, rfl⟩
  have hn4 : n ≤ 4096 := by rw [hn]; exact Nat.le_trans hl.2.1 hl.2.2.2
  have HN := Lib.hid (And.intro hN (And.intro hn (show n = N.length by rw [hN, List.length_map, hn])))
  clear hc hd hl hN hn
  go_enter Try.func25, Try.ntmps25
  go_wp2_with fail
  go_loopw [5, 6] (fun s5 s6 wr => ∃ (i c1 : Nat) (A1 : Option Addr), s6 = .int .i64 i ∧ i ≤ n ∧ s5 = .slice A1 i c1 ∧ wr.ownsRow w.heap.size 9 1 (.slice A1 i c1) i (scells (N.take i)) ∧ Below w.heap.size w wr) (fun _ s6 _ => n - (intOf s6).toNat)
  case atStart => exact ⟨0, 0, none, rfl, by omega, rfl, World.ownsRow_nil _ _ _ _, Below.refl _ w⟩
  case round =>
    obtain ⟨i, c1, A1, rfl, hi, rfl, ho, hb⟩ := hrel
    have HO := Lib.hid (And.intro ho hb)
    have hdr := HD.out.below hb
    have k1 : wr.cell? ⟨gd, 1, none⟩ = some (.slice AL n cap) := by rw [HN.out.2.1]; exact hdr.top.cell 1
    have HDR := Lib.hid hdr
    clear ho hb hdr
    by_cases hlt : i < n
    · have hd1 : decide ((i : Int) < (n : Int)) = true := decide_eq_true (by omega)
      obtain ⟨x, hx⟩ : ∃ x, A.L[i]? = some x := ⟨_, List.getElem?_eq_getElem (by rw [← HN.out.2.1]; exact hlt)⟩
      obtain ⟨b, o, rfl, hbb, hat⟩ : ∃ b off, AL = some ⟨b, off, none⟩ ∧ b < wr.heap.size ∧ ∀ k x, A.L[k]? = some x → wr.cell? ⟨b, off + k * 2, none⟩ = some (.string x.1) ∧ wr.cell? ⟨b, off + k * 2 + 1, none⟩ = some (.int .i64 x.2) := HDR.out.rd.resolve_left (fun h => by rw [h] at hx; cases hx)
      have c0 := (hat i x hx).1
      have HX : Hid (N[i]? = some x.1) := by rw [HN.out.1, List.getElem?_map, hx]; exact rfl
      have HNL : Hid (i = (N.take i).length) := by rw [List.length_take, ← HN.out.2.2]; exact (show i = min i n by omega)
      have hi0 : (0 : Int) ≤ (i : Int) := by omega
      have hin : (i : Int) < (n : Int) := by omega
      obtain ⟨xn, hxn⟩ : ∃ z, z = x.1 := ⟨_, rfl⟩
      rw [← hxn] at c0 HX
      clear hat hx hbb hxn
      go_wp2_with (at_builtin; refine wpList_app_str rfl (.tmp 20) (.tmp 29) rfl w.heap.size wr.heap.size i c1 A1 (N.take i) xn HNL.out rfl (HO.out.1.alloc _) rfl (heap_alloc_new wr _) (by omega) (by have := HO.out.2.size; simp; omega) ?_; intro A2 c2 w3 ho3 hg3; have HO3 := Lib.hid (And.intro ho3 hg3); clear ho3 hg3)
      go_roundw
      case rel =>
        have e : N.take (i + 1) = N.take i ++ [xn] := by rw [List.take_add_one, HX.out]; rfl
        exact ⟨i + 1, c2, A2, by go_num, by omega, rfl, by rw [e]; exact HO3.out.1, (HO.out.2.alloc HO.out.2.size _).grown HO3.out.2 (by have := HO.out.2.size; simp; omega) (fun r hr => (World.ownsRow.lt HO.out.1 r hr).1)⟩
      case measure => simp [intOf]; omega
    · have hd1 : decide ((i : Int) < (n : Int)) = false := decide_eq_false (by omega)
      have hie : i = n := by omega
      subst hie
      have HNT : Hid (N.take i = N) := List.take_of_length_le (by rw [← HN.out.2.2]; exact Nat.le_refl _)
      have HCR := Lib.hid (HC.out.below HO.out.2)
      go_wp2_with fail
      clear k1
      refine (names_any gc A pc wr HCR.out).mono ?_
      rintro e wn ⟨An, cn, rfl, hno, hnb⟩
      rw [← HN.out.1, ← HN.out.2.2] at hno ⊢
      have HNO := Lib.hid (And.intro hno hnb)
      have HO2 := Lib.hid (own_below (by have h := HO.out.1; rw [HNT.out] at h; exact h) hnb)
      have HBN : Hid (Below w.heap.size w wn) := HO.out.2.trans (hnb.mono HO.out.2.size)
      have HD2 := Lib.hid (HDR.out.below hnb)
      have HC2 := Lib.hid (HCR.out.below hnb)
      clear hno hnb
      have k0 : wn.cell? ⟨gd, 0, none⟩ = some (.int .i64 (A.room : Nat)) := HD2.out.top.cell 0
      have HS := Lib.hid (fun q => names_same An A1 cn c1 i i N N (wn.drewN q) (own_rdT HNO.out.1 HN.out.2.2) (own_rdT HO2.out HN.out.2.2) HN.out.2.2 HN.out.2.2 (by omega) rfl)
      have HLQ := Lib.hid (fun q => len_cq gc A pc (wn.drewN q) (HC2.out.drewN q))
      have HRQ := Lib.hid (fun q => room_c gc A pc (wn.drewN q) (HC2.out.drewN q))
      rw [← HN.out.2.1] at HLQ
      obtain ⟨rm, hrm⟩ : ∃ rm, rm = A.room := ⟨_, rfl⟩
      rw [← hrm] at k0 HRQ
      clear hrm
      go_wp2_with fail
      go_quiet (first | (refine Calls.quiet_of (HS.out _)) | (refine Calls.quiet_of_same (HLQ.out _)) | (refine Calls.quiet_of_same (HRQ.out _)))
      obtain ⟨wa, hwa⟩ : ∃ x, x = wr := ⟨_, rfl⟩
      subst hwa
      have HBW : Hid (Below wa.heap.size wa (wn.drewN nq)) := below_drewN HNO.out.2 nq
      have HOW : Hid ((wn.drewN nq).ownsRow wa.heap.size 9 1 (.slice An i cn) i (scells N)) := own_below HNO.out.1 (below_drewN (Below.refl _ wn) nq)
      clear HNO HO2 HBN HD2 HC2 k0 HS HLQ HRQ
      generalize wn.drewN nq = wq at *
      go_wp2_with fail
      go_loopw [8] (fun s8 wl => ∃ (k : Nat) (CC : List Value), s8 = .int .i64 k ∧ k ≤ i ∧ CC.length = i ∧ wl.ownsRow wa.heap.size 9 1 (.slice An i cn) i CC ∧ Below wa.heap.size wa wl) (fun s8 _ => i - (intOf s8).toNat)
      case atStart => exact ⟨0, scells N, rfl, by omega, by unfold scells; rw [List.length_map]; exact HN.out.2.2.symm, HOW.out, HBW.out⟩
      case round =>
        clear HOW HBW
        obtain ⟨k, CC, rfl, hk, hcc, ho, hb⟩ := hrel
        have HO3 := Lib.hid (And.intro hcc (And.intro ho hb))
        clear hcc ho hb
        by_cases hlt2 : k < i
        · have hd2 : decide ((k : Int) < (i : Int)) = true := decide_eq_true (by omega)
          obtain ⟨g, cap', hv, hg, _⟩ := HO3.out.2.1.form (by omega)
          have hAn : An = some ⟨g, 0, none⟩ := by injection hv
          subst hAn
          have HG := Lib.hid hg
          obtain ⟨v0, hv0⟩ : ∃ v, CC[k]? = some v := ⟨_, List.getElem?_eq_getElem (by rw [HO3.out.1]; exact hlt2)⟩
          have c0 : wr.cell? ⟨g, k, none⟩ = some v0 := by
            have := HO3.out.2.1.cells (g := g) rfl k v0 hv0
            rw [addr_add, Nat.zero_add] at this
            exact this
          have f0 : wr.frozen? ⟨g, k, none⟩ = false := World.ownsRow.frozenAt HO3.out.2.1 k
          have hk0 : (0 : Int) ≤ (k : Int) := by omega
          have hkn : (k : Int) < (i : Int) := by omega
          clear hv hg hv0
          go_wp2_with fail
          go_roundw
          case rel =>
            refine ⟨k + 1, CC.set k _, by go_num, by omega, by rw [List.length_set]; exact HO3.out.1, (HO3.out.2.1.stored k _).1, ?_⟩
            exact HO3.out.2.2.grown (HO3.out.2.1.stored k _).2 HO3.out.2.2.size (fun r hr => by injection hr with hr; rw [← hr]; exact HG.out)
          case measure => simp [intOf]; omega
        · have hd2 : decide ((k : Int) < (i : Int)) = false := decide_eq_false (by omega)
          have HB4 := Lib.hid HO3.out.2.2
          have HCT := Lib.hid (counts_c gc A pc wr (HCR.out.below HB4.out))
          have HDT := Lib.hid (HDR.out.below HB4.out)
          have HBF : Hid (Below w.heap.size w wr) := HO.out.2.trans (HB4.out.mono HO.out.2.size)
          go_wp2_with fail
          refine HCT.out.mono ?_
          rintro e w5 ⟨rfl, q5, hw5⟩
          rw [hw5]
          have k2 : (wr.drewN q5).cell? ⟨gd, 2, none⟩ = some (.int .i64 (A.hits : Nat)) := (HDT.out.below (below_drewN (Below.refl _ wr) q5)).top.cell 2
          have k3 : (wr.drewN q5).cell? ⟨gd, 3, none⟩ = some (.int .i64 (A.misses : Nat)) := (HDT.out.below (below_drewN (Below.refl _ wr) q5)).top.cell 3
          have HBE : Hid (Below w.heap.size w (wr.drewN q5)) := below_drewN HBF.out q5
          obtain ⟨hh, hhh⟩ : ∃ x, x = A.hits := ⟨_, rfl⟩
          obtain ⟨mm, hmm⟩ : ∃ x, x = A.misses := ⟨_, rfl⟩
          rw [← hhh] at k2 ⊢
          rw [← hmm] at k3 ⊢
          clear hhh hmm hw5 HBF HDT HCT
          generalize wr.drewN q5 = w6 at *
          go_wp2_with fail
          go_ret
          exact ⟨rfl, HBE.out⟩
end Go.Proofs.Ytnipmhidiiondaa
