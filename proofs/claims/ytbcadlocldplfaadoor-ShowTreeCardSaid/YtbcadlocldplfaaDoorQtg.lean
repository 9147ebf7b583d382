/- Contract of the document's Check. And what follows from it. -/
import Derived.Deep.QuietTactic
import Derived.BigQuiet
import Derived.Deep.Slices
import Derived.Deep.Fields
import Derived.ChangeSame
import Derived.ProofKit
import Derived.OpenShut
import Derived.Test.YtbcadlocldplfaaDoorQtd
import Derived.Test.YtbcadlocldplfaaDoorQte
import Derived.Test.YtbcadlocldplfaaDoorQtf
import Derived.Test.YtbcadlocldplfaaDoorQt0
set_option maxHeartbeats 16000000
set_option linter.unusedSimpArgs false
set_option linter.unusedVariables false
namespace Go.Proofs.YtbcadlocldplfaaDoor.T8
open Go.Proofs.Tryd
set_option maxRecDepth 100000
open Go.RowKit
def endE (l : List Tw) : Option (List Fr × Int) -> Int
 | none => 3
 | some (S, dp) => if l = [] ∨ S ≠ [] then 3 else if 0 <= dp then 2 else 0
def RckPost (w : World) (er : Int) (e : Ending) (w' : World) : Prop := (∃ z : Int, e = .returned (.tuple #[.int .i64 z, .int .i64 er])) ∧ Below w.heap.size w w'
set_option maxRecDepth 100000 in
theorem refCheck_any (A : Option Addr) (c : Nat) (l : List Tw) (w : World) (hok : ∀ x ∈ l, TwOk x) (hrd : RdW w A l) (hlen : l.length <= 9223372036854775807) :
 Calls prog 28 #[.slice A l.length c] w (RckPost w (chk l).2) := by
 rw [<- refE_chk]
 obtain ⟨n, hn⟩ := ex l.length
 obtain ⟨er, her⟩ : ∃ z, z = refE l := ⟨_, rfl⟩
 rw [<- her, <- hn]
 rw [<- hn] at hlen
 generalize hQ : RckPost w er = Q
 have HQ := zh hQ
 clear hQ
 by_cases hlong : 2048 < n
 . have hd1 : decide ((2048 : Int) < (n : Int)) = true := dqt (by omega)
   have HE := zh (show er = 2 from by rw [her]; unfold refE; rw [if_pos (by omega)])
   clear hn her hok hrd
   go_in
   go_wp2_with fail
   rw [<- HQ.out, HE.out]
   exact ⟨⟨0, rfl⟩, Below.refl _ _⟩
 . have hd1 : decide ((2048 : Int) < (n : Int)) = false := dqf (by omega)
   obtain ⟨R, hR⟩ := ex (rrun l 0 [] (-1))
   have HE := zh (show er = endE l R from by rw [her, hR]; unfold refE; rw [if_neg (by omega)]; rfl)
   have HN := zh (ai hn (ai hok hrd))
   have HR0 := zh hR
   have hn8 : n <= 2048 := by omega
   clear hn her hok hrd hR hlong hlen
   go_in
   go_wp2_with fail
   go_loopw [4, 5, 6, 7, 8] (fun s4 s5 s6 s7 s8 wr => ∃ (i m c1 : Nat) (A1 : Option Addr) (S : List Fr) (dp : Int), s4 = .slice A1 m c1 ∧ s5 = .int .i64 dp ∧ s6 = .int .i64 (i : Nat) ∧ i <= n ∧ m = S.length ∧ m <= i ∧ wr.ownsRow w.heap.size 95 3 (.slice A1 m c1) m (fcells S.reverse) ∧ Below w.heap.size w wr ∧ VF S ∧ Top1 S ∧ rrun (l.drop i) i S dp = R) (fun _ _ s6 _ _ _ => n - (intOf s6).toNat)
   case atStart => exact ⟨0, 0, 0, none, [], -1, rfl, rfl, rfl, by omega, rfl, by omega, World.ownsRow_nil _ _ _ _, Below.refl _ w, ⟨(fun f hf => by cases hf), (fun f hf => by cases hf)⟩, trivial, HR0.out.symm⟩
   case round =>
    clear HR0
    obtain ⟨i, m, c1, A1, S, dp, rfl, rfl, rfl, hi, hm, hmi, ho, hb, hvf, htop, hrr⟩ := hrel
    have HO := zh (ai ho (ai hb (ai hvf (ai htop (ai hm hrr)))))
    clear ho hb hvf htop hrr hm
    by_cases hlt : i < n
    . have hd2 : decide ((i : Int) < (n : Int)) = true := dqt (by omega)
      obtain ⟨x, hx⟩ : ∃ x, l[i]? = some x := ⟨_, List.getElem?_eq_getElem (by rw [<- HN.out.1]; exact hlt)⟩
      have hdr : l.drop i = x :: l.drop (i + 1) := by
       have h1 := (List.getElem?_eq_some_iff.1 hx).1
       rw [List.drop_eq_getElem_cons h1, (List.getElem?_eq_some_iff.1 hx).2]
      have hrr := HO.out.2.2.2.2.2
      rw [hdr, rrun] at hrr
      have htw := HN.out.2.1 x (List.mem_of_getElem? hx)
      obtain ⟨b, off, rfl, hbl, hat⟩ : ∃ b off, A = some ⟨b, off, none⟩ ∧ b < wr.heap.size ∧ ∀ k x, l[k]? = some x -> TwAt wr b (off + k * 4) x := (HN.out.2.2.below HO.out.2.1).resolve_left (fun h => by rw [h] at hx; cases hx)
      obtain ⟨c0, c1', c2, c3⟩ := hat i x hx
      have HRR := zh hrr
      have HTW := zh htw
      have ho1 : x.op < 256 := htw.1
      obtain ⟨op, kids, int, text⟩ := x
      dsimp only at c0 c1' c2 c3 ho1
      have hi0 : (0 : Int) <= (i : Int) := by omega
      have hin : (i : Int) < (n : Int) := by omega
      clear hdr hat hbl hrr hx htw
      by_cases hstop : 0 < i ∧ S = []
      . have HRN := zh (show R = none from by rw [<- HRR.out, if_pos (.inl hstop)])
        have hm0 : m = 0 := by rw [HO.out.2.2.2.2.1, hstop.2]; rfl
        have hd3 : decide ((0 : Int) < (i : Int)) = true := dqt (by omega)
        have hi1 : 0 < i := hstop.1
        subst hm0
        clear hstop
        go_wp2_with fail
        rw [<- HQ.out, HE.out, HRN.out]
        exact ⟨⟨_, rfl⟩, HO.out.2.1.alloc HO.out.2.1.size _⟩
      . have HNB := zh ((Blk.new wr 42 #[.int .u8 (op : Nat), .int .i64 kids, .int .i64 int, .string text]))
        have HBB : Hid (Below w.heap.size w (wr.alloc (.cells #[.int .u8 (op : Nat), .int .i64 kids, .int .i64 int, .string text] 42)) ∧ Below wr.heap.size wr (wr.alloc (.cells #[.int .u8 (op : Nat), .int .i64 kids, .int .i64 int, .string text] 42))) := ⟨HO.out.2.1.alloc HO.out.2.1.size _, (Below.refl _ _).alloc (nlr _) _⟩
        have HFI := zh (fun W => refFine_any ⟨op, kids, int, text⟩ W HTW.out)
        have HRX := zh (show (if fineB ⟨op, kids, int, text⟩ (fun _ => true) = false ∨ mayF S op = false then none else rrun (l.drop (i + 1)) (i + 1) (closeF ⟨op, 0, kids⟩ S) (if dp < 0 ∧ 40 <= S.length then (i : Int) else dp)) = R from by
         rw [<- HRR.out]
         have e : fineB ⟨op, kids, int, text⟩ (mayF S) = (fineB ⟨op, kids, int, text⟩ (fun _ => true) && mayF S op) := fineB_split _ _
         rw [e]
         have e2 : (¬ (0 < i ∧ S = [])) := hstop
         cases fineB ⟨op, kids, int, text⟩ (fun _ => true) <;> cases mayF S op <;> simp [e2])
        have HFN := zh (show fineB ⟨op, kids, int, text⟩ (fun _ => true) = true -> ∃ f n, formOf op = some f ∧ kids = (n : Nat) ∧ n <= f.most from fun h => fine_fr h)
        clear HRR
        dsimp only [twCells] at HFI
        cases hS : S with
        | nil =>
         have hi00 : i = 0 := by
          rcases Nat.eq_zero_or_pos i with h | h
          . exact h
          . exact absurd ⟨h, hS⟩ hstop
         have d3 : decide ((0 : Int) < (i : Int)) = false := dqf (by omega)
         have hni : ¬ 0 < i := by omega
         clear hi00 hstop
         generalize hfb : fineB ⟨op, kids, int, text⟩ (fun _ => true) = fb at *
         have HFB := zh hfb
         clear hfb
         go_wp2_with fail
         generalize wr.alloc (.cells #[.int .u8 (op : Nat), .int .i64 kids, .int .i64 int, .string text] 42) = w2 at *
         obtain ⟨bx, hbx⟩ : ∃ g, g = wr.heap.size := ⟨_, rfl⟩
         rw [<- hbx] at HNB |-
         clear hbx
         refine (HFI.out w2).mono ?_
         rintro e w3 ⟨rfl, hb3⟩
         have HX3 := zh (HNB.out.below hb3 HNB.out.lt)
         have HB3 : Hid (Below w.heap.size w w3 ∧ Below wr.heap.size wr w3) := ⟨HBB.out.1.trans (hb3.mono HBB.out.1.size), HBB.out.2.trans (hb3.mono HBB.out.2.size)⟩
         have HOW3 := zh (own_below HO.out.1 HB3.out.2)
         have y0 : w3.cell? ⟨bx, 0, none⟩ = some (.int .u8 (op : Nat)) := HX3.out.cell 0
         have y1 : w3.cell? ⟨bx, 1, none⟩ = some (.int .i64 kids) := HX3.out.cell 1
         have hbxl : bx < w3.heap.size := HX3.out.lt
         clear hb3
         cases fb
         . have HRN := zh (show R = none from by rw [<- HRX.out, if_pos (.inl rfl)])
           go_wp2_with fail
           rw [<- HQ.out, HE.out, HRN.out]
           exact ⟨⟨_, rfl⟩, HB3.out.1⟩
         . obtain ⟨fo, kn, hfo, hkn, hkm⟩ := HFN.out rfl
           have HFO := zh (ai hfo (ai hkm hkn))
           have hkn8 : kn <= 2048 := by have := (forms_ok hfo).2.2.2; omega
           clear hfo hkm hkn
           have hm0 : m = 0 := by rw [HO.out.2.2.2.2.1, hS]; rfl
           have HOWN : Hid (w3.ownsRow w.heap.size 95 3 (.slice A1 m c1) m (fcells S.reverse)) := HOW3.out
           have HRD := zh (show rrun (l.drop (i + 1)) (i + 1) (closeF ⟨op, 0, kids⟩ S) dp = R from by
            have h := HRX.out
            rw [if_neg (by rw [hS]; simp [mayF])] at h
            rw [if_neg (by rw [hS]; simp)] at h
            exact h)
           have hdm : ¬ (40 <= m) := by omega
           have d0n : ¬ 0 < m := by omega
           have d0 : decide ((0 : Int) < (m : Int)) = false := dqf (by omega)
           have d40 : decide ((40 : Int) <= (m : Int)) = false := dqf (by omega)
           clear hm0 hS
           by_cases hdp : dp < 0
           . have ddp : decide (dp < 0) = true := dqt hdp
             go_wp2_with (at_builtin; (refine wpList_app_open rfl (.tmp 63) (.tmp 69) rfl w.heap.size w3.heap.size m c1 A1 S.reverse ⟨op, 0, kids⟩ rfl (HOWN.out.alloc _) rfl (heap_alloc_new w3 _) (by omega) (by have := HB3.out.1.size; simp; omega) ?_; intro A2 c2' w5 ho5 hg5; have H5 := zh (ai ho5 ((HB3.out.1.alloc HB3.out.1.size _).grown hg5 (by have := HB3.out.1.size; simp; omega) (fun r hr => (World.ownsRow.lt HOWN.out r hr).1))); clear ho5 hg5))
             have HS0 : Hid (w5.ownsRow w.heap.size 95 3 (.slice A2 (m + 1) c2') (m + 1) (fcells ((⟨op, 0, kids⟩ : Fr) :: S).reverse)) := by
              have h := H5.out.1
              rw [List.reverse_cons]
              exact h
             have HB0 : Hid (Below w.heap.size w w5) := H5.out.2
             have HMS : Hid (m + 1 = ((⟨op, 0, kids⟩ : Fr) :: S).length ∧ m + 1 <= i + 1) := ⟨by rw [lnc, HO.out.2.2.2.2.1], by omega⟩
             have HVF0 : Hid (VF ((⟨op, 0, kids⟩ : Fr) :: S)) := ⟨fun f hf => by
              rcases List.mem_cons.1 hf with rfl | hf
              . exact ⟨ho1, fo, kn, HFO.out.1, HFO.out.2.2, HFO.out.2.1, Nat.zero_le _⟩
              . exact HO.out.2.2.1.1 f hf, fun f hf => vf_strict HO.out.2.2.1 HO.out.2.2.2.1 f hf⟩
             have HTG : Hid (rrun (l.drop (i + 1)) (i + 1) (closeF ⟨op, 0, kids⟩ S) (dp) = R) := HRD.out
             clear H5 HRX
             obtain ⟨wa, hwa⟩ : ∃ x, x = wr := ⟨_, rfl⟩
             subst hwa
             go_loopw [4] (fun s4 wl => ∃ (m2 c3 : Nat) (A3 : Option Addr) (S2 : List Fr), s4 = .slice A3 m2 c3 ∧ m2 = S2.length ∧ m2 <= i + 1 ∧ wl.ownsRow w.heap.size 95 3 (.slice A3 m2 c3) m2 (fcells S2.reverse) ∧ Below w.heap.size w wl ∧ VF S2 ∧ close1 S2 = closeF ⟨op, 0, kids⟩ S) (fun s4 _ => sliceLen s4)
             case atStart => exact ⟨m + 1, c2', A2, _, rfl, HMS.out.1, HMS.out.2, HS0.out, HB0.out, HVF0.out, rfl⟩
             case round =>
              clear HS0 HB0 HVF0 HMS
              obtain ⟨m2, c3', A3, S2, rfl, hm2, hmi2, ho2, hb2, hvf2, hcl⟩ := hrel
              have HL := zh (ai ho2 (ai hb2 (ai hvf2 (ai hm2 hcl))))
              clear ho2 hb2 hvf2 hm2 hcl
              cases hS2 : S2 with
              | nil =>
               have h0 : m2 = 0 := by rw [HL.out.2.2.2.1, hS2]; rfl
               have HZ : Hid (rrun (l.drop (i + 1)) (i + 1) S2 (dp) = R ∧ Top1 S2) := by
                have h := HTG.out
                rw [<- HL.out.2.2.2.2, hS2] at h
                exact ⟨by rw [hS2]; exact h, by rw [hS2]; exact trivial⟩
               subst h0
               clear hS2
               go_wp2_with fail
               go_quiet (fail)
               have HW : Hid (Below w.heap.size w (wr.drewN nq) ∧ (wr.drewN nq).ownsRow w.heap.size 95 3 (.slice A3 0 c3') 0 (fcells S2.reverse)) := ⟨below_drewN HL.out.2.1 nq, own_below HL.out.1 (below_drewN (Below.refl _ wr) nq)⟩
               go_wp2_with fail
               go_roundw
               case rel => exact ⟨i + 1, 0, c3', A3, S2, _, rfl, rfl, by go_num, by omega, HL.out.2.2.2.1, by omega, HW.out.2, HW.out.1, HL.out.2.2.1, HZ.out.2, HZ.out.1⟩
               case measure => simp [intOf]; omega
              | cons f S3 =>
               obtain ⟨m3, hm3⟩ : ∃ k, k = S3.length := ⟨_, rfl⟩
               have hm23 : m2 = m3 + 1 := by rw [HL.out.2.2.2.1, hS2, hm3]; rfl
               obtain ⟨gr, capr, hvr, hgr, hltr⟩ := HL.out.1.form (by omega)
               have hA3 : A3 = some ⟨gr, 0, none⟩ := by injection hvr
               subst hA3
               have r1 : wr.cell? ⟨gr, m3 * 3 + 1, none⟩ = some (.int .i64 (f.came : Nat)) := by
                have h := HL.out.1.cells (g := gr) rfl (m3 * 3 + 1) (.int .i64 (f.came : Nat)) (by rw [hS2, hm3]; exact fcells_last rfl)
                rw [addr_add, Nat.zero_add] at h
                exact h
               have r2 : wr.cell? ⟨gr, m3 * 3 + 2, none⟩ = some (.int .i64 f.n) := by
                have h := HL.out.1.cells (g := gr) rfl (m3 * 3 + 2) (.int .i64 f.n) (by rw [hS2, hm3]; exact fcells_last rfl)
                rw [addr_add, Nat.zero_add] at h
                exact h
               have hmm : (m2 : Int) - 1 = (m3 : Int) := by omega
               have i0 : (0 : Int) <= (m3 : Int) := by omega
               have i1 : (m3 : Int) < (m2 : Int) := by omega
               have i2 : 0 < m2 := by omega
               have i2d : decide ((0 : Int) < (m2 : Int)) = true := dqt (by omega)
               have HM3 := zh (ai hm3 hm23)
               clear hvr hm3 hm23
               by_cases hcn : (f.came : Int) = f.n
               . have hq : (((f.came : Nat) : Int) == f.n) = true := by rw [beq_iff_eq]; exact hcn
                 have hcp : m2 <= c3' := own_cap HL.out.1
                 have HP : Hid (wr.ownsRow w.heap.size 95 3 (.slice (some ⟨gr, 0, none⟩) m3 c3') m3 (fcells S3.reverse)) := by
                  have h := HL.out.1
                  rw [hS2, List.reverse_cons, fcells_append, HM3.out.2] at h
                  exact ownsRow_pop (by rw [fcells_length, List.length_reverse, HM3.out.1]) h
                 have HV3 : Hid (VF S3) := ⟨fun g hg => HL.out.2.2.1.1 g (by rw [hS2]; exact List.mem_cons_of_mem _ hg), fun g hg => HL.out.2.2.1.2 g (by rw [hS2]; exact List.mem_of_mem_tail hg)⟩
                 cases hS3 : S3 with
                 | nil =>
                  have h0 : m3 = 0 := by rw [HM3.out.1, hS3]; rfl
                  have HZ : Hid (close1 S3 = closeF ⟨op, 0, kids⟩ S) := by
                   rw [<- HL.out.2.2.2.2, hS2, hS3]
                   show [] = closeF f []
                   rw [closeF, if_pos hcn]
                  have HLE : Hid (0 = S3.length) := by rw [hS3]; rfl
                  subst h0
                  generalize f.came = fc at *
                  generalize f.n = fn at *
                  clear hS2 hS3 hcn
                  go_wp2_with fail
                  go_quiet (fail)
                  have HW : Hid (Below w.heap.size w (wr.drewN nq) ∧ (wr.drewN nq).ownsRow w.heap.size 95 3 (.slice (some ⟨gr, 0, none⟩) 0 c3') 0 (fcells S3.reverse)) := ⟨below_drewN HL.out.2.1 nq, own_below HP.out (below_drewN (Below.refl _ wr) nq)⟩
                  go_wp2_with fail
                  go_roundw
                  case rel => exact ⟨0, c3', some ⟨gr, 0, none⟩, S3, rfl, HLE.out, by omega, HW.out.2, HW.out.1, HV3.out, HZ.out⟩
                  case measure => simp [sliceLen]; omega
                 | cons g S4 =>
                  exfalso
                  have h1 := HM3.out
                  have h2 : S3.length = S4.length + 1 := by rw [hS3]; rfl
                  omega
               . have hq : (((f.came : Nat) : Int) == f.n) = false := by rw [bfn]; exact hcn
                 have HZ : Hid (rrun (l.drop (i + 1)) (i + 1) S2 (dp) = R ∧ Top1 S2) := by
                  have h := HTG.out
                  have ht : Top1 S2 := by rw [hS2]; exact hcn
                  rw [<- HL.out.2.2.2.2, close1_done ht] at h
                  exact ⟨h, ht⟩
                 generalize f.came = fc at *
                 generalize f.n = fn at *
                 clear hS2 hcn
                 go_wp2_with fail
                 go_quiet (fail)
                 have HW : Hid (Below w.heap.size w (wr.drewN nq) ∧ (wr.drewN nq).ownsRow w.heap.size 95 3 (.slice (some ⟨gr, 0, none⟩) m2 c3') m2 (fcells S2.reverse)) := ⟨below_drewN HL.out.2.1 nq, own_below HL.out.1 (below_drewN (Below.refl _ wr) nq)⟩
                 go_wp2_with fail
                 go_roundw
                 case rel => exact ⟨i + 1, m2, c3', some ⟨gr, 0, none⟩, S2, _, rfl, rfl, by go_num, by omega, HL.out.2.2.2.1, by omega, HW.out.2, HW.out.1, HL.out.2.2.1, HZ.out.2, HZ.out.1⟩
                 case measure => simp [intOf]; omega
           . have ddp : decide (dp < 0) = false := dqf hdp
             go_wp2_with (at_builtin; (refine wpList_app_open rfl (.tmp 63) (.tmp 69) rfl w.heap.size w3.heap.size m c1 A1 S.reverse ⟨op, 0, kids⟩ rfl (HOWN.out.alloc _) rfl (heap_alloc_new w3 _) (by omega) (by have := HB3.out.1.size; simp; omega) ?_; intro A2 c2' w5 ho5 hg5; have H5 := zh (ai ho5 ((HB3.out.1.alloc HB3.out.1.size _).grown hg5 (by have := HB3.out.1.size; simp; omega) (fun r hr => (World.ownsRow.lt HOWN.out r hr).1))); clear ho5 hg5))
             have HS0 : Hid (w5.ownsRow w.heap.size 95 3 (.slice A2 (m + 1) c2') (m + 1) (fcells ((⟨op, 0, kids⟩ : Fr) :: S).reverse)) := by
              have h := H5.out.1
              rw [List.reverse_cons]
              exact h
             have HB0 : Hid (Below w.heap.size w w5) := H5.out.2
             have HMS : Hid (m + 1 = ((⟨op, 0, kids⟩ : Fr) :: S).length ∧ m + 1 <= i + 1) := ⟨by rw [lnc, HO.out.2.2.2.2.1], by omega⟩
             have HVF0 : Hid (VF ((⟨op, 0, kids⟩ : Fr) :: S)) := ⟨fun f hf => by
              rcases List.mem_cons.1 hf with rfl | hf
              . exact ⟨ho1, fo, kn, HFO.out.1, HFO.out.2.2, HFO.out.2.1, Nat.zero_le _⟩
              . exact HO.out.2.2.1.1 f hf, fun f hf => vf_strict HO.out.2.2.1 HO.out.2.2.2.1 f hf⟩
             have HTG : Hid (rrun (l.drop (i + 1)) (i + 1) (closeF ⟨op, 0, kids⟩ S) (dp) = R) := HRD.out
             clear H5 HRX
             obtain ⟨wa, hwa⟩ : ∃ x, x = wr := ⟨_, rfl⟩
             subst hwa
             go_loopw [4] (fun s4 wl => ∃ (m2 c3 : Nat) (A3 : Option Addr) (S2 : List Fr), s4 = .slice A3 m2 c3 ∧ m2 = S2.length ∧ m2 <= i + 1 ∧ wl.ownsRow w.heap.size 95 3 (.slice A3 m2 c3) m2 (fcells S2.reverse) ∧ Below w.heap.size w wl ∧ VF S2 ∧ close1 S2 = closeF ⟨op, 0, kids⟩ S) (fun s4 _ => sliceLen s4)
             case atStart => exact ⟨m + 1, c2', A2, _, rfl, HMS.out.1, HMS.out.2, HS0.out, HB0.out, HVF0.out, rfl⟩
             case round =>
              clear HS0 HB0 HVF0 HMS
              obtain ⟨m2, c3', A3, S2, rfl, hm2, hmi2, ho2, hb2, hvf2, hcl⟩ := hrel
              have HL := zh (ai ho2 (ai hb2 (ai hvf2 (ai hm2 hcl))))
              clear ho2 hb2 hvf2 hm2 hcl
              cases hS2 : S2 with
              | nil =>
               have h0 : m2 = 0 := by rw [HL.out.2.2.2.1, hS2]; rfl
               have HZ : Hid (rrun (l.drop (i + 1)) (i + 1) S2 (dp) = R ∧ Top1 S2) := by
                have h := HTG.out
                rw [<- HL.out.2.2.2.2, hS2] at h
                exact ⟨by rw [hS2]; exact h, by rw [hS2]; exact trivial⟩
               subst h0
               clear hS2
               go_wp2_with fail
               go_quiet (fail)
               have HW : Hid (Below w.heap.size w (wr.drewN nq) ∧ (wr.drewN nq).ownsRow w.heap.size 95 3 (.slice A3 0 c3') 0 (fcells S2.reverse)) := ⟨below_drewN HL.out.2.1 nq, own_below HL.out.1 (below_drewN (Below.refl _ wr) nq)⟩
               go_wp2_with fail
               go_roundw
               case rel => exact ⟨i + 1, 0, c3', A3, S2, _, rfl, rfl, by go_num, by omega, HL.out.2.2.2.1, by omega, HW.out.2, HW.out.1, HL.out.2.2.1, HZ.out.2, HZ.out.1⟩
               case measure => simp [intOf]; omega
              | cons f S3 =>
               obtain ⟨m3, hm3⟩ : ∃ k, k = S3.length := ⟨_, rfl⟩
               have hm23 : m2 = m3 + 1 := by rw [HL.out.2.2.2.1, hS2, hm3]; rfl
               obtain ⟨gr, capr, hvr, hgr, hltr⟩ := HL.out.1.form (by omega)
               have hA3 : A3 = some ⟨gr, 0, none⟩ := by injection hvr
               subst hA3
               have r1 : wr.cell? ⟨gr, m3 * 3 + 1, none⟩ = some (.int .i64 (f.came : Nat)) := by
                have h := HL.out.1.cells (g := gr) rfl (m3 * 3 + 1) (.int .i64 (f.came : Nat)) (by rw [hS2, hm3]; exact fcells_last rfl)
                rw [addr_add, Nat.zero_add] at h
                exact h
               have r2 : wr.cell? ⟨gr, m3 * 3 + 2, none⟩ = some (.int .i64 f.n) := by
                have h := HL.out.1.cells (g := gr) rfl (m3 * 3 + 2) (.int .i64 f.n) (by rw [hS2, hm3]; exact fcells_last rfl)
                rw [addr_add, Nat.zero_add] at h
                exact h
               have hmm : (m2 : Int) - 1 = (m3 : Int) := by omega
               have i0 : (0 : Int) <= (m3 : Int) := by omega
               have i1 : (m3 : Int) < (m2 : Int) := by omega
               have i2 : 0 < m2 := by omega
               have i2d : decide ((0 : Int) < (m2 : Int)) = true := dqt (by omega)
               have HM3 := zh (ai hm3 hm23)
               clear hvr hm3 hm23
               by_cases hcn : (f.came : Int) = f.n
               . have hq : (((f.came : Nat) : Int) == f.n) = true := by rw [beq_iff_eq]; exact hcn
                 have hcp : m2 <= c3' := own_cap HL.out.1
                 have HP : Hid (wr.ownsRow w.heap.size 95 3 (.slice (some ⟨gr, 0, none⟩) m3 c3') m3 (fcells S3.reverse)) := by
                  have h := HL.out.1
                  rw [hS2, List.reverse_cons, fcells_append, HM3.out.2] at h
                  exact ownsRow_pop (by rw [fcells_length, List.length_reverse, HM3.out.1]) h
                 have HV3 : Hid (VF S3) := ⟨fun g hg => HL.out.2.2.1.1 g (by rw [hS2]; exact List.mem_cons_of_mem _ hg), fun g hg => HL.out.2.2.1.2 g (by rw [hS2]; exact List.mem_of_mem_tail hg)⟩
                 cases hS3 : S3 with
                 | nil =>
                  have h0 : m3 = 0 := by rw [HM3.out.1, hS3]; rfl
                  have HZ : Hid (close1 S3 = closeF ⟨op, 0, kids⟩ S) := by
                   rw [<- HL.out.2.2.2.2, hS2, hS3]
                   show [] = closeF f []
                   rw [closeF, if_pos hcn]
                  have HLE : Hid (0 = S3.length) := by rw [hS3]; rfl
                  subst h0
                  generalize f.came = fc at *
                  generalize f.n = fn at *
                  clear hS2 hS3 hcn
                  go_wp2_with fail
                  go_quiet (fail)
                  have HW : Hid (Below w.heap.size w (wr.drewN nq) ∧ (wr.drewN nq).ownsRow w.heap.size 95 3 (.slice (some ⟨gr, 0, none⟩) 0 c3') 0 (fcells S3.reverse)) := ⟨below_drewN HL.out.2.1 nq, own_below HP.out (below_drewN (Below.refl _ wr) nq)⟩
                  go_wp2_with fail
                  go_roundw
                  case rel => exact ⟨0, c3', some ⟨gr, 0, none⟩, S3, rfl, HLE.out, by omega, HW.out.2, HW.out.1, HV3.out, HZ.out⟩
                  case measure => simp [sliceLen]; omega
                 | cons g S4 =>
                  exfalso
                  have h1 := HM3.out
                  have h2 : S3.length = S4.length + 1 := by rw [hS3]; rfl
                  omega
               . have hq : (((f.came : Nat) : Int) == f.n) = false := by rw [bfn]; exact hcn
                 have HZ : Hid (rrun (l.drop (i + 1)) (i + 1) S2 (dp) = R ∧ Top1 S2) := by
                  have h := HTG.out
                  have ht : Top1 S2 := by rw [hS2]; exact hcn
                  rw [<- HL.out.2.2.2.2, close1_done ht] at h
                  exact ⟨h, ht⟩
                 generalize f.came = fc at *
                 generalize f.n = fn at *
                 clear hS2 hcn
                 go_wp2_with fail
                 go_quiet (fail)
                 have HW : Hid (Below w.heap.size w (wr.drewN nq) ∧ (wr.drewN nq).ownsRow w.heap.size 95 3 (.slice (some ⟨gr, 0, none⟩) m2 c3') m2 (fcells S2.reverse)) := ⟨below_drewN HL.out.2.1 nq, own_below HL.out.1 (below_drewN (Below.refl _ wr) nq)⟩
                 go_wp2_with fail
                 go_roundw
                 case rel => exact ⟨i + 1, m2, c3', some ⟨gr, 0, none⟩, S2, _, rfl, rfl, by go_num, by omega, HL.out.2.2.2.1, by omega, HW.out.2, HW.out.1, HL.out.2.2.1, HZ.out.2, HZ.out.1⟩
                 case measure => simp [intOf]; omega
        | cons f S1 =>
         have hm00 : 0 < m := by rw [HO.out.2.2.2.2.1, hS]; simp
         have dm0 : ((m : Int) == 0) = false := by rw [bfn]; omega
         clear hstop
         by_cases hiz : 0 < i
         . have d3 : decide ((0 : Int) < (i : Int)) = true := dqt (by omega)
           generalize hfb : fineB ⟨op, kids, int, text⟩ (fun _ => true) = fb at *
           have HFB := zh hfb
           clear hfb
           go_wp2_with fail
           generalize wr.alloc (.cells #[.int .u8 (op : Nat), .int .i64 kids, .int .i64 int, .string text] 42) = w2 at *
           obtain ⟨bx, hbx⟩ : ∃ g, g = wr.heap.size := ⟨_, rfl⟩
           rw [<- hbx] at HNB |-
           clear hbx
           refine (HFI.out w2).mono ?_
           rintro e w3 ⟨rfl, hb3⟩
           have HX3 := zh (HNB.out.below hb3 HNB.out.lt)
           have HB3 : Hid (Below w.heap.size w w3 ∧ Below wr.heap.size wr w3) := ⟨HBB.out.1.trans (hb3.mono HBB.out.1.size), HBB.out.2.trans (hb3.mono HBB.out.2.size)⟩
           have HOW3 := zh (own_below HO.out.1 HB3.out.2)
           have y0 : w3.cell? ⟨bx, 0, none⟩ = some (.int .u8 (op : Nat)) := HX3.out.cell 0
           have y1 : w3.cell? ⟨bx, 1, none⟩ = some (.int .i64 kids) := HX3.out.cell 1
           have hbxl : bx < w3.heap.size := HX3.out.lt
           clear hb3
           cases fb
           . have HRN := zh (show R = none from by rw [<- HRX.out, if_pos (.inl rfl)])
             go_wp2_with fail
             rw [<- HQ.out, HE.out, HRN.out]
             exact ⟨⟨_, rfl⟩, HB3.out.1⟩
           . obtain ⟨fo, kn, hfo, hkn, hkm⟩ := HFN.out rfl
             have HFO := zh (ai hfo (ai hkm hkn))
             have hkn8 : kn <= 2048 := by have := (forms_ok hfo).2.2.2; omega
             clear hfo hkm hkn
             obtain ⟨m1, hm1⟩ : ∃ k, k = S1.length := ⟨_, rfl⟩
             have hm2 : m = m1 + 1 := by rw [HO.out.2.2.2.2.1, hS, hm1]; rfl
             obtain ⟨gq, capq, hvq, _, hltq⟩ := HOW3.out.form (by omega)
             have hA1 : A1 = some ⟨gq, 0, none⟩ := by injection hvq
             subst hA1
             have u0 : w3.cell? ⟨gq, m1 * 3, none⟩ = some (.int .u8 (f.op : Nat)) := by
              have h := HOW3.out.cells (g := gq) rfl (m1 * 3) (.int .u8 (f.op : Nat)) (by rw [hS, hm1]; exact fcells_last (j := 0) rfl)
              rw [addr_add, Nat.zero_add] at h
              exact h
             have u1 : w3.cell? ⟨gq, m1 * 3 + 1, none⟩ = some (.int .i64 (f.came : Nat)) := by
              have h := HOW3.out.cells (g := gq) rfl (m1 * 3 + 1) (.int .i64 (f.came : Nat)) (by rw [hS, hm1]; exact fcells_last rfl)
              rw [addr_add, Nat.zero_add] at h
              exact h
             have hfS : f ∈ S := by rw [hS]; exact List.mem_cons_self ..
             obtain ⟨hfop, fx, fn, hf1, hf2, hf3, hf4⟩ := HO.out.2.2.1.1 f hfS
             have hf5 := vf_strict HO.out.2.2.1 HO.out.2.2.2.1 f hfS
             have u2 : w3.cell? ⟨gq, m1 * 3 + 2, none⟩ = some (.int .i64 (fn : Nat)) := by
              have h := HOW3.out.cells (g := gq) rfl (m1 * 3 + 2) (.int .i64 f.n) (by rw [hS, hm1]; exact fcells_last rfl)
              rw [addr_add, Nat.zero_add, hf2] at h
              exact h
             have HPT := zh (fun W => refPart_any f.op f.came fn op fx W hf1 (by omega) hf3 ho1)
             have HMF := zh (show mayF S op = prtB fx.prt f.came fn op from by
              rw [hS]
              show partF f op = _
              unfold partF
              rw [hf1, hf2]
              rfl)
             have hmm1 : (m : Int) - 1 = (m1 : Int) := by omega
             have d0 : decide ((0 : Int) < (m : Int)) = true := dqt (by omega)
             have e0 : (0 : Int) <= (m1 : Int) := by omega
             have e1 : (m1 : Int) < (m : Int) := by omega
             have hml : m = S.length := HO.out.2.2.2.2.1
             have HML := zh hml
             obtain ⟨fop, hfo2⟩ : ∃ z, z = f.op := ⟨_, rfl⟩
             obtain ⟨fcm, hfc2⟩ : ∃ z, z = f.came := ⟨_, rfl⟩
             rw [<- hfo2] at u0 HPT
             rw [<- hfc2] at u1 HPT HMF
             generalize prtB fx.prt fcm fn op = pb at *
             clear hS hm1 hm2 hvq hltq hfS hf1 hf2 hf3 hf4 hf5 hfo2 hfc2 hml hfop
             go_wp2_with fail
             have HW4 : Hid (Below w.heap.size w (w3.alloc (.cells #[.int .u8 (fop : Nat), .int .i64 (fcm : Nat), .int .i64 (fn : Nat)] 95)) ∧ (w3.alloc (.cells #[.int .u8 (fop : Nat), .int .i64 (fcm : Nat), .int .i64 (fn : Nat)] 95)).ownsRow w.heap.size 95 3 (.slice (some ⟨gq, 0, none⟩) m c1) m (fcells S.reverse) ∧ Blk (w3.alloc (.cells #[.int .u8 (fop : Nat), .int .i64 (fcm : Nat), .int .i64 (fn : Nat)] 95)) bx 42 #[.int .u8 (op : Nat), .int .i64 kids, .int .i64 int, .string text]) := ⟨HB3.out.1.alloc HB3.out.1.size _, HOW3.out.alloc _, HX3.out.alloc _⟩
             generalize w3.alloc (.cells #[.int .u8 (fop : Nat), .int .i64 (fcm : Nat), .int .i64 (fn : Nat)] 95) = w4 at *
             clear y0 y1 hbxl u0 u1 u2
             have y0 : w4.cell? ⟨bx, 0, none⟩ = some (.int .u8 (op : Nat)) := HW4.out.2.2.cell 0
             have y1 : w4.cell? ⟨bx, 1, none⟩ = some (.int .i64 kids) := HW4.out.2.2.cell 1
             refine (HPT.out w4).mono ?_
             rintro e w9 ⟨rfl, hw9⟩
             rw [hw9]
             clear hw9 w9
             have HOWN : Hid (w4.ownsRow w.heap.size 95 3 (.slice (some ⟨gq, 0, none⟩) m c1) m (fcells S.reverse)) := HW4.out.2.1
             cases pb
             . have HRN := zh (show R = none from by rw [<- HRX.out, if_pos (.inr HMF.out)])
               go_wp2_with fail
               rw [<- HQ.out, HE.out, HRN.out]
               exact ⟨⟨_, rfl⟩, HW4.out.1⟩
             . have HRY := zh (show rrun (l.drop (i + 1)) (i + 1) (closeF ⟨op, 0, kids⟩ S) (if dp < 0 ∧ 40 <= S.length then (i : Int) else dp) = R from by
                have h := HRX.out
                rw [if_neg (by rw [HMF.out]; simp)] at h
                exact h)
               by_cases hdp : dp < 0
               . have ddp : decide (dp < 0) = true := dqt hdp
                 by_cases h40 : 40 <= m
                 . have d40 : decide ((40 : Int) <= (m : Int)) = true := dqt (by omega)
                   have HRD := zh (show rrun (l.drop (i + 1)) (i + 1) (closeF ⟨op, 0, kids⟩ S) (i : Int) = R from by
                    have h := HRY.out
                    rw [if_pos ⟨hdp, by rw [<- HML.out]; exact h40⟩] at h
                    exact h)
                   go_wp2_with (at_builtin; (refine wpList_app_open rfl (.tmp 63) (.tmp 69) rfl w.heap.size w4.heap.size m c1 (some ⟨gq, 0, none⟩) S.reverse ⟨op, 0, kids⟩ rfl (HOWN.out.alloc _) rfl (heap_alloc_new w4 _) (by omega) (by have := HW4.out.1.size; simp; omega) ?_; intro A2 c2' w5 ho5 hg5; have H5 := zh (ai ho5 ((HW4.out.1.alloc HW4.out.1.size _).grown hg5 (by have := HW4.out.1.size; simp; omega) (fun r hr => (World.ownsRow.lt HOWN.out r hr).1))); clear ho5 hg5))
                   have HS0 : Hid (w5.ownsRow w.heap.size 95 3 (.slice A2 (m + 1) c2') (m + 1) (fcells ((⟨op, 0, kids⟩ : Fr) :: S).reverse)) := by
                    have h := H5.out.1
                    rw [List.reverse_cons]
                    exact h
                   have HB0 : Hid (Below w.heap.size w w5) := H5.out.2
                   have HMS : Hid (m + 1 = ((⟨op, 0, kids⟩ : Fr) :: S).length ∧ m + 1 <= i + 1) := ⟨by rw [lnc, HO.out.2.2.2.2.1], by omega⟩
                   have HVF0 : Hid (VF ((⟨op, 0, kids⟩ : Fr) :: S)) := ⟨fun f hf => by
                    rcases List.mem_cons.1 hf with rfl | hf
                    . exact ⟨ho1, fo, kn, HFO.out.1, HFO.out.2.2, HFO.out.2.1, Nat.zero_le _⟩
                    . exact HO.out.2.2.1.1 f hf, fun f hf => vf_strict HO.out.2.2.1 HO.out.2.2.2.1 f hf⟩
                   have HTG : Hid (rrun (l.drop (i + 1)) (i + 1) (closeF ⟨op, 0, kids⟩ S) ((i : Int)) = R) := HRD.out
                   clear H5 HRX
                   obtain ⟨wa, hwa⟩ : ∃ x, x = wr := ⟨_, rfl⟩
                   subst hwa
                   go_loopw [4] (fun s4 wl => ∃ (m2 c3 : Nat) (A3 : Option Addr) (S2 : List Fr), s4 = .slice A3 m2 c3 ∧ m2 = S2.length ∧ m2 <= i + 1 ∧ wl.ownsRow w.heap.size 95 3 (.slice A3 m2 c3) m2 (fcells S2.reverse) ∧ Below w.heap.size w wl ∧ VF S2 ∧ close1 S2 = closeF ⟨op, 0, kids⟩ S) (fun s4 _ => sliceLen s4)
                   case atStart => exact ⟨m + 1, c2', A2, _, rfl, HMS.out.1, HMS.out.2, HS0.out, HB0.out, HVF0.out, rfl⟩
                   case round =>
                    clear HS0 HB0 HVF0 HMS
                    obtain ⟨m2, c3', A3, S2, rfl, hm2, hmi2, ho2, hb2, hvf2, hcl⟩ := hrel
                    have HL := zh (ai ho2 (ai hb2 (ai hvf2 (ai hm2 hcl))))
                    clear ho2 hb2 hvf2 hm2 hcl
                    cases hS2 : S2 with
                    | nil =>
                     have h0 : m2 = 0 := by rw [HL.out.2.2.2.1, hS2]; rfl
                     have HZ : Hid (rrun (l.drop (i + 1)) (i + 1) S2 ((i : Int)) = R ∧ Top1 S2) := by
                      have h := HTG.out
                      rw [<- HL.out.2.2.2.2, hS2] at h
                      exact ⟨by rw [hS2]; exact h, by rw [hS2]; exact trivial⟩
                     subst h0
                     clear hS2
                     go_wp2_with fail
                     go_quiet (fail)
                     have HW : Hid (Below w.heap.size w (wr.drewN nq) ∧ (wr.drewN nq).ownsRow w.heap.size 95 3 (.slice A3 0 c3') 0 (fcells S2.reverse)) := ⟨below_drewN HL.out.2.1 nq, own_below HL.out.1 (below_drewN (Below.refl _ wr) nq)⟩
                     go_wp2_with fail
                     go_roundw
                     case rel => exact ⟨i + 1, 0, c3', A3, S2, _, rfl, rfl, by go_num, by omega, HL.out.2.2.2.1, by omega, HW.out.2, HW.out.1, HL.out.2.2.1, HZ.out.2, HZ.out.1⟩
                     case measure => simp [intOf]; omega
                    | cons f S3 =>
                     obtain ⟨m3, hm3⟩ : ∃ k, k = S3.length := ⟨_, rfl⟩
                     have hm23 : m2 = m3 + 1 := by rw [HL.out.2.2.2.1, hS2, hm3]; rfl
                     obtain ⟨gr, capr, hvr, hgr, hltr⟩ := HL.out.1.form (by omega)
                     have hA3 : A3 = some ⟨gr, 0, none⟩ := by injection hvr
                     subst hA3
                     have r1 : wr.cell? ⟨gr, m3 * 3 + 1, none⟩ = some (.int .i64 (f.came : Nat)) := by
                      have h := HL.out.1.cells (g := gr) rfl (m3 * 3 + 1) (.int .i64 (f.came : Nat)) (by rw [hS2, hm3]; exact fcells_last rfl)
                      rw [addr_add, Nat.zero_add] at h
                      exact h
                     have r2 : wr.cell? ⟨gr, m3 * 3 + 2, none⟩ = some (.int .i64 f.n) := by
                      have h := HL.out.1.cells (g := gr) rfl (m3 * 3 + 2) (.int .i64 f.n) (by rw [hS2, hm3]; exact fcells_last rfl)
                      rw [addr_add, Nat.zero_add] at h
                      exact h
                     have hmm : (m2 : Int) - 1 = (m3 : Int) := by omega
                     have i0 : (0 : Int) <= (m3 : Int) := by omega
                     have i1 : (m3 : Int) < (m2 : Int) := by omega
                     have i2 : 0 < m2 := by omega
                     have i2d : decide ((0 : Int) < (m2 : Int)) = true := dqt (by omega)
                     have HM3 := zh (ai hm3 hm23)
                     clear hvr hm3 hm23
                     by_cases hcn : (f.came : Int) = f.n
                     . have hq : (((f.came : Nat) : Int) == f.n) = true := by rw [beq_iff_eq]; exact hcn
                       have hcp : m2 <= c3' := own_cap HL.out.1
                       have HP : Hid (wr.ownsRow w.heap.size 95 3 (.slice (some ⟨gr, 0, none⟩) m3 c3') m3 (fcells S3.reverse)) := by
                        have h := HL.out.1
                        rw [hS2, List.reverse_cons, fcells_append, HM3.out.2] at h
                        exact ownsRow_pop (by rw [fcells_length, List.length_reverse, HM3.out.1]) h
                       have HV3 : Hid (VF S3) := ⟨fun g hg => HL.out.2.2.1.1 g (by rw [hS2]; exact List.mem_cons_of_mem _ hg), fun g hg => HL.out.2.2.1.2 g (by rw [hS2]; exact List.mem_of_mem_tail hg)⟩
                       cases hS3 : S3 with
                       | nil =>
                        have h0 : m3 = 0 := by rw [HM3.out.1, hS3]; rfl
                        have HZ : Hid (close1 S3 = closeF ⟨op, 0, kids⟩ S) := by
                         rw [<- HL.out.2.2.2.2, hS2, hS3]
                         show [] = closeF f []
                         rw [closeF, if_pos hcn]
                        have HLE : Hid (0 = S3.length) := by rw [hS3]; rfl
                        subst h0
                        generalize f.came = fc at *
                        generalize f.n = fn at *
                        clear hS2 hS3 hcn
                        go_wp2_with fail
                        go_quiet (fail)
                        have HW : Hid (Below w.heap.size w (wr.drewN nq) ∧ (wr.drewN nq).ownsRow w.heap.size 95 3 (.slice (some ⟨gr, 0, none⟩) 0 c3') 0 (fcells S3.reverse)) := ⟨below_drewN HL.out.2.1 nq, own_below HP.out (below_drewN (Below.refl _ wr) nq)⟩
                        go_wp2_with fail
                        go_roundw
                        case rel => exact ⟨0, c3', some ⟨gr, 0, none⟩, S3, rfl, HLE.out, by omega, HW.out.2, HW.out.1, HV3.out, HZ.out⟩
                        case measure => simp [sliceLen]; omega
                       | cons g S4 =>
                        obtain ⟨m4, hm4⟩ : ∃ k, k = S4.length := ⟨_, rfl⟩
                        have hm34 : m3 = m4 + 1 := by rw [HM3.out.1, hS3, hm4]; rfl
                        have HZ : Hid (close1 ({ g with came := g.came + 1 } :: S4) = closeF ⟨op, 0, kids⟩ S) := by
                         rw [<- HL.out.2.2.2.2, hS2, hS3]
                         exact (close1_step hcn).symm
                        obtain ⟨gx, gn, hg1, hg2, hg3, hg4⟩ := (HV3.out.1 g (by rw [hS3]; exact List.mem_cons_self ..)).2
                        have hgc : g.came <= 2048 := by have := (forms_ok hg1).2.2.2; omega
                        have HV4 : Hid (g.came + 1 <= gn -> VF ({ g with came := g.came + 1 } :: S4)) := fun hle => ⟨fun q hq => by
                         rcases List.mem_cons.1 hq with rfl | hq
                         . exact ⟨(HV3.out.1 g (by rw [hS3]; exact List.mem_cons_self ..)).1, gx, gn, hg1, hg2, hg3, hle⟩
                         . exact HV3.out.1 q (by rw [hS3]; exact List.mem_cons_of_mem _ hq), fun q hq => HV3.out.2 q (by rw [hS3]; exact hq)⟩
                        have HST : Hid (∀ W v, W.ownsRow w.heap.size 95 3 (.slice (some ⟨gr, 0, none⟩) m3 c3') m3 (fcells S3.reverse) -> Below w.heap.size w W -> v = Value.int .i64 ((g.came + 1 : Nat) : Int) -> (W.setCell ⟨gr, m4 * 3 + 1, none⟩ v).ownsRow w.heap.size 95 3 (.slice (some ⟨gr, 0, none⟩) m3 c3') m3 (fcells ({ g with came := g.came + 1 } :: S4).reverse) ∧ Below w.heap.size w (W.setCell ⟨gr, m4 * 3 + 1, none⟩ v)) := by
                         intro W v hW hbW hv
                         subst hv
                         have h := hW.stored (m4 * 3 + 1) (.int .i64 ((g.came + 1 : Nat) : Int))
                         rw [hS3, hm4, fcells_came] at h
                         rw [hm4]
                         exact ⟨h.1, hbW.grown h.2 hbW.size (fun r hr => by injection hr with hr; rw [<- hr]; exact hgr)⟩
                        have HC4 : Hid (∀ W : World, W.ownsRow w.heap.size 95 3 (.slice (some ⟨gr, 0, none⟩) m3 c3') m3 (fcells S3.reverse) -> W.cell? ⟨gr, m4 * 3 + 1, none⟩ = some (.int .i64 (g.came : Nat)) ∧ W.frozen? ⟨gr, m4 * 3 + 1, none⟩ = false) := fun W hW => by
                         refine ⟨?_, World.ownsRow.frozenAt hW _⟩
                         have h := hW.cells (g := gr) rfl (m4 * 3 + 1) (.int .i64 (g.came : Nat)) (by rw [hS3, hm4]; exact fcells_last rfl)
                         rw [addr_add, Nat.zero_add] at h
                         exact h
                        have HLE : Hid (m3 = ({ g with came := g.came + 1 } :: S4).length) := by rw [HM3.out.1, hS3]; rfl
                        have HGN := zh (show g.came + 1 <= gn from by
                         have h1 := HL.out.2.2.1.2 g (by rw [hS2, hS3]; exact List.mem_cons_self ..)
                         omega)
                        have j0 : (0 : Int) <= (m4 : Int) := by omega
                        have j1 : (m4 : Int) < (m3 : Int) := by omega
                        have j2 : 0 < m3 := by omega
                        have j2d : decide ((0 : Int) < (m3 : Int)) = true := dqt (by omega)
                        have jm : (m3 : Int) - 1 = (m4 : Int) := by omega
                        generalize f.came = fc at *
                        generalize f.n = fn at *
                        obtain ⟨gcm, hgcm⟩ : ∃ z, z = g.came := ⟨_, rfl⟩
                        rw [<- hgcm] at hgc HC4
                        have HGC := zh hgcm
                        clear hS2 hS3 hcn hm4 hm34 hg1 hg2 hg3 hg4 hgcm
                        go_wp2_with fail
                        go_quiet (fail)
                        have HW : Hid (Below w.heap.size w (wr.drewN nq) ∧ (wr.drewN nq).ownsRow w.heap.size 95 3 (.slice (some ⟨gr, 0, none⟩) m3 c3') m3 (fcells S3.reverse)) := ⟨below_drewN HL.out.2.1 nq, own_below HP.out (below_drewN (Below.refl _ wr) nq)⟩
                        clear r1 r2
                        generalize wr.drewN nq = w8 at *
                        obtain ⟨q1, q2⟩ := HC4.out w8 HW.out.2
                        go_wp2_with fail
                        go_roundw
                        case rel =>
                         have h := HST.out w8 _ HW.out.2 HW.out.1 (show Value.int .i64 _ = Value.int .i64 ((g.came + 1 : Nat) : Int) from by rw [<- HGC.out])
                         exact ⟨m3, c3', some ⟨gr, 0, none⟩, _, rfl, HLE.out, by omega, h.1, h.2, HV4.out HGN.out, HZ.out⟩
                        case measure => simp [sliceLen]; omega
                     . have hq : (((f.came : Nat) : Int) == f.n) = false := by rw [bfn]; exact hcn
                       have HZ : Hid (rrun (l.drop (i + 1)) (i + 1) S2 ((i : Int)) = R ∧ Top1 S2) := by
                        have h := HTG.out
                        have ht : Top1 S2 := by rw [hS2]; exact hcn
                        rw [<- HL.out.2.2.2.2, close1_done ht] at h
                        exact ⟨h, ht⟩
                       generalize f.came = fc at *
                       generalize f.n = fn at *
                       clear hS2 hcn
                       go_wp2_with fail
                       go_quiet (fail)
                       have HW : Hid (Below w.heap.size w (wr.drewN nq) ∧ (wr.drewN nq).ownsRow w.heap.size 95 3 (.slice (some ⟨gr, 0, none⟩) m2 c3') m2 (fcells S2.reverse)) := ⟨below_drewN HL.out.2.1 nq, own_below HL.out.1 (below_drewN (Below.refl _ wr) nq)⟩
                       go_wp2_with fail
                       go_roundw
                       case rel => exact ⟨i + 1, m2, c3', some ⟨gr, 0, none⟩, S2, _, rfl, rfl, by go_num, by omega, HL.out.2.2.2.1, by omega, HW.out.2, HW.out.1, HL.out.2.2.1, HZ.out.2, HZ.out.1⟩
                       case measure => simp [intOf]; omega
                 . have d40 : decide ((40 : Int) <= (m : Int)) = false := dqf (by omega)
                   have HRD := zh (show rrun (l.drop (i + 1)) (i + 1) (closeF ⟨op, 0, kids⟩ S) dp = R from by
                    have h := HRY.out
                    rw [if_neg (by rw [<- HML.out]; omega)] at h
                    exact h)
                   go_wp2_with (at_builtin; (refine wpList_app_open rfl (.tmp 63) (.tmp 69) rfl w.heap.size w4.heap.size m c1 (some ⟨gq, 0, none⟩) S.reverse ⟨op, 0, kids⟩ rfl (HOWN.out.alloc _) rfl (heap_alloc_new w4 _) (by omega) (by have := HW4.out.1.size; simp; omega) ?_; intro A2 c2' w5 ho5 hg5; have H5 := zh (ai ho5 ((HW4.out.1.alloc HW4.out.1.size _).grown hg5 (by have := HW4.out.1.size; simp; omega) (fun r hr => (World.ownsRow.lt HOWN.out r hr).1))); clear ho5 hg5))
                   have HS0 : Hid (w5.ownsRow w.heap.size 95 3 (.slice A2 (m + 1) c2') (m + 1) (fcells ((⟨op, 0, kids⟩ : Fr) :: S).reverse)) := by
                    have h := H5.out.1
                    rw [List.reverse_cons]
                    exact h
                   have HB0 : Hid (Below w.heap.size w w5) := H5.out.2
                   have HMS : Hid (m + 1 = ((⟨op, 0, kids⟩ : Fr) :: S).length ∧ m + 1 <= i + 1) := ⟨by rw [lnc, HO.out.2.2.2.2.1], by omega⟩
                   have HVF0 : Hid (VF ((⟨op, 0, kids⟩ : Fr) :: S)) := ⟨fun f hf => by
                    rcases List.mem_cons.1 hf with rfl | hf
                    . exact ⟨ho1, fo, kn, HFO.out.1, HFO.out.2.2, HFO.out.2.1, Nat.zero_le _⟩
                    . exact HO.out.2.2.1.1 f hf, fun f hf => vf_strict HO.out.2.2.1 HO.out.2.2.2.1 f hf⟩
                   have HTG : Hid (rrun (l.drop (i + 1)) (i + 1) (closeF ⟨op, 0, kids⟩ S) (dp) = R) := HRD.out
                   clear H5 HRX
                   obtain ⟨wa, hwa⟩ : ∃ x, x = wr := ⟨_, rfl⟩
                   subst hwa
                   go_loopw [4] (fun s4 wl => ∃ (m2 c3 : Nat) (A3 : Option Addr) (S2 : List Fr), s4 = .slice A3 m2 c3 ∧ m2 = S2.length ∧ m2 <= i + 1 ∧ wl.ownsRow w.heap.size 95 3 (.slice A3 m2 c3) m2 (fcells S2.reverse) ∧ Below w.heap.size w wl ∧ VF S2 ∧ close1 S2 = closeF ⟨op, 0, kids⟩ S) (fun s4 _ => sliceLen s4)
                   case atStart => exact ⟨m + 1, c2', A2, _, rfl, HMS.out.1, HMS.out.2, HS0.out, HB0.out, HVF0.out, rfl⟩
                   case round =>
                    clear HS0 HB0 HVF0 HMS
                    obtain ⟨m2, c3', A3, S2, rfl, hm2, hmi2, ho2, hb2, hvf2, hcl⟩ := hrel
                    have HL := zh (ai ho2 (ai hb2 (ai hvf2 (ai hm2 hcl))))
                    clear ho2 hb2 hvf2 hm2 hcl
                    cases hS2 : S2 with
                    | nil =>
                     have h0 : m2 = 0 := by rw [HL.out.2.2.2.1, hS2]; rfl
                     have HZ : Hid (rrun (l.drop (i + 1)) (i + 1) S2 (dp) = R ∧ Top1 S2) := by
                      have h := HTG.out
                      rw [<- HL.out.2.2.2.2, hS2] at h
                      exact ⟨by rw [hS2]; exact h, by rw [hS2]; exact trivial⟩
                     subst h0
                     clear hS2
                     go_wp2_with fail
                     go_quiet (fail)
                     have HW : Hid (Below w.heap.size w (wr.drewN nq) ∧ (wr.drewN nq).ownsRow w.heap.size 95 3 (.slice A3 0 c3') 0 (fcells S2.reverse)) := ⟨below_drewN HL.out.2.1 nq, own_below HL.out.1 (below_drewN (Below.refl _ wr) nq)⟩
                     go_wp2_with fail
                     go_roundw
                     case rel => exact ⟨i + 1, 0, c3', A3, S2, _, rfl, rfl, by go_num, by omega, HL.out.2.2.2.1, by omega, HW.out.2, HW.out.1, HL.out.2.2.1, HZ.out.2, HZ.out.1⟩
                     case measure => simp [intOf]; omega
                    | cons f S3 =>
                     obtain ⟨m3, hm3⟩ : ∃ k, k = S3.length := ⟨_, rfl⟩
                     have hm23 : m2 = m3 + 1 := by rw [HL.out.2.2.2.1, hS2, hm3]; rfl
                     obtain ⟨gr, capr, hvr, hgr, hltr⟩ := HL.out.1.form (by omega)
                     have hA3 : A3 = some ⟨gr, 0, none⟩ := by injection hvr
                     subst hA3
                     have r1 : wr.cell? ⟨gr, m3 * 3 + 1, none⟩ = some (.int .i64 (f.came : Nat)) := by
                      have h := HL.out.1.cells (g := gr) rfl (m3 * 3 + 1) (.int .i64 (f.came : Nat)) (by rw [hS2, hm3]; exact fcells_last rfl)
                      rw [addr_add, Nat.zero_add] at h
                      exact h
                     have r2 : wr.cell? ⟨gr, m3 * 3 + 2, none⟩ = some (.int .i64 f.n) := by
                      have h := HL.out.1.cells (g := gr) rfl (m3 * 3 + 2) (.int .i64 f.n) (by rw [hS2, hm3]; exact fcells_last rfl)
                      rw [addr_add, Nat.zero_add] at h
                      exact h
                     have hmm : (m2 : Int) - 1 = (m3 : Int) := by omega
                     have i0 : (0 : Int) <= (m3 : Int) := by omega
                     have i1 : (m3 : Int) < (m2 : Int) := by omega
                     have i2 : 0 < m2 := by omega
                     have i2d : decide ((0 : Int) < (m2 : Int)) = true := dqt (by omega)
                     have HM3 := zh (ai hm3 hm23)
                     clear hvr hm3 hm23
                     by_cases hcn : (f.came : Int) = f.n
                     . have hq : (((f.came : Nat) : Int) == f.n) = true := by rw [beq_iff_eq]; exact hcn
                       have hcp : m2 <= c3' := own_cap HL.out.1
                       have HP : Hid (wr.ownsRow w.heap.size 95 3 (.slice (some ⟨gr, 0, none⟩) m3 c3') m3 (fcells S3.reverse)) := by
                        have h := HL.out.1
                        rw [hS2, List.reverse_cons, fcells_append, HM3.out.2] at h
                        exact ownsRow_pop (by rw [fcells_length, List.length_reverse, HM3.out.1]) h
                       have HV3 : Hid (VF S3) := ⟨fun g hg => HL.out.2.2.1.1 g (by rw [hS2]; exact List.mem_cons_of_mem _ hg), fun g hg => HL.out.2.2.1.2 g (by rw [hS2]; exact List.mem_of_mem_tail hg)⟩
                       cases hS3 : S3 with
                       | nil =>
                        have h0 : m3 = 0 := by rw [HM3.out.1, hS3]; rfl
                        have HZ : Hid (close1 S3 = closeF ⟨op, 0, kids⟩ S) := by
                         rw [<- HL.out.2.2.2.2, hS2, hS3]
                         show [] = closeF f []
                         rw [closeF, if_pos hcn]
                        have HLE : Hid (0 = S3.length) := by rw [hS3]; rfl
                        subst h0
                        generalize f.came = fc at *
                        generalize f.n = fn at *
                        clear hS2 hS3 hcn
                        go_wp2_with fail
                        go_quiet (fail)
                        have HW : Hid (Below w.heap.size w (wr.drewN nq) ∧ (wr.drewN nq).ownsRow w.heap.size 95 3 (.slice (some ⟨gr, 0, none⟩) 0 c3') 0 (fcells S3.reverse)) := ⟨below_drewN HL.out.2.1 nq, own_below HP.out (below_drewN (Below.refl _ wr) nq)⟩
                        go_wp2_with fail
                        go_roundw
                        case rel => exact ⟨0, c3', some ⟨gr, 0, none⟩, S3, rfl, HLE.out, by omega, HW.out.2, HW.out.1, HV3.out, HZ.out⟩
                        case measure => simp [sliceLen]; omega
                       | cons g S4 =>
                        obtain ⟨m4, hm4⟩ : ∃ k, k = S4.length := ⟨_, rfl⟩
                        have hm34 : m3 = m4 + 1 := by rw [HM3.out.1, hS3, hm4]; rfl
                        have HZ : Hid (close1 ({ g with came := g.came + 1 } :: S4) = closeF ⟨op, 0, kids⟩ S) := by
                         rw [<- HL.out.2.2.2.2, hS2, hS3]
                         exact (close1_step hcn).symm
                        obtain ⟨gx, gn, hg1, hg2, hg3, hg4⟩ := (HV3.out.1 g (by rw [hS3]; exact List.mem_cons_self ..)).2
                        have hgc : g.came <= 2048 := by have := (forms_ok hg1).2.2.2; omega
                        have HV4 : Hid (g.came + 1 <= gn -> VF ({ g with came := g.came + 1 } :: S4)) := fun hle => ⟨fun q hq => by
                         rcases List.mem_cons.1 hq with rfl | hq
                         . exact ⟨(HV3.out.1 g (by rw [hS3]; exact List.mem_cons_self ..)).1, gx, gn, hg1, hg2, hg3, hle⟩
                         . exact HV3.out.1 q (by rw [hS3]; exact List.mem_cons_of_mem _ hq), fun q hq => HV3.out.2 q (by rw [hS3]; exact hq)⟩
                        have HST : Hid (∀ W v, W.ownsRow w.heap.size 95 3 (.slice (some ⟨gr, 0, none⟩) m3 c3') m3 (fcells S3.reverse) -> Below w.heap.size w W -> v = Value.int .i64 ((g.came + 1 : Nat) : Int) -> (W.setCell ⟨gr, m4 * 3 + 1, none⟩ v).ownsRow w.heap.size 95 3 (.slice (some ⟨gr, 0, none⟩) m3 c3') m3 (fcells ({ g with came := g.came + 1 } :: S4).reverse) ∧ Below w.heap.size w (W.setCell ⟨gr, m4 * 3 + 1, none⟩ v)) := by
                         intro W v hW hbW hv
                         subst hv
                         have h := hW.stored (m4 * 3 + 1) (.int .i64 ((g.came + 1 : Nat) : Int))
                         rw [hS3, hm4, fcells_came] at h
                         rw [hm4]
                         exact ⟨h.1, hbW.grown h.2 hbW.size (fun r hr => by injection hr with hr; rw [<- hr]; exact hgr)⟩
                        have HC4 : Hid (∀ W : World, W.ownsRow w.heap.size 95 3 (.slice (some ⟨gr, 0, none⟩) m3 c3') m3 (fcells S3.reverse) -> W.cell? ⟨gr, m4 * 3 + 1, none⟩ = some (.int .i64 (g.came : Nat)) ∧ W.frozen? ⟨gr, m4 * 3 + 1, none⟩ = false) := fun W hW => by
                         refine ⟨?_, World.ownsRow.frozenAt hW _⟩
                         have h := hW.cells (g := gr) rfl (m4 * 3 + 1) (.int .i64 (g.came : Nat)) (by rw [hS3, hm4]; exact fcells_last rfl)
                         rw [addr_add, Nat.zero_add] at h
                         exact h
                        have HLE : Hid (m3 = ({ g with came := g.came + 1 } :: S4).length) := by rw [HM3.out.1, hS3]; rfl
                        have HGN := zh (show g.came + 1 <= gn from by
                         have h1 := HL.out.2.2.1.2 g (by rw [hS2, hS3]; exact List.mem_cons_self ..)
                         omega)
                        have j0 : (0 : Int) <= (m4 : Int) := by omega
                        have j1 : (m4 : Int) < (m3 : Int) := by omega
                        have j2 : 0 < m3 := by omega
                        have j2d : decide ((0 : Int) < (m3 : Int)) = true := dqt (by omega)
                        have jm : (m3 : Int) - 1 = (m4 : Int) := by omega
                        generalize f.came = fc at *
                        generalize f.n = fn at *
                        obtain ⟨gcm, hgcm⟩ : ∃ z, z = g.came := ⟨_, rfl⟩
                        rw [<- hgcm] at hgc HC4
                        have HGC := zh hgcm
                        clear hS2 hS3 hcn hm4 hm34 hg1 hg2 hg3 hg4 hgcm
                        go_wp2_with fail
                        go_quiet (fail)
                        have HW : Hid (Below w.heap.size w (wr.drewN nq) ∧ (wr.drewN nq).ownsRow w.heap.size 95 3 (.slice (some ⟨gr, 0, none⟩) m3 c3') m3 (fcells S3.reverse)) := ⟨below_drewN HL.out.2.1 nq, own_below HP.out (below_drewN (Below.refl _ wr) nq)⟩
                        clear r1 r2
                        generalize wr.drewN nq = w8 at *
                        obtain ⟨q1, q2⟩ := HC4.out w8 HW.out.2
                        go_wp2_with fail
                        go_roundw
                        case rel =>
                         have h := HST.out w8 _ HW.out.2 HW.out.1 (show Value.int .i64 _ = Value.int .i64 ((g.came + 1 : Nat) : Int) from by rw [<- HGC.out])
                         exact ⟨m3, c3', some ⟨gr, 0, none⟩, _, rfl, HLE.out, by omega, h.1, h.2, HV4.out HGN.out, HZ.out⟩
                        case measure => simp [sliceLen]; omega
                     . have hq : (((f.came : Nat) : Int) == f.n) = false := by rw [bfn]; exact hcn
                       have HZ : Hid (rrun (l.drop (i + 1)) (i + 1) S2 (dp) = R ∧ Top1 S2) := by
                        have h := HTG.out
                        have ht : Top1 S2 := by rw [hS2]; exact hcn
                        rw [<- HL.out.2.2.2.2, close1_done ht] at h
                        exact ⟨h, ht⟩
                       generalize f.came = fc at *
                       generalize f.n = fn at *
                       clear hS2 hcn
                       go_wp2_with fail
                       go_quiet (fail)
                       have HW : Hid (Below w.heap.size w (wr.drewN nq) ∧ (wr.drewN nq).ownsRow w.heap.size 95 3 (.slice (some ⟨gr, 0, none⟩) m2 c3') m2 (fcells S2.reverse)) := ⟨below_drewN HL.out.2.1 nq, own_below HL.out.1 (below_drewN (Below.refl _ wr) nq)⟩
                       go_wp2_with fail
                       go_roundw
                       case rel => exact ⟨i + 1, m2, c3', some ⟨gr, 0, none⟩, S2, _, rfl, rfl, by go_num, by omega, HL.out.2.2.2.1, by omega, HW.out.2, HW.out.1, HL.out.2.2.1, HZ.out.2, HZ.out.1⟩
                       case measure => simp [intOf]; omega
               . have ddp : decide (dp < 0) = false := dqf hdp
                 have HRD := zh (show rrun (l.drop (i + 1)) (i + 1) (closeF ⟨op, 0, kids⟩ S) dp = R from by
                  have h := HRY.out
                  rw [if_neg (by omega)] at h
                  exact h)
                 go_wp2_with (at_builtin; (refine wpList_app_open rfl (.tmp 63) (.tmp 69) rfl w.heap.size w4.heap.size m c1 (some ⟨gq, 0, none⟩) S.reverse ⟨op, 0, kids⟩ rfl (HOWN.out.alloc _) rfl (heap_alloc_new w4 _) (by omega) (by have := HW4.out.1.size; simp; omega) ?_; intro A2 c2' w5 ho5 hg5; have H5 := zh (ai ho5 ((HW4.out.1.alloc HW4.out.1.size _).grown hg5 (by have := HW4.out.1.size; simp; omega) (fun r hr => (World.ownsRow.lt HOWN.out r hr).1))); clear ho5 hg5))
                 have HS0 : Hid (w5.ownsRow w.heap.size 95 3 (.slice A2 (m + 1) c2') (m + 1) (fcells ((⟨op, 0, kids⟩ : Fr) :: S).reverse)) := by
                  have h := H5.out.1
                  rw [List.reverse_cons]
                  exact h
                 have HB0 : Hid (Below w.heap.size w w5) := H5.out.2
                 have HMS : Hid (m + 1 = ((⟨op, 0, kids⟩ : Fr) :: S).length ∧ m + 1 <= i + 1) := ⟨by rw [lnc, HO.out.2.2.2.2.1], by omega⟩
                 have HVF0 : Hid (VF ((⟨op, 0, kids⟩ : Fr) :: S)) := ⟨fun f hf => by
                  rcases List.mem_cons.1 hf with rfl | hf
                  . exact ⟨ho1, fo, kn, HFO.out.1, HFO.out.2.2, HFO.out.2.1, Nat.zero_le _⟩
                  . exact HO.out.2.2.1.1 f hf, fun f hf => vf_strict HO.out.2.2.1 HO.out.2.2.2.1 f hf⟩
                 have HTG : Hid (rrun (l.drop (i + 1)) (i + 1) (closeF ⟨op, 0, kids⟩ S) (dp) = R) := HRD.out
                 clear H5 HRX
                 obtain ⟨wa, hwa⟩ : ∃ x, x = wr := ⟨_, rfl⟩
                 subst hwa
                 go_loopw [4] (fun s4 wl => ∃ (m2 c3 : Nat) (A3 : Option Addr) (S2 : List Fr), s4 = .slice A3 m2 c3 ∧ m2 = S2.length ∧ m2 <= i + 1 ∧ wl.ownsRow w.heap.size 95 3 (.slice A3 m2 c3) m2 (fcells S2.reverse) ∧ Below w.heap.size w wl ∧ VF S2 ∧ close1 S2 = closeF ⟨op, 0, kids⟩ S) (fun s4 _ => sliceLen s4)
                 case atStart => exact ⟨m + 1, c2', A2, _, rfl, HMS.out.1, HMS.out.2, HS0.out, HB0.out, HVF0.out, rfl⟩
                 case round =>
                  clear HS0 HB0 HVF0 HMS
                  obtain ⟨m2, c3', A3, S2, rfl, hm2, hmi2, ho2, hb2, hvf2, hcl⟩ := hrel
                  have HL := zh (ai ho2 (ai hb2 (ai hvf2 (ai hm2 hcl))))
                  clear ho2 hb2 hvf2 hm2 hcl
                  cases hS2 : S2 with
                  | nil =>
                   have h0 : m2 = 0 := by rw [HL.out.2.2.2.1, hS2]; rfl
                   have HZ : Hid (rrun (l.drop (i + 1)) (i + 1) S2 (dp) = R ∧ Top1 S2) := by
                    have h := HTG.out
                    rw [<- HL.out.2.2.2.2, hS2] at h
                    exact ⟨by rw [hS2]; exact h, by rw [hS2]; exact trivial⟩
                   subst h0
                   clear hS2
                   go_wp2_with fail
                   go_quiet (fail)
                   have HW : Hid (Below w.heap.size w (wr.drewN nq) ∧ (wr.drewN nq).ownsRow w.heap.size 95 3 (.slice A3 0 c3') 0 (fcells S2.reverse)) := ⟨below_drewN HL.out.2.1 nq, own_below HL.out.1 (below_drewN (Below.refl _ wr) nq)⟩
                   go_wp2_with fail
                   go_roundw
                   case rel => exact ⟨i + 1, 0, c3', A3, S2, _, rfl, rfl, by go_num, by omega, HL.out.2.2.2.1, by omega, HW.out.2, HW.out.1, HL.out.2.2.1, HZ.out.2, HZ.out.1⟩
                   case measure => simp [intOf]; omega
                  | cons f S3 =>
                   obtain ⟨m3, hm3⟩ : ∃ k, k = S3.length := ⟨_, rfl⟩
                   have hm23 : m2 = m3 + 1 := by rw [HL.out.2.2.2.1, hS2, hm3]; rfl
                   obtain ⟨gr, capr, hvr, hgr, hltr⟩ := HL.out.1.form (by omega)
                   have hA3 : A3 = some ⟨gr, 0, none⟩ := by injection hvr
                   subst hA3
                   have r1 : wr.cell? ⟨gr, m3 * 3 + 1, none⟩ = some (.int .i64 (f.came : Nat)) := by
                    have h := HL.out.1.cells (g := gr) rfl (m3 * 3 + 1) (.int .i64 (f.came : Nat)) (by rw [hS2, hm3]; exact fcells_last rfl)
                    rw [addr_add, Nat.zero_add] at h
                    exact h
                   have r2 : wr.cell? ⟨gr, m3 * 3 + 2, none⟩ = some (.int .i64 f.n) := by
                    have h := HL.out.1.cells (g := gr) rfl (m3 * 3 + 2) (.int .i64 f.n) (by rw [hS2, hm3]; exact fcells_last rfl)
                    rw [addr_add, Nat.zero_add] at h
                    exact h
                   have hmm : (m2 : Int) - 1 = (m3 : Int) := by omega
                   have i0 : (0 : Int) <= (m3 : Int) := by omega
                   have i1 : (m3 : Int) < (m2 : Int) := by omega
                   have i2 : 0 < m2 := by omega
                   have i2d : decide ((0 : Int) < (m2 : Int)) = true := dqt (by omega)
                   have HM3 := zh (ai hm3 hm23)
                   clear hvr hm3 hm23
                   by_cases hcn : (f.came : Int) = f.n
                   . have hq : (((f.came : Nat) : Int) == f.n) = true := by rw [beq_iff_eq]; exact hcn
                     have hcp : m2 <= c3' := own_cap HL.out.1
                     have HP : Hid (wr.ownsRow w.heap.size 95 3 (.slice (some ⟨gr, 0, none⟩) m3 c3') m3 (fcells S3.reverse)) := by
                      have h := HL.out.1
                      rw [hS2, List.reverse_cons, fcells_append, HM3.out.2] at h
                      exact ownsRow_pop (by rw [fcells_length, List.length_reverse, HM3.out.1]) h
                     have HV3 : Hid (VF S3) := ⟨fun g hg => HL.out.2.2.1.1 g (by rw [hS2]; exact List.mem_cons_of_mem _ hg), fun g hg => HL.out.2.2.1.2 g (by rw [hS2]; exact List.mem_of_mem_tail hg)⟩
                     cases hS3 : S3 with
                     | nil =>
                      have h0 : m3 = 0 := by rw [HM3.out.1, hS3]; rfl
                      have HZ : Hid (close1 S3 = closeF ⟨op, 0, kids⟩ S) := by
                       rw [<- HL.out.2.2.2.2, hS2, hS3]
                       show [] = closeF f []
                       rw [closeF, if_pos hcn]
                      have HLE : Hid (0 = S3.length) := by rw [hS3]; rfl
                      subst h0
                      generalize f.came = fc at *
                      generalize f.n = fn at *
                      clear hS2 hS3 hcn
                      go_wp2_with fail
                      go_quiet (fail)
                      have HW : Hid (Below w.heap.size w (wr.drewN nq) ∧ (wr.drewN nq).ownsRow w.heap.size 95 3 (.slice (some ⟨gr, 0, none⟩) 0 c3') 0 (fcells S3.reverse)) := ⟨below_drewN HL.out.2.1 nq, own_below HP.out (below_drewN (Below.refl _ wr) nq)⟩
                      go_wp2_with fail
                      go_roundw
                      case rel => exact ⟨0, c3', some ⟨gr, 0, none⟩, S3, rfl, HLE.out, by omega, HW.out.2, HW.out.1, HV3.out, HZ.out⟩
                      case measure => simp [sliceLen]; omega
                     | cons g S4 =>
                      obtain ⟨m4, hm4⟩ : ∃ k, k = S4.length := ⟨_, rfl⟩
                      have hm34 : m3 = m4 + 1 := by rw [HM3.out.1, hS3, hm4]; rfl
                      have HZ : Hid (close1 ({ g with came := g.came + 1 } :: S4) = closeF ⟨op, 0, kids⟩ S) := by
                       rw [<- HL.out.2.2.2.2, hS2, hS3]
                       exact (close1_step hcn).symm
                      obtain ⟨gx, gn, hg1, hg2, hg3, hg4⟩ := (HV3.out.1 g (by rw [hS3]; exact List.mem_cons_self ..)).2
                      have hgc : g.came <= 2048 := by have := (forms_ok hg1).2.2.2; omega
                      have HV4 : Hid (g.came + 1 <= gn -> VF ({ g with came := g.came + 1 } :: S4)) := fun hle => ⟨fun q hq => by
                       rcases List.mem_cons.1 hq with rfl | hq
                       . exact ⟨(HV3.out.1 g (by rw [hS3]; exact List.mem_cons_self ..)).1, gx, gn, hg1, hg2, hg3, hle⟩
                       . exact HV3.out.1 q (by rw [hS3]; exact List.mem_cons_of_mem _ hq), fun q hq => HV3.out.2 q (by rw [hS3]; exact hq)⟩
                      have HST : Hid (∀ W v, W.ownsRow w.heap.size 95 3 (.slice (some ⟨gr, 0, none⟩) m3 c3') m3 (fcells S3.reverse) -> Below w.heap.size w W -> v = Value.int .i64 ((g.came + 1 : Nat) : Int) -> (W.setCell ⟨gr, m4 * 3 + 1, none⟩ v).ownsRow w.heap.size 95 3 (.slice (some ⟨gr, 0, none⟩) m3 c3') m3 (fcells ({ g with came := g.came + 1 } :: S4).reverse) ∧ Below w.heap.size w (W.setCell ⟨gr, m4 * 3 + 1, none⟩ v)) := by
                       intro W v hW hbW hv
                       subst hv
                       have h := hW.stored (m4 * 3 + 1) (.int .i64 ((g.came + 1 : Nat) : Int))
                       rw [hS3, hm4, fcells_came] at h
                       rw [hm4]
                       exact ⟨h.1, hbW.grown h.2 hbW.size (fun r hr => by injection hr with hr; rw [<- hr]; exact hgr)⟩
                      have HC4 : Hid (∀ W : World, W.ownsRow w.heap.size 95 3 (.slice (some ⟨gr, 0, none⟩) m3 c3') m3 (fcells S3.reverse) -> W.cell? ⟨gr, m4 * 3 + 1, none⟩ = some (.int .i64 (g.came : Nat)) ∧ W.frozen? ⟨gr, m4 * 3 + 1, none⟩ = false) := fun W hW => by
                       refine ⟨?_, World.ownsRow.frozenAt hW _⟩
                       have h := hW.cells (g := gr) rfl (m4 * 3 + 1) (.int .i64 (g.came : Nat)) (by rw [hS3, hm4]; exact fcells_last rfl)
                       rw [addr_add, Nat.zero_add] at h
                       exact h
                      have HLE : Hid (m3 = ({ g with came := g.came + 1 } :: S4).length) := by rw [HM3.out.1, hS3]; rfl
                      have HGN := zh (show g.came + 1 <= gn from by
                       have h1 := HL.out.2.2.1.2 g (by rw [hS2, hS3]; exact List.mem_cons_self ..)
                       omega)
                      have j0 : (0 : Int) <= (m4 : Int) := by omega
                      have j1 : (m4 : Int) < (m3 : Int) := by omega
                      have j2 : 0 < m3 := by omega
                      have j2d : decide ((0 : Int) < (m3 : Int)) = true := dqt (by omega)
                      have jm : (m3 : Int) - 1 = (m4 : Int) := by omega
                      generalize f.came = fc at *
                      generalize f.n = fn at *
                      obtain ⟨gcm, hgcm⟩ : ∃ z, z = g.came := ⟨_, rfl⟩
                      rw [<- hgcm] at hgc HC4
                      have HGC := zh hgcm
                      clear hS2 hS3 hcn hm4 hm34 hg1 hg2 hg3 hg4 hgcm
                      go_wp2_with fail
                      go_quiet (fail)
                      have HW : Hid (Below w.heap.size w (wr.drewN nq) ∧ (wr.drewN nq).ownsRow w.heap.size 95 3 (.slice (some ⟨gr, 0, none⟩) m3 c3') m3 (fcells S3.reverse)) := ⟨below_drewN HL.out.2.1 nq, own_below HP.out (below_drewN (Below.refl _ wr) nq)⟩
                      clear r1 r2
                      generalize wr.drewN nq = w8 at *
                      obtain ⟨q1, q2⟩ := HC4.out w8 HW.out.2
                      go_wp2_with fail
                      go_roundw
                      case rel =>
                       have h := HST.out w8 _ HW.out.2 HW.out.1 (show Value.int .i64 _ = Value.int .i64 ((g.came + 1 : Nat) : Int) from by rw [<- HGC.out])
                       exact ⟨m3, c3', some ⟨gr, 0, none⟩, _, rfl, HLE.out, by omega, h.1, h.2, HV4.out HGN.out, HZ.out⟩
                      case measure => simp [sliceLen]; omega
                   . have hq : (((f.came : Nat) : Int) == f.n) = false := by rw [bfn]; exact hcn
                     have HZ : Hid (rrun (l.drop (i + 1)) (i + 1) S2 (dp) = R ∧ Top1 S2) := by
                      have h := HTG.out
                      have ht : Top1 S2 := by rw [hS2]; exact hcn
                      rw [<- HL.out.2.2.2.2, close1_done ht] at h
                      exact ⟨h, ht⟩
                     generalize f.came = fc at *
                     generalize f.n = fn at *
                     clear hS2 hcn
                     go_wp2_with fail
                     go_quiet (fail)
                     have HW : Hid (Below w.heap.size w (wr.drewN nq) ∧ (wr.drewN nq).ownsRow w.heap.size 95 3 (.slice (some ⟨gr, 0, none⟩) m2 c3') m2 (fcells S2.reverse)) := ⟨below_drewN HL.out.2.1 nq, own_below HL.out.1 (below_drewN (Below.refl _ wr) nq)⟩
                     go_wp2_with fail
                     go_roundw
                     case rel => exact ⟨i + 1, m2, c3', some ⟨gr, 0, none⟩, S2, _, rfl, rfl, by go_num, by omega, HL.out.2.2.2.1, by omega, HW.out.2, HW.out.1, HL.out.2.2.1, HZ.out.2, HZ.out.1⟩
                     case measure => simp [intOf]; omega
         . omega
    . have hd2 : decide ((i : Int) < (n : Int)) = false := dqf (by omega)
      have HRF := zh (show R = some (S, dp) from by
       have h := HO.out.2.2.2.2.2
       rw [List.drop_of_length_le (by have := HN.out.1; omega), rrun] at h
       exact h.symm)
      have HE2 : Hid (er = if l = [] ∨ S ≠ [] then 3 else if 0 <= dp then 2 else 0) := by
       have h := HE.out
       rw [HRF.out] at h
       exact h
      have hml : m = S.length := HO.out.2.2.2.2.1
      by_cases hn0 : n = 0
      . have dn : ((n : Int) == 0) = true := by rw [beq_iff_eq]; omega
        have HE3 := zh (show er = 3 from by rw [HE2.out, if_pos (.inl (List.eq_nil_of_length_eq_zero (by have := HN.out.1; omega)))])
        clear hn0 hml
        go_wp2_with fail
        rw [<- HQ.out, HE3.out]
        exact ⟨⟨_, rfl⟩, HO.out.2.1⟩
      . have dn : ((n : Int) == 0) = false := by rw [bfn]; omega
        have HLN := zh (show l ≠ [] from fun h => hn0 (by rw [HN.out.1, h]; rfl))
        by_cases hm0 : 0 < m
        . have dm : decide ((0 : Int) < (m : Int)) = true := dqt (by omega)
          have HE3 := zh (show er = 3 from by rw [HE2.out, if_pos (.inr (fun h => by rw [h] at hml; simp at hml; omega))])
          clear hn0 hml
          go_wp2_with fail
          rw [<- HQ.out, HE3.out]
          exact ⟨⟨_, rfl⟩, HO.out.2.1⟩
        . have dm : decide ((0 : Int) < (m : Int)) = false := dqf (by omega)
          have HSE := zh (show S = [] from List.eq_nil_of_length_eq_zero (by omega))
          by_cases hdp : 0 <= dp
          . have dd : decide (0 <= dp) = true := dqt hdp
            have HE3 := zh (show er = 2 from by rw [HE2.out, if_neg (fun h => h.elim HLN.out (fun h => h HSE.out)), if_pos hdp])
            clear hn0 hml
            go_wp2_with fail
            rw [<- HQ.out, HE3.out]
            exact ⟨⟨_, rfl⟩, HO.out.2.1⟩
          . have dd : decide (0 <= dp) = false := dqf hdp
            have HE3 := zh (show er = 0 from by rw [HE2.out, if_neg (fun h => h.elim HLN.out (fun h => h HSE.out)), if_neg hdp])
            clear hn0 hml
            go_wp2_with fail
            rw [<- HQ.out, HE3.out]
            exact ⟨⟨_, rfl⟩, HO.out.2.1⟩
end Go.Proofs.YtbcadlocldplfaaDoor.T8
namespace Go.Proofs.YtbcadlocldplfaaDoor.T8
open Go.Proofs.Tryd
set_option maxRecDepth 100000
open Go.ChangeShapes Go.WideShapes Go.ChangeAt Go.RowKit Go.Deep
section
variable {H : Type} {enc : TypeId × Value -> H} {P : Program} {w : World} {base : Nat} {spare : Nat -> Bool} {held : Bool}
theorem open_slice_fields {t e : TypeId} {fs : Array Field} {fuel : Nat} {cs : List Value} {x : DataW H × List MemPlace} (ht : P.underlying t = some (.slice e)) (he : P.underlying e = some (.struct fs))
 (hone : oneCellFields P fs = true) (hC : P.cellsOf e = fs.size) (h : DataW.trod enc P w base spare held fuel t cs = some x) :
 (cs = [.slice none 0 0] ∧ x = (.nil, [])) ∨
 ∃ (a : Addr) (len cap m : Nat) (D : Nat -> DataW H) (Pl : Nat -> List MemPlace), cs = [.slice (some a) len cap] ∧ base <= a.block ∧ len <= cap ∧ cap <= maxLen ∧ m = (if spare a.block then cap else len) ∧
  x = (.slice ((List.range len).map D) ((List.range (m - len)).map fun j => D (len + j)), MemPlace.row a (m * fs.size) ++ (List.range m).flatMap Pl) ∧
  ∀ i, i < m -> ∃ (ys : List (DataW H × List MemPlace)) (n : Nat), D i = .agg (ys.map (·.1)) ∧ Pl i = ys.flatMap (·.2) ∧ ys.length = fs.size ∧
   ∀ (j : Nat) (f : Field), fs[j]? = some f -> ∃ (v : Value) (y : DataW H × List MemPlace), w.cell? (a.add (i * fs.size + j)) = some v ∧ ys[j]? = some y ∧ DataW.trod enc P w base spare held n f.type [v] = some y := by
 rcases open_slice ht h with h0 | ⟨a, len, cap, m, n, D, Pl, hcs, hb, hl, hm, hmm, hx, hi⟩
 . exact .inl h0
 . refine .inr ⟨a, len, cap, m, D, Pl, hcs, hb, hl, hm, hmm, by rw [hC] at hx; exact hx, fun i him => ?_⟩
   obtain ⟨cs', hc, ht'⟩ := hi i him
   rw [hC] at hc
   obtain ⟨ys, n', hn', hy, hlen, hyl, hf⟩ := DataW.trod_struct he ht'
   obtain ⟨_, hcl, hat⟩ := World.cells?_some hc
   simp only [Prod.mk.injEq] at hy
   refine ⟨ys, n', hy.1, hy.2, hyl, fun j f hj => ?_⟩
   obtain ⟨ho, hk⟩ := hone_of hone j f hj
   have hjl : j < fs.size := (Array.getElem?_eq_some_iff.1 hj).1
   have hcell := hat j hjl
   have hv : cs'[j]? = some (cs'[j]'(by omega)) := List.getElem?_eq_getElem (by omega)
   have h1 := hf j f hj
   rw [ho, hk] at h1
   have hone' : (cs'.drop j).take 1 = [cs'[j]'(by omega)] := by
    rw [List.drop_eq_getElem_cons (by omega)]
    rfl
   rw [hone'] at h1
   have hys : ys[j]? = some (ys[j]'(by omega)) := List.getElem?_eq_getElem (by omega)
   refine ⟨_, _, ?_, hys, h1.trans hys⟩
   rw [<- Go.Deep.add_add, hcell, hv]
end
theorem exists_list {α : Type} {P : Nat -> α -> Prop} : ∀ n, (∀ r, r < n -> ∃ l, P r l) -> ∃ ls : List α, ls.length = n ∧ ∀ r l, ls[r]? = some l -> P r l
 | 0, _ => ⟨[], rfl, fun r l h => by simp at h⟩
 | n + 1, h => by
  obtain ⟨ls, hl, hp⟩ := exists_list n (fun r hr => h r (by omega))
  obtain ⟨x, hx⟩ := h n (by omega)
  refine ⟨ls ++ [x], by simp [hl], fun r l hr => ?_⟩
  rw [List.getElem?_append] at hr
  split at hr
  . exact hp r l hr
  . have h0 : r - ls.length = 0 := by
     rcases Nat.eq_zero_or_pos (r - ls.length) with h | h
     . exact h
     . rw [List.getElem?_eq_none (by simp; omega)] at hr; cases hr
    rw [h0] at hr
    have e1 : x = l := by simpa using hr
    have e2 : r = n := by
     have : ¬ r < ls.length := by assumption
     omega
    rw [<- e1, e2]; exact hx
theorem tw_of {H : Type} {enc : TypeId × Value -> H} {W : World} {base : Nat} {sp : Nat -> Bool} {held : Bool} {v0 v1 v2 v3 : Value} {y0 y1 y2 y3 : DataW H × List MemPlace} {n0 n1 n2 n3 : Nat}
 (t0 : DataW.trod enc prog W base sp held n0 5 [v0] = some y0) (t1 : DataW.trod enc prog W base sp held n1 3 [v1] = some y1) (t2 : DataW.trod enc prog W base sp held n2 2 [v2] = some y2) (t3 : DataW.trod enc prog W base sp held n3 9 [v3] = some y3) :
 ∃ x : Tw, v0 = .int .u8 (x.op : Nat) ∧ v1 = .int .i64 x.kids ∧ v2 = .int .i64 x.int ∧ v3 = .string x.text ∧ TwOk x := by
 obtain ⟨n0, e0, _, w0⟩ := DataW.trod_int underlying5 t0
 obtain ⟨n1, e1, _, w1⟩ := DataW.trod_int underlying3 t1
 obtain ⟨n2, e2, _, w2⟩ := DataW.trod_int underlying2 t2
 obtain ⟨s3, e3, _, w3⟩ := DataW.trod_string underlying9 t3
 have hb := bounds_u8 w0
 have hb1 := bounds_i64 w1
 have hb2 := bounds_i64 w2
 obtain ⟨k0, rfl⟩ : ∃ k : Nat, n0 = (k : Int) := ⟨n0.toNat, by omega⟩
 injection e0 with e0
 injection e1 with e1
 injection e2 with e2
 injection e3 with e3
 subst e0; subst e1; subst e2; subst e3
 exact ⟨⟨k0, n1, n2, s3⟩, rfl, rfl, rfl, rfl, by dsimp only; omega, by dsimp only; omega, by dsimp only; omega, by dsimp only; omega, by dsimp only; omega, w3⟩
theorem open_twigs {H : Type} {enc : TypeId × Value -> H} {W : World} {base base2 : Nat} {sp : Nat -> Bool} {held : Bool} {v0 : Value} {d0 : DataW H} {p0 : List MemPlace}
 (hval : Value.okWide prog W .any base 23 v0) (h0 : DataW.Trod enc prog W base2 sp held 23 v0 d0 p0) :
 ∃ (A : Option Addr) (l : List Tw) (c : Nat), v0 = .slice A l.length c ∧ RdW W A l ∧ (l.length <= c ∧ c <= 9223372036854775807) ∧ (∀ x ∈ l, TwOk x) ∧ (∀ a, A = some a -> l ≠ [] -> a.block < W.heap.size) := by
 obtain ⟨a0, len0, cap0, rfl⟩ := okWide_slice underlying23 hval
 obtain ⟨fuel, hf⟩ := h0
 rcases open_slice_fields underlying23 underlying42 (by kernel_rfl) (by kernel_rfl) hf with ⟨hcs, _⟩ | ⟨a, len, cap, m, D, Pl, hcs, _, hl, hm, hmm, _, hrow⟩
 . simp [Value.cells] at hcs
   obtain ⟨rfl, rfl, rfl⟩ := hcs
   exact ⟨none, [], 0, rfl, .inl rfl, by simp, by simp, by simp⟩
 . simp [Value.cells] at hcs
   obtain ⟨rfl, rfl, rfl⟩ := hcs
   have hlm : len0 <= m := by rw [hmm]; split <;> omega
   have each : ∀ r, r < len0 -> ∃ s : Tw, (W.cell? (a.add (r * 4)) = some (.int .u8 (s.op : Nat)) ∧ W.cell? (a.add (r * 4 + 1)) = some (.int .i64 s.kids) ∧ W.cell? (a.add (r * 4 + 2)) = some (.int .i64 s.int) ∧ W.cell? (a.add (r * 4 + 3)) = some (.string s.text)) ∧ TwOk s := fun r hr => by
    obtain ⟨ys, n, _, _, _, hfl⟩ := hrow r (by omega)
    obtain ⟨v0, y0, hc0, _, ht0⟩ := hfl 0 _ rfl
    obtain ⟨v1, y1, hc1, _, ht1⟩ := hfl 1 _ rfl
    obtain ⟨v2, y2, hc2, _, ht2⟩ := hfl 2 _ rfl
    obtain ⟨v3, y3, hc3, _, ht3⟩ := hfl 3 _ rfl
    obtain ⟨x, e0, e1, e2, e3, hx⟩ := tw_of ht0 ht1 ht2 ht3
    subst e0; subst e1; subst e2; subst e3
    exact ⟨x, ⟨hc0, hc1, hc2, hc3⟩, hx⟩
   obtain ⟨ls, hls, hp⟩ := exists_list len0 each
   refine ⟨some a, ls, cap0, by rw [hls], ?_, by rw [hls]; unfold maxLen at hm; omega, fun s hs => ?_, fun a' ha' hpos => ?_⟩
   . rcases Nat.eq_zero_or_pos len0 with h0 | h0
     . left; exact List.eq_nil_of_length_eq_zero (by omega)
     . right
       obtain ⟨s, ⟨hc0, _, _⟩, _⟩ := each 0 h0
       obtain ⟨b, off, spot⟩ := a
       have hs : spot = none := by
        have := World.cell?_spot hc0
        simpa [Addr.add] using this
       subst hs
       refine ⟨b, off, rfl, ?_, fun k s hk => ?_⟩
       . have := World.block_lt_of_cell? W _ hc0
         simpa [addr_add] using this
       . obtain ⟨⟨h1, h2, h3, h4⟩, _⟩ := hp k s hk
         rw [addr_add] at h1 h2 h3 h4
         exact ⟨h1, h2, h3, h4⟩
   . obtain ⟨k, hk⟩ := List.getElem?_of_mem hs
     exact (hp k s hk).2
   . injection ha' with ha'
     subst ha'
     obtain ⟨s, ⟨hc0, _, _⟩, _⟩ := each 0 (by rw [<- hls]; exact List.length_pos_iff.2 hpos)
     have := World.block_lt_of_cell? W _ hc0
     rw [block_of_add] at this
     exact this
end Go.Proofs.YtbcadlocldplfaaDoor.T8
