/- The walk of prompterlaw19.StickyScript: it returns true. -/
import Derived.StillTailTactics
import Derived.Outline
import Derived.Test.YtnipmhidiiondaaTld
namespace Go.Proofs.Ytnipmhidiiondaa
open Go.RowKit Go.Maps

def Box3 (w : World) (b : Nat) (s : Stp) : Prop := w.cell? ⟨b, 0, none⟩ = some (.int .u8 (s.op : Nat)) ∧ w.cell? ⟨b, 1, none⟩ = some (.string s.name) ∧ w.cell? ⟨b, 2, none⟩ = some (.int .i64 s.v)
theorem Box3.chg {T : Nat → Prop} {w w' : World} {b : Nat} {s : Stp} (h : Box3 w b s) (hc : Chg T w w') (hb : b < w.heap.size) (hn : ¬ T b) : Box3 w' b s :=
  ⟨(World.cell?_of_block (hc.block b hb hn)).trans h.1, (World.cell?_of_block (hc.block b hb hn)).trans h.2.1, (World.cell?_of_block (hc.block b hb hn)).trans h.2.2⟩
set_option maxRecDepth 100000 in
set_option maxHeartbeats 4000000 in
theorem stickyScript_walk (R : Int) (A : Option Addr) (l : List Stp) (c : Nat) (w : World) (hR : -9223372036854775808 ≤ R ∧ R ≤ 9223372036854775807) (hl : RdS w A l) (hlen : l.length ≤ 9223372036854775807) (hnm : ∀ s ∈ l, s.name.size ≤ maxLen) :
    Calls Try.prog 5 #[.int .i64 R, .slice A l.length c] w fun e w' => e = .returned (.bool true) ∧ Below w.heap.size w w' := by
  obtain ⟨n, hn⟩ : ∃ n, n = l.length := ⟨_, rfl⟩
  rw [← hn] at hlen ⊢
  have HN := Lib.hid hn
  have HL := Lib.hid hl
  have HNM := Lib.hid hnm
  clear hn hl hnm
  obtain ⟨hR1, hR2⟩ := hR
  go_enter Try.func5, Try.ntmps5
  go_wp2_with fail
  refine (awake_any w).mono ?_
  rintro e w1 ⟨rfl, hb1⟩
  have HB1 := Lib.hid hb1
  clear hb1
  by_cases hlong : 150 < n
  · have hd : decide ((150 : Int) < (n : Int)) = true := decide_eq_true (by omega)
    go_wp2_with fail
    go_ret
    exact ⟨rfl, HB1.out⟩
  · have hd : decide ((150 : Int) < (n : Int)) = false := decide_eq_false (by omega)
    cases hmR : mayB R
    · have HMR := Lib.hid (new_bad R w1 hmR)
      have HME := Lib.hid (may_ref R w1)
      rw [hmR] at HME
      clear hmR
      go_wp2_with fail
      refine HMR.out.mono ?_
      rintro e w2 ⟨rfl, hw2⟩
      rw [hw2]
      clear hw2 w2
      go_wp2_with fail
      refine HME.out.mono ?_
      rintro e w2 ⟨rfl, hw2⟩
      rw [hw2]
      clear hw2 w2
      go_wp2_with fail
      go_ret
      exact ⟨rfl, HB1.out⟩
    · have hR3 : 1 ≤ R ∧ R ≤ 4096 := by unfold mayB at hmR; simpa using hmR
      obtain ⟨r, rfl⟩ : ∃ r : Nat, R = (r : Int) := ⟨R.toNat, by omega⟩
      have HMR := Lib.hid (new_any r w1 (by omega) (by omega))
      have HME := Lib.hid (fun W => may_ref (r : Nat) W)
      rw [hmR] at HME
      clear hmR
      go_wp2_with fail
      refine HMR.out.mono ?_
      rintro e w2 ⟨gc, pc, rfl, hcc, hbc, hoc⟩
      have HC := Lib.hid (And.intro hcc (And.intro hbc hoc))
      clear hcc hbc hoc
      go_wp2_with fail
      refine (HME.out w2).mono ?_
      rintro e w3 ⟨rfl, hw3⟩
      rw [hw3]
      clear hw3 w3
      go_wp2_with fail
      have HD0 : Hid (Duo w w.heap.size gc ⟨r, [], 0, 0⟩ pc w2.heap.size ⟨r, [], 0, 0⟩ none 0 (w2.alloc (.cells #[.int .i64 (r : Nat), .slice none 0 0, .int .i64 0, .int .i64 0] 45))) := by
        have hb : Below w2.heap.size w2 (w2.alloc (.cells #[.int .i64 (r : Nat), .slice none 0 0, .int .i64 0, .int .i64 0] 45)) := (Below.refl _ _).alloc (Nat.le_refl _) _
        refine ⟨HC.out.1.below hb, ⟨?_, .inl rfl, ⟨Nat.le_refl _, by decide⟩, (fun a h => by cases h), (fun a h => by cases h)⟩, (fun h => by have := HC.out.1.lt _ h; omega), (fun a h => by cases h), (fun b hb => Nat.le_trans HB1.out.size (HC.out.2.2 b hb)), Nat.le_trans HB1.out.size HC.out.2.1.size, HB1.out.trans ((HC.out.2.1.mono HB1.out.size).trans (hb.mono (Nat.le_trans HB1.out.size HC.out.2.1.size))), Nat.le_trans HB1.out.size (Nat.le_trans HC.out.2.1.size hb.size)⟩
        exact heap_alloc_new w2 _
      obtain ⟨gd, hgd⟩ : ∃ g, g = w2.heap.size := ⟨_, rfl⟩
      rw [← hgd] at HD0 ⊢
      generalize w2.alloc (.cells #[.int .i64 (r : Nat), .slice none 0 0, .int .i64 0, .int .i64 0] 45) = w3 at *
      clear HC HB1 HME HMR hgd
      go_loopw [8] (fun s8 wr => ∃ (k : Nat) (Ac : Abs) (pc : Pls) (AL : Option Addr) (cap : Nat), s8 = .int .i64 k ∧ k ≤ n ∧ Duo w w.heap.size gc Ac pc gd Ac AL cap wr ∧ Ac.hits ≤ k ∧ Ac.misses ≤ k) (fun s8 _ => n - (intOf s8).toNat)
      case atStart => exact ⟨0, _, pc, none, 0, rfl, by omega, HD0.out, Nat.le_refl _, Nat.le_refl _⟩
      case round =>
        clear HD0
        obtain ⟨k, Ac, pc, AL, cap, rfl, hk, hdu, hh1, hh2⟩ := hrel
        have HDU := Lib.hid hdu
        clear hdu
        by_cases hkn : k < n
        · have hd1 : decide ((k : Int) < (n : Int)) = true := decide_eq_true (by omega)
          obtain ⟨s, hs⟩ : ∃ s, l[k]? = some s := ⟨_, List.getElem?_eq_getElem (by rw [← HN.out]; exact hkn)⟩
          have HSM : Hid (s.name.size ≤ maxLen) := HNM.out s (List.mem_of_getElem? hs)
          obtain ⟨b, o, rfl, hlt2, hat⟩ : ∃ b off, A = some ⟨b, off, none⟩ ∧ b < wr.heap.size ∧ ∀ k s, l[k]? = some s → StpAt wr b (off + k * 3) s := (HL.out.keep HDU.out.bel).resolve_left (fun h => by rw [h] at hs; cases hs)
          obtain ⟨c0, c1, c2⟩ := hat k s hs
          have hk0 : (0 : Int) ≤ (k : Int) := by omega
          have hkn2 : (k : Int) < (n : Int) := by omega
          clear hs hat hlt2
          obtain ⟨op, name, v⟩ := s
          dsimp only at c0 c1 c2 HSM
          by_cases h0 : op = 0
          · have hb0 : ((op : Int) == 0) = true := by rw [h0]; rfl
            clear h0
            have h4 : Hid (Duo w w.heap.size gc Ac pc gd Ac AL cap (wr.alloc (.cells #[.int .u8 (op : Nat), .string name, .int .i64 v] 29)) ∧ Box3 (wr.alloc (.cells #[.int .u8 (op : Nat), .string name, .int .i64 v] 29)) wr.heap.size ⟨op, name, v⟩ ∧ wr.heap.size < (wr.alloc (.cells #[.int .u8 (op : Nat), .string name, .int .i64 v] 29)).heap.size ∧ ¬ Own gc pc wr.heap.size ∧ wr.heap.size ≠ gd) := by
              have hb := Blk.new wr 29 #[.int .u8 (op : Nat), .string name, .int .i64 v]
              exact ⟨HDU.out.below ((Below.refl _ _).alloc (Nat.le_refl _) _), ⟨hb.cell 0, hb.cell 1, hb.cell 2⟩, hb.lt, (fun h => by have := HDU.out.c.lt _ h; omega), (fun h => by have := HDU.out.d.top.lt; omega)⟩
            go_wp2_with fail
            generalize wr.heap.size = b9 at *
            generalize wr.alloc (.cells #[.int .u8 (op : Nat), .string name, .int .i64 v] 29) = w4 at *
            have HBK := Lib.hid h4.out.2
            have HD4 := Lib.hid h4.out.1
            clear h4 HDU
            have HFA := Lib.hid HD4.out.c.facts
            refine (put_any gc Ac pc name v w4 HD4.out.c HSM.out).mono ?_
            rintro e w5 ⟨rfl, hk5⟩
            have HB5 : Hid (Box3 w5 b9 ⟨op, name, v⟩ ∧ b9 < w5.heap.size) := by
              obtain ⟨p', k1, k2, k3⟩ := hk5
              exact ⟨HBK.out.1.chg k2 HBK.out.2.1 HBK.out.2.2.1, Nat.lt_of_lt_of_le HBK.out.2.1 k2.size⟩
            obtain ⟨pc2, hd5⟩ := HD4.out.left hk5
            have HD5 := Lib.hid hd5
            clear hk5 hd5 HD4
            obtain ⟨x0, x1, x2⟩ := HB5.out.1
            dsimp only at x0 x1 x2
            go_wp2_with fail
            refine (put_ref gd Ac AL cap name v w5 HD5.out.d HFA.out.1 HFA.out.2.1 HFA.out.2.2.1 HFA.out.2.2.2).mono ?_
            rintro e w6 ⟨rfl, hk6⟩
            obtain ⟨AL2, cap2, hd6⟩ := HD5.out.right hk6
            have HD6 := Lib.hid hd6
            have HFC := Lib.hid HD6.out.c.facts
            clear hk6 hd6 HD5 x0 x1 x2
            generalize (goneL Ac.room Ac.L name).1 = gn
            generalize (goneL Ac.room Ac.L name).2 = gb
            have hgn : (gn.toList == gn.toList) = true := beq_self_eq_true _
            have hgb : (gb != gb) = false := by cases gb <;> rfl
            go_wp2_with fail
            refine (told_any gc gd (putA Ac name v) pc2 AL2 cap2 w6 HD6.out.c HD6.out.d).mono ?_
            rintro e w9 ⟨rfl, hb9⟩
            have HD9 := Lib.hid (HD6.out.below hb9)
            clear hb9
            go_wp2_with fail
            go_roundw
            case rel => exact ⟨k + 1, (putA Ac name v), pc2, AL2, cap2, by go_num, by omega, HD9.out, (by show Ac.hits ≤ _; omega), (by show Ac.misses ≤ _; omega)⟩
            case measure => simp [intOf]; omega
          · have hb0 : ((op : Int) == 0) = false := by rw [beq_eq_false_iff_ne]; omega
            by_cases h1 : op = 1
            · have hb1 : ((op : Int) == 1) = true := by rw [h1]; rfl
              clear h0 h1
              have h4 : Hid (Duo w w.heap.size gc Ac pc gd Ac AL cap (wr.alloc (.cells #[.int .u8 (op : Nat), .string name, .int .i64 v] 29)) ∧ Box3 (wr.alloc (.cells #[.int .u8 (op : Nat), .string name, .int .i64 v] 29)) wr.heap.size ⟨op, name, v⟩ ∧ wr.heap.size < (wr.alloc (.cells #[.int .u8 (op : Nat), .string name, .int .i64 v] 29)).heap.size ∧ ¬ Own gc pc wr.heap.size ∧ wr.heap.size ≠ gd) := by
                have hb := Blk.new wr 29 #[.int .u8 (op : Nat), .string name, .int .i64 v]
                exact ⟨HDU.out.below ((Below.refl _ _).alloc (Nat.le_refl _) _), ⟨hb.cell 0, hb.cell 1, hb.cell 2⟩, hb.lt, (fun h => by have := HDU.out.c.lt _ h; omega), (fun h => by have := HDU.out.d.top.lt; omega)⟩
              go_wp2_with fail
              generalize wr.heap.size = b9 at *
              generalize wr.alloc (.cells #[.int .u8 (op : Nat), .string name, .int .i64 v] 29) = w4 at *
              have HBK := Lib.hid h4.out.2
              have HD4 := Lib.hid h4.out.1
              clear h4 HDU
              have HFA := Lib.hid HD4.out.c.facts
              refine (get_any gc Ac pc name w4 HD4.out.c HSM.out (by omega) (by omega)).mono ?_
              rintro e w5 ⟨rfl, hk5⟩
              have HB5 : Hid (Box3 w5 b9 ⟨op, name, v⟩ ∧ b9 < w5.heap.size) := by
                obtain ⟨p', k1, k2, k3⟩ := hk5
                exact ⟨HBK.out.1.chg k2 HBK.out.2.1 HBK.out.2.2.1, Nat.lt_of_lt_of_le HBK.out.2.1 k2.size⟩
              obtain ⟨pc2, hd5⟩ := HD4.out.left hk5
              have HD5 := Lib.hid hd5
              clear hk5 hd5 HD4
              obtain ⟨x0, x1, x2⟩ := HB5.out.1
              dsimp only at x0 x1 x2
              go_wp2_with fail
              refine (get_ref gd Ac AL cap name w5 HD5.out.d HFA.out.1 (Nat.le_trans HFA.out.2.1 HFA.out.2.2.2) (by omega) (by omega)).mono ?_
              rintro e w6 ⟨rfl, hk6⟩
              obtain ⟨AL2, cap2, hd6⟩ := HD5.out.right hk6
              have HD6 := Lib.hid hd6
              have HFC := Lib.hid HD6.out.c.facts
              clear hk6 hd6 HD5 x0 x1 x2
              have hq1 : (getA Ac name).hits ≤ k + 1 ∧ (getA Ac name).misses ≤ k + 1 := by unfold getA; dsimp only; refine ⟨?_, ?_⟩ <;> split <;> omega
              have HQ := Lib.hid hq1
              clear hq1
              generalize (lk Ac.L name).getD 0 = vv
              generalize (lk Ac.L name).isSome = gb
              have hvv : (vv != vv) = false := by simp
              have hgb : (gb != gb) = false := by cases gb <;> rfl
              go_wp2_with fail
              refine (told_any gc gd (getA Ac name) pc2 AL2 cap2 w6 HD6.out.c HD6.out.d).mono ?_
              rintro e w9 ⟨rfl, hb9⟩
              have HD9 := Lib.hid (HD6.out.below hb9)
              clear hb9
              go_wp2_with fail
              go_roundw
              case rel => exact ⟨k + 1, (getA Ac name), pc2, AL2, cap2, by go_num, by omega, HD9.out, HQ.out.1, HQ.out.2⟩
              case measure => simp [intOf]; omega
            · have hb1 : ((op : Int) == 1) = false := by rw [beq_eq_false_iff_ne]; omega
              by_cases h2 : op = 2
              · have hb2 : ((op : Int) == 2) = true := by rw [h2]; rfl
                clear h0 h1 h2
                have h4 : Hid (Duo w w.heap.size gc Ac pc gd Ac AL cap (wr.alloc (.cells #[.int .u8 (op : Nat), .string name, .int .i64 v] 29)) ∧ Box3 (wr.alloc (.cells #[.int .u8 (op : Nat), .string name, .int .i64 v] 29)) wr.heap.size ⟨op, name, v⟩ ∧ wr.heap.size < (wr.alloc (.cells #[.int .u8 (op : Nat), .string name, .int .i64 v] 29)).heap.size ∧ ¬ Own gc pc wr.heap.size ∧ wr.heap.size ≠ gd) := by
                  have hb := Blk.new wr 29 #[.int .u8 (op : Nat), .string name, .int .i64 v]
                  exact ⟨HDU.out.below ((Below.refl _ _).alloc (Nat.le_refl _) _), ⟨hb.cell 0, hb.cell 1, hb.cell 2⟩, hb.lt, (fun h => by have := HDU.out.c.lt _ h; omega), (fun h => by have := HDU.out.d.top.lt; omega)⟩
                go_wp2_with fail
                generalize wr.heap.size = b9 at *
                generalize wr.alloc (.cells #[.int .u8 (op : Nat), .string name, .int .i64 v] 29) = w4 at *
                have HBK := Lib.hid h4.out.2
                have HD4 := Lib.hid h4.out.1
                clear h4 HDU
                have HFA := Lib.hid HD4.out.c.facts
                refine (peek_any gc Ac pc name w4 HD4.out.c HSM.out).mono ?_
                rintro e w5 ⟨rfl, hw5⟩
                rw [hw5]
                clear hw5 w5
                obtain ⟨x0, x1, x2⟩ := HBK.out.1
                dsimp only at x0 x1 x2
                go_wp2_with fail
                refine (peek_ref gd Ac AL cap name w4 HD4.out.d HFA.out.1 (Nat.le_trans HFA.out.2.1 HFA.out.2.2.2)).mono ?_
                rintro e w6 ⟨rfl, hw6⟩
                rw [hw6]
                clear hw6 w6 x0 x1 x2
                generalize (lk Ac.L name).getD 0 = vv
                generalize (lk Ac.L name).isSome = gb
                have hvv : (vv != vv) = false := by simp
                have hgb : (gb != gb) = false := by cases gb <;> rfl
                go_wp2_with fail
                refine (told_any gc gd Ac pc AL cap w4 HD4.out.c HD4.out.d).mono ?_
                rintro e w9 ⟨rfl, hb9⟩
                have HD9 := Lib.hid (HD4.out.below hb9)
                clear hb9
                go_wp2_with fail
                go_roundw
                case rel => exact ⟨k + 1, Ac, pc, AL, cap, by go_num, by omega, HD9.out, (by omega), (by omega)⟩
                case measure => simp [intOf]; omega
              · have hb2 : ((op : Int) == 2) = false := by rw [beq_eq_false_iff_ne]; omega
                by_cases h3 : op = 3
                · have hb3 : ((op : Int) == 3) = true := by rw [h3]; rfl
                  clear h0 h1 h2 h3
                  have h4 : Hid (Duo w w.heap.size gc Ac pc gd Ac AL cap (wr.alloc (.cells #[.int .u8 (op : Nat), .string name, .int .i64 v] 29)) ∧ Box3 (wr.alloc (.cells #[.int .u8 (op : Nat), .string name, .int .i64 v] 29)) wr.heap.size ⟨op, name, v⟩ ∧ wr.heap.size < (wr.alloc (.cells #[.int .u8 (op : Nat), .string name, .int .i64 v] 29)).heap.size ∧ ¬ Own gc pc wr.heap.size ∧ wr.heap.size ≠ gd) := by
                    have hb := Blk.new wr 29 #[.int .u8 (op : Nat), .string name, .int .i64 v]
                    exact ⟨HDU.out.below ((Below.refl _ _).alloc (Nat.le_refl _) _), ⟨hb.cell 0, hb.cell 1, hb.cell 2⟩, hb.lt, (fun h => by have := HDU.out.c.lt _ h; omega), (fun h => by have := HDU.out.d.top.lt; omega)⟩
                  go_wp2_with fail
                  generalize wr.heap.size = b9 at *
                  generalize wr.alloc (.cells #[.int .u8 (op : Nat), .string name, .int .i64 v] 29) = w4 at *
                  have HBK := Lib.hid h4.out.2
                  have HD4 := Lib.hid h4.out.1
                  clear h4 HDU
                  have HFA := Lib.hid HD4.out.c.facts
                  refine (drop_any gc Ac pc name w4 HD4.out.c HSM.out).mono ?_
                  rintro e w5 ⟨rfl, hk5⟩
                  have HB5 : Hid (Box3 w5 b9 ⟨op, name, v⟩ ∧ b9 < w5.heap.size) := by
                    obtain ⟨p', k1, k2, k3⟩ := hk5
                    exact ⟨HBK.out.1.chg k2 HBK.out.2.1 HBK.out.2.2.1, Nat.lt_of_lt_of_le HBK.out.2.1 k2.size⟩
                  obtain ⟨pc2, hd5⟩ := HD4.out.left hk5
                  have HD5 := Lib.hid hd5
                  clear hk5 hd5 HD4
                  obtain ⟨x0, x1, x2⟩ := HB5.out.1
                  dsimp only at x0 x1 x2
                  go_wp2_with fail
                  refine (drop_ref gd Ac AL cap name w5 HD5.out.d HFA.out.1 (Nat.le_trans HFA.out.2.1 HFA.out.2.2.2)).mono ?_
                  rintro e w6 ⟨rfl, hk6⟩
                  obtain ⟨AL2, cap2, hd6⟩ := HD5.out.right hk6
                  have HD6 := Lib.hid hd6
                  have HFC := Lib.hid HD6.out.c.facts
                  clear hk6 hd6 HD5 x0 x1 x2
                  generalize (lk Ac.L name).isSome = gb
                  have hgb : (gb != gb) = false := by cases gb <;> rfl
                  go_wp2_with fail
                  refine (told_any gc gd { Ac with L := rm Ac.L name } pc2 AL2 cap2 w6 HD6.out.c HD6.out.d).mono ?_
                  rintro e w9 ⟨rfl, hb9⟩
                  have HD9 := Lib.hid (HD6.out.below hb9)
                  clear hb9
                  go_wp2_with fail
                  go_roundw
                  case rel => exact ⟨k + 1, { Ac with L := rm Ac.L name }, pc2, AL2, cap2, by go_num, by omega, HD9.out, (by show Ac.hits ≤ _; omega), (by show Ac.misses ≤ _; omega)⟩
                  case measure => simp [intOf]; omega
                · have hb3 : ((op : Int) == 3) = false := by rw [beq_eq_false_iff_ne]; omega
                  by_cases h4 : op = 4
                  · have hb4 : ((op : Int) == 4) = true := by rw [h4]; rfl
                    clear h0 h1 h2 h3 h4
                    have h4 : Hid (Duo w w.heap.size gc Ac pc gd Ac AL cap (wr.alloc (.cells #[.int .u8 (op : Nat), .string name, .int .i64 v] 29)) ∧ Box3 (wr.alloc (.cells #[.int .u8 (op : Nat), .string name, .int .i64 v] 29)) wr.heap.size ⟨op, name, v⟩ ∧ wr.heap.size < (wr.alloc (.cells #[.int .u8 (op : Nat), .string name, .int .i64 v] 29)).heap.size ∧ ¬ Own gc pc wr.heap.size ∧ wr.heap.size ≠ gd) := by
                      have hb := Blk.new wr 29 #[.int .u8 (op : Nat), .string name, .int .i64 v]
                      exact ⟨HDU.out.below ((Below.refl _ _).alloc (Nat.le_refl _) _), ⟨hb.cell 0, hb.cell 1, hb.cell 2⟩, hb.lt, (fun h => by have := HDU.out.c.lt _ h; omega), (fun h => by have := HDU.out.d.top.lt; omega)⟩
                    go_wp2_with fail
                    generalize wr.heap.size = b9 at *
                    generalize wr.alloc (.cells #[.int .u8 (op : Nat), .string name, .int .i64 v] 29) = w4 at *
                    have HBK := Lib.hid h4.out.2
                    have HD4 := Lib.hid h4.out.1
                    clear h4 HDU
                    have HFA := Lib.hid HD4.out.c.facts
                    cases hmv : mayB v
                    · refine (shrink_no gc Ac pc v w4 HD4.out.c hmv).mono ?_
                      rintro e w5 ⟨rfl, hw5⟩
                      rw [hw5]
                      clear hw5 w5
                      obtain ⟨x0, x1, x2⟩ := HBK.out.1
                      dsimp only at x0 x1 x2
                      go_wp2_with fail
                      refine (shrink_ref_no gd v w4 hmv).mono ?_
                      rintro e w6 ⟨rfl, hw6⟩
                      rw [hw6]
                      clear hw6 w6 x0 x1 x2
                      have HNM := Lib.hid (names_same none none 0 0 0 0 [] [] w4 (.inl rfl) (.inl rfl) rfl rfl (by omega) rfl)
                      go_wp2_with fail
                      refine HNM.out.mono ?_
                      rintro e w7 ⟨rfl, q7, hw7⟩
                      rw [hw7]
                      have HD7 := Lib.hid (HD4.out.below (below_drewN (Below.refl _ w4) q7))
                      clear hw7 HD4
                      generalize w4.drewN q7 = w8 at *
                      go_wp2_with fail
                      refine (told_any gc gd Ac pc AL cap w8 HD7.out.c HD7.out.d).mono ?_
                      rintro e w9 ⟨rfl, hb9⟩
                      have HD9 := Lib.hid (HD7.out.below hb9)
                      clear hb9
                      go_wp2_with fail
                      go_roundw
                      case rel => exact ⟨k + 1, Ac, pc, AL, cap, by go_num, by omega, HD9.out, (by omega), (by omega)⟩
                      case measure => simp [intOf]; omega
                    · have hv3 : 1 ≤ v ∧ v ≤ 4096 := by unfold mayB at hmv; simpa using hmv
                      clear hmv
                      obtain ⟨vn, rfl⟩ : ∃ vn : Nat, v = (vn : Int) := ⟨v.toNat, by omega⟩
                      have hv1 : 1 ≤ vn ∧ vn ≤ 4096 := by omega
                      have HV := Lib.hid hv1
                      clear hv1 hv3
                      refine (shrink_any gc Ac pc vn w4 HD4.out.c HV.out.1 HV.out.2).mono ?_
                      rintro e w5 ⟨⟨A5, c5, rfl, ho5⟩, hk5⟩
                      have HO5 := Lib.hid ho5
                      have HB5 : Hid (Box3 w5 b9 ⟨op, name, vn⟩ ∧ b9 < w5.heap.size) := by
                        obtain ⟨p', k1, k2, k3⟩ := hk5
                        exact ⟨HBK.out.1.chg k2 HBK.out.2.1 HBK.out.2.2.1, Nat.lt_of_lt_of_le HBK.out.2.1 k2.size⟩
                      obtain ⟨pc2, hd5⟩ := HD4.out.left hk5
                      have HD5 := Lib.hid hd5
                      have HGD : Hid (gd < w4.heap.size) := HD4.out.d.top.lt
                      clear hk5 hd5 HD4 ho5
                      obtain ⟨x0, x1, x2⟩ := HB5.out.1
                      dsimp only at x0 x1 x2
                      generalize hol : (outs Ac.L vn).length = ol at *
                      have HOL := Lib.hid hol
                      clear hol
                      go_wp2_with fail
                      refine (shrink_ref gd Ac AL cap vn w5 HD5.out.d (Nat.le_trans HFA.out.2.1 HFA.out.2.2.2) HV.out.1 HV.out.2).mono ?_
                      rintro e w6 ⟨⟨A6, c6, rfl, ho6⟩, hk6⟩
                      have HO6 := Lib.hid ho6
                      have HO5b : Hid (w6.ownsRow w4.heap.size 9 1 (.slice A5 ol c5) ol (scells (outs Ac.L vn))) := by
                        obtain ⟨AL', cap', k1, k2, k3⟩ := hk6
                        exact own_chg HO5.out k2 (fun g hg e => by
                          have h1 := (World.ownsRow.lt HO5.out g hg).1
                          have h2 := HGD.out
                          omega)
                      obtain ⟨AL2, cap2, hd6⟩ := HD5.out.right hk6
                      have HD6 := Lib.hid hd6
                      clear hk6 hd6 HD5 x0 x1 x2 ho6 HO5
                      rw [HOL.out] at HO6 ⊢
                      have hol2 : (outs Ac.L vn).length ≤ 4096 := by have := outs_length Ac.L vn; have := HFA.out; omega
                      have HNM := Lib.hid (names_same A5 A6 c5 c6 ol ol _ _ w6 (own_rdT HO5b.out HOL.out.symm) (own_rdT HO6.out HOL.out.symm) HOL.out.symm HOL.out.symm (by have := HOL.out; omega) rfl)
                      clear hol2
                      go_wp2_with fail
                      refine HNM.out.mono ?_
                      rintro e w7 ⟨rfl, q7, hw7⟩
                      rw [hw7]
                      have HD7 := Lib.hid (HD6.out.below (below_drewN (Below.refl _ w6) q7))
                      clear hw7 HD6 HNM HO5b HO6
                      generalize w6.drewN q7 = w8 at *
                      go_wp2_with fail
                      refine (told_any gc gd { Ac with room := vn, L := Ac.L.take vn } pc2 AL2 cap2 w8 HD7.out.c HD7.out.d).mono ?_
                      rintro e w9 ⟨rfl, hb9⟩
                      have HD9 := Lib.hid (HD7.out.below hb9)
                      clear hb9
                      go_wp2_with fail
                      go_roundw
                      case rel => exact ⟨k + 1, { Ac with room := vn, L := Ac.L.take vn }, pc2, AL2, cap2, by go_num, by omega, HD9.out, (by show Ac.hits ≤ _; omega), (by show Ac.misses ≤ _; omega)⟩
                      case measure => simp [intOf]; omega
                  · have hb4 : ((op : Int) == 4) = false := by rw [beq_eq_false_iff_ne]; omega
                    clear h0 h1 h2 h3 h4
                    have h4 : Hid (Duo w w.heap.size gc Ac pc gd Ac AL cap (wr.alloc (.cells #[.int .u8 (op : Nat), .string name, .int .i64 v] 29)) ∧ Box3 (wr.alloc (.cells #[.int .u8 (op : Nat), .string name, .int .i64 v] 29)) wr.heap.size ⟨op, name, v⟩ ∧ wr.heap.size < (wr.alloc (.cells #[.int .u8 (op : Nat), .string name, .int .i64 v] 29)).heap.size ∧ ¬ Own gc pc wr.heap.size ∧ wr.heap.size ≠ gd) := by
                      have hb := Blk.new wr 29 #[.int .u8 (op : Nat), .string name, .int .i64 v]
                      exact ⟨HDU.out.below ((Below.refl _ _).alloc (Nat.le_refl _) _), ⟨hb.cell 0, hb.cell 1, hb.cell 2⟩, hb.lt, (fun h => by have := HDU.out.c.lt _ h; omega), (fun h => by have := HDU.out.d.top.lt; omega)⟩
                    go_wp2_with fail
                    generalize wr.heap.size = b9 at *
                    generalize wr.alloc (.cells #[.int .u8 (op : Nat), .string name, .int .i64 v] 29) = w4 at *
                    have HBK := Lib.hid h4.out.2
                    have HD4 := Lib.hid h4.out.1
                    clear h4 HDU
                    refine (told_any gc gd Ac pc AL cap w4 HD4.out.c HD4.out.d).mono ?_
                    rintro e w9 ⟨rfl, hb9⟩
                    have HD9 := Lib.hid (HD4.out.below hb9)
                    clear hb9
                    go_wp2_with fail
                    go_roundw
                    case rel => exact ⟨k + 1, Ac, pc, AL, cap, by go_num, by omega, HD9.out, (by omega), (by omega)⟩
                    case measure => simp [intOf]; omega
        · have hd1 : decide ((k : Int) < (n : Int)) = false := decide_eq_false (by omega)
          go_wp2_with fail
          go_ret
          exact ⟨rfl, HDU.out.bel⟩
end Go.Proofs.Ytnipmhidiiondaa
