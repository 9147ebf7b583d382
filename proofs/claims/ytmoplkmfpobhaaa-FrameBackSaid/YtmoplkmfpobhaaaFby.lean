/- FrameBack: one piece is fed; what is split of a beginning. -/
import Derived.Test.YtmoplkmfpobhaaaFbx
namespace Go.Proofs.Ytmoplkmfpobhaaa
open Go.RowKit

structure CutAt (fs : List UInt8) (q : Nat) (left : List UInt8) (tk : Nat) (gs : List (List UInt8)) : Prop where
  left : left = (fs.take q).drop (spl (fs.take q)).2.1
  tk : tk = (spl (fs.take q)).2.1
  gs : gs = (spl (fs.take q)).1
theorem CutAt.zero (fs : List UInt8) : CutAt fs 0 [] 0 [] := ⟨by simp, by simp [spl_nil], by simp [spl_nil]⟩
theorem CutAt.len {fs : List UInt8} {q : Nat} {left : List UInt8} {tk : Nat} {gs : List (List UInt8)} (h : CutAt fs q left tk gs) (hq : q ≤ fs.length) : left.length + tk = q ∧ gs.length ≤ q := by
  have h1 := left_len fs q hq
  have h2 := spl_len (fs.take q) _ (Nat.le_refl (fs.take q).length)
  have h3 : (spl (fs.take q)).1.length ≤ (fs.take q).length := h2
  rw [List.length_take, Nat.min_eq_left hq] at h3
  rw [h.left, h.tk, h.gs]
  exact ⟨h1, h3⟩
theorem CutAt.done {ls : List (List UInt8)} (hls : ∀ l ∈ ls, l.length ≤ 65536) {left : List UInt8} {tk : Nat} {gs : List (List UInt8)} (h : CutAt (framesL ls) (framesL ls).length left tk gs) : left = [] ∧ gs = ls := by
  have h1 := h.left
  have h2 := h.gs
  rw [List.take_length, spl_frames ls hls] at h1 h2
  exact ⟨by rw [h1]; exact List.drop_length, h2⟩

theorem feed_step {ls : List (List UInt8)} (hls : ∀ l ∈ ls, l.length ≤ 65536) (hl : (framesL ls).length ≤ 30000) {at_ tq : Nat} (h1 : at_ ≤ tq) (h2 : tq ≤ (framesL ls).length) {w2 wr : World} {br hi : Nat} {left : List UInt8} {tk : Nat} {gs : List (List UInt8)} {Av : Option Addr} {cv : Nat} {Ag : Option Addr} {cg : Nat}
    (hc : CutAt (framesL ls) at_ left tk gs) (hI : GInv w2 wr br hi left tk gs Av cv Ag cg) (A : Option Addr) (n cap : Nat) (hn : n = tq - at_) (hr : Reads wr wr.heap.size 1 A n (bcells (((framesL ls).take tq).drop at_))) :
    Calls Try.prog 20 #[.pointer (some ⟨br, 0, none⟩), .slice A n cap] wr fun e w' => ∃ Al cl ms left' tk' mid Av' cv', e = .returned (.tuple #[.slice Al (ms : List (List UInt8)).length cl, .int .i64 0]) ∧ GMid w2 w' br mid left' tk' gs Av' cv' Ag cg Al cl ms ∧ CutAt (framesL ls) tq left' tk' (gs ++ ms) := by
  have hlen := hc.len (Nat.le_trans h1 h2)
  have hcut := cut_any (framesL ls) at_ tq h1 h2
  have hpl : (((framesL ls).take tq).drop at_).length = n := by rw [List.length_drop, List.length_take, Nat.min_eq_left h2, hn]
  refine (feed_all br Av cv tk left 0 (br + 1) A n cap _ wr hI.r hI.own hI.size hpl (by omega) (by omega) hr).mono ?_
  rintro e w5 ⟨v5, Av', cv', mid, rfl, r5, o5, l5, m1, m2, m3, m4, c5⟩
  have e1 : nerr left 0 (((framesL ls).take tq).drop at_) = 0 := by
    rw [hc.left, hcut.err]
    rcases spl_begin ls hls tq h2 with ⟨h, _⟩ | ⟨h, _⟩ <;> rw [h] <;> rfl
  have e2 := hcut.left
  have e3 := hcut.taken
  have e4 := hcut.bodies
  rw [← hc.left] at e2 e3 e4
  rw [← hc.tk] at e3
  rw [← hc.gs] at e4
  rw [e1] at r5 ⊢
  obtain ⟨Al, cl, rfl, _⟩ := l5.form
  exact ⟨Al, cl, nb left 0 _, _, _, mid, Av', cv', rfl, hI.feed r5 o5 l5 m1 m2 (fun g hg => m3 rfl g hg) c5, ⟨e2, e3, e4.symm⟩⟩

theorem split_step {ls : List (List UInt8)} (hls : ∀ l ∈ ls, l.length ≤ 65536) (hl : (framesL ls).length ≤ 30000) {tq : Nat} (h2 : tq ≤ (framesL ls).length) {w : World} {left : List UInt8} {tk : Nat} {gs : List (List UInt8)} (hc : CutAt (framesL ls) tq left tk gs)
    (A : Option Addr) (n cap : Nat) (hn : n = tq) (hcap : n ≤ cap) (hr : Reads w w.heap.size 1 A n (bcells ((framesL ls).take tq))) :
    Calls Try.prog 17 #[.slice A n cap] w fun e w' => ∃ Ak ck er, e = .returned (.tuple #[.slice Ak gs.length ck, .int .i64 (tk : Nat), .int .i64 (er : Nat)]) ∧ (er = 0 ∧ left.length = 0 ∨ er = 4 ∧ 0 < left.length) ∧ Below w.heap.size w w' := by
  have hlen := hc.len h2
  refine (split_any A n cap ((framesL ls).take tq) w (by rw [List.length_take, Nat.min_eq_left h2, hn]) (by omega) hcap hr).mono ?_
  rintro e w5 ⟨v, rfl, hll, hb⟩
  obtain ⟨Ak, ck, rfl, _⟩ := hll.form
  refine ⟨Ak, ck, (spl ((framesL ls).take tq)).2.2, by rw [hc.gs, hc.tk], ?_, hb⟩
  have ht := hc.tk
  rcases spl_begin ls hls tq h2 with ⟨h, h'⟩ | ⟨h, h'⟩
  · exact .inl ⟨h, by omega⟩
  · exact .inr ⟨h, by omega⟩
theorem read_piece {W : World} {B F : Nat} {Aa : Option Addr} {fs : List UInt8} (h : Reads W B 1 Aa F (bcells fs)) {q tq : Nat} (h1 : q ≤ tq) (h2 : tq ≤ F) (A : Option Addr) (n : Nat) (hn : n = tq - q) (hA : n = 0 ∨ ∃ g, Aa = some ⟨g, 0, none⟩ ∧ A = some ⟨g, q, none⟩) :
    Reads W B 1 A n (bcells ((fs.take tq).drop q)) := by
  have hF : fs.length = F := by have := h.1; rw [bcells_length] at this; omega
  rcases hA with h0 | ⟨g, rfl, rfl⟩
  · have e : (fs.take tq).drop q = [] := List.eq_nil_of_length_eq_zero (by rw [List.length_drop, List.length_take]; omega)
    rw [e, h0]
    exact Reads.none_
  · have := h.sub q tq h1 h2
    rw [Nat.zero_add] at this
    rw [hn]; exact this
theorem read_to {W : World} {B F : Nat} {Aa : Option Addr} {fs : List UInt8} (h : Reads W B 1 Aa F (bcells fs)) {tq : Nat} (h2 : tq ≤ F) : Reads W B 1 Aa tq (bcells (fs.take tq)) := by
  have hF : fs.length = F := by have := h.1; rw [bcells_length] at this; omega
  refine ⟨by rw [bcells_length, List.length_take]; omega, fun h0 => ?_⟩
  obtain ⟨ad, e, hb, hc⟩ := h.2 (by omega)
  refine ⟨ad, e, hb, fun j u hu => hc j u ?_⟩
  unfold bcells at hu ⊢
  rw [List.map_take, List.getElem?_take] at hu
  split at hu
  · exact hu
  · cases hu
end Go.Proofs.Ytmoplkmfpobhaaa
