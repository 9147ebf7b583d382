/- Feed, whether something was wrong already or not; the two readers side by side. -/
import Derived.Test.YtmoplkmfpobhaaaFfx
import Derived.Test.YtmoplkmfpobhaaaFrs
namespace Go.Proofs.Ytmoplkmfpobhaaa
open Go.RowKit

def nl (left : List UInt8) (er : Nat) (p : List UInt8) : List UInt8 := if er = 0 then (left ++ p).drop (spl (left ++ p)).2.1 else left
def nt (tk : Nat) (left : List UInt8) (er : Nat) (p : List UInt8) : Nat := if er = 0 then tk + (spl (left ++ p)).2.1 else tk
def nerr (left : List UInt8) (er : Nat) (p : List UInt8) : Nat := if er = 0 then errAt (spl (left ++ p)).2.2 else er
def nb (left : List UInt8) (er : Nat) (p : List UInt8) : List (List UInt8) := if er = 0 then (spl (left ++ p)).1 else []
theorem nl_len (left : List UInt8) (tk er : Nat) (p : List UInt8) : (nl left er p).length ≤ left.length + p.length ∧ nt tk left er p + (nl left er p).length ≤ tk + left.length + p.length := by
  unfold nl nt
  have := spl_used (left ++ p)
  rw [List.length_append] at this
  by_cases h : er = 0
  · rw [if_pos h, if_pos h, List.length_drop, List.length_append]; omega
  · rw [if_neg h, if_neg h]; omega
theorem errAt_le (e : Nat) : errAt e ≤ e := by unfold errAt; split <;> omega
theorem nerr_le (left : List UInt8) (er : Nat) (p : List UInt8) (h : er ≤ 8) (hl : (left ++ p).length ≤ 100000) : nerr left er p ≤ 8 := by
  unfold nerr
  have := spl_err8 (left ++ p) hl
  have := errAt_le (spl (left ++ p)).2.2
  split <;> omega
theorem nb_len (left : List UInt8) (er : Nat) (p : List UInt8) : (nb left er p).length ≤ left.length + p.length := by
  unfold nb
  by_cases h : er = 0
  · rw [if_pos h]
    have := spl_len (left ++ p) _ (Nat.le_refl (left ++ p).length)
    have h2 : (spl (left ++ p)).1.length ≤ (left ++ p).length := this
    rwa [List.length_append] at h2
  · rw [if_neg h]; simp

def FeedAll (w : World) (br base : Nat) (Av : Option Addr) (cv tk : Nat) (left : List UInt8) (er : Nat) (p : List UInt8) (e : Ending) (w' : World) : Prop :=
  ∃ v Av' cv' mid, e = .returned (.tuple #[v, .int .i64 (nerr left er p : Nat)]) ∧ Rdr w' br (.slice Av' (nl left er p).length cv') (nt tk left er p) (nerr left er p) ∧ w'.ownsRow base 5 1 (.slice Av' (nl left er p).length cv') (nl left er p).length (bcells (nl left er p)) ∧
    LB w' w.heap.size mid v (nb left er p) ∧ mid ≤ w'.heap.size ∧ w.heap.size ≤ mid ∧ (er = 0 → ∀ g, (Value.slice Av' (nl left er p).length cv').ownBlock = some g → mid ≤ g) ∧ (er ≠ 0 → Av' = Av) ∧ Chg (fun k => k = br ∨ (Value.slice Av left.length cv).ownBlock = some k) w w'

theorem feed_all (br : Nat) (Av : Option Addr) (cv tk : Nat) (left : List UInt8) (er base : Nat) (A : Option Addr) (n cap : Nat) (l : List UInt8) (w : World) (h : Rdr w br (.slice Av left.length cv) tk er) (ho : w.ownsRow base 5 1 (.slice Av left.length cv) left.length (bcells left)) (hb : base ≤ w.heap.size)
    (hl : l.length = n) (hn : left.length + n ≤ 70000) (htk : tk ≤ 70000) (hr : Reads w w.heap.size 1 A n (bcells l)) :
    Calls Try.prog 20 #[.pointer (some ⟨br, 0, none⟩), .slice A n cap] w (FeedAll w br base Av cv tk left er l) := by
  by_cases he : er = 0
  · subst he
    refine (feed_ok br _ tk left base A n cap l w h ho hb hl hn htk hr).mono ?_
    rintro e w' ⟨v, lv', mid, rfl, h1, h2, h3, h4, h5, h6⟩
    have e1 : nl left 0 l = (left ++ l).drop (spl (left ++ l)).2.1 := if_pos rfl
    have e2 : nt tk left 0 l = tk + (spl (left ++ l)).2.1 := if_pos rfl
    have e3 : nerr left 0 l = errAt (spl (left ++ l)).2.2 := if_pos rfl
    have e4 : nb left 0 l = (spl (left ++ l)).1 := if_pos rfl
    unfold FeedAll
    rw [e1, e2, e3, e4]
    obtain ⟨Av', cv', rfl, _⟩ := own_form h2
    exact ⟨v, Av', cv', mid, rfl, h1, own_mono h2 (Nat.le_trans hb h4), h3, h5, h4, fun _ g hg => (World.ownsRow.lt h2 g hg).1, fun h => absurd rfl h, h6⟩
  · refine (feed_err br _ tk er _ w h (by omega)).mono ?_
    rintro e w' ⟨rfl, m, rfl⟩
    have e1 : nl left er l = left := if_neg he
    have e2 : nt tk left er l = tk := if_neg he
    have e3 : nerr left er l = er := if_neg he
    have e4 : nb left er l = [] := if_neg he
    unfold FeedAll
    rw [e1, e2, e3, e4]
    exact ⟨.slice none 0 0, Av, cv, w.heap.size, rfl, h, ho, (LL.nil_ _ _).lb, Nat.le_refl _, Nat.le_refl _, fun h => absurd h he, fun _ => rfl, (Chg.refl _ w).drewN m⟩

def RFeedAll (w : World) (bs : Nat) (As : Option Addr) (tk : Nat) (left : List UInt8) (er : Nat) (p : List UInt8) (e : Ending) (w' : World) : Prop :=
  ∃ v A' c', e = .returned (.tuple #[v, .int .i64 (nerr left er p : Nat)]) ∧ Blk w' bs 48 #[.slice A' (nl left er p).length c', .int .i64 (nt tk left er p : Nat), .int .i64 (nerr left er p : Nat)] ∧
    Reads w' w'.heap.size 1 A' (nl left er p).length (bcells (nl left er p)) ∧ (er = 0 → ∀ ad, 0 < (nl left er p).length → A' = some ad → w.heap.size ≤ ad.block) ∧ (er ≠ 0 → A' = As) ∧
    LL w' w.heap.size v (nb left er p) ∧ Chg (fun k => k = bs) w w'

theorem rfeed_all (bs : Nat) (As : Option Addr) (cs tk : Nat) (left : List UInt8) (er : Nat) (A : Option Addr) (n cap : Nat) (l : List UInt8) (w : World) (h : Blk w bs 48 #[.slice As left.length cs, .int .i64 (tk : Nat), .int .i64 (er : Nat)]) (hs : Reads w w.heap.size 1 As left.length (bcells left))
    (hl : l.length = n) (hn : left.length + n ≤ 70000) (htk : tk ≤ 70000) (hr : Reads w w.heap.size 1 A n (bcells l)) :
    Calls Try.prog 24 #[.pointer (some ⟨bs, 0, none⟩), .slice A n cap] w (RFeedAll w bs As tk left er l) := by
  by_cases he : er = 0
  · subst he
    refine (rfeed_ok bs As cs tk left A n cap l w h hs hl hn htk hr).mono ?_
    rintro e w' ⟨v, A', c', rfl, h1, h2, h3, h4, h5⟩
    have e1 : nl left 0 l = (left ++ l).drop (spl (left ++ l)).2.1 := if_pos rfl
    have e2 : nt tk left 0 l = tk + (spl (left ++ l)).2.1 := if_pos rfl
    have e3 : nerr left 0 l = errAt (spl (left ++ l)).2.2 := if_pos rfl
    have e4 : nb left 0 l = (spl (left ++ l)).1 := if_pos rfl
    unfold RFeedAll
    rw [e1, e2, e3, e4]
    exact ⟨v, A', c', rfl, h1, h2, fun _ => h3, fun h => absurd rfl h, h4, h5⟩
  · refine (rfeed_err bs _ tk er _ w h (by omega)).mono ?_
    rintro e w' ⟨rfl, m, rfl⟩
    have e1 : nl left er l = left := if_neg he
    have e2 : nt tk left er l = tk := if_neg he
    have e3 : nerr left er l = er := if_neg he
    have e4 : nb left er l = [] := if_neg he
    unfold RFeedAll
    rw [e1, e2, e3, e4]
    exact ⟨.slice none 0 0, As, cs, rfl, h, hs, fun h => absurd h he, fun _ => rfl, LL.nil_ _ _, (Chg.refl _ w).drewN m⟩

/-- What the two readers have. -/
structure FInv (w wr : World) (br bs h1 : Nat) (left : List UInt8) (tk er : Nat) (Av : Option Addr) (cv : Nat) (As : Option Addr) (cs : Nat) : Prop where
  r : Rdr wr br (.slice Av left.length cv) tk er
  s : Blk wr bs 48 #[.slice As left.length cs, .int .i64 (tk : Nat), .int .i64 (er : Nat)]
  own : wr.ownsRow h1 5 1 (.slice Av left.length cv) left.length (bcells left)
  reads : Reads wr wr.heap.size 1 As left.length (bcells left)
  apart : ∀ ad, 0 < left.length → As = some ad → h1 ≤ ad.block ∧ (Value.slice Av left.length cv).ownBlock ≠ some ad.block
  below : Below w.heap.size w wr
  size : h1 ≤ wr.heap.size

theorem FInv.chg {w wr wr' : World} {br bs h1 : Nat} {left : List UInt8} {tk er : Nat} {Av : Option Addr} {cv : Nat} {As : Option Addr} {cs : Nat} (h : FInv w wr br bs h1 left tk er Av cv As cs) {T : Nat → Prop} (hc : Chg T wr wr')
    (hT : ∀ k, T k → w.heap.size ≤ k ∧ k ≠ br ∧ k ≠ bs ∧ (Value.slice Av left.length cv).ownBlock ≠ some k ∧ ∀ ad, 0 < left.length → As = some ad → k ≠ ad.block) : FInv w wr' br bs h1 left tk er Av cv As cs :=
  ⟨h.r.chg hc (fun e => (hT _ e).2.1 rfl), h.s.chg hc (fun e => (hT _ e).2.2.1 rfl), own_chg h.own hc (fun _ hg e => (hT _ e).2.2.2.1 hg),
    (h.reads.chg hc (Nat.le_refl _) (fun ad h0 e t => (hT _ t).2.2.2.2 ad h0 e rfl)).more hc.size, h.apart, Chg.below h.below hc h.below.size (fun k e => (hT k e).1), Nat.le_trans h.size hc.size⟩

theorem FInv.next {w wr wA w5 wx w7 : World} {br bs h1 : Nat} {left : List UInt8} {tk er : Nat} {Av : Option Addr} {cv : Nat} {As : Option Addr} {cs : Nat} {p : List UInt8} {Av' : Option Addr} {cv' mid : Nat} {As' : Option Addr} {cs' : Nat}
    (hI : FInv w wr br bs h1 left tk er Av cv As cs) (o1 : w.heap.size ≤ br) (o2 : br < bs) (o3 : bs < h1) (hA : Chg (fun _ => False) wr wA) (hAs : wA.heap.size = wr.heap.size + 1)
    (r5 : Rdr w5 br (.slice Av' (nl left er p).length cv') (nt tk left er p) (nerr left er p)) (w5o : w5.ownsRow h1 5 1 (.slice Av' (nl left er p).length cv') (nl left er p).length (bcells (nl left er p)))
    (m2 : wA.heap.size ≤ mid) (m3 : er = 0 → ∀ g, (Value.slice Av' (nl left er p).length cv').ownBlock = some g → mid ≤ g) (m4 : er ≠ 0 → Av' = Av) (c5 : Chg (fun k => k = br ∨ (Value.slice Av left.length cv).ownBlock = some k) wA w5)
    (cx : Chg (fun k => k = wr.heap.size) w5 wx) (s7 : Blk w7 bs 48 #[.slice As' (nl left er p).length cs', .int .i64 (nt tk left er p : Nat), .int .i64 (nerr left er p : Nat)]) (rd7 : Reads w7 w7.heap.size 1 As' (nl left er p).length (bcells (nl left er p)))
    (a1 : er = 0 → ∀ ad, 0 < (nl left er p).length → As' = some ad → wx.heap.size ≤ ad.block) (a2 : er ≠ 0 → As' = As) (c7 : Chg (fun k => k = bs) wx w7) :
    FInv w w7 br bs h1 (nl left er p) (nt tk left er p) (nerr left er p) Av' cv' As' cs' := by
  have hob : ∀ g, (Value.slice Av' (nl left er p).length cv').ownBlock = some g → g ≠ wr.heap.size := fun g hg => by
    by_cases he : er = 0
    · have := m3 he g hg; omega
    · have h2 := m4 he
      subst h2
      have h3 : (Value.slice Av' left.length cv).ownBlock = some g := by
        cases Av' with
        | none => simp [Value.ownBlock] at hg
        | some a => simpa [Value.ownBlock] using hg
      have := (World.ownsRow.lt hI.own g h3).2
      omega
  have hsz : h1 ≤ wr.heap.size := hI.size
  have wxo := own_chg w5o cx (fun g hg e => hob g hg e)
  have rx := r5.chg cx (fun e => by omega)
  refine ⟨rx.chg c7 (fun e => by omega), s7, own_chg wxo c7 (fun g hg e => ?_), rd7, fun ad h0 e => ?_, ?_, ?_⟩
  · have := (World.ownsRow.lt wxo g hg).1
    omega
  · by_cases he : er = 0
    · have h2 := a1 he ad h0 e
      have h3 := cx.size
      have h4 := c5.size
      refine ⟨by omega, fun h => ?_⟩
      have := (World.ownsRow.lt w5o _ h).2
      omega
    · have h2 := a2 he
      have h3 := m4 he
      have h4 : nl left er p = left := if_neg he
      rw [h4] at h0 ⊢
      subst h2 h3
      obtain ⟨h5, h6⟩ := hI.apart ad h0 e
      refine ⟨h5, fun h => h6 ?_⟩
      cases Av' with
      | none => simp [Value.ownBlock] at h
      | some a => simpa [Value.ownBlock] using h
  · have hob2 : ∀ g, (Value.slice Av left.length cv).ownBlock = some g → h1 ≤ g := fun g hg => (World.ownsRow.lt hI.own g hg).1
    have b1 := Chg.below hI.below hA hI.below.size (fun k h => h.elim)
    have b2 := Chg.below b1 c5 b1.size (fun k h => by
      rcases h with h | h
      · omega
      · have := hob2 k h; omega)
    have b3 := Chg.below b2 cx b2.size (fun k h => by
      have h' : k = wr.heap.size := h
      have := hI.below.size
      omega)
    exact Chg.below b3 c7 b3.size (fun k h => by
      have h' : k = bs := h
      omega)
  · have := cx.size; have := c5.size; have := c7.size
    omega
end Go.Proofs.Ytmoplkmfpobhaaa
