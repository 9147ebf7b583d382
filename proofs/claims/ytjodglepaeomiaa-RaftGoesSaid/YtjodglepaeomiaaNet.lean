/- What servers do, in a memory of several. -/
import Derived.Test.YtjodglepaeomiaaSrs
namespace Go.Proofs.Ytjodglepaeomiaa
open Go.RowKit

/-- What a step leaves that answers with messages. -/
def Did (w : World) (X : Nat → Prop) (l : List (Nat × Sv)) (i g : Nat) (S' : Sv) (ms : List Mg) (e : Ending) (w' : World) : Prop :=
  ∃ (D : Option Addr) (d : Nat) (X' : Nat → Prop), e = .returned (.slice D ms.length d) ∧ (∀ b, X b → X' b) ∧ (∀ b, X' b → b < w'.heap.size) ∧ Srvs w' X' (l.set i (g, S')) ∧ MsX w' X' D ms.length d ms ∧ Chg (fun b => ¬ X b) w w'
theorem Srvs.outs {w : World} {X : Nat → Prop} {l : List (Nat × Sv)} (h : Srvs w X l) (hXw : ∀ b, X b → b < w.heap.size) {i g : Nat} {S : Sv} (hi : l[i]? = some (g, S)) (f : FuncId) (args : Array Value) (S' : Sv) (ms : List Mg)
    (hc : ∀ A c, SvM w g S A c → Calls Try.prog f args w (OutS w g A S' ms)) : Calls Try.prog f args w (Did w X l i g S' ms) := by
  obtain ⟨A, c, hm, hst⟩ := h.step hXw hi
  refine (hc A c hm).mono ?_
  rintro e w' ⟨A', c', B, D, d, hm', hch, htr, hB, hAB, rfl, hms⟩
  obtain ⟨h1, h2⟩ := hst S' A' c' w' (fun b => X b ∨ (B ≤ b ∧ b < w'.heap.size)) hm' hch htr (fun b hb => hb.imp id (fun h => ⟨Nat.le_trans hB h.1, fun a ha => Nat.lt_of_lt_of_le (hAB a ha) h.1⟩))
  exact ⟨D, d, _, rfl, fun b hb => .inl hb, fun b hb => hb.elim (fun h => Nat.lt_of_lt_of_le (hXw b h) hch.size) (fun h => h.2), h1, hms.toX (fun b h3 h4 => .inr ⟨h3, h4⟩), h2⟩
theorem Srvs.tick {w : World} {X : Nat → Prop} {l : List (Nat × Sv)} (h : Srvs w X l) (hXw : ∀ b, X b → b < w.heap.size) {i g : Nat} {S : Sv} (hi : l[i]? = some (g, S)) (hg : S.Good) :
    Calls Try.prog 9 #[.pointer (some ⟨g, 0, none⟩)] w (Did w X l i g S.tick.1 S.tick.2) :=
  h.outs hXw hi 9 _ _ _ (fun A c hm => tick_any S g A c w hm hg.toOk)
theorem Srvs.handle {w : World} {X : Nat → Prop} {l : List (Nat × Sv)} (h : Srvs w X l) (hXw : ∀ b, X b → b < w.heap.size) {i g : Nat} {S : Sv} (hi : l[i]? = some (g, S)) (hg : S.Good) {m : Mg} {E : Option Addr} {e : Nat} (hm : MgOk m)
    (hrd : RdE w E m.ents) (hE : ∀ a, E = some a → m.ents ≠ [] → a.block ≠ g) (hcap : m.ents.length ≤ e) (hE0 : E = none → e = 0) :
    Calls Try.prog 10 #[.pointer (some ⟨g, 0, none⟩), .agg (mcell E e m).toArray] w (Did w X l i g (S.handle m).1 (S.handle m).2) :=
  h.outs hXw hi 10 _ _ _ (fun A c hs => handle_any S m g A E c e w ⟨hs, hg.toOk⟩ hm hrd hE hcap hE0)
/-- A server's own block is none of X. -/
theorem Srvs.notX {w : World} {X : Nat → Prop} {l : List (Nat × Sv)} (h : Srvs w X l) {i g : Nat} {S : Sv} (hi : l[i]? = some (g, S)) : ¬ X g := by
  obtain ⟨T, h1, _, h3⟩ := h
  obtain ⟨A, c, _, ht⟩ := h1 i _ hi
  exact (h3 i g (ht g (.inl rfl))).2
/-- An owned row of entries, as an argument. -/
theorem own_arg {w : World} {base n c : Nat} {E : Option Addr} {L : List Ent} (h : w.ownsRow base 39 2 (.slice E n c) n (rowOf ecell L)) (hn : n = L.length) : RdE w E L ∧ L.length ≤ c ∧ (E = none → c = 0) := by
  refine ⟨.of_own ecell_len h hn, ?_, fun e => ?_⟩
  · rcases h.2 with ⟨h2, h3⟩ | ⟨g', cap, cur, h2, _, _, hc, _⟩
    · omega
    · injection h2 with _ _ h5; omega
  · rcases h.2 with ⟨h2, _⟩ | ⟨g', cap, cur, h2, _⟩
    · injection h2
    · rw [e] at h2; injection h2 with h2; cases h2
theorem Srvs.handleX {w : World} {X : Nat → Prop} {l : List (Nat × Sv)} (h : Srvs w X l) (hXw : ∀ b, X b → b < w.heap.size) {i g : Nat} {S : Sv} (hi : l[i]? = some (g, S)) (hg : S.Good) {m : Mg} {E : Option Addr} {e : Nat} (hm : MgOk m)
    (ho : w.ownsRow 0 39 2 (.slice E m.ents.length e) m.ents.length (rowOf ecell m.ents)) (hX : ∀ b, (Value.slice E m.ents.length e).ownBlock = some b → X b) :
    Calls Try.prog 10 #[.pointer (some ⟨g, 0, none⟩), .agg (mcell E e m).toArray] w (Did w X l i g (S.handle m).1 (S.handle m).2) := by
  obtain ⟨h1, h2, h3⟩ := own_arg ho rfl
  exact h.handle hXw hi hg hm h1 (fun a ha _ he => h.notX hi (he ▸ hX _ (own_block ho a ha))) h2 h3
theorem Srvs.propose {w : World} {X : Nat → Prop} {l : List (Nat × Sv)} (h : Srvs w X l) (hXw : ∀ b, X b → b < w.heap.size) {i g : Nat} {S : Sv} (hi : l[i]? = some (g, S)) (hg : S.Good) (d : ByteArray) :
    Calls Try.prog 14 #[.pointer (some ⟨g, 0, none⟩), .string d] w fun e w' => e = .returned (.tuple #[.int .i64 ((S.propose d).2.1 : Nat), .int .i64 (S.propose d).2.2]) ∧ Srvs w' X (l.set i (g, (S.propose d).1)) ∧ Chg (fun b => ¬ X b) w w' := by
  obtain ⟨A, c, hm, hst⟩ := h.step hXw hi
  refine (propose_any S d g A c w hm hg.toOk).mono ?_
  rintro e w' ⟨rfl, A', c', hm', hch, htr⟩
  obtain ⟨h1, h2⟩ := hst _ A' c' w' X hm' hch htr (fun b hb => .inl hb)
  exact ⟨rfl, h1, h2⟩
theorem Srvs.get {w : World} {X : Nat → Prop} {l : List (Nat × Sv)} (h : Srvs w X l) {i g : Nat} {S : Sv} (hi : l[i]? = some (g, S)) : ∃ A c, SvM w g S A c := by
  obtain ⟨T, h1, _, _⟩ := h
  obtain ⟨A, c, hm, _⟩ := h1 i _ hi
  exact ⟨A, c, hm⟩
end Go.Proofs.Ytjodglepaeomiaa
