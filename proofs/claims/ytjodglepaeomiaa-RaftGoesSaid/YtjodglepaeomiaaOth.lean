/- Contracts of others and of Tick's closure. -/
import Derived.Test.YtjodglepaeomiaaSnd
namespace Go.Proofs.Ytjodglepaeomiaa
open Go.RowKit

/-- 'out = append(out, m)'. -/
theorem wpList_app_msg {ops : Array Oper} {rest : List Oper} {o : Oper} {a : Act} {W : World} {Q : Exit → Act → World → Prop} (hgd : o.guard = none) (sl x : Operand)
    (ho : o.op = .call { callee := .builtin .append, args := #[sl, x], argTypes := #[30, 30] }) (base g n cap : Nat) (A : Option Addr) (l : List Value) (y : Mx)
    (hs : a.eval sl = .slice A n cap) (hown : W.ownsRow base 34 9 (.slice A n cap) n l) (hx : a.eval x = .slice (some ⟨g, 0, none⟩) 1 1)
    (hg : W.heap[g]? = some (.cells (xcell y).toArray 34 (0, 0))) (hm : n ≤ 100000) (hb : base ≤ W.heap.size)
    (h : ∀ A' c' W', W'.ownsRow base 34 9 (.slice A' (n + 1) c') (n + 1) (l ++ xcell y) → W.grownBy W' (Value.slice A n cap).ownBlock → wpList Try.prog ops Q rest (a.put o.dst (.slice A' (n + 1) c')) W') :
    wpList Try.prog ops Q (o :: rest) a W := by
  obtain ⟨i0, hi0, hz0, hz1, hz2⟩ := info_parts Try.info34
  refine wpList_append_own _ hgd sl x 30 ho base 34 i0 (.agg #[.int .u8 0, .int .i64 0, .int .i64 0, .int .i64 0, .int .i64 0, .int .i64 0, .slice none 0 0, .int .i64 0, .bool false]) 9 88 Try.underlying30 hi0 hz0 hz1 hz2 rfl (by decide) (.slice A n cap) n l hs hown ⟨g, 0, none⟩ 1 1 (xcell y) hx rfl (fun j u hu => ?_) (xcell_one y) (by unfold maxLen; omega) (by omega) hb ?_
  · rw [addr_add, Nat.zero_add]
    exact (cell_of_row W g j _ 34 (0, 0) hg).trans (by simpa using hu)
  · intro v3 w3 ho3 hg3 _
    obtain ⟨A3, c3, rfl, _⟩ := own_form ho3
    exact h A3 c3 w3 ho3 hg3
theorem MsR.snoc {w w1 w2 w3 : World} {B n c c' : Nat} {D D' E : Option Addr} {ec : Nat} {ms : List Mg} {m : Mg} {X : List Mx} (h1 : X.map (·.1) = ms) (h2 : n = X.length) (h3 : w.ownsRow B 34 9 (.slice D n c) n (rowOf xcell X)) (h4 : ∀ x ∈ X, w.ownsRow B 39 2 (.slice x.2.1 x.1.ents.length x.2.2) x.1.ents.length (rowOf ecell x.1.ents)) (hb : Below w.heap.size w w1) (he : w1.ownsRow B 39 2 (.slice E m.ents.length ec) m.ents.length (rowOf ecell m.ents))
    (hb2 : Below w1.heap.size w1 w2) (hg : w2.grownBy w3 (Value.slice D n c).ownBlock) (ho : w3.ownsRow B 34 9 (.slice D' (n + 1) c') (n + 1) (rowOf xcell X ++ xcell (m, E, ec))) : MsR w3 B D' (n + 1) c' (ms ++ [m]) := by
  have hch : Chg (fun b => (Value.slice D n c).ownBlock = some b) w1 w3 := (Chg.of_below hb2).trans (.of_grown hg (fun r hr => hr))
  have hne : ∀ g, (Value.slice D n c).ownBlock = some g → ∃ cur, Blk w1 g 34 cur := fun g hg2 => by
    obtain ⟨cur, hbk⟩ : ∃ cur, Blk w g 34 cur := by
      rcases h3.2 with ⟨e1, _⟩ | ⟨g', cap, cur, e1, _, hh, _⟩
      · rw [e1] at hg2; simp [Value.ownBlock] at hg2
      · rw [e1] at hg2
        have : g' = g := by simpa [Value.ownBlock] using hg2
        subst this
        exact ⟨cur, hh⟩
    exact ⟨cur, hbk.below hb hbk.lt⟩
  refine ⟨X ++ [(m, E, ec)], by rw [List.map_append, h1]; rfl, by rw [List.length_append, h2]; rfl, ?_, fun x hx => ?_⟩
  · rw [rowOf_append]
    simpa [rowOf] using ho
  · rcases List.mem_append.1 hx with hx | hx
    · refine own_chg (own_below (h4 x hx) hb) hch (fun g hg2 hd => ?_)
      obtain ⟨cur, hbk⟩ := hne g hd
      exact own_blk_ne (own_below (h4 x hx) hb) hbk (by decide) hg2
    · rw [List.mem_singleton] at hx
      subst hx
      refine own_chg he hch (fun g hg2 hd => ?_)
      obtain ⟨cur, hbk⟩ := hne g hd
      exact own_blk_ne he hbk (by decide) hg2
/-- What a list of messages leaves. -/
def OutPost (w : World) (ms : List Mg) (e : Ending) (w' : World) : Prop :=
  ∃ D d, e = .returned (.slice D ms.length d) ∧ MsR w' w.heap.size D ms.length d ms ∧ Below w.heap.size w w'
theorem ks_succ (id n : Nat) : ((List.range (n + 1)).filter fun k => !decide (k = id)) = ((List.range n).filter fun k => !decide (k = id)) ++ (if n = id then [] else [n]) := by
  rw [List.range_succ, List.filter_append]
  by_cases h : n = id <;> simp [h]
set_option maxRecDepth 100000 in
set_option maxHeartbeats 4000000 in
theorem others_any (S : Sv) (g : Nat) (A : Option Addr) (c : Nat) (w : World) (fid : FuncId) (first cap : Array Value) (f : Nat → Mg) (hS : SvM w g S A c) (hn : S.n ≤ 7)
    (hcf : ∀ (args : Array Value) (W : World), (callFunc fid args).run Try.prog W = .ok (.enter fid args) W)
    (hdo : ∀ k, k < S.n → k ≠ S.id → ∀ W, Below w.heap.size w W → Calls Try.prog fid (first.push (.int .i64 (k : Nat)) ++ cap) W (SendPost W (f k))) :
    Calls Try.prog 36 #[.pointer (some ⟨g, 0, none⟩), .func (.func fid) first cap] w (OutPost w (S.ks.map f)) := by
  have HDO := Lib.hid hdo
  have HC : Hid (∀ W, Below w.heap.size w W → W.cell? ⟨g, 0, none⟩ = some (.int .i64 (S.id : Nat)) ∧ W.cell? ⟨g, 1, none⟩ = some (.int .i64 (S.n : Nat))) := fun W hW => ⟨(hS.below hW).c0, (hS.below hW).c1⟩
  obtain ⟨id, hid_⟩ : ∃ z, z = S.id := ⟨_, rfl⟩
  obtain ⟨n, hnn⟩ : ∃ z, z = S.n := ⟨_, rfl⟩
  unfold Sv.ks
  rw [← hid_, ← hnn] at HC HDO ⊢
  rw [← hnn] at hn
  clear hdo hS hid_ hnn
  have k1 := (HC.out w (Below.refl _ w)).2
  go_enter Try.func36, Try.ntmps36
  go_wp2_with fail
  go_loopw [5, 11] (fun s5 s11 wr => ∃ (k m d : Nat) (D : Option Addr), s5 = .slice D m d ∧ s11 = .int .i64 (k : Nat) ∧ k ≤ n ∧ MsR wr w.heap.size D m d ((((List.range k).filter fun k => !decide (k = id))).map f) ∧ Below w.heap.size w wr) (fun _ s11 _ => n - (intOf s11).toNat)
  case atStart => exact ⟨0, 0, 0, none, rfl, rfl, by omega, MsR.nil _ _, Below.refl _ _⟩
  case round =>
    obtain ⟨k, m, d, D, rfl, rfl, hk, hms, hb⟩ := hrel
    have HM := Lib.hid (And.intro hms hb)
    have k0 := (HC.out wr hb).1
    clear hms hb
    by_cases hlt : k < n
    · have hd1 : decide ((k : Int) < (n : Int)) = true := decide_eq_true (by omega)
      by_cases hid : k = id
      · have hi : ((k : Int) != (id : Int)) = false := by simp [hid]
        have HE := Lib.hid hid
        clear hid
        go_wp2_with fail
        go_roundw
        case rel =>
          refine ⟨k + 1, m, d, D, rfl, by go_num, by omega, ?_, HM.out.2⟩
          rw [ks_succ, if_pos HE.out, List.append_nil]
          exact HM.out.1
        case measure => simp [intOf]; omega
      · have hi : ((k : Int) != (id : Int)) = true := by simp; omega
        have HD := Lib.hid (HDO.out k hlt hid wr HM.out.2)
        have HE := Lib.hid hid
        clear hid
        obtain ⟨mg, hmg⟩ : ∃ mg, mg = f k := ⟨_, rfl⟩
        rw [← hmg] at HD
        have HMG := Lib.hid hmg
        clear hmg
        obtain ⟨mk, frm, to, term, index, logTerm, ents, commit, ok⟩ := mg
        unfold SendPost at HD
        dsimp only [mcell] at HD
        have HLE : Hid (∃ z, z = ents.length) := ⟨_, rfl⟩
        obtain ⟨el, hel⟩ := HLE.out
        rw [← hel] at HD
        have HEL := Lib.hid hel
        have hm9 : m ≤ 100000 := by
          have h1 := HM.out.1.len
          rw [List.length_map] at h1
          have h2 := List.length_filter_le (fun k => !decide (k = id)) (List.range k)
          rw [List.length_range] at h2
          omega
        clear hel HLE
        go_wp2_with fail
        refine HD.out.mono ?_
        rintro e w2 ⟨E, ec, rfl, ho2, hb2⟩
        have H2 := Lib.hid (And.intro ho2 (And.intro hb2 (hb2.size)))
        have HBB := Lib.hid HM.out.2.size
        obtain ⟨X, hX1, hX2, hX3, hX4⟩ := HM.out.1
        have HX := Lib.hid (And.intro hX1 (And.intro hX2 (And.intro hX3 hX4)))
        clear ho2 hb2 hX1 hX2 hX3 hX4
        go_wp2_with (at_builtin; refine wpList_app_msg rfl (.tmp 20) (.tmp 24) rfl w.heap.size w2.heap.size m d D (rowOf xcell X) (⟨mk, frm, to, term, index, logTerm, ents, commit, ok⟩, E, ec) rfl ((own_below HX.out.2.2.1 H2.out.2.1).alloc _) rfl (by rw [HEL.out]; exact heap_alloc_new w2 _) hm9 (by have := HBB.out; have := H2.out.2.2; simp; omega) ?_; intro A4 c4 w4 ho4 hg4; have H4 := Lib.hid (And.intro ho4 hg4); clear ho4 hg4)
        go_roundw
        case rel =>
          refine ⟨k + 1, m + 1, c4, A4, rfl, by go_num, by omega, ?_, ?_⟩
          · rw [ks_succ, if_neg HE.out, List.map_append, List.map_singleton, ← HMG.out]
            refine MsR.snoc HX.out.1 HX.out.2.1 HX.out.2.2.1 HX.out.2.2.2 H2.out.2.1 (E := E) (ec := ec) ?_ ((Below.refl w2.heap.size w2).alloc (Nat.le_refl _) _) H4.out.2 H4.out.1
            have h := H2.out.1
            rw [HEL.out] at h
            exact own_at h (fun g hg => Nat.le_trans HBB.out (World.ownsRow.lt h g hg).1)
          · exact ((HM.out.2.trans (H2.out.2.1.mono HBB.out)).alloc (Nat.le_trans HBB.out H2.out.2.2) _).grown H4.out.2 (by have := HBB.out; have := H2.out.2.2; simp; omega) (fun r hr => (World.ownsRow.lt HX.out.2.2.1 r hr).1)
        case measure => simp [intOf]; omega
    · have hd1 : decide ((k : Int) < (n : Int)) = false := decide_eq_false (by omega)
      have hkn : k = n := by omega
      subst hkn
      go_wp2_with fail
      go_ret
      have hl := HM.out.1.len
      refine ⟨D, d, ?_, by rw [← hl]; exact HM.out.1, HM.out.2⟩
      rw [← hl]
      rfl
end Go.Proofs.Ytjodglepaeomiaa
