/- What a bound on the bulk of a list of trees says of the trees. -/
import Derived.Test.YtpdofcjgpomehaaOp2
import Derived.Test.YtpdofcjgpomehaaRows
namespace Go.Proofs.Ytpdofcjgpomehaa
open Go.ChangeShapes Go.WideShapes Go.ChangeAt Go.RowKit Go.Deep Go.Joins

theorem bulk_pos {H : Type} (d : DataW H) : 0 < Rows.uptoBulk d := by
  cases d with
  | lit l => cases l <;> simp [Rows.uptoBulk]
  | _ => simp [Rows.uptoBulk]
theorem bulk_len {H : Type} : ∀ ds : List (DataW H), ds.length ≤ Rows.uptoBulkAll ds
  | [] => Nat.zero_le _
  | d :: r => by
    have h1 := bulk_pos d
    have h2 := bulk_len r
    rw [Rows.uptoBulkAll, List.length_cons]
    omega
theorem bulk_mem {H : Type} {d : DataW H} : ∀ {ds : List (DataW H)}, d ∈ ds → Rows.uptoBulk d ≤ Rows.uptoBulkAll ds
  | [], h => by cases h
  | e :: r, h => by
    rw [Rows.uptoBulkAll]
    rcases List.mem_cons.1 h with rfl | h
    · omega
    · have := bulk_mem h
      omega
theorem trees_small {H : Type} {enc : TypeId × Value → H} {W : World} {base2 : Nat} {sp : Nat → Bool} {held : Bool} {d0 : DataW H} {p0 : List MemPlace} {A : Option Addr} {vs : List Value} {ls : List (List Tw)} {c B : Nat}
    (h0 : DataW.Trod enc Try.prog W base2 sp held 27 (.slice A vs.length c) d0 p0) (hP : RdP W A vs) (hF : RdF W vs ls) (hb : Rows.uptoBulk d0 ≤ B) : ∀ l ∈ ls, l.length ≤ B := by
  intro l hl
  obtain ⟨i, hi⟩ := List.mem_iff_getElem?.1 hl
  have hil := (List.getElem?_eq_some_iff.1 hi).1
  have hiv : i < vs.length := by rw [hF.len]; exact hil
  obtain ⟨v, hv⟩ : ∃ v, vs[i]? = some v := ⟨_, List.getElem?_eq_getElem hiv⟩
  obtain ⟨A2, c2, rfl, _⟩ := hF.at_ i v l hv hi
  obtain ⟨b, off, rfl, _, hat⟩ := hP.resolve_left (fun h => by rw [h] at hv; cases hv)
  have hc := hat i _ hv
  obtain ⟨fuel, hf⟩ := h0
  rcases open_slice Try.underlying27 hf with ⟨hcs, _⟩ | ⟨a, len, cap, m, n, D, Pl, hcs, _, hl2, hm, hmm, hx, hrow⟩
  · simp [Value.cells] at hcs
  · simp [Value.cells] at hcs
    obtain ⟨rfl, rfl, rfl⟩ := hcs
    have hlm : vs.length ≤ m := by rw [hmm]; split <;> omega
    obtain ⟨cs', hc', ht⟩ := hrow i (by omega)
    rw [cells25, Nat.mul_one] at hc'
    obtain ⟨_, hlen', hat'⟩ := World.cells?_some hc'
    have hxd := congrArg Prod.fst hx
    dsimp only at hxd
    rw [hxd, Rows.uptoBulk] at hb
    have hbi : Rows.uptoBulk (D i) ≤ Rows.uptoBulkAll ((List.range vs.length).map D) := bulk_mem (List.mem_map.2 ⟨i, List.mem_range.2 hiv, rfl⟩)
    rcases open_slice Try.underlying25 ht with ⟨hcs2, hd2⟩ | ⟨a2, len2, cap2, m2, n2, D2, Pl2, hcs2, _, _, _, _, hx2, _⟩
    · subst hcs2
      have h1 := hat' 0 (by decide)
      rw [addr_add, addr_add, Nat.add_zero] at h1
      rw [hc] at h1
      simp at h1
      omega
    · subst hcs2
      have h1 := hat' 0 (by decide)
      rw [addr_add, addr_add, Nat.add_zero] at h1
      rw [hc] at h1
      simp at h1
      have hxd2 := congrArg Prod.fst hx2
      dsimp only at hxd2
      rw [hxd2, Rows.uptoBulk] at hbi
      have h3 := bulk_len ((List.range len2).map D2)
      rw [List.length_map, List.length_range] at h3
      have h4 : l.length = len2 := h1.2.1
      omega
end Go.Proofs.Ytpdofcjgpomehaa
