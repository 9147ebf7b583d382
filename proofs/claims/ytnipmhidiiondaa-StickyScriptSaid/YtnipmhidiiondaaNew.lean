/- Contracts of New and Names. -/
import Derived.Test.YtnipmhidiiondaaPtt
namespace Go.Proofs.Ytnipmhidiiondaa
open Go.RowKit Go.Maps

theorem new_bad (r : Int) (w : World) (h : mayB r = false) : Calls Try.prog 8 #[.int .i64 r] w fun e w' => e = .returned (.tuple #[.pointer none, .int .i64 1]) ∧ w' = w := by
  have HM := Lib.hid (may_any r w)
  rw [h] at HM
  clear h
  go_enter Try.func8, Try.ntmps8
  go_wp2_with fail
  refine HM.out.mono ?_
  rintro e w1 ⟨rfl, hw1⟩
  rw [hw1]
  clear hw1 w1
  go_wp2_with fail
  go_ret2
  exact ⟨rfl, rfl⟩
def NewPost (w : World) (r : Nat) (e : Ending) (w' : World) : Prop := ∃ g p, e = .returned (.tuple #[.pointer (some ⟨g, 0, none⟩), .int .i64 0]) ∧ CRep w' g ⟨r, [], 0, 0⟩ p ∧ Below w.heap.size w w' ∧ ∀ b, Own g p b → w.heap.size ≤ b
theorem new_inv (r : Nat) (h1 : 1 ≤ r) (h2 : r ≤ 4096) : InvP ⟨r, [Cel.zero], [], fun _ => none, 0, 0, 0⟩ [] [] := by
  refine ⟨⟨rfl, rfl, trivial⟩, by simp, ?_, rfl, rfl, ?_, by simp, by simp, rfl, by simp, h1, h2, by simp⟩
  · intro i hi
    have : i = 0 := by simpa using hi
    subst this; simp
  · intro s i
    simp
theorem new_rep (r : Nat) (w : World) : Rep (((w.alloc (.map #[] 0)).alloc (.cells #[.string ⟨#[]⟩, .int .i64 0, .int .i64 0, .int .i64 0] 66)).alloc (.cells #[.int .i64 (r : Nat), .map (some w.heap.size), .slice (some ⟨w.heap.size + 1, 0, none⟩) 1 1, .slice none 0 0, .int .i64 0, .int .i64 0] 64)) (w.heap.size + 1 + 1) ⟨r, [Cel.zero], [], fun _ => none, 0, 0, 0⟩ ⟨w.heap.size, w.heap.size + 1, 1, .slice none 0 0⟩ := by
  have s1 : (w.alloc (.map #[] 0)).heap.size = w.heap.size + 1 := by simp
  have s2 : ((w.alloc (.map #[] 0)).alloc (.cells #[.string ⟨#[]⟩, .int .i64 0, .int .i64 0, .int .i64 0] 66)).heap.size = w.heap.size + 1 + 1 := by simp
  refine ⟨?_, ?_, ?_, ?_⟩
  · have := Blk.new ((w.alloc (.map #[] 0)).alloc (.cells #[.string ⟨#[]⟩, .int .i64 0, .int .i64 0, .int .i64 0] 66)) 64 #[.int .i64 (r : Nat), .map (some w.heap.size), .slice (some ⟨w.heap.size + 1, 0, none⟩) 1 1, .slice none 0 0, .int .i64 0, .int .i64 0]
    rw [s2] at this
    exact this
  · have h := Blk.new (w.alloc (.map #[] 0)) 66 #[.string ⟨#[]⟩, .int .i64 0, .int .i64 0, .int .i64 0]
    rw [s1] at h
    exact ⟨rfl, .inr ⟨w.heap.size + 1, 1, _, rfl, Nat.zero_le _, h.alloc _, Nat.le_refl _, by decide, rfl, rfl⟩⟩
  · exact World.ownsRow_nil _ _ _ _
  · have h := ((World.ownsMap_made w Try.prog 9 (plainElem (H := Unit) Try.prog 3)).alloc (.cells #[.string ⟨#[]⟩, .int .i64 0, .int .i64 0, .int .i64 0] 66)).alloc (.cells #[.int .i64 (r : Nat), .map (some w.heap.size), .slice (some ⟨w.heap.size + 1, 0, none⟩) 1 1, .slice none 0 0, .int .i64 0, .int .i64 0] 64)
    exact ⟨_, h, rfl, fun s => ⟨rfl, rfl⟩⟩
set_option maxHeartbeats 2000000 in
theorem new_any (r : Nat) (w : World) (h1 : 1 ≤ r) (h2 : r ≤ 4096) : Calls Try.prog 8 #[.int .i64 (r : Nat)] w (NewPost w r) := by
  have HM := Lib.hid (may_any r w)
  rw [show mayB r = true from by unfold mayB; rw [decide_eq_true (by omega), decide_eq_true (by omega)]; rfl] at HM
  have HI := Lib.hid (new_inv r h1 h2)
  have hmm := @run_makeMap Try.prog
  have hmk : ∀ w, (Instr.makeSlice 62 (.int .i64 1) (.int .i64 1)).run Try.prog w = .ok (.slice (some ⟨w.heap.size, 0, none⟩) 1 1) (w.alloc (.cells #[.string ⟨#[]⟩, .int .i64 0, .int .i64 0, .int .i64 0] 66)) := fun _ => by kernel_rfl
  clear h1 h2
  go_enter Try.func8, Try.ntmps8
  go_wp2_with fail
  refine HM.out.mono ?_
  rintro e w1 ⟨rfl, hw1⟩
  rw [hw1]
  clear hw1 w1
  go_wp2_with fail
  go_ret2
  refine ⟨w.heap.size + 1 + 1, ⟨w.heap.size, w.heap.size + 1, 1, .slice none 0 0⟩, rfl, ⟨_, [], new_rep r w, HI.out, rfl, rfl, rfl⟩, (((Below.refl _ _).alloc (Nat.le_refl _) _).alloc (by simp) _).alloc (by simp; omega) _, fun b hb => ?_⟩
  rcases hb with hb | hb | hb | hb
  · omega
  · exact Nat.le_of_eq hb.symm
  · have : b = w.heap.size + 1 := hb; omega
  · simp [Value.ownBlock] at hb

theorem Try.info9 : (Try.prog.info? 9).map (fun i => (i.zero, i.size, i.bytes)) = some (some (.string ⟨#[]⟩), 1, 16) := by kernel_rfl
def scells (l : List ByteArray) : List Value := l.map Value.string
theorem scells_append (l m : List ByteArray) : scells (l ++ m) = scells l ++ scells m := by simp [scells]
/-- 'l = append(l, s)' for a list of names of the call's own. -/
theorem wpList_app_str {ops : Array Oper} {rest : List Oper} {o : Oper} {a : Act} {W : World} {Q : Exit → Act → World → Prop} (hgd : o.guard = none) (sl x : Operand)
    (ho : o.op = .call { callee := .builtin .append, args := #[sl, x], argTypes := #[35, 35] }) (base g n cap : Nat) (A : Option Addr) (l : List ByteArray) (s : ByteArray) (hn : n = l.length)
    (hs : a.eval sl = .slice A n cap) (hown : W.ownsRow base 9 1 (.slice A n cap) n (scells l)) (hx : a.eval x = .slice (some ⟨g, 0, none⟩) 1 1)
    (hg : W.heap[g]? = some (.cells #[.string s] 9 (0, 0))) (hm : n ≤ 100000) (hb : base ≤ W.heap.size)
    (h : ∀ A' c' W', W'.ownsRow base 9 1 (.slice A' (n + 1) c') (n + 1) (scells (l ++ [s])) → W.grownBy W' (Value.slice A n cap).ownBlock → wpList Try.prog ops Q rest (a.put o.dst (.slice A' (n + 1) c')) W') :
    wpList Try.prog ops Q (o :: rest) a W := by
  obtain ⟨i0, hi0, hz0, hz1, hz2⟩ := info_parts Try.info9
  refine wpList_append_own _ hgd sl x 35 ho base 9 i0 (.string ⟨#[]⟩) 1 16 Try.underlying35 hi0 hz0 hz1 hz2 rfl (by decide) (.slice A n cap) n (scells l) hs hown ⟨g, 0, none⟩ 1 1 [.string s] hx rfl (news_of_blk hg) (by intro u hu; rw [List.mem_singleton] at hu; subst hu; rfl) (by unfold maxLen; omega) (by omega) hb ?_
  intro v3 w3 ho3 hg3 _
  obtain ⟨A3, c3, rfl, _⟩ := own_form ho3
  refine h A3 c3 w3 ?_ hg3
  rw [scells_append]
  exact ho3
def hdk (q : List Nat) (k : Nat) : Nat := (q.drop k).headD 0
def sliceLen : Value → Nat
  | .slice _ n _ => n
  | _ => 0
def NamesPost (w : World) (l : List ByteArray) (e : Ending) (w' : World) : Prop := ∃ A c, e = .returned (.slice A l.length c) ∧ w'.ownsRow w.heap.size 9 1 (.slice A l.length c) l.length (scells l) ∧ Below w.heap.size w w'
set_option maxHeartbeats 4000000 in
theorem names_any (g : Nat) (A : Abs) (p : Pls) (w : World) (h : CRep w g A p) : Calls Try.prog 12 #[.pointer (some ⟨g, 0, none⟩)] w (NamesPost w (A.L.map (·.1))) := by
  obtain ⟨gm, gc, cap, fv⟩ := p
  obtain ⟨S, q, hh⟩ := h
  have HRM := Lib.hid (room_any g S ⟨gm, gc, cap, fv⟩ w hh.rep)
  have hr0 : ((S.room : Int) == 0) = false := by rw [beq_eq_false_iff_ne]; have := hh.inv.room1; omega
  obtain ⟨N, hN⟩ : ∃ N, N = A.L.map (·.1) := ⟨_, rfl⟩
  have hNq : N = q.map (nm S.cs) := by rw [hN, hh.inv.lst, List.map_map]; rfl
  have hlen : q.length ≤ 4097 := by have := hh.inv.all; have := hh.inv.few; omega
  obtain ⟨m, hm⟩ : ∃ m, m = q.length := ⟨_, rfl⟩
  obtain ⟨n, hnn⟩ : ∃ n, n = S.cs.length := ⟨_, rfl⟩
  have hn1 : n ≤ 4097 := by rw [hnn]; exact hh.inv.few
  have h0n : 0 < S.cs.length := hh.inv.lt 0 (by simp)
  have k2 : w.cell? ⟨g, 2, none⟩ = some (.slice (some ⟨gc, 0, none⟩) n cap) := by rw [hnn]; exact hh.rep.top.cell 2
  have d3 : w.cell? ⟨gc, 3, none⟩ = some (.int .i64 (nx S.cs 0 : Nat)) := hh.rep.cell (i := 0) (j := 3) h0n rfl
  have hnx0 : nx S.cs 0 = hdk q 0 := by
    unfold hdk
    have hr := hh.inv.ring
    cases q with
    | nil => exact (ring_nil hr).1
    | cons b r => exact ring_head hr
  rw [hnx0] at d3
  have h0n' : (0 : Int) < (n : Int) := by omega
  have h0n2 : 0 < n := by omega
  rw [← hN]
  rw [← hm] at hlen
  have HN := Lib.hid hNq
  have HM := Lib.hid hm
  have HNN := Lib.hid hnn
  have HH := Lib.hid hh
  have HNX := Lib.hid (fun (l r : List Nat) (i : Nat) (e : q = l ++ i :: r) => ring_next (cs := S.cs) (l := l) (r := r) (i := i) (e ▸ hh.inv.ring))
  have H0 := Lib.hid (fun (i : Nat) (hi : i ∈ q) => (hh.inv.places hi).2.2.2.2.2)
  have HLT := Lib.hid (fun (i : Nat) (hi : i ∈ q) => (hh.inv.places hi).1)
  clear hh hN hNq hm hnn hnx0 h0n
  go_enter Try.func12, Try.ntmps12
  go_wp2_with fail
  refine HRM.out.mono ?_
  rintro e w1 ⟨rfl, hw1⟩
  rw [hw1]
  clear hw1 w1
  go_wp2_with fail
  go_loopw [3, 4] (fun s3 s4 wr => ∃ k A1 c1, s3 = .slice A1 k c1 ∧ s4 = .int .i64 (hdk q k : Nat) ∧ k ≤ m ∧ wr.ownsRow w.heap.size 9 1 (.slice A1 k c1) k (scells (N.take k)) ∧ Below w.heap.size w wr) (fun s3 _ _ => m - sliceLen s3)
  case atStart => exact ⟨0, none, 0, rfl, rfl, by omega, World.ownsRow_nil _ _ _ _, Below.refl _ _⟩
  case round =>
    obtain ⟨k, A1, c1, rfl, rfl, hk, ho, hb⟩ := hrel
    have HO := Lib.hid ho
    have HB := Lib.hid hb
    clear ho hb
    by_cases hlt : k < m
    · have hkq : k < q.length := by rw [← HM.out]; exact hlt
      obtain ⟨i, hi⟩ : ∃ i, i = q[k] := ⟨_, rfl⟩
      have hsp : q = q.take k ++ i :: q.drop (k + 1) := by rw [hi]; simp
      have hiq : i ∈ q := by rw [hi]; exact List.getElem_mem _
      have hh1 : hdk q k = i := by unfold hdk; rw [List.drop_eq_getElem_cons hkq, hi]; rfl
      have hi0 := H0.out i hiq
      have hil := HLT.out i hiq
      have hnxi : nx S.cs i = hdk q (k + 1) := HNX.out _ _ _ hsp
      have hNk : N.take (k + 1) = N.take k ++ [nm S.cs i] := by
        rw [HN.out, List.take_succ_eq_append_getElem (by simpa using hkq), List.getElem_map, hi]
      have hNl : (N.take k).length = k := by rw [List.length_take, HN.out, List.length_map]; omega
      rw [hh1]
      have hrep := HH.out.rep.below HB.out
      have k2 : wr.cell? ⟨g, 2, none⟩ = some (.slice (some ⟨gc, 0, none⟩) n cap) := by rw [HNN.out]; exact hrep.top.cell 2
      have d0 : wr.cell? ⟨gc, i * 4, none⟩ = some (.string (nm S.cs i)) := hrep.cell (i := i) (j := 0) hil rfl
      have HREP := Lib.hid hrep
      have HNI := Lib.hid hnxi
      have HNK := Lib.hid hNk
      have HNL := Lib.hid hNl
      have hb0 : ((i : Int) != 0) = true := by rw [bne_iff_ne]; omega
      have hin : (i : Int) < (n : Int) := by have := HNN.out; omega
      have hi0' : (0 : Int) ≤ (i : Int) := by omega
      have HIL := Lib.hid hil
      clear hkq hi hsp hiq hh1 hi0 hil hnxi hNk hNl hrep
      go_wp2_with (at_builtin; refine wpList_app_str rfl (.tmp 26) (.tmp 35) rfl w.heap.size wr.heap.size k c1 A1 (N.take k) (nm S.cs i) HNL.out.symm rfl (HO.out.alloc _) rfl (heap_alloc_new wr _) (by omega) (by have := HB.out.size; simp; omega) ?_; intro A2 c2 w3 ho3 hg3; have hbb := (HB.out.alloc HB.out.size (.cells #[.string (nm S.cs i)] 9)).grown hg3 (by have := HB.out.size; simp; omega) (fun r hr => (World.ownsRow.lt HO.out r hr).1); have hr3 := HH.out.rep.below hbb; have k23 : w3.cell? ⟨g, 2, none⟩ = some (.slice (some ⟨gc, 0, none⟩) n cap) := by { rw [HNN.out]; exact hr3.top.cell 2 }; have d33 : w3.cell? ⟨gc, i * 4 + 3, none⟩ = some (.int .i64 (hdk q (k + 1) : Nat)) := by { rw [← HNI.out]; exact hr3.cell (i := i) (j := 3) HIL.out rfl }; have HO3 := Lib.hid ho3; have HB3 := Lib.hid hbb; clear ho3 hg3 hbb hr3)
      go_roundw
      case rel => exact ⟨k + 1, A2, c2, rfl, rfl, by omega, by rw [HNK.out]; exact HO3.out, HB3.out⟩
      case measure => simp [sliceLen]; omega
    · obtain rfl : k = m := by omega
      have hq0 : hdk q k = 0 := by unfold hdk; rw [List.drop_of_length_le (by rw [HM.out]; exact Nat.le_refl _)]; rfl
      rw [hq0]
      clear hq0
      go_wp2_with fail
      go_ret
      have hNl : N.length = k := by rw [HN.out, List.length_map, HM.out]
      have hNt : N.take k = N := List.take_of_length_le (by omega)
      exact ⟨A1, c1, by rw [hNl]; rfl, by rw [hNl]; have := HO.out; rwa [hNt] at this, HB.out⟩
end Go.Proofs.Ytnipmhidiiondaa
