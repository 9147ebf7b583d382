/- Contracts of value.Name and of tree.own. -/
import Derived.Test.YtpdofcjgpomehaaSml
namespace Go.Proofs.Ytpdofcjgpomehaa
open Go.RowKit

def inC (c : UInt8) : Bool := decide ((97 ≤ c.toNat ∧ c.toNat ≤ 122) ∨ (48 ≤ c.toNat ∧ c.toNat ≤ 57) ∨ c.toNat = 95)
def fstC : List UInt8 → Bool
  | [] => false
  | c :: _ => decide (97 ≤ c.toNat ∧ c.toNat ≤ 122)
def nameB (s : List UInt8) : Bool := decide (s.length ≤ 24) && fstC s && s.all inC
theorem st_get {st : ByteArray} {s : List UInt8} (hst : st = ⟨s.toArray⟩) {k : Nat} (h : k < st.size) (h2 : k < s.length) : st[k] = s[k] := by
  subst hst; rfl
theorem st_empty {st : ByteArray} {s : List UInt8} (hst : st = ⟨s.toArray⟩) : st.toList.isEmpty = s.isEmpty := by
  subst hst; rw [ByteArray.toList_eq]
set_option maxHeartbeats 4000000 in
theorem name_list (s : List UInt8) (w : World) (hs : s.length ≤ 9223372036854775807) : Calls Try.prog 46 #[.string ⟨s.toArray⟩] w fun e w' => e = .returned (.bool (nameB s)) ∧ w' = w := by
  obtain ⟨st, hst⟩ : ∃ st : ByteArray, st = ⟨s.toArray⟩ := ⟨_, rfl⟩
  have hsz : st.size = s.length := by rw [hst]; rfl
  obtain ⟨n, hn⟩ : ∃ n, n = s.length := ⟨_, rfl⟩
  rw [← hst]
  rw [← hn] at hsz hs
  have he := st_empty hst
  have HST := Lib.hid hst
  have HN := Lib.hid hn
  have HB : Hid (nameB s = (decide (s.length ≤ 24) && fstC s && s.all inC)) := rfl
  cases hl : s with
  | nil =>
    have he2 : st.toList.isEmpty = true := by rw [he, hl]; rfl
    have HR := Lib.hid (show nameB [] = false from rfl)
    clear hn hst he
    go_enter Try.func46, Try.ntmps46
    go_wp2_with fail
    go_ret
    exact ⟨ret_bool HR.out.symm, rfl⟩
  | cons c0 tl =>
    have he2 : st.toList.isEmpty = false := by rw [he, hl]; rfl
    have h0n : 0 < n := by rw [hn, hl]; simp
    have h0 : 0 < st.size := by omega
    have hg0 : st[0] = c0 := by
      have h0s : 0 < s.length := by rw [← hn]; exact h0n
      have h1 : s[0]'h0s = c0 := by
        have h2 : s[0]? = some c0 := by rw [hl]; rfl
        exact (List.getElem?_eq_some_iff.1 h2).2
      rw [st_get hst h0 h0s, h1]
    have HF := Lib.hid (show fstC s = decide (97 ≤ c0.toNat ∧ c0.toNat ≤ 122) from by rw [hl]; rfl)
    rw [← hl]
    clear he hl
    obtain ⟨cv, hcv⟩ : ∃ v, v = c0.toNat := ⟨_, rfl⟩
    rw [← hcv] at HF
    have hc2 : st[0].toNat = cv := by rw [hg0, hcv]
    clear hst hn hcv hg0
    by_cases h24 : 24 < n
    · have HR := Lib.hid (show nameB s = false from by rw [HB.out, decide_eq_false (by rw [← HN.out]; omega)]; rfl)
      go_enter Try.func46, Try.ntmps46
      go_wp2_with fail
      go_ret
      exact ⟨ret_bool HR.out.symm, rfl⟩
    · by_cases ha : 97 ≤ cv ∧ cv ≤ 122
      · have HR := Lib.hid (show nameB s = s.all inC from by rw [HB.out, HF.out, decide_eq_true ha, decide_eq_true (by rw [← HN.out]; omega)]; rfl)
        obtain ⟨ha1, ha2⟩ := ha
        go_enter Try.func46, Try.ntmps46
        go_wp2_with fail
        go_loopw [3, 4, 24] (fun s3 s4 s24 wr => wr = w ∧ ∃ k : Nat, s24 = .int .i64 k ∧ k ≤ n ∧ (s.take k).all inC = true) (fun _ _ s24 _ => n - (intOf s24).toNat)
        case atStart => exact ⟨rfl, 0, rfl, by omega, rfl⟩
        case round =>
          obtain ⟨rfl, k, rfl, hkn, hall⟩ := hrel
          have HA := Lib.hid hall
          clear hall
          by_cases hlt : k < n
          · have hks : k < s.length := by rw [← HN.out]; exact hlt
            obtain ⟨ch, hch⟩ : ∃ c, c = s[k] := ⟨_, rfl⟩
            have hkst : k < st.size := by omega
            have hg : st[k] = ch := by rw [hch]; exact st_get HST.out hkst hks
            have HCH := Lib.hid (show s.take (k + 1) = s.take k ++ [ch] from by rw [List.take_succ_eq_append_getElem hks, hch])
            have HBAD := Lib.hid (show inC ch = false → s.all inC = false from fun h => by
              rw [List.all_eq_false]
              exact ⟨ch, by rw [hch]; exact List.getElem_mem hks, by rw [h]; simp⟩)
            clear hch hks hc2
            obtain ⟨x, hx⟩ : ∃ v, v = ch.toNat := ⟨_, rfl⟩
            have HI := Lib.hid (show inC ch = decide ((97 ≤ x ∧ x ≤ 122) ∨ (48 ≤ x ∧ x ≤ 57) ∨ x = 95) from by rw [hx]; rfl)
            have hx2 : st[k].toNat = x := by rw [hg, hx]
            clear hx hg
            have hk0 : (0 : Int) ≤ (k : Int) := by omega
            have hkn2 : (k : Int) < (n : Int) := by omega
            rcases (by omega : x < 48 ∨ (48 ≤ x ∧ x ≤ 57) ∨ (58 ≤ x ∧ x ≤ 94) ∨ x = 95 ∨ x = 96 ∨ (97 ≤ x ∧ x ≤ 122) ∨ 123 ≤ x) with q | q | q | q | q | q | q
            · have hne : ((x : Int) != 95) = true := by rw [bne_iff_ne]; omega
              have HRT := Lib.hid (show nameB s = false from by rw [HR.out]; exact HBAD.out (by rw [HI.out, decide_eq_false (by omega)]))
              go_wp2_with fail
              go_ret
              exact ⟨ret_bool HRT.out.symm, rfl⟩
            · have hne : ((x : Int) != 95) = true := by rw [bne_iff_ne]; omega
              have HIN := Lib.hid (show inC ch = true from by rw [HI.out, decide_eq_true (by omega)])
              go_wp2_with fail
              go_roundw
              case rel => exact ⟨trivial, k + 1, by go_num, by omega, by rw [HCH.out, List.all_append, HA.out, List.all_cons, HIN.out]; rfl⟩
              case measure => simp [intOf]; omega
            · have hne : ((x : Int) != 95) = true := by rw [bne_iff_ne]; omega
              have HRT := Lib.hid (show nameB s = false from by rw [HR.out]; exact HBAD.out (by rw [HI.out, decide_eq_false (by omega)]))
              go_wp2_with fail
              go_ret
              exact ⟨ret_bool HRT.out.symm, rfl⟩
            · have hne : ((x : Int) != 95) = false := by rw [q]; rfl
              have HIN := Lib.hid (show inC ch = true from by rw [HI.out, decide_eq_true (by omega)])
              go_wp2_with fail
              go_roundw
              case rel => exact ⟨trivial, k + 1, by go_num, by omega, by rw [HCH.out, List.all_append, HA.out, List.all_cons, HIN.out]; rfl⟩
              case measure => simp [intOf]; omega
            · have hne : ((x : Int) != 95) = true := by rw [bne_iff_ne]; omega
              have HRT := Lib.hid (show nameB s = false from by rw [HR.out]; exact HBAD.out (by rw [HI.out, decide_eq_false (by omega)]))
              go_wp2_with fail
              go_ret
              exact ⟨ret_bool HRT.out.symm, rfl⟩
            · have hne : ((x : Int) != 95) = true := by rw [bne_iff_ne]; omega
              have HIN := Lib.hid (show inC ch = true from by rw [HI.out, decide_eq_true (by omega)])
              go_wp2_with fail
              go_roundw
              case rel => exact ⟨trivial, k + 1, by go_num, by omega, by rw [HCH.out, List.all_append, HA.out, List.all_cons, HIN.out]; rfl⟩
              case measure => simp [intOf]; omega
            · have hne : ((x : Int) != 95) = true := by rw [bne_iff_ne]; omega
              have HRT := Lib.hid (show nameB s = false from by rw [HR.out]; exact HBAD.out (by rw [HI.out, decide_eq_false (by omega)]))
              go_wp2_with fail
              go_ret
              exact ⟨ret_bool HRT.out.symm, rfl⟩
          · have hke : k = n := by omega
            subst hke
            have HRT := Lib.hid (show nameB s = true from by rw [HR.out]; have h := HA.out; rw [List.take_of_length_le (by rw [← HN.out]; omega)] at h; exact h)
            go_wp2_with fail
            go_ret
            exact ⟨ret_bool HRT.out.symm, rfl⟩
      · have HR := Lib.hid (show nameB s = false from by rw [HB.out, HF.out, decide_eq_false ha]; simp)
        by_cases hb : cv < 97
        · go_enter Try.func46, Try.ntmps46
          go_wp2_with fail
          go_ret
          exact ⟨ret_bool HR.out.symm, rfl⟩
        · have hb2 : 122 < cv := by omega
          clear ha
          go_enter Try.func46, Try.ntmps46
          go_wp2_with fail
          go_ret
          exact ⟨ret_bool HR.out.symm, rfl⟩
theorem name_any (s : ByteArray) (w : World) (hs : s.size ≤ 9223372036854775807) : Calls Try.prog 46 #[.string s] w fun e w' => e = .returned (.bool (nameB s.toList)) ∧ w' = w := by
  have h := name_list s.toList w (by rw [ByteArray.toList_eq]; exact hs)
  rw [show (⟨s.toList.toArray⟩ : ByteArray) = s by rw [ByteArray.toList_eq]] at h
  exact h
def txtB (t : Nat) (s : ByteArray) : Bool := if t = 33 then nameB s.toList && !kw s.toList else if t = 36 then s.toList.isEmpty else decide (s.size ≤ 4095)
theorem own_any (s : ByteArray) (w : World) (hs : s.size ≤ 9223372036854775807) : Calls Try.prog 33 #[.string s] w fun e w' => e = .returned (.bool (txtB 33 s)) ∧ w' = w := by
  have HN := Lib.hid (name_any s w hs)
  have HK := Lib.hid (keyword_any s w)
  have HC : Hid (txtB 33 s = (nameB s.toList && !kw s.toList)) := rfl
  generalize nameB s.toList = a at *
  generalize kw s.toList = b at *
  go_enter Try.func33, Try.ntmps33
  go_wp2_with fail
  refine HN.out.mono ?_
  rintro e w2 ⟨rfl, hw2⟩
  rw [hw2]
  clear hw2 w2
  cases a
  · go_wp2_with fail
    go_ret
    exact ⟨ret_bool HC.out.symm, rfl⟩
  · go_wp2_with fail
    refine HK.out.mono ?_
    rintro e w2 ⟨rfl, hw2⟩
    rw [← hw2]
    clear hw2 w2
    go_wp2_with fail
    go_ret
    exact ⟨ret_bool (by rw [HC.out]; simp), rfl⟩
/-- What a form's text may be, and what a part may be. -/
theorem text_any {op : Nat} {f : Form} (hf : formOf op = some f) (s : ByteArray) (w : World) (hs : s.size ≤ 9223372036854775807) : Calls Try.prog f.txt #[.string s] w fun e w' => e = .returned (.bool (txtB f.txt s)) ∧ w' = w := by
  have h := (forms_ok hf).2.1
  rcases h with h | h | h <;> rw [h]
  · exact own_any s w hs
  · exact empty_any s w
  · exact short_any s w
theorem part_any {o : Nat} {f : Form} (hf : formOf o = some f) (i n op : Nat) (w : World) (h : op < 256) (hi : i < n) (hn : n ≤ 9223372036854775807) : Calls Try.prog f.prt #[.int .i64 (i : Nat), .int .i64 (n : Nat), .int .u8 (op : Nat)] w fun e w' => e = .returned (.bool (prtB f.prt i n op)) ∧ w' = w := by
  have h2 := (forms_ok hf).2.2.1
  rcases h2 with h2 | h2 | h2 | h2 | h2 | h2 <;> rw [h2]
  · exact params_any i n op w h hi hn
  · exact nothing_any i n op w
  · exact stmt_any i n op w h
  · exact headed_any i n op w h (by omega)
  · exact expr_any i n op w h
  · exact block_any i n op w
end Go.Proofs.Ytpdofcjgpomehaa
