/- Plain law: what a source's tokens are. No program in sight. And what follows from it. -/
import Derived.Test.YtbcadlocldplfaaDoorChecked
import Derived.Lib.Bytealg
import Derived.Shelf.Strings.Search1
import Derived.WalkMore
import Derived.ScopeJumps
import Derived.Test.YtbcadlocldplfaaDoorQta
import Derived.Test.YtbcadlocldplfaaDoorQt0
set_option maxHeartbeats 16000000
set_option linter.unusedSimpArgs false
set_option linter.unusedVariables false
namespace Go.Proofs.YtbcadlocldplfaaDoor
open Go.Proofs.Tryd
def lowB (c : UInt8) : Bool := decide (97 <= c.toNat) && decide (c.toNat <= 122)
def digB (c : UInt8) : Bool := decide (48 <= c.toNat) && decide (c.toNat <= 57)
def innB (c : UInt8) : Bool := lowB c || digB c || decide (c.toNat = 95)
def scan (p : UInt8 -> Bool) (s : List UInt8) (i : Nat) : Nat := i + ((s.drop i).takeWhile p).length
section
variable (p : UInt8 -> Bool) (s : List UInt8)
theorem scan_ge (i : Nat) : i <= scan p s i := Nat.le_add_right _ _
theorem takeWhile_len : ∀ l : List UInt8, (l.takeWhile p).length <= l.length
 | [] => by simp
 | c :: l => by
  rw [List.takeWhile_cons]
  have := takeWhile_len l
  split <;> simp <;> omega
theorem scan_le {i : Nat} (h : i <= s.length) : scan p s i <= s.length := by
 have := takeWhile_len p (s.drop i)
 rw [List.length_drop] at this
 unfold scan; omega
theorem scan_stop {i : Nat} (h : i < s.length) (hp : p s[i] = false) : scan p s i = i := by
 unfold scan; rw [List.drop_eq_getElem_cons h, List.takeWhile_cons, hp]; simp
theorem scan_step {i : Nat} (h : i < s.length) (hp : p s[i] = true) : scan p s i = scan p s (i + 1) := by
 unfold scan; rw [List.drop_eq_getElem_cons h, List.takeWhile_cons, hp]; simp; omega
end
def val (l : List UInt8) : Nat := l.foldl (fun x c => 10 * x + (c.toNat - 48)) 0
def cutL (s : List UInt8) (i j : Nat) : List UInt8 := (s.take j).drop i
section
variable {s : List UInt8} {i k : Nat}
end
def hexD (c : UInt8) : Option Nat := if digB c then some (c.toNat - 48) else if 97 <= c.toNat ∧ c.toNat <= 102 then some (c.toNat - 87) else none
theorem hexD_lt {c : UInt8} {d : Nat} (h : hexD c = some d) : d < 16 := by
 unfold hexD at h
 split at h
 . rename_i hd
   unfold digB at hd
   have : 48 <= c.toNat ∧ c.toNat <= 57 := by simpa using hd
   injection h with h
   omega
 . split at h
   . injection h with h; omega
   . cases h
def hex2 (s : List UInt8) (k : Nat) : (Nat × Nat) ⊕ (Nat × Nat) :=
 match s[k]? with
 | none => .inl (s.length, 4)
 | some a => match hexD a with
  | none => .inl (k, 9)
  | some x => match s[k + 1]? with
   | none => .inl (s.length, 4)
   | some b => match hexD b with
    | none => .inl (k + 1, 9)
    | some y => .inr (16 * x + y, k + 2)
def escL (s : List UInt8) (k : Nat) : (Nat × Nat) ⊕ (Nat × Nat) :=
 match s[k]? with
 | none => .inl (s.length, 4)
 | some c => if c = 34 ∨ c = 92 then .inr (c.toNat, k + 1) else if c = 110 then .inr (10, k + 1) else if c = 120 then hex2 s (k + 1) else .inl (k, 9)
def charL (s : List UInt8) (c : UInt8) (k : Nat) : (Nat × Nat) ⊕ (Nat × Nat) := if c = 92 then escL s (k + 1) else .inr (c.toNat, k + 1)
def textN : Nat -> List UInt8 -> Nat -> Nat -> List UInt8 -> List UInt8 × Nat × Nat × Nat
 | 0, s, _, _, _ => ([], 0, s.length, 4)
 | n + 1, s, i, k, b =>
  match s[k]? with
  | none => ([], 0, s.length, 4)
  | some c => if c = 34 then (b, k + 1, 0, 0) else if c.toNat < 32 ∨ 126 < c.toNat then ([], 0, k, 9) else
   match charL s c k with
   | .inl (q, e) => ([], 0, q, e)
   | .inr (x, nx) => if b.length = 4095 then ([], 0, i, 2) else textN n s i nx (b ++ [UInt8.ofNat x])
theorem charL_next {s : List UInt8} {c : UInt8} {k x nx : Nat} (h : charL s c k = .inr (x, nx)) : k < nx ∧ x < 256 := by
 unfold charL at h
 split at h
 . unfold escL at h
   split at h
   . cases h
   . rename_i c' _
     have := UInt8.toNat_lt c'
     split at h
     . injection h with h; injection h with h1 h2; omega
     . split at h
       . injection h with h; injection h with h1 h2; omega
       . split at h
         . unfold hex2 at h
           split at h
           . cases h
           . split at h
             . cases h
             . rename_i h3
               have h3' := hexD_lt h3
               split at h
               . cases h
               . split at h
                 . cases h
                 . rename_i h4
                   have h4' := hexD_lt h4
                   injection h with h; injection h with h1 h2; omega
         . cases h
 . have := UInt8.toNat_lt c
   injection h with h; injection h with h1 h2; omega
theorem textN_more (s : List UInt8) (i : Nat) : ∀ (n m k : Nat) (b : List UInt8), s.length <= n + k -> n <= m -> textN m s i k b = textN n s i k b
 | 0, 0, _, _, _, _ => rfl
 | 0, m + 1, k, b, h, _ => by
  have : s[k]? = none := List.getElem?_eq_none (by omega)
  unfold textN; rw [this]
 | n + 1, 0, _, _, _, h2 => by omega
 | n + 1, m + 1, k, b, h, h2 => by
  unfold textN
  split
  . rfl
  . split
    . rfl
    . split
      . rfl
      . split
        . rfl
        . rename_i x nx hc
          have := charL_next hc
          split
          . rfl
          . exact textN_more s i n m nx _ (by omega) (by omega)
def textL (s : List UInt8) (i k : Nat) (b : List UInt8) : List UInt8 × Nat × Nat × Nat := textN s.length s i k b
theorem textL_step (s : List UInt8) (i k : Nat) (b : List UInt8) : textL s i k b =
 match s[k]? with
 | none => ([], 0, s.length, 4)
 | some c => if c = 34 then (b, k + 1, 0, 0) else if c.toNat < 32 ∨ 126 < c.toNat then ([], 0, k, 9) else
  match charL s c k with
  | .inl (q, e) => ([], 0, q, e)
  | .inr (x, nx) => if b.length = 4095 then ([], 0, i, 2) else textL s i nx (b ++ [UInt8.ofNat x]) := by
 unfold textL
 rcases Nat.lt_or_ge k s.length with h | h
 . obtain ⟨n, hn⟩ : ∃ n, s.length = n + 1 := ⟨s.length - 1, by omega⟩
   conv => lhs; rw [hn]; unfold textN
   split
   . rfl
   . split
     . rfl
     . split
       . rfl
       . split
         . rfl
         . rename_i x nx hc
           have := charL_next hc
           split
           . rfl
           . exact (textN_more s i n s.length nx _ (by omega) (by omega)).symm
 . have : s[k]? = none := List.getElem?_eq_none h
   rw [this]
   show textN s.length s i k b = _
   cases hl : s.length with
   | zero => unfold textN; rw [hl]
   | succ n => unfold textN; rw [this, hl]
structure Tok where
 kind : Nat
 text : List UInt8
 int : Nat
 place : Nat
deriving DecidableEq
def wordL (s : List UInt8) (i : Nat) : (Nat × Nat) ⊕ (Tok × Nat) :=
 if 24 < scan innB s i - i then .inl (i, 2) else .inr (⟨1, cutL s i (scan innB s i), 0, i⟩, scan innB s i)
end Go.Proofs.YtbcadlocldplfaaDoor
namespace Go.Proofs.YtbcadlocldplfaaDoor
open Go.Proofs.Tryd
open Go.RowKit
theorem letter_any (c : UInt8) (w : World) : Calls prog 38 #[.int .u8 (c.toNat : Nat)] w fun e w' => e = .returned (.bool (lowB c)) ∧ w' = w := by
 have HC : Hid (lowB c = (decide (97 <= c.toNat) && decide (c.toNat <= 122))) := rfl
 have h1 : c.toNat < 256 := UInt8.toNat_lt _
 generalize c.toNat = x at *
 by_cases ha : 97 <= x
 . by_cases hb : x <= 122
   . go_in
     go_wp2_with fail
     go_ret
     exact ⟨by rw [HC.out]; simp [ha, hb]; omega, rfl⟩
   . go_in
     go_wp2_with fail
     go_ret
     exact ⟨by rw [HC.out]; simp [ha, hb]; omega, rfl⟩
 . go_in
   go_wp2_with fail
   go_ret
   exact ⟨by rw [HC.out]; simp [ha], rfl⟩
theorem digit_any (c : UInt8) (w : World) : Calls prog 40 #[.int .u8 (c.toNat : Nat)] w fun e w' => e = .returned (.bool (digB c)) ∧ w' = w := by
 have HC : Hid (digB c = (decide (48 <= c.toNat) && decide (c.toNat <= 57))) := rfl
 have h1 : c.toNat < 256 := UInt8.toNat_lt _
 generalize c.toNat = x at *
 by_cases ha : 48 <= x
 . by_cases hb : x <= 57
   . go_in
     go_wp2_with fail
     go_ret
     exact ⟨by rw [HC.out]; simp [ha, hb]; omega, rfl⟩
   . go_in
     go_wp2_with fail
     go_ret
     exact ⟨by rw [HC.out]; simp [ha, hb]; omega, rfl⟩
 . go_in
   go_wp2_with fail
   go_ret
   exact ⟨by rw [HC.out]; simp [ha], rfl⟩
theorem beq_decide (x : Nat) : ((x : Int) == 95) = decide (x = 95) := by
 rw [Bool.eq_iff_iff]; simp; omega
theorem inner_any (c : UInt8) (w : World) : Calls prog 39 #[.int .u8 (c.toNat : Nat)] w fun e w' => e = .returned (.bool (innB c)) ∧ w' = w := by
 have HL := zh (letter_any c w)
 have HD := zh (digit_any c w)
 have HC : Hid (innB c = (lowB c || digB c || decide (c.toNat = 95))) := rfl
 have h1 : c.toNat < 256 := UInt8.toNat_lt _
 generalize c.toNat = x at *
 generalize lowB c = p at *
 generalize digB c = q at *
 go_in
 go_wp2_with fail
 refine HL.out.mono ?_
 rintro e w2 ⟨rfl, rfl⟩
 cases p
 . go_wp2_with fail
   refine HD.out.mono ?_
   rintro e w2 ⟨rfl, rfl⟩
   cases q
   . go_wp2_with fail
     go_ret
     refine ⟨by rw [HC.out, beq_decide x]; simp, rfl⟩
   . go_wp2_with fail
     go_ret
     exact ⟨by rw [HC.out]; rfl, rfl⟩
 . go_wp2_with fail
   go_ret
   exact ⟨by rw [HC.out]; rfl, rfl⟩
theorem st_get {st : ByteArray} {s : List UInt8} (hst : st = ⟨s.toArray⟩) {k : Nat} (h : k < st.size) (h2 : k < s.length) : st[k] = s[k] := by
 subst hst; rfl
set_option maxRecDepth 100000 in
theorem idx22 (s : ByteArray) (c : Int) (w : World) : Calls prog 87 #[.string s, .int .u8 c] w fun e w' => e = .returned (.int .i64 (Lib.indexByte s.data.toList c.toNat.toUInt8)) ∧ w' = w := by
 go_in
 go_wp2_with fail
 rw [run_callFunc_extern func111 (by kernel_rfl) (by kernel_rfl) (by kernel_rfl) (e := Extern.BytealgIndexByte.indexByte) (by kernel_rfl), Lib.run_indexByteString]
 simp only [Result.andThen]
 rw [Oper.upon_value]
 go_wp2_with fail
 go_ret
 exact ⟨rfl, rfl⟩
theorem idx19 (s : ByteArray) (c : Int) (w : World) : Calls prog 43 #[.string s, .int .u8 c] w fun e w' => e = .returned (.int .i64 (Lib.indexByte s.data.toList c.toNat.toUInt8)) ∧ w' = w := by
 go_in
 go_wp2_with fail
 refine (idx22 s c w).mono ?_
 rintro e w2 ⟨rfl, rfl⟩
 go_wp2_with fail
 go_ret
 exact ⟨rfl, rfl⟩
theorem Tryd.info5 : (prog.info? 5).map (fun i => (i.zero, i.size, i.bytes)) = some (some (.int .u8 0), 1, 1) := by kernel_rfl
abbrev hexs : List UInt8 := [48, 49, 50, 51, 52, 53, 54, 55, 56, 57, 97, 98, 99, 100, 101, 102]
theorem hex_idx0 : ∀ n : Fin 256, Lib.indexByte hexs (UInt8.ofNat n.1) = ((hexD (UInt8.ofNat n.1)).elim (-1) fun d => (d : Int)) := by decide +kernel
theorem hex_idx (c : UInt8) : Lib.indexByte hexs c = ((hexD c).elim (-1) fun d => (d : Int)) := by
 have h := hex_idx0 ⟨c.toNat, UInt8.toNat_lt c⟩
 have e : UInt8.ofNat c.toNat = c := UInt8.ofNat_toNat
 rw [e] at h
 exact h
theorem hex_any (c : UInt8) (w : World) : Calls prog 43 #[.string ⟨hexs.toArray⟩, .int .u8 (c.toNat : Nat)] w fun e w' => e = .returned (.int .i64 ((hexD c).elim (-1) fun d => (d : Int))) ∧ w' = w := by
 have h := idx19 ⟨hexs.toArray⟩ (c.toNat : Nat) w
 have e : ((c.toNat : Nat) : Int).toNat.toUInt8 = c := by rw [Int.toNat_natCast]; exact UInt8.ofNat_toNat
 have e2 : (⟨hexs.toArray⟩ : ByteArray).data.toList = hexs := rfl
 rw [e, e2, hex_idx] at h
 exact h
def TextPost (w : World) (R : List UInt8 × Nat × Nat × Nat) (e : Ending) (w' : World) : Prop :=
 ∃ st : ByteArray, e = .returned (.tuple #[.string st, .int .i64 (R.2.1 : Nat), .int .i64 (R.2.2.1 : Nat), .int .i64 (R.2.2.2 : Nat)]) ∧ st.data.toList = R.1 ∧ Below w.heap.size w w'
set_option maxRecDepth 100000 in
theorem text_any (s : List UInt8) (i : Nat) (hs : s.length <= 100000) (hi : i < s.length) (w : World) :
 Calls prog 42 #[.string ⟨s.toArray⟩, .int .i64 (i : Nat)] w (TextPost w (textL s i (i + 1) [])) := by
 obtain ⟨i0, hi0, hz0, hz1, hz2⟩ := info_parts Tryd.info5
 have HI := zh (ai hi0 (ai hz0 (ai hz1 hz2)))
 clear hi0 hz0 hz1 hz2
 obtain ⟨st, hst⟩ : ∃ st : ByteArray, st = ⟨s.toArray⟩ := ⟨_, rfl⟩
 have hsz : st.size = s.length := by rw [hst]; rfl
 obtain ⟨n, hn⟩ := ex s.length
 obtain ⟨R, hR⟩ := ex (textL s i (i + 1) [])
 rw [<- hst, <- hR]
 rw [<- hn] at hsz hs hi
 have HST := zh hst
 have HN := zh hn
 have HR0 := zh hR
 clear hst hn hR
 go_in
 go_wp2_with fail
 go_loopw [8, 9] (fun s8 s9 wr => ∃ (k : Nat) (b : List UInt8) (A : Option Addr) (cap : Nat), s9 = .int .i64 k ∧ s8 = .slice A b.length cap ∧ i < k ∧ k <= n ∧ b.length <= 4095 ∧ textL s i k b = R ∧ wr.ownsRow w.heap.size 5 1 (.slice A b.length cap) b.length (bcells b) ∧ Below w.heap.size w wr) (fun _ s9 _ => n - (intOf s9).toNat)
 case atStart => exact ⟨i + 1, [], none, 0, by go_num, rfl, by omega, by omega, by simp, HR0.out.symm, World.ownsRow_nil _ _ _ _, Below.refl _ _⟩
 case round =>
  obtain ⟨k, b, A, cap, rfl, rfl, hik, hkn, hbl, hR, ho, hb⟩ := hrel
  have HR := zh hR
  have HB := zh hb
  obtain ⟨m, hm⟩ := ex b.length
  rw [<- hm] at ho hbl |-
  have HO := zh ho
  have HM := zh hm
  have HSTEP := zh (hR.symm.trans (textL_step s i k b))
  clear hR hb ho hm
  by_cases hlt : k < n
  . have hks : k < s.length := by rw [<- HN.out]; exact hlt
    obtain ⟨ch, hch⟩ : ∃ c, c = s[k] := ⟨_, rfl⟩
    have hkst : k < st.size := by omega
    have hg : st[k] = ch := by rw [hch]; exact st_get HST.out hkst hks
    have hch2 : s[k]? = some ch := by rw [hch]; exact List.getElem?_eq_getElem hks
    have HS1 := zh (show R = if ch = 34 then (b, k + 1, 0, 0) else if ch.toNat < 32 ∨ 126 < ch.toNat then ([], 0, k, 9) else
     match charL s ch k with
     | .inl (q, e) => ([], 0, q, e)
     | .inr (x, nx) => if b.length = 4095 then ([], 0, i, 2) else textL s i nx (b ++ [UInt8.ofNat x]) by have h := HSTEP.out; rw [hch2] at h; exact h)
    clear hch hch2 hks HSTEP
    have hcl : ch.toNat < 256 := UInt8.toNat_lt _
    have HE : Hid (∀ q : UInt8, ch = q ↔ ch.toNat = q.toNat) := fun q => ⟨fun h => by rw [h], fun h => UInt8.toNat_inj.1 h⟩
    obtain ⟨cv, hcv⟩ : ∃ v, v = ch.toNat := ⟨_, rfl⟩
    have hg2 : st[k].toNat = cv := by rw [hg, hcv]
    have HCV := zh hcv
    rw [<- hcv] at hcl
    clear hg hcv
    by_cases h34 : cv = 34
    . have HR2 : Hid (R = (b, k + 1, 0, 0)) := by rw [HS1.out, if_pos ((HE.out 34).2 (HCV.out.symm.trans h34))]; exact rfl
      have hstr := run_str_own (P := prog) wr 73 9 5 w.heap.size (.slice A m cap) m b underlying73 underlying5 underlying9 HM.out.symm HO.out
      have hb34 : ((cv : Int) != 34) = false := by rw [h34]; rfl
      clear h34
      go_wp2_with fail
      (try simp only [Exit.inBlock, Exit.then]); refine bodyPost_ret (results_tmp4 rfl _ _ _) rfl ?_
      exact ⟨_, by rw [HR2.out]; rfl, by rw [HR2.out], HB.out⟩
    . have hb34 : ((cv : Int) != 34) = true := by rw [bne_iff_ne]; omega
      have HS2 : Hid (R = if ch.toNat < 32 ∨ 126 < ch.toNat then ([], 0, k, 9) else
       match charL s ch k with
       | .inl (q, e) => ([], 0, q, e)
       | .inr (x, nx) => if b.length = 4095 then ([], 0, i, 2) else textL s i nx (b ++ [UInt8.ofNat x])) := by rw [HS1.out, if_neg (fun h => h34 (HCV.out.trans ((HE.out 34).1 h)))]; exact rfl
      clear h34 HS1
      by_cases hlo : cv < 32
      . have HR2 : Hid (R = ([], 0, k, 9)) := by rw [HS2.out, if_pos (by rw [<- HCV.out]; omega)]; exact rfl
        go_wp2_with fail
        (try simp only [Exit.inBlock, Exit.then]); refine bodyPost_ret (results_tmp4 rfl _ _ _) rfl ?_
        exact ⟨_, by rw [HR2.out]; rfl, by rw [HR2.out], HB.out⟩
      . by_cases hup : 126 < cv
        . have HR2 : Hid (R = ([], 0, k, 9)) := by rw [HS2.out, if_pos (by rw [<- HCV.out]; omega)]; exact rfl
          go_wp2_with fail
          (try simp only [Exit.inBlock, Exit.then]); refine bodyPost_ret (results_tmp4 rfl _ _ _) rfl ?_
          exact ⟨_, by rw [HR2.out]; rfl, by rw [HR2.out], HB.out⟩
        . have HS3 : Hid (R = match charL s ch k with
           | .inl (q, e) => ([], 0, q, e)
           | .inr (x, nx) => if b.length = 4095 then ([], 0, i, 2) else textL s i nx (b ++ [UInt8.ofNat x])) := by rw [HS2.out, if_neg (by rw [<- HCV.out]; omega)]; exact rfl
          clear HS2
          by_cases h92 : cv = 92
          . have hb92 : ((cv : Int) == 92) = true := by rw [h92]; rfl
            have HS4 : Hid (R = match escL s (k + 1) with
             | .inl (q, e) => ([], 0, q, e)
             | .inr (x, nx) => if b.length = 4095 then ([], 0, i, 2) else textL s i nx (b ++ [UInt8.ofNat x])) := by
             have h := HS3.out
             unfold charL at h
             rw [if_pos ((HE.out 92).2 (HCV.out.symm.trans h92))] at h
             exact h
            clear HS3 h92
            by_cases hk1 : k + 1 = n
            . have HR2 : Hid (R = ([], 0, n, 4)) := by
               have h := HS4.out
               unfold escL at h
               rw [List.getElem?_eq_none (by rw [<- HN.out]; omega)] at h
               rw [h, HN.out]; exact rfl
              have hbk : ((k : Int) + 1 == (n : Int)) = true := by rw [beq_iff_eq]; omega
              have hge : n <= k + 1 := by omega
              clear hk1
              go_wp2_with fail
              (try simp only [Exit.inBlock, Exit.then]); refine bodyPost_ret (results_tmp4 rfl _ _ _) rfl ?_
              exact ⟨_, by rw [HR2.out]; rfl, by rw [HR2.out], HB.out⟩
            . have hk2 : k + 1 < n := by omega
              have hbk : ((k : Int) + 1 == (n : Int)) = false := by rw [bfn]; omega
              clear hk1
              have hks : k + 1 < s.length := by rw [<- HN.out]; exact hk2
              obtain ⟨c1, hc1⟩ : ∃ c, c = s[k + 1] := ⟨_, rfl⟩
              have hkst1 : k + 1 < st.size := by omega
              have hg1 : st[k + 1] = c1 := by rw [hc1]; exact st_get HST.out hkst1 hks
              have HC1 : Hid (s[k + 1]? = some c1) := by rw [hc1]; exact List.getElem?_eq_getElem hks
              have HS5 : Hid (R = match (if c1 = 34 ∨ c1 = 92 then Sum.inr (c1.toNat, k + 1 + 1) else if c1 = 110 then .inr (10, k + 1 + 1) else if c1 = 120 then hex2 s (k + 1 + 1) else .inl (k + 1, 9) : (Nat × Nat) ⊕ (Nat × Nat)) with
               | .inl (q, e) => ([], 0, q, e)
               | .inr (x, nx) => if b.length = 4095 then ([], 0, i, 2) else textL s i nx (b ++ [UInt8.ofNat x])) := by
               have h := HS4.out
               unfold escL at h
               rw [HC1.out] at h
               exact h
              clear HS4
              have HE1 : Hid (∀ q : UInt8, c1 = q ↔ c1.toNat = q.toNat) := fun q => ⟨fun h => by rw [h], fun h => UInt8.toNat_inj.1 h⟩
              have hcl1 : c1.toNat < 256 := UInt8.toNat_lt _
              obtain ⟨cw, hcw⟩ : ∃ v, v = c1.toNat := ⟨_, rfl⟩
              have hgw : st[k + 1].toNat = cw := by rw [hg1, hcw]
              have HCW := zh hcw
              rw [<- hcw] at hcl1
              clear hg1 hcw hc1 hks
              by_cases h1 : cw = 34
              . have hb1 : ((cw : Int) == 34) = true := by rw [h1]; rfl
                have HS4 : Hid (R = if b.length = 4095 then ([], 0, i, 2) else textL s i (k + 1 + 1) (b ++ [UInt8.ofNat cw])) := by
                 have h := HS5.out
                 rw [if_pos (.inl ((HE1.out 34).2 (HCW.out.symm.trans h1))), <- HCW.out] at h
                 exact h
                clear HS5 h1
                by_cases hmx : m = 4095
                . have HR2 : Hid (R = ([], 0, i, 2)) := by rw [HS4.out, if_pos (HM.out.symm.trans hmx)]; exact rfl
                  have hbm : ((m : Int) == 4095) = true := by rw [hmx]; rfl
                  clear hmx
                  go_wp2_with fail
                  (try simp only [Exit.inBlock, Exit.then]); refine bodyPost_ret (results_tmp4 rfl _ _ _) rfl ?_
                  exact ⟨_, by rw [HR2.out]; rfl, by rw [HR2.out], HB.out⟩
                . have HR2 : Hid (R = textL s i (k + 1 + 1) (b ++ [UInt8.ofNat cw])) := by rw [HS4.out, if_neg (fun h => hmx (HM.out.trans h))]; exact rfl
                  have hbm : ((m : Int) == 4095) = false := by rw [bfn]; omega
                  have HX2 : Hid (bcells (b ++ [UInt8.ofNat cw]) = bcells b ++ [.int .u8 (cw : Nat)]) := by rw [bcells_append]; exact congrArg (fun z => bcells b ++ [Value.int .u8 ((z : Nat) : Int)]) (by first | rfl | (rw [UInt8.toNat_ofNat']; exact Nat.mod_eq_of_lt (by omega)))
                  obtain ⟨hi0, hz0, hz1, hz2⟩ := HI.out
                  go_wp2_with (at_builtin; refine wpList_append_own _ rfl (.tmp 86) (.tmp 88) 73 rfl w.heap.size 5 i0 (.int .u8 0) 1 1 underlying73 hi0 hz0 hz1 hz2 rfl (by decide) (.slice A m cap) m (bcells b) rfl (HO.out.alloc _) ⟨wr.heap.size, 0, none⟩ 1 1 [.int .u8 (cw : Nat)] rfl rfl (cell_one_new _ _ _) (by intro u hu; rw [List.mem_singleton] at hu; subst hu; rfl) (by unfold maxLen; omega) (by omega) (by have := HB.out.size; simp; omega) ?_; intro v3 w3 ho3 hg3 _; obtain ⟨A3, c3, rfl, _⟩ := own_form ho3; have HO3 := zh ho3; have HG3 := zh hg3; clear ho3 hg3)
                  have HL := zh (show (b ++ [UInt8.ofNat cw]).length = m + 1 by rw [lna, <- HM.out]; rfl)
                  go_wp2_with fail
                  go_roundw
                  case rel =>
                   refine ⟨(k + 1 + 1), b ++ [UInt8.ofNat cw], A3, c3, by go_num, by rw [HL.out], by omega, by omega, by rw [HL.out]; omega, HR2.out.symm, by rw [HL.out, HX2.out]; exact HO3.out, ?_⟩
                   exact (HB.out.alloc HB.out.size _).grown HG3.out (by have := HB.out.size; simp; omega) (fun g hg => (World.ownsRow.lt HO.out g hg).1)
                  case measure => simp [intOf]; omega
              . have hb1 : ((cw : Int) == 34) = false := by rw [bfn]; omega
                by_cases h2 : cw = 92
                . have hb2 : ((cw : Int) == 92) = true := by rw [h2]; rfl
                  have HS4 : Hid (R = if b.length = 4095 then ([], 0, i, 2) else textL s i (k + 1 + 1) (b ++ [UInt8.ofNat cw])) := by
                   have h := HS5.out
                   rw [if_pos (.inr ((HE1.out 92).2 (HCW.out.symm.trans h2))), <- HCW.out] at h
                   exact h
                  clear HS5 h1 h2
                  by_cases hmx : m = 4095
                  . have HR2 : Hid (R = ([], 0, i, 2)) := by rw [HS4.out, if_pos (HM.out.symm.trans hmx)]; exact rfl
                    have hbm : ((m : Int) == 4095) = true := by rw [hmx]; rfl
                    clear hmx
                    go_wp2_with fail
                    (try simp only [Exit.inBlock, Exit.then]); refine bodyPost_ret (results_tmp4 rfl _ _ _) rfl ?_
                    exact ⟨_, by rw [HR2.out]; rfl, by rw [HR2.out], HB.out⟩
                  . have HR2 : Hid (R = textL s i (k + 1 + 1) (b ++ [UInt8.ofNat cw])) := by rw [HS4.out, if_neg (fun h => hmx (HM.out.trans h))]; exact rfl
                    have hbm : ((m : Int) == 4095) = false := by rw [bfn]; omega
                    have HX2 : Hid (bcells (b ++ [UInt8.ofNat cw]) = bcells b ++ [.int .u8 (cw : Nat)]) := by rw [bcells_append]; exact congrArg (fun z => bcells b ++ [Value.int .u8 ((z : Nat) : Int)]) (by first | rfl | (rw [UInt8.toNat_ofNat']; exact Nat.mod_eq_of_lt (by omega)))
                    obtain ⟨hi0, hz0, hz1, hz2⟩ := HI.out
                    go_wp2_with (at_builtin; refine wpList_append_own _ rfl (.tmp 86) (.tmp 88) 73 rfl w.heap.size 5 i0 (.int .u8 0) 1 1 underlying73 hi0 hz0 hz1 hz2 rfl (by decide) (.slice A m cap) m (bcells b) rfl (HO.out.alloc _) ⟨wr.heap.size, 0, none⟩ 1 1 [.int .u8 (cw : Nat)] rfl rfl (cell_one_new _ _ _) (by intro u hu; rw [List.mem_singleton] at hu; subst hu; rfl) (by unfold maxLen; omega) (by omega) (by have := HB.out.size; simp; omega) ?_; intro v3 w3 ho3 hg3 _; obtain ⟨A3, c3, rfl, _⟩ := own_form ho3; have HO3 := zh ho3; have HG3 := zh hg3; clear ho3 hg3)
                    have HL := zh (show (b ++ [UInt8.ofNat cw]).length = m + 1 by rw [lna, <- HM.out]; rfl)
                    go_wp2_with fail
                    go_roundw
                    case rel =>
                     refine ⟨(k + 1 + 1), b ++ [UInt8.ofNat cw], A3, c3, by go_num, by rw [HL.out], by omega, by omega, by rw [HL.out]; omega, HR2.out.symm, by rw [HL.out, HX2.out]; exact HO3.out, ?_⟩
                     exact (HB.out.alloc HB.out.size _).grown HG3.out (by have := HB.out.size; simp; omega) (fun g hg => (World.ownsRow.lt HO.out g hg).1)
                    case measure => simp [intOf]; omega
                . have hb2 : ((cw : Int) == 92) = false := by rw [bfn]; omega
                  have HS6 : Hid (R = match (if c1 = 110 then Sum.inr (10, k + 1 + 1) else if c1 = 120 then hex2 s (k + 1 + 1) else .inl (k + 1, 9) : (Nat × Nat) ⊕ (Nat × Nat)) with
                   | .inl (q, e) => ([], 0, q, e)
                   | .inr (x, nx) => if b.length = 4095 then ([], 0, i, 2) else textL s i nx (b ++ [UInt8.ofNat x])) := by
                   have h := HS5.out
                   rw [if_neg (fun h => h.elim (fun h => h1 (HCW.out.trans ((HE1.out 34).1 h))) (fun h => h2 (HCW.out.trans ((HE1.out 92).1 h))))] at h
                   exact h
                  clear HS5 h1 h2
                  by_cases h3 : cw = 110
                  . have hb3 : ((cw : Int) == 110) = true := by rw [h3]; rfl
                    have HS4 : Hid (R = if b.length = 4095 then ([], 0, i, 2) else textL s i (k + 1 + 1) (b ++ [UInt8.ofNat 10])) := by
                     have h := HS6.out
                     rw [if_pos ((HE1.out 110).2 (HCW.out.symm.trans h3))] at h
                     exact h
                    clear HS6 h3
                    by_cases hmx : m = 4095
                    . have HR2 : Hid (R = ([], 0, i, 2)) := by rw [HS4.out, if_pos (HM.out.symm.trans hmx)]; exact rfl
                      have hbm : ((m : Int) == 4095) = true := by rw [hmx]; rfl
                      clear hmx
                      go_wp2_with fail
                      (try simp only [Exit.inBlock, Exit.then]); refine bodyPost_ret (results_tmp4 rfl _ _ _) rfl ?_
                      exact ⟨_, by rw [HR2.out]; rfl, by rw [HR2.out], HB.out⟩
                    . have HR2 : Hid (R = textL s i (k + 1 + 1) (b ++ [UInt8.ofNat 10])) := by rw [HS4.out, if_neg (fun h => hmx (HM.out.trans h))]; exact rfl
                      have hbm : ((m : Int) == 4095) = false := by rw [bfn]; omega
                      have HX2 : Hid (bcells (b ++ [UInt8.ofNat 10]) = bcells b ++ [.int .u8 10]) := by rw [bcells_append]; exact congrArg (fun z => bcells b ++ [Value.int .u8 ((z : Nat) : Int)]) (by first | rfl | (rw [UInt8.toNat_ofNat']; exact Nat.mod_eq_of_lt (by omega)))
                      obtain ⟨hi0, hz0, hz1, hz2⟩ := HI.out
                      go_wp2_with (at_builtin; refine wpList_append_own _ rfl (.tmp 86) (.tmp 88) 73 rfl w.heap.size 5 i0 (.int .u8 0) 1 1 underlying73 hi0 hz0 hz1 hz2 rfl (by decide) (.slice A m cap) m (bcells b) rfl (HO.out.alloc _) ⟨wr.heap.size, 0, none⟩ 1 1 [.int .u8 10] rfl rfl (cell_one_new _ _ _) (by intro u hu; rw [List.mem_singleton] at hu; subst hu; rfl) (by unfold maxLen; omega) (by omega) (by have := HB.out.size; simp; omega) ?_; intro v3 w3 ho3 hg3 _; obtain ⟨A3, c3, rfl, _⟩ := own_form ho3; have HO3 := zh ho3; have HG3 := zh hg3; clear ho3 hg3)
                      have HL := zh (show (b ++ [UInt8.ofNat 10]).length = m + 1 by rw [lna, <- HM.out]; rfl)
                      go_wp2_with fail
                      go_roundw
                      case rel =>
                       refine ⟨(k + 1 + 1), b ++ [UInt8.ofNat 10], A3, c3, by go_num, by rw [HL.out], by omega, by omega, by rw [HL.out]; omega, HR2.out.symm, by rw [HL.out, HX2.out]; exact HO3.out, ?_⟩
                       exact (HB.out.alloc HB.out.size _).grown HG3.out (by have := HB.out.size; simp; omega) (fun g hg => (World.ownsRow.lt HO.out g hg).1)
                      case measure => simp [intOf]; omega
                  . have hb3 : ((cw : Int) == 110) = false := by rw [bfn]; omega
                    have HS7 : Hid (R = match (if c1 = 120 then hex2 s (k + 1 + 1) else .inl (k + 1, 9) : (Nat × Nat) ⊕ (Nat × Nat)) with
                     | .inl (q, e) => ([], 0, q, e)
                     | .inr (x, nx) => if b.length = 4095 then ([], 0, i, 2) else textL s i nx (b ++ [UInt8.ofNat x])) := by
                     have h := HS6.out
                     rw [if_neg (fun h => h3 (HCW.out.trans ((HE1.out 110).1 h)))] at h
                     exact h
                    clear HS6 h3
                    by_cases h4 : cw = 120
                    . have hb4 : ((cw : Int) == 120) = true := by rw [h4]; rfl
                      have HS8 : Hid (R = match hex2 s (k + 2) with
                       | .inl (q, e) => ([], 0, q, e)
                       | .inr (x, nx) => if b.length = 4095 then ([], 0, i, 2) else textL s i nx (b ++ [UInt8.ofNat x])) := by
                       have h := HS7.out
                       rw [if_pos ((HE1.out 120).2 (HCW.out.symm.trans h4))] at h
                       exact h
                      clear HS7 h4
                      go_wp2_with fail
                      obtain ⟨wo, rfl⟩ : ∃ wo : World, wo = wr := ⟨_, rfl⟩
                      go_loopw [9, 11, 57] (fun s9 s11 s57 wr => wr = wo ∧ ∃ j x : Nat, s57 = .int .i64 j ∧ s9 = .int .i64 ((k + 1 + j : Nat) : Int) ∧ s11 = .int .i64 x ∧ x < 256 ∧ ((j = 0 ∧ x = 0) ∨ (j = 1 ∧ x < 16 ∧ k + 2 < n ∧ ∃ a : UInt8, s[k + 2]? = some a ∧ hexD a = some x) ∨ (j = 2 ∧ k + 3 < n ∧ hex2 s (k + 2) = .inr (x, k + 4)))) (fun _ _ s57 _ => 2 - (intOf s57).toNat)
                      case atStart => exact ⟨rfl, 0, 0, rfl, by first | rfl | (congr 1), rfl, by omega, .inl ⟨rfl, rfl⟩⟩
                      case round =>
                       obtain ⟨rfl, j, x, rfl, rfl, rfl, hx, hj⟩ := hrel
                       rcases hj with ⟨rfl, rfl⟩ | ⟨rfl, hx16, hk2n, a, ha, hax⟩ | ⟨rfl, hk3, hh⟩
                       . by_cases hke : k + 2 = n
                         . have HR2 : Hid (R = ([], 0, k + 1 + 1, 4)) := by
                            have h := HS8.out
                            unfold hex2 at h
                            rw [List.getElem?_eq_none (by rw [<- HN.out]; omega)] at h
                            rw [h, show s.length = k + 1 + 1 by rw [<- HN.out]; omega]; exact rfl
                           have hkz : n <= k + 2 := by omega
                           have hkz2 : k + 2 <= n := by omega
                           clear hke
                           go_wp2_with fail
                           (try simp only [Exit.inBlock, Exit.then]); refine bodyPost_ret (results_tmp4 rfl _ _ _) rfl ?_
                           exact ⟨_, by rw [HR2.out]; rfl, by rw [HR2.out], HB.out⟩
                         . have hkl : k + 2 < n := by omega
                           clear hke
                           have hks : k + 2 < s.length := by rw [<- HN.out]; exact hkl
                           obtain ⟨d1, hd1⟩ : ∃ c, c = s[k + 2] := ⟨_, rfl⟩
                           have hkst2 : k + 2 < st.size := by omega
                           have hgd : st[k + 2] = d1 := by rw [hd1]; exact st_get HST.out hkst2 hks
                           have HD1 : Hid (s[k + 2]? = some d1) := by rw [hd1]; exact List.getElem?_eq_getElem hks
                           clear hd1 hks
                           go_wp2_with fail
                           refine (hex_any d1 _).mono ?_
                           rintro e w2 ⟨rfl, hw2⟩
                           rw [hw2]
                           clear hw2 w2
                           cases hhd : hexD d1 with
                           | none =>
                            have HR2 : Hid (R = ([], 0, k + 2, 9)) := by
                             have h := HS8.out
                             unfold hex2 at h
                             rw [HD1.out] at h
                             simp only [hhd] at h
                             exact h
                            clear hhd
                            simp only [Option.elim]
                            go_wp2_with fail
                            (try simp only [Exit.inBlock, Exit.then]); refine bodyPost_ret (results_tmp4 rfl _ _ _) rfl ?_
                            exact ⟨_, by rw [HR2.out]; rfl, by rw [HR2.out], HB.out⟩
                           | some d =>
                            have hd16 := hexD_lt hhd
                            have HHD := zh hhd
                            clear hhd
                            simp only [Option.elim]
                            go_wp2_with fail
                            go_roundw
                            case rel => exact ⟨trivial, 1, d, by go_num, congrArg (Value.int .i64) (by omega), congrArg (Value.int .i64) (by omega), by omega, .inr (.inl ⟨rfl, hd16, hkl, d1, HD1.out, HHD.out⟩)⟩
                            case measure => simp [intOf]
                       . have HA := zh (ai ha hax)
                         clear ha hax
                         by_cases hke : k + 3 = n
                         . have HR2 : Hid (R = ([], 0, k + 1 + 1 + 1, 4)) := by
                            have h := HS8.out
                            unfold hex2 at h
                            rw [HA.out.1] at h
                            simp only [HA.out.2] at h
                            rw [List.getElem?_eq_none (by rw [<- HN.out]; omega)] at h
                            rw [h, show s.length = k + 1 + 1 + 1 by rw [<- HN.out]; omega]; exact rfl
                           have hkz : n <= k + 3 := by omega
                           have hkz2 : k + 3 <= n := by omega
                           clear hke
                           go_wp2_with fail
                           (try simp only [Exit.inBlock, Exit.then]); refine bodyPost_ret (results_tmp4 rfl _ _ _) rfl ?_
                           exact ⟨_, by rw [HR2.out]; rfl, by rw [HR2.out], HB.out⟩
                         . have hkl : k + 3 < n := by omega
                           clear hke
                           have hks : k + 3 < s.length := by rw [<- HN.out]; exact hkl
                           obtain ⟨d1, hd1⟩ : ∃ c, c = s[k + 3] := ⟨_, rfl⟩
                           have hkst2 : k + 3 < st.size := by omega
                           have hgd : st[k + 3] = d1 := by rw [hd1]; exact st_get HST.out hkst2 hks
                           have HD1 : Hid (s[k + 3]? = some d1) := by rw [hd1]; exact List.getElem?_eq_getElem hks
                           clear hd1 hks
                           go_wp2_with fail
                           refine (hex_any d1 _).mono ?_
                           rintro e w2 ⟨rfl, hw2⟩
                           rw [hw2]
                           clear hw2 w2
                           cases hhd : hexD d1 with
                           | none =>
                            have HR2 : Hid (R = ([], 0, k + 3, 9)) := by
                             have h := HS8.out
                             unfold hex2 at h
                             rw [HA.out.1] at h
                             simp only [HA.out.2] at h
                             rw [HD1.out] at h
                             simp only [hhd] at h
                             exact h
                            clear hhd
                            simp only [Option.elim]
                            go_wp2_with fail
                            (try simp only [Exit.inBlock, Exit.then]); refine bodyPost_ret (results_tmp4 rfl _ _ _) rfl ?_
                            exact ⟨_, by rw [HR2.out]; rfl, by rw [HR2.out], HB.out⟩
                           | some d =>
                            have hd16 := hexD_lt hhd
                            have HHD := zh hhd
                            clear hhd
                            simp only [Option.elim]
                            go_wp2_with fail
                            go_roundw
                            case rel =>
                             refine ⟨trivial, 2, 16 * x + d, by go_num, congrArg (Value.int .i64) (by omega), congrArg (Value.int .i64) (by omega), by omega, .inr (.inr ⟨rfl, hkl, ?_⟩)⟩
                             unfold hex2
                             rw [HA.out.1]
                             simp only [HA.out.2]
                             rw [HD1.out]
                             simp only [HHD.out]
                            case measure => simp [intOf]
                       . have HS4 : Hid (R = if b.length = 4095 then ([], 0, i, 2) else textL s i (k + 4) (b ++ [UInt8.ofNat x])) := by
                          have h := HS8.out
                          rw [hh] at h
                          exact h
                         clear HS8 hh
                         by_cases hmx : m = 4095
                         . have HR2 : Hid (R = ([], 0, i, 2)) := by rw [HS4.out, if_pos (HM.out.symm.trans hmx)]; exact rfl
                           have hbm : ((m : Int) == 4095) = true := by rw [hmx]; rfl
                           clear hmx
                           go_wp2_with fail
                           (try simp only [Exit.inBlock, Exit.then]); refine bodyPost_ret (results_tmp4 rfl _ _ _) rfl ?_
                           exact ⟨_, by rw [HR2.out]; rfl, by rw [HR2.out], HB.out⟩
                         . have HR2 : Hid (R = textL s i (k + 4) (b ++ [UInt8.ofNat x])) := by rw [HS4.out, if_neg (fun h => hmx (HM.out.trans h))]; exact rfl
                           have hbm : ((m : Int) == 4095) = false := by rw [bfn]; omega
                           have HX2 : Hid (bcells (b ++ [UInt8.ofNat x]) = bcells b ++ [.int .u8 (x : Nat)]) := by rw [bcells_append]; exact congrArg (fun z => bcells b ++ [Value.int .u8 ((z : Nat) : Int)]) (by first | rfl | (rw [UInt8.toNat_ofNat']; exact Nat.mod_eq_of_lt (by omega)))
                           obtain ⟨hi0, hz0, hz1, hz2⟩ := HI.out
                           go_wp2_with (at_builtin; refine wpList_append_own _ rfl (.tmp 86) (.tmp 88) 73 rfl w.heap.size 5 i0 (.int .u8 0) 1 1 underlying73 hi0 hz0 hz1 hz2 rfl (by decide) (.slice A m cap) m (bcells b) rfl (HO.out.alloc _) ⟨wr.heap.size, 0, none⟩ 1 1 [.int .u8 (x : Nat)] rfl rfl (cell_one_new _ _ _) (by intro u hu; rw [List.mem_singleton] at hu; subst hu; rfl) (by unfold maxLen; omega) (by omega) (by have := HB.out.size; simp; omega) ?_; intro v3 w3 ho3 hg3 _; obtain ⟨A3, c3, rfl, _⟩ := own_form ho3; have HO3 := zh ho3; have HG3 := zh hg3; clear ho3 hg3)
                           have HL := zh (show (b ++ [UInt8.ofNat x]).length = m + 1 by rw [lna, <- HM.out]; rfl)
                           go_wp2_with fail
                           go_roundw
                           case rel =>
                            refine ⟨(k + 4), b ++ [UInt8.ofNat x], A3, c3, by go_num, by rw [HL.out], by omega, by omega, by rw [HL.out]; omega, HR2.out.symm, by rw [HL.out, HX2.out]; exact HO3.out, ?_⟩
                            exact (HB.out.alloc HB.out.size _).grown HG3.out (by have := HB.out.size; simp; omega) (fun g hg => (World.ownsRow.lt HO.out g hg).1)
                           case measure => simp [intOf]; omega
                    . have hb4 : ((cw : Int) == 120) = false := by rw [bfn]; omega
                      have HR2 : Hid (R = ([], 0, k + 1, 9)) := by
                       have h := HS7.out
                       rw [if_neg (fun h => h4 (HCW.out.trans ((HE1.out 120).1 h)))] at h
                       exact h
                      clear HS7 h4
                      go_wp2_with fail
                      (try simp only [Exit.inBlock, Exit.then]); refine bodyPost_ret (results_tmp4 rfl _ _ _) rfl ?_
                      exact ⟨_, by rw [HR2.out]; rfl, by rw [HR2.out], HB.out⟩
          . have hb92 : ((cv : Int) == 92) = false := by rw [bfn]; omega
            have HS4 : Hid (R = if b.length = 4095 then ([], 0, i, 2) else textL s i (k + 1) (b ++ [UInt8.ofNat cv])) := by
             have h := HS3.out
             unfold charL at h
             rw [if_neg (fun h => h92 (HCV.out.trans ((HE.out 92).1 h))), <- HCV.out] at h
             exact h
            clear HS3 h92
            by_cases hmx : m = 4095
            . have HR2 : Hid (R = ([], 0, i, 2)) := by rw [HS4.out, if_pos (HM.out.symm.trans hmx)]; exact rfl
              have hbm : ((m : Int) == 4095) = true := by rw [hmx]; rfl
              clear hmx
              go_wp2_with fail
              (try simp only [Exit.inBlock, Exit.then]); refine bodyPost_ret (results_tmp4 rfl _ _ _) rfl ?_
              exact ⟨_, by rw [HR2.out]; rfl, by rw [HR2.out], HB.out⟩
            . have HR2 : Hid (R = textL s i (k + 1) (b ++ [UInt8.ofNat cv])) := by rw [HS4.out, if_neg (fun h => hmx (HM.out.trans h))]; exact rfl
              have hbm : ((m : Int) == 4095) = false := by rw [bfn]; omega
              have HX2 : Hid (bcells (b ++ [UInt8.ofNat cv]) = bcells b ++ [.int .u8 (cv : Nat)]) := by rw [bcells_append]; exact congrArg (fun z => bcells b ++ [Value.int .u8 ((z : Nat) : Int)]) (by first | rfl | (rw [UInt8.toNat_ofNat']; exact Nat.mod_eq_of_lt (by omega)))
              obtain ⟨hi0, hz0, hz1, hz2⟩ := HI.out
              go_wp2_with (at_builtin; refine wpList_append_own _ rfl (.tmp 86) (.tmp 88) 73 rfl w.heap.size 5 i0 (.int .u8 0) 1 1 underlying73 hi0 hz0 hz1 hz2 rfl (by decide) (.slice A m cap) m (bcells b) rfl (HO.out.alloc _) ⟨wr.heap.size, 0, none⟩ 1 1 [.int .u8 (cv : Nat)] rfl rfl (cell_one_new _ _ _) (by intro u hu; rw [List.mem_singleton] at hu; subst hu; rfl) (by unfold maxLen; omega) (by omega) (by have := HB.out.size; simp; omega) ?_; intro v3 w3 ho3 hg3 _; obtain ⟨A3, c3, rfl, _⟩ := own_form ho3; have HO3 := zh ho3; have HG3 := zh hg3; clear ho3 hg3)
              have HL := zh (show (b ++ [UInt8.ofNat cv]).length = m + 1 by rw [lna, <- HM.out]; rfl)
              go_wp2_with fail
              go_roundw
              case rel =>
               refine ⟨(k + 1), b ++ [UInt8.ofNat cv], A3, c3, by go_num, by rw [HL.out], by omega, by omega, by rw [HL.out]; omega, HR2.out.symm, by rw [HL.out, HX2.out]; exact HO3.out, ?_⟩
               exact (HB.out.alloc HB.out.size _).grown HG3.out (by have := HB.out.size; simp; omega) (fun g hg => (World.ownsRow.lt HO.out g hg).1)
              case measure => simp [intOf]; omega
  . have HR2 : Hid (R = ([], 0, n, 4)) := by
     have h := HSTEP.out
     rw [List.getElem?_eq_none (by rw [<- HN.out]; omega)] at h
     rw [h, HN.out]; exact rfl
    go_wp2_with fail
    (try simp only [Exit.inBlock, Exit.then]); refine bodyPost_ret (results_tmp4 rfl _ _ _) rfl ?_
    exact ⟨_, by rw [HR2.out]; rfl, by rw [HR2.out], HB.out⟩
end Go.Proofs.YtbcadlocldplfaaDoor
namespace Go
open Go.Proofs.Tryd
section
variable {P : Program} {a : Act} {w : World} {Q : Exit -> Act -> World -> Prop}
end
end Go
namespace Go.Proofs.YtbcadlocldplfaaDoor
open Go.Proofs.Tryd
open Go.RowKit
theorem news_of_blk {w : World} {g : Nat} {t : TypeId} {xs : List Value} (h : w.heap[g]? = some (.cells xs.toArray t (0, 0))) : ∀ j u, xs[j]? = some u -> w.cell? ((⟨g, 0, none⟩ : Addr).add j) = some u := by
 intro j u hu
 rw [addr_add, Nat.zero_add, Blk.cell (show Blk w g t xs.toArray from h)]
 simpa using hu
section
variable {s : List UInt8} {i : Nat} {c : UInt8}
end
end Go.Proofs.YtbcadlocldplfaaDoor
