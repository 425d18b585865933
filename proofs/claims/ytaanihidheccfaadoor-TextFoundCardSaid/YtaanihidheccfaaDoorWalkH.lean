/-
  The program's door: utf-8's cut, and the cuts of all three encodings in one word.
-/
import Derived.Test.YtaanihidheccfaaDoorPlainB
import Derived.Test.YtaanihidheccfaaDoorWalkE
import Derived.Test.YtaanihidheccfaaDoorWalkF
import Derived.Test.YtaanihidheccfaaDoorWalkG
namespace Go.Proofs.YtaanihidheccfaaDoor
open Go.Shelf Go.RowKit
set_option linter.unusedVariables false

/-- A string as a list of bytes. -/
def str (s : ByteArray) : List UInt8 := s.data.toList
theorem str_len (s : ByteArray) : (str s).length = s.size := by unfold str; exact Array.length_toList
theorem byteN_bN (s : ByteArray) (i : Nat) : byteN s i = bN (str s) i := by
  unfold byteN bN str
  congr 1
  rw [List.getD_eq_getElem?_getD, Array.getElem?_toList]
  show s.data.get!Internal i = _
  rw [Array.get!Internal_eq_getElem!, Array.getElem!_eq_getD, Array.getD_eq_getD_getElem?]
  rfl

/-- What a cut hands out. -/
def cutV (e : Int) (s : ByteArray) : Value := .tuple #[.int .i64 ((cutL e (str s)).1 : Nat), .int .i64 (cutL e (str s)).2]

theorem decodeGo_eq (s : ByteArray) (hs : 0 < s.size) : Lib.decodeGo s = Lib.decodeN s.size (byteN s 0) (byteN s 1) (byteN s 2) (byteN s 3) := by
  unfold Lib.decodeGo
  rw [if_neg (by omega), Lib.decode_at]
  rfl
theorem cutL_two (e : Int) (h0 : e ≠ 0) (h1 : e ≠ 1) (s : ByteArray) : cutL e (str s) = cutN s.size (byteN s 0) (byteN s 1) (byteN s 2) (byteN s 3) := by
  rw [cut_one _ _ _ _ _ (byteN_lt s 0) (byteN_lt s 1) (byteN_lt s 2) (byteN_lt s 3)]
  unfold cutL
  rw [if_neg h0, if_neg h1, str_len, byteN_bN, byteN_bN, byteN_bN, byteN_bN]

theorem decodeN_le (n b0 b1 b2 b3 : Nat) (hb : b0 < 256) : (Lib.decodeN n b0 b1 b2 b3).1 ≤ 1114111 ∧ (Lib.decodeN n b0 b1 b2 b3).2 ≤ 4 := by
  unfold Lib.decodeN
  repeat' split
  all_goals simp only
  all_goals omega

theorem f73 (e : Int) (h0 : e ≠ 0) (h1 : e ≠ 1) (s : ByteArray) (hs : 0 < s.size) (hm : s.size ≤ 140737488355328) (w : World) (hT : Lib.Utf8Tabs 0 1 w) : Calls Tryd.prog 73 #[.string s] w fun en w' => en = .returned (cutV e s) ∧ Below w.heap.size w w' := by
  have H74 := Lib.hid (Tryd.utf8_DecodeRuneInString s w hT)
  rw [decodeGo_eq s hs] at H74
  have hle := decodeN_le s.size (byteN s 0) (byteN s 1) (byteN s 2) (byteN s 3) (byteN_lt s 0)
  have HC := Lib.hid (cutL_two e h0 h1 s)
  have H75 := fun w => f75 s hs hm w
  unfold cutN at HC
  unfold cutV
  clear hT
  generalize hd : Lib.decodeN s.size (byteN s 0) (byteN s 1) (byteN s 2) (byteN s 3) = d at *
  clear hd
  generalize hk : brokenN s.size (byteN s 0) (byteN s 1) (byteN s 2) (byteN s 3) = k at *
  clear hk
  have H75 := Lib.hid H75
  obtain ⟨r, n⟩ := d
  simp only at HC H74 hle
  by_cases hr : r = 65533
  · by_cases hn : n ≤ 1
    · have HE : Hid (cutL e (str s) = (k, -1)) := Lib.hid (by rw [HC.out, if_pos ⟨hr, hn⟩])
      rw [HE.out]
      clear HC
      subst hr
      go_enter Tryd.func73, Tryd.ntmps73
      go_wp2_with (first | (go_at_call 74; refine H74.out.mono ?_; rintro en w2 ⟨rfl, hB⟩; have HB := Lib.hid hB; clear hB) | (go_at_call 75; refine (H75.out _).mono ?_; rintro en w3 ⟨rfl, rfl⟩))
      go_ret2
      exact ⟨rfl, HB.out⟩
    · have HE : Hid (cutL e (str s) = (n, (r : Int))) := Lib.hid (by rw [HC.out, if_neg (fun h => hn h.2)])
      rw [HE.out]
      clear HC
      subst hr
      have hn' : decide ((n : Int) ≤ 1) = false := by simp; omega
      go_enter Tryd.func73, Tryd.ntmps73
      go_wp2_with (first | (go_at_call 74; refine H74.out.mono ?_; rintro en w2 ⟨rfl, hB⟩; have HB := Lib.hid hB; clear hB) | (go_at_call 75; refine (H75.out _).mono ?_; rintro en w3 ⟨rfl, rfl⟩))
      go_ret2
      exact ⟨rfl, HB.out⟩
  · have HE : Hid (cutL e (str s) = (n, (r : Int))) := Lib.hid (by rw [HC.out, if_neg (fun h => hr h.1)])
    rw [HE.out]
    clear HC
    have hr' : ((r : Int) == 65533) = false := by simp; omega
    clear hr
    go_enter Tryd.func73, Tryd.ntmps73
    go_wp2_with (first | (go_at_call 74; refine H74.out.mono ?_; rintro en w2 ⟨rfl, hB⟩; have HB := Lib.hid hB; clear hB) | (go_at_call 75; refine (H75.out _).mono ?_; rintro en w3 ⟨rfl, rfl⟩))
    go_ret2
    exact ⟨rfl, HB.out⟩

theorem f87c (m : Int) (e : Int) (hm : (e = 0 ∧ m = 128) ∨ (e = 1 ∧ m = 256)) (s : ByteArray) (b : Nat) (w : World) (hs : 0 < s.size) (hc : w.cell? ⟨b, 0, none⟩ = some (.int .i64 m)) (hb : b < w.heap.size) : Calls Tryd.prog 87 #[.string s, .pointer (some ⟨b, 0, none⟩)] w fun en w' => en = .returned (cutV e s) ∧ w' = w := by
  have h := f87 s b m w hs hc hb
  have e1 : cutB (s[0]'hs) m = cutV e s := by
    unfold cutB cutV cutL
    have hx : bN (str s) 0 = (s[0]'hs).toNat := by rw [← byteN_bN, byteN_eq s 0 hs]
    have hl := (s[0]'hs).toNat_lt
    rw [hx]
    rcases hm with ⟨rfl, rfl⟩ | ⟨rfl, rfl⟩
    · rw [if_pos rfl]
      by_cases h : (s[0]'hs).toNat < 128
      · rw [if_pos (by omega), if_pos h]; rfl
      · rw [if_neg (by omega), if_neg h]; rfl
    · rw [if_pos (by omega : ((s[0]'hs).toNat : Int) < 256), if_neg (by omega : ¬ ((1 : Int) = 0)), if_pos rfl]; rfl
  rw [e1] at h
  exact h

end Go.Proofs.YtaanihidheccfaaDoor
