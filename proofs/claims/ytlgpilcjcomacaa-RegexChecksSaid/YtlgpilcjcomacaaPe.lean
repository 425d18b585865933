/-
  The program's reader: times, plain.
-/
import Derived.Test.YtlgpilcjcomacaaPd
namespace Go.Proofs.Ytlgpilcjcomacaa
open Go.RowKit Rx
set_option linter.unusedVariables false

/-- What comes back of how often. -/
def TimesPost (br : Nat) (s : ByteArray) (deep : Nat) (st : PS) (w : World) : Option (Option (Nat × Int) × Nat) → Ending → World → Prop
  | none, e, w' => e = bad ∧ Touch (fun b => b = br) w w'
  | some (none, j), e, w' => e = .returned (.tuple #[.int .i64 0, .int .i64 0, .bool false]) ∧ RS br s deep st w' ∧ Touch (fun b => b = br) w w'
  | some (some (lo, hi), j), e, w' => e = .returned (.tuple #[.int .i64 (lo : Int), .int .i64 hi, .bool true]) ∧ RS br s deep { st with pos := j } w' ∧ Touch (fun b => b = br) w w' ∧ lo ≤ 100 ∧ -1 ≤ hi ∧ hi ≤ 100 ∧ st.pos < j

theorem tk_no {br : Nat} {s t : ByteArray} {deep : Nat} {st : PS} {w : World} (h : RS br s deep st w) (ht : tk (str s) st.pos (str t) = false) :
    Calls Try.prog 88 #[.pointer (some ⟨br, 0, none⟩), .string t] w fun e w' => e = .returned (.bool false) ∧ RS br s deep st w' ∧ Touch (fun b => b = br) w w' :=
  (take_no br s t deep st w h ht).mono fun e w' ⟨he, q, hq⟩ => ⟨he, by subst hq; exact h.drewN q, by subst hq; exact still_drewN _ _⟩

theorem tk_of_pk {s : List UInt8} {i : Nat} {c : UInt8} (h : pk s i = c.toNat) (hc : c.toNat ≠ 0) : tk s i [c] = true := by
  unfold pk byteAt at h
  unfold tk
  cases hq : s[i]? with
  | none => rw [hq] at h; simp at h; exact absurd h.symm hc
  | some d =>
    rw [hq] at h
    obtain ⟨hl, hd⟩ := List.getElem?_eq_some_iff.1 hq
    rw [List.drop_eq_getElem_cons hl, hd]
    simp at h
    have : d = c := UInt8.toNat_inj.1 h
    subst this
    simp [List.isPrefixOf]

set_option maxRecDepth 100000 in
set_option maxHeartbeats 8000000 in
theorem times_parse (br : Nat) (s : ByteArray) (deep : Nat) (st : PS) (w : World) (h : RS br s deep st w) :
    Calls Try.prog 101 #[.pointer (some ⟨br, 0, none⟩)] w (TimesPost br s deep st w (timesP (str s) st.pos)) := by
  have HH := Lib.hid h; clear h
  have HTT : Hid (Touch (fun b => b = br) w w) := Lib.hid (Touch.refl _ _)
  by_cases c1 : tk (str s) st.pos [42] = true
  · have HC1 := Lib.hid c1
    have HR : Hid (timesP (str s) st.pos = some (some (0, -1), st.pos + 1)) := Lib.hid (by unfold timesP; rw [if_pos HC1.out])
    clear c1
    go_enter Try.func101, Try.ntmps101
    go_wp2_with fail
    refine (take_yes br s ⟨#[42]⟩ deep _ _ HH.out HC1.out (by decide)).mono ?_
    rintro e wy ⟨rfl, hrs, ht⟩
    have HRSy := Lib.hid hrs
    have HTy := Lib.hid (HTT.out.then ht)
    clear hrs ht
    go_wp2_with fail
    go_ret3
    rw [HR.out]
    exact ⟨rfl, HRSy.out, HTy.out, by decide, by decide, by decide, Nat.lt_succ_self _⟩
  · have D1 : Hid (tk (str s) st.pos [42] = false) := Lib.hid (by simpa using c1)
    clear c1
    by_cases c2 : tk (str s) st.pos [43] = true
    · have HC2 := Lib.hid c2
      have HR : Hid (timesP (str s) st.pos = some (some (1, -1), st.pos + 1)) := Lib.hid (by unfold timesP; rw [if_neg (by rw [D1.out]; decide), if_pos HC2.out])
      clear c2
      go_enter Try.func101, Try.ntmps101
      go_wp2_with fail
      refine (tk_no (t := ⟨#[42]⟩) HH.out D1.out).mono ?_
      rintro e w1 ⟨rfl, hrs, ht⟩
      have HRS1 := Lib.hid hrs
      have HT1 := Lib.hid (HTT.out.then ht)
      clear hrs ht
      go_wp2_with fail
      refine (take_yes br s ⟨#[43]⟩ deep _ _ HRS1.out HC2.out (by decide)).mono ?_
      rintro e wy ⟨rfl, hrs, ht⟩
      have HRSy := Lib.hid hrs
      have HTy := Lib.hid (HT1.out.then ht)
      clear hrs ht
      go_wp2_with fail
      go_ret3
      rw [HR.out]
      exact ⟨rfl, HRSy.out, HTy.out, by decide, by decide, by decide, Nat.lt_succ_self _⟩
    · have D2 : Hid (tk (str s) st.pos [43] = false) := Lib.hid (by simpa using c2)
      clear c2
      by_cases c3 : tk (str s) st.pos [63] = true
      · have HC3 := Lib.hid c3
        have HR : Hid (timesP (str s) st.pos = some (some (0, 1), st.pos + 1)) := Lib.hid (by unfold timesP; rw [if_neg (by rw [D1.out]; decide), if_neg (by rw [D2.out]; decide), if_pos HC3.out])
        clear c3
        go_enter Try.func101, Try.ntmps101
        go_wp2_with fail
        refine (tk_no (t := ⟨#[42]⟩) HH.out D1.out).mono ?_
        rintro e w1 ⟨rfl, hrs, ht⟩
        have HRS1 := Lib.hid hrs
        have HT1 := Lib.hid (HTT.out.then ht)
        clear hrs ht
        go_wp2_with fail
        refine (tk_no (t := ⟨#[43]⟩) HRS1.out D2.out).mono ?_
        rintro e w2 ⟨rfl, hrs, ht⟩
        have HRS2 := Lib.hid hrs
        have HT2 := Lib.hid (HT1.out.then ht)
        clear hrs ht
        go_wp2_with fail
        refine (take_yes br s ⟨#[63]⟩ deep _ _ HRS2.out HC3.out (by decide)).mono ?_
        rintro e wy ⟨rfl, hrs, ht⟩
        have HRSy := Lib.hid hrs
        have HTy := Lib.hid (HT2.out.then ht)
        clear hrs ht
        go_wp2_with fail
        go_ret3
        rw [HR.out]
        exact ⟨rfl, HRSy.out, HTy.out, by decide, by decide, by decide, Nat.lt_succ_self _⟩
      · have D3 : Hid (tk (str s) st.pos [63] = false) := Lib.hid (by simpa using c3)
        clear c3
        by_cases c4 : tk (str s) st.pos [123] = true
        · have HC4 := Lib.hid c4
          have HR0 : timesP (str s) st.pos = match numP (str s) (st.pos + 1) with
              | none => none
              | some (lo, j) =>
                if tk (str s) j [44] = true then
                  if pk (str s) (j + 1) = 125 then some (some (lo, -1), j + 2)
                  else match numP (str s) (j + 1) with
                    | none => none
                    | some (hi, k) => if tk (str s) k [125] = true ∧ lo ≤ hi then some (some (lo, (hi : Int)), k + 1) else none
                else if tk (str s) j [125] = true then some (some (lo, (lo : Int)), j + 1) else none := by
            unfold timesP; rw [if_neg (by rw [D1.out]; decide), if_neg (by rw [D2.out]; decide), if_neg (by rw [D3.out]; decide), if_pos HC4.out]; rfl
          clear c4
          cases hn : numP (str s) (st.pos + 1) with
          | none =>
            have HR : Hid (timesP (str s) st.pos = none) := Lib.hid (by rw [HR0, hn])
            clear HR0
            have HN := Lib.hid hn; clear hn
            go_enter Try.func101, Try.ntmps101
            go_wp2_with fail
            refine (tk_no (t := ⟨#[42]⟩) HH.out D1.out).mono ?_
            rintro e w1 ⟨rfl, hrs, ht⟩
            have HRS1 := Lib.hid hrs
            have HT1 := Lib.hid (HTT.out.then ht)
            clear hrs ht
            go_wp2_with fail
            refine (tk_no (t := ⟨#[43]⟩) HRS1.out D2.out).mono ?_
            rintro e w2 ⟨rfl, hrs, ht⟩
            have HRS2 := Lib.hid hrs
            have HT2 := Lib.hid (HT1.out.then ht)
            clear hrs ht
            go_wp2_with fail
            refine (tk_no (t := ⟨#[63]⟩) HRS2.out D3.out).mono ?_
            rintro e w3 ⟨rfl, hrs, ht⟩
            have HRS3 := Lib.hid hrs
            have HT3 := Lib.hid (HT2.out.then ht)
            clear hrs ht
            go_wp2_with fail
            refine (take_yes br s ⟨#[123]⟩ deep _ _ HRS3.out HC4.out (by decide)).mono ?_
            rintro e w4 ⟨rfl, hrs, ht⟩
            have HRS4 := Lib.hid hrs
            have HT4 := Lib.hid (HT3.out.then ht)
            clear hrs ht
            go_wp2_with fail
            refine (number_any br s deep _ _ HRS4.out).mono ?_
            intro e w5 hG
            rw [show numP (str s) (({ st with pos := st.pos + (⟨#[123]⟩ : ByteArray).size } : PS).pos) = none from HN.out] at hG
            obtain ⟨rfl, ht⟩ := hG
            refine ⟨rfl, ?_⟩
            rw [HR.out]
            exact ⟨rfl, HT4.out.then ht⟩
          | some p =>
            obtain ⟨lo, j⟩ := p
            have HN := Lib.hid hn
            rw [hn] at HR0
            clear hn
            simp only at HR0
            by_cases c5 : tk (str s) j [44] = true
            · have HC5 := Lib.hid c5
              rw [if_pos c5] at HR0
              clear c5
              by_cases c6 : pk (str s) (j + 1) = 125
              · have HC6 := Lib.hid c6
                have HR : Hid (timesP (str s) st.pos = some (some (lo, -1), j + 2)) := Lib.hid (by rw [HR0, if_pos c6])
                clear HR0 c6
                have HTK : Hid (tk (str s) (j + 1) [125] = true) := Lib.hid (tk_of_pk HC6.out (by decide))
                go_enter Try.func101, Try.ntmps101
                go_wp2_with fail
                refine (tk_no (t := ⟨#[42]⟩) HH.out D1.out).mono ?_
                rintro e w1 ⟨rfl, hrs, ht⟩
                have HRS1 := Lib.hid hrs
                have HT1 := Lib.hid (HTT.out.then ht)
                clear hrs ht
                go_wp2_with fail
                refine (tk_no (t := ⟨#[43]⟩) HRS1.out D2.out).mono ?_
                rintro e w2 ⟨rfl, hrs, ht⟩
                have HRS2 := Lib.hid hrs
                have HT2 := Lib.hid (HT1.out.then ht)
                clear hrs ht
                go_wp2_with fail
                refine (tk_no (t := ⟨#[63]⟩) HRS2.out D3.out).mono ?_
                rintro e w3 ⟨rfl, hrs, ht⟩
                have HRS3 := Lib.hid hrs
                have HT3 := Lib.hid (HT2.out.then ht)
                clear hrs ht
                go_wp2_with fail
                refine (take_yes br s ⟨#[123]⟩ deep _ _ HRS3.out HC4.out (by decide)).mono ?_
                rintro e w4 ⟨rfl, hrs, ht⟩
                have HRS4 := Lib.hid hrs
                have HT4 := Lib.hid (HT3.out.then ht)
                clear hrs ht
                go_wp2_with fail
                refine (number_any br s deep _ _ HRS4.out).mono ?_
                intro e w5 hG
                rw [show numP (str s) (({ st with pos := st.pos + (⟨#[123]⟩ : ByteArray).size } : PS).pos) = some (lo, j) from HN.out] at hG
                obtain ⟨rfl, hrs, ht, hlo, hjj⟩ := hG
                have HRS5 := Lib.hid hrs
                have HT5 := Lib.hid (HT4.out.then ht)
                have hjj : st.pos + 1 < j := hjj
                clear hrs ht
                go_wp2_with fail
                refine (take_yes br s ⟨#[44]⟩ deep _ _ HRS5.out HC5.out (by decide)).mono ?_
                rintro e w6 ⟨rfl, hrs, ht⟩
                have HRS6 := Lib.hid hrs
                have HT6 := Lib.hid (HT5.out.then ht)
                clear hrs ht
                go_wp2_with fail
                refine (peek_rs br s deep _ _ HRS6.out).mono ?_
                rintro e w7 ⟨he, hrs, ht⟩
                rw [show pk (str s) (({ st with pos := j + (⟨#[44]⟩ : ByteArray).size } : PS).pos) = 125 from HC6.out] at he
                subst he
                have HRS7 := Lib.hid hrs
                have HT7 := Lib.hid (HT6.out.then (ht.mono (fun _ _ e => e.elim)))
                clear hrs ht
                go_wp2_with fail
                refine (take_yes br s ⟨#[125]⟩ deep _ _ HRS7.out HTK.out (by decide)).mono ?_
                rintro e w8 ⟨rfl, hrs, ht⟩
                have HRS8 := Lib.hid hrs
                have HT8 := Lib.hid (HT7.out.then ht)
                clear hrs ht
                go_wp2_with fail
                go_ret3
                rw [HR.out]
                exact ⟨rfl, HRS8.out, HT8.out, hlo, by decide, by decide, by omega⟩
              · have HC6 := Lib.hid c6
                rw [if_neg c6] at HR0
                clear c6
                obtain ⟨c, hc⟩ : ∃ c, pk (str s) (j + 1) = c := ⟨_, rfl⟩
                have hcb : ((c : Int) != 125) = true := by have := HC6.out; rw [hc] at this; simp; omega
                have HCC := Lib.hid hc
                clear hc
                cases hn2 : numP (str s) (j + 1) with
                | none =>
                  have HR : Hid (timesP (str s) st.pos = none) := Lib.hid (by rw [HR0, hn2])
                  have HN2 := Lib.hid hn2
                  clear HR0 hn2
                  go_enter Try.func101, Try.ntmps101
                  go_wp2_with fail
                  refine (tk_no (t := ⟨#[42]⟩) HH.out D1.out).mono ?_
                  rintro e w1 ⟨rfl, hrs, ht⟩
                  have HRS1 := Lib.hid hrs
                  have HT1 := Lib.hid (HTT.out.then ht)
                  clear hrs ht
                  go_wp2_with fail
                  refine (tk_no (t := ⟨#[43]⟩) HRS1.out D2.out).mono ?_
                  rintro e w2 ⟨rfl, hrs, ht⟩
                  have HRS2 := Lib.hid hrs
                  have HT2 := Lib.hid (HT1.out.then ht)
                  clear hrs ht
                  go_wp2_with fail
                  refine (tk_no (t := ⟨#[63]⟩) HRS2.out D3.out).mono ?_
                  rintro e w3 ⟨rfl, hrs, ht⟩
                  have HRS3 := Lib.hid hrs
                  have HT3 := Lib.hid (HT2.out.then ht)
                  clear hrs ht
                  go_wp2_with fail
                  refine (take_yes br s ⟨#[123]⟩ deep _ _ HRS3.out HC4.out (by decide)).mono ?_
                  rintro e w4 ⟨rfl, hrs, ht⟩
                  have HRS4 := Lib.hid hrs
                  have HT4 := Lib.hid (HT3.out.then ht)
                  clear hrs ht
                  go_wp2_with fail
                  refine (number_any br s deep _ _ HRS4.out).mono ?_
                  intro e w5 hG
                  rw [show numP (str s) (({ st with pos := st.pos + (⟨#[123]⟩ : ByteArray).size } : PS).pos) = some (lo, j) from HN.out] at hG
                  obtain ⟨rfl, hrs, ht, hlo, hjj⟩ := hG
                  have HRS5 := Lib.hid hrs
                  have HT5 := Lib.hid (HT4.out.then ht)
                  have hjj : st.pos + 1 < j := hjj
                  clear hrs ht
                  go_wp2_with fail
                  refine (take_yes br s ⟨#[44]⟩ deep _ _ HRS5.out HC5.out (by decide)).mono ?_
                  rintro e w6 ⟨rfl, hrs, ht⟩
                  have HRS6 := Lib.hid hrs
                  have HT6 := Lib.hid (HT5.out.then ht)
                  clear hrs ht
                  go_wp2_with fail
                  refine (peek_rs br s deep _ _ HRS6.out).mono ?_
                  rintro e w7 ⟨he, hrs, ht⟩
                  rw [show pk (str s) (({ st with pos := j + (⟨#[44]⟩ : ByteArray).size } : PS).pos) = c from HCC.out] at he
                  subst he
                  have HRS7 := Lib.hid hrs
                  have HT7 := Lib.hid (HT6.out.then (ht.mono (fun _ _ e => e.elim)))
                  clear hrs ht
                  go_wp2_with fail
                  refine (number_any br s deep _ _ HRS7.out).mono ?_
                  intro e w8 hG
                  rw [show numP (str s) (({ st with pos := j + (⟨#[44]⟩ : ByteArray).size } : PS).pos) = none from HN2.out] at hG
                  obtain ⟨rfl, ht⟩ := hG
                  refine ⟨rfl, ?_⟩
                  rw [HR.out]
                  exact ⟨rfl, HT7.out.then ht⟩
                | some p2 =>
                  obtain ⟨hi, k⟩ := p2
                  have HN2 := Lib.hid hn2
                  rw [hn2] at HR0
                  clear hn2
                  simp only at HR0
                  by_cases c7 : tk (str s) k [125] = true
                  · have HC7 := Lib.hid c7
                    by_cases c8 : lo ≤ hi
                    · have HR : Hid (timesP (str s) st.pos = some (some (lo, (hi : Int)), k + 1)) := Lib.hid (by rw [HR0, if_pos ⟨c7, c8⟩])
                      clear HR0 c7
                      have q1 : decide ((hi : Int) < (lo : Int)) = false := by simp; omega
                      have q2 : ((hi : Int) != (-1)) = true := by rw [bne_iff_ne]; omega
                      go_enter Try.func101, Try.ntmps101
                      go_wp2_with fail
                      refine (tk_no (t := ⟨#[42]⟩) HH.out D1.out).mono ?_
                      rintro e w1 ⟨rfl, hrs, ht⟩
                      have HRS1 := Lib.hid hrs
                      have HT1 := Lib.hid (HTT.out.then ht)
                      clear hrs ht
                      go_wp2_with fail
                      refine (tk_no (t := ⟨#[43]⟩) HRS1.out D2.out).mono ?_
                      rintro e w2 ⟨rfl, hrs, ht⟩
                      have HRS2 := Lib.hid hrs
                      have HT2 := Lib.hid (HT1.out.then ht)
                      clear hrs ht
                      go_wp2_with fail
                      refine (tk_no (t := ⟨#[63]⟩) HRS2.out D3.out).mono ?_
                      rintro e w3 ⟨rfl, hrs, ht⟩
                      have HRS3 := Lib.hid hrs
                      have HT3 := Lib.hid (HT2.out.then ht)
                      clear hrs ht
                      go_wp2_with fail
                      refine (take_yes br s ⟨#[123]⟩ deep _ _ HRS3.out HC4.out (by decide)).mono ?_
                      rintro e w4 ⟨rfl, hrs, ht⟩
                      have HRS4 := Lib.hid hrs
                      have HT4 := Lib.hid (HT3.out.then ht)
                      clear hrs ht
                      go_wp2_with fail
                      refine (number_any br s deep _ _ HRS4.out).mono ?_
                      intro e w5 hG
                      rw [show numP (str s) (({ st with pos := st.pos + (⟨#[123]⟩ : ByteArray).size } : PS).pos) = some (lo, j) from HN.out] at hG
                      obtain ⟨rfl, hrs, ht, hlo, hjj⟩ := hG
                      have HRS5 := Lib.hid hrs
                      have HT5 := Lib.hid (HT4.out.then ht)
                      have hjj : st.pos + 1 < j := hjj
                      clear hrs ht
                      go_wp2_with fail
                      refine (take_yes br s ⟨#[44]⟩ deep _ _ HRS5.out HC5.out (by decide)).mono ?_
                      rintro e w6 ⟨rfl, hrs, ht⟩
                      have HRS6 := Lib.hid hrs
                      have HT6 := Lib.hid (HT5.out.then ht)
                      clear hrs ht
                      go_wp2_with fail
                      refine (peek_rs br s deep _ _ HRS6.out).mono ?_
                      rintro e w7 ⟨he, hrs, ht⟩
                      rw [show pk (str s) (({ st with pos := j + (⟨#[44]⟩ : ByteArray).size } : PS).pos) = c from HCC.out] at he
                      subst he
                      have HRS7 := Lib.hid hrs
                      have HT7 := Lib.hid (HT6.out.then (ht.mono (fun _ _ e => e.elim)))
                      clear hrs ht
                      go_wp2_with fail
                      refine (number_any br s deep _ _ HRS7.out).mono ?_
                      intro e w8 hG
                      rw [show numP (str s) (({ st with pos := j + (⟨#[44]⟩ : ByteArray).size } : PS).pos) = some (hi, k) from HN2.out] at hG
                      obtain ⟨rfl, hrs, ht, hhi, hkk⟩ := hG
                      have HRS8 := Lib.hid hrs
                      have HT8 := Lib.hid (HT7.out.then ht)
                      have hkk : j + 1 < k := hkk
                      clear hrs ht
                      go_wp2_with fail
                      refine (take_yes br s ⟨#[125]⟩ deep _ _ HRS8.out HC7.out (by decide)).mono ?_
                      rintro e w9 ⟨rfl, hrs, ht⟩
                      have HRS9 := Lib.hid hrs
                      have HT9 := Lib.hid (HT8.out.then ht)
                      clear hrs ht
                      go_wp2_with fail
                      go_ret3
                      rw [HR.out]
                      exact ⟨rfl, HRS9.out, HT9.out, hlo, by omega, by omega, by omega⟩
                    · have HR : Hid (timesP (str s) st.pos = none) := Lib.hid (by rw [HR0, if_neg (fun h => c8 h.2)])
                      clear HR0 c7
                      have q1 : decide ((hi : Int) < (lo : Int)) = true := by simp; omega
                      have q2 : ((hi : Int) != (-1)) = true := by rw [bne_iff_ne]; omega
                      go_enter Try.func101, Try.ntmps101
                      go_wp2_with fail
                      refine (tk_no (t := ⟨#[42]⟩) HH.out D1.out).mono ?_
                      rintro e w1 ⟨rfl, hrs, ht⟩
                      have HRS1 := Lib.hid hrs
                      have HT1 := Lib.hid (HTT.out.then ht)
                      clear hrs ht
                      go_wp2_with fail
                      refine (tk_no (t := ⟨#[43]⟩) HRS1.out D2.out).mono ?_
                      rintro e w2 ⟨rfl, hrs, ht⟩
                      have HRS2 := Lib.hid hrs
                      have HT2 := Lib.hid (HT1.out.then ht)
                      clear hrs ht
                      go_wp2_with fail
                      refine (tk_no (t := ⟨#[63]⟩) HRS2.out D3.out).mono ?_
                      rintro e w3 ⟨rfl, hrs, ht⟩
                      have HRS3 := Lib.hid hrs
                      have HT3 := Lib.hid (HT2.out.then ht)
                      clear hrs ht
                      go_wp2_with fail
                      refine (take_yes br s ⟨#[123]⟩ deep _ _ HRS3.out HC4.out (by decide)).mono ?_
                      rintro e w4 ⟨rfl, hrs, ht⟩
                      have HRS4 := Lib.hid hrs
                      have HT4 := Lib.hid (HT3.out.then ht)
                      clear hrs ht
                      go_wp2_with fail
                      refine (number_any br s deep _ _ HRS4.out).mono ?_
                      intro e w5 hG
                      rw [show numP (str s) (({ st with pos := st.pos + (⟨#[123]⟩ : ByteArray).size } : PS).pos) = some (lo, j) from HN.out] at hG
                      obtain ⟨rfl, hrs, ht, hlo, hjj⟩ := hG
                      have HRS5 := Lib.hid hrs
                      have HT5 := Lib.hid (HT4.out.then ht)
                      have hjj : st.pos + 1 < j := hjj
                      clear hrs ht
                      go_wp2_with fail
                      refine (take_yes br s ⟨#[44]⟩ deep _ _ HRS5.out HC5.out (by decide)).mono ?_
                      rintro e w6 ⟨rfl, hrs, ht⟩
                      have HRS6 := Lib.hid hrs
                      have HT6 := Lib.hid (HT5.out.then ht)
                      clear hrs ht
                      go_wp2_with fail
                      refine (peek_rs br s deep _ _ HRS6.out).mono ?_
                      rintro e w7 ⟨he, hrs, ht⟩
                      rw [show pk (str s) (({ st with pos := j + (⟨#[44]⟩ : ByteArray).size } : PS).pos) = c from HCC.out] at he
                      subst he
                      have HRS7 := Lib.hid hrs
                      have HT7 := Lib.hid (HT6.out.then (ht.mono (fun _ _ e => e.elim)))
                      clear hrs ht
                      go_wp2_with fail
                      refine (number_any br s deep _ _ HRS7.out).mono ?_
                      intro e w8 hG
                      rw [show numP (str s) (({ st with pos := j + (⟨#[44]⟩ : ByteArray).size } : PS).pos) = some (hi, k) from HN2.out] at hG
                      obtain ⟨rfl, hrs, ht, hhi, hkk⟩ := hG
                      have HRS8 := Lib.hid hrs
                      have HT8 := Lib.hid (HT7.out.then ht)
                      have hkk : j + 1 < k := hkk
                      clear hrs ht
                      go_wp2_with fail
                      refine (take_yes br s ⟨#[125]⟩ deep _ _ HRS8.out HC7.out (by decide)).mono ?_
                      rintro e w9 ⟨rfl, hrs, ht⟩
                      have HRS9 := Lib.hid hrs
                      have HT9 := Lib.hid (HT8.out.then ht)
                      clear hrs ht
                      go_wp2_with fail
                      refine (fail_any _ _).mono ?_
                      rintro e w9 ⟨rfl, rfl⟩
                      refine ⟨rfl, ?_⟩
                      rw [HR.out]
                      exact ⟨rfl, HT9.out⟩
                  · have D7 : Hid (tk (str s) k [125] = false) := Lib.hid (by simpa using c7)
                    have HR : Hid (timesP (str s) st.pos = none) := Lib.hid (by rw [HR0, if_neg (fun h => c7 h.1)])
                    clear HR0 c7
                    go_enter Try.func101, Try.ntmps101
                    go_wp2_with fail
                    refine (tk_no (t := ⟨#[42]⟩) HH.out D1.out).mono ?_
                    rintro e w1 ⟨rfl, hrs, ht⟩
                    have HRS1 := Lib.hid hrs
                    have HT1 := Lib.hid (HTT.out.then ht)
                    clear hrs ht
                    go_wp2_with fail
                    refine (tk_no (t := ⟨#[43]⟩) HRS1.out D2.out).mono ?_
                    rintro e w2 ⟨rfl, hrs, ht⟩
                    have HRS2 := Lib.hid hrs
                    have HT2 := Lib.hid (HT1.out.then ht)
                    clear hrs ht
                    go_wp2_with fail
                    refine (tk_no (t := ⟨#[63]⟩) HRS2.out D3.out).mono ?_
                    rintro e w3 ⟨rfl, hrs, ht⟩
                    have HRS3 := Lib.hid hrs
                    have HT3 := Lib.hid (HT2.out.then ht)
                    clear hrs ht
                    go_wp2_with fail
                    refine (take_yes br s ⟨#[123]⟩ deep _ _ HRS3.out HC4.out (by decide)).mono ?_
                    rintro e w4 ⟨rfl, hrs, ht⟩
                    have HRS4 := Lib.hid hrs
                    have HT4 := Lib.hid (HT3.out.then ht)
                    clear hrs ht
                    go_wp2_with fail
                    refine (number_any br s deep _ _ HRS4.out).mono ?_
                    intro e w5 hG
                    rw [show numP (str s) (({ st with pos := st.pos + (⟨#[123]⟩ : ByteArray).size } : PS).pos) = some (lo, j) from HN.out] at hG
                    obtain ⟨rfl, hrs, ht, hlo, hjj⟩ := hG
                    have HRS5 := Lib.hid hrs
                    have HT5 := Lib.hid (HT4.out.then ht)
                    have hjj : st.pos + 1 < j := hjj
                    clear hrs ht
                    go_wp2_with fail
                    refine (take_yes br s ⟨#[44]⟩ deep _ _ HRS5.out HC5.out (by decide)).mono ?_
                    rintro e w6 ⟨rfl, hrs, ht⟩
                    have HRS6 := Lib.hid hrs
                    have HT6 := Lib.hid (HT5.out.then ht)
                    clear hrs ht
                    go_wp2_with fail
                    refine (peek_rs br s deep _ _ HRS6.out).mono ?_
                    rintro e w7 ⟨he, hrs, ht⟩
                    rw [show pk (str s) (({ st with pos := j + (⟨#[44]⟩ : ByteArray).size } : PS).pos) = c from HCC.out] at he
                    subst he
                    have HRS7 := Lib.hid hrs
                    have HT7 := Lib.hid (HT6.out.then (ht.mono (fun _ _ e => e.elim)))
                    clear hrs ht
                    go_wp2_with fail
                    refine (number_any br s deep _ _ HRS7.out).mono ?_
                    intro e w8 hG
                    rw [show numP (str s) (({ st with pos := j + (⟨#[44]⟩ : ByteArray).size } : PS).pos) = some (hi, k) from HN2.out] at hG
                    obtain ⟨rfl, hrs, ht, hhi, hkk⟩ := hG
                    have HRS8 := Lib.hid hrs
                    have HT8 := Lib.hid (HT7.out.then ht)
                    have hkk : j + 1 < k := hkk
                    clear hrs ht
                    go_wp2_with fail
                    refine (tk_no (t := ⟨#[125]⟩) HRS8.out D7.out).mono ?_
                    rintro e w9 ⟨rfl, hrs, ht⟩
                    have HRS9 := Lib.hid hrs
                    have HT9 := Lib.hid (HT8.out.then ht)
                    clear hrs ht
                    go_wp2_with fail
                    refine (fail_any _ _).mono ?_
                    rintro e w9 ⟨rfl, rfl⟩
                    refine ⟨rfl, ?_⟩
                    rw [HR.out]
                    exact ⟨rfl, HT9.out⟩
            · have D5 : Hid (tk (str s) j [44] = false) := Lib.hid (by simpa using c5)
              rw [if_neg c5] at HR0
              clear c5
              by_cases c7 : tk (str s) j [125] = true
              · have HC7 := Lib.hid c7
                have HR : Hid (timesP (str s) st.pos = some (some (lo, (lo : Int)), j + 1)) := Lib.hid (by rw [HR0, if_pos c7])
                clear HR0 c7
                have q1 : decide ((lo : Int) < (lo : Int)) = false := by simp
                have q2 : ((lo : Int) != (-1)) = true := by rw [bne_iff_ne]; omega
                go_enter Try.func101, Try.ntmps101
                go_wp2_with fail
                refine (tk_no (t := ⟨#[42]⟩) HH.out D1.out).mono ?_
                rintro e w1 ⟨rfl, hrs, ht⟩
                have HRS1 := Lib.hid hrs
                have HT1 := Lib.hid (HTT.out.then ht)
                clear hrs ht
                go_wp2_with fail
                refine (tk_no (t := ⟨#[43]⟩) HRS1.out D2.out).mono ?_
                rintro e w2 ⟨rfl, hrs, ht⟩
                have HRS2 := Lib.hid hrs
                have HT2 := Lib.hid (HT1.out.then ht)
                clear hrs ht
                go_wp2_with fail
                refine (tk_no (t := ⟨#[63]⟩) HRS2.out D3.out).mono ?_
                rintro e w3 ⟨rfl, hrs, ht⟩
                have HRS3 := Lib.hid hrs
                have HT3 := Lib.hid (HT2.out.then ht)
                clear hrs ht
                go_wp2_with fail
                refine (take_yes br s ⟨#[123]⟩ deep _ _ HRS3.out HC4.out (by decide)).mono ?_
                rintro e w4 ⟨rfl, hrs, ht⟩
                have HRS4 := Lib.hid hrs
                have HT4 := Lib.hid (HT3.out.then ht)
                clear hrs ht
                go_wp2_with fail
                refine (number_any br s deep _ _ HRS4.out).mono ?_
                intro e w5 hG
                rw [show numP (str s) (({ st with pos := st.pos + (⟨#[123]⟩ : ByteArray).size } : PS).pos) = some (lo, j) from HN.out] at hG
                obtain ⟨rfl, hrs, ht, hlo, hjj⟩ := hG
                have HRS5 := Lib.hid hrs
                have HT5 := Lib.hid (HT4.out.then ht)
                have hjj : st.pos + 1 < j := hjj
                clear hrs ht
                go_wp2_with fail
                refine (tk_no (t := ⟨#[44]⟩) HRS5.out D5.out).mono ?_
                rintro e w6 ⟨rfl, hrs, ht⟩
                have HRS6 := Lib.hid hrs
                have HT6 := Lib.hid (HT5.out.then ht)
                clear hrs ht
                go_wp2_with fail
                refine (take_yes br s ⟨#[125]⟩ deep _ _ HRS6.out HC7.out (by decide)).mono ?_
                rintro e w9 ⟨rfl, hrs, ht⟩
                have HRS9 := Lib.hid hrs
                have HT9 := Lib.hid (HT6.out.then ht)
                clear hrs ht
                go_wp2_with fail
                go_ret3
                rw [HR.out]
                exact ⟨rfl, HRS9.out, HT9.out, hlo, by omega, by omega, by omega⟩
              · have D7 : Hid (tk (str s) j [125] = false) := Lib.hid (by simpa using c7)
                have HR : Hid (timesP (str s) st.pos = none) := Lib.hid (by rw [HR0, if_neg c7])
                clear HR0 c7
                go_enter Try.func101, Try.ntmps101
                go_wp2_with fail
                refine (tk_no (t := ⟨#[42]⟩) HH.out D1.out).mono ?_
                rintro e w1 ⟨rfl, hrs, ht⟩
                have HRS1 := Lib.hid hrs
                have HT1 := Lib.hid (HTT.out.then ht)
                clear hrs ht
                go_wp2_with fail
                refine (tk_no (t := ⟨#[43]⟩) HRS1.out D2.out).mono ?_
                rintro e w2 ⟨rfl, hrs, ht⟩
                have HRS2 := Lib.hid hrs
                have HT2 := Lib.hid (HT1.out.then ht)
                clear hrs ht
                go_wp2_with fail
                refine (tk_no (t := ⟨#[63]⟩) HRS2.out D3.out).mono ?_
                rintro e w3 ⟨rfl, hrs, ht⟩
                have HRS3 := Lib.hid hrs
                have HT3 := Lib.hid (HT2.out.then ht)
                clear hrs ht
                go_wp2_with fail
                refine (take_yes br s ⟨#[123]⟩ deep _ _ HRS3.out HC4.out (by decide)).mono ?_
                rintro e w4 ⟨rfl, hrs, ht⟩
                have HRS4 := Lib.hid hrs
                have HT4 := Lib.hid (HT3.out.then ht)
                clear hrs ht
                go_wp2_with fail
                refine (number_any br s deep _ _ HRS4.out).mono ?_
                intro e w5 hG
                rw [show numP (str s) (({ st with pos := st.pos + (⟨#[123]⟩ : ByteArray).size } : PS).pos) = some (lo, j) from HN.out] at hG
                obtain ⟨rfl, hrs, ht, hlo, hjj⟩ := hG
                have HRS5 := Lib.hid hrs
                have HT5 := Lib.hid (HT4.out.then ht)
                have hjj : st.pos + 1 < j := hjj
                clear hrs ht
                go_wp2_with fail
                refine (tk_no (t := ⟨#[44]⟩) HRS5.out D5.out).mono ?_
                rintro e w6 ⟨rfl, hrs, ht⟩
                have HRS6 := Lib.hid hrs
                have HT6 := Lib.hid (HT5.out.then ht)
                clear hrs ht
                go_wp2_with fail
                refine (tk_no (t := ⟨#[125]⟩) HRS6.out D7.out).mono ?_
                rintro e w9 ⟨rfl, hrs, ht⟩
                have HRS9 := Lib.hid hrs
                have HT9 := Lib.hid (HT6.out.then ht)
                clear hrs ht
                go_wp2_with fail
                refine (fail_any _ _).mono ?_
                rintro e w9 ⟨rfl, rfl⟩
                refine ⟨rfl, ?_⟩
                rw [HR.out]
                exact ⟨rfl, HT9.out⟩
        · have D4 : Hid (tk (str s) st.pos [123] = false) := Lib.hid (by simpa using c4)
          have HR : Hid (timesP (str s) st.pos = some (none, st.pos)) := Lib.hid (by unfold timesP; rw [if_neg (by rw [D1.out]; decide), if_neg (by rw [D2.out]; decide), if_neg (by rw [D3.out]; decide), if_neg (by rw [D4.out]; decide)])
          clear c4
          go_enter Try.func101, Try.ntmps101
          go_wp2_with fail
          refine (tk_no (t := ⟨#[42]⟩) HH.out D1.out).mono ?_
          rintro e w1 ⟨rfl, hrs, ht⟩
          have HRS1 := Lib.hid hrs
          have HT1 := Lib.hid (HTT.out.then ht)
          clear hrs ht
          go_wp2_with fail
          refine (tk_no (t := ⟨#[43]⟩) HRS1.out D2.out).mono ?_
          rintro e w2 ⟨rfl, hrs, ht⟩
          have HRS2 := Lib.hid hrs
          have HT2 := Lib.hid (HT1.out.then ht)
          clear hrs ht
          go_wp2_with fail
          refine (tk_no (t := ⟨#[63]⟩) HRS2.out D3.out).mono ?_
          rintro e w3 ⟨rfl, hrs, ht⟩
          have HRS3 := Lib.hid hrs
          have HT3 := Lib.hid (HT2.out.then ht)
          clear hrs ht
          go_wp2_with fail
          refine (tk_no (t := ⟨#[123]⟩) HRS3.out D4.out).mono ?_
          rintro e w9 ⟨rfl, hrs, ht⟩
          have HRS9 := Lib.hid hrs
          have HT9 := Lib.hid (HT3.out.then ht)
          clear hrs ht
          go_wp2_with fail
          go_ret3
          rw [HR.out]
          exact ⟨rfl, HRS9.out, HT9.out⟩

/-- What comes back of an escape of one byte. -/
def PlainPost (w : World) : Option Nat → Ending → World → Prop
  | none, e, w' => e = bad ∧ Still w w'
  | some b, e, w' => e = .returned (.int .u8 (b : Int)) ∧ Still w w'
theorem ib_contains (l : List UInt8) (c : UInt8) : decide (0 ≤ Lib.indexByte l c) = (l.map (·.toNat)).contains c.toNat := by
  induction l with
  | nil => rfl
  | cons b l ih =>
    unfold Lib.indexByte
    rw [List.map_cons, List.contains_cons, ← ih]
    by_cases h : b = c
    · subst h; simp
    · have h1 : (b == c) = false := by simpa using h
      have h2 : (c.toNat == b.toNat) = false := by
        rw [beq_eq_false_iff_ne]; intro e; exact h (UInt8.toNat_inj.1 e).symm
      rw [h1, h2]
      simp only [Bool.false_eq_true, if_false, Bool.false_or]
      have hge : -1 ≤ Lib.indexByte l c := by
        clear ih
        induction l with
        | nil => exact Int.le_refl _
        | cons b l ih => unfold Lib.indexByte; split; (· omega); split <;> (try omega)
      by_cases h3 : Lib.indexByte l c = -1
      · rw [h3]; rfl
      · have h4 : (Lib.indexByte l c == -1) = false := by simpa using h3
        rw [h4]
        simp only [Bool.false_eq_true, if_false]
        exact decide_eq_decide.2 (by omega)

set_option maxRecDepth 100000 in
set_option maxHeartbeats 1000000 in
theorem plain_any (v : Addr) (c : Nat) (hc : c < 256) (w : World) :
    Calls Try.prog 120 #[.pointer (some v), .int .u8 (c : Int)] w (PlainPost w (plainP c)) := by
  have HIB := Lib.hid (fun w => Try.strings_IndexByte ⟨#[92, 94, 36, 46, 124, 63, 42, 43, 40, 41, 91, 93, 123, 125, 45]⟩ (c : Int) w)
  have hu : ((c : Int).toNat.toUInt8).toNat = c := by simp; omega
  have hib := ib_contains [92, 94, 36, 46, 124, 63, 42, 43, 40, 41, 91, 93, 123, 125, 45] ((c : Int).toNat.toUInt8)
  rw [hu, show ([92, 94, 36, 46, 124, 63, 42, 43, 40, 41, 91, 93, 123, 125, 45] : List UInt8).map (·.toNat) = specials from rfl] at hib
  obtain ⟨x, hx⟩ : ∃ x, Lib.indexByte (⟨#[92, 94, 36, 46, 124, 63, 42, 43, 40, 41, 91, 93, 123, 125, 45]⟩ : ByteArray).data.toList ((c : Int).toNat.toUInt8) = x := ⟨_, rfl⟩
  rw [hx] at HIB
  rw [show Lib.indexByte [92, 94, 36, 46, 124, 63, 42, 43, 40, 41, 91, 93, 123, 125, 45] ((c : Int).toNat.toUInt8) = x from hx] at hib
  clear hx hu
  by_cases h1 : c = 110
  · subst h1
    go_enter Try.func120, Try.ntmps120
    go_wp2_with fail
    go_ret
    exact ⟨rfl, Touch.refl _ _⟩
  · by_cases h2 : c = 116
    · subst h2
      go_enter Try.func120, Try.ntmps120
      go_wp2_with fail
      go_ret
      exact ⟨rfl, Touch.refl _ _⟩
    · have q1 : ((c : Int) == 110) = false := by simp; omega
      have q2 : ((c : Int) == 116) = false := by simp; omega
      by_cases h0 : c = 0
      · subst h0
        go_enter Try.func120, Try.ntmps120
        go_wp2_with fail
        refine (fail_any _ _).mono ?_
        rintro e w9 ⟨rfl, rfl⟩
        exact ⟨rfl, rfl, Touch.refl _ _⟩
      · have q0 : ((c : Int) != 0) = true := by rw [bne_iff_ne]; omega
        cases hs : specials.contains c with
        | true =>
          have HR : Hid (plainP c = some c) := Lib.hid (by unfold plainP; rw [if_neg h1, if_neg h2, if_pos hs])
          rw [hs] at hib
          clear h0 h1 h2 hs
          go_enter Try.func120, Try.ntmps120
          go_wp2_with fail
          refine (HIB.out _).mono ?_
          rintro e w9 ⟨rfl, rfl⟩
          go_wp2_with fail
          go_ret
          rw [HR.out]
          exact ⟨rfl, Touch.refl _ _⟩
        | false =>
          have HR : Hid (plainP c = none) := Lib.hid (by unfold plainP; rw [if_neg h1, if_neg h2, if_neg (by rw [hs]; decide)])
          rw [hs] at hib
          clear h0 h1 h2 hs
          go_enter Try.func120, Try.ntmps120
          go_wp2_with fail
          refine (HIB.out _).mono ?_
          rintro e w9 ⟨rfl, rfl⟩
          go_wp2_with fail
          refine (fail_any _ _).mono ?_
          rintro e w9 ⟨rfl, rfl⟩
          refine ⟨rfl, ?_⟩
          rw [HR.out]
          exact ⟨rfl, Touch.refl _ _⟩
end Go.Proofs.Ytlgpilcjcomacaa
