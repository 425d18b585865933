/-
  The document's braces, repeated. (Printed by wip/tools/rrep07.py.)
-/
import Derived.Test.YtlgpilcjcomacaaRi
namespace Go.Proofs.Ytlgpilcjcomacaa
open Go.RowKit Rx
set_option linter.unusedVariables false

/-- A repeat in braces, behind the brace. -/
def bracesP (s : List UInt8) (i : Nat) : Option (Nat × Int × Nat) :=
  match numP s i with
  | none => none
  | some (lo, j) =>
    if tk s j [44] = true then
      if pk s (j + 1) = 125 then some (lo, -1, j + 2)
      else match numP s (j + 1) with
        | none => none
        | some (hi, k) => if tk s k [125] = true ∧ lo ≤ hi then some (lo, (hi : Int), k + 1) else none
    else if tk s j [125] = true then some (lo, (lo : Int), j + 1) else none
theorem times_braces (s : List UInt8) (i : Nat) (h1 : tk s i [42] = false) (h2 : tk s i [43] = false) (h3 : tk s i [63] = false) (h4 : tk s i [123] = true) : timesP s i = (bracesP s (i + 1)).map (fun x => (some (x.1, x.2.1), x.2.2)) := by
  unfold timesP bracesP
  rw [if_neg (by rw [h1]; decide), if_neg (by rw [h2]; decide), if_neg (by rw [h3]; decide), if_pos h4]
  cases numP s (i + 1) with
  | none => rfl
  | some x =>
    obtain ⟨lo, j⟩ := x
    simp only
    by_cases h5 : tk s j [44] = true
    · rw [if_pos h5, if_pos h5]
      by_cases h6 : pk s (j + 1) = 125
      · rw [if_pos h6, if_pos h6]; rfl
      · rw [if_neg h6, if_neg h6]
        cases numP s (j + 1) with
        | none => rfl
        | some y =>
          obtain ⟨hi, k⟩ := y
          simp only
          by_cases h7 : tk s k [125] = true ∧ lo ≤ hi
          · rw [if_pos h7, if_pos h7]; rfl
          · rw [if_neg h7, if_neg h7]; rfl
    · rw [if_neg h5, if_neg h5]
      by_cases h6 : tk s j [125] = true
      · rw [if_pos h6, if_pos h6]; rfl
      · rw [if_neg h6, if_neg h6]; rfl

theorem num_ok {s : List UInt8} {i n j : Nat} (h : numP s i = some (n, j)) : cntOk s i (digs4 s 4 i 0) = true ∧ digs4 s 4 i 0 = (n, j) ∧ n ≤ 100 := by
  rw [num_four] at h
  generalize digs4 s 4 i 0 = r at h ⊢
  by_cases hc : cntOk s i r = true
  · rw [if_pos hc] at h
    have hr := Option.some.inj h
    refine ⟨hc, hr, ?_⟩
    rw [hr] at hc
    unfold cntOk at hc
    simp at hc
    omega
  · rw [if_neg hc] at h
    cases h
theorem num_no {s : List UInt8} {i : Nat} (h : numP s i = none) : cntOk s i (digs4 s 4 i 0) = false := by
  rw [num_four] at h
  split at h
  · cases h
  · rename_i hc; simpa using hc

/-- What comes back of a repeat in braces. -/
def BracesD (br : Nat) (s : ByteArray) (deep : Nat) (st : PS) (w : World) : Option (Nat × Int × Nat) → Ending → World → Prop
  | none, e, w' => ∃ lo hi : Int, e = .returned (.tuple #[.int .i64 lo, .int .i64 hi]) ∧ RX br s w' ∧ Touch (fun b => b = br) w w'
  | some (lo, hi, k), e, w' => e = .returned (.tuple #[.int .i64 (lo : Int), .int .i64 hi]) ∧ RR br s deep { st with pos := k } w' ∧ lo ≤ 100 ∧ (hi = -1 ∨ ((lo : Int) ≤ hi ∧ hi ≤ 100)) ∧ Touch (fun b => b = br) w w'

set_option maxRecDepth 100000 in
set_option maxHeartbeats 4000000 in
theorem rbraces_any (br : Nat) (s : ByteArray) (deep : Nat) (st : PS) (w : World) (h : RR br s deep st w) :
    Calls Try.prog 108 #[.pointer (some ⟨br, 0, none⟩)] w (BracesD br s deep st w (bracesP (str s) st.pos)) := by
  have HC0 := Lib.hid (rcount_any br s deep st w h)
  have HBP : Hid (bracesP (str s) st.pos = match numP (str s) st.pos with
    | none => none
    | some (lo, j) =>
      if tk (str s) j [44] = true then
        if pk (str s) (j + 1) = 125 then some (lo, -1, j + 2)
        else match numP (str s) (j + 1) with
          | none => none
          | some (hi, k) => if tk (str s) k [125] = true ∧ lo ≤ hi then some (lo, (hi : Int), k + 1) else none
      else if tk (str s) j [125] = true then some (lo, (lo : Int), j + 1) else none) := Lib.hid rfl
  clear h
  cases hn : numP (str s) st.pos with
  | none =>
    have HR : Hid (bracesP (str s) st.pos = none) := Lib.hid (by rw [HBP.out, hn])
    rw [num_no hn] at HC0
    generalize digs4 (str s) 4 st.pos 0 = r at HC0
    clear HBP hn
    go_enter Try.func108, Try.ntmps108
    go_wp2_with fail
    refine HC0.out.mono ?_
    rintro e w1 ⟨rfl, hrs, ht⟩
    have HRS1 := Lib.hid hrs
    have HT1 := Lib.hid ht
    have hc5 := hrs.c5
    obtain ⟨hc5, hc5f⟩ := hc5
    clear hrs ht
    go_wp2_with fail
    go_ret2
    rw [HR.out]
    exact ⟨_, _, rfl, HRS1.out.bad, Touch.setCell HT1.out (.inl rfl) _⟩
  | some x =>
    obtain ⟨lo, j⟩ := x
    obtain ⟨hok, hdg, hlo⟩ := num_ok hn
    rw [hok, hdg] at HC0
    have HB1 : Hid (bracesP (str s) st.pos = if tk (str s) j [44] = true then
        if pk (str s) (j + 1) = 125 then some (lo, -1, j + 2)
        else match numP (str s) (j + 1) with
          | none => none
          | some (hi, k) => if tk (str s) k [125] = true ∧ lo ≤ hi then some (lo, (hi : Int), k + 1) else none
      else if tk (str s) j [125] = true then some (lo, (lo : Int), j + 1) else none) := Lib.hid (by rw [HBP.out, hn])
    clear HBP hn hok hdg
    go_enter Try.func108, Try.ntmps108
    go_wp2_with fail
    refine HC0.out.mono ?_
    rintro e w1 ⟨rfl, hrs, ht⟩
    have HRS1 := Lib.hid hrs
    have HT1 := Lib.hid ht
    clear hrs ht
    have HNC := Lib.hid (fun b hb => rnext_rr (t := ⟨#[44]⟩) HRS1.out b hb (by decide))
    simp only at HNC
    cases h44 : tk (str s) j [44] with
    | true =>
      have HNC2 := Lib.hid (HNC.out true h44)
      rw [h44] at HB1
      clear HNC h44
      go_wp2_with fail
      refine HNC2.out.mono ?_
      rintro e w2 ⟨rfl, hrs, ht⟩
      have HRS2 : Hid (RR br s deep { st with pos := j + 1 } w2) := Lib.hid hrs
      have HT2 := Lib.hid (HT1.out.then ht)
      clear hrs ht
      have HPK := Lib.hid (rpeek_rr HRS2.out)
      simp only at HPK
      obtain ⟨c, hc⟩ : ∃ c, pk (str s) (j + 1) = c := ⟨_, rfl⟩
      have hc256 := pk_256 s (j + 1)
      rw [hc] at hc256 HPK HB1
      have HPC := Lib.hid hc
      clear hc
      by_cases h125 : c = 125
      · have q125 : ((c : Int) != 125) = false := by rw [h125]; rfl
        have HR : Hid (bracesP (str s) st.pos = some (lo, -1, j + 2)) := Lib.hid (by rw [HB1.out, if_pos trivial, if_pos h125])
        have hlt : j + 1 < s.size := by
          rcases Nat.lt_or_ge (j + 1) s.size with h | h
          · exact h
          · exfalso; have h2 := HPC.out; rw [pk_ge h] at h2; omega
        have htk : tk (str s) (j + 1) [125] = true := by rw [tk_one _ _ _ (by rw [str_len]; exact hlt), HPC.out]; exact decide_eq_true h125
        have HTK := Lib.hid htk
        clear htk h125 HB1
        go_wp2_with fail
        refine HPK.out.mono ?_
        rintro e w3 ⟨rfl, q, hq⟩
        have HRS3 := Lib.hid (HRS2.out.drewN q)
        have HT3 := Lib.hid (HT2.out.drewN q)
        rw [← hq] at HRS3 HT3
        clear hq
        have HN3 := Lib.hid (rnext_rr (t := ⟨#[125]⟩) HRS3.out true HTK.out (by decide))
        go_wp2_with fail
        refine HN3.out.mono ?_
        rintro e w4 ⟨rfl, hrs, ht⟩
        have HRS4 : Hid (RR br s deep { st with pos := j + 2 } w4) := Lib.hid hrs
        have HT4 := Lib.hid (HT3.out.then ht)
        clear hrs ht
        go_wp2_with fail
        go_ret2
        rw [HR.out]
        exact ⟨rfl, HRS4.out, hlo, .inl rfl, HT4.out⟩
      · have q125 : ((c : Int) != 125) = true := by rw [bne_iff_ne]; omega
        have HB2 : Hid (bracesP (str s) st.pos = match numP (str s) (j + 1) with
          | none => none
          | some (hi, k) => if tk (str s) k [125] = true ∧ lo ≤ hi then some (lo, (hi : Int), k + 1) else none) := Lib.hid (by rw [HB1.out, if_pos trivial, if_neg h125])
        clear h125 HB1
        have HCC := Lib.hid (fun w3 (h : RR br s deep { st with pos := j + 1 } w3) => rcount_any br s deep { st with pos := j + 1 } w3 h)
        simp only at HCC
        cases hn2 : numP (str s) (j + 1) with
        | none =>
          have HR : Hid (bracesP (str s) st.pos = none) := Lib.hid (by rw [HB2.out, hn2])
          rw [num_no hn2] at HCC
          generalize digs4 (str s) 4 (j + 1) 0 = r at HCC
          clear HB2 hn2
          go_wp2_with fail
          refine HPK.out.mono ?_
          rintro e w3 ⟨rfl, q, hq⟩
          have HRS3 := Lib.hid (HRS2.out.drewN q)
          have HT3 := Lib.hid (HT2.out.drewN q)
          rw [← hq] at HRS3 HT3
          clear hq
          go_wp2_with fail
          refine (HCC.out w3 HRS3.out).mono ?_
          rintro e w4 ⟨rfl, hrs, ht⟩
          have HRS4 := Lib.hid hrs
          have HT4 := Lib.hid (HT3.out.then ht)
          have hc5 := hrs.c5
          obtain ⟨hc5, hc5f⟩ := hc5
          clear hrs ht
          go_wp2_with fail
          go_ret2
          rw [HR.out]
          exact ⟨_, _, rfl, HRS4.out.bad, Touch.setCell HT4.out (.inl rfl) _⟩
        | some y =>
          obtain ⟨hi, k⟩ := y
          obtain ⟨hok, hdg, hhi⟩ := num_ok hn2
          rw [hok, hdg] at HCC
          have HB3 : Hid (bracesP (str s) st.pos = if tk (str s) k [125] = true ∧ lo ≤ hi then some (lo, (hi : Int), k + 1) else none) := Lib.hid (by rw [HB2.out, hn2])
          clear HB2 hn2 hok hdg
          go_wp2_with fail
          refine HPK.out.mono ?_
          rintro e w3 ⟨rfl, q, hq⟩
          have HRS3 := Lib.hid (HRS2.out.drewN q)
          have HT3 := Lib.hid (HT2.out.drewN q)
          rw [← hq] at HRS3 HT3
          clear hq
          go_wp2_with fail
          refine (HCC.out w3 HRS3.out).mono ?_
          rintro e w4 ⟨rfl, hrs, ht⟩
          have HRS4 : Hid (RR br s deep { st with pos := k } w4) := Lib.hid hrs
          have HT4 := Lib.hid (HT3.out.then ht)
          have hc5 := hrs.c5
          obtain ⟨hc5, hc5f⟩ := hc5
          clear hrs ht
          have HNN := Lib.hid (fun b hb => rnext_rr (t := ⟨#[125]⟩) HRS4.out b hb (by decide))
          simp only at HNN
          by_cases hle : lo ≤ hi
          · have ql : decide ((lo : Int) ≤ (hi : Int)) = true := decide_eq_true (by omega)
            have qln : decide (lo ≤ hi) = true := decide_eq_true hle
            cases h125 : tk (str s) k [125] with
            | true =>
              have HR : Hid (bracesP (str s) st.pos = some (lo, (hi : Int), k + 1)) := Lib.hid (by rw [HB3.out, if_pos ⟨h125, hle⟩])
              have HNN2 := Lib.hid (HNN.out true h125)
              clear HNN HB3 h125
              go_wp2_with fail
              refine HNN2.out.mono ?_
              rintro e w5 ⟨rfl, hrs, ht⟩
              have HRS5 : Hid (RR br s deep { st with pos := k + 1 } w5) := Lib.hid hrs
              have HT5 := Lib.hid (HT4.out.then ht)
              clear hrs ht
              go_wp2_with fail
              go_ret2
              rw [HR.out]
              exact ⟨rfl, HRS5.out, hlo, .inr ⟨by omega, by omega⟩, HT5.out⟩
            | false =>
              have HR : Hid (bracesP (str s) st.pos = none) := Lib.hid (by rw [HB3.out, if_neg (by rw [h125]; intro h; exact absurd h.1 (by decide))])
              have HNN2 := Lib.hid (HNN.out false h125)
              clear HNN HB3 h125
              go_wp2_with fail
              refine HNN2.out.mono ?_
              rintro e w5 ⟨rfl, hrs, ht⟩
              have HRS5 := Lib.hid hrs
              have HT5 := Lib.hid (HT4.out.then ht)
              have hc5 := hrs.c5
              obtain ⟨hc5, hc5f⟩ := hc5
              clear hrs ht
              go_wp2_with fail
              go_ret2
              rw [HR.out]
              exact ⟨_, _, rfl, HRS5.out.bad, Touch.setCell HT5.out (.inl rfl) _⟩
          · have ql : decide ((lo : Int) ≤ (hi : Int)) = false := decide_eq_false (by omega)
            have qln : decide (lo ≤ hi) = false := decide_eq_false hle
            have HR : Hid (bracesP (str s) st.pos = none) := Lib.hid (by rw [HB3.out, if_neg (fun h => hle h.2)])
            clear HNN HB3
            go_wp2_with fail
            go_ret2
            rw [HR.out]
            exact ⟨_, _, rfl, HRS4.out.bad, Touch.setCell HT4.out (.inl rfl) _⟩
    | false =>
      have HNC2 := Lib.hid (HNC.out false h44)
      have HB2 : Hid (bracesP (str s) st.pos = if tk (str s) j [125] = true then some (lo, (lo : Int), j + 1) else none) := Lib.hid (by rw [HB1.out, h44]; rfl)
      clear HNC h44 HB1
      go_wp2_with fail
      refine HNC2.out.mono ?_
      rintro e w2 ⟨rfl, hrs, ht⟩
      have HRS2 : Hid (RR br s deep { st with pos := j } w2) := Lib.hid hrs
      have HT2 := Lib.hid (HT1.out.then ht)
      clear hrs ht
      have HNN := Lib.hid (fun b hb => rnext_rr (t := ⟨#[125]⟩) HRS2.out b hb (by decide))
      simp only at HNN
      cases h125 : tk (str s) j [125] with
      | true =>
        have HR : Hid (bracesP (str s) st.pos = some (lo, (lo : Int), j + 1)) := Lib.hid (by rw [HB2.out, if_pos h125])
        have HNN2 := Lib.hid (HNN.out true h125)
        clear HNN HB2 h125
        go_wp2_with fail
        refine HNN2.out.mono ?_
        rintro e w5 ⟨rfl, hrs, ht⟩
        have HRS5 : Hid (RR br s deep { st with pos := j + 1 } w5) := Lib.hid hrs
        have HT5 := Lib.hid (HT2.out.then ht)
        clear hrs ht
        go_wp2_with fail
        go_ret2
        rw [HR.out]
        exact ⟨rfl, HRS5.out, hlo, .inr ⟨by omega, by omega⟩, HT5.out⟩
      | false =>
        have HR : Hid (bracesP (str s) st.pos = none) := Lib.hid (by rw [HB2.out, if_neg (by rw [h125]; decide)])
        have HNN2 := Lib.hid (HNN.out false h125)
        clear HNN HB2 h125
        go_wp2_with fail
        refine HNN2.out.mono ?_
        rintro e w5 ⟨rfl, hrs, ht⟩
        have HRS5 := Lib.hid hrs
        have HT5 := Lib.hid (HT2.out.then ht)
        have hc5 := hrs.c5
        obtain ⟨hc5, hc5f⟩ := hc5
        clear hrs ht
        go_wp2_with fail
        go_ret2
        rw [HR.out]
        exact ⟨_, _, rfl, HRS5.out.bad, Touch.setCell HT5.out (.inl rfl) _⟩
end Go.Proofs.Ytlgpilcjcomacaa
