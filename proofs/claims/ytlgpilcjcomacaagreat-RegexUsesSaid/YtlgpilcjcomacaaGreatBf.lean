/-
  Texts Rj, Rk in one.
-/
import Derived.Test.YtlgpilcjcomacaaGreatBe
/-
  The document's braces, repeated. (Printed by wip/tools/rrep07.py.)
-/
namespace Go.Proofs.YtlgpilcjcomacaaGreat
open Go.RowKit Rx
set_option linter.unusedVariables false

/-- A repeat in braces, behind the brace. -/
def bracesP (s : List UInt8) (i : Nat) : Option (Nat × Int × Nat) :=
  match numP s i with
  | none => none
  | some (lo, j) =>
    if tk s j [44] = true then
      if pk s (j + 1) = 125 then some (lo, -1, j + 2)
      else match numP s (j + 1) with
        | none => none
        | some (hi, k) => if tk s k [125] = true ∧ lo ≤ hi then some (lo, (hi : Int), k + 1) else none
    else if tk s j [125] = true then some (lo, (lo : Int), j + 1) else none
theorem times_braces (s : List UInt8) (i : Nat) (h1 : tk s i [42] = false) (h2 : tk s i [43] = false) (h3 : tk s i [63] = false) (h4 : tk s i [123] = true) : timesP s i = (bracesP s (i + 1)).map (fun x => (some (x.1, x.2.1), x.2.2)) := by
  unfold timesP bracesP
  rw [if_neg (by rw [h1]; decide), if_neg (by rw [h2]; decide), if_neg (by rw [h3]; decide), if_pos h4]
  cases numP s (i + 1) with
  | none => rfl
  | some x =>
    obtain ⟨lo, j⟩ := x
    simp only
    by_cases h5 : tk s j [44] = true
    · rw [if_pos h5, if_pos h5]
      by_cases h6 : pk s (j + 1) = 125
      · rw [if_pos h6, if_pos h6]; rfl
      · rw [if_neg h6, if_neg h6]
        cases numP s (j + 1) with
        | none => rfl
        | some y =>
          obtain ⟨hi, k⟩ := y
          simp only
          by_cases h7 : tk s k [125] = true ∧ lo ≤ hi
          · rw [if_pos h7, if_pos h7]; rfl
          · rw [if_neg h7, if_neg h7]; rfl
    · rw [if_neg h5, if_neg h5]
      by_cases h6 : tk s j [125] = true
      · rw [if_pos h6, if_pos h6]; rfl
      · rw [if_neg h6, if_neg h6]; rfl

theorem num_ok {s : List UInt8} {i n j : Nat} (h : numP s i = some (n, j)) : cntOk s i (digs4 s 4 i 0) = true ∧ digs4 s 4 i 0 = (n, j) ∧ n ≤ 100 := by
  rw [num_four] at h
  generalize digs4 s 4 i 0 = r at h ⊢
  by_cases hc : cntOk s i r = true
  · rw [if_pos hc] at h
    have hr := Option.some.inj h
    refine ⟨hc, hr, ?_⟩
    rw [hr] at hc
    unfold cntOk at hc
    simp at hc
    omega
  · rw [if_neg hc] at h
    cases h
theorem num_no {s : List UInt8} {i : Nat} (h : numP s i = none) : cntOk s i (digs4 s 4 i 0) = false := by
  rw [num_four] at h
  split at h
  · cases h
  · rename_i hc; simpa using hc

/-- What comes back of a repeat in braces. -/
def BracesD (br : Nat) (s : ByteArray) (deep : Nat) (st : PS) (w : World) : Option (Nat × Int × Nat) → Ending → World → Prop
  | none, e, w' => ∃ lo hi : Int, e = .returned (.tuple #[.int .i64 lo, .int .i64 hi]) ∧ RX br s w' ∧ Touch (fun b => b = br) w w'
  | some (lo, hi, k), e, w' => e = .returned (.tuple #[.int .i64 (lo : Int), .int .i64 hi]) ∧ RR br s deep { st with pos := k } w' ∧ lo ≤ 100 ∧ (hi = -1 ∨ ((lo : Int) ≤ hi ∧ hi ≤ 100)) ∧ Touch (fun b => b = br) w w'

set_option maxRecDepth 100000 in
set_option maxHeartbeats 4000000 in
theorem rbraces_any (br : Nat) (s : ByteArray) (deep : Nat) (st : PS) (w : World) (h : RR br s deep st w) :
    Calls Tryz.prog 104 #[.pointer (some ⟨br, 0, none⟩)] w (BracesD br s deep st w (bracesP (str s) st.pos)) := by
  have HC0 := Lib.hid (rcount_any br s deep st w h)
  have HBP : Hid (bracesP (str s) st.pos = match numP (str s) st.pos with
    | none => none
    | some (lo, j) =>
      if tk (str s) j [44] = true then
        if pk (str s) (j + 1) = 125 then some (lo, -1, j + 2)
        else match numP (str s) (j + 1) with
          | none => none
          | some (hi, k) => if tk (str s) k [125] = true ∧ lo ≤ hi then some (lo, (hi : Int), k + 1) else none
      else if tk (str s) j [125] = true then some (lo, (lo : Int), j + 1) else none) := Lib.hid rfl
  clear h
  cases hn : numP (str s) st.pos with
  | none =>
    have HR : Hid (bracesP (str s) st.pos = none) := Lib.hid (by rw [HBP.out, hn])
    rw [num_no hn] at HC0
    generalize digs4 (str s) 4 st.pos 0 = r at HC0
    clear HBP hn
    go_enter Tryz.func104, Tryz.ntmps104
    go_wp2_with fail
    refine HC0.out.mono ?_
    rintro e w1 ⟨rfl, hrs, ht⟩
    have HRS1 := Lib.hid hrs
    have HT1 := Lib.hid ht
    have hc5 := hrs.c5
    obtain ⟨hc5, hc5f⟩ := hc5
    clear hrs ht
    go_wp2_with fail
    go_ret2
    rw [HR.out]
    exact ⟨_, _, rfl, HRS1.out.bad, Touch.setCell HT1.out (.inl rfl) _⟩
  | some x =>
    obtain ⟨lo, j⟩ := x
    obtain ⟨hok, hdg, hlo⟩ := num_ok hn
    rw [hok, hdg] at HC0
    have HB1 : Hid (bracesP (str s) st.pos = if tk (str s) j [44] = true then
        if pk (str s) (j + 1) = 125 then some (lo, -1, j + 2)
        else match numP (str s) (j + 1) with
          | none => none
          | some (hi, k) => if tk (str s) k [125] = true ∧ lo ≤ hi then some (lo, (hi : Int), k + 1) else none
      else if tk (str s) j [125] = true then some (lo, (lo : Int), j + 1) else none) := Lib.hid (by rw [HBP.out, hn])
    clear HBP hn hok hdg
    go_enter Tryz.func104, Tryz.ntmps104
    go_wp2_with fail
    refine HC0.out.mono ?_
    rintro e w1 ⟨rfl, hrs, ht⟩
    have HRS1 := Lib.hid hrs
    have HT1 := Lib.hid ht
    clear hrs ht
    have HNC := Lib.hid (fun b hb => rnext_rr (t := ⟨#[44]⟩) HRS1.out b hb (by decide))
    simp only at HNC
    cases h44 : tk (str s) j [44] with
    | true =>
      have HNC2 := Lib.hid (HNC.out true h44)
      rw [h44] at HB1
      clear HNC h44
      go_wp2_with fail
      refine HNC2.out.mono ?_
      rintro e w2 ⟨rfl, hrs, ht⟩
      have HRS2 : Hid (RR br s deep { st with pos := j + 1 } w2) := Lib.hid hrs
      have HT2 := Lib.hid (HT1.out.then ht)
      clear hrs ht
      have HPK := Lib.hid (rpeek_rr HRS2.out)
      simp only at HPK
      obtain ⟨c, hc⟩ : ∃ c, pk (str s) (j + 1) = c := ⟨_, rfl⟩
      have hc256 := pk_256 s (j + 1)
      rw [hc] at hc256 HPK HB1
      have HPC := Lib.hid hc
      clear hc
      by_cases h125 : c = 125
      · have q125 : ((c : Int) != 125) = false := by rw [h125]; rfl
        have HR : Hid (bracesP (str s) st.pos = some (lo, -1, j + 2)) := Lib.hid (by rw [HB1.out, if_pos trivial, if_pos h125])
        have hlt : j + 1 < s.size := by
          rcases Nat.lt_or_ge (j + 1) s.size with h | h
          · exact h
          · exfalso; have h2 := HPC.out; rw [pk_ge h] at h2; omega
        have htk : tk (str s) (j + 1) [125] = true := by rw [tk_one _ _ _ (by rw [str_len]; exact hlt), HPC.out]; exact decide_eq_true h125
        have HTK := Lib.hid htk
        clear htk h125 HB1
        go_wp2_with fail
        refine HPK.out.mono ?_
        rintro e w3 ⟨rfl, q, hq⟩
        have HRS3 := Lib.hid (HRS2.out.drewN q)
        have HT3 := Lib.hid (HT2.out.drewN q)
        rw [← hq] at HRS3 HT3
        clear hq
        have HN3 := Lib.hid (rnext_rr (t := ⟨#[125]⟩) HRS3.out true HTK.out (by decide))
        go_wp2_with fail
        refine HN3.out.mono ?_
        rintro e w4 ⟨rfl, hrs, ht⟩
        have HRS4 : Hid (RR br s deep { st with pos := j + 2 } w4) := Lib.hid hrs
        have HT4 := Lib.hid (HT3.out.then ht)
        clear hrs ht
        go_wp2_with fail
        go_ret2
        rw [HR.out]
        exact ⟨rfl, HRS4.out, hlo, .inl rfl, HT4.out⟩
      · have q125 : ((c : Int) != 125) = true := by rw [bne_iff_ne]; omega
        have HB2 : Hid (bracesP (str s) st.pos = match numP (str s) (j + 1) with
          | none => none
          | some (hi, k) => if tk (str s) k [125] = true ∧ lo ≤ hi then some (lo, (hi : Int), k + 1) else none) := Lib.hid (by rw [HB1.out, if_pos trivial, if_neg h125])
        clear h125 HB1
        have HCC := Lib.hid (fun w3 (h : RR br s deep { st with pos := j + 1 } w3) => rcount_any br s deep { st with pos := j + 1 } w3 h)
        simp only at HCC
        cases hn2 : numP (str s) (j + 1) with
        | none =>
          have HR : Hid (bracesP (str s) st.pos = none) := Lib.hid (by rw [HB2.out, hn2])
          rw [num_no hn2] at HCC
          generalize digs4 (str s) 4 (j + 1) 0 = r at HCC
          clear HB2 hn2
          go_wp2_with fail
          refine HPK.out.mono ?_
          rintro e w3 ⟨rfl, q, hq⟩
          have HRS3 := Lib.hid (HRS2.out.drewN q)
          have HT3 := Lib.hid (HT2.out.drewN q)
          rw [← hq] at HRS3 HT3
          clear hq
          go_wp2_with fail
          refine (HCC.out w3 HRS3.out).mono ?_
          rintro e w4 ⟨rfl, hrs, ht⟩
          have HRS4 := Lib.hid hrs
          have HT4 := Lib.hid (HT3.out.then ht)
          have hc5 := hrs.c5
          obtain ⟨hc5, hc5f⟩ := hc5
          clear hrs ht
          go_wp2_with fail
          go_ret2
          rw [HR.out]
          exact ⟨_, _, rfl, HRS4.out.bad, Touch.setCell HT4.out (.inl rfl) _⟩
        | some y =>
          obtain ⟨hi, k⟩ := y
          obtain ⟨hok, hdg, hhi⟩ := num_ok hn2
          rw [hok, hdg] at HCC
          have HB3 : Hid (bracesP (str s) st.pos = if tk (str s) k [125] = true ∧ lo ≤ hi then some (lo, (hi : Int), k + 1) else none) := Lib.hid (by rw [HB2.out, hn2])
          clear HB2 hn2 hok hdg
          go_wp2_with fail
          refine HPK.out.mono ?_
          rintro e w3 ⟨rfl, q, hq⟩
          have HRS3 := Lib.hid (HRS2.out.drewN q)
          have HT3 := Lib.hid (HT2.out.drewN q)
          rw [← hq] at HRS3 HT3
          clear hq
          go_wp2_with fail
          refine (HCC.out w3 HRS3.out).mono ?_
          rintro e w4 ⟨rfl, hrs, ht⟩
          have HRS4 : Hid (RR br s deep { st with pos := k } w4) := Lib.hid hrs
          have HT4 := Lib.hid (HT3.out.then ht)
          have hc5 := hrs.c5
          obtain ⟨hc5, hc5f⟩ := hc5
          clear hrs ht
          have HNN := Lib.hid (fun b hb => rnext_rr (t := ⟨#[125]⟩) HRS4.out b hb (by decide))
          simp only at HNN
          by_cases hle : lo ≤ hi
          · have ql : decide ((lo : Int) ≤ (hi : Int)) = true := decide_eq_true (by omega)
            have qln : decide (lo ≤ hi) = true := decide_eq_true hle
            cases h125 : tk (str s) k [125] with
            | true =>
              have HR : Hid (bracesP (str s) st.pos = some (lo, (hi : Int), k + 1)) := Lib.hid (by rw [HB3.out, if_pos ⟨h125, hle⟩])
              have HNN2 := Lib.hid (HNN.out true h125)
              clear HNN HB3 h125
              go_wp2_with fail
              refine HNN2.out.mono ?_
              rintro e w5 ⟨rfl, hrs, ht⟩
              have HRS5 : Hid (RR br s deep { st with pos := k + 1 } w5) := Lib.hid hrs
              have HT5 := Lib.hid (HT4.out.then ht)
              clear hrs ht
              go_wp2_with fail
              go_ret2
              rw [HR.out]
              exact ⟨rfl, HRS5.out, hlo, .inr ⟨by omega, by omega⟩, HT5.out⟩
            | false =>
              have HR : Hid (bracesP (str s) st.pos = none) := Lib.hid (by rw [HB3.out, if_neg (by rw [h125]; intro h; exact absurd h.1 (by decide))])
              have HNN2 := Lib.hid (HNN.out false h125)
              clear HNN HB3 h125
              go_wp2_with fail
              refine HNN2.out.mono ?_
              rintro e w5 ⟨rfl, hrs, ht⟩
              have HRS5 := Lib.hid hrs
              have HT5 := Lib.hid (HT4.out.then ht)
              have hc5 := hrs.c5
              obtain ⟨hc5, hc5f⟩ := hc5
              clear hrs ht
              go_wp2_with fail
              go_ret2
              rw [HR.out]
              exact ⟨_, _, rfl, HRS5.out.bad, Touch.setCell HT5.out (.inl rfl) _⟩
          · have ql : decide ((lo : Int) ≤ (hi : Int)) = false := decide_eq_false (by omega)
            have qln : decide (lo ≤ hi) = false := decide_eq_false hle
            have HR : Hid (bracesP (str s) st.pos = none) := Lib.hid (by rw [HB3.out, if_neg (fun h => hle h.2)])
            clear HNN HB3
            go_wp2_with fail
            go_ret2
            rw [HR.out]
            exact ⟨_, _, rfl, HRS4.out.bad, Touch.setCell HT4.out (.inl rfl) _⟩
    | false =>
      have HNC2 := Lib.hid (HNC.out false h44)
      have HB2 : Hid (bracesP (str s) st.pos = if tk (str s) j [125] = true then some (lo, (lo : Int), j + 1) else none) := Lib.hid (by rw [HB1.out, h44]; rfl)
      clear HNC h44 HB1
      go_wp2_with fail
      refine HNC2.out.mono ?_
      rintro e w2 ⟨rfl, hrs, ht⟩
      have HRS2 : Hid (RR br s deep { st with pos := j } w2) := Lib.hid hrs
      have HT2 := Lib.hid (HT1.out.then ht)
      clear hrs ht
      have HNN := Lib.hid (fun b hb => rnext_rr (t := ⟨#[125]⟩) HRS2.out b hb (by decide))
      simp only at HNN
      cases h125 : tk (str s) j [125] with
      | true =>
        have HR : Hid (bracesP (str s) st.pos = some (lo, (lo : Int), j + 1)) := Lib.hid (by rw [HB2.out, if_pos h125])
        have HNN2 := Lib.hid (HNN.out true h125)
        clear HNN HB2 h125
        go_wp2_with fail
        refine HNN2.out.mono ?_
        rintro e w5 ⟨rfl, hrs, ht⟩
        have HRS5 : Hid (RR br s deep { st with pos := j + 1 } w5) := Lib.hid hrs
        have HT5 := Lib.hid (HT2.out.then ht)
        clear hrs ht
        go_wp2_with fail
        go_ret2
        rw [HR.out]
        exact ⟨rfl, HRS5.out, hlo, .inr ⟨by omega, by omega⟩, HT5.out⟩
      | false =>
        have HR : Hid (bracesP (str s) st.pos = none) := Lib.hid (by rw [HB2.out, if_neg (by rw [h125]; decide)])
        have HNN2 := Lib.hid (HNN.out false h125)
        clear HNN HB2 h125
        go_wp2_with fail
        refine HNN2.out.mono ?_
        rintro e w5 ⟨rfl, hrs, ht⟩
        have HRS5 := Lib.hid hrs
        have HT5 := Lib.hid (HT2.out.then ht)
        have hc5 := hrs.c5
        obtain ⟨hc5, hc5f⟩ := hc5
        clear hrs ht
        go_wp2_with fail
        go_ret2
        rw [HR.out]
        exact ⟨_, _, rfl, HRS5.out.bad, Touch.setCell HT5.out (.inl rfl) _⟩
end Go.Proofs.YtlgpilcjcomacaaGreat

/-
  The document's repeated.
-/
namespace Go.Proofs.YtlgpilcjcomacaaGreat
open Go.RowKit Rx
set_option linter.unusedVariables false

theorem rdD_kind {F : Nat → Prop} {w : World} {a : Re} {p : Value} (h : (rdD F w a).node p) : ∃ b v, p = .pointer (some ⟨b, 0, none⟩) ∧ F b ∧ NodeB w b v ∧ (v.kind == 1) = isAsr a := by
  cases a with
  | set f => obtain ⟨v, ⟨b, e, hb, hv⟩, hk, -⟩ := h; exact ⟨b, v, e, hb, hv, by rw [hk]; rfl⟩
  | asr k => obtain ⟨v, ⟨b, e, hb, hv⟩, hk, -⟩ := h; exact ⟨b, v, e, hb, hv, by rw [hk]; rfl⟩
  | bref m => obtain ⟨v, ⟨b, e, hb, hv⟩, hk, -⟩ := h; exact ⟨b, v, e, hb, hv, by rw [hk]; rfl⟩
  | grp m x => obtain ⟨v, q, ⟨b, e, hb, hv⟩, hk, -⟩ := h; exact ⟨b, v, e, hb, hv, by rw [hk]; split <;> rfl⟩
  | look neg x => obtain ⟨v, q, ⟨b, e, hb, hv⟩, hk, -⟩ := h; exact ⟨b, v, e, hb, hv, by rw [hk]; cases neg <;> rfl⟩
  | atom x => obtain ⟨v, q, ⟨b, e, hb, hv⟩, hk, -⟩ := h; exact ⟨b, v, e, hb, hv, by rw [hk]; rfl⟩
  | rep x l m z => obtain ⟨v, q, ⟨b, e, hb, hv⟩, hk, -⟩ := h; exact ⟨b, v, e, hb, hv, by rw [hk]; rfl⟩
  | poss x l m => obtain ⟨v, q, v2, q2, ⟨b, e, hb, hv⟩, hk, -⟩ := h; exact ⟨b, v, e, hb, hv, by rw [hk]; rfl⟩
  | nil => exact h.elim
  | cat x r => exact h.elim
  | none => exact h.elim
  | alt x r => exact h.elim

theorem rdD_later {lo br : Nat} {w w' : World} (t : Touch (fun b => b = br) w w') (hb : br < lo) (a : Re) : (∀ p, (rdD (FP lo w.heap.size) w a).node p → (rdD (FP lo w'.heap.size) w' a).node p) ∧ (∀ x l, (rdD (FP lo w.heap.size) w a).row x l → (rdD (FP lo w'.heap.size) w' a).row x l) ∧ (∀ x l, (rdD (FP lo w.heap.size) w a).ways x l → (rdD (FP lo w'.heap.size) w' a).ways x l) :=
  rdD_mono (fun b h => ⟨h.1, Nat.lt_of_lt_of_le h.2 t.size⟩) (fun b h hl => t.block b hl (fun e => by have h1 : lo ≤ b := h.1; have e : b = br := e; omega)) a

/-- What comes back of reading on. -/
def RepD (br lo : Nat) (s : ByteArray) (deep : Nat) (w : World) : Option (Re × PS) → Ending → World → Prop
  | none, e, w' => ∃ p, e = .returned (.pointer p) ∧ RX br s w' ∧ Touch (fun b => b = br) w w'
  | some (a, st'), e, w' => ∃ p, e = .returned (.pointer (some ⟨p, 0, none⟩)) ∧ RR br s deep st' w' ∧ Touch (fun b => b = br) w w' ∧ (rdD (FP lo w'.heap.size) w' a).node (.pointer (some ⟨p, 0, none⟩))

theorem rep_new (w : World) (p : Nat) (l m : Int) (T : TypeId) :
    NodeB ((w.alloc (.cells #[.pointer (some ⟨p, 0, none⟩)] T)).alloc (.cells ((((Tryz.zeroCells97.setIfInBounds 0 (.int .i64 10)).setIfInBounds 259 (.slice (some ⟨w.heap.size, 0, none⟩) 1 1)).setIfInBounds 260 (.int .i64 l)).setIfInBounds 261 (.int .i64 m)) 97)) (w.heap.size + 1) { nv0 10 with kx := some ⟨w.heap.size, 0, none⟩, kl := 1, kc := 1, lo := l, hi := m } ∧
    ((w.alloc (.cells #[.pointer (some ⟨p, 0, none⟩)] T)).alloc (.cells ((((Tryz.zeroCells97.setIfInBounds 0 (.int .i64 10)).setIfInBounds 259 (.slice (some ⟨w.heap.size, 0, none⟩) 1 1)).setIfInBounds 260 (.int .i64 l)).setIfInBounds 261 (.int .i64 m)) 97)).cell? ⟨w.heap.size, 0, none⟩ = some (.pointer (some ⟨p, 0, none⟩)) := by
  have hz : (w.alloc (.cells #[.pointer (some ⟨p, 0, none⟩)] T)).heap.size = w.heap.size + 1 := by simp
  have := NodeB.made (w.alloc (.cells #[.pointer (some ⟨p, 0, none⟩)] T)) _ _ ((((zero_node.kind 10).kids (some ⟨w.heap.size, 0, none⟩) 1 1).lo l).hi m)
  rw [hz] at this
  exact ⟨this, ((Holds.made w #[.pointer (some ⟨p, 0, none⟩)] T 0 _ rfl).alloc _).1⟩
theorem rep_read {w' : World} {lo0 n : Nat} {a : Re} {p : Nat} (hp : (rdD (FP lo0 w'.heap.size) w' a).node (.pointer (some ⟨p, 0, none⟩))) (l : Nat) (m : Int) (lz : Bool) (hl : l ≤ 100) (hm : m = -1 ∨ ((l : Int) ≤ m ∧ m ≤ 100)) (hlo : lo0 ≤ n) (hc : w'.cell? ⟨n, 0, none⟩ = some (.pointer (some ⟨p, 0, none⟩)))
    (hN : NodeB w' (n + 1) { nv0 10 with kx := some ⟨n, 0, none⟩, kl := 1, kc := 1, lo := (l : Int), hi := m, lazy := lz }) : (rdD (FP lo0 w'.heap.size) w' (.rep a l m lz)).node (.pointer (some ⟨n + 1, 0, none⟩)) :=
  ⟨_, .pointer (some ⟨p, 0, none⟩), ⟨n + 1, rfl, ⟨by omega, hN.lt⟩, hN⟩, rfl, rfl, rfl, rfl, hl, hm, ⟨n, 0, rfl, rfl, Nat.le_refl _, ⟨hlo, by have := hN.lt; omega⟩, hc⟩, hp⟩

theorem poss_new {w : World} {lo0 : Nat} {a : Re} {l : Nat} {m : Int} {p : Nat} (hp : (rdD (FP lo0 w.heap.size) w (.rep a l m false)).node (.pointer (some ⟨p, 0, none⟩))) (T : TypeId) (hlo : lo0 ≤ w.heap.size) :
    (rdD (FP lo0 (w.heap.size + 2)) ((w.alloc (.cells #[.pointer (some ⟨p, 0, none⟩)] T)).alloc (.cells ((Tryz.zeroCells97.setIfInBounds 0 (.int .i64 9)).setIfInBounds 259 (.slice (some ⟨w.heap.size, 0, none⟩) 1 1)) 97)) (.poss a l m)).node (.pointer (some ⟨w.heap.size + 1, 0, none⟩)) := by
  have hz : (w.alloc (.cells #[.pointer (some ⟨p, 0, none⟩)] T)).heap.size = w.heap.size + 1 := by simp
  have hN := NodeB.made (w.alloc (.cells #[.pointer (some ⟨p, 0, none⟩)] T)) _ _ ((zero_node.kind 9).kids (some ⟨w.heap.size, 0, none⟩) 1 1)
  rw [hz] at hN
  have hold : ∀ b, b < w.heap.size → ((w.alloc (.cells #[.pointer (some ⟨p, 0, none⟩)] T)).alloc (.cells ((Tryz.zeroCells97.setIfInBounds 0 (.int .i64 9)).setIfInBounds 259 (.slice (some ⟨w.heap.size, 0, none⟩) 1 1)) 97)).heap[b]? = w.heap[b]? := fun b hlt => by
    rw [Below.heap_alloc _ _ _ (by rw [hz]; omega), Below.heap_alloc _ _ _ hlt]
  have hr := (rdD_mono (F := FP lo0 w.heap.size) (F' := FP lo0 (w.heap.size + 2)) (fun b h => ⟨h.1, by have := h.2; omega⟩) (fun b h hl => hold b hl) (.rep a l m false)).1 _ hp
  obtain ⟨v2, q2, hat, h1, h2, h3, h4, h5, h6, h7, h8⟩ := hr
  refine ⟨_, .pointer (some ⟨p, 0, none⟩), v2, q2, ⟨w.heap.size + 1, rfl, ⟨by omega, by omega⟩, hN⟩, rfl, ⟨w.heap.size, 0, rfl, rfl, Nat.le_refl _, ⟨hlo, by omega⟩, ?_⟩, hat, h1, h2, h3, h4, h5, h6, h7, h8⟩
  exact ((Holds.made w #[.pointer (some ⟨p, 0, none⟩)] T 0 _ rfl).alloc _).1

set_option maxRecDepth 100000 in
set_option maxHeartbeats 8000000 in
theorem rrepeated_any (br lo : Nat) (s : ByteArray) (deep : Nat) (st : PS) (a : Re) (p : Nat) (w : World) (h : RR br s deep st w) (hlo : br < lo) (hlw : lo ≤ w.heap.size) (hp : (rdD (FP lo w.heap.size) w a).node (.pointer (some ⟨p, 0, none⟩))) :
    Calls Tryz.prog 93 #[.pointer (some ⟨br, 0, none⟩), .pointer (some ⟨p, 0, none⟩)] w (RepD br lo s deep w (repP (str s) a st)) := by
  have HRS0 := Lib.hid h
  have HP0 := Lib.hid hp
  have HT0 : Hid (Touch (fun b => b = br) w w) := Lib.hid (Touch.refl _ _)
  have HLO : Hid (br < lo ∧ lo ≤ w.heap.size) := Lib.hid ⟨hlo, hlw⟩
  obtain ⟨w0, hw0⟩ : ∃ w0, w0 = w := ⟨_, rfl⟩
  obtain ⟨i, hi⟩ : ∃ i, st.pos = i := ⟨_, rfl⟩
  have HI := Lib.hid hi
  have HPI : Hid (({ st with pos := i } : PS) = st) := Lib.hid (by rw [← HI.out])
  rw [← hw0] at HRS0 HT0 HP0 HLO ⊢
  rw [← HPI.out] at HRS0
  have HREP : Hid (repP (str s) a st = match timesP (str s) i with
    | none => none
    | some (none, j) => some (a, st)
    | some (some (lo, hi), j) => if isAsr a = true then none else some (howP (str s) a lo hi { st with pos := j })) := Lib.hid (by rw [← HI.out]; rfl)
  generalize repP (str s) a st = res at HREP ⊢
  clear h hp hw0 hi hlo hlw
  go_enter Tryz.func93, Tryz.ntmps93
  go_upto_region 1 with fail
  go_cut [5, 6] from 9 to 9 (fun x y wx => x = .int .i64 0 ∧ y = .int .i64 (-1) ∧ wx = w0)
  case first =>
    go_wp2_with fail
    go_meet
    exact ⟨rfl, rfl, rfl⟩
  case rest =>
  obtain ⟨rfl, rfl, hwc⟩ := hcut
  rw [hwc]
  clear hwc
  rename_i hKA
  apply hKA
  clear hKA
  refine wp_seq_k ?_
  intro K hK
  go_cut [5, 6] from 9 to 25 (fun x y wx => ∃ l m : Int, x = .int .i64 l ∧ y = .int .i64 m ∧ Hid (Touch (fun b => b = br) w0 wx) ∧ Hid ((∃ (l0 j : Nat), l = (l0 : Int) ∧ timesP (str s) i = some (some (l0, m), j) ∧ l0 ≤ 100 ∧ (m = -1 ∨ ((l0 : Int) ≤ m ∧ m ≤ 100)) ∧ RR br s deep { st with pos := j } wx) ∨ (timesP (str s) i = none ∧ RX br s wx)))
  case first =>
    have HNX1 := Lib.hid (fun b hb => rnext_rr (t := ⟨#[42]⟩) HRS0.out b hb (by decide))
    cases h42 : tk (str s) i [42] with
    | true =>
      have HNY1 := Lib.hid (HNX1.out true h42)
      have H42 := Lib.hid h42
      clear HNX1 h42
      go_wp2_with fail
      refine HNY1.out.mono ?_
      clear HNY1
      rintro e w1 ⟨rfl, hrs, ht⟩
      have HRS1 : Hid (RR br s deep { st with pos := i + 1 } w1) := Lib.hid hrs
      have HT1 := Lib.hid (HT0.out.then ht)
      clear hrs ht
      have HTM : Hid (timesP (str s) i = some (some (0, -1), i + 1)) := Lib.hid (by unfold timesP; rw [if_pos H42.out])
      go_wp2_with fail
      go_meet
      exact ⟨0, -1, rfl, rfl, HT1, Lib.hid (.inl ⟨0, i + 1, rfl, HTM.out, by decide, .inl rfl, HRS1.out⟩)⟩
    | false =>
      have HNY1 := Lib.hid (HNX1.out false h42)
      have H42 := Lib.hid h42
      clear HNX1 h42
      go_wp2_with fail
      refine HNY1.out.mono ?_
      clear HNY1
      rintro e w1 ⟨rfl, hrs, ht⟩
      have HRS1 : Hid (RR br s deep { st with pos := i } w1) := Lib.hid hrs
      have HT1 := Lib.hid (HT0.out.then ht)
      clear hrs ht
      have HNX2 := Lib.hid (fun b hb => rnext_rr (t := ⟨#[43]⟩) HRS1.out b hb (by decide))
      cases h43 : tk (str s) i [43] with
      | true =>
        have HNY2 := Lib.hid (HNX2.out true h43)
        have H43 := Lib.hid h43
        clear HNX2 h43
        go_wp2_with fail
        refine HNY2.out.mono ?_
        clear HNY2
        rintro e w2 ⟨rfl, hrs, ht⟩
        have HRS2 : Hid (RR br s deep { st with pos := i + 1 } w2) := Lib.hid hrs
        have HT2 := Lib.hid (HT1.out.then ht)
        clear hrs ht
        have HTM : Hid (timesP (str s) i = some (some (1, -1), i + 1)) := Lib.hid (by unfold timesP; rw [if_neg (by rw [H42.out]; decide), if_pos H43.out])
        go_wp2_with fail
        go_meet
        exact ⟨1, -1, rfl, rfl, HT2, Lib.hid (.inl ⟨1, i + 1, rfl, HTM.out, by decide, .inl rfl, HRS2.out⟩)⟩
      | false =>
        have HNY2 := Lib.hid (HNX2.out false h43)
        have H43 := Lib.hid h43
        clear HNX2 h43
        go_wp2_with fail
        refine HNY2.out.mono ?_
        clear HNY2
        rintro e w2 ⟨rfl, hrs, ht⟩
        have HRS2 : Hid (RR br s deep { st with pos := i } w2) := Lib.hid hrs
        have HT2 := Lib.hid (HT1.out.then ht)
        clear hrs ht
        have HNX3 := Lib.hid (fun b hb => rnext_rr (t := ⟨#[63]⟩) HRS2.out b hb (by decide))
        cases h63 : tk (str s) i [63] with
        | true =>
          have HNY3 := Lib.hid (HNX3.out true h63)
          have H63 := Lib.hid h63
          clear HNX3 h63
          go_wp2_with fail
          refine HNY3.out.mono ?_
          clear HNY3
          rintro e w3 ⟨rfl, hrs, ht⟩
          have HRS3 : Hid (RR br s deep { st with pos := i + 1 } w3) := Lib.hid hrs
          have HT3 := Lib.hid (HT2.out.then ht)
          clear hrs ht
          have HTM : Hid (timesP (str s) i = some (some (0, 1), i + 1)) := Lib.hid (by unfold timesP; rw [if_neg (by rw [H42.out]; decide), if_neg (by rw [H43.out]; decide), if_pos H63.out])
          go_wp2_with fail
          go_meet
          exact ⟨0, 1, rfl, rfl, HT3, Lib.hid (.inl ⟨0, i + 1, rfl, HTM.out, by decide, .inr ⟨by decide, by decide⟩, HRS3.out⟩)⟩
        | false =>
          have HNY3 := Lib.hid (HNX3.out false h63)
          have H63 := Lib.hid h63
          clear HNX3 h63
          go_wp2_with fail
          refine HNY3.out.mono ?_
          clear HNY3
          rintro e w3 ⟨rfl, hrs, ht⟩
          have HRS3 : Hid (RR br s deep { st with pos := i } w3) := Lib.hid hrs
          have HT3 := Lib.hid (HT2.out.then ht)
          clear hrs ht
          have HNX4 := Lib.hid (fun b hb => rnext_rr (t := ⟨#[123]⟩) HRS3.out b hb (by decide))
          cases h123 : tk (str s) i [123] with
          | true =>
            have HNY4 := Lib.hid (HNX4.out true h123)
            have H123 := Lib.hid h123
            clear HNX4 h123
            go_wp2_with fail
            refine HNY4.out.mono ?_
            clear HNY4
            rintro e w4 ⟨rfl, hrs, ht⟩
            have HRS4 : Hid (RR br s deep { st with pos := i + 1 } w4) := Lib.hid hrs
            have HT4 := Lib.hid (HT3.out.then ht)
            clear hrs ht
            have HTM := Lib.hid (times_braces (str s) i H42.out H43.out H63.out H123.out)
            have HBR := Lib.hid (rbraces_any br s deep { st with pos := i + 1 } w4 HRS4.out)
            simp only at HBR
            cases hb : bracesP (str s) (i + 1) with
            | none =>
              rw [hb] at HBR HTM
              clear hb
              go_wp2_with fail
              refine HBR.out.mono ?_
              rintro e w5 ⟨l, m, rfl, hrx, ht⟩
              have HT5 := Lib.hid (HT4.out.then ht)
              have HRX := Lib.hid hrx
              clear hrx ht
              go_wp2_with fail
              go_meet
              exact ⟨l, m, rfl, rfl, HT5, Lib.hid (.inr ⟨HTM.out, HRX.out⟩)⟩
            | some x =>
              obtain ⟨l0, m, k⟩ := x
              rw [hb] at HBR HTM
              clear hb
              go_wp2_with fail
              refine HBR.out.mono ?_
              rintro e w5 ⟨rfl, hrs, hl, hm, ht⟩
              have HT5 := Lib.hid (HT4.out.then ht)
              have HRS5 : Hid (RR br s deep { st with pos := k } w5) := Lib.hid hrs
              have HLM := Lib.hid (And.intro hl hm)
              clear hrs ht hl hm
              go_wp2_with fail
              go_meet
              exact ⟨l0, m, rfl, rfl, HT5, Lib.hid (.inl ⟨l0, k, rfl, HTM.out, HLM.out.1, HLM.out.2, HRS5.out⟩)⟩
          | false =>
            have HNY4 := Lib.hid (HNX4.out false h123)
            have H123 := Lib.hid h123
            clear HNX4 h123
            go_wp2_with fail
            refine HNY4.out.mono ?_
            clear HNY4
            rintro e w4 ⟨rfl, hrs, ht⟩
            have HRS4 : Hid (RR br s deep { st with pos := i } w4) := Lib.hid hrs
            have HT4 := Lib.hid (HT3.out.then ht)
            clear hrs ht
            have HR : Hid (res = some (a, st)) := Lib.hid (by
              rw [HREP.out]
              have : timesP (str s) i = some (none, i) := by
                unfold timesP
                rw [if_neg (by rw [H42.out]; decide), if_neg (by rw [H43.out]; decide), if_neg (by rw [H63.out]; decide), if_neg (by rw [H123.out]; decide)]
              rw [this])
            go_wp2_with fail
            go_ret
            rw [HR.out]
            exact ⟨p, rfl, by rw [← HPI.out]; exact HRS4.out, HT4.out, (rdD_later HT4.out HLO.out.1 a).1 _ HP0.out⟩
  case rest =>
    obtain ⟨l, m, rfl, rfl, HT5, HAB⟩ := hcut
    obtain ⟨pb, v, hpe, hpf, hpn, hpk⟩ := rdD_kind HP0.out
    cases hpe
    have hN5 := hpn.keep HT5.out (fun e => by have := hpf.1; have := HLO.out.1; omega)
    have k0 := hN5.c0
    obtain ⟨kd, hkd⟩ : ∃ kd, v.kind = kd := ⟨_, rfl⟩
    rw [hkd] at k0 hpk
    have hc5 : ∃ b, Holds wc br 5 (.bool b) := by
      rcases HAB.out with ⟨l0, j, -, -, -, -, h⟩ | ⟨-, h⟩
      · exact ⟨_, h.c5⟩
      · exact ⟨_, h.c5⟩
    obtain ⟨b5, hc5, hc5f⟩ := hc5
    have HPK := Lib.hid hpk
    clear hpf hpn hN5 hkd hpk
    go_upto_if 30 with fail
    go_cut [30] from 31 to 33 (fun _ wx => Hid (Touch (fun b => b = br) w0 wx) ∧ Hid ((∃ (l0 j : Nat), l = (l0 : Int) ∧ timesP (str s) i = some (some (l0, m), j) ∧ l0 ≤ 100 ∧ (m = -1 ∨ ((l0 : Int) ≤ m ∧ m ≤ 100)) ∧ isAsr a = false ∧ RR br s deep { st with pos := j } wx) ∨ (res = none ∧ RX br s wx)))
    case first =>
      cases hasr : isAsr a with
      | true =>
        have q1 : (kd == 1) = true := by rw [HPK.out]; exact hasr
        have HX : Hid (Touch (fun b => b = br) w0 (wc.setCell ⟨br, 5, none⟩ (.bool true)) ∧ res = none ∧ RX br s (wc.setCell ⟨br, 5, none⟩ (.bool true))) := Lib.hid (by
          refine ⟨Touch.setCell HT5.out (.inl rfl) _, ?_⟩
          rw [HREP.out]
          rcases HAB.out with ⟨l0, j, h1, h2, h3, h4, h⟩ | ⟨h1, h⟩
          · rw [h2]; exact ⟨if_pos hasr, h.bad⟩
          · rw [h1]; exact ⟨rfl, h.setBad⟩)
        clear hasr
        go_wp2_with fail
        go_meet
        exact ⟨Lib.hid HX.out.1, Lib.hid (.inr HX.out.2)⟩
      | false =>
        have q1 : (kd == 1) = false := by rw [HPK.out]; exact hasr
        have HX : Hid ((∃ (l0 j : Nat), l = (l0 : Int) ∧ timesP (str s) i = some (some (l0, m), j) ∧ l0 ≤ 100 ∧ (m = -1 ∨ ((l0 : Int) ≤ m ∧ m ≤ 100)) ∧ isAsr a = false ∧ RR br s deep { st with pos := j } wc) ∨ (res = none ∧ RX br s wc)) := Lib.hid (by
          rcases HAB.out with ⟨l0, j, h1, h2, h3, h4, h⟩ | ⟨h1, h⟩
          · exact .inl ⟨l0, j, h1, h2, h3, h4, hasr, h⟩
          · exact .inr ⟨by rw [HREP.out, h1], h⟩)
        clear hasr
        go_wp2_with fail
        go_meet
        exact ⟨HT5, HX⟩
    case rest =>
      clear hc5 hc5f k0 HAB HT5
      obtain ⟨HT5, HAB⟩ := hcut
      have hnew := rep_new wc p l m 91
      obtain ⟨w6, hw6⟩ : ∃ w6, (wc.alloc (.cells #[.pointer (some ⟨p, 0, none⟩)] 91)).alloc (.cells ((((Tryz.zeroCells97.setIfInBounds 0 (.int .i64 10)).setIfInBounds 259 (.slice (some ⟨wc.heap.size, 0, none⟩) 1 1)).setIfInBounds 260 (.int .i64 l)).setIfInBounds 261 (.int .i64 m)) 97) = w6 := ⟨_, rfl⟩
      have t56 : Still wc w6 := by rw [← hw6]; exact ((Touch.refl _ _).alloc _).alloc _
      rw [hw6] at hnew
      obtain ⟨hn6, hcl6⟩ := hnew
      have HN6 := Lib.hid hn6
      have HCL6 := Lib.hid hcl6
      have HT6 := Lib.hid (HT5.out.then (t56.mono (S1 := fun b => b = br) (fun _ _ e => e.elim)))
      have HNE : Hid (wc.heap.size ≠ br ∧ wc.heap.size + 1 ≠ br ∧ lo ≤ wc.heap.size) := Lib.hid (by have h1 := HLO.out; have h2 := HT5.out.size; omega)
      obtain ⟨n, hn⟩ : ∃ n, wc.heap.size = n := ⟨_, rfl⟩
      have HNN := Lib.hid hn
      rw [hn] at HN6 HCL6 HNE hw6
      rcases HAB.out with ⟨l0, j, rfl, htm, hl0, hm, hasr, hrs⟩ | ⟨hres, hrx⟩
      · have HRS6 := Lib.hid (hrs.keep t56 id)
        have HRESH : Hid (res = some (howP (str s) a l0 m { st with pos := j })) := Lib.hid (by rw [HREP.out, htm]; exact if_neg (by rw [hasr]; decide))
        have HLM := Lib.hid (And.intro hl0 hm)
        clear hrs htm hasr HAB hl0 hm t56 hn6 hcl6 HREP
        have HNQ := Lib.hid (fun b hb => rnext_rr (t := ⟨#[63]⟩) HRS6.out b hb (by decide))
        simp only at HNQ
        cases h63 : tk (str s) j [63] with
        | true =>
          have HNY := Lib.hid (HNQ.out true h63)
          have HR : Hid (res = some (.rep a l0 m true, { st with pos := j + 1 })) := Lib.hid (by rw [HRESH.out]; unfold howP; rw [if_pos h63])
          clear HNQ h63 HRESH
          go_wp2_with fail
          clear hw6
          refine HNY.out.mono ?_
          rintro e w7 ⟨rfl, hrs, ht⟩
          have HRS7 : Hid (RR br s deep { st with pos := j + 1 } w7) := Lib.hid hrs
          have HT7 := Lib.hid (HT6.out.then ht)
          have HN7 := Lib.hid (HN6.out.keep ht HNE.out.2.1)
          have HCL7 := Lib.hid (ht.has HCL6.out HNE.out.1)
          have hz := HN7.out.cell (i := 262) (by decide)
          obtain ⟨hz, hzf⟩ := hz
          clear hrs ht HNY
          go_wp2_with fail
          go_ret
          rw [HR.out]
          have tz : Touch (fun b => b = n + 1) w7 (w7.setCell ⟨n + 1, 262, none⟩ (.bool true)) := Touch.setCell (Touch.refl (fun b => b = n + 1) w7) (.inl rfl) _
          have hN8 := HN7.out.put (v' := { nv0 10 with kx := some ⟨n, 0, none⟩, kl := 1, kc := 1, lo := (l0 : Int), hi := m, lazy := true }) (i := 262) (.bool true) (fun A hA => hA.lazy true)
          have hT8 : Touch (fun b => b = br) w0 (w7.setCell ⟨n + 1, 262, none⟩ (.bool true)) := HT7.out.trans tz (fun i e => .inr (by have h1 := HLO.out; have h2 := HNE.out.2.2; have h3 := HT5.out.size; have h4 := HNN.out; omega))
          refine ⟨n + 1, rfl, HRS7.out.keep tz (Ne.symm HNE.out.2.1), hT8, ?_⟩
          exact rep_read ((rdD_later hT8 HLO.out.1 a).1 _ HP0.out) l0 m true HLM.out.1 HLM.out.2 HNE.out.2.2 (tz.has HCL7.out (by show n ≠ n + 1; omega)) hN8
        | false =>
          have HNY := Lib.hid (HNQ.out false h63)
          have H63 := Lib.hid h63
          clear HNQ h63
          go_wp2_with fail
          clear hw6
          refine HNY.out.mono ?_
          rintro e w7 ⟨rfl, hrs, ht⟩
          have HRS7 : Hid (RR br s deep { st with pos := j } w7) := Lib.hid hrs
          have HT7 := Lib.hid (HT6.out.then ht)
          have HN7 := Lib.hid (HN6.out.keep ht HNE.out.2.1)
          have HCL7 := Lib.hid (ht.has HCL6.out HNE.out.1)
          clear hrs ht HNY
          have HNP := Lib.hid (fun b hb => rnext_rr (t := ⟨#[43]⟩) HRS7.out b hb (by decide))
          simp only at HNP
          cases h43 : tk (str s) j [43] with
          | true =>
            have HNY := Lib.hid (HNP.out true h43)
            have HR : Hid (res = some (.poss a l0 m, { st with pos := j + 1 })) := Lib.hid (by rw [HRESH.out]; unfold howP; rw [if_neg (by rw [H63.out]; decide), if_pos h43])
            clear HNP h43 HRESH
            go_wp2_with fail
            refine HNY.out.mono ?_
            rintro e w8 ⟨rfl, hrs, ht⟩
            have HRS8 : Hid (RR br s deep { st with pos := j + 1 } w8) := Lib.hid hrs
            have HT8 := Lib.hid (HT7.out.then ht)
            have HN8 := Lib.hid (HN7.out.keep ht HNE.out.2.1)
            have HCL8 := Lib.hid (ht.has HCL7.out HNE.out.1)
            clear hrs ht HNY
            go_wp2_with fail
            go_ret
            rw [HR.out]
            have hrd := rep_read ((rdD_later HT8.out HLO.out.1 a).1 _ HP0.out) l0 m false HLM.out.1 HLM.out.2 HNE.out.2.2 HCL8.out HN8.out
            have hps := poss_new hrd 91 (by have h1 := HLO.out; have h2 := HT8.out.size; omega)
            have ta : Still w8 ((w8.alloc (.cells #[.pointer (some ⟨n + 1, 0, none⟩)] 91)).alloc (.cells ((Tryz.zeroCells97.setIfInBounds 0 (.int .i64 9)).setIfInBounds 259 (.slice (some ⟨w8.heap.size, 0, none⟩) 1 1)) 97)) := ((Touch.refl _ _).alloc _).alloc _
            refine ⟨w8.heap.size + 1, by simp, HRS8.out.keep ta id, HT8.out.then (ta.mono (fun _ _ e => e.elim)), ?_⟩
            have hz : ((w8.alloc (.cells #[.pointer (some ⟨n + 1, 0, none⟩)] 91)).alloc (.cells ((Tryz.zeroCells97.setIfInBounds 0 (.int .i64 9)).setIfInBounds 259 (.slice (some ⟨w8.heap.size, 0, none⟩) 1 1)) 97)).heap.size = w8.heap.size + 2 := by simp
            rw [hz]
            exact hps
          | false =>
            have HNY := Lib.hid (HNP.out false h43)
            have HR : Hid (res = some (.rep a l0 m false, { st with pos := j })) := Lib.hid (by rw [HRESH.out]; unfold howP; rw [if_neg (by rw [H63.out]; decide), if_neg (by rw [h43]; decide)])
            clear HNP h43 HRESH
            go_wp2_with fail
            refine HNY.out.mono ?_
            rintro e w8 ⟨rfl, hrs, ht⟩
            have HRS8 : Hid (RR br s deep { st with pos := j } w8) := Lib.hid hrs
            have HT8 := Lib.hid (HT7.out.then ht)
            have HN8 := Lib.hid (HN7.out.keep ht HNE.out.2.1)
            have HCL8 := Lib.hid (ht.has HCL7.out HNE.out.1)
            clear hrs ht HNY
            go_wp2_with fail
            go_ret
            rw [HR.out]
            exact ⟨n + 1, rfl, HRS8.out, HT8.out, rep_read ((rdD_later HT8.out HLO.out.1 a).1 _ HP0.out) l0 m false HLM.out.1 HLM.out.2 HNE.out.2.2 HCL8.out HN8.out⟩
      · have HRX6 := Lib.hid (hrx.keep t56 id)
        have HR := Lib.hid hres
        clear hrx hres HAB t56 hn6 hcl6 HREP
        have HBX := Lib.hid (fun wx (h : RX br s wx) (t : ByteArray) (ht : t.size ≤ 2) => rnext_rx (t := t) h ht)
        go_wp2_with fail
        clear hw6
        refine (HBX.out _ HRX6.out ⟨#[63]⟩ (by decide)).mono ?_
        rintro e w7 ⟨b7, rfl, hrx, ht⟩
        have HRX7 := Lib.hid hrx
        have HT7 := Lib.hid (HT6.out.then ht)
        have HN7 := Lib.hid (HN6.out.keep ht HNE.out.2.1)
        clear hrx ht
        cases b7 with
        | true =>
          have hz := HN7.out.cell (i := 262) (by decide)
          obtain ⟨hz, hzf⟩ := hz
          go_wp2_with fail
          go_ret
          rw [HR.out]
          have tz : Touch (fun b => b = n + 1) w7 (w7.setCell ⟨n + 1, 262, none⟩ (.bool true)) := Touch.setCell (Touch.refl (fun b => b = n + 1) w7) (.inl rfl) _
          exact ⟨_, rfl, HRX7.out.keep tz (Ne.symm HNE.out.2.1), HT7.out.trans tz (fun i e => .inr (by have h1 := HLO.out; have h2 := HNE.out.2.2; have h3 := HT5.out.size; have h4 := HNN.out; omega))⟩
        | false =>
          go_wp2_with fail
          refine (HBX.out _ HRX7.out ⟨#[43]⟩ (by decide)).mono ?_
          rintro e w8 ⟨b8, rfl, hrx, ht⟩
          have HRX8 := Lib.hid hrx
          have HT8 := Lib.hid (HT7.out.then ht)
          clear hrx ht
          cases b8 with
          | true =>
            go_wp2_with fail
            go_ret
            rw [HR.out]
            have ta : Still w8 ((w8.alloc (.cells #[.pointer (some ⟨n + 1, 0, none⟩)] 91)).alloc (.cells ((Tryz.zeroCells97.setIfInBounds 0 (.int .i64 9)).setIfInBounds 259 (.slice (some ⟨w8.heap.size, 0, none⟩) 1 1)) 97)) := ((Touch.refl _ _).alloc _).alloc _
            exact ⟨_, rfl, HRX8.out.keep ta id, HT8.out.then (ta.mono (fun _ _ e => e.elim))⟩
          | false =>
            go_wp2_with fail
            go_ret
            rw [HR.out]
            exact ⟨_, rfl, HRX8.out, HT8.out⟩
end Go.Proofs.YtlgpilcjcomacaaGreat
