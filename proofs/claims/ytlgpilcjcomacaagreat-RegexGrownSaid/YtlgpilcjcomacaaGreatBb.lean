/-
  Texts Rd in one.
-/
import Derived.Test.YtlgpilcjcomacaaGreatBa
import Derived.Test.YtlgpilcjcomacaaGreatAd
/-
  The document's single, count. (Printed by wip/tools/count07.py.)
-/
namespace Go.Proofs.YtlgpilcjcomacaaGreat
open Go.RowKit Rx
set_option linter.unusedVariables false

/-- What comes back of the byte of an escape of one byte. -/
def SingleP (w : World) : Option Nat → Ending → World → Prop
  | some b, e, w' => e = .returned (.tuple #[.int .u8 (b : Int), .bool true]) ∧ w' = w
  | none, e, w' => ∃ b : Nat, b < 256 ∧ e = .returned (.tuple #[.int .u8 (b : Int), .bool false]) ∧ w' = w

theorem ib_special (c : Nat) (hc : c < 256) : decide (0 ≤ Lib.indexByte ([92, 94, 36, 46, 124, 63, 42, 43, 40, 41, 91, 93, 123, 125] : List UInt8) ((c : Int).toNat.toUInt8)) = ([92, 94, 36, 46, 124, 63, 42, 43, 40, 41, 91, 93, 123, 125] : List Nat).contains c := by
  have hu : ((c : Int).toNat.toUInt8).toNat = c := by simp; omega
  have hib := ib_contains [92, 94, 36, 46, 124, 63, 42, 43, 40, 41, 91, 93, 123, 125] ((c : Int).toNat.toUInt8)
  rw [hu] at hib
  exact hib

set_option maxRecDepth 100000 in
set_option maxHeartbeats 1000000 in
theorem rsingle_any (c : Nat) (hc : c < 256) (w : World) :
    Calls Tryz.prog 114 #[.int .u8 (c : Int)] w (SingleP w (plainP c)) := by
  have HIB := Lib.hid (fun w => Tryz.strings_IndexByte ⟨#[92, 94, 36, 46, 124, 63, 42, 43, 40, 41, 91, 93, 123, 125]⟩ (c : Int) w)
  have hib := ib_special c hc
  obtain ⟨x, hx⟩ : ∃ x, Lib.indexByte (⟨#[92, 94, 36, 46, 124, 63, 42, 43, 40, 41, 91, 93, 123, 125]⟩ : ByteArray).data.toList ((c : Int).toNat.toUInt8) = x := ⟨_, rfl⟩
  rw [hx] at HIB
  rw [show Lib.indexByte [92, 94, 36, 46, 124, 63, 42, 43, 40, 41, 91, 93, 123, 125] ((c : Int).toNat.toUInt8) = x from hx] at hib
  clear hx
  by_cases h1 : c = 110
  · subst h1
    go_enter Tryz.func114, Tryz.ntmps114
    go_wp2_with fail
    go_ret2
    exact ⟨rfl, rfl⟩
  · by_cases h2 : c = 116
    · subst h2
      go_enter Tryz.func114, Tryz.ntmps114
      go_wp2_with fail
      go_ret2
      exact ⟨rfl, rfl⟩
    · have q1 : ((c : Int) == 110) = false := by simp; omega
      have q2 : ((c : Int) == 116) = false := by simp; omega
      by_cases h4 : c = 45
      · subst h4
        go_enter Tryz.func114, Tryz.ntmps114
        go_wp2_with fail
        go_ret2
        exact ⟨rfl, rfl⟩
      · have q3 : ((c : Int) == 45) = false := by simp; omega
        have hsp : specials.contains c = ([92, 94, 36, 46, 124, 63, 42, 43, 40, 41, 91, 93, 123, 125] : List Nat).contains c := by
          rw [Bool.eq_iff_iff]
          unfold specials
          simp only [List.contains_iff_mem, List.mem_cons, List.not_mem_nil, or_false]
          omega
        rw [← hsp] at hib
        cases hs : specials.contains c with
        | true =>
          have HR : Hid (plainP c = some c) := Lib.hid (by unfold plainP; rw [if_neg h1, if_neg h2, if_pos hs])
          rw [hs] at hib
          clear h1 h2 h4 hs hsp
          go_enter Tryz.func114, Tryz.ntmps114
          go_wp2_with fail
          refine (HIB.out _).mono ?_
          rintro e w9 ⟨rfl, rfl⟩
          go_wp2_with fail
          go_ret2
          rw [HR.out]
          exact ⟨rfl, rfl⟩
        | false =>
          have HR : Hid (plainP c = none) := Lib.hid (by unfold plainP; rw [if_neg h1, if_neg h2, if_neg (by rw [hs]; decide)])
          rw [hs] at hib
          clear h1 h2 h4 hs hsp
          go_enter Tryz.func114, Tryz.ntmps114
          go_wp2_with fail
          refine (HIB.out _).mono ?_
          rintro e w9 ⟨rfl, rfl⟩
          go_wp2_with fail
          go_ret2
          rw [HR.out]
          exact ⟨c, hc, rfl, rfl⟩

theorem RR.drewN {br : Nat} {s : ByteArray} {deep : Nat} {st : PS} {w : World} (h : RR br s deep st w) (q : Nat) : RR br s deep st (w.drewN q) := h.keep ((Touch.refl (fun _ => False) w).drewN q) id
theorem RX.drewN {br : Nat} {s : ByteArray} {w : World} (h : RX br s w) (q : Nat) : RX br s (w.drewN q) := h.keep ((Touch.refl (fun _ => False) w).drewN q) id

theorem digs4_bnd (s : List UInt8) : ∀ f i n, i ≤ (digs4 s f i n).2 ∧ ((digs4 s f i n).1 < (n + 1) * 10 ^ f)
  | 0, i, n => ⟨Nat.le_refl _, by show n < (n + 1) * 1; omega⟩
  | f + 1, i, n => by
    unfold digs4
    split
    · rename_i h
      have h1 := Rx.isDig_lt h
      have h2 := digs4_bnd s f (i + 1) (n * 10 + (pk s i - 48))
      refine ⟨by omega, Nat.lt_of_lt_of_le h2.2 ?_⟩
      rw [Nat.pow_succ, Nat.mul_comm (10 ^ f) 10, ← Nat.mul_assoc]
      exact Nat.mul_le_mul_right _ (by omega)
    · have h3 : 0 < 10 ^ (f + 1) := Nat.pos_of_ne_zero (by simp)
      exact ⟨Nat.le_refl _, by
        show n < (n + 1) * 10 ^ (f + 1)
        have := Nat.le_mul_of_pos_right (n + 1) h3
        omega⟩

set_option maxRecDepth 100000 in
set_option maxHeartbeats 4000000 in
theorem rcount_any (br : Nat) (s : ByteArray) (deep : Nat) (st : PS) (w : World) (h : RR br s deep st w) :
    Calls Tryz.prog 115 #[.pointer (some ⟨br, 0, none⟩)] w fun e w' => e = .returned (.tuple #[.int .i64 ((digs4 (str s) 4 st.pos 0).1 : Int), .bool (cntOk (str s) st.pos (digs4 (str s) 4 st.pos 0))]) ∧ RR br s deep { st with pos := (digs4 (str s) 4 st.pos 0).2 } w' ∧ Touch (fun b => b = br) w w' := by
  obtain ⟨r, hr⟩ : ∃ r, digs4 (str s) 4 st.pos 0 = r := ⟨_, rfl⟩
  have HR := Lib.hid hr
  rw [hr]
  have h1 := h.c1.1
  have HH := Lib.hid h
  have hsz := h.sz
  have hle0 := h.le
  have hw4 := IntWalk.i64_in ((st.pos : Int) + 4) (by omega)
  have hw5 := IntWalk.i64_in ((st.pos : Int) + 1) (by omega)
  clear h hr
  go_enter Tryz.func115, Tryz.ntmps115
  go_wp2_with fail
  clear h1
  go_loopw [5] (fun n wr => ∃ k m : Nat, n = .int .i64 m ∧ k ≤ 4 ∧ m < 10 ^ k ∧ Hid (RR br s deep { st with pos := st.pos + k } wr) ∧ Hid (digs4 (str s) (4 - k) (st.pos + k) m = r) ∧ Hid (Touch (fun b => b = br) w wr)) (fun _ wr => s.size - cellI wr br 1)
  case atStart => exact ⟨0, 0, rfl, by omega, by decide, HH, HR, Lib.hid (Touch.refl _ _)⟩
  case round =>
    obtain ⟨k, m, rfl, hk, hm, HRS, HD, HT⟩ := hrel
    have hmm : m < 10000 := Nat.lt_of_lt_of_le hm (by obtain rfl | rfl | rfl | rfl | rfl : k = 0 ∨ k = 1 ∨ k = 2 ∨ k = 3 ∨ k = 4 := by omega
                                                      all_goals decide)
    have HM := Lib.hid hm
    clear hm
    obtain ⟨i, hi⟩ : ∃ i, st.pos + k = i := ⟨_, rfl⟩
    rw [hi] at HRS HD
    have HIK := Lib.hid hi
    have hik : st.pos ≤ i ∧ i ≤ st.pos + 4 := by omega
    obtain ⟨hi0, hi4⟩ := hik
    clear hi
    obtain ⟨c, hc⟩ : ∃ c, pk (str s) i = c := ⟨_, rfl⟩
    have hc256 := pk_256 s i
    rw [hc] at hc256
    have HPK : Hid (∀ w, RR br s deep { st with pos := i } w → Calls Tryz.prog 91 #[.pointer (some ⟨br, 0, none⟩)] w fun e w' => e = .returned (.int .u8 (c : Int)) ∧ ∃ q, w' = w.drewN q) := Lib.hid (fun w h => by rw [← hc]; exact rpeek_rr h)
    have HEN : Hid (∀ w, RR br s deep { st with pos := i } w → Calls Tryz.prog 57 #[.pointer (some ⟨br, 0, none⟩)] w fun e w' => e = .returned (.bool (decide (s.size ≤ i))) ∧ ∃ q, w' = w.drewN q) := Lib.hid (fun w h => rend_rr h)
    have HC := Lib.hid hc
    clear hc
    have hisz := HRS.out.le
    simp only at hisz
    by_cases hend : s.size ≤ i
    · have HEB : Hid (decide (s.size ≤ i) = true) := Lib.hid (decide_eq_true hend)
      rw [HEB.out] at HEN
      have HRR : Hid ((m, i) = r) := Lib.hid (by rw [← HD.out, digs4_off (by rw [pk_ge hend]; decide)])
      clear hend
      go_wp2_with fail
      refine (HEN.out _ HRS.out).mono ?_
      rintro e w1 ⟨rfl, q, hq⟩
      have HRS1 := Lib.hid (HRS.out.drewN q)
      have HT1 := Lib.hid (HT.out.drewN q)
      rw [← hq] at HRS1 HT1
      clear hq
      have HRSX := HRS1
      have HTX := HT1
      have h0 := HRSX.out.c0
      have h1 := HRSX.out.c1.1
      simp only at h1
      by_cases e1 : st.pos < i
      · have b1 : decide ((st.pos : Int) < (i : Int)) = true := decide_eq_true (by omega)
        have b1n : decide (st.pos < i) = true := decide_eq_true (by omega)
        by_cases e2 : m ≤ 100
        · have b2 : decide ((m : Int) ≤ 100) = true := decide_eq_true (by omega)
          have b2n : decide (m ≤ 100) = true := decide_eq_true (by omega)
          have hfl : st.pos < s.size := by omega
          have hpk := pk_lt hfl
          obtain ⟨d, hd0⟩ : ∃ d, (s[st.pos]'hfl).toNat = d := ⟨_, rfl⟩
          rw [hd0] at hpk
          have HPD := Lib.hid hpk
          clear hpk
          by_cases e3 : d = 48
          · have b3 : ((d : Int) == 48) = true := by simp; omega
            have b3' : ((d : Int) != 48) = false := by rw [bne, b3]; rfl
            by_cases e4 : i = st.pos + 1
            · have b4 : ((i : Int) == (st.pos : Int) + 1) = true := by simp; omega
              have HX : Hid (cntOk (str s) st.pos r = true) := Lib.hid (by rw [← HRR.out]; unfold cntOk; rw [HPD.out]; simp [e2, e4])
              clear e1 e2 e3 e4
              go_wp2_with fail
              go_quiet (fail)
              go_wp2_with fail
              go_ret2
              rw [HX.out, ← HRR.out]
              exact ⟨rfl, HRSX.out.drewN _, HTX.out.drewN _⟩
            · have b4 : ((i : Int) == (st.pos : Int) + 1) = false := by simp; omega
              have HX : Hid (cntOk (str s) st.pos r = false) := Lib.hid (by rw [← HRR.out]; unfold cntOk; rw [HPD.out, e3]; simp [e1, e2, e4])
              clear e1 e2 e3 e4
              go_wp2_with fail
              go_quiet (fail)
              go_wp2_with fail
              go_ret2
              rw [HX.out, ← HRR.out]
              exact ⟨rfl, HRSX.out.drewN _, HTX.out.drewN _⟩
          · have b3 : ((d : Int) == 48) = false := by simp; omega
            have b3' : ((d : Int) != 48) = true := by rw [bne, b3]; rfl
            have HX : Hid (cntOk (str s) st.pos r = true) := Lib.hid (by rw [← HRR.out]; unfold cntOk; rw [HPD.out]; simp [e1, e2, e3])
            clear e1 e2 e3
            go_wp2_with fail
            go_quiet (fail)
            go_wp2_with fail
            go_ret2
            rw [HX.out, ← HRR.out]
            exact ⟨rfl, HRSX.out.drewN _, HTX.out.drewN _⟩
        · have b2 : decide ((m : Int) ≤ 100) = false := decide_eq_false (by omega)
          have b2n : decide (m ≤ 100) = false := decide_eq_false (by omega)
          have HX : Hid (cntOk (str s) st.pos r = false) := Lib.hid (by rw [← HRR.out]; unfold cntOk; simp [e2])
          clear e1 e2
          go_wp2_with fail
          go_quiet (fail)
          go_wp2_with fail
          go_ret2
          rw [HX.out, ← HRR.out]
          exact ⟨rfl, HRSX.out.drewN _, HTX.out.drewN _⟩
      · have b1 : decide ((st.pos : Int) < (i : Int)) = false := decide_eq_false (by omega)
        have b1n : decide (st.pos < i) = false := decide_eq_false (by omega)
        have HX : Hid (cntOk (str s) st.pos r = false) := Lib.hid (by rw [← HRR.out]; unfold cntOk; simp [e1])
        clear e1
        go_wp2_with fail
        go_quiet (fail)
        go_wp2_with fail
        go_ret2
        rw [HX.out, ← HRR.out]
        exact ⟨rfl, HRSX.out.drewN _, HTX.out.drewN _⟩
    · have HEB : Hid (decide (s.size ≤ i) = false) := Lib.hid (decide_eq_false hend)
      rw [HEB.out] at HEN
      have hlt : i < s.size := by omega
      clear hend
      by_cases hd : isDig c = true
      · have hd2 : 48 ≤ c ∧ c ≤ 57 := by simpa [isDig] using hd
        obtain ⟨hd3, hd4⟩ := hd2
        have x1 : decide ((48 : Int) ≤ (c : Int)) = true := decide_eq_true (by omega)
        have x2 : decide ((c : Int) ≤ 57) = true := decide_eq_true (by omega)
        by_cases hk4 : k < 4
        · have x3 : decide ((i : Int) < (st.pos : Int) + 4) = true := decide_eq_true (by have := HIK.out; omega)
          have HD2 : Hid (digs4 (str s) (4 - (k + 1)) (i + 1) (m * 10 + (c - 48)) = r) := Lib.hid (by
            rw [← HD.out]
            obtain ⟨f, hf⟩ : ∃ f, 4 - k = f + 1 := ⟨3 - k, by omega⟩
            rw [hf, show 4 - (k + 1) = f by omega, digs4_on (by rw [HC.out]; exact hd), HC.out])
          have HM2 : Hid (m * 10 + (c - 48) < 10 ^ (k + 1)) := Lib.hid (by rw [Nat.pow_succ]; have := HM.out; omega)
          clear hd
          go_wp2_with fail
          refine (HEN.out _ HRS.out).mono ?_
          rintro e w1 ⟨rfl, q, hq⟩
          have HRS1 := Lib.hid (HRS.out.drewN q)
          have HT1 := Lib.hid (HT.out.drewN q)
          rw [← hq] at HRS1 HT1
          clear hq
          go_wp2_with fail
          refine (HPK.out _ HRS1.out).mono ?_
          rintro e w2 ⟨rfl, q, hq⟩
          have HRS2 := Lib.hid (HRS1.out.drewN q)
          have HT2 := Lib.hid (HT1.out.drewN q)
          rw [← hq] at HRS2 HT2
          clear hq
          go_wp2_with fail
          refine (HPK.out _ HRS2.out).mono ?_
          rintro e w3 ⟨rfl, q, hq⟩
          have HRS3 := Lib.hid (HRS2.out.drewN q)
          have HT3 := Lib.hid (HT2.out.drewN q)
          rw [← hq] at HRS3 HT3
          clear hq
          have h1 := HRS3.out.c1.1
          simp only at h1
          go_wp2_with fail
          refine (HPK.out _ HRS3.out).mono ?_
          rintro e w4 ⟨rfl, q, hq⟩
          have HRS4 := Lib.hid (HRS3.out.drewN q)
          have HT4 := Lib.hid (HT3.out.drewN q)
          rw [← hq] at HRS4 HT4
          clear hq
          have h1 := HRS4.out.c1
          obtain ⟨h1, h1f⟩ := h1
          simp only at h1 h1f
          have HRS5 := Lib.hid (HRS4.out.setPos (i + 1) hlt)
          have HT5 : Hid (Touch (fun b => b = br) w (w4.setCell ⟨br, 1, none⟩ (.int .i64 ((i + 1 : Nat) : Int)))) := Lib.hid (Touch.setCell HT4.out (.inl rfl) _)
          have hw1 := IntWalk.i64_in ((i : Int) + 1) (by omega)
          have hw2 := IntWalk.i64_in ((m : Int) * 10) (by omega)
          have hw6 := IntWalk.i64_in ((m : Int) * 10 + ((c : Int) - 48)) (by omega)
          have hw3 : IntKind.u8.wrap ((c : Int) - 48) = (c : Int) - 48 := by unfold IntKind.wrap; simp [IntKind.signed, IntKind.bits]; omega
          have hw7 := IntWalk.i64_in ((c : Int) - 48) (by omega)
          go_wp2_with fail
          refine ⟨⟨k + 1, m * 10 + (c - 48), ?_, by omega, HM2.out, ?_, ?_, HT5⟩, ?_⟩
          · congr 1; omega
          · rw [← Nat.add_assoc, HIK.out]; exact HRS5
          · rw [← Nat.add_assoc, HIK.out]; exact HD2
          · show s.size - cellI (w4.setCell ⟨br, 1, none⟩ (.int .i64 ((i + 1 : Nat) : Int))) br 1 < _
            rw [cellI_at HRS5.out.c1.1, cellI_at HRS.out.c1.1]
            show s.size - (i + 1) < s.size - i
            omega
        · have x3 : decide ((i : Int) < (st.pos : Int) + 4) = false := decide_eq_false (by have := HIK.out; omega)
          have HRR : Hid ((m, i) = r) := Lib.hid (by rw [← HD.out, show 4 - k = 0 by omega]; rfl)
          clear hd
          go_wp2_with fail
          refine (HEN.out _ HRS.out).mono ?_
          rintro e w1 ⟨rfl, q, hq⟩
          have HRS1 := Lib.hid (HRS.out.drewN q)
          have HT1 := Lib.hid (HT.out.drewN q)
          rw [← hq] at HRS1 HT1
          clear hq
          go_wp2_with fail
          refine (HPK.out _ HRS1.out).mono ?_
          rintro e w2 ⟨rfl, q, hq⟩
          have HRS2 := Lib.hid (HRS1.out.drewN q)
          have HT2 := Lib.hid (HT1.out.drewN q)
          rw [← hq] at HRS2 HT2
          clear hq
          go_wp2_with fail
          refine (HPK.out _ HRS2.out).mono ?_
          rintro e w3 ⟨rfl, q, hq⟩
          have HRS3 := Lib.hid (HRS2.out.drewN q)
          have HT3 := Lib.hid (HT2.out.drewN q)
          rw [← hq] at HRS3 HT3
          clear hq
          have h1 := HRS3.out.c1.1
          simp only at h1
          have HRSX := HRS3
          have HTX := HT3
          have h0 := HRSX.out.c0
          have h1 := HRSX.out.c1.1
          simp only at h1
          by_cases e1 : st.pos < i
          · have b1 : decide ((st.pos : Int) < (i : Int)) = true := decide_eq_true (by omega)
            have b1n : decide (st.pos < i) = true := decide_eq_true (by omega)
            by_cases e2 : m ≤ 100
            · have b2 : decide ((m : Int) ≤ 100) = true := decide_eq_true (by omega)
              have b2n : decide (m ≤ 100) = true := decide_eq_true (by omega)
              have hfl : st.pos < s.size := by omega
              have hpk := pk_lt hfl
              obtain ⟨d, hd0⟩ : ∃ d, (s[st.pos]'hfl).toNat = d := ⟨_, rfl⟩
              rw [hd0] at hpk
              have HPD := Lib.hid hpk
              clear hpk
              by_cases e3 : d = 48
              · have b3 : ((d : Int) == 48) = true := by simp; omega
                have b3' : ((d : Int) != 48) = false := by rw [bne, b3]; rfl
                by_cases e4 : i = st.pos + 1
                · have b4 : ((i : Int) == (st.pos : Int) + 1) = true := by simp; omega
                  have HX : Hid (cntOk (str s) st.pos r = true) := Lib.hid (by rw [← HRR.out]; unfold cntOk; rw [HPD.out]; simp [e2, e4])
                  clear e1 e2 e3 e4
                  go_wp2_with fail
                  go_quiet (fail)
                  go_wp2_with fail
                  go_ret2
                  rw [HX.out, ← HRR.out]
                  exact ⟨rfl, HRSX.out.drewN _, HTX.out.drewN _⟩
                · have b4 : ((i : Int) == (st.pos : Int) + 1) = false := by simp; omega
                  have HX : Hid (cntOk (str s) st.pos r = false) := Lib.hid (by rw [← HRR.out]; unfold cntOk; rw [HPD.out, e3]; simp [e1, e2, e4])
                  clear e1 e2 e3 e4
                  go_wp2_with fail
                  go_quiet (fail)
                  go_wp2_with fail
                  go_ret2
                  rw [HX.out, ← HRR.out]
                  exact ⟨rfl, HRSX.out.drewN _, HTX.out.drewN _⟩
              · have b3 : ((d : Int) == 48) = false := by simp; omega
                have b3' : ((d : Int) != 48) = true := by rw [bne, b3]; rfl
                have HX : Hid (cntOk (str s) st.pos r = true) := Lib.hid (by rw [← HRR.out]; unfold cntOk; rw [HPD.out]; simp [e1, e2, e3])
                clear e1 e2 e3
                go_wp2_with fail
                go_quiet (fail)
                go_wp2_with fail
                go_ret2
                rw [HX.out, ← HRR.out]
                exact ⟨rfl, HRSX.out.drewN _, HTX.out.drewN _⟩
            · have b2 : decide ((m : Int) ≤ 100) = false := decide_eq_false (by omega)
              have b2n : decide (m ≤ 100) = false := decide_eq_false (by omega)
              have HX : Hid (cntOk (str s) st.pos r = false) := Lib.hid (by rw [← HRR.out]; unfold cntOk; simp [e2])
              clear e1 e2
              go_wp2_with fail
              go_quiet (fail)
              go_wp2_with fail
              go_ret2
              rw [HX.out, ← HRR.out]
              exact ⟨rfl, HRSX.out.drewN _, HTX.out.drewN _⟩
          · have b1 : decide ((st.pos : Int) < (i : Int)) = false := decide_eq_false (by omega)
            have b1n : decide (st.pos < i) = false := decide_eq_false (by omega)
            have HX : Hid (cntOk (str s) st.pos r = false) := Lib.hid (by rw [← HRR.out]; unfold cntOk; simp [e1])
            clear e1
            go_wp2_with fail
            go_quiet (fail)
            go_wp2_with fail
            go_ret2
            rw [HX.out, ← HRR.out]
            exact ⟨rfl, HRSX.out.drewN _, HTX.out.drewN _⟩
      · have HRR : Hid ((m, i) = r) := Lib.hid (by rw [← HD.out, digs4_off (by rw [HC.out]; exact hd)])
        by_cases hlo : 48 ≤ c
        · have x1 : decide ((48 : Int) ≤ (c : Int)) = true := decide_eq_true (by omega)
          have x2 : decide ((c : Int) ≤ 57) = false := decide_eq_false (by
            have : ¬ (48 ≤ c ∧ c ≤ 57) := fun h => hd (by simp [isDig]; exact h)
            omega)
          clear hd
          go_wp2_with fail
          refine (HEN.out _ HRS.out).mono ?_
          rintro e w1 ⟨rfl, q, hq⟩
          have HRS1 := Lib.hid (HRS.out.drewN q)
          have HT1 := Lib.hid (HT.out.drewN q)
          rw [← hq] at HRS1 HT1
          clear hq
          go_wp2_with fail
          refine (HPK.out _ HRS1.out).mono ?_
          rintro e w2 ⟨rfl, q, hq⟩
          have HRS2 := Lib.hid (HRS1.out.drewN q)
          have HT2 := Lib.hid (HT1.out.drewN q)
          rw [← hq] at HRS2 HT2
          clear hq
          go_wp2_with fail
          refine (HPK.out _ HRS2.out).mono ?_
          rintro e w3 ⟨rfl, q, hq⟩
          have HRS3 := Lib.hid (HRS2.out.drewN q)
          have HT3 := Lib.hid (HT2.out.drewN q)
          rw [← hq] at HRS3 HT3
          clear hq
          have HRSX := HRS3
          have HTX := HT3
          have h0 := HRSX.out.c0
          have h1 := HRSX.out.c1.1
          simp only at h1
          by_cases e1 : st.pos < i
          · have b1 : decide ((st.pos : Int) < (i : Int)) = true := decide_eq_true (by omega)
            have b1n : decide (st.pos < i) = true := decide_eq_true (by omega)
            by_cases e2 : m ≤ 100
            · have b2 : decide ((m : Int) ≤ 100) = true := decide_eq_true (by omega)
              have b2n : decide (m ≤ 100) = true := decide_eq_true (by omega)
              have hfl : st.pos < s.size := by omega
              have hpk := pk_lt hfl
              obtain ⟨d, hd0⟩ : ∃ d, (s[st.pos]'hfl).toNat = d := ⟨_, rfl⟩
              rw [hd0] at hpk
              have HPD := Lib.hid hpk
              clear hpk
              by_cases e3 : d = 48
              · have b3 : ((d : Int) == 48) = true := by simp; omega
                have b3' : ((d : Int) != 48) = false := by rw [bne, b3]; rfl
                by_cases e4 : i = st.pos + 1
                · have b4 : ((i : Int) == (st.pos : Int) + 1) = true := by simp; omega
                  have HX : Hid (cntOk (str s) st.pos r = true) := Lib.hid (by rw [← HRR.out]; unfold cntOk; rw [HPD.out]; simp [e2, e4])
                  clear e1 e2 e3 e4
                  go_wp2_with fail
                  go_quiet (fail)
                  go_wp2_with fail
                  go_ret2
                  rw [HX.out, ← HRR.out]
                  exact ⟨rfl, HRSX.out.drewN _, HTX.out.drewN _⟩
                · have b4 : ((i : Int) == (st.pos : Int) + 1) = false := by simp; omega
                  have HX : Hid (cntOk (str s) st.pos r = false) := Lib.hid (by rw [← HRR.out]; unfold cntOk; rw [HPD.out, e3]; simp [e1, e2, e4])
                  clear e1 e2 e3 e4
                  go_wp2_with fail
                  go_quiet (fail)
                  go_wp2_with fail
                  go_ret2
                  rw [HX.out, ← HRR.out]
                  exact ⟨rfl, HRSX.out.drewN _, HTX.out.drewN _⟩
              · have b3 : ((d : Int) == 48) = false := by simp; omega
                have b3' : ((d : Int) != 48) = true := by rw [bne, b3]; rfl
                have HX : Hid (cntOk (str s) st.pos r = true) := Lib.hid (by rw [← HRR.out]; unfold cntOk; rw [HPD.out]; simp [e1, e2, e3])
                clear e1 e2 e3
                go_wp2_with fail
                go_quiet (fail)
                go_wp2_with fail
                go_ret2
                rw [HX.out, ← HRR.out]
                exact ⟨rfl, HRSX.out.drewN _, HTX.out.drewN _⟩
            · have b2 : decide ((m : Int) ≤ 100) = false := decide_eq_false (by omega)
              have b2n : decide (m ≤ 100) = false := decide_eq_false (by omega)
              have HX : Hid (cntOk (str s) st.pos r = false) := Lib.hid (by rw [← HRR.out]; unfold cntOk; simp [e2])
              clear e1 e2
              go_wp2_with fail
              go_quiet (fail)
              go_wp2_with fail
              go_ret2
              rw [HX.out, ← HRR.out]
              exact ⟨rfl, HRSX.out.drewN _, HTX.out.drewN _⟩
          · have b1 : decide ((st.pos : Int) < (i : Int)) = false := decide_eq_false (by omega)
            have b1n : decide (st.pos < i) = false := decide_eq_false (by omega)
            have HX : Hid (cntOk (str s) st.pos r = false) := Lib.hid (by rw [← HRR.out]; unfold cntOk; simp [e1])
            clear e1
            go_wp2_with fail
            go_quiet (fail)
            go_wp2_with fail
            go_ret2
            rw [HX.out, ← HRR.out]
            exact ⟨rfl, HRSX.out.drewN _, HTX.out.drewN _⟩
        · have x1 : decide ((48 : Int) ≤ (c : Int)) = false := decide_eq_false (by omega)
          clear hd
          go_wp2_with fail
          refine (HEN.out _ HRS.out).mono ?_
          rintro e w1 ⟨rfl, q, hq⟩
          have HRS1 := Lib.hid (HRS.out.drewN q)
          have HT1 := Lib.hid (HT.out.drewN q)
          rw [← hq] at HRS1 HT1
          clear hq
          go_wp2_with fail
          refine (HPK.out _ HRS1.out).mono ?_
          rintro e w2 ⟨rfl, q, hq⟩
          have HRS2 := Lib.hid (HRS1.out.drewN q)
          have HT2 := Lib.hid (HT1.out.drewN q)
          rw [← hq] at HRS2 HT2
          clear hq
          have HRSX := HRS2
          have HTX := HT2
          have h0 := HRSX.out.c0
          have h1 := HRSX.out.c1.1
          simp only at h1
          by_cases e1 : st.pos < i
          · have b1 : decide ((st.pos : Int) < (i : Int)) = true := decide_eq_true (by omega)
            have b1n : decide (st.pos < i) = true := decide_eq_true (by omega)
            by_cases e2 : m ≤ 100
            · have b2 : decide ((m : Int) ≤ 100) = true := decide_eq_true (by omega)
              have b2n : decide (m ≤ 100) = true := decide_eq_true (by omega)
              have hfl : st.pos < s.size := by omega
              have hpk := pk_lt hfl
              obtain ⟨d, hd0⟩ : ∃ d, (s[st.pos]'hfl).toNat = d := ⟨_, rfl⟩
              rw [hd0] at hpk
              have HPD := Lib.hid hpk
              clear hpk
              by_cases e3 : d = 48
              · have b3 : ((d : Int) == 48) = true := by simp; omega
                have b3' : ((d : Int) != 48) = false := by rw [bne, b3]; rfl
                by_cases e4 : i = st.pos + 1
                · have b4 : ((i : Int) == (st.pos : Int) + 1) = true := by simp; omega
                  have HX : Hid (cntOk (str s) st.pos r = true) := Lib.hid (by rw [← HRR.out]; unfold cntOk; rw [HPD.out]; simp [e2, e4])
                  clear e1 e2 e3 e4
                  go_wp2_with fail
                  go_quiet (fail)
                  go_wp2_with fail
                  go_ret2
                  rw [HX.out, ← HRR.out]
                  exact ⟨rfl, HRSX.out.drewN _, HTX.out.drewN _⟩
                · have b4 : ((i : Int) == (st.pos : Int) + 1) = false := by simp; omega
                  have HX : Hid (cntOk (str s) st.pos r = false) := Lib.hid (by rw [← HRR.out]; unfold cntOk; rw [HPD.out, e3]; simp [e1, e2, e4])
                  clear e1 e2 e3 e4
                  go_wp2_with fail
                  go_quiet (fail)
                  go_wp2_with fail
                  go_ret2
                  rw [HX.out, ← HRR.out]
                  exact ⟨rfl, HRSX.out.drewN _, HTX.out.drewN _⟩
              · have b3 : ((d : Int) == 48) = false := by simp; omega
                have b3' : ((d : Int) != 48) = true := by rw [bne, b3]; rfl
                have HX : Hid (cntOk (str s) st.pos r = true) := Lib.hid (by rw [← HRR.out]; unfold cntOk; rw [HPD.out]; simp [e1, e2, e3])
                clear e1 e2 e3
                go_wp2_with fail
                go_quiet (fail)
                go_wp2_with fail
                go_ret2
                rw [HX.out, ← HRR.out]
                exact ⟨rfl, HRSX.out.drewN _, HTX.out.drewN _⟩
            · have b2 : decide ((m : Int) ≤ 100) = false := decide_eq_false (by omega)
              have b2n : decide (m ≤ 100) = false := decide_eq_false (by omega)
              have HX : Hid (cntOk (str s) st.pos r = false) := Lib.hid (by rw [← HRR.out]; unfold cntOk; simp [e2])
              clear e1 e2
              go_wp2_with fail
              go_quiet (fail)
              go_wp2_with fail
              go_ret2
              rw [HX.out, ← HRR.out]
              exact ⟨rfl, HRSX.out.drewN _, HTX.out.drewN _⟩
          · have b1 : decide ((st.pos : Int) < (i : Int)) = false := decide_eq_false (by omega)
            have b1n : decide (st.pos < i) = false := decide_eq_false (by omega)
            have HX : Hid (cntOk (str s) st.pos r = false) := Lib.hid (by rw [← HRR.out]; unfold cntOk; simp [e1])
            clear e1
            go_wp2_with fail
            go_quiet (fail)
            go_wp2_with fail
            go_ret2
            rw [HX.out, ← HRR.out]
            exact ⟨rfl, HRSX.out.drewN _, HTX.out.drewN _⟩
end Go.Proofs.YtlgpilcjcomacaaGreat
