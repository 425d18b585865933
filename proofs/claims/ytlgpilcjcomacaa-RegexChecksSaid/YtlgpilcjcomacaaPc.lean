/-
  The program's reader: number.
-/
import Derived.Test.YtlgpilcjcomacaaPb
namespace Go.Proofs.Ytlgpilcjcomacaa
open Go.RowKit Rx
set_option linter.unusedVariables false

/-- A number in a cell. -/
def cellI (w : World) (b o : Nat) : Nat := match w.cell? ⟨b, o, none⟩ with | some v => (intOf v).toNat | none => 0
theorem cellI_at {w : World} {b o j : Nat} (h : w.cell? ⟨b, o, none⟩ = some (.int .i64 (j : Int))) : cellI w b o = j := by
  unfold cellI
  simp [h, intOf]

theorem digs_stop {s : List UInt8} {f i n : Nat} (h : isDig (pk s i) = false) : digs s f i n = (n, i) := by
  cases f with
  | zero => rfl
  | succ f => exact if_neg (by rw [h]; decide)
theorem digs_go {s : List UInt8} {i n : Nat} (h : isDig (pk s i) = true) (hi : i < s.length) : digs s (s.length + 1 - i) i n = digs s (s.length + 1 - (i + 1)) (i + 1) (min (n * 10 + (pk s i - 48)) 101) := by
  obtain ⟨f, hf⟩ : ∃ f, s.length + 1 - i = f + 1 := ⟨s.length - i, by omega⟩
  rw [hf, show s.length + 1 - (i + 1) = f by omega]
  exact if_pos h
theorem isDig_lt {s : ByteArray} {i : Nat} (h : isDig (pk (str s) i) = true) : i < s.size := by
  rcases Nat.lt_or_ge i s.size with h1 | h1
  · exact h1
  · rw [pk_ge h1] at h; exact absurd h (by decide)

/-- The panic of a malformed pattern. -/
def bad : Ending := .panicked [{ v := .iface 132 (.agg #[]), recovered := false }]
/-- What comes back of a number. -/
def NumPost (br : Nat) (s : ByteArray) (deep : Nat) (st : PS) (w : World) : Option (Nat × Nat) → Ending → World → Prop
  | none, e, w' => e = bad ∧ Touch (fun b => b = br) w w'
  | some (n, j), e, w' => e = .returned (.int .i64 (n : Int)) ∧ RS br s deep { st with pos := j } w' ∧ Touch (fun b => b = br) w w' ∧ n ≤ 100 ∧ st.pos < j

theorem still_drewN {S : Nat → Prop} (w : World) (q : Nat) : Touch S w (w.drewN q) := (Touch.refl _ _).drewN q
theorem RS.drewN {br : Nat} {s : ByteArray} {deep : Nat} {st : PS} {w : World} (h : RS br s deep st w) (q : Nat) : RS br s deep st (w.drewN q) := h.keep (still_drewN (S := fun _ => False) w q) id

set_option maxRecDepth 100000 in
set_option maxHeartbeats 2000000 in
theorem number_any (br : Nat) (s : ByteArray) (deep : Nat) (st : PS) (w : World) (h : RS br s deep st w) :
    Calls Try.prog 114 #[.pointer (some ⟨br, 0, none⟩)] w (NumPost br s deep st w (numP (str s) st.pos)) := by
  obtain ⟨r, hr⟩ : ∃ r, digs (str s) ((str s).length + 1 - st.pos) st.pos 0 = r := ⟨_, rfl⟩
  have HR := Lib.hid hr
  have HN : Hid (numP (str s) st.pos = numOk (str s) st.pos r) := Lib.hid (by unfold numP; rw [hr])
  have h1 := h.c1.1
  have HH := Lib.hid h
  have hsz := h.sz
  have hle0 := h.le
  clear h hr
  go_enter Try.func114, Try.ntmps114
  go_wp2_with fail
  clear h1
  go_loopw [4] (fun n wr => ∃ i m : Nat, n = .int .i64 m ∧ m ≤ 101 ∧ Hid (RS br s deep { st with pos := i } wr) ∧ Hid (st.pos ≤ i) ∧ Hid (digs (str s) ((str s).length + 1 - i) i m = r) ∧ Hid (Touch (fun b => b = br) w wr)) (fun _ wr => s.size - cellI wr br 1)
  case atStart => exact ⟨st.pos, 0, rfl, by omega, HH, Lib.hid (Nat.le_refl _), HR, Lib.hid (Touch.refl _ _)⟩
  case round =>
    obtain ⟨i, m, rfl, hm, HRS, HI, HD, HT⟩ := hrel
    obtain ⟨c, hc⟩ : ∃ c, pk (str s) i = c := ⟨_, rfl⟩
    have hc256 := pk_256 s i
    rw [hc] at hc256
    have HPK : Hid (∀ w, RS br s deep { st with pos := i } w → Calls Try.prog 87 #[.pointer (some ⟨br, 0, none⟩)] w fun e w' => e = .returned (.int .u8 (c : Int)) ∧ RS br s deep { st with pos := i } w' ∧ Still w w') := Lib.hid (fun w h => by rw [← hc]; exact peek_rs br s deep { st with pos := i } w h)
    have HC := Lib.hid hc
    clear hc
    by_cases hd : isDig c = true
    · have hd2 : 48 ≤ c ∧ c ≤ 57 := by simpa [isDig] using hd
      obtain ⟨hd3, hd4⟩ := hd2
      have hlt : i < s.size := isDig_lt (by rw [HC.out]; exact hd)
      have HD2 : Hid (digs (str s) ((str s).length + 1 - (i + 1)) (i + 1) (min (m * 10 + (c - 48)) 101) = r) := Lib.hid (by
        have h2 := digs_go (s := str s) (i := i) (n := m) (by rw [HC.out]; exact hd) (by rw [str_len]; exact hlt)
        rw [← HD.out, h2, HC.out])
      clear hd
      have hd5 : decide ((c : Int) ≤ 57) = true := by simp; omega
      go_wp2_with fail
      refine (HPK.out _ HRS.out).mono ?_
      rintro e w2 ⟨rfl, hrs, ht⟩
      have HRS2 := Lib.hid hrs; have HT2 := Lib.hid ht; clear hrs ht
      go_wp2_with fail
      refine (HPK.out _ HRS2.out).mono ?_
      rintro e w3 ⟨rfl, hrs, ht⟩
      have HRS3 := Lib.hid hrs; have HT3 := Lib.hid ht; clear hrs ht
      go_wp2_with fail
      refine (HPK.out _ HRS3.out).mono ?_
      rintro e w4 ⟨rfl, hrs, ht⟩
      have h1 := hrs.c1
      obtain ⟨h1, h1f⟩ := h1
      have HRS4 := Lib.hid hrs
      have HT4 : Hid (Touch (fun b => b = br) w w4) := Lib.hid (HT.out.then (((HT2.out.then HT3.out).then ht).mono (fun _ _ e => e.elim)))
      clear hrs ht
      have HRS5 := Lib.hid (HRS4.out.setPos (i + 1) hlt)
      have HT5 : Hid (Touch (fun b => b = br) w (w4.setCell ⟨br, 1, none⟩ (.int .i64 ((i : Int) + 1)))) := Lib.hid (Touch.setCell HT4.out (.inl rfl) _)
      have hw1 := IntWalk.i64_in ((i : Int) + 1) (by omega)
      go_wp2_with fail
      refine ⟨⟨i + 1, min (m * 10 + (c - 48)) 101, ?_, by omega, HRS5, Lib.hid (by have := HI.out; omega), HD2, HT5⟩, ?_⟩
      · congr 1; omega
      · show s.size - cellI (w4.setCell ⟨br, 1, none⟩ (.int .i64 ((i + 1 : Nat) : Int))) br 1 < _
        rw [cellI_at HRS5.out.c1.1, cellI_at HRS.out.c1.1]
        show s.size - (i + 1) < s.size - i
        omega
    · have HRR : Hid ((m, i) = r) := Lib.hid (by rw [← HD.out, digs_stop (by rw [HC.out]; simpa using hd)])
      by_cases hlo : c < 48
      · have hx1 : decide (48 ≤ (c : Int)) = false := by simp; omega
        clear hd
        go_wp2_with fail
        refine (HPK.out _ HRS.out).mono ?_
        rintro e w2 ⟨rfl, hrs, ht⟩
        have HRS2 := Lib.hid hrs
        have HT2 : Hid (Touch (fun b => b = br) w w2) := Lib.hid (HT.out.then (ht.mono (fun _ _ e => e.elim)))
        clear hrs ht
        have h1 := HRS2.out.c1.1
        have hs0 := HRS2.out.c0
        by_cases e1 : i = st.pos
        · have hb : ((i : Int) == (st.pos : Int)) = true := by simp [e1]
          go_wp2_with fail
          refine (fail_any _ _).mono ?_
          rintro e w9 ⟨rfl, rfl⟩
          refine ⟨rfl, ?_⟩
          rw [HN.out, ← HRR.out]
          unfold numOk
          rw [if_pos (.inl e1)]
          exact ⟨rfl, HT2.out⟩
        · have hb : ((i : Int) == (st.pos : Int)) = false := by simp; omega
          have hi0 := HI.out
          have hil := HRS2.out.le
          simp only at hil
          by_cases e2 : 100 < m
          · have hb2 : decide ((100 : Int) < (m : Int)) = true := by simp; omega
            go_wp2_with fail
            refine (fail_any _ _).mono ?_
            rintro e w9 ⟨rfl, rfl⟩
            refine ⟨rfl, ?_⟩
            rw [HN.out, ← HRR.out]
            unfold numOk
            rw [if_pos (.inr (.inl e2))]
            exact ⟨rfl, HT2.out⟩
          · have hb2 : decide ((100 : Int) < (m : Int)) = false := by simp; omega
            have hfl : st.pos < s.size := by omega
            have hpk := pk_lt hfl
            obtain ⟨d, hd0⟩ : ∃ d, (s[st.pos]'hfl).toNat = d := ⟨_, rfl⟩
            rw [hd0] at hpk
            have HPD := Lib.hid hpk; clear hpk
            by_cases e3 : d = 48
            · have hb3 : ((d : Int) == 48) = true := by simp; omega
              by_cases e4 : st.pos + 1 < i
              · have hb4 : decide ((st.pos : Int) + 1 < (i : Int)) = true := by simp; omega
                clear e3
                go_wp2_with fail
                refine (fail_any _ _).mono ?_
                rintro e w9 ⟨rfl, rfl⟩
                refine ⟨rfl, ?_⟩
                rw [HN.out, ← HRR.out]
                unfold numOk
                rw [if_pos (.inr (.inr ⟨by rw [HPD.out]; simp at hb3; omega, e4⟩))]
                exact ⟨rfl, HT2.out⟩
              · have hb4 : decide ((st.pos : Int) + 1 < (i : Int)) = false := by simp; omega
                clear e3
                go_wp2_with fail
                go_ret
                rw [HN.out, ← HRR.out]
                unfold numOk
                rw [if_neg (by rintro (h | h | ⟨h, h'⟩); exact e1 h; exact e2 h; exact e4 h')]
                exact ⟨rfl, HRS2.out, HT2.out, by omega, by omega⟩
            · have hb3 : ((d : Int) == 48) = false := by simp; omega
              clear e3
              go_wp2_with fail
              go_ret
              rw [HN.out, ← HRR.out]
              unfold numOk
              rw [if_neg (by rintro (h | h | ⟨h, h'⟩); exact e1 h; exact e2 h; (rw [HPD.out] at h; rw [h] at hb3; exact absurd hb3 (by decide)))]
              exact ⟨rfl, HRS2.out, HT2.out, by omega, by omega⟩
      · have hx1 : decide ((c : Int) ≤ 57) = false := by
          simp
          have : ¬ (48 ≤ c ∧ c ≤ 57) := fun h => hd (by simp [isDig]; exact h)
          omega
        have hx2 : 48 ≤ c := by omega
        clear hd
        go_wp2_with fail
        refine (HPK.out _ HRS.out).mono ?_
        rintro e w2 ⟨rfl, hrs, ht⟩
        have HRS2 := Lib.hid hrs; have HT2 := Lib.hid ht; clear hrs ht
        go_wp2_with fail
        refine (HPK.out _ HRS2.out).mono ?_
        rintro e w3 ⟨rfl, hrs, ht⟩
        have HRS3 := Lib.hid hrs
        have HT3 : Hid (Touch (fun b => b = br) w w3) := Lib.hid (HT.out.then ((HT2.out.then ht).mono (fun _ _ e => e.elim)))
        clear hrs ht
        have h1 := HRS3.out.c1.1
        have hs0 := HRS3.out.c0
        by_cases e1 : i = st.pos
        · have hb : ((i : Int) == (st.pos : Int)) = true := by simp [e1]
          go_wp2_with fail
          refine (fail_any _ _).mono ?_
          rintro e w9 ⟨rfl, rfl⟩
          refine ⟨rfl, ?_⟩
          rw [HN.out, ← HRR.out]
          unfold numOk
          rw [if_pos (.inl e1)]
          exact ⟨rfl, HT3.out⟩
        · have hb : ((i : Int) == (st.pos : Int)) = false := by simp; omega
          have hi0 := HI.out
          have hil := HRS3.out.le
          simp only at hil
          by_cases e2 : 100 < m
          · have hb2 : decide ((100 : Int) < (m : Int)) = true := by simp; omega
            go_wp2_with fail
            refine (fail_any _ _).mono ?_
            rintro e w9 ⟨rfl, rfl⟩
            refine ⟨rfl, ?_⟩
            rw [HN.out, ← HRR.out]
            unfold numOk
            rw [if_pos (.inr (.inl e2))]
            exact ⟨rfl, HT3.out⟩
          · have hb2 : decide ((100 : Int) < (m : Int)) = false := by simp; omega
            have hfl : st.pos < s.size := by omega
            have hpk := pk_lt hfl
            obtain ⟨d, hd0⟩ : ∃ d, (s[st.pos]'hfl).toNat = d := ⟨_, rfl⟩
            rw [hd0] at hpk
            have HPD := Lib.hid hpk; clear hpk
            by_cases e3 : d = 48
            · have hb3 : ((d : Int) == 48) = true := by simp; omega
              by_cases e4 : st.pos + 1 < i
              · have hb4 : decide ((st.pos : Int) + 1 < (i : Int)) = true := by simp; omega
                clear e3
                go_wp2_with fail
                refine (fail_any _ _).mono ?_
                rintro e w9 ⟨rfl, rfl⟩
                refine ⟨rfl, ?_⟩
                rw [HN.out, ← HRR.out]
                unfold numOk
                rw [if_pos (.inr (.inr ⟨by rw [HPD.out]; simp at hb3; omega, e4⟩))]
                exact ⟨rfl, HT3.out⟩
              · have hb4 : decide ((st.pos : Int) + 1 < (i : Int)) = false := by simp; omega
                clear e3
                go_wp2_with fail
                go_ret
                rw [HN.out, ← HRR.out]
                unfold numOk
                rw [if_neg (by rintro (h | h | ⟨h, h'⟩); exact e1 h; exact e2 h; exact e4 h')]
                exact ⟨rfl, HRS3.out, HT3.out, by omega, by omega⟩
            · have hb3 : ((d : Int) == 48) = false := by simp; omega
              clear e3
              go_wp2_with fail
              go_ret
              rw [HN.out, ← HRR.out]
              unfold numOk
              rw [if_neg (by rintro (h | h | ⟨h, h'⟩); exact e1 h; exact e2 h; (rw [HPD.out] at h; rw [h] at hb3; exact absurd hb3 (by decide)))]
              exact ⟨rfl, HRS3.out, HT3.out, by omega, by omega⟩
end Go.Proofs.Ytlgpilcjcomacaa
