/-
  Texts Rr, Rs, Rt in one.
-/
import Derived.Test.YtlgpilcjcomacaaGreatBh
import Derived.Test.YtlgpilcjcomacaaGreatAi
/-
  The document's read.
-/
namespace Go.Proofs.YtlgpilcjcomacaaGreat
open Go.RowKit Rx
set_option linter.unusedVariables false

/-- What comes back of the document's read. -/
def ReadD (w : World) : Option (Re × Nat) → Ending → World → Prop
  | none, e, w' => ∃ (p : Option Addr) (G : Int), e = .returned (.tuple #[.pointer p, .int .i64 G, .bool false]) ∧ Still w w'
  | some (a, G), e, w' => ∃ b : Nat, e = .returned (.tuple #[.pointer (some ⟨b, 0, none⟩), .int .i64 (G : Int), .bool true]) ∧ Still w w' ∧ EitherD (FP w.heap.size w'.heap.size) w' (rdD (FP w.heap.size w'.heap.size) w' a).ways (.pointer (some ⟨b, 0, none⟩)) ∧ G ≤ 9

set_option maxRecDepth 100000 in
set_option maxHeartbeats 8000000 in
theorem rread_any (s : ByteArray) (w : World) :
    Calls Tryz.prog 43 #[.string s] w (ReadD w (readP (str s))) := by
  by_cases hlen : 300 < s.size
  · have HR : Hid (readP (str s) = none) := Lib.hid (by unfold readP; rw [str_len, if_pos hlen])
    have q1 : decide (300 < (s.size : Int)) = true := by simp; omega
    go_enter Tryz.func43, Tryz.ntmps43
    go_wp2_with fail
    go_ret3
    rw [HR.out]
    exact ⟨_, _, rfl, Touch.refl _ _⟩
  · have hr : readP (str s) = readEnd (str s) (waysP (str s) 11 ⟨0, 0, 0⟩) := by unfold readP; rw [str_len, if_neg hlen]
    have HR := Lib.hid hr
    have q1 : decide (300 < (s.size : Int)) = false := by simp; omega
    have hsz : s.size ≤ 300 := by omega
    obtain ⟨br, hbr⟩ : ∃ br, w.heap.size = br := ⟨_, rfl⟩
    have HBR := Lib.hid hbr
    obtain ⟨w1, hw1⟩ : ∃ w1, w.alloc (.cells #[.string s, .int .i64 0, .int .i64 0, .int .i64 0, .int .i64 0, .bool false] 126) = w1 := ⟨_, rfl⟩
    have hH : ∀ i v, (#[.string s, .int .i64 0, .int .i64 0, .int .i64 0, .int .i64 0, .bool false] : Array Value)[i]? = some v → Holds w1 br i v := fun i v hv => by
      rw [← hw1, ← hbr]; exact Holds.made w _ 126 i v hv
    have HRS1 : Hid (RR br s 0 ⟨0, 0, 0⟩ w1) := Lib.hid ⟨(hH 0 _ rfl).1, hH 1 _ rfl, hH 2 _ rfl, hH 3 _ rfl, hH 4 _ rfl, hH 5 _ rfl, Nat.zero_le _, hsz, Nat.zero_le _, Nat.zero_le _, Nat.zero_le _⟩
    have HT1 : Hid (Still w w1) := Lib.hid (by rw [← hw1]; exact (Touch.refl _ _).alloc _)
    have HZ1 : Hid (w1.heap.size = br + 1) := Lib.hid (by rw [← hw1, ← hbr]; simp)
    have HW := Lib.hid ((walts br s 11 (Nat.le_refl _)).2.2 (by decide) ⟨0, 0, 0⟩ w1 HRS1.out)
    clear hr hlen hH
    go_enter Tryz.func43, Tryz.ntmps43
    go_wp2_with fail
    refine HW.out.mono ?_
    clear HW hw1
    intro e w5 hG
    cases hw : waysP (str s) 11 ⟨0, 0, 0⟩ with
    | none =>
      rw [hw] at hG
      obtain ⟨pv, rfl, hrx, ht⟩ := hG
      have HR2 : Hid (readP (str s) = none) := Lib.hid (by rw [HR.out, hw]; rfl)
      have HTW : Hid (Still w w5) := Lib.hid (HT1.out.trans ht (fun i e => .inr (by have h1 := HBR.out; omega)))
      have hc5 := hrx.c5
      obtain ⟨hc5, hc5f⟩ := hc5
      obtain ⟨x, hx2⟩ := hrx.c2
      obtain ⟨hx2, hx2f⟩ := hx2
      clear hrx ht hw
      go_wp2_with fail
      go_quiet (fail)
      go_wp2_with fail
      go_ret3
      rw [HR2.out]
      exact ⟨_, _, rfl, HTW.out.drewN nq⟩
    | some t =>
      obtain ⟨a, p2, g2, r2⟩ := t
      rw [hw] at hG
      obtain ⟨b, rfl, hrs, ht, hei⟩ := hG
      have hres := HR.out
      rw [hw] at hres
      have HRES := Lib.hid hres
      have HRS5 := Lib.hid hrs
      have HTW : Hid (Still w w5) := Lib.hid (HT1.out.trans ht (fun i e => .inr (by have h1 := HBR.out; omega)))
      have HEI := Lib.hid hei
      have hc5 := hrs.c5
      obtain ⟨hc5, hc5f⟩ := hc5
      have hc2 := hrs.c2
      obtain ⟨hc2, hc2f⟩ := hc2
      have hc4 := hrs.c4
      obtain ⟨hc4, hc4f⟩ := hc4
      simp only at hc2 hc4
      have hple : p2 ≤ s.size := hrs.le
      have HENQ : Hid (∀ w', RR br s 0 ⟨p2, g2, r2⟩ w' → Calls Tryz.prog 57 #[.pointer (some ⟨br, 0, none⟩)] w' fun e w'' => e = .returned (.bool (decide (s.size ≤ p2))) ∧ ∃ q, w'' = w'.drewN q) := Lib.hid (fun w' h => rend_rr h)
      clear hw hres hrs ht hei HR
      have hbad : Hid ((p2 < s.size ∨ g2 < r2) → readP (str s) = none) := Lib.hid (fun h => by rw [HRES.out]; unfold readEnd; dsimp only; rw [str_len, if_pos h])
      by_cases r1 : s.size ≤ p2
      · have qa : decide (s.size ≤ p2) = true := decide_eq_true r1
        by_cases r2' : r2 ≤ g2
        · have qb : decide ((r2 : Int) ≤ (g2 : Int)) = true := decide_eq_true (by omega)
          have qbn : decide (r2 ≤ g2) = true := decide_eq_true r2'
          have HR2 : Hid (readP (str s) = some (a, g2)) := Lib.hid (by rw [HRES.out]; unfold readEnd; dsimp only; rw [str_len, if_neg (by omega)])
          clear hbad HRES r2' r1
          go_wp2_with fail
          go_quiet ((go_at_call 57; exact Calls.quiet_of (HENQ.out _ (by first | exact HRS5.out | exact HRS5.out.drewN _))))
          go_wp2_with fail
          go_ret3
          rw [HR2.out]
          refine ⟨b, rfl, HTW.out.drewN nq, ?_, HRS5.out.gs⟩
          have h1 := HBR.out
          have h2 := HZ1.out
          exact EitherD.mono (F := FP w1.heap.size w5.heap.size) (w := w5) (w' := w5.drewN nq) (fun i h => ⟨by have h3 := h.1; omega, h.2⟩) (fun i h hl => rfl) HEI.out
        · have qb : decide ((r2 : Int) ≤ (g2 : Int)) = false := decide_eq_false (by omega)
          have qbn : decide (r2 ≤ g2) = false := decide_eq_false r2'
          have HR2 := Lib.hid (hbad.out (.inr (by omega)))
          clear hbad HRES r2' r1
          go_wp2_with fail
          go_quiet ((go_at_call 57; exact Calls.quiet_of (HENQ.out _ (by first | exact HRS5.out | exact HRS5.out.drewN _))))
          go_wp2_with fail
          go_ret3
          rw [HR2.out]
          exact ⟨_, _, rfl, HTW.out.drewN nq⟩
      · have qa : decide (s.size ≤ p2) = false := decide_eq_false r1
        have HR2 := Lib.hid (hbad.out (.inl (by omega)))
        clear hbad HRES r1
        go_wp2_with fail
        go_quiet ((go_at_call 57; exact Calls.quiet_of (HENQ.out _ (by first | exact HRS5.out | exact HRS5.out.drewN _))))
        go_wp2_with fail
        go_ret3
        rw [HR2.out]
        exact ⟨_, _, rfl, HTW.out.drewN nq⟩
end Go.Proofs.YtlgpilcjcomacaaGreat

/-
  The document's asked.
-/
namespace Go.Proofs.YtlgpilcjcomacaaGreat
open Go.RowKit Rx
set_option linter.unusedVariables false

/-- What comes back of the document's asked. -/
def AskD (w : World) (ok : Bool) : Option (Re × Nat) → Ending → World → Prop
  | none, e, w' => e = .returned (.tuple #[.pointer none, .int .i64 0, .int .i64 4]) ∧ Still w w'
  | some (a, G), e, w' => (ok = false ∧ e = .returned (.tuple #[.pointer none, .int .i64 0, .int .i64 1]) ∧ Still w w') ∨
      (ok = true ∧ ∃ b : Nat, e = .returned (.tuple #[.pointer (some ⟨b, 0, none⟩), .int .i64 (G : Int), .int .i64 0]) ∧ Still w w' ∧ EitherD (FP w.heap.size w'.heap.size) w' (rdD (FP w.heap.size w'.heap.size) w' a).ways (.pointer (some ⟨b, 0, none⟩)) ∧ G ≤ 9)

set_option maxRecDepth 100000 in
set_option maxHeartbeats 8000000 in
theorem rasked_any (s t : ByteArray) (fr bu : Int) (w : World) :
    Calls Tryz.prog 40 #[.string s, .string t, .int .i64 fr, .int .i64 bu] w (AskD w (askOK t.size fr bu) (readP (str s))) := by
  have h0 := rread_any s w
  generalize readP (str s) = rr at h0 ⊢
  have HRD := Lib.hid h0
  clear h0
  go_enter Tryz.func40, Tryz.ntmps40
  go_wp2_with fail
  refine HRD.out.mono ?_
  intro e w1 hG
  clear HRD
  cases rr with
  | none =>
    obtain ⟨pv, gv, rfl, ht⟩ := hG
    have HT := Lib.hid ht
    clear ht
    go_wp2_with fail
    go_ret3
    exact ⟨rfl, HT.out⟩
  | some x =>
    obtain ⟨a, G⟩ := x
    obtain ⟨b, rfl, ht, hrd, hg9⟩ := hG
    have HG9 := Lib.hid hg9
    clear hg9
    have HT := Lib.hid ht
    have HN := Lib.hid hrd
    clear ht hrd
    by_cases h1 : 5000 < t.size
    · have q1 : decide (5000 < (t.size : Int)) = true := by simp; omega
      have HB : Hid (askOK t.size fr bu = false) := Lib.hid (decide_eq_false (by omega))
      go_wp2_with fail
      go_ret3
      exact .inl ⟨HB.out, rfl, HT.out⟩
    · have q1 : decide (5000 < (t.size : Int)) = false := by simp; omega
      by_cases h2 : fr < 0
      · have q2 : decide (fr < 0) = true := by simp; omega
        have HB : Hid (askOK t.size fr bu = false) := Lib.hid (decide_eq_false (by omega))
        go_wp2_with fail
        go_ret3
        exact .inl ⟨HB.out, rfl, HT.out⟩
      · have q2 : decide (fr < 0) = false := by simp; omega
        by_cases h3 : (t.size : Int) < fr
        · have q3 : decide ((t.size : Int) < fr) = true := by simp; omega
          have HB : Hid (askOK t.size fr bu = false) := Lib.hid (decide_eq_false (by omega))
          go_wp2_with fail
          go_ret3
          exact .inl ⟨HB.out, rfl, HT.out⟩
        · have q3 : decide ((t.size : Int) < fr) = false := by simp; omega
          by_cases h4 : bu < 0
          · have q4 : decide (bu < 0) = true := by simp; omega
            have HB : Hid (askOK t.size fr bu = false) := Lib.hid (decide_eq_false (by omega))
            go_wp2_with fail
            go_ret3
            exact .inl ⟨HB.out, rfl, HT.out⟩
          · have q4 : decide (bu < 0) = false := by simp; omega
            by_cases h5 : 1000000 < bu
            · have q5 : decide (1000000 < bu) = true := by simp; omega
              have HB : Hid (askOK t.size fr bu = false) := Lib.hid (decide_eq_false (by omega))
              go_wp2_with fail
              go_ret3
              exact .inl ⟨HB.out, rfl, HT.out⟩
            · have q5 : decide (1000000 < bu) = false := by simp; omega
              have HB : Hid (askOK t.size fr bu = true) := Lib.hid (decide_eq_true (by omega))
              go_wp2_with fail
              go_ret3
              exact .inr ⟨HB.out, b, rfl, HT.out, HN.out, HG9.out⟩
end Go.Proofs.YtlgpilcjcomacaaGreat

/-
  The document's Check, Groups; the law's 'checks'.
-/
namespace Go.Proofs.YtlgpilcjcomacaaGreat
open Go.RowKit Rx
set_option linter.unusedVariables false

set_option maxRecDepth 100000 in
theorem rcheck_any (s : ByteArray) (w : World) :
    Calls Tryz.prog 27 #[.string s] w fun e w' => e = .returned (.int .i64 (checkV (readP (str s)))) ∧ Still w w' := by
  have h0 := rread_any s w
  generalize readP (str s) = rr at h0 ⊢
  have HA := Lib.hid h0
  clear h0
  go_enter Tryz.func27, Tryz.ntmps27
  go_wp2_with fail
  refine HA.out.mono ?_
  intro e w1 hG
  clear HA
  cases rr with
  | none =>
    obtain ⟨pv, gv, rfl, ht⟩ := hG
    have HT := Lib.hid ht
    clear ht
    go_wp2_with fail
    go_ret
    exact ⟨rfl, HT.out⟩
  | some x =>
    obtain ⟨a, G⟩ := x
    obtain ⟨b, rfl, ht, -, -⟩ := hG
    have HT := Lib.hid ht
    clear ht
    go_wp2_with fail
    go_ret
    exact ⟨rfl, HT.out⟩

set_option maxRecDepth 100000 in
theorem rgroups_any (s : ByteArray) (w : World) :
    Calls Tryz.prog 25 #[.string s] w fun e w' => e = .returned (.tuple #[.int .i64 (groupsV (readP (str s)) : Int), .int .i64 (checkV (readP (str s)))]) ∧ Still w w' := by
  have h0 := rread_any s w
  generalize readP (str s) = rr at h0 ⊢
  have HA := Lib.hid h0
  clear h0
  go_enter Tryz.func25, Tryz.ntmps25
  go_wp2_with fail
  refine HA.out.mono ?_
  intro e w1 hG
  clear HA
  cases rr with
  | none =>
    obtain ⟨pv, gv, rfl, ht⟩ := hG
    have HT := Lib.hid ht
    clear ht
    go_wp2_with fail
    go_ret2
    exact ⟨rfl, HT.out⟩
  | some x =>
    obtain ⟨a, G⟩ := x
    obtain ⟨b, rfl, ht, -, -⟩ := hG
    have HT := Lib.hid ht
    clear ht
    go_wp2_with fail
    go_ret2
    exact ⟨rfl, HT.out⟩

set_option maxRecDepth 100000 in
theorem checks_any (s : ByteArray) (w : World) :
    Calls Tryz.prog 8 #[.string s] w fun e w' => e = .returned (.bool true) ∧ Still w w' := by
  have HP := Lib.hid (fun w => groups_any s w)
  have HQ := Lib.hid (fun w => rgroups_any s w)
  have HC := Lib.hid (fun w => check_any s w)
  have HD := Lib.hid (fun w => rcheck_any s w)
  obtain ⟨g, hg⟩ : ∃ g, groupsV (readP (str s)) = g := ⟨_, rfl⟩
  obtain ⟨c, hc⟩ : ∃ c, checkV (readP (str s)) = c := ⟨_, rfl⟩
  rw [hg, hc] at HP HQ
  rw [hc] at HC HD
  clear hg hc
  go_enter Tryz.func8, Tryz.ntmps8
  go_wp2_with fail
  refine (HP.out _).mono ?_
  rintro e w1 ⟨rfl, h1⟩
  have H1 := Lib.hid h1
  clear h1
  go_wp2_with fail
  refine (HQ.out _).mono ?_
  rintro e w2 ⟨rfl, h2⟩
  have H2 := Lib.hid h2
  clear h2
  go_wp2_with fail
  refine (HC.out _).mono ?_
  rintro e w3 ⟨rfl, h3⟩
  have H3 := Lib.hid h3
  clear h3
  go_wp2_with fail
  refine (HD.out _).mono ?_
  rintro e w4 ⟨rfl, h4⟩
  have H4 := Lib.hid h4
  clear h4
  go_wp2_with fail
  go_ret
  exact ⟨by simp, ((H1.out.then H2.out).then H3.out).then H4.out⟩
end Go.Proofs.YtlgpilcjcomacaaGreat
