/-
  The program's asked, Check, Groups.
-/
import Derived.Test.YtlgpilcjcomacaaPn
namespace Go.Proofs.Ytlgpilcjcomacaa
open Go.RowKit Rx
set_option linter.unusedVariables false

/-- Whether what is asked lies in its bounds. -/
def askOK (z : Nat) (fr bu : Int) : Bool := decide (z ≤ 5000 ∧ 0 ≤ fr ∧ fr ≤ (z : Int) ∧ 0 ≤ bu ∧ bu ≤ 1000000)

def AskPost (w : World) (ok : Bool) : Option (Re × Nat) → Ending → World → Prop
  | none, e, w' => e = .returned (.tuple #[.pointer none, .int .i64 0, .int .i64 4]) ∧ Still w w'
  | some (a, G), e, w' => (ok = false ∧ e = .returned (.tuple #[.pointer none, .int .i64 0, .int .i64 1]) ∧ Still w w') ∨
      (ok = true ∧ ∃ b, e = .returned (.tuple #[.pointer (some ⟨b, 0, none⟩), .int .i64 (G : Int), .int .i64 0]) ∧ Still w w' ∧ (rd (FP w.heap.size w'.heap.size) w' 9 (.grp 0 a)).node (.pointer (some ⟨b, 0, none⟩)) ∧ G ≤ 9)

set_option maxRecDepth 100000 in
set_option maxHeartbeats 8000000 in
theorem asked_any (s t : ByteArray) (fr bu : Int) (w : World) :
    Calls Try.prog 28 #[.string s, .string t, .int .i64 fr, .int .i64 bu] w (AskPost w (askOK t.size fr bu) (readP (str s))) := by
  have h0 := read_any s w
  generalize readP (str s) = rr at h0 ⊢
  have HRD := Lib.hid h0
  clear h0
  go_enter Try.func28, Try.ntmps28
  go_wp2_with fail
  refine HRD.out.mono ?_
  intro e w1 hG
  clear HRD
  cases rr with
  | none =>
    obtain ⟨rfl, ht⟩ := hG
    have HT := Lib.hid ht
    clear ht
    go_wp2_with fail
    go_ret3
    exact ⟨rfl, HT.out⟩
  | some x =>
    obtain ⟨a, G⟩ := x
    obtain ⟨b, rfl, ht, hrd, hg9⟩ := hG
    have HG9 := Lib.hid hg9
    clear hg9
    have HT := Lib.hid ht
    have HN := Lib.hid hrd
    clear ht hrd
    by_cases h1 : 5000 < t.size
    · have q1 : decide (5000 < (t.size : Int)) = true := by simp; omega
      have HB : Hid (askOK t.size fr bu = false) := Lib.hid (decide_eq_false (by omega))
      go_wp2_with fail
      go_ret3
      exact .inl ⟨HB.out, rfl, HT.out⟩
    · have q1 : decide (5000 < (t.size : Int)) = false := by simp; omega
      by_cases h2 : fr < 0
      · have q2 : decide (fr < 0) = true := by simp; omega
        have HB : Hid (askOK t.size fr bu = false) := Lib.hid (decide_eq_false (by omega))
        go_wp2_with fail
        go_ret3
        exact .inl ⟨HB.out, rfl, HT.out⟩
      · have q2 : decide (fr < 0) = false := by simp; omega
        by_cases h3 : (t.size : Int) < fr
        · have q3 : decide ((t.size : Int) < fr) = true := by simp; omega
          have HB : Hid (askOK t.size fr bu = false) := Lib.hid (decide_eq_false (by omega))
          go_wp2_with fail
          go_ret3
          exact .inl ⟨HB.out, rfl, HT.out⟩
        · have q3 : decide ((t.size : Int) < fr) = false := by simp; omega
          by_cases h4 : bu < 0
          · have q4 : decide (bu < 0) = true := by simp; omega
            have HB : Hid (askOK t.size fr bu = false) := Lib.hid (decide_eq_false (by omega))
            go_wp2_with fail
            go_ret3
            exact .inl ⟨HB.out, rfl, HT.out⟩
          · have q4 : decide (bu < 0) = false := by simp; omega
            by_cases h5 : 1000000 < bu
            · have q5 : decide (1000000 < bu) = true := by simp; omega
              have HB : Hid (askOK t.size fr bu = false) := Lib.hid (decide_eq_false (by omega))
              go_wp2_with fail
              go_ret3
              exact .inl ⟨HB.out, rfl, HT.out⟩
            · have q5 : decide (1000000 < bu) = false := by simp; omega
              have HB : Hid (askOK t.size fr bu = true) := Lib.hid (decide_eq_true (by omega))
              go_wp2_with fail
              go_ret3
              exact .inr ⟨HB.out, b, rfl, HT.out, HN.out, HG9.out⟩
end Go.Proofs.Ytlgpilcjcomacaa
