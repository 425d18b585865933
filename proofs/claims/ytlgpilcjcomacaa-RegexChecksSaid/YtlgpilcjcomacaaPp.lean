/-
  The program's Check, Groups.
-/
import Derived.Test.YtlgpilcjcomacaaPo
namespace Go.Proofs.Ytlgpilcjcomacaa
open Go.RowKit Rx
set_option linter.unusedVariables false

def checkV : Option (Re × Nat) → Int
  | none => 4
  | some _ => 0
def groupsV : Option (Re × Nat) → Nat
  | none => 0
  | some x => x.2

set_option maxRecDepth 100000 in
theorem check_any (s : ByteArray) (w : World) :
    Calls Try.prog 21 #[.string s] w fun e w' => e = .returned (.int .i64 (checkV (readP (str s)))) ∧ Still w w' := by
  have h0 := asked_any s ⟨#[]⟩ 0 0 w
  generalize readP (str s) = rr at h0 ⊢
  have HA := Lib.hid h0
  clear h0
  go_enter Try.func21, Try.ntmps21
  go_wp2_with fail
  refine HA.out.mono ?_
  intro e w1 hG
  clear HA
  cases rr with
  | none =>
    obtain ⟨rfl, ht⟩ := hG
    have HT := Lib.hid ht
    clear ht
    go_wp2_with fail
    go_ret
    exact ⟨rfl, HT.out⟩
  | some x =>
    obtain ⟨a, G⟩ := x
    rcases hG with ⟨h, -⟩ | ⟨-, b, rfl, ht, hrd⟩
    · exact absurd h (by decide)
    · have HT := Lib.hid ht
      clear ht hrd
      go_wp2_with fail
      go_ret
      exact ⟨rfl, HT.out⟩

set_option maxRecDepth 100000 in
theorem groups_any (s : ByteArray) (w : World) :
    Calls Try.prog 15 #[.string s] w fun e w' => e = .returned (.tuple #[.int .i64 (groupsV (readP (str s)) : Int), .int .i64 (checkV (readP (str s)))]) ∧ Still w w' := by
  have h0 := asked_any s ⟨#[]⟩ 0 0 w
  generalize readP (str s) = rr at h0 ⊢
  have HA := Lib.hid h0
  clear h0
  go_enter Try.func15, Try.ntmps15
  go_wp2_with fail
  refine HA.out.mono ?_
  intro e w1 hG
  clear HA
  cases rr with
  | none =>
    obtain ⟨rfl, ht⟩ := hG
    have HT := Lib.hid ht
    clear ht
    go_wp2_with fail
    go_ret2
    exact ⟨rfl, HT.out⟩
  | some x =>
    obtain ⟨a, G⟩ := x
    rcases hG with ⟨h, -⟩ | ⟨-, b, rfl, ht, hrd⟩
    · exact absurd h (by decide)
    · have HT := Lib.hid ht
      clear ht hrd
      go_wp2_with fail
      go_ret2
      exact ⟨rfl, HT.out⟩
end Go.Proofs.Ytlgpilcjcomacaa
