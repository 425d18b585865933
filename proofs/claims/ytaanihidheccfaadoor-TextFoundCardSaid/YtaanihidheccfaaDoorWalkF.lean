/-
  The program's door: utf-8's way back.
-/
import Derived.Test.YtaanihidheccfaaDoorWalkD
namespace Go.Proofs.YtaanihidheccfaaDoor
open Go.Shelf Go.RowKit
set_option linter.unusedVariables false

theorem f76out (r : Int) (h : r < 0 ∨ 1114111 < r) (w : World) : Calls Tryd.prog 76 #[.int .i64 r] w fun e w' => e = .returned (.tuple #[.string ⟨#[]⟩, .bool false]) ∧ w' = w := by
  by_cases h1 : r < 0
  · clear h
    go_enter Tryd.func76, Tryd.ntmps76
    go_wp2_with fail
    go_ret2
    exact ⟨rfl, rfl⟩
  · have h2 : 1114111 < r := by omega
    clear h
    go_enter Tryd.func76, Tryd.ntmps76
    go_wp2_with fail
    go_ret2
    exact ⟨rfl, rfl⟩

theorem f76bad (r : Int) (h0 : 0 ≤ r) (h1 : r ≤ 1114111) (hv : Lib.validRune r = false) (w : World) : Calls Tryd.prog 76 #[.int .i64 r] w fun e w' => e = .returned (.tuple #[.string ⟨#[]⟩, .bool false]) ∧ w' = w := by
  have H77 := Lib.hid (Tryd.utf8_ValidRune r w)
  rw [hv] at H77
  clear hv
  have e32 : wrap32 r = r := by unfold wrap32; omega
  go_enter Tryd.func76, Tryd.ntmps76
  go_wp2_with (go_at_call 77; refine H77.out.mono ?_; rintro e w2 ⟨rfl, rfl⟩)
  go_ret2
  exact ⟨rfl, rfl⟩

theorem f76ok (r : Int) (h0 : 0 ≤ r) (h1 : r ≤ 1114111) (hv : Lib.validRune r = true) (w : World) : Calls Tryd.prog 76 #[.int .i64 r] w fun e w' => e = .returned (.tuple #[.string (Utf8.encode r), .bool true]) ∧ w' = w := by
  have H77 := Lib.hid (Tryd.utf8_ValidRune r w)
  rw [hv] at H77
  clear hv
  have e32 : wrap32 r = r := by unfold wrap32; omega
  go_enter Tryd.func76, Tryd.ntmps76
  go_wp2_with (go_at_call 77; refine H77.out.mono ?_; rintro e w2 ⟨rfl, rfl⟩)
  go_ret2
  exact ⟨rfl, rfl⟩

end Go.Proofs.YtaanihidheccfaaDoor
