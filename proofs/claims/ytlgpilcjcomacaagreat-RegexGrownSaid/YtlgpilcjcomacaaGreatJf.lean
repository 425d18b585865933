/-
  RegexGrown walked.
-/
import Derived.Test.YtlgpilcjcomacaaGreatJe
import Derived.Test.YtlgpilcjcomacaaGreatDb
namespace Go.Proofs.YtlgpilcjcomacaaGreat
open Go.RowKit Rx
set_option linter.unusedVariables false

set_option maxRecDepth 100000 in
set_option maxHeartbeats 8000000 in
/-- RegexGrown. -/
theorem law_grown (v : Value) (w : World) (h : GrowV w v) :
    Calls Tryz.prog 4 #[v] w fun e w' => e = .returned (.bool true) ∧ Still w w' := by
  have HS := Lib.hid sane_any
  have HASK := Lib.hid (fun w' (t : Still w w') => ask_any v false w' (h.keep t))
  obtain ⟨a1, a2, l1, c1, l2, c2, fr0, bu0, y0, rfl, -, -, -, -, -⟩ := h.view
  clear h
  go_enter Tryz.func4, Tryz.ntmps4
  go_wp2_with fail
  refine (HASK.out _ ((Touch.refl (fun _ => False) w).alloc _)).mono ?_
  rintro e w2 ⟨p, s, y, fr, bu, a, G, rfl, hr, -, hs14, hfs, hbu, hy20, ht⟩
  have HC := Lib.hid (fun w' => checks_any p w')
  have HM := Lib.hid (fun w' => matches_any p s y (fr : Int) (bu : Int) w')
  have HU := Lib.hid (fun w' => uses_any p s y (fr : Int) (bu : Int) (by omega) w')
  have HA3 : Hid (AskAt (w2.alloc (.cells #[.string p, .string s, .string y, .int .i64 (fr : Int), .int .i64 (bu : Int)] 23)) w2.heap.size p s y fr bu) := Lib.hid (AskAt.made w2 p s y fr bu)
  have HT3 : Hid (Still w (w2.alloc (.cells #[.string p, .string s, .string y, .int .i64 (fr : Int), .int .i64 (bu : Int)] 23))) := Lib.hid ((((Touch.refl (fun _ => False) w).alloc _).then ht).alloc _)
  obtain ⟨n3, hn3⟩ : ∃ n3, w2.heap.size = n3 := ⟨_, rfl⟩
  rw [hn3] at HA3
  have k0 := HA3.out.c0; have k1 := HA3.out.c1; have k2 := HA3.out.c2; have k3 := HA3.out.c3; have k4 := HA3.out.c4.1
  clear ht hr HASK
  go_wp2_with fail
  refine (HC.out _).mono ?_
  rintro e w4 ⟨rfl, ht⟩
  have HT4 := Lib.hid (HT3.out.then ht)
  have HA4 := Lib.hid (HA3.out.keep ht)
  clear k0 k1 k2 k3 k4 ht
  have k0 := HA4.out.c0; have k1 := HA4.out.c1; have k2 := HA4.out.c2; have k3 := HA4.out.c3; have k4 := HA4.out.c4.1
  go_wp2_with fail
  refine (HM.out _).mono ?_
  rintro e w5 ⟨rfl, ht⟩
  have HT5 := Lib.hid (HT4.out.then ht)
  have HA5 := Lib.hid (HA4.out.keep ht)
  clear k0 k1 k2 k3 k4 ht
  have k0 := HA5.out.c0; have k1 := HA5.out.c1; have k2 := HA5.out.c2; have k3 := HA5.out.c3; have k4 := HA5.out.c4.1
  go_wp2_with fail
  refine (HU.out _).mono ?_
  rintro e w6 ⟨rfl, ht⟩
  have HT6 := Lib.hid (HT5.out.then ht)
  clear k0 k1 k2 k3 k4 ht
  go_wp2_with fail
  refine (HS.out _).mono ?_
  rintro e w7 ⟨rfl, ht⟩
  have HT7 := Lib.hid (HT6.out.then ht)
  clear ht
  go_wp2_with fail
  go_ret
  exact ⟨rfl, HT7.out⟩
end Go.Proofs.YtlgpilcjcomacaaGreat
