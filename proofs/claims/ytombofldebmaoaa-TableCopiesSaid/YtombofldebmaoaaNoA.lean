/-
  A nil table, and a table that New did not make: what each method answers.
-/
import Derived.Test.YtombofldebmaoaaOnceB
namespace Go.Proofs.Ytombofldebmaoaa
open Go.RowKit
set_option linter.unusedVariables false

/-- q is no table. -/
def No (w : World) (q : Value) : Prop := ∀ W, Still w W → Calls Try.prog 44 #[q] W fun e w' => e = .returned (.bool true) ∧ W = w'

theorem No.still {w w' : World} {q : Value} (h : No w q) (hs : Still w w') : No w' q := fun W hW => h W (hs.then hW)
theorem No.at {w : World} {q : Value} (h : No w q) : Calls Try.prog 44 #[q] w fun e w' => e = .returned (.bool true) ∧ w = w' := h w (Touch.refl _ _)

theorem no_nil (w : World) : No w (.pointer none) := fun W _ => f44_nil W

theorem no_unmade {w : World} {c : Nat} {cs : Array Value} {t : TypeId} (h : w.heap[c]? = some (.cells cs t (0, 0))) (h0 : cs[0]? = some (.bool false)) : No w (.pointer (some ⟨c, 0, none⟩)) := by
  intro W hW
  refine (f44_at c false W ?_).mono ?_
  · exact blk_c (hW.keeps h (fun h => h)) 0 _ h0
  · rintro e w' ⟨rfl, rfl⟩; exact ⟨rfl, rfl⟩

section
variable {w : World} {q : Value}

theorem n37 (h : No w q) (on : Bool) : Calls Try.prog 37 #[q, .bool on] w fun e w' => e = .returned (.tuple #[]) ∧ Still w w' := by
  have H44 := Lib.hid h.at; clear h
  go_enter Try.func37, Try.ntmps37
  go_wp2_with (go_at_call 44; refine H44.out.mono ?_; rintro e w' ⟨rfl, rfl⟩)
  go_end0
  exact ⟨rfl, Touch.refl _ _⟩

theorem n38 (h : No w q) : Calls Try.prog 38 #[q] w fun e w' => e = .returned (.tuple #[]) ∧ Still w w' := by
  have H44 := Lib.hid h.at; clear h
  go_enter Try.func38, Try.ntmps38
  go_wp2_with (go_at_call 44; refine H44.out.mono ?_; rintro e w' ⟨rfl, rfl⟩)
  go_end0
  exact ⟨rfl, Touch.refl _ _⟩

theorem n20 (h : No w q) (k : Value) : Calls Try.prog 20 #[q, k] w fun e w' => e = .returned (.tuple #[.int .i64 0, .int .i64 1]) ∧ Still w w' := by
  have H44 := Lib.hid h.at; clear h
  go_enter Try.func20, Try.ntmps20
  go_wp2_with (go_at_call 44; refine H44.out.mono ?_; rintro e w' ⟨rfl, rfl⟩)
  go_ret2
  exact ⟨rfl, Touch.refl _ _⟩

theorem n15 (h : No w q) (k : Value) : Calls Try.prog 15 #[q, k] w fun e w' => e = .returned (.tuple #[.int .i64 0, .int .i64 1]) ∧ Still w w' := by
  have H44 := Lib.hid h.at; clear h
  go_enter Try.func15, Try.ntmps15
  go_wp2_with (go_at_call 44; refine H44.out.mono ?_; rintro e w' ⟨rfl, rfl⟩)
  go_ret2
  exact ⟨rfl, Touch.refl _ _⟩

theorem n42 (h : No w q) (k : Value) : Calls Try.prog 42 #[q, k] w fun e w' => e = .returned (.tuple #[.int .i64 0, .int .i64 1]) ∧ Still w w' := by
  have H44 := Lib.hid h.at; clear h
  go_enter Try.func42, Try.ntmps42
  go_wp2_with (go_at_call 44; refine H44.out.mono ?_; rintro e w' ⟨rfl, rfl⟩)
  go_ret2
  exact ⟨rfl, Touch.refl _ _⟩

theorem n14 (h : No w q) : Calls Try.prog 14 #[q] w fun e w' => e = .returned (.tuple #[.int .i64 0, .int .i64 1]) ∧ Still w w' := by
  have H44 := Lib.hid h.at; clear h
  go_enter Try.func14, Try.ntmps14
  go_wp2_with (go_at_call 44; refine H44.out.mono ?_; rintro e w' ⟨rfl, rfl⟩)
  go_ret2
  exact ⟨rfl, Touch.refl _ _⟩

theorem n41 (h : No w q) (k : Value) : Calls Try.prog 41 #[q, k] w fun e w' => e = .returned (.tuple #[.int .i64 0, .int .i64 0, .int .i64 1]) ∧ Still w w' := by
  have H44 := Lib.hid h.at; clear h
  go_enter Try.func41, Try.ntmps41
  go_wp2_with (go_at_call 44; refine H44.out.mono ?_; rintro e w' ⟨rfl, rfl⟩)
  go_ret3
  exact ⟨rfl, Touch.refl _ _⟩

theorem n39 (h : No w q) : Calls Try.prog 39 #[q] w fun e w' => e = .returned (.tuple #[.int .i64 0, .int .i64 0, .int .i64 1]) ∧ Still w w' := by
  have H41 := Lib.hid (n41 h (.int .i64 0)); clear h
  go_enter Try.func39, Try.ntmps39
  go_wp2_with (go_at_call 41; refine H41.out.mono ?_; rintro e w1 ⟨rfl, hs⟩; have HS := Lib.hid hs; clear hs)
  go_ret3
  exact ⟨rfl, HS.out⟩

theorem n40 (h : No w q) : Calls Try.prog 40 #[q] w fun e w' => e = .returned (.tuple #[.int .i64 0, .int .i64 0, .int .i64 1]) ∧ Still w w' := by
  have H44 := Lib.hid h.at; clear h
  go_enter Try.func40, Try.ntmps40
  go_wp2_with (go_at_call 44; refine H44.out.mono ?_; rintro e w' ⟨rfl, rfl⟩)
  go_ret3
  exact ⟨rfl, Touch.refl _ _⟩

theorem n50 (h : No w q) (k : Value) : Calls Try.prog 50 #[q, k] w fun e w' => e = .returned (.bool false) ∧ Still w w' := by
  have H44 := Lib.hid h.at; clear h
  go_enter Try.func50, Try.ntmps50
  go_wp2_with (go_at_call 44; refine H44.out.mono ?_; rintro e w' ⟨rfl, rfl⟩)
  go_ret
  exact ⟨rfl, Touch.refl _ _⟩

theorem n21 {a : Option Addr} (h : No w (.pointer a)) (k : Int) : Calls Try.prog 21 #[.pointer a, .int .i64 k] w fun e w' => e = .returned (.tuple #[.int .i64 0, .int .i64 0, .int .i64 1]) ∧ Still w w' := by
  have H50 : Hid (∀ W, Still w W → Calls Try.prog 50 #[.pointer a, .int .i64 k] W fun e w' => e = .returned (.bool false) ∧ Still W w') := fun W hW => n50 (h.still hW) _
  clear h
  have HS0 : Hid (Still w ((w.alloc (.cells #[.pointer a] 22)).alloc (.cells #[.int .i64 k] 3))) := ((Touch.refl _ _).alloc _).alloc _
  go_enter Try.func21, Try.ntmps21
  go_wp2_with fail
  refine (H50.out _ HS0.out).mono ?_
  rintro e w1 ⟨rfl, hs⟩
  have HS := Lib.hid hs; clear hs
  go_wp2_with fail
  go_ret3
  exact ⟨rfl, HS0.out.then HS.out⟩

theorem n13 (h : No w q) (k v : Value) : Calls Try.prog 13 #[q, k, v] w fun e w' => e = .returned (.int .i64 1) ∧ Still w w' := by
  have H44 := Lib.hid h.at; clear h
  go_enter Try.func13, Try.ntmps13
  go_wp2_with (go_at_call 44; refine H44.out.mono ?_; rintro e w' ⟨rfl, rfl⟩)
  go_ret
  exact ⟨rfl, Touch.refl _ _⟩

theorem n16 (h : No w q) (k : Value) : Calls Try.prog 16 #[q, k] w fun e w' => e = .returned (.int .i64 1) ∧ Still w w' := by
  have H50 := Lib.hid (n50 h k); clear h
  go_enter Try.func16, Try.ntmps16
  go_wp2_with (go_at_call 50; refine H50.out.mono ?_; rintro e w1 ⟨rfl, hs⟩; have HS := Lib.hid hs; clear hs)
  go_ret
  exact ⟨rfl, HS.out⟩

theorem n27 (h : No w q) : Calls Try.prog 27 #[q, .slice none 0 0] w fun e w' => e = .returned (.int .i64 1) ∧ Still w w' := by
  have H44 := Lib.hid h.at; clear h
  go_enter Try.func27, Try.ntmps27
  go_wp2_with (go_at_call 44; refine H44.out.mono ?_; rintro e w' ⟨rfl, rfl⟩)
  go_ret
  exact ⟨rfl, Touch.refl _ _⟩

theorem n29 (h : No w q) (p : Value) : Calls Try.prog 29 #[q, p] w fun e w' => e = .returned (.int .i64 1) ∧ Still w w' := by
  have H44 := Lib.hid h.at; clear h
  go_enter Try.func29, Try.ntmps29
  go_wp2_with (go_at_call 44; refine H44.out.mono ?_; rintro e w' ⟨rfl, rfl⟩)
  go_ret
  exact ⟨rfl, Touch.refl _ _⟩

theorem n19 (h : No w q) : Calls Try.prog 19 #[q] w fun e w' => e = .returned (.slice none 0 0) ∧ Still w w' := by
  have H44 := Lib.hid h.at; clear h
  go_enter Try.func19, Try.ntmps19
  go_wp2_with (go_at_call 44; refine H44.out.mono ?_; rintro e w' ⟨rfl, rfl⟩)
  go_ret
  exact ⟨rfl, Touch.refl _ _⟩

theorem n19p (h : No w q) : Calls Try.prog 19 #[q] w (NewPairs w []) := (n19 h).mono fun e w' ⟨he, hs⟩ =>
  ⟨_, he, ⟨none, 0, rfl, Nat.le_refl _, by intro i p h; simp at h⟩, by intro g o l c h; simp at h, hs⟩

theorem n43 (h : No w q) : Calls Try.prog 43 #[q] w fun e w' => e = .returned (.int .i64 0) ∧ Still w w' := by
  have H44 := Lib.hid h.at; clear h
  go_enter Try.func43, Try.ntmps43
  go_wp2_with (go_at_call 44; refine H44.out.mono ?_; rintro e w' ⟨rfl, rfl⟩)
  go_ret
  exact ⟨rfl, Touch.refl _ _⟩

theorem n23 (h : No w q) : Calls Try.prog 23 #[q] w fun e w' => e = .returned (.bool false) ∧ Still w w' := by
  have H44 := Lib.hid h.at; clear h
  go_enter Try.func23, Try.ntmps23
  go_wp2_with (go_at_call 44; refine H44.out.mono ?_; rintro e w' ⟨rfl, rfl⟩)
  go_ret
  exact ⟨rfl, Touch.refl _ _⟩

theorem n32 (h : No w q) : Calls Try.prog 32 #[q] w fun e w' => e = .returned (.pointer none) ∧ Still w w' := by
  have H44 := Lib.hid h.at; clear h
  go_enter Try.func32, Try.ntmps32
  go_wp2_with (go_at_call 44; refine H44.out.mono ?_; rintro e w' ⟨rfl, rfl⟩)
  go_ret
  exact ⟨rfl, Touch.refl _ _⟩

theorem n34 (h : No w q) {p : Value} (hp : ∀ w', Still w w' → Calls Try.prog 19 #[p] w' (NewPairs w' [])) : Calls Try.prog 34 #[q, p] w fun e w' => e = .returned (.bool true) ∧ Still w w' :=
  (f34_any (fun w' hw => n19p (h.still hw)) hp (by decide) (by decide)).mono fun e w' ⟨he, hs⟩ => ⟨by simpa using he, hs⟩

end

end Go.Proofs.Ytombofldebmaoaa
