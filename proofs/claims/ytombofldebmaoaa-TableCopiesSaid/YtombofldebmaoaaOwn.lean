/-
  A table that the call itself has made: the methods' contracts in one word; sane.
-/
import Derived.Test.YtombofldebmaoaaWalkK
namespace Go.Proofs.Ytombofldebmaoaa
open Go.RowKit
set_option linter.unusedVariables false

/-- Table T at block b, made since w0; nothing that was there has turned. -/
def Own (w0 w : World) (b : Nat) (T : PT) : Prop := ∃ F, Tab w F b T ∧ (∀ k, F k → w0.heap.size ≤ k) ∧ Still w0 w

theorem Own.still {w0 w w' : World} {b : Nat} {T : PT} (h : Own w0 w b T) (ht : Still w w') : Own w0 w' b T := by
  obtain ⟨F, h1, h2, h3⟩ := h
  exact ⟨F, h1.still ht, h2, h3.then ht⟩

theorem Own.touch {w0 w : World} {b : Nat} {T : PT} (h : Own w0 w b T) : Still w0 w := by obtain ⟨_, _, _, h⟩ := h; exact h
theorem Own.ok {w0 w : World} {b : Nat} {T : PT} (h : Own w0 w b T) : T.ok := by obtain ⟨_, h, _, _⟩ := h; exact h.ok

theorem own_moves {w0 w w' : World} {F : Nat → Prop} {b : Nat} {T : PT} (hF : ∀ k, F k → w0.heap.size ≤ k) (hs : Still w0 w) (h : Moves w F b T w') : Own w0 w' b T := by
  obtain ⟨F', t', tt, ts⟩ := h
  have := hs.size
  refine ⟨F', t', fun k hk => ?_, hs.trans tt (fun i hi => .inr (hF i hi))⟩
  rcases ts k hk with h | h
  · exact hF k h
  · omega

theorem new_own {w0 w : World} (hs : Still w0 w) : Calls Try.prog 12 #[] w fun e w' => ∃ b, e = .returned (.pointer (some ⟨b, 0, none⟩)) ∧ Own w0 w' b PT.new := by
  refine (f12_any w).mono ?_
  rintro e w' ⟨b, F, rfl, h, hF, ht⟩
  have := hs.size
  exact ⟨b, rfl, F, h, fun k hk => by have := hF k hk; omega, hs.then ht⟩

section
variable {w0 w : World} {b : Nat} {T : PT}

theorem put_own (h : Own w0 w b T) (hn : T.next < 1099511627776) (hl : T.walks.length < 1099511627776) {k : Int} (hk : (Lit.int .i64 k).wf = true) (v : Int) :
    Calls Try.prog 13 #[.pointer (some ⟨b, 0, none⟩), .int .i64 k, .int .i64 v] w fun e w' => e = .returned (.int .i64 (T.put k v).2) ∧ Own w0 w' b (T.put k v).1 := by
  obtain ⟨F, ht, hF, hs⟩ := h
  exact (f13_tab ht hn hl hk v).mono fun _ _ ⟨he, hm⟩ => ⟨he, own_moves hF hs hm⟩

theorem walk_own (h : Own w0 w b T) (hl : T.walks.length < 1099511627776) :
    Calls Try.prog 14 #[.pointer (some ⟨b, 0, none⟩)] w fun e w' => e = .returned (.tuple #[.int .i64 T.walk.2.1, .int .i64 T.walk.2.2]) ∧ Own w0 w' b T.walk.1 := by
  obtain ⟨F, ht, hF, hs⟩ := h
  exact (f14_tab ht hl).mono fun _ _ ⟨he, hm⟩ => ⟨he, own_moves hF hs hm⟩

theorem delete_own (h : Own w0 w b T) (hn : T.next < 1099511627776) {k : Int} (hk : (Lit.int .i64 k).wf = true) :
    Calls Try.prog 15 #[.pointer (some ⟨b, 0, none⟩), .int .i64 k] w fun e w' => e = .returned (.tuple #[.int .i64 (T.del k).2.1, .int .i64 (T.del k).2.2]) ∧ Own w0 w' b (T.del k).1 := by
  obtain ⟨F, ht, hF, hs⟩ := h
  exact (f15_tab ht hn hk).mono fun _ _ ⟨he, hm⟩ => ⟨he, own_moves hF hs hm⟩

theorem stop_own (h : Own w0 w b T) (hl : T.walks.length < 1099511627776) (i : Int) :
    Calls Try.prog 16 #[.pointer (some ⟨b, 0, none⟩), .int .i64 i] w fun e w' => e = .returned (.int .i64 (stopW T.walks i).2) ∧ Own w0 w' b { T with walks := (stopW T.walks i).1 } := by
  obtain ⟨F, ht, hF, hs⟩ := h
  exact (f16_tab ht hl i).mono fun _ _ ⟨he, hm⟩ => ⟨he, own_moves hF hs hm⟩

theorem next_own (h : Own w0 w b T) (hl : T.walks.length < 1099511627776) (i : Int) :
    Calls Try.prog 21 #[.pointer (some ⟨b, 0, none⟩), .int .i64 i] w fun e w' => e = .returned (.tuple #[.int .i64 (nextW T i).2.1, .int .i64 (nextW T i).2.2.1, .int .i64 (nextW T i).2.2.2]) ∧ Own w0 w' b { T with walks := (nextW T i).1 } := by
  obtain ⟨F, ht, hF, hs⟩ := h
  exact (f21_tab ht hl i).mono fun _ _ ⟨he, hm⟩ => ⟨he, own_moves hF hs hm⟩

theorem get_own (h : Own w0 w b T) (hn : T.next < 1099511627776) {k : Int} (hk : (Lit.int .i64 k).wf = true) :
    Calls Try.prog 20 #[.pointer (some ⟨b, 0, none⟩), .int .i64 k] w fun e w' => e = .returned (.tuple #[.int .i64 (getI T.rows k).1, .int .i64 (getI T.rows k).2]) ∧ Own w0 w' b T := by
  have h0 := h
  obtain ⟨F, ht, hF, hs⟩ := h
  exact (f20_tab ht hn hk).mono fun _ _ ⟨he, hm⟩ => ⟨he, h0.still hm⟩

theorem rows_own (h : Own w0 w b T) : Calls Try.prog 19 #[.pointer (some ⟨b, 0, none⟩)] w fun e w' => ∃ v, e = .returned v ∧ Pairs w' v (pairsOf T.rows) ∧ Own w0 w' b T := by
  have h0 := h
  obtain ⟨F, ht, hF, hs⟩ := h
  exact (f19_tab ht).mono fun _ _ ⟨v, he, hp, _, hm⟩ => ⟨v, he, hp, h0.still hm⟩
end

/-! ### sane -/

def S1 : PT := { rows := [(1, 10, 0)], next := 1, walks := [], strict := false, frozen := false }
def S2 : PT := { rows := [(1, 10, 0), (2, 20, 1)], next := 2, walks := [], strict := false, frozen := false }
def S3 : PT := { rows := [(1, 10, 0), (2, 20, 1)], next := 2, walks := [(-1, false)], strict := false, frozen := false }
def S4 : PT := { rows := [(1, 10, 0), (2, 20, 1)], next := 2, walks := [(0, false)], strict := false, frozen := false }
def S5 : PT := { rows := [(1, 10, 0)], next := 2, walks := [(0, false)], strict := false, frozen := false }
def S6 : PT := { rows := [(1, 10, 0), (2, 21, 2)], next := 3, walks := [(0, false)], strict := false, frozen := false }
def S7 : PT := { rows := [(1, 10, 0), (2, 21, 2), (3, 30, 3)], next := 4, walks := [(0, false)], strict := false, frozen := false }
def S8 : PT := { rows := [(1, 10, 0), (2, 21, 2), (3, 30, 3)], next := 4, walks := [(2, false)], strict := false, frozen := false }
def S9 : PT := { rows := [(1, 10, 0), (2, 21, 2), (3, 30, 3)], next := 4, walks := [(3, false)], strict := false, frozen := false }

theorem s1 : PT.new.put 1 10 = (S1, 0) := by rfl
theorem s2 : S1.put 2 20 = (S2, 0) := by rfl
theorem s3 : S2.walk = (S3, (0, 0)) := by rfl
theorem s4 : nextW S3 0 = ([(0, false)], (1, 10, 0)) := by rfl
theorem s5 : S4.del 2 = (S5, (20, 0)) := by rfl
theorem s6 : S5.put 2 21 = (S6, 0) := by rfl
theorem s7 : S6.put 3 30 = (S7, 0) := by rfl
theorem s8 : nextW S7 0 = ([(2, false)], (2, 21, 0)) := by rfl
theorem s9 : nextW S8 0 = ([(3, false)], (3, 30, 0)) := by rfl
theorem s10 : nextW S9 0 = ([(3, true)], (0, 0, 14)) := by rfl

set_option maxHeartbeats 1000000 in
theorem sane_any (w : World) : Calls Try.prog 17 #[] w fun e w' => e = .returned (.bool true) ∧ Still w w' := by
  have w1 : (Lit.int .i64 1).wf = true := by decide
  have w2 : (Lit.int .i64 2).wf = true := by decide
  have w3 : (Lit.int .i64 3).wf = true := by decide
  have W1 := Lib.hid w1; have W2 := Lib.hid w2; have W3 := Lib.hid w3
  clear w1 w2 w3
  go_enter Try.func17, Try.ntmps17
  go_wp2_with fail
  refine (new_own (Touch.refl _ w)).mono ?_
  rintro e x1 ⟨b, rfl, h⟩
  have H := Lib.hid h; clear h
  go_wp2_with fail
  refine (put_own H.out (by decide) (by decide) W1.out 10).mono ?_
  rw [s1]
  rintro e x2 ⟨rfl, h⟩
  have H := Lib.hid h; clear h
  go_wp2_with fail
  refine (put_own H.out (by decide) (by decide) W2.out 20).mono ?_
  rw [s2]
  rintro e x3 ⟨rfl, h⟩
  have H := Lib.hid h; clear h
  go_wp2_with fail
  refine (walk_own H.out (by decide)).mono ?_
  rw [s3]
  rintro e x4 ⟨rfl, h⟩
  have H := Lib.hid h; clear h
  go_wp2_with fail
  refine (next_own H.out (by decide) 0).mono ?_
  rw [s4]
  rintro e x5 ⟨rfl, h⟩
  have H : Hid (Own w x5 b S4) := h; clear h
  go_wp2_with fail
  refine (delete_own H.out (by decide) W2.out).mono ?_
  rw [s5]
  rintro e x6 ⟨rfl, h⟩
  have H := Lib.hid h; clear h
  go_wp2_with fail
  refine (put_own H.out (by decide) (by decide) W2.out 21).mono ?_
  rw [s6]
  rintro e x7 ⟨rfl, h⟩
  have H := Lib.hid h; clear h
  go_wp2_with fail
  refine (put_own H.out (by decide) (by decide) W3.out 30).mono ?_
  rw [s7]
  rintro e x8 ⟨rfl, h⟩
  have H := Lib.hid h; clear h
  go_wp2_with fail
  refine (next_own H.out (by decide) 0).mono ?_
  rw [s8]
  rintro e x9 ⟨rfl, h⟩
  have H : Hid (Own w x9 b S8) := h; clear h
  go_wp2_with fail
  refine (next_own H.out (by decide) 0).mono ?_
  rw [s9]
  rintro e x10 ⟨rfl, h⟩
  have H : Hid (Own w x10 b S9) := h; clear h
  go_wp2_with fail
  refine (next_own H.out (by decide) 0).mono ?_
  rw [s10]
  rintro e x11 ⟨rfl, h⟩
  have H := Lib.hid h; clear h
  go_wp2_with fail
  go_ret
  exact ⟨rfl, H.out.touch⟩

end Go.Proofs.Ytombofldebmaoaa
