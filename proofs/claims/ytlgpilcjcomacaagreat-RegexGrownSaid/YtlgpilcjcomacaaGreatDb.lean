/-
  The law's ask.
-/
import Derived.Test.YtlgpilcjcomacaaGreatEa
import Derived.Test.YtlgpilcjcomacaaGreatGc
import Derived.Test.YtlgpilcjcomacaaGreatDa
import Derived.Deep.RegionHeld3
import Derived.Deep.DrawnRows
namespace Go.Proofs.YtlgpilcjcomacaaGreat
open Go.RowKit Rx
set_option linter.unusedVariables false
attribute [local go_sem ↓] Go.wp_at_zero Go.wp_at_succ

theorem IntsIn.keep {w w' : World} {ao : Option Addr} {len cap : Nat} (h : IntsIn w ao len cap) (t : Still w w') : IntsIn w' ao len cap :=
  ⟨h.le, fun j hj => by obtain ⟨a, x, h1, h2, h3⟩ := h.at' j hj; exact ⟨a, x, h1, t.has h2 id, h3⟩⟩
theorem GrowV.keep {w w' : World} {v : Value} (h : GrowV w v) (t : Still w w') : GrowV w' v := by
  obtain ⟨a1, a2, l1, c1, l2, c2, fr, bu, y, e, h1, h2, h3⟩ := h.view
  exact ⟨a1, a2, l1, c1, l2, c2, fr, bu, y, e, h1.keep t, h2.keep t, h3⟩

/-- What ask gives. -/
def AskG (pl : Bool) (w : World) (e : Ending) (w' : World) : Prop :=
  ∃ (p s y : ByteArray) (fr bu : Nat) (a : Re) (G : Nat), e = .returned (.agg #[.string p, .string s, .string y, .int .i64 (fr : Int), .int .i64 (bu : Int)]) ∧ readP (str p) = some (a, G) ∧ (pl = true → noLook (.grp 0 a)) ∧ s.size ≤ 14 ∧ fr ≤ s.size ∧ bu < 4000 ∧ y.size ≤ 20 ∧ Still w w'

def askEnd (w : World) (n2 : Nat) : Prop := Holds w n2 0 (.string ⟨#[]⟩) ∧ Holds w n2 1 (.string ⟨#[]⟩) ∧ Holds w n2 2 (.string ⟨#[]⟩) ∧ Holds w n2 3 (.int .i64 0) ∧ Holds w n2 4 (.int .i64 0)
theorem askEnd.keep {w w' : World} {n2 : Nat} (h : askEnd w n2) (t : Still w w') : askEnd w' n2 := ⟨h.1.keep t id, h.2.1.keep t id, h.2.2.1.keep t id, h.2.2.2.1.keep t id, h.2.2.2.2.keep t id⟩

set_option maxRecDepth 100000 in
set_option maxHeartbeats 8000000 in
/-- From the text on: what replaces is short. -/
theorem ask_any (v : Value) (pl : Bool) (w : World) (h : GrowV w v) :
    Calls Tryz.prog 7 #[v, .bool pl] w (AskG pl w) := by
  obtain ⟨a1, a2, l1, c1, l2, c2, fr, bu, y, rfl, h1, h2, hfr, hbu, hy⟩ := h.view
  obtain ⟨w1, hw1⟩ : ∃ w1, w.alloc (.cells #[.slice a1 l1 c1, .slice a2 l2 c2, .int .i64 fr, .int .i64 bu, .string y] 28) = w1 := ⟨_, rfl⟩
  obtain ⟨n1, hn1⟩ : ∃ n1, w.heap.size = n1 := ⟨_, rfl⟩
  have HC1 : Hid (Holds w1 n1 0 (.slice a1 l1 c1) ∧ Holds w1 n1 1 (.slice a2 l2 c2) ∧ Holds w1 n1 2 (.int .i64 fr) ∧ Holds w1 n1 3 (.int .i64 bu) ∧ Holds w1 n1 4 (.string y)) := Lib.hid (by rw [← hw1, ← hn1]; exact ⟨Holds.made w _ _ 0 _ rfl, Holds.made w _ _ 1 _ rfl, Holds.made w _ _ 2 _ rfl, Holds.made w _ _ 3 _ rfl, Holds.made w _ _ 4 _ rfl⟩)
  have HT1 : Hid (Still w w1) := Lib.hid (by rw [← hw1]; exact (Touch.refl _ _).alloc _)
  obtain ⟨w2, hw2⟩ : ∃ w2, w1.alloc (.cells #[.string ⟨#[]⟩, .string ⟨#[]⟩, .string ⟨#[]⟩, .int .i64 0, .int .i64 0] 23) = w2 := ⟨_, rfl⟩
  obtain ⟨n2, hn2⟩ : ∃ n2, w1.heap.size = n2 := ⟨_, rfl⟩
  have HE2 : Hid (askEnd w2 n2) := Lib.hid (by rw [← hw2, ← hn2]; exact ⟨Holds.made w1 _ _ 0 _ rfl, Holds.made w1 _ _ 1 _ rfl, Holds.made w1 _ _ 2 _ rfl, Holds.made w1 _ _ 3 _ rfl, Holds.made w1 _ _ 4 _ rfl⟩)
  have HT12 : Hid (Still w1 w2) := Lib.hid (by rw [← hw2]; exact (Touch.refl _ _).alloc _)
  have hne12 : n1 ≠ n2 := by have h9 := HC1.out.1.lt; omega
  have hne21 : ¬ n2 = n1 := fun e => hne12 e.symm
  have HN2 : Hid (w.heap.size ≤ n2) := Lib.hid (by rw [← hn2]; exact HT1.out.size)
  have HTX := Lib.hid (texted_any a2 l2 c2 w2 ((h2.keep HT1.out).keep HT12.out))
  have HGR : Hid (∀ w', Still w w' → Calls Tryz.prog 22 #[.slice a1 l1 c1, .bool pl] w' fun e w'' => ∃ (p : ByteArray) (a : Re) (G : Nat), e = .returned (.string p) ∧ readP (str p) = some (a, G) ∧ (pl = true → noLook (.grp 0 a)) ∧ Still w' w'') := Lib.hid (fun w' t => grown_any a1 l1 c1 pl w' (h1.keep t))
  have HSB : Hid (∀ w', Calls Tryz.prog 23 #[.int .i64 bu] w' fun e w'' => (∃ k : Nat, e = .returned (.int .i64 (k : Int)) ∧ k < 4000) ∧ w'' = w') := Lib.hid (fun w' => some_any bu hbu w')
  have d1 := HT12.out.has HC1.out.2.1.1 id
  clear h h1 h2
  go_enter Tryz.func7, Tryz.ntmps7
  go_wp2_with fail
  refine HTX.out.mono ?_
  rintro e w3 ⟨⟨s, rfl, hs14⟩, ht⟩
  have HT3 := Lib.hid ((HT1.out.then HT12.out).then ht)
  have HE3 := Lib.hid (HE2.out.keep ht)
  have HC3 : Hid (Holds w3 n1 0 (.slice a1 l1 c1) ∧ Holds w3 n1 2 (.int .i64 fr) ∧ Holds w3 n1 3 (.int .i64 bu) ∧ Holds w3 n1 4 (.string y)) := Lib.hid ⟨(HC1.out.1.keep HT12.out id).keep ht id, (HC1.out.2.2.1.keep HT12.out id).keep ht id, (HC1.out.2.2.2.1.keep HT12.out id).keep ht id, (HC1.out.2.2.2.2.keep HT12.out id).keep ht id⟩
  have k0 := HC3.out.1.1; have k2 := HC3.out.2.1.1; have k3 := HC3.out.2.2.1.1; have k4 := HC3.out.2.2.2.1
  have ws := IntWalk.i64_in ((s.size : Int) + 1) (by omega)
  have wu := IntWalk.u64_in ((s.size : Int) + 1) (by omega)
  have wn : ¬ (s.size : Int) + 1 = 0 := by omega
  obtain ⟨kf, hkf, hkl⟩ := urem fr (s.size + 1) (by omega) (by omega)
  have hkf' : wrap64 ((IntKind.u64.wrap fr).tmod ((s.size : Int) + 1)) = (kf : Int) := hkf
  have hkf2 : IntKind.i64.wrap ((IntKind.u64.wrap fr).tmod ((s.size : Int) + 1)) = (kf : Int) := (IntWalk.i64_left _).trans hkf
  clear ht HTX hw1 hw2 d1 hkf
  have fin : ∀ (z p : ByteArray) (a : Re) (G kb : Nat) (w5 w9 : World), z.size ≤ 20 → readP (str p) = some (a, G) → (pl = true → noLook (.grp 0 a)) → kb < 4000 → Still w w5 → Touch (fun b => b = n2) w5 w9 → AskG pl w (.returned (.agg #[.string p, .string s, .string z, .int .i64 (kf : Int), .int .i64 (kb : Int)])) w9 := fun z p a G kb w5 w9 hz hr hno hkb t5 t9 =>
    ⟨p, s, z, kf, kb, a, G, rfl, hr, hno, hs14, by omega, hkb, hz, t5.trans t9 (fun i e => .inr (by have := HN2.out; omega))⟩
  have FIN := Lib.hid fin
  clear fin
  by_cases hy20 : 20 < y.size
  · have q1 : decide (20 < (y.size : Int)) = true := decide_eq_true (by omega)
    have q1n : decide (20 < y.size) = true := decide_eq_true hy20
    have q2 : (20 : Int) ≤ (y.size : Int) := by omega
    have HZ : Hid ((y.extract 0 20).size ≤ 20) := Lib.hid (by rw [ByteArray.size_extract]; omega)
    go_wp2_with fail
    go_region_held3 (fun w' => w'.cell? ⟨n1, 0, none⟩ = some (.slice a1 l1 c1) ∧ w'.cell? ⟨n1, 2, none⟩ = some (.int .i64 fr) ∧ w'.cell? ⟨n1, 3, none⟩ = some (.int .i64 bu)) (go_keep)
      (first
        | (go_at_call 22; refine (HGR.out _ HT3.out.drew).mono ?_; rintro e w5 ⟨p, a, G, rfl, hr, hno, ht⟩; have ht := (Touch.refl (fun _ => False) w3).drew.then ht; have m0 := ht.has HC3.out.1.1 id; have m2 := ht.has HC3.out.2.1.1 id; have m3 := ht.has HC3.out.2.2.1.1 id; have hE5 := HE3.out.keep ht; obtain ⟨⟨e0, z0⟩, ⟨e1, z1⟩, ⟨e2, z2⟩, ⟨e3, z3⟩, e4, z4⟩ := hE5; have HT5 := Lib.hid (HT3.out.then ht); have HR5 := Lib.hid hr; have HNO := Lib.hid hno; clear ht hr hno)
        | (go_at_call 23; refine (HSB.out _).mono ?_; rintro e w6 ⟨⟨kb, rfl, hkb⟩, rfl⟩))
    all_goals
      go_wp2_with fail
      try simp only [Exit.inBlock, Exit.then]
      refine bodyPost_ret (v := .agg #[.string p, .string s, .string (y.extract 0 20), .int .i64 (kf : Int), .int .i64 (kb : Int)]) ?_ rfl ?_
      · simp [results, Tryz.results7, go_sem, e0, e1, e2, e3, e4]
      · exact FIN.out _ p a G kb _ _ HZ.out HR5.out HNO.out hkb HT5.out (Touch.setCell (Touch.setCell (Touch.setCell (Touch.setCell (Touch.setCell (Touch.refl (fun b => b = n2) _) (.inl rfl) _) (.inl rfl) _) (.inl rfl) _) (.inl rfl) _) (.inl rfl) _)
  · have q1 : decide (20 < (y.size : Int)) = false := decide_eq_false (by omega)
    have q1n : decide (20 < y.size) = false := decide_eq_false hy20
    have HZ : Hid (y.size ≤ 20) := Lib.hid (by omega)
    go_wp2_with fail
    go_region_held3 (fun w' => w'.cell? ⟨n1, 0, none⟩ = some (.slice a1 l1 c1) ∧ w'.cell? ⟨n1, 2, none⟩ = some (.int .i64 fr) ∧ w'.cell? ⟨n1, 3, none⟩ = some (.int .i64 bu)) (go_keep)
      (first
        | (go_at_call 22; refine (HGR.out _ HT3.out.drew).mono ?_; rintro e w5 ⟨p, a, G, rfl, hr, hno, ht⟩; have ht := (Touch.refl (fun _ => False) w3).drew.then ht; have m0 := ht.has HC3.out.1.1 id; have m2 := ht.has HC3.out.2.1.1 id; have m3 := ht.has HC3.out.2.2.1.1 id; have hE5 := HE3.out.keep ht; obtain ⟨⟨e0, z0⟩, ⟨e1, z1⟩, ⟨e2, z2⟩, ⟨e3, z3⟩, e4, z4⟩ := hE5; have HT5 := Lib.hid (HT3.out.then ht); have HR5 := Lib.hid hr; have HNO := Lib.hid hno; clear ht hr hno)
        | (go_at_call 23; refine (HSB.out _).mono ?_; rintro e w6 ⟨⟨kb, rfl, hkb⟩, rfl⟩))
    all_goals
      go_wp2_with fail
      try simp only [Exit.inBlock, Exit.then]
      refine bodyPost_ret (v := .agg #[.string p, .string s, .string y, .int .i64 (kf : Int), .int .i64 (kb : Int)]) ?_ rfl ?_
      · simp [results, Tryz.results7, go_sem, e0, e1, e2, e3, e4]
      · exact FIN.out _ p a G kb _ _ HZ.out HR5.out HNO.out hkb HT5.out (Touch.setCell (Touch.setCell (Touch.setCell (Touch.setCell (Touch.setCell (Touch.refl (fun b => b = n2) _) (.inl rfl) _) (.inl rfl) _) (.inl rfl) _) (.inl rfl) _) (.inl rfl) _)
end Go.Proofs.YtlgpilcjcomacaaGreat
