/-
  Texts Rf, Rg in one.
-/
import Derived.Test.YtlgpilcjcomacaaGreatBb
import Derived.Test.YtlgpilcjcomacaaGreatBc
import Derived.Test.YtlgpilcjcomacaaGreatAf
/-
  The document's is: the bytes of a kind put into a set. (Printed by wip/tools/is07.py.)
-/
namespace Go.Proofs.YtlgpilcjcomacaaGreat
open Go.RowKit Rx
set_option linter.unusedVariables false

theorem NodeB.congrSet {w : World} {b : Nat} {v : NV} {f g : Nat → Bool} (h : NodeB w b { v with set := f }) (e : ∀ x, x < 256 → f x = g x) : NodeB w b { v with set := g } := by
  obtain ⟨A, hA, h1, h2⟩ := h
  refine ⟨A, hA, h1, fun i hi => (h2 i hi).trans ?_⟩
  congr 1
  unfold nv
  by_cases h0 : i = 0
  · rw [if_pos h0, if_pos h0]
  · rw [if_neg h0, if_neg h0]
    by_cases h1 : i < 257
    · rw [if_pos h1, if_pos h1]
      show Value.bool (f (i - 1)) = Value.bool (g (i - 1))
      rw [e _ (by omega)]
    · rw [if_neg h1, if_neg h1]
theorem NodeB.setOne {w : World} {b : Nat} {v : NV} (h : NodeB w b v) {i : Nat} (hi : i < 256) (u : Bool) : NodeB (w.setCell ⟨b, 1 + i, none⟩ (.bool u)) b { v with set := fun x => if x = i then u else v.set x } :=
  h.put _ (fun A hA => hA.sets hi u)

theorem rwordN (n : Nat) (hn : n < 256) (w : World) : Calls Tryz.prog 111 #[.int .u8 (n : Int)] w fun e w' => e = .returned (.bool (wordB n)) ∧ w = w' := by
  have h := rword_any (UInt8.ofNat n) w
  rwa [show (UInt8.ofNat n).toNat = n by simp; omega] at h

/-- A set so far: what was, and the bytes of the kind below a place. -/
def upTo (g f : Nat → Bool) (j : Nat) : Nat → Bool := fun x => g x || (decide (x < j) && f x)
theorem upTo_yes {g f : Nat → Bool} {j : Nat} (h : f j = true) : (fun x => if x = j then true else upTo g f j x) = upTo g f (j + 1) := by
  funext x
  unfold upTo
  by_cases e : x = j
  · subst e; simp [h]
  · rw [if_neg e]
    by_cases hl : x < j
    · simp [hl, show x < j + 1 by omega]
    · simp [hl, show ¬ x < j + 1 by omega]
theorem upTo_no {g f : Nat → Bool} {j : Nat} (h : f j = false) : upTo g f j = upTo g f (j + 1) := by
  funext x
  unfold upTo
  by_cases e : x = j
  · subst e; simp [h]
  · by_cases hl : x < j
    · simp [hl, show x < j + 1 by omega]
    · simp [hl, show ¬ x < j + 1 by omega]

set_option maxRecDepth 100000 in
set_option maxHeartbeats 2000000 in
theorem ris_d (b : Nat) (v : NV) (w : World) (h : NodeB w b v) :
    Calls Tryz.prog 113 #[.pointer (some ⟨b, 1, none⟩), .int .u8 100] w fun e w' => e = .returned (.tuple #[]) ∧ NodeB w' b { v with set := fun x => v.set x || isDig x } ∧ Touch (fun i => i = b) w w' := by
  have HH : Hid (NodeB w b { v with set := upTo v.set isDig 0 }) := Lib.hid (h.congrSet (g := upTo v.set isDig 0) (fun x _ => by simp [upTo]))
  clear h
  go_enter Tryz.func113, Tryz.ntmps113
  go_wp2_with fail
  go_loopw [5] (fun i wr => ∃ j : Nat, i = .int .i64 j ∧ j ≤ 256 ∧ Hid (NodeB wr b { v with set := upTo v.set isDig j }) ∧ Hid (Touch (fun i => i = b) w wr)) (fun i _ => 256 - (intOf i).toNat)
  case atStart => exact ⟨0, rfl, by omega, HH, Lib.hid (Touch.refl _ _)⟩
  case round =>
    obtain ⟨j, rfl, hj, HN, HT⟩ := hrel
    by_cases hlt : j < 256
    · have hx := HN.out.cell (i := 1 + j) (by omega)
      rw [nv_set _ hlt] at hx
      obtain ⟨hx1, hx2⟩ := hx
      have hw8 : IntKind.u8.wrap (j : Int) = (j : Int) := by unfold IntKind.wrap; simp [IntKind.signed, IntKind.bits]; omega
      have hwj := IntWalk.i64_in ((j : Int) + 1) (by omega)
      by_cases h1 : 48 ≤ j
      · have q1 : decide ((48 : Int) ≤ (j : Int)) = true := decide_eq_true (by omega)
        by_cases h2 : j ≤ 57
        · have q2 : decide ((j : Int) ≤ 57) = true := decide_eq_true (by omega)
          have HN2 := Lib.hid (HN.out.setOne hlt true)
          rw [show (fun x => if x = j then true else ({ v with set := upTo v.set isDig j } : NV).set x) = upTo v.set isDig (j + 1) from upTo_yes (by simp [isDig]; omega)] at HN2
          have HT2 : Hid (Touch (fun i => i = b) w (wr.setCell ⟨b, 1 + j, none⟩ (.bool true))) := Lib.hid (HT.out.setCell (.inl rfl) _)
          go_wp2_with fail
          go_roundw
          case rel => exact ⟨j + 1, by go_num, by omega, HN2, HT2⟩
          case measure => simp [intOf]; omega
        · have q2 : decide ((j : Int) ≤ 57) = false := decide_eq_false (by omega)
          have HN2 := HN
          rw [upTo_no (j := j) (by simp [isDig]; omega)] at HN2
          go_wp2_with fail
          go_roundw
          case rel => exact ⟨j + 1, by go_num, by omega, HN2, HT⟩
          case measure => simp [intOf]; omega
      · have q1 : decide ((48 : Int) ≤ (j : Int)) = false := decide_eq_false (by omega)
        have HN2 := HN
        rw [upTo_no (j := j) (by simp [isDig]; omega)] at HN2
        go_wp2_with fail
        go_roundw
        case rel => exact ⟨j + 1, by go_num, by omega, HN2, HT⟩
        case measure => simp [intOf]; omega
    · obtain rfl : j = 256 := by omega
      go_wp2_with fail
      go_end0
      exact ⟨rfl, HN.out.congrSet (fun x hx => by unfold upTo; simp [hx]), HT.out⟩

set_option maxRecDepth 100000 in
set_option maxHeartbeats 2000000 in
theorem ris_D (b : Nat) (v : NV) (w : World) (h : NodeB w b v) :
    Calls Tryz.prog 113 #[.pointer (some ⟨b, 1, none⟩), .int .u8 68] w fun e w' => e = .returned (.tuple #[]) ∧ NodeB w' b { v with set := fun x => v.set x || (fun x => !isDig x) x } ∧ Touch (fun i => i = b) w w' := by
  have HH : Hid (NodeB w b { v with set := upTo v.set (fun x => !isDig x) 0 }) := Lib.hid (h.congrSet (g := upTo v.set (fun x => !isDig x) 0) (fun x _ => by simp [upTo]))
  clear h
  go_enter Tryz.func113, Tryz.ntmps113
  go_wp2_with fail
  go_loopw [5] (fun i wr => ∃ j : Nat, i = .int .i64 j ∧ j ≤ 256 ∧ Hid (NodeB wr b { v with set := upTo v.set (fun x => !isDig x) j }) ∧ Hid (Touch (fun i => i = b) w wr)) (fun i _ => 256 - (intOf i).toNat)
  case atStart => exact ⟨0, rfl, by omega, HH, Lib.hid (Touch.refl _ _)⟩
  case round =>
    obtain ⟨j, rfl, hj, HN, HT⟩ := hrel
    by_cases hlt : j < 256
    · have hx := HN.out.cell (i := 1 + j) (by omega)
      rw [nv_set _ hlt] at hx
      obtain ⟨hx1, hx2⟩ := hx
      have hw8 : IntKind.u8.wrap (j : Int) = (j : Int) := by unfold IntKind.wrap; simp [IntKind.signed, IntKind.bits]; omega
      have hwj := IntWalk.i64_in ((j : Int) + 1) (by omega)
      by_cases h1 : 48 ≤ j
      · have q1 : decide ((48 : Int) ≤ (j : Int)) = true := decide_eq_true (by omega)
        by_cases h2 : j ≤ 57
        · have q2 : decide ((j : Int) ≤ 57) = true := decide_eq_true (by omega)
          have HN2 := HN
          rw [upTo_no (j := j) (by simp [isDig]; omega)] at HN2
          go_wp2_with fail
          go_roundw
          case rel => exact ⟨j + 1, by go_num, by omega, HN2, HT⟩
          case measure => simp [intOf]; omega
        · have q2 : decide ((j : Int) ≤ 57) = false := decide_eq_false (by omega)
          have HN2 := Lib.hid (HN.out.setOne hlt true)
          rw [show (fun x => if x = j then true else ({ v with set := upTo v.set (fun x => !isDig x) j } : NV).set x) = upTo v.set (fun x => !isDig x) (j + 1) from upTo_yes (by simp [isDig]; omega)] at HN2
          have HT2 : Hid (Touch (fun i => i = b) w (wr.setCell ⟨b, 1 + j, none⟩ (.bool true))) := Lib.hid (HT.out.setCell (.inl rfl) _)
          go_wp2_with fail
          go_roundw
          case rel => exact ⟨j + 1, by go_num, by omega, HN2, HT2⟩
          case measure => simp [intOf]; omega
      · have q1 : decide ((48 : Int) ≤ (j : Int)) = false := decide_eq_false (by omega)
        have HN2 := Lib.hid (HN.out.setOne hlt true)
        rw [show (fun x => if x = j then true else ({ v with set := upTo v.set (fun x => !isDig x) j } : NV).set x) = upTo v.set (fun x => !isDig x) (j + 1) from upTo_yes (by simp [isDig]; omega)] at HN2
        have HT2 : Hid (Touch (fun i => i = b) w (wr.setCell ⟨b, 1 + j, none⟩ (.bool true))) := Lib.hid (HT.out.setCell (.inl rfl) _)
        go_wp2_with fail
        go_roundw
        case rel => exact ⟨j + 1, by go_num, by omega, HN2, HT2⟩
        case measure => simp [intOf]; omega
    · obtain rfl : j = 256 := by omega
      go_wp2_with fail
      go_end0
      exact ⟨rfl, HN.out.congrSet (fun x hx => by unfold upTo; simp [hx]), HT.out⟩

set_option maxRecDepth 100000 in
set_option maxHeartbeats 2000000 in
theorem ris_w (b : Nat) (v : NV) (w : World) (h : NodeB w b v) :
    Calls Tryz.prog 113 #[.pointer (some ⟨b, 1, none⟩), .int .u8 119] w fun e w' => e = .returned (.tuple #[]) ∧ NodeB w' b { v with set := fun x => v.set x || wordB x } ∧ Touch (fun i => i = b) w w' := by
  have HH : Hid (NodeB w b { v with set := upTo v.set wordB 0 }) := Lib.hid (h.congrSet (g := upTo v.set wordB 0) (fun x _ => by simp [upTo]))
  clear h
  go_enter Tryz.func113, Tryz.ntmps113
  go_wp2_with fail
  go_loopw [5] (fun i wr => ∃ j : Nat, i = .int .i64 j ∧ j ≤ 256 ∧ Hid (NodeB wr b { v with set := upTo v.set wordB j }) ∧ Hid (Touch (fun i => i = b) w wr)) (fun i _ => 256 - (intOf i).toNat)
  case atStart => exact ⟨0, rfl, by omega, HH, Lib.hid (Touch.refl _ _)⟩
  case round =>
    obtain ⟨j, rfl, hj, HN, HT⟩ := hrel
    by_cases hlt : j < 256
    · have hx := HN.out.cell (i := 1 + j) (by omega)
      rw [nv_set _ hlt] at hx
      obtain ⟨hx1, hx2⟩ := hx
      have hw8 : IntKind.u8.wrap (j : Int) = (j : Int) := by unfold IntKind.wrap; simp [IntKind.signed, IntKind.bits]; omega
      have hwj := IntWalk.i64_in ((j : Int) + 1) (by omega)
      have HWJ := Lib.hid (fun w => rwordN j hlt w)
      cases hw : wordB j with
      | true =>
        have HW : Hid (∀ w, Calls Tryz.prog 111 #[.int .u8 (j : Int)] w fun e w' => e = .returned (.bool true) ∧ w = w') := Lib.hid (fun w => by rw [← hw]; exact HWJ.out w)
        have hwj2 := hw
        clear HWJ hw
        have HWV := Lib.hid hwj2
        clear hwj2
        by_cases h1 : 48 ≤ j
        · have q1 : decide ((48 : Int) ≤ (j : Int)) = true := decide_eq_true (by omega)
          by_cases h2 : j ≤ 57
          · have q2 : decide ((j : Int) ≤ 57) = true := decide_eq_true (by omega)
            have HN2 := Lib.hid (HN.out.setOne hlt true)
            rw [show (fun x => if x = j then true else ({ v with set := upTo v.set wordB j } : NV).set x) = upTo v.set wordB (j + 1) from upTo_yes (by exact HWV.out)] at HN2
            have HT2 : Hid (Touch (fun i => i = b) w (wr.setCell ⟨b, 1 + j, none⟩ (.bool true))) := Lib.hid (HT.out.setCell (.inl rfl) _)
            go_wp2_with fail
            refine (HW.out _).mono ?_
            rintro e w9 ⟨rfl, rfl⟩
            go_wp2_with fail
            go_roundw
            case rel => exact ⟨j + 1, by go_num, by omega, HN2, HT2⟩
            case measure => simp [intOf]; omega
          · have q2 : decide ((j : Int) ≤ 57) = false := decide_eq_false (by omega)
            have HN2 := Lib.hid (HN.out.setOne hlt true)
            rw [show (fun x => if x = j then true else ({ v with set := upTo v.set wordB j } : NV).set x) = upTo v.set wordB (j + 1) from upTo_yes (by exact HWV.out)] at HN2
            have HT2 : Hid (Touch (fun i => i = b) w (wr.setCell ⟨b, 1 + j, none⟩ (.bool true))) := Lib.hid (HT.out.setCell (.inl rfl) _)
            go_wp2_with fail
            refine (HW.out _).mono ?_
            rintro e w9 ⟨rfl, rfl⟩
            go_wp2_with fail
            go_roundw
            case rel => exact ⟨j + 1, by go_num, by omega, HN2, HT2⟩
            case measure => simp [intOf]; omega
        · have q1 : decide ((48 : Int) ≤ (j : Int)) = false := decide_eq_false (by omega)
          have HN2 := Lib.hid (HN.out.setOne hlt true)
          rw [show (fun x => if x = j then true else ({ v with set := upTo v.set wordB j } : NV).set x) = upTo v.set wordB (j + 1) from upTo_yes (by exact HWV.out)] at HN2
          have HT2 : Hid (Touch (fun i => i = b) w (wr.setCell ⟨b, 1 + j, none⟩ (.bool true))) := Lib.hid (HT.out.setCell (.inl rfl) _)
          go_wp2_with fail
          refine (HW.out _).mono ?_
          rintro e w9 ⟨rfl, rfl⟩
          go_wp2_with fail
          go_roundw
          case rel => exact ⟨j + 1, by go_num, by omega, HN2, HT2⟩
          case measure => simp [intOf]; omega
      | false =>
        have HW : Hid (∀ w, Calls Tryz.prog 111 #[.int .u8 (j : Int)] w fun e w' => e = .returned (.bool false) ∧ w = w') := Lib.hid (fun w => by rw [← hw]; exact HWJ.out w)
        have hwj2 := hw
        clear HWJ hw
        have HWV := Lib.hid hwj2
        clear hwj2
        by_cases h1 : 48 ≤ j
        · have q1 : decide ((48 : Int) ≤ (j : Int)) = true := decide_eq_true (by omega)
          by_cases h2 : j ≤ 57
          · have q2 : decide ((j : Int) ≤ 57) = true := decide_eq_true (by omega)
            have HN2 := HN
            rw [upTo_no (j := j) (by exact HWV.out)] at HN2
            go_wp2_with fail
            refine (HW.out _).mono ?_
            rintro e w9 ⟨rfl, rfl⟩
            go_wp2_with fail
            go_roundw
            case rel => exact ⟨j + 1, by go_num, by omega, HN2, HT⟩
            case measure => simp [intOf]; omega
          · have q2 : decide ((j : Int) ≤ 57) = false := decide_eq_false (by omega)
            have HN2 := HN
            rw [upTo_no (j := j) (by exact HWV.out)] at HN2
            go_wp2_with fail
            refine (HW.out _).mono ?_
            rintro e w9 ⟨rfl, rfl⟩
            go_wp2_with fail
            go_roundw
            case rel => exact ⟨j + 1, by go_num, by omega, HN2, HT⟩
            case measure => simp [intOf]; omega
        · have q1 : decide ((48 : Int) ≤ (j : Int)) = false := decide_eq_false (by omega)
          have HN2 := HN
          rw [upTo_no (j := j) (by exact HWV.out)] at HN2
          go_wp2_with fail
          refine (HW.out _).mono ?_
          rintro e w9 ⟨rfl, rfl⟩
          go_wp2_with fail
          go_roundw
          case rel => exact ⟨j + 1, by go_num, by omega, HN2, HT⟩
          case measure => simp [intOf]; omega
    · obtain rfl : j = 256 := by omega
      go_wp2_with fail
      go_end0
      exact ⟨rfl, HN.out.congrSet (fun x hx => by unfold upTo; simp [hx]), HT.out⟩

set_option maxRecDepth 100000 in
set_option maxHeartbeats 2000000 in
theorem ris_W (b : Nat) (v : NV) (w : World) (h : NodeB w b v) :
    Calls Tryz.prog 113 #[.pointer (some ⟨b, 1, none⟩), .int .u8 87] w fun e w' => e = .returned (.tuple #[]) ∧ NodeB w' b { v with set := fun x => v.set x || (fun x => !wordB x) x } ∧ Touch (fun i => i = b) w w' := by
  have HH : Hid (NodeB w b { v with set := upTo v.set (fun x => !wordB x) 0 }) := Lib.hid (h.congrSet (g := upTo v.set (fun x => !wordB x) 0) (fun x _ => by simp [upTo]))
  clear h
  go_enter Tryz.func113, Tryz.ntmps113
  go_wp2_with fail
  go_loopw [5] (fun i wr => ∃ j : Nat, i = .int .i64 j ∧ j ≤ 256 ∧ Hid (NodeB wr b { v with set := upTo v.set (fun x => !wordB x) j }) ∧ Hid (Touch (fun i => i = b) w wr)) (fun i _ => 256 - (intOf i).toNat)
  case atStart => exact ⟨0, rfl, by omega, HH, Lib.hid (Touch.refl _ _)⟩
  case round =>
    obtain ⟨j, rfl, hj, HN, HT⟩ := hrel
    by_cases hlt : j < 256
    · have hx := HN.out.cell (i := 1 + j) (by omega)
      rw [nv_set _ hlt] at hx
      obtain ⟨hx1, hx2⟩ := hx
      have hw8 : IntKind.u8.wrap (j : Int) = (j : Int) := by unfold IntKind.wrap; simp [IntKind.signed, IntKind.bits]; omega
      have hwj := IntWalk.i64_in ((j : Int) + 1) (by omega)
      have HWJ := Lib.hid (fun w => rwordN j hlt w)
      cases hw : wordB j with
      | true =>
        have HW : Hid (∀ w, Calls Tryz.prog 111 #[.int .u8 (j : Int)] w fun e w' => e = .returned (.bool true) ∧ w = w') := Lib.hid (fun w => by rw [← hw]; exact HWJ.out w)
        have hwj2 := hw
        clear HWJ hw
        have HWV := Lib.hid hwj2
        clear hwj2
        by_cases h1 : 48 ≤ j
        · have q1 : decide ((48 : Int) ≤ (j : Int)) = true := decide_eq_true (by omega)
          by_cases h2 : j ≤ 57
          · have q2 : decide ((j : Int) ≤ 57) = true := decide_eq_true (by omega)
            have HN2 := HN
            rw [upTo_no (j := j) (by simp [HWV.out])] at HN2
            go_wp2_with fail
            refine (HW.out _).mono ?_
            rintro e w9 ⟨rfl, rfl⟩
            go_wp2_with fail
            go_roundw
            case rel => exact ⟨j + 1, by go_num, by omega, HN2, HT⟩
            case measure => simp [intOf]; omega
          · have q2 : decide ((j : Int) ≤ 57) = false := decide_eq_false (by omega)
            have HN2 := HN
            rw [upTo_no (j := j) (by simp [HWV.out])] at HN2
            go_wp2_with fail
            refine (HW.out _).mono ?_
            rintro e w9 ⟨rfl, rfl⟩
            go_wp2_with fail
            go_roundw
            case rel => exact ⟨j + 1, by go_num, by omega, HN2, HT⟩
            case measure => simp [intOf]; omega
        · have q1 : decide ((48 : Int) ≤ (j : Int)) = false := decide_eq_false (by omega)
          have HN2 := HN
          rw [upTo_no (j := j) (by simp [HWV.out])] at HN2
          go_wp2_with fail
          refine (HW.out _).mono ?_
          rintro e w9 ⟨rfl, rfl⟩
          go_wp2_with fail
          go_roundw
          case rel => exact ⟨j + 1, by go_num, by omega, HN2, HT⟩
          case measure => simp [intOf]; omega
      | false =>
        have HW : Hid (∀ w, Calls Tryz.prog 111 #[.int .u8 (j : Int)] w fun e w' => e = .returned (.bool false) ∧ w = w') := Lib.hid (fun w => by rw [← hw]; exact HWJ.out w)
        have hwj2 := hw
        clear HWJ hw
        have HWV := Lib.hid hwj2
        clear hwj2
        by_cases h1 : 48 ≤ j
        · have q1 : decide ((48 : Int) ≤ (j : Int)) = true := decide_eq_true (by omega)
          by_cases h2 : j ≤ 57
          · have q2 : decide ((j : Int) ≤ 57) = true := decide_eq_true (by omega)
            have HN2 := Lib.hid (HN.out.setOne hlt true)
            rw [show (fun x => if x = j then true else ({ v with set := upTo v.set (fun x => !wordB x) j } : NV).set x) = upTo v.set (fun x => !wordB x) (j + 1) from upTo_yes (by simp [HWV.out])] at HN2
            have HT2 : Hid (Touch (fun i => i = b) w (wr.setCell ⟨b, 1 + j, none⟩ (.bool true))) := Lib.hid (HT.out.setCell (.inl rfl) _)
            go_wp2_with fail
            refine (HW.out _).mono ?_
            rintro e w9 ⟨rfl, rfl⟩
            go_wp2_with fail
            go_roundw
            case rel => exact ⟨j + 1, by go_num, by omega, HN2, HT2⟩
            case measure => simp [intOf]; omega
          · have q2 : decide ((j : Int) ≤ 57) = false := decide_eq_false (by omega)
            have HN2 := Lib.hid (HN.out.setOne hlt true)
            rw [show (fun x => if x = j then true else ({ v with set := upTo v.set (fun x => !wordB x) j } : NV).set x) = upTo v.set (fun x => !wordB x) (j + 1) from upTo_yes (by simp [HWV.out])] at HN2
            have HT2 : Hid (Touch (fun i => i = b) w (wr.setCell ⟨b, 1 + j, none⟩ (.bool true))) := Lib.hid (HT.out.setCell (.inl rfl) _)
            go_wp2_with fail
            refine (HW.out _).mono ?_
            rintro e w9 ⟨rfl, rfl⟩
            go_wp2_with fail
            go_roundw
            case rel => exact ⟨j + 1, by go_num, by omega, HN2, HT2⟩
            case measure => simp [intOf]; omega
        · have q1 : decide ((48 : Int) ≤ (j : Int)) = false := decide_eq_false (by omega)
          have HN2 := Lib.hid (HN.out.setOne hlt true)
          rw [show (fun x => if x = j then true else ({ v with set := upTo v.set (fun x => !wordB x) j } : NV).set x) = upTo v.set (fun x => !wordB x) (j + 1) from upTo_yes (by simp [HWV.out])] at HN2
          have HT2 : Hid (Touch (fun i => i = b) w (wr.setCell ⟨b, 1 + j, none⟩ (.bool true))) := Lib.hid (HT.out.setCell (.inl rfl) _)
          go_wp2_with fail
          refine (HW.out _).mono ?_
          rintro e w9 ⟨rfl, rfl⟩
          go_wp2_with fail
          go_roundw
          case rel => exact ⟨j + 1, by go_num, by omega, HN2, HT2⟩
          case measure => simp [intOf]; omega
    · obtain rfl : j = 256 := by omega
      go_wp2_with fail
      go_end0
      exact ⟨rfl, HN.out.congrSet (fun x hx => by unfold upTo; simp [hx]), HT.out⟩

set_option maxRecDepth 100000 in
set_option maxHeartbeats 2000000 in
theorem ris_s (b : Nat) (v : NV) (w : World) (h : NodeB w b v) :
    Calls Tryz.prog 113 #[.pointer (some ⟨b, 1, none⟩), .int .u8 115] w fun e w' => e = .returned (.tuple #[]) ∧ NodeB w' b { v with set := fun x => v.set x || isSpc x } ∧ Touch (fun i => i = b) w w' := by
  have HH : Hid (NodeB w b { v with set := upTo v.set isSpc 0 }) := Lib.hid (h.congrSet (g := upTo v.set isSpc 0) (fun x _ => by simp [upTo]))
  clear h
  go_enter Tryz.func113, Tryz.ntmps113
  go_wp2_with fail
  go_loopw [5] (fun i wr => ∃ j : Nat, i = .int .i64 j ∧ j ≤ 256 ∧ Hid (NodeB wr b { v with set := upTo v.set isSpc j }) ∧ Hid (Touch (fun i => i = b) w wr)) (fun i _ => 256 - (intOf i).toNat)
  case atStart => exact ⟨0, rfl, by omega, HH, Lib.hid (Touch.refl _ _)⟩
  case round =>
    obtain ⟨j, rfl, hj, HN, HT⟩ := hrel
    by_cases hlt : j < 256
    · have hx := HN.out.cell (i := 1 + j) (by omega)
      rw [nv_set _ hlt] at hx
      obtain ⟨hx1, hx2⟩ := hx
      have hw8 : IntKind.u8.wrap (j : Int) = (j : Int) := by unfold IntKind.wrap; simp [IntKind.signed, IntKind.bits]; omega
      have hwj := IntWalk.i64_in ((j : Int) + 1) (by omega)
      by_cases e32 : j = 32
      · subst e32
        have HN2 := Lib.hid (HN.out.setOne hlt true)
        rw [show (fun x => if x = 32 then true else ({ v with set := upTo v.set isSpc 32 } : NV).set x) = upTo v.set isSpc (32 + 1) from upTo_yes (by rfl)] at HN2
        have HT2 : Hid (Touch (fun i => i = b) w (wr.setCell ⟨b, 1 + 32, none⟩ (.bool true))) := Lib.hid (HT.out.setCell (.inl rfl) _)
        go_wp2_with fail
        go_roundw
        case rel => exact ⟨32 + 1, by go_num, by omega, HN2, HT2⟩
        case measure => simp [intOf]
      · have p32 : ((j : Int) == 32) = false := by simp; omega
        by_cases e9 : j = 9
        · subst e9
          have HN2 := Lib.hid (HN.out.setOne hlt true)
          rw [show (fun x => if x = 9 then true else ({ v with set := upTo v.set isSpc 9 } : NV).set x) = upTo v.set isSpc (9 + 1) from upTo_yes (by rfl)] at HN2
          have HT2 : Hid (Touch (fun i => i = b) w (wr.setCell ⟨b, 1 + 9, none⟩ (.bool true))) := Lib.hid (HT.out.setCell (.inl rfl) _)
          go_wp2_with fail
          go_roundw
          case rel => exact ⟨9 + 1, by go_num, by omega, HN2, HT2⟩
          case measure => simp [intOf]
        · have p9 : ((j : Int) == 9) = false := by simp; omega
          by_cases e10 : j = 10
          · subst e10
            have HN2 := Lib.hid (HN.out.setOne hlt true)
            rw [show (fun x => if x = 10 then true else ({ v with set := upTo v.set isSpc 10 } : NV).set x) = upTo v.set isSpc (10 + 1) from upTo_yes (by rfl)] at HN2
            have HT2 : Hid (Touch (fun i => i = b) w (wr.setCell ⟨b, 1 + 10, none⟩ (.bool true))) := Lib.hid (HT.out.setCell (.inl rfl) _)
            go_wp2_with fail
            go_roundw
            case rel => exact ⟨10 + 1, by go_num, by omega, HN2, HT2⟩
            case measure => simp [intOf]
          · have p10 : ((j : Int) == 10) = false := by simp; omega
            by_cases h1 : 48 ≤ j
            · have q1 : decide ((48 : Int) ≤ (j : Int)) = true := decide_eq_true (by omega)
              by_cases h2 : j ≤ 57
              · have q2 : decide ((j : Int) ≤ 57) = true := decide_eq_true (by omega)
                have HN2 := HN
                rw [upTo_no (j := j) (by simp [isSpc]; omega)] at HN2
                go_wp2_with fail
                go_roundw
                case rel => exact ⟨j + 1, by go_num, by omega, HN2, HT⟩
                case measure => simp [intOf]; omega
              · have q2 : decide ((j : Int) ≤ 57) = false := decide_eq_false (by omega)
                have HN2 := HN
                rw [upTo_no (j := j) (by simp [isSpc]; omega)] at HN2
                go_wp2_with fail
                go_roundw
                case rel => exact ⟨j + 1, by go_num, by omega, HN2, HT⟩
                case measure => simp [intOf]; omega
            · have q1 : decide ((48 : Int) ≤ (j : Int)) = false := decide_eq_false (by omega)
              have HN2 := HN
              rw [upTo_no (j := j) (by simp [isSpc]; omega)] at HN2
              go_wp2_with fail
              go_roundw
              case rel => exact ⟨j + 1, by go_num, by omega, HN2, HT⟩
              case measure => simp [intOf]; omega
    · obtain rfl : j = 256 := by omega
      go_wp2_with fail
      go_end0
      exact ⟨rfl, HN.out.congrSet (fun x hx => by unfold upTo; simp [hx]), HT.out⟩

set_option maxRecDepth 100000 in
set_option maxHeartbeats 2000000 in
theorem ris_S (b : Nat) (v : NV) (w : World) (h : NodeB w b v) :
    Calls Tryz.prog 113 #[.pointer (some ⟨b, 1, none⟩), .int .u8 83] w fun e w' => e = .returned (.tuple #[]) ∧ NodeB w' b { v with set := fun x => v.set x || (fun x => !isSpc x) x } ∧ Touch (fun i => i = b) w w' := by
  have HH : Hid (NodeB w b { v with set := upTo v.set (fun x => !isSpc x) 0 }) := Lib.hid (h.congrSet (g := upTo v.set (fun x => !isSpc x) 0) (fun x _ => by simp [upTo]))
  clear h
  go_enter Tryz.func113, Tryz.ntmps113
  go_wp2_with fail
  go_loopw [5] (fun i wr => ∃ j : Nat, i = .int .i64 j ∧ j ≤ 256 ∧ Hid (NodeB wr b { v with set := upTo v.set (fun x => !isSpc x) j }) ∧ Hid (Touch (fun i => i = b) w wr)) (fun i _ => 256 - (intOf i).toNat)
  case atStart => exact ⟨0, rfl, by omega, HH, Lib.hid (Touch.refl _ _)⟩
  case round =>
    obtain ⟨j, rfl, hj, HN, HT⟩ := hrel
    by_cases hlt : j < 256
    · have hx := HN.out.cell (i := 1 + j) (by omega)
      rw [nv_set _ hlt] at hx
      obtain ⟨hx1, hx2⟩ := hx
      have hw8 : IntKind.u8.wrap (j : Int) = (j : Int) := by unfold IntKind.wrap; simp [IntKind.signed, IntKind.bits]; omega
      have hwj := IntWalk.i64_in ((j : Int) + 1) (by omega)
      by_cases e32 : j = 32
      · subst e32
        have HN2 := HN
        rw [upTo_no (j := 32) (by rfl)] at HN2
        go_wp2_with fail
        go_roundw
        case rel => exact ⟨32 + 1, by go_num, by omega, HN2, HT⟩
        case measure => simp [intOf]
      · have p32 : ((j : Int) == 32) = false := by simp; omega
        by_cases e9 : j = 9
        · subst e9
          have HN2 := HN
          rw [upTo_no (j := 9) (by rfl)] at HN2
          go_wp2_with fail
          go_roundw
          case rel => exact ⟨9 + 1, by go_num, by omega, HN2, HT⟩
          case measure => simp [intOf]
        · have p9 : ((j : Int) == 9) = false := by simp; omega
          by_cases e10 : j = 10
          · subst e10
            have HN2 := HN
            rw [upTo_no (j := 10) (by rfl)] at HN2
            go_wp2_with fail
            go_roundw
            case rel => exact ⟨10 + 1, by go_num, by omega, HN2, HT⟩
            case measure => simp [intOf]
          · have p10 : ((j : Int) == 10) = false := by simp; omega
            by_cases h1 : 48 ≤ j
            · have q1 : decide ((48 : Int) ≤ (j : Int)) = true := decide_eq_true (by omega)
              by_cases h2 : j ≤ 57
              · have q2 : decide ((j : Int) ≤ 57) = true := decide_eq_true (by omega)
                have HN2 := Lib.hid (HN.out.setOne hlt true)
                rw [show (fun x => if x = j then true else ({ v with set := upTo v.set (fun x => !isSpc x) j } : NV).set x) = upTo v.set (fun x => !isSpc x) (j + 1) from upTo_yes (by simp [isSpc]; omega)] at HN2
                have HT2 : Hid (Touch (fun i => i = b) w (wr.setCell ⟨b, 1 + j, none⟩ (.bool true))) := Lib.hid (HT.out.setCell (.inl rfl) _)
                go_wp2_with fail
                go_roundw
                case rel => exact ⟨j + 1, by go_num, by omega, HN2, HT2⟩
                case measure => simp [intOf]; omega
              · have q2 : decide ((j : Int) ≤ 57) = false := decide_eq_false (by omega)
                have HN2 := Lib.hid (HN.out.setOne hlt true)
                rw [show (fun x => if x = j then true else ({ v with set := upTo v.set (fun x => !isSpc x) j } : NV).set x) = upTo v.set (fun x => !isSpc x) (j + 1) from upTo_yes (by simp [isSpc]; omega)] at HN2
                have HT2 : Hid (Touch (fun i => i = b) w (wr.setCell ⟨b, 1 + j, none⟩ (.bool true))) := Lib.hid (HT.out.setCell (.inl rfl) _)
                go_wp2_with fail
                go_roundw
                case rel => exact ⟨j + 1, by go_num, by omega, HN2, HT2⟩
                case measure => simp [intOf]; omega
            · have q1 : decide ((48 : Int) ≤ (j : Int)) = false := decide_eq_false (by omega)
              have HN2 := Lib.hid (HN.out.setOne hlt true)
              rw [show (fun x => if x = j then true else ({ v with set := upTo v.set (fun x => !isSpc x) j } : NV).set x) = upTo v.set (fun x => !isSpc x) (j + 1) from upTo_yes (by simp [isSpc]; omega)] at HN2
              have HT2 : Hid (Touch (fun i => i = b) w (wr.setCell ⟨b, 1 + j, none⟩ (.bool true))) := Lib.hid (HT.out.setCell (.inl rfl) _)
              go_wp2_with fail
              go_roundw
              case rel => exact ⟨j + 1, by go_num, by omega, HN2, HT2⟩
              case measure => simp [intOf]; omega
    · obtain rfl : j = 256 := by omega
      go_wp2_with fail
      go_end0
      exact ⟨rfl, HN.out.congrSet (fun x hx => by unfold upTo; simp [hx]), HT.out⟩

theorem ris_any (c : Nat) (f : Nat → Bool) (hf : named c = some f) (b : Nat) (v : NV) (w : World) (h : NodeB w b v) :
    Calls Tryz.prog 113 #[.pointer (some ⟨b, 1, none⟩), .int .u8 (c : Int)] w fun e w' => e = .returned (.tuple #[]) ∧ NodeB w' b { v with set := fun x => v.set x || f x } ∧ Touch (fun i => i = b) w w' := by
  unfold named at hf
  by_cases h0 : c = 100
  · rw [if_pos h0] at hf
    cases hf
    subst h0
    exact ris_d b v w h
  rw [if_neg h0] at hf
  by_cases h1 : c = 68
  · rw [if_pos h1] at hf
    cases hf
    subst h1
    exact ris_D b v w h
  rw [if_neg h1] at hf
  by_cases h2 : c = 119
  · rw [if_pos h2] at hf
    cases hf
    subst h2
    exact ris_w b v w h
  rw [if_neg h2] at hf
  by_cases h3 : c = 87
  · rw [if_pos h3] at hf
    cases hf
    subst h3
    exact ris_W b v w h
  rw [if_neg h3] at hf
  by_cases h4 : c = 115
  · rw [if_pos h4] at hf
    cases hf
    subst h4
    exact ris_s b v w h
  rw [if_neg h4] at hf
  by_cases h5 : c = 83
  · rw [if_pos h5] at hf
    cases hf
    subst h5
    exact ris_S b v w h
  rw [if_neg h5] at hf
  cases hf
end Go.Proofs.YtlgpilcjcomacaaGreat

/-
  The document's member, escape. (Printed by wip/tools/rmemb07.py.)
-/
namespace Go.Proofs.YtlgpilcjcomacaaGreat
open Go.RowKit Rx
set_option linter.unusedVariables false

theorem RR.setOk {br : Nat} {s : ByteArray} {deep : Nat} {st : PS} {w : World} (h : RR br s deep st w) : RR br s deep st (w.setCell ⟨br, 5, none⟩ (.bool false)) :=
  ⟨cell_set_other h.c0 _ (.inr (by simp)), h.c1.set_other _ (.inr (by simp)), h.c2.set_other _ (.inr (by simp)), h.c3.set_other _ (.inr (by simp)), h.c4.set_other _ (.inr (by simp)), h.c5.set _, h.le, h.sz, h.gs, h.rs, h.dp⟩
theorem RR.rx {br : Nat} {s : ByteArray} {deep : Nat} {st : PS} {w : World} (h : RR br s deep st w) : ∀ w', w' = w.setCell ⟨br, 5, none⟩ (.bool true) → RX br s w' := fun w' e => by rw [e]; exact h.bad

theorem ib_kinds (c : Nat) (hc : c < 256) : decide (0 ≤ Lib.indexByte ([100, 68, 119, 87, 115, 83] : List UInt8) ((c : Int).toNat.toUInt8)) = (named c).isSome := by
  have hu : ((c : Int).toNat.toUInt8).toNat = c := by simp; omega
  have hib := ib_contains [100, 68, 119, 87, 115, 83] ((c : Int).toNat.toUInt8)
  rw [hu] at hib
  rw [hib, Bool.eq_iff_iff]
  unfold named
  simp only [List.contains_iff_mem, List.map_cons, List.map_nil, List.mem_cons, List.not_mem_nil, or_false]
  constructor
  · rintro (h | h | h | h | h | h) <;> (rw [h]; rfl)
  · intro h
    by_cases h0 : c = 100
    · exact .inl h0
    by_cases h1 : c = 68
    · exact .inr (.inl h1)
    by_cases h2 : c = 119
    · exact .inr (.inr (.inl h2))
    by_cases h3 : c = 87
    · exact .inr (.inr (.inr (.inl h3)))
    by_cases h4 : c = 115
    · exact .inr (.inr (.inr (.inr (.inl h4))))
    by_cases h5 : c = 83
    · exact .inr (.inr (.inr (.inr (.inr h5))))
    rw [if_neg h0, if_neg h1, if_neg h2, if_neg h3, if_neg h4, if_neg h5] at h
    cases h
theorem named_ne0 {c : Nat} (h : (named c).isSome = true) : c ≠ 0 := fun e => by subst e; exact absurd h (by decide)

/-- What comes back of a member of a class of the document. -/
def MembP (br nb : Nat) (s : ByteArray) (deep : Nat) (st : PS) (v : NV) (w : World) : Option (Nat × Option (Nat → Bool) × Nat) → Ending → World → Prop
  | none, e, w' => ∃ b : Nat, e = .returned (.tuple #[.int .u8 (b : Int), .bool false]) ∧ b < 256 ∧ RX br s w' ∧ NodeB w' nb v ∧ Touch (fun i => i = br ∨ i = nb) w w'
  | some (c, none, j), e, w' => e = .returned (.tuple #[.int .u8 (c : Int), .bool false]) ∧ c < 256 ∧ st.pos < j ∧ RR br s deep { st with pos := j } w' ∧ NodeB w' nb v ∧ Touch (fun i => i = br ∨ i = nb) w w'
  | some (c, some f, j), e, w' => e = .returned (.tuple #[.int .u8 (c : Int), .bool true]) ∧ c = 0 ∧ st.pos < j ∧ RR br s deep { st with pos := j } w' ∧ NodeB w' nb { v with set := fun x => v.set x || f x } ∧ Touch (fun i => i = br ∨ i = nb) w w'

set_option maxRecDepth 100000 in
set_option maxHeartbeats 4000000 in
theorem rmember_any (br nb : Nat) (hne : nb ≠ br) (s : ByteArray) (deep : Nat) (st : PS) (v : NV) (w : World) (h : RR br s deep st w) (hlt : st.pos < s.size) (hN : NodeB w nb v) :
    Calls Tryz.prog 112 #[.pointer (some ⟨br, 0, none⟩), .pointer (some ⟨nb, 1, none⟩)] w (MembP br nb s deep st v w (memberP (str s) st.pos)) := by
  have hsz := h.sz
  have HRS0 := Lib.hid h
  have HN0 := Lib.hid hN
  have HT0 : Hid (Touch (fun i => i = br ∨ i = nb) w w) := Lib.hid (Touch.refl _ _)
  have HNE := Lib.hid hne
  obtain ⟨w0, hw0⟩ : ∃ w0, w0 = w := ⟨_, rfl⟩
  have HPOS : Hid (byteAt (str s) st.pos = some (pk (str s) st.pos)) := Lib.hid (byteAt_pk hlt)
  obtain ⟨i, hi⟩ : ∃ i, st.pos = i := ⟨_, rfl⟩
  rw [hi] at hlt HPOS
  have hw1 := IntWalk.i64_in ((i : Int) + 1) (by omega)
  obtain ⟨c, hc⟩ : ∃ c, pk (str s) i = c := ⟨_, rfl⟩
  have hc256 := pk_256 s i
  rw [hc] at hc256 HPOS
  have HC := Lib.hid hc
  have HI := Lib.hid hi
  rw [hi]
  clear h hN hne hc
  rw [← hw0] at HRS0 HN0 HT0 ⊢
  have HW0 := Lib.hid hw0
  clear hw0 hi
  go_enter Tryz.func112, Tryz.ntmps112
  go_wp2_with fail
  refine (rpeek_rr HRS0.out).mono ?_
  rintro e w1 ⟨he, q, hq⟩
  rw [show pk (str s) (PS.pos _) = c from by rw [HI.out]; exact HC.out] at he
  subst he
  have HRS1 := Lib.hid (HRS0.out.drewN q)
  have HT1 := Lib.hid (HT0.out.drewN q)
  rw [← hq] at HRS1 HT1
  have HN1 := Lib.hid (HN0.out.keep ((Touch.refl (fun _ => False) w0).drewN q) id)
  rw [← hq] at HN1
  clear hq
  have HPI : Hid (({ st with pos := i } : PS) = st) := Lib.hid (by rw [← HI.out])
  rw [← HPI.out] at HRS1
  have hc1 := HRS1.out.c1
  obtain ⟨hc1, hc1f⟩ := hc1
  simp only at hc1 hc1f
  obtain ⟨w2, hw2⟩ : ∃ w2, w1.setCell ⟨br, 1, none⟩ (.int .i64 ((i : Int) + 1)) = w2 := ⟨_, rfl⟩
  have HRS2 := Lib.hid (HRS1.out.setPos (i + 1) (by show i + 1 ≤ s.size; omega))
  rw [show ((i + 1 : Nat) : Int) = (i : Int) + 1 from by omega, hw2] at HRS2
  have HT2 := Lib.hid (Touch.then HT1.out (Touch.setCell (p := ⟨br, 1, none⟩) (Touch.refl (fun b => b = br ∨ b = nb) w1) (.inl (.inl rfl)) (.int .i64 ((i : Int) + 1))))
  rw [hw2] at HT2
  have HN2 := Lib.hid (HN1.out.keep (Touch.setCell (p := ⟨br, 1, none⟩) (Touch.refl (fun b => b = br) w1) (.inl rfl) (.int .i64 ((i : Int) + 1))) HNE.out)
  rw [hw2] at HN2
  by_cases h92 : c = 92
  · have q92 : ((c : Int) != 92) = false := by rw [h92]; rfl
    have q92b : ((c : Int) == 92) = true := by rw [h92]; rfl
    have HC92 := Lib.hid h92
    clear h92
    go_wp2_with fail
    clear hw2 hc1 hc1f
    refine (rend_rr HRS2.out).mono ?_
    rintro e w3 ⟨he, q, hq⟩
    have HRS3 := Lib.hid (HRS2.out.drewN q)
    have HT3 := Lib.hid (HT2.out.drewN q)
    rw [← hq] at HRS3 HT3
    have HN3 := Lib.hid (HN2.out.keep ((Touch.refl (fun _ => False) w2).drewN q) id)
    rw [← hq] at HN3
    clear hq
    by_cases hend : s.size ≤ i + 1
    · rw [show decide (s.size ≤ PS.pos _) = true from decide_eq_true hend] at he
      subst he
      have HR : Hid (memberP (str s) i = none) := Lib.hid (by unfold memberP; rw [HPOS.out, HC92.out]; simp only [ne_eq, not_true_eq_false, if_false]; rw [byteAt_ge hend])
      have hc5 := HRS3.out.c5
      obtain ⟨hc5, hc5f⟩ := hc5
      clear hend
      go_wp2_with fail
      go_ret2
      rw [HR.out]
      have tb : Touch (fun b => b = br) w3 (w3.setCell ⟨br, 5, none⟩ (.bool true)) := Touch.setCell (Touch.refl (fun b => b = br) w3) (.inl rfl) _
      exact ⟨0, rfl, by decide, HRS3.out.bad, HN3.out.keep tb HNE.out, HT3.out.then (tb.mono (fun _ _ e => .inl e))⟩
    · rw [show decide (s.size ≤ PS.pos _) = false from decide_eq_false hend] at he
      subst he
      have hlt2 : i + 1 < s.size := by omega
      clear hend
      have HPOS2 := Lib.hid (byteAt_pk hlt2)
      obtain ⟨d, hd⟩ : ∃ d, pk (str s) (i + 1) = d := ⟨_, rfl⟩
      have hd256 := pk_256 s (i + 1)
      rw [hd] at hd256 HPOS2
      have HD := Lib.hid hd
      clear hd
      have HM : Hid (memberP (str s) i = match named d with | some f => some (0, some f, i + 2) | none => match plainP d with | none => none | some b => some (b, none, i + 2)) := Lib.hid (by unfold memberP; rw [HPOS.out, HC92.out]; simp only [ne_eq, not_true_eq_false, if_false]; rw [HPOS2.out]; rfl)
      go_wp2_with fail
      refine (rpeek_rr HRS3.out).mono ?_
      rintro e w4 ⟨he, q, hq⟩
      rw [show pk (str s) (PS.pos _) = d from HD.out] at he
      subst he
      have HRS4 := Lib.hid (HRS3.out.drewN q)
      have HT4 := Lib.hid (HT3.out.drewN q)
      rw [← hq] at HRS4 HT4
      have HN4 := Lib.hid (HN3.out.keep ((Touch.refl (fun _ => False) w3).drewN q) id)
      rw [← hq] at HN4
      clear hq
      have hw12 := IntWalk.i64_in ((i : Int) + 1 + 1) (by omega)
      have hc1 := HRS4.out.c1
      obtain ⟨hc1, hc1f⟩ := hc1
      simp only at hc1 hc1f
      obtain ⟨w5, hw5⟩ : ∃ w5, w4.setCell ⟨br, 1, none⟩ (.int .i64 ((i : Int) + 1 + 1)) = w5 := ⟨_, rfl⟩
      have HRS5 := Lib.hid (HRS4.out.setPos ((i + 1) + 1) (by show (i + 1) + 1 ≤ s.size; omega))
      rw [show (((i + 1) + 1 : Nat) : Int) = (i : Int) + 1 + 1 from by omega, hw5] at HRS5
      have HT5 := Lib.hid (Touch.then HT4.out (Touch.setCell (p := ⟨br, 1, none⟩) (Touch.refl (fun b => b = br ∨ b = nb) w4) (.inl (.inl rfl)) (.int .i64 ((i : Int) + 1 + 1))))
      rw [hw5] at HT5
      have HN5 := Lib.hid (HN4.out.keep (Touch.setCell (p := ⟨br, 1, none⟩) (Touch.refl (fun b => b = br) w4) (.inl rfl) (.int .i64 ((i : Int) + 1 + 1))) HNE.out)
      rw [hw5] at HN5
      have HIB := Lib.hid (fun w => Tryz.strings_IndexByte ⟨#[100, 68, 119, 87, 115, 83]⟩ (d : Int) w)
      have hib := ib_kinds d hd256
      obtain ⟨x, hx⟩ : ∃ x, Lib.indexByte (⟨#[100, 68, 119, 87, 115, 83]⟩ : ByteArray).data.toList ((d : Int).toNat.toUInt8) = x := ⟨_, rfl⟩
      rw [hx] at HIB
      rw [show Lib.indexByte [100, 68, 119, 87, 115, 83] ((d : Int).toNat.toUInt8) = x from hx] at hib
      clear hx
      cases hnm : named d with
      | some f =>
        rw [hnm] at hib HM
        simp only [Option.isSome_some] at hib
        have hd0 := named_ne0 (c := d) (by rw [hnm]; rfl)
        have q0 : ((d : Int) != 0) = true := by rw [bne_iff_ne]; omega
        have HIS := Lib.hid (ris_any d f hnm nb v w5 HN5.out)
        have HR : Hid (memberP (str s) i = some (0, some f, i + 2)) := HM
        clear hd0 hnm HM
        go_wp2_with fail
        clear hw5 hc1 hc1f
        refine (HIB.out _).mono ?_
        rintro e w9 ⟨rfl, rfl⟩
        go_wp2_with fail
        refine HIS.out.mono ?_
        rintro e w6 ⟨rfl, hn, ht⟩
        have HN6 := Lib.hid hn
        have HRS6 := Lib.hid (HRS5.out.keep ht (Ne.symm HNE.out))
        have HT6 := Lib.hid (HT5.out.then (ht.mono (fun _ _ e => .inr e)))
        clear hn ht
        go_wp2_with fail
        go_ret2
        rw [HR.out]
        exact ⟨rfl, rfl, by rw [HI.out]; omega, HRS6.out, HN6.out, HT6.out⟩
      | none =>
        rw [hnm] at hib HM
        simp only [Option.isSome_none] at hib
        have HSI := Lib.hid (rsingle_any d hd256 w5)
        clear hnm
        cases hpl : plainP d with
        | some b =>
          rw [hpl] at HSI HM
          have hb256 := plain_lt hpl hd256
          have HR : Hid (memberP (str s) i = some (b, none, i + 2)) := HM
          clear hpl HM
          go_wp2_with fail
          clear hw5 hc1 hc1f
          refine (HIB.out _).mono ?_
          rintro e w9 ⟨rfl, rfl⟩
          go_wp2_with fail
          refine HSI.out.mono ?_
          rintro e w9 ⟨rfl, rfl⟩
          have hc5 := HRS5.out.c5
          obtain ⟨hc5, hc5f⟩ := hc5
          go_wp2_with fail
          go_ret2
          rw [HR.out]
          have tb : Touch (fun b => b = br) w9 (w9.setCell ⟨br, 5, none⟩ (.bool false)) := Touch.setCell (Touch.refl (fun b => b = br) w9) (.inl rfl) _
          exact ⟨rfl, hb256, by rw [HI.out]; omega, HRS5.out.setOk, HN5.out.keep tb HNE.out, HT5.out.then (tb.mono (fun _ _ e => .inl e))⟩
        | none =>
          rw [hpl] at HSI HM
          have HR : Hid (memberP (str s) i = none) := HM
          clear hpl HM
          go_wp2_with fail
          clear hw5 hc1 hc1f
          refine (HIB.out _).mono ?_
          rintro e w9 ⟨rfl, rfl⟩
          go_wp2_with fail
          refine HSI.out.mono ?_
          rintro e w9 ⟨b, hb256, rfl, rfl⟩
          have hc5 := HRS5.out.c5
          obtain ⟨hc5, hc5f⟩ := hc5
          go_wp2_with fail
          go_ret2
          rw [HR.out]
          have tb : Touch (fun b => b = br) w9 (w9.setCell ⟨br, 5, none⟩ (.bool true)) := Touch.setCell (Touch.refl (fun b => b = br) w9) (.inl rfl) _
          exact ⟨b, rfl, hb256, HRS5.out.bad, HN5.out.keep tb HNE.out, HT5.out.then (tb.mono (fun _ _ e => .inl e))⟩
  · have q92 : ((c : Int) != 92) = true := by rw [bne_iff_ne]; omega
    have q92b : ((c : Int) == 92) = false := by simp; omega
    have HR : Hid (memberP (str s) i = some (c, none, i + 1)) := Lib.hid (by unfold memberP; rw [HPOS.out]; show (if c ≠ 92 then _ else _) = _; rw [if_pos h92])
    clear h92
    go_wp2_with fail
    clear hw2 hc1 hc1f
    go_ret2
    rw [HR.out]
    exact ⟨rfl, hc256, by rw [HI.out]; omega, HRS2.out, HN2.out, HT2.out⟩
end Go.Proofs.YtlgpilcjcomacaaGreat
