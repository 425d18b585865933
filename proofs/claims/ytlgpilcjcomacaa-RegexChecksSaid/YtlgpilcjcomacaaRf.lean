/-
  The document's is: the bytes of a kind put into a set. (Printed by wip/tools/is07.py.)
-/
import Derived.Test.YtlgpilcjcomacaaRd
import Derived.Test.YtlgpilcjcomacaaSa
namespace Go.Proofs.Ytlgpilcjcomacaa
open Go.RowKit Rx
set_option linter.unusedVariables false

theorem NodeB.congrSet {w : World} {b : Nat} {v : NV} {f g : Nat → Bool} (h : NodeB w b { v with set := f }) (e : ∀ x, x < 256 → f x = g x) : NodeB w b { v with set := g } := by
  obtain ⟨A, hA, h1, h2⟩ := h
  refine ⟨A, hA, h1, fun i hi => (h2 i hi).trans ?_⟩
  congr 1
  unfold nv
  by_cases h0 : i = 0
  · rw [if_pos h0, if_pos h0]
  · rw [if_neg h0, if_neg h0]
    by_cases h1 : i < 257
    · rw [if_pos h1, if_pos h1]
      show Value.bool (f (i - 1)) = Value.bool (g (i - 1))
      rw [e _ (by omega)]
    · rw [if_neg h1, if_neg h1]
theorem NodeB.setOne {w : World} {b : Nat} {v : NV} (h : NodeB w b v) {i : Nat} (hi : i < 256) (u : Bool) : NodeB (w.setCell ⟨b, 1 + i, none⟩ (.bool u)) b { v with set := fun x => if x = i then u else v.set x } :=
  h.put _ (fun A hA => hA.sets hi u)

theorem rwordN (n : Nat) (hn : n < 256) (w : World) : Calls Try.prog 109 #[.int .u8 (n : Int)] w fun e w' => e = .returned (.bool (wordB n)) ∧ w = w' := by
  have h := rword_any (UInt8.ofNat n) w
  rwa [show (UInt8.ofNat n).toNat = n by simp; omega] at h

/-- A set so far: what was, and the bytes of the kind below a place. -/
def upTo (g f : Nat → Bool) (j : Nat) : Nat → Bool := fun x => g x || (decide (x < j) && f x)
theorem upTo_yes {g f : Nat → Bool} {j : Nat} (h : f j = true) : (fun x => if x = j then true else upTo g f j x) = upTo g f (j + 1) := by
  funext x
  unfold upTo
  by_cases e : x = j
  · subst e; simp [h]
  · rw [if_neg e]
    by_cases hl : x < j
    · simp [hl, show x < j + 1 by omega]
    · simp [hl, show ¬ x < j + 1 by omega]
theorem upTo_no {g f : Nat → Bool} {j : Nat} (h : f j = false) : upTo g f j = upTo g f (j + 1) := by
  funext x
  unfold upTo
  by_cases e : x = j
  · subst e; simp [h]
  · by_cases hl : x < j
    · simp [hl, show x < j + 1 by omega]
    · simp [hl, show ¬ x < j + 1 by omega]

set_option maxRecDepth 100000 in
set_option maxHeartbeats 2000000 in
theorem ris_d (b : Nat) (v : NV) (w : World) (h : NodeB w b v) :
    Calls Try.prog 116 #[.pointer (some ⟨b, 1, none⟩), .int .u8 100] w fun e w' => e = .returned (.tuple #[]) ∧ NodeB w' b { v with set := fun x => v.set x || isDig x } ∧ Touch (fun i => i = b) w w' := by
  have HH : Hid (NodeB w b { v with set := upTo v.set isDig 0 }) := Lib.hid (h.congrSet (g := upTo v.set isDig 0) (fun x _ => by simp [upTo]))
  clear h
  go_enter Try.func116, Try.ntmps116
  go_wp2_with fail
  go_loopw [5] (fun i wr => ∃ j : Nat, i = .int .i64 j ∧ j ≤ 256 ∧ Hid (NodeB wr b { v with set := upTo v.set isDig j }) ∧ Hid (Touch (fun i => i = b) w wr)) (fun i _ => 256 - (intOf i).toNat)
  case atStart => exact ⟨0, rfl, by omega, HH, Lib.hid (Touch.refl _ _)⟩
  case round =>
    obtain ⟨j, rfl, hj, HN, HT⟩ := hrel
    by_cases hlt : j < 256
    · have hx := HN.out.cell (i := 1 + j) (by omega)
      rw [nv_set _ hlt] at hx
      obtain ⟨hx1, hx2⟩ := hx
      have hw8 : IntKind.u8.wrap (j : Int) = (j : Int) := by unfold IntKind.wrap; simp [IntKind.signed, IntKind.bits]; omega
      have hwj := IntWalk.i64_in ((j : Int) + 1) (by omega)
      by_cases h1 : 48 ≤ j
      · have q1 : decide ((48 : Int) ≤ (j : Int)) = true := decide_eq_true (by omega)
        by_cases h2 : j ≤ 57
        · have q2 : decide ((j : Int) ≤ 57) = true := decide_eq_true (by omega)
          have HN2 := Lib.hid (HN.out.setOne hlt true)
          rw [show (fun x => if x = j then true else ({ v with set := upTo v.set isDig j } : NV).set x) = upTo v.set isDig (j + 1) from upTo_yes (by simp [isDig]; omega)] at HN2
          have HT2 : Hid (Touch (fun i => i = b) w (wr.setCell ⟨b, 1 + j, none⟩ (.bool true))) := Lib.hid (HT.out.setCell (.inl rfl) _)
          go_wp2_with fail
          go_roundw
          case rel => exact ⟨j + 1, by go_num, by omega, HN2, HT2⟩
          case measure => simp [intOf]; omega
        · have q2 : decide ((j : Int) ≤ 57) = false := decide_eq_false (by omega)
          have HN2 := HN
          rw [upTo_no (j := j) (by simp [isDig]; omega)] at HN2
          go_wp2_with fail
          go_roundw
          case rel => exact ⟨j + 1, by go_num, by omega, HN2, HT⟩
          case measure => simp [intOf]; omega
      · have q1 : decide ((48 : Int) ≤ (j : Int)) = false := decide_eq_false (by omega)
        have HN2 := HN
        rw [upTo_no (j := j) (by simp [isDig]; omega)] at HN2
        go_wp2_with fail
        go_roundw
        case rel => exact ⟨j + 1, by go_num, by omega, HN2, HT⟩
        case measure => simp [intOf]; omega
    · obtain rfl : j = 256 := by omega
      go_wp2_with fail
      go_end0
      exact ⟨rfl, HN.out.congrSet (fun x hx => by unfold upTo; simp [hx]), HT.out⟩

set_option maxRecDepth 100000 in
set_option maxHeartbeats 2000000 in
theorem ris_D (b : Nat) (v : NV) (w : World) (h : NodeB w b v) :
    Calls Try.prog 116 #[.pointer (some ⟨b, 1, none⟩), .int .u8 68] w fun e w' => e = .returned (.tuple #[]) ∧ NodeB w' b { v with set := fun x => v.set x || (fun x => !isDig x) x } ∧ Touch (fun i => i = b) w w' := by
  have HH : Hid (NodeB w b { v with set := upTo v.set (fun x => !isDig x) 0 }) := Lib.hid (h.congrSet (g := upTo v.set (fun x => !isDig x) 0) (fun x _ => by simp [upTo]))
  clear h
  go_enter Try.func116, Try.ntmps116
  go_wp2_with fail
  go_loopw [5] (fun i wr => ∃ j : Nat, i = .int .i64 j ∧ j ≤ 256 ∧ Hid (NodeB wr b { v with set := upTo v.set (fun x => !isDig x) j }) ∧ Hid (Touch (fun i => i = b) w wr)) (fun i _ => 256 - (intOf i).toNat)
  case atStart => exact ⟨0, rfl, by omega, HH, Lib.hid (Touch.refl _ _)⟩
  case round =>
    obtain ⟨j, rfl, hj, HN, HT⟩ := hrel
    by_cases hlt : j < 256
    · have hx := HN.out.cell (i := 1 + j) (by omega)
      rw [nv_set _ hlt] at hx
      obtain ⟨hx1, hx2⟩ := hx
      have hw8 : IntKind.u8.wrap (j : Int) = (j : Int) := by unfold IntKind.wrap; simp [IntKind.signed, IntKind.bits]; omega
      have hwj := IntWalk.i64_in ((j : Int) + 1) (by omega)
      by_cases h1 : 48 ≤ j
      · have q1 : decide ((48 : Int) ≤ (j : Int)) = true := decide_eq_true (by omega)
        by_cases h2 : j ≤ 57
        · have q2 : decide ((j : Int) ≤ 57) = true := decide_eq_true (by omega)
          have HN2 := HN
          rw [upTo_no (j := j) (by simp [isDig]; omega)] at HN2
          go_wp2_with fail
          go_roundw
          case rel => exact ⟨j + 1, by go_num, by omega, HN2, HT⟩
          case measure => simp [intOf]; omega
        · have q2 : decide ((j : Int) ≤ 57) = false := decide_eq_false (by omega)
          have HN2 := Lib.hid (HN.out.setOne hlt true)
          rw [show (fun x => if x = j then true else ({ v with set := upTo v.set (fun x => !isDig x) j } : NV).set x) = upTo v.set (fun x => !isDig x) (j + 1) from upTo_yes (by simp [isDig]; omega)] at HN2
          have HT2 : Hid (Touch (fun i => i = b) w (wr.setCell ⟨b, 1 + j, none⟩ (.bool true))) := Lib.hid (HT.out.setCell (.inl rfl) _)
          go_wp2_with fail
          go_roundw
          case rel => exact ⟨j + 1, by go_num, by omega, HN2, HT2⟩
          case measure => simp [intOf]; omega
      · have q1 : decide ((48 : Int) ≤ (j : Int)) = false := decide_eq_false (by omega)
        have HN2 := Lib.hid (HN.out.setOne hlt true)
        rw [show (fun x => if x = j then true else ({ v with set := upTo v.set (fun x => !isDig x) j } : NV).set x) = upTo v.set (fun x => !isDig x) (j + 1) from upTo_yes (by simp [isDig]; omega)] at HN2
        have HT2 : Hid (Touch (fun i => i = b) w (wr.setCell ⟨b, 1 + j, none⟩ (.bool true))) := Lib.hid (HT.out.setCell (.inl rfl) _)
        go_wp2_with fail
        go_roundw
        case rel => exact ⟨j + 1, by go_num, by omega, HN2, HT2⟩
        case measure => simp [intOf]; omega
    · obtain rfl : j = 256 := by omega
      go_wp2_with fail
      go_end0
      exact ⟨rfl, HN.out.congrSet (fun x hx => by unfold upTo; simp [hx]), HT.out⟩

set_option maxRecDepth 100000 in
set_option maxHeartbeats 2000000 in
theorem ris_w (b : Nat) (v : NV) (w : World) (h : NodeB w b v) :
    Calls Try.prog 116 #[.pointer (some ⟨b, 1, none⟩), .int .u8 119] w fun e w' => e = .returned (.tuple #[]) ∧ NodeB w' b { v with set := fun x => v.set x || wordB x } ∧ Touch (fun i => i = b) w w' := by
  have HH : Hid (NodeB w b { v with set := upTo v.set wordB 0 }) := Lib.hid (h.congrSet (g := upTo v.set wordB 0) (fun x _ => by simp [upTo]))
  clear h
  go_enter Try.func116, Try.ntmps116
  go_wp2_with fail
  go_loopw [5] (fun i wr => ∃ j : Nat, i = .int .i64 j ∧ j ≤ 256 ∧ Hid (NodeB wr b { v with set := upTo v.set wordB j }) ∧ Hid (Touch (fun i => i = b) w wr)) (fun i _ => 256 - (intOf i).toNat)
  case atStart => exact ⟨0, rfl, by omega, HH, Lib.hid (Touch.refl _ _)⟩
  case round =>
    obtain ⟨j, rfl, hj, HN, HT⟩ := hrel
    by_cases hlt : j < 256
    · have hx := HN.out.cell (i := 1 + j) (by omega)
      rw [nv_set _ hlt] at hx
      obtain ⟨hx1, hx2⟩ := hx
      have hw8 : IntKind.u8.wrap (j : Int) = (j : Int) := by unfold IntKind.wrap; simp [IntKind.signed, IntKind.bits]; omega
      have hwj := IntWalk.i64_in ((j : Int) + 1) (by omega)
      have HWJ := Lib.hid (fun w => rwordN j hlt w)
      cases hw : wordB j with
      | true =>
        have HW : Hid (∀ w, Calls Try.prog 109 #[.int .u8 (j : Int)] w fun e w' => e = .returned (.bool true) ∧ w = w') := Lib.hid (fun w => by rw [← hw]; exact HWJ.out w)
        have hwj2 := hw
        clear HWJ hw
        have HWV := Lib.hid hwj2
        clear hwj2
        by_cases h1 : 48 ≤ j
        · have q1 : decide ((48 : Int) ≤ (j : Int)) = true := decide_eq_true (by omega)
          by_cases h2 : j ≤ 57
          · have q2 : decide ((j : Int) ≤ 57) = true := decide_eq_true (by omega)
            have HN2 := Lib.hid (HN.out.setOne hlt true)
            rw [show (fun x => if x = j then true else ({ v with set := upTo v.set wordB j } : NV).set x) = upTo v.set wordB (j + 1) from upTo_yes (by exact HWV.out)] at HN2
            have HT2 : Hid (Touch (fun i => i = b) w (wr.setCell ⟨b, 1 + j, none⟩ (.bool true))) := Lib.hid (HT.out.setCell (.inl rfl) _)
            go_wp2_with fail
            refine (HW.out _).mono ?_
            rintro e w9 ⟨rfl, rfl⟩
            go_wp2_with fail
            go_roundw
            case rel => exact ⟨j + 1, by go_num, by omega, HN2, HT2⟩
            case measure => simp [intOf]; omega
          · have q2 : decide ((j : Int) ≤ 57) = false := decide_eq_false (by omega)
            have HN2 := Lib.hid (HN.out.setOne hlt true)
            rw [show (fun x => if x = j then true else ({ v with set := upTo v.set wordB j } : NV).set x) = upTo v.set wordB (j + 1) from upTo_yes (by exact HWV.out)] at HN2
            have HT2 : Hid (Touch (fun i => i = b) w (wr.setCell ⟨b, 1 + j, none⟩ (.bool true))) := Lib.hid (HT.out.setCell (.inl rfl) _)
            go_wp2_with fail
            refine (HW.out _).mono ?_
            rintro e w9 ⟨rfl, rfl⟩
            go_wp2_with fail
            go_roundw
            case rel => exact ⟨j + 1, by go_num, by omega, HN2, HT2⟩
            case measure => simp [intOf]; omega
        · have q1 : decide ((48 : Int) ≤ (j : Int)) = false := decide_eq_false (by omega)
          have HN2 := Lib.hid (HN.out.setOne hlt true)
          rw [show (fun x => if x = j then true else ({ v with set := upTo v.set wordB j } : NV).set x) = upTo v.set wordB (j + 1) from upTo_yes (by exact HWV.out)] at HN2
          have HT2 : Hid (Touch (fun i => i = b) w (wr.setCell ⟨b, 1 + j, none⟩ (.bool true))) := Lib.hid (HT.out.setCell (.inl rfl) _)
          go_wp2_with fail
          refine (HW.out _).mono ?_
          rintro e w9 ⟨rfl, rfl⟩
          go_wp2_with fail
          go_roundw
          case rel => exact ⟨j + 1, by go_num, by omega, HN2, HT2⟩
          case measure => simp [intOf]; omega
      | false =>
        have HW : Hid (∀ w, Calls Try.prog 109 #[.int .u8 (j : Int)] w fun e w' => e = .returned (.bool false) ∧ w = w') := Lib.hid (fun w => by rw [← hw]; exact HWJ.out w)
        have hwj2 := hw
        clear HWJ hw
        have HWV := Lib.hid hwj2
        clear hwj2
        by_cases h1 : 48 ≤ j
        · have q1 : decide ((48 : Int) ≤ (j : Int)) = true := decide_eq_true (by omega)
          by_cases h2 : j ≤ 57
          · have q2 : decide ((j : Int) ≤ 57) = true := decide_eq_true (by omega)
            have HN2 := HN
            rw [upTo_no (j := j) (by exact HWV.out)] at HN2
            go_wp2_with fail
            refine (HW.out _).mono ?_
            rintro e w9 ⟨rfl, rfl⟩
            go_wp2_with fail
            go_roundw
            case rel => exact ⟨j + 1, by go_num, by omega, HN2, HT⟩
            case measure => simp [intOf]; omega
          · have q2 : decide ((j : Int) ≤ 57) = false := decide_eq_false (by omega)
            have HN2 := HN
            rw [upTo_no (j := j) (by exact HWV.out)] at HN2
            go_wp2_with fail
            refine (HW.out _).mono ?_
            rintro e w9 ⟨rfl, rfl⟩
            go_wp2_with fail
            go_roundw
            case rel => exact ⟨j + 1, by go_num, by omega, HN2, HT⟩
            case measure => simp [intOf]; omega
        · have q1 : decide ((48 : Int) ≤ (j : Int)) = false := decide_eq_false (by omega)
          have HN2 := HN
          rw [upTo_no (j := j) (by exact HWV.out)] at HN2
          go_wp2_with fail
          refine (HW.out _).mono ?_
          rintro e w9 ⟨rfl, rfl⟩
          go_wp2_with fail
          go_roundw
          case rel => exact ⟨j + 1, by go_num, by omega, HN2, HT⟩
          case measure => simp [intOf]; omega
    · obtain rfl : j = 256 := by omega
      go_wp2_with fail
      go_end0
      exact ⟨rfl, HN.out.congrSet (fun x hx => by unfold upTo; simp [hx]), HT.out⟩

set_option maxRecDepth 100000 in
set_option maxHeartbeats 2000000 in
theorem ris_W (b : Nat) (v : NV) (w : World) (h : NodeB w b v) :
    Calls Try.prog 116 #[.pointer (some ⟨b, 1, none⟩), .int .u8 87] w fun e w' => e = .returned (.tuple #[]) ∧ NodeB w' b { v with set := fun x => v.set x || (fun x => !wordB x) x } ∧ Touch (fun i => i = b) w w' := by
  have HH : Hid (NodeB w b { v with set := upTo v.set (fun x => !wordB x) 0 }) := Lib.hid (h.congrSet (g := upTo v.set (fun x => !wordB x) 0) (fun x _ => by simp [upTo]))
  clear h
  go_enter Try.func116, Try.ntmps116
  go_wp2_with fail
  go_loopw [5] (fun i wr => ∃ j : Nat, i = .int .i64 j ∧ j ≤ 256 ∧ Hid (NodeB wr b { v with set := upTo v.set (fun x => !wordB x) j }) ∧ Hid (Touch (fun i => i = b) w wr)) (fun i _ => 256 - (intOf i).toNat)
  case atStart => exact ⟨0, rfl, by omega, HH, Lib.hid (Touch.refl _ _)⟩
  case round =>
    obtain ⟨j, rfl, hj, HN, HT⟩ := hrel
    by_cases hlt : j < 256
    · have hx := HN.out.cell (i := 1 + j) (by omega)
      rw [nv_set _ hlt] at hx
      obtain ⟨hx1, hx2⟩ := hx
      have hw8 : IntKind.u8.wrap (j : Int) = (j : Int) := by unfold IntKind.wrap; simp [IntKind.signed, IntKind.bits]; omega
      have hwj := IntWalk.i64_in ((j : Int) + 1) (by omega)
      have HWJ := Lib.hid (fun w => rwordN j hlt w)
      cases hw : wordB j with
      | true =>
        have HW : Hid (∀ w, Calls Try.prog 109 #[.int .u8 (j : Int)] w fun e w' => e = .returned (.bool true) ∧ w = w') := Lib.hid (fun w => by rw [← hw]; exact HWJ.out w)
        have hwj2 := hw
        clear HWJ hw
        have HWV := Lib.hid hwj2
        clear hwj2
        by_cases h1 : 48 ≤ j
        · have q1 : decide ((48 : Int) ≤ (j : Int)) = true := decide_eq_true (by omega)
          by_cases h2 : j ≤ 57
          · have q2 : decide ((j : Int) ≤ 57) = true := decide_eq_true (by omega)
            have HN2 := HN
            rw [upTo_no (j := j) (by simp [HWV.out])] at HN2
            go_wp2_with fail
            refine (HW.out _).mono ?_
            rintro e w9 ⟨rfl, rfl⟩
            go_wp2_with fail
            go_roundw
            case rel => exact ⟨j + 1, by go_num, by omega, HN2, HT⟩
            case measure => simp [intOf]; omega
          · have q2 : decide ((j : Int) ≤ 57) = false := decide_eq_false (by omega)
            have HN2 := HN
            rw [upTo_no (j := j) (by simp [HWV.out])] at HN2
            go_wp2_with fail
            refine (HW.out _).mono ?_
            rintro e w9 ⟨rfl, rfl⟩
            go_wp2_with fail
            go_roundw
            case rel => exact ⟨j + 1, by go_num, by omega, HN2, HT⟩
            case measure => simp [intOf]; omega
        · have q1 : decide ((48 : Int) ≤ (j : Int)) = false := decide_eq_false (by omega)
          have HN2 := HN
          rw [upTo_no (j := j) (by simp [HWV.out])] at HN2
          go_wp2_with fail
          refine (HW.out _).mono ?_
          rintro e w9 ⟨rfl, rfl⟩
          go_wp2_with fail
          go_roundw
          case rel => exact ⟨j + 1, by go_num, by omega, HN2, HT⟩
          case measure => simp [intOf]; omega
      | false =>
        have HW : Hid (∀ w, Calls Try.prog 109 #[.int .u8 (j : Int)] w fun e w' => e = .returned (.bool false) ∧ w = w') := Lib.hid (fun w => by rw [← hw]; exact HWJ.out w)
        have hwj2 := hw
        clear HWJ hw
        have HWV := Lib.hid hwj2
        clear hwj2
        by_cases h1 : 48 ≤ j
        · have q1 : decide ((48 : Int) ≤ (j : Int)) = true := decide_eq_true (by omega)
          by_cases h2 : j ≤ 57
          · have q2 : decide ((j : Int) ≤ 57) = true := decide_eq_true (by omega)
            have HN2 := Lib.hid (HN.out.setOne hlt true)
            rw [show (fun x => if x = j then true else ({ v with set := upTo v.set (fun x => !wordB x) j } : NV).set x) = upTo v.set (fun x => !wordB x) (j + 1) from upTo_yes (by simp [HWV.out])] at HN2
            have HT2 : Hid (Touch (fun i => i = b) w (wr.setCell ⟨b, 1 + j, none⟩ (.bool true))) := Lib.hid (HT.out.setCell (.inl rfl) _)
            go_wp2_with fail
            refine (HW.out _).mono ?_
            rintro e w9 ⟨rfl, rfl⟩
            go_wp2_with fail
            go_roundw
            case rel => exact ⟨j + 1, by go_num, by omega, HN2, HT2⟩
            case measure => simp [intOf]; omega
          · have q2 : decide ((j : Int) ≤ 57) = false := decide_eq_false (by omega)
            have HN2 := Lib.hid (HN.out.setOne hlt true)
            rw [show (fun x => if x = j then true else ({ v with set := upTo v.set (fun x => !wordB x) j } : NV).set x) = upTo v.set (fun x => !wordB x) (j + 1) from upTo_yes (by simp [HWV.out])] at HN2
            have HT2 : Hid (Touch (fun i => i = b) w (wr.setCell ⟨b, 1 + j, none⟩ (.bool true))) := Lib.hid (HT.out.setCell (.inl rfl) _)
            go_wp2_with fail
            refine (HW.out _).mono ?_
            rintro e w9 ⟨rfl, rfl⟩
            go_wp2_with fail
            go_roundw
            case rel => exact ⟨j + 1, by go_num, by omega, HN2, HT2⟩
            case measure => simp [intOf]; omega
        · have q1 : decide ((48 : Int) ≤ (j : Int)) = false := decide_eq_false (by omega)
          have HN2 := Lib.hid (HN.out.setOne hlt true)
          rw [show (fun x => if x = j then true else ({ v with set := upTo v.set (fun x => !wordB x) j } : NV).set x) = upTo v.set (fun x => !wordB x) (j + 1) from upTo_yes (by simp [HWV.out])] at HN2
          have HT2 : Hid (Touch (fun i => i = b) w (wr.setCell ⟨b, 1 + j, none⟩ (.bool true))) := Lib.hid (HT.out.setCell (.inl rfl) _)
          go_wp2_with fail
          refine (HW.out _).mono ?_
          rintro e w9 ⟨rfl, rfl⟩
          go_wp2_with fail
          go_roundw
          case rel => exact ⟨j + 1, by go_num, by omega, HN2, HT2⟩
          case measure => simp [intOf]; omega
    · obtain rfl : j = 256 := by omega
      go_wp2_with fail
      go_end0
      exact ⟨rfl, HN.out.congrSet (fun x hx => by unfold upTo; simp [hx]), HT.out⟩

set_option maxRecDepth 100000 in
set_option maxHeartbeats 2000000 in
theorem ris_s (b : Nat) (v : NV) (w : World) (h : NodeB w b v) :
    Calls Try.prog 116 #[.pointer (some ⟨b, 1, none⟩), .int .u8 115] w fun e w' => e = .returned (.tuple #[]) ∧ NodeB w' b { v with set := fun x => v.set x || isSpc x } ∧ Touch (fun i => i = b) w w' := by
  have HH : Hid (NodeB w b { v with set := upTo v.set isSpc 0 }) := Lib.hid (h.congrSet (g := upTo v.set isSpc 0) (fun x _ => by simp [upTo]))
  clear h
  go_enter Try.func116, Try.ntmps116
  go_wp2_with fail
  go_loopw [5] (fun i wr => ∃ j : Nat, i = .int .i64 j ∧ j ≤ 256 ∧ Hid (NodeB wr b { v with set := upTo v.set isSpc j }) ∧ Hid (Touch (fun i => i = b) w wr)) (fun i _ => 256 - (intOf i).toNat)
  case atStart => exact ⟨0, rfl, by omega, HH, Lib.hid (Touch.refl _ _)⟩
  case round =>
    obtain ⟨j, rfl, hj, HN, HT⟩ := hrel
    by_cases hlt : j < 256
    · have hx := HN.out.cell (i := 1 + j) (by omega)
      rw [nv_set _ hlt] at hx
      obtain ⟨hx1, hx2⟩ := hx
      have hw8 : IntKind.u8.wrap (j : Int) = (j : Int) := by unfold IntKind.wrap; simp [IntKind.signed, IntKind.bits]; omega
      have hwj := IntWalk.i64_in ((j : Int) + 1) (by omega)
      by_cases e32 : j = 32
      · subst e32
        have HN2 := Lib.hid (HN.out.setOne hlt true)
        rw [show (fun x => if x = 32 then true else ({ v with set := upTo v.set isSpc 32 } : NV).set x) = upTo v.set isSpc (32 + 1) from upTo_yes (by rfl)] at HN2
        have HT2 : Hid (Touch (fun i => i = b) w (wr.setCell ⟨b, 1 + 32, none⟩ (.bool true))) := Lib.hid (HT.out.setCell (.inl rfl) _)
        go_wp2_with fail
        go_roundw
        case rel => exact ⟨32 + 1, by go_num, by omega, HN2, HT2⟩
        case measure => simp [intOf]
      · have p32 : ((j : Int) == 32) = false := by simp; omega
        by_cases e9 : j = 9
        · subst e9
          have HN2 := Lib.hid (HN.out.setOne hlt true)
          rw [show (fun x => if x = 9 then true else ({ v with set := upTo v.set isSpc 9 } : NV).set x) = upTo v.set isSpc (9 + 1) from upTo_yes (by rfl)] at HN2
          have HT2 : Hid (Touch (fun i => i = b) w (wr.setCell ⟨b, 1 + 9, none⟩ (.bool true))) := Lib.hid (HT.out.setCell (.inl rfl) _)
          go_wp2_with fail
          go_roundw
          case rel => exact ⟨9 + 1, by go_num, by omega, HN2, HT2⟩
          case measure => simp [intOf]
        · have p9 : ((j : Int) == 9) = false := by simp; omega
          by_cases e10 : j = 10
          · subst e10
            have HN2 := Lib.hid (HN.out.setOne hlt true)
            rw [show (fun x => if x = 10 then true else ({ v with set := upTo v.set isSpc 10 } : NV).set x) = upTo v.set isSpc (10 + 1) from upTo_yes (by rfl)] at HN2
            have HT2 : Hid (Touch (fun i => i = b) w (wr.setCell ⟨b, 1 + 10, none⟩ (.bool true))) := Lib.hid (HT.out.setCell (.inl rfl) _)
            go_wp2_with fail
            go_roundw
            case rel => exact ⟨10 + 1, by go_num, by omega, HN2, HT2⟩
            case measure => simp [intOf]
          · have p10 : ((j : Int) == 10) = false := by simp; omega
            by_cases h1 : 48 ≤ j
            · have q1 : decide ((48 : Int) ≤ (j : Int)) = true := decide_eq_true (by omega)
              by_cases h2 : j ≤ 57
              · have q2 : decide ((j : Int) ≤ 57) = true := decide_eq_true (by omega)
                have HN2 := HN
                rw [upTo_no (j := j) (by simp [isSpc]; omega)] at HN2
                go_wp2_with fail
                go_roundw
                case rel => exact ⟨j + 1, by go_num, by omega, HN2, HT⟩
                case measure => simp [intOf]; omega
              · have q2 : decide ((j : Int) ≤ 57) = false := decide_eq_false (by omega)
                have HN2 := HN
                rw [upTo_no (j := j) (by simp [isSpc]; omega)] at HN2
                go_wp2_with fail
                go_roundw
                case rel => exact ⟨j + 1, by go_num, by omega, HN2, HT⟩
                case measure => simp [intOf]; omega
            · have q1 : decide ((48 : Int) ≤ (j : Int)) = false := decide_eq_false (by omega)
              have HN2 := HN
              rw [upTo_no (j := j) (by simp [isSpc]; omega)] at HN2
              go_wp2_with fail
              go_roundw
              case rel => exact ⟨j + 1, by go_num, by omega, HN2, HT⟩
              case measure => simp [intOf]; omega
    · obtain rfl : j = 256 := by omega
      go_wp2_with fail
      go_end0
      exact ⟨rfl, HN.out.congrSet (fun x hx => by unfold upTo; simp [hx]), HT.out⟩

set_option maxRecDepth 100000 in
set_option maxHeartbeats 2000000 in
theorem ris_S (b : Nat) (v : NV) (w : World) (h : NodeB w b v) :
    Calls Try.prog 116 #[.pointer (some ⟨b, 1, none⟩), .int .u8 83] w fun e w' => e = .returned (.tuple #[]) ∧ NodeB w' b { v with set := fun x => v.set x || (fun x => !isSpc x) x } ∧ Touch (fun i => i = b) w w' := by
  have HH : Hid (NodeB w b { v with set := upTo v.set (fun x => !isSpc x) 0 }) := Lib.hid (h.congrSet (g := upTo v.set (fun x => !isSpc x) 0) (fun x _ => by simp [upTo]))
  clear h
  go_enter Try.func116, Try.ntmps116
  go_wp2_with fail
  go_loopw [5] (fun i wr => ∃ j : Nat, i = .int .i64 j ∧ j ≤ 256 ∧ Hid (NodeB wr b { v with set := upTo v.set (fun x => !isSpc x) j }) ∧ Hid (Touch (fun i => i = b) w wr)) (fun i _ => 256 - (intOf i).toNat)
  case atStart => exact ⟨0, rfl, by omega, HH, Lib.hid (Touch.refl _ _)⟩
  case round =>
    obtain ⟨j, rfl, hj, HN, HT⟩ := hrel
    by_cases hlt : j < 256
    · have hx := HN.out.cell (i := 1 + j) (by omega)
      rw [nv_set _ hlt] at hx
      obtain ⟨hx1, hx2⟩ := hx
      have hw8 : IntKind.u8.wrap (j : Int) = (j : Int) := by unfold IntKind.wrap; simp [IntKind.signed, IntKind.bits]; omega
      have hwj := IntWalk.i64_in ((j : Int) + 1) (by omega)
      by_cases e32 : j = 32
      · subst e32
        have HN2 := HN
        rw [upTo_no (j := 32) (by rfl)] at HN2
        go_wp2_with fail
        go_roundw
        case rel => exact ⟨32 + 1, by go_num, by omega, HN2, HT⟩
        case measure => simp [intOf]
      · have p32 : ((j : Int) == 32) = false := by simp; omega
        by_cases e9 : j = 9
        · subst e9
          have HN2 := HN
          rw [upTo_no (j := 9) (by rfl)] at HN2
          go_wp2_with fail
          go_roundw
          case rel => exact ⟨9 + 1, by go_num, by omega, HN2, HT⟩
          case measure => simp [intOf]
        · have p9 : ((j : Int) == 9) = false := by simp; omega
          by_cases e10 : j = 10
          · subst e10
            have HN2 := HN
            rw [upTo_no (j := 10) (by rfl)] at HN2
            go_wp2_with fail
            go_roundw
            case rel => exact ⟨10 + 1, by go_num, by omega, HN2, HT⟩
            case measure => simp [intOf]
          · have p10 : ((j : Int) == 10) = false := by simp; omega
            by_cases h1 : 48 ≤ j
            · have q1 : decide ((48 : Int) ≤ (j : Int)) = true := decide_eq_true (by omega)
              by_cases h2 : j ≤ 57
              · have q2 : decide ((j : Int) ≤ 57) = true := decide_eq_true (by omega)
                have HN2 := Lib.hid (HN.out.setOne hlt true)
                rw [show (fun x => if x = j then true else ({ v with set := upTo v.set (fun x => !isSpc x) j } : NV).set x) = upTo v.set (fun x => !isSpc x) (j + 1) from upTo_yes (by simp [isSpc]; omega)] at HN2
                have HT2 : Hid (Touch (fun i => i = b) w (wr.setCell ⟨b, 1 + j, none⟩ (.bool true))) := Lib.hid (HT.out.setCell (.inl rfl) _)
                go_wp2_with fail
                go_roundw
                case rel => exact ⟨j + 1, by go_num, by omega, HN2, HT2⟩
                case measure => simp [intOf]; omega
              · have q2 : decide ((j : Int) ≤ 57) = false := decide_eq_false (by omega)
                have HN2 := Lib.hid (HN.out.setOne hlt true)
                rw [show (fun x => if x = j then true else ({ v with set := upTo v.set (fun x => !isSpc x) j } : NV).set x) = upTo v.set (fun x => !isSpc x) (j + 1) from upTo_yes (by simp [isSpc]; omega)] at HN2
                have HT2 : Hid (Touch (fun i => i = b) w (wr.setCell ⟨b, 1 + j, none⟩ (.bool true))) := Lib.hid (HT.out.setCell (.inl rfl) _)
                go_wp2_with fail
                go_roundw
                case rel => exact ⟨j + 1, by go_num, by omega, HN2, HT2⟩
                case measure => simp [intOf]; omega
            · have q1 : decide ((48 : Int) ≤ (j : Int)) = false := decide_eq_false (by omega)
              have HN2 := Lib.hid (HN.out.setOne hlt true)
              rw [show (fun x => if x = j then true else ({ v with set := upTo v.set (fun x => !isSpc x) j } : NV).set x) = upTo v.set (fun x => !isSpc x) (j + 1) from upTo_yes (by simp [isSpc]; omega)] at HN2
              have HT2 : Hid (Touch (fun i => i = b) w (wr.setCell ⟨b, 1 + j, none⟩ (.bool true))) := Lib.hid (HT.out.setCell (.inl rfl) _)
              go_wp2_with fail
              go_roundw
              case rel => exact ⟨j + 1, by go_num, by omega, HN2, HT2⟩
              case measure => simp [intOf]; omega
    · obtain rfl : j = 256 := by omega
      go_wp2_with fail
      go_end0
      exact ⟨rfl, HN.out.congrSet (fun x hx => by unfold upTo; simp [hx]), HT.out⟩

theorem ris_any (c : Nat) (f : Nat → Bool) (hf : named c = some f) (b : Nat) (v : NV) (w : World) (h : NodeB w b v) :
    Calls Try.prog 116 #[.pointer (some ⟨b, 1, none⟩), .int .u8 (c : Int)] w fun e w' => e = .returned (.tuple #[]) ∧ NodeB w' b { v with set := fun x => v.set x || f x } ∧ Touch (fun i => i = b) w w' := by
  unfold named at hf
  by_cases h0 : c = 100
  · rw [if_pos h0] at hf
    cases hf
    subst h0
    exact ris_d b v w h
  rw [if_neg h0] at hf
  by_cases h1 : c = 68
  · rw [if_pos h1] at hf
    cases hf
    subst h1
    exact ris_D b v w h
  rw [if_neg h1] at hf
  by_cases h2 : c = 119
  · rw [if_pos h2] at hf
    cases hf
    subst h2
    exact ris_w b v w h
  rw [if_neg h2] at hf
  by_cases h3 : c = 87
  · rw [if_pos h3] at hf
    cases hf
    subst h3
    exact ris_W b v w h
  rw [if_neg h3] at hf
  by_cases h4 : c = 115
  · rw [if_pos h4] at hf
    cases hf
    subst h4
    exact ris_s b v w h
  rw [if_neg h4] at hf
  by_cases h5 : c = 83
  · rw [if_pos h5] at hf
    cases hf
    subst h5
    exact ris_S b v w h
  rw [if_neg h5] at hf
  cases hf
end Go.Proofs.Ytlgpilcjcomacaa
