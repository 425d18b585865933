/-
  The document: codes and begins.
-/
import Derived.Test.YtaanihidheccfaaDoorRefB
namespace Go.Proofs.YtaanihidheccfaaDoor
open Go.Shelf Go.RowKit
set_option linter.unusedVariables false

theorem cast_min (a c : Nat) : ((min a c : Nat) : Int) = min (a : Int) (c : Int) := by omega
theorem cast_max (a c : Nat) : ((max a c : Nat) : Int) = max (a : Int) (c : Int) := by omega
def leastN (L : Nat) : Nat := if L = 2 then 128 else if L = 3 then 2048 else 65536
def powN (n L : Nat) : Nat := if L = n then 1 else if L = n + 1 then 64 else if L = n + 2 then 4096 else 262144

set_option maxRecDepth 100000 in
theorem f95_12 (b : Nat) (hb : b ≤ 2097151) (w : World) : Calls Tryd.prog 95 #[.int .i64 b, .int .i64 1, .int .i64 2] w fun en w' => en = .returned (.tuple #[.int .i64 (max (b * 64) 128 : Nat), .int .i64 (min (b * 64 + 63) 1114111 : Nat)]) ∧ Below w.heap.size w w' := by
  have e1 : ((max (b * 64) 128 : Nat) : Int) = max ((b : Int) * 64) 128 := by first | (rw [cast_max, Int.natCast_mul]; rfl) | (rw [cast_max]; rfl)
  have e2 : ((min (b * 64 + 63) 1114111 : Nat) : Int) = min ((b : Int) * 64 + 63) 1114111 := by first | (rw [cast_min, Int.natCast_add, Int.natCast_mul]; rfl) | (rw [cast_min]; rfl)
  rw [e1, e2]
  clear e1 e2
  go_enter Tryd.func95, Tryd.ntmps95
  go_wp2_with fail
  go_loop [8, 9, 10] (fun lo hi i => ∃ j l h : Nat, lo = .int .i64 l ∧ hi = .int .i64 h ∧ i = .int .i64 j ∧ Hid ((1 = j ∧ b = l ∧ b = h) ∨ (2 = j ∧ b * 64 = l ∧ b * 64 + 63 = h))) (fun _ _ i => 2 - (intOf i).toNat)
  case atStart => exact ⟨1, b, b, rfl, rfl, rfl, Lib.hid (by omega)⟩
  case round =>
    obtain ⟨j, l, h, rfl, rfl, rfl, HJ⟩ := hrel
    have HJ0 := HJ.out
    clear HJ
    rcases HJ0 with ⟨rfl, rfl, rfl⟩ | ⟨rfl, rfl, rfl⟩
    · go_wp2_with fail
      go_round
      case rel => exact ⟨2, b * 64, b * 64 + 63, by go_num, by go_num, by go_num, Lib.hid (by omega)⟩
      case measure => simp [intOf]
    · go_wp2_with fail
      go_ret2
      exact ⟨rfl, (Below.refl _ _).alloc (Nat.le_refl _) _⟩

set_option maxRecDepth 100000 in
theorem f95_22 (b : Nat) (hb : b ≤ 2097151) (w : World) : Calls Tryd.prog 95 #[.int .i64 b, .int .i64 2, .int .i64 2] w fun en w' => en = .returned (.tuple #[.int .i64 (max (b) 128 : Nat), .int .i64 (min (b) 1114111 : Nat)]) ∧ Below w.heap.size w w' := by
  have e1 : ((max (b) 128 : Nat) : Int) = max ((b : Int)) 128 := by first | (rw [cast_max, Int.natCast_mul]; rfl) | (rw [cast_max]; rfl)
  have e2 : ((min (b) 1114111 : Nat) : Int) = min ((b : Int)) 1114111 := by first | (rw [cast_min, Int.natCast_add, Int.natCast_mul]; rfl) | (rw [cast_min]; rfl)
  rw [e1, e2]
  clear e1 e2
  go_enter Tryd.func95, Tryd.ntmps95
  go_wp2_with fail
  go_loop [8, 9, 10] (fun lo hi i => ∃ j l h : Nat, lo = .int .i64 l ∧ hi = .int .i64 h ∧ i = .int .i64 j ∧ Hid ((2 = j ∧ b = l ∧ b = h))) (fun _ _ i => 2 - (intOf i).toNat)
  case atStart => exact ⟨2, b, b, rfl, rfl, rfl, Lib.hid (by omega)⟩
  case round =>
    obtain ⟨j, l, h, rfl, rfl, rfl, HJ⟩ := hrel
    have HJ0 := HJ.out
    clear HJ
    obtain ⟨rfl, rfl, rfl⟩ := HJ0
    go_wp2_with fail
    go_ret2
    exact ⟨rfl, (Below.refl _ _).alloc (Nat.le_refl _) _⟩

set_option maxRecDepth 100000 in
theorem f95_13 (b : Nat) (hb : b ≤ 2097151) (w : World) : Calls Tryd.prog 95 #[.int .i64 b, .int .i64 1, .int .i64 3] w fun en w' => en = .returned (.tuple #[.int .i64 (max (b * 4096) 2048 : Nat), .int .i64 (min (b * 4096 + 4095) 1114111 : Nat)]) ∧ Below w.heap.size w w' := by
  have e1 : ((max (b * 4096) 2048 : Nat) : Int) = max ((b : Int) * 4096) 2048 := by first | (rw [cast_max, Int.natCast_mul]; rfl) | (rw [cast_max]; rfl)
  have e2 : ((min (b * 4096 + 4095) 1114111 : Nat) : Int) = min ((b : Int) * 4096 + 4095) 1114111 := by first | (rw [cast_min, Int.natCast_add, Int.natCast_mul]; rfl) | (rw [cast_min]; rfl)
  rw [e1, e2]
  clear e1 e2
  go_enter Tryd.func95, Tryd.ntmps95
  go_wp2_with fail
  go_loop [8, 9, 10] (fun lo hi i => ∃ j l h : Nat, lo = .int .i64 l ∧ hi = .int .i64 h ∧ i = .int .i64 j ∧ Hid ((1 = j ∧ b = l ∧ b = h) ∨ (2 = j ∧ b * 64 = l ∧ b * 64 + 63 = h) ∨ (3 = j ∧ b * 4096 = l ∧ b * 4096 + 4095 = h))) (fun _ _ i => 3 - (intOf i).toNat)
  case atStart => exact ⟨1, b, b, rfl, rfl, rfl, Lib.hid (by omega)⟩
  case round =>
    obtain ⟨j, l, h, rfl, rfl, rfl, HJ⟩ := hrel
    have HJ0 := HJ.out
    clear HJ
    rcases HJ0 with ⟨rfl, rfl, rfl⟩ | ⟨rfl, rfl, rfl⟩ | ⟨rfl, rfl, rfl⟩
    · go_wp2_with fail
      go_round
      case rel => exact ⟨2, b * 64, b * 64 + 63, by go_num, by go_num, by go_num, Lib.hid (by omega)⟩
      case measure => simp [intOf]
    · go_wp2_with fail
      go_round
      case rel => exact ⟨3, b * 4096, b * 4096 + 4095, by go_num, by go_num, by go_num, Lib.hid (by omega)⟩
      case measure => simp [intOf]
    · go_wp2_with fail
      go_ret2
      exact ⟨rfl, (Below.refl _ _).alloc (Nat.le_refl _) _⟩

set_option maxRecDepth 100000 in
theorem f95_23 (b : Nat) (hb : b ≤ 2097151) (w : World) : Calls Tryd.prog 95 #[.int .i64 b, .int .i64 2, .int .i64 3] w fun en w' => en = .returned (.tuple #[.int .i64 (max (b * 64) 2048 : Nat), .int .i64 (min (b * 64 + 63) 1114111 : Nat)]) ∧ Below w.heap.size w w' := by
  have e1 : ((max (b * 64) 2048 : Nat) : Int) = max ((b : Int) * 64) 2048 := by first | (rw [cast_max, Int.natCast_mul]; rfl) | (rw [cast_max]; rfl)
  have e2 : ((min (b * 64 + 63) 1114111 : Nat) : Int) = min ((b : Int) * 64 + 63) 1114111 := by first | (rw [cast_min, Int.natCast_add, Int.natCast_mul]; rfl) | (rw [cast_min]; rfl)
  rw [e1, e2]
  clear e1 e2
  go_enter Tryd.func95, Tryd.ntmps95
  go_wp2_with fail
  go_loop [8, 9, 10] (fun lo hi i => ∃ j l h : Nat, lo = .int .i64 l ∧ hi = .int .i64 h ∧ i = .int .i64 j ∧ Hid ((2 = j ∧ b = l ∧ b = h) ∨ (3 = j ∧ b * 64 = l ∧ b * 64 + 63 = h))) (fun _ _ i => 3 - (intOf i).toNat)
  case atStart => exact ⟨2, b, b, rfl, rfl, rfl, Lib.hid (by omega)⟩
  case round =>
    obtain ⟨j, l, h, rfl, rfl, rfl, HJ⟩ := hrel
    have HJ0 := HJ.out
    clear HJ
    rcases HJ0 with ⟨rfl, rfl, rfl⟩ | ⟨rfl, rfl, rfl⟩
    · go_wp2_with fail
      go_round
      case rel => exact ⟨3, b * 64, b * 64 + 63, by go_num, by go_num, by go_num, Lib.hid (by omega)⟩
      case measure => simp [intOf]
    · go_wp2_with fail
      go_ret2
      exact ⟨rfl, (Below.refl _ _).alloc (Nat.le_refl _) _⟩

set_option maxRecDepth 100000 in
theorem f95_33 (b : Nat) (hb : b ≤ 2097151) (w : World) : Calls Tryd.prog 95 #[.int .i64 b, .int .i64 3, .int .i64 3] w fun en w' => en = .returned (.tuple #[.int .i64 (max (b) 2048 : Nat), .int .i64 (min (b) 1114111 : Nat)]) ∧ Below w.heap.size w w' := by
  have e1 : ((max (b) 2048 : Nat) : Int) = max ((b : Int)) 2048 := by first | (rw [cast_max, Int.natCast_mul]; rfl) | (rw [cast_max]; rfl)
  have e2 : ((min (b) 1114111 : Nat) : Int) = min ((b : Int)) 1114111 := by first | (rw [cast_min, Int.natCast_add, Int.natCast_mul]; rfl) | (rw [cast_min]; rfl)
  rw [e1, e2]
  clear e1 e2
  go_enter Tryd.func95, Tryd.ntmps95
  go_wp2_with fail
  go_loop [8, 9, 10] (fun lo hi i => ∃ j l h : Nat, lo = .int .i64 l ∧ hi = .int .i64 h ∧ i = .int .i64 j ∧ Hid ((3 = j ∧ b = l ∧ b = h))) (fun _ _ i => 3 - (intOf i).toNat)
  case atStart => exact ⟨3, b, b, rfl, rfl, rfl, Lib.hid (by omega)⟩
  case round =>
    obtain ⟨j, l, h, rfl, rfl, rfl, HJ⟩ := hrel
    have HJ0 := HJ.out
    clear HJ
    obtain ⟨rfl, rfl, rfl⟩ := HJ0
    go_wp2_with fail
    go_ret2
    exact ⟨rfl, (Below.refl _ _).alloc (Nat.le_refl _) _⟩

set_option maxRecDepth 100000 in
theorem f95_14 (b : Nat) (hb : b ≤ 2097151) (w : World) : Calls Tryd.prog 95 #[.int .i64 b, .int .i64 1, .int .i64 4] w fun en w' => en = .returned (.tuple #[.int .i64 (max (b * 262144) 65536 : Nat), .int .i64 (min (b * 262144 + 262143) 1114111 : Nat)]) ∧ Below w.heap.size w w' := by
  have e1 : ((max (b * 262144) 65536 : Nat) : Int) = max ((b : Int) * 262144) 65536 := by first | (rw [cast_max, Int.natCast_mul]; rfl) | (rw [cast_max]; rfl)
  have e2 : ((min (b * 262144 + 262143) 1114111 : Nat) : Int) = min ((b : Int) * 262144 + 262143) 1114111 := by first | (rw [cast_min, Int.natCast_add, Int.natCast_mul]; rfl) | (rw [cast_min]; rfl)
  rw [e1, e2]
  clear e1 e2
  go_enter Tryd.func95, Tryd.ntmps95
  go_wp2_with fail
  go_loop [8, 9, 10] (fun lo hi i => ∃ j l h : Nat, lo = .int .i64 l ∧ hi = .int .i64 h ∧ i = .int .i64 j ∧ Hid ((1 = j ∧ b = l ∧ b = h) ∨ (2 = j ∧ b * 64 = l ∧ b * 64 + 63 = h) ∨ (3 = j ∧ b * 4096 = l ∧ b * 4096 + 4095 = h) ∨ (4 = j ∧ b * 262144 = l ∧ b * 262144 + 262143 = h))) (fun _ _ i => 4 - (intOf i).toNat)
  case atStart => exact ⟨1, b, b, rfl, rfl, rfl, Lib.hid (by omega)⟩
  case round =>
    obtain ⟨j, l, h, rfl, rfl, rfl, HJ⟩ := hrel
    have HJ0 := HJ.out
    clear HJ
    rcases HJ0 with ⟨rfl, rfl, rfl⟩ | ⟨rfl, rfl, rfl⟩ | ⟨rfl, rfl, rfl⟩ | ⟨rfl, rfl, rfl⟩
    · go_wp2_with fail
      go_round
      case rel => exact ⟨2, b * 64, b * 64 + 63, by go_num, by go_num, by go_num, Lib.hid (by omega)⟩
      case measure => simp [intOf]
    · go_wp2_with fail
      go_round
      case rel => exact ⟨3, b * 4096, b * 4096 + 4095, by go_num, by go_num, by go_num, Lib.hid (by omega)⟩
      case measure => simp [intOf]
    · go_wp2_with fail
      go_round
      case rel => exact ⟨4, b * 262144, b * 262144 + 262143, by go_num, by go_num, by go_num, Lib.hid (by omega)⟩
      case measure => simp [intOf]
    · go_wp2_with fail
      go_ret2
      exact ⟨rfl, (Below.refl _ _).alloc (Nat.le_refl _) _⟩

set_option maxRecDepth 100000 in
theorem f95_24 (b : Nat) (hb : b ≤ 2097151) (w : World) : Calls Tryd.prog 95 #[.int .i64 b, .int .i64 2, .int .i64 4] w fun en w' => en = .returned (.tuple #[.int .i64 (max (b * 4096) 65536 : Nat), .int .i64 (min (b * 4096 + 4095) 1114111 : Nat)]) ∧ Below w.heap.size w w' := by
  have e1 : ((max (b * 4096) 65536 : Nat) : Int) = max ((b : Int) * 4096) 65536 := by first | (rw [cast_max, Int.natCast_mul]; rfl) | (rw [cast_max]; rfl)
  have e2 : ((min (b * 4096 + 4095) 1114111 : Nat) : Int) = min ((b : Int) * 4096 + 4095) 1114111 := by first | (rw [cast_min, Int.natCast_add, Int.natCast_mul]; rfl) | (rw [cast_min]; rfl)
  rw [e1, e2]
  clear e1 e2
  go_enter Tryd.func95, Tryd.ntmps95
  go_wp2_with fail
  go_loop [8, 9, 10] (fun lo hi i => ∃ j l h : Nat, lo = .int .i64 l ∧ hi = .int .i64 h ∧ i = .int .i64 j ∧ Hid ((2 = j ∧ b = l ∧ b = h) ∨ (3 = j ∧ b * 64 = l ∧ b * 64 + 63 = h) ∨ (4 = j ∧ b * 4096 = l ∧ b * 4096 + 4095 = h))) (fun _ _ i => 4 - (intOf i).toNat)
  case atStart => exact ⟨2, b, b, rfl, rfl, rfl, Lib.hid (by omega)⟩
  case round =>
    obtain ⟨j, l, h, rfl, rfl, rfl, HJ⟩ := hrel
    have HJ0 := HJ.out
    clear HJ
    rcases HJ0 with ⟨rfl, rfl, rfl⟩ | ⟨rfl, rfl, rfl⟩ | ⟨rfl, rfl, rfl⟩
    · go_wp2_with fail
      go_round
      case rel => exact ⟨3, b * 64, b * 64 + 63, by go_num, by go_num, by go_num, Lib.hid (by omega)⟩
      case measure => simp [intOf]
    · go_wp2_with fail
      go_round
      case rel => exact ⟨4, b * 4096, b * 4096 + 4095, by go_num, by go_num, by go_num, Lib.hid (by omega)⟩
      case measure => simp [intOf]
    · go_wp2_with fail
      go_ret2
      exact ⟨rfl, (Below.refl _ _).alloc (Nat.le_refl _) _⟩

set_option maxRecDepth 100000 in
theorem f95_34 (b : Nat) (hb : b ≤ 2097151) (w : World) : Calls Tryd.prog 95 #[.int .i64 b, .int .i64 3, .int .i64 4] w fun en w' => en = .returned (.tuple #[.int .i64 (max (b * 64) 65536 : Nat), .int .i64 (min (b * 64 + 63) 1114111 : Nat)]) ∧ Below w.heap.size w w' := by
  have e1 : ((max (b * 64) 65536 : Nat) : Int) = max ((b : Int) * 64) 65536 := by first | (rw [cast_max, Int.natCast_mul]; rfl) | (rw [cast_max]; rfl)
  have e2 : ((min (b * 64 + 63) 1114111 : Nat) : Int) = min ((b : Int) * 64 + 63) 1114111 := by first | (rw [cast_min, Int.natCast_add, Int.natCast_mul]; rfl) | (rw [cast_min]; rfl)
  rw [e1, e2]
  clear e1 e2
  go_enter Tryd.func95, Tryd.ntmps95
  go_wp2_with fail
  go_loop [8, 9, 10] (fun lo hi i => ∃ j l h : Nat, lo = .int .i64 l ∧ hi = .int .i64 h ∧ i = .int .i64 j ∧ Hid ((3 = j ∧ b = l ∧ b = h) ∨ (4 = j ∧ b * 64 = l ∧ b * 64 + 63 = h))) (fun _ _ i => 4 - (intOf i).toNat)
  case atStart => exact ⟨3, b, b, rfl, rfl, rfl, Lib.hid (by omega)⟩
  case round =>
    obtain ⟨j, l, h, rfl, rfl, rfl, HJ⟩ := hrel
    have HJ0 := HJ.out
    clear HJ
    rcases HJ0 with ⟨rfl, rfl, rfl⟩ | ⟨rfl, rfl, rfl⟩
    · go_wp2_with fail
      go_round
      case rel => exact ⟨4, b * 64, b * 64 + 63, by go_num, by go_num, by go_num, Lib.hid (by omega)⟩
      case measure => simp [intOf]
    · go_wp2_with fail
      go_ret2
      exact ⟨rfl, (Below.refl _ _).alloc (Nat.le_refl _) _⟩

set_option maxRecDepth 100000 in
theorem f95_44 (b : Nat) (hb : b ≤ 2097151) (w : World) : Calls Tryd.prog 95 #[.int .i64 b, .int .i64 4, .int .i64 4] w fun en w' => en = .returned (.tuple #[.int .i64 (max (b) 65536 : Nat), .int .i64 (min (b) 1114111 : Nat)]) ∧ Below w.heap.size w w' := by
  have e1 : ((max (b) 65536 : Nat) : Int) = max ((b : Int)) 65536 := by first | (rw [cast_max, Int.natCast_mul]; rfl) | (rw [cast_max]; rfl)
  have e2 : ((min (b) 1114111 : Nat) : Int) = min ((b : Int)) 1114111 := by first | (rw [cast_min, Int.natCast_add, Int.natCast_mul]; rfl) | (rw [cast_min]; rfl)
  rw [e1, e2]
  clear e1 e2
  go_enter Tryd.func95, Tryd.ntmps95
  go_wp2_with fail
  go_loop [8, 9, 10] (fun lo hi i => ∃ j l h : Nat, lo = .int .i64 l ∧ hi = .int .i64 h ∧ i = .int .i64 j ∧ Hid ((4 = j ∧ b = l ∧ b = h))) (fun _ _ i => 4 - (intOf i).toNat)
  case atStart => exact ⟨4, b, b, rfl, rfl, rfl, Lib.hid (by omega)⟩
  case round =>
    obtain ⟨j, l, h, rfl, rfl, rfl, HJ⟩ := hrel
    have HJ0 := HJ.out
    clear HJ
    obtain ⟨rfl, rfl, rfl⟩ := HJ0
    go_wp2_with fail
    go_ret2
    exact ⟨rfl, (Below.refl _ _).alloc (Nat.le_refl _) _⟩

theorem beg_ways (p least b : Nat) (lo hi : Nat) (h1 : lo = max (b * p) least) (h2 : hi = min (b * p + (p - 1)) 1114111) : Beg b p least ↔ (lo ≤ hi ∧ ¬ (55296 ≤ lo ∧ hi ≤ 57343)) := by
  subst h1 h2
  rfl

set_option maxRecDepth 100000 in
theorem f91_12 (b : Nat) (hb : b ≤ 2097151) (w : World) : Calls Tryd.prog 91 #[.int .i64 b, .int .i64 1, .int .i64 2] w fun en w' => en = .returned (.bool (decide (Beg b 64 128))) ∧ Below w.heap.size w w' := by
  have H95 := Lib.hid (f95_12 b hb w)
  have HBG := Lib.hid (beg_ways 64 128 b (max (b * 64) 128) (min (b * 64 + 63) 1114111) (by omega) (by omega))
  generalize hlo : max (b * 64) 128 = lo at *
  generalize hhi : min (b * 64 + 63) 1114111 = hi at *
  have hlo2 : lo ≤ 2097151 * 262144 := by omega
  have hhi2 : hi ≤ 1114111 := by omega
  clear hlo hhi
  by_cases h1 : lo ≤ hi
  · by_cases h2 : 55296 ≤ lo
    · by_cases h3 : hi ≤ 57343
      · have d3 : decide ((hi : Int) ≤ 57343) = true := by simp; omega
        have HE : Hid (decide (Beg b 64 128) = false) := Lib.hid (by rw [decide_eq_false_iff_not, HBG.out]; omega)
        rw [HE.out]
        go_enter Tryd.func91, Tryd.ntmps91
        go_wp2_with (go_at_call 95; refine H95.out.mono ?_; rintro en w2 ⟨rfl, hB⟩; have HB := Lib.hid hB; clear hB)
        go_ret
        exact ⟨rfl, HB.out⟩
      · have d3 : decide ((hi : Int) ≤ 57343) = false := by simp; omega
        have HE : Hid (decide (Beg b 64 128) = true) := Lib.hid (by rw [decide_eq_true_eq, HBG.out]; omega)
        rw [HE.out]
        go_enter Tryd.func91, Tryd.ntmps91
        go_wp2_with (go_at_call 95; refine H95.out.mono ?_; rintro en w2 ⟨rfl, hB⟩; have HB := Lib.hid hB; clear hB)
        go_ret
        exact ⟨rfl, HB.out⟩
    · have HE : Hid (decide (Beg b 64 128) = true) := Lib.hid (by rw [decide_eq_true_eq, HBG.out]; omega)
      rw [HE.out]
      go_enter Tryd.func91, Tryd.ntmps91
      go_wp2_with (go_at_call 95; refine H95.out.mono ?_; rintro en w2 ⟨rfl, hB⟩; have HB := Lib.hid hB; clear hB)
      go_ret
      exact ⟨rfl, HB.out⟩
  · have HE : Hid (decide (Beg b 64 128) = false) := Lib.hid (by rw [decide_eq_false_iff_not, HBG.out]; omega)
    rw [HE.out]
    have h1' : hi < lo := by omega
    clear h1
    go_enter Tryd.func91, Tryd.ntmps91
    go_wp2_with (go_at_call 95; refine H95.out.mono ?_; rintro en w2 ⟨rfl, hB⟩; have HB := Lib.hid hB; clear hB)
    go_ret
    exact ⟨rfl, HB.out⟩

set_option maxRecDepth 100000 in
theorem f91_22 (b : Nat) (hb : b ≤ 2097151) (w : World) : Calls Tryd.prog 91 #[.int .i64 b, .int .i64 2, .int .i64 2] w fun en w' => en = .returned (.bool (decide (Beg b 1 128))) ∧ Below w.heap.size w w' := by
  have H95 := Lib.hid (f95_22 b hb w)
  have HBG := Lib.hid (beg_ways 1 128 b (max (b) 128) (min (b) 1114111) (by omega) (by omega))
  generalize hlo : max (b) 128 = lo at *
  generalize hhi : min (b) 1114111 = hi at *
  have hlo2 : lo ≤ 2097151 * 262144 := by omega
  have hhi2 : hi ≤ 1114111 := by omega
  clear hlo hhi
  by_cases h1 : lo ≤ hi
  · by_cases h2 : 55296 ≤ lo
    · by_cases h3 : hi ≤ 57343
      · have d3 : decide ((hi : Int) ≤ 57343) = true := by simp; omega
        have HE : Hid (decide (Beg b 1 128) = false) := Lib.hid (by rw [decide_eq_false_iff_not, HBG.out]; omega)
        rw [HE.out]
        go_enter Tryd.func91, Tryd.ntmps91
        go_wp2_with (go_at_call 95; refine H95.out.mono ?_; rintro en w2 ⟨rfl, hB⟩; have HB := Lib.hid hB; clear hB)
        go_ret
        exact ⟨rfl, HB.out⟩
      · have d3 : decide ((hi : Int) ≤ 57343) = false := by simp; omega
        have HE : Hid (decide (Beg b 1 128) = true) := Lib.hid (by rw [decide_eq_true_eq, HBG.out]; omega)
        rw [HE.out]
        go_enter Tryd.func91, Tryd.ntmps91
        go_wp2_with (go_at_call 95; refine H95.out.mono ?_; rintro en w2 ⟨rfl, hB⟩; have HB := Lib.hid hB; clear hB)
        go_ret
        exact ⟨rfl, HB.out⟩
    · have HE : Hid (decide (Beg b 1 128) = true) := Lib.hid (by rw [decide_eq_true_eq, HBG.out]; omega)
      rw [HE.out]
      go_enter Tryd.func91, Tryd.ntmps91
      go_wp2_with (go_at_call 95; refine H95.out.mono ?_; rintro en w2 ⟨rfl, hB⟩; have HB := Lib.hid hB; clear hB)
      go_ret
      exact ⟨rfl, HB.out⟩
  · have HE : Hid (decide (Beg b 1 128) = false) := Lib.hid (by rw [decide_eq_false_iff_not, HBG.out]; omega)
    rw [HE.out]
    have h1' : hi < lo := by omega
    clear h1
    go_enter Tryd.func91, Tryd.ntmps91
    go_wp2_with (go_at_call 95; refine H95.out.mono ?_; rintro en w2 ⟨rfl, hB⟩; have HB := Lib.hid hB; clear hB)
    go_ret
    exact ⟨rfl, HB.out⟩

set_option maxRecDepth 100000 in
theorem f91_13 (b : Nat) (hb : b ≤ 2097151) (w : World) : Calls Tryd.prog 91 #[.int .i64 b, .int .i64 1, .int .i64 3] w fun en w' => en = .returned (.bool (decide (Beg b 4096 2048))) ∧ Below w.heap.size w w' := by
  have H95 := Lib.hid (f95_13 b hb w)
  have HBG := Lib.hid (beg_ways 4096 2048 b (max (b * 4096) 2048) (min (b * 4096 + 4095) 1114111) (by omega) (by omega))
  generalize hlo : max (b * 4096) 2048 = lo at *
  generalize hhi : min (b * 4096 + 4095) 1114111 = hi at *
  have hlo2 : lo ≤ 2097151 * 262144 := by omega
  have hhi2 : hi ≤ 1114111 := by omega
  clear hlo hhi
  by_cases h1 : lo ≤ hi
  · by_cases h2 : 55296 ≤ lo
    · by_cases h3 : hi ≤ 57343
      · have d3 : decide ((hi : Int) ≤ 57343) = true := by simp; omega
        have HE : Hid (decide (Beg b 4096 2048) = false) := Lib.hid (by rw [decide_eq_false_iff_not, HBG.out]; omega)
        rw [HE.out]
        go_enter Tryd.func91, Tryd.ntmps91
        go_wp2_with (go_at_call 95; refine H95.out.mono ?_; rintro en w2 ⟨rfl, hB⟩; have HB := Lib.hid hB; clear hB)
        go_ret
        exact ⟨rfl, HB.out⟩
      · have d3 : decide ((hi : Int) ≤ 57343) = false := by simp; omega
        have HE : Hid (decide (Beg b 4096 2048) = true) := Lib.hid (by rw [decide_eq_true_eq, HBG.out]; omega)
        rw [HE.out]
        go_enter Tryd.func91, Tryd.ntmps91
        go_wp2_with (go_at_call 95; refine H95.out.mono ?_; rintro en w2 ⟨rfl, hB⟩; have HB := Lib.hid hB; clear hB)
        go_ret
        exact ⟨rfl, HB.out⟩
    · have HE : Hid (decide (Beg b 4096 2048) = true) := Lib.hid (by rw [decide_eq_true_eq, HBG.out]; omega)
      rw [HE.out]
      go_enter Tryd.func91, Tryd.ntmps91
      go_wp2_with (go_at_call 95; refine H95.out.mono ?_; rintro en w2 ⟨rfl, hB⟩; have HB := Lib.hid hB; clear hB)
      go_ret
      exact ⟨rfl, HB.out⟩
  · have HE : Hid (decide (Beg b 4096 2048) = false) := Lib.hid (by rw [decide_eq_false_iff_not, HBG.out]; omega)
    rw [HE.out]
    have h1' : hi < lo := by omega
    clear h1
    go_enter Tryd.func91, Tryd.ntmps91
    go_wp2_with (go_at_call 95; refine H95.out.mono ?_; rintro en w2 ⟨rfl, hB⟩; have HB := Lib.hid hB; clear hB)
    go_ret
    exact ⟨rfl, HB.out⟩

set_option maxRecDepth 100000 in
theorem f91_23 (b : Nat) (hb : b ≤ 2097151) (w : World) : Calls Tryd.prog 91 #[.int .i64 b, .int .i64 2, .int .i64 3] w fun en w' => en = .returned (.bool (decide (Beg b 64 2048))) ∧ Below w.heap.size w w' := by
  have H95 := Lib.hid (f95_23 b hb w)
  have HBG := Lib.hid (beg_ways 64 2048 b (max (b * 64) 2048) (min (b * 64 + 63) 1114111) (by omega) (by omega))
  generalize hlo : max (b * 64) 2048 = lo at *
  generalize hhi : min (b * 64 + 63) 1114111 = hi at *
  have hlo2 : lo ≤ 2097151 * 262144 := by omega
  have hhi2 : hi ≤ 1114111 := by omega
  clear hlo hhi
  by_cases h1 : lo ≤ hi
  · by_cases h2 : 55296 ≤ lo
    · by_cases h3 : hi ≤ 57343
      · have d3 : decide ((hi : Int) ≤ 57343) = true := by simp; omega
        have HE : Hid (decide (Beg b 64 2048) = false) := Lib.hid (by rw [decide_eq_false_iff_not, HBG.out]; omega)
        rw [HE.out]
        go_enter Tryd.func91, Tryd.ntmps91
        go_wp2_with (go_at_call 95; refine H95.out.mono ?_; rintro en w2 ⟨rfl, hB⟩; have HB := Lib.hid hB; clear hB)
        go_ret
        exact ⟨rfl, HB.out⟩
      · have d3 : decide ((hi : Int) ≤ 57343) = false := by simp; omega
        have HE : Hid (decide (Beg b 64 2048) = true) := Lib.hid (by rw [decide_eq_true_eq, HBG.out]; omega)
        rw [HE.out]
        go_enter Tryd.func91, Tryd.ntmps91
        go_wp2_with (go_at_call 95; refine H95.out.mono ?_; rintro en w2 ⟨rfl, hB⟩; have HB := Lib.hid hB; clear hB)
        go_ret
        exact ⟨rfl, HB.out⟩
    · have HE : Hid (decide (Beg b 64 2048) = true) := Lib.hid (by rw [decide_eq_true_eq, HBG.out]; omega)
      rw [HE.out]
      go_enter Tryd.func91, Tryd.ntmps91
      go_wp2_with (go_at_call 95; refine H95.out.mono ?_; rintro en w2 ⟨rfl, hB⟩; have HB := Lib.hid hB; clear hB)
      go_ret
      exact ⟨rfl, HB.out⟩
  · have HE : Hid (decide (Beg b 64 2048) = false) := Lib.hid (by rw [decide_eq_false_iff_not, HBG.out]; omega)
    rw [HE.out]
    have h1' : hi < lo := by omega
    clear h1
    go_enter Tryd.func91, Tryd.ntmps91
    go_wp2_with (go_at_call 95; refine H95.out.mono ?_; rintro en w2 ⟨rfl, hB⟩; have HB := Lib.hid hB; clear hB)
    go_ret
    exact ⟨rfl, HB.out⟩

set_option maxRecDepth 100000 in
theorem f91_33 (b : Nat) (hb : b ≤ 2097151) (w : World) : Calls Tryd.prog 91 #[.int .i64 b, .int .i64 3, .int .i64 3] w fun en w' => en = .returned (.bool (decide (Beg b 1 2048))) ∧ Below w.heap.size w w' := by
  have H95 := Lib.hid (f95_33 b hb w)
  have HBG := Lib.hid (beg_ways 1 2048 b (max (b) 2048) (min (b) 1114111) (by omega) (by omega))
  generalize hlo : max (b) 2048 = lo at *
  generalize hhi : min (b) 1114111 = hi at *
  have hlo2 : lo ≤ 2097151 * 262144 := by omega
  have hhi2 : hi ≤ 1114111 := by omega
  clear hlo hhi
  by_cases h1 : lo ≤ hi
  · by_cases h2 : 55296 ≤ lo
    · by_cases h3 : hi ≤ 57343
      · have d3 : decide ((hi : Int) ≤ 57343) = true := by simp; omega
        have HE : Hid (decide (Beg b 1 2048) = false) := Lib.hid (by rw [decide_eq_false_iff_not, HBG.out]; omega)
        rw [HE.out]
        go_enter Tryd.func91, Tryd.ntmps91
        go_wp2_with (go_at_call 95; refine H95.out.mono ?_; rintro en w2 ⟨rfl, hB⟩; have HB := Lib.hid hB; clear hB)
        go_ret
        exact ⟨rfl, HB.out⟩
      · have d3 : decide ((hi : Int) ≤ 57343) = false := by simp; omega
        have HE : Hid (decide (Beg b 1 2048) = true) := Lib.hid (by rw [decide_eq_true_eq, HBG.out]; omega)
        rw [HE.out]
        go_enter Tryd.func91, Tryd.ntmps91
        go_wp2_with (go_at_call 95; refine H95.out.mono ?_; rintro en w2 ⟨rfl, hB⟩; have HB := Lib.hid hB; clear hB)
        go_ret
        exact ⟨rfl, HB.out⟩
    · have HE : Hid (decide (Beg b 1 2048) = true) := Lib.hid (by rw [decide_eq_true_eq, HBG.out]; omega)
      rw [HE.out]
      go_enter Tryd.func91, Tryd.ntmps91
      go_wp2_with (go_at_call 95; refine H95.out.mono ?_; rintro en w2 ⟨rfl, hB⟩; have HB := Lib.hid hB; clear hB)
      go_ret
      exact ⟨rfl, HB.out⟩
  · have HE : Hid (decide (Beg b 1 2048) = false) := Lib.hid (by rw [decide_eq_false_iff_not, HBG.out]; omega)
    rw [HE.out]
    have h1' : hi < lo := by omega
    clear h1
    go_enter Tryd.func91, Tryd.ntmps91
    go_wp2_with (go_at_call 95; refine H95.out.mono ?_; rintro en w2 ⟨rfl, hB⟩; have HB := Lib.hid hB; clear hB)
    go_ret
    exact ⟨rfl, HB.out⟩

set_option maxRecDepth 100000 in
theorem f91_14 (b : Nat) (hb : b ≤ 2097151) (w : World) : Calls Tryd.prog 91 #[.int .i64 b, .int .i64 1, .int .i64 4] w fun en w' => en = .returned (.bool (decide (Beg b 262144 65536))) ∧ Below w.heap.size w w' := by
  have H95 := Lib.hid (f95_14 b hb w)
  have HBG := Lib.hid (beg_ways 262144 65536 b (max (b * 262144) 65536) (min (b * 262144 + 262143) 1114111) (by omega) (by omega))
  generalize hlo : max (b * 262144) 65536 = lo at *
  generalize hhi : min (b * 262144 + 262143) 1114111 = hi at *
  have hlo2 : lo ≤ 2097151 * 262144 := by omega
  have hhi2 : hi ≤ 1114111 := by omega
  clear hlo hhi
  by_cases h1 : lo ≤ hi
  · by_cases h2 : 55296 ≤ lo
    · by_cases h3 : hi ≤ 57343
      · have d3 : decide ((hi : Int) ≤ 57343) = true := by simp; omega
        have HE : Hid (decide (Beg b 262144 65536) = false) := Lib.hid (by rw [decide_eq_false_iff_not, HBG.out]; omega)
        rw [HE.out]
        go_enter Tryd.func91, Tryd.ntmps91
        go_wp2_with (go_at_call 95; refine H95.out.mono ?_; rintro en w2 ⟨rfl, hB⟩; have HB := Lib.hid hB; clear hB)
        go_ret
        exact ⟨rfl, HB.out⟩
      · have d3 : decide ((hi : Int) ≤ 57343) = false := by simp; omega
        have HE : Hid (decide (Beg b 262144 65536) = true) := Lib.hid (by rw [decide_eq_true_eq, HBG.out]; omega)
        rw [HE.out]
        go_enter Tryd.func91, Tryd.ntmps91
        go_wp2_with (go_at_call 95; refine H95.out.mono ?_; rintro en w2 ⟨rfl, hB⟩; have HB := Lib.hid hB; clear hB)
        go_ret
        exact ⟨rfl, HB.out⟩
    · have HE : Hid (decide (Beg b 262144 65536) = true) := Lib.hid (by rw [decide_eq_true_eq, HBG.out]; omega)
      rw [HE.out]
      go_enter Tryd.func91, Tryd.ntmps91
      go_wp2_with (go_at_call 95; refine H95.out.mono ?_; rintro en w2 ⟨rfl, hB⟩; have HB := Lib.hid hB; clear hB)
      go_ret
      exact ⟨rfl, HB.out⟩
  · have HE : Hid (decide (Beg b 262144 65536) = false) := Lib.hid (by rw [decide_eq_false_iff_not, HBG.out]; omega)
    rw [HE.out]
    have h1' : hi < lo := by omega
    clear h1
    go_enter Tryd.func91, Tryd.ntmps91
    go_wp2_with (go_at_call 95; refine H95.out.mono ?_; rintro en w2 ⟨rfl, hB⟩; have HB := Lib.hid hB; clear hB)
    go_ret
    exact ⟨rfl, HB.out⟩

set_option maxRecDepth 100000 in
theorem f91_24 (b : Nat) (hb : b ≤ 2097151) (w : World) : Calls Tryd.prog 91 #[.int .i64 b, .int .i64 2, .int .i64 4] w fun en w' => en = .returned (.bool (decide (Beg b 4096 65536))) ∧ Below w.heap.size w w' := by
  have H95 := Lib.hid (f95_24 b hb w)
  have HBG := Lib.hid (beg_ways 4096 65536 b (max (b * 4096) 65536) (min (b * 4096 + 4095) 1114111) (by omega) (by omega))
  generalize hlo : max (b * 4096) 65536 = lo at *
  generalize hhi : min (b * 4096 + 4095) 1114111 = hi at *
  have hlo2 : lo ≤ 2097151 * 262144 := by omega
  have hhi2 : hi ≤ 1114111 := by omega
  clear hlo hhi
  by_cases h1 : lo ≤ hi
  · by_cases h2 : 55296 ≤ lo
    · by_cases h3 : hi ≤ 57343
      · have d3 : decide ((hi : Int) ≤ 57343) = true := by simp; omega
        have HE : Hid (decide (Beg b 4096 65536) = false) := Lib.hid (by rw [decide_eq_false_iff_not, HBG.out]; omega)
        rw [HE.out]
        go_enter Tryd.func91, Tryd.ntmps91
        go_wp2_with (go_at_call 95; refine H95.out.mono ?_; rintro en w2 ⟨rfl, hB⟩; have HB := Lib.hid hB; clear hB)
        go_ret
        exact ⟨rfl, HB.out⟩
      · have d3 : decide ((hi : Int) ≤ 57343) = false := by simp; omega
        have HE : Hid (decide (Beg b 4096 65536) = true) := Lib.hid (by rw [decide_eq_true_eq, HBG.out]; omega)
        rw [HE.out]
        go_enter Tryd.func91, Tryd.ntmps91
        go_wp2_with (go_at_call 95; refine H95.out.mono ?_; rintro en w2 ⟨rfl, hB⟩; have HB := Lib.hid hB; clear hB)
        go_ret
        exact ⟨rfl, HB.out⟩
    · have HE : Hid (decide (Beg b 4096 65536) = true) := Lib.hid (by rw [decide_eq_true_eq, HBG.out]; omega)
      rw [HE.out]
      go_enter Tryd.func91, Tryd.ntmps91
      go_wp2_with (go_at_call 95; refine H95.out.mono ?_; rintro en w2 ⟨rfl, hB⟩; have HB := Lib.hid hB; clear hB)
      go_ret
      exact ⟨rfl, HB.out⟩
  · have HE : Hid (decide (Beg b 4096 65536) = false) := Lib.hid (by rw [decide_eq_false_iff_not, HBG.out]; omega)
    rw [HE.out]
    have h1' : hi < lo := by omega
    clear h1
    go_enter Tryd.func91, Tryd.ntmps91
    go_wp2_with (go_at_call 95; refine H95.out.mono ?_; rintro en w2 ⟨rfl, hB⟩; have HB := Lib.hid hB; clear hB)
    go_ret
    exact ⟨rfl, HB.out⟩

set_option maxRecDepth 100000 in
theorem f91_34 (b : Nat) (hb : b ≤ 2097151) (w : World) : Calls Tryd.prog 91 #[.int .i64 b, .int .i64 3, .int .i64 4] w fun en w' => en = .returned (.bool (decide (Beg b 64 65536))) ∧ Below w.heap.size w w' := by
  have H95 := Lib.hid (f95_34 b hb w)
  have HBG := Lib.hid (beg_ways 64 65536 b (max (b * 64) 65536) (min (b * 64 + 63) 1114111) (by omega) (by omega))
  generalize hlo : max (b * 64) 65536 = lo at *
  generalize hhi : min (b * 64 + 63) 1114111 = hi at *
  have hlo2 : lo ≤ 2097151 * 262144 := by omega
  have hhi2 : hi ≤ 1114111 := by omega
  clear hlo hhi
  by_cases h1 : lo ≤ hi
  · by_cases h2 : 55296 ≤ lo
    · by_cases h3 : hi ≤ 57343
      · have d3 : decide ((hi : Int) ≤ 57343) = true := by simp; omega
        have HE : Hid (decide (Beg b 64 65536) = false) := Lib.hid (by rw [decide_eq_false_iff_not, HBG.out]; omega)
        rw [HE.out]
        go_enter Tryd.func91, Tryd.ntmps91
        go_wp2_with (go_at_call 95; refine H95.out.mono ?_; rintro en w2 ⟨rfl, hB⟩; have HB := Lib.hid hB; clear hB)
        go_ret
        exact ⟨rfl, HB.out⟩
      · have d3 : decide ((hi : Int) ≤ 57343) = false := by simp; omega
        have HE : Hid (decide (Beg b 64 65536) = true) := Lib.hid (by rw [decide_eq_true_eq, HBG.out]; omega)
        rw [HE.out]
        go_enter Tryd.func91, Tryd.ntmps91
        go_wp2_with (go_at_call 95; refine H95.out.mono ?_; rintro en w2 ⟨rfl, hB⟩; have HB := Lib.hid hB; clear hB)
        go_ret
        exact ⟨rfl, HB.out⟩
    · have HE : Hid (decide (Beg b 64 65536) = true) := Lib.hid (by rw [decide_eq_true_eq, HBG.out]; omega)
      rw [HE.out]
      go_enter Tryd.func91, Tryd.ntmps91
      go_wp2_with (go_at_call 95; refine H95.out.mono ?_; rintro en w2 ⟨rfl, hB⟩; have HB := Lib.hid hB; clear hB)
      go_ret
      exact ⟨rfl, HB.out⟩
  · have HE : Hid (decide (Beg b 64 65536) = false) := Lib.hid (by rw [decide_eq_false_iff_not, HBG.out]; omega)
    rw [HE.out]
    have h1' : hi < lo := by omega
    clear h1
    go_enter Tryd.func91, Tryd.ntmps91
    go_wp2_with (go_at_call 95; refine H95.out.mono ?_; rintro en w2 ⟨rfl, hB⟩; have HB := Lib.hid hB; clear hB)
    go_ret
    exact ⟨rfl, HB.out⟩

set_option maxRecDepth 100000 in
theorem f91_44 (b : Nat) (hb : b ≤ 2097151) (w : World) : Calls Tryd.prog 91 #[.int .i64 b, .int .i64 4, .int .i64 4] w fun en w' => en = .returned (.bool (decide (Beg b 1 65536))) ∧ Below w.heap.size w w' := by
  have H95 := Lib.hid (f95_44 b hb w)
  have HBG := Lib.hid (beg_ways 1 65536 b (max (b) 65536) (min (b) 1114111) (by omega) (by omega))
  generalize hlo : max (b) 65536 = lo at *
  generalize hhi : min (b) 1114111 = hi at *
  have hlo2 : lo ≤ 2097151 * 262144 := by omega
  have hhi2 : hi ≤ 1114111 := by omega
  clear hlo hhi
  by_cases h1 : lo ≤ hi
  · by_cases h2 : 55296 ≤ lo
    · by_cases h3 : hi ≤ 57343
      · have d3 : decide ((hi : Int) ≤ 57343) = true := by simp; omega
        have HE : Hid (decide (Beg b 1 65536) = false) := Lib.hid (by rw [decide_eq_false_iff_not, HBG.out]; omega)
        rw [HE.out]
        go_enter Tryd.func91, Tryd.ntmps91
        go_wp2_with (go_at_call 95; refine H95.out.mono ?_; rintro en w2 ⟨rfl, hB⟩; have HB := Lib.hid hB; clear hB)
        go_ret
        exact ⟨rfl, HB.out⟩
      · have d3 : decide ((hi : Int) ≤ 57343) = false := by simp; omega
        have HE : Hid (decide (Beg b 1 65536) = true) := Lib.hid (by rw [decide_eq_true_eq, HBG.out]; omega)
        rw [HE.out]
        go_enter Tryd.func91, Tryd.ntmps91
        go_wp2_with (go_at_call 95; refine H95.out.mono ?_; rintro en w2 ⟨rfl, hB⟩; have HB := Lib.hid hB; clear hB)
        go_ret
        exact ⟨rfl, HB.out⟩
    · have HE : Hid (decide (Beg b 1 65536) = true) := Lib.hid (by rw [decide_eq_true_eq, HBG.out]; omega)
      rw [HE.out]
      go_enter Tryd.func91, Tryd.ntmps91
      go_wp2_with (go_at_call 95; refine H95.out.mono ?_; rintro en w2 ⟨rfl, hB⟩; have HB := Lib.hid hB; clear hB)
      go_ret
      exact ⟨rfl, HB.out⟩
  · have HE : Hid (decide (Beg b 1 65536) = false) := Lib.hid (by rw [decide_eq_false_iff_not, HBG.out]; omega)
    rw [HE.out]
    have h1' : hi < lo := by omega
    clear h1
    go_enter Tryd.func91, Tryd.ntmps91
    go_wp2_with (go_at_call 95; refine H95.out.mono ?_; rintro en w2 ⟨rfl, hB⟩; have HB := Lib.hid hB; clear hB)
    go_ret
    exact ⟨rfl, HB.out⟩

end Go.Proofs.YtaanihidheccfaaDoor
