/-
  The program's door: the second closure of an encoding of one byte.
-/
import Derived.Test.YtaanihidheccfaaDoorWalkB
import Derived.Lib.SlBytesRow
namespace Go.Proofs.YtaanihidheccfaaDoor
open Go.Shelf Go.RowKit
set_option linter.unusedVariables false

theorem conv_one (r : Int) (h : 0 ≤ r ∧ r < 256) (w : World) : (convert 53 9 (.slice (some ⟨w.heap.size, 0, none⟩) 1 1)).run Tryd.prog (w.alloc (.cells #[.int .u8 (r % 256)] 5)) = .ok (.string ⟨#[UInt8.ofNat r.toNat]⟩) (w.alloc (.cells #[.int .u8 (r % 256)] 5)) := by
  refine Go.Lib.run_convert_whole (P := Tryd.prog) _ 53 5 9 Tryd.underlying53 Tryd.underlying5 Tryd.underlying9 w.heap.size 0 ⟨#[UInt8.ofNat r.toNat]⟩ ?_ 1
  intro i hi
  have hi' : i < 1 := hi
  have : i = 0 := by omega
  subst this
  have e : ((UInt8.ofNat r.toNat).toNat : Int) = r % 256 := by
    rw [UInt8.toNat_ofNat']
    omega
  show _ = some (Value.int .u8 ((UInt8.ofNat r.toNat).toNat : Int))
  rw [e]
  simp


theorem f88 (r : Int) (b : Nat) (m : Int) (w : World) (hm0 : m ≤ 256) (hm : w.cell? ⟨b, 0, none⟩ = some (.int .i64 m)) (hb : b < w.heap.size) : Calls Tryd.prog 88 #[.int .i64 r, .pointer (some ⟨b, 0, none⟩)] w fun e w' => e = .returned (backB r m) ∧ Below w.heap.size w w' := by
  by_cases h1 : r < 0
  · have HE : Hid (backB r m = .tuple #[.string ⟨#[]⟩, .bool false]) := by
      show _ = _
      unfold backB
      rw [if_neg (by omega)]
    go_enter Tryd.func88, Tryd.ntmps88
    go_wp2_with fail
    go_ret2
    rw [HE.out]
    exact ⟨rfl, Below.refl _ _⟩
  · by_cases h2 : m ≤ r
    · have HE : Hid (backB r m = .tuple #[.string ⟨#[]⟩, .bool false]) := by
        show _ = _
        unfold backB
        rw [if_neg (by omega)]
      go_enter Tryd.func88, Tryd.ntmps88
      go_wp2_with fail
      go_ret2
      rw [HE.out]
      exact ⟨rfl, Below.refl _ _⟩
    · have HE : Hid (backB r m = .tuple #[.string ⟨#[UInt8.ofNat r.toNat]⟩, .bool true]) := by
        show _ = _
        unfold backB
        rw [if_pos (by omega)]
      have hcv := conv_one r (by omega) w
      clear hm0
      go_enter Tryd.func88, Tryd.ntmps88
      go_wp2_with fail
      go_ret2
      rw [HE.out]
      exact ⟨rfl, (Below.refl _ _).alloc (Nat.le_refl _) _⟩

end Go.Proofs.YtaanihidheccfaaDoor
