/-
  The program's door: the two closures of an encoding of one byte, and utf-8's second.
-/
import Derived.Test.YtaanihidheccfaaDoorLayA
import Derived.Lib.Hide
namespace Go.Proofs.YtaanihidheccfaaDoor
open Go.Shelf Go.RowKit
set_option linter.unusedVariables false

def cutB (x : UInt8) (m : Int) : Value := .tuple #[.int .i64 1, .int .i64 (if (x.toNat : Int) < m then (x.toNat : Int) else -1)]

theorem wrap_byte (x : UInt8) : wrap64 (x.toNat : Int) = (x.toNat : Int) := by
  have := x.toNat_lt
  unfold wrap64
  omega

theorem f87 (s : ByteArray) (b : Nat) (m : Int) (w : World) (hs : 0 < s.size) (hm : w.cell? ⟨b, 0, none⟩ = some (.int .i64 m)) (hb : b < w.heap.size) : Calls Tryd.prog 87 #[.string s, .pointer (some ⟨b, 0, none⟩)] w fun e w' => e = .returned (cutB (s[0]'hs) m) ∧ w' = w := by
  have hw := wrap_byte (s[0]'hs)
  by_cases h : ((s[0]'hs).toNat : Int) < m
  · have HE : Hid (cutB (s[0]'hs) m = .tuple #[.int .i64 1, .int .i64 ((s[0]'hs).toNat : Int)]) := by show _ = _; simp [cutB, h]
    have hd : decide (wrap64 ((s[0]'hs).toNat : Int) < m) = true := by rw [hw]; simpa using h
    go_enter Tryd.func87, Tryd.ntmps87
    go_wp2_with fail
    go_ret2
    rw [HE.out, hw]
    exact ⟨rfl, rfl⟩
  · have HE : Hid (cutB (s[0]'hs) m = .tuple #[.int .i64 1, .int .i64 (-1)]) := by show _ = _; simp [cutB, h]
    have hd : decide (wrap64 ((s[0]'hs).toNat : Int) < m) = false := by rw [hw]; simpa using h
    go_enter Tryd.func87, Tryd.ntmps87
    go_wp2_with fail
    go_ret2
    rw [HE.out]
    exact ⟨rfl, rfl⟩

def backB (r m : Int) : Value := if 0 ≤ r ∧ r < m then .tuple #[.string ⟨#[UInt8.ofNat r.toNat]⟩, .bool true] else .tuple #[.string ⟨#[]⟩, .bool false]

end Go.Proofs.YtaanihidheccfaaDoor
