/-
  The program's reader: alternatives at whatever depth; read, with what it recovers.
-/
import Derived.Test.YtlgpilcjcomacaaPl
import Derived.Defers
import Derived.Recover
import Derived.StillTailTactics
namespace Go.Proofs.Ytlgpilcjcomacaa
open Go.RowKit Rx
set_option linter.unusedVariables false

theorem wok (br : Nat) (s : ByteArray) : ∀ d deep : Nat, deep + d = 11 → WOK br s deep (waysP (str s) d)
  | 0, deep, _ => ⟨fun _ _ => rfl, fun h => by omega⟩
  | d + 1, deep, hd => ⟨fun h => by omega, fun _ st w h => rways_any br s deep (pieceP (waysP (str s) d) (str s)) (fun st w h hlt => piece_any br s deep st w (waysP (str s) d) (wok br s d (deep + 1) (by omega)) h hlt) st w h⟩

set_option maxRecDepth 100000 in
theorem read1_panicking (p q r : Nat) (v0 v1 v2 : Value) (older : List PanicEntry) (w : World) (hp : Holds w p 0 v0) (hq : Holds w q 0 v1) (hr : Holds w r 0 v2) (hpq : p ≠ q) (hpr : p ≠ r) (hqr : q ≠ r) :
    CallsD Try.prog 63 #[.pointer (some ⟨p, 0, none⟩), .pointer (some ⟨q, 0, none⟩), .pointer (some ⟨r, 0, none⟩)] (.panicking ({ v := .iface 132 (.agg #[]), recovered := false } :: older)) w fun e u' w' =>
      e = .returned (.tuple #[]) ∧ u' = .panicking ({ v := .iface 132 (.agg #[]), recovered := true } :: older) ∧ w' = (((w.alloc (.cells #[] 132)).setCell ⟨p, 0, none⟩ (.pointer none)).setCell ⟨q, 0, none⟩ (.int .i64 0)).setCell ⟨r, 0, none⟩ (.bool false) := by
  have h1 := hp.alloc (.cells #[] 132)
  have h2 := (hq.alloc (.cells #[] 132)).set_other (p := ⟨p, 0, none⟩) (.pointer none) (.inl hpq)
  have h3 := ((hr.alloc (.cells #[] 132)).set_other (p := ⟨p, 0, none⟩) (.pointer none) (.inl hpr)).set_other (p := ⟨q, 0, none⟩) (.int .i64 0) (.inl hqr)
  obtain ⟨h1, h1f⟩ := h1
  obtain ⟨h2, h2f⟩ := h2
  obtain ⟨h3, h3f⟩ := h3
  have hta : ∀ (w : World), (Instr.typeAssert (.iface 132 (.agg #[])) 20 132 true).run Try.prog w = .ok (.tuple #[.agg #[], .bool true]) w := fun _ => by kernel_rfl
  refine callsD_of_wpS Try.func63 rfl fun c₀ cs hu => ?_
  apply wpS_seq
  apply wpS_region
  simp [wpOpsS, go_sem, recoverD, hu, Try.ntmps63, Exit.thenS, hta]
  apply wpS_seq
  apply wpS_region
  simp [wpOpsS, go_sem, Exit.thenS]
  refine wpS_cond (t := true) (by simp [Act.eval, Array.replicate]) ?_
  simp only [if_true]
  apply wpS_region
  simp [wpOpsS, go_sem, h1, h1f, h2, h2f, h3, h3f, bodyPostS, results, Try.results63]

set_option maxRecDepth 100000 in
theorem read1_idle (p q r : Nat) (w : World) :
    CallsD Try.prog 63 #[.pointer (some ⟨p, 0, none⟩), .pointer (some ⟨q, 0, none⟩), .pointer (some ⟨r, 0, none⟩)] .returning w fun e u' w' => e = .returned (.tuple #[]) ∧ u' = .returning ∧ w' = w.alloc (.cells #[] 132) := by
  have hta : ∀ (w : World), (Instr.typeAssert .nilIface 20 132 true).run Try.prog w = .ok (.tuple #[.agg #[], .bool false]) w := fun _ => by kernel_rfl
  refine callsD_of_wpS Try.func63 rfl fun c₀ cs hu => ?_
  apply wpS_seq
  apply wpS_region
  simp [wpOpsS, go_sem, recoverD, hu, Try.ntmps63, Exit.thenS, hta]
  apply wpS_seq
  apply wpS_region
  simp [wpOpsS, go_sem, Exit.thenS]
  refine wpS_cond (t := false) (by simp [Act.eval, Array.replicate]) ?_
  simp only [Bool.false_eq_true, if_false]
  refine wpS_of_wp (wp_skip ?_)
  cases c₀
  simp_all [bodyPostS, results, Try.results63]
end Go.Proofs.Ytlgpilcjcomacaa
