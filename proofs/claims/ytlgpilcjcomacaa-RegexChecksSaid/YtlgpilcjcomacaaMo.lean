/-
  The program's caught: a panic of no more steps is caught.
-/
import Derived.Test.YtlgpilcjcomacaaMn
import Derived.Defers
import Derived.Recover
namespace Go.Proofs.Ytlgpilcjcomacaa
open Go.RowKit Rx
set_option linter.unusedVariables false

set_option maxRecDepth 100000 in
theorem caught1_panicking (p : Nat) (older : List PanicEntry) (w : World) (h : Holds w p 0 (.bool false)) :
    CallsD Try.prog 48 #[.pointer (some ⟨p, 0, none⟩)] (.panicking ({ v := .iface 112 (.agg #[]), recovered := false } :: older)) w fun e u' w' =>
      e = .returned (.tuple #[]) ∧ u' = .panicking ({ v := .iface 112 (.agg #[]), recovered := true } :: older) ∧ w' = (w.alloc (.cells #[] 112)).setCell ⟨p, 0, none⟩ (.bool true) := by
  obtain ⟨hc, hz⟩ := h
  have hlt := block_lt_of_cell hc
  have hta : ∀ (w : World), (Instr.typeAssert (.iface 112 (.agg #[])) 20 112 true).run Try.prog w = .ok (.tuple #[.agg #[], .bool true]) w := fun _ => by kernel_rfl
  refine callsD_of_wpS Try.func48 rfl fun c₀ cs hu => ?_
  apply wpS_seq
  apply wpS_region
  simp [wpOpsS, go_sem, recoverD, hu, Try.ntmps48, Exit.thenS, hta]
  apply wpS_seq
  apply wpS_region
  simp [wpOpsS, go_sem, Exit.thenS]
  refine wpS_cond (t := true) (by simp [Act.eval, Array.replicate]) ?_
  simp only [if_true]
  apply wpS_region
  have hcc : (w.alloc (.cells #[] 112)).cell? ⟨p, 0, none⟩ = some (.bool false) := (World.cell?_alloc_past _ _ _ hlt).trans hc
  have hzz : (w.alloc (.cells #[] 112)).frozen? ⟨p, 0, none⟩ = false := (World.frozen?_alloc_past _ _ _ hlt).trans hz
  simp [wpOpsS, go_sem, hcc, hzz, bodyPostS, results, Try.results48]

set_option maxRecDepth 100000 in
theorem caught1_idle (p : Nat) (w : World) :
    CallsD Try.prog 48 #[.pointer (some ⟨p, 0, none⟩)] .returning w fun e u' w' => e = .returned (.tuple #[]) ∧ u' = .returning ∧ w' = w.alloc (.cells #[] 112) := by
  have hta : ∀ (w : World), (Instr.typeAssert .nilIface 20 112 true).run Try.prog w = .ok (.tuple #[.agg #[], .bool false]) w := fun _ => by kernel_rfl
  refine callsD_of_wpS Try.func48 rfl fun c₀ cs hu => ?_
  apply wpS_seq
  apply wpS_region
  simp [wpOpsS, go_sem, recoverD, hu, Try.ntmps48, Exit.thenS, hta]
  apply wpS_seq
  apply wpS_region
  simp [wpOpsS, go_sem, Exit.thenS]
  refine wpS_cond (t := false) (by simp [Act.eval, Array.replicate]) ?_
  simp only [Bool.false_eq_true, if_false]
  refine wpS_of_wp (wp_skip ?_)
  cases c₀
  simp_all [bodyPostS, results, Try.results48]

/-- What is called is over, or not. -/
theorem caught_any (f : Nat) (cap : Array Value) (en : ∀ args w, (callFunc f args).run Try.prog w = .ok (.enter f args) w) (R : Bool → World → Prop) (w : World)
    (hf : Calls Try.prog f cap (w.alloc (.cells #[.bool false] 4)) fun e w' => ((e = .returned (.tuple #[]) ∧ R false w') ∨ (e = .panicked [{ v := .iface 112 (.agg #[]), recovered := false }] ∧ R true w')) ∧ Holds w' w.heap.size 0 (.bool false)) :
    Calls Try.prog 29 #[.func (.func f) #[] cap] w fun e w' => ∃ b w1, e = .returned (.bool b) ∧ R b w1 ∧ Touch (fun i => i = w.heap.size) w1 w' := by
  have hmf : ∀ (fn : Fn) (first cap : Array Value) (w : World), (Instr.makeFunc fn first cap).run Try.prog w = .ok (.func fn first cap) w := fun _ _ _ _ => rfl
  have HF := Lib.hid hf; clear hf
  go_enter_defers Try.func29, Try.ntmps29
  go_wp2_with fail
  refine HF.out.mono ?_
  rintro e w1 ⟨⟨rfl, hR⟩ | ⟨rfl, hR⟩, hH⟩
  · have HR := Lib.hid hR; clear hR
    have HH := Lib.hid hH
    obtain ⟨hc, hz⟩ := hH
    go_wp2_with fail
    refine leaves_cons (f := 48) (args := #[.pointer (some ⟨w.heap.size, 0, none⟩)]) (by simp) (by simp [go_sem]) ?_
    refine (caught1_idle w.heap.size _).mono ?_
    rintro e u' w'' ⟨rfl, rfl, rfl⟩
    have hv : ((w1.setCell ⟨w.heap.size, 0, none⟩ (.bool false)).alloc (.cells #[] 112)).cell? ⟨w.heap.size, 0, none⟩ = some (.bool false) := ((HH.out.set _).alloc _).1
    simp [Leaves, settle, results, Try.results29, go_sem, hv]
    exact ⟨w1, HR.out, (Touch.setCell (Touch.refl (fun i => i = w.heap.size) w1) (.inl rfl) _).alloc _⟩
  · refine leaves_cons (f := 48) (args := #[.pointer (some ⟨w.heap.size, 0, none⟩)]) (by simp) (by simp [go_sem]) ?_
    refine (caught1_panicking w.heap.size [] w1 hH).mono ?_
    rintro e u' w'' ⟨rfl, rfl, rfl⟩
    have hv : ((w1.alloc (.cells #[] 112)).setCell ⟨w.heap.size, 0, none⟩ (.bool true)).cell? ⟨w.heap.size, 0, none⟩ = some (.bool true) := ((hH.alloc _).set _).1
    simp [Leaves, settle, results, Try.results29, go_sem, hv]
    exact ⟨w1, hR, Touch.setCell ((Touch.refl (fun i => i = w.heap.size) w1).alloc _) (.inl rfl) _⟩
end Go.Proofs.Ytlgpilcjcomacaa
