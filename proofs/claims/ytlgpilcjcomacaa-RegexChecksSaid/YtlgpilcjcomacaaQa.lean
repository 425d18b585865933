/-
  The program's Match: what is tried.
-/
import Derived.Test.YtlgpilcjcomacaaMo
import Derived.Test.YtlgpilcjcomacaaPq
namespace Go.Proofs.Ytlgpilcjcomacaa
open Go.RowKit Rx
set_option linter.unusedVariables false

/-- What comes back of the try; r0: the answer's block. -/
def TriedP (c : Cx) (w : World) (r0 lo : Nat) : Res → Ending → World → Prop
  | .over, e, w' => e = .panicked [{ v := .iface 112 (.agg #[]), recovered := false }] ∧ Touch (fun b => b = c.bm) w w'
  | .no n, e, w' => e = .returned (.tuple #[]) ∧ Holds w' r0 0 (.bool false) ∧ ∃ w1, FindP c w lo (.no n) (.returned (.bool false)) w1 ∧ Touch (fun b => b = r0) w1 w'
  | .yes n g x, e, w' => e = .returned (.tuple #[]) ∧ Holds w' r0 0 (.bool true) ∧ ∃ w1, FindP c w lo (.yes n g x) (.returned (.bool true)) w1 ∧ Touch (fun b => b = r0) w1 w'

set_option maxRecDepth 100000 in
theorem match1_any (c : Cx) (a : Re) (p : Value) (hp : (trd c a).node p) (hpp : ∃ x, p = .pointer x) (lo n : Nat) (w : World) (hlo : lo ≤ c.s.size) (h : MB c n w) (m0 n0 q0 f0 r0 : Nat) (k0 : w.cell? ⟨m0, 0, none⟩ = some (.pointer (some ⟨c.bm, 0, none⟩))) (k1 : w.cell? ⟨n0, 0, none⟩ = some p) (k2 : w.cell? ⟨q0, 0, none⟩ = some (.int .i64 (c.G : Int))) (k3 : w.cell? ⟨f0, 0, none⟩ = some (.int .i64 (lo : Int))) (k4 : Holds w r0 0 (.bool false)) (hr : r0 ≠ c.bm) :
    Calls Try.prog 30 #[.pointer (some ⟨m0, 0, none⟩), .pointer (some ⟨n0, 0, none⟩), .pointer (some ⟨q0, 0, none⟩), .pointer (some ⟨f0, 0, none⟩), .pointer (some ⟨r0, 0, none⟩)] w (TriedP c w r0 lo (fr (str c.s) c.B a false lo n)) := by
  have h0 := find_any c a p hp false lo n w hlo h hpp
  generalize fr (str c.s) c.B a false lo n = rr at h0 ⊢
  have HF := Lib.hid h0
  have HK := Lib.hid k4
  obtain ⟨px, rfl⟩ := hpp
  clear h0 hp h k4
  go_enter Try.func30, Try.ntmps30
  go_wp2_with fail
  refine HF.out.mono ?_
  intro e w1 hG
  clear HF
  cases rr with
  | over =>
    obtain ⟨rfl, ht⟩ := hG
    refine ⟨rfl, ?_⟩
    exact ⟨rfl, ht⟩
  | no n1 =>
    have HG := Lib.hid hG
    obtain ⟨rfl, -, ht⟩ := hG
    have hk := HK.out.keep ht (fun e => hr e)
    have HK1 := Lib.hid hk
    obtain ⟨hk, hkf⟩ := hk
    clear ht
    go_wp2_with fail
    go_end0
    exact ⟨rfl, HK1.out.set _, w1, HG.out, Touch.setCell (Touch.refl (fun b => b = r0) w1) (.inl rfl) _⟩
  | yes n1 g x =>
    have HG := Lib.hid hG
    obtain ⟨rfl, -, -, ht⟩ := hG
    have hk := HK.out.keep ht (fun e => hr e)
    have HK1 := Lib.hid hk
    obtain ⟨hk, hkf⟩ := hk
    clear ht
    go_wp2_with fail
    go_end0
    exact ⟨rfl, HK1.out.set _, w1, HG.out, Touch.setCell (Touch.refl (fun b => b = r0) w1) (.inl rfl) _⟩
end Go.Proofs.Ytlgpilcjcomacaa
