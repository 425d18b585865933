/-
  RegexUses answers true for every input, and leaves what was there as it was. No conditions.
-/
import Derived.Test.YtlgpilcjcomacaaGreatJe
import Derived.Test.YtlgpilcjcomacaaGreatEa
import Derived.WalkKit
import Derived.ProofKit
import Derived.OpenShut
import Derived.ChangeOld
import Derived.Below
import Derived.Carry
import Derived.SizedLaws
namespace Go.Proofs.YtlgpilcjcomacaaGreat
open Go.ChangeShapes Go.WideShapes Go.ChangeAt Go.RowKit
open Go.ChangeMaps (open_string shut_string)
set_option linter.unusedVariables false

theorem usOwn : ownKnob Tryz.prog.godebug = none := by kernel_rfl
theorem usLaidOut : laidOutB Tryz.prog = true := by kernel_rfl

theorem usWalk (p s y : ByteArray) (fr bu : Int) (w : World) (hfr : (Lit.int .i64 fr).wf = true) (hbu : (Lit.int .i64 bu).wf = true) :
    Calls Tryz.prog 3 #[.agg #[.string p, .string s, .string y, .int .i64 fr, .int .i64 bu]] w fun e w' => e = .returned (.bool true) ∧ Below w.heap.size w w' :=
  (law_uses p s y fr bu hfr hbu w).mono fun _ _ ⟨he, ht⟩ => ⟨he, ht.toBelow (fun _ _ h => h) (Nat.le_refl _)⟩

set_option maxRecDepth 100000 in
theorem usLifted (os : Os) (started : os.Started) (H : Type) (enc : TypeId × Value → H) :
    ReturnsInHanded {} Tryz.checked os 3 .any (Rows.regexUsesSpec.pre6 enc Tryz.prog Tryz.f3 Rows.regexUsesRow.domain false) (Rows.regexUsesSpec.post enc Tryz.prog Tryz.f3 false true false false) := by
  refine returnsInHanded_of_change (C := Tryz.checked) usOwn started (by kernel_rfl) Tryz.func3
    (ChangeSpec.witness6 (enc := enc) (C := Tryz.checked) false ⟨#[], #[.agg #[.string ⟨#[]⟩, .string ⟨#[]⟩, .string ⟨#[]⟩, .int .i64 0, .int .i64 0]], []⟩ 8 (by kernel_rfl) (by kernel_rfl) (by kernel_rfl) (by kernel_rfl)) ?_
  intro W base args ds gs before hval0 hW hcnd _
  have hval : ∀ (j : Nat) t v, Tryz.f3.params[j]? = some t → args[j]? = some v → Value.okWide Tryz.prog W .any base t v := hval0
  have hW' := hW
  obtain ⟨p, q, hA0, hV, rfl, hfz, hnd⟩ := hW
  have hA : DataW.TrodAll enc Tryz.prog W 0 (fun _ => true) true Tryz.f3.params.toList args.toList ds p := hA0
  rw [Tryz.params3] at hA hval
  obtain ⟨v0, vs0, d0, ds0, p0, q0, hargs, rfl, rfl, h0, r0⟩ := trodAll_cons hA
  obtain ⟨rfl, rfl, rfl⟩ := trodAll_nil r0
  obtain rfl : args = #[v0] := by cases args; simp_all
  obtain ⟨rfl, rfl⟩ := trodVars_none hV
  have k0 := h0
  have lt0 : ∀ x ∈ p0, x.block < W.heap.size := by obtain ⟨m, hm⟩ := k0; exact DataW.trod_lt m _ _ _ hm
  obtain ⟨pp, ss, yy, fr, bu, rfl, wfr, wbu, -, -, -⟩ := open_ask (hval 0 23 v0 rfl rfl) h0
  clear hA0 hval0
  simp only [List.append_nil] at hW'
  refine (usWalk pp ss yy fr bu W wfr wbu).mono fun e W' ⟨he, bel⟩ => ?_
  subst he
  exact ⟨_, rfl, _, _, _, [], _, [], hW', trodAll_mk1 (shut_bool Tryz.underlying4 _), (trodAll_cons_mk (Below.trod usLaidOut (by kernel_rfl) (of_decide_eq_true (by kernel_rfl)) k0 bel lt0) trodAll_mk0), rfl, bel.frame _, fun h => by cases h⟩

theorem usOver : Rows.regexUsesRow.holds Tryz.pinned (OpenSpec.ofChange Rows.regexUsesSpec) :=
  OpenClaim.holds_of_wide 3 Tryz.f3 rfl rfl rfl rfl rfl rfl rfl ⟨rfl, rfl, rfl, rfl, rfl⟩ rfl rfl rfl rfl rfl (by kernel_rfl) Tryz.func3 (by kernel_rfl)
    (of_decide_eq_true (by kernel_rfl)) (by unfold Func.isWrapper; first | (rw [if_pos (by decide +kernel)]; kernel_rfl) | (rw [if_neg (by decide +kernel)]; exact ⟨rfl, rfl⟩))
    (fun os started H enc _ => usLifted os started H enc)

theorem regexUses_holds : Rows.RegexUsesSaid := usOver
end Go.Proofs.YtlgpilcjcomacaaGreat
