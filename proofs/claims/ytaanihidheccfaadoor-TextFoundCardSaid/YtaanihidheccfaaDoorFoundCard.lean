/-
  TextFound answers true for every input, and leaves what was there as it was. The conditions: the two tables of unicode/utf8 read as the program's text lays them (the card ties them to the text).
-/
import Derived.Test.YtaanihidheccfaaDoorFound
import Derived.Test.YtaanihidheccfaaDoorLayB
import Derived.Test.YtaanihidheccfaaDoorOpens
import Derived.Test.YtaanihidheccfaaDoorCards
import Derived.Test.YtaanihidheccfaaDoorTie
import Derived.WalkKit
import Derived.ProofKit
import Derived.OpenShut
import Derived.ChangeMaps5
import Derived.Lib.SmallJoins
import Derived.Below
import Derived.Carry
import Derived.Lay
import Derived.SevenTiedAt
import Derived.Stop.Joined
namespace Go.Proofs.YtaanihidheccfaaDoor
open Go.ChangeShapes Go.WideShapes Go.ChangeAt Go.RowKit Go.Lib Go.ChangeMaps Go.Joins
set_option linter.unusedVariables false

theorem fndOwn : ownKnob Tryd.prog.godebug = none := by kernel_rfl
theorem fndLaidOut : laidOutB Tryd.prog = true := by kernel_rfl
theorem fndTabsSize {w : World} (h : Lib.Utf8Tabs 0 1 w) : 2 ≤ w.heap.size := by
  have h1 := (h.2 0 (by decide)).1
  unfold World.cell? at h1
  cases hx : w.heap[1]? with
  | none => simp [hx] at h1
  | some o => have := (Array.getElem?_eq_some_iff.1 hx).1; omega

theorem fndWalk (a0 : ByteArray) (a1 : Int) (a2 : Int) (a3 : Int) (w : World) (w0 : a0.size ≤ 9223372036854775807) (w1 : (Lit.int .i64 a1).wf = true) (w2 : (Lit.int .i64 a2).wf = true) (w3 : (Lit.int .i64 a3).wf = true) (hT : Lib.Utf8Tabs 0 1 w) (h2 : 2 ≤ w.heap.size) :
    Calls Tryd.prog 13 #[.agg #[.string a0, .int .i64 a1, .int .i64 a2, .int .i64 a3]] w fun e w' => e = .returned (.bool true) ∧ Below w.heap.size w w' :=
  f13 a0 a1 a2 a3 w w0 w1 w2 w3 hT h2

set_option maxRecDepth 100000 in
theorem fndLifted (os : Os) (started : os.Started) (H : Type) (enc : TypeId × Value → H) :
    ReturnsInHanded {} Tryd.checked os 13 .any (fun w args => (Rows.textFoundSpec.pre enc Tryd.prog Tryd.f13 [] false w args ∧ laidMetH Tryd.prog laid w) ∧ sizedMet enc Tryd.prog Tryd.f13 (OpenSpec.ofChange Rows.textFoundSpec) false w args)
      (Rows.textFoundSpec.post enc Tryd.prog Tryd.f13 false true false false) := by
  refine returnsInHanded_of_change_and (C := Tryd.checked) (X := fun w _ => laidMetH Tryd.prog laid w) (fun _ _ _ hh h => h.of_heap hh) fndOwn started (by kernel_rfl) Tryd.func13
    (ChangeSpec.witness_shaped (enc := enc) (C := Tryd.checked) (os := os) (X := fun w _ => laidMetH Tryd.prog laid w) false (World.laidAll Tryd.prog os laid) #[.agg #[.string ⟨#[]⟩, .int .i64 0, .int .i64 0, .int .i64 0]] 8 (World.laidAll_os _ _ _)
      (World.shaped_of_ZipB (by kernel_rfl) (by kernel_rfl)) (by kernel_rfl) (by kernel_rfl) (by kernel_rfl)
      (by rw [MakeChecks.laidMetH_plain _ _ _ (by kernel_rfl)]; exact laidMet_laidAll _ (by kernel_rfl) (by kernel_rfl))) ?_
  intro W base args ds gs before hval0 hW _ _ hL hsz
  have hval : ∀ (j : Nat) t v, Tryd.f13.params[j]? = some t → args[j]? = some v → Value.okWide Tryd.prog W .any base t v := hval0
  have hW' := hW
  obtain ⟨p, q, hA0, hV, rfl, hfz, hnd⟩ := hW
  have hA : DataW.TrodAll enc Tryd.prog W 0 (fun _ => true) true Tryd.f13.params.toList args.toList ds p := hA0
  rw [Tryd.params13] at hA hval
  obtain ⟨v0, vs0, d0, ds0, p0, q0, hargs, rfl, rfl, h0, r0⟩ := trodAll_cons hA
  obtain ⟨rfl, rfl, rfl⟩ := trodAll_nil r0
  obtain rfl : args = #[v0] := by cases args; simp_all
  obtain ⟨rfl, rfl⟩ := trodVars_none hV
  obtain ⟨c0, c1, c2, c3, y0, y1, y2, y3, m, rfl, rfl, rfl, hy0, hy1, hy2, hy3⟩ := open_agg4 Tryd.underlying58 (by kernel_rfl) (by kernel_rfl) (hval 0 58 v0 rfl rfl) h0
  obtain ⟨a0, e0, rfl, w0⟩ := DataW.trod_string Tryd.underlying9 hy0
  obtain rfl : c0 = .string a0 := by simpa using e0
  obtain ⟨a1, e1, rfl, w1⟩ := DataW.trod_int Tryd.underlying3 hy1
  obtain rfl : c1 = .int .i64 a1 := by simpa using e1
  obtain ⟨a2, e2, rfl, w2⟩ := DataW.trod_int Tryd.underlying3 hy2
  obtain rfl : c2 = .int .i64 a2 := by simpa using e2
  obtain ⟨a3, e3, rfl, w3⟩ := DataW.trod_int Tryd.underlying3 hy3
  obtain rfl : c3 = .int .i64 a3 := by simpa using e3
  clear hA0 hval0
  simp only [List.append_nil] at hW'
  have hT := tabs_of_laid hL
  refine (fndWalk a0 a1 a2 a3 W w0 w1 w2 w3 hT (fndTabsSize hT)).mono fun e W' ⟨he, bel⟩ => ?_
  subst he
  exact ⟨_, rfl, _, _, _, [], _, [], hW', trodAll_mk1 (shut_bool Tryd.underlying4 _), (trodAll_cons_mk (shut_agg4 Tryd.underlying58 (by kernel_rfl) (by kernel_rfl) (shut_string Tryd.underlying9 w0) (shut_int Tryd.underlying3 w1) (shut_int Tryd.underlying3 w2) (shut_int Tryd.underlying3 w3)) trodAll_mk0), rfl, bel.frame _, fun h => by cases h⟩

theorem fndOver : Rows.textFoundRow.holds Tryd.pinned (OpenSpec.ofChange Rows.textFoundSpec) :=
  OpenClaim.holds_of_wide 13 Tryd.f13 rfl rfl rfl rfl rfl rfl rfl ⟨rfl, rfl, rfl, rfl, rfl⟩ rfl rfl rfl rfl rfl (by kernel_rfl) Tryd.func13 (by kernel_rfl)
    (of_decide_eq_true (by kernel_rfl)) (by unfold Func.isWrapper; first | (rw [if_pos (by decide +kernel)]; kernel_rfl) | (rw [if_neg (by decide +kernel)]; exact ⟨rfl, rfl⟩))
    (fun os started H enc _ => fndLifted os started H enc)

theorem textFound_holds : Rows.TextFoundCardSaid :=
  Claim7.holds_tied_plain_at .later [] [.data, .pinned] true (true, "1acf9d329d6207f7fac1c7d9800b1ce352dd556bdd28422e1750b02e3c6e273e") false
    fndOver (fun _ h => by cases h) (by kernel_rfl) (fun _ h => by cases h) textFound_row_tie rfl ⟨rfl, rfl⟩ (by kernel_rfl) rfl
    (fun f fn hf hfn => by
      obtain rfl : f = 13 := Option.some.inj ((show Tryd.prog.funcNamed "cabochon/cabochonlaw01.TextFound" = some 13 by kernel_rfl).symm.trans hf) |>.symm
      obtain rfl : fn = Tryd.f13 := (Option.some.inj (Tryd.func13.symm.trans hfn)).symm
      exact ⟨by kernel_rfl, fun j t ht => by
        rw [Tryd.params13] at ht
        have hm : t ∈ [58] := by simpa using Array.mem_of_getElem? ht
        have hall : ([58].all fun u => !Tryd.prog.wantsStandIn u) = true := by kernel_rfl
        exact (show Tryd.prog.wantsStandIn t = false by simpa using List.all_eq_true.1 hall t hm)⟩)
    (by kernel_rfl)
#print axioms textFound_holds
end Go.Proofs.YtaanihidheccfaaDoor
