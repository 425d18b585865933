/-
  TextFinds answers true for every input, and leaves what was there as it was. The conditions: the two tables of unicode/utf8 read as the program's text lays them (the card ties them to the text).
-/
import Derived.Test.YtaanihidheccfaaDoorFinE
import Derived.Test.YtaanihidheccfaaDoorLayB
import Derived.Test.YtaanihidheccfaaDoorOpens
import Derived.Test.YtaanihidheccfaaDoorCards
import Derived.Test.YtaanihidheccfaaDoorTie
import Derived.WalkKit
import Derived.ProofKit
import Derived.OpenShut
import Derived.ChangeMaps5
import Derived.Lib.SmallJoins
import Derived.Below
import Derived.Carry
import Derived.Lay
import Derived.SevenTiedAt
import Derived.Stop.Joined
namespace Go.Proofs.YtaanihidheccfaaDoor
open Go.ChangeShapes Go.WideShapes Go.ChangeAt Go.RowKit Go.Lib Go.ChangeMaps Go.Joins
set_option linter.unusedVariables false

theorem findsOwn : ownKnob Tryd.prog.godebug = none := by kernel_rfl
theorem findsLaidOut : laidOutB Tryd.prog = true := by kernel_rfl
theorem findsTabsSize {w : World} (h : Lib.Utf8Tabs 0 1 w) : 2 ≤ w.heap.size := by
  have h1 := (h.2 0 (by decide)).1
  unfold World.cell? at h1
  cases hx : w.heap[1]? with
  | none => simp [hx] at h1
  | some o => have := (Array.getElem?_eq_some_iff.1 hx).1; omega

theorem findsWalk (a0 : ByteArray) (a1 : ByteArray) (a2 : Int) (a3 : Int) (w : World) (w0 : a0.size ≤ 9223372036854775807) (w1 : a1.size ≤ 9223372036854775807) (w2 : (Lit.int .i64 a2).wf = true) (w3 : (Lit.int .i64 a3).wf = true) (hT : Lib.Utf8Tabs 0 1 w) (h2 : 2 ≤ w.heap.size) :
    Calls Tryd.prog 4 #[.agg #[.string a0, .string a1, .int .i64 a2, .int .i64 a3]] w fun e w' => e = .returned (.bool true) ∧ Below w.heap.size w w' :=
  f4 a0 a1 a2 a3 w w0 w1 w2 w3 hT h2

set_option maxRecDepth 100000 in
theorem findsLifted (os : Os) (started : os.Started) (H : Type) (enc : TypeId × Value → H) :
    ReturnsInHanded {} Tryd.checked os 4 .any (fun w args => (Rows.textFindsSpec.pre enc Tryd.prog Tryd.f4 [] false w args ∧ laidMetH Tryd.prog laid w) ∧ sizedMet enc Tryd.prog Tryd.f4 (OpenSpec.ofChange Rows.textFindsSpec) false w args)
      (Rows.textFindsSpec.post enc Tryd.prog Tryd.f4 false true false false) := by
  refine returnsInHanded_of_change_and (C := Tryd.checked) (X := fun w _ => laidMetH Tryd.prog laid w) (fun _ _ _ hh h => h.of_heap hh) findsOwn started (by kernel_rfl) Tryd.func4
    (ChangeSpec.witness_shaped (enc := enc) (C := Tryd.checked) (os := os) (X := fun w _ => laidMetH Tryd.prog laid w) false (World.laidAll Tryd.prog os laid) #[.agg #[.string ⟨#[]⟩, .string ⟨#[]⟩, .int .i64 0, .int .i64 0]] 8 (World.laidAll_os _ _ _)
      (World.shaped_of_ZipB (by kernel_rfl) (by kernel_rfl)) (by kernel_rfl) (by kernel_rfl) (by kernel_rfl)
      (by rw [MakeChecks.laidMetH_plain _ _ _ (by kernel_rfl)]; exact laidMet_laidAll _ (by kernel_rfl) (by kernel_rfl))) ?_
  intro W base args ds gs before hval0 hW _ _ hL hsz
  have hval : ∀ (j : Nat) t v, Tryd.f4.params[j]? = some t → args[j]? = some v → Value.okWide Tryd.prog W .any base t v := hval0
  have hW' := hW
  obtain ⟨p, q, hA0, hV, rfl, hfz, hnd⟩ := hW
  have hA : DataW.TrodAll enc Tryd.prog W 0 (fun _ => true) true Tryd.f4.params.toList args.toList ds p := hA0
  rw [Tryd.params4] at hA hval
  obtain ⟨v0, vs0, d0, ds0, p0, q0, hargs, rfl, rfl, h0, r0⟩ := trodAll_cons hA
  obtain ⟨rfl, rfl, rfl⟩ := trodAll_nil r0
  obtain rfl : args = #[v0] := by cases args; simp_all
  obtain ⟨rfl, rfl⟩ := trodVars_none hV
  obtain ⟨c0, c1, c2, c3, y0, y1, y2, y3, m, rfl, rfl, rfl, hy0, hy1, hy2, hy3⟩ := open_agg4 Tryd.underlying32 (by kernel_rfl) (by kernel_rfl) (hval 0 32 v0 rfl rfl) h0
  obtain ⟨a0, e0, rfl, w0⟩ := DataW.trod_string Tryd.underlying9 hy0
  obtain rfl : c0 = .string a0 := by simpa using e0
  obtain ⟨a1, e1, rfl, w1⟩ := DataW.trod_string Tryd.underlying9 hy1
  obtain rfl : c1 = .string a1 := by simpa using e1
  obtain ⟨a2, e2, rfl, w2⟩ := DataW.trod_int Tryd.underlying3 hy2
  obtain rfl : c2 = .int .i64 a2 := by simpa using e2
  obtain ⟨a3, e3, rfl, w3⟩ := DataW.trod_int Tryd.underlying3 hy3
  obtain rfl : c3 = .int .i64 a3 := by simpa using e3
  clear hA0 hval0
  simp only [List.append_nil] at hW'
  have hT := tabs_of_laid hL
  refine (findsWalk a0 a1 a2 a3 W w0 w1 w2 w3 hT (findsTabsSize hT)).mono fun e W' ⟨he, bel⟩ => ?_
  subst he
  exact ⟨_, rfl, _, _, _, [], _, [], hW', trodAll_mk1 (shut_bool Tryd.underlying4 _), (trodAll_cons_mk (shut_agg4 Tryd.underlying32 (by kernel_rfl) (by kernel_rfl) (shut_string Tryd.underlying9 w0) (shut_string Tryd.underlying9 w1) (shut_int Tryd.underlying3 w2) (shut_int Tryd.underlying3 w3)) trodAll_mk0), rfl, bel.frame _, fun h => by cases h⟩

theorem findsOver : Rows.textFindsRow.holds Tryd.pinned (OpenSpec.ofChange Rows.textFindsSpec) :=
  OpenClaim.holds_of_wide 4 Tryd.f4 rfl rfl rfl rfl rfl rfl rfl ⟨rfl, rfl, rfl, rfl, rfl⟩ rfl rfl rfl rfl rfl (by kernel_rfl) Tryd.func4 (by kernel_rfl)
    (of_decide_eq_true (by kernel_rfl)) (by unfold Func.isWrapper; first | (rw [if_pos (by decide +kernel)]; kernel_rfl) | (rw [if_neg (by decide +kernel)]; exact ⟨rfl, rfl⟩))
    (fun os started H enc _ => findsLifted os started H enc)

theorem textFinds_holds : Rows.TextFindsCardSaid :=
  Claim7.holds_tied_plain_at .later [] [.data, .pinned] true (true, "1acf9d329d6207f7fac1c7d9800b1ce352dd556bdd28422e1750b02e3c6e273e") false
    findsOver (fun _ h => by cases h) (by kernel_rfl) (fun _ h => by cases h) textFinds_row_tie rfl ⟨rfl, rfl⟩ (by kernel_rfl) rfl
    (fun f fn hf hfn => by
      obtain rfl : f = 4 := Option.some.inj ((show Tryd.prog.funcNamed "cabochon/cabochonlaw01.TextFinds" = some 4 by kernel_rfl).symm.trans hf) |>.symm
      obtain rfl : fn = Tryd.f4 := (Option.some.inj (Tryd.func4.symm.trans hfn)).symm
      exact ⟨by kernel_rfl, fun j t ht => by
        rw [Tryd.params4] at ht
        have hm : t ∈ [32] := by simpa using Array.mem_of_getElem? ht
        have hall : ([32].all fun u => !Tryd.prog.wantsStandIn u) = true := by kernel_rfl
        exact (show Tryd.prog.wantsStandIn t = false by simpa using List.all_eq_true.1 hall t hm)⟩)
    (by kernel_rfl)
#print axioms textFinds_holds
end Go.Proofs.YtaanihidheccfaaDoor
