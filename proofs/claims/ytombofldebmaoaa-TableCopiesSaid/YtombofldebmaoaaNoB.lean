/-
  TableNothing, walked.
-/
import Derived.Test.YtombofldebmaoaaNoA
namespace Go.Proofs.Ytombofldebmaoaa
open Go.RowKit
set_option linter.unusedVariables false

abbrev ones : Array Value := #[.int .i64 1, .int .i64 1, .int .i64 1, .int .i64 1, .int .i64 1, .int .i64 1, .int .i64 1, .int .i64 1, .int .i64 1, .int .i64 1, .int .i64 1, .int .i64 1]
theorem ones_get (j : Nat) (h : j < 12) : ones[j]? = some (.int .i64 1) := by
  have e : ones = (List.replicate 12 (.int .i64 1)).toArray := rfl
  rw [e, List.getElem?_toArray, List.getElem?_replicate, if_pos h]

def unmade : Array Value := #[.bool false, .slice none 0 0, .map none, .int .i64 0, .slice none 0 0, .bool false, .bool false]

set_option maxRecDepth 100000 in
set_option maxHeartbeats 4000000 in
theorem nothing_walks (a b : Int) (w : World) (wa : (Lit.int .i64 a).wf = true) (wb : (Lit.int .i64 b).wf = true) :
    Calls Try.prog 11 #[.int .i64 a, .int .i64 b] w fun e w' => e = .returned (.bool true) ∧ Still w w' := by
  go_enter Try.func11, Try.ntmps11
  go_wp2_with fail
  go_loopw [6] (fun i wr => ∃ k : Nat, k ≤ 2 ∧ i = .int .i64 k ∧ Hid (Still w wr)) (fun i _ => 2 - (intOf i).toNat)
  case atStart => exact ⟨0, by omega, rfl, Touch.refl _ _⟩
  case round =>
    obtain ⟨k, hk, rfl, HT⟩ := hrel
    by_cases hlt : k < 2
    · have HK : Hid (∃ (q : Option Addr) (W : World), (k = 0 → q = none ∧ W = wr) ∧ (k = 1 → q = some ⟨wr.heap.size, 0, none⟩ ∧ W = wr.alloc (.cells unmade 69)) ∧ Hid (No W (.pointer q)) ∧ Hid (Still w W)) := by
        rcases (by omega : k = 0 ∨ k = 1) with h | h
        · exact ⟨none, wr, fun _ => ⟨rfl, rfl⟩, fun h' => by omega, no_nil _, HT.out⟩
        · exact ⟨some ⟨wr.heap.size, 0, none⟩, wr.alloc (.cells unmade 69), fun h' => by omega, fun _ => ⟨rfl, rfl⟩, no_unmade (heap_alloc_new _ _) rfl, HT.out.alloc _⟩
      obtain ⟨q, W, h0, h1, HN, HS⟩ := HK.out
      clear HK
      unfold unmade at h1
      rcases (by omega : k = 0 ∨ k = 1) with h | h
      all_goals
        subst h
        simp only [forall_const, Nat.zero_ne_one, Nat.one_ne_zero, false_implies] at h0 h1
        first | (have e1 := h0.1; have e2 := h0.2; clear h0 h1; subst e1; subst e2) | (have e1 := h1.1; have e2 := h1.2; clear h0 h1; subst e1; subst e2)
        go_wp2_with (first | (go_at_call 37; refine (n37 HN.out true).mono ?_; rintro e x1 ⟨rfl, hs⟩; replace HN := Lib.hid (HN.out.still hs); replace HS := Lib.hid (HS.out.then hs); clear hs) | (go_at_call 38; refine (n38 HN.out).mono ?_; rintro e x1 ⟨rfl, hs⟩; replace HN := Lib.hid (HN.out.still hs); replace HS := Lib.hid (HS.out.then hs); clear hs) | (go_at_call 20; refine (n20 HN.out _).mono ?_; rintro e x1 ⟨rfl, hs⟩; replace HN := Lib.hid (HN.out.still hs); replace HS := Lib.hid (HS.out.then hs); clear hs) | (go_at_call 15; refine (n15 HN.out _).mono ?_; rintro e x1 ⟨rfl, hs⟩; replace HN := Lib.hid (HN.out.still hs); replace HS := Lib.hid (HS.out.then hs); clear hs) | (go_at_call 39; refine (n39 HN.out).mono ?_; rintro e x1 ⟨rfl, hs⟩; replace HN := Lib.hid (HN.out.still hs); replace HS := Lib.hid (HS.out.then hs); clear hs) | (go_at_call 40; refine (n40 HN.out).mono ?_; rintro e x1 ⟨rfl, hs⟩; replace HN := Lib.hid (HN.out.still hs); replace HS := Lib.hid (HS.out.then hs); clear hs) | (go_at_call 41; refine (n41 HN.out _).mono ?_; rintro e x1 ⟨rfl, hs⟩; replace HN := Lib.hid (HN.out.still hs); replace HS := Lib.hid (HS.out.then hs); clear hs) | (go_at_call 42; refine (n42 HN.out _).mono ?_; rintro e x1 ⟨rfl, hs⟩; replace HN := Lib.hid (HN.out.still hs); replace HS := Lib.hid (HS.out.then hs); clear hs) | (go_at_call 14; refine (n14 HN.out).mono ?_; rintro e x1 ⟨rfl, hs⟩; replace HN := Lib.hid (HN.out.still hs); replace HS := Lib.hid (HS.out.then hs); clear hs) | (go_at_call 21; refine (n21 HN.out _).mono ?_; rintro e x1 ⟨rfl, hs⟩; replace HN := Lib.hid (HN.out.still hs); replace HS := Lib.hid (HS.out.then hs); clear hs) | (go_at_call 13; refine (n13 HN.out _ _).mono ?_; rintro e x1 ⟨rfl, hs⟩; replace HN := Lib.hid (HN.out.still hs); replace HS := Lib.hid (HS.out.then hs); clear hs) | (go_at_call 16; refine (n16 HN.out _).mono ?_; rintro e x1 ⟨rfl, hs⟩; replace HN := Lib.hid (HN.out.still hs); replace HS := Lib.hid (HS.out.then hs); clear hs) | (go_at_call 27; refine (n27 HN.out).mono ?_; rintro e x1 ⟨rfl, hs⟩; replace HN := Lib.hid (HN.out.still hs); replace HS := Lib.hid (HS.out.then hs); clear hs) | (go_at_call 29; refine (n29 HN.out _).mono ?_; rintro e x1 ⟨rfl, hs⟩; replace HN := Lib.hid (HN.out.still hs); replace HS := Lib.hid (HS.out.then hs); clear hs) | (go_at_call 12; refine (f12_any _).mono ?_; rintro e x1 ⟨bx, Fx, rfl, hx, _, hs⟩; replace HN := Lib.hid (HN.out.still hs); replace HS := Lib.hid (HS.out.then hs); clear hs hx))
        have hg : (x1.alloc (.cells ones 24)).heap[x1.heap.size]? = some (.cells ones 24 (0, 0)) := heap_alloc_new _ _
        have HG := Lib.hid hg
        have HN2 := Lib.hid (HN.out.still ((Touch.refl _ _).alloc (.cells ones 24)))
        have HS2 := Lib.hid (HS.out.alloc (.cells ones 24))
        clear HN HS HT hg
        go_loopw [29] (fun i wy => ∃ j : Nat, j ≤ 12 ∧ i = .int .i64 j ∧ Hid (Still (x1.alloc (.cells ones 24)) wy)) (fun i _ => 12 - (intOf i).toNat)
        case atStart => exact ⟨0, by omega, rfl, Touch.refl _ _⟩
        case round =>
          obtain ⟨j, hj, rfl, HJ⟩ := hrel
          by_cases hlj : j < 12
          · have d := blk_c (HJ.out.keeps HG.out (fun h => h)) j _ (ones_get j hlj)
            go_wp2_with fail
            go_roundw
            case rel => exact ⟨j + 1, by omega, by go_num, HJ.out⟩
            case measure => simp [intOf]; omega
          · have HN := Lib.hid (HN2.out.still HJ.out)
            have HS := Lib.hid (HS2.out.then HJ.out)
            clear HN2 HS2 HJ HG
            go_wp2_with (first | (go_at_call 19; refine (n19 HN.out).mono ?_; rintro e x1 ⟨rfl, hs⟩; replace HN := Lib.hid (HN.out.still hs); replace HS := Lib.hid (HS.out.then hs); clear hs) | (go_at_call 43; refine (n43 HN.out).mono ?_; rintro e x1 ⟨rfl, hs⟩; replace HN := Lib.hid (HN.out.still hs); replace HS := Lib.hid (HS.out.then hs); clear hs) | (go_at_call 23; refine (n23 HN.out).mono ?_; rintro e x1 ⟨rfl, hs⟩; replace HN := Lib.hid (HN.out.still hs); replace HS := Lib.hid (HS.out.then hs); clear hs) | (go_at_call 32; refine (n32 HN.out).mono ?_; rintro e x1 ⟨rfl, hs⟩; replace HN := Lib.hid (HN.out.still hs); replace HS := Lib.hid (HS.out.then hs); clear hs) | (go_at_call 12; refine (f12_any _).mono ?_; rintro e x1 ⟨bx, Fx, rfl, hx, _, hs⟩; have HX := Lib.hid hx; replace HN := Lib.hid (HN.out.still hs); replace HS := Lib.hid (HS.out.then hs); clear hs hx) | (go_at_call 34; refine (n34 HN.out (fun w' hw => f19_tab (HX.out.still hw))).mono ?_; rintro e x1 ⟨rfl, hs⟩; replace HN := Lib.hid (HN.out.still hs); replace HS := Lib.hid (HS.out.then hs); clear hs HX) | (go_at_call 34; refine (n34 HN.out (fun w' hw => n19p (no_nil w'))).mono ?_; rintro e x1 ⟨rfl, hs⟩; replace HN := Lib.hid (HN.out.still hs); replace HS := Lib.hid (HS.out.then hs); clear hs))
            go_roundw
            case rel => first | exact ⟨1, by omega, rfl, HS.out⟩ | exact ⟨2, by omega, rfl, HS.out⟩
            case measure => simp [intOf]
    · go_wp2_with fail
      refine (sane_any _).mono ?_
      rintro e w4 ⟨rfl, hs⟩
      have HS4 := Lib.hid hs; clear hs
      go_wp2_with fail
      go_ret
      exact ⟨rfl, HT.out.then HS4.out⟩

end Go.Proofs.Ytombofldebmaoaa
