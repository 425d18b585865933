/-
  does: a deed at both pairs, case by case (first part).
-/
import Derived.Test.YtombofldebmaoaaPairD
import Derived.Test.YtombofldebmaoaaRekB
import Derived.Test.YtombofldebmaoaaRekG
import Derived.Deep.RegionHeld3
import Derived.Deep.DrawnRows
namespace Go.Proofs.Ytombofldebmaoaa
open Go.RowKit
set_option linter.unusedVariables false
attribute [local go_sem ↓] Go.wp_at_zero Go.wp_at_succ

/-- What a deed leaves: both sides told the same, and are alike. -/
def Did (w : World) (G : Nat → Prop) (n bT bO bR bP : Nat) (e : Ending) (w' : World) : Prop :=
  e = .returned (.bool true) ∧ ∃ T O R P, Both (n + 1) T R ∧ Both (n + 1) O P ∧ QM w G bT bO bR bP T O R P w'

theorem QM.base {w w1 : World} {G : Nat → Prop} {bT bO bR bP : Nat} {T O R P : PT} (h : QM w G bT bO bR bP T O R P w) (hs : Still w w1) : QM w1 G bT bO bR bP T O R P w1 := by
  obtain ⟨FT, FO, FR, FP, hT, hO, hR, hP, d1, d2, d3, hG, ht⟩ := h
  refine ⟨FT, FO, FR, FP, hT.still hs, hO.still hs, hR.still hs, hP.still hs, d1, d2, d3, fun k hk => .inl ?_, Touch.refl _ _⟩
  rcases hG k hk with h | h
  · exact h
  · exfalso
    rcases hk with hk | hk | hk | hk
    · have := hT.lt k hk; omega
    · have := hO.lt k hk; omega
    · have := hR.lt k hk; omega
    · have := hP.lt k hk; omega

abbrev boxes (w : World) (bT bO bR bP : Nat) (d a b : Int) (pv : Value) : World :=
  (w.alloc (.cells #[.pointer (some ⟨bT, 0, none⟩), .pointer (some ⟨bO, 0, none⟩), .pointer (some ⟨bR, 0, none⟩), .pointer (some ⟨bP, 0, none⟩)] 46)).alloc (.cells #[.int .i64 d, .int .i64 a, .int .i64 b, pv] 36)

/-- The two boxes, whatever the tables did. -/
theorem boxes_kept {w W : World} {G : Nat → Prop} (hG : ∀ k, G k → k < w.heap.size) {bT bO bR bP : Nat} {d a b : Int} {pv : Value} (ht : Touch G (boxes w bT bO bR bP d a b pv) W) :
    (W.cell? ⟨w.heap.size, 0, none⟩ = some (.pointer (some ⟨bT, 0, none⟩)) ∧ W.cell? ⟨w.heap.size, 1, none⟩ = some (.pointer (some ⟨bO, 0, none⟩)) ∧ W.cell? ⟨w.heap.size, 2, none⟩ = some (.pointer (some ⟨bR, 0, none⟩)) ∧ W.cell? ⟨w.heap.size, 3, none⟩ = some (.pointer (some ⟨bP, 0, none⟩))) ∧
    W.cell? ⟨w.heap.size + 1, 0, none⟩ = some (.int .i64 d) ∧ W.cell? ⟨w.heap.size + 1, 1, none⟩ = some (.int .i64 a) ∧ W.cell? ⟨w.heap.size + 1, 2, none⟩ = some (.int .i64 b) ∧ W.cell? ⟨w.heap.size + 1, 3, none⟩ = some pv := by
  have h1 : (boxes w bT bO bR bP d a b pv).heap[w.heap.size]? = some (.cells #[.pointer (some ⟨bT, 0, none⟩), .pointer (some ⟨bO, 0, none⟩), .pointer (some ⟨bR, 0, none⟩), .pointer (some ⟨bP, 0, none⟩)] 46 (0, 0)) := by
    rw [Below.heap_alloc _ _ _ (by simp)]
    exact heap_alloc_new w _
  have h2 : (boxes w bT bO bR bP d a b pv).heap[w.heap.size + 1]? = some (.cells #[.int .i64 d, .int .i64 a, .int .i64 b, pv] 36 (0, 0)) := new2 w _ _
  have k1 := ht.keeps h1 (fun h => by have := hG _ h; omega)
  have k2 := ht.keeps h2 (fun h => by have := hG _ h; omega)
  exact ⟨⟨blk_c k1 0 _ rfl, blk_c k1 1 _ rfl, blk_c k1 2 _ rfl, blk_c k1 3 _ rfl⟩, blk_c k2 0 _ rfl, blk_c k2 1 _ rfl, blk_c k2 2 _ rfl, blk_c k2 3 _ rfl⟩

theorem boxes_still (w : World) (bT bO bR bP : Nat) (d a b : Int) (pv : Value) : Still w (boxes w bT bO bR bP d a b pv) := ((Touch.refl _ w).alloc _).alloc _

section
variable {w : World} {G : Nat → Prop} {n bT bO bR bP : Nat} {T O R P : PT}

set_option maxRecDepth 100000 in
set_option maxHeartbeats 2000000 in
theorem does_0 (h : QM w G bT bO bR bP T O R P w) (hG : ∀ k, G k → k < w.heap.size) (h1 : Both n T R) (h2 : Both n O P) (hn : n ≤ 1000) {a : Int} (ha : (Lit.int .i64 a).wf = true) (b : Int) (pv : Value) :
    Calls Try.prog 25 #[.agg #[.pointer (some ⟨bT, 0, none⟩), .pointer (some ⟨bO, 0, none⟩), .pointer (some ⟨bR, 0, none⟩), .pointer (some ⟨bP, 0, none⟩)], .agg #[.int .i64 0, .int .i64 a, .int .i64 b, pv]] w (Did w G n bT bO bR bP) := by
  have hb := h.base (boxes_still w bT bO bR bP 0 a b pv)
  have b1 := h1.bt.next
  have b2 := h1.bt.walks
  have b3 := h1.br.next
  have b4 := h1.br.walks
  obtain ⟨e1, hboth⟩ := h1.put h.okT a b
  have H13 : Hid (∀ W, Still (boxes w bT bO bR bP 0 a b pv) W → Calls Try.prog 13 #[.pointer (some ⟨bT, 0, none⟩), .int .i64 a, .int .i64 b] W fun e w' => e = .returned (.int .i64 (T.put a b).2) ∧ QM (boxes w bT bO bR bP 0 a b pv) G bT bO bR bP (T.put a b).1 O R P w') := by
    intro W hW
    obtain ⟨F, ht, hm⟩ := (hb.still hW).onT
    exact (f13_tab ht (by omega) (by omega) ha b).mono fun e w' ⟨he, hmv⟩ => ⟨he, hm _ _ hmv⟩
  have H53 : Hid (∀ W, QM (boxes w bT bO bR bP 0 a b pv) G bT bO bR bP (T.put a b).1 O R P W → Calls Try.prog 53 #[.pointer (some ⟨bR, 0, none⟩), .int .i64 a, .int .i64 b] W fun e w' => e = .returned (.int .i64 (T.put a b).2) ∧ QM (boxes w bT bO bR bP 0 a b pv) G bT bO bR bP (T.put a b).1 O (R.putR a b).1 P w') := by
    intro W hW
    obtain ⟨F, ht, hm⟩ := hW.onR
    rw [e1]
    exact (f53_ref ht (by omega) (by omega) a b).mono fun e w' ⟨he, hmv⟩ => ⟨he, hm _ _ hmv⟩
  have HFIN : Hid (∀ w', QM (boxes w bT bO bR bP 0 a b pv) G bT bO bR bP (T.put a b).1 O (R.putR a b).1 P w' → Did w G n bT bO bR bP (.returned (.bool true)) w') := fun w' hq =>
    ⟨rfl, _, _, _, _, hboth, h2.mono (by omega), hq.before (boxes_still w bT bO bR bP 0 a b pv)⟩
  have HG := Lib.hid hG
  generalize (T.put a b).2 = E at *
  clear h hG h1 h2 hb e1 hboth b1 b2 b3 b4
  go_enter Try.func25, Try.ntmps25
  go_wp2_with fail
  go_region_held3 (fun w' => w'.cell? ⟨w.heap.size, 0, none⟩ = some (.pointer (some ⟨bT, 0, none⟩)) ∧ w'.cell? ⟨w.heap.size, 2, none⟩ = some (.pointer (some ⟨bR, 0, none⟩)) ∧ w'.cell? ⟨w.heap.size + 1, 1, none⟩ = some (.int .i64 a) ∧ w'.cell? ⟨w.heap.size + 1, 2, none⟩ = some (.int .i64 b)) (go_keep)
    (first
      | (go_at_call 13; refine (H13.out _ (Touch.refl _ _).drew).mono ?_; rintro e w2 ⟨rfl, hq⟩; obtain ⟨⟨c0, -, c2, -⟩, -, k1, k2, -⟩ := boxes_kept HG.out hq.touch; have HQ := Lib.hid hq; clear hq)
      | (go_at_call 53; refine (H53.out _ HQ.out).mono ?_; rintro e w3 ⟨rfl, hq⟩; obtain ⟨⟨d0, -, d2, -⟩, -, l1, l2, -⟩ := boxes_kept HG.out hq.touch; have HQ3 := Lib.hid hq; clear hq))
  all_goals
    go_wp2_with fail
    go_ret
    exact HFIN.out _ HQ3.out
end

end Go.Proofs.Ytombofldebmaoaa
