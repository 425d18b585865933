/-
  does: a deed at both pairs, the cases that are alike. Printed by wip/tools/does06.py.
-/
import Derived.Test.YtombofldebmaoaaPairE
namespace Go.Proofs.Ytombofldebmaoaa
open Go.RowKit
set_option linter.unusedVariables false
attribute [local go_sem ↓] Go.wp_at_zero Go.wp_at_succ

section
variable {w : World} {G : Nat → Prop} {n bT bO bR bP : Nat} {T O R P : PT}

set_option maxRecDepth 100000 in
set_option maxHeartbeats 2000000 in
theorem does_1 (h : QM w G bT bO bR bP T O R P w) (hG : ∀ k, G k → k < w.heap.size) (h1 : Both n T R) (h2 : Both n O P) (hn : n ≤ 1000) {a : Int} (ha : (Lit.int .i64 a).wf = true) (b : Int) (pv : Value) :
    Calls Try.prog 25 #[.agg #[.pointer (some ⟨bT, 0, none⟩), .pointer (some ⟨bO, 0, none⟩), .pointer (some ⟨bR, 0, none⟩), .pointer (some ⟨bP, 0, none⟩)], .agg #[.int .i64 1, .int .i64 a, .int .i64 b, pv]] w (Did w G n bT bO bR bP) := by
  have hb := h.base (boxes_still w bT bO bR bP 1 a b pv)
  have b1 := h1.bt.next
  have b2 := h1.bt.walks
  have b3 := h1.br.next
  have b4 := h1.br.walks
  obtain ⟨e1, hboth⟩ := h1.del a
  have HT : Hid (∀ W, Still (boxes w bT bO bR bP 1 a b pv) W → Calls Try.prog 15 #[.pointer (some ⟨bT, 0, none⟩), .int .i64 a] W fun e w' => e = .returned (.tuple #[.int .i64 (T.del a).2.1, .int .i64 (T.del a).2.2]) ∧ QM (boxes w bT bO bR bP 1 a b pv) G bT bO bR bP (T.del a).1 O R P w') := by
    intro W hW
    obtain ⟨F, ht, hm⟩ := (hb.still hW).onT
    exact (f15_tab ht (by omega) ha).mono fun e w' ⟨he, hmv⟩ => ⟨he, hm _ _ hmv⟩
  have HR : Hid (∀ W, QM (boxes w bT bO bR bP 1 a b pv) G bT bO bR bP (T.del a).1 O R P W → Calls Try.prog 54 #[.pointer (some ⟨bR, 0, none⟩), .int .i64 a] W fun e w' => e = .returned (.tuple #[.int .i64 (T.del a).2.1, .int .i64 (T.del a).2.2]) ∧ QM (boxes w bT bO bR bP 1 a b pv) G bT bO bR bP (T.del a).1 O (R.del a).1 P w') := by
    intro W hW
    obtain ⟨F, ht, hm⟩ := hW.onR
    rw [e1]
    exact (f54_ref ht a).mono fun e w' ⟨he, hmv⟩ => ⟨he, hm _ _ hmv⟩
  have HFIN : Hid (∀ w', QM (boxes w bT bO bR bP 1 a b pv) G bT bO bR bP (T.del a).1 O (R.del a).1 P w' → Did w G n bT bO bR bP (.returned (.bool true)) w') := fun w' hq =>
    ⟨rfl, _, _, _, _, hboth, h2.mono (by omega), hq.before (boxes_still w bT bO bR bP 1 a b pv)⟩
  have HG := Lib.hid hG
  generalize (T.del a).2 = E at *
  clear h hG h1 h2 hb e1 hboth b1 b2 b3 b4
  go_enter Try.func25, Try.ntmps25
  go_wp2_with fail
  refine (HT.out _ (Touch.refl _ _)).mono ?_
  rintro e w2 ⟨rfl, hq⟩
  obtain ⟨⟨c0, c1, c2, c3⟩, k0, k1, k2, k3⟩ := boxes_kept HG.out hq.touch
  have HQ := Lib.hid hq
  clear hq
  go_wp2_with fail
  refine (HR.out _ HQ.out).mono ?_
  rintro e w3 ⟨rfl, hq⟩
  have HQ3 := Lib.hid hq
  clear hq
  go_wp2_with fail
  go_ret
  exact HFIN.out _ HQ3.out

set_option maxRecDepth 100000 in
set_option maxHeartbeats 2000000 in
theorem does_2 (h : QM w G bT bO bR bP T O R P w) (hG : ∀ k, G k → k < w.heap.size) (h1 : Both n T R) (h2 : Both n O P) (hn : n ≤ 1000) {a : Int} (ha : (Lit.int .i64 a).wf = true) (b : Int) (pv : Value) :
    Calls Try.prog 25 #[.agg #[.pointer (some ⟨bT, 0, none⟩), .pointer (some ⟨bO, 0, none⟩), .pointer (some ⟨bR, 0, none⟩), .pointer (some ⟨bP, 0, none⟩)], .agg #[.int .i64 2, .int .i64 a, .int .i64 b, pv]] w (Did w G n bT bO bR bP) := by
  have hb := h.base (boxes_still w bT bO bR bP 2 a b pv)
  have b1 := h1.bt.next
  have b2 := h1.bt.walks
  have b3 := h1.br.next
  have b4 := h1.br.walks
  obtain ⟨e1, hboth⟩ := h1.shift
  have HT : Hid (∀ W, Still (boxes w bT bO bR bP 2 a b pv) W → Calls Try.prog 40 #[.pointer (some ⟨bT, 0, none⟩)] W fun e w' => e = .returned (.tuple #[.int .i64 T.shift.2.1, .int .i64 T.shift.2.2.1, .int .i64 T.shift.2.2.2]) ∧ QM (boxes w bT bO bR bP 2 a b pv) G bT bO bR bP T.shift.1 O R P w') := by
    intro W hW
    obtain ⟨F, ht, hm⟩ := (hb.still hW).onT
    exact (f40_tab ht (by omega)).mono fun e w' ⟨he, hmv⟩ => ⟨he, hm _ _ hmv⟩
  have HR : Hid (∀ W, QM (boxes w bT bO bR bP 2 a b pv) G bT bO bR bP T.shift.1 O R P W → Calls Try.prog 55 #[.pointer (some ⟨bR, 0, none⟩)] W fun e w' => e = .returned (.tuple #[.int .i64 T.shift.2.1, .int .i64 T.shift.2.2.1, .int .i64 T.shift.2.2.2]) ∧ QM (boxes w bT bO bR bP 2 a b pv) G bT bO bR bP T.shift.1 O R.shift.1 P w') := by
    intro W hW
    obtain ⟨F, ht, hm⟩ := hW.onR
    rw [e1]
    exact (f55_ref ht).mono fun e w' ⟨he, hmv⟩ => ⟨he, hm _ _ hmv⟩
  have HFIN : Hid (∀ w', QM (boxes w bT bO bR bP 2 a b pv) G bT bO bR bP T.shift.1 O R.shift.1 P w' → Did w G n bT bO bR bP (.returned (.bool true)) w') := fun w' hq =>
    ⟨rfl, _, _, _, _, hboth, h2.mono (by omega), hq.before (boxes_still w bT bO bR bP 2 a b pv)⟩
  have HG := Lib.hid hG
  generalize T.shift.2 = E at *
  clear h hG h1 h2 hb e1 hboth b1 b2 b3 b4
  go_enter Try.func25, Try.ntmps25
  go_wp2_with fail
  refine (HT.out _ (Touch.refl _ _)).mono ?_
  rintro e w2 ⟨rfl, hq⟩
  obtain ⟨⟨c0, c1, c2, c3⟩, k0, k1, k2, k3⟩ := boxes_kept HG.out hq.touch
  have HQ := Lib.hid hq
  clear hq
  go_wp2_with fail
  refine (HR.out _ HQ.out).mono ?_
  rintro e w3 ⟨rfl, hq⟩
  have HQ3 := Lib.hid hq
  clear hq
  go_wp2_with fail
  go_ret
  exact HFIN.out _ HQ3.out

set_option maxRecDepth 100000 in
set_option maxHeartbeats 2000000 in
theorem does_3 (h : QM w G bT bO bR bP T O R P w) (hG : ∀ k, G k → k < w.heap.size) (h1 : Both n T R) (h2 : Both n O P) (hn : n ≤ 1000) {a : Int} (ha : (Lit.int .i64 a).wf = true) (b : Int) (pv : Value) :
    Calls Try.prog 25 #[.agg #[.pointer (some ⟨bT, 0, none⟩), .pointer (some ⟨bO, 0, none⟩), .pointer (some ⟨bR, 0, none⟩), .pointer (some ⟨bP, 0, none⟩)], .agg #[.int .i64 3, .int .i64 a, .int .i64 b, pv]] w (Did w G n bT bO bR bP) := by
  have hb := h.base (boxes_still w bT bO bR bP 3 a b pv)
  have b1 := h1.bt.next
  have b2 := h1.bt.walks
  have b3 := h1.br.next
  have b4 := h1.br.walks
  obtain ⟨e1, hboth⟩ := h1.begin h.okT
  have HT : Hid (∀ W, Still (boxes w bT bO bR bP 3 a b pv) W → Calls Try.prog 14 #[.pointer (some ⟨bT, 0, none⟩)] W fun e w' => e = .returned (.tuple #[.int .i64 T.walk.2.1, .int .i64 T.walk.2.2]) ∧ QM (boxes w bT bO bR bP 3 a b pv) G bT bO bR bP T.walk.1 O R P w') := by
    intro W hW
    obtain ⟨F, ht, hm⟩ := (hb.still hW).onT
    exact (f14_tab ht (by omega)).mono fun e w' ⟨he, hmv⟩ => ⟨he, hm _ _ hmv⟩
  have HR : Hid (∀ W, QM (boxes w bT bO bR bP 3 a b pv) G bT bO bR bP T.walk.1 O R P W → Calls Try.prog 56 #[.pointer (some ⟨bR, 0, none⟩)] W fun e w' => e = .returned (.tuple #[.int .i64 T.walk.2.1, .int .i64 T.walk.2.2]) ∧ QM (boxes w bT bO bR bP 3 a b pv) G bT bO bR bP T.walk.1 O R.begin.1 P w') := by
    intro W hW
    obtain ⟨F, ht, hm⟩ := hW.onR
    rw [e1]
    exact (f56_ref ht (by omega)).mono fun e w' ⟨he, hmv⟩ => ⟨he, hm _ _ hmv⟩
  have HFIN : Hid (∀ w', QM (boxes w bT bO bR bP 3 a b pv) G bT bO bR bP T.walk.1 O R.begin.1 P w' → Did w G n bT bO bR bP (.returned (.bool true)) w') := fun w' hq =>
    ⟨rfl, _, _, _, _, hboth, h2.mono (by omega), hq.before (boxes_still w bT bO bR bP 3 a b pv)⟩
  have HG := Lib.hid hG
  generalize T.walk.2 = E at *
  clear h hG h1 h2 hb e1 hboth b1 b2 b3 b4
  go_enter Try.func25, Try.ntmps25
  go_wp2_with fail
  refine (HT.out _ (Touch.refl _ _)).mono ?_
  rintro e w2 ⟨rfl, hq⟩
  obtain ⟨⟨c0, c1, c2, c3⟩, k0, k1, k2, k3⟩ := boxes_kept HG.out hq.touch
  have HQ := Lib.hid hq
  clear hq
  go_wp2_with fail
  refine (HR.out _ HQ.out).mono ?_
  rintro e w3 ⟨rfl, hq⟩
  have HQ3 := Lib.hid hq
  clear hq
  go_wp2_with fail
  go_ret
  exact HFIN.out _ HQ3.out

set_option maxRecDepth 100000 in
set_option maxHeartbeats 2000000 in
theorem does_4 (h : QM w G bT bO bR bP T O R P w) (hG : ∀ k, G k → k < w.heap.size) (h1 : Both n T R) (h2 : Both n O P) (hn : n ≤ 1000) {a : Int} (ha : (Lit.int .i64 a).wf = true) (b : Int) (pv : Value) :
    Calls Try.prog 25 #[.agg #[.pointer (some ⟨bT, 0, none⟩), .pointer (some ⟨bO, 0, none⟩), .pointer (some ⟨bR, 0, none⟩), .pointer (some ⟨bP, 0, none⟩)], .agg #[.int .i64 4, .int .i64 a, .int .i64 b, pv]] w (Did w G n bT bO bR bP) := by
  have hb := h.base (boxes_still w bT bO bR bP 4 a b pv)
  have b1 := h1.bt.next
  have b2 := h1.bt.walks
  have b3 := h1.br.next
  have b4 := h1.br.walks
  obtain ⟨e1, hboth⟩ := h1.next h.okT a
  have HT : Hid (∀ W, Still (boxes w bT bO bR bP 4 a b pv) W → Calls Try.prog 21 #[.pointer (some ⟨bT, 0, none⟩), .int .i64 a] W fun e w' => e = .returned (.tuple #[.int .i64 (nextW T a).2.1, .int .i64 (nextW T a).2.2.1, .int .i64 (nextW T a).2.2.2]) ∧ QM (boxes w bT bO bR bP 4 a b pv) G bT bO bR bP { T with walks := (nextW T a).1 } O R P w') := by
    intro W hW
    obtain ⟨F, ht, hm⟩ := (hb.still hW).onT
    exact (f21_tab ht (by omega) a).mono fun e w' ⟨he, hmv⟩ => ⟨he, hm _ _ hmv⟩
  have HR : Hid (∀ W, QM (boxes w bT bO bR bP 4 a b pv) G bT bO bR bP { T with walks := (nextW T a).1 } O R P W → Calls Try.prog 57 #[.pointer (some ⟨bR, 0, none⟩), .int .i64 a] W fun e w' => e = .returned (.tuple #[.int .i64 (nextW T a).2.1, .int .i64 (nextW T a).2.2.1, .int .i64 (nextW T a).2.2.2]) ∧ QM (boxes w bT bO bR bP 4 a b pv) G bT bO bR bP { T with walks := (nextW T a).1 } O { R with walks := (nextW R a).1 } P w') := by
    intro W hW
    obtain ⟨F, ht, hm⟩ := hW.onR
    rw [e1]
    exact (f57_ref ht (by omega) a).mono fun e w' ⟨he, hmv⟩ => ⟨he, hm _ _ hmv⟩
  have HFIN : Hid (∀ w', QM (boxes w bT bO bR bP 4 a b pv) G bT bO bR bP { T with walks := (nextW T a).1 } O { R with walks := (nextW R a).1 } P w' → Did w G n bT bO bR bP (.returned (.bool true)) w') := fun w' hq =>
    ⟨rfl, _, _, _, _, hboth, h2.mono (by omega), hq.before (boxes_still w bT bO bR bP 4 a b pv)⟩
  have HG := Lib.hid hG
  generalize (nextW T a).2 = E at *
  clear h hG h1 h2 hb e1 hboth b1 b2 b3 b4
  go_enter Try.func25, Try.ntmps25
  go_wp2_with fail
  refine (HT.out _ (Touch.refl _ _)).mono ?_
  rintro e w2 ⟨rfl, hq⟩
  obtain ⟨⟨c0, c1, c2, c3⟩, k0, k1, k2, k3⟩ := boxes_kept HG.out hq.touch
  have HQ := Lib.hid hq
  clear hq
  go_wp2_with fail
  refine (HR.out _ HQ.out).mono ?_
  rintro e w3 ⟨rfl, hq⟩
  have HQ3 := Lib.hid hq
  clear hq
  go_wp2_with fail
  go_ret
  exact HFIN.out _ HQ3.out

set_option maxRecDepth 100000 in
set_option maxHeartbeats 2000000 in
theorem does_5 (h : QM w G bT bO bR bP T O R P w) (hG : ∀ k, G k → k < w.heap.size) (h1 : Both n T R) (h2 : Both n O P) (hn : n ≤ 1000) {a : Int} (ha : (Lit.int .i64 a).wf = true) (b : Int) (pv : Value) :
    Calls Try.prog 25 #[.agg #[.pointer (some ⟨bT, 0, none⟩), .pointer (some ⟨bO, 0, none⟩), .pointer (some ⟨bR, 0, none⟩), .pointer (some ⟨bP, 0, none⟩)], .agg #[.int .i64 5, .int .i64 a, .int .i64 b, pv]] w (Did w G n bT bO bR bP) := by
  have hb := h.base (boxes_still w bT bO bR bP 5 a b pv)
  have b1 := h1.bt.next
  have b2 := h1.bt.walks
  have b3 := h1.br.next
  have b4 := h1.br.walks
  obtain ⟨e1, hboth⟩ := h1.stop a
  have HT : Hid (∀ W, Still (boxes w bT bO bR bP 5 a b pv) W → Calls Try.prog 16 #[.pointer (some ⟨bT, 0, none⟩), .int .i64 a] W fun e w' => e = .returned (.int .i64 (stopW T.walks a).2) ∧ QM (boxes w bT bO bR bP 5 a b pv) G bT bO bR bP { T with walks := (stopW T.walks a).1 } O R P w') := by
    intro W hW
    obtain ⟨F, ht, hm⟩ := (hb.still hW).onT
    exact (f16_tab ht (by omega) a).mono fun e w' ⟨he, hmv⟩ => ⟨he, hm _ _ hmv⟩
  have HR : Hid (∀ W, QM (boxes w bT bO bR bP 5 a b pv) G bT bO bR bP { T with walks := (stopW T.walks a).1 } O R P W → Calls Try.prog 58 #[.pointer (some ⟨bR, 0, none⟩), .int .i64 a] W fun e w' => e = .returned (.int .i64 (stopW T.walks a).2) ∧ QM (boxes w bT bO bR bP 5 a b pv) G bT bO bR bP { T with walks := (stopW T.walks a).1 } O { R with walks := (stopW R.walks a).1 } P w') := by
    intro W hW
    obtain ⟨F, ht, hm⟩ := hW.onR
    rw [e1]
    exact (f58_ref ht (by omega) a).mono fun e w' ⟨he, hmv⟩ => ⟨he, hm _ _ hmv⟩
  have HFIN : Hid (∀ w', QM (boxes w bT bO bR bP 5 a b pv) G bT bO bR bP { T with walks := (stopW T.walks a).1 } O { R with walks := (stopW R.walks a).1 } P w' → Did w G n bT bO bR bP (.returned (.bool true)) w') := fun w' hq =>
    ⟨rfl, _, _, _, _, hboth, h2.mono (by omega), hq.before (boxes_still w bT bO bR bP 5 a b pv)⟩
  have HG := Lib.hid hG
  generalize (stopW T.walks a).2 = E at *
  clear h hG h1 h2 hb e1 hboth b1 b2 b3 b4
  go_enter Try.func25, Try.ntmps25
  go_wp2_with fail
  go_region_held3 (fun w' => w'.cell? ⟨w.heap.size, 0, none⟩ = some (.pointer (some ⟨bT, 0, none⟩)) ∧ w'.cell? ⟨w.heap.size, 2, none⟩ = some (.pointer (some ⟨bR, 0, none⟩)) ∧ w'.cell? ⟨w.heap.size + 1, 1, none⟩ = some (.int .i64 a) ∧ w'.cell? ⟨w.heap.size + 1, 2, none⟩ = some (.int .i64 b)) (go_keep)
    (first
      | (go_at_call 16; refine (HT.out _ (Touch.refl _ _).drew).mono ?_; rintro e w2 ⟨rfl, hq⟩; obtain ⟨⟨c0, c1, c2, c3⟩, -, k1, k2, -⟩ := boxes_kept HG.out hq.touch; have HQ := Lib.hid hq; clear hq)
      | (go_at_call 58; refine (HR.out _ HQ.out).mono ?_; rintro e w3 ⟨rfl, hq⟩; obtain ⟨⟨d0, d1, d2, d3⟩, -, l1, l2, -⟩ := boxes_kept HG.out hq.touch; have HQ3 := Lib.hid hq; clear hq))
  all_goals
    go_wp2_with fail
    go_ret
    exact HFIN.out _ HQ3.out

set_option maxRecDepth 100000 in
set_option maxHeartbeats 2000000 in
theorem does_10 (h : QM w G bT bO bR bP T O R P w) (hG : ∀ k, G k → k < w.heap.size) (h1 : Both n T R) (h2 : Both n O P) (hn : n ≤ 1000) {a : Int} (ha : (Lit.int .i64 a).wf = true) (b : Int) (pv : Value) :
    Calls Try.prog 25 #[.agg #[.pointer (some ⟨bT, 0, none⟩), .pointer (some ⟨bO, 0, none⟩), .pointer (some ⟨bR, 0, none⟩), .pointer (some ⟨bP, 0, none⟩)], .agg #[.int .i64 10, .int .i64 a, .int .i64 b, pv]] w (Did w G n bT bO bR bP) := by
  have hb := h.base (boxes_still w bT bO bR bP 10 a b pv)
  have b1 := h2.bt.next
  have b2 := h2.bt.walks
  have b3 := h2.br.next
  have b4 := h2.br.walks
  obtain ⟨e1, hboth⟩ := h2.put h.okO a b
  have HT : Hid (∀ W, Still (boxes w bT bO bR bP 10 a b pv) W → Calls Try.prog 13 #[.pointer (some ⟨bO, 0, none⟩), .int .i64 a, .int .i64 b] W fun e w' => e = .returned (.int .i64 (O.put a b).2) ∧ QM (boxes w bT bO bR bP 10 a b pv) G bT bO bR bP T (O.put a b).1 R P w') := by
    intro W hW
    obtain ⟨F, ht, hm⟩ := (hb.still hW).onO
    exact (f13_tab ht (by omega) (by omega) ha b).mono fun e w' ⟨he, hmv⟩ => ⟨he, hm _ _ hmv⟩
  have HR : Hid (∀ W, QM (boxes w bT bO bR bP 10 a b pv) G bT bO bR bP T (O.put a b).1 R P W → Calls Try.prog 53 #[.pointer (some ⟨bP, 0, none⟩), .int .i64 a, .int .i64 b] W fun e w' => e = .returned (.int .i64 (O.put a b).2) ∧ QM (boxes w bT bO bR bP 10 a b pv) G bT bO bR bP T (O.put a b).1 R (P.putR a b).1 w') := by
    intro W hW
    obtain ⟨F, ht, hm⟩ := hW.onP
    rw [e1]
    exact (f53_ref ht (by omega) (by omega) a b).mono fun e w' ⟨he, hmv⟩ => ⟨he, hm _ _ hmv⟩
  have HFIN : Hid (∀ w', QM (boxes w bT bO bR bP 10 a b pv) G bT bO bR bP T (O.put a b).1 R (P.putR a b).1 w' → Did w G n bT bO bR bP (.returned (.bool true)) w') := fun w' hq =>
    ⟨rfl, _, _, _, _, h1.mono (by omega), hboth, hq.before (boxes_still w bT bO bR bP 10 a b pv)⟩
  have HG := Lib.hid hG
  generalize (O.put a b).2 = E at *
  clear h hG h1 h2 hb e1 hboth b1 b2 b3 b4
  go_enter Try.func25, Try.ntmps25
  go_wp2_with fail
  go_region_held3 (fun w' => w'.cell? ⟨w.heap.size, 1, none⟩ = some (.pointer (some ⟨bO, 0, none⟩)) ∧ w'.cell? ⟨w.heap.size, 3, none⟩ = some (.pointer (some ⟨bP, 0, none⟩)) ∧ w'.cell? ⟨w.heap.size + 1, 1, none⟩ = some (.int .i64 a) ∧ w'.cell? ⟨w.heap.size + 1, 2, none⟩ = some (.int .i64 b)) (go_keep)
    (first
      | (go_at_call 13; refine (HT.out _ (Touch.refl _ _).drew).mono ?_; rintro e w2 ⟨rfl, hq⟩; obtain ⟨⟨c0, c1, c2, c3⟩, -, k1, k2, -⟩ := boxes_kept HG.out hq.touch; have HQ := Lib.hid hq; clear hq)
      | (go_at_call 53; refine (HR.out _ HQ.out).mono ?_; rintro e w3 ⟨rfl, hq⟩; obtain ⟨⟨d0, d1, d2, d3⟩, -, l1, l2, -⟩ := boxes_kept HG.out hq.touch; have HQ3 := Lib.hid hq; clear hq))
  all_goals
    go_wp2_with fail
    go_ret
    exact HFIN.out _ HQ3.out

end

end Go.Proofs.Ytombofldebmaoaa
