/-
  does: the cases that are not alike: Strict, Freeze, Rekey, Merge, a key behind all others, no deed; and all of them together.
-/
import Derived.Test.YtombofldebmaoaaPairF
namespace Go.Proofs.Ytombofldebmaoaa
open Go.RowKit
set_option linter.unusedVariables false
attribute [local go_sem ↓] Go.wp_at_zero Go.wp_at_succ

theorem PairsIn.take {w : World} {ao : Option Addr} {l cap : Nat} {ps : List P2} (h : PairsIn w (.slice ao l cap) ps) {m : Nat} (hm : m ≤ ps.length) : PairsIn w (.slice ao m cap) (ps.take m) := by
  obtain ⟨ao', cap', e, hc, hv⟩ := h.pairs.view
  simp only [Value.slice.injEq] at e
  obtain ⟨rfl, -, rfl⟩ := e
  have hl : (ps.take m).length = m := by rw [List.length_take]; omega
  refine ⟨⟨ao, cap, by rw [hl], by rw [hl]; omega, fun i p hp => ?_⟩, fun p hp => h.wf p (List.mem_of_mem_take hp), by have := h.len; omega⟩
  refine hv i p ?_
  rw [List.getElem?_take] at hp
  split at hp
  · exact hp
  · cases hp

theorem PairsIn.kept {w w' : World} {v : Value} {ps : List P2} (h : PairsIn w v ps) {S : Nat → Prop} (ht : Touch S w w') (hS : ∀ g o l c, v = .slice (some ⟨g, o, none⟩) l c → 0 < ps.length → ¬ S g) : PairsIn w' v ps := by
  refine ⟨⟨?_⟩, h.wf, h.len⟩
  obtain ⟨ao, cap, rfl, hc, hv⟩ := h.pairs.view
  refine ⟨ao, cap, rfl, hc, fun i p hp => ?_⟩
  obtain ⟨g, o, rfl, hg, h0, h1⟩ := hv i p hp
  have hn := hS g o _ _ rfl (by have := (List.getElem?_eq_some_iff.1 hp).1; omega)
  exact ⟨g, o, rfl, Nat.lt_of_lt_of_le hg ht.size, (ht.cell (p := ⟨g, _, none⟩) hg hn).trans h0, (ht.cell (p := ⟨g, _, none⟩) hg hn).trans h1⟩

section
variable {w : World} {G : Nat → Prop} {n bT bO bR bP : Nat} {T O R P : PT}

set_option maxRecDepth 100000 in
set_option maxHeartbeats 2000000 in
theorem does_6 (h : QM w G bT bO bR bP T O R P w) (hG : ∀ k, G k → k < w.heap.size) (h1 : Both n T R) (h2 : Both n O P) (a b : Int) (pv : Value) :
    Calls Try.prog 25 #[.agg #[.pointer (some ⟨bT, 0, none⟩), .pointer (some ⟨bO, 0, none⟩), .pointer (some ⟨bR, 0, none⟩), .pointer (some ⟨bP, 0, none⟩)], .agg #[.int .i64 6, .int .i64 a, .int .i64 b, pv]] w (Did w G n bT bO bR bP) := by
  have hb := h.base (boxes_still w bT bO bR bP 6 a b pv)
  obtain ⟨on, hon⟩ : ∃ on : Bool, (bits BinOp.and IntKind.i64 b 1 == 1) = on := ⟨_, rfl⟩
  have hboth := h1.strictly on
  have HT : Hid (∀ W, Still (boxes w bT bO bR bP 6 a b pv) W → Calls Try.prog 37 #[.pointer (some ⟨bT, 0, none⟩), .bool on] W fun e w' => e = .returned (.tuple #[]) ∧ QM (boxes w bT bO bR bP 6 a b pv) G bT bO bR bP { T with strict := on } O R P w') := by
    intro W hW
    obtain ⟨F, ht, hm⟩ := (hb.still hW).onT
    exact (f37_tab ht on).mono fun e w' ⟨he, hmv⟩ => ⟨he, hm _ _ hmv⟩
  have HR : Hid (∀ W, QM (boxes w bT bO bR bP 6 a b pv) G bT bO bR bP { T with strict := on } O R P W → W.cell? ⟨bR, 1, none⟩ = some (.bool R.strict) ∧ W.frozen? ⟨bR, 1, none⟩ = false ∧ QM (boxes w bT bO bR bP 6 a b pv) G bT bO bR bP { T with strict := on } O { R with strict := on } P (W.setCell ⟨bR, 1, none⟩ (.bool on))) := by
    intro W hW
    obtain ⟨F, ⟨rv, kv, ht⟩, hm⟩ := hW.onR
    exact ⟨ht.c1, ht.z 1, hm _ _ ⟨F, ⟨rv, kv, ht.fields 1 (.bool on) on R.frozen R.next (by simp)⟩, (touch_setCell _ _ _).mono (fun k _ hk => by rw [hk]; exact ht.fb), fun _ h => .inl h⟩⟩
  have HFIN : Hid (∀ w', QM (boxes w bT bO bR bP 6 a b pv) G bT bO bR bP { T with strict := on } O { R with strict := on } P w' → Did w G n bT bO bR bP (.returned (.bool true)) w') := fun w' hq =>
    ⟨rfl, _, _, _, _, hboth, h2.mono (by omega), hq.before (boxes_still w bT bO bR bP 6 a b pv)⟩
  have HG := Lib.hid hG
  clear h hG h1 h2 hb hboth
  go_enter Try.func25, Try.ntmps25
  go_wp2_with fail
  refine (HT.out _ (Touch.refl _ _)).mono ?_
  rintro e w2 ⟨rfl, hq⟩
  obtain ⟨⟨c0, c1, c2, c3⟩, k0, k1, k2, k3⟩ := boxes_kept HG.out hq.touch
  obtain ⟨y1, z1, hq3⟩ := HR.out _ hq
  have HQ3 := Lib.hid hq3
  clear hq hq3
  go_wp2_with fail
  go_ret
  exact HFIN.out _ HQ3.out

set_option maxRecDepth 100000 in
set_option maxHeartbeats 2000000 in
theorem does_7 (h : QM w G bT bO bR bP T O R P w) (hG : ∀ k, G k → k < w.heap.size) (h1 : Both n T R) (h2 : Both n O P) (a b : Int) (pv : Value) :
    Calls Try.prog 25 #[.agg #[.pointer (some ⟨bT, 0, none⟩), .pointer (some ⟨bO, 0, none⟩), .pointer (some ⟨bR, 0, none⟩), .pointer (some ⟨bP, 0, none⟩)], .agg #[.int .i64 7, .int .i64 a, .int .i64 b, pv]] w (Did w G n bT bO bR bP) := by
  have hb := h.base (boxes_still w bT bO bR bP 7 a b pv)
  have hboth := h1.freeze
  have HT : Hid (∀ W, Still (boxes w bT bO bR bP 7 a b pv) W → Calls Try.prog 38 #[.pointer (some ⟨bT, 0, none⟩)] W fun e w' => e = .returned (.tuple #[]) ∧ QM (boxes w bT bO bR bP 7 a b pv) G bT bO bR bP { T with frozen := true } O R P w') := by
    intro W hW
    obtain ⟨F, ht, hm⟩ := (hb.still hW).onT
    exact (f38_tab ht).mono fun e w' ⟨he, hmv⟩ => ⟨he, hm _ _ hmv⟩
  have HR : Hid (∀ W, QM (boxes w bT bO bR bP 7 a b pv) G bT bO bR bP { T with frozen := true } O R P W → W.cell? ⟨bR, 2, none⟩ = some (.bool R.frozen) ∧ W.frozen? ⟨bR, 2, none⟩ = false ∧ QM (boxes w bT bO bR bP 7 a b pv) G bT bO bR bP { T with frozen := true } O { R with frozen := true } P (W.setCell ⟨bR, 2, none⟩ (.bool true))) := by
    intro W hW
    obtain ⟨F, ⟨rv, kv, ht⟩, hm⟩ := hW.onR
    exact ⟨ht.c2, ht.z 2, hm _ _ ⟨F, ⟨rv, kv, ht.fields 2 (.bool true) R.strict true R.next (by simp)⟩, (touch_setCell _ _ _).mono (fun k _ hk => by rw [hk]; exact ht.fb), fun _ h => .inl h⟩⟩
  have HFIN : Hid (∀ w', QM (boxes w bT bO bR bP 7 a b pv) G bT bO bR bP { T with frozen := true } O { R with frozen := true } P w' → Did w G n bT bO bR bP (.returned (.bool true)) w') := fun w' hq =>
    ⟨rfl, _, _, _, _, hboth, h2.mono (by omega), hq.before (boxes_still w bT bO bR bP 7 a b pv)⟩
  have HG := Lib.hid hG
  clear h hG h1 h2 hb hboth
  go_enter Try.func25, Try.ntmps25
  go_wp2_with fail
  refine (HT.out _ (Touch.refl _ _)).mono ?_
  rintro e w2 ⟨rfl, hq⟩
  obtain ⟨⟨c0, c1, c2, c3⟩, k0, k1, k2, k3⟩ := boxes_kept HG.out hq.touch
  obtain ⟨y1, z1, hq3⟩ := HR.out _ hq
  have HQ3 := Lib.hid hq3
  clear hq hq3
  go_wp2_with fail
  go_ret
  exact HFIN.out _ HQ3.out

set_option maxRecDepth 100000 in
set_option maxHeartbeats 2000000 in
theorem does_11 (h : QM w G bT bO bR bP T O R P w) (hG : ∀ k, G k → k < w.heap.size) (h1 : Both n T R) (h2 : Both n O P) (hn : n ≤ 1000) (a b : Int) (pv : Value) :
    Calls Try.prog 25 #[.agg #[.pointer (some ⟨bT, 0, none⟩), .pointer (some ⟨bO, 0, none⟩), .pointer (some ⟨bR, 0, none⟩), .pointer (some ⟨bP, 0, none⟩)], .agg #[.int .i64 11, .int .i64 a, .int .i64 b, pv]] w (Did w G n bT bO bR bP) := by
  have hb := h.base (boxes_still w bT bO bR bP 11 a b pv)
  have b1 := h1.bt.next
  have b2 := h1.bt.walks
  have b3 := h1.br.next
  have b4 := h1.br.walks
  have ha := wf_wrap .i64 (1000 + bits BinOp.and IntKind.i64 a 1023)
  obtain ⟨K, hK⟩ : ∃ K, IntKind.i64.wrap (1000 + bits BinOp.and IntKind.i64 a 1023) = K := ⟨_, rfl⟩
  rw [hK] at ha
  obtain ⟨e1, hboth⟩ := h1.put h.okT K b
  have HT : Hid (∀ W, Still (boxes w bT bO bR bP 11 a b pv) W → Calls Try.prog 13 #[.pointer (some ⟨bT, 0, none⟩), .int .i64 K, .int .i64 b] W fun e w' => e = .returned (.int .i64 (T.put K b).2) ∧ QM (boxes w bT bO bR bP 11 a b pv) G bT bO bR bP (T.put K b).1 O R P w') := by
    intro W hW
    obtain ⟨F, ht, hm⟩ := (hb.still hW).onT
    exact (f13_tab ht (by omega) (by omega) ha b).mono fun e w' ⟨he, hmv⟩ => ⟨he, hm _ _ hmv⟩
  have HR : Hid (∀ W, QM (boxes w bT bO bR bP 11 a b pv) G bT bO bR bP (T.put K b).1 O R P W → Calls Try.prog 53 #[.pointer (some ⟨bR, 0, none⟩), .int .i64 K, .int .i64 b] W fun e w' => e = .returned (.int .i64 (T.put K b).2) ∧ QM (boxes w bT bO bR bP 11 a b pv) G bT bO bR bP (T.put K b).1 O (R.putR K b).1 P w') := by
    intro W hW
    obtain ⟨F, ht, hm⟩ := hW.onR
    rw [e1]
    exact (f53_ref ht (by omega) (by omega) K b).mono fun e w' ⟨he, hmv⟩ => ⟨he, hm _ _ hmv⟩
  have HFIN : Hid (∀ w', QM (boxes w bT bO bR bP 11 a b pv) G bT bO bR bP (T.put K b).1 O (R.putR K b).1 P w' → Did w G n bT bO bR bP (.returned (.bool true)) w') := fun w' hq =>
    ⟨rfl, _, _, _, _, hboth, h2.mono (by omega), hq.before (boxes_still w bT bO bR bP 11 a b pv)⟩
  have HG := Lib.hid hG
  have HK := Lib.hid hK
  generalize (T.put K b).2 = E at *
  clear h hG h1 h2 hb e1 hboth b1 b2 b3 b4 hK ha
  go_enter Try.func25, Try.ntmps25
  go_wp2_with fail
  go_region_held3 (fun w' => w'.cell? ⟨w.heap.size, 0, none⟩ = some (.pointer (some ⟨bT, 0, none⟩)) ∧ w'.cell? ⟨w.heap.size, 2, none⟩ = some (.pointer (some ⟨bR, 0, none⟩)) ∧ w'.cell? ⟨w.heap.size + 1, 1, none⟩ = some (.int .i64 a) ∧ w'.cell? ⟨w.heap.size + 1, 2, none⟩ = some (.int .i64 b)) (go_keep)
    (first
      | (go_at_call 13; rw [HK.out]; refine (HT.out _ (Touch.refl _ _).drew).mono ?_; rintro e w2 ⟨rfl, hq⟩; obtain ⟨⟨c0, -, c2, -⟩, -, k1, k2, -⟩ := boxes_kept HG.out hq.touch; have HQ := Lib.hid hq; clear hq)
      | (go_at_call 53; refine (HR.out _ HQ.out).mono ?_; rintro e w3 ⟨rfl, hq⟩; obtain ⟨⟨d0, -, d2, -⟩, -, l1, l2, -⟩ := boxes_kept HG.out hq.touch; have HQ3 := Lib.hid hq; clear hq))
  all_goals
    go_wp2_with fail
    go_ret
    exact HFIN.out _ HQ3.out

set_option maxRecDepth 100000 in
set_option maxHeartbeats 2000000 in
theorem does_9 (h : QM w G bT bO bR bP T O R P w) (hG : ∀ k, G k → k < w.heap.size) (h1 : Both n T R) (h2 : Both n O P) (hn : n ≤ 1000) (a b : Int) (pv : Value) :
    Calls Try.prog 25 #[.agg #[.pointer (some ⟨bT, 0, none⟩), .pointer (some ⟨bO, 0, none⟩), .pointer (some ⟨bR, 0, none⟩), .pointer (some ⟨bP, 0, none⟩)], .agg #[.int .i64 9, .int .i64 a, .int .i64 b, pv]] w (Did w G n bT bO bR bP) := by
  have hb := h.base (boxes_still w bT bO bR bP 9 a b pv)
  have b1 := h1.bt.next
  have b2 := h1.bt.walks
  have b3 := h1.br.next
  have b4 := h1.br.walks
  have hok := h.okO
  have hlen : (pairsOf O.rows).length ≤ 500 := by simp only [pairsOf, List.length_map]; exact hok.few
  have hwf : ∀ p ∈ pairsOf O.rows, (Lit.int .i64 p.1).wf = true := by
    intro p hp
    obtain ⟨r, hr, rfl⟩ := List.mem_map.1 hp
    exact hok.wf r hr
  have hpp := h2.sim.pairs
  obtain ⟨e1, hboth⟩ := h1.merge h.okT hwf hlen
  have HT : Hid (∀ W, Still (boxes w bT bO bR bP 9 a b pv) W → Calls Try.prog 29 #[.pointer (some ⟨bT, 0, none⟩), .pointer (some ⟨bO, 0, none⟩)] W fun e w' => e = .returned (.int .i64 (T.merge (pairsOf O.rows)).2) ∧ QM (boxes w bT bO bR bP 9 a b pv) G bT bO bR bP (T.merge (pairsOf O.rows)).1 O R P w') := by
    intro W hW
    obtain ⟨F, ht, hm⟩ := (hb.still hW).onT
    obtain ⟨FO, ho, -⟩ := (hb.still hW).onO
    exact (f29_tab ht (by omega) (by omega) (fun w' hs => f19_tab (ho.still hs)) hlen hwf).mono fun e w' ⟨he, hmv⟩ => ⟨he, hm _ _ hmv⟩
  have HR : Hid (∀ W, QM (boxes w bT bO bR bP 9 a b pv) G bT bO bR bP (T.merge (pairsOf O.rows)).1 O R P W → Calls Try.prog 30 #[.pointer (some ⟨bR, 0, none⟩), .pointer (some ⟨bP, 0, none⟩)] W fun e w' => e = .returned (.int .i64 (T.merge (pairsOf O.rows)).2) ∧ QM (boxes w bT bO bR bP 9 a b pv) G bT bO bR bP (T.merge (pairsOf O.rows)).1 O (R.mergeR (pairsOf O.rows)).1 P w') := by
    intro W hW
    obtain ⟨F, ht, hm⟩ := hW.onR
    obtain ⟨FP, hp, -⟩ := hW.onP
    rw [e1]
    exact (f30_ref ht (by omega) (by omega) (fun w' hs => by rw [hpp]; exact f31_ref (hp.still hs)) hlen).mono fun e w' ⟨he, hmv⟩ => ⟨he, hm _ _ hmv⟩
  have HFIN : Hid (∀ w', QM (boxes w bT bO bR bP 9 a b pv) G bT bO bR bP (T.merge (pairsOf O.rows)).1 O (R.mergeR (pairsOf O.rows)).1 P w' → Did w G n bT bO bR bP (.returned (.bool true)) w') := fun w' hq =>
    ⟨rfl, _, _, _, _, hboth, h2.mono (by omega), hq.before (boxes_still w bT bO bR bP 9 a b pv)⟩
  have HG := Lib.hid hG
  generalize (T.merge (pairsOf O.rows)).2 = E at *
  clear h hG h1 h2 hb e1 hboth b1 b2 b3 b4 hok hlen hwf hpp
  go_enter Try.func25, Try.ntmps25
  go_wp2_with fail
  go_region_held3 (fun w' => w'.cell? ⟨w.heap.size, 0, none⟩ = some (.pointer (some ⟨bT, 0, none⟩)) ∧ w'.cell? ⟨w.heap.size, 1, none⟩ = some (.pointer (some ⟨bO, 0, none⟩)) ∧ w'.cell? ⟨w.heap.size, 2, none⟩ = some (.pointer (some ⟨bR, 0, none⟩)) ∧ w'.cell? ⟨w.heap.size, 3, none⟩ = some (.pointer (some ⟨bP, 0, none⟩))) (go_keep)
    (first
      | (go_at_call 29; refine (HT.out _ (Touch.refl _ _).drew).mono ?_; rintro e w2 ⟨rfl, hq⟩; obtain ⟨⟨c0, c1, c2, c3⟩, -⟩ := boxes_kept HG.out hq.touch; have HQ := Lib.hid hq; clear hq)
      | (go_at_call 30; refine (HR.out _ HQ.out).mono ?_; rintro e w3 ⟨rfl, hq⟩; obtain ⟨⟨d0, d1, d2, d3⟩, -⟩ := boxes_kept HG.out hq.touch; have HQ3 := Lib.hid hq; clear hq))
  all_goals
    go_wp2_with fail
    go_ret
    exact HFIN.out _ HQ3.out
theorem does_8_prep (h : QM w G bT bO bR bP T O R P w) (h1 : Both n T R) (h2 : Both n O P) (hn : n ≤ 1000) {qv : Value} {qs : List P2} (hq : PairsIn w qv qs) (hpG : ∀ g o l c, qv = .slice (some ⟨g, o, none⟩) l c → 0 < qs.length → ¬ G g) (a b : Int) (pv : Value) :
    (∀ W, Still (boxes w bT bO bR bP 8 a b pv) W → Calls Try.prog 27 #[.pointer (some ⟨bT, 0, none⟩), qv] W fun e w' => e = .returned (.int .i64 (T.rekey qs).2) ∧ QM (boxes w bT bO bR bP 8 a b pv) G bT bO bR bP (T.rekey qs).1 O R P w') ∧
    (∀ W, QM (boxes w bT bO bR bP 8 a b pv) G bT bO bR bP (T.rekey qs).1 O R P W → Calls Try.prog 28 #[.pointer (some ⟨bR, 0, none⟩), qv] W fun e w' => e = .returned (.int .i64 (T.rekey qs).2) ∧ QM (boxes w bT bO bR bP 8 a b pv) G bT bO bR bP (T.rekey qs).1 O (R.rekey qs).1 P w') ∧
    (∀ w', QM (boxes w bT bO bR bP 8 a b pv) G bT bO bR bP (T.rekey qs).1 O (R.rekey qs).1 P w' → Did w G n bT bO bR bP (.returned (.bool true)) w') := by
  have hb := h.base (boxes_still w bT bO bR bP 8 a b pv)
  have hqb : PairsIn (boxes w bT bO bR bP 8 a b pv) qv qs := hq.kept (boxes_still w bT bO bR bP 8 a b pv) (fun _ _ _ _ _ _ h => h)
  have b1 := h1.bt.next
  have b2 := h1.bt.walks
  have b3 := h1.br.next
  have b4 := h1.br.walks
  obtain ⟨e1, hboth⟩ := h1.rekey qs
  have hkeys := h1.sim.keys h.okT
  refine ⟨fun W hW => ?_, fun W hW => ?_, fun w' hq => ⟨rfl, _, _, _, _, hboth, h2.mono (by omega), hq.before (boxes_still w bT bO bR bP 8 a b pv)⟩⟩
  · obtain ⟨F, ht, hm⟩ := (hb.still hW).onT
    exact (f27_tab ht (by omega) (by omega) (hqb.kept hW (fun _ _ _ _ _ _ h => h))).mono fun e w' ⟨he, hmv⟩ => ⟨he, hm _ _ hmv⟩
  · obtain ⟨F, ht, hm⟩ := hW.onR
    rw [e1]
    exact (f28_ref ht hkeys (by omega) (hqb.kept hW.touch hpG)).mono fun e w' ⟨he, hmv⟩ => ⟨he, hm _ _ hmv⟩

set_option maxRecDepth 100000 in
set_option maxHeartbeats 2000000 in
theorem does_8a (h : QM w G bT bO bR bP T O R P w) (hG : ∀ k, G k → k < w.heap.size) (h1 : Both n T R) (h2 : Both n O P) (hn : n ≤ 1000) (a b : Int) {ao : Option Addr} {cap : Nat} {ps : List P2} (hp : PairsIn w (.slice ao ps.length cap) ps) (hpG : ∀ g o, ao = some ⟨g, o, none⟩ → 0 < ps.length → ¬ G g) (hle : 600 < ps.length) :
    Calls Try.prog 25 #[.agg #[.pointer (some ⟨bT, 0, none⟩), .pointer (some ⟨bO, 0, none⟩), .pointer (some ⟨bR, 0, none⟩), .pointer (some ⟨bP, 0, none⟩)], .agg #[.int .i64 8, .int .i64 a, .int .i64 b, .slice ao ps.length cap]] w (Did w G n bT bO bR bP) := by
  have hl2 := hp.len
  have hcap : ps.length ≤ cap := by
    obtain ⟨ao', cap', e, hc, _⟩ := hp.pairs.view
    simp only [Value.slice.injEq] at e
    omega
  unfold maxLen at hl2
  obtain ⟨hT, hR, hF⟩ := does_8_prep h h1 h2 hn (qv := .slice ao 600 cap) (qs := ps.take 600) (hp.take (by omega)) (fun g o l c e hz => hpG g o (by simp only [Value.slice.injEq] at e; exact e.1) (by first | exact hz | (rw [List.length_take] at hz; omega))) a b (.slice ao ps.length cap)
  have HT := Lib.hid hT
  have HR := Lib.hid hR
  have HFIN := Lib.hid hF
  have HG := Lib.hid hG
  clear hT hR hF
  generalize (T.rekey (ps.take 600)).2 = E at *
  clear h hG h1 h2 hp hpG
  go_enter Try.func25, Try.ntmps25
  go_wp2_with fail
  go_region_held3 (fun w' => w'.cell? ⟨w.heap.size, 0, none⟩ = some (.pointer (some ⟨bT, 0, none⟩)) ∧ w'.cell? ⟨w.heap.size, 2, none⟩ = some (.pointer (some ⟨bR, 0, none⟩))) (go_keep)
    (first
      | (go_at_call 27; refine (HT.out _ (Touch.refl _ _).drew).mono ?_; rintro e w2 ⟨rfl, hq⟩; obtain ⟨⟨c0, c1, c2, c3⟩, -⟩ := boxes_kept HG.out hq.touch; have HQ := Lib.hid hq; clear hq)
      | (go_at_call 28; refine (HR.out _ HQ.out).mono ?_; rintro e w3 ⟨rfl, hq⟩; obtain ⟨⟨d0, d1, d2, d3⟩, -⟩ := boxes_kept HG.out hq.touch; have HQ3 := Lib.hid hq; clear hq))
  all_goals
    go_wp2_with fail
    go_ret
    exact HFIN.out _ HQ3.out

set_option maxRecDepth 100000 in
set_option maxHeartbeats 2000000 in
theorem does_8b (h : QM w G bT bO bR bP T O R P w) (hG : ∀ k, G k → k < w.heap.size) (h1 : Both n T R) (h2 : Both n O P) (hn : n ≤ 1000) (a b : Int) {ao : Option Addr} {cap : Nat} {ps : List P2} (hp : PairsIn w (.slice ao ps.length cap) ps) (hpG : ∀ g o, ao = some ⟨g, o, none⟩ → 0 < ps.length → ¬ G g) (hle : ps.length ≤ 600) :
    Calls Try.prog 25 #[.agg #[.pointer (some ⟨bT, 0, none⟩), .pointer (some ⟨bO, 0, none⟩), .pointer (some ⟨bR, 0, none⟩), .pointer (some ⟨bP, 0, none⟩)], .agg #[.int .i64 8, .int .i64 a, .int .i64 b, .slice ao ps.length cap]] w (Did w G n bT bO bR bP) := by
  have hl2 := hp.len
  have hcap : ps.length ≤ cap := by
    obtain ⟨ao', cap', e, hc, _⟩ := hp.pairs.view
    simp only [Value.slice.injEq] at e
    omega
  unfold maxLen at hl2
  obtain ⟨hT, hR, hF⟩ := does_8_prep h h1 h2 hn (qv := .slice ao ps.length cap) (qs := ps) (hp) (fun g o l c e hz => hpG g o (by simp only [Value.slice.injEq] at e; exact e.1) (by first | exact hz | (rw [List.length_take] at hz; omega))) a b (.slice ao ps.length cap)
  have HT := Lib.hid hT
  have HR := Lib.hid hR
  have HFIN := Lib.hid hF
  have HG := Lib.hid hG
  clear hT hR hF
  generalize (T.rekey (ps)).2 = E at *
  clear h hG h1 h2 hp hpG
  go_enter Try.func25, Try.ntmps25
  go_wp2_with fail
  go_region_held3 (fun w' => w'.cell? ⟨w.heap.size, 0, none⟩ = some (.pointer (some ⟨bT, 0, none⟩)) ∧ w'.cell? ⟨w.heap.size, 2, none⟩ = some (.pointer (some ⟨bR, 0, none⟩))) (go_keep)
    (first
      | (go_at_call 27; refine (HT.out _ (Touch.refl _ _).drew).mono ?_; rintro e w2 ⟨rfl, hq⟩; obtain ⟨⟨c0, c1, c2, c3⟩, -⟩ := boxes_kept HG.out hq.touch; have HQ := Lib.hid hq; clear hq)
      | (go_at_call 28; refine (HR.out _ HQ.out).mono ?_; rintro e w3 ⟨rfl, hq⟩; obtain ⟨⟨d0, d1, d2, d3⟩, -⟩ := boxes_kept HG.out hq.touch; have HQ3 := Lib.hid hq; clear hq))
  all_goals
    go_wp2_with fail
    go_ret
    exact HFIN.out _ HQ3.out

set_option maxRecDepth 100000 in
set_option maxHeartbeats 2000000 in
theorem does_12 (h : QM w G bT bO bR bP T O R P w) (h1 : Both n T R) (h2 : Both n O P) {d a : Int} (n0 : (d == 0) = false) (n1 : (d == 1) = false) (n2 : (d == 2) = false) (n3 : (d == 3) = false) (n4 : (d == 4) = false) (n5 : (d == 5) = false) (n6 : (d == 6) = false) (n7 : (d == 7) = false) (n8 : (d == 8) = false) (n9 : (d == 9) = false) (n10 : (d == 10) = false) (n11 : (d == 11) = false) (b : Int) (pv : Value) :
    Calls Try.prog 25 #[.agg #[.pointer (some ⟨bT, 0, none⟩), .pointer (some ⟨bO, 0, none⟩), .pointer (some ⟨bR, 0, none⟩), .pointer (some ⟨bP, 0, none⟩)], .agg #[.int .i64 d, .int .i64 a, .int .i64 b, pv]] w (Did w G n bT bO bR bP) := by
  have HFIN : Hid (Did w G n bT bO bR bP (.returned (.bool true)) (boxes w bT bO bR bP d a b pv)) :=
    ⟨rfl, _, _, _, _, h1.mono (by omega), h2.mono (by omega), h.still (boxes_still w bT bO bR bP d a b pv)⟩
  clear h h1 h2
  go_enter Try.func25, Try.ntmps25
  go_wp2_with fail
  go_ret
  exact HFIN.out

/-- Every deed. -/
theorem does_any (h : QM w G bT bO bR bP T O R P w) (hG : ∀ k, G k → k < w.heap.size) (h1 : Both n T R) (h2 : Both n O P) (hn : n ≤ 1000) {x : DD} (hx : x.ok w) (hpG : ∀ g o l c, x.pv = .slice (some ⟨g, o, none⟩) l c → 0 < x.ps.length → ¬ G g) :
    Calls Try.prog 25 #[.agg #[.pointer (some ⟨bT, 0, none⟩), .pointer (some ⟨bO, 0, none⟩), .pointer (some ⟨bR, 0, none⟩), .pointer (some ⟨bP, 0, none⟩)], .agg #[.int .i64 x.d, .int .i64 x.a, .int .i64 x.b, x.pv]] w (Did w G n bT bO bR bP) := by
  obtain ⟨d, a, b, pv, ps⟩ := x
  obtain ⟨wd, wa, wb, wp⟩ := hx
  simp only at wd wa wb wp hpG ⊢
  by_cases e0 : d = 0
  · subst e0; exact does_0 h hG h1 h2 hn wa b pv
  by_cases e1 : d = 1
  · subst e1; exact does_1 h hG h1 h2 hn wa b pv
  by_cases e2 : d = 2
  · subst e2; exact does_2 h hG h1 h2 hn wa b pv
  by_cases e3 : d = 3
  · subst e3; exact does_3 h hG h1 h2 hn wa b pv
  by_cases e4 : d = 4
  · subst e4; exact does_4 h hG h1 h2 hn wa b pv
  by_cases e5 : d = 5
  · subst e5; exact does_5 h hG h1 h2 hn wa b pv
  by_cases e6 : d = 6
  · subst e6; exact does_6 h hG h1 h2 a b pv
  by_cases e7 : d = 7
  · subst e7; exact does_7 h hG h1 h2 a b pv
  by_cases e8 : d = 8
  · subst e8
    obtain ⟨ao, cap, rfl, _, _⟩ := wp.pairs.view
    by_cases hle : 600 < ps.length
    · exact does_8a h hG h1 h2 hn a b wp (fun g o e => hpG g o _ _ (by rw [e])) hle
    · exact does_8b h hG h1 h2 hn a b wp (fun g o e => hpG g o _ _ (by rw [e])) (by omega)
  by_cases e9 : d = 9
  · subst e9; exact does_9 h hG h1 h2 hn a b pv
  by_cases e10 : d = 10
  · subst e10; exact does_10 h hG h1 h2 hn wa b pv
  by_cases e11 : d = 11
  · subst e11; exact does_11 h hG h1 h2 hn a b pv
  exact does_12 h h1 h2 (by simpa using e0) (by simpa using e1) (by simpa using e2) (by simpa using e3) (by simpa using e4) (by simpa using e5) (by simpa using e6) (by simpa using e7) (by simpa using e8) (by simpa using e9) (by simpa using e10) (by simpa using e11) b pv
end

end Go.Proofs.Ytombofldebmaoaa
