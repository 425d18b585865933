/-
  Merge, in plain Lean: where it does nothing, what is there behind it, and a table merged into itself; and TableMerges, walked.
-/
import Derived.Test.YtombofldebmaoaaPairK
namespace Go.Proofs.Ytombofldebmaoaa
open Go.RowKit
set_option linter.unusedVariables false
attribute [local go_sem ↓] Go.wp_at_zero Go.wp_at_succ

theorem merge_fail {T : PT} {ps : List P2} (h : (T.merge ps).2 ≠ 0) : (T.merge ps).1 = T := by
  unfold PT.merge at h ⊢
  split
  · rfl
  · split
    · rfl
    · split
      · rfl
      · rename_i h1 h2 h3
        rw [if_neg h1, if_neg h2, if_neg h3] at h
        exact absurd rfl h

theorem find_set {rs : List R3} {i : Nat} {v : Int} (x : Int) : (setVal rs i v).findIdx? (fun r => r.1 == x) = rs.findIdx? (fun r => r.1 == x) := by
  have c : ∀ l : List R3, l.findIdx? (fun r => r.1 == x) = (l.map (fun r => (r.1, r.2.2))).findIdx? (fun p => p.1 == x) := by
    intro l
    induction l with
    | nil => rfl
    | cons y l ih => rw [List.map_cons, List.findIdx?_cons, List.findIdx?_cons, ih]
  rw [c, c, setVal_keys]

theorem find_snoc {rs : List R3} {q : R3} (x : Int) (hx : q.1 ≠ x) : (rs ++ [q]).findIdx? (fun r => r.1 == x) = rs.findIdx? (fun r => r.1 == x) := by
  rw [List.findIdx?_append]
  have : ([q] : List R3).findIdx? (fun r => r.1 == x) = none := by simp [List.findIdx?_cons, hx]
  rw [this]
  cases rs.findIdx? (fun r => r.1 == x) <;> rfl

/-- What is said of one put that goes through. -/
structure PutGood (T T1 : PT) (k v : Int) : Prop where
  frozen : T1.frozen = T.frozen
  strict : T1.strict = T.strict
  walks : T1.walks = T.walks
  here : getI T1.rows k = (v, 0)
  other : ∀ x, x ≠ k → getI T1.rows x = getI T.rows x ∧ atI T1.rows x = atI T.rows x
  len : T1.rows.length = T.rows.length + (if atI T.rows k < 0 then 1 else 0)

theorem put_good {T : PT} {k v : Int} (hf : T.frozen = false) (hs : atI T.rows k < 0 → (T.strict && decide (0 < opens T.walks)) = false ∧ T.rows.length < 500) : PutGood T (T.put k v).1 k v := by
  unfold PT.put
  rw [hf]
  simp only [Bool.false_eq_true, if_false]
  rcases atI_cases T.rows k with ⟨ha, hfi⟩ | ⟨i, r, ha, hr, hrk, hfi⟩
  · obtain ⟨h1, h2⟩ := hs (by rw [ha]; decide)
    rw [hfi]
    simp only [h1, Bool.false_eq_true, if_false]
    rw [if_neg (by omega)]
    refine ⟨hf.symm ▸ rfl, rfl, rfl, ?_, ?_, ?_⟩
    · have hn : (T.rows ++ [(k, v, (T.next : Int))]).findIdx? (fun r => r.1 == k) = some T.rows.length := by
        rw [List.findIdx?_append, hfi]
        simp [List.findIdx?_cons]
      simp [PT.add, getI, hn]
    · intro x hx
      have e := find_snoc (rs := T.rows) (q := (k, v, (T.next : Int))) x (fun h => hx h.symm)
      refine ⟨?_, by simp only [PT.add, atI, e]⟩
      simp only [PT.add, getI, e]
      cases hfx : T.rows.findIdx? (fun r => r.1 == x) with
      | none => rfl
      | some j =>
        have hj := (List.findIdx?_eq_some_iff_getElem.1 hfx).1
        simp only
        rw [List.getElem?_append_left hj]
    · rw [ha]; simp [PT.add]
  · rw [hfi]
    simp only
    refine ⟨hf.symm ▸ rfl, rfl, rfl, ?_, ?_, ?_⟩
    · simp only [getI, find_set, hfi, setVal_get, hr, Option.map_some, if_true]
    · intro x hx
      refine ⟨?_, by simp only [atI, find_set]⟩
      simp only [getI, find_set]
      cases hfx : T.rows.findIdx? (fun r => r.1 == x) with
      | none => rfl
      | some j =>
        simp only [setVal_get]
        by_cases hij : i = j
        · subst hij
          obtain ⟨hl, hp, _⟩ := List.findIdx?_eq_some_iff_getElem.1 hfx
          obtain ⟨hl2, e2⟩ := List.getElem?_eq_some_iff.1 hr
          rw [e2] at hp
          simp only [beq_iff_eq] at hp
          exact absurd (hp.symm.trans hrk) hx
        · simp only [if_neg hij]
          cases T.rows[j]? <;> rfl
    · rw [ha, setVal_length]
      have : ¬ ((i : Int) < 0) := by omega
      simp [this]

theorem freshN_cons (rs : List R3) (p : P2) (ps : List P2) : freshN rs (p :: ps) = (if atI rs p.1 < 0 then 1 else 0) + freshN rs ps := by
  unfold freshN
  rw [List.filter_cons]
  by_cases h : atI rs p.1 < 0
  · simp [h]; omega
  · simp [h]

theorem putAll_good : ∀ (ps : List P2) (T : PT), T.frozen = false → (0 < freshN T.rows ps → (T.strict && decide (0 < opens T.walks)) = false) → T.rows.length + freshN T.rows ps ≤ 500 → (keysOf ps).Nodup →
    (∀ p ∈ ps, getI (putAll T ps).rows p.1 = (p.2, 0)) ∧ (∀ x, x ∉ keysOf ps → getI (putAll T ps).rows x = getI T.rows x) ∧ (putAll T ps).frozen = false := by
  intro ps
  induction ps with
  | nil => intro T hf _ _ _; exact ⟨by simp, fun x _ => rfl, hf⟩
  | cons p ps ih =>
    intro T hf hs hl hn
    rw [freshN_cons] at hs hl
    simp only [keysOf, List.map_cons, List.nodup_cons] at hn
    have hg := put_good (T := T) (k := p.1) (v := p.2) hf (fun h => by rw [if_pos h] at hs hl; exact ⟨hs (by omega), by omega⟩)
    have hfr : freshN (T.put p.1 p.2).1.rows ps = freshN T.rows ps := by
      unfold freshN
      congr 1
      refine List.filter_congr (fun q hq => ?_)
      have hne : q.1 ≠ p.1 := fun e => hn.1 (List.mem_map.2 ⟨q, hq, e⟩)
      rw [(hg.other q.1 hne).2]
    have h := ih (T.put p.1 p.2).1 (hg.frozen.trans hf) (by rw [hfr, hg.strict, hg.walks]; exact fun h => hs (by omega)) (by rw [hfr, hg.len]; omega) hn.2
    have e : putAll T (p :: ps) = putAll (T.put p.1 p.2).1 ps := rfl
    rw [e]
    refine ⟨?_, ?_, h.2.2⟩
    · intro q hq
      rcases List.mem_cons.1 hq with rfl | hq
      · rw [h.2.1 q.1 hn.1]; exact hg.here
      · exact h.1 q hq
    · intro x hx
      simp only [keysOf, List.map_cons, List.mem_cons, not_or] at hx
      rw [h.2.1 x hx.2]
      exact (hg.other x hx.1).1

theorem merge_good {T : PT} {ps : List P2} (hn : (keysOf ps).Nodup) (h : (T.merge ps).2 = 0) : ∀ p ∈ ps, getI (T.merge ps).1.rows p.1 = (p.2, 0) := by
  unfold PT.merge at h ⊢
  split at h
  · cases h
  · rename_i h1
    rw [if_neg h1]
    split at h
    · cases h
    · rename_i h2
      rw [if_neg h2]
      split at h
      · cases h
      · rename_i h3
        rw [if_neg h3]
        refine (putAll_good ps T (by simpa using h1) (fun hp => ?_) (by omega) hn).1
        by_cases hb : (T.strict && decide (0 < opens T.walks)) = true
        · exact absurd ⟨hp, hb⟩ h2
        · simpa using hb

theorem pairsOf_nodup {T : PT} (hok : T.ok) : (keysOf (pairsOf T.rows)).Nodup := by
  have : keysOf (pairsOf T.rows) = T.rows.map (fun r => r.1) := by simp [keysOf, pairsOf]
  rw [this, List.Nodup, List.pairwise_map]
  exact hok.keys

theorem put_itself {T : PT} (hok : T.ok) (hf : T.frozen = false) {p : P2} (hp : p ∈ pairsOf T.rows) : (T.put p.1 p.2).1 = T := by
  obtain ⟨r, hr, rfl⟩ := List.mem_map.1 hp
  obtain ⟨j, hj⟩ := List.getElem?_of_mem hr
  unfold PT.put
  rw [hf]
  simp only [Bool.false_eq_true, if_false]
  rcases atI_cases T.rows r.1 with ⟨_, hfi⟩ | ⟨i, q, ha, hq, hqk, hfi⟩
  · rw [List.findIdx?_eq_none_iff] at hfi
    have := hfi r hr
    simp at this
  · rw [hfi]
    simp only
    have hij : i = j := by
      obtain ⟨l1, e1⟩ := List.getElem?_eq_some_iff.1 hq
      obtain ⟨l2, e2⟩ := List.getElem?_eq_some_iff.1 hj
      have hp := List.pairwise_iff_getElem.1 hok.keys
      rcases Nat.lt_trichotomy i j with h | h | h
      · have := hp i j l1 l2 h; rw [e1, e2] at this; exact absurd hqk this
      · exact h
      · have := hp j i l2 l1 h; rw [e1, e2] at this; exact absurd hqk.symm this
    subst hij
    have hs : Ytombofldebmaoaa.setVal T.rows i r.2.1 = T.rows := by
      apply List.ext_getElem?
      intro k
      rw [setVal_get]
      cases hk : T.rows[k]? with
      | none => rfl
      | some y =>
        by_cases h : i = k
        · subst h
          rw [hj] at hk; cases hk
          simp
        · simp [h]
    rw [hs, ← hf]

theorem putAll_own {T : PT} (hok : T.ok) (hf : T.frozen = false) : ∀ ps : List P2, (∀ p ∈ ps, p ∈ pairsOf T.rows) → putAll T ps = T := by
  intro ps
  induction ps with
  | nil => intro _; rfl
  | cons p ps ih =>
    intro h
    show putAll (T.put p.1 p.2).1 ps = T
    rw [put_itself hok hf (h p List.mem_cons_self)]
    exact ih (fun q hq => h q (List.mem_cons_of_mem _ hq))

theorem fresh_own (T : PT) : freshN T.rows (pairsOf T.rows) = 0 := by
  unfold freshN
  rw [List.length_eq_zero_iff, List.filter_eq_nil_iff]
  intro p hp
  obtain ⟨r, hr, rfl⟩ := List.mem_map.1 hp
  have := mem_atI hr
  simp; omega

/-- A table merged into itself. -/
theorem merge_own {T : PT} (hok : T.ok) : T.merge (pairsOf T.rows) = (T, if T.frozen then 13 else 0) := by
  unfold PT.merge
  cases hf : T.frozen with
  | true => rfl
  | false =>
    have h0 := hok.few
    rw [fresh_own]
    simp only [Bool.false_eq_true, if_false, Nat.lt_irrefl, false_and]
    rw [if_neg (by omega), putAll_own hok hf _ (fun p hp => hp)]

theorem merge_nil {T : PT} (hok : T.ok) : T.merge [] = (T, if T.frozen then 13 else 0) := by
  unfold PT.merge
  cases hf : T.frozen with
  | true => rfl
  | false =>
    have h0 := hok.few
    have : freshN T.rows [] = 0 := rfl
    rw [this]
    simp only [Bool.false_eq_true, if_false, Nat.lt_irrefl, false_and]
    rw [if_neg (by omega)]
    rfl

theorem merge_frozen {T : PT} (ps : List P2) (hn : (keysOf ps).Nodup) : (T.merge ps).1.frozen = T.frozen := by
  by_cases h : (T.merge ps).2 = 0
  · unfold PT.merge at h ⊢
    split at h
    · cases h
    · rename_i h1
      rw [if_neg h1]
      split at h
      · cases h
      · rename_i h2
        rw [if_neg h2]
        split at h
        · cases h
        · rename_i h3
          rw [if_neg h3]
          have hf : T.frozen = false := by simpa using h1
          rw [hf]
          refine (putAll_good ps T hf (fun hp => ?_) (by omega) hn).2.2
          by_cases hb : (T.strict && decide (0 < opens T.walks)) = true
          · exact absurd ⟨hp, hb⟩ h2
          · simpa using hb
  · rw [merge_fail h]

theorem Deeds.still {w w' : World} {v : Value} {ds : List DD} (h : Deeds w v ds) (hs : Still w w') : Deeds w' v ds := by
  refine ⟨?_, fun x hx => (h.ok x hx).still hs⟩
  obtain ⟨ao, cap, e, h1, h2, hv⟩ := h.view
  refine ⟨ao, cap, e, h1, h2, fun i x hx => ?_⟩
  obtain ⟨g, o, e2, hg, x0, x1, x2, x3⟩ := hv i x hx
  exact ⟨g, o, e2, Nat.lt_of_lt_of_le hg hs.size, (hs.cell (p := ⟨g, _, none⟩) hg (fun h => h)).trans x0, (hs.cell (p := ⟨g, _, none⟩) hg (fun h => h)).trans x1, (hs.cell (p := ⟨g, _, none⟩) hg (fun h => h)).trans x2, (hs.cell (p := ⟨g, _, none⟩) hg (fun h => h)).trans x3⟩

theorem QM.side {w0 w : World} {G : Nat → Prop} {n bT bO bR bP : Nat} {T O R P : PT} (h : QM w0 G bT bO bR bP T O R P w) (hb : Both n T R) (hn : n ≤ 1000) : Side w bT bR T R := by
  obtain ⟨F, ht, -⟩ := h.onT
  obtain ⟨F', hr, -⟩ := h.onR
  have b1 := hb.bt.next
  have b2 := hb.bt.walks
  exact ⟨⟨F, ht⟩, ⟨F', hr⟩, hb.sim, by omega, by omega⟩

/-- One side of a pair, and where it lies. -/
theorem Rest.split {w wx : World} {n bT bO bR bP : Nat} {X : Nat → Prop} (h : Rest w n bT bO bR bP X wx) : ∃ T R FT FR, Both n T R ∧ Tab wx FT bT T ∧ Ref wx FR bR R ∧ (∀ k, FT k → w.heap.size ≤ k) ∧ (∀ k, FR k → w.heap.size ≤ k) := by
  obtain ⟨T, O, R, P, G, h1, h2, h3, h4, h5⟩ := h
  obtain ⟨FT, FO, FR, FP, hT, hO, hR, hP, d1, d2, d3, hG, ht⟩ := h3
  refine ⟨T, R, FT, FR, h1, hT, hR, fun k hk => ?_, fun k hk => ?_⟩
  · rcases hG k (.inl hk) with h | h
    · exact (h4 k h).1
    · have := hT.lt k hk; omega
  · rcases hG k (.inr (.inr (.inl hk))) with h | h
    · exact (h4 k h).1
    · have := hR.lt k hk; omega

set_option maxRecDepth 100000 in
set_option maxHeartbeats 8000000 in
theorem merges_any (v : Value) (ds : List DD) (u : Value) (es : List DD) (w : World) (hd : Deeds w v ds) (he : Deeds w u es) : Calls Try.prog 9 #[v, u] w fun e w' => e = .returned (.bool true) ∧ Still w w' := by
  have H22 := Lib.hid (f22_any hd)
  have HE := Lib.hid he
  clear hd he
  go_enter Try.func9, Try.ntmps9
  go_wp2_with fail
  refine H22.out.mono ?_
  rintro e w1 ⟨bT, bO, bR, bP, rfl, hr1⟩
  have hv1 := heap_alloc_new w1 (.cells #[.pointer (some ⟨bT, 0, none⟩), .pointer (some ⟨bO, 0, none⟩), .pointer (some ⟨bR, 0, none⟩), .pointer (some ⟨bP, 0, none⟩)] 46)
  have HR1 : Hid (Rest w 100 bT bO bR bP (fun k => w1.heap.size ≤ k) (w1.alloc (.cells #[.pointer (some ⟨bT, 0, none⟩), .pointer (some ⟨bO, 0, none⟩), .pointer (some ⟨bR, 0, none⟩), .pointer (some ⟨bP, 0, none⟩)] 46))) := (hr1.beside (fun k hk => .inr (.inl hk))).still ((Touch.refl _ w1).alloc _)
  have HV1 := Lib.hid hv1
  have H22B := Lib.hid (f22_any (HE.out.still HR1.out.touch))
  clear hr1 hv1
  simp only [pairVal]
  go_wp2_with fail
  refine H22B.out.mono ?_
  rintro e w2 ⟨qT, qO, qR, qP, rfl, hr2⟩
  have hs2 := hr2.touch
  have hz2 := hs2.size
  simp at hz2
  have hv2 := heap_alloc_new w2 (.cells #[.pointer (some ⟨qT, 0, none⟩), .pointer (some ⟨qO, 0, none⟩), .pointer (some ⟨qR, 0, none⟩), .pointer (some ⟨qP, 0, none⟩)] 46)
  have hs3 : Still (w1.alloc (.cells #[.pointer (some ⟨bT, 0, none⟩), .pointer (some ⟨bO, 0, none⟩), .pointer (some ⟨bR, 0, none⟩), .pointer (some ⟨bP, 0, none⟩)] 46)) (w2.alloc (.cells #[.pointer (some ⟨qT, 0, none⟩), .pointer (some ⟨qO, 0, none⟩), .pointer (some ⟨qR, 0, none⟩), .pointer (some ⟨qP, 0, none⟩)] 46)) := hs2.alloc _
  have hv13 := hs3.keeps HV1.out (fun h => h)
  obtain ⟨Tq, Rq, FTq, FRq, hbq, htq, hrq, hfq1, hfq2⟩ := (hr2.still ((Touch.refl _ w2).alloc (.cells #[.pointer (some ⟨qT, 0, none⟩), .pointer (some ⟨qO, 0, none⟩), .pointer (some ⟨qR, 0, none⟩), .pointer (some ⟨qP, 0, none⟩)] 46))).split
  obtain ⟨T, O, R, P, G, hb1, hb2, hqm, hG, hst3⟩ := HR1.out.still hs3
  have hGlt : ∀ k, G k → w.heap.size ≤ k ∧ k < w1.heap.size := fun k hk => ⟨(hG k hk).1, by have := (hG k hk).2.2; omega⟩
  have HG := Lib.hid hGlt
  have HV2 := Lib.hid hv2
  have HV13 := Lib.hid hv13
  have HTQ := Lib.hid htq
  have HRQ := Lib.hid hrq
  have HFQ : Hid ((∀ k, FTq k → ¬ G k) ∧ (∀ k, FRq k → ¬ G k)) := ⟨fun k hk h => by have a := hfq1 k hk; have b := (hGlt k h).2; simp at a; omega, fun k hk h => by have a := hfq2 k hk; have b := (hGlt k h).2; simp at a; omega⟩
  have HBQ := Lib.hid hbq
  have HB1 := Lib.hid hb1
  have HQM := Lib.hid hqm
  have HST3 := Lib.hid hst3
  obtain ⟨Ft, ht3, -⟩ := hqm.onT
  have H19 := Lib.hid (f19_tab ht3)
  have c0 := blk_c hv13 0 _ rfl
  have c1 := blk_c hv13 1 _ rfl
  have c2 := blk_c hv13 2 _ rfl
  have c3 := blk_c hv13 3 _ rfl
  have hok := ht3.ok
  have HOK := Lib.hid hok
  have k1 := hb1.bt.next
  have k2 := hb1.bt.walks
  have k3 := hb1.br.next
  have k4 := hb1.br.walks
  have l1 := hbq.bt.next
  have l2 := hbq.bt.walks
  have hokq := htq.ok
  have HOKQ := Lib.hid hokq
  obtain ⟨ps, hps⟩ : ∃ ps, pairsOf Tq.rows = ps := ⟨_, rfl⟩
  have hpl : ps.length ≤ 500 := by rw [← hps]; simp only [pairsOf, List.length_map]; exact hokq.few
  have hpw : ∀ p ∈ ps, (Lit.int .i64 p.1).wf = true := by
    rw [← hps]
    intro p hp
    obtain ⟨r, hr, rfl⟩ := List.mem_map.1 hp
    exact hokq.wf r hr
  have hpn : (keysOf ps).Nodup := by rw [← hps]; exact pairsOf_nodup hokq
  have hpr : pairsOf Rq.rows = ps := by rw [← hps]; exact hbq.sim.pairs.symm
  obtain ⟨em, hbm⟩ := hb1.merge hok hpw hpl
  have m1 := hbm.bt.next
  have m2 := hbm.bt.walks
  have HEM := Lib.hid em
  have HB2 := Lib.hid hbm
  have HPS := Lib.hid hps
  have HPW := Lib.hid hpw
  have HPN := Lib.hid hpn
  have HPR := Lib.hid hpr
  have hok2 : Hid (∀ F W, Tab W F bT (T.merge ps).1 → (T.merge ps).1.ok) := fun F W h => h.ok
  have hvlt := World.lt_of_heap hv13
  simp only [pairVal]
  clear hr2 hs2 hv2 hs3 hv13 hbq htq hrq hfq1 hfq2 hG hGlt hb1 hb2 hqm hst3 ht3 hok hokq hps hpw hpn hpr em hbm
  go_wp2_with fail
  refine H19.out.mono ?_
  rintro e w4 ⟨wv, rfl, hp4, hn4, hs4⟩
  have HP4 := Lib.hid hp4
  have HN4 := Lib.hid hn4
  have HQ4 := Lib.hid (HQM.out.base hs4)
  have HST4 := Lib.hid (HST3.out.then hs4)
  have HTQ4 := Lib.hid (HTQ.out.still hs4)
  have HRQ4 := Lib.hid (HRQ.out.still hs4)
  have hv4 := hs4.keeps HV13.out (fun h => h)
  have hv24 := hs4.keeps HV2.out (fun h => h)
  have hsz4 := hs4.size
  have HCE : Hid (∀ W, Touch G w4 W → W.cell? ⟨w1.heap.size, 0, none⟩ = some (.pointer (some ⟨bT, 0, none⟩)) ∧ W.cell? ⟨w1.heap.size, 1, none⟩ = some (.pointer (some ⟨bO, 0, none⟩)) ∧ W.cell? ⟨w1.heap.size, 2, none⟩ = some (.pointer (some ⟨bR, 0, none⟩)) ∧ W.cell? ⟨w1.heap.size, 3, none⟩ = some (.pointer (some ⟨bP, 0, none⟩)) ∧ W.cell? ⟨w2.heap.size, 0, none⟩ = some (.pointer (some ⟨qT, 0, none⟩)) ∧ W.cell? ⟨w2.heap.size, 1, none⟩ = some (.pointer (some ⟨qO, 0, none⟩)) ∧ W.cell? ⟨w2.heap.size, 2, none⟩ = some (.pointer (some ⟨qR, 0, none⟩)) ∧ W.cell? ⟨w2.heap.size, 3, none⟩ = some (.pointer (some ⟨qP, 0, none⟩))) := by
    show ∀ W, _ → _
    intro W hW
    have a1 := hW.keeps hv4 (fun h => by have := (HG.out _ h).2; omega)
    have a2 := hW.keeps hv24 (fun h => by have := (HG.out _ h).2; omega)
    exact ⟨blk_c a1 0 _ rfl, blk_c a1 1 _ rfl, blk_c a1 2 _ rfl, blk_c a1 3 _ rfl, blk_c a2 0 _ rfl, blk_c a2 1 _ rfl, blk_c a2 2 _ rfl, blk_c a2 3 _ rfl⟩
  obtain ⟨d0, d1, d2, d3, d4, d5, d6, d7⟩ := HCE.out w4 (Touch.refl _ _)
  have H29 : Hid (Calls Try.prog 29 #[.pointer (some ⟨bT, 0, none⟩), .pointer (some ⟨qT, 0, none⟩)] w4 fun e w' => e = .returned (.int .i64 (T.merge ps).2) ∧ QM w4 G bT bO bR bP (T.merge ps).1 O R P w') := by
    show Calls _ _ _ _ _
    obtain ⟨F, ht, hm⟩ := HQ4.out.onT
    exact (f29_tab ht (by omega) (by omega) (fun w' hs => by rw [← HPS.out]; exact f19_tab (HTQ4.out.still hs)) hpl HPW.out).mono fun e w' ⟨he, hmv⟩ => ⟨he, hm _ _ hmv⟩
  have H30 : Hid (∀ W, QM w4 G bT bO bR bP (T.merge ps).1 O R P W → Calls Try.prog 30 #[.pointer (some ⟨bR, 0, none⟩), .pointer (some ⟨qR, 0, none⟩)] W fun e w' => e = .returned (.int .i64 (T.merge ps).2) ∧ QM w4 G bT bO bR bP (T.merge ps).1 O (R.mergeR ps).1 P w') := by
    show ∀ W, _ → _
    intro W hW
    obtain ⟨F, ht, hm⟩ := hW.onR
    rw [HEM.out]
    exact (f30_ref ht (by omega) (by omega) (fun w' hs => by rw [← HPR.out]; exact f31_ref ((HRQ4.out.kept hW.touch HFQ.out.2).still hs)) hpl).mono fun e w' ⟨he, hmv⟩ => ⟨he, hm _ _ hmv⟩
  clear hp4 hn4 hs4 hv4 hv24
  obtain ⟨E, hE⟩ : ∃ E, (T.merge ps).2 = E := ⟨_, rfl⟩
  rw [hE] at H29 H30
  have HEE := Lib.hid hE
  clear hE
  go_wp2_with fail
  refine H29.out.mono ?_
  rintro e w5 ⟨rfl, hq5⟩
  obtain ⟨e0, e1, e2, e3, e4, e5, e6, e7⟩ := HCE.out w5 hq5.touch
  have HQ5 := Lib.hid hq5
  clear hq5
  go_wp2_with fail
  refine (H30.out _ HQ5.out).mono ?_
  rintro e w6 ⟨rfl, hq6⟩
  obtain ⟨f0, f1, f2, f3, f4, f5, f6, f7⟩ := HCE.out w6 hq6.touch
  have H26A := Lib.hid (f26_any (bO := bO) (bP := bP) (hq6.side HB2.out (by omega)) (key := 0) rfl)
  have HQ6 := Lib.hid hq6
  clear hq6
  go_wp2_with fail
  refine H26A.out.mono ?_
  rintro e w7 ⟨rfl, hs7⟩
  have HQ7 := Lib.hid (HQ6.out.still hs7)
  obtain ⟨g0, g1, g2, g3, g4, g5, g6, g7⟩ := HCE.out w7 HQ7.out.touch
  clear hs7
  have H26B := Lib.hid (f26_any (bO := qO) (bP := qP) (w := w7) (bT := qT) (bR := qR) (T := Tq) (R := Rq) ⟨⟨_, HTQ4.out.kept HQ7.out.touch HFQ.out.1⟩, ⟨_, HRQ4.out.kept HQ7.out.touch HFQ.out.2⟩, HBQ.out.sim, by omega, by omega⟩ (key := 0) rfl)
  go_wp2_with fail
  refine H26B.out.mono ?_
  rintro e w8 ⟨rfl, hs8⟩
  have HQ8 := Lib.hid (HQ7.out.still hs8)
  obtain ⟨h0, h1, h2, h3, h4, h5, h6, h7⟩ := HCE.out w8 HQ8.out.touch
  clear hs8
  have H31 : Hid (∀ W, Still w8 W → Calls Try.prog 31 #[.pointer (some ⟨qR, 0, none⟩)] W (NewPairs W ps)) := by
    show ∀ W, _ → _
    intro W hW
    rw [← HPR.out]
    exact f31_ref ((HRQ4.out.kept HQ8.out.touch HFQ.out.2).still hW)
  by_cases hE0 : E = 0
  · have HGOOD : Hid (∀ p ∈ ps, getI (T.merge ps).1.rows p.1 = (p.2, 0)) := merge_good HPN.out (HEE.out.trans hE0)
    subst hE0
    go_wp2_with fail
    refine (H31.out _ (Touch.refl _ _)).mono ?_
    rintro e w9 ⟨lv, rfl, hp9, hn9, hs9⟩
    obtain ⟨al, capl, hlv, _⟩ := hp9.view
    subst hlv
    have HP9 := Lib.hid hp9
    have HS9 := Lib.hid hs9
    clear hp9 hn9 hs9
    have hpl3 : ps.length ≤ 500 := hpl
    go_wp2_with fail
    go_loopw [13] (fun i wx => ∃ q : Nat, q ≤ ps.length ∧ i = .int .i64 q ∧ Hid (Still w9 wx)) (fun i _ => ps.length - (intOf i).toNat)
    case atStart => exact ⟨0, by omega, rfl, Touch.refl _ _⟩
    case round =>
      obtain ⟨q, hq, rfl, HSQ⟩ := hrel
      by_cases hlt : q < ps.length
      · obtain ⟨p, hp⟩ : ∃ p, ps[q]? = some p := ⟨ps[q], by simp [hlt]⟩
        obtain ⟨g, o, cap, e, _, hg, hcs⟩ := HP9.out.at (S := fun _ => False) hp
        simp only [Value.slice.injEq] at e
        obtain ⟨rfl, -, rfl⟩ := e
        have HCS := Lib.hid hcs
        have hq10 : QM w4 G bT bO bR bP (T.merge ps).1 O (R.mergeR ps).1 P wr := (HQ8.out.still HS9.out).still HSQ.out
        obtain ⟨F, ht, -⟩ := hq10.onT
        have h20 := fun W hW => f20_tab (w := W) (ht.still hW) (by omega) (HPW.out p (List.mem_of_getElem? hp))
        rw [HGOOD.out p (List.mem_of_getElem? hp)] at h20
        have H20 := Lib.hid h20
        obtain ⟨x0, x1⟩ := hcs wr HSQ.out (fun h => h)
        obtain ⟨b0, b1, b2, b3, -⟩ := HCE.out wr hq10.touch
        have HQ10 := Lib.hid hq10
        have hi0 : (0 : Int) ≤ (q : Int) := by omega
        have hi1 : (q : Int) < (ps.length : Int) := by omega
        clear hcs hp h20 ht hq10
        go_wp2_with fail
        go_region_held3 (fun w' => w'.cell? ⟨w1.heap.size, 0, none⟩ = some (.pointer (some ⟨bT, 0, none⟩)) ∧ w'.cell? ⟨g, o + q * 2, none⟩ = some (.int .i64 p.1)) (go_keep)
          ((go_at_call 20; refine (H20.out _ (Touch.refl _ _).drew).mono ?_; rintro e w10 ⟨rfl, hs10⟩; have HS10 : Hid (Still wr w10) := (Touch.refl (fun _ => False) wr).drew.then hs10; obtain ⟨y0, y1⟩ := HCS.out w10 (HSQ.out.then HS10.out) (fun h => h); obtain ⟨z0, -⟩ := HCE.out w10 (HQ10.out.still HS10.out).touch; clear hs10))
        all_goals
          go_wp2_with fail
          go_roundw
          case rel => exact ⟨q + 1, by omega, by go_num, HSQ.out.then HS10.out⟩
          case measure => simp [intOf]; omega
      · have HSX : Hid (Still w8 wr) := HS9.out.then HSQ.out
        have HS10 : Hid (QM w4 G bT bO bR bP (T.merge ps).1 O (R.mergeR ps).1 P wr) := HQ8.out.still HSX.out
        obtain ⟨F10, ht10, hm10⟩ := HS10.out.onT
        have h29a := f29_tab (q := .pointer (some ⟨bT, 0, none⟩)) ht10 (by omega) (by omega) (fun w' hs => f19_tab (ht10.still hs)) (by simp only [pairsOf, List.length_map]; exact ht10.ok.few) (fun p hp => by obtain ⟨r, hr, rfl⟩ := List.mem_map.1 hp; exact ht10.ok.wf r hr)
        rw [merge_own ht10.ok] at h29a
        have H29A : Hid (Calls Try.prog 29 #[.pointer (some ⟨bT, 0, none⟩), .pointer (some ⟨bT, 0, none⟩)] wr fun e w' => e = .returned (.int .i64 (if (T.merge ps).1.frozen then 13 else 0)) ∧ QM w4 G bT bO bR bP (T.merge ps).1 O (R.mergeR ps).1 P w') := h29a.mono fun e w' ⟨he, hmv⟩ => ⟨he, hm10 _ _ hmv⟩
        have H29B : Hid (∀ W, QM w4 G bT bO bR bP (T.merge ps).1 O (R.mergeR ps).1 P W → Calls Try.prog 29 #[.pointer (some ⟨bT, 0, none⟩), .pointer none] W fun e w' => e = .returned (.int .i64 (if (T.merge ps).1.frozen then 13 else 0)) ∧ QM w4 G bT bO bR bP (T.merge ps).1 O (R.mergeR ps).1 P w') := by
          show ∀ W, _ → _
          intro W hW
          obtain ⟨F, ht, hm⟩ := hW.onT
          have h := f29_tab (q := .pointer none) ht (by omega) (by omega) (ps := []) (fun w' hs => f19_nil w') (by simp) (by simp)
          rw [merge_nil ht.ok] at h
          exact h.mono fun e w' ⟨he, hmv⟩ => ⟨he, hm _ _ hmv⟩
        have HFZ : Hid (∀ W, QM w4 G bT bO bR bP (T.merge ps).1 O (R.mergeR ps).1 P W → W.cell? ⟨bR, 2, none⟩ = some (.bool (T.merge ps).1.frozen)) := by
          show ∀ W, _ → _
          intro W hW
          obtain ⟨F, ⟨rv, kv, hr⟩, -⟩ := hW.onR
          rw [HB2.out.sim.frozen]
          exact hr.c2
        clear h29a ht10 hm10
        obtain ⟨FZ, hFZ⟩ : ∃ FZ, (T.merge ps).1.frozen = FZ := ⟨_, rfl⟩
        rw [hFZ] at H29A H29B HFZ
        clear hFZ
        obtain ⟨b0, b1, b2, b3, -⟩ := HCE.out wr HS10.out.touch
        cases FZ
        all_goals
          go_wp2_with fail
          refine H29A.out.mono ?_
          rintro e w11 ⟨rfl, hq11⟩
          obtain ⟨g0, g1, g2, g3, -⟩ := HCE.out w11 hq11.touch
          have HQ11 := Lib.hid hq11
          clear hq11
          go_wp2_with fail
          refine (H29B.out _ HQ11.out).mono ?_
          rintro e w12 ⟨rfl, hq12⟩
          obtain ⟨h0, h1, h2, h3, -⟩ := HCE.out w12 hq12.touch
          have hfz := HFZ.out w12 hq12
          have HQ12 := Lib.hid hq12
          clear hq12
          have H26C := Lib.hid (f26_any (bO := bO) (bP := bP) (HQ12.out.side HB2.out (by omega)) (key := 0) rfl)
          go_wp2_with fail
          refine H26C.out.mono ?_
          rintro e w13 ⟨rfl, hs13⟩
          have HQ13 := Lib.hid (HQ12.out.still hs13)
          clear hs13
          go_wp2_with fail
          refine (sane_any _).mono ?_
          rintro e w14 ⟨rfl, hs14⟩
          have HS14 : Hid (Still w w14) := (HST4.out.trans HQ13.out.touch (fun k hk => .inr (HG.out k hk).1)).then hs14
          clear hs14
          go_wp2_with fail
          go_ret
          exact ⟨rfl, HS14.out⟩
  · have hfail : (T.merge ps).1 = T := merge_fail (by rw [HEE.out]; exact hE0)
    have hbE : ((E : Int) != 0) = true := by simp [hE0]
    have hbE2 : ((E : Int) == 0) = false := by simp [hE0]
    have H19B : Hid (Calls Try.prog 19 #[.pointer (some ⟨bT, 0, none⟩)] w8 (NewPairs w8 (pairsOf T.rows))) := by
      show Calls _ _ _ _ _
      obtain ⟨F, ht, -⟩ := HQ8.out.onT
      rw [hfail] at ht
      exact f19_tab ht
    have hlT : (pairsOf T.rows).length ≤ 500 := by simp only [pairsOf, List.length_map]; exact HOK.out.few
    clear hfail hE0
    go_wp2_with fail
    refine H19B.out.mono ?_
    rintro e w9 ⟨nv, rfl, hp9, hn9, hs9⟩
    have HP9 := Lib.hid hp9
    have HS9 := Lib.hid hs9
    have HPW9 : Hid (Pairs w9 wv (pairsOf T.rows)) := (HP4.out.kept HQ8.out.touch (fun g o l c h hGg => by have := HN4.out g o l c h; have := (HG.out g hGg).2; simp at *; omega)).still hs9
    clear hp9 hn9 hs9
    go_wp2_with fail
    refine (f18_any HP9.out HPW9.out (by omega) (by omega)).mono ?_
    rintro e wa ⟨rfl, hsa⟩
    have hdec : decide (pairsOf T.rows = pairsOf T.rows) = true := by simp
    rw [hdec]
    have HSA := Lib.hid (HS9.out.then hsa)
    obtain ⟨a0, a1, a2, a3, a4, a5, a6, a7⟩ := HCE.out wa (HQ8.out.still HSA.out).touch
    clear hsa hdec
    go_wp2_with fail
    refine (H31.out _ HSA.out).mono ?_
    rintro e wb ⟨lv, rfl, hpb, hnb, hsb⟩
    obtain ⟨al, capl, hlv, _⟩ := hpb.view
    subst hlv
    have HSB := Lib.hid (HSA.out.then hsb)
    clear hpb hnb hsb
    have hcase : (¬ 0 < ps.length) ∨ 0 < ps.length := by omega
    go_wp2_with fail
    go_loopw [13] (fun i wx => i = .int .i64 0 ∧ Hid (Still wb wx)) (fun i _ => 0)
    case atStart => exact ⟨rfl, Touch.refl _ _⟩
    case round =>
      obtain ⟨rfl, HSQ⟩ := hrel
      have HSX : Hid (Still w8 wr) := HSB.out.then HSQ.out
      rcases hcase with hlt | hlt
      all_goals
        have HS10 : Hid (QM w4 G bT bO bR bP (T.merge ps).1 O (R.mergeR ps).1 P wr) := HQ8.out.still HSX.out
        obtain ⟨F10, ht10, hm10⟩ := HS10.out.onT
        have h29a := f29_tab (q := .pointer (some ⟨bT, 0, none⟩)) ht10 (by omega) (by omega) (fun w' hs => f19_tab (ht10.still hs)) (by simp only [pairsOf, List.length_map]; exact ht10.ok.few) (fun p hp => by obtain ⟨r, hr, rfl⟩ := List.mem_map.1 hp; exact ht10.ok.wf r hr)
        rw [merge_own ht10.ok] at h29a
        have H29A : Hid (Calls Try.prog 29 #[.pointer (some ⟨bT, 0, none⟩), .pointer (some ⟨bT, 0, none⟩)] wr fun e w' => e = .returned (.int .i64 (if (T.merge ps).1.frozen then 13 else 0)) ∧ QM w4 G bT bO bR bP (T.merge ps).1 O (R.mergeR ps).1 P w') := h29a.mono fun e w' ⟨he, hmv⟩ => ⟨he, hm10 _ _ hmv⟩
        have H29B : Hid (∀ W, QM w4 G bT bO bR bP (T.merge ps).1 O (R.mergeR ps).1 P W → Calls Try.prog 29 #[.pointer (some ⟨bT, 0, none⟩), .pointer none] W fun e w' => e = .returned (.int .i64 (if (T.merge ps).1.frozen then 13 else 0)) ∧ QM w4 G bT bO bR bP (T.merge ps).1 O (R.mergeR ps).1 P w') := by
          show ∀ W, _ → _
          intro W hW
          obtain ⟨F, ht, hm⟩ := hW.onT
          have h := f29_tab (q := .pointer none) ht (by omega) (by omega) (ps := []) (fun w' hs => f19_nil w') (by simp) (by simp)
          rw [merge_nil ht.ok] at h
          exact h.mono fun e w' ⟨he, hmv⟩ => ⟨he, hm _ _ hmv⟩
        have HFZ : Hid (∀ W, QM w4 G bT bO bR bP (T.merge ps).1 O (R.mergeR ps).1 P W → W.cell? ⟨bR, 2, none⟩ = some (.bool (T.merge ps).1.frozen)) := by
          show ∀ W, _ → _
          intro W hW
          obtain ⟨F, ⟨rv, kv, hr⟩, -⟩ := hW.onR
          rw [HB2.out.sim.frozen]
          exact hr.c2
        clear h29a ht10 hm10
        obtain ⟨FZ, hFZ⟩ : ∃ FZ, (T.merge ps).1.frozen = FZ := ⟨_, rfl⟩
        rw [hFZ] at H29A H29B HFZ
        clear hFZ
        obtain ⟨b0, b1, b2, b3, -⟩ := HCE.out wr HS10.out.touch
        cases FZ
        all_goals
          go_wp2_with fail
          refine H29A.out.mono ?_
          rintro e w11 ⟨rfl, hq11⟩
          obtain ⟨g0, g1, g2, g3, -⟩ := HCE.out w11 hq11.touch
          have HQ11 := Lib.hid hq11
          clear hq11
          go_wp2_with fail
          refine (H29B.out _ HQ11.out).mono ?_
          rintro e w12 ⟨rfl, hq12⟩
          obtain ⟨h0, h1, h2, h3, -⟩ := HCE.out w12 hq12.touch
          have hfz := HFZ.out w12 hq12
          have HQ12 := Lib.hid hq12
          clear hq12
          have H26C := Lib.hid (f26_any (bO := bO) (bP := bP) (HQ12.out.side HB2.out (by omega)) (key := 0) rfl)
          go_wp2_with fail
          refine H26C.out.mono ?_
          rintro e w13 ⟨rfl, hs13⟩
          have HQ13 := Lib.hid (HQ12.out.still hs13)
          clear hs13
          go_wp2_with fail
          refine (sane_any _).mono ?_
          rintro e w14 ⟨rfl, hs14⟩
          have HS14 : Hid (Still w w14) := (HST4.out.trans HQ13.out.touch (fun k hk => .inr (HG.out k hk).1)).then hs14
          clear hs14
          go_wp2_with fail
          go_ret
          exact ⟨rfl, HS14.out⟩

end Go.Proofs.Ytombofldebmaoaa
