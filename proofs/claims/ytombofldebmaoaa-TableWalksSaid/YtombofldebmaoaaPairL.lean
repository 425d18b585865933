/-
  TableWalks: a walk while values are changed, in plain Lean; and the law, walked.
-/
import Derived.Test.YtombofldebmaoaaPairK
namespace Go.Proofs.Ytombofldebmaoaa
open Go.RowKit
set_option linter.unusedVariables false

/-- The first i rows have the value v. -/
def wrote (fz : Bool) (v : Int) (rs : List R3) (i : Nat) : List R3 := if fz then rs else rs.mapIdx (fun j r => if j < i then (r.1, v, r.2.2) else r)

theorem wrote_get (fz : Bool) (v : Int) (rs : List R3) (i j : Nat) : (wrote fz v rs i)[j]? = (rs[j]?).map (fun r => if j < i ∧ fz = false then (r.1, v, r.2.2) else r) := by
  unfold wrote
  cases fz with
  | true => simp
  | false =>
    simp only [Bool.false_eq_true, if_false, List.getElem?_mapIdx, and_true]

theorem wrote_length (fz : Bool) (v : Int) (rs : List R3) (i : Nat) : (wrote fz v rs i).length = rs.length := by
  unfold wrote
  split <;> simp

theorem wrote_zero (fz : Bool) (v : Int) (rs : List R3) : wrote fz v rs 0 = rs := by
  apply List.ext_getElem?
  intro j
  rw [wrote_get]
  cases rs[j]? <;> simp

/-- Keys and numbers stay. -/
theorem wrote_kn {fz : Bool} {v : Int} {rs : List R3} {i j : Nat} {q : R3} (h : (wrote fz v rs i)[j]? = some q) : ∃ r, rs[j]? = some r ∧ q.1 = r.1 ∧ q.2.2 = r.2.2 := by
  rw [wrote_get] at h
  obtain ⟨r, hr, rfl⟩ := Option.map_eq_some_iff.1 h
  exact ⟨r, hr, by split <;> rfl, by split <;> rfl⟩

def wst (T : PT) (v : Int) (i : Nat) (b : Int) (o : Bool) : PT := { T with rows := wrote T.frozen v T.rows i, walks := T.walks ++ [(b, o)] }

def stand (rs : List R3) (i : Nat) : Int := match i with | 0 => -1 | i + 1 => match rs[i]? with | some r => r.2.2 | none => -1

section
variable {T : PT} (hok : T.ok)
include hok

theorem find_next {v : Int} {i : Nat} {r : R3} (hr : T.rows[i]? = some r) : (wrote T.frozen v T.rows i).findIdx? (fun q => decide (stand T.rows i < q.2.2)) = some i := by
  have hl : i < T.rows.length := (List.getElem?_eq_some_iff.1 hr).1
  rw [List.findIdx?_eq_some_iff_getElem]
  refine ⟨by rw [wrote_length]; exact hl, ?_, ?_⟩
  · obtain ⟨r', hr', _, e⟩ := wrote_kn (List.getElem?_eq_getElem (l := wrote T.frozen v T.rows i) (i := i) (by rw [wrote_length]; exact hl))
    rw [hr] at hr'
    cases hr'
    simp only [decide_eq_true_eq, e]
    cases i with
    | zero => have := (hok.nums r (List.mem_of_getElem? hr)).1; simp only [stand]; omega
    | succ i =>
      obtain ⟨q, hq⟩ : ∃ q, T.rows[i]? = some q := ⟨T.rows[i]'(by omega), by rw [List.getElem?_eq_getElem]⟩
      simp only [stand, hq]
      exact sorted_get hok.sorted hq hr (by omega)
  · intro j hj
    obtain ⟨r', hr', _, e⟩ := wrote_kn (List.getElem?_eq_getElem (l := wrote T.frozen v T.rows i) (i := j) (by rw [wrote_length]; omega))
    simp only [decide_eq_true_eq, e]
    cases i with
    | zero => omega
    | succ i =>
      obtain ⟨q, hq⟩ : ∃ q, T.rows[i]? = some q := ⟨T.rows[i]'(by omega), by rw [List.getElem?_eq_getElem]⟩
      simp only [stand, hq]
      rcases Nat.lt_or_ge j i with h | h
      · have := sorted_get hok.sorted hr' hq h; omega
      · have : j = i := by omega
        subst this
        rw [hq] at hr'; cases hr'; omega

theorem find_end {v : Int} : (wrote T.frozen v T.rows T.rows.length).findIdx? (fun q => decide (stand T.rows T.rows.length < q.2.2)) = none := by
  rw [List.findIdx?_eq_none_iff]
  intro q hq
  obtain ⟨j, hj⟩ := List.getElem?_of_mem hq
  obtain ⟨r, hr, _, e⟩ := wrote_kn hj
  have hjl : j < T.rows.length := (List.getElem?_eq_some_iff.1 hr).1
  simp only [decide_eq_false_iff_not, e]
  generalize hN : T.rows.length = N at *
  cases N with
  | zero => omega
  | succ n =>
    obtain ⟨p, hp⟩ : ∃ p, T.rows[n]? = some p := ⟨T.rows[n]'(by omega), by rw [List.getElem?_eq_getElem]⟩
    simp only [stand, hp]
    rcases Nat.lt_or_ge j n with h | h
    · have := sorted_get hok.sorted hr hp h; omega
    · have : j = n := by omega
      subst this
      rw [hp] at hr; cases hr; omega

omit hok in
theorem under_last (ks : List W2) (b : Int) (o : Bool) : underB (ks ++ [(b, o)]) (ks.length : Int) = !o := by
  have h0 : ¬ ((ks.length : Int) < 0) := by omega
  simp [underB, h0]

theorem wst_next {v : Int} {i : Nat} {r : R3} (hr : T.rows[i]? = some r) : nextW (wst T v i (stand T.rows i) false) (T.walks.length : Int) = (T.walks ++ [(r.2.2, false)], (r.1, r.2.1, 0)) := by
  unfold nextW
  have hu : underB (wst T v i (stand T.rows i) false).walks (T.walks.length : Int) = true := by simp only [wst]; rw [under_last]; rfl
  rw [if_pos hu]
  have hw : (wst T v i (stand T.rows i) false).walks[(T.walks.length : Int).toNat]? = some (stand T.rows i, false) := by simp [wst]
  rw [hw]
  have hf : (wst T v i (stand T.rows i) false).rows.findIdx? (fun q => decide (stand T.rows i < q.2.2)) = some i := find_next hok hr
  simp only [hf]
  have hg : (wst T v i (stand T.rows i) false).rows[i]? = some r := by
    show (wrote T.frozen v T.rows i)[i]? = some r
    rw [wrote_get, hr]
    simp
  simp only [hg]
  simp [wst]

theorem wst_end (v : Int) : nextW (wst T v T.rows.length (stand T.rows T.rows.length) false) (T.walks.length : Int) = (T.walks ++ [(stand T.rows T.rows.length, true)], (0, 0, 14)) := by
  unfold nextW
  have hu : underB (wst T v T.rows.length (stand T.rows T.rows.length) false).walks (T.walks.length : Int) = true := by simp only [wst]; rw [under_last]; rfl
  rw [if_pos hu]
  have hw : (wst T v T.rows.length (stand T.rows T.rows.length) false).walks[(T.walks.length : Int).toNat]? = some (stand T.rows T.rows.length, false) := by simp [wst]
  rw [hw]
  have hf : (wst T v T.rows.length (stand T.rows T.rows.length) false).rows.findIdx? (fun q => decide (stand T.rows T.rows.length < q.2.2)) = none := find_end hok
  simp only [hf]
  simp [wst]

omit hok in
theorem wst_over (v : Int) (i : Nat) (b : Int) : nextW (wst T v i b true) (T.walks.length : Int) = (T.walks ++ [(b, true)], (0, 0, 1)) := by
  unfold nextW
  have hu : underB (wst T v i b true).walks (T.walks.length : Int) = false := by simp only [wst]; rw [under_last]; rfl
  rw [hu]
  rfl

omit hok in
theorem wst_stop (v : Int) (i : Nat) (b : Int) : stopW (wst T v i b true).walks (T.walks.length : Int) = (T.walks ++ [(b, true)], 1) := by
  unfold stopW
  have hu : underB (wst T v i b true).walks (T.walks.length : Int) = false := by simp only [wst]; rw [under_last]; rfl
  rw [hu]
  rfl

theorem wst_put {v : Int} {i : Nat} {r : R3} (hfz : T.frozen = false) (hr : T.rows[i]? = some r) : (wst T v i r.2.2 false).put r.1 v = (wst T v (i + 1) r.2.2 false, 0) := by
  have hl : i < T.rows.length := (List.getElem?_eq_some_iff.1 hr).1
  unfold PT.put
  have h0 : (wst T v i r.2.2 false).frozen = false := hfz
  rw [h0]
  simp only [Bool.false_eq_true, if_false]
  have hf : (wst T v i r.2.2 false).rows.findIdx? (fun q => q.1 == r.1) = some i := by
    show (wrote T.frozen v T.rows i).findIdx? _ = _
    rw [List.findIdx?_eq_some_iff_getElem]
    refine ⟨by rw [wrote_length]; exact hl, ?_, ?_⟩
    · obtain ⟨r', hr', e, _⟩ := wrote_kn (List.getElem?_eq_getElem (l := wrote T.frozen v T.rows i) (i := i) (by rw [wrote_length]; exact hl))
      rw [hr] at hr'; cases hr'
      simp [e]
    · intro j hj
      obtain ⟨r', hr', e, _⟩ := wrote_kn (List.getElem?_eq_getElem (l := wrote T.frozen v T.rows i) (i := j) (by rw [wrote_length]; omega))
      obtain ⟨l1, e1⟩ := List.getElem?_eq_some_iff.1 hr'
      obtain ⟨l2, e2⟩ := List.getElem?_eq_some_iff.1 hr
      have := (List.pairwise_iff_getElem.1 hok.keys) j i l1 l2 hj
      rw [e1, e2] at this
      simp [e, this]
  rw [hf]
  simp only
  have hs : Ytombofldebmaoaa.setVal (wst T v i r.2.2 false).rows i v = (wst T v (i + 1) r.2.2 false).rows := by
    apply List.ext_getElem?
    intro j
    rw [setVal_get]
    show ((wrote T.frozen v T.rows i)[j]?).map _ = (wrote T.frozen v T.rows (i + 1))[j]?
    rw [wrote_get, wrote_get]
    cases hj : T.rows[j]? with
    | none => rfl
    | some q =>
      simp only [Option.map_some, hfz, and_true]
      by_cases h1 : i = j
      · subst h1; simp
      · by_cases h2 : j < i
        · have : j < i + 1 := by omega
          simp [h1, h2, this]
        · have : ¬ j < i + 1 := by omega
          simp [h1, h2, this]
  rw [hs]
  simp only [wst, hfz]
end

theorem wst_frozen {T : PT} (h : T.frozen = true) (v : Int) (i : Nat) (b : Int) (o : Bool) : wst T v (i + 1) b o = wst T v i b o := by
  simp [wst, wrote, h]

theorem wst_start (T : PT) (v : Int) : ({ T with walks := T.walks ++ [(-1, false)] } : PT) = wst T v 0 (stand T.rows 0) false := by
  simp only [wst, wrote_zero, stand]

theorem Rest.tab {w wx : World} {n bT bO bR bP : Nat} {X : Nat → Prop} (h : Rest w n bT bO bR bP X wx) (hn : n ≤ 1000) : ∃ T, T.ok ∧ T.next < 1099511000000 ∧ T.walks.length < 1000000 ∧ opens T.walks ≤ 20 ∧ Sep w wx bT T X := by
  obtain ⟨T, O, R, P, G, h1, h2, h3, h4, h5⟩ := h
  have b1 := h1.bt.next
  have b2 := h1.bt.walks
  obtain ⟨FT, FO, FR, FP, hT, hO, hR, hP, d1, d2, d3, hG, ht⟩ := h3
  refine ⟨T, hT.ok, by omega, by omega, h1.bt.opens, FT, hT, fun k hk => ?_, h5⟩
  rcases hG k (.inl hk) with h | h
  · exact ⟨(h4 k h).1, (h4 k h).2.2⟩
  · have := hT.lt k hk; omega

set_option maxHeartbeats 4000000 in
theorem walks_any (v : Value) (ds : List DD) (val : Int) (w : World) (hd : Deeds w v ds) (hval : (Lit.int .i64 val).wf = true) : Calls Try.prog 6 #[v, .int .i64 val] w fun e w' => e = .returned (.bool true) ∧ Still w w' := by
  have H22 := Lib.hid (f22_any hd)
  clear hd hval
  go_enter Try.func6, Try.ntmps6
  go_wp2_with fail
  refine H22.out.mono ?_
  rintro e w1 ⟨bT, bO, bR, bP, rfl, hr⟩
  have hz1 := hr.touch.size
  have HV1 : Hid ((w1.alloc (.cells #[.pointer (some ⟨bT, 0, none⟩), .pointer (some ⟨bO, 0, none⟩), .pointer (some ⟨bR, 0, none⟩), .pointer (some ⟨bP, 0, none⟩)] 46)).heap[w1.heap.size]? = some (.cells #[.pointer (some ⟨bT, 0, none⟩), .pointer (some ⟨bO, 0, none⟩), .pointer (some ⟨bR, 0, none⟩), .pointer (some ⟨bP, 0, none⟩)] 46 (0, 0))) := heap_alloc_new w1 _
  obtain ⟨T, hok, hnx, hwl, hop, hsep⟩ := ((hr.beside (X' := fun k => k = w1.heap.size) (fun k hk => .inr (.inl (by rw [hk]; exact Nat.le_refl _)))).still ((Touch.refl _ w1).alloc (.cells #[.pointer (some ⟨bT, 0, none⟩), .pointer (some ⟨bO, 0, none⟩), .pointer (some ⟨bR, 0, none⟩), .pointer (some ⟨bP, 0, none⟩)] 46))).tab (by omega)
  have HOK := Lib.hid hok
  have H14 := Lib.hid (walk_sep hsep (fun k hk => by rw [hk]; simp) (by omega))
  clear hr hsep hok
  simp only [pairVal]
  by_cases h20 : opens T.walks = 20
  · have e0 : T.walk = (T, (0, 9)) := by simp [PT.walk, h20]
    rw [e0] at H14
    clear e0 h20 hop
    go_wp2_with fail
    refine H14.out.mono ?_
    rintro e w2 ⟨rfl, hs2, -⟩
    have HS2 := Lib.hid hs2.touch
    clear hs2
    go_wp2_with fail
    refine (sane_any _).mono ?_
    rintro e w3 ⟨rfl, hs3⟩
    have HS3 := Lib.hid (HS2.out.then hs3)
    clear hs3
    go_wp2_with fail
    go_ret
    exact ⟨rfl, HS3.out⟩
  · have e0 : T.walk = (wst T val 0 (stand T.rows 0) false, ((T.walks.length : Int), 0)) := by
      simp only [PT.walk, if_neg h20]
      rw [← wst_start T val]
    rw [e0] at H14
    clear e0 h20 hop
    go_wp2_with fail
    refine H14.out.mono ?_
    rintro e w2 ⟨rfl, hs2, ht2⟩
    have hv2 : w2.heap[w1.heap.size]? = some (.cells #[.pointer (some ⟨bT, 0, none⟩), .pointer (some ⟨bO, 0, none⟩), .pointer (some ⟨bR, 0, none⟩), .pointer (some ⟨bP, 0, none⟩)] 46 (0, 0)) := ht2.keeps HV1.out (fun h => h.2 rfl)
    have c0 := blk_c hv2 0 _ rfl
    have HS2 := Lib.hid hs2
    have HV2 := Lib.hid hv2
    obtain ⟨F2, htab2, hF2, -⟩ := hs2
    have H19 := Lib.hid (f19_tab htab2)
    have hl2 := World.lt_of_heap hv2
    clear ht2 hv2 htab2 hF2
    simp only
    go_wp2_with fail
    refine H19.out.mono ?_
    rintro e w3 ⟨lv, rfl, hp3, hn3, hs3⟩
    have epairs : pairsOf (wst T val 0 (stand T.rows 0) false).rows = pairsOf T.rows := by simp only [wst, wrote_zero]
    rw [epairs] at hp3
    obtain ⟨al, capl, hlv, _⟩ := hp3.view
    have hlen : (pairsOf T.rows).length = T.rows.length := by simp [pairsOf]
    have hfew := HOK.out.few
    obtain ⟨N, hN⟩ : ∃ N, T.rows.length = N := ⟨_, rfl⟩
    rw [hlen, hN] at hlv
    have HLEN := Lib.hid hlen
    have HNN := Lib.hid hN
    have hN5 : N ≤ 500 := by omega
    subst hlv
    have HLO : Hid (∀ k, pairOwn (.slice al N capl) k → w2.heap.size ≤ k) := fun k ⟨o, l, c, h⟩ => hn3 k o l c h
    have HP3 := Lib.hid hp3
    have HSEP : Hid (Sep w w3 bT (wst T val 0 (stand T.rows 0) false) (fun k => k = w1.heap.size ∨ pairOwn (.slice al N capl) k)) := by
      obtain ⟨F, ht, hF, hst⟩ := HS2.out
      refine ⟨F, ht.still hs3, fun k hk => ⟨(hF k hk).1, ?_⟩, hst.then hs3⟩
      rintro (h | h)
      · exact (hF k hk).2 h
      · have := HLO.out k h; have := ht.lt k hk; omega
    have HV3 : Hid (w3.heap[w1.heap.size]? = some (.cells #[.pointer (some ⟨bT, 0, none⟩), .pointer (some ⟨bO, 0, none⟩), .pointer (some ⟨bR, 0, none⟩), .pointer (some ⟨bP, 0, none⟩)] 46 (0, 0))) := hs3.keeps HV2.out (fun h => h)
    have HLT : Hid (0 < N → ∀ k, pairOwn (.slice al N capl) k → k < w3.heap.size) := fun hz k hk => hp3.lt (by omega) k hk
    clear hs3 hp3 hn3 epairs hlen hN hfew
    obtain ⟨vb, hvb⟩ : ∃ vb, w1.heap.size = vb := ⟨_, rfl⟩
    rw [hvb] at HSEP HV3 hz1 HV2
    simp only [hvb]
    go_wp2_with fail
    go_loopw [10] (fun i wx => ∃ q : Nat, q ≤ N ∧ i = .int .i64 q ∧ Hid (Sep w wx bT (wst T val q (stand T.rows q) false) (fun k => k = vb ∨ pairOwn (.slice al N capl) k)) ∧ Hid (wx.heap[vb]? = some (.cells #[.pointer (some ⟨bT, 0, none⟩), .pointer (some ⟨bO, 0, none⟩), .pointer (some ⟨bR, 0, none⟩), .pointer (some ⟨bP, 0, none⟩)] 46 (0, 0))) ∧ Hid (Pairs wx (.slice al N capl) (pairsOf T.rows)) ∧ Hid (w3.heap.size ≤ wx.heap.size)) (fun i _ => N - (intOf i).toNat)
    case atStart => exact ⟨0, by omega, rfl, HSEP.out, HV3.out, HP3.out, Nat.le_refl _⟩
    case round =>
      obtain ⟨q, hq, rfl, HSQ, HVQ, HPQ, HZQ⟩ := hrel
      have c0 := blk_c HVQ.out 0 _ rfl
      have hlq := World.lt_of_heap HVQ.out
      have hwlen : (T.walks.length + 1) < 1099511627776 := by omega
      by_cases hlt : q < N
      · obtain ⟨r, hr⟩ : ∃ r, T.rows[q]? = some r := ⟨T.rows[q]'(by rw [HNN.out]; exact hlt), by rw [List.getElem?_eq_getElem]⟩
        have hX : ∀ k, (k = vb ∨ pairOwn (.slice al N capl) k) → k < wr.heap.size := by
          have hz := HZQ.out
          rintro k (h | h)
          · omega
          · have := HLT.out (by omega) k h; omega
        have h21 := next_sep HSQ.out hX (by simp [wst]; omega) (T.walks.length : Int)
        rw [wst_next HOK.out hr] at h21
        have H21 := Lib.hid h21
        have hpr : (pairsOf T.rows)[q]? = some (r.1, r.2.1) := by simp [pairsOf, hr]
        obtain ⟨g, o, cap, e, hpo, hg, hcs⟩ := HPQ.out.at (S := Apart w (fun k => k = vb ∨ pairOwn (.slice al N capl) k)) hpr
        have HCS := Lib.hid hcs
        simp only [Value.slice.injEq] at e
        obtain ⟨rfl, -, rfl⟩ := e
        have HPO := Lib.hid hpo
        have HRR := Lib.hid hr
        have HXX := Lib.hid hX
        clear hX h21 hcs hpr hpo hr
        go_wp2_with fail
        refine H21.out.mono ?_
        rintro e w4 ⟨rfl, hs4, ht4⟩
        have hv4 : w4.heap[vb]? = some (.cells #[.pointer (some ⟨bT, 0, none⟩), .pointer (some ⟨bO, 0, none⟩), .pointer (some ⟨bR, 0, none⟩), .pointer (some ⟨bP, 0, none⟩)] 46 (0, 0)) := ht4.keeps HVQ.out (fun h => h.2 (.inl rfl))
        have d0 := blk_c hv4 0 _ rfl
        obtain ⟨x0, x1⟩ := HCS.out w4 ht4 (fun h => h.2 (.inr HPO.out))
        have hs4 : Sep w w4 bT (wst T val q r.2.2 false) (fun k => k = vb ∨ pairOwn (.slice (some ⟨g, o, none⟩) N capl) k) := hs4
        have HS4 := Lib.hid hs4
        have HV4 := Lib.hid hv4
        have HT4 := Lib.hid ht4
        obtain ⟨F4, htab4, -, -⟩ := hs4
        have h23 := f23_tab htab4
        have hsz4 := ht4.size
        clear ht4 hv4 htab4
        have hstand : stand T.rows (q + 1) = r.2.2 := by simp [stand, HRR.out]
        have HST := Lib.hid hstand
        clear hstand
        cases hfz : T.frozen with
        | true =>
          have e1 : (wst T val q r.2.2 false).frozen = true := hfz
          rw [e1] at h23
          have H23 := Lib.hid h23
          have HFZ := Lib.hid hfz
          clear h23 e1 hfz
          go_wp2_with fail
          refine H23.out.mono ?_
          rintro e w5 ⟨rfl, hs5⟩
          have HS5 := Lib.hid hs5
          clear hs5
          go_wp2_with fail
          go_roundw
          case rel =>
            refine ⟨q + 1, by omega, by go_num, ?_, HS5.out.keeps HV4.out (fun h => h), (HPQ.out.kept HT4.out (fun g' o' l c h hA => hA.2 (.inr ⟨o', l, c, h⟩))).still HS5.out, ?_⟩
            · show Sep _ _ _ _ _
              rw [HST.out, wst_frozen HFZ.out]
              exact HS4.out.still HS5.out
            · show _ ≤ _
              have := HZQ.out; have := HT4.out.size; have := HS5.out.size; omega
          case measure => simp [intOf]; omega
        | false =>
          have e1 : (wst T val q r.2.2 false).frozen = false := hfz
          rw [e1] at h23
          have H23 := Lib.hid h23
          have hwf := HOK.out.wf r (List.mem_of_getElem? HRR.out)
          have H13 : Hid (∀ W, Still w4 W → Calls Try.prog 13 #[.pointer (some ⟨bT, 0, none⟩), .int .i64 r.1, .int .i64 val] W fun e w' => e = .returned (.int .i64 0) ∧ Sep w w' bT (wst T val (q + 1) r.2.2 false) (fun k => k = vb ∨ pairOwn (.slice (some ⟨g, o, none⟩) N capl) k) ∧ Touch (Apart w (fun k => k = vb ∨ pairOwn (.slice (some ⟨g, o, none⟩) N capl) k)) W w') := by
            show ∀ W, _ → _
            intro W hW
            have h := put_sep (HS4.out.still hW) (fun k hk => by have := HXX.out k hk; have := hW.size; omega) (by show T.next < _; omega) (by simp [wst]; omega) hwf val
            rw [wst_put HOK.out hfz HRR.out] at h
            exact h
          clear h23 e1 hfz hwf
          go_wp2_with fail
          refine H23.out.mono ?_
          rintro e w5 ⟨rfl, hs5⟩
          have hv5 := hs5.keeps HV4.out (fun h => h)
          have f0 := blk_c hv5 0 _ rfl
          have HS5 := Lib.hid hs5
          have HV5 := Lib.hid hv5
          clear hs5 hv5
          go_wp2_with fail
          refine (H13.out _ HS5.out).mono ?_
          rintro e w6 ⟨rfl, hs6, ht6⟩
          have HS6 := Lib.hid hs6
          have HT6 := Lib.hid ht6
          clear hs6 ht6
          go_wp2_with fail
          go_roundw
          case rel =>
            refine ⟨q + 1, by omega, by go_num, ?_, HT6.out.keeps HV5.out (fun h => h.2 (.inl rfl)), ((HPQ.out.kept HT4.out (fun g' o' l c h hA => hA.2 (.inr ⟨o', l, c, h⟩))).still HS5.out).kept HT6.out (fun g' o' l c h hA => hA.2 (.inr ⟨o', l, c, h⟩)), ?_⟩
            · show Sep _ _ _ _ _
              rw [HST.out]
              exact HS6.out
            · show _ ≤ _
              have := HZQ.out; have := HT4.out.size; have := HS5.out.size; have := HT6.out.size; omega
          case measure => simp [intOf]; omega
      · obtain rfl : q = N := by omega
        have hsq : Sep w wr bT (wst T val q (stand T.rows q) false) (fun k => k = vb) := by
          obtain ⟨F, ht, hF, hst⟩ := HSQ.out
          exact ⟨F, ht, fun k hk => ⟨(hF k hk).1, fun h => (hF k hk).2 (.inl h)⟩, hst⟩
        have h21 := next_sep hsq (fun k hk => by rw [hk]; exact hlq) (by simp [wst]; omega) (T.walks.length : Int)
        have hend := wst_end HOK.out val
        rw [HNN.out] at hend
        rw [hend] at h21
        have H21 := Lib.hid h21
        clear h21 hsq hend
        go_wp2_with fail
        refine H21.out.mono ?_
        rintro e w4 ⟨rfl, hs4, ht4⟩
        have hv4 : w4.heap[vb]? = some (.cells #[.pointer (some ⟨bT, 0, none⟩), .pointer (some ⟨bO, 0, none⟩), .pointer (some ⟨bR, 0, none⟩), .pointer (some ⟨bP, 0, none⟩)] 46 (0, 0)) := ht4.keeps HVQ.out (fun h => h.2 rfl)
        have d0 := blk_c hv4 0 _ rfl
        have hl4 := World.lt_of_heap hv4
        have hs4 : Sep w w4 bT (wst T val q (stand T.rows q) true) (fun k => k = vb) := hs4
        have h22 := next_sep hs4 (fun k hk => by rw [hk]; exact hl4) (by simp [wst]; omega) (T.walks.length : Int)
        rw [wst_over] at h22
        have H22b := Lib.hid h22
        have HV4 := Lib.hid hv4
        clear h22 hs4 ht4 hv4
        go_wp2_with fail
        refine H22b.out.mono ?_
        rintro e w5 ⟨rfl, hs5, ht5⟩
        have hv5 : w5.heap[vb]? = some (.cells #[.pointer (some ⟨bT, 0, none⟩), .pointer (some ⟨bO, 0, none⟩), .pointer (some ⟨bR, 0, none⟩), .pointer (some ⟨bP, 0, none⟩)] 46 (0, 0)) := ht5.keeps HV4.out (fun h => h.2 rfl)
        have f0 := blk_c hv5 0 _ rfl
        have hs5 : Sep w w5 bT (wst T val q (stand T.rows q) true) (fun k => k = vb) := hs5
        obtain ⟨F5, ht5b, hF5, hst5⟩ := hs5
        have h16 := f16_tab ht5b (by simp [wst]; omega) (T.walks.length : Int)
        rw [wst_stop] at h16
        have H16 := Lib.hid h16
        have HFF := Lib.hid hF5
        have HST5 := Lib.hid hst5
        clear h16 ht5 hv5 ht5b hF5 hst5
        go_wp2_with fail
        refine H16.out.mono ?_
        rintro e w6 ⟨rfl, hm6⟩
        have HS6 : Hid (Still w w6) := HST5.out.trans hm6.touch (fun k hk => .inr (HFF.out k hk).1)
        clear hm6
        go_wp2_with fail
        refine (sane_any _).mono ?_
        rintro e w7 ⟨rfl, hs7⟩
        have HS7 := Lib.hid (HS6.out.then hs7)
        clear hs7
        go_wp2_with fail
        go_ret
        exact ⟨rfl, HS7.out⟩

end Go.Proofs.Ytombofldebmaoaa
