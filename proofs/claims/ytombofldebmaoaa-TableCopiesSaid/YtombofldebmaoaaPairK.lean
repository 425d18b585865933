/-
  What the laws over pairs have in common: alike, Rekey at both, a copy of a slice of pairs; and TableRekeys, walked.
-/
import Derived.Test.YtombofldebmaoaaPairI
import Derived.Test.YtombofldebmaoaaPairH
import Derived.Laws.AppendOwnNone
namespace Go.Proofs.Ytombofldebmaoaa
open Go.RowKit
set_option linter.unusedVariables false
attribute [local go_sem ↓] Go.wp_at_zero Go.wp_at_succ

theorem Rest.sides {w wx : World} {n bT bO bR bP : Nat} {X : Nat → Prop} (h : Rest w n bT bO bR bP X wx) (hn : n ≤ 1000) : ∃ T R, Side wx bT bR T R := by
  obtain ⟨T, O, R, P, G, h1, h2, h3, h4, h5⟩ := h
  obtain ⟨F, ht, -⟩ := h3.onT
  obtain ⟨F', hr, -⟩ := h3.onR
  have b1 := h1.bt.next
  have b2 := h1.bt.walks
  exact ⟨T, R, ⟨F, ht⟩, ⟨F', hr⟩, h1.sim, by omega, by omega⟩

theorem rest_alikes {w wx : World} {n bT bO bR bP : Nat} {X : Nat → Prop} (h : Rest w n bT bO bR bP X wx) (hn : n ≤ 1000) {key : Int} (hk : (Lit.int .i64 key).wf = true) :
    Calls Try.prog 26 #[.agg #[.pointer (some ⟨bT, 0, none⟩), .pointer (some ⟨bO, 0, none⟩), .pointer (some ⟨bR, 0, none⟩), .pointer (some ⟨bP, 0, none⟩)], .int .i64 key] wx fun e w' => e = .returned (.bool true) ∧ Still wx w' := by
  obtain ⟨T, R, hs⟩ := h.sides hn
  exact f26_any hs hk

theorem pairsCells_one : ∀ (rs : List P2), ∀ u ∈ pairsCells rs, u.oneCell' = true := by
  intro rs u hu
  obtain ⟨p, _, hp⟩ := List.mem_flatMap.1 hu
  simp [pairCells] at hp
  rcases hp with rfl | rfl <;> rfl

theorem run_append_none {P : Program} {w : World} (base : Nat) (t ty e : TypeId) (i : TypeInfo) (size c : Nat) (ht : P.underlying t = some (.slice e)) (hi : P.info? e = some i)
    (v : Value) (n : Nat) (xs : List Value) (hown : w.ownsRow base e size v n xs) :
    (Builtin.append_ #[t, t] ty #[v, .slice none 0 c]).run P w = .ok v w := by
  rcases hown.2 with ⟨rfl, rfl⟩ | ⟨g, cap, cur, rfl, _, _, hnc, _⟩
  · simp [Builtin.append_, run_underlying ht, sizeOf, typeInfo, hi, Builtin.lenOf, Builtin.firstCells]
  · simp [Builtin.append_, run_underlying ht, sizeOf, typeInfo, hi, Builtin.lenOf, Builtin.firstCells, hnc, storeCells]

/-- A copy of a slice of pairs, however many they are. -/
theorem wpList_copy_pairs {ops : Array Oper} {rest : List Oper} {o : Oper} {a : Act} {w : World} {Q : Exit → Act → World → Prop} (hgd : o.guard = none) (s x : Operand)
    (ho : o.op = .call { callee := .builtin .append, args := #[s, x], argTypes := #[34, 34] }) (g : Nat) (hs : a.eval s = .slice (some ⟨g, 0, none⟩) 0 0) (hg : w.heap[g]? = some (.cells #[] 37 (0, 0))) (v : Value) (hx : a.eval x = v) (ps : List P2) (hv : Pairs w v ps) (hn : ps.length ≤ 2000)
    (h : ∀ ao c w', w'.ownsRow 0 37 2 (.slice ao ps.length c) ps.length (pairsCells ps) → Touch (fun k => k = g) w w' → (∀ k, ownOf (.slice ao ps.length c) k → k = g ∨ k = w.heap.size) → wpList Try.prog ops Q rest (a.put o.dst (.slice ao ps.length c)) w') : wpList Try.prog ops Q (o :: rest) a w := by
  obtain ⟨i0, hi, hz0, hz1, hz2⟩ := info_parts info37
  obtain ⟨ao, cap, e, hc, hvw⟩ := hv.view
  cases ao with
  | none =>
    have hnil : ps = [] := by
      cases ps with
      | nil => rfl
      | cons p ps =>
        obtain ⟨g', o', e', _⟩ := hvw 0 p rfl
        cases e'
    subst hnil
    refine wpList_plain hgd fun K hK => ?_
    have hrun := run_append_none (P := Try.prog) (w := w) 0 34 o.type 37 i0 2 cap Try.underlying34 hi _ 0 [] (owns_empty hg)
    have hx' := hx.trans e
    simp only [List.length_nil] at hx'
    unfold Oper.wp
    simp [execOp, ho, resolve, invoke, builtin, hs, hx', hrun, Result.andThen]
    exact hK _ _ (h _ _ w (owns_empty hg) (Touch.refl _ _) (fun k hk => .inl (own_slice hk).symm))
  | some ad =>
    have hcell : ∀ j u, (pairsCells ps)[j]? = some u → w.cell? (ad.add j) = some u := by
      intro j u hu
      have hj : j < ps.length * 2 := by have := (List.getElem?_eq_some_iff.1 hu).1; rwa [pairsCells_length] at this
      obtain ⟨p, hp⟩ : ∃ p, ps[j / 2]? = some p := ⟨ps[j / 2]'(by omega), by rw [List.getElem?_eq_getElem]⟩
      obtain ⟨g', o', e', _, y0, y1⟩ := hvw _ p hp
      cases e'
      rw [Addr.add_lit]
      have hm : j % 2 = 0 ∨ j % 2 = 1 := by omega
      rcases hm with hm | hm
      · have ej : j = j / 2 * 2 + 0 := by omega
        rw [ej, pairsCells_get ps _ 0 p hp (by omega)] at hu
        simp [pairCells] at hu
        rw [← hu, ← y0]
        congr 2; omega
      · have ej : j = j / 2 * 2 + 1 := by omega
        rw [ej, pairsCells_get ps _ 1 p hp (by omega)] at hu
        simp [pairCells] at hu
        rw [← hu, ← y1]
        congr 2; omega
    refine wpList_append_own_at w hgd s x 34 ho 0 37 i0 (.agg #[.int .i64 0, .int .i64 0]) 2 16 Try.underlying34 hi hz0 hz1 hz2 rfl (by decide) _ 0 [] hs (owns_empty hg) ad ps.length cap (pairsCells ps) (hx.trans e) (pairsCells_length ps) hcell (pairsCells_one _) (by unfold maxLen; omega) (by omega) (Nat.zero_le _) ?_
    intro v' w' h2 h3 _ h5
    rw [Nat.zero_add, List.nil_append] at h2
    obtain ⟨ao', c, e2, _⟩ := owns_view h2
    subst e2
    refine h ao' c w' h2 ⟨h3.os, h3.tape, h3.output, h3.size, fun k hk hne => h3.block k hk (fun e => hne (Option.some.inj e))⟩ (fun k hk => ?_)
    have hk : (Value.slice ao' ps.length c).ownBlock = some k := hk
    rcases h5 with h5 | h5
    · rw [h5] at hk
      exact .inl (own_slice hk).symm
    · rw [h5] at hk
      exact .inr (Option.some.inj hk).symm

/-- Rekey at both sides, each with a slice of its own. -/
theorem rest_rekey {w wx : World} {n bT bO bR bP : Nat} {X : Nat → Prop} (h : Rest w n bT bO bR bP X wx) (hX : ∀ k, X k → k < wx.heap.size) (hn : n ≤ 1000) {u v : Value} {qs : List P2} (hu : PairsIn wx u qs) (hv : PairsIn wx v qs)
    (hvx : ∀ k, pairOwn v k → 0 < qs.length → k < w.heap.size ∨ X k) :
    ∃ (E : Int) (M : World → Prop), (Calls Try.prog 27 #[.pointer (some ⟨bT, 0, none⟩), u] wx fun e w' => e = .returned (.int .i64 E) ∧ M w' ∧ Touch (fun k => w.heap.size ≤ k ∧ ¬ X k) wx w') ∧
      (∀ w1, M w1 → Calls Try.prog 28 #[.pointer (some ⟨bR, 0, none⟩), v] w1 fun e w' => e = .returned (.int .i64 E) ∧ Rest w (n + 1) bT bO bR bP X w' ∧ Touch (fun k => w.heap.size ≤ k ∧ ¬ X k) wx w') := by
  obtain ⟨T, O, R, P, G, h1, h2, h3, h4, h5⟩ := h
  have b1 := h1.bt.next
  have b2 := h1.bt.walks
  have b3 := h1.br.next
  have b4 := h1.br.walks
  obtain ⟨e1, hboth⟩ := h1.rekey qs
  have hkeys := h1.sim.keys h3.okT
  have hG : ∀ k, k < wx.heap.size → G k → w.heap.size ≤ k ∧ ¬ X k := fun k _ hG => ⟨(h4 k hG).1, (h4 k hG).2.2⟩
  refine ⟨(T.rekey qs).2, QM wx G bT bO bR bP (T.rekey qs).1 O R P, ?_, ?_⟩
  · obtain ⟨F, ht, hm⟩ := h3.onT
    exact (f27_tab ht (by omega) (by omega) hu).mono fun e w' ⟨he, hmv⟩ => ⟨he, hm _ _ hmv, (hm _ _ hmv).touch.mono hG⟩
  · intro w1 hW
    obtain ⟨F, ht, hm⟩ := hW.onR
    have hv1 : PairsIn w1 v qs := hv.kept hW.touch (fun g o l c e hz hg => by
      rcases hvx g ⟨o, l, c, e⟩ hz with h | h
      · have := (h4 g hg).1; omega
      · exact (h4 g hg).2.2 h)
    rw [e1]
    refine (f28_ref ht hkeys (by omega) hv1).mono ?_
    rintro e w' ⟨he, hmv⟩
    have q3 := hm _ _ hmv
    have ht := q3.touch
    have hsz := ht.size
    have hs5 := h5.size
    refine ⟨he, ⟨_, _, _, _, _, hboth, h2.mono (by omega), q3.renew, ?_, h5.trans ht (fun k hk => .inr (h4 k hk).1)⟩, ht.mono hG⟩
    rintro j (hj | ⟨hj1, hj2⟩)
    · have := h4 j hj
      exact ⟨this.1, by omega, this.2.2⟩
    · exact ⟨by omega, hj2, fun hx => by have := hX j hx; omega⟩

theorem pairsIn_nil (w : World) : PairsIn w (.slice none 0 0) [] := ⟨⟨none, 0, rfl, Nat.le_refl _, by intro i p h; simp at h⟩, by simp, by simp⟩

theorem nextDeed_ok (w : World) {a : Int} (ha : (Lit.int .i64 a).wf = true) : (⟨4, a, 0, .slice none 0 0, []⟩ : DD).ok w := ⟨rfl, ha, rfl, pairsIn_nil w⟩

set_option maxHeartbeats 4000000 in
theorem rekeys_any (v : Value) (ds : List DD) (u : Value) (ps : List P2) (w : World) (hd : Deeds w v ds) (hp : PairsIn w u ps) : Calls Try.prog 8 #[v, u] w fun e w' => e = .returned (.bool true) ∧ Still w w' := by
  have H22 := Lib.hid (f22_any hd)
  have HP := Lib.hid hp
  have hlen := hp.len
  obtain ⟨au, capu, hu, _⟩ := hp.pairs.view
  have hpl2 : ps.length < 1099511627776 * 1099511627776 := by unfold maxLen at hlen; omega
  clear hd hp hlen
  subst hu
  by_cases hbig : 2000 < ps.length
  · have hb : decide ((2000 : Int) < (ps.length : Int)) = true := by simp; omega
    go_enter Try.func8, Try.ntmps8
    go_wp2_with fail
    refine (sane_any _).mono ?_
    rintro e w7 ⟨rfl, hs7⟩
    have HS7 := Lib.hid hs7
    clear hs7
    go_wp2_with fail
    go_ret
    exact ⟨rfl, HS7.out⟩
  · have hb : decide ((2000 : Int) < (ps.length : Int)) = false := by simp; omega
    have hl2 : ps.length ≤ 2000 := by omega
    go_enter Try.func8, Try.ntmps8
    go_wp2_with fail
    refine H22.out.mono ?_
    rintro e w1 ⟨bT, bO, bR, bP, rfl, hr⟩
    have HR := Lib.hid hr
    clear hr
    simp only [pairVal]
    have hz1 := HR.out.touch.size
    go_wp2_with (at_builtin; refine wpList_copy_pairs rfl (.tmp 23) (.tmp 24) rfl (w1.heap.size + 1) rfl (new2 w1 _ _) (.slice au ps.length capu) rfl ps (HP.out.pairs.still (((HR.out.touch).alloc _).alloc _)) hl2 ?_; intro a8 c8 w8 own8 t8 o8; have hsz8 := t8.size; have hv8 : w8.heap[w1.heap.size]? = some (.cells #[.pointer (some ⟨bT, 0, none⟩), .pointer (some ⟨bO, 0, none⟩), .pointer (some ⟨bR, 0, none⟩), .pointer (some ⟨bP, 0, none⟩)] 46 (0, 0)) := t8.keeps ((Below.heap_alloc _ _ _ (by simp)).trans (heap_alloc_new w1 _)) (by omega); have HO8 := Lib.hid own8; have HT8 := Lib.hid t8; have HB8 := Lib.hid o8; have HV8 := Lib.hid hv8; have c0 := blk_c hv8 0 _ rfl; have c1 := blk_c hv8 1 _ rfl; have c2 := blk_c hv8 2 _ rfl; have c3 := blk_c hv8 3 _ rfl; clear own8 t8 o8 hv8)
    have hpo : ∀ k, ownOf (.slice a8 ps.length c8) k → w1.heap.size < k ∧ k < w8.heap.size := by
      intro k hk
      refine ⟨?_, ?_⟩
      · rcases HB8.out k hk with h | h
        · omega
        · simp at h; omega
      · rcases HO8.out.2 with ⟨hn, _⟩ | ⟨g', cap', cur, hn, _, hgg, _⟩
        · have hk : (Value.slice a8 ps.length c8).ownBlock = some k := hk
          rw [hn] at hk; cases hk
        · have hk : (Value.slice a8 ps.length c8).ownBlock = some k := hk
          rw [hn] at hk; cases hk
          exact World.lt_of_heap hgg
    have hw8 : w1.heap.size + 2 ≤ w8.heap.size := by simp at hsz8; omega
    have hst8 : Still w1 w8 := (((Touch.refl _ w1).alloc _).alloc _).trans HT8.out (fun k hk => .inr (by omega))
    have hrest : Rest w 100 bT bO bR bP (fun k => k = w1.heap.size ∨ ownOf (.slice a8 ps.length c8) k) w8 := (HR.out.beside (fun k hk => .inr (.inl (by rcases hk with h | h; (rw [h]; exact Nat.le_refl _); exact Nat.le_of_lt (hpo k h).1)))).still hst8
    have hXlt : ∀ k, (k = w1.heap.size ∨ ownOf (.slice a8 ps.length c8) k) → k < w8.heap.size := by
      rintro k (h | h)
      · omega
      · exact (hpo k h).2
    have hpin8 : PairsIn w8 (.slice a8 ps.length c8) ps := ⟨pairs_of_owns HO8.out, HP.out.wf, HP.out.len⟩
    obtain ⟨E, M, hc27, hc28⟩ := rest_rekey hrest hXlt (by omega) (HP.out.kept (HR.out.touch.then hst8) (fun _ _ _ _ _ _ h => h)) hpin8 (fun k hk _ => .inr (.inr (by
      obtain ⟨o, l, c, e⟩ := hk
      rcases HO8.out.2 with ⟨hn, _⟩ | ⟨g', cap', cur, hn, _, hgg, _⟩
      · rw [hn] at e; simp at e
      · rw [hn] at e
        show (Value.slice a8 ps.length c8).ownBlock = some k
        rw [hn]
        simp only [Value.slice.injEq, Option.some.injEq, Addr.mk.injEq] at e
        rw [e.1.1]; rfl)))
    have H27 := Lib.hid hc27
    have H28 := Lib.hid hc28
    have HX := Lib.hid hXlt
    have HPO := Lib.hid hpo
    have HPIN := Lib.hid hpin8
    clear hc27 hc28 hrest hXlt hpo hpin8 hst8
    go_wp2_with fail
    refine H27.out.mono ?_
    rintro e w9 ⟨rfl, hm9, ht9⟩
    have hv9 : w9.heap[w1.heap.size]? = some (.cells #[.pointer (some ⟨bT, 0, none⟩), .pointer (some ⟨bO, 0, none⟩), .pointer (some ⟨bR, 0, none⟩), .pointer (some ⟨bP, 0, none⟩)] 46 (0, 0)) := ht9.keeps HV8.out (fun h => h.2 (.inl rfl))
    have d0 := blk_c hv9 0 _ rfl
    have d1 := blk_c hv9 1 _ rfl
    have d2 := blk_c hv9 2 _ rfl
    have d3 := blk_c hv9 3 _ rfl
    have HM9 := Lib.hid hm9
    have HT9 := Lib.hid ht9
    have HV9 := Lib.hid hv9
    clear hm9 ht9 hv9
    go_wp2_with fail
    refine (H28.out _ HM9.out).mono ?_
    rintro e w10 ⟨rfl, hr10, ht10⟩
    have hv10 : w10.heap[w1.heap.size]? = some (.cells #[.pointer (some ⟨bT, 0, none⟩), .pointer (some ⟨bO, 0, none⟩), .pointer (some ⟨bR, 0, none⟩), .pointer (some ⟨bP, 0, none⟩)] 46 (0, 0)) := ht10.keeps HV8.out (fun h => h.2 (.inl rfl))
    have HTT : Hid (Touch (fun k => w.heap.size ≤ k ∧ ¬ (k = w1.heap.size ∨ ownOf (.slice a8 ps.length c8) k)) w8 w10) := ht10
    have HP1 : Hid (Pairs w10 (.slice a8 ps.length c8) ps) := pairs_of_owns (owns_touch HO8.out HTT.out (fun k hk h => h.2 (.inr hk)))
    have HP2 : Hid (Pairs w10 (.slice au ps.length capu) ps) := HP.out.pairs.still hr10.touch
    have HR10 := Lib.hid hr10
    have HV10 := Lib.hid hv10
    clear hr10 ht10 hv10
    go_wp2_with fail
    refine (f18_any HP1.out HP2.out (by omega) (by omega)).mono ?_
    rintro e w11 ⟨rfl, hs11⟩
    have hdec : decide (ps = ps) = true := by simp
    rw [hdec]
    have HR11 : Hid (Rest w 101 bT bO bR bP (fun k => k = w1.heap.size) w11) := (HR10.out.beside (fun k hk => .inl (.inl hk))).still hs11
    have HV11 : Hid (w11.heap[w1.heap.size]? = some (.cells #[.pointer (some ⟨bT, 0, none⟩), .pointer (some ⟨bO, 0, none⟩), .pointer (some ⟨bR, 0, none⟩), .pointer (some ⟨bP, 0, none⟩)] 46 (0, 0))) := hs11.keeps HV10.out (fun h => h)
    clear hs11 hdec
    obtain ⟨vb, hvb⟩ : ∃ vb, w1.heap.size = vb := ⟨_, rfl⟩
    rw [hvb] at HR11 HV11
    simp only [hvb]
    go_wp2_with fail
    go_loopw [10] (fun i wx => ∃ q : Nat, q ≤ 5 ∧ i = .int .i64 q ∧ Hid (Rest w (101 + 3 * q) bT bO bR bP (fun k => k = vb) wx) ∧ Hid (wx.heap[vb]? = some (.cells #[.pointer (some ⟨bT, 0, none⟩), .pointer (some ⟨bO, 0, none⟩), .pointer (some ⟨bR, 0, none⟩), .pointer (some ⟨bP, 0, none⟩)] 46 (0, 0)))) (fun i _ => 5 - (intOf i).toNat)
    case atStart => exact ⟨0, by omega, rfl, HR11.out, HV11.out⟩
    case round =>
      obtain ⟨q, hq5, rfl, HRQ, HVQ⟩ := hrel
      by_cases hlt : q < 5
      · have hq1 : decide ((q : Int) < 5) = true := by simp; omega
        go_wp2_with fail
        obtain ⟨wo, rfl⟩ : ∃ wo : World, wo = wr := ⟨_, rfl⟩
        go_loopw [11] (fun i wx => ∃ p : Nat, p ≤ 3 ∧ i = .int .i64 p ∧ Hid (Rest w (101 + 3 * q + p) bT bO bR bP (fun k => k = vb) wx) ∧ Hid (wx.heap[vb]? = some (.cells #[.pointer (some ⟨bT, 0, none⟩), .pointer (some ⟨bO, 0, none⟩), .pointer (some ⟨bR, 0, none⟩), .pointer (some ⟨bP, 0, none⟩)] 46 (0, 0)))) (fun i _ => 3 - (intOf i).toNat)
        case atStart => exact ⟨0, by omega, rfl, HRQ.out, HVQ.out⟩
        case round =>
          obtain ⟨p, hp3, rfl, HRP, HVP⟩ := hrel
          by_cases hlt2 : p < 3
          · have c0 := blk_c HVP.out 0 _ rfl
            have c1 := blk_c HVP.out 1 _ rfl
            have c2 := blk_c HVP.out 2 _ rfl
            have c3 := blk_c HVP.out 3 _ rfl
            have hlv := World.lt_of_heap HVP.out
            have H25 := Lib.hid (rest_does (x := ⟨4, (q : Int), 0, .slice none 0 0, []⟩) HRP.out (fun k hk => by rw [hk]; exact hlv) (by omega) (nextDeed_ok w (wf_nat (by omega))))
            go_wp2_with fail
            refine H25.out.mono ?_
            rintro e w12 ⟨rfl, hr12, ht12⟩
            have HR12 := Lib.hid hr12
            have HV12 : Hid (w12.heap[vb]? = some (.cells #[.pointer (some ⟨bT, 0, none⟩), .pointer (some ⟨bO, 0, none⟩), .pointer (some ⟨bR, 0, none⟩), .pointer (some ⟨bP, 0, none⟩)] 46 (0, 0))) := ht12.keeps HVP.out (fun h => h.2 rfl)
            clear hr12 ht12
            go_wp2_with fail
            go_roundw
            case rel => exact ⟨p + 1, by omega, by go_num, HR12.out, HV12.out⟩
            case measure => simp [intOf]; omega
          · go_wp2_with fail
            go_roundw
            case rel => exact ⟨q + 1, by omega, by go_num, HRP.out.mono (by omega), HVP.out⟩
            case measure => simp [intOf]; omega
      · have c0 := blk_c HVQ.out 0 _ rfl
        have c1 := blk_c HVQ.out 1 _ rfl
        have c2 := blk_c HVQ.out 2 _ rfl
        have c3 := blk_c HVQ.out 3 _ rfl
        have H26 := Lib.hid (rest_alikes HRQ.out (by omega) (key := 0) rfl)
        go_wp2_with fail
        refine H26.out.mono ?_
        rintro e w13 ⟨rfl, hs13⟩
        have HS13 := Lib.hid (HRQ.out.touch.then hs13)
        clear hs13
        go_wp2_with fail
        refine (sane_any _).mono ?_
        rintro e w14 ⟨rfl, hs14⟩
        have HS14 := Lib.hid (HS13.out.then hs14)
        clear hs14
        go_wp2_with fail
        go_ret
        exact ⟨rfl, HS14.out⟩

end Go.Proofs.Ytombofldebmaoaa
