/-
  TableCopies, walked.
-/
import Derived.Test.YtombofldebmaoaaPairM
namespace Go.Proofs.Ytombofldebmaoaa
open Go.RowKit
set_option linter.unusedVariables false
attribute [local go_sem ↓] Go.wp_at_zero Go.wp_at_succ

theorem renum_pairs (rs : List R3) : pairsOf (renum rs) = pairsOf rs := by
  unfold pairsOf renum
  apply List.ext_getElem?
  intro i
  rw [List.getElem?_map, List.getElem?_map, List.getElem?_mapIdx]
  cases rs[i]? <;> rfl

theorem Both.copied {n : Nat} {T R : PT} (h : Both n T R) (hf : T.rows.length ≤ 500) (hn : 1 ≤ n) : Both n (Ytombofldebmaoaa.copied T.rows) (copiedR R) :=
  ⟨h.sim.copied, ⟨by show T.rows.length ≤ _; omega, by simp [Ytombofldebmaoaa.copied], by simp [Ytombofldebmaoaa.copied, Ytombofldebmaoaa.opens]⟩, ⟨h.br.next, by simp [copiedR], by simp [copiedR, Ytombofldebmaoaa.opens]⟩⟩

/-- Four tables that were made one behind the other. -/
theorem rest_four {w w2 w3 w6 w7 w8 w9 : World} {n cT oT cR oP : Nat} {FC FC' FR FO FP : Nat → Prop} {T R : PT} (hb : Both n T R) (ht : Tab w2 FC cT T) (g1 : ∀ k, FC k → w.heap.size ≤ k) (s2 : Still w w2)
    (hr : Ref w3 FR cR R) (g2 : ∀ k, FR k → w2.heap.size ≤ k) (s3 : Still w2 w3) (ht6 : Tab w6 FC' cT T) (t6 : Touch FC w3 w6) (g6 : ∀ k, FC' k → FC k ∨ w3.heap.size ≤ k)
    (ho : Tab w7 FO oT PT.new) (g7 : ∀ k, FO k → w6.heap.size ≤ k) (s7 : Still w6 w7) (hp : Ref w8 FP oP PT.new) (g8 : ∀ k, FP k → w7.heap.size ≤ k) (s8 : Still w7 w8) (s9 : Still w8 w9) (X : Nat → Prop) (hX : ∀ k, X k → w8.heap.size ≤ k) :
    Rest w n cT oT cR oP X w9 := by
  have z2 := s2.size
  have z3 := s3.size
  have z6 := t6.size
  have z7 := s7.size
  have z8 := s8.size
  have z9 := s9.size
  have l2 := ht.lt
  have l3 := hr.lt
  have l6 := ht6.lt
  have l7 := ho.lt
  have l8 := hp.lt
  have s79 := s8.then s9
  have s69 := s7.then s79
  have hr6 : Ref w6 FR cR R := hr.kept t6 (fun k hk h => by have := l2 k h; have := g2 k hk; omega)
  refine ⟨T, PT.new, R, PT.new, fun k => FC' k ∨ FO k ∨ FR k ∨ FP k, hb, Both.new n, ⟨FC', FO, FR, FP, ht6.still s69, ho.still s79, hr6.still s69, hp.still s9, ?_, ?_, ?_, fun k hk => .inl hk, Touch.refl _ _⟩, ?_, ?_⟩
  · intro k hk
    have a := l6 k hk
    refine ⟨fun h => by have := g7 k h; omega, fun h => ?_, fun h => by have := g8 k h; omega⟩
    have := l3 k h
    have := g2 k h
    rcases g6 k hk with h' | h'
    · have := l2 k h'; omega
    · omega
  · intro k hk
    have a := l7 k hk
    have b := g7 k hk
    exact ⟨fun h => by have := l3 k h; omega, fun h => by have := g8 k h; omega⟩
  · intro k hk h
    have := l3 k hk
    have := g8 k h
    omega
  · rintro k (h | h | h | h)
    · have := l6 k h
      refine ⟨?_, by omega, fun hx => by have := hX k hx; omega⟩
      rcases g6 k h with h' | h'
      · exact g1 k h'
      · omega
    · have := l7 k h; have := g7 k h
      exact ⟨by omega, by omega, fun hx => by have := hX k hx; omega⟩
    · have := l3 k h; have := g2 k h
      exact ⟨by omega, by omega, fun hx => by have := hX k hx; omega⟩
    · have := l8 k h; have := g8 k h
      exact ⟨by omega, by omega, fun hx => by have := hX k hx; omega⟩
  · exact ((s2.then s3).trans t6 (fun k hk => .inr (g1 k hk))).then s69

set_option maxRecDepth 100000 in
set_option maxHeartbeats 8000000 in
theorem copies_any (v : Value) (ds : List DD) (u : Value) (es : List DD) (w : World) (hd : Deeds w v ds) (he : Deeds w u es) : Calls Try.prog 10 #[v, u] w fun e w' => e = .returned (.bool true) ∧ Still w w' := by
  have H22 := Lib.hid (f22_any hd)
  have HE := Lib.hid he
  obtain ⟨au, capu, hu, hc1, hc2, _⟩ := he.view
  have hcm : es.length ≤ 9223372036854775807 := by unfold maxLen at hc2; omega
  clear hd he hc1 hc2
  subst hu
  go_enter Try.func10, Try.ntmps10
  go_wp2_with fail
  refine H22.out.mono ?_
  rintro e w1 ⟨bT, bO, bR, bP, rfl, hr1⟩
  obtain ⟨wa, hwa⟩ : ∃ wa, w1.alloc (.cells #[.pointer (some ⟨bT, 0, none⟩), .pointer (some ⟨bO, 0, none⟩), .pointer (some ⟨bR, 0, none⟩), .pointer (some ⟨bP, 0, none⟩)] 46) = wa := ⟨_, rfl⟩
  have hra := hr1.still ((Touch.refl (fun _ => False) w1).alloc (.cells #[.pointer (some ⟨bT, 0, none⟩), .pointer (some ⟨bO, 0, none⟩), .pointer (some ⟨bR, 0, none⟩), .pointer (some ⟨bP, 0, none⟩)] 46))
  have hva := heap_alloc_new w1 (.cells #[.pointer (some ⟨bT, 0, none⟩), .pointer (some ⟨bO, 0, none⟩), .pointer (some ⟨bR, 0, none⟩), .pointer (some ⟨bP, 0, none⟩)] 46)
  rw [hwa] at hra hva
  have hlta := World.lt_of_heap hva
  have HRA := Lib.hid hra
  have HVA := Lib.hid hva
  obtain ⟨T, R, FT, FR, hb, ht, hr, -, -⟩ := hra.split
  have hfew := ht.ok.few
  have HB := Lib.hid hb
  have HT := Lib.hid ht
  have HR := Lib.hid hr
  have HEA := Lib.hid (HE.out.still hra.touch)
  have HFEW := Lib.hid hfew
  have H32 := Lib.hid (f32_tab ht)
  clear hr1 hra hva hb ht hr
  simp only [pairVal]
  have c0 := blk_c HVA.out 0 _ rfl
  have c1 := blk_c HVA.out 1 _ rfl
  have c2 := blk_c HVA.out 2 _ rfl
  have c3 := blk_c HVA.out 3 _ rfl
  go_wp2_with fail
  clear hwa
  refine H32.out.mono ?_
  rintro e w2 ⟨cT, FC, rfl, tC, gC, s2⟩
  have HC2 := Lib.hid (And.intro tC (And.intro gC s2))
  have H33 := Lib.hid (f33_ref (HR.out.still s2))
  have hv2 := s2.keeps HVA.out (fun h => h)
  have d0 := blk_c hv2 0 _ rfl
  have d2 := blk_c hv2 2 _ rfl
  clear tC gC s2 hv2
  go_wp2_with fail
  refine H33.out.mono ?_
  rintro e w3 ⟨cR, FCR, rfl, tR, gR, s3⟩
  have HC3 := Lib.hid (And.intro tR (And.intro gR s3))
  have hs03 := HC2.out.2.2.then s3
  have hv3 := hs03.keeps HVA.out (fun h => h)
  have e0 := blk_c hv3 0 _ rfl
  have H34 : Hid (Calls Try.prog 34 #[.pointer (some ⟨cT, 0, none⟩), .pointer (some ⟨bT, 0, none⟩)] w3 fun e w' => e = .returned (.bool true) ∧ Still w3 w') := by
    have hl : (pairsOf T.rows).length < 1099511627776 := by simp only [pairsOf, List.length_map]; omega
    refine (f34_any (ps := pairsOf T.rows) (qs := pairsOf T.rows) (fun w' hs => ?_) (fun w' hs => f19_tab ((HT.out.still hs03).still hs)) hl hl).mono fun e w' ⟨he, hs⟩ => ⟨by rw [he]; simp, hs⟩
    have h := f19_tab ((HC2.out.1.still s3).still hs)
    rw [show (copied T.rows).rows = renum T.rows from rfl, renum_pairs] at h
    exact h
  have HS03 := Lib.hid hs03
  clear tR gR s3 hs03 hv3
  go_wp2_with fail
  refine H34.out.mono ?_
  rintro e w4 ⟨rfl, s4⟩
  have H23 := Lib.hid (f23_tab ((HC2.out.1.still HC3.out.2.2).still s4))
  have HS4 := Lib.hid s4
  clear s4
  simp only [copied] at H23
  go_wp2_with fail
  refine H23.out.mono ?_
  rintro e w5 ⟨rfl, s5⟩
  have HS5 := Lib.hid (HS4.out.then s5)
  have h21 := f21_tab ((HC2.out.1.still HC3.out.2.2).still HS5.out) (by simp [copied]) 0
  have e21 : nextW (copied T.rows) 0 = ([], (0, 0, 1)) := rfl
  rw [e21] at h21
  have H21 := Lib.hid h21
  clear s5 h21 e21
  go_wp2_with fail
  refine H21.out.mono ?_
  rintro e w6 ⟨rfl, FC', t6, tt6, g6⟩
  have HC6 : Hid (Tab w6 FC' cT (copied T.rows) ∧ Touch FC w3 w6 ∧ ∀ k, FC' k → FC k ∨ w3.heap.size ≤ k) := ⟨t6, (HS5.out.mono (fun _ _ h => h.elim)).then tt6, fun k hk => (g6 k hk).imp id (fun h => by have := HS5.out.size; omega)⟩
  clear t6 tt6 g6
  go_wp2_with fail
  refine (f12_any _).mono ?_
  rintro e w7 ⟨oT, FO, rfl, t7, g7, s7⟩
  have HC7 := Lib.hid (And.intro t7 (And.intro g7 s7))
  clear t7 g7 s7
  go_wp2_with fail
  refine (f35_any _).mono ?_
  rintro e w8 ⟨oP, FP, rfl, t8, g8, s8⟩
  have HREST : Hid (Rest wa 100 cT oT cR oP (fun k => k = w8.heap.size) (w8.alloc (.cells #[.pointer (some ⟨cT, 0, none⟩), .pointer (some ⟨oT, 0, none⟩), .pointer (some ⟨cR, 0, none⟩), .pointer (some ⟨oP, 0, none⟩)] 46))) :=
    rest_four (HB.out.copied HFEW.out (by omega)) HC2.out.1 HC2.out.2.1 HC2.out.2.2 HC3.out.1 HC3.out.2.1 HC3.out.2.2 HC6.out.1 HC6.out.2.1 HC6.out.2.2 HC7.out.1 HC7.out.2.1 HC7.out.2.2 t8 g8 s8 ((Touch.refl _ w8).alloc _) _ (fun k hk => by rw [hk]; exact Nat.le_refl _)
  have HVAR : Hid ((w8.alloc (.cells #[.pointer (some ⟨cT, 0, none⟩), .pointer (some ⟨oT, 0, none⟩), .pointer (some ⟨cR, 0, none⟩), .pointer (some ⟨oP, 0, none⟩)] 46)).heap[w8.heap.size]? = some (.cells #[.pointer (some ⟨cT, 0, none⟩), .pointer (some ⟨oT, 0, none⟩), .pointer (some ⟨cR, 0, none⟩), .pointer (some ⟨oP, 0, none⟩)] 46 (0, 0))) := heap_alloc_new w8 _
  have hz8 : wa.heap.size ≤ w8.heap.size := by
    have a1 := HC2.out.2.2.size
    have a2 := HC3.out.2.2.size
    have a3 := HC6.out.2.1.size
    have a4 := HC7.out.2.2.size
    have a5 := s8.size
    omega
  clear t8 g8 s8
  go_wp2_with fail
  obtain ⟨vb, hvb⟩ : ∃ vb, w8.heap.size = vb := ⟨_, rfl⟩
  rw [hvb] at HREST HVAR hz8
  simp only [hvb]
  go_loopw [6, 13] (fun ok i wx => ∃ k : Nat, k ≤ 100 ∧ k ≤ es.length ∧ i = .int .i64 k ∧ ok = .bool true ∧ Hid (Rest wa (100 + k) cT oT cR oP (fun k => k = vb) wx) ∧ Hid (wx.heap[vb]? = some (.cells #[.pointer (some ⟨cT, 0, none⟩), .pointer (some ⟨oT, 0, none⟩), .pointer (some ⟨cR, 0, none⟩), .pointer (some ⟨oP, 0, none⟩)] 46 (0, 0)))) (fun _ i _ => 100 - (intOf i).toNat)
  case atStart => exact ⟨0, by omega, by omega, rfl, rfl, HREST.out, HVAR.out⟩
  case round =>
    obtain ⟨k, hk100, hkn, rfl, rfl, HRK, HE2⟩ := hrel
    by_cases hlt : k < es.length ∧ k < 100
    · obtain ⟨hlt1, hlt2⟩ := hlt
      obtain ⟨x, hx⟩ : ∃ x, es[k]? = some x := ⟨es[k], by simp [hlt1]⟩
      obtain ⟨g, o, cap, e, hg, hcs⟩ := HEA.out.one hx
      simp only [Value.slice.injEq] at e
      obtain ⟨rfl, -, rfl⟩ := e
      have hst := HRK.out.touch
      obtain ⟨x0, x1, x2, x3⟩ := hcs wr _ hst (fun h => h)
      have HCS : Hid (∀ w', Touch (fun k => wa.heap.size ≤ k ∧ ¬ (k = vb)) wr w' → w'.cell? ⟨g, o + k * 4, none⟩ = some (.int .i64 x.d) ∧ w'.cell? ⟨g, o + k * 4 + 1, none⟩ = some (.int .i64 x.a) ∧ w'.cell? ⟨g, o + k * 4 + 2, none⟩ = some (.int .i64 x.b) ∧ w'.cell? ⟨g, o + k * 4 + 3, none⟩ = some x.pv) := by
        show ∀ w', _ → _
        intro w' ht
        exact hcs w' _ ((hst.mono (fun _ _ h => h.elim)).then ht) (fun h => by omega)
      have q0 := blk_c HE2.out 0 _ rfl
      have q1 := blk_c HE2.out 1 _ rfl
      have q2 := blk_c HE2.out 2 _ rfl
      have q3 := blk_c HE2.out 3 _ rfl
      have hlv := World.lt_of_heap HE2.out
      have H25 := Lib.hid (rest_does (HRK.out.still (Touch.refl _ _).drew) (fun k hk => by rw [hk]; exact hlv) (by omega) (HEA.out.ok x (List.mem_of_getElem? hx)))
      have hj0 : (0 : Int) ≤ (k : Int) := by omega
      have hj1 : (k : Int) < (es.length : Int) := by omega
      clear hcs hx hst
      go_wp2_with fail
      go_region_held3 (fun w' => w'.cell? ⟨vb, 0, none⟩ = some (.pointer (some ⟨cT, 0, none⟩)) ∧ w'.cell? ⟨vb, 1, none⟩ = some (.pointer (some ⟨oT, 0, none⟩)) ∧ w'.cell? ⟨vb, 2, none⟩ = some (.pointer (some ⟨cR, 0, none⟩)) ∧ w'.cell? ⟨vb, 3, none⟩ = some (.pointer (some ⟨oP, 0, none⟩)) ∧ w'.cell? ⟨g, o + k * 4, none⟩ = some (.int .i64 x.d) ∧ w'.cell? ⟨g, o + k * 4 + 1, none⟩ = some (.int .i64 x.a) ∧ w'.cell? ⟨g, o + k * 4 + 2, none⟩ = some (.int .i64 x.b) ∧ w'.cell? ⟨g, o + k * 4 + 3, none⟩ = some x.pv) (go_keep)
        ((go_at_call 25; refine H25.out.mono ?_; rintro e wb ⟨rfl, hr5, ht5⟩; obtain ⟨p0, p1, p2, p3⟩ := HCS.out wb ⟨ht5.os, ht5.tape, ht5.output, ht5.size, ht5.block⟩; have hv5 : wb.heap[vb]? = some (.cells #[.pointer (some ⟨cT, 0, none⟩), .pointer (some ⟨oT, 0, none⟩), .pointer (some ⟨cR, 0, none⟩), .pointer (some ⟨oP, 0, none⟩)] 46 (0, 0)) := ht5.keeps HE2.out (fun h => h.2 rfl); have r0 := blk_c hv5 0 _ rfl; have r1 := blk_c hv5 1 _ rfl; have r2 := blk_c hv5 2 _ rfl; have r3 := blk_c hv5 3 _ rfl; have HR5 := Lib.hid hr5; have HV5 := Lib.hid hv5; clear hr5 ht5 hv5))
      all_goals
        go_wp2_with fail
        go_roundw
        case rel => exact ⟨k + 1, by omega, by omega, by go_num, rfl, HR5.out, HV5.out⟩
        case measure => simp [intOf]; omega
    · have hst := HRK.out.touch
      obtain ⟨Tc, Rc, FTc, FRc, hbc, htc, hrc, -, -⟩ := HRK.out.split
      have hok := htc.ok
      have hfc := hok.few
      have HTP := Lib.hid (HT.out.still hst)
      have HRP := Lib.hid (HR.out.still hst)
      have HCELL : Hid (∀ W, Still wr W → (W.cell? ⟨w1.heap.size, 0, none⟩ = some (.pointer (some ⟨bT, 0, none⟩)) ∧ W.cell? ⟨w1.heap.size, 1, none⟩ = some (.pointer (some ⟨bO, 0, none⟩)) ∧ W.cell? ⟨w1.heap.size, 2, none⟩ = some (.pointer (some ⟨bR, 0, none⟩)) ∧ W.cell? ⟨w1.heap.size, 3, none⟩ = some (.pointer (some ⟨bP, 0, none⟩))) ∧
          W.cell? ⟨vb, 0, none⟩ = some (.pointer (some ⟨cT, 0, none⟩)) ∧ W.cell? ⟨vb, 1, none⟩ = some (.pointer (some ⟨oT, 0, none⟩)) ∧ W.cell? ⟨vb, 2, none⟩ = some (.pointer (some ⟨cR, 0, none⟩)) ∧ W.cell? ⟨vb, 3, none⟩ = some (.pointer (some ⟨oP, 0, none⟩))) := by
        show ∀ W, _ → _
        intro W hW
        have a1 := (hst.then hW).keeps HVA.out (fun h => h)
        have a2 := hW.keeps HE2.out (fun h => h)
        exact ⟨⟨blk_c a1 0 _ rfl, blk_c a1 1 _ rfl, blk_c a1 2 _ rfl, blk_c a1 3 _ rfl⟩, blk_c a2 0 _ rfl, blk_c a2 1 _ rfl, blk_c a2 2 _ rfl, blk_c a2 3 _ rfl⟩
      have H26Q : Hid (∀ W, Still wr W → Calls Try.prog 26 #[.agg #[.pointer (some ⟨cT, 0, none⟩), .pointer (some ⟨oT, 0, none⟩), .pointer (some ⟨cR, 0, none⟩), .pointer (some ⟨oP, 0, none⟩)], .int .i64 0] W fun e w' => e = .returned (.bool true) ∧ Still W w') := fun W hW => rest_alikes (HRK.out.still hW) (by omega) rfl
      have H26P : Hid (∀ W, Still wr W → Calls Try.prog 26 #[.agg #[.pointer (some ⟨bT, 0, none⟩), .pointer (some ⟨bO, 0, none⟩), .pointer (some ⟨bR, 0, none⟩), .pointer (some ⟨bP, 0, none⟩)], .int .i64 0] W fun e w' => e = .returned (.bool true) ∧ Still W w') := fun W hW => rest_alikes (HRA.out.still (hst.then hW)) (by omega) rfl
      obtain ⟨D, hD⟩ : ∃ D, decide (pairsOf T.rows = pairsOf Tc.rows) = D := ⟨_, rfl⟩
      have hl1 : (pairsOf T.rows).length < 1099511627776 := by have := HFEW.out; simp only [pairsOf, List.length_map]; omega
      have hl2 : (pairsOf Tc.rows).length < 1099511627776 := by simp only [pairsOf, List.length_map]; omega
      have H34B : Hid (∀ W, Still wr W → Calls Try.prog 34 #[.pointer (some ⟨bT, 0, none⟩), .pointer (some ⟨cT, 0, none⟩)] W fun e w' => e = .returned (.bool D) ∧ Still W w') := fun W hW => by
        rw [← hD]
        exact f34_any (fun w' hs => f19_tab ((HTP.out.still hW).still hs)) (fun w' hs => f19_tab ((htc.still hW).still hs)) hl1 hl2
      have H36B : Hid (∀ W, Still wr W → Calls Try.prog 36 #[.pointer (some ⟨bR, 0, none⟩), .pointer (some ⟨cR, 0, none⟩)] W fun e w' => e = .returned (.bool D) ∧ Still W w') := fun W hW => by
        rw [← hD]
        exact f36_any (fun w' hs => by rw [HB.out.sim.pairs]; exact f31_ref ((HRP.out.still hW).still hs)) (fun w' hs => by rw [hbc.sim.pairs]; exact f31_ref ((hrc.still hW).still hs)) hl1 hl2
      have HFIN : Hid (∀ W, Still wr W → Still w W) := fun W hW => (HRA.out.touch.then hst).then hW
      have HC1 : Hid (Still wr wr.drew) := (Touch.refl _ _).drew
      obtain ⟨⟨a0, a1, a2, a3⟩, b0, b1, b2, b3⟩ := HCELL.out wr (Touch.refl _ _)
      have hcase : (¬ k < es.length) ∨ (k < es.length ∧ ¬ k < 100) := by omega
      have hw1r : w1.heap.size < wr.heap.size := by have := hst.size; omega
      clear hlt hst hbc htc hrc hok hfc hD hl1 hl2
      rcases hcase with hlt | ⟨hlt, hlt2⟩
      all_goals
        go_wp2_with fail
        go_region_held3 (fun w' => w'.cell? ⟨w1.heap.size, 0, none⟩ = some (.pointer (some ⟨bT, 0, none⟩)) ∧ w'.cell? ⟨w1.heap.size, 1, none⟩ = some (.pointer (some ⟨bO, 0, none⟩)) ∧ w'.cell? ⟨w1.heap.size, 2, none⟩ = some (.pointer (some ⟨bR, 0, none⟩)) ∧ w'.cell? ⟨w1.heap.size, 3, none⟩ = some (.pointer (some ⟨bP, 0, none⟩)) ∧ w'.cell? ⟨vb, 0, none⟩ = some (.pointer (some ⟨cT, 0, none⟩)) ∧ w'.cell? ⟨vb, 1, none⟩ = some (.pointer (some ⟨oT, 0, none⟩)) ∧ w'.cell? ⟨vb, 2, none⟩ = some (.pointer (some ⟨cR, 0, none⟩)) ∧ w'.cell? ⟨vb, 3, none⟩ = some (.pointer (some ⟨oP, 0, none⟩))) (go_keep)
          (first
            | (go_at_call 26; (with_reducible refine (H26Q.out _ HC1.out).mono ?_); rintro e x2 ⟨rfl, hs⟩; have HC2b := Lib.hid (HC1.out.then hs); obtain ⟨⟨f0, f1, f2, f3⟩, f4, f5, f6, f7⟩ := HCELL.out _ HC2b.out; clear hs)
            | (go_at_call 26; (with_reducible refine (H26P.out _ HC2b.out).mono ?_); rintro e x3 ⟨rfl, hs⟩; have HC3b := Lib.hid (HC2b.out.then hs); obtain ⟨⟨g0, g1, g2, g3⟩, g4, g5, g6, g7⟩ := HCELL.out _ HC3b.out; clear hs)
            | (go_at_call 34; (with_reducible refine (H34B.out _ HC3b.out).mono ?_); rintro e x4 ⟨rfl, hs⟩; have HC4b := Lib.hid (HC3b.out.then hs); obtain ⟨⟨h0, h1, h2, h3⟩, h4, h5, h6, h7⟩ := HCELL.out _ HC4b.out; clear hs)
            | (go_at_call 36; (with_reducible refine (H36B.out _ HC4b.out).mono ?_); rintro e x5 ⟨rfl, hs⟩; have HC5b := Lib.hid (HC4b.out.then hs); obtain ⟨⟨i0, i1, i2, i3⟩, i4, i5, i6, i7⟩ := HCELL.out _ HC5b.out; clear hs)
            | (go_at_call 17; refine (sane_any _).mono ?_; rintro e x6 ⟨rfl, hs⟩; have HC6b := Lib.hid (HC5b.out.then hs); obtain ⟨⟨j0, j1, j2, j3⟩, j4, j5, j6, j7⟩ := HCELL.out _ HC6b.out; clear hs))
        all_goals
          go_wp2_with fail
          go_ret
          exact ⟨rfl, HFIN.out _ HC6b.out⟩

end Go.Proofs.Ytombofldebmaoaa
