/-
  Merge, of the reference's table.
-/
import Derived.Test.YtombofldebmaoaaMergeA
import Derived.Deep.RegionWith
namespace Go.Proofs.Ytombofldebmaoaa
open Go.RowKit
set_option linter.unusedVariables false

def putAllR (T : PT) (ps : List P2) : PT := ps.foldl (fun T p => (T.putR p.1 p.2).1) T

theorem putAllR_take (T : PT) (ps : List P2) (j : Nat) (p : P2) (h : ps[j]? = some p) : putAllR T (ps.take (j + 1)) = ((putAllR T (ps.take j)).putR p.1 p.2).1 := by
  unfold putAllR
  rw [List.take_add_one, h, List.foldl_append]
  rfl

theorem putR_next (T : PT) (k v : Int) : (T.putR k v).1.next ≤ T.next + 1 ∧ (T.putR k v).1.walks = T.walks := by
  unfold PT.putR
  split
  · exact ⟨by simp, rfl⟩
  · split
    · exact ⟨by simp, rfl⟩
    · split
      · exact ⟨by simp, rfl⟩
      · split
        · exact ⟨by simp, rfl⟩
        · exact ⟨by simp [PT.addR], rfl⟩

theorem putAllR_next (T : PT) (ps : List P2) : (putAllR T ps).next ≤ T.next + ps.length ∧ (putAllR T ps).walks = T.walks := by
  induction ps generalizing T with
  | nil => exact ⟨Nat.le_refl _, rfl⟩
  | cons p ps ih =>
    have h1 := putR_next T p.1 p.2
    have h2 := ih (T.putR p.1 p.2).1
    refine ⟨?_, h2.2.trans h1.2⟩
    have : (putAllR T (p :: ps)) = putAllR (T.putR p.1 p.2).1 ps := rfl
    rw [this, List.length_cons]
    omega

/-- Merge. -/
def PT.mergeR (T : PT) (ps : List P2) : PT × Int :=
  if T.frozen then (T, 13) else
  if 0 < freshN T.rows ps ∧ (T.strict && decide (0 < opens T.walks)) = true then (T, 8) else
  if 500 < T.rows.length + freshN T.rows ps then (T, 9) else (putAllR T ps, 0)

section
variable {w : World} {F : Nat → Prop} {b : Nat} {R : PT}

set_option maxHeartbeats 2000000 in
theorem f30_ref (h : Ref w F b R) (hn : R.next < 1099511000000) (hl : R.walks.length < 1099511627776) {q : Value} {ps : List P2} (hq : ∀ w', Still w w' → Calls Try.prog 31 #[q] w' (NewPairs w' ps)) (hpl : ps.length ≤ 500) :
    Calls Try.prog 30 #[.pointer (some ⟨b, 0, none⟩), q] w fun e w' => e = .returned (.int .i64 (R.mergeR ps).2) ∧ RMoves w F b (R.mergeR ps).1 w' := by
  have H63 := Lib.hid (f63_ref h)
  have H := Lib.hid h
  have HQ := Lib.hid hq; clear hq
  have hfew := h.few
  obtain ⟨rv, kv, h⟩ := h
  have c2 := h.c2
  obtain ⟨a1, cap1, hrv, _⟩ := h.viewR
  have H1 : Hid (∀ w1, Still w w1 → w1.cell? ⟨b, 3, none⟩ = some (.slice a1 R.rows.length cap1)) := fun w1 hw => by rw [← hrv]; exact (h.still hw).c3
  have HST : Hid (∀ w1, Still w w1 → w1.cell? ⟨b, 1, none⟩ = some (.bool R.strict)) := fun w1 hw => (h.still hw).c1
  clear h hrv
  cases hfr : R.frozen with
  | true =>
    have e : R.mergeR ps = (R, 13) := by simp [PT.mergeR, hfr]
    rw [e]
    rw [hfr] at c2
    clear hfr e
    go_enter Try.func30, Try.ntmps30
    go_wp2_with (go_at_call 63; refine H63.out.mono ?_; rintro e w' ⟨rfl, rfl⟩)
    go_ret
    exact ⟨rfl, H.out.stays (Touch.refl _ _)⟩
  | false =>
    rw [hfr] at c2
    go_enter Try.func30, Try.ntmps30
    go_wp2_with (go_at_call 63; refine H63.out.mono ?_; rintro e w' ⟨rfl, rfl⟩)
    refine (HQ.out w (Touch.refl _ _)).mono ?_
    rintro e w1 ⟨v, rfl, hp, hnew, hs⟩
    have HP := Lib.hid hp
    have HS1 := Lib.hid hs
    have HNW : Hid (∀ k, pairOwn v k → ¬ F k) := by
      rintro k ⟨o, l, c, hk⟩ hF
      have h1 := hnew k o l c hk
      have h2 := H.out.lt k hF
      omega
    obtain ⟨av, capv, hv, _⟩ := hp.view
    clear hp hs hnew
    subst hv
    go_wp2_with fail
    go_loopw [6, 7] (fun n i wr => ∃ j : Nat, j ≤ ps.length ∧ i = .int .i64 j ∧ n = .int .i64 (freshN R.rows (ps.take j)) ∧ Hid (Still w wr) ∧ Hid (Still w1 wr)) (fun _ i _ => ps.length - (intOf i).toNat)
    case atStart => exact ⟨0, Nat.zero_le _, rfl, by simp [freshN], HS1.out, Touch.refl _ _⟩
    case round =>
      obtain ⟨j, hj, rfl, rfl, HT, HT1⟩ := hrel
      have hle := freshN_le R.rows (ps.take j)
      have hle2 : (ps.take j).length ≤ j := List.length_take_le _ _
      by_cases hlt : j < ps.length
      · obtain ⟨p, hp⟩ : ∃ p, ps[j]? = some p := ⟨ps[j], by simp [hlt]⟩
        obtain ⟨g, o, cap, e, hown, hg, hc⟩ := HP.out.at (S := fun _ => False) hp
        obtain ⟨x0, x1⟩ := hc wr HT1.out (fun h => h)
        have sz := HT1.out.size
        simp only [Value.slice.injEq] at e
        obtain ⟨rfl, -, rfl⟩ := e
        have HF := Lib.hid (freshN_take R.rows ps j p hp)
        have H64 := Lib.hid (f64_ref (H.out.still HT.out) p.1)
        clear hc hown hp
        cases hx : decide (atI R.rows p.1 < 0)
        all_goals
          go_wp2_with (go_at_call 64; refine H64.out.mono ?_; rintro e w2 ⟨rfl, hs⟩; have HS2 := Lib.hid hs; clear hs)
          go_roundw
          case rel =>
            refine ⟨j + 1, by omega, by go_num, ?_, HT.out.then HS2.out, HT1.out.then HS2.out⟩
            rw [HF.out]
            simp only [decide_eq_true_eq, decide_eq_false_iff_not] at hx
            simp [hx]
          case measure => simp [intOf]; omega
      · have HE : Hid (ps.take j = ps) := List.take_of_length_le (by omega)
        rw [HE.out] at hle ⊢
        have H65 : Hid (∀ w1, Still w w1 → Calls Try.prog 65 #[.pointer (some ⟨b, 0, none⟩)] w1 fun e w' => e = .returned (.bool (decide (0 < opens R.walks))) ∧ Still w1 w') := fun w1 hw => f65_ref (H.out.still hw) hl
        obtain ⟨N, hN⟩ : ∃ N, freshN R.rows ps = N := ⟨_, rfl⟩
        rw [hN] at hle ⊢
        have d1 := HST.out wr HT.out
        have d3 := H1.out wr HT.out
        by_cases hA : 0 < N ∧ (R.strict && decide (0 < opens R.walks)) = true
        · obtain ⟨hA1, hA3⟩ := hA
          have HEE : Hid (R.mergeR ps = (R, 8)) := by show _ = _; simp only [PT.mergeR, hfr, hN, hA1, hA3]; rfl
          have hb : decide ((0 : Int) < (N : Int)) = true := by simp; omega
          simp only [Bool.and_eq_true] at hA3
          rw [hA3.1] at d1
          rw [hA3.2] at H65
          clear hfr hA3
          go_wp2_with (go_at_call 65; refine (H65.out _ HT.out).mono ?_; rintro e w2 ⟨rfl, hs⟩; have HS2 := Lib.hid hs; clear hs)
          go_ret
          rw [HEE.out]
          exact ⟨rfl, H.out.stays (HT.out.then HS2.out)⟩
        · have hA2 : (N = 0) ∨ (0 < N ∧ R.strict = false) ∨ (0 < N ∧ R.strict = true ∧ decide (0 < opens R.walks) = false) := by
            by_cases h0 : N = 0
            · exact .inl h0
            · cases hs : R.strict
              · exact .inr (.inl ⟨by omega, rfl⟩)
              · cases ho : decide (0 < opens R.walks)
                · exact .inr (.inr ⟨by omega, rfl, rfl⟩)
                · exact absurd ⟨by omega, by rw [hs, ho]; rfl⟩ hA
          by_cases hbig : 500 < R.rows.length + N
          · have HEE : Hid (R.mergeR ps = (R, 9)) := by
              show _ = _
              simp only [PT.mergeR, hfr, hN, if_neg hA, if_pos hbig]
              rfl
            have hbb : decide ((500 : Int) < (R.rows.length : Int) + (N : Int)) = true := by simp; omega
            clear hfr hA
            rcases hA2 with h0 | ⟨h0, hs⟩ | ⟨h0, hs, ho⟩
            · exfalso; omega
            · have hb : decide ((0 : Int) < (N : Int)) = true := by simp; omega
              rw [hs] at d1
              clear hs
              go_wp2_with fail
              go_ret
              rw [HEE.out]
              exact ⟨rfl, H.out.stays HT.out⟩
            · have hb : decide ((0 : Int) < (N : Int)) = true := by simp; omega
              rw [hs] at d1
              rw [ho] at H65
              clear hs ho
              go_wp2_with (go_at_call 65; refine (H65.out _ HT.out).mono ?_; rintro e w2 ⟨rfl, hs⟩; have d3 := H1.out _ (HT.out.then hs); have HS2 := Lib.hid hs; clear hs)
              go_ret
              rw [HEE.out]
              exact ⟨rfl, H.out.stays (HT.out.then HS2.out)⟩
          · have HEE : Hid (R.mergeR ps = (putAllR R ps, 0)) := by
              show _ = _
              simp only [PT.mergeR, hfr, hN, if_neg hA, if_neg hbig]
              rfl
            have hbb : decide ((500 : Int) < (R.rows.length : Int) + (N : Int)) = false := by simp; omega
            clear hfr hA
            rcases hA2 with h0 | ⟨h0, hs⟩ | ⟨h0, hs, ho⟩
            · have hb : decide ((0 : Int) < (N : Int)) = false := by simp; omega
              go_wp2_with fail
              clear h0
              go_loopw [8] (fun i wy => ∃ j : Nat, j ≤ ps.length ∧ i = .int .i64 j ∧ Hid (∃ Fx, Ref wy Fx b (putAllR R (ps.take j)) ∧ Touch F w1 wy ∧ (∀ k, Fx k → F k ∨ w1.heap.size ≤ k))) (fun i _ => ps.length - (intOf i).toNat)
              case atStart => exact ⟨0, Nat.zero_le _, rfl, F, H.out.still HT.out, HT1.out.mono (fun _ _ h => h.elim), fun _ h => .inl h⟩
              case round =>
                obtain ⟨j, hj, rfl, HY⟩ := hrel
                have hpn := putAllR_next R (ps.take j)
                have hle2 : (ps.take j).length ≤ j := List.length_take_le _ _
                by_cases hlt : j < ps.length
                · obtain ⟨p, hp⟩ : ∃ p, ps[j]? = some p := ⟨ps[j], by simp [hlt]⟩
                  obtain ⟨g, o, cap, e, hown, hg, hc⟩ := HP.out.at (S := F) hp
                  obtain ⟨Fx, hx1, hx2, hx3⟩ := HY.out
                  obtain ⟨x0, x1⟩ := hc _ hx2 (HNW.out g hown)
                  have sz := hx2.size
                  simp only [Value.slice.injEq] at e
                  obtain ⟨rfl, -, rfl⟩ := e
                  have HF := Lib.hid (putAllR_take R ps j p hp)
                  have H53 := Lib.hid (f53_ref (hx1.still ((Touch.refl _ _).drew)) (by omega) (by rw [hpn.2]; exact hl) p.1 p.2)
                  have HX2 := Lib.hid hx2.drew
                  have HX3 := Lib.hid hx3
                  clear hc hown hp hx1 hx2 hx3 hpn
                  go_wp2_with fail
                  go_region_with (go_at_call 53; refine H53.out.mono ?_; rintro e w6 ⟨rfl, hm⟩; have HM6 := Lib.hid hm; clear hm)
                  all_goals
                    go_wp2_with fail
                    go_roundw
                    case rel =>
                      refine ⟨j + 1, by omega, by go_num, ?_⟩
                      obtain ⟨Fy, hy1, hy2, hy3⟩ := HM6.out
                      have sz2 := HX2.out.size
                      refine ⟨Fy, by rw [HF.out]; exact hy1, HX2.out.trans hy2 (fun k hk => HX3.out k hk), fun k hk => ?_⟩
                      rcases hy3 k hk with h | h
                      · exact HX3.out k h
                      · exact .inr (by omega)
                    case measure => simp [intOf]; omega
                · have HE5 : Hid (ps.take j = ps) := List.take_of_length_le (by omega)
                  go_wp2_with fail
                  go_ret
                  rw [HEE.out]
                  obtain ⟨Fx, hx1, hx2, hx3⟩ := HY.out
                  rw [HE5.out] at hx1
                  exact ⟨rfl, RMoves.after HS1.out ⟨Fx, hx1, hx2, hx3⟩⟩
            · have hb : decide ((0 : Int) < (N : Int)) = true := by simp; omega
              rw [hs] at d1
              clear hs
              go_wp2_with fail
              go_loopw [8] (fun i wy => ∃ j : Nat, j ≤ ps.length ∧ i = .int .i64 j ∧ Hid (∃ Fx, Ref wy Fx b (putAllR R (ps.take j)) ∧ Touch F w1 wy ∧ (∀ k, Fx k → F k ∨ w1.heap.size ≤ k))) (fun i _ => ps.length - (intOf i).toNat)
              case atStart => exact ⟨0, Nat.zero_le _, rfl, F, H.out.still HT.out, HT1.out.mono (fun _ _ h => h.elim), fun _ h => .inl h⟩
              case round =>
                obtain ⟨j, hj, rfl, HY⟩ := hrel
                have hpn := putAllR_next R (ps.take j)
                have hle2 : (ps.take j).length ≤ j := List.length_take_le _ _
                by_cases hlt : j < ps.length
                · obtain ⟨p, hp⟩ : ∃ p, ps[j]? = some p := ⟨ps[j], by simp [hlt]⟩
                  obtain ⟨g, o, cap, e, hown, hg, hc⟩ := HP.out.at (S := F) hp
                  obtain ⟨Fx, hx1, hx2, hx3⟩ := HY.out
                  obtain ⟨x0, x1⟩ := hc _ hx2 (HNW.out g hown)
                  have sz := hx2.size
                  simp only [Value.slice.injEq] at e
                  obtain ⟨rfl, -, rfl⟩ := e
                  have HF := Lib.hid (putAllR_take R ps j p hp)
                  have H53 := Lib.hid (f53_ref (hx1.still ((Touch.refl _ _).drew)) (by omega) (by rw [hpn.2]; exact hl) p.1 p.2)
                  have HX2 := Lib.hid hx2.drew
                  have HX3 := Lib.hid hx3
                  clear hc hown hp hx1 hx2 hx3 hpn
                  go_wp2_with fail
                  go_region_with (go_at_call 53; refine H53.out.mono ?_; rintro e w6 ⟨rfl, hm⟩; have HM6 := Lib.hid hm; clear hm)
                  all_goals
                    go_wp2_with fail
                    go_roundw
                    case rel =>
                      refine ⟨j + 1, by omega, by go_num, ?_⟩
                      obtain ⟨Fy, hy1, hy2, hy3⟩ := HM6.out
                      have sz2 := HX2.out.size
                      refine ⟨Fy, by rw [HF.out]; exact hy1, HX2.out.trans hy2 (fun k hk => HX3.out k hk), fun k hk => ?_⟩
                      rcases hy3 k hk with h | h
                      · exact HX3.out k h
                      · exact .inr (by omega)
                    case measure => simp [intOf]; omega
                · have HE5 : Hid (ps.take j = ps) := List.take_of_length_le (by omega)
                  go_wp2_with fail
                  go_ret
                  rw [HEE.out]
                  obtain ⟨Fx, hx1, hx2, hx3⟩ := HY.out
                  rw [HE5.out] at hx1
                  exact ⟨rfl, RMoves.after HS1.out ⟨Fx, hx1, hx2, hx3⟩⟩
            · have hb : decide ((0 : Int) < (N : Int)) = true := by simp; omega
              rw [hs] at d1
              rw [ho] at H65
              clear hs ho
              go_wp2_with (go_at_call 65; refine (H65.out _ HT.out).mono ?_; rintro e w2 ⟨rfl, hs⟩; have d3 := H1.out _ (HT.out.then hs); have HS2 := Lib.hid hs; clear hs)
              go_loopw [8] (fun i wy => ∃ j : Nat, j ≤ ps.length ∧ i = .int .i64 j ∧ Hid (∃ Fx, Ref wy Fx b (putAllR R (ps.take j)) ∧ Touch F w1 wy ∧ (∀ k, Fx k → F k ∨ w1.heap.size ≤ k))) (fun i _ => ps.length - (intOf i).toNat)
              case atStart => exact ⟨0, Nat.zero_le _, rfl, F, H.out.still (HT.out.then HS2.out), (HT1.out.then HS2.out).mono (fun _ _ h => h.elim), fun _ h => .inl h⟩
              case round =>
                obtain ⟨j, hj, rfl, HY⟩ := hrel
                have hpn := putAllR_next R (ps.take j)
                have hle2 : (ps.take j).length ≤ j := List.length_take_le _ _
                by_cases hlt : j < ps.length
                · obtain ⟨p, hp⟩ : ∃ p, ps[j]? = some p := ⟨ps[j], by simp [hlt]⟩
                  obtain ⟨g, o, cap, e, hown, hg, hc⟩ := HP.out.at (S := F) hp
                  obtain ⟨Fx, hx1, hx2, hx3⟩ := HY.out
                  obtain ⟨x0, x1⟩ := hc _ hx2 (HNW.out g hown)
                  have sz := hx2.size
                  simp only [Value.slice.injEq] at e
                  obtain ⟨rfl, -, rfl⟩ := e
                  have HF := Lib.hid (putAllR_take R ps j p hp)
                  have H53 := Lib.hid (f53_ref (hx1.still ((Touch.refl _ _).drew)) (by omega) (by rw [hpn.2]; exact hl) p.1 p.2)
                  have HX2 := Lib.hid hx2.drew
                  have HX3 := Lib.hid hx3
                  clear hc hown hp hx1 hx2 hx3 hpn
                  go_wp2_with fail
                  go_region_with (go_at_call 53; refine H53.out.mono ?_; rintro e w6 ⟨rfl, hm⟩; have HM6 := Lib.hid hm; clear hm)
                  all_goals
                    go_wp2_with fail
                    go_roundw
                    case rel =>
                      refine ⟨j + 1, by omega, by go_num, ?_⟩
                      obtain ⟨Fy, hy1, hy2, hy3⟩ := HM6.out
                      have sz2 := HX2.out.size
                      refine ⟨Fy, by rw [HF.out]; exact hy1, HX2.out.trans hy2 (fun k hk => HX3.out k hk), fun k hk => ?_⟩
                      rcases hy3 k hk with h | h
                      · exact HX3.out k h
                      · exact .inr (by omega)
                    case measure => simp [intOf]; omega
                · have HE5 : Hid (ps.take j = ps) := List.take_of_length_le (by omega)
                  go_wp2_with fail
                  go_ret
                  rw [HEE.out]
                  obtain ⟨Fx, hx1, hx2, hx3⟩ := HY.out
                  rw [HE5.out] at hx1
                  exact ⟨rfl, RMoves.after HS1.out ⟨Fx, hx1, hx2, hx3⟩⟩
end

end Go.Proofs.Ytombofldebmaoaa
