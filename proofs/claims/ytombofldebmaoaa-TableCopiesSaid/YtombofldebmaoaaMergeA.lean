/-
  Merge, of the program's table.
-/
import Derived.Test.YtombofldebmaoaaRefE
import Derived.Test.YtombofldebmaoaaPairA
namespace Go.Proofs.Ytombofldebmaoaa
open Go.RowKit
set_option linter.unusedVariables false

/-- How many of the pairs' keys are not there. -/
def freshN (rs : List R3) (ps : List P2) : Nat := (ps.filter (fun p => decide (atI rs p.1 < 0))).length

theorem freshN_le (rs : List R3) (ps : List P2) : freshN rs ps ≤ ps.length := List.length_filter_le _ _

theorem freshN_take (rs : List R3) (ps : List P2) (j : Nat) (p : P2) (h : ps[j]? = some p) : freshN rs (ps.take (j + 1)) = freshN rs (ps.take j) + (if atI rs p.1 < 0 then 1 else 0) := by
  unfold freshN
  rw [List.take_add_one, h]
  simp only [Option.toList_some, List.filter_append, List.length_append]
  congr 1
  by_cases hx : atI rs p.1 < 0 <;> simp [hx]

def putAll (T : PT) (ps : List P2) : PT := ps.foldl (fun T p => (T.put p.1 p.2).1) T

theorem putAll_take (T : PT) (ps : List P2) (j : Nat) (p : P2) (h : ps[j]? = some p) : putAll T (ps.take (j + 1)) = ((putAll T (ps.take j)).put p.1 p.2).1 := by
  unfold putAll
  rw [List.take_add_one, h, List.foldl_append]
  rfl

theorem put_next (T : PT) (k v : Int) : (T.put k v).1.next ≤ T.next + 1 ∧ (T.put k v).1.walks = T.walks := by
  unfold PT.put
  split
  · exact ⟨by simp, rfl⟩
  · split
    · exact ⟨by simp, rfl⟩
    · split
      · exact ⟨by simp, rfl⟩
      · split
        · exact ⟨by simp, rfl⟩
        · exact ⟨by simp [PT.add], rfl⟩

theorem putAll_next (T : PT) (ps : List P2) : (putAll T ps).next ≤ T.next + ps.length ∧ (putAll T ps).walks = T.walks := by
  induction ps generalizing T with
  | nil => exact ⟨Nat.le_refl _, rfl⟩
  | cons p ps ih =>
    have h1 := put_next T p.1 p.2
    have h2 := ih (T.put p.1 p.2).1
    refine ⟨?_, h2.2.trans h1.2⟩
    have : (putAll T (p :: ps)) = putAll (T.put p.1 p.2).1 ps := rfl
    rw [this, List.length_cons]
    omega

/-- Merge. -/
def PT.merge (T : PT) (ps : List P2) : PT × Int :=
  if T.frozen then (T, 13) else
  if 0 < freshN T.rows ps ∧ (T.strict && decide (0 < opens T.walks)) = true then (T, 8) else
  if 500 < T.rows.length + freshN T.rows ps then (T, 9) else (putAll T ps, 0)

section
variable {w : World} {F : Nat → Prop} {b : Nat} {T : PT}

set_option maxHeartbeats 2000000 in
theorem f29_tab (h : Tab w F b T) (hn : T.next < 1099511000000) (hl : T.walks.length < 1099511627776) {q : Value} {ps : List P2} (hq : ∀ w', Still w w' → Calls Try.prog 19 #[q] w' (NewPairs w' ps)) (hpl : ps.length ≤ 500) (hwf : ∀ p ∈ ps, (Lit.int .i64 p.1).wf = true) :
    Calls Try.prog 29 #[.pointer (some ⟨b, 0, none⟩), q] w fun e w' => e = .returned (.int .i64 (T.merge ps).2) ∧ Moves w F b (T.merge ps).1 w' := by
  have H44 := Lib.hid (f44_tab h)
  have H := Lib.hid h
  have HQ := Lib.hid hq; clear hq
  have HWF := Lib.hid hwf; clear hwf
  have hfew := h.ok.few
  have h6 : ∀ w1, Still w w1 → w1.cell? ⟨b, 6, none⟩ = some (.bool T.frozen) := by
    intro w1 hw
    obtain ⟨rv, m, kv, h⟩ := h.still hw
    exact h.c6
  have h1 : ∃ ao cap, ∀ w1, Still w w1 → w1.cell? ⟨b, 1, none⟩ = some (.slice ao T.rows.length cap) := by
    obtain ⟨rv, m, kv, h⟩ := h
    obtain ⟨ao, cap, rfl, _⟩ := h.viewR
    exact ⟨ao, cap, fun w1 hw => (h.kept2 hw).c1⟩
  obtain ⟨a1, cap1, h1⟩ := h1
  have H6 := Lib.hid h6
  have H1 := Lib.hid h1
  clear h h6 h1
  go_enter Try.func29, Try.ntmps29
  go_wp2_with (go_at_call 44; refine H44.out.mono ?_; rintro e w' ⟨rfl, rfl⟩)
  refine (HQ.out w (Touch.refl _ _)).mono ?_
  rintro e w1 ⟨v, rfl, hp, hnew, hs⟩
  have HP := Lib.hid hp
  have HS1 := Lib.hid hs
  obtain ⟨av, capv, hv, _⟩ := hp.view
  clear hp hs hnew
  subst hv
  go_wp2_with fail
  go_loopw [5, 7, 15] (fun n p i wr => ∃ j : Nat, j ≤ ps.length ∧ i = .int .i64 j ∧ n = .int .i64 (freshN T.rows (ps.take j)) ∧ Hid (Still w wr) ∧ Hid (Still w1 wr)) (fun _ _ i _ => ps.length - (intOf i).toNat)
  case atStart => exact ⟨0, Nat.zero_le _, rfl, by simp [freshN], HS1.out, Touch.refl _ _⟩
  case round =>
    obtain ⟨j, hj, rfl, rfl, HT, HT1⟩ := hrel
    have hle := freshN_le T.rows (ps.take j)
    have hle2 : (ps.take j).length ≤ j := List.length_take_le _ _
    by_cases hlt : j < ps.length
    · obtain ⟨p, hp⟩ : ∃ p, ps[j]? = some p := ⟨ps[j], by simp [hlt]⟩
      obtain ⟨g, o, cap, e, hown, hg, hc⟩ := HP.out.at (S := fun _ => False) hp
      obtain ⟨x0, x1⟩ := hc wr HT1.out (fun h => h)
      have sz := HT1.out.size
      simp only [Value.slice.injEq] at e
      obtain ⟨rfl, -, rfl⟩ := e
      have HF := Lib.hid (freshN_take T.rows ps j p hp)
      have H45 := Lib.hid (f45_tab (H.out.still (HT.out.alloc (.cells #[.int .i64 p.1, .int .i64 p.2] 37))) (by omega) (HWF.out p (List.mem_of_getElem? hp)))
      clear hc hown hp
      cases hx : decide (atI T.rows p.1 < 0)
      all_goals
        go_wp2_with (go_at_call 45; refine H45.out.mono ?_; rintro e w2 ⟨rfl, hs⟩; have HS2 := Lib.hid hs; clear hs)
        go_roundw
        case rel =>
          refine ⟨j + 1, by omega, by go_num, ?_, (HT.out.alloc _).then HS2.out, (HT1.out.alloc _).then HS2.out⟩
          rw [HF.out]
          simp only [decide_eq_true_eq, decide_eq_false_iff_not] at hx
          simp [hx]
        case measure => simp [intOf]; omega
    · have HE : Hid (ps.take j = ps) := List.take_of_length_le (by omega)
      rw [HE.out] at hle ⊢
      have H46 : Hid (∀ w1, Still w w1 → Calls Try.prog 46 #[.pointer (some ⟨b, 0, none⟩)] w1 fun e w' => e = .returned (.bool (T.strict && decide (0 < opens T.walks))) ∧ Still w1 w') := fun w1 hw => f46_tab (H.out.still hw) hl
      obtain ⟨N, hN⟩ : ∃ N, freshN T.rows ps = N := ⟨_, rfl⟩
      obtain ⟨SB, hSB⟩ : ∃ SB, (T.strict && decide (0 < opens T.walks)) = SB := ⟨_, rfl⟩
      rw [hSB] at H46
      rw [hN] at hle ⊢
      have d6 := H6.out wr HT.out
      cases hfr : T.frozen with
      | true =>
        have HEE : Hid (T.merge ps = (T, 13)) := by show _ = _; simp [PT.merge, hfr]
        rw [hfr] at d6
        clear hfr
        go_wp2_with fail
        go_ret
        rw [HEE.out]
        exact ⟨rfl, H.out.stays HT.out⟩
      | false =>
        rw [hfr] at d6
        by_cases hA : 0 < N ∧ SB = true
        · obtain ⟨hA1, rfl⟩ := hA
          have HEE : Hid (T.merge ps = (T, 8)) := by show _ = _; simp [PT.merge, hfr, hN, hSB, hA1]
          have hb : decide ((0 : Int) < (N : Int)) = true := by simp; omega
          clear hfr hSB
          go_wp2_with (go_at_call 46; refine (H46.out _ HT.out).mono ?_; rintro e w2 ⟨rfl, hs⟩; have HS2 := Lib.hid hs; clear hs)
          go_ret
          rw [HEE.out]
          exact ⟨rfl, H.out.stays (HT.out.then HS2.out)⟩
        · have hA2 : N = 0 ∨ (0 < N ∧ SB = false) := by
            by_cases h0 : N = 0
            · exact .inl h0
            · refine .inr ⟨by omega, ?_⟩
              cases SB
              · rfl
              · exact absurd ⟨by omega, rfl⟩ hA
          by_cases hbig : 500 < T.rows.length + N
          · have HEE : Hid (T.merge ps = (T, 9)) := by
              show _ = _
              have : ¬ (0 < N ∧ SB = true) := hA
              simp only [PT.merge, hfr, hN, hSB, if_neg this, if_pos hbig]
              rfl
            have hbb : decide ((500 : Int) < (T.rows.length : Int) + (N : Int)) = true := by simp; omega
            clear hfr hSB hA
            rcases hA2 with h0 | ⟨h0, rfl⟩
            · exfalso; omega
            · have hb : decide ((0 : Int) < (N : Int)) = true := by simp; omega
              go_wp2_with (go_at_call 46; refine (H46.out _ HT.out).mono ?_; rintro e w2 ⟨rfl, hs⟩; have d1 := H1.out _ (HT.out.then hs); have HS2 := Lib.hid hs; clear hs)
              go_ret
              rw [HEE.out]
              exact ⟨rfl, H.out.stays (HT.out.then HS2.out)⟩
          · have HEE : Hid (T.merge ps = (putAll T ps, 0)) := by
              show _ = _
              have : ¬ (0 < N ∧ SB = true) := hA
              simp only [PT.merge, hfr, hN, hSB, if_neg this, if_neg hbig]
              rfl
            have hbb : decide ((500 : Int) < (T.rows.length : Int) + (N : Int)) = false := by simp; omega
            clear hfr hSB hA
            have HARM : Hid (∀ w2, Still w w2 → Still w1 w2 → Calls Try.prog 19 #[q] w2 (NewPairs w2 ps)) := fun w2 hw _ => HQ.out w2 hw
            rcases hA2 with h0 | ⟨h0, rfl⟩
            · have hb : decide ((0 : Int) < (N : Int)) = false := by simp; omega
              have d1 := H1.out wr HT.out
              go_wp2_with fail
              refine (HARM.out _ HT.out HT1.out).mono ?_
              rintro e w5 ⟨v5, rfl, hp5, hnew5, hs5⟩
              have HP5 := Lib.hid hp5
              have HS5 := Lib.hid (HT.out.then hs5)
              obtain ⟨av5, capv5, hv5, _⟩ := hp5.view
              have HNW : Hid (∀ k, pairOwn v5 k → ¬ F k) := by
                rintro k ⟨o, l, c, hk⟩ hF
                have h1 := hnew5 k o l c hk
                have h2 := H.out.lt k hF
                have h3 := HT.out.size
                omega
              have HLT : Hid (0 < ps.length → ∀ k, pairOwn v5 k → k < w5.heap.size) := fun hp k hk => hp5.lt hp k hk
              clear hp5 hs5 hnew5
              subst hv5
              go_wp2_with fail
              go_loopw [9, 51] (fun p i wy => ∃ j : Nat, j ≤ ps.length ∧ i = .int .i64 j ∧ Hid (∃ Fx, Tab wy Fx b (putAll T (ps.take j)) ∧ Touch F w5 wy ∧ (∀ k, Fx k → F k ∨ w5.heap.size ≤ k))) (fun _ i _ => ps.length - (intOf i).toNat)
              case atStart => exact ⟨0, Nat.zero_le _, rfl, F, H.out.still HS5.out, Touch.refl _ _, fun _ h => .inl h⟩
              case round =>
                obtain ⟨j, hj, rfl, HY⟩ := hrel
                have hpn := putAll_next T (ps.take j)
                have hle2 : (ps.take j).length ≤ j := List.length_take_le _ _
                by_cases hlt : j < ps.length
                · obtain ⟨p, hp⟩ : ∃ p, ps[j]? = some p := ⟨ps[j], by simp [hlt]⟩
                  obtain ⟨g, o, cap, e, hown, hg, hc⟩ := HP5.out.at (S := F) hp
                  obtain ⟨Fx, hx1, hx2, hx3⟩ := HY.out
                  obtain ⟨x0, x1⟩ := hc _ hx2 (HNW.out g hown)
                  have sz := hx2.size
                  simp only [Value.slice.injEq] at e
                  obtain ⟨rfl, -, rfl⟩ := e
                  have HF := Lib.hid (putAll_take T ps j p hp)
                  have H13 := Lib.hid (f13_tab (hx1.still ((Touch.refl _ _).alloc (.cells #[.int .i64 p.1, .int .i64 p.2] 37))) (by omega) (by rw [hpn.2]; exact hl) (HWF.out p (List.mem_of_getElem? hp)) p.2)
                  have HX2 := Lib.hid (hx2.alloc (.cells #[.int .i64 p.1, .int .i64 p.2] 37))
                  have HX3 := Lib.hid hx3
                  clear hc hown hp hx1 hx2 hx3 hpn
                  go_wp2_with (go_at_call 13; refine H13.out.mono ?_; rintro e w6 ⟨rfl, hm⟩; have HM6 := Lib.hid hm; clear hm)
                  go_roundw
                  case rel =>
                    refine ⟨j + 1, by omega, by go_num, ?_⟩
                    obtain ⟨Fy, hy1, hy2, hy3⟩ := HM6.out
                    have sz2 := HX2.out.size
                    refine ⟨Fy, by rw [HF.out]; exact hy1, HX2.out.trans hy2 (fun k hk => HX3.out k hk), fun k hk => ?_⟩
                    rcases hy3 k hk with h | h
                    · exact HX3.out k h
                    · exact .inr (by omega)
                  case measure => simp [intOf]; omega
                · have HE5 : Hid (ps.take j = ps) := List.take_of_length_le (by omega)
                  go_wp2_with fail
                  go_ret
                  rw [HEE.out]
                  obtain ⟨Fx, hx1, hx2, hx3⟩ := HY.out
                  rw [HE5.out] at hx1
                  exact ⟨rfl, Moves.after HS5.out ⟨Fx, hx1, hx2, hx3⟩⟩
            · have hb : decide ((0 : Int) < (N : Int)) = true := by simp; omega
              go_wp2_with (go_at_call 46; refine (H46.out _ HT.out).mono ?_; rintro e w2 ⟨rfl, hs⟩; have d1 := H1.out _ (HT.out.then hs); have HS2 := Lib.hid hs; clear hs)
              refine (HARM.out _ (HT.out.then HS2.out) (HT1.out.then HS2.out)).mono ?_
              rintro e w5 ⟨v5, rfl, hp5, hnew5, hs5⟩
              have HP5 := Lib.hid hp5
              have HS5 := Lib.hid ((HT.out.then HS2.out).then hs5)
              obtain ⟨av5, capv5, hv5, _⟩ := hp5.view
              have HNW : Hid (∀ k, pairOwn v5 k → ¬ F k) := by
                rintro k ⟨o, l, c, hk⟩ hF
                have h1 := hnew5 k o l c hk
                have h2 := H.out.lt k hF
                have h3 := (HT.out.then HS2.out).size
                omega
              have HLT : Hid (0 < ps.length → ∀ k, pairOwn v5 k → k < w5.heap.size) := fun hp k hk => hp5.lt hp k hk
              clear hp5 hs5 hnew5
              subst hv5
              go_wp2_with fail
              go_loopw [9, 51] (fun p i wy => ∃ j : Nat, j ≤ ps.length ∧ i = .int .i64 j ∧ Hid (∃ Fx, Tab wy Fx b (putAll T (ps.take j)) ∧ Touch F w5 wy ∧ (∀ k, Fx k → F k ∨ w5.heap.size ≤ k))) (fun _ i _ => ps.length - (intOf i).toNat)
              case atStart => exact ⟨0, Nat.zero_le _, rfl, F, H.out.still HS5.out, Touch.refl _ _, fun _ h => .inl h⟩
              case round =>
                obtain ⟨j, hj, rfl, HY⟩ := hrel
                have hpn := putAll_next T (ps.take j)
                have hle2 : (ps.take j).length ≤ j := List.length_take_le _ _
                by_cases hlt : j < ps.length
                · obtain ⟨p, hp⟩ : ∃ p, ps[j]? = some p := ⟨ps[j], by simp [hlt]⟩
                  obtain ⟨g, o, cap, e, hown, hg, hc⟩ := HP5.out.at (S := F) hp
                  obtain ⟨Fx, hx1, hx2, hx3⟩ := HY.out
                  obtain ⟨x0, x1⟩ := hc _ hx2 (HNW.out g hown)
                  have sz := hx2.size
                  simp only [Value.slice.injEq] at e
                  obtain ⟨rfl, -, rfl⟩ := e
                  have HF := Lib.hid (putAll_take T ps j p hp)
                  have H13 := Lib.hid (f13_tab (hx1.still ((Touch.refl _ _).alloc (.cells #[.int .i64 p.1, .int .i64 p.2] 37))) (by omega) (by rw [hpn.2]; exact hl) (HWF.out p (List.mem_of_getElem? hp)) p.2)
                  have HX2 := Lib.hid (hx2.alloc (.cells #[.int .i64 p.1, .int .i64 p.2] 37))
                  have HX3 := Lib.hid hx3
                  clear hc hown hp hx1 hx2 hx3 hpn
                  go_wp2_with (go_at_call 13; refine H13.out.mono ?_; rintro e w6 ⟨rfl, hm⟩; have HM6 := Lib.hid hm; clear hm)
                  go_roundw
                  case rel =>
                    refine ⟨j + 1, by omega, by go_num, ?_⟩
                    obtain ⟨Fy, hy1, hy2, hy3⟩ := HM6.out
                    have sz2 := HX2.out.size
                    refine ⟨Fy, by rw [HF.out]; exact hy1, HX2.out.trans hy2 (fun k hk => HX3.out k hk), fun k hk => ?_⟩
                    rcases hy3 k hk with h | h
                    · exact HX3.out k h
                    · exact .inr (by omega)
                  case measure => simp [intOf]; omega
                · have HE5 : Hid (ps.take j = ps) := List.take_of_length_le (by omega)
                  go_wp2_with fail
                  go_ret
                  rw [HEE.out]
                  obtain ⟨Fx, hx1, hx2, hx3⟩ := HY.out
                  rw [HE5.out] at hx1
                  exact ⟨rfl, Moves.after HS5.out ⟨Fx, hx1, hx2, hx3⟩⟩
end

end Go.Proofs.Ytombofldebmaoaa
