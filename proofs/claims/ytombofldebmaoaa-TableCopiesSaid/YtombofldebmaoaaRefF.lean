/-
  The reference's Same.
-/
import Derived.Test.YtombofldebmaoaaRefE
namespace Go.Proofs.Ytombofldebmaoaa
open Go.RowKit
set_option linter.unusedVariables false

theorem f36_any {w : World} {u v : Value} {ps qs : List P2} (hu : ∀ w', Still w w' → Calls Try.prog 31 #[u] w' (NewPairs w' ps)) (hv : ∀ w', Still w w' → Calls Try.prog 31 #[v] w' (NewPairs w' qs)) (hl : ps.length < 1099511627776) (hl2 : qs.length < 1099511627776) :
    Calls Try.prog 36 #[u, v] w fun e w' => e = .returned (.bool (decide (ps = qs))) ∧ Still w w' := by
  have HU := Lib.hid hu; clear hu
  have HV := Lib.hid hv; clear hv
  go_enter Try.func36, Try.ntmps36
  go_wp2_with fail
  refine (HU.out _ (Touch.refl _ _)).mono ?_
  rintro e w1 ⟨v1, rfl, p1, _, t1⟩
  have HS1 := Lib.hid t1; clear t1
  have HP1 := Lib.hid p1; clear p1
  go_wp2_with fail
  refine (HV.out _ HS1.out).mono ?_
  rintro e w2 ⟨v2, rfl, p2, _, t2⟩
  have HS2 := Lib.hid t2; clear t2
  obtain ⟨a1, cap1, rfl, hc1, hv1⟩ := (HP1.out.still HS2.out).view
  obtain ⟨a2, cap2, rfl, hc2, hv2⟩ := p2.view
  have H1 := Lib.hid hv1
  have H2 := Lib.hid hv2
  clear hv1 hv2 p2
  by_cases hlen : ps.length = qs.length
  · have HL := Lib.hid hlen
    have hb : ((ps.length : Int) != qs.length) = false := by simp [hlen]
    clear hlen
    go_wp2_with fail
    go_loopw [7] (fun i wr => ∃ k : Nat, k ≤ ps.length ∧ i = .int .i64 k ∧ ps.take k = qs.take k ∧ Still w2 wr) (fun i _ => ps.length - (intOf i).toNat)
    case atStart => exact ⟨0, Nat.zero_le _, rfl, by simp, Touch.refl _ _⟩
    case round =>
      obtain ⟨k, hk, rfl, hkk, ht⟩ := hrel
      have HK := Lib.hid hkk; clear hkk
      have HT := Lib.hid ht; clear ht
      by_cases hlt : k < ps.length
      · obtain ⟨p, hp⟩ : ∃ p, ps[k]? = some p := ⟨ps[k], by simp [hlt]⟩
        obtain ⟨q, hq⟩ : ∃ q, qs[k]? = some q := ⟨qs[k]'(by rw [← HL.out]; exact hlt), by simp [← HL.out, hlt]⟩
        obtain ⟨g1, o1, e1, hg1, x1, y1⟩ := H1.out k p hp
        obtain ⟨g2, o2, e2, hg2, x2, y2⟩ := H2.out k q hq
        have x1 := (HT.out.cell (p := ⟨g1, _, none⟩) hg1 (by simp)).trans x1
        have y1 := (HT.out.cell (p := ⟨g1, _, none⟩) hg1 (by simp)).trans y1
        have x2 := (HT.out.cell (p := ⟨g2, _, none⟩) hg2 (by simp)).trans x2
        have y2 := (HT.out.cell (p := ⟨g2, _, none⟩) hg2 (by simp)).trans y2
        have HP := Lib.hid hp; have HQ := Lib.hid hq; clear hp hq
        have hlq : k < qs.length := by have := HL.out; omega
        subst e1; subst e2
        have he := eq37 p.1 p.2 q.1 q.2 wr.drew
        by_cases hpq : p = q
        · have HE : Hid (ps.take (k + 1) = qs.take (k + 1)) := by
            show _ = _
            rw [List.take_add_one, List.take_add_one, HK.out, HP.out, HQ.out, hpq]
          have hbq : (p.1 == q.1 && p.2 == q.2) = true := by simp [hpq]
          rw [hbq] at he
          clear hpq hbq
          go_wp2_with fail
          go_region
          go_wp2_with fail
          go_roundw
          case rel => exact ⟨k + 1, by omega, by go_num, HE.out, HT.out.drew⟩
          case measure => simp [intOf]; omega
        · have HD : Hid (decide (ps = qs) = false) := by
            show _ = _
            simp only [decide_eq_false_iff_not]
            intro h
            have h1 := HP.out
            rw [h, HQ.out] at h1
            exact hpq (Option.some.inj h1).symm
          have hbq : (p.1 == q.1 && p.2 == q.2) = false := by
            rw [Bool.eq_false_iff]
            intro h
            simp only [Bool.and_eq_true, beq_iff_eq] at h
            exact hpq (Prod.ext h.1 h.2)
          rw [hbq] at he
          clear hpq hbq
          go_wp2_with fail
          go_region
          go_wp2_with fail
          go_ret
          rw [HD.out]
          exact ⟨rfl, (HS1.out.then HS2.out).then HT.out.drew⟩
      · have HE : Hid (ps = qs) := by
          have h1 := HK.out
          rwa [List.take_of_length_le (by omega), List.take_of_length_le (by have := HL.out; omega)] at h1
        go_wp2_with fail
        go_ret
        rw [show decide (ps = qs) = true by simp [HE.out]]
        exact ⟨rfl, (HS1.out.then HS2.out).then HT.out⟩
  · have hb : ((ps.length : Int) != qs.length) = true := by simp; omega
    have hd : decide (ps = qs) = false := by simp; exact fun h => hlen (by rw [h])
    have HDD := Lib.hid hd
    clear hlen hd
    go_wp2_with fail
    go_ret
    rw [HDD.out]
    exact ⟨rfl, HS1.out.then HS2.out⟩

end Go.Proofs.Ytombofldebmaoaa
