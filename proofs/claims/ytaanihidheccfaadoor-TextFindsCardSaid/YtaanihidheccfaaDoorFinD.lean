/-
  Index of the document: the walk.
-/
import Derived.Test.YtaanihidheccfaaDoorFinC
namespace Go.Proofs.YtaanihidheccfaaDoor
open Go.Shelf Go.RowKit
set_option linter.unusedVariables false

theorem take_le (ps : List (List UInt8 × Int)) (k : Nat) : (joinP (ps.take k)).length ≤ (joinP ps).length := by
  rw [join_split ps k, List.length_append]; omega

set_option maxRecDepth 100000 in
set_option maxHeartbeats 2000000 in
theorem f21_some (e : Int) (he : e = 0 ∨ e = 1 ∨ e = 2) (s t : ByteArray) (hs : s.size ≤ 100000) (ht : t.size ≤ 100000) (m : Nat) (hm : m ≤ (parts e (str s)).length) (hne : parts e (str s) ≠ []) (w : World) : Calls Tryd.prog 21 #[.string s, .string t, .int .i64 e, .int .i64 m] w fun en w' => en = .returned (ansI (idxN (str t) m 0 (parts e (str s)))) ∧ Below w.heap.size w w' := by
  have HG := Lib.hid (f51twow e s t (by omega) (by omega) w)
  rw [badN_ok (xs := [s, t]) he (by intro x hx; simp at hx; rcases hx with rfl | rfl <;> assumption)] at HG
  have hA : Below w.heap.size w (w.alloc (.cells #[.string s, .string t] 9)) := (Below.refl _ _).alloc (Nat.le_refl _) _
  have HP := Lib.hid (f56 e he s (by omega) (w.alloc (.cells #[.string s, .string t] 9)))
  have HA := Lib.hid hA; clear hA
  have hl := parts_len e (str s)
  rw [str_len] at hl
  have HPL : Hid (∀ p ∈ parts e (str s), p.1.length ≤ 100000) := Lib.hid fun p hp => by have := (parts_part e (str s) p hp).2.1; omega
  have HJ : Hid (str s = joinP (parts e (str s))) := Lib.hid (by unfold joinP; rw [parts_join])
  unfold PartsPost at HP
  generalize parts e (str s) = ps at *
  clear he
  have HNE := Lib.hid hne; clear hne
  have htl : (ps.take m).length = m := by rw [List.length_take]; omega
  have HTL := Lib.hid htl; clear htl
  go_enter Tryd.func21, Tryd.ntmps21
  go_wp2_with (go_at_call 51; refine HG.out.mono ?_; rintro en w2 ⟨rfl, rfl⟩)
  refine HP.out.mono ?_
  rintro en w3 ⟨v, rfl, ho, hB⟩
  have hz3 := hB.size
  simp only [World.size_alloc] at hz3
  have HB : Hid (Below w.heap.size w w3) := Lib.hid (HA.out.trans (hB.mono (by simp)))
  clear hB
  have hpi := (parts_in ho).1
  obtain ⟨g, cap, rfl, hg1⟩ := (parts_in ho).2 HNE.out
  obtain ⟨g', o', cap', e1, hcap, hg2, hcl⟩ := hpi.some HNE.out
  injection e1 with e1 e2 e3
  injection e1 with e1
  injection e1 with e1 e4
  subst e1 e3 e4
  have HCL := Lib.hid hcl; clear hcl ho hpi e2
  have HJN := Lib.hid (f57 (.slice (some ⟨g, 0, none⟩) m cap) (ps.take m) (by rw [HTL.out]; omega) (fun p hp => HPL.out p (List.mem_of_mem_take hp)) w3 ⟨_, _, by rw [HTL.out], by simp, by rw [HTL.out]; omega, fun j p hp => ⟨g, 0, rfl, hg2, HCL.out j p (by rw [List.getElem?_take] at hp; split at hp; exact hp; cases hp)⟩⟩)
  have hjs : (bs (joinP (ps.take m))).size ≤ s.size := by rw [← str_len, ← str_len s, str_bs, HJ.out]; exact take_le ps m
  have hjz : (bs (joinP (ps.take m))).size = (joinP (ps.take m)).length := by rw [← str_len, str_bs]
  have HJZ := Lib.hid hjz; clear hjz
  go_wp2_with (go_at_call 57; refine HJN.out.mono ?_; rintro en w4 ⟨rfl, hB⟩; have hz4 := hB.size; have HB4 := Lib.hid hB; clear hB)
  have HC4 : Hid (∀ (j : Nat) p, ps[j]? = some p → w4.cell? ⟨g, j * 2, none⟩ = some (.string (bs p.1))) := Lib.hid fun j p hp => (HB4.out.cell (p := ⟨g, _, none⟩) hg2).trans (by have := (HCL.out j p hp).1; rw [Nat.zero_add] at this; exact this)
  have HBE : Hid (Below w.heap.size w w4) := Lib.hid (HB.out.trans (HB4.out.mono (by omega)))
  go_loop [11, 12] (fun av k => ∃ a j : Nat, av = .int .i64 a ∧ k = .int .i64 j ∧ m ≤ j ∧ j ≤ ps.length + 1 ∧ a ≤ s.size ∧ Hid (j ≤ ps.length → idxN (str t) m 0 ps = idxN (str t) m j (ps.drop j) ∧ a = (joinP (ps.take j)).length) ∧ Hid (ps.length < j → idxN (str t) m 0 ps = (0, 3))) (fun _ k => ps.length + 1 - (intOf k).toNat)
  case atStart => exact ⟨(bs (joinP (ps.take m))).size, m, rfl, rfl, Nat.le_refl _, by omega, hjs, Lib.hid (fun _ => ⟨idx_skip m (by omega) hm, HJZ.out⟩), Lib.hid (fun h => by omega)⟩
  case round =>
    obtain ⟨a, j, rfl, rfl, hmj, hj, ha, HI, HO⟩ := hrel
    clear hjs
    by_cases hj' : j ≤ ps.length
    · have HD : Hid ((str s).drop a = joinP (ps.drop j)) := Lib.hid (by rw [HJ.out]; exact drop_join ps j a (HI.out hj').2)
      have HMJ : Hid ((m : Int) ≤ (j : Int)) := Lib.hid (by omega)
      by_cases hr : a + t.size ≤ s.size
      · have HX := Lib.hid (hp_ext s t a hr)
        rw [HD.out] at HX
        obtain ⟨b, hb⟩ : ∃ b : Nat, a + t.size = b := ⟨_, rfl⟩
        have hbi : (a : Int) + (t.size : Int) = (b : Int) := by omega
        have hab : a ≤ b := by omega
        rw [hb] at HX hr
        by_cases hh : s.extract a b = t
        · have HY := Lib.hid (idx_yes (part := str t) (fr := (m : Int)) (ps := ps) (k := j) ⟨HMJ.out, HX.out.2 hh⟩)
          go_wp2_with fail
          go_ret2
          exact ⟨by rw [(HI.out hj').1, HY.out]; rfl, HBE.out⟩
        · have HNH := Lib.hid hh
          have q4 : ((s.extract a b).toList == t.toList) = false := by rw [Lib.toList_data, Lib.toList_data, beq_eq_false_iff_ne]; intro h; exact hh (str_inj h)
          clear hh
          by_cases hlt : j < ps.length
          · obtain ⟨p, hp⟩ : ∃ p, ps[j]? = some p := ⟨ps[j], by simp [hlt]⟩
            have hc := HC4.out j p hp
            have HN := Lib.hid (idx_next (part := str t) (fr := (m : Int)) hp (fun h => HNH.out (HX.out.1 h.2)))
            have HT := Lib.hid (take_join hp)
            have hps : (bs p.1).size = p.1.length := by rw [← str_len, str_bs]
            have HA2 : Hid (a + (bs p.1).size = (joinP (ps.take (j + 1))).length) := Lib.hid (by rw [HT.out, ← (HI.out hj').2, hps])
            have hle2 : a + (bs p.1).size ≤ s.size := by rw [HA2.out, ← str_len s, HJ.out]; exact take_le ps (j + 1)
            have HI2 : Hid (j + 1 ≤ ps.length → idxN (str t) m 0 ps = idxN (str t) m (j + 1) (ps.drop (j + 1)) ∧ a + (bs p.1).size = (joinP (ps.take (j + 1))).length) := Lib.hid (fun _ => ⟨(HI.out hj').1.trans HN.out, HA2.out⟩)
            clear hp hps
            generalize bs p.1 = y at *
            go_wp2_with fail
            go_round
            case rel => exact ⟨a + y.size, j + 1, by go_num, by go_num, by omega, by omega, by omega, HI2, Lib.hid (fun h => by omega)⟩
            case measure => simp [intOf] <;> omega
          · obtain rfl : j = ps.length := by omega
            have HE := Lib.hid (idx_end (part := str t) (fr := (m : Int)) (ps := ps) (fun h => HNH.out (HX.out.1 h.2)))
            have HF : Hid (ps.length < ps.length + 1 → idxN (str t) m 0 ps = (0, 3)) := Lib.hid (fun _ => (HI.out hj').1.trans HE.out)
            go_wp2_with fail
            go_round
            case rel => exact ⟨a, ps.length + 1, by go_num, by go_num, by omega, by omega, by omega, Lib.hid (fun h => by omega), HF⟩
            case measure => simp [intOf] <;> omega

      · have HSH := Lib.hid (hp_short s t a (by omega) ha)
        rw [HD.out] at HSH
        have q5 : decide ((t.size : Int) ≤ (s.size : Int) - (a : Int)) = false := by simp; omega
        by_cases hlt : j < ps.length
        · obtain ⟨p, hp⟩ : ∃ p, ps[j]? = some p := ⟨ps[j], by simp [hlt]⟩
          have hc := HC4.out j p hp
          have HN := Lib.hid (idx_next (part := str t) (fr := (m : Int)) hp (fun h => HSH.out h.2))
          have HT := Lib.hid (take_join hp)
          have hps : (bs p.1).size = p.1.length := by rw [← str_len, str_bs]
          have HA2 : Hid (a + (bs p.1).size = (joinP (ps.take (j + 1))).length) := Lib.hid (by rw [HT.out, ← (HI.out hj').2, hps])
          have hle2 : a + (bs p.1).size ≤ s.size := by rw [HA2.out, ← str_len s, HJ.out]; exact take_le ps (j + 1)
          have HI2 : Hid (j + 1 ≤ ps.length → idxN (str t) m 0 ps = idxN (str t) m (j + 1) (ps.drop (j + 1)) ∧ a + (bs p.1).size = (joinP (ps.take (j + 1))).length) := Lib.hid (fun _ => ⟨(HI.out hj').1.trans HN.out, HA2.out⟩)
          clear hp hps
          generalize bs p.1 = y at *
          go_wp2_with fail
          go_round
          case rel => exact ⟨a + y.size, j + 1, by go_num, by go_num, by omega, by omega, by omega, HI2, Lib.hid (fun h => by omega)⟩
          case measure => simp [intOf] <;> omega
        · obtain rfl : j = ps.length := by omega
          have HE := Lib.hid (idx_end (part := str t) (fr := (m : Int)) (ps := ps) (fun h => HSH.out h.2))
          have HF : Hid (ps.length < ps.length + 1 → idxN (str t) m 0 ps = (0, 3)) := Lib.hid (fun _ => (HI.out hj').1.trans HE.out)
          go_wp2_with fail
          go_round
          case rel => exact ⟨a, ps.length + 1, by go_num, by go_num, by omega, by omega, by omega, Lib.hid (fun h => by omega), HF⟩
          case measure => simp [intOf] <;> omega

    · have hj2 : ps.length < j := by omega
      go_wp2_with fail
      go_ret2
      exact ⟨by rw [HO.out hj2]; rfl, HBE.out⟩

end Go.Proofs.YtaanihidheccfaaDoor
