/-
  The document: cased; Upper and Lower, the program's and the document's.
-/
import Derived.Test.YtaanihidheccfaaDoorConvs
import Derived.Test.YtaanihidheccfaaDoorCasA
namespace Go.Proofs.YtaanihidheccfaaDoor
open Go.Shelf Go.RowKit
set_option linter.unusedVariables false

theorem up_has {e c : Int} (he : e = 0 ∨ e = 1 ∨ e = 2) (h : largeP (c - 32) e) : has e (upI e c) ∧ 0 ≤ c ∧ upI e c = c - 32 := by
  have e1 : upI e c = c - 32 := if_pos h
  rw [e1]
  unfold largeP at h
  refine ⟨?_, by omega, rfl⟩
  rcases he with rfl | rfl | rfl
  · rw [has_zero]; omega
  · rw [has_one]; omega
  · rw [has_two]; omega
theorem lo_has {e c : Int} (he : e = 0 ∨ e = 1 ∨ e = 2) (h : largeP c e) : has e (loI e c) ∧ 0 ≤ c ∧ loI e c = c + 32 := by
  have e1 : loI e c = c + 32 := if_pos h
  rw [e1]
  unfold largeP at h
  refine ⟨?_, by omega, rfl⟩
  rcases he with rfl | rfl | rfl
  · rw [has_zero]; omega
  · rw [has_one]; omega
  · rw [has_two]; omega

/-- A part, its letter changed. -/
def upP (e : Int) (p : List UInt8 × Int) : List UInt8 × Int := if largeP (p.2 - 32) e then (enc e (p.2 - 32), p.2) else p
def loP (e : Int) (p : List UInt8 × Int) : List UInt8 × Int := if largeP p.2 e then (enc e (p.2 + 32), p.2) else p
theorem up_join {e : Int} (he : e = 0 ∨ e = 1 ∨ e = 2) (l : List UInt8) : joinP ((parts e l).map (upP e)) = mapL e (upI e) l := by
  unfold joinP mapL
  rw [List.map_map]
  congr 1
  apply List.map_congr_left
  intro p hp
  show (upP e p).1 = mapP e (upI e) p
  unfold upP
  by_cases h : largeP (p.2 - 32) e
  · obtain ⟨h1, h2, h3⟩ := up_has he h
    rw [if_pos h, mapP_yes h2 h1, h3]
  · have e1 : upI e p.2 = p.2 := if_neg h
    rw [if_neg h]
    unfold mapP
    rw [e1]
    by_cases hc : 0 ≤ p.2
    · have hb := parts_back e he l p hp hc
      rw [if_pos ⟨hc, hb.1⟩]; exact hb.2
    · rw [if_neg (fun h => hc h.1)]
theorem lo_join {e : Int} (he : e = 0 ∨ e = 1 ∨ e = 2) (l : List UInt8) : joinP ((parts e l).map (loP e)) = mapL e (loI e) l := by
  unfold joinP mapL
  rw [List.map_map]
  congr 1
  apply List.map_congr_left
  intro p hp
  show (loP e p).1 = mapP e (loI e) p
  unfold loP
  by_cases h : largeP p.2 e
  · obtain ⟨h1, h2, h3⟩ := lo_has he h
    rw [if_pos h, mapP_yes h2 h1, h3]
  · have e1 : loI e p.2 = p.2 := if_neg h
    rw [if_neg h]
    unfold mapP
    rw [e1]
    by_cases hc : 0 ≤ p.2
    · have hb := parts_back e he l p hp hc
      rw [if_pos ⟨hc, hb.1⟩]; exact hb.2
    · rw [if_neg (fun h => hc h.1)]

set_option maxRecDepth 100000 in
set_option maxHeartbeats 4000000 in
theorem f65_up (e : Int) (he : e = 0 ∨ e = 1 ∨ e = 2) (s : ByteArray) (hs : s.size ≤ 100000) (w : World) : Calls Tryd.prog 65 #[.string s, .int .i64 e, .int .i64 97, .int .i64 224, .int .i64 247, .int .i64 (-32)] w fun en w' => en = .returned (.string (bs (mapL e (upI e) (str s)))) ∧ Below w.heap.size w w' := by
  have H56 := Lib.hid (f56 e he s (by omega) w)
  have hl := parts_len e (str s)
  rw [str_len] at hl
  have HPP : Hid (∀ p ∈ parts e (str s), p.1.length ≤ 4 ∧ -1 ≤ p.2 ∧ p.2 ≤ 1114111) := Lib.hid fun p hp => ⟨(parts_part e (str s) p hp).2.1, (parts_part e (str s) p hp).2.2.2⟩
  rw [← up_join he (str s)]
  unfold PartsPost at H56
  generalize parts e (str s) = ps at *
  rcases he with rfl | rfl | rfl
  · go_enter Tryd.func65, Tryd.ntmps65
    go_wp2_with fail
    refine H56.out.mono ?_
    rintro en w3 ⟨v, rfl, ho, hB⟩
    have hz3 := hB.size
    have HB := Lib.hid hB; clear hB
    by_cases h0 : ps = []
    · subst h0
      obtain ⟨⟨a, cap, rfl, -⟩, -⟩ := parts_in ho
      clear ho
      have H57 := Lib.hid (f57_nil a cap w3)
      go_wp2_with fail
      go_loop [14] (fun i => i = .int .i64 0) (fun _ => 0)
      case atStart => rfl
      case round =>
        subst hrel
        go_wp2_with (go_at_call 57; refine H57.out.mono ?_; rintro en w4 ⟨rfl, hB⟩; have HB4 := Lib.hid hB; clear hB)
        go_ret
        exact ⟨rfl, HB.out.trans (HB4.out.mono (by omega))⟩
    · obtain ⟨g, cap, rfl, hcap, hg0, hg, hpb⟩ := PB.of_owns ho h0
      have HPB := Lib.hid hpb; clear hpb ho h0
      go_wp2_with fail
      go_loopw [14] (fun i wr => ∃ j : Nat, i = .int .i64 j ∧ j ≤ ps.length ∧ Hid (PB wr g ((ps.take j).map (upP 0) ++ ps.drop j)) ∧ Hid (Below w.heap.size w wr)) (fun i _ => ps.length - (intOf i).toNat)
      case atStart => exact ⟨0, rfl, Nat.zero_le _, HPB, HB⟩
      case round =>
        obtain ⟨j, rfl, hj, HR, HBR⟩ := hrel
        have hbr := HBR.out.size
        have hglt := HR.out.lt
        by_cases hlt : j < ps.length
        · obtain ⟨p, hp⟩ : ∃ p, ps[j]? = some p := ⟨ps[j], by simp [hlt]⟩
          have hpc := HR.out.cell ((step_at _ ps j).trans hp)
          obtain ⟨hc1, hc2⟩ := hpc
          have hfr := HR.out.free (j * 2)
          obtain ⟨-, hcm1, hcm2⟩ := HPP.out p (List.mem_of_getElem? hp)
          have HP := Lib.hid hp; clear hp
          have HNO : Hid (¬ largeP (p.2 - 32) 0 → PB wr g ((ps.take (j + 1)).map (upP 0) ++ ps.drop (j + 1))) := Lib.hid (fun h => by
            rw [← step_same (upP 0) ps j p HP.out (by unfold upP; rw [if_neg h])]
            exact HR.out)
          have HYES : Hid (largeP (p.2 - 32) 0 → ∀ w5, Below wr.heap.size wr w5 → PB (w5.setCell ⟨g, j * 2, none⟩ (.string (bs (enc 0 (p.2 + (-32)))))) g ((ps.take (j + 1)).map (upP 0) ++ ps.drop (j + 1))) := Lib.hid (fun h w5 hb => by
            have h1 := (HR.out.below hb).set ((step_at _ ps j).trans HP.out) (enc 0 (p.2 + (-32)))
            rw [show ((enc 0 (p.2 + (-32)), p.2) : List UInt8 × Int) = upP 0 p by (unfold upP; rw [if_pos h] <;> rfl), step_set _ _ _ _ HP.out] at h1
            exact h1)
          have hways : (97 ≤ p.2 ∧ p.2 < 123) ∨ (p.2 < 97) ∨ (123 ≤ p.2) := by omega
          rcases hways with ⟨g1, g2⟩ | g1 | g1
          · have q0 : decide (97 ≤ p.2) = true := by simp; omega
            have q1 : decide (p.2 < 123) = true := by simp; omega
            have q2 : decide (224 ≤ p.2) = false := by simp; omega
            have q3 : decide (p.2 ≤ 254) = true := by simp; omega
            have q4 : (p.2 != 247) = true := by simp; omega
            have q5 : (p.2 == 247) = false := by simp; omega
            have hlg : largeP (p.2 - 32) 0 := by unfold largeP; omega
            have hhs : has 0 (p.2 + (-32)) := by have h := (up_has (e := 0) (by decide) hlg).1; rw [(up_has (e := 0) (by decide) hlg).2.2] at h; exact h
            have H53 := Lib.hid (f53 0 (p.2 + (-32)) (by decide) hhs wr)
            have HN := Lib.hid (HYES.out hlg)
            clear hlg hhs
            generalize bs (enc 0 (p.2 + (-32))) = x at *
            have hsub : p.2 + (-32) = p.2 - 32 := by omega
            rw [hsub] at H53
            clear hsub
            clear HNO HYES
            go_wp2_with (go_at_call 53; refine H53.out.mono ?_; rintro en w5 ⟨rfl, hB5⟩; have hz5 := hB5.size; have hd1 := (hB5.cell (p := ⟨g, j * 2, none⟩) hglt).trans hc1; have hd2 := (hB5.frozen (p := ⟨g, j * 2, none⟩) hglt).trans hfr; have HB5 := Lib.hid hB5; clear hB5)
            go_roundw
            case rel => exact ⟨j + 1, by go_num, by omega, Lib.hid (HN.out w5 HB5.out), Lib.hid ((HBR.out.trans (HB5.out.mono hbr)).setCell (by show w.heap.size ≤ g; omega) _)⟩
            case measure => simp [intOf]; omega
          · have q0 : decide (97 ≤ p.2) = false := by simp; omega
            have q1 : decide (p.2 < 123) = true := by simp; omega
            have q2 : decide (224 ≤ p.2) = false := by simp; omega
            have q3 : decide (p.2 ≤ 254) = true := by simp; omega
            have q4 : (p.2 != 247) = true := by simp; omega
            have q5 : (p.2 == 247) = false := by simp; omega
            have HN := Lib.hid (HNO.out (by unfold largeP; omega))
            clear HNO HYES
            go_wp2_with fail
            go_roundw
            case rel => exact ⟨j + 1, by go_num, by omega, HN, HBR⟩
            case measure => simp [intOf]; omega
          · have q0 : decide (97 ≤ p.2) = true := by simp; omega
            have q1 : decide (p.2 < 123) = false := by simp; omega
            have HN := Lib.hid (HNO.out (by unfold largeP; omega))
            clear HNO HYES
            go_wp2_with fail
            go_roundw
            case rel => exact ⟨j + 1, by go_num, by omega, HN, HBR⟩
            case measure => simp [intOf]; omega
        · obtain rfl : j = ps.length := by omega
          have HF : Hid (PB wr g (ps.map (upP 0))) := Lib.hid (by
            have := HR.out
            rw [List.take_length, List.drop_length, List.append_nil] at this
            exact this)
          have H57 := Lib.hid (f57 (.slice (some ⟨g, 0, none⟩) (ps.map (upP 0)).length cap) (ps.map (upP 0)) (by rw [List.length_map]; omega) (by
            intro q hq
            obtain ⟨p, hp, rfl⟩ := List.mem_map.1 hq
            unfold upP
            split
            · have := (enc_len 0 (p.2 + (-32))).2
              show (enc 0 _).length ≤ _
              exact Nat.le_trans (enc_len _ _).2 (by decide)
            · have := (HPP.out p hp).1; omega) wr (HF.out.parts (by rw [List.length_map]; exact hcap)))
          rw [List.length_map] at H57
          go_wp2_with (go_at_call 57; refine H57.out.mono ?_; rintro en w4 ⟨rfl, hB⟩; have HB4 := Lib.hid hB; clear hB)
          go_ret
          exact ⟨rfl, HBR.out.trans (HB4.out.mono hbr)⟩
  · go_enter Tryd.func65, Tryd.ntmps65
    go_wp2_with fail
    refine H56.out.mono ?_
    rintro en w3 ⟨v, rfl, ho, hB⟩
    have hz3 := hB.size
    have HB := Lib.hid hB; clear hB
    by_cases h0 : ps = []
    · subst h0
      obtain ⟨⟨a, cap, rfl, -⟩, -⟩ := parts_in ho
      clear ho
      have H57 := Lib.hid (f57_nil a cap w3)
      go_wp2_with fail
      go_loop [14] (fun i => i = .int .i64 0) (fun _ => 0)
      case atStart => rfl
      case round =>
        subst hrel
        go_wp2_with (go_at_call 57; refine H57.out.mono ?_; rintro en w4 ⟨rfl, hB⟩; have HB4 := Lib.hid hB; clear hB)
        go_ret
        exact ⟨rfl, HB.out.trans (HB4.out.mono (by omega))⟩
    · obtain ⟨g, cap, rfl, hcap, hg0, hg, hpb⟩ := PB.of_owns ho h0
      have HPB := Lib.hid hpb; clear hpb ho h0
      go_wp2_with fail
      go_loopw [14] (fun i wr => ∃ j : Nat, i = .int .i64 j ∧ j ≤ ps.length ∧ Hid (PB wr g ((ps.take j).map (upP 1) ++ ps.drop j)) ∧ Hid (Below w.heap.size w wr)) (fun i _ => ps.length - (intOf i).toNat)
      case atStart => exact ⟨0, rfl, Nat.zero_le _, HPB, HB⟩
      case round =>
        obtain ⟨j, rfl, hj, HR, HBR⟩ := hrel
        have hbr := HBR.out.size
        have hglt := HR.out.lt
        by_cases hlt : j < ps.length
        · obtain ⟨p, hp⟩ : ∃ p, ps[j]? = some p := ⟨ps[j], by simp [hlt]⟩
          have hpc := HR.out.cell ((step_at _ ps j).trans hp)
          obtain ⟨hc1, hc2⟩ := hpc
          have hfr := HR.out.free (j * 2)
          obtain ⟨-, hcm1, hcm2⟩ := HPP.out p (List.mem_of_getElem? hp)
          have HP := Lib.hid hp; clear hp
          have HNO : Hid (¬ largeP (p.2 - 32) 1 → PB wr g ((ps.take (j + 1)).map (upP 1) ++ ps.drop (j + 1))) := Lib.hid (fun h => by
            rw [← step_same (upP 1) ps j p HP.out (by unfold upP; rw [if_neg h])]
            exact HR.out)
          have HYES : Hid (largeP (p.2 - 32) 1 → ∀ w5, Below wr.heap.size wr w5 → PB (w5.setCell ⟨g, j * 2, none⟩ (.string (bs (enc 1 (p.2 + (-32)))))) g ((ps.take (j + 1)).map (upP 1) ++ ps.drop (j + 1))) := Lib.hid (fun h w5 hb => by
            have h1 := (HR.out.below hb).set ((step_at _ ps j).trans HP.out) (enc 1 (p.2 + (-32)))
            rw [show ((enc 1 (p.2 + (-32)), p.2) : List UInt8 × Int) = upP 1 p by (unfold upP; rw [if_pos h] <;> rfl), step_set _ _ _ _ HP.out] at h1
            exact h1)
          have hways : (97 ≤ p.2 ∧ p.2 < 123) ∨ (p.2 < 97) ∨ (123 ≤ p.2 ∧ p.2 < 224) ∨ (224 ≤ p.2 ∧ p.2 < 247) ∨ (p.2 = 247) ∨ (247 < p.2 ∧ p.2 ≤ 254) ∨ (254 < p.2) := by omega
          rcases hways with ⟨g1, g2⟩ | g1 | ⟨g1, g2⟩ | ⟨g1, g2⟩ | g1 | ⟨g1, g2⟩ | g1
          · have q0 : decide (97 ≤ p.2) = true := by simp; omega
            have q1 : decide (p.2 < 123) = true := by simp; omega
            have q2 : decide (224 ≤ p.2) = false := by simp; omega
            have q3 : decide (p.2 ≤ 254) = true := by simp; omega
            have q4 : (p.2 != 247) = true := by simp; omega
            have q5 : (p.2 == 247) = false := by simp; omega
            have hlg : largeP (p.2 - 32) 1 := by unfold largeP; omega
            have hhs : has 1 (p.2 + (-32)) := by have h := (up_has (e := 1) (by decide) hlg).1; rw [(up_has (e := 1) (by decide) hlg).2.2] at h; exact h
            have H53 := Lib.hid (f53 1 (p.2 + (-32)) (by decide) hhs wr)
            have HN := Lib.hid (HYES.out hlg)
            clear hlg hhs
            generalize bs (enc 1 (p.2 + (-32))) = x at *
            have hsub : p.2 + (-32) = p.2 - 32 := by omega
            rw [hsub] at H53
            clear hsub
            clear HNO HYES
            go_wp2_with (go_at_call 53; refine H53.out.mono ?_; rintro en w5 ⟨rfl, hB5⟩; have hz5 := hB5.size; have hd1 := (hB5.cell (p := ⟨g, j * 2, none⟩) hglt).trans hc1; have hd2 := (hB5.frozen (p := ⟨g, j * 2, none⟩) hglt).trans hfr; have HB5 := Lib.hid hB5; clear hB5)
            go_roundw
            case rel => exact ⟨j + 1, by go_num, by omega, Lib.hid (HN.out w5 HB5.out), Lib.hid ((HBR.out.trans (HB5.out.mono hbr)).setCell (by show w.heap.size ≤ g; omega) _)⟩
            case measure => simp [intOf]; omega
          · have q0 : decide (97 ≤ p.2) = false := by simp; omega
            have q1 : decide (p.2 < 123) = true := by simp; omega
            have q2 : decide (224 ≤ p.2) = false := by simp; omega
            have q3 : decide (p.2 ≤ 254) = true := by simp; omega
            have q4 : (p.2 != 247) = true := by simp; omega
            have q5 : (p.2 == 247) = false := by simp; omega
            have HN := Lib.hid (HNO.out (by unfold largeP; omega))
            clear HNO HYES
            go_wp2_with fail
            go_roundw
            case rel => exact ⟨j + 1, by go_num, by omega, HN, HBR⟩
            case measure => simp [intOf]; omega
          · have q0 : decide (97 ≤ p.2) = true := by simp; omega
            have q1 : decide (p.2 < 123) = false := by simp; omega
            have q2 : decide (224 ≤ p.2) = false := by simp; omega
            have q3 : decide (p.2 ≤ 254) = true := by simp; omega
            have q4 : (p.2 != 247) = true := by simp; omega
            have q5 : (p.2 == 247) = false := by simp; omega
            have HN := Lib.hid (HNO.out (by unfold largeP; omega))
            clear HNO HYES
            go_wp2_with fail
            go_roundw
            case rel => exact ⟨j + 1, by go_num, by omega, HN, HBR⟩
            case measure => simp [intOf]; omega
          · have q0 : decide (97 ≤ p.2) = true := by simp; omega
            have q1 : decide (p.2 < 123) = false := by simp; omega
            have q2 : decide (224 ≤ p.2) = true := by simp; omega
            have q3 : decide (p.2 ≤ 254) = true := by simp; omega
            have q4 : (p.2 != 247) = true := by simp; omega
            have q5 : (p.2 == 247) = false := by simp; omega
            have hlg : largeP (p.2 - 32) 1 := by unfold largeP; omega
            have hhs : has 1 (p.2 + (-32)) := by have h := (up_has (e := 1) (by decide) hlg).1; rw [(up_has (e := 1) (by decide) hlg).2.2] at h; exact h
            have H53 := Lib.hid (f53 1 (p.2 + (-32)) (by decide) hhs wr)
            have HN := Lib.hid (HYES.out hlg)
            clear hlg hhs
            generalize bs (enc 1 (p.2 + (-32))) = x at *
            have hsub : p.2 + (-32) = p.2 - 32 := by omega
            rw [hsub] at H53
            clear hsub
            clear HNO HYES
            go_wp2_with (go_at_call 53; refine H53.out.mono ?_; rintro en w5 ⟨rfl, hB5⟩; have hz5 := hB5.size; have hd1 := (hB5.cell (p := ⟨g, j * 2, none⟩) hglt).trans hc1; have hd2 := (hB5.frozen (p := ⟨g, j * 2, none⟩) hglt).trans hfr; have HB5 := Lib.hid hB5; clear hB5)
            go_roundw
            case rel => exact ⟨j + 1, by go_num, by omega, Lib.hid (HN.out w5 HB5.out), Lib.hid ((HBR.out.trans (HB5.out.mono hbr)).setCell (by show w.heap.size ≤ g; omega) _)⟩
            case measure => simp [intOf]; omega
          · have q0 : decide (97 ≤ p.2) = true := by simp; omega
            have q1 : decide (p.2 < 123) = false := by simp; omega
            have q2 : decide (224 ≤ p.2) = true := by simp; omega
            have q3 : decide (p.2 ≤ 254) = true := by simp; omega
            have q4 : (p.2 != 247) = false := by simp [g1]
            have q5 : (p.2 == 247) = true := by simp [g1]
            have HN := Lib.hid (HNO.out (by unfold largeP; omega))
            clear HNO HYES
            go_wp2_with fail
            go_roundw
            case rel => exact ⟨j + 1, by go_num, by omega, HN, HBR⟩
            case measure => simp [intOf]; omega
          · have q0 : decide (97 ≤ p.2) = true := by simp; omega
            have q1 : decide (p.2 < 123) = false := by simp; omega
            have q2 : decide (224 ≤ p.2) = true := by simp; omega
            have q3 : decide (p.2 ≤ 254) = true := by simp; omega
            have q4 : (p.2 != 247) = true := by simp; omega
            have q5 : (p.2 == 247) = false := by simp; omega
            have hlg : largeP (p.2 - 32) 1 := by unfold largeP; omega
            have hhs : has 1 (p.2 + (-32)) := by have h := (up_has (e := 1) (by decide) hlg).1; rw [(up_has (e := 1) (by decide) hlg).2.2] at h; exact h
            have H53 := Lib.hid (f53 1 (p.2 + (-32)) (by decide) hhs wr)
            have HN := Lib.hid (HYES.out hlg)
            clear hlg hhs
            generalize bs (enc 1 (p.2 + (-32))) = x at *
            have hsub : p.2 + (-32) = p.2 - 32 := by omega
            rw [hsub] at H53
            clear hsub
            clear HNO HYES
            go_wp2_with (go_at_call 53; refine H53.out.mono ?_; rintro en w5 ⟨rfl, hB5⟩; have hz5 := hB5.size; have hd1 := (hB5.cell (p := ⟨g, j * 2, none⟩) hglt).trans hc1; have hd2 := (hB5.frozen (p := ⟨g, j * 2, none⟩) hglt).trans hfr; have HB5 := Lib.hid hB5; clear hB5)
            go_roundw
            case rel => exact ⟨j + 1, by go_num, by omega, Lib.hid (HN.out w5 HB5.out), Lib.hid ((HBR.out.trans (HB5.out.mono hbr)).setCell (by show w.heap.size ≤ g; omega) _)⟩
            case measure => simp [intOf]; omega
          · have q0 : decide (97 ≤ p.2) = true := by simp; omega
            have q1 : decide (p.2 < 123) = false := by simp; omega
            have q2 : decide (224 ≤ p.2) = true := by simp; omega
            have q3 : decide (p.2 ≤ 254) = false := by simp; omega
            have q4 : (p.2 != 247) = true := by simp; omega
            have q5 : (p.2 == 247) = false := by simp; omega
            have HN := Lib.hid (HNO.out (by unfold largeP; omega))
            clear HNO HYES
            go_wp2_with fail
            go_roundw
            case rel => exact ⟨j + 1, by go_num, by omega, HN, HBR⟩
            case measure => simp [intOf]; omega
        · obtain rfl : j = ps.length := by omega
          have HF : Hid (PB wr g (ps.map (upP 1))) := Lib.hid (by
            have := HR.out
            rw [List.take_length, List.drop_length, List.append_nil] at this
            exact this)
          have H57 := Lib.hid (f57 (.slice (some ⟨g, 0, none⟩) (ps.map (upP 1)).length cap) (ps.map (upP 1)) (by rw [List.length_map]; omega) (by
            intro q hq
            obtain ⟨p, hp, rfl⟩ := List.mem_map.1 hq
            unfold upP
            split
            · have := (enc_len 1 (p.2 + (-32))).2
              show (enc 1 _).length ≤ _
              exact Nat.le_trans (enc_len _ _).2 (by decide)
            · have := (HPP.out p hp).1; omega) wr (HF.out.parts (by rw [List.length_map]; exact hcap)))
          rw [List.length_map] at H57
          go_wp2_with (go_at_call 57; refine H57.out.mono ?_; rintro en w4 ⟨rfl, hB⟩; have HB4 := Lib.hid hB; clear hB)
          go_ret
          exact ⟨rfl, HBR.out.trans (HB4.out.mono hbr)⟩
  · go_enter Tryd.func65, Tryd.ntmps65
    go_wp2_with fail
    refine H56.out.mono ?_
    rintro en w3 ⟨v, rfl, ho, hB⟩
    have hz3 := hB.size
    have HB := Lib.hid hB; clear hB
    by_cases h0 : ps = []
    · subst h0
      obtain ⟨⟨a, cap, rfl, -⟩, -⟩ := parts_in ho
      clear ho
      have H57 := Lib.hid (f57_nil a cap w3)
      go_wp2_with fail
      go_loop [14] (fun i => i = .int .i64 0) (fun _ => 0)
      case atStart => rfl
      case round =>
        subst hrel
        go_wp2_with (go_at_call 57; refine H57.out.mono ?_; rintro en w4 ⟨rfl, hB⟩; have HB4 := Lib.hid hB; clear hB)
        go_ret
        exact ⟨rfl, HB.out.trans (HB4.out.mono (by omega))⟩
    · obtain ⟨g, cap, rfl, hcap, hg0, hg, hpb⟩ := PB.of_owns ho h0
      have HPB := Lib.hid hpb; clear hpb ho h0
      go_wp2_with fail
      go_loopw [14] (fun i wr => ∃ j : Nat, i = .int .i64 j ∧ j ≤ ps.length ∧ Hid (PB wr g ((ps.take j).map (upP 2) ++ ps.drop j)) ∧ Hid (Below w.heap.size w wr)) (fun i _ => ps.length - (intOf i).toNat)
      case atStart => exact ⟨0, rfl, Nat.zero_le _, HPB, HB⟩
      case round =>
        obtain ⟨j, rfl, hj, HR, HBR⟩ := hrel
        have hbr := HBR.out.size
        have hglt := HR.out.lt
        by_cases hlt : j < ps.length
        · obtain ⟨p, hp⟩ : ∃ p, ps[j]? = some p := ⟨ps[j], by simp [hlt]⟩
          have hpc := HR.out.cell ((step_at _ ps j).trans hp)
          obtain ⟨hc1, hc2⟩ := hpc
          have hfr := HR.out.free (j * 2)
          obtain ⟨-, hcm1, hcm2⟩ := HPP.out p (List.mem_of_getElem? hp)
          have HP := Lib.hid hp; clear hp
          have HNO : Hid (¬ largeP (p.2 - 32) 2 → PB wr g ((ps.take (j + 1)).map (upP 2) ++ ps.drop (j + 1))) := Lib.hid (fun h => by
            rw [← step_same (upP 2) ps j p HP.out (by unfold upP; rw [if_neg h])]
            exact HR.out)
          have HYES : Hid (largeP (p.2 - 32) 2 → ∀ w5, Below wr.heap.size wr w5 → PB (w5.setCell ⟨g, j * 2, none⟩ (.string (bs (enc 2 (p.2 + (-32)))))) g ((ps.take (j + 1)).map (upP 2) ++ ps.drop (j + 1))) := Lib.hid (fun h w5 hb => by
            have h1 := (HR.out.below hb).set ((step_at _ ps j).trans HP.out) (enc 2 (p.2 + (-32)))
            rw [show ((enc 2 (p.2 + (-32)), p.2) : List UInt8 × Int) = upP 2 p by (unfold upP; rw [if_pos h] <;> rfl), step_set _ _ _ _ HP.out] at h1
            exact h1)
          have hways : (97 ≤ p.2 ∧ p.2 < 123) ∨ (p.2 < 97) ∨ (123 ≤ p.2 ∧ p.2 < 224) ∨ (224 ≤ p.2 ∧ p.2 < 247) ∨ (p.2 = 247) ∨ (247 < p.2 ∧ p.2 ≤ 254) ∨ (254 < p.2) := by omega
          rcases hways with ⟨g1, g2⟩ | g1 | ⟨g1, g2⟩ | ⟨g1, g2⟩ | g1 | ⟨g1, g2⟩ | g1
          · have q0 : decide (97 ≤ p.2) = true := by simp; omega
            have q1 : decide (p.2 < 123) = true := by simp; omega
            have q2 : decide (224 ≤ p.2) = false := by simp; omega
            have q3 : decide (p.2 ≤ 254) = true := by simp; omega
            have q4 : (p.2 != 247) = true := by simp; omega
            have q5 : (p.2 == 247) = false := by simp; omega
            have hlg : largeP (p.2 - 32) 2 := by unfold largeP; omega
            have hhs : has 2 (p.2 + (-32)) := by have h := (up_has (e := 2) (by decide) hlg).1; rw [(up_has (e := 2) (by decide) hlg).2.2] at h; exact h
            have H53 := Lib.hid (f53 2 (p.2 + (-32)) (by decide) hhs wr)
            have HN := Lib.hid (HYES.out hlg)
            clear hlg hhs
            generalize bs (enc 2 (p.2 + (-32))) = x at *
            have hsub : p.2 + (-32) = p.2 - 32 := by omega
            rw [hsub] at H53
            clear hsub
            clear HNO HYES
            go_wp2_with (go_at_call 53; refine H53.out.mono ?_; rintro en w5 ⟨rfl, hB5⟩; have hz5 := hB5.size; have hd1 := (hB5.cell (p := ⟨g, j * 2, none⟩) hglt).trans hc1; have hd2 := (hB5.frozen (p := ⟨g, j * 2, none⟩) hglt).trans hfr; have HB5 := Lib.hid hB5; clear hB5)
            go_roundw
            case rel => exact ⟨j + 1, by go_num, by omega, Lib.hid (HN.out w5 HB5.out), Lib.hid ((HBR.out.trans (HB5.out.mono hbr)).setCell (by show w.heap.size ≤ g; omega) _)⟩
            case measure => simp [intOf]; omega
          · have q0 : decide (97 ≤ p.2) = false := by simp; omega
            have q1 : decide (p.2 < 123) = true := by simp; omega
            have q2 : decide (224 ≤ p.2) = false := by simp; omega
            have q3 : decide (p.2 ≤ 254) = true := by simp; omega
            have q4 : (p.2 != 247) = true := by simp; omega
            have q5 : (p.2 == 247) = false := by simp; omega
            have HN := Lib.hid (HNO.out (by unfold largeP; omega))
            clear HNO HYES
            go_wp2_with fail
            go_roundw
            case rel => exact ⟨j + 1, by go_num, by omega, HN, HBR⟩
            case measure => simp [intOf]; omega
          · have q0 : decide (97 ≤ p.2) = true := by simp; omega
            have q1 : decide (p.2 < 123) = false := by simp; omega
            have q2 : decide (224 ≤ p.2) = false := by simp; omega
            have q3 : decide (p.2 ≤ 254) = true := by simp; omega
            have q4 : (p.2 != 247) = true := by simp; omega
            have q5 : (p.2 == 247) = false := by simp; omega
            have HN := Lib.hid (HNO.out (by unfold largeP; omega))
            clear HNO HYES
            go_wp2_with fail
            go_roundw
            case rel => exact ⟨j + 1, by go_num, by omega, HN, HBR⟩
            case measure => simp [intOf]; omega
          · have q0 : decide (97 ≤ p.2) = true := by simp; omega
            have q1 : decide (p.2 < 123) = false := by simp; omega
            have q2 : decide (224 ≤ p.2) = true := by simp; omega
            have q3 : decide (p.2 ≤ 254) = true := by simp; omega
            have q4 : (p.2 != 247) = true := by simp; omega
            have q5 : (p.2 == 247) = false := by simp; omega
            have hlg : largeP (p.2 - 32) 2 := by unfold largeP; omega
            have hhs : has 2 (p.2 + (-32)) := by have h := (up_has (e := 2) (by decide) hlg).1; rw [(up_has (e := 2) (by decide) hlg).2.2] at h; exact h
            have H53 := Lib.hid (f53 2 (p.2 + (-32)) (by decide) hhs wr)
            have HN := Lib.hid (HYES.out hlg)
            clear hlg hhs
            generalize bs (enc 2 (p.2 + (-32))) = x at *
            have hsub : p.2 + (-32) = p.2 - 32 := by omega
            rw [hsub] at H53
            clear hsub
            clear HNO HYES
            go_wp2_with (go_at_call 53; refine H53.out.mono ?_; rintro en w5 ⟨rfl, hB5⟩; have hz5 := hB5.size; have hd1 := (hB5.cell (p := ⟨g, j * 2, none⟩) hglt).trans hc1; have hd2 := (hB5.frozen (p := ⟨g, j * 2, none⟩) hglt).trans hfr; have HB5 := Lib.hid hB5; clear hB5)
            go_roundw
            case rel => exact ⟨j + 1, by go_num, by omega, Lib.hid (HN.out w5 HB5.out), Lib.hid ((HBR.out.trans (HB5.out.mono hbr)).setCell (by show w.heap.size ≤ g; omega) _)⟩
            case measure => simp [intOf]; omega
          · have q0 : decide (97 ≤ p.2) = true := by simp; omega
            have q1 : decide (p.2 < 123) = false := by simp; omega
            have q2 : decide (224 ≤ p.2) = true := by simp; omega
            have q3 : decide (p.2 ≤ 254) = true := by simp; omega
            have q4 : (p.2 != 247) = false := by simp [g1]
            have q5 : (p.2 == 247) = true := by simp [g1]
            have HN := Lib.hid (HNO.out (by unfold largeP; omega))
            clear HNO HYES
            go_wp2_with fail
            go_roundw
            case rel => exact ⟨j + 1, by go_num, by omega, HN, HBR⟩
            case measure => simp [intOf]; omega
          · have q0 : decide (97 ≤ p.2) = true := by simp; omega
            have q1 : decide (p.2 < 123) = false := by simp; omega
            have q2 : decide (224 ≤ p.2) = true := by simp; omega
            have q3 : decide (p.2 ≤ 254) = true := by simp; omega
            have q4 : (p.2 != 247) = true := by simp; omega
            have q5 : (p.2 == 247) = false := by simp; omega
            have hlg : largeP (p.2 - 32) 2 := by unfold largeP; omega
            have hhs : has 2 (p.2 + (-32)) := by have h := (up_has (e := 2) (by decide) hlg).1; rw [(up_has (e := 2) (by decide) hlg).2.2] at h; exact h
            have H53 := Lib.hid (f53 2 (p.2 + (-32)) (by decide) hhs wr)
            have HN := Lib.hid (HYES.out hlg)
            clear hlg hhs
            generalize bs (enc 2 (p.2 + (-32))) = x at *
            have hsub : p.2 + (-32) = p.2 - 32 := by omega
            rw [hsub] at H53
            clear hsub
            clear HNO HYES
            go_wp2_with (go_at_call 53; refine H53.out.mono ?_; rintro en w5 ⟨rfl, hB5⟩; have hz5 := hB5.size; have hd1 := (hB5.cell (p := ⟨g, j * 2, none⟩) hglt).trans hc1; have hd2 := (hB5.frozen (p := ⟨g, j * 2, none⟩) hglt).trans hfr; have HB5 := Lib.hid hB5; clear hB5)
            go_roundw
            case rel => exact ⟨j + 1, by go_num, by omega, Lib.hid (HN.out w5 HB5.out), Lib.hid ((HBR.out.trans (HB5.out.mono hbr)).setCell (by show w.heap.size ≤ g; omega) _)⟩
            case measure => simp [intOf]; omega
          · have q0 : decide (97 ≤ p.2) = true := by simp; omega
            have q1 : decide (p.2 < 123) = false := by simp; omega
            have q2 : decide (224 ≤ p.2) = true := by simp; omega
            have q3 : decide (p.2 ≤ 254) = false := by simp; omega
            have q4 : (p.2 != 247) = true := by simp; omega
            have q5 : (p.2 == 247) = false := by simp; omega
            have HN := Lib.hid (HNO.out (by unfold largeP; omega))
            clear HNO HYES
            go_wp2_with fail
            go_roundw
            case rel => exact ⟨j + 1, by go_num, by omega, HN, HBR⟩
            case measure => simp [intOf]; omega
        · obtain rfl : j = ps.length := by omega
          have HF : Hid (PB wr g (ps.map (upP 2))) := Lib.hid (by
            have := HR.out
            rw [List.take_length, List.drop_length, List.append_nil] at this
            exact this)
          have H57 := Lib.hid (f57 (.slice (some ⟨g, 0, none⟩) (ps.map (upP 2)).length cap) (ps.map (upP 2)) (by rw [List.length_map]; omega) (by
            intro q hq
            obtain ⟨p, hp, rfl⟩ := List.mem_map.1 hq
            unfold upP
            split
            · have := (enc_len 2 (p.2 + (-32))).2
              show (enc 2 _).length ≤ _
              exact Nat.le_trans (enc_len _ _).2 (by decide)
            · have := (HPP.out p hp).1; omega) wr (HF.out.parts (by rw [List.length_map]; exact hcap)))
          rw [List.length_map] at H57
          go_wp2_with (go_at_call 57; refine H57.out.mono ?_; rintro en w4 ⟨rfl, hB⟩; have HB4 := Lib.hid hB; clear hB)
          go_ret
          exact ⟨rfl, HBR.out.trans (HB4.out.mono hbr)⟩

set_option maxRecDepth 100000 in
set_option maxHeartbeats 4000000 in
theorem f65_lo (e : Int) (he : e = 0 ∨ e = 1 ∨ e = 2) (s : ByteArray) (hs : s.size ≤ 100000) (w : World) : Calls Tryd.prog 65 #[.string s, .int .i64 e, .int .i64 65, .int .i64 192, .int .i64 215, .int .i64 (32)] w fun en w' => en = .returned (.string (bs (mapL e (loI e) (str s)))) ∧ Below w.heap.size w w' := by
  have H56 := Lib.hid (f56 e he s (by omega) w)
  have hl := parts_len e (str s)
  rw [str_len] at hl
  have HPP : Hid (∀ p ∈ parts e (str s), p.1.length ≤ 4 ∧ -1 ≤ p.2 ∧ p.2 ≤ 1114111) := Lib.hid fun p hp => ⟨(parts_part e (str s) p hp).2.1, (parts_part e (str s) p hp).2.2.2⟩
  rw [← lo_join he (str s)]
  unfold PartsPost at H56
  generalize parts e (str s) = ps at *
  rcases he with rfl | rfl | rfl
  · go_enter Tryd.func65, Tryd.ntmps65
    go_wp2_with fail
    refine H56.out.mono ?_
    rintro en w3 ⟨v, rfl, ho, hB⟩
    have hz3 := hB.size
    have HB := Lib.hid hB; clear hB
    by_cases h0 : ps = []
    · subst h0
      obtain ⟨⟨a, cap, rfl, -⟩, -⟩ := parts_in ho
      clear ho
      have H57 := Lib.hid (f57_nil a cap w3)
      go_wp2_with fail
      go_loop [14] (fun i => i = .int .i64 0) (fun _ => 0)
      case atStart => rfl
      case round =>
        subst hrel
        go_wp2_with (go_at_call 57; refine H57.out.mono ?_; rintro en w4 ⟨rfl, hB⟩; have HB4 := Lib.hid hB; clear hB)
        go_ret
        exact ⟨rfl, HB.out.trans (HB4.out.mono (by omega))⟩
    · obtain ⟨g, cap, rfl, hcap, hg0, hg, hpb⟩ := PB.of_owns ho h0
      have HPB := Lib.hid hpb; clear hpb ho h0
      go_wp2_with fail
      go_loopw [14] (fun i wr => ∃ j : Nat, i = .int .i64 j ∧ j ≤ ps.length ∧ Hid (PB wr g ((ps.take j).map (loP 0) ++ ps.drop j)) ∧ Hid (Below w.heap.size w wr)) (fun i _ => ps.length - (intOf i).toNat)
      case atStart => exact ⟨0, rfl, Nat.zero_le _, HPB, HB⟩
      case round =>
        obtain ⟨j, rfl, hj, HR, HBR⟩ := hrel
        have hbr := HBR.out.size
        have hglt := HR.out.lt
        by_cases hlt : j < ps.length
        · obtain ⟨p, hp⟩ : ∃ p, ps[j]? = some p := ⟨ps[j], by simp [hlt]⟩
          have hpc := HR.out.cell ((step_at _ ps j).trans hp)
          obtain ⟨hc1, hc2⟩ := hpc
          have hfr := HR.out.free (j * 2)
          obtain ⟨-, hcm1, hcm2⟩ := HPP.out p (List.mem_of_getElem? hp)
          have HP := Lib.hid hp; clear hp
          have HNO : Hid (¬ largeP p.2 0 → PB wr g ((ps.take (j + 1)).map (loP 0) ++ ps.drop (j + 1))) := Lib.hid (fun h => by
            rw [← step_same (loP 0) ps j p HP.out (by unfold loP; rw [if_neg h])]
            exact HR.out)
          have HYES : Hid (largeP p.2 0 → ∀ w5, Below wr.heap.size wr w5 → PB (w5.setCell ⟨g, j * 2, none⟩ (.string (bs (enc 0 (p.2 + (32)))))) g ((ps.take (j + 1)).map (loP 0) ++ ps.drop (j + 1))) := Lib.hid (fun h w5 hb => by
            have h1 := (HR.out.below hb).set ((step_at _ ps j).trans HP.out) (enc 0 (p.2 + (32)))
            rw [show ((enc 0 (p.2 + (32)), p.2) : List UInt8 × Int) = loP 0 p by (unfold loP; rw [if_pos h] <;> rfl), step_set _ _ _ _ HP.out] at h1
            exact h1)
          have hways : (65 ≤ p.2 ∧ p.2 < 91) ∨ (p.2 < 65) ∨ (91 ≤ p.2) := by omega
          rcases hways with ⟨g1, g2⟩ | g1 | g1
          · have q0 : decide (65 ≤ p.2) = true := by simp; omega
            have q1 : decide (p.2 < 91) = true := by simp; omega
            have q2 : decide (192 ≤ p.2) = false := by simp; omega
            have q3 : decide (p.2 ≤ 222) = true := by simp; omega
            have q4 : (p.2 != 215) = true := by simp; omega
            have q5 : (p.2 == 215) = false := by simp; omega
            have hlg : largeP p.2 0 := by unfold largeP; omega
            have hhs : has 0 (p.2 + (32)) := by have h := (lo_has (e := 0) (by decide) hlg).1; rw [(lo_has (e := 0) (by decide) hlg).2.2] at h; exact h
            have H53 := Lib.hid (f53 0 (p.2 + (32)) (by decide) hhs wr)
            have HN := Lib.hid (HYES.out hlg)
            clear hlg hhs
            generalize bs (enc 0 (p.2 + (32))) = x at *
            clear HNO HYES
            go_wp2_with (go_at_call 53; refine H53.out.mono ?_; rintro en w5 ⟨rfl, hB5⟩; have hz5 := hB5.size; have hd1 := (hB5.cell (p := ⟨g, j * 2, none⟩) hglt).trans hc1; have hd2 := (hB5.frozen (p := ⟨g, j * 2, none⟩) hglt).trans hfr; have HB5 := Lib.hid hB5; clear hB5)
            go_roundw
            case rel => exact ⟨j + 1, by go_num, by omega, Lib.hid (HN.out w5 HB5.out), Lib.hid ((HBR.out.trans (HB5.out.mono hbr)).setCell (by show w.heap.size ≤ g; omega) _)⟩
            case measure => simp [intOf]; omega
          · have q0 : decide (65 ≤ p.2) = false := by simp; omega
            have q1 : decide (p.2 < 91) = true := by simp; omega
            have q2 : decide (192 ≤ p.2) = false := by simp; omega
            have q3 : decide (p.2 ≤ 222) = true := by simp; omega
            have q4 : (p.2 != 215) = true := by simp; omega
            have q5 : (p.2 == 215) = false := by simp; omega
            have HN := Lib.hid (HNO.out (by unfold largeP; omega))
            clear HNO HYES
            go_wp2_with fail
            go_roundw
            case rel => exact ⟨j + 1, by go_num, by omega, HN, HBR⟩
            case measure => simp [intOf]; omega
          · have q0 : decide (65 ≤ p.2) = true := by simp; omega
            have q1 : decide (p.2 < 91) = false := by simp; omega
            have HN := Lib.hid (HNO.out (by unfold largeP; omega))
            clear HNO HYES
            go_wp2_with fail
            go_roundw
            case rel => exact ⟨j + 1, by go_num, by omega, HN, HBR⟩
            case measure => simp [intOf]; omega
        · obtain rfl : j = ps.length := by omega
          have HF : Hid (PB wr g (ps.map (loP 0))) := Lib.hid (by
            have := HR.out
            rw [List.take_length, List.drop_length, List.append_nil] at this
            exact this)
          have H57 := Lib.hid (f57 (.slice (some ⟨g, 0, none⟩) (ps.map (loP 0)).length cap) (ps.map (loP 0)) (by rw [List.length_map]; omega) (by
            intro q hq
            obtain ⟨p, hp, rfl⟩ := List.mem_map.1 hq
            unfold loP
            split
            · have := (enc_len 0 (p.2 + (32))).2
              show (enc 0 _).length ≤ _
              exact Nat.le_trans (enc_len _ _).2 (by decide)
            · have := (HPP.out p hp).1; omega) wr (HF.out.parts (by rw [List.length_map]; exact hcap)))
          rw [List.length_map] at H57
          go_wp2_with (go_at_call 57; refine H57.out.mono ?_; rintro en w4 ⟨rfl, hB⟩; have HB4 := Lib.hid hB; clear hB)
          go_ret
          exact ⟨rfl, HBR.out.trans (HB4.out.mono hbr)⟩
  · go_enter Tryd.func65, Tryd.ntmps65
    go_wp2_with fail
    refine H56.out.mono ?_
    rintro en w3 ⟨v, rfl, ho, hB⟩
    have hz3 := hB.size
    have HB := Lib.hid hB; clear hB
    by_cases h0 : ps = []
    · subst h0
      obtain ⟨⟨a, cap, rfl, -⟩, -⟩ := parts_in ho
      clear ho
      have H57 := Lib.hid (f57_nil a cap w3)
      go_wp2_with fail
      go_loop [14] (fun i => i = .int .i64 0) (fun _ => 0)
      case atStart => rfl
      case round =>
        subst hrel
        go_wp2_with (go_at_call 57; refine H57.out.mono ?_; rintro en w4 ⟨rfl, hB⟩; have HB4 := Lib.hid hB; clear hB)
        go_ret
        exact ⟨rfl, HB.out.trans (HB4.out.mono (by omega))⟩
    · obtain ⟨g, cap, rfl, hcap, hg0, hg, hpb⟩ := PB.of_owns ho h0
      have HPB := Lib.hid hpb; clear hpb ho h0
      go_wp2_with fail
      go_loopw [14] (fun i wr => ∃ j : Nat, i = .int .i64 j ∧ j ≤ ps.length ∧ Hid (PB wr g ((ps.take j).map (loP 1) ++ ps.drop j)) ∧ Hid (Below w.heap.size w wr)) (fun i _ => ps.length - (intOf i).toNat)
      case atStart => exact ⟨0, rfl, Nat.zero_le _, HPB, HB⟩
      case round =>
        obtain ⟨j, rfl, hj, HR, HBR⟩ := hrel
        have hbr := HBR.out.size
        have hglt := HR.out.lt
        by_cases hlt : j < ps.length
        · obtain ⟨p, hp⟩ : ∃ p, ps[j]? = some p := ⟨ps[j], by simp [hlt]⟩
          have hpc := HR.out.cell ((step_at _ ps j).trans hp)
          obtain ⟨hc1, hc2⟩ := hpc
          have hfr := HR.out.free (j * 2)
          obtain ⟨-, hcm1, hcm2⟩ := HPP.out p (List.mem_of_getElem? hp)
          have HP := Lib.hid hp; clear hp
          have HNO : Hid (¬ largeP p.2 1 → PB wr g ((ps.take (j + 1)).map (loP 1) ++ ps.drop (j + 1))) := Lib.hid (fun h => by
            rw [← step_same (loP 1) ps j p HP.out (by unfold loP; rw [if_neg h])]
            exact HR.out)
          have HYES : Hid (largeP p.2 1 → ∀ w5, Below wr.heap.size wr w5 → PB (w5.setCell ⟨g, j * 2, none⟩ (.string (bs (enc 1 (p.2 + (32)))))) g ((ps.take (j + 1)).map (loP 1) ++ ps.drop (j + 1))) := Lib.hid (fun h w5 hb => by
            have h1 := (HR.out.below hb).set ((step_at _ ps j).trans HP.out) (enc 1 (p.2 + (32)))
            rw [show ((enc 1 (p.2 + (32)), p.2) : List UInt8 × Int) = loP 1 p by (unfold loP; rw [if_pos h] <;> rfl), step_set _ _ _ _ HP.out] at h1
            exact h1)
          have hways : (65 ≤ p.2 ∧ p.2 < 91) ∨ (p.2 < 65) ∨ (91 ≤ p.2 ∧ p.2 < 192) ∨ (192 ≤ p.2 ∧ p.2 < 215) ∨ (p.2 = 215) ∨ (215 < p.2 ∧ p.2 ≤ 222) ∨ (222 < p.2) := by omega
          rcases hways with ⟨g1, g2⟩ | g1 | ⟨g1, g2⟩ | ⟨g1, g2⟩ | g1 | ⟨g1, g2⟩ | g1
          · have q0 : decide (65 ≤ p.2) = true := by simp; omega
            have q1 : decide (p.2 < 91) = true := by simp; omega
            have q2 : decide (192 ≤ p.2) = false := by simp; omega
            have q3 : decide (p.2 ≤ 222) = true := by simp; omega
            have q4 : (p.2 != 215) = true := by simp; omega
            have q5 : (p.2 == 215) = false := by simp; omega
            have hlg : largeP p.2 1 := by unfold largeP; omega
            have hhs : has 1 (p.2 + (32)) := by have h := (lo_has (e := 1) (by decide) hlg).1; rw [(lo_has (e := 1) (by decide) hlg).2.2] at h; exact h
            have H53 := Lib.hid (f53 1 (p.2 + (32)) (by decide) hhs wr)
            have HN := Lib.hid (HYES.out hlg)
            clear hlg hhs
            generalize bs (enc 1 (p.2 + (32))) = x at *
            clear HNO HYES
            go_wp2_with (go_at_call 53; refine H53.out.mono ?_; rintro en w5 ⟨rfl, hB5⟩; have hz5 := hB5.size; have hd1 := (hB5.cell (p := ⟨g, j * 2, none⟩) hglt).trans hc1; have hd2 := (hB5.frozen (p := ⟨g, j * 2, none⟩) hglt).trans hfr; have HB5 := Lib.hid hB5; clear hB5)
            go_roundw
            case rel => exact ⟨j + 1, by go_num, by omega, Lib.hid (HN.out w5 HB5.out), Lib.hid ((HBR.out.trans (HB5.out.mono hbr)).setCell (by show w.heap.size ≤ g; omega) _)⟩
            case measure => simp [intOf]; omega
          · have q0 : decide (65 ≤ p.2) = false := by simp; omega
            have q1 : decide (p.2 < 91) = true := by simp; omega
            have q2 : decide (192 ≤ p.2) = false := by simp; omega
            have q3 : decide (p.2 ≤ 222) = true := by simp; omega
            have q4 : (p.2 != 215) = true := by simp; omega
            have q5 : (p.2 == 215) = false := by simp; omega
            have HN := Lib.hid (HNO.out (by unfold largeP; omega))
            clear HNO HYES
            go_wp2_with fail
            go_roundw
            case rel => exact ⟨j + 1, by go_num, by omega, HN, HBR⟩
            case measure => simp [intOf]; omega
          · have q0 : decide (65 ≤ p.2) = true := by simp; omega
            have q1 : decide (p.2 < 91) = false := by simp; omega
            have q2 : decide (192 ≤ p.2) = false := by simp; omega
            have q3 : decide (p.2 ≤ 222) = true := by simp; omega
            have q4 : (p.2 != 215) = true := by simp; omega
            have q5 : (p.2 == 215) = false := by simp; omega
            have HN := Lib.hid (HNO.out (by unfold largeP; omega))
            clear HNO HYES
            go_wp2_with fail
            go_roundw
            case rel => exact ⟨j + 1, by go_num, by omega, HN, HBR⟩
            case measure => simp [intOf]; omega
          · have q0 : decide (65 ≤ p.2) = true := by simp; omega
            have q1 : decide (p.2 < 91) = false := by simp; omega
            have q2 : decide (192 ≤ p.2) = true := by simp; omega
            have q3 : decide (p.2 ≤ 222) = true := by simp; omega
            have q4 : (p.2 != 215) = true := by simp; omega
            have q5 : (p.2 == 215) = false := by simp; omega
            have hlg : largeP p.2 1 := by unfold largeP; omega
            have hhs : has 1 (p.2 + (32)) := by have h := (lo_has (e := 1) (by decide) hlg).1; rw [(lo_has (e := 1) (by decide) hlg).2.2] at h; exact h
            have H53 := Lib.hid (f53 1 (p.2 + (32)) (by decide) hhs wr)
            have HN := Lib.hid (HYES.out hlg)
            clear hlg hhs
            generalize bs (enc 1 (p.2 + (32))) = x at *
            clear HNO HYES
            go_wp2_with (go_at_call 53; refine H53.out.mono ?_; rintro en w5 ⟨rfl, hB5⟩; have hz5 := hB5.size; have hd1 := (hB5.cell (p := ⟨g, j * 2, none⟩) hglt).trans hc1; have hd2 := (hB5.frozen (p := ⟨g, j * 2, none⟩) hglt).trans hfr; have HB5 := Lib.hid hB5; clear hB5)
            go_roundw
            case rel => exact ⟨j + 1, by go_num, by omega, Lib.hid (HN.out w5 HB5.out), Lib.hid ((HBR.out.trans (HB5.out.mono hbr)).setCell (by show w.heap.size ≤ g; omega) _)⟩
            case measure => simp [intOf]; omega
          · have q0 : decide (65 ≤ p.2) = true := by simp; omega
            have q1 : decide (p.2 < 91) = false := by simp; omega
            have q2 : decide (192 ≤ p.2) = true := by simp; omega
            have q3 : decide (p.2 ≤ 222) = true := by simp; omega
            have q4 : (p.2 != 215) = false := by simp [g1]
            have q5 : (p.2 == 215) = true := by simp [g1]
            have HN := Lib.hid (HNO.out (by unfold largeP; omega))
            clear HNO HYES
            go_wp2_with fail
            go_roundw
            case rel => exact ⟨j + 1, by go_num, by omega, HN, HBR⟩
            case measure => simp [intOf]; omega
          · have q0 : decide (65 ≤ p.2) = true := by simp; omega
            have q1 : decide (p.2 < 91) = false := by simp; omega
            have q2 : decide (192 ≤ p.2) = true := by simp; omega
            have q3 : decide (p.2 ≤ 222) = true := by simp; omega
            have q4 : (p.2 != 215) = true := by simp; omega
            have q5 : (p.2 == 215) = false := by simp; omega
            have hlg : largeP p.2 1 := by unfold largeP; omega
            have hhs : has 1 (p.2 + (32)) := by have h := (lo_has (e := 1) (by decide) hlg).1; rw [(lo_has (e := 1) (by decide) hlg).2.2] at h; exact h
            have H53 := Lib.hid (f53 1 (p.2 + (32)) (by decide) hhs wr)
            have HN := Lib.hid (HYES.out hlg)
            clear hlg hhs
            generalize bs (enc 1 (p.2 + (32))) = x at *
            clear HNO HYES
            go_wp2_with (go_at_call 53; refine H53.out.mono ?_; rintro en w5 ⟨rfl, hB5⟩; have hz5 := hB5.size; have hd1 := (hB5.cell (p := ⟨g, j * 2, none⟩) hglt).trans hc1; have hd2 := (hB5.frozen (p := ⟨g, j * 2, none⟩) hglt).trans hfr; have HB5 := Lib.hid hB5; clear hB5)
            go_roundw
            case rel => exact ⟨j + 1, by go_num, by omega, Lib.hid (HN.out w5 HB5.out), Lib.hid ((HBR.out.trans (HB5.out.mono hbr)).setCell (by show w.heap.size ≤ g; omega) _)⟩
            case measure => simp [intOf]; omega
          · have q0 : decide (65 ≤ p.2) = true := by simp; omega
            have q1 : decide (p.2 < 91) = false := by simp; omega
            have q2 : decide (192 ≤ p.2) = true := by simp; omega
            have q3 : decide (p.2 ≤ 222) = false := by simp; omega
            have q4 : (p.2 != 215) = true := by simp; omega
            have q5 : (p.2 == 215) = false := by simp; omega
            have HN := Lib.hid (HNO.out (by unfold largeP; omega))
            clear HNO HYES
            go_wp2_with fail
            go_roundw
            case rel => exact ⟨j + 1, by go_num, by omega, HN, HBR⟩
            case measure => simp [intOf]; omega
        · obtain rfl : j = ps.length := by omega
          have HF : Hid (PB wr g (ps.map (loP 1))) := Lib.hid (by
            have := HR.out
            rw [List.take_length, List.drop_length, List.append_nil] at this
            exact this)
          have H57 := Lib.hid (f57 (.slice (some ⟨g, 0, none⟩) (ps.map (loP 1)).length cap) (ps.map (loP 1)) (by rw [List.length_map]; omega) (by
            intro q hq
            obtain ⟨p, hp, rfl⟩ := List.mem_map.1 hq
            unfold loP
            split
            · have := (enc_len 1 (p.2 + (32))).2
              show (enc 1 _).length ≤ _
              exact Nat.le_trans (enc_len _ _).2 (by decide)
            · have := (HPP.out p hp).1; omega) wr (HF.out.parts (by rw [List.length_map]; exact hcap)))
          rw [List.length_map] at H57
          go_wp2_with (go_at_call 57; refine H57.out.mono ?_; rintro en w4 ⟨rfl, hB⟩; have HB4 := Lib.hid hB; clear hB)
          go_ret
          exact ⟨rfl, HBR.out.trans (HB4.out.mono hbr)⟩
  · go_enter Tryd.func65, Tryd.ntmps65
    go_wp2_with fail
    refine H56.out.mono ?_
    rintro en w3 ⟨v, rfl, ho, hB⟩
    have hz3 := hB.size
    have HB := Lib.hid hB; clear hB
    by_cases h0 : ps = []
    · subst h0
      obtain ⟨⟨a, cap, rfl, -⟩, -⟩ := parts_in ho
      clear ho
      have H57 := Lib.hid (f57_nil a cap w3)
      go_wp2_with fail
      go_loop [14] (fun i => i = .int .i64 0) (fun _ => 0)
      case atStart => rfl
      case round =>
        subst hrel
        go_wp2_with (go_at_call 57; refine H57.out.mono ?_; rintro en w4 ⟨rfl, hB⟩; have HB4 := Lib.hid hB; clear hB)
        go_ret
        exact ⟨rfl, HB.out.trans (HB4.out.mono (by omega))⟩
    · obtain ⟨g, cap, rfl, hcap, hg0, hg, hpb⟩ := PB.of_owns ho h0
      have HPB := Lib.hid hpb; clear hpb ho h0
      go_wp2_with fail
      go_loopw [14] (fun i wr => ∃ j : Nat, i = .int .i64 j ∧ j ≤ ps.length ∧ Hid (PB wr g ((ps.take j).map (loP 2) ++ ps.drop j)) ∧ Hid (Below w.heap.size w wr)) (fun i _ => ps.length - (intOf i).toNat)
      case atStart => exact ⟨0, rfl, Nat.zero_le _, HPB, HB⟩
      case round =>
        obtain ⟨j, rfl, hj, HR, HBR⟩ := hrel
        have hbr := HBR.out.size
        have hglt := HR.out.lt
        by_cases hlt : j < ps.length
        · obtain ⟨p, hp⟩ : ∃ p, ps[j]? = some p := ⟨ps[j], by simp [hlt]⟩
          have hpc := HR.out.cell ((step_at _ ps j).trans hp)
          obtain ⟨hc1, hc2⟩ := hpc
          have hfr := HR.out.free (j * 2)
          obtain ⟨-, hcm1, hcm2⟩ := HPP.out p (List.mem_of_getElem? hp)
          have HP := Lib.hid hp; clear hp
          have HNO : Hid (¬ largeP p.2 2 → PB wr g ((ps.take (j + 1)).map (loP 2) ++ ps.drop (j + 1))) := Lib.hid (fun h => by
            rw [← step_same (loP 2) ps j p HP.out (by unfold loP; rw [if_neg h])]
            exact HR.out)
          have HYES : Hid (largeP p.2 2 → ∀ w5, Below wr.heap.size wr w5 → PB (w5.setCell ⟨g, j * 2, none⟩ (.string (bs (enc 2 (p.2 + (32)))))) g ((ps.take (j + 1)).map (loP 2) ++ ps.drop (j + 1))) := Lib.hid (fun h w5 hb => by
            have h1 := (HR.out.below hb).set ((step_at _ ps j).trans HP.out) (enc 2 (p.2 + (32)))
            rw [show ((enc 2 (p.2 + (32)), p.2) : List UInt8 × Int) = loP 2 p by (unfold loP; rw [if_pos h] <;> rfl), step_set _ _ _ _ HP.out] at h1
            exact h1)
          have hways : (65 ≤ p.2 ∧ p.2 < 91) ∨ (p.2 < 65) ∨ (91 ≤ p.2 ∧ p.2 < 192) ∨ (192 ≤ p.2 ∧ p.2 < 215) ∨ (p.2 = 215) ∨ (215 < p.2 ∧ p.2 ≤ 222) ∨ (222 < p.2) := by omega
          rcases hways with ⟨g1, g2⟩ | g1 | ⟨g1, g2⟩ | ⟨g1, g2⟩ | g1 | ⟨g1, g2⟩ | g1
          · have q0 : decide (65 ≤ p.2) = true := by simp; omega
            have q1 : decide (p.2 < 91) = true := by simp; omega
            have q2 : decide (192 ≤ p.2) = false := by simp; omega
            have q3 : decide (p.2 ≤ 222) = true := by simp; omega
            have q4 : (p.2 != 215) = true := by simp; omega
            have q5 : (p.2 == 215) = false := by simp; omega
            have hlg : largeP p.2 2 := by unfold largeP; omega
            have hhs : has 2 (p.2 + (32)) := by have h := (lo_has (e := 2) (by decide) hlg).1; rw [(lo_has (e := 2) (by decide) hlg).2.2] at h; exact h
            have H53 := Lib.hid (f53 2 (p.2 + (32)) (by decide) hhs wr)
            have HN := Lib.hid (HYES.out hlg)
            clear hlg hhs
            generalize bs (enc 2 (p.2 + (32))) = x at *
            clear HNO HYES
            go_wp2_with (go_at_call 53; refine H53.out.mono ?_; rintro en w5 ⟨rfl, hB5⟩; have hz5 := hB5.size; have hd1 := (hB5.cell (p := ⟨g, j * 2, none⟩) hglt).trans hc1; have hd2 := (hB5.frozen (p := ⟨g, j * 2, none⟩) hglt).trans hfr; have HB5 := Lib.hid hB5; clear hB5)
            go_roundw
            case rel => exact ⟨j + 1, by go_num, by omega, Lib.hid (HN.out w5 HB5.out), Lib.hid ((HBR.out.trans (HB5.out.mono hbr)).setCell (by show w.heap.size ≤ g; omega) _)⟩
            case measure => simp [intOf]; omega
          · have q0 : decide (65 ≤ p.2) = false := by simp; omega
            have q1 : decide (p.2 < 91) = true := by simp; omega
            have q2 : decide (192 ≤ p.2) = false := by simp; omega
            have q3 : decide (p.2 ≤ 222) = true := by simp; omega
            have q4 : (p.2 != 215) = true := by simp; omega
            have q5 : (p.2 == 215) = false := by simp; omega
            have HN := Lib.hid (HNO.out (by unfold largeP; omega))
            clear HNO HYES
            go_wp2_with fail
            go_roundw
            case rel => exact ⟨j + 1, by go_num, by omega, HN, HBR⟩
            case measure => simp [intOf]; omega
          · have q0 : decide (65 ≤ p.2) = true := by simp; omega
            have q1 : decide (p.2 < 91) = false := by simp; omega
            have q2 : decide (192 ≤ p.2) = false := by simp; omega
            have q3 : decide (p.2 ≤ 222) = true := by simp; omega
            have q4 : (p.2 != 215) = true := by simp; omega
            have q5 : (p.2 == 215) = false := by simp; omega
            have HN := Lib.hid (HNO.out (by unfold largeP; omega))
            clear HNO HYES
            go_wp2_with fail
            go_roundw
            case rel => exact ⟨j + 1, by go_num, by omega, HN, HBR⟩
            case measure => simp [intOf]; omega
          · have q0 : decide (65 ≤ p.2) = true := by simp; omega
            have q1 : decide (p.2 < 91) = false := by simp; omega
            have q2 : decide (192 ≤ p.2) = true := by simp; omega
            have q3 : decide (p.2 ≤ 222) = true := by simp; omega
            have q4 : (p.2 != 215) = true := by simp; omega
            have q5 : (p.2 == 215) = false := by simp; omega
            have hlg : largeP p.2 2 := by unfold largeP; omega
            have hhs : has 2 (p.2 + (32)) := by have h := (lo_has (e := 2) (by decide) hlg).1; rw [(lo_has (e := 2) (by decide) hlg).2.2] at h; exact h
            have H53 := Lib.hid (f53 2 (p.2 + (32)) (by decide) hhs wr)
            have HN := Lib.hid (HYES.out hlg)
            clear hlg hhs
            generalize bs (enc 2 (p.2 + (32))) = x at *
            clear HNO HYES
            go_wp2_with (go_at_call 53; refine H53.out.mono ?_; rintro en w5 ⟨rfl, hB5⟩; have hz5 := hB5.size; have hd1 := (hB5.cell (p := ⟨g, j * 2, none⟩) hglt).trans hc1; have hd2 := (hB5.frozen (p := ⟨g, j * 2, none⟩) hglt).trans hfr; have HB5 := Lib.hid hB5; clear hB5)
            go_roundw
            case rel => exact ⟨j + 1, by go_num, by omega, Lib.hid (HN.out w5 HB5.out), Lib.hid ((HBR.out.trans (HB5.out.mono hbr)).setCell (by show w.heap.size ≤ g; omega) _)⟩
            case measure => simp [intOf]; omega
          · have q0 : decide (65 ≤ p.2) = true := by simp; omega
            have q1 : decide (p.2 < 91) = false := by simp; omega
            have q2 : decide (192 ≤ p.2) = true := by simp; omega
            have q3 : decide (p.2 ≤ 222) = true := by simp; omega
            have q4 : (p.2 != 215) = false := by simp [g1]
            have q5 : (p.2 == 215) = true := by simp [g1]
            have HN := Lib.hid (HNO.out (by unfold largeP; omega))
            clear HNO HYES
            go_wp2_with fail
            go_roundw
            case rel => exact ⟨j + 1, by go_num, by omega, HN, HBR⟩
            case measure => simp [intOf]; omega
          · have q0 : decide (65 ≤ p.2) = true := by simp; omega
            have q1 : decide (p.2 < 91) = false := by simp; omega
            have q2 : decide (192 ≤ p.2) = true := by simp; omega
            have q3 : decide (p.2 ≤ 222) = true := by simp; omega
            have q4 : (p.2 != 215) = true := by simp; omega
            have q5 : (p.2 == 215) = false := by simp; omega
            have hlg : largeP p.2 2 := by unfold largeP; omega
            have hhs : has 2 (p.2 + (32)) := by have h := (lo_has (e := 2) (by decide) hlg).1; rw [(lo_has (e := 2) (by decide) hlg).2.2] at h; exact h
            have H53 := Lib.hid (f53 2 (p.2 + (32)) (by decide) hhs wr)
            have HN := Lib.hid (HYES.out hlg)
            clear hlg hhs
            generalize bs (enc 2 (p.2 + (32))) = x at *
            clear HNO HYES
            go_wp2_with (go_at_call 53; refine H53.out.mono ?_; rintro en w5 ⟨rfl, hB5⟩; have hz5 := hB5.size; have hd1 := (hB5.cell (p := ⟨g, j * 2, none⟩) hglt).trans hc1; have hd2 := (hB5.frozen (p := ⟨g, j * 2, none⟩) hglt).trans hfr; have HB5 := Lib.hid hB5; clear hB5)
            go_roundw
            case rel => exact ⟨j + 1, by go_num, by omega, Lib.hid (HN.out w5 HB5.out), Lib.hid ((HBR.out.trans (HB5.out.mono hbr)).setCell (by show w.heap.size ≤ g; omega) _)⟩
            case measure => simp [intOf]; omega
          · have q0 : decide (65 ≤ p.2) = true := by simp; omega
            have q1 : decide (p.2 < 91) = false := by simp; omega
            have q2 : decide (192 ≤ p.2) = true := by simp; omega
            have q3 : decide (p.2 ≤ 222) = false := by simp; omega
            have q4 : (p.2 != 215) = true := by simp; omega
            have q5 : (p.2 == 215) = false := by simp; omega
            have HN := Lib.hid (HNO.out (by unfold largeP; omega))
            clear HNO HYES
            go_wp2_with fail
            go_roundw
            case rel => exact ⟨j + 1, by go_num, by omega, HN, HBR⟩
            case measure => simp [intOf]; omega
        · obtain rfl : j = ps.length := by omega
          have HF : Hid (PB wr g (ps.map (loP 2))) := Lib.hid (by
            have := HR.out
            rw [List.take_length, List.drop_length, List.append_nil] at this
            exact this)
          have H57 := Lib.hid (f57 (.slice (some ⟨g, 0, none⟩) (ps.map (loP 2)).length cap) (ps.map (loP 2)) (by rw [List.length_map]; omega) (by
            intro q hq
            obtain ⟨p, hp, rfl⟩ := List.mem_map.1 hq
            unfold loP
            split
            · have := (enc_len 2 (p.2 + (32))).2
              show (enc 2 _).length ≤ _
              exact Nat.le_trans (enc_len _ _).2 (by decide)
            · have := (HPP.out p hp).1; omega) wr (HF.out.parts (by rw [List.length_map]; exact hcap)))
          rw [List.length_map] at H57
          go_wp2_with (go_at_call 57; refine H57.out.mono ?_; rintro en w4 ⟨rfl, hB⟩; have HB4 := Lib.hid hB; clear hB)
          go_ret
          exact ⟨rfl, HBR.out.trans (HB4.out.mono hbr)⟩

end Go.Proofs.YtaanihidheccfaaDoor
