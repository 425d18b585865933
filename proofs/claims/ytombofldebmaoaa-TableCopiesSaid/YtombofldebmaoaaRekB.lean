/-
  Rekey, of the program's table, walked.
-/
import Derived.Test.YtombofldebmaoaaRekD
namespace Go.Proofs.Ytombofldebmaoaa
open Go.RowKit Go.Maps
set_option linter.unusedVariables false

theorem still_grown {w w' : World} (h : Still w w') : w.grownBy w' none := ⟨h.os, h.tape, h.output, h.size, fun i hi _ => h.block i hi (fun h => h)⟩

section
variable {w : World} {F : Nat → Prop} {b : Nat} {T : PT}

set_option maxRecDepth 100000 in
set_option maxHeartbeats 16000000 in
theorem f27_tab (h : Tab w F b T) (hn : T.next < 1099511000000) (hl : T.walks.length < 1099511627776) {v : Value} {ps : List P2} (hp : PairsIn w v ps) :
    Calls Try.prog 27 #[.pointer (some ⟨b, 0, none⟩), v] w fun e w' => e = .returned (.int .i64 (T.rekey ps).2) ∧ Moves w F b (T.rekey ps).1 w' := by
  have H44 := Lib.hid (f44_tab h)
  have H := Lib.hid h
  have HWF := Lib.hid hp.wf
  have HP := Lib.hid hp.pairs
  have hpl := hp.len
  have hpl2 : ps.length < 1099511627776 * 1099511627776 := by unfold maxLen at hpl; omega
  obtain ⟨av, capv, hv, _⟩ := hp.pairs.view
  clear hp h hpl
  subst hv
  obtain ⟨i0, hi00, hz0, hz1, hz2⟩ := info_parts info76
  have HI := Lib.hid hi00
  clear hi00
  by_cases hbig : 500 < ps.length
  · have e : T.rekey ps = (T, 1) := by simp [PT.rekey, hbig]
    rw [e]
    have hb : decide ((500 : Int) < (ps.length : Int)) = true := by simp; omega
    clear e hbig
    go_enter Try.func27, Try.ntmps27
    go_wp2_with (go_at_call 44; refine H44.out.mono ?_; rintro e w' ⟨rfl, rfl⟩)
    go_ret
    exact ⟨rfl, H.out.stays (Touch.refl _ _)⟩
  · have hb : decide ((500 : Int) < (ps.length : Int)) = false := by simp; omega
    have hmm := @run_makeMap Try.prog
    go_enter Try.func27, Try.ntmps27
    go_wp2_with (go_at_call 44; refine H44.out.mono ?_; rintro e w' ⟨rfl, rfl⟩)
    go_loopw [30] (fun i wr => ∃ j : Nat, j ≤ ps.length ∧ i = .int .i64 j ∧ Hid ((keysOf (ps.take j)).Nodup) ∧ Hid (IMap wr w.heap.size j (toOf (ps.take j))) ∧ Hid (Still w wr)) (fun i _ => ps.length - (intOf i).toNat)
    case atStart => exact ⟨0, Nat.zero_le _, rfl, by show List.Nodup _; simp [keysOf], IMap.made w, (Touch.refl _ _).alloc _⟩
    case round =>
      obtain ⟨j, hj, rfl, HND, HIM, HT⟩ := hrel
      by_cases hlt : j < ps.length
      · obtain ⟨p, hp⟩ : ∃ p, ps[j]? = some p := ⟨ps[j], by simp [hlt]⟩
        obtain ⟨g, o, cap, e, hown, hg, hc⟩ := HP.out.at (S := fun _ => False) hp
        obtain ⟨x0, x1⟩ := hc wr HT.out (fun h => h)
        have sz := HT.out.size
        simp only [Value.slice.injEq] at e
        obtain ⟨rfl, -, rfl⟩ := e
        have hk := HWF.out p (List.mem_of_getElem? hp)
        have hkept : IMap (wr.alloc (.cells #[.int .i64 p.1, .int .i64 p.2] 37)) w.heap.size j (toOf (ps.take j)) := HIM.out.kept (Below.heap_alloc _ _ _ HIM.out.lt)
        have hlook := hkept.look hk.1
        have hml := HIM.out.lt
        have HKE := Lib.hid hkept
        have HPJ := Lib.hid hp
        cases hf : toOf (ps.take j) p.1 with
        | some y =>
          rw [hf] at hlook
          have HEE : Hid (T.rekey ps = (T, 1)) := by
            show _ = _
            have hnd : ¬ (keysOf ps).Nodup := by
              intro hnd
              have e1 : keysOf ps = keysOf (ps.take (j + 1)) ++ keysOf (ps.drop (j + 1)) := by unfold keysOf; rw [← List.map_append, List.take_append_drop]
              rw [e1, take_snoc hp, keysOf_snoc] at hnd
              have := (List.nodup_append.1 hnd).1
              have := (List.nodup_append.1 this).2.2
              have hm : p.1 ∈ keysOf (ps.take j) := by
                by_cases hm : p.1 ∈ keysOf (ps.take j)
                · exact hm
                · rw [toOf_none.2 hm] at hf; cases hf
              exact this _ hm _ (by simp) rfl
            simp only [PT.rekey, if_neg hbig, hnd, not_false_eq_true, if_true]
          clear hc hown hp hkept hf
          go_wp2_with fail
          go_ret
          rw [HEE.out]
          exact ⟨rfl, H.out.stays (HT.out.alloc _)⟩
        | none =>
          rw [hf] at hlook
          obtain ⟨w3, hrun, hm3, ht3⟩ := HKE.out.store hk.1 hk.2 (by unfold maxLen; omega)
          have HM3 := Lib.hid hm3
          have HT3 : Hid (Still w w3) := (HT.out.alloc _).trans ht3 (fun i hi => .inr (by omega))
          have HNX : Hid ((keysOf (ps.take (j + 1))).Nodup ∧ ∀ x, toOf (ps.take (j + 1)) x = if x = p.1 then some p.2 else toOf (ps.take j) x) := by
            rw [take_snoc hp]
            refine ⟨?_, toOf_snoc hf⟩
            rw [keysOf_snoc, List.nodup_append]
            refine ⟨HND.out, by simp, ?_⟩
            intro a ha c hc2 e
            simp only [List.mem_singleton] at hc2
            rw [e, hc2] at ha
            exact (toOf_none.1 hf) ha
          clear hc hown hp hkept hf hm3 ht3
          go_wp2_with fail
          exact ⟨⟨j + 1, by omega, by go_num, HNX.out.1, HM3.out.congr (fun x _ => HNX.out.2 x), HT3.out⟩, by simp [intOf]; omega⟩
      · have hje : ps.take j = ps := List.take_of_length_le (by omega)
        have HJL : Hid (j = ps.length) := by show _ = _; omega
        rw [hje] at HND HIM
        obtain ⟨D, hD, hDf⟩ := HIM.out
        have HD := Lib.hid hD
        have HDF := Lib.hid hDf
        clear hD hDf hje
        have H45 : Hid (∀ W, Still w W → ∀ k, (Lit.int .i64 k).wf = true → Calls Try.prog 45 #[.pointer (some ⟨b, 0, none⟩), .int .i64 k] W fun e w' => e = .returned (.int .i64 (atI T.rows k)) ∧ Still W w') := fun W hW k hk => f45_tab (H.out.still hW) (by omega) hk
        go_wp2_with (at_range; refine wpList_range_own _ rfl _ 66 rfl 3 3 law3 Try.underlying66 _ w.heap.size _ D rfl HD.out ?_; intro w0 hrg0 hg0 hs0)
        go_frame
        obtain ⟨rr, hrr⟩ : ∃ rr, wr.heap.size = rr := ⟨_, rfl⟩
        rw [hrr] at hrg0 ⊢
        have HRG0 := Lib.hid hrg0
        have HT0 : Hid (Still w w0) := HT.out.then ⟨hg0.os, hg0.tape, hg0.output, hg0.size, fun k hk _ => hg0.block k hk (by simp)⟩
        have HIM0 : Hid (IMap w0 w.heap.size ps.length (toOf ps)) := by
          rw [HJL.out] at HIM
          exact HIM.out.kept (hg0.block _ HIM.out.lt (by simp))
        have hwr : w.heap.size < rr := by rw [← hrr]; exact HIM.out.lt
        clear hrg0 hg0 hs0
        go_loopw [10, 11] (fun fr mi wy => ∃ (left : Lit → Bool) (cnt : Nat) (frb mib : Bool), fr = .bool frb ∧ mi = .bool mib ∧ Hid (wy.ranges Try.prog 3 (plainElem Try.prog 3) w.heap.size rr j D left cnt) ∧ Hid (gath (toOf ps) left (fun k v => decide (0 ≤ atI T.rows k) && decide (atI T.rows v < 0)) frb) ∧ Hid (gath (toOf ps) left (fun k v => decide (atI T.rows k < 0)) mib) ∧ Hid (Still w wy) ∧ Hid (IMap wy w.heap.size ps.length (toOf ps))) (fun _ _ wy => wy.rangeLeft w.heap.size rr)
        case atStart =>
          have hno : ∀ (bad : Int → Int → Bool), gath (toOf ps) (Maps.has D) bad false := by
            intro bad
            unfold gath
            simp only [Bool.false_eq_true, false_iff]
            rintro ⟨k, v, h1, h2, h3, h4⟩
            rw [(HDF.out k h1).1, h2] at h3
            cases h3
          exact ⟨_, _, false, false, rfl, rfl, HRG0.out, hno _, hno _, HT0.out, HIM0.out⟩
        case round =>
          obtain ⟨left, cnt, frb, mib, rfl, rfl, HRG, HGF, HGM, HTY, HIY⟩ := hrel
          go_wp2_with (at_next; refine wpList_next_ranges_ii _ rfl _ rfl 3 3 .i64 .i64 law3 Try.underlying3 Try.underlying3 w.heap.size rr j _ _ _ rfl HRG.out ?_ ?_)
          · intro hc0 hl0
            have hfr := gath_any HND.out (fun p hp => (HWF.out p hp).1) hl0 HGF.out
            have hmi := gath_any HND.out (fun p hp => (HWF.out p hp).1) hl0 HGM.out
            have HFR : Hid (frb = rekFresh T.rows ps) := hfr
            have HMI : Hid (mib = rekMiss T.rows ps) := hmi
            clear hfr hmi
            have d6 : wr.cell? ⟨b, 6, none⟩ = some (.bool T.frozen) := by
              obtain ⟨rv, m, kv, h⟩ := H.out.still HTY.out
              exact h.c6
            have H46 : Hid (∀ w1, Still w w1 → Calls Try.prog 46 #[.pointer (some ⟨b, 0, none⟩)] w1 fun e w' => e = .returned (.bool (T.strict && decide (0 < opens T.walks))) ∧ Still w1 w') := fun w1 hw => f46_tab (H.out.still hw) hl
            have HREK : Hid (T.rekey ps = if T.frozen then (T, 13) else if frb && (T.strict && decide (0 < opens T.walks)) then (T, 8) else if mib then (T, 3) else ({ T with rows := rekRows ps T.rows }, 0)) := by
              show _ = _
              rw [HFR.out, HMI.out]
              simp only [PT.rekey, if_neg hbig, HND.out, not_true_eq_false, if_false]
            obtain ⟨SB, hSB⟩ : ∃ SB, (T.strict && decide (0 < opens T.walks)) = SB := ⟨_, rfl⟩
            rw [hSB] at H46 HREK
            clear hSB hc0 hl0
            cases hfz : T.frozen with
            | true =>
              rw [hfz] at d6 HREK
              go_wp2_with fail
              go_ret
              rw [HREK.out]
              exact ⟨rfl, H.out.stays HTY.out⟩
            | false =>
              rw [hfz] at d6 HREK
              have HT0' := H
              obtain ⟨rv, m0, kv0, hta⟩ := H.out
              obtain ⟨ao, capr, hrv, _⟩ := hta.viewR
              have c1 := hta.c1
              have c2 := hta.c2
              have z1 := hta.z 1
              have z2 := hta.z 2
              have lb := hta.bl
              have HFEW := hta.ok.few
              subst hrv
              have HTA := Lib.hid hta
              clear hta
              cases frb
              · cases mib
                · have d1 := (HTY.out.cell (p := ⟨b, 1, none⟩) lb (fun h => h)).trans c1
                  have d2 := (HTY.out.cell (p := ⟨b, 2, none⟩) lb (fun h => h)).trans c2
                  have y1 := (World.frozen?_of_block (a := ⟨b, 1, none⟩) (HTY.out.block b lb (fun h => h))).trans z1
                  have y2 := (World.frozen?_of_block (a := ⟨b, 2, none⟩) (HTY.out.block b lb (fun h => h))).trans z2
                  have lb2 := Nat.lt_of_lt_of_le lb HTY.out.size
                  go_wp2_with fail
                  go_loopw [101] (fun i wy => ∃ q : Nat, q ≤ T.rows.length ∧ i = .int .i64 q ∧ Hid (RekW w F b T (.slice ao T.rows.length capr) ps q wy)) (fun i _ => T.rows.length - (intOf i).toNat)
                  case atStart => exact ⟨0, Nat.zero_le _, rfl, RekW.start HTA.out HTY.out HIY.out⟩
                  case round =>
                    obtain ⟨q, hq, rfl, HRW⟩ := hrel
                    by_cases hlt2 : q < T.rows.length
                    · obtain ⟨r, hr⟩ : ∃ r, T.rows[q]? = some r := ⟨T.rows[q], by simp [hlt2]⟩
                      obtain ⟨g, cap', e, x0, x1, x2⟩ := RekW.row HTA.out HRW.out hr
                      simp only [Value.slice.injEq] at e
                      obtain ⟨rfl, -, rfl⟩ := e
                      have HRR := Lib.hid hr
                      have sz := HRW.out.size
                      have hto := RekW.to HTA.out HRW.out
                      have hrw : (Lit.int .i64 r.1).wf = true := HTA.out.ok.wf r (List.mem_of_getElem? hr)
                      have hlook := (hto.kept (Below.heap_alloc wr (.cells #[.int .i64 r.1, .int .i64 r.2.1, .int .i64 r.2.2] 76) _ hto.lt)).look hrw
                      clear hr hto
                      have HKW : Hid ((Lit.int .i64 ((toOf ps r.1).getD r.1)).wf = true) := by
                        show _ = _
                        cases hf : toOf ps r.1 with
                        | none => exact hrw
                        | some y =>
                          obtain ⟨p, hp, _, e2⟩ := toOf_some_mem hf
                          have := (HWF.out p hp).2
                          rw [e2] at this
                          exact this
                      clear hrw
                      obtain ⟨K, hK⟩ : ∃ K, (toOf ps r.1).getD r.1 = K := ⟨_, rfl⟩
                      have HVV : Hid (RekW w F b T (.slice (some ⟨g, 0, none⟩) T.rows.length capr) ps q (wr.alloc (.cells #[.int .i64 K, .int .i64 r.2.1, .int .i64 r.2.2] 76))) := HRW.out.still ((Touch.refl _ _).alloc _)
                      obtain ⟨Fx, ht⟩ := HVV.out.tab
                      have H45b := Lib.hid (f45_tab ht (show T.next < 1099511627776 by omega) (hK ▸ HKW.out))
                      clear ht
                      have HKK := Lib.hid hK
                      rcases atI_cases (rekRows ps (T.rows.take q)) K with ⟨ha, -⟩ | ⟨i, _, ha, -⟩
                      · have HA := Lib.hid ha
                        replace H45b : Hid (Calls Try.prog 45 #[.pointer (some ⟨b, 0, none⟩), .int .i64 K] (wr.alloc (.cells #[.int .i64 K, .int .i64 r.2.1, .int .i64 r.2.2] 76)) fun e w' => e = .returned (.int .i64 (-1)) ∧ Still (wr.alloc (.cells #[.int .i64 K, .int .i64 r.2.1, .int .i64 r.2.2] 76)) w') := by have := H45b.out; rw [show atI ({ T with rows := rekRows ps (T.rows.take q) } : PT).rows K = -1 from ha] at this; exact this
                        clear ha
                        cases hf : toOf ps r.1 with
                        | none =>
                          rw [hf] at hlook hK
                          simp only [Option.getD_none] at hK
                          subst hK
                          clear hf
                          go_wp2_with (go_at_call 45; refine H45b.out.mono ?_; rintro e w2 ⟨rfl, hs⟩; have HS2 := Lib.hid hs; clear hs)
                          obtain ⟨rv1, m1, n1, e1, hn1, own1, ⟨cs, hcs1, hcs2, hbk⟩, hne, hlo, hsn⟩ := HRW.out.snoc HTA.out (fun p hp => (HWF.out p hp).2) hn (((Touch.refl _ _).alloc _).then HS2.out) HRR.out (by rw [HKK.out, HA.out]; decide)
                          rw [HKK.out] at hsn
                          have hnb := HS2.out.keeps (heap_alloc_new wr (.cells #[.int .i64 r.1, .int .i64 r.2.1, .int .i64 r.2.2] 76)) (fun h => h)
                          have a0 := blk_c hnb 0 _ rfl
                          have a1 := blk_c hnb 1 _ rfl
                          have a2 := blk_c hnb 2 _ rfl
                          have hw2b := World.lt_of_heap hbk
                          have hw2n := World.lt_of_heap hnb
                          have hbn : ¬ b = wr.heap.size := by omega
                          have hnb2 : ¬ wr.heap.size = b := by omega
                          have HNB := Lib.hid hnb
                          have HO1 := Lib.hid own1
                          have HBK := Lib.hid hbk
                          have HNE := Lib.hid hne
                          have HLO := Lib.hid hlo
                          have HSN := Lib.hid hsn
                          have HC1 := Lib.hid hcs1
                          have HC2 := Lib.hid hcs2
                          clear hnb own1 hbk hne hlo hsn hcs1 hcs2
                          go_region_law (refine step_append_lies _ rfl (.tmp 134) (.tmp 136) 65 rfl 0 76 i0 (.agg #[.int .i64 0, .int .i64 0, .int .i64 0]) 3 24 Try.underlying65 HI.out hz0 hz1 hz2 rfl (by decide) _ _ _ rfl (HO1.out.alloc _) ⟨w2.heap.size, 0, none⟩ 1 1 [.int .i64 r.1, .int .i64 r.2.1, .int .i64 r.2.2] rfl rfl (World.news_of_block (heap_alloc_new w2 _)) (one_cells _ _ _ rfl rfl rfl) (by decide) (by unfold maxLen; omega) (by omega) (Nat.zero_le _) (w2.heap.size + 1) (by simp) ?_; intro g2 cap2 w1 hown hgrow hat hlt; have hB := add_mid hgrow HBK.out HNE.out; have hN := add_mid hgrow HNB.out (fun k hk e => by have := HLO.out k hk; omega); have f1 := blk_c hB 1 _ HC1.out; have f2 := blk_c hB 2 _ HC2.out; have f3 := blk_z hB 1; have f4 := blk_c hN 0 _ rfl; have f5 := blk_c hN 1 _ rfl; have f6 := blk_c hN 2 _ rfl; have HG := Lib.hid (And.intro hown (And.intro hgrow (And.intro hat hlt))); clear hown hgrow hat hlt hB hN)
                          all_goals
                            obtain ⟨w5, hrun, hw5⟩ := HSN.out _ w1 g2 cap2 ((w1.setCell ⟨b, 1, none⟩ (.slice (some ⟨g2, 0, none⟩) (n1 + 1) cap2)).drew) HG.out.1 HG.out.2.1 HG.out.2.2.1 HG.out.2.2.2 ((Touch.refl _ _).drew)
                            have HW5 := Lib.hid hw5
                            clear hw5
                            go_wp2_with fail
                            go_region
                            all_goals
                              go_wp2_with fail
                              go_roundw
                              case rel => exact ⟨q + 1, by omega, by go_num, HW5.out⟩
                              case measure => simp [intOf]; omega
                        | some y =>
                          rw [hf] at hlook hK
                          simp only [Option.getD_some] at hK
                          subst hK
                          clear hf
                          go_wp2_with (go_at_call 45; refine H45b.out.mono ?_; rintro e w2 ⟨rfl, hs⟩; have HS2 := Lib.hid hs; clear hs)
                          obtain ⟨rv1, m1, n1, e1, hn1, own1, ⟨cs, hcs1, hcs2, hbk⟩, hne, hlo, hsn⟩ := HRW.out.snoc HTA.out (fun p hp => (HWF.out p hp).2) hn (((Touch.refl _ _).alloc _).then HS2.out) HRR.out (by rw [HKK.out, HA.out]; decide)
                          rw [HKK.out] at hsn
                          have hnb := HS2.out.keeps (heap_alloc_new wr (.cells #[.int .i64 y, .int .i64 r.2.1, .int .i64 r.2.2] 76)) (fun h => h)
                          have a0 := blk_c hnb 0 _ rfl
                          have a1 := blk_c hnb 1 _ rfl
                          have a2 := blk_c hnb 2 _ rfl
                          have hw2b := World.lt_of_heap hbk
                          have hw2n := World.lt_of_heap hnb
                          have hbn : ¬ b = wr.heap.size := by omega
                          have hnb2 : ¬ wr.heap.size = b := by omega
                          have HNB := Lib.hid hnb
                          have HO1 := Lib.hid own1
                          have HBK := Lib.hid hbk
                          have HNE := Lib.hid hne
                          have HLO := Lib.hid hlo
                          have HSN := Lib.hid hsn
                          have HC1 := Lib.hid hcs1
                          have HC2 := Lib.hid hcs2
                          clear hnb own1 hbk hne hlo hsn hcs1 hcs2
                          go_region_law (refine step_append_lies _ rfl (.tmp 134) (.tmp 136) 65 rfl 0 76 i0 (.agg #[.int .i64 0, .int .i64 0, .int .i64 0]) 3 24 Try.underlying65 HI.out hz0 hz1 hz2 rfl (by decide) _ _ _ rfl (HO1.out.alloc _) ⟨w2.heap.size, 0, none⟩ 1 1 [.int .i64 y, .int .i64 r.2.1, .int .i64 r.2.2] rfl rfl (World.news_of_block (heap_alloc_new w2 _)) (one_cells _ _ _ rfl rfl rfl) (by decide) (by unfold maxLen; omega) (by omega) (Nat.zero_le _) (w2.heap.size + 1) (by simp) ?_; intro g2 cap2 w1 hown hgrow hat hlt; have hB := add_mid hgrow HBK.out HNE.out; have hN := add_mid hgrow HNB.out (fun k hk e => by have := HLO.out k hk; omega); have f1 := blk_c hB 1 _ HC1.out; have f2 := blk_c hB 2 _ HC2.out; have f3 := blk_z hB 1; have f4 := blk_c hN 0 _ rfl; have f5 := blk_c hN 1 _ rfl; have f6 := blk_c hN 2 _ rfl; have HG := Lib.hid (And.intro hown (And.intro hgrow (And.intro hat hlt))); clear hown hgrow hat hlt hB hN)
                          all_goals
                            obtain ⟨w5, hrun, hw5⟩ := HSN.out _ w1 g2 cap2 ((w1.setCell ⟨b, 1, none⟩ (.slice (some ⟨g2, 0, none⟩) (n1 + 1) cap2)).drew) HG.out.1 HG.out.2.1 HG.out.2.2.1 HG.out.2.2.2 ((Touch.refl _ _).drew)
                            have HW5 := Lib.hid hw5
                            clear hw5
                            go_wp2_with fail
                            go_region
                            all_goals
                              go_wp2_with fail
                              go_roundw
                              case rel => exact ⟨q + 1, by omega, by go_num, HW5.out⟩
                              case measure => simp [intOf]; omega
                      · have HA := Lib.hid ha
                        replace H45b : Hid (Calls Try.prog 45 #[.pointer (some ⟨b, 0, none⟩), .int .i64 K] (wr.alloc (.cells #[.int .i64 K, .int .i64 r.2.1, .int .i64 r.2.2] 76)) fun e w' => e = .returned (.int .i64 (i : Int)) ∧ Still (wr.alloc (.cells #[.int .i64 K, .int .i64 r.2.1, .int .i64 r.2.2] 76)) w') := by have := H45b.out; rw [show atI ({ T with rows := rekRows ps (T.rows.take q) } : PT).rows K = i from ha] at this; exact this
                        clear ha
                        cases hf : toOf ps r.1 with
                        | none =>
                          rw [hf] at hlook hK
                          simp only [Option.getD_none] at hK
                          subst hK
                          clear hf
                          go_wp2_with (go_at_call 45; refine H45b.out.mono ?_; rintro e w2 ⟨rfl, hs⟩; have HS2 := Lib.hid hs; clear hs)
                          obtain ⟨g1, n1, cap1, x, e1, hi1, hn1, e2, e3, lg1, hset⟩ := (HVV.out.still HS2.out).set HRR.out (by rw [HKK.out]; exact HA.out)
                          have e4 : w2.cell? ⟨wr.heap.size, 1, none⟩ = some (.int .i64 r.2.1) := (HS2.out.cell (p := ⟨wr.heap.size, 1, none⟩) (by simp) (fun h => h)).trans (by simp)
                          have HSET := Lib.hid hset
                          clear hset
                          go_region
                          all_goals
                            go_wp2_with fail
                            go_roundw
                            case rel => exact ⟨q + 1, by omega, by go_num, HSET.out _ (Touch.refl _ _).drew⟩
                            case measure => simp [intOf]; omega
                        | some y =>
                          rw [hf] at hlook hK
                          simp only [Option.getD_some] at hK
                          subst hK
                          clear hf
                          go_wp2_with (go_at_call 45; refine H45b.out.mono ?_; rintro e w2 ⟨rfl, hs⟩; have HS2 := Lib.hid hs; clear hs)
                          obtain ⟨g1, n1, cap1, x, e1, hi1, hn1, e2, e3, lg1, hset⟩ := (HVV.out.still HS2.out).set HRR.out (by rw [HKK.out]; exact HA.out)
                          have e4 : w2.cell? ⟨wr.heap.size, 1, none⟩ = some (.int .i64 r.2.1) := (HS2.out.cell (p := ⟨wr.heap.size, 1, none⟩) (by simp) (fun h => h)).trans (by simp)
                          have HSET := Lib.hid hset
                          clear hset
                          go_region
                          all_goals
                            go_wp2_with fail
                            go_roundw
                            case rel => exact ⟨q + 1, by omega, by go_num, HSET.out _ (Touch.refl _ _).drew⟩
                            case measure => simp [intOf]; omega
                    · have HE : Hid (T.rows.take q = T.rows) := List.take_of_length_le (by omega)
                      go_wp2_with fail
                      go_ret
                      rw [HREK.out]
                      have := RekW.moves HTA.out HRW.out
                      rw [HE.out, hfz] at this
                      exact ⟨rfl, this⟩
                · go_wp2_with fail
                  go_ret
                  rw [HREK.out]
                  exact ⟨rfl, H.out.stays HTY.out⟩
              · cases SB
                · cases mib
                  · go_wp2_with (go_at_call 46; refine (H46.out _ HTY.out).mono ?_; rintro e wc ⟨rfl, hs⟩; have HTC : Hid (Still w wc) := HTY.out.then hs; have HIC : Hid (IMap wc w.heap.size ps.length (toOf ps)) := HIY.out.kept (hs.block _ HIY.out.lt (fun h => h)); have d1 := (HTC.out.cell (p := ⟨b, 1, none⟩) lb (fun h => h)).trans c1; have d2 := (HTC.out.cell (p := ⟨b, 2, none⟩) lb (fun h => h)).trans c2; have y1 := (World.frozen?_of_block (a := ⟨b, 1, none⟩) (HTC.out.block b lb (fun h => h))).trans z1; have y2 := (World.frozen?_of_block (a := ⟨b, 2, none⟩) (HTC.out.block b lb (fun h => h))).trans z2; have lb2 := Nat.lt_of_lt_of_le lb HTC.out.size; clear hs)
                    go_loopw [101] (fun i wy => ∃ q : Nat, q ≤ T.rows.length ∧ i = .int .i64 q ∧ Hid (RekW w F b T (.slice ao T.rows.length capr) ps q wy)) (fun i _ => T.rows.length - (intOf i).toNat)
                    case atStart => exact ⟨0, Nat.zero_le _, rfl, RekW.start HTA.out HTC.out HIC.out⟩
                    case round =>
                      obtain ⟨q, hq, rfl, HRW⟩ := hrel
                      by_cases hlt2 : q < T.rows.length
                      · obtain ⟨r, hr⟩ : ∃ r, T.rows[q]? = some r := ⟨T.rows[q], by simp [hlt2]⟩
                        obtain ⟨g, cap', e, x0, x1, x2⟩ := RekW.row HTA.out HRW.out hr
                        simp only [Value.slice.injEq] at e
                        obtain ⟨rfl, -, rfl⟩ := e
                        have HRR := Lib.hid hr
                        have sz := HRW.out.size
                        have hto := RekW.to HTA.out HRW.out
                        have hrw : (Lit.int .i64 r.1).wf = true := HTA.out.ok.wf r (List.mem_of_getElem? hr)
                        have hlook := (hto.kept (Below.heap_alloc wr (.cells #[.int .i64 r.1, .int .i64 r.2.1, .int .i64 r.2.2] 76) _ hto.lt)).look hrw
                        clear hr hto
                        have HKW : Hid ((Lit.int .i64 ((toOf ps r.1).getD r.1)).wf = true) := by
                          show _ = _
                          cases hf : toOf ps r.1 with
                          | none => exact hrw
                          | some y =>
                            obtain ⟨p, hp, _, e2⟩ := toOf_some_mem hf
                            have := (HWF.out p hp).2
                            rw [e2] at this
                            exact this
                        clear hrw
                        obtain ⟨K, hK⟩ : ∃ K, (toOf ps r.1).getD r.1 = K := ⟨_, rfl⟩
                        have HVV : Hid (RekW w F b T (.slice (some ⟨g, 0, none⟩) T.rows.length capr) ps q (wr.alloc (.cells #[.int .i64 K, .int .i64 r.2.1, .int .i64 r.2.2] 76))) := HRW.out.still ((Touch.refl _ _).alloc _)
                        obtain ⟨Fx, ht⟩ := HVV.out.tab
                        have H45b := Lib.hid (f45_tab ht (show T.next < 1099511627776 by omega) (hK ▸ HKW.out))
                        clear ht
                        have HKK := Lib.hid hK
                        rcases atI_cases (rekRows ps (T.rows.take q)) K with ⟨ha, -⟩ | ⟨i, _, ha, -⟩
                        · have HA := Lib.hid ha
                          replace H45b : Hid (Calls Try.prog 45 #[.pointer (some ⟨b, 0, none⟩), .int .i64 K] (wr.alloc (.cells #[.int .i64 K, .int .i64 r.2.1, .int .i64 r.2.2] 76)) fun e w' => e = .returned (.int .i64 (-1)) ∧ Still (wr.alloc (.cells #[.int .i64 K, .int .i64 r.2.1, .int .i64 r.2.2] 76)) w') := by have := H45b.out; rw [show atI ({ T with rows := rekRows ps (T.rows.take q) } : PT).rows K = -1 from ha] at this; exact this
                          clear ha
                          cases hf : toOf ps r.1 with
                          | none =>
                            rw [hf] at hlook hK
                            simp only [Option.getD_none] at hK
                            subst hK
                            clear hf
                            go_wp2_with (go_at_call 45; refine H45b.out.mono ?_; rintro e w2 ⟨rfl, hs⟩; have HS2 := Lib.hid hs; clear hs)
                            obtain ⟨rv1, m1, n1, e1, hn1, own1, ⟨cs, hcs1, hcs2, hbk⟩, hne, hlo, hsn⟩ := HRW.out.snoc HTA.out (fun p hp => (HWF.out p hp).2) hn (((Touch.refl _ _).alloc _).then HS2.out) HRR.out (by rw [HKK.out, HA.out]; decide)
                            rw [HKK.out] at hsn
                            have hnb := HS2.out.keeps (heap_alloc_new wr (.cells #[.int .i64 r.1, .int .i64 r.2.1, .int .i64 r.2.2] 76)) (fun h => h)
                            have a0 := blk_c hnb 0 _ rfl
                            have a1 := blk_c hnb 1 _ rfl
                            have a2 := blk_c hnb 2 _ rfl
                            have hw2b := World.lt_of_heap hbk
                            have hw2n := World.lt_of_heap hnb
                            have hbn : ¬ b = wr.heap.size := by omega
                            have hnb2 : ¬ wr.heap.size = b := by omega
                            have HNB := Lib.hid hnb
                            have HO1 := Lib.hid own1
                            have HBK := Lib.hid hbk
                            have HNE := Lib.hid hne
                            have HLO := Lib.hid hlo
                            have HSN := Lib.hid hsn
                            have HC1 := Lib.hid hcs1
                            have HC2 := Lib.hid hcs2
                            clear hnb own1 hbk hne hlo hsn hcs1 hcs2
                            go_region_law (refine step_append_lies _ rfl (.tmp 134) (.tmp 136) 65 rfl 0 76 i0 (.agg #[.int .i64 0, .int .i64 0, .int .i64 0]) 3 24 Try.underlying65 HI.out hz0 hz1 hz2 rfl (by decide) _ _ _ rfl (HO1.out.alloc _) ⟨w2.heap.size, 0, none⟩ 1 1 [.int .i64 r.1, .int .i64 r.2.1, .int .i64 r.2.2] rfl rfl (World.news_of_block (heap_alloc_new w2 _)) (one_cells _ _ _ rfl rfl rfl) (by decide) (by unfold maxLen; omega) (by omega) (Nat.zero_le _) (w2.heap.size + 1) (by simp) ?_; intro g2 cap2 w1 hown hgrow hat hlt; have hB := add_mid hgrow HBK.out HNE.out; have hN := add_mid hgrow HNB.out (fun k hk e => by have := HLO.out k hk; omega); have f1 := blk_c hB 1 _ HC1.out; have f2 := blk_c hB 2 _ HC2.out; have f3 := blk_z hB 1; have f4 := blk_c hN 0 _ rfl; have f5 := blk_c hN 1 _ rfl; have f6 := blk_c hN 2 _ rfl; have HG := Lib.hid (And.intro hown (And.intro hgrow (And.intro hat hlt))); clear hown hgrow hat hlt hB hN)
                            all_goals
                              obtain ⟨w5, hrun, hw5⟩ := HSN.out _ w1 g2 cap2 ((w1.setCell ⟨b, 1, none⟩ (.slice (some ⟨g2, 0, none⟩) (n1 + 1) cap2)).drew) HG.out.1 HG.out.2.1 HG.out.2.2.1 HG.out.2.2.2 ((Touch.refl _ _).drew)
                              have HW5 := Lib.hid hw5
                              clear hw5
                              go_wp2_with fail
                              go_region
                              all_goals
                                go_wp2_with fail
                                go_roundw
                                case rel => exact ⟨q + 1, by omega, by go_num, HW5.out⟩
                                case measure => simp [intOf]; omega
                          | some y =>
                            rw [hf] at hlook hK
                            simp only [Option.getD_some] at hK
                            subst hK
                            clear hf
                            go_wp2_with (go_at_call 45; refine H45b.out.mono ?_; rintro e w2 ⟨rfl, hs⟩; have HS2 := Lib.hid hs; clear hs)
                            obtain ⟨rv1, m1, n1, e1, hn1, own1, ⟨cs, hcs1, hcs2, hbk⟩, hne, hlo, hsn⟩ := HRW.out.snoc HTA.out (fun p hp => (HWF.out p hp).2) hn (((Touch.refl _ _).alloc _).then HS2.out) HRR.out (by rw [HKK.out, HA.out]; decide)
                            rw [HKK.out] at hsn
                            have hnb := HS2.out.keeps (heap_alloc_new wr (.cells #[.int .i64 y, .int .i64 r.2.1, .int .i64 r.2.2] 76)) (fun h => h)
                            have a0 := blk_c hnb 0 _ rfl
                            have a1 := blk_c hnb 1 _ rfl
                            have a2 := blk_c hnb 2 _ rfl
                            have hw2b := World.lt_of_heap hbk
                            have hw2n := World.lt_of_heap hnb
                            have hbn : ¬ b = wr.heap.size := by omega
                            have hnb2 : ¬ wr.heap.size = b := by omega
                            have HNB := Lib.hid hnb
                            have HO1 := Lib.hid own1
                            have HBK := Lib.hid hbk
                            have HNE := Lib.hid hne
                            have HLO := Lib.hid hlo
                            have HSN := Lib.hid hsn
                            have HC1 := Lib.hid hcs1
                            have HC2 := Lib.hid hcs2
                            clear hnb own1 hbk hne hlo hsn hcs1 hcs2
                            go_region_law (refine step_append_lies _ rfl (.tmp 134) (.tmp 136) 65 rfl 0 76 i0 (.agg #[.int .i64 0, .int .i64 0, .int .i64 0]) 3 24 Try.underlying65 HI.out hz0 hz1 hz2 rfl (by decide) _ _ _ rfl (HO1.out.alloc _) ⟨w2.heap.size, 0, none⟩ 1 1 [.int .i64 y, .int .i64 r.2.1, .int .i64 r.2.2] rfl rfl (World.news_of_block (heap_alloc_new w2 _)) (one_cells _ _ _ rfl rfl rfl) (by decide) (by unfold maxLen; omega) (by omega) (Nat.zero_le _) (w2.heap.size + 1) (by simp) ?_; intro g2 cap2 w1 hown hgrow hat hlt; have hB := add_mid hgrow HBK.out HNE.out; have hN := add_mid hgrow HNB.out (fun k hk e => by have := HLO.out k hk; omega); have f1 := blk_c hB 1 _ HC1.out; have f2 := blk_c hB 2 _ HC2.out; have f3 := blk_z hB 1; have f4 := blk_c hN 0 _ rfl; have f5 := blk_c hN 1 _ rfl; have f6 := blk_c hN 2 _ rfl; have HG := Lib.hid (And.intro hown (And.intro hgrow (And.intro hat hlt))); clear hown hgrow hat hlt hB hN)
                            all_goals
                              obtain ⟨w5, hrun, hw5⟩ := HSN.out _ w1 g2 cap2 ((w1.setCell ⟨b, 1, none⟩ (.slice (some ⟨g2, 0, none⟩) (n1 + 1) cap2)).drew) HG.out.1 HG.out.2.1 HG.out.2.2.1 HG.out.2.2.2 ((Touch.refl _ _).drew)
                              have HW5 := Lib.hid hw5
                              clear hw5
                              go_wp2_with fail
                              go_region
                              all_goals
                                go_wp2_with fail
                                go_roundw
                                case rel => exact ⟨q + 1, by omega, by go_num, HW5.out⟩
                                case measure => simp [intOf]; omega
                        · have HA := Lib.hid ha
                          replace H45b : Hid (Calls Try.prog 45 #[.pointer (some ⟨b, 0, none⟩), .int .i64 K] (wr.alloc (.cells #[.int .i64 K, .int .i64 r.2.1, .int .i64 r.2.2] 76)) fun e w' => e = .returned (.int .i64 (i : Int)) ∧ Still (wr.alloc (.cells #[.int .i64 K, .int .i64 r.2.1, .int .i64 r.2.2] 76)) w') := by have := H45b.out; rw [show atI ({ T with rows := rekRows ps (T.rows.take q) } : PT).rows K = i from ha] at this; exact this
                          clear ha
                          cases hf : toOf ps r.1 with
                          | none =>
                            rw [hf] at hlook hK
                            simp only [Option.getD_none] at hK
                            subst hK
                            clear hf
                            go_wp2_with (go_at_call 45; refine H45b.out.mono ?_; rintro e w2 ⟨rfl, hs⟩; have HS2 := Lib.hid hs; clear hs)
                            obtain ⟨g1, n1, cap1, x, e1, hi1, hn1, e2, e3, lg1, hset⟩ := (HVV.out.still HS2.out).set HRR.out (by rw [HKK.out]; exact HA.out)
                            have e4 : w2.cell? ⟨wr.heap.size, 1, none⟩ = some (.int .i64 r.2.1) := (HS2.out.cell (p := ⟨wr.heap.size, 1, none⟩) (by simp) (fun h => h)).trans (by simp)
                            have HSET := Lib.hid hset
                            clear hset
                            go_region
                            all_goals
                              go_wp2_with fail
                              go_roundw
                              case rel => exact ⟨q + 1, by omega, by go_num, HSET.out _ (Touch.refl _ _).drew⟩
                              case measure => simp [intOf]; omega
                          | some y =>
                            rw [hf] at hlook hK
                            simp only [Option.getD_some] at hK
                            subst hK
                            clear hf
                            go_wp2_with (go_at_call 45; refine H45b.out.mono ?_; rintro e w2 ⟨rfl, hs⟩; have HS2 := Lib.hid hs; clear hs)
                            obtain ⟨g1, n1, cap1, x, e1, hi1, hn1, e2, e3, lg1, hset⟩ := (HVV.out.still HS2.out).set HRR.out (by rw [HKK.out]; exact HA.out)
                            have e4 : w2.cell? ⟨wr.heap.size, 1, none⟩ = some (.int .i64 r.2.1) := (HS2.out.cell (p := ⟨wr.heap.size, 1, none⟩) (by simp) (fun h => h)).trans (by simp)
                            have HSET := Lib.hid hset
                            clear hset
                            go_region
                            all_goals
                              go_wp2_with fail
                              go_roundw
                              case rel => exact ⟨q + 1, by omega, by go_num, HSET.out _ (Touch.refl _ _).drew⟩
                              case measure => simp [intOf]; omega
                      · have HE : Hid (T.rows.take q = T.rows) := List.take_of_length_le (by omega)
                        go_wp2_with fail
                        go_ret
                        rw [HREK.out]
                        have := RekW.moves HTA.out HRW.out
                        rw [HE.out, hfz] at this
                        exact ⟨rfl, this⟩
                  · go_wp2_with (go_at_call 46; refine (H46.out _ HTY.out).mono ?_; rintro e w2 ⟨rfl, hs⟩; have HS2 := Lib.hid hs; clear hs)
                    go_ret
                    rw [HREK.out]
                    exact ⟨rfl, H.out.stays (HTY.out.then HS2.out)⟩
                · go_wp2_with (go_at_call 46; refine (H46.out _ HTY.out).mono ?_; rintro e w2 ⟨rfl, hs⟩; have HS2 := Lib.hid hs; clear hs)
                  go_ret
                  rw [HREK.out]
                  exact ⟨rfl, H.out.stays (HTY.out.then HS2.out)⟩
          · intro x c w1 cnt1 hwx hwc hlx hat hrg1 hlt2 hg1 hs1 hen
            have hfx : toOf ps x = some c := by
              cases hq : toOf ps x with
              | none =>
                have h1 := (HDF.out x hwx).1
                rw [hq] at h1
                have h2 := hat (.lit (.bool true))
                rw [Maps.atKey_of_not_has h1] at h2
                cases h2
              | some y =>
                have h1 := (HDF.out x hwx).2 y hq
                rw [hat] at h1
                cases h1; rfl
            have HG1 := Lib.hid (gath_step HGF.out hwx hfx hlx)
            have HG2 := Lib.hid (gath_step HGM.out hwx hfx hlx)
            have HT1 : Hid (Still w w1) := HTY.out.trans (S1 := fun i => i = rr) ⟨hg1.os, hg1.tape, hg1.output, hg1.size, fun k hk hn => hg1.block k hk (fun e => hn (Option.some.inj e))⟩ (fun i hi => .inr (by omega))
            have HI1 : Hid (IMap w1 w.heap.size ps.length (toOf ps)) := HIY.out.kept (hg1.block _ HIY.out.lt (fun e => by have := Option.some.inj e; omega))
            have HR1 := Lib.hid hrg1
            clear hat hrg1 hg1 hfx hlx
            have hx2 : decide ((0 : Int) ≤ atI T.rows x) = !decide (atI T.rows x < 0) := by
              by_cases hx : atI T.rows x < 0 <;> simp [hx] <;> omega
            simp only [hx2] at HG1
            have HCUR := Lib.hid (And.intro HT1.out (Touch.refl (fun _ => False) w1))
            cases frb with
            | true =>
              clear hx2
              cases mib
              all_goals
                go_wp2_with (go_at_call 45; (with_reducible refine (H45.out _ HCUR.out.1 _ (by first | exact hwx | exact hwc)).mono ?_); rintro e w2 ⟨rfl, hs⟩; replace HCUR := Lib.hid (And.intro (HCUR.out.1.then hs) (HCUR.out.2.then hs)); clear hs)
                have HRF := Lib.hid (HR1.out.kept (still_grown HCUR.out.2) (by simp) (by simp))
                have HIF := Lib.hid (HI1.out.kept (HCUR.out.2.block _ HI1.out.lt (fun h => h)))
                go_roundw
                case rel => exact ⟨_, _, _, _, rfl, rfl, HRF.out, HG1.out, HG2.out, HCUR.out.1, HIF.out⟩
                case measure => rw [HRF.out.left_eq, HRG.out.left_eq]; exact hlt2
            | false =>
              cases hbm : decide (atI T.rows x < 0)
              all_goals
                rw [hbm] at hx2 HG1 HG2
                simp at hx2
                cases mib
                all_goals
                  go_wp2_with (go_at_call 45; (with_reducible refine (H45.out _ HCUR.out.1 _ (by first | exact hwx | exact hwc)).mono ?_); rintro e w2 ⟨rfl, hs⟩; replace HCUR := Lib.hid (And.intro (HCUR.out.1.then hs) (HCUR.out.2.then hs)); clear hs)
                  have HRF := Lib.hid (HR1.out.kept (still_grown HCUR.out.2) (by simp) (by simp))
                  have HIF := Lib.hid (HI1.out.kept (HCUR.out.2.block _ HI1.out.lt (fun h => h)))
                  go_roundw
                  case rel => exact ⟨_, _, _, _, rfl, rfl, HRF.out, HG1.out, HG2.out, HCUR.out.1, HIF.out⟩
                  case measure => rw [HRF.out.left_eq, HRG.out.left_eq]; exact hlt2
end

end Go.Proofs.Ytombofldebmaoaa
