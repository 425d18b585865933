/-
  The statement TextFound walked.
-/
import Derived.Test.YtaanihidheccfaaDoorPartsx
import Derived.Test.YtaanihidheccfaaDoorFinB
namespace Go.Proofs.YtaanihidheccfaaDoor
open Go.Shelf Go.RowKit
set_option linter.unusedVariables false

theorem idx_found {part : List UInt8} {fr : Int} {ps : List (List UInt8 × Int)} {k : Nat} (hk : k ≤ ps.length) (hfr : fr ≤ (k : Int)) (hp : Lib.hasPrefix (joinP (ps.drop k)) part = true) : ∀ d i : Nat, i + d = k → ∃ j : Nat, idxN part fr i (ps.drop i) = ((j : Int), 0) ∧ i ≤ j ∧ j ≤ k ∧ fr ≤ (j : Int) := by
  intro d
  induction d with
  | zero =>
    intro i hi
    obtain rfl : i = k := by omega
    exact ⟨i, idx_yes ⟨hfr, hp⟩, Nat.le_refl _, Nat.le_refl _, hfr⟩
  | succ d ih =>
    intro i hi
    by_cases h : fr ≤ (i : Int) ∧ Lib.hasPrefix (joinP (ps.drop i)) part = true
    · exact ⟨i, idx_yes h, Nat.le_refl _, by omega, h.1⟩
    · obtain ⟨p, hq⟩ : ∃ p, ps[i]? = some p := ⟨ps[i], by rw [List.getElem?_eq_getElem]⟩
      obtain ⟨j, h1, h2, h3, h4⟩ := ih (i + 1) (by omega)
      exact ⟨j, by rw [idx_next hq h]; exact h1, by omega, h3, h4⟩
theorem joinP_split (ps : List (List UInt8 × Int)) (m : Nat) : joinP ps = joinP (ps.take m) ++ joinP (ps.drop m) := by
  unfold joinP
  rw [← List.flatten_append, ← List.map_append, List.take_append_drop]
theorem hp_take (ps : List (List UInt8 × Int)) (m : Nat) : Lib.hasPrefix (joinP ps) (joinP (ps.take m)) = true := by
  unfold Lib.hasPrefix
  rw [List.isPrefixOf_iff_prefix]
  exact ⟨joinP (ps.drop m), (joinP_split ps m).symm⟩
theorem mod_ten (i : Int) : 0 ≤ wrap64 ((IntKind.u64.wrap i).tmod 10) := by
  have h0 := u64_pos i
  rw [Int.tmod_eq_emod_of_nonneg h0]
  generalize IntKind.u64.wrap i = u at *
  have e1 : wrap64 (u % 10) = u % 10 := by unfold wrap64; omega
  rw [e1]
  omega
theorem slice_at (ps : List (List UInt8 × Int)) (K M : Int) (k : Nat) (hK : K = k) (hk : k ≤ ps.length) : sliceO ps K M = some (joinP ((ps.drop k).take M.toNat)) := by
  subst hK
  unfold sliceO place
  rw [if_neg (by omega : ¬ ((k : Int) < 0)), if_neg (by omega)]
  simp

set_option maxRecDepth 100000 in
set_option maxHeartbeats 4000000 in
theorem f13_s (s : ByteArray) (e fr n : Int) (w : World) (hs : s.size ≤ 300) (hT : Lib.Utf8Tabs 0 1 w) (h2 : 2 ≤ w.heap.size) : Calls Tryd.prog 13 #[.agg #[.string s, .int .i64 e, .int .i64 fr, .int .i64 n]] w fun en w' => en = .returned (.bool true) ∧ Below w.heap.size w w' := by
  have hA : Below w.heap.size w (w.alloc (.cells #[.string s, .int .i64 e, .int .i64 fr, .int .i64 n] 58)) := (Below.refl _ _).alloc (Nat.le_refl _) _
  have HT1 := Lib.hid (tabs_below hA h2 hT)
  have HE := Lib.hid (enc_mod e)
  have H41 := Lib.hid (f41 _ HE.out s (by omega) (w.alloc (.cells #[.string s, .int .i64 e, .int .i64 fr, .int .i64 n] 58)) HT1.out (by simp; omega))
  have hl := parts_len (wrap64 ((IntKind.u64.wrap e).tmod 3)) (str s)
  rw [str_len] at hl
  have hjs : (joinP (parts (wrap64 ((IntKind.u64.wrap e).tmod 3)) (str s))) = str s := by unfold joinP; rw [parts_join]
  generalize hps : parts (wrap64 ((IntKind.u64.wrap e).tmod 3)) (str s) = ps at H41 hl hjs
  obtain ⟨k, hk, hkn⟩ := mod_k fr ps.length (by omega)
  have hm := mod_ten n
  have hx1 : (bs (joinP ((ps.drop k).take (wrap64 ((IntKind.u64.wrap n).tmod 10)).toNat))).size ≤ 300 := by
    have h1 := str_len (bs (joinP ((ps.drop k).take (wrap64 ((IntKind.u64.wrap n).tmod 10)).toNat)))
    rw [str_bs] at h1
    have h3 := joinP_sub ps k (wrap64 ((IntKind.u64.wrap n).tmod 10)).toNat
    rw [hjs, str_len] at h3
    omega
  have HPX := hp_take (ps.drop k) (wrap64 ((IntKind.u64.wrap n).tmod 10)).toNat
  obtain ⟨j, hj, -, hjk, -⟩ := idx_found (fr := 0) hkn (by omega) HPX k 0 (by omega)
  obtain ⟨j2, hj2, -, hjk2, hfj⟩ := idx_found (fr := (k : Int)) hkn (Int.le_refl _) HPX k 0 (by omega)
  obtain rfl : k = j2 := by omega
  have HS := Lib.hid (fun w hT h2 => f39 _ (wrap64 ((IntKind.u64.wrap fr).tmod ((ps.length : Int) + 1))) (wrap64 ((IntKind.u64.wrap n).tmod 10)) HE.out (by rw [hk]; omega) s (by omega) hm w hT h2)
  rw [hps, slice_at _ _ _ k hk hkn] at HS
  have HI0 := Lib.hid (fun w hT h2 => f20 _ HE.out s (bs (joinP ((ps.drop k).take (wrap64 ((IntKind.u64.wrap n).tmod 10)).toNat))) (by omega) (by omega) 0 (by omega) (by omega) w hT h2)
  have HI1 := Lib.hid (fun w hT h2 => f20 _ HE.out s (bs (joinP ((ps.drop k).take (wrap64 ((IntKind.u64.wrap n).tmod 10)).toNat))) (by omega) (by omega) (wrap64 ((IntKind.u64.wrap fr).tmod ((ps.length : Int) + 1))) (by rw [hk]; omega) (by rw [hk, hps]; omega) w hT h2)
  rw [hps, str_bs] at HI0 HI1
  rw [show ps = ps.drop 0 from rfl] at hps
  rw [hk] at HI1
  have e0 : idxN (joinP ((ps.drop k).take (wrap64 ((IntKind.u64.wrap n).tmod 10)).toNat)) 0 0 ps = ((j : Int), 0) := hj
  have e1 : idxN (joinP ((ps.drop k).take (wrap64 ((IntKind.u64.wrap n).tmod 10)).toNat)) (k : Int) 0 ps = ((k : Int), 0) := hj2
  rw [e0] at HI0
  rw [e1] at HI1
  rw [← hk] at HI1
  have hjK : (j : Int) ≤ wrap64 ((IntKind.u64.wrap fr).tmod ((ps.length : Int) + 1)) := by rw [hk]; omega
  unfold OptPost at HS
  unfold ansI at HI0 HI1
  simp only at HI0 HI1 HS
  generalize bs (joinP ((ps.drop k).take (wrap64 ((IntKind.u64.wrap n).tmod 10)).toNat)) = x at *
  clear HPX hj hj2 e0 e1 hjs hps hk hfj hjk hjk2 hkn
  have hd1 : decide ((300 : Int) < (s.size : Int)) = false := by simp; omega
  have hd2 : decide (s.size < ps.length) = false := by simp; omega
  have HA := Lib.hid hA; clear hA
  clear hT
  go_enter Tryd.func13, Tryd.ntmps13
  go_wp2_with fail
  refine H41.out.mono ?_
  rintro en w2 ⟨rfl, hB⟩
  have hz2 := hB.size
  simp only [World.size_alloc] at hz2
  have k2 : w2.cell? ⟨w.heap.size, 2, none⟩ = some (.int .i64 fr) := (hB.cell (by simp)).trans (by simp)
  have k3 : w2.cell? ⟨w.heap.size, 3, none⟩ = some (.int .i64 n) := (hB.cell (by simp)).trans (by simp)
  have HT2 := Lib.hid (tabs_below hB (by simp; omega) HT1.out)
  have HB2 := Lib.hid hB; clear hB
  go_wp2_with fail
  refine (HS.out w2 HT2.out (by omega)).mono ?_
  rintro en w3 ⟨rfl, hB⟩
  have hz3 := hB.size
  have HT3 := Lib.hid (tabs_below hB (by omega) HT2.out)
  have HB3 := Lib.hid hB; clear hB
  go_wp2_with fail
  refine (HI0.out w3 HT3.out (by omega)).mono ?_
  rintro en w4 ⟨rfl, hB⟩
  have hz4 := hB.size
  have HT4 := Lib.hid (tabs_below hB (by omega) HT3.out)
  have HB4 := Lib.hid hB; clear hB
  go_wp2_with fail
  refine (HI1.out w4 HT4.out (by omega)).mono ?_
  rintro en w5 ⟨rfl, hB⟩
  have hz5 := hB.size
  have H15 := Lib.hid (f15 w5 (tabs_below hB (by omega) HT4.out) (by omega))
  have HB5 := Lib.hid hB; clear hB
  go_wp2_with fail
  refine H15.out.mono ?_
  rintro en w6 ⟨rfl, hB⟩
  have HB6 := Lib.hid hB; clear hB
  go_wp2_with fail
  go_ret
  exact ⟨rfl, ((((HA.out.trans (HB2.out.mono (by simp))).trans (HB3.out.mono (by omega))).trans (HB4.out.mono (by omega))).trans (HB5.out.mono (by omega))).trans (HB6.out.mono (by omega))⟩

set_option maxRecDepth 100000 in
set_option maxHeartbeats 4000000 in
theorem f13_t (s : ByteArray) (e fr n : Int) (w : World) (hs : s.size ≤ 9223372036854775807) (hbig : 300 < s.size) (hT : Lib.Utf8Tabs 0 1 w) (h2 : 2 ≤ w.heap.size) : Calls Tryd.prog 13 #[.agg #[.string s, .int .i64 e, .int .i64 fr, .int .i64 n]] w fun en w' => en = .returned (.bool true) ∧ Below w.heap.size w w' := by
  obtain ⟨t, ht⟩ : ∃ t, s.extract 0 300 = t := ⟨_, rfl⟩
  have hts : t.size ≤ 300 := by rw [← ht, ByteArray.size_extract]; omega
  have hA : Below w.heap.size w (w.alloc (.cells #[.string s, .int .i64 e, .int .i64 fr, .int .i64 n] 58)) := (Below.refl _ _).alloc (Nat.le_refl _) _
  have HT1 := Lib.hid (tabs_below hA h2 hT)
  have HE := Lib.hid (enc_mod e)
  have H41 := Lib.hid (f41 _ HE.out t (by omega) (w.alloc (.cells #[.string s, .int .i64 e, .int .i64 fr, .int .i64 n] 58)) HT1.out (by simp; omega))
  have hl := parts_len (wrap64 ((IntKind.u64.wrap e).tmod 3)) (str t)
  rw [str_len] at hl
  have hjs : (joinP (parts (wrap64 ((IntKind.u64.wrap e).tmod 3)) (str t))) = str t := by unfold joinP; rw [parts_join]
  generalize hps : parts (wrap64 ((IntKind.u64.wrap e).tmod 3)) (str t) = ps at H41 hl hjs
  obtain ⟨k, hk, hkn⟩ := mod_k fr ps.length (by omega)
  have hm := mod_ten n
  have hx1 : (bs (joinP ((ps.drop k).take (wrap64 ((IntKind.u64.wrap n).tmod 10)).toNat))).size ≤ 300 := by
    have h1 := str_len (bs (joinP ((ps.drop k).take (wrap64 ((IntKind.u64.wrap n).tmod 10)).toNat)))
    rw [str_bs] at h1
    have h3 := joinP_sub ps k (wrap64 ((IntKind.u64.wrap n).tmod 10)).toNat
    rw [hjs, str_len] at h3
    omega
  have HPX := hp_take (ps.drop k) (wrap64 ((IntKind.u64.wrap n).tmod 10)).toNat
  obtain ⟨j, hj, -, hjk, -⟩ := idx_found (fr := 0) hkn (by omega) HPX k 0 (by omega)
  obtain ⟨j2, hj2, -, hjk2, hfj⟩ := idx_found (fr := (k : Int)) hkn (Int.le_refl _) HPX k 0 (by omega)
  obtain rfl : k = j2 := by omega
  have HS := Lib.hid (fun w hT h2 => f39 _ (wrap64 ((IntKind.u64.wrap fr).tmod ((ps.length : Int) + 1))) (wrap64 ((IntKind.u64.wrap n).tmod 10)) HE.out (by rw [hk]; omega) t (by omega) hm w hT h2)
  rw [hps, slice_at _ _ _ k hk hkn] at HS
  have HI0 := Lib.hid (fun w hT h2 => f20 _ HE.out t (bs (joinP ((ps.drop k).take (wrap64 ((IntKind.u64.wrap n).tmod 10)).toNat))) (by omega) (by omega) 0 (by omega) (by omega) w hT h2)
  have HI1 := Lib.hid (fun w hT h2 => f20 _ HE.out t (bs (joinP ((ps.drop k).take (wrap64 ((IntKind.u64.wrap n).tmod 10)).toNat))) (by omega) (by omega) (wrap64 ((IntKind.u64.wrap fr).tmod ((ps.length : Int) + 1))) (by rw [hk]; omega) (by rw [hk, hps]; omega) w hT h2)
  rw [hps, str_bs] at HI0 HI1
  rw [show ps = ps.drop 0 from rfl] at hps
  rw [hk] at HI1
  have e0 : idxN (joinP ((ps.drop k).take (wrap64 ((IntKind.u64.wrap n).tmod 10)).toNat)) 0 0 ps = ((j : Int), 0) := hj
  have e1 : idxN (joinP ((ps.drop k).take (wrap64 ((IntKind.u64.wrap n).tmod 10)).toNat)) (k : Int) 0 ps = ((k : Int), 0) := hj2
  rw [e0] at HI0
  rw [e1] at HI1
  rw [← hk] at HI1
  have hjK : (j : Int) ≤ wrap64 ((IntKind.u64.wrap fr).tmod ((ps.length : Int) + 1)) := by rw [hk]; omega
  unfold OptPost at HS
  unfold ansI at HI0 HI1
  simp only at HI0 HI1 HS
  generalize bs (joinP ((ps.drop k).take (wrap64 ((IntKind.u64.wrap n).tmod 10)).toNat)) = x at *
  clear HPX hj hj2 e0 e1 hjs hps hk hfj hjk hjk2 hkn
  have hd1 : decide ((300 : Int) < (s.size : Int)) = true := by simp; omega
  have hd2 : decide (t.size < ps.length) = false := by simp; omega
  have HA := Lib.hid hA; clear hA
  clear hT
  go_enter Tryd.func13, Tryd.ntmps13
  go_wp2_with fail
  clear ht
  refine H41.out.mono ?_
  rintro en w2 ⟨rfl, hB⟩
  have hz2 := hB.size
  simp only [World.size_alloc] at hz2
  have k2 : w2.cell? ⟨w.heap.size, 2, none⟩ = some (.int .i64 fr) := (hB.cell (by simp)).trans (by simp)
  have k3 : w2.cell? ⟨w.heap.size, 3, none⟩ = some (.int .i64 n) := (hB.cell (by simp)).trans (by simp)
  have HT2 := Lib.hid (tabs_below hB (by simp; omega) HT1.out)
  have HB2 := Lib.hid hB; clear hB
  go_wp2_with fail
  refine (HS.out w2 HT2.out (by omega)).mono ?_
  rintro en w3 ⟨rfl, hB⟩
  have hz3 := hB.size
  have HT3 := Lib.hid (tabs_below hB (by omega) HT2.out)
  have HB3 := Lib.hid hB; clear hB
  go_wp2_with fail
  refine (HI0.out w3 HT3.out (by omega)).mono ?_
  rintro en w4 ⟨rfl, hB⟩
  have hz4 := hB.size
  have HT4 := Lib.hid (tabs_below hB (by omega) HT3.out)
  have HB4 := Lib.hid hB; clear hB
  go_wp2_with fail
  refine (HI1.out w4 HT4.out (by omega)).mono ?_
  rintro en w5 ⟨rfl, hB⟩
  have hz5 := hB.size
  have H15 := Lib.hid (f15 w5 (tabs_below hB (by omega) HT4.out) (by omega))
  have HB5 := Lib.hid hB; clear hB
  go_wp2_with fail
  refine H15.out.mono ?_
  rintro en w6 ⟨rfl, hB⟩
  have HB6 := Lib.hid hB; clear hB
  go_wp2_with fail
  go_ret
  exact ⟨rfl, ((((HA.out.trans (HB2.out.mono (by simp))).trans (HB3.out.mono (by omega))).trans (HB4.out.mono (by omega))).trans (HB5.out.mono (by omega))).trans (HB6.out.mono (by omega))⟩

theorem f13 (s : ByteArray) (e fr n : Int) (w : World) (hs : s.size ≤ 9223372036854775807) (he : (Lit.int .i64 e).wf = true) (hi : (Lit.int .i64 fr).wf = true) (hn : (Lit.int .i64 n).wf = true) (hT : Lib.Utf8Tabs 0 1 w) (h2 : 2 ≤ w.heap.size) : Calls Tryd.prog 13 #[.agg #[.string s, .int .i64 e, .int .i64 fr, .int .i64 n]] w fun en w' => en = .returned (.bool true) ∧ Below w.heap.size w w' := by
  by_cases h : s.size ≤ 300
  · exact f13_s s e fr n w h hT h2
  · exact f13_t s e fr n w hs (by omega) hT h2
end Go.Proofs.YtaanihidheccfaaDoor
