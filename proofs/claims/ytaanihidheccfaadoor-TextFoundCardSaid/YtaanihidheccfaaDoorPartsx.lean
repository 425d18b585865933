/-
  The statement TextParts walked.
-/
import Derived.Test.YtaanihidheccfaaDoorCuts
namespace Go.Proofs.YtaanihidheccfaaDoor
open Go.Shelf Go.RowKit
set_option linter.unusedVariables false

theorem u64_pos (n : Int) : 0 ≤ IntKind.u64.wrap n := by
  unfold IntKind.wrap
  simp [IntKind.signed, IntKind.bits]
  omega
theorem enc_mod (n : Int) : wrap64 ((IntKind.u64.wrap n).tmod 3) = 0 ∨ wrap64 ((IntKind.u64.wrap n).tmod 3) = 1 ∨ wrap64 ((IntKind.u64.wrap n).tmod 3) = 2 := by
  have h0 := u64_pos n
  rw [Int.tmod_eq_emod_of_nonneg h0]
  generalize IntKind.u64.wrap n = u at *
  have e1 : wrap64 (u % 3) = u % 3 := by unfold wrap64; omega
  rw [e1]
  omega
theorem mod_k (i : Int) (n : Nat) (h : n ≤ 300) : ∃ k : Nat, wrap64 ((IntKind.u64.wrap i).tmod ((n : Int) + 1)) = (k : Int) ∧ k ≤ n := by
  have h0 := u64_pos i
  rw [Int.tmod_eq_emod_of_nonneg h0]
  generalize IntKind.u64.wrap i = u at *
  have h1 := Int.emod_nonneg u (by omega : (n : Int) + 1 ≠ 0)
  have h2 := Int.emod_lt_of_pos u (by omega : 0 < (n : Int) + 1)
  refine ⟨(u % ((n : Int) + 1)).toNat, ?_, by omega⟩
  generalize u % ((n : Int) + 1) = z at *
  unfold wrap64
  omega
theorem slice_front (ps : List (List UInt8 × Int)) (K : Int) (k : Nat) (hK : K = k) (hk : k ≤ ps.length) : sliceO ps 0 K = some (joinP (ps.take k)) := by
  subst hK
  unfold sliceO place
  rw [if_neg (by omega : ¬ ((0 : Int) < 0)), if_neg (by omega)]
  simp
theorem slice_back (ps : List (List UInt8 × Int)) (K : Int) (k : Nat) (hK : K = k) (hk : k ≤ ps.length) : sliceO ps K (ps.length : Int) = some (joinP (ps.drop k)) := by
  subst hK
  unfold sliceO place
  rw [if_neg (by omega : ¬ ((k : Int) < 0)), if_neg (by omega)]
  simp only [Int.toNat_natCast]
  rw [List.take_of_length_le (by rw [List.length_drop]; omega)]
theorem str_append (a b : ByteArray) : str (a ++ b) = str a ++ str b := by
  unfold str
  rw [ByteArray.data_append, Array.toList_append]
theorem place_pos (n k : Nat) : place n (k : Int) = (k : Int) := by unfold place; rw [if_neg (by omega)]
theorem place_neg (n k : Nat) (h : k < n) : place n ((k : Int) - (n : Int)) = (k : Int) := by unfold place; rw [if_pos (by omega)]; omega

set_option maxRecDepth 100000 in
set_option maxHeartbeats 4000000 in
theorem f11_s (s : ByteArray) (e i : Int) (w : World) (hs : s.size ≤ 300) (hT : Lib.Utf8Tabs 0 1 w) (h2 : 2 ≤ w.heap.size) : Calls Tryd.prog 11 #[.string s, .int .i64 e, .int .i64 i] w fun en w' => en = .returned (.bool true) ∧ Below w.heap.size w w' := by
  have HE := Lib.hid (enc_mod e)
  have H41 := Lib.hid (f41 _ HE.out s (by omega) w hT h2)
  have hl := parts_len (wrap64 ((IntKind.u64.wrap e).tmod 3)) (str s)
  rw [str_len] at hl
  have hjs : (joinP (parts (wrap64 ((IntKind.u64.wrap e).tmod 3)) (str s))) = str s := by unfold joinP; rw [parts_join]
  have hpp := parts_part (wrap64 ((IntKind.u64.wrap e).tmod 3)) (str s)
  generalize hps : parts (wrap64 ((IntKind.u64.wrap e).tmod 3)) (str s) = ps at H41 hl hjs hpp
  have HPS := Lib.hid hps; clear hps
  have HJS := Lib.hid hjs; clear hjs
  have hd1 : decide ((300 : Int) < (s.size : Int)) = false := by simp; omega
  have hd2 : decide (s.size < ps.length) = false := by simp; omega
  have HPP := Lib.hid hpp; clear hpp
  have HT := Lib.hid hT; clear hT
  go_enter Tryd.func11, Tryd.ntmps11
  go_wp2_with fail
  refine H41.out.mono ?_
  rintro en w2 ⟨rfl, hB⟩
  have hz2 := hB.size
  have HT2 := Lib.hid (tabs_below hB h2 HT.out)
  have HB2 := Lib.hid hB; clear hB
  go_wp2_with fail
  go_loopw [10, 11] (fun a ii wr => ∃ (out : ByteArray) (j : Nat), a = .string out ∧ ii = .int .i64 j ∧ j ≤ ps.length ∧ out.size ≤ j * 4 ∧ Hid (str out = joinP (ps.take j)) ∧ Hid (Below w2.heap.size w2 wr)) (fun _ ii _ => ps.length - (intOf ii).toNat)
  case atStart => exact ⟨⟨#[]⟩, 0, rfl, rfl, Nat.zero_le _, Nat.le_refl _, Lib.hid rfl, Lib.hid (Below.refl _ _)⟩
  case round =>
    obtain ⟨out, j, rfl, rfl, hj, hol, HOUT, HBR⟩ := hrel
    have hbr := HBR.out.size
    have HTr := Lib.hid (tabs_below HBR.out (by omega) HT2.out)
    by_cases hlt : j < ps.length
    · obtain ⟨p, hp⟩ : ∃ p, ps[j]? = some p := ⟨ps[j], by simp [hlt]⟩
      have HC1 := Lib.hid (f37_in _ (j : Int) HE.out s (by omega) wr HTr.out (by omega) j p (by rw [HPS.out]; exact place_pos _ _) (by rw [HPS.out]; exact hp))
      have HC2 := Lib.hid (fun w hT h2 => f37_in _ ((j : Int) - (ps.length : Int)) HE.out s (by omega) w hT h2 j p (by rw [HPS.out]; exact place_neg _ _ hlt) (by rw [HPS.out]; exact hp))
      have hp1 := HPP.out p (List.mem_of_getElem? hp)
      have HT1 : Hid (ps.take (j + 1) = ps.take j ++ [p]) := Lib.hid (by rw [List.take_add_one, hp]; rfl)
      have hne : 0 < (bs p.1).size := by
        have h1 := str_len (bs p.1)
        rw [str_bs] at h1
        have := hp1.1
        cases hq : p.1 with
        | nil => exact absurd hq this
        | cons a l => rw [hq] at h1; simp at h1; omega
      have h4 : (bs p.1).size ≤ 4 := by
        have h1 := str_len (bs p.1)
        rw [str_bs] at h1
        omega
      have HX : Hid (str (bs p.1) = p.1) := Lib.hid rfl
      clear hp hp1
      generalize bs p.1 = x at *
      have hemp := notEmpty_of hne
      go_wp2_with fail
      refine HC1.out.mono ?_
      rintro en w3 ⟨rfl, hB⟩
      have hz3 := hB.size
      have HT3 := Lib.hid (tabs_below hB (by omega) HTr.out)
      have HB3 := Lib.hid hB; clear hB
      go_wp2_with fail
      refine (HC2.out w3 HT3.out (by omega)).mono ?_
      rintro en w4 ⟨rfl, hB⟩
      have hz4 := hB.size
      have HB4 := Lib.hid hB; clear hB
      go_wp2_with fail
      have HX2 : Hid (str (out ++ x) = joinP (ps.take (j + 1))) := Lib.hid (by
        unfold joinP
        rw [HT1.out, List.map_append, List.flatten_append, str_append, HOUT.out]
        exact congrArg (fun z => joinP (ps.take j) ++ z) (HX.out.trans (List.append_nil _).symm))
      have hsx : (out ++ x).size = out.size + x.size := ByteArray.size_append
      go_roundw
      case rel => exact ⟨_, j + 1, rfl, by go_num, by omega, by omega, HX2, Lib.hid ((HBR.out.trans (HB3.out.mono (by omega))).trans (HB4.out.mono (by omega)))⟩
      case measure => simp [intOf]; omega
    · obtain rfl : j = ps.length := by omega
      obtain rfl : s = out := str_inj (by rw [← HJS.out, HOUT.out, List.take_length])
      clear HOUT hlt hol hj
      obtain ⟨k, hk, hkn⟩ := mod_k i ps.length (by omega)
      have HK := Lib.hid hk; clear hk
      have HS1 := Lib.hid (f39 _ 0 (wrap64 ((IntKind.u64.wrap i).tmod ((ps.length : Int) + 1))) HE.out (by decide) s (by omega) (by rw [HK.out]; omega) wr HTr.out (by omega))
      rw [HPS.out, slice_front _ _ k HK.out hkn] at HS1
      have HS2 := Lib.hid (fun w hT h2 => f39 _ (wrap64 ((IntKind.u64.wrap i).tmod ((ps.length : Int) + 1))) (ps.length : Int) HE.out (by rw [HK.out]; omega) s (by omega) (by omega) w hT h2)
      rw [HPS.out, slice_back _ _ k HK.out hkn] at HS2
      have HAB : Hid (bs (joinP (ps.take k)) ++ bs (joinP (ps.drop k)) = s) := Lib.hid (str_inj (by
        rw [str_append, str_bs, str_bs, ← HJS.out]
        unfold joinP
        rw [← List.flatten_append, ← List.map_append, List.take_append_drop]))
      have HO1 := Lib.hid (fun w hT h2 => f37_out _ (ps.length : Int) HE.out s (by omega) w hT h2 (by rw [HPS.out, place_pos]; omega))
      unfold OptPost at HS1 HS2
      go_wp2_with fail
      refine HS1.out.mono ?_
      rintro en w3 ⟨rfl, hB⟩
      have hz3 := hB.size
      have HT3 := Lib.hid (tabs_below hB (by omega) HTr.out)
      have HB3 := Lib.hid hB; clear hB
      go_wp2_with fail
      refine (HS2.out w3 HT3.out (by omega)).mono ?_
      rintro en w4 ⟨rfl, hB⟩
      have hz4 := hB.size
      have HT4 := Lib.hid (tabs_below hB (by omega) HT3.out)
      have HB4 := Lib.hid hB; clear hB
      generalize bs (joinP (ps.take k)) = x1 at *
      generalize bs (joinP (ps.drop k)) = x2 at *
      go_wp2_with fail
      refine (HO1.out w4 HT4.out (by omega)).mono ?_
      rintro en w5 ⟨rfl, hB⟩
      have hz5 := hB.size
      have H15 := Lib.hid (f15 w5 (tabs_below hB (by omega) HT4.out) (by omega))
      have HB5 := Lib.hid hB; clear hB
      have hsum : x1.size + x2.size ≤ 300 := by have h1 := congrArg ByteArray.size HAB.out; rw [ByteArray.size_append] at h1; omega
      have hab := HAB.out
      go_wp2_with fail
      refine H15.out.mono ?_
      rintro en w6 ⟨rfl, hB⟩
      have HB6 := Lib.hid hB; clear hB
      go_wp2_with fail
      go_ret
      exact ⟨rfl, ((((HB2.out.trans (HBR.out.mono (by omega))).trans (HB3.out.mono (by omega))).trans (HB4.out.mono (by omega))).trans (HB5.out.mono (by omega))).trans (HB6.out.mono (by omega))⟩

set_option maxRecDepth 100000 in
set_option maxHeartbeats 4000000 in
theorem f11_t (s : ByteArray) (e i : Int) (w : World) (hs : s.size ≤ 9223372036854775807) (hbig : 300 < s.size) (hT : Lib.Utf8Tabs 0 1 w) (h2 : 2 ≤ w.heap.size) : Calls Tryd.prog 11 #[.string s, .int .i64 e, .int .i64 i] w fun en w' => en = .returned (.bool true) ∧ Below w.heap.size w w' := by
  obtain ⟨t, ht⟩ : ∃ t, s.extract 0 300 = t := ⟨_, rfl⟩
  have hts : t.size ≤ 300 := by rw [← ht, ByteArray.size_extract]; omega
  have HE := Lib.hid (enc_mod e)
  have H41 := Lib.hid (f41 _ HE.out t (by omega) w hT h2)
  have hl := parts_len (wrap64 ((IntKind.u64.wrap e).tmod 3)) (str t)
  rw [str_len] at hl
  have hjs : (joinP (parts (wrap64 ((IntKind.u64.wrap e).tmod 3)) (str t))) = str t := by unfold joinP; rw [parts_join]
  have hpp := parts_part (wrap64 ((IntKind.u64.wrap e).tmod 3)) (str t)
  generalize hps : parts (wrap64 ((IntKind.u64.wrap e).tmod 3)) (str t) = ps at H41 hl hjs hpp
  have HPS := Lib.hid hps; clear hps
  have HJS := Lib.hid hjs; clear hjs
  have hd1 : decide ((300 : Int) < (s.size : Int)) = true := by simp; omega
  have hd2 : decide (t.size < ps.length) = false := by simp; omega
  have HPP := Lib.hid hpp; clear hpp
  have HT := Lib.hid hT; clear hT
  go_enter Tryd.func11, Tryd.ntmps11
  go_wp2_with fail
  clear ht
  refine H41.out.mono ?_
  rintro en w2 ⟨rfl, hB⟩
  have hz2 := hB.size
  have HT2 := Lib.hid (tabs_below hB h2 HT.out)
  have HB2 := Lib.hid hB; clear hB
  go_wp2_with fail
  go_loopw [10, 11] (fun a ii wr => ∃ (out : ByteArray) (j : Nat), a = .string out ∧ ii = .int .i64 j ∧ j ≤ ps.length ∧ out.size ≤ j * 4 ∧ Hid (str out = joinP (ps.take j)) ∧ Hid (Below w2.heap.size w2 wr)) (fun _ ii _ => ps.length - (intOf ii).toNat)
  case atStart => exact ⟨⟨#[]⟩, 0, rfl, rfl, Nat.zero_le _, Nat.le_refl _, Lib.hid rfl, Lib.hid (Below.refl _ _)⟩
  case round =>
    obtain ⟨out, j, rfl, rfl, hj, hol, HOUT, HBR⟩ := hrel
    have hbr := HBR.out.size
    have HTr := Lib.hid (tabs_below HBR.out (by omega) HT2.out)
    by_cases hlt : j < ps.length
    · obtain ⟨p, hp⟩ : ∃ p, ps[j]? = some p := ⟨ps[j], by simp [hlt]⟩
      have HC1 := Lib.hid (f37_in _ (j : Int) HE.out t (by omega) wr HTr.out (by omega) j p (by rw [HPS.out]; exact place_pos _ _) (by rw [HPS.out]; exact hp))
      have HC2 := Lib.hid (fun w hT h2 => f37_in _ ((j : Int) - (ps.length : Int)) HE.out t (by omega) w hT h2 j p (by rw [HPS.out]; exact place_neg _ _ hlt) (by rw [HPS.out]; exact hp))
      have hp1 := HPP.out p (List.mem_of_getElem? hp)
      have HT1 : Hid (ps.take (j + 1) = ps.take j ++ [p]) := Lib.hid (by rw [List.take_add_one, hp]; rfl)
      have hne : 0 < (bs p.1).size := by
        have h1 := str_len (bs p.1)
        rw [str_bs] at h1
        have := hp1.1
        cases hq : p.1 with
        | nil => exact absurd hq this
        | cons a l => rw [hq] at h1; simp at h1; omega
      have h4 : (bs p.1).size ≤ 4 := by
        have h1 := str_len (bs p.1)
        rw [str_bs] at h1
        omega
      have HX : Hid (str (bs p.1) = p.1) := Lib.hid rfl
      clear hp hp1
      generalize bs p.1 = x at *
      have hemp := notEmpty_of hne
      go_wp2_with fail
      refine HC1.out.mono ?_
      rintro en w3 ⟨rfl, hB⟩
      have hz3 := hB.size
      have HT3 := Lib.hid (tabs_below hB (by omega) HTr.out)
      have HB3 := Lib.hid hB; clear hB
      go_wp2_with fail
      refine (HC2.out w3 HT3.out (by omega)).mono ?_
      rintro en w4 ⟨rfl, hB⟩
      have hz4 := hB.size
      have HB4 := Lib.hid hB; clear hB
      go_wp2_with fail
      have HX2 : Hid (str (out ++ x) = joinP (ps.take (j + 1))) := Lib.hid (by
        unfold joinP
        rw [HT1.out, List.map_append, List.flatten_append, str_append, HOUT.out]
        exact congrArg (fun z => joinP (ps.take j) ++ z) (HX.out.trans (List.append_nil _).symm))
      have hsx : (out ++ x).size = out.size + x.size := ByteArray.size_append
      go_roundw
      case rel => exact ⟨_, j + 1, rfl, by go_num, by omega, by omega, HX2, Lib.hid ((HBR.out.trans (HB3.out.mono (by omega))).trans (HB4.out.mono (by omega)))⟩
      case measure => simp [intOf]; omega
    · obtain rfl : j = ps.length := by omega
      obtain rfl : t = out := str_inj (by rw [← HJS.out, HOUT.out, List.take_length])
      clear HOUT hlt hol hj
      obtain ⟨k, hk, hkn⟩ := mod_k i ps.length (by omega)
      have HK := Lib.hid hk; clear hk
      have HS1 := Lib.hid (f39 _ 0 (wrap64 ((IntKind.u64.wrap i).tmod ((ps.length : Int) + 1))) HE.out (by decide) t (by omega) (by rw [HK.out]; omega) wr HTr.out (by omega))
      rw [HPS.out, slice_front _ _ k HK.out hkn] at HS1
      have HS2 := Lib.hid (fun w hT h2 => f39 _ (wrap64 ((IntKind.u64.wrap i).tmod ((ps.length : Int) + 1))) (ps.length : Int) HE.out (by rw [HK.out]; omega) t (by omega) (by omega) w hT h2)
      rw [HPS.out, slice_back _ _ k HK.out hkn] at HS2
      have HAB : Hid (bs (joinP (ps.take k)) ++ bs (joinP (ps.drop k)) = t) := Lib.hid (str_inj (by
        rw [str_append, str_bs, str_bs, ← HJS.out]
        unfold joinP
        rw [← List.flatten_append, ← List.map_append, List.take_append_drop]))
      have HO1 := Lib.hid (fun w hT h2 => f37_out _ (ps.length : Int) HE.out t (by omega) w hT h2 (by rw [HPS.out, place_pos]; omega))
      unfold OptPost at HS1 HS2
      go_wp2_with fail
      refine HS1.out.mono ?_
      rintro en w3 ⟨rfl, hB⟩
      have hz3 := hB.size
      have HT3 := Lib.hid (tabs_below hB (by omega) HTr.out)
      have HB3 := Lib.hid hB; clear hB
      go_wp2_with fail
      refine (HS2.out w3 HT3.out (by omega)).mono ?_
      rintro en w4 ⟨rfl, hB⟩
      have hz4 := hB.size
      have HT4 := Lib.hid (tabs_below hB (by omega) HT3.out)
      have HB4 := Lib.hid hB; clear hB
      generalize bs (joinP (ps.take k)) = x1 at *
      generalize bs (joinP (ps.drop k)) = x2 at *
      go_wp2_with fail
      refine (HO1.out w4 HT4.out (by omega)).mono ?_
      rintro en w5 ⟨rfl, hB⟩
      have hz5 := hB.size
      have H15 := Lib.hid (f15 w5 (tabs_below hB (by omega) HT4.out) (by omega))
      have HB5 := Lib.hid hB; clear hB
      have hsum : x1.size + x2.size ≤ 300 := by have h1 := congrArg ByteArray.size HAB.out; rw [ByteArray.size_append] at h1; omega
      have hab := HAB.out
      go_wp2_with fail
      refine H15.out.mono ?_
      rintro en w6 ⟨rfl, hB⟩
      have HB6 := Lib.hid hB; clear hB
      go_wp2_with fail
      go_ret
      exact ⟨rfl, ((((HB2.out.trans (HBR.out.mono (by omega))).trans (HB3.out.mono (by omega))).trans (HB4.out.mono (by omega))).trans (HB5.out.mono (by omega))).trans (HB6.out.mono (by omega))⟩

theorem f11 (s : ByteArray) (e i : Int) (w : World) (hs : s.size ≤ 9223372036854775807) (he : (Lit.int .i64 e).wf = true) (hi : (Lit.int .i64 i).wf = true) (hT : Lib.Utf8Tabs 0 1 w) (h2 : 2 ≤ w.heap.size) : Calls Tryd.prog 11 #[.string s, .int .i64 e, .int .i64 i] w fun en w' => en = .returned (.bool true) ∧ Below w.heap.size w w' := by
  by_cases h : s.size ≤ 300
  · exact f11_s s e i w h hT h2
  · exact f11_t s e i w hs (by omega) hT h2

end Go.Proofs.YtaanihidheccfaaDoor
