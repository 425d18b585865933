/-
  The program's node at a back reference.
-/
import Derived.Test.YtlgpilcjcomacaaMf
import Derived.Test.YtlgpilcjcomacaaShelf
import Derived.Deep.RegionHeld3
import Derived.Deep.DrawnRows
namespace Go.Proofs.Ytlgpilcjcomacaa
open Go.RowKit Rx
set_option linter.unusedVariables false
attribute [local go_sem ↓] Go.wp_at_zero Go.wp_at_succ

theorem str_extract (s : ByteArray) (a b : Nat) : str (s.extract a b) = ((str s).drop a).take (b - a) := by
  unfold str
  rw [ByteArray.data_extract, Array.toList_extract, List.extract_eq_take_drop]
theorem str_extract_end (s : ByteArray) (a : Nat) : str (s.extract a s.size) = (str s).drop a := by
  rw [str_extract, List.take_of_length_le (by rw [List.length_drop, str_len]; omega)]

set_option maxRecDepth 100000 in
set_option maxHeartbeats 1000000 in
theorem node_bref (c : Cx) (m : Nat) (hm1 : 1 ≤ m) (hmG : m ≤ c.G) (be b : Nat) (of : Value) (wa : Option Addr) (wl wc : Nat) (kid : Value) (least most how : Int) (at' : Nat) (kv : Value) (k : K) (n : Nat) (g : Grp) (w : World)
    (hN : NodeC (fun b => b ≠ c.bm) c.wT b 7 of (m : Int) wa wl wc kid least most how) (hI : Inv c be n g w) (ha : at' ≤ c.s.size) (hk : KOK c be kv k at' w) :
    Calls Try.prog 52 #[.pointer (some ⟨c.bm, 0, none⟩), .pointer (some ⟨b, 0, none⟩), .int .i64 (at' : Int), kv] w (Got c be w at' g (run (str c.s) c.B (.bref m) at' k n g)) := by
  by_cases hn0 : n = c.B
  · rw [show run (str c.s) c.B (.bref m) at' k n g = .over from tick_over hn0]
    exact node_over c be b 7 _ m wa wl wc kid least most how at' kv k n g w (by decide) hN hI hk hn0
  have hn : n < c.B := by have := hI.nB; omega
  have hsz := hI.sz
  have hgi := hI.gi m
  have hG9 := hI.lG
  have hk0 := hk
  obtain ⟨f, cp, rfl, en, -⟩ := hk0
  obtain ⟨w4, hw4⟩ : ∃ w4, (((w.alloc (.cells #[.pointer (some ⟨c.bm, 0, none⟩)] 64)).alloc (.cells #[.pointer (some ⟨b, 0, none⟩)] 61)).alloc (.cells #[.int .i64 (at' : Int)] 3)).alloc (.cells #[.func (.func f) #[] cp] 118) = w4 := ⟨_, rfl⟩
  have T4 : Still w w4 := by rw [← hw4]; exact ((((Touch.refl _ _).alloc _).alloc _).alloc _).alloc _
  have k4 : w4.cell? ⟨w.heap.size, 0, none⟩ = some (.pointer (some ⟨c.bm, 0, none⟩)) := by rw [← hw4]; simp [go_sem]
  have k5 : w4.cell? ⟨w.heap.size + 1, 0, none⟩ = some (.pointer (some ⟨b, 0, none⟩)) := by rw [← hw4]; simp [go_sem]
  have k6 : w4.cell? ⟨w.heap.size + 1 + 1, 0, none⟩ = some (.int .i64 (at' : Int)) := by rw [← hw4]; simp [go_sem]
  have k7 : w4.cell? ⟨w.heap.size + 1 + 1 + 1, 0, none⟩ = some (.func (.func f) #[] cp) := by rw [← hw4]; simp [go_sem]
  have hz4 : w4.heap.size = w.heap.size + 1 + 1 + 1 + 1 := by rw [← hw4]; simp
  have s0 := hI.ss (b := w.heap.size) (Nat.le_refl _)
  have s1 := hI.ss (b := w.heap.size + 1) (by omega)
  have s2 := hI.ss (b := w.heap.size + 1 + 1) (by omega)
  have s3 := hI.ss (b := w.heap.size + 1 + 1 + 1) (by omega)
  have HI4 := Lib.hid (hI.keep T4)
  have HT4 : Hid (Touch (SS c be) w w4) := Lib.hid T4.ss
  have HS0 := Lib.hid s0; have HS1 := Lib.hid s1; have HS2 := Lib.hid s2; have HS3 := Lib.hid s3
  have HZ4 := Lib.hid hz4
  have kd := HI4.out.tree hN.c0 hN.fb
  have HN := Lib.hid hN
  have HK := Lib.hid hk
  have hnB := hI.nB
  have hB := hI.lB
  clear hI hk hN T4 s0 s1 s2 s3 hz4
  have HST := Lib.hid (step_on c.bm c.B n w4 hn hB HI4.out.c1 HI4.out.c2)
  have hrun : run (str c.s) c.B (.bref m) at' k n g = if (g m).1 < 0 ∨ ¬ (((str c.s).drop (g m).1.toNat).take ((g m).2.toNat - (g m).1.toNat)).isPrefixOf ((str c.s).drop at') = true then .no (n + 1) else k (at' + ((g m).2.toNat - (g m).1.toNat)) (n + 1) g := by
    show tick c.B n _ = _
    rw [tick_on hn]
  have hg0 := (HI4.out.g0 m hmG)
  have hg1 := (HI4.out.g1 m hmG)
  have HG0 := Lib.hid hg0; have HG1 := Lib.hid hg1; clear hg0 hg1
  generalize hgm : g m = v at *
  obtain ⟨v1, v2⟩ := v
  simp only at hgi hrun HG0 HG1
  by_cases hneg : v1 < 0
  · have HR : Hid (run (str c.s) c.B (.bref m) at' k n g = .no (n + 1)) := Lib.hid (by rw [hrun, if_pos (.inl hneg)])
    clear hrun hgm
    go_enter Try.func52, Try.ntmps52
    go_wp2_with fail
    clear hw4
    refine HST.out.mono ?_
    rintro e w5 ⟨rfl, q, rfl⟩
    have T5 : Touch (fun i => i = c.bm) w4 ((w4.drewN q).setCell ⟨c.bm, 1, none⟩ (.int .i64 ((n + 1 : Nat) : Int))) := Touch.setCell ((Touch.refl (fun i => i = c.bm) w4).drewN q) (.inl rfl) _
    have hI5 := HI4.out.step q hn
    generalize (w4.drewN q).setCell ⟨c.bm, 1, none⟩ (.int .i64 ((n + 1 : Nat) : Int)) = w5 at *
    have k4 := T5.has k4 (fun e => HS0.out (.inl e))
    have k5 := T5.has k5 (fun e => HS1.out (.inl e))
    have k6 := T5.has k6 (fun e => HS2.out (.inl e))
    have k7 := T5.has k7 (fun e => HS3.out (.inl e))
    have HT5 : Hid (Touch (SS c be) w w5) := Lib.hid (HT4.out.then (T5.mono (fun _ _ e => .inl e)))
    have hs0 := hI5.c0
    have hk2 := hI5.tree HN.out.c2 HN.out.fb
    have hk3 := hI5.c3
    have y0 := (HG0.out.keep T5 (Ne.symm hI5.ne)).1
    have y1 := (HG1.out.keep T5 (Ne.symm hI5.ne)).1
    rw [Nat.mul_comm] at y0 y1
    have HI5 := Lib.hid hI5
    have hmi : (m : Int) < (c.G : Int) + 1 := by omega
    clear hI5 T5
    go_wp2_with fail
    go_region_held3 (fun w' => w'.cell? ⟨w.heap.size, 0, none⟩ = some (.pointer (some ⟨c.bm, 0, none⟩)) ∧ w'.cell? ⟨w.heap.size + 1, 0, none⟩ = some (.pointer (some ⟨b, 0, none⟩)) ∧ w'.cell? ⟨c.bm, 3, none⟩ = some (.slice (some ⟨c.bg, 0, none⟩) (c.G + 1) (c.G + 1)) ∧ w'.cell? ⟨b, 2, none⟩ = some (.int .i64 (m : Int)) ∧ w'.cell? ⟨c.bg, m * 2, none⟩ = some (.int .i64 v1) ∧ w'.cell? ⟨c.bg, m * 2 + 1, none⟩ = some (.int .i64 v2)) (go_keep) (first | fail)
    rename_i hS6
    clear hS6
    have T6 : Still w5 (w5.alloc (.cells #[.int .i64 v1, .int .i64 v2] 40)).drew := ((Touch.refl _ _).alloc _).drew
    have z0 : (w5.alloc (.cells #[.int .i64 v1, .int .i64 v2] 40)).drew.cell? ⟨w5.heap.size, 0, none⟩ = some (.int .i64 v1) := by simp [go_sem]
    have z1 : (w5.alloc (.cells #[.int .i64 v1, .int .i64 v2] 40)).drew.cell? ⟨w5.heap.size, 1, none⟩ = some (.int .i64 v2) := by simp [go_sem]
    generalize (w5.alloc (.cells #[.int .i64 v1, .int .i64 v2] 40)).drew = w6 at *
    have k4 := T6.has k4 id
    have k5 := T6.has k5 id
    have k6 := T6.has k6 id
    have k7 := T6.has k7 id
    have hs0 := T6.has hs0 id
    have HI6 := Lib.hid (HI5.out.keep T6)
    have HT6 : Hid (Touch (SS c be) w w6) := Lib.hid (HT5.out.then T6.ss)
    clear T6 y0 y1 hk2 hk3
    go_wp2_with fail
    go_quiet (fail)
    go_wp2_with fail
    go_ret
    rw [HR.out]
    exact ⟨rfl, HI6.out.keep ((Touch.refl _ _).drewN _), HT6.out.drewN _⟩
  · have hgi2 := hgi.resolve_left (fun h => by have := congrArg Prod.fst h; simp at this; omega)
    obtain ⟨a, rfl⟩ : ∃ a : Nat, v1 = a := ⟨v1.toNat, by omega⟩
    obtain ⟨d, rfl⟩ : ∃ d : Nat, v2 = d := ⟨v2.toNat, by omega⟩
    have had : a ≤ d := by omega
    have hds : d ≤ c.s.size := by omega
    clear hgi hgi2
    have hpre : Lib.hasPrefix (c.s.extract at' c.s.size).data.toList (c.s.extract a d).data.toList = (((str c.s).drop a).take (d - a)).isPrefixOf ((str c.s).drop at') := by
      unfold Lib.hasPrefix
      rw [show (c.s.extract at' c.s.size).data.toList = (str c.s).drop at' from str_extract_end _ _, show (c.s.extract a d).data.toList = ((str c.s).drop a).take (d - a) from str_extract _ _ _]
    have hneg' : decide ((a : Int) < 0) = false := by simp
    simp only [Int.toNat_natCast] at hrun
    have hHP := fun w => Try.strings_HasPrefix (c.s.extract at' c.s.size) (c.s.extract a d) w
    rw [hpre] at hHP
    cases hb : (((str c.s).drop a).take (d - a)).isPrefixOf ((str c.s).drop at') with
    | false =>
      rw [hb] at hHP
      have HHP := Lib.hid hHP
      have HR : Hid (run (str c.s) c.B (.bref m) at' k n g = .no (n + 1)) := Lib.hid (by rw [hrun, if_pos (.inr (by rw [hb]; decide))])
      clear hrun hgm hHP hpre hb
      go_enter Try.func52, Try.ntmps52
      go_wp2_with fail
      clear hw4
      refine HST.out.mono ?_
      rintro e w5 ⟨rfl, q, rfl⟩
      have T5 : Touch (fun i => i = c.bm) w4 ((w4.drewN q).setCell ⟨c.bm, 1, none⟩ (.int .i64 ((n + 1 : Nat) : Int))) := Touch.setCell ((Touch.refl (fun i => i = c.bm) w4).drewN q) (.inl rfl) _
      have hI5 := HI4.out.step q hn
      generalize (w4.drewN q).setCell ⟨c.bm, 1, none⟩ (.int .i64 ((n + 1 : Nat) : Int)) = w5 at *
      have k4 := T5.has k4 (fun e => HS0.out (.inl e))
      have k5 := T5.has k5 (fun e => HS1.out (.inl e))
      have k6 := T5.has k6 (fun e => HS2.out (.inl e))
      have k7 := T5.has k7 (fun e => HS3.out (.inl e))
      have HT5 : Hid (Touch (SS c be) w w5) := Lib.hid (HT4.out.then (T5.mono (fun _ _ e => .inl e)))
      have hs0 := hI5.c0
      have hk2 := hI5.tree HN.out.c2 HN.out.fb
      have hk3 := hI5.c3
      have y0 := (HG0.out.keep T5 (Ne.symm hI5.ne)).1
      have y1 := (HG1.out.keep T5 (Ne.symm hI5.ne)).1
      rw [Nat.mul_comm] at y0 y1
      have HI5 := Lib.hid hI5
      have hmi : (m : Int) < (c.G : Int) + 1 := by omega
      clear hI5 T5
      go_wp2_with fail
      go_region_held3 (fun w' => w'.cell? ⟨w.heap.size, 0, none⟩ = some (.pointer (some ⟨c.bm, 0, none⟩)) ∧ w'.cell? ⟨w.heap.size + 1, 0, none⟩ = some (.pointer (some ⟨b, 0, none⟩)) ∧ w'.cell? ⟨c.bm, 3, none⟩ = some (.slice (some ⟨c.bg, 0, none⟩) (c.G + 1) (c.G + 1)) ∧ w'.cell? ⟨b, 2, none⟩ = some (.int .i64 (m : Int)) ∧ w'.cell? ⟨c.bg, m * 2, none⟩ = some (.int .i64 (a : Int)) ∧ w'.cell? ⟨c.bg, m * 2 + 1, none⟩ = some (.int .i64 (d : Int))) (go_keep) (first | fail)
      rename_i hS6
      clear hS6
      have T6 : Still w5 (w5.alloc (.cells #[.int .i64 (a : Int), .int .i64 (d : Int)] 40)).drew := ((Touch.refl _ _).alloc _).drew
      have z0 : (w5.alloc (.cells #[.int .i64 (a : Int), .int .i64 (d : Int)] 40)).drew.cell? ⟨w5.heap.size, 0, none⟩ = some (.int .i64 (a : Int)) := by simp [go_sem]
      have z1 : (w5.alloc (.cells #[.int .i64 (a : Int), .int .i64 (d : Int)] 40)).drew.cell? ⟨w5.heap.size, 1, none⟩ = some (.int .i64 (d : Int)) := by simp [go_sem]
      generalize (w5.alloc (.cells #[.int .i64 (a : Int), .int .i64 (d : Int)] 40)).drew = w6 at *
      have k4 := T6.has k4 id
      have k5 := T6.has k5 id
      have k6 := T6.has k6 id
      have k7 := T6.has k7 id
      have hs0 := T6.has hs0 id
      have HI6 := Lib.hid (HI5.out.keep T6)
      have HT6 : Hid (Touch (SS c be) w w6) := Lib.hid (HT5.out.then T6.ss)
      clear T6 y0 y1 hk2 hk3
      go_wp2_with fail
      go_quiet ((go_at_call 69; exact Calls.quiet_of_same ((HHP.out _).mono fun e w' h => ⟨h.1, h.2⟩)))
      go_wp2_with fail
      go_ret
      rw [HR.out]
      exact ⟨rfl, HI6.out.keep ((Touch.refl _ _).drewN _), HT6.out.drewN _⟩
    | true =>
      rw [hb] at hHP
      have HHP := Lib.hid hHP
      have HR : Hid (run (str c.s) c.B (.bref m) at' k n g = k (at' + (d - a)) (n + 1) g) := Lib.hid (by rw [hrun, if_neg (by rw [hb]; simp)])
      have hle : at' + (d - a) ≤ c.s.size := by
        have h1 := List.IsPrefix.length_le (List.isPrefixOf_iff_prefix.1 hb)
        rw [List.length_take, List.length_drop, List.length_drop, str_len] at h1
        omega
      clear hrun hgm hHP hpre hb
      go_enter Try.func52, Try.ntmps52
      go_wp2_with fail
      clear hw4
      refine HST.out.mono ?_
      rintro e w5 ⟨rfl, q, rfl⟩
      have T5 : Touch (fun i => i = c.bm) w4 ((w4.drewN q).setCell ⟨c.bm, 1, none⟩ (.int .i64 ((n + 1 : Nat) : Int))) := Touch.setCell ((Touch.refl (fun i => i = c.bm) w4).drewN q) (.inl rfl) _
      have hI5 := HI4.out.step q hn
      generalize (w4.drewN q).setCell ⟨c.bm, 1, none⟩ (.int .i64 ((n + 1 : Nat) : Int)) = w5 at *
      have k4 := T5.has k4 (fun e => HS0.out (.inl e))
      have k5 := T5.has k5 (fun e => HS1.out (.inl e))
      have k6 := T5.has k6 (fun e => HS2.out (.inl e))
      have k7 := T5.has k7 (fun e => HS3.out (.inl e))
      have HT5 : Hid (Touch (SS c be) w w5) := Lib.hid (HT4.out.then (T5.mono (fun _ _ e => .inl e)))
      have hs0 := hI5.c0
      have hk2 := hI5.tree HN.out.c2 HN.out.fb
      have hk3 := hI5.c3
      have y0 := (HG0.out.keep T5 (Ne.symm hI5.ne)).1
      have y1 := (HG1.out.keep T5 (Ne.symm hI5.ne)).1
      rw [Nat.mul_comm] at y0 y1
      have HI5 := Lib.hid hI5
      have hmi : (m : Int) < (c.G : Int) + 1 := by omega
      clear hI5 T5
      go_wp2_with fail
      go_region_held3 (fun w' => w'.cell? ⟨w.heap.size, 0, none⟩ = some (.pointer (some ⟨c.bm, 0, none⟩)) ∧ w'.cell? ⟨w.heap.size + 1, 0, none⟩ = some (.pointer (some ⟨b, 0, none⟩)) ∧ w'.cell? ⟨c.bm, 3, none⟩ = some (.slice (some ⟨c.bg, 0, none⟩) (c.G + 1) (c.G + 1)) ∧ w'.cell? ⟨b, 2, none⟩ = some (.int .i64 (m : Int)) ∧ w'.cell? ⟨c.bg, m * 2, none⟩ = some (.int .i64 (a : Int)) ∧ w'.cell? ⟨c.bg, m * 2 + 1, none⟩ = some (.int .i64 (d : Int))) (go_keep) (first | fail)
      rename_i hS6
      clear hS6
      have T6 : Still w5 (w5.alloc (.cells #[.int .i64 (a : Int), .int .i64 (d : Int)] 40)).drew := ((Touch.refl _ _).alloc _).drew
      have z0 : (w5.alloc (.cells #[.int .i64 (a : Int), .int .i64 (d : Int)] 40)).drew.cell? ⟨w5.heap.size, 0, none⟩ = some (.int .i64 (a : Int)) := by simp [go_sem]
      have z1 : (w5.alloc (.cells #[.int .i64 (a : Int), .int .i64 (d : Int)] 40)).drew.cell? ⟨w5.heap.size, 1, none⟩ = some (.int .i64 (d : Int)) := by simp [go_sem]
      generalize (w5.alloc (.cells #[.int .i64 (a : Int), .int .i64 (d : Int)] 40)).drew = w6 at *
      have k4 := T6.has k4 id
      have k5 := T6.has k5 id
      have k6 := T6.has k6 id
      have k7 := T6.has k7 id
      have hs0 := T6.has hs0 id
      have HI6 := Lib.hid (HI5.out.keep T6)
      have HT6 : Hid (Touch (SS c be) w w6) := Lib.hid (HT5.out.then T6.ss)
      clear T6 y0 y1 hk2 hk3
      have hw1 := IntWalk.i64_in ((at' : Int) + (d : Int)) (by omega)
      have hw2 := IntWalk.i64_in ((at' : Int) + (d : Int) - (a : Int)) (by omega)
      go_wp2_with fail
      go_quiet ((go_at_call 69; exact Calls.quiet_of_same ((HHP.out _).mono fun e w' h => ⟨h.1, h.2⟩)))
      have HKK : Hid (∀ q : Nat, Calls Try.prog f (#[.int .i64 ((at' : Int) + (d : Int) - (a : Int))] ++ cp) (w6.drewN q) (Got c be (w6.drewN q) (at' + (d - a)) g (k (at' + (d - a)) (n + 1) g))) := Lib.hid (fun q => by
        obtain ⟨f', cp', e1, -, hk⟩ := HK.out
        cases e1
        rw [show (at' : Int) + (d : Int) - (a : Int) = ((at' + (d - a) : Nat) : Int) by omega]
        exact hk (w6.drewN q) (at' + (d - a)) (n + 1) g (HT6.out.drewN q) (HI6.out.keep ((Touch.refl _ _).drewN q)) (Nat.le_add_right _ _) hle)
      clear hw1 hw2
      go_wp2_with fail
      refine (HKK.out _).mono ?_
      intro e w' hG
      have HG := Lib.hid (hG.from (HT6.out.drewN _) (Nat.le_add_right _ _))
      rcases hG.ends with rfl | ⟨bb, rfl⟩
      · refine ⟨rfl, ?_⟩
        rw [HR.out]
        exact HG.out
      · clear hG
        go_wp2_with fail
        go_ret
        rw [HR.out]
        exact HG.out
end Go.Proofs.Ytlgpilcjcomacaa
