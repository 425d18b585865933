/-
  The program's node at an assertion and at a back reference.
-/
import Derived.Test.YtlgpilcjcomacaaMf
namespace Go.Proofs.Ytlgpilcjcomacaa
open Go.RowKit Rx
set_option linter.unusedVariables false

set_option maxRecDepth 100000 in
set_option maxHeartbeats 1000000 in
theorem node_asr (c : Cx) (ka : Nat) (hk1 : 1 ≤ ka) (hk6 : ka ≤ 6) (be b : Nat) (of : Value) (num : Int) (wa : Option Addr) (wl wc : Nat) (kid : Value) (least most how : Int) (at' : Nat) (kv : Value) (k : K) (n : Nat) (g : Grp) (w : World)
    (hN : NodeC (fun b => b ≠ c.bm) c.wT b (ka : Int) of num wa wl wc kid least most how) (hI : Inv c be n g w) (ha : at' ≤ c.s.size) (hk : KOK c be kv k at' w) :
    Calls Try.prog 52 #[.pointer (some ⟨c.bm, 0, none⟩), .pointer (some ⟨b, 0, none⟩), .int .i64 (at' : Int), kv] w (Got c be w at' g (run (str c.s) c.B (.asr ka) at' k n g)) := by
  by_cases hn0 : n = c.B
  · rw [show run (str c.s) c.B (.asr ka) at' k n g = .over from tick_over hn0]
    exact node_over c be b ka _ num wa wl wc kid least most how at' kv k n g w (by omega) hN hI hk hn0
  have hn : n < c.B := by have := hI.nB; omega
  have hsz := hI.sz
  have hk0 := hk
  obtain ⟨f, cp, rfl, en, -⟩ := hk0
  obtain ⟨w4, hw4⟩ : ∃ w4, (((w.alloc (.cells #[.pointer (some ⟨c.bm, 0, none⟩)] 64)).alloc (.cells #[.pointer (some ⟨b, 0, none⟩)] 61)).alloc (.cells #[.int .i64 (at' : Int)] 3)).alloc (.cells #[.func (.func f) #[] cp] 118) = w4 := ⟨_, rfl⟩
  have T4 : Still w w4 := by rw [← hw4]; exact ((((Touch.refl _ _).alloc _).alloc _).alloc _).alloc _
  have k4 : w4.cell? ⟨w.heap.size, 0, none⟩ = some (.pointer (some ⟨c.bm, 0, none⟩)) := by rw [← hw4]; simp [go_sem]
  have k5 : w4.cell? ⟨w.heap.size + 1, 0, none⟩ = some (.pointer (some ⟨b, 0, none⟩)) := by rw [← hw4]; simp [go_sem]
  have k6 : w4.cell? ⟨w.heap.size + 1 + 1, 0, none⟩ = some (.int .i64 (at' : Int)) := by rw [← hw4]; simp [go_sem]
  have k7 : w4.cell? ⟨w.heap.size + 1 + 1 + 1, 0, none⟩ = some (.func (.func f) #[] cp) := by rw [← hw4]; simp [go_sem]
  have hz4 : w4.heap.size = w.heap.size + 1 + 1 + 1 + 1 := by rw [← hw4]; simp
  have s0 := hI.ss (b := w.heap.size) (Nat.le_refl _)
  have s1 := hI.ss (b := w.heap.size + 1) (by omega)
  have s2 := hI.ss (b := w.heap.size + 1 + 1) (by omega)
  have s3 := hI.ss (b := w.heap.size + 1 + 1 + 1) (by omega)
  have HI4 := Lib.hid (hI.keep T4)
  have HT4 : Hid (Touch (SS c be) w w4) := Lib.hid T4.ss
  have HS0 := Lib.hid s0; have HS1 := Lib.hid s1; have HS2 := Lib.hid s2; have HS3 := Lib.hid s3
  have HZ4 := Lib.hid hz4
  have kd := HI4.out.tree hN.c0 hN.fb
  have HN := Lib.hid hN
  have HK := Lib.hid hk
  have hnB := hI.nB
  have hB := hI.lB
  clear hI hk hN T4 s0 s1 s2 s3 hz4
  have HST := Lib.hid (step_on c.bm c.B n w4 hn hB HI4.out.c1 HI4.out.c2)
  have hsd := fun (w : World) h => stands_any c.bm ka at' c.s w hk1 hk6 hsz ha h
  have hrun : run (str c.s) c.B (.asr ka) at' k n g = if Rx.stands (str c.s) ka at' then k at' (n + 1) g else .no (n + 1) := by
    show tick c.B n _ = _
    rw [tick_on hn]
  cases hst : Rx.stands (str c.s) ka at' with
  | true =>
    rw [hst] at hsd
    have HSD := Lib.hid hsd
    have HR : Hid (run (str c.s) c.B (.asr ka) at' k n g = k at' (n + 1) g) := Lib.hid (by rw [hrun, hst]; rfl)
    clear hrun hst hsd
    obtain rfl | rfl | rfl | rfl | rfl | rfl : ka = 1 ∨ ka = 2 ∨ ka = 3 ∨ ka = 4 ∨ ka = 5 ∨ ka = 6 := by omega
    all_goals
      go_enter Try.func52, Try.ntmps52
      go_wp2_with fail
      clear hw4
      refine HST.out.mono ?_
      rintro e w5 ⟨rfl, q, rfl⟩
      have T5 : Touch (fun i => i = c.bm) w4 ((w4.drewN q).setCell ⟨c.bm, 1, none⟩ (.int .i64 ((n + 1 : Nat) : Int))) := Touch.setCell ((Touch.refl (fun i => i = c.bm) w4).drewN q) (.inl rfl) _
      have hI5 := HI4.out.step q hn
      generalize (w4.drewN q).setCell ⟨c.bm, 1, none⟩ (.int .i64 ((n + 1 : Nat) : Int)) = w5 at *
      have k4 := T5.has k4 (fun e => HS0.out (.inl e))
      have k5 := T5.has k5 (fun e => HS1.out (.inl e))
      have k6 := T5.has k6 (fun e => HS2.out (.inl e))
      have k7 := T5.has k7 (fun e => HS3.out (.inl e))
      have HT5 : Hid (Touch (SS c be) w w5) := Lib.hid (HT4.out.then (T5.mono (fun _ _ e => .inl e)))
      have hs0 := hI5.c0
      have hkn := hI5.tree HN.out.c0 HN.out.fb
      have HI5 := Lib.hid hI5
      have HC0 := Lib.hid ((HSD.out w5.drew hI5.c0).mono fun e w' h => (⟨h.1, h.2.symm⟩ : e = .returned (.bool true) ∧ w' = w5.drew))
      clear hI5 T5
      have HKK : Hid (Calls Try.prog f (#[.int .i64 (at' : Int)] ++ cp) w5.drew (Got c be w5.drew at' g (k at' (n + 1) g))) := Lib.hid (by
        obtain ⟨f', cp', e1, -, hk⟩ := HK.out
        cases e1
        exact hk w5.drew at' (n + 1) g HT5.out.drew (HI5.out.keep (Touch.refl _ _).drew) (Nat.le_refl _) ha)
      go_wp2_with fail
      refine wp_region_still_tail 10 (by kernel_rfl) (by kernel_rfl) ?_
      simp only [List.take_succ_cons, List.take_zero, List.drop_succ_cons, List.drop_zero]
      repeat still_step
      still_call HC0.out
      repeat still_step
      refine wpStill_nil ?_
      change wpList _ _ _ _ _ (World.drew _)
      go_wp2_with fail
      refine HKK.out.mono ?_
      intro e w' hG
      have HG := Lib.hid (hG.from HT5.out.drew (Nat.le_refl _))
      rcases hG.ends with rfl | ⟨bb, rfl⟩
      · refine ⟨rfl, ?_⟩
        rw [HR.out]
        exact HG.out
      · clear hG
        go_wp2_with fail
        go_ret
        rw [HR.out]
        exact HG.out
  | false =>
    rw [hst] at hsd
    have HSD := Lib.hid hsd
    have HR : Hid (run (str c.s) c.B (.asr ka) at' k n g = .no (n + 1)) := Lib.hid (by rw [hrun, hst]; rfl)
    clear hrun hst hsd
    obtain rfl | rfl | rfl | rfl | rfl | rfl : ka = 1 ∨ ka = 2 ∨ ka = 3 ∨ ka = 4 ∨ ka = 5 ∨ ka = 6 := by omega
    all_goals
      go_enter Try.func52, Try.ntmps52
      go_wp2_with fail
      clear hw4
      refine HST.out.mono ?_
      rintro e w5 ⟨rfl, q, rfl⟩
      have T5 : Touch (fun i => i = c.bm) w4 ((w4.drewN q).setCell ⟨c.bm, 1, none⟩ (.int .i64 ((n + 1 : Nat) : Int))) := Touch.setCell ((Touch.refl (fun i => i = c.bm) w4).drewN q) (.inl rfl) _
      have hI5 := HI4.out.step q hn
      generalize (w4.drewN q).setCell ⟨c.bm, 1, none⟩ (.int .i64 ((n + 1 : Nat) : Int)) = w5 at *
      have k4 := T5.has k4 (fun e => HS0.out (.inl e))
      have k5 := T5.has k5 (fun e => HS1.out (.inl e))
      have k6 := T5.has k6 (fun e => HS2.out (.inl e))
      have k7 := T5.has k7 (fun e => HS3.out (.inl e))
      have HT5 : Hid (Touch (SS c be) w w5) := Lib.hid (HT4.out.then (T5.mono (fun _ _ e => .inl e)))
      have hs0 := hI5.c0
      have hkn := hI5.tree HN.out.c0 HN.out.fb
      have HI5 := Lib.hid hI5
      clear hI5 T5
      go_wp2_with fail
      go_quiet ((go_at_call 68; exact Calls.quiet_of_same ((HSD.out _ (by assumption)).mono fun e w' h => ⟨h.1, h.2.symm⟩)))
      go_wp2_with fail
      go_ret
      rw [HR.out]
      exact ⟨rfl, HI5.out.keep ((Touch.refl _ _).drewN _), HT5.out.drewN _⟩
end Go.Proofs.Ytlgpilcjcomacaa
