/-
  The program's times.
-/
import Derived.Test.YtlgpilcjcomacaaMj
namespace Go.Proofs.Ytlgpilcjcomacaa
open Go.RowKit Rx
set_option linter.unusedVariables false
attribute [local go_sem ↓] Go.wp_at_zero Go.wp_at_succ

set_option maxRecDepth 100000 in
set_option maxHeartbeats 1000000 in
theorem times_step (c : Cx) (y : Re) (b : Nat) (of : Value) (num : Int) (wa : Option Addr) (wl wc : Nat) (kid : Value) (least : Nat) (most how : Int) (lazy : Bool)
    (hN : NodeC (fun b => b ≠ c.bm) c.wT b 12 of num wa wl wc kid (least : Int) most how) (hkid : (trd c y).node kid) (hNode : NodeOK c y) (hl100 : least ≤ 100) (hhow : (how = if lazy then 1 else 0) ∨ (how = 2 ∧ lazy = false)) (fuel : Nat) (hT : TimesOK c y b least most lazy fuel) : TimesOK c y b least most lazy (fuel + 1) := by
  intro be made at' kv k n g w hm hmf hI ha hk
  have hk0 := hk
  obtain ⟨f, cp, rfl, en, -⟩ := hk0
  obtain ⟨w5, hw5⟩ : ∃ w5, ((((w.alloc (.cells #[.pointer (some ⟨c.bm, 0, none⟩)] 64)).alloc (.cells #[.pointer (some ⟨b, 0, none⟩)] 61)).alloc (.cells #[.int .i64 (made : Int)] 3)).alloc (.cells #[.int .i64 (at' : Int)] 3)).alloc (.cells #[.func (.func f) #[] cp] 118) = w5 := ⟨_, rfl⟩
  have T5 : Still w w5 := by rw [← hw5]; exact (((((Touch.refl _ _).alloc _).alloc _).alloc _).alloc _).alloc _
  have k5 : w5.cell? ⟨w.heap.size, 0, none⟩ = some (.pointer (some ⟨c.bm, 0, none⟩)) := by rw [← hw5]; simp [go_sem]
  have k6 : w5.cell? ⟨w.heap.size + 1, 0, none⟩ = some (.pointer (some ⟨b, 0, none⟩)) := by rw [← hw5]; simp [go_sem]
  have k7 : w5.cell? ⟨w.heap.size + 1 + 1, 0, none⟩ = some (.int .i64 (made : Int)) := by rw [← hw5]; simp [go_sem]
  have k8 : w5.cell? ⟨w.heap.size + 1 + 1 + 1, 0, none⟩ = some (.int .i64 (at' : Int)) := by rw [← hw5]; simp [go_sem]
  have k9 : w5.cell? ⟨w.heap.size + 1 + 1 + 1 + 1, 0, none⟩ = some (.func (.func f) #[] cp) := by rw [← hw5]; simp [go_sem]
  have s0 := hI.ss (b := w.heap.size) (Nat.le_refl _)
  have s1 := hI.ss (b := w.heap.size + 1) (by omega)
  have s2 := hI.ss (b := w.heap.size + 1 + 1) (by omega)
  have s3 := hI.ss (b := w.heap.size + 1 + 1 + 1) (by omega)
  have s4 := hI.ss (b := w.heap.size + 1 + 1 + 1 + 1) (by omega)
  have HI5 := Lib.hid (hI.keep T5)
  have HT5 : Hid (Touch (SS c be) w w5) := Lib.hid T5.ss
  have hls := HI5.out.tree hN.c5 hN.fb
  have hhw := HI5.out.tree hN.c7 hN.fb
  have HM : Hid (∀ (w' : World) (n' : Nat), Touch (SS c be) w5 w' → Inv c be n' g w' → Calls Try.prog 93 #[.pointer (some ⟨w.heap.size + 1, 0, none⟩), .pointer (some ⟨w.heap.size + 1 + 1, 0, none⟩), .pointer (some ⟨w.heap.size, 0, none⟩), .pointer (some ⟨w.heap.size + 1 + 1 + 1, 0, none⟩), .pointer (some ⟨w.heap.size + 1 + 1 + 1 + 1, 0, none⟩)] w' (Got c be w' at' g (moreR (run (str c.s) c.B y) least most lazy fuel made at' k g n'))) := Lib.hid (fun w' n' t hI' =>
    times1_any c y b of num wa wl wc kid least most how lazy hN hkid hNode fuel hT be made at' hm (by omega) ha _ k n' g w' _ _ _ _ _ (t.has k8 s3) (t.has k7 s2) (t.has k6 s1) (t.has k9 s4) (t.has k5 s0) s3 s2 s1 s4 s0 hI' (hk.later (HT5.out.then t) (Nat.le_refl _)))
  have HKK : Hid (∀ (w' : World) (n' : Nat), Touch (SS c be) w5 w' → Inv c be n' g w' → Calls Try.prog f (#[.int .i64 (at' : Int)] ++ cp) w' (Got c be w' at' g (k at' n' g))) := Lib.hid (fun w' n' t hI' => by
    obtain ⟨f', cp', e1, -, hk⟩ := hk
    cases e1
    exact hk w' at' n' g (HT5.out.then t) hI' (Nat.le_refl _) ha)
  have enT := enters_times1
  have HS3 := Lib.hid s3; have HS4 := Lib.hid s4
  clear hT hNode hkid hI hk T5 s0 s1 s2 s3 s4 hN
  by_cases hlt : made < least
  · have HR : Hid (times (run (str c.s) c.B y) least most lazy (fuel + 1) made at' k n g = moreR (run (str c.s) c.B y) least most lazy fuel made at' k g n) := Lib.hid (by rw [times_succ, if_pos hlt])
    have hd : decide (made < least) = true := by simp; omega
    clear hhow
    go_enter Try.func74, Try.ntmps74
    go_wp2_with fail
    clear hw5
    go_quiet (fail)
    go_wp2_with fail
    refine (HM.out _ n ((Touch.refl _ _).drewN _) (HI5.out.keep ((Touch.refl _ _).drewN _))).mono ?_
    intro e w' hG
    have HG := Lib.hid (hG.from (HT5.out.drewN _) (Nat.le_refl _))
    rcases hG.ends with rfl | ⟨bb, rfl⟩
    · refine ⟨rfl, ?_⟩
      rw [HR.out]
      exact HG.out
    · clear hG
      go_wp2_with fail
      go_ret
      rw [HR.out]
      exact HG.out
  · have hd : decide (made < least) = false := by simp; omega
    cases lazy with
    | true =>
      obtain rfl : how = 1 := by rcases hhow with h | h; · exact h
                                 · exact absurd h.2 (by decide)
      clear hhow
      obtain ⟨q, hq⟩ : ∃ q, k at' n g = q := ⟨_, rfl⟩
      have HR : Hid (times (run (str c.s) c.B y) least most true (fuel + 1) made at' k n g = orElse q (moreR (run (str c.s) c.B y) least most true fuel made at' k g)) := Lib.hid (by rw [times_succ, if_neg hlt, ← hq]; rfl)
      have HK2 : Hid (∀ (w' : World), Touch (SS c be) w5 w' → Inv c be n g w' → Calls Try.prog f (#[.int .i64 (at' : Int)] ++ cp) w' (Got c be w' at' g q)) := Lib.hid (fun w' t hI' => by rw [← hq]; exact HKK.out w' n t hI')
      clear hq HKK
      go_enter Try.func74, Try.ntmps74
      go_wp2_with fail
      clear hw5
      go_quiet (fail)
      go_wp2_with fail
      refine (HK2.out _ ((Touch.refl _ _).drewN _) (HI5.out.keep ((Touch.refl _ _).drewN _))).mono ?_
      intro e w6 hG
      cases q with
      | over =>
        obtain ⟨rfl, ht⟩ := hG
        refine ⟨rfl, ?_⟩
        rw [HR.out]
        exact ⟨rfl, (HT5.out.drewN _).then ht⟩
      | yes n3 h3' x3 =>
        obtain ⟨rfl, hI3, hH3, hlo3, hsz3, ht⟩ := hG
        have HI8 := Lib.hid hI3
        have HH8 := Lib.hid hH3
        have HT8 := Lib.hid ((HT5.out.drewN _).then ht)
        clear hI3 hH3 ht
        go_wp2_with fail
        go_ret
        rw [HR.out]
        exact ⟨rfl, HI8.out, HH8.out, hlo3, hsz3, HT8.out⟩
      | no n3 =>
        obtain ⟨rfl, hI8, ht⟩ := hG
        have HC := Lib.hid (HM.out w6 n3 (((Touch.refl _ _).drewN _).then ht) hI8)
        have HT6 := Lib.hid ((HT5.out.drewN _).then ht)
        clear hI8 ht
        go_wp2_with fail
        refine HC.out.mono ?_
        intro e w' hG
        have HG := Lib.hid (hG.from HT6.out (Nat.le_refl _))
        rcases hG.ends with rfl | ⟨bb, rfl⟩
        · refine ⟨rfl, ?_⟩
          rw [HR.out]
          exact HG.out
        · clear hG
          go_wp2_with fail
          go_ret
          rw [HR.out]
          exact HG.out
    | false =>
      have hh1 : (how == 1) = false := by rcases hhow with h | h; · rw [h]; rfl
                                          · rw [h.1]; rfl
      clear hhow
      obtain ⟨q, hq⟩ : ∃ q, moreR (run (str c.s) c.B y) least most false fuel made at' k g n = q := ⟨_, rfl⟩
      have HR : Hid (times (run (str c.s) c.B y) least most false (fuel + 1) made at' k n g = orElse q (fun n => k at' n g)) := Lib.hid (by rw [times_succ, if_neg hlt, ← hq]; rfl)
      have HM2 := Lib.hid (fun (w' : World) t hI' => HM.out w' n t hI')
      rw [hq] at HM2
      clear hq HM
      go_enter Try.func74, Try.ntmps74
      go_wp2_with fail
      clear hw5
      go_quiet (fail)
      go_wp2_with fail
      refine (HM2.out _ ((Touch.refl _ _).drewN _) (HI5.out.keep ((Touch.refl _ _).drewN _))).mono ?_
      intro e w6 hG
      cases q with
      | over =>
        obtain ⟨rfl, ht⟩ := hG
        refine ⟨rfl, ?_⟩
        rw [HR.out]
        exact ⟨rfl, (HT5.out.drewN _).then ht⟩
      | yes n3 h3' x3 =>
        obtain ⟨rfl, hI3, hH3, hlo3, hsz3, ht⟩ := hG
        have HI8 := Lib.hid hI3
        have HH8 := Lib.hid hH3
        have HT8 := Lib.hid ((HT5.out.drewN _).then ht)
        clear hI3 hH3 ht
        go_wp2_with fail
        go_ret
        rw [HR.out]
        exact ⟨rfl, HI8.out, HH8.out, hlo3, hsz3, HT8.out⟩
      | no n3 =>
        obtain ⟨rfl, hI8, ht⟩ := hG
        have k8 := ht.has k8 HS3.out
        have k9 := ht.has k9 HS4.out
        have HC := Lib.hid (HKK.out w6 n3 (((Touch.refl _ _).drewN _).then ht) hI8)
        have HT6 := Lib.hid ((HT5.out.drewN _).then ht)
        clear hI8 ht
        go_wp2_with fail
        refine HC.out.mono ?_
        intro e w' hG
        have HG := Lib.hid (hG.from HT6.out (Nat.le_refl _))
        rcases hG.ends with rfl | ⟨bb, rfl⟩
        · refine ⟨rfl, ?_⟩
          rw [HR.out]
          exact HG.out
        · clear hG
          go_wp2_with fail
          go_ret
          rw [HR.out]
          exact HG.out

theorem times_any (c : Cx) (y : Re) (b : Nat) (of : Value) (num : Int) (wa : Option Addr) (wl wc : Nat) (kid : Value) (least : Nat) (most how : Int) (lazy : Bool)
    (hN : NodeC (fun b => b ≠ c.bm) c.wT b 12 of num wa wl wc kid (least : Int) most how) (hkid : (trd c y).node kid) (hNode : NodeOK c y) (hl100 : least ≤ 100) (hhow : (how = if lazy then 1 else 0) ∨ (how = 2 ∧ lazy = false)) : ∀ fuel, TimesOK c y b least most lazy fuel := by
  intro fuel
  induction fuel with
  | zero => intro be made at' kv k n g w hm hmf hI ha hk; omega
  | succ fuel ih => exact times_step c y b of num wa wl wc kid least most how lazy hN hkid hNode hl100 hhow fuel ih
end Go.Proofs.Ytlgpilcjcomacaa
