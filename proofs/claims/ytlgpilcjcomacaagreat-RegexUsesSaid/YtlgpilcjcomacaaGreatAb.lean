/-
  Texts Mf, Mg, Mh, Mi, Mj, Mk, Ml, Mn, Mo in one.
-/
import Derived.Test.YtlgpilcjcomacaaGreatAa
import Derived.IntWalk
import Derived.Test.YtlgpilcjcomacaaGreatShelf
import Derived.Deep.RegionHeld3
import Derived.Deep.DrawnRows
import Derived.Defers
import Derived.Recover
/-
  The program's node, case by case.
-/
namespace Go.Proofs.YtlgpilcjcomacaaGreat
open Go.RowKit Rx
set_option linter.unusedVariables false

theorem tick_over {B n : Nat} {f : Nat → Res} (h : n = B) : tick B n f = .over := if_pos h
theorem tick_on {B n : Nat} {f : Nat → Res} (h : n < B) : tick B n f = f (n + 1) := if_neg (by omega)

set_option maxRecDepth 100000 in
/-- No step is left. -/
theorem node_over (c : Cx) (be b : Nat) (kind : Int) (of : Value) (num : Int) (wa : Option Addr) (wl wc : Nat) (kid : Value) (least most how : Int) (at' : Nat) (kv : Value) (k : K) (n : Nat) (g : Grp) (w : World) (hkind : kind = 0 ∨ kind = 1 ∨ kind = 2 ∨ kind = 3 ∨ kind = 4 ∨ kind = 5 ∨ kind = 6 ∨ kind = 7)
    (hN : NodeC (fun b => b ≠ c.bm) c.wT b kind of num wa wl wc kid least most how) (hI : Inv c be n g w) (hk : KOK c be kv k at' w) (hn : n = c.B) :
    Calls Tryz.prog 49 #[.pointer (some ⟨c.bm, 0, none⟩), .pointer (some ⟨b, 0, none⟩), .int .i64 (at' : Int), kv] w (Got c be w at' g .over) := by
  have hk0 := hk
  obtain ⟨f, cp, rfl, en, -⟩ := hk0
  obtain ⟨w4, hw4⟩ : ∃ w4, (((w.alloc (.cells #[.pointer (some ⟨c.bm, 0, none⟩)] 63)).alloc (.cells #[.pointer (some ⟨b, 0, none⟩)] 60)).alloc (.cells #[.int .i64 (at' : Int)] 3)).alloc (.cells #[.func (.func f) #[] cp] 118) = w4 := ⟨_, rfl⟩
  have T4 : Still w w4 := by rw [← hw4]; exact ((((Touch.refl _ _).alloc _).alloc _).alloc _).alloc _
  have k4 : w4.cell? ⟨w.heap.size, 0, none⟩ = some (.pointer (some ⟨c.bm, 0, none⟩)) := by rw [← hw4]; simp [go_sem]
  have k5 : w4.cell? ⟨w.heap.size + 1, 0, none⟩ = some (.pointer (some ⟨b, 0, none⟩)) := by rw [← hw4]; simp [go_sem]
  have k6 : w4.cell? ⟨w.heap.size + 1 + 1, 0, none⟩ = some (.int .i64 (at' : Int)) := by rw [← hw4]; simp [go_sem]
  have k7 : w4.cell? ⟨w.heap.size + 1 + 1 + 1, 0, none⟩ = some (.func (.func f) #[] cp) := by rw [← hw4]; simp [go_sem]
  have hz4 : w4.heap.size = w.heap.size + 1 + 1 + 1 + 1 := by rw [← hw4]; simp
  have s0 := hI.ss (b := w.heap.size) (Nat.le_refl _)
  have s1 := hI.ss (b := w.heap.size + 1) (by omega)
  have s2 := hI.ss (b := w.heap.size + 1 + 1) (by omega)
  have s3 := hI.ss (b := w.heap.size + 1 + 1 + 1) (by omega)
  have HI4 := Lib.hid (hI.keep T4)
  have HT4 : Hid (Touch (SS c be) w w4) := Lib.hid T4.ss
  have HS0 := Lib.hid s0; have HS1 := Lib.hid s1; have HS2 := Lib.hid s2; have HS3 := Lib.hid s3
  have HZ4 := Lib.hid hz4
  have kd := HI4.out.tree hN.c0 hN.fb
  have HN := Lib.hid hN
  have HK := Lib.hid hk
  have hnB := hI.nB
  have hB := hI.lB
  clear hI hk hN T4 s0 s1 s2 s3 hz4
  subst hn
  have hst := step_over c.bm c.B w4 HI4.out.c1.1 HI4.out.c2
  have HST := Lib.hid hst; clear hst
  clear HN
  rcases hkind with rfl | rfl | rfl | rfl | rfl | rfl | rfl | rfl
  all_goals
    go_enter Tryz.func49, Tryz.ntmps49
    go_wp2_with fail
    clear hw4
    refine HST.out.mono ?_
    rintro e w' ⟨rfl, q, rfl⟩
    exact ⟨rfl, rfl, HT4.out.drewN q⟩

set_option maxRecDepth 100000 in
set_option maxHeartbeats 1000000 in
theorem node_set (c : Cx) (fs : Nat → Bool) (be b sb : Nat) (num : Int) (wa : Option Addr) (wl wc : Nat) (kid : Value) (least most how : Int) (at' : Nat) (kv : Value) (k : K) (n : Nat) (g : Grp) (w : World)
    (hN : NodeC (fun b => b ≠ c.bm) c.wT b 0 (.pointer (some ⟨sb, 0, none⟩)) num wa wl wc kid least most how) (hsb : sb ≠ c.bm) (hset : ∀ i, i < 256 → c.wT.cell? ⟨sb, i, none⟩ = some (.bool (fs i))) (hI : Inv c be n g w) (ha : at' ≤ c.s.size) (hk : KOK c be kv k at' w) :
    Calls Tryz.prog 49 #[.pointer (some ⟨c.bm, 0, none⟩), .pointer (some ⟨b, 0, none⟩), .int .i64 (at' : Int), kv] w (Got c be w at' g (run (str c.s) c.B (.set fs) at' k n g)) := by
  by_cases hn0 : n = c.B
  · rw [show run (str c.s) c.B (.set fs) at' k n g = .over from tick_over hn0]
    exact node_over c be b 0 _ num wa wl wc kid least most how at' kv k n g w (by decide) hN hI hk hn0
  have hn : n < c.B := by have := hI.nB; omega
  have hsz := hI.sz
  have hk0 := hk
  obtain ⟨f, cp, rfl, en, -⟩ := hk0
  obtain ⟨w4, hw4⟩ : ∃ w4, (((w.alloc (.cells #[.pointer (some ⟨c.bm, 0, none⟩)] 63)).alloc (.cells #[.pointer (some ⟨b, 0, none⟩)] 60)).alloc (.cells #[.int .i64 (at' : Int)] 3)).alloc (.cells #[.func (.func f) #[] cp] 118) = w4 := ⟨_, rfl⟩
  have T4 : Still w w4 := by rw [← hw4]; exact ((((Touch.refl _ _).alloc _).alloc _).alloc _).alloc _
  have k4 : w4.cell? ⟨w.heap.size, 0, none⟩ = some (.pointer (some ⟨c.bm, 0, none⟩)) := by rw [← hw4]; simp [go_sem]
  have k5 : w4.cell? ⟨w.heap.size + 1, 0, none⟩ = some (.pointer (some ⟨b, 0, none⟩)) := by rw [← hw4]; simp [go_sem]
  have k6 : w4.cell? ⟨w.heap.size + 1 + 1, 0, none⟩ = some (.int .i64 (at' : Int)) := by rw [← hw4]; simp [go_sem]
  have k7 : w4.cell? ⟨w.heap.size + 1 + 1 + 1, 0, none⟩ = some (.func (.func f) #[] cp) := by rw [← hw4]; simp [go_sem]
  have hz4 : w4.heap.size = w.heap.size + 1 + 1 + 1 + 1 := by rw [← hw4]; simp
  have s0 := hI.ss (b := w.heap.size) (Nat.le_refl _)
  have s1 := hI.ss (b := w.heap.size + 1) (by omega)
  have s2 := hI.ss (b := w.heap.size + 1 + 1) (by omega)
  have s3 := hI.ss (b := w.heap.size + 1 + 1 + 1) (by omega)
  have HI4 := Lib.hid (hI.keep T4)
  have HT4 : Hid (Touch (SS c be) w w4) := Lib.hid T4.ss
  have HS0 := Lib.hid s0; have HS1 := Lib.hid s1; have HS2 := Lib.hid s2; have HS3 := Lib.hid s3
  have HZ4 := Lib.hid hz4
  have kd := HI4.out.tree hN.c0 hN.fb
  have HN := Lib.hid hN
  have HK := Lib.hid hk
  have hnB := hI.nB
  have hB := hI.lB
  clear hI hk hN T4 s0 s1 s2 s3 hz4
  have HST := Lib.hid (step_on c.bm c.B n w4 hn hB HI4.out.c1 HI4.out.c2)
  have HSET := Lib.hid hset; clear hset
  by_cases hlt : at' < c.s.size
  · have hc1 := byteAt_lt hlt
    have hrun : run (str c.s) c.B (.set fs) at' k n g = if fs (c.s[at']'hlt).toNat then k (at' + 1) (n + 1) g else .no (n + 1) := by
      show tick c.B n _ = _
      rw [tick_on hn, hc1]
    have h256 : (c.s[at']'hlt).toNat < 256 := (c.s[at']'hlt).toNat_lt
    have hcell := HSET.out _ h256
    generalize hch : (c.s[at']'hlt).toNat = ch at *
    clear hc1
    have h256i : ((ch : Nat) : Int) < 256 := by omega
    have hd : decide ((at' : Int) < (c.s.size : Int)) = true := by simp; omega
    cases hf : fs ch with
    | true =>
      rw [hf] at hcell
      have HR : Hid (run (str c.s) c.B (.set fs) at' k n g = k (at' + 1) (n + 1) g) := Lib.hid (by rw [hrun, hf]; rfl)
      clear hrun hf
      go_enter Tryz.func49, Tryz.ntmps49
      go_wp2_with fail
      clear hw4
      refine HST.out.mono ?_
      rintro e w5 ⟨rfl, q, rfl⟩
      have T5 : Touch (fun i => i = c.bm) w4 ((w4.drewN q).setCell ⟨c.bm, 1, none⟩ (.int .i64 ((n + 1 : Nat) : Int))) := Touch.setCell ((Touch.refl (fun i => i = c.bm) w4).drewN q) (.inl rfl) _
      have hI5 := HI4.out.step q hn
      generalize (w4.drewN q).setCell ⟨c.bm, 1, none⟩ (.int .i64 ((n + 1 : Nat) : Int)) = w5 at *
      have k4 := T5.has k4 (fun e => HS0.out (.inl e))
      have k5 := T5.has k5 (fun e => HS1.out (.inl e))
      have k6 := T5.has k6 (fun e => HS2.out (.inl e))
      have k7 := T5.has k7 (fun e => HS3.out (.inl e))
      have HT5 : Hid (Touch (SS c be) w w5) := Lib.hid (HT4.out.then (T5.mono (fun _ _ e => .inl e)))
      have hs0 := hI5.c0
      have hof := hI5.tree HN.out.c1 HN.out.fb
      have hcl := hI5.tree hcell hsb
      have HI5 := Lib.hid hI5
      clear hI5 T5 hcell
      go_wp2_with fail
      have hw1 := IntWalk.i64_in ((at' : Int) + 1) (by omega)
      have HKK : Hid (Calls Tryz.prog f (#[.int .i64 ((at' : Int) + 1)] ++ cp) w5.drew (Got c be w5.drew (at' + 1) g (k (at' + 1) (n + 1) g))) := Lib.hid (by
        obtain ⟨f', cp', e1, -, hk⟩ := HK.out
        cases e1
        exact hk w5.drew (at' + 1) (n + 1) g HT5.out.drew (HI5.out.keep (Touch.refl _ _).drew) (by omega) (by omega))
      go_still_tail 26, (by kernel_rfl)
      change wpList _ _ _ _ _ (World.drew _)
      clear hw1
      go_wp2_with fail
      refine HKK.out.mono ?_
      intro e w' hG
      have HG := Lib.hid (hG.from HT5.out.drew (Nat.le_succ _))
      rcases hG.ends with rfl | ⟨bb, rfl⟩
      · refine ⟨rfl, ?_⟩
        rw [HR.out]
        exact HG.out
      · clear hG
        go_wp2_with fail
        go_ret
        rw [HR.out]
        exact HG.out
    | false =>
      rw [hf] at hcell
      have HR : Hid (run (str c.s) c.B (.set fs) at' k n g = .no (n + 1)) := Lib.hid (by rw [hrun, hf]; rfl)
      clear hrun hf
      go_enter Tryz.func49, Tryz.ntmps49
      go_wp2_with fail
      clear hw4
      refine HST.out.mono ?_
      rintro e w5 ⟨rfl, q, rfl⟩
      have T5 : Touch (fun i => i = c.bm) w4 ((w4.drewN q).setCell ⟨c.bm, 1, none⟩ (.int .i64 ((n + 1 : Nat) : Int))) := Touch.setCell ((Touch.refl (fun i => i = c.bm) w4).drewN q) (.inl rfl) _
      have hI5 := HI4.out.step q hn
      generalize (w4.drewN q).setCell ⟨c.bm, 1, none⟩ (.int .i64 ((n + 1 : Nat) : Int)) = w5 at *
      have k4 := T5.has k4 (fun e => HS0.out (.inl e))
      have k5 := T5.has k5 (fun e => HS1.out (.inl e))
      have k6 := T5.has k6 (fun e => HS2.out (.inl e))
      have k7 := T5.has k7 (fun e => HS3.out (.inl e))
      have HT5 : Hid (Touch (SS c be) w w5) := Lib.hid (HT4.out.then (T5.mono (fun _ _ e => .inl e)))
      have hs0 := hI5.c0
      have hof := hI5.tree HN.out.c1 HN.out.fb
      have hcl := hI5.tree hcell hsb
      have HI5 := Lib.hid hI5
      clear hI5 T5 hcell
      go_wp2_with fail
      go_quiet (fail)
      go_wp2_with fail
      go_ret
      rw [HR.out]
      exact ⟨rfl, HI5.out.keep ((Touch.refl _ _).drewN _), HT5.out.drewN _⟩
  · have hc1 := byteAt_ge (Nat.le_of_not_lt hlt)
    have HR : Hid (run (str c.s) c.B (.set fs) at' k n g = .no (n + 1)) := Lib.hid (by
      show tick c.B n _ = _
      rw [tick_on hn, hc1])
    clear hc1
    have hd : decide ((at' : Int) < (c.s.size : Int)) = false := by simp; omega
    go_enter Tryz.func49, Tryz.ntmps49
    go_wp2_with fail
    clear hw4
    refine HST.out.mono ?_
    rintro e w5 ⟨rfl, q, rfl⟩
    have T5 : Touch (fun i => i = c.bm) w4 ((w4.drewN q).setCell ⟨c.bm, 1, none⟩ (.int .i64 ((n + 1 : Nat) : Int))) := Touch.setCell ((Touch.refl (fun i => i = c.bm) w4).drewN q) (.inl rfl) _
    have hI5 := HI4.out.step q hn
    generalize (w4.drewN q).setCell ⟨c.bm, 1, none⟩ (.int .i64 ((n + 1 : Nat) : Int)) = w5 at *
    have k4 := T5.has k4 (fun e => HS0.out (.inl e))
    have k5 := T5.has k5 (fun e => HS1.out (.inl e))
    have k6 := T5.has k6 (fun e => HS2.out (.inl e))
    have k7 := T5.has k7 (fun e => HS3.out (.inl e))
    have HT5 : Hid (Touch (SS c be) w w5) := Lib.hid (HT4.out.then (T5.mono (fun _ _ e => .inl e)))
    have hs0 := hI5.c0
    have HI5 := Lib.hid hI5
    clear hI5 T5
    go_wp2_with fail
    go_quiet (fail)
    go_wp2_with fail
    go_ret
    rw [HR.out]
    exact ⟨rfl, HI5.out.keep ((Touch.refl _ _).drewN _), HT5.out.drewN _⟩
end Go.Proofs.YtlgpilcjcomacaaGreat

/-
  The program's node at an assertion and at a back reference.
-/
namespace Go.Proofs.YtlgpilcjcomacaaGreat
open Go.RowKit Rx
set_option linter.unusedVariables false

set_option maxRecDepth 100000 in
set_option maxHeartbeats 1000000 in
theorem node_asr (c : Cx) (ka : Nat) (hk1 : 1 ≤ ka) (hk6 : ka ≤ 6) (be b : Nat) (of : Value) (num : Int) (wa : Option Addr) (wl wc : Nat) (kid : Value) (least most how : Int) (at' : Nat) (kv : Value) (k : K) (n : Nat) (g : Grp) (w : World)
    (hN : NodeC (fun b => b ≠ c.bm) c.wT b (ka : Int) of num wa wl wc kid least most how) (hI : Inv c be n g w) (ha : at' ≤ c.s.size) (hk : KOK c be kv k at' w) :
    Calls Tryz.prog 49 #[.pointer (some ⟨c.bm, 0, none⟩), .pointer (some ⟨b, 0, none⟩), .int .i64 (at' : Int), kv] w (Got c be w at' g (run (str c.s) c.B (.asr ka) at' k n g)) := by
  by_cases hn0 : n = c.B
  · rw [show run (str c.s) c.B (.asr ka) at' k n g = .over from tick_over hn0]
    exact node_over c be b ka _ num wa wl wc kid least most how at' kv k n g w (by omega) hN hI hk hn0
  have hn : n < c.B := by have := hI.nB; omega
  have hsz := hI.sz
  have hk0 := hk
  obtain ⟨f, cp, rfl, en, -⟩ := hk0
  obtain ⟨w4, hw4⟩ : ∃ w4, (((w.alloc (.cells #[.pointer (some ⟨c.bm, 0, none⟩)] 63)).alloc (.cells #[.pointer (some ⟨b, 0, none⟩)] 60)).alloc (.cells #[.int .i64 (at' : Int)] 3)).alloc (.cells #[.func (.func f) #[] cp] 118) = w4 := ⟨_, rfl⟩
  have T4 : Still w w4 := by rw [← hw4]; exact ((((Touch.refl _ _).alloc _).alloc _).alloc _).alloc _
  have k4 : w4.cell? ⟨w.heap.size, 0, none⟩ = some (.pointer (some ⟨c.bm, 0, none⟩)) := by rw [← hw4]; simp [go_sem]
  have k5 : w4.cell? ⟨w.heap.size + 1, 0, none⟩ = some (.pointer (some ⟨b, 0, none⟩)) := by rw [← hw4]; simp [go_sem]
  have k6 : w4.cell? ⟨w.heap.size + 1 + 1, 0, none⟩ = some (.int .i64 (at' : Int)) := by rw [← hw4]; simp [go_sem]
  have k7 : w4.cell? ⟨w.heap.size + 1 + 1 + 1, 0, none⟩ = some (.func (.func f) #[] cp) := by rw [← hw4]; simp [go_sem]
  have hz4 : w4.heap.size = w.heap.size + 1 + 1 + 1 + 1 := by rw [← hw4]; simp
  have s0 := hI.ss (b := w.heap.size) (Nat.le_refl _)
  have s1 := hI.ss (b := w.heap.size + 1) (by omega)
  have s2 := hI.ss (b := w.heap.size + 1 + 1) (by omega)
  have s3 := hI.ss (b := w.heap.size + 1 + 1 + 1) (by omega)
  have HI4 := Lib.hid (hI.keep T4)
  have HT4 : Hid (Touch (SS c be) w w4) := Lib.hid T4.ss
  have HS0 := Lib.hid s0; have HS1 := Lib.hid s1; have HS2 := Lib.hid s2; have HS3 := Lib.hid s3
  have HZ4 := Lib.hid hz4
  have kd := HI4.out.tree hN.c0 hN.fb
  have HN := Lib.hid hN
  have HK := Lib.hid hk
  have hnB := hI.nB
  have hB := hI.lB
  clear hI hk hN T4 s0 s1 s2 s3 hz4
  have HST := Lib.hid (step_on c.bm c.B n w4 hn hB HI4.out.c1 HI4.out.c2)
  have hsd := fun (w : World) h => stands_any c.bm ka at' c.s w hk1 hk6 hsz ha h
  have hrun : run (str c.s) c.B (.asr ka) at' k n g = if Rx.stands (str c.s) ka at' then k at' (n + 1) g else .no (n + 1) := by
    show tick c.B n _ = _
    rw [tick_on hn]
  cases hst : Rx.stands (str c.s) ka at' with
  | true =>
    rw [hst] at hsd
    have HSD := Lib.hid hsd
    have HR : Hid (run (str c.s) c.B (.asr ka) at' k n g = k at' (n + 1) g) := Lib.hid (by rw [hrun, hst]; rfl)
    clear hrun hst hsd
    obtain rfl | rfl | rfl | rfl | rfl | rfl : ka = 1 ∨ ka = 2 ∨ ka = 3 ∨ ka = 4 ∨ ka = 5 ∨ ka = 6 := by omega
    all_goals
      go_enter Tryz.func49, Tryz.ntmps49
      go_wp2_with fail
      clear hw4
      refine HST.out.mono ?_
      rintro e w5 ⟨rfl, q, rfl⟩
      have T5 : Touch (fun i => i = c.bm) w4 ((w4.drewN q).setCell ⟨c.bm, 1, none⟩ (.int .i64 ((n + 1 : Nat) : Int))) := Touch.setCell ((Touch.refl (fun i => i = c.bm) w4).drewN q) (.inl rfl) _
      have hI5 := HI4.out.step q hn
      generalize (w4.drewN q).setCell ⟨c.bm, 1, none⟩ (.int .i64 ((n + 1 : Nat) : Int)) = w5 at *
      have k4 := T5.has k4 (fun e => HS0.out (.inl e))
      have k5 := T5.has k5 (fun e => HS1.out (.inl e))
      have k6 := T5.has k6 (fun e => HS2.out (.inl e))
      have k7 := T5.has k7 (fun e => HS3.out (.inl e))
      have HT5 : Hid (Touch (SS c be) w w5) := Lib.hid (HT4.out.then (T5.mono (fun _ _ e => .inl e)))
      have hs0 := hI5.c0
      have hkn := hI5.tree HN.out.c0 HN.out.fb
      have HI5 := Lib.hid hI5
      have HC0 := Lib.hid ((HSD.out w5.drew hI5.c0).mono fun e w' h => (⟨h.1, h.2.symm⟩ : e = .returned (.bool true) ∧ w' = w5.drew))
      clear hI5 T5
      have HKK : Hid (Calls Tryz.prog f (#[.int .i64 (at' : Int)] ++ cp) w5.drew (Got c be w5.drew at' g (k at' (n + 1) g))) := Lib.hid (by
        obtain ⟨f', cp', e1, -, hk⟩ := HK.out
        cases e1
        exact hk w5.drew at' (n + 1) g HT5.out.drew (HI5.out.keep (Touch.refl _ _).drew) (Nat.le_refl _) ha)
      go_wp2_with fail
      refine wp_region_still_tail 10 (by kernel_rfl) (by kernel_rfl) ?_
      simp only [List.take_succ_cons, List.take_zero, List.drop_succ_cons, List.drop_zero]
      repeat still_step
      still_call HC0.out
      repeat still_step
      refine wpStill_nil ?_
      change wpList _ _ _ _ _ (World.drew _)
      go_wp2_with fail
      refine HKK.out.mono ?_
      intro e w' hG
      have HG := Lib.hid (hG.from HT5.out.drew (Nat.le_refl _))
      rcases hG.ends with rfl | ⟨bb, rfl⟩
      · refine ⟨rfl, ?_⟩
        rw [HR.out]
        exact HG.out
      · clear hG
        go_wp2_with fail
        go_ret
        rw [HR.out]
        exact HG.out
  | false =>
    rw [hst] at hsd
    have HSD := Lib.hid hsd
    have HR : Hid (run (str c.s) c.B (.asr ka) at' k n g = .no (n + 1)) := Lib.hid (by rw [hrun, hst]; rfl)
    clear hrun hst hsd
    obtain rfl | rfl | rfl | rfl | rfl | rfl : ka = 1 ∨ ka = 2 ∨ ka = 3 ∨ ka = 4 ∨ ka = 5 ∨ ka = 6 := by omega
    all_goals
      go_enter Tryz.func49, Tryz.ntmps49
      go_wp2_with fail
      clear hw4
      refine HST.out.mono ?_
      rintro e w5 ⟨rfl, q, rfl⟩
      have T5 : Touch (fun i => i = c.bm) w4 ((w4.drewN q).setCell ⟨c.bm, 1, none⟩ (.int .i64 ((n + 1 : Nat) : Int))) := Touch.setCell ((Touch.refl (fun i => i = c.bm) w4).drewN q) (.inl rfl) _
      have hI5 := HI4.out.step q hn
      generalize (w4.drewN q).setCell ⟨c.bm, 1, none⟩ (.int .i64 ((n + 1 : Nat) : Int)) = w5 at *
      have k4 := T5.has k4 (fun e => HS0.out (.inl e))
      have k5 := T5.has k5 (fun e => HS1.out (.inl e))
      have k6 := T5.has k6 (fun e => HS2.out (.inl e))
      have k7 := T5.has k7 (fun e => HS3.out (.inl e))
      have HT5 : Hid (Touch (SS c be) w w5) := Lib.hid (HT4.out.then (T5.mono (fun _ _ e => .inl e)))
      have hs0 := hI5.c0
      have hkn := hI5.tree HN.out.c0 HN.out.fb
      have HI5 := Lib.hid hI5
      clear hI5 T5
      go_wp2_with fail
      go_quiet ((go_at_call 63; exact Calls.quiet_of_same ((HSD.out _ (by assumption)).mono fun e w' h => ⟨h.1, h.2.symm⟩)))
      go_wp2_with fail
      go_ret
      rw [HR.out]
      exact ⟨rfl, HI5.out.keep ((Touch.refl _ _).drewN _), HT5.out.drewN _⟩
end Go.Proofs.YtlgpilcjcomacaaGreat

/-
  The program's node at a back reference.
-/
namespace Go.Proofs.YtlgpilcjcomacaaGreat
open Go.RowKit Rx
set_option linter.unusedVariables false
attribute [local go_sem ↓] Go.wp_at_zero Go.wp_at_succ

theorem str_extract (s : ByteArray) (a b : Nat) : str (s.extract a b) = ((str s).drop a).take (b - a) := by
  unfold str
  rw [ByteArray.data_extract, Array.toList_extract, List.extract_eq_take_drop]
theorem str_extract_end (s : ByteArray) (a : Nat) : str (s.extract a s.size) = (str s).drop a := by
  rw [str_extract, List.take_of_length_le (by rw [List.length_drop, str_len]; omega)]

set_option maxRecDepth 100000 in
set_option maxHeartbeats 1000000 in
theorem node_bref (c : Cx) (m : Nat) (hm1 : 1 ≤ m) (hmG : m ≤ c.G) (be b : Nat) (of : Value) (wa : Option Addr) (wl wc : Nat) (kid : Value) (least most how : Int) (at' : Nat) (kv : Value) (k : K) (n : Nat) (g : Grp) (w : World)
    (hN : NodeC (fun b => b ≠ c.bm) c.wT b 7 of (m : Int) wa wl wc kid least most how) (hI : Inv c be n g w) (ha : at' ≤ c.s.size) (hk : KOK c be kv k at' w) :
    Calls Tryz.prog 49 #[.pointer (some ⟨c.bm, 0, none⟩), .pointer (some ⟨b, 0, none⟩), .int .i64 (at' : Int), kv] w (Got c be w at' g (run (str c.s) c.B (.bref m) at' k n g)) := by
  by_cases hn0 : n = c.B
  · rw [show run (str c.s) c.B (.bref m) at' k n g = .over from tick_over hn0]
    exact node_over c be b 7 _ m wa wl wc kid least most how at' kv k n g w (by decide) hN hI hk hn0
  have hn : n < c.B := by have := hI.nB; omega
  have hsz := hI.sz
  have hgi := hI.gi m
  have hG9 := hI.lG
  have hk0 := hk
  obtain ⟨f, cp, rfl, en, -⟩ := hk0
  obtain ⟨w4, hw4⟩ : ∃ w4, (((w.alloc (.cells #[.pointer (some ⟨c.bm, 0, none⟩)] 63)).alloc (.cells #[.pointer (some ⟨b, 0, none⟩)] 60)).alloc (.cells #[.int .i64 (at' : Int)] 3)).alloc (.cells #[.func (.func f) #[] cp] 118) = w4 := ⟨_, rfl⟩
  have T4 : Still w w4 := by rw [← hw4]; exact ((((Touch.refl _ _).alloc _).alloc _).alloc _).alloc _
  have k4 : w4.cell? ⟨w.heap.size, 0, none⟩ = some (.pointer (some ⟨c.bm, 0, none⟩)) := by rw [← hw4]; simp [go_sem]
  have k5 : w4.cell? ⟨w.heap.size + 1, 0, none⟩ = some (.pointer (some ⟨b, 0, none⟩)) := by rw [← hw4]; simp [go_sem]
  have k6 : w4.cell? ⟨w.heap.size + 1 + 1, 0, none⟩ = some (.int .i64 (at' : Int)) := by rw [← hw4]; simp [go_sem]
  have k7 : w4.cell? ⟨w.heap.size + 1 + 1 + 1, 0, none⟩ = some (.func (.func f) #[] cp) := by rw [← hw4]; simp [go_sem]
  have hz4 : w4.heap.size = w.heap.size + 1 + 1 + 1 + 1 := by rw [← hw4]; simp
  have s0 := hI.ss (b := w.heap.size) (Nat.le_refl _)
  have s1 := hI.ss (b := w.heap.size + 1) (by omega)
  have s2 := hI.ss (b := w.heap.size + 1 + 1) (by omega)
  have s3 := hI.ss (b := w.heap.size + 1 + 1 + 1) (by omega)
  have HI4 := Lib.hid (hI.keep T4)
  have HT4 : Hid (Touch (SS c be) w w4) := Lib.hid T4.ss
  have HS0 := Lib.hid s0; have HS1 := Lib.hid s1; have HS2 := Lib.hid s2; have HS3 := Lib.hid s3
  have HZ4 := Lib.hid hz4
  have kd := HI4.out.tree hN.c0 hN.fb
  have HN := Lib.hid hN
  have HK := Lib.hid hk
  have hnB := hI.nB
  have hB := hI.lB
  clear hI hk hN T4 s0 s1 s2 s3 hz4
  have HST := Lib.hid (step_on c.bm c.B n w4 hn hB HI4.out.c1 HI4.out.c2)
  have hrun : run (str c.s) c.B (.bref m) at' k n g = if (g m).1 < 0 ∨ ¬ (((str c.s).drop (g m).1.toNat).take ((g m).2.toNat - (g m).1.toNat)).isPrefixOf ((str c.s).drop at') = true then .no (n + 1) else k (at' + ((g m).2.toNat - (g m).1.toNat)) (n + 1) g := by
    show tick c.B n _ = _
    rw [tick_on hn]
  have hg0 := (HI4.out.g0 m hmG)
  have hg1 := (HI4.out.g1 m hmG)
  have HG0 := Lib.hid hg0; have HG1 := Lib.hid hg1; clear hg0 hg1
  generalize hgm : g m = v at *
  obtain ⟨v1, v2⟩ := v
  simp only at hgi hrun HG0 HG1
  by_cases hneg : v1 < 0
  · have HR : Hid (run (str c.s) c.B (.bref m) at' k n g = .no (n + 1)) := Lib.hid (by rw [hrun, if_pos (.inl hneg)])
    clear hrun hgm
    go_enter Tryz.func49, Tryz.ntmps49
    go_wp2_with fail
    clear hw4
    refine HST.out.mono ?_
    rintro e w5 ⟨rfl, q, rfl⟩
    have T5 : Touch (fun i => i = c.bm) w4 ((w4.drewN q).setCell ⟨c.bm, 1, none⟩ (.int .i64 ((n + 1 : Nat) : Int))) := Touch.setCell ((Touch.refl (fun i => i = c.bm) w4).drewN q) (.inl rfl) _
    have hI5 := HI4.out.step q hn
    generalize (w4.drewN q).setCell ⟨c.bm, 1, none⟩ (.int .i64 ((n + 1 : Nat) : Int)) = w5 at *
    have k4 := T5.has k4 (fun e => HS0.out (.inl e))
    have k5 := T5.has k5 (fun e => HS1.out (.inl e))
    have k6 := T5.has k6 (fun e => HS2.out (.inl e))
    have k7 := T5.has k7 (fun e => HS3.out (.inl e))
    have HT5 : Hid (Touch (SS c be) w w5) := Lib.hid (HT4.out.then (T5.mono (fun _ _ e => .inl e)))
    have hs0 := hI5.c0
    have hk2 := hI5.tree HN.out.c2 HN.out.fb
    have hk3 := hI5.c3
    have y0 := (HG0.out.keep T5 (Ne.symm hI5.ne)).1
    have y1 := (HG1.out.keep T5 (Ne.symm hI5.ne)).1
    rw [Nat.mul_comm] at y0 y1
    have HI5 := Lib.hid hI5
    have hmi : (m : Int) < (c.G : Int) + 1 := by omega
    clear hI5 T5
    go_wp2_with fail
    go_region_held3 (fun w' => w'.cell? ⟨w.heap.size, 0, none⟩ = some (.pointer (some ⟨c.bm, 0, none⟩)) ∧ w'.cell? ⟨w.heap.size + 1, 0, none⟩ = some (.pointer (some ⟨b, 0, none⟩)) ∧ w'.cell? ⟨c.bm, 3, none⟩ = some (.slice (some ⟨c.bg, 0, none⟩) (c.G + 1) (c.G + 1)) ∧ w'.cell? ⟨b, 2, none⟩ = some (.int .i64 (m : Int)) ∧ w'.cell? ⟨c.bg, m * 2, none⟩ = some (.int .i64 v1) ∧ w'.cell? ⟨c.bg, m * 2 + 1, none⟩ = some (.int .i64 v2)) (go_keep) (first | fail)
    rename_i hS6
    clear hS6
    have T6 : Still w5 (w5.alloc (.cells #[.int .i64 v1, .int .i64 v2] 39)).drew := ((Touch.refl _ _).alloc _).drew
    have z0 : (w5.alloc (.cells #[.int .i64 v1, .int .i64 v2] 39)).drew.cell? ⟨w5.heap.size, 0, none⟩ = some (.int .i64 v1) := by simp [go_sem]
    have z1 : (w5.alloc (.cells #[.int .i64 v1, .int .i64 v2] 39)).drew.cell? ⟨w5.heap.size, 1, none⟩ = some (.int .i64 v2) := by simp [go_sem]
    generalize (w5.alloc (.cells #[.int .i64 v1, .int .i64 v2] 39)).drew = w6 at *
    have k4 := T6.has k4 id
    have k5 := T6.has k5 id
    have k6 := T6.has k6 id
    have k7 := T6.has k7 id
    have hs0 := T6.has hs0 id
    have HI6 := Lib.hid (HI5.out.keep T6)
    have HT6 : Hid (Touch (SS c be) w w6) := Lib.hid (HT5.out.then T6.ss)
    clear T6 y0 y1 hk2 hk3
    go_wp2_with fail
    go_quiet (fail)
    go_wp2_with fail
    go_ret
    rw [HR.out]
    exact ⟨rfl, HI6.out.keep ((Touch.refl _ _).drewN _), HT6.out.drewN _⟩
  · have hgi2 := hgi.resolve_left (fun h => by have := congrArg Prod.fst h; simp at this; omega)
    obtain ⟨a, rfl⟩ : ∃ a : Nat, v1 = a := ⟨v1.toNat, by omega⟩
    obtain ⟨d, rfl⟩ : ∃ d : Nat, v2 = d := ⟨v2.toNat, by omega⟩
    have had : a ≤ d := by omega
    have hds : d ≤ c.s.size := by omega
    clear hgi hgi2
    have hpre : Lib.hasPrefix (c.s.extract at' c.s.size).data.toList (c.s.extract a d).data.toList = (((str c.s).drop a).take (d - a)).isPrefixOf ((str c.s).drop at') := by
      unfold Lib.hasPrefix
      rw [show (c.s.extract at' c.s.size).data.toList = (str c.s).drop at' from str_extract_end _ _, show (c.s.extract a d).data.toList = ((str c.s).drop a).take (d - a) from str_extract _ _ _]
    have hneg' : decide ((a : Int) < 0) = false := by simp
    simp only [Int.toNat_natCast] at hrun
    have hHP := fun w => Tryz.strings_HasPrefix (c.s.extract at' c.s.size) (c.s.extract a d) w
    rw [hpre] at hHP
    cases hb : (((str c.s).drop a).take (d - a)).isPrefixOf ((str c.s).drop at') with
    | false =>
      rw [hb] at hHP
      have HHP := Lib.hid hHP
      have HR : Hid (run (str c.s) c.B (.bref m) at' k n g = .no (n + 1)) := Lib.hid (by rw [hrun, if_pos (.inr (by rw [hb]; decide))])
      clear hrun hgm hHP hpre hb
      go_enter Tryz.func49, Tryz.ntmps49
      go_wp2_with fail
      clear hw4
      refine HST.out.mono ?_
      rintro e w5 ⟨rfl, q, rfl⟩
      have T5 : Touch (fun i => i = c.bm) w4 ((w4.drewN q).setCell ⟨c.bm, 1, none⟩ (.int .i64 ((n + 1 : Nat) : Int))) := Touch.setCell ((Touch.refl (fun i => i = c.bm) w4).drewN q) (.inl rfl) _
      have hI5 := HI4.out.step q hn
      generalize (w4.drewN q).setCell ⟨c.bm, 1, none⟩ (.int .i64 ((n + 1 : Nat) : Int)) = w5 at *
      have k4 := T5.has k4 (fun e => HS0.out (.inl e))
      have k5 := T5.has k5 (fun e => HS1.out (.inl e))
      have k6 := T5.has k6 (fun e => HS2.out (.inl e))
      have k7 := T5.has k7 (fun e => HS3.out (.inl e))
      have HT5 : Hid (Touch (SS c be) w w5) := Lib.hid (HT4.out.then (T5.mono (fun _ _ e => .inl e)))
      have hs0 := hI5.c0
      have hk2 := hI5.tree HN.out.c2 HN.out.fb
      have hk3 := hI5.c3
      have y0 := (HG0.out.keep T5 (Ne.symm hI5.ne)).1
      have y1 := (HG1.out.keep T5 (Ne.symm hI5.ne)).1
      rw [Nat.mul_comm] at y0 y1
      have HI5 := Lib.hid hI5
      have hmi : (m : Int) < (c.G : Int) + 1 := by omega
      clear hI5 T5
      go_wp2_with fail
      go_region_held3 (fun w' => w'.cell? ⟨w.heap.size, 0, none⟩ = some (.pointer (some ⟨c.bm, 0, none⟩)) ∧ w'.cell? ⟨w.heap.size + 1, 0, none⟩ = some (.pointer (some ⟨b, 0, none⟩)) ∧ w'.cell? ⟨c.bm, 3, none⟩ = some (.slice (some ⟨c.bg, 0, none⟩) (c.G + 1) (c.G + 1)) ∧ w'.cell? ⟨b, 2, none⟩ = some (.int .i64 (m : Int)) ∧ w'.cell? ⟨c.bg, m * 2, none⟩ = some (.int .i64 (a : Int)) ∧ w'.cell? ⟨c.bg, m * 2 + 1, none⟩ = some (.int .i64 (d : Int))) (go_keep) (first | fail)
      rename_i hS6
      clear hS6
      have T6 : Still w5 (w5.alloc (.cells #[.int .i64 (a : Int), .int .i64 (d : Int)] 39)).drew := ((Touch.refl _ _).alloc _).drew
      have z0 : (w5.alloc (.cells #[.int .i64 (a : Int), .int .i64 (d : Int)] 39)).drew.cell? ⟨w5.heap.size, 0, none⟩ = some (.int .i64 (a : Int)) := by simp [go_sem]
      have z1 : (w5.alloc (.cells #[.int .i64 (a : Int), .int .i64 (d : Int)] 39)).drew.cell? ⟨w5.heap.size, 1, none⟩ = some (.int .i64 (d : Int)) := by simp [go_sem]
      generalize (w5.alloc (.cells #[.int .i64 (a : Int), .int .i64 (d : Int)] 39)).drew = w6 at *
      have k4 := T6.has k4 id
      have k5 := T6.has k5 id
      have k6 := T6.has k6 id
      have k7 := T6.has k7 id
      have hs0 := T6.has hs0 id
      have HI6 := Lib.hid (HI5.out.keep T6)
      have HT6 : Hid (Touch (SS c be) w w6) := Lib.hid (HT5.out.then T6.ss)
      clear T6 y0 y1 hk2 hk3
      go_wp2_with fail
      go_quiet ((go_at_call 64; exact Calls.quiet_of_same ((HHP.out _).mono fun e w' h => ⟨h.1, h.2⟩)))
      go_wp2_with fail
      go_ret
      rw [HR.out]
      exact ⟨rfl, HI6.out.keep ((Touch.refl _ _).drewN _), HT6.out.drewN _⟩
    | true =>
      rw [hb] at hHP
      have HHP := Lib.hid hHP
      have HR : Hid (run (str c.s) c.B (.bref m) at' k n g = k (at' + (d - a)) (n + 1) g) := Lib.hid (by rw [hrun, if_neg (by rw [hb]; simp)])
      have hle : at' + (d - a) ≤ c.s.size := by
        have h1 := List.IsPrefix.length_le (List.isPrefixOf_iff_prefix.1 hb)
        rw [List.length_take, List.length_drop, List.length_drop, str_len] at h1
        omega
      clear hrun hgm hHP hpre hb
      go_enter Tryz.func49, Tryz.ntmps49
      go_wp2_with fail
      clear hw4
      refine HST.out.mono ?_
      rintro e w5 ⟨rfl, q, rfl⟩
      have T5 : Touch (fun i => i = c.bm) w4 ((w4.drewN q).setCell ⟨c.bm, 1, none⟩ (.int .i64 ((n + 1 : Nat) : Int))) := Touch.setCell ((Touch.refl (fun i => i = c.bm) w4).drewN q) (.inl rfl) _
      have hI5 := HI4.out.step q hn
      generalize (w4.drewN q).setCell ⟨c.bm, 1, none⟩ (.int .i64 ((n + 1 : Nat) : Int)) = w5 at *
      have k4 := T5.has k4 (fun e => HS0.out (.inl e))
      have k5 := T5.has k5 (fun e => HS1.out (.inl e))
      have k6 := T5.has k6 (fun e => HS2.out (.inl e))
      have k7 := T5.has k7 (fun e => HS3.out (.inl e))
      have HT5 : Hid (Touch (SS c be) w w5) := Lib.hid (HT4.out.then (T5.mono (fun _ _ e => .inl e)))
      have hs0 := hI5.c0
      have hk2 := hI5.tree HN.out.c2 HN.out.fb
      have hk3 := hI5.c3
      have y0 := (HG0.out.keep T5 (Ne.symm hI5.ne)).1
      have y1 := (HG1.out.keep T5 (Ne.symm hI5.ne)).1
      rw [Nat.mul_comm] at y0 y1
      have HI5 := Lib.hid hI5
      have hmi : (m : Int) < (c.G : Int) + 1 := by omega
      clear hI5 T5
      go_wp2_with fail
      go_region_held3 (fun w' => w'.cell? ⟨w.heap.size, 0, none⟩ = some (.pointer (some ⟨c.bm, 0, none⟩)) ∧ w'.cell? ⟨w.heap.size + 1, 0, none⟩ = some (.pointer (some ⟨b, 0, none⟩)) ∧ w'.cell? ⟨c.bm, 3, none⟩ = some (.slice (some ⟨c.bg, 0, none⟩) (c.G + 1) (c.G + 1)) ∧ w'.cell? ⟨b, 2, none⟩ = some (.int .i64 (m : Int)) ∧ w'.cell? ⟨c.bg, m * 2, none⟩ = some (.int .i64 (a : Int)) ∧ w'.cell? ⟨c.bg, m * 2 + 1, none⟩ = some (.int .i64 (d : Int))) (go_keep) (first | fail)
      rename_i hS6
      clear hS6
      have T6 : Still w5 (w5.alloc (.cells #[.int .i64 (a : Int), .int .i64 (d : Int)] 39)).drew := ((Touch.refl _ _).alloc _).drew
      have z0 : (w5.alloc (.cells #[.int .i64 (a : Int), .int .i64 (d : Int)] 39)).drew.cell? ⟨w5.heap.size, 0, none⟩ = some (.int .i64 (a : Int)) := by simp [go_sem]
      have z1 : (w5.alloc (.cells #[.int .i64 (a : Int), .int .i64 (d : Int)] 39)).drew.cell? ⟨w5.heap.size, 1, none⟩ = some (.int .i64 (d : Int)) := by simp [go_sem]
      generalize (w5.alloc (.cells #[.int .i64 (a : Int), .int .i64 (d : Int)] 39)).drew = w6 at *
      have k4 := T6.has k4 id
      have k5 := T6.has k5 id
      have k6 := T6.has k6 id
      have k7 := T6.has k7 id
      have hs0 := T6.has hs0 id
      have HI6 := Lib.hid (HI5.out.keep T6)
      have HT6 : Hid (Touch (SS c be) w w6) := Lib.hid (HT5.out.then T6.ss)
      clear T6 y0 y1 hk2 hk3
      have hw1 := IntWalk.i64_in ((at' : Int) + (d : Int)) (by omega)
      have hw2 := IntWalk.i64_in ((at' : Int) + (d : Int) - (a : Int)) (by omega)
      go_wp2_with fail
      go_quiet ((go_at_call 64; exact Calls.quiet_of_same ((HHP.out _).mono fun e w' h => ⟨h.1, h.2⟩)))
      have HKK : Hid (∀ q : Nat, Calls Tryz.prog f (#[.int .i64 ((at' : Int) + (d : Int) - (a : Int))] ++ cp) (w6.drewN q) (Got c be (w6.drewN q) (at' + (d - a)) g (k (at' + (d - a)) (n + 1) g))) := Lib.hid (fun q => by
        obtain ⟨f', cp', e1, -, hk⟩ := HK.out
        cases e1
        rw [show (at' : Int) + (d : Int) - (a : Int) = ((at' + (d - a) : Nat) : Int) by omega]
        exact hk (w6.drewN q) (at' + (d - a)) (n + 1) g (HT6.out.drewN q) (HI6.out.keep ((Touch.refl _ _).drewN q)) (Nat.le_add_right _ _) hle)
      clear hw1 hw2
      go_wp2_with fail
      refine (HKK.out _).mono ?_
      intro e w' hG
      have HG := Lib.hid (hG.from (HT6.out.drewN _) (Nat.le_add_right _ _))
      rcases hG.ends with rfl | ⟨bb, rfl⟩
      · refine ⟨rfl, ?_⟩
        rw [HR.out]
        exact HG.out
      · clear hG
        go_wp2_with fail
        go_ret
        rw [HR.out]
        exact HG.out
end Go.Proofs.YtlgpilcjcomacaaGreat

/-
  The closure at a group's end; the program's node at a group.
-/
namespace Go.Proofs.YtlgpilcjcomacaaGreat
open Go.RowKit Rx
set_option linter.unusedVariables false
attribute [local go_sem ↓] Go.wp_at_zero Go.wp_at_succ

theorem upd_back (g : Grp) (i : Nat) (v : Int × Int) : upd (upd g i v) i (g i) = g := by
  funext j
  unfold upd
  by_cases h : j = i
  · subst h; rw [if_pos rfl]
  · rw [if_neg h, if_neg h]

theorem enters_node1 (args : Array Value) (w : World) : (callFunc 66 args).run Tryz.prog w = .ok (.enter 66 args) w :=
  enters_of Tryz.func66 (by kernel_rfl) rfl args w

set_option maxRecDepth 100000 in
set_option maxHeartbeats 1000000 in
theorem node1_any (c : Cx) (m : Nat) (hmG : m ≤ c.G) (be b : Nat) (hb : b ≠ c.bm) (hc2 : c.wT.cell? ⟨b, 2, none⟩ = some (.int .i64 (m : Int))) (lo at' : Nat) (hlo : lo ≤ at') (ha : at' ≤ c.s.size) (kv : Value) (k : K) (n : Nat) (g : Grp) (w : World) (vm vn va vk : Nat)
    (h1 : w.cell? ⟨vm, 0, none⟩ = some (.pointer (some ⟨c.bm, 0, none⟩))) (h2 : w.cell? ⟨vn, 0, none⟩ = some (.pointer (some ⟨b, 0, none⟩))) (h3 : w.cell? ⟨va, 0, none⟩ = some (.int .i64 (lo : Int))) (h4 : w.cell? ⟨vk, 0, none⟩ = some kv)
    (s1 : ¬ SS c be vm) (s2 : ¬ SS c be vn) (s3 : ¬ SS c be va) (s4 : ¬ SS c be vk) (hI : Inv c be n g w) (hk : KOK c be kv k at' w) :
    Calls Tryz.prog 66 #[.int .i64 (at' : Int), .pointer (some ⟨vm, 0, none⟩), .pointer (some ⟨vn, 0, none⟩), .pointer (some ⟨va, 0, none⟩), .pointer (some ⟨vk, 0, none⟩)] w (Got c be w at' g (k at' n (upd g m ((lo : Int), (at' : Int))))) := by
  have hk0 := hk
  obtain ⟨f, cp, rfl, en, -⟩ := hk0
  have hG9 := hI.lG
  have hk2 := hI.tree hc2 hb
  have hk3 := hI.c3
  have y0 := (hI.g0 m hmG).1
  have y1 := (hI.g1 m hmG).1
  rw [Nat.mul_comm] at y0 y1
  have HGI := Lib.hid (hI.gi m)
  have hmi : (m : Int) < (c.G : Int) + 1 := by omega
  have HI := Lib.hid hI; clear hI
  have HK := Lib.hid hk; clear hk
  have HS1 := Lib.hid s1; have HS2 := Lib.hid s2; have HS3 := Lib.hid s3; have HS4 := Lib.hid s4; clear s1 s2 s3 s4
  obtain ⟨v1, hv1⟩ : ∃ v1, (g m).1 = v1 := ⟨_, rfl⟩
  obtain ⟨v2, hv2⟩ : ∃ v2, (g m).2 = v2 := ⟨_, rfl⟩
  rw [hv1] at y0
  rw [hv2] at y1
  have HV : Hid (g m = (v1, v2)) := Lib.hid (by rw [← hv1, ← hv2])
  clear hv1 hv2
  have HC2 := Lib.hid hc2; clear hc2
  go_enter Tryz.func66, Tryz.ntmps66
  go_wp2_with fail
  go_region_held3 (fun w' => w'.cell? ⟨vm, 0, none⟩ = some (.pointer (some ⟨c.bm, 0, none⟩)) ∧ w'.cell? ⟨vn, 0, none⟩ = some (.pointer (some ⟨b, 0, none⟩)) ∧ w'.cell? ⟨c.bm, 3, none⟩ = some (.slice (some ⟨c.bg, 0, none⟩) (c.G + 1) (c.G + 1)) ∧ w'.cell? ⟨b, 2, none⟩ = some (.int .i64 (m : Int)) ∧ w'.cell? ⟨c.bg, m * 2, none⟩ = some (.int .i64 v1) ∧ w'.cell? ⟨c.bg, m * 2 + 1, none⟩ = some (.int .i64 v2)) (go_keep) (first | fail)
  rename_i hS6
  clear hS6
  have T6 : Still w (w.alloc (.cells #[.int .i64 v1, .int .i64 v2] 39)).drew := ((Touch.refl _ _).alloc _).drew
  have z0 : (w.alloc (.cells #[.int .i64 v1, .int .i64 v2] 39)).drew.cell? ⟨w.heap.size, 0, none⟩ = some (.int .i64 v1) := by simp [go_sem]
  have z1 : (w.alloc (.cells #[.int .i64 v1, .int .i64 v2] 39)).drew.cell? ⟨w.heap.size, 1, none⟩ = some (.int .i64 v2) := by simp [go_sem]
  have hz : (w.alloc (.cells #[.int .i64 v1, .int .i64 v2] 39)).drew.heap.size = w.heap.size + 1 := by simp [go_sem]
  generalize (w.alloc (.cells #[.int .i64 v1, .int .i64 v2] 39)).drew = w6 at *
  have h1 := T6.has h1 id
  have h2 := T6.has h2 id
  have h3 := T6.has h3 id
  have h4 := T6.has h4 id
  have hk2 := T6.has hk2 id
  have hk3 := T6.has hk3 id
  have HI6 := Lib.hid (HI.out.keep T6)
  have x0 := HI6.out.g0 m hmG
  have x1 := HI6.out.g1 m hmG
  rw [Nat.mul_comm] at x0 x1
  obtain ⟨x0, xf0⟩ := x0
  obtain ⟨x1, xf1⟩ := x1
  have HT6 : Hid (Touch (SS c be) w w6) := Lib.hid T6.ss
  have HZ := Lib.hid hz
  have fz : ∀ x, w.heap.size ≤ x → ¬ SS c be x := fun x hx => HI.out.ss hx
  have HFZ := Lib.hid (fz w.heap.size (Nat.le_refl _)); clear fz
  obtain ⟨w7, hw7⟩ : ∃ w7, ((w6.setCell ⟨c.bg, m * 2, none⟩ (.int .i64 (lo : Int))).setCell ⟨c.bg, m * 2 + 1, none⟩ (.int .i64 (at' : Int))).drew = w7 := ⟨_, rfl⟩
  have T7 : Touch (fun i => i = c.bg) w6 w7 := by rw [← hw7]; exact ((Touch.setCell (Touch.setCell (Touch.refl (fun i => i = c.bg) w6) (.inl rfl) _) (.inl rfl) _).drew)
  have hI7 := (HI6.out.group m hmG ((lo : Int), (at' : Int)) (.inr ⟨by simp, by simp; omega, by simp; omega⟩)).keep (Touch.refl _ _).drew
  rw [Nat.mul_comm 2 m] at hI7
  simp only at hI7
  rw [hw7] at hI7
  have g1 := T7.has h1 (fun e => HS1.out (.inr (.inl e)))
  have g2 := T7.has h2 (fun e => HS2.out (.inr (.inl e)))
  have g4 := T7.has h4 (fun e => HS4.out (.inr (.inl e)))
  have gz0 := T7.has z0 (fun e => HFZ.out (.inr (.inl e)))
  have gz1 := T7.has z1 (fun e => HFZ.out (.inr (.inl e)))
  have HT7 : Hid (Touch (SS c be) w w7) := Lib.hid (HT6.out.then (T7.mono (fun _ _ e => .inr (.inl e))))
  have HI7 := Lib.hid hI7
  obtain ⟨q, hq⟩ : ∃ q, k at' n (upd g m ((lo : Int), (at' : Int))) = q := ⟨_, rfl⟩
  have HKK : Hid (Calls Tryz.prog f (#[.int .i64 (at' : Int)] ++ cp) w7 (Got c be w7 at' (upd g m ((lo : Int), (at' : Int))) q)) := Lib.hid (by
    obtain ⟨f', cp', e1, -, hk⟩ := HK.out
    cases e1
    rw [← hq]
    exact hk w7 at' n _ HT7.out HI7.out (Nat.le_refl _) ha)
  have HQ := Lib.hid hq
  clear T6 y0 y1 hz T7 hI7 hq
  go_wp2_with fail
  go_still_tail 11, (by kernel_rfl)
  change wpList _ _ _ _ _ (World.drew _)
  go_wp2_with fail
  clear hw7 x0 x1 xf0 xf1
  refine HKK.out.mono ?_
  intro e w8 hG
  clear HKK
  cases q with
  | over =>
    obtain ⟨rfl, ht⟩ := hG
    refine ⟨rfl, ?_⟩
    rw [HQ.out]
    exact ⟨rfl, HT7.out.then ht⟩
  | yes n3 h3' x3 =>
    obtain ⟨rfl, hI3, hH3, hlo3, hsz3, ht⟩ := hG
    have HI8 := Lib.hid hI3
    have HH8 := Lib.hid hH3
    have HT8 := Lib.hid (HT7.out.then ht)
    clear hI3 hH3 ht
    go_wp2_with fail
    go_ret
    rw [HQ.out]
    exact ⟨rfl, HI8.out, HH8.out, hlo3, hsz3, HT8.out⟩
  | no n3 =>
    obtain ⟨rfl, hI8, ht⟩ := hG
    have g1 := ht.has g1 HS1.out
    have g2 := ht.has g2 HS2.out
    have gz0 := ht.has gz0 HFZ.out
    have gz1 := ht.has gz1 HFZ.out
    have hk2 := hI8.tree HC2.out hb
    have hk3 := hI8.c3
    have x0 := hI8.g0 m hmG
    have x1 := hI8.g1 m hmG
    rw [Nat.mul_comm] at x0 x1
    obtain ⟨x0, xf0⟩ := x0
    obtain ⟨x1, xf1⟩ := x1
    obtain ⟨w9, hw9⟩ : ∃ w9, ((w8.setCell ⟨c.bg, m * 2, none⟩ (.int .i64 v1)).setCell ⟨c.bg, m * 2 + 1, none⟩ (.int .i64 v2)).drew = w9 := ⟨_, rfl⟩
    have T9 : Touch (fun i => i = c.bg) w8 w9 := by rw [← hw9]; exact ((Touch.setCell (Touch.setCell (Touch.refl (fun i => i = c.bg) w8) (.inl rfl) _) (.inl rfl) _).drew)
    have hI9 := (hI8.group m hmG (v1, v2) (by have h := HGI.out; rw [HV.out] at h; exact h)).keep (Touch.refl _ _).drew
    rw [Nat.mul_comm 2 m, ← HV.out, upd_back, HV.out] at hI9
    simp only at hI9
    rw [hw9] at hI9
    have HI9 := Lib.hid hI9
    have HT9 : Hid (Touch (SS c be) w w9) := Lib.hid ((HT7.out.then ht).then (T9.mono (fun _ _ e => .inr (.inl e))))
    clear hI8 ht T9 hI9
    go_wp2_with fail
    go_still_tail 9, (by kernel_rfl)
    change wpList _ _ _ _ _ (World.drew _)
    go_wp2_with fail
    go_ret
    rw [HQ.out]
    exact ⟨rfl, HI9.out, HT9.out⟩

set_option maxRecDepth 100000 in
set_option maxHeartbeats 1000000 in
theorem node_grp0 (c : Cx) (x : Re) (hW : WaysOK c x) (m : Nat) (hm : m = 0) (be b : Nat) (of : Value) (wa : Option Addr) (wl wc : Nat) (kid : Value) (least most how : Int) (at' : Nat) (kv : Value) (k : K) (n : Nat) (g : Grp) (w : World)
    (hN : NodeC (fun b => b ≠ c.bm) c.wT b 8 of (m : Int) wa wl wc kid least most how) (hx : (trd c x).ways wa wl) (hl : wl ≤ wc) (hI : Inv c be n g w) (ha : at' ≤ c.s.size) (hk : KOK c be kv k at' w) :
    Calls Tryz.prog 49 #[.pointer (some ⟨c.bm, 0, none⟩), .pointer (some ⟨b, 0, none⟩), .int .i64 (at' : Int), kv] w (Got c be w at' g (run (str c.s) c.B (.grp m x) at' k n g)) := by
  subst hm
  have hk0 := hk
  obtain ⟨f, cp, rfl, en, -⟩ := hk0
  obtain ⟨w4, hw4⟩ : ∃ w4, (((w.alloc (.cells #[.pointer (some ⟨c.bm, 0, none⟩)] 63)).alloc (.cells #[.pointer (some ⟨b, 0, none⟩)] 60)).alloc (.cells #[.int .i64 (at' : Int)] 3)).alloc (.cells #[.func (.func f) #[] cp] 118) = w4 := ⟨_, rfl⟩
  have T4 : Still w w4 := by rw [← hw4]; exact ((((Touch.refl _ _).alloc _).alloc _).alloc _).alloc _
  have k4 : w4.cell? ⟨w.heap.size, 0, none⟩ = some (.pointer (some ⟨c.bm, 0, none⟩)) := by rw [← hw4]; simp [go_sem]
  have k5 : w4.cell? ⟨w.heap.size + 1, 0, none⟩ = some (.pointer (some ⟨b, 0, none⟩)) := by rw [← hw4]; simp [go_sem]
  have k6 : w4.cell? ⟨w.heap.size + 1 + 1, 0, none⟩ = some (.int .i64 (at' : Int)) := by rw [← hw4]; simp [go_sem]
  have k7 : w4.cell? ⟨w.heap.size + 1 + 1 + 1, 0, none⟩ = some (.func (.func f) #[] cp) := by rw [← hw4]; simp [go_sem]
  have hz4 : w4.heap.size = w.heap.size + 1 + 1 + 1 + 1 := by rw [← hw4]; simp
  have s0 := hI.ss (b := w.heap.size) (Nat.le_refl _)
  have s1 := hI.ss (b := w.heap.size + 1) (by omega)
  have s2 := hI.ss (b := w.heap.size + 1 + 1) (by omega)
  have s3 := hI.ss (b := w.heap.size + 1 + 1 + 1) (by omega)
  have HI4 := Lib.hid (hI.keep T4)
  have HT4 : Hid (Touch (SS c be) w w4) := Lib.hid T4.ss
  have HS0 := Lib.hid s0; have HS1 := Lib.hid s1; have HS2 := Lib.hid s2; have HS3 := Lib.hid s3
  have HZ4 := Lib.hid hz4
  have kd := HI4.out.tree hN.c0 hN.fb
  have HN := Lib.hid hN
  have HK := Lib.hid hk
  have hnB := hI.nB
  have hB := hI.lB
  clear hI hk hN T4 s0 s1 s2 s3 hz4
  have HR : Hid (run (str c.s) c.B (.grp 0 x) at' k n g = run (str c.s) c.B x at' k n g) := Lib.hid rfl
  have HW := Lib.hid (hW be b wa wl wc at' _ k n g w4 HN.out.fb HN.out.c3 hx hl HI4.out ha (HK.out.later HT4.out (Nat.le_refl _)))
  have kd2 := HI4.out.tree HN.out.c2 HN.out.fb
  clear hW
  go_enter Tryz.func49, Tryz.ntmps49
  go_wp2_with fail
  clear hw4
  refine HW.out.mono ?_
  intro e w' hG
  have HG := Lib.hid (hG.from HT4.out (Nat.le_refl _))
  rcases hG.ends with rfl | ⟨bb, rfl⟩
  · refine ⟨rfl, ?_⟩
    rw [HR.out]
    exact HG.out
  · clear hG
    go_wp2_with fail
    go_ret
    rw [HR.out]
    exact HG.out

set_option maxRecDepth 100000 in
set_option maxHeartbeats 1000000 in
theorem node_grp (c : Cx) (x : Re) (hW : WaysOK c x) (m : Nat) (hm1 : 1 ≤ m) (hmG : m ≤ c.G) (be b : Nat) (of : Value) (wa : Option Addr) (wl wc : Nat) (kid : Value) (least most how : Int) (at' : Nat) (kv : Value) (k : K) (n : Nat) (g : Grp) (w : World)
    (hN : NodeC (fun b => b ≠ c.bm) c.wT b 8 of (m : Int) wa wl wc kid least most how) (hx : (trd c x).ways wa wl) (hl : wl ≤ wc) (hI : Inv c be n g w) (ha : at' ≤ c.s.size) (hk : KOK c be kv k at' w) :
    Calls Tryz.prog 49 #[.pointer (some ⟨c.bm, 0, none⟩), .pointer (some ⟨b, 0, none⟩), .int .i64 (at' : Int), kv] w (Got c be w at' g (run (str c.s) c.B (.grp m x) at' k n g)) := by
  have hk0 := hk
  obtain ⟨f, cp, rfl, en, -⟩ := hk0
  obtain ⟨w4, hw4⟩ : ∃ w4, (((w.alloc (.cells #[.pointer (some ⟨c.bm, 0, none⟩)] 63)).alloc (.cells #[.pointer (some ⟨b, 0, none⟩)] 60)).alloc (.cells #[.int .i64 (at' : Int)] 3)).alloc (.cells #[.func (.func f) #[] cp] 118) = w4 := ⟨_, rfl⟩
  have T4 : Still w w4 := by rw [← hw4]; exact ((((Touch.refl _ _).alloc _).alloc _).alloc _).alloc _
  have k4 : w4.cell? ⟨w.heap.size, 0, none⟩ = some (.pointer (some ⟨c.bm, 0, none⟩)) := by rw [← hw4]; simp [go_sem]
  have k5 : w4.cell? ⟨w.heap.size + 1, 0, none⟩ = some (.pointer (some ⟨b, 0, none⟩)) := by rw [← hw4]; simp [go_sem]
  have k6 : w4.cell? ⟨w.heap.size + 1 + 1, 0, none⟩ = some (.int .i64 (at' : Int)) := by rw [← hw4]; simp [go_sem]
  have k7 : w4.cell? ⟨w.heap.size + 1 + 1 + 1, 0, none⟩ = some (.func (.func f) #[] cp) := by rw [← hw4]; simp [go_sem]
  have hz4 : w4.heap.size = w.heap.size + 1 + 1 + 1 + 1 := by rw [← hw4]; simp
  have s0 := hI.ss (b := w.heap.size) (Nat.le_refl _)
  have s1 := hI.ss (b := w.heap.size + 1) (by omega)
  have s2 := hI.ss (b := w.heap.size + 1 + 1) (by omega)
  have s3 := hI.ss (b := w.heap.size + 1 + 1 + 1) (by omega)
  have HI4 := Lib.hid (hI.keep T4)
  have HT4 : Hid (Touch (SS c be) w w4) := Lib.hid T4.ss
  have HS0 := Lib.hid s0; have HS1 := Lib.hid s1; have HS2 := Lib.hid s2; have HS3 := Lib.hid s3
  have HZ4 := Lib.hid hz4
  have kd := HI4.out.tree hN.c0 hN.fb
  have HN := Lib.hid hN
  have HK := Lib.hid hk
  have hnB := hI.nB
  have hB := hI.lB
  clear hI hk hN T4 s0 s1 s2 s3 hz4
  have HR : Hid (run (str c.s) c.B (.grp m x) at' k n g = run (str c.s) c.B x at' (fun e n g => k e n (upd g m ((at' : Int), (e : Int)))) n g) := Lib.hid (if_neg (by omega))
  have HW := Lib.hid (hW be b wa wl wc at' (.func (.func 66) #[] #[.pointer (some ⟨w.heap.size, 0, none⟩), .pointer (some ⟨w.heap.size + 1, 0, none⟩), .pointer (some ⟨w.heap.size + 1 + 1, 0, none⟩), .pointer (some ⟨w.heap.size + 1 + 1 + 1, 0, none⟩)]) (fun e n g => k e n (upd g m ((at' : Int), (e : Int)))) n g w4 HN.out.fb HN.out.c3 hx hl HI4.out ha
    ⟨_, _, rfl, enters_node1, fun w1 a1 n1 g1 t1 hI1 h1 h2 => node1_any c m hmG be b HN.out.fb HN.out.c2 at' a1 h1 h2 _ k n1 g1 w1 _ _ _ _ (t1.has k4 HS0.out) (t1.has k5 HS1.out) (t1.has k6 HS2.out) (t1.has k7 HS3.out) HS0.out HS1.out HS2.out HS3.out hI1 (HK.out.later (HT4.out.then t1) h1)⟩)
  have kd2 := HI4.out.tree HN.out.c2 HN.out.fb
  have hm0 : ((m : Int) == 0) = false := by simp; omega
  clear hW
  go_enter Tryz.func49, Tryz.ntmps49
  go_wp2_with fail
  clear hw4
  refine HW.out.mono ?_
  intro e w' hG
  have HG := Lib.hid (hG.from HT4.out (Nat.le_refl _))
  rcases hG.ends with rfl | ⟨bb, rfl⟩
  · refine ⟨rfl, ?_⟩
    rw [HR.out]
    exact HG.out
  · clear hG
    go_wp2_with fail
    go_ret
    rw [HR.out]
    exact HG.out
end Go.Proofs.YtlgpilcjcomacaaGreat

/-
  The program's rounds of a repeat.
-/
namespace Go.Proofs.YtlgpilcjcomacaaGreat
open Go.RowKit Rx
set_option linter.unusedVariables false
attribute [local go_sem ↓] Go.wp_at_zero Go.wp_at_succ

/-- What follows a round. -/
def roundK (kid : Nat → K → Nat → Grp → Res) (least : Nat) (most : Int) (lazy : Bool) (fuel made at' : Nat) (k : K) : K := fun e n g => if e = at' ∧ least ≤ made then k e n g else times kid least most lazy fuel (made + 1) e k n g
/-- A round more. -/
def moreR (kid : Nat → K → Nat → Grp → Res) (least : Nat) (most : Int) (lazy : Bool) (fuel made at' : Nat) (k : K) (g : Grp) (n : Nat) : Res := if most ≠ -1 ∧ most ≤ (made : Int) then .no n else kid at' (roundK kid least most lazy fuel made at' k) n g
theorem times_succ (kid : Nat → K → Nat → Grp → Res) (least : Nat) (most : Int) (lazy : Bool) (fuel made at' : Nat) (k : K) (n : Nat) (g : Grp) :
    times kid least most lazy (fuel + 1) made at' k n g = if made < least then moreR kid least most lazy fuel made at' k g n else if lazy then orElse (k at' n g) (moreR kid least most lazy fuel made at' k g) else orElse (moreR kid least most lazy fuel made at' k g n) (fun n => k at' n g) := rfl

/-- The rounds at so much fuel. -/
def TimesOK (c : Cx) (y : Re) (b least : Nat) (most : Int) (lazy : Bool) (fuel : Nat) : Prop := ∀ (be made at' : Nat) (kv : Value) (k : K) (n : Nat) (g : Grp) (w : World), (least - made) + (c.s.size + 1 - at') ≤ fuel → made + fuel ≤ 100000 → Inv c be n g w → at' ≤ c.s.size → KOK c be kv k at' w →
  Calls Tryz.prog 69 #[.pointer (some ⟨c.bm, 0, none⟩), .pointer (some ⟨b, 0, none⟩), .int .i64 (made : Int), .int .i64 (at' : Int), kv] w (Got c be w at' g (times (run (str c.s) c.B y) least most lazy fuel made at' k n g))

theorem enters_times1 (args : Array Value) (w : World) : (callFunc 87 args).run Tryz.prog w = .ok (.enter 87 args) w :=
  enters_of Tryz.func87 (by kernel_rfl) rfl args w
theorem enters_times11 (args : Array Value) (w : World) : (callFunc 88 args).run Tryz.prog w = .ok (.enter 88 args) w :=
  enters_of Tryz.func88 (by kernel_rfl) rfl args w

set_option maxRecDepth 100000 in
set_option maxHeartbeats 1000000 in
/-- Behind a round. -/
theorem times11_any (c : Cx) (y : Re) (b : Nat) (of : Value) (num : Int) (wa : Option Addr) (wl wc : Nat) (kid : Value) (least : Nat) (most how : Int) (lazy : Bool)
    (hN : NodeC (fun b => b ≠ c.bm) c.wT b 12 of num wa wl wc kid (least : Int) most how) (fuel : Nat) (hT : TimesOK c y b least most lazy fuel)
    (be made at' x : Nat) (hm : (least - made) + (c.s.size + 1 - at') ≤ fuel + 1) (hmf : made + 1 + fuel ≤ 100000) (hlo : at' ≤ x) (hx : x ≤ c.s.size) (kv : Value) (k : K) (n : Nat) (g : Grp) (w : World) (va vd vn vk vm : Nat)
    (h1 : w.cell? ⟨va, 0, none⟩ = some (.int .i64 (at' : Int))) (h2 : w.cell? ⟨vd, 0, none⟩ = some (.int .i64 (made : Int))) (h3 : w.cell? ⟨vn, 0, none⟩ = some (.pointer (some ⟨b, 0, none⟩))) (h4 : w.cell? ⟨vk, 0, none⟩ = some kv) (h5 : w.cell? ⟨vm, 0, none⟩ = some (.pointer (some ⟨c.bm, 0, none⟩)))
    (hI : Inv c be n g w) (hk : KOK c be kv k x w) :
    Calls Tryz.prog 88 #[.int .i64 (x : Int), .pointer (some ⟨va, 0, none⟩), .pointer (some ⟨vd, 0, none⟩), .pointer (some ⟨vn, 0, none⟩), .pointer (some ⟨vk, 0, none⟩), .pointer (some ⟨vm, 0, none⟩)] w (Got c be w x g (roundK (run (str c.s) c.B y) least most lazy fuel made at' k x n g)) := by
  have hk0 := hk
  obtain ⟨f, cp, rfl, en, -⟩ := hk0
  have hls := hI.tree hN.c5 hN.fb
  have hsz := hI.sz
  have HI := Lib.hid hI; clear hI
  have HK := Lib.hid hk; clear hk
  have HT := Lib.hid hT; clear hT
  clear hN
  by_cases hc : x = at' ∧ least ≤ made
  · have HR : Hid (roundK (run (str c.s) c.B y) least most lazy fuel made at' k x n g = k x n g) := Lib.hid (if_pos hc)
    obtain ⟨rfl, hge⟩ := hc
    have hd : decide (least ≤ made) = true := by simp; omega
    have hd2 : ((x : Int) == (x : Int)) = true := by simp
    have HKK : Hid (∀ q : Nat, Calls Tryz.prog f (#[.int .i64 (x : Int)] ++ cp) (w.drewN q) (Got c be (w.drewN q) x g (k x n g))) := Lib.hid (fun q => by
      obtain ⟨f', cp', e1, -, hk⟩ := HK.out
      cases e1
      exact hk (w.drewN q) x n g ((Touch.refl _ _).drewN q) (HI.out.keep ((Touch.refl _ _).drewN q)) (Nat.le_refl _) hx)
    go_enter Tryz.func88, Tryz.ntmps88
    go_wp2_with fail
    go_quiet (fail)
    go_wp2_with fail
    refine (HKK.out _).mono ?_
    intro e w' hG
    have HG := Lib.hid (hG.from ((Touch.refl _ _).drewN _) (Nat.le_refl _))
    rcases hG.ends with rfl | ⟨bb, rfl⟩
    · refine ⟨rfl, ?_⟩
      rw [HR.out]
      exact HG.out
    · clear hG
      go_wp2_with fail
      go_ret
      rw [HR.out]
      exact HG.out
  · have HR : Hid (roundK (run (str c.s) c.B y) least most lazy fuel made at' k x n g = times (run (str c.s) c.B y) least most lazy fuel (made + 1) x k n g) := Lib.hid (if_neg hc)
    have HTT : Hid (∀ q : Nat, Calls Tryz.prog 69 #[.pointer (some ⟨c.bm, 0, none⟩), .pointer (some ⟨b, 0, none⟩), .int .i64 ((made : Int) + 1), .int .i64 (x : Int), .func (.func f) #[] cp] (w.drewN q) (Got c be (w.drewN q) x g (times (run (str c.s) c.B y) least most lazy fuel (made + 1) x k n g))) := Lib.hid (fun q =>
      HT.out be (made + 1) x _ k n g (w.drewN q) (by omega) (by omega) (HI.out.keep ((Touch.refl _ _).drewN q)) hx (HK.out.later ((Touch.refl _ _).drewN q) (Nat.le_refl _)))
    by_cases he : x = at'
    · subst he
      have hd2 : ((x : Int) == (x : Int)) = true := by simp
      have hd : decide (least ≤ made) = false := by simp; omega
      clear hc
      go_enter Tryz.func88, Tryz.ntmps88
      go_wp2_with fail
      go_quiet (fail)
      go_wp2_with fail
      refine (HTT.out _).mono ?_
      intro e w' hG
      have HG := Lib.hid (hG.from ((Touch.refl _ _).drewN _) (Nat.le_refl _))
      rcases hG.ends with rfl | ⟨bb, rfl⟩
      · refine ⟨rfl, ?_⟩
        rw [HR.out]
        exact HG.out
      · clear hG
        go_wp2_with fail
        go_ret
        rw [HR.out]
        exact HG.out
    · have hd2 : ((x : Int) == (at' : Int)) = false := by simp; omega
      clear hc
      go_enter Tryz.func88, Tryz.ntmps88
      go_wp2_with fail
      go_quiet (fail)
      go_wp2_with fail
      refine (HTT.out _).mono ?_
      intro e w' hG
      have HG := Lib.hid (hG.from ((Touch.refl _ _).drewN _) (Nat.le_refl _))
      rcases hG.ends with rfl | ⟨bb, rfl⟩
      · refine ⟨rfl, ?_⟩
        rw [HR.out]
        exact HG.out
      · clear hG
        go_wp2_with fail
        go_ret
        rw [HR.out]
        exact HG.out

set_option maxRecDepth 100000 in
set_option maxHeartbeats 1000000 in
/-- A round more. -/
theorem times1_any (c : Cx) (y : Re) (b : Nat) (of : Value) (num : Int) (wa : Option Addr) (wl wc : Nat) (kid : Value) (least : Nat) (most how : Int) (lazy : Bool)
    (hN : NodeC (fun b => b ≠ c.bm) c.wT b 12 of num wa wl wc kid (least : Int) most how) (hkid : (trd c y).node kid) (hNode : NodeOK c y) (fuel : Nat) (hT : TimesOK c y b least most lazy fuel)
    (be made at' : Nat) (hm : (least - made) + (c.s.size + 1 - at') ≤ fuel + 1) (hmf : made + 1 + fuel ≤ 100000) (ha : at' ≤ c.s.size) (kv : Value) (k : K) (n : Nat) (g : Grp) (w : World) (va vd vn vk vm : Nat)
    (h1 : w.cell? ⟨va, 0, none⟩ = some (.int .i64 (at' : Int))) (h2 : w.cell? ⟨vd, 0, none⟩ = some (.int .i64 (made : Int))) (h3 : w.cell? ⟨vn, 0, none⟩ = some (.pointer (some ⟨b, 0, none⟩))) (h4 : w.cell? ⟨vk, 0, none⟩ = some kv) (h5 : w.cell? ⟨vm, 0, none⟩ = some (.pointer (some ⟨c.bm, 0, none⟩)))
    (s1 : ¬ SS c be va) (s2 : ¬ SS c be vd) (s3 : ¬ SS c be vn) (s4 : ¬ SS c be vk) (s5 : ¬ SS c be vm)
    (hI : Inv c be n g w) (hk : KOK c be kv k at' w) :
    Calls Tryz.prog 87 #[.pointer (some ⟨vn, 0, none⟩), .pointer (some ⟨vd, 0, none⟩), .pointer (some ⟨vm, 0, none⟩), .pointer (some ⟨va, 0, none⟩), .pointer (some ⟨vk, 0, none⟩)] w (Got c be w at' g (moreR (run (str c.s) c.B y) least most lazy fuel made at' k g n)) := by
  have hms := hI.tree hN.c6 hN.fb
  have hkd := hI.tree hN.c4 hN.fb
  by_cases hc : most ≠ -1 ∧ most ≤ (made : Int)
  · have HR : Hid (moreR (run (str c.s) c.B y) least most lazy fuel made at' k g n = .no n) := Lib.hid (if_pos hc)
    obtain ⟨hc1, hc2⟩ := hc
    have hd : decide (most ≤ (made : Int)) = true := by simp; omega
    have hd2 : (most != (-1 : Int)) = true := by simp; omega
    have HI := Lib.hid hI; clear hI
    have HK := Lib.hid hk; clear hk
    clear hT hNode hN hkid hc1 hc2
    go_enter Tryz.func87, Tryz.ntmps87
    go_wp2_with fail
    go_quiet (fail)
    go_wp2_with fail
    go_ret
    rw [HR.out]
    exact ⟨rfl, HI.out.keep ((Touch.refl _ _).drewN _), (Touch.refl _ _).drewN _⟩
  · have HR : Hid (moreR (run (str c.s) c.B y) least most lazy fuel made at' k g n = run (str c.s) c.B y at' (roundK (run (str c.s) c.B y) least most lazy fuel made at' k) n g) := Lib.hid (if_neg hc)
    have HC : Hid (∀ q : Nat, Calls Tryz.prog 49 #[.pointer (some ⟨c.bm, 0, none⟩), kid, .int .i64 (at' : Int), .func (.func 88) #[] #[.pointer (some ⟨va, 0, none⟩), .pointer (some ⟨vd, 0, none⟩), .pointer (some ⟨vn, 0, none⟩), .pointer (some ⟨vk, 0, none⟩), .pointer (some ⟨vm, 0, none⟩)]] (w.drewN q).drew (Got c be (w.drewN q).drew at' g (run (str c.s) c.B y at' (roundK (run (str c.s) c.B y) least most lazy fuel made at' k) n g))) := Lib.hid (fun q =>
      hNode be kid at' _ _ n g (w.drewN q).drew hkid (hI.keep ((Touch.refl _ _).drewN q).drew) ha ⟨_, _, rfl, enters_times11, fun w1 a1 n1 g1 t1 hI1 l1 l2 =>
        times11_any c y b of num wa wl wc kid least most how lazy hN fuel hT be made at' a1 hm hmf l1 l2 kv k n1 g1 w1 _ _ _ _ _ (t1.has h1 s1) (t1.has h2 s2) (t1.has h3 s3) (t1.has h4 s4) (t1.has h5 s5) hI1 (hk.later (((Touch.refl _ _).drewN q).drew.then t1) l1)⟩)
    have hk0 := hk
    obtain ⟨f, cp, rfl, en, -⟩ := hk0
    clear hT hNode hN hkid hI hk s1 s2 s3 s4 s5
    by_cases h1m : most = -1
    · subst h1m
      clear hc
      go_enter Tryz.func87, Tryz.ntmps87
      go_wp2_with fail
      go_quiet (fail)
      go_wp2_with fail
      have HC2 := Lib.hid (HC.out nq)
      have TT : Hid (Touch (SS c be) w (w.drewN nq).drew) := Lib.hid (((Touch.refl _ _).drewN _).drew)
      have h1 : (w.drewN nq).cell? ⟨va, 0, none⟩ = some (.int .i64 (at' : Int)) := h1
      have h3 : (w.drewN nq).cell? ⟨vn, 0, none⟩ = some (.pointer (some ⟨b, 0, none⟩)) := h3
      have h5 : (w.drewN nq).cell? ⟨vm, 0, none⟩ = some (.pointer (some ⟨c.bm, 0, none⟩)) := h5
      have hkd : (w.drewN nq).cell? ⟨b, 4, none⟩ = some kid := hkd
      generalize w.drewN nq = wq at *
      go_still_tail 7, (by kernel_rfl)
      change wpList _ _ _ _ _ (World.drew _)
      go_wp2_with fail
      refine HC2.out.mono ?_
      intro e w' hG
      have HG := Lib.hid (hG.from TT.out (Nat.le_refl _))
      rcases hG.ends with rfl | ⟨bb, rfl⟩
      · refine ⟨rfl, ?_⟩
        rw [HR.out]
        exact HG.out
      · clear hG
        go_wp2_with fail
        go_ret
        rw [HR.out]
        exact HG.out
    · have hd : decide (most ≤ (made : Int)) = false := by simp; omega
      have hd2 : (most != (-1 : Int)) = true := by simp; omega
      clear hc h1m
      go_enter Tryz.func87, Tryz.ntmps87
      go_wp2_with fail
      go_quiet (fail)
      go_wp2_with fail
      have HC2 := Lib.hid (HC.out nq)
      have TT : Hid (Touch (SS c be) w (w.drewN nq).drew) := Lib.hid (((Touch.refl _ _).drewN _).drew)
      have h1 : (w.drewN nq).cell? ⟨va, 0, none⟩ = some (.int .i64 (at' : Int)) := h1
      have h3 : (w.drewN nq).cell? ⟨vn, 0, none⟩ = some (.pointer (some ⟨b, 0, none⟩)) := h3
      have h5 : (w.drewN nq).cell? ⟨vm, 0, none⟩ = some (.pointer (some ⟨c.bm, 0, none⟩)) := h5
      have hkd : (w.drewN nq).cell? ⟨b, 4, none⟩ = some kid := hkd
      generalize w.drewN nq = wq at *
      go_still_tail 7, (by kernel_rfl)
      change wpList _ _ _ _ _ (World.drew _)
      go_wp2_with fail
      refine HC2.out.mono ?_
      intro e w' hG
      have HG := Lib.hid (hG.from TT.out (Nat.le_refl _))
      rcases hG.ends with rfl | ⟨bb, rfl⟩
      · refine ⟨rfl, ?_⟩
        rw [HR.out]
        exact HG.out
      · clear hG
        go_wp2_with fail
        go_ret
        rw [HR.out]
        exact HG.out
end Go.Proofs.YtlgpilcjcomacaaGreat

/-
  The program's times.
-/
namespace Go.Proofs.YtlgpilcjcomacaaGreat
open Go.RowKit Rx
set_option linter.unusedVariables false
attribute [local go_sem ↓] Go.wp_at_zero Go.wp_at_succ

set_option maxRecDepth 100000 in
set_option maxHeartbeats 1000000 in
theorem times_step (c : Cx) (y : Re) (b : Nat) (of : Value) (num : Int) (wa : Option Addr) (wl wc : Nat) (kid : Value) (least : Nat) (most how : Int) (lazy : Bool)
    (hN : NodeC (fun b => b ≠ c.bm) c.wT b 12 of num wa wl wc kid (least : Int) most how) (hkid : (trd c y).node kid) (hNode : NodeOK c y) (hl100 : least ≤ 100) (hhow : (how = if lazy then 1 else 0) ∨ (how = 2 ∧ lazy = false)) (fuel : Nat) (hT : TimesOK c y b least most lazy fuel) : TimesOK c y b least most lazy (fuel + 1) := by
  intro be made at' kv k n g w hm hmf hI ha hk
  have hk0 := hk
  obtain ⟨f, cp, rfl, en, -⟩ := hk0
  obtain ⟨w5, hw5⟩ : ∃ w5, ((((w.alloc (.cells #[.pointer (some ⟨c.bm, 0, none⟩)] 63)).alloc (.cells #[.pointer (some ⟨b, 0, none⟩)] 60)).alloc (.cells #[.int .i64 (made : Int)] 3)).alloc (.cells #[.int .i64 (at' : Int)] 3)).alloc (.cells #[.func (.func f) #[] cp] 118) = w5 := ⟨_, rfl⟩
  have T5 : Still w w5 := by rw [← hw5]; exact (((((Touch.refl _ _).alloc _).alloc _).alloc _).alloc _).alloc _
  have k5 : w5.cell? ⟨w.heap.size, 0, none⟩ = some (.pointer (some ⟨c.bm, 0, none⟩)) := by rw [← hw5]; simp [go_sem]
  have k6 : w5.cell? ⟨w.heap.size + 1, 0, none⟩ = some (.pointer (some ⟨b, 0, none⟩)) := by rw [← hw5]; simp [go_sem]
  have k7 : w5.cell? ⟨w.heap.size + 1 + 1, 0, none⟩ = some (.int .i64 (made : Int)) := by rw [← hw5]; simp [go_sem]
  have k8 : w5.cell? ⟨w.heap.size + 1 + 1 + 1, 0, none⟩ = some (.int .i64 (at' : Int)) := by rw [← hw5]; simp [go_sem]
  have k9 : w5.cell? ⟨w.heap.size + 1 + 1 + 1 + 1, 0, none⟩ = some (.func (.func f) #[] cp) := by rw [← hw5]; simp [go_sem]
  have s0 := hI.ss (b := w.heap.size) (Nat.le_refl _)
  have s1 := hI.ss (b := w.heap.size + 1) (by omega)
  have s2 := hI.ss (b := w.heap.size + 1 + 1) (by omega)
  have s3 := hI.ss (b := w.heap.size + 1 + 1 + 1) (by omega)
  have s4 := hI.ss (b := w.heap.size + 1 + 1 + 1 + 1) (by omega)
  have HI5 := Lib.hid (hI.keep T5)
  have HT5 : Hid (Touch (SS c be) w w5) := Lib.hid T5.ss
  have hls := HI5.out.tree hN.c5 hN.fb
  have hhw := HI5.out.tree hN.c7 hN.fb
  have HM : Hid (∀ (w' : World) (n' : Nat), Touch (SS c be) w5 w' → Inv c be n' g w' → Calls Tryz.prog 87 #[.pointer (some ⟨w.heap.size + 1, 0, none⟩), .pointer (some ⟨w.heap.size + 1 + 1, 0, none⟩), .pointer (some ⟨w.heap.size, 0, none⟩), .pointer (some ⟨w.heap.size + 1 + 1 + 1, 0, none⟩), .pointer (some ⟨w.heap.size + 1 + 1 + 1 + 1, 0, none⟩)] w' (Got c be w' at' g (moreR (run (str c.s) c.B y) least most lazy fuel made at' k g n'))) := Lib.hid (fun w' n' t hI' =>
    times1_any c y b of num wa wl wc kid least most how lazy hN hkid hNode fuel hT be made at' hm (by omega) ha _ k n' g w' _ _ _ _ _ (t.has k8 s3) (t.has k7 s2) (t.has k6 s1) (t.has k9 s4) (t.has k5 s0) s3 s2 s1 s4 s0 hI' (hk.later (HT5.out.then t) (Nat.le_refl _)))
  have HKK : Hid (∀ (w' : World) (n' : Nat), Touch (SS c be) w5 w' → Inv c be n' g w' → Calls Tryz.prog f (#[.int .i64 (at' : Int)] ++ cp) w' (Got c be w' at' g (k at' n' g))) := Lib.hid (fun w' n' t hI' => by
    obtain ⟨f', cp', e1, -, hk⟩ := hk
    cases e1
    exact hk w' at' n' g (HT5.out.then t) hI' (Nat.le_refl _) ha)
  have enT := enters_times1
  have HS3 := Lib.hid s3; have HS4 := Lib.hid s4
  clear hT hNode hkid hI hk T5 s0 s1 s2 s3 s4 hN
  by_cases hlt : made < least
  · have HR : Hid (times (run (str c.s) c.B y) least most lazy (fuel + 1) made at' k n g = moreR (run (str c.s) c.B y) least most lazy fuel made at' k g n) := Lib.hid (by rw [times_succ, if_pos hlt])
    have hd : decide (made < least) = true := by simp; omega
    clear hhow
    go_enter Tryz.func69, Tryz.ntmps69
    go_wp2_with fail
    clear hw5
    go_quiet (fail)
    go_wp2_with fail
    refine (HM.out _ n ((Touch.refl _ _).drewN _) (HI5.out.keep ((Touch.refl _ _).drewN _))).mono ?_
    intro e w' hG
    have HG := Lib.hid (hG.from (HT5.out.drewN _) (Nat.le_refl _))
    rcases hG.ends with rfl | ⟨bb, rfl⟩
    · refine ⟨rfl, ?_⟩
      rw [HR.out]
      exact HG.out
    · clear hG
      go_wp2_with fail
      go_ret
      rw [HR.out]
      exact HG.out
  · have hd : decide (made < least) = false := by simp; omega
    cases lazy with
    | true =>
      obtain rfl : how = 1 := by rcases hhow with h | h; · exact h
                                 · exact absurd h.2 (by decide)
      clear hhow
      obtain ⟨q, hq⟩ : ∃ q, k at' n g = q := ⟨_, rfl⟩
      have HR : Hid (times (run (str c.s) c.B y) least most true (fuel + 1) made at' k n g = orElse q (moreR (run (str c.s) c.B y) least most true fuel made at' k g)) := Lib.hid (by rw [times_succ, if_neg hlt, ← hq]; rfl)
      have HK2 : Hid (∀ (w' : World), Touch (SS c be) w5 w' → Inv c be n g w' → Calls Tryz.prog f (#[.int .i64 (at' : Int)] ++ cp) w' (Got c be w' at' g q)) := Lib.hid (fun w' t hI' => by rw [← hq]; exact HKK.out w' n t hI')
      clear hq HKK
      go_enter Tryz.func69, Tryz.ntmps69
      go_wp2_with fail
      clear hw5
      go_quiet (fail)
      go_wp2_with fail
      refine (HK2.out _ ((Touch.refl _ _).drewN _) (HI5.out.keep ((Touch.refl _ _).drewN _))).mono ?_
      intro e w6 hG
      cases q with
      | over =>
        obtain ⟨rfl, ht⟩ := hG
        refine ⟨rfl, ?_⟩
        rw [HR.out]
        exact ⟨rfl, (HT5.out.drewN _).then ht⟩
      | yes n3 h3' x3 =>
        obtain ⟨rfl, hI3, hH3, hlo3, hsz3, ht⟩ := hG
        have HI8 := Lib.hid hI3
        have HH8 := Lib.hid hH3
        have HT8 := Lib.hid ((HT5.out.drewN _).then ht)
        clear hI3 hH3 ht
        go_wp2_with fail
        go_ret
        rw [HR.out]
        exact ⟨rfl, HI8.out, HH8.out, hlo3, hsz3, HT8.out⟩
      | no n3 =>
        obtain ⟨rfl, hI8, ht⟩ := hG
        have HC := Lib.hid (HM.out w6 n3 (((Touch.refl _ _).drewN _).then ht) hI8)
        have HT6 := Lib.hid ((HT5.out.drewN _).then ht)
        clear hI8 ht
        go_wp2_with fail
        refine HC.out.mono ?_
        intro e w' hG
        have HG := Lib.hid (hG.from HT6.out (Nat.le_refl _))
        rcases hG.ends with rfl | ⟨bb, rfl⟩
        · refine ⟨rfl, ?_⟩
          rw [HR.out]
          exact HG.out
        · clear hG
          go_wp2_with fail
          go_ret
          rw [HR.out]
          exact HG.out
    | false =>
      have hh1 : (how == 1) = false := by rcases hhow with h | h; · rw [h]; rfl
                                          · rw [h.1]; rfl
      clear hhow
      obtain ⟨q, hq⟩ : ∃ q, moreR (run (str c.s) c.B y) least most false fuel made at' k g n = q := ⟨_, rfl⟩
      have HR : Hid (times (run (str c.s) c.B y) least most false (fuel + 1) made at' k n g = orElse q (fun n => k at' n g)) := Lib.hid (by rw [times_succ, if_neg hlt, ← hq]; rfl)
      have HM2 := Lib.hid (fun (w' : World) t hI' => HM.out w' n t hI')
      rw [hq] at HM2
      clear hq HM
      go_enter Tryz.func69, Tryz.ntmps69
      go_wp2_with fail
      clear hw5
      go_quiet (fail)
      go_wp2_with fail
      refine (HM2.out _ ((Touch.refl _ _).drewN _) (HI5.out.keep ((Touch.refl _ _).drewN _))).mono ?_
      intro e w6 hG
      cases q with
      | over =>
        obtain ⟨rfl, ht⟩ := hG
        refine ⟨rfl, ?_⟩
        rw [HR.out]
        exact ⟨rfl, (HT5.out.drewN _).then ht⟩
      | yes n3 h3' x3 =>
        obtain ⟨rfl, hI3, hH3, hlo3, hsz3, ht⟩ := hG
        have HI8 := Lib.hid hI3
        have HH8 := Lib.hid hH3
        have HT8 := Lib.hid ((HT5.out.drewN _).then ht)
        clear hI3 hH3 ht
        go_wp2_with fail
        go_ret
        rw [HR.out]
        exact ⟨rfl, HI8.out, HH8.out, hlo3, hsz3, HT8.out⟩
      | no n3 =>
        obtain ⟨rfl, hI8, ht⟩ := hG
        have k8 := ht.has k8 HS3.out
        have k9 := ht.has k9 HS4.out
        have HC := Lib.hid (HKK.out w6 n3 (((Touch.refl _ _).drewN _).then ht) hI8)
        have HT6 := Lib.hid ((HT5.out.drewN _).then ht)
        clear hI8 ht
        go_wp2_with fail
        refine HC.out.mono ?_
        intro e w' hG
        have HG := Lib.hid (hG.from HT6.out (Nat.le_refl _))
        rcases hG.ends with rfl | ⟨bb, rfl⟩
        · refine ⟨rfl, ?_⟩
          rw [HR.out]
          exact HG.out
        · clear hG
          go_wp2_with fail
          go_ret
          rw [HR.out]
          exact HG.out

theorem times_any (c : Cx) (y : Re) (b : Nat) (of : Value) (num : Int) (wa : Option Addr) (wl wc : Nat) (kid : Value) (least : Nat) (most how : Int) (lazy : Bool)
    (hN : NodeC (fun b => b ≠ c.bm) c.wT b 12 of num wa wl wc kid (least : Int) most how) (hkid : (trd c y).node kid) (hNode : NodeOK c y) (hl100 : least ≤ 100) (hhow : (how = if lazy then 1 else 0) ∨ (how = 2 ∧ lazy = false)) : ∀ fuel, TimesOK c y b least most lazy fuel := by
  intro fuel
  induction fuel with
  | zero => intro be made at' kv k n g w hm hmf hI ha hk; omega
  | succ fuel ih => exact times_step c y b of num wa wl wc kid least most how lazy hN hkid hNode hl100 hhow fuel ih
end Go.Proofs.YtlgpilcjcomacaaGreat

/-
  The program's node at repeats, atomic parts, looks ahead; every tree is tried as it should be.
-/
namespace Go.Proofs.YtlgpilcjcomacaaGreat
open Go.RowKit Rx
set_option linter.unusedVariables false

theorem enters_node2 (args : Array Value) (w : World) : (callFunc 68 args).run Tryz.prog w = .ok (.enter 68 args) w :=
  enters_of Tryz.func68 (by kernel_rfl) rfl args w
theorem node2_any (c : Cx) (y : Re) (b least : Nat) (most : Int) (at' : Nat) (hT : TimesOK c y b least most false (least + c.s.size + 2 - at')) (hl : least ≤ 100) (hsz : c.s.size ≤ 5000) (ha : at' ≤ c.s.size) (vm vn va : Nat) (w0 : World)
    (h1 : w0.cell? ⟨vm, 0, none⟩ = some (.pointer (some ⟨c.bm, 0, none⟩))) (h2 : w0.cell? ⟨vn, 0, none⟩ = some (.pointer (some ⟨b, 0, none⟩))) (h3 : w0.cell? ⟨va, 0, none⟩ = some (.int .i64 (at' : Int)))
    (s1 : ¬ S2 c vm) (s2 : ¬ S2 c vn) (s3 : ¬ S2 c va) :
    TryOK c (.func (.func 68) #[] #[.pointer (some ⟨vm, 0, none⟩), .pointer (some ⟨vn, 0, none⟩), .pointer (some ⟨va, 0, none⟩)]) (fun k n g => times (run (str c.s) c.B y) least most false (least + c.s.size + 2 - at') 0 at' k n g) at' w0 := by
  refine ⟨_, _, rfl, enters_node2, fun w be n g kv k t hbe hI hk => ?_⟩
  have k1 := t.has h1 s1
  have k2 := t.has h2 s2
  have k3 := t.has h3 s3
  have HW := Lib.hid (hT be 0 at' kv k n g w (by omega) (by omega) hI ha hk)
  clear h1 h2 h3 hI hk t hT
  show Calls Tryz.prog 68 #[kv, .pointer (some ⟨vm, 0, none⟩), .pointer (some ⟨vn, 0, none⟩), .pointer (some ⟨va, 0, none⟩)] w _
  go_enter Tryz.func68, Tryz.ntmps68
  go_wp2_with fail
  refine HW.out.mono ?_
  intro e w' hG
  have HG := Lib.hid hG
  rcases hG.ends with rfl | ⟨b, rfl⟩
  · exact ⟨rfl, HG.out⟩
  · clear hG
    go_wp2_with fail
    go_ret
    exact HG.out

set_option maxRecDepth 100000 in
set_option maxHeartbeats 1000000 in
theorem node_rep (c : Cx) (y : Re) (hNode : NodeOK c y) (be b : Nat) (of : Value) (num : Int) (wa : Option Addr) (wl wc : Nat) (kid : Value) (least : Nat) (most how : Int) (lazy : Bool) (hhow : how = if lazy then 1 else 0) (hl : least ≤ 100) (at' : Nat) (kv : Value) (k : K) (n : Nat) (g : Grp) (w : World)
    (hN : NodeC (fun b => b ≠ c.bm) c.wT b 12 of num wa wl wc kid (least : Int) most how) (hkid : (trd c y).node kid) (hI : Inv c be n g w) (ha : at' ≤ c.s.size) (hk : KOK c be kv k at' w) :
    Calls Tryz.prog 49 #[.pointer (some ⟨c.bm, 0, none⟩), .pointer (some ⟨b, 0, none⟩), .int .i64 (at' : Int), kv] w (Got c be w at' g (run (str c.s) c.B (.rep y least most lazy) at' k n g)) := by
  have hsz := hI.sz
  have hk0 := hk
  obtain ⟨f, cp, rfl, en, -⟩ := hk0
  obtain ⟨w4, hw4⟩ : ∃ w4, (((w.alloc (.cells #[.pointer (some ⟨c.bm, 0, none⟩)] 63)).alloc (.cells #[.pointer (some ⟨b, 0, none⟩)] 60)).alloc (.cells #[.int .i64 (at' : Int)] 3)).alloc (.cells #[.func (.func f) #[] cp] 118) = w4 := ⟨_, rfl⟩
  have T4 : Still w w4 := by rw [← hw4]; exact ((((Touch.refl _ _).alloc _).alloc _).alloc _).alloc _
  have k4 : w4.cell? ⟨w.heap.size, 0, none⟩ = some (.pointer (some ⟨c.bm, 0, none⟩)) := by rw [← hw4]; simp [go_sem]
  have k5 : w4.cell? ⟨w.heap.size + 1, 0, none⟩ = some (.pointer (some ⟨b, 0, none⟩)) := by rw [← hw4]; simp [go_sem]
  have k6 : w4.cell? ⟨w.heap.size + 1 + 1, 0, none⟩ = some (.int .i64 (at' : Int)) := by rw [← hw4]; simp [go_sem]
  have k7 : w4.cell? ⟨w.heap.size + 1 + 1 + 1, 0, none⟩ = some (.func (.func f) #[] cp) := by rw [← hw4]; simp [go_sem]
  have hz4 : w4.heap.size = w.heap.size + 1 + 1 + 1 + 1 := by rw [← hw4]; simp
  have s0 := hI.ss (b := w.heap.size) (Nat.le_refl _)
  have s1 := hI.ss (b := w.heap.size + 1) (by omega)
  have s2 := hI.ss (b := w.heap.size + 1 + 1) (by omega)
  have s3 := hI.ss (b := w.heap.size + 1 + 1 + 1) (by omega)
  have HI4 := Lib.hid (hI.keep T4)
  have HT4 : Hid (Touch (SS c be) w w4) := Lib.hid T4.ss
  have HS0 := Lib.hid s0; have HS1 := Lib.hid s1; have HS2 := Lib.hid s2; have HS3 := Lib.hid s3
  have HZ4 := Lib.hid hz4
  have kd := HI4.out.tree hN.c0 hN.fb
  have HN := Lib.hid hN
  have HK := Lib.hid hk
  have hnB := hI.nB
  have hB := hI.lB
  clear hI hk hN T4 s0 s1 s2 s3 hz4
  have HW := Lib.hid (times_any c y b of num wa wl wc kid least most how lazy HN.out hkid hNode hl (.inl hhow) (least + c.s.size + 2 - at') be 0 at' _ k n g w4 (by omega) (by omega) HI4.out ha (HK.out.later HT4.out (Nat.le_refl _)))
  have HR : Hid (run (str c.s) c.B (.rep y least most lazy) at' k n g = times (run (str c.s) c.B y) least most lazy (least + c.s.size + 2 - at') 0 at' k n g) := Lib.hid (by
    show times _ least most lazy (least + (str c.s).length + 2 - at') 0 at' k n g = _
    rw [str_len])
  have kd7 := HI4.out.tree HN.out.c7 HN.out.fb
  have hh2 : (how == 2) = false := by rw [hhow]; cases lazy <;> rfl
  clear hNode hhow
  go_enter Tryz.func49, Tryz.ntmps49
  go_wp2_with fail
  clear hw4
  refine HW.out.mono ?_
  intro e w' hG
  have HG := Lib.hid (hG.from HT4.out (Nat.le_refl _))
  rcases hG.ends with rfl | ⟨bb, rfl⟩
  · refine ⟨rfl, ?_⟩
    rw [HR.out]
    exact HG.out
  · clear hG
    go_wp2_with fail
    go_ret
    rw [HR.out]
    exact HG.out

set_option maxRecDepth 100000 in
set_option maxHeartbeats 1000000 in
theorem node_poss (c : Cx) (y : Re) (hNode : NodeOK c y) (be b : Nat) (of : Value) (num : Int) (wa : Option Addr) (wl wc : Nat) (kid : Value) (least : Nat) (most how : Int) (hhow : how = 2) (hl : least ≤ 100) (at' : Nat) (kv : Value) (k : K) (n : Nat) (g : Grp) (w : World)
    (hN : NodeC (fun b => b ≠ c.bm) c.wT b 12 of num wa wl wc kid (least : Int) most how) (hkid : (trd c y).node kid) (hI : Inv c be n g w) (ha : at' ≤ c.s.size) (hk : KOK c be kv k at' w) :
    Calls Tryz.prog 49 #[.pointer (some ⟨c.bm, 0, none⟩), .pointer (some ⟨b, 0, none⟩), .int .i64 (at' : Int), kv] w (Got c be w at' g (run (str c.s) c.B (.poss y least most) at' k n g)) := by
  have hsz := hI.sz
  have hk0 := hk
  obtain ⟨f, cp, rfl, en, -⟩ := hk0
  obtain ⟨w4, hw4⟩ : ∃ w4, (((w.alloc (.cells #[.pointer (some ⟨c.bm, 0, none⟩)] 63)).alloc (.cells #[.pointer (some ⟨b, 0, none⟩)] 60)).alloc (.cells #[.int .i64 (at' : Int)] 3)).alloc (.cells #[.func (.func f) #[] cp] 118) = w4 := ⟨_, rfl⟩
  have T4 : Still w w4 := by rw [← hw4]; exact ((((Touch.refl _ _).alloc _).alloc _).alloc _).alloc _
  have k4 : w4.cell? ⟨w.heap.size, 0, none⟩ = some (.pointer (some ⟨c.bm, 0, none⟩)) := by rw [← hw4]; simp [go_sem]
  have k5 : w4.cell? ⟨w.heap.size + 1, 0, none⟩ = some (.pointer (some ⟨b, 0, none⟩)) := by rw [← hw4]; simp [go_sem]
  have k6 : w4.cell? ⟨w.heap.size + 1 + 1, 0, none⟩ = some (.int .i64 (at' : Int)) := by rw [← hw4]; simp [go_sem]
  have k7 : w4.cell? ⟨w.heap.size + 1 + 1 + 1, 0, none⟩ = some (.func (.func f) #[] cp) := by rw [← hw4]; simp [go_sem]
  have hz4 : w4.heap.size = w.heap.size + 1 + 1 + 1 + 1 := by rw [← hw4]; simp
  have s0 := hI.ss (b := w.heap.size) (Nat.le_refl _)
  have s1 := hI.ss (b := w.heap.size + 1) (by omega)
  have s2 := hI.ss (b := w.heap.size + 1 + 1) (by omega)
  have s3 := hI.ss (b := w.heap.size + 1 + 1 + 1) (by omega)
  have HI4 := Lib.hid (hI.keep T4)
  have HT4 : Hid (Touch (SS c be) w w4) := Lib.hid T4.ss
  have HS0 := Lib.hid s0; have HS1 := Lib.hid s1; have HS2 := Lib.hid s2; have HS3 := Lib.hid s3
  have HZ4 := Lib.hid hz4
  have kd := HI4.out.tree hN.c0 hN.fb
  have HN := Lib.hid hN
  have HK := Lib.hid hk
  have hnB := hI.nB
  have hB := hI.lB
  clear hI hk hN T4 s0 s1 s2 s3 hz4
  have d0 : ¬ S2 c w.heap.size := fun e => HS0.out (e.elim .inl (fun e => .inr (.inl e)))
  have d1 : ¬ S2 c (w.heap.size + 1) := fun e => HS1.out (e.elim .inl (fun e => .inr (.inl e)))
  have d2 : ¬ S2 c (w.heap.size + 1 + 1) := fun e => HS2.out (e.elim .inl (fun e => .inr (.inl e)))
  have HW := Lib.hid (alone_any c be _ _ at' _ k n g w4 (node2_any c y b least most at' (times_any c y b of num wa wl wc kid least most how false HN.out hkid hNode hl (.inr ⟨hhow, rfl⟩) _) hl hsz ha _ _ _ w4 k4 k5 k6 d0 d1 d2) HI4.out (HK.out.later HT4.out (Nat.le_refl _)))
  have HR : Hid (run (str c.s) c.B (.poss y least most) at' k n g = alone (times (run (str c.s) c.B y) least most false (least + c.s.size + 2 - at') 0 at' K0 n g) k) := Lib.hid (by
    show alone (times _ least most false (least + (str c.s).length + 2 - at') 0 at' K0 n g) k = _
    rw [str_len])
  have kd7 := HI4.out.tree HN.out.c7 HN.out.fb
  subst hhow
  clear hNode d0 d1 d2
  go_enter Tryz.func49, Tryz.ntmps49
  go_wp2_with fail
  clear hw4
  refine HW.out.mono ?_
  intro e w' hG
  have HG := Lib.hid (hG.from HT4.out (Nat.le_refl _))
  rcases hG.ends with rfl | ⟨bb, rfl⟩
  · refine ⟨rfl, ?_⟩
    rw [HR.out]
    exact HG.out
  · clear hG
    go_wp2_with fail
    go_ret
    rw [HR.out]
    exact HG.out

set_option maxRecDepth 100000 in
set_option maxHeartbeats 1000000 in
theorem node_atom (c : Cx) (y : Re) (hW : WaysOK c y) (be b : Nat) (of : Value) (num : Int) (wa : Option Addr) (wl wc : Nat) (kid : Value) (least most how : Int)  (at' : Nat) (kv : Value) (k : K) (n : Nat) (g : Grp) (w : World)
    (hN : NodeC (fun b => b ≠ c.bm) c.wT b 11 of num wa wl wc kid least most how) (hx : (trd c y).ways wa wl) (hl : wl ≤ wc) (hI : Inv c be n g w) (ha : at' ≤ c.s.size) (hk : KOK c be kv k at' w) :
    Calls Tryz.prog 49 #[.pointer (some ⟨c.bm, 0, none⟩), .pointer (some ⟨b, 0, none⟩), .int .i64 (at' : Int), kv] w (Got c be w at' g (run (str c.s) c.B (.atom y) at' k n g)) := by
  have hsz := hI.sz
  have hk0 := hk
  obtain ⟨f, cp, rfl, en, -⟩ := hk0
  obtain ⟨w4, hw4⟩ : ∃ w4, (((w.alloc (.cells #[.pointer (some ⟨c.bm, 0, none⟩)] 63)).alloc (.cells #[.pointer (some ⟨b, 0, none⟩)] 60)).alloc (.cells #[.int .i64 (at' : Int)] 3)).alloc (.cells #[.func (.func f) #[] cp] 118) = w4 := ⟨_, rfl⟩
  have T4 : Still w w4 := by rw [← hw4]; exact ((((Touch.refl _ _).alloc _).alloc _).alloc _).alloc _
  have k4 : w4.cell? ⟨w.heap.size, 0, none⟩ = some (.pointer (some ⟨c.bm, 0, none⟩)) := by rw [← hw4]; simp [go_sem]
  have k5 : w4.cell? ⟨w.heap.size + 1, 0, none⟩ = some (.pointer (some ⟨b, 0, none⟩)) := by rw [← hw4]; simp [go_sem]
  have k6 : w4.cell? ⟨w.heap.size + 1 + 1, 0, none⟩ = some (.int .i64 (at' : Int)) := by rw [← hw4]; simp [go_sem]
  have k7 : w4.cell? ⟨w.heap.size + 1 + 1 + 1, 0, none⟩ = some (.func (.func f) #[] cp) := by rw [← hw4]; simp [go_sem]
  have hz4 : w4.heap.size = w.heap.size + 1 + 1 + 1 + 1 := by rw [← hw4]; simp
  have s0 := hI.ss (b := w.heap.size) (Nat.le_refl _)
  have s1 := hI.ss (b := w.heap.size + 1) (by omega)
  have s2 := hI.ss (b := w.heap.size + 1 + 1) (by omega)
  have s3 := hI.ss (b := w.heap.size + 1 + 1 + 1) (by omega)
  have HI4 := Lib.hid (hI.keep T4)
  have HT4 : Hid (Touch (SS c be) w w4) := Lib.hid T4.ss
  have HS0 := Lib.hid s0; have HS1 := Lib.hid s1; have HS2 := Lib.hid s2; have HS3 := Lib.hid s3
  have HZ4 := Lib.hid hz4
  have kd := HI4.out.tree hN.c0 hN.fb
  have HN := Lib.hid hN
  have HK := Lib.hid hk
  have hnB := hI.nB
  have hB := hI.lB
  clear hI hk hN T4 s0 s1 s2 s3 hz4
  have d0 : ¬ S2 c w.heap.size := fun e => HS0.out (e.elim .inl (fun e => .inr (.inl e)))
  have d1 : ¬ S2 c (w.heap.size + 1) := fun e => HS1.out (e.elim .inl (fun e => .inr (.inl e)))
  have d2 : ¬ S2 c (w.heap.size + 1 + 1) := fun e => HS2.out (e.elim .inl (fun e => .inr (.inl e)))
  have HW := Lib.hid (alone_any c be _ _ at' _ k n g w4 (node3_any c y hW b wa wl wc at' HN.out.fb HN.out.c3 hx hl ha _ _ _ w4 k4 k5 k6 d0 d1 d2) HI4.out (HK.out.later HT4.out (Nat.le_refl _)))
  have HR : Hid (run (str c.s) c.B (.atom y) at' k n g = alone (run (str c.s) c.B y at' K0 n g) k) := Lib.hid rfl
  clear hW d0 d1 d2
  go_enter Tryz.func49, Tryz.ntmps49
  go_wp2_with fail
  clear hw4
  refine HW.out.mono ?_
  intro e w' hG
  have HG := Lib.hid (hG.from HT4.out (Nat.le_refl _))
  rcases hG.ends with rfl | ⟨bb, rfl⟩
  · refine ⟨rfl, ?_⟩
    rw [HR.out]
    exact HG.out
  · clear hG
    go_wp2_with fail
    go_ret
    rw [HR.out]
    exact HG.out

set_option maxRecDepth 100000 in
set_option maxHeartbeats 1000000 in
theorem node_not (c : Cx) (y : Re) (hW : WaysOK c y) (be b : Nat) (of : Value) (num : Int) (wa : Option Addr) (wl wc : Nat) (kid : Value) (least most how : Int)  (at' : Nat) (kv : Value) (k : K) (n : Nat) (g : Grp) (w : World)
    (hN : NodeC (fun b => b ≠ c.bm) c.wT b 10 of num wa wl wc kid least most how) (hx : (trd c y).ways wa wl) (hl : wl ≤ wc) (hI : Inv c be n g w) (ha : at' ≤ c.s.size) (hk : KOK c be kv k at' w) :
    Calls Tryz.prog 49 #[.pointer (some ⟨c.bm, 0, none⟩), .pointer (some ⟨b, 0, none⟩), .int .i64 (at' : Int), kv] w (Got c be w at' g (run (str c.s) c.B (.look true y) at' k n g)) := by
  have hsz := hI.sz
  have hk0 := hk
  obtain ⟨f, cp, rfl, en, -⟩ := hk0
  obtain ⟨w4, hw4⟩ : ∃ w4, (((w.alloc (.cells #[.pointer (some ⟨c.bm, 0, none⟩)] 63)).alloc (.cells #[.pointer (some ⟨b, 0, none⟩)] 60)).alloc (.cells #[.int .i64 (at' : Int)] 3)).alloc (.cells #[.func (.func f) #[] cp] 118) = w4 := ⟨_, rfl⟩
  have T4 : Still w w4 := by rw [← hw4]; exact ((((Touch.refl _ _).alloc _).alloc _).alloc _).alloc _
  have k4 : w4.cell? ⟨w.heap.size, 0, none⟩ = some (.pointer (some ⟨c.bm, 0, none⟩)) := by rw [← hw4]; simp [go_sem]
  have k5 : w4.cell? ⟨w.heap.size + 1, 0, none⟩ = some (.pointer (some ⟨b, 0, none⟩)) := by rw [← hw4]; simp [go_sem]
  have k6 : w4.cell? ⟨w.heap.size + 1 + 1, 0, none⟩ = some (.int .i64 (at' : Int)) := by rw [← hw4]; simp [go_sem]
  have k7 : w4.cell? ⟨w.heap.size + 1 + 1 + 1, 0, none⟩ = some (.func (.func f) #[] cp) := by rw [← hw4]; simp [go_sem]
  have hz4 : w4.heap.size = w.heap.size + 1 + 1 + 1 + 1 := by rw [← hw4]; simp
  have s0 := hI.ss (b := w.heap.size) (Nat.le_refl _)
  have s1 := hI.ss (b := w.heap.size + 1) (by omega)
  have s2 := hI.ss (b := w.heap.size + 1 + 1) (by omega)
  have s3 := hI.ss (b := w.heap.size + 1 + 1 + 1) (by omega)
  have HI4 := Lib.hid (hI.keep T4)
  have HT4 : Hid (Touch (SS c be) w w4) := Lib.hid T4.ss
  have HS0 := Lib.hid s0; have HS1 := Lib.hid s1; have HS2 := Lib.hid s2; have HS3 := Lib.hid s3
  have HZ4 := Lib.hid hz4
  have kd := HI4.out.tree hN.c0 hN.fb
  have HN := Lib.hid hN
  have HK := Lib.hid hk
  have hnB := hI.nB
  have hB := hI.lB
  clear hI hk hN T4 s0 s1 s2 s3 hz4
  have HW := Lib.hid (look_not c y hW be b of num wa wl wc kid least most how at' _ k n g w4 HN.out hx hl HI4.out ha (HK.out.later HT4.out (Nat.le_refl _)))
  clear hW
  go_enter Tryz.func49, Tryz.ntmps49
  go_wp2_with fail
  clear hw4
  refine HW.out.mono ?_
  intro e w' hG
  have HG := Lib.hid (hG.from HT4.out (Nat.le_refl _))
  rcases hG.ends with rfl | ⟨bb, rfl⟩
  · refine ⟨rfl, ?_⟩
    exact HG.out
  · clear hG
    go_wp2_with fail
    go_ret
    exact HG.out

set_option maxRecDepth 100000 in
set_option maxHeartbeats 1000000 in
theorem node_look (c : Cx) (y : Re) (hW : WaysOK c y) (be b : Nat) (of : Value) (num : Int) (wa : Option Addr) (wl wc : Nat) (kid : Value) (least most how : Int)  (at' : Nat) (kv : Value) (k : K) (n : Nat) (g : Grp) (w : World)
    (hN : NodeC (fun b => b ≠ c.bm) c.wT b 9 of num wa wl wc kid least most how) (hx : (trd c y).ways wa wl) (hl : wl ≤ wc) (hI : Inv c be n g w) (ha : at' ≤ c.s.size) (hk : KOK c be kv k at' w) :
    Calls Tryz.prog 49 #[.pointer (some ⟨c.bm, 0, none⟩), .pointer (some ⟨b, 0, none⟩), .int .i64 (at' : Int), kv] w (Got c be w at' g (run (str c.s) c.B (.look false y) at' k n g)) := by
  have hsz := hI.sz
  have hk0 := hk
  obtain ⟨f, cp, rfl, en, -⟩ := hk0
  obtain ⟨w4, hw4⟩ : ∃ w4, (((w.alloc (.cells #[.pointer (some ⟨c.bm, 0, none⟩)] 63)).alloc (.cells #[.pointer (some ⟨b, 0, none⟩)] 60)).alloc (.cells #[.int .i64 (at' : Int)] 3)).alloc (.cells #[.func (.func f) #[] cp] 118) = w4 := ⟨_, rfl⟩
  have T4 : Still w w4 := by rw [← hw4]; exact ((((Touch.refl _ _).alloc _).alloc _).alloc _).alloc _
  have k4 : w4.cell? ⟨w.heap.size, 0, none⟩ = some (.pointer (some ⟨c.bm, 0, none⟩)) := by rw [← hw4]; simp [go_sem]
  have k5 : w4.cell? ⟨w.heap.size + 1, 0, none⟩ = some (.pointer (some ⟨b, 0, none⟩)) := by rw [← hw4]; simp [go_sem]
  have k6 : w4.cell? ⟨w.heap.size + 1 + 1, 0, none⟩ = some (.int .i64 (at' : Int)) := by rw [← hw4]; simp [go_sem]
  have k7 : w4.cell? ⟨w.heap.size + 1 + 1 + 1, 0, none⟩ = some (.func (.func f) #[] cp) := by rw [← hw4]; simp [go_sem]
  have hz4 : w4.heap.size = w.heap.size + 1 + 1 + 1 + 1 := by rw [← hw4]; simp
  have s0 := hI.ss (b := w.heap.size) (Nat.le_refl _)
  have s1 := hI.ss (b := w.heap.size + 1) (by omega)
  have s2 := hI.ss (b := w.heap.size + 1 + 1) (by omega)
  have s3 := hI.ss (b := w.heap.size + 1 + 1 + 1) (by omega)
  have HI4 := Lib.hid (hI.keep T4)
  have HT4 : Hid (Touch (SS c be) w w4) := Lib.hid T4.ss
  have HS0 := Lib.hid s0; have HS1 := Lib.hid s1; have HS2 := Lib.hid s2; have HS3 := Lib.hid s3
  have HZ4 := Lib.hid hz4
  have kd := HI4.out.tree hN.c0 hN.fb
  have HN := Lib.hid hN
  have HK := Lib.hid hk
  have hnB := hI.nB
  have hB := hI.lB
  clear hI hk hN T4 s0 s1 s2 s3 hz4
  have HW := Lib.hid (look_yes c y hW be b of num wa wl wc kid least most how at' _ k n g w4 HN.out hx hl HI4.out ha (HK.out.later HT4.out (Nat.le_refl _)))
  clear hW
  go_enter Tryz.func49, Tryz.ntmps49
  go_wp2_with fail
  clear hw4
  refine HW.out.mono ?_
  intro e w' hG
  have HG := Lib.hid (hG.from HT4.out (Nat.le_refl _))
  rcases hG.ends with rfl | ⟨bb, rfl⟩
  · refine ⟨rfl, ?_⟩
    exact HG.out
  · clear hG
    go_wp2_with fail
    go_ret
    exact HG.out

theorem all_ok (c : Cx) : ∀ a, NodeOK c a ∧ RowOK c a ∧ AllRows c a := by
  intro a
  induction a with
  | set f =>
    refine ⟨?_, fun _ _ _ _ _ _ _ _ _ _ h => h.elim, trivial⟩
    intro be p at' kv k n g w hp hI ha hk
    obtain ⟨b, sb, num, wa, wl, wc, kid, least, most, how, rfl, hN, hsb, hset⟩ := hp
    exact node_set c f be b sb num wa wl wc kid least most how at' kv k n g w hN hsb hset hI ha hk
  | asr ka =>
    refine ⟨?_, fun _ _ _ _ _ _ _ _ _ _ h => h.elim, trivial⟩
    intro be p at' kv k n g w hp hI ha hk
    obtain ⟨b, of, num, wa, wl, wc, kid, least, most, how, rfl, hN, h1, h6⟩ := hp
    exact node_asr c ka h1 h6 be b of num wa wl wc kid least most how at' kv k n g w hN hI ha hk
  | bref m =>
    refine ⟨?_, fun _ _ _ _ _ _ _ _ _ _ h => h.elim, trivial⟩
    intro be p at' kv k n g w hp hI ha hk
    obtain ⟨b, of, wa, wl, wc, kid, least, most, how, rfl, hN, h1, hG⟩ := hp
    exact node_bref c m h1 hG be b of wa wl wc kid least most how at' kv k n g w hN hI ha hk
  | nil => exact ⟨fun _ _ _ _ _ _ _ _ h => h.elim, row_nil c, trivial⟩
  | cat x r ihx ihr => exact ⟨fun _ _ _ _ _ _ _ _ h => h.elim, row_cat c x r ihx.1 ihr.2.1, trivial⟩
  | none => exact ⟨fun _ _ _ _ _ _ _ _ h => h.elim, fun _ _ _ _ _ _ _ _ _ _ h => h.elim, trivial⟩
  | alt x r ihx ihr => exact ⟨fun _ _ _ _ _ _ _ _ h => h.elim, fun _ _ _ _ _ _ _ _ _ _ h => h.elim, ihx.2.1, ihr.2.2⟩
  | grp m x ih =>
    refine ⟨?_, fun _ _ _ _ _ _ _ _ _ _ h => h.elim, trivial⟩
    intro be p at' kv k n g w hp hI ha hk
    obtain ⟨b, of, wa, wl, wc, kid, least, most, how, rfl, hN, hG, hl, hx⟩ := hp
    by_cases h0 : m = 0
    · exact node_grp0 c x (ways_any c x ih.2.2) m h0 be b of wa wl wc kid least most how at' kv k n g w hN hx hl hI ha hk
    · exact node_grp c x (ways_any c x ih.2.2) m (by omega) hG be b of wa wl wc kid least most how at' kv k n g w hN hx hl hI ha hk
  | look neg x ih =>
    refine ⟨?_, fun _ _ _ _ _ _ _ _ _ _ h => h.elim, trivial⟩
    intro be p at' kv k n g w hp hI ha hk
    obtain ⟨b, of, num, wa, wl, wc, kid, least, most, how, rfl, hN, hl, hx⟩ := hp
    have hW := ways_any c x ih.2.2
    cases neg with
    | true => exact node_not c x hW be b of num wa wl wc kid least most how at' kv k n g w hN hx hl hI ha hk
    | false => exact node_look c x hW be b of num wa wl wc kid least most how at' kv k n g w hN hx hl hI ha hk
  | atom x ih =>
    refine ⟨?_, fun _ _ _ _ _ _ _ _ _ _ h => h.elim, trivial⟩
    intro be p at' kv k n g w hp hI ha hk
    obtain ⟨b, of, num, wa, wl, wc, kid, least, most, how, rfl, hN, hl, hx⟩ := hp
    exact node_atom c x (ways_any c x ih.2.2) be b of num wa wl wc kid least most how at' kv k n g w hN hx hl hI ha hk
  | rep x least most lazy ih =>
    refine ⟨?_, fun _ _ _ _ _ _ _ _ _ _ h => h.elim, trivial⟩
    intro be p at' kv k n g w hp hI ha hk
    obtain ⟨b, of, num, wa, wl, wc, kid, rfl, hN, hl, -, -, hx⟩ := hp
    exact node_rep c x ih.1 be b of num wa wl wc kid least most _ lazy rfl hl at' kv k n g w hN hx hI ha hk
  | poss x least most ih =>
    refine ⟨?_, fun _ _ _ _ _ _ _ _ _ _ h => h.elim, trivial⟩
    intro be p at' kv k n g w hp hI ha hk
    obtain ⟨b, of, num, wa, wl, wc, kid, rfl, hN, hl, -, -, hx⟩ := hp
    exact node_poss c x ih.1 be b of num wa wl wc kid least most 2 rfl hl at' kv k n g w hN hx hI ha hk
end Go.Proofs.YtlgpilcjcomacaaGreat

/-
  The program's clear and find.
-/
namespace Go.Proofs.YtlgpilcjcomacaaGreat
open Go.RowKit Rx
set_option linter.unusedVariables false

/-- A matcher before a try: whatever its groups. -/
structure MB (c : Cx) (n : Nat) (w : World) : Prop where
  c0 : w.cell? ⟨c.bm, 0, none⟩ = some (.string c.s)
  c1 : Holds w c.bm 1 (.int .i64 n)
  c2 : w.cell? ⟨c.bm, 2, none⟩ = some (.int .i64 c.B)
  c3 : ∃ v, Holds w c.bm 3 v
  nB : n ≤ c.B
  lB : c.B ≤ 1000000
  lG : c.G ≤ 9
  sz : c.s.size ≤ 5000
  tr : Touch (fun b => b = c.bm) c.wT w

theorem MB.keep {c : Cx} {n : Nat} {w w' : World} (h : MB c n w) (t : Still w w') : MB c n w' :=
  ⟨t.has h.c0 id, h.c1.keep t id, t.has h.c2 id, by obtain ⟨v, hv⟩ := h.c3; exact ⟨v, hv.keep t id⟩, h.nB, h.lB, h.lG, h.sz, h.tr.trans t (fun _ e => e.elim)⟩
theorem MB.ltm {c : Cx} {n : Nat} {w : World} (h : MB c n w) : c.bm < w.heap.size := h.c1.lt
theorem MB.of {c : Cx} {be n : Nat} {g : Grp} {w : World} {bg : Nat} (h : Inv { c with bg := bg } be n g w) : MB c n w :=
  ⟨h.c0, h.c1, h.c2, ⟨_, h.c3, h.f3⟩, h.nB, h.lB, h.lG, h.sz, h.tr⟩

theorem infoPair' : (Tryz.prog.info? 39).map (fun i => (i.zero, i.size, i.bytes)) = some (some (.agg #[.int .i64 0, .int .i64 0]), 2, 16) := by kernel_rfl

theorem heap_set2 {w : World} {b : Nat} {cur : List Value} {T : TypeId} (h : w.heap[b]? = some (.cells cur.toArray T (0, 0))) (i : Nat) (x y : Value) :
    ((w.setCell ⟨b, i, none⟩ x).setCell ⟨b, i + 1, none⟩ y).heap[b]? = some (.cells ((cur.set i x).set (i + 1) y).toArray T (0, 0)) := by
  rw [setCell_eq_setRow w b i _ T (0, 0) _ h]
  have h1 := setRow_heap w b _ (cur.toArray.setIfInBounds i x) T (0, 0) h
  rw [setCell_eq_setRow _ b (i + 1) _ T (0, 0) _ h1, setRow_heap _ b _ _ T (0, 0) h1]
  simp

/-- So many of the groups are cleared. -/
def Cleared (G i : Nat) (cur : List Value) : Prop := cur.length = 2 * (G + 1) ∧ ∀ j, j < 2 * i → cur[j]? = some (.int .i64 (-1))
theorem Cleared.next {G i : Nat} {cur : List Value} (h : Cleared G i cur) (hi : i < G + 1) : Cleared G (i + 1) ((cur.set (i * 2) (.int .i64 (-1))).set (i * 2 + 1) (.int .i64 (-1))) := by
  refine ⟨by simp [h.1], fun j hj => ?_⟩
  rw [List.getElem?_set, List.getElem?_set]
  by_cases h1 : i * 2 + 1 = j
  · rw [if_pos h1, if_pos (by rw [List.length_set, h.1]; omega)]
  · rw [if_neg h1]
    by_cases h0 : i * 2 = j
    · rw [if_pos h0, if_pos (by rw [h.1]; omega)]
    · rw [if_neg h0]
      exact h.2 j (by omega)
theorem Cleared.all {G : Nat} {cur : List Value} (h : Cleared G (G + 1) cur) : cur = gl G g0 := by
  apply List.ext_getElem?
  intro j
  by_cases hj : j < 2 * (G + 1)
  · rw [h.2 j hj, gl_get G g0 j hj]
    unfold gv g0
    split <;> rfl
  · rw [List.getElem?_eq_none (by rw [h.1]; omega), List.getElem?_eq_none (by rw [gl_length]; omega)]

set_option maxRecDepth 100000 in
set_option maxHeartbeats 1000000 in
/-- The groups are new, and empty. -/
theorem clear_any (c : Cx) (n : Nat) (w : World) (h : MB c n w) :
    Calls Tryz.prog 46 #[.pointer (some ⟨c.bm, 0, none⟩), .int .i64 (c.G : Int)] w fun e w' => e = .returned (.tuple #[]) ∧ MB c n w' ∧ w'.cell? ⟨c.bm, 3, none⟩ = some (.slice (some ⟨w.heap.size, 0, none⟩) (c.G + 1) (c.G + 1)) ∧ w'.heap[w.heap.size]? = some (.cells (gl c.G g0).toArray 39 (0, 0)) ∧ Touch (fun b => b = c.bm) w w' := by
  obtain ⟨i0, hi, hz0, hz1, hz2⟩ := info_parts infoPair'
  have HI := Lib.hid hi; clear hi
  obtain ⟨v3, h3⟩ := h.c3
  have hlm := h.ltm
  have hlG := h.lG
  have HH := Lib.hid h
  have hw1 := IntWalk.i64_in ((c.G : Int) + 1) (by omega)
  have HK : Hid ((c.G : Int) + 1 = ((c.G + 1 : Nat) : Int)) := Lib.hid rfl
  obtain ⟨h3c, h3f⟩ := h3
  clear h
  go_enter Tryz.func46, Tryz.ntmps46
  go_wp2_with (at_make; (refine wpList_make_full _ rfl (.tmp 7) (.tmp 7) 32 rfl w.heap.size 39 i0 (.agg #[.int .i64 0, .int .i64 0]) 2 Tryz.underlying32 HI.out hz0 hz1 .i64 .i64 _ _ (c.G + 1) rfl rfl HK.out HK.out (by rw [hz2]; omega) (by unfold maxLen; omega) (Nat.le_refl _) ?_); intro w1 hown hgr; have HOWN := Lib.hid hown; have t1 : Still w w1 := ⟨hgr.os, hgr.tape, hgr.output, hgr.size, fun k hk _ => hgr.block k hk (by simp)⟩; have HT1 := Lib.hid t1; have h3c := t1.has h3c id; have h3f := (t1.frozen (p := ⟨c.bm, 3, none⟩) hlm id).trans h3f; clear hown hgr t1)
  have hrow : ∃ cur : List Value, w1.heap[w.heap.size]? = some (.cells cur.toArray 39 (0, 0)) ∧ cur.length = 2 * (c.G + 1) := by
    rcases HOWN.out.2 with ⟨h, -⟩ | ⟨g, cap, cur, h, -, hb, -, -, hsz, -⟩
    · cases h
    · cases h
      exact ⟨cur.toList, by simpa using hb, by simpa [Nat.mul_comm] using hsz⟩
  obtain ⟨cur0, hb1, hl0⟩ := hrow
  have hn2 : c.bm ≠ w.heap.size := by omega
  obtain ⟨w2, hw2⟩ : ∃ w2, w1.setCell ⟨c.bm, 3, none⟩ (.slice (some ⟨w.heap.size, 0, none⟩) (c.G + 1) (c.G + 1)) = w2 := ⟨_, rfl⟩
  have hm2 : Holds w2 c.bm 3 (.slice (some ⟨w.heap.size, 0, none⟩) (c.G + 1) (c.G + 1)) := by rw [← hw2]; exact Holds.set ⟨h3c, h3f⟩ _
  have T2 : Touch (fun b => b = c.bm) w w2 := by rw [← hw2]; exact Touch.setCell (S := fun b => b = c.bm) (HT1.out.mono (fun _ _ e => e.elim)) (.inl rfl) _
  have hb2 : w2.heap[w.heap.size]? = some (.cells cur0.toArray 39 (0, 0)) := by rw [← hw2]; exact (Below.heap_setCell w1 _ _ _ (Ne.symm hn2)).trans hb1
  have hMB2 : MB c n w2 := by
    have h1 := HH.out.keep HT1.out
    rw [← hw2]
    exact ⟨cell_set_other h1.c0 _ (.inr (by simp)), h1.c1.set_other _ (.inr (by simp)), cell_set_other h1.c2 _ (.inr (by simp)), ⟨_, Holds.set ⟨h3c, h3f⟩ _⟩, h1.nB, h1.lB, h1.lG, h1.sz, Touch.setCell h1.tr (.inl rfl) _⟩
  have HM2 := Lib.hid hMB2; have HT2 := Lib.hid T2; have HB2 := Lib.hid hb2; have H32 := Lib.hid hm2
  have HL0 : Hid (Cleared c.G 0 cur0) := Lib.hid ⟨hl0, fun j hj => by omega⟩
  rw [hw2]
  clear hMB2 T2 hb2 hm2 hb1 hl0 HOWN hw2 h3c h3f HT1
  go_loopw [16] (fun ii wr => ∃ (j : Nat) (cur : List Value), ii = .int .i64 j ∧ j ≤ c.G + 1 ∧ Hid (wr.heap[w.heap.size]? = some (.cells cur.toArray 39 (0, 0))) ∧ Hid (Cleared c.G j cur) ∧ Hid (Touch (fun b => b = w.heap.size) w2 wr)) (fun ii _ => c.G + 1 - (intOf ii).toNat)
  case atStart => exact ⟨0, cur0, rfl, Nat.zero_le _, HB2, HL0, Lib.hid (Touch.refl _ _)⟩
  case round =>
    obtain ⟨j, cur, rfl, hj, HB, HC, HT⟩ := hrel
    by_cases hlt : j < c.G + 1
    · have h3 := HT.out.has H32.out.1 hn2
      have x0 : Holds wr w.heap.size (j * 2) (cur[j * 2]'(by rw [HC.out.1]; omega)) := holds_of_block HB.out (by rw [List.getElem?_eq_getElem])
      have x1 : Holds wr w.heap.size (j * 2 + 1) (cur[j * 2 + 1]'(by rw [HC.out.1]; omega)) := holds_of_block HB.out (by rw [List.getElem?_eq_getElem])
      obtain ⟨x0, xf0⟩ := x0
      obtain ⟨x1, xf1⟩ := x1
      generalize (cur[j * 2]'(by rw [HC.out.1]; omega)) = v0 at x0
      generalize (cur[j * 2 + 1]'(by rw [HC.out.1]; omega)) = v1 at x1
      have HB' := Lib.hid (heap_set2 HB.out (j * 2) (.int .i64 (-1)) (.int .i64 (-1)))
      have HC' := Lib.hid (HC.out.next hlt)
      have HT' : Hid (Touch (fun b => b = w.heap.size) w2 ((wr.setCell ⟨w.heap.size, j * 2, none⟩ (.int .i64 (-1))).setCell ⟨w.heap.size, j * 2 + 1, none⟩ (.int .i64 (-1)))) := Lib.hid (Touch.setCell (Touch.setCell HT.out (.inl rfl) _) (.inl rfl) _)
      go_wp2_with fail
      go_roundw
      case rel => exact ⟨j + 1, _, by go_num, by omega, HB', HC', HT'⟩
      case measure => simp [intOf]; omega
    · obtain rfl : j = c.G + 1 := by omega
      go_wp2_with fail
      go_end0
      have e1 := HC.out.all
      subst e1
      refine ⟨rfl, ?_, HT.out.has H32.out.1 hn2, HB.out, HT2.out.trans HT.out (fun i e => .inr (by omega))⟩
      have h2 := HM2.out
      have t := HT.out
      exact ⟨t.has h2.c0 hn2, h2.c1.keep t hn2, t.has h2.c2 hn2, ⟨_, H32.out.keep t hn2⟩, h2.nB, h2.lB, h2.lG, h2.sz, h2.tr.trans t (fun i e => .inr (by subst e; have := h2.tr.size; have h9 := HH.out.tr.size; exact h9))⟩

theorem enters_find1 (args : Array Value) (w : World) : (callFunc 48 args).run Tryz.prog w = .ok (.enter 48 args) w :=
  enters_of Tryz.func48 (by kernel_rfl) rfl args w
theorem find1_any (c : Cx) (a : Re) (p : Value) (hp : (trd c a).node p) (at' : Nat) (ha : at' ≤ c.s.size) (vm vn va : Nat) (w0 : World)
    (h1 : w0.cell? ⟨vm, 0, none⟩ = some (.pointer (some ⟨c.bm, 0, none⟩))) (h2 : w0.cell? ⟨vn, 0, none⟩ = some p) (h3 : w0.cell? ⟨va, 0, none⟩ = some (.int .i64 (at' : Int)))
    (s1 : ¬ S2 c vm) (s2 : ¬ S2 c vn) (s3 : ¬ S2 c va) :
    TryOK c (.func (.func 48) #[] #[.pointer (some ⟨vm, 0, none⟩), .pointer (some ⟨vn, 0, none⟩), .pointer (some ⟨va, 0, none⟩)]) (fun k n g => run (str c.s) c.B a at' k n g) at' w0 := by
  refine ⟨_, _, rfl, enters_find1, fun w be n g kv k t hbe hI hk => ?_⟩
  have k1 := t.has h1 s1
  have k2 := t.has h2 s2
  have k3 := t.has h3 s3
  have HW := Lib.hid ((all_ok c a).1 be p at' kv k n g w hp hI ha hk)
  clear h1 h2 h3 hI hk t hp
  show Calls Tryz.prog 48 #[kv, .pointer (some ⟨vm, 0, none⟩), .pointer (some ⟨vn, 0, none⟩), .pointer (some ⟨va, 0, none⟩)] w _
  go_enter Tryz.func48, Tryz.ntmps48
  go_wp2_with fail
  refine HW.out.mono ?_
  intro e w' hG
  have HG := Lib.hid hG
  rcases hG.ends with rfl | ⟨b, rfl⟩
  · exact ⟨rfl, HG.out⟩
  · clear hG
    go_wp2_with fail
    go_ret
    exact HG.out

/-- The first match from a place on, or nothing behind the end. -/
def fr (s : List UInt8) (B : Nat) (a : Re) (only : Bool) (j n : Nat) : Res := if j ≤ s.length then Rx.find s B a only (s.length - j) j n else .no n
/-- What is done with what a place gives. -/
def frR (f : Nat → Res) (only : Bool) (j : Nat) (r : Res) : Res := match r with
  | .over => .over
  | .no n => if only then .no n else f n
  | .yes n g e => .yes n (upd g 0 ((j : Int), (e : Int))) e
theorem fr_step (s : List UInt8) (B : Nat) (a : Re) (only : Bool) (j n : Nat) (h : j ≤ s.length) : fr s B a only j n = frR (fr s B a only (j + 1)) only j (run s B a j K0 n g0) := by
  unfold fr
  rw [if_pos h]
  by_cases h1 : j + 1 ≤ s.length
  · obtain ⟨r, hr⟩ : ∃ r, s.length - j = r + 1 := ⟨s.length - j - 1, by omega⟩
    rw [hr]
    show (match run s B a j K0 n g0 with | .over => Res.over | .no n => if only then Res.no n else Rx.find s B a only r (j + 1) n | .yes n g e => Res.yes n (upd g 0 ((j : Int), (e : Int))) e) = _
    cases run s B a j K0 n g0 with
    | over => rfl
    | no n =>
      show (if only = true then Res.no n else _) = (if only = true then Res.no n else fr s B a only (j + 1) n)
      unfold fr
      rw [if_pos h1, show s.length - (j + 1) = r by omega]
    | yes n g e => rfl
  · rw [show s.length - j = 0 by omega]
    show (match run s B a j K0 n g0 with | .over => Res.over | .no n => Res.no n | .yes n g e => Res.yes n (upd g 0 ((j : Int), (e : Int))) e) = _
    cases run s B a j K0 n g0 with
    | over => rfl
    | no n =>
      show _ = (if only = true then Res.no n else fr s B a only (j + 1) n)
      unfold fr
      rw [if_neg h1]
      cases only <;> rfl
    | yes n g e => rfl

/-- What comes back of find. -/
def FindP (c : Cx) (w : World) (lo : Nat) : Res → Ending → World → Prop
  | .over, e, w' => e = .panicked [{ v := .iface 112 (.agg #[]), recovered := false }] ∧ Touch (fun b => b = c.bm) w w'
  | .no n, e, w' => e = .returned (.bool false) ∧ MB c n w' ∧ Touch (fun b => b = c.bm) w w'
  | .yes n g x, e, w' => e = .returned (.bool true) ∧ (∃ bg, w.heap.size ≤ bg ∧ (∃ be, Inv { c with bg := bg } be n g w')) ∧ (∃ j : Nat, lo ≤ j ∧ j ≤ x ∧ x ≤ c.s.size ∧ g 0 = ((j : Int), (x : Int))) ∧ Touch (fun b => b = c.bm) w w'

theorem MB.inv {c : Cx} {n : Nat} {w : World} {bg : Nat} {T : TypeId} (h : MB c n w) (h3 : w.cell? ⟨c.bm, 3, none⟩ = some (.slice (some ⟨bg, 0, none⟩) (c.G + 1) (c.G + 1))) (hb : w.heap[bg]? = some (.cells (gl c.G g0).toArray T (0, 0))) (hT : c.wT.heap.size ≤ bg) (hne : c.bm ≠ bg) : Inv { c with bg := bg } w.heap.size n g0 (w.alloc (.cells #[.int .i64 0] 3)) := by
  have t : Still w (w.alloc (.cells #[.int .i64 0] 3)) := (Touch.refl _ _).alloc _
  have hbg : bg < w.heap.size := (Array.getElem?_eq_some_iff.1 hb).1
  have hlm := h.ltm
  have hs := h.tr.size
  obtain ⟨v, hv⟩ := h.c3
  exact ⟨t.has h.c0 id, h.c1.keep t id, t.has h.c2 id, t.has h3 id, ⟨T, (t.block _ hbg id).trans hb⟩, hne, ⟨0, Holds.made w #[.int .i64 0] 3 0 (.int .i64 0) rfl⟩, by show w.heap.size ≠ c.bm; omega, by show w.heap.size ≠ bg; omega, h.nB, h.lB, h.lG, h.sz, fun _ => .inl rfl, h.tr.trans t (fun _ e => e.elim), hT, hs, (t.frozen (p := ⟨c.bm, 3, none⟩) hlm id).trans hv.2⟩

def cellNat (w : World) (p : Value) : Nat := match p with | .pointer (some x) => (match w.cell? x with | some v => (intOf v).toNat | none => 0) | _ => 0
theorem cellNat_at {w : World} {b : Nat} {j : Nat} (h : w.cell? ⟨b, 0, none⟩ = some (.int .i64 (j : Int))) : cellNat w (.pointer (some ⟨b, 0, none⟩)) = j := by
  unfold cellNat
  simp [h, intOf]

set_option maxRecDepth 100000 in
set_option maxHeartbeats 2000000 in
theorem find_any (c : Cx) (a : Re) (p : Value) (hp : (trd c a).node p) (only : Bool) (lo n : Nat) (w : World) (hlo : lo ≤ c.s.size) (h : MB c n w) (hpp : ∃ x, p = .pointer x) :
    Calls Tryz.prog 32 #[.pointer (some ⟨c.bm, 0, none⟩), p, .int .i64 (c.G : Int), .int .i64 (lo : Int), .bool only] w (FindP c w lo (fr (str c.s) c.B a only lo n)) := by
  obtain ⟨px, rfl⟩ := hpp
  obtain ⟨w3, hw3⟩ : ∃ w3, ((w.alloc (.cells #[.pointer (some ⟨c.bm, 0, none⟩)] 63)).alloc (.cells #[.pointer px] 60)).alloc (.cells #[.int .i64 (lo : Int)] 3) = w3 := ⟨_, rfl⟩
  have T3 : Still w w3 := by rw [← hw3]; exact (((Touch.refl _ _).alloc _).alloc _).alloc _
  have k5 : w3.cell? ⟨w.heap.size, 0, none⟩ = some (.pointer (some ⟨c.bm, 0, none⟩)) := by rw [← hw3]; simp [go_sem]
  have k6 : w3.cell? ⟨w.heap.size + 1, 0, none⟩ = some (.pointer px) := by rw [← hw3]; simp [go_sem]
  have k11 : Holds w3 (w.heap.size + 1 + 1) 0 (.int .i64 (lo : Int)) := by rw [← hw3]; exact ⟨by simp [go_sem], by simp [go_sem]⟩
  have hz3 : w3.heap.size = w.heap.size + 1 + 1 + 1 := by rw [← hw3]; simp
  have hlm := h.ltm
  have hsz := h.sz
  have HM3 := Lib.hid (h.keep T3)
  have HT3 : Hid (Touch (fun b => b = c.bm) w w3) := Lib.hid (T3.mono (fun _ _ e => e.elim))
  have HP := Lib.hid hp
  have HK5 := Lib.hid k5; have HK6 := Lib.hid k6; have HK11 := Lib.hid k11
  have HZ3 := Lib.hid hz3
  have HLM := Lib.hid hlm
  clear h T3 k5 k6 k11 hp hz3
  go_enter Tryz.func32, Tryz.ntmps32
  go_wp2_with fail
  clear hw3
  go_loopw [11] (fun p wr => ∃ (bA j n' : Nat), p = .pointer (some ⟨bA, 0, none⟩) ∧ lo ≤ j ∧ j ≤ c.s.size + 1 ∧ Hid (Holds wr bA 0 (.int .i64 j)) ∧ Hid (w.heap.size ≤ bA) ∧ Hid (MB c n' wr) ∧ Hid (Touch (fun b => b = c.bm) w3 wr) ∧ Hid (fr (str c.s) c.B a only lo n = fr (str c.s) c.B a only j n')) (fun p wr => c.s.size + 1 - cellNat wr p)
  case atStart => exact ⟨w.heap.size + 1 + 1, lo, n, rfl, Nat.le_refl _, by omega, HK11, Lib.hid (by omega), HM3, Lib.hid (Touch.refl _ _), Lib.hid rfl⟩
  case round =>
    obtain ⟨bA, j, n', rfl, hj0, hj1, HA, HbA, HM, HT, HE⟩ := hrel
    have hA := HA.out
    obtain ⟨hA1, hA2⟩ := hA
    have hs0 := HM.out.c0
    have n5 : w.heap.size ≠ c.bm := by have := HLM.out; omega
    have n6 : w.heap.size + 1 ≠ c.bm := by have := HLM.out; omega
    have nA : bA ≠ c.bm := by have := HLM.out; have := HbA.out; omega
    have k5 := HT.out.has HK5.out n5
    have k6 := HT.out.has HK6.out n6
    by_cases hle : j ≤ c.s.size
    · have hd : decide (j ≤ c.s.size) = true := by simp; omega
      go_wp2_with fail
      go_quiet (fail)
      go_wp2_with fail
      have HMq := Lib.hid (HM.out.keep ((Touch.refl (fun _ => False) wr).drewN nq))
      have HTq : Hid (Touch (fun b => b = c.bm) w3 (wr.drewN nq)) := Lib.hid (HT.out.drewN nq)
      have k5 : (wr.drewN nq).cell? ⟨w.heap.size, 0, none⟩ = some (.pointer (some ⟨c.bm, 0, none⟩)) := k5
      have k6 : (wr.drewN nq).cell? ⟨w.heap.size + 1, 0, none⟩ = some (.pointer px) := k6
      have hA1 : (wr.drewN nq).cell? ⟨bA, 0, none⟩ = some (.int .i64 (j : Int)) := hA1
      have hAq : bA < (wr.drewN nq).heap.size := block_lt_of_cell hA1
      generalize wr.drewN nq = wq at *
      refine (clear_any c n' wq HMq.out).mono ?_
      rintro e w1 ⟨rfl, hM1, h31, hb1, t1⟩
      have k5 := t1.has k5 n5
      have k6 := t1.has k6 n6
      have hA1 := t1.has hA1 nA
      have hqs := HTq.out.size
      have hz3 := HZ3.out
      have hlmq := HMq.out.ltm
      have htr := HMq.out.tr.size
      have HI1 := Lib.hid (hM1.inv h31 hb1 htr (by omega))
      have HT1 := Lib.hid t1
      have HQ : Hid (wq.heap.size < w1.heap.size) := Lib.hid ((Array.getElem?_eq_some_iff.1 hb1).1)
      obtain ⟨r, hr⟩ : ∃ r, run (str c.s) c.B a j K0 n' g0 = r := ⟨_, rfl⟩
      have HFR : Hid (fr (str c.s) c.B a only lo n = frR (fr (str c.s) c.B a only (j + 1)) only j r) := Lib.hid (by rw [HE.out, fr_step _ _ _ _ _ _ (by rw [str_len]; exact hle), hr])
      have HF := Lib.hid (first_any { c with bg := wq.heap.size } _ _ j n' g0 w1 (find1_any { c with bg := wq.heap.size } a (.pointer px) HP.out j hle _ _ _ w1 k5 k6 hA1 (fun e => e.elim n5 (by intro e; simp only at e; omega)) (fun e => e.elim n6 (by intro e; simp only at e; omega)) (fun e => e.elim nA (by intro e; simp only at e; omega))) HI1.out)
      have HF2 : Hid (Calls Tryz.prog 47 _ w1 (FirstP { c with bg := wq.heap.size } w1 j g0 r)) := Lib.hid (by rw [← hr]; exact HF.out)
      have HAQ := Lib.hid hAq
      have HNA := Lib.hid nA
      clear HF hr t1 h31 hb1 hM1 hqs hz3 hlmq htr hAq
      go_wp2_with fail
      refine HF2.out.mono ?_
      intro e w2 hG
      clear HF2
      have htch : ∀ (w2 : World), Touch (S2 { c with bg := wq.heap.size }) w1 w2 → Touch (fun b => b = c.bm) w w2 := fun w2 h => (HT3.out.then (HTq.out.then HT1.out)).trans h (fun i e => e.elim .inl (fun e => .inr (by have h1 := HTq.out.size; have h2 := HT3.out.size; simp only at e; omega)))
      have HTC := Lib.hid htch
      clear htch
      cases r with
      | over =>
        obtain ⟨rfl, ht⟩ := hG
        refine ⟨rfl, ?_⟩
        rw [HFR.out]
        exact ⟨rfl, HTC.out _ ht⟩
      | yes n2 h2 x2 =>
        obtain ⟨rfl, hI2, hx1, hx2, ht⟩ := hG
        have k5 := ht.has k5 (fun e => e.elim n5 (by intro e; have h1 := HTq.out.size; have h2 := HZ3.out; simp only at e; omega))
        have hA1 := ht.has hA1 (fun e => e.elim nA (by intro e; have := HAQ.out; simp only at e; omega))
        have h3 := hI2.c3
        have y0 := hI2.g0 0 (Nat.zero_le _)
        have y1 := hI2.g1 0 (Nat.zero_le _)
        simp only [Nat.mul_zero, Nat.zero_add] at y0 y1 h3
        obtain ⟨y0, yf0⟩ := y0
        obtain ⟨y1, yf1⟩ := y1
        have hI9 := (hI2.group 0 (Nat.zero_le _) ((j : Int), (x2 : Int)) (.inr ⟨by simp, by simp; omega, by simp; omega⟩)).keep (Touch.refl (fun _ => False) _).drew
        simp only [Nat.mul_zero, Nat.zero_add] at hI9
        have HT9 : Hid (Touch (fun b => b = c.bm) w ((w2.setCell ⟨wq.heap.size, 0, none⟩ (.int .i64 (j : Int))).setCell ⟨wq.heap.size, 1, none⟩ (.int .i64 (x2 : Int))).drew) := Lib.hid (Touch.setCell (Touch.setCell (HTC.out _ ht) (.inr (by have h1 := HTq.out.size; have h2 := HT3.out.size; show w.heap.size ≤ wq.heap.size; omega)) _) (.inr (by have h1 := HTq.out.size; have h2 := HT3.out.size; show w.heap.size ≤ wq.heap.size; omega)) _).drew
        have HI9 := Lib.hid hI9
        have hG1 : (0 : Int) < (c.G : Int) + 1 := by omega
        clear hI2 ht hI9
        go_wp2_with fail
        go_still_tail 7, (by kernel_rfl)
        change wpList _ _ _ _ _ (World.drew _)
        go_wp2_with fail
        go_ret
        rw [HFR.out]
        refine ⟨rfl, ⟨wq.heap.size, ?_, ⟨_, HI9.out⟩⟩, ⟨j, hj0, hx1, hx2, if_pos rfl⟩, HT9.out⟩
        have h1 := HTq.out.size; have h2 := HT3.out.size; omega
      | no n2 =>
        obtain ⟨⟨x0, rfl⟩, hI2, ht⟩ := hG
        have k5 := ht.has k5 (fun e => e.elim n5 (by intro e; have h1 := HTq.out.size; have h2 := HZ3.out; simp only at e; omega))
        have k6 := ht.has k6 (fun e => e.elim n6 (by intro e; have h1 := HTq.out.size; have h2 := HZ3.out; simp only at e; omega))
        have hA1 := ht.has hA1 (fun e => e.elim nA (by intro e; have := HAQ.out; simp only at e; omega))
        have HM2 := Lib.hid (MB.of hI2)
        have HT2 := Lib.hid (HTC.out _ ht)
        have HT32 : Hid (Touch (fun b => b = c.bm) w3 w2) := Lib.hid ((HTq.out.then HT1.out).trans ht (fun i e => e.elim .inl (fun e => .inr (by have h1 := HTq.out.size; simp only at e; omega))))
        clear hI2 ht
        cases only with
        | true =>
          go_wp2_with fail
          go_ret
          rw [HFR.out]
          exact ⟨rfl, HM2.out, HT2.out⟩
        | false =>
          have hw1 := IntWalk.i64_in ((j : Int) + 1) (by omega)
          go_wp2_with fail
          have HN2 : Hid (Holds (w2.alloc (.cells #[.int .i64 ((j : Int) + 1)] 3)) w2.heap.size 0 (.int .i64 ((j + 1 : Nat) : Int))) := Lib.hid (Holds.made w2 #[.int .i64 ((j : Int) + 1)] 3 0 _ rfl)
          refine ⟨⟨w2.heap.size, j + 1, n2, rfl, by omega, by omega, HN2, Lib.hid ?_, Lib.hid (HM2.out.keep ((Touch.refl _ _).alloc _)), Lib.hid (HT32.out.alloc _), Lib.hid ?_⟩, ?_⟩
          · have h1 := HT2.out.size; exact h1
          · rw [HFR.out]; rfl
          · rw [cellNat_at HN2.out.1, cellNat_at HA.out.1]; omega
    · have hd : decide (j ≤ c.s.size) = false := by simp; omega
      go_wp2_with fail
      go_quiet (fail)
      go_wp2_with fail
      go_ret
      rw [HE.out, show fr (str c.s) c.B a only j n' = .no n' from if_neg (by rw [str_len]; omega)]
      exact ⟨rfl, HM.out.keep ((Touch.refl _ _).drewN _), (HT3.out.then HT.out).drewN _⟩
end Go.Proofs.YtlgpilcjcomacaaGreat

/-
  The program's caught: a panic of no more steps is caught.
-/
namespace Go.Proofs.YtlgpilcjcomacaaGreat
open Go.RowKit Rx
set_option linter.unusedVariables false

set_option maxRecDepth 100000 in
theorem caught1_panicking (p : Nat) (older : List PanicEntry) (w : World) (h : Holds w p 0 (.bool false)) :
    CallsD Tryz.prog 45 #[.pointer (some ⟨p, 0, none⟩)] (.panicking ({ v := .iface 112 (.agg #[]), recovered := false } :: older)) w fun e u' w' =>
      e = .returned (.tuple #[]) ∧ u' = .panicking ({ v := .iface 112 (.agg #[]), recovered := true } :: older) ∧ w' = (w.alloc (.cells #[] 112)).setCell ⟨p, 0, none⟩ (.bool true) := by
  obtain ⟨hc, hz⟩ := h
  have hlt := block_lt_of_cell hc
  have hta : ∀ (w : World), (Instr.typeAssert (.iface 112 (.agg #[])) 20 112 true).run Tryz.prog w = .ok (.tuple #[.agg #[], .bool true]) w := fun _ => by kernel_rfl
  refine callsD_of_wpS Tryz.func45 rfl fun c₀ cs hu => ?_
  apply wpS_seq
  apply wpS_region
  simp [wpOpsS, go_sem, recoverD, hu, Tryz.ntmps45, Exit.thenS, hta]
  apply wpS_seq
  apply wpS_region
  simp [wpOpsS, go_sem, Exit.thenS]
  refine wpS_cond (t := true) (by simp [Act.eval, Array.replicate]) ?_
  simp only [if_true]
  apply wpS_region
  have hcc : (w.alloc (.cells #[] 112)).cell? ⟨p, 0, none⟩ = some (.bool false) := (World.cell?_alloc_past _ _ _ hlt).trans hc
  have hzz : (w.alloc (.cells #[] 112)).frozen? ⟨p, 0, none⟩ = false := (World.frozen?_alloc_past _ _ _ hlt).trans hz
  simp [wpOpsS, go_sem, hcc, hzz, bodyPostS, results, Tryz.results45]

set_option maxRecDepth 100000 in
theorem caught1_idle (p : Nat) (w : World) :
    CallsD Tryz.prog 45 #[.pointer (some ⟨p, 0, none⟩)] .returning w fun e u' w' => e = .returned (.tuple #[]) ∧ u' = .returning ∧ w' = w.alloc (.cells #[] 112) := by
  have hta : ∀ (w : World), (Instr.typeAssert .nilIface 20 112 true).run Tryz.prog w = .ok (.tuple #[.agg #[], .bool false]) w := fun _ => by kernel_rfl
  refine callsD_of_wpS Tryz.func45 rfl fun c₀ cs hu => ?_
  apply wpS_seq
  apply wpS_region
  simp [wpOpsS, go_sem, recoverD, hu, Tryz.ntmps45, Exit.thenS, hta]
  apply wpS_seq
  apply wpS_region
  simp [wpOpsS, go_sem, Exit.thenS]
  refine wpS_cond (t := false) (by simp [Act.eval, Array.replicate]) ?_
  simp only [Bool.false_eq_true, if_false]
  refine wpS_of_wp (wp_skip ?_)
  cases c₀
  simp_all [bodyPostS, results, Tryz.results45]

/-- What is called is over, or not. -/
theorem caught_any (f : Nat) (cap : Array Value) (en : ∀ args w, (callFunc f args).run Tryz.prog w = .ok (.enter f args) w) (R : Bool → World → Prop) (w : World)
    (hf : Calls Tryz.prog f cap (w.alloc (.cells #[.bool false] 4)) fun e w' => ((e = .returned (.tuple #[]) ∧ R false w') ∨ (e = .panicked [{ v := .iface 112 (.agg #[]), recovered := false }] ∧ R true w')) ∧ Holds w' w.heap.size 0 (.bool false)) :
    Calls Tryz.prog 30 #[.func (.func f) #[] cap] w fun e w' => ∃ b w1, e = .returned (.bool b) ∧ R b w1 ∧ Touch (fun i => i = w.heap.size) w1 w' := by
  have hmf : ∀ (fn : Fn) (first cap : Array Value) (w : World), (Instr.makeFunc fn first cap).run Tryz.prog w = .ok (.func fn first cap) w := fun _ _ _ _ => rfl
  have HF := Lib.hid hf; clear hf
  go_enter_defers Tryz.func30, Tryz.ntmps30
  go_wp2_with fail
  refine HF.out.mono ?_
  rintro e w1 ⟨⟨rfl, hR⟩ | ⟨rfl, hR⟩, hH⟩
  · have HR := Lib.hid hR; clear hR
    have HH := Lib.hid hH
    obtain ⟨hc, hz⟩ := hH
    go_wp2_with fail
    refine leaves_cons (f := 45) (args := #[.pointer (some ⟨w.heap.size, 0, none⟩)]) (by simp) (by simp [go_sem]) ?_
    refine (caught1_idle w.heap.size _).mono ?_
    rintro e u' w'' ⟨rfl, rfl, rfl⟩
    have hv : ((w1.setCell ⟨w.heap.size, 0, none⟩ (.bool false)).alloc (.cells #[] 112)).cell? ⟨w.heap.size, 0, none⟩ = some (.bool false) := ((HH.out.set _).alloc _).1
    simp [Leaves, settle, results, Tryz.results30, go_sem, hv]
    exact ⟨w1, HR.out, (Touch.setCell (Touch.refl (fun i => i = w.heap.size) w1) (.inl rfl) _).alloc _⟩
  · refine leaves_cons (f := 45) (args := #[.pointer (some ⟨w.heap.size, 0, none⟩)]) (by simp) (by simp [go_sem]) ?_
    refine (caught1_panicking w.heap.size [] w1 hH).mono ?_
    rintro e u' w'' ⟨rfl, rfl, rfl⟩
    have hv : ((w1.alloc (.cells #[] 112)).setCell ⟨w.heap.size, 0, none⟩ (.bool true)).cell? ⟨w.heap.size, 0, none⟩ = some (.bool true) := ((hH.alloc _).set _).1
    simp [Leaves, settle, results, Tryz.results30, go_sem, hv]
    exact ⟨w1, hR, Touch.setCell ((Touch.refl (fun i => i = w.heap.size) w1).alloc _) (.inl rfl) _⟩
end Go.Proofs.YtlgpilcjcomacaaGreat
