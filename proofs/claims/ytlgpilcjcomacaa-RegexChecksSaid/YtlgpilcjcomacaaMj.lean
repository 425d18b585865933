/-
  The program's rounds of a repeat.
-/
import Derived.Test.YtlgpilcjcomacaaMe
import Derived.IntWalk
import Derived.Deep.RegionHeld3
import Derived.Deep.DrawnRows
namespace Go.Proofs.Ytlgpilcjcomacaa
open Go.RowKit Rx
set_option linter.unusedVariables false
attribute [local go_sem ↓] Go.wp_at_zero Go.wp_at_succ

/-- What follows a round. -/
def roundK (kid : Nat → K → Nat → Grp → Res) (least : Nat) (most : Int) (lazy : Bool) (fuel made at' : Nat) (k : K) : K := fun e n g => if e = at' ∧ least ≤ made then k e n g else times kid least most lazy fuel (made + 1) e k n g
/-- A round more. -/
def moreR (kid : Nat → K → Nat → Grp → Res) (least : Nat) (most : Int) (lazy : Bool) (fuel made at' : Nat) (k : K) (g : Grp) (n : Nat) : Res := if most ≠ -1 ∧ most ≤ (made : Int) then .no n else kid at' (roundK kid least most lazy fuel made at' k) n g
theorem times_succ (kid : Nat → K → Nat → Grp → Res) (least : Nat) (most : Int) (lazy : Bool) (fuel made at' : Nat) (k : K) (n : Nat) (g : Grp) :
    times kid least most lazy (fuel + 1) made at' k n g = if made < least then moreR kid least most lazy fuel made at' k g n else if lazy then orElse (k at' n g) (moreR kid least most lazy fuel made at' k g) else orElse (moreR kid least most lazy fuel made at' k g n) (fun n => k at' n g) := rfl

/-- The rounds at so much fuel. -/
def TimesOK (c : Cx) (y : Re) (b least : Nat) (most : Int) (lazy : Bool) (fuel : Nat) : Prop := ∀ (be made at' : Nat) (kv : Value) (k : K) (n : Nat) (g : Grp) (w : World), (least - made) + (c.s.size + 1 - at') ≤ fuel → made + fuel ≤ 100000 → Inv c be n g w → at' ≤ c.s.size → KOK c be kv k at' w →
  Calls Try.prog 74 #[.pointer (some ⟨c.bm, 0, none⟩), .pointer (some ⟨b, 0, none⟩), .int .i64 (made : Int), .int .i64 (at' : Int), kv] w (Got c be w at' g (times (run (str c.s) c.B y) least most lazy fuel made at' k n g))

theorem enters_times1 (args : Array Value) (w : World) : (callFunc 93 args).run Try.prog w = .ok (.enter 93 args) w :=
  enters_of Try.func93 (by kernel_rfl) rfl args w
theorem enters_times11 (args : Array Value) (w : World) : (callFunc 94 args).run Try.prog w = .ok (.enter 94 args) w :=
  enters_of Try.func94 (by kernel_rfl) rfl args w

set_option maxRecDepth 100000 in
set_option maxHeartbeats 1000000 in
/-- Behind a round. -/
theorem times11_any (c : Cx) (y : Re) (b : Nat) (of : Value) (num : Int) (wa : Option Addr) (wl wc : Nat) (kid : Value) (least : Nat) (most how : Int) (lazy : Bool)
    (hN : NodeC (fun b => b ≠ c.bm) c.wT b 12 of num wa wl wc kid (least : Int) most how) (fuel : Nat) (hT : TimesOK c y b least most lazy fuel)
    (be made at' x : Nat) (hm : (least - made) + (c.s.size + 1 - at') ≤ fuel + 1) (hmf : made + 1 + fuel ≤ 100000) (hlo : at' ≤ x) (hx : x ≤ c.s.size) (kv : Value) (k : K) (n : Nat) (g : Grp) (w : World) (va vd vn vk vm : Nat)
    (h1 : w.cell? ⟨va, 0, none⟩ = some (.int .i64 (at' : Int))) (h2 : w.cell? ⟨vd, 0, none⟩ = some (.int .i64 (made : Int))) (h3 : w.cell? ⟨vn, 0, none⟩ = some (.pointer (some ⟨b, 0, none⟩))) (h4 : w.cell? ⟨vk, 0, none⟩ = some kv) (h5 : w.cell? ⟨vm, 0, none⟩ = some (.pointer (some ⟨c.bm, 0, none⟩)))
    (hI : Inv c be n g w) (hk : KOK c be kv k x w) :
    Calls Try.prog 94 #[.int .i64 (x : Int), .pointer (some ⟨va, 0, none⟩), .pointer (some ⟨vd, 0, none⟩), .pointer (some ⟨vn, 0, none⟩), .pointer (some ⟨vk, 0, none⟩), .pointer (some ⟨vm, 0, none⟩)] w (Got c be w x g (roundK (run (str c.s) c.B y) least most lazy fuel made at' k x n g)) := by
  have hk0 := hk
  obtain ⟨f, cp, rfl, en, -⟩ := hk0
  have hls := hI.tree hN.c5 hN.fb
  have hsz := hI.sz
  have HI := Lib.hid hI; clear hI
  have HK := Lib.hid hk; clear hk
  have HT := Lib.hid hT; clear hT
  clear hN
  by_cases hc : x = at' ∧ least ≤ made
  · have HR : Hid (roundK (run (str c.s) c.B y) least most lazy fuel made at' k x n g = k x n g) := Lib.hid (if_pos hc)
    obtain ⟨rfl, hge⟩ := hc
    have hd : decide (least ≤ made) = true := by simp; omega
    have hd2 : ((x : Int) == (x : Int)) = true := by simp
    have HKK : Hid (∀ q : Nat, Calls Try.prog f (#[.int .i64 (x : Int)] ++ cp) (w.drewN q) (Got c be (w.drewN q) x g (k x n g))) := Lib.hid (fun q => by
      obtain ⟨f', cp', e1, -, hk⟩ := HK.out
      cases e1
      exact hk (w.drewN q) x n g ((Touch.refl _ _).drewN q) (HI.out.keep ((Touch.refl _ _).drewN q)) (Nat.le_refl _) hx)
    go_enter Try.func94, Try.ntmps94
    go_wp2_with fail
    go_quiet (fail)
    go_wp2_with fail
    refine (HKK.out _).mono ?_
    intro e w' hG
    have HG := Lib.hid (hG.from ((Touch.refl _ _).drewN _) (Nat.le_refl _))
    rcases hG.ends with rfl | ⟨bb, rfl⟩
    · refine ⟨rfl, ?_⟩
      rw [HR.out]
      exact HG.out
    · clear hG
      go_wp2_with fail
      go_ret
      rw [HR.out]
      exact HG.out
  · have HR : Hid (roundK (run (str c.s) c.B y) least most lazy fuel made at' k x n g = times (run (str c.s) c.B y) least most lazy fuel (made + 1) x k n g) := Lib.hid (if_neg hc)
    have HTT : Hid (∀ q : Nat, Calls Try.prog 74 #[.pointer (some ⟨c.bm, 0, none⟩), .pointer (some ⟨b, 0, none⟩), .int .i64 ((made : Int) + 1), .int .i64 (x : Int), .func (.func f) #[] cp] (w.drewN q) (Got c be (w.drewN q) x g (times (run (str c.s) c.B y) least most lazy fuel (made + 1) x k n g))) := Lib.hid (fun q =>
      HT.out be (made + 1) x _ k n g (w.drewN q) (by omega) (by omega) (HI.out.keep ((Touch.refl _ _).drewN q)) hx (HK.out.later ((Touch.refl _ _).drewN q) (Nat.le_refl _)))
    by_cases he : x = at'
    · subst he
      have hd2 : ((x : Int) == (x : Int)) = true := by simp
      have hd : decide (least ≤ made) = false := by simp; omega
      clear hc
      go_enter Try.func94, Try.ntmps94
      go_wp2_with fail
      go_quiet (fail)
      go_wp2_with fail
      refine (HTT.out _).mono ?_
      intro e w' hG
      have HG := Lib.hid (hG.from ((Touch.refl _ _).drewN _) (Nat.le_refl _))
      rcases hG.ends with rfl | ⟨bb, rfl⟩
      · refine ⟨rfl, ?_⟩
        rw [HR.out]
        exact HG.out
      · clear hG
        go_wp2_with fail
        go_ret
        rw [HR.out]
        exact HG.out
    · have hd2 : ((x : Int) == (at' : Int)) = false := by simp; omega
      clear hc
      go_enter Try.func94, Try.ntmps94
      go_wp2_with fail
      go_quiet (fail)
      go_wp2_with fail
      refine (HTT.out _).mono ?_
      intro e w' hG
      have HG := Lib.hid (hG.from ((Touch.refl _ _).drewN _) (Nat.le_refl _))
      rcases hG.ends with rfl | ⟨bb, rfl⟩
      · refine ⟨rfl, ?_⟩
        rw [HR.out]
        exact HG.out
      · clear hG
        go_wp2_with fail
        go_ret
        rw [HR.out]
        exact HG.out

set_option maxRecDepth 100000 in
set_option maxHeartbeats 1000000 in
/-- A round more. -/
theorem times1_any (c : Cx) (y : Re) (b : Nat) (of : Value) (num : Int) (wa : Option Addr) (wl wc : Nat) (kid : Value) (least : Nat) (most how : Int) (lazy : Bool)
    (hN : NodeC (fun b => b ≠ c.bm) c.wT b 12 of num wa wl wc kid (least : Int) most how) (hkid : (trd c y).node kid) (hNode : NodeOK c y) (fuel : Nat) (hT : TimesOK c y b least most lazy fuel)
    (be made at' : Nat) (hm : (least - made) + (c.s.size + 1 - at') ≤ fuel + 1) (hmf : made + 1 + fuel ≤ 100000) (ha : at' ≤ c.s.size) (kv : Value) (k : K) (n : Nat) (g : Grp) (w : World) (va vd vn vk vm : Nat)
    (h1 : w.cell? ⟨va, 0, none⟩ = some (.int .i64 (at' : Int))) (h2 : w.cell? ⟨vd, 0, none⟩ = some (.int .i64 (made : Int))) (h3 : w.cell? ⟨vn, 0, none⟩ = some (.pointer (some ⟨b, 0, none⟩))) (h4 : w.cell? ⟨vk, 0, none⟩ = some kv) (h5 : w.cell? ⟨vm, 0, none⟩ = some (.pointer (some ⟨c.bm, 0, none⟩)))
    (s1 : ¬ SS c be va) (s2 : ¬ SS c be vd) (s3 : ¬ SS c be vn) (s4 : ¬ SS c be vk) (s5 : ¬ SS c be vm)
    (hI : Inv c be n g w) (hk : KOK c be kv k at' w) :
    Calls Try.prog 93 #[.pointer (some ⟨vn, 0, none⟩), .pointer (some ⟨vd, 0, none⟩), .pointer (some ⟨vm, 0, none⟩), .pointer (some ⟨va, 0, none⟩), .pointer (some ⟨vk, 0, none⟩)] w (Got c be w at' g (moreR (run (str c.s) c.B y) least most lazy fuel made at' k g n)) := by
  have hms := hI.tree hN.c6 hN.fb
  have hkd := hI.tree hN.c4 hN.fb
  by_cases hc : most ≠ -1 ∧ most ≤ (made : Int)
  · have HR : Hid (moreR (run (str c.s) c.B y) least most lazy fuel made at' k g n = .no n) := Lib.hid (if_pos hc)
    obtain ⟨hc1, hc2⟩ := hc
    have hd : decide (most ≤ (made : Int)) = true := by simp; omega
    have hd2 : (most != (-1 : Int)) = true := by simp; omega
    have HI := Lib.hid hI; clear hI
    have HK := Lib.hid hk; clear hk
    clear hT hNode hN hkid hc1 hc2
    go_enter Try.func93, Try.ntmps93
    go_wp2_with fail
    go_quiet (fail)
    go_wp2_with fail
    go_ret
    rw [HR.out]
    exact ⟨rfl, HI.out.keep ((Touch.refl _ _).drewN _), (Touch.refl _ _).drewN _⟩
  · have HR : Hid (moreR (run (str c.s) c.B y) least most lazy fuel made at' k g n = run (str c.s) c.B y at' (roundK (run (str c.s) c.B y) least most lazy fuel made at' k) n g) := Lib.hid (if_neg hc)
    have HC : Hid (∀ q : Nat, Calls Try.prog 52 #[.pointer (some ⟨c.bm, 0, none⟩), kid, .int .i64 (at' : Int), .func (.func 94) #[] #[.pointer (some ⟨va, 0, none⟩), .pointer (some ⟨vd, 0, none⟩), .pointer (some ⟨vn, 0, none⟩), .pointer (some ⟨vk, 0, none⟩), .pointer (some ⟨vm, 0, none⟩)]] (w.drewN q).drew (Got c be (w.drewN q).drew at' g (run (str c.s) c.B y at' (roundK (run (str c.s) c.B y) least most lazy fuel made at' k) n g))) := Lib.hid (fun q =>
      hNode be kid at' _ _ n g (w.drewN q).drew hkid (hI.keep ((Touch.refl _ _).drewN q).drew) ha ⟨_, _, rfl, enters_times11, fun w1 a1 n1 g1 t1 hI1 l1 l2 =>
        times11_any c y b of num wa wl wc kid least most how lazy hN fuel hT be made at' a1 hm hmf l1 l2 kv k n1 g1 w1 _ _ _ _ _ (t1.has h1 s1) (t1.has h2 s2) (t1.has h3 s3) (t1.has h4 s4) (t1.has h5 s5) hI1 (hk.later (((Touch.refl _ _).drewN q).drew.then t1) l1)⟩)
    have hk0 := hk
    obtain ⟨f, cp, rfl, en, -⟩ := hk0
    clear hT hNode hN hkid hI hk s1 s2 s3 s4 s5
    by_cases h1m : most = -1
    · subst h1m
      clear hc
      go_enter Try.func93, Try.ntmps93
      go_wp2_with fail
      go_quiet (fail)
      go_wp2_with fail
      have HC2 := Lib.hid (HC.out nq)
      have TT : Hid (Touch (SS c be) w (w.drewN nq).drew) := Lib.hid (((Touch.refl _ _).drewN _).drew)
      have h1 : (w.drewN nq).cell? ⟨va, 0, none⟩ = some (.int .i64 (at' : Int)) := h1
      have h3 : (w.drewN nq).cell? ⟨vn, 0, none⟩ = some (.pointer (some ⟨b, 0, none⟩)) := h3
      have h5 : (w.drewN nq).cell? ⟨vm, 0, none⟩ = some (.pointer (some ⟨c.bm, 0, none⟩)) := h5
      have hkd : (w.drewN nq).cell? ⟨b, 4, none⟩ = some kid := hkd
      generalize w.drewN nq = wq at *
      go_still_tail 7, (by kernel_rfl)
      change wpList _ _ _ _ _ (World.drew _)
      go_wp2_with fail
      refine HC2.out.mono ?_
      intro e w' hG
      have HG := Lib.hid (hG.from TT.out (Nat.le_refl _))
      rcases hG.ends with rfl | ⟨bb, rfl⟩
      · refine ⟨rfl, ?_⟩
        rw [HR.out]
        exact HG.out
      · clear hG
        go_wp2_with fail
        go_ret
        rw [HR.out]
        exact HG.out
    · have hd : decide (most ≤ (made : Int)) = false := by simp; omega
      have hd2 : (most != (-1 : Int)) = true := by simp; omega
      clear hc h1m
      go_enter Try.func93, Try.ntmps93
      go_wp2_with fail
      go_quiet (fail)
      go_wp2_with fail
      have HC2 := Lib.hid (HC.out nq)
      have TT : Hid (Touch (SS c be) w (w.drewN nq).drew) := Lib.hid (((Touch.refl _ _).drewN _).drew)
      have h1 : (w.drewN nq).cell? ⟨va, 0, none⟩ = some (.int .i64 (at' : Int)) := h1
      have h3 : (w.drewN nq).cell? ⟨vn, 0, none⟩ = some (.pointer (some ⟨b, 0, none⟩)) := h3
      have h5 : (w.drewN nq).cell? ⟨vm, 0, none⟩ = some (.pointer (some ⟨c.bm, 0, none⟩)) := h5
      have hkd : (w.drewN nq).cell? ⟨b, 4, none⟩ = some kid := hkd
      generalize w.drewN nq = wq at *
      go_still_tail 7, (by kernel_rfl)
      change wpList _ _ _ _ _ (World.drew _)
      go_wp2_with fail
      refine HC2.out.mono ?_
      intro e w' hG
      have HG := Lib.hid (hG.from TT.out (Nat.le_refl _))
      rcases hG.ends with rfl | ⟨bb, rfl⟩
      · refine ⟨rfl, ?_⟩
        rw [HR.out]
        exact HG.out
      · clear hG
        go_wp2_with fail
        go_ret
        rw [HR.out]
        exact HG.out
end Go.Proofs.Ytlgpilcjcomacaa
