/-
  Texts Sg, Sh, Si in one.
-/
import Derived.Test.YtlgpilcjcomacaaGreatBj
import Derived.Test.YtlgpilcjcomacaaGreatAb
import Derived.Deep.MidRow
import Derived.OwnWalk
/-
  The document's go_ at a repeat's rest.
-/
namespace Go.Proofs.YtlgpilcjcomacaaGreat
open Go.RowKit Rx
set_option linter.unusedVariables false
attribute [local go_sem ↓] Go.wp_at_zero Go.wp_at_succ

/-- The document's repeat with so much fuel. -/
def RoundsOK (c : Cr) (y : Re) (b least : Nat) (most : Int) (lazy : Bool) (fuel : Nat) : Prop := ∀ (made at' : Nat) (kv : Value) (k : K) (n : Nat) (g : Grp) (w : World), (least - made) + (c.s.size + 1 - at') ≤ fuel → made + fuel ≤ 100000 → IR c n g w → at' ≤ c.s.size → KR c kv k at' w →
  Calls Tryz.prog 76 #[.pointer (some ⟨c.bt, 0, none⟩), .pointer (some ⟨b, 0, none⟩), .int .i64 (made : Int), .bool false, .int .i64 (at' : Int), kv] w (GotR c w at' g (times (run (str c.s) c.B y) least most lazy fuel made at' k n g))
/-- Behind an empty round that was not needed. -/
def RoundsE (c : Cr) (b least : Nat) : Prop := ∀ (made at' : Nat) (kv : Value) (k : K) (n : Nat) (g : Grp) (w : World), least ≤ made → made ≤ 200000 → IR c n g w → at' ≤ c.s.size → KR c kv k at' w →
  Calls Tryz.prog 76 #[.pointer (some ⟨c.bt, 0, none⟩), .pointer (some ⟨b, 0, none⟩), .int .i64 (made : Int), .bool true, .int .i64 (at' : Int), kv] w (GotR c w at' g (k at' n g))

set_option linter.unusedSimpArgs false in
set_option maxRecDepth 100000 in
set_option maxHeartbeats 4000000 in
theorem rgo_rep (c : Cr) (y : Re) (b rb : Nat) (v : NV) (hv : NodeB c.wT b v) (hb : b ≠ c.bt) (least : Nat) (most : Int) (lazy : Bool) (hls : v.lo = (least : Int)) (fuel made at0 : Nat) (hT : RoundsOK c y b least most lazy fuel) (hE : RoundsE c b least) (hm : (least - made) + (c.s.size + 1 - at0) ≤ fuel + 1) (hmf : made + (fuel + 1) ≤ 100000) (kv : Value) (k : K) (w0 : World) (hR : RestC w0 rb (.pointer (some ⟨b, 0, none⟩)) 10 (made : Int) (at0 : Int) kv) (hrb : rb ≠ c.bt) (hK : KR c kv k at0 w0) :
    KR c (.pointer (some ⟨rb, 0, none⟩)) (roundK (run (str c.s) c.B y) least most lazy fuel made at0 k) at0 w0 := by
  refine ⟨⟨_, rfl⟩, fun w at' n g t hI h1 h2 => ?_⟩
  have hKx := hK
  obtain ⟨⟨z, rfl⟩, -⟩ := hKx
  have hr := hR.keep t hrb
  obtain ⟨r0, r1, r2, r3, r4⟩ := hr
  have k260 := (hI.node hv hb).c260
  rw [hls] at k260
  have hw1 := IntWalk.i64_in ((made : Int) + 1) (by omega)
  have HB : Hid (rb ≠ c.bt ∧ b ≠ c.bt) := Lib.hid ⟨hrb, hb⟩
  have hKw := hK.later t h1
  obtain ⟨q, hq⟩ : ∃ q, roundK (run (str c.s) c.B y) least most lazy fuel made at0 k at' n g = q := ⟨_, rfl⟩
  rw [hq]
  have HC : Hid (∀ w5 : World, Still w w5 → Calls Tryz.prog 76 #[.pointer (some ⟨c.bt, 0, none⟩), .pointer (some ⟨b, 0, none⟩), .int .i64 ((made : Int) + 1), .bool (decide (least ≤ made) && decide (at' = at0)), .int .i64 (at' : Int), .pointer z] w5 (GotR c w5 at' g q)) := Lib.hid (by
    intro w5 t5
    have hk5 := hKw.later (t5.mono (fun _ _ e => e.elim)) (Nat.le_refl _)
    rw [← hq]
    unfold roundK
    by_cases he : at' = at0 ∧ least ≤ made
    · rw [if_pos he, decide_eq_true he.1, decide_eq_true he.2]
      exact hE (made + 1) at' _ k n g w5 (by omega) (by omega) (hI.keep t5) h2 hk5
    · rw [if_neg he, show (decide (least ≤ made) && decide (at' = at0)) = false by simp; omega]
      exact hT (made + 1) at' _ k n g w5 (by omega) (by omega) (hI.keep t5) h2 hk5)
  clear hq hI hv hR hK t hT hE hKw hls
  by_cases hlm : least ≤ made
  · have q1 : decide ((least : Int) ≤ (made : Int)) = true := decide_eq_true (by omega)
    rw [decide_eq_true hlm, Bool.true_and] at HC
    by_cases hea : at' = at0
    · subst hea
      rw [decide_eq_true rfl] at HC
      go_enter Tryz.func75, Tryz.ntmps75
      go_wp2_with fail
      go_region_held3 (fun w' => w'.cell? ⟨rb, 0, none⟩ = some (.pointer (some ⟨b, 0, none⟩)) ∧ w'.cell? ⟨rb, 2, none⟩ = some (.int .i64 (made : Int)) ∧ w'.cell? ⟨rb, 3, none⟩ = some (.int .i64 (at' : Int)) ∧ w'.cell? ⟨rb, 4, none⟩ = some (.pointer z) ∧ w'.cell? ⟨b, 260, none⟩ = some (.int .i64 (least : Int))) (go_keep)
        (first
          | (go_at_call 76; refine (HC.out _ (Touch.refl _ _).drew).mono ?_; rintro e w2 hG; have hcd := hG.code; subst hcd; have tt := hG.touch; have HG := Lib.hid (hG.from (Touch.refl (fun b => b = c.bt) w).drew (Nat.le_refl _)); have d0 := tt.has (show w.drew.cell? ⟨rb, 0, none⟩ = _ from r0) HB.out.1; have d2 := tt.has (show w.drew.cell? ⟨rb, 2, none⟩ = _ from r2) HB.out.1; have d3 := tt.has (show w.drew.cell? ⟨rb, 3, none⟩ = _ from r3) HB.out.1; have d4 := tt.has (show w.drew.cell? ⟨rb, 4, none⟩ = _ from r4) HB.out.1; have d5 := tt.has (show w.drew.cell? ⟨b, 260, none⟩ = _ from k260) HB.out.2; clear hG tt))
      go_wp2_with fail
      go_ret
      exact HG.out
    · rw [decide_eq_false hea] at HC
      have q2 : ((at' : Int) == (at0 : Int)) = false := by simp; omega
      go_enter Tryz.func75, Tryz.ntmps75
      go_wp2_with fail
      go_region_held3 (fun w' => w'.cell? ⟨rb, 0, none⟩ = some (.pointer (some ⟨b, 0, none⟩)) ∧ w'.cell? ⟨rb, 2, none⟩ = some (.int .i64 (made : Int)) ∧ w'.cell? ⟨rb, 3, none⟩ = some (.int .i64 (at0 : Int)) ∧ w'.cell? ⟨rb, 4, none⟩ = some (.pointer z) ∧ w'.cell? ⟨b, 260, none⟩ = some (.int .i64 (least : Int))) (go_keep)
        (first
          | (go_at_call 76; refine (HC.out _ (Touch.refl _ _).drew).mono ?_; rintro e w2 hG; have hcd := hG.code; subst hcd; have tt := hG.touch; have HG := Lib.hid (hG.from (Touch.refl (fun b => b = c.bt) w).drew (Nat.le_refl _)); have d0 := tt.has (show w.drew.cell? ⟨rb, 0, none⟩ = _ from r0) HB.out.1; have d2 := tt.has (show w.drew.cell? ⟨rb, 2, none⟩ = _ from r2) HB.out.1; have d3 := tt.has (show w.drew.cell? ⟨rb, 3, none⟩ = _ from r3) HB.out.1; have d4 := tt.has (show w.drew.cell? ⟨rb, 4, none⟩ = _ from r4) HB.out.1; have d5 := tt.has (show w.drew.cell? ⟨b, 260, none⟩ = _ from k260) HB.out.2; clear hG tt))
      go_wp2_with fail
      go_ret
      exact HG.out
  · have q1 : decide ((least : Int) ≤ (made : Int)) = false := decide_eq_false (by omega)
    rw [decide_eq_false hlm, Bool.false_and] at HC
    go_enter Tryz.func75, Tryz.ntmps75
    go_wp2_with fail
    refine wp_region_held_drew (S := (fun w' => w'.cell? ⟨rb, 0, none⟩ = some (.pointer (some ⟨b, 0, none⟩)) ∧ w'.cell? ⟨rb, 2, none⟩ = some (.int .i64 (made : Int)) ∧ w'.cell? ⟨rb, 3, none⟩ = some (.int .i64 (at0 : Int)) ∧ w'.cell? ⟨rb, 4, none⟩ = some (.pointer z) ∧ w'.cell? ⟨b, 260, none⟩ = some (.int .i64 (least : Int)))) (by kernel_rfl) ⟨r0, r2, r3, r4, k260⟩ (fun hHeld => ?_)
    refine wpAnyH_take (i := 0) (v := ?_) rfl (by kernel_rfl) (by kernel_rfl) (by kernel_rfl) (fun _ _ _ h => h) (Or.inl ⟨by rfl, ?_⟩) hHeld ?_
    rotate_left
    · intro w' hSw; (try dsimp only at hSw); go_simp; (try with_reducible rfl)
    (try simp only [Act.put, List.getElem_toArray, List.getElem_cons_zero, List.getElem_cons_succ, List.setIfInBounds_toArray, List.set_cons_zero, List.set_cons_succ])
    refine wpAnyH_take (i := 1) (v := ?_) rfl (by kernel_rfl) (by kernel_rfl) (by kernel_rfl) (fun _ _ _ h => h) (Or.inl ⟨by rfl, ?_⟩) hHeld ?_
    rotate_left
    · intro w' hSw; (try dsimp only at hSw); go_simp; (try with_reducible rfl)
    (try simp only [Act.put, List.getElem_toArray, List.getElem_cons_zero, List.getElem_cons_succ, List.setIfInBounds_toArray, List.set_cons_zero, List.set_cons_succ])
    refine wpAnyH_take (i := 2) (v := ?_) rfl (by kernel_rfl) (by kernel_rfl) (by kernel_rfl) (fun _ _ _ h => h) (Or.inl ⟨by rfl, ?_⟩) hHeld ?_
    rotate_left
    · intro w' hSw; (try dsimp only at hSw); go_simp; (try with_reducible rfl)
    (try simp only [Act.put, List.getElem_toArray, List.getElem_cons_zero, List.getElem_cons_succ, List.setIfInBounds_toArray, List.set_cons_zero, List.set_cons_succ])
    refine wpAnyH_take (i := 3) (v := ?_) rfl (by kernel_rfl) (by kernel_rfl) (by kernel_rfl) (fun _ _ _ h => h) (Or.inl ⟨by rfl, ?_⟩) hHeld ?_
    rotate_left
    · intro w' hSw; (try dsimp only at hSw); go_simp; (try with_reducible rfl)
    (try simp only [Act.put, List.getElem_toArray, List.getElem_cons_zero, List.getElem_cons_succ, List.setIfInBounds_toArray, List.set_cons_zero, List.set_cons_succ])
    refine wpAnyH_take (i := 4) (v := ?_) rfl (by kernel_rfl) (by kernel_rfl) (by kernel_rfl) (fun _ _ _ h => h) (Or.inl ⟨by rfl, ?_⟩) hHeld ?_
    rotate_left
    · intro w' hSw; (try dsimp only at hSw); go_simp; (try with_reducible rfl)
    (try simp only [Act.put, List.getElem_toArray, List.getElem_cons_zero, List.getElem_cons_succ, List.setIfInBounds_toArray, List.set_cons_zero, List.set_cons_succ])
    refine wpAnyH_take (i := 5) (v := ?_) rfl (by kernel_rfl) (by kernel_rfl) (by kernel_rfl) (fun _ _ _ h => h) (Or.inl ⟨by rfl, ?_⟩) hHeld ?_
    rotate_left
    · intro w' hSw; (try dsimp only at hSw); go_simp; (try with_reducible rfl)
    (try simp only [Act.put, List.getElem_toArray, List.getElem_cons_zero, List.getElem_cons_succ, List.setIfInBounds_toArray, List.set_cons_zero, List.set_cons_succ])
    refine wpAnyH_take (i := 6) (v := ?_) rfl (by kernel_rfl) (by kernel_rfl) (by kernel_rfl) (fun _ _ _ h => h) (Or.inl ⟨by rfl, ?_⟩) hHeld ?_
    rotate_left
    · intro w' hSw; (try dsimp only at hSw); go_simp; (try with_reducible rfl)
    (try simp only [Act.put, List.getElem_toArray, List.getElem_cons_zero, List.getElem_cons_succ, List.setIfInBounds_toArray, List.set_cons_zero, List.set_cons_succ])
    refine wpAnyH_take (i := 7) (v := ?_) rfl (by kernel_rfl) (by kernel_rfl) (by kernel_rfl) (fun _ _ _ h => h) (Or.inl ⟨by rfl, ?_⟩) hHeld ?_
    rotate_left
    · intro w' hSw; (try dsimp only at hSw); go_simp; (try with_reducible rfl)
    (try simp only [Act.put, List.getElem_toArray, List.getElem_cons_zero, List.getElem_cons_succ, List.setIfInBounds_toArray, List.set_cons_zero, List.set_cons_succ])
    refine wpAnyH_take (i := 8) (v := ?_) rfl (by kernel_rfl) (by kernel_rfl) (by kernel_rfl) (fun _ _ _ h => h) (Or.inl ⟨by rfl, ?_⟩) hHeld ?_
    rotate_left
    · intro w' hSw; (try dsimp only at hSw); go_simp; (try with_reducible rfl)
    (try simp only [Act.put, List.getElem_toArray, List.getElem_cons_zero, List.getElem_cons_succ, List.setIfInBounds_toArray, List.set_cons_zero, List.set_cons_succ])
    refine wpAnyH_take (i := 9) (v := ?_) rfl (by kernel_rfl) (by kernel_rfl) (by kernel_rfl) (fun _ _ _ h => h) (Or.inl ⟨by rfl, ?_⟩) hHeld ?_
    rotate_left
    · intro w' hSw; (try dsimp only at hSw); go_simp; (try with_reducible rfl)
    (try simp only [Act.put, List.getElem_toArray, List.getElem_cons_zero, List.getElem_cons_succ, List.setIfInBounds_toArray, List.set_cons_zero, List.set_cons_succ])
    refine wpAnyH_take (i := 10) (v := ?_) rfl (by kernel_rfl) (by kernel_rfl) (by kernel_rfl) (fun _ _ _ h => h) (Or.inl ⟨by rfl, ?_⟩) hHeld ?_
    rotate_left
    · intro w' hSw; (try dsimp only at hSw); go_simp; (try with_reducible rfl)
    (try simp only [Act.put, List.getElem_toArray, List.getElem_cons_zero, List.getElem_cons_succ, List.setIfInBounds_toArray, List.set_cons_zero, List.set_cons_succ])
    refine wpAnyH_take (i := 11) (v := ?_) rfl (by kernel_rfl) (by kernel_rfl) (by kernel_rfl) (fun _ _ _ h => h) (Or.inl ⟨by rfl, ?_⟩) hHeld ?_
    rotate_left
    · intro w' hSw; (try dsimp only at hSw); go_simp; (try with_reducible rfl)
    (try simp only [Act.put, List.getElem_toArray, List.getElem_cons_zero, List.getElem_cons_succ, List.setIfInBounds_toArray, List.set_cons_zero, List.set_cons_succ])
    refine wpAnyH_take (i := 12) (v := ?_) rfl (by kernel_rfl) (by kernel_rfl) (by kernel_rfl) (fun _ _ _ h => h) (Or.inl ⟨by rfl, ?_⟩) hHeld ?_
    rotate_left
    · intro w' hSw; (try dsimp only at hSw); go_simp; (try with_reducible rfl)
    (try simp only [Act.put, List.getElem_toArray, List.getElem_cons_zero, List.getElem_cons_succ, List.setIfInBounds_toArray, List.set_cons_zero, List.set_cons_succ])
    refine wpAnyH_take (i := 13) (v := ?_) rfl (by kernel_rfl) (by kernel_rfl) (by kernel_rfl) (fun _ _ _ h => h) (Or.inl ⟨by rfl, ?_⟩) hHeld ?_
    rotate_left
    · intro w' hSw; (try dsimp only at hSw); go_simp; (try with_reducible rfl)
    (try simp only [Act.put, List.getElem_toArray, List.getElem_cons_zero, List.getElem_cons_succ, List.setIfInBounds_toArray, List.set_cons_zero, List.set_cons_succ])
    refine wpAnyH_take (i := 14) (v := ?_) rfl (by kernel_rfl) (by kernel_rfl) (by kernel_rfl) (fun _ _ _ h => h) (Or.inl ⟨by rfl, ?_⟩) hHeld ?_
    rotate_left
    · intro w' hSw; (try dsimp only at hSw); go_simp; (try with_reducible rfl)
    (try simp only [Act.put, List.getElem_toArray, List.getElem_cons_zero, List.getElem_cons_succ, List.setIfInBounds_toArray, List.set_cons_zero, List.set_cons_succ])
    refine wpAnyH_take (i := 15) (v := ?_) rfl (by kernel_rfl) (by kernel_rfl) (by kernel_rfl) (fun _ _ _ h => h) (Or.inl ⟨by rfl, ?_⟩) hHeld ?_
    rotate_left
    · intro w' hSw; (try dsimp only at hSw); go_simp; (try with_reducible rfl)
    (try simp only [Act.put, List.getElem_toArray, List.getElem_cons_zero, List.getElem_cons_succ, List.setIfInBounds_toArray, List.set_cons_zero, List.set_cons_succ])
    refine wpAnyH_take (i := 16) (v := ?_) rfl (by kernel_rfl) (by kernel_rfl) (by kernel_rfl) (fun _ _ _ h => h) (Or.inl ⟨by rfl, ?_⟩) hHeld ?_
    rotate_left
    · intro w' hSw; (try dsimp only at hSw); go_simp; (try with_reducible rfl)
    (try simp only [Act.put, List.getElem_toArray, List.getElem_cons_zero, List.getElem_cons_succ, List.setIfInBounds_toArray, List.set_cons_zero, List.set_cons_succ])
    refine wpAnyH_take (i := 17) (v := ?_) rfl (by kernel_rfl) (by kernel_rfl) (by kernel_rfl) (fun _ _ _ h => h) (Or.inl ⟨by rfl, ?_⟩) hHeld ?_
    rotate_left
    · intro w' hSw; (try dsimp only at hSw); go_simp; (try with_reducible rfl)
    (try simp only [Act.put, List.getElem_toArray, List.getElem_cons_zero, List.getElem_cons_succ, List.setIfInBounds_toArray, List.set_cons_zero, List.set_cons_succ])
    refine wpAnyH_take (i := 18) (v := ?_) rfl (by kernel_rfl) (by kernel_rfl) (by kernel_rfl) (fun _ _ _ h => h) (Or.inl ⟨by rfl, ?_⟩) hHeld ?_
    rotate_left
    · intro w' hSw; (try dsimp only at hSw); go_simp; (try with_reducible rfl)
    (try simp only [Act.put, List.getElem_toArray, List.getElem_cons_zero, List.getElem_cons_succ, List.setIfInBounds_toArray, List.set_cons_zero, List.set_cons_succ])
    refine wpAnyH_take (i := 19) (v := ?_) rfl (by kernel_rfl) (by kernel_rfl) (by kernel_rfl) (fun _ _ _ h => h) (Or.inl ⟨by rfl, ?_⟩) hHeld ?_
    rotate_left
    · intro w' hSw; (try dsimp only at hSw); go_simp; (try with_reducible rfl)
    (try simp only [Act.put, List.getElem_toArray, List.getElem_cons_zero, List.getElem_cons_succ, List.setIfInBounds_toArray, List.set_cons_zero, List.set_cons_succ])
    refine wpAnyH_take (i := 20) (v := ?_) rfl (by kernel_rfl) (by kernel_rfl) (by kernel_rfl) (fun _ _ _ h => h) (Or.inl ⟨by rfl, ?_⟩) hHeld ?_
    rotate_left
    · intro w' hSw; (try dsimp only at hSw); go_simp; (try with_reducible rfl)
    (try simp only [Act.put, List.getElem_toArray, List.getElem_cons_zero, List.getElem_cons_succ, List.setIfInBounds_toArray, List.set_cons_zero, List.set_cons_succ])
    refine wpAnyH_take (i := 21) (v := ?_) rfl (by kernel_rfl) (by kernel_rfl) (by kernel_rfl) (fun _ _ _ h => h) (Or.inl ⟨by rfl, ?_⟩) hHeld ?_
    rotate_left
    · intro w' hSw; (try dsimp only at hSw); go_simp; (try with_reducible rfl)
    (try simp only [Act.put, List.getElem_toArray, List.getElem_cons_zero, List.getElem_cons_succ, List.setIfInBounds_toArray, List.set_cons_zero, List.set_cons_succ])
    refine wpAnyH_take (i := 22) (v := ?_) rfl (by kernel_rfl) (by kernel_rfl) (by kernel_rfl) (fun _ _ _ h => h) (Or.inl ⟨by rfl, ?_⟩) hHeld ?_
    rotate_left
    · intro w' hSw; (try dsimp only at hSw); go_simp; (try with_reducible rfl)
    (try simp only [Act.put, List.getElem_toArray, List.getElem_cons_zero, List.getElem_cons_succ, List.setIfInBounds_toArray, List.set_cons_zero, List.set_cons_succ])
    refine wpAnyH_take (i := 23) (v := undef) rfl (by kernel_rfl) (by kernel_rfl) (by kernel_rfl) (fun _ _ _ h => h) (Or.inr ⟨by rfl, rfl⟩) hHeld ?_
    (try simp only [Act.put, List.getElem_toArray, List.getElem_cons_zero, List.getElem_cons_succ, List.setIfInBounds_toArray, List.set_cons_zero, List.set_cons_succ])
    refine wpAnyH_take (i := 24) (v := undef) rfl (by kernel_rfl) (by kernel_rfl) (by kernel_rfl) (fun _ _ _ h => h) (Or.inr ⟨by rfl, rfl⟩) hHeld ?_
    (try simp only [Act.put, List.getElem_toArray, List.getElem_cons_zero, List.getElem_cons_succ, List.setIfInBounds_toArray, List.set_cons_zero, List.set_cons_succ])
    refine wpAnyH_take (i := 25) (v := undef) rfl (by kernel_rfl) (by kernel_rfl) (by kernel_rfl) (fun _ _ _ h => h) (Or.inr ⟨by rfl, rfl⟩) hHeld ?_
    (try simp only [Act.put, List.getElem_toArray, List.getElem_cons_zero, List.getElem_cons_succ, List.setIfInBounds_toArray, List.set_cons_zero, List.set_cons_succ])
    refine wpAnyH_take (i := 26) (v := undef) rfl (by kernel_rfl) (by kernel_rfl) (by kernel_rfl) (fun _ _ _ h => h) (Or.inr ⟨by rfl, rfl⟩) hHeld ?_
    (try simp only [Act.put, List.getElem_toArray, List.getElem_cons_zero, List.getElem_cons_succ, List.setIfInBounds_toArray, List.set_cons_zero, List.set_cons_succ])
    refine wpAnyH_take (i := 27) (v := undef) rfl (by kernel_rfl) (by kernel_rfl) (by kernel_rfl) (fun _ _ _ h => h) (Or.inr ⟨by rfl, rfl⟩) hHeld ?_
    (try simp only [Act.put, List.getElem_toArray, List.getElem_cons_zero, List.getElem_cons_succ, List.setIfInBounds_toArray, List.set_cons_zero, List.set_cons_succ])
    refine wpAnyH_take (i := 28) (v := undef) rfl (by kernel_rfl) (by kernel_rfl) (by kernel_rfl) (fun _ _ _ h => h) (Or.inr ⟨by rfl, rfl⟩) hHeld ?_
    (try simp only [Act.put, List.getElem_toArray, List.getElem_cons_zero, List.getElem_cons_succ, List.setIfInBounds_toArray, List.set_cons_zero, List.set_cons_succ])
    refine wpAnyH_take (i := 29) (v := ?_) rfl (by kernel_rfl) (by kernel_rfl) (by kernel_rfl) (fun _ _ _ h => h) (Or.inl ⟨by rfl, ?_⟩) hHeld ?_
    rotate_left
    · intro w' hSw; (try dsimp only at hSw); go_simp; (try with_reducible rfl)
    (try simp only [Act.put, List.getElem_toArray, List.getElem_cons_zero, List.getElem_cons_succ, List.setIfInBounds_toArray, List.set_cons_zero, List.set_cons_succ])
    refine wpAnyH_take (i := 30) (v := ?_) rfl (by kernel_rfl) (by kernel_rfl) (by kernel_rfl) (fun _ _ _ h => h) (Or.inl ⟨by rfl, ?_⟩) hHeld ?_
    rotate_left
    · intro w' hSw; (try dsimp only at hSw); go_simp; (try with_reducible rfl)
    (try simp only [Act.put, List.getElem_toArray, List.getElem_cons_zero, List.getElem_cons_succ, List.setIfInBounds_toArray, List.set_cons_zero, List.set_cons_succ])
    refine wpAnyH_take (i := 31) (v := ?_) rfl (by kernel_rfl) (by kernel_rfl) (by kernel_rfl) (fun _ _ _ h => h) (Or.inl ⟨by rfl, ?_⟩) hHeld ?_
    rotate_left
    · intro w' hSw; (try dsimp only at hSw); go_simp; (try with_reducible rfl)
    (try simp only [Act.put, List.getElem_toArray, List.getElem_cons_zero, List.getElem_cons_succ, List.setIfInBounds_toArray, List.set_cons_zero, List.set_cons_succ])
    refine wpAnyH_take (i := 32) (v := ?_) rfl (by kernel_rfl) (by kernel_rfl) (by kernel_rfl) (fun _ _ _ h => h) (Or.inl ⟨by rfl, ?_⟩) hHeld ?_
    rotate_left
    · intro w' hSw; (try dsimp only at hSw); go_simp; (try with_reducible rfl)
    (try simp only [Act.put, List.getElem_toArray, List.getElem_cons_zero, List.getElem_cons_succ, List.setIfInBounds_toArray, List.set_cons_zero, List.set_cons_succ])
    refine wpAnyH_take (i := 33) (v := ?_) rfl (by kernel_rfl) (by kernel_rfl) (by kernel_rfl) (fun _ _ _ h => h) (Or.inl ⟨by rfl, ?_⟩) hHeld ?_
    rotate_left
    · intro w' hSw; (try dsimp only at hSw); go_simp; (try with_reducible rfl)
    (try simp only [Act.put, List.getElem_toArray, List.getElem_cons_zero, List.getElem_cons_succ, List.setIfInBounds_toArray, List.set_cons_zero, List.set_cons_succ])
    refine wpAnyH_take (i := 34) (v := ?_) rfl (by kernel_rfl) (by kernel_rfl) (by kernel_rfl) (fun _ _ _ h => h) (Or.inl ⟨by rfl, ?_⟩) hHeld ?_
    rotate_left
    · intro w' hSw; (try dsimp only at hSw); go_simp; (try with_reducible rfl)
    (try simp only [Act.put, List.getElem_toArray, List.getElem_cons_zero, List.getElem_cons_succ, List.setIfInBounds_toArray, List.set_cons_zero, List.set_cons_succ])
    refine wpAnyH_ready (rs := [35]) (by kernel_rfl) (by simp) ?_
    refine AllReadyH.cons rfl (fun K hK => ?_) AllReadyH.nil
    (try simp only [List.getElem_toArray, List.getElem_cons_zero, List.getElem_cons_succ])
    go_simp
    refine (HC.out w.drew (Touch.refl _ _).drew).mono ?_
    intro e w2 hG
    have hcd := hG.code
    subst hcd
    have tt := hG.touch
    have HG := Lib.hid (hG.from (Touch.refl (fun b => b = c.bt) w).drew (Nat.le_refl _))
    refine hK.out _ _ ⟨tt.has (show w.drew.cell? ⟨rb, 0, none⟩ = _ from r0) HB.out.1, tt.has (show w.drew.cell? ⟨rb, 2, none⟩ = _ from r2) HB.out.1, tt.has (show w.drew.cell? ⟨rb, 3, none⟩ = _ from r3) HB.out.1, tt.has (show w.drew.cell? ⟨rb, 4, none⟩ = _ from r4) HB.out.1, tt.has (show w.drew.cell? ⟨b, 260, none⟩ = _ from k260) HB.out.2⟩ (fun hHeld => ?_)
    clear hK hG tt
    (try simp only [Act.put, List.getElem_toArray, List.getElem_cons_zero, List.getElem_cons_succ, List.setIfInBounds_toArray, List.set_cons_zero, List.set_cons_succ])
    refine wpAnyH_take (i := 36) (v := ?_) rfl (by kernel_rfl) (by kernel_rfl) (by kernel_rfl) (fun _ _ _ h => h) (Or.inl ⟨by rfl, ?_⟩) hHeld ?_
    rotate_left
    · intro w' hSw; (try dsimp only at hSw); go_simp; (try with_reducible rfl)
    (try simp only [Act.put, List.getElem_toArray, List.getElem_cons_zero, List.getElem_cons_succ, List.setIfInBounds_toArray, List.set_cons_zero, List.set_cons_succ])
    refine wpAnyH_done (by kernel_rfl) ?_ _
    go_wp2_with fail
    go_ret
    exact HG.out
end Go.Proofs.YtlgpilcjcomacaaGreat

/-
  The document's rounds, and its run at a repeat. (Printed by wip/tools/rounds07.py.)
-/
namespace Go.Proofs.YtlgpilcjcomacaaGreat
open Go.RowKit Rx
set_option linter.unusedVariables false
attribute [local go_sem ↓] Go.wp_at_zero Go.wp_at_succ

set_option maxRecDepth 100000 in
set_option maxHeartbeats 2000000 in
theorem rounds_E (c : Cr) (b : Nat) (v : NV) (hv : NodeB c.wT b v) (hb : b ≠ c.bt) (least : Nat) (most : Int) (lazy : Bool) (hls : v.lo = (least : Int)) (hhi : v.hi = most) (hlz : v.lazy = lazy) (hmm : most = -1 ∨ ((least : Int) ≤ most ∧ most ≤ 100)) : RoundsE c b least := by
  intro made at' kv k n g w hlm hm2 hI ha hK
  have hKx := hK
  obtain ⟨⟨z, rfl⟩, -⟩ := hKx
  have k260 := (hI.node hv hb).c260
  have k261 := (hI.node hv hb).c261
  have k262 := (hI.node hv hb).c262
  rw [hls] at k260
  rw [hhi] at k261
  rw [hlz] at k262
  have q0 : decide ((made : Int) < (least : Int)) = false := decide_eq_false (by omega)
  obtain ⟨w1, hw1⟩ : ∃ w1, w.alloc (.cells #[.pointer (some ⟨b, 0, none⟩), .int .i64 10, .int .i64 (made : Int), .int .i64 (at' : Int), .pointer z] 144) = w1 := ⟨_, rfl⟩
  have t1 : Still w w1 := by rw [← hw1]; exact (Touch.refl _ _).alloc _
  have k260 := t1.has k260 id
  have k261 := t1.has k261 id
  have k262 := t1.has k262 id
  have HT1 : Hid (Touch (fun b => b = c.bt) w w1) := Lib.hid (t1.mono (fun _ _ e => e.elim))
  obtain ⟨q, hq⟩ : ∃ q, k at' n g = q := ⟨_, rfl⟩
  have HC : Hid (Calls Tryz.prog 75 #[.pointer (some ⟨c.bt, 0, none⟩), .pointer z, .int .i64 (at' : Int)] w1 (GotR c w1 at' g q)) := Lib.hid (by rw [← hq]; exact hK.2 w1 at' n g HT1.out (hI.keep t1) (Nat.le_refl _) ha)
  rw [hq]
  clear hq hI hv hK t1 hls hhi hlz
  rcases hmm with hm1 | ⟨hm1, hm3⟩
  · subst hm1
    cases lazy with
    | false =>
      go_enter Tryz.func76, Tryz.ntmps76
      go_wp2_with fail
      refine HC.out.mono ?_
      intro e w' hG
      have HG := Lib.hid (hG.from HT1.out (Nat.le_refl _))
      have hc := hG.code
      subst hc
      clear hG
      go_wp2_with fail
      go_ret
      exact HG.out
    | true =>
      go_enter Tryz.func76, Tryz.ntmps76
      go_wp2_with fail
      refine HC.out.mono ?_
      intro e w' hG
      have HG := Lib.hid (hG.from HT1.out (Nat.le_refl _))
      cases q with
      | over =>
        obtain ⟨rfl, -⟩ := hG
        go_wp2_with fail
        go_ret
        exact HG.out
      | no n2 =>
        obtain ⟨rfl, -⟩ := hG
        go_wp2_with fail
        go_ret
        exact HG.out
      | yes n2 g2 x2 =>
        obtain ⟨rfl, -⟩ := hG
        go_wp2_with fail
        go_ret
        exact HG.out
  · have p1 : decide (most < 0) = false := decide_eq_false (by omega)
    by_cases hlt : (made : Int) < most
    · have p2 : decide ((made : Int) < most) = true := decide_eq_true hlt
      cases lazy with
      | false =>
        go_enter Tryz.func76, Tryz.ntmps76
        go_wp2_with fail
        refine HC.out.mono ?_
        intro e w' hG
        have HG := Lib.hid (hG.from HT1.out (Nat.le_refl _))
        have hc := hG.code
        subst hc
        clear hG
        go_wp2_with fail
        go_ret
        exact HG.out
      | true =>
        go_enter Tryz.func76, Tryz.ntmps76
        go_wp2_with fail
        refine HC.out.mono ?_
        intro e w' hG
        have HG := Lib.hid (hG.from HT1.out (Nat.le_refl _))
        cases q with
        | over =>
          obtain ⟨rfl, -⟩ := hG
          go_wp2_with fail
          go_ret
          exact HG.out
        | no n2 =>
          obtain ⟨rfl, -⟩ := hG
          go_wp2_with fail
          go_ret
          exact HG.out
        | yes n2 g2 x2 =>
          obtain ⟨rfl, -⟩ := hG
          go_wp2_with fail
          go_ret
          exact HG.out
    · have p2 : decide ((made : Int) < most) = false := decide_eq_false hlt
      cases lazy with
      | false =>
        go_enter Tryz.func76, Tryz.ntmps76
        go_wp2_with fail
        refine HC.out.mono ?_
        intro e w' hG
        have HG := Lib.hid (hG.from HT1.out (Nat.le_refl _))
        have hc := hG.code
        subst hc
        clear hG
        go_wp2_with fail
        go_ret
        exact HG.out
      | true =>
        go_enter Tryz.func76, Tryz.ntmps76
        go_wp2_with fail
        refine HC.out.mono ?_
        intro e w' hG
        have HG := Lib.hid (hG.from HT1.out (Nat.le_refl _))
        cases q with
        | over =>
          obtain ⟨rfl, -⟩ := hG
          go_wp2_with fail
          go_ret
          exact HG.out
        | no n2 =>
          obtain ⟨rfl, -⟩ := hG
          go_wp2_with fail
          go_ret
          exact HG.out
        | yes n2 g2 x2 =>
          obtain ⟨rfl, -⟩ := hG
          go_wp2_with fail
          go_ret
          exact HG.out

set_option maxRecDepth 100000 in
set_option maxHeartbeats 4000000 in
theorem rounds_step (c : Cr) (y : Re) (b : Nat) (v : NV) (hv : NodeB c.wT b v) (hb : b ≠ c.bt) (least : Nat) (most : Int) (lazy : Bool) (hls : v.lo = (least : Int)) (hhi : v.hi = most) (hlz : v.lazy = lazy) (hl100 : least ≤ 100) (hmm : most = -1 ∨ ((least : Int) ≤ most ∧ most ≤ 100)) (p : Value) (hkid : KidD (fun b => b ≠ c.bt) c.wT v p) (hpp : ∃ x, p = .pointer x) (hY : RunOK c p (run (str c.s) c.B y)) (fuel : Nat) (hT : RoundsOK c y b least most lazy fuel) : RoundsOK c y b least most lazy (fuel + 1) := by
  intro made at' kv k n g w hm hmf hI ha hK
  have hE := rounds_E c b v hv hb least most lazy hls hhi hlz hmm
  have hKx := hK
  obtain ⟨⟨z, rfl⟩, -⟩ := hKx
  obtain ⟨px, rfl⟩ := hpp
  obtain ⟨kb, ko, hkx, hkl, hkc, hkb, hcell⟩ := hkid
  have HV := Lib.hid hv
  have HCELL := Lib.hid hcell
  have HBB : Hid (b ≠ c.bt ∧ kb ≠ c.bt) := Lib.hid ⟨hb, hkb⟩
  obtain ⟨w1, hw1⟩ : ∃ w1, w.alloc (.cells #[.pointer (some ⟨b, 0, none⟩), .int .i64 10, .int .i64 (made : Int), .int .i64 (at' : Int), .pointer z] 144) = w1 := ⟨_, rfl⟩
  have t1 : Still w w1 := by rw [← hw1]; exact (Touch.refl _ _).alloc _
  have hI1 := hI.keep t1
  have k260 := (hI1.node hv hb).c260
  have k261 := (hI1.node hv hb).c261
  have k262 := (hI1.node hv hb).c262
  have k259 := (hI1.node hv hb).c259
  have kcell := hI1.tree hcell hkb
  rw [hls] at k260
  rw [hhi] at k261
  rw [hlz] at k262
  rw [hkx, hkl] at k259
  have HK9 : Hid (Value.slice v.kx v.kl v.kc = .slice (some ⟨kb, ko, none⟩) 1 v.kc) := Lib.hid (by rw [hkx, hkl])
  have HT1 : Hid (Touch (fun b => b = c.bt) w w1) := Lib.hid (t1.mono (fun _ _ e => e.elim))
  have hlt := hI.lt
  have hrb : RestC w1 w.heap.size (.pointer (some ⟨b, 0, none⟩)) 10 (made : Int) (at' : Int) (.pointer z) := by rw [← hw1]; exact RestC.made w _ _ _ _ _
  have hR1 := rgo_rep c y b w.heap.size v hv hb least most lazy hls fuel made at' hT hE hm hmf _ k w1 hrb (by omega) (hK.later HT1.out (Nat.le_refl _))
  have HM : Hid (∀ (w' : World) (n' : Nat), Touch (fun b => b = c.bt) w1 w' → IR c n' g w' → Calls Tryz.prog 53 #[.pointer (some ⟨c.bt, 0, none⟩), .pointer px, .int .i64 (at' : Int), .pointer (some ⟨w.heap.size, 0, none⟩)] w' (GotR c w' at' g (run (str c.s) c.B y at' (roundK (run (str c.s) c.B y) least most lazy fuel made at' k) n' g))) := Lib.hid (fun w' n' t hI' => hY at' _ _ n' g w' hI' ha (hR1.later t (Nat.le_refl _)))
  have HKK : Hid (∀ (w' : World) (n' : Nat), Touch (fun b => b = c.bt) w1 w' → IR c n' g w' → Calls Tryz.prog 75 #[.pointer (some ⟨c.bt, 0, none⟩), .pointer z, .int .i64 (at' : Int)] w' (GotR c w' at' g (k at' n' g))) := Lib.hid (fun w' n' t hI' => hK.2 w' at' n' g (HT1.out.then t) hI' (Nat.le_refl _) ha)
  have HI1 := Lib.hid hI1
  have HTS := Lib.hid (times_succ (run (str c.s) c.B y) least most lazy fuel made at' k n g)
  have HMORE : Hid (∀ n, moreR (run (str c.s) c.B y) least most lazy fuel made at' k g n = if most ≠ -1 ∧ most ≤ (made : Int) then .no n else run (str c.s) c.B y at' (roundK (run (str c.s) c.B y) least most lazy fuel made at' k) n g) := Lib.hid (fun _ => rfl)
  generalize run (str c.s) c.B y at' (roundK (run (str c.s) c.B y) least most lazy fuel made at' k) = kid at HM HMORE
  clear hI hI1 hv hK t1 hls hhi hlz hT hE hR1 hrb hY hcell hlt hkx hkl
  generalize times (run (str c.s) c.B y) least most lazy (fuel + 1) made at' k n g = res at HTS ⊢
  generalize moreR (run (str c.s) c.B y) least most lazy fuel made at' k g = more at HTS HMORE
  by_cases hlm : made < least
  · have q0 : decide ((made : Int) < (least : Int)) = true := decide_eq_true (by omega)
    have HR : Hid (res = kid n g) := Lib.hid (by rw [HTS.out, if_pos hlm, HMORE.out, if_neg (by rintro ⟨h1, h2⟩; rcases hmm with h | ⟨h, -⟩ <;> omega)])
    rw [HR.out]
    clear HTS HMORE HR
    go_enter Tryz.func76, Tryz.ntmps76
    go_wp2_with fail
    refine (HM.out w1 n (Touch.refl _ _) HI1.out).mono ?_
    intro e w' hG
    have HG := Lib.hid (hG.from HT1.out (Nat.le_refl _))
    have hc := hG.code
    subst hc
    clear hG
    go_wp2_with fail
    go_ret
    exact HG.out
  · have q0 : decide ((made : Int) < (least : Int)) = false := decide_eq_false (by omega)
    have hts := HTS.out
    rw [if_neg hlm] at hts
    have HTS := Lib.hid hts
    clear hts
    rcases hmm with hm1 | ⟨hm1, hm3⟩
    · subst hm1
      cases lazy with
      | false =>
        obtain ⟨q, hq⟩ : ∃ q, kid n g = q := ⟨_, rfl⟩
        have HR : Hid (res = orElse q (fun n => k at' n g)) := Lib.hid (by rw [HTS.out, ← hq]; show orElse (more n) _ = _; rw [HMORE.out, if_neg (by omega)])
        have HC := Lib.hid (HM.out w1 n (Touch.refl _ _) HI1.out)
        rw [hq] at HC
        rw [HR.out]
        clear HTS HMORE HR HM hq
        go_enter Tryz.func76, Tryz.ntmps76
        go_wp2_with fail
        refine HC.out.mono ?_
        intro e w2 hG
        cases q with
        | over =>
          have HG := Lib.hid (hG.from HT1.out (Nat.le_refl _))
          obtain ⟨rfl, -⟩ := hG
          go_wp2_with fail
          go_ret
          exact HG.out
        | yes n2 g2 x2 =>
          have HG := Lib.hid (hG.from HT1.out (Nat.le_refl _))
          obtain ⟨rfl, -⟩ := hG
          go_wp2_with fail
          go_ret
          exact HG.out
        | no n2 =>
          obtain ⟨rfl, hI2, ht⟩ := hG
          have HI2 := Lib.hid hI2
          have HT2 := Lib.hid ht
          have HTL := Lib.hid (HT1.out.then ht)
          clear hI2 ht
          go_wp2_with fail
          refine (HKK.out w2 n2 HT2.out HI2.out).mono ?_
          intro e w' hG
          have HG := Lib.hid (hG.from HTL.out (Nat.le_refl _))
          have hc := hG.code
          subst hc
          clear hG
          go_wp2_with fail
          go_ret
          exact HG.out
      | true =>
        obtain ⟨q, hq⟩ : ∃ q, k at' n g = q := ⟨_, rfl⟩
        have HR : Hid (res = orElse q more) := Lib.hid (by rw [HTS.out, ← hq]; rfl)
        have HC := Lib.hid (HKK.out w1 n (Touch.refl _ _) HI1.out)
        rw [hq] at HC
        rw [HR.out]
        clear HTS HR HKK hq
        go_enter Tryz.func76, Tryz.ntmps76
        go_wp2_with fail
        refine HC.out.mono ?_
        intro e w2 hG
        cases q with
        | over =>
          have HG := Lib.hid (hG.from HT1.out (Nat.le_refl _))
          obtain ⟨rfl, -⟩ := hG
          go_wp2_with fail
          go_ret
          exact HG.out
        | yes n2 g2 x2 =>
          have HG := Lib.hid (hG.from HT1.out (Nat.le_refl _))
          obtain ⟨rfl, -⟩ := hG
          go_wp2_with fail
          go_ret
          exact HG.out
        | no n2 =>
          have HR2 : Hid (orElse (.no n2) more = kid n2 g) := Lib.hid (by show more n2 = _; rw [HMORE.out, if_neg (by omega)])
          obtain ⟨rfl, hI2, ht⟩ := hG
          have HI2 := Lib.hid hI2
          have HT2 := Lib.hid ht
          have HTL := Lib.hid (HT1.out.then ht)
          have k259 := (hI2.node HV.out HBB.out.1).c259
          rw [HK9.out] at k259
          have kcell := hI2.tree HCELL.out HBB.out.2
          clear hI2 ht HMORE
          go_wp2_with fail
          refine (HM.out w2 n2 HT2.out HI2.out).mono ?_
          intro e w' hG
          have HG := Lib.hid (hG.from HTL.out (Nat.le_refl _))
          have hc := hG.code
          subst hc
          clear hG
          go_wp2_with fail
          go_ret
          rw [HR2.out]
          exact HG.out
    · have p1 : decide (most < 0) = false := decide_eq_false (by omega)
      by_cases hlt : (made : Int) < most
      · have p2 : decide ((made : Int) < most) = true := decide_eq_true hlt
        cases lazy with
        | false =>
          obtain ⟨q, hq⟩ : ∃ q, kid n g = q := ⟨_, rfl⟩
          have HR : Hid (res = orElse q (fun n => k at' n g)) := Lib.hid (by rw [HTS.out, ← hq]; show orElse (more n) _ = _; rw [HMORE.out, if_neg (by omega)])
          have HC := Lib.hid (HM.out w1 n (Touch.refl _ _) HI1.out)
          rw [hq] at HC
          rw [HR.out]
          clear HTS HMORE HR HM hq
          go_enter Tryz.func76, Tryz.ntmps76
          go_wp2_with fail
          refine HC.out.mono ?_
          intro e w2 hG
          cases q with
          | over =>
            have HG := Lib.hid (hG.from HT1.out (Nat.le_refl _))
            obtain ⟨rfl, -⟩ := hG
            go_wp2_with fail
            go_ret
            exact HG.out
          | yes n2 g2 x2 =>
            have HG := Lib.hid (hG.from HT1.out (Nat.le_refl _))
            obtain ⟨rfl, -⟩ := hG
            go_wp2_with fail
            go_ret
            exact HG.out
          | no n2 =>
            obtain ⟨rfl, hI2, ht⟩ := hG
            have HI2 := Lib.hid hI2
            have HT2 := Lib.hid ht
            have HTL := Lib.hid (HT1.out.then ht)
            clear hI2 ht
            go_wp2_with fail
            refine (HKK.out w2 n2 HT2.out HI2.out).mono ?_
            intro e w' hG
            have HG := Lib.hid (hG.from HTL.out (Nat.le_refl _))
            have hc := hG.code
            subst hc
            clear hG
            go_wp2_with fail
            go_ret
            exact HG.out
        | true =>
          obtain ⟨q, hq⟩ : ∃ q, k at' n g = q := ⟨_, rfl⟩
          have HR : Hid (res = orElse q more) := Lib.hid (by rw [HTS.out, ← hq]; rfl)
          have HC := Lib.hid (HKK.out w1 n (Touch.refl _ _) HI1.out)
          rw [hq] at HC
          rw [HR.out]
          clear HTS HR HKK hq
          go_enter Tryz.func76, Tryz.ntmps76
          go_wp2_with fail
          refine HC.out.mono ?_
          intro e w2 hG
          cases q with
          | over =>
            have HG := Lib.hid (hG.from HT1.out (Nat.le_refl _))
            obtain ⟨rfl, -⟩ := hG
            go_wp2_with fail
            go_ret
            exact HG.out
          | yes n2 g2 x2 =>
            have HG := Lib.hid (hG.from HT1.out (Nat.le_refl _))
            obtain ⟨rfl, -⟩ := hG
            go_wp2_with fail
            go_ret
            exact HG.out
          | no n2 =>
            have HR2 : Hid (orElse (.no n2) more = kid n2 g) := Lib.hid (by show more n2 = _; rw [HMORE.out, if_neg (by omega)])
            obtain ⟨rfl, hI2, ht⟩ := hG
            have HI2 := Lib.hid hI2
            have HT2 := Lib.hid ht
            have HTL := Lib.hid (HT1.out.then ht)
            have k259 := (hI2.node HV.out HBB.out.1).c259
            rw [HK9.out] at k259
            have kcell := hI2.tree HCELL.out HBB.out.2
            clear hI2 ht HMORE
            go_wp2_with fail
            refine (HM.out w2 n2 HT2.out HI2.out).mono ?_
            intro e w' hG
            have HG := Lib.hid (hG.from HTL.out (Nat.le_refl _))
            have hc := hG.code
            subst hc
            clear hG
            go_wp2_with fail
            go_ret
            rw [HR2.out]
            exact HG.out
      · have p2 : decide ((made : Int) < most) = false := decide_eq_false hlt
        cases lazy with
        | false =>
          have HR : Hid (res = k at' n g) := Lib.hid (by rw [HTS.out]; show orElse (more n) _ = _; rw [HMORE.out, if_pos (by constructor <;> omega)]; rfl)
          rw [HR.out]
          have HTL := HT1
          clear HTS HMORE HR HM
          go_enter Tryz.func76, Tryz.ntmps76
          go_wp2_with fail
          refine (HKK.out w1 n (Touch.refl _ _) HI1.out).mono ?_
          intro e w' hG
          have HG := Lib.hid (hG.from HTL.out (Nat.le_refl _))
          have hc := hG.code
          subst hc
          clear hG
          go_wp2_with fail
          go_ret
          exact HG.out
        | true =>
          obtain ⟨q, hq⟩ : ∃ q, k at' n g = q := ⟨_, rfl⟩
          have HR : Hid (res = orElse q more) := Lib.hid (by rw [HTS.out, ← hq]; rfl)
          have HC := Lib.hid (HKK.out w1 n (Touch.refl _ _) HI1.out)
          rw [hq] at HC
          rw [HR.out]
          clear HTS HR HKK hq
          go_enter Tryz.func76, Tryz.ntmps76
          go_wp2_with fail
          refine HC.out.mono ?_
          intro e w2 hG
          cases q with
          | over =>
            have HG := Lib.hid (hG.from HT1.out (Nat.le_refl _))
            obtain ⟨rfl, -⟩ := hG
            go_wp2_with fail
            go_ret
            exact HG.out
          | yes n2 g2 x2 =>
            have HG := Lib.hid (hG.from HT1.out (Nat.le_refl _))
            obtain ⟨rfl, -⟩ := hG
            go_wp2_with fail
            go_ret
            exact HG.out
          | no n2 =>
            have HR2 : Hid (orElse (.no n2) more = .no n2) := Lib.hid (by show more n2 = _; rw [HMORE.out, if_pos (by constructor <;> omega)])
            have HG := Lib.hid (hG.from HT1.out (Nat.le_refl _))
            obtain ⟨rfl, -⟩ := hG
            clear HMORE
            go_wp2_with fail
            go_ret
            rw [HR2.out]
            exact HG.out

theorem rounds_any (c : Cr) (y : Re) (b : Nat) (v : NV) (hv : NodeB c.wT b v) (hb : b ≠ c.bt) (least : Nat) (most : Int) (lazy : Bool) (hls : v.lo = (least : Int)) (hhi : v.hi = most) (hlz : v.lazy = lazy) (hl100 : least ≤ 100) (hmm : most = -1 ∨ ((least : Int) ≤ most ∧ most ≤ 100)) (p : Value) (hkid : KidD (fun b => b ≠ c.bt) c.wT v p) (hpp : ∃ x, p = .pointer x) (hY : RunOK c p (run (str c.s) c.B y)) : ∀ fuel, RoundsOK c y b least most lazy fuel := by
  intro fuel
  induction fuel with
  | zero => intro made at' kv k n g w hm hmf hI ha hK; omega
  | succ fuel ih => exact rounds_step c y b v hv hb least most lazy hls hhi hlz hl100 hmm p hkid hpp hY fuel ih

set_option maxRecDepth 100000 in
set_option maxHeartbeats 1000000 in
theorem rrun_rep (c : Cr) (y : Re) (b : Nat) (v : NV) (hv : NodeB c.wT b v) (hb : b ≠ c.bt) (hk : v.kind = 10) (least : Nat) (most : Int) (lazy : Bool) (hls : v.lo = (least : Int)) (hhi : v.hi = most) (hlz : v.lazy = lazy) (hl100 : least ≤ 100) (hmm : most = -1 ∨ ((least : Int) ≤ most ∧ most ≤ 100)) (p : Value) (hkid : KidD (fun b => b ≠ c.bt) c.wT v p) (hpp : ∃ x, p = .pointer x) (hY : RunOK c p (run (str c.s) c.B y)) :
    RunOK c (.pointer (some ⟨b, 0, none⟩)) (fun at' k n g => times (run (str c.s) c.B y) least most lazy (least + (str c.s).length + 2 - at') 0 at' k n g) := by
  intro at' kv k n g w hI ha hK
  have k0 := (hI.node hv hb).c0
  rw [hk] at k0
  have hsz := hI.sz
  have HC := Lib.hid (rounds_any c y b v hv hb least most lazy hls hhi hlz hl100 hmm p hkid hpp hY (least + (str c.s).length + 2 - at') 0 at' kv k n g w (by rw [str_len]; omega) (by rw [str_len]; omega) hI ha hK)
  have hKx := hK
  obtain ⟨⟨z, rfl⟩, -⟩ := hKx
  clear hI hK hv hY hkid
  show Calls _ _ _ _ (GotR c w at' g (times (run (str c.s) c.B y) least most lazy (least + (str c.s).length + 2 - at') 0 at' k n g))
  generalize times (run (str c.s) c.B y) least most lazy (least + (str c.s).length + 2 - at') 0 at' k n g = rr at HC ⊢
  go_enter Tryz.func53, Tryz.ntmps53
  go_wp2_with fail
  refine HC.out.mono ?_
  intro e w' hG
  have HG := Lib.hid hG
  have hc := hG.code
  subst hc
  clear hG
  go_wp2_with fail
  go_ret
  exact HG.out
end Go.Proofs.YtlgpilcjcomacaaGreat

/-
  All groups by value; the document's closed (first ways that alone count).
-/
namespace Go.Proofs.YtlgpilcjcomacaaGreat
open Go.RowKit Rx
set_option linter.unusedVariables false
attribute [local go_sem ↓] Go.wp_at_zero Go.wp_at_succ

theorem gl_all (g : Grp) : (gl 9 g).toArray.all (·.oneCell') = true := all_oneCell_toArray (gl_one 9 g)
theorem gl9_len (g : Grp) : (gl 9 g).length = 20 := gl_length 9 g
theorem info_groups : (Tryz.prog.info? 74).map (·.size) = some 20 := by kernel_rfl

theorem load_groups {ops : Array Oper} {rest : List Oper} {op : Oper} {a : Act} {w : World} {Q : Exit → Act → World → Prop} (hgd : op.guard = none) (x : Operand) (ho : op.op = .load 74 x)
    (b o : Nat) (hx : a.eval x = .pointer (some ⟨b, o, none⟩)) (g : Grp) (hc : w.rangeAt b o (gl 9 g)) (h : wpList Tryz.prog ops Q rest (a.put op.dst (.agg (gl 9 g).toArray)) w) : wpList Tryz.prog ops Q (op :: rest) a w :=
  wpList_load_mid hgd _ x ho b o hx (gl 9 g) _ hc Tryz.underlying74 rfl (by rw [gl9_len]; exact info_groups) h

theorem store_groups {ops : Array Oper} {rest : List Oper} {op : Oper} {a : Act} {w : World} {Q : Exit → Act → World → Prop} (hgd : op.guard = none) (x y : Operand) (ho : op.op = .store 74 x y)
    (b o : Nat) (g : Grp) (hx : a.eval x = .pointer (some ⟨b, o, none⟩)) (hy : a.eval y = .agg (gl 9 g).toArray) (ht : w.there b o 20) (h : wpList Tryz.prog ops Q rest (a.put op.dst undef) (w.setCells b o (gl 9 g))) : wpList Tryz.prog ops Q (op :: rest) a w :=
  wpList_store_mid hgd _ x y ho b o _ hx hy (by rw [List.size_toArray, gl9_len]; exact ht) (by rw [List.size_toArray, gl9_len]; exact info_groups) (gl_all g) h

theorem IR.range {c : Cr} {n : Nat} {g : Grp} {w : World} (h : IR c n g w) : w.rangeAt c.bt 3 (gl 9 g) := fun j v hv => by
  have hj : j < 20 := by have := (List.getElem?_eq_some_iff.1 hv).1; rw [gl9_len] at this; exact this
  rw [gl_get 9 g j (by omega)] at hv
  cases hv
  exact (h.cg j hj).1
theorem IR.there {c : Cr} {n : Nat} {g : Grp} {w : World} (h : IR c n g w) : w.there c.bt 3 20 := fun j hj => ⟨by rw [(h.cg j hj).1]; rfl, (h.cg j hj).2⟩

theorem setCells_touch (b : Nat) : ∀ (vs : List Value) (o : Nat) (w : World), Touch (fun i => i = b) w (w.setCells b o vs)
  | [], _, w => Touch.refl _ w
  | v :: r, o, w => (Touch.setCell (Touch.refl (fun i => i = b) w) (.inl rfl) v).then (setCells_touch b r (o + 1) _)
theorem setCells_holds {w : World} {b' o' : Nat} {v : Value} (b o : Nat) (vs : List Value) (h : Holds w b' o' v) (hap : b' ≠ b ∨ o' < o ∨ o + vs.length ≤ o') : Holds (w.setCells b o vs) b' o' v :=
  ⟨by rw [World.cell?_setCells_out b vs o w ⟨b', o', none⟩ (fun hb _ => hap.resolve_left (fun h => h hb))]; exact h.1, by rw [World.frozen?_setCells]; exact h.2⟩
theorem setCells_cell {w : World} {b' o' : Nat} {v : Value} (b o : Nat) (vs : List Value) (h : w.cell? ⟨b', o', none⟩ = some v) (hap : b' ≠ b ∨ o' < o ∨ o + vs.length ≤ o') : (w.setCells b o vs).cell? ⟨b', o', none⟩ = some v := by
  rw [World.cell?_setCells_out b vs o w ⟨b', o', none⟩ (fun hb _ => hap.resolve_left (fun h => h hb))]; exact h

/-- All groups are written over. -/
theorem IR.restore {c : Cr} {n : Nat} {h : Grp} {w : World} (hI : IR c n h w) (g : Grp) (hg : GInv c.s.size g) : IR c n g (w.setCells c.bt 3 (gl 9 g)) :=
  ⟨setCells_cell _ _ _ hI.c0 (.inr (.inl (by decide))), setCells_holds _ _ _ hI.c1 (.inr (.inl (by decide))), setCells_cell _ _ _ hI.c2 (.inr (.inl (by decide))),
    fun j hj => ⟨by
      rw [World.cell?_setCells_in c.bt (gl 9 g) 3 w (fun i hi => (hI.there i (by rw [gl9_len] at hi; exact hi)).1) j (by rw [gl9_len]; exact hj), ← gl_get 9 g j (by omega), List.getElem?_eq_getElem], by rw [World.frozen?_setCells]; exact (hI.cg j hj).2⟩,
    by obtain ⟨x, hx⟩ := hI.ce; exact ⟨x, setCells_holds _ _ _ hx (.inr (.inr (by rw [gl9_len]; decide)))⟩, hI.nB, hI.lB, hI.sz, hg, hI.tr.then (setCells_touch _ _ _ _)⟩
end Go.Proofs.YtlgpilcjcomacaaGreat
