/-
  Texts Ua, Ub, Uc in one.
-/
import Derived.Test.YtlgpilcjcomacaaGreatAi
import Derived.Laws.StructEq
/-
  Plain: what Match gives at the constants of 'sane'.
-/
namespace Go.Proofs.YtlgpilcjcomacaaGreat
open Go.RowKit Rx
set_option linter.unusedVariables false

def grsOf (G : Nat) (r : Res) : Option (List (Int × Int)) := match r with | .yes n g x => some ((List.range (G + 1)).map g) | .no _ => none | .over => some []
def sumR (o : Option (Re × Nat)) (t : List UInt8) : Option (Nat × Option (List (Int × Int))) := match o with
  | none => none
  | some (a, G) => some (G, grsOf G (fr t 1000 (.grp 0 a) false 0 0))

theorem sane1 : sumR (readP [40, 97, 124, 97, 98, 41, 40, 99, 124, 98, 99, 100, 41, 40, 100, 42, 41]) [97, 98, 99, 100] = some (3, some [(0, 4), (0, 1), (1, 4), (4, 4)]) := by kernel_rfl
theorem sane2 : sumR (readP [97, 42, 43, 97]) [97, 97, 97] = some (0, none) := by kernel_rfl

theorem MatchR.none {G : Nat} {w : World} {r : Res} {e : Ending} {w' : World} (h : MatchR G w r e w') (hr : grsOf G r = none) : e = .returned (.tuple #[.agg #[.slice none 0 0, .int .i64 0], .int .i64 3]) ∧ Still w w' := by
  cases r with
  | over => cases hr
  | no n => exact h
  | yes n g x => cases hr

theorem match_sane2 (w : World) : Calls Tryz.prog 10 #[.string ⟨#[97, 42, 43, 97]⟩, .string ⟨#[97, 97, 97]⟩, .int .i64 0, .int .i64 1000] w fun e w' => e = .returned (.tuple #[.agg #[.slice none 0 0, .int .i64 0], .int .i64 3]) ∧ Still w w' := by
  refine (match_any ⟨#[97, 42, 43, 97]⟩ ⟨#[97, 97, 97]⟩ 0 1000 w).mono ?_
  intro e w' h
  have hs : sumR (readP (str ⟨#[97, 42, 43, 97]⟩)) [97, 97, 97] = some (0, none) := sane2
  cases hr : readP (str ⟨#[97, 42, 43, 97]⟩) with
  | none => rw [hr] at hs; cases hs
  | some x =>
    obtain ⟨a, G⟩ := x
    rw [hr] at h hs
    rcases h with ⟨h1, -⟩ | ⟨-, h2⟩
    · exact absurd h1 (by decide)
    · exact h2.none (Prod.mk.inj (Option.some.inj hs)).2

theorem match_sane1 (w : World) : Calls Tryz.prog 10 #[.string ⟨#[40, 97, 124, 97, 98, 41, 40, 99, 124, 98, 99, 100, 41, 40, 100, 42, 41]⟩, .string ⟨#[97, 98, 99, 100]⟩, .int .i64 0, .int .i64 1000] w fun e w' => ∃ (bg n : Nat) (T : TypeId), e = .returned (.tuple #[.agg #[.slice (some ⟨bg, 0, none⟩) 4 4, .int .i64 (n : Int)], .int .i64 0]) ∧ w.heap.size ≤ bg ∧ w'.heap[bg]? = some (.cells #[.int .i64 0, .int .i64 4, .int .i64 0, .int .i64 1, .int .i64 1, .int .i64 4, .int .i64 4, .int .i64 4] T (0, 0)) ∧ Still w w' := by
  refine (match_any ⟨#[40, 97, 124, 97, 98, 41, 40, 99, 124, 98, 99, 100, 41, 40, 100, 42, 41]⟩ ⟨#[97, 98, 99, 100]⟩ 0 1000 w).mono ?_
  intro e w' h
  have hs : sumR (readP (str ⟨#[40, 97, 124, 97, 98, 41, 40, 99, 124, 98, 99, 100, 41, 40, 100, 42, 41]⟩)) [97, 98, 99, 100] = some (3, some [(0, 4), (0, 1), (1, 4), (4, 4)]) := sane1
  cases hr : readP (str ⟨#[40, 97, 124, 97, 98, 41, 40, 99, 124, 98, 99, 100, 41, 40, 100, 42, 41]⟩) with
  | none => rw [hr] at hs; cases hs
  | some x =>
    obtain ⟨a, G⟩ := x
    rw [hr] at h hs
    have hp := Prod.mk.inj (Option.some.inj hs)
    have hG : G = 3 := hp.1
    subst hG
    rcases h with ⟨h1, -⟩ | ⟨-, h2⟩
    · exact absurd h1 (by decide)
    · have hm := hp.2
      have e1 : fr (str ⟨#[97, 98, 99, 100]⟩) (1000 : Int).toNat (.grp 0 a) false (0 : Int).toNat 0 = fr [97, 98, 99, 100] 1000 (.grp 0 a) false 0 0 := rfl
      rw [e1] at h2
      generalize fr [97, 98, 99, 100] 1000 (.grp 0 a) false 0 0 = rr at h2 hm
      cases rr with
      | over => cases hm
      | no n => cases hm
      | yes n g x =>
        obtain ⟨bg, T, h3, h4, h5, -, -, h6⟩ := h2
        have hl : (List.range (3 + 1)).map g = [(0, 4), (0, 1), (1, 4), (4, 4)] := Option.some.inj hm
        have hl' : [g 0, g 1, g 2, g 3] = [((0 : Int), (4 : Int)), (0, 1), (1, 4), (4, 4)] := hl
        simp only [List.cons.injEq, and_true] at hl'
        obtain ⟨g0', g1', g2', g3'⟩ := hl'
        refine ⟨bg, n, T, h3, h4, ?_, h6⟩
        rw [h5]
        simp [gl, gv, g0', g1', g2', g3', List.range, List.range.loop]
end Go.Proofs.YtlgpilcjcomacaaGreat

/-
  The law's 'pairs', at two rows that hold the same.
-/
namespace Go.Proofs.YtlgpilcjcomacaaGreat
open Go.RowKit Rx
set_option linter.unusedVariables false

@[go_sem] theorem eq40 (a b c d : Int) (w : World) : (Op.equalIn 10000 39 (.agg #[.int .i64 a, .int .i64 b]) (.agg #[.int .i64 c, .int .i64 d])).run Tryz.prog w = .ok (a == c && b == d) w := by
  have u3 := Tryz.underlying3
  have a3 := Tryz.isAgg3
  have z3 := Tryz.sizeOf3
  rw [show (10000 : Nat) = 9999 + 1 from rfl, Op.equalIn]
  simp only [Sem.run_bind, run_underlying Tryz.underlying39, Result.andThen_ok]
  simp only [Std.Legacy.Range.forIn_eq_forIn_range', Std.Legacy.Range.size, Nat.sub_zero, Nat.add_sub_cancel, Nat.div_one, List.range'_succ, List.range'_zero, List.forIn_cons, List.forIn_nil]
  go_simp
  by_cases h1 : a = c <;> by_cases h2 : b = d <;> simp [h1, h2]

set_option maxRecDepth 100000 in
set_option maxHeartbeats 4000000 in
theorem pairs_same (b1 b2 c1 c2 G : Nat) (g : Grp) (w : World) (h1 : ∀ j, j < 2 * (G + 1) → w.cell? ⟨b1, j, none⟩ = some (gv g j)) (h2 : ∀ j, j < 2 * (G + 1) → w.cell? ⟨b2, j, none⟩ = some (gv g j)) (hG : G ≤ 9) :
    Calls Tryz.prog 11 #[.slice (some ⟨b1, 0, none⟩) (G + 1) c1, .slice (some ⟨b2, 0, none⟩) (G + 1) c2] w fun e w' => e = .returned (.bool true) ∧ Still w w' := by
  have H1 := Lib.hid h1
  have H2 := Lib.hid h2
  clear h1 h2
  go_enter Tryz.func11, Tryz.ntmps11
  go_wp2_with fail
  go_loopw [5] (fun i wr => ∃ j : Nat, i = .int .i64 j ∧ j ≤ G + 1 ∧ Hid (Still w wr)) (fun i _ => G + 1 - (intOf i).toNat)
  case atStart => exact ⟨0, rfl, Nat.zero_le _, Lib.hid (Touch.refl _ _)⟩
  case round =>
    obtain ⟨j, rfl, hj, HT⟩ := hrel
    by_cases hlt : j < G + 1
    · have q1 : decide ((j : Int) < (G : Int) + 1) = true := decide_eq_true (by omega)
      have q1n : decide (j < G + 1) = true := decide_eq_true hlt
      have hji : (j : Int) < (G : Int) + 1 := by omega
      have hwj := IntWalk.i64_in ((j : Int) + 1) (by omega)
      have e2 : ((2 * j + 1) / 2) = j := by omega
      have x1 : wr.cell? ⟨b1, 2 * j, none⟩ = some (.int .i64 (g j).1) := HT.out.has ((H1.out (2 * j) (by omega)).trans (by simp [gv])) id
      have y1 : wr.cell? ⟨b1, 2 * j + 1, none⟩ = some (.int .i64 (g j).2) := HT.out.has ((H1.out (2 * j + 1) (by omega)).trans (by simp [gv, e2])) id
      have x2 : wr.cell? ⟨b2, 2 * j, none⟩ = some (.int .i64 (g j).1) := HT.out.has ((H2.out (2 * j) (by omega)).trans (by simp [gv])) id
      have y2 : wr.cell? ⟨b2, 2 * j + 1, none⟩ = some (.int .i64 (g j).2) := HT.out.has ((H2.out (2 * j + 1) (by omega)).trans (by simp [gv, e2])) id
      have x1' : wr.cell? ⟨b1, j * 2, none⟩ = some (.int .i64 (g j).1) := by rw [Nat.mul_comm]; exact x1
      have y1' : wr.cell? ⟨b1, j * 2 + 1, none⟩ = some (.int .i64 (g j).2) := by rw [Nat.mul_comm j 2]; exact y1
      have x2' : wr.cell? ⟨b2, j * 2, none⟩ = some (.int .i64 (g j).1) := by rw [Nat.mul_comm]; exact x2
      have y2' : wr.cell? ⟨b2, j * 2 + 1, none⟩ = some (.int .i64 (g j).2) := by rw [Nat.mul_comm j 2]; exact y2
      clear e2
      go_wp2_with fail
      go_quiet (fail)
      go_wp2_with fail
      refine ⟨⟨j + 1, rfl, by omega, Lib.hid (HT.out.drewN nq)⟩, ?_⟩
      simp [intOf]
      omega
    · have q1 : decide ((j : Int) < (G : Int) + 1) = false := decide_eq_false (by omega)
      have q1n : decide (j < G + 1) = false := decide_eq_false hlt
      go_wp2_with fail
      go_ret
      exact ⟨rfl, HT.out⟩
end Go.Proofs.YtlgpilcjcomacaaGreat

/-
  The law's 'sane'.
-/
namespace Go.Proofs.YtlgpilcjcomacaaGreat
open Go.RowKit Rx
set_option linter.unusedVariables false

def gS : Grp := fun j => if j = 0 then (0, 4) else if j = 1 then (0, 1) else if j = 2 then (1, 4) else (4, 4)
theorem gS_cells (j : Nat) (hj : j < 2 * (3 + 1)) : (#[.int .i64 0, .int .i64 4, .int .i64 0, .int .i64 1, .int .i64 1, .int .i64 4, .int .i64 4, .int .i64 4] : Array Value)[j]? = some (gv gS j) := by
  have h8 : j = 0 ∨ j = 1 ∨ j = 2 ∨ j = 3 ∨ j = 4 ∨ j = 5 ∨ j = 6 ∨ j = 7 := by omega
  rcases h8 with rfl | rfl | rfl | rfl | rfl | rfl | rfl | rfl <;> rfl
theorem cell_of_block {w : World} {b : Nat} {A : Array Value} {T : TypeId} (h : w.heap[b]? = some (.cells A T (0, 0))) (j : Nat) : w.cell? ⟨b, j, none⟩ = A[j]? := by
  unfold World.cell?; simp [h]

set_option maxRecDepth 100000 in
set_option maxHeartbeats 4000000 in
theorem sane_any (w : World) :
    Calls Tryz.prog 5 #[] w fun e w' => e = .returned (.bool true) ∧ Still w w' := by
  have H1 := Lib.hid match_sane1
  have H2 := Lib.hid match_sane2
  go_enter Tryz.func5, Tryz.ntmps5
  go_wp2_with fail
  refine (H1.out _).mono ?_
  rintro e w1 ⟨bg, n, T, rfl, hbg, hcs, ht⟩
  have HT1 := Lib.hid ht
  have HCS := Lib.hid hcs
  have hz1 := HCS.out
  clear hcs ht
  obtain ⟨wA, hwA⟩ : ∃ wA, w1.alloc (.cells #[.slice (some ⟨bg, 0, none⟩) 4 4, .int .i64 (n : Int)] 34) = wA := ⟨_, rfl⟩
  have HTA : Hid (Still w1 wA) := Lib.hid (by rw [← hwA]; exact (Touch.refl _ _).alloc _)
  have HCA : Hid (Holds wA w1.heap.size 0 (.slice (some ⟨bg, 0, none⟩) 4 4)) := Lib.hid (by rw [← hwA]; exact Holds.made w1 _ _ 0 _ rfl)
  obtain ⟨nA, hnA⟩ : ∃ nA, w1.heap.size = nA := ⟨_, rfl⟩
  rw [hnA] at HCA
  clear hz1
  go_wp2_with fail
  refine (H2.out _).mono ?_
  rintro e w3 ⟨rfl, ht⟩
  have HT3 : Hid (Still wA w3) := Lib.hid ht
  clear ht hwA
  have HTB : Hid (Still w3 (w3.alloc (.cells #[.slice none 0 0, .int .i64 0] 34))) := Lib.hid ((Touch.refl _ _).alloc _)
  have HTW : Hid (Still w1 (w3.alloc (.cells #[.slice none 0 0, .int .i64 0] 34))) := Lib.hid ((HTA.out.then HT3.out).then HTB.out)
  have hcB := (HCA.out.keep (HT3.out.then HTB.out) id).1
  have HGB : Hid ((w3.alloc (.cells #[.slice none 0 0, .int .i64 0] 34)).heap[bg]? = some (.cells #[.int .i64 0, .int .i64 4, .int .i64 0, .int .i64 1, .int .i64 1, .int .i64 4, .int .i64 4, .int .i64 4] T (0, 0))) := Lib.hid ((HTW.out.block bg (Array.getElem?_eq_some_iff.1 HCS.out).1 id).trans HCS.out)
  go_wp2_with fail
  refine (pairs_same bg _ 4 4 3 gS _ ?_ ?_ (by decide)).mono ?_
  · intro j hj
    have hc := cell_of_block HGB.out j
    refine (alloc_past _ _ (b := bg) (i := j) (v := gv gS j) ?_)
    rw [hc]
    exact gS_cells j hj
  · intro j hj
    rw [show gv gS j = (#[.int .i64 0, .int .i64 4, .int .i64 0, .int .i64 1, .int .i64 1, .int .i64 4, .int .i64 4, .int .i64 4] : Array Value)[j]?.getD default by rw [gS_cells j hj]; rfl]
    have h8 : j = 0 ∨ j = 1 ∨ j = 2 ∨ j = 3 ∨ j = 4 ∨ j = 5 ∨ j = 6 ∨ j = 7 := by omega
    rcases h8 with rfl | rfl | rfl | rfl | rfl | rfl | rfl | rfl <;> simp [go_sem]
  · rintro e w5 ⟨rfl, ht⟩
    have HT5 := Lib.hid ht
    clear ht
    go_wp2_with fail
    go_ret
    exact ⟨rfl, ((HT1.out.then HTW.out).alloc _).then HT5.out⟩
end Go.Proofs.YtlgpilcjcomacaaGreat
