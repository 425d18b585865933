/-
  RegexEarliest, walked. (Printed by wip/tools/early07.py.)
-/
import Derived.Test.YtlgpilcjcomacaaDc
namespace Go.Proofs.Ytlgpilcjcomacaa
open Go.RowKit Rx
set_option linter.unusedVariables false

set_option maxRecDepth 100000 in
set_option maxHeartbeats 8000000 in
/-- RegexEarliest. -/
theorem law_earliest (v : Value) (w : World) (h : GrowV w v) :
    Calls Try.prog 5 #[v] w fun e w' => e = .returned (.bool true) ∧ Still w w' := by
  have HS := Lib.hid sane_any
  have HASK := Lib.hid (fun w' (t : Still w w') => ask_any v true w' (h.keep t))
  obtain ⟨a1, a2, l1, c1, l2, c2, fr0, bu0, y0, rfl, -, -, -, -, -⟩ := h.view
  clear h
  go_enter Try.func5, Try.ntmps5
  go_wp2_with fail
  refine (HASK.out _ ((Touch.refl (fun _ => False) w).alloc _)).mono ?_
  rintro e w2 ⟨p, s, y, fr, bu, a, G, rfl, hr, hno, hs14, hfs, hbu, -, ht⟩
  have HM : Hid (∀ (f : Nat) w', f ≤ s.size → Calls Try.prog 13 #[.string p, .string s, .int .i64 (f : Int), .int .i64 4000] w' (OutP w' (outR G (Go.Proofs.Ytlgpilcjcomacaa.fr (str s) 4000 (.grp 0 a) false f 0)))) := Lib.hid (fun f w' hf => match_at hr s f 4000 (by omega) hf (by omega) w')
  have HGG : Hid (∀ w', Calls Try.prog 15 #[.string p] w' fun e w'' => e = .returned (.tuple #[.int .i64 (G : Int), .int .i64 0]) ∧ Still w' w'') := Lib.hid (fun w' => by have h := groups_any p w'; rw [hr] at h; exact h)
  have HA3 : Hid (AskAt (w2.alloc (.cells #[.string p, .string s, .string y, .int .i64 (fr : Int), .int .i64 (bu : Int)] 23)) w2.heap.size p s y fr bu) := Lib.hid (AskAt.made w2 p s y fr bu)
  have HT3 : Hid (Still w (w2.alloc (.cells #[.string p, .string s, .string y, .int .i64 (fr : Int), .int .i64 (bu : Int)] 23))) := Lib.hid ((((Touch.refl (fun _ => False) w).alloc _).then ht).alloc _)
  have HM0 := Lib.hid (HM.out fr (w2.alloc (.cells #[.string p, .string s, .string y, .int .i64 (fr : Int), .int .i64 (bu : Int)] 23)) hfs)
  have HJ : Hid (∀ n g x, Go.Proofs.Ytlgpilcjcomacaa.fr (str s) 4000 (.grp 0 a) false fr 0 = .yes n g x → ∃ i : Nat, fr ≤ i ∧ i ≤ x ∧ x ≤ s.size ∧ g 0 = ((i : Int), (x : Int)) ∧ GIn i x g ∧ (fr < i → ∃ m, Go.Proofs.Ytlgpilcjcomacaa.fr (str s) 4000 (.grp 0 a) false (fr + 1) 0 = .yes m g x)) := Lib.hid (fun n g x h => by
    obtain ⟨i, h1, h2, h3, h4, h5⟩ := fr_in (hno rfl) _ fr 0 n g x rfl h
    exact ⟨i, h1, h2, by rw [← str_len]; exact h3, h4, h5, fun h6 => fr_next h h4 h6⟩)
  obtain ⟨n3, hn3⟩ : ∃ n3, w2.heap.size = n3 := ⟨_, rfl⟩
  rw [hn3] at HA3
  have a0 := HA3.out.c0; have a1' := HA3.out.c1; have a3 := HA3.out.c3
  generalize Go.Proofs.Ytlgpilcjcomacaa.fr (str s) 4000 (.grp 0 a) false fr 0 = rr at HM0 HJ
  clear ht hr HASK hno
  go_wp2_with fail
  refine HM0.out.mono ?_
  intro e w4 hG
  clear a0 a1' a3
  cases rr with
  | over =>
      obtain ⟨rfl, ht⟩ := hG
      have HT5 : Hid (Still w (w4.alloc (.cells #[.slice none 0 0, .int .i64 0] 32))) := Lib.hid ((HT3.out.then ht).alloc _)
      clear ht
      go_wp2_with fail
      refine (HS.out _).mono ?_
      rintro e w6 ⟨rfl, ht⟩
      have HT6 := Lib.hid (HT5.out.then ht)
      clear ht
      go_wp2_with fail
      go_ret
      exact ⟨rfl, HT6.out⟩
  | no n0 =>
      obtain ⟨rfl, ht⟩ := hG
      have HT5 : Hid (Still w (w4.alloc (.cells #[.slice none 0 0, .int .i64 0] 32))) := Lib.hid ((HT3.out.then ht).alloc _)
      clear ht
      go_wp2_with fail
      refine (HS.out _).mono ?_
      rintro e w6 ⟨rfl, ht⟩
      have HT6 := Lib.hid (HT5.out.then ht)
      clear ht
      go_wp2_with fail
      go_ret
      exact ⟨rfl, HT6.out⟩
  | yes n g x =>
      obtain ⟨bg, cg, rfl, hbg, hcs, hG9, hn6, ht⟩ := hG
      obtain ⟨i, hfi, hix, hxs, hg0, hgin, hnx⟩ := HJ.out n g x rfl
      have HCS := Lib.hid hcs
      have HNX := Lib.hid hnx
      have HGIN := Lib.hid hgin
      have HG0 := Lib.hid hg0
      have ht5 : Still w4 (w4.alloc (.cells #[.slice (some ⟨bg, 0, none⟩) (G + 1) cg, .int .i64 (n : Int)] 32)) := (Touch.refl _ _).alloc _
      have HT5 : Hid (Still w (w4.alloc (.cells #[.slice (some ⟨bg, 0, none⟩) (G + 1) cg, .int .i64 (n : Int)] 32))) := Lib.hid (HT3.out.then (ht.then ht5))
      have HTS5 := Lib.hid ht5
      have HA5 := Lib.hid (HA3.out.keep (ht.then ht5))
      have a0 := HA5.out.c0
      obtain ⟨n5, hn5⟩ : ∃ n5, w4.heap.size = n5 := ⟨_, rfl⟩
      have HF5 : Hid (FoundAt (w4.alloc (.cells #[.slice (some ⟨bg, 0, none⟩) (G + 1) cg, .int .i64 (n : Int)] 32)) w4.heap.size (.slice (some ⟨bg, 0, none⟩) (G + 1) cg) (n : Int)) := Lib.hid (FoundAt.made w4 _ _ _)
      rw [hn5] at HF5
      clear ht ht5 hcs hn6 hbg hnx hgin hg0 HJ
      go_wp2_with fail
      refine (HGG.out _).mono ?_
      rintro e w6 ⟨rfl, ht⟩
      clear a0
      have HTS6 := Lib.hid (HTS5.out.then ht)
      have HT6 := Lib.hid (HT5.out.then ht)
      have HA6 := Lib.hid (HA5.out.keep ht)
      have HF6 := Lib.hid (HF5.out.keep ht)
      have HCS6 : Hid (∀ j, j < 2 * (G + 1) → w6.cell? ⟨bg, j, none⟩ = some (gv g j)) := Lib.hid (fun j hj => HTS6.out.has (HCS.out j hj) id)
      have d0 := HF6.out.c0
      have m0 : w6.cell? ⟨bg, 0, none⟩ = some (.int .i64 (i : Int)) := by rw [HCS6.out 0 (by omega)]; simp [gv, HG0.out]
      have m1 : w6.cell? ⟨bg, 1, none⟩ = some (.int .i64 (x : Int)) := by rw [HCS6.out 1 (by omega)]; simp [gv, HG0.out]
      have wG := IntWalk.i64_in ((G : Int) + 1) (by omega)
      obtain ⟨n7, hn7⟩ : ∃ n7, w6.heap.size = n7 := ⟨_, rfl⟩
      have HM7 : Hid (Holds (w6.alloc (.cells #[.int .i64 (i : Int), .int .i64 (x : Int)] 40)) w6.heap.size 0 (.int .i64 (i : Int)) ∧ Holds (w6.alloc (.cells #[.int .i64 (i : Int), .int .i64 (x : Int)] 40)) w6.heap.size 1 (.int .i64 (x : Int))) := Lib.hid ⟨Holds.made w6 _ _ 0 _ rfl, Holds.made w6 _ _ 1 _ rfl⟩
      rw [hn7] at HM7
      have ht7 : Still w6 (w6.alloc (.cells #[.int .i64 (i : Int), .int .i64 (x : Int)] 40)) := (Touch.refl _ _).alloc _
      have HTS7 := Lib.hid ht7
      have HT7 := Lib.hid (HT6.out.then ht7)
      have HA7 := Lib.hid (HA6.out.keep ht7)
      have HF7 := Lib.hid (HF6.out.keep ht7)
      have b1 := HA7.out.c1; have b3 := HA7.out.c3
      have q1 : decide ((i : Int) < (fr : Int)) = false := decide_eq_false (by omega)
      have q1n : decide (i < fr) = false := decide_eq_false (by omega)
      have q2 : decide ((x : Int) < (i : Int)) = false := decide_eq_false (by omega)
      have q2n : decide (x < i) = false := decide_eq_false (by omega)
      have q3 : decide ((s.size : Int) < (x : Int)) = false := decide_eq_false (by omega)
      have q3n : decide (s.size < x) = false := decide_eq_false (by omega)
      clear ht ht7
      go_wp2_with fail
      clear b1 b3 m0 m1 d0
      go_loopw [9] (fun jv wr => ∃ j : Nat, jv = .int .i64 (j : Int) ∧ 1 ≤ j ∧ j ≤ G + 1 ∧ Hid (Still (w6.alloc (.cells #[.int .i64 (i : Int), .int .i64 (x : Int)] 40)) wr)) (fun jv _ => G + 1 - (intOf jv).toNat)
      case atStart => exact ⟨1, rfl, Nat.le_refl _, by omega, Lib.hid (Touch.refl _ _)⟩
      case round =>
        obtain ⟨j, rfl, hj1, hjG, HTR⟩ := hrel
        have f0 := (HF7.out.keep HTR.out).c0
        have r0 := (HM7.out.1.keep HTR.out id).1
        have r1 := (HM7.out.2.keep HTR.out id).1
        have wj := IntWalk.i64_in ((j : Int) + 1) (by omega)
        by_cases hlt : j < G + 1
        · have q4 : decide ((j : Int) < (G : Int) + 1) = true := decide_eq_true (by omega)
          have q4n : decide (j < G + 1) = true := decide_eq_true hlt
          have hji : (j : Int) < (G : Int) + 1 := by omega
          obtain ⟨u, hu⟩ : ∃ u, (g j).1 = u := ⟨_, rfl⟩
          obtain ⟨z, hz⟩ : ∃ z, (g j).2 = z := ⟨_, rfl⟩
          have x1 : wr.cell? ⟨bg, 2 * j, none⟩ = some (.int .i64 u) := HTR.out.has (HTS7.out.has ((HCS6.out (2 * j) (by omega)).trans (by rw [gv_even, hu])) id) id
          have x2 : wr.cell? ⟨bg, 2 * j + 1, none⟩ = some (.int .i64 z) := HTR.out.has (HTS7.out.has ((HCS6.out (2 * j + 1) (by omega)).trans (by rw [gv_odd, hz])) id) id
          have x1' : wr.cell? ⟨bg, j * 2, none⟩ = some (.int .i64 u) := by rw [Nat.mul_comm]; exact x1
          have x2' : wr.cell? ⟨bg, j * 2 + 1, none⟩ = some (.int .i64 z) := by rw [Nat.mul_comm j 2]; exact x2
          have h0 := HGIN.out j
          have hne : wr.heap.size ≠ n7 := by have := block_lt_of_cell r0; simp at this; omega
          have r0' := (Holds.keep (w' := wr.alloc (.cells #[.int .i64 u, .int .i64 z] 40)) (HM7.out.1.keep HTR.out id) ((Touch.refl (fun _ => False) wr).alloc _) id).1
          have r1' := (Holds.keep (w' := wr.alloc (.cells #[.int .i64 u, .int .i64 z] 40)) (HM7.out.2.keep HTR.out id) ((Touch.refl (fun _ => False) wr).alloc _) id).1
          have HTRA : Hid (Still (w6.alloc (.cells #[.int .i64 (i : Int), .int .i64 (x : Int)] 40)) (wr.alloc (.cells #[.int .i64 u, .int .i64 z] 40))) := Lib.hid (HTR.out.alloc _)
          rcases h0 with h0 | ⟨h1, h2, h3⟩
          · rw [h0] at hu hz
            have hu : -1 = u := hu
            have hz : -1 = z := hz
            subst hu; subst hz
            go_wp2_with fail
            go_roundw
            case rel => exact ⟨j + 1, by go_num, by omega, by omega, HTRA⟩
            case measure => simp [intOf]; omega
          · rw [hu] at h1 h2; rw [hz] at h2 h3
            have p1 : (u == -1) = false := by simp; omega
            have p2 : decide (u < (i : Int)) = false := decide_eq_false (by omega)
            have p3 : decide (z < u) = false := decide_eq_false (by omega)
            have p4 : decide ((x : Int) < z) = false := decide_eq_false (by omega)
            clear hu hz h1 h2 h3
            go_wp2_with fail
            go_roundw
            case rel => exact ⟨j + 1, by go_num, by omega, by omega, HTRA⟩
            case measure => simp [intOf]; omega
        · have q4 : decide ((j : Int) < (G : Int) + 1) = false := decide_eq_false (by omega)
          have q4n : decide (j < G + 1) = false := decide_eq_false hlt
          have HAE := Lib.hid (HA7.out.keep HTR.out)
          have e0 := HAE.out.c0; have e1 := HAE.out.c1; have e3 := HAE.out.c3
          have HTE := Lib.hid (HT7.out.then HTR.out)
          by_cases hfi2 : fr < i
          · have q5 : decide ((fr : Int) < (i : Int)) = true := decide_eq_true (by omega)
            have q5n : decide (fr < i) = true := decide_eq_true hfi2
            obtain ⟨m, hm⟩ := HNX.out hfi2
            have HM9 := HM.out (fr + 1) wr (by omega)
            rw [hm] at HM9
            have HM9 := Lib.hid HM9
            have wf := IntWalk.i64_in ((fr : Int) + 1) (by omega)
            clear hm
            go_wp2_with fail
            refine HM9.out.mono ?_
            rintro e w9 ⟨bg2, cg2, rfl, -, hcs2, -, -, ht⟩
            obtain ⟨wa, hwa⟩ : ∃ wa, w9.alloc (.cells #[.slice (some ⟨bg2, 0, none⟩) (G + 1) cg2, .int .i64 (m : Int)] 32) = wa := ⟨_, rfl⟩
            obtain ⟨na, hna⟩ : ∃ na, w9.heap.size = na := ⟨_, rfl⟩
            have hta : Still w9 wa := by rw [← hwa]; exact (Touch.refl _ _).alloc _
            have HFA : Hid (FoundAt wa na (.slice (some ⟨bg2, 0, none⟩) (G + 1) cg2) (m : Int)) := Lib.hid (by rw [← hwa, ← hna]; exact FoundAt.made w9 _ _ _)
            have HTE := Lib.hid (HTE.out.then (ht.then hta))
            have g0' := HFA.out.c0
            have s0 := hta.has (ht.has r0 id) id
            have s1 := hta.has (ht.has r1 id) id
            have y0 : wa.cell? ⟨bg2, 0, none⟩ = some (.int .i64 (i : Int)) := hta.has ((hcs2 0 (by omega)).trans (by simp [gv, HG0.out])) id
            have y1 : wa.cell? ⟨bg2, 1, none⟩ = some (.int .i64 (x : Int)) := hta.has ((hcs2 1 (by omega)).trans (by simp [gv, HG0.out])) id
            have z1 : ((G : Int) + 1 == 0) = false := by simp; omega
            have z2 : (0 : Int) < (G : Int) + 1 := by omega
            have z3 : ¬ (G : Int) + 1 = 0 := by omega
            clear ht hta hcs2 e0 e1 e3 r0 r1 f0
            go_wp2_with fail
            go_quiet (fail)
            have HTE := Lib.hid (HTE.out.drewN nq)
            go_wp2_with fail
            refine (HS.out _).mono ?_
            rintro e wz ⟨rfl, ht⟩
            have HTZ := Lib.hid (HTE.out.then ht)
            clear ht
            go_wp2_with fail
            go_ret
            exact ⟨rfl, HTZ.out⟩
          · have q5 : decide ((fr : Int) < (i : Int)) = false := decide_eq_false (by omega)
            have q5n : decide (fr < i) = false := decide_eq_false hfi2
            go_wp2_with fail
            refine (HS.out _).mono ?_
            rintro e wz ⟨rfl, ht⟩
            have HTZ := Lib.hid (HTE.out.then ht)
            clear ht
            go_wp2_with fail
            go_ret
            exact ⟨rfl, HTZ.out⟩
end Go.Proofs.Ytlgpilcjcomacaa
