/-
  RegexBudget, walked. (Printed by wip/tools/budget07.py.)
-/
import Derived.Test.YtlgpilcjcomacaaDb
namespace Go.Proofs.Ytlgpilcjcomacaa
open Go.RowKit Rx
set_option linter.unusedVariables false

/-- Match at what was asked. -/
theorem match_at {p : ByteArray} {a : Re} {G : Nat} (hr : readP (str p) = some (a, G)) (s : ByteArray) (fr bu : Nat) (hs : s.size ≤ 5000) (hf : fr ≤ s.size) (hb : bu ≤ 1000000) (w : World) :
    Calls Try.prog 13 #[.string p, .string s, .int .i64 (fr : Int), .int .i64 (bu : Int)] w (OutP w (outR G (Go.Proofs.Ytlgpilcjcomacaa.fr (str s) bu (.grp 0 a) false fr 0))) := by
  have h := match_out p s (fr : Int) (bu : Int) w
  rw [hr] at h
  have h2 : MOut s (fr : Int) (bu : Int) (some (a, G)) = outR G (Go.Proofs.Ytlgpilcjcomacaa.fr (str s) bu (.grp 0 a) false fr 0) := by
    have hok : askOK s.size (fr : Int) (bu : Int) = true := by unfold askOK; exact decide_eq_true (by omega)
    show (if askOK s.size (fr : Int) (bu : Int) = true then outR G (Go.Proofs.Ytlgpilcjcomacaa.fr (str s) (bu : Int).toNat (.grp 0 a) false (fr : Int).toNat 0) else .err 1) = _
    rw [if_pos hok]
    rfl
  rw [h2] at h
  exact h

set_option maxRecDepth 100000 in
set_option maxHeartbeats 8000000 in
/-- RegexBudget. -/
theorem law_budget (v : Value) (w : World) (h : GrowV w v) :
    Calls Try.prog 4 #[v] w fun e w' => e = .returned (.bool true) ∧ Still w w' := by
  have HS := Lib.hid sane_any
  have HASK := Lib.hid (fun w' (t : Still w w') => ask_any v false w' (h.keep t))
  obtain ⟨a1, a2, l1, c1, l2, c2, fr0, bu0, y0, rfl, -, -, -, -, -⟩ := h.view
  clear h
  go_enter Try.func4, Try.ntmps4
  go_wp2_with fail
  refine (HASK.out _ ((Touch.refl (fun _ => False) w).alloc _)).mono ?_
  rintro e w2 ⟨p, s, y, fr, bu, a, G, rfl, hr, -, hs14, hfs, hbu, -, ht⟩
  have HM : Hid (∀ (n : Nat) w', n ≤ 4000 → Calls Try.prog 13 #[.string p, .string s, .int .i64 (fr : Int), .int .i64 (n : Int)] w' (OutP w' (outR G (Go.Proofs.Ytlgpilcjcomacaa.fr (str s) n (.grp 0 a) false fr 0)))) := Lib.hid (fun n w' hn => match_at hr s fr n (by omega) hfs (by omega) w')
  have HA3 : Hid (AskAt (w2.alloc (.cells #[.string p, .string s, .string y, .int .i64 (fr : Int), .int .i64 (bu : Int)] 23)) w2.heap.size p s y fr bu) := Lib.hid (AskAt.made w2 p s y fr bu)
  have HT3 : Hid (Still w (w2.alloc (.cells #[.string p, .string s, .string y, .int .i64 (fr : Int), .int .i64 (bu : Int)] 23))) := Lib.hid ((((Touch.refl (fun _ => False) w).alloc _).then ht).alloc _)
  have HM0 := Lib.hid (HM.out 4000 (w2.alloc (.cells #[.string p, .string s, .string y, .int .i64 (fr : Int), .int .i64 (bu : Int)] 23)) (Nat.le_refl _))
  have HJ : Hid (∀ n g x, Go.Proofs.Ytlgpilcjcomacaa.fr (str s) 4000 (.grp 0 a) false fr 0 = .yes n g x → n ≤ 4000 ∧ Go.Proofs.Ytlgpilcjcomacaa.fr (str s) n (.grp 0 a) false fr 0 = .yes n g x ∧ ∀ m, m < n → Go.Proofs.Ytlgpilcjcomacaa.fr (str s) m (.grp 0 a) false fr 0 = .over) := Lib.hid (fun n g x h => ⟨by have h1 := fr_ge 4000 (str s) (.grp 0 a) false fr 0; rw [h] at h1; exact h1.2 (Nat.zero_le _), fr_just h, fun m hm => fr_less h hm⟩)
  obtain ⟨n3, hn3⟩ : ∃ n3, w2.heap.size = n3 := ⟨_, rfl⟩
  rw [hn3] at HA3
  have a0 := HA3.out.c0; have a1' := HA3.out.c1; have a3 := HA3.out.c3
  generalize Go.Proofs.Ytlgpilcjcomacaa.fr (str s) 4000 (.grp 0 a) false fr 0 = rr at HM0 HJ
  clear ht hr HASK
  go_wp2_with fail
  refine HM0.out.mono ?_
  intro e w4 hG
  clear a0 a1' a3
  cases rr with
  | over =>
      obtain ⟨rfl, ht⟩ := hG
      have HT5 : Hid (Still w (w4.alloc (.cells #[.slice none 0 0, .int .i64 0] 32))) := Lib.hid ((HT3.out.then ht).alloc _)
      clear ht
      go_wp2_with fail
      refine (HS.out _).mono ?_
      rintro e w6 ⟨rfl, ht⟩
      have HT6 := Lib.hid (HT5.out.then ht)
      clear ht
      go_wp2_with fail
      go_ret
      exact ⟨rfl, HT6.out⟩
  | no n0 =>
      obtain ⟨rfl, ht⟩ := hG
      have HT5 : Hid (Still w (w4.alloc (.cells #[.slice none 0 0, .int .i64 0] 32))) := Lib.hid ((HT3.out.then ht).alloc _)
      clear ht
      go_wp2_with fail
      refine (HS.out _).mono ?_
      rintro e w6 ⟨rfl, ht⟩
      have HT6 := Lib.hid (HT5.out.then ht)
      clear ht
      go_wp2_with fail
      go_ret
      exact ⟨rfl, HT6.out⟩
  | yes n g x =>
      obtain ⟨bg, cg, rfl, hbg, hcs, hG9, hn6, ht⟩ := hG
      obtain ⟨hn4, hj, hl⟩ := HJ.out n g x rfl
      have HCS := Lib.hid hcs
      have HG9 := Lib.hid hG9
      have HL := Lib.hid hl
      have ht5 : Still w4 (w4.alloc (.cells #[.slice (some ⟨bg, 0, none⟩) (G + 1) cg, .int .i64 (n : Int)] 32)) := (Touch.refl _ _).alloc _
      have HT5 : Hid (Still w (w4.alloc (.cells #[.slice (some ⟨bg, 0, none⟩) (G + 1) cg, .int .i64 (n : Int)] 32))) := Lib.hid (HT3.out.then (ht.then ht5))
      have HTS5 := Lib.hid ht5
      have HA5 := Lib.hid (HA3.out.keep (ht.then ht5))
      have a0 := HA5.out.c0; have a1' := HA5.out.c1; have a3 := HA5.out.c3
      obtain ⟨n5, hn5⟩ : ∃ n5, w4.heap.size = n5 := ⟨_, rfl⟩
      have HF5 : Hid (FoundAt (w4.alloc (.cells #[.slice (some ⟨bg, 0, none⟩) (G + 1) cg, .int .i64 (n : Int)] 32)) w4.heap.size (.slice (some ⟨bg, 0, none⟩) (G + 1) cg) (n : Int)) := Lib.hid (FoundAt.made w4 _ _ _)
      rw [hn5] at HF5
      have b1 := HF5.out.c1
      have HM5 := HM.out n (w4.alloc (.cells #[.slice (some ⟨bg, 0, none⟩) (G + 1) cg, .int .i64 (n : Int)] 32)) hn4
      rw [hj] at HM5
      have HM5 := Lib.hid HM5
      clear ht ht5 hcs hG9 hn6 hbg hj hl HJ
      go_wp2_with fail
      refine HM5.out.mono ?_
      clear HM5
      rintro e w6 ⟨bg2, cg2, rfl, -, hcs2, -, -, ht⟩
      clear a0 a1' a3 b1
      have HCS2 := Lib.hid hcs2
      have ht7 : Still w6 (w6.alloc (.cells #[.slice (some ⟨bg2, 0, none⟩) (G + 1) cg2, .int .i64 (n : Int)] 32)) := (Touch.refl _ _).alloc _
      have HTS7 := Lib.hid ht7
      have HTS6 := Lib.hid ht
      have HT7 : Hid (Still w (w6.alloc (.cells #[.slice (some ⟨bg2, 0, none⟩) (G + 1) cg2, .int .i64 (n : Int)] 32))) := Lib.hid (HT5.out.then (ht.then ht7))
      have HA7 := Lib.hid (HA5.out.keep (ht.then ht7))
      have HF57 := Lib.hid (HF5.out.keep (ht.then ht7))
      obtain ⟨n7, hn7⟩ : ∃ n7, w6.heap.size = n7 := ⟨_, rfl⟩
      have HF7 : Hid (FoundAt (w6.alloc (.cells #[.slice (some ⟨bg2, 0, none⟩) (G + 1) cg2, .int .i64 (n : Int)] 32)) w6.heap.size (.slice (some ⟨bg2, 0, none⟩) (G + 1) cg2) (n : Int)) := Lib.hid (FoundAt.made w6 _ _ _)
      rw [hn7] at HF7
      have d0 := HF57.out.c0; have e0 := HF7.out.c0
      clear ht ht7 hcs2
      go_wp2_with fail
      refine (pairs_same bg bg2 cg cg2 G g _ (fun j hj => HTS7.out.has (HTS6.out.has (HTS5.out.has (HCS.out j hj) id) id) id) (fun j hj => HTS7.out.has (HCS2.out j hj) id) HG9.out).mono ?_
      rintro e w8 ⟨rfl, ht⟩
      have HTZ := Lib.hid (HT7.out.then ht)
      have d1 := (HF57.out.keep ht).c1; have e1 := (HF7.out.keep ht).c1
      have HA8 := Lib.hid (HA7.out.keep ht)
      have a0 := HA8.out.c0; have a1' := HA8.out.c1; have a3 := HA8.out.c3
      clear ht d0 e0
      by_cases hn0 : 0 < n
      · have q1 : decide (0 < (n : Int)) = true := decide_eq_true (by omega)
        have q1n : decide (0 < n) = true := decide_eq_true hn0
        obtain ⟨m, rfl⟩ : ∃ m, n = m + 1 := ⟨n - 1, by omega⟩
        have HM8 := HM.out m w8 (by omega)
        rw [HL.out m (by omega)] at HM8
        have HM8 := Lib.hid HM8
        have wm := IntWalk.i64_in (((m + 1 : Nat) : Int) - 1) (by omega)
        have wm2 := IntWalk.i64_in (m : Int) (by omega)
        rw [show ((m + 1 : Nat) : Int) = (m : Int) + 1 from rfl] at d1 e1 wm q1
        go_wp2_with fail
        refine HM8.out.mono ?_
        rintro e w9 ⟨rfl, ht⟩
        have HTZ := Lib.hid (HTZ.out.then ht)
        clear ht d1 e1 a0 a1' a3
        go_wp2_with fail
        refine (HS.out _).mono ?_
        rintro e w9 ⟨rfl, ht⟩
        have HT9 := Lib.hid (HTZ.out.then ht)
        clear ht
        go_wp2_with fail
        go_ret
        exact ⟨rfl, HT9.out⟩
      · have q1 : decide (0 < (n : Int)) = false := decide_eq_false (by omega)
        have q1n : decide (0 < n) = false := decide_eq_false hn0
        go_wp2_with fail
        refine (HS.out _).mono ?_
        rintro e w9 ⟨rfl, ht⟩
        have HT9 := Lib.hid (HTZ.out.then ht)
        clear ht
        go_wp2_with fail
        go_ret
        exact ⟨rfl, HT9.out⟩
end Go.Proofs.Ytlgpilcjcomacaa
