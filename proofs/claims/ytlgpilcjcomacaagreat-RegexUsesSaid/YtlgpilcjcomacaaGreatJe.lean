/-
  The law's 'uses'; RegexUses walked. (Printed by wip/tools/uses07.py.)
-/
import Derived.Test.YtlgpilcjcomacaaGreatJa
import Derived.Test.YtlgpilcjcomacaaGreatJc
import Derived.Test.YtlgpilcjcomacaaGreatJd
import Derived.Test.YtlgpilcjcomacaaGreatDa
namespace Go.Proofs.YtlgpilcjcomacaaGreat
open Go.RowKit Rx
set_option linter.unusedVariables false

set_option maxRecDepth 100000 in
set_option maxHeartbeats 4000000 in
theorem pairs_any (x1 x2 : Option Addr) (c1 c2 : Nat) (l : List Grp) (w : World) (h1 : PairRow w x1 l) (h2 : PairRow w x2 l) (hl : l.length ≤ 10000) :
    Calls Tryz.prog 11 #[.slice x1 l.length c1, .slice x2 l.length c2] w fun e w' => e = .returned (.bool true) ∧ Still w w' := by
  have H1 := Lib.hid h1
  have H2 := Lib.hid h2
  clear h1 h2
  go_enter Tryz.func11, Tryz.ntmps11
  go_wp2_with fail
  go_loopw [5] (fun i wr => ∃ j : Nat, i = .int .i64 j ∧ j ≤ l.length ∧ Hid (Still w wr)) (fun i _ => l.length - (intOf i).toNat)
  case atStart => exact ⟨0, rfl, Nat.zero_le _, Lib.hid (Touch.refl _ _)⟩
  case round =>
    obtain ⟨j, rfl, hj, HT⟩ := hrel
    by_cases hlt : j < l.length
    · have q1 : decide ((j : Int) < (l.length : Int)) = true := decide_eq_true (by omega)
      have q1n : decide (j < l.length) = true := decide_eq_true hlt
      have hji : (j : Int) < (l.length : Int) := by omega
      have hwj := IntWalk.i64_in ((j : Int) + 1) (by omega)
      obtain ⟨g, hg⟩ : ∃ g, l[j]? = some g := ⟨_, List.getElem?_eq_getElem hlt⟩
      obtain ⟨b1, hx1, ha1, hb1⟩ := H1.out j g hg
      obtain ⟨b2, hx2, ha2, hb2⟩ := H2.out j g hg
      subst hx1
      subst hx2
      have x1 := HT.out.has ha1 id
      have y1 := HT.out.has hb1 id
      have x2 := HT.out.has ha2 id
      have y2 := HT.out.has hb2 id
      clear hg ha1 hb1 ha2 hb2
      go_wp2_with fail
      go_quiet (fail)
      go_wp2_with fail
      refine ⟨⟨j + 1, rfl, by omega, Lib.hid (HT.out.drewN nq)⟩, ?_⟩
      simp [intOf]
      omega
    · have q1 : decide ((j : Int) < (l.length : Int)) = false := decide_eq_false (by omega)
      have q1n : decide (j < l.length) = false := decide_eq_false hlt
      go_wp2_with fail
      go_ret
      exact ⟨rfl, HT.out⟩

set_option maxRecDepth 100000 in
set_option maxHeartbeats 4000000 in
theorem texts_any (x1 x2 : Option Addr) (c1 c2 : Nat) (l : List (List UInt8)) (w : World) (h1 : RowAt w x1 (strs l)) (h2 : RowAt w x2 (strs l)) (hl : l.length ≤ 10000) :
    Calls Tryz.prog 20 #[.slice x1 l.length c1, .slice x2 l.length c2] w fun e w' => e = .returned (.bool true) ∧ Still w w' := by
  have H1 := Lib.hid h1
  have H2 := Lib.hid h2
  clear h1 h2
  go_enter Tryz.func20, Tryz.ntmps20
  go_wp2_with fail
  go_loopw [5] (fun i wr => ∃ j : Nat, i = .int .i64 j ∧ j ≤ l.length ∧ Hid (Still w wr)) (fun i _ => l.length - (intOf i).toNat)
  case atStart => exact ⟨0, rfl, Nat.zero_le _, Lib.hid (Touch.refl _ _)⟩
  case round =>
    obtain ⟨j, rfl, hj, HT⟩ := hrel
    by_cases hlt : j < l.length
    · have q1 : decide ((j : Int) < (l.length : Int)) = true := decide_eq_true (by omega)
      have q1n : decide (j < l.length) = true := decide_eq_true hlt
      have hji : (j : Int) < (l.length : Int) := by omega
      have hwj := IntWalk.i64_in ((j : Int) + 1) (by omega)
      obtain ⟨a, ha⟩ : ∃ a, l[j]? = some a := ⟨_, List.getElem?_eq_getElem hlt⟩
      have hs : (strs l)[j]? = some (.string (bs a)) := by unfold strs; rw [List.getElem?_map, ha]; rfl
      obtain ⟨b1, hx1, ha1⟩ := H1.out j _ hs
      obtain ⟨b2, hx2, ha2⟩ := H2.out j _ hs
      subst hx1
      subst hx2
      have x1 := HT.out.has ha1 id
      have x2 := HT.out.has ha2 id
      generalize bs a = A at x1 x2
      clear ha hs ha1 ha2
      go_wp2_with fail
      go_quiet (fail)
      go_wp2_with fail
      refine ⟨⟨j + 1, rfl, by omega, Lib.hid (HT.out.drewN nq)⟩, ?_⟩
      simp [intOf]
      omega
    · have q1 : decide ((j : Int) < (l.length : Int)) = false := decide_eq_false (by omega)
      have q1n : decide (j < l.length) = false := decide_eq_false hlt
      go_wp2_with fail
      go_ret
      exact ⟨rfl, HT.out⟩

set_option maxRecDepth 100000 in
set_option maxHeartbeats 16000000 in
theorem uses_any (p s y : ByteArray) (fr0 bu : Int) (hy : y.size ≤ 1000) (w : World) :
    Calls Tryz.prog 6 #[.agg #[.string p, .string s, .string y, .int .i64 fr0, .int .i64 bu]] w fun e w' => e = .returned (.bool true) ∧ Still w w' := by
  have HM1 := Lib.hid (fun w => allq_any p s bu w)
  have HM2 := Lib.hid (fun w => rall_any p s bu w)
  have HM3 := Lib.hid (fun w => replace_any p s y bu hy w)
  have HM4 := Lib.hid (fun w => rreplace_any p s y bu hy w)
  have HM5 := Lib.hid (fun w => split_any p s bu w)
  have HM6 := Lib.hid (fun w => rsplit_any p s bu w)
  have HM7 := Lib.hid (fun w => whole_any p s bu w)
  have HM8 := Lib.hid (fun w => rwhole_any p s bu w)
  have HGOT := Lib.hid (fun G l (h : allV s bu (readP (str p)) = .got G l) => allV_got h)
  generalize allV s bu (readP (str p)) = rr at HM1 HM2 HM3 HM4 HM5 HM6 HGOT
  generalize wholeV s bu (readP (str p)) = vv at HM7 HM8
  obtain ⟨vb, vc⟩ := vv
  obtain ⟨w1, hw1⟩ : ∃ w1, w.alloc (.cells #[.string p, .string s, .string y, .int .i64 fr0, .int .i64 bu] 23) = w1 := ⟨_, rfl⟩
  obtain ⟨n1, hn1⟩ : ∃ n1, w.heap.size = n1 := ⟨_, rfl⟩
  have HA1 : Hid (AskAt w1 n1 p s y fr0 bu) := Lib.hid (by rw [← hw1, ← hn1]; exact AskAt.made w p s y fr0 bu)
  have HT1 : Hid (Still w w1) := Lib.hid (by rw [← hw1]; exact (Touch.refl _ _).alloc _)
  have a0 := HA1.out.c0; have a1 := HA1.out.c1; have a2 := HA1.out.c2; have a4 := HA1.out.c4.1
  cases rr with
  | err c =>
    go_enter Tryz.func6, Tryz.ntmps6
    go_wp2_with fail
    refine (HM1.out _).mono ?_
    rintro e w2 ⟨rfl, ht⟩
    clear hw1 hn1
    have HT2 := Lib.hid (HT1.out.then ht)
    have HA2 := Lib.hid (HA1.out.keep ht)
    clear a0 a1 a2 a4
    have a0 := HA2.out.c0; have a1 := HA2.out.c1; have a2 := HA2.out.c2; have a4 := HA2.out.c4.1
    clear ht
    go_wp2_with fail
    refine (HM2.out _).mono ?_
    rintro e w3 ⟨rfl, ht⟩
    have HT3 := Lib.hid (HT2.out.then ht)
    have HA3 := Lib.hid (HA2.out.keep ht)
    clear a0 a1 a2 a4
    have a0 := HA3.out.c0; have a1 := HA3.out.c1; have a2 := HA3.out.c2; have a4 := HA3.out.c4.1
    clear ht
    go_wp2_with fail
    refine (HM3.out _).mono ?_
    rintro e w4 ⟨rfl, ht⟩
    have HT4 := Lib.hid (HT3.out.then ht)
    have HA4 := Lib.hid (HA3.out.keep ht)
    clear a0 a1 a2 a4
    have a0 := HA4.out.c0; have a1 := HA4.out.c1; have a2 := HA4.out.c2; have a4 := HA4.out.c4.1
    clear ht
    go_wp2_with fail
    refine (HM4.out _).mono ?_
    rintro e w5 ⟨rfl, ht⟩
    have HT5 := Lib.hid (HT4.out.then ht)
    have HA5 := Lib.hid (HA4.out.keep ht)
    clear a0 a1 a2 a4
    have a0 := HA5.out.c0; have a1 := HA5.out.c1; have a2 := HA5.out.c2; have a4 := HA5.out.c4.1
    clear ht
    go_wp2_with fail
    refine (HM5.out _).mono ?_
    rintro e w6 ⟨rfl, ht⟩
    have HT6 := Lib.hid (HT5.out.then ht)
    have HA6 := Lib.hid (HA5.out.keep ht)
    clear a0 a1 a2 a4
    have a0 := HA6.out.c0; have a1 := HA6.out.c1; have a2 := HA6.out.c2; have a4 := HA6.out.c4.1
    clear ht
    go_wp2_with fail
    refine (HM6.out _).mono ?_
    rintro e w7 ⟨rfl, ht⟩
    have HT7 := Lib.hid (HT6.out.then ht)
    have HA7 := Lib.hid (HA6.out.keep ht)
    clear a0 a1 a2 a4
    have a0 := HA7.out.c0; have a1 := HA7.out.c1; have a2 := HA7.out.c2; have a4 := HA7.out.c4.1
    clear ht
    go_wp2_with fail
    refine (HM7.out _).mono ?_
    rintro e w8 ⟨rfl, ht⟩
    have HT8 := Lib.hid (HT7.out.then ht)
    have HA8 := Lib.hid (HA7.out.keep ht)
    clear a0 a1 a2 a4
    have a0 := HA8.out.c0; have a1 := HA8.out.c1; have a2 := HA8.out.c2; have a4 := HA8.out.c4.1
    clear ht
    go_wp2_with fail
    refine (HM8.out _).mono ?_
    rintro e w9 ⟨rfl, ht⟩
    have HT9 := Lib.hid (HT8.out.then ht)
    have HA9 := Lib.hid (HA8.out.keep ht)
    clear a0 a1 a2 a4
    clear ht
    go_wp2_with fail
    refine (pairs_nil _).mono ?_
    rintro e w10 ⟨rfl, ht⟩
    have HT10 := Lib.hid (HT9.out.then ht)
    clear ht
    go_wp2_with fail
    refine (texts_any none none 0 0 [] _ (fun j u h => by simp [strs] at h) (fun j u h => by simp [strs] at h) (by decide)).mono ?_
    rintro e w11 ⟨rfl, ht⟩
    have HT11 := Lib.hid (HT10.out.then ht)
    clear ht
    go_wp2_with fail
    go_ret
    exact ⟨by simp, HT11.out⟩
  | got G l =>
    obtain ⟨-, hch, hl5⟩ := HGOT.out G l rfl
    have hsl := split_len (str s) l 0
    go_enter Tryz.func6, Tryz.ntmps6
    go_wp2_with fail
    refine (HM1.out _).mono ?_
    rintro e w2 ⟨x1, cp1, rfl, hcp1, hrow1, ht⟩
    have HROW1 := Lib.hid hrow1
    clear hrow1
    clear hw1 hn1
    have HT2 := Lib.hid (HT1.out.then ht)
    have HA2 := Lib.hid (HA1.out.keep ht)
    clear a0 a1 a2 a4
    have a0 := HA2.out.c0; have a1 := HA2.out.c1; have a2 := HA2.out.c2; have a4 := HA2.out.c4.1
    clear ht
    go_wp2_with fail
    refine (HM2.out _).mono ?_
    rintro e w3 ⟨x2, cp2, rfl, hcp2, hrow2, ht⟩
    have HROW2 := Lib.hid hrow2
    clear hrow2
    have HT3 := Lib.hid (HT2.out.then ht)
    have HA3 := Lib.hid (HA2.out.keep ht)
    clear a0 a1 a2 a4
    have a0 := HA3.out.c0; have a1 := HA3.out.c1; have a2 := HA3.out.c2; have a4 := HA3.out.c4.1
    have HROW1 := Lib.hid (HROW1.out.keep ht)
    clear ht
    go_wp2_with fail
    refine (HM3.out _).mono ?_
    rintro e w4 ⟨rfl, ht⟩
    have HT4 := Lib.hid (HT3.out.then ht)
    have HA4 := Lib.hid (HA3.out.keep ht)
    clear a0 a1 a2 a4
    have a0 := HA4.out.c0; have a1 := HA4.out.c1; have a2 := HA4.out.c2; have a4 := HA4.out.c4.1
    have HROW1 := Lib.hid (HROW1.out.keep ht)
    have HROW2 := Lib.hid (HROW2.out.keep ht)
    clear ht
    go_wp2_with fail
    refine (HM4.out _).mono ?_
    rintro e w5 ⟨rfl, ht⟩
    have HT5 := Lib.hid (HT4.out.then ht)
    have HA5 := Lib.hid (HA4.out.keep ht)
    clear a0 a1 a2 a4
    have a0 := HA5.out.c0; have a1 := HA5.out.c1; have a2 := HA5.out.c2; have a4 := HA5.out.c4.1
    have HROW1 := Lib.hid (HROW1.out.keep ht)
    have HROW2 := Lib.hid (HROW2.out.keep ht)
    clear ht
    go_wp2_with fail
    refine (HM5.out _).mono ?_
    rintro e w6 ⟨x5, cp5, rfl, hcp5, hrow5, ht⟩
    have HROW5 := Lib.hid hrow5
    clear hrow5
    have HT6 := Lib.hid (HT5.out.then ht)
    have HA6 := Lib.hid (HA5.out.keep ht)
    clear a0 a1 a2 a4
    have a0 := HA6.out.c0; have a1 := HA6.out.c1; have a2 := HA6.out.c2; have a4 := HA6.out.c4.1
    have HROW1 := Lib.hid (HROW1.out.keep ht)
    have HROW2 := Lib.hid (HROW2.out.keep ht)
    clear ht
    go_wp2_with fail
    refine (HM6.out _).mono ?_
    rintro e w7 ⟨x6, cp6, rfl, hcp6, hrow6, ht⟩
    have HROW6 := Lib.hid hrow6
    clear hrow6
    have HT7 := Lib.hid (HT6.out.then ht)
    have HA7 := Lib.hid (HA6.out.keep ht)
    clear a0 a1 a2 a4
    have a0 := HA7.out.c0; have a1 := HA7.out.c1; have a2 := HA7.out.c2; have a4 := HA7.out.c4.1
    have HROW1 := Lib.hid (HROW1.out.keep ht)
    have HROW2 := Lib.hid (HROW2.out.keep ht)
    have HROW5 := Lib.hid (HROW5.out.keep ht)
    clear ht
    go_wp2_with fail
    refine (HM7.out _).mono ?_
    rintro e w8 ⟨rfl, ht⟩
    have HT8 := Lib.hid (HT7.out.then ht)
    have HA8 := Lib.hid (HA7.out.keep ht)
    clear a0 a1 a2 a4
    have a0 := HA8.out.c0; have a1 := HA8.out.c1; have a2 := HA8.out.c2; have a4 := HA8.out.c4.1
    have HROW1 := Lib.hid (HROW1.out.keep ht)
    have HROW2 := Lib.hid (HROW2.out.keep ht)
    have HROW5 := Lib.hid (HROW5.out.keep ht)
    have HROW6 := Lib.hid (HROW6.out.keep ht)
    clear ht
    go_wp2_with fail
    refine (HM8.out _).mono ?_
    rintro e w9 ⟨rfl, ht⟩
    have HT9 := Lib.hid (HT8.out.then ht)
    have HA9 := Lib.hid (HA8.out.keep ht)
    clear a0 a1 a2 a4
    have HROW1 := Lib.hid (HROW1.out.keep ht)
    have HROW2 := Lib.hid (HROW2.out.keep ht)
    have HROW5 := Lib.hid (HROW5.out.keep ht)
    have HROW6 := Lib.hid (HROW6.out.keep ht)
    clear ht
    generalize replV s y (.got G l) = rv
    obtain ⟨rv1, rv2⟩ := rv
    generalize splitR (str s) 0 l = d at *
    go_wp2_with fail
    refine (pairs_any x1 x2 cp1 cp2 l _ HROW1.out HROW2.out (by omega)).mono ?_
    rintro e w10 ⟨rfl, ht⟩
    have HT10 := Lib.hid (HT9.out.then ht)
    have HROW5 := Lib.hid (HROW5.out.keep ht)
    have HROW6 := Lib.hid (HROW6.out.keep ht)
    clear ht
    go_wp2_with fail
    refine (texts_any x5 x6 cp5 cp6 d _ HROW5.out HROW6.out (by omega)).mono ?_
    rintro e w11 ⟨rfl, ht⟩
    have HT11 := Lib.hid (HT10.out.then ht)
    clear ht
    go_wp2_with fail
    go_ret
    exact ⟨by simp, HT11.out⟩

set_option maxRecDepth 100000 in
set_option maxHeartbeats 4000000 in
/-- RegexUses. -/
theorem law_uses (p s y : ByteArray) (fr0 bu : Int) (hfr : (Lit.int .i64 fr0).wf = true) (hbu : (Lit.int .i64 bu).wf = true) (w : World) :
    Calls Tryz.prog 3 #[.agg #[.string p, .string s, .string y, .int .i64 fr0, .int .i64 bu]] w fun e w' => e = .returned (.bool true) ∧ Still w w' := by
  have HS := Lib.hid sane_any
  have HM := Lib.hid (fun bu (hy : y.size ≤ 100) w => uses_any p s y fr0 bu (by omega) w)
  obtain ⟨w1, hw1⟩ : ∃ w1, w.alloc (.cells #[.string p, .string s, .string y, .int .i64 fr0, .int .i64 bu] 23) = w1 := ⟨_, rfl⟩
  obtain ⟨n1, hn1⟩ : ∃ n1, w.heap.size = n1 := ⟨_, rfl⟩
  have HN1 := Lib.hid hn1
  have HA1 : Hid (AskAt w1 n1 p s y fr0 bu) := Lib.hid (by rw [← hw1, ← hn1]; exact AskAt.made w p s y fr0 bu)
  have HT1 : Hid (Still w w1) := Lib.hid (by rw [← hw1]; exact (Touch.refl _ _).alloc _)
  have a0 := HA1.out.c0; have a1 := HA1.out.c1; have a2 := HA1.out.c2; have a3 := HA1.out.c3; have a4 := HA1.out.c4.1; have f4 := HA1.out.c4.2
  by_cases h1 : 2000 < p.size
  · have q1 : decide (2000 < (p.size : Int)) = true := decide_eq_true (by omega)
    go_enter Tryz.func3, Tryz.ntmps3
    go_wp2_with fail
    refine (HS.out _).mono ?_
    rintro e w2 ⟨rfl, ht⟩
    have HT := Lib.hid (HT1.out.then ht)
    clear ht a0 a1 a2 a3 a4 f4 hw1
    go_wp2_with fail
    go_ret
    exact ⟨rfl, HT.out⟩
  · have q1 : decide (2000 < (p.size : Int)) = false := decide_eq_false (by omega)
    by_cases h2 : 6000 < s.size
    · have q2 : decide (6000 < (s.size : Int)) = true := decide_eq_true (by omega)
      go_enter Tryz.func3, Tryz.ntmps3
      go_wp2_with fail
      refine (HS.out _).mono ?_
      rintro e w2 ⟨rfl, ht⟩
      have HT := Lib.hid (HT1.out.then ht)
      clear ht a0 a1 a2 a3 a4 f4 hw1
      go_wp2_with fail
      go_ret
      exact ⟨rfl, HT.out⟩
    · have q2 : decide (6000 < (s.size : Int)) = false := decide_eq_false (by omega)
      by_cases h5 : 100 < y.size
      · have q5 : decide (100 < (y.size : Int)) = true := decide_eq_true (by omega)
        go_enter Tryz.func3, Tryz.ntmps3
        go_wp2_with fail
        refine (HS.out _).mono ?_
        rintro e w2 ⟨rfl, ht⟩
        have HT := Lib.hid (HT1.out.then ht)
        clear ht a0 a1 a2 a3 a4 f4 hw1
        go_wp2_with fail
        go_ret
        exact ⟨rfl, HT.out⟩
      · have q5 : decide (100 < (y.size : Int)) = false := decide_eq_false (by omega)
        have hy5 : y.size ≤ 100 := by omega
        by_cases h3 : 100000 < bu
        · have q3 : decide (100000 < bu) = true := decide_eq_true h3
          by_cases h4 : bu ≤ 1000000
          · have q4 : decide (bu ≤ 1000000) = true := decide_eq_true h4
            have hST : Still w (w1.setCell ⟨n1, 4, none⟩ (.int .i64 (bu.tdiv 100))) := (HT1.out.trans (S1 := fun b => b = n1) (Touch.setCell (Touch.refl (fun b => b = n1) w1) (.inl rfl) _) (fun i e => .inr (by rw [HN1.out]; omega)))
            have HST := Lib.hid hST
            clear hST
            have b0 := cell_set_other (w := w1) a0 (p := ⟨n1, 4, none⟩) (.int .i64 (bu.tdiv 100)) (.inr (by simp))
            have b1 := cell_set_other (w := w1) a1 (p := ⟨n1, 4, none⟩) (.int .i64 (bu.tdiv 100)) (.inr (by simp))
            have b2 := cell_set_other (w := w1) a2 (p := ⟨n1, 4, none⟩) (.int .i64 (bu.tdiv 100)) (.inr (by simp))
            have b3 := cell_set_other (w := w1) a3 (p := ⟨n1, 4, none⟩) (.int .i64 (bu.tdiv 100)) (.inr (by simp))
            have b4 : (w1.setCell ⟨n1, 4, none⟩ (.int .i64 (bu.tdiv 100))).cell? ⟨n1, 4, none⟩ = _ := (HA1.out.c4.set (.int .i64 (bu.tdiv 100))).1
            have hwq := IntWalk.i64_quo' bu 100 (by omega)
            go_enter Tryz.func3, Tryz.ntmps3
            go_wp2_with fail
            refine (HM.out _ hy5 _).mono ?_
            rintro e w2 ⟨rfl, ht⟩
            have HT := Lib.hid (HST.out.then ht)
            clear ht a0 a1 a2 a3 a4 f4 hw1 b0 b1 b2 b3 b4
            go_wp2_with fail
            refine (HS.out _).mono ?_
            rintro e w3 ⟨rfl, ht⟩
            have HT2 := Lib.hid (HT.out.then ht)
            clear ht
            go_wp2_with fail
            go_ret
            exact ⟨rfl, HT2.out⟩
          · have q4 : decide (bu ≤ 1000000) = false := decide_eq_false h4
            go_enter Tryz.func3, Tryz.ntmps3
            go_wp2_with fail
            refine (HM.out _ hy5 _).mono ?_
            rintro e w2 ⟨rfl, ht⟩
            have HT := Lib.hid (HT1.out.then ht)
            clear ht a0 a1 a2 a3 a4 f4 hw1
            go_wp2_with fail
            refine (HS.out _).mono ?_
            rintro e w3 ⟨rfl, ht⟩
            have HT2 := Lib.hid (HT.out.then ht)
            clear ht
            go_wp2_with fail
            go_ret
            exact ⟨rfl, HT2.out⟩
        · have q3 : decide (100000 < bu) = false := decide_eq_false h3
          go_enter Tryz.func3, Tryz.ntmps3
          go_wp2_with fail
          refine (HM.out _ hy5 _).mono ?_
          rintro e w2 ⟨rfl, ht⟩
          have HT := Lib.hid (HT1.out.then ht)
          clear ht a0 a1 a2 a3 a4 f4 hw1
          go_wp2_with fail
          refine (HS.out _).mono ?_
          rintro e w3 ⟨rfl, ht⟩
          have HT2 := Lib.hid (HT.out.then ht)
          clear ht
          go_wp2_with fail
          go_ret
          exact ⟨rfl, HT2.out⟩
end Go.Proofs.YtlgpilcjcomacaaGreat
