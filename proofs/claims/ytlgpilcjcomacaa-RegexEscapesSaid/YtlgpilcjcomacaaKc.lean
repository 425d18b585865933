/-
  The document's Escape; RegexEscapes walked. (Printed by wip/tools/esc07b.py.)
-/
import Derived.Test.YtlgpilcjcomacaaKb
import Derived.Test.YtlgpilcjcomacaaDa
import Derived.Test.YtlgpilcjcomacaaHb
namespace Go.Proofs.Ytlgpilcjcomacaa
open Go.RowKit Rx
set_option linter.unusedVariables false

set_option maxRecDepth 100000 in
set_option maxHeartbeats 8000000 in
theorem rescw_any (s : ByteArray) (hs : s.size ≤ 100000) (w : World) :
    Calls Try.prog 20 #[.string s] w fun e w' => e = .returned (.string (bs (escR (str s)))) ∧ Still w w' := by
  go_enter Try.func20, Try.ntmps20
  go_wp2_with fail
  go_loopw [3, 4] (fun sv iv wr => ∃ (j : Nat) (l : List UInt8), sv = .string (bs l) ∧ iv = .int .i64 (j : Int) ∧ j ≤ s.size ∧ l.length ≤ j * 2 ∧ Hid (Still w wr) ∧ Hid (escR (str s) = l ++ escR ((str s).drop j))) (fun _ iv _ => s.size - (intOf iv).toNat)
  case atStart => exact ⟨0, [], rfl, rfl, Nat.zero_le _, Nat.zero_le _, Lib.hid (Touch.refl _ _), Lib.hid rfl⟩
  case round =>
    obtain ⟨j, l, rfl, rfl, hj, hl, HT, HE⟩ := hrel
    by_cases hlt : j < s.size
    · have q1 : decide ((j : Int) < (s.size : Int)) = true := decide_eq_true (by omega)
      have q1n : decide (j < s.size) = true := decide_eq_true hlt
      have hji : (j : Int) < (s.size : Int) := by omega
      have wj := IntWalk.i64_in ((j : Int) + 1) (by omega)
      have ht1 : ((j : Int) + 1).toNat = j + 1 := by omega
      have hj1 : (j : Int) + 1 ≤ (s.size : Int) := by omega
      have hj2 : (j : Int) ≤ (j : Int) + 1 := by omega
      have HD := Lib.hid (drop_at hlt)
      have hx1 := one_ext hlt
      obtain ⟨c, hcv⟩ : ∃ c, s[j]'hlt = c := ⟨_, rfl⟩
      rw [hcv] at HD hx1
      have hb1 : (bs [c]).size = 1 := rfl
      have hbl : (bs l).size ≤ 200000 := by rw [bs_size]; omega
      have hb2 : (bs l).size + 2 ≤ 9223372036854775807 := by omega
      have hb3 : (bs l).size + 1 ≤ 9223372036854775807 := by omega
      have hb4 : (bs l).size + 1 + 1 ≤ 9223372036854775807 := by omega
      by_cases h10 : c = 10
      · subst h10
        go_wp2_with fail
        go_roundw
        case rel => exact ⟨j + 1, l ++ [92, 110], by rw [← bs_append]; rfl, by go_num, by omega, by simp; omega, HT, Lib.hid (by rw [HE.out, HD.out]; show l ++ (escB _ ++ escR _) = _; rw [escB_nl]; simp)⟩
        case measure => simp [intOf]; omega
      · have q10 : (((c.toNat : Nat) : Int) == 10) = false := by simp; intro e; exact h10 (UInt8.toNat.inj (by show c.toNat = 10; omega))
        by_cases h9 : c = 9
        · subst h9
          go_wp2_with fail
          go_roundw
          case rel => exact ⟨j + 1, l ++ [92, 116], by rw [← bs_append]; rfl, by go_num, by omega, by simp; omega, HT, Lib.hid (by rw [HE.out, HD.out]; show l ++ (escB _ ++ escR _) = _; rw [escB_tab]; simp)⟩
          case measure => simp [intOf]; omega
        · have q9 : (((c.toNat : Nat) : Int) == 9) = false := by simp; intro e; exact h9 (UInt8.toNat.inj (by show c.toNat = 9; omega))
          obtain ⟨ib, hib⟩ : ∃ ib, Lib.indexByte specB c = ib := ⟨_, rfl⟩
          have hsp := ib_spec c
          rw [hib] at hsp
          have HIB : Hid (∀ w', Calls Try.prog 38 #[.string ⟨#[92, 94, 36, 46, 124, 63, 42, 43, 40, 41, 91, 93, 123, 125]⟩, .int .u8 (c.toNat : Int)] w' fun e w'' => e = .returned (.int .i64 ib) ∧ w'' = w') := Lib.hid (fun w' => by
            have h1 := Try.strings_IndexByte ⟨#[92, 94, 36, 46, 124, 63, 42, 43, 40, 41, 91, 93, 123, 125]⟩ (c.toNat : Int) w'
            have e1 : ((c.toNat : Int)).toNat.toUInt8 = c := by simp
            rw [e1] at h1
            rw [← hib]
            exact h1)
          clear hib
          cases hc : specB.contains c with
          | true =>
            rw [hc] at hsp
            have q8 := hsp
            have HC := Lib.hid hc
            clear hsp hc
            go_wp2_with fail
            refine (HIB.out _).mono ?_
            rintro e w3 ⟨rfl, rfl⟩
            go_wp2_with fail
            go_roundw
            case rel => exact ⟨j + 1, l ++ [92] ++ [c], by rw [← bs_append, ← bs_append]; rfl, by go_num, by omega, by simp; omega, HT, Lib.hid (by rw [HE.out, HD.out]; show l ++ (escB _ ++ escR _) = _; rw [escB_spec h10 h9 HC.out]; simp)⟩
            case measure => simp [intOf]; omega
          | false =>
            rw [hc] at hsp
            have q8 := hsp
            have HC := Lib.hid hc
            clear hsp hc
            go_wp2_with fail
            refine (HIB.out _).mono ?_
            rintro e w3 ⟨rfl, rfl⟩
            go_wp2_with fail
            go_roundw
            case rel => exact ⟨j + 1, l ++ [c], by rw [← bs_append], by go_num, by omega, by simp; omega, HT, Lib.hid (by rw [HE.out, HD.out]; show l ++ (escB _ ++ escR _) = _; rw [escB_self h10 h9 HC.out]; simp)⟩
            case measure => simp [intOf]; omega
    · obtain rfl : j = s.size := by omega
      have q1 : decide (((s.size : Nat) : Int) < (s.size : Int)) = false := decide_eq_false (by omega)
      have HEQ : Hid (escR (str s) = l) := Lib.hid (by rw [HE.out, drop_none]; simp [escR])
      go_wp2_with fail
      go_ret
      rw [HEQ.out]
      exact ⟨rfl, HT.out⟩

theorem alloc_pair2 (w : World) (u v : Value) (T : TypeId) : (w.alloc (.cells #[u, v] T)).cell? ⟨w.heap.size, 0, none⟩ = some u ∧ (w.alloc (.cells #[u, v] T)).cell? ⟨w.heap.size, 1, none⟩ = some v := by simp [go_sem]
/-- The whole text is its own pattern's. -/
theorem whole_lits (t : List UInt8) (B : Nat) (h : t.length < B) : ∃ n g x, fr t B (wholeR (litsR t)) true 0 0 = .yes n g x := by
  rw [fr_step _ _ _ _ _ _ (Nat.zero_le _)]
  have h1 := (run_lits t B g0 (fun e n g => run t B (.cat (.asr 4) .nil) e K0 n g) t 0 0 (by omega)).1 (List.prefix_refl _)
  have h2 : run t B (wholeR (litsR t)) 0 K0 0 g0 = orElse (orElse (run t B (toRow (litR t)) 0 (fun e n g => run t B (.cat (.asr 4) .nil) e K0 n g) 0 g0) (fun n => .no n)) (fun n => .no n) := by
    simp only [wholeR, litsR, run, if_true]
  rw [h2, h1]
  simp only [run, tick, Nat.zero_add]
  rw [if_neg (by omega)]
  have h3 : stands t 4 t.length = true := by unfold stands; simp
  rw [h3]
  exact ⟨_, _, _, rfl⟩
/-- The text stands behind what is around it. -/
theorem pre_around (s a : ByteArray) : PreAt (str (a ++ s ++ a)) (str s) a.size := by
  have e : str (a ++ s ++ a) = str a ++ (str s ++ str a) := by
    unfold str
    rw [ByteArray.data_append, ByteArray.data_append]
    simp
  unfold PreAt
  rw [e, ← str_len a, List.drop_left]
  exact List.prefix_append _ _
theorem pre_iff (s all : ByteArray) (j : Nat) (h : j + s.size ≤ all.size) : PreAt (str all) (str s) j ↔ all.extract j (j + s.size) = s := by
  unfold PreAt
  have e : str (all.extract j (j + s.size)) = ((str all).drop j).take s.size := by rw [str_ext]; congr 1; omega
  constructor
  · intro h1
    have h2 := List.prefix_iff_eq_take.1 h1
    rw [str_len] at h2
    have h3 : str (all.extract j (j + s.size)) = str s := by rw [e, ← h2]
    have h4 : bs (str (all.extract j (j + s.size))) = bs (str s) := by rw [h3]
    exact h4
  · intro h1
    have h2 : str (all.extract j (j + s.size)) = str s := by rw [h1]
    rw [e] at h2
    rw [← h2]
    exact List.take_prefix _ _

set_option maxRecDepth 100000 in
set_option maxHeartbeats 16000000 in
/-- RegexEscapes. -/
theorem law_escapes (s0 a0 : ByteArray) (w : World) :
    Calls Try.prog 8 #[.string s0, .string a0] w fun e w' => e = .returned (.bool true) ∧ Still w w' := by
  have HS := Lib.hid sane_any
  have HE1 : Hid (∀ s : ByteArray, s.size ≤ 140 → ∀ w', Calls Try.prog 19 #[.string s] w' fun e w'' => e = .returned (.string (bs (escR (str s)))) ∧ Still w' w'') := Lib.hid (fun s hs w' => escw_any s (by omega) w')
  have HE2 : Hid (∀ s : ByteArray, s.size ≤ 140 → ∀ w', Calls Try.prog 20 #[.string s] w' fun e w'' => e = .returned (.string (bs (escR (str s)))) ∧ Still w' w'') := Lib.hid (fun s hs w' => rescw_any s (by omega) w')
  by_cases h1 : 140 < s0.size
  · by_cases h2 : 300 < a0.size
    · have q1 : decide (140 < (s0.size : Int)) = true := decide_eq_true (by omega)
      have q2 : decide (300 < (a0.size : Int)) = true := decide_eq_true (by omega)
      have h140 : (140 : Int) ≤ (s0.size : Int) := by omega
      obtain ⟨s, hsx⟩ : ∃ s, s0.extract 0 140 = s := ⟨_, rfl⟩
      have hs140 : s.size ≤ 140 := by rw [← hsx, ByteArray.size_extract]; omega
      have h300 : (300 : Int) ≤ (a0.size : Int) := by omega
      obtain ⟨a, hax⟩ : ∃ a, a0.extract 0 300 = a := ⟨_, rfl⟩
      have ha300 : a.size ≤ 300 := by rw [← hax, ByteArray.size_extract]; omega
      go_enter Try.func8, Try.ntmps8
      obtain ⟨p, hp⟩ : ∃ p, bs (escR (str s)) = p := ⟨_, rfl⟩
      have hrd : readP (str p) = some (litsR (str s), 0) := by rw [← hp, str_bs]; exact esc_read _ (by rw [str_len]; omega)
      have HW1 := Lib.hid (HE1.out s hs140)
      have HW2 := Lib.hid (HE2.out s hs140)
      rw [hp] at HW1 HW2
      have HCK : Hid (∀ w', Calls Try.prog 21 #[.string p] w' fun e w'' => e = .returned (.int .i64 0) ∧ Still w' w'') := Lib.hid (fun w' => by have h := check_any p w'; rw [hrd] at h; exact h)
      have HWH : Hid (∀ w', Calls Try.prog 18 #[.string p, .string s, .int .i64 1000] w' fun e w'' => e = .returned (.tuple #[.bool true, .int .i64 0]) ∧ Still w' w'') := Lib.hid (fun w' => by
        have h := whole_any p s ((1000 : Nat) : Int) w'
        rw [hrd] at h
        have h2 : wholeV s ((1000 : Nat) : Int) (some (litsR (str s), 0)) = (true, 0) := by
          show (if askOK s.size 0 ((1000 : Nat) : Int) = true then wholeRes (fr (str s) ((1000 : Nat) : Int).toNat (wholeR (litsR (str s))) true 0 0) else (false, 1)) = _
          rw [if_pos (by unfold askOK; exact decide_eq_true (by omega)), Int.toNat_natCast]
          obtain ⟨n, g, x, h3⟩ := whole_lits (str s) 1000 (by rw [str_len]; omega)
          rw [h3]
          rfl
        rw [h2] at h
        exact h)
      obtain ⟨all, hall⟩ : ∃ all, a ++ s ++ a = all := ⟨_, rfl⟩
      have hasz : all.size = a.size + s.size + a.size := by rw [← hall, ByteArray.size_append, ByteArray.size_append]
      have HPA : Hid (PreAt (str all) (str s) a.size) := Lib.hid (by rw [← hall]; exact pre_around s a)
      have HMT : Hid (∀ (i : Nat) w', i + s.size ≤ all.size → PreAt (str all) (str s) i → (∀ m, m < i → ¬ PreAt (str all) (str s) m) → Calls Try.prog 13 #[.string p, .string all, .int .i64 0, .int .i64 1000000] w' (fun e w'' => ∃ (n x : Nat) (bg cg : Nat), e = .returned (.tuple #[.agg #[.slice (some ⟨bg, 0, none⟩) 1 cg, .int .i64 (n : Int)], .int .i64 0]) ∧ (∀ j, j < 2 → w''.cell? ⟨bg, j, none⟩ = some (gv (upd g0 0 ((i : Int), ((i + s.size : Nat) : Int))) j)) ∧ Still w' w'')) := Lib.hid (fun i w' hi h1 h2 => by
        have h := match_out p all ((0 : Nat) : Int) ((1000000 : Nat) : Int) w'
        rw [hrd] at h
        have hmul : (i + 1) * s.size ≤ 741 * 140 := Nat.mul_le_mul (by omega) (by omega)
        obtain ⟨m, h3⟩ := fr_lits (str all) (str s) 1000000 i (by rw [str_len]; omega) h1 i 0 0 (Nat.zero_add _) (fun m _ hm => h2 m hm) (by rw [str_len]; omega)
        have h4 : MOut all ((0 : Nat) : Int) ((1000000 : Nat) : Int) (some (litsR (str s), 0)) = .found 0 m (upd g0 0 ((i : Int), ((i + s.size : Nat) : Int))) (i + s.size) := by
          show (if askOK all.size ((0 : Nat) : Int) ((1000000 : Nat) : Int) = true then outR 0 (fr (str all) ((1000000 : Nat) : Int).toNat (.grp 0 (litsR (str s))) false ((0 : Nat) : Int).toNat 0) else .err 1) = _
          rw [if_pos (by unfold askOK; exact decide_eq_true (by omega)), Int.toNat_natCast, Int.toNat_natCast, h3, str_len]
          rfl
        rw [h4] at h
        refine h.mono ?_
        rintro e w2 ⟨bg, cg, rfl, -, h5, -, -, h6⟩
        exact ⟨m, i + s.size, bg, cg, rfl, h5, h6⟩)
      have hz1 : a.size + s.size ≤ 9223372036854775807 := by omega
      have hz2 : a.size + s.size + a.size ≤ 9223372036854775807 := by omega
      have HEX : Hid (∀ j, j + s.size ≤ all.size → (PreAt (str all) (str s) j ↔ all.extract j (j + s.size) = s)) := Lib.hid (fun j h => pre_iff s all j h)
      clear hrd hp HE1 HE2
      have hasz2 := Lib.hid hasz
      go_wp2_with fail
      refine (HW1.out _).mono ?_
      rintro e w1 ⟨rfl, ht⟩
      have HT1 := Lib.hid ht
      clear ht
      go_wp2_with fail
      refine (HW2.out _).mono ?_
      rintro e w2 ⟨rfl, ht⟩
      have HT2 := Lib.hid (HT1.out.then ht)
      clear ht
      go_wp2_with fail
      refine (HCK.out _).mono ?_
      rintro e w3 ⟨rfl, ht⟩
      have HT3 := Lib.hid (HT2.out.then ht)
      clear ht
      clear hs140 ha300
      go_wp2_with fail
      go_loopw [7] (fun jv wr => ∃ j : Nat, jv = .int .i64 (j : Int) ∧ j ≤ a.size ∧ Hid (Still w wr) ∧ Hid (∀ m, m < j → ¬ PreAt (str all) (str s) m)) (fun jv _ => a.size - (intOf jv).toNat)
      case atStart => exact ⟨0, rfl, Nat.zero_le _, HT3, Lib.hid (fun m hm => absurd hm (Nat.not_lt_zero _))⟩
      case round =>
        clear HT3
        obtain ⟨j, rfl, hj, HT, HN⟩ := hrel
        have hjs : j + s.size ≤ all.size := by omega
        have wj := IntWalk.i64_in ((j : Int) + (s.size : Int)) (by omega)
        have wj1 := IntWalk.i64_in ((j : Int) + 1) (by omega)
        have q3 : decide ((j : Int) + (s.size : Int) ≤ (all.size : Int)) = true := decide_eq_true (by omega)
        have q3i : (j : Int) + (s.size : Int) ≤ (all.size : Int) := by omega
        have ht1 : ((j : Int) + (s.size : Int)).toNat = j + s.size := by omega
        have hjj : (j : Int) ≤ (j : Int) + (s.size : Int) := by omega
        have hpi := HEX.out j hjs
        by_cases hP : PreAt (str all) (str s) j
        · have hxe := hpi.1 hP
          have HP := Lib.hid hP
          have HJS := Lib.hid hjs
          clear hpi hP hjs
          go_wp2_with fail
          refine (HMT.out j _ HJS.out HP.out HN.out).mono ?_
          rintro e w5 ⟨n, x, bg, cg, rfl, hc, ht⟩
          have HC := Lib.hid hc
          have HT5 := Lib.hid (HT.out.then ht)
          have ht6 : Still w5 (w5.alloc (.cells #[.slice (some ⟨bg, 0, none⟩) 1 cg, .int .i64 (n : Int)] 32)) := (Touch.refl _ _).alloc _
          have HT6 := Lib.hid ht6
          have HF6 : Hid (FoundAt (w5.alloc (.cells #[.slice (some ⟨bg, 0, none⟩) 1 cg, .int .i64 (n : Int)] 32)) w5.heap.size (.slice (some ⟨bg, 0, none⟩) 1 cg) (n : Int)) := Lib.hid (FoundAt.made w5 _ _ _)
          clear hc ht ht6
          go_wp2_with fail
          refine (HWH.out _).mono ?_
          rintro e w7 ⟨rfl, ht⟩
          have HT7 := Lib.hid (HT6.out.then ht)
          have d0 := (HF6.out.keep ht).c0
          obtain ⟨n5, hn5⟩ : ∃ n5, w5.heap.size = n5 := ⟨_, rfl⟩
          rw [hn5] at d0
          have hl2 := alloc_pair2 w7 (.int .i64 (j : Int)) (.int .i64 ((j : Int) + (s.size : Int))) 40
          have HL2 := Lib.hid hl2
          have hta : Still w7 (w7.alloc (.cells #[.int .i64 (j : Int), .int .i64 ((j : Int) + (s.size : Int))] 40)) := (Touch.refl _ _).alloc _
          have HTA := Lib.hid hta
          clear ht hl2 hta
          go_wp2_with fail
          refine (pairs_same bg w7.heap.size cg 1 0 (upd g0 0 ((j : Int), ((j + s.size : Nat) : Int))) _ (fun i hi => HTA.out.has (HT7.out.has (HC.out i hi) id) id) (fun i hi => ?_) (by decide)).mono ?_
          · rcases (show i = 0 ∨ i = 1 by omega) with rfl | rfl
            · exact HL2.out.1
            · rw [HL2.out.2]; show _ = some (Value.int .i64 (((j + s.size : Nat) : Int))); rw [Int.natCast_add]
          rintro e w8 ⟨rfl, ht⟩
          have HT8 := Lib.hid (((HT5.out.then HT7.out).then HTA.out).then ht)
          clear ht d0 hn5
          go_wp2_with fail
          refine (HS.out _).mono ?_
          rintro e w9 ⟨rfl, ht⟩
          have HT9 := Lib.hid (HT8.out.then ht)
          clear ht
          go_wp2_with fail
          go_ret
          exact ⟨rfl, HT9.out⟩
        · have q4 : ((all.extract j (j + s.size)).toList == s.toList) = false := by
            rw [Lib.toList_data, Lib.toList_data, beq_eq_false_iff_ne]
            intro h
            refine hP (hpi.2 ?_)
            have h2 : bs (str (all.extract j (j + s.size))) = bs (str s) := congrArg bs h
            exact h2
          have hne : j ≠ a.size := fun e => hP (by rw [e]; exact HPA.out)
          have HP := Lib.hid hP
          clear hpi hP hjs
          go_wp2_with fail
          go_roundw
          case rel => exact ⟨j + 1, by go_num, by omega, HT, Lib.hid (fun m hm => by
            rcases Nat.lt_or_ge m j with h | h
            · exact HN.out m h
            · rw [show m = j by omega]; exact HP.out)⟩
          case measure => simp [intOf]; omega
    · have q1 : decide (140 < (s0.size : Int)) = true := decide_eq_true (by omega)
      have q2 : decide (300 < (a0.size : Int)) = false := decide_eq_false (by omega)
      have h140 : (140 : Int) ≤ (s0.size : Int) := by omega
      obtain ⟨s, hsx⟩ : ∃ s, s0.extract 0 140 = s := ⟨_, rfl⟩
      have hs140 : s.size ≤ 140 := by rw [← hsx, ByteArray.size_extract]; omega
      obtain ⟨a, hax⟩ : ∃ a, a = a0 := ⟨_, rfl⟩
      have ha300 : a.size ≤ 300 := by rw [hax]; omega
      subst hax
      go_enter Try.func8, Try.ntmps8
      obtain ⟨p, hp⟩ : ∃ p, bs (escR (str s)) = p := ⟨_, rfl⟩
      have hrd : readP (str p) = some (litsR (str s), 0) := by rw [← hp, str_bs]; exact esc_read _ (by rw [str_len]; omega)
      have HW1 := Lib.hid (HE1.out s hs140)
      have HW2 := Lib.hid (HE2.out s hs140)
      rw [hp] at HW1 HW2
      have HCK : Hid (∀ w', Calls Try.prog 21 #[.string p] w' fun e w'' => e = .returned (.int .i64 0) ∧ Still w' w'') := Lib.hid (fun w' => by have h := check_any p w'; rw [hrd] at h; exact h)
      have HWH : Hid (∀ w', Calls Try.prog 18 #[.string p, .string s, .int .i64 1000] w' fun e w'' => e = .returned (.tuple #[.bool true, .int .i64 0]) ∧ Still w' w'') := Lib.hid (fun w' => by
        have h := whole_any p s ((1000 : Nat) : Int) w'
        rw [hrd] at h
        have h2 : wholeV s ((1000 : Nat) : Int) (some (litsR (str s), 0)) = (true, 0) := by
          show (if askOK s.size 0 ((1000 : Nat) : Int) = true then wholeRes (fr (str s) ((1000 : Nat) : Int).toNat (wholeR (litsR (str s))) true 0 0) else (false, 1)) = _
          rw [if_pos (by unfold askOK; exact decide_eq_true (by omega)), Int.toNat_natCast]
          obtain ⟨n, g, x, h3⟩ := whole_lits (str s) 1000 (by rw [str_len]; omega)
          rw [h3]
          rfl
        rw [h2] at h
        exact h)
      obtain ⟨all, hall⟩ : ∃ all, a ++ s ++ a = all := ⟨_, rfl⟩
      have hasz : all.size = a.size + s.size + a.size := by rw [← hall, ByteArray.size_append, ByteArray.size_append]
      have HPA : Hid (PreAt (str all) (str s) a.size) := Lib.hid (by rw [← hall]; exact pre_around s a)
      have HMT : Hid (∀ (i : Nat) w', i + s.size ≤ all.size → PreAt (str all) (str s) i → (∀ m, m < i → ¬ PreAt (str all) (str s) m) → Calls Try.prog 13 #[.string p, .string all, .int .i64 0, .int .i64 1000000] w' (fun e w'' => ∃ (n x : Nat) (bg cg : Nat), e = .returned (.tuple #[.agg #[.slice (some ⟨bg, 0, none⟩) 1 cg, .int .i64 (n : Int)], .int .i64 0]) ∧ (∀ j, j < 2 → w''.cell? ⟨bg, j, none⟩ = some (gv (upd g0 0 ((i : Int), ((i + s.size : Nat) : Int))) j)) ∧ Still w' w'')) := Lib.hid (fun i w' hi h1 h2 => by
        have h := match_out p all ((0 : Nat) : Int) ((1000000 : Nat) : Int) w'
        rw [hrd] at h
        have hmul : (i + 1) * s.size ≤ 741 * 140 := Nat.mul_le_mul (by omega) (by omega)
        obtain ⟨m, h3⟩ := fr_lits (str all) (str s) 1000000 i (by rw [str_len]; omega) h1 i 0 0 (Nat.zero_add _) (fun m _ hm => h2 m hm) (by rw [str_len]; omega)
        have h4 : MOut all ((0 : Nat) : Int) ((1000000 : Nat) : Int) (some (litsR (str s), 0)) = .found 0 m (upd g0 0 ((i : Int), ((i + s.size : Nat) : Int))) (i + s.size) := by
          show (if askOK all.size ((0 : Nat) : Int) ((1000000 : Nat) : Int) = true then outR 0 (fr (str all) ((1000000 : Nat) : Int).toNat (.grp 0 (litsR (str s))) false ((0 : Nat) : Int).toNat 0) else .err 1) = _
          rw [if_pos (by unfold askOK; exact decide_eq_true (by omega)), Int.toNat_natCast, Int.toNat_natCast, h3, str_len]
          rfl
        rw [h4] at h
        refine h.mono ?_
        rintro e w2 ⟨bg, cg, rfl, -, h5, -, -, h6⟩
        exact ⟨m, i + s.size, bg, cg, rfl, h5, h6⟩)
      have hz1 : a.size + s.size ≤ 9223372036854775807 := by omega
      have hz2 : a.size + s.size + a.size ≤ 9223372036854775807 := by omega
      have HEX : Hid (∀ j, j + s.size ≤ all.size → (PreAt (str all) (str s) j ↔ all.extract j (j + s.size) = s)) := Lib.hid (fun j h => pre_iff s all j h)
      clear hrd hp HE1 HE2
      have hasz2 := Lib.hid hasz
      go_wp2_with fail
      refine (HW1.out _).mono ?_
      rintro e w1 ⟨rfl, ht⟩
      have HT1 := Lib.hid ht
      clear ht
      go_wp2_with fail
      refine (HW2.out _).mono ?_
      rintro e w2 ⟨rfl, ht⟩
      have HT2 := Lib.hid (HT1.out.then ht)
      clear ht
      go_wp2_with fail
      refine (HCK.out _).mono ?_
      rintro e w3 ⟨rfl, ht⟩
      have HT3 := Lib.hid (HT2.out.then ht)
      clear ht
      clear hs140 ha300
      go_wp2_with fail
      go_loopw [7] (fun jv wr => ∃ j : Nat, jv = .int .i64 (j : Int) ∧ j ≤ a.size ∧ Hid (Still w wr) ∧ Hid (∀ m, m < j → ¬ PreAt (str all) (str s) m)) (fun jv _ => a.size - (intOf jv).toNat)
      case atStart => exact ⟨0, rfl, Nat.zero_le _, HT3, Lib.hid (fun m hm => absurd hm (Nat.not_lt_zero _))⟩
      case round =>
        clear HT3
        obtain ⟨j, rfl, hj, HT, HN⟩ := hrel
        have hjs : j + s.size ≤ all.size := by omega
        have wj := IntWalk.i64_in ((j : Int) + (s.size : Int)) (by omega)
        have wj1 := IntWalk.i64_in ((j : Int) + 1) (by omega)
        have q3 : decide ((j : Int) + (s.size : Int) ≤ (all.size : Int)) = true := decide_eq_true (by omega)
        have q3i : (j : Int) + (s.size : Int) ≤ (all.size : Int) := by omega
        have ht1 : ((j : Int) + (s.size : Int)).toNat = j + s.size := by omega
        have hjj : (j : Int) ≤ (j : Int) + (s.size : Int) := by omega
        have hpi := HEX.out j hjs
        by_cases hP : PreAt (str all) (str s) j
        · have hxe := hpi.1 hP
          have HP := Lib.hid hP
          have HJS := Lib.hid hjs
          clear hpi hP hjs
          go_wp2_with fail
          refine (HMT.out j _ HJS.out HP.out HN.out).mono ?_
          rintro e w5 ⟨n, x, bg, cg, rfl, hc, ht⟩
          have HC := Lib.hid hc
          have HT5 := Lib.hid (HT.out.then ht)
          have ht6 : Still w5 (w5.alloc (.cells #[.slice (some ⟨bg, 0, none⟩) 1 cg, .int .i64 (n : Int)] 32)) := (Touch.refl _ _).alloc _
          have HT6 := Lib.hid ht6
          have HF6 : Hid (FoundAt (w5.alloc (.cells #[.slice (some ⟨bg, 0, none⟩) 1 cg, .int .i64 (n : Int)] 32)) w5.heap.size (.slice (some ⟨bg, 0, none⟩) 1 cg) (n : Int)) := Lib.hid (FoundAt.made w5 _ _ _)
          clear hc ht ht6
          go_wp2_with fail
          refine (HWH.out _).mono ?_
          rintro e w7 ⟨rfl, ht⟩
          have HT7 := Lib.hid (HT6.out.then ht)
          have d0 := (HF6.out.keep ht).c0
          obtain ⟨n5, hn5⟩ : ∃ n5, w5.heap.size = n5 := ⟨_, rfl⟩
          rw [hn5] at d0
          have hl2 := alloc_pair2 w7 (.int .i64 (j : Int)) (.int .i64 ((j : Int) + (s.size : Int))) 40
          have HL2 := Lib.hid hl2
          have hta : Still w7 (w7.alloc (.cells #[.int .i64 (j : Int), .int .i64 ((j : Int) + (s.size : Int))] 40)) := (Touch.refl _ _).alloc _
          have HTA := Lib.hid hta
          clear ht hl2 hta
          go_wp2_with fail
          refine (pairs_same bg w7.heap.size cg 1 0 (upd g0 0 ((j : Int), ((j + s.size : Nat) : Int))) _ (fun i hi => HTA.out.has (HT7.out.has (HC.out i hi) id) id) (fun i hi => ?_) (by decide)).mono ?_
          · rcases (show i = 0 ∨ i = 1 by omega) with rfl | rfl
            · exact HL2.out.1
            · rw [HL2.out.2]; show _ = some (Value.int .i64 (((j + s.size : Nat) : Int))); rw [Int.natCast_add]
          rintro e w8 ⟨rfl, ht⟩
          have HT8 := Lib.hid (((HT5.out.then HT7.out).then HTA.out).then ht)
          clear ht d0 hn5
          go_wp2_with fail
          refine (HS.out _).mono ?_
          rintro e w9 ⟨rfl, ht⟩
          have HT9 := Lib.hid (HT8.out.then ht)
          clear ht
          go_wp2_with fail
          go_ret
          exact ⟨rfl, HT9.out⟩
        · have q4 : ((all.extract j (j + s.size)).toList == s.toList) = false := by
            rw [Lib.toList_data, Lib.toList_data, beq_eq_false_iff_ne]
            intro h
            refine hP (hpi.2 ?_)
            have h2 : bs (str (all.extract j (j + s.size))) = bs (str s) := congrArg bs h
            exact h2
          have hne : j ≠ a.size := fun e => hP (by rw [e]; exact HPA.out)
          have HP := Lib.hid hP
          clear hpi hP hjs
          go_wp2_with fail
          go_roundw
          case rel => exact ⟨j + 1, by go_num, by omega, HT, Lib.hid (fun m hm => by
            rcases Nat.lt_or_ge m j with h | h
            · exact HN.out m h
            · rw [show m = j by omega]; exact HP.out)⟩
          case measure => simp [intOf]; omega
  · by_cases h2 : 300 < a0.size
    · have q1 : decide (140 < (s0.size : Int)) = false := decide_eq_false (by omega)
      have q2 : decide (300 < (a0.size : Int)) = true := decide_eq_true (by omega)
      obtain ⟨s, hsx⟩ : ∃ s, s = s0 := ⟨_, rfl⟩
      have hs140 : s.size ≤ 140 := by rw [hsx]; omega
      have h300 : (300 : Int) ≤ (a0.size : Int) := by omega
      obtain ⟨a, hax⟩ : ∃ a, a0.extract 0 300 = a := ⟨_, rfl⟩
      have ha300 : a.size ≤ 300 := by rw [← hax, ByteArray.size_extract]; omega
      subst hsx
      go_enter Try.func8, Try.ntmps8
      obtain ⟨p, hp⟩ : ∃ p, bs (escR (str s)) = p := ⟨_, rfl⟩
      have hrd : readP (str p) = some (litsR (str s), 0) := by rw [← hp, str_bs]; exact esc_read _ (by rw [str_len]; omega)
      have HW1 := Lib.hid (HE1.out s hs140)
      have HW2 := Lib.hid (HE2.out s hs140)
      rw [hp] at HW1 HW2
      have HCK : Hid (∀ w', Calls Try.prog 21 #[.string p] w' fun e w'' => e = .returned (.int .i64 0) ∧ Still w' w'') := Lib.hid (fun w' => by have h := check_any p w'; rw [hrd] at h; exact h)
      have HWH : Hid (∀ w', Calls Try.prog 18 #[.string p, .string s, .int .i64 1000] w' fun e w'' => e = .returned (.tuple #[.bool true, .int .i64 0]) ∧ Still w' w'') := Lib.hid (fun w' => by
        have h := whole_any p s ((1000 : Nat) : Int) w'
        rw [hrd] at h
        have h2 : wholeV s ((1000 : Nat) : Int) (some (litsR (str s), 0)) = (true, 0) := by
          show (if askOK s.size 0 ((1000 : Nat) : Int) = true then wholeRes (fr (str s) ((1000 : Nat) : Int).toNat (wholeR (litsR (str s))) true 0 0) else (false, 1)) = _
          rw [if_pos (by unfold askOK; exact decide_eq_true (by omega)), Int.toNat_natCast]
          obtain ⟨n, g, x, h3⟩ := whole_lits (str s) 1000 (by rw [str_len]; omega)
          rw [h3]
          rfl
        rw [h2] at h
        exact h)
      obtain ⟨all, hall⟩ : ∃ all, a ++ s ++ a = all := ⟨_, rfl⟩
      have hasz : all.size = a.size + s.size + a.size := by rw [← hall, ByteArray.size_append, ByteArray.size_append]
      have HPA : Hid (PreAt (str all) (str s) a.size) := Lib.hid (by rw [← hall]; exact pre_around s a)
      have HMT : Hid (∀ (i : Nat) w', i + s.size ≤ all.size → PreAt (str all) (str s) i → (∀ m, m < i → ¬ PreAt (str all) (str s) m) → Calls Try.prog 13 #[.string p, .string all, .int .i64 0, .int .i64 1000000] w' (fun e w'' => ∃ (n x : Nat) (bg cg : Nat), e = .returned (.tuple #[.agg #[.slice (some ⟨bg, 0, none⟩) 1 cg, .int .i64 (n : Int)], .int .i64 0]) ∧ (∀ j, j < 2 → w''.cell? ⟨bg, j, none⟩ = some (gv (upd g0 0 ((i : Int), ((i + s.size : Nat) : Int))) j)) ∧ Still w' w'')) := Lib.hid (fun i w' hi h1 h2 => by
        have h := match_out p all ((0 : Nat) : Int) ((1000000 : Nat) : Int) w'
        rw [hrd] at h
        have hmul : (i + 1) * s.size ≤ 741 * 140 := Nat.mul_le_mul (by omega) (by omega)
        obtain ⟨m, h3⟩ := fr_lits (str all) (str s) 1000000 i (by rw [str_len]; omega) h1 i 0 0 (Nat.zero_add _) (fun m _ hm => h2 m hm) (by rw [str_len]; omega)
        have h4 : MOut all ((0 : Nat) : Int) ((1000000 : Nat) : Int) (some (litsR (str s), 0)) = .found 0 m (upd g0 0 ((i : Int), ((i + s.size : Nat) : Int))) (i + s.size) := by
          show (if askOK all.size ((0 : Nat) : Int) ((1000000 : Nat) : Int) = true then outR 0 (fr (str all) ((1000000 : Nat) : Int).toNat (.grp 0 (litsR (str s))) false ((0 : Nat) : Int).toNat 0) else .err 1) = _
          rw [if_pos (by unfold askOK; exact decide_eq_true (by omega)), Int.toNat_natCast, Int.toNat_natCast, h3, str_len]
          rfl
        rw [h4] at h
        refine h.mono ?_
        rintro e w2 ⟨bg, cg, rfl, -, h5, -, -, h6⟩
        exact ⟨m, i + s.size, bg, cg, rfl, h5, h6⟩)
      have hz1 : a.size + s.size ≤ 9223372036854775807 := by omega
      have hz2 : a.size + s.size + a.size ≤ 9223372036854775807 := by omega
      have HEX : Hid (∀ j, j + s.size ≤ all.size → (PreAt (str all) (str s) j ↔ all.extract j (j + s.size) = s)) := Lib.hid (fun j h => pre_iff s all j h)
      clear hrd hp HE1 HE2
      have hasz2 := Lib.hid hasz
      go_wp2_with fail
      refine (HW1.out _).mono ?_
      rintro e w1 ⟨rfl, ht⟩
      have HT1 := Lib.hid ht
      clear ht
      go_wp2_with fail
      refine (HW2.out _).mono ?_
      rintro e w2 ⟨rfl, ht⟩
      have HT2 := Lib.hid (HT1.out.then ht)
      clear ht
      go_wp2_with fail
      refine (HCK.out _).mono ?_
      rintro e w3 ⟨rfl, ht⟩
      have HT3 := Lib.hid (HT2.out.then ht)
      clear ht
      clear hs140 ha300
      go_wp2_with fail
      go_loopw [7] (fun jv wr => ∃ j : Nat, jv = .int .i64 (j : Int) ∧ j ≤ a.size ∧ Hid (Still w wr) ∧ Hid (∀ m, m < j → ¬ PreAt (str all) (str s) m)) (fun jv _ => a.size - (intOf jv).toNat)
      case atStart => exact ⟨0, rfl, Nat.zero_le _, HT3, Lib.hid (fun m hm => absurd hm (Nat.not_lt_zero _))⟩
      case round =>
        clear HT3
        obtain ⟨j, rfl, hj, HT, HN⟩ := hrel
        have hjs : j + s.size ≤ all.size := by omega
        have wj := IntWalk.i64_in ((j : Int) + (s.size : Int)) (by omega)
        have wj1 := IntWalk.i64_in ((j : Int) + 1) (by omega)
        have q3 : decide ((j : Int) + (s.size : Int) ≤ (all.size : Int)) = true := decide_eq_true (by omega)
        have q3i : (j : Int) + (s.size : Int) ≤ (all.size : Int) := by omega
        have ht1 : ((j : Int) + (s.size : Int)).toNat = j + s.size := by omega
        have hjj : (j : Int) ≤ (j : Int) + (s.size : Int) := by omega
        have hpi := HEX.out j hjs
        by_cases hP : PreAt (str all) (str s) j
        · have hxe := hpi.1 hP
          have HP := Lib.hid hP
          have HJS := Lib.hid hjs
          clear hpi hP hjs
          go_wp2_with fail
          refine (HMT.out j _ HJS.out HP.out HN.out).mono ?_
          rintro e w5 ⟨n, x, bg, cg, rfl, hc, ht⟩
          have HC := Lib.hid hc
          have HT5 := Lib.hid (HT.out.then ht)
          have ht6 : Still w5 (w5.alloc (.cells #[.slice (some ⟨bg, 0, none⟩) 1 cg, .int .i64 (n : Int)] 32)) := (Touch.refl _ _).alloc _
          have HT6 := Lib.hid ht6
          have HF6 : Hid (FoundAt (w5.alloc (.cells #[.slice (some ⟨bg, 0, none⟩) 1 cg, .int .i64 (n : Int)] 32)) w5.heap.size (.slice (some ⟨bg, 0, none⟩) 1 cg) (n : Int)) := Lib.hid (FoundAt.made w5 _ _ _)
          clear hc ht ht6
          go_wp2_with fail
          refine (HWH.out _).mono ?_
          rintro e w7 ⟨rfl, ht⟩
          have HT7 := Lib.hid (HT6.out.then ht)
          have d0 := (HF6.out.keep ht).c0
          obtain ⟨n5, hn5⟩ : ∃ n5, w5.heap.size = n5 := ⟨_, rfl⟩
          rw [hn5] at d0
          have hl2 := alloc_pair2 w7 (.int .i64 (j : Int)) (.int .i64 ((j : Int) + (s.size : Int))) 40
          have HL2 := Lib.hid hl2
          have hta : Still w7 (w7.alloc (.cells #[.int .i64 (j : Int), .int .i64 ((j : Int) + (s.size : Int))] 40)) := (Touch.refl _ _).alloc _
          have HTA := Lib.hid hta
          clear ht hl2 hta
          go_wp2_with fail
          refine (pairs_same bg w7.heap.size cg 1 0 (upd g0 0 ((j : Int), ((j + s.size : Nat) : Int))) _ (fun i hi => HTA.out.has (HT7.out.has (HC.out i hi) id) id) (fun i hi => ?_) (by decide)).mono ?_
          · rcases (show i = 0 ∨ i = 1 by omega) with rfl | rfl
            · exact HL2.out.1
            · rw [HL2.out.2]; show _ = some (Value.int .i64 (((j + s.size : Nat) : Int))); rw [Int.natCast_add]
          rintro e w8 ⟨rfl, ht⟩
          have HT8 := Lib.hid (((HT5.out.then HT7.out).then HTA.out).then ht)
          clear ht d0 hn5
          go_wp2_with fail
          refine (HS.out _).mono ?_
          rintro e w9 ⟨rfl, ht⟩
          have HT9 := Lib.hid (HT8.out.then ht)
          clear ht
          go_wp2_with fail
          go_ret
          exact ⟨rfl, HT9.out⟩
        · have q4 : ((all.extract j (j + s.size)).toList == s.toList) = false := by
            rw [Lib.toList_data, Lib.toList_data, beq_eq_false_iff_ne]
            intro h
            refine hP (hpi.2 ?_)
            have h2 : bs (str (all.extract j (j + s.size))) = bs (str s) := congrArg bs h
            exact h2
          have hne : j ≠ a.size := fun e => hP (by rw [e]; exact HPA.out)
          have HP := Lib.hid hP
          clear hpi hP hjs
          go_wp2_with fail
          go_roundw
          case rel => exact ⟨j + 1, by go_num, by omega, HT, Lib.hid (fun m hm => by
            rcases Nat.lt_or_ge m j with h | h
            · exact HN.out m h
            · rw [show m = j by omega]; exact HP.out)⟩
          case measure => simp [intOf]; omega
    · have q1 : decide (140 < (s0.size : Int)) = false := decide_eq_false (by omega)
      have q2 : decide (300 < (a0.size : Int)) = false := decide_eq_false (by omega)
      obtain ⟨s, hsx⟩ : ∃ s, s = s0 := ⟨_, rfl⟩
      have hs140 : s.size ≤ 140 := by rw [hsx]; omega
      obtain ⟨a, hax⟩ : ∃ a, a = a0 := ⟨_, rfl⟩
      have ha300 : a.size ≤ 300 := by rw [hax]; omega
      subst hsx
      subst hax
      go_enter Try.func8, Try.ntmps8
      obtain ⟨p, hp⟩ : ∃ p, bs (escR (str s)) = p := ⟨_, rfl⟩
      have hrd : readP (str p) = some (litsR (str s), 0) := by rw [← hp, str_bs]; exact esc_read _ (by rw [str_len]; omega)
      have HW1 := Lib.hid (HE1.out s hs140)
      have HW2 := Lib.hid (HE2.out s hs140)
      rw [hp] at HW1 HW2
      have HCK : Hid (∀ w', Calls Try.prog 21 #[.string p] w' fun e w'' => e = .returned (.int .i64 0) ∧ Still w' w'') := Lib.hid (fun w' => by have h := check_any p w'; rw [hrd] at h; exact h)
      have HWH : Hid (∀ w', Calls Try.prog 18 #[.string p, .string s, .int .i64 1000] w' fun e w'' => e = .returned (.tuple #[.bool true, .int .i64 0]) ∧ Still w' w'') := Lib.hid (fun w' => by
        have h := whole_any p s ((1000 : Nat) : Int) w'
        rw [hrd] at h
        have h2 : wholeV s ((1000 : Nat) : Int) (some (litsR (str s), 0)) = (true, 0) := by
          show (if askOK s.size 0 ((1000 : Nat) : Int) = true then wholeRes (fr (str s) ((1000 : Nat) : Int).toNat (wholeR (litsR (str s))) true 0 0) else (false, 1)) = _
          rw [if_pos (by unfold askOK; exact decide_eq_true (by omega)), Int.toNat_natCast]
          obtain ⟨n, g, x, h3⟩ := whole_lits (str s) 1000 (by rw [str_len]; omega)
          rw [h3]
          rfl
        rw [h2] at h
        exact h)
      obtain ⟨all, hall⟩ : ∃ all, a ++ s ++ a = all := ⟨_, rfl⟩
      have hasz : all.size = a.size + s.size + a.size := by rw [← hall, ByteArray.size_append, ByteArray.size_append]
      have HPA : Hid (PreAt (str all) (str s) a.size) := Lib.hid (by rw [← hall]; exact pre_around s a)
      have HMT : Hid (∀ (i : Nat) w', i + s.size ≤ all.size → PreAt (str all) (str s) i → (∀ m, m < i → ¬ PreAt (str all) (str s) m) → Calls Try.prog 13 #[.string p, .string all, .int .i64 0, .int .i64 1000000] w' (fun e w'' => ∃ (n x : Nat) (bg cg : Nat), e = .returned (.tuple #[.agg #[.slice (some ⟨bg, 0, none⟩) 1 cg, .int .i64 (n : Int)], .int .i64 0]) ∧ (∀ j, j < 2 → w''.cell? ⟨bg, j, none⟩ = some (gv (upd g0 0 ((i : Int), ((i + s.size : Nat) : Int))) j)) ∧ Still w' w'')) := Lib.hid (fun i w' hi h1 h2 => by
        have h := match_out p all ((0 : Nat) : Int) ((1000000 : Nat) : Int) w'
        rw [hrd] at h
        have hmul : (i + 1) * s.size ≤ 741 * 140 := Nat.mul_le_mul (by omega) (by omega)
        obtain ⟨m, h3⟩ := fr_lits (str all) (str s) 1000000 i (by rw [str_len]; omega) h1 i 0 0 (Nat.zero_add _) (fun m _ hm => h2 m hm) (by rw [str_len]; omega)
        have h4 : MOut all ((0 : Nat) : Int) ((1000000 : Nat) : Int) (some (litsR (str s), 0)) = .found 0 m (upd g0 0 ((i : Int), ((i + s.size : Nat) : Int))) (i + s.size) := by
          show (if askOK all.size ((0 : Nat) : Int) ((1000000 : Nat) : Int) = true then outR 0 (fr (str all) ((1000000 : Nat) : Int).toNat (.grp 0 (litsR (str s))) false ((0 : Nat) : Int).toNat 0) else .err 1) = _
          rw [if_pos (by unfold askOK; exact decide_eq_true (by omega)), Int.toNat_natCast, Int.toNat_natCast, h3, str_len]
          rfl
        rw [h4] at h
        refine h.mono ?_
        rintro e w2 ⟨bg, cg, rfl, -, h5, -, -, h6⟩
        exact ⟨m, i + s.size, bg, cg, rfl, h5, h6⟩)
      have hz1 : a.size + s.size ≤ 9223372036854775807 := by omega
      have hz2 : a.size + s.size + a.size ≤ 9223372036854775807 := by omega
      have HEX : Hid (∀ j, j + s.size ≤ all.size → (PreAt (str all) (str s) j ↔ all.extract j (j + s.size) = s)) := Lib.hid (fun j h => pre_iff s all j h)
      clear hrd hp HE1 HE2
      have hasz2 := Lib.hid hasz
      go_wp2_with fail
      refine (HW1.out _).mono ?_
      rintro e w1 ⟨rfl, ht⟩
      have HT1 := Lib.hid ht
      clear ht
      go_wp2_with fail
      refine (HW2.out _).mono ?_
      rintro e w2 ⟨rfl, ht⟩
      have HT2 := Lib.hid (HT1.out.then ht)
      clear ht
      go_wp2_with fail
      refine (HCK.out _).mono ?_
      rintro e w3 ⟨rfl, ht⟩
      have HT3 := Lib.hid (HT2.out.then ht)
      clear ht
      clear hs140 ha300
      go_wp2_with fail
      go_loopw [7] (fun jv wr => ∃ j : Nat, jv = .int .i64 (j : Int) ∧ j ≤ a.size ∧ Hid (Still w wr) ∧ Hid (∀ m, m < j → ¬ PreAt (str all) (str s) m)) (fun jv _ => a.size - (intOf jv).toNat)
      case atStart => exact ⟨0, rfl, Nat.zero_le _, HT3, Lib.hid (fun m hm => absurd hm (Nat.not_lt_zero _))⟩
      case round =>
        clear HT3
        obtain ⟨j, rfl, hj, HT, HN⟩ := hrel
        have hjs : j + s.size ≤ all.size := by omega
        have wj := IntWalk.i64_in ((j : Int) + (s.size : Int)) (by omega)
        have wj1 := IntWalk.i64_in ((j : Int) + 1) (by omega)
        have q3 : decide ((j : Int) + (s.size : Int) ≤ (all.size : Int)) = true := decide_eq_true (by omega)
        have q3i : (j : Int) + (s.size : Int) ≤ (all.size : Int) := by omega
        have ht1 : ((j : Int) + (s.size : Int)).toNat = j + s.size := by omega
        have hjj : (j : Int) ≤ (j : Int) + (s.size : Int) := by omega
        have hpi := HEX.out j hjs
        by_cases hP : PreAt (str all) (str s) j
        · have hxe := hpi.1 hP
          have HP := Lib.hid hP
          have HJS := Lib.hid hjs
          clear hpi hP hjs
          go_wp2_with fail
          refine (HMT.out j _ HJS.out HP.out HN.out).mono ?_
          rintro e w5 ⟨n, x, bg, cg, rfl, hc, ht⟩
          have HC := Lib.hid hc
          have HT5 := Lib.hid (HT.out.then ht)
          have ht6 : Still w5 (w5.alloc (.cells #[.slice (some ⟨bg, 0, none⟩) 1 cg, .int .i64 (n : Int)] 32)) := (Touch.refl _ _).alloc _
          have HT6 := Lib.hid ht6
          have HF6 : Hid (FoundAt (w5.alloc (.cells #[.slice (some ⟨bg, 0, none⟩) 1 cg, .int .i64 (n : Int)] 32)) w5.heap.size (.slice (some ⟨bg, 0, none⟩) 1 cg) (n : Int)) := Lib.hid (FoundAt.made w5 _ _ _)
          clear hc ht ht6
          go_wp2_with fail
          refine (HWH.out _).mono ?_
          rintro e w7 ⟨rfl, ht⟩
          have HT7 := Lib.hid (HT6.out.then ht)
          have d0 := (HF6.out.keep ht).c0
          obtain ⟨n5, hn5⟩ : ∃ n5, w5.heap.size = n5 := ⟨_, rfl⟩
          rw [hn5] at d0
          have hl2 := alloc_pair2 w7 (.int .i64 (j : Int)) (.int .i64 ((j : Int) + (s.size : Int))) 40
          have HL2 := Lib.hid hl2
          have hta : Still w7 (w7.alloc (.cells #[.int .i64 (j : Int), .int .i64 ((j : Int) + (s.size : Int))] 40)) := (Touch.refl _ _).alloc _
          have HTA := Lib.hid hta
          clear ht hl2 hta
          go_wp2_with fail
          refine (pairs_same bg w7.heap.size cg 1 0 (upd g0 0 ((j : Int), ((j + s.size : Nat) : Int))) _ (fun i hi => HTA.out.has (HT7.out.has (HC.out i hi) id) id) (fun i hi => ?_) (by decide)).mono ?_
          · rcases (show i = 0 ∨ i = 1 by omega) with rfl | rfl
            · exact HL2.out.1
            · rw [HL2.out.2]; show _ = some (Value.int .i64 (((j + s.size : Nat) : Int))); rw [Int.natCast_add]
          rintro e w8 ⟨rfl, ht⟩
          have HT8 := Lib.hid (((HT5.out.then HT7.out).then HTA.out).then ht)
          clear ht d0 hn5
          go_wp2_with fail
          refine (HS.out _).mono ?_
          rintro e w9 ⟨rfl, ht⟩
          have HT9 := Lib.hid (HT8.out.then ht)
          clear ht
          go_wp2_with fail
          go_ret
          exact ⟨rfl, HT9.out⟩
        · have q4 : ((all.extract j (j + s.size)).toList == s.toList) = false := by
            rw [Lib.toList_data, Lib.toList_data, beq_eq_false_iff_ne]
            intro h
            refine hP (hpi.2 ?_)
            have h2 : bs (str (all.extract j (j + s.size))) = bs (str s) := congrArg bs h
            exact h2
          have hne : j ≠ a.size := fun e => hP (by rw [e]; exact HPA.out)
          have HP := Lib.hid hP
          clear hpi hP hjs
          go_wp2_with fail
          go_roundw
          case rel => exact ⟨j + 1, by go_num, by omega, HT, Lib.hid (fun m hm => by
            rcases Nat.lt_or_ge m j with h | h
            · exact HN.out m h
            · rw [show m = j by omega]; exact HP.out)⟩
          case measure => simp [intOf]; omega
end Go.Proofs.Ytlgpilcjcomacaa
