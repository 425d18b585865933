/-
  RegexReplaces, walked. (Printed by wip/tools/repl07.py.)
-/
import Derived.Test.YtlgpilcjcomacaaHg
import Derived.Test.YtlgpilcjcomacaaDb
namespace Go.Proofs.Ytlgpilcjcomacaa
open Go.RowKit Rx
set_option linter.unusedVariables false

/-- What all gives of a pattern that was read. -/
theorem allV_read {p s : ByteArray} {a : Re} {G bu : Nat} (hr : readP (str p) = some (a, G)) (hs : s.size ≤ 5000) (hb : bu ≤ 1000000) : (allV s (bu : Int) (readP (str p)) = .err 12) ∨ ∃ l, allV s (bu : Int) (readP (str p)) = .got G l := by
  have hok : askOK s.size 0 (bu : Int) = true := by unfold askOK; exact decide_eq_true (by omega)
  rw [hr]
  have h : allV s (bu : Int) (some (a, G)) = allRes G (everyR (str s) (bu : Int).toNat (.grp 0 a) 0 0) := if_pos hok
  rw [h]
  cases everyR (str s) (bu : Int).toNat (.grp 0 a) 0 0 with
  | none => exact .inl rfl
  | some l => exact .inr ⟨l, rfl⟩

theorem none_len (s : List UInt8) (G : Nat) : ∀ (l : List Grp) (j k : Nat), j ≤ k → Chain s.length G k l → (replR s [] j l).length ≤ s.length - j
  | [], j, k, _, _ => by simp [replR]
  | g :: l, j, k, hj, h => by
    obtain ⟨⟨x, hm⟩, hc⟩ := h
    have hn := nextJ_lt hm
    obtain ⟨⟨i, h1, h2, h3, h4⟩, -⟩ := hm
    have h5 := none_len s G l x _ hn.2.1 hc
    unfold replR
    rw [show fillR s g [] = [] from rfl, List.nil_append, h4, List.length_append, cutS_nat]
    simp only [Int.toNat_natCast, List.length_take, List.length_drop]
    omega
theorem take_flat (d : List (List UInt8)) (j : Nat) : ((d.take j).flatten).length ≤ d.flatten.length := by
  have h : d.flatten = (d.take j).flatten ++ (d.drop j).flatten := by rw [← List.flatten_append, List.take_append_drop]
  rw [h, List.length_append]
  omega

set_option maxRecDepth 100000 in
set_option maxHeartbeats 8000000 in
/-- RegexReplaces. -/
theorem law_replaces (v : Value) (w : World) (h : GrowV w v) :
    Calls Try.prog 9 #[v] w fun e w' => e = .returned (.bool true) ∧ Still w w' := by
  have HS := Lib.hid sane_any
  have HASK := Lib.hid (fun w' (t : Still w w') => ask_any v false w' (h.keep t))
  obtain ⟨a1, a2, l1, c1, l2, c2, fr0, bu0, y0, rfl, -, -, -, -, -⟩ := h.view
  clear h
  go_enter Try.func9, Try.ntmps9
  go_wp2_with fail
  refine (HASK.out _ ((Touch.refl (fun _ => False) w).alloc _)).mono ?_
  rintro e w2 ⟨p, s, y, fr, bu, a, G, rfl, hr, -, hs14, hfs, hbu, -, ht⟩
  have HV := Lib.hid (allV_read (bu := 4000) hr (s := s) (by omega) (by decide))
  have HGOT := Lib.hid (fun G l (h : allV s ((4000 : Nat) : Int) (readP (str p)) = .got G l) => allV_got h)
  have HR1 : Hid (∀ w', Calls Try.prog 22 #[.string p, .string s, .string ⟨#[92, 48]⟩, .int .i64 4000] w' (ReplP w' (replV s ⟨#[92, 48]⟩ (allV s ((4000 : Nat) : Int) (readP (str p)))))) := Lib.hid (fun w' => replace_any p s ⟨#[92, 48]⟩ ((4000 : Nat) : Int) (by decide) w')
  have HR2 : Hid (∀ w', Calls Try.prog 22 #[.string p, .string s, .string ⟨#[]⟩, .int .i64 4000] w' (ReplP w' (replV s ⟨#[]⟩ (allV s ((4000 : Nat) : Int) (readP (str p)))))) := Lib.hid (fun w' => replace_any p s ⟨#[]⟩ ((4000 : Nat) : Int) (by decide) w')
  have HSP : Hid (∀ w', Calls Try.prog 23 #[.string p, .string s, .int .i64 4000] w' (SplitP s w' (allV s ((4000 : Nat) : Int) (readP (str p))))) := Lib.hid (fun w' => split_any p s ((4000 : Nat) : Int) w')
  generalize allV s ((4000 : Nat) : Int) (readP (str p)) = rr at HV HGOT HR1 HR2 HSP
  have HA3 : Hid (AskAt (w2.alloc (.cells #[.string p, .string s, .string y, .int .i64 (fr : Int), .int .i64 (bu : Int)] 23)) w2.heap.size p s y fr bu) := Lib.hid (AskAt.made w2 p s y fr bu)
  have HT3 : Hid (Still w (w2.alloc (.cells #[.string p, .string s, .string y, .int .i64 (fr : Int), .int .i64 (bu : Int)] 23))) := Lib.hid ((((Touch.refl (fun _ => False) w).alloc _).then ht).alloc _)
  obtain ⟨n3, hn3⟩ : ∃ n3, w2.heap.size = n3 := ⟨_, rfl⟩
  rw [hn3] at HA3
  have a0 := HA3.out.c0; have a1' := HA3.out.c1
  clear ht hr HASK
  rcases HV.out with rfl | ⟨l, rfl⟩
  · -- over
    go_wp2_with fail
    refine (HR1.out _).mono ?_
    rintro e w4 ⟨rfl, ht⟩
    have HT4 := Lib.hid (HT3.out.then ht)
    have HA4 := Lib.hid (HA3.out.keep ht)
    clear a0 a1'
    have a0 := HA4.out.c0; have a1' := HA4.out.c1
    clear ht
    go_wp2_with fail
    refine (HSP.out _).mono ?_
    rintro e w5 ⟨rfl, ht⟩
    have HT5 := Lib.hid (HT4.out.then ht)
    have HA5 := Lib.hid (HA4.out.keep ht)
    clear a0 a1'
    have a0 := HA5.out.c0; have a1' := HA5.out.c1
    clear ht
    go_wp2_with fail
    refine (HR2.out _).mono ?_
    rintro e w6 ⟨rfl, ht⟩
    have HT6 := Lib.hid (HT5.out.then ht)
    have HA6 := Lib.hid (HA5.out.keep ht)
    clear a0 a1'
    have a1' := HA6.out.c1
    clear ht
    go_wp2_with fail
    refine (HS.out _).mono ?_
    rintro e w7 ⟨rfl, ht⟩
    have HT7 := Lib.hid (HT6.out.then ht)
    clear ht
    go_wp2_with fail
    go_ret
    exact ⟨rfl, HT7.out⟩
  · -- all matches
    obtain ⟨hss, hch, -⟩ := HGOT.out G l rfl
    have hself : replV s ⟨#[92, 48]⟩ (.got G l) = (s, 0) := by
      show (bs (replR (str s) [92, 48] 0 l), (0 : Int)) = _
      have e := repl_self (str s) G l 0 0 (Nat.le_refl _) (by rw [str_len]; exact hch)
      rw [e]
      rfl
    rw [hself] at HR1
    have HNONE : Hid (replV s ⟨#[]⟩ (.got G l) = (bs (splitR (str s) 0 l).flatten, 0)) := Lib.hid (by
      show (bs (replR (str s) [] 0 l), (0 : Int)) = _
      rw [← split_none (str s) G l 0 0 (Nat.le_refl _) (by rw [str_len]; exact hch)])
    have HNE := Lib.hid (split_ne (str s) l 0)
    have HFL : Hid ((splitR (str s) 0 l).flatten.length ≤ 14) := Lib.hid (by
      rw [split_none (str s) G l 0 0 (Nat.le_refl _) (by rw [str_len]; exact hch)]
      have h1 := none_len (str s) G l 0 0 (Nat.le_refl _) (by rw [str_len]; exact hch)
      rw [str_len] at h1
      omega)
    have HDL : Hid ((splitR (str s) 0 l).length ≤ 6000) := Lib.hid (by have h1 := split_len (str s) l 0; have h2 := chain_len l 0 hch (Nat.zero_le _); omega)
    rw [HNONE.out] at HR2
    clear hself hch
    go_wp2_with fail
    refine (HR1.out _).mono ?_
    rintro e w4 ⟨rfl, ht⟩
    have HT4 := Lib.hid (HT3.out.then ht)
    have HA4 := Lib.hid (HA3.out.keep ht)
    clear a0 a1'
    have a0 := HA4.out.c0; have a1' := HA4.out.c1
    clear ht
    go_wp2_with fail
    refine (HSP.out _).mono ?_
    rintro e w5 ⟨x, cp, rfl, hcp, hrow, ht⟩
    have HROW := Lib.hid hrow
    clear hrow
    have HT5 := Lib.hid (HT4.out.then ht)
    have HA5 := Lib.hid (HA4.out.keep ht)
    clear a0 a1'
    have a0 := HA5.out.c0; have a1' := HA5.out.c1
    clear ht
    go_wp2_with fail
    refine (HR2.out _).mono ?_
    rintro e w6 ⟨rfl, ht⟩
    have HT6 := Lib.hid (HT5.out.then ht)
    have HA6 := Lib.hid (HA5.out.keep ht)
    clear a0 a1'
    have a1' := HA6.out.c1
    have HROW := Lib.hid (HROW.out.keep ht)
    clear ht
    generalize splitR (str s) 0 l = d at *
    have hdl := HDL.out
    go_wp2_with fail
    go_loopw [10, 11] (fun sv jv wr => ∃ j : Nat, sv = .string (bs (d.take j).flatten) ∧ jv = .int .i64 (j : Int) ∧ j ≤ d.length ∧ Hid (Still w6 wr)) (fun _ jv _ => d.length - (intOf jv).toNat)
    case atStart => exact ⟨0, rfl, rfl, Nat.zero_le _, Lib.hid (Touch.refl _ _)⟩
    case round =>
      obtain ⟨j, rfl, rfl, hj, HT⟩ := hrel
      by_cases hlt : j < d.length
      · have q1 : decide ((j : Int) < (d.length : Int)) = true := decide_eq_true (by omega)
        have q1n : decide (j < d.length) = true := decide_eq_true hlt
        have hji : (j : Int) < (d.length : Int) := by omega
        have wj := IntWalk.i64_in ((j : Int) + 1) (by omega)
        obtain ⟨a, ha⟩ : ∃ a, d[j]? = some a := ⟨_, List.getElem?_eq_getElem hlt⟩
        have htk : (d.take (j + 1)).flatten = (d.take j).flatten ++ a := by rw [List.take_add_one, ha]; simp
        obtain ⟨b, hx, hcj⟩ := HROW.out j (.string (bs a)) (by unfold strs; rw [List.getElem?_map, ha]; rfl)
        subst hx
        have hcj := HT.out.has hcj id
        have hsum : (bs (d.take j).flatten).size + (bs a).size ≤ 9223372036854775807 := by
          have h1 := take_flat d (j + 1)
          rw [htk, List.length_append] at h1
          have h2 := HFL.out
          rw [bs_size, bs_size]
          omega
        have HTK : Hid (bs (d.take (j + 1)).flatten = bs (d.take j).flatten ++ bs a) := Lib.hid (by rw [htk, bs_append])
        clear htk ha
        go_wp2_with fail
        go_roundw
        case rel => exact ⟨j + 1, by rw [HTK.out], by go_num, by omega, HT⟩
        case measure => simp [intOf]; omega
      · obtain rfl : j = d.length := by omega
        have q1 : decide ((d.length : Int) < (d.length : Int)) = false := decide_eq_false (by omega)
        have hpos : 0 < d.length := by
          cases d with
          | nil => exact absurd rfl HNE.out
          | cons a d => simp
        have q2 : decide (0 < (d.length : Int)) = true := decide_eq_true (by omega)
        have a1' := HT.out.has a1' id
        have hall : (d.take d.length).flatten = d.flatten := by rw [List.take_length]
        rw [hall]
        clear hall
        generalize bs d.flatten = N
        go_wp2_with fail
        refine (HS.out _).mono ?_
        rintro e w7 ⟨rfl, ht⟩
        have HT7 := Lib.hid ((HT6.out.then HT.out).then ht)
        clear ht
        go_wp2_with fail
        go_ret
        exact ⟨rfl, HT7.out⟩
end Go.Proofs.Ytlgpilcjcomacaa
