/-
  Convert, the program's and the document's; the statement TextConverts walked.
-/
import Derived.Test.YtaanihidheccfaaDoorConvs
namespace Go.Proofs.YtaanihidheccfaaDoor
open Go.Shelf Go.RowKit
set_option linter.unusedVariables false

/-- Convert, in plain words: the codes of one encoding written in the other. -/
def cvT (f t : Int) (s : ByteArray) : ByteArray := if (f = 0 ∨ f = 1 ∨ f = 2) ∧ (t = 0 ∨ t = 1 ∨ t = 2) then (match codesL f (str s) with | none => ⟨#[]⟩ | some cs => resT (ofL t cs)) else ⟨#[]⟩
def cvC (f t : Int) (s : ByteArray) : Int := if (f = 0 ∨ f = 1 ∨ f = 2) ∧ (t = 0 ∨ t = 1 ∨ t = 2) then (match codesL f (str s) with | none => 4 | some cs => resC 5 (ofL t cs)) else 1
def lsT (f t : Int) (s by' : ByteArray) : ByteArray := if (f = 0 ∨ f = 1 ∨ f = 2) ∧ (t = 0 ∨ t = 1 ∨ t = 2) then bs (lossyL f t (str by') (str s)) else ⟨#[]⟩
def lsC (f t : Int) : Int := if (f = 0 ∨ f = 1 ∨ f = 2) ∧ (t = 0 ∨ t = 1 ∨ t = 2) then 0 else 1

theorem f28_all (f t : Int) (s by' : ByteArray) (hs : s.size ≤ 100000) (hby : by'.size ≤ 100000) : Says 28 #[.string s, .int .i64 f, .int .i64 t, .string by'] (ans (lsT f t s by') (lsC f t)) := by
  intro w hT h2
  unfold lsT lsC
  by_cases hf : f = 0 ∨ f = 1 ∨ f = 2
  · by_cases ht : t = 0 ∨ t = 1 ∨ t = 2
    · rw [if_pos ⟨hf, ht⟩, if_pos ⟨hf, ht⟩]; exact f28_ok f t hf ht s by' hs hby w hT h2
    · rw [if_neg (fun h => ht h.2), if_neg (fun h => ht h.2)]; exact f28_bad2 f t hf ht s by' hs hby w
  · rw [if_neg (fun h => hf h.1), if_neg (fun h => hf h.1)]; exact f28_bad1 f t hf s by' hs hby w
theorem f29_all (f t : Int) (s by' : ByteArray) (hs : s.size ≤ 100000) (hby : by'.size ≤ 100000) : Says 29 #[.string s, .int .i64 f, .int .i64 t, .string by'] (ans (lsT f t s by') (lsC f t)) := by
  intro w hT h2
  unfold lsT lsC
  by_cases hf : f = 0 ∨ f = 1 ∨ f = 2
  · by_cases ht : t = 0 ∨ t = 1 ∨ t = 2
    · rw [if_pos ⟨hf, ht⟩, if_pos ⟨hf, ht⟩]; exact f29_ok f t hf ht s by' hs hby w
    · rw [if_neg (fun h => ht h.2), if_neg (fun h => ht h.2)]; exact f29_bad2 f t hf ht s by' hs hby w
  · rw [if_neg (fun h => hf h.1), if_neg (fun h => hf h.1)]; exact f29_bad1 f t hf s by' hs hby w


theorem f26_bad1 (f t : Int) (hf : ¬ (f = 0 ∨ f = 1 ∨ f = 2)) (s : ByteArray) (hs : s.size ≤ 100000) (w : World) : Calls Tryd.prog 26 #[.string s, .int .i64 f, .int .i64 t] w fun en w' => en = .returned (ans ⟨#[]⟩ 1) ∧ Below w.heap.size w w' := by
  have HG := Lib.hid (f47one f s (by omega) w)
  rw [asked_bad (xs := [s]) (.inl hf)] at HG
  clear hf
  go_enter Tryd.func26, Tryd.ntmps26
  go_wp2_with (go_at_call 47; refine HG.out.mono ?_; rintro en w2 ⟨rfl, rfl⟩)
  go_ret2
  exact ⟨rfl, (Below.refl _ _).alloc (Nat.le_refl _) _⟩
theorem f26_bad2 (f t : Int) (hf : f = 0 ∨ f = 1 ∨ f = 2) (ht : ¬ (t = 0 ∨ t = 1 ∨ t = 2)) (s : ByteArray) (hs : s.size ≤ 100000) (w : World) : Calls Tryd.prog 26 #[.string s, .int .i64 f, .int .i64 t] w fun en w' => en = .returned (ans ⟨#[]⟩ 1) ∧ Below w.heap.size w w' := by
  have HG := Lib.hid (f47one f s (by omega) w)
  rw [asked_ok (xs := [s]) hf (by intro x hx; simp at hx; subst hx; exact hs)] at HG
  have HG2 := Lib.hid (fun w => f47nil t w)
  rw [asked_bad (xs := []) (.inl ht)] at HG2
  clear hf ht
  go_enter Tryd.func26, Tryd.ntmps26
  go_wp2_with fail
  refine HG.out.mono ?_
  rintro en w2 ⟨rfl, rfl⟩
  go_wp2_with fail
  refine (HG2.out _).mono ?_
  rintro en w3 ⟨rfl, rfl⟩
  go_wp2_with fail
  go_ret2
  exact ⟨rfl, (Below.refl _ _).alloc (Nat.le_refl _) _⟩
set_option maxHeartbeats 1000000 in
theorem f26_ok (f t : Int) (hf : f = 0 ∨ f = 1 ∨ f = 2) (ht : t = 0 ∨ t = 1 ∨ t = 2) (s : ByteArray) (hs : s.size ≤ 100000) (w : World) (hT : Lib.Utf8Tabs 0 1 w) (h2 : 2 ≤ w.heap.size) : Calls Tryd.prog 26 #[.string s, .int .i64 f, .int .i64 t] w fun en w' => en = .returned (ans (match codesL f (str s) with | none => ⟨#[]⟩ | some cs => resT (ofL t cs)) (match codesL f (str s) with | none => 4 | some cs => resC 5 (ofL t cs))) ∧ Below w.heap.size w w' := by
  have HG := Lib.hid (f47one f s (by omega) w)
  rw [asked_ok (xs := [s]) hf (by intro x hx; simp at hx; subst hx; exact hs)] at HG
  have HG2 := Lib.hid (fun w => f47nil t w)
  rw [asked_ok (xs := []) ht (by simp)] at HG2
  have hA : Below w.heap.size w (w.alloc (.cells #[.string s] 9)) := (Below.refl _ _).alloc (Nat.le_refl _) _
  have HC := Lib.hid (f18 f hf s hs (w.alloc (.cells #[.string s] 9)) (tabs_below hA h2 hT) (by simp; omega))
  have hl := parts_len f (str s)
  rw [str_len] at hl
  have hcl : ∀ cs, codesL f (str s) = some cs → cs.length ≤ 100000 := by
    intro cs h
    have := (codes_some hf h).2.1
    omega
  have HO := Lib.hid (fun v cs (hcs : cs.length ≤ 100000) (w : World) (h2 : 2 ≤ w.heap.size) hv => opt_ans (show Calls Tryd.prog 16 #[v, .int .i64 t] w (OptPost w 5 (ofL t cs)) from f16 t ht v cs hcs w h2 hv))
  have HA := Lib.hid hA; clear hA hT
  unfold CodesPost at HC
  unfold ans at HO
  cases hc : codesL f (str s) with
  | none =>
    rw [hc] at HC
    clear hf ht hcl hc
    go_enter Tryd.func26, Tryd.ntmps26
    go_wp2_with fail
    refine HG.out.mono ?_
    rintro en w2 ⟨rfl, rfl⟩
    go_wp2_with fail
    refine (HG2.out _).mono ?_
    rintro en w3 ⟨rfl, rfl⟩
    go_wp2_with fail
    refine HC.out.mono ?_
    rintro en w4 ⟨rfl, hB⟩
    have HB := Lib.hid hB; clear hB
    go_wp2_with fail
    go_ret2
    exact ⟨rfl, HA.out.trans (HB.out.mono (by simp))⟩
  | some cs =>
    rw [hc] at HC
    have hcs := hcl cs hc
    clear hf ht hcl hc
    go_enter Tryd.func26, Tryd.ntmps26
    go_wp2_with fail
    refine HG.out.mono ?_
    rintro en w2 ⟨rfl, rfl⟩
    go_wp2_with fail
    refine (HG2.out _).mono ?_
    rintro en w3 ⟨rfl, rfl⟩
    go_wp2_with fail
    refine HC.out.mono ?_
    rintro en w4 ⟨⟨v, rfl, ho⟩, hB⟩
    have hz4 := hB.size
    simp only [World.size_alloc] at hz4
    have HB : Hid (Below w.heap.size w w4) := Lib.hid (HA.out.trans (hB.mono (by simp)))
    clear hB
    have HV := Lib.hid (ints_in rfl (by omega) ho)
    clear ho
    generalize hrt : resT (ofL t cs) = rt at *
    generalize hrc : resC 5 (ofL t cs) = rc at *
    obtain ⟨va, vc, rfl⟩ : ∃ a c, v = .slice a cs.length c := let ⟨a, c, h, _⟩ := HV.out; ⟨a, c, h⟩
    have HO2 := Lib.hid (HO.out _ cs hcs w4 (by omega) HV.out)
    rw [hrt, hrc] at HO2
    have HRT := Lib.hid hrt; clear hrt
    have HRC := Lib.hid hrc; clear hrc
    go_wp2_with fail
    refine HO2.out.mono ?_
    rintro en w5 ⟨rfl, hB⟩
    have HB5 := Lib.hid hB; clear hB
    go_wp2_with fail
    go_ret2
    exact ⟨by rw [HRT.out, HRC.out]; rfl, HB.out.trans (HB5.out.mono (by omega))⟩

theorem f27_bad1 (f t : Int) (hf : ¬ (f = 0 ∨ f = 1 ∨ f = 2)) (s : ByteArray) (hs : s.size ≤ 100000) (w : World) : Calls Tryd.prog 27 #[.string s, .int .i64 f, .int .i64 t] w fun en w' => en = .returned (ans ⟨#[]⟩ 1) ∧ Below w.heap.size w w' := by
  have HG := Lib.hid (f51one f s (by omega) w)
  rw [badN_bad (xs := [s]) (.inl hf)] at HG
  clear hf
  go_enter Tryd.func27, Tryd.ntmps27
  go_wp2_with (go_at_call 51; refine HG.out.mono ?_; rintro en w2 ⟨rfl, rfl⟩)
  go_ret2
  exact ⟨rfl, (Below.refl _ _).alloc (Nat.le_refl _) _⟩
theorem f27_bad2 (f t : Int) (hf : f = 0 ∨ f = 1 ∨ f = 2) (ht : ¬ (t = 0 ∨ t = 1 ∨ t = 2)) (s : ByteArray) (hs : s.size ≤ 100000) (w : World) : Calls Tryd.prog 27 #[.string s, .int .i64 f, .int .i64 t] w fun en w' => en = .returned (ans ⟨#[]⟩ 1) ∧ Below w.heap.size w w' := by
  have HG := Lib.hid (f51one f s (by omega) w)
  rw [badN_ok (xs := [s]) hf (by intro x hx; simp at hx; subst hx; exact hs)] at HG
  have HG2 := Lib.hid (fun w => f51none t w)
  rw [badN_bad (xs := []) (.inl ht)] at HG2
  clear hf ht
  go_enter Tryd.func27, Tryd.ntmps27
  go_wp2_with fail
  refine HG.out.mono ?_
  rintro en w2 ⟨rfl, rfl⟩
  go_wp2_with fail
  refine (HG2.out _).mono ?_
  rintro en w3 ⟨rfl, rfl⟩
  go_wp2_with fail
  go_ret2
  exact ⟨rfl, (Below.refl _ _).alloc (Nat.le_refl _) _⟩
set_option maxHeartbeats 1000000 in
theorem f27_ok (f t : Int) (hf : f = 0 ∨ f = 1 ∨ f = 2) (ht : t = 0 ∨ t = 1 ∨ t = 2) (s : ByteArray) (hs : s.size ≤ 100000) (w : World) (hT : Lib.Utf8Tabs 0 1 w) (h2 : 2 ≤ w.heap.size) : Calls Tryd.prog 27 #[.string s, .int .i64 f, .int .i64 t] w fun en w' => en = .returned (ans (match codesL f (str s) with | none => ⟨#[]⟩ | some cs => resT (ofL t cs)) (match codesL f (str s) with | none => 4 | some cs => resC 5 (ofL t cs))) ∧ Below w.heap.size w w' := by
  have HG := Lib.hid (f51one f s (by omega) w)
  rw [badN_ok (xs := [s]) hf (by intro x hx; simp at hx; subst hx; exact hs)] at HG
  have HG2 := Lib.hid (fun w => f51none t w)
  rw [badN_ok (xs := []) ht (by simp)] at HG2
  have hA : Below w.heap.size w (w.alloc (.cells #[.string s] 9)) := (Below.refl _ _).alloc (Nat.le_refl _) _
  have HC := Lib.hid (f43 f hf s hs (w.alloc (.cells #[.string s] 9)))
  have hl := parts_len f (str s)
  rw [str_len] at hl
  have hcl : ∀ cs, codesL f (str s) = some cs → cs.length ≤ 100000 := by
    intro cs h
    have := (codes_some hf h).2.1
    omega
  have HO := Lib.hid (fun v cs (hcs : cs.length ≤ 100000) (w : World) (h2 : 2 ≤ w.heap.size) hv => opt_ans (show Calls Tryd.prog 17 #[v, .int .i64 t] w (OptPost w 5 (ofL t cs)) from f17 t ht v cs hcs w hv))
  have HA := Lib.hid hA; clear hA hT
  unfold CodesPost at HC
  unfold ans at HO
  cases hc : codesL f (str s) with
  | none =>
    rw [hc] at HC
    clear hf ht hcl hc
    go_enter Tryd.func27, Tryd.ntmps27
    go_wp2_with fail
    refine HG.out.mono ?_
    rintro en w2 ⟨rfl, rfl⟩
    go_wp2_with fail
    refine (HG2.out _).mono ?_
    rintro en w3 ⟨rfl, rfl⟩
    go_wp2_with fail
    refine HC.out.mono ?_
    rintro en w4 ⟨rfl, hB⟩
    have HB := Lib.hid hB; clear hB
    go_wp2_with fail
    go_ret2
    exact ⟨rfl, HA.out.trans (HB.out.mono (by simp))⟩
  | some cs =>
    rw [hc] at HC
    have hcs := hcl cs hc
    clear hf ht hcl hc
    go_enter Tryd.func27, Tryd.ntmps27
    go_wp2_with fail
    refine HG.out.mono ?_
    rintro en w2 ⟨rfl, rfl⟩
    go_wp2_with fail
    refine (HG2.out _).mono ?_
    rintro en w3 ⟨rfl, rfl⟩
    go_wp2_with fail
    refine HC.out.mono ?_
    rintro en w4 ⟨⟨v, rfl, ho⟩, hB⟩
    have hz4 := hB.size
    simp only [World.size_alloc] at hz4
    have HB : Hid (Below w.heap.size w w4) := Lib.hid (HA.out.trans (hB.mono (by simp)))
    clear hB
    have HV := Lib.hid (ints_in rfl (by omega) ho)
    clear ho
    generalize hrt : resT (ofL t cs) = rt at *
    generalize hrc : resC 5 (ofL t cs) = rc at *
    obtain ⟨va, vc, rfl⟩ : ∃ a c, v = .slice a cs.length c := let ⟨a, c, h, _⟩ := HV.out; ⟨a, c, h⟩
    have HO2 := Lib.hid (HO.out _ cs hcs w4 (by omega) HV.out)
    rw [hrt, hrc] at HO2
    have HRT := Lib.hid hrt; clear hrt
    have HRC := Lib.hid hrc; clear hrc
    go_wp2_with fail
    refine HO2.out.mono ?_
    rintro en w5 ⟨rfl, hB⟩
    have HB5 := Lib.hid hB; clear hB
    go_wp2_with fail
    go_ret2
    exact ⟨by rw [HRT.out, HRC.out]; rfl, HB.out.trans (HB5.out.mono (by omega))⟩

theorem f26_all (f t : Int) (s : ByteArray) (hs : s.size ≤ 100000) : Says 26 #[.string s, .int .i64 f, .int .i64 t] (ans (cvT f t s) (cvC f t s)) := by
  intro w hT h2
  unfold cvT cvC
  by_cases hf : f = 0 ∨ f = 1 ∨ f = 2
  · by_cases ht : t = 0 ∨ t = 1 ∨ t = 2
    · rw [if_pos ⟨hf, ht⟩, if_pos ⟨hf, ht⟩]; exact f26_ok f t hf ht s hs w hT h2
    · rw [if_neg (fun h => ht h.2), if_neg (fun h => ht h.2)]; exact f26_bad2 f t hf ht s hs w
  · rw [if_neg (fun h => hf h.1), if_neg (fun h => hf h.1)]; exact f26_bad1 f t hf s hs w

theorem f27_all (f t : Int) (s : ByteArray) (hs : s.size ≤ 100000) : Says 27 #[.string s, .int .i64 f, .int .i64 t] (ans (cvT f t s) (cvC f t s)) := by
  intro w hT h2
  unfold cvT cvC
  by_cases hf : f = 0 ∨ f = 1 ∨ f = 2
  · by_cases ht : t = 0 ∨ t = 1 ∨ t = 2
    · rw [if_pos ⟨hf, ht⟩, if_pos ⟨hf, ht⟩]; exact f27_ok f t hf ht s hs w hT h2
    · rw [if_neg (fun h => ht h.2), if_neg (fun h => ht h.2)]; exact f27_bad2 f t hf ht s hs w
  · rw [if_neg (fun h => hf h.1), if_neg (fun h => hf h.1)]; exact f27_bad1 f t hf s hs w

end Go.Proofs.YtaanihidheccfaaDoor
