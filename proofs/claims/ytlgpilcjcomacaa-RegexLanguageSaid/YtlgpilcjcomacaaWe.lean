/-
  The document's ends of all trees; Some; RegexLanguage walked.
-/
import Derived.Test.YtlgpilcjcomacaaWd
import Derived.Test.YtlgpilcjcomacaaDb
import Derived.Test.YtlgpilcjcomacaaHb
namespace Go.Proofs.Ytlgpilcjcomacaa
open Go.RowKit Rx
set_option linter.unusedVariables false

theorem ends_all (wT : World) (s : ByteArray) (hs : s.size ≤ 5000) : ∀ a : Re, NodeE wT s a ∧ RowA wT s a ∧ AltA wT s a := by
  intro a
  induction a with
  | set f => exact ⟨ends_set wT s hs f, trivial, trivial⟩
  | asr k => exact ⟨ends_asr wT s hs k, trivial, trivial⟩
  | bref m => exact ⟨fun p ⟨v, ⟨b, e, _, hv⟩, hk, _⟩ => by subst e; exact ends_none wT s hs b v hv 2 hk (.inl rfl) _ rfl, trivial, trivial⟩
  | nil => exact ⟨fun p h => h.elim, trivial, trivial⟩
  | cat x r ihx ihr => exact ⟨fun p h => h.elim, ⟨ihx.1, ihr.2.1⟩, trivial⟩
  | none => exact ⟨fun p h => h.elim, trivial, trivial⟩
  | alt x r ihx ihr => exact ⟨fun p h => h.elim, trivial, ⟨ihx.2.1, ihr.2.2⟩⟩
  | grp m x ih =>
    refine ⟨fun p ⟨v, q, ⟨b, e, _, hv⟩, hk, _, _, hkid, hei⟩ => ?_, trivial, trivial⟩
    subst e
    have hqp : ∃ z, q = .pointer z := by obtain ⟨_, ⟨b2, e2, -⟩, -⟩ := hei; exact ⟨_, e2⟩
    have hk2 : v.kind = 5 ∨ v.kind = 6 := by
      by_cases hm : m = 0
      · right; rw [hk, if_pos hm]
      · left; rw [hk, if_neg hm]
    exact ends_kid wT s hs b v hv hk2 q hkid hqp x (ends_either wT s hs x ih.2.2 q hei)
  | look neg x ih =>
    refine ⟨fun p ⟨v, q, ⟨b, e, _, hv⟩, hk, _⟩ => ?_, trivial, trivial⟩
    subst e
    cases neg with
    | true => exact ends_none wT s hs b v hv 8 hk (.inr (.inr (.inl rfl))) _ rfl
    | false => exact ends_none wT s hs b v hv 7 hk (.inr (.inl rfl)) _ rfl
  | atom x ih => exact ⟨fun p ⟨v, q, ⟨b, e, _, hv⟩, hk, _⟩ => by subst e; exact ends_none wT s hs b v hv 9 hk (.inr (.inr (.inr rfl))) _ rfl, trivial, trivial⟩
  | rep x least most lazy ih =>
    refine ⟨fun p ⟨v, q, ⟨b, e, _, hv⟩, hk, hlo, hhi, _, hl100, hmm, hkid, hq⟩ => ?_, trivial, trivial⟩
    subst e
    have hqp : ∃ z, q = .pointer z := by obtain ⟨b2, e2⟩ := rdD_ptr hq; exact ⟨_, e2⟩
    refine ends_rep wT s hs b v hv hk _ (fun w g c F t hF => ?_)
    rcases hmm with hmm | ⟨h1, h2⟩
    · exact reps_any wT s hs b v hv q hkid hqp x least (least + s.size + 1) most lazy hlo hhi hl100 (.inl ⟨hmm, rfl⟩) (ih.1 q hq) w g c F t hF
    · exact reps_any wT s hs b v hv q hkid hqp x least most.toNat most lazy hlo hhi hl100 (.inr ⟨by omega, by omega⟩) (ih.1 q hq) w g c F t hF
  | poss x least most ih => exact ⟨fun p ⟨v, q, v2, q2, ⟨b, e, _, hv⟩, hk, _⟩ => by subst e; exact ends_none wT s hs b v hv 9 hk (.inr (.inr (.inr rfl))) _ rfl, trivial, trivial⟩

/-- What Some says. -/
def SomeP (s : ByteArray) (w : World) : Option (Re × Nat) → Ending → World → Prop
  | none, e, w' => e = .returned (.tuple #[.bool false, .bool false]) ∧ Still w w'
  | some (a, _), e, w' => (pureB a = false ∧ e = .returned (.tuple #[.bool false, .bool false]) ∧ Still w w') ∨ (pureB a = true ∧ ∃ x : Bool, e = .returned (.tuple #[.bool x, .bool true]) ∧ (x = true ↔ Way (str s) a 0 s.size) ∧ Still w w')

set_option maxRecDepth 100000 in
set_option maxHeartbeats 8000000 in
theorem some_way (p s : ByteArray) (hs : s.size ≤ 5000) (w : World) :
    Calls Try.prog 17 #[.string p, .string s] w (SomeP s w (readP (str p))) := by
  have h0 := rread_any p w
  generalize readP (str p) = rr at h0 ⊢
  have HA := Lib.hid h0
  have ws := IntWalk.i64_in ((s.size : Int) + 1) (by omega)
  clear h0
  go_enter Try.func17, Try.ntmps17
  go_wp2_with fail
  refine HA.out.mono ?_
  intro e w1 hG
  clear HA
  cases rr with
  | none =>
    obtain ⟨px, G, rfl, ht⟩ := hG
    have HT := Lib.hid ht
    clear ht
    go_wp2_with fail
    go_ret2
    exact ⟨rfl, HT.out⟩
  | some x =>
    obtain ⟨a, G⟩ := x
    obtain ⟨b, rfl, ht, hei, -⟩ := hG
    have HT := Lib.hid ht
    have HEI := Lib.hid (ends_either w1 s hs a (ends_all w1 s hs a).2.2 _ (EitherD.mono (F := FP w.heap.size w1.heap.size) (F' := fun _ => True) (w := w1) (w' := w1) (fun _ _ => trivial) (fun _ _ _ => rfl) hei))
    clear ht hei
    go_wp2_with (at_make; (refine wpList_make_bools rfl (.tmp 22) rfl (s.size + 1) rfl (by omega) ?_); intro w2 hnew ht1; have HN1 := Lib.hid hnew; have HT1 := Lib.hid ht1; have hb0 := hnew 0 (by omega); obtain ⟨g1, hg1⟩ : ∃ g1, w1.heap.size = g1 := ⟨_, rfl⟩; rw [hg1] at hb0 HN1; rw [hg1]; have HG1 := Lib.hid hg1; obtain ⟨hb0, hf0⟩ := hb0; obtain ⟨w3, hw3⟩ : ∃ w3, w2.setCell ⟨g1, 0, none⟩ (.bool true) = w3 := ⟨_, rfl⟩; have HBR : Hid (BR w3 g1 s.size (setO (fun _ => false) 0 true)) := Lib.hid (by rw [← hw3]; exact (BH.set (fun j hj => HN1.out j (by omega)) (Nat.zero_le _) true).br); have HT3 : Hid (Still w1 w3) := Lib.hid (by rw [← hw3]; exact HT1.out.setCell (.inr (by rw [HG1.out]; exact Nat.le_refl _)) _); clear hnew ht1 hg1)
    clear hw3
    refine (HEI.out w3 g1 _ _ HT3.out HBR.out).mono ?_
    intro e w4 hG
    rcases hG with ⟨hp, g', c', F', rfl, h1, h2, h4, h3⟩ | ⟨hp, ao, c', rfl, h3⟩
    · have x0 := h1 s.size (Nat.le_refl _)
      have HIFF : Hid (F' s.size = true ↔ Way (str s) a 0 s.size) := Lib.hid (by
        rw [h2 s.size (Nat.le_refl _)]
        constructor
        · rintro ⟨i, hi, hF, hw⟩
          have e0 : i = 0 := by
            unfold setO at hF
            by_cases h : i = 0
            · exact h
            · rw [if_neg h] at hF; cases hF
          rw [← e0]
          exact hw
        · intro hw
          exact ⟨0, Nat.zero_le _, if_pos rfl, hw⟩)
      have HP := Lib.hid hp
      have HT4 := Lib.hid ((HT.out.then HT3.out).then h3)
      have hlt : (s.size : Int) < (s.size : Int) + 1 := by omega
      generalize F' s.size = x at x0 HIFF
      clear h1 h2 h3 h4 hp
      go_wp2_with fail
      go_ret2
      exact .inr ⟨HP.out, x, rfl, HIFF.out, HT4.out⟩
    · have HT4 := Lib.hid ((HT.out.then HT3.out).then h3)
      have HP := Lib.hid hp
      clear h3 hp
      go_wp2_with fail
      go_ret2
      exact .inl ⟨HP.out, rfl, HT4.out⟩

set_option maxRecDepth 100000 in
set_option maxHeartbeats 8000000 in
/-- RegexLanguage. -/
theorem law_language (v : Value) (w : World) (h : GrowV w v) :
    Calls Try.prog 7 #[v] w fun e w' => e = .returned (.bool true) ∧ Still w w' := by
  have HS := Lib.hid sane_any
  have HASK := Lib.hid (fun w' (t : Still w w') => ask_any v true w' (h.keep t))
  obtain ⟨a1, a2, l1, c1, l2, c2, fr0, bu0, y0, rfl, -, -, -, -, -⟩ := h.view
  clear h
  go_enter Try.func7, Try.ntmps7
  go_wp2_with fail
  refine (HASK.out _ ((Touch.refl (fun _ => False) w).alloc _)).mono ?_
  rintro e w2 ⟨p, s, y, fr, bu, a, G, rfl, hr, -, hs14, hfs, hbu, -, ht⟩
  have HSM : Hid (∀ w', Calls Try.prog 17 #[.string p, .string s] w' (SomeP s w' (some (a, G)))) := Lib.hid (fun w' => by have h := some_way p s (by omega) w'; rw [hr] at h; exact h)
  have HWH : Hid (∀ w', Calls Try.prog 18 #[.string p, .string s, .int .i64 50000] w' (WholeP w' (wholeRes (Go.Proofs.Ytlgpilcjcomacaa.fr (str s) 50000 (wholeR a) true 0 0)))) := Lib.hid (fun w' => by
    have h := whole_any p s ((50000 : Nat) : Int) w'
    rw [hr] at h
    have h2 : wholeV s ((50000 : Nat) : Int) (some (a, G)) = wholeRes (Go.Proofs.Ytlgpilcjcomacaa.fr (str s) 50000 (wholeR a) true 0 0) := by
      show (if askOK s.size 0 ((50000 : Nat) : Int) = true then wholeRes (Go.Proofs.Ytlgpilcjcomacaa.fr (str s) ((50000 : Nat) : Int).toNat (wholeR a) true 0 0) else (false, 1)) = _
      rw [if_pos (by unfold askOK; exact decide_eq_true (by omega)), Int.toNat_natCast]
    rw [h2] at h
    exact h)
  have HSAY : Hid (pureB a = true → Says (Way (str s) a 0 s.size) (Go.Proofs.Ytlgpilcjcomacaa.fr (str s) 50000 (wholeR a) true 0 0)) := Lib.hid (fun hp => by have h := says_whole (str s) 50000 a hp; rw [str_len] at h; exact h)
  generalize Go.Proofs.Ytlgpilcjcomacaa.fr (str s) 50000 (wholeR a) true 0 0 = rr at HWH HSAY
  have HA3 : Hid (AskAt (w2.alloc (.cells #[.string p, .string s, .string y, .int .i64 (fr : Int), .int .i64 (bu : Int)] 23)) w2.heap.size p s y fr bu) := Lib.hid (AskAt.made w2 p s y fr bu)
  have HT3 : Hid (Still w (w2.alloc (.cells #[.string p, .string s, .string y, .int .i64 (fr : Int), .int .i64 (bu : Int)] 23))) := Lib.hid ((((Touch.refl (fun _ => False) w).alloc _).then ht).alloc _)
  obtain ⟨n3, hn3⟩ : ∃ n3, w2.heap.size = n3 := ⟨_, rfl⟩
  rw [hn3] at HA3
  have a0 := HA3.out.c0; have a1' := HA3.out.c1
  clear ht hr HASK
  go_wp2_with fail
  refine (HSM.out _).mono ?_
  intro e w4 hG
  clear a0 a1'
  rcases hG with ⟨hp, rfl, ht⟩ | ⟨hp, x, rfl, hx, ht⟩
  · have HT4 := Lib.hid (HT3.out.then ht)
    clear ht hp
    go_wp2_with fail
    refine (HS.out _).mono ?_
    rintro e w5 ⟨rfl, ht⟩
    have HT5 := Lib.hid (HT4.out.then ht)
    clear ht
    go_wp2_with fail
    go_ret
    exact ⟨rfl, HT5.out⟩
  · have HT4 := Lib.hid (HT3.out.then ht)
    have HA4 := Lib.hid (HA3.out.keep ht)
    have a0 := HA4.out.c0; have a1' := HA4.out.c1
    have hsay := HSAY.out hp
    have HX := Lib.hid hx
    clear ht hp hx HSAY
    go_wp2_with fail
    refine (HWH.out _).mono ?_
    rintro e w5 ⟨rfl, ht⟩
    have HT5 := Lib.hid (HT4.out.then ht)
    clear ht a0 a1' HWH
    cases rr with
    | over =>
      clear hsay
      show _
      simp only [wholeRes]
      go_wp2_with fail
      refine (HS.out _).mono ?_
      rintro e w6 ⟨rfl, ht⟩
      have HT6 := Lib.hid (HT5.out.then ht)
      clear ht
      go_wp2_with fail
      go_ret
      exact ⟨rfl, HT6.out⟩
    | no n =>
      have hsay : ¬ Way (str s) a 0 s.size := hsay
      have hxf : x = false := by
        cases x with
        | false => rfl
        | true => exact absurd (HX.out.1 rfl) hsay
      subst hxf
      clear hsay
      simp only [wholeRes]
      go_wp2_with fail
      refine (HS.out _).mono ?_
      rintro e w6 ⟨rfl, ht⟩
      have HT6 := Lib.hid (HT5.out.then ht)
      clear ht
      go_wp2_with fail
      go_ret
      exact ⟨rfl, HT6.out⟩
    | yes n g z =>
      have hsay : Way (str s) a 0 s.size := hsay
      have hxt : x = true := HX.out.2 hsay
      subst hxt
      clear hsay
      simp only [wholeRes]
      go_wp2_with fail
      refine (HS.out _).mono ?_
      rintro e w6 ⟨rfl, ht⟩
      have HT6 := Lib.hid (HT5.out.then ht)
      clear ht
      go_wp2_with fail
      go_ret
      exact ⟨rfl, HT6.out⟩
end Go.Proofs.Ytlgpilcjcomacaa
