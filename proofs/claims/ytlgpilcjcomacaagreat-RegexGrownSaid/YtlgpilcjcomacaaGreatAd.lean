/-
  Texts Pd, Pe in one.
-/
import Derived.Test.YtlgpilcjcomacaaGreatAc
import Derived.Test.YtlgpilcjcomacaaGreatAa
/-
  Sets in memory; the program's one and named.
-/
namespace Go.Proofs.YtlgpilcjcomacaaGreat
open Go.RowKit Rx
set_option linter.unusedVariables false

/-- A set's block, known whole. -/
def IsSet (A : Array Value) (f : Nat → Bool) : Prop := A.size = 256 ∧ ∀ i, i < 256 → A[i]? = some (.bool (f i))
def SetB (w : World) (b : Nat) (f : Nat → Bool) : Prop := ∃ A, w.heap[b]? = some (.cells A 160 (0, 0)) ∧ IsSet A f
theorem zero_set : IsSet Tryz.zeroCells160 (fun _ => false) := by
  have h : Tryz.zeroCells160 = Array.replicate 256 (.bool false) := by kernel_rfl
  rw [h]
  exact ⟨by simp, fun i hi => by simp [hi]⟩
theorem IsSet.set {A : Array Value} {f : Nat → Bool} (h : IsSet A f) {i : Nat} (hi : i < 256) (v : Bool) : IsSet (A.setIfInBounds i (.bool v)) (fun x => if x = i then v else f x) := by
  refine ⟨by simp [h.1], fun j hj => ?_⟩
  rw [Array.getElem?_setIfInBounds]
  by_cases e : i = j
  · subst e; simp [h.1, hi]
  · rw [if_neg e, h.2 j hj]; simp [Ne.symm e]
theorem IsSet.congr {A : Array Value} {f g : Nat → Bool} (h : IsSet A f) (e : ∀ i, i < 256 → f i = g i) : IsSet A g := ⟨h.1, fun i hi => by rw [h.2 i hi, e i hi]⟩
theorem SetB.cell {w : World} {b : Nat} {f : Nat → Bool} (h : SetB w b f) {i : Nat} (hi : i < 256) : Holds w b i (.bool (f i)) := by
  obtain ⟨A, hA, hs⟩ := h
  exact ⟨by unfold World.cell?; simp [hA, hs.2 i hi], by unfold World.frozen?; simp [hA]⟩
theorem SetB.lt {w : World} {b : Nat} {f : Nat → Bool} (h : SetB w b f) : b < w.heap.size := by obtain ⟨A, hA, -⟩ := h; exact (Array.getElem?_eq_some_iff.1 hA).1
theorem SetB.keep {S : Nat → Prop} {w w' : World} {b : Nat} {f : Nat → Bool} (h : SetB w b f) (t : Touch S w w') (hb : ¬ S b) : SetB w' b f := by
  have hl := h.lt
  obtain ⟨A, hA, hs⟩ := h
  exact ⟨A, (t.block b hl hb).trans hA, hs⟩
theorem SetB.put {w : World} {b : Nat} {f : Nat → Bool} (h : SetB w b f) {i : Nat} (hi : i < 256) (v : Bool) : SetB (w.setCell ⟨b, i, none⟩ (.bool v)) b (fun x => if x = i then v else f x) := by
  obtain ⟨A, hA, hs⟩ := h
  refine ⟨A.setIfInBounds i (.bool v), ?_, hs.set hi v⟩
  rw [setCell_eq_setRow w b i _ _ (0, 0) _ hA, setRow_heap w b _ _ _ (0, 0) hA]
theorem SetB.congr {w : World} {b : Nat} {f g : Nat → Bool} (h : SetB w b f) (e : ∀ i, i < 256 → f i = g i) : SetB w b g := by
  obtain ⟨A, hA, hs⟩ := h
  exact ⟨A, hA, hs.congr e⟩
theorem SetB.made (w : World) (A : Array Value) (f : Nat → Bool) (h : IsSet A f) : SetB (w.alloc (.cells A 160)) w.heap.size f := ⟨A, heap_alloc_new w _, h⟩

/-- The blocks from one number up to another one. -/
def FP (lo hi : Nat) : Nat → Prop := fun b => lo ≤ b ∧ b < hi

/-- What was read is read still. -/
theorem rd_mono {F F' : Nat → Prop} {w w' : World} {G : Nat} (hF : ∀ b, F b → F' b) (hc : ∀ b o v, F b → w.cell? ⟨b, o, none⟩ = some v → w'.cell? ⟨b, o, none⟩ = some v) : ∀ a : Re, (∀ p, (rd F w G a).node p → (rd F' w' G a).node p) ∧ (∀ x l, (rd F w G a).row x l → (rd F' w' G a).row x l) ∧ (∀ x l, (rd F w G a).ways x l → (rd F' w' G a).ways x l) := by
  have hN : ∀ {b kind of num wa wl wc kid least most how}, NodeC F w b kind of num wa wl wc kid least most how → NodeC F' w' b kind of num wa wl wc kid least most how := fun h =>
    ⟨hF _ h.fb, hc _ _ _ h.fb h.c0, hc _ _ _ h.fb h.c1, hc _ _ _ h.fb h.c2, hc _ _ _ h.fb h.c3, hc _ _ _ h.fb h.c4, hc _ _ _ h.fb h.c5, hc _ _ _ h.fb h.c6, hc _ _ _ h.fb h.c7⟩
  intro a
  induction a with
  | set f => exact ⟨fun p ⟨b, sb, num, wa, wl, wc, kid, least, most, how, e, h, hs, hx⟩ => ⟨b, sb, num, wa, wl, wc, kid, least, most, how, e, hN h, hF _ hs, fun i hi => hc _ _ _ hs (hx i hi)⟩, fun _ _ h => h.elim, fun _ _ h => h.elim⟩
  | asr k => exact ⟨fun p ⟨b, of, num, wa, wl, wc, kid, least, most, how, e, h, h1, h2⟩ => ⟨b, of, num, wa, wl, wc, kid, least, most, how, e, hN h, h1, h2⟩, fun _ _ h => h.elim, fun _ _ h => h.elim⟩
  | bref m => exact ⟨fun p ⟨b, of, wa, wl, wc, kid, least, most, how, e, h, h1, h2⟩ => ⟨b, of, wa, wl, wc, kid, least, most, how, e, hN h, h1, h2⟩, fun _ _ h => h.elim, fun _ _ h => h.elim⟩
  | nil => exact ⟨fun _ h => h.elim, fun _ _ h => h, fun _ _ h => h.elim⟩
  | cat x r ihx ihr => exact ⟨fun _ h => h.elim, fun _ _ ⟨b, o, p, e, hb, h1, h2, h3, h4, h5⟩ => ⟨b, o, p, e, hF _ hb, h1, h2, hc _ _ _ hb h3, ihx.1 _ h4, ihr.2.1 _ _ h5⟩, fun _ _ h => h.elim⟩
  | none => exact ⟨fun _ h => h.elim, fun _ _ h => h.elim, fun _ _ h => h⟩
  | alt x r ihx ihr => exact ⟨fun _ h => h.elim, fun _ _ h => h.elim, fun _ _ ⟨b, o, ra, rl, rc, e, hb, h1, h2, h3, h4, h5, h6⟩ => ⟨b, o, ra, rl, rc, e, hF _ hb, h1, h2, h3, hc _ _ _ hb h4, ihx.2.1 _ _ h5, ihr.2.2 _ _ h6⟩⟩
  | grp m x ih => exact ⟨fun p ⟨b, of, wa, wl, wc, kid, least, most, how, e, h, h1, h2, h3⟩ => ⟨b, of, wa, wl, wc, kid, least, most, how, e, hN h, h1, h2, ih.2.2 _ _ h3⟩, fun _ _ h => h.elim, fun _ _ h => h.elim⟩
  | look neg x ih => exact ⟨fun p ⟨b, of, num, wa, wl, wc, kid, least, most, how, e, h, h2, h3⟩ => ⟨b, of, num, wa, wl, wc, kid, least, most, how, e, hN h, h2, ih.2.2 _ _ h3⟩, fun _ _ h => h.elim, fun _ _ h => h.elim⟩
  | atom x ih => exact ⟨fun p ⟨b, of, num, wa, wl, wc, kid, least, most, how, e, h, h2, h3⟩ => ⟨b, of, num, wa, wl, wc, kid, least, most, how, e, hN h, h2, ih.2.2 _ _ h3⟩, fun _ _ h => h.elim, fun _ _ h => h.elim⟩
  | rep x least most lazy ih => exact ⟨fun p ⟨b, of, num, wa, wl, wc, kid, e, h, h1, h2, h3, h4⟩ => ⟨b, of, num, wa, wl, wc, kid, e, hN h, h1, h2, h3, ih.1 _ h4⟩, fun _ _ h => h.elim, fun _ _ h => h.elim⟩
  | poss x least most ih => exact ⟨fun p ⟨b, of, num, wa, wl, wc, kid, e, h, h1, h2, h3, h4⟩ => ⟨b, of, num, wa, wl, wc, kid, e, hN h, h1, h2, h3, ih.1 _ h4⟩, fun _ _ h => h.elim, fun _ _ h => h.elim⟩

/-- A node's cells, of a new block. -/
theorem nodeC_new {w : World} {F : Nat → Prop} (h : F w.heap.size) (kind : Int) (of : Value) (num : Int) (wa : Option Addr) (wl wc : Nat) (kid : Value) (least most how : Int) :
    NodeC F (w.alloc (.cells #[.int .i64 kind, of, .int .i64 num, .slice wa wl wc, kid, .int .i64 least, .int .i64 most, .int .i64 how] 89)) w.heap.size kind of num wa wl wc kid least most how :=
  ⟨h, by simp [go_sem], by simp [go_sem], by simp [go_sem], by simp [go_sem], by simp [go_sem], by simp [go_sem], by simp [go_sem], by simp [go_sem]⟩

set_option maxRecDepth 100000 in
theorem one_any (c : Nat) (hc : c < 256) (w : World) :
    Calls Tryz.prog 108 #[.int .u8 (c : Int)] w fun e w' => e = .returned (.pointer (some ⟨w.heap.size + 1, 0, none⟩)) ∧ Still w w' ∧ w'.heap.size = w.heap.size + 1 + 1 ∧ (rd (FP w.heap.size w'.heap.size) w' 9 (oneR c)).node (.pointer (some ⟨w.heap.size + 1, 0, none⟩)) := by
  go_enter Tryz.func108, Tryz.ntmps108
  go_wp2_with fail
  go_ret
  have hz : ((w.alloc (.cells (Tryz.zeroCells160.setIfInBounds c (.bool true)) 160)).alloc (.cells #[.int .i64 0, .pointer (some ⟨w.heap.size, 0, none⟩), .int .i64 0, .slice none 0 0, .pointer none, .int .i64 0, .int .i64 0, .int .i64 0] 89)).heap.size = w.heap.size + 1 + 1 := by simp
  have h1 : (w.alloc (.cells (Tryz.zeroCells160.setIfInBounds c (.bool true)) 160)).heap.size = w.heap.size + 1 := by simp
  refine ⟨rfl, ((Touch.refl _ _).alloc _).alloc _, hz, ?_⟩
  have hs := (SetB.made w _ _ (zero_set.set hc true)).keep ((Touch.refl (fun _ => False) _).alloc (.cells #[.int .i64 0, .pointer (some ⟨w.heap.size, 0, none⟩), .int .i64 0, .slice none 0 0, .pointer none, .int .i64 0, .int .i64 0, .int .i64 0] 89)) id
  have hn := nodeC_new (w := w.alloc (.cells (Tryz.zeroCells160.setIfInBounds c (.bool true)) 160)) (F := FP w.heap.size (w.heap.size + 1 + 1)) (by rw [h1]; exact ⟨by omega, by omega⟩) 0 (.pointer (some ⟨w.heap.size, 0, none⟩)) 0 none 0 0 (.pointer none) 0 0 0
  rw [hz]
  rw [h1] at hn
  refine ⟨w.heap.size + 1, w.heap.size, _, _, _, _, _, _, _, _, rfl, hn, ⟨Nat.le_refl _, by omega⟩, fun i hi => ?_⟩
  have := (hs.cell hi).1
  rw [this]
  congr 2

theorem named_none (c : Nat) (hc : c < 256) (hn : named c = none) (w : World) :
    Calls Tryz.prog 116 #[.int .u8 (c : Int)] w fun e w' => e = .returned (.pointer none) ∧ Still w w' := by
  have e1 : ((c : Int) == 100) = false := by
    simp; rintro h; have : c = 100 := by omega
    subst this; exact absurd hn (by decide)
  have e2 : ((c : Int) == 68) = false := by
    simp; rintro h; have : c = 68 := by omega
    subst this; exact absurd hn (by decide)
  have e3 : ((c : Int) == 119) = false := by
    simp; rintro h; have : c = 119 := by omega
    subst this; exact absurd hn (by decide)
  have e4 : ((c : Int) == 87) = false := by
    simp; rintro h; have : c = 87 := by omega
    subst this; exact absurd hn (by decide)
  have e5 : ((c : Int) == 115) = false := by
    simp; rintro h; have : c = 115 := by omega
    subst this; exact absurd hn (by decide)
  have e6 : ((c : Int) == 83) = false := by
    simp; rintro h; have : c = 83 := by omega
    subst this; exact absurd hn (by decide)
  clear hn
  go_enter Tryz.func116, Tryz.ntmps116
  go_wp2_with fail
  go_loopw [9] (fun i wr => i = .int .i64 0 ∧ Hid (Still w wr)) (fun _ _ => 0)
  case atStart => exact ⟨rfl, Lib.hid ((Touch.refl _ _).alloc _)⟩
  case round =>
    obtain ⟨rfl, HT⟩ := hrel
    go_wp2_with fail
    go_ret
    exact ⟨rfl, HT.out⟩

set_option maxRecDepth 100000 in
set_option maxHeartbeats 1000000 in
theorem named_d (w : World) :
    Calls Tryz.prog 116 #[.int .u8 100] w fun e w' => ∃ b, e = .returned (.pointer (some ⟨b, 0, none⟩)) ∧ SetB w' b (isDig) ∧ w.heap.size ≤ b ∧ Still w w' := by
  go_enter Tryz.func116, Tryz.ntmps116
  go_wp2_with fail
  go_loopw [9] (fun i wr => ∃ (j : Nat) (g : Nat → Bool), i = .int .i64 j ∧ j ≤ 256 ∧ Hid (SetB wr w.heap.size g) ∧ Hid (∀ x, x < j → g x = (isDig) x) ∧ Hid (Still w wr)) (fun i _ => 256 - (intOf i).toNat)
  case atStart => exact ⟨0, _, rfl, by omega, Lib.hid (SetB.made w _ _ zero_set), Lib.hid (fun x hx => by omega), Lib.hid ((Touch.refl _ _).alloc _)⟩
  case round =>
    obtain ⟨j, g, rfl, hj, HS, HG, HT⟩ := hrel
    by_cases hlt : j < 256
    · have hx := HS.out.cell hlt
      obtain ⟨hx1, hx2⟩ := hx
      have hw8 : IntKind.u8.wrap (j : Int) = (j : Int) := by unfold IntKind.wrap; simp [IntKind.signed, IntKind.bits]; omega
      by_cases h1 : 48 ≤ j
      · by_cases h2 : j ≤ 57
        · have q1 : decide (48 ≤ (j : Int)) = true := by simp; omega
          have q2 : decide ((j : Int) ≤ 57) = true := by simp; omega
          have HS2 := Lib.hid (HS.out.put hlt (true))
          have HT2 : Hid (Still w (wr.setCell ⟨w.heap.size, j, none⟩ (.bool (true)))) := Lib.hid (HT.out.setCell (.inr (Nat.le_refl _)) _)
          go_wp2_with fail
          refine ⟨⟨j + 1, _, by go_num, by omega, HS2, Lib.hid ?_, HT2⟩, by simp [intOf]; omega⟩
          intro x hx
          by_cases e : x = j
          · subst e; rw [if_pos rfl]; simp [isDig]; omega
          · rw [if_neg e]; exact HG.out x (by omega)
        · have q1 : decide (48 ≤ (j : Int)) = true := by simp; omega
          have q2 : decide ((j : Int) ≤ 57) = false := by simp; omega
          have HS2 := Lib.hid (HS.out.put hlt (false))
          have HT2 : Hid (Still w (wr.setCell ⟨w.heap.size, j, none⟩ (.bool (false)))) := Lib.hid (HT.out.setCell (.inr (Nat.le_refl _)) _)
          go_wp2_with fail
          refine ⟨⟨j + 1, _, by go_num, by omega, HS2, Lib.hid ?_, HT2⟩, by simp [intOf]; omega⟩
          intro x hx
          by_cases e : x = j
          · subst e; rw [if_pos rfl]; simp [isDig]; omega
          · rw [if_neg e]; exact HG.out x (by omega)
      · have q1 : decide (48 ≤ (j : Int)) = false := by simp; omega
        have HS2 := Lib.hid (HS.out.put hlt (false))
        have HT2 : Hid (Still w (wr.setCell ⟨w.heap.size, j, none⟩ (.bool (false)))) := Lib.hid (HT.out.setCell (.inr (Nat.le_refl _)) _)
        go_wp2_with fail
        refine ⟨⟨j + 1, _, by go_num, by omega, HS2, Lib.hid ?_, HT2⟩, by simp [intOf]; omega⟩
        intro x hx
        by_cases e : x = j
        · subst e; rw [if_pos rfl]; simp [isDig]; omega
        · rw [if_neg e]; exact HG.out x (by omega)
    · obtain rfl : j = 256 := by omega
      go_wp2_with fail
      go_ret
      exact ⟨_, rfl, HS.out.congr (fun i hi => HG.out i hi), Nat.le_refl _, HT.out⟩

set_option maxRecDepth 100000 in
set_option maxHeartbeats 1000000 in
theorem named_D (w : World) :
    Calls Tryz.prog 116 #[.int .u8 68] w fun e w' => ∃ b, e = .returned (.pointer (some ⟨b, 0, none⟩)) ∧ SetB w' b (fun x => !isDig x) ∧ w.heap.size ≤ b ∧ Still w w' := by
  go_enter Tryz.func116, Tryz.ntmps116
  go_wp2_with fail
  go_loopw [9] (fun i wr => ∃ (j : Nat) (g : Nat → Bool), i = .int .i64 j ∧ j ≤ 256 ∧ Hid (SetB wr w.heap.size g) ∧ Hid (∀ x, x < j → g x = (fun x => !isDig x) x) ∧ Hid (Still w wr)) (fun i _ => 256 - (intOf i).toNat)
  case atStart => exact ⟨0, _, rfl, by omega, Lib.hid (SetB.made w _ _ zero_set), Lib.hid (fun x hx => by omega), Lib.hid ((Touch.refl _ _).alloc _)⟩
  case round =>
    obtain ⟨j, g, rfl, hj, HS, HG, HT⟩ := hrel
    by_cases hlt : j < 256
    · have hx := HS.out.cell hlt
      obtain ⟨hx1, hx2⟩ := hx
      have hw8 : IntKind.u8.wrap (j : Int) = (j : Int) := by unfold IntKind.wrap; simp [IntKind.signed, IntKind.bits]; omega
      by_cases h1 : 48 ≤ j
      · by_cases h2 : j ≤ 57
        · have q1 : decide (48 ≤ (j : Int)) = true := by simp; omega
          have q2 : decide ((j : Int) ≤ 57) = true := by simp; omega
          obtain ⟨w1, hw1⟩ : ∃ w1, (wr.setCell ⟨w.heap.size, j, none⟩ (.bool (true))) = w1 := ⟨_, rfl⟩
          have hs1 : SetB w1 w.heap.size (fun x => if x = j then (true) else g x) := by rw [← hw1]; exact HS.out.put hlt (true)
          have ht1 : Still w w1 := by rw [← hw1]; exact (HT.out.setCell (.inr (Nat.le_refl _)) _)
          have hy := hs1.cell hlt
          simp only [if_true] at hy
          obtain ⟨hy1, hy2⟩ := hy
          have HS2 := Lib.hid (SetB.keep (hs1.put hlt (!(true))) ((Touch.refl (fun _ => False) _).drew) id)
          have HT2 : Hid (Still w (w1.setCell ⟨w.heap.size, j, none⟩ (.bool (!(true)))).drew) := Lib.hid (ht1.setCell (.inr (Nat.le_refl _)) _).drew
          clear hs1 ht1
          go_wp2_with fail
          clear hw1
          go_still_tail 10, (by kernel_rfl)
          change wpList _ _ _ _ _ (World.drew _)
          go_wp2_with fail
          refine ⟨⟨j + 1, _, by go_num, by omega, HS2, Lib.hid ?_, HT2⟩, by simp [intOf]; omega⟩
          intro x hx
          by_cases e : x = j
          · subst e; rw [if_pos rfl]; simp [isDig]; omega
          · rw [if_neg e, if_neg e]; exact HG.out x (by omega)
        · have q1 : decide (48 ≤ (j : Int)) = true := by simp; omega
          have q2 : decide ((j : Int) ≤ 57) = false := by simp; omega
          obtain ⟨w1, hw1⟩ : ∃ w1, (wr.setCell ⟨w.heap.size, j, none⟩ (.bool (false))) = w1 := ⟨_, rfl⟩
          have hs1 : SetB w1 w.heap.size (fun x => if x = j then (false) else g x) := by rw [← hw1]; exact HS.out.put hlt (false)
          have ht1 : Still w w1 := by rw [← hw1]; exact (HT.out.setCell (.inr (Nat.le_refl _)) _)
          have hy := hs1.cell hlt
          simp only [if_true] at hy
          obtain ⟨hy1, hy2⟩ := hy
          have HS2 := Lib.hid (SetB.keep (hs1.put hlt (!(false))) ((Touch.refl (fun _ => False) _).drew) id)
          have HT2 : Hid (Still w (w1.setCell ⟨w.heap.size, j, none⟩ (.bool (!(false)))).drew) := Lib.hid (ht1.setCell (.inr (Nat.le_refl _)) _).drew
          clear hs1 ht1
          go_wp2_with fail
          clear hw1
          go_still_tail 10, (by kernel_rfl)
          change wpList _ _ _ _ _ (World.drew _)
          go_wp2_with fail
          refine ⟨⟨j + 1, _, by go_num, by omega, HS2, Lib.hid ?_, HT2⟩, by simp [intOf]; omega⟩
          intro x hx
          by_cases e : x = j
          · subst e; rw [if_pos rfl]; simp [isDig]; omega
          · rw [if_neg e, if_neg e]; exact HG.out x (by omega)
      · have q1 : decide (48 ≤ (j : Int)) = false := by simp; omega
        obtain ⟨w1, hw1⟩ : ∃ w1, (wr.setCell ⟨w.heap.size, j, none⟩ (.bool (false))) = w1 := ⟨_, rfl⟩
        have hs1 : SetB w1 w.heap.size (fun x => if x = j then (false) else g x) := by rw [← hw1]; exact HS.out.put hlt (false)
        have ht1 : Still w w1 := by rw [← hw1]; exact (HT.out.setCell (.inr (Nat.le_refl _)) _)
        have hy := hs1.cell hlt
        simp only [if_true] at hy
        obtain ⟨hy1, hy2⟩ := hy
        have HS2 := Lib.hid (SetB.keep (hs1.put hlt (!(false))) ((Touch.refl (fun _ => False) _).drew) id)
        have HT2 : Hid (Still w (w1.setCell ⟨w.heap.size, j, none⟩ (.bool (!(false)))).drew) := Lib.hid (ht1.setCell (.inr (Nat.le_refl _)) _).drew
        clear hs1 ht1
        go_wp2_with fail
        clear hw1
        go_still_tail 10, (by kernel_rfl)
        change wpList _ _ _ _ _ (World.drew _)
        go_wp2_with fail
        refine ⟨⟨j + 1, _, by go_num, by omega, HS2, Lib.hid ?_, HT2⟩, by simp [intOf]; omega⟩
        intro x hx
        by_cases e : x = j
        · subst e; rw [if_pos rfl]; simp [isDig]; omega
        · rw [if_neg e, if_neg e]; exact HG.out x (by omega)
    · obtain rfl : j = 256 := by omega
      go_wp2_with fail
      go_ret
      exact ⟨_, rfl, HS.out.congr (fun i hi => HG.out i hi), Nat.le_refl _, HT.out⟩

set_option maxRecDepth 100000 in
set_option maxHeartbeats 1000000 in
theorem named_w (w : World) :
    Calls Tryz.prog 116 #[.int .u8 119] w fun e w' => ∃ b, e = .returned (.pointer (some ⟨b, 0, none⟩)) ∧ SetB w' b (wordB) ∧ w.heap.size ≤ b ∧ Still w w' := by
  go_enter Tryz.func116, Tryz.ntmps116
  go_wp2_with fail
  go_loopw [9] (fun i wr => ∃ (j : Nat) (g : Nat → Bool), i = .int .i64 j ∧ j ≤ 256 ∧ Hid (SetB wr w.heap.size g) ∧ Hid (∀ x, x < j → g x = (wordB) x) ∧ Hid (Still w wr)) (fun i _ => 256 - (intOf i).toNat)
  case atStart => exact ⟨0, _, rfl, by omega, Lib.hid (SetB.made w _ _ zero_set), Lib.hid (fun x hx => by omega), Lib.hid ((Touch.refl _ _).alloc _)⟩
  case round =>
    obtain ⟨j, g, rfl, hj, HS, HG, HT⟩ := hrel
    by_cases hlt : j < 256
    · have hx := HS.out.cell hlt
      obtain ⟨hx1, hx2⟩ := hx
      have hw8 : IntKind.u8.wrap (j : Int) = (j : Int) := by unfold IntKind.wrap; simp [IntKind.signed, IntKind.bits]; omega
      have HW : Hid (Calls Tryz.prog 97 #[.int .u8 (j : Int)] wr.drew fun e w' => e = .returned (.bool (wordB j)) ∧ w' = wr.drew) := Lib.hid (by
        have h1 := isWord_any (UInt8.ofNat j) wr.drew
        rw [show (UInt8.ofNat j).toNat = j from by simp; omega] at h1
        exact h1.mono fun e w' h => ⟨h.1, h.2.symm⟩)
      by_cases h1 : 48 ≤ j
      · by_cases h2 : j ≤ 57
        · have q1 : decide (48 ≤ (j : Int)) = true := by simp; omega
          have q2 : decide ((j : Int) ≤ 57) = true := by simp; omega
          have HS2 := Lib.hid (SetB.keep (HS.out.put hlt (wordB j)) ((Touch.refl (fun _ => False) _).drew) id)
          have HT2 : Hid (Still w (wr.setCell ⟨w.heap.size, j, none⟩ (.bool (wordB j))).drew) := Lib.hid (HT.out.setCell (.inr (Nat.le_refl _)) _).drew
          go_wp2_with fail
          refine wp_region_still_tail 6 (by kernel_rfl) (by kernel_rfl) ?_
          simp only [List.take_succ_cons, List.take_zero, List.drop_succ_cons, List.drop_zero]
          repeat still_step
          still_call HW.out
          repeat still_step
          refine wpStill_nil ?_
          change wpList _ _ _ _ _ (World.drew _)
          go_wp2_with fail
          refine ⟨⟨j + 1, _, by go_num, by omega, HS2, Lib.hid ?_, HT2⟩, by simp [intOf]; omega⟩
          intro x hx
          by_cases e : x = j
          · subst e; rw [if_pos rfl]; skip
          · rw [if_neg e]; exact HG.out x (by omega)
        · have q1 : decide (48 ≤ (j : Int)) = true := by simp; omega
          have q2 : decide ((j : Int) ≤ 57) = false := by simp; omega
          have HS2 := Lib.hid (SetB.keep (HS.out.put hlt (wordB j)) ((Touch.refl (fun _ => False) _).drew) id)
          have HT2 : Hid (Still w (wr.setCell ⟨w.heap.size, j, none⟩ (.bool (wordB j))).drew) := Lib.hid (HT.out.setCell (.inr (Nat.le_refl _)) _).drew
          go_wp2_with fail
          refine wp_region_still_tail 6 (by kernel_rfl) (by kernel_rfl) ?_
          simp only [List.take_succ_cons, List.take_zero, List.drop_succ_cons, List.drop_zero]
          repeat still_step
          still_call HW.out
          repeat still_step
          refine wpStill_nil ?_
          change wpList _ _ _ _ _ (World.drew _)
          go_wp2_with fail
          refine ⟨⟨j + 1, _, by go_num, by omega, HS2, Lib.hid ?_, HT2⟩, by simp [intOf]; omega⟩
          intro x hx
          by_cases e : x = j
          · subst e; rw [if_pos rfl]; skip
          · rw [if_neg e]; exact HG.out x (by omega)
      · have q1 : decide (48 ≤ (j : Int)) = false := by simp; omega
        have HS2 := Lib.hid (SetB.keep (HS.out.put hlt (wordB j)) ((Touch.refl (fun _ => False) _).drew) id)
        have HT2 : Hid (Still w (wr.setCell ⟨w.heap.size, j, none⟩ (.bool (wordB j))).drew) := Lib.hid (HT.out.setCell (.inr (Nat.le_refl _)) _).drew
        go_wp2_with fail
        refine wp_region_still_tail 6 (by kernel_rfl) (by kernel_rfl) ?_
        simp only [List.take_succ_cons, List.take_zero, List.drop_succ_cons, List.drop_zero]
        repeat still_step
        still_call HW.out
        repeat still_step
        refine wpStill_nil ?_
        change wpList _ _ _ _ _ (World.drew _)
        go_wp2_with fail
        refine ⟨⟨j + 1, _, by go_num, by omega, HS2, Lib.hid ?_, HT2⟩, by simp [intOf]; omega⟩
        intro x hx
        by_cases e : x = j
        · subst e; rw [if_pos rfl]; skip
        · rw [if_neg e]; exact HG.out x (by omega)
    · obtain rfl : j = 256 := by omega
      go_wp2_with fail
      go_ret
      exact ⟨_, rfl, HS.out.congr (fun i hi => HG.out i hi), Nat.le_refl _, HT.out⟩

set_option maxRecDepth 100000 in
set_option maxHeartbeats 1000000 in
theorem named_W (w : World) :
    Calls Tryz.prog 116 #[.int .u8 87] w fun e w' => ∃ b, e = .returned (.pointer (some ⟨b, 0, none⟩)) ∧ SetB w' b (fun x => !wordB x) ∧ w.heap.size ≤ b ∧ Still w w' := by
  go_enter Tryz.func116, Tryz.ntmps116
  go_wp2_with fail
  go_loopw [9] (fun i wr => ∃ (j : Nat) (g : Nat → Bool), i = .int .i64 j ∧ j ≤ 256 ∧ Hid (SetB wr w.heap.size g) ∧ Hid (∀ x, x < j → g x = (fun x => !wordB x) x) ∧ Hid (Still w wr)) (fun i _ => 256 - (intOf i).toNat)
  case atStart => exact ⟨0, _, rfl, by omega, Lib.hid (SetB.made w _ _ zero_set), Lib.hid (fun x hx => by omega), Lib.hid ((Touch.refl _ _).alloc _)⟩
  case round =>
    obtain ⟨j, g, rfl, hj, HS, HG, HT⟩ := hrel
    by_cases hlt : j < 256
    · have hx := HS.out.cell hlt
      obtain ⟨hx1, hx2⟩ := hx
      have hw8 : IntKind.u8.wrap (j : Int) = (j : Int) := by unfold IntKind.wrap; simp [IntKind.signed, IntKind.bits]; omega
      have HW : Hid (Calls Tryz.prog 97 #[.int .u8 (j : Int)] wr.drew fun e w' => e = .returned (.bool (wordB j)) ∧ w' = wr.drew) := Lib.hid (by
        have h1 := isWord_any (UInt8.ofNat j) wr.drew
        rw [show (UInt8.ofNat j).toNat = j from by simp; omega] at h1
        exact h1.mono fun e w' h => ⟨h.1, h.2.symm⟩)
      by_cases h1 : 48 ≤ j
      · by_cases h2 : j ≤ 57
        · have q1 : decide (48 ≤ (j : Int)) = true := by simp; omega
          have q2 : decide ((j : Int) ≤ 57) = true := by simp; omega
          obtain ⟨w1, hw1⟩ : ∃ w1, (wr.setCell ⟨w.heap.size, j, none⟩ (.bool (wordB j))).drew = w1 := ⟨_, rfl⟩
          have hs1 : SetB w1 w.heap.size (fun x => if x = j then (wordB j) else g x) := by rw [← hw1]; exact HS.out.put hlt (wordB j)
          have ht1 : Still w w1 := by rw [← hw1]; exact (HT.out.setCell (.inr (Nat.le_refl _)) _).drew
          have hy := hs1.cell hlt
          simp only [if_true] at hy
          obtain ⟨hy1, hy2⟩ := hy
          have HS2 := Lib.hid (SetB.keep (hs1.put hlt (!(wordB j))) ((Touch.refl (fun _ => False) _).drew) id)
          have HT2 : Hid (Still w (w1.setCell ⟨w.heap.size, j, none⟩ (.bool (!(wordB j)))).drew) := Lib.hid (ht1.setCell (.inr (Nat.le_refl _)) _).drew
          clear hs1 ht1
          go_wp2_with fail
          refine wp_region_still_tail 6 (by kernel_rfl) (by kernel_rfl) ?_
          simp only [List.take_succ_cons, List.take_zero, List.drop_succ_cons, List.drop_zero]
          repeat still_step
          still_call HW.out
          repeat still_step
          refine wpStill_nil ?_
          change wpList _ _ _ _ _ (World.drew _)
          go_wp2_with fail
          clear hw1
          go_still_tail 10, (by kernel_rfl)
          change wpList _ _ _ _ _ (World.drew _)
          go_wp2_with fail
          refine ⟨⟨j + 1, _, by go_num, by omega, HS2, Lib.hid ?_, HT2⟩, by simp [intOf]; omega⟩
          intro x hx
          by_cases e : x = j
          · subst e; rw [if_pos rfl]; skip
          · rw [if_neg e, if_neg e]; exact HG.out x (by omega)
        · have q1 : decide (48 ≤ (j : Int)) = true := by simp; omega
          have q2 : decide ((j : Int) ≤ 57) = false := by simp; omega
          obtain ⟨w1, hw1⟩ : ∃ w1, (wr.setCell ⟨w.heap.size, j, none⟩ (.bool (wordB j))).drew = w1 := ⟨_, rfl⟩
          have hs1 : SetB w1 w.heap.size (fun x => if x = j then (wordB j) else g x) := by rw [← hw1]; exact HS.out.put hlt (wordB j)
          have ht1 : Still w w1 := by rw [← hw1]; exact (HT.out.setCell (.inr (Nat.le_refl _)) _).drew
          have hy := hs1.cell hlt
          simp only [if_true] at hy
          obtain ⟨hy1, hy2⟩ := hy
          have HS2 := Lib.hid (SetB.keep (hs1.put hlt (!(wordB j))) ((Touch.refl (fun _ => False) _).drew) id)
          have HT2 : Hid (Still w (w1.setCell ⟨w.heap.size, j, none⟩ (.bool (!(wordB j)))).drew) := Lib.hid (ht1.setCell (.inr (Nat.le_refl _)) _).drew
          clear hs1 ht1
          go_wp2_with fail
          refine wp_region_still_tail 6 (by kernel_rfl) (by kernel_rfl) ?_
          simp only [List.take_succ_cons, List.take_zero, List.drop_succ_cons, List.drop_zero]
          repeat still_step
          still_call HW.out
          repeat still_step
          refine wpStill_nil ?_
          change wpList _ _ _ _ _ (World.drew _)
          go_wp2_with fail
          clear hw1
          go_still_tail 10, (by kernel_rfl)
          change wpList _ _ _ _ _ (World.drew _)
          go_wp2_with fail
          refine ⟨⟨j + 1, _, by go_num, by omega, HS2, Lib.hid ?_, HT2⟩, by simp [intOf]; omega⟩
          intro x hx
          by_cases e : x = j
          · subst e; rw [if_pos rfl]; skip
          · rw [if_neg e, if_neg e]; exact HG.out x (by omega)
      · have q1 : decide (48 ≤ (j : Int)) = false := by simp; omega
        obtain ⟨w1, hw1⟩ : ∃ w1, (wr.setCell ⟨w.heap.size, j, none⟩ (.bool (wordB j))).drew = w1 := ⟨_, rfl⟩
        have hs1 : SetB w1 w.heap.size (fun x => if x = j then (wordB j) else g x) := by rw [← hw1]; exact HS.out.put hlt (wordB j)
        have ht1 : Still w w1 := by rw [← hw1]; exact (HT.out.setCell (.inr (Nat.le_refl _)) _).drew
        have hy := hs1.cell hlt
        simp only [if_true] at hy
        obtain ⟨hy1, hy2⟩ := hy
        have HS2 := Lib.hid (SetB.keep (hs1.put hlt (!(wordB j))) ((Touch.refl (fun _ => False) _).drew) id)
        have HT2 : Hid (Still w (w1.setCell ⟨w.heap.size, j, none⟩ (.bool (!(wordB j)))).drew) := Lib.hid (ht1.setCell (.inr (Nat.le_refl _)) _).drew
        clear hs1 ht1
        go_wp2_with fail
        refine wp_region_still_tail 6 (by kernel_rfl) (by kernel_rfl) ?_
        simp only [List.take_succ_cons, List.take_zero, List.drop_succ_cons, List.drop_zero]
        repeat still_step
        still_call HW.out
        repeat still_step
        refine wpStill_nil ?_
        change wpList _ _ _ _ _ (World.drew _)
        go_wp2_with fail
        clear hw1
        go_still_tail 10, (by kernel_rfl)
        change wpList _ _ _ _ _ (World.drew _)
        go_wp2_with fail
        refine ⟨⟨j + 1, _, by go_num, by omega, HS2, Lib.hid ?_, HT2⟩, by simp [intOf]; omega⟩
        intro x hx
        by_cases e : x = j
        · subst e; rw [if_pos rfl]; skip
        · rw [if_neg e, if_neg e]; exact HG.out x (by omega)
    · obtain rfl : j = 256 := by omega
      go_wp2_with fail
      go_ret
      exact ⟨_, rfl, HS.out.congr (fun i hi => HG.out i hi), Nat.le_refl _, HT.out⟩

set_option maxRecDepth 100000 in
set_option maxHeartbeats 1000000 in
theorem named_s (w : World) :
    Calls Tryz.prog 116 #[.int .u8 115] w fun e w' => ∃ b, e = .returned (.pointer (some ⟨b, 0, none⟩)) ∧ SetB w' b (isSpc) ∧ w.heap.size ≤ b ∧ Still w w' := by
  go_enter Tryz.func116, Tryz.ntmps116
  go_wp2_with fail
  go_loopw [9] (fun i wr => ∃ (j : Nat) (g : Nat → Bool), i = .int .i64 j ∧ j ≤ 256 ∧ Hid (SetB wr w.heap.size g) ∧ Hid (∀ x, x < j → g x = (isSpc) x) ∧ Hid (Still w wr)) (fun i _ => 256 - (intOf i).toNat)
  case atStart => exact ⟨0, _, rfl, by omega, Lib.hid (SetB.made w _ _ zero_set), Lib.hid (fun x hx => by omega), Lib.hid ((Touch.refl _ _).alloc _)⟩
  case round =>
    obtain ⟨j, g, rfl, hj, HS, HG, HT⟩ := hrel
    by_cases hlt : j < 256
    · have hx := HS.out.cell hlt
      obtain ⟨hx1, hx2⟩ := hx
      have hw8 : IntKind.u8.wrap (j : Int) = (j : Int) := by unfold IntKind.wrap; simp [IntKind.signed, IntKind.bits]; omega
      by_cases h4 : 48 ≤ j
      · by_cases h5 : j ≤ 57
        · have p1 : decide (48 ≤ (j : Int)) = true := by simp; omega
          have p2 : decide ((j : Int) ≤ 57) = true := by simp; omega
          have q32 : ((j : Int) == 32) = false := by simp; omega
          have q9 : ((j : Int) == 9) = false := by simp; omega
          have q10 : ((j : Int) == 10) = false := by simp; omega
          have HS2 := Lib.hid (HS.out.put hlt (false))
          have HT2 : Hid (Still w (wr.setCell ⟨w.heap.size, j, none⟩ (.bool (false)))) := Lib.hid (HT.out.setCell (.inr (Nat.le_refl _)) _)
          go_wp2_with fail
          refine ⟨⟨j + 1, _, by go_num, by omega, HS2, Lib.hid ?_, HT2⟩, by simp [intOf]; omega⟩
          intro x hx
          by_cases e : x = j
          · subst e; rw [if_pos rfl]; simp [isSpc]; omega
          · rw [if_neg e]; exact HG.out x (by omega)
        · have p1 : decide (48 ≤ (j : Int)) = true := by simp; omega
          have p2 : decide ((j : Int) ≤ 57) = false := by simp; omega
          have q32 : ((j : Int) == 32) = false := by simp; omega
          have q9 : ((j : Int) == 9) = false := by simp; omega
          have q10 : ((j : Int) == 10) = false := by simp; omega
          have HS2 := Lib.hid (HS.out.put hlt (false))
          have HT2 : Hid (Still w (wr.setCell ⟨w.heap.size, j, none⟩ (.bool (false)))) := Lib.hid (HT.out.setCell (.inr (Nat.le_refl _)) _)
          go_wp2_with fail
          refine ⟨⟨j + 1, _, by go_num, by omega, HS2, Lib.hid ?_, HT2⟩, by simp [intOf]; omega⟩
          intro x hx
          by_cases e : x = j
          · subst e; rw [if_pos rfl]; simp [isSpc]; omega
          · rw [if_neg e]; exact HG.out x (by omega)
      · by_cases h1 : j = 32
        · have p1 : decide (48 ≤ (j : Int)) = false := by simp; omega
          have q32 : ((j : Int) == 32) = true := by simp; omega
          have H1 := Lib.hid h1; clear h1
          have HS2 := Lib.hid (HS.out.put hlt (true))
          have HT2 : Hid (Still w (wr.setCell ⟨w.heap.size, j, none⟩ (.bool (true)))) := Lib.hid (HT.out.setCell (.inr (Nat.le_refl _)) _)
          go_wp2_with fail
          refine ⟨⟨j + 1, _, by go_num, by omega, HS2, Lib.hid ?_, HT2⟩, by simp [intOf]; omega⟩
          intro x hx
          by_cases e : x = j
          · subst e; rw [if_pos rfl]; have e9 := H1.out; subst e9; decide
          · rw [if_neg e]; exact HG.out x (by omega)
        · by_cases h2 : j = 9
          · have p1 : decide (48 ≤ (j : Int)) = false := by simp; omega
            have q32 : ((j : Int) == 32) = false := by simp; omega
            have q9 : ((j : Int) == 9) = true := by simp; omega
            have H2 := Lib.hid h2; clear h2
            have HS2 := Lib.hid (HS.out.put hlt (true))
            have HT2 : Hid (Still w (wr.setCell ⟨w.heap.size, j, none⟩ (.bool (true)))) := Lib.hid (HT.out.setCell (.inr (Nat.le_refl _)) _)
            go_wp2_with fail
            refine ⟨⟨j + 1, _, by go_num, by omega, HS2, Lib.hid ?_, HT2⟩, by simp [intOf]; omega⟩
            intro x hx
            by_cases e : x = j
            · subst e; rw [if_pos rfl]; have e9 := H2.out; subst e9; decide
            · rw [if_neg e]; exact HG.out x (by omega)
          · by_cases h3 : j = 10
            · have p1 : decide (48 ≤ (j : Int)) = false := by simp; omega
              have q32 : ((j : Int) == 32) = false := by simp; omega
              have q9 : ((j : Int) == 9) = false := by simp; omega
              have q10 : ((j : Int) == 10) = true := by simp; omega
              have H3 := Lib.hid h3; clear h3
              have HS2 := Lib.hid (HS.out.put hlt (true))
              have HT2 : Hid (Still w (wr.setCell ⟨w.heap.size, j, none⟩ (.bool (true)))) := Lib.hid (HT.out.setCell (.inr (Nat.le_refl _)) _)
              go_wp2_with fail
              refine ⟨⟨j + 1, _, by go_num, by omega, HS2, Lib.hid ?_, HT2⟩, by simp [intOf]; omega⟩
              intro x hx
              by_cases e : x = j
              · subst e; rw [if_pos rfl]; have e9 := H3.out; subst e9; decide
              · rw [if_neg e]; exact HG.out x (by omega)
            · have p1 : decide (48 ≤ (j : Int)) = false := by simp; omega
              have q32 : ((j : Int) == 32) = false := by simp; omega
              have q9 : ((j : Int) == 9) = false := by simp; omega
              have q10 : ((j : Int) == 10) = false := by simp; omega
              have HS2 := Lib.hid (HS.out.put hlt (false))
              have HT2 : Hid (Still w (wr.setCell ⟨w.heap.size, j, none⟩ (.bool (false)))) := Lib.hid (HT.out.setCell (.inr (Nat.le_refl _)) _)
              go_wp2_with fail
              refine ⟨⟨j + 1, _, by go_num, by omega, HS2, Lib.hid ?_, HT2⟩, by simp [intOf]; omega⟩
              intro x hx
              by_cases e : x = j
              · subst e; rw [if_pos rfl]; simp [isSpc]; omega
              · rw [if_neg e]; exact HG.out x (by omega)
    · obtain rfl : j = 256 := by omega
      go_wp2_with fail
      go_ret
      exact ⟨_, rfl, HS.out.congr (fun i hi => HG.out i hi), Nat.le_refl _, HT.out⟩

set_option maxRecDepth 100000 in
set_option maxHeartbeats 1000000 in
theorem named_S (w : World) :
    Calls Tryz.prog 116 #[.int .u8 83] w fun e w' => ∃ b, e = .returned (.pointer (some ⟨b, 0, none⟩)) ∧ SetB w' b (fun x => !isSpc x) ∧ w.heap.size ≤ b ∧ Still w w' := by
  go_enter Tryz.func116, Tryz.ntmps116
  go_wp2_with fail
  go_loopw [9] (fun i wr => ∃ (j : Nat) (g : Nat → Bool), i = .int .i64 j ∧ j ≤ 256 ∧ Hid (SetB wr w.heap.size g) ∧ Hid (∀ x, x < j → g x = (fun x => !isSpc x) x) ∧ Hid (Still w wr)) (fun i _ => 256 - (intOf i).toNat)
  case atStart => exact ⟨0, _, rfl, by omega, Lib.hid (SetB.made w _ _ zero_set), Lib.hid (fun x hx => by omega), Lib.hid ((Touch.refl _ _).alloc _)⟩
  case round =>
    obtain ⟨j, g, rfl, hj, HS, HG, HT⟩ := hrel
    by_cases hlt : j < 256
    · have hx := HS.out.cell hlt
      obtain ⟨hx1, hx2⟩ := hx
      have hw8 : IntKind.u8.wrap (j : Int) = (j : Int) := by unfold IntKind.wrap; simp [IntKind.signed, IntKind.bits]; omega
      by_cases h4 : 48 ≤ j
      · by_cases h5 : j ≤ 57
        · have p1 : decide (48 ≤ (j : Int)) = true := by simp; omega
          have p2 : decide ((j : Int) ≤ 57) = true := by simp; omega
          have q32 : ((j : Int) == 32) = false := by simp; omega
          have q9 : ((j : Int) == 9) = false := by simp; omega
          have q10 : ((j : Int) == 10) = false := by simp; omega
          obtain ⟨w1, hw1⟩ : ∃ w1, (wr.setCell ⟨w.heap.size, j, none⟩ (.bool (false))) = w1 := ⟨_, rfl⟩
          have hs1 : SetB w1 w.heap.size (fun x => if x = j then (false) else g x) := by rw [← hw1]; exact HS.out.put hlt (false)
          have ht1 : Still w w1 := by rw [← hw1]; exact (HT.out.setCell (.inr (Nat.le_refl _)) _)
          have hy := hs1.cell hlt
          simp only [if_true] at hy
          obtain ⟨hy1, hy2⟩ := hy
          have HS2 := Lib.hid (SetB.keep (hs1.put hlt (!(false))) ((Touch.refl (fun _ => False) _).drew) id)
          have HT2 : Hid (Still w (w1.setCell ⟨w.heap.size, j, none⟩ (.bool (!(false)))).drew) := Lib.hid (ht1.setCell (.inr (Nat.le_refl _)) _).drew
          clear hs1 ht1
          go_wp2_with fail
          clear hw1
          go_still_tail 10, (by kernel_rfl)
          change wpList _ _ _ _ _ (World.drew _)
          go_wp2_with fail
          refine ⟨⟨j + 1, _, by go_num, by omega, HS2, Lib.hid ?_, HT2⟩, by simp [intOf]; omega⟩
          intro x hx
          by_cases e : x = j
          · subst e; rw [if_pos rfl]; simp [isSpc]; omega
          · rw [if_neg e, if_neg e]; exact HG.out x (by omega)
        · have p1 : decide (48 ≤ (j : Int)) = true := by simp; omega
          have p2 : decide ((j : Int) ≤ 57) = false := by simp; omega
          have q32 : ((j : Int) == 32) = false := by simp; omega
          have q9 : ((j : Int) == 9) = false := by simp; omega
          have q10 : ((j : Int) == 10) = false := by simp; omega
          obtain ⟨w1, hw1⟩ : ∃ w1, (wr.setCell ⟨w.heap.size, j, none⟩ (.bool (false))) = w1 := ⟨_, rfl⟩
          have hs1 : SetB w1 w.heap.size (fun x => if x = j then (false) else g x) := by rw [← hw1]; exact HS.out.put hlt (false)
          have ht1 : Still w w1 := by rw [← hw1]; exact (HT.out.setCell (.inr (Nat.le_refl _)) _)
          have hy := hs1.cell hlt
          simp only [if_true] at hy
          obtain ⟨hy1, hy2⟩ := hy
          have HS2 := Lib.hid (SetB.keep (hs1.put hlt (!(false))) ((Touch.refl (fun _ => False) _).drew) id)
          have HT2 : Hid (Still w (w1.setCell ⟨w.heap.size, j, none⟩ (.bool (!(false)))).drew) := Lib.hid (ht1.setCell (.inr (Nat.le_refl _)) _).drew
          clear hs1 ht1
          go_wp2_with fail
          clear hw1
          go_still_tail 10, (by kernel_rfl)
          change wpList _ _ _ _ _ (World.drew _)
          go_wp2_with fail
          refine ⟨⟨j + 1, _, by go_num, by omega, HS2, Lib.hid ?_, HT2⟩, by simp [intOf]; omega⟩
          intro x hx
          by_cases e : x = j
          · subst e; rw [if_pos rfl]; simp [isSpc]; omega
          · rw [if_neg e, if_neg e]; exact HG.out x (by omega)
      · by_cases h1 : j = 32
        · have p1 : decide (48 ≤ (j : Int)) = false := by simp; omega
          have q32 : ((j : Int) == 32) = true := by simp; omega
          have H1 := Lib.hid h1; clear h1
          obtain ⟨w1, hw1⟩ : ∃ w1, (wr.setCell ⟨w.heap.size, j, none⟩ (.bool (true))) = w1 := ⟨_, rfl⟩
          have hs1 : SetB w1 w.heap.size (fun x => if x = j then (true) else g x) := by rw [← hw1]; exact HS.out.put hlt (true)
          have ht1 : Still w w1 := by rw [← hw1]; exact (HT.out.setCell (.inr (Nat.le_refl _)) _)
          have hy := hs1.cell hlt
          simp only [if_true] at hy
          obtain ⟨hy1, hy2⟩ := hy
          have HS2 := Lib.hid (SetB.keep (hs1.put hlt (!(true))) ((Touch.refl (fun _ => False) _).drew) id)
          have HT2 : Hid (Still w (w1.setCell ⟨w.heap.size, j, none⟩ (.bool (!(true)))).drew) := Lib.hid (ht1.setCell (.inr (Nat.le_refl _)) _).drew
          clear hs1 ht1
          go_wp2_with fail
          clear hw1
          go_still_tail 10, (by kernel_rfl)
          change wpList _ _ _ _ _ (World.drew _)
          go_wp2_with fail
          refine ⟨⟨j + 1, _, by go_num, by omega, HS2, Lib.hid ?_, HT2⟩, by simp [intOf]; omega⟩
          intro x hx
          by_cases e : x = j
          · subst e; rw [if_pos rfl]; have e9 := H1.out; subst e9; decide
          · rw [if_neg e, if_neg e]; exact HG.out x (by omega)
        · by_cases h2 : j = 9
          · have p1 : decide (48 ≤ (j : Int)) = false := by simp; omega
            have q32 : ((j : Int) == 32) = false := by simp; omega
            have q9 : ((j : Int) == 9) = true := by simp; omega
            have H2 := Lib.hid h2; clear h2
            obtain ⟨w1, hw1⟩ : ∃ w1, (wr.setCell ⟨w.heap.size, j, none⟩ (.bool (true))) = w1 := ⟨_, rfl⟩
            have hs1 : SetB w1 w.heap.size (fun x => if x = j then (true) else g x) := by rw [← hw1]; exact HS.out.put hlt (true)
            have ht1 : Still w w1 := by rw [← hw1]; exact (HT.out.setCell (.inr (Nat.le_refl _)) _)
            have hy := hs1.cell hlt
            simp only [if_true] at hy
            obtain ⟨hy1, hy2⟩ := hy
            have HS2 := Lib.hid (SetB.keep (hs1.put hlt (!(true))) ((Touch.refl (fun _ => False) _).drew) id)
            have HT2 : Hid (Still w (w1.setCell ⟨w.heap.size, j, none⟩ (.bool (!(true)))).drew) := Lib.hid (ht1.setCell (.inr (Nat.le_refl _)) _).drew
            clear hs1 ht1
            go_wp2_with fail
            clear hw1
            go_still_tail 10, (by kernel_rfl)
            change wpList _ _ _ _ _ (World.drew _)
            go_wp2_with fail
            refine ⟨⟨j + 1, _, by go_num, by omega, HS2, Lib.hid ?_, HT2⟩, by simp [intOf]; omega⟩
            intro x hx
            by_cases e : x = j
            · subst e; rw [if_pos rfl]; have e9 := H2.out; subst e9; decide
            · rw [if_neg e, if_neg e]; exact HG.out x (by omega)
          · by_cases h3 : j = 10
            · have p1 : decide (48 ≤ (j : Int)) = false := by simp; omega
              have q32 : ((j : Int) == 32) = false := by simp; omega
              have q9 : ((j : Int) == 9) = false := by simp; omega
              have q10 : ((j : Int) == 10) = true := by simp; omega
              have H3 := Lib.hid h3; clear h3
              obtain ⟨w1, hw1⟩ : ∃ w1, (wr.setCell ⟨w.heap.size, j, none⟩ (.bool (true))) = w1 := ⟨_, rfl⟩
              have hs1 : SetB w1 w.heap.size (fun x => if x = j then (true) else g x) := by rw [← hw1]; exact HS.out.put hlt (true)
              have ht1 : Still w w1 := by rw [← hw1]; exact (HT.out.setCell (.inr (Nat.le_refl _)) _)
              have hy := hs1.cell hlt
              simp only [if_true] at hy
              obtain ⟨hy1, hy2⟩ := hy
              have HS2 := Lib.hid (SetB.keep (hs1.put hlt (!(true))) ((Touch.refl (fun _ => False) _).drew) id)
              have HT2 : Hid (Still w (w1.setCell ⟨w.heap.size, j, none⟩ (.bool (!(true)))).drew) := Lib.hid (ht1.setCell (.inr (Nat.le_refl _)) _).drew
              clear hs1 ht1
              go_wp2_with fail
              clear hw1
              go_still_tail 10, (by kernel_rfl)
              change wpList _ _ _ _ _ (World.drew _)
              go_wp2_with fail
              refine ⟨⟨j + 1, _, by go_num, by omega, HS2, Lib.hid ?_, HT2⟩, by simp [intOf]; omega⟩
              intro x hx
              by_cases e : x = j
              · subst e; rw [if_pos rfl]; have e9 := H3.out; subst e9; decide
              · rw [if_neg e, if_neg e]; exact HG.out x (by omega)
            · have p1 : decide (48 ≤ (j : Int)) = false := by simp; omega
              have q32 : ((j : Int) == 32) = false := by simp; omega
              have q9 : ((j : Int) == 9) = false := by simp; omega
              have q10 : ((j : Int) == 10) = false := by simp; omega
              obtain ⟨w1, hw1⟩ : ∃ w1, (wr.setCell ⟨w.heap.size, j, none⟩ (.bool (false))) = w1 := ⟨_, rfl⟩
              have hs1 : SetB w1 w.heap.size (fun x => if x = j then (false) else g x) := by rw [← hw1]; exact HS.out.put hlt (false)
              have ht1 : Still w w1 := by rw [← hw1]; exact (HT.out.setCell (.inr (Nat.le_refl _)) _)
              have hy := hs1.cell hlt
              simp only [if_true] at hy
              obtain ⟨hy1, hy2⟩ := hy
              have HS2 := Lib.hid (SetB.keep (hs1.put hlt (!(false))) ((Touch.refl (fun _ => False) _).drew) id)
              have HT2 : Hid (Still w (w1.setCell ⟨w.heap.size, j, none⟩ (.bool (!(false)))).drew) := Lib.hid (ht1.setCell (.inr (Nat.le_refl _)) _).drew
              clear hs1 ht1
              go_wp2_with fail
              clear hw1
              go_still_tail 10, (by kernel_rfl)
              change wpList _ _ _ _ _ (World.drew _)
              go_wp2_with fail
              refine ⟨⟨j + 1, _, by go_num, by omega, HS2, Lib.hid ?_, HT2⟩, by simp [intOf]; omega⟩
              intro x hx
              by_cases e : x = j
              · subst e; rw [if_pos rfl]; simp [isSpc]; omega
              · rw [if_neg e, if_neg e]; exact HG.out x (by omega)
    · obtain rfl : j = 256 := by omega
      go_wp2_with fail
      go_ret
      exact ⟨_, rfl, HS.out.congr (fun i hi => HG.out i hi), Nat.le_refl _, HT.out⟩
end Go.Proofs.YtlgpilcjcomacaaGreat

/-
  The program's reader: times, plain.
-/
namespace Go.Proofs.YtlgpilcjcomacaaGreat
open Go.RowKit Rx
set_option linter.unusedVariables false

/-- What comes back of how often. -/
def TimesPost (br : Nat) (s : ByteArray) (deep : Nat) (st : PS) (w : World) : Option (Option (Nat × Int) × Nat) → Ending → World → Prop
  | none, e, w' => e = bad ∧ Touch (fun b => b = br) w w'
  | some (none, j), e, w' => e = .returned (.tuple #[.int .i64 0, .int .i64 0, .bool false]) ∧ RS br s deep st w' ∧ Touch (fun b => b = br) w w'
  | some (some (lo, hi), j), e, w' => e = .returned (.tuple #[.int .i64 (lo : Int), .int .i64 hi, .bool true]) ∧ RS br s deep { st with pos := j } w' ∧ Touch (fun b => b = br) w w' ∧ lo ≤ 100 ∧ -1 ≤ hi ∧ hi ≤ 100 ∧ st.pos < j

theorem tk_no {br : Nat} {s t : ByteArray} {deep : Nat} {st : PS} {w : World} (h : RS br s deep st w) (ht : tk (str s) st.pos (str t) = false) :
    Calls Tryz.prog 82 #[.pointer (some ⟨br, 0, none⟩), .string t] w fun e w' => e = .returned (.bool false) ∧ RS br s deep st w' ∧ Touch (fun b => b = br) w w' :=
  (take_no br s t deep st w h ht).mono fun e w' ⟨he, q, hq⟩ => ⟨he, by subst hq; exact h.drewN q, by subst hq; exact still_drewN _ _⟩

theorem tk_of_pk {s : List UInt8} {i : Nat} {c : UInt8} (h : pk s i = c.toNat) (hc : c.toNat ≠ 0) : tk s i [c] = true := by
  unfold pk byteAt at h
  unfold tk
  cases hq : s[i]? with
  | none => rw [hq] at h; simp at h; exact absurd h.symm hc
  | some d =>
    rw [hq] at h
    obtain ⟨hl, hd⟩ := List.getElem?_eq_some_iff.1 hq
    rw [List.drop_eq_getElem_cons hl, hd]
    simp at h
    have : d = c := UInt8.toNat_inj.1 h
    subst this
    simp [List.isPrefixOf]

set_option maxRecDepth 100000 in
set_option maxHeartbeats 8000000 in
theorem times_parse (br : Nat) (s : ByteArray) (deep : Nat) (st : PS) (w : World) (h : RS br s deep st w) :
    Calls Tryz.prog 95 #[.pointer (some ⟨br, 0, none⟩)] w (TimesPost br s deep st w (timesP (str s) st.pos)) := by
  have HH := Lib.hid h; clear h
  have HTT : Hid (Touch (fun b => b = br) w w) := Lib.hid (Touch.refl _ _)
  by_cases c1 : tk (str s) st.pos [42] = true
  · have HC1 := Lib.hid c1
    have HR : Hid (timesP (str s) st.pos = some (some (0, -1), st.pos + 1)) := Lib.hid (by unfold timesP; rw [if_pos HC1.out])
    clear c1
    go_enter Tryz.func95, Tryz.ntmps95
    go_wp2_with fail
    refine (take_yes br s ⟨#[42]⟩ deep _ _ HH.out HC1.out (by decide)).mono ?_
    rintro e wy ⟨rfl, hrs, ht⟩
    have HRSy := Lib.hid hrs
    have HTy := Lib.hid (HTT.out.then ht)
    clear hrs ht
    go_wp2_with fail
    go_ret3
    rw [HR.out]
    exact ⟨rfl, HRSy.out, HTy.out, by decide, by decide, by decide, Nat.lt_succ_self _⟩
  · have D1 : Hid (tk (str s) st.pos [42] = false) := Lib.hid (by simpa using c1)
    clear c1
    by_cases c2 : tk (str s) st.pos [43] = true
    · have HC2 := Lib.hid c2
      have HR : Hid (timesP (str s) st.pos = some (some (1, -1), st.pos + 1)) := Lib.hid (by unfold timesP; rw [if_neg (by rw [D1.out]; decide), if_pos HC2.out])
      clear c2
      go_enter Tryz.func95, Tryz.ntmps95
      go_wp2_with fail
      refine (tk_no (t := ⟨#[42]⟩) HH.out D1.out).mono ?_
      rintro e w1 ⟨rfl, hrs, ht⟩
      have HRS1 := Lib.hid hrs
      have HT1 := Lib.hid (HTT.out.then ht)
      clear hrs ht
      go_wp2_with fail
      refine (take_yes br s ⟨#[43]⟩ deep _ _ HRS1.out HC2.out (by decide)).mono ?_
      rintro e wy ⟨rfl, hrs, ht⟩
      have HRSy := Lib.hid hrs
      have HTy := Lib.hid (HT1.out.then ht)
      clear hrs ht
      go_wp2_with fail
      go_ret3
      rw [HR.out]
      exact ⟨rfl, HRSy.out, HTy.out, by decide, by decide, by decide, Nat.lt_succ_self _⟩
    · have D2 : Hid (tk (str s) st.pos [43] = false) := Lib.hid (by simpa using c2)
      clear c2
      by_cases c3 : tk (str s) st.pos [63] = true
      · have HC3 := Lib.hid c3
        have HR : Hid (timesP (str s) st.pos = some (some (0, 1), st.pos + 1)) := Lib.hid (by unfold timesP; rw [if_neg (by rw [D1.out]; decide), if_neg (by rw [D2.out]; decide), if_pos HC3.out])
        clear c3
        go_enter Tryz.func95, Tryz.ntmps95
        go_wp2_with fail
        refine (tk_no (t := ⟨#[42]⟩) HH.out D1.out).mono ?_
        rintro e w1 ⟨rfl, hrs, ht⟩
        have HRS1 := Lib.hid hrs
        have HT1 := Lib.hid (HTT.out.then ht)
        clear hrs ht
        go_wp2_with fail
        refine (tk_no (t := ⟨#[43]⟩) HRS1.out D2.out).mono ?_
        rintro e w2 ⟨rfl, hrs, ht⟩
        have HRS2 := Lib.hid hrs
        have HT2 := Lib.hid (HT1.out.then ht)
        clear hrs ht
        go_wp2_with fail
        refine (take_yes br s ⟨#[63]⟩ deep _ _ HRS2.out HC3.out (by decide)).mono ?_
        rintro e wy ⟨rfl, hrs, ht⟩
        have HRSy := Lib.hid hrs
        have HTy := Lib.hid (HT2.out.then ht)
        clear hrs ht
        go_wp2_with fail
        go_ret3
        rw [HR.out]
        exact ⟨rfl, HRSy.out, HTy.out, by decide, by decide, by decide, Nat.lt_succ_self _⟩
      · have D3 : Hid (tk (str s) st.pos [63] = false) := Lib.hid (by simpa using c3)
        clear c3
        by_cases c4 : tk (str s) st.pos [123] = true
        · have HC4 := Lib.hid c4
          have HR0 : timesP (str s) st.pos = match numP (str s) (st.pos + 1) with
              | none => none
              | some (lo, j) =>
                if tk (str s) j [44] = true then
                  if pk (str s) (j + 1) = 125 then some (some (lo, -1), j + 2)
                  else match numP (str s) (j + 1) with
                    | none => none
                    | some (hi, k) => if tk (str s) k [125] = true ∧ lo ≤ hi then some (some (lo, (hi : Int)), k + 1) else none
                else if tk (str s) j [125] = true then some (some (lo, (lo : Int)), j + 1) else none := by
            unfold timesP; rw [if_neg (by rw [D1.out]; decide), if_neg (by rw [D2.out]; decide), if_neg (by rw [D3.out]; decide), if_pos HC4.out]; rfl
          clear c4
          cases hn : numP (str s) (st.pos + 1) with
          | none =>
            have HR : Hid (timesP (str s) st.pos = none) := Lib.hid (by rw [HR0, hn])
            clear HR0
            have HN := Lib.hid hn; clear hn
            go_enter Tryz.func95, Tryz.ntmps95
            go_wp2_with fail
            refine (tk_no (t := ⟨#[42]⟩) HH.out D1.out).mono ?_
            rintro e w1 ⟨rfl, hrs, ht⟩
            have HRS1 := Lib.hid hrs
            have HT1 := Lib.hid (HTT.out.then ht)
            clear hrs ht
            go_wp2_with fail
            refine (tk_no (t := ⟨#[43]⟩) HRS1.out D2.out).mono ?_
            rintro e w2 ⟨rfl, hrs, ht⟩
            have HRS2 := Lib.hid hrs
            have HT2 := Lib.hid (HT1.out.then ht)
            clear hrs ht
            go_wp2_with fail
            refine (tk_no (t := ⟨#[63]⟩) HRS2.out D3.out).mono ?_
            rintro e w3 ⟨rfl, hrs, ht⟩
            have HRS3 := Lib.hid hrs
            have HT3 := Lib.hid (HT2.out.then ht)
            clear hrs ht
            go_wp2_with fail
            refine (take_yes br s ⟨#[123]⟩ deep _ _ HRS3.out HC4.out (by decide)).mono ?_
            rintro e w4 ⟨rfl, hrs, ht⟩
            have HRS4 := Lib.hid hrs
            have HT4 := Lib.hid (HT3.out.then ht)
            clear hrs ht
            go_wp2_with fail
            refine (number_any br s deep _ _ HRS4.out).mono ?_
            intro e w5 hG
            rw [show numP (str s) (({ st with pos := st.pos + (⟨#[123]⟩ : ByteArray).size } : PS).pos) = none from HN.out] at hG
            obtain ⟨rfl, ht⟩ := hG
            refine ⟨rfl, ?_⟩
            rw [HR.out]
            exact ⟨rfl, HT4.out.then ht⟩
          | some p =>
            obtain ⟨lo, j⟩ := p
            have HN := Lib.hid hn
            rw [hn] at HR0
            clear hn
            simp only at HR0
            by_cases c5 : tk (str s) j [44] = true
            · have HC5 := Lib.hid c5
              rw [if_pos c5] at HR0
              clear c5
              by_cases c6 : pk (str s) (j + 1) = 125
              · have HC6 := Lib.hid c6
                have HR : Hid (timesP (str s) st.pos = some (some (lo, -1), j + 2)) := Lib.hid (by rw [HR0, if_pos c6])
                clear HR0 c6
                have HTK : Hid (tk (str s) (j + 1) [125] = true) := Lib.hid (tk_of_pk HC6.out (by decide))
                go_enter Tryz.func95, Tryz.ntmps95
                go_wp2_with fail
                refine (tk_no (t := ⟨#[42]⟩) HH.out D1.out).mono ?_
                rintro e w1 ⟨rfl, hrs, ht⟩
                have HRS1 := Lib.hid hrs
                have HT1 := Lib.hid (HTT.out.then ht)
                clear hrs ht
                go_wp2_with fail
                refine (tk_no (t := ⟨#[43]⟩) HRS1.out D2.out).mono ?_
                rintro e w2 ⟨rfl, hrs, ht⟩
                have HRS2 := Lib.hid hrs
                have HT2 := Lib.hid (HT1.out.then ht)
                clear hrs ht
                go_wp2_with fail
                refine (tk_no (t := ⟨#[63]⟩) HRS2.out D3.out).mono ?_
                rintro e w3 ⟨rfl, hrs, ht⟩
                have HRS3 := Lib.hid hrs
                have HT3 := Lib.hid (HT2.out.then ht)
                clear hrs ht
                go_wp2_with fail
                refine (take_yes br s ⟨#[123]⟩ deep _ _ HRS3.out HC4.out (by decide)).mono ?_
                rintro e w4 ⟨rfl, hrs, ht⟩
                have HRS4 := Lib.hid hrs
                have HT4 := Lib.hid (HT3.out.then ht)
                clear hrs ht
                go_wp2_with fail
                refine (number_any br s deep _ _ HRS4.out).mono ?_
                intro e w5 hG
                rw [show numP (str s) (({ st with pos := st.pos + (⟨#[123]⟩ : ByteArray).size } : PS).pos) = some (lo, j) from HN.out] at hG
                obtain ⟨rfl, hrs, ht, hlo, hjj⟩ := hG
                have HRS5 := Lib.hid hrs
                have HT5 := Lib.hid (HT4.out.then ht)
                have hjj : st.pos + 1 < j := hjj
                clear hrs ht
                go_wp2_with fail
                refine (take_yes br s ⟨#[44]⟩ deep _ _ HRS5.out HC5.out (by decide)).mono ?_
                rintro e w6 ⟨rfl, hrs, ht⟩
                have HRS6 := Lib.hid hrs
                have HT6 := Lib.hid (HT5.out.then ht)
                clear hrs ht
                go_wp2_with fail
                refine (peek_rs br s deep _ _ HRS6.out).mono ?_
                rintro e w7 ⟨he, hrs, ht⟩
                rw [show pk (str s) (({ st with pos := j + (⟨#[44]⟩ : ByteArray).size } : PS).pos) = 125 from HC6.out] at he
                subst he
                have HRS7 := Lib.hid hrs
                have HT7 := Lib.hid (HT6.out.then (ht.mono (fun _ _ e => e.elim)))
                clear hrs ht
                go_wp2_with fail
                refine (take_yes br s ⟨#[125]⟩ deep _ _ HRS7.out HTK.out (by decide)).mono ?_
                rintro e w8 ⟨rfl, hrs, ht⟩
                have HRS8 := Lib.hid hrs
                have HT8 := Lib.hid (HT7.out.then ht)
                clear hrs ht
                go_wp2_with fail
                go_ret3
                rw [HR.out]
                exact ⟨rfl, HRS8.out, HT8.out, hlo, by decide, by decide, by omega⟩
              · have HC6 := Lib.hid c6
                rw [if_neg c6] at HR0
                clear c6
                obtain ⟨c, hc⟩ : ∃ c, pk (str s) (j + 1) = c := ⟨_, rfl⟩
                have hcb : ((c : Int) != 125) = true := by have := HC6.out; rw [hc] at this; simp; omega
                have HCC := Lib.hid hc
                clear hc
                cases hn2 : numP (str s) (j + 1) with
                | none =>
                  have HR : Hid (timesP (str s) st.pos = none) := Lib.hid (by rw [HR0, hn2])
                  have HN2 := Lib.hid hn2
                  clear HR0 hn2
                  go_enter Tryz.func95, Tryz.ntmps95
                  go_wp2_with fail
                  refine (tk_no (t := ⟨#[42]⟩) HH.out D1.out).mono ?_
                  rintro e w1 ⟨rfl, hrs, ht⟩
                  have HRS1 := Lib.hid hrs
                  have HT1 := Lib.hid (HTT.out.then ht)
                  clear hrs ht
                  go_wp2_with fail
                  refine (tk_no (t := ⟨#[43]⟩) HRS1.out D2.out).mono ?_
                  rintro e w2 ⟨rfl, hrs, ht⟩
                  have HRS2 := Lib.hid hrs
                  have HT2 := Lib.hid (HT1.out.then ht)
                  clear hrs ht
                  go_wp2_with fail
                  refine (tk_no (t := ⟨#[63]⟩) HRS2.out D3.out).mono ?_
                  rintro e w3 ⟨rfl, hrs, ht⟩
                  have HRS3 := Lib.hid hrs
                  have HT3 := Lib.hid (HT2.out.then ht)
                  clear hrs ht
                  go_wp2_with fail
                  refine (take_yes br s ⟨#[123]⟩ deep _ _ HRS3.out HC4.out (by decide)).mono ?_
                  rintro e w4 ⟨rfl, hrs, ht⟩
                  have HRS4 := Lib.hid hrs
                  have HT4 := Lib.hid (HT3.out.then ht)
                  clear hrs ht
                  go_wp2_with fail
                  refine (number_any br s deep _ _ HRS4.out).mono ?_
                  intro e w5 hG
                  rw [show numP (str s) (({ st with pos := st.pos + (⟨#[123]⟩ : ByteArray).size } : PS).pos) = some (lo, j) from HN.out] at hG
                  obtain ⟨rfl, hrs, ht, hlo, hjj⟩ := hG
                  have HRS5 := Lib.hid hrs
                  have HT5 := Lib.hid (HT4.out.then ht)
                  have hjj : st.pos + 1 < j := hjj
                  clear hrs ht
                  go_wp2_with fail
                  refine (take_yes br s ⟨#[44]⟩ deep _ _ HRS5.out HC5.out (by decide)).mono ?_
                  rintro e w6 ⟨rfl, hrs, ht⟩
                  have HRS6 := Lib.hid hrs
                  have HT6 := Lib.hid (HT5.out.then ht)
                  clear hrs ht
                  go_wp2_with fail
                  refine (peek_rs br s deep _ _ HRS6.out).mono ?_
                  rintro e w7 ⟨he, hrs, ht⟩
                  rw [show pk (str s) (({ st with pos := j + (⟨#[44]⟩ : ByteArray).size } : PS).pos) = c from HCC.out] at he
                  subst he
                  have HRS7 := Lib.hid hrs
                  have HT7 := Lib.hid (HT6.out.then (ht.mono (fun _ _ e => e.elim)))
                  clear hrs ht
                  go_wp2_with fail
                  refine (number_any br s deep _ _ HRS7.out).mono ?_
                  intro e w8 hG
                  rw [show numP (str s) (({ st with pos := j + (⟨#[44]⟩ : ByteArray).size } : PS).pos) = none from HN2.out] at hG
                  obtain ⟨rfl, ht⟩ := hG
                  refine ⟨rfl, ?_⟩
                  rw [HR.out]
                  exact ⟨rfl, HT7.out.then ht⟩
                | some p2 =>
                  obtain ⟨hi, k⟩ := p2
                  have HN2 := Lib.hid hn2
                  rw [hn2] at HR0
                  clear hn2
                  simp only at HR0
                  by_cases c7 : tk (str s) k [125] = true
                  · have HC7 := Lib.hid c7
                    by_cases c8 : lo ≤ hi
                    · have HR : Hid (timesP (str s) st.pos = some (some (lo, (hi : Int)), k + 1)) := Lib.hid (by rw [HR0, if_pos ⟨c7, c8⟩])
                      clear HR0 c7
                      have q1 : decide ((hi : Int) < (lo : Int)) = false := by simp; omega
                      have q2 : ((hi : Int) != (-1)) = true := by rw [bne_iff_ne]; omega
                      go_enter Tryz.func95, Tryz.ntmps95
                      go_wp2_with fail
                      refine (tk_no (t := ⟨#[42]⟩) HH.out D1.out).mono ?_
                      rintro e w1 ⟨rfl, hrs, ht⟩
                      have HRS1 := Lib.hid hrs
                      have HT1 := Lib.hid (HTT.out.then ht)
                      clear hrs ht
                      go_wp2_with fail
                      refine (tk_no (t := ⟨#[43]⟩) HRS1.out D2.out).mono ?_
                      rintro e w2 ⟨rfl, hrs, ht⟩
                      have HRS2 := Lib.hid hrs
                      have HT2 := Lib.hid (HT1.out.then ht)
                      clear hrs ht
                      go_wp2_with fail
                      refine (tk_no (t := ⟨#[63]⟩) HRS2.out D3.out).mono ?_
                      rintro e w3 ⟨rfl, hrs, ht⟩
                      have HRS3 := Lib.hid hrs
                      have HT3 := Lib.hid (HT2.out.then ht)
                      clear hrs ht
                      go_wp2_with fail
                      refine (take_yes br s ⟨#[123]⟩ deep _ _ HRS3.out HC4.out (by decide)).mono ?_
                      rintro e w4 ⟨rfl, hrs, ht⟩
                      have HRS4 := Lib.hid hrs
                      have HT4 := Lib.hid (HT3.out.then ht)
                      clear hrs ht
                      go_wp2_with fail
                      refine (number_any br s deep _ _ HRS4.out).mono ?_
                      intro e w5 hG
                      rw [show numP (str s) (({ st with pos := st.pos + (⟨#[123]⟩ : ByteArray).size } : PS).pos) = some (lo, j) from HN.out] at hG
                      obtain ⟨rfl, hrs, ht, hlo, hjj⟩ := hG
                      have HRS5 := Lib.hid hrs
                      have HT5 := Lib.hid (HT4.out.then ht)
                      have hjj : st.pos + 1 < j := hjj
                      clear hrs ht
                      go_wp2_with fail
                      refine (take_yes br s ⟨#[44]⟩ deep _ _ HRS5.out HC5.out (by decide)).mono ?_
                      rintro e w6 ⟨rfl, hrs, ht⟩
                      have HRS6 := Lib.hid hrs
                      have HT6 := Lib.hid (HT5.out.then ht)
                      clear hrs ht
                      go_wp2_with fail
                      refine (peek_rs br s deep _ _ HRS6.out).mono ?_
                      rintro e w7 ⟨he, hrs, ht⟩
                      rw [show pk (str s) (({ st with pos := j + (⟨#[44]⟩ : ByteArray).size } : PS).pos) = c from HCC.out] at he
                      subst he
                      have HRS7 := Lib.hid hrs
                      have HT7 := Lib.hid (HT6.out.then (ht.mono (fun _ _ e => e.elim)))
                      clear hrs ht
                      go_wp2_with fail
                      refine (number_any br s deep _ _ HRS7.out).mono ?_
                      intro e w8 hG
                      rw [show numP (str s) (({ st with pos := j + (⟨#[44]⟩ : ByteArray).size } : PS).pos) = some (hi, k) from HN2.out] at hG
                      obtain ⟨rfl, hrs, ht, hhi, hkk⟩ := hG
                      have HRS8 := Lib.hid hrs
                      have HT8 := Lib.hid (HT7.out.then ht)
                      have hkk : j + 1 < k := hkk
                      clear hrs ht
                      go_wp2_with fail
                      refine (take_yes br s ⟨#[125]⟩ deep _ _ HRS8.out HC7.out (by decide)).mono ?_
                      rintro e w9 ⟨rfl, hrs, ht⟩
                      have HRS9 := Lib.hid hrs
                      have HT9 := Lib.hid (HT8.out.then ht)
                      clear hrs ht
                      go_wp2_with fail
                      go_ret3
                      rw [HR.out]
                      exact ⟨rfl, HRS9.out, HT9.out, hlo, by omega, by omega, by omega⟩
                    · have HR : Hid (timesP (str s) st.pos = none) := Lib.hid (by rw [HR0, if_neg (fun h => c8 h.2)])
                      clear HR0 c7
                      have q1 : decide ((hi : Int) < (lo : Int)) = true := by simp; omega
                      have q2 : ((hi : Int) != (-1)) = true := by rw [bne_iff_ne]; omega
                      go_enter Tryz.func95, Tryz.ntmps95
                      go_wp2_with fail
                      refine (tk_no (t := ⟨#[42]⟩) HH.out D1.out).mono ?_
                      rintro e w1 ⟨rfl, hrs, ht⟩
                      have HRS1 := Lib.hid hrs
                      have HT1 := Lib.hid (HTT.out.then ht)
                      clear hrs ht
                      go_wp2_with fail
                      refine (tk_no (t := ⟨#[43]⟩) HRS1.out D2.out).mono ?_
                      rintro e w2 ⟨rfl, hrs, ht⟩
                      have HRS2 := Lib.hid hrs
                      have HT2 := Lib.hid (HT1.out.then ht)
                      clear hrs ht
                      go_wp2_with fail
                      refine (tk_no (t := ⟨#[63]⟩) HRS2.out D3.out).mono ?_
                      rintro e w3 ⟨rfl, hrs, ht⟩
                      have HRS3 := Lib.hid hrs
                      have HT3 := Lib.hid (HT2.out.then ht)
                      clear hrs ht
                      go_wp2_with fail
                      refine (take_yes br s ⟨#[123]⟩ deep _ _ HRS3.out HC4.out (by decide)).mono ?_
                      rintro e w4 ⟨rfl, hrs, ht⟩
                      have HRS4 := Lib.hid hrs
                      have HT4 := Lib.hid (HT3.out.then ht)
                      clear hrs ht
                      go_wp2_with fail
                      refine (number_any br s deep _ _ HRS4.out).mono ?_
                      intro e w5 hG
                      rw [show numP (str s) (({ st with pos := st.pos + (⟨#[123]⟩ : ByteArray).size } : PS).pos) = some (lo, j) from HN.out] at hG
                      obtain ⟨rfl, hrs, ht, hlo, hjj⟩ := hG
                      have HRS5 := Lib.hid hrs
                      have HT5 := Lib.hid (HT4.out.then ht)
                      have hjj : st.pos + 1 < j := hjj
                      clear hrs ht
                      go_wp2_with fail
                      refine (take_yes br s ⟨#[44]⟩ deep _ _ HRS5.out HC5.out (by decide)).mono ?_
                      rintro e w6 ⟨rfl, hrs, ht⟩
                      have HRS6 := Lib.hid hrs
                      have HT6 := Lib.hid (HT5.out.then ht)
                      clear hrs ht
                      go_wp2_with fail
                      refine (peek_rs br s deep _ _ HRS6.out).mono ?_
                      rintro e w7 ⟨he, hrs, ht⟩
                      rw [show pk (str s) (({ st with pos := j + (⟨#[44]⟩ : ByteArray).size } : PS).pos) = c from HCC.out] at he
                      subst he
                      have HRS7 := Lib.hid hrs
                      have HT7 := Lib.hid (HT6.out.then (ht.mono (fun _ _ e => e.elim)))
                      clear hrs ht
                      go_wp2_with fail
                      refine (number_any br s deep _ _ HRS7.out).mono ?_
                      intro e w8 hG
                      rw [show numP (str s) (({ st with pos := j + (⟨#[44]⟩ : ByteArray).size } : PS).pos) = some (hi, k) from HN2.out] at hG
                      obtain ⟨rfl, hrs, ht, hhi, hkk⟩ := hG
                      have HRS8 := Lib.hid hrs
                      have HT8 := Lib.hid (HT7.out.then ht)
                      have hkk : j + 1 < k := hkk
                      clear hrs ht
                      go_wp2_with fail
                      refine (take_yes br s ⟨#[125]⟩ deep _ _ HRS8.out HC7.out (by decide)).mono ?_
                      rintro e w9 ⟨rfl, hrs, ht⟩
                      have HRS9 := Lib.hid hrs
                      have HT9 := Lib.hid (HT8.out.then ht)
                      clear hrs ht
                      go_wp2_with fail
                      refine (fail_any _ _).mono ?_
                      rintro e w9 ⟨rfl, rfl⟩
                      refine ⟨rfl, ?_⟩
                      rw [HR.out]
                      exact ⟨rfl, HT9.out⟩
                  · have D7 : Hid (tk (str s) k [125] = false) := Lib.hid (by simpa using c7)
                    have HR : Hid (timesP (str s) st.pos = none) := Lib.hid (by rw [HR0, if_neg (fun h => c7 h.1)])
                    clear HR0 c7
                    go_enter Tryz.func95, Tryz.ntmps95
                    go_wp2_with fail
                    refine (tk_no (t := ⟨#[42]⟩) HH.out D1.out).mono ?_
                    rintro e w1 ⟨rfl, hrs, ht⟩
                    have HRS1 := Lib.hid hrs
                    have HT1 := Lib.hid (HTT.out.then ht)
                    clear hrs ht
                    go_wp2_with fail
                    refine (tk_no (t := ⟨#[43]⟩) HRS1.out D2.out).mono ?_
                    rintro e w2 ⟨rfl, hrs, ht⟩
                    have HRS2 := Lib.hid hrs
                    have HT2 := Lib.hid (HT1.out.then ht)
                    clear hrs ht
                    go_wp2_with fail
                    refine (tk_no (t := ⟨#[63]⟩) HRS2.out D3.out).mono ?_
                    rintro e w3 ⟨rfl, hrs, ht⟩
                    have HRS3 := Lib.hid hrs
                    have HT3 := Lib.hid (HT2.out.then ht)
                    clear hrs ht
                    go_wp2_with fail
                    refine (take_yes br s ⟨#[123]⟩ deep _ _ HRS3.out HC4.out (by decide)).mono ?_
                    rintro e w4 ⟨rfl, hrs, ht⟩
                    have HRS4 := Lib.hid hrs
                    have HT4 := Lib.hid (HT3.out.then ht)
                    clear hrs ht
                    go_wp2_with fail
                    refine (number_any br s deep _ _ HRS4.out).mono ?_
                    intro e w5 hG
                    rw [show numP (str s) (({ st with pos := st.pos + (⟨#[123]⟩ : ByteArray).size } : PS).pos) = some (lo, j) from HN.out] at hG
                    obtain ⟨rfl, hrs, ht, hlo, hjj⟩ := hG
                    have HRS5 := Lib.hid hrs
                    have HT5 := Lib.hid (HT4.out.then ht)
                    have hjj : st.pos + 1 < j := hjj
                    clear hrs ht
                    go_wp2_with fail
                    refine (take_yes br s ⟨#[44]⟩ deep _ _ HRS5.out HC5.out (by decide)).mono ?_
                    rintro e w6 ⟨rfl, hrs, ht⟩
                    have HRS6 := Lib.hid hrs
                    have HT6 := Lib.hid (HT5.out.then ht)
                    clear hrs ht
                    go_wp2_with fail
                    refine (peek_rs br s deep _ _ HRS6.out).mono ?_
                    rintro e w7 ⟨he, hrs, ht⟩
                    rw [show pk (str s) (({ st with pos := j + (⟨#[44]⟩ : ByteArray).size } : PS).pos) = c from HCC.out] at he
                    subst he
                    have HRS7 := Lib.hid hrs
                    have HT7 := Lib.hid (HT6.out.then (ht.mono (fun _ _ e => e.elim)))
                    clear hrs ht
                    go_wp2_with fail
                    refine (number_any br s deep _ _ HRS7.out).mono ?_
                    intro e w8 hG
                    rw [show numP (str s) (({ st with pos := j + (⟨#[44]⟩ : ByteArray).size } : PS).pos) = some (hi, k) from HN2.out] at hG
                    obtain ⟨rfl, hrs, ht, hhi, hkk⟩ := hG
                    have HRS8 := Lib.hid hrs
                    have HT8 := Lib.hid (HT7.out.then ht)
                    have hkk : j + 1 < k := hkk
                    clear hrs ht
                    go_wp2_with fail
                    refine (tk_no (t := ⟨#[125]⟩) HRS8.out D7.out).mono ?_
                    rintro e w9 ⟨rfl, hrs, ht⟩
                    have HRS9 := Lib.hid hrs
                    have HT9 := Lib.hid (HT8.out.then ht)
                    clear hrs ht
                    go_wp2_with fail
                    refine (fail_any _ _).mono ?_
                    rintro e w9 ⟨rfl, rfl⟩
                    refine ⟨rfl, ?_⟩
                    rw [HR.out]
                    exact ⟨rfl, HT9.out⟩
            · have D5 : Hid (tk (str s) j [44] = false) := Lib.hid (by simpa using c5)
              rw [if_neg c5] at HR0
              clear c5
              by_cases c7 : tk (str s) j [125] = true
              · have HC7 := Lib.hid c7
                have HR : Hid (timesP (str s) st.pos = some (some (lo, (lo : Int)), j + 1)) := Lib.hid (by rw [HR0, if_pos c7])
                clear HR0 c7
                have q1 : decide ((lo : Int) < (lo : Int)) = false := by simp
                have q2 : ((lo : Int) != (-1)) = true := by rw [bne_iff_ne]; omega
                go_enter Tryz.func95, Tryz.ntmps95
                go_wp2_with fail
                refine (tk_no (t := ⟨#[42]⟩) HH.out D1.out).mono ?_
                rintro e w1 ⟨rfl, hrs, ht⟩
                have HRS1 := Lib.hid hrs
                have HT1 := Lib.hid (HTT.out.then ht)
                clear hrs ht
                go_wp2_with fail
                refine (tk_no (t := ⟨#[43]⟩) HRS1.out D2.out).mono ?_
                rintro e w2 ⟨rfl, hrs, ht⟩
                have HRS2 := Lib.hid hrs
                have HT2 := Lib.hid (HT1.out.then ht)
                clear hrs ht
                go_wp2_with fail
                refine (tk_no (t := ⟨#[63]⟩) HRS2.out D3.out).mono ?_
                rintro e w3 ⟨rfl, hrs, ht⟩
                have HRS3 := Lib.hid hrs
                have HT3 := Lib.hid (HT2.out.then ht)
                clear hrs ht
                go_wp2_with fail
                refine (take_yes br s ⟨#[123]⟩ deep _ _ HRS3.out HC4.out (by decide)).mono ?_
                rintro e w4 ⟨rfl, hrs, ht⟩
                have HRS4 := Lib.hid hrs
                have HT4 := Lib.hid (HT3.out.then ht)
                clear hrs ht
                go_wp2_with fail
                refine (number_any br s deep _ _ HRS4.out).mono ?_
                intro e w5 hG
                rw [show numP (str s) (({ st with pos := st.pos + (⟨#[123]⟩ : ByteArray).size } : PS).pos) = some (lo, j) from HN.out] at hG
                obtain ⟨rfl, hrs, ht, hlo, hjj⟩ := hG
                have HRS5 := Lib.hid hrs
                have HT5 := Lib.hid (HT4.out.then ht)
                have hjj : st.pos + 1 < j := hjj
                clear hrs ht
                go_wp2_with fail
                refine (tk_no (t := ⟨#[44]⟩) HRS5.out D5.out).mono ?_
                rintro e w6 ⟨rfl, hrs, ht⟩
                have HRS6 := Lib.hid hrs
                have HT6 := Lib.hid (HT5.out.then ht)
                clear hrs ht
                go_wp2_with fail
                refine (take_yes br s ⟨#[125]⟩ deep _ _ HRS6.out HC7.out (by decide)).mono ?_
                rintro e w9 ⟨rfl, hrs, ht⟩
                have HRS9 := Lib.hid hrs
                have HT9 := Lib.hid (HT6.out.then ht)
                clear hrs ht
                go_wp2_with fail
                go_ret3
                rw [HR.out]
                exact ⟨rfl, HRS9.out, HT9.out, hlo, by omega, by omega, by omega⟩
              · have D7 : Hid (tk (str s) j [125] = false) := Lib.hid (by simpa using c7)
                have HR : Hid (timesP (str s) st.pos = none) := Lib.hid (by rw [HR0, if_neg c7])
                clear HR0 c7
                go_enter Tryz.func95, Tryz.ntmps95
                go_wp2_with fail
                refine (tk_no (t := ⟨#[42]⟩) HH.out D1.out).mono ?_
                rintro e w1 ⟨rfl, hrs, ht⟩
                have HRS1 := Lib.hid hrs
                have HT1 := Lib.hid (HTT.out.then ht)
                clear hrs ht
                go_wp2_with fail
                refine (tk_no (t := ⟨#[43]⟩) HRS1.out D2.out).mono ?_
                rintro e w2 ⟨rfl, hrs, ht⟩
                have HRS2 := Lib.hid hrs
                have HT2 := Lib.hid (HT1.out.then ht)
                clear hrs ht
                go_wp2_with fail
                refine (tk_no (t := ⟨#[63]⟩) HRS2.out D3.out).mono ?_
                rintro e w3 ⟨rfl, hrs, ht⟩
                have HRS3 := Lib.hid hrs
                have HT3 := Lib.hid (HT2.out.then ht)
                clear hrs ht
                go_wp2_with fail
                refine (take_yes br s ⟨#[123]⟩ deep _ _ HRS3.out HC4.out (by decide)).mono ?_
                rintro e w4 ⟨rfl, hrs, ht⟩
                have HRS4 := Lib.hid hrs
                have HT4 := Lib.hid (HT3.out.then ht)
                clear hrs ht
                go_wp2_with fail
                refine (number_any br s deep _ _ HRS4.out).mono ?_
                intro e w5 hG
                rw [show numP (str s) (({ st with pos := st.pos + (⟨#[123]⟩ : ByteArray).size } : PS).pos) = some (lo, j) from HN.out] at hG
                obtain ⟨rfl, hrs, ht, hlo, hjj⟩ := hG
                have HRS5 := Lib.hid hrs
                have HT5 := Lib.hid (HT4.out.then ht)
                have hjj : st.pos + 1 < j := hjj
                clear hrs ht
                go_wp2_with fail
                refine (tk_no (t := ⟨#[44]⟩) HRS5.out D5.out).mono ?_
                rintro e w6 ⟨rfl, hrs, ht⟩
                have HRS6 := Lib.hid hrs
                have HT6 := Lib.hid (HT5.out.then ht)
                clear hrs ht
                go_wp2_with fail
                refine (tk_no (t := ⟨#[125]⟩) HRS6.out D7.out).mono ?_
                rintro e w9 ⟨rfl, hrs, ht⟩
                have HRS9 := Lib.hid hrs
                have HT9 := Lib.hid (HT6.out.then ht)
                clear hrs ht
                go_wp2_with fail
                refine (fail_any _ _).mono ?_
                rintro e w9 ⟨rfl, rfl⟩
                refine ⟨rfl, ?_⟩
                rw [HR.out]
                exact ⟨rfl, HT9.out⟩
        · have D4 : Hid (tk (str s) st.pos [123] = false) := Lib.hid (by simpa using c4)
          have HR : Hid (timesP (str s) st.pos = some (none, st.pos)) := Lib.hid (by unfold timesP; rw [if_neg (by rw [D1.out]; decide), if_neg (by rw [D2.out]; decide), if_neg (by rw [D3.out]; decide), if_neg (by rw [D4.out]; decide)])
          clear c4
          go_enter Tryz.func95, Tryz.ntmps95
          go_wp2_with fail
          refine (tk_no (t := ⟨#[42]⟩) HH.out D1.out).mono ?_
          rintro e w1 ⟨rfl, hrs, ht⟩
          have HRS1 := Lib.hid hrs
          have HT1 := Lib.hid (HTT.out.then ht)
          clear hrs ht
          go_wp2_with fail
          refine (tk_no (t := ⟨#[43]⟩) HRS1.out D2.out).mono ?_
          rintro e w2 ⟨rfl, hrs, ht⟩
          have HRS2 := Lib.hid hrs
          have HT2 := Lib.hid (HT1.out.then ht)
          clear hrs ht
          go_wp2_with fail
          refine (tk_no (t := ⟨#[63]⟩) HRS2.out D3.out).mono ?_
          rintro e w3 ⟨rfl, hrs, ht⟩
          have HRS3 := Lib.hid hrs
          have HT3 := Lib.hid (HT2.out.then ht)
          clear hrs ht
          go_wp2_with fail
          refine (tk_no (t := ⟨#[123]⟩) HRS3.out D4.out).mono ?_
          rintro e w9 ⟨rfl, hrs, ht⟩
          have HRS9 := Lib.hid hrs
          have HT9 := Lib.hid (HT3.out.then ht)
          clear hrs ht
          go_wp2_with fail
          go_ret3
          rw [HR.out]
          exact ⟨rfl, HRS9.out, HT9.out⟩

/-- What comes back of an escape of one byte. -/
def PlainPost (w : World) : Option Nat → Ending → World → Prop
  | none, e, w' => e = bad ∧ Still w w'
  | some b, e, w' => e = .returned (.int .u8 (b : Int)) ∧ Still w w'
theorem ib_contains (l : List UInt8) (c : UInt8) : decide (0 ≤ Lib.indexByte l c) = (l.map (·.toNat)).contains c.toNat := by
  induction l with
  | nil => rfl
  | cons b l ih =>
    unfold Lib.indexByte
    rw [List.map_cons, List.contains_cons, ← ih]
    by_cases h : b = c
    · subst h; simp
    · have h1 : (b == c) = false := by simpa using h
      have h2 : (c.toNat == b.toNat) = false := by
        rw [beq_eq_false_iff_ne]; intro e; exact h (UInt8.toNat_inj.1 e).symm
      rw [h1, h2]
      simp only [Bool.false_eq_true, if_false, Bool.false_or]
      have hge : -1 ≤ Lib.indexByte l c := by
        clear ih
        induction l with
        | nil => exact Int.le_refl _
        | cons b l ih => unfold Lib.indexByte; split; (· omega); split <;> (try omega)
      by_cases h3 : Lib.indexByte l c = -1
      · rw [h3]; rfl
      · have h4 : (Lib.indexByte l c == -1) = false := by simpa using h3
        rw [h4]
        simp only [Bool.false_eq_true, if_false]
        exact decide_eq_decide.2 (by omega)

set_option maxRecDepth 100000 in
set_option maxHeartbeats 1000000 in
theorem plain_any (v : Addr) (c : Nat) (hc : c < 256) (w : World) :
    Calls Tryz.prog 117 #[.pointer (some v), .int .u8 (c : Int)] w (PlainPost w (plainP c)) := by
  have HIB := Lib.hid (fun w => Tryz.strings_IndexByte ⟨#[92, 94, 36, 46, 124, 63, 42, 43, 40, 41, 91, 93, 123, 125, 45]⟩ (c : Int) w)
  have hu : ((c : Int).toNat.toUInt8).toNat = c := by simp; omega
  have hib := ib_contains [92, 94, 36, 46, 124, 63, 42, 43, 40, 41, 91, 93, 123, 125, 45] ((c : Int).toNat.toUInt8)
  rw [hu, show ([92, 94, 36, 46, 124, 63, 42, 43, 40, 41, 91, 93, 123, 125, 45] : List UInt8).map (·.toNat) = specials from rfl] at hib
  obtain ⟨x, hx⟩ : ∃ x, Lib.indexByte (⟨#[92, 94, 36, 46, 124, 63, 42, 43, 40, 41, 91, 93, 123, 125, 45]⟩ : ByteArray).data.toList ((c : Int).toNat.toUInt8) = x := ⟨_, rfl⟩
  rw [hx] at HIB
  rw [show Lib.indexByte [92, 94, 36, 46, 124, 63, 42, 43, 40, 41, 91, 93, 123, 125, 45] ((c : Int).toNat.toUInt8) = x from hx] at hib
  clear hx hu
  by_cases h1 : c = 110
  · subst h1
    go_enter Tryz.func117, Tryz.ntmps117
    go_wp2_with fail
    go_ret
    exact ⟨rfl, Touch.refl _ _⟩
  · by_cases h2 : c = 116
    · subst h2
      go_enter Tryz.func117, Tryz.ntmps117
      go_wp2_with fail
      go_ret
      exact ⟨rfl, Touch.refl _ _⟩
    · have q1 : ((c : Int) == 110) = false := by simp; omega
      have q2 : ((c : Int) == 116) = false := by simp; omega
      by_cases h0 : c = 0
      · subst h0
        go_enter Tryz.func117, Tryz.ntmps117
        go_wp2_with fail
        refine (fail_any _ _).mono ?_
        rintro e w9 ⟨rfl, rfl⟩
        exact ⟨rfl, rfl, Touch.refl _ _⟩
      · have q0 : ((c : Int) != 0) = true := by rw [bne_iff_ne]; omega
        cases hs : specials.contains c with
        | true =>
          have HR : Hid (plainP c = some c) := Lib.hid (by unfold plainP; rw [if_neg h1, if_neg h2, if_pos hs])
          rw [hs] at hib
          clear h0 h1 h2 hs
          go_enter Tryz.func117, Tryz.ntmps117
          go_wp2_with fail
          refine (HIB.out _).mono ?_
          rintro e w9 ⟨rfl, rfl⟩
          go_wp2_with fail
          go_ret
          rw [HR.out]
          exact ⟨rfl, Touch.refl _ _⟩
        | false =>
          have HR : Hid (plainP c = none) := Lib.hid (by unfold plainP; rw [if_neg h1, if_neg h2, if_neg (by rw [hs]; decide)])
          rw [hs] at hib
          clear h0 h1 h2 hs
          go_enter Tryz.func117, Tryz.ntmps117
          go_wp2_with fail
          refine (HIB.out _).mono ?_
          rintro e w9 ⟨rfl, rfl⟩
          go_wp2_with fail
          refine (fail_any _ _).mono ?_
          rintro e w9 ⟨rfl, rfl⟩
          refine ⟨rfl, ?_⟩
          rw [HR.out]
          exact ⟨rfl, Touch.refl _ _⟩
end Go.Proofs.YtlgpilcjcomacaaGreat
