/-
  The document's ends: rows of marks; an atom. (Printed by wip/tools/ends07.py.)
-/
import Derived.Test.YtlgpilcjcomacaaBl
import Derived.Test.YtlgpilcjcomacaaLc
namespace Go.Proofs.Ytlgpilcjcomacaa
open Go.RowKit Rx
set_option linter.unusedVariables false

/-- A row of marks, to be read; to be written. -/
def BR (w : World) (g L : Nat) (O : Nat → Bool) : Prop := ∀ j, j ≤ L → w.cell? ⟨g, j, none⟩ = some (.bool (O j))
def BH (w : World) (g L : Nat) (O : Nat → Bool) : Prop := ∀ j, j ≤ L → Holds w g j (.bool (O j))
theorem BH.br {w : World} {g L : Nat} {O : Nat → Bool} (h : BH w g L O) : BR w g L O := fun j hj => (h j hj).1
theorem BR.keep {S : Nat → Prop} {w w' : World} {g L : Nat} {O : Nat → Bool} (h : BR w g L O) (t : Touch S w w') (hn : ¬ S g) : BR w' g L O := fun j hj => t.has (h j hj) hn
theorem BH.keep {S : Nat → Prop} {w w' : World} {g L : Nat} {O : Nat → Bool} (h : BH w g L O) (t : Touch S w w') (hn : ¬ S g) : BH w' g L O := fun j hj => (h j hj).keep t hn
def setO (O : Nat → Bool) (e : Nat) (v : Bool) : Nat → Bool := fun i => if i = e then v else O i
theorem BH.set {w : World} {g L : Nat} {O : Nat → Bool} (h : BH w g L O) {e : Nat} (he : e ≤ L) (v : Bool) : BH (w.setCell ⟨g, e, none⟩ (.bool v)) g L (setO O e v) := fun j hj => by
  unfold setO
  by_cases hje : j = e
  · subst hje
    rw [if_pos rfl]
    exact (h j hj).set _
  · rw [if_neg hje]
    exact (h j hj).set_other _ (.inr (fun x => hje x.symm))

theorem lt_last {P : Nat → Prop} {i j : Nat} (h : i < j + 1) (hn : ¬ P j) (hp : P i) : i < j := by
  rcases Nat.lt_or_ge i j with h1 | h1
  · exact h1
  · obtain rfl : i = j := by omega
    exact absurd hp hn

/-- The places that are reached from some places. -/
def EndF (L : Nat) (W : Nat → Nat → Prop) (F F' : Nat → Bool) : Prop := ∀ j, j ≤ L → (F' j = true ↔ ∃ i, i ≤ L ∧ F i = true ∧ W i j)

theorem infoBool : (Try.prog.info? 4).map (fun i => (i.zero, i.size, i.bytes)) = some (some (.bool false), 1, 1) := by kernel_rfl

/-- A new row of marks, all unset. -/
theorem wpList_make_bools {ops : Array Oper} {rest : List Oper} {o : Oper} {a : Act} {w : World} {Q : Exit → Act → World → Prop} (hgd : o.guard = none) (x : Operand) (ho : o.op = Op.makeSlice 72 x x) (n : Nat) (hx : a.eval x = .int .i64 (n : Int)) (h0 : n ≤ 10000)
    (h : ∀ w', (∀ j, j < n → Holds w' w.heap.size j (.bool false)) → Still w w' → wpList Try.prog ops Q rest (a.put o.dst (.slice (some ⟨w.heap.size, 0, none⟩) n n)) w') : wpList Try.prog ops Q (o :: rest) a w := by
  obtain ⟨i0, hi, hz0, hz1, hz2⟩ := info_parts infoBool
  refine wpList_make_full w hgd x x 72 ho 0 4 i0 (.bool false) 1 Try.underlying72 hi hz0 hz1 .i64 .i64 _ _ n hx hx rfl rfl (by rw [hz2]; omega) (by unfold maxLen; omega) (Nat.zero_le _) ?_
  intro w' hown hgr
  refine h w' (fun j hj => ?_) ⟨hgr.os, hgr.tape, hgr.output, hgr.size, fun k hk _ => hgr.block k hk (by simp)⟩
  rcases hown.2 with ⟨h, -⟩ | ⟨g, cap, cur, h, -, hb, hnc, -, hsz, htk⟩
  · cases h
  · cases h
    have e : cur.toList[j]? = some (.bool false) := by
      have h1 : (madeCells (Value.bool false).cells (n * 1)).toList[j]? = some (.bool false) := by
        show ((Array.range (n * 1)).map (fun i => #[Value.bool false][i % 1]!)).toList[j]? = _
        rw [Array.toList_map, Array.toList_range, List.getElem?_map, List.getElem?_range (by omega)]
        simp [Nat.mod_one]
      rw [← htk, List.getElem?_take_of_lt (by omega)] at h1
      exact h1
    refine ⟨?_, ?_⟩
    · unfold World.cell?
      simp only [hb]
      rw [← Array.getElem?_toList]
      exact e
    · unfold World.frozen?
      simp [hb]

/-- A copy of a row of marks. -/
theorem wpList_copy_bools {ops : Array Oper} {rest : List Oper} {o : Oper} {a : Act} {w : World} {Q : Exit → Act → World → Prop} (hgd : o.guard = none) (s x : Operand)
    (ho : o.op = .call { callee := .builtin .append, args := #[s, x], argTypes := #[72, 72] }) (g : Nat) (hs : a.eval s = .slice (some ⟨g, 0, none⟩) 0 0) (hg : w.heap[g]? = some (.cells #[] 4 (0, 0))) (g1 L cap : Nat) (hx : a.eval x = .slice (some ⟨g1, 0, none⟩) (L + 1) cap)
    (O : Nat → Bool) (hO : BR w g1 L O) (hL : L ≤ 10000)
    (h : ∀ b c w', BR w' b L O → (b = g ∨ b = w.heap.size) → Touch (fun k => k = g) w w' → wpList Try.prog ops Q rest (a.put o.dst (.slice (some ⟨b, 0, none⟩) (L + 1) c)) w') : wpList Try.prog ops Q (o :: rest) a w := by
  obtain ⟨i0, hi, hz0, hz1, hz2⟩ := info_parts infoBool
  have hl : ((List.range (L + 1)).map (fun j => Value.bool (O j))).length = (L + 1) * 1 := by simp
  refine wpList_append_own_at w hgd s x 72 ho 0 4 i0 (.bool false) 1 1 Try.underlying72 hi hz0 hz1 hz2 rfl (by decide) _ 0 [] hs (owns_empty hg) ⟨g1, 0, none⟩ (L + 1) cap ((List.range (L + 1)).map (fun j => Value.bool (O j))) hx hl (fun j u hu => ?_) (fun u hu => ?_) (by unfold maxLen; omega) (by omega) (Nat.zero_le _) ?_
  · have hj : j < L + 1 := by have := (List.getElem?_eq_some_iff.1 hu).1; simpa using this
    rw [Addr.add_lit, Nat.zero_add]
    rw [List.getElem?_map, List.getElem?_range hj] at hu
    rw [← Option.some.inj hu]
    exact hO j (by omega)
  · obtain ⟨j, -, rfl⟩ := List.mem_map.1 hu
    rfl
  · intro v' w' h2 h3 _ h5
    rw [Nat.zero_add, List.nil_append] at h2
    rcases h2.2 with ⟨rfl, h0⟩ | ⟨b, c, cur, rfl, -, hb, hnc, -, hcz, htk⟩
    · omega
    · refine h b c w' (fun j hj => ?_) (h5.imp Option.some.inj Option.some.inj) ⟨h3.os, h3.tape, h3.output, h3.size, fun k hk hne => h3.block k hk (fun e => hne (Option.some.inj e))⟩
      have hu : ((List.range (L + 1)).map (fun j => Value.bool (O j)))[j]? = some (.bool (O j)) := by rw [List.getElem?_map, List.getElem?_range (by omega)]; rfl
      unfold World.cell?
      rw [← htk, List.getElem?_take, if_pos (by omega)] at hu
      simp [hb]
      simpa using hu

set_option maxRecDepth 100000 in
set_option maxHeartbeats 8000000 in
/-- ends at an atom. -/
theorem rends_atom (b : Nat) (v : NV) (s : ByteArray) (E : Nat → Option Nat) (wT : World) (hv : NodeB wT b v) (hk : v.kind = 0 ∨ v.kind = 1) (hs : s.size ≤ 5000) (hE : ∀ i e, i ≤ s.size → E i = some e → e ≤ s.size)
    (hat : ∀ (bt at' : Nat) (w : World), at' ≤ s.size → w.cell? ⟨bt, 0, none⟩ = some (.string s) → Still wT w → Calls Try.prog 55 #[.pointer (some ⟨bt, 0, none⟩), .pointer (some ⟨b, 0, none⟩), .int .i64 (at' : Int)] w fun e w' => e = .returned (.int .i64 (endI (E at'))) ∧ Still w w')
    (w : World) (g c : Nat) (F : Nat → Bool) (t : Still wT w) (hF : BR w g s.size F) :
    Calls Try.prog 35 #[.pointer (some ⟨b, 0, none⟩), .string s, .slice (some ⟨g, 0, none⟩) (s.size + 1) c] w fun e w' => ∃ (g' c' : Nat) (F' : Nat → Bool), e = .returned (.tuple #[.slice (some ⟨g', 0, none⟩) (s.size + 1) c', .bool true]) ∧ BR w' g' s.size F' ∧ EndF s.size (fun i j => E i = some j) F F' ∧ w.heap.size ≤ g' ∧ Still w w' := by
  have k0 := t.has hv.c0 id
  have HF := Lib.hid hF
  have HAT := Lib.hid hat
  have HE := Lib.hid hE
  have HTT := Lib.hid t
  have ws := IntWalk.i64_in ((s.size : Int) + 1) (by omega)
  have hlg : g < w.heap.size := block_lt_of_cell (hF 0 (Nat.zero_le _))
  clear hF hat hE t hv
  rcases hk with hk | hk
  · rw [hk] at k0
    go_enter Try.func35, Try.ntmps35
    go_wp2_with (at_make; (refine wpList_make_bools rfl (.tmp 20) rfl (s.size + 1) rfl (by omega) ?_); intro w1 hnew ht1; have HN1 := Lib.hid hnew; have HT1 := Lib.hid ht1; have k0 := ht1.has k0 id; clear hnew ht1)
    obtain ⟨g1, hg1⟩ : ∃ g1, w.heap.size = g1 := ⟨_, rfl⟩
    obtain ⟨bt, hbt⟩ : ∃ bt, w1.heap.size = bt := ⟨_, rfl⟩
    obtain ⟨w2, hw2⟩ : ∃ w2, w1.alloc (.cells #[.string s, .int .i64 0, .int .i64 0, .int .i64 0, .int .i64 0, .int .i64 0, .int .i64 0, .int .i64 0, .int .i64 0, .int .i64 0, .int .i64 0, .int .i64 0, .int .i64 0, .int .i64 0, .int .i64 0, .int .i64 0, .int .i64 0, .int .i64 0, .int .i64 0, .int .i64 0, .int .i64 0, .int .i64 0, .int .i64 0, .int .i64 0] 104) = w2 := ⟨_, rfl⟩
    have hz1 : g1 < w1.heap.size := by rw [← hg1]; exact (HN1.out 0 (by omega)).lt
    have ht2 : Still w1 w2 := by rw [← hw2]; exact (Touch.refl _ _).alloc _
    have HC2 : Hid (w2.cell? ⟨bt, 0, none⟩ = some (.string s)) := Lib.hid (by rw [← hw2, ← hbt]; exact (Holds.made w1 _ _ 0 _ rfl).1)
    have HB2 : Hid (BH w2 g1 s.size (fun _ => false)) := Lib.hid (by rw [← hg1]; exact fun j hj => (HN1.out j (by omega)).keep ht2 id)
    have HT2 : Hid (Still w w2) := Lib.hid (HT1.out.then ht2)
    have HBT : Hid (bt ≠ g1) := Lib.hid (by omega)
    have HG1 := Lib.hid hg1
    have HGN : Hid (g ≠ g1) := Lib.hid (by omega)
    rw [hw2, hg1, hbt]
    clear hw2 ht2 HN1 HT1 hz1 hbt hg1 k0
    go_loopw [10] (fun iv wr => ∃ (j : Nat) (O : Nat → Bool), iv = .int .i64 (j : Int) ∧ j ≤ s.size + 1 ∧ Hid (BH wr g1 s.size O) ∧ Hid (∀ x, x ≤ s.size → (O x = true ↔ ∃ i, i < j ∧ F i = true ∧ E i = some x)) ∧ Hid (Touch (fun k => k = g1) w2 wr)) (fun iv _ => s.size + 1 - (intOf iv).toNat)
    case atStart => exact ⟨0, fun _ => false, rfl, Nat.zero_le _, HB2, Lib.hid (fun x _ => ⟨fun h => (by cases h), fun ⟨i, hi, _⟩ => (by omega)⟩), Lib.hid (Touch.refl _ _)⟩
    case round =>
      obtain ⟨j, O, rfl, hj, HB, HO, HT⟩ := hrel
      have HTW : Hid (Still w wr) := Lib.hid (HT2.out.trans HT.out (fun i e => .inr (by have := HG1.out; omega)))
      by_cases hlt : j ≤ s.size
      · have q1 : decide ((j : Int) ≤ (s.size : Int)) = true := decide_eq_true (by omega)
        have q1n : decide (j ≤ s.size) = true := decide_eq_true hlt
        have wj := IntWalk.i64_in ((j : Int) + 1) (by omega)
        have hjc : (j : Int) < (s.size : Int) + 1 := by omega
        go_wp2_with fail
        refine (HAT.out bt j wr hlt (HT.out.has HC2.out HBT.out) (HTT.out.then HTW.out)).mono ?_
        rintro e w3 ⟨rfl, ht⟩
        have f0 := ht.has (HTW.out.has (HF.out j hlt) id) id
        have HB3 := Lib.hid (HB.out.keep ht id)
        have HT3 : Hid (Touch (fun k => k = g1) w2 w3) := Lib.hid (HT.out.trans ht (fun i e => e.elim))
        clear ht
        cases hF : F j with
        | false =>
          rw [hF] at f0
          go_wp2_with fail
          go_roundw
          case rel => exact ⟨j + 1, O, by go_num, by omega, HB3, Lib.hid (fun x hx => (HO.out x hx).trans ⟨fun ⟨i, h1, h2⟩ => ⟨i, by omega, h2⟩, fun ⟨i, h1, h2, h3⟩ => ⟨i, lt_last (P := fun i => F i = true) h1 (by rw [hF]; decide) h2, h2, h3⟩⟩), HT3⟩
          case measure => simp [intOf]; omega
        | true =>
          rw [hF] at f0
          cases hEj : E j with
          | none =>
            have e9 : endI (none : Option Nat) = -1 := rfl
            go_wp2_with fail
            go_roundw
            case rel => exact ⟨j + 1, O, by go_num, by omega, HB3, Lib.hid (fun x hx => (HO.out x hx).trans ⟨fun ⟨i, h1, h2⟩ => ⟨i, by omega, h2⟩, fun ⟨i, h1, h2, h3⟩ => ⟨i, lt_last (P := fun i => E i = some x) h1 (by rw [hEj]; exact (by simp)) h3, h2, h3⟩⟩), HT3⟩
            case measure => simp [intOf]; omega
          | some x0 =>
            have hx0 := HE.out j x0 hlt hEj
            have e9 : endI (some x0) = (x0 : Int) := rfl
            have q2 : decide (0 ≤ (x0 : Int)) = true := decide_eq_true (by omega)
            have hxc : (x0 : Int) < (s.size : Int) + 1 := by omega
            obtain ⟨y0, z0⟩ := HB3.out x0 hx0
            have HB4 := Lib.hid (HB3.out.set hx0 true)
            have HT4 : Hid (Touch (fun k => k = g1) w2 (w3.setCell ⟨g1, x0, none⟩ (.bool true))) := Lib.hid (HT3.out.setCell (.inl rfl) _)
            go_wp2_with fail
            go_roundw
            case rel => exact ⟨j + 1, setO O x0 true, by go_num, by omega, HB4, Lib.hid (fun x hx => by
              unfold setO
              by_cases hxe : x = x0
              · rw [if_pos hxe]
                exact ⟨fun _ => ⟨j, by omega, hF, by rw [hEj, hxe]⟩, fun _ => rfl⟩
              · rw [if_neg hxe]
                exact (HO.out x hx).trans ⟨fun ⟨i, h1, h2⟩ => ⟨i, by omega, h2⟩, fun ⟨i, h1, h2, h3⟩ => ⟨i, lt_last (P := fun i => E i = some x) h1 (fun h => hxe (by rw [hEj] at h; exact (Option.some.inj h).symm)) h3, h2, h3⟩⟩), HT4⟩
            case measure => simp [intOf]; omega
      · obtain rfl : j = s.size + 1 := by omega
        have q1 : decide (((s.size + 1 : Nat) : Int) ≤ (s.size : Int)) = false := decide_eq_false (by omega)
        go_wp2_with fail
        go_ret2
        exact ⟨g1, s.size + 1, O, rfl, HB.out.br, fun x hx => (HO.out x hx).trans ⟨fun ⟨i, h1, h2⟩ => ⟨i, by omega, h2⟩, fun ⟨i, h1, h2⟩ => ⟨i, by omega, h2⟩⟩, Nat.le_of_eq HG1.out, HTW.out⟩

  · rw [hk] at k0
    go_enter Try.func35, Try.ntmps35
    go_wp2_with (at_make; (refine wpList_make_bools rfl (.tmp 20) rfl (s.size + 1) rfl (by omega) ?_); intro w1 hnew ht1; have HN1 := Lib.hid hnew; have HT1 := Lib.hid ht1; have k0 := ht1.has k0 id; clear hnew ht1)
    obtain ⟨g1, hg1⟩ : ∃ g1, w.heap.size = g1 := ⟨_, rfl⟩
    obtain ⟨bt, hbt⟩ : ∃ bt, w1.heap.size = bt := ⟨_, rfl⟩
    obtain ⟨w2, hw2⟩ : ∃ w2, w1.alloc (.cells #[.string s, .int .i64 0, .int .i64 0, .int .i64 0, .int .i64 0, .int .i64 0, .int .i64 0, .int .i64 0, .int .i64 0, .int .i64 0, .int .i64 0, .int .i64 0, .int .i64 0, .int .i64 0, .int .i64 0, .int .i64 0, .int .i64 0, .int .i64 0, .int .i64 0, .int .i64 0, .int .i64 0, .int .i64 0, .int .i64 0, .int .i64 0] 104) = w2 := ⟨_, rfl⟩
    have hz1 : g1 < w1.heap.size := by rw [← hg1]; exact (HN1.out 0 (by omega)).lt
    have ht2 : Still w1 w2 := by rw [← hw2]; exact (Touch.refl _ _).alloc _
    have HC2 : Hid (w2.cell? ⟨bt, 0, none⟩ = some (.string s)) := Lib.hid (by rw [← hw2, ← hbt]; exact (Holds.made w1 _ _ 0 _ rfl).1)
    have HB2 : Hid (BH w2 g1 s.size (fun _ => false)) := Lib.hid (by rw [← hg1]; exact fun j hj => (HN1.out j (by omega)).keep ht2 id)
    have HT2 : Hid (Still w w2) := Lib.hid (HT1.out.then ht2)
    have HBT : Hid (bt ≠ g1) := Lib.hid (by omega)
    have HG1 := Lib.hid hg1
    have HGN : Hid (g ≠ g1) := Lib.hid (by omega)
    rw [hw2, hg1, hbt]
    clear hw2 ht2 HN1 HT1 hz1 hbt hg1 k0
    go_loopw [10] (fun iv wr => ∃ (j : Nat) (O : Nat → Bool), iv = .int .i64 (j : Int) ∧ j ≤ s.size + 1 ∧ Hid (BH wr g1 s.size O) ∧ Hid (∀ x, x ≤ s.size → (O x = true ↔ ∃ i, i < j ∧ F i = true ∧ E i = some x)) ∧ Hid (Touch (fun k => k = g1) w2 wr)) (fun iv _ => s.size + 1 - (intOf iv).toNat)
    case atStart => exact ⟨0, fun _ => false, rfl, Nat.zero_le _, HB2, Lib.hid (fun x _ => ⟨fun h => (by cases h), fun ⟨i, hi, _⟩ => (by omega)⟩), Lib.hid (Touch.refl _ _)⟩
    case round =>
      obtain ⟨j, O, rfl, hj, HB, HO, HT⟩ := hrel
      have HTW : Hid (Still w wr) := Lib.hid (HT2.out.trans HT.out (fun i e => .inr (by have := HG1.out; omega)))
      by_cases hlt : j ≤ s.size
      · have q1 : decide ((j : Int) ≤ (s.size : Int)) = true := decide_eq_true (by omega)
        have q1n : decide (j ≤ s.size) = true := decide_eq_true hlt
        have wj := IntWalk.i64_in ((j : Int) + 1) (by omega)
        have hjc : (j : Int) < (s.size : Int) + 1 := by omega
        go_wp2_with fail
        refine (HAT.out bt j wr hlt (HT.out.has HC2.out HBT.out) (HTT.out.then HTW.out)).mono ?_
        rintro e w3 ⟨rfl, ht⟩
        have f0 := ht.has (HTW.out.has (HF.out j hlt) id) id
        have HB3 := Lib.hid (HB.out.keep ht id)
        have HT3 : Hid (Touch (fun k => k = g1) w2 w3) := Lib.hid (HT.out.trans ht (fun i e => e.elim))
        clear ht
        cases hF : F j with
        | false =>
          rw [hF] at f0
          go_wp2_with fail
          go_roundw
          case rel => exact ⟨j + 1, O, by go_num, by omega, HB3, Lib.hid (fun x hx => (HO.out x hx).trans ⟨fun ⟨i, h1, h2⟩ => ⟨i, by omega, h2⟩, fun ⟨i, h1, h2, h3⟩ => ⟨i, lt_last (P := fun i => F i = true) h1 (by rw [hF]; decide) h2, h2, h3⟩⟩), HT3⟩
          case measure => simp [intOf]; omega
        | true =>
          rw [hF] at f0
          cases hEj : E j with
          | none =>
            have e9 : endI (none : Option Nat) = -1 := rfl
            go_wp2_with fail
            go_roundw
            case rel => exact ⟨j + 1, O, by go_num, by omega, HB3, Lib.hid (fun x hx => (HO.out x hx).trans ⟨fun ⟨i, h1, h2⟩ => ⟨i, by omega, h2⟩, fun ⟨i, h1, h2, h3⟩ => ⟨i, lt_last (P := fun i => E i = some x) h1 (by rw [hEj]; exact (by simp)) h3, h2, h3⟩⟩), HT3⟩
            case measure => simp [intOf]; omega
          | some x0 =>
            have hx0 := HE.out j x0 hlt hEj
            have e9 : endI (some x0) = (x0 : Int) := rfl
            have q2 : decide (0 ≤ (x0 : Int)) = true := decide_eq_true (by omega)
            have hxc : (x0 : Int) < (s.size : Int) + 1 := by omega
            obtain ⟨y0, z0⟩ := HB3.out x0 hx0
            have HB4 := Lib.hid (HB3.out.set hx0 true)
            have HT4 : Hid (Touch (fun k => k = g1) w2 (w3.setCell ⟨g1, x0, none⟩ (.bool true))) := Lib.hid (HT3.out.setCell (.inl rfl) _)
            go_wp2_with fail
            go_roundw
            case rel => exact ⟨j + 1, setO O x0 true, by go_num, by omega, HB4, Lib.hid (fun x hx => by
              unfold setO
              by_cases hxe : x = x0
              · rw [if_pos hxe]
                exact ⟨fun _ => ⟨j, by omega, hF, by rw [hEj, hxe]⟩, fun _ => rfl⟩
              · rw [if_neg hxe]
                exact (HO.out x hx).trans ⟨fun ⟨i, h1, h2⟩ => ⟨i, by omega, h2⟩, fun ⟨i, h1, h2, h3⟩ => ⟨i, lt_last (P := fun i => E i = some x) h1 (fun h => hxe (by rw [hEj] at h; exact (Option.some.inj h).symm)) h3, h2, h3⟩⟩), HT4⟩
            case measure => simp [intOf]; omega
      · obtain rfl : j = s.size + 1 := by omega
        have q1 : decide (((s.size + 1 : Nat) : Int) ≤ (s.size : Int)) = false := decide_eq_false (by omega)
        go_wp2_with fail
        go_ret2
        exact ⟨g1, s.size + 1, O, rfl, HB.out.br, fun x hx => (HO.out x hx).trans ⟨fun ⟨i, h1, h2⟩ => ⟨i, by omega, h2⟩, fun ⟨i, h1, h2⟩ => ⟨i, by omega, h2⟩⟩, Nat.le_of_eq HG1.out, HTW.out⟩
end Go.Proofs.Ytlgpilcjcomacaa
