/-
  Texts Ra, Rb, Rc, Rl in one.
-/
import Derived.Test.YtlgpilcjcomacaaGreatAc
/-
  Plain: the document's parser has no look behind a repeat, and reads at most four digits: it reads the same.
-/
namespace Go.Proofs.YtlgpilcjcomacaaGreat.Rx
set_option linter.unusedVariables false

theorem pk_some {s : List UInt8} {i : Nat} (h : pk s i ≠ 0) : i < s.length := by
  unfold pk byteAt at h
  by_cases hi : i < s.length
  · exact hi
  · rw [List.getElem?_eq_none (by omega)] at h
    exact absurd rfl h

theorem tk_one (s : List UInt8) (i : Nat) (c : UInt8) (hi : i < s.length) : tk s i [c] = decide (pk s i = c.toNat) := by
  unfold tk pk byteAt
  rw [List.getElem?_eq_getElem hi, List.drop_eq_getElem_cons hi]
  show (c == s[i] && true) = decide (s[i].toNat = c.toNat)
  rw [Bool.and_true, Bool.eq_iff_iff]
  simp only [beq_iff_eq, decide_eq_true_eq]
  exact ⟨fun h => by rw [h], fun h => (UInt8.toNat_inj.1 h).symm⟩

/-- A piece, with no look at what is behind it. -/
def pieceR (W : PS → Option (Re × PS)) (s : List UInt8) (st : PS) : Option (Re × PS) :=
  match atomP W s st with
  | none => none
  | some (a, st1) => repP s a st1

theorem again_mem {c : Nat} (h : again.contains c = true) : c = 42 ∨ c = 43 ∨ c = 63 ∨ c = 123 := by
  simpa [again] using h

theorem atom_stuck (W : PS → Option (Re × PS)) (s : List UInt8) (st : PS) (h : again.contains (pk s st.pos) = true) : atomP W s st = none := by
  unfold atomP
  generalize pk s st.pos = c at h
  rcases again_mem h with rfl | rfl | rfl | rfl <;> rfl

theorem loop_stuck (W : PS → Option (Re × PS)) (s : List UInt8) (f : Nat) (st : PS) (rows : List (List Re)) (cur : List Re) (h : again.contains (pk s st.pos) = true) : loopP (pieceR W s) s f st rows cur = none := by
  cases f with
  | zero => rfl
  | succ f =>
    have hlt : st.pos < s.length := pk_some (by rcases again_mem h with e | e | e | e <;> rw [e] <;> decide)
    have hp : pieceR W s st = none := by unfold pieceR; rw [atom_stuck W s st h]
    have h1 : ¬ pk s st.pos = 41 := by rcases again_mem h with e | e | e | e <;> rw [e] <;> decide
    have h2 : ¬ tk s st.pos [124] = true := by
      rw [tk_one _ _ _ hlt]
      rcases again_mem h with e | e | e | e <;> rw [e] <;> decide
    unfold loopP
    rw [if_pos ⟨hlt, h1⟩, if_neg h2, hp]

theorem loop_same (W : PS → Option (Re × PS)) (s : List UInt8) : ∀ (f : Nat) (st : PS) (rows : List (List Re)) (cur : List Re), loopP (pieceP W s) s f st rows cur = loopP (pieceR W s) s f st rows cur := by
  intro f
  induction f with
  | zero => intros; rfl
  | succ f ih =>
    intro st rows cur
    unfold loopP
    by_cases h0 : st.pos < s.length ∧ pk s st.pos ≠ 41
    · rw [if_pos h0, if_pos h0]
      by_cases h1 : tk s st.pos [124] = true
      · rw [if_pos h1, if_pos h1, ih]
      · rw [if_neg h1, if_neg h1]
        unfold pieceP pieceR repP
        cases ha : atomP W s st with
        | none => rfl
        | some x =>
          obtain ⟨a, st1⟩ := x
          cases ht : timesP s st1.pos with
          | none => simp only [ht]
          | some y =>
            obtain ⟨o, j⟩ := y
            cases o with
            | none => simp only [ht]; exact ih _ _ _
            | some z =>
              obtain ⟨lo, hi⟩ := z
              simp only [ht]
              by_cases h2 : isAsr a = true
              · rw [if_pos h2, if_pos h2]
              · rw [if_neg h2, if_neg h2]
                by_cases h3 : again.contains (pk s (howP s a lo hi { st1 with pos := j }).2.pos) = true
                · rw [if_pos h3]
                  have h4 := loop_stuck W s f (howP s a lo hi { st1 with pos := j }).2 rows (cur ++ [(howP s a lo hi { st1 with pos := j }).1]) h3
                  exact h4.symm
                · rw [if_neg h3]
                  exact ih _ _ _
    · rw [if_neg h0, if_neg h0]

/-- Alternatives as the document reads them. -/
theorem waysR_succ (s : List UInt8) (d : Nat) (st : PS) : waysP s (d + 1) st = waysEnd (loopP (pieceR (waysP s d) s) s (s.length + 1 - st.pos) st [] []) := by
  rw [← loop_same]
  rfl

/-- At most so many digits. -/
def digs4 (s : List UInt8) : Nat → Nat → Nat → Nat × Nat
  | 0, i, n => (n, i)
  | f + 1, i, n => if isDig (pk s i) = true then digs4 s f (i + 1) (n * 10 + (pk s i - 48)) else (n, i)
def cntOk (s : List UInt8) (i : Nat) (r : Nat × Nat) : Bool := decide (i < r.2) && (decide (r.1 ≤ 100) && (!decide (pk s i = 48) || decide (r.2 = i + 1)))

theorem digs_le (s : List UInt8) : ∀ f i n, i ≤ (digs s f i n).2
  | 0, i, n => Nat.le_refl _
  | f + 1, i, n => by
    unfold digs
    split
    · exact Nat.le_trans (Nat.le_succ i) (digs_le s f (i + 1) _)
    · exact Nat.le_refl _
theorem digs_cap (s : List UInt8) : ∀ f i, (digs s f i 101).1 = 101
  | 0, i => rfl
  | f + 1, i => by
    unfold digs
    split
    · rw [show min (101 * 10 + (pk s i - 48)) 101 = 101 by omega]
      exact digs_cap s f (i + 1)
    · rfl

theorem isDig_lt {s : List UInt8} {i : Nat} (h : isDig (pk s i) = true) : i < s.length ∧ 48 ≤ pk s i ∧ pk s i ≤ 57 := by
  have h1 : 48 ≤ pk s i ∧ pk s i ≤ 57 := by simpa [isDig] using h
  exact ⟨pk_some (by omega), h1⟩

theorem digs_on {s : List UInt8} {f i n : Nat} (h : isDig (pk s i) = true) : digs s (f + 1) i n = digs s f (i + 1) (min (n * 10 + (pk s i - 48)) 101) := if_pos h
theorem digs_off {s : List UInt8} {f i n : Nat} (h : ¬ isDig (pk s i) = true) : digs s f i n = (n, i) := by
  cases f with
  | zero => rfl
  | succ f => exact if_neg h
theorem digs4_on {s : List UInt8} {f i n : Nat} (h : isDig (pk s i) = true) : digs4 s (f + 1) i n = digs4 s f (i + 1) (n * 10 + (pk s i - 48)) := if_pos h
theorem digs4_off {s : List UInt8} {f i n : Nat} (h : ¬ isDig (pk s i) = true) : digs4 s f i n = (n, i) := by
  cases f with
  | zero => rfl
  | succ f => exact if_neg h

/-- The two ways to count agree. -/
theorem num_agree (s : List UInt8) (i a b c d : Nat) (h : (a = c ∧ b = d ∧ i ≤ b) ∨ (100 < a ∧ 100 < c) ∨ (pk s i = 48 ∧ i + 1 < b ∧ i + 1 < d)) : numOk s i (a, b) = if cntOk s i (c, d) = true then some (c, d) else none := by
  unfold numOk cntOk
  rcases h with ⟨rfl, rfl, hib⟩ | ⟨h1, h2⟩ | ⟨h1, h2, h3⟩
  · by_cases hb : b = i ∨ 100 < a ∨ pk s i = 48 ∧ i + 1 < b
    · rw [if_pos hb, if_neg]
      simp
      intro h4 h5
      rcases hb with e | e | ⟨e1, e2⟩
      · omega
      · omega
      · exact ⟨e1, by omega⟩
    · rw [if_neg hb, if_pos]
      simp
      refine ⟨by omega, by omega, ?_⟩
      by_cases e : pk s i = 48
      · right; omega
      · left; exact e
  · rw [if_pos (.inr (.inl h1)), if_neg]
    simp
    intros; omega
  · rw [if_pos (.inr (.inr ⟨h1, h2⟩)), if_neg]
    simp
    intro _ _
    exact ⟨h1, by omega⟩

theorem num_four (s : List UInt8) (i : Nat) : numP s i = if cntOk s i (digs4 s 4 i 0) = true then some (digs4 s 4 i 0) else none := by
  unfold numP
  by_cases d0 : isDig (pk s i) = true
  · obtain ⟨l0, a0, b0⟩ := isDig_lt d0
    obtain ⟨f0, e0⟩ : ∃ f, s.length + 1 - i = f + 1 := ⟨s.length - i, by omega⟩
    rw [e0, digs_on d0, digs4_on d0]
    by_cases d1 : isDig (pk s (i + 1)) = true
    · obtain ⟨l1, a1, b1⟩ := isDig_lt d1
      obtain ⟨f1, rfl⟩ : ∃ f, f0 = f + 1 := ⟨f0 - 1, by omega⟩
      rw [digs_on d1, digs4_on d1]
      by_cases d2 : isDig (pk s (i + 1 + 1)) = true
      · obtain ⟨l2, a2, b2⟩ := isDig_lt d2
        obtain ⟨f2, rfl⟩ : ∃ f, f1 = f + 1 := ⟨f1 - 1, by omega⟩
        rw [digs_on d2, digs4_on d2]
        by_cases d3 : isDig (pk s (i + 1 + 1 + 1)) = true
        · obtain ⟨l3, a3, b3⟩ := isDig_lt d3
          obtain ⟨f3, rfl⟩ : ∃ f, f2 = f + 1 := ⟨f2 - 1, by omega⟩
          rw [digs_on d3, digs4_on d3]
          by_cases z : pk s i = 48
          · have h1 := digs_le s f3 (i + 1 + 1 + 1 + 1) (min ((min ((min ((min (0 * 10 + (pk s i - 48)) 101) * 10 + (pk s (i + 1) - 48)) 101) * 10 + (pk s (i + 1 + 1) - 48)) 101) * 10 + (pk s (i + 1 + 1 + 1) - 48)) 101)
            exact num_agree s i _ _ _ _ (.inr (.inr ⟨z, by omega, by omega⟩))
          · have e : min ((min ((min ((min (0 * 10 + (pk s i - 48)) 101) * 10 + (pk s (i + 1) - 48)) 101) * 10 + (pk s (i + 1 + 1) - 48)) 101) * 10 + (pk s (i + 1 + 1 + 1) - 48)) 101 = 101 := by omega
            rw [e]
            have h1 := digs_cap s f3 (i + 1 + 1 + 1 + 1)
            exact num_agree s i _ _ _ _ (.inr (.inl ⟨by omega, by omega⟩))
        · rw [digs_off d3, digs4_off d3]
          by_cases z : pk s i = 48
          · exact num_agree s i _ _ _ _ (.inr (.inr ⟨z, by omega, by omega⟩))
          · by_cases q : ((0 * 10 + (pk s i - 48)) * 10 + (pk s (i + 1) - 48)) * 10 + (pk s (i + 1 + 1) - 48) ≤ 100
            · exact num_agree s i _ _ _ _ (.inl ⟨by omega, rfl, by omega⟩)
            · exact num_agree s i _ _ _ _ (.inr (.inl ⟨by omega, by omega⟩))
      · rw [digs_off d2, digs4_off d2]
        exact num_agree s i _ _ _ _ (.inl ⟨by omega, rfl, by omega⟩)
    · rw [digs_off d1, digs4_off d1]
      exact num_agree s i _ _ _ _ (.inl ⟨by omega, rfl, by omega⟩)
  · rw [digs_off d0, digs4_off d0]
    exact num_agree s i _ _ _ _ (.inl ⟨rfl, rfl, Nat.le_refl _⟩)
end Go.Proofs.YtlgpilcjcomacaaGreat.Rx

/-
  The document's reader in memory; peek, end, next.
-/
namespace Go.Proofs.YtlgpilcjcomacaaGreat
open Go.RowKit Rx
set_option linter.unusedVariables false

/-- A reader of the document. -/
structure RR (br : Nat) (s : ByteArray) (deep : Nat) (st : PS) (w : World) : Prop where
  c0 : w.cell? ⟨br, 0, none⟩ = some (.string s)
  c1 : Holds w br 1 (.int .i64 st.pos)
  c2 : Holds w br 2 (.int .i64 st.grps)
  c3 : Holds w br 3 (.int .i64 deep)
  c4 : Holds w br 4 (.int .i64 st.refs)
  c5 : Holds w br 5 (.bool false)
  le : st.pos ≤ s.size
  sz : s.size ≤ 300
  gs : st.grps ≤ 9
  rs : st.refs ≤ 9
  dp : deep ≤ 10

/-- A reader of the document that has seen a fault. -/
structure RX (br : Nat) (s : ByteArray) (w : World) : Prop where
  c0 : w.cell? ⟨br, 0, none⟩ = some (.string s)
  c1 : ∃ j : Nat, j ≤ s.size ∧ Holds w br 1 (.int .i64 j)
  c2 : ∃ x : Int, Holds w br 2 (.int .i64 x)
  c3 : ∃ x : Int, Holds w br 3 (.int .i64 x)
  c4 : ∃ x : Int, Holds w br 4 (.int .i64 x)
  c5 : Holds w br 5 (.bool true)
  sz : s.size ≤ 300

theorem RR.keep {S : Nat → Prop} {br : Nat} {s : ByteArray} {deep : Nat} {st : PS} {w w' : World} (h : RR br s deep st w) (t : Touch S w w') (hb : ¬ S br) : RR br s deep st w' :=
  ⟨t.has h.c0 hb, h.c1.keep t hb, h.c2.keep t hb, h.c3.keep t hb, h.c4.keep t hb, h.c5.keep t hb, h.le, h.sz, h.gs, h.rs, h.dp⟩
theorem RX.keep {S : Nat → Prop} {br : Nat} {s : ByteArray} {w w' : World} (h : RX br s w) (t : Touch S w w') (hb : ¬ S br) : RX br s w' :=
  ⟨t.has h.c0 hb, by obtain ⟨j, h1, h2⟩ := h.c1; exact ⟨j, h1, h2.keep t hb⟩, by obtain ⟨x, hx⟩ := h.c2; exact ⟨x, hx.keep t hb⟩, by obtain ⟨x, hx⟩ := h.c3; exact ⟨x, hx.keep t hb⟩, by obtain ⟨x, hx⟩ := h.c4; exact ⟨x, hx.keep t hb⟩, h.c5.keep t hb, h.sz⟩
theorem RR.lt {br : Nat} {s : ByteArray} {deep : Nat} {st : PS} {w : World} (h : RR br s deep st w) : br < w.heap.size := h.c1.lt
theorem RX.lt {br : Nat} {s : ByteArray} {w : World} (h : RX br s w) : br < w.heap.size := h.c5.lt
theorem RR.setPos {br : Nat} {s : ByteArray} {deep : Nat} {st : PS} {w : World} (h : RR br s deep st w) (j : Nat) (hj : j ≤ s.size) : RR br s deep { st with pos := j } (w.setCell ⟨br, 1, none⟩ (.int .i64 (j : Int))) :=
  ⟨cell_set_other h.c0 _ (.inr (by simp)), h.c1.set _, h.c2.set_other _ (.inr (by simp)), h.c3.set_other _ (.inr (by simp)), h.c4.set_other _ (.inr (by simp)), h.c5.set_other _ (.inr (by simp)), hj, h.sz, h.gs, h.rs, h.dp⟩
theorem RR.setGrps {br : Nat} {s : ByteArray} {deep : Nat} {st : PS} {w : World} (h : RR br s deep st w) (j : Nat) (hj : j ≤ 9) : RR br s deep { st with grps := j } (w.setCell ⟨br, 2, none⟩ (.int .i64 (j : Int))) :=
  ⟨cell_set_other h.c0 _ (.inr (by simp)), h.c1.set_other _ (.inr (by simp)), h.c2.set _, h.c3.set_other _ (.inr (by simp)), h.c4.set_other _ (.inr (by simp)), h.c5.set_other _ (.inr (by simp)), h.le, h.sz, hj, h.rs, h.dp⟩
theorem RR.setDeep {br : Nat} {s : ByteArray} {deep : Nat} {st : PS} {w : World} (h : RR br s deep st w) (j : Nat) (hj : j ≤ 10) : RR br s j st (w.setCell ⟨br, 3, none⟩ (.int .i64 (j : Int))) :=
  ⟨cell_set_other h.c0 _ (.inr (by simp)), h.c1.set_other _ (.inr (by simp)), h.c2.set_other _ (.inr (by simp)), h.c3.set _, h.c4.set_other _ (.inr (by simp)), h.c5.set_other _ (.inr (by simp)), h.le, h.sz, h.gs, h.rs, hj⟩
theorem RR.setRefs {br : Nat} {s : ByteArray} {deep : Nat} {st : PS} {w : World} (h : RR br s deep st w) (j : Nat) (hj : j ≤ 9) : RR br s deep { st with refs := j } (w.setCell ⟨br, 4, none⟩ (.int .i64 (j : Int))) :=
  ⟨cell_set_other h.c0 _ (.inr (by simp)), h.c1.set_other _ (.inr (by simp)), h.c2.set_other _ (.inr (by simp)), h.c3.set_other _ (.inr (by simp)), h.c4.set _, h.c5.set_other _ (.inr (by simp)), h.le, h.sz, h.gs, hj, h.dp⟩

/-- A reader whatever it has seen: not bad, or bad. -/
theorem RR.bad {br : Nat} {s : ByteArray} {deep : Nat} {st : PS} {w : World} (h : RR br s deep st w) : RX br s (w.setCell ⟨br, 5, none⟩ (.bool true)) :=
  ⟨cell_set_other h.c0 _ (.inr (by simp)), ⟨_, h.le, h.c1.set_other _ (.inr (by simp))⟩, ⟨_, h.c2.set_other _ (.inr (by simp))⟩, ⟨_, h.c3.set_other _ (.inr (by simp))⟩, ⟨_, h.c4.set_other _ (.inr (by simp))⟩, h.c5.set _, h.sz⟩
theorem RX.setPos {br : Nat} {s : ByteArray} {w : World} (h : RX br s w) (j : Nat) (hj : j ≤ s.size) : RX br s (w.setCell ⟨br, 1, none⟩ (.int .i64 (j : Int))) :=
  ⟨cell_set_other h.c0 _ (.inr (by simp)), by obtain ⟨i, -, h2⟩ := h.c1; exact ⟨j, hj, h2.set _⟩, by obtain ⟨x, hx⟩ := h.c2; exact ⟨x, hx.set_other _ (.inr (by simp))⟩, by obtain ⟨x, hx⟩ := h.c3; exact ⟨x, hx.set_other _ (.inr (by simp))⟩, by obtain ⟨x, hx⟩ := h.c4; exact ⟨x, hx.set_other _ (.inr (by simp))⟩, h.c5.set_other _ (.inr (by simp)), h.sz⟩
theorem RX.setBad {br : Nat} {s : ByteArray} {w : World} (h : RX br s w) : RX br s (w.setCell ⟨br, 5, none⟩ (.bool true)) :=
  ⟨cell_set_other h.c0 _ (.inr (by simp)), by obtain ⟨i, h1, h2⟩ := h.c1; exact ⟨i, h1, h2.set_other _ (.inr (by simp))⟩, by obtain ⟨x, hx⟩ := h.c2; exact ⟨x, hx.set_other _ (.inr (by simp))⟩, by obtain ⟨x, hx⟩ := h.c3; exact ⟨x, hx.set_other _ (.inr (by simp))⟩, by obtain ⟨x, hx⟩ := h.c4; exact ⟨x, hx.set_other _ (.inr (by simp))⟩, h.c5.set _, h.sz⟩
theorem RX.setDeep {br : Nat} {s : ByteArray} {w : World} (h : RX br s w) (x : Int) : RX br s (w.setCell ⟨br, 3, none⟩ (.int .i64 x)) :=
  ⟨cell_set_other h.c0 _ (.inr (by simp)), by obtain ⟨i, h1, h2⟩ := h.c1; exact ⟨i, h1, h2.set_other _ (.inr (by simp))⟩, by obtain ⟨x, hx⟩ := h.c2; exact ⟨x, hx.set_other _ (.inr (by simp))⟩, by obtain ⟨y, hy⟩ := h.c3; exact ⟨x, hy.set _⟩, by obtain ⟨x, hx⟩ := h.c4; exact ⟨x, hx.set_other _ (.inr (by simp))⟩, h.c5.set_other _ (.inr (by simp)), h.sz⟩

set_option maxRecDepth 100000 in
theorem rpeek_any (br : Nat) (s : ByteArray) (j : Nat) (w : World) (h0 : w.cell? ⟨br, 0, none⟩ = some (.string s)) (h1 : w.cell? ⟨br, 1, none⟩ = some (.int .i64 j)) (hsz : s.size ≤ 300) (hle : j ≤ s.size) :
    Calls Tryz.prog 91 #[.pointer (some ⟨br, 0, none⟩)] w fun e w' => e = .returned (.int .u8 (pk (str s) j)) ∧ ∃ q, w' = w.drewN q := by
  by_cases hlt : j < s.size
  · have HP := Lib.hid (pk_lt hlt)
    have hd : decide (j < s.size) = true := by simp; omega
    go_enter Tryz.func91, Tryz.ntmps91
    go_wp2_with fail
    go_quiet (fail)
    go_wp2_with fail
    go_quiet (fail)
    go_wp2_with fail
    go_ret
    rw [HP.out]
    exact ⟨rfl, _, drewN2 _ _ _⟩
  · have HP := Lib.hid (pk_ge (Nat.le_of_not_lt hlt))
    have hd : decide (j < s.size) = false := by simp; omega
    go_enter Tryz.func91, Tryz.ntmps91
    go_wp2_with fail
    go_quiet (fail)
    go_wp2_with fail
    go_ret
    rw [HP.out]
    exact ⟨rfl, _, rfl⟩

set_option maxRecDepth 100000 in
theorem rend_any (br : Nat) (s : ByteArray) (j : Nat) (w : World) (h0 : w.cell? ⟨br, 0, none⟩ = some (.string s)) (h1 : w.cell? ⟨br, 1, none⟩ = some (.int .i64 j)) (hsz : s.size ≤ 300) (hle : j ≤ s.size) :
    Calls Tryz.prog 57 #[.pointer (some ⟨br, 0, none⟩)] w fun e w' => e = .returned (.bool (decide (s.size ≤ j))) ∧ ∃ q, w' = w.drewN q := by
  have HE : Hid (decide ((s.size : Int) ≤ (j : Int)) = decide (s.size ≤ j)) := Lib.hid (decide_eq_decide.2 (by omega))
  go_enter Tryz.func57, Tryz.ntmps57
  go_wp2_with fail
  go_quiet (fail)
  go_wp2_with fail
  go_ret
  exact ⟨rfl, _, rfl⟩

set_option maxRecDepth 100000 in
theorem rnext_no (br : Nat) (s t : ByteArray) (j : Nat) (w : World) (h0 : w.cell? ⟨br, 0, none⟩ = some (.string s)) (h1 : w.cell? ⟨br, 1, none⟩ = some (.int .i64 j)) (hsz : s.size ≤ 300) (hle : j ≤ s.size) (ht : tk (str s) j (str t) = false) :
    Calls Tryz.prog 80 #[.pointer (some ⟨br, 0, none⟩), .string t] w fun e w' => e = .returned (.bool false) ∧ ∃ q, w' = w.drewN q := by
  have HHP := Lib.hid (fun w => Tryz.strings_HasPrefix (s.extract j s.size) t w)
  have HE : Hid (Lib.hasPrefix (s.extract j s.size).data.toList t.data.toList = false) := Lib.hid (by
    rw [show (s.extract j s.size).data.toList = (str s).drop j from str_ext_end _ _]; exact ht)
  rw [HE.out] at HHP
  have hmin : min (j : Int) (s.size : Int) = (j : Int) := by omega
  clear ht
  go_enter Tryz.func80, Tryz.ntmps80
  go_wp2_with fail
  go_quiet ((go_at_call 64; exact Calls.quiet_of_same ((HHP.out _).mono fun e w' h => ⟨h.1, h.2⟩)))
  go_wp2_with fail
  go_ret
  exact ⟨rfl, _, rfl⟩

set_option maxRecDepth 100000 in
theorem rnext_yes (br : Nat) (s t : ByteArray) (j : Nat) (w : World) (h0 : w.cell? ⟨br, 0, none⟩ = some (.string s)) (h1 : Holds w br 1 (.int .i64 j)) (hsz : s.size ≤ 300) (hle : j ≤ s.size) (ht : tk (str s) j (str t) = true) (htz : t.size ≤ 2) :
    Calls Tryz.prog 80 #[.pointer (some ⟨br, 0, none⟩), .string t] w fun e w' => e = .returned (.bool true) ∧ ∃ q, w' = (w.drewN q).setCell ⟨br, 1, none⟩ (.int .i64 ((j + t.size : Nat) : Int)) := by
  have hl2 := tk_le ht hle
  have HHP := Lib.hid (fun w => Tryz.strings_HasPrefix (s.extract j s.size) t w)
  have HE : Hid (Lib.hasPrefix (s.extract j s.size).data.toList t.data.toList = true) := Lib.hid (by
    rw [show (s.extract j s.size).data.toList = (str s).drop j from str_ext_end _ _]; exact ht)
  rw [HE.out] at HHP
  obtain ⟨h1, h1f⟩ := h1
  have hmin : min (j : Int) (s.size : Int) = (j : Int) := by omega
  clear ht
  go_enter Tryz.func80, Tryz.ntmps80
  go_wp2_with fail
  go_quiet ((go_at_call 64; exact Calls.quiet_of_same ((HHP.out _).mono fun e w' h => ⟨h.1, h.2⟩)))
  go_wp2_with fail
  go_ret
  exact ⟨rfl, _, rfl⟩

/-- What comes of a call while the reader has seen a fault. -/
def Bads (br : Nat) (s : ByteArray) (w w' : World) : Prop := RX br s w' ∧ Touch (fun b => b = br) w w'

theorem rpeek_rr {br : Nat} {s : ByteArray} {deep : Nat} {st : PS} {w : World} (h : RR br s deep st w) :
    Calls Tryz.prog 91 #[.pointer (some ⟨br, 0, none⟩)] w fun e w' => e = .returned (.int .u8 (pk (str s) st.pos)) ∧ ∃ q, w' = w.drewN q :=
  rpeek_any br s st.pos w h.c0 h.c1.1 h.sz h.le
theorem rend_rr {br : Nat} {s : ByteArray} {deep : Nat} {st : PS} {w : World} (h : RR br s deep st w) :
    Calls Tryz.prog 57 #[.pointer (some ⟨br, 0, none⟩)] w fun e w' => e = .returned (.bool (decide (s.size ≤ st.pos))) ∧ ∃ q, w' = w.drewN q :=
  rend_any br s st.pos w h.c0 h.c1.1 h.sz h.le
theorem rpeek_rx {br : Nat} {s : ByteArray} {w : World} (h : RX br s w) :
    Calls Tryz.prog 91 #[.pointer (some ⟨br, 0, none⟩)] w fun e w' => ∃ c : Nat, e = .returned (.int .u8 (c : Int)) ∧ c < 256 ∧ ∃ q, w' = w.drewN q := by
  obtain ⟨j, hj, h1⟩ := h.c1
  exact (rpeek_any br s j w h.c0 h1.1 h.sz hj).mono fun e w' ⟨he, hq⟩ => ⟨_, he, pk_256 s j, hq⟩
theorem rend_rx {br : Nat} {s : ByteArray} {w : World} (h : RX br s w) :
    Calls Tryz.prog 57 #[.pointer (some ⟨br, 0, none⟩)] w fun e w' => ∃ b, e = .returned (.bool b) ∧ ∃ q, w' = w.drewN q := by
  obtain ⟨j, hj, h1⟩ := h.c1
  exact (rend_any br s j w h.c0 h1.1 h.sz hj).mono fun e w' ⟨he, hq⟩ => ⟨_, he, hq⟩
theorem rnext_rx {br : Nat} {s t : ByteArray} {w : World} (h : RX br s w) (ht : t.size ≤ 2) :
    Calls Tryz.prog 80 #[.pointer (some ⟨br, 0, none⟩), .string t] w fun e w' => ∃ b, e = .returned (.bool b) ∧ Bads br s w w' := by
  obtain ⟨j, hj, h1⟩ := h.c1
  by_cases hk : tk (str s) j (str t) = true
  · refine (rnext_yes br s t j w h.c0 h1 h.sz hj hk ht).mono ?_
    rintro e w' ⟨he, q, rfl⟩
    exact ⟨_, he, (h.keep (S := fun _ => False) ((Touch.refl _ _).drewN q) id).setPos _ (tk_le hk hj), Touch.setCell ((Touch.refl (fun b => b = br) w).drewN q) (.inl rfl) _⟩
  · refine (rnext_no br s t j w h.c0 h1.1 h.sz hj (by simpa using hk)).mono ?_
    rintro e w' ⟨he, q, rfl⟩
    exact ⟨_, he, h.keep (S := fun _ => False) ((Touch.refl _ _).drewN q) id, (Touch.refl _ _).drewN q⟩
end Go.Proofs.YtlgpilcjcomacaaGreat

/-
  A node of the document in memory.
-/
namespace Go.Proofs.YtlgpilcjcomacaaGreat
open Go.RowKit Rx
set_option linter.unusedVariables false

/-- What a node of the document holds. -/
structure NV where
  kind : Int
  set : Nat → Bool
  what : Nat
  num : Int
  kx : Option Addr
  kl : Nat
  kc : Nat
  lo : Int
  hi : Int
  lazy : Bool

def nv (v : NV) (i : Nat) : Value := if i = 0 then .int .i64 v.kind else if i < 257 then .bool (v.set (i - 1)) else if i = 257 then .int .u8 v.what else if i = 258 then .int .i64 v.num else if i = 259 then .slice v.kx v.kl v.kc else if i = 260 then .int .i64 v.lo else if i = 261 then .int .i64 v.hi else .bool v.lazy

theorem nv_set (v : NV) {i : Nat} (h : i < 256) : nv v (1 + i) = .bool (v.set i) := by unfold nv; rw [if_neg (by omega), if_pos (by omega), show 1 + i - 1 = i by omega]

def IsNode (A : Array Value) (v : NV) : Prop := A.size = 263 ∧ ∀ i, i < 263 → A[i]? = some (nv v i)
/-- A node, known whole. -/
def NodeB (w : World) (b : Nat) (v : NV) : Prop := ∃ A, w.heap[b]? = some (.cells A 97 (0, 0)) ∧ IsNode A v

def nv0 (k : Int) : NV := ⟨k, fun _ => false, 0, 0, none, 0, 0, 0, 0, false⟩

theorem zero_node : IsNode Tryz.zeroCells97 (nv0 0) := by
  have h : Tryz.zeroCells97 = (List.range 263).toArray.map (nv (nv0 0)) := by kernel_rfl
  rw [h]
  exact ⟨by simp, fun i hi => by simp [hi]⟩

theorem IsNode.put {A : Array Value} {v v' : NV} (h : IsNode A v) {i : Nat} (hi : i < 263) (u : Value) (hu : u = nv v' i) (ho : ∀ j, j < 263 → j ≠ i → nv v' j = nv v j) : IsNode (A.setIfInBounds i u) v' := by
  refine ⟨by simp [h.1], fun j hj => ?_⟩
  rw [Array.getElem?_setIfInBounds]
  by_cases e : i = j
  · subst e; simp [h.1, hi, hu]
  · rw [if_neg e, h.2 j hj, ho j hj (Ne.symm e)]

theorem nv_put_set (v : NV) (f : Nat → Bool) (j : Nat) (i : Nat) (hi : i < 256) (hf : ∀ x, x ≠ i → x < 256 → f x = v.set x) (hj : j < 263) (hne : j ≠ 1 + i) : nv { v with set := f } j = nv v j := by
  unfold nv
  by_cases h0 : j = 0
  · rw [if_pos h0, if_pos h0]
  · rw [if_neg h0, if_neg h0]
    by_cases h1 : j < 257
    · rw [if_pos h1, if_pos h1]
      show Value.bool (f (j - 1)) = _
      rw [hf (j - 1) (by omega) (by omega)]
    · rw [if_neg h1, if_neg h1]

theorem IsNode.kind {A : Array Value} {v : NV} (h : IsNode A v) (k : Int) : IsNode (A.setIfInBounds 0 (.int .i64 k)) { v with kind := k } :=
  h.put (by decide) _ rfl (fun j _ hne => by unfold nv; rw [if_neg hne, if_neg hne])
theorem IsNode.sets {A : Array Value} {v : NV} (h : IsNode A v) {i : Nat} (hi : i < 256) (b : Bool) : IsNode (A.setIfInBounds (1 + i) (.bool b)) { v with set := fun x => if x = i then b else v.set x } :=
  h.put (by omega) _ (by rw [nv_set _ hi]; simp) (fun j hj hne => nv_put_set v _ j i hi (fun x hx _ => if_neg hx) hj hne)
theorem nv_tail (v v' : NV) {j : Nat} (hk : v'.kind = v.kind) (hs : v'.set = v.set) (h257 : j = 257 → v'.what = v.what) (h258 : j = 258 → v'.num = v.num) (h259 : j = 259 → v'.kx = v.kx ∧ v'.kl = v.kl ∧ v'.kc = v.kc) (h260 : j = 260 → v'.lo = v.lo) (h261 : j = 261 → v'.hi = v.hi) (h262 : 262 ≤ j → v'.lazy = v.lazy) : nv v' j = nv v j := by
  unfold nv
  rw [hk, hs]
  split
  · rfl
  · split
    · rfl
    · split
      · rename_i h; rw [h257 h]
      · split
        · rename_i h; rw [h258 h]
        · split
          · rename_i h; obtain ⟨a, b, c⟩ := h259 h; rw [a, b, c]
          · split
            · rename_i h; rw [h260 h]
            · split
              · rename_i h; rw [h261 h]
              · rw [h262 (by omega)]
theorem IsNode.what {A : Array Value} {v : NV} (h : IsNode A v) (c : Nat) : IsNode (A.setIfInBounds 257 (.int .u8 (c : Int))) { v with what := c } :=
  h.put (by decide) _ rfl (fun j _ hne => nv_tail _ _ rfl rfl (fun e => absurd e hne) (fun _ => rfl) (fun _ => ⟨rfl, rfl, rfl⟩) (fun _ => rfl) (fun _ => rfl) (fun _ => rfl))
theorem IsNode.num {A : Array Value} {v : NV} (h : IsNode A v) (c : Int) : IsNode (A.setIfInBounds 258 (.int .i64 c)) { v with num := c } :=
  h.put (by decide) _ rfl (fun j _ hne => nv_tail _ _ rfl rfl (fun _ => rfl) (fun e => absurd e hne) (fun _ => ⟨rfl, rfl, rfl⟩) (fun _ => rfl) (fun _ => rfl) (fun _ => rfl))
theorem IsNode.kids {A : Array Value} {v : NV} (h : IsNode A v) (x : Option Addr) (l c : Nat) : IsNode (A.setIfInBounds 259 (.slice x l c)) { v with kx := x, kl := l, kc := c } :=
  h.put (by decide) _ rfl (fun j _ hne => nv_tail _ _ rfl rfl (fun _ => rfl) (fun _ => rfl) (fun e => absurd e hne) (fun _ => rfl) (fun _ => rfl) (fun _ => rfl))
theorem IsNode.lo {A : Array Value} {v : NV} (h : IsNode A v) (c : Int) : IsNode (A.setIfInBounds 260 (.int .i64 c)) { v with lo := c } :=
  h.put (by decide) _ rfl (fun j _ hne => nv_tail _ _ rfl rfl (fun _ => rfl) (fun _ => rfl) (fun _ => ⟨rfl, rfl, rfl⟩) (fun e => absurd e hne) (fun _ => rfl) (fun _ => rfl))
theorem IsNode.hi {A : Array Value} {v : NV} (h : IsNode A v) (c : Int) : IsNode (A.setIfInBounds 261 (.int .i64 c)) { v with hi := c } :=
  h.put (by decide) _ rfl (fun j _ hne => nv_tail _ _ rfl rfl (fun _ => rfl) (fun _ => rfl) (fun _ => ⟨rfl, rfl, rfl⟩) (fun _ => rfl) (fun e => absurd e hne) (fun _ => rfl))
theorem IsNode.lazy {A : Array Value} {v : NV} (h : IsNode A v) (c : Bool) : IsNode (A.setIfInBounds 262 (.bool c)) { v with lazy := c } :=
  h.put (by decide) _ rfl (fun j hj hne => nv_tail _ _ rfl rfl (fun _ => rfl) (fun _ => rfl) (fun _ => ⟨rfl, rfl, rfl⟩) (fun _ => rfl) (fun _ => rfl) (fun e => absurd (by omega) hne))

theorem NodeB.cell {w : World} {b : Nat} {v : NV} (h : NodeB w b v) {i : Nat} (hi : i < 263) : Holds w b i (nv v i) := by
  obtain ⟨A, hA, hs⟩ := h
  exact ⟨by unfold World.cell?; simp [hA, hs.2 i hi], by unfold World.frozen?; simp [hA]⟩
theorem NodeB.lt {w : World} {b : Nat} {v : NV} (h : NodeB w b v) : b < w.heap.size := by obtain ⟨A, hA, -⟩ := h; exact (Array.getElem?_eq_some_iff.1 hA).1
theorem NodeB.keep {S : Nat → Prop} {w w' : World} {b : Nat} {v : NV} (h : NodeB w b v) (t : Touch S w w') (hb : ¬ S b) : NodeB w' b v := by
  have hl := h.lt
  obtain ⟨A, hA, hs⟩ := h
  exact ⟨A, (t.block b hl hb).trans hA, hs⟩
theorem NodeB.made (w : World) (A : Array Value) (v : NV) (h : IsNode A v) : NodeB (w.alloc (.cells A 97)) w.heap.size v := ⟨A, heap_alloc_new w _, h⟩
theorem NodeB.put {w : World} {b : Nat} {v v' : NV} (h : NodeB w b v) {i : Nat} (u : Value) (hp : ∀ A, IsNode A v → IsNode (A.setIfInBounds i u) v') : NodeB (w.setCell ⟨b, i, none⟩ u) b v' := by
  obtain ⟨A, hA, hs⟩ := h
  refine ⟨A.setIfInBounds i u, ?_, hp A hs⟩
  rw [setCell_eq_setRow w b i _ _ (0, 0) _ hA, setRow_heap w b _ _ _ (0, 0) hA]

/-- A node of a kind, made new. -/
theorem node_new (w : World) (k : Int) : NodeB (w.alloc (.cells (Tryz.zeroCells97.setIfInBounds 0 (.int .i64 k)) 97)) w.heap.size (nv0 k) := NodeB.made w _ _ (zero_node.kind k)

set_option maxRecDepth 100000 in
theorem rone_any (c : Nat) (hc : c < 256) (w : World) :
    Calls Tryz.prog 103 #[.int .u8 (c : Int)] w fun e w' => e = .returned (.pointer (some ⟨w.heap.size, 0, none⟩)) ∧ Still w w' ∧ w'.heap.size = w.heap.size + 1 ∧ NodeB w' w.heap.size { nv0 0 with set := fun x => decide (x = c) } := by
  have hk := zero_node.kind 0
  have hx := hk.2 (1 + c) (by omega)
  rw [nv_set _ hc] at hx
  have HK := Lib.hid hk
  clear hk
  go_enter Tryz.func103, Tryz.ntmps103
  go_wp2_with fail
  go_ret
  refine ⟨rfl, (Touch.refl _ _).alloc _, by simp, ?_⟩
  exact NodeB.made w _ _ (by
    have h := HK.out.sets hc true
    refine ⟨h.1, fun i hi => (h.2 i hi).trans ?_⟩
    congr 1)
end Go.Proofs.YtlgpilcjcomacaaGreat

/-
  Plain: reading goes on: places only grow.
-/
namespace Go.Proofs.YtlgpilcjcomacaaGreat.Rx
set_option linter.unusedVariables false

theorem member_pos {s : List UInt8} {i : Nat} {r : Nat × Option (Nat → Bool) × Nat} (h : memberP s i = some r) : i < r.2.2 := by
  unfold memberP at h
  split at h
  · cases h
  · split at h
    · cases h; show i < i + 1; omega
    · split at h
      · cases h
      · split at h
        · cases h; show i < i + 2; omega
        · split at h
          · cases h
          · cases h; show i < i + 2; omega

theorem class_pos (s : List UInt8) : ∀ f first i g r, classP s f first i g = some r → i ≤ r.2 := by
  intro f
  induction f with
  | zero => intro first i g r h; cases h
  | succ f ih =>
    intro first i g r h
    unfold classP at h
    split at h
    · cases h; exact Nat.le_refl _
    · split at h
      · cases h
      · rename_i c m j hm
        have hj := member_pos hm
        simp only at hj
        split at h
        · cases h
        · split at h
          · have := ih _ _ _ _ h; omega
          · split at h
            · split at h
              · cases h
              · rename_i d m2 k hm2
                have hk := member_pos hm2
                simp only at hk
                split at h
                · cases h
                · have := ih _ _ _ _ h; omega
            · have := ih _ _ _ _ h; omega

theorem classAll_pos {s : List UInt8} {i : Nat} {r : (Nat → Bool) × Nat} (h : classAll s i = some r) : i < r.2 := by
  unfold classAll classEnd at h
  split at h
  · cases h
  · rename_i g j hc
    cases h
    have := class_pos s _ _ _ _ _ hc
    simp only at this ⊢
    split at this <;> omega

theorem num_pos {s : List UInt8} {i : Nat} {r : Nat × Nat} (h : numP s i = some r) : i ≤ r.2 := by
  unfold numP numOk at h
  split at h
  · cases h
  · cases h
    exact digs_le s _ _ _

theorem times_pos {s : List UInt8} {i : Nat} {r : Option (Nat × Int) × Nat} (h : timesP s i = some r) : i ≤ r.2 := by
  unfold timesP at h
  split at h
  · cases h; show i ≤ i + 1; omega
  · split at h
    · cases h; show i ≤ i + 1; omega
    · split at h
      · cases h; show i ≤ i + 1; omega
      · split at h
        · split at h
          · cases h
          · rename_i lo j hn
            have h1 := num_pos hn
            simp only at h1
            split at h
            · split at h
              · cases h; show i ≤ j + 2; omega
              · split at h
                · cases h
                · rename_i hi k hn2
                  have h2 := num_pos hn2
                  simp only at h2
                  split at h
                  · cases h; show i ≤ k + 1; omega
                  · cases h
            · split at h
              · cases h; show i ≤ j + 1; omega
              · cases h
        · cases h; exact Nat.le_refl _

def PPos (P : PS → Option (Re × PS)) : Prop := ∀ st a st', P st = some (a, st') → st.pos ≤ st'.pos

theorem esc_pos {s : List UInt8} {st : PS} {a : Re} {st' : PS} (h : escP s st = some (a, st')) : st'.pos = st.pos + 1 := by
  unfold escP at h
  split at h
  · cases h
  · split at h
    · cases h; rfl
    · split at h
      · cases h; rfl
      · split at h
        · cases h; rfl
        · split at h
          · cases h; rfl
          · split at h
            · cases h; rfl
            · split at h
              · cases h; rfl
              · split at h
                · cases h
                · cases h; rfl

theorem inside_pos {W : PS → Option (Re × PS)} (hW : PPos W) {s : List UInt8} {mk : Re → Re} {st : PS} {a : Re} {st' : PS} (h : insideP W s mk st = some (a, st')) : st.pos < st'.pos := by
  unfold insideP at h
  split at h
  · cases h
  · split at h
    · cases h
    · rename_i x st1 hw
      have := hW _ _ _ hw
      split at h
      · cases h; show st.pos < st1.pos + 1; omega
      · cases h

theorem grp_pos {W : PS → Option (Re × PS)} (hW : PPos W) {s : List UInt8} {st : PS} {a : Re} {st' : PS} (h : grpP W s st = some (a, st')) : st.pos < st'.pos := by
  unfold grpP at h
  split at h
  · have := inside_pos hW h; simp only at this; omega
  · split at h
    · have := inside_pos hW h; simp only at this; omega
    · split at h
      · have := inside_pos hW h; simp only at this; omega
      · split at h
        · have := inside_pos hW h; simp only at this; omega
        · split at h
          · cases h
          · have := inside_pos hW h; simp only at this; omega

theorem atom_pos {W : PS → Option (Re × PS)} (hW : PPos W) {s : List UInt8} {st : PS} {a : Re} {st' : PS} (h : atomP W s st = some (a, st')) : st.pos < st'.pos := by
  unfold atomP at h
  split at h
  · have := esc_pos h; simp only at this; omega
  · split at h
    · cases h; show st.pos < st.pos + 1; omega
    · split at h
      · cases h; show st.pos < st.pos + 1; omega
      · split at h
        · cases h; show st.pos < st.pos + 1; omega
        · split at h
          · split at h
            · cases h
            · rename_i f j hc
              cases h
              have := classAll_pos hc
              simp only at this ⊢
              omega
          · split at h
            · have := grp_pos hW h; simp only at this; omega
            · split at h
              · cases h
              · cases h; show st.pos < st.pos + 1; omega

theorem how_pos (s : List UInt8) (a : Re) (lo : Nat) (hi : Int) (st : PS) : st.pos ≤ (howP s a lo hi st).2.pos := by
  unfold howP
  split
  · show st.pos ≤ st.pos + 1; omega
  · split
    · show st.pos ≤ st.pos + 1; omega
    · exact Nat.le_refl _

theorem rep_pos {s : List UInt8} {a : Re} {st : PS} {a' : Re} {st' : PS} (h : repP s a st = some (a', st')) : st.pos ≤ st'.pos := by
  unfold repP at h
  split at h
  · cases h
  · cases h; exact Nat.le_refl _
  · rename_i lo hi j ht
    have h1 := times_pos ht
    simp only at h1
    split at h
    · cases h
    · have e := Option.some.inj h
      have h2 := how_pos s a lo hi { st with pos := j }
      rw [e] at h2
      simp only at h2
      omega

theorem pieceR_pos {W : PS → Option (Re × PS)} (hW : PPos W) {s : List UInt8} {st : PS} {a : Re} {st' : PS} (h : pieceR W s st = some (a, st')) : st.pos < st'.pos := by
  unfold pieceR at h
  split at h
  · cases h
  · rename_i x st1 ha
    have h1 := atom_pos hW ha
    have h2 := rep_pos h
    omega

theorem loop_pos {P : PS → Option (Re × PS)} (hP : ∀ st a st', P st = some (a, st') → st.pos < st'.pos) (s : List UInt8) : ∀ f st rows cur res st', loopP P s f st rows cur = some (res, st') → st.pos ≤ st'.pos := by
  intro f
  induction f with
  | zero => intro st rows cur res st' h; cases h
  | succ f ih =>
    intro st rows cur res st' h
    unfold loopP at h
    split at h
    · split at h
      · have := ih _ _ _ _ _ h; simp only at this; omega
      · split at h
        · cases h
        · rename_i x st1 hp
          have h1 := hP _ _ _ hp
          have := ih _ _ _ _ _ h
          omega
    · cases h; exact Nat.le_refl _

theorem ways_pos (s : List UInt8) : ∀ d, PPos (waysP s d)
  | 0 => fun st a st' h => by cases h
  | d + 1 => fun st a st' h => by
    rw [waysR_succ] at h
    unfold waysEnd at h
    split at h
    · cases h
    · rename_i rows st1 hl
      cases h
      exact loop_pos (fun st a st' h => pieceR_pos (ways_pos s d) h) s _ _ _ _ _ _ hl
end Go.Proofs.YtlgpilcjcomacaaGreat.Rx
