/-
  Texts Sa, Sb in one.
-/
import Derived.Test.YtlgpilcjcomacaaGreatBa
import Derived.Test.YtlgpilcjcomacaaGreatAb
/-
  The document's matcher in memory; its step, word, border, holds.
-/
namespace Go.Proofs.YtlgpilcjcomacaaGreat
open Go.RowKit Rx
set_option linter.unusedVariables false

/-- What is fixed while the document tries a pattern: the try's block, the budget, the text, the world in which the tree was read. -/
structure Cr where
  bt : Nat
  B : Nat
  s : ByteArray
  wT : World

/-- The document's try in memory, under way: n steps, groups g. -/
structure IR (c : Cr) (n : Nat) (g : Grp) (w : World) : Prop where
  c0 : w.cell? ⟨c.bt, 0, none⟩ = some (.string c.s)
  c1 : Holds w c.bt 1 (.int .i64 n)
  c2 : w.cell? ⟨c.bt, 2, none⟩ = some (.int .i64 c.B)
  cg : ∀ j, j < 20 → Holds w c.bt (3 + j) (gv g j)
  ce : ∃ x : Int, Holds w c.bt 23 (.int .i64 x)
  nB : n ≤ c.B
  lB : c.B ≤ 1000000
  sz : c.s.size ≤ 5000
  gi : GInv c.s.size g
  tr : Touch (fun b => b = c.bt) c.wT w

theorem IR.lt {c : Cr} {n : Nat} {g : Grp} {w : World} (h : IR c n g w) : c.bt < w.heap.size := h.c1.lt
theorem IR.keep {c : Cr} {n : Nat} {g : Grp} {w w' : World} (h : IR c n g w) (t : Still w w') : IR c n g w' :=
  ⟨t.has h.c0 id, h.c1.keep t id, t.has h.c2 id, fun j hj => (h.cg j hj).keep t id, by obtain ⟨x, hx⟩ := h.ce; exact ⟨x, hx.keep t id⟩, h.nB, h.lB, h.sz, h.gi, h.tr.trans t (fun _ e => e.elim)⟩
theorem IR.step {c : Cr} {n : Nat} {g : Grp} {w : World} (h : IR c n g w) (hn : n < c.B) : IR c (n + 1) g (w.setCell ⟨c.bt, 1, none⟩ (.int .i64 ((n + 1 : Nat) : Int))) :=
  ⟨cell_set_other h.c0 _ (.inr (by simp)), h.c1.set _, cell_set_other h.c2 _ (.inr (by simp)), fun j hj => (h.cg j hj).set_other _ (.inr (by show 1 ≠ 3 + j; omega)), by obtain ⟨x, hx⟩ := h.ce; exact ⟨x, hx.set_other _ (.inr (by simp))⟩, hn, h.lB, h.sz, h.gi, h.tr.setCell (.inl rfl) _⟩
theorem IR.answer {c : Cr} {n : Nat} {g : Grp} {w : World} (h : IR c n g w) (x : Int) : IR c n g (w.setCell ⟨c.bt, 23, none⟩ (.int .i64 x)) :=
  ⟨cell_set_other h.c0 _ (.inr (by simp)), h.c1.set_other _ (.inr (by simp)), cell_set_other h.c2 _ (.inr (by simp)), fun j hj => (h.cg j hj).set_other _ (.inr (by show 23 ≠ 3 + j; omega)), by obtain ⟨y, hy⟩ := h.ce; exact ⟨x, hy.set _⟩, h.nB, h.lB, h.sz, h.gi, h.tr.setCell (.inl rfl) _⟩

theorem gv_upd_other (g : Grp) (i : Nat) (v : Int × Int) (j : Nat) (h : j / 2 ≠ i) : gv (upd g i v) j = gv g j := by
  unfold gv upd
  rw [if_neg h]
theorem gv_upd0 (g : Grp) (i : Nat) (v : Int × Int) : gv (upd g i v) (2 * i) = .int .i64 v.1 := by rw [gv_even]; unfold upd; rw [if_pos rfl]
theorem gv_upd1 (g : Grp) (i : Nat) (v : Int × Int) : gv (upd g i v) (2 * i + 1) = .int .i64 v.2 := by rw [gv_odd]; unfold upd; rw [if_pos rfl]

/-- One group is written. -/
theorem IR.group {c : Cr} {n : Nat} {g : Grp} {w : World} (h : IR c n g w) (i : Nat) (hi : i < 10) (v : Int × Int) (hv : v = (-1, -1) ∨ (0 ≤ v.1 ∧ v.1 ≤ v.2 ∧ v.2 ≤ (c.s.size : Int))) :
    IR c n (upd g i v) ((w.setCell ⟨c.bt, 3 + 2 * i, none⟩ (.int .i64 v.1)).setCell ⟨c.bt, 3 + (2 * i + 1), none⟩ (.int .i64 v.2)) :=
  ⟨cell_set_other (cell_set_other h.c0 _ (.inr (by show 3 + 2 * i ≠ 0; omega))) _ (.inr (by show 3 + (2 * i + 1) ≠ 0; omega)),
    (h.c1.set_other _ (.inr (by show 3 + 2 * i ≠ 1; omega))).set_other _ (.inr (by show 3 + (2 * i + 1) ≠ 1; omega)),
    cell_set_other (cell_set_other h.c2 _ (.inr (by show 3 + 2 * i ≠ 2; omega))) _ (.inr (by show 3 + (2 * i + 1) ≠ 2; omega)),
    fun j hj => by
      by_cases e1 : j = 2 * i + 1
      · subst e1
        rw [gv_upd1]
        exact ((h.cg (2 * i + 1) hj).set_other _ (.inr (by show 3 + 2 * i ≠ 3 + (2 * i + 1); omega))).set _
      · by_cases e0 : j = 2 * i
        · subst e0
          rw [gv_upd0]
          exact ((h.cg (2 * i) hj).set _).set_other _ (.inr (by show 3 + (2 * i + 1) ≠ 3 + 2 * i; omega))
        · rw [gv_upd_other _ _ _ _ (by omega)]
          exact ((h.cg j hj).set_other _ (.inr (by show 3 + 2 * i ≠ 3 + j; omega))).set_other _ (.inr (by show 3 + (2 * i + 1) ≠ 3 + j; omega)),
    by obtain ⟨x, hx⟩ := h.ce; exact ⟨x, (hx.set_other _ (.inr (by show 3 + 2 * i ≠ 23; omega))).set_other _ (.inr (by show 3 + (2 * i + 1) ≠ 23; omega))⟩, h.nB, h.lB, h.sz,
    fun j => by
      by_cases e : j = i
      · subst e; rw [show (upd g j v j) = v from if_pos rfl]; exact hv
      · rw [show (upd g i v j) = g j from if_neg e]; exact h.gi j,
    (h.tr.setCell (.inl rfl) _).setCell (.inl rfl) _⟩

/-- What comes back of a try of the document from a place lo on. -/
def GotR (c : Cr) (w : World) (lo : Nat) (g : Grp) : Res → Ending → World → Prop
  | .over, e, w' => e = .returned (.int .i64 2) ∧ (∃ x : Int, Holds w' c.bt 1 (.int .i64 x)) ∧ Touch (fun b => b = c.bt) w w'
  | .no n, e, w' => e = .returned (.int .i64 0) ∧ IR c n g w' ∧ Touch (fun b => b = c.bt) w w'
  | .yes n h x, e, w' => e = .returned (.int .i64 1) ∧ IR c n h w' ∧ Holds w' c.bt 23 (.int .i64 (x : Int)) ∧ lo ≤ x ∧ x ≤ c.s.size ∧ Touch (fun b => b = c.bt) w w'

theorem GotR.from {c : Cr} {w w1 : World} {lo lo1 : Nat} {g : Grp} {r : Res} {e : Ending} {w' : World} (h : GotR c w1 lo1 g r e w') (t : Touch (fun b => b = c.bt) w w1) (hl : lo ≤ lo1) : GotR c w lo g r e w' := by
  cases r with
  | over => exact ⟨h.1, h.2.1, t.then h.2.2⟩
  | no n => exact ⟨h.1, h.2.1, t.then h.2.2⟩
  | yes n k x => obtain ⟨h1, h2, h3, h4, h5, h6⟩ := h; exact ⟨h1, h2, h3, by omega, h5, t.then h6⟩

def codeR : Res → Int
  | .over => 2
  | .no _ => 0
  | .yes _ _ _ => 1
theorem GotR.code {c : Cr} {w : World} {lo : Nat} {g : Grp} {r : Res} {e : Ending} {w' : World} (h : GotR c w lo g r e w') : e = .returned (.int .i64 (codeR r)) := by
  cases r with
  | over => exact h.1
  | no n => exact h.1
  | yes n k x => exact h.1

/-- A rest of the document that stands for what is to follow. -/
def KR (c : Cr) (kv : Value) (k : K) (lo : Nat) (w0 : World) : Prop :=
  (∃ x, kv = .pointer x) ∧ ∀ (w : World) (at' n : Nat) (g : Grp), Touch (fun b => b = c.bt) w0 w → IR c n g w → lo ≤ at' → at' ≤ c.s.size →
      Calls Tryz.prog 75 #[.pointer (some ⟨c.bt, 0, none⟩), kv, .int .i64 (at' : Int)] w (GotR c w at' g (k at' n g))
theorem KR.later {c : Cr} {kv : Value} {k : K} {lo lo1 : Nat} {w0 w1 : World} (h : KR c kv k lo w0) (t : Touch (fun b => b = c.bt) w0 w1) (hl : lo ≤ lo1) : KR c kv k lo1 w1 :=
  ⟨h.1, fun w at' n g t1 hI h1 h2 => h.2 w at' n g (t.then t1) hI (by omega) h2⟩

/-- A value that stands for a node: trying it computes R. -/
def RunOK (c : Cr) (p : Value) (R : Nat → K → Nat → Grp → Res) : Prop := ∀ (at' : Nat) (kv : Value) (k : K) (n : Nat) (g : Grp) (w : World), IR c n g w → at' ≤ c.s.size → KR c kv k at' w →
  Calls Tryz.prog 53 #[.pointer (some ⟨c.bt, 0, none⟩), p, .int .i64 (at' : Int), kv] w (GotR c w at' g (R at' k n g))

set_option maxRecDepth 100000 in
theorem rstep_on (bt B n : Nat) (w : World) (hn : n < B) (hB : B ≤ 1000000) (h1 : Holds w bt 1 (.int .i64 n)) (h2 : w.cell? ⟨bt, 2, none⟩ = some (.int .i64 B)) :
    Calls Tryz.prog 73 #[.pointer (some ⟨bt, 0, none⟩)] w fun e w' => e = .returned (.bool true) ∧ ∃ q, w' = (w.setCell ⟨bt, 1, none⟩ (.int .i64 ((n + 1 : Nat) : Int))).drewN q := by
  have HH := Lib.hid h1
  obtain ⟨h1, hf⟩ := h1
  have hw1 := IntWalk.i64_in ((n : Int) + 1) (by omega)
  have hd : decide ((n : Int) + 1 ≤ (B : Int)) = true := by simp; omega
  have k2 : (w.setCell ⟨bt, 1, none⟩ (.int .i64 ((n : Int) + 1))).cell? ⟨bt, 2, none⟩ = some (.int .i64 B) := cell_set_other h2 _ (.inr (by simp))
  go_enter Tryz.func73, Tryz.ntmps73
  go_wp2_with fail
  go_quiet (fail)
  go_wp2_with fail
  go_ret
  exact ⟨rfl, _, rfl⟩

set_option maxRecDepth 100000 in
theorem rstep_over (bt B : Nat) (w : World) (hB : B ≤ 1000000) (h1 : Holds w bt 1 (.int .i64 B)) (h2 : w.cell? ⟨bt, 2, none⟩ = some (.int .i64 B)) :
    Calls Tryz.prog 73 #[.pointer (some ⟨bt, 0, none⟩)] w fun e w' => e = .returned (.bool false) ∧ ∃ q, w' = (w.setCell ⟨bt, 1, none⟩ (.int .i64 ((B + 1 : Nat) : Int))).drewN q := by
  have HH := Lib.hid h1
  obtain ⟨h1, hf⟩ := h1
  have hw1 := IntWalk.i64_in ((B : Int) + 1) (by omega)
  have hd : decide ((B : Int) + 1 ≤ (B : Int)) = false := by simp; omega
  have k2 : (w.setCell ⟨bt, 1, none⟩ (.int .i64 ((B : Int) + 1))).cell? ⟨bt, 2, none⟩ = some (.int .i64 B) := cell_set_other h2 _ (.inr (by simp))
  go_enter Tryz.func73, Tryz.ntmps73
  go_wp2_with fail
  go_quiet (fail)
  go_wp2_with fail
  go_ret
  exact ⟨rfl, _, rfl⟩

set_option maxRecDepth 100000 in
theorem rword_any (c : UInt8) (w : World) : Calls Tryz.prog 111 #[.int .u8 c.toNat] w fun e w' => e = .returned (.bool (wordB c.toNat)) ∧ w = w' := by
  go_enter Tryz.func111, Tryz.ntmps111
  go_wp2
  all_goals (go_ret; refine ⟨ret_bool ?_, rfl⟩)
  all_goals (rw [Bool.eq_iff_iff]; unfold wordB; simp; omega)

/-- Whether just one of two neighbours is of a word. -/
def borderB (s : List UInt8) (at' : Nat) : Bool := (decide (0 < at') && wordAt s (at' - 1)) != wordAt s at'

set_option maxRecDepth 100000 in
theorem rborder_any (bt at' : Nat) (s : ByteArray) (w : World) (hs : s.size ≤ 5000) (ha : at' ≤ s.size) (h0 : w.cell? ⟨bt, 0, none⟩ = some (.string s)) :
    Calls Tryz.prog 99 #[.pointer (some ⟨bt, 0, none⟩), .int .i64 (at' : Int)] w fun e w' => e = .returned (.bool (borderB (str s) at')) ∧ w = w' := by
  by_cases hz : at' = 0
  · subst hz
    by_cases h2 : 0 < s.size
    · have HW2 := Lib.hid (rword_any (s[0]'h2) w)
      have HB2 := Lib.hid (byteAt_lt h2)
      have q2 : decide ((0 : Int) < (s.size : Int)) = true := decide_eq_true (by omega)
      go_enter Tryz.func99, Tryz.ntmps99
      go_wp2_with fail
      refine HW2.out.mono ?_
      rintro e w' ⟨rfl, rfl⟩
      go_wp2_with fail
      go_ret
      refine ⟨ret_bool ?_, rfl⟩
      unfold borderB wordAt
      rw [HB2.out]
      simp
    · have HB2 := Lib.hid (byteAt_ge (s := s) (i := 0) (by omega))
      have q2 : decide ((0 : Int) < (s.size : Int)) = false := decide_eq_false (by omega)
      go_enter Tryz.func99, Tryz.ntmps99
      go_wp2_with fail
      go_ret
      refine ⟨ret_bool ?_, rfl⟩
      unfold borderB wordAt
      rw [HB2.out]
      rfl
  · have h1 : at' - 1 < s.size := by omega
    have HW1 := Lib.hid (rword_any (s[at' - 1]'h1) w)
    have HB1 := Lib.hid (byteAt_lt h1)
    have ht : ((at' : Int) - 1).toNat = at' - 1 := by omega
    have q1 : decide ((0 : Int) < (at' : Int)) = true := by simp; omega
    have HD : Hid (decide (0 < at') = true) := Lib.hid (decide_eq_true (by omega))
    by_cases h2 : at' < s.size
    · have HW2 := Lib.hid (rword_any (s[at']'h2) w)
      have HB2 := Lib.hid (byteAt_lt h2)
      have q2 : decide ((at' : Int) < (s.size : Int)) = true := by simp; omega
      go_enter Tryz.func99, Tryz.ntmps99
      go_wp2_with fail
      refine HW1.out.mono ?_
      rintro e w' ⟨rfl, rfl⟩
      go_wp2_with fail
      refine HW2.out.mono ?_
      rintro e w' ⟨rfl, rfl⟩
      go_wp2_with fail
      go_ret
      refine ⟨ret_bool ?_, rfl⟩
      unfold borderB wordAt
      rw [HB1.out, HB2.out, HD.out]
      rfl
    · have HB2 := Lib.hid (byteAt_ge (s := s) (i := at') (by omega))
      have q2 : decide ((at' : Int) < (s.size : Int)) = false := by simp; omega
      go_enter Tryz.func99, Tryz.ntmps99
      go_wp2_with fail
      refine HW1.out.mono ?_
      rintro e w' ⟨rfl, rfl⟩
      go_wp2_with fail
      go_ret
      refine ⟨ret_bool ?_, rfl⟩
      unfold borderB wordAt
      rw [HB1.out, HB2.out, HD.out]
      simp

/-- The byte of an assertion. -/
def asrByte (k : Nat) : Nat := if k = 1 then 94 else if k = 2 then 36 else if k = 3 then 65 else if k = 4 then 122 else if k = 5 then 98 else 66

set_option maxRecDepth 100000 in
theorem rholds_any (bt k at' : Nat) (s : ByteArray) (w : World) (hk : 1 ≤ k) (hk6 : k ≤ 6) (hs : s.size ≤ 5000) (ha : at' ≤ s.size) (h0 : w.cell? ⟨bt, 0, none⟩ = some (.string s)) :
    Calls Tryz.prog 90 #[.pointer (some ⟨bt, 0, none⟩), .int .u8 (asrByte k), .int .i64 at'] w fun e w' => e = .returned (.bool (Rx.stands (str s) k at')) ∧ ∃ q, w' = w.drewN q := by
  have HBd := Lib.hid (rborder_any bt at' s w hs ha h0)
  obtain rfl | rfl | rfl | rfl | rfl | rfl : k = 1 ∨ k = 2 ∨ k = 3 ∨ k = 4 ∨ k = 5 ∨ k = 6 := by omega
  · by_cases hz : at' = 0
    · subst hz
      show Calls Tryz.prog 90 #[_, .int .u8 94, _] w _
      go_enter Tryz.func90, Tryz.ntmps90
      go_wp2_with fail
      go_ret
      exact ⟨ret_bool (by simp [Rx.stands]), 0, rfl⟩
    · have HB := Lib.hid (byteAt_lt (s := s) (i := at' - 1) (by omega))
      have hlt : at' - 1 < s.size := by omega
      have ht : ((at' : Int) - 1).toNat = at' - 1 := by omega
      have hz' : ((at' : Int) == 0) = false := by simp; omega
      show Calls Tryz.prog 90 #[_, .int .u8 94, _] w _
      go_enter Tryz.func90, Tryz.ntmps90
      go_wp2_with fail
      go_ret
      refine ⟨ret_bool ?_, 0, rfl⟩
      unfold Rx.stands
      rw [HB.out, if_pos rfl, decide_eq_false hz]
      rw [Bool.eq_iff_iff]; simp; omega
  · by_cases hz : at' < s.size
    · have HB := Lib.hid (byteAt_lt hz)
      have hz' : ((at' : Int) == (s.size : Int)) = false := by simp; omega
      show Calls Tryz.prog 90 #[_, .int .u8 36, _] w _
      go_enter Tryz.func90, Tryz.ntmps90
      go_wp2_with fail
      go_ret
      refine ⟨ret_bool ?_, 0, rfl⟩
      unfold Rx.stands
      rw [HB.out, if_neg (by decide), if_pos rfl, str_len, decide_eq_false (by omega : ¬ at' = s.size)]
      rw [Bool.eq_iff_iff]; simp; omega
    · obtain rfl : at' = s.size := by omega
      show Calls Tryz.prog 90 #[_, .int .u8 36, _] w _
      go_enter Tryz.func90, Tryz.ntmps90
      go_wp2_with fail
      go_ret
      exact ⟨ret_bool (by simp [Rx.stands, str_len]), 0, rfl⟩
  · show Calls Tryz.prog 90 #[_, .int .u8 65, _] w _
    go_enter Tryz.func90, Tryz.ntmps90
    go_wp2_with fail
    go_ret
    exact ⟨ret_bool (by unfold Rx.stands; rw [if_neg (by decide), if_neg (by decide), if_pos rfl, Bool.eq_iff_iff]; simp), 0, rfl⟩
  · show Calls Tryz.prog 90 #[_, .int .u8 122, _] w _
    go_enter Tryz.func90, Tryz.ntmps90
    go_wp2_with fail
    go_ret
    exact ⟨ret_bool (by unfold Rx.stands; rw [if_neg (by decide), if_neg (by decide), if_neg (by decide), if_pos rfl, str_len, Bool.eq_iff_iff]; simp; omega), 0, rfl⟩
  · show Calls Tryz.prog 90 #[_, .int .u8 98, _] w _
    go_enter Tryz.func90, Tryz.ntmps90
    go_wp2_with fail
    refine HBd.out.mono ?_
    rintro e w' ⟨rfl, rfl⟩
    go_wp2_with fail
    go_ret
    exact ⟨ret_bool rfl, 0, rfl⟩
  · show Calls Tryz.prog 90 #[_, .int .u8 66, _] w _
    go_enter Tryz.func90, Tryz.ntmps90
    go_wp2_with fail
    refine HBd.out.mono ?_
    rintro e w' ⟨rfl, rfl⟩
    go_wp2_with fail
    go_ret
    refine ⟨ret_bool ?_, 0, rfl⟩
    unfold Rx.stands borderB
    cases (decide (0 < at') && wordAt (str s) (at' - 1)) <;> cases wordAt (str s) at' <;> rfl
end Go.Proofs.YtlgpilcjcomacaaGreat

/-
  The tree of a pattern in the document's memory; the document's atom.
-/
namespace Go.Proofs.YtlgpilcjcomacaaGreat
open Go.RowKit Rx
set_option linter.unusedVariables false
attribute [local go_sem ↓] Go.wp_at_zero Go.wp_at_succ

/-- The one kid of a node. -/
def KidD (F : Nat → Prop) (w : World) (v : NV) (p : Value) : Prop := ∃ b o, v.kx = some ⟨b, o, none⟩ ∧ v.kl = 1 ∧ 1 ≤ v.kc ∧ F b ∧ w.cell? ⟨b, o, none⟩ = some p
/-- A node of a kind. -/
def AtD (F : Nat → Prop) (w : World) (p : Value) (v : NV) : Prop := ∃ b, p = .pointer (some ⟨b, 0, none⟩) ∧ F b ∧ NodeB w b v
/-- A node of alternatives. -/
def EitherD (F : Nat → Prop) (w : World) (W : Option Addr → Nat → Prop) (p : Value) : Prop := ∃ v, AtD F w p v ∧ v.kind = 4 ∧ v.kl ≤ v.kc ∧ W v.kx v.kl

/-- A tree in the document's memory: as a node, as a row's kids, as alternatives. -/
def rdD (F : Nat → Prop) (w : World) : Re → Rd
  | .set f => ⟨fun p => ∃ v, AtD F w p v ∧ v.kind = 0 ∧ ∀ i, i < 256 → v.set i = f i, fun _ _ => False, fun _ _ => False⟩
  | .asr k => ⟨fun p => ∃ v, AtD F w p v ∧ v.kind = 1 ∧ v.what = asrByte k ∧ 1 ≤ k ∧ k ≤ 6, fun _ _ => False, fun _ _ => False⟩
  | .bref m => ⟨fun p => ∃ v, AtD F w p v ∧ v.kind = 2 ∧ v.num = (m : Int) ∧ 1 ≤ m ∧ m ≤ 9, fun _ _ => False, fun _ _ => False⟩
  | .nil => ⟨fun _ => False, fun _ l => l = 0, fun _ _ => False⟩
  | .cat x r => ⟨fun _ => False, fun a l => ∃ b o p, a = some ⟨b, o, none⟩ ∧ F b ∧ 1 ≤ l ∧ l ≤ 1000 ∧ w.cell? ⟨b, o, none⟩ = some p ∧ (rdD F w x).node p ∧ (rdD F w r).row (some ⟨b, o + 1, none⟩) (l - 1), fun _ _ => False⟩
  | .none => ⟨fun _ => False, fun _ _ => False, fun _ l => l = 0⟩
  | .alt x r => ⟨fun _ => False, fun _ _ => False, fun a l => ∃ b o p v, a = some ⟨b, o, none⟩ ∧ F b ∧ 1 ≤ l ∧ l ≤ 1000 ∧ w.cell? ⟨b, o, none⟩ = some p ∧ AtD F w p v ∧ v.kind = 3 ∧ v.kl ≤ v.kc ∧ (rdD F w x).row v.kx v.kl ∧ (rdD F w r).ways (some ⟨b, o + 1, none⟩) (l - 1)⟩
  | .grp m x => ⟨fun p => ∃ v q, AtD F w p v ∧ v.kind = (if m = 0 then 6 else 5) ∧ (m ≠ 0 → v.num = (m : Int)) ∧ m ≤ 9 ∧ KidD F w v q ∧ EitherD F w (rdD F w x).ways q, fun _ _ => False, fun _ _ => False⟩
  | .look neg x => ⟨fun p => ∃ v q, AtD F w p v ∧ v.kind = (if neg then 8 else 7) ∧ KidD F w v q ∧ EitherD F w (rdD F w x).ways q, fun _ _ => False, fun _ _ => False⟩
  | .atom x => ⟨fun p => ∃ v q, AtD F w p v ∧ v.kind = 9 ∧ KidD F w v q ∧ EitherD F w (rdD F w x).ways q, fun _ _ => False, fun _ _ => False⟩
  | .rep x least most lazy => ⟨fun p => ∃ v q, AtD F w p v ∧ v.kind = 10 ∧ v.lo = (least : Int) ∧ v.hi = most ∧ v.lazy = lazy ∧ least ≤ 100 ∧ (most = -1 ∨ ((least : Int) ≤ most ∧ most ≤ 100)) ∧ KidD F w v q ∧ (rdD F w x).node q, fun _ _ => False, fun _ _ => False⟩
  | .poss x least most => ⟨fun p => ∃ v q v2 q2, AtD F w p v ∧ v.kind = 9 ∧ KidD F w v q ∧ AtD F w q v2 ∧ v2.kind = 10 ∧ v2.lo = (least : Int) ∧ v2.hi = most ∧ v2.lazy = false ∧ least ≤ 100 ∧ (most = -1 ∨ ((least : Int) ≤ most ∧ most ≤ 100)) ∧ KidD F w v2 q2 ∧ (rdD F w x).node q2, fun _ _ => False, fun _ _ => False⟩

/-- What was read is read still. -/
theorem rdD_mono {F F' : Nat → Prop} {w w' : World} (hF : ∀ b, F b → F' b) (hc : ∀ b, F b → b < w.heap.size → w'.heap[b]? = w.heap[b]?) : ∀ a : Re, (∀ p, (rdD F w a).node p → (rdD F' w' a).node p) ∧ (∀ x l, (rdD F w a).row x l → (rdD F' w' a).row x l) ∧ (∀ x l, (rdD F w a).ways x l → (rdD F' w' a).ways x l) := by
  have hB : ∀ {b v}, F b → NodeB w b v → NodeB w' b v := fun hb h => by
    have hl := h.lt
    obtain ⟨A, hA, hs⟩ := h
    exact ⟨A, (hc _ hb hl).trans hA, hs⟩
  have hA : ∀ {p v}, AtD F w p v → AtD F' w' p v := fun ⟨b, e, hb, h⟩ => ⟨b, e, hF _ hb, hB hb h⟩
  have hC : ∀ {b o p}, F b → w.cell? ⟨b, o, none⟩ = some p → w'.cell? ⟨b, o, none⟩ = some p := fun hb h => (World.cell?_of_block (w := w) (hc _ hb (block_lt_of_cell h))).trans h
  have hK : ∀ {v p}, KidD F w v p → KidD F' w' v p := fun ⟨b, o, e, h1, h2, hb, h3⟩ => ⟨b, o, e, h1, h2, hF _ hb, hC hb h3⟩
  have hE : ∀ {W W' : Option Addr → Nat → Prop} {p}, (∀ x l, W x l → W' x l) → EitherD F w W p → EitherD F' w' W' p := fun hW ⟨v, h1, h2, h3, h4⟩ => ⟨v, hA h1, h2, h3, hW _ _ h4⟩
  intro a
  induction a with
  | set f => exact ⟨fun p ⟨v, h1, h2, h3⟩ => ⟨v, hA h1, h2, h3⟩, fun _ _ h => h.elim, fun _ _ h => h.elim⟩
  | asr k => exact ⟨fun p ⟨v, h1, h2, h3, h4⟩ => ⟨v, hA h1, h2, h3, h4⟩, fun _ _ h => h.elim, fun _ _ h => h.elim⟩
  | bref m => exact ⟨fun p ⟨v, h1, h2, h3, h4⟩ => ⟨v, hA h1, h2, h3, h4⟩, fun _ _ h => h.elim, fun _ _ h => h.elim⟩
  | nil => exact ⟨fun _ h => h.elim, fun _ _ h => h, fun _ _ h => h.elim⟩
  | cat x r ihx ihr => exact ⟨fun _ h => h.elim, fun _ _ ⟨b, o, p, e, hb, h1, h2, h3, h4, h5⟩ => ⟨b, o, p, e, hF _ hb, h1, h2, hC hb h3, ihx.1 _ h4, ihr.2.1 _ _ h5⟩, fun _ _ h => h.elim⟩
  | none => exact ⟨fun _ h => h.elim, fun _ _ h => h.elim, fun _ _ h => h⟩
  | alt x r ihx ihr => exact ⟨fun _ h => h.elim, fun _ _ h => h.elim, fun _ _ ⟨b, o, p, v, e, hb, h1, h2, h3, h4, h5, h6, h7, h8⟩ => ⟨b, o, p, v, e, hF _ hb, h1, h2, hC hb h3, hA h4, h5, h6, ihx.2.1 _ _ h7, ihr.2.2 _ _ h8⟩⟩
  | grp m x ih => exact ⟨fun p ⟨v, q, h1, h2, h3, h4, h5, h6⟩ => ⟨v, q, hA h1, h2, h3, h4, hK h5, hE ih.2.2 h6⟩, fun _ _ h => h.elim, fun _ _ h => h.elim⟩
  | look neg x ih => exact ⟨fun p ⟨v, q, h1, h2, h5, h6⟩ => ⟨v, q, hA h1, h2, hK h5, hE ih.2.2 h6⟩, fun _ _ h => h.elim, fun _ _ h => h.elim⟩
  | atom x ih => exact ⟨fun p ⟨v, q, h1, h2, h5, h6⟩ => ⟨v, q, hA h1, h2, hK h5, hE ih.2.2 h6⟩, fun _ _ h => h.elim, fun _ _ h => h.elim⟩
  | rep x least most lazy ih => exact ⟨fun p ⟨v, q, h1, h2, h3, h4, h5, h6, h7, h8, h9⟩ => ⟨v, q, hA h1, h2, h3, h4, h5, h6, h7, hK h8, ih.1 _ h9⟩, fun _ _ h => h.elim, fun _ _ h => h.elim⟩
  | poss x least most ih => exact ⟨fun p ⟨v, q, v2, q2, h1, h2, h3, h4, h5, h6, h7, h8, h9, h10, h11, h12⟩ => ⟨v, q, v2, q2, hA h1, h2, hK h3, hA h4, h5, h6, h7, h8, h9, h10, hK h11, ih.1 _ h12⟩, fun _ _ h => h.elim, fun _ _ h => h.elim⟩

/-- A node of the tree while the pattern is tried. -/
def trdD (c : Cr) (a : Re) : Rd := rdD (fun b => b ≠ c.bt) c.wT a
theorem IR.node {c : Cr} {n : Nat} {g : Grp} {w : World} (h : IR c n g w) {b : Nat} {v : NV} (hv : NodeB c.wT b v) (hb : b ≠ c.bt) : NodeB w b v := hv.keep h.tr hb
theorem IR.tree {c : Cr} {n : Nat} {g : Grp} {w : World} (h : IR c n g w) {b o : Nat} {v : Value} (hc : c.wT.cell? ⟨b, o, none⟩ = some v) (hb : b ≠ c.bt) : w.cell? ⟨b, o, none⟩ = some v := h.tr.has hc hb
theorem NodeB.c0 {w : World} {b : Nat} {v : NV} (h : NodeB w b v) : w.cell? ⟨b, 0, none⟩ = some (.int .i64 v.kind) := (h.cell (i := 0) (by decide)).1
theorem NodeB.cs {w : World} {b : Nat} {v : NV} (h : NodeB w b v) {i : Nat} (hi : i < 256) : w.cell? ⟨b, 1 + i, none⟩ = some (.bool (v.set i)) := by rw [(h.cell (i := 1 + i) (by omega)).1, nv_set v hi]
theorem NodeB.c257 {w : World} {b : Nat} {v : NV} (h : NodeB w b v) : w.cell? ⟨b, 257, none⟩ = some (.int .u8 v.what) := (h.cell (i := 257) (by decide)).1
theorem NodeB.c258 {w : World} {b : Nat} {v : NV} (h : NodeB w b v) : w.cell? ⟨b, 258, none⟩ = some (.int .i64 v.num) := (h.cell (i := 258) (by decide)).1
theorem NodeB.c259 {w : World} {b : Nat} {v : NV} (h : NodeB w b v) : w.cell? ⟨b, 259, none⟩ = some (.slice v.kx v.kl v.kc) := (h.cell (i := 259) (by decide)).1
theorem NodeB.c260 {w : World} {b : Nat} {v : NV} (h : NodeB w b v) : w.cell? ⟨b, 260, none⟩ = some (.int .i64 v.lo) := (h.cell (i := 260) (by decide)).1
theorem NodeB.c261 {w : World} {b : Nat} {v : NV} (h : NodeB w b v) : w.cell? ⟨b, 261, none⟩ = some (.int .i64 v.hi) := (h.cell (i := 261) (by decide)).1
theorem NodeB.c262 {w : World} {b : Nat} {v : NV} (h : NodeB w b v) : w.cell? ⟨b, 262, none⟩ = some (.bool v.lazy) := (h.cell (i := 262) (by decide)).1

/-- Where an atom ends. -/
def setAt (s : List UInt8) (f : Nat → Bool) (at' : Nat) : Option Nat := match byteAt s at' with | some c => if f c then some (at' + 1) else none | none => none
def asrAt (s : List UInt8) (k at' : Nat) : Option Nat := if Rx.stands s k at' = true then some at' else none
def brefAt (s : List UInt8) (g : Grp) (i at' : Nat) : Option Nat :=
  if (g i).1 < 0 ∨ ¬ ((s.drop (g i).1.toNat).take ((g i).2.toNat - (g i).1.toNat)).isPrefixOf (s.drop at') = true then none else some (at' + ((g i).2.toNat - (g i).1.toNat))
def endI : Option Nat → Int
  | some e => (e : Int)
  | none => -1
def goOn (o : Option Nat) (k : K) (g : Grp) (n : Nat) : Res := match o with | some e => k e n g | none => .no n
theorem run_set (s : List UInt8) (B : Nat) (f : Nat → Bool) (at' : Nat) (k : K) (n : Nat) (g : Grp) : run s B (.set f) at' k n g = tick B n (goOn (setAt s f at') k g) := by
  show tick B n _ = _
  congr 1
  funext n
  unfold goOn setAt
  cases byteAt s at' with
  | none => rfl
  | some c => by_cases h : f c = true <;> simp [h]
theorem run_asr (s : List UInt8) (B a at' : Nat) (k : K) (n : Nat) (g : Grp) : run s B (.asr a) at' k n g = tick B n (goOn (asrAt s a at') k g) := by
  show tick B n _ = _
  congr 1
  funext n
  unfold goOn asrAt
  by_cases h : Rx.stands s a at' = true <;> simp [h]
theorem run_bref (s : List UInt8) (B i at' : Nat) (k : K) (n : Nat) (g : Grp) : run s B (.bref i) at' k n g = tick B n (goOn (brefAt s g i at') k g) := by
  show tick B n _ = _
  congr 1
  funext n
  unfold goOn brefAt
  split <;> rfl

theorem ret_int {a b : Int} (h : a = b) : Ending.returned (.int .i64 a) = .returned (.int .i64 b) := by rw [h]

set_option maxRecDepth 100000 in
theorem ratom_set (bt b at' : Nat) (s : ByteArray) (v : NV) (f : Nat → Bool) (w : World) (hs : s.size ≤ 5000) (ha : at' ≤ s.size) (h0 : w.cell? ⟨bt, 0, none⟩ = some (.string s)) (hN : NodeB w b v) (hk : v.kind = 0) (hf : ∀ i, i < 256 → v.set i = f i) :
    Calls Tryz.prog 74 #[.pointer (some ⟨bt, 0, none⟩), .pointer (some ⟨b, 0, none⟩), .int .i64 (at' : Int)] w fun e w' => e = .returned (.int .i64 (endI (setAt (str s) f at'))) ∧ Still w w' := by
  have k0 := hN.c0
  rw [hk] at k0
  by_cases hlt : at' < s.size
  · have hB := byteAt_lt hlt
    have ks := hN.cs (i := (s[at']'hlt).toNat) (s[at']'hlt).toNat_lt
    rw [hf _ (s[at']'hlt).toNat_lt] at ks
    have h256 : (s[at']'hlt).toNat < 256 := (s[at']'hlt).toNat_lt
    have q1 : decide ((at' : Int) < (s.size : Int)) = true := decide_eq_true (by omega)
    have hw1 := IntWalk.i64_in ((at' : Int) + 1) (by omega)
    have hE : setAt (str s) f at' = if f (s[at']'hlt).toNat then some (at' + 1) else none := by unfold setAt; rw [hB]
    have HE := Lib.hid hE
    clear hN hB hE
    generalize hch : (s[at']'hlt).toNat = ch at *
    have h256i : ((ch : Nat) : Int) < 256 := by omega
    clear hf
    cases hb : f ch with
    | true =>
      rw [hb] at ks HE
      clear hb
      go_enter Tryz.func74, Tryz.ntmps74
      go_wp2_with fail
      go_quiet (fail)
      go_wp2_with fail
      go_ret
      rw [HE.out]
      exact ⟨rfl, (Touch.refl _ _).drewN _⟩
    | false =>
      rw [hb] at ks HE
      clear hb
      go_enter Tryz.func74, Tryz.ntmps74
      go_wp2_with fail
      go_quiet (fail)
      go_wp2_with fail
      go_ret
      rw [HE.out]
      exact ⟨rfl, (Touch.refl _ _).drewN _⟩
  · have HB := Lib.hid (byteAt_ge (s := s) (i := at') (by omega))
    have q1 : decide ((at' : Int) < (s.size : Int)) = false := decide_eq_false (by omega)
    have HE : Hid (setAt (str s) f at' = none) := Lib.hid (by unfold setAt; rw [HB.out])
    go_enter Tryz.func74, Tryz.ntmps74
    go_wp2_with fail
    go_quiet (fail)
    go_wp2_with fail
    go_ret
    rw [HE.out]
    exact ⟨rfl, (Touch.refl _ _).drewN _⟩

set_option maxRecDepth 100000 in
theorem ratom_asr (bt b k at' : Nat) (s : ByteArray) (v : NV) (w : World) (hs : s.size ≤ 5000) (ha : at' ≤ s.size) (h0 : w.cell? ⟨bt, 0, none⟩ = some (.string s)) (hN : NodeB w b v) (hk : v.kind = 1) (hw : v.what = asrByte k) (h1 : 1 ≤ k) (h6 : k ≤ 6) :
    Calls Tryz.prog 74 #[.pointer (some ⟨bt, 0, none⟩), .pointer (some ⟨b, 0, none⟩), .int .i64 (at' : Int)] w fun e w' => e = .returned (.int .i64 (endI (asrAt (str s) k at'))) ∧ Still w w' := by
  have k0 := hN.c0
  rw [hk] at k0
  have k257 := hN.c257
  rw [hw] at k257
  have HH := Lib.hid (rholds_any bt k at' s w h1 h6 hs ha h0)
  have HE : Hid (asrAt (str s) k at' = if Rx.stands (str s) k at' = true then some at' else none) := Lib.hid rfl
  clear hN h0
  cases hb : Rx.stands (str s) k at' with
  | true =>
    rw [hb] at HH HE
    go_enter Tryz.func74, Tryz.ntmps74
    go_wp2_with fail
    refine HH.out.mono ?_
    rintro e w' ⟨rfl, q, rfl⟩
    go_wp2_with fail
    go_ret
    rw [HE.out]
    exact ⟨rfl, (Touch.refl _ _).drewN _⟩
  | false =>
    rw [hb] at HH HE
    go_enter Tryz.func74, Tryz.ntmps74
    go_wp2_with fail
    refine HH.out.mono ?_
    rintro e w' ⟨rfl, q, rfl⟩
    go_wp2_with fail
    go_ret
    rw [HE.out]
    exact ⟨rfl, (Touch.refl _ _).drewN _⟩

set_option maxRecDepth 100000 in
set_option maxHeartbeats 1000000 in
theorem ratom_bref (bt b m at' : Nat) (s : ByteArray) (g : Grp) (v : NV) (w : World) (hs : s.size ≤ 5000) (ha : at' ≤ s.size) (h0 : w.cell? ⟨bt, 0, none⟩ = some (.string s)) (hN : NodeB w b v) (hk : v.kind = 2) (hm : v.num = (m : Int)) (h1 : 1 ≤ m) (h9 : m ≤ 9) (hgi : GInv s.size g)
    (y0 : w.cell? ⟨bt, 3 + m * 2, none⟩ = some (.int .i64 (g m).1)) (y1 : w.cell? ⟨bt, 3 + m * 2 + 1, none⟩ = some (.int .i64 (g m).2)) :
    Calls Tryz.prog 74 #[.pointer (some ⟨bt, 0, none⟩), .pointer (some ⟨b, 0, none⟩), .int .i64 (at' : Int)] w fun e w' => e = .returned (.int .i64 (endI (brefAt (str s) g m at'))) ∧ Still w w' := by
  have k0 := hN.c0
  rw [hk] at k0
  have k258 := hN.c258
  rw [hm] at k258
  have hmi : (m : Int) < 10 := by omega
  have HE0 : Hid (brefAt (str s) g m at' = if (g m).1 < 0 ∨ ¬ (((str s).drop (g m).1.toNat).take ((g m).2.toNat - (g m).1.toNat)).isPrefixOf ((str s).drop at') = true then none else some (at' + ((g m).2.toNat - (g m).1.toNat))) := Lib.hid rfl
  have hg := hgi m
  clear hN hgi
  generalize g m = gv at *
  obtain ⟨v1, v2⟩ := gv
  simp only at hg y0 y1 HE0
  by_cases hneg : v1 < 0
  · have HE : Hid (brefAt (str s) g m at' = none) := Lib.hid (by rw [HE0.out, if_pos (.inl hneg)])
    have q1 : decide (v1 < 0) = true := decide_eq_true hneg
    clear HE0 hg
    go_enter Tryz.func74, Tryz.ntmps74
    go_wp2_with fail
    go_region_held3 (fun w' => w'.cell? ⟨b, 258, none⟩ = some (.int .i64 (m : Int)) ∧ w'.cell? ⟨bt, 3 + m * 2, none⟩ = some (.int .i64 v1) ∧ w'.cell? ⟨bt, 3 + m * 2 + 1, none⟩ = some (.int .i64 v2)) (go_keep) (first | fail)
    rename_i hS6
    clear hS6
    have T6 : Still w (w.alloc (.cells #[.int .i64 v1, .int .i64 v2] 39)).drew := ((Touch.refl _ _).alloc _).drew
    have z0 : (w.alloc (.cells #[.int .i64 v1, .int .i64 v2] 39)).drew.cell? ⟨w.heap.size, 0, none⟩ = some (.int .i64 v1) := by simp [go_sem]
    have z1 : (w.alloc (.cells #[.int .i64 v1, .int .i64 v2] 39)).drew.cell? ⟨w.heap.size, 1, none⟩ = some (.int .i64 v2) := by simp [go_sem]
    generalize (w.alloc (.cells #[.int .i64 v1, .int .i64 v2] 39)).drew = w6 at *
    have h0 := T6.has h0 id
    have HT6 : Hid (Still w w6) := Lib.hid T6
    clear T6 y0 y1
    go_wp2_with fail
    go_quiet (fail)
    go_wp2_with fail
    go_ret
    rw [HE.out]
    exact ⟨rfl, HT6.out.drewN _⟩
  · have hgi2 := hg.resolve_left (fun h => by have := congrArg Prod.fst h; simp at this; omega)
    obtain ⟨a, rfl⟩ : ∃ a : Nat, v1 = a := ⟨v1.toNat, by omega⟩
    obtain ⟨d, rfl⟩ : ∃ d : Nat, v2 = d := ⟨v2.toNat, by omega⟩
    have had : a ≤ d := by omega
    have hds : d ≤ s.size := by omega
    clear hgi2
    have hpre : Lib.hasPrefix (s.extract at' s.size).data.toList (s.extract a d).data.toList = (((str s).drop a).take (d - a)).isPrefixOf ((str s).drop at') := by
      unfold Lib.hasPrefix
      rw [show (s.extract at' s.size).data.toList = (str s).drop at' from str_extract_end _ _, show (s.extract a d).data.toList = ((str s).drop a).take (d - a) from str_extract _ _ _]
    have hneg' : decide ((a : Int) < 0) = false := by simp
    simp only [Int.toNat_natCast] at HE0
    have hHP := fun w => Tryz.strings_HasPrefix (s.extract at' s.size) (s.extract a d) w
    rw [hpre] at hHP
    cases hb : (((str s).drop a).take (d - a)).isPrefixOf ((str s).drop at') with
    | false =>
      rw [hb] at hHP
      have HHP := Lib.hid hHP
      have HE : Hid (brefAt (str s) g m at' = none) := Lib.hid (by rw [HE0.out, if_pos (.inr (by rw [hb]; decide))])
      clear HE0 hg
      clear hHP hpre hb
      go_enter Tryz.func74, Tryz.ntmps74
      go_wp2_with fail
      go_region_held3 (fun w' => w'.cell? ⟨b, 258, none⟩ = some (.int .i64 (m : Int)) ∧ w'.cell? ⟨bt, 3 + m * 2, none⟩ = some (.int .i64 (a : Int)) ∧ w'.cell? ⟨bt, 3 + m * 2 + 1, none⟩ = some (.int .i64 (d : Int))) (go_keep) (first | fail)
      rename_i hS6
      clear hS6
      have T6 : Still w (w.alloc (.cells #[.int .i64 (a : Int), .int .i64 (d : Int)] 39)).drew := ((Touch.refl _ _).alloc _).drew
      have z0 : (w.alloc (.cells #[.int .i64 (a : Int), .int .i64 (d : Int)] 39)).drew.cell? ⟨w.heap.size, 0, none⟩ = some (.int .i64 (a : Int)) := by simp [go_sem]
      have z1 : (w.alloc (.cells #[.int .i64 (a : Int), .int .i64 (d : Int)] 39)).drew.cell? ⟨w.heap.size, 1, none⟩ = some (.int .i64 (d : Int)) := by simp [go_sem]
      generalize (w.alloc (.cells #[.int .i64 (a : Int), .int .i64 (d : Int)] 39)).drew = w6 at *
      have h0 := T6.has h0 id
      have HT6 : Hid (Still w w6) := Lib.hid T6
      clear T6 y0 y1
      go_wp2_with fail
      go_quiet ((go_at_call 64; exact Calls.quiet_of_same ((HHP.out _).mono fun e w' h => ⟨h.1, h.2⟩)))
      go_wp2_with fail
      go_ret
      rw [HE.out]
      exact ⟨rfl, HT6.out.drewN _⟩
    | true =>
      rw [hb] at hHP
      have HHP := Lib.hid hHP
      have HE : Hid (brefAt (str s) g m at' = some (at' + (d - a))) := Lib.hid (by rw [HE0.out, if_neg (by rw [hb]; simp)])
      have hle : at' + (d - a) ≤ s.size := by
        have h1 := List.IsPrefix.length_le (List.isPrefixOf_iff_prefix.1 hb)
        rw [List.length_take, List.length_drop, List.length_drop, str_len] at h1
        omega
      clear HE0 hg
      clear hHP hpre hb
      go_enter Tryz.func74, Tryz.ntmps74
      go_wp2_with fail
      go_region_held3 (fun w' => w'.cell? ⟨b, 258, none⟩ = some (.int .i64 (m : Int)) ∧ w'.cell? ⟨bt, 3 + m * 2, none⟩ = some (.int .i64 (a : Int)) ∧ w'.cell? ⟨bt, 3 + m * 2 + 1, none⟩ = some (.int .i64 (d : Int))) (go_keep) (first | fail)
      rename_i hS6
      clear hS6
      have T6 : Still w (w.alloc (.cells #[.int .i64 (a : Int), .int .i64 (d : Int)] 39)).drew := ((Touch.refl _ _).alloc _).drew
      have z0 : (w.alloc (.cells #[.int .i64 (a : Int), .int .i64 (d : Int)] 39)).drew.cell? ⟨w.heap.size, 0, none⟩ = some (.int .i64 (a : Int)) := by simp [go_sem]
      have z1 : (w.alloc (.cells #[.int .i64 (a : Int), .int .i64 (d : Int)] 39)).drew.cell? ⟨w.heap.size, 1, none⟩ = some (.int .i64 (d : Int)) := by simp [go_sem]
      generalize (w.alloc (.cells #[.int .i64 (a : Int), .int .i64 (d : Int)] 39)).drew = w6 at *
      have h0 := T6.has h0 id
      have HT6 : Hid (Still w w6) := Lib.hid T6
      clear T6 y0 y1
      have hw1 := IntWalk.i64_in ((at' : Int) + (d : Int)) (by omega)
      have hw2 := IntWalk.i64_in ((at' : Int) + (d : Int) - (a : Int)) (by omega)
      go_wp2_with fail
      go_quiet ((go_at_call 64; exact Calls.quiet_of_same ((HHP.out _).mono fun e w' h => ⟨h.1, h.2⟩)))
      go_wp2_with fail
      go_ret
      rw [HE.out]
      refine ⟨ret_int ?_, HT6.out.drewN _⟩
      show (at' : Int) + (d : Int) - (a : Int) = ((at' + (d - a) : Nat) : Int)
      omega
end Go.Proofs.YtlgpilcjcomacaaGreat
