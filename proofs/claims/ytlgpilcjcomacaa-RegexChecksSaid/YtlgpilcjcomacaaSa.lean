/-
  The document's matcher in memory; its step, word, border, holds.
-/
import Derived.Test.YtlgpilcjcomacaaRc
import Derived.Test.YtlgpilcjcomacaaMf
namespace Go.Proofs.Ytlgpilcjcomacaa
open Go.RowKit Rx
set_option linter.unusedVariables false

/-- What is fixed while the document tries a pattern: the try's block, the budget, the text, the world in which the tree was read. -/
structure Cr where
  bt : Nat
  B : Nat
  s : ByteArray
  wT : World

/-- The document's try in memory, under way: n steps, groups g. -/
structure IR (c : Cr) (n : Nat) (g : Grp) (w : World) : Prop where
  c0 : w.cell? ⟨c.bt, 0, none⟩ = some (.string c.s)
  c1 : Holds w c.bt 1 (.int .i64 n)
  c2 : w.cell? ⟨c.bt, 2, none⟩ = some (.int .i64 c.B)
  cg : ∀ j, j < 20 → Holds w c.bt (3 + j) (gv g j)
  ce : ∃ x : Int, Holds w c.bt 23 (.int .i64 x)
  nB : n ≤ c.B
  lB : c.B ≤ 1000000
  sz : c.s.size ≤ 5000
  gi : GInv c.s.size g
  tr : Touch (fun b => b = c.bt) c.wT w

theorem IR.lt {c : Cr} {n : Nat} {g : Grp} {w : World} (h : IR c n g w) : c.bt < w.heap.size := h.c1.lt
theorem IR.keep {c : Cr} {n : Nat} {g : Grp} {w w' : World} (h : IR c n g w) (t : Still w w') : IR c n g w' :=
  ⟨t.has h.c0 id, h.c1.keep t id, t.has h.c2 id, fun j hj => (h.cg j hj).keep t id, by obtain ⟨x, hx⟩ := h.ce; exact ⟨x, hx.keep t id⟩, h.nB, h.lB, h.sz, h.gi, h.tr.trans t (fun _ e => e.elim)⟩
theorem IR.step {c : Cr} {n : Nat} {g : Grp} {w : World} (h : IR c n g w) (hn : n < c.B) : IR c (n + 1) g (w.setCell ⟨c.bt, 1, none⟩ (.int .i64 ((n + 1 : Nat) : Int))) :=
  ⟨cell_set_other h.c0 _ (.inr (by simp)), h.c1.set _, cell_set_other h.c2 _ (.inr (by simp)), fun j hj => (h.cg j hj).set_other _ (.inr (by show 1 ≠ 3 + j; omega)), by obtain ⟨x, hx⟩ := h.ce; exact ⟨x, hx.set_other _ (.inr (by simp))⟩, hn, h.lB, h.sz, h.gi, h.tr.setCell (.inl rfl) _⟩
theorem IR.answer {c : Cr} {n : Nat} {g : Grp} {w : World} (h : IR c n g w) (x : Int) : IR c n g (w.setCell ⟨c.bt, 23, none⟩ (.int .i64 x)) :=
  ⟨cell_set_other h.c0 _ (.inr (by simp)), h.c1.set_other _ (.inr (by simp)), cell_set_other h.c2 _ (.inr (by simp)), fun j hj => (h.cg j hj).set_other _ (.inr (by show 23 ≠ 3 + j; omega)), by obtain ⟨y, hy⟩ := h.ce; exact ⟨x, hy.set _⟩, h.nB, h.lB, h.sz, h.gi, h.tr.setCell (.inl rfl) _⟩

theorem gv_upd_other (g : Grp) (i : Nat) (v : Int × Int) (j : Nat) (h : j / 2 ≠ i) : gv (upd g i v) j = gv g j := by
  unfold gv upd
  rw [if_neg h]
theorem gv_upd0 (g : Grp) (i : Nat) (v : Int × Int) : gv (upd g i v) (2 * i) = .int .i64 v.1 := by rw [gv_even]; unfold upd; rw [if_pos rfl]
theorem gv_upd1 (g : Grp) (i : Nat) (v : Int × Int) : gv (upd g i v) (2 * i + 1) = .int .i64 v.2 := by rw [gv_odd]; unfold upd; rw [if_pos rfl]

/-- One group is written. -/
theorem IR.group {c : Cr} {n : Nat} {g : Grp} {w : World} (h : IR c n g w) (i : Nat) (hi : i < 10) (v : Int × Int) (hv : v = (-1, -1) ∨ (0 ≤ v.1 ∧ v.1 ≤ v.2 ∧ v.2 ≤ (c.s.size : Int))) :
    IR c n (upd g i v) ((w.setCell ⟨c.bt, 3 + 2 * i, none⟩ (.int .i64 v.1)).setCell ⟨c.bt, 3 + (2 * i + 1), none⟩ (.int .i64 v.2)) :=
  ⟨cell_set_other (cell_set_other h.c0 _ (.inr (by show 3 + 2 * i ≠ 0; omega))) _ (.inr (by show 3 + (2 * i + 1) ≠ 0; omega)),
    (h.c1.set_other _ (.inr (by show 3 + 2 * i ≠ 1; omega))).set_other _ (.inr (by show 3 + (2 * i + 1) ≠ 1; omega)),
    cell_set_other (cell_set_other h.c2 _ (.inr (by show 3 + 2 * i ≠ 2; omega))) _ (.inr (by show 3 + (2 * i + 1) ≠ 2; omega)),
    fun j hj => by
      by_cases e1 : j = 2 * i + 1
      · subst e1
        rw [gv_upd1]
        exact ((h.cg (2 * i + 1) hj).set_other _ (.inr (by show 3 + 2 * i ≠ 3 + (2 * i + 1); omega))).set _
      · by_cases e0 : j = 2 * i
        · subst e0
          rw [gv_upd0]
          exact ((h.cg (2 * i) hj).set _).set_other _ (.inr (by show 3 + (2 * i + 1) ≠ 3 + 2 * i; omega))
        · rw [gv_upd_other _ _ _ _ (by omega)]
          exact ((h.cg j hj).set_other _ (.inr (by show 3 + 2 * i ≠ 3 + j; omega))).set_other _ (.inr (by show 3 + (2 * i + 1) ≠ 3 + j; omega)),
    by obtain ⟨x, hx⟩ := h.ce; exact ⟨x, (hx.set_other _ (.inr (by show 3 + 2 * i ≠ 23; omega))).set_other _ (.inr (by show 3 + (2 * i + 1) ≠ 23; omega))⟩, h.nB, h.lB, h.sz,
    fun j => by
      by_cases e : j = i
      · subst e; rw [show (upd g j v j) = v from if_pos rfl]; exact hv
      · rw [show (upd g i v j) = g j from if_neg e]; exact h.gi j,
    (h.tr.setCell (.inl rfl) _).setCell (.inl rfl) _⟩

/-- What comes back of a try of the document from a place lo on. -/
def GotR (c : Cr) (w : World) (lo : Nat) (g : Grp) : Res → Ending → World → Prop
  | .over, e, w' => e = .returned (.int .i64 2) ∧ (∃ x : Int, Holds w' c.bt 1 (.int .i64 x)) ∧ Touch (fun b => b = c.bt) w w'
  | .no n, e, w' => e = .returned (.int .i64 0) ∧ IR c n g w' ∧ Touch (fun b => b = c.bt) w w'
  | .yes n h x, e, w' => e = .returned (.int .i64 1) ∧ IR c n h w' ∧ Holds w' c.bt 23 (.int .i64 (x : Int)) ∧ lo ≤ x ∧ x ≤ c.s.size ∧ Touch (fun b => b = c.bt) w w'

theorem GotR.from {c : Cr} {w w1 : World} {lo lo1 : Nat} {g : Grp} {r : Res} {e : Ending} {w' : World} (h : GotR c w1 lo1 g r e w') (t : Touch (fun b => b = c.bt) w w1) (hl : lo ≤ lo1) : GotR c w lo g r e w' := by
  cases r with
  | over => exact ⟨h.1, h.2.1, t.then h.2.2⟩
  | no n => exact ⟨h.1, h.2.1, t.then h.2.2⟩
  | yes n k x => obtain ⟨h1, h2, h3, h4, h5, h6⟩ := h; exact ⟨h1, h2, h3, by omega, h5, t.then h6⟩

def codeR : Res → Int
  | .over => 2
  | .no _ => 0
  | .yes _ _ _ => 1
theorem GotR.code {c : Cr} {w : World} {lo : Nat} {g : Grp} {r : Res} {e : Ending} {w' : World} (h : GotR c w lo g r e w') : e = .returned (.int .i64 (codeR r)) := by
  cases r with
  | over => exact h.1
  | no n => exact h.1
  | yes n k x => exact h.1

/-- A rest of the document that stands for what is to follow. -/
def KR (c : Cr) (kv : Value) (k : K) (lo : Nat) (w0 : World) : Prop :=
  (∃ x, kv = .pointer x) ∧ ∀ (w : World) (at' n : Nat) (g : Grp), Touch (fun b => b = c.bt) w0 w → IR c n g w → lo ≤ at' → at' ≤ c.s.size →
      Calls Try.prog 83 #[.pointer (some ⟨c.bt, 0, none⟩), kv, .int .i64 (at' : Int)] w (GotR c w at' g (k at' n g))
theorem KR.later {c : Cr} {kv : Value} {k : K} {lo lo1 : Nat} {w0 w1 : World} (h : KR c kv k lo w0) (t : Touch (fun b => b = c.bt) w0 w1) (hl : lo ≤ lo1) : KR c kv k lo1 w1 :=
  ⟨h.1, fun w at' n g t1 hI h1 h2 => h.2 w at' n g (t.then t1) hI (by omega) h2⟩

/-- A value that stands for a node: trying it computes R. -/
def RunOK (c : Cr) (p : Value) (R : Nat → K → Nat → Grp → Res) : Prop := ∀ (at' : Nat) (kv : Value) (k : K) (n : Nat) (g : Grp) (w : World), IR c n g w → at' ≤ c.s.size → KR c kv k at' w →
  Calls Try.prog 60 #[.pointer (some ⟨c.bt, 0, none⟩), p, .int .i64 (at' : Int), kv] w (GotR c w at' g (R at' k n g))

set_option maxRecDepth 100000 in
theorem rstep_on (bt B n : Nat) (w : World) (hn : n < B) (hB : B ≤ 1000000) (h1 : Holds w bt 1 (.int .i64 n)) (h2 : w.cell? ⟨bt, 2, none⟩ = some (.int .i64 B)) :
    Calls Try.prog 82 #[.pointer (some ⟨bt, 0, none⟩)] w fun e w' => e = .returned (.bool true) ∧ ∃ q, w' = (w.setCell ⟨bt, 1, none⟩ (.int .i64 ((n + 1 : Nat) : Int))).drewN q := by
  have HH := Lib.hid h1
  obtain ⟨h1, hf⟩ := h1
  have hw1 := IntWalk.i64_in ((n : Int) + 1) (by omega)
  have hd : decide ((n : Int) + 1 ≤ (B : Int)) = true := by simp; omega
  have k2 : (w.setCell ⟨bt, 1, none⟩ (.int .i64 ((n : Int) + 1))).cell? ⟨bt, 2, none⟩ = some (.int .i64 B) := cell_set_other h2 _ (.inr (by simp))
  go_enter Try.func82, Try.ntmps82
  go_wp2_with fail
  go_quiet (fail)
  go_wp2_with fail
  go_ret
  exact ⟨rfl, _, rfl⟩

set_option maxRecDepth 100000 in
theorem rstep_over (bt B : Nat) (w : World) (hB : B ≤ 1000000) (h1 : Holds w bt 1 (.int .i64 B)) (h2 : w.cell? ⟨bt, 2, none⟩ = some (.int .i64 B)) :
    Calls Try.prog 82 #[.pointer (some ⟨bt, 0, none⟩)] w fun e w' => e = .returned (.bool false) ∧ ∃ q, w' = (w.setCell ⟨bt, 1, none⟩ (.int .i64 ((B + 1 : Nat) : Int))).drewN q := by
  have HH := Lib.hid h1
  obtain ⟨h1, hf⟩ := h1
  have hw1 := IntWalk.i64_in ((B : Int) + 1) (by omega)
  have hd : decide ((B : Int) + 1 ≤ (B : Int)) = false := by simp; omega
  have k2 : (w.setCell ⟨bt, 1, none⟩ (.int .i64 ((B : Int) + 1))).cell? ⟨bt, 2, none⟩ = some (.int .i64 B) := cell_set_other h2 _ (.inr (by simp))
  go_enter Try.func82, Try.ntmps82
  go_wp2_with fail
  go_quiet (fail)
  go_wp2_with fail
  go_ret
  exact ⟨rfl, _, rfl⟩

set_option maxRecDepth 100000 in
theorem rword_any (c : UInt8) (w : World) : Calls Try.prog 109 #[.int .u8 c.toNat] w fun e w' => e = .returned (.bool (wordB c.toNat)) ∧ w = w' := by
  go_enter Try.func109, Try.ntmps109
  go_wp2
  all_goals (go_ret; refine ⟨ret_bool ?_, rfl⟩)
  all_goals (rw [Bool.eq_iff_iff]; unfold wordB; simp; omega)

/-- Whether just one of two neighbours is of a word. -/
def borderB (s : List UInt8) (at' : Nat) : Bool := (decide (0 < at') && wordAt s (at' - 1)) != wordAt s at'

set_option maxRecDepth 100000 in
theorem rborder_any (bt at' : Nat) (s : ByteArray) (w : World) (hs : s.size ≤ 5000) (ha : at' ≤ s.size) (h0 : w.cell? ⟨bt, 0, none⟩ = some (.string s)) :
    Calls Try.prog 99 #[.pointer (some ⟨bt, 0, none⟩), .int .i64 (at' : Int)] w fun e w' => e = .returned (.bool (borderB (str s) at')) ∧ w = w' := by
  by_cases hz : at' = 0
  · subst hz
    by_cases h2 : 0 < s.size
    · have HW2 := Lib.hid (rword_any (s[0]'h2) w)
      have HB2 := Lib.hid (byteAt_lt h2)
      have q2 : decide ((0 : Int) < (s.size : Int)) = true := decide_eq_true (by omega)
      go_enter Try.func99, Try.ntmps99
      go_wp2_with fail
      refine HW2.out.mono ?_
      rintro e w' ⟨rfl, rfl⟩
      go_wp2_with fail
      go_ret
      refine ⟨ret_bool ?_, rfl⟩
      unfold borderB wordAt
      rw [HB2.out]
      simp
    · have HB2 := Lib.hid (byteAt_ge (s := s) (i := 0) (by omega))
      have q2 : decide ((0 : Int) < (s.size : Int)) = false := decide_eq_false (by omega)
      go_enter Try.func99, Try.ntmps99
      go_wp2_with fail
      go_ret
      refine ⟨ret_bool ?_, rfl⟩
      unfold borderB wordAt
      rw [HB2.out]
      rfl
  · have h1 : at' - 1 < s.size := by omega
    have HW1 := Lib.hid (rword_any (s[at' - 1]'h1) w)
    have HB1 := Lib.hid (byteAt_lt h1)
    have ht : ((at' : Int) - 1).toNat = at' - 1 := by omega
    have q1 : decide ((0 : Int) < (at' : Int)) = true := by simp; omega
    have HD : Hid (decide (0 < at') = true) := Lib.hid (decide_eq_true (by omega))
    by_cases h2 : at' < s.size
    · have HW2 := Lib.hid (rword_any (s[at']'h2) w)
      have HB2 := Lib.hid (byteAt_lt h2)
      have q2 : decide ((at' : Int) < (s.size : Int)) = true := by simp; omega
      go_enter Try.func99, Try.ntmps99
      go_wp2_with fail
      refine HW1.out.mono ?_
      rintro e w' ⟨rfl, rfl⟩
      go_wp2_with fail
      refine HW2.out.mono ?_
      rintro e w' ⟨rfl, rfl⟩
      go_wp2_with fail
      go_ret
      refine ⟨ret_bool ?_, rfl⟩
      unfold borderB wordAt
      rw [HB1.out, HB2.out, HD.out]
      rfl
    · have HB2 := Lib.hid (byteAt_ge (s := s) (i := at') (by omega))
      have q2 : decide ((at' : Int) < (s.size : Int)) = false := by simp; omega
      go_enter Try.func99, Try.ntmps99
      go_wp2_with fail
      refine HW1.out.mono ?_
      rintro e w' ⟨rfl, rfl⟩
      go_wp2_with fail
      go_ret
      refine ⟨ret_bool ?_, rfl⟩
      unfold borderB wordAt
      rw [HB1.out, HB2.out, HD.out]
      simp

/-- The byte of an assertion. -/
def asrByte (k : Nat) : Nat := if k = 1 then 94 else if k = 2 then 36 else if k = 3 then 65 else if k = 4 then 122 else if k = 5 then 98 else 66

set_option maxRecDepth 100000 in
theorem rholds_any (bt k at' : Nat) (s : ByteArray) (w : World) (hk : 1 ≤ k) (hk6 : k ≤ 6) (hs : s.size ≤ 5000) (ha : at' ≤ s.size) (h0 : w.cell? ⟨bt, 0, none⟩ = some (.string s)) :
    Calls Try.prog 79 #[.pointer (some ⟨bt, 0, none⟩), .int .u8 (asrByte k), .int .i64 at'] w fun e w' => e = .returned (.bool (Rx.stands (str s) k at')) ∧ ∃ q, w' = w.drewN q := by
  have HBd := Lib.hid (rborder_any bt at' s w hs ha h0)
  obtain rfl | rfl | rfl | rfl | rfl | rfl : k = 1 ∨ k = 2 ∨ k = 3 ∨ k = 4 ∨ k = 5 ∨ k = 6 := by omega
  · by_cases hz : at' = 0
    · subst hz
      show Calls Try.prog 79 #[_, .int .u8 94, _] w _
      go_enter Try.func79, Try.ntmps79
      go_wp2_with fail
      go_ret
      exact ⟨ret_bool (by simp [Rx.stands]), 0, rfl⟩
    · have HB := Lib.hid (byteAt_lt (s := s) (i := at' - 1) (by omega))
      have hlt : at' - 1 < s.size := by omega
      have ht : ((at' : Int) - 1).toNat = at' - 1 := by omega
      have hz' : ((at' : Int) == 0) = false := by simp; omega
      show Calls Try.prog 79 #[_, .int .u8 94, _] w _
      go_enter Try.func79, Try.ntmps79
      go_wp2_with fail
      go_ret
      refine ⟨ret_bool ?_, 0, rfl⟩
      unfold Rx.stands
      rw [HB.out, if_pos rfl, decide_eq_false hz]
      rw [Bool.eq_iff_iff]; simp; omega
  · by_cases hz : at' < s.size
    · have HB := Lib.hid (byteAt_lt hz)
      have hz' : ((at' : Int) == (s.size : Int)) = false := by simp; omega
      show Calls Try.prog 79 #[_, .int .u8 36, _] w _
      go_enter Try.func79, Try.ntmps79
      go_wp2_with fail
      go_ret
      refine ⟨ret_bool ?_, 0, rfl⟩
      unfold Rx.stands
      rw [HB.out, if_neg (by decide), if_pos rfl, str_len, decide_eq_false (by omega : ¬ at' = s.size)]
      rw [Bool.eq_iff_iff]; simp; omega
    · obtain rfl : at' = s.size := by omega
      show Calls Try.prog 79 #[_, .int .u8 36, _] w _
      go_enter Try.func79, Try.ntmps79
      go_wp2_with fail
      go_ret
      exact ⟨ret_bool (by simp [Rx.stands, str_len]), 0, rfl⟩
  · show Calls Try.prog 79 #[_, .int .u8 65, _] w _
    go_enter Try.func79, Try.ntmps79
    go_wp2_with fail
    go_ret
    exact ⟨ret_bool (by unfold Rx.stands; rw [if_neg (by decide), if_neg (by decide), if_pos rfl, Bool.eq_iff_iff]; simp), 0, rfl⟩
  · show Calls Try.prog 79 #[_, .int .u8 122, _] w _
    go_enter Try.func79, Try.ntmps79
    go_wp2_with fail
    go_ret
    exact ⟨ret_bool (by unfold Rx.stands; rw [if_neg (by decide), if_neg (by decide), if_neg (by decide), if_pos rfl, str_len, Bool.eq_iff_iff]; simp; omega), 0, rfl⟩
  · show Calls Try.prog 79 #[_, .int .u8 98, _] w _
    go_enter Try.func79, Try.ntmps79
    go_wp2_with fail
    refine HBd.out.mono ?_
    rintro e w' ⟨rfl, rfl⟩
    go_wp2_with fail
    go_ret
    exact ⟨ret_bool rfl, 0, rfl⟩
  · show Calls Try.prog 79 #[_, .int .u8 66, _] w _
    go_enter Try.func79, Try.ntmps79
    go_wp2_with fail
    refine HBd.out.mono ?_
    rintro e w' ⟨rfl, rfl⟩
    go_wp2_with fail
    go_ret
    refine ⟨ret_bool ?_, 0, rfl⟩
    unfold Rx.stands borderB
    cases (decide (0 < at') && wordAt (str s) (at' - 1)) <;> cases wordAt (str s) at' <;> rfl
end Go.Proofs.Ytlgpilcjcomacaa
