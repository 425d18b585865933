/-
  The program's read.
-/
import Derived.Test.YtlgpilcjcomacaaPm
import Derived.Deep.RegionHeld3
import Derived.Deep.DrawnRows
namespace Go.Proofs.Ytlgpilcjcomacaa
open Go.RowKit Rx
set_option linter.unusedVariables false

/-- What comes back of read. -/
def ReadPost (w : World) : Option (Re × Nat) → Ending → World → Prop
  | none, e, w' => e = .returned (.tuple #[.pointer none, .int .i64 0, .bool false]) ∧ Still w w'
  | some (a, G), e, w' => ∃ b, e = .returned (.tuple #[.pointer (some ⟨b, 0, none⟩), .int .i64 (G : Int), .bool true]) ∧ Still w w' ∧ (rd (FP w.heap.size w'.heap.size) w' 9 (.grp 0 a)).node (.pointer (some ⟨b, 0, none⟩)) ∧ G ≤ 9

/-- The three results' cells. -/
abbrev w3of (w : World) : World := ((w.alloc (.cells #[.pointer none] 61)).alloc (.cells #[.int .i64 0] 3)).alloc (.cells #[.bool false] 4)
abbrev w4of (s : ByteArray) (w : World) : World := (w3of w).alloc (.cells #[.string s, .int .i64 0, .int .i64 0, .int .i64 0, .int .i64 0] 136)

theorem w4_size (s : ByteArray) (w : World) : (w4of s w).heap.size = w.heap.size + 4 := by simp
theorem w4_rs (s : ByteArray) (w : World) (hs : s.size ≤ 300) : RS (w.heap.size + 1 + 1 + 1) s 0 ⟨0, 0, 0⟩ (w4of s w) := by
  have h : ∀ i v, (#[.string s, .int .i64 0, .int .i64 0, .int .i64 0, .int .i64 0] : Array Value)[i]? = some v → Holds (w4of s w) (w.heap.size + 1 + 1 + 1) i v := fun i v hv => by
    have h1 := Holds.made (w3of w) #[.string s, .int .i64 0, .int .i64 0, .int .i64 0, .int .i64 0] 136 i v hv
    rw [show (w3of w).heap.size = w.heap.size + 1 + 1 + 1 by simp] at h1
    exact h1
  exact ⟨(h 0 _ rfl).1, h 1 _ rfl, h 2 _ rfl, h 3 _ rfl, h 4 _ rfl, Nat.zero_le _, hs, Nat.zero_le _, Nat.zero_le _, Nat.zero_le _⟩
theorem w4_cells (s : ByteArray) (w : World) : Holds (w4of s w) w.heap.size 0 (.pointer none) ∧ Holds (w4of s w) (w.heap.size + 1) 0 (.int .i64 0) ∧ Holds (w4of s w) (w.heap.size + 1 + 1) 0 (.bool false) := by
  refine ⟨(((Holds.made w #[.pointer none] 61 0 _ rfl).alloc _).alloc _).alloc _, ?_, ?_⟩
  · have h1 := Holds.made (w.alloc (.cells #[.pointer none] 61)) #[.int .i64 0] 3 0 _ rfl
    rw [show (w.alloc (.cells #[.pointer none] 61)).heap.size = w.heap.size + 1 by simp] at h1
    exact (h1.alloc _).alloc _
  · have h1 := Holds.made ((w.alloc (.cells #[.pointer none] 61)).alloc (.cells #[.int .i64 0] 3)) #[.bool false] 4 0 _ rfl
    rw [show ((w.alloc (.cells #[.pointer none] 61)).alloc (.cells #[.int .i64 0] 3)).heap.size = w.heap.size + 1 + 1 by simp] at h1
    exact h1.alloc _
theorem w4_still (s : ByteArray) (w : World) : Still w (w4of s w) := ((((Touch.refl _ w).alloc _).alloc _).alloc _).alloc _

theorem alloc_past (w : World) (o : Obj) {b i : Nat} {v : Value} (h : w.cell? ⟨b, i, none⟩ = some v) : (w.alloc o).cell? ⟨b, i, none⟩ = some v := (World.cell?_alloc_past _ _ _ (block_lt_of_cell h)).trans h

theorem read_cells {n : Nat} (w : World) {wa : World} {u0 u1 u2 : Value} (h0 : Holds wa n 0 u0) (h1 : Holds wa (n + 1) 0 u1) (h2 : Holds wa (n + 1 + 1) 0 u2) (v0 v1 v2 : Value) :
    (((wa.setCell ⟨n, 0, none⟩ v0).setCell ⟨n + 1, 0, none⟩ v1).setCell ⟨n + 1 + 1, 0, none⟩ v2).cell? ⟨n, 0, none⟩ = some v0 ∧ (((wa.setCell ⟨n, 0, none⟩ v0).setCell ⟨n + 1, 0, none⟩ v1).setCell ⟨n + 1 + 1, 0, none⟩ v2).cell? ⟨n + 1, 0, none⟩ = some v1 ∧ (((wa.setCell ⟨n, 0, none⟩ v0).setCell ⟨n + 1, 0, none⟩ v1).setCell ⟨n + 1 + 1, 0, none⟩ v2).cell? ⟨n + 1 + 1, 0, none⟩ = some v2 :=
  ⟨(((h0.set v0).set_other v1 (.inl (by simp))).set_other v2 (.inl (by show n + 1 + 1 ≠ n; omega))).1, (((h1.set_other v0 (.inl (by simp))).set v1).set_other v2 (.inl (by simp))).1, (((h2.set_other v0 (.inl (by show n ≠ n + 1 + 1; omega))).set_other v1 (.inl (by simp))).set v2).1⟩

set_option maxRecDepth 100000 in
set_option maxHeartbeats 8000000 in
theorem read_any (s : ByteArray) (w : World) :
    Calls Try.prog 47 #[.string s] w (ReadPost w (readP (str s))) := by
  have hmf : ∀ (fn : Fn) (first cap : Array Value) (w : World), (Instr.makeFunc fn first cap).run Try.prog w = .ok (.func fn first cap) w := fun _ _ _ _ => rfl
  by_cases hlen : 300 < s.size
  · have HR : Hid (readP (str s) = none) := Lib.hid (by unfold readP; rw [str_len, if_pos hlen])
    have q1 : decide (300 < (s.size : Int)) = true := by simp; omega
    go_enter_defers Try.func47, Try.ntmps47
    go_wp2_with fail
    simp [bodyPostD, Leaves, results, Try.results47, go_sem]
    rw [HR.out]
    exact ⟨rfl, (((Touch.refl _ w).alloc _).alloc _).alloc _⟩
  · have hr : readP (str s) = readEnd (str s) (waysP (str s) 11 ⟨0, 0, 0⟩) := by unfold readP; rw [str_len, if_neg hlen]
    have HR := Lib.hid hr
    have q1 : decide (300 < (s.size : Int)) = false := by simp; omega
    have HRS4 := Lib.hid (w4_rs s w (by omega))
    have HC4 := Lib.hid (w4_cells s w)
    have HT4 := Lib.hid (w4_still s w)
    have HZ4 := Lib.hid (w4_size s w)
    have HW := Lib.hid ((wok (w.heap.size + 1 + 1 + 1) s 11 0 rfl).2 (by decide) ⟨0, 0, 0⟩ _ HRS4.out)
    have hsz : s.size ≤ 300 := by omega
    obtain ⟨w4, hw4⟩ : ∃ w4, w4of s w = w4 := ⟨_, rfl⟩
    rw [hw4] at HRS4 HC4 HT4 HZ4 HW
    clear hr hlen
    unfold w4of w3of at hw4
    go_enter_defers Try.func47, Try.ntmps47
    go_wp2_with fail
    refine HW.out.mono ?_
    clear HW hw4
    intro e w5 hG
    cases hw : waysP (str s) 11 ⟨0, 0, 0⟩ with
    | none =>
      rw [hw] at hG
      obtain ⟨rfl, ht⟩ := hG
      have HR2 : Hid (readP (str s) = none) := Lib.hid (by rw [HR.out, hw]; rfl)
      obtain ⟨h0, h1, h2⟩ := HC4.out
      have hx0 := h0.keep ht (by omega)
      have hx1 := h1.keep ht (by omega)
      have hx2 := h2.keep ht (by omega)
      have HTW : Hid (Still w w5) := Lib.hid (HT4.out.trans ht (fun i e => .inr (by omega)))
      refine leaves_cons (f := 63) (args := #[.pointer (some ⟨w.heap.size, 0, none⟩), .pointer (some ⟨w.heap.size + 1, 0, none⟩), .pointer (some ⟨w.heap.size + 1 + 1, 0, none⟩)]) (by simp) (by simp [go_sem]) ?_
      refine (read1_panicking w.heap.size (w.heap.size + 1) (w.heap.size + 1 + 1) _ _ _ [] w5 hx0 hx1 hx2 (by omega) (by omega) (by omega)).mono ?_
      rintro e u' w'' ⟨rfl, rfl, rfl⟩
      obtain ⟨hv0, hv1, hv2⟩ := read_cells w5 (hx0.alloc (.cells #[] 132)) (hx1.alloc (.cells #[] 132)) (hx2.alloc (.cells #[] 132)) (.pointer none) (.int .i64 0) (.bool false)
      simp [Leaves, settle, results, Try.results47, go_sem, hv0, hv1, hv2]
      rw [HR2.out]
      refine ⟨rfl, ?_⟩
      refine HTW.out.trans (S1 := fun b => w.heap.size ≤ b) ?_ (fun i e => .inr e)
      refine ((((Touch.refl _ _).alloc _).setCell (.inl ?_) _).setCell (.inl ?_) _).setCell (.inl ?_) _
      · show w.heap.size ≤ w.heap.size; omega
      · show w.heap.size ≤ w.heap.size + 1; omega
      · show w.heap.size ≤ w.heap.size + 1 + 1; omega
    | some t =>
      obtain ⟨a, p2, g2, r2⟩ := t
      rw [hw] at hG
      obtain ⟨x, l, cap, rfl, hlc, hrs, ht, hrd, -⟩ := hG
      have hres := HR.out
      rw [hw] at hres
      have HRES := Lib.hid hres
      have HRS5 := Lib.hid hrs
      have HT45 := Lib.hid ht
      have HRD5 := Lib.hid hrd
      clear hw hres hrs ht hrd HR
      obtain ⟨h0, h1, h2⟩ := HC4.out
      have hx0 := (h0.keep HT45.out (by omega)).alloc (.cells (nd 8 (.pointer none) 0 x l cap (.pointer none) 0 0 0) 78)
      have HX0 := Lib.hid hx0
      have HX1 := Lib.hid ((h1.keep HT45.out (by omega)).alloc (.cells (nd 8 (.pointer none) 0 x l cap (.pointer none) 0 0 0) 78))
      have HX2 := Lib.hid ((h2.keep HT45.out (by omega)).alloc (.cells (nd 8 (.pointer none) 0 x l cap (.pointer none) 0 0 0) 78))
      have HNB6 := Lib.hid (NB.made w5 (nd 8 (.pointer none) 0 x l cap (.pointer none) 0 0 0))
      have T56 : Touch (fun b => w.heap.size ≤ b) w5 (w5.alloc (.cells (nd 8 (.pointer none) 0 x l cap (.pointer none) 0 0 0) 78)) := (Touch.refl _ _).alloc _
      have HRS6 := Lib.hid (HRS5.out.keep ((Touch.refl (fun _ => False) w5).alloc (.cells (nd 8 (.pointer none) 0 x l cap (.pointer none) 0 0 0) 78)) id)
      obtain ⟨w6, hw6⟩ : ∃ w6, w5.alloc (.cells (nd 8 (.pointer none) 0 x l cap (.pointer none) 0 0 0) 78) = w6 := ⟨_, rfl⟩
      rw [hw6] at hx0 HX0 HX1 HX2 HNB6 T56 HRS6
      have HB6 := Lib.hid hx0
      obtain ⟨hx0, hx0f⟩ := hx0
      obtain ⟨w7, hw7⟩ : ∃ w7, w6.setCell ⟨w.heap.size, 0, none⟩ (.pointer (some ⟨w5.heap.size, 0, none⟩)) = w7 := ⟨_, rfl⟩
      have hw7' := Lib.hid hw7
      have T56' : Touch (fun b => b = w.heap.size) w5 w6 := by rw [← hw6]; exact (Touch.refl _ _).alloc _
      have t67 : Touch (fun b => b = w.heap.size) w6 w7 := by rw [← hw7]; exact Touch.setCell (Touch.refl (fun b => b = w.heap.size) w6) (.inl rfl) _
      clear h0 h1 h2
      go_wp2_with fail
      clear hw6 hw7 hx0 hx0f
      have HRS7 := Lib.hid (HRS6.out.keep t67 (by omega))
      have HB7 := Lib.hid ((HB6.out.set (.pointer (some ⟨w5.heap.size, 0, none⟩))))
      rw [hw7'.out] at HB7
      have HX17 := Lib.hid (HX1.out.keep t67 (by omega))
      have HX27 := Lib.hid (HX2.out.keep t67 (by omega))
      have HNB7 := Lib.hid (HNB6.out.keep t67 (by have := HT45.out.size; have := HZ4.out; omega))
      have HT7 : Hid (Still w w7) := Lib.hid (((HT4.out.trans HT45.out (fun i e => .inr (by omega))).trans T56 (fun i e => .inr e)).trans t67 (fun i e => .inr (by omega)))
      have HT57 : Hid (Touch (fun b => b = w.heap.size) w5 w7) := Lib.hid (T56'.then t67)
      clear t67 T56 T56' hw7'
      have hc1 := HRS7.out.c1.1
      have hc2 := HRS7.out.c2.1
      have hc4 := HRS7.out.c4.1
      simp only at hc1 hc2 hc4
      have hbad : Hid ((p2 < s.size ∨ g2 < r2) → readP (str s) = none) := Lib.hid (fun h => by rw [HRES.out]; unfold readEnd; dsimp only; rw [str_len, if_pos h])
      by_cases r1 : p2 < s.size
      · have qa : decide ((p2 : Int) < (s.size : Int)) = true := by simp; omega
        have qan : decide (p2 < s.size) = true := by simp; omega
        have HR2 := Lib.hid (hbad.out (.inl r1))
        clear hbad r1
        go_wp2_with fail
        go_quiet (fail)
        generalize hw8 : w7.drewN nq = w8
        have t78 : Touch (fun _ => False) w7 w8 := by rw [← hw8]; exact still_drewN _ nq
        clear hw8
        have hx0 := HB7.out.keep t78 id
        have hx1 := HX17.out.keep t78 id
        have hx2 := HX27.out.keep t78 id
        have HTW : Hid (Still w w8) := Lib.hid (HT7.out.then t78)
        clear hc1 hc2 hc4
        have HX := Lib.hid (And.intro hx0 (And.intro hx1 hx2))
        clear hx0 hx1 hx2
        go_wp2_with fail
        refine (fail_any _ _).mono ?_
        rintro e w9 ⟨rfl, rfl⟩
        obtain ⟨hx0, hx1, hx2⟩ := HX.out
        refine leaves_cons (f := 63) (args := #[.pointer (some ⟨w.heap.size, 0, none⟩), .pointer (some ⟨w.heap.size + 1, 0, none⟩), .pointer (some ⟨w.heap.size + 1 + 1, 0, none⟩)]) (by simp) (by simp [go_sem]) ?_
        refine (read1_panicking w.heap.size (w.heap.size + 1) (w.heap.size + 1 + 1) _ _ _ [] w8 hx0 hx1 hx2 (by omega) (by omega) (by omega)).mono ?_
        rintro e u' w'' ⟨rfl, rfl, rfl⟩
        obtain ⟨hv0, hv1, hv2⟩ := read_cells w8 (hx0.alloc (.cells #[] 132)) (hx1.alloc (.cells #[] 132)) (hx2.alloc (.cells #[] 132)) (.pointer none) (.int .i64 0) (.bool false)
        simp [Leaves, settle, results, Try.results47, go_sem, hv0, hv1, hv2]
        rw [HR2.out]
        refine ⟨rfl, ?_⟩
        refine HTW.out.trans (S1 := fun b => w.heap.size ≤ b) ?_ (fun i e => .inr e)
        refine ((((Touch.refl _ _).alloc _).setCell (.inl ?_) _).setCell (.inl ?_) _).setCell (.inl ?_) _
        · show w.heap.size ≤ w.heap.size; omega
        · show w.heap.size ≤ w.heap.size + 1; omega
        · show w.heap.size ≤ w.heap.size + 1 + 1; omega
      · have qa : decide ((p2 : Int) < (s.size : Int)) = false := by simp; omega
        have qan : decide (p2 < s.size) = false := by simp; omega
        by_cases r2' : g2 < r2
        · have qb : decide ((g2 : Int) < (r2 : Int)) = true := by simp; omega
          have qbn : decide (g2 < r2) = true := by simp; omega
          have HR2 := Lib.hid (hbad.out (.inr r2'))
          clear hbad r2'
          go_wp2_with fail
          go_quiet (fail)
          generalize hw8 : w7.drewN nq = w8
          have t78 : Touch (fun _ => False) w7 w8 := by rw [← hw8]; exact still_drewN _ nq
          clear hw8
          have hx0 := HB7.out.keep t78 id
          have hx1 := HX17.out.keep t78 id
          have hx2 := HX27.out.keep t78 id
          have HTW : Hid (Still w w8) := Lib.hid (HT7.out.then t78)
          clear hc1 hc2 hc4
          have HX := Lib.hid (And.intro hx0 (And.intro hx1 hx2))
          clear hx0 hx1 hx2
          go_wp2_with fail
          refine (fail_any _ _).mono ?_
          rintro e w9 ⟨rfl, rfl⟩
          obtain ⟨hx0, hx1, hx2⟩ := HX.out
          refine leaves_cons (f := 63) (args := #[.pointer (some ⟨w.heap.size, 0, none⟩), .pointer (some ⟨w.heap.size + 1, 0, none⟩), .pointer (some ⟨w.heap.size + 1 + 1, 0, none⟩)]) (by simp) (by simp [go_sem]) ?_
          refine (read1_panicking w.heap.size (w.heap.size + 1) (w.heap.size + 1 + 1) _ _ _ [] w8 hx0 hx1 hx2 (by omega) (by omega) (by omega)).mono ?_
          rintro e u' w'' ⟨rfl, rfl, rfl⟩
          obtain ⟨hv0, hv1, hv2⟩ := read_cells w8 (hx0.alloc (.cells #[] 132)) (hx1.alloc (.cells #[] 132)) (hx2.alloc (.cells #[] 132)) (.pointer none) (.int .i64 0) (.bool false)
          simp [Leaves, settle, results, Try.results47, go_sem, hv0, hv1, hv2]
          rw [HR2.out]
          refine ⟨rfl, ?_⟩
          refine HTW.out.trans (S1 := fun b => w.heap.size ≤ b) ?_ (fun i e => .inr e)
          refine ((((Touch.refl _ _).alloc _).setCell (.inl ?_) _).setCell (.inl ?_) _).setCell (.inl ?_) _
          · show w.heap.size ≤ w.heap.size; omega
          · show w.heap.size ≤ w.heap.size + 1; omega
          · show w.heap.size ≤ w.heap.size + 1 + 1; omega
        · have qb : decide ((g2 : Int) < (r2 : Int)) = false := by simp; omega
          have qbn : decide (g2 < r2) = false := by simp; omega
          have HR2 : Hid (readP (str s) = some (a, g2)) := Lib.hid (by rw [HRES.out]; unfold readEnd; dsimp only; rw [str_len, if_neg (by omega)])
          clear hbad r2' HRES
          go_wp2_with fail
          go_quiet (fail)
          generalize hw8 : w7.drewN nq = w8
          have t78 : Touch (fun _ => False) w7 w8 := by rw [← hw8]; exact still_drewN _ nq
          clear hw8 hc1 hc2 hc4 qa qan qb qbn
          have HRS8 := Lib.hid (HRS7.out.keep t78 id)
          have hy0 := HB7.out.keep t78 id
          have hy1 := HX17.out.keep t78 id
          have hy2 := HX27.out.keep t78 id
          have HY0 := Lib.hid hy0
          have HY1 := Lib.hid hy1
          have HY2 := Lib.hid hy2
          have HC2 := Lib.hid HRS8.out.c2
          obtain ⟨hy0, hy0f⟩ := hy0
          obtain ⟨hy1, hy1f⟩ := hy1
          obtain ⟨hy2, hy2f⟩ := hy2
          have hc2 := HRS8.out.c2.1
          simp only at hc2
          go_wp2_with fail
          go_region
          go_wp2_with fail
          obtain ⟨hv0, hv1, hv2⟩ := read_cells w8 HY0.out HY1.out HY2.out (.pointer (some ⟨w5.heap.size, 0, none⟩)) (.int .i64 (g2 : Int)) (.bool true)
          obtain ⟨w9, hw9⟩ : ∃ w9, ((((w8.setCell ⟨w.heap.size, 0, none⟩ (.pointer (some ⟨w5.heap.size, 0, none⟩))).setCell ⟨w.heap.size + 1, 0, none⟩ (.int .i64 (g2 : Int))).setCell ⟨w.heap.size + 1 + 1, 0, none⟩ (.bool true))).drew = w9 := ⟨_, rfl⟩
          have t89 : Touch (fun b => w.heap.size ≤ b ∧ b < w4.heap.size) w8 w9 := by
            rw [← hw9]
            have hz := HZ4.out
            refine Touch.drew ((((Touch.refl _ _).setCell (.inl ?_) _).setCell (.inl ?_) _).setCell (.inl ?_) _)
            · show w.heap.size ≤ w.heap.size ∧ w.heap.size < w4.heap.size; omega
            · show w.heap.size ≤ w.heap.size + 1 ∧ w.heap.size + 1 < w4.heap.size; omega
            · show w.heap.size ≤ w.heap.size + 1 + 1 ∧ w.heap.size + 1 + 1 < w4.heap.size; omega
          rw [hw9]
          replace hv0 : w9.cell? ⟨w.heap.size, 0, none⟩ = some (.pointer (some ⟨w5.heap.size, 0, none⟩)) := by rw [← hw9]; exact hv0
          replace hv1 : w9.cell? ⟨w.heap.size + 1, 0, none⟩ = some (.int .i64 (g2 : Int)) := by rw [← hw9]; exact hv1
          replace hv2 : w9.cell? ⟨w.heap.size + 1 + 1, 0, none⟩ = some (.bool true) := by rw [← hw9]; exact hv2
          clear hw9
          refine leaves_cons (f := 63) (args := #[.pointer (some ⟨w.heap.size, 0, none⟩), .pointer (some ⟨w.heap.size + 1, 0, none⟩), .pointer (some ⟨w.heap.size + 1 + 1, 0, none⟩)]) (by simp) (by simp [go_sem]) ?_
          refine (read1_idle w.heap.size (w.heap.size + 1) (w.heap.size + 1 + 1) w9).mono ?_
          rintro e u' w'' ⟨rfl, rfl, rfl⟩
          have hy0 := alloc_past w9 (.cells #[] 132) hv0
          have hy1 := alloc_past w9 (.cells #[] 132) hv1
          have hy2 := alloc_past w9 (.cells #[] 132) hv2
          simp [Leaves, settle, results, Try.results47, go_sem, hy0, hy1, hy2]
          rw [HR2.out]
          have ta : Touch (fun _ => False) w9 (w9.alloc (.cells #[] 132)) := (Touch.refl _ _).alloc _
          have hz := HZ4.out
          have hz2 := HT45.out.size
          have hz3 := HT57.out.size
          have hz4 := t78.size
          have hz5 := t89.size
          have hz6 := ta.size
          have hnl := HNB7.out.lt
          have TE : Touch (fun b => w.heap.size ≤ b ∧ b < w4.heap.size) w5 (w9.alloc (.cells #[] 132)) := (((HT57.out.mono (S1 := fun b => w.heap.size ≤ b ∧ b < w4.heap.size) (fun i _ e => by omega)).then (t78.mono (fun _ _ e => e.elim))).then t89).then (ta.mono (fun _ _ e => e.elim))
          refine ⟨w5.heap.size, rfl, ?_, ?_, HRS8.out.gs⟩
          · refine ((((HT7.out.then t78).trans t89 (fun i e => .inr e.1)).then ta))
          · have hn9 := (HNB7.out.keep t78 id).keep t89 (fun e => by have := e.2; omega)
            have hn10 := hn9.keep ta id
            refine ⟨w5.heap.size, _, _, _, _, _, _, _, _, rfl, hn10.node ⟨by omega, by omega⟩, by omega, hlc, ?_⟩
            exact (rd_later TE (fun b e => .inl (by have := e.2; omega)) (by omega) (by omega) a).2.2 _ _ HRD5.out
end Go.Proofs.Ytlgpilcjcomacaa
