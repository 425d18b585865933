/-
  Texts Pm, Pn, Po, Pp, Pq, Qa, Qb in one.
-/
import Derived.Test.YtlgpilcjcomacaaGreatAh
import Derived.Defers
import Derived.Recover
import Derived.StillTailTactics
import Derived.Deep.RegionHeld3
import Derived.Deep.DrawnRows
import Derived.Test.YtlgpilcjcomacaaGreatAb
/-
  The program's reader: alternatives at whatever depth; read, with what it recovers.
-/
namespace Go.Proofs.YtlgpilcjcomacaaGreat
open Go.RowKit Rx
set_option linter.unusedVariables false

theorem wok (br : Nat) (s : ByteArray) : ∀ d deep : Nat, deep + d = 11 → WOK br s deep (waysP (str s) d)
  | 0, deep, _ => ⟨fun _ _ => rfl, fun h => by omega⟩
  | d + 1, deep, hd => ⟨fun h => by omega, fun _ st w h => rways_any br s deep (pieceP (waysP (str s) d) (str s)) (fun st w h hlt => piece_any br s deep st w (waysP (str s) d) (wok br s d (deep + 1) (by omega)) h hlt) st w h⟩

set_option maxRecDepth 100000 in
theorem read1_panicking (p q r : Nat) (v0 v1 v2 : Value) (older : List PanicEntry) (w : World) (hp : Holds w p 0 v0) (hq : Holds w q 0 v1) (hr : Holds w r 0 v2) (hpq : p ≠ q) (hpr : p ≠ r) (hqr : q ≠ r) :
    CallsD Tryz.prog 58 #[.pointer (some ⟨p, 0, none⟩), .pointer (some ⟨q, 0, none⟩), .pointer (some ⟨r, 0, none⟩)] (.panicking ({ v := .iface 128 (.agg #[]), recovered := false } :: older)) w fun e u' w' =>
      e = .returned (.tuple #[]) ∧ u' = .panicking ({ v := .iface 128 (.agg #[]), recovered := true } :: older) ∧ w' = (((w.alloc (.cells #[] 128)).setCell ⟨p, 0, none⟩ (.pointer none)).setCell ⟨q, 0, none⟩ (.int .i64 0)).setCell ⟨r, 0, none⟩ (.bool false) := by
  have h1 := hp.alloc (.cells #[] 128)
  have h2 := (hq.alloc (.cells #[] 128)).set_other (p := ⟨p, 0, none⟩) (.pointer none) (.inl hpq)
  have h3 := ((hr.alloc (.cells #[] 128)).set_other (p := ⟨p, 0, none⟩) (.pointer none) (.inl hpr)).set_other (p := ⟨q, 0, none⟩) (.int .i64 0) (.inl hqr)
  obtain ⟨h1, h1f⟩ := h1
  obtain ⟨h2, h2f⟩ := h2
  obtain ⟨h3, h3f⟩ := h3
  have hta : ∀ (w : World), (Instr.typeAssert (.iface 128 (.agg #[])) 20 128 true).run Tryz.prog w = .ok (.tuple #[.agg #[], .bool true]) w := fun _ => by kernel_rfl
  refine callsD_of_wpS Tryz.func58 rfl fun c₀ cs hu => ?_
  apply wpS_seq
  apply wpS_region
  simp [wpOpsS, go_sem, recoverD, hu, Tryz.ntmps58, Exit.thenS, hta]
  apply wpS_seq
  apply wpS_region
  simp [wpOpsS, go_sem, Exit.thenS]
  refine wpS_cond (t := true) (by simp [Act.eval, Array.replicate]) ?_
  simp only [if_true]
  apply wpS_region
  simp [wpOpsS, go_sem, h1, h1f, h2, h2f, h3, h3f, bodyPostS, results, Tryz.results58]

set_option maxRecDepth 100000 in
theorem read1_idle (p q r : Nat) (w : World) :
    CallsD Tryz.prog 58 #[.pointer (some ⟨p, 0, none⟩), .pointer (some ⟨q, 0, none⟩), .pointer (some ⟨r, 0, none⟩)] .returning w fun e u' w' => e = .returned (.tuple #[]) ∧ u' = .returning ∧ w' = w.alloc (.cells #[] 128) := by
  have hta : ∀ (w : World), (Instr.typeAssert .nilIface 20 128 true).run Tryz.prog w = .ok (.tuple #[.agg #[], .bool false]) w := fun _ => by kernel_rfl
  refine callsD_of_wpS Tryz.func58 rfl fun c₀ cs hu => ?_
  apply wpS_seq
  apply wpS_region
  simp [wpOpsS, go_sem, recoverD, hu, Tryz.ntmps58, Exit.thenS, hta]
  apply wpS_seq
  apply wpS_region
  simp [wpOpsS, go_sem, Exit.thenS]
  refine wpS_cond (t := false) (by simp [Act.eval, Array.replicate]) ?_
  simp only [Bool.false_eq_true, if_false]
  refine wpS_of_wp (wp_skip ?_)
  cases c₀
  simp_all [bodyPostS, results, Tryz.results58]
end Go.Proofs.YtlgpilcjcomacaaGreat

/-
  The program's read.
-/
namespace Go.Proofs.YtlgpilcjcomacaaGreat
open Go.RowKit Rx
set_option linter.unusedVariables false

/-- What comes back of read. -/
def ReadPost (w : World) : Option (Re × Nat) → Ending → World → Prop
  | none, e, w' => e = .returned (.tuple #[.pointer none, .int .i64 0, .bool false]) ∧ Still w w'
  | some (a, G), e, w' => ∃ b, e = .returned (.tuple #[.pointer (some ⟨b, 0, none⟩), .int .i64 (G : Int), .bool true]) ∧ Still w w' ∧ (rd (FP w.heap.size w'.heap.size) w' 9 (.grp 0 a)).node (.pointer (some ⟨b, 0, none⟩)) ∧ G ≤ 9

/-- The three results' cells. -/
abbrev w3of (w : World) : World := ((w.alloc (.cells #[.pointer none] 60)).alloc (.cells #[.int .i64 0] 3)).alloc (.cells #[.bool false] 4)
abbrev w4of (s : ByteArray) (w : World) : World := (w3of w).alloc (.cells #[.string s, .int .i64 0, .int .i64 0, .int .i64 0, .int .i64 0] 132)

theorem w4_size (s : ByteArray) (w : World) : (w4of s w).heap.size = w.heap.size + 4 := by simp
theorem w4_rs (s : ByteArray) (w : World) (hs : s.size ≤ 300) : RS (w.heap.size + 1 + 1 + 1) s 0 ⟨0, 0, 0⟩ (w4of s w) := by
  have h : ∀ i v, (#[.string s, .int .i64 0, .int .i64 0, .int .i64 0, .int .i64 0] : Array Value)[i]? = some v → Holds (w4of s w) (w.heap.size + 1 + 1 + 1) i v := fun i v hv => by
    have h1 := Holds.made (w3of w) #[.string s, .int .i64 0, .int .i64 0, .int .i64 0, .int .i64 0] 132 i v hv
    rw [show (w3of w).heap.size = w.heap.size + 1 + 1 + 1 by simp] at h1
    exact h1
  exact ⟨(h 0 _ rfl).1, h 1 _ rfl, h 2 _ rfl, h 3 _ rfl, h 4 _ rfl, Nat.zero_le _, hs, Nat.zero_le _, Nat.zero_le _, Nat.zero_le _⟩
theorem w4_cells (s : ByteArray) (w : World) : Holds (w4of s w) w.heap.size 0 (.pointer none) ∧ Holds (w4of s w) (w.heap.size + 1) 0 (.int .i64 0) ∧ Holds (w4of s w) (w.heap.size + 1 + 1) 0 (.bool false) := by
  refine ⟨(((Holds.made w #[.pointer none] 60 0 _ rfl).alloc _).alloc _).alloc _, ?_, ?_⟩
  · have h1 := Holds.made (w.alloc (.cells #[.pointer none] 60)) #[.int .i64 0] 3 0 _ rfl
    rw [show (w.alloc (.cells #[.pointer none] 60)).heap.size = w.heap.size + 1 by simp] at h1
    exact (h1.alloc _).alloc _
  · have h1 := Holds.made ((w.alloc (.cells #[.pointer none] 60)).alloc (.cells #[.int .i64 0] 3)) #[.bool false] 4 0 _ rfl
    rw [show ((w.alloc (.cells #[.pointer none] 60)).alloc (.cells #[.int .i64 0] 3)).heap.size = w.heap.size + 1 + 1 by simp] at h1
    exact h1.alloc _
theorem w4_still (s : ByteArray) (w : World) : Still w (w4of s w) := ((((Touch.refl _ w).alloc _).alloc _).alloc _).alloc _

theorem alloc_past (w : World) (o : Obj) {b i : Nat} {v : Value} (h : w.cell? ⟨b, i, none⟩ = some v) : (w.alloc o).cell? ⟨b, i, none⟩ = some v := (World.cell?_alloc_past _ _ _ (block_lt_of_cell h)).trans h

theorem read_cells {n : Nat} (w : World) {wa : World} {u0 u1 u2 : Value} (h0 : Holds wa n 0 u0) (h1 : Holds wa (n + 1) 0 u1) (h2 : Holds wa (n + 1 + 1) 0 u2) (v0 v1 v2 : Value) :
    (((wa.setCell ⟨n, 0, none⟩ v0).setCell ⟨n + 1, 0, none⟩ v1).setCell ⟨n + 1 + 1, 0, none⟩ v2).cell? ⟨n, 0, none⟩ = some v0 ∧ (((wa.setCell ⟨n, 0, none⟩ v0).setCell ⟨n + 1, 0, none⟩ v1).setCell ⟨n + 1 + 1, 0, none⟩ v2).cell? ⟨n + 1, 0, none⟩ = some v1 ∧ (((wa.setCell ⟨n, 0, none⟩ v0).setCell ⟨n + 1, 0, none⟩ v1).setCell ⟨n + 1 + 1, 0, none⟩ v2).cell? ⟨n + 1 + 1, 0, none⟩ = some v2 :=
  ⟨(((h0.set v0).set_other v1 (.inl (by simp))).set_other v2 (.inl (by show n + 1 + 1 ≠ n; omega))).1, (((h1.set_other v0 (.inl (by simp))).set v1).set_other v2 (.inl (by simp))).1, (((h2.set_other v0 (.inl (by show n ≠ n + 1 + 1; omega))).set_other v1 (.inl (by simp))).set v2).1⟩

set_option maxRecDepth 100000 in
set_option maxHeartbeats 8000000 in
theorem read_any (s : ByteArray) (w : World) :
    Calls Tryz.prog 44 #[.string s] w (ReadPost w (readP (str s))) := by
  have hmf : ∀ (fn : Fn) (first cap : Array Value) (w : World), (Instr.makeFunc fn first cap).run Tryz.prog w = .ok (.func fn first cap) w := fun _ _ _ _ => rfl
  by_cases hlen : 300 < s.size
  · have HR : Hid (readP (str s) = none) := Lib.hid (by unfold readP; rw [str_len, if_pos hlen])
    have q1 : decide (300 < (s.size : Int)) = true := by simp; omega
    go_enter_defers Tryz.func44, Tryz.ntmps44
    go_wp2_with fail
    simp [bodyPostD, Leaves, results, Tryz.results44, go_sem]
    rw [HR.out]
    exact ⟨rfl, (((Touch.refl _ w).alloc _).alloc _).alloc _⟩
  · have hr : readP (str s) = readEnd (str s) (waysP (str s) 11 ⟨0, 0, 0⟩) := by unfold readP; rw [str_len, if_neg hlen]
    have HR := Lib.hid hr
    have q1 : decide (300 < (s.size : Int)) = false := by simp; omega
    have HRS4 := Lib.hid (w4_rs s w (by omega))
    have HC4 := Lib.hid (w4_cells s w)
    have HT4 := Lib.hid (w4_still s w)
    have HZ4 := Lib.hid (w4_size s w)
    have HW := Lib.hid ((wok (w.heap.size + 1 + 1 + 1) s 11 0 rfl).2 (by decide) ⟨0, 0, 0⟩ _ HRS4.out)
    have hsz : s.size ≤ 300 := by omega
    obtain ⟨w4, hw4⟩ : ∃ w4, w4of s w = w4 := ⟨_, rfl⟩
    rw [hw4] at HRS4 HC4 HT4 HZ4 HW
    clear hr hlen
    unfold w4of w3of at hw4
    go_enter_defers Tryz.func44, Tryz.ntmps44
    go_wp2_with fail
    refine HW.out.mono ?_
    clear HW hw4
    intro e w5 hG
    cases hw : waysP (str s) 11 ⟨0, 0, 0⟩ with
    | none =>
      rw [hw] at hG
      obtain ⟨rfl, ht⟩ := hG
      have HR2 : Hid (readP (str s) = none) := Lib.hid (by rw [HR.out, hw]; rfl)
      obtain ⟨h0, h1, h2⟩ := HC4.out
      have hx0 := h0.keep ht (by omega)
      have hx1 := h1.keep ht (by omega)
      have hx2 := h2.keep ht (by omega)
      have HTW : Hid (Still w w5) := Lib.hid (HT4.out.trans ht (fun i e => .inr (by omega)))
      refine leaves_cons (f := 58) (args := #[.pointer (some ⟨w.heap.size, 0, none⟩), .pointer (some ⟨w.heap.size + 1, 0, none⟩), .pointer (some ⟨w.heap.size + 1 + 1, 0, none⟩)]) (by simp) (by simp [go_sem]) ?_
      refine (read1_panicking w.heap.size (w.heap.size + 1) (w.heap.size + 1 + 1) _ _ _ [] w5 hx0 hx1 hx2 (by omega) (by omega) (by omega)).mono ?_
      rintro e u' w'' ⟨rfl, rfl, rfl⟩
      obtain ⟨hv0, hv1, hv2⟩ := read_cells w5 (hx0.alloc (.cells #[] 128)) (hx1.alloc (.cells #[] 128)) (hx2.alloc (.cells #[] 128)) (.pointer none) (.int .i64 0) (.bool false)
      simp [Leaves, settle, results, Tryz.results44, go_sem, hv0, hv1, hv2]
      rw [HR2.out]
      refine ⟨rfl, ?_⟩
      refine HTW.out.trans (S1 := fun b => w.heap.size ≤ b) ?_ (fun i e => .inr e)
      refine ((((Touch.refl _ _).alloc _).setCell (.inl ?_) _).setCell (.inl ?_) _).setCell (.inl ?_) _
      · show w.heap.size ≤ w.heap.size; omega
      · show w.heap.size ≤ w.heap.size + 1; omega
      · show w.heap.size ≤ w.heap.size + 1 + 1; omega
    | some t =>
      obtain ⟨a, p2, g2, r2⟩ := t
      rw [hw] at hG
      obtain ⟨x, l, cap, rfl, hlc, hrs, ht, hrd, -⟩ := hG
      have hres := HR.out
      rw [hw] at hres
      have HRES := Lib.hid hres
      have HRS5 := Lib.hid hrs
      have HT45 := Lib.hid ht
      have HRD5 := Lib.hid hrd
      clear hw hres hrs ht hrd HR
      obtain ⟨h0, h1, h2⟩ := HC4.out
      have hx0 := (h0.keep HT45.out (by omega)).alloc (.cells (nd 8 (.pointer none) 0 x l cap (.pointer none) 0 0 0) 89)
      have HX0 := Lib.hid hx0
      have HX1 := Lib.hid ((h1.keep HT45.out (by omega)).alloc (.cells (nd 8 (.pointer none) 0 x l cap (.pointer none) 0 0 0) 89))
      have HX2 := Lib.hid ((h2.keep HT45.out (by omega)).alloc (.cells (nd 8 (.pointer none) 0 x l cap (.pointer none) 0 0 0) 89))
      have HNB6 := Lib.hid (NB.made w5 (nd 8 (.pointer none) 0 x l cap (.pointer none) 0 0 0))
      have T56 : Touch (fun b => w.heap.size ≤ b) w5 (w5.alloc (.cells (nd 8 (.pointer none) 0 x l cap (.pointer none) 0 0 0) 89)) := (Touch.refl _ _).alloc _
      have HRS6 := Lib.hid (HRS5.out.keep ((Touch.refl (fun _ => False) w5).alloc (.cells (nd 8 (.pointer none) 0 x l cap (.pointer none) 0 0 0) 89)) id)
      obtain ⟨w6, hw6⟩ : ∃ w6, w5.alloc (.cells (nd 8 (.pointer none) 0 x l cap (.pointer none) 0 0 0) 89) = w6 := ⟨_, rfl⟩
      rw [hw6] at hx0 HX0 HX1 HX2 HNB6 T56 HRS6
      have HB6 := Lib.hid hx0
      obtain ⟨hx0, hx0f⟩ := hx0
      obtain ⟨w7, hw7⟩ : ∃ w7, w6.setCell ⟨w.heap.size, 0, none⟩ (.pointer (some ⟨w5.heap.size, 0, none⟩)) = w7 := ⟨_, rfl⟩
      have hw7' := Lib.hid hw7
      have T56' : Touch (fun b => b = w.heap.size) w5 w6 := by rw [← hw6]; exact (Touch.refl _ _).alloc _
      have t67 : Touch (fun b => b = w.heap.size) w6 w7 := by rw [← hw7]; exact Touch.setCell (Touch.refl (fun b => b = w.heap.size) w6) (.inl rfl) _
      clear h0 h1 h2
      go_wp2_with fail
      clear hw6 hw7 hx0 hx0f
      have HRS7 := Lib.hid (HRS6.out.keep t67 (by omega))
      have HB7 := Lib.hid ((HB6.out.set (.pointer (some ⟨w5.heap.size, 0, none⟩))))
      rw [hw7'.out] at HB7
      have HX17 := Lib.hid (HX1.out.keep t67 (by omega))
      have HX27 := Lib.hid (HX2.out.keep t67 (by omega))
      have HNB7 := Lib.hid (HNB6.out.keep t67 (by have := HT45.out.size; have := HZ4.out; omega))
      have HT7 : Hid (Still w w7) := Lib.hid (((HT4.out.trans HT45.out (fun i e => .inr (by omega))).trans T56 (fun i e => .inr e)).trans t67 (fun i e => .inr (by omega)))
      have HT57 : Hid (Touch (fun b => b = w.heap.size) w5 w7) := Lib.hid (T56'.then t67)
      clear t67 T56 T56' hw7'
      have hc1 := HRS7.out.c1.1
      have hc2 := HRS7.out.c2.1
      have hc4 := HRS7.out.c4.1
      simp only at hc1 hc2 hc4
      have hbad : Hid ((p2 < s.size ∨ g2 < r2) → readP (str s) = none) := Lib.hid (fun h => by rw [HRES.out]; unfold readEnd; dsimp only; rw [str_len, if_pos h])
      by_cases r1 : p2 < s.size
      · have qa : decide ((p2 : Int) < (s.size : Int)) = true := by simp; omega
        have qan : decide (p2 < s.size) = true := by simp; omega
        have HR2 := Lib.hid (hbad.out (.inl r1))
        clear hbad r1
        go_wp2_with fail
        go_quiet (fail)
        generalize hw8 : w7.drewN nq = w8
        have t78 : Touch (fun _ => False) w7 w8 := by rw [← hw8]; exact still_drewN _ nq
        clear hw8
        have hx0 := HB7.out.keep t78 id
        have hx1 := HX17.out.keep t78 id
        have hx2 := HX27.out.keep t78 id
        have HTW : Hid (Still w w8) := Lib.hid (HT7.out.then t78)
        clear hc1 hc2 hc4
        have HX := Lib.hid (And.intro hx0 (And.intro hx1 hx2))
        clear hx0 hx1 hx2
        go_wp2_with fail
        refine (fail_any _ _).mono ?_
        rintro e w9 ⟨rfl, rfl⟩
        obtain ⟨hx0, hx1, hx2⟩ := HX.out
        refine leaves_cons (f := 58) (args := #[.pointer (some ⟨w.heap.size, 0, none⟩), .pointer (some ⟨w.heap.size + 1, 0, none⟩), .pointer (some ⟨w.heap.size + 1 + 1, 0, none⟩)]) (by simp) (by simp [go_sem]) ?_
        refine (read1_panicking w.heap.size (w.heap.size + 1) (w.heap.size + 1 + 1) _ _ _ [] w8 hx0 hx1 hx2 (by omega) (by omega) (by omega)).mono ?_
        rintro e u' w'' ⟨rfl, rfl, rfl⟩
        obtain ⟨hv0, hv1, hv2⟩ := read_cells w8 (hx0.alloc (.cells #[] 128)) (hx1.alloc (.cells #[] 128)) (hx2.alloc (.cells #[] 128)) (.pointer none) (.int .i64 0) (.bool false)
        simp [Leaves, settle, results, Tryz.results44, go_sem, hv0, hv1, hv2]
        rw [HR2.out]
        refine ⟨rfl, ?_⟩
        refine HTW.out.trans (S1 := fun b => w.heap.size ≤ b) ?_ (fun i e => .inr e)
        refine ((((Touch.refl _ _).alloc _).setCell (.inl ?_) _).setCell (.inl ?_) _).setCell (.inl ?_) _
        · show w.heap.size ≤ w.heap.size; omega
        · show w.heap.size ≤ w.heap.size + 1; omega
        · show w.heap.size ≤ w.heap.size + 1 + 1; omega
      · have qa : decide ((p2 : Int) < (s.size : Int)) = false := by simp; omega
        have qan : decide (p2 < s.size) = false := by simp; omega
        by_cases r2' : g2 < r2
        · have qb : decide ((g2 : Int) < (r2 : Int)) = true := by simp; omega
          have qbn : decide (g2 < r2) = true := by simp; omega
          have HR2 := Lib.hid (hbad.out (.inr r2'))
          clear hbad r2'
          go_wp2_with fail
          go_quiet (fail)
          generalize hw8 : w7.drewN nq = w8
          have t78 : Touch (fun _ => False) w7 w8 := by rw [← hw8]; exact still_drewN _ nq
          clear hw8
          have hx0 := HB7.out.keep t78 id
          have hx1 := HX17.out.keep t78 id
          have hx2 := HX27.out.keep t78 id
          have HTW : Hid (Still w w8) := Lib.hid (HT7.out.then t78)
          clear hc1 hc2 hc4
          have HX := Lib.hid (And.intro hx0 (And.intro hx1 hx2))
          clear hx0 hx1 hx2
          go_wp2_with fail
          refine (fail_any _ _).mono ?_
          rintro e w9 ⟨rfl, rfl⟩
          obtain ⟨hx0, hx1, hx2⟩ := HX.out
          refine leaves_cons (f := 58) (args := #[.pointer (some ⟨w.heap.size, 0, none⟩), .pointer (some ⟨w.heap.size + 1, 0, none⟩), .pointer (some ⟨w.heap.size + 1 + 1, 0, none⟩)]) (by simp) (by simp [go_sem]) ?_
          refine (read1_panicking w.heap.size (w.heap.size + 1) (w.heap.size + 1 + 1) _ _ _ [] w8 hx0 hx1 hx2 (by omega) (by omega) (by omega)).mono ?_
          rintro e u' w'' ⟨rfl, rfl, rfl⟩
          obtain ⟨hv0, hv1, hv2⟩ := read_cells w8 (hx0.alloc (.cells #[] 128)) (hx1.alloc (.cells #[] 128)) (hx2.alloc (.cells #[] 128)) (.pointer none) (.int .i64 0) (.bool false)
          simp [Leaves, settle, results, Tryz.results44, go_sem, hv0, hv1, hv2]
          rw [HR2.out]
          refine ⟨rfl, ?_⟩
          refine HTW.out.trans (S1 := fun b => w.heap.size ≤ b) ?_ (fun i e => .inr e)
          refine ((((Touch.refl _ _).alloc _).setCell (.inl ?_) _).setCell (.inl ?_) _).setCell (.inl ?_) _
          · show w.heap.size ≤ w.heap.size; omega
          · show w.heap.size ≤ w.heap.size + 1; omega
          · show w.heap.size ≤ w.heap.size + 1 + 1; omega
        · have qb : decide ((g2 : Int) < (r2 : Int)) = false := by simp; omega
          have qbn : decide (g2 < r2) = false := by simp; omega
          have HR2 : Hid (readP (str s) = some (a, g2)) := Lib.hid (by rw [HRES.out]; unfold readEnd; dsimp only; rw [str_len, if_neg (by omega)])
          clear hbad r2' HRES
          go_wp2_with fail
          go_quiet (fail)
          generalize hw8 : w7.drewN nq = w8
          have t78 : Touch (fun _ => False) w7 w8 := by rw [← hw8]; exact still_drewN _ nq
          clear hw8 hc1 hc2 hc4 qa qan qb qbn
          have HRS8 := Lib.hid (HRS7.out.keep t78 id)
          have hy0 := HB7.out.keep t78 id
          have hy1 := HX17.out.keep t78 id
          have hy2 := HX27.out.keep t78 id
          have HY0 := Lib.hid hy0
          have HY1 := Lib.hid hy1
          have HY2 := Lib.hid hy2
          have HC2 := Lib.hid HRS8.out.c2
          obtain ⟨hy0, hy0f⟩ := hy0
          obtain ⟨hy1, hy1f⟩ := hy1
          obtain ⟨hy2, hy2f⟩ := hy2
          have hc2 := HRS8.out.c2.1
          simp only at hc2
          go_wp2_with fail
          go_region
          go_wp2_with fail
          obtain ⟨hv0, hv1, hv2⟩ := read_cells w8 HY0.out HY1.out HY2.out (.pointer (some ⟨w5.heap.size, 0, none⟩)) (.int .i64 (g2 : Int)) (.bool true)
          obtain ⟨w9, hw9⟩ : ∃ w9, ((((w8.setCell ⟨w.heap.size, 0, none⟩ (.pointer (some ⟨w5.heap.size, 0, none⟩))).setCell ⟨w.heap.size + 1, 0, none⟩ (.int .i64 (g2 : Int))).setCell ⟨w.heap.size + 1 + 1, 0, none⟩ (.bool true))).drew = w9 := ⟨_, rfl⟩
          have t89 : Touch (fun b => w.heap.size ≤ b ∧ b < w4.heap.size) w8 w9 := by
            rw [← hw9]
            have hz := HZ4.out
            refine Touch.drew ((((Touch.refl _ _).setCell (.inl ?_) _).setCell (.inl ?_) _).setCell (.inl ?_) _)
            · show w.heap.size ≤ w.heap.size ∧ w.heap.size < w4.heap.size; omega
            · show w.heap.size ≤ w.heap.size + 1 ∧ w.heap.size + 1 < w4.heap.size; omega
            · show w.heap.size ≤ w.heap.size + 1 + 1 ∧ w.heap.size + 1 + 1 < w4.heap.size; omega
          rw [hw9]
          replace hv0 : w9.cell? ⟨w.heap.size, 0, none⟩ = some (.pointer (some ⟨w5.heap.size, 0, none⟩)) := by rw [← hw9]; exact hv0
          replace hv1 : w9.cell? ⟨w.heap.size + 1, 0, none⟩ = some (.int .i64 (g2 : Int)) := by rw [← hw9]; exact hv1
          replace hv2 : w9.cell? ⟨w.heap.size + 1 + 1, 0, none⟩ = some (.bool true) := by rw [← hw9]; exact hv2
          clear hw9
          refine leaves_cons (f := 58) (args := #[.pointer (some ⟨w.heap.size, 0, none⟩), .pointer (some ⟨w.heap.size + 1, 0, none⟩), .pointer (some ⟨w.heap.size + 1 + 1, 0, none⟩)]) (by simp) (by simp [go_sem]) ?_
          refine (read1_idle w.heap.size (w.heap.size + 1) (w.heap.size + 1 + 1) w9).mono ?_
          rintro e u' w'' ⟨rfl, rfl, rfl⟩
          have hy0 := alloc_past w9 (.cells #[] 128) hv0
          have hy1 := alloc_past w9 (.cells #[] 128) hv1
          have hy2 := alloc_past w9 (.cells #[] 128) hv2
          simp [Leaves, settle, results, Tryz.results44, go_sem, hy0, hy1, hy2]
          rw [HR2.out]
          have ta : Touch (fun _ => False) w9 (w9.alloc (.cells #[] 128)) := (Touch.refl _ _).alloc _
          have hz := HZ4.out
          have hz2 := HT45.out.size
          have hz3 := HT57.out.size
          have hz4 := t78.size
          have hz5 := t89.size
          have hz6 := ta.size
          have hnl := HNB7.out.lt
          have TE : Touch (fun b => w.heap.size ≤ b ∧ b < w4.heap.size) w5 (w9.alloc (.cells #[] 128)) := (((HT57.out.mono (S1 := fun b => w.heap.size ≤ b ∧ b < w4.heap.size) (fun i _ e => by omega)).then (t78.mono (fun _ _ e => e.elim))).then t89).then (ta.mono (fun _ _ e => e.elim))
          refine ⟨w5.heap.size, rfl, ?_, ?_, HRS8.out.gs⟩
          · refine ((((HT7.out.then t78).trans t89 (fun i e => .inr e.1)).then ta))
          · have hn9 := (HNB7.out.keep t78 id).keep t89 (fun e => by have := e.2; omega)
            have hn10 := hn9.keep ta id
            refine ⟨w5.heap.size, _, _, _, _, _, _, _, _, rfl, hn10.node ⟨by omega, by omega⟩, by omega, hlc, ?_⟩
            exact (rd_later TE (fun b e => .inl (by have := e.2; omega)) (by omega) (by omega) a).2.2 _ _ HRD5.out
end Go.Proofs.YtlgpilcjcomacaaGreat

/-
  The program's asked, Check, Groups.
-/
namespace Go.Proofs.YtlgpilcjcomacaaGreat
open Go.RowKit Rx
set_option linter.unusedVariables false

/-- Whether what is asked lies in its bounds. -/
def askOK (z : Nat) (fr bu : Int) : Bool := decide (z ≤ 5000 ∧ 0 ≤ fr ∧ fr ≤ (z : Int) ∧ 0 ≤ bu ∧ bu ≤ 1000000)

def AskPost (w : World) (ok : Bool) : Option (Re × Nat) → Ending → World → Prop
  | none, e, w' => e = .returned (.tuple #[.pointer none, .int .i64 0, .int .i64 4]) ∧ Still w w'
  | some (a, G), e, w' => (ok = false ∧ e = .returned (.tuple #[.pointer none, .int .i64 0, .int .i64 1]) ∧ Still w w') ∨
      (ok = true ∧ ∃ b, e = .returned (.tuple #[.pointer (some ⟨b, 0, none⟩), .int .i64 (G : Int), .int .i64 0]) ∧ Still w w' ∧ (rd (FP w.heap.size w'.heap.size) w' 9 (.grp 0 a)).node (.pointer (some ⟨b, 0, none⟩)) ∧ G ≤ 9)

set_option maxRecDepth 100000 in
set_option maxHeartbeats 8000000 in
theorem asked_any (s t : ByteArray) (fr bu : Int) (w : World) :
    Calls Tryz.prog 29 #[.string s, .string t, .int .i64 fr, .int .i64 bu] w (AskPost w (askOK t.size fr bu) (readP (str s))) := by
  have h0 := read_any s w
  generalize readP (str s) = rr at h0 ⊢
  have HRD := Lib.hid h0
  clear h0
  go_enter Tryz.func29, Tryz.ntmps29
  go_wp2_with fail
  refine HRD.out.mono ?_
  intro e w1 hG
  clear HRD
  cases rr with
  | none =>
    obtain ⟨rfl, ht⟩ := hG
    have HT := Lib.hid ht
    clear ht
    go_wp2_with fail
    go_ret3
    exact ⟨rfl, HT.out⟩
  | some x =>
    obtain ⟨a, G⟩ := x
    obtain ⟨b, rfl, ht, hrd, hg9⟩ := hG
    have HG9 := Lib.hid hg9
    clear hg9
    have HT := Lib.hid ht
    have HN := Lib.hid hrd
    clear ht hrd
    by_cases h1 : 5000 < t.size
    · have q1 : decide (5000 < (t.size : Int)) = true := by simp; omega
      have HB : Hid (askOK t.size fr bu = false) := Lib.hid (decide_eq_false (by omega))
      go_wp2_with fail
      go_ret3
      exact .inl ⟨HB.out, rfl, HT.out⟩
    · have q1 : decide (5000 < (t.size : Int)) = false := by simp; omega
      by_cases h2 : fr < 0
      · have q2 : decide (fr < 0) = true := by simp; omega
        have HB : Hid (askOK t.size fr bu = false) := Lib.hid (decide_eq_false (by omega))
        go_wp2_with fail
        go_ret3
        exact .inl ⟨HB.out, rfl, HT.out⟩
      · have q2 : decide (fr < 0) = false := by simp; omega
        by_cases h3 : (t.size : Int) < fr
        · have q3 : decide ((t.size : Int) < fr) = true := by simp; omega
          have HB : Hid (askOK t.size fr bu = false) := Lib.hid (decide_eq_false (by omega))
          go_wp2_with fail
          go_ret3
          exact .inl ⟨HB.out, rfl, HT.out⟩
        · have q3 : decide ((t.size : Int) < fr) = false := by simp; omega
          by_cases h4 : bu < 0
          · have q4 : decide (bu < 0) = true := by simp; omega
            have HB : Hid (askOK t.size fr bu = false) := Lib.hid (decide_eq_false (by omega))
            go_wp2_with fail
            go_ret3
            exact .inl ⟨HB.out, rfl, HT.out⟩
          · have q4 : decide (bu < 0) = false := by simp; omega
            by_cases h5 : 1000000 < bu
            · have q5 : decide (1000000 < bu) = true := by simp; omega
              have HB : Hid (askOK t.size fr bu = false) := Lib.hid (decide_eq_false (by omega))
              go_wp2_with fail
              go_ret3
              exact .inl ⟨HB.out, rfl, HT.out⟩
            · have q5 : decide (1000000 < bu) = false := by simp; omega
              have HB : Hid (askOK t.size fr bu = true) := Lib.hid (decide_eq_true (by omega))
              go_wp2_with fail
              go_ret3
              exact .inr ⟨HB.out, b, rfl, HT.out, HN.out, HG9.out⟩
end Go.Proofs.YtlgpilcjcomacaaGreat

/-
  The program's Check, Groups.
-/
namespace Go.Proofs.YtlgpilcjcomacaaGreat
open Go.RowKit Rx
set_option linter.unusedVariables false

def checkV : Option (Re × Nat) → Int
  | none => 4
  | some _ => 0
def groupsV : Option (Re × Nat) → Nat
  | none => 0
  | some x => x.2

set_option maxRecDepth 100000 in
theorem check_any (s : ByteArray) (w : World) :
    Calls Tryz.prog 26 #[.string s] w fun e w' => e = .returned (.int .i64 (checkV (readP (str s)))) ∧ Still w w' := by
  have h0 := asked_any s ⟨#[]⟩ 0 0 w
  generalize readP (str s) = rr at h0 ⊢
  have HA := Lib.hid h0
  clear h0
  go_enter Tryz.func26, Tryz.ntmps26
  go_wp2_with fail
  refine HA.out.mono ?_
  intro e w1 hG
  clear HA
  cases rr with
  | none =>
    obtain ⟨rfl, ht⟩ := hG
    have HT := Lib.hid ht
    clear ht
    go_wp2_with fail
    go_ret
    exact ⟨rfl, HT.out⟩
  | some x =>
    obtain ⟨a, G⟩ := x
    rcases hG with ⟨h, -⟩ | ⟨-, b, rfl, ht, hrd⟩
    · exact absurd h (by decide)
    · have HT := Lib.hid ht
      clear ht hrd
      go_wp2_with fail
      go_ret
      exact ⟨rfl, HT.out⟩

set_option maxRecDepth 100000 in
theorem groups_any (s : ByteArray) (w : World) :
    Calls Tryz.prog 24 #[.string s] w fun e w' => e = .returned (.tuple #[.int .i64 (groupsV (readP (str s)) : Int), .int .i64 (checkV (readP (str s)))]) ∧ Still w w' := by
  have h0 := asked_any s ⟨#[]⟩ 0 0 w
  generalize readP (str s) = rr at h0 ⊢
  have HA := Lib.hid h0
  clear h0
  go_enter Tryz.func24, Tryz.ntmps24
  go_wp2_with fail
  refine HA.out.mono ?_
  intro e w1 hG
  clear HA
  cases rr with
  | none =>
    obtain ⟨rfl, ht⟩ := hG
    have HT := Lib.hid ht
    clear ht
    go_wp2_with fail
    go_ret2
    exact ⟨rfl, HT.out⟩
  | some x =>
    obtain ⟨a, G⟩ := x
    rcases hG with ⟨h, -⟩ | ⟨-, b, rfl, ht, hrd⟩
    · exact absurd h (by decide)
    · have HT := Lib.hid ht
      clear ht hrd
      go_wp2_with fail
      go_ret2
      exact ⟨rfl, HT.out⟩
end Go.Proofs.YtlgpilcjcomacaaGreat

/-
  Plain: the numbers of the groups and back references of a tree that was read.
-/
namespace Go.Proofs.YtlgpilcjcomacaaGreat
open Go.RowKit Rx
set_option linter.unusedVariables false

/-- The groups of a tree have numbers up to g, its back references up to r. -/
def fits (g r : Nat) : Re → Prop
  | .set _ => True
  | .asr _ => True
  | .bref m => m ≤ r
  | .nil => True
  | .cat a b => fits g r a ∧ fits g r b
  | .none => True
  | .alt a b => fits g r a ∧ fits g r b
  | .grp m a => m ≤ g ∧ fits g r a
  | .look _ a => fits g r a
  | .atom a => fits g r a
  | .rep a _ _ _ => fits g r a
  | .poss a _ _ => fits g r a
theorem fits_mono {g g' r r' : Nat} (hg : g ≤ g') (hr : r ≤ r') : ∀ a, fits g r a → fits g' r' a
  | .set _, _ => trivial
  | .asr _, _ => trivial
  | .bref m, h => Nat.le_trans h hr
  | .nil, _ => trivial
  | .cat a b, h => ⟨fits_mono hg hr a h.1, fits_mono hg hr b h.2⟩
  | .none, _ => trivial
  | .alt a b, h => ⟨fits_mono hg hr a h.1, fits_mono hg hr b h.2⟩
  | .grp m a, h => ⟨Nat.le_trans h.1 hg, fits_mono hg hr a h.2⟩
  | .look _ a, h => fits_mono hg hr a h
  | .atom a, h => fits_mono hg hr a h
  | .rep a _ _ _, h => fits_mono hg hr a h
  | .poss a _ _, h => fits_mono hg hr a h

theorem rd_fit {F : Nat → Prop} {w : World} {G : Nat} : ∀ a : Re, fits G G a → (∀ p, (rd F w 9 a).node p → (rd F w G a).node p) ∧ (∀ x l, (rd F w 9 a).row x l → (rd F w G a).row x l) ∧ (∀ x l, (rd F w 9 a).ways x l → (rd F w G a).ways x l) := by
  intro a
  induction a with
  | set f => exact fun _ => ⟨fun _ h => h, fun _ _ h => h, fun _ _ h => h⟩
  | asr k => exact fun _ => ⟨fun _ h => h, fun _ _ h => h, fun _ _ h => h⟩
  | bref m => exact fun hf => ⟨fun p ⟨b, of, wa, wl, wc, kid, least, most, how, e, h, h1, h2⟩ => ⟨b, of, wa, wl, wc, kid, least, most, how, e, h, h1, hf⟩, fun _ _ h => h.elim, fun _ _ h => h.elim⟩
  | nil => exact fun _ => ⟨fun _ h => h, fun _ _ h => h, fun _ _ h => h⟩
  | cat x r ihx ihr => exact fun hf => ⟨fun _ h => h.elim, fun _ _ ⟨b, o, p, e, hb, h1, h2, h3, h4, h5⟩ => ⟨b, o, p, e, hb, h1, h2, h3, (ihx hf.1).1 _ h4, (ihr hf.2).2.1 _ _ h5⟩, fun _ _ h => h.elim⟩
  | none => exact fun _ => ⟨fun _ h => h, fun _ _ h => h, fun _ _ h => h⟩
  | alt x r ihx ihr => exact fun hf => ⟨fun _ h => h.elim, fun _ _ h => h.elim, fun _ _ ⟨b, o, ra, rl, rc, e, hb, h1, h2, h3, h4, h5, h6⟩ => ⟨b, o, ra, rl, rc, e, hb, h1, h2, h3, h4, (ihx hf.1).2.1 _ _ h5, (ihr hf.2).2.2 _ _ h6⟩⟩
  | grp m x ih => exact fun hf => ⟨fun p ⟨b, of, wa, wl, wc, kid, least, most, how, e, h, h1, h2, h3⟩ => ⟨b, of, wa, wl, wc, kid, least, most, how, e, h, hf.1, h2, (ih hf.2).2.2 _ _ h3⟩, fun _ _ h => h.elim, fun _ _ h => h.elim⟩
  | look neg x ih => exact fun hf => ⟨fun p ⟨b, of, num, wa, wl, wc, kid, least, most, how, e, h, h2, h3⟩ => ⟨b, of, num, wa, wl, wc, kid, least, most, how, e, h, h2, (ih hf).2.2 _ _ h3⟩, fun _ _ h => h.elim, fun _ _ h => h.elim⟩
  | atom x ih => exact fun hf => ⟨fun p ⟨b, of, num, wa, wl, wc, kid, least, most, how, e, h, h2, h3⟩ => ⟨b, of, num, wa, wl, wc, kid, least, most, how, e, h, h2, (ih hf).2.2 _ _ h3⟩, fun _ _ h => h.elim, fun _ _ h => h.elim⟩
  | rep x least most lazy ih => exact fun hf => ⟨fun p ⟨b, of, num, wa, wl, wc, kid, e, h, h1, h2, h3, h4⟩ => ⟨b, of, num, wa, wl, wc, kid, e, h, h1, h2, h3, (ih hf).1 _ h4⟩, fun _ _ h => h.elim, fun _ _ h => h.elim⟩
  | poss x least most ih => exact fun hf => ⟨fun p ⟨b, of, num, wa, wl, wc, kid, e, h, h1, h2, h3, h4⟩ => ⟨b, of, num, wa, wl, wc, kid, e, h, h1, h2, h3, (ih hf).1 _ h4⟩, fun _ _ h => h.elim, fun _ _ h => h.elim⟩

/-- What a reader of trees gives: the numbers only grow, and the tree fits. -/
def PFit (P : PS → Option (Re × PS)) : Prop := ∀ st a st', P st = some (a, st') → st.grps ≤ st'.grps ∧ st.refs ≤ st'.refs ∧ fits st'.grps st'.refs a

theorem esc_fit (s : List UInt8) : PFit (escP s) := by
  intro st a st' h
  unfold escP at h
  split at h
  · cases h
  · split at h
    · cases h; exact ⟨Nat.le_refl _, Nat.le_refl _, trivial⟩
    · split at h
      · cases h; exact ⟨Nat.le_refl _, Nat.le_refl _, trivial⟩
      · split at h
        · cases h; exact ⟨Nat.le_refl _, Nat.le_refl _, trivial⟩
        · split at h
          · cases h; exact ⟨Nat.le_refl _, Nat.le_refl _, trivial⟩
          · split at h
            · cases h; exact ⟨Nat.le_refl _, Nat.le_refl _, trivial⟩
            · split at h
              · cases h; exact ⟨Nat.le_refl _, Nat.le_max_left _ _, Nat.le_max_right _ _⟩
              · split at h
                · cases h
                · cases h; exact ⟨Nat.le_refl _, Nat.le_refl _, trivial⟩

theorem inside_fit {W : PS → Option (Re × PS)} (hW : PFit W) (s : List UInt8) (mk : Re → Re) {g0 : Nat} (hmk : ∀ g r x, g0 ≤ g → fits g r x → fits g r (mk x)) (st : PS) (hg : g0 ≤ st.grps) (a : Re) (st' : PS) (h : insideP W s mk st = some (a, st')) : st.grps ≤ st'.grps ∧ st.refs ≤ st'.refs ∧ fits st'.grps st'.refs a := by
  unfold insideP at h
  split at h
  · cases h
  · split at h
    · cases h
    · rename_i x st2 hw
      split at h
      · cases h
        obtain ⟨h1, h2, h3⟩ := hW _ _ _ hw
        exact ⟨h1, h2, hmk _ _ _ (Nat.le_trans hg h1) h3⟩
      · cases h

theorem grp_fit {W : PS → Option (Re × PS)} (hW : PFit W) (s : List UInt8) : PFit (grpP W s) := by
  intro st a st' h
  unfold grpP at h
  split at h
  · (have h1 := inside_fit hW s (.grp 0) (g0 := 0) (fun g r x _ hx => ⟨Nat.zero_le _, hx⟩) _ (Nat.zero_le _) _ _ h; exact h1)
  · split at h
    · (have h1 := inside_fit hW s (.look false) (g0 := 0) (fun g r x _ hx => hx) _ (Nat.zero_le _) _ _ h; exact h1)
    · split at h
      · (have h1 := inside_fit hW s (.look true) (g0 := 0) (fun g r x _ hx => hx) _ (Nat.zero_le _) _ _ h; exact h1)
      · split at h
        · (have h1 := inside_fit hW s .atom (g0 := 0) (fun g r x _ hx => hx) _ (Nat.zero_le _) _ _ h; exact h1)
        · split at h
          · cases h
          · have h1 := inside_fit hW s (.grp (st.grps + 1)) (g0 := st.grps + 1) (fun g r x hg hx => ⟨hg, hx⟩) _ (Nat.le_refl _) _ _ h
            exact ⟨Nat.le_of_succ_le h1.1, h1.2⟩

theorem atom_fit {W : PS → Option (Re × PS)} (hW : PFit W) (s : List UInt8) : PFit (atomP W s) := by
  intro st a st' h
  unfold atomP at h
  split at h
  · (have h1 := esc_fit s _ _ _ h; exact h1)
  · split at h
    · cases h; exact ⟨Nat.le_refl _, Nat.le_refl _, trivial⟩
    · split at h
      · cases h; exact ⟨Nat.le_refl _, Nat.le_refl _, trivial⟩
      · split at h
        · cases h; exact ⟨Nat.le_refl _, Nat.le_refl _, trivial⟩
        · split at h
          · split at h
            · cases h
            · cases h; exact ⟨Nat.le_refl _, Nat.le_refl _, trivial⟩
          · split at h
            · (have h1 := grp_fit hW s _ _ _ h; exact h1)
            · split at h
              · cases h
              · cases h; exact ⟨Nat.le_refl _, Nat.le_refl _, trivial⟩

theorem how_fit (s : List UInt8) (a : Re) (lo : Nat) (hi : Int) (st : PS) (g r : Nat) (h : fits g r a) : (howP s a lo hi st).2.grps = st.grps ∧ (howP s a lo hi st).2.refs = st.refs ∧ fits g r (howP s a lo hi st).1 := by
  unfold howP
  split
  · exact ⟨rfl, rfl, h⟩
  · split
    · exact ⟨rfl, rfl, h⟩
    · exact ⟨rfl, rfl, h⟩

theorem piece_fit {W : PS → Option (Re × PS)} (hW : PFit W) (s : List UInt8) : PFit (pieceP W s) := by
  intro st a st' h
  unfold pieceP at h
  split at h
  · cases h
  · rename_i x st1 ha
    have h1 := atom_fit hW s _ _ _ ha
    split at h
    · cases h
    · cases h; exact h1
    · rename_i lo hi j ht
      split at h
      · cases h
      · split at h
        · cases h
        · have h2 := how_fit s x lo hi { st1 with pos := j } _ _ h1.2.2
          have h3 := Option.some.inj h
          rw [h3] at h2
          exact ⟨by rw [h2.1]; exact h1.1, by rw [h2.2.1]; exact h1.2.1, by rw [h2.1, h2.2.1]; exact h2.2.2⟩

theorem fits_row {g r : Nat} : ∀ l : List Re, (∀ x, x ∈ l → fits g r x) → fits g r (toRow l)
  | [], _ => trivial
  | a :: l, h => ⟨h a (List.mem_cons_self ..), fits_row l (fun x hx => h x (List.mem_cons_of_mem _ hx))⟩
theorem fits_ways {g r : Nat} : ∀ l : List (List Re), (∀ c, c ∈ l → ∀ x, x ∈ c → fits g r x) → fits g r (toWays l)
  | [], _ => trivial
  | a :: l, h => ⟨fits_row a (h a (List.mem_cons_self ..)), fits_ways l (fun c hc => h c (List.mem_cons_of_mem _ hc))⟩

theorem loop_fit {P : PS → Option (Re × PS)} (hP : PFit P) (s : List UInt8) : ∀ (f : Nat) (st : PS) (rows : List (List Re)) (cur : List Re) (res : List (List Re)) (st' : PS), loopP P s f st rows cur = some (res, st') → (∀ c, c ∈ rows → ∀ x, x ∈ c → fits st.grps st.refs x) → (∀ x, x ∈ cur → fits st.grps st.refs x) →
    st.grps ≤ st'.grps ∧ st.refs ≤ st'.refs ∧ ∀ c, c ∈ res → ∀ x, x ∈ c → fits st'.grps st'.refs x := by
  intro f
  induction f with
  | zero => intro st rows cur res st' h; cases h
  | succ f ih =>
    intro st rows cur res st' h hr hc
    unfold loopP at h
    split at h
    · split at h
      · have h1 := ih _ _ _ _ _ h (fun c hc' => by
          rcases List.mem_append.1 hc' with h1 | h1
          · exact hr c h1
          · rw [List.mem_singleton.1 h1]; exact hc) (fun x hx => by cases hx)
        exact h1
      · split at h
        · cases h
        · rename_i x st1 hp
          obtain ⟨h1, h2, h3⟩ := hP _ _ _ hp
          have h4 := ih _ _ _ _ _ h (fun c hc' y hy => fits_mono h1 h2 y (hr c hc' y hy)) (fun y hy => by
            rcases List.mem_append.1 hy with h5 | h5
            · exact fits_mono h1 h2 y (hc y h5)
            · rw [List.mem_singleton.1 h5]; exact h3)
          exact ⟨Nat.le_trans h1 h4.1, Nat.le_trans h2 h4.2.1, h4.2.2⟩
    · cases h
      exact ⟨Nat.le_refl _, Nat.le_refl _, fun c hc' => by
        rcases List.mem_append.1 hc' with h1 | h1
        · exact hr c h1
        · rw [List.mem_singleton.1 h1]; exact hc⟩

theorem ways_fit (s : List UInt8) : ∀ d, PFit (waysP s d)
  | 0 => fun st a st' h => by cases h
  | d + 1 => fun st a st' h => by
    unfold waysP waysEnd at h
    split at h
    · cases h
    · rename_i rows st1 hl
      cases h
      obtain ⟨h1, h2, h3⟩ := loop_fit (piece_fit (ways_fit s d) s) s _ _ _ _ _ _ hl (fun c hc => by cases hc) (fun x hx => by cases hx)
      exact ⟨h1, h2, fits_ways _ h3⟩

/-- What is read fits its own number of groups. -/
theorem read_fit {s : List UInt8} {a : Re} {G : Nat} (h : readP s = some (a, G)) : fits G G (.grp 0 a) := by
  unfold readP readEnd at h
  split at h
  · cases h
  · split at h
    · cases h
    · rename_i x st hw
      split at h
      · cases h
      · rename_i hn
        cases h
        have h1 := (ways_fit s 11 _ _ _ hw).2.2
        exact ⟨Nat.zero_le _, fits_mono (Nat.le_refl _) (by omega) _ h1⟩
end Go.Proofs.YtlgpilcjcomacaaGreat

/-
  The program's Match: what is tried.
-/
namespace Go.Proofs.YtlgpilcjcomacaaGreat
open Go.RowKit Rx
set_option linter.unusedVariables false

/-- What comes back of the try; r0: the answer's block. -/
def TriedP (c : Cx) (w : World) (r0 lo : Nat) : Res → Ending → World → Prop
  | .over, e, w' => e = .panicked [{ v := .iface 112 (.agg #[]), recovered := false }] ∧ Touch (fun b => b = c.bm) w w'
  | .no n, e, w' => e = .returned (.tuple #[]) ∧ Holds w' r0 0 (.bool false) ∧ ∃ w1, FindP c w lo (.no n) (.returned (.bool false)) w1 ∧ Touch (fun b => b = r0) w1 w'
  | .yes n g x, e, w' => e = .returned (.tuple #[]) ∧ Holds w' r0 0 (.bool true) ∧ ∃ w1, FindP c w lo (.yes n g x) (.returned (.bool true)) w1 ∧ Touch (fun b => b = r0) w1 w'

set_option maxRecDepth 100000 in
theorem match1_any (c : Cx) (a : Re) (p : Value) (hp : (trd c a).node p) (hpp : ∃ x, p = .pointer x) (lo n : Nat) (w : World) (hlo : lo ≤ c.s.size) (h : MB c n w) (m0 n0 q0 f0 r0 : Nat) (k0 : w.cell? ⟨m0, 0, none⟩ = some (.pointer (some ⟨c.bm, 0, none⟩))) (k1 : w.cell? ⟨n0, 0, none⟩ = some p) (k2 : w.cell? ⟨q0, 0, none⟩ = some (.int .i64 (c.G : Int))) (k3 : w.cell? ⟨f0, 0, none⟩ = some (.int .i64 (lo : Int))) (k4 : Holds w r0 0 (.bool false)) (hr : r0 ≠ c.bm) :
    Calls Tryz.prog 31 #[.pointer (some ⟨m0, 0, none⟩), .pointer (some ⟨n0, 0, none⟩), .pointer (some ⟨q0, 0, none⟩), .pointer (some ⟨f0, 0, none⟩), .pointer (some ⟨r0, 0, none⟩)] w (TriedP c w r0 lo (fr (str c.s) c.B a false lo n)) := by
  have h0 := find_any c a p hp false lo n w hlo h hpp
  generalize fr (str c.s) c.B a false lo n = rr at h0 ⊢
  have HF := Lib.hid h0
  have HK := Lib.hid k4
  obtain ⟨px, rfl⟩ := hpp
  clear h0 hp h k4
  go_enter Tryz.func31, Tryz.ntmps31
  go_wp2_with fail
  refine HF.out.mono ?_
  intro e w1 hG
  clear HF
  cases rr with
  | over =>
    obtain ⟨rfl, ht⟩ := hG
    refine ⟨rfl, ?_⟩
    exact ⟨rfl, ht⟩
  | no n1 =>
    have HG := Lib.hid hG
    obtain ⟨rfl, -, ht⟩ := hG
    have hk := HK.out.keep ht (fun e => hr e)
    have HK1 := Lib.hid hk
    obtain ⟨hk, hkf⟩ := hk
    clear ht
    go_wp2_with fail
    go_end0
    exact ⟨rfl, HK1.out.set _, w1, HG.out, Touch.setCell (Touch.refl (fun b => b = r0) w1) (.inl rfl) _⟩
  | yes n1 g x =>
    have HG := Lib.hid hG
    obtain ⟨rfl, -, -, ht⟩ := hG
    have hk := HK.out.keep ht (fun e => hr e)
    have HK1 := Lib.hid hk
    obtain ⟨hk, hkf⟩ := hk
    clear ht
    go_wp2_with fail
    go_end0
    exact ⟨rfl, HK1.out.set _, w1, HG.out, Touch.setCell (Touch.refl (fun b => b = r0) w1) (.inl rfl) _⟩
end Go.Proofs.YtlgpilcjcomacaaGreat

/-
  The program's Match.
-/
namespace Go.Proofs.YtlgpilcjcomacaaGreat
open Go.RowKit Rx
set_option linter.unusedVariables false

/-- What Match gives, by what the try gives. -/
def MatchR (G : Nat) (w : World) : Res → Ending → World → Prop
  | .over, e, w' => e = .returned (.tuple #[.agg #[.slice none 0 0, .int .i64 0], .int .i64 12]) ∧ Still w w'
  | .no _, e, w' => e = .returned (.tuple #[.agg #[.slice none 0 0, .int .i64 0], .int .i64 3]) ∧ Still w w'
  | .yes n g x, e, w' => ∃ bg T, e = .returned (.tuple #[.agg #[.slice (some ⟨bg, 0, none⟩) (G + 1) (G + 1), .int .i64 (n : Int)], .int .i64 0]) ∧ w.heap.size ≤ bg ∧ w'.heap[bg]? = some (.cells (gl G g).toArray T (0, 0)) ∧ G ≤ 9 ∧ n ≤ 1000000 ∧ Still w w'
def MatchP (t : ByteArray) (fr0 bu : Int) (w : World) : Option (Re × Nat) → Ending → World → Prop
  | none, e, w' => e = .returned (.tuple #[.agg #[.slice none 0 0, .int .i64 0], .int .i64 4]) ∧ Still w w'
  | some (a, G), e, w' => (askOK t.size fr0 bu = false ∧ e = .returned (.tuple #[.agg #[.slice none 0 0, .int .i64 0], .int .i64 1]) ∧ Still w w') ∨
      (askOK t.size fr0 bu = true ∧ MatchR G w (fr (str t) bu.toNat (.grp 0 a) false fr0.toNat 0) e w')

theorem enters_match1 (args : Array Value) (w : World) : (callFunc 31 args).run Tryz.prog w = .ok (.enter 31 args) w :=
  enters_of Tryz.func31 (by kernel_rfl) rfl args w

/-- The world at Match's try. -/
abbrev mW (w1 : World) (b G : Nat) (t : ByteArray) (bu : Int) : World := ((((w1.alloc (.cells #[.pointer (some ⟨b, 0, none⟩)] 60)).alloc (.cells #[.int .i64 (G : Int)] 3)).alloc (.cells #[.string t, .int .i64 0, .int .i64 bu, .slice none 0 0] 65)).alloc (.cells #[.pointer (some ⟨w1.heap.size + 1 + 1, 0, none⟩)] 63)).alloc (.cells #[.bool false] 4)

theorem mW_still (w1 : World) (b G : Nat) (t : ByteArray) (bu : Int) : Still w1 (mW w1 b G t bu) := (((((Touch.refl _ w1).alloc _).alloc _).alloc _).alloc _).alloc _
theorem mW_size (w1 : World) (b G : Nat) (t : ByteArray) (bu : Int) : (mW w1 b G t bu).heap.size = w1.heap.size + 5 := by simp
structure mC (w1 : World) (b G : Nat) (t : ByteArray) (bu : Int) (w : World) : Prop where
  n0 : w.cell? ⟨w1.heap.size, 0, none⟩ = some (.pointer (some ⟨b, 0, none⟩))
  q0 : w.cell? ⟨w1.heap.size + 1, 0, none⟩ = some (.int .i64 (G : Int))
  m0 : w.cell? ⟨w1.heap.size + 1 + 1, 0, none⟩ = some (.string t)
  m1 : Holds w (w1.heap.size + 1 + 1) 1 (.int .i64 (0 : Nat))
  m2 : w.cell? ⟨w1.heap.size + 1 + 1, 2, none⟩ = some (.int .i64 bu)
  m3 : Holds w (w1.heap.size + 1 + 1) 3 (.slice none 0 0)
  p0 : w.cell? ⟨w1.heap.size + 1 + 1 + 1, 0, none⟩ = some (.pointer (some ⟨w1.heap.size + 1 + 1, 0, none⟩))
  r0 : Holds w (w1.heap.size + 1 + 1 + 1 + 1) 0 (.bool false)
theorem mW_cells (w1 : World) (b G : Nat) (t : ByteArray) (bu : Int) : mC w1 b G t bu (mW w1 b G t bu) := by
  refine ⟨?_, ?_, ?_, ⟨?_, ?_⟩, ?_, ⟨?_, ?_⟩, ?_, ⟨?_, ?_⟩⟩
  all_goals simp [go_sem]
theorem mC.keep {w1 : World} {b G : Nat} {t : ByteArray} {bu : Int} {w w' : World} (h : mC w1 b G t bu w) (ht : Still w w') : mC w1 b G t bu w' :=
  ⟨ht.has h.n0 id, ht.has h.q0 id, ht.has h.m0 id, h.m1.keep ht id, ht.has h.m2 id, h.m3.keep ht id, ht.has h.p0 id, h.r0.keep ht id⟩

/-- What the try leaves: over, or what the answer's cell says. -/
def MTry (c : Cx) (wA : World) (r0 lo : Nat) (rr : Res) (b : Bool) (w' : World) : Prop :=
  TriedP c wA r0 lo rr (if b then .panicked [{ v := .iface 112 (.agg #[]), recovered := false }] else .returned (.tuple #[])) w'

theorem TriedP.both {c : Cx} {w : World} {r0 lo : Nat} {rr : Res} {e : Ending} {w' : World} (h : TriedP c w r0 lo rr e w') : (e = .returned (.tuple #[]) ∧ MTry c w r0 lo rr false w') ∨ (e = .panicked [{ v := .iface 112 (.agg #[]), recovered := false }] ∧ MTry c w r0 lo rr true w') := by
  cases rr with
  | over => obtain ⟨rfl, h2⟩ := h; exact .inr ⟨rfl, rfl, h2⟩
  | no n => obtain ⟨rfl, h2⟩ := h; exact .inl ⟨rfl, rfl, h2⟩
  | yes n g x => obtain ⟨rfl, h2⟩ := h; exact .inl ⟨rfl, rfl, h2⟩
/-- Only the matcher's block, the answer's, and new ones have turned. -/
theorem TriedP.touch {c : Cx} {w : World} {r0 lo : Nat} {rr : Res} {e : Ending} {w' : World} (h : TriedP c w r0 lo rr e w') : Touch (fun b => b = c.bm ∨ b = r0) w w' := by
  cases rr with
  | over => exact h.2.mono (fun _ _ e => .inl e)
  | no n => obtain ⟨-, -, w1, ⟨-, -, h1⟩, h2⟩ := h; exact (h1.mono (fun _ _ e => .inl e)).trans h2 (fun _ e => .inl (.inr e))
  | yes n g x => obtain ⟨-, -, w1, ⟨-, -, -, h1⟩, h2⟩ := h; exact (h1.mono (fun _ _ e => .inl e)).trans h2 (fun _ e => .inl (.inr e))

set_option maxRecDepth 100000 in
set_option maxHeartbeats 8000000 in
theorem match_any (s t : ByteArray) (fr0 bu : Int) (w : World) :
    Calls Tryz.prog 10 #[.string s, .string t, .int .i64 fr0, .int .i64 bu] w (MatchP t fr0 bu w (readP (str s))) := by
  have hmf : ∀ (fn : Fn) (first cap : Array Value) (w : World), (Instr.makeFunc fn first cap).run Tryz.prog w = .ok (.func fn first cap) w := fun _ _ _ _ => rfl
  obtain ⟨w2, hw2⟩ : ∃ w2, (w.alloc (.cells #[.int .i64 fr0] 3)).alloc (.cells #[.slice none 0 0, .int .i64 0] 34) = w2 := ⟨_, rfl⟩
  have HT2 : Hid (Still w w2) := Lib.hid (by rw [← hw2]; exact ((Touch.refl _ w).alloc _).alloc _)
  have HZ2 : Hid (w2.heap.size = w.heap.size + 1 + 1) := Lib.hid (by rw [← hw2]; simp)
  have HC0 : Hid (Holds w2 w.heap.size 0 (.int .i64 fr0)) := Lib.hid (by rw [← hw2]; exact (Holds.made w #[.int .i64 fr0] 3 0 _ rfl).alloc _)
  have HC1 : Hid (Holds w2 (w.heap.size + 1) 0 (.slice none 0 0) ∧ Holds w2 (w.heap.size + 1) 1 (.int .i64 0)) := Lib.hid (by rw [← hw2]; exact ⟨by simpa using Holds.made (w.alloc (.cells #[.int .i64 fr0] 3)) #[.slice none 0 0, .int .i64 0] 34 0 _ rfl, by simpa using Holds.made (w.alloc (.cells #[.int .i64 fr0] 3)) #[.slice none 0 0, .int .i64 0] 34 1 _ rfl⟩)
  have h0 := asked_any s t fr0 bu w2
  have HF := Lib.hid (fun a G (h : readP (str s) = some (a, G)) => read_fit h)
  have hfr := HC0.out.1
  generalize readP (str s) = rr at h0 HF ⊢
  have HA := Lib.hid h0
  clear h0
  go_enter Tryz.func10, Tryz.ntmps10
  go_wp2_with fail
  refine HA.out.mono ?_
  intro e w1 hG
  clear HA hw2 hfr
  have early : ∀ (pv gv : Value) (w3 : World), (w1.alloc (.cells #[pv] 60)).alloc (.cells #[gv] 3) = w3 → Still w2 w1 → Still w w3 ∧ Holds w3 (w.heap.size + 1) 0 (.slice none 0 0) ∧ Holds w3 (w.heap.size + 1) 1 (.int .i64 0) := by
    intro pv gv w3 h ht
    have t13 : Still w1 w3 := by rw [← h]; exact ((Touch.refl _ w1).alloc _).alloc _
    exact ⟨(HT2.out.then ht).then t13, (HC1.out.1.keep ht id).keep t13 id, (HC1.out.2.keep ht id).keep t13 id⟩
  have HEARLY := Lib.hid early
  clear early
  cases rr with
  | none =>
    obtain ⟨rfl, ht⟩ := hG
    go_upto_region 3 with fail
    generalize hw3 : (w1.alloc (.cells #[.pointer none] 60)).alloc (.cells #[.int .i64 0] 3) = w3
    obtain ⟨hT3, hx0, hx1⟩ := HEARLY.out _ _ w3 hw3 ht
    have HT3 := Lib.hid hT3
    have HX0 := Lib.hid hx0; have HX1 := Lib.hid hx1
    obtain ⟨hx0, hf0⟩ := hx0
    obtain ⟨hx1, hf1⟩ := hx1
    clear ht hT3 hw3
    go_wp2_with fail
    try simp only [Exit.inBlock, Exit.then]
    refine bodyPost_ret (v := .tuple #[.agg #[.slice none 0 0, .int .i64 0], .int .i64 4]) ?_ rfl ?_
    · simp [results, Tryz.results10, go_sem, hx0, hx1]
    · refine ⟨rfl, (HT3.out.trans (S1 := fun b => w.heap.size ≤ b) ?_ (fun i e => .inr e))⟩
      exact Touch.setCell (Touch.setCell (Touch.refl (fun b => w.heap.size ≤ b) w3) (.inl (Nat.le_succ _)) _) (.inl (Nat.le_succ _)) _
  | some x =>
    obtain ⟨a, G⟩ := x
    rcases hG with ⟨hok, rfl, ht⟩ | ⟨hok, b, rfl, ht, hrd, hg9⟩
    · have HOK := Lib.hid hok
      go_upto_region 3 with fail
      generalize hw3 : (w1.alloc (.cells #[.pointer none] 60)).alloc (.cells #[.int .i64 0] 3) = w3
      obtain ⟨hT3, hx0, hx1⟩ := HEARLY.out _ _ w3 hw3 ht
      have HT3 := Lib.hid hT3
      have HX0 := Lib.hid hx0; have HX1 := Lib.hid hx1
      obtain ⟨hx0, hf0⟩ := hx0
      obtain ⟨hx1, hf1⟩ := hx1
      clear ht hT3 hok hw3
      go_wp2_with fail
      try simp only [Exit.inBlock, Exit.then]
      refine bodyPost_ret (v := .tuple #[.agg #[.slice none 0 0, .int .i64 0], .int .i64 1]) ?_ rfl ?_
      · simp [results, Tryz.results10, go_sem, hx0, hx1]
      · refine .inl ⟨HOK.out, rfl, (HT3.out.trans (S1 := fun b => w.heap.size ≤ b) ?_ (fun i e => .inr e))⟩
        exact Touch.setCell (Touch.setCell (Touch.refl (fun b => w.heap.size ≤ b) w3) (.inl (Nat.le_succ _)) _) (.inl (Nat.le_succ _)) _
    · have HOK := Lib.hid hok
      have hin : t.size ≤ 5000 ∧ 0 ≤ fr0 ∧ fr0 ≤ (t.size : Int) ∧ 0 ≤ bu ∧ bu ≤ 1000000 := of_decide_eq_true hok
      obtain ⟨i1, i2, i3, i4, i5⟩ := hin
      obtain ⟨lo, rfl⟩ := Int.eq_ofNat_of_zero_le i2
      obtain ⟨B, rfl⟩ := Int.eq_ofNat_of_zero_le i4
      have HIN : Hid (t.size ≤ 5000 ∧ lo ≤ t.size ∧ B ≤ 1000000) := Lib.hid ⟨i1, by omega, by omega⟩
      obtain ⟨w6, hw6⟩ : ∃ w6, mW w1 b G t (B : Int) = w6 := ⟨_, rfl⟩
      have HC6 : Hid (mC w1 b G t (B : Int) w6) := Lib.hid (by rw [← hw6]; exact mW_cells _ _ _ _ _)
      have HT6 : Hid (Still w1 w6) := Lib.hid (by rw [← hw6]; exact mW_still _ _ _ _ _)
      have HZ6 : Hid (w6.heap.size = w1.heap.size + 5) := Lib.hid (by rw [← hw6]; exact mW_size _ _ _ _ _)
      have HT1 := Lib.hid ht
      have HX0 := Lib.hid (HC0.out.keep ht id)
      have HX := Lib.hid (And.intro (HC1.out.1.keep ht id) (HC1.out.2.keep ht id))
      have HFIT := HF.out a G rfl
      have HRD := Lib.hid (((rd_mono (F := FP w2.heap.size w1.heap.size) (F' := fun b => b ≠ w1.heap.size + 1 + 1) (fun b hb => by have := hb.2; omega) (fun b o v _ h => h) (.grp 0 a)).1 _ hrd))
      have HRD2 := Lib.hid ((rd_fit (.grp 0 a) HFIT).1 _ HRD.out)
      have HW6 := Lib.hid hw6
      clear hw6
      have HG9 := Lib.hid hg9
      clear ht hrd HRD HFIT HF i1 i2 i3 i4 i5 hok hg9 HEARLY
      have HCALL : Hid (Calls Tryz.prog 30 #[.func (.func 31) #[] #[.pointer (some ⟨w1.heap.size + 1 + 1 + 1, 0, none⟩), .pointer (some ⟨w1.heap.size, 0, none⟩), .pointer (some ⟨w1.heap.size + 1, 0, none⟩), .pointer (some ⟨w.heap.size, 0, none⟩), .pointer (some ⟨w1.heap.size + 1 + 1 + 1 + 1, 0, none⟩)]] (mW w1 b G t (B : Int))
          fun e w' => ∃ b w9, e = .returned (.bool b) ∧ MTry ⟨w1.heap.size + 1 + 1, 0, G, B, t, w1⟩ (w6.alloc (.cells #[.bool false] 4)) (w1.heap.size + 1 + 1 + 1 + 1) lo (fr (str t) B (.grp 0 a) false lo 0) b w9 ∧ Touch (fun i => i = w6.heap.size) w9 w') := Lib.hid (by
        rw [HW6.out]
        refine caught_any _ _ enters_match1 (MTry ⟨w1.heap.size + 1 + 1, 0, G, B, t, w1⟩ (w6.alloc (.cells #[.bool false] 4)) (w1.heap.size + 1 + 1 + 1 + 1) lo (fr (str t) B (.grp 0 a) false lo 0)) w6 ?_
        have tA : Still w6 (w6.alloc (.cells #[.bool false] 4)) := (Touch.refl _ _).alloc _
        have hcA := HC6.out.keep tA
        have hMB : MB ⟨w1.heap.size + 1 + 1, 0, G, B, t, w1⟩ 0 (w6.alloc (.cells #[.bool false] 4)) :=
          ⟨hcA.m0, hcA.m1, hcA.m2, ⟨_, hcA.m3⟩, Nat.zero_le _, HIN.out.2.2, HG9.out, HIN.out.1, (HT6.out.then tA).mono (fun _ _ e => e.elim)⟩
        refine (match1_any ⟨w1.heap.size + 1 + 1, 0, G, B, t, w1⟩ (.grp 0 a) _ HRD2.out ⟨_, rfl⟩ lo 0 _ HIN.out.2.1 hMB _ _ _ _ _ hcA.p0 hcA.n0 hcA.q0 ((HX0.out.keep HT6.out id).keep tA id).1 hcA.r0 (by show w1.heap.size + 1 + 1 + 1 + 1 ≠ w1.heap.size + 1 + 1; omega)).mono ?_
        intro e w' h
        refine ⟨h.both, ?_⟩
        have h6 := HZ6.out
        exact (Holds.made w6 #[.bool false] 4 0 _ rfl).keep h.touch (fun e => by
          rcases e with e | e
          · have e : w6.heap.size = w1.heap.size + 1 + 1 := e
            omega
          · omega))
      clear HRD2
      go_wp2_with fail
      refine HCALL.out.mono ?_
      clear HW6 HCALL
      rintro e w8 ⟨bb, w9, rfl, hM, ht9⟩
      have hz2 := HZ2.out
      have hz6 := HZ6.out
      have ht1 := HT1.out
      have hts := ht1.size
      have hmid : Still w1 w8 := by
        have tA : Still w6 (w6.alloc (.cells #[.bool false] 4)) := (Touch.refl _ _).alloc _
        refine ((HT6.out.then tA).trans hM.touch (fun i e => .inr ?_)).trans ht9 (fun i e => .inr (by omega))
        rcases e with e | e
        · have e : i = w1.heap.size + 1 + 1 := e
          omega
        · omega
      have hall : Still w w8 := (HT2.out.then ht1).then hmid
      have hx := HX.out.1.keep hmid id
      have hy := HX.out.2.keep hmid id
      have HALL := Lib.hid hall
      have HMID := Lib.hid hmid
      have HXX := Lib.hid (And.intro hx hy)
      obtain ⟨hx, hxf⟩ := hx
      obtain ⟨hy, hyf⟩ := hy
      have HRR : Hid (∀ e w', MatchR G w (fr (str t) B (.grp 0 a) false lo 0) e w' → MatchP t (lo : Int) (B : Int) w (some (a, G)) e w') := Lib.hid (fun e w' h => .inr ⟨HOK.out, by simpa using h⟩)
      clear hall hmid
      generalize fr (str t) B (.grp 0 a) false lo 0 = rr at hM HRR
      cases rr with
      | over =>
        obtain ⟨he, -⟩ := hM
        cases bb with
        | false => cases he
        | true =>
          clear he ht9
          go_wp2_with fail
          try simp only [Exit.inBlock, Exit.then]
          refine bodyPost_ret (v := .tuple #[.agg #[.slice none 0 0, .int .i64 0], .int .i64 12]) ?_ rfl ?_
          · simp [results, Tryz.results10, go_sem, hx, hy]
          · refine HRR.out _ _ ⟨rfl, (HALL.out.trans (S1 := fun b => w.heap.size ≤ b) ?_ (fun i e => .inr e))⟩
            exact Touch.setCell (Touch.setCell (Touch.refl (fun b => w.heap.size ≤ b) w8) (.inl (Nat.le_succ _)) _) (.inl (Nat.le_succ _)) _
      | no n1 =>
        obtain ⟨he, hr, -⟩ := hM
        cases bb with
        | true => cases he
        | false =>
          have hr8 := (hr.keep ht9 (by omega)).1
          clear he ht9 hr
          go_wp2_with fail
          try simp only [Exit.inBlock, Exit.then]
          refine bodyPost_ret (v := .tuple #[.agg #[.slice none 0 0, .int .i64 0], .int .i64 3]) ?_ rfl ?_
          · simp [results, Tryz.results10, go_sem, hx, hy]
          · refine HRR.out _ _ ⟨rfl, (HALL.out.trans (S1 := fun b => w.heap.size ≤ b) ?_ (fun i e => .inr e))⟩
            exact Touch.setCell (Touch.setCell (Touch.refl (fun b => w.heap.size ≤ b) w8) (.inl (Nat.le_succ _)) _) (.inl (Nat.le_succ _)) _
      | yes n1 g x =>
        obtain ⟨he, hr, wf, ⟨-, ⟨bg, hbg, be, hI⟩, -, tf⟩, tr⟩ := hM
        cases bb with
        | true => cases he
        | false =>
          have hr8 := (hr.keep ht9 (by omega)).1
          have hbg' : w1.heap.size + 5 ≤ bg := by
            have : (w6.alloc (.cells #[.bool false] 4)).heap.size = w6.heap.size + 1 := by simp
            omega
          have hsz := hI.ltg
          have hne : bg ≠ w6.heap.size := by
            have : (w6.alloc (.cells #[.bool false] 4)).heap.size = w6.heap.size + 1 := by simp
            omega
          have hp : w8.cell? ⟨w1.heap.size + 1 + 1 + 1, 0, none⟩ = some (.pointer (some ⟨w1.heap.size + 1 + 1, 0, none⟩)) := by
            have h1 := (HC6.out.keep ((Touch.refl (fun _ => False) _).alloc (.cells #[.bool false] 4))).p0
            exact ht9.has (tr.has (tf.has h1 (by show w1.heap.size + 1 + 1 + 1 ≠ w1.heap.size + 1 + 1; omega)) (by show w1.heap.size + 1 + 1 + 1 ≠ w1.heap.size + 1 + 1 + 1 + 1; omega)) (by show w1.heap.size + 1 + 1 + 1 ≠ w6.heap.size; omega)
          have hm3 : w8.cell? ⟨w1.heap.size + 1 + 1, 3, none⟩ = some (.slice (some ⟨bg, 0, none⟩) (G + 1) (G + 1)) := ht9.has (tr.has hI.c3 (by show w1.heap.size + 1 + 1 ≠ w1.heap.size + 1 + 1 + 1 + 1; omega)) (by show w1.heap.size + 1 + 1 ≠ w6.heap.size; omega)
          have hm1 : w8.cell? ⟨w1.heap.size + 1 + 1, 1, none⟩ = some (.int .i64 (n1 : Int)) := ((hI.c1.keep tr (by show w1.heap.size + 1 + 1 ≠ w1.heap.size + 1 + 1 + 1 + 1; omega)).keep ht9 (by show w1.heap.size + 1 + 1 ≠ w6.heap.size; omega)).1
          have HGB : Hid (∃ T, w8.heap[bg]? = some (.cells (gl G g).toArray T (0, 0))) := Lib.hid (by
            obtain ⟨T, hb⟩ := hI.gb
            have l1 := hI.ltg
            have h1 : w9.heap[bg]? = wf.heap[bg]? := tr.block bg l1 (by omega)
            exact ⟨T, (ht9.block bg (Nat.lt_of_lt_of_le l1 tr.size) hne).trans (h1.trans hb)⟩)
          have HNB : Hid (n1 ≤ 1000000) := Lib.hid (Nat.le_trans hI.nB hI.lB)
          clear he ht9 hr tf tr hI
          go_wp2_with fail
          go_region
          go_wp2_with fail
          try simp only [Exit.inBlock, Exit.then]
          refine bodyPost_ret (v := .tuple #[.agg #[.slice (some ⟨bg, 0, none⟩) (G + 1) (G + 1), .int .i64 (n1 : Int)], .int .i64 0]) ?_ rfl ?_
          · simp [results, Tryz.results10, go_sem, hx, hy]
          · obtain ⟨T, hT⟩ := HGB.out
            have tw : Touch (fun b => b = w.heap.size + 1) w8 (((w8.setCell ⟨w.heap.size + 1, 0, none⟩ (.slice (some ⟨bg, 0, none⟩) (G + 1) (G + 1))).setCell ⟨w.heap.size + 1, 1, none⟩ (.int .i64 (n1 : Int))).drew) := (Touch.setCell (Touch.setCell (Touch.refl (fun b => b = w.heap.size + 1) w8) (.inl rfl) _) (.inl rfl) _).drew
            refine HRR.out _ _ ⟨bg, T, rfl, by omega, (tw.block bg (Array.getElem?_eq_some_iff.1 hT).1 (by omega)).trans hT, HG9.out, HNB.out, HALL.out.trans tw (fun i e => .inr (by omega))⟩
end Go.Proofs.YtlgpilcjcomacaaGreat
