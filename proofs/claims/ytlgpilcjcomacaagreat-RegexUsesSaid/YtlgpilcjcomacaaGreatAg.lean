/-
  Texts Ph, Pi in one.
-/
import Derived.Test.YtlgpilcjcomacaaGreatAf
/-
  The program's reader: what alternatives come back as; a node's block; group.
-/
namespace Go.Proofs.YtlgpilcjcomacaaGreat
open Go.RowKit Rx
set_option linter.unusedVariables false

/-- What comes back of alternatives. -/
def WaysPost (br : Nat) (s : ByteArray) (deep : Nat) (st : PS) (w : World) : Option (Re × PS) → Ending → World → Prop
  | none, e, w' => e = bad ∧ Touch (fun b => b = br) w w'
  | some (a, st'), e, w' => ∃ x l cap, e = .returned (.slice x l cap) ∧ l ≤ cap ∧ RS br s deep st' w' ∧ Touch (fun b => b = br) w w' ∧ (rd (FP w.heap.size w'.heap.size) w' 9 a).ways x l ∧ st.pos ≤ st'.pos

/-- The program's alternatives, so deep. -/
def WOK (br : Nat) (s : ByteArray) (deep : Nat) (W : PS → Option (Re × PS)) : Prop :=
  (deep = 11 → ∀ st, W st = none) ∧ (deep ≤ 10 → ∀ st w, RS br s deep st w → Calls Tryz.prog 59 #[.pointer (some ⟨br, 0, none⟩)] w (WaysPost br s deep st w (W st)))

/-- A node's block, known whole. -/
def NB (w : World) (b : Nat) (A : Array Value) : Prop := w.heap[b]? = some (.cells A 89 (0, 0))
theorem NB.lt {w : World} {b : Nat} {A : Array Value} (h : NB w b A) : b < w.heap.size := (Array.getElem?_eq_some_iff.1 h).1
theorem NB.keep {S : Nat → Prop} {w w' : World} {b : Nat} {A : Array Value} (h : NB w b A) (t : Touch S w w') (hb : ¬ S b) : NB w' b A := (t.block b h.lt hb).trans h
theorem NB.put {w : World} {b : Nat} {A : Array Value} (h : NB w b A) (i : Nat) (v : Value) : NB (w.setCell ⟨b, i, none⟩ v) b (A.setIfInBounds i v) := by
  unfold NB; rw [setCell_eq_setRow w b i _ _ (0, 0) _ h, setRow_heap w b _ _ _ (0, 0) h]
theorem NB.holds {w : World} {b : Nat} {A : Array Value} (h : NB w b A) {i : Nat} {v : Value} (hv : A[i]? = some v) : Holds w b i v :=
  ⟨by unfold World.cell?; simp [show w.heap[b]? = _ from h, hv], by unfold World.frozen?; simp [show w.heap[b]? = _ from h]⟩
theorem NB.made (w : World) (A : Array Value) : NB (w.alloc (.cells A 89)) w.heap.size A := heap_alloc_new w _
/-- A node's cells. -/
abbrev nd (kind : Int) (of : Value) (num : Int) (wa : Option Addr) (wl wc : Nat) (kid : Value) (least most how : Int) : Array Value :=
  #[.int .i64 kind, of, .int .i64 num, .slice wa wl wc, kid, .int .i64 least, .int .i64 most, .int .i64 how]
theorem NB.node {w : World} {b : Nat} {kind : Int} {of : Value} {num : Int} {wa : Option Addr} {wl wc : Nat} {kid : Value} {least most how : Int} (h : NB w b (nd kind of num wa wl wc kid least most how)) {F : Nat → Prop} (hF : F b) :
    NodeC F w b kind of num wa wl wc kid least most how :=
  ⟨hF, (h.holds (i := 0) rfl).1, (h.holds (i := 1) rfl).1, (h.holds (i := 2) rfl).1, (h.holds (i := 3) rfl).1, (h.holds (i := 4) rfl).1, (h.holds (i := 5) rfl).1, (h.holds (i := 6) rfl).1, (h.holds (i := 7) rfl).1⟩

/-- What was read, later. -/
theorem rd_later {S : Nat → Prop} {lo hi lo' hi' : Nat} {w w' : World} (t : Touch S w w') (hS : ∀ b, S b → b < lo ∨ hi ≤ b) (h1 : lo' ≤ lo) (h2 : hi ≤ hi') (a : Re) :
    (∀ p, (rd (FP lo hi) w 9 a).node p → (rd (FP lo' hi') w' 9 a).node p) ∧ (∀ x l, (rd (FP lo hi) w 9 a).row x l → (rd (FP lo' hi') w' 9 a).row x l) ∧ (∀ x l, (rd (FP lo hi) w 9 a).ways x l → (rd (FP lo' hi') w' 9 a).ways x l) :=
  rd_mono (fun b h => ⟨by have := h.1; omega, by have := h.2; omega⟩) (fun b o v h hc => t.has hc (fun e => by have h3 := hS b e; have h4 := h.1; have h5 := h.2; omega)) a

set_option maxRecDepth 100000 in
set_option maxHeartbeats 20000000 in
theorem group_any (br : Nat) (s : ByteArray) (deep : Nat) (st : PS) (w : World) (W : PS → Option (Re × PS)) (hW : WOK br s (deep + 1) W) (h : RS br s deep st w) :
    Calls Tryz.prog 107 #[.pointer (some ⟨br, 0, none⟩)] w (NodePost br s deep st w (grpP W (str s) st)) := by
  have hle := h.le
  have hsz := h.sz
  obtain ⟨p0, g0, r0⟩ := st
  simp only at hle
  have HRS0 := Lib.hid (h.keep ((Touch.refl (fun _ => False) w).alloc (.cells (nd 8 (.pointer none) 0 none 0 0 (.pointer none) 0 0 0) 89)) id)
  have HT0 : Hid (Touch (fun b => b = br) w (w.alloc (.cells (nd 8 (.pointer none) 0 none 0 0 (.pointer none) 0 0 0) 89))) := Lib.hid ((Touch.refl _ _).alloc _)
  have HNB0 := Lib.hid (NB.made w (nd 8 (.pointer none) 0 none 0 0 (.pointer none) 0 0 0))
  have hb0 : ¬ w.heap.size = br := by have := h.lt; omega
  have hbl : br < w.heap.size := h.lt
  clear h
  obtain ⟨p1, hp1⟩ : ∃ p1, p0 + 2 = p1 := ⟨_, rfl⟩
  have HP1 := Lib.hid hp1
  clear hp1
  go_enter Tryz.func107, Tryz.ntmps107
  go_wp2_with fail
  cases h0 : tk (str s) p0 [63, 58] with
  | true =>
    have HRES : Hid (grpP W (str s) ⟨p0, g0, r0⟩ = insideP W (str s) (.grp 0) ⟨p1, g0, r0⟩) := Lib.hid (by rw [← HP1.out]; unfold grpP; simp only [h0, if_true]; try rfl)
    have HTK := Lib.hid h0
    clear h0 
    refine (take_yes br s ⟨#[63, 58]⟩ deep _ _ HRS0.out HTK.out (by decide)).mono ?_
    rintro e wy0 ⟨rfl, hrs, ht⟩
    have hrs : RS br s deep ⟨p1, g0, r0⟩ wy0 := by rw [← HP1.out]; exact hrs
    have HRSy0 := Lib.hid hrs
    have HTy0 := Lib.hid (HT0.out.then ht)
    have HNBy0 := Lib.hid (HNB0.out.keep ht hb0)
    have hpp1 : p0 ≤ p1 := by have := HP1.out; omega
    clear hrs ht
    have hgs := HRSy0.out.gs
    have hdp := HRSy0.out.dp
    simp only at hgs
    have hc3 := HRSy0.out.c3
    obtain ⟨hc3, hc3f⟩ := hc3
    have hc2 := HRSy0.out.c2.1
    simp only at hc2
    by_cases hd : deep = 10
    · have HNONE : Hid (grpP W (str s) ⟨p0, g0, r0⟩ = none) := Lib.hid (by
        rw [HRES.out]; unfold insideP; rw [if_neg (show ¬ 9 < PS.grps _ by show ¬ 9 < g0; omega), hW.1 (by omega) _])
      have HTX : Hid (Touch (fun b => b = br) w (wy0.setCell ⟨br, 3, none⟩ (.int .i64 ((deep : Int) + 1)))) := Lib.hid (Touch.setCell HTy0.out (.inl rfl) _)
      obtain ⟨w7, hw7⟩ : ∃ w7, wy0.setCell ⟨br, 3, none⟩ (.int .i64 ((deep : Int) + 1)) = w7 := ⟨_, rfl⟩
      have hc7 : w7.cell? ⟨br, 3, none⟩ = some (.int .i64 ((deep : Int) + 1)) := by rw [← hw7]; exact (HRSy0.out.c3.set _).1
      rw [hw7] at HTX
      have qd : decide (10 < (deep : Int) + 1) = true := by simp; omega
      clear hd
      go_wp2_with fail
      refine (fail_any _ _).mono ?_
      rintro e w9 ⟨rfl, rfl⟩
      refine ⟨rfl, ?_⟩
      rw [HNONE.out]
      exact ⟨rfl, HTX.out⟩
    · obtain ⟨d1, hd1⟩ : ∃ d1, deep + 1 = d1 := ⟨_, rfl⟩
      obtain ⟨w7, hw7⟩ : ∃ w7, wy0.setCell ⟨br, 3, none⟩ (.int .i64 ((deep : Int) + 1)) = w7 := ⟨_, rfl⟩
      have hrs : RS br s d1 ⟨p1, g0, r0⟩ w7 := by rw [← hw7, ← hd1]; exact HRSy0.out.setDeep (deep + 1) (by omega)
      have ht : Touch (fun b => b = br) wy0 w7 := by rw [← hw7]; exact Touch.setCell (Touch.refl (fun b => b = br) wy0) (.inl rfl) _
      have HNB7 := Lib.hid (HNBy0.out.keep ht hb0)
      have HT7 := Lib.hid (HTy0.out.then ht)
      have hc7 := hrs.c3.1
      have hc7g := hrs.c2.1
      simp only at hc7g
      have HRS7 := Lib.hid hrs
      clear hrs ht
      have qd : decide (10 < (d1 : Int)) = false := by simp; omega
      have qg : decide (9 < (g0 : Int)) = false := by simp; omega
      have HW := Lib.hid (hW.2 (by omega) ⟨p1, g0, r0⟩ w7)
      rw [hd1] at HW
      go_wp2_with fail
      clear hw7 hc3 hc3f hc2 hc7 hc7g qd qg
      refine (HW.out HRS7.out).mono ?_
      clear HW
      intro e w8 hG
      have hres := HRES.out
      unfold insideP at hres
      rw [if_neg (show ¬ 9 < PS.grps _ by show ¬ 9 < g0; omega)] at hres
      cases hw : W ⟨p1, g0, r0⟩ with
      | none =>
        rw [hw] at hG hres
        obtain ⟨rfl, ht⟩ := hG
        refine ⟨rfl, ?_⟩
        rw [hres]
        exact ⟨rfl, HT7.out.then ht⟩
      | some t =>
        obtain ⟨a, st2⟩ := t
        rw [hw] at hG hres
        obtain ⟨p2, g2, r2⟩ := st2
        obtain ⟨x, l, cap, rfl, hlc, hrs, ht, hrd, hpp⟩ := hG
        simp only at hpp hres
        have HRES2 := Lib.hid hres
        clear hw hres HRES
        have HRS8 := Lib.hid hrs
        have HT8 := Lib.hid (HT7.out.then ht)
        have HNB8 := Lib.hid (HNB7.out.keep ht hb0)
        have HRD := Lib.hid hrd
        have HZ7 := Lib.hid HT7.out.size
        have HB7 := Lib.hid HNB7.out.lt
        have hn3 := HNB8.out.holds (i := 3) rfl
        obtain ⟨hn3, hn3f⟩ := hn3
        obtain ⟨w9, hw9⟩ : ∃ w9, w8.setCell ⟨w.heap.size, 3, none⟩ (.slice x l cap) = w9 := ⟨_, rfl⟩
        obtain ⟨w10, hw10⟩ : ∃ w10, w9.setCell ⟨br, 3, none⟩ (.int .i64 ((d1 : Int) - 1)) = w10 := ⟨_, rfl⟩
        have hn9 : NB w9 w.heap.size (nd 8 (.pointer none) 0 x l cap (.pointer none) 0 0 0) := by rw [← hw9]; exact HNB8.out.put 3 _
        have t9 : Touch (fun b => b = w.heap.size) w8 w9 := by rw [← hw9]; exact Touch.setCell (Touch.refl (fun b => b = w.heap.size) w8) (.inl rfl) _
        have hrs9 : RS br s d1 ⟨p2, g2, r2⟩ w9 := HRS8.out.keep t9 (Ne.symm hb0)
        have hrs10 : RS br s deep ⟨p2, g2, r2⟩ w10 := by rw [← hw10, show (d1 : Int) - 1 = (deep : Int) by omega]; exact hrs9.setDeep deep (by omega)
        have t10 : Touch (fun b => b = br) w9 w10 := by rw [← hw10]; exact Touch.setCell (Touch.refl (fun b => b = br) w9) (.inl rfl) _
        have HNB10 := Lib.hid (hn9.keep t10 hb0)
        have HRS10 := Lib.hid hrs10
        have HT10 : Hid (Touch (fun b => b = br) w w10) := Lib.hid ((HT8.out.trans t9 (fun i e => .inr (by omega))).then t10)
        have HT810 : Hid (Touch (fun b => b = br ∨ b = w.heap.size) w8 w10) := Lib.hid ((t9.mono (fun _ _ e => .inr e)).then (t10.mono (fun _ _ e => .inl e)))
        have hc3 := hrs9.c3
        obtain ⟨hc3, hc3f⟩ := hc3
        clear hrs ht hrd hn9 t9 hrs9 hrs10 t10
        go_wp2_with fail
        clear hw9 hw10 hc3 hc3f hn3 hn3f
        by_cases hclose : tk (str s) p2 [41] = true
        · have HRES3 := Lib.hid HRES2.out
          rw [if_pos hclose] at HRES3
          have HCL := Lib.hid hclose
          clear hclose HRES2
          refine (take_yes br s ⟨#[41]⟩ deep _ w10 HRS10.out HCL.out (by decide)).mono ?_
          rintro e w11 ⟨rfl, hrs, ht⟩
          have HRS11 := Lib.hid hrs
          have HT11 := Lib.hid (HT10.out.then ht)
          have HNB11 := Lib.hid (HNB10.out.keep ht hb0)
          have HRD11 := Lib.hid ((rd_later (HT810.out.then (ht.mono (fun _ _ e => .inl e))) (lo := w7.heap.size) (hi := w8.heap.size) (lo' := w.heap.size) (hi' := w11.heap.size) (fun b e => .inl (by have := HB7.out; rcases e with e | e <;> omega)) HZ7.out (Nat.le_trans HT810.out.size ht.size) a).2.2 _ _ HRD.out)
          clear hrs ht
          go_wp2_with fail
          go_ret
          rw [HRES3.out]
          have hl := HNB11.out.lt
          exact ⟨w.heap.size, rfl, HRS11.out, HT11.out, ⟨w.heap.size, _, _, _, _, _, _, _, _, rfl, HNB11.out.node ⟨Nat.le_refl _, hl⟩, by omega, hlc, HRD11.out⟩, by show p0 < p2 + 1; omega⟩
        · have hf : tk (str s) p2 [41] = false := by simpa using hclose
          have HRES3 := Lib.hid HRES2.out
          rw [if_neg hclose] at HRES3
          have HCL := Lib.hid hf
          clear hclose hf HRES2
          refine (tk_no (t := ⟨#[41]⟩) HRS10.out HCL.out).mono ?_
          rintro e w11 ⟨rfl, hrs, ht⟩
          have HT11 := Lib.hid (HT10.out.then ht)
          clear hrs ht
          go_wp2_with fail
          refine (fail_any _ _).mono ?_
          rintro e w12 ⟨rfl, rfl⟩
          refine ⟨rfl, ?_⟩
          rw [HRES3.out]
          exact ⟨rfl, HT11.out⟩
  | false =>
    have HTK0 := Lib.hid h0
    refine (tk_no (t := ⟨#[63, 58]⟩) HRS0.out HTK0.out).mono ?_
    rintro e wn0 ⟨rfl, hrs, ht⟩
    have HRSn0 := Lib.hid hrs
    have HTn0 := Lib.hid (HT0.out.then ht)
    have HNBn0 := Lib.hid (HNB0.out.keep ht hb0)
    clear hrs ht
    go_wp2_with fail
    cases h1 : tk (str s) p0 [63, 61] with
    | true =>
      have HRES : Hid (grpP W (str s) ⟨p0, g0, r0⟩ = insideP W (str s) (.look false) ⟨p1, g0, r0⟩) := Lib.hid (by rw [← HP1.out]; unfold grpP; simp only [h1, if_true, if_false, Bool.false_eq_true, h0]; try rfl)
      have HTK := Lib.hid h1
      clear h1 h0
      refine (take_yes br s ⟨#[63, 61]⟩ deep _ _ HRSn0.out HTK.out (by decide)).mono ?_
      rintro e wy1 ⟨rfl, hrs, ht⟩
      have hrs : RS br s deep ⟨p1, g0, r0⟩ wy1 := by rw [← HP1.out]; exact hrs
      have HRSy1 := Lib.hid hrs
      have HTy1 := Lib.hid (HTn0.out.then ht)
      have HNBy1 := Lib.hid (HNBn0.out.keep ht hb0)
      have hpp1 : p0 ≤ p1 := by have := HP1.out; omega
      clear hrs ht
      have hn0 := HNBy1.out.holds (i := 0) rfl
      obtain ⟨hn0, hn0f⟩ := hn0
      obtain ⟨w6, hw6⟩ : ∃ w6, wy1.setCell ⟨w.heap.size, 0, none⟩ (.int .i64 9) = w6 := ⟨_, rfl⟩
      have ht : Touch (fun b => b = w.heap.size) wy1 w6 := by rw [← hw6]; exact Touch.setCell (Touch.refl (fun b => b = w.heap.size) wy1) (.inl rfl) _
      have HNB6 : Hid (NB w6 w.heap.size (nd 9 (.pointer none) 0 none 0 0 (.pointer none) 0 0 0)) := Lib.hid (by rw [← hw6]; exact HNBy1.out.put 0 _)
      have HRS6 := Lib.hid (HRSy1.out.keep ht (Ne.symm hb0))
      have HT6 := Lib.hid (HTy1.out.trans ht (fun i e => .inr (by omega)))
      clear ht
      have hgs := HRS6.out.gs
      have hdp := HRS6.out.dp
      simp only at hgs
      have hc3 := HRS6.out.c3
      obtain ⟨hc3, hc3f⟩ := hc3
      have hc2 := HRS6.out.c2.1
      simp only at hc2
      by_cases hd : deep = 10
      · have HNONE : Hid (grpP W (str s) ⟨p0, g0, r0⟩ = none) := Lib.hid (by
          rw [HRES.out]; unfold insideP; rw [if_neg (show ¬ 9 < PS.grps _ by show ¬ 9 < g0; omega), hW.1 (by omega) _])
        have HTX : Hid (Touch (fun b => b = br) w (w6.setCell ⟨br, 3, none⟩ (.int .i64 ((deep : Int) + 1)))) := Lib.hid (Touch.setCell HT6.out (.inl rfl) _)
        obtain ⟨w7, hw7⟩ : ∃ w7, w6.setCell ⟨br, 3, none⟩ (.int .i64 ((deep : Int) + 1)) = w7 := ⟨_, rfl⟩
        have hc7 : w7.cell? ⟨br, 3, none⟩ = some (.int .i64 ((deep : Int) + 1)) := by rw [← hw7]; exact (HRS6.out.c3.set _).1
        rw [hw7] at HTX
        have qd : decide (10 < (deep : Int) + 1) = true := by simp; omega
        clear hd
        go_wp2_with fail
        refine (fail_any _ _).mono ?_
        rintro e w9 ⟨rfl, rfl⟩
        refine ⟨rfl, ?_⟩
        rw [HNONE.out]
        exact ⟨rfl, HTX.out⟩
      · obtain ⟨d1, hd1⟩ : ∃ d1, deep + 1 = d1 := ⟨_, rfl⟩
        obtain ⟨w7, hw7⟩ : ∃ w7, w6.setCell ⟨br, 3, none⟩ (.int .i64 ((deep : Int) + 1)) = w7 := ⟨_, rfl⟩
        have hrs : RS br s d1 ⟨p1, g0, r0⟩ w7 := by rw [← hw7, ← hd1]; exact HRS6.out.setDeep (deep + 1) (by omega)
        have ht : Touch (fun b => b = br) w6 w7 := by rw [← hw7]; exact Touch.setCell (Touch.refl (fun b => b = br) w6) (.inl rfl) _
        have HNB7 := Lib.hid (HNB6.out.keep ht hb0)
        have HT7 := Lib.hid (HT6.out.then ht)
        have hc7 := hrs.c3.1
        have hc7g := hrs.c2.1
        simp only at hc7g
        have HRS7 := Lib.hid hrs
        clear hrs ht
        have qd : decide (10 < (d1 : Int)) = false := by simp; omega
        have qg : decide (9 < (g0 : Int)) = false := by simp; omega
        have HW := Lib.hid (hW.2 (by omega) ⟨p1, g0, r0⟩ w7)
        rw [hd1] at HW
        go_wp2_with fail
        clear hw7 hc3 hc3f hc2 hc7 hc7g qd qg
        refine (HW.out HRS7.out).mono ?_
        clear HW
        intro e w8 hG
        have hres := HRES.out
        unfold insideP at hres
        rw [if_neg (show ¬ 9 < PS.grps _ by show ¬ 9 < g0; omega)] at hres
        cases hw : W ⟨p1, g0, r0⟩ with
        | none =>
          rw [hw] at hG hres
          obtain ⟨rfl, ht⟩ := hG
          refine ⟨rfl, ?_⟩
          rw [hres]
          exact ⟨rfl, HT7.out.then ht⟩
        | some t =>
          obtain ⟨a, st2⟩ := t
          rw [hw] at hG hres
          obtain ⟨p2, g2, r2⟩ := st2
          obtain ⟨x, l, cap, rfl, hlc, hrs, ht, hrd, hpp⟩ := hG
          simp only at hpp hres
          have HRES2 := Lib.hid hres
          clear hw hres HRES
          have HRS8 := Lib.hid hrs
          have HT8 := Lib.hid (HT7.out.then ht)
          have HNB8 := Lib.hid (HNB7.out.keep ht hb0)
          have HRD := Lib.hid hrd
          have HZ7 := Lib.hid HT7.out.size
          have HB7 := Lib.hid HNB7.out.lt
          have hn3 := HNB8.out.holds (i := 3) rfl
          obtain ⟨hn3, hn3f⟩ := hn3
          obtain ⟨w9, hw9⟩ : ∃ w9, w8.setCell ⟨w.heap.size, 3, none⟩ (.slice x l cap) = w9 := ⟨_, rfl⟩
          obtain ⟨w10, hw10⟩ : ∃ w10, w9.setCell ⟨br, 3, none⟩ (.int .i64 ((d1 : Int) - 1)) = w10 := ⟨_, rfl⟩
          have hn9 : NB w9 w.heap.size (nd 9 (.pointer none) 0 x l cap (.pointer none) 0 0 0) := by rw [← hw9]; exact HNB8.out.put 3 _
          have t9 : Touch (fun b => b = w.heap.size) w8 w9 := by rw [← hw9]; exact Touch.setCell (Touch.refl (fun b => b = w.heap.size) w8) (.inl rfl) _
          have hrs9 : RS br s d1 ⟨p2, g2, r2⟩ w9 := HRS8.out.keep t9 (Ne.symm hb0)
          have hrs10 : RS br s deep ⟨p2, g2, r2⟩ w10 := by rw [← hw10, show (d1 : Int) - 1 = (deep : Int) by omega]; exact hrs9.setDeep deep (by omega)
          have t10 : Touch (fun b => b = br) w9 w10 := by rw [← hw10]; exact Touch.setCell (Touch.refl (fun b => b = br) w9) (.inl rfl) _
          have HNB10 := Lib.hid (hn9.keep t10 hb0)
          have HRS10 := Lib.hid hrs10
          have HT10 : Hid (Touch (fun b => b = br) w w10) := Lib.hid ((HT8.out.trans t9 (fun i e => .inr (by omega))).then t10)
          have HT810 : Hid (Touch (fun b => b = br ∨ b = w.heap.size) w8 w10) := Lib.hid ((t9.mono (fun _ _ e => .inr e)).then (t10.mono (fun _ _ e => .inl e)))
          have hc3 := hrs9.c3
          obtain ⟨hc3, hc3f⟩ := hc3
          clear hrs ht hrd hn9 t9 hrs9 hrs10 t10
          go_wp2_with fail
          clear hw9 hw10 hc3 hc3f hn3 hn3f
          by_cases hclose : tk (str s) p2 [41] = true
          · have HRES3 := Lib.hid HRES2.out
            rw [if_pos hclose] at HRES3
            have HCL := Lib.hid hclose
            clear hclose HRES2
            refine (take_yes br s ⟨#[41]⟩ deep _ w10 HRS10.out HCL.out (by decide)).mono ?_
            rintro e w11 ⟨rfl, hrs, ht⟩
            have HRS11 := Lib.hid hrs
            have HT11 := Lib.hid (HT10.out.then ht)
            have HNB11 := Lib.hid (HNB10.out.keep ht hb0)
            have HRD11 := Lib.hid ((rd_later (HT810.out.then (ht.mono (fun _ _ e => .inl e))) (lo := w7.heap.size) (hi := w8.heap.size) (lo' := w.heap.size) (hi' := w11.heap.size) (fun b e => .inl (by have := HB7.out; rcases e with e | e <;> omega)) HZ7.out (Nat.le_trans HT810.out.size ht.size) a).2.2 _ _ HRD.out)
            clear hrs ht
            go_wp2_with fail
            go_ret
            rw [HRES3.out]
            have hl := HNB11.out.lt
            exact ⟨w.heap.size, rfl, HRS11.out, HT11.out, ⟨w.heap.size, _, _, _, _, _, _, _, _, _, rfl, HNB11.out.node ⟨Nat.le_refl _, hl⟩, hlc, HRD11.out⟩, by show p0 < p2 + 1; omega⟩
          · have hf : tk (str s) p2 [41] = false := by simpa using hclose
            have HRES3 := Lib.hid HRES2.out
            rw [if_neg hclose] at HRES3
            have HCL := Lib.hid hf
            clear hclose hf HRES2
            refine (tk_no (t := ⟨#[41]⟩) HRS10.out HCL.out).mono ?_
            rintro e w11 ⟨rfl, hrs, ht⟩
            have HT11 := Lib.hid (HT10.out.then ht)
            clear hrs ht
            go_wp2_with fail
            refine (fail_any _ _).mono ?_
            rintro e w12 ⟨rfl, rfl⟩
            refine ⟨rfl, ?_⟩
            rw [HRES3.out]
            exact ⟨rfl, HT11.out⟩
    | false =>
      have HTK1 := Lib.hid h1
      refine (tk_no (t := ⟨#[63, 61]⟩) HRSn0.out HTK1.out).mono ?_
      rintro e wn1 ⟨rfl, hrs, ht⟩
      have HRSn1 := Lib.hid hrs
      have HTn1 := Lib.hid (HTn0.out.then ht)
      have HNBn1 := Lib.hid (HNBn0.out.keep ht hb0)
      clear hrs ht
      go_wp2_with fail
      cases h2 : tk (str s) p0 [63, 33] with
      | true =>
        have HRES : Hid (grpP W (str s) ⟨p0, g0, r0⟩ = insideP W (str s) (.look true) ⟨p1, g0, r0⟩) := Lib.hid (by rw [← HP1.out]; unfold grpP; simp only [h2, if_true, if_false, Bool.false_eq_true, h0, Bool.false_eq_true, h1]; try rfl)
        have HTK := Lib.hid h2
        clear h2 h0 h1
        refine (take_yes br s ⟨#[63, 33]⟩ deep _ _ HRSn1.out HTK.out (by decide)).mono ?_
        rintro e wy2 ⟨rfl, hrs, ht⟩
        have hrs : RS br s deep ⟨p1, g0, r0⟩ wy2 := by rw [← HP1.out]; exact hrs
        have HRSy2 := Lib.hid hrs
        have HTy2 := Lib.hid (HTn1.out.then ht)
        have HNBy2 := Lib.hid (HNBn1.out.keep ht hb0)
        have hpp1 : p0 ≤ p1 := by have := HP1.out; omega
        clear hrs ht
        have hn0 := HNBy2.out.holds (i := 0) rfl
        obtain ⟨hn0, hn0f⟩ := hn0
        obtain ⟨w6, hw6⟩ : ∃ w6, wy2.setCell ⟨w.heap.size, 0, none⟩ (.int .i64 10) = w6 := ⟨_, rfl⟩
        have ht : Touch (fun b => b = w.heap.size) wy2 w6 := by rw [← hw6]; exact Touch.setCell (Touch.refl (fun b => b = w.heap.size) wy2) (.inl rfl) _
        have HNB6 : Hid (NB w6 w.heap.size (nd 10 (.pointer none) 0 none 0 0 (.pointer none) 0 0 0)) := Lib.hid (by rw [← hw6]; exact HNBy2.out.put 0 _)
        have HRS6 := Lib.hid (HRSy2.out.keep ht (Ne.symm hb0))
        have HT6 := Lib.hid (HTy2.out.trans ht (fun i e => .inr (by omega)))
        clear ht
        have hgs := HRS6.out.gs
        have hdp := HRS6.out.dp
        simp only at hgs
        have hc3 := HRS6.out.c3
        obtain ⟨hc3, hc3f⟩ := hc3
        have hc2 := HRS6.out.c2.1
        simp only at hc2
        by_cases hd : deep = 10
        · have HNONE : Hid (grpP W (str s) ⟨p0, g0, r0⟩ = none) := Lib.hid (by
            rw [HRES.out]; unfold insideP; rw [if_neg (show ¬ 9 < PS.grps _ by show ¬ 9 < g0; omega), hW.1 (by omega) _])
          have HTX : Hid (Touch (fun b => b = br) w (w6.setCell ⟨br, 3, none⟩ (.int .i64 ((deep : Int) + 1)))) := Lib.hid (Touch.setCell HT6.out (.inl rfl) _)
          obtain ⟨w7, hw7⟩ : ∃ w7, w6.setCell ⟨br, 3, none⟩ (.int .i64 ((deep : Int) + 1)) = w7 := ⟨_, rfl⟩
          have hc7 : w7.cell? ⟨br, 3, none⟩ = some (.int .i64 ((deep : Int) + 1)) := by rw [← hw7]; exact (HRS6.out.c3.set _).1
          rw [hw7] at HTX
          have qd : decide (10 < (deep : Int) + 1) = true := by simp; omega
          clear hd
          go_wp2_with fail
          refine (fail_any _ _).mono ?_
          rintro e w9 ⟨rfl, rfl⟩
          refine ⟨rfl, ?_⟩
          rw [HNONE.out]
          exact ⟨rfl, HTX.out⟩
        · obtain ⟨d1, hd1⟩ : ∃ d1, deep + 1 = d1 := ⟨_, rfl⟩
          obtain ⟨w7, hw7⟩ : ∃ w7, w6.setCell ⟨br, 3, none⟩ (.int .i64 ((deep : Int) + 1)) = w7 := ⟨_, rfl⟩
          have hrs : RS br s d1 ⟨p1, g0, r0⟩ w7 := by rw [← hw7, ← hd1]; exact HRS6.out.setDeep (deep + 1) (by omega)
          have ht : Touch (fun b => b = br) w6 w7 := by rw [← hw7]; exact Touch.setCell (Touch.refl (fun b => b = br) w6) (.inl rfl) _
          have HNB7 := Lib.hid (HNB6.out.keep ht hb0)
          have HT7 := Lib.hid (HT6.out.then ht)
          have hc7 := hrs.c3.1
          have hc7g := hrs.c2.1
          simp only at hc7g
          have HRS7 := Lib.hid hrs
          clear hrs ht
          have qd : decide (10 < (d1 : Int)) = false := by simp; omega
          have qg : decide (9 < (g0 : Int)) = false := by simp; omega
          have HW := Lib.hid (hW.2 (by omega) ⟨p1, g0, r0⟩ w7)
          rw [hd1] at HW
          go_wp2_with fail
          clear hw7 hc3 hc3f hc2 hc7 hc7g qd qg
          refine (HW.out HRS7.out).mono ?_
          clear HW
          intro e w8 hG
          have hres := HRES.out
          unfold insideP at hres
          rw [if_neg (show ¬ 9 < PS.grps _ by show ¬ 9 < g0; omega)] at hres
          cases hw : W ⟨p1, g0, r0⟩ with
          | none =>
            rw [hw] at hG hres
            obtain ⟨rfl, ht⟩ := hG
            refine ⟨rfl, ?_⟩
            rw [hres]
            exact ⟨rfl, HT7.out.then ht⟩
          | some t =>
            obtain ⟨a, st2⟩ := t
            rw [hw] at hG hres
            obtain ⟨p2, g2, r2⟩ := st2
            obtain ⟨x, l, cap, rfl, hlc, hrs, ht, hrd, hpp⟩ := hG
            simp only at hpp hres
            have HRES2 := Lib.hid hres
            clear hw hres HRES
            have HRS8 := Lib.hid hrs
            have HT8 := Lib.hid (HT7.out.then ht)
            have HNB8 := Lib.hid (HNB7.out.keep ht hb0)
            have HRD := Lib.hid hrd
            have HZ7 := Lib.hid HT7.out.size
            have HB7 := Lib.hid HNB7.out.lt
            have hn3 := HNB8.out.holds (i := 3) rfl
            obtain ⟨hn3, hn3f⟩ := hn3
            obtain ⟨w9, hw9⟩ : ∃ w9, w8.setCell ⟨w.heap.size, 3, none⟩ (.slice x l cap) = w9 := ⟨_, rfl⟩
            obtain ⟨w10, hw10⟩ : ∃ w10, w9.setCell ⟨br, 3, none⟩ (.int .i64 ((d1 : Int) - 1)) = w10 := ⟨_, rfl⟩
            have hn9 : NB w9 w.heap.size (nd 10 (.pointer none) 0 x l cap (.pointer none) 0 0 0) := by rw [← hw9]; exact HNB8.out.put 3 _
            have t9 : Touch (fun b => b = w.heap.size) w8 w9 := by rw [← hw9]; exact Touch.setCell (Touch.refl (fun b => b = w.heap.size) w8) (.inl rfl) _
            have hrs9 : RS br s d1 ⟨p2, g2, r2⟩ w9 := HRS8.out.keep t9 (Ne.symm hb0)
            have hrs10 : RS br s deep ⟨p2, g2, r2⟩ w10 := by rw [← hw10, show (d1 : Int) - 1 = (deep : Int) by omega]; exact hrs9.setDeep deep (by omega)
            have t10 : Touch (fun b => b = br) w9 w10 := by rw [← hw10]; exact Touch.setCell (Touch.refl (fun b => b = br) w9) (.inl rfl) _
            have HNB10 := Lib.hid (hn9.keep t10 hb0)
            have HRS10 := Lib.hid hrs10
            have HT10 : Hid (Touch (fun b => b = br) w w10) := Lib.hid ((HT8.out.trans t9 (fun i e => .inr (by omega))).then t10)
            have HT810 : Hid (Touch (fun b => b = br ∨ b = w.heap.size) w8 w10) := Lib.hid ((t9.mono (fun _ _ e => .inr e)).then (t10.mono (fun _ _ e => .inl e)))
            have hc3 := hrs9.c3
            obtain ⟨hc3, hc3f⟩ := hc3
            clear hrs ht hrd hn9 t9 hrs9 hrs10 t10
            go_wp2_with fail
            clear hw9 hw10 hc3 hc3f hn3 hn3f
            by_cases hclose : tk (str s) p2 [41] = true
            · have HRES3 := Lib.hid HRES2.out
              rw [if_pos hclose] at HRES3
              have HCL := Lib.hid hclose
              clear hclose HRES2
              refine (take_yes br s ⟨#[41]⟩ deep _ w10 HRS10.out HCL.out (by decide)).mono ?_
              rintro e w11 ⟨rfl, hrs, ht⟩
              have HRS11 := Lib.hid hrs
              have HT11 := Lib.hid (HT10.out.then ht)
              have HNB11 := Lib.hid (HNB10.out.keep ht hb0)
              have HRD11 := Lib.hid ((rd_later (HT810.out.then (ht.mono (fun _ _ e => .inl e))) (lo := w7.heap.size) (hi := w8.heap.size) (lo' := w.heap.size) (hi' := w11.heap.size) (fun b e => .inl (by have := HB7.out; rcases e with e | e <;> omega)) HZ7.out (Nat.le_trans HT810.out.size ht.size) a).2.2 _ _ HRD.out)
              clear hrs ht
              go_wp2_with fail
              go_ret
              rw [HRES3.out]
              have hl := HNB11.out.lt
              exact ⟨w.heap.size, rfl, HRS11.out, HT11.out, ⟨w.heap.size, _, _, _, _, _, _, _, _, _, rfl, HNB11.out.node ⟨Nat.le_refl _, hl⟩, hlc, HRD11.out⟩, by show p0 < p2 + 1; omega⟩
            · have hf : tk (str s) p2 [41] = false := by simpa using hclose
              have HRES3 := Lib.hid HRES2.out
              rw [if_neg hclose] at HRES3
              have HCL := Lib.hid hf
              clear hclose hf HRES2
              refine (tk_no (t := ⟨#[41]⟩) HRS10.out HCL.out).mono ?_
              rintro e w11 ⟨rfl, hrs, ht⟩
              have HT11 := Lib.hid (HT10.out.then ht)
              clear hrs ht
              go_wp2_with fail
              refine (fail_any _ _).mono ?_
              rintro e w12 ⟨rfl, rfl⟩
              refine ⟨rfl, ?_⟩
              rw [HRES3.out]
              exact ⟨rfl, HT11.out⟩
      | false =>
        have HTK2 := Lib.hid h2
        refine (tk_no (t := ⟨#[63, 33]⟩) HRSn1.out HTK2.out).mono ?_
        rintro e wn2 ⟨rfl, hrs, ht⟩
        have HRSn2 := Lib.hid hrs
        have HTn2 := Lib.hid (HTn1.out.then ht)
        have HNBn2 := Lib.hid (HNBn1.out.keep ht hb0)
        clear hrs ht
        go_wp2_with fail
        cases h3 : tk (str s) p0 [63, 62] with
        | true =>
          have HRES : Hid (grpP W (str s) ⟨p0, g0, r0⟩ = insideP W (str s) .atom ⟨p1, g0, r0⟩) := Lib.hid (by rw [← HP1.out]; unfold grpP; simp only [h3, if_true, if_false, Bool.false_eq_true, h0, Bool.false_eq_true, h1, Bool.false_eq_true, h2]; try rfl)
          have HTK := Lib.hid h3
          clear h3 h0 h1 h2
          refine (take_yes br s ⟨#[63, 62]⟩ deep _ _ HRSn2.out HTK.out (by decide)).mono ?_
          rintro e wy3 ⟨rfl, hrs, ht⟩
          have hrs : RS br s deep ⟨p1, g0, r0⟩ wy3 := by rw [← HP1.out]; exact hrs
          have HRSy3 := Lib.hid hrs
          have HTy3 := Lib.hid (HTn2.out.then ht)
          have HNBy3 := Lib.hid (HNBn2.out.keep ht hb0)
          have hpp1 : p0 ≤ p1 := by have := HP1.out; omega
          clear hrs ht
          have hn0 := HNBy3.out.holds (i := 0) rfl
          obtain ⟨hn0, hn0f⟩ := hn0
          obtain ⟨w6, hw6⟩ : ∃ w6, wy3.setCell ⟨w.heap.size, 0, none⟩ (.int .i64 11) = w6 := ⟨_, rfl⟩
          have ht : Touch (fun b => b = w.heap.size) wy3 w6 := by rw [← hw6]; exact Touch.setCell (Touch.refl (fun b => b = w.heap.size) wy3) (.inl rfl) _
          have HNB6 : Hid (NB w6 w.heap.size (nd 11 (.pointer none) 0 none 0 0 (.pointer none) 0 0 0)) := Lib.hid (by rw [← hw6]; exact HNBy3.out.put 0 _)
          have HRS6 := Lib.hid (HRSy3.out.keep ht (Ne.symm hb0))
          have HT6 := Lib.hid (HTy3.out.trans ht (fun i e => .inr (by omega)))
          clear ht
          have hgs := HRS6.out.gs
          have hdp := HRS6.out.dp
          simp only at hgs
          have hc3 := HRS6.out.c3
          obtain ⟨hc3, hc3f⟩ := hc3
          have hc2 := HRS6.out.c2.1
          simp only at hc2
          by_cases hd : deep = 10
          · have HNONE : Hid (grpP W (str s) ⟨p0, g0, r0⟩ = none) := Lib.hid (by
              rw [HRES.out]; unfold insideP; rw [if_neg (show ¬ 9 < PS.grps _ by show ¬ 9 < g0; omega), hW.1 (by omega) _])
            have HTX : Hid (Touch (fun b => b = br) w (w6.setCell ⟨br, 3, none⟩ (.int .i64 ((deep : Int) + 1)))) := Lib.hid (Touch.setCell HT6.out (.inl rfl) _)
            obtain ⟨w7, hw7⟩ : ∃ w7, w6.setCell ⟨br, 3, none⟩ (.int .i64 ((deep : Int) + 1)) = w7 := ⟨_, rfl⟩
            have hc7 : w7.cell? ⟨br, 3, none⟩ = some (.int .i64 ((deep : Int) + 1)) := by rw [← hw7]; exact (HRS6.out.c3.set _).1
            rw [hw7] at HTX
            have qd : decide (10 < (deep : Int) + 1) = true := by simp; omega
            clear hd
            go_wp2_with fail
            refine (fail_any _ _).mono ?_
            rintro e w9 ⟨rfl, rfl⟩
            refine ⟨rfl, ?_⟩
            rw [HNONE.out]
            exact ⟨rfl, HTX.out⟩
          · obtain ⟨d1, hd1⟩ : ∃ d1, deep + 1 = d1 := ⟨_, rfl⟩
            obtain ⟨w7, hw7⟩ : ∃ w7, w6.setCell ⟨br, 3, none⟩ (.int .i64 ((deep : Int) + 1)) = w7 := ⟨_, rfl⟩
            have hrs : RS br s d1 ⟨p1, g0, r0⟩ w7 := by rw [← hw7, ← hd1]; exact HRS6.out.setDeep (deep + 1) (by omega)
            have ht : Touch (fun b => b = br) w6 w7 := by rw [← hw7]; exact Touch.setCell (Touch.refl (fun b => b = br) w6) (.inl rfl) _
            have HNB7 := Lib.hid (HNB6.out.keep ht hb0)
            have HT7 := Lib.hid (HT6.out.then ht)
            have hc7 := hrs.c3.1
            have hc7g := hrs.c2.1
            simp only at hc7g
            have HRS7 := Lib.hid hrs
            clear hrs ht
            have qd : decide (10 < (d1 : Int)) = false := by simp; omega
            have qg : decide (9 < (g0 : Int)) = false := by simp; omega
            have HW := Lib.hid (hW.2 (by omega) ⟨p1, g0, r0⟩ w7)
            rw [hd1] at HW
            go_wp2_with fail
            clear hw7 hc3 hc3f hc2 hc7 hc7g qd qg
            refine (HW.out HRS7.out).mono ?_
            clear HW
            intro e w8 hG
            have hres := HRES.out
            unfold insideP at hres
            rw [if_neg (show ¬ 9 < PS.grps _ by show ¬ 9 < g0; omega)] at hres
            cases hw : W ⟨p1, g0, r0⟩ with
            | none =>
              rw [hw] at hG hres
              obtain ⟨rfl, ht⟩ := hG
              refine ⟨rfl, ?_⟩
              rw [hres]
              exact ⟨rfl, HT7.out.then ht⟩
            | some t =>
              obtain ⟨a, st2⟩ := t
              rw [hw] at hG hres
              obtain ⟨p2, g2, r2⟩ := st2
              obtain ⟨x, l, cap, rfl, hlc, hrs, ht, hrd, hpp⟩ := hG
              simp only at hpp hres
              have HRES2 := Lib.hid hres
              clear hw hres HRES
              have HRS8 := Lib.hid hrs
              have HT8 := Lib.hid (HT7.out.then ht)
              have HNB8 := Lib.hid (HNB7.out.keep ht hb0)
              have HRD := Lib.hid hrd
              have HZ7 := Lib.hid HT7.out.size
              have HB7 := Lib.hid HNB7.out.lt
              have hn3 := HNB8.out.holds (i := 3) rfl
              obtain ⟨hn3, hn3f⟩ := hn3
              obtain ⟨w9, hw9⟩ : ∃ w9, w8.setCell ⟨w.heap.size, 3, none⟩ (.slice x l cap) = w9 := ⟨_, rfl⟩
              obtain ⟨w10, hw10⟩ : ∃ w10, w9.setCell ⟨br, 3, none⟩ (.int .i64 ((d1 : Int) - 1)) = w10 := ⟨_, rfl⟩
              have hn9 : NB w9 w.heap.size (nd 11 (.pointer none) 0 x l cap (.pointer none) 0 0 0) := by rw [← hw9]; exact HNB8.out.put 3 _
              have t9 : Touch (fun b => b = w.heap.size) w8 w9 := by rw [← hw9]; exact Touch.setCell (Touch.refl (fun b => b = w.heap.size) w8) (.inl rfl) _
              have hrs9 : RS br s d1 ⟨p2, g2, r2⟩ w9 := HRS8.out.keep t9 (Ne.symm hb0)
              have hrs10 : RS br s deep ⟨p2, g2, r2⟩ w10 := by rw [← hw10, show (d1 : Int) - 1 = (deep : Int) by omega]; exact hrs9.setDeep deep (by omega)
              have t10 : Touch (fun b => b = br) w9 w10 := by rw [← hw10]; exact Touch.setCell (Touch.refl (fun b => b = br) w9) (.inl rfl) _
              have HNB10 := Lib.hid (hn9.keep t10 hb0)
              have HRS10 := Lib.hid hrs10
              have HT10 : Hid (Touch (fun b => b = br) w w10) := Lib.hid ((HT8.out.trans t9 (fun i e => .inr (by omega))).then t10)
              have HT810 : Hid (Touch (fun b => b = br ∨ b = w.heap.size) w8 w10) := Lib.hid ((t9.mono (fun _ _ e => .inr e)).then (t10.mono (fun _ _ e => .inl e)))
              have hc3 := hrs9.c3
              obtain ⟨hc3, hc3f⟩ := hc3
              clear hrs ht hrd hn9 t9 hrs9 hrs10 t10
              go_wp2_with fail
              clear hw9 hw10 hc3 hc3f hn3 hn3f
              by_cases hclose : tk (str s) p2 [41] = true
              · have HRES3 := Lib.hid HRES2.out
                rw [if_pos hclose] at HRES3
                have HCL := Lib.hid hclose
                clear hclose HRES2
                refine (take_yes br s ⟨#[41]⟩ deep _ w10 HRS10.out HCL.out (by decide)).mono ?_
                rintro e w11 ⟨rfl, hrs, ht⟩
                have HRS11 := Lib.hid hrs
                have HT11 := Lib.hid (HT10.out.then ht)
                have HNB11 := Lib.hid (HNB10.out.keep ht hb0)
                have HRD11 := Lib.hid ((rd_later (HT810.out.then (ht.mono (fun _ _ e => .inl e))) (lo := w7.heap.size) (hi := w8.heap.size) (lo' := w.heap.size) (hi' := w11.heap.size) (fun b e => .inl (by have := HB7.out; rcases e with e | e <;> omega)) HZ7.out (Nat.le_trans HT810.out.size ht.size) a).2.2 _ _ HRD.out)
                clear hrs ht
                go_wp2_with fail
                go_ret
                rw [HRES3.out]
                have hl := HNB11.out.lt
                exact ⟨w.heap.size, rfl, HRS11.out, HT11.out, ⟨w.heap.size, _, _, _, _, _, _, _, _, _, rfl, HNB11.out.node ⟨Nat.le_refl _, hl⟩, hlc, HRD11.out⟩, by show p0 < p2 + 1; omega⟩
              · have hf : tk (str s) p2 [41] = false := by simpa using hclose
                have HRES3 := Lib.hid HRES2.out
                rw [if_neg hclose] at HRES3
                have HCL := Lib.hid hf
                clear hclose hf HRES2
                refine (tk_no (t := ⟨#[41]⟩) HRS10.out HCL.out).mono ?_
                rintro e w11 ⟨rfl, hrs, ht⟩
                have HT11 := Lib.hid (HT10.out.then ht)
                clear hrs ht
                go_wp2_with fail
                refine (fail_any _ _).mono ?_
                rintro e w12 ⟨rfl, rfl⟩
                refine ⟨rfl, ?_⟩
                rw [HRES3.out]
                exact ⟨rfl, HT11.out⟩
        | false =>
          have HTK3 := Lib.hid h3
          refine (tk_no (t := ⟨#[63, 62]⟩) HRSn2.out HTK3.out).mono ?_
          rintro e wn3 ⟨rfl, hrs, ht⟩
          have HRSn3 := Lib.hid hrs
          have HTn3 := Lib.hid (HTn2.out.then ht)
          have HNBn3 := Lib.hid (HNBn2.out.keep ht hb0)
          clear hrs ht
          go_wp2_with fail
          -- a plain bracket, or an error
          refine (peek_rs br s deep _ _ HRSn3.out).mono ?_
          rintro e w4 ⟨he, hrs, ht⟩
          obtain ⟨c, hc⟩ : ∃ c, pk (str s) p0 = c := ⟨_, rfl⟩
          have hc256 := pk_256 s p0
          rw [hc] at hc256
          rw [show pk (str s) (PS.pos _) = c from hc] at he
          subst he
          have HRS4 := Lib.hid hrs
          have HT4 := Lib.hid (HTn3.out.then (ht.mono (fun _ _ e => e.elim)))
          have HNB4 := Lib.hid (HNBn3.out.keep ht id)
          clear hrs ht
          have hgp : grpP W (str s) ⟨p0, g0, r0⟩ = if c = 63 then none else insideP W (str s) (.grp (g0 + 1)) ⟨p0, g0 + 1, r0⟩ := by
            unfold grpP; simp only [h0, h1, h2, h3, Bool.false_eq_true, if_false, hc]
          clear h0 h1 h2 h3 hc
          by_cases h63 : c = 63
          · have q63 : ((c : Int) == 63) = true := by rw [h63]; rfl
            rw [if_pos h63] at hgp
            have HNONE := Lib.hid hgp
            clear hgp h63
            go_wp2_with fail
            refine (fail_any _ _).mono ?_
            rintro e w5 ⟨rfl, rfl⟩
            refine ⟨rfl, ?_⟩
            rw [HNONE.out]
            exact ⟨rfl, HT4.out⟩
          · have q63 : ((c : Int) == 63) = false := by simp; omega
            rw [if_neg h63] at hgp
            obtain ⟨g1, hg1⟩ : ∃ g1, g0 + 1 = g1 := ⟨_, rfl⟩
            rw [hg1] at hgp
            have HRES := Lib.hid hgp
            clear hgp h63
            have hgs0 := HRS4.out.gs
            have hdp0 := HRS4.out.dp
            simp only at hgs0
            have hc2 := HRS4.out.c2
            obtain ⟨hc2, hc2f⟩ := hc2
            simp only at hc2
            have hn2 := HNB4.out.holds (i := 2) rfl
            obtain ⟨hn2, hn2f⟩ := hn2
            obtain ⟨w5, hw5⟩ : ∃ w5, w4.setCell ⟨br, 2, none⟩ (.int .i64 ((g0 : Int) + 1)) = w5 := ⟨_, rfl⟩
            obtain ⟨w6, hw6⟩ : ∃ w6, w5.setCell ⟨w.heap.size, 2, none⟩ (.int .i64 (g1 : Int)) = w6 := ⟨_, rfl⟩
            have t5 : Touch (fun b => b = br) w4 w5 := by rw [← hw5]; exact Touch.setCell (Touch.refl (fun b => b = br) w4) (.inl rfl) _
            have t6 : Touch (fun b => b = w.heap.size) w5 w6 := by rw [← hw6]; exact Touch.setCell (Touch.refl (fun b => b = w.heap.size) w5) (.inl rfl) _
            have hn5 := HNB4.out.keep t5 hb0
            have HNB6 : Hid (NB w6 w.heap.size (nd 8 (.pointer none) (g1 : Int) none 0 0 (.pointer none) 0 0 0)) := Lib.hid (by rw [← hw6]; exact hn5.put 2 _)
            have HT6 := Lib.hid ((HT4.out.then t5).trans t6 (fun i e => .inr (by omega)))
            have hc25 : w5.cell? ⟨br, 2, none⟩ = some (.int .i64 (g1 : Int)) := by rw [← hw5, ← hg1]; exact (HRS4.out.c2.set _).1
            have hn5c := hn5.holds (i := 2) rfl
            obtain ⟨hn5c, hn5f⟩ := hn5c
            have hpp1 : p0 ≤ p0 := Nat.le_refl _
            by_cases hg9 : g0 = 9
            · have HNONE : Hid (grpP W (str s) ⟨p0, g0, r0⟩ = none) := Lib.hid (by
                rw [HRES.out]; unfold insideP; rw [if_pos (show 9 < PS.grps _ by show 9 < g1; omega)])
              have hc3 : Holds w6 br 3 (.int .i64 (deep : Int)) := by
                have h1 : Holds w5 br 3 (.int .i64 (deep : Int)) := by rw [← hw5]; exact HRS4.out.c3.set_other _ (.inr (by simp))
                exact h1.keep t6 (Ne.symm hb0)
              have hc26 : Holds w6 br 2 (.int .i64 (g1 : Int)) := by
                have h1 : Holds w5 br 2 (.int .i64 (g1 : Int)) := by rw [← hw5, ← hg1]; exact HRS4.out.c2.set _
                exact h1.keep t6 (Ne.symm hb0)
              obtain ⟨w7, hw7⟩ : ∃ w7, w6.setCell ⟨br, 3, none⟩ (.int .i64 ((deep : Int) + 1)) = w7 := ⟨_, rfl⟩
              have hc7 : w7.cell? ⟨br, 3, none⟩ = some (.int .i64 ((deep : Int) + 1)) := by rw [← hw7]; exact (hc3.set _).1
              have hc72 : w7.cell? ⟨br, 2, none⟩ = some (.int .i64 (g1 : Int)) := by rw [← hw7]; exact (hc26.set_other _ (.inr (by simp))).1
              have HT7 : Hid (Touch (fun b => b = br) w w7) := Lib.hid (by rw [← hw7]; exact HT6.out.setCell (.inl rfl) _)
              obtain ⟨hc3, hc3f⟩ := hc3
              obtain ⟨hc26, hc26f⟩ := hc26
              have q9 : decide (9 < (g1 : Int)) = true := by simp; omega
              clear t5 t6 hn5 hg9
              by_cases hd : deep = 10
              · have qd : decide (10 < (deep : Int) + 1) = true := by simp; omega
                clear hd
                go_wp2_with fail
                refine (fail_any _ _).mono ?_
                rintro e w9 ⟨rfl, rfl⟩
                refine ⟨rfl, ?_⟩
                rw [HNONE.out]
                exact ⟨rfl, HT7.out⟩
              · have qd : decide (10 < (deep : Int) + 1) = false := by simp; omega
                clear hd
                go_wp2_with fail
                refine (fail_any _ _).mono ?_
                rintro e w9 ⟨rfl, rfl⟩
                refine ⟨rfl, ?_⟩
                rw [HNONE.out]
                exact ⟨rfl, HT7.out⟩
            · have hrs : RS br s deep ⟨p0, g1, r0⟩ w6 := by
                refine RS.keep ?_ t6 (Ne.symm hb0)
                rw [← hw5, ← hg1]
                exact HRS4.out.setGrps (g0 + 1) (by omega)
              have HRS6 := Lib.hid hrs
              clear hrs t5 t6 hn5
              have hgs := HRS6.out.gs
              have hdp := HRS6.out.dp
              simp only at hgs
              have hc3 := HRS6.out.c3
              obtain ⟨hc3, hc3f⟩ := hc3
              have hc2 := HRS6.out.c2.1
              simp only at hc2
              by_cases hd : deep = 10
              · have HNONE : Hid (grpP W (str s) ⟨p0, g0, r0⟩ = none) := Lib.hid (by
                  rw [HRES.out]; unfold insideP; rw [if_neg (show ¬ 9 < PS.grps _ by show ¬ 9 < g1; omega), hW.1 (by omega) _])
                have HTX : Hid (Touch (fun b => b = br) w (w6.setCell ⟨br, 3, none⟩ (.int .i64 ((deep : Int) + 1)))) := Lib.hid (Touch.setCell HT6.out (.inl rfl) _)
                obtain ⟨w7, hw7⟩ : ∃ w7, w6.setCell ⟨br, 3, none⟩ (.int .i64 ((deep : Int) + 1)) = w7 := ⟨_, rfl⟩
                have hc7 : w7.cell? ⟨br, 3, none⟩ = some (.int .i64 ((deep : Int) + 1)) := by rw [← hw7]; exact (HRS6.out.c3.set _).1
                rw [hw7] at HTX
                have qd : decide (10 < (deep : Int) + 1) = true := by simp; omega
                clear hd
                go_wp2_with fail
                refine (fail_any _ _).mono ?_
                rintro e w9 ⟨rfl, rfl⟩
                refine ⟨rfl, ?_⟩
                rw [HNONE.out]
                exact ⟨rfl, HTX.out⟩
              · obtain ⟨d1, hd1⟩ : ∃ d1, deep + 1 = d1 := ⟨_, rfl⟩
                obtain ⟨w7, hw7⟩ : ∃ w7, w6.setCell ⟨br, 3, none⟩ (.int .i64 ((deep : Int) + 1)) = w7 := ⟨_, rfl⟩
                have hrs : RS br s d1 ⟨p0, g1, r0⟩ w7 := by rw [← hw7, ← hd1]; exact HRS6.out.setDeep (deep + 1) (by omega)
                have ht : Touch (fun b => b = br) w6 w7 := by rw [← hw7]; exact Touch.setCell (Touch.refl (fun b => b = br) w6) (.inl rfl) _
                have HNB7 := Lib.hid (HNB6.out.keep ht hb0)
                have HT7 := Lib.hid (HT6.out.then ht)
                have hc7 := hrs.c3.1
                have hc7g := hrs.c2.1
                simp only at hc7g
                have HRS7 := Lib.hid hrs
                clear hrs ht
                have qd : decide (10 < (d1 : Int)) = false := by simp; omega
                have qg : decide (9 < (g1 : Int)) = false := by simp; omega
                have HW := Lib.hid (hW.2 (by omega) ⟨p0, g1, r0⟩ w7)
                rw [hd1] at HW
                go_wp2_with fail
                clear hw7 hc3 hc3f hc2 hc7 hc7g qd qg
                refine (HW.out HRS7.out).mono ?_
                clear HW
                intro e w8 hG
                have hres := HRES.out
                unfold insideP at hres
                rw [if_neg (show ¬ 9 < PS.grps _ by show ¬ 9 < g1; omega)] at hres
                cases hw : W ⟨p0, g1, r0⟩ with
                | none =>
                  rw [hw] at hG hres
                  obtain ⟨rfl, ht⟩ := hG
                  refine ⟨rfl, ?_⟩
                  rw [hres]
                  exact ⟨rfl, HT7.out.then ht⟩
                | some t =>
                  obtain ⟨a, st2⟩ := t
                  rw [hw] at hG hres
                  obtain ⟨p2, g2, r2⟩ := st2
                  obtain ⟨x, l, cap, rfl, hlc, hrs, ht, hrd, hpp⟩ := hG
                  simp only at hpp hres
                  have HRES2 := Lib.hid hres
                  clear hw hres HRES
                  have HRS8 := Lib.hid hrs
                  have HT8 := Lib.hid (HT7.out.then ht)
                  have HNB8 := Lib.hid (HNB7.out.keep ht hb0)
                  have HRD := Lib.hid hrd
                  have HZ7 := Lib.hid HT7.out.size
                  have HB7 := Lib.hid HNB7.out.lt
                  have hn3 := HNB8.out.holds (i := 3) rfl
                  obtain ⟨hn3, hn3f⟩ := hn3
                  obtain ⟨w9, hw9⟩ : ∃ w9, w8.setCell ⟨w.heap.size, 3, none⟩ (.slice x l cap) = w9 := ⟨_, rfl⟩
                  obtain ⟨w10, hw10⟩ : ∃ w10, w9.setCell ⟨br, 3, none⟩ (.int .i64 ((d1 : Int) - 1)) = w10 := ⟨_, rfl⟩
                  have hn9 : NB w9 w.heap.size (nd 8 (.pointer none) (g1 : Int) x l cap (.pointer none) 0 0 0) := by rw [← hw9]; exact HNB8.out.put 3 _
                  have t9 : Touch (fun b => b = w.heap.size) w8 w9 := by rw [← hw9]; exact Touch.setCell (Touch.refl (fun b => b = w.heap.size) w8) (.inl rfl) _
                  have hrs9 : RS br s d1 ⟨p2, g2, r2⟩ w9 := HRS8.out.keep t9 (Ne.symm hb0)
                  have hrs10 : RS br s deep ⟨p2, g2, r2⟩ w10 := by rw [← hw10, show (d1 : Int) - 1 = (deep : Int) by omega]; exact hrs9.setDeep deep (by omega)
                  have t10 : Touch (fun b => b = br) w9 w10 := by rw [← hw10]; exact Touch.setCell (Touch.refl (fun b => b = br) w9) (.inl rfl) _
                  have HNB10 := Lib.hid (hn9.keep t10 hb0)
                  have HRS10 := Lib.hid hrs10
                  have HT10 : Hid (Touch (fun b => b = br) w w10) := Lib.hid ((HT8.out.trans t9 (fun i e => .inr (by omega))).then t10)
                  have HT810 : Hid (Touch (fun b => b = br ∨ b = w.heap.size) w8 w10) := Lib.hid ((t9.mono (fun _ _ e => .inr e)).then (t10.mono (fun _ _ e => .inl e)))
                  have hc3 := hrs9.c3
                  obtain ⟨hc3, hc3f⟩ := hc3
                  clear hrs ht hrd hn9 t9 hrs9 hrs10 t10
                  go_wp2_with fail
                  clear hw9 hw10 hc3 hc3f hn3 hn3f
                  by_cases hclose : tk (str s) p2 [41] = true
                  · have HRES3 := Lib.hid HRES2.out
                    rw [if_pos hclose] at HRES3
                    have HCL := Lib.hid hclose
                    clear hclose HRES2
                    refine (take_yes br s ⟨#[41]⟩ deep _ w10 HRS10.out HCL.out (by decide)).mono ?_
                    rintro e w11 ⟨rfl, hrs, ht⟩
                    have HRS11 := Lib.hid hrs
                    have HT11 := Lib.hid (HT10.out.then ht)
                    have HNB11 := Lib.hid (HNB10.out.keep ht hb0)
                    have HRD11 := Lib.hid ((rd_later (HT810.out.then (ht.mono (fun _ _ e => .inl e))) (lo := w7.heap.size) (hi := w8.heap.size) (lo' := w.heap.size) (hi' := w11.heap.size) (fun b e => .inl (by have := HB7.out; rcases e with e | e <;> omega)) HZ7.out (Nat.le_trans HT810.out.size ht.size) a).2.2 _ _ HRD.out)
                    clear hrs ht
                    go_wp2_with fail
                    go_ret
                    rw [HRES3.out]
                    have hl := HNB11.out.lt
                    exact ⟨w.heap.size, rfl, HRS11.out, HT11.out, ⟨w.heap.size, _, _, _, _, _, _, _, _, rfl, HNB11.out.node ⟨Nat.le_refl _, hl⟩, by omega, hlc, HRD11.out⟩, by show p0 < p2 + 1; omega⟩
                  · have hf : tk (str s) p2 [41] = false := by simpa using hclose
                    have HRES3 := Lib.hid HRES2.out
                    rw [if_neg hclose] at HRES3
                    have HCL := Lib.hid hf
                    clear hclose hf HRES2
                    refine (tk_no (t := ⟨#[41]⟩) HRS10.out HCL.out).mono ?_
                    rintro e w11 ⟨rfl, hrs, ht⟩
                    have HT11 := Lib.hid (HT10.out.then ht)
                    clear hrs ht
                    go_wp2_with fail
                    refine (fail_any _ _).mono ?_
                    rintro e w12 ⟨rfl, rfl⟩
                    refine ⟨rfl, ?_⟩
                    rw [HRES3.out]
                    exact ⟨rfl, HT11.out⟩
end Go.Proofs.YtlgpilcjcomacaaGreat

/-
  The program's reader: atom.
-/
namespace Go.Proofs.YtlgpilcjcomacaaGreat
open Go.RowKit Rx
set_option linter.unusedVariables false

theorem NodePost.from {br : Nat} {s : ByteArray} {deep : Nat} {st st1 : PS} {w w1 : World} {r : Option (Re × PS)} {e : Ending} {w' : World} (h : NodePost br s deep st1 w1 r e w') (t : Touch (fun b => b = br) w w1) (hp : st.pos ≤ st1.pos) : NodePost br s deep st w r e w' := by
  cases r with
  | none => exact ⟨h.1, t.then h.2⟩
  | some x =>
    obtain ⟨a, st2⟩ := x
    obtain ⟨b, h1, h2, h3, h4, h5⟩ := h
    exact ⟨b, h1, h2, t.then h3, (rd_later (Touch.refl (fun _ => False) w') (fun _ e => e.elim) t.size (Nat.le_refl _) a).1 _ h4, by omega⟩

theorem set_node {w w4 : World} {bs : Nat} {f : Nat → Bool} (hs : SetB w4 bs f) (hbs : w.heap.size ≤ bs) (hz : w.heap.size ≤ w4.heap.size) :
    (rd (FP w.heap.size (w4.alloc (.cells (nd 0 (.pointer (some ⟨bs, 0, none⟩)) 0 none 0 0 (.pointer none) 0 0 0) 89)).heap.size) (w4.alloc (.cells (nd 0 (.pointer (some ⟨bs, 0, none⟩)) 0 none 0 0 (.pointer none) 0 0 0) 89)) 9 (.set f)).node (.pointer (some ⟨w4.heap.size, 0, none⟩)) := by
  have hbl := hs.lt
  rw [show (w4.alloc (.cells (nd 0 (.pointer (some ⟨bs, 0, none⟩)) 0 none 0 0 (.pointer none) 0 0 0) 89)).heap.size = w4.heap.size + 1 by simp]
  refine ⟨w4.heap.size, bs, _, _, _, _, _, _, _, _, rfl, leaf_new hz 0 (.pointer (some ⟨bs, 0, none⟩)) 0, ⟨hbs, by omega⟩, fun i hi => ?_⟩
  exact ((hs.keep ((Touch.refl (fun _ => False) _).alloc _) id).cell hi).1
theorem asr_node {w w4 : World} (k : Nat) (h1 : 1 ≤ k) (h2 : k ≤ 6) (hz : w.heap.size ≤ w4.heap.size) :
    (rd (FP w.heap.size (w4.alloc (.cells (nd (k : Int) (.pointer none) 0 none 0 0 (.pointer none) 0 0 0) 89)).heap.size) (w4.alloc (.cells (nd (k : Int) (.pointer none) 0 none 0 0 (.pointer none) 0 0 0) 89)) 9 (.asr k)).node (.pointer (some ⟨w4.heap.size, 0, none⟩)) := by
  rw [show (w4.alloc (.cells (nd (k : Int) (.pointer none) 0 none 0 0 (.pointer none) 0 0 0) 89)).heap.size = w4.heap.size + 1 by simp]
  exact ⟨w4.heap.size, _, _, _, _, _, _, _, _, _, rfl, leaf_new hz (k : Int) (.pointer none) 0, h1, h2⟩

theorem NodePost.ends {br : Nat} {s : ByteArray} {deep : Nat} {st : PS} {w : World} {r : Option (Re × PS)} {e : Ending} {w' : World} (h : NodePost br s deep st w r e w') : e = bad ∨ ∃ v, e = .returned v := by
  cases r with
  | none => exact .inl h.1
  | some x => obtain ⟨b, h1, -⟩ := h; exact .inr ⟨_, h1⟩

set_option maxRecDepth 100000 in
set_option maxHeartbeats 20000000 in
theorem atom_any (br : Nat) (s : ByteArray) (deep : Nat) (st : PS) (w : World) (W : PS → Option (Re × PS)) (hW : WOK br s (deep + 1) W) (h : RS br s deep st w) (hlt : st.pos < s.size) :
    Calls Tryz.prog 94 #[.pointer (some ⟨br, 0, none⟩)] w (NodePost br s deep st w (atomP W (str s) st)) := by
  have hsz := h.sz
  obtain ⟨p0, g0, r0⟩ := st
  simp only at hlt
  have HRS0 := Lib.hid h
  clear h
  obtain ⟨p1, hp1⟩ : ∃ p1, p0 + 1 = p1 := ⟨_, rfl⟩
  have hc256 := pk_256 s p0
  obtain ⟨c, hc⟩ : ∃ c, pk (str s) p0 = c := ⟨_, rfl⟩
  rw [hc] at hc256
  have HC := Lib.hid hc
  have HP1 := Lib.hid hp1
  have hp1s : p1 ≤ s.size := by omega
  have HLE : Hid (p0 < p1) := Lib.hid (by omega)
  have hres : atomP W (str s) ⟨p0, g0, r0⟩ = if c = 92 then escP (str s) ⟨p1, g0, r0⟩
    else if c = 46 then some (.set (fun x => !decide (x = 10)), ⟨p1, g0, r0⟩)
    else if c = 94 then some (.asr 1, ⟨p1, g0, r0⟩)
    else if c = 36 then some (.asr 2, ⟨p1, g0, r0⟩)
    else if c = 91 then (match classAll (str s) p1 with
      | none => none
      | some (f, j) => some (.set f, ⟨j, g0, r0⟩))
    else if c = 40 then grpP W (str s) ⟨p1, g0, r0⟩
    else if stops.contains c = true then none
    else some (oneR c, ⟨p1, g0, r0⟩) := by
    unfold atomP; simp only [hc, hp1]; rfl
  clear hc hp1
  have HW := Lib.hid hW
  have HRES0 := Lib.hid hres
  clear hW hres
  go_enter Tryz.func94, Tryz.ntmps94
  go_wp2_with fail
  refine (peek_rs br s deep _ _ HRS0.out).mono ?_
  rintro e w1 ⟨he, hrs, ht⟩
  rw [show pk (str s) (PS.pos _) = c from HC.out] at he
  subst he
  have HRS1 := Lib.hid hrs
  have HT1 : Hid (Touch (fun b => b = br) w w1) := Lib.hid (ht.mono (fun _ _ e => e.elim))
  clear hrs ht
  have hc1 := HRS1.out.c1
  obtain ⟨hc1, hc1f⟩ := hc1
  simp only at hc1
  obtain ⟨w2, hw2⟩ : ∃ w2, w1.setCell ⟨br, 1, none⟩ (.int .i64 ((p0 : Int) + 1)) = w2 := ⟨_, rfl⟩
  have hrs : RS br s deep ⟨p1, g0, r0⟩ w2 := by rw [← hw2, ← HP1.out]; exact HRS1.out.setPos (p0 + 1) (by omega)
  have ht : Touch (fun b => b = br) w1 w2 := by rw [← hw2]; exact Touch.setCell (Touch.refl (fun b => b = br) w1) (.inl rfl) _
  have HRS2 := Lib.hid hrs
  have HT2 := Lib.hid (HT1.out.then ht)
  clear hrs ht
  have hres := HRES0.out
  clear HRES0
  by_cases e92 : c = 92
  · have q92 : ((c : Int) == 92) = true := by rw [e92]; rfl
    rw [if_pos e92] at hres
    have HR := Lib.hid hres
    clear hres e92
    go_wp2_with fail
    clear hw2 hc1 hc1f
    refine (escape_any br s deep _ _ HRS2.out).mono ?_
    intro e w3 hG
    rcases NodePost.ends hG with he | ⟨v, he⟩
    · subst he
      refine ⟨rfl, ?_⟩
      rw [HR.out]
      exact NodePost.from hG HT2.out (Nat.le_of_lt HLE.out)
    · subst he
      go_wp2_with fail
      go_ret
      rw [HR.out]
      exact NodePost.from hG HT2.out (Nat.le_of_lt HLE.out)
  · have q92 : ((c : Int) == 92) = false := by simp; omega
    rw [if_neg e92] at hres
    by_cases e46 : c = 46
    · have q46 : ((c : Int) == 46) = true := by rw [e46]; rfl
      rw [if_pos e46] at hres
      have HR := Lib.hid hres
      clear hres e46
      go_wp2_with fail
      clear hc1 hc1f
      go_loopw [24] (fun q wq => ∃ (j : Nat) (g' : Nat → Bool), q = .int .i64 j ∧ j ≤ 256 ∧ Hid (SetB wq w2.heap.size g') ∧ Hid (∀ x, x < j → g' x = !decide (x = 10)) ∧ Hid (RS br s deep ⟨p1, g0, r0⟩ wq) ∧ Hid (Touch (fun b => b = br) w wq)) (fun q _ => 256 - (intOf q).toNat)
      case atStart => exact ⟨0, _, rfl, by omega, Lib.hid (SetB.made w2 _ _ zero_set), Lib.hid (fun x hx => by omega), Lib.hid (HRS2.out.keep ((Touch.refl (fun _ => False) _).alloc _) id), Lib.hid (HT2.out.alloc _)⟩
      case round =>
        obtain ⟨j, g', rfl, hj, HSq, HGq, HRSq, HTq⟩ := hrel
        by_cases hlt2 : j < 256
        · have hx := HSq.out.cell hlt2
          obtain ⟨hx1, hx2⟩ := hx
          obtain ⟨v, hv⟩ : ∃ v, (!decide (j = 10)) = v := ⟨_, rfl⟩
          have q10 : ((j : Int) != 10) = v := by
            rw [← hv]; by_cases h10 : j = 10
            · rw [h10]; rfl
            · rw [decide_eq_false h10]; rw [show (!false) = true from rfl, bne_iff_ne]; omega
          have HV := Lib.hid hv
          clear hv
          have HS6 := Lib.hid (HSq.out.put hlt2 v)
          have t6 : Touch (fun b => b = w2.heap.size) wr (wr.setCell ⟨w2.heap.size, j, none⟩ (.bool v)) := Touch.setCell (Touch.refl (fun b => b = w2.heap.size) wr) (.inl rfl) _
          have HRS6 := Lib.hid (HRSq.out.keep t6 (fun e => by have := HRS2.out.lt; omega))
          have HT6 := Lib.hid (HTq.out.trans t6 (fun i e => .inr (by have := HT2.out.size; omega)))
          clear t6
          go_wp2_with fail
          refine ⟨⟨j + 1, _, by go_num, by omega, HS6, Lib.hid ?_, HRS6, HT6⟩, by simp [intOf]; omega⟩
          intro x hx
          by_cases e : x = j
          · subst e; rw [if_pos rfl]; exact HV.out.symm
          · rw [if_neg e]; exact HGq.out x (by omega)
        · obtain rfl : j = 256 := by omega
          go_wp2_with fail
          go_ret
          rw [HR.out]
          exact ⟨wr.heap.size, rfl, HRSq.out.keep ((Touch.refl (fun _ => False) _).alloc _) id, HTq.out.alloc _, set_node (HSq.out.congr (fun x hx => HGq.out x hx)) HT2.out.size HTq.out.size, HLE.out⟩
    · have q46 : ((c : Int) == 46) = false := by simp; omega
      rw [if_neg e46] at hres
      by_cases e94 : c = 94
      · have q94 : ((c : Int) == 94) = true := by rw [e94]; rfl
        rw [if_pos e94] at hres
        have HR := Lib.hid hres
        clear hres e94
        go_wp2_with fail
        clear hc1 hc1f
        go_ret
        rw [HR.out]
        exact ⟨w2.heap.size, rfl, HRS2.out.keep ((Touch.refl (fun _ => False) _).alloc _) id, HT2.out.alloc _, asr_node 1 (by decide) (by decide) HT2.out.size, HLE.out⟩
      · have q94 : ((c : Int) == 94) = false := by simp; omega
        rw [if_neg e94] at hres
        by_cases e36 : c = 36
        · have q36 : ((c : Int) == 36) = true := by rw [e36]; rfl
          rw [if_pos e36] at hres
          have HR := Lib.hid hres
          clear hres e36
          go_wp2_with fail
          clear hc1 hc1f
          go_ret
          rw [HR.out]
          exact ⟨w2.heap.size, rfl, HRS2.out.keep ((Touch.refl (fun _ => False) _).alloc _) id, HT2.out.alloc _, asr_node 2 (by decide) (by decide) HT2.out.size, HLE.out⟩
        · have q36 : ((c : Int) == 36) = false := by simp; omega
          rw [if_neg e36] at hres
          by_cases e91 : c = 91
          · have q91 : ((c : Int) == 91) = true := by rw [e91]; rfl
            rw [if_pos e91] at hres
            have HR := Lib.hid hres
            clear hres e91
            go_wp2_with fail
            clear hw2 hc1 hc1f
            refine (class_any br s deep _ _ HRS2.out).mono ?_
            intro e w3 hG
            have hr := HR.out
            cases hcl : classAll (str s) p1 with
            | none =>
              rw [show classAll (str s) (PS.pos _) = none from hcl] at hG
              rw [hcl] at hr
              obtain ⟨rfl, ht⟩ := hG
              refine ⟨rfl, ?_⟩
              rw [hr]
              exact ⟨rfl, HT2.out.then ht⟩
            | some t =>
              obtain ⟨f, j⟩ := t
              rw [show classAll (str s) (PS.pos _) = some (f, j) from hcl] at hG
              rw [hcl] at hr
              obtain ⟨b, rfl, hset, hbs, hrs, ht, hpj⟩ := hG
              have HR3 : Hid (atomP W (str s) ⟨p0, g0, r0⟩ = some (.set f, ⟨j, g0, r0⟩)) := Lib.hid hr
              have HS3 := Lib.hid hset
              have HBS := Lib.hid (Nat.le_trans HT2.out.size hbs)
              have HRS3 := Lib.hid hrs
              have HT3 := Lib.hid (HT2.out.then ht)
              have HPJ : Hid (p1 < j) := Lib.hid hpj
              clear hr hcl hset hbs hrs ht hpj
              go_wp2_with fail
              go_ret
              rw [HR3.out]
              exact ⟨w3.heap.size, rfl, HRS3.out.keep ((Touch.refl (fun _ => False) _).alloc _) id, HT3.out.alloc _, set_node HS3.out HBS.out HT3.out.size, by have h1 := HPJ.out; have h2 := HLE.out; show p0 < j; omega⟩
          · have q91 : ((c : Int) == 91) = false := by simp; omega
            rw [if_neg e91] at hres
            by_cases e40 : c = 40
            · have q40 : ((c : Int) == 40) = true := by rw [e40]; rfl
              rw [if_pos e40] at hres
              have HR := Lib.hid hres
              clear hres e40
              go_wp2_with fail
              clear hw2 hc1 hc1f
              refine (group_any br s deep _ _ W HW.out HRS2.out).mono ?_
              intro e w3 hG
              rcases NodePost.ends hG with he | ⟨v, he⟩
              · subst he
                refine ⟨rfl, ?_⟩
                rw [HR.out]
                exact NodePost.from hG HT2.out (Nat.le_of_lt HLE.out)
              · subst he
                go_wp2_with fail
                go_ret
                rw [HR.out]
                exact NodePost.from hG HT2.out (Nat.le_of_lt HLE.out)
            · have q40 : ((c : Int) == 40) = false := by simp; omega
              rw [if_neg e40] at hres
              by_cases e42 : c = 42
              · have q42 : ((c : Int) == 42) = true := by rw [e42]; rfl
                rw [if_pos (by rw [e42]; decide)] at hres
                have HR := Lib.hid hres
                clear hres e42
                go_wp2_with fail
                clear hw2 hc1 hc1f
                refine (fail_any _ _).mono ?_
                rintro e w3 ⟨rfl, rfl⟩
                refine ⟨rfl, ?_⟩
                rw [HR.out]
                exact ⟨rfl, HT2.out⟩
              · have q42 : ((c : Int) == 42) = false := by simp; omega
                by_cases e43 : c = 43
                · have q43 : ((c : Int) == 43) = true := by rw [e43]; rfl
                  rw [if_pos (by rw [e43]; decide)] at hres
                  have HR := Lib.hid hres
                  clear hres e43
                  go_wp2_with fail
                  clear hw2 hc1 hc1f
                  refine (fail_any _ _).mono ?_
                  rintro e w3 ⟨rfl, rfl⟩
                  refine ⟨rfl, ?_⟩
                  rw [HR.out]
                  exact ⟨rfl, HT2.out⟩
                · have q43 : ((c : Int) == 43) = false := by simp; omega
                  by_cases e63 : c = 63
                  · have q63 : ((c : Int) == 63) = true := by rw [e63]; rfl
                    rw [if_pos (by rw [e63]; decide)] at hres
                    have HR := Lib.hid hres
                    clear hres e63
                    go_wp2_with fail
                    clear hw2 hc1 hc1f
                    refine (fail_any _ _).mono ?_
                    rintro e w3 ⟨rfl, rfl⟩
                    refine ⟨rfl, ?_⟩
                    rw [HR.out]
                    exact ⟨rfl, HT2.out⟩
                  · have q63 : ((c : Int) == 63) = false := by simp; omega
                    by_cases e123 : c = 123
                    · have q123 : ((c : Int) == 123) = true := by rw [e123]; rfl
                      rw [if_pos (by rw [e123]; decide)] at hres
                      have HR := Lib.hid hres
                      clear hres e123
                      go_wp2_with fail
                      clear hw2 hc1 hc1f
                      refine (fail_any _ _).mono ?_
                      rintro e w3 ⟨rfl, rfl⟩
                      refine ⟨rfl, ?_⟩
                      rw [HR.out]
                      exact ⟨rfl, HT2.out⟩
                    · have q123 : ((c : Int) == 123) = false := by simp; omega
                      by_cases e125 : c = 125
                      · have q125 : ((c : Int) == 125) = true := by rw [e125]; rfl
                        rw [if_pos (by rw [e125]; decide)] at hres
                        have HR := Lib.hid hres
                        clear hres e125
                        go_wp2_with fail
                        clear hw2 hc1 hc1f
                        refine (fail_any _ _).mono ?_
                        rintro e w3 ⟨rfl, rfl⟩
                        refine ⟨rfl, ?_⟩
                        rw [HR.out]
                        exact ⟨rfl, HT2.out⟩
                      · have q125 : ((c : Int) == 125) = false := by simp; omega
                        by_cases e93 : c = 93
                        · have q93 : ((c : Int) == 93) = true := by rw [e93]; rfl
                          rw [if_pos (by rw [e93]; decide)] at hres
                          have HR := Lib.hid hres
                          clear hres e93
                          go_wp2_with fail
                          clear hw2 hc1 hc1f
                          refine (fail_any _ _).mono ?_
                          rintro e w3 ⟨rfl, rfl⟩
                          refine ⟨rfl, ?_⟩
                          rw [HR.out]
                          exact ⟨rfl, HT2.out⟩
                        · have q93 : ((c : Int) == 93) = false := by simp; omega
                          rw [if_neg (by simp only [stops]; simp; omega)] at hres
                          have HR := Lib.hid hres
                          clear hres
                          go_wp2_with fail
                          clear hw2 hc1 hc1f
                          refine (one_any c hc256 _).mono ?_
                          rintro e w3 ⟨rfl, ht, hz, hn⟩
                          have HN := Lib.hid hn
                          have HRS3 := Lib.hid (HRS2.out.keep ht id)
                          have HT3 := Lib.hid (HT2.out.then (ht.mono (fun _ _ e => e.elim)))
                          clear ht hz hn
                          go_wp2_with fail
                          go_ret
                          rw [HR.out]
                          exact ⟨w2.heap.size + 1, rfl, HRS3.out, HT3.out, (rd_later (Touch.refl (fun _ => False) _) (fun _ e => e.elim) HT2.out.size (Nat.le_refl _) (oneR c)).1 _ HN.out, HLE.out⟩
end Go.Proofs.YtlgpilcjcomacaaGreat
