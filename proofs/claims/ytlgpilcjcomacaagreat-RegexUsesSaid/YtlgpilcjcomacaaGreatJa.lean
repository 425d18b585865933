/-
  The document's Whole.
-/
import Derived.Test.YtlgpilcjcomacaaGreatCa
import Derived.Test.YtlgpilcjcomacaaGreatHb
namespace Go.Proofs.YtlgpilcjcomacaaGreat
open Go.RowKit Rx
set_option linter.unusedVariables false

/-- The row of the whole. -/
def wholeT (a : Re) : Re := .cat (.grp 0 a) (.cat (.asr 4) .nil)
theorem whole_tree (s : List UInt8) (B : Nat) (a : Re) : wholeRes (fr s B (wholeR a) true 0 0) = wholeRes (run s B (wholeT a) 0 K0 0 g0) := by
  rw [fr_step _ _ _ _ _ _ (Nat.zero_le _)]
  have h : run s B (wholeR a) 0 K0 0 g0 = orElse (run s B (wholeT a) 0 K0 0 g0) (fun n => .no n) := by
    simp only [wholeR, wholeT, run, if_true]
  rw [h]
  cases run s B (wholeT a) 0 K0 0 g0 with
  | over => rfl
  | no n => rfl
  | yes n g x => rfl

/-- The world at the look for the whole. -/
noncomputable abbrev dW1 (w1 : World) (b : Nat) : World := w1.alloc (.cells #[.pointer (some ⟨b, 0, none⟩)] 91)
noncomputable abbrev dW2 (w1 : World) (b : Nat) : World := (dW1 w1 b).alloc (.cells ((Tryz.zeroCells97.setIfInBounds 0 (.int .i64 6)).setIfInBounds 259 (.slice (some ⟨w1.heap.size, 0, none⟩) 1 1)) 97)
noncomputable abbrev dW3 (w1 : World) (b : Nat) : World := (dW2 w1 b).alloc (.cells ((Tryz.zeroCells97.setIfInBounds 0 (.int .i64 1)).setIfInBounds 257 (.int .u8 122)) 97)
noncomputable abbrev dW4 (w1 : World) (b : Nat) : World := (dW3 w1 b).alloc (.cells #[.pointer (some ⟨w1.heap.size + 1, 0, none⟩), .pointer (some ⟨w1.heap.size + 1 + 1, 0, none⟩)] 91)
noncomputable abbrev dW (w1 : World) (b : Nat) : World := (dW4 w1 b).alloc (.cells ((Tryz.zeroCells97.setIfInBounds 0 (.int .i64 3)).setIfInBounds 259 (.slice (some ⟨w1.heap.size + 1 + 1 + 1, 0, none⟩) 2 2)) 97)
theorem dW_size (w1 : World) (b : Nat) : (dW w1 b).heap.size = w1.heap.size + 5 := by simp
theorem dW_still (w1 : World) (b : Nat) : Still w1 (dW w1 b) := (((((Touch.refl _ w1).alloc _).alloc _).alloc _).alloc _).alloc _
structure dC (w1 : World) (b : Nat) (w : World) : Prop where
  x0 : w.cell? ⟨w1.heap.size, 0, none⟩ = some (.pointer (some ⟨b, 0, none⟩))
  n1 : NodeB w (w1.heap.size + 1) { nv0 6 with kx := some ⟨w1.heap.size, 0, none⟩, kl := 1, kc := 1 }
  n2 : NodeB w (w1.heap.size + 1 + 1) { nv0 1 with what := 122 }
  y0 : w.cell? ⟨w1.heap.size + 1 + 1 + 1, 0, none⟩ = some (.pointer (some ⟨w1.heap.size + 1, 0, none⟩))
  y1 : w.cell? ⟨w1.heap.size + 1 + 1 + 1, 1, none⟩ = some (.pointer (some ⟨w1.heap.size + 1 + 1, 0, none⟩))
  n4 : NodeB w (w1.heap.size + 1 + 1 + 1 + 1) { nv0 3 with kx := some ⟨w1.heap.size + 1 + 1 + 1, 0, none⟩, kl := 2, kc := 2 }
theorem dW_cells (w1 : World) (b : Nat) : dC w1 b (dW w1 b) := by
  have z1 : (dW1 w1 b).heap.size = w1.heap.size + 1 := by simp
  have z2 : (dW2 w1 b).heap.size = w1.heap.size + 1 + 1 := by simp
  have z3 : (dW3 w1 b).heap.size = w1.heap.size + 1 + 1 + 1 := by simp
  have z4 : (dW4 w1 b).heap.size = w1.heap.size + 1 + 1 + 1 + 1 := by simp
  have h1 := NodeB.made (dW1 w1 b) _ _ ((zero_node.kind 6).kids (some ⟨w1.heap.size, 0, none⟩) 1 1)
  have h2 := NodeB.made (dW2 w1 b) _ _ ((zero_node.kind 1).what 122)
  have h4 := NodeB.made (dW4 w1 b) _ _ ((zero_node.kind 3).kids (some ⟨w1.heap.size + 1 + 1 + 1, 0, none⟩) 2 2)
  have h3 : Holds (dW4 w1 b) (dW3 w1 b).heap.size 0 (.pointer (some ⟨w1.heap.size + 1, 0, none⟩)) := Holds.made (dW3 w1 b) #[.pointer (some ⟨w1.heap.size + 1, 0, none⟩), .pointer (some ⟨w1.heap.size + 1 + 1, 0, none⟩)] _ 0 _ rfl
  have h3' : Holds (dW4 w1 b) (dW3 w1 b).heap.size 1 (.pointer (some ⟨w1.heap.size + 1 + 1, 0, none⟩)) := Holds.made (dW3 w1 b) #[.pointer (some ⟨w1.heap.size + 1, 0, none⟩), .pointer (some ⟨w1.heap.size + 1 + 1, 0, none⟩)] _ 1 _ rfl
  have h0 : Holds (dW1 w1 b) w1.heap.size 0 (.pointer (some ⟨b, 0, none⟩)) := Holds.made w1 #[.pointer (some ⟨b, 0, none⟩)] _ 0 _ rfl
  rw [z1] at h1
  rw [z2] at h2
  rw [z3] at h3 h3'
  rw [z4] at h4
  have t4 : Still (dW4 w1 b) (dW w1 b) := (Touch.refl _ _).alloc _
  have t3 : Still (dW3 w1 b) (dW w1 b) := ((Touch.refl _ _).alloc _).alloc _
  have t2 : Still (dW2 w1 b) (dW w1 b) := (((Touch.refl _ _).alloc _).alloc _).alloc _
  have t1 : Still (dW1 w1 b) (dW w1 b) := ((((Touch.refl _ _).alloc _).alloc _).alloc _).alloc _
  exact ⟨(h0.keep t1 id).1, h1.keep t2 id, h2.keep t3 id, (h3.keep t4 id).1, (h3'.keep t4 id).1, h4⟩

/-- The row of the whole, tried. -/
theorem dC.run {w1 : World} {b : Nat} {w : World} (h : dC w1 b w) {B : Nat} {t : ByteArray} {a : Re} {F : Nat → Prop} (hF : ∀ i, F i → i < w1.heap.size) (hw : w.heap.size = w1.heap.size + 5) (hold : ∀ i, i < w1.heap.size → w.heap[i]? = w1.heap[i]?) (hei : EitherD F w1 (rdD F w1 a).ways (.pointer (some ⟨b, 0, none⟩))) :
    RunOK ⟨w.heap.size, B, t, w⟩ (.pointer (some ⟨w1.heap.size + 1 + 1 + 1 + 1, 0, none⟩)) (run (str t) B (wholeT a)) := by
  have hei2 : EitherD (fun i => i ≠ w.heap.size) w (rdD (fun i => i ≠ w.heap.size) w a).ways (.pointer (some ⟨b, 0, none⟩)) := hei.mono (fun i hi => by have := hF i hi; omega) (fun i hi hl => hold i hl)
  refine rrun_row ⟨w.heap.size, B, t, w⟩ (wholeT a) (all_okR ⟨w.heap.size, B, t, w⟩ (wholeT a)).2.1 _ _ h.n4 (by show w1.heap.size + 1 + 1 + 1 + 1 ≠ w.heap.size; omega) rfl (Nat.le_refl _) ?_
  refine ⟨w1.heap.size + 1 + 1 + 1, 0, _, rfl, by show w1.heap.size + 1 + 1 + 1 ≠ w.heap.size; omega, (by decide : (1:Nat) ≤ 2), (by decide : (2:Nat) ≤ 1000), h.y0, ?_, ?_⟩
  · exact ⟨_, .pointer (some ⟨b, 0, none⟩), ⟨w1.heap.size + 1, rfl, by show w1.heap.size + 1 ≠ w.heap.size; omega, h.n1⟩, rfl, fun h => absurd rfl h, Nat.zero_le _, ⟨w1.heap.size, 0, rfl, rfl, Nat.le_refl _, by show w1.heap.size ≠ w.heap.size; omega, h.x0⟩, hei2⟩
  · refine ⟨w1.heap.size + 1 + 1 + 1, 1, _, rfl, by show w1.heap.size + 1 + 1 + 1 ≠ w.heap.size; omega, (by decide : (1:Nat) ≤ 2 - 1), (by decide : (2:Nat) - 1 ≤ 1000), h.y1, ?_, rfl⟩
    exact ⟨_, ⟨w1.heap.size + 1 + 1, rfl, by show w1.heap.size + 1 + 1 ≠ w.heap.size; omega, h.n2⟩, rfl, rfl, by decide, by decide⟩

set_option maxRecDepth 100000 in
set_option maxHeartbeats 8000000 in
theorem rwhole_any (s t : ByteArray) (bu : Int) (w : World) :
    Calls Tryz.prog 19 #[.string s, .string t, .int .i64 bu] w (WholeP w (wholeV t bu (readP (str s)))) := by
  have h0 := rasked_any s t 0 bu w
  generalize readP (str s) = rr at h0 ⊢
  have HA := Lib.hid h0
  clear h0
  go_enter Tryz.func19, Tryz.ntmps19
  go_wp2_with fail
  refine HA.out.mono ?_
  intro e w1 hG
  clear HA
  cases rr with
  | none =>
    obtain ⟨rfl, ht⟩ := hG
    have HT1 := Lib.hid ht
    clear ht
    go_wp2_with fail
    go_ret2
    exact ⟨rfl, HT1.out⟩
  | some x =>
    obtain ⟨a, G⟩ := x
    rcases hG with ⟨hok, rfl, ht⟩ | ⟨hok, b, rfl, ht, hei, hg9⟩
    · have HV : Hid (wholeV t bu (some (a, G)) = (false, 1)) := Lib.hid (if_neg (by rw [hok]; decide))
      have HT1 := Lib.hid ht
      clear ht hok
      go_wp2_with fail
      go_ret2
      rw [HV.out]
      exact ⟨rfl, HT1.out⟩
    · have hin : t.size ≤ 5000 ∧ 0 ≤ (0 : Int) ∧ (0 : Int) ≤ (t.size : Int) ∧ 0 ≤ bu ∧ bu ≤ 1000000 := of_decide_eq_true hok
      obtain ⟨i1, -, -, i4, i5⟩ := hin
      obtain ⟨B, rfl⟩ := Int.eq_ofNat_of_zero_le i4
      have HV : Hid (wholeV t (B : Int) (some (a, G)) = wholeRes (run (str t) B (wholeT a) 0 K0 0 g0)) := Lib.hid (by
        show (if askOK t.size 0 (B : Int) = true then wholeRes (fr (str t) (B : Int).toNat (wholeR a) true 0 0) else (false, 1)) = _
        rw [if_pos hok, Int.toNat_natCast, whole_tree])
      have hrun := (dW_cells w1 b).run (B := B) (t := t) (a := a) (fun i hi => hi.2) (dW_size w1 b) (fun i hl => (dW_still w1 b).block i hl id) hei
      have h1 := rfirst_any t B _ ⟨_, rfl⟩ (wholeT a) (dW w1 b) hrun 0 0 0 (by omega) (Nat.zero_le _) i1 (by omega) (Nat.zero_le _) (fun j n => if j = 0 then frR (fun n => .no n) false 0 (run (str t) B (wholeT a) 0 K0 n g0) else .no n) (fun j n hj => by
        obtain rfl : j = 0 := by omega
        rfl) (fun n => rfl)
      rw [if_pos rfl] at h1
      generalize run (str t) B (wholeT a) 0 K0 0 g0 = r0 at h1 HV
      have HFI := Lib.hid h1
      have HT1 := Lib.hid (ht.then (dW_still w1 b))
      clear ht hok hei hg9 hrun h1 i1 i4 i5
      go_wp2_with fail
      refine HFI.out.mono ?_
      intro e w6 hG
      clear HFI
      cases r0 with
      | over =>
        obtain ⟨rfl, -, ht⟩ := hG
        have HT6 := Lib.hid (HT1.out.then ht)
        clear ht
        go_wp2_with fail
        go_ret2
        rw [HV.out]
        exact ⟨rfl, HT6.out⟩
      | no n1 =>
        obtain ⟨rfl, -, ht⟩ := hG
        have HT6 := Lib.hid (HT1.out.then ht)
        clear ht
        go_wp2_with fail
        go_ret2
        rw [HV.out]
        exact ⟨rfl, HT6.out⟩
      | yes n1 g x =>
        obtain ⟨rfl, -, -, -, ht⟩ := hG
        have HT6 := Lib.hid (HT1.out.then ht)
        clear ht
        go_wp2_with fail
        go_ret2
        rw [HV.out]
        exact ⟨rfl, HT6.out⟩
end Go.Proofs.YtlgpilcjcomacaaGreat
