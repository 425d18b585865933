/-
  The maker of patterns: its atom. (Printed by wip/tools/grow07.py.)
-/
import Derived.Test.YtlgpilcjcomacaaGreatGa
import Derived.Test.YtlgpilcjcomacaaGreatLb
import Derived.Deep.RegionHeld3
import Derived.Deep.DrawnRows
namespace Go.Proofs.YtlgpilcjcomacaaGreat
open Go.RowKit Rx
set_option linter.unusedVariables false

theorem str_append (a b : ByteArray) : str (a ++ b) = str a ++ str b := by
  unfold str
  rw [ByteArray.data_append, Array.toList_append]
theorem pk_mem {s : List UInt8} {i c : Nat} (h : pk s i = c) (h0 : 0 < c) : ∃ x, x ∈ s ∧ x.toNat = c := by
  unfold pk byteAt at h
  cases hs : s[i]? with
  | none => rw [hs] at h; simp at h; omega
  | some x => rw [hs] at h; exact ⟨x, List.mem_of_getElem? hs, h⟩
theorem shut_no40 {s : List UInt8} (h : ∀ x, x ∈ s → x.toNat ≠ 40) : shutS s := by
  have h1 : ∀ i, pk s i ≠ 40 := fun i hi => by
    obtain ⟨x, hx, e⟩ := pk_mem hi (by decide)
    exact h x hx e
  exact ⟨fun i hi => absurd hi (h1 i), fun i _ => h1 i, fun i _ hi => absurd hi (h1 i)⟩
theorem good_no40 {s : List UInt8} (h : ∀ x, x ∈ s → x.toNat ≠ 40) (h0 : pk s 0 ≠ 63) : goodS s := ⟨shut_no40 h, h0⟩

/-- How long a text may be without a number used: an atom, a row. -/
def cA : Nat → Nat
  | 0 => 7
  | d + 1 => 3 * cA d + 25
def cR (d : Nat) : Nat := 3 * cA d + 18
theorem cA_3 : ∀ d, d ≤ 3 → 7 ≤ cA d ∧ cA d ≤ 514 := by decide
theorem cA_succ (d : Nat) : cA (d + 1) = cR d + 7 := rfl

/-- What comes back of making: a text. -/
def StrP (z : Nat) (w0 : World) (b : Nat) (ao : Option Addr) (len cap : Nat) (pl : Bool) (at' : Nat) (w : World) (e : Ending) (w' : World) : Prop :=
  ∃ (x : ByteArray) (at2 gs2 : Nat), e = .returned (.string x) ∧ at' ≤ at2 ∧ x.size + 100000 * at' ≤ 100000 * at2 + z ∧ GR w0 b ao len cap pl at2 gs2 w' ∧ (pl = true → goodS (str x)) ∧ Touch (fun i => i = b) w w'
def AtomP (z : Nat) (w0 : World) (b : Nat) (ao : Option Addr) (len cap : Nat) (pl : Bool) (at' : Nat) (w : World) (e : Ending) (w' : World) : Prop :=
  ∃ (x : ByteArray) (can : Bool) (at2 gs2 : Nat), e = .returned (.tuple #[.string x, .bool can]) ∧ at' ≤ at2 ∧ x.size + 100000 * at' ≤ 100000 * at2 + z ∧ GR w0 b ao len cap pl at2 gs2 w' ∧ (pl = true → goodS (str x)) ∧ 0 < x.size ∧ Touch (fun i => i = b) w w'
def EOK (d : Nat) : Prop := ∀ w0 b ao len cap pl at' gs w, GR w0 b ao len cap pl at' gs w → Calls Tryz.prog 42 #[.pointer (some ⟨b, 0, none⟩), .int .i64 (d : Int)] w (StrP (cR d) w0 b ao len cap pl at' w)
def ROK (d : Nat) : Prop := ∀ w0 b ao len cap pl at' gs w, GR w0 b ao len cap pl at' gs w → Calls Tryz.prog 54 #[.pointer (some ⟨b, 0, none⟩), .int .i64 (d : Int)] w (StrP (cR d) w0 b ao len cap pl at' w)
def AOK (d : Nat) : Prop := ∀ w0 b ao len cap pl at' gs w, GR w0 b ao len cap pl at' gs w → Calls Tryz.prog 78 #[.pointer (some ⟨b, 0, none⟩), .int .i64 (d : Int)] w (AtomP (cA d) w0 b ao len cap pl at' w)

theorem size_app3 (a x b : ByteArray) : (a ++ x ++ b).size = a.size + x.size + b.size := by rw [ByteArray.size_append, ByteArray.size_append]
theorem size_pos_app (a b : ByteArray) (h : 0 < a.size) : 0 < (a ++ b).size := by rw [ByteArray.size_append]; omega
theorem grow_new {w : World} {b : Nat} {v : Value} (h : w.cell? ⟨b, 0, none⟩ = some v) : w.heap.size ≠ b := by
  have := block_lt_of_cell h
  simp at this; omega

set_option maxRecDepth 100000 in
set_option maxHeartbeats 8000000 in
/-- The choices below eleven. -/
theorem atom_low (d : Nat) (w0 : World) (b : Nat) (ao : Option Addr) (len cap : Nat) (pl : Bool) (at' gs : Nat) (w : World) (h : GR w0 b ao len cap pl at' gs w) (k at1 : Nat) (hk : k < 11) (hat : at' ≤ at1) (hal : at1 ≤ len)
    (hp : ∀ gs w, GR w0 b ao len cap pl at' gs w → Calls Tryz.prog 55 #[.pointer (some ⟨b, 0, none⟩), .int .i64 16] w (PickP w0 b ao len cap pl gs k at1 w)) :
    Calls Tryz.prog 78 #[.pointer (some ⟨b, 0, none⟩), .int .i64 (d : Int)] w (AtomP 7 w0 b ao len cap pl at' w) := by
  have HP := Lib.hid (hp gs w h)
  have HG0 := Lib.hid h
  have hk' : k = 0 ∨ k = 1 ∨ k = 2 ∨ k = 3 ∨ k = 4 ∨ k = 5 ∨ k = 6 ∨ k = 7 ∨ k = 8 ∨ k = 9 ∨ k = 10 := by omega
  clear h hp hk
  rcases hk' with rfl | rfl | rfl | rfl | rfl | rfl | rfl | rfl | rfl | rfl | rfl
  · go_enter Tryz.func78, Tryz.ntmps78
    go_wp2_with fail
    refine HP.out.mono ?_
    rintro e w1 ⟨rfl, hg, ht⟩
    have HG := Lib.hid hg
    have HT := Lib.hid ht
    clear hg ht
    go_wp2_with fail
    go_ret2
    exact ⟨⟨#[97]⟩, true, at1, gs, rfl, hat, by simp [ByteArray.size]; omega, HG.out.keep ((Touch.refl _ _).alloc _), fun _ => good_no40 (by decide) (by decide), by decide, HT.out.alloc _⟩
  · go_enter Tryz.func78, Tryz.ntmps78
    go_wp2_with fail
    refine HP.out.mono ?_
    rintro e w1 ⟨rfl, hg, ht⟩
    have HG := Lib.hid hg
    have HT := Lib.hid ht
    clear hg ht
    go_wp2_with fail
    go_ret2
    exact ⟨⟨#[98]⟩, true, at1, gs, rfl, hat, by simp [ByteArray.size]; omega, HG.out.keep ((Touch.refl _ _).alloc _), fun _ => good_no40 (by decide) (by decide), by decide, HT.out.alloc _⟩
  · go_enter Tryz.func78, Tryz.ntmps78
    go_wp2_with fail
    refine HP.out.mono ?_
    rintro e w1 ⟨rfl, hg, ht⟩
    have HG := Lib.hid hg
    have HT := Lib.hid ht
    clear hg ht
    go_wp2_with fail
    go_ret2
    exact ⟨⟨#[99]⟩, true, at1, gs, rfl, hat, by simp [ByteArray.size]; omega, HG.out.keep ((Touch.refl _ _).alloc _), fun _ => good_no40 (by decide) (by decide), by decide, HT.out.alloc _⟩
  · go_enter Tryz.func78, Tryz.ntmps78
    go_wp2_with fail
    refine HP.out.mono ?_
    rintro e w1 ⟨rfl, hg, ht⟩
    have HG := Lib.hid hg
    have HT := Lib.hid ht
    clear hg ht
    go_wp2_with fail
    go_ret2
    exact ⟨⟨#[92, 110]⟩, true, at1, gs, rfl, hat, by simp [ByteArray.size]; omega, HG.out.keep ((Touch.refl _ _).alloc _), fun _ => good_no40 (by decide) (by decide), by decide, HT.out.alloc _⟩
  · go_enter Tryz.func78, Tryz.ntmps78
    go_wp2_with fail
    refine HP.out.mono ?_
    rintro e w1 ⟨rfl, hg, ht⟩
    have HG := Lib.hid hg
    have HT := Lib.hid ht
    clear hg ht
    go_wp2_with fail
    go_ret2
    exact ⟨⟨#[45]⟩, true, at1, gs, rfl, hat, by simp [ByteArray.size]; omega, HG.out.keep ((Touch.refl _ _).alloc _), fun _ => good_no40 (by decide) (by decide), by decide, HT.out.alloc _⟩
  · go_enter Tryz.func78, Tryz.ntmps78
    go_wp2_with fail
    refine HP.out.mono ?_
    rintro e w1 ⟨rfl, hg, ht⟩
    have HG := Lib.hid hg
    have HT := Lib.hid ht
    clear hg ht
    go_wp2_with fail
    go_ret2
    exact ⟨⟨#[46]⟩, true, at1, gs, rfl, hat, by simp [ByteArray.size]; omega, HG.out.keep ((Touch.refl _ _).alloc _), fun _ => good_no40 (by decide) (by decide), by decide, HT.out.alloc _⟩
  · go_enter Tryz.func78, Tryz.ntmps78
    go_wp2_with fail
    refine HP.out.mono ?_
    rintro e w1 ⟨rfl, hg, ht⟩
    have HG := Lib.hid hg
    have HT := Lib.hid ht
    clear hg ht
    go_wp2_with fail
    go_ret2
    exact ⟨⟨#[92, 119]⟩, true, at1, gs, rfl, hat, by simp [ByteArray.size]; omega, HG.out.keep ((Touch.refl _ _).alloc _), fun _ => good_no40 (by decide) (by decide), by decide, HT.out.alloc _⟩
  · go_enter Tryz.func78, Tryz.ntmps78
    go_wp2_with fail
    refine HP.out.mono ?_
    rintro e w1 ⟨rfl, hg, ht⟩
    have HG := Lib.hid hg
    have HT := Lib.hid ht
    clear hg ht
    go_wp2_with fail
    go_ret2
    exact ⟨⟨#[91, 94, 97, 93]⟩, true, at1, gs, rfl, hat, by simp [ByteArray.size]; omega, HG.out.keep ((Touch.refl _ _).alloc _), fun _ => good_no40 (by decide) (by decide), by decide, HT.out.alloc _⟩
  · go_enter Tryz.func78, Tryz.ntmps78
    go_wp2_with fail
    refine HP.out.mono ?_
    rintro e w1 ⟨rfl, hg, ht⟩
    have HG := Lib.hid hg
    have HT := Lib.hid ht
    clear hg ht
    go_wp2_with fail
    go_ret2
    exact ⟨⟨#[91, 97, 45, 99, 93]⟩, true, at1, gs, rfl, hat, by simp [ByteArray.size]; omega, HG.out.keep ((Touch.refl _ _).alloc _), fun _ => good_no40 (by decide) (by decide), by decide, HT.out.alloc _⟩
  · go_enter Tryz.func78, Tryz.ntmps78
    go_wp2_with fail
    refine HP.out.mono ?_
    rintro e w1 ⟨rfl, hg, ht⟩
    have HG := Lib.hid hg
    have HT := Lib.hid ht
    clear hg ht
    go_wp2_with fail
    go_ret2
    exact ⟨⟨#[91, 93, 98, 92, 100, 45, 93]⟩, true, at1, gs, rfl, hat, by simp [ByteArray.size]; omega, HG.out.keep ((Touch.refl _ _).alloc _), fun _ => good_no40 (by decide) (by decide), by decide, HT.out.alloc _⟩
  · obtain ⟨k6, at2, hk6, ha2, hl2, -, h6⟩ := pick_det w0 b ao len cap pl at1 6 HG0.out.li hal (by decide) (by decide)
    have hk' : k6 = 0 ∨ k6 = 1 ∨ k6 = 2 ∨ k6 = 3 ∨ k6 = 4 ∨ k6 = 5 := by omega
    have H6 := Lib.hid h6
    clear h6 hk6
    rcases hk' with rfl | rfl | rfl | rfl | rfl | rfl
    · go_enter Tryz.func78, Tryz.ntmps78
      go_wp2_with fail
      refine HP.out.mono ?_
      rintro e w1 ⟨rfl, hg, ht⟩
      have HG := Lib.hid hg
      have HT := Lib.hid ht
      have HNE : Hid (w1.heap.size ≠ b) := Lib.hid (grow_new hg.c0)
      have hc : (w1.alloc (.cells #[.string ⟨#[94]⟩, .string ⟨#[36]⟩, .string ⟨#[92, 65]⟩, .string ⟨#[92, 122]⟩, .string ⟨#[92, 98]⟩, .string ⟨#[92, 66]⟩] 9)).cell? ⟨w1.heap.size, 0, none⟩ = some (.string ⟨#[94]⟩) := (Holds.made w1 _ _ 0 _ rfl).1
      have HC := Lib.hid hc
      clear hg ht hc
      go_wp2_with fail
      refine (H6.out gs _ (HG.out.keep ((Touch.refl _ _).alloc _))).mono ?_
      rintro e w2 ⟨rfl, hg, ht⟩
      have HG2 := Lib.hid hg
      have hc2 := ht.has HC.out HNE.out
      have HT2 := Lib.hid ((HT.out.alloc _).then ht)
      clear hg ht
      go_wp2_with fail
      go_ret2
      exact ⟨⟨#[94]⟩, false, at2, gs, rfl, by omega, by simp [ByteArray.size]; omega, HG2.out, fun _ => good_no40 (by decide) (by decide), by decide, HT2.out⟩
    · go_enter Tryz.func78, Tryz.ntmps78
      go_wp2_with fail
      refine HP.out.mono ?_
      rintro e w1 ⟨rfl, hg, ht⟩
      have HG := Lib.hid hg
      have HT := Lib.hid ht
      have HNE : Hid (w1.heap.size ≠ b) := Lib.hid (grow_new hg.c0)
      have hc : (w1.alloc (.cells #[.string ⟨#[94]⟩, .string ⟨#[36]⟩, .string ⟨#[92, 65]⟩, .string ⟨#[92, 122]⟩, .string ⟨#[92, 98]⟩, .string ⟨#[92, 66]⟩] 9)).cell? ⟨w1.heap.size, 1, none⟩ = some (.string ⟨#[36]⟩) := (Holds.made w1 _ _ 1 _ rfl).1
      have HC := Lib.hid hc
      clear hg ht hc
      go_wp2_with fail
      refine (H6.out gs _ (HG.out.keep ((Touch.refl _ _).alloc _))).mono ?_
      rintro e w2 ⟨rfl, hg, ht⟩
      have HG2 := Lib.hid hg
      have hc2 := ht.has HC.out HNE.out
      have HT2 := Lib.hid ((HT.out.alloc _).then ht)
      clear hg ht
      go_wp2_with fail
      go_ret2
      exact ⟨⟨#[36]⟩, false, at2, gs, rfl, by omega, by simp [ByteArray.size]; omega, HG2.out, fun _ => good_no40 (by decide) (by decide), by decide, HT2.out⟩
    · go_enter Tryz.func78, Tryz.ntmps78
      go_wp2_with fail
      refine HP.out.mono ?_
      rintro e w1 ⟨rfl, hg, ht⟩
      have HG := Lib.hid hg
      have HT := Lib.hid ht
      have HNE : Hid (w1.heap.size ≠ b) := Lib.hid (grow_new hg.c0)
      have hc : (w1.alloc (.cells #[.string ⟨#[94]⟩, .string ⟨#[36]⟩, .string ⟨#[92, 65]⟩, .string ⟨#[92, 122]⟩, .string ⟨#[92, 98]⟩, .string ⟨#[92, 66]⟩] 9)).cell? ⟨w1.heap.size, 2, none⟩ = some (.string ⟨#[92, 65]⟩) := (Holds.made w1 _ _ 2 _ rfl).1
      have HC := Lib.hid hc
      clear hg ht hc
      go_wp2_with fail
      refine (H6.out gs _ (HG.out.keep ((Touch.refl _ _).alloc _))).mono ?_
      rintro e w2 ⟨rfl, hg, ht⟩
      have HG2 := Lib.hid hg
      have hc2 := ht.has HC.out HNE.out
      have HT2 := Lib.hid ((HT.out.alloc _).then ht)
      clear hg ht
      go_wp2_with fail
      go_ret2
      exact ⟨⟨#[92, 65]⟩, false, at2, gs, rfl, by omega, by simp [ByteArray.size]; omega, HG2.out, fun _ => good_no40 (by decide) (by decide), by decide, HT2.out⟩
    · go_enter Tryz.func78, Tryz.ntmps78
      go_wp2_with fail
      refine HP.out.mono ?_
      rintro e w1 ⟨rfl, hg, ht⟩
      have HG := Lib.hid hg
      have HT := Lib.hid ht
      have HNE : Hid (w1.heap.size ≠ b) := Lib.hid (grow_new hg.c0)
      have hc : (w1.alloc (.cells #[.string ⟨#[94]⟩, .string ⟨#[36]⟩, .string ⟨#[92, 65]⟩, .string ⟨#[92, 122]⟩, .string ⟨#[92, 98]⟩, .string ⟨#[92, 66]⟩] 9)).cell? ⟨w1.heap.size, 3, none⟩ = some (.string ⟨#[92, 122]⟩) := (Holds.made w1 _ _ 3 _ rfl).1
      have HC := Lib.hid hc
      clear hg ht hc
      go_wp2_with fail
      refine (H6.out gs _ (HG.out.keep ((Touch.refl _ _).alloc _))).mono ?_
      rintro e w2 ⟨rfl, hg, ht⟩
      have HG2 := Lib.hid hg
      have hc2 := ht.has HC.out HNE.out
      have HT2 := Lib.hid ((HT.out.alloc _).then ht)
      clear hg ht
      go_wp2_with fail
      go_ret2
      exact ⟨⟨#[92, 122]⟩, false, at2, gs, rfl, by omega, by simp [ByteArray.size]; omega, HG2.out, fun _ => good_no40 (by decide) (by decide), by decide, HT2.out⟩
    · go_enter Tryz.func78, Tryz.ntmps78
      go_wp2_with fail
      refine HP.out.mono ?_
      rintro e w1 ⟨rfl, hg, ht⟩
      have HG := Lib.hid hg
      have HT := Lib.hid ht
      have HNE : Hid (w1.heap.size ≠ b) := Lib.hid (grow_new hg.c0)
      have hc : (w1.alloc (.cells #[.string ⟨#[94]⟩, .string ⟨#[36]⟩, .string ⟨#[92, 65]⟩, .string ⟨#[92, 122]⟩, .string ⟨#[92, 98]⟩, .string ⟨#[92, 66]⟩] 9)).cell? ⟨w1.heap.size, 4, none⟩ = some (.string ⟨#[92, 98]⟩) := (Holds.made w1 _ _ 4 _ rfl).1
      have HC := Lib.hid hc
      clear hg ht hc
      go_wp2_with fail
      refine (H6.out gs _ (HG.out.keep ((Touch.refl _ _).alloc _))).mono ?_
      rintro e w2 ⟨rfl, hg, ht⟩
      have HG2 := Lib.hid hg
      have hc2 := ht.has HC.out HNE.out
      have HT2 := Lib.hid ((HT.out.alloc _).then ht)
      clear hg ht
      go_wp2_with fail
      go_ret2
      exact ⟨⟨#[92, 98]⟩, false, at2, gs, rfl, by omega, by simp [ByteArray.size]; omega, HG2.out, fun _ => good_no40 (by decide) (by decide), by decide, HT2.out⟩
    · go_enter Tryz.func78, Tryz.ntmps78
      go_wp2_with fail
      refine HP.out.mono ?_
      rintro e w1 ⟨rfl, hg, ht⟩
      have HG := Lib.hid hg
      have HT := Lib.hid ht
      have HNE : Hid (w1.heap.size ≠ b) := Lib.hid (grow_new hg.c0)
      have hc : (w1.alloc (.cells #[.string ⟨#[94]⟩, .string ⟨#[36]⟩, .string ⟨#[92, 65]⟩, .string ⟨#[92, 122]⟩, .string ⟨#[92, 98]⟩, .string ⟨#[92, 66]⟩] 9)).cell? ⟨w1.heap.size, 5, none⟩ = some (.string ⟨#[92, 66]⟩) := (Holds.made w1 _ _ 5 _ rfl).1
      have HC := Lib.hid hc
      clear hg ht hc
      go_wp2_with fail
      refine (H6.out gs _ (HG.out.keep ((Touch.refl _ _).alloc _))).mono ?_
      rintro e w2 ⟨rfl, hg, ht⟩
      have HG2 := Lib.hid hg
      have hc2 := ht.has HC.out HNE.out
      have HT2 := Lib.hid ((HT.out.alloc _).then ht)
      clear hg ht
      go_wp2_with fail
      go_ret2
      exact ⟨⟨#[92, 66]⟩, false, at2, gs, rfl, by omega, by simp [ByteArray.size]; omega, HG2.out, fun _ => good_no40 (by decide) (by decide), by decide, HT2.out⟩

set_option maxRecDepth 100000 in
set_option maxHeartbeats 8000000 in
/-- The choices from eleven on, at depth nothing. -/
theorem atom_zero (w0 : World) (b : Nat) (ao : Option Addr) (len cap : Nat) (pl : Bool) (at' gs : Nat) (w : World) (h : GR w0 b ao len cap pl at' gs w) (k at1 : Nat) (hk : 11 ≤ k) (hat : at' ≤ at1)
    (hp : ∀ gs w, GR w0 b ao len cap pl at' gs w → Calls Tryz.prog 55 #[.pointer (some ⟨b, 0, none⟩), .int .i64 16] w (PickP w0 b ao len cap pl gs k at1 w)) :
    Calls Tryz.prog 78 #[.pointer (some ⟨b, 0, none⟩), .int .i64 0] w (AtomP 7 w0 b ao len cap pl at' w) := by
  have HP := Lib.hid (hp gs w h)
  have q1 : decide ((k : Int) < 5) = false := decide_eq_false (by omega)
  have q2 : decide ((k : Int) < 8) = false := decide_eq_false (by omega)
  have q3 : decide ((k : Int) < 10) = false := decide_eq_false (by omega)
  have q4 : ((k : Int) == 10) = false := by simp; omega
  have p1 : decide (k < 5) = false := decide_eq_false (by omega)
  have p2 : decide (k < 8) = false := decide_eq_false (by omega)
  have p3 : decide (k < 10) = false := decide_eq_false (by omega)
  have p4 : (k == 10) = false := by simp; omega
  have p5 : ¬ k = 10 := by omega
  clear h hp hk
  go_enter Tryz.func78, Tryz.ntmps78
  go_wp2_with fail
  refine HP.out.mono ?_
  rintro e w1 ⟨rfl, hg, ht⟩
  have HG := Lib.hid hg
  have HT := Lib.hid ht
  clear hg ht
  go_wp2_with fail
  go_ret2
  exact ⟨⟨#[97]⟩, true, at1, gs, rfl, hat, by simp [ByteArray.size]; omega, HG.out, fun _ => good_no40 (by decide) (by decide), by decide, HT.out⟩

attribute [local go_sem ↓] Go.wp_at_zero Go.wp_at_succ
set_option maxRecDepth 100000 in
set_option maxHeartbeats 8000000 in
theorem atom_grp11 (d : Nat) (hd : d ≤ 2) (hE : EOK d) (w0 : World) (b : Nat) (ao : Option Addr) (len cap : Nat) (pl : Bool) (at' gs : Nat) (w : World) (h : GR w0 b ao len cap pl at' gs w) (at1 : Nat) (hat : at' ≤ at1) (hal : at1 ≤ len) (hgs : gs < 9) (hp : ∀ gs w, GR w0 b ao len cap pl at' gs w → Calls Tryz.prog 55 #[.pointer (some ⟨b, 0, none⟩), .int .i64 16] w (PickP w0 b ao len cap pl gs 11 at1 w)) :
    Calls Tryz.prog 78 #[.pointer (some ⟨b, 0, none⟩), .int .i64 ((d : Int) + 1)] w (AtomP (cR d + 7) w0 b ao len cap pl at' w) := by
  have HP := Lib.hid (hp gs w h)
  have HG0 := Lib.hid h
  have HE := Lib.hid hE
  have w1' := IntWalk.i64_in ((d : Int) + 1 - 1) (by omega)
  have w2' := IntWalk.i64_in (d : Int) (by omega)
  have e1 : ((d : Int) + 1 == 0) = false := by simp; omega
  have e2 : ¬ (d : Int) + 1 = 0 := by omega
  have hcr : cR d ≤ 1600 := by have := cA_3 d (by omega); unfold cR; omega
  clear h hp hE hd
  go_enter Tryz.func78, Tryz.ntmps78
  go_wp2_with fail
  refine HP.out.mono ?_
  rintro e w1 ⟨rfl, hg, ht⟩
  have HG := Lib.hid hg
  have HT := Lib.hid ht
  have g2 := hg.c2.1
  have f2 := hg.c2.2
  have g3 := hg.c3
  clear hg ht
  have HGG := Lib.hid (HG.out.group hgs)
  have HTG : Hid (Touch (fun i => i = b) w (w1.setCell ⟨b, 2, none⟩ (.int .i64 ((gs + 1 : Nat) : Int)))) := Lib.hid (HT.out.setCell (.inl rfl) _)
  have wg := IntWalk.i64_in ((gs : Int) + 1) (by omega)
  have q9 : decide ((gs : Int) < 9) = true := decide_eq_true (by omega)
  have p9 : decide (gs < 9) = true := decide_eq_true hgs
  go_wp2_with fail
  refine (HE.out _ _ _ _ _ _ _ _ _ HGG.out).mono ?_
  rintro e w2 ⟨x, at2, gs2, rfl, ha, hxs, hg, hgood, ht⟩
  have hs1 : 100000 * at2 ≤ 1759218604441600000 := by have h1 := hg.le; have h2 := hg.li.le; omega
  have hx1 : x.size ≤ 2000000000000000000 := by omega
  have hx2 : 3 + x.size ≤ 9223372036854775807 := by omega
  have hx3 : 3 + x.size + 1 ≤ 9223372036854775807 := by omega
  have hx4 : 1 + x.size ≤ 9223372036854775807 := by omega
  have hx5 : 1 + x.size + 1 ≤ 9223372036854775807 := by omega
  have HGD := Lib.hid hgood
  have HG2 := Lib.hid hg
  have HT2 := Lib.hid (HTG.out.then ht)
  clear hg ht hgood
  go_wp2_with fail
  go_ret2
  exact ⟨⟨#[40]⟩ ++ x ++ ⟨#[41]⟩, true, at2, gs2, rfl, by omega, by rw [size_app3]; show 1 + x.size + 1 + _ ≤ _; omega, HG2.out, fun hpl => by rw [str_append, str_append, List.append_assoc]; exact good_grp (HGD.out hpl), size_pos_app _ _ (size_pos_app _ _ (by decide)), HT2.out⟩

set_option maxRecDepth 100000 in
set_option maxHeartbeats 8000000 in
theorem atom_pl11 (d : Nat) (hd : d ≤ 2) (hE : EOK d) (w0 : World) (b : Nat) (ao : Option Addr) (len cap : Nat) (at' gs : Nat) (w : World) (h : GR w0 b ao len cap true at' gs w) (at1 : Nat) (hat : at' ≤ at1) (hal : at1 ≤ len) (hgs : 9 ≤ gs) (hp : ∀ gs w, GR w0 b ao len cap true at' gs w → Calls Tryz.prog 55 #[.pointer (some ⟨b, 0, none⟩), .int .i64 16] w (PickP w0 b ao len cap true gs 11 at1 w)) :
    Calls Tryz.prog 78 #[.pointer (some ⟨b, 0, none⟩), .int .i64 ((d : Int) + 1)] w (AtomP (cR d + 7) w0 b ao len cap true at' w) := by
  have HP := Lib.hid (hp gs w h)
  have HG0 := Lib.hid h
  have HE := Lib.hid hE
  have w1' := IntWalk.i64_in ((d : Int) + 1 - 1) (by omega)
  have w2' := IntWalk.i64_in (d : Int) (by omega)
  have e1 : ((d : Int) + 1 == 0) = false := by simp; omega
  have e2 : ¬ (d : Int) + 1 = 0 := by omega
  have hcr : cR d ≤ 1600 := by have := cA_3 d (by omega); unfold cR; omega
  clear h hp hE hd
  go_enter Tryz.func78, Tryz.ntmps78
  go_wp2_with fail
  refine HP.out.mono ?_
  rintro e w1 ⟨rfl, hg, ht⟩
  have HG := Lib.hid hg
  have HT := Lib.hid ht
  have g2 := hg.c2.1
  have f2 := hg.c2.2
  have g3 := hg.c3
  clear hg ht
  have q9 : decide ((gs : Int) < 9) = false := decide_eq_false (by omega)
  have p9 : decide (gs < 9) = false := decide_eq_false (by omega)
  go_wp2_with fail
  refine (HE.out _ _ _ _ _ _ _ _ _ HG.out).mono ?_
  rintro e w2 ⟨x, at2, gs2, rfl, ha, hxs, hg, hgood, ht⟩
  have hs1 : 100000 * at2 ≤ 1759218604441600000 := by have h1 := hg.le; have h2 := hg.li.le; omega
  have hx1 : x.size ≤ 2000000000000000000 := by omega
  have hx2 : 3 + x.size ≤ 9223372036854775807 := by omega
  have hx3 : 3 + x.size + 1 ≤ 9223372036854775807 := by omega
  have hx4 : 1 + x.size ≤ 9223372036854775807 := by omega
  have hx5 : 1 + x.size + 1 ≤ 9223372036854775807 := by omega
  have HGD := Lib.hid hgood
  have HG2 := Lib.hid hg
  have HT2 := Lib.hid (HT.out.then ht)
  clear hg ht hgood
  go_wp2_with fail
  go_ret2
  exact ⟨⟨#[40, 63, 58]⟩ ++ x ++ ⟨#[41]⟩, true, at2, gs2, rfl, by omega, by rw [size_app3]; show 3 + x.size + 1 + _ ≤ _; omega, HG2.out, fun _ => by rw [str_append, str_append, List.append_assoc]; exact good_plain (HGD.out trivial), size_pos_app _ _ (size_pos_app _ _ (by decide)), HT2.out⟩

set_option maxRecDepth 100000 in
set_option maxHeartbeats 8000000 in
theorem atom_no11 (d : Nat) (hd : d ≤ 2) (hE : EOK d) (w0 : World) (b : Nat) (ao : Option Addr) (len cap : Nat) (at' gs : Nat) (w : World) (h : GR w0 b ao len cap false at' gs w) (at1 : Nat) (hat : at' ≤ at1) (hal : at1 ≤ len) (hgs : 9 ≤ gs) (hp : ∀ gs w, GR w0 b ao len cap false at' gs w → Calls Tryz.prog 55 #[.pointer (some ⟨b, 0, none⟩), .int .i64 16] w (PickP w0 b ao len cap false gs 11 at1 w)) :
    Calls Tryz.prog 78 #[.pointer (some ⟨b, 0, none⟩), .int .i64 ((d : Int) + 1)] w (AtomP (cR d + 7) w0 b ao len cap false at' w) := by
  have HP := Lib.hid (hp gs w h)
  have HG0 := Lib.hid h
  have HE := Lib.hid hE
  have w1' := IntWalk.i64_in ((d : Int) + 1 - 1) (by omega)
  have w2' := IntWalk.i64_in (d : Int) (by omega)
  have e1 : ((d : Int) + 1 == 0) = false := by simp; omega
  have e2 : ¬ (d : Int) + 1 = 0 := by omega
  have hcr : cR d ≤ 1600 := by have := cA_3 d (by omega); unfold cR; omega
  clear h hp hE hd
  go_enter Tryz.func78, Tryz.ntmps78
  go_wp2_with fail
  refine HP.out.mono ?_
  rintro e w1 ⟨rfl, hg, ht⟩
  have HG := Lib.hid hg
  have HT := Lib.hid ht
  have g2 := hg.c2.1
  have f2 := hg.c2.2
  have g3 := hg.c3
  clear hg ht
  have q9 : decide ((gs : Int) < 9) = false := decide_eq_false (by omega)
  have p9 : decide (gs < 9) = false := decide_eq_false (by omega)
  obtain ⟨k3, at2, hk3, ha2, hl2, -, h3⟩ := pick_det w0 b ao len cap false at1 3 HG0.out.li hal (by decide) (by decide)
  have H3 := Lib.hid h3
  have hk' : k3 = 0 ∨ k3 = 1 ∨ k3 = 2 := by omega
  clear h3 hk3
  rcases hk' with rfl | rfl | rfl
  · have HNE : Hid (w1.heap.size ≠ b) := Lib.hid (grow_new HG.out.c0)
    have hc : (w1.alloc (.cells #[.string ⟨#[40, 63, 61]⟩, .string ⟨#[40, 63, 33]⟩, .string ⟨#[40, 63, 62]⟩] 9)).cell? ⟨w1.heap.size, 0, none⟩ = some (.string ⟨#[40, 63, 61]⟩) := (Holds.made w1 _ _ 0 _ rfl).1
    have HC := Lib.hid hc
    have HGA : Hid (GR w0 b ao len cap false at1 gs (w1.alloc (.cells #[.string ⟨#[40, 63, 61]⟩, .string ⟨#[40, 63, 33]⟩, .string ⟨#[40, 63, 62]⟩] 9)).drew) := Lib.hid (HG.out.keep ((Touch.refl _ _).alloc _).drew)
    have HTA : Hid (Touch (fun i => i = b) w (w1.alloc (.cells #[.string ⟨#[40, 63, 61]⟩, .string ⟨#[40, 63, 33]⟩, .string ⟨#[40, 63, 62]⟩] 9)).drew) := Lib.hid (HT.out.alloc _).drew
    have HGB : Hid (GR w0 b ao len cap false at1 gs w1.drew) := Lib.hid (HG.out.keep (Touch.refl _ _).drew)
    have HTB : Hid (Touch (fun i => i = b) w w1.drew) := Lib.hid HT.out.drew
    clear hc
    go_wp2_with fail
    go_region_with
      (first
        | (go_at_call 55; refine (H3.out gs _ HGA.out).mono ?_; rintro e w2 ⟨rfl, hg, ht⟩; have hc2 := ht.has HC.out HNE.out; have HC2 := Lib.hid hc2; have HG2 := Lib.hid hg; have HT2 := Lib.hid (HTA.out.then ht); have HN2 := HNE; clear hg ht)
        | (go_at_call 55; refine (H3.out gs _ HGB.out).mono ?_; rintro e w2 ⟨rfl, hg, ht⟩; have hc2 : (w2.alloc (.cells #[.string ⟨#[40, 63, 61]⟩, .string ⟨#[40, 63, 33]⟩, .string ⟨#[40, 63, 62]⟩] 9)).cell? ⟨w2.heap.size, 0, none⟩ = some (.string ⟨#[40, 63, 61]⟩) := (Holds.made w2 _ _ 0 _ rfl).1; have HC2 := Lib.hid hc2; have HG2 := Lib.hid hg; have HT2 := Lib.hid (HTB.out.then ht); have HN2 : Hid (w2.heap.size ≠ b) := Lib.hid (grow_new hg.c0); clear hg ht)
        | (go_at_call 42; refine (HE.out _ _ _ _ _ _ _ _ _ HG2.out).mono ?_; rintro e w3 ⟨x, at3, gs3, rfl, ha, hxs, hg, -, ht⟩; have hs1 : 100000 * at3 ≤ 1759218604441600000 := (by have h1 := hg.le; have h2 := hg.li.le; omega); have hx1 : x.size ≤ 2000000000000000000 := (by omega); have hx2 : 3 + x.size ≤ 9223372036854775807 := (by omega); have hx3 : 3 + x.size + 1 ≤ 9223372036854775807 := (by omega); (try (have hc3 := ht.has HC2.out HN2.out)); have HG3 := Lib.hid hg; have HT3 := Lib.hid (HT2.out.then ht); clear hg ht)
        | (go_at_call 42; refine (HE.out _ _ _ _ _ _ _ _ _ (HG2.out.keep ((Touch.refl (fun _ => False) w2).alloc (.cells #[.string ⟨#[40, 63, 61]⟩, .string ⟨#[40, 63, 33]⟩, .string ⟨#[40, 63, 62]⟩] 9)))).mono ?_; rintro e w3 ⟨x, at3, gs3, rfl, ha, hxs, hg, -, ht⟩; have hs1 : 100000 * at3 ≤ 1759218604441600000 := (by have h1 := hg.le; have h2 := hg.li.le; omega); have hx1 : x.size ≤ 2000000000000000000 := (by omega); have hx2 : 3 + x.size ≤ 9223372036854775807 := (by omega); have hx3 : 3 + x.size + 1 ≤ 9223372036854775807 := (by omega); have hc3 := ht.has HC2.out HN2.out; have HG3 := Lib.hid hg; have HT3 := Lib.hid ((HT2.out.alloc (.cells #[.string ⟨#[40, 63, 61]⟩, .string ⟨#[40, 63, 33]⟩, .string ⟨#[40, 63, 62]⟩] 9)).then ht); clear hg ht))
    all_goals
      go_wp2_with fail
      go_ret2
      first
        | exact ⟨⟨#[40, 63, 61]⟩ ++ x ++ ⟨#[41]⟩, true, at3, gs3, rfl, by omega, by rw [size_app3]; show 3 + x.size + 1 + _ ≤ _; omega, HG3.out, (fun hpl => by cases hpl), size_pos_app _ _ (size_pos_app _ _ (by decide)), HT3.out⟩
        | exact ⟨⟨#[40, 63, 61]⟩ ++ x ++ ⟨#[41]⟩, true, at3, gs3, rfl, by omega, by rw [size_app3]; show 3 + x.size + 1 + _ ≤ _; omega, HG3.out.keep ((Touch.refl _ _).alloc _), (fun hpl => by cases hpl), size_pos_app _ _ (size_pos_app _ _ (by decide)), HT3.out.alloc _⟩
  · have HNE : Hid (w1.heap.size ≠ b) := Lib.hid (grow_new HG.out.c0)
    have hc : (w1.alloc (.cells #[.string ⟨#[40, 63, 61]⟩, .string ⟨#[40, 63, 33]⟩, .string ⟨#[40, 63, 62]⟩] 9)).cell? ⟨w1.heap.size, 1, none⟩ = some (.string ⟨#[40, 63, 33]⟩) := (Holds.made w1 _ _ 1 _ rfl).1
    have HC := Lib.hid hc
    have HGA : Hid (GR w0 b ao len cap false at1 gs (w1.alloc (.cells #[.string ⟨#[40, 63, 61]⟩, .string ⟨#[40, 63, 33]⟩, .string ⟨#[40, 63, 62]⟩] 9)).drew) := Lib.hid (HG.out.keep ((Touch.refl _ _).alloc _).drew)
    have HTA : Hid (Touch (fun i => i = b) w (w1.alloc (.cells #[.string ⟨#[40, 63, 61]⟩, .string ⟨#[40, 63, 33]⟩, .string ⟨#[40, 63, 62]⟩] 9)).drew) := Lib.hid (HT.out.alloc _).drew
    have HGB : Hid (GR w0 b ao len cap false at1 gs w1.drew) := Lib.hid (HG.out.keep (Touch.refl _ _).drew)
    have HTB : Hid (Touch (fun i => i = b) w w1.drew) := Lib.hid HT.out.drew
    clear hc
    go_wp2_with fail
    go_region_with
      (first
        | (go_at_call 55; refine (H3.out gs _ HGA.out).mono ?_; rintro e w2 ⟨rfl, hg, ht⟩; have hc2 := ht.has HC.out HNE.out; have HC2 := Lib.hid hc2; have HG2 := Lib.hid hg; have HT2 := Lib.hid (HTA.out.then ht); have HN2 := HNE; clear hg ht)
        | (go_at_call 55; refine (H3.out gs _ HGB.out).mono ?_; rintro e w2 ⟨rfl, hg, ht⟩; have hc2 : (w2.alloc (.cells #[.string ⟨#[40, 63, 61]⟩, .string ⟨#[40, 63, 33]⟩, .string ⟨#[40, 63, 62]⟩] 9)).cell? ⟨w2.heap.size, 1, none⟩ = some (.string ⟨#[40, 63, 33]⟩) := (Holds.made w2 _ _ 1 _ rfl).1; have HC2 := Lib.hid hc2; have HG2 := Lib.hid hg; have HT2 := Lib.hid (HTB.out.then ht); have HN2 : Hid (w2.heap.size ≠ b) := Lib.hid (grow_new hg.c0); clear hg ht)
        | (go_at_call 42; refine (HE.out _ _ _ _ _ _ _ _ _ HG2.out).mono ?_; rintro e w3 ⟨x, at3, gs3, rfl, ha, hxs, hg, -, ht⟩; have hs1 : 100000 * at3 ≤ 1759218604441600000 := (by have h1 := hg.le; have h2 := hg.li.le; omega); have hx1 : x.size ≤ 2000000000000000000 := (by omega); have hx2 : 3 + x.size ≤ 9223372036854775807 := (by omega); have hx3 : 3 + x.size + 1 ≤ 9223372036854775807 := (by omega); (try (have hc3 := ht.has HC2.out HN2.out)); have HG3 := Lib.hid hg; have HT3 := Lib.hid (HT2.out.then ht); clear hg ht)
        | (go_at_call 42; refine (HE.out _ _ _ _ _ _ _ _ _ (HG2.out.keep ((Touch.refl (fun _ => False) w2).alloc (.cells #[.string ⟨#[40, 63, 61]⟩, .string ⟨#[40, 63, 33]⟩, .string ⟨#[40, 63, 62]⟩] 9)))).mono ?_; rintro e w3 ⟨x, at3, gs3, rfl, ha, hxs, hg, -, ht⟩; have hs1 : 100000 * at3 ≤ 1759218604441600000 := (by have h1 := hg.le; have h2 := hg.li.le; omega); have hx1 : x.size ≤ 2000000000000000000 := (by omega); have hx2 : 3 + x.size ≤ 9223372036854775807 := (by omega); have hx3 : 3 + x.size + 1 ≤ 9223372036854775807 := (by omega); have hc3 := ht.has HC2.out HN2.out; have HG3 := Lib.hid hg; have HT3 := Lib.hid ((HT2.out.alloc (.cells #[.string ⟨#[40, 63, 61]⟩, .string ⟨#[40, 63, 33]⟩, .string ⟨#[40, 63, 62]⟩] 9)).then ht); clear hg ht))
    all_goals
      go_wp2_with fail
      go_ret2
      first
        | exact ⟨⟨#[40, 63, 33]⟩ ++ x ++ ⟨#[41]⟩, true, at3, gs3, rfl, by omega, by rw [size_app3]; show 3 + x.size + 1 + _ ≤ _; omega, HG3.out, (fun hpl => by cases hpl), size_pos_app _ _ (size_pos_app _ _ (by decide)), HT3.out⟩
        | exact ⟨⟨#[40, 63, 33]⟩ ++ x ++ ⟨#[41]⟩, true, at3, gs3, rfl, by omega, by rw [size_app3]; show 3 + x.size + 1 + _ ≤ _; omega, HG3.out.keep ((Touch.refl _ _).alloc _), (fun hpl => by cases hpl), size_pos_app _ _ (size_pos_app _ _ (by decide)), HT3.out.alloc _⟩
  · have HNE : Hid (w1.heap.size ≠ b) := Lib.hid (grow_new HG.out.c0)
    have hc : (w1.alloc (.cells #[.string ⟨#[40, 63, 61]⟩, .string ⟨#[40, 63, 33]⟩, .string ⟨#[40, 63, 62]⟩] 9)).cell? ⟨w1.heap.size, 2, none⟩ = some (.string ⟨#[40, 63, 62]⟩) := (Holds.made w1 _ _ 2 _ rfl).1
    have HC := Lib.hid hc
    have HGA : Hid (GR w0 b ao len cap false at1 gs (w1.alloc (.cells #[.string ⟨#[40, 63, 61]⟩, .string ⟨#[40, 63, 33]⟩, .string ⟨#[40, 63, 62]⟩] 9)).drew) := Lib.hid (HG.out.keep ((Touch.refl _ _).alloc _).drew)
    have HTA : Hid (Touch (fun i => i = b) w (w1.alloc (.cells #[.string ⟨#[40, 63, 61]⟩, .string ⟨#[40, 63, 33]⟩, .string ⟨#[40, 63, 62]⟩] 9)).drew) := Lib.hid (HT.out.alloc _).drew
    have HGB : Hid (GR w0 b ao len cap false at1 gs w1.drew) := Lib.hid (HG.out.keep (Touch.refl _ _).drew)
    have HTB : Hid (Touch (fun i => i = b) w w1.drew) := Lib.hid HT.out.drew
    clear hc
    go_wp2_with fail
    go_region_with
      (first
        | (go_at_call 55; refine (H3.out gs _ HGA.out).mono ?_; rintro e w2 ⟨rfl, hg, ht⟩; have hc2 := ht.has HC.out HNE.out; have HC2 := Lib.hid hc2; have HG2 := Lib.hid hg; have HT2 := Lib.hid (HTA.out.then ht); have HN2 := HNE; clear hg ht)
        | (go_at_call 55; refine (H3.out gs _ HGB.out).mono ?_; rintro e w2 ⟨rfl, hg, ht⟩; have hc2 : (w2.alloc (.cells #[.string ⟨#[40, 63, 61]⟩, .string ⟨#[40, 63, 33]⟩, .string ⟨#[40, 63, 62]⟩] 9)).cell? ⟨w2.heap.size, 2, none⟩ = some (.string ⟨#[40, 63, 62]⟩) := (Holds.made w2 _ _ 2 _ rfl).1; have HC2 := Lib.hid hc2; have HG2 := Lib.hid hg; have HT2 := Lib.hid (HTB.out.then ht); have HN2 : Hid (w2.heap.size ≠ b) := Lib.hid (grow_new hg.c0); clear hg ht)
        | (go_at_call 42; refine (HE.out _ _ _ _ _ _ _ _ _ HG2.out).mono ?_; rintro e w3 ⟨x, at3, gs3, rfl, ha, hxs, hg, -, ht⟩; have hs1 : 100000 * at3 ≤ 1759218604441600000 := (by have h1 := hg.le; have h2 := hg.li.le; omega); have hx1 : x.size ≤ 2000000000000000000 := (by omega); have hx2 : 3 + x.size ≤ 9223372036854775807 := (by omega); have hx3 : 3 + x.size + 1 ≤ 9223372036854775807 := (by omega); (try (have hc3 := ht.has HC2.out HN2.out)); have HG3 := Lib.hid hg; have HT3 := Lib.hid (HT2.out.then ht); clear hg ht)
        | (go_at_call 42; refine (HE.out _ _ _ _ _ _ _ _ _ (HG2.out.keep ((Touch.refl (fun _ => False) w2).alloc (.cells #[.string ⟨#[40, 63, 61]⟩, .string ⟨#[40, 63, 33]⟩, .string ⟨#[40, 63, 62]⟩] 9)))).mono ?_; rintro e w3 ⟨x, at3, gs3, rfl, ha, hxs, hg, -, ht⟩; have hs1 : 100000 * at3 ≤ 1759218604441600000 := (by have h1 := hg.le; have h2 := hg.li.le; omega); have hx1 : x.size ≤ 2000000000000000000 := (by omega); have hx2 : 3 + x.size ≤ 9223372036854775807 := (by omega); have hx3 : 3 + x.size + 1 ≤ 9223372036854775807 := (by omega); have hc3 := ht.has HC2.out HN2.out; have HG3 := Lib.hid hg; have HT3 := Lib.hid ((HT2.out.alloc (.cells #[.string ⟨#[40, 63, 61]⟩, .string ⟨#[40, 63, 33]⟩, .string ⟨#[40, 63, 62]⟩] 9)).then ht); clear hg ht))
    all_goals
      go_wp2_with fail
      go_ret2
      first
        | exact ⟨⟨#[40, 63, 62]⟩ ++ x ++ ⟨#[41]⟩, true, at3, gs3, rfl, by omega, by rw [size_app3]; show 3 + x.size + 1 + _ ≤ _; omega, HG3.out, (fun hpl => by cases hpl), size_pos_app _ _ (size_pos_app _ _ (by decide)), HT3.out⟩
        | exact ⟨⟨#[40, 63, 62]⟩ ++ x ++ ⟨#[41]⟩, true, at3, gs3, rfl, by omega, by rw [size_app3]; show 3 + x.size + 1 + _ ≤ _; omega, HG3.out.keep ((Touch.refl _ _).alloc _), (fun hpl => by cases hpl), size_pos_app _ _ (size_pos_app _ _ (by decide)), HT3.out.alloc _⟩

set_option maxRecDepth 100000 in
set_option maxHeartbeats 8000000 in
theorem atom_grp12 (d : Nat) (hd : d ≤ 2) (hE : EOK d) (w0 : World) (b : Nat) (ao : Option Addr) (len cap : Nat) (pl : Bool) (at' gs : Nat) (w : World) (h : GR w0 b ao len cap pl at' gs w) (at1 : Nat) (hat : at' ≤ at1) (hal : at1 ≤ len) (hgs : gs < 9) (hp : ∀ gs w, GR w0 b ao len cap pl at' gs w → Calls Tryz.prog 55 #[.pointer (some ⟨b, 0, none⟩), .int .i64 16] w (PickP w0 b ao len cap pl gs 12 at1 w)) :
    Calls Tryz.prog 78 #[.pointer (some ⟨b, 0, none⟩), .int .i64 ((d : Int) + 1)] w (AtomP (cR d + 7) w0 b ao len cap pl at' w) := by
  have HP := Lib.hid (hp gs w h)
  have HG0 := Lib.hid h
  have HE := Lib.hid hE
  have w1' := IntWalk.i64_in ((d : Int) + 1 - 1) (by omega)
  have w2' := IntWalk.i64_in (d : Int) (by omega)
  have e1 : ((d : Int) + 1 == 0) = false := by simp; omega
  have e2 : ¬ (d : Int) + 1 = 0 := by omega
  have hcr : cR d ≤ 1600 := by have := cA_3 d (by omega); unfold cR; omega
  clear h hp hE hd
  go_enter Tryz.func78, Tryz.ntmps78
  go_wp2_with fail
  refine HP.out.mono ?_
  rintro e w1 ⟨rfl, hg, ht⟩
  have HG := Lib.hid hg
  have HT := Lib.hid ht
  have g2 := hg.c2.1
  have f2 := hg.c2.2
  have g3 := hg.c3
  clear hg ht
  have HGG := Lib.hid (HG.out.group hgs)
  have HTG : Hid (Touch (fun i => i = b) w (w1.setCell ⟨b, 2, none⟩ (.int .i64 ((gs + 1 : Nat) : Int)))) := Lib.hid (HT.out.setCell (.inl rfl) _)
  have wg := IntWalk.i64_in ((gs : Int) + 1) (by omega)
  have q9 : decide ((gs : Int) < 9) = true := decide_eq_true (by omega)
  have p9 : decide (gs < 9) = true := decide_eq_true hgs
  go_wp2_with fail
  refine (HE.out _ _ _ _ _ _ _ _ _ HGG.out).mono ?_
  rintro e w2 ⟨x, at2, gs2, rfl, ha, hxs, hg, hgood, ht⟩
  have hs1 : 100000 * at2 ≤ 1759218604441600000 := by have h1 := hg.le; have h2 := hg.li.le; omega
  have hx1 : x.size ≤ 2000000000000000000 := by omega
  have hx2 : 3 + x.size ≤ 9223372036854775807 := by omega
  have hx3 : 3 + x.size + 1 ≤ 9223372036854775807 := by omega
  have hx4 : 1 + x.size ≤ 9223372036854775807 := by omega
  have hx5 : 1 + x.size + 1 ≤ 9223372036854775807 := by omega
  have HGD := Lib.hid hgood
  have HG2 := Lib.hid hg
  have HT2 := Lib.hid (HTG.out.then ht)
  clear hg ht hgood
  go_wp2_with fail
  go_ret2
  exact ⟨⟨#[40]⟩ ++ x ++ ⟨#[41]⟩, true, at2, gs2, rfl, by omega, by rw [size_app3]; show 1 + x.size + 1 + _ ≤ _; omega, HG2.out, fun hpl => by rw [str_append, str_append, List.append_assoc]; exact good_grp (HGD.out hpl), size_pos_app _ _ (size_pos_app _ _ (by decide)), HT2.out⟩

set_option maxRecDepth 100000 in
set_option maxHeartbeats 8000000 in
theorem atom_pl12 (d : Nat) (hd : d ≤ 2) (hE : EOK d) (w0 : World) (b : Nat) (ao : Option Addr) (len cap : Nat) (at' gs : Nat) (w : World) (h : GR w0 b ao len cap true at' gs w) (at1 : Nat) (hat : at' ≤ at1) (hal : at1 ≤ len) (hgs : 9 ≤ gs) (hp : ∀ gs w, GR w0 b ao len cap true at' gs w → Calls Tryz.prog 55 #[.pointer (some ⟨b, 0, none⟩), .int .i64 16] w (PickP w0 b ao len cap true gs 12 at1 w)) :
    Calls Tryz.prog 78 #[.pointer (some ⟨b, 0, none⟩), .int .i64 ((d : Int) + 1)] w (AtomP (cR d + 7) w0 b ao len cap true at' w) := by
  have HP := Lib.hid (hp gs w h)
  have HG0 := Lib.hid h
  have HE := Lib.hid hE
  have w1' := IntWalk.i64_in ((d : Int) + 1 - 1) (by omega)
  have w2' := IntWalk.i64_in (d : Int) (by omega)
  have e1 : ((d : Int) + 1 == 0) = false := by simp; omega
  have e2 : ¬ (d : Int) + 1 = 0 := by omega
  have hcr : cR d ≤ 1600 := by have := cA_3 d (by omega); unfold cR; omega
  clear h hp hE hd
  go_enter Tryz.func78, Tryz.ntmps78
  go_wp2_with fail
  refine HP.out.mono ?_
  rintro e w1 ⟨rfl, hg, ht⟩
  have HG := Lib.hid hg
  have HT := Lib.hid ht
  have g2 := hg.c2.1
  have f2 := hg.c2.2
  have g3 := hg.c3
  clear hg ht
  have q9 : decide ((gs : Int) < 9) = false := decide_eq_false (by omega)
  have p9 : decide (gs < 9) = false := decide_eq_false (by omega)
  go_wp2_with fail
  refine (HE.out _ _ _ _ _ _ _ _ _ HG.out).mono ?_
  rintro e w2 ⟨x, at2, gs2, rfl, ha, hxs, hg, hgood, ht⟩
  have hs1 : 100000 * at2 ≤ 1759218604441600000 := by have h1 := hg.le; have h2 := hg.li.le; omega
  have hx1 : x.size ≤ 2000000000000000000 := by omega
  have hx2 : 3 + x.size ≤ 9223372036854775807 := by omega
  have hx3 : 3 + x.size + 1 ≤ 9223372036854775807 := by omega
  have hx4 : 1 + x.size ≤ 9223372036854775807 := by omega
  have hx5 : 1 + x.size + 1 ≤ 9223372036854775807 := by omega
  have HGD := Lib.hid hgood
  have HG2 := Lib.hid hg
  have HT2 := Lib.hid (HT.out.then ht)
  clear hg ht hgood
  go_wp2_with fail
  go_ret2
  exact ⟨⟨#[40, 63, 58]⟩ ++ x ++ ⟨#[41]⟩, true, at2, gs2, rfl, by omega, by rw [size_app3]; show 3 + x.size + 1 + _ ≤ _; omega, HG2.out, fun _ => by rw [str_append, str_append, List.append_assoc]; exact good_plain (HGD.out trivial), size_pos_app _ _ (size_pos_app _ _ (by decide)), HT2.out⟩

set_option maxRecDepth 100000 in
set_option maxHeartbeats 8000000 in
theorem atom_no12 (d : Nat) (hd : d ≤ 2) (hE : EOK d) (w0 : World) (b : Nat) (ao : Option Addr) (len cap : Nat) (at' gs : Nat) (w : World) (h : GR w0 b ao len cap false at' gs w) (at1 : Nat) (hat : at' ≤ at1) (hal : at1 ≤ len) (hgs : 9 ≤ gs) (hp : ∀ gs w, GR w0 b ao len cap false at' gs w → Calls Tryz.prog 55 #[.pointer (some ⟨b, 0, none⟩), .int .i64 16] w (PickP w0 b ao len cap false gs 12 at1 w)) :
    Calls Tryz.prog 78 #[.pointer (some ⟨b, 0, none⟩), .int .i64 ((d : Int) + 1)] w (AtomP (cR d + 7) w0 b ao len cap false at' w) := by
  have HP := Lib.hid (hp gs w h)
  have HG0 := Lib.hid h
  have HE := Lib.hid hE
  have w1' := IntWalk.i64_in ((d : Int) + 1 - 1) (by omega)
  have w2' := IntWalk.i64_in (d : Int) (by omega)
  have e1 : ((d : Int) + 1 == 0) = false := by simp; omega
  have e2 : ¬ (d : Int) + 1 = 0 := by omega
  have hcr : cR d ≤ 1600 := by have := cA_3 d (by omega); unfold cR; omega
  clear h hp hE hd
  go_enter Tryz.func78, Tryz.ntmps78
  go_wp2_with fail
  refine HP.out.mono ?_
  rintro e w1 ⟨rfl, hg, ht⟩
  have HG := Lib.hid hg
  have HT := Lib.hid ht
  have g2 := hg.c2.1
  have f2 := hg.c2.2
  have g3 := hg.c3
  clear hg ht
  have q9 : decide ((gs : Int) < 9) = false := decide_eq_false (by omega)
  have p9 : decide (gs < 9) = false := decide_eq_false (by omega)
  obtain ⟨k3, at2, hk3, ha2, hl2, -, h3⟩ := pick_det w0 b ao len cap false at1 3 HG0.out.li hal (by decide) (by decide)
  have H3 := Lib.hid h3
  have hk' : k3 = 0 ∨ k3 = 1 ∨ k3 = 2 := by omega
  clear h3 hk3
  rcases hk' with rfl | rfl | rfl
  · have HNE : Hid (w1.heap.size ≠ b) := Lib.hid (grow_new HG.out.c0)
    have hc : (w1.alloc (.cells #[.string ⟨#[40, 63, 61]⟩, .string ⟨#[40, 63, 33]⟩, .string ⟨#[40, 63, 62]⟩] 9)).cell? ⟨w1.heap.size, 0, none⟩ = some (.string ⟨#[40, 63, 61]⟩) := (Holds.made w1 _ _ 0 _ rfl).1
    have HC := Lib.hid hc
    have HGA : Hid (GR w0 b ao len cap false at1 gs (w1.alloc (.cells #[.string ⟨#[40, 63, 61]⟩, .string ⟨#[40, 63, 33]⟩, .string ⟨#[40, 63, 62]⟩] 9)).drew) := Lib.hid (HG.out.keep ((Touch.refl _ _).alloc _).drew)
    have HTA : Hid (Touch (fun i => i = b) w (w1.alloc (.cells #[.string ⟨#[40, 63, 61]⟩, .string ⟨#[40, 63, 33]⟩, .string ⟨#[40, 63, 62]⟩] 9)).drew) := Lib.hid (HT.out.alloc _).drew
    have HGB : Hid (GR w0 b ao len cap false at1 gs w1.drew) := Lib.hid (HG.out.keep (Touch.refl _ _).drew)
    have HTB : Hid (Touch (fun i => i = b) w w1.drew) := Lib.hid HT.out.drew
    clear hc
    go_wp2_with fail
    go_region_with
      (first
        | (go_at_call 55; refine (H3.out gs _ HGA.out).mono ?_; rintro e w2 ⟨rfl, hg, ht⟩; have hc2 := ht.has HC.out HNE.out; have HC2 := Lib.hid hc2; have HG2 := Lib.hid hg; have HT2 := Lib.hid (HTA.out.then ht); have HN2 := HNE; clear hg ht)
        | (go_at_call 55; refine (H3.out gs _ HGB.out).mono ?_; rintro e w2 ⟨rfl, hg, ht⟩; have hc2 : (w2.alloc (.cells #[.string ⟨#[40, 63, 61]⟩, .string ⟨#[40, 63, 33]⟩, .string ⟨#[40, 63, 62]⟩] 9)).cell? ⟨w2.heap.size, 0, none⟩ = some (.string ⟨#[40, 63, 61]⟩) := (Holds.made w2 _ _ 0 _ rfl).1; have HC2 := Lib.hid hc2; have HG2 := Lib.hid hg; have HT2 := Lib.hid (HTB.out.then ht); have HN2 : Hid (w2.heap.size ≠ b) := Lib.hid (grow_new hg.c0); clear hg ht)
        | (go_at_call 42; refine (HE.out _ _ _ _ _ _ _ _ _ HG2.out).mono ?_; rintro e w3 ⟨x, at3, gs3, rfl, ha, hxs, hg, -, ht⟩; have hs1 : 100000 * at3 ≤ 1759218604441600000 := (by have h1 := hg.le; have h2 := hg.li.le; omega); have hx1 : x.size ≤ 2000000000000000000 := (by omega); have hx2 : 3 + x.size ≤ 9223372036854775807 := (by omega); have hx3 : 3 + x.size + 1 ≤ 9223372036854775807 := (by omega); (try (have hc3 := ht.has HC2.out HN2.out)); have HG3 := Lib.hid hg; have HT3 := Lib.hid (HT2.out.then ht); clear hg ht)
        | (go_at_call 42; refine (HE.out _ _ _ _ _ _ _ _ _ (HG2.out.keep ((Touch.refl (fun _ => False) w2).alloc (.cells #[.string ⟨#[40, 63, 61]⟩, .string ⟨#[40, 63, 33]⟩, .string ⟨#[40, 63, 62]⟩] 9)))).mono ?_; rintro e w3 ⟨x, at3, gs3, rfl, ha, hxs, hg, -, ht⟩; have hs1 : 100000 * at3 ≤ 1759218604441600000 := (by have h1 := hg.le; have h2 := hg.li.le; omega); have hx1 : x.size ≤ 2000000000000000000 := (by omega); have hx2 : 3 + x.size ≤ 9223372036854775807 := (by omega); have hx3 : 3 + x.size + 1 ≤ 9223372036854775807 := (by omega); have hc3 := ht.has HC2.out HN2.out; have HG3 := Lib.hid hg; have HT3 := Lib.hid ((HT2.out.alloc (.cells #[.string ⟨#[40, 63, 61]⟩, .string ⟨#[40, 63, 33]⟩, .string ⟨#[40, 63, 62]⟩] 9)).then ht); clear hg ht))
    all_goals
      go_wp2_with fail
      go_ret2
      first
        | exact ⟨⟨#[40, 63, 61]⟩ ++ x ++ ⟨#[41]⟩, true, at3, gs3, rfl, by omega, by rw [size_app3]; show 3 + x.size + 1 + _ ≤ _; omega, HG3.out, (fun hpl => by cases hpl), size_pos_app _ _ (size_pos_app _ _ (by decide)), HT3.out⟩
        | exact ⟨⟨#[40, 63, 61]⟩ ++ x ++ ⟨#[41]⟩, true, at3, gs3, rfl, by omega, by rw [size_app3]; show 3 + x.size + 1 + _ ≤ _; omega, HG3.out.keep ((Touch.refl _ _).alloc _), (fun hpl => by cases hpl), size_pos_app _ _ (size_pos_app _ _ (by decide)), HT3.out.alloc _⟩
  · have HNE : Hid (w1.heap.size ≠ b) := Lib.hid (grow_new HG.out.c0)
    have hc : (w1.alloc (.cells #[.string ⟨#[40, 63, 61]⟩, .string ⟨#[40, 63, 33]⟩, .string ⟨#[40, 63, 62]⟩] 9)).cell? ⟨w1.heap.size, 1, none⟩ = some (.string ⟨#[40, 63, 33]⟩) := (Holds.made w1 _ _ 1 _ rfl).1
    have HC := Lib.hid hc
    have HGA : Hid (GR w0 b ao len cap false at1 gs (w1.alloc (.cells #[.string ⟨#[40, 63, 61]⟩, .string ⟨#[40, 63, 33]⟩, .string ⟨#[40, 63, 62]⟩] 9)).drew) := Lib.hid (HG.out.keep ((Touch.refl _ _).alloc _).drew)
    have HTA : Hid (Touch (fun i => i = b) w (w1.alloc (.cells #[.string ⟨#[40, 63, 61]⟩, .string ⟨#[40, 63, 33]⟩, .string ⟨#[40, 63, 62]⟩] 9)).drew) := Lib.hid (HT.out.alloc _).drew
    have HGB : Hid (GR w0 b ao len cap false at1 gs w1.drew) := Lib.hid (HG.out.keep (Touch.refl _ _).drew)
    have HTB : Hid (Touch (fun i => i = b) w w1.drew) := Lib.hid HT.out.drew
    clear hc
    go_wp2_with fail
    go_region_with
      (first
        | (go_at_call 55; refine (H3.out gs _ HGA.out).mono ?_; rintro e w2 ⟨rfl, hg, ht⟩; have hc2 := ht.has HC.out HNE.out; have HC2 := Lib.hid hc2; have HG2 := Lib.hid hg; have HT2 := Lib.hid (HTA.out.then ht); have HN2 := HNE; clear hg ht)
        | (go_at_call 55; refine (H3.out gs _ HGB.out).mono ?_; rintro e w2 ⟨rfl, hg, ht⟩; have hc2 : (w2.alloc (.cells #[.string ⟨#[40, 63, 61]⟩, .string ⟨#[40, 63, 33]⟩, .string ⟨#[40, 63, 62]⟩] 9)).cell? ⟨w2.heap.size, 1, none⟩ = some (.string ⟨#[40, 63, 33]⟩) := (Holds.made w2 _ _ 1 _ rfl).1; have HC2 := Lib.hid hc2; have HG2 := Lib.hid hg; have HT2 := Lib.hid (HTB.out.then ht); have HN2 : Hid (w2.heap.size ≠ b) := Lib.hid (grow_new hg.c0); clear hg ht)
        | (go_at_call 42; refine (HE.out _ _ _ _ _ _ _ _ _ HG2.out).mono ?_; rintro e w3 ⟨x, at3, gs3, rfl, ha, hxs, hg, -, ht⟩; have hs1 : 100000 * at3 ≤ 1759218604441600000 := (by have h1 := hg.le; have h2 := hg.li.le; omega); have hx1 : x.size ≤ 2000000000000000000 := (by omega); have hx2 : 3 + x.size ≤ 9223372036854775807 := (by omega); have hx3 : 3 + x.size + 1 ≤ 9223372036854775807 := (by omega); (try (have hc3 := ht.has HC2.out HN2.out)); have HG3 := Lib.hid hg; have HT3 := Lib.hid (HT2.out.then ht); clear hg ht)
        | (go_at_call 42; refine (HE.out _ _ _ _ _ _ _ _ _ (HG2.out.keep ((Touch.refl (fun _ => False) w2).alloc (.cells #[.string ⟨#[40, 63, 61]⟩, .string ⟨#[40, 63, 33]⟩, .string ⟨#[40, 63, 62]⟩] 9)))).mono ?_; rintro e w3 ⟨x, at3, gs3, rfl, ha, hxs, hg, -, ht⟩; have hs1 : 100000 * at3 ≤ 1759218604441600000 := (by have h1 := hg.le; have h2 := hg.li.le; omega); have hx1 : x.size ≤ 2000000000000000000 := (by omega); have hx2 : 3 + x.size ≤ 9223372036854775807 := (by omega); have hx3 : 3 + x.size + 1 ≤ 9223372036854775807 := (by omega); have hc3 := ht.has HC2.out HN2.out; have HG3 := Lib.hid hg; have HT3 := Lib.hid ((HT2.out.alloc (.cells #[.string ⟨#[40, 63, 61]⟩, .string ⟨#[40, 63, 33]⟩, .string ⟨#[40, 63, 62]⟩] 9)).then ht); clear hg ht))
    all_goals
      go_wp2_with fail
      go_ret2
      first
        | exact ⟨⟨#[40, 63, 33]⟩ ++ x ++ ⟨#[41]⟩, true, at3, gs3, rfl, by omega, by rw [size_app3]; show 3 + x.size + 1 + _ ≤ _; omega, HG3.out, (fun hpl => by cases hpl), size_pos_app _ _ (size_pos_app _ _ (by decide)), HT3.out⟩
        | exact ⟨⟨#[40, 63, 33]⟩ ++ x ++ ⟨#[41]⟩, true, at3, gs3, rfl, by omega, by rw [size_app3]; show 3 + x.size + 1 + _ ≤ _; omega, HG3.out.keep ((Touch.refl _ _).alloc _), (fun hpl => by cases hpl), size_pos_app _ _ (size_pos_app _ _ (by decide)), HT3.out.alloc _⟩
  · have HNE : Hid (w1.heap.size ≠ b) := Lib.hid (grow_new HG.out.c0)
    have hc : (w1.alloc (.cells #[.string ⟨#[40, 63, 61]⟩, .string ⟨#[40, 63, 33]⟩, .string ⟨#[40, 63, 62]⟩] 9)).cell? ⟨w1.heap.size, 2, none⟩ = some (.string ⟨#[40, 63, 62]⟩) := (Holds.made w1 _ _ 2 _ rfl).1
    have HC := Lib.hid hc
    have HGA : Hid (GR w0 b ao len cap false at1 gs (w1.alloc (.cells #[.string ⟨#[40, 63, 61]⟩, .string ⟨#[40, 63, 33]⟩, .string ⟨#[40, 63, 62]⟩] 9)).drew) := Lib.hid (HG.out.keep ((Touch.refl _ _).alloc _).drew)
    have HTA : Hid (Touch (fun i => i = b) w (w1.alloc (.cells #[.string ⟨#[40, 63, 61]⟩, .string ⟨#[40, 63, 33]⟩, .string ⟨#[40, 63, 62]⟩] 9)).drew) := Lib.hid (HT.out.alloc _).drew
    have HGB : Hid (GR w0 b ao len cap false at1 gs w1.drew) := Lib.hid (HG.out.keep (Touch.refl _ _).drew)
    have HTB : Hid (Touch (fun i => i = b) w w1.drew) := Lib.hid HT.out.drew
    clear hc
    go_wp2_with fail
    go_region_with
      (first
        | (go_at_call 55; refine (H3.out gs _ HGA.out).mono ?_; rintro e w2 ⟨rfl, hg, ht⟩; have hc2 := ht.has HC.out HNE.out; have HC2 := Lib.hid hc2; have HG2 := Lib.hid hg; have HT2 := Lib.hid (HTA.out.then ht); have HN2 := HNE; clear hg ht)
        | (go_at_call 55; refine (H3.out gs _ HGB.out).mono ?_; rintro e w2 ⟨rfl, hg, ht⟩; have hc2 : (w2.alloc (.cells #[.string ⟨#[40, 63, 61]⟩, .string ⟨#[40, 63, 33]⟩, .string ⟨#[40, 63, 62]⟩] 9)).cell? ⟨w2.heap.size, 2, none⟩ = some (.string ⟨#[40, 63, 62]⟩) := (Holds.made w2 _ _ 2 _ rfl).1; have HC2 := Lib.hid hc2; have HG2 := Lib.hid hg; have HT2 := Lib.hid (HTB.out.then ht); have HN2 : Hid (w2.heap.size ≠ b) := Lib.hid (grow_new hg.c0); clear hg ht)
        | (go_at_call 42; refine (HE.out _ _ _ _ _ _ _ _ _ HG2.out).mono ?_; rintro e w3 ⟨x, at3, gs3, rfl, ha, hxs, hg, -, ht⟩; have hs1 : 100000 * at3 ≤ 1759218604441600000 := (by have h1 := hg.le; have h2 := hg.li.le; omega); have hx1 : x.size ≤ 2000000000000000000 := (by omega); have hx2 : 3 + x.size ≤ 9223372036854775807 := (by omega); have hx3 : 3 + x.size + 1 ≤ 9223372036854775807 := (by omega); (try (have hc3 := ht.has HC2.out HN2.out)); have HG3 := Lib.hid hg; have HT3 := Lib.hid (HT2.out.then ht); clear hg ht)
        | (go_at_call 42; refine (HE.out _ _ _ _ _ _ _ _ _ (HG2.out.keep ((Touch.refl (fun _ => False) w2).alloc (.cells #[.string ⟨#[40, 63, 61]⟩, .string ⟨#[40, 63, 33]⟩, .string ⟨#[40, 63, 62]⟩] 9)))).mono ?_; rintro e w3 ⟨x, at3, gs3, rfl, ha, hxs, hg, -, ht⟩; have hs1 : 100000 * at3 ≤ 1759218604441600000 := (by have h1 := hg.le; have h2 := hg.li.le; omega); have hx1 : x.size ≤ 2000000000000000000 := (by omega); have hx2 : 3 + x.size ≤ 9223372036854775807 := (by omega); have hx3 : 3 + x.size + 1 ≤ 9223372036854775807 := (by omega); have hc3 := ht.has HC2.out HN2.out; have HG3 := Lib.hid hg; have HT3 := Lib.hid ((HT2.out.alloc (.cells #[.string ⟨#[40, 63, 61]⟩, .string ⟨#[40, 63, 33]⟩, .string ⟨#[40, 63, 62]⟩] 9)).then ht); clear hg ht))
    all_goals
      go_wp2_with fail
      go_ret2
      first
        | exact ⟨⟨#[40, 63, 62]⟩ ++ x ++ ⟨#[41]⟩, true, at3, gs3, rfl, by omega, by rw [size_app3]; show 3 + x.size + 1 + _ ≤ _; omega, HG3.out, (fun hpl => by cases hpl), size_pos_app _ _ (size_pos_app _ _ (by decide)), HT3.out⟩
        | exact ⟨⟨#[40, 63, 62]⟩ ++ x ++ ⟨#[41]⟩, true, at3, gs3, rfl, by omega, by rw [size_app3]; show 3 + x.size + 1 + _ ≤ _; omega, HG3.out.keep ((Touch.refl _ _).alloc _), (fun hpl => by cases hpl), size_pos_app _ _ (size_pos_app _ _ (by decide)), HT3.out.alloc _⟩

set_option maxRecDepth 100000 in
set_option maxHeartbeats 8000000 in
theorem atom_13 (d : Nat) (hd : d ≤ 2) (hE : EOK d) (w0 : World) (b : Nat) (ao : Option Addr) (len cap : Nat) (pl : Bool) (at' gs : Nat) (w : World) (h : GR w0 b ao len cap pl at' gs w) (at1 : Nat) (hat : at' ≤ at1) (hal : at1 ≤ len) (hp : ∀ gs w, GR w0 b ao len cap pl at' gs w → Calls Tryz.prog 55 #[.pointer (some ⟨b, 0, none⟩), .int .i64 16] w (PickP w0 b ao len cap pl gs 13 at1 w)) :
    Calls Tryz.prog 78 #[.pointer (some ⟨b, 0, none⟩), .int .i64 ((d : Int) + 1)] w (AtomP (cR d + 7) w0 b ao len cap pl at' w) := by
  have HP := Lib.hid (hp gs w h)
  have HG0 := Lib.hid h
  have HE := Lib.hid hE
  have w1' := IntWalk.i64_in ((d : Int) + 1 - 1) (by omega)
  have w2' := IntWalk.i64_in (d : Int) (by omega)
  have e1 : ((d : Int) + 1 == 0) = false := by simp; omega
  have e2 : ¬ (d : Int) + 1 = 0 := by omega
  have hcr : cR d ≤ 1600 := by have := cA_3 d (by omega); unfold cR; omega
  clear h hp hE hd
  go_enter Tryz.func78, Tryz.ntmps78
  go_wp2_with fail
  refine HP.out.mono ?_
  rintro e w1 ⟨rfl, hg, ht⟩
  have HG := Lib.hid hg
  have HT := Lib.hid ht
  have g2 := hg.c2.1
  have f2 := hg.c2.2
  have g3 := hg.c3
  clear hg ht
  go_wp2_with fail
  refine (HE.out _ _ _ _ _ _ _ _ _ HG.out).mono ?_
  rintro e w2 ⟨x, at2, gs2, rfl, ha, hxs, hg, hgood, ht⟩
  have hs1 : 100000 * at2 ≤ 1759218604441600000 := by have h1 := hg.le; have h2 := hg.li.le; omega
  have hx1 : x.size ≤ 2000000000000000000 := by omega
  have hx2 : 3 + x.size ≤ 9223372036854775807 := by omega
  have hx3 : 3 + x.size + 1 ≤ 9223372036854775807 := by omega
  have hx4 : 1 + x.size ≤ 9223372036854775807 := by omega
  have hx5 : 1 + x.size + 1 ≤ 9223372036854775807 := by omega
  have HGD := Lib.hid hgood
  have HG2 := Lib.hid hg
  have HT2 := Lib.hid (HT.out.then ht)
  clear hg ht hgood
  go_wp2_with fail
  go_ret2
  exact ⟨⟨#[40, 63, 58]⟩ ++ x ++ ⟨#[41]⟩, true, at2, gs2, rfl, by omega, by rw [size_app3]; show 3 + x.size + 1 + _ ≤ _; omega, HG2.out, fun hpl => by rw [str_append, str_append, List.append_assoc]; exact good_plain (HGD.out hpl), size_pos_app _ _ (size_pos_app _ _ (by decide)), HT2.out⟩

set_option maxRecDepth 100000 in
set_option maxHeartbeats 8000000 in
theorem atom_pl14 (d : Nat) (hd : d ≤ 2) (hE : EOK d) (w0 : World) (b : Nat) (ao : Option Addr) (len cap : Nat) (at' gs : Nat) (w : World) (h : GR w0 b ao len cap true at' gs w) (at1 : Nat) (hat : at' ≤ at1) (hal : at1 ≤ len) (hp : ∀ gs w, GR w0 b ao len cap true at' gs w → Calls Tryz.prog 55 #[.pointer (some ⟨b, 0, none⟩), .int .i64 16] w (PickP w0 b ao len cap true gs 14 at1 w)) :
    Calls Tryz.prog 78 #[.pointer (some ⟨b, 0, none⟩), .int .i64 ((d : Int) + 1)] w (AtomP (cR d + 7) w0 b ao len cap true at' w) := by
  have HP := Lib.hid (hp gs w h)
  have HG0 := Lib.hid h
  have HE := Lib.hid hE
  have w1' := IntWalk.i64_in ((d : Int) + 1 - 1) (by omega)
  have w2' := IntWalk.i64_in (d : Int) (by omega)
  have e1 : ((d : Int) + 1 == 0) = false := by simp; omega
  have e2 : ¬ (d : Int) + 1 = 0 := by omega
  have hcr : cR d ≤ 1600 := by have := cA_3 d (by omega); unfold cR; omega
  clear h hp hE hd
  go_enter Tryz.func78, Tryz.ntmps78
  go_wp2_with fail
  refine HP.out.mono ?_
  rintro e w1 ⟨rfl, hg, ht⟩
  have HG := Lib.hid hg
  have HT := Lib.hid ht
  have g2 := hg.c2.1
  have f2 := hg.c2.2
  have g3 := hg.c3
  clear hg ht
  go_wp2_with fail
  refine (HE.out _ _ _ _ _ _ _ _ _ HG.out).mono ?_
  rintro e w2 ⟨x, at2, gs2, rfl, ha, hxs, hg, hgood, ht⟩
  have hs1 : 100000 * at2 ≤ 1759218604441600000 := by have h1 := hg.le; have h2 := hg.li.le; omega
  have hx1 : x.size ≤ 2000000000000000000 := by omega
  have hx2 : 3 + x.size ≤ 9223372036854775807 := by omega
  have hx3 : 3 + x.size + 1 ≤ 9223372036854775807 := by omega
  have hx4 : 1 + x.size ≤ 9223372036854775807 := by omega
  have hx5 : 1 + x.size + 1 ≤ 9223372036854775807 := by omega
  have HGD := Lib.hid hgood
  have HG2 := Lib.hid hg
  have HT2 := Lib.hid (HT.out.then ht)
  clear hg ht hgood
  go_wp2_with fail
  go_ret2
  exact ⟨⟨#[40, 63, 58]⟩ ++ x ++ ⟨#[41]⟩, true, at2, gs2, rfl, by omega, by rw [size_app3]; show 3 + x.size + 1 + _ ≤ _; omega, HG2.out, fun _ => by rw [str_append, str_append, List.append_assoc]; exact good_plain (HGD.out trivial), size_pos_app _ _ (size_pos_app _ _ (by decide)), HT2.out⟩

set_option maxRecDepth 100000 in
set_option maxHeartbeats 8000000 in
theorem atom_pl15 (d : Nat) (hd : d ≤ 2) (hE : EOK d) (w0 : World) (b : Nat) (ao : Option Addr) (len cap : Nat) (at' gs : Nat) (w : World) (h : GR w0 b ao len cap true at' gs w) (at1 : Nat) (hat : at' ≤ at1) (hal : at1 ≤ len) (hp : ∀ gs w, GR w0 b ao len cap true at' gs w → Calls Tryz.prog 55 #[.pointer (some ⟨b, 0, none⟩), .int .i64 16] w (PickP w0 b ao len cap true gs 15 at1 w)) :
    Calls Tryz.prog 78 #[.pointer (some ⟨b, 0, none⟩), .int .i64 ((d : Int) + 1)] w (AtomP (cR d + 7) w0 b ao len cap true at' w) := by
  have HP := Lib.hid (hp gs w h)
  have HG0 := Lib.hid h
  have HE := Lib.hid hE
  have w1' := IntWalk.i64_in ((d : Int) + 1 - 1) (by omega)
  have w2' := IntWalk.i64_in (d : Int) (by omega)
  have e1 : ((d : Int) + 1 == 0) = false := by simp; omega
  have e2 : ¬ (d : Int) + 1 = 0 := by omega
  have hcr : cR d ≤ 1600 := by have := cA_3 d (by omega); unfold cR; omega
  clear h hp hE hd
  go_enter Tryz.func78, Tryz.ntmps78
  go_wp2_with fail
  refine HP.out.mono ?_
  rintro e w1 ⟨rfl, hg, ht⟩
  have HG := Lib.hid hg
  have HT := Lib.hid ht
  have g2 := hg.c2.1
  have f2 := hg.c2.2
  have g3 := hg.c3
  clear hg ht
  go_wp2_with fail
  refine (HE.out _ _ _ _ _ _ _ _ _ HG.out).mono ?_
  rintro e w2 ⟨x, at2, gs2, rfl, ha, hxs, hg, hgood, ht⟩
  have hs1 : 100000 * at2 ≤ 1759218604441600000 := by have h1 := hg.le; have h2 := hg.li.le; omega
  have hx1 : x.size ≤ 2000000000000000000 := by omega
  have hx2 : 3 + x.size ≤ 9223372036854775807 := by omega
  have hx3 : 3 + x.size + 1 ≤ 9223372036854775807 := by omega
  have hx4 : 1 + x.size ≤ 9223372036854775807 := by omega
  have hx5 : 1 + x.size + 1 ≤ 9223372036854775807 := by omega
  have HGD := Lib.hid hgood
  have HG2 := Lib.hid hg
  have HT2 := Lib.hid (HT.out.then ht)
  clear hg ht hgood
  go_wp2_with fail
  go_ret2
  exact ⟨⟨#[40, 63, 58]⟩ ++ x ++ ⟨#[41]⟩, true, at2, gs2, rfl, by omega, by rw [size_app3]; show 3 + x.size + 1 + _ ≤ _; omega, HG2.out, fun _ => by rw [str_append, str_append, List.append_assoc]; exact good_plain (HGD.out trivial), size_pos_app _ _ (size_pos_app _ _ (by decide)), HT2.out⟩

set_option maxRecDepth 100000 in
set_option maxHeartbeats 8000000 in
theorem atom_no15 (d : Nat) (hd : d ≤ 2) (hE : EOK d) (w0 : World) (b : Nat) (ao : Option Addr) (len cap : Nat) (at' gs : Nat) (w : World) (h : GR w0 b ao len cap false at' gs w) (at1 : Nat) (hat : at' ≤ at1) (hal : at1 ≤ len) (hp : ∀ gs w, GR w0 b ao len cap false at' gs w → Calls Tryz.prog 55 #[.pointer (some ⟨b, 0, none⟩), .int .i64 16] w (PickP w0 b ao len cap false gs 15 at1 w)) :
    Calls Tryz.prog 78 #[.pointer (some ⟨b, 0, none⟩), .int .i64 ((d : Int) + 1)] w (AtomP (cR d + 7) w0 b ao len cap false at' w) := by
  have HP := Lib.hid (hp gs w h)
  have HG0 := Lib.hid h
  have HE := Lib.hid hE
  have w1' := IntWalk.i64_in ((d : Int) + 1 - 1) (by omega)
  have w2' := IntWalk.i64_in (d : Int) (by omega)
  have e1 : ((d : Int) + 1 == 0) = false := by simp; omega
  have e2 : ¬ (d : Int) + 1 = 0 := by omega
  have hcr : cR d ≤ 1600 := by have := cA_3 d (by omega); unfold cR; omega
  clear h hp hE hd
  go_enter Tryz.func78, Tryz.ntmps78
  go_wp2_with fail
  refine HP.out.mono ?_
  rintro e w1 ⟨rfl, hg, ht⟩
  have HG := Lib.hid hg
  have HT := Lib.hid ht
  have g2 := hg.c2.1
  have f2 := hg.c2.2
  have g3 := hg.c3
  clear hg ht
  obtain ⟨k3, at2, hk3, ha2, hl2, -, h3⟩ := pick_det w0 b ao len cap false at1 3 HG0.out.li hal (by decide) (by decide)
  have H3 := Lib.hid h3
  have hk' : k3 = 0 ∨ k3 = 1 ∨ k3 = 2 := by omega
  clear h3 hk3
  rcases hk' with rfl | rfl | rfl
  · have HNE : Hid (w1.heap.size ≠ b) := Lib.hid (grow_new HG.out.c0)
    have hc : (w1.alloc (.cells #[.string ⟨#[40, 63, 61]⟩, .string ⟨#[40, 63, 33]⟩, .string ⟨#[40, 63, 62]⟩] 9)).cell? ⟨w1.heap.size, 0, none⟩ = some (.string ⟨#[40, 63, 61]⟩) := (Holds.made w1 _ _ 0 _ rfl).1
    have HC := Lib.hid hc
    have HGA : Hid (GR w0 b ao len cap false at1 gs (w1.alloc (.cells #[.string ⟨#[40, 63, 61]⟩, .string ⟨#[40, 63, 33]⟩, .string ⟨#[40, 63, 62]⟩] 9)).drew) := Lib.hid (HG.out.keep ((Touch.refl _ _).alloc _).drew)
    have HTA : Hid (Touch (fun i => i = b) w (w1.alloc (.cells #[.string ⟨#[40, 63, 61]⟩, .string ⟨#[40, 63, 33]⟩, .string ⟨#[40, 63, 62]⟩] 9)).drew) := Lib.hid (HT.out.alloc _).drew
    have HGB : Hid (GR w0 b ao len cap false at1 gs w1.drew) := Lib.hid (HG.out.keep (Touch.refl _ _).drew)
    have HTB : Hid (Touch (fun i => i = b) w w1.drew) := Lib.hid HT.out.drew
    clear hc
    go_wp2_with fail
    go_region_with
      (first
        | (go_at_call 55; refine (H3.out gs _ HGA.out).mono ?_; rintro e w2 ⟨rfl, hg, ht⟩; have hc2 := ht.has HC.out HNE.out; have HC2 := Lib.hid hc2; have HG2 := Lib.hid hg; have HT2 := Lib.hid (HTA.out.then ht); have HN2 := HNE; clear hg ht)
        | (go_at_call 55; refine (H3.out gs _ HGB.out).mono ?_; rintro e w2 ⟨rfl, hg, ht⟩; have hc2 : (w2.alloc (.cells #[.string ⟨#[40, 63, 61]⟩, .string ⟨#[40, 63, 33]⟩, .string ⟨#[40, 63, 62]⟩] 9)).cell? ⟨w2.heap.size, 0, none⟩ = some (.string ⟨#[40, 63, 61]⟩) := (Holds.made w2 _ _ 0 _ rfl).1; have HC2 := Lib.hid hc2; have HG2 := Lib.hid hg; have HT2 := Lib.hid (HTB.out.then ht); have HN2 : Hid (w2.heap.size ≠ b) := Lib.hid (grow_new hg.c0); clear hg ht)
        | (go_at_call 42; refine (HE.out _ _ _ _ _ _ _ _ _ HG2.out).mono ?_; rintro e w3 ⟨x, at3, gs3, rfl, ha, hxs, hg, -, ht⟩; have hs1 : 100000 * at3 ≤ 1759218604441600000 := (by have h1 := hg.le; have h2 := hg.li.le; omega); have hx1 : x.size ≤ 2000000000000000000 := (by omega); have hx2 : 3 + x.size ≤ 9223372036854775807 := (by omega); have hx3 : 3 + x.size + 1 ≤ 9223372036854775807 := (by omega); (try (have hc3 := ht.has HC2.out HN2.out)); have HG3 := Lib.hid hg; have HT3 := Lib.hid (HT2.out.then ht); clear hg ht)
        | (go_at_call 42; refine (HE.out _ _ _ _ _ _ _ _ _ (HG2.out.keep ((Touch.refl (fun _ => False) w2).alloc (.cells #[.string ⟨#[40, 63, 61]⟩, .string ⟨#[40, 63, 33]⟩, .string ⟨#[40, 63, 62]⟩] 9)))).mono ?_; rintro e w3 ⟨x, at3, gs3, rfl, ha, hxs, hg, -, ht⟩; have hs1 : 100000 * at3 ≤ 1759218604441600000 := (by have h1 := hg.le; have h2 := hg.li.le; omega); have hx1 : x.size ≤ 2000000000000000000 := (by omega); have hx2 : 3 + x.size ≤ 9223372036854775807 := (by omega); have hx3 : 3 + x.size + 1 ≤ 9223372036854775807 := (by omega); have hc3 := ht.has HC2.out HN2.out; have HG3 := Lib.hid hg; have HT3 := Lib.hid ((HT2.out.alloc (.cells #[.string ⟨#[40, 63, 61]⟩, .string ⟨#[40, 63, 33]⟩, .string ⟨#[40, 63, 62]⟩] 9)).then ht); clear hg ht))
    all_goals
      go_wp2_with fail
      go_ret2
      first
        | exact ⟨⟨#[40, 63, 61]⟩ ++ x ++ ⟨#[41]⟩, true, at3, gs3, rfl, by omega, by rw [size_app3]; show 3 + x.size + 1 + _ ≤ _; omega, HG3.out, (fun hpl => by cases hpl), size_pos_app _ _ (size_pos_app _ _ (by decide)), HT3.out⟩
        | exact ⟨⟨#[40, 63, 61]⟩ ++ x ++ ⟨#[41]⟩, true, at3, gs3, rfl, by omega, by rw [size_app3]; show 3 + x.size + 1 + _ ≤ _; omega, HG3.out.keep ((Touch.refl _ _).alloc _), (fun hpl => by cases hpl), size_pos_app _ _ (size_pos_app _ _ (by decide)), HT3.out.alloc _⟩
  · have HNE : Hid (w1.heap.size ≠ b) := Lib.hid (grow_new HG.out.c0)
    have hc : (w1.alloc (.cells #[.string ⟨#[40, 63, 61]⟩, .string ⟨#[40, 63, 33]⟩, .string ⟨#[40, 63, 62]⟩] 9)).cell? ⟨w1.heap.size, 1, none⟩ = some (.string ⟨#[40, 63, 33]⟩) := (Holds.made w1 _ _ 1 _ rfl).1
    have HC := Lib.hid hc
    have HGA : Hid (GR w0 b ao len cap false at1 gs (w1.alloc (.cells #[.string ⟨#[40, 63, 61]⟩, .string ⟨#[40, 63, 33]⟩, .string ⟨#[40, 63, 62]⟩] 9)).drew) := Lib.hid (HG.out.keep ((Touch.refl _ _).alloc _).drew)
    have HTA : Hid (Touch (fun i => i = b) w (w1.alloc (.cells #[.string ⟨#[40, 63, 61]⟩, .string ⟨#[40, 63, 33]⟩, .string ⟨#[40, 63, 62]⟩] 9)).drew) := Lib.hid (HT.out.alloc _).drew
    have HGB : Hid (GR w0 b ao len cap false at1 gs w1.drew) := Lib.hid (HG.out.keep (Touch.refl _ _).drew)
    have HTB : Hid (Touch (fun i => i = b) w w1.drew) := Lib.hid HT.out.drew
    clear hc
    go_wp2_with fail
    go_region_with
      (first
        | (go_at_call 55; refine (H3.out gs _ HGA.out).mono ?_; rintro e w2 ⟨rfl, hg, ht⟩; have hc2 := ht.has HC.out HNE.out; have HC2 := Lib.hid hc2; have HG2 := Lib.hid hg; have HT2 := Lib.hid (HTA.out.then ht); have HN2 := HNE; clear hg ht)
        | (go_at_call 55; refine (H3.out gs _ HGB.out).mono ?_; rintro e w2 ⟨rfl, hg, ht⟩; have hc2 : (w2.alloc (.cells #[.string ⟨#[40, 63, 61]⟩, .string ⟨#[40, 63, 33]⟩, .string ⟨#[40, 63, 62]⟩] 9)).cell? ⟨w2.heap.size, 1, none⟩ = some (.string ⟨#[40, 63, 33]⟩) := (Holds.made w2 _ _ 1 _ rfl).1; have HC2 := Lib.hid hc2; have HG2 := Lib.hid hg; have HT2 := Lib.hid (HTB.out.then ht); have HN2 : Hid (w2.heap.size ≠ b) := Lib.hid (grow_new hg.c0); clear hg ht)
        | (go_at_call 42; refine (HE.out _ _ _ _ _ _ _ _ _ HG2.out).mono ?_; rintro e w3 ⟨x, at3, gs3, rfl, ha, hxs, hg, -, ht⟩; have hs1 : 100000 * at3 ≤ 1759218604441600000 := (by have h1 := hg.le; have h2 := hg.li.le; omega); have hx1 : x.size ≤ 2000000000000000000 := (by omega); have hx2 : 3 + x.size ≤ 9223372036854775807 := (by omega); have hx3 : 3 + x.size + 1 ≤ 9223372036854775807 := (by omega); (try (have hc3 := ht.has HC2.out HN2.out)); have HG3 := Lib.hid hg; have HT3 := Lib.hid (HT2.out.then ht); clear hg ht)
        | (go_at_call 42; refine (HE.out _ _ _ _ _ _ _ _ _ (HG2.out.keep ((Touch.refl (fun _ => False) w2).alloc (.cells #[.string ⟨#[40, 63, 61]⟩, .string ⟨#[40, 63, 33]⟩, .string ⟨#[40, 63, 62]⟩] 9)))).mono ?_; rintro e w3 ⟨x, at3, gs3, rfl, ha, hxs, hg, -, ht⟩; have hs1 : 100000 * at3 ≤ 1759218604441600000 := (by have h1 := hg.le; have h2 := hg.li.le; omega); have hx1 : x.size ≤ 2000000000000000000 := (by omega); have hx2 : 3 + x.size ≤ 9223372036854775807 := (by omega); have hx3 : 3 + x.size + 1 ≤ 9223372036854775807 := (by omega); have hc3 := ht.has HC2.out HN2.out; have HG3 := Lib.hid hg; have HT3 := Lib.hid ((HT2.out.alloc (.cells #[.string ⟨#[40, 63, 61]⟩, .string ⟨#[40, 63, 33]⟩, .string ⟨#[40, 63, 62]⟩] 9)).then ht); clear hg ht))
    all_goals
      go_wp2_with fail
      go_ret2
      first
        | exact ⟨⟨#[40, 63, 33]⟩ ++ x ++ ⟨#[41]⟩, true, at3, gs3, rfl, by omega, by rw [size_app3]; show 3 + x.size + 1 + _ ≤ _; omega, HG3.out, (fun hpl => by cases hpl), size_pos_app _ _ (size_pos_app _ _ (by decide)), HT3.out⟩
        | exact ⟨⟨#[40, 63, 33]⟩ ++ x ++ ⟨#[41]⟩, true, at3, gs3, rfl, by omega, by rw [size_app3]; show 3 + x.size + 1 + _ ≤ _; omega, HG3.out.keep ((Touch.refl _ _).alloc _), (fun hpl => by cases hpl), size_pos_app _ _ (size_pos_app _ _ (by decide)), HT3.out.alloc _⟩
  · have HNE : Hid (w1.heap.size ≠ b) := Lib.hid (grow_new HG.out.c0)
    have hc : (w1.alloc (.cells #[.string ⟨#[40, 63, 61]⟩, .string ⟨#[40, 63, 33]⟩, .string ⟨#[40, 63, 62]⟩] 9)).cell? ⟨w1.heap.size, 2, none⟩ = some (.string ⟨#[40, 63, 62]⟩) := (Holds.made w1 _ _ 2 _ rfl).1
    have HC := Lib.hid hc
    have HGA : Hid (GR w0 b ao len cap false at1 gs (w1.alloc (.cells #[.string ⟨#[40, 63, 61]⟩, .string ⟨#[40, 63, 33]⟩, .string ⟨#[40, 63, 62]⟩] 9)).drew) := Lib.hid (HG.out.keep ((Touch.refl _ _).alloc _).drew)
    have HTA : Hid (Touch (fun i => i = b) w (w1.alloc (.cells #[.string ⟨#[40, 63, 61]⟩, .string ⟨#[40, 63, 33]⟩, .string ⟨#[40, 63, 62]⟩] 9)).drew) := Lib.hid (HT.out.alloc _).drew
    have HGB : Hid (GR w0 b ao len cap false at1 gs w1.drew) := Lib.hid (HG.out.keep (Touch.refl _ _).drew)
    have HTB : Hid (Touch (fun i => i = b) w w1.drew) := Lib.hid HT.out.drew
    clear hc
    go_wp2_with fail
    go_region_with
      (first
        | (go_at_call 55; refine (H3.out gs _ HGA.out).mono ?_; rintro e w2 ⟨rfl, hg, ht⟩; have hc2 := ht.has HC.out HNE.out; have HC2 := Lib.hid hc2; have HG2 := Lib.hid hg; have HT2 := Lib.hid (HTA.out.then ht); have HN2 := HNE; clear hg ht)
        | (go_at_call 55; refine (H3.out gs _ HGB.out).mono ?_; rintro e w2 ⟨rfl, hg, ht⟩; have hc2 : (w2.alloc (.cells #[.string ⟨#[40, 63, 61]⟩, .string ⟨#[40, 63, 33]⟩, .string ⟨#[40, 63, 62]⟩] 9)).cell? ⟨w2.heap.size, 2, none⟩ = some (.string ⟨#[40, 63, 62]⟩) := (Holds.made w2 _ _ 2 _ rfl).1; have HC2 := Lib.hid hc2; have HG2 := Lib.hid hg; have HT2 := Lib.hid (HTB.out.then ht); have HN2 : Hid (w2.heap.size ≠ b) := Lib.hid (grow_new hg.c0); clear hg ht)
        | (go_at_call 42; refine (HE.out _ _ _ _ _ _ _ _ _ HG2.out).mono ?_; rintro e w3 ⟨x, at3, gs3, rfl, ha, hxs, hg, -, ht⟩; have hs1 : 100000 * at3 ≤ 1759218604441600000 := (by have h1 := hg.le; have h2 := hg.li.le; omega); have hx1 : x.size ≤ 2000000000000000000 := (by omega); have hx2 : 3 + x.size ≤ 9223372036854775807 := (by omega); have hx3 : 3 + x.size + 1 ≤ 9223372036854775807 := (by omega); (try (have hc3 := ht.has HC2.out HN2.out)); have HG3 := Lib.hid hg; have HT3 := Lib.hid (HT2.out.then ht); clear hg ht)
        | (go_at_call 42; refine (HE.out _ _ _ _ _ _ _ _ _ (HG2.out.keep ((Touch.refl (fun _ => False) w2).alloc (.cells #[.string ⟨#[40, 63, 61]⟩, .string ⟨#[40, 63, 33]⟩, .string ⟨#[40, 63, 62]⟩] 9)))).mono ?_; rintro e w3 ⟨x, at3, gs3, rfl, ha, hxs, hg, -, ht⟩; have hs1 : 100000 * at3 ≤ 1759218604441600000 := (by have h1 := hg.le; have h2 := hg.li.le; omega); have hx1 : x.size ≤ 2000000000000000000 := (by omega); have hx2 : 3 + x.size ≤ 9223372036854775807 := (by omega); have hx3 : 3 + x.size + 1 ≤ 9223372036854775807 := (by omega); have hc3 := ht.has HC2.out HN2.out; have HG3 := Lib.hid hg; have HT3 := Lib.hid ((HT2.out.alloc (.cells #[.string ⟨#[40, 63, 61]⟩, .string ⟨#[40, 63, 33]⟩, .string ⟨#[40, 63, 62]⟩] 9)).then ht); clear hg ht))
    all_goals
      go_wp2_with fail
      go_ret2
      first
        | exact ⟨⟨#[40, 63, 62]⟩ ++ x ++ ⟨#[41]⟩, true, at3, gs3, rfl, by omega, by rw [size_app3]; show 3 + x.size + 1 + _ ≤ _; omega, HG3.out, (fun hpl => by cases hpl), size_pos_app _ _ (size_pos_app _ _ (by decide)), HT3.out⟩
        | exact ⟨⟨#[40, 63, 62]⟩ ++ x ++ ⟨#[41]⟩, true, at3, gs3, rfl, by omega, by rw [size_app3]; show 3 + x.size + 1 + _ ≤ _; omega, HG3.out.keep ((Touch.refl _ _).alloc _), (fun hpl => by cases hpl), size_pos_app _ _ (size_pos_app _ _ (by decide)), HT3.out.alloc _⟩

set_option maxRecDepth 100000 in
set_option maxHeartbeats 8000000 in
theorem atom_no14 (d : Nat) (hd : d ≤ 2) (hE : EOK d) (w0 : World) (b : Nat) (ao : Option Addr) (len cap : Nat) (at' gs : Nat) (w : World) (h : GR w0 b ao len cap false at' gs w) (at1 : Nat) (hat : at' ≤ at1) (hal : at1 ≤ len) (hgs : gs = 0) (hp : ∀ gs w, GR w0 b ao len cap false at' gs w → Calls Tryz.prog 55 #[.pointer (some ⟨b, 0, none⟩), .int .i64 16] w (PickP w0 b ao len cap false gs 14 at1 w)) :
    Calls Tryz.prog 78 #[.pointer (some ⟨b, 0, none⟩), .int .i64 ((d : Int) + 1)] w (AtomP (cR d + 7) w0 b ao len cap false at' w) := by
  subst hgs
  have HP := Lib.hid (hp 0 w h)
  have HG0 := Lib.hid h
  have HE := Lib.hid hE
  have w1' := IntWalk.i64_in ((d : Int) + 1 - 1) (by omega)
  have w2' := IntWalk.i64_in (d : Int) (by omega)
  have e1 : ((d : Int) + 1 == 0) = false := by simp; omega
  have e2 : ¬ (d : Int) + 1 = 0 := by omega
  have hcr : cR d ≤ 1600 := by have := cA_3 d (by omega); unfold cR; omega
  clear h hp hE hd
  go_enter Tryz.func78, Tryz.ntmps78
  go_wp2_with fail
  refine HP.out.mono ?_
  rintro e w1 ⟨rfl, hg, ht⟩
  have HG := Lib.hid hg
  have HT := Lib.hid ht
  have g2 := hg.c2.1
  have f2 := hg.c2.2
  have g3 := hg.c3
  clear hg ht
  obtain ⟨k3, at2, hk3, ha2, hl2, -, h3⟩ := pick_det w0 b ao len cap false at1 3 HG0.out.li hal (by decide) (by decide)
  have H3 := Lib.hid h3
  have hk' : k3 = 0 ∨ k3 = 1 ∨ k3 = 2 := by omega
  clear h3 hk3
  rcases hk' with rfl | rfl | rfl
  · have HNE : Hid (w1.heap.size ≠ b) := Lib.hid (grow_new HG.out.c0)
    have hc : (w1.alloc (.cells #[.string ⟨#[40, 63, 61]⟩, .string ⟨#[40, 63, 33]⟩, .string ⟨#[40, 63, 62]⟩] 9)).cell? ⟨w1.heap.size, 0, none⟩ = some (.string ⟨#[40, 63, 61]⟩) := (Holds.made w1 _ _ 0 _ rfl).1
    have HC := Lib.hid hc
    have HGA : Hid (GR w0 b ao len cap false at1 0 (w1.alloc (.cells #[.string ⟨#[40, 63, 61]⟩, .string ⟨#[40, 63, 33]⟩, .string ⟨#[40, 63, 62]⟩] 9)).drew) := Lib.hid (HG.out.keep ((Touch.refl _ _).alloc _).drew)
    have HTA : Hid (Touch (fun i => i = b) w (w1.alloc (.cells #[.string ⟨#[40, 63, 61]⟩, .string ⟨#[40, 63, 33]⟩, .string ⟨#[40, 63, 62]⟩] 9)).drew) := Lib.hid (HT.out.alloc _).drew
    have HGB : Hid (GR w0 b ao len cap false at1 0 w1.drew) := Lib.hid (HG.out.keep (Touch.refl _ _).drew)
    have HTB : Hid (Touch (fun i => i = b) w w1.drew) := Lib.hid HT.out.drew
    clear hc
    go_wp2_with fail
    go_region_with
      (first
        | (go_at_call 55; refine (H3.out 0 _ HGA.out).mono ?_; rintro e w2 ⟨rfl, hg, ht⟩; have hc2 := ht.has HC.out HNE.out; have HC2 := Lib.hid hc2; have HG2 := Lib.hid hg; have HT2 := Lib.hid (HTA.out.then ht); have HN2 := HNE; clear hg ht)
        | (go_at_call 55; refine (H3.out 0 _ HGB.out).mono ?_; rintro e w2 ⟨rfl, hg, ht⟩; have hc2 : (w2.alloc (.cells #[.string ⟨#[40, 63, 61]⟩, .string ⟨#[40, 63, 33]⟩, .string ⟨#[40, 63, 62]⟩] 9)).cell? ⟨w2.heap.size, 0, none⟩ = some (.string ⟨#[40, 63, 61]⟩) := (Holds.made w2 _ _ 0 _ rfl).1; have HC2 := Lib.hid hc2; have HG2 := Lib.hid hg; have HT2 := Lib.hid (HTB.out.then ht); have HN2 : Hid (w2.heap.size ≠ b) := Lib.hid (grow_new hg.c0); clear hg ht)
        | (go_at_call 42; refine (HE.out _ _ _ _ _ _ _ _ _ HG2.out).mono ?_; rintro e w3 ⟨x, at3, gs3, rfl, ha, hxs, hg, -, ht⟩; have hs1 : 100000 * at3 ≤ 1759218604441600000 := (by have h1 := hg.le; have h2 := hg.li.le; omega); have hx1 : x.size ≤ 2000000000000000000 := (by omega); have hx2 : 3 + x.size ≤ 9223372036854775807 := (by omega); have hx3 : 3 + x.size + 1 ≤ 9223372036854775807 := (by omega); (try (have hc3 := ht.has HC2.out HN2.out)); have HG3 := Lib.hid hg; have HT3 := Lib.hid (HT2.out.then ht); clear hg ht)
        | (go_at_call 42; refine (HE.out _ _ _ _ _ _ _ _ _ (HG2.out.keep ((Touch.refl (fun _ => False) w2).alloc (.cells #[.string ⟨#[40, 63, 61]⟩, .string ⟨#[40, 63, 33]⟩, .string ⟨#[40, 63, 62]⟩] 9)))).mono ?_; rintro e w3 ⟨x, at3, gs3, rfl, ha, hxs, hg, -, ht⟩; have hs1 : 100000 * at3 ≤ 1759218604441600000 := (by have h1 := hg.le; have h2 := hg.li.le; omega); have hx1 : x.size ≤ 2000000000000000000 := (by omega); have hx2 : 3 + x.size ≤ 9223372036854775807 := (by omega); have hx3 : 3 + x.size + 1 ≤ 9223372036854775807 := (by omega); have hc3 := ht.has HC2.out HN2.out; have HG3 := Lib.hid hg; have HT3 := Lib.hid ((HT2.out.alloc (.cells #[.string ⟨#[40, 63, 61]⟩, .string ⟨#[40, 63, 33]⟩, .string ⟨#[40, 63, 62]⟩] 9)).then ht); clear hg ht))
    all_goals
      go_wp2_with fail
      go_ret2
      first
        | exact ⟨⟨#[40, 63, 61]⟩ ++ x ++ ⟨#[41]⟩, true, at3, gs3, rfl, by omega, by rw [size_app3]; show 3 + x.size + 1 + _ ≤ _; omega, HG3.out, (fun hpl => by cases hpl), size_pos_app _ _ (size_pos_app _ _ (by decide)), HT3.out⟩
        | exact ⟨⟨#[40, 63, 61]⟩ ++ x ++ ⟨#[41]⟩, true, at3, gs3, rfl, by omega, by rw [size_app3]; show 3 + x.size + 1 + _ ≤ _; omega, HG3.out.keep ((Touch.refl _ _).alloc _), (fun hpl => by cases hpl), size_pos_app _ _ (size_pos_app _ _ (by decide)), HT3.out.alloc _⟩
  · have HNE : Hid (w1.heap.size ≠ b) := Lib.hid (grow_new HG.out.c0)
    have hc : (w1.alloc (.cells #[.string ⟨#[40, 63, 61]⟩, .string ⟨#[40, 63, 33]⟩, .string ⟨#[40, 63, 62]⟩] 9)).cell? ⟨w1.heap.size, 1, none⟩ = some (.string ⟨#[40, 63, 33]⟩) := (Holds.made w1 _ _ 1 _ rfl).1
    have HC := Lib.hid hc
    have HGA : Hid (GR w0 b ao len cap false at1 0 (w1.alloc (.cells #[.string ⟨#[40, 63, 61]⟩, .string ⟨#[40, 63, 33]⟩, .string ⟨#[40, 63, 62]⟩] 9)).drew) := Lib.hid (HG.out.keep ((Touch.refl _ _).alloc _).drew)
    have HTA : Hid (Touch (fun i => i = b) w (w1.alloc (.cells #[.string ⟨#[40, 63, 61]⟩, .string ⟨#[40, 63, 33]⟩, .string ⟨#[40, 63, 62]⟩] 9)).drew) := Lib.hid (HT.out.alloc _).drew
    have HGB : Hid (GR w0 b ao len cap false at1 0 w1.drew) := Lib.hid (HG.out.keep (Touch.refl _ _).drew)
    have HTB : Hid (Touch (fun i => i = b) w w1.drew) := Lib.hid HT.out.drew
    clear hc
    go_wp2_with fail
    go_region_with
      (first
        | (go_at_call 55; refine (H3.out 0 _ HGA.out).mono ?_; rintro e w2 ⟨rfl, hg, ht⟩; have hc2 := ht.has HC.out HNE.out; have HC2 := Lib.hid hc2; have HG2 := Lib.hid hg; have HT2 := Lib.hid (HTA.out.then ht); have HN2 := HNE; clear hg ht)
        | (go_at_call 55; refine (H3.out 0 _ HGB.out).mono ?_; rintro e w2 ⟨rfl, hg, ht⟩; have hc2 : (w2.alloc (.cells #[.string ⟨#[40, 63, 61]⟩, .string ⟨#[40, 63, 33]⟩, .string ⟨#[40, 63, 62]⟩] 9)).cell? ⟨w2.heap.size, 1, none⟩ = some (.string ⟨#[40, 63, 33]⟩) := (Holds.made w2 _ _ 1 _ rfl).1; have HC2 := Lib.hid hc2; have HG2 := Lib.hid hg; have HT2 := Lib.hid (HTB.out.then ht); have HN2 : Hid (w2.heap.size ≠ b) := Lib.hid (grow_new hg.c0); clear hg ht)
        | (go_at_call 42; refine (HE.out _ _ _ _ _ _ _ _ _ HG2.out).mono ?_; rintro e w3 ⟨x, at3, gs3, rfl, ha, hxs, hg, -, ht⟩; have hs1 : 100000 * at3 ≤ 1759218604441600000 := (by have h1 := hg.le; have h2 := hg.li.le; omega); have hx1 : x.size ≤ 2000000000000000000 := (by omega); have hx2 : 3 + x.size ≤ 9223372036854775807 := (by omega); have hx3 : 3 + x.size + 1 ≤ 9223372036854775807 := (by omega); (try (have hc3 := ht.has HC2.out HN2.out)); have HG3 := Lib.hid hg; have HT3 := Lib.hid (HT2.out.then ht); clear hg ht)
        | (go_at_call 42; refine (HE.out _ _ _ _ _ _ _ _ _ (HG2.out.keep ((Touch.refl (fun _ => False) w2).alloc (.cells #[.string ⟨#[40, 63, 61]⟩, .string ⟨#[40, 63, 33]⟩, .string ⟨#[40, 63, 62]⟩] 9)))).mono ?_; rintro e w3 ⟨x, at3, gs3, rfl, ha, hxs, hg, -, ht⟩; have hs1 : 100000 * at3 ≤ 1759218604441600000 := (by have h1 := hg.le; have h2 := hg.li.le; omega); have hx1 : x.size ≤ 2000000000000000000 := (by omega); have hx2 : 3 + x.size ≤ 9223372036854775807 := (by omega); have hx3 : 3 + x.size + 1 ≤ 9223372036854775807 := (by omega); have hc3 := ht.has HC2.out HN2.out; have HG3 := Lib.hid hg; have HT3 := Lib.hid ((HT2.out.alloc (.cells #[.string ⟨#[40, 63, 61]⟩, .string ⟨#[40, 63, 33]⟩, .string ⟨#[40, 63, 62]⟩] 9)).then ht); clear hg ht))
    all_goals
      go_wp2_with fail
      go_ret2
      first
        | exact ⟨⟨#[40, 63, 33]⟩ ++ x ++ ⟨#[41]⟩, true, at3, gs3, rfl, by omega, by rw [size_app3]; show 3 + x.size + 1 + _ ≤ _; omega, HG3.out, (fun hpl => by cases hpl), size_pos_app _ _ (size_pos_app _ _ (by decide)), HT3.out⟩
        | exact ⟨⟨#[40, 63, 33]⟩ ++ x ++ ⟨#[41]⟩, true, at3, gs3, rfl, by omega, by rw [size_app3]; show 3 + x.size + 1 + _ ≤ _; omega, HG3.out.keep ((Touch.refl _ _).alloc _), (fun hpl => by cases hpl), size_pos_app _ _ (size_pos_app _ _ (by decide)), HT3.out.alloc _⟩
  · have HNE : Hid (w1.heap.size ≠ b) := Lib.hid (grow_new HG.out.c0)
    have hc : (w1.alloc (.cells #[.string ⟨#[40, 63, 61]⟩, .string ⟨#[40, 63, 33]⟩, .string ⟨#[40, 63, 62]⟩] 9)).cell? ⟨w1.heap.size, 2, none⟩ = some (.string ⟨#[40, 63, 62]⟩) := (Holds.made w1 _ _ 2 _ rfl).1
    have HC := Lib.hid hc
    have HGA : Hid (GR w0 b ao len cap false at1 0 (w1.alloc (.cells #[.string ⟨#[40, 63, 61]⟩, .string ⟨#[40, 63, 33]⟩, .string ⟨#[40, 63, 62]⟩] 9)).drew) := Lib.hid (HG.out.keep ((Touch.refl _ _).alloc _).drew)
    have HTA : Hid (Touch (fun i => i = b) w (w1.alloc (.cells #[.string ⟨#[40, 63, 61]⟩, .string ⟨#[40, 63, 33]⟩, .string ⟨#[40, 63, 62]⟩] 9)).drew) := Lib.hid (HT.out.alloc _).drew
    have HGB : Hid (GR w0 b ao len cap false at1 0 w1.drew) := Lib.hid (HG.out.keep (Touch.refl _ _).drew)
    have HTB : Hid (Touch (fun i => i = b) w w1.drew) := Lib.hid HT.out.drew
    clear hc
    go_wp2_with fail
    go_region_with
      (first
        | (go_at_call 55; refine (H3.out 0 _ HGA.out).mono ?_; rintro e w2 ⟨rfl, hg, ht⟩; have hc2 := ht.has HC.out HNE.out; have HC2 := Lib.hid hc2; have HG2 := Lib.hid hg; have HT2 := Lib.hid (HTA.out.then ht); have HN2 := HNE; clear hg ht)
        | (go_at_call 55; refine (H3.out 0 _ HGB.out).mono ?_; rintro e w2 ⟨rfl, hg, ht⟩; have hc2 : (w2.alloc (.cells #[.string ⟨#[40, 63, 61]⟩, .string ⟨#[40, 63, 33]⟩, .string ⟨#[40, 63, 62]⟩] 9)).cell? ⟨w2.heap.size, 2, none⟩ = some (.string ⟨#[40, 63, 62]⟩) := (Holds.made w2 _ _ 2 _ rfl).1; have HC2 := Lib.hid hc2; have HG2 := Lib.hid hg; have HT2 := Lib.hid (HTB.out.then ht); have HN2 : Hid (w2.heap.size ≠ b) := Lib.hid (grow_new hg.c0); clear hg ht)
        | (go_at_call 42; refine (HE.out _ _ _ _ _ _ _ _ _ HG2.out).mono ?_; rintro e w3 ⟨x, at3, gs3, rfl, ha, hxs, hg, -, ht⟩; have hs1 : 100000 * at3 ≤ 1759218604441600000 := (by have h1 := hg.le; have h2 := hg.li.le; omega); have hx1 : x.size ≤ 2000000000000000000 := (by omega); have hx2 : 3 + x.size ≤ 9223372036854775807 := (by omega); have hx3 : 3 + x.size + 1 ≤ 9223372036854775807 := (by omega); (try (have hc3 := ht.has HC2.out HN2.out)); have HG3 := Lib.hid hg; have HT3 := Lib.hid (HT2.out.then ht); clear hg ht)
        | (go_at_call 42; refine (HE.out _ _ _ _ _ _ _ _ _ (HG2.out.keep ((Touch.refl (fun _ => False) w2).alloc (.cells #[.string ⟨#[40, 63, 61]⟩, .string ⟨#[40, 63, 33]⟩, .string ⟨#[40, 63, 62]⟩] 9)))).mono ?_; rintro e w3 ⟨x, at3, gs3, rfl, ha, hxs, hg, -, ht⟩; have hs1 : 100000 * at3 ≤ 1759218604441600000 := (by have h1 := hg.le; have h2 := hg.li.le; omega); have hx1 : x.size ≤ 2000000000000000000 := (by omega); have hx2 : 3 + x.size ≤ 9223372036854775807 := (by omega); have hx3 : 3 + x.size + 1 ≤ 9223372036854775807 := (by omega); have hc3 := ht.has HC2.out HN2.out; have HG3 := Lib.hid hg; have HT3 := Lib.hid ((HT2.out.alloc (.cells #[.string ⟨#[40, 63, 61]⟩, .string ⟨#[40, 63, 33]⟩, .string ⟨#[40, 63, 62]⟩] 9)).then ht); clear hg ht))
    all_goals
      go_wp2_with fail
      go_ret2
      first
        | exact ⟨⟨#[40, 63, 62]⟩ ++ x ++ ⟨#[41]⟩, true, at3, gs3, rfl, by omega, by rw [size_app3]; show 3 + x.size + 1 + _ ≤ _; omega, HG3.out, (fun hpl => by cases hpl), size_pos_app _ _ (size_pos_app _ _ (by decide)), HT3.out⟩
        | exact ⟨⟨#[40, 63, 62]⟩ ++ x ++ ⟨#[41]⟩, true, at3, gs3, rfl, by omega, by rw [size_app3]; show 3 + x.size + 1 + _ ≤ _; omega, HG3.out.keep ((Touch.refl _ _).alloc _), (fun hpl => by cases hpl), size_pos_app _ _ (size_pos_app _ _ (by decide)), HT3.out.alloc _⟩

set_option maxRecDepth 100000 in
set_option maxHeartbeats 8000000 in
theorem atom_ref14 (d : Nat) (hd : d ≤ 2) (hE : EOK d) (w0 : World) (b : Nat) (ao : Option Addr) (len cap : Nat) (at' gs : Nat) (w : World) (h : GR w0 b ao len cap false at' gs w) (at1 : Nat) (hat : at' ≤ at1) (hal : at1 ≤ len) (hgs : 0 < gs) (hp : ∀ gs w, GR w0 b ao len cap false at' gs w → Calls Tryz.prog 55 #[.pointer (some ⟨b, 0, none⟩), .int .i64 16] w (PickP w0 b ao len cap false gs 14 at1 w)) :
    Calls Tryz.prog 78 #[.pointer (some ⟨b, 0, none⟩), .int .i64 ((d : Int) + 1)] w (AtomP (cR d + 7) w0 b ao len cap false at' w) := by
  have hg9 := h.g9
  obtain ⟨kg, at2, hkg, ha2, hl2, -, hpg⟩ := pick_det w0 b ao len cap false at1 gs h.li hal hgs (by omega)
  have HPG := Lib.hid hpg
  clear hpg
  have HP := Lib.hid (hp gs w h)
  have HG0 := Lib.hid h
  have HE := Lib.hid hE
  have w1' := IntWalk.i64_in ((d : Int) + 1 - 1) (by omega)
  have w2' := IntWalk.i64_in (d : Int) (by omega)
  have e1 : ((d : Int) + 1 == 0) = false := by simp; omega
  have e2 : ¬ (d : Int) + 1 = 0 := by omega
  have hcr : cR d ≤ 1600 := by have := cA_3 d (by omega); unfold cR; omega
  clear h hp hE hd
  go_enter Tryz.func78, Tryz.ntmps78
  go_wp2_with fail
  refine HP.out.mono ?_
  rintro e w1 ⟨rfl, hg, ht⟩
  have HG := Lib.hid hg
  have HT := Lib.hid ht
  have g2 := hg.c2.1
  have f2 := hg.c2.2
  have g3 := hg.c3
  clear hg ht
  have q9 : decide (0 < (gs : Int)) = true := decide_eq_true (by omega)
  have p9 : decide (0 < gs) = true := decide_eq_true hgs
  have wk := IntWalk.i64_in (1 + (kg : Int)) (by omega)
  have hb1 : 1 + (kg : Int) ≤ 10 := by omega
  have hb2 : (1 + (kg : Int)).toNat = 1 + kg := by omega
  go_wp2_with fail
  refine (HPG.out gs _ HG.out).mono ?_
  rintro e w2 ⟨rfl, hg, ht⟩
  have HG2 := Lib.hid hg
  have HT2 := Lib.hid (HT.out.then ht)
  clear hg ht g2 f2 g3
  go_wp2_with fail
  go_ret2
  exact ⟨_, true, at2, gs, rfl, by omega, by rw [ByteArray.size_append]; simp [ByteArray.size]; omega, HG2.out, (fun hpl => by cases hpl), size_pos_app ⟨#[92]⟩ _ (by decide), HT2.out⟩

end Go.Proofs.YtlgpilcjcomacaaGreat
