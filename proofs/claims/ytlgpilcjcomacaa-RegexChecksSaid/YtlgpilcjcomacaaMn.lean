/-
  The program's clear and find.
-/
import Derived.Test.YtlgpilcjcomacaaMl
namespace Go.Proofs.Ytlgpilcjcomacaa
open Go.RowKit Rx
set_option linter.unusedVariables false

/-- A matcher before a try: whatever its groups. -/
structure MB (c : Cx) (n : Nat) (w : World) : Prop where
  c0 : w.cell? ⟨c.bm, 0, none⟩ = some (.string c.s)
  c1 : Holds w c.bm 1 (.int .i64 n)
  c2 : w.cell? ⟨c.bm, 2, none⟩ = some (.int .i64 c.B)
  c3 : ∃ v, Holds w c.bm 3 v
  nB : n ≤ c.B
  lB : c.B ≤ 1000000
  lG : c.G ≤ 9
  sz : c.s.size ≤ 5000
  tr : Touch (fun b => b = c.bm) c.wT w

theorem MB.keep {c : Cx} {n : Nat} {w w' : World} (h : MB c n w) (t : Still w w') : MB c n w' :=
  ⟨t.has h.c0 id, h.c1.keep t id, t.has h.c2 id, by obtain ⟨v, hv⟩ := h.c3; exact ⟨v, hv.keep t id⟩, h.nB, h.lB, h.lG, h.sz, h.tr.trans t (fun _ e => e.elim)⟩
theorem MB.ltm {c : Cx} {n : Nat} {w : World} (h : MB c n w) : c.bm < w.heap.size := h.c1.lt
theorem MB.of {c : Cx} {be n : Nat} {g : Grp} {w : World} {bg : Nat} (h : Inv { c with bg := bg } be n g w) : MB c n w :=
  ⟨h.c0, h.c1, h.c2, ⟨_, h.c3, h.f3⟩, h.nB, h.lB, h.lG, h.sz, h.tr⟩

theorem infoPair' : (Try.prog.info? 40).map (fun i => (i.zero, i.size, i.bytes)) = some (some (.agg #[.int .i64 0, .int .i64 0]), 2, 16) := by kernel_rfl

theorem heap_set2 {w : World} {b : Nat} {cur : List Value} {T : TypeId} (h : w.heap[b]? = some (.cells cur.toArray T (0, 0))) (i : Nat) (x y : Value) :
    ((w.setCell ⟨b, i, none⟩ x).setCell ⟨b, i + 1, none⟩ y).heap[b]? = some (.cells ((cur.set i x).set (i + 1) y).toArray T (0, 0)) := by
  rw [setCell_eq_setRow w b i _ T (0, 0) _ h]
  have h1 := setRow_heap w b _ (cur.toArray.setIfInBounds i x) T (0, 0) h
  rw [setCell_eq_setRow _ b (i + 1) _ T (0, 0) _ h1, setRow_heap _ b _ _ T (0, 0) h1]
  simp

/-- So many of the groups are cleared. -/
def Cleared (G i : Nat) (cur : List Value) : Prop := cur.length = 2 * (G + 1) ∧ ∀ j, j < 2 * i → cur[j]? = some (.int .i64 (-1))
theorem Cleared.next {G i : Nat} {cur : List Value} (h : Cleared G i cur) (hi : i < G + 1) : Cleared G (i + 1) ((cur.set (i * 2) (.int .i64 (-1))).set (i * 2 + 1) (.int .i64 (-1))) := by
  refine ⟨by simp [h.1], fun j hj => ?_⟩
  rw [List.getElem?_set, List.getElem?_set]
  by_cases h1 : i * 2 + 1 = j
  · rw [if_pos h1, if_pos (by rw [List.length_set, h.1]; omega)]
  · rw [if_neg h1]
    by_cases h0 : i * 2 = j
    · rw [if_pos h0, if_pos (by rw [h.1]; omega)]
    · rw [if_neg h0]
      exact h.2 j (by omega)
theorem Cleared.all {G : Nat} {cur : List Value} (h : Cleared G (G + 1) cur) : cur = gl G g0 := by
  apply List.ext_getElem?
  intro j
  by_cases hj : j < 2 * (G + 1)
  · rw [h.2 j hj, gl_get G g0 j hj]
    unfold gv g0
    split <;> rfl
  · rw [List.getElem?_eq_none (by rw [h.1]; omega), List.getElem?_eq_none (by rw [gl_length]; omega)]

set_option maxRecDepth 100000 in
set_option maxHeartbeats 1000000 in
/-- The groups are new, and empty. -/
theorem clear_any (c : Cx) (n : Nat) (w : World) (h : MB c n w) :
    Calls Try.prog 49 #[.pointer (some ⟨c.bm, 0, none⟩), .int .i64 (c.G : Int)] w fun e w' => e = .returned (.tuple #[]) ∧ MB c n w' ∧ w'.cell? ⟨c.bm, 3, none⟩ = some (.slice (some ⟨w.heap.size, 0, none⟩) (c.G + 1) (c.G + 1)) ∧ w'.heap[w.heap.size]? = some (.cells (gl c.G g0).toArray 40 (0, 0)) ∧ Touch (fun b => b = c.bm) w w' := by
  obtain ⟨i0, hi, hz0, hz1, hz2⟩ := info_parts infoPair'
  have HI := Lib.hid hi; clear hi
  obtain ⟨v3, h3⟩ := h.c3
  have hlm := h.ltm
  have hlG := h.lG
  have HH := Lib.hid h
  have hw1 := IntWalk.i64_in ((c.G : Int) + 1) (by omega)
  have HK : Hid ((c.G : Int) + 1 = ((c.G + 1 : Nat) : Int)) := Lib.hid rfl
  obtain ⟨h3c, h3f⟩ := h3
  clear h
  go_enter Try.func49, Try.ntmps49
  go_wp2_with (at_make; (refine wpList_make_full _ rfl (.tmp 7) (.tmp 7) 30 rfl w.heap.size 40 i0 (.agg #[.int .i64 0, .int .i64 0]) 2 Try.underlying30 HI.out hz0 hz1 .i64 .i64 _ _ (c.G + 1) rfl rfl HK.out HK.out (by rw [hz2]; omega) (by unfold maxLen; omega) (Nat.le_refl _) ?_); intro w1 hown hgr; have HOWN := Lib.hid hown; have t1 : Still w w1 := ⟨hgr.os, hgr.tape, hgr.output, hgr.size, fun k hk _ => hgr.block k hk (by simp)⟩; have HT1 := Lib.hid t1; have h3c := t1.has h3c id; have h3f := (t1.frozen (p := ⟨c.bm, 3, none⟩) hlm id).trans h3f; clear hown hgr t1)
  have hrow : ∃ cur : List Value, w1.heap[w.heap.size]? = some (.cells cur.toArray 40 (0, 0)) ∧ cur.length = 2 * (c.G + 1) := by
    rcases HOWN.out.2 with ⟨h, -⟩ | ⟨g, cap, cur, h, -, hb, -, -, hsz, -⟩
    · cases h
    · cases h
      exact ⟨cur.toList, by simpa using hb, by simpa [Nat.mul_comm] using hsz⟩
  obtain ⟨cur0, hb1, hl0⟩ := hrow
  have hn2 : c.bm ≠ w.heap.size := by omega
  obtain ⟨w2, hw2⟩ : ∃ w2, w1.setCell ⟨c.bm, 3, none⟩ (.slice (some ⟨w.heap.size, 0, none⟩) (c.G + 1) (c.G + 1)) = w2 := ⟨_, rfl⟩
  have hm2 : Holds w2 c.bm 3 (.slice (some ⟨w.heap.size, 0, none⟩) (c.G + 1) (c.G + 1)) := by rw [← hw2]; exact Holds.set ⟨h3c, h3f⟩ _
  have T2 : Touch (fun b => b = c.bm) w w2 := by rw [← hw2]; exact Touch.setCell (S := fun b => b = c.bm) (HT1.out.mono (fun _ _ e => e.elim)) (.inl rfl) _
  have hb2 : w2.heap[w.heap.size]? = some (.cells cur0.toArray 40 (0, 0)) := by rw [← hw2]; exact (Below.heap_setCell w1 _ _ _ (Ne.symm hn2)).trans hb1
  have hMB2 : MB c n w2 := by
    have h1 := HH.out.keep HT1.out
    rw [← hw2]
    exact ⟨cell_set_other h1.c0 _ (.inr (by simp)), h1.c1.set_other _ (.inr (by simp)), cell_set_other h1.c2 _ (.inr (by simp)), ⟨_, Holds.set ⟨h3c, h3f⟩ _⟩, h1.nB, h1.lB, h1.lG, h1.sz, Touch.setCell h1.tr (.inl rfl) _⟩
  have HM2 := Lib.hid hMB2; have HT2 := Lib.hid T2; have HB2 := Lib.hid hb2; have H32 := Lib.hid hm2
  have HL0 : Hid (Cleared c.G 0 cur0) := Lib.hid ⟨hl0, fun j hj => by omega⟩
  rw [hw2]
  clear hMB2 T2 hb2 hm2 hb1 hl0 HOWN hw2 h3c h3f HT1
  go_loopw [16] (fun ii wr => ∃ (j : Nat) (cur : List Value), ii = .int .i64 j ∧ j ≤ c.G + 1 ∧ Hid (wr.heap[w.heap.size]? = some (.cells cur.toArray 40 (0, 0))) ∧ Hid (Cleared c.G j cur) ∧ Hid (Touch (fun b => b = w.heap.size) w2 wr)) (fun ii _ => c.G + 1 - (intOf ii).toNat)
  case atStart => exact ⟨0, cur0, rfl, Nat.zero_le _, HB2, HL0, Lib.hid (Touch.refl _ _)⟩
  case round =>
    obtain ⟨j, cur, rfl, hj, HB, HC, HT⟩ := hrel
    by_cases hlt : j < c.G + 1
    · have h3 := HT.out.has H32.out.1 hn2
      have x0 : Holds wr w.heap.size (j * 2) (cur[j * 2]'(by rw [HC.out.1]; omega)) := holds_of_block HB.out (by rw [List.getElem?_eq_getElem])
      have x1 : Holds wr w.heap.size (j * 2 + 1) (cur[j * 2 + 1]'(by rw [HC.out.1]; omega)) := holds_of_block HB.out (by rw [List.getElem?_eq_getElem])
      obtain ⟨x0, xf0⟩ := x0
      obtain ⟨x1, xf1⟩ := x1
      generalize (cur[j * 2]'(by rw [HC.out.1]; omega)) = v0 at x0
      generalize (cur[j * 2 + 1]'(by rw [HC.out.1]; omega)) = v1 at x1
      have HB' := Lib.hid (heap_set2 HB.out (j * 2) (.int .i64 (-1)) (.int .i64 (-1)))
      have HC' := Lib.hid (HC.out.next hlt)
      have HT' : Hid (Touch (fun b => b = w.heap.size) w2 ((wr.setCell ⟨w.heap.size, j * 2, none⟩ (.int .i64 (-1))).setCell ⟨w.heap.size, j * 2 + 1, none⟩ (.int .i64 (-1)))) := Lib.hid (Touch.setCell (Touch.setCell HT.out (.inl rfl) _) (.inl rfl) _)
      go_wp2_with fail
      go_roundw
      case rel => exact ⟨j + 1, _, by go_num, by omega, HB', HC', HT'⟩
      case measure => simp [intOf]; omega
    · obtain rfl : j = c.G + 1 := by omega
      go_wp2_with fail
      go_end0
      have e1 := HC.out.all
      subst e1
      refine ⟨rfl, ?_, HT.out.has H32.out.1 hn2, HB.out, HT2.out.trans HT.out (fun i e => .inr (by omega))⟩
      have h2 := HM2.out
      have t := HT.out
      exact ⟨t.has h2.c0 hn2, h2.c1.keep t hn2, t.has h2.c2 hn2, ⟨_, H32.out.keep t hn2⟩, h2.nB, h2.lB, h2.lG, h2.sz, h2.tr.trans t (fun i e => .inr (by subst e; have := h2.tr.size; have h9 := HH.out.tr.size; exact h9))⟩

theorem enters_find1 (args : Array Value) (w : World) : (callFunc 51 args).run Try.prog w = .ok (.enter 51 args) w :=
  enters_of Try.func51 (by kernel_rfl) rfl args w
theorem find1_any (c : Cx) (a : Re) (p : Value) (hp : (trd c a).node p) (at' : Nat) (ha : at' ≤ c.s.size) (vm vn va : Nat) (w0 : World)
    (h1 : w0.cell? ⟨vm, 0, none⟩ = some (.pointer (some ⟨c.bm, 0, none⟩))) (h2 : w0.cell? ⟨vn, 0, none⟩ = some p) (h3 : w0.cell? ⟨va, 0, none⟩ = some (.int .i64 (at' : Int)))
    (s1 : ¬ S2 c vm) (s2 : ¬ S2 c vn) (s3 : ¬ S2 c va) :
    TryOK c (.func (.func 51) #[] #[.pointer (some ⟨vm, 0, none⟩), .pointer (some ⟨vn, 0, none⟩), .pointer (some ⟨va, 0, none⟩)]) (fun k n g => run (str c.s) c.B a at' k n g) at' w0 := by
  refine ⟨_, _, rfl, enters_find1, fun w be n g kv k t hbe hI hk => ?_⟩
  have k1 := t.has h1 s1
  have k2 := t.has h2 s2
  have k3 := t.has h3 s3
  have HW := Lib.hid ((all_ok c a).1 be p at' kv k n g w hp hI ha hk)
  clear h1 h2 h3 hI hk t hp
  show Calls Try.prog 51 #[kv, .pointer (some ⟨vm, 0, none⟩), .pointer (some ⟨vn, 0, none⟩), .pointer (some ⟨va, 0, none⟩)] w _
  go_enter Try.func51, Try.ntmps51
  go_wp2_with fail
  refine HW.out.mono ?_
  intro e w' hG
  have HG := Lib.hid hG
  rcases hG.ends with rfl | ⟨b, rfl⟩
  · exact ⟨rfl, HG.out⟩
  · clear hG
    go_wp2_with fail
    go_ret
    exact HG.out

/-- The first match from a place on, or nothing behind the end. -/
def fr (s : List UInt8) (B : Nat) (a : Re) (only : Bool) (j n : Nat) : Res := if j ≤ s.length then Rx.find s B a only (s.length - j) j n else .no n
/-- What is done with what a place gives. -/
def frR (f : Nat → Res) (only : Bool) (j : Nat) (r : Res) : Res := match r with
  | .over => .over
  | .no n => if only then .no n else f n
  | .yes n g e => .yes n (upd g 0 ((j : Int), (e : Int))) e
theorem fr_step (s : List UInt8) (B : Nat) (a : Re) (only : Bool) (j n : Nat) (h : j ≤ s.length) : fr s B a only j n = frR (fr s B a only (j + 1)) only j (run s B a j K0 n g0) := by
  unfold fr
  rw [if_pos h]
  by_cases h1 : j + 1 ≤ s.length
  · obtain ⟨r, hr⟩ : ∃ r, s.length - j = r + 1 := ⟨s.length - j - 1, by omega⟩
    rw [hr]
    show (match run s B a j K0 n g0 with | .over => Res.over | .no n => if only then Res.no n else Rx.find s B a only r (j + 1) n | .yes n g e => Res.yes n (upd g 0 ((j : Int), (e : Int))) e) = _
    cases run s B a j K0 n g0 with
    | over => rfl
    | no n =>
      show (if only = true then Res.no n else _) = (if only = true then Res.no n else fr s B a only (j + 1) n)
      unfold fr
      rw [if_pos h1, show s.length - (j + 1) = r by omega]
    | yes n g e => rfl
  · rw [show s.length - j = 0 by omega]
    show (match run s B a j K0 n g0 with | .over => Res.over | .no n => Res.no n | .yes n g e => Res.yes n (upd g 0 ((j : Int), (e : Int))) e) = _
    cases run s B a j K0 n g0 with
    | over => rfl
    | no n =>
      show _ = (if only = true then Res.no n else fr s B a only (j + 1) n)
      unfold fr
      rw [if_neg h1]
      cases only <;> rfl
    | yes n g e => rfl

/-- What comes back of find. -/
def FindP (c : Cx) (w : World) (lo : Nat) : Res → Ending → World → Prop
  | .over, e, w' => e = .panicked [{ v := .iface 112 (.agg #[]), recovered := false }] ∧ Touch (fun b => b = c.bm) w w'
  | .no n, e, w' => e = .returned (.bool false) ∧ MB c n w' ∧ Touch (fun b => b = c.bm) w w'
  | .yes n g x, e, w' => e = .returned (.bool true) ∧ (∃ bg, w.heap.size ≤ bg ∧ (∃ be, Inv { c with bg := bg } be n g w')) ∧ (∃ j : Nat, lo ≤ j ∧ j ≤ x ∧ x ≤ c.s.size ∧ g 0 = ((j : Int), (x : Int))) ∧ Touch (fun b => b = c.bm) w w'

theorem MB.inv {c : Cx} {n : Nat} {w : World} {bg : Nat} {T : TypeId} (h : MB c n w) (h3 : w.cell? ⟨c.bm, 3, none⟩ = some (.slice (some ⟨bg, 0, none⟩) (c.G + 1) (c.G + 1))) (hb : w.heap[bg]? = some (.cells (gl c.G g0).toArray T (0, 0))) (hT : c.wT.heap.size ≤ bg) (hne : c.bm ≠ bg) : Inv { c with bg := bg } w.heap.size n g0 (w.alloc (.cells #[.int .i64 0] 3)) := by
  have t : Still w (w.alloc (.cells #[.int .i64 0] 3)) := (Touch.refl _ _).alloc _
  have hbg : bg < w.heap.size := (Array.getElem?_eq_some_iff.1 hb).1
  have hlm := h.ltm
  have hs := h.tr.size
  obtain ⟨v, hv⟩ := h.c3
  exact ⟨t.has h.c0 id, h.c1.keep t id, t.has h.c2 id, t.has h3 id, ⟨T, (t.block _ hbg id).trans hb⟩, hne, ⟨0, Holds.made w #[.int .i64 0] 3 0 (.int .i64 0) rfl⟩, by show w.heap.size ≠ c.bm; omega, by show w.heap.size ≠ bg; omega, h.nB, h.lB, h.lG, h.sz, fun _ => .inl rfl, h.tr.trans t (fun _ e => e.elim), hT, hs, (t.frozen (p := ⟨c.bm, 3, none⟩) hlm id).trans hv.2⟩

def cellNat (w : World) (p : Value) : Nat := match p with | .pointer (some x) => (match w.cell? x with | some v => (intOf v).toNat | none => 0) | _ => 0
theorem cellNat_at {w : World} {b : Nat} {j : Nat} (h : w.cell? ⟨b, 0, none⟩ = some (.int .i64 (j : Int))) : cellNat w (.pointer (some ⟨b, 0, none⟩)) = j := by
  unfold cellNat
  simp [h, intOf]

set_option maxRecDepth 100000 in
set_option maxHeartbeats 2000000 in
theorem find_any (c : Cx) (a : Re) (p : Value) (hp : (trd c a).node p) (only : Bool) (lo n : Nat) (w : World) (hlo : lo ≤ c.s.size) (h : MB c n w) (hpp : ∃ x, p = .pointer x) :
    Calls Try.prog 31 #[.pointer (some ⟨c.bm, 0, none⟩), p, .int .i64 (c.G : Int), .int .i64 (lo : Int), .bool only] w (FindP c w lo (fr (str c.s) c.B a only lo n)) := by
  obtain ⟨px, rfl⟩ := hpp
  obtain ⟨w3, hw3⟩ : ∃ w3, ((w.alloc (.cells #[.pointer (some ⟨c.bm, 0, none⟩)] 64)).alloc (.cells #[.pointer px] 61)).alloc (.cells #[.int .i64 (lo : Int)] 3) = w3 := ⟨_, rfl⟩
  have T3 : Still w w3 := by rw [← hw3]; exact (((Touch.refl _ _).alloc _).alloc _).alloc _
  have k5 : w3.cell? ⟨w.heap.size, 0, none⟩ = some (.pointer (some ⟨c.bm, 0, none⟩)) := by rw [← hw3]; simp [go_sem]
  have k6 : w3.cell? ⟨w.heap.size + 1, 0, none⟩ = some (.pointer px) := by rw [← hw3]; simp [go_sem]
  have k11 : Holds w3 (w.heap.size + 1 + 1) 0 (.int .i64 (lo : Int)) := by rw [← hw3]; exact ⟨by simp [go_sem], by simp [go_sem]⟩
  have hz3 : w3.heap.size = w.heap.size + 1 + 1 + 1 := by rw [← hw3]; simp
  have hlm := h.ltm
  have hsz := h.sz
  have HM3 := Lib.hid (h.keep T3)
  have HT3 : Hid (Touch (fun b => b = c.bm) w w3) := Lib.hid (T3.mono (fun _ _ e => e.elim))
  have HP := Lib.hid hp
  have HK5 := Lib.hid k5; have HK6 := Lib.hid k6; have HK11 := Lib.hid k11
  have HZ3 := Lib.hid hz3
  have HLM := Lib.hid hlm
  clear h T3 k5 k6 k11 hp hz3
  go_enter Try.func31, Try.ntmps31
  go_wp2_with fail
  clear hw3
  go_loopw [11] (fun p wr => ∃ (bA j n' : Nat), p = .pointer (some ⟨bA, 0, none⟩) ∧ lo ≤ j ∧ j ≤ c.s.size + 1 ∧ Hid (Holds wr bA 0 (.int .i64 j)) ∧ Hid (w.heap.size ≤ bA) ∧ Hid (MB c n' wr) ∧ Hid (Touch (fun b => b = c.bm) w3 wr) ∧ Hid (fr (str c.s) c.B a only lo n = fr (str c.s) c.B a only j n')) (fun p wr => c.s.size + 1 - cellNat wr p)
  case atStart => exact ⟨w.heap.size + 1 + 1, lo, n, rfl, Nat.le_refl _, by omega, HK11, Lib.hid (by omega), HM3, Lib.hid (Touch.refl _ _), Lib.hid rfl⟩
  case round =>
    obtain ⟨bA, j, n', rfl, hj0, hj1, HA, HbA, HM, HT, HE⟩ := hrel
    have hA := HA.out
    obtain ⟨hA1, hA2⟩ := hA
    have hs0 := HM.out.c0
    have n5 : w.heap.size ≠ c.bm := by have := HLM.out; omega
    have n6 : w.heap.size + 1 ≠ c.bm := by have := HLM.out; omega
    have nA : bA ≠ c.bm := by have := HLM.out; have := HbA.out; omega
    have k5 := HT.out.has HK5.out n5
    have k6 := HT.out.has HK6.out n6
    by_cases hle : j ≤ c.s.size
    · have hd : decide (j ≤ c.s.size) = true := by simp; omega
      go_wp2_with fail
      go_quiet (fail)
      go_wp2_with fail
      have HMq := Lib.hid (HM.out.keep ((Touch.refl (fun _ => False) wr).drewN nq))
      have HTq : Hid (Touch (fun b => b = c.bm) w3 (wr.drewN nq)) := Lib.hid (HT.out.drewN nq)
      have k5 : (wr.drewN nq).cell? ⟨w.heap.size, 0, none⟩ = some (.pointer (some ⟨c.bm, 0, none⟩)) := k5
      have k6 : (wr.drewN nq).cell? ⟨w.heap.size + 1, 0, none⟩ = some (.pointer px) := k6
      have hA1 : (wr.drewN nq).cell? ⟨bA, 0, none⟩ = some (.int .i64 (j : Int)) := hA1
      have hAq : bA < (wr.drewN nq).heap.size := block_lt_of_cell hA1
      generalize wr.drewN nq = wq at *
      refine (clear_any c n' wq HMq.out).mono ?_
      rintro e w1 ⟨rfl, hM1, h31, hb1, t1⟩
      have k5 := t1.has k5 n5
      have k6 := t1.has k6 n6
      have hA1 := t1.has hA1 nA
      have hqs := HTq.out.size
      have hz3 := HZ3.out
      have hlmq := HMq.out.ltm
      have htr := HMq.out.tr.size
      have HI1 := Lib.hid (hM1.inv h31 hb1 htr (by omega))
      have HT1 := Lib.hid t1
      have HQ : Hid (wq.heap.size < w1.heap.size) := Lib.hid ((Array.getElem?_eq_some_iff.1 hb1).1)
      obtain ⟨r, hr⟩ : ∃ r, run (str c.s) c.B a j K0 n' g0 = r := ⟨_, rfl⟩
      have HFR : Hid (fr (str c.s) c.B a only lo n = frR (fr (str c.s) c.B a only (j + 1)) only j r) := Lib.hid (by rw [HE.out, fr_step _ _ _ _ _ _ (by rw [str_len]; exact hle), hr])
      have HF := Lib.hid (first_any { c with bg := wq.heap.size } _ _ j n' g0 w1 (find1_any { c with bg := wq.heap.size } a (.pointer px) HP.out j hle _ _ _ w1 k5 k6 hA1 (fun e => e.elim n5 (by intro e; simp only at e; omega)) (fun e => e.elim n6 (by intro e; simp only at e; omega)) (fun e => e.elim nA (by intro e; simp only at e; omega))) HI1.out)
      have HF2 : Hid (Calls Try.prog 50 _ w1 (FirstP { c with bg := wq.heap.size } w1 j g0 r)) := Lib.hid (by rw [← hr]; exact HF.out)
      have HAQ := Lib.hid hAq
      have HNA := Lib.hid nA
      clear HF hr t1 h31 hb1 hM1 hqs hz3 hlmq htr hAq
      go_wp2_with fail
      refine HF2.out.mono ?_
      intro e w2 hG
      clear HF2
      have htch : ∀ (w2 : World), Touch (S2 { c with bg := wq.heap.size }) w1 w2 → Touch (fun b => b = c.bm) w w2 := fun w2 h => (HT3.out.then (HTq.out.then HT1.out)).trans h (fun i e => e.elim .inl (fun e => .inr (by have h1 := HTq.out.size; have h2 := HT3.out.size; simp only at e; omega)))
      have HTC := Lib.hid htch
      clear htch
      cases r with
      | over =>
        obtain ⟨rfl, ht⟩ := hG
        refine ⟨rfl, ?_⟩
        rw [HFR.out]
        exact ⟨rfl, HTC.out _ ht⟩
      | yes n2 h2 x2 =>
        obtain ⟨rfl, hI2, hx1, hx2, ht⟩ := hG
        have k5 := ht.has k5 (fun e => e.elim n5 (by intro e; have h1 := HTq.out.size; have h2 := HZ3.out; simp only at e; omega))
        have hA1 := ht.has hA1 (fun e => e.elim nA (by intro e; have := HAQ.out; simp only at e; omega))
        have h3 := hI2.c3
        have y0 := hI2.g0 0 (Nat.zero_le _)
        have y1 := hI2.g1 0 (Nat.zero_le _)
        simp only [Nat.mul_zero, Nat.zero_add] at y0 y1 h3
        obtain ⟨y0, yf0⟩ := y0
        obtain ⟨y1, yf1⟩ := y1
        have hI9 := (hI2.group 0 (Nat.zero_le _) ((j : Int), (x2 : Int)) (.inr ⟨by simp, by simp; omega, by simp; omega⟩)).keep (Touch.refl (fun _ => False) _).drew
        simp only [Nat.mul_zero, Nat.zero_add] at hI9
        have HT9 : Hid (Touch (fun b => b = c.bm) w ((w2.setCell ⟨wq.heap.size, 0, none⟩ (.int .i64 (j : Int))).setCell ⟨wq.heap.size, 1, none⟩ (.int .i64 (x2 : Int))).drew) := Lib.hid (Touch.setCell (Touch.setCell (HTC.out _ ht) (.inr (by have h1 := HTq.out.size; have h2 := HT3.out.size; show w.heap.size ≤ wq.heap.size; omega)) _) (.inr (by have h1 := HTq.out.size; have h2 := HT3.out.size; show w.heap.size ≤ wq.heap.size; omega)) _).drew
        have HI9 := Lib.hid hI9
        have hG1 : (0 : Int) < (c.G : Int) + 1 := by omega
        clear hI2 ht hI9
        go_wp2_with fail
        go_still_tail 7, (by kernel_rfl)
        change wpList _ _ _ _ _ (World.drew _)
        go_wp2_with fail
        go_ret
        rw [HFR.out]
        refine ⟨rfl, ⟨wq.heap.size, ?_, ⟨_, HI9.out⟩⟩, ⟨j, hj0, hx1, hx2, if_pos rfl⟩, HT9.out⟩
        have h1 := HTq.out.size; have h2 := HT3.out.size; omega
      | no n2 =>
        obtain ⟨⟨x0, rfl⟩, hI2, ht⟩ := hG
        have k5 := ht.has k5 (fun e => e.elim n5 (by intro e; have h1 := HTq.out.size; have h2 := HZ3.out; simp only at e; omega))
        have k6 := ht.has k6 (fun e => e.elim n6 (by intro e; have h1 := HTq.out.size; have h2 := HZ3.out; simp only at e; omega))
        have hA1 := ht.has hA1 (fun e => e.elim nA (by intro e; have := HAQ.out; simp only at e; omega))
        have HM2 := Lib.hid (MB.of hI2)
        have HT2 := Lib.hid (HTC.out _ ht)
        have HT32 : Hid (Touch (fun b => b = c.bm) w3 w2) := Lib.hid ((HTq.out.then HT1.out).trans ht (fun i e => e.elim .inl (fun e => .inr (by have h1 := HTq.out.size; simp only at e; omega))))
        clear hI2 ht
        cases only with
        | true =>
          go_wp2_with fail
          go_ret
          rw [HFR.out]
          exact ⟨rfl, HM2.out, HT2.out⟩
        | false =>
          have hw1 := IntWalk.i64_in ((j : Int) + 1) (by omega)
          go_wp2_with fail
          have HN2 : Hid (Holds (w2.alloc (.cells #[.int .i64 ((j : Int) + 1)] 3)) w2.heap.size 0 (.int .i64 ((j + 1 : Nat) : Int))) := Lib.hid (Holds.made w2 #[.int .i64 ((j : Int) + 1)] 3 0 _ rfl)
          refine ⟨⟨w2.heap.size, j + 1, n2, rfl, by omega, by omega, HN2, Lib.hid ?_, Lib.hid (HM2.out.keep ((Touch.refl _ _).alloc _)), Lib.hid (HT32.out.alloc _), Lib.hid ?_⟩, ?_⟩
          · have h1 := HT2.out.size; exact h1
          · rw [HFR.out]; rfl
          · rw [cellNat_at HN2.out.1, cellNat_at HA.out.1]; omega
    · have hd : decide (j ≤ c.s.size) = false := by simp; omega
      go_wp2_with fail
      go_quiet (fail)
      go_wp2_with fail
      go_ret
      rw [HE.out, show fr (str c.s) c.B a only j n' = .no n' from if_neg (by rw [str_len]; omega)]
      exact ⟨rfl, HM.out.keep ((Touch.refl _ _).drewN _), (HT3.out.then HT.out).drewN _⟩
end Go.Proofs.Ytlgpilcjcomacaa
