/-
  The document's maker of patterns: its memory, its pick; the text that numbers make; the law's some.
-/
import Derived.Test.YtlgpilcjcomacaaGreatAb
import Derived.Lib.SlBytesRow
import Derived.Laws.AppendOwn
import Derived.Lib.BufferRead
namespace Go.Proofs.YtlgpilcjcomacaaGreat
open Go.RowKit Rx
set_option linter.unusedVariables false

/-- int(uint(x) % uint(n)). -/
theorem urem (x : Int) (n : Nat) (hn : 0 < n) (hn2 : n ≤ 100000) : ∃ k : Nat, wrap64 ((IntKind.u64.wrap x).tmod (n : Int)) = (k : Int) ∧ k < n := by
  rw [IntKind.wrap_u64, Int.tmod_eq_emod_of_nonneg (by omega)]
  have h1 : 0 ≤ x % 18446744073709551616 % (n : Int) := Int.emod_nonneg _ (by omega)
  have h2 : x % 18446744073709551616 % (n : Int) < (n : Int) := Int.emod_lt_of_pos _ (by omega)
  rw [IntWalk.wrap64_in _ (by omega)]
  exact ⟨(x % 18446744073709551616 % (n : Int)).toNat, by omega, by omega⟩

/-- A row of numbers in memory. -/
structure IntsIn (w : World) (ao : Option Addr) (len cap : Nat) : Prop where
  le : len ≤ 17592186044416
  at' : ∀ j, j < len → ∃ a x, ao = some a ∧ w.cell? (a.add j) = some (.int .i64 x) ∧ (Lit.int .i64 x).wf = true

/-- The maker in memory. -/
structure GR (w0 : World) (b : Nat) (ao : Option Addr) (len cap : Nat) (pl : Bool) (at' gs : Nat) (w : World) : Prop where
  c0 : w.cell? ⟨b, 0, none⟩ = some (.slice ao len cap)
  c1 : Holds w b 1 (.int .i64 at')
  c2 : Holds w b 2 (.int .i64 gs)
  c3 : w.cell? ⟨b, 3, none⟩ = some (.bool pl)
  li : IntsIn w0 ao len cap
  tr : Still w0 w
  hb : w0.heap.size ≤ b
  le : at' ≤ len
  g9 : gs ≤ 9

theorem GR.keep {w0 : World} {b : Nat} {ao : Option Addr} {len cap : Nat} {pl : Bool} {at' gs : Nat} {w w' : World} (h : GR w0 b ao len cap pl at' gs w) (t : Still w w') : GR w0 b ao len cap pl at' gs w' :=
  ⟨t.has h.c0 id, h.c1.keep t id, h.c2.keep t id, t.has h.c3 id, h.li, h.tr.then t, h.hb, h.le, h.g9⟩
theorem GR.next {w0 : World} {b : Nat} {ao : Option Addr} {len cap : Nat} {pl : Bool} {at' gs : Nat} {w : World} (h : GR w0 b ao len cap pl at' gs w) (hl : at' < len) : GR w0 b ao len cap pl (at' + 1) gs (w.setCell ⟨b, 1, none⟩ (.int .i64 ((at' + 1 : Nat) : Int))) :=
  ⟨cell_set_other h.c0 _ (.inr (by simp)), h.c1.set _, h.c2.set_other _ (.inr (by simp)), cell_set_other h.c3 _ (.inr (by simp)), h.li, h.tr.setCell (.inr h.hb) _, h.hb, hl, h.g9⟩
theorem GR.group {w0 : World} {b : Nat} {ao : Option Addr} {len cap : Nat} {pl : Bool} {at' gs : Nat} {w : World} (h : GR w0 b ao len cap pl at' gs w) (hl : gs < 9) : GR w0 b ao len cap pl at' (gs + 1) (w.setCell ⟨b, 2, none⟩ (.int .i64 ((gs + 1 : Nat) : Int))) :=
  ⟨cell_set_other h.c0 _ (.inr (by simp)), h.c1.set_other _ (.inr (by simp)), h.c2.set _, cell_set_other h.c3 _ (.inr (by simp)), h.li, h.tr.setCell (.inr h.hb) _, h.hb, h.le, hl⟩

/-- What pick gives: the same number wherever the maker lies. -/
def PickP (w0 : World) (b : Nat) (ao : Option Addr) (len cap : Nat) (pl : Bool) (gs k at2 : Nat) (w : World) (e : Ending) (w' : World) : Prop :=
  e = .returned (.int .i64 (k : Int)) ∧ GR w0 b ao len cap pl at2 gs w' ∧ Touch (fun i => i = b) w w'

set_option maxRecDepth 100000 in
set_option maxHeartbeats 4000000 in
theorem pick_det (w0 : World) (b : Nat) (ao : Option Addr) (len cap : Nat) (pl : Bool) (at' n : Nat) (hli : IntsIn w0 ao len cap) (hle : at' ≤ len) (hn : 0 < n) (hn2 : n ≤ 16) :
    ∃ k at2 : Nat, k < n ∧ at' ≤ at2 ∧ at2 ≤ len ∧ (k ≠ 0 → at' < at2) ∧ ∀ gs w, GR w0 b ao len cap pl at' gs w → Calls Tryz.prog 55 #[.pointer (some ⟨b, 0, none⟩), .int .i64 (n : Int)] w (PickP w0 b ao len cap pl gs k at2 w) := by
  have hlm := hli.le
  by_cases hlt : at' < len
  · obtain ⟨a, x, rfl, hx, hwf⟩ := hli.at' at' hlt
    obtain ⟨k, hk, hkn⟩ := urem x n hn (by omega)
    refine ⟨k, at' + 1, hkn, by omega, hlt, fun _ => by omega, fun gs w h => ?_⟩
    have HG := Lib.hid h
    have d0 := h.c0
    have d1 := h.c1
    obtain ⟨d1, f1⟩ := d1
    have hwn := IntWalk.u64_in (n : Int) (by omega)
    have hn0 : ¬ n = 0 := by omega
    have hw2 := IntWalk.i64_in (at' : Int) (by omega)
    have hw3 := IntWalk.i64_in ((at' : Int) + 1 - 1) (by omega)
    have HK := Lib.hid hk
    have q1 : decide ((len : Int) ≤ (at' : Int)) = false := decide_eq_false (by omega)
    have q1n : decide (len ≤ at') = false := decide_eq_false (by omega)
    have hw1 := IntWalk.i64_in ((at' : Int) + 1) (by omega)
    have hx2 := h.tr.has hx id
    have hx3 : (w.setCell ⟨b, 1, none⟩ (.int .i64 ((at' + 1 : Nat) : Int))).cell? (a.add at') = some (.int .i64 x) := (World.cell?_setCell_other _ _ _ _ (by intro e; have h1 := block_lt_of_cell hx; have h2 := congrArg Addr.block e; have h3 := h.hb; simp [Addr.add] at h1 h2; omega)).trans hx2
    have HX3 := Lib.hid hx3
    clear h hx hx2 hx3 hk
    go_enter Tryz.func55, Tryz.ntmps55
    go_wp2_with fail
    go_quiet (fail)
    go_wp2_with fail
    obtain ⟨w5, hw5⟩ : ∃ w5, (w.drewN nq).setCell ⟨b, 1, none⟩ (.int .i64 ((at' : Int) + 1)) = w5 := ⟨_, rfl⟩
    have HG5 : Hid (GR w0 b (some a) len cap pl (at' + 1) gs w5) := Lib.hid (by rw [← hw5]; exact (HG.out.keep ((Touch.refl _ _).drewN nq)).next hlt)
    have HT5 : Hid (Touch (fun i => i = b) w w5) := Lib.hid (by rw [← hw5]; exact Touch.setCell ((Touch.refl (fun i => i = b) w).drewN nq) (.inl rfl) _)
    have hx5 : w5.cell? (a.add at') = some (.int .i64 x) := by rw [← hw5]; exact HX3.out
    have e0 := HG5.out.c0
    have e1 := HG5.out.c1.1
    rw [show ((at' + 1 : Nat) : Int) = (at' : Int) + 1 from rfl] at e1
    rw [hw5]
    clear hw5 d0 d1 f1
    go_quiet (fail)
    go_wp2_with fail
    go_ret
    exact ⟨by rw [HK.out]; rfl, HG5.out.keep ((Touch.refl _ _).drewN _), HT5.out.drewN _⟩
  · refine ⟨0, at', hn, Nat.le_refl _, hle, fun h => absurd rfl h, fun gs w h => ?_⟩
    have HG := Lib.hid h
    have d0 := h.c0
    have d1 := h.c1
    obtain ⟨d1, f1⟩ := d1
    have q1 : decide ((len : Int) ≤ (at' : Int)) = true := decide_eq_true (by omega)
    have q1n : decide (len ≤ at') = true := decide_eq_true (by omega)
    clear h
    go_enter Tryz.func55, Tryz.ntmps55
    go_wp2_with fail
    go_quiet (fail)
    go_wp2_with fail
    go_ret
    exact ⟨rfl, HG.out.keep ((Touch.refl _ _).drewN _), (Touch.refl _ _).drewN _⟩

set_option maxRecDepth 100000 in
theorem some_any (n : Int) (hn : (Lit.int .i64 n).wf = true) (w : World) :
    Calls Tryz.prog 23 #[.int .i64 n] w fun e w' => (∃ k : Nat, e = .returned (.int .i64 (k : Int)) ∧ k < 4000) ∧ w' = w := by
  go_enter Tryz.func23, Tryz.ntmps23
  go_wp2_with fail
  go_ret
  obtain ⟨k, hk, hl⟩ := urem n 4000 (by decide) (by decide)
  exact ⟨⟨k, by rw [← hk]; rfl, hl⟩, rfl⟩

theorem infoByte : (Tryz.prog.info? 5).map (fun i => (i.zero, i.size, i.bytes)) = some (some (.int .u8 0), 1, 1) := by kernel_rfl

/-- A row of bytes that the call owns, as a string. -/
theorem conv_bytes {w : World} {B n : Nat} {v : Value} {l : List UInt8} (hn : n = l.length) (h : w.ownsRow B 5 1 v n (Lib.byteCells l)) : (convert 76 9 v).run Tryz.prog w = .ok (.string ⟨l.toArray⟩) w := by
  subst hn
  rcases h.2 with ⟨rfl, h0⟩ | ⟨g, cap, cur, rfl, hB, hg, hn, hm, hs, ht⟩
  · have : l = [] := List.eq_nil_of_length_eq_zero h0
    subst this
    exact Go.Lib.run_convert_nil_bytes (P := Tryz.prog) w 76 9 5 0 Tryz.underlying76 Tryz.underlying5 Tryz.underlying9
  · have hsz : (⟨l.toArray⟩ : ByteArray).size = l.length := by simp [ByteArray.size]
    have h2 := Go.Lib.run_convert_whole (P := Tryz.prog) w 76 5 9 Tryz.underlying76 Tryz.underlying5 Tryz.underlying9 g 0 (⟨l.toArray⟩ : ByteArray) (by
      intro i hi
      have hi' : i < l.length := by rw [← hsz]; exact hi
      have h3 : (Lib.byteCells l)[i]? = some (Value.int .u8 ((l[i]'hi').toNat : Int)) := by
        unfold Lib.byteCells
        rw [List.getElem?_map, List.getElem?_eq_getElem hi']
        rfl
      rw [← ht, List.getElem?_take_of_lt (by omega)] at h3
      rw [Nat.zero_add]
      unfold World.cell?
      simp only [hg]
      rw [← Array.getElem?_toList]
      exact h3) cap
    rw [hsz] at h2
    exact h2

def textedOf : List UInt8 := [97, 97, 97, 98, 98, 98, 99, 99, 99, 45, 49, 32, 10, 122]

set_option maxRecDepth 100000 in
set_option maxHeartbeats 4000000 in
theorem texted_any (ao : Option Addr) (len cap : Nat) (w : World) (h : IntsIn w ao len cap) :
    Calls Tryz.prog 21 #[.slice ao len cap] w fun e w' => (∃ s : ByteArray, e = .returned (.string s) ∧ s.size ≤ 14) ∧ Still w w' := by
  obtain ⟨i0, hi, hz0, hz1, hz2⟩ := info_parts infoByte
  have HI := Lib.hid hi; clear hi
  have HL := Lib.hid h
  have hlm := h.le
  clear h
  go_enter Tryz.func21, Tryz.ntmps21
  go_wp2_with fail
  go_loopw [3, 4] (fun v i wr => ∃ (j : Nat) (out : List UInt8), i = .int .i64 j ∧ j ≤ 14 ∧ j ≤ len ∧ out.length = j ∧ Hid (wr.ownsRow w.heap.size 5 1 v out.length (Lib.byteCells out)) ∧ Hid (Below w.heap.size w wr)) (fun _ i _ => 14 - (intOf i).toNat)
  case atStart => exact ⟨0, [], rfl, by omega, Nat.zero_le _, rfl, Lib.hid (World.ownsRow_nil _ _ _ _), Lib.hid (Below.refl _ _)⟩
  case round =>
    obtain ⟨j, out, rfl, hj, hjl, hol, HO, HWR⟩ := hrel
    have hbw := HWR.out.size
    by_cases hlt : j < len
    · by_cases h14 : j < 14
      · obtain ⟨a, x, hao, hx, hwf⟩ := HL.out.at' j hlt
        have hx2 := (HWR.out.cell (block_lt_of_cell hx)).trans hx
        subst hao
        have q1 : decide ((j : Int) < (len : Int)) = true := decide_eq_true (by omega)
        have q1n : decide (j < len) = true := decide_eq_true hlt
        have q2 : decide ((j : Int) < 14) = true := decide_eq_true (by omega)
        have q2n : decide (j < 14) = true := decide_eq_true h14
        obtain ⟨k, hk, hk14⟩ : ∃ k : Nat, (IntKind.u64.wrap x).tmod 14 = (k : Int) ∧ k < 14 := by
          rw [IntKind.wrap_u64, Int.tmod_eq_emod_of_nonneg (by omega)]
          exact ⟨(x % 18446744073709551616 % 14).toNat, by omega, by omega⟩
        obtain ⟨c, hc⟩ : ∃ c : UInt8, (⟨#[97, 97, 97, 98, 98, 98, 99, 99, 99, 45, 49, 32, 10, 122]⟩ : ByteArray)[k]'(by simpa [ByteArray.size] using hk14) = c := ⟨_, rfl⟩
        go_wp2_with (at_builtin; refine wpList_append_own _ rfl (.tmp 15) (.tmp 23) 76 rfl w.heap.size 5 i0 (.int .u8 0) 1 1 Tryz.underlying76 HI.out hz0 hz1 hz2 rfl (by decide) _ _ _ rfl (HO.out.alloc _) ⟨wr.heap.size, 0, none⟩ 1 1 (Lib.byteCells [c]) rfl rfl ?c1 ?c2 ?c3 ?c4 ?c5 ?_)
        case c1 =>
          intro i u hu
          cases i with
          | zero => cases hu; simp [go_sem]
          | succ i => cases hu
        case c2 => intro u hu; simp [Lib.byteCells] at hu; subst hu; rfl
        case c3 => unfold maxLen; omega
        case c4 => omega
        case c5 => simp; omega
        intro v' w4 hown' hgrow _
        have HR : Hid (Below w.heap.size w w4 ∧ w4.ownsRow w.heap.size 5 1 v' (out ++ [c]).length (Lib.byteCells (out ++ [c]))) := Lib.hid ⟨(HWR.out.alloc hbw _).grown hgrow (by simp; omega) (fun k hk => (HO.out.lt k hk).1), by
          rw [Lib.byteCells_append, List.length_append, hol]
          exact hown'⟩
        clear hown' hgrow
        have hw9 := IntWalk.i64_in ((j : Int) + 1) (by omega)
        go_wp2_with fail
        go_roundw
        case rel => exact ⟨j + 1, out ++ [c], by go_num, by omega, by omega, by rw [List.length_append, hol]; rfl, Lib.hid HR.out.2, Lib.hid HR.out.1⟩
        case measure => simp [intOf]; omega
      · have q1 : decide ((j : Int) < (len : Int)) = true := decide_eq_true (by omega)
        have q1n : decide (j < len) = true := decide_eq_true hlt
        have q2 : decide ((j : Int) < 14) = false := decide_eq_false (by omega)
        have q2n : decide (j < 14) = false := decide_eq_false h14
        have hcv := conv_bytes rfl HO.out
        go_wp2_with fail
        go_ret
        exact ⟨⟨_, rfl, by simp [ByteArray.size]; omega⟩, Touch.ofBelow HWR.out⟩
    · have q1 : decide ((j : Int) < (len : Int)) = false := decide_eq_false (by omega)
      have q1n : decide (j < len) = false := decide_eq_false hlt
      have hcv := conv_bytes rfl HO.out
      go_wp2_with fail
      go_ret
      exact ⟨⟨_, rfl, by simp [ByteArray.size]; omega⟩, Touch.ofBelow HWR.out⟩
end Go.Proofs.YtlgpilcjcomacaaGreat
