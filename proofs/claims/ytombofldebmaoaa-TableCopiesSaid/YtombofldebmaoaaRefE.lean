/-
  The reference's table: Delete, Shift, Copy.
-/
import Derived.Test.YtombofldebmaoaaRefD
namespace Go.Proofs.Ytombofldebmaoaa
open Go.RowKit
set_option linter.unusedVariables false

theorem field86 (a b c : Int) (w : World) : (Instr.field 86 (.agg #[.int .i64 a, .int .i64 b, .int .i64 c]) 1).run Try.prog w = .ok (.int .i64 b) w := by kernel_rfl

section
variable {w : World} {F : Nat → Prop} {b : Nat} {R : PT}

theorem f54_ref (h : Ref w F b R) (k : Int) :
    Calls Try.prog 54 #[.pointer (some ⟨b, 0, none⟩), .int .i64 k] w fun e w' => e = .returned (.tuple #[.int .i64 (R.del k).2.1, .int .i64 (R.del k).2.2]) ∧ RMoves w F b (R.del k).1 w' := by
  have H63 := Lib.hid (f63_ref h)
  have HR := Lib.hid h
  have c2 : w.cell? ⟨b, 2, none⟩ = some (.bool R.frozen) := by obtain ⟨_, _, h⟩ := h; exact h.c2
  have H64 := Lib.hid (f64_ref h k)
  clear h
  cases hfr : R.frozen with
  | true =>
    rw [hfr] at c2
    have e : R.del k = (R, (0, 13)) := by simp [PT.del, hfr]
    rw [e]
    clear e hfr
    go_enter Try.func54, Try.ntmps54
    go_wp2_with (go_at_call 63; refine H63.out.mono ?_; rintro e w' ⟨rfl, rfl⟩)
    go_ret2
    exact ⟨rfl, HR.out.stays (Touch.refl _ _)⟩
  | false =>
    rw [hfr] at c2
    rcases atI_cases R.rows k with ⟨ha, hf⟩ | ⟨i, r, ha, hr, hrk, hf⟩
    · have e : R.del k = (R, (0, 3)) := by simp [PT.del, hfr, hf]
      rw [e]
      rw [ha] at H64
      clear e hfr hf ha
      go_enter Try.func54, Try.ntmps54
      go_wp2_with (first | (go_at_call 63; refine H63.out.mono ?_; rintro e w' ⟨rfl, rfl⟩) | (go_at_call 64; refine H64.out.mono ?_; rintro e w1 ⟨rfl, hw1⟩; have HW1 := Lib.hid hw1; clear hw1))
      go_ret2
      exact ⟨rfl, HR.out.stays HW1.out⟩
    · have e : R.del k = (R.drop i, (r.2.1, 0)) := by simp [PT.del, hfr, hf, hr]
      rw [e]
      rw [ha] at H64
      have HRR := Lib.hid hr
      clear e hfr hf ha hr hrk
      go_enter Try.func54, Try.ntmps54
      go_wp2_with (go_at_call 63; refine H63.out.mono ?_; rintro e w' ⟨rfl, rfl⟩)
      refine H64.out.mono ?_
      rintro e w1 ⟨rfl, hw1⟩
      have HW1 := Lib.hid hw1; clear hw1
      have H70 := Lib.hid (f70_ref (HR.out.still HW1.out) HRR.out)
      go_wp2_with fail
      refine H70.out.mono ?_
      rintro e w3 ⟨rfl, hw3⟩
      have HW3 := Lib.hid hw3; clear hw3
      have hfl := field86 r.1 r.2.1 r.2.2 w3
      go_wp2_with fail
      go_ret2
      exact ⟨rfl, HW3.out.after HW1.out⟩

set_option maxHeartbeats 400000 in
theorem f55_ref (h : Ref w F b R) :
    Calls Try.prog 55 #[.pointer (some ⟨b, 0, none⟩)] w fun e w' => e = .returned (.tuple #[.int .i64 R.shift.2.1, .int .i64 R.shift.2.2.1, .int .i64 R.shift.2.2.2]) ∧ RMoves w F b R.shift.1 w' := by
  have H63 := Lib.hid (f63_ref h)
  have HR := Lib.hid h
  obtain ⟨rv, kv, h⟩ := h
  have c2 := h.c2
  have c3 := h.c3
  obtain ⟨ao, cap, rfl, hcap, hv⟩ := h.viewR
  clear h hv
  cases hfr : R.frozen with
  | true =>
    rw [hfr] at c2
    have e : R.shift = (R, (0, 0, 13)) := by simp [PT.shift, hfr]
    rw [e]
    clear e hfr
    go_enter Try.func55, Try.ntmps55
    go_wp2_with (go_at_call 63; refine H63.out.mono ?_; rintro e w' ⟨rfl, rfl⟩)
    go_ret3
    exact ⟨rfl, HR.out.stays (Touch.refl _ _)⟩
  | false =>
    rw [hfr] at c2
    cases hr : R.rows[0]? with
    | none =>
      have hl : R.rows.length = 0 := by simpa using hr
      have e : R.shift = (R, (0, 0, 3)) := by simp [PT.shift, hfr, hr]
      rw [e]
      rw [hl] at c3
      clear e hfr hr
      go_enter Try.func55, Try.ntmps55
      go_wp2_with (go_at_call 63; refine H63.out.mono ?_; rintro e w' ⟨rfl, rfl⟩)
      go_ret3
      exact ⟨rfl, HR.out.stays (Touch.refl _ _)⟩
    | some r =>
      have hl : 0 < R.rows.length := (List.getElem?_eq_some_iff.1 hr).1
      have e : R.shift = (R.drop 0, (r.1, r.2.1, 0)) := by simp [PT.shift, hfr, hr]
      rw [e]
      have H70 := Lib.hid (f70_ref HR.out hr)
      have hne : ((R.rows.length : Int) == 0) = false := beq_eq_false_iff_ne.2 (by omega)
      clear e hfr hr
      go_enter Try.func55, Try.ntmps55
      go_wp2_with (go_at_call 63; refine H63.out.mono ?_; rintro e w' ⟨rfl, rfl⟩)
      refine H70.out.mono ?_
      rintro e w3 ⟨rfl, hw3⟩
      have HW3 := Lib.hid hw3; clear hw3
      go_wp2_with fail
      go_region
      go_wp2_with fail
      go_ret3
      obtain ⟨F', q1, q2, q3⟩ := HW3.out
      exact ⟨rfl, F', q1.still (((Touch.refl _ _).alloc _).drew), q2.trans (((Touch.refl (fun _ => False) _).alloc _).drew) (fun _ h => h.elim), q3⟩

/-- A copy. -/
def copiedR (R : PT) : PT := { rows := R.rows, next := R.next, walks := [], strict := false, frozen := false }

theorem copy_end {w w4 : World} {R : PT} {ao : Option Addr} {n c : Nat} (hn : R.rows.length = n) (hf : n ≤ 500) (hs : Still w w4) (own4 : w4.ownsRow 0 86 3 (.slice ao n c) n (rowsCells R.rows)) (ho : ∀ k, ownOf (.slice ao n c) k → w.heap.size ≤ k) :
    NewRef w (copiedR R) (.returned (.pointer (some ⟨w4.heap.size, 0, none⟩))) (w4.alloc (.cells #[.bool true, .bool false, .bool false, .slice ao n c, .slice none 0 0, .int .i64 R.next] 60)) := by
  have sz := hs.size
  refine ⟨w4.heap.size, fun k => k = w4.heap.size ∨ ownOf (.slice ao n c) k, rfl, ⟨.slice ao n c, .slice none 0 0, ?_, heap_alloc_new w4 _, ?_, World.ownsRow_nil _ _ _ _, .inl rfl, fun k hk => .inr hk, by simp [Value.ownBlock], ?_⟩, ?_, hs.alloc _⟩
  · show R.rows.length ≤ 500; omega
  · show (w4.alloc _).ownsRow 0 86 3 _ R.rows.length (rowsCells R.rows)
    rw [hn]
    exact own4.alloc _
  · rintro k (rfl | hk)
    · simp
    · obtain ⟨cs, hcs⟩ := owns_kind own4 hk
      have := World.lt_of_heap hcs
      simp; omega
  · rintro k (rfl | hk)
    · exact sz
    · exact ho k hk

theorem NewRef.drew {w w' : World} {R : PT} {e : Ending} (h : NewRef w R e w') : NewRef w R e w'.drew := by
  obtain ⟨b, F, he, h1, hF, hs⟩ := h
  exact ⟨b, F, he, h1.still (Touch.refl _ _).drew, hF, hs.drew⟩

set_option maxHeartbeats 1000000 in
theorem f33_ref (h : Ref w F b R) : Calls Try.prog 33 #[.pointer (some ⟨b, 0, none⟩)] w (NewRef w (copiedR R)) := by
  have H63 := Lib.hid (f63_ref h)
  obtain ⟨rv, kv, h⟩ := h
  have c3 := h.c3
  have c5 := h.c5
  have lb := h.bl
  have hfew := h.few
  have H := Lib.hid h
  obtain ⟨i0, hi0, hz0, hz1, hz2⟩ := info_parts info86
  have HI := Lib.hid hi0; clear hi0
  obtain ⟨n, hn⟩ : ∃ n, R.rows.length = n := ⟨_, rfl⟩
  have HN := Lib.hid hn
  have hfn : n ≤ 500 := by omega
  have hm1 : 0 + n ≤ maxLen := by unfold maxLen; omega
  have HL1 : Hid ((rowsCells R.rows).length = n * 3) := by show _ = _; rw [rowsCells_length, hn]
  rcases h.rows.2 with ⟨hrv, h0⟩ | ⟨g, cap, cur, hrv, _, hgg, hnc, hcm, hcs, htk⟩
  · -- no rows were ever there
    have hnil : R.rows = [] := List.eq_nil_of_length_eq_zero h0
    obtain rfl : n = 0 := by omega
    subst hrv
    have HNIL := Lib.hid hnil
    clear h hn h0 hnil
    go_enter Try.func33, Try.ntmps33
    go_wp2_with (go_at_call 63; refine H63.out.mono ?_; rintro e w' ⟨rfl, rfl⟩)
    go_region
    go_wp2_with fail
    go_ret
    have hc := copy_end (w4 := w.alloc (.cells #[] 86)) (ao := some ⟨w.heap.size, 0, none⟩) (c := 0) HN.out hfn ((Touch.refl _ _).alloc _) (by rw [HNIL.out]; exact owns_empty (heap_alloc_new w _)) (by
      intro k hk
      have e : w.heap.size = k := Option.some.inj hk
      omega)
    rw [show (w.alloc (Obj.cells #[] 86)).heap.size = w.heap.size + 1 by simp] at hc
    exact hc.drew
  · subst hrv
    have HC := Lib.hid h.cellR
    have HE3 : Hid ((w.alloc (.cells #[] 86)).drew.heap[w.heap.size]? = some (.cells #[] 86 (0, 0))) := heap_alloc_new w _
    have HS3 : Hid (Still w (w.alloc (.cells #[] 86)).drew) := ((Touch.refl _ _).alloc _).drew
    have HN1 : Hid (∀ j u, (rowsCells R.rows)[j]? = some u → (w.alloc (.cells #[] 86)).drew.cell? ((⟨g, 0, none⟩ : Addr).add j) = some u) := by
      intro j u hu
      rw [Addr.add_lit, Nat.zero_add]
      exact HC.out _ HS3.out j u hu
    rw [hn] at c3
    clear h hn hgg hcs htk
    go_enter Try.func33, Try.ntmps33
    go_wp2_with (go_at_call 63; refine H63.out.mono ?_; rintro e w' ⟨rfl, rfl⟩)
    go_region_law (refine step_append_any rfl (.tmp 5) (.tmp 9) 57 rfl 86 i0 (.agg #[.int .i64 0, .int .i64 0, .int .i64 0]) 3 24 Try.underlying57 HI.out hz0 hz1 hz2 rfl (by decide) (.slice (some ⟨w.heap.size, 0, none⟩) 0 0) 0 [] (by go_simp) (owns_empty HE3.out) ⟨g, 0, none⟩ n cap (rowsCells R.rows) (by go_simp) HL1.out HN1.out (rowsCells_one _) hm1 (by omega) ?_; intro ao4 c4 w4 own4 g4 o4; have HS4 : Hid (Still w w4) := HS3.out.grown g4 (fun k hk => .inr (by have e : w.heap.size = k := Option.some.inj hk; omega)); have d35 := (HS4.out.cell (p := ⟨b, 5, none⟩) lb (fun h => h)).trans c5; have d33 := (HS4.out.cell (p := ⟨b, 3, none⟩) lb (fun h => h)).trans c3; have HO4 := Lib.hid own4; have HA4 := Lib.hid o4; clear own4 g4 o4)
    all_goals
      go_wp2_with fail
      go_ret
      refine copy_end HN.out hfn HS4.out ?_ ?_
      · simpa using HO4.out
      · intro k hk
        have hk : (Value.slice ao4 (0 + n) c4).ownBlock = some k := by rw [Nat.zero_add]; exact hk
        rcases HA4.out with h | h
        · rw [h] at hk; have e : w.heap.size = k := Option.some.inj hk; omega
        · rw [h] at hk; have e := Option.some.inj hk; simp [World.drew] at e; omega
end

end Go.Proofs.Ytombofldebmaoaa
