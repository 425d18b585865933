/-
  The reading methods of the program's table, and those that write one field: Get, Where, At, First, Len, Frozen, under, Stop, Strict, Freeze.
-/
import Derived.Test.YtombofldebmaoaaWalkB
namespace Go.Proofs.Ytombofldebmaoaa
open Go.RowKit
set_option linter.unusedVariables false

theorem atI_cases (rs : List R3) (k : Int) : (atI rs k = -1 ∧ rs.findIdx? (fun r => r.1 == k) = none) ∨ ∃ (i : Nat) (r : R3), atI rs k = i ∧ rs[i]? = some r ∧ r.1 = k ∧ rs.findIdx? (fun r => r.1 == k) = some i := by
  unfold atI
  cases h : rs.findIdx? (fun r => r.1 == k) with
  | none => exact .inl ⟨rfl, rfl⟩
  | some i =>
    obtain ⟨hlt, hp, _⟩ := List.findIdx?_eq_some_iff_getElem.1 h
    exact .inr ⟨i, rs[i], rfl, by simp [hlt], by simpa using hp, rfl⟩

/-- Get: the value and the error. -/
def getI (rs : List R3) (k : Int) : Int × Int := match rs.findIdx? (fun r => r.1 == k) with | some i => (match rs[i]? with | some r => (r.2.1, 0) | none => (0, 3)) | none => (0, 3)

theorem f20_tab {w : World} {F : Nat → Prop} {b : Nat} {T : PT} (h : Tab w F b T) (hn : T.next < 1099511627776) {k : Int} (hk : (Lit.int .i64 k).wf = true) :
    Calls Try.prog 20 #[.pointer (some ⟨b, 0, none⟩), .int .i64 k] w fun e w' => e = .returned (.tuple #[.int .i64 (getI T.rows k).1, .int .i64 (getI T.rows k).2]) ∧ Still w w' := by
  have H44 := Lib.hid (f44_tab h)
  have H45 := Lib.hid (f45_tab h hn hk)
  obtain ⟨rv, m, kv, h⟩ := h
  have h1 := h.c1
  have hb := h.bl
  have hlt := Lib.hid h.lt
  have hfew := h.ok.few
  rcases atI_cases T.rows k with ⟨ha, hf⟩ | ⟨i, r, ha, hr, hrk, hf⟩
  · have e : getI T.rows k = (0, 3) := by simp [getI, hf]
    rw [e]
    rw [ha] at H45
    clear ha hf h e
    go_enter Try.func20, Try.ntmps20
    go_wp2_with (first | (go_at_call 44; refine H44.out.mono ?_; rintro e w' ⟨rfl, rfl⟩) | (go_at_call 45; refine H45.out.mono ?_; rintro e w1 ⟨rfl, hw1⟩; have HW1 := Lib.hid hw1; clear hw1))
    go_ret2
    exact ⟨rfl, HW1.out⟩
  · have e : getI T.rows k = (r.2.1, 0) := by simp [getI, hf, hr]
    rw [e]
    rw [ha] at H45
    obtain ⟨ao, cap, rfl, hcap, hv⟩ := h.viewR
    obtain ⟨g, hg, hF, ⟨h0', h1', h2'⟩, _⟩ := hv i r hr
    have hi : i < T.rows.length := (List.getElem?_eq_some_iff.1 hr).1
    have hgl := hlt.out g hF
    clear ha hf h hr hrk hv e
    subst hg
    go_enter Try.func20, Try.ntmps20
    go_wp2_with (first | (go_at_call 44; refine H44.out.mono ?_; rintro e w' ⟨rfl, rfl⟩) | (go_at_call 45; refine H45.out.mono ?_; rintro e w1 ⟨rfl, hw1⟩; have c1 := (hw1.cell (p := ⟨b, 1, none⟩) hb (by simp)).trans h1; have c2 := (hw1.cell (p := ⟨g, i * 3 + 1, none⟩) hgl (by simp)).trans h1'; have HW1 := Lib.hid hw1; clear hw1))
    go_ret2
    exact ⟨rfl, HW1.out⟩

/-- Where. -/
def whereI (rs : List R3) (k : Int) : Int × Int := match rs.findIdx? (fun r => r.1 == k) with | some i => ((i : Int), 0) | none => (0, 3)

theorem f42_tab {w : World} {F : Nat → Prop} {b : Nat} {T : PT} (h : Tab w F b T) (hn : T.next < 1099511627776) {k : Int} (hk : (Lit.int .i64 k).wf = true) :
    Calls Try.prog 42 #[.pointer (some ⟨b, 0, none⟩), .int .i64 k] w fun e w' => e = .returned (.tuple #[.int .i64 (whereI T.rows k).1, .int .i64 (whereI T.rows k).2]) ∧ Still w w' := by
  have H44 := Lib.hid (f44_tab h)
  have H45 := Lib.hid (f45_tab h hn hk)
  rcases atI_cases T.rows k with ⟨ha, hf⟩ | ⟨i, r, ha, hr, hrk, hf⟩
  · have e : whereI T.rows k = (0, 3) := by simp [whereI, hf]
    rw [e]
    rw [ha] at H45
    clear ha hf h e
    go_enter Try.func42, Try.ntmps42
    go_wp2_with (first | (go_at_call 44; refine H44.out.mono ?_; rintro e w' ⟨rfl, rfl⟩) | (go_at_call 45; refine H45.out.mono ?_; rintro e w1 ⟨rfl, hw1⟩; have HW1 := Lib.hid hw1; clear hw1))
    go_ret2
    exact ⟨rfl, HW1.out⟩
  · have e : whereI T.rows k = ((i : Int), 0) := by simp [whereI, hf]
    rw [e]
    rw [ha] at H45
    clear ha hf h e hr hrk
    go_enter Try.func42, Try.ntmps42
    go_wp2_with (first | (go_at_call 44; refine H44.out.mono ?_; rintro e w' ⟨rfl, rfl⟩) | (go_at_call 45; refine H45.out.mono ?_; rintro e w1 ⟨rfl, hw1⟩; have HW1 := Lib.hid hw1; clear hw1))
    go_ret2
    exact ⟨rfl, HW1.out⟩

/-- At. -/
def rowI (rs : List R3) (i : Int) : Int × Int × Int := if i < 0 then (0, 0, 3) else match rs[i.toNat]? with | some r => (r.1, r.2.1, 0) | none => (0, 0, 3)

theorem f41_tab {w : World} {F : Nat → Prop} {b : Nat} {T : PT} (h : Tab w F b T) (i : Int) :
    Calls Try.prog 41 #[.pointer (some ⟨b, 0, none⟩), .int .i64 i] w fun e w' => e = .returned (.tuple #[.int .i64 (rowI T.rows i).1, .int .i64 (rowI T.rows i).2.1, .int .i64 (rowI T.rows i).2.2]) ∧ Still w w' := by
  have H44 := Lib.hid (f44_tab h)
  obtain ⟨rv, m, kv, h⟩ := h
  have h1 := h.c1
  have hb := h.bl
  have hfew := h.ok.few
  obtain ⟨ao, cap, rfl, hcap, hv⟩ := h.viewR
  clear h
  by_cases hi0 : i < 0
  · have e : rowI T.rows i = (0, 0, 3) := by simp [rowI, hi0]
    rw [e]; clear e hv
    have hd : decide (i < 0) = true := by simpa using hi0
    go_enter Try.func41, Try.ntmps41
    go_wp2_with (go_at_call 44; refine H44.out.mono ?_; rintro e w' ⟨rfl, rfl⟩)
    go_ret3
    exact ⟨rfl, Touch.refl _ _⟩
  · obtain ⟨j, rfl⟩ := Int.eq_ofNat_of_zero_le (Int.not_lt.1 hi0)
    by_cases hj : j < T.rows.length
    · obtain ⟨r, hr⟩ : ∃ r, T.rows[j]? = some r := ⟨T.rows[j], by simp [hj]⟩
      have e : rowI T.rows j = (r.1, r.2.1, 0) := by simp [rowI, hr]
      rw [e]; clear e
      obtain ⟨g, hg, hF, ⟨h0', h1', h2'⟩, _⟩ := hv j r hr
      clear hv hr hi0
      subst hg
      go_enter Try.func41, Try.ntmps41
      go_wp2_with (go_at_call 44; refine H44.out.mono ?_; rintro e w' ⟨rfl, rfl⟩)
      go_region
      go_wp2
      go_ret3
      exact ⟨rfl, (Touch.refl _ _).drew⟩
    · have e : rowI T.rows j = (0, 0, 3) := by simp [rowI, hj]
      rw [e]; clear e hv hi0
      go_enter Try.func41, Try.ntmps41
      go_wp2_with (go_at_call 44; refine H44.out.mono ?_; rintro e w' ⟨rfl, rfl⟩)
      go_ret3
      exact ⟨rfl, Touch.refl _ _⟩

theorem f39_tab {w : World} {F : Nat → Prop} {b : Nat} {T : PT} (h : Tab w F b T) :
    Calls Try.prog 39 #[.pointer (some ⟨b, 0, none⟩)] w fun e w' => e = .returned (.tuple #[.int .i64 (rowI T.rows 0).1, .int .i64 (rowI T.rows 0).2.1, .int .i64 (rowI T.rows 0).2.2]) ∧ Still w w' := by
  have H41 := Lib.hid (f41_tab h 0)
  generalize rowI T.rows 0 = r at *
  clear h
  go_enter Try.func39, Try.ntmps39
  go_wp2_with (go_at_call 41; refine H41.out.mono ?_; rintro e w1 ⟨rfl, hw1⟩; have HW1 := Lib.hid hw1; clear hw1)
  go_ret3
  exact ⟨rfl, HW1.out⟩

theorem f43_tab {w : World} {F : Nat → Prop} {b : Nat} {T : PT} (h : Tab w F b T) :
    Calls Try.prog 43 #[.pointer (some ⟨b, 0, none⟩)] w fun e w' => e = .returned (.int .i64 T.rows.length) ∧ Still w w' := by
  have H44 := Lib.hid (f44_tab h)
  obtain ⟨rv, m, kv, h⟩ := h
  have h1 := h.c1
  obtain ⟨ao, cap, rfl, hcap, hv⟩ := h.viewR
  clear h hv
  go_enter Try.func43, Try.ntmps43
  go_wp2_with (go_at_call 44; refine H44.out.mono ?_; rintro e w' ⟨rfl, rfl⟩)
  go_ret
  exact ⟨rfl, Touch.refl _ _⟩

theorem f23_tab {w : World} {F : Nat → Prop} {b : Nat} {T : PT} (h : Tab w F b T) :
    Calls Try.prog 23 #[.pointer (some ⟨b, 0, none⟩)] w fun e w' => e = .returned (.bool T.frozen) ∧ Still w w' := by
  have H44 := Lib.hid (f44_tab h)
  obtain ⟨rv, m, kv, h⟩ := h
  have h6 := h.c6
  clear h
  go_enter Try.func23, Try.ntmps23
  go_wp2_with (go_at_call 44; refine H44.out.mono ?_; rintro e w' ⟨rfl, rfl⟩)
  go_ret
  exact ⟨rfl, Touch.refl _ _⟩

theorem f37_tab {w : World} {F : Nat → Prop} {b : Nat} {T : PT} (h : Tab w F b T) (on : Bool) :
    Calls Try.prog 37 #[.pointer (some ⟨b, 0, none⟩), .bool on] w fun e w' => e = .returned (.tuple #[]) ∧ Moves w F b { T with strict := on } w' := by
  have H44 := Lib.hid (f44_tab h)
  obtain ⟨rv, m, kv, h⟩ := h
  have h5 := h.c5
  have z5 := h.z 5
  have HM : Moves w F b { T with strict := on } (w.setCell ⟨b, 5, none⟩ (.bool on)) :=
    ⟨F, ⟨rv, m, kv, h.fields 5 (.bool on) on T.frozen rfl⟩, (touch_setCell _ _ _).mono (fun i _ hi => by rw [hi]; exact h.fb), fun _ h => .inl h⟩
  have HM := Lib.hid HM
  clear h
  go_enter Try.func37, Try.ntmps37
  go_wp2_with (go_at_call 44; refine H44.out.mono ?_; rintro e w' ⟨rfl, rfl⟩)
  go_end0
  exact ⟨rfl, HM.out⟩

theorem f38_tab {w : World} {F : Nat → Prop} {b : Nat} {T : PT} (h : Tab w F b T) :
    Calls Try.prog 38 #[.pointer (some ⟨b, 0, none⟩)] w fun e w' => e = .returned (.tuple #[]) ∧ Moves w F b { T with frozen := true } w' := by
  have H44 := Lib.hid (f44_tab h)
  obtain ⟨rv, m, kv, h⟩ := h
  have h5 := h.c6
  have z5 := h.z 6
  have HM : Moves w F b { T with frozen := true } (w.setCell ⟨b, 6, none⟩ (.bool true)) :=
    ⟨F, ⟨rv, m, kv, h.fields 6 (.bool true) T.strict true rfl⟩, (touch_setCell _ _ _).mono (fun i _ hi => by rw [hi]; exact h.fb), fun _ h => .inl h⟩
  have HM := Lib.hid HM
  clear h
  go_enter Try.func38, Try.ntmps38
  go_wp2_with (go_at_call 44; refine H44.out.mono ?_; rintro e w' ⟨rfl, rfl⟩)
  go_end0
  exact ⟨rfl, HM.out⟩

end Go.Proofs.Ytombofldebmaoaa
