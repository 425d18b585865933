/-
  Delete, Shift, Put, Walk, New, Copy.
-/
import Derived.Test.YtombofldebmaoaaWalkI
namespace Go.Proofs.Ytombofldebmaoaa
open Go.RowKit
set_option linter.unusedVariables false

theorem Moves.after {w w1 w2 : World} {F : Nat → Prop} {b : Nat} {T : PT} (ht : Still w w1) (h : Moves w1 F b T w2) : Moves w F b T w2 := by
  obtain ⟨F', h1, h2, h3⟩ := h
  refine ⟨F', h1, (ht.mono (fun _ _ h => h.elim)).then h2, fun k hk => ?_⟩
  rcases h3 k hk with h | h
  · exact .inl h
  · have := ht.size; exact .inr (by omega)

theorem Moves.then {w w1 w2 : World} {F F1 : Nat → Prop} {b : Nat} {T : PT} (ht : Touch F w w1) (hs : ∀ k, F1 k → F k ∨ w.heap.size ≤ k) (h : Moves w1 F1 b T w2) : Moves w F b T w2 := by
  obtain ⟨F', h1, h2, h3⟩ := h
  refine ⟨F', h1, ht.trans h2 hs, fun k hk => ?_⟩
  rcases h3 k hk with h | h
  · exact hs k h
  · have := ht.size; exact .inr (by omega)

theorem Moves.before {w w1 w2 : World} {F : Nat → Prop} {b : Nat} {T : PT} (h : Moves w F b T w1) (ht : Still w1 w2) : Moves w F b T w2 := by
  obtain ⟨F', h1, h2, h3⟩ := h
  exact ⟨F', h1.still ht, h2.then (ht.mono (fun _ _ h => h.elim)), h3⟩

theorem field76 (a b c : Int) (w : World) : (Instr.field 76 (.agg #[.int .i64 a, .int .i64 b, .int .i64 c]) 1).run Try.prog w = .ok (.int .i64 b) w := by kernel_rfl

/-- Delete: the table behind it; value, error. -/
def PT.del (T : PT) (k : Int) : PT × (Int × Int) :=
  if T.frozen then (T, (0, 13)) else
  match T.rows.findIdx? (fun r => r.1 == k) with
  | none => (T, (0, 3))
  | some i => match T.rows[i]? with
    | some r => (T.drop i, (r.2.1, 0))
    | none => (T, (0, 3))

set_option maxHeartbeats 400000 in
theorem f15_tab {w : World} {F : Nat → Prop} {b : Nat} {T : PT} (h : Tab w F b T) (hn : T.next < 1099511627776) {k : Int} (hk : (Lit.int .i64 k).wf = true) :
    Calls Try.prog 15 #[.pointer (some ⟨b, 0, none⟩), .int .i64 k] w fun e w' => e = .returned (.tuple #[.int .i64 (T.del k).2.1, .int .i64 (T.del k).2.2]) ∧ Moves w F b (T.del k).1 w' := by
  have H44 := Lib.hid (f44_tab h)
  have HT := Lib.hid h
  have h6 : w.cell? ⟨b, 6, none⟩ = some (.bool T.frozen) := by obtain ⟨_, _, _, h⟩ := h; exact h.c6
  clear h
  cases hfr : T.frozen with
  | true =>
    rw [hfr] at h6
    have e : T.del k = (T, (0, 13)) := by simp [PT.del, hfr]
    rw [e]
    clear e hfr
    go_enter Try.func15, Try.ntmps15
    go_wp2_with (go_at_call 44; refine H44.out.mono ?_; rintro e w' ⟨rfl, rfl⟩)
    go_ret2
    exact ⟨rfl, HT.out.stays (Touch.refl _ _)⟩
  | false =>
    rw [hfr] at h6
    have H45 := Lib.hid (f45_tab HT.out hn hk)
    rcases atI_cases T.rows k with ⟨ha, hf⟩ | ⟨i, r, ha, hr, hrk, hf⟩
    · have e : T.del k = (T, (0, 3)) := by simp [PT.del, hfr, hf]
      rw [e]
      rw [ha] at H45
      clear e hfr hf ha
      go_enter Try.func15, Try.ntmps15
      go_wp2_with (first | (go_at_call 44; refine H44.out.mono ?_; rintro e w' ⟨rfl, rfl⟩) | (go_at_call 45; refine H45.out.mono ?_; rintro e w1 ⟨rfl, hw1⟩; have HW1 := Lib.hid hw1; clear hw1))
      go_ret2
      exact ⟨rfl, HT.out.stays HW1.out⟩
    · have e : T.del k = (T.drop i, (r.2.1, 0)) := by simp [PT.del, hfr, hf, hr]
      rw [e]
      rw [ha] at H45
      have HR := Lib.hid hr
      have HA := Lib.hid ha
      clear e hfr hf ha hr hrk
      go_enter Try.func15, Try.ntmps15
      go_wp2_with (go_at_call 44; refine H44.out.mono ?_; rintro e w' ⟨rfl, rfl⟩)
      refine H45.out.mono ?_
      rintro e w1 ⟨rfl, hw1⟩
      have HW1 := Lib.hid hw1; clear hw1
      have H45' := f45_tab (HT.out.still HW1.out) hn hk
      rw [HA.out] at H45'
      have H45' := Lib.hid H45'
      go_wp2_with fail
      refine H45'.out.mono ?_
      rintro e w2 ⟨rfl, hw2⟩
      have HW2 := Lib.hid hw2; clear hw2
      have H49 := Lib.hid (f49_tab ((HT.out.still HW1.out).still HW2.out) hn HR.out)
      go_wp2_with fail
      refine H49.out.mono ?_
      rintro e w3 ⟨rfl, hw3⟩
      have HW3 := Lib.hid hw3; clear hw3
      have hfl := field76 r.1 r.2.1 r.2.2 w3
      go_wp2_with fail
      go_ret2
      exact ⟨rfl, (HW3.out.after HW2.out).after HW1.out⟩

/-- Shift. -/
def PT.shift (T : PT) : PT × (Int × Int × Int) :=
  if T.frozen then (T, (0, 0, 13)) else
  match T.rows[0]? with
  | some r => (T.drop 0, (r.1, r.2.1, 0))
  | none => (T, (0, 0, 3))

set_option maxHeartbeats 400000 in
theorem f40_tab {w : World} {F : Nat → Prop} {b : Nat} {T : PT} (h : Tab w F b T) (hn : T.next < 1099511627776) :
    Calls Try.prog 40 #[.pointer (some ⟨b, 0, none⟩)] w fun e w' => e = .returned (.tuple #[.int .i64 T.shift.2.1, .int .i64 T.shift.2.2.1, .int .i64 T.shift.2.2.2]) ∧ Moves w F b T.shift.1 w' := by
  have H44 := Lib.hid (f44_tab h)
  have HT := Lib.hid h
  obtain ⟨rv, m, kv, h⟩ := h
  have h6 := h.c6
  have h1 := h.c1
  obtain ⟨ao, cap, rfl, hcap, _⟩ := h.viewR
  clear h
  cases hfr : T.frozen with
  | true =>
    rw [hfr] at h6
    have e : T.shift = (T, (0, 0, 13)) := by simp [PT.shift, hfr]
    rw [e]
    clear e hfr
    go_enter Try.func40, Try.ntmps40
    go_wp2_with (go_at_call 44; refine H44.out.mono ?_; rintro e w' ⟨rfl, rfl⟩)
    go_ret3
    exact ⟨rfl, HT.out.stays (Touch.refl _ _)⟩
  | false =>
    rw [hfr] at h6
    cases hr : T.rows[0]? with
    | none =>
      have e : T.shift = (T, (0, 0, 3)) := by simp only [PT.shift, hfr, hr]; rfl
      rw [e]
      have hl : T.rows.length = 0 := by simpa using hr
      rw [hl] at h1
      clear e hfr hr hl
      go_enter Try.func40, Try.ntmps40
      go_wp2_with (go_at_call 44; refine H44.out.mono ?_; rintro e w' ⟨rfl, rfl⟩)
      go_ret3
      exact ⟨rfl, HT.out.stays (Touch.refl _ _)⟩
    | some r =>
      have e : T.shift = (T.drop 0, (r.1, r.2.1, 0)) := by simp only [PT.shift, hfr, hr]; rfl
      rw [e]
      have hl : 0 < T.rows.length := (List.getElem?_eq_some_iff.1 hr).1
      have hl2 : ((T.rows.length : Int) == 0) = false := beq_eq_false_iff_ne.2 (by omega)
      have H49 := Lib.hid (f49_tab HT.out hn hr)
      clear e hfr hr
      go_enter Try.func40, Try.ntmps40
      go_wp2_with (first | (go_at_call 44; refine H44.out.mono ?_; rintro e w' ⟨rfl, rfl⟩) | (go_at_call 49; refine H49.out.mono ?_; rintro e w1 ⟨rfl, hw1⟩; have HW1 := Lib.hid hw1; clear hw1))
      go_region
      go_wp2
      go_ret3
      exact ⟨rfl, HW1.out.before ((Touch.refl _ _).alloc _).drew⟩

/-- A value set in a row. -/
def setVal (rs : List R3) (i : Nat) (v : Int) : List R3 := rs.modify i (fun r => (r.1, v, r.2.2))

/-- Put: the table behind it; the error. -/
def PT.put (T : PT) (k v : Int) : PT × Int :=
  if T.frozen then (T, 13) else
  match T.rows.findIdx? (fun r => r.1 == k) with
  | some i => ({ T with rows := setVal T.rows i v }, 0)
  | none => if T.strict && decide (0 < opens T.walks) then (T, 8) else if T.rows.length = 500 then (T, 9) else (T.add k v, 0)

theorem setVal_get (rs : List R3) (i : Nat) (v : Int) (j : Nat) : (setVal rs i v)[j]? = (rs[j]?).map (fun r => if i = j then (r.1, v, r.2.2) else r) := by
  unfold setVal
  rw [List.getElem?_modify]
  cases rs[j]? with
  | none => rfl
  | some r => by_cases h : i = j <;> simp [h]

theorem setVal_length (rs : List R3) (i : Nat) (v : Int) : (setVal rs i v).length = rs.length := by simp [setVal]

theorem setVal_keys (rs : List R3) (i : Nat) (v : Int) : (setVal rs i v).map (fun r => (r.1, r.2.2)) = rs.map (fun r => (r.1, r.2.2)) := by
  apply List.ext_getElem?
  intro j
  rw [List.getElem?_map, List.getElem?_map, setVal_get]
  cases rs[j]? with
  | none => rfl
  | some r => by_cases h : i = j <;> simp [h]

/-- What hangs on keys and numbers alone. -/
theorem numOf_keys {rs qs : List R3} (h : rs.map (fun r => (r.1, r.2.2)) = qs.map (fun r => (r.1, r.2.2))) (x : Int) : numOf rs x = numOf qs x := by
  have c : ∀ l : List R3, numOf l x = ((l.map (fun r => (r.1, r.2.2))).find? (fun p => p.1 == x)).map (fun p => p.2) := by
    intro l
    induction l with
    | nil => rfl
    | cons y l ih =>
      by_cases hy : (y.1 == x) = true
      · simp [numOf, hy]
      · have hy : (y.1 == x) = false := by simpa using hy
        simp only [numOf, List.map_cons, List.find?_cons, hy]
        exact ih
  rw [c, c, h]

theorem rowsCells_set (rs : List R3) (i : Nat) (v : Int) : (rowsCells rs).set (i * 3 + 1) (.int .i64 v) = rowsCells (setVal rs i v) := by
  induction rs generalizing i with
  | nil => simp [rowsCells, setVal]
  | cons x rs ih =>
    cases i with
    | zero => simp [rowsCells_cons, rowCells, setVal]
    | succ i =>
      have e1 : (i + 1) * 3 + 1 = (i * 3 + 1) + 1 + 1 + 1 := by omega
      have ih := ih i
      simp only [setVal] at ih ⊢
      rw [e1]
      simp only [rowsCells_cons, rowCells, List.cons_append, List.nil_append, List.set_cons_succ, ih, List.modify_succ_cons]

theorem PT.ok.setVal {T : PT} (h : T.ok) (i : Nat) (v : Int) : ({ T with rows := setVal T.rows i v } : PT).ok := by
  have hk := setVal_keys T.rows i v
  have hm : ∀ r ∈ Ytombofldebmaoaa.setVal T.rows i v, ∃ q ∈ T.rows, q.1 = r.1 ∧ q.2.2 = r.2.2 := by
    intro r hr
    have : (r.1, r.2.2) ∈ T.rows.map (fun r => (r.1, r.2.2)) := by rw [← hk]; exact List.mem_map_of_mem hr
    obtain ⟨q, hq, e⟩ := List.mem_map.1 this
    simp only [Prod.mk.injEq] at e
    exact ⟨q, hq, e.1, e.2⟩
  refine ⟨?_, ?_, ?_, ?_, ?_⟩
  · simp only [setVal_length]; exact h.few
  · have s := h.sorted
    have c : ∀ l : List R3, l.Pairwise (fun a b => a.2.2 < b.2.2) ↔ (l.map (fun r => (r.1, r.2.2))).Pairwise (fun a b => a.2 < b.2) := fun l => by rw [List.pairwise_map]
    rw [c] at s ⊢
    rw [hk]; exact s
  · intro r hr
    obtain ⟨q, hq, _, e⟩ := hm r hr
    rw [← e]; exact h.nums q hq
  · have s := h.keys
    have c : ∀ l : List R3, l.Pairwise (fun a b => a.1 ≠ b.1) ↔ (l.map (fun r => (r.1, r.2.2))).Pairwise (fun a b => a.1 ≠ b.1) := fun l => by rw [List.pairwise_map]
    rw [c] at s ⊢
    rw [hk]; exact s
  · intro r hr
    obtain ⟨q, hq, e, _⟩ := hm r hr
    rw [← e]; exact h.wf q hq

theorem TabAt.setRowVal {w : World} {F : Nat → Prop} {b m : Nat} {T : PT} {rv kv : Value} (h : TabAt w F b T rv m kv) {g : Nat} (hg : rv.ownBlock = some g) (i : Nat) (v : Int) :
    TabAt (w.setCell ⟨g, i * 3 + 1, none⟩ (.int .i64 v)) F b { T with rows := setVal T.rows i v } rv m kv where
  ok := h.ok.setVal i v
  block := (touch_setCell w ⟨g, i * 3 + 1, none⟩ _).keeps h.block (fun e => owns_ne h.rows h.block (by decide) g hg e.symm)
  rows := by
    have := owns_set h.rows hg (i * 3 + 1) (.int .i64 v)
    rw [rowsCells_set] at this
    simp only [setVal_length]
    exact this
  map := by
    refine (h.map.kept ((touch_setCell w ⟨g, i * 3 + 1, none⟩ _).block m h.map.lt ?_)).congr (fun x _ => numOf_keys (setVal_keys _ _ _) x)
    rcases h.rows.2 with ⟨hn, _⟩ | ⟨g', cap, cur, hn, _, hgg, _⟩
    · rw [hn] at hg; cases hg
    · rw [hn] at hg; cases hg
      exact imap_ne h.map hgg
  walks := owns_touch h.walks (touch_setCell w ⟨g, i * 3 + 1, none⟩ _) (by
    rcases h.rows.2 with ⟨hn, _⟩ | ⟨g', cap, cur, hn, _, hgg, _⟩
    · rw [hn] at hg; cases hg
    · rw [hn] at hg; cases hg
      exact owns_ne h.walks hgg (by decide))
  fb := h.fb
  fm := h.fm
  fr := h.fr
  fk := h.fk
  lt k hk := by have := h.lt k hk; simpa [World.setCell] using this

set_option maxHeartbeats 800000 in
theorem f13_tab {w : World} {F : Nat → Prop} {b : Nat} {T : PT} (h : Tab w F b T) (hn : T.next < 1099511627776) (hl : T.walks.length < 1099511627776) {k : Int} (hk : (Lit.int .i64 k).wf = true) (v : Int) :
    Calls Try.prog 13 #[.pointer (some ⟨b, 0, none⟩), .int .i64 k, .int .i64 v] w fun e w' => e = .returned (.int .i64 (T.put k v).2) ∧ Moves w F b (T.put k v).1 w' := by
  have H44 := Lib.hid (f44_tab h)
  have H45 := Lib.hid (f45_tab h hn hk)
  have HT := Lib.hid h
  obtain ⟨rv, m, kv, h⟩ := h
  have h6 := h.c6
  have h1 := h.c1
  have lb := h.bl
  have hfew := h.ok.few
  have hge := atI_ge T.rows k
  cases hfr : T.frozen with
  | true =>
    rw [hfr] at h6
    have e : T.put k v = (T, 13) := by simp [PT.put, hfr]
    rw [e]
    generalize atI T.rows k = a at *
    clear e hfr h
    go_enter Try.func13, Try.ntmps13
    go_wp2_with (first | (go_at_call 44; refine H44.out.mono ?_; rintro e w' ⟨rfl, rfl⟩) | (go_at_call 45; refine H45.out.mono ?_; rintro e w1 ⟨rfl, hw1⟩; have d6 := (hw1.cell (p := ⟨b, 6, none⟩) lb (fun h => h)).trans h6; have HW1 := Lib.hid hw1; clear hw1))
    go_ret
    exact ⟨rfl, HT.out.stays HW1.out⟩
  | false =>
    rw [hfr] at h6
    rcases atI_cases T.rows k with ⟨ha, hf⟩ | ⟨i, r, ha, hr, hrk, hf⟩
    · -- a new key
      rw [ha] at H45
      have H46 : Hid (∀ w1, Still w w1 → Calls Try.prog 46 #[.pointer (some ⟨b, 0, none⟩)] w1 fun e w' => e = .returned (.bool (T.strict && decide (0 < opens T.walks))) ∧ Still w1 w') := fun w1 hw => f46_tab (HT.out.still hw) hl
      cases hst : (T.strict && decide (0 < opens T.walks)) with
      | true =>
        have e : T.put k v = (T, 8) := by simp only [PT.put, hfr, hf, hst]; rfl
        rw [e]
        rw [hst] at H46
        clear e hfr h hf ha hst hge
        go_enter Try.func13, Try.ntmps13
        go_wp2_with (first | (go_at_call 44; refine H44.out.mono ?_; rintro e w' ⟨rfl, rfl⟩) | (go_at_call 45; refine H45.out.mono ?_; rintro e w1 ⟨rfl, hw1⟩; have d6 := (hw1.cell (p := ⟨b, 6, none⟩) lb (fun h => h)).trans h6; have HW1 := Lib.hid hw1; clear hw1) | (go_at_call 46; refine (H46.out _ HW1.out).mono ?_; rintro e w2 ⟨rfl, hw2⟩; have HW2 := Lib.hid hw2; clear hw2))
        go_ret
        exact ⟨rfl, HT.out.stays (HW1.out.then HW2.out)⟩
      | false =>
        rw [hst] at H46
        obtain ⟨ao, cap, rfl, hcap, _⟩ := h.viewR
        by_cases h5 : T.rows.length = 500
        · have e : T.put k v = (T, 9) := by simp only [PT.put, hfr, hf, hst, h5]; rfl
          rw [e]
          rw [h5] at h1
          clear e hfr h hf ha hst hge hcap
          go_enter Try.func13, Try.ntmps13
          go_wp2_with (first | (go_at_call 44; refine H44.out.mono ?_; rintro e w' ⟨rfl, rfl⟩) | (go_at_call 45; refine H45.out.mono ?_; rintro e w1 ⟨rfl, hw1⟩; have d6 := (hw1.cell (p := ⟨b, 6, none⟩) lb (fun h => h)).trans h6; have HW1 := Lib.hid hw1; clear hw1) | (go_at_call 46; refine (H46.out _ HW1.out).mono ?_; rintro e w2 ⟨rfl, hw2⟩; have d1 := ((HW1.out.then hw2).cell (p := ⟨b, 1, none⟩) lb (fun h => h)).trans h1; have HW2 := Lib.hid hw2; clear hw2))
          go_ret
          exact ⟨rfl, HT.out.stays (HW1.out.then HW2.out)⟩
        · have e : T.put k v = (T.add k v, 0) := by simp only [PT.put, hfr, hf, hst, h5]; rfl
          rw [e]
          have hlen : ((T.rows.length : Int) == 500) = false := beq_eq_false_iff_ne.2 (by omega)
          have hnew : ∀ r ∈ T.rows, r.1 ≠ k := by
            rw [List.findIdx?_eq_none_iff] at hf
            intro r hr; simpa using hf r hr
          have HNEW := Lib.hid hnew
          have H47 : Hid (∀ w1, Still w w1 → Calls Try.prog 47 #[.pointer (some ⟨b, 0, none⟩), .int .i64 k, .int .i64 v] w1 fun e w' => e = .returned (.tuple #[]) ∧ Moves w1 F b (T.add k v) w') := fun w1 hw => f47_tab (HT.out.still hw) hn hk hnew (by omega)
          clear e hfr h hf ha hst hge hcap hnew
          go_enter Try.func13, Try.ntmps13
          go_wp2_with (first | (go_at_call 44; refine H44.out.mono ?_; rintro e w' ⟨rfl, rfl⟩) | (go_at_call 45; refine H45.out.mono ?_; rintro e w1 ⟨rfl, hw1⟩; have d6 := (hw1.cell (p := ⟨b, 6, none⟩) lb (fun h => h)).trans h6; have HW1 := Lib.hid hw1; clear hw1) | (go_at_call 46; refine (H46.out _ HW1.out).mono ?_; rintro e w2 ⟨rfl, hw2⟩; have d1 := ((HW1.out.then hw2).cell (p := ⟨b, 1, none⟩) lb (fun h => h)).trans h1; have HW2 := Lib.hid hw2; clear hw2) | (go_at_call 47; refine (H47.out _ (HW1.out.then HW2.out)).mono ?_; rintro e w3 ⟨rfl, hw3⟩; have HW3 := Lib.hid hw3; clear hw3))
          go_ret
          exact ⟨rfl, HW3.out.after (HW1.out.then HW2.out)⟩
    · -- a key that is there
      rw [ha] at H45
      have e : T.put k v = ({ T with rows := setVal T.rows i v }, 0) := by simp only [PT.put, hfr, hf]; rfl
      rw [e]
      obtain ⟨ao, cap, hrv, hcap, hv⟩ := h.viewR
      obtain ⟨g, hg, hF, ⟨x0, x1, x2⟩, z1⟩ := hv i r hr
      have lg := h.lt g hF
      have hi : i < T.rows.length := (List.getElem?_eq_some_iff.1 hr).1
      subst hg
      have hog : rv.ownBlock = some g := by rw [hrv]; rfl
      have HM : Hid (∀ w1, Still w w1 → Moves w F b { T with rows := setVal T.rows i v } (w1.setCell ⟨g, i * 3 + 1, none⟩ (.int .i64 v))) := fun w1 hw =>
        ⟨F, ⟨rv, m, kv, (h.kept2 hw).setRowVal hog i v⟩, (hw.mono (fun _ _ h => h.elim)).setCell (.inl hF) _, fun _ h => .inl h⟩
      clear e hfr h hf ha hge hr hrk hv hog
      subst hrv
      go_enter Try.func13, Try.ntmps13
      go_wp2_with (first | (go_at_call 44; refine H44.out.mono ?_; rintro e w' ⟨rfl, rfl⟩) | (go_at_call 45; refine H45.out.mono ?_; rintro e w1 ⟨rfl, hw1⟩; have d6 := (hw1.cell (p := ⟨b, 6, none⟩) lb (fun h => h)).trans h6; have d1 := (hw1.cell (p := ⟨b, 1, none⟩) lb (fun h => h)).trans h1; have y1 := (hw1.cell (p := ⟨g, i * 3 + 1, none⟩) lg (fun h => h)).trans x1; have y2 := (World.frozen?_of_block (a := ⟨g, i * 3 + 1, none⟩) (hw1.block g lg (fun h => h))).trans z1; have HW1 := Lib.hid hw1; clear hw1))
      go_ret
      exact ⟨rfl, HM.out _ HW1.out⟩

end Go.Proofs.Ytombofldebmaoaa
