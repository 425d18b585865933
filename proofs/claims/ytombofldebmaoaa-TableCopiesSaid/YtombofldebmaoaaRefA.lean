/-
  The reference's table in memory; its reading methods: No, place, walking, Get, Where, At, First, goes, All.
  The list state is PT again: 'next' is its counter Now, and a walk that has begun stands at 0.
-/
import Derived.Test.YtombofldebmaoaaNoB
namespace Go.Proofs.Ytombofldebmaoaa
open Go.RowKit
set_option linter.unusedVariables false

structure RefAt (w : World) (F : Nat → Prop) (b : Nat) (R : PT) (rv kv : Value) : Prop where
  few : R.rows.length ≤ 500
  block : w.heap[b]? = some (.cells #[.bool true, .bool R.strict, .bool R.frozen, rv, kv, .int .i64 R.next] 60 (0, 0))
  rows : w.ownsRow 0 86 3 rv R.rows.length (rowsCells R.rows)
  walks : w.ownsRow 0 92 2 kv R.walks.length (walksCells R.walks)
  fb : F b
  fr : ∀ k, rv.ownBlock = some k → F k
  fk : ∀ k, kv.ownBlock = some k → F k
  lt : ∀ k, F k → k < w.heap.size

def Ref (w : World) (F : Nat → Prop) (b : Nat) (R : PT) : Prop := ∃ rv kv, RefAt w F b R rv kv

theorem RefAt.kept {w w' : World} {F S : Nat → Prop} {b : Nat} {R : PT} {rv kv : Value} (h : RefAt w F b R rv kv) (ht : Touch S w w') (hd : ∀ k, F k → ¬ S k) : RefAt w' F b R rv kv where
  few := h.few
  block := ht.keeps h.block (hd b h.fb)
  rows := owns_touch h.rows ht (fun k hk => hd k (h.fr k hk))
  walks := owns_touch h.walks ht (fun k hk => hd k (h.fk k hk))
  fb := h.fb
  fr := h.fr
  fk := h.fk
  lt k hk := Nat.lt_of_lt_of_le (h.lt k hk) ht.size

theorem RefAt.still {w w' : World} {F : Nat → Prop} {b : Nat} {R : PT} {rv kv : Value} (h : RefAt w F b R rv kv) (ht : Still w w') : RefAt w' F b R rv kv := h.kept ht (fun _ _ h => h)

theorem Ref.kept {w w' : World} {F S : Nat → Prop} {b : Nat} {R : PT} (h : Ref w F b R) (ht : Touch S w w') (hd : ∀ k, F k → ¬ S k) : Ref w' F b R := by
  obtain ⟨rv, kv, h⟩ := h
  exact ⟨rv, kv, h.kept ht hd⟩

theorem Ref.still {w w' : World} {F : Nat → Prop} {b : Nat} {R : PT} (h : Ref w F b R) (ht : Still w w') : Ref w' F b R := h.kept ht (fun _ _ h => h)
theorem Ref.few {w : World} {F : Nat → Prop} {b : Nat} {R : PT} (h : Ref w F b R) : R.rows.length ≤ 500 := by obtain ⟨_, _, h⟩ := h; exact h.few
theorem Ref.lt {w : World} {F : Nat → Prop} {b : Nat} {R : PT} (h : Ref w F b R) : ∀ k, F k → k < w.heap.size := by obtain ⟨_, _, h⟩ := h; exact h.lt

def RMoves (w : World) (F : Nat → Prop) (b : Nat) (R : PT) (w' : World) : Prop :=
  ∃ F', Ref w' F' b R ∧ Touch F w w' ∧ ∀ k, F' k → F k ∨ w.heap.size ≤ k

theorem Ref.stays {w w' : World} {F : Nat → Prop} {b : Nat} {R : PT} (h : Ref w F b R) (ht : Still w w') : RMoves w F b R w' :=
  ⟨F, h.still ht, ht.mono (fun _ _ h => h.elim), fun _ h => .inl h⟩

theorem RMoves.after {w w1 w2 : World} {F : Nat → Prop} {b : Nat} {R : PT} (ht : Still w w1) (h : RMoves w1 F b R w2) : RMoves w F b R w2 := by
  obtain ⟨F', h1, h2, h3⟩ := h
  refine ⟨F', h1, (ht.mono (fun _ _ h => h.elim)).then h2, fun k hk => ?_⟩
  rcases h3 k hk with h | h
  · exact .inl h
  · have := ht.size; exact .inr (by omega)

section
variable {w : World} {F : Nat → Prop} {b : Nat} {R : PT} {rv kv : Value}
theorem RefAt.c1 (h : RefAt w F b R rv kv) : w.cell? ⟨b, 1, none⟩ = some (.bool R.strict) := blk_c h.block 1 _ rfl
theorem RefAt.c0 (h : RefAt w F b R rv kv) : w.cell? ⟨b, 0, none⟩ = some (.bool true) := blk_c h.block 0 _ rfl
theorem RefAt.c2 (h : RefAt w F b R rv kv) : w.cell? ⟨b, 2, none⟩ = some (.bool R.frozen) := blk_c h.block 2 _ rfl
theorem RefAt.c3 (h : RefAt w F b R rv kv) : w.cell? ⟨b, 3, none⟩ = some rv := blk_c h.block 3 _ rfl
theorem RefAt.c4 (h : RefAt w F b R rv kv) : w.cell? ⟨b, 4, none⟩ = some kv := blk_c h.block 4 _ rfl
theorem RefAt.c5 (h : RefAt w F b R rv kv) : w.cell? ⟨b, 5, none⟩ = some (.int .i64 R.next) := blk_c h.block 5 _ rfl
theorem RefAt.z (h : RefAt w F b R rv kv) (j : Nat) : w.frozen? ⟨b, j, none⟩ = false := blk_z h.block j
theorem RefAt.bl (h : RefAt w F b R rv kv) : b < w.heap.size := h.lt b h.fb

theorem RefAt.viewR (h : RefAt w F b R rv kv) : ∃ ao cap, rv = .slice ao R.rows.length cap ∧ R.rows.length ≤ cap ∧ ∀ i r, R.rows[i]? = some r → ∃ g, ao = some ⟨g, 0, none⟩ ∧ F g ∧
    (w.cell? ⟨g, i * 3, none⟩ = some (.int .i64 r.1) ∧ w.cell? ⟨g, i * 3 + 1, none⟩ = some (.int .i64 r.2.1) ∧ w.cell? ⟨g, i * 3 + 2, none⟩ = some (.int .i64 r.2.2)) ∧ w.frozen? ⟨g, i * 3 + 1, none⟩ = false ∧ rv.ownBlock = some g := by
  obtain ⟨ao, cap, rfl, hc, _, hv⟩ := owns_view h.rows
  refine ⟨ao, cap, rfl, hc, fun i r hr => ?_⟩
  have e : ∀ c, c < 3 → (rowsCells R.rows)[i * 3 + c]? = (rowCells r)[c]? := fun c hc => rowsCells_get _ i c r hr hc
  obtain ⟨g, rfl, h0, _, hg⟩ := hv (i * 3) _ (e 0 (by omega))
  obtain ⟨g1, hg1, h1, z1, _⟩ := hv (i * 3 + 1) _ (e 1 (by omega))
  obtain ⟨g2, hg2, h2, _⟩ := hv (i * 3 + 2) _ (e 2 (by omega))
  cases hg1; cases hg2
  exact ⟨g, rfl, h.fr g hg, ⟨h0, h1, h2⟩, z1, hg⟩

theorem RefAt.viewK (h : RefAt w F b R rv kv) : ∃ ao cap, kv = .slice ao R.walks.length cap ∧ R.walks.length ≤ cap ∧ ∀ i r, R.walks[i]? = some r → ∃ g, ao = some ⟨g, 0, none⟩ ∧ F g ∧
    (w.cell? ⟨g, i * 2, none⟩ = some (.int .i64 r.1) ∧ w.cell? ⟨g, i * 2 + 1, none⟩ = some (.bool r.2)) ∧ w.frozen? ⟨g, i * 2, none⟩ = false ∧ w.frozen? ⟨g, i * 2 + 1, none⟩ = false ∧ kv.ownBlock = some g := by
  obtain ⟨ao, cap, rfl, hc, _, hv⟩ := owns_view h.walks
  refine ⟨ao, cap, rfl, hc, fun i r hr => ?_⟩
  have e : ∀ c, c < 2 → (walksCells R.walks)[i * 2 + c]? = (walkCells r)[c]? := fun c hc => walksCells_get _ i c r hr hc
  obtain ⟨g, rfl, h0, z0, hg⟩ := hv (i * 2) _ (e 0 (by omega))
  obtain ⟨g1, hg1, h1, z1, _⟩ := hv (i * 2 + 1) _ (e 1 (by omega))
  cases hg1
  exact ⟨g, rfl, h.fk g hg, ⟨h0, h1⟩, z0, z1, hg⟩
end

/-- All cells of the rows in every world behind. -/
theorem RefAt.seeR {w : World} {F : Nat → Prop} {b : Nat} {R : PT} {rv kv : Value} (h : RefAt w F b R rv kv) : ∃ ao cap, rv = .slice ao R.rows.length cap ∧ ∀ i r, R.rows[i]? = some r → ∃ g, ao = some ⟨g, 0, none⟩ ∧ F g ∧ ∀ w', Still w w' →
    w'.cell? ⟨b, 3, none⟩ = some rv ∧ w'.cell? ⟨g, i * 3, none⟩ = some (.int .i64 r.1) ∧ w'.cell? ⟨g, i * 3 + 1, none⟩ = some (.int .i64 r.2.1) ∧ w'.cell? ⟨g, i * 3 + 2, none⟩ = some (.int .i64 r.2.2) := by
  obtain ⟨ao, cap, e, hc, hv⟩ := h.viewR
  refine ⟨ao, cap, e, fun i r hr => ?_⟩
  obtain ⟨g, e2, hF, ⟨x0, x1, x2⟩, _⟩ := hv i r hr
  have lg := h.lt g hF
  exact ⟨g, e2, hF, fun w' hw => ⟨(hw.cell (p := ⟨b, _, none⟩) h.bl (fun h => h)).trans h.c3, (hw.cell (p := ⟨g, _, none⟩) lg (fun h => h)).trans x0, (hw.cell (p := ⟨g, _, none⟩) lg (fun h => h)).trans x1, (hw.cell (p := ⟨g, _, none⟩) lg (fun h => h)).trans x2⟩⟩

section
variable {w : World} {F : Nat → Prop} {b : Nat} {R : PT}

theorem f63_ref (h : Ref w F b R) : Calls Try.prog 63 #[.pointer (some ⟨b, 0, none⟩)] w fun e w' => e = .returned (.bool false) ∧ w = w' := by
  obtain ⟨rv, kv, h⟩ := h
  have h0 := h.c0
  clear h
  go_enter Try.func63, Try.ntmps63
  go_wp2
  go_ret
  exact ⟨rfl, rfl⟩

theorem f64_ref (h : Ref w F b R) (k : Int) : Calls Try.prog 64 #[.pointer (some ⟨b, 0, none⟩), .int .i64 k] w fun e w' => e = .returned (.int .i64 (atI R.rows k)) ∧ Still w w' := by
  obtain ⟨rv, kv, h⟩ := h
  have hfew := h.few
  have hlt := h.lt
  have c3 := h.c3
  obtain ⟨ao, cap, rfl, hcap, hv⟩ := h.viewR
  have HV := Lib.hid hv
  have HF := Lib.hid hlt
  clear h hv hlt
  generalize R.rows = rs at *
  go_enter Try.func64, Try.ntmps64
  go_wp2_with fail
  go_loopw [5] (fun i wr => ∃ q : Nat, q ≤ rs.length ∧ i = .int .i64 q ∧ (rs.take q).findIdx? (fun r => r.1 == k) = none ∧ w = wr) (fun i _ => rs.length - (intOf i).toNat)
  case atStart => exact ⟨0, Nat.zero_le _, rfl, by simp, rfl⟩
  case round =>
    obtain ⟨q, hq, rfl, hn, rfl⟩ := hrel
    have HN := Lib.hid hn; clear hn
    by_cases hlt : q < rs.length
    · obtain ⟨r, hr⟩ : ∃ r, rs[q]? = some r := ⟨rs[q], by simp [hlt]⟩
      obtain ⟨g, hg, hFg, ⟨x0, x1, x2⟩, _⟩ := HV.out q r hr
      have HR := Lib.hid (findIdx_take HN.out hr); clear hr
      subst hg
      cases hp : (r.1 == k) with
      | true =>
        have HE : Hid (atI rs k = (q : Int)) := by show _ = _; rw [atI, HR.out.1 hp]
        go_wp2_with fail
        go_ret
        rw [HE.out]
        exact ⟨rfl, Touch.refl _ _⟩
      | false =>
        have HE := Lib.hid (HR.out.2 hp)
        go_wp2_with fail
        go_roundw
        case rel => exact ⟨q + 1, by omega, by go_num, HE.out, by trivial⟩
        case measure => simp [intOf]; omega
    · have HE : Hid (atI rs k = -1) := by
        have h := HN.out
        rw [List.take_of_length_le (by omega)] at h
        show _ = _
        rw [atI, h]
      go_wp2_with fail
      go_ret
      rw [HE.out]
      exact ⟨rfl, Touch.refl _ _⟩

theorem f65_ref (h : Ref w F b R) (hl : R.walks.length < 1099511627776) : Calls Try.prog 65 #[.pointer (some ⟨b, 0, none⟩)] w fun e w' => e = .returned (.bool (decide (0 < opens R.walks))) ∧ Still w w' := by
  obtain ⟨rv, kv, h⟩ := h
  have hlt := h.lt
  have c4 := h.c4
  obtain ⟨ao, cap, rfl, hcap, hv⟩ := h.viewK
  have HV := Lib.hid hv
  clear h hv hlt
  generalize R.walks = ks at *
  go_enter Try.func65, Try.ntmps65
  go_wp2_with fail
  go_loopw [3] (fun i wr => ∃ q : Nat, q ≤ ks.length ∧ i = .int .i64 q ∧ opens (ks.take q) = 0 ∧ w = wr) (fun i _ => ks.length - (intOf i).toNat)
  case atStart => exact ⟨0, Nat.zero_le _, rfl, by simp [opens], rfl⟩
  case round =>
    obtain ⟨q, hq, rfl, hn, rfl⟩ := hrel
    have HN := Lib.hid hn; clear hn
    by_cases hlt : q < ks.length
    · obtain ⟨r, hr⟩ : ∃ r, ks[q]? = some r := ⟨ks[q], by simp [hlt]⟩
      obtain ⟨g, hg, hFg, ⟨x0, x1⟩, _⟩ := HV.out q r hr
      have HR := Lib.hid (opens_take_succ ks q r hr)
      have HM := Lib.hid hr; clear hr
      subst hg
      cases hp : r.2 with
      | false =>
        rw [hp] at x1
        have HE : Hid (decide (0 < opens ks) = true) := by
          show _ = _
          have : r ∈ ks.filter (fun k => !k.2) := List.mem_filter.2 ⟨List.mem_of_getElem? HM.out, by simp [hp]⟩
          simp only [opens]
          exact decide_eq_true (List.length_pos_of_mem this)
        go_wp2_with fail
        go_ret
        rw [HE.out]
        exact ⟨rfl, Touch.refl _ _⟩
      | true =>
        rw [hp] at x1
        have HE : Hid (opens (ks.take (q + 1)) = 0) := by
          show _ = _
          rw [HR.out, HN.out, hp]; rfl
        go_wp2_with fail
        go_roundw
        case rel => exact ⟨q + 1, by omega, by go_num, HE.out, by trivial⟩
        case measure => simp [intOf]; omega
    · have HE : Hid (decide (0 < opens ks) = false) := by
        have h := HN.out
        rw [List.take_of_length_le (by omega)] at h
        show _ = _
        simp [h]
      go_wp2_with fail
      go_ret
      rw [HE.out]
      exact ⟨rfl, Touch.refl _ _⟩

theorem f59_ref (h : Ref w F b R) (k : Int) : Calls Try.prog 59 #[.pointer (some ⟨b, 0, none⟩), .int .i64 k] w fun e w' => e = .returned (.tuple #[.int .i64 (getI R.rows k).1, .int .i64 (getI R.rows k).2]) ∧ Still w w' := by
  have H63 := Lib.hid (f63_ref h)
  have H64 := Lib.hid (f64_ref h k)
  have hfew := h.few
  obtain ⟨rv, kv, h⟩ := h
  have c3 := h.c3
  obtain ⟨ao, cap, hrv, hsee⟩ := h.seeR
  rcases atI_cases R.rows k with ⟨ha, hf⟩ | ⟨i, r, ha, hr, hrk, hf⟩
  · have e : getI R.rows k = (0, 3) := by simp [getI, hf]
    rw [e]
    rw [ha] at H64
    clear ha hf h e hsee
    go_enter Try.func59, Try.ntmps59
    go_wp2_with (first | (go_at_call 63; refine H63.out.mono ?_; rintro e w' ⟨rfl, rfl⟩) | (go_at_call 64; refine H64.out.mono ?_; rintro e w1 ⟨rfl, hw1⟩; have HW1 := Lib.hid hw1; clear hw1))
    go_ret2
    exact ⟨rfl, HW1.out⟩
  · have e : getI R.rows k = (r.2.1, 0) := by simp [getI, hf, hr]
    rw [e]
    rw [ha] at H64
    obtain ⟨g, hg, hF, hc⟩ := hsee i r hr
    have HC := Lib.hid hc
    have hi : i < R.rows.length := (List.getElem?_eq_some_iff.1 hr).1
    clear ha hf h hr hrk hsee e hc
    subst hrv
    subst hg
    go_enter Try.func59, Try.ntmps59
    go_wp2_with (first | (go_at_call 63; refine H63.out.mono ?_; rintro e w' ⟨rfl, rfl⟩) | (go_at_call 64; refine H64.out.mono ?_; rintro e w1 ⟨rfl, hw1⟩; obtain ⟨d3, x0, x1, x2⟩ := HC.out _ hw1; have HW1 := Lib.hid hw1; clear hw1))
    go_ret2
    exact ⟨rfl, HW1.out⟩

theorem f60_ref (h : Ref w F b R) (k : Int) : Calls Try.prog 60 #[.pointer (some ⟨b, 0, none⟩), .int .i64 k] w fun e w' => e = .returned (.tuple #[.int .i64 (whereI R.rows k).1, .int .i64 (whereI R.rows k).2]) ∧ Still w w' := by
  have H63 := Lib.hid (f63_ref h)
  have H64 := Lib.hid (f64_ref h k)
  rcases atI_cases R.rows k with ⟨ha, hf⟩ | ⟨i, r, ha, hr, hrk, hf⟩
  · have e : whereI R.rows k = (0, 3) := by simp [whereI, hf]
    rw [e]
    rw [ha] at H64
    clear ha hf h e
    go_enter Try.func60, Try.ntmps60
    go_wp2_with (first | (go_at_call 63; refine H63.out.mono ?_; rintro e w' ⟨rfl, rfl⟩) | (go_at_call 64; refine H64.out.mono ?_; rintro e w1 ⟨rfl, hw1⟩; have HW1 := Lib.hid hw1; clear hw1))
    go_ret2
    exact ⟨rfl, HW1.out⟩
  · have e : whereI R.rows k = ((i : Int), 0) := by simp [whereI, hf]
    rw [e]
    rw [ha] at H64
    clear ha hf h e hr hrk
    go_enter Try.func60, Try.ntmps60
    go_wp2_with (first | (go_at_call 63; refine H63.out.mono ?_; rintro e w' ⟨rfl, rfl⟩) | (go_at_call 64; refine H64.out.mono ?_; rintro e w1 ⟨rfl, hw1⟩; have HW1 := Lib.hid hw1; clear hw1))
    go_ret2
    exact ⟨rfl, HW1.out⟩

theorem f61_ref (h : Ref w F b R) (i : Int) : Calls Try.prog 61 #[.pointer (some ⟨b, 0, none⟩), .int .i64 i] w fun e w' => e = .returned (.tuple #[.int .i64 (rowI R.rows i).1, .int .i64 (rowI R.rows i).2.1, .int .i64 (rowI R.rows i).2.2]) ∧ Still w w' := by
  have H63 := Lib.hid (f63_ref h)
  have hfew := h.few
  obtain ⟨rv, kv, h⟩ := h
  have c3 := h.c3
  obtain ⟨ao, cap, rfl, hcap, hv⟩ := h.viewR
  clear h
  by_cases hi0 : i < 0
  · have e : rowI R.rows i = (0, 0, 3) := by simp [rowI, hi0]
    rw [e]; clear e hv
    have hd : decide (i < 0) = true := by simpa using hi0
    go_enter Try.func61, Try.ntmps61
    go_wp2_with (go_at_call 63; refine H63.out.mono ?_; rintro e w' ⟨rfl, rfl⟩)
    go_ret3
    exact ⟨rfl, Touch.refl _ _⟩
  · obtain ⟨j, rfl⟩ := Int.eq_ofNat_of_zero_le (Int.not_lt.1 hi0)
    by_cases hj : j < R.rows.length
    · obtain ⟨r, hr⟩ : ∃ r, R.rows[j]? = some r := ⟨R.rows[j], by simp [hj]⟩
      have e : rowI R.rows j = (r.1, r.2.1, 0) := by simp [rowI, hr]
      rw [e]; clear e
      obtain ⟨g, hg, hF, ⟨h0', h1', h2'⟩, _⟩ := hv j r hr
      clear hv hr hi0
      subst hg
      go_enter Try.func61, Try.ntmps61
      go_wp2_with (go_at_call 63; refine H63.out.mono ?_; rintro e w' ⟨rfl, rfl⟩)
      go_region
      go_wp2
      go_ret3
      exact ⟨rfl, (Touch.refl _ _).drew⟩
    · have e : rowI R.rows j = (0, 0, 3) := by simp [rowI, hj]
      rw [e]; clear e hv hi0
      go_enter Try.func61, Try.ntmps61
      go_wp2_with (go_at_call 63; refine H63.out.mono ?_; rintro e w' ⟨rfl, rfl⟩)
      go_ret3
      exact ⟨rfl, Touch.refl _ _⟩

theorem f62_ref (h : Ref w F b R) : Calls Try.prog 62 #[.pointer (some ⟨b, 0, none⟩)] w fun e w' => e = .returned (.tuple #[.int .i64 (rowI R.rows 0).1, .int .i64 (rowI R.rows 0).2.1, .int .i64 (rowI R.rows 0).2.2]) ∧ Still w w' := by
  have H61 := Lib.hid (f61_ref h 0)
  generalize rowI R.rows 0 = r at *
  clear h
  go_enter Try.func62, Try.ntmps62
  go_wp2_with (go_at_call 61; refine H61.out.mono ?_; rintro e w1 ⟨rfl, hw1⟩; have HW1 := Lib.hid hw1; clear hw1)
  go_ret3
  exact ⟨rfl, HW1.out⟩

theorem f71_ref (h : Ref w F b R) (hl : R.walks.length < 1099511627776) (i : Int) : Calls Try.prog 71 #[.pointer (some ⟨b, 0, none⟩), .int .i64 i] w fun e w' => e = .returned (.bool (underB R.walks i)) ∧ w = w' := by
  have H63 := Lib.hid (f63_ref h)
  obtain ⟨rv, kv, h⟩ := h
  have h4 := h.c4
  obtain ⟨ao, cap, rfl, hcap, hv⟩ := h.viewK
  clear h
  by_cases hi0 : i < 0
  · have e : underB R.walks i = false := by simp [underB, hi0]
    rw [e]; clear e hv
    go_enter Try.func71, Try.ntmps71
    go_wp2_with (go_at_call 63; refine H63.out.mono ?_; rintro e w' ⟨rfl, rfl⟩)
    go_ret
    exact ⟨rfl, rfl⟩
  · obtain ⟨j, rfl⟩ := Int.eq_ofNat_of_zero_le (Int.not_lt.1 hi0)
    by_cases hj : j < R.walks.length
    · obtain ⟨r, hr⟩ : ∃ r, R.walks[j]? = some r := ⟨R.walks[j], by simp [hj]⟩
      have e : underB R.walks j = !r.2 := by simp [underB, hr]
      rw [e]; clear e
      obtain ⟨g, hg, hF, ⟨h0', h1'⟩, _⟩ := hv j r hr
      clear hv hr hi0
      subst hg
      go_enter Try.func71, Try.ntmps71
      go_wp2_with (go_at_call 63; refine H63.out.mono ?_; rintro e w' ⟨rfl, rfl⟩)
      go_ret
      exact ⟨rfl, rfl⟩
    · have e : underB R.walks j = false := by simp [underB, hj]
      rw [e]; clear e hv hi0
      go_enter Try.func71, Try.ntmps71
      go_wp2_with (go_at_call 63; refine H63.out.mono ?_; rintro e w' ⟨rfl, rfl⟩)
      go_ret
      exact ⟨rfl, rfl⟩
end

end Go.Proofs.Ytombofldebmaoaa
