/-
  Walks over the program's table: under, Stop, Walk; the slices of pairs: Rows, rows, slices.Equal.
-/
import Derived.Test.YtombofldebmaoaaWalkC
import Derived.ChangeKeysEq
namespace Go.Proofs.Ytombofldebmaoaa
open Go.RowKit
set_option linter.unusedVariables false

/-- A walk that is under way. -/
def underB (ks : List W2) (i : Int) : Bool := if i < 0 then false else match ks[i.toNat]? with | some k => !k.2 | none => false

theorem f50_tab {w : World} {F : Nat → Prop} {b : Nat} {T : PT} (h : Tab w F b T) (hl : T.walks.length < 1099511627776) (i : Int) :
    Calls Try.prog 50 #[.pointer (some ⟨b, 0, none⟩), .int .i64 i] w fun e w' => e = .returned (.bool (underB T.walks i)) ∧ w = w' := by
  have H44 := Lib.hid (f44_tab h)
  obtain ⟨rv, m, kv, h⟩ := h
  have h4 := h.c4
  obtain ⟨ao, cap, rfl, hcap, hv⟩ := h.viewK
  clear h
  by_cases hi0 : i < 0
  · have e : underB T.walks i = false := by simp [underB, hi0]
    rw [e]; clear e hv
    go_enter Try.func50, Try.ntmps50
    go_wp2_with (go_at_call 44; refine H44.out.mono ?_; rintro e w' ⟨rfl, rfl⟩)
    go_ret
    exact ⟨rfl, rfl⟩
  · obtain ⟨j, rfl⟩ := Int.eq_ofNat_of_zero_le (Int.not_lt.1 hi0)
    by_cases hj : j < T.walks.length
    · obtain ⟨r, hr⟩ : ∃ r, T.walks[j]? = some r := ⟨T.walks[j], by simp [hj]⟩
      have e : underB T.walks j = !r.2 := by simp [underB, hr]
      rw [e]; clear e
      obtain ⟨g, hg, hF, ⟨h0', h1'⟩, _⟩ := hv j r hr
      clear hv hr hi0
      subst hg
      go_enter Try.func50, Try.ntmps50
      go_wp2_with (go_at_call 44; refine H44.out.mono ?_; rintro e w' ⟨rfl, rfl⟩)
      go_ret
      exact ⟨rfl, rfl⟩
    · have e : underB T.walks j = false := by simp [underB, hj]
      rw [e]; clear e hv hi0
      go_enter Try.func50, Try.ntmps50
      go_wp2_with (go_at_call 44; refine H44.out.mono ?_; rintro e w' ⟨rfl, rfl⟩)
      go_ret
      exact ⟨rfl, rfl⟩

/-! ### writing a walk -/

theorem walksCells_set (ks : List W2) (i : Nat) (k : W2) (u v : Value) (hi : i < ks.length) (h0 : Value.int .i64 k.1 = u) (h1 : Value.bool k.2 = v) :
    ((walksCells ks).set (i * 2) u).set (i * 2 + 1) v = walksCells (ks.set i k) := by
  subst h0; subst h1
  induction ks generalizing i with
  | nil => simp at hi
  | cons x ks ih =>
    cases i with
    | zero => simp [walksCells_cons, walkCells]
    | succ i =>
      have e1 : (i + 1) * 2 = (i * 2) + 1 + 1 := by omega
      have e2 : (i + 1) * 2 + 1 = (i * 2 + 1) + 1 + 1 := by omega
      have ih := ih i (by simpa using hi)
      rw [e2, e1]
      simp only [walksCells_cons, walkCells, List.cons_append, List.nil_append, List.set_cons_succ, ih]

theorem walksCells_set0 (ks : List W2) (i : Nat) (r : W2) (hr : ks[i]? = some r) (x : Int) : (walksCells ks).set (i * 2) (.int .i64 x) = walksCells (ks.set i (x, r.2)) := by
  have hi : i < ks.length := (List.getElem?_eq_some_iff.1 hr).1
  rw [← walksCells_set ks i (x, r.2) (.int .i64 x) (.bool r.2) hi rfl rfl]
  have e := walksCells_get ks i 1 r hr (by omega)
  apply List.ext_getElem?
  intro j
  by_cases hj : j = i * 2 + 1
  · subst hj
    rw [List.getElem?_set_ne (by omega), e, List.getElem?_set_self (by simp [walksCells_length]; omega)]; rfl
  · rw [List.getElem?_set_ne (l := (walksCells ks).set (i * 2) (.int .i64 x)) (by omega)]

theorem walksCells_set1 (ks : List W2) (i : Nat) (r : W2) (hr : ks[i]? = some r) (x : Bool) : (walksCells ks).set (i * 2 + 1) (.bool x) = walksCells (ks.set i (r.1, x)) := by
  have hi : i < ks.length := (List.getElem?_eq_some_iff.1 hr).1
  rw [← walksCells_set ks i (r.1, x) (.int .i64 r.1) (.bool x) hi rfl rfl]
  have e := walksCells_get ks i 0 r hr (by omega)
  congr 1
  apply List.ext_getElem?
  intro j
  by_cases hj : j = i * 2
  · subst hj
    rw [List.getElem?_set_self (by simp [walksCells_length]; omega)]
    simpa [walkCells] using e
  · rw [List.getElem?_set_ne (by omega)]

/-- A store into an owned slice. -/
theorem owns_set {w : World} {e : TypeId} {size n : Nat} {v : Value} {xs : List Value} (h : w.ownsRow 0 e size v n xs) {g : Nat} (hg : v.ownBlock = some g) (j : Nat) (u : Value) :
    (w.setCell ⟨g, j, none⟩ u).ownsRow 0 e size v n (xs.set j u) := by
  rcases h.2 with ⟨rfl, _⟩ | ⟨g', cap, cur, rfl, hb, hgg, hnc, hcm, hcs, htk⟩
  · cases hg
  · cases hg
    refine ⟨by simp [h.1], .inr ⟨g', cap, cur.setIfInBounds j u, rfl, hb, heap_setCell_same hgg j u, hnc, hcm, by simp [hcs], ?_⟩⟩
    rw [Array.toList_setIfInBounds, List.take_set, htk]

theorem TabAt.viewKg {w : World} {F : Nat → Prop} {b m : Nat} {T : PT} {rv kv : Value} (h : TabAt w F b T rv m kv) {i : Nat} {r : W2} (hr : T.walks[i]? = some r) : ∃ g cap, kv = .slice (some ⟨g, 0, none⟩) T.walks.length cap ∧ F g ∧ kv.ownBlock = some g ∧
    (w.cell? ⟨g, i * 2, none⟩ = some (.int .i64 r.1) ∧ w.cell? ⟨g, i * 2 + 1, none⟩ = some (.bool r.2)) ∧ w.frozen? ⟨g, i * 2, none⟩ = false ∧ w.frozen? ⟨g, i * 2 + 1, none⟩ = false := by
  obtain ⟨ao, cap, rfl, hc, hv⟩ := h.viewK
  obtain ⟨g, rfl, hF, hcs, z0, z1⟩ := hv i r hr
  exact ⟨g, cap, rfl, hF, rfl, hcs, z0, z1⟩

theorem TabAt.setWalk {w : World} {F : Nat → Prop} {b m : Nat} {T : PT} {rv kv : Value} (h : TabAt w F b T rv m kv) {g : Nat} (hg : kv.ownBlock = some g) (j : Nat) (u : Value) (ks : List W2) (hlen : ks.length = T.walks.length) (hks : (walksCells T.walks).set j u = walksCells ks) :
    TabAt (w.setCell ⟨g, j, none⟩ u) F b { T with walks := ks } rv m kv where
  ok := ⟨h.ok.few, h.ok.sorted, h.ok.nums, h.ok.keys, h.ok.wf⟩
  block := (touch_setCell w ⟨g, j, none⟩ u).keeps h.block (fun e => owns_ne h.walks h.block (by decide) g hg e.symm)
  rows := owns_touch h.rows (touch_setCell w ⟨g, j, none⟩ u) (by
    rcases h.walks.2 with ⟨hn, _⟩ | ⟨g', cap, cur, hn, _, hgg, _⟩
    · rw [hn] at hg; cases hg
    · rw [hn] at hg; cases hg
      exact owns_ne h.rows hgg (by decide))
  map := h.map.kept ((touch_setCell w ⟨g, j, none⟩ u).block m h.map.lt (by
    rcases h.walks.2 with ⟨hn, _⟩ | ⟨g', cap, cur, hn, _, hgg, _⟩
    · rw [hn] at hg; cases hg
    · rw [hn] at hg; cases hg
      exact imap_ne h.map hgg))
  walks := by
    have := owns_set h.walks hg j u
    rw [hks] at this
    simp only [hlen]
    exact this
  fb := h.fb
  fm := h.fm
  fr := h.fr
  fk := h.fk
  lt k hk := by have := h.lt k hk; simpa [World.setCell] using this

/-- Stop: the walks behind it, and the error. -/
def stopW (ks : List W2) (i : Int) : List W2 × Int := if underB ks i then (match ks[i.toNat]? with | some k => (ks.set i.toNat (k.1, true), 0) | none => (ks, 1)) else (ks, 1)

theorem under_true {ks : List W2} {i : Int} (h : underB ks i = true) : ∃ (j : Nat) (r : W2), i = j ∧ ks[j]? = some r ∧ r.2 = false := by
  unfold underB at h
  by_cases hi : i < 0
  · simp [hi] at h
  · obtain ⟨j, rfl⟩ := Int.eq_ofNat_of_zero_le (Int.not_lt.1 hi)
    simp only [hi, if_false, Int.toNat_natCast] at h
    cases hk : ks[j]? with
    | none => rw [hk] at h; cases h
    | some r => rw [hk] at h; exact ⟨j, r, rfl, hk, by simpa using h⟩

theorem f16_tab {w : World} {F : Nat → Prop} {b : Nat} {T : PT} (h : Tab w F b T) (hl : T.walks.length < 1099511627776) (i : Int) :
    Calls Try.prog 16 #[.pointer (some ⟨b, 0, none⟩), .int .i64 i] w fun e w' => e = .returned (.int .i64 (stopW T.walks i).2) ∧ Moves w F b { T with walks := (stopW T.walks i).1 } w' := by
  have H50 := Lib.hid (f50_tab h hl i)
  have h0 := h
  obtain ⟨rv, m, kv, h⟩ := h
  have h4 := h.c4
  cases hu : underB T.walks i with
  | false =>
    rw [hu] at H50
    have e : stopW T.walks i = (T.walks, 1) := by simp [stopW, hu]
    rw [e]
    have HM := Lib.hid (h0.stays (Touch.refl _ _))
    clear h h0 e hu
    go_enter Try.func16, Try.ntmps16
    go_wp2_with (go_at_call 50; refine H50.out.mono ?_; rintro e w' ⟨rfl, rfl⟩)
    go_ret
    exact ⟨rfl, HM.out⟩
  | true =>
    rw [hu] at H50
    obtain ⟨j, r, rfl, hr, _⟩ := under_true hu
    have e : stopW T.walks j = (T.walks.set j (r.1, true), 0) := by simp [stopW, hu, hr]
    rw [e]
    have hj : j < T.walks.length := (List.getElem?_eq_some_iff.1 hr).1
    obtain ⟨g, cap, hkv, hF, hg, ⟨h0', h1'⟩, _, z1⟩ := h.viewKg hr
    have HM : Moves w F b { T with walks := T.walks.set j (r.1, true) } (w.setCell ⟨g, j * 2 + 1, none⟩ (.bool true)) :=
      ⟨F, ⟨rv, m, kv, h.setWalk hg (j * 2 + 1) (.bool true) _ (by simp) (walksCells_set1 _ _ _ hr _)⟩, (touch_setCell _ _ _).mono (fun i _ hi => by rw [hi]; exact hF), fun _ h => .inl h⟩
    have HM := Lib.hid HM
    clear h h0 e hu hr
    subst hkv
    clear hg
    go_enter Try.func16, Try.ntmps16
    go_wp2_with (go_at_call 50; refine H50.out.mono ?_; rintro e w' ⟨rfl, rfl⟩)
    go_ret
    exact ⟨rfl, HM.out⟩

/-! ### slices of pairs -/

abbrev P2 := Int × Int
def pairCells (p : P2) : List Value := [.int .i64 p.1, .int .i64 p.2]
def pairsCells (ps : List P2) : List Value := ps.flatMap pairCells
theorem pairsCells_length (rs : List P2) : (pairsCells rs).length = rs.length * 2 := by
  induction rs with
  | nil => rfl
  | cons r rs ih => simp [pairsCells, pairCells] at ih ⊢; omega
theorem pairsCells_append (a b : List P2) : pairsCells (a ++ b) = pairsCells a ++ pairsCells b := by simp [pairsCells]
theorem pairsCells_cons (r : P2) (b : List P2) : pairsCells (r :: b) = pairCells r ++ pairsCells b := by simp [pairsCells]
theorem pairsCells_get (rs : List P2) : ∀ (i c : Nat) (r : P2), rs[i]? = some r → c < 2 → (pairsCells rs)[i * 2 + c]? = (pairCells r)[c]? := by
  induction rs with
  | nil => intro i c r h; simp at h
  | cons x rs ih =>
    intro i c r h hc
    rw [pairsCells_cons]
    cases i with
    | zero =>
      simp at h; subst h
      simp only [Nat.zero_mul, Nat.zero_add]
      rw [List.getElem?_append_left (by simp [pairCells]; omega)]
    | succ i =>
      have : (i + 1) * 2 + c = (pairCells x).length + (i * 2 + c) := by simp [pairCells]; omega
      rw [this, List.getElem?_append_right (by omega), Nat.add_sub_cancel_left]
      exact ih i c r (by simpa using h) hc

/-- A slice of pairs that may be read: its length and its cells. -/
structure Pairs (w : World) (v : Value) (ps : List P2) : Prop where
  view : ∃ ao cap, v = .slice ao ps.length cap ∧ ps.length ≤ cap ∧ ∀ i p, ps[i]? = some p → ∃ g o, ao = some ⟨g, o, none⟩ ∧ g < w.heap.size ∧ w.cell? ⟨g, o + i * 2, none⟩ = some (.int .i64 p.1) ∧ w.cell? ⟨g, o + i * 2 + 1, none⟩ = some (.int .i64 p.2)

theorem pairs_of_owns {w : World} {v : Value} {ps : List P2} (h : w.ownsRow 0 37 2 v ps.length (pairsCells ps)) : Pairs w v ps := by
  obtain ⟨ao, cap, rfl, hc, _, hv⟩ := owns_view h
  refine ⟨ao, cap, rfl, hc, fun i r hr => ?_⟩
  have e : ∀ c, c < 2 → (pairsCells ps)[i * 2 + c]? = (pairCells r)[c]? := fun c hc => pairsCells_get _ i c r hr hc
  obtain ⟨g, rfl, h0, z0, hg⟩ := hv (i * 2) _ (e 0 (by omega))
  obtain ⟨g1, hg1, h1, z1, _⟩ := hv (i * 2 + 1) _ (e 1 (by omega))
  cases hg1
  refine ⟨g, 0, rfl, World.block_lt_of_cell? w _ h0, ?_, ?_⟩
  · simpa using h0
  · simpa using h1

theorem Pairs.kept {w w' : World} {v : Value} {ps : List P2} (h : Pairs w v ps) {S : Nat → Prop} (ht : Touch S w w') (hS : ∀ g o l c, v = .slice (some ⟨g, o, none⟩) l c → ¬ S g) : Pairs w' v ps := by
  obtain ⟨ao, cap, rfl, hc, hv⟩ := h.view
  refine ⟨ao, cap, rfl, hc, fun i p hp => ?_⟩
  obtain ⟨g, o, rfl, hg, h0, h1⟩ := hv i p hp
  have hn := hS g o _ _ rfl
  exact ⟨g, o, rfl, Nat.lt_of_lt_of_le hg ht.size, (ht.cell (p := ⟨g, _, none⟩) hg hn).trans h0, (ht.cell (p := ⟨g, _, none⟩) hg hn).trans h1⟩

theorem Pairs.still {w w' : World} {v : Value} {ps : List P2} (h : Pairs w v ps) (ht : Still w w') : Pairs w' v ps := h.kept ht (fun _ _ _ _ _ h => h)

theorem info3 : (Try.prog.info? 3).map (fun i => (i.zero, i.size, i.bytes)) = some (some (.int .i64 0), 1, 8) := by kernel_rfl
theorem cells3 : Try.prog.cellsOf 3 = 1 := by kernel_rfl
theorem part0 (a b : Int) (w : World) : (part 3 #[.int .i64 a, .int .i64 b] 0).run Try.prog w = .ok (.int .i64 a) w := by kernel_rfl
theorem part1 (a b : Int) (w : World) : (part 3 #[.int .i64 a, .int .i64 b] 1).run Try.prog w = .ok (.int .i64 b) w := by kernel_rfl
theorem eq37 (a b c d : Int) (w : World) : (Op.equalIn 10000 37 (.agg #[.int .i64 a, .int .i64 b]) (.agg #[.int .i64 c, .int .i64 d])).run Try.prog w = .ok (a == c && b == d) w := by
  obtain ⟨i, hi, _⟩ := info_parts info3
  rw [show (10000 : Nat) = 9998 + 1 + 1 from rfl, run_equalIn_array w _ _ _ Try.underlying37 hi]
  have e : ∀ x y, (Op.equalIn (9998 + 1) 3 (.int .i64 x) (.int .i64 y)).run Try.prog w = .ok (x == y) w := fun x y => run_equalIn_int w _ 3 .i64 .i64 x y Try.underlying3
  simp only [show List.range 2 = [0, 1] from rfl, Op.eqItems, cells3, Nat.zero_mul, Nat.one_mul, Sem.run_bind, part0, Result.andThen_ok, e]
  cases h1 : (a == c) <;> cases h2 : (b == d) <;> simp [part1, e, h2]

/-- Two slices of pairs that are alike. -/
theorem f18_any {w : World} {u v : Value} {ps qs : List P2} (hp : Pairs w u ps) (hq : Pairs w v qs) (hl : ps.length < 1099511627776) (hl2 : qs.length < 1099511627776) :
    Calls Try.prog 18 #[u, v] w fun e w' => e = .returned (.bool (decide (ps = qs))) ∧ Still w w' := by
  obtain ⟨a1, cap1, rfl, hc1, hv1⟩ := hp.view
  obtain ⟨a2, cap2, rfl, hc2, hv2⟩ := hq.view
  have H1 := Lib.hid hv1
  have H2 := Lib.hid hv2
  clear hv1 hv2 hp hq
  by_cases hlen : ps.length = qs.length
  · have HL := Lib.hid hlen
    have hb : ((ps.length : Int) != qs.length) = false := by simp [hlen]
    clear hlen
    go_enter Try.func18, Try.ntmps18
    go_wp2
    go_loopw [5] (fun i wr => ∃ k : Nat, k ≤ ps.length ∧ i = .int .i64 k ∧ ps.take k = qs.take k ∧ Still w wr) (fun i _ => ps.length - (intOf i).toNat)
    case atStart => exact ⟨0, Nat.zero_le _, rfl, by simp, Touch.refl _ _⟩
    case round =>
      obtain ⟨k, hk, rfl, hkk, ht⟩ := hrel
      have HK := Lib.hid hkk; clear hkk
      have HT := Lib.hid ht; clear ht
      by_cases hlt : k < ps.length
      · obtain ⟨p, hp⟩ : ∃ p, ps[k]? = some p := ⟨ps[k], by simp [hlt]⟩
        obtain ⟨q, hq⟩ : ∃ q, qs[k]? = some q := ⟨qs[k]'(by rw [← HL.out]; exact hlt), by simp [← HL.out, hlt]⟩
        obtain ⟨g1, o1, e1, hg1, x1, y1⟩ := H1.out k p hp
        obtain ⟨g2, o2, e2, hg2, x2, y2⟩ := H2.out k q hq
        have x1 := (HT.out.cell (p := ⟨g1, _, none⟩) hg1 (by simp)).trans x1
        have y1 := (HT.out.cell (p := ⟨g1, _, none⟩) hg1 (by simp)).trans y1
        have x2 := (HT.out.cell (p := ⟨g2, _, none⟩) hg2 (by simp)).trans x2
        have y2 := (HT.out.cell (p := ⟨g2, _, none⟩) hg2 (by simp)).trans y2
        have HP := Lib.hid hp; have HQ := Lib.hid hq; clear hp hq
        have hlq : k < qs.length := by have := HL.out; omega
        subst e1; subst e2
        have he := eq37 p.1 p.2 q.1 q.2 wr.drew
        by_cases hpq : p = q
        · have HE : Hid (ps.take (k + 1) = qs.take (k + 1)) := by
            show _ = _
            rw [List.take_add_one, List.take_add_one, HK.out, HP.out, HQ.out, hpq]
          have hbq : (p.1 == q.1 && p.2 == q.2) = true := by simp [hpq]
          rw [hbq] at he
          clear hpq hbq
          go_wp2
          go_region
          go_wp2
          go_roundw
          case rel => exact ⟨k + 1, by omega, by go_num, HE.out, HT.out.drew⟩
          case measure => simp [intOf]; omega
        · have HD : Hid (decide (ps = qs) = false) := by
            show _ = _
            simp only [decide_eq_false_iff_not]
            intro h
            have h1 := HP.out
            rw [h, HQ.out] at h1
            exact hpq (Option.some.inj h1).symm
          have hbq : (p.1 == q.1 && p.2 == q.2) = false := by
            rw [Bool.eq_false_iff]
            intro h
            simp only [Bool.and_eq_true, beq_iff_eq] at h
            exact hpq (Prod.ext h.1 h.2)
          rw [hbq] at he
          clear hpq hbq
          go_wp2
          go_region
          go_wp2
          go_ret
          rw [HD.out]
          exact ⟨rfl, HT.out.drew⟩
      · have HE : Hid (ps = qs) := by
          have h1 := HK.out
          rwa [List.take_of_length_le (by omega), List.take_of_length_le (by have := HL.out; omega)] at h1
        go_wp2
        go_ret
        rw [show decide (ps = qs) = true by simp [HE.out]]
        exact ⟨rfl, HT.out⟩
  · have hb : ((ps.length : Int) != qs.length) = true := by simp; omega
    have hd : decide (ps = qs) = false := by simp; exact fun h => hlen (by rw [h])
    rw [hd]
    clear hlen
    go_enter Try.func18, Try.ntmps18
    go_wp2
    go_ret
    exact ⟨rfl, Touch.refl _ _⟩

end Go.Proofs.Ytombofldebmaoaa
