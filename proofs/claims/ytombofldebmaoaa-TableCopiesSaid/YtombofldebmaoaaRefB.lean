/-
  The reference's table: what writes: the laws of the heap; New, All, Put, Begin, Stop, Next.
-/
import Derived.Test.YtombofldebmaoaaRefA
namespace Go.Proofs.Ytombofldebmaoaa
open Go.RowKit
set_option linter.unusedVariables false

section
variable {w : World} {F : Nat → Prop} {b : Nat} {R : PT} {rv kv : Value}

theorem owns_kind {w : World} {e size n : Nat} {v : Value} {xs : List Value} (h : w.ownsRow 0 e size v n xs) {k : Nat} (hk : ownOf v k) : ∃ cs, w.heap[k]? = some (.cells cs e (0, 0)) := by
  rcases h.2 with ⟨hn, _⟩ | ⟨g', cap', cur, hn, _, hgg, _⟩
  · rw [hn] at hk; cases hk
  · rw [hn] at hk; cases hk; exact ⟨_, hgg⟩

/-- The table's block and its two rows lie apart. -/
theorem RefAt.rb (h : RefAt w F b R rv kv) : ∀ k, ownOf rv k → ¬ k = b := owns_ne h.rows h.block (by decide)
theorem RefAt.kb (h : RefAt w F b R rv kv) : ∀ k, ownOf kv k → ¬ k = b := owns_ne h.walks h.block (by decide)
theorem RefAt.rk (h : RefAt w F b R rv kv) : ∀ k, ownOf rv k → ¬ ownOf kv k := by
  intro k h1 h2
  obtain ⟨cs, hcs⟩ := owns_kind h.walks h2
  exact owns_ne h.rows hcs (by decide) k h1 rfl

theorem RefAt.setWalk (h : RefAt w F b R rv kv) {g : Nat} (hg : ownOf kv g) (j : Nat) (u : Value) (ks : List W2) (hlen : ks.length = R.walks.length) (hks : (walksCells R.walks).set j u = walksCells ks) :
    RefAt (w.setCell ⟨g, j, none⟩ u) F b { R with walks := ks } rv kv where
  few := h.few
  block := (touch_setCell w ⟨g, j, none⟩ u).keeps h.block (fun e => h.kb g hg e.symm)
  rows := owns_touch h.rows (touch_setCell w ⟨g, j, none⟩ u) (fun k hk e => h.rk k hk (by rw [e]; exact hg))
  walks := by
    have := owns_set h.walks hg j u
    rw [hks] at this
    simp only [hlen]
    exact this
  fb := h.fb
  fr := h.fr
  fk := h.fk
  lt k hk := by have := h.lt k hk; simpa [World.setCell] using this

theorem RefAt.setRowVal (h : RefAt w F b R rv kv) {g : Nat} (hg : ownOf rv g) (i : Nat) (v : Int) :
    RefAt (w.setCell ⟨g, i * 3 + 1, none⟩ (.int .i64 v)) F b { R with rows := setVal R.rows i v } rv kv where
  few := by simp only [setVal_length]; exact h.few
  block := (touch_setCell w ⟨g, i * 3 + 1, none⟩ _).keeps h.block (fun e => h.rb g hg e.symm)
  rows := by
    have := owns_set h.rows hg (i * 3 + 1) (.int .i64 v)
    rw [rowsCells_set] at this
    simp only [setVal_length]
    exact this
  walks := owns_touch h.walks (touch_setCell w ⟨g, i * 3 + 1, none⟩ _) (fun k hk e => h.rk g hg (by have e : k = g := e; rw [← e]; exact hk))
  fb := h.fb
  fr := h.fr
  fk := h.fk
  lt k hk := by have := h.lt k hk; simpa [World.setCell] using this

/-- The table's own block, but for its two rows, is written. -/
theorem RefAt.fields (h : RefAt w F b R rv kv) (p : Nat) (v : Value) (st fr : Bool) (nx : Nat)
    (hc : (#[Value.bool true, .bool R.strict, .bool R.frozen, rv, kv, .int .i64 R.next] : Array Value).setIfInBounds p v = #[.bool true, .bool st, .bool fr, rv, kv, .int .i64 nx]) :
    RefAt (w.setCell ⟨b, p, none⟩ v) F b { R with strict := st, frozen := fr, next := nx } rv kv where
  few := h.few
  block := by rw [heap_setCell_same h.block, hc]
  rows := owns_touch h.rows (touch_setCell w _ v) (fun k hk => h.rb k hk)
  walks := owns_touch h.walks (touch_setCell w _ v) (fun k hk => h.kb k hk)
  fb := h.fb
  fr := h.fr
  fk := h.fk
  lt k hk := by have := h.lt k hk; simpa [World.setCell] using this

/-- New rows, made beside the old, are laid into the table. -/
theorem RefAt.newRows {w6 : World} (h : RefAt w F b R rv kv) (hgrow : Touch (ownOf rv) w w6) (rs : List R3) {rv' : Value} (hown : w6.ownsRow 0 86 3 rv' rs.length (rowsCells rs)) (hat : ∀ k, ownOf rv' k → ownOf rv k ∨ w.heap.size ≤ k) (hf : rs.length ≤ 500) :
    RMoves w F b { R with rows := rs } (w6.setCell ⟨b, 3, none⟩ rv') := by
  have hb6 := hgrow.keeps h.block (fun hk => h.rb b hk rfl)
  have hb7 := heap_setCell_same hb6 3 rv'
  have n1 : ∀ k, ownOf rv' k → ¬ k = b := by
    rintro k hk rfl
    rcases hat k hk with h1 | h1
    · exact h.rb k h1 rfl
    · have := h.bl; omega
  have lt1 : ∀ k, ownOf rv' k → k < w6.heap.size := by
    intro k hk
    obtain ⟨cs, hcs⟩ := owns_kind hown hk
    exact World.lt_of_heap hcs
  refine ⟨fun k => F k ∨ ownOf rv' k, ⟨rv', kv, hf, hb7, owns_touch hown (touch_setCell w6 ⟨b, 3, none⟩ rv') n1, ?_, .inl h.fb, fun k hk => .inr hk, fun k hk => .inl (h.fk k hk), ?_⟩, ?_, ?_⟩
  · exact owns_touch (owns_touch h.walks hgrow (fun k hk h1 => h.rk k h1 hk)) (touch_setCell w6 ⟨b, 3, none⟩ rv') (fun k hk => h.kb k hk)
  · rintro k (hk | hk)
    · have := h.lt k hk; have := hgrow.size; simp [World.setCell]; omega
    · have := lt1 k hk; simp [World.setCell]; omega
  · exact (hgrow.mono (fun k _ hk => h.fr k hk)).setCell (.inl h.fb) _
  · rintro k (hk | hk)
    · exact .inl hk
    · rcases hat k hk with h1 | h1
      · exact .inl (h.fr k h1)
      · exact .inr h1

theorem RefAt.newWalks {w6 : World} (h : RefAt w F b R rv kv) (hgrow : Touch (ownOf kv) w w6) (ks : List W2) {kv' : Value} (hown : w6.ownsRow 0 92 2 kv' ks.length (walksCells ks)) (hat : ∀ k, ownOf kv' k → ownOf kv k ∨ w.heap.size ≤ k) :
    RMoves w F b { R with walks := ks } (w6.setCell ⟨b, 4, none⟩ kv') := by
  have hb6 := hgrow.keeps h.block (fun hk => h.kb b hk rfl)
  have hb7 := heap_setCell_same hb6 4 kv'
  have n1 : ∀ k, ownOf kv' k → ¬ k = b := by
    rintro k hk rfl
    rcases hat k hk with h1 | h1
    · exact h.kb k h1 rfl
    · have := h.bl; omega
  have lt1 : ∀ k, ownOf kv' k → k < w6.heap.size := by
    intro k hk
    obtain ⟨cs, hcs⟩ := owns_kind hown hk
    exact World.lt_of_heap hcs
  refine ⟨fun k => F k ∨ ownOf kv' k, ⟨rv, kv', h.few, hb7, ?_, owns_touch hown (touch_setCell w6 ⟨b, 4, none⟩ kv') n1, .inl h.fb, fun k hk => .inl (h.fr k hk), fun k hk => .inr hk, ?_⟩, ?_, ?_⟩
  · exact owns_touch (owns_touch h.rows hgrow (fun k hk h1 => h.rk k hk h1)) (touch_setCell w6 ⟨b, 4, none⟩ kv') (fun k hk => h.rb k hk)
  · rintro k (hk | hk)
    · have := h.lt k hk; have := hgrow.size; simp [World.setCell]; omega
    · have := lt1 k hk; simp [World.setCell]; omega
  · exact (hgrow.mono (fun k _ hk => h.fk k hk)).setCell (.inl h.fb) _
  · rintro k (hk | hk)
    · exact .inl hk
    · rcases hat k hk with h1 | h1
      · exact .inl (h.fk k h1)
      · exact .inr h1
end

theorem own_slice {g n cap k : Nat} (h : ownOf (.slice (some ⟨g, 0, none⟩) n cap) k) : g = k := by cases h; rfl

/-- A new table of the reference. -/
def NewRef (w : World) (R : PT) (e : Ending) (w' : World) : Prop :=
  ∃ b F, e = .returned (.pointer (some ⟨b, 0, none⟩)) ∧ Ref w' F b R ∧ (∀ k, F k → w.heap.size ≤ k) ∧ Still w w'

theorem f35_any (w : World) : Calls Try.prog 35 #[] w (NewRef w PT.new) := by
  go_enter Try.func35, Try.ntmps35
  go_wp2
  go_ret
  refine ⟨w.heap.size, fun k => k = w.heap.size, rfl, ⟨.slice none 0 0, .slice none 0 0, Nat.zero_le _, heap_alloc_new w _, World.ownsRow_nil _ _ _ _, World.ownsRow_nil _ _ _ _, rfl, by simp [Value.ownBlock], by simp [Value.ownBlock], ?_⟩, ?_, (Touch.refl _ _).alloc _⟩
  · rintro k rfl; simp
  · rintro k rfl; omega

section
variable {w : World} {F : Nat → Prop} {b : Nat} {R : PT}

theorem f58_ref (h : Ref w F b R) (hl : R.walks.length < 1099511627776) (i : Int) :
    Calls Try.prog 58 #[.pointer (some ⟨b, 0, none⟩), .int .i64 i] w fun e w' => e = .returned (.int .i64 (stopW R.walks i).2) ∧ RMoves w F b { R with walks := (stopW R.walks i).1 } w' := by
  have H71 := Lib.hid (f71_ref h hl i)
  have h0 := h
  obtain ⟨rv, kv, h⟩ := h
  have h4 := h.c4
  cases hu : underB R.walks i with
  | false =>
    rw [hu] at H71
    have e : stopW R.walks i = (R.walks, 1) := by simp [stopW, hu]
    rw [e]
    have HM := Lib.hid (h0.stays (Touch.refl _ _))
    clear h h0 e hu
    go_enter Try.func58, Try.ntmps58
    go_wp2_with (go_at_call 71; refine H71.out.mono ?_; rintro e w' ⟨rfl, rfl⟩)
    go_ret
    exact ⟨rfl, HM.out⟩
  | true =>
    rw [hu] at H71
    obtain ⟨j, r, rfl, hr, _⟩ := under_true hu
    have e : stopW R.walks j = (R.walks.set j (r.1, true), 0) := by simp [stopW, hu, hr]
    rw [e]
    have hj : j < R.walks.length := (List.getElem?_eq_some_iff.1 hr).1
    obtain ⟨ao, cap, hkv, hcap, hv⟩ := h.viewK
    obtain ⟨g, rfl, hF, ⟨h0', h1'⟩, _, z1, hg⟩ := hv j r hr
    have HM : RMoves w F b { R with walks := R.walks.set j (r.1, true) } (w.setCell ⟨g, j * 2 + 1, none⟩ (.bool true)) :=
      ⟨F, ⟨rv, kv, h.setWalk hg (j * 2 + 1) (.bool true) _ (by simp) (walksCells_set1 _ _ _ hr _)⟩, (touch_setCell _ _ _).mono (fun i _ hi => by rw [hi]; exact hF), fun _ h => .inl h⟩
    have HM := Lib.hid HM
    clear h h0 e hu hr hv
    subst hkv
    clear hg
    go_enter Try.func58, Try.ntmps58
    go_wp2_with (go_at_call 71; refine H71.out.mono ?_; rintro e w' ⟨rfl, rfl⟩)
    go_ret
    exact ⟨rfl, HM.out⟩

theorem info86 : (Try.prog.info? 86).map (fun i => (i.zero, i.size, i.bytes)) = some (some (.agg #[.int .i64 0, .int .i64 0, .int .i64 0]), 3, 24) := by kernel_rfl
theorem info92 : (Try.prog.info? 92).map (fun i => (i.zero, i.size, i.bytes)) = some (some (.agg #[.int .i64 0, .bool false]), 2, 16) := by kernel_rfl

set_option maxHeartbeats 800000 in
theorem f31_ref (h : Ref w F b R) : Calls Try.prog 31 #[.pointer (some ⟨b, 0, none⟩)] w (NewPairs w (pairsOf R.rows)) := by
  obtain ⟨rv, kv, h⟩ := h
  have h3 := h.c3
  have lb := h.bl
  have hfew := h.few
  have HF := Lib.hid h.lt
  obtain ⟨ao, cap, rfl, hcap, hv⟩ := h.viewR
  have HV := Lib.hid hv
  clear h hv
  generalize R.rows = rs at *
  obtain ⟨i0, hi, hz0, hz1, hz2⟩ := info_parts info37
  have HI := Lib.hid hi; clear hi
  go_enter Try.func31, Try.ntmps31
  go_wp2_with fail
  go_loopw [3, 4] (fun v i wr => ∃ k : Nat, k ≤ rs.length ∧ i = .int .i64 k ∧ wr.ownsRow w.heap.size 37 2 v k (pairsCells ((pairsOf rs).take k)) ∧ Still w wr) (fun _ i _ => rs.length - (intOf i).toNat)
  case atStart => exact ⟨0, Nat.zero_le _, rfl, World.ownsRow_nil _ _ _ _, Touch.refl _ _⟩
  case round =>
    obtain ⟨k, hk, rfl, hown, ht⟩ := hrel
    have HO := Lib.hid hown; clear hown
    have HT := Lib.hid ht; clear ht
    have d3 := (HT.out.cell (p := ⟨b, 3, none⟩) lb (fun h => h)).trans h3
    by_cases hlt : k < rs.length
    · obtain ⟨r, hr⟩ : ∃ r, rs[k]? = some r := ⟨rs[k], by simp [hlt]⟩
      obtain ⟨g, hg, hF, ⟨x0, x1, x2⟩, _⟩ := HV.out k r hr
      have hb := HF.out g hF
      have x0 := (HT.out.cell (p := ⟨g, _, none⟩) hb (by simp)).trans x0
      have x1 := (HT.out.cell (p := ⟨g, _, none⟩) hb (by simp)).trans x1
      have x2 := (HT.out.cell (p := ⟨g, _, none⟩) hb (by simp)).trans x2
      have HR := Lib.hid hr; clear hr
      have hsz := HT.out.size
      have hsz1 : w.heap.size ≤ (wr.alloc (.cells #[.int .i64 r.1, .int .i64 r.2.1] 37)).heap.size := by simp; omega
      subst hg
      have hone : ∀ u ∈ [Value.int .i64 r.1, Value.int .i64 r.2.1], u.oneCell' = true := by intro u hu; simp at hu; rcases hu with rfl | rfl <;> rfl
      have hm63 : k + 1 ≤ maxLen := by unfold maxLen; omega
      go_wp2_with fail
      go_region_law (refine step_append_lies _ rfl (.tmp 18) (.tmp 36) 34 rfl w.heap.size 37 i0 (.agg #[.int .i64 0, .int .i64 0]) 2 16 Try.underlying34 HI.out hz0 hz1 hz2 rfl (by decide) _ _ _ rfl (HO.out.alloc _) ⟨wr.heap.size, 0, none⟩ 1 1 [.int .i64 r.1, .int .i64 r.2.1] rfl rfl (World.news_of_block (heap_alloc_new wr _)) hone (by decide) hm63 (by omega) hsz1 (wr.heap.size + 1) (by simp) ?_; intro g1 cap1 w1 hown hgrow hat hlt1; have HR1 : Hid (Still w w1 ∧ w1.ownsRow w.heap.size 37 2 (.slice (some ⟨g1, 0, none⟩) (k + 1) cap1) (k + 1) (pairsCells ((pairsOf rs).take (k + 1)))) := ⟨((HT.out.alloc _).drew).grown hgrow (fun i hi => .inr (HO.out.lt i hi).1), by rw [show (pairsOf rs).take (k + 1) = (pairsOf rs).take k ++ [(r.1, r.2.1)] by rw [List.take_add_one]; simp [pairsOf, HR.out], pairsCells_append]; exact hown⟩; clear hown hgrow hat hlt1)
      all_goals
        go_wp2_with fail
        go_roundw
        case rel => exact ⟨k + 1, by omega, by go_num, HR1.out.2, HR1.out.1⟩
        case measure => simp [intOf]; omega
    · obtain rfl : k = rs.length := by omega
      go_wp2_with fail
      go_ret
      have e : (pairsOf rs).take rs.length = pairsOf rs := List.take_of_length_le (by simp [pairsOf])
      have ho := HO.out
      rw [e] at ho
      obtain ⟨h1, h2⟩ := owns_base ho
      have e2 : (pairsOf rs).length = rs.length := by simp [pairsOf]
      exact ⟨_, rfl, pairs_of_owns (by rw [e2]; exact h1), h2, HT.out⟩

theorem RMoves.then' {w w5 w' : World} {F : Nat → Prop} {b : Nat} {R : PT} (ht : Touch F w w5) (h : RMoves w5 F b R w') : RMoves w F b R w' := by
  obtain ⟨F', h1, h2, h3⟩ := h
  refine ⟨F', h1, ht.then h2, fun k hk => ?_⟩
  rcases h3 k hk with h | h
  · exact .inl h
  · have := ht.size; exact .inr (by omega)

/-- Put. -/
def PT.addR (R : PT) (k v : Int) : PT := { R with rows := R.rows ++ [(k, v, ((R.next + 1 : Nat) : Int))], next := R.next + 1 }
def PT.putR (R : PT) (k v : Int) : PT × Int :=
  if R.frozen then (R, 13) else
  match R.rows.findIdx? (fun r => r.1 == k) with
  | some i => ({ R with rows := setVal R.rows i v }, 0)
  | none => if R.strict && decide (0 < opens R.walks) then (R, 8) else if 500 ≤ R.rows.length then (R, 9) else (R.addR k v, 0)

theorem add_endR {w5 w6 : World} {F : Nat → Prop} {b : Nat} {R : PT} {rv kv : Value} {O : Obj} {k v : Int} (H5 : RefAt w5 F b { R with next := R.next + 1 } rv kv) (hlen : R.rows.length < 500) {g6 cap6 : Nat}
    (hown : w6.ownsRow 0 86 3 (.slice (some ⟨g6, 0, none⟩) (R.rows.length + 1) cap6) (R.rows.length + 1) (rowsCells R.rows ++ [.int .i64 k, .int .i64 v, .int .i64 ((R.next : Int) + 1)]))
    (hgrow : (w5.alloc O).drew.grownBy w6 rv.ownBlock) (hat : rv.ownBlock = some g6 ∨ g6 = w5.heap.size + 1) :
    RMoves w5 F b (R.addR k v) (w6.setCell ⟨b, 3, none⟩ (.slice (some ⟨g6, 0, none⟩) (R.rows.length + 1) cap6)) := by
  have T6 : Touch (ownOf rv) w5 w6 := (((Touch.refl _ w5).alloc O).drew).grown hgrow (fun i hi => .inl hi)
  refine H5.newRows T6 (R.rows ++ [(k, v, ((R.next + 1 : Nat) : Int))]) ?_ ?_ (by simp; omega)
  · have e : rowsCells (R.rows ++ [(k, v, ((R.next + 1 : Nat) : Int))]) = rowsCells R.rows ++ [.int .i64 k, .int .i64 v, .int .i64 ((R.next : Int) + 1)] := by rw [rowsCells_append]; rfl
    rw [e, List.length_append]
    exact hown
  · intro i hi
    obtain rfl := own_slice hi
    rcases hat with h | h
    · exact .inl h
    · exact .inr (by omega)

set_option maxHeartbeats 1000000 in
theorem f53_ref (h : Ref w F b R) (hn : R.next < 1099511627776) (hl : R.walks.length < 1099511627776) (k v : Int) :
    Calls Try.prog 53 #[.pointer (some ⟨b, 0, none⟩), .int .i64 k, .int .i64 v] w fun e w' => e = .returned (.int .i64 (R.putR k v).2) ∧ RMoves w F b (R.putR k v).1 w' := by
  have H63 := Lib.hid (f63_ref h)
  have H64 := Lib.hid (f64_ref h k)
  have H65 : Hid (∀ w1, Still w w1 → Calls Try.prog 65 #[.pointer (some ⟨b, 0, none⟩)] w1 fun e w' => e = .returned (.bool (decide (0 < opens R.walks))) ∧ Still w1 w') := fun w1 hw => f65_ref (h.still hw) hl
  have HR := Lib.hid h
  have hfew := h.few
  obtain ⟨rv, kv, h⟩ := h
  have c2 := h.c2
  have c1 := h.c1
  have c3 := h.c3
  have c5 := h.c5
  have lb := h.bl
  cases hfr : R.frozen with
  | true =>
    have e : R.putR k v = (R, 13) := by simp [PT.putR, hfr]
    rw [e]
    rw [hfr] at c2
    clear e hfr h
    go_enter Try.func53, Try.ntmps53
    go_wp2_with (go_at_call 63; refine H63.out.mono ?_; rintro e w' ⟨rfl, rfl⟩)
    go_ret
    exact ⟨rfl, HR.out.stays (Touch.refl _ _)⟩
  | false =>
    rw [hfr] at c2
    rcases atI_cases R.rows k with ⟨ha, hf⟩ | ⟨i, r, ha, hr, hrk, hf⟩
    · rw [ha] at H64
      cases hst : (R.strict && decide (0 < opens R.walks)) with
      | true =>
        have e : R.putR k v = (R, 8) := by simp only [PT.putR, hfr, hf, hst]; rfl
        rw [e]
        simp only [Bool.and_eq_true] at hst
        obtain ⟨hs1, hs2⟩ := hst
        rw [hs1] at c1
        rw [hs2] at H65
        clear e hfr h ha hf hs1 hs2
        go_enter Try.func53, Try.ntmps53
        go_wp2_with (first | (go_at_call 63; refine H63.out.mono ?_; rintro e w' ⟨rfl, rfl⟩) | (go_at_call 64; refine H64.out.mono ?_; rintro e w1 ⟨rfl, hw1⟩; have d1 := (hw1.cell (p := ⟨b, 1, none⟩) lb (fun h => h)).trans c1; have HW1 := Lib.hid hw1; clear hw1) | (go_at_call 65; refine (H65.out _ HW1.out).mono ?_; rintro e w2 ⟨rfl, hw2⟩; have HW2 := Lib.hid hw2; clear hw2))
        go_ret
        exact ⟨rfl, HR.out.stays (HW1.out.then HW2.out)⟩
      | false =>
        by_cases h5 : 500 ≤ R.rows.length
        · have e : R.putR k v = (R, 9) := by simp only [PT.putR, hfr, hf, hst, h5]; rfl
          rw [e]
          obtain ⟨ao, cap, hrv, hcap, hv⟩ := h.viewR
          have hge : (500 : Int) ≤ (R.rows.length : Int) := by omega
          have HB : Hid (∀ w2, Still w w2 → w2.cell? ⟨b, 3, none⟩ = some rv) := fun w2 hw => (hw.cell (p := ⟨b, 3, none⟩) lb (fun h => h)).trans c3
          rw [hrv] at HB
          clear e hfr h ha hf hv hrv
          cases hs : R.strict with
          | false =>
            rw [hs] at c1
            go_enter Try.func53, Try.ntmps53
            go_wp2_with (first | (go_at_call 63; refine H63.out.mono ?_; rintro e w' ⟨rfl, rfl⟩) | (go_at_call 64; refine H64.out.mono ?_; rintro e w1 ⟨rfl, hw1⟩; have d1 := (hw1.cell (p := ⟨b, 1, none⟩) lb (fun h => h)).trans c1; have d3 := HB.out _ hw1; have HW1 := Lib.hid hw1; clear hw1))
            go_ret
            exact ⟨rfl, HR.out.stays HW1.out⟩
          | true =>
            rw [hs] at c1 hst
            rw [show decide (0 < opens R.walks) = false from by simpa using hst] at H65
            go_enter Try.func53, Try.ntmps53
            go_wp2_with (first | (go_at_call 63; refine H63.out.mono ?_; rintro e w' ⟨rfl, rfl⟩) | (go_at_call 64; refine H64.out.mono ?_; rintro e w1 ⟨rfl, hw1⟩; have d1 := (hw1.cell (p := ⟨b, 1, none⟩) lb (fun h => h)).trans c1; have HW1 := Lib.hid hw1; clear hw1) | (go_at_call 65; refine (H65.out _ HW1.out).mono ?_; rintro e w2 ⟨rfl, hw2⟩; have d3 := HB.out _ (HW1.out.then hw2); have HW2 := Lib.hid hw2; clear hw2))
            go_ret
            exact ⟨rfl, HR.out.stays (HW1.out.then HW2.out)⟩
        · have e : R.putR k v = (R.addR k v, 0) := by simp only [PT.putR, hfr, hf, hst, h5]; rfl
          rw [e]
          have hge : decide ((500 : Int) ≤ (R.rows.length : Int)) = false := by simp; omega
          obtain ⟨ao, cap, hrv, hcap, hv⟩ := h.viewR
          have HB : Hid (∀ w2, Still w w2 → w2.cell? ⟨b, 3, none⟩ = some rv ∧ w2.cell? ⟨b, 5, none⟩ = some (.int .i64 R.next) ∧ w2.frozen? ⟨b, 5, none⟩ = false) := fun w2 hw => ⟨(h.still hw).c3, (h.still hw).c5, (h.still hw).z 5⟩
          have H := Lib.hid h
          obtain ⟨i0, hi, hz0, hz1, hz2⟩ := info_parts info86
          have HI := Lib.hid hi; clear hi
          have hone : ∀ u ∈ [Value.int .i64 k, Value.int .i64 v, Value.int .i64 ((R.next : Int) + 1)], u.oneCell' = true := one_cells _ _ _ rfl rfl rfl
          have hm63 : R.rows.length + 1 ≤ maxLen := by unfold maxLen; omega
          have hnx : ((R.next + 1 : Nat) : Int) = (R.next : Int) + 1 := by omega
          rw [hrv] at HB H
          clear e hfr h ha hf hv hrv c3 c5
          cases hs : R.strict with
          | false =>
            rw [hs] at c1
            go_enter Try.func53, Try.ntmps53
            go_wp2_with (first | (go_at_call 63; refine H63.out.mono ?_; rintro e w' ⟨rfl, rfl⟩) | (go_at_call 64; refine H64.out.mono ?_; rintro e w1 ⟨rfl, hw1⟩; have d1 := (hw1.cell (p := ⟨b, 1, none⟩) lb (fun h => h)).trans c1; obtain ⟨d3, d5, z5⟩ := HB.out _ hw1; have HW1 := Lib.hid hw1; clear hw1))
            have H5 : Hid (RefAt (w1.setCell ⟨b, 5, none⟩ (.int .i64 ((R.next : Int) + 1))) F b { R with next := R.next + 1 } (.slice ao R.rows.length cap) kv) := (H.out.still HW1.out).fields 5 _ R.strict R.frozen (R.next + 1) rfl
            have T5 : Hid (Touch F w (w1.setCell ⟨b, 5, none⟩ (.int .i64 ((R.next : Int) + 1)))) := (HW1.out.mono (fun _ _ h => h.elim)).setCell (.inl H.out.fb) _
            clear d1 d3 d5 z5
            generalize w1.setCell ⟨b, 5, none⟩ (.int .i64 ((R.next : Int) + 1)) = w5 at *
            have d3 := H5.out.c3
            have d5 := H5.out.c5
            have z3 := H5.out.z 3
            have lb5 : b < w5.heap.size := H5.out.bl
            have HO : Hid (w5.ownsRow 0 86 3 (.slice ao R.rows.length cap) R.rows.length (rowsCells R.rows)) := H5.out.rows
            simp only at d5
            go_region_law (refine step_append_lies _ rfl (.tmp 53) (.tmp 61) 57 rfl 0 86 i0 (.agg #[.int .i64 0, .int .i64 0, .int .i64 0]) 3 24 Try.underlying57 HI.out hz0 hz1 hz2 rfl (by decide) _ _ _ rfl (HO.out.alloc _) ⟨w5.heap.size, 0, none⟩ 1 1 [.int .i64 k, .int .i64 v, .int .i64 ((R.next : Int) + 1)] rfl rfl (World.news_of_block (heap_alloc_new w5 _)) hone (by decide) hm63 (by omega) (Nat.zero_le _) (w5.heap.size + 1) (by simp) ?_; intro g6 cap6 w6 hown hgrow hat hlt6; have hB6 := add_mid hgrow H5.out.block H5.out.rb; have d6 := blk_c hB6 3 _ rfl; have z6 := blk_z hB6 3; have HE := Lib.hid (RMoves.then' T5.out (add_endR H5.out (by omega) hown hgrow hat)); clear hown hgrow hat hlt6 hB6)
            all_goals
              go_wp2_with fail
              go_ret
              exact ⟨rfl, HE.out⟩
          | true =>
            rw [hs] at c1 hst
            rw [show decide (0 < opens R.walks) = false from by simpa using hst] at H65
            go_enter Try.func53, Try.ntmps53
            go_wp2_with (first | (go_at_call 63; refine H63.out.mono ?_; rintro e w' ⟨rfl, rfl⟩) | (go_at_call 64; refine H64.out.mono ?_; rintro e w1 ⟨rfl, hw1⟩; have d1 := (hw1.cell (p := ⟨b, 1, none⟩) lb (fun h => h)).trans c1; have HW1 := Lib.hid hw1; clear hw1) | (go_at_call 65; refine (H65.out _ HW1.out).mono ?_; rintro e w2 ⟨rfl, hw2⟩; obtain ⟨d3, d5, z5⟩ := HB.out _ (HW1.out.then hw2); have HW2 := Lib.hid hw2; clear hw2))
            have H5 : Hid (RefAt (w2.setCell ⟨b, 5, none⟩ (.int .i64 ((R.next : Int) + 1))) F b { R with next := R.next + 1 } (.slice ao R.rows.length cap) kv) := (H.out.still (HW1.out.then HW2.out)).fields 5 _ R.strict R.frozen (R.next + 1) rfl
            have T5 : Hid (Touch F w (w2.setCell ⟨b, 5, none⟩ (.int .i64 ((R.next : Int) + 1)))) := ((HW1.out.then HW2.out).mono (fun _ _ h => h.elim)).setCell (.inl H.out.fb) _
            clear d1 d3 d5 z5
            generalize w2.setCell ⟨b, 5, none⟩ (.int .i64 ((R.next : Int) + 1)) = w5 at *
            have d3 := H5.out.c3
            have d5 := H5.out.c5
            have z3 := H5.out.z 3
            have lb5 : b < w5.heap.size := H5.out.bl
            have HO : Hid (w5.ownsRow 0 86 3 (.slice ao R.rows.length cap) R.rows.length (rowsCells R.rows)) := H5.out.rows
            simp only at d5
            go_region_law (refine step_append_lies _ rfl (.tmp 53) (.tmp 61) 57 rfl 0 86 i0 (.agg #[.int .i64 0, .int .i64 0, .int .i64 0]) 3 24 Try.underlying57 HI.out hz0 hz1 hz2 rfl (by decide) _ _ _ rfl (HO.out.alloc _) ⟨w5.heap.size, 0, none⟩ 1 1 [.int .i64 k, .int .i64 v, .int .i64 ((R.next : Int) + 1)] rfl rfl (World.news_of_block (heap_alloc_new w5 _)) hone (by decide) hm63 (by omega) (Nat.zero_le _) (w5.heap.size + 1) (by simp) ?_; intro g6 cap6 w6 hown hgrow hat hlt6; have hB6 := add_mid hgrow H5.out.block H5.out.rb; have d6 := blk_c hB6 3 _ rfl; have z6 := blk_z hB6 3; have HE := Lib.hid (RMoves.then' T5.out (add_endR H5.out (by omega) hown hgrow hat)); clear hown hgrow hat hlt6 hB6)
            all_goals
              go_wp2_with fail
              go_ret
              exact ⟨rfl, HE.out⟩
    · rw [ha] at H64
      have e : R.putR k v = ({ R with rows := setVal R.rows i v }, 0) := by simp only [PT.putR, hfr, hf]; rfl
      rw [e]
      obtain ⟨ao, cap, hrv, hcap, hv⟩ := h.viewR
      obtain ⟨g, hg, hF, ⟨x0, x1, x2⟩, z1, hog⟩ := hv i r hr
      have lg := h.lt g hF
      have hi : i < R.rows.length := (List.getElem?_eq_some_iff.1 hr).1
      subst hg
      have HM : Hid (∀ w1, Still w w1 → RMoves w F b { R with rows := setVal R.rows i v } (w1.setCell ⟨g, i * 3 + 1, none⟩ (.int .i64 v))) := fun w1 hw =>
        ⟨F, ⟨rv, kv, (h.still hw).setRowVal hog i v⟩, (hw.mono (fun _ _ h => h.elim)).setCell (.inl hF) _, fun _ h => .inl h⟩
      clear e hfr h hf ha hr hrk hv hog
      subst hrv
      go_enter Try.func53, Try.ntmps53
      go_wp2_with (first | (go_at_call 63; refine H63.out.mono ?_; rintro e w' ⟨rfl, rfl⟩) | (go_at_call 64; refine H64.out.mono ?_; rintro e w1 ⟨rfl, hw1⟩; have d3 := (hw1.cell (p := ⟨b, 3, none⟩) lb (fun h => h)).trans c3; have y1 := (hw1.cell (p := ⟨g, i * 3 + 1, none⟩) lg (fun h => h)).trans x1; have y2 := (World.frozen?_of_block (a := ⟨g, i * 3 + 1, none⟩) (hw1.block g lg (fun h => h))).trans z1; have HW1 := Lib.hid hw1; clear hw1))
      go_ret
      exact ⟨rfl, HM.out _ HW1.out⟩
end

end Go.Proofs.Ytombofldebmaoaa
