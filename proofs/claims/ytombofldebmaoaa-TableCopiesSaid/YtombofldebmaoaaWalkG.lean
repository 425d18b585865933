/-
  add: a row behind all.
-/
import Derived.Test.YtombofldebmaoaaWalkF
import Derived.Deep.AppendLies
import Derived.Deep.RegionLaw
namespace Go.Proofs.Ytombofldebmaoaa
open Go.RowKit
set_option linter.unusedVariables false

theorem info76 : (Try.prog.info? 76).map (fun i => (i.zero, i.size, i.bytes)) = some (some (.agg #[.int .i64 0, .int .i64 0, .int .i64 0]), 3, 24) := by kernel_rfl

theorem wf_nat {n : Nat} (h : n < 4611686018427387904) : (Lit.int .i64 (n : Int)).wf = true := WalkArith.wf_i64 (by omega)

theorem one_cells (a b c : Value) (ha : a.oneCell' = true) (hb : b.oneCell' = true) (hc : c.oneCell' = true) : ∀ u ∈ [a, b, c], u.oneCell' = true := by
  intro u hu; simp at hu; rcases hu with rfl | rfl | rfl <;> assumption

def PT.add (T : PT) (k v : Int) : PT := { T with rows := T.rows ++ [(k, v, (T.next : Int))], next := T.next + 1 }

theorem PT.ok.add {T : PT} (h : T.ok) {k v : Int} (hk : (Lit.int .i64 k).wf = true) (hnew : ∀ r ∈ T.rows, r.1 ≠ k) (hf : T.rows.length < 500) : (T.add k v).ok where
  few := by simp [PT.add]; omega
  sorted := by
    simp only [PT.add, List.pairwise_append, List.mem_singleton]
    refine ⟨h.sorted, by simp, ?_⟩
    rintro a ha _ rfl
    exact (h.nums a ha).2
  nums := by
    intro r hr
    simp only [PT.add, List.mem_append, List.mem_singleton] at hr ⊢
    rcases hr with hr | rfl
    · have := h.nums r hr; omega
    · simp only; omega
  keys := by
    simp only [PT.add, List.pairwise_append, List.mem_singleton]
    refine ⟨h.keys, by simp, ?_⟩
    rintro a ha _ rfl
    exact hnew a ha
  wf := by
    intro r hr
    simp only [PT.add, List.mem_append, List.mem_singleton] at hr
    rcases hr with hr | rfl
    · exact h.wf r hr
    · exact hk

theorem numOf_add {rs : List R3} {k v : Int} {n : Int} (hnew : ∀ r ∈ rs, r.1 ≠ k) (x : Int) : numOf (rs ++ [(k, v, n)]) x = if x = k then some n else numOf rs x := by
  unfold numOf
  rw [List.find?_append]
  by_cases hx : x = k
  · subst hx
    have : rs.find? (fun r => r.1 == x) = none := by
      rw [List.find?_eq_none]; intro r hr; simpa using hnew r hr
    simp [this]
  · have e : (k == x) = false := by simp; exact fun h => hx h.symm
    simp [e, hx]

theorem blk_c {w : World} {b : Nat} {cs : Array Value} {e : TypeId} (h : w.heap[b]? = some (.cells cs e (0, 0))) (j : Nat) (v : Value) (hv : cs[j]? = some v) : w.cell? ⟨b, j, none⟩ = some v := by
  simp [World.cell?, h, hv]
theorem blk_z {w : World} {b : Nat} {cs : Array Value} {e : TypeId} (h : w.heap[b]? = some (.cells cs e (0, 0))) (j : Nat) : w.frozen? ⟨b, j, none⟩ = false := by
  simp [World.frozen?, h]

theorem add_mid {w w1 : World} {O : Obj} {rv : Value} {b : Nat} {X : Obj} (hg : (w.alloc O).drew.grownBy w1 rv.ownBlock) (hb : w.heap[b]? = some X) (hne : ∀ k, rv.ownBlock = some k → ¬ k = b) : w1.heap[b]? = some X := by
  have lb := World.lt_of_heap hb
  rw [hg.block b (by show b < (w.alloc O).heap.size; simp; omega) (fun e => hne b e.symm rfl)]
  show (w.alloc O).heap[b]? = _
  exact (Below.heap_alloc w O b lb).trans hb

theorem add_end {w w1 w2 : World} {F : Nat → Prop} {b m : Nat} {T : PT} {rv kv : Value} {O : Obj} (H : TabAt w F b T rv m kv) {k v : Int} (hk : (Lit.int .i64 k).wf = true) (hnew : ∀ r ∈ T.rows, r.1 ≠ k) (hf : T.rows.length < 500)
    {g cap : Nat} (hown : w1.ownsRow 0 76 3 (.slice (some ⟨g, 0, none⟩) (T.rows.length + 1) cap) (T.rows.length + 1) (rowsCells T.rows ++ [.int .i64 k, .int .i64 v, .int .i64 T.next]))
    (hgrow : (w.alloc O).drew.grownBy w1 rv.ownBlock) (hat : rv.ownBlock = some g ∨ g = w.heap.size + 1) (hlt : g < w1.heap.size)
    (hm : IMap w2 m (T.next + 1) (fun x => if x = k then some (T.next : Int) else numOf T.rows x))
    (ht2 : Touch (fun i => i = m) ((w1.setCell ⟨b, 1, none⟩ (.slice (some ⟨g, 0, none⟩) (T.rows.length + 1) cap)).drew) w2) :
    Moves w F b (T.add k v) (w2.setCell ⟨b, 3, none⟩ (.int .i64 (T.next + 1))) := by
  have hne := owns_ne H.rows H.block (by decide)
  have hb1 := add_mid hgrow H.block hne
  have hb2 := heap_setCell_same hb1 1 (.slice (some ⟨g, 0, none⟩) (T.rows.length + 1) cap)
  have hmb : ¬ b = m := fun e => imap_ne H.map H.block e.symm
  have hb3 := ht2.keeps (k := b) hb2 hmb
  have hb4 := heap_setCell_same hb3 3 (.int .i64 (T.next + 1))
  have T1 : Touch F w w1 := ((Touch.refl F w).alloc O).drew.grown hgrow (fun i hi => .inl (H.fr i hi))
  have T2 : Touch F w (w1.setCell ⟨b, 1, none⟩ (.slice (some ⟨g, 0, none⟩) (T.rows.length + 1) cap)) := T1.setCell (.inl H.fb) _
  have T3 : Touch F w w2 := T2.drew.trans ht2 (fun i hi => .inl (by rw [hi]; exact H.fm))
  have T4 : Touch F w (w2.setCell ⟨b, 3, none⟩ (.int .i64 (T.next + 1))) := T3.setCell (.inl H.fb) _
  have gb : ¬ g = b := by
    rcases hat with h | h
    · exact hne g h
    · have := H.bl; omega
  have gm : ¬ g = m := by
    rcases hown.2 with ⟨hn, _⟩ | ⟨g', cap', cur, hn, _, hgg, _⟩
    · cases hn
    · cases hn
      rintro rfl
      obtain ⟨es, c, he⟩ := hm.isMap
      have e1 := ht2.os
      have hmlt : g < w.heap.size := H.map.lt
      rcases hat with h | h
      · obtain ⟨es', c', he'⟩ := H.map.isMap
        rcases H.rows.2 with ⟨hn, _⟩ | ⟨g'', cap'', cur'', hn, _, hgg', _⟩
        · rw [hn] at h; cases h
        · rw [hn] at h; cases h
          rw [hgg'] at he'; cases he'
      · omega
  have lt2 : ∀ i, i < w1.heap.size → i < (w2.setCell ⟨b, 3, none⟩ (.int .i64 (T.next + 1))).heap.size := by
    intro i hi
    have s2 := ht2.size
    simp [World.setCell, World.drew] at s2 ⊢
    omega
  have keep : ∀ i X, ¬ i = b → ¬ i = m → w1.heap[i]? = some X → (w2.setCell ⟨b, 3, none⟩ (.int .i64 (T.next + 1))).heap[i]? = some X := by
    intro i X h1 h2 hX
    have k1 := (touch_setCell w1 ⟨b, 1, none⟩ (.slice (some ⟨g, 0, none⟩) (T.rows.length + 1) cap)).keeps (k := i) hX h1
    have k2 := ht2.keeps (k := i) k1 h2
    exact (touch_setCell w2 ⟨b, 3, none⟩ (.int .i64 (T.next + 1))).keeps (k := i) k2 h1
  refine ⟨fun i => F i ∨ i = g, ⟨.slice (some ⟨g, 0, none⟩) (T.rows.length + 1) cap, m, kv, ?_⟩, T4, ?_⟩
  · refine ⟨H.ok.add hk hnew hf, hb4, ?_, ?_, ?_, .inl H.fb, .inl H.fm, ?_, fun i hi => .inl (H.fk i hi), ?_⟩
    · rcases hown.2 with ⟨hn, _⟩ | ⟨g', cap', cur, hn, hb0, hgg, rest⟩
      · cases hn
      · cases hn
        refine ⟨?_, .inr ⟨g, cap, cur, ?_, hb0, keep g _ gb gm hgg, ?_⟩⟩
        · simp [PT.add, rowsCells_length]
        · simp [PT.add]
        · have e : rowsCells (T.add k v).rows = rowsCells T.rows ++ [.int .i64 k, .int .i64 v, .int .i64 T.next] := by
            simp [PT.add, rowsCells, rowCells]
          rw [e]
          simpa [PT.add] using rest
    · have e : ∀ x, numOf (T.add k v).rows x = if x = k then some (T.next : Int) else numOf T.rows x := fun x => numOf_add hnew x
      refine (hm.kept ((touch_setCell w2 ⟨b, 3, none⟩ (.int .i64 (T.next + 1))).block m hm.lt (fun e => hmb e.symm))).congr (fun x _ => e x)
    · refine owns_touch (S := fun i => i = b ∨ i = m ∨ some i = rv.ownBlock) H.walks ?_ ?_
      · refine ⟨T4.os, T4.tape, T4.output, T4.size, fun i hi hn => ?_⟩
        have n1 : ¬ i = b := fun e => hn (.inl e)
        have n2 : ¬ i = m := fun e => hn (.inr (.inl e))
        have n3 : ¬ some i = rv.ownBlock := fun e => hn (.inr (.inr e))
        have e1 : w1.heap[i]? = w.heap[i]? := by
          rw [hgrow.block i (by show i < (w.alloc O).heap.size; simp; omega) n3]
          exact Below.heap_alloc w O i hi
        obtain ⟨X, hX⟩ : ∃ X, w.heap[i]? = some X := ⟨w.heap[i], by simp [hi]⟩
        rw [hX]
        exact keep i X n1 n2 (by rw [e1]; exact hX)
      · intro i hi
        rcases H.walks.2 with ⟨hn, _⟩ | ⟨g', cap', cur, hn, _, hgg, _⟩
        · rw [hn] at hi; cases hi
        · rw [hn] at hi; cases hi
          rintro (h | h | h)
          · exact owns_ne H.walks H.block (by decide) _ (by rw [hn]; rfl) h
          · exact imap_ne H.map hgg h.symm
          · exact owns_ne H.rows hgg (by decide) _ h.symm rfl
    · intro i hi
      simp [Value.ownBlock] at hi
      exact .inr hi.symm
    · rintro i (hi | rfl)
      · exact Nat.lt_of_lt_of_le (H.lt i hi) T4.size
      · exact lt2 _ hlt
  · rintro i (hi | rfl)
    · exact .inl hi
    · rcases hat with h | h
      · exact .inl (H.fr _ h)
      · exact .inr (by omega)

set_option maxHeartbeats 400000 in
theorem f47_tab {w : World} {F : Nat → Prop} {b : Nat} {T : PT} (h : Tab w F b T) (hn : T.next < 1099511627776) {k v : Int} (hk : (Lit.int .i64 k).wf = true) (hnew : ∀ r ∈ T.rows, r.1 ≠ k) (hf : T.rows.length < 500) :
    Calls Try.prog 47 #[.pointer (some ⟨b, 0, none⟩), .int .i64 k, .int .i64 v] w fun e w' => e = .returned (.tuple #[]) ∧ Moves w F b (T.add k v) w' := by
  obtain ⟨rv, m, kv, h⟩ := h
  have c1 := h.c1
  have c2 := h.c2
  have c3 := h.c3
  have lb := h.bl
  have z1 := h.z 1
  have z3 := h.z 3
  have HO := Lib.hid h.rows
  have HNE := Lib.hid (owns_ne h.rows h.block (by decide))
  have HMB := Lib.hid (imap_ne h.map h.block)
  have HB := Lib.hid h.block
  obtain ⟨i0, hi, hz0, hz1, hz2⟩ := info_parts info76
  have HI := Lib.hid hi; clear hi
  have H := Lib.hid h; clear h
  have HK := Lib.hid hk; clear hk
  have HW := Lib.hid hnew; clear hnew
  go_enter Try.func47, Try.ntmps47
  go_wp2
  go_region_law (refine step_append_lies _ rfl (.tmp 10) (.tmp 18) 65 rfl 0 76 i0 (.agg #[.int .i64 0, .int .i64 0, .int .i64 0]) 3 24 Try.underlying65 HI.out hz0 hz1 hz2 rfl (by decide) _ _ _ rfl (HO.out.alloc _) ⟨w.heap.size, 0, none⟩ 1 1 [.int .i64 k, .int .i64 v, .int .i64 T.next] rfl rfl (World.news_of_block (heap_alloc_new w _)) (one_cells _ _ _ rfl rfl rfl) (by decide) (by unfold maxLen; omega) (by omega) (Nat.zero_le _) (w.heap.size + 1) (by simp) ?_; intro g cap w1 hown hgrow hat hlt; have HO1 := Lib.hid hown; have HG1 := Lib.hid hgrow; have HA1 := Lib.hid hat; have hB := add_mid hgrow HB.out HNE.out; have d1 := blk_c hB 1 _ rfl; have d2 := blk_c hB 2 _ rfl; have d3 := blk_c hB 3 _ rfl; have y1 := blk_z hB 1; have y3 := blk_z hB 3; have HB1 := Lib.hid hB; clear hown hgrow hat hB)
  all_goals
    have HMM : Hid (IMap ((w1.setCell ⟨b, 1, none⟩ (.slice (some ⟨g, 0, none⟩) (T.rows.length + 1) cap)).drew) m T.next (numOf T.rows)) := by
      refine H.out.map.kept ?_
      have lm := H.out.map.lt
      show (w1.setCell ⟨b, 1, none⟩ _).heap[m]? = _
      rw [Below.heap_setCell _ _ _ _ HMB.out, HG1.out.block m (by show m < (w.alloc _).heap.size; simp; omega) ?_]
      · exact Below.heap_alloc w _ m lm
      · intro e
        rcases H.out.rows.2 with ⟨hn, _⟩ | ⟨g', cap', cur, hn, _, hgg, _⟩
        · rw [hn] at e; cases e
        · rw [hn] at e; cases e
          exact imap_ne H.out.map hgg rfl
    obtain ⟨w2, hrun, hm2, ht2⟩ := HMM.out.store HK.out (wf_nat (n := T.next) (by omega)) (by unfold maxLen; omega)
    have HM2 := Lib.hid hm2; clear hm2
    have HB2 := Lib.hid (ht2.keeps (k := b) (heap_setCell_same HB1.out 1 (.slice (some ⟨g, 0, none⟩) (T.rows.length + 1) cap)) (fun e => HMB.out e.symm))
    have q3 := blk_c HB2.out 3 _ rfl
    have y3' := blk_z HB2.out 3
    have HE := Lib.hid (add_end H.out HK.out HW.out hf HO1.out HG1.out HA1.out hlt HM2.out ht2)
    clear ht2
    go_wp2
    go_region
    go_wp2
    go_end0
    exact ⟨rfl, HE.out⟩

end Go.Proofs.Ytombofldebmaoaa
