/-
  Rekey, of the program's table: the table in memory while its rows are laid anew. No walk here.
-/
import Derived.Test.YtombofldebmaoaaRekE
namespace Go.Proofs.Ytombofldebmaoaa
open Go.RowKit Go.Maps
set_option linter.unusedVariables false

/-- The table has the rows out; it lies apart from its elder rows rv. w is the world in which the laying began. -/
def Reks (w : World) (F : Nat → Prop) (b : Nat) (T : PT) (rv : Value) (m : Nat) (out : List R3) (wy : World) : Prop :=
  ∃ Fx rv1 kv, TabAt wy Fx b { T with rows := out } rv1 m kv ∧ IMap wy m out.length (numOf out) ∧ Touch (fun k => F k ∧ ¬ ownOf rv k) w wy ∧ ∀ k, Fx k → (F k ∧ ¬ ownOf rv k) ∨ w.heap.size ≤ k

theorem Reks.moves {w wy : World} {F : Nat → Prop} {b m : Nat} {T : PT} {rv : Value} {out : List R3} (h : Reks w F b T rv m out wy) : Moves w F b { T with rows := out } wy := by
  obtain ⟨Fx, rv1, kv, h1, _, h3, h4⟩ := h
  exact ⟨Fx, ⟨rv1, m, kv, h1⟩, h3.mono (fun _ _ h => h.1), fun k hk => (h4 k hk).imp (fun h => h.1) id⟩

theorem Reks.still {w wy wz : World} {F : Nat → Prop} {b m : Nat} {T : PT} {rv : Value} {out : List R3} (h : Reks w F b T rv m out wy) (ht : Still wy wz) : Reks w F b T rv m out wz := by
  obtain ⟨Fx, rv1, kv, h1, h2, h3, h4⟩ := h
  exact ⟨Fx, rv1, kv, h1.kept2 ht, h2.kept (ht.block _ h2.lt (fun h => h)), h3.trans ht (fun _ h => h.elim), h4⟩

theorem Reks.tab {w wy : World} {F : Nat → Prop} {b m : Nat} {T : PT} {rv : Value} {out : List R3} (h : Reks w F b T rv m out wy) : ∃ Fx, Tab wy Fx b { T with rows := out } := by
  obtain ⟨Fx, rv1, kv, h1, _⟩ := h
  exact ⟨Fx, rv1, m, kv, h1⟩

theorem reks_start {w : World} {F : Nat → Prop} {b m : Nat} {T : PT} {rv kv : Value} (H : TabAt w F b T rv m kv) :
    Reks w F b T rv w.heap.size [] (((w.setCell ⟨b, 1, none⟩ (.slice none 0 0)).setCell ⟨b, 2, none⟩ (.map (some w.heap.size))).alloc (.map #[] 0)) := by
  have hb0 := heap_setCell_same H.block 1 (.slice none 0 0)
  have hb1 := heap_setCell_same hb0 2 (.map (some w.heap.size))
  have hb2 : (((w.setCell ⟨b, 1, none⟩ (.slice none 0 0)).setCell ⟨b, 2, none⟩ (.map (some w.heap.size))).alloc (.map #[] 0)).heap[b]? = _ := (Below.heap_alloc _ _ b (by have := H.bl; simp; omega)).trans hb1
  have lb := H.bl
  have nb : ¬ w.heap.size = b := by omega
  have rb : ¬ ownOf rv b := fun e => owns_ne H.rows H.block (by decide) b e rfl
  have fbb : F b ∧ ¬ ownOf rv b := ⟨H.fb, rb⟩
  have TT : Touch (fun k => F k ∧ ¬ ownOf rv k) w (((w.setCell ⟨b, 1, none⟩ (.slice none 0 0)).setCell ⟨b, 2, none⟩ (.map (some w.heap.size))).alloc (.map #[] 0)) :=
    (((Touch.refl _ w).setCell (.inl fbb) _).setCell (.inl fbb) _).alloc _
  have hm : IMap (((w.setCell ⟨b, 1, none⟩ (.slice none 0 0)).setCell ⟨b, 2, none⟩ (.map (some w.heap.size))).alloc (.map #[] 0)) w.heap.size 0 (numOf []) := by
    have := IMap.made ((w.setCell ⟨b, 1, none⟩ (.slice none 0 0)).setCell ⟨b, 2, none⟩ (.map (some w.heap.size)))
    have e : (numOf [] : Int → Option Int) = fun _ => none := by funext x; rfl
    rw [e]
    simpa using this
  refine ⟨fun k => k = b ∨ k = w.heap.size ∨ (ownOf kv k), .slice none 0 0, kv, ⟨⟨by simp, by simp, by simp, by simp, by simp⟩, hb2, World.ownsRow_nil _ _ _ _, hm.mono (Nat.zero_le _), ?_, .inl rfl, .inr (.inl rfl), (by intro k hk; cases hk), fun k hk => .inr (.inr hk), ?_⟩, hm, TT, ?_⟩
  · refine owns_touch (S := fun k => k = b) H.walks ?_ (owns_ne H.walks H.block (by decide))
    exact (((Touch.refl (fun k => k = b) w).setCell (.inl rfl) _).setCell (.inl rfl) _).alloc _
  · intro k hk
    have := TT.size
    have hsz : (((w.setCell ⟨b, 1, none⟩ (.slice none 0 0)).setCell ⟨b, 2, none⟩ (.map (some w.heap.size))).alloc (.map #[] 0)).heap.size = w.heap.size + 1 := by simp
    rcases hk with rfl | rfl | hk
    · omega
    · omega
    · have := H.lt k (H.fk k hk); omega
  · intro k hk
    rcases hk with rfl | rfl | hk
    · exact .inl fbb
    · exact .inr (Nat.le_refl _)
    · refine .inl ⟨H.fk k hk, fun hr => ?_⟩
      rcases H.walks.2 with ⟨hn, _⟩ | ⟨g', cap', cur, hn, _, hgg, _⟩
      · rw [hn] at hk; cases hk
      · rw [hn] at hk; cases hk
        exact owns_ne H.rows hgg (by decide) _ hr rfl

theorem reks_set {w wy : World} {F Fx : Nat → Prop} {b m g : Nat} {T : PT} {rv rv1 kv : Value} {out : List R3} (H : TabAt wy Fx b { T with rows := out } rv1 m kv) (hm : IMap wy m out.length (numOf out)) (ht : Touch (fun k => F k ∧ ¬ ownOf rv k) w wy)
    (hF : ∀ k, Fx k → (F k ∧ ¬ ownOf rv k) ∨ w.heap.size ≤ k) (hg : rv1.ownBlock = some g) (i : Nat) (v : Int) : Reks w F b T rv m (setVal out i v) (wy.setCell ⟨g, i * 3 + 1, none⟩ (.int .i64 v)) := by
  refine ⟨Fx, rv1, kv, H.setRowVal hg i v, ?_, ht.setCell (hF g (H.fr g hg)) _, hF⟩
  rw [setVal_length]
  refine (hm.kept ((touch_setCell wy ⟨g, i * 3 + 1, none⟩ _).block m hm.lt ?_)).congr (fun x _ => numOf_keys (setVal_keys _ _ _) x)
  rcases H.rows.2 with ⟨hn, _⟩ | ⟨g', cap, cur, hn, _, hgg, _⟩
  · rw [hn] at hg; cases hg
  · rw [hn] at hg; cases hg
    exact imap_ne hm hgg

/-- A row is laid behind all: the slice has grown, the key is in the map. -/
theorem reks_snoc {w wy w1 w2 : World} {F Fx : Nat → Prop} {b m : Nat} {T : PT} {rv rv1 kv : Value} {out : List R3} {O : Obj} (H : TabAt wy Fx b { T with rows := out } rv1 m kv) (ht : Touch (fun k => F k ∧ ¬ ownOf rv k) w wy)
    (hF : ∀ k, Fx k → (F k ∧ ¬ ownOf rv k) ∨ w.heap.size ≤ k) {k v n : Int} (hok : ({ T with rows := out ++ [(k, v, n)] } : PT).ok) (hnew : ∀ r ∈ out, r.1 ≠ k)
    {g cap : Nat} (hown : w1.ownsRow 0 76 3 (.slice (some ⟨g, 0, none⟩) (out.length + 1) cap) (out.length + 1) (rowsCells out ++ [.int .i64 k, .int .i64 v, .int .i64 n]))
    (hgrow : (wy.alloc O).drew.grownBy w1 rv1.ownBlock) (hat : rv1.ownBlock = some g ∨ g = wy.heap.size + 1) (hlt : g < w1.heap.size)
    (hm : IMap w2 m (out.length + 1) (fun x => if x = k then some n else numOf out x))
    (ht2 : Touch (fun i => i = m) ((w1.setCell ⟨b, 1, none⟩ (.slice (some ⟨g, 0, none⟩) (out.length + 1) cap)).drew) w2) :
    Reks w F b T rv m (out ++ [(k, v, n)]) w2 := by
  have hne := owns_ne H.rows H.block (by decide)
  have hb1 := add_mid hgrow H.block hne
  have hb2 := heap_setCell_same hb1 1 (.slice (some ⟨g, 0, none⟩) (out.length + 1) cap)
  have hmb : ¬ b = m := fun e => imap_ne H.map H.block e.symm
  have hb3 := ht2.keeps (k := b) hb2 hmb
  have T1 : Touch Fx wy w1 := ((Touch.refl Fx wy).alloc O).drew.grown hgrow (fun i hi => .inl (H.fr i hi))
  have T2 : Touch Fx wy (w1.setCell ⟨b, 1, none⟩ (.slice (some ⟨g, 0, none⟩) (out.length + 1) cap)) := T1.setCell (.inl H.fb) _
  have T3 : Touch Fx wy w2 := T2.drew.trans ht2 (fun i hi => .inl (by rw [hi]; exact H.fm))
  have gb : ¬ g = b := by
    rcases hat with h | h
    · exact hne g h
    · have := H.bl; omega
  have gm : ¬ g = m := by
    rcases hown.2 with ⟨hn, _⟩ | ⟨g', cap', cur, hn, _, hgg, _⟩
    · cases hn
    · cases hn
      rintro rfl
      obtain ⟨es, c, he⟩ := hm.isMap
      have hmlt : g < wy.heap.size := H.map.lt
      rcases hat with h | h
      · obtain ⟨es', c', he'⟩ := H.map.isMap
        rcases H.rows.2 with ⟨hn, _⟩ | ⟨g'', cap'', cur'', hn, _, hgg', _⟩
        · rw [hn] at h; cases h
        · rw [hn] at h; cases h
          rw [hgg'] at he'; cases he'
      · omega
  have lt2 : ∀ i, i < w1.heap.size → i < w2.heap.size := by
    intro i hi
    have s2 := ht2.size
    simp [World.setCell, World.drew] at s2
    omega
  have keep : ∀ i X, ¬ i = b → ¬ i = m → w1.heap[i]? = some X → w2.heap[i]? = some X := by
    intro i X h1 h2 hX
    have k1 := (touch_setCell w1 ⟨b, 1, none⟩ (.slice (some ⟨g, 0, none⟩) (out.length + 1) cap)).keeps (k := i) hX h1
    exact ht2.keeps (k := i) k1 h2
  have hlen : (out ++ [(k, v, n)]).length = out.length + 1 := by simp
  have hM : IMap w2 m (out ++ [(k, v, n)]).length (numOf (out ++ [(k, v, n)])) := by
    rw [hlen]
    exact hm.congr (fun x _ => numOf_add hnew x)
  have hsz := ht.size
  refine ⟨fun i => Fx i ∨ i = g, .slice (some ⟨g, 0, none⟩) (out.length + 1) cap, kv, ?_, hM, ht.trans T3 (fun i hi => hF i hi), ?_⟩
  · refine ⟨hok, hb3, ?_, hM.mono (sorted_len hok.sorted hok.nums), ?_, .inl H.fb, .inl H.fm, ?_, fun i hi => .inl (H.fk i hi), ?_⟩
    · rcases hown.2 with ⟨hn, _⟩ | ⟨g', cap', cur, hn, hb0, hgg, rest⟩
      · cases hn
      · cases hn
        refine ⟨?_, .inr ⟨g, cap, cur, ?_, hb0, keep g _ gb gm hgg, ?_⟩⟩
        · simp [rowsCells_length]
        · simp
        · have e : rowsCells (out ++ [(k, v, n)]) = rowsCells out ++ [.int .i64 k, .int .i64 v, .int .i64 n] := by
            simp [rowsCells, rowCells]
          rw [e]
          simpa using rest
    · refine owns_touch (S := fun i => i = b ∨ i = m ∨ some i = rv1.ownBlock) H.walks ?_ ?_
      · refine ⟨T3.os, T3.tape, T3.output, T3.size, fun i hi hn => ?_⟩
        have n1 : ¬ i = b := fun e => hn (.inl e)
        have n2 : ¬ i = m := fun e => hn (.inr (.inl e))
        have n3 : ¬ some i = rv1.ownBlock := fun e => hn (.inr (.inr e))
        have e1 : w1.heap[i]? = wy.heap[i]? := by
          rw [hgrow.block i (by show i < (wy.alloc O).heap.size; simp; omega) n3]
          exact Below.heap_alloc wy O i hi
        obtain ⟨X, hX⟩ : ∃ X, wy.heap[i]? = some X := ⟨wy.heap[i], by simp [hi]⟩
        rw [hX]
        exact keep i X n1 n2 (by rw [e1]; exact hX)
      · intro i hi
        rcases H.walks.2 with ⟨hn, _⟩ | ⟨g', cap', cur, hn, _, hgg, _⟩
        · rw [hn] at hi; cases hi
        · rw [hn] at hi; cases hi
          rintro (h | h | h)
          · exact owns_ne H.walks H.block (by decide) _ (by rw [hn]; rfl) h
          · exact imap_ne H.map hgg h.symm
          · exact owns_ne H.rows hgg (by decide) _ h.symm rfl
    · intro i hi
      simp [Value.ownBlock] at hi
      exact .inr hi.symm
    · rintro i (hi | rfl)
      · exact Nat.lt_of_lt_of_le (H.lt i hi) T3.size
      · exact lt2 _ hlt
  · rintro i (hi | rfl)
    · exact hF i hi
    · rcases hat with h | h
      · exact hF _ (H.fr _ h)
      · exact .inr (by omega)

/-- What lies outside the table, and the elder rows, stay as they were. -/
theorem Reks.block {w wy : World} {F : Nat → Prop} {b m : Nat} {T : PT} {rv : Value} {out : List R3} (h : Reks w F b T rv m out wy) {k : Nat} (hk : k < w.heap.size) (hn : ¬ F k ∨ ownOf rv k) : wy.heap[k]? = w.heap[k]? := by
  obtain ⟨Fx, rv1, kv, h1, h2, h3, h4⟩ := h
  exact h3.block k hk (fun h => by rcases hn with h5 | h5; exact h5 h.1; exact h.2 h5)

theorem Reks.size {w wy : World} {F : Nat → Prop} {b m : Nat} {T : PT} {rv : Value} {out : List R3} (h : Reks w F b T rv m out wy) : w.heap.size ≤ wy.heap.size := by
  obtain ⟨Fx, rv1, kv, h1, h2, h3, h4⟩ := h
  exact h3.size

/-- What the laying of one row sees. -/
def RekW (w : World) (F : Nat → Prop) (b : Nat) (T : PT) (rv : Value) (ps : List P2) (j : Nat) (wy : World) : Prop :=
  ∃ X m, Still w X ∧ IMap X w.heap.size ps.length (toOf ps) ∧ Reks X F b T rv m (rekRows ps (T.rows.take j)) wy

theorem RekW.still {w wy wz : World} {F : Nat → Prop} {b : Nat} {T : PT} {rv : Value} {ps : List P2} {j : Nat} (h : RekW w F b T rv ps j wy) (ht : Still wy wz) : RekW w F b T rv ps j wz := by
  obtain ⟨X, m, h1, h3, h2⟩ := h
  exact ⟨X, m, h1, h3, h2.still ht⟩

theorem RekW.size {w wy : World} {F : Nat → Prop} {b : Nat} {T : PT} {rv : Value} {ps : List P2} {j : Nat} (h : RekW w F b T rv ps j wy) : w.heap.size ≤ wy.heap.size := by
  obtain ⟨X, m, h1, h3, h2⟩ := h
  exact Nat.le_trans h1.size h2.size

/-- The row that is laid next. -/
theorem RekW.row {w wy : World} {F : Nat → Prop} {b m : Nat} {T : PT} {rv kv : Value} {ps : List P2} {j : Nat} (H : TabAt w F b T rv m kv) (h : RekW w F b T rv ps j wy) {r : R3} (hr : T.rows[j]? = some r) :
    ∃ g cap, rv = .slice (some ⟨g, 0, none⟩) T.rows.length cap ∧ wy.cell? ⟨g, j * 3, none⟩ = some (.int .i64 r.1) ∧ wy.cell? ⟨g, j * 3 + 1, none⟩ = some (.int .i64 r.2.1) ∧ wy.cell? ⟨g, j * 3 + 2, none⟩ = some (.int .i64 r.2.2) := by
  obtain ⟨X, m', h1, h3, h2⟩ := h
  obtain ⟨ao, cap, e, _, hv⟩ := (H.kept2 h1).viewR
  obtain ⟨g, e2, hF, ⟨x0, x1, x2⟩, _⟩ := hv j r hr
  subst e2
  have hg : ownOf rv g := by rw [e]; rfl
  have hb := h2.block (Nat.lt_of_lt_of_le (H.lt g hF) h1.size) (.inr hg)
  exact ⟨g, cap, e, (World.cell?_of_block (w := X) (a := ⟨g, _, none⟩) hb).trans x0, (World.cell?_of_block (w := X) (a := ⟨g, _, none⟩) hb).trans x1, (World.cell?_of_block (w := X) (a := ⟨g, _, none⟩) hb).trans x2⟩

/-- The map of the new keys. -/
theorem RekW.to {w wy : World} {F : Nat → Prop} {b m : Nat} {T : PT} {rv kv : Value} {ps : List P2} {j : Nat} (H : TabAt w F b T rv m kv) (h : RekW w F b T rv ps j wy) : IMap wy w.heap.size ps.length (toOf ps) := by
  obtain ⟨X, m', h1, h3, h2⟩ := h
  exact h3.kept (h2.block h3.lt (.inl (fun hF => by have := H.lt _ hF; omega)))

theorem RekW.start {w X : World} {F : Nat → Prop} {b m : Nat} {T : PT} {rv kv : Value} {ps : List P2} (H : TabAt w F b T rv m kv) (hX : Still w X) (hm : IMap X w.heap.size ps.length (toOf ps)) :
    RekW w F b T rv ps 0 (((X.setCell ⟨b, 1, none⟩ (.slice none 0 0)).setCell ⟨b, 2, none⟩ (.map (some X.heap.size))).alloc (.map #[] 0)) :=
  ⟨X, X.heap.size, hX, hm, reks_start (H.kept2 hX)⟩

theorem RekW.moves {w wy : World} {F : Nat → Prop} {b m : Nat} {T : PT} {rv kv : Value} {ps : List P2} {j : Nat} (H : TabAt w F b T rv m kv) (h : RekW w F b T rv ps j wy) : Moves w F b { T with rows := rekRows ps (T.rows.take j) } wy := by
  obtain ⟨X, m', h1, h3, h2⟩ := h
  exact Moves.after h1 h2.moves

theorem RekW.tab {w wy : World} {F : Nat → Prop} {b : Nat} {T : PT} {rv : Value} {ps : List P2} {j : Nat} (h : RekW w F b T rv ps j wy) : ∃ Fx, Tab wy Fx b { T with rows := rekRows ps (T.rows.take j) } := by
  obtain ⟨X, m, h1, h3, h2⟩ := h
  exact h2.tab

/-- The key is there: its row's value is turned. -/
theorem RekW.set {w wy : World} {F : Nat → Prop} {b : Nat} {T : PT} {rv : Value} {ps : List P2} {j i : Nat} (h : RekW w F b T rv ps j wy) {r : R3} (hr : T.rows[j]? = some r) (hi : atI (rekRows ps (T.rows.take j)) ((toOf ps r.1).getD r.1) = i) :
    ∃ g n cap x, wy.cell? ⟨b, 1, none⟩ = some (.slice (some ⟨g, 0, none⟩) n cap) ∧ i < n ∧ n ≤ 500 ∧ wy.cell? ⟨g, i * 3 + 1, none⟩ = some (.int .i64 x) ∧ wy.frozen? ⟨g, i * 3 + 1, none⟩ = false ∧ g < wy.heap.size ∧
      ∀ W, Still wy W → RekW w F b T rv ps (j + 1) (W.setCell ⟨g, i * 3 + 1, none⟩ (.int .i64 r.2.1)) := by
  obtain ⟨X, m, h1, h3, Fx, rv1, kv, q1, q2, q3, q4⟩ := h
  rcases atI_cases (rekRows ps (T.rows.take j)) ((toOf ps r.1).getD r.1) with ⟨ha, _⟩ | ⟨i', q, ha, hq, _, hf⟩
  · omega
  · obtain rfl : i' = i := by omega
    have q5 := q1
    obtain ⟨ao, cap, e, hc, hv⟩ := q1.viewR
    obtain ⟨g, e2, hF, ⟨x0, x1, x2⟩, z⟩ := hv i' q hq
    subst e2
    have hg : rv1.ownBlock = some g := by rw [e]; rfl
    refine ⟨g, (rekRows ps (T.rows.take j)).length, cap, q.2.1, by rw [q1.c1, e], (List.getElem?_eq_some_iff.1 hq).1, q1.ok.few, x1, z, q1.lt g hF, fun W hW => ?_⟩
    refine ⟨X, m, h1, h3, ?_⟩
    rw [rekRows_take hr, rek_set hi]
    exact reks_set (q1.kept2 hW) (q2.kept (hW.block _ q2.lt (fun h => h))) (q3.trans hW (fun _ h => h.elim)) q4 hg i' r.2.1

/-- The key is new: a row is laid behind all. -/
theorem RekW.snoc {w wz wy : World} {F : Nat → Prop} {b m0 : Nat} {T : PT} {rv kv0 : Value} {ps : List P2} {j : Nat} (H : TabAt w F b T rv m0 kv0) (hp : ∀ p ∈ ps, (Lit.int .i64 p.2).wf = true) (hn : T.next < 1099511000000) (h0 : RekW w F b T rv ps j wz) (hz : Still wz wy) {r : R3} (hr : T.rows[j]? = some r) (hi : atI (rekRows ps (T.rows.take j)) ((toOf ps r.1).getD r.1) < 0) :
    ∃ rv1 m n, wy.cell? ⟨b, 1, none⟩ = some rv1 ∧ n < 500 ∧ wy.ownsRow 0 76 3 rv1 n (rowsCells (rekRows ps (T.rows.take j))) ∧ (∃ cs, cs[1]? = some rv1 ∧ cs[2]? = some (.map (some m)) ∧ wy.heap[b]? = some (.cells cs 69 (0, 0))) ∧ (∀ k, rv1.ownBlock = some k → ¬ k = b) ∧ (∀ k, rv1.ownBlock = some k → k < wz.heap.size) ∧
      ∀ O w1 g cap W, w1.ownsRow 0 76 3 (.slice (some ⟨g, 0, none⟩) (n + 1) cap) (n + 1) (rowsCells (rekRows ps (T.rows.take j)) ++ [.int .i64 ((toOf ps r.1).getD r.1), .int .i64 r.2.1, .int .i64 r.2.2]) →
        (wy.alloc O).drew.grownBy w1 rv1.ownBlock → (rv1.ownBlock = some g ∨ g = wy.heap.size + 1) → g < w1.heap.size → Still (w1.setCell ⟨b, 1, none⟩ (.slice (some ⟨g, 0, none⟩) (n + 1) cap)) W →
        ∃ w2, (Instr.mapUpdate 66 (.map (some m)) (.int .i64 ((toOf ps r.1).getD r.1)) (.int .i64 r.2.2)).run Try.prog W = .ok () w2 ∧ RekW w F b T rv ps (j + 1) w2 := by
  obtain ⟨X, m, h1, h3, Fx, rv1, kv, q10, q20, q30, q4⟩ := h0
  have q1 := q10.kept2 hz
  have q2 := q20.kept (hz.block _ q20.lt (fun h => h))
  have q3 := q30.trans hz (fun _ h => h.elim)
  have hjl : j < T.rows.length := (List.getElem?_eq_some_iff.1 hr).1
  have hok := rekRows_ok H.ok hp (j + 1) hjl
  have hfew := H.ok.few
  obtain ⟨e1, hnew⟩ := rek_snoc hi
  rw [rekRows_take hr, e1] at hok
  have hlen := hok.few
  simp only [List.length_append, List.length_cons, List.length_nil] at hlen
  have hnum := H.ok.nums r (List.mem_of_getElem? hr)
  have hkw : (Lit.int .i64 ((toOf ps r.1).getD r.1)).wf = true := hok.wf ((toOf ps r.1).getD r.1, r.2.1, r.2.2) (by simp)
  have hnw : (Lit.int .i64 r.2.2).wf = true := WalkArith.wf_i64 (by omega)
  refine ⟨rv1, m, (rekRows ps (T.rows.take j)).length, q1.c1, by omega, q1.rows, ⟨_, rfl, rfl, q1.block⟩, owns_ne q1.rows q1.block (by decide), fun k hk => q10.lt k (q10.fr k hk), ?_⟩
  intro O w1 g cap W hown hgrow hat hlt hW
  have hm0 : IMap W m (rekRows ps (T.rows.take j)).length (numOf (rekRows ps (T.rows.take j))) := by
    refine q2.kept ?_
    have lm := q2.lt
    have mb : ¬ m = b := imap_ne q2 q1.block
    have hsz : m < (w1.setCell ⟨b, 1, none⟩ (.slice (some ⟨g, 0, none⟩) ((rekRows ps (T.rows.take j)).length + 1) cap)).heap.size := by
      have := hgrow.size
      simp [World.setCell, World.drew] at this ⊢
      omega
    rw [hW.block m hsz (fun h => h), Below.heap_setCell _ _ _ _ mb, hgrow.block m (by show m < (wy.alloc _).heap.size; simp; omega) ?_]
    · exact Below.heap_alloc wy _ m lm
    · intro e
      rcases q1.rows.2 with ⟨hn, _⟩ | ⟨g', cap', cur, hn, _, hgg, _⟩
      · rw [hn] at e; cases e
      · rw [hn] at e; cases e
        exact imap_ne q2 hgg rfl
  obtain ⟨w2, hrun, hm2, ht2⟩ := hm0.store hkw hnw (by unfold maxLen; omega)
  refine ⟨w2, hrun, X, m, h1, h3, ?_⟩
  rw [rekRows_take hr, e1]
  have hT : Touch (fun i => i = m) (w1.setCell ⟨b, 1, none⟩ (.slice (some ⟨g, 0, none⟩) ((rekRows ps (T.rows.take j)).length + 1) cap)) w2 := (hW.mono (fun _ _ h => h.elim)).then ht2
  exact reks_snoc q1 q3 q4 hok hnew hown hgrow hat hlt hm2 ⟨hT.os, hT.tape, hT.output, hT.size, hT.block⟩

end Go.Proofs.Ytombofldebmaoaa
