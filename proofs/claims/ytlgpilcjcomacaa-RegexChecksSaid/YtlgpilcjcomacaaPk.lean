/-
  Alternatives under way in memory: the rows that are over, the row under way, the slice that holds them.
-/
import Derived.Test.YtlgpilcjcomacaaPj
import Derived.Deep.AppendLies
namespace Go.Proofs.Ytlgpilcjcomacaa
open Go.RowKit Rx
set_option linter.unusedVariables false

abbrev TN : TypeId := 61
abbrev TR : TypeId := 79
abbrev TW : TypeId := 76

def NodesIn (F : Nat → Prop) (w : World) : List Re → List Value → Prop
  | [], [] => True
  | a :: l, p :: ps => (rd F w 9 a).node p ∧ NodesIn F w l ps
  | _, _ => False
def RowsIn (F : Nat → Prop) (w : World) : List (List Re) → List Value → Prop
  | [], [] => True
  | r :: rs, v :: vs => (∃ ra rl rc, v = .slice ra rl rc ∧ rl ≤ rc ∧ (rd F w 9 (toRow r)).row ra rl) ∧ RowsIn F w rs vs
  | _, _ => False

theorem NodesIn.mono {F F' : Nat → Prop} {w w' : World} (hF : ∀ b, F b → F' b) (hc : ∀ b o v, F b → w.cell? ⟨b, o, none⟩ = some v → w'.cell? ⟨b, o, none⟩ = some v) : ∀ {l : List Re} {ps : List Value}, NodesIn F w l ps → NodesIn F' w' l ps
  | [], [], _ => trivial
  | _ :: _, _ :: _, h => ⟨(rd_mono hF hc _).1 _ h.1, NodesIn.mono hF hc h.2⟩
  | [], _ :: _, h => h.elim
  | _ :: _, [], h => h.elim
theorem RowsIn.mono {F F' : Nat → Prop} {w w' : World} (hF : ∀ b, F b → F' b) (hc : ∀ b o v, F b → w.cell? ⟨b, o, none⟩ = some v → w'.cell? ⟨b, o, none⟩ = some v) : ∀ {l : List (List Re)} {ps : List Value}, RowsIn F w l ps → RowsIn F' w' l ps
  | [], [], _ => trivial
  | _ :: _, _ :: _, h => by
    obtain ⟨⟨ra, rl, rc, h1, h2, h3⟩, h4⟩ := h
    exact ⟨⟨ra, rl, rc, h1, h2, (rd_mono hF hc _).2.1 _ _ h3⟩, RowsIn.mono hF hc h4⟩
  | [], _ :: _, h => h.elim
  | _ :: _, [], h => h.elim
theorem NodesIn.len {F : Nat → Prop} {w : World} : ∀ {l : List Re} {ps : List Value}, NodesIn F w l ps → ps.length = l.length
  | [], [], _ => rfl
  | _ :: _, _ :: _, h => by rw [List.length_cons, List.length_cons, NodesIn.len h.2]
  | [], _ :: _, h => h.elim
  | _ :: _, [], h => h.elim
theorem RowsIn.len {F : Nat → Prop} {w : World} : ∀ {l : List (List Re)} {ps : List Value}, RowsIn F w l ps → ps.length = l.length
  | [], [], _ => rfl
  | _ :: _, _ :: _, h => by rw [List.length_cons, List.length_cons, RowsIn.len h.2]
  | [], _ :: _, h => h.elim
  | _ :: _, [], h => h.elim
theorem NodesIn.snoc {F : Nat → Prop} {w : World} {a : Re} {p : Value} (ha : (rd F w 9 a).node p) : ∀ {l : List Re} {ps : List Value}, NodesIn F w l ps → NodesIn F w (l ++ [a]) (ps ++ [p])
  | [], [], _ => ⟨ha, trivial⟩
  | _ :: _, _ :: _, h => ⟨h.1, NodesIn.snoc ha h.2⟩
  | [], _ :: _, h => h.elim
  | _ :: _, [], h => h.elim
theorem RowsIn.snoc {F : Nat → Prop} {w : World} {r : List Re} {v : Value} (hv : ∃ ra rl rc, v = .slice ra rl rc ∧ rl ≤ rc ∧ (rd F w 9 (toRow r)).row ra rl) : ∀ {l : List (List Re)} {ps : List Value}, RowsIn F w l ps → RowsIn F w (l ++ [r]) (ps ++ [v])
  | [], [], _ => ⟨hv, trivial⟩
  | _ :: _, _ :: _, h => ⟨h.1, RowsIn.snoc hv h.2⟩
  | [], _ :: _, h => h.elim
  | _ :: _, [], h => h.elim

theorem row_aux {F : Nat → Prop} {w : World} {g : Nat} (hg : F g) : ∀ (l : List Re) (ps : List Value) (o : Nat), (∀ j u, ps[j]? = some u → w.cell? ⟨g, o + j, none⟩ = some u) → NodesIn F w l ps → l.length ≤ 1000 → (rd F w 9 (toRow l)).row (some ⟨g, o, none⟩) l.length
  | [], [], _, _, _, _ => rfl
  | a :: l, p :: ps, o, hc, h, hl => by
    refine ⟨g, o, p, rfl, hg, by rw [List.length_cons]; omega, hl, hc 0 p rfl, h.1, ?_⟩
    rw [show (a :: l).length - 1 = l.length by rw [List.length_cons]; omega]
    exact row_aux hg l ps (o + 1) (fun j u hu => by rw [show o + 1 + j = o + (j + 1) by omega]; exact hc (j + 1) u hu) h.2 (by rw [List.length_cons] at hl; omega)
  | [], _ :: _, _, _, h, _ => h.elim
  | _ :: _, [], _, _, h, _ => h.elim
theorem ways_aux {F : Nat → Prop} {w : World} {g : Nat} (hg : F g) : ∀ (l : List (List Re)) (ps : List Value) (o : Nat), (∀ j u, ps[j]? = some u → w.cell? ⟨g, o + j, none⟩ = some u) → RowsIn F w l ps → l.length ≤ 1000 → (rd F w 9 (toWays l)).ways (some ⟨g, o, none⟩) l.length
  | [], [], _, _, _, _ => rfl
  | a :: l, p :: ps, o, hc, h, hl => by
    obtain ⟨⟨ra, rl, rc, rfl, h2, h3⟩, h4⟩ := h
    refine ⟨g, o, ra, rl, rc, rfl, hg, by rw [List.length_cons]; omega, hl, h2, hc 0 _ rfl, h3, ?_⟩
    rw [show (a :: l).length - 1 = l.length by rw [List.length_cons]; omega]
    exact ways_aux hg l ps (o + 1) (fun j u hu => by rw [show o + 1 + j = o + (j + 1) by omega]; exact hc (j + 1) u hu) h4 (by rw [List.length_cons] at hl; omega)
  | [], _ :: _, _, _, h, _ => h.elim
  | _ :: _, [], _, _, h, _ => h.elim

/-- The cells of a row that is owned. -/
theorem owns_cells {w : World} {lo : Nat} {e : TypeId} {v : Value} {n : Nat} {xs : List Value} (h : w.ownsRow lo e 1 v n xs) {g : Nat} (hg : v.ownBlock = some g) : ∀ j u, xs[j]? = some u → w.cell? ⟨g, 0 + j, none⟩ = some u := fun j u hu => by
  have h1 := h.cells hg j u hu
  by_cases hj : j = 0
  · subst hj; simpa [Addr.add] using h1
  · simpa [Addr.add, hj] using h1

/-- A row that is owned, read as a tree. -/
theorem row_of {F F' : Nat → Prop} {w : World} {lo : Nat} {y : Value} {n : Nat} {cur : List Re} {cvs : List Value} (ho : w.ownsRow lo TN 1 y n cvs) (h : NodesIn F w cur cvs) (hF : ∀ b, F b → F' b) (hy : ∀ g, y.ownBlock = some g → F' g) (hl : cur.length ≤ 1000) :
    ∃ ra rl rc, y = .slice ra rl rc ∧ rl ≤ rc ∧ (rd F' w 9 (toRow cur)).row ra rl := by
  have h' := h.mono hF (fun _ _ _ _ hc => hc)
  have hn : n = cur.length := by have h1 := ho.1; have h2 := h.len; omega
  rcases ho.2 with ⟨rfl, h0⟩ | ⟨g, cap, c, rfl, hb, hgg, hc, -⟩
  · refine ⟨none, 0, 0, rfl, Nat.le_refl _, ?_⟩
    cases cur with
    | nil => exact rfl
    | cons a l => rw [List.length_cons] at hn; omega
  · refine ⟨some ⟨g, 0, none⟩, n, cap, rfl, hc, ?_⟩
    rw [hn]
    exact row_aux (hy g rfl) cur cvs 0 (owns_cells ho rfl) h' hl

/-- The blocks of what is over: not those that are written still. -/
def FW (lo : Nat) (x y : Value) (w : World) : Nat → Prop := fun b => lo ≤ b ∧ b < w.heap.size ∧ x.ownBlock ≠ some b ∧ y.ownBlock ≠ some b

structure WS (lo : Nat) (rows : List (List Re)) (cur : List Re) (x y : Value) (ovs cvs : List Value) (w : World) : Prop where
  ox : w.ownsRow lo TR 1 x (rows.length + 1) (ovs ++ [y])
  oy : w.ownsRow lo TN 1 y cur.length cvs
  rs : RowsIn (FW lo x y w) w rows ovs
  ns : NodesIn (FW lo x y w) w cur cvs
  ne : ∀ g, x.ownBlock = some g → y.ownBlock ≠ some g

theorem owns_keep {S : Nat → Prop} {w w' : World} {lo : Nat} {e : TypeId} {v : Value} {n : Nat} {xs : List Value} (h : w.ownsRow lo e 1 v n xs) (t : Touch S w w') (hS : ∀ b, S b → v.ownBlock ≠ some b) : w'.ownsRow lo e 1 v n xs := by
  refine ⟨h.1, ?_⟩
  rcases h.2 with h0 | ⟨g, cap, c, rfl, hb, hgg, hr⟩
  · exact .inl h0
  · exact .inr ⟨g, cap, c, rfl, hb, (t.block g (Array.getElem?_eq_some_iff.1 hgg).1 (fun e => hS g e rfl)).trans hgg, hr⟩

/-- Nothing of it is touched. -/
theorem WS.keep {S : Nat → Prop} {lo : Nat} {rows : List (List Re)} {cur : List Re} {x y : Value} {ovs cvs : List Value} {w w' : World} (h : WS lo rows cur x y ovs cvs w) (t : Touch S w w') (hS : ∀ b, S b → b < lo) : WS lo rows cur x y ovs cvs w' := by
  have hx : ∀ b, S b → x.ownBlock ≠ some b := fun b hb e => by have h1 := (h.ox.lt b e).1; have h2 := hS b hb; omega
  have hy : ∀ b, S b → y.ownBlock ≠ some b := fun b hb e => by have h1 := (h.oy.lt b e).1; have h2 := hS b hb; omega
  have hF : ∀ b, FW lo x y w b → FW lo x y w' b := fun b hb => ⟨hb.1, Nat.lt_of_lt_of_le hb.2.1 t.size, hb.2.2⟩
  have hc : ∀ b o v, FW lo x y w b → w.cell? ⟨b, o, none⟩ = some v → w'.cell? ⟨b, o, none⟩ = some v := fun b o v hb hv => t.has hv (fun e => by have h1 := hS b e; have h2 := hb.1; omega)
  exact ⟨owns_keep h.ox t hx, owns_keep h.oy t hy, h.rs.mono hF hc, h.ns.mono hF hc, h.ne⟩

/-- At the start. -/
theorem WS.first (w : World) : WS w.heap.size [] [] (.slice (some ⟨w.heap.size, 0, none⟩) 1 1) (.slice none 0 0) [] [] (w.alloc (.cells #[.slice none 0 0] TR)) :=
  ⟨⟨rfl, .inr ⟨_, _, _, rfl, Nat.le_refl _, heap_alloc_new w _, Nat.le_refl _, by unfold maxLen; omega, rfl, rfl⟩⟩, World.ownsRow_nil _ _ _ _, trivial, trivial, fun _ _ e => by cases e⟩

/-- A row is over, a new one begins. -/
theorem WS.bar {lo : Nat} {rows : List (List Re)} {cur : List Re} {x y x' : Value} {ovs cvs : List Value} {w w' : World} {g' H : Nat} (h : WS lo rows cur x y ovs cvs w) (ho : w'.ownsRow lo TR 1 x' (rows.length + 1 + 1) (ovs ++ [y] ++ [.slice none 0 0])) (hg : w.grownBy w' x.ownBlock) (hx' : x'.ownBlock = some g') (hat : x.ownBlock = some g' ∨ g' = H) (hH : w.heap.size ≤ H) (hl : cur.length ≤ 1000) :
    WS lo (rows ++ [cur]) [] x' (.slice none 0 0) (ovs ++ [y]) [] w' := by
  have hn : ∀ b, b < w.heap.size → x.ownBlock ≠ some b → x'.ownBlock ≠ some b := fun b hb hne e => by
    rw [hx'] at e
    cases e
    rcases hat with h1 | h1
    · exact hne h1
    · omega
  have hF : ∀ b, FW lo x y w b → FW lo x' (.slice none 0 0) w' b := fun b hb => ⟨hb.1, Nat.lt_of_lt_of_le hb.2.1 hg.size, hn b hb.2.1 hb.2.2.1, fun e => by cases e⟩
  have hc : ∀ b o v, FW lo x y w b → w.cell? ⟨b, o, none⟩ = some v → w'.cell? ⟨b, o, none⟩ = some v := fun b o v hb hv => hg.cell hv (fun e => hb.2.2.1 e.symm)
  have oy : w'.ownsRow lo TN 1 y cur.length cvs := h.oy.kept hg (by
    cases hy : y.ownBlock with
    | none => exact .inl rfl
    | some b => exact .inr (fun e => h.ne b e.symm hy))
  refine ⟨by rw [List.length_append]; exact ho, World.ownsRow_nil _ _ _ _, ?_, trivial, fun _ _ e => by cases e⟩
  refine (h.rs.mono hF hc).snoc ?_
  refine row_of oy (h.ns.mono hF hc) (fun _ hb => hb) (fun g hy => ?_) hl
  have h1 := h.oy.lt g hy
  exact ⟨h1.1, Nat.lt_of_lt_of_le h1.2 hg.size, hn g h1.2 (fun e => h.ne g e hy), fun e => by cases e⟩

/-- A node is laid behind the row under way. -/
theorem WS.add {lo : Nat} {rows : List (List Re)} {cur : List Re} {x y y' : Value} {ovs cvs : List Value} {w w' : World} {g' H gx : Nat} {a : Re} {p : Value} (h : WS lo rows cur x y ovs cvs w) (ha : (rd (FW lo x y w) w 9 a).node p) (ho : w'.ownsRow lo TN 1 y' (cur.length + 1) (cvs ++ [p])) (hg : w.grownBy w' y.ownBlock) (hy' : y'.ownBlock = some g') (hat : y.ownBlock = some g' ∨ g' = H) (hH : w.heap.size ≤ H) (hgx : x.ownBlock = some gx) :
    WS lo rows (cur ++ [a]) x y' ovs (cvs ++ [p]) (w'.setCell ⟨gx, rows.length, none⟩ y') := by
  have hxl := h.ox.lt gx hgx
  have hng : gx ≠ g' := fun e => by
    subst e
    rcases hat with h1 | h1
    · exact h.ne gx hgx h1
    · omega
  have hn : ∀ b, b < w.heap.size → y.ownBlock ≠ some b → y'.ownBlock ≠ some b := fun b hb hne e => by
    rw [hy'] at e
    cases e
    rcases hat with h1 | h1
    · exact hne h1
    · omega
  have ox : w'.ownsRow lo TR 1 x (rows.length + 1) (ovs ++ [y]) := h.ox.kept hg (.inr (fun e => h.ne gx hgx (by rw [← e, hgx])))
  have hov : ovs.length = rows.length := h.rs.len
  have t : Touch (fun b => b = gx) w' (w'.setCell ⟨gx, rows.length, none⟩ y') := Touch.setCell (Touch.refl (fun b => b = gx) w') (.inl rfl) _
  have hF : ∀ b, FW lo x y w b → FW lo x y' (w'.setCell ⟨gx, rows.length, none⟩ y') b := fun b hb => ⟨hb.1, Nat.lt_of_lt_of_le (Nat.lt_of_lt_of_le hb.2.1 hg.size) t.size, hb.2.2.1, hn b hb.2.1 hb.2.2.2⟩
  have hc : ∀ b o v, FW lo x y w b → w.cell? ⟨b, o, none⟩ = some v → (w'.setCell ⟨gx, rows.length, none⟩ y').cell? ⟨b, o, none⟩ = some v := fun b o v hb hv => t.has (hg.cell hv (fun e => hb.2.2.2 e.symm)) (fun e => hb.2.2.1 (hgx.trans (congrArg some (show gx = b from Eq.symm e))))
  refine ⟨?_, ?_, h.rs.mono hF hc, (h.ns.mono hF hc).snoc ((rd_mono hF hc a).1 _ ha), fun g e e2 => ?_⟩
  · rcases ox.2 with ⟨rfl, h0⟩ | ⟨g, cap, c, rfl, hb, hgg, h1, h2, h3, h4⟩
    · omega
    · have hgx' : g = gx := Option.some.inj hgx
      subst hgx'
      refine ⟨by simp [hov], .inr ⟨g, cap, c.setIfInBounds rows.length y', rfl, hb, ?_, h1, h2, by simpa using h3, ?_⟩⟩
      · rw [setCell_eq_setRow w' g rows.length _ _ (0, 0) _ hgg, setRow_heap w' g _ _ _ (0, 0) hgg]
      · rw [Array.toList_setIfInBounds, List.take_set, h4]
        rw [List.set_append_right _ _ (by omega)]
        simp [hov]
  · rw [List.length_append]
    exact owns_keep ho t (fun b e e2 => by subst e; rw [hy'] at e2; exact hng (Option.some.inj e2).symm)
  · rw [hgx] at e
    rw [hy'] at e2
    exact hng ((Option.some.inj e).trans (Option.some.inj e2).symm)

/-- At the end. -/
theorem WS.done {lo : Nat} {rows : List (List Re)} {cur : List Re} {x y : Value} {ovs cvs : List Value} {w : World} (h : WS lo rows cur x y ovs cvs w) (hl : cur.length ≤ 1000) (hr : rows.length + 1 ≤ 1000) :
    ∃ xa l cap, x = .slice xa l cap ∧ l ≤ cap ∧ (rd (FP lo w.heap.size) w 9 (toWays (rows ++ [cur]))).ways xa l := by
  have hF : ∀ b, FW lo x y w b → FP lo w.heap.size b := fun b hb => ⟨hb.1, hb.2.1⟩
  have h1 := row_of h.oy h.ns hF (fun g hg => h.oy.lt g hg) hl
  have h2 := (h.rs.mono hF (fun _ _ _ _ hc => hc)).snoc h1
  obtain ⟨g, cap, rfl, hg, hgl⟩ := h.ox.form (by omega)
  have h3 : rows.length + 1 ≤ cap := by
    rcases h.ox.2 with ⟨e, -⟩ | ⟨g', cap', c, e, -, -, hcc, -⟩
    · cases e
    · cases e; exact hcc
  refine ⟨some ⟨g, 0, none⟩, rows.length + 1, cap, rfl, h3, ?_⟩
  have h4 := ways_aux (F := FP lo w.heap.size) (g := g) ⟨hg, hgl⟩ (rows ++ [cur]) (ovs ++ [y]) 0 (owns_cells h.ox rfl) h2 (by simp; omega)
  rw [List.length_append] at h4
  exact h4
end Go.Proofs.Ytlgpilcjcomacaa
