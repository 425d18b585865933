/-
  Texts Ro, Rp, Rq in one.
-/
import Derived.Test.YtlgpilcjcomacaaGreatBg
import Derived.Test.YtlgpilcjcomacaaGreatAh
import Derived.Deep.Cut
import Derived.Deep.CutRange
import Derived.Deep.RegionLaw
/-
  Kids under way in the document's memory: the node, the slice of its kids, the kids.
-/
namespace Go.Proofs.YtlgpilcjcomacaaGreat
open Go.RowKit Rx
set_option linter.unusedVariables false

abbrev TD : TypeId := 91

/-- How a kid is read; what was read is read still. -/
structure KR1 {α : Type} (R : (Nat → Prop) → World → α → Value → Prop) : Prop where
  mono : ∀ {F F' : Nat → Prop} {w w' : World} {a : α} {p : Value}, (∀ b, F b → F' b) → (∀ b, F b → b < w.heap.size → w'.heap[b]? = w.heap[b]?) → R F w a p → R F' w' a p

def NodeR (F : Nat → Prop) (w : World) (a : Re) (p : Value) : Prop := (rdD F w a).node p
def RowR (F : Nat → Prop) (w : World) (r : List Re) (p : Value) : Prop := ∃ v, AtD F w p v ∧ v.kind = 3 ∧ v.kl ≤ v.kc ∧ (rdD F w (toRow r)).row v.kx v.kl
theorem node_kr : KR1 NodeR := ⟨fun hF hc h => (rdD_mono hF hc _).1 _ h⟩
theorem AtD.mono {F F' : Nat → Prop} {w w' : World} {p : Value} {v : NV} (hF : ∀ b, F b → F' b) (hc : ∀ b, F b → b < w.heap.size → w'.heap[b]? = w.heap[b]?) (h : AtD F w p v) : AtD F' w' p v := by
  obtain ⟨b, h1, h2, A, hA, hs⟩ := h
  exact ⟨b, h1, hF b h2, A, (hc b h2 (Array.getElem?_eq_some_iff.1 hA).1).trans hA, hs⟩
theorem row_kr : KR1 RowR := ⟨fun hF hc h => by
  obtain ⟨v, h1, h2, h3, h4⟩ := h
  exact ⟨v, h1.mono hF hc, h2, h3, (rdD_mono hF hc _).2.1 _ _ h4⟩⟩

def EachIn {α : Type} (R : (Nat → Prop) → World → α → Value → Prop) (F : Nat → Prop) (w : World) : List α → List Value → Prop
  | [], [] => True
  | a :: l, p :: ps => R F w a p ∧ EachIn R F w l ps
  | _, _ => False
variable {α : Type} {R : (Nat → Prop) → World → α → Value → Prop}
theorem EachIn.mono (hR : KR1 R) {F F' : Nat → Prop} {w w' : World} (hF : ∀ b, F b → F' b) (hc : ∀ b, F b → b < w.heap.size → w'.heap[b]? = w.heap[b]?) : ∀ {l : List α} {ps : List Value}, EachIn R F w l ps → EachIn R F' w' l ps
  | [], [], _ => trivial
  | _ :: _, _ :: _, h => ⟨hR.mono hF hc h.1, EachIn.mono hR hF hc h.2⟩
  | [], _ :: _, h => h.elim
  | _ :: _, [], h => h.elim
theorem EachIn.len {F : Nat → Prop} {w : World} : ∀ {l : List α} {ps : List Value}, EachIn R F w l ps → ps.length = l.length
  | [], [], _ => rfl
  | _ :: _, _ :: _, h => by rw [List.length_cons, List.length_cons, EachIn.len h.2]
  | [], _ :: _, h => h.elim
  | _ :: _, [], h => h.elim
theorem EachIn.snoc {F : Nat → Prop} {w : World} {a : α} {p : Value} (ha : R F w a p) : ∀ {l : List α} {ps : List Value}, EachIn R F w l ps → EachIn R F w (l ++ [a]) (ps ++ [p])
  | [], [], _ => ⟨ha, trivial⟩
  | _ :: _, _ :: _, h => ⟨h.1, EachIn.snoc ha h.2⟩
  | [], _ :: _, h => h.elim
  | _ :: _, [], h => h.elim

theorem rowD_aux {F : Nat → Prop} {w : World} {g : Nat} (hg : F g) : ∀ (l : List Re) (ps : List Value) (o : Nat), (∀ j u, ps[j]? = some u → w.cell? ⟨g, o + j, none⟩ = some u) → EachIn NodeR F w l ps → l.length ≤ 1000 → (rdD F w (toRow l)).row (some ⟨g, o, none⟩) l.length
  | [], [], _, _, _, _ => rfl
  | a :: l, p :: ps, o, hc, h, hl => by
    refine ⟨g, o, p, rfl, hg, by rw [List.length_cons]; omega, hl, hc 0 p rfl, h.1, ?_⟩
    rw [show (a :: l).length - 1 = l.length by rw [List.length_cons]; omega]
    exact rowD_aux hg l ps (o + 1) (fun j u hu => by rw [show o + 1 + j = o + (j + 1) by omega]; exact hc (j + 1) u hu) h.2 (by rw [List.length_cons] at hl; omega)
  | [], _ :: _, _, _, h, _ => h.elim
  | _ :: _, [], _, _, h, _ => h.elim
theorem waysD_aux {F : Nat → Prop} {w : World} {g : Nat} (hg : F g) : ∀ (l : List (List Re)) (ps : List Value) (o : Nat), (∀ j u, ps[j]? = some u → w.cell? ⟨g, o + j, none⟩ = some u) → EachIn RowR F w l ps → l.length ≤ 1000 → (rdD F w (toWays l)).ways (some ⟨g, o, none⟩) l.length
  | [], [], _, _, _, _ => rfl
  | a :: l, p :: ps, o, hc, h, hl => by
    obtain ⟨⟨v, h1, h2, h3, h4⟩, h5⟩ := h
    refine ⟨g, o, p, v, rfl, hg, by rw [List.length_cons]; omega, hl, hc 0 p rfl, h1, h2, h3, h4, ?_⟩
    rw [show (a :: l).length - 1 = l.length by rw [List.length_cons]; omega]
    exact waysD_aux hg l ps (o + 1) (fun j u hu => by rw [show o + 1 + j = o + (j + 1) by omega]; exact hc (j + 1) u hu) h5 (by rw [List.length_cons] at hl; omega)
  | [], _ :: _, _, _, h, _ => h.elim
  | _ :: _, [], _, _, h, _ => h.elim

/-- The blocks of the kids: not those that are written still. -/
def FK (lo nb : Nat) (y : Value) (w : World) : Nat → Prop := fun b => lo ≤ b ∧ b < w.heap.size ∧ b ≠ nb ∧ y.ownBlock ≠ some b

structure KS (R : (Nat → Prop) → World → α → Value → Prop) (lo nb : Nat) (K : Int) (cur : List α) (kx : Option Addr) (kl kc : Nat) (cvs : List Value) (w : World) : Prop where
  nd : NodeB w nb { nv0 K with kx := kx, kl := kl, kc := kc }
  oy : w.ownsRow lo TD 1 (.slice kx kl kc) cur.length cvs
  ns : EachIn R (FK lo nb (.slice kx kl kc) w) w cur cvs
  ge : lo ≤ nb
  ne : (Value.slice kx kl kc).ownBlock ≠ some nb

theorem KS.keep (hR : KR1 R) {S : Nat → Prop} {lo nb : Nat} {K : Int} {cur : List α} {kx : Option Addr} {kl kc : Nat} {cvs : List Value} {w w' : World} (h : KS R lo nb K cur kx kl kc cvs w) (t : Touch S w w') (hS : ∀ b, S b → b < lo) : KS R lo nb K cur kx kl kc cvs w' := by
  refine ⟨h.nd.keep t (fun e => by have h1 := hS nb e; have h2 := h.ge; omega), owns_keep h.oy t (fun b hb e => by have h1 := (h.oy.lt b e).1; have h2 := hS b hb; omega), ?_, h.ge, h.ne⟩
  exact h.ns.mono hR (fun b hb => ⟨hb.1, Nat.lt_of_lt_of_le hb.2.1 t.size, hb.2.2⟩) (fun b hb hl => t.block b hl (fun e => by have h1 := hS b e; have h2 := hb.1; omega))

/-- A node without kids. -/
theorem KS.first (w : World) (K : Int) : KS R w.heap.size w.heap.size K ([] : List α) none 0 0 [] (w.alloc (.cells (Tryz.zeroCells97.setIfInBounds 0 (.int .i64 K)) 97)) :=
  ⟨NodeB.made w _ _ (zero_node.kind K), World.ownsRow_nil _ _ _ _, trivial, Nat.le_refl _, fun e => by cases e⟩

/-- A kid more: what is touched. -/
theorem KS.addT {lo nb : Nat} {K : Int} {cur : List α} {kx : Option Addr} {kl kc : Nat} {cvs : List Value} {w5 w6 : World} {u v : Value} (h : KS R lo nb K cur kx kl kc cvs w5)
    (hgrow : (w5.alloc (.cells #[u] TD)).grownBy w6 (Value.slice kx kl kc).ownBlock) : Touch (fun b => lo ≤ b) w5 (w6.setCell ⟨nb, 259, none⟩ v) := by
  have t6 : Touch (fun b => (Value.slice kx kl kc).ownBlock = some b) w5 w6 := ((Touch.refl _ w5).alloc _).grown hgrow (fun c hc => .inl hc)
  have tset : Touch (fun b => b = nb) w6 (w6.setCell ⟨nb, 259, none⟩ v) := Touch.setCell (Touch.refl (fun b => b = nb) w6) (.inl rfl) _
  exact (t6.mono (S1 := fun b => lo ≤ b) (fun b _ hb => (h.oy.lt b hb).1)).trans tset (fun b hb => .inl (by show lo ≤ b; rw [hb]; exact h.ge))

/-- A kid more. -/
theorem KS.add (hR : KR1 R) {lo nb : Nat} {K : Int} {cur : List α} {kx : Option Addr} {kl kc : Nat} {cvs : List Value} {w5 w6 : World} {a : α} {u : Value} {g3 cap3 H : Nat} (h : KS R lo nb K cur kx kl kc cvs w5)
    (ha : R (FK lo nb (.slice kx kl kc) w5) w5 a u) (hown : w6.ownsRow lo TD 1 (.slice (some ⟨g3, 0, none⟩) (cur.length + 1) cap3) (cur.length + 1) (cvs ++ [u]))
    (hgrow : (w5.alloc (.cells #[u] TD)).grownBy w6 (Value.slice kx kl kc).ownBlock) (hat : (Value.slice kx kl kc).ownBlock = some g3 ∨ g3 = H) (hH : (w5.alloc (.cells #[u] TD)).heap.size ≤ H) :
    KS R lo nb K (cur ++ [a]) (some ⟨g3, 0, none⟩) (cur.length + 1) cap3 (cvs ++ [u]) (w6.setCell ⟨nb, 259, none⟩ (.slice (some ⟨g3, 0, none⟩) (cur.length + 1) cap3)) := by
  have ta : Touch (fun _ => False) w5 (w5.alloc (.cells #[u] TD)) := (Touch.refl _ _).alloc _
  have hz := ta.size
  have hnl := h.nd.lt
  have t6 : Touch (fun b => (Value.slice kx kl kc).ownBlock = some b) w5 w6 := ((Touch.refl _ w5).alloc _).grown hgrow (fun c hc => .inl hc)
  have tset : Touch (fun b => b = nb) w6 (w6.setCell ⟨nb, 259, none⟩ (.slice (some ⟨g3, 0, none⟩) (cur.length + 1) cap3)) := Touch.setCell (Touch.refl (fun b => b = nb) w6) (.inl rfl) _
  have hg3n : g3 ≠ nb := by
    rcases hat with e | e
    · exact fun e2 => h.ne (by rw [e, e2])
    · omega
  have hFn : ∀ b, FK lo nb (.slice kx kl kc) w5 b → FK lo nb (.slice (some ⟨g3, 0, none⟩) (cur.length + 1) cap3) (w6.setCell ⟨nb, 259, none⟩ (.slice (some ⟨g3, 0, none⟩) (cur.length + 1) cap3)) b := fun b hb => by
    refine ⟨hb.1, Nat.lt_of_lt_of_le (Nat.lt_of_lt_of_le hb.2.1 t6.size) tset.size, hb.2.2.1, fun e => ?_⟩
    have e' : g3 = b := Option.some.inj e
    rcases hat with e1 | e1
    · exact hb.2.2.2 (by rw [e1, e'])
    · have := hb.2.1; omega
  have hcn : ∀ b, FK lo nb (.slice kx kl kc) w5 b → b < w5.heap.size → (w6.setCell ⟨nb, 259, none⟩ (.slice (some ⟨g3, 0, none⟩) (cur.length + 1) cap3)).heap[b]? = w5.heap[b]? := fun b hb hl =>
    (tset.block b (Nat.lt_of_lt_of_le hl t6.size) hb.2.2.1).trans (t6.block b hl hb.2.2.2)
  have hlen : (cur ++ [a]).length = cur.length + 1 := by simp
  refine ⟨?_, ?_, ?_, h.ge, fun e => hg3n (Option.some.inj e)⟩
  · have hN6 : NodeB w6 nb { nv0 K with kx := kx, kl := kl, kc := kc } := h.nd.keep t6 h.ne
    exact NodeB.put (v' := { nv0 K with kx := some ⟨g3, 0, none⟩, kl := cur.length + 1, kc := cap3 }) hN6 _ (fun A hA => hA.kids (some ⟨g3, 0, none⟩) (cur.length + 1) cap3)
  · rw [hlen]
    exact owns_keep hown tset (fun b hb e => by rw [hb] at e; exact hg3n (Option.some.inj e))
  · exact (h.ns.mono hR hFn hcn).snoc (hR.mono hFn hcn ha)

/-- A row that is over. -/
theorem KS.row {lo nb : Nat} {cur : List Re} {kx : Option Addr} {kl kc : Nat} {cvs : List Value} {w : World} (h : KS NodeR lo nb 3 cur kx kl kc cvs w) (hl : cur.length ≤ 1000) : RowR (FP lo w.heap.size) w cur (.pointer (some ⟨nb, 0, none⟩)) := by
  have h' := h.ns.mono node_kr (F' := FP lo w.heap.size) (w' := w) (fun b hb => ⟨hb.1, hb.2.1⟩) (fun _ _ _ => rfl)
  have hn := h.oy.1
  have hn2 := h.ns.len
  refine ⟨_, ⟨nb, rfl, ⟨h.ge, h.nd.lt⟩, h.nd⟩, rfl, ?_, ?_⟩
  · rcases h.oy.2 with ⟨e, h0⟩ | ⟨g, cap, c, e, hb, hgg, hc, -⟩
    · cases e; exact Nat.le_refl _
    · cases e; exact hc
  · rcases h.oy.2 with ⟨e, h0⟩ | ⟨g, cap, c, e, hb, hgg, hc, -⟩
    · cases e
      cases cur with
      | nil => exact rfl
      | cons a l => rw [List.length_cons] at h0; omega
    · cases e
      exact rowD_aux (F := FP lo w.heap.size) ⟨hb, (Array.getElem?_eq_some_iff.1 hgg).1⟩ cur cvs 0 (owns_cells h.oy rfl) h' hl

/-- Alternatives that are over. -/
theorem KS.ways {lo nb : Nat} {rows : List (List Re)} {kx : Option Addr} {kl kc : Nat} {cvs : List Value} {w : World} (h : KS RowR lo nb 4 rows kx kl kc cvs w) (hl : rows.length ≤ 1000) : EitherD (FP lo w.heap.size) w (rdD (FP lo w.heap.size) w (toWays rows)).ways (.pointer (some ⟨nb, 0, none⟩)) := by
  have h' := h.ns.mono row_kr (F' := FP lo w.heap.size) (w' := w) (fun b hb => ⟨hb.1, hb.2.1⟩) (fun _ _ _ => rfl)
  have hn := h.oy.1
  have hn2 := h.ns.len
  refine ⟨_, ⟨nb, rfl, ⟨h.ge, h.nd.lt⟩, h.nd⟩, rfl, ?_, ?_⟩
  · rcases h.oy.2 with ⟨e, h0⟩ | ⟨g, cap, c, e, hb, hgg, hc, -⟩
    · cases e; exact Nat.le_refl _
    · cases e; exact hc
  · rcases h.oy.2 with ⟨e, h0⟩ | ⟨g, cap, c, e, hb, hgg, hc, -⟩
    · cases e
      cases rows with
      | nil => exact rfl
      | cons a l => rw [List.length_cons] at h0; omega
    · cases e
      exact waysD_aux (F := FP lo w.heap.size) ⟨hb, (Array.getElem?_eq_some_iff.1 hgg).1⟩ rows cvs 0 (owns_cells h.oy rfl) h' hl

theorem infoTD : (Tryz.prog.info? TD).map (fun i => (i.zero, i.size, i.bytes)) = some (some (.pointer none), 1, 8) := by kernel_rfl
abbrev TDS : TypeId := 94
theorem newsD {w : World} {ad : Addr} {u : Value} (h : w.cell? ad = some u) : ∀ j v, ([u] : List Value)[j]? = some v → w.cell? (ad.add j) = some v := by
  intro j v hv
  cases j with
  | zero => simp at hv; subst hv; simpa [Addr.add] using h
  | succ j => simp at hv
theorem alloc_cellD (w : World) (v : Value) (T : TypeId) : (w.alloc (.cells #[v] T)).cell? ⟨w.heap.size, 0, none⟩ = some v := by simp [go_sem]
theorem holds_grownD {w w' : World} {b o : Nat} {v : Value} {row : Option Nat} (h : Holds w b o v) (hg : w.grownBy w' row) (hne : some b ≠ row) : Holds w' b o v :=
  ⟨hg.cell h.1 hne, (hg.frozen_far ⟨b, o, none⟩ h.lt hne).trans h.2⟩

/-- A kid more, in a region that draws. -/
theorem step_appD {ops : Array Oper} {o : Oper} {a : Act} {w : World} {K : Act → World → Prop} {Q : Exit → Act → World → Prop} {E : Prop} (hgd : o.guard = none) (s x : Operand)
    (ho : o.op = .call { callee := .builtin .append, args := #[s, x], argTypes := #[TDS, TDS] }) (lo : Nat) (v : Value) (n : Nat) (xs : List Value) (hs : a.eval s = v) (hown : w.ownsRow lo TD 1 v n xs)
    (ad : Addr) (c : Nat) (u : Value) (hx : a.eval x = .slice (some ad) 1 c) (hc : w.cell? ad = some u) (h1 : u.oneCell' = true) (hn : n ≤ 100000) (hlo : lo ≤ w.heap.size)
    (h : ∀ g cap w', w'.ownsRow lo TD 1 (.slice (some ⟨g, 0, none⟩) (n + 1) cap) (n + 1) (xs ++ [u]) → w.grownBy w' v.ownBlock → (v.ownBlock = some g ∨ g = w.heap.size) → g < w'.heap.size → K (a.put o.dst (.slice (some ⟨g, 0, none⟩) (n + 1) cap)) w') : if Region.wanted o (yielded ops a.tmps) = true then Oper.wp Tryz.prog o a w K Q else E := by
  obtain ⟨i0, hi, hz0, hz1, hz2⟩ := info_parts infoTD
  have hw : Region.wanted o (yielded ops a.tmps) = true := by simp [Region.wanted, hgd]
  rw [if_pos hw]
  exact wp_append_lies w s x TDS ho lo TD i0 (.pointer none) 1 8 Tryz.underlying94 hi hz0 hz1 hz2 rfl (by decide) v n xs hs hown ad 1 c [u] hx rfl (newsD hc) (by intro v hv; rw [List.mem_singleton.1 hv]; exact h1) (by decide) (by unfold maxLen; omega) (by omega) hlo _ rfl h
end Go.Proofs.YtlgpilcjcomacaaGreat

/-
  The document's reader: one alternative.
-/
namespace Go.Proofs.YtlgpilcjcomacaaGreat
open Go.RowKit Rx
set_option linter.unusedVariables false

/-- What comes back of one alternative. -/
def RowPost (br : Nat) (s : ByteArray) (deep : Nat) (P : PS → Option (Re × PS)) (f : Nat) (rows : List (List Re)) (st : PS) (w : World) (e : Ending) (w' : World) : Prop :=
  (∃ p, e = .returned (.pointer p) ∧ RX br s w' ∧ Touch (fun b => b = br) w w' ∧ loopP P (str s) f st rows [] = none)
  ∨ (∃ (p : Nat) (cur : List Re) (st' : PS) (f' : Nat), e = .returned (.pointer (some ⟨p, 0, none⟩)) ∧ RR br s deep st' w' ∧ Touch (fun b => b = br) w w' ∧ RowR (FP w.heap.size w'.heap.size) w' cur (.pointer (some ⟨p, 0, none⟩)) ∧ st.pos ≤ st'.pos ∧ s.size + 1 - st'.pos ≤ f' ∧ loopP P (str s) f st rows [] = loopP P (str s) f' st' rows cur ∧ ¬ (st'.pos < s.size ∧ pk (str s) st'.pos ≠ 124 ∧ pk (str s) st'.pos ≠ 41))

/-- What comes back of a piece, whatever was seen. -/
def PieceE (br : Nat) (s : ByteArray) (deep lo : Nat) (P : PS → Option (Re × PS)) (f : Nat) (rows : List (List Re)) (cur : List Re) (rr : Option (List (List Re) × PS)) (p : Nat) (pv : Option Addr) (w5 : World) : Prop :=
  (∃ (a : Re) (st2 : PS), RR br s deep st2 w5 ∧ (rdD (FP lo w5.heap.size) w5 a).node (.pointer pv) ∧ rr = loopP P (str s) f st2 rows (cur ++ [a]) ∧ p < st2.pos) ∨ (RX br s w5 ∧ rr = none)

set_option maxRecDepth 100000 in
set_option maxHeartbeats 20000000 in
theorem rrow_any (br : Nat) (s : ByteArray) (deep : Nat) (W : PS → Option (Re × PS)) (hW : PPos W) (hG : ∀ st' w', RR br s deep st' w' → Calls Tryz.prog 101 #[.pointer (some ⟨br, 0, none⟩)] w' (NPostD br s deep w' (grpP W (str s) st'))) (f0 : Nat) (rows : List (List Re)) (st : PS) (w : World) (h : RR br s deep st w) (hf : s.size + 1 - st.pos ≤ f0) :
    Calls Tryz.prog 79 #[.pointer (some ⟨br, 0, none⟩)] w (RowPost br s deep (pieceR W (str s)) f0 rows st w) := by
  have hsz := h.sz
  have HG := Lib.hid hG
  have HW := Lib.hid hW
  have HBL : Hid (br < w.heap.size) := Lib.hid h.lt
  have hle := h.le
  obtain ⟨nb, hnb⟩ : ∃ nb, w.heap.size = nb := ⟨_, rfl⟩
  have HNB := Lib.hid hnb
  obtain ⟨rr, hrr⟩ : ∃ rr, loopP (pieceR W (str s)) (str s) f0 st rows [] = rr := ⟨_, rfl⟩
  have HRR := Lib.hid hrr
  obtain ⟨w1, hw1⟩ : ∃ w1, w.alloc (.cells (Tryz.zeroCells97.setIfInBounds 0 (.int .i64 3)) 97) = w1 := ⟨_, rfl⟩
  have HRS0 : Hid (RR br s deep st w1) := Lib.hid (by rw [← hw1]; exact h.keep ((Touch.refl (fun _ => False) w).alloc _) id)
  have HT0 : Hid (Touch (fun b => b = br) w w1) := Lib.hid (by rw [← hw1]; exact (Touch.refl _ _).alloc _)
  have HKS0 : Hid (KS NodeR nb nb 3 ([] : List Re) none 0 0 [] w1) := Lib.hid (by rw [← hw1, ← hnb]; exact KS.first w 3)
  have HF0 := Lib.hid hf
  clear h hrr hG hW hf
  go_enter Tryz.func79, Tryz.ntmps79
  go_wp2_with fail
  clear hw1
  go_loopw [4] (fun x wr => True ∧ Hid (Touch (fun b => b = br) w wr) ∧ Hid ((∃ (p g r : Nat) (cur : List Re) (kx : Option Addr) (kl kc : Nat) (cvs : List Value) (f : Nat), p ≤ s.size ∧ RR br s deep ⟨p, g, r⟩ wr ∧ KS NodeR nb nb 3 cur kx kl kc cvs wr ∧ cur.length ≤ p ∧ loopP (pieceR W (str s)) (str s) f ⟨p, g, r⟩ rows cur = rr ∧ s.size + 1 - p ≤ f ∧ st.pos ≤ p) ∨ (RX br s wr ∧ rr = none))) (fun _ wr => leftC s.size wr br)
  case atStart => exact ⟨trivial, HT0, Lib.hid (.inl ⟨st.pos, st.grps, st.refs, [], none, 0, 0, [], f0, hle, HRS0.out, HKS0.out, Nat.zero_le _, HRR.out, HF0.out, Nat.le_refl _⟩)⟩
  case round =>
    obtain ⟨-, HT, HAB⟩ := hrel
    obtain ⟨wr0, hwr0⟩ : ∃ wr0 : World, wr0 = wr := ⟨_, rfl⟩
    rcases HAB.out with ⟨p, g, r, cur, kx, kl, kc, cvs, f, hps, hrs, hks, hcp, hcl, hf, hsp⟩ | ⟨hrx, hrn⟩
    · have HRS := Lib.hid hrs
      have HKS := Lib.hid hks
      have HCP := Lib.hid hcp
      have HSP := Lib.hid hsp
      have HF := Lib.hid hf
      have HLEFT : Hid (leftC s.size wr br = s.size + 1 - p) := Lib.hid (leftC_rr hrs)
      rw [← hwr0] at HLEFT
      obtain ⟨f, rfl⟩ : ∃ f', f = f' + 1 := ⟨f - 1, by omega⟩
      obtain ⟨cq, hcq0⟩ : ∃ cq, pk (str s) p = cq := ⟨_, rfl⟩
      have hcq := pk_256 s p
      rw [hcq0] at hcq
      have HCQ := Lib.hid hcq0
      have HCL := Lib.hid hcl
      clear hrs hks hcp hcl hf hsp HAB hcq0
      have HPKQ : Hid (∀ w', RR br s deep ⟨p, g, r⟩ w' → Calls Tryz.prog 91 #[.pointer (some ⟨br, 0, none⟩)] w' fun e w'' => e = .returned (.int .u8 (cq : Int)) ∧ ∃ q, w'' = w'.drewN q) := Lib.hid (fun w' h => by rw [← HCQ.out]; exact rpeek_rr h)
      have HENQ : Hid (∀ w', RR br s deep ⟨p, g, r⟩ w' → Calls Tryz.prog 57 #[.pointer (some ⟨br, 0, none⟩)] w' fun e w'' => e = .returned (.bool (decide (s.size ≤ p))) ∧ ∃ q, w'' = w'.drewN q) := Lib.hid (fun w' h => rend_rr h)
      obtain ⟨B, hB⟩ : ∃ B, decide (p < s.size ∧ cq ≠ 124 ∧ cq ≠ 41) = B := ⟨_, rfl⟩
      have HB := Lib.hid hB
      clear hB
      have hc5 := HRS.out.c5
      obtain ⟨hc5, hc5f⟩ := hc5
      go_upto_region 2 with fail
      go_cut [26] from 7 to 26 (fun t wx => t = .bool B ∧ Hid (RR br s deep ⟨p, g, r⟩ wx) ∧ Hid (KS NodeR nb nb 3 cur kx kl kc cvs wx) ∧ Hid (Touch (fun b => b = br) w wx))
      case first =>
        go_wp2_with fail
        clear hc5 hc5f
        refine (HENQ.out _ HRS.out).mono ?_
        rintro e wa ⟨rfl, q, hq⟩
        have HRSa := Lib.hid (HRS.out.drewN q)
        have HKSa := Lib.hid (HKS.out.keep node_kr (still_drewN (S := fun _ => False) _ q) (fun _ e => e.elim))
        have HTa := Lib.hid (HT.out.drewN q)
        rw [← hq] at HRSa HKSa HTa
        clear hq
        by_cases r1 : s.size ≤ p
        · have q1 : decide (s.size ≤ p) = true := decide_eq_true r1
          rw [q1]
          have HB : Hid (B = false) := Lib.hid (by rw [← HB.out]; exact decide_eq_false (fun h => by omega))
          clear q1 r1
          go_wp2_with fail
          go_meet
          exact ⟨congrArg Value.bool HB.out.symm, HRSa, HKSa, HTa⟩
        · have q1 : decide (s.size ≤ p) = false := decide_eq_false r1
          rw [q1]
          clear q1
          go_wp2_with fail
          refine (HPKQ.out _ HRSa.out).mono ?_
          rintro e wb ⟨rfl, q, hq⟩
          have HRSb := Lib.hid (HRSa.out.drewN q)
          have HKSb := Lib.hid (HKSa.out.keep node_kr (still_drewN (S := fun _ => False) _ q) (fun _ e => e.elim))
          have HTb := Lib.hid (HTa.out.drewN q)
          rw [← hq] at HRSb HKSb HTb
          clear hq
          by_cases r2 : cq = 124
          · have q2 : ((cq : Int) != 124) = false := by rw [r2]; rfl
            have HB : Hid (B = false) := Lib.hid (by rw [← HB.out]; exact decide_eq_false (fun h => h.2.1 r2))
            clear r2 r1
            go_wp2_with fail
            go_meet
            exact ⟨congrArg Value.bool HB.out.symm, HRSb, HKSb, HTb⟩
          · have q2 : ((cq : Int) != 124) = true := by rw [bne_iff_ne]; omega
            go_wp2_with fail
            refine (HPKQ.out _ HRSb.out).mono ?_
            rintro e wc ⟨rfl, q, hq⟩
            have HRSc := Lib.hid (HRSb.out.drewN q)
            have HKSc := Lib.hid (HKSb.out.keep node_kr (still_drewN (S := fun _ => False) _ q) (fun _ e => e.elim))
            have HTc := Lib.hid (HTb.out.drewN q)
            rw [← hq] at HRSc HKSc HTc
            clear hq
            by_cases r3 : cq = 41
            · have q3 : ((cq : Int) != 41) = false := by rw [r3]; rfl
              have HB : Hid (B = false) := Lib.hid (by rw [← HB.out]; exact decide_eq_false (fun h => h.2.2 r3))
              clear r2 r3 r1
              go_wp2_with fail
              go_meet
              exact ⟨congrArg Value.bool HB.out.symm, HRSc, HKSc, HTc⟩
            · have q3 : ((cq : Int) != 41) = true := by rw [bne_iff_ne]; omega
              have HB : Hid (B = true) := Lib.hid (by rw [← HB.out]; exact decide_eq_true ⟨by omega, r2, r3⟩)
              clear r2 r3 r1
              go_wp2_with fail
              go_meet
              exact ⟨congrArg Value.bool HB.out.symm, HRSc, HKSc, HTc⟩
      case rest =>
        obtain ⟨rfl, HRS2, HKS2, HT2⟩ := hcut
        clear hc5 hc5f HPKQ HENQ HRS HKS HT
        cases B with
        | false =>
          go_wp2_with fail
          go_ret
          have hkr := HKS2.out.row (by have := HCP.out; omega)
          refine .inr ⟨nb, cur, ⟨p, g, r⟩, f + 1, rfl, HRS2.out, HT2.out, ?_, HSP.out, HF.out, ?_, ?_⟩
          · rw [HNB.out]; exact hkr
          · rw [HRR.out, HCL.out]
          · show ¬ (p < s.size ∧ pk (str s) p ≠ 124 ∧ pk (str s) p ≠ 41)
            rw [HCQ.out]
            exact of_decide_eq_false HB.out
        | true =>
          obtain ⟨hlt, hq1, hq2⟩ := of_decide_eq_true HB.out
          have hstep : rr = match pieceR W (str s) ⟨p, g, r⟩ with
              | none => none
              | some (a, st') => loopP (pieceR W (str s)) (str s) f st' rows (cur ++ [a]) := by
            rw [← HCL.out]
            show (if p < (str s).length ∧ pk (str s) p ≠ 41 then _ else _) = _
            rw [if_pos ⟨by rw [str_len]; exact hlt, by rw [HCQ.out]; exact hq2⟩, if_neg (by rw [tk_one _ _ _ (by rw [str_len]; exact hlt), HCQ.out]; simpa using hq1)]
            rfl
          have HSTEP := Lib.hid hstep
          have HAT := Lib.hid (ratom_any br s deep ⟨p, g, r⟩ _ W HG.out HRS2.out hlt (by show pk (str s) p ≠ 124; rw [HCQ.out]; exact hq1) (by show pk (str s) p ≠ 41; rw [HCQ.out]; exact hq2))
          have HLT := Lib.hid hlt
          clear hstep hlt hq1 hq2 HB
          go_wp2_with fail
          refine HAT.out.mono ?_
          clear HAT
          intro e w3 hN
          cases hat : atomP W (str s) ⟨p, g, r⟩ with
          | none =>
            rw [hat] at hN
            obtain ⟨pv, rfl, hrx, ht⟩ := hN
            have HNONE : Hid (rr = none) := Lib.hid (by rw [HSTEP.out]; unfold pieceR; rw [hat])
            have HRX := Lib.hid hrx
            have HT3 := Lib.hid (HT2.out.then ht)
            have hc5 := hrx.c5
            obtain ⟨hc5, hc5f⟩ := hc5
            clear hrx ht hat HSTEP
            go_wp2_with fail
            go_ret
            exact .inl ⟨_, rfl, HRX.out, HT3.out, by rw [HRR.out, HNONE.out]⟩
          | some y =>
            obtain ⟨a, st1⟩ := y
            rw [hat] at hN
            obtain ⟨pa, rfl, hrs, ht, hnd⟩ := hN
            have hpos := atom_pos HW.out hat
            have HRR3 : Hid (rr = match repP (str s) a st1 with
                | none => none
                | some (a', st') => loopP (pieceR W (str s)) (str s) f st' rows (cur ++ [a'])) := Lib.hid (by rw [HSTEP.out]; unfold pieceR; rw [hat])
            have HPOS : Hid (p < st1.pos) := Lib.hid hpos
            have HRS3 := Lib.hid hrs
            have HT3 := Lib.hid (HT2.out.then ht)
            have HKS3 := Lib.hid (HKS2.out.keep node_kr ht (fun b e => by have h1 := HBL.out; have h2 := HNB.out; omega))
            have HND := Lib.hid hnd
            have HSZ2 : Hid (nb ≤ wc.heap.size ∧ wc.heap.size ≤ w3.heap.size) := Lib.hid ⟨by have := HT2.out.size; have h2 := HNB.out; omega, ht.size⟩
            obtain ⟨lo2, hlo2⟩ : ∃ lo2, wc.heap.size = lo2 := ⟨_, rfl⟩
            rw [hlo2] at HND HSZ2
            have HREP : Hid (∀ w', Touch (fun _ => False) w3 w' → Calls Tryz.prog 93 #[.pointer (some ⟨br, 0, none⟩), .pointer (some ⟨pa, 0, none⟩)] w' (fun e w5 => ∃ pv, e = .returned (.pointer pv) ∧ Touch (fun b => b = br) w3 w5 ∧ PieceE br s deep lo2 (pieceR W (str s)) f rows cur rr p pv w5)) := Lib.hid (fun w' t => by
              have hbl : br < lo2 := by have h1 := HBL.out; have h2 := HNB.out; have h3 := HSZ2.out.1; omega
              have hn' := (rdD_later (br := br) (t.mono (S1 := fun b => b = br) (fun _ _ e => e.elim)) hbl a).1 _ HND.out
              refine (rrepeated_any br lo2 s deep st1 a pa w' (HRS3.out.keep t id) hbl (Nat.le_trans HSZ2.out.2 t.size) hn').mono ?_
              intro e w5 hE
              have hrr3 := HRR3.out
              cases hrp : repP (str s) a st1 with
              | none =>
                rw [hrp] at hE hrr3
                obtain ⟨pv, h1, h2, h3⟩ := hE
                exact ⟨pv, h1, (t.mono (S1 := fun b => b = br) (fun _ _ e => e.elim)).then h3, .inr ⟨h2, hrr3⟩⟩
              | some z =>
                obtain ⟨a2, st2⟩ := z
                rw [hrp] at hE hrr3
                obtain ⟨pb, h1, h2, h3, h4⟩ := hE
                exact ⟨_, h1, (t.mono (S1 := fun b => b = br) (fun _ _ e => e.elim)).then h3, .inl ⟨a2, st2, h2, h4, hrr3, Nat.lt_of_lt_of_le HPOS.out (rep_pos hrp)⟩⟩)
            have hc5 := hrs.c5
            obtain ⟨hc5, hc5f⟩ := hc5
            have hx3 := HKS3.out.nd.cell (i := 259) (by decide)
            obtain ⟨hx3, hx3f⟩ := hx3
            have HNBR : Hid (nb ≠ br) := Lib.hid (by have h1 := HBL.out; have h2 := HNB.out; omega)
            have HKS2L : Hid (nb < lo2) := Lib.hid (by rw [← hlo2]; exact HKS2.out.nd.lt)
            have HKS2O : Hid (∀ b, (Value.slice kx kl kc).ownBlock = some b → b < lo2) := Lib.hid (fun b e => by rw [← hlo2]; exact (HKS2.out.oy.lt b e).2)
            clear hrs ht hnd hpos hat HSTEP HRR3 hlo2
            go_wp2_with fail
            go_region_law (first
              | (refine step_appD rfl (.tmp 38) (.tmp 42) rfl nb (.slice kx kl kc) cur.length cvs rfl HOY5.out ⟨w5.heap.size, 0, none⟩ 1 (.pointer pv) rfl (alloc_cellD _ _ _) rfl HC5.out HL5.out ?_
                 intro g3 cap3 w6 hown hgrow hat hlt2
                 have hx6 := holds_grownD HX5A.out hgrow HNE.out
                 obtain ⟨hx6, hx6f⟩ := hx6)
              | (go_simp
                 go_at_call 93
                 refine (HREP.out _ ((Touch.refl _ _).drew)).mono ?_
                 rintro e w5 ⟨pv, rfl, ht3, hpe⟩
                 have hx5 : Holds w5 nb 259 (.slice kx kl kc) := Holds.keep ⟨hx3, hx3f⟩ ht3 HNBR.out
                 have HPE := Lib.hid hpe
                 have HT5 := Lib.hid (HT3.out.then ht3)
                 have HKS5 := Lib.hid (HKS3.out.keep node_kr ht3 (fun b e => by have h1 := HBL.out; have h2 := HNB.out; omega))
                 have HOY5 := Lib.hid (HKS5.out.oy.alloc (.cells #[.pointer pv] TD))
                 have HC5 : Hid (cur.length ≤ 100000) := Lib.hid (by have := HCP.out; omega)
                 have HL5 : Hid (nb ≤ (w5.alloc (.cells #[.pointer pv] TD)).heap.size) := Lib.hid (by have h1 := HT5.out.size; have h2 := HNB.out; simp; omega)
                 have HX5A := Lib.hid (hx5.alloc (.cells #[.pointer pv] TD))
                 have HNE : Hid (some nb ≠ (Value.slice kx kl kc).ownBlock) := Lib.hid (fun e => HKS5.out.ne e.symm)
                 have HT35 := Lib.hid ht3
                 have hx5a := HX5A.out.1
                 obtain ⟨hx5, hx5f⟩ := hx5
                 clear ht3 hpe))
            all_goals (
              have ht7 := HKS5.out.addT hgrow (v := .slice (some ⟨g3, 0, none⟩) (cur.length + 1) cap3)
              have HT7 := Lib.hid (HT5.out.trans ht7 (fun i e => .inr (by have h1 := HNB.out; have e' : nb ≤ i := e; omega)))
              have HT57 := Lib.hid ht7
              have HBN : Hid (¬ nb ≤ br) := Lib.hid (by have h1 := HBL.out; have h2 := HNB.out; omega)
              have HL0 := Lib.hid HLEFT.out
              have HFIN : Hid (((∃ (p g r : Nat) (cu : List Re) (kx : Option Addr) (kl kc : Nat) (cvs : List Value) (f : Nat), p ≤ s.size ∧ RR br s deep ⟨p, g, r⟩ (w6.setCell ⟨nb, 259, none⟩ (.slice (some ⟨g3, 0, none⟩) (cur.length + 1) cap3)) ∧ KS NodeR nb nb 3 cu kx kl kc cvs (w6.setCell ⟨nb, 259, none⟩ (.slice (some ⟨g3, 0, none⟩) (cur.length + 1) cap3)) ∧ cu.length ≤ p ∧ loopP (pieceR W (str s)) (str s) f ⟨p, g, r⟩ rows cu = rr ∧ s.size + 1 - p ≤ f ∧ st.pos ≤ p) ∨ (RX br s (w6.setCell ⟨nb, 259, none⟩ (.slice (some ⟨g3, 0, none⟩) (cur.length + 1) cap3)) ∧ rr = none)) ∧ leftC s.size (w6.setCell ⟨nb, 259, none⟩ (.slice (some ⟨g3, 0, none⟩) (cur.length + 1) cap3)) br < leftC s.size wr0 br) := Lib.hid (by
                rcases HPE.out with ⟨a2, ⟨p2, g2, r2⟩, h1, h2, h3, h4⟩ | ⟨h1, h2⟩
                · have hrs7 := h1.keep ht7 HBN.out
                  have hks7 := HKS5.out.add node_kr (a := a2) (u := .pointer pv) ((rdD_mono (fun b hb => ⟨by have h5 := hb.1; have h6 := HSZ2.out.1; omega, hb.2, fun e => by have h5 := hb.1; have h6 := HKS2L.out; omega, fun e => by have h5 := hb.1; have h6 := HKS2O.out b e; omega⟩) (fun b hb hl => rfl) a2).1 _ h2) hown hgrow hat (Nat.le_refl _)
                  have h4' : p < p2 := h4
                  have hp2 : p2 ≤ s.size := h1.le
                  refine ⟨.inl ⟨p2, g2, r2, cur ++ [a2], _, _, _, _, f, hp2, hrs7, hks7, ?_, h3.symm, ?_, ?_⟩, ?_⟩
                  · have := HCP.out; simp; omega
                  · have := HF.out; omega
                  · have := HSP.out; omega
                  · rw [leftC_rr hrs7, HLEFT.out]; show s.size + 1 - p2 < s.size + 1 - p; omega
                · have hrx7 := h1.keep ht7 HBN.out
                  refine ⟨.inr ⟨hrx7, h2⟩, ?_⟩
                  rw [leftC_rx hrx7, HLEFT.out]; have := hps; omega)
              clear hown hgrow hat hlt2 ht7
              go_wp2_with fail
              exact ⟨⟨trivial, HT7, Lib.hid HFIN.out.1⟩, by rw [← hwr0]; exact HFIN.out.2⟩)
    · have HRX := Lib.hid hrx
      have HRN := Lib.hid hrn
      have hc5 := hrx.c5
      obtain ⟨hc5, hc5f⟩ := hc5
      clear hrx hrn HAB
      go_wp2_with fail
      go_ret
      exact .inl ⟨_, rfl, HRX.out, HT.out, by rw [HRR.out, HRN.out]⟩
end Go.Proofs.YtlgpilcjcomacaaGreat

/-
  The document's reader: alternatives, at every depth.
-/
namespace Go.Proofs.YtlgpilcjcomacaaGreat
open Go.RowKit Rx
set_option linter.unusedVariables false

/-- A node with one kid. -/
theorem KS.one {α : Type} {R : (Nat → Prop) → World → α → Value → Prop} (hR : KR1 R) {lo : Nat} {w : World} {a : α} {u : Value} (K : Int) (hlo : lo ≤ w.heap.size) (ha : R (FP lo w.heap.size) w a u) :
    KS R lo (w.heap.size + 1) K [a] (some ⟨w.heap.size, 0, none⟩) 1 1 [u] ((w.alloc (.cells #[u] TD)).alloc (.cells ((Tryz.zeroCells97.setIfInBounds 0 (.int .i64 K)).setIfInBounds 259 (.slice (some ⟨w.heap.size, 0, none⟩) 1 1)) 97)) := by
  have hz : (w.alloc (.cells #[u] TD)).heap.size = w.heap.size + 1 := by simp
  have hN := NodeB.made (w.alloc (.cells #[u] TD)) _ _ ((zero_node.kind K).kids (some ⟨w.heap.size, 0, none⟩) 1 1)
  rw [hz] at hN
  have ho : (w.alloc (.cells #[u] TD)).ownsRow lo TD 1 (.slice (some ⟨w.heap.size, 0, none⟩) 1 1) 1 [u] := ⟨rfl, .inr ⟨_, _, _, rfl, hlo, heap_alloc_new w _, Nat.le_refl _, by unfold maxLen; omega, rfl, rfl⟩⟩
  refine ⟨hN, ho.alloc _, ⟨?_, trivial⟩, by omega, fun e => ?_⟩
  · refine hR.mono (fun b hb => ⟨hb.1, ?_, ?_, fun e => ?_⟩) (fun b hb hl => ?_) ha
    · have := hb.2; have := hN.lt; omega
    · have := hb.2; omega
    · have h1 := hb.2; have h2 : w.heap.size = b := Option.some.inj e; omega
    · rw [Below.heap_alloc _ _ _ (by rw [hz]; omega), Below.heap_alloc _ _ _ hl]
  · have h2 : w.heap.size = w.heap.size + 1 := Option.some.inj e
    omega

/-- What comes back of one alternative, whatever was seen. -/
def RowE (br : Nat) (s : ByteArray) (deep lo : Nat) (P : PS → Option (Re × PS)) (rows : List (List Re)) (lr : Option (List (List Re) × PS)) (p0 : Nat) (pv : Option Addr) (w' : World) : Prop :=
  (∃ (cur : List Re) (p g r f : Nat), RR br s deep ⟨p, g, r⟩ w' ∧ RowR (FP lo w'.heap.size) w' cur (.pointer pv) ∧ p0 ≤ p ∧ s.size + 1 - p ≤ f ∧ loopP P (str s) f ⟨p, g, r⟩ rows cur = lr ∧ ¬ (p < s.size ∧ pk (str s) p ≠ 124 ∧ pk (str s) p ≠ 41)) ∨ (RX br s w' ∧ lr = none)

theorem rrow_all (br : Nat) (s : ByteArray) (deep : Nat) (W : PS → Option (Re × PS)) (hW : PPos W) (hG : ∀ st' w', RR br s deep st' w' → Calls Tryz.prog 101 #[.pointer (some ⟨br, 0, none⟩)] w' (NPostD br s deep w' (grpP W (str s) st'))) (f0 : Nat) (rows : List (List Re)) (st : PS) (lr : Option (List (List Re) × PS)) (hlr : loopP (pieceR W (str s)) (str s) f0 st rows [] = lr) (hf : s.size + 1 - st.pos ≤ f0) (w : World) (h : RR br s deep st w) :
    Calls Tryz.prog 79 #[.pointer (some ⟨br, 0, none⟩)] w (fun e w' => ∃ pv, e = .returned (.pointer pv) ∧ Touch (fun b => b = br) w w' ∧ RowE br s deep w.heap.size (pieceR W (str s)) rows lr st.pos pv w') := by
  refine (rrow_any br s deep W hW hG f0 rows st w h hf).mono ?_
  intro e w' hE
  rcases hE with ⟨p, h1, h2, h3, h4⟩ | ⟨p, cur, ⟨q, g, r⟩, f', h1, h2, h3, h4, h5, h6, h7, h8⟩
  · exact ⟨p, h1, h3, .inr ⟨h2, by rw [← hlr, h4]⟩⟩
  · exact ⟨_, h1, h3, .inl ⟨cur, q, g, r, f', h2, h4, h5, h6, by rw [← hlr, h7], h8⟩⟩

set_option maxRecDepth 100000 in
set_option maxHeartbeats 20000000 in
theorem ralts_any (br : Nat) (s : ByteArray) (deep : Nat) (W : PS → Option (Re × PS)) (hW : PPos W) (hG : ∀ st' w', RR br s deep st' w' → Calls Tryz.prog 101 #[.pointer (some ⟨br, 0, none⟩)] w' (NPostD br s deep w' (grpP W (str s) st'))) (st : PS) (w : World) (h : RR br s deep st w) :
    Calls Tryz.prog 56 #[.pointer (some ⟨br, 0, none⟩)] w (AltD br s deep w (waysEnd (loopP (pieceR W (str s)) (str s) ((str s).length + 1 - st.pos) st [] []))) := by
  have hsz := h.sz
  have HBL : Hid (br < w.heap.size) := Lib.hid h.lt
  obtain ⟨lr, hlr⟩ : ∃ lr, loopP (pieceR W (str s)) (str s) ((str s).length + 1 - st.pos) st [] [] = lr := ⟨_, rfl⟩
  rw [hlr]
  have HROW0 := Lib.hid (rrow_all br s deep W hW hG _ [] st lr hlr (by rw [str_len]; exact Nat.le_refl _) w h)
  have HROWS : Hid (∀ (f0 : Nat) (rows : List (List Re)) (st : PS), loopP (pieceR W (str s)) (str s) f0 st rows [] = lr → s.size + 1 - st.pos ≤ f0 → ∀ w, RR br s deep st w → Calls Tryz.prog 79 #[.pointer (some ⟨br, 0, none⟩)] w (fun e w' => ∃ pv, e = .returned (.pointer pv) ∧ Touch (fun b => b = br) w w' ∧ RowE br s deep w.heap.size (pieceR W (str s)) rows lr st.pos pv w')) := Lib.hid (fun f0 rows st h1 h2 w h3 => rrow_all br s deep W hW hG f0 rows st lr h1 h2 w h3)
  obtain ⟨lo, hlo⟩ : ∃ lo, w.heap.size = lo := ⟨_, rfl⟩
  have HLO := Lib.hid hlo
  rw [hlo] at HROW0
  clear hlr hG hW h hlo
  go_enter Tryz.func56, Tryz.ntmps56
  go_wp2_with fail
  refine HROW0.out.mono ?_
  clear HROW0
  rintro e w2 ⟨pv, rfl, ht, hre⟩
  have HRE := Lib.hid hre
  have HT2 := Lib.hid ht
  have HLW : Hid (lo ≤ w2.heap.size) := Lib.hid (by rw [← HLO.out]; exact ht.size)
  obtain ⟨n2, hn2⟩ : ∃ n2, w2.heap.size = n2 := ⟨_, rfl⟩
  have HN2 := Lib.hid hn2
  obtain ⟨w3, hw3⟩ : ∃ w3, (w2.alloc (.cells #[.pointer pv] TD)).alloc (.cells ((Tryz.zeroCells97.setIfInBounds 0 (.int .i64 4)).setIfInBounds 259 (.slice (some ⟨n2, 0, none⟩) 1 1)) 97) = w3 := ⟨_, rfl⟩
  have HT23 : Hid (Touch (fun b => b = br) w2 w3) := Lib.hid (by rw [← hw3]; exact ((Touch.refl _ _).alloc _).alloc _)
  have HT3 := Lib.hid (HT2.out.then HT23.out)
  have HNBR0 : Hid (br < n2) := Lib.hid (by have h1 := HBL.out; have h2 := HLO.out; have h3 := HLW.out; have h4 := HN2.out; omega)
  have HAB3 : Hid ((∃ (p g r : Nat) (rows : List (List Re)) (cur : List Re) (kx : Option Addr) (kl kc : Nat) (cvs : List Value) (f : Nat), RR br s deep ⟨p, g, r⟩ w3 ∧ KS RowR lo (n2 + 1) 4 (rows ++ [cur]) kx kl kc cvs w3 ∧ rows.length ≤ p ∧ loopP (pieceR W (str s)) (str s) f ⟨p, g, r⟩ rows cur = lr ∧ s.size + 1 - p ≤ f ∧ ¬ (p < s.size ∧ pk (str s) p ≠ 124 ∧ pk (str s) p ≠ 41)) ∨ (RX br s w3 ∧ lr = none)) := Lib.hid (by
    have t23 : Touch (fun _ => False) w2 w3 := by rw [← hw3]; exact ((Touch.refl _ _).alloc _).alloc _
    rcases HRE.out with ⟨cur, p, g, r, f, h1, h2, h3, h4, h5, h6⟩ | ⟨h1, h2⟩
    · refine .inl ⟨p, g, r, [], cur, some ⟨n2, 0, none⟩, 1, 1, [.pointer pv], f, h1.keep t23 id, ?_, Nat.zero_le _, h5, h4, h6⟩
      rw [← hw3, ← hn2]
      exact KS.one row_kr 4 HLW.out h2
    · exact .inr ⟨h1.keep t23 id, h2⟩)
  clear ht hre HRE
  go_wp2_with fail
  clear hw3 hn2
  go_loopw [] (fun wr => Hid (Touch (fun b => b = br) w wr) ∧ Hid ((∃ (p g r : Nat) (rows : List (List Re)) (cur : List Re) (kx : Option Addr) (kl kc : Nat) (cvs : List Value) (f : Nat), RR br s deep ⟨p, g, r⟩ wr ∧ KS RowR lo (n2 + 1) 4 (rows ++ [cur]) kx kl kc cvs wr ∧ rows.length ≤ p ∧ loopP (pieceR W (str s)) (str s) f ⟨p, g, r⟩ rows cur = lr ∧ s.size + 1 - p ≤ f ∧ ¬ (p < s.size ∧ pk (str s) p ≠ 124 ∧ pk (str s) p ≠ 41)) ∨ (RX br s wr ∧ lr = none))) (fun wr => leftC s.size wr br)
  case atStart => exact ⟨HT3, HAB3⟩
  case round =>
    obtain ⟨HT, HAB⟩ := hrel
    obtain ⟨wr0, hwr0⟩ : ∃ wr0 : World, wr0 = wr := ⟨_, rfl⟩
    rcases HAB.out with ⟨p, g, r, rows, cur, kx, kl, kc, cvs, f, hrs, hks, hcp, hcl, hf, hst⟩ | ⟨hrx, hrn⟩
    · have HRS := Lib.hid hrs
      have HKS := Lib.hid hks
      have HCP := Lib.hid hcp
      have HF := Lib.hid hf
      have HST := Lib.hid hst
      have HPS : Hid (p ≤ s.size) := Lib.hid hrs.le
      have HLEFT : Hid (leftC s.size wr br = s.size + 1 - p) := Lib.hid (leftC_rr hrs)
      rw [← hwr0] at HLEFT
      have hp0 : p ≤ s.size := hrs.le
      obtain ⟨f, rfl⟩ : ∃ f', f = f' + 1 := ⟨f - 1, by omega⟩
      have HCL := Lib.hid hcl
      have hc5 := hrs.c5
      obtain ⟨hc5, hc5f⟩ := hc5
      have HNN := Lib.hid (fun b hb => rnext_rr (t := ⟨#[124]⟩) HRS.out b hb (by decide))
      clear hrs hks hcp hcl hf hst HAB
      cases htk : tk (str s) p [124] with
      | false =>
        have HNY := Lib.hid (HNN.out false htk)
        have HEND : Hid (lr = some (rows ++ [cur], ⟨p, g, r⟩)) := Lib.hid (by
          rw [← HCL.out]
          show (if p < (str s).length ∧ pk (str s) p ≠ 41 then _ else _) = _
          rw [if_neg]
          rintro ⟨h1, h2⟩
          rw [str_len] at h1
          refine HST.out ⟨h1, fun e => ?_, h2⟩
          rw [tk_one _ _ _ (by rw [str_len]; exact h1), e] at htk
          exact absurd htk (by decide))
        clear HNN htk
        go_wp2_with fail
        refine HNY.out.mono ?_
        clear HNY
        rintro e w4 ⟨rfl, hrs, ht⟩
        have HRS4 : Hid (RR br s deep ⟨p, g, r⟩ w4) := Lib.hid hrs
        have HT4 := Lib.hid (HT.out.then ht)
        have HKS4 := Lib.hid (HKS.out.keep row_kr ht (fun b e => by have h1 := HBL.out; have h2 := HLO.out; omega))
        clear hrs ht
        go_wp2_with fail
        go_ret
        rw [HEND.out]
        refine ⟨n2 + 1, rfl, HRS4.out, HT4.out, ?_⟩
        have hk := HKS4.out.ways (by have := HCP.out; simp; omega)
        rw [HLO.out]
        exact hk
      | true =>
        have hlt : p < s.size := tk_le (s := s) (t := ⟨#[124]⟩) htk hp0
        have HNY := Lib.hid (HNN.out true htk)
        have HP1 : Hid (p < s.size) := Lib.hid hlt
        have hcl2 : loopP (pieceR W (str s)) (str s) f ⟨p + 1, g, r⟩ (rows ++ [cur]) [] = lr := by
          rw [← HCL.out]
          have h124 : pk (str s) p = 124 := by
            rw [tk_one _ _ _ (by rw [str_len]; exact hlt)] at htk
            simpa using htk
          show _ = (if p < (str s).length ∧ pk (str s) p ≠ 41 then _ else _)
          rw [if_pos ⟨by rw [str_len]; exact hlt, by rw [h124]; decide⟩, if_pos htk]
        have HRW : Hid (∀ w, RR br s deep ⟨p + 1, g, r⟩ w → Calls Tryz.prog 79 #[.pointer (some ⟨br, 0, none⟩)] w (fun e w' => ∃ pv, e = .returned (.pointer pv) ∧ Touch (fun b => b = br) w w' ∧ RowE br s deep w.heap.size (pieceR W (str s)) (rows ++ [cur]) lr (p + 1) pv w')) := Lib.hid (HROWS.out f (rows ++ [cur]) ⟨p + 1, g, r⟩ hcl2 (by have := HF.out; show s.size + 1 - (p + 1) ≤ f; omega))
        clear HNN htk hcl2 hlt
        go_wp2_with fail
        refine HNY.out.mono ?_
        clear HNY
        rintro e w4 ⟨rfl, hrs, ht⟩
        have HRS4 : Hid (RR br s deep ⟨p + 1, g, r⟩ w4) := Lib.hid hrs
        have HT4 := Lib.hid (HT.out.then ht)
        have HKS4 := Lib.hid (HKS.out.keep row_kr ht (fun b e => by have h1 := HBL.out; have h2 := HLO.out; omega))
        have hx3 := HKS4.out.nd.cell (i := 259) (by decide)
        obtain ⟨hx3, hx3f⟩ := hx3
        have HLO4 : Hid (lo ≤ w4.heap.size) := Lib.hid (by rw [← HLO.out]; exact HT4.out.size)
        have HNL4 : Hid (n2 + 1 < w4.heap.size ∧ ∀ b, (Value.slice kx kl kc).ownBlock = some b → b < w4.heap.size) := Lib.hid ⟨HKS4.out.nd.lt, fun b e => (HKS4.out.oy.lt b e).2⟩
        have HNBR : Hid (n2 + 1 ≠ br) := Lib.hid (by have h1 := HNBR0.out; omega)
        obtain ⟨nr, hnr⟩ : ∃ nr, (rows ++ [cur]).length = nr := ⟨_, rfl⟩
        have HNR := Lib.hid hnr
        clear hrs ht hc5 hc5f hnr
        go_wp2_with fail
        go_region_law (first
          | (refine step_appD rfl (.tmp 22) (.tmp 25) rfl lo (.slice kx kl kc) nr cvs rfl HOY5.out ⟨w5.heap.size, 0, none⟩ 1 (.pointer pv5) rfl (alloc_cellD _ _ _) rfl HC5.out HL5.out ?_
             intro g3 cap3 w6 hown hgrow hat hlt2
             have hx6 := holds_grownD HX5A.out hgrow HNE.out
             obtain ⟨hx6, hx6f⟩ := hx6)
          | (go_simp
             go_at_call 79
             refine (HRW.out _ (HRS4.out.keep ((Touch.refl (fun _ => False) _).drew) id)).mono ?_
             rintro e w5 ⟨pv5, rfl, ht3, hpe⟩
             have ht3 : Touch (fun b => b = br) w4 w5 := ((Touch.refl _ _).drew).then ht3
             have hx5 : Holds w5 (n2 + 1) 259 (.slice kx kl kc) := Holds.keep ⟨hx3, hx3f⟩ ht3 HNBR.out
             have HPE : Hid (RowE br s deep w4.heap.size (pieceR W (str s)) (rows ++ [cur]) lr (p + 1) pv5 w5) := Lib.hid hpe
             have HT5 := Lib.hid (HT4.out.then ht3)
             have HKS5 := Lib.hid (HKS4.out.keep row_kr ht3 (fun b e => by have h1 := HBL.out; have h2 := HLO.out; omega))
             have HOY5 : Hid ((w5.alloc (.cells #[.pointer pv5] TD)).ownsRow lo TD 1 (.slice kx kl kc) nr cvs) := Lib.hid (by rw [← HNR.out]; exact HKS5.out.oy.alloc (.cells #[.pointer pv5] TD))
             have HC5 : Hid (nr ≤ 100000) := Lib.hid (by rw [← HNR.out]; have h1 := HCP.out; have h2 := HPS.out; simp; omega)
             have HL5 : Hid (lo ≤ (w5.alloc (.cells #[.pointer pv5] TD)).heap.size) := Lib.hid (by have h1 := HT5.out.size; have h2 := HLO.out; simp; omega)
             have HX5A := Lib.hid (hx5.alloc (.cells #[.pointer pv5] TD))
             have HNE : Hid (some (n2 + 1) ≠ (Value.slice kx kl kc).ownBlock) := Lib.hid (fun e => HKS5.out.ne e.symm)
             have hx5a := HX5A.out.1
             obtain ⟨hx5, hx5f⟩ := hx5
             clear ht3 hpe))
        all_goals (
          have ht7 := HKS5.out.addT hgrow (v := .slice (some ⟨g3, 0, none⟩) (nr + 1) cap3)
          have HT7 := Lib.hid (HT5.out.trans ht7 (fun i e => .inr (by have h1 := HLO.out; have e' : lo ≤ i := e; omega)))
          have HBN : Hid (¬ lo ≤ br) := Lib.hid (by have h1 := HBL.out; have h2 := HLO.out; omega)
          have HFIN : Hid (((∃ (p g r : Nat) (ro : List (List Re)) (cu : List Re) (kx : Option Addr) (kl kc : Nat) (cvs : List Value) (f : Nat), RR br s deep ⟨p, g, r⟩ (w6.setCell ⟨n2 + 1, 259, none⟩ (.slice (some ⟨g3, 0, none⟩) (nr + 1) cap3)) ∧ KS RowR lo (n2 + 1) 4 (ro ++ [cu]) kx kl kc cvs (w6.setCell ⟨n2 + 1, 259, none⟩ (.slice (some ⟨g3, 0, none⟩) (nr + 1) cap3)) ∧ ro.length ≤ p ∧ loopP (pieceR W (str s)) (str s) f ⟨p, g, r⟩ ro cu = lr ∧ s.size + 1 - p ≤ f ∧ ¬ (p < s.size ∧ pk (str s) p ≠ 124 ∧ pk (str s) p ≠ 41)) ∨ (RX br s (w6.setCell ⟨n2 + 1, 259, none⟩ (.slice (some ⟨g3, 0, none⟩) (nr + 1) cap3)) ∧ lr = none)) ∧ leftC s.size (w6.setCell ⟨n2 + 1, 259, none⟩ (.slice (some ⟨g3, 0, none⟩) (nr + 1) cap3)) br < leftC s.size wr0 br) := Lib.hid (by
            rcases HPE.out with ⟨cu, p2, g2, r2, f2, h1, h2, h3, h4, h5, h6⟩ | ⟨h1, h2⟩
            · have hrs7 := h1.keep ht7 HBN.out
              have hks7 := HKS5.out.add row_kr (a := cu) (u := .pointer pv5) (row_kr.mono (fun b hb => ⟨by have h5 := hb.1; have h6 := HLO4.out; omega, hb.2, fun e => by have h5 := hb.1; have h6 := HNL4.out.1; omega, fun e => by have h5 := hb.1; have h6 := HNL4.out.2 b e; omega⟩) (fun b hb hl => rfl) h2) (by rw [HNR.out]; exact hown) hgrow hat (Nat.le_refl _)
              rw [HNR.out] at hks7
              have hp2 : p2 ≤ s.size := h1.le
              refine ⟨.inl ⟨p2, g2, r2, rows ++ [cur], cu, _, _, _, _, f2, hrs7, hks7, ?_, h5, h4, h6⟩, ?_⟩
              · have := HCP.out; simp; omega
              · rw [leftC_rr hrs7, HLEFT.out]; show s.size + 1 - p2 < s.size + 1 - p; omega
            · have hrx7 := h1.keep ht7 HBN.out
              refine ⟨.inr ⟨hrx7, h2⟩, ?_⟩
              rw [leftC_rx hrx7, HLEFT.out]; have := HPS.out; omega)
          clear hown hgrow hat hlt2 ht7
          go_wp2_with fail
          exact ⟨⟨HT7, Lib.hid HFIN.out.1⟩, by rw [← hwr0]; exact HFIN.out.2⟩)
    · have HRX := Lib.hid hrx
      have HRN := Lib.hid hrn
      have hc5 := hrx.c5
      obtain ⟨hc5, hc5f⟩ := hc5
      clear hrx hrn HAB
      go_wp2_with fail
      go_ret
      rw [HRN.out]
      exact ⟨_, rfl, HRX.out, HT.out⟩

/-- Alternatives, at every depth. -/
theorem walts (br : Nat) (s : ByteArray) : ∀ d, d ≤ 11 → WOKD br s (11 - d) (waysP (str s) d)
  | 0, _ => ⟨fun _ _ => rfl, fun _ _ => rfl, fun h => by omega⟩
  | d + 1, hd => by
    have ih := walts br s d (by omega)
    rw [show 11 - d = 11 - (d + 1) + 1 by omega] at ih
    refine ⟨fun h => by omega, fun st h => ?_, fun _ st w h => ?_⟩
    · rw [waysR_succ, loop_stuck _ _ _ _ _ _ h]; rfl
    · rw [waysR_succ]
      exact ralts_any br s _ (waysP (str s) d) (ways_pos (str s) d) (fun st' w' h' => rgroup_any br s _ st' w' _ ih h') st w h
end Go.Proofs.YtlgpilcjcomacaaGreat
