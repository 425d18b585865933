/-
  slices.Delete at rows; drop; Delete, Shift.
-/
import Derived.Test.YtombofldebmaoaaWalkG
namespace Go.Proofs.Ytombofldebmaoaa
open Go.RowKit
set_option linter.unusedVariables false

/-- append WHERE THERE IS ROOM, onto a row that is known whole, as one step of a region that draws. -/
theorem step_append_row {P : Program} {ops : Array Oper} {o : Oper} {a : Act} {w : World} {K : Act → World → Prop} {Q : Exit → Act → World → Prop} {E : Prop}
    (hg : o.guard = none) (s x : Operand) (t : TypeId) (hop : o.op = Op.call { callee := Callee.builtin Builtin.append, args := #[s, x], argTypes := #[t, t] })
    (e : TypeId) (i : TypeInfo) (size : Nat) (h1 : P.underlying t = some (.slice e)) (h2 : P.info? e = some i) (h4 : i.size = size)
    (g n cap : Nat) (cur : Array Value) (hcur : w.heap[g]? = some (.cells cur e (0, 0))) (hs : a.eval s = .slice (some ⟨g, 0, none⟩) n cap)
    (ad : Addr) (m c : Nat) (news : List Value) (hx : a.eval x = .slice (some ad) m c) (hn : news.length = m * size) (hc : ∀ j u, news[j]? = some u → w.cell? (ad.add j) = some u) (h1c : ∀ u ∈ news, u.oneCell' = true)
    (hroom : n + m ≤ cap) (hfit : n * size + news.length ≤ cur.size)
    (hK : K (a.put o.dst (.slice (some ⟨g, 0, none⟩) (n + m) cap)) (w.setRow g (cur.toList.take (n * size) ++ (news ++ cur.toList.drop (n * size + news.length))).toArray)) :
    if Region.wanted o (yielded ops a.tmps) = true then Oper.wp P o a w K Q else E := by
  have hw : Region.wanted o (yielded ops a.tmps) = true := by simp [Region.wanted, hg]
  rw [if_pos hw]
  subst h4
  have hrun := run_append_room (P := P) w t o.type e i h1 h2 g n cap cur hcur ad m c news hn hc h1c hroom hfit
  rw [List.append_assoc] at hrun
  unfold Oper.wp execOp
  simp only [hop, resolve, invoke, builtin, Sem.run_bind, Sem.run_pure, Result.andThen_ok, List.map_toArray, List.map_cons, List.map_nil, hs, hx, hrun]
  exact hK

theorem rowsCells_one : ∀ (rs : List R3), ∀ u ∈ rowsCells rs, u.oneCell' = true := by
  intro rs u hu
  simp only [rowsCells, List.mem_flatMap, rowCells] at hu
  obtain ⟨r, _, hu⟩ := hu
  simp at hu
  rcases hu with rfl | rfl | rfl <;> rfl

theorem zero76 (w : World) : (zeroValue 76).run Try.prog w = .ok (.agg #[.int .i64 0, .int .i64 0, .int .i64 0]) w := by kernel_rfl

abbrev zeros3 : List Value := [.int .i64 0, .int .i64 0, .int .i64 0]

theorem run_clear_row {w : World} (g off c : Nat) (cur : Array Value) (ty : TypeId) (hcur : w.heap[g]? = some (.cells cur 76 (0, 0))) (hfit : off + 3 ≤ cur.size) :
    (Builtin.clear_ #[65] ty #[.slice (some ⟨g, off, none⟩) 1 c]).run Try.prog w = .ok (.tuple #[]) (w.setRow g (cur.toList.take off ++ zeros3 ++ cur.toList.drop (off + 3)).toArray) := by
  have hst := run_storeCells_at Try.prog g off 76 zeros3 0 cur w hcur (by simpa using hfit) (by simp [Value.oneCell'])
  have hz : (Builtin.zeroCells (Value.agg #[.int .i64 0, .int .i64 0, .int .i64 0]).cells 1).toList = zeros3 := by simp [Builtin.zeroCells, Value.cells, List.range_succ]
  simp only [Builtin.clear_, Sem.run_bind, run_underlying Try.underlying65, Result.andThen_ok, List.getElem?_toArray, List.getElem?_cons_zero]
  simp only [zero76, Result.andThen_ok, hz, hst]
  rfl

theorem wpList_clear_row {ops : Array Oper} {rest : List Oper} {o : Oper} {a : Act} {w : World} {Q : Exit → Act → World → Prop} (hg : o.guard = none) (x : Operand) (hop : o.op = Op.call { callee := Callee.builtin Builtin.clear, args := #[x], argTypes := #[65] })
    (g off L c : Nat) (cur : Array Value) (hx : a.eval x = .slice (some ⟨g, off, none⟩) L c) (hL : L = 1) (hcur : w.heap[g]? = some (.cells cur 76 (0, 0))) (hfit : off + 3 ≤ cur.size)
    (hK : wpList Try.prog ops Q rest (a.put o.dst (.tuple #[])) (w.setRow g (cur.toList.take off ++ zeros3 ++ cur.toList.drop (off + 3)).toArray)) :
    wpList Try.prog ops Q (o :: rest) a w := by
  subst hL
  refine wpList_plain hg fun K hK' => ?_
  have hrun := run_clear_row g off c cur o.type hcur hfit
  unfold Oper.wp execOp
  simp only [hop, resolve, invoke, builtin, Sem.run_bind, Sem.run_pure, Result.andThen_ok, List.map_toArray, List.map_cons, List.map_nil, hx, hrun]
  exact hK' _ _ hK

/-- What is left behind the two writes. -/
theorem delete_end {w : World} (rs : List R3) (n g cap i : Nat) (hn : rs.length = n) (cur : Array Value) (hg : w.heap[g]? = some (.cells cur 76 (0, 0))) (hc : n ≤ cap) (hcs : cur.size = cap * 3) (hcm : cap ≤ maxLen) (htk : cur.toList.take (n * 3) = rowsCells rs) (hi : i < n)
    (C1 : Array Value) (hC1 : C1.toList = cur.toList.take (i * 3) ++ (rowsCells (rs.drop (i + 1)) ++ cur.toList.drop (i * 3 + (rowsCells (rs.drop (i + 1))).length))) (off : Nat) (ho : off = (n - 1) * 3) :
    Touch (fun k => k = g) w ((w.setRow g C1).setRow g (C1.toList.take off ++ .int .i64 0 :: .int .i64 0 :: .int .i64 0 :: C1.toList.drop (off + 3)).toArray) ∧
    ((w.setRow g C1).setRow g (C1.toList.take off ++ .int .i64 0 :: .int .i64 0 :: .int .i64 0 :: C1.toList.drop (off + 3)).toArray).ownsRow 0 76 3 (.slice (some ⟨g, 0, none⟩) (n - 1) cap) (n - 1) (rowsCells (rs.eraseIdx i)) := by
  have h1 := setRow_heap w g cur C1 76 (0, 0) hg
  have h2 := setRow_heap (w.setRow g C1) g C1 (C1.toList.take off ++ .int .i64 0 :: .int .i64 0 :: .int .i64 0 :: C1.toList.drop (off + 3)).toArray 76 (0, 0) h1
  have hl : (rowsCells (rs.drop (i + 1))).length = (n - (i + 1)) * 3 := by rw [rowsCells_length, List.length_drop, hn]
  have hsz : C1.size = cap * 3 := by
    rw [← Array.length_toList, hC1]
    simp only [List.length_append, List.length_take, List.length_drop, Array.length_toList, hl, hcs]
    omega
  refine ⟨⟨rfl, rfl, rfl, by simp [World.setRow], fun k _ hk => by rw [setRow_other _ _ _ _ hk, setRow_other _ _ _ _ hk]⟩, ?_, .inr ⟨g, cap, _, rfl, Nat.zero_le _, h2, by omega, hcm, ?_, ?_⟩⟩
  · rw [rowsCells_length, List.length_eraseIdx_of_lt (by omega), hn]
  · simp only [List.size_toArray, List.length_append, List.length_take, List.length_drop, Array.length_toList, hsz, List.length_cons]
    omega
  · have e1 : (n - 1) * 3 = off := ho.symm
    rw [e1]
    simp only []
    rw [List.take_left' (by simp [hsz]; omega)]
    rw [hC1]
    have e2 : off = (cur.toList.take (i * 3)).length + (rowsCells (rs.drop (i + 1))).length := by
      rw [hl, List.length_take, Array.length_toList, hcs]; omega
    rw [← List.append_assoc, e2, ← List.length_append, List.take_left']
    · rw [List.eraseIdx_eq_take_drop_succ, rowsCells_append]
      congr 1
      have e3 : cur.toList.take (i * 3) = (cur.toList.take (n * 3)).take (i * 3) := by rw [List.take_take]; congr 1; omega
      rw [e3, htk]
      have e4 : rowsCells rs = rowsCells (rs.take i) ++ rowsCells (rs.drop i) := by rw [← rowsCells_append, List.take_append_drop]
      rw [e4, List.take_left' (by rw [rowsCells_length, List.length_take]; omega)]
    · rfl

set_option maxHeartbeats 400000 in
theorem f69_gen {w : World} (rs : List R3) (n g cap i : Nat) (hn : Hid (rs.length = n)) (cur : Array Value) (hg : w.heap[g]? = some (.cells cur 76 (0, 0))) (hc : n ≤ cap) (hcs : cur.size = cap * 3) (hcm : cap ≤ maxLen) (htk : cur.toList.take (n * 3) = rowsCells rs) (hl : n ≤ 500) (hi : i < n) :
    Calls Try.prog 69 #[.slice (some ⟨g, 0, none⟩) n cap, .int .i64 i, .int .i64 (i + 1)] w fun e w' => e = .returned (.slice (some ⟨g, 0, none⟩) (n - 1) cap) ∧ Touch (fun k => k = g) w w' ∧
      w'.ownsRow 0 76 3 (.slice (some ⟨g, 0, none⟩) (n - 1) cap) (n - 1) (rowsCells (rs.eraseIdx i)) := by
  have H0 := Lib.hid hg
  have H1 : Hid (w.drew.heap[g]? = some (.cells cur 76 (0, 0))) := hg
  have H2 := Lib.hid hcs
  have H3 := Lib.hid htk
  have HC := Lib.hid hcm
  clear hg hcs htk
  unfold maxLen at hcm
  have hi3 : (i : Int) ≤ (i : Int) + 1 := by omega
  have hic : i ≤ cap := by omega
  have hi2 : (0 : Int) ≤ (i : Int) + 1 ∧ (i : Int) + 1 ≤ (n : Int) := by omega
  obtain ⟨i0, hi0, hz0, hz1, hz2⟩ := info_parts info76
  have HI := Lib.hid hi0; clear hi0
  have HE := fun C1 hC1 off ho => delete_end rs n g cap i hn.out cur H1.out hc H2.out HC.out H3.out hi C1 hC1 off ho
  have HE := Lib.hid HE
  have HF : Hid (i * 3 + (rowsCells (rs.drop (i + 1))).length ≤ cur.size) := by
    show _ ≤ _
    rw [rowsCells_length, List.length_drop, hn.out, H2.out]; omega
  by_cases hcap : cap = i + 1
  · obtain rfl : n = i + 1 := by omega
    subst hcap
    have hd : rs.drop (i + 1) = [] := List.drop_eq_nil_of_le (by rw [hn.out]; omega)
    rw [hd] at HE HF
    go_enter Try.func69, Try.ntmps69
    go_wp2
    go_region_law (refine step_append_row (w := w.drew) rfl (.tmp 22) (.tmp 25) 65 rfl 76 i0 3 Try.underlying65 HI.out hz1 g i (i + 1) cur H1.out (by go_simp) ⟨g, 0, none⟩ 0 0 [] (by go_simp) rfl (by simp) (by simp) (by omega) (by simpa [rowsCells] using HF.out) ?_)
    go_wp2_with ((with_reducible show wpList _ _ _ (({ dst := none, op := Op.call { callee := Callee.builtin Builtin.clear, args := _, argTypes := _ }, type := _, pos := _, after := _, guard := _ } : Oper) :: _) _ _); refine wpList_clear_row (o := ⟨none, _, _, _, _, _⟩) rfl (.tmp 31) rfl g _ _ _ _ rfl (by omega) (setRow_heap _ g cur _ 76 (0, 0) H1.out) ?cf ?_)
    case cf =>
      have h2 := H2.out
      omega
    go_ret
    have hE := HE.out cur (by simp [rowsCells]) (i * 3) (by omega)
    exact ⟨by simp, (Touch.refl _ w).drew.then hE.1, hE.2⟩
  · have hlen : (rowsCells (rs.drop (i + 1))).length = (n - (i + 1)) * 3 := by rw [rowsCells_length, List.length_drop, hn.out]
    have HL := Lib.hid hlen; clear hlen
    have HNW : Hid (∀ j u, (rowsCells (rs.drop (i + 1)))[j]? = some u → w.drew.cell? ((⟨g, (i + 1) * 3, none⟩ : Addr).add j) = some u) := by
      intro j u hu
      have hj := (List.getElem?_eq_some_iff.1 hu).1
      rw [HL.out] at hj
      rw [Addr.add_lit, cell_of_row w.drew g _ cur 76 (0, 0) H1.out]
      have e1 : rowsCells rs = rowsCells (rs.take (i + 1)) ++ rowsCells (rs.drop (i + 1)) := by rw [← rowsCells_append, List.take_append_drop]
      have e2 : (rowsCells rs)[(i + 1) * 3 + j]? = some u := by
        rw [e1, List.getElem?_append_right (by rw [rowsCells_length, List.length_take, hn.out]; omega), rowsCells_length, List.length_take, hn.out, ← hu]
        congr 1; omega
      rw [← H3.out, List.getElem?_take] at e2
      split at e2
      · simpa using e2
      · cases e2
    generalize hnw : rowsCells (rs.drop (i + 1)) = nw at *
    have HNQ := Lib.hid hnw; clear hnw
    have HON : Hid (∀ u ∈ nw, u.oneCell' = true) := by
      show ∀ u ∈ nw, _
      rw [← HNQ.out]; exact rowsCells_one _
    go_enter Try.func69, Try.ntmps69
    go_wp2
    go_region_law (refine step_append_row (w := w.drew) rfl (.tmp 22) (.tmp 25) 65 rfl 76 i0 3 Try.underlying65 HI.out hz1 g i cap cur H1.out (by go_simp) ⟨g, (i + 1) * 3, none⟩ (n - (i + 1)) (cap - (i + 1)) nw (by go_simp) HL.out HNW.out HON.out (by omega) HF.out ?_)
    go_wp2_with ((with_reducible show wpList _ _ _ (({ dst := none, op := Op.call { callee := Callee.builtin Builtin.clear, args := _, argTypes := _ }, type := _, pos := _, after := _, guard := _ } : Oper) :: _) _ _); refine wpList_clear_row (o := ⟨none, _, _, _, _, _⟩) rfl (.tmp 31) rfl g _ _ _ _ rfl (by omega) (setRow_heap _ g cur _ 76 (0, 0) H1.out) ?cf ?_)
    case cf =>
      have h2 := H2.out
      have h3 := HL.out
      simp only [List.size_toArray, List.length_append, List.length_take, List.length_drop, Array.length_toList, h2, h3]
      omega
    go_ret
    have hE := HE.out _ rfl ((i + (n - (i + 1))) * 3) (by omega)
    have e : i + (n - (i + 1)) = n - 1 := by omega
    exact ⟨by show Ending.returned (.slice (some ⟨g, 0, none⟩) (i + (n - (i + 1))) cap) = _; rw [e], (Touch.refl _ w).drew.then hE.1, hE.2⟩

theorem step_delete {P : Program} {ops : Array Oper} {o : Oper} {a : Act} {w : World} {K : Act → World → Prop} {Q : Exit → Act → World → Prop} {E : Prop}
    (hg : o.guard = none) (s x : Operand) (t k : TypeId) (hop : o.op = Op.call { callee := Callee.builtin Builtin.delete, args := #[s, x], argTypes := #[t, k] })
    (vs vx : Value) (hs : a.eval s = vs) (hx : a.eval x = vx) (v : Value) (w' : World) (hrun : (Builtin.delete_ #[t, k] o.type #[vs, vx]).run P w = .ok v w') (hK : K (a.put o.dst v) w') :
    if Region.wanted o (yielded ops a.tmps) = true then Oper.wp P o a w K Q else E := by
  have hw : Region.wanted o (yielded ops a.tmps) = true := by simp [Region.wanted, hg]
  rw [if_pos hw]
  unfold Oper.wp execOp
  simp only [hop, resolve, invoke, builtin, Sem.run_bind, Sem.run_pure, Result.andThen_ok, List.map_toArray, List.map_cons, List.map_nil, hs, hx, hrun]
  exact hK

def PT.drop (T : PT) (i : Nat) : PT := { T with rows := T.rows.eraseIdx i }

theorem PT.ok.drop {T : PT} (h : T.ok) (i : Nat) : (T.drop i).ok where
  few := by have := List.length_eraseIdx_le T.rows i; have := h.few; simp only [PT.drop]; omega
  sorted := h.sorted.sublist (List.eraseIdx_sublist _ _)
  nums r hr := h.nums r ((List.eraseIdx_sublist _ _).mem hr)
  keys := h.keys.sublist (List.eraseIdx_sublist _ _)
  wf r hr := h.wf r ((List.eraseIdx_sublist _ _).mem hr)

theorem numOf_drop : ∀ {rs : List R3}, rs.Pairwise (fun a b => a.1 ≠ b.1) → ∀ {i : Nat} {r : R3}, rs[i]? = some r → ∀ x, numOf (rs.eraseIdx i) x = if x = r.1 then none else numOf rs x := by
  intro rs
  induction rs with
  | nil => intro _ i r h; simp at h
  | cons y rs ih =>
    intro hp i r hr x
    rw [List.pairwise_cons] at hp
    cases i with
    | zero =>
      simp at hr; subst hr
      by_cases hx : x = y.1
      · subst hx
        simp only [List.eraseIdx_zero, List.tail_cons, if_true]
        unfold numOf
        rw [Option.map_eq_none_iff, List.find?_eq_none]
        intro z hz
        have := hp.1 z hz
        simp; exact fun e => this e.symm
      · have e : (y.1 == x) = false := by simp; exact fun h => hx h.symm
        simp [numOf, e, hx]
    | succ i =>
      have hr : rs[i]? = some r := by simpa using hr
      have ih := ih hp.2 hr x
      simp only [List.eraseIdx_cons_succ]
      by_cases hy : y.1 = x
      · have e : (y.1 == x) = true := by simpa using hy
        have hne : ¬ x = r.1 := by
          intro h; exact hp.1 r (List.mem_of_getElem? hr) (hy.trans h)
        simp [numOf, e, hne]
      · have e : (y.1 == x) = false := by simpa using hy
        have c : ∀ l : List R3, numOf (y :: l) x = numOf l x := fun l => by simp [numOf, e]
        rw [c, c, ih]

end Go.Proofs.Ytombofldebmaoaa
