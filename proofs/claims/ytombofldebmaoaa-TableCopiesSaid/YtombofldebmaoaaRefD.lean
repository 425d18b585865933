/-
  The reference's table: out, Delete, Shift, Copy.
-/
import Derived.Test.YtombofldebmaoaaRefC
import Derived.Maps.AppendAt
namespace Go.Proofs.Ytombofldebmaoaa
open Go.RowKit
set_option linter.unusedVariables false

/-- append of however many elements, as a step of a region that draws. -/
theorem step_append_any {P : Program} {w : World} {ops : Array Oper} {o : Oper} {a : Act} {K : Act → World → Prop} {Q : Exit → Act → World → Prop} {E : Prop} (hgd : o.guard = none) (s x : Operand) (t : TypeId)
    (ho : o.op = .call { callee := .builtin .append, args := #[s, x], argTypes := #[t, t] })
    (e : TypeId) (i : TypeInfo) (z : Value) (size bytes : Nat) (ht : P.underlying t = some (.slice e)) (hi : P.info? e = some i) (hz : i.zero = some z)
    (hsize : i.size = size) (hby : i.bytes = bytes) (hzs : z.cells.size = size) (hsz : 0 < size)
    (v : Value) (n : Nat) (xs : List Value) (hs : a.eval s = v) (hown : w.ownsRow 0 e size v n xs)
    (ad : Addr) (m c : Nat) (news : List Value) (hx : a.eval x = .slice (some ad) m c) (hl : news.length = m * size) (hnews : ∀ j u, news[j]? = some u → w.cell? (ad.add j) = some u) (h1 : ∀ u ∈ news, u.oneCell' = true)
    (h63 : n + m ≤ maxLen) (hbytes : (n + m) * bytes ≤ 140737488355328)
    (h : ∀ ao c w', w'.ownsRow 0 e size (.slice ao (n + m) c) (n + m) (xs ++ news) → w.grownBy w' v.ownBlock → ((Value.slice ao (n + m) c).ownBlock = v.ownBlock ∨ (Value.slice ao (n + m) c).ownBlock = some w.heap.size) → K (a.put o.dst (.slice ao (n + m) c)) w') :
    if Region.wanted o (yielded ops a.tmps) = true then Oper.wp P o a w K Q else E := by
  have hw : Region.wanted o (yielded ops a.tmps) = true := by simp [Region.wanted, hgd]
  rw [if_pos hw]
  obtain ⟨v', w', hr, h2, h3, _, h5⟩ := run_append_own_at (P := P) w 0 t o.type e i z size bytes ht hi hz hsize hby hzs hsz v n xs hown ad m c news hl hnews h1 h63 hbytes (Nat.zero_le _)
  unfold Oper.wp execOp
  simp only [ho, resolve, invoke, builtin, Sem.run_bind, Sem.run_pure, Result.andThen_ok, List.map_toArray, List.map_cons, List.map_nil, hs, hx, hr]
  obtain ⟨ao, c', e⟩ : ∃ ao c', v' = .slice ao (n + m) c' := by
    rcases h2.2 with ⟨e, h0⟩ | ⟨g', cap', cur, e, _⟩
    · exact ⟨none, 0, by rw [e, h0]⟩
    · exact ⟨_, _, e⟩
  subst e
  exact h ao c' w' h2 h3 h5

theorem new3 (w : World) (A B C : Obj) : (((w.alloc A).alloc B).alloc C).drew.heap[w.heap.size + 1 + 1]? = some C := by
  have := heap_alloc_new ((w.alloc A).alloc B) C
  simpa [World.drew] using this

theorem owns_empty {w : World} {g : Nat} {e : TypeId} {size : Nat} (h : w.heap[g]? = some (.cells #[] e (0, 0))) : w.ownsRow 0 e size (.slice (some ⟨g, 0, none⟩) 0 0) 0 [] :=
  ⟨by simp, .inr ⟨g, 0, #[], rfl, Nat.zero_le _, h, Nat.le_refl _, Nat.zero_le _, by simp, by simp⟩⟩

/-- Every cell of the rows, in every world behind. -/
theorem RefAt.cellR {w : World} {F : Nat → Prop} {b : Nat} {R : PT} {kv : Value} {g cap : Nat} (h : RefAt w F b R (.slice (some ⟨g, 0, none⟩) R.rows.length cap) kv) : ∀ W, Still w W → ∀ j u, (rowsCells R.rows)[j]? = some u → W.cell? ⟨g, j, none⟩ = some u := by
  intro W hW j u hu
  obtain ⟨ao, cap', e, _, _, hv⟩ := owns_view h.rows
  obtain ⟨g', e2, hc, _, hg⟩ := hv j u hu
  simp only [Value.slice.injEq] at e
  obtain ⟨e, _, _⟩ := e
  rw [← e] at e2
  cases e2
  exact (hW.cell (p := ⟨g, j, none⟩) (h.lt g (h.fr g rfl)) (fun h => h)).trans hc

theorem pre_cells (rs : List R3) (i j : Nat) (u : Value) (h : (rowsCells (rs.take i))[j]? = some u) : (rowsCells rs)[j]? = some u := by
  have e : rowsCells rs = rowsCells (rs.take i) ++ rowsCells (rs.drop i) := by rw [← rowsCells_append, List.take_append_drop]
  rw [e, List.getElem?_append_left (List.getElem?_eq_some_iff.1 h).1]
  exact h

theorem post_cells (rs : List R3) (i j : Nat) (u : Value) (hi : i ≤ rs.length) (h : (rowsCells (rs.drop i))[j]? = some u) : (rowsCells rs)[i * 3 + j]? = some u := by
  have e : rowsCells rs = rowsCells (rs.take i) ++ rowsCells (rs.drop i) := by rw [← rowsCells_append, List.take_append_drop]
  have hl : (rowsCells (rs.take i)).length = i * 3 := by rw [rowsCells_length, List.length_take]; omega
  rw [e, List.getElem?_append_right (by omega), hl, ← h]
  congr 1; omega

theorem bodyPost70 {R : Ending → World → Prop} {a : Act} {W : World} {g : Nat} {v0 v1 v2 : Int} (ha : a.tmps.getD 4 undef = .pointer (some ⟨g, 0, none⟩)) (h : W.heap[g]? = some (.cells #[.int .i64 v0, .int .i64 v1, .int .i64 v2] 86 (0, 0))) (hd : a.defers = [])
    (hR : R (.returned (.agg #[.int .i64 v0, .int .i64 v1, .int .i64 v2])) W) : bodyPost Try.prog Try.f70 R .ret a W := by
  have q0 := blk_c h 0 _ rfl
  have q1 := blk_c h 1 _ rfl
  have q2 := blk_c h 2 _ rfl
  have ha' : a.tmps[4]?.getD undef = .pointer (some ⟨g, 0, none⟩) := by simpa using ha
  refine bodyPost_ret (v := .agg #[.int .i64 v0, .int .i64 v1, .int .i64 v2]) ?_ hd hR
  simp [results, Try.results70, go_sem, ha', q0, q1, q2]

/-- What out leaves, behind the two appends. -/
theorem out_end {w w4 w5 : World} {F : Nat → Prop} {b g cap i : Nat} {R : PT} {kv v4 v5 : Value} {z0 z1 : Obj} (H : RefAt w F b R (.slice (some ⟨g, 0, none⟩) R.rows.length cap) kv) {n1 : Nat} (hi : i < R.rows.length) (hn1 : n1 = R.rows.length - 1)
    (g4 : ((((w.alloc z0).alloc z1).alloc (.cells #[] 86)).drew).grownBy w4 (some (w.heap.size + 2))) (o4 : v4.ownBlock = some (w.heap.size + 2) ∨ v4.ownBlock = some (w.heap.size + 3))
    (g5 : w4.grownBy w5 v4.ownBlock) (o5 : v5.ownBlock = v4.ownBlock ∨ v5.ownBlock = some w4.heap.size) (own5 : w5.ownsRow 0 86 3 v5 n1 (rowsCells (R.rows.take i) ++ rowsCells (R.rows.drop (i + 1)))) :
    RMoves ((w.alloc z0).alloc z1) F b { R with rows := R.rows.eraseIdx i } (w5.setCell ⟨b, 3, none⟩ v5) ∧ (w5.setCell ⟨b, 3, none⟩ v5).heap[w.heap.size]? = some z0 ∧ (w5.setCell ⟨b, 3, none⟩ v5).heap[w.heap.size + 1]? = some z1 := by
  have s2 : ((w.alloc z0).alloc z1).heap.size = w.heap.size + 2 := by simp
  have S4 : Still ((w.alloc z0).alloc z1) w4 := (((Touch.refl _ _).alloc _).drew).grown g4 (fun k hk => by cases hk; exact .inr (by omega))
  have s4 := S4.size
  have S5 : Still ((w.alloc z0).alloc z1) w5 := S4.grown g5 (fun k hk => by
    rcases o4 with h | h
    · rw [h] at hk; cases hk; exact .inr (by omega)
    · rw [h] at hk; cases hk; exact .inr (by omega))
  have H2 := H.still (((Touch.refl _ w).alloc z0).alloc z1)
  have hl : (R.rows.eraseIdx i).length = n1 := by rw [List.length_eraseIdx_of_lt hi, hn1]
  have k0 : ((w.alloc z0).alloc z1).heap[w.heap.size]? = some z0 := by
    rw [Below.heap_alloc (w.alloc z0) _ _ (by simp)]
    exact heap_alloc_new w _
  have k1 : ((w.alloc z0).alloc z1).heap[w.heap.size + 1]? = some z1 := new2 w _ _
  have bl := H.bl
  refine ⟨?_, (touch_setCell w5 ⟨b, 3, none⟩ v5).keeps (S5.keeps k0 (fun h => h)) (by show ¬ _ = b; omega), (touch_setCell w5 ⟨b, 3, none⟩ v5).keeps (S5.keeps k1 (fun h => h)) (by show ¬ _ = b; omega)⟩
  refine H2.newRows (S5.mono (fun _ _ h => h.elim)) (R.rows.eraseIdx i) ?_ ?_ ?_
  · rw [hl, List.eraseIdx_eq_take_drop_succ, rowsCells_append]
    exact own5
  · intro k hk
    right
    have hk : v5.ownBlock = some k := hk
    rcases o5 with h | h
    · rw [h] at hk
      rcases o4 with h4 | h4
      · rw [h4] at hk; cases hk; omega
      · rw [h4] at hk; cases hk; omega
    · rw [h] at hk; cases hk; omega
  · have := H.few; omega

theorem out_fin {w w6 w7 : World} {F : Nat → Prop} {b : Nat} {R : PT} {z0 z1 : Obj} (h : RMoves ((w.alloc z0).alloc z1) F b R w6) (hF : ∀ k, F k → k < w.heap.size) (ht : Touch (fun k => k = w.heap.size) w6 w7) : RMoves w F b R w7 := by
  obtain ⟨F', h1, h2, h3⟩ := h
  have s2 : ((w.alloc z0).alloc z1).heap.size = w.heap.size + 2 := by simp
  refine ⟨F', h1.kept ht ?_, ?_, ?_⟩
  · rintro k hk rfl
    rcases h3 _ hk with h | h
    · have := hF _ h; omega
    · omega
  · exact ((((Touch.refl F w).alloc z0).alloc z1).then h2).trans ht (fun k hk => .inr (by omega))
  · intro k hk
    rcases h3 k hk with h | h
    · exact .inl h
    · exact .inr (by omega)

section
variable {w : World} {F : Nat → Prop} {b : Nat} {R : PT}

def Outed (w : World) (F : Nat → Prop) (b : Nat) (R : PT) (i : Nat) (r : R3) (e : Ending) (w' : World) : Prop :=
  e = .returned (.agg #[.int .i64 r.1, .int .i64 r.2.1, .int .i64 r.2.2]) ∧ RMoves w F b { R with rows := R.rows.eraseIdx i } w'

set_option maxHeartbeats 2000000 in
theorem f70_ref (h : Ref w F b R) {i : Nat} {r : R3} (hr : R.rows[i]? = some r) :
    Calls Try.prog 70 #[.pointer (some ⟨b, 0, none⟩), .int .i64 i] w (Outed w F b R i r) := by
  obtain ⟨rv, kv, h⟩ := h
  have c3 := h.c3
  have lb := h.bl
  have hfew := h.few
  have hi : i < R.rows.length := (List.getElem?_eq_some_iff.1 hr).1
  obtain ⟨ao, cap, hrv, hcap, hv⟩ := h.viewR
  obtain ⟨g, hg, hF, ⟨x0, x1, x2⟩, _⟩ := hv i r hr
  have lg := h.lt g hF
  subst hg
  subst hrv
  clear hv
  have HC := Lib.hid h.cellR
  have H := Lib.hid h
  have HFL := Lib.hid h.lt
  obtain ⟨n, hn⟩ : ∃ n, R.rows.length = n := ⟨_, rfl⟩
  have hl1 : (rowsCells (R.rows.take i)).length = i * 3 := by rw [rowsCells_length, List.length_take]; omega
  have hl2 : (rowsCells (R.rows.drop (i + 1))).length = (n - (i + 1)) * 3 := by rw [rowsCells_length, List.length_drop, hn]
  have HL1 := Lib.hid hl1
  have HL2 := Lib.hid hl2
  have HN := Lib.hid hn
  obtain ⟨i0, hi0, hz0, hz1, hz2⟩ := info_parts info86
  have HI := Lib.hid hi0; clear hi0
  have hic : i ≤ cap := by omega
  have hi3 : (0 : Int) ≤ (i : Int) + 1 := by omega
  rw [hn] at c3 hcap hi hfew
  clear h hl1 hl2 hn hr
  have hm1 : 0 + i ≤ maxLen := by unfold maxLen; omega
  have hm2 : 0 + i + (n - (i + 1)) ≤ maxLen := by unfold maxLen; omega
  obtain ⟨W3, hW3⟩ : ∃ W3, W3 = (((w.alloc (.cells #[.int .i64 0, .int .i64 0, .int .i64 0] 86)).alloc (.cells #[.int .i64 r.1, .int .i64 r.2.1, .int .i64 r.2.2] 86)).alloc (.cells #[] 86)).drew := ⟨_, rfl⟩
  have HS3 : Hid (Still w W3) := by rw [hW3]; exact (((Touch.refl _ _).alloc _).alloc _).alloc _ |>.drew
  have HE3 : Hid (W3.heap[w.heap.size + 1 + 1]? = some (.cells #[] 86 (0, 0))) := by
    rw [hW3]
    exact new3 w _ _ _
  have HN1 : Hid (∀ j u, (rowsCells (R.rows.take i))[j]? = some u → W3.cell? ((⟨g, 0, none⟩ : Addr).add j) = some u) := by
    intro j u hu
    rw [Addr.add_lit, Nat.zero_add]
    exact HC.out W3 HS3.out j u (pre_cells _ _ _ _ hu)
  have e3 : (((w.alloc (.cells #[.int .i64 0, .int .i64 0, .int .i64 0] 86)).alloc (.cells #[.int .i64 r.1, .int .i64 r.2.1, .int .i64 r.2.2] 86)).alloc (.cells #[] 86)).cell? ⟨b, 3, none⟩ = some (.slice (some ⟨g, 0, none⟩) n cap) :=
    ((((Touch.refl (fun _ => False) w).alloc _).alloc _).alloc _ |>.cell (p := ⟨b, 3, none⟩) lb (fun h => h)).trans c3
  have hi4 : (i : Int) ≤ (i : Int) + 1 := by omega
  have hwr : IntKind.i64.wrap ((i : Int) + 1) = (i : Int) + 1 := (IntKind.wrap_i64 _).trans (by omega)
  have hi2 : (0 : Int) ≤ (i : Int) + 1 ∧ (i : Int) + 1 ≤ (n : Int) := by omega
  subst hW3
  by_cases hcap2 : cap = i + 1
  · obtain rfl : n = i + 1 := by omega
    subst hcap2
    go_enter Try.func70, Try.ntmps70
    go_wp2_with fail
    go_region_law (first
      | (refine step_append_any rfl (.tmp 21) (.tmp 28) 57 rfl 86 i0 (.agg #[.int .i64 0, .int .i64 0, .int .i64 0]) 3 24 Try.underlying57 HI.out hz0 hz1 hz2 rfl (by decide) (.slice ao4 (0 + i) c4) (0 + i) _ (by go_simp) HO4.out ⟨g, 0, none⟩ 0 0 [] (by go_simp) (by simp) (by simp) (by simp) hm1 (by omega) ?_; intro ao5 c5 w5 own5 g5 o5; have HO5 := Lib.hid own5; have HG5 := Lib.hid g5; have HA5 := Lib.hid o5; have HS5 : Hid (Still w w5) := HS4.out.grown g5 (fun k hk => .inr (by rcases HA4.out with h | h <;> (rw [h] at hk; have e := Option.some.inj hk; simp [World.drew] at e; omega))); have d35 := (HS5.out.cell (p := ⟨b, 3, none⟩) lb (fun h => h)).trans c3; have z35 := (World.frozen?_of_block (a := ⟨b, 3, none⟩) (HS5.out.block b lb (fun h => h))).trans (H.out.z 3); clear own5 g5 o5)
      | (refine step_append_any rfl (.tmp 14) (.tmp 20) 57 rfl 86 i0 (.agg #[.int .i64 0, .int .i64 0, .int .i64 0]) 3 24 Try.underlying57 HI.out hz0 hz1 hz2 rfl (by decide) (.slice (some ⟨w.heap.size + 1 + 1, 0, none⟩) 0 0) 0 [] (by go_simp) (owns_empty HE3.out) ⟨g, 0, none⟩ i (i + 1) (rowsCells (R.rows.take i)) (by go_simp) HL1.out HN1.out (rowsCells_one _) hm1 (by omega) ?_; intro ao4 c4 w4 own4 g4 o4; have HS4 : Hid (Still w w4) := HS3.out.grown g4 (fun k hk => .inr (by have e : w.heap.size + 1 + 1 = k := Option.some.inj hk; omega)); have d34 := (HS4.out.cell (p := ⟨b, 3, none⟩) lb (fun h => h)).trans c3; have HO4 := Lib.hid own4; have HG4 := Lib.hid g4; have HA4 := Lib.hid o4; clear own4 g4 o4))
    all_goals
      have HOE := Lib.hid (out_end (n1 := i) (v4 := .slice ao4 (0 + i) c4) (v5 := .slice ao5 i c5) H.out (by rw [HN.out]; omega) (by rw [HN.out]; rfl) HG4.out (HA4.out.imp (fun h => h) (fun h => h.trans (by simp [World.drew]))) HG5.out (by simpa using HA5.out) (by
        have h := HO5.out
        have e : rowsCells (R.rows.drop (i + 1)) = [] := by rw [List.drop_of_length_le (by rw [HN.out]; omega)]; rfl
        rw [e]
        simpa using h))
      generalize w5.setCell ⟨b, 3, none⟩ (.slice ao5 i c5) = w6 at *
      obtain ⟨hrm, hq0, hq1⟩ := HOE.out
      have HRM := Lib.hid hrm
      have HQ0 := Lib.hid hq0
      have p0 := blk_c hq0 0 _ rfl; have p1 := blk_c hq0 1 _ rfl; have p2 := blk_c hq0 2 _ rfl
      have s0 := blk_z hq0 0; have s1 := blk_z hq0 1; have s2 := blk_z hq0 2
      have t0 := blk_c hq1 0 _ rfl; have t1 := blk_c hq1 1 _ rfl; have t2 := blk_c hq1 2 _ rfl
      clear hrm hq0 hq1 HOE HO5 HG5 HA5 HO4 HG4 HA4 HS5 HS4 HS3 HE3 HN1 HC
      go_wp2_with fail
      obtain ⟨tt, hE⟩ := three_set HQ0.out (.int .i64 r.1) (.int .i64 r.2.1) (.int .i64 r.2.2)
      exact bodyPost70 rfl hE rfl ⟨rfl, out_fin HRM.out HFL.out tt⟩
  · have hcap3 : i + 1 < cap := by omega
    go_enter Try.func70, Try.ntmps70
    go_wp2_with fail
    go_region_law (first
      | (refine step_append_any rfl (.tmp 21) (.tmp 28) 57 rfl 86 i0 (.agg #[.int .i64 0, .int .i64 0, .int .i64 0]) 3 24 Try.underlying57 HI.out hz0 hz1 hz2 rfl (by decide) (.slice ao4 (0 + i) c4) (0 + i) _ (by go_simp) HO4.out ⟨g, (i + 1) * 3, none⟩ (n - (i + 1)) (cap - (i + 1)) (rowsCells (R.rows.drop (i + 1))) (by go_simp) HL2.out HN2.out (rowsCells_one _) hm2 (by omega) ?_; intro ao5 c5 w5 own5 g5 o5; have HO5 := Lib.hid own5; have HG5 := Lib.hid g5; have HA5 := Lib.hid o5; have HS5 : Hid (Still w w5) := HS4.out.grown g5 (fun k hk => .inr (by rcases HA4.out with h | h <;> (rw [h] at hk; have e := Option.some.inj hk; simp [World.drew] at e; omega))); have d35 := (HS5.out.cell (p := ⟨b, 3, none⟩) lb (fun h => h)).trans c3; have z35 := (World.frozen?_of_block (a := ⟨b, 3, none⟩) (HS5.out.block b lb (fun h => h))).trans (H.out.z 3); clear own5 g5 o5)
      | (refine step_append_any rfl (.tmp 14) (.tmp 20) 57 rfl 86 i0 (.agg #[.int .i64 0, .int .i64 0, .int .i64 0]) 3 24 Try.underlying57 HI.out hz0 hz1 hz2 rfl (by decide) (.slice (some ⟨w.heap.size + 1 + 1, 0, none⟩) 0 0) 0 [] (by go_simp) (owns_empty HE3.out) ⟨g, 0, none⟩ i cap (rowsCells (R.rows.take i)) (by go_simp) HL1.out HN1.out (rowsCells_one _) hm1 (by omega) ?_; intro ao4 c4 w4 own4 g4 o4; have HS4 : Hid (Still w w4) := HS3.out.grown g4 (fun k hk => .inr (by have e : w.heap.size + 1 + 1 = k := Option.some.inj hk; omega)); have d34 := (HS4.out.cell (p := ⟨b, 3, none⟩) lb (fun h => h)).trans c3; have HO4 := Lib.hid own4; have HG4 := Lib.hid g4; have HA4 := Lib.hid o4; have HN2 : Hid (∀ j u, (rowsCells (R.rows.drop (i + 1)))[j]? = some u → w4.cell? ((⟨g, (i + 1) * 3, none⟩ : Addr).add j) = some u) := (fun j u hu => by rw [Addr.add_lit]; exact HC.out w4 HS4.out _ u (post_cells _ _ _ _ (by rw [HN.out]; omega) hu)); clear own4 g4 o4))
    all_goals
      have HOE := Lib.hid (out_end (n1 := i + (n - (i + 1))) (v4 := .slice ao4 (0 + i) c4) (v5 := .slice ao5 (i + (n - (i + 1))) c5) H.out (by rw [HN.out]; omega) (by rw [HN.out]; omega) HG4.out (HA4.out.imp (fun h => h) (fun h => h.trans (by simp [World.drew]))) HG5.out (by simpa using HA5.out) (by
        have h := HO5.out
        simpa using h))
      generalize w5.setCell ⟨b, 3, none⟩ (.slice ao5 (i + (n - (i + 1))) c5) = w6 at *
      obtain ⟨hrm, hq0, hq1⟩ := HOE.out
      have HRM := Lib.hid hrm
      have HQ0 := Lib.hid hq0
      have p0 := blk_c hq0 0 _ rfl; have p1 := blk_c hq0 1 _ rfl; have p2 := blk_c hq0 2 _ rfl
      have s0 := blk_z hq0 0; have s1 := blk_z hq0 1; have s2 := blk_z hq0 2
      have t0 := blk_c hq1 0 _ rfl; have t1 := blk_c hq1 1 _ rfl; have t2 := blk_c hq1 2 _ rfl
      clear hrm hq0 hq1 HOE HO5 HG5 HA5 HO4 HG4 HA4 HS5 HS4 HS3 HE3 HN1 HC
      go_wp2_with fail
      obtain ⟨tt, hE⟩ := three_set HQ0.out (.int .i64 r.1) (.int .i64 r.2.1) (.int .i64 r.2.2)
      exact bodyPost70 rfl hE rfl ⟨rfl, out_fin HRM.out HFL.out tt⟩
end

end Go.Proofs.Ytombofldebmaoaa
