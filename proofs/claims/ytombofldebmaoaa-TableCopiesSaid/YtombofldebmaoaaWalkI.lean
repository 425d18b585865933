/-
  drop, Delete, Shift.
-/
import Derived.Test.YtombofldebmaoaaWalkH
namespace Go.Proofs.Ytombofldebmaoaa
open Go.RowKit
set_option linter.unusedVariables false

/-- What drop gives: the row, and the table without it. -/
def Dropped (w : World) (F : Nat → Prop) (b : Nat) (T : PT) (i : Nat) (r : R3) (e : Ending) (w' : World) : Prop :=
  e = .returned (.agg #[.int .i64 r.1, .int .i64 r.2.1, .int .i64 r.2.2]) ∧ Moves w F b (T.drop i) w'

theorem owns_block {w : World} {e : TypeId} {size n g cap : Nat} {xs : List Value} (h : w.ownsRow 0 e size (.slice (some ⟨g, 0, none⟩) n cap) n xs) :
    ∃ cur, w.heap[g]? = some (.cells cur e (0, 0)) ∧ n ≤ cap ∧ cap ≤ maxLen ∧ cur.size = cap * size ∧ cur.toList.take (n * size) = xs := by
  rcases h.2 with ⟨hn, _⟩ | ⟨g', cap', cur, hn, _, hg, h1, h2, h3, h4⟩
  · cases hn
  · cases hn
    exact ⟨cur, hg, h1, h2, h3, h4⟩

theorem drop_end {w w2 w3 : World} {F : Nat → Prop} {b m g cap i : Nat} {T : PT} {kv : Value} {r : R3} (H : TabAt w F b T (.slice (some ⟨g, 0, none⟩) T.rows.length cap) m kv) (hr : T.rows[i]? = some r)
    {S : Nat → Prop} (hS : Touch S w w2) (hSm : ∀ k, S k → k = m) (hm : IMap w2 m T.next (fun x => if x = r.1 then none else numOf T.rows x))
    (ht : Touch (fun k => k = g) w2 w3) (hown : w3.ownsRow 0 76 3 (.slice (some ⟨g, 0, none⟩) (T.rows.length - 1) cap) (T.rows.length - 1) (rowsCells (T.rows.eraseIdx i))) :
    TabAt (w3.setCell ⟨b, 1, none⟩ (.slice (some ⟨g, 0, none⟩) (T.rows.length - 1) cap)) F b (T.drop i) (.slice (some ⟨g, 0, none⟩) (T.rows.length - 1) cap) m kv ∧
      Touch F w (w3.setCell ⟨b, 1, none⟩ (.slice (some ⟨g, 0, none⟩) (T.rows.length - 1) cap)) := by
  have hi : i < T.rows.length := (List.getElem?_eq_some_iff.1 hr).1
  have gb : ¬ g = b := owns_ne H.rows H.block (by decide) g rfl
  have mb : ¬ m = b := imap_ne H.map H.block
  obtain ⟨cur, hcur, _⟩ := owns_block H.rows
  have mg : ¬ m = g := imap_ne H.map hcur
  have hb3 : w3.heap[b]? = _ := ht.keeps (hS.keeps H.block (fun h => mb (hSm b h).symm)) (fun h => gb h.symm)
  have hb4 := heap_setCell_same hb3 1 (.slice (some ⟨g, 0, none⟩) (T.rows.length - 1) cap)
  have T3 : Touch F w w3 := (hS.mono (fun k _ h => by rw [hSm k h]; exact H.fm)).trans ht (fun k h => .inl (by rw [h]; exact H.fr g rfl))
  have T4 : Touch F w (w3.setCell ⟨b, 1, none⟩ (.slice (some ⟨g, 0, none⟩) (T.rows.length - 1) cap)) := T3.setCell (.inl H.fb) _
  refine ⟨⟨H.ok.drop i, hb4, ?_, ?_, ?_, H.fb, H.fm, fun k hk => H.fr k hk, H.fk, fun k hk => Nat.lt_of_lt_of_le (H.lt k hk) T4.size⟩, T4⟩
  · have e : (T.drop i).rows.length = T.rows.length - 1 := by simp [PT.drop, List.length_eraseIdx, hi]
    rw [e]
    exact owns_touch hown (touch_setCell w3 ⟨b, 1, none⟩ _) (by intro k hk; cases hk; exact gb)
  · have hm3 : IMap w3 m T.next (fun x => if x = r.1 then none else numOf T.rows x) := hm.kept (ht.block m hm.lt mg)
    have hm4 := hm3.kept ((touch_setCell w3 ⟨b, 1, none⟩ (.slice (some ⟨g, 0, none⟩) (T.rows.length - 1) cap)).block m hm3.lt mb)
    exact hm4.congr (fun x _ => numOf_drop H.ok.keys hr x)
  · refine owns_touch H.walks (S := fun k => k = m ∨ k = g ∨ k = b) ?_ ?_
    · refine ⟨T4.os, T4.tape, T4.output, T4.size, fun k hk hn => ?_⟩
      obtain ⟨X, hX⟩ : ∃ X, w.heap[k]? = some X := ⟨w.heap[k], by simp [hk]⟩
      rw [hX]
      exact (touch_setCell w3 ⟨b, 1, none⟩ _).keeps (k := k) (ht.keeps (hS.keeps hX (fun h => hn (.inl (hSm k h)))) (fun h => hn (.inr (.inl h)))) (fun h => hn (.inr (.inr h)))
    · intro k hk
      rintro (rfl | rfl | rfl)
      · rcases H.walks.2 with ⟨hn, _⟩ | ⟨g', cap', cur', hn, _, hgg, _⟩
        · rw [hn] at hk; cases hk
        · rw [hn] at hk; cases hk; exact imap_ne H.map hgg rfl
      · exact owns_ne H.walks hcur (by decide) _ hk rfl
      · exact owns_ne H.walks H.block (by decide) _ hk rfl

theorem three_set {W : World} {g : Nat} {a0 a1 a2 : Value} {e : TypeId} (h : W.heap[g]? = some (.cells #[a0, a1, a2] e (0, 0))) (v0 v1 v2 : Value) :
    Touch (fun k => k = g) W (((W.setCell ⟨g, 0, none⟩ v0).setCell ⟨g, 1, none⟩ v1).setCell ⟨g, 2, none⟩ v2) ∧
    (((W.setCell ⟨g, 0, none⟩ v0).setCell ⟨g, 1, none⟩ v1).setCell ⟨g, 2, none⟩ v2).heap[g]? = some (.cells #[v0, v1, v2] e (0, 0)) := by
  have h1 := heap_setCell_same h 0 v0
  have h2 := heap_setCell_same h1 1 v1
  have h3 := heap_setCell_same h2 2 v2
  exact ⟨((touch_setCell W ⟨g, 0, none⟩ v0).then (touch_setCell _ ⟨g, 1, none⟩ v1)).then (touch_setCell _ ⟨g, 2, none⟩ v2), h3⟩

theorem bodyPost49 {R : Ending → World → Prop} {a : Act} {W : World} {g : Nat} {v0 v1 v2 : Int} (ha : a.tmps.getD 4 undef = .pointer (some ⟨g, 0, none⟩)) (h : W.heap[g]? = some (.cells #[.int .i64 v0, .int .i64 v1, .int .i64 v2] 76 (0, 0))) (hd : a.defers = [])
    (hR : R (.returned (.agg #[.int .i64 v0, .int .i64 v1, .int .i64 v2])) W) : bodyPost Try.prog Try.f49 R .ret a W := by
  have q0 := blk_c h 0 _ rfl
  have q1 := blk_c h 1 _ rfl
  have q2 := blk_c h 2 _ rfl
  have ha' : a.tmps[4]?.getD undef = .pointer (some ⟨g, 0, none⟩) := by simpa using ha
  refine bodyPost_ret (v := .agg #[.int .i64 v0, .int .i64 v1, .int .i64 v2]) ?_ hd hR
  simp [results, Try.results49, go_sem, ha', q0, q1, q2]

set_option maxHeartbeats 400000 in
theorem f49_tab {w : World} {F : Nat → Prop} {b : Nat} {T : PT} (h : Tab w F b T) (hn : T.next < 1099511627776) {i : Nat} {r : R3} (hr : T.rows[i]? = some r) :
    Calls Try.prog 49 #[.pointer (some ⟨b, 0, none⟩), .int .i64 i] w (Dropped w F b T i r) := by
  obtain ⟨rv, m, kv, h⟩ := h
  have c1 := h.c1
  have c2 := h.c2
  have lb := h.bl
  have hi : i < T.rows.length := (List.getElem?_eq_some_iff.1 hr).1
  have hfew := h.ok.few
  obtain ⟨ao, cap, hrv, hcap, hv⟩ := h.viewR
  obtain ⟨g, hg, hF, ⟨x0, x1, x2⟩, _⟩ := hv i r hr
  have lg := h.lt g hF
  subst hg
  have HV := Lib.hid hv; clear hv
  subst hrv
  obtain ⟨cur, hcur, hc1, hc2, hc3, hc4⟩ := owns_block h.rows
  have hS : Still w (((w.alloc (.cells #[.int .i64 0, .int .i64 0, .int .i64 0] 76)).alloc (.cells #[.int .i64 r.1, .int .i64 r.2.1, .int .i64 r.2.2] 76)).drew) := (((Touch.refl _ _).alloc _).alloc _).drew
  obtain ⟨w2, hrun, hm2, ht2⟩ := (h.kept2 hS).map.drop (h.ok.wf r (List.mem_of_getElem? hr)) 0
  have mb : ¬ m = b := imap_ne h.map h.block
  have mg : ¬ m = g := imap_ne h.map hcur
  have ml := h.map.lt
  have hS2 : Touch (fun k => k = m) w w2 := (hS.mono (fun _ _ h => h.elim)).then ht2
  have hb2 : w2.heap[b]? = _ := hS2.keeps h.block (fun e => mb e.symm)
  have hg2 : w2.heap[g]? = _ := hS2.keeps hcur (fun e => mg e.symm)
  have hA : w2.heap[w.heap.size]? = some (.cells #[.int .i64 0, .int .i64 0, .int .i64 0] 76 (0, 0)) := by
    refine ht2.keeps (k := w.heap.size) ?_ (by omega)
    show ((w.alloc _).alloc _).heap[w.heap.size]? = _
    rw [Below.heap_alloc (w.alloc _) _ _ (by simp)]
    exact heap_alloc_new w _
  have hA1 : w2.heap[w.heap.size + 1]? = some (.cells #[.int .i64 r.1, .int .i64 r.2.1, .int .i64 r.2.2] 76 (0, 0)) := by
    refine ht2.keeps (k := w.heap.size + 1) ?_ (by omega)
    exact new2 w _ _
  have H69 := Lib.hid (f69_gen T.rows T.rows.length g cap i (Lib.hid rfl) cur hg2 hc1 hc3 hc2 hc4 hfew hi)
  have gb : ¬ g = b := owns_ne h.rows h.block (by decide) g rfl
  have HE := Lib.hid (fun w3 ht hown => drop_end (w3 := w3) h hr hS2 (fun _ h => h) hm2 ht hown)
  have HF := Lib.hid (⟨h.fb, h.lt⟩ : F b ∧ ∀ k, F k → k < w.heap.size)
  have HS2 := Lib.hid hS2
  have HB2 := Lib.hid hb2
  have HA := Lib.hid hA
  have HA1 := Lib.hid hA1
  have HRUN := Lib.hid hrun
  have e1 := blk_c hb2 1 _ rfl
  clear h hr hm2 ht2 hS hcur hc1 hc2 hc3 hc4 hb2 hg2 hA hA1 hrun hS2 mg
  go_enter Try.func49, Try.ntmps49
  go_wp2_with fail
  go_region_law (refine step_delete rfl (.tmp 16) (.tmp 18) 66 3 rfl _ _ (by go_simp) (by go_simp) _ w2 HRUN.out ?_)
  go_wp2_with (go_at_call 69; refine H69.out.mono ?_; rintro e w3 ⟨rfl, t3, o3⟩; have HT3 := Lib.hid t3; have HO3 := Lib.hid o3; have hb3 := t3.keeps HB2.out (fun h => gb h.symm); have ha3 := t3.keeps HA.out (by omega); have ha4 := t3.keeps HA1.out (by omega); have d1 := blk_c hb3 1 _ rfl; have z1 := blk_z hb3 1; have d2 := blk_c ha3 0 _ rfl; have d3 := blk_c ha3 1 _ rfl; have d4 := blk_c ha3 2 _ rfl; have z2 := blk_z ha3 0; have z3 := blk_z ha3 1; have z4 := blk_z ha3 2; have d5 := blk_c ha4 0 _ rfl; have d6 := blk_c ha4 1 _ rfl; have d7 := blk_c ha4 2 _ rfl; have HA3 := Lib.hid ha3; clear t3 o3 hb3 ha3 ha4)
  all_goals
    obtain ⟨hT, hTo⟩ := HE.out w3 HT3.out HO3.out
    have hb5 := (touch_setCell w3 ⟨b, 1, none⟩ (.slice (some ⟨g, 0, none⟩) (T.rows.length - 1) cap)).keeps (k := w.heap.size) HA3.out (by show ¬ w.heap.size = b; omega)
    obtain ⟨tt, hE⟩ := three_set hb5 (.int .i64 r.1) (.int .i64 r.2.1) (.int .i64 r.2.2)
    exact bodyPost49 rfl hE rfl ⟨rfl, F, ⟨_, _, _, hT.kept tt (fun k hk e => by have := HF.out.2 k hk; omega)⟩, hTo.trans tt (fun k hk => .inr (by omega)), fun _ h => .inl h⟩

end Go.Proofs.Ytombofldebmaoaa
