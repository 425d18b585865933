/-
  Walk, New, Copy.
-/
import Derived.Test.YtombofldebmaoaaWalkJ
namespace Go.Proofs.Ytombofldebmaoaa
open Go.RowKit
set_option linter.unusedVariables false

theorem info79 : (Try.prog.info? 79).map (fun i => (i.zero, i.size, i.bytes)) = some (some (.agg #[.int .i64 0, .bool false]), 2, 16) := by kernel_rfl

/-- Walk. -/
def PT.walk (T : PT) : PT × (Int × Int) := if opens T.walks = 20 then (T, (0, 9)) else ({ T with walks := T.walks ++ [(-1, false)] }, ((T.walks.length : Int), 0))

theorem walk_mid {w w1 : World} {O : Obj} {kv : Value} {b : Nat} {X : Obj} (hg : (w.alloc O).grownBy w1 kv.ownBlock) (hb : w.heap[b]? = some X) (hne : ∀ k, kv.ownBlock = some k → ¬ k = b) : w1.heap[b]? = some X := by
  have lb := World.lt_of_heap hb
  rw [hg.block b (by simp; omega) (fun e => hne b e.symm rfl)]
  exact (Below.heap_alloc w O b lb).trans hb

theorem walk_end {w w1 : World} {F : Nat → Prop} {b m : Nat} {T : PT} {rv kv : Value} {O : Obj} (H : TabAt w F b T rv m kv)
    {g cap : Nat} (hown : w1.ownsRow 0 79 2 (.slice (some ⟨g, 0, none⟩) (T.walks.length + 1) cap) (T.walks.length + 1) (walksCells T.walks ++ [.int .i64 (-1), .bool false]))
    (hgrow : (w.alloc O).grownBy w1 kv.ownBlock) (hat : kv.ownBlock = some g ∨ g = w.heap.size + 1) (hlt : g < w1.heap.size) :
    Moves w F b { T with walks := T.walks ++ [(-1, false)] } (w1.setCell ⟨b, 4, none⟩ (.slice (some ⟨g, 0, none⟩) (T.walks.length + 1) cap)) := by
  have hne := owns_ne H.walks H.block (by decide)
  have hb1 := walk_mid hgrow H.block hne
  have hb2 := heap_setCell_same hb1 4 (.slice (some ⟨g, 0, none⟩) (T.walks.length + 1) cap)
  have gb : ¬ g = b := by
    rcases hat with h | h
    · exact hne g h
    · have := H.bl; omega
  have T1 : Touch F w w1 := ((Touch.refl F w).alloc O).grown hgrow (fun i hi => .inl (H.fk i hi))
  have T2 : Touch F w (w1.setCell ⟨b, 4, none⟩ (.slice (some ⟨g, 0, none⟩) (T.walks.length + 1) cap)) := T1.setCell (.inl H.fb) _
  have TK : Touch (fun k => some k = kv.ownBlock ∨ k = b) w (w1.setCell ⟨b, 4, none⟩ (.slice (some ⟨g, 0, none⟩) (T.walks.length + 1) cap)) :=
    (((Touch.refl _ w).alloc O).grown hgrow (fun i hi => .inl (.inl hi.symm))).setCell (.inl (.inr rfl)) _
  have kk : ∀ k, kv.ownBlock = some k → ∃ cs, w.heap[k]? = some (.cells cs 79 (0, 0)) := by
    intro k hk
    rcases H.walks.2 with ⟨hn, _⟩ | ⟨g', cap', cur, hn, _, hgg, _⟩
    · rw [hn] at hk; cases hk
    · rw [hn] at hk; cases hk; exact ⟨_, hgg⟩
  refine ⟨fun i => F i ∨ i = g, ⟨rv, m, .slice (some ⟨g, 0, none⟩) (T.walks.length + 1) cap, ?_⟩, T2, ?_⟩
  · refine ⟨⟨H.ok.few, H.ok.sorted, H.ok.nums, H.ok.keys, H.ok.wf⟩, hb2, ?_, ?_, ?_, .inl H.fb, .inl H.fm, fun i hi => .inl (H.fr i hi), ?_, ?_⟩
    · refine owns_touch H.rows TK ?_
      rintro k hk (h | h)
      · obtain ⟨cs, hcs⟩ := kk k h.symm
        exact owns_ne H.rows hcs (by decide) k hk rfl
      · exact owns_ne H.rows H.block (by decide) k hk h
    · refine H.map.kept (TK.block m H.map.lt ?_)
      rintro (h | h)
      · obtain ⟨cs, hcs⟩ := kk m h.symm
        exact imap_ne H.map hcs rfl
      · exact imap_ne H.map H.block h
    · have e : walksCells (T.walks ++ [(-1, false)]) = walksCells T.walks ++ [.int .i64 (-1), .bool false] := by simp [walksCells, walkCells]
      simp only [List.length_append, List.length_cons, List.length_nil, Nat.zero_add, e]
      exact owns_touch hown (touch_setCell w1 ⟨b, 4, none⟩ _) (by intro k hk; cases hk; exact gb)
    · intro i hi
      simp [Value.ownBlock] at hi
      exact .inr hi.symm
    · rintro i (hi | rfl)
      · exact Nat.lt_of_lt_of_le (H.lt i hi) T2.size
      · simpa [World.setCell] using hlt
  · rintro i (hi | rfl)
    · exact .inl hi
    · rcases hat with h | h
      · exact .inl (H.fk _ h)
      · exact .inr (by omega)

set_option maxHeartbeats 400000 in
theorem f14_tab {w : World} {F : Nat → Prop} {b : Nat} {T : PT} (h : Tab w F b T) (hl : T.walks.length < 1099511627776) :
    Calls Try.prog 14 #[.pointer (some ⟨b, 0, none⟩)] w fun e w' => e = .returned (.tuple #[.int .i64 T.walk.2.1, .int .i64 T.walk.2.2]) ∧ Moves w F b T.walk.1 w' := by
  have H44 := Lib.hid (f44_tab h)
  have H48 := Lib.hid (f48_tab h hl)
  have HT := Lib.hid h; clear h
  by_cases ho : opens T.walks = 20
  · have e : T.walk = (T, (0, 9)) := by simp [PT.walk, ho]
    rw [e]
    rw [ho] at H48
    clear e ho
    go_enter Try.func14, Try.ntmps14
    go_wp2_with (first | (go_at_call 44; refine H44.out.mono ?_; rintro e w' ⟨rfl, rfl⟩) | (go_at_call 48; refine H48.out.mono ?_; rintro e w1 ⟨rfl, hw1⟩; have HW1 := Lib.hid hw1; clear hw1))
    go_ret2
    exact ⟨rfl, HT.out.stays HW1.out⟩
  · have e : T.walk = ({ T with walks := T.walks ++ [(-1, false)] }, ((T.walks.length : Int), 0)) := by simp [PT.walk, ho]
    rw [e]
    generalize hoo : opens T.walks = oo at *
    have ho2 : ((oo : Int) == 20) = false := beq_eq_false_iff_ne.2 (by omega)
    clear e ho hoo
    obtain ⟨i0, hi, hz0, hz1, hz2⟩ := info_parts info79
    have HI := Lib.hid hi; clear hi
    go_enter Try.func14, Try.ntmps14
    go_wp2_with (go_at_call 44; refine H44.out.mono ?_; rintro e w' ⟨rfl, rfl⟩)
    refine H48.out.mono ?_
    rintro e w1 ⟨rfl, hw1⟩
    have HW1 := Lib.hid hw1
    obtain ⟨rv, m, kv, h⟩ := HT.out.still hw1
    clear hw1
    have c4 := h.c4
    have lb := h.bl
    have HO := Lib.hid h.walks
    have HNE := Lib.hid (owns_ne h.walks h.block (by decide))
    have HB := Lib.hid h.block
    have H := Lib.hid h; clear h
    go_wp2_with (at_builtin; refine wpList_append_lies _ rfl (.tmp 13) (.tmp 15) 67 rfl 0 79 i0 (.agg #[.int .i64 0, .bool false]) 2 16 Try.underlying67 HI.out hz0 hz1 hz2 rfl (by decide) _ _ _ rfl (HO.out.alloc _) ⟨w1.heap.size, 0, none⟩ 1 1 [.int .i64 (-1), .bool false] rfl rfl (World.news_of_block (heap_alloc_new w1 _)) (by intro u hu; simp at hu; rcases hu with rfl | rfl <;> rfl) (by decide) (by unfold maxLen; omega) (by omega) (Nat.zero_le _) (w1.heap.size + 1) (by simp) ?_; intro g cap w2 hown hgrow hat hlt; have HE := Lib.hid (walk_end H.out hown hgrow hat hlt); have hB := walk_mid hgrow HB.out HNE.out; have d4 := blk_c hB 4 _ rfl; have z4 := blk_z hB 4; clear hown hgrow hat hB)
    go_ret2
    exact ⟨rfl, HE.out.after HW1.out⟩

/-- A new table. -/
def NewTab (w : World) (T : PT) (e : Ending) (w' : World) : Prop :=
  ∃ b F, e = .returned (.pointer (some ⟨b, 0, none⟩)) ∧ Tab w' F b T ∧ (∀ k, F k → w.heap.size ≤ k) ∧ Still w w'

def PT.new : PT := { rows := [], next := 0, walks := [], strict := false, frozen := false }

theorem PT.new_ok : PT.new.ok := ⟨by simp [PT.new], by simp [PT.new], by simp [PT.new], by simp [PT.new], by simp [PT.new]⟩

theorem f12_any (w : World) : Calls Try.prog 12 #[] w (NewTab w PT.new) := by
  have hmm := @run_makeMap Try.prog
  go_enter Try.func12, Try.ntmps12
  go_wp2
  go_ret
  refine ⟨w.heap.size + 1, fun k => k = w.heap.size ∨ k = w.heap.size + 1, rfl, ⟨.slice none 0 0, w.heap.size, .slice none 0 0, PT.new_ok, new2 w _ _, World.ownsRow_nil _ _ _ _, ?_, World.ownsRow_nil _ _ _ _, .inr rfl, .inl rfl, by simp [Value.ownBlock], by simp [Value.ownBlock], ?_⟩, ?_, ((Touch.refl _ _).alloc _).alloc _⟩
  · have hi := IMap.made w
    refine (hi.kept (w' := (w.alloc (.map #[] 0)).alloc (.cells #[.bool true, .slice none 0 0, .map (some w.heap.size), .int .i64 0, .slice none 0 0, .bool false, .bool false] 69)) ?_).congr (fun x _ => by rfl)
    exact Below.heap_alloc _ _ _ (by simp)
  · rintro k (rfl | rfl)
    · simp; omega
    · simp
  · rintro k (rfl | rfl) <;> omega

/-- The rows, numbered anew. -/
def renum (rs : List R3) : List R3 := rs.mapIdx (fun i r => (r.1, r.2.1, (i : Int)))

def copied (rs : List R3) : PT := { rows := renum rs, next := rs.length, walks := [], strict := false, frozen := false }

theorem renum_snoc (rs : List R3) (r : R3) : renum (rs ++ [r]) = renum rs ++ [(r.1, r.2.1, (rs.length : Int))] := by
  simp [renum, List.mapIdx_append]

theorem renum_length (rs : List R3) : (renum rs).length = rs.length := by simp [renum]

theorem renum_mem {rs : List R3} {q : R3} (h : q ∈ renum rs) : ∃ r ∈ rs, r.1 = q.1 := by
  simp only [renum, List.mem_mapIdx] at h
  obtain ⟨i, hi, rfl⟩ := h
  exact ⟨rs[i], List.getElem_mem hi, rfl⟩

set_option maxHeartbeats 400000 in
theorem f32_tab {w : World} {F : Nat → Prop} {b : Nat} {T : PT} (h : Tab w F b T) :
    Calls Try.prog 32 #[.pointer (some ⟨b, 0, none⟩)] w (NewTab w (copied T.rows)) := by
  have H44 := Lib.hid (f44_tab h)
  have HLT := Lib.hid h.lt
  have hkeys := h.ok.keys
  have hwf := h.ok.wf
  have hfew := h.ok.few
  obtain ⟨rv, m, kv, h⟩ := h
  have h1 := h.c1
  have lb := h.bl
  obtain ⟨ao, cap, rfl, hcap, hv⟩ := h.viewR
  have HV := Lib.hid hv
  clear h hv
  generalize T.rows = rs at *
  have HK := Lib.hid hkeys; clear hkeys
  have HWF := Lib.hid hwf; clear hwf
  go_enter Try.func32, Try.ntmps32
  go_wp2_with (first | (go_at_call 44; refine H44.out.mono ?_; rintro e w' ⟨rfl, rfl⟩) | (go_at_call 12; refine (f12_any _).mono ?_; rintro e w1 ⟨bx, Fx, rfl, hx, hxF, hw1⟩; have d1 := (hw1.cell (p := ⟨b, 1, none⟩) lb (fun h => h)).trans h1; have HX := Lib.hid (⟨Fx, hx, hxF, hw1⟩ : ∃ Fx, Tab w1 Fx bx PT.new ∧ (∀ k, Fx k → w.heap.size ≤ k) ∧ Still w w1); clear hx hxF hw1))
  go_loopw [14] (fun i wr => ∃ k : Nat, k ≤ rs.length ∧ i = .int .i64 k ∧ Hid (∃ Fx, Tab wr Fx bx (copied (rs.take k)) ∧ (∀ k, Fx k → w.heap.size ≤ k) ∧ Still w wr)) (fun i _ => rs.length - (intOf i).toNat)
  case atStart => exact ⟨0, Nat.zero_le _, rfl, HX.out⟩
  case round =>
    obtain ⟨k, hk, rfl, HY⟩ := hrel
    clear d1
    by_cases hlt : k < rs.length
    · obtain ⟨r, hr⟩ : ∃ r, rs[k]? = some r := ⟨rs[k], by simp [hlt]⟩
      obtain ⟨g, hg, hF, ⟨x0, x1, x2⟩, _⟩ := HV.out k r hr
      have hb := HLT.out g hF
      obtain ⟨Fx, hx, hxF, hwr⟩ := HY.out
      have x0 := (hwr.cell (p := ⟨g, _, none⟩) hb (by simp)).trans x0
      have x1 := (hwr.cell (p := ⟨g, _, none⟩) hb (by simp)).trans x1
      have x2 := (hwr.cell (p := ⟨g, _, none⟩) hb (by simp)).trans x2
      have hS : Still wr (wr.alloc (.cells #[.int .i64 r.1, .int .i64 r.2.1, .int .i64 r.2.2] 76)) := (Touch.refl _ _).alloc _
      have hlen : (copied (rs.take k)).next = k := by simp [copied]; omega
      have hlen2 : (copied (rs.take k)).rows.length = k := by simp [copied, renum_length]; omega
      have hnew : ∀ q ∈ (copied (rs.take k)).rows, q.1 ≠ r.1 := by
        intro q hq
        obtain ⟨p, hp, e⟩ := renum_mem hq
        obtain ⟨j, hj, e2⟩ := List.mem_take_iff_getElem.1 hp
        obtain ⟨hk1, e3⟩ := List.getElem?_eq_some_iff.1 hr
        have hj' : j < k := by omega
        rw [← e, ← e2, ← e3]
        exact (List.pairwise_iff_getElem.1 HK.out) j k (by omega) hk1 (by omega)
      have H47 := Lib.hid (f47_tab (hx.still hS) (by rw [hlen]; omega) (HWF.out r (List.mem_of_getElem? hr)) hnew (by rw [hlen2]; omega) (v := r.2.1))
      have HE : Hid ((copied (rs.take k)).add r.1 r.2.1 = copied (rs.take (k + 1))) := by
        show _ = _
        have e1 : rs.take (k + 1) = rs.take k ++ [r] := by rw [List.take_add_one, hr]; rfl
        have e2 : (rs.take k).length = k := by simp; omega
        unfold PT.add
        rw [e1]
        simp only [copied, renum_snoc, List.length_append, List.length_cons, List.length_nil]
      have HXF := Lib.hid hxF
      have HWR := Lib.hid (hwr.then hS)
      clear hx hxF hwr hr hS hnew hlen hlen2
      subst hg
      go_wp2_with (go_at_call 47; refine H47.out.mono ?_; rintro e w2 ⟨rfl, hw2⟩; have HW2 := Lib.hid hw2; clear hw2)
      go_roundw
      case rel =>
        refine ⟨k + 1, by omega, by go_num, ?_⟩
        obtain ⟨F2, t2, t3, t4⟩ := HW2.out
        rw [HE.out] at t2
        have sz := HWR.out.size
        refine ⟨F2, t2, fun i hi => ?_, HWR.out.trans t3 (fun i hi => .inr (HXF.out i hi))⟩
        rcases t4 i hi with h | h
        · exact HXF.out i h
        · omega
      case measure => simp [intOf]; omega
    · have HE : Hid (rs.take k = rs) := List.take_of_length_le (by omega)
      go_wp2_with fail
      go_ret
      obtain ⟨Fx, hx, hxF, hwr⟩ := HY.out
      rw [HE.out] at hx
      exact ⟨bx, Fx, rfl, hx, hxF, hwr⟩

end Go.Proofs.Ytombofldebmaoaa
