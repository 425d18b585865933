/-
  The reference's table: Begin, Next, out, Delete, Shift, Copy.
-/
import Derived.Test.YtombofldebmaoaaRefB
namespace Go.Proofs.Ytombofldebmaoaa
open Go.RowKit
set_option linter.unusedVariables false

/-- Begin. -/
def PT.begin (R : PT) : PT × (Int × Int) := if 20 ≤ opens R.walks then (R, (0, 9)) else ({ R with walks := R.walks ++ [(0, false)] }, ((R.walks.length : Int), 0))

theorem begin_endR {w6 w5 : World} {F : Nat → Prop} {b : Nat} {R : PT} {rv kv : Value} {O : Obj} (H5 : RefAt w5 F b R rv kv) {g6 cap6 : Nat}
    (hown : w6.ownsRow 0 92 2 (.slice (some ⟨g6, 0, none⟩) (R.walks.length + 1) cap6) (R.walks.length + 1) (walksCells R.walks ++ [.int .i64 0, .bool false]))
    (hgrow : (w5.alloc O).grownBy w6 kv.ownBlock) (hat : kv.ownBlock = some g6 ∨ g6 = w5.heap.size + 1) :
    RMoves w5 F b { R with walks := R.walks ++ [(0, false)] } (w6.setCell ⟨b, 4, none⟩ (.slice (some ⟨g6, 0, none⟩) (R.walks.length + 1) cap6)) := by
  have T6 : Touch (ownOf kv) w5 w6 := ((Touch.refl _ w5).alloc O).grown hgrow (fun i hi => .inl hi)
  refine H5.newWalks T6 (R.walks ++ [(0, false)]) ?_ ?_
  · have e : walksCells (R.walks ++ [(0, false)]) = walksCells R.walks ++ [.int .i64 0, .bool false] := by rw [walksCells_append]; rfl
    rw [e, List.length_append]
    exact hown
  · intro i hi
    obtain rfl := own_slice hi
    rcases hat with h | h
    · exact .inl h
    · exact .inr (by omega)

section
variable {w : World} {F : Nat → Prop} {b : Nat} {R : PT}

set_option maxHeartbeats 1000000 in
theorem f56_ref (h : Ref w F b R) (hl : R.walks.length < 1099511627776) :
    Calls Try.prog 56 #[.pointer (some ⟨b, 0, none⟩)] w fun e w' => e = .returned (.tuple #[.int .i64 R.begin.2.1, .int .i64 R.begin.2.2]) ∧ RMoves w F b R.begin.1 w' := by
  have H63 := Lib.hid (f63_ref h)
  have HR := Lib.hid h
  obtain ⟨rv, kv, h⟩ := h
  have c4 := h.c4
  have H := Lib.hid h
  obtain ⟨ao, cap, hkv, hcap, hv⟩ := h.viewK
  have HV := Lib.hid hv
  have HO := Lib.hid h.walks
  have hbl := h.bl
  have z4 := h.z 4
  clear h hv
  obtain ⟨i0, hi, hz0, hz1, hz2⟩ := info_parts info92
  have HI := Lib.hid hi; clear hi
  obtain ⟨ks, hks⟩ : ∃ ks, R.walks = ks := ⟨_, rfl⟩
  have HKS := Lib.hid hks
  rw [hks] at hl hkv hcap HV HO
  clear hks
  subst hkv
  go_enter Try.func56, Try.ntmps56
  go_wp2_with (go_at_call 63; refine H63.out.mono ?_; rintro e w' ⟨rfl, rfl⟩)
  go_loopw [4, 5] (fun n i wr => ∃ q : Nat, q ≤ ks.length ∧ i = .int .i64 q ∧ n = .int .i64 (opens (ks.take q)) ∧ w = wr) (fun _ i _ => ks.length - (intOf i).toNat)
  case atStart => exact ⟨0, Nat.zero_le _, rfl, by simp [opens], rfl⟩
  case round =>
    obtain ⟨q, hq, rfl, rfl, rfl⟩ := hrel
    have hle := opens_le (ks.take q)
    have hle2 : (ks.take q).length ≤ q := List.length_take_le _ _
    by_cases hlt : q < ks.length
    · obtain ⟨r, hr⟩ : ∃ r, ks[q]? = some r := ⟨ks[q], by simp [hlt]⟩
      obtain ⟨g, hg, hF, ⟨x0, x1⟩, _⟩ := HV.out q r hr
      have HRR := Lib.hid (opens_take_succ ks q r hr)
      clear hr
      subst hg
      cases hr2 : r.2
      all_goals
        rw [hr2] at x1 HRR
        go_wp2_with fail
        go_roundw
        case rel =>
          refine ⟨q + 1, by omega, by go_num, ?_, by trivial⟩
          rw [HRR.out]
          simp
        case measure => simp [intOf]; omega
    · have HE : Hid (ks.take q = ks) := List.take_of_length_le (by omega)
      rw [HE.out] at hle ⊢
      by_cases h20 : 20 ≤ opens ks
      · have e : R.begin = (R, (0, 9)) := by simp only [PT.begin, HKS.out, h20]; rfl
        have HEE := Lib.hid e
        have hd : decide ((20 : Int) ≤ (opens ks : Int)) = true := by simp; omega
        clear h20 e
        go_wp2_with fail
        go_ret2
        rw [HEE.out]
        exact ⟨rfl, HR.out.stays (Touch.refl _ _)⟩
      · have e : R.begin = ({ R with walks := R.walks ++ [(0, false)] }, ((ks.length : Int), 0)) := by simp only [PT.begin, HKS.out, h20]; rfl
        have HEE := Lib.hid e
        have hd : decide ((20 : Int) ≤ (opens ks : Int)) = false := by simp; omega
        have hm63 : ks.length + 1 ≤ maxLen := by unfold maxLen; omega
        have hone : ∀ u ∈ [Value.int .i64 0, Value.bool false], u.oneCell' = true := by intro u hu; simp at hu; rcases hu with rfl | rfl <;> rfl
        clear h20 e
        go_wp2_with (at_builtin; refine wpList_append_lies _ rfl (.tmp 34) (.tmp 36) 58 rfl 0 92 i0 (.agg #[.int .i64 0, .bool false]) 2 16 Try.underlying58 HI.out hz0 hz1 hz2 rfl (by decide) _ _ _ rfl (HO.out.alloc _) ⟨w.heap.size, 0, none⟩ 1 1 [.int .i64 0, .bool false] rfl rfl (World.news_of_block (heap_alloc_new w _)) hone (by decide) hm63 (by omega) (Nat.zero_le _) (w.heap.size + 1) (by simp) ?_; intro g6 cap6 w6 hown hgrow hat hlt6; have HE := Lib.hid (begin_endR H.out (by rw [HKS.out]; exact hown) hgrow hat); have hB := walk_mid hgrow H.out.block H.out.kb; have d4 := blk_c hB 4 _ rfl; have y4 := blk_z hB 4; clear hown hgrow hat hB)
        go_ret2
        rw [HEE.out]
        refine ⟨?_, ?_⟩
        · simp
        · have := HE.out
          rw [HKS.out] at this ⊢
          exact this

theorem touch3 (W : World) (g : Nat) (v0 v1 v2 : Value) : Touch (fun k => k = g) W (((W.setCell ⟨g, 0, none⟩ v0).setCell ⟨g, 1, none⟩ v1).setCell ⟨g, 2, none⟩ v2) :=
  ((touch_setCell W ⟨g, 0, none⟩ v0).then (touch_setCell _ ⟨g, 1, none⟩ v1)).then (touch_setCell _ ⟨g, 2, none⟩ v2)

set_option maxHeartbeats 1000000 in
theorem f57_ref (h : Ref w F b R) (hl : R.walks.length < 1099511627776) (i : Int) :
    Calls Try.prog 57 #[.pointer (some ⟨b, 0, none⟩), .int .i64 i] w fun e w' => e = .returned (.tuple #[.int .i64 (nextW R i).2.1, .int .i64 (nextW R i).2.2.1, .int .i64 (nextW R i).2.2.2]) ∧ RMoves w F b { R with walks := (nextW R i).1 } w' := by
  have H71 := Lib.hid (f71_ref h hl i)
  have HR := Lib.hid h
  cases hu : underB R.walks i with
  | false =>
    rw [hu] at H71
    have e : nextW R i = (R.walks, (0, 0, 1)) := by simp [nextW, hu]
    rw [e]
    clear e hu h
    go_enter Try.func57, Try.ntmps57
    go_wp2_with (go_at_call 71; refine H71.out.mono ?_; rintro e w' ⟨rfl, rfl⟩)
    go_ret3
    exact ⟨rfl, HR.out.stays (Touch.refl _ _)⟩
  | true =>
    rw [hu] at H71
    obtain ⟨j, r, rfl, hr, hr2⟩ := under_true hu
    obtain ⟨beh, ov⟩ := r
    simp only at hr2; subst hr2
    have hj : j < R.walks.length := (List.getElem?_eq_some_iff.1 hr).1
    obtain ⟨rv, kv, h⟩ := h
    have hfew := h.few
    have H := Lib.hid h
    obtain ⟨ao, cap, hkv, hcap, hvk⟩ := h.viewK
    obtain ⟨g, hg, hFg, ⟨x0, x1⟩, z0, z1, hog⟩ := hvk j _ hr
    obtain ⟨ar, capr, hrv, hcapr, hvr⟩ := h.viewR
    have HVR := Lib.hid hvr
    have lg := h.lt g hFg
    have lb := h.bl
    have c3 := h.c3
    have c4 := h.c4
    have HF := Lib.hid h.lt
    have HOG := Lib.hid hog
    have HRJ := Lib.hid hr
    have HU := Lib.hid hu
    subst hkv
    subst hrv
    subst hg
    clear h hvk hvr hr hu hog
    go_enter Try.func57, Try.ntmps57
    go_wp2_with (go_at_call 71; refine H71.out.mono ?_; rintro e w' ⟨rfl, rfl⟩)
    go_loopw [7, 8] (fun q p wr => ∃ k : Nat, k ≤ R.rows.length ∧ q = .int .i64 k ∧ Hid ((R.rows.take k).findIdx? (fun r => decide (beh < r.2.2)) = none) ∧ Hid (Still w wr)) (fun q _ _ => R.rows.length - (intOf q).toNat)
    case atStart => exact ⟨0, Nat.zero_le _, rfl, by show _ = _; simp, Touch.refl _ _⟩
    case round =>
      obtain ⟨k, hk, rfl, HN, HT⟩ := hrel
      have d3 := (HT.out.cell (p := ⟨b, 3, none⟩) lb (fun h => h)).trans c3
      have d4 := (HT.out.cell (p := ⟨b, 4, none⟩) lb (fun h => h)).trans c4
      have e0 := (HT.out.cell (p := ⟨g, j * 2, none⟩) lg (fun h => h)).trans x0
      have e1 := (HT.out.cell (p := ⟨g, j * 2 + 1, none⟩) lg (fun h => h)).trans x1
      have hsz := HT.out.size
      have ez0 := (World.frozen?_of_block (a := ⟨g, j * 2, none⟩) (HT.out.block g lg (fun h => h))).trans z0
      have ez1 := (World.frozen?_of_block (a := ⟨g, j * 2 + 1, none⟩) (HT.out.block g lg (fun h => h))).trans z1
      by_cases hlt : k < R.rows.length
      · obtain ⟨r, hr⟩ : ∃ r, R.rows[k]? = some r := ⟨R.rows[k], by simp [hlt]⟩
        obtain ⟨gr, hgr, hFr, ⟨y0, y1, y2⟩, _, hor⟩ := HVR.out k r hr
        have lr := HF.out gr hFr
        have y0 := (HT.out.cell (p := ⟨gr, _, none⟩) lr (by simp)).trans y0
        have y1 := (HT.out.cell (p := ⟨gr, _, none⟩) lr (by simp)).trans y1
        have y2 := (HT.out.cell (p := ⟨gr, _, none⟩) lr (by simp)).trans y2
        have HX := Lib.hid (findIdx_take HN.out hr)
        have HRK := Lib.hid hr
        clear hr hor
        subst hgr
        have hsz2 : g < wr.heap.size := by omega
        have hsz3 : b < wr.heap.size := by omega
        have hsz4 : gr < wr.heap.size := by omega
        have HW2 : Hid (Still w (wr.alloc (.cells #[.int .i64 r.1, .int .i64 r.2.1, .int .i64 r.2.2] 86)).drew) := (HT.out.alloc _).drew
        cases hp : decide (beh < r.2.2) with
        | true =>
          have HE : Hid (nextW R j = (R.walks.set j (r.2.2, false), (r.1, r.2.1, 0))) := by
            show _ = _
            have hf := HX.out.1 hp
            simp [nextW, HU.out, HRJ.out, hf, HRK.out]
          have HM : Hid (RMoves w F b { R with walks := R.walks.set j (r.2.2, false) } ((wr.setCell ⟨g, j * 2, none⟩ (.int .i64 r.2.2)).alloc (.cells #[.int .i64 r.1, .int .i64 r.2.1, .int .i64 r.2.2] 86)).drew.drew.drew) := by
            have h1 := (H.out.still HT.out).setWalk HOG.out (j * 2) (.int .i64 r.2.2) _ (by simp) (walksCells_set0 _ _ _ HRJ.out r.2.2)
            exact ⟨F, ⟨_, _, h1.still ((((Touch.refl _ _).alloc _).drew.drew.drew))⟩, (((HT.out.mono (fun _ _ h => h.elim)).setCell (.inl hFg) _).alloc _).drew.drew.drew, fun _ h => .inl h⟩
          go_wp2_with fail
          go_region
          go_wp2_with fail
          go_region
          go_wp2_with fail
          go_region
          go_wp2_with fail
          go_ret3
          rw [HE.out]
          exact ⟨rfl, HM.out⟩
        | false =>
          have HE := Lib.hid (HX.out.2 hp)
          go_wp2_with fail
          go_region
          go_wp2_with fail
          go_roundw
          case rel => exact ⟨k + 1, by omega, by go_num, HE.out, HW2.out⟩
          case measure => simp [intOf]; omega
      · have HE : Hid (nextW R j = (R.walks.set j (beh, true), (0, 0, 14))) := by
          show _ = _
          have hf := HN.out
          rw [List.take_of_length_le (by omega)] at hf
          simp [nextW, HU.out, HRJ.out, hf]
        have HM : Hid (RMoves w F b { R with walks := R.walks.set j (beh, true) } (wr.setCell ⟨g, j * 2 + 1, none⟩ (.bool true))) :=
          ⟨F, ⟨_, _, (H.out.still HT.out).setWalk HOG.out (j * 2 + 1) (.bool true) _ (by simp) (walksCells_set1 _ _ _ HRJ.out _)⟩, (HT.out.mono (fun _ _ h => h.elim)).setCell (.inl hFg) _, fun _ h => .inl h⟩
        go_wp2_with fail
        go_ret3
        rw [HE.out]
        exact ⟨rfl, HM.out⟩
end

end Go.Proofs.Ytombofldebmaoaa
