/-
  TableFull: the walk.
-/
import Derived.Test.YtombofldebmaoaaOwn
namespace Go.Proofs.Ytombofldebmaoaa
open Go.RowKit
set_option linter.unusedVariables false

def fullR (n : Int) (k : Nat) : List R3 := (List.range k).map (fun (i : Nat) => ((i : Int), n, (i : Int)))
def FT (n : Int) (k : Nat) (ws : List W2) : PT := { rows := fullR n k, next := k, walks := ws, strict := false, frozen := false }

theorem fullR_length (n : Int) (k : Nat) : (fullR n k).length = k := by simp [fullR]
theorem fullR_get (n : Int) (k i : Nat) (h : i < k) : (fullR n k)[i]? = some ((i : Int), n, (i : Int)) := by simp [fullR, h]

theorem fullR_find (n : Int) (k j : Nat) : (fullR n k).findIdx? (fun r => r.1 == (j : Int)) = if j < k then some j else none := by
  split
  · rename_i h
    rw [List.findIdx?_eq_some_iff_getElem]
    refine ⟨by rw [fullR_length]; exact h, by simp [fullR], fun i hi => ?_⟩
    simp [fullR]; omega
  · rename_i h
    rw [List.findIdx?_eq_none_iff]
    intro r hr
    simp only [fullR, List.mem_map, List.mem_range] at hr
    obtain ⟨i, hi, rfl⟩ := hr
    simp; omega

theorem full_put (n : Int) (k : Nat) (ws : List W2) (h : k < 500) : (FT n k ws).put k n = (FT n (k + 1) ws, 0) := by
  have e : (FT n k ws).rows.findIdx? (fun r => r.1 == (k : Int)) = none := by
    show (fullR n k).findIdx? _ = _
    rw [fullR_find, if_neg (by omega)]
  have e2 : ¬ (FT n k ws).rows.length = 500 := by show ¬ (fullR n k).length = 500; rw [fullR_length]; omega
  simp only [PT.put, e, if_neg e2]
  simp [FT, PT.add, fullR, List.range_succ]

theorem full_put500 (n : Int) (N : Nat) (hN : N = 500) (ws : List W2) : (FT n N ws).put (N : Int) 1 = (FT n N ws, 9) := by
  have e : (FT n N ws).rows.findIdx? (fun r => r.1 == (N : Int)) = none := by
    show (fullR n N).findIdx? _ = _
    rw [fullR_find, if_neg (by omega)]
  have e2 : (FT n N ws).rows.length = 500 := (fullR_length n N).trans hN
  simp only [PT.put, e, if_pos e2]
  simp [FT]

def reps (k : Nat) : List W2 := List.replicate k ((-1 : Int), false)
theorem opens_reps (k : Nat) : opens (reps k) = k := by simp [opens, reps]
theorem reps_length (k : Nat) : (reps k).length = k := by simp [reps]

theorem full_walk (n : Int) (N k : Nat) (h : k < 20) : (FT n N (reps k)).walk = (FT n N (reps (k + 1)), ((k : Int), 0)) := by
  unfold PT.walk
  have e : opens (FT n N (reps k)).walks = k := opens_reps k
  rw [if_neg (by rw [e]; omega)]
  simp [FT, reps, List.replicate_succ']

theorem full_walk20 (n : Int) (N k : Nat) (h : k = 20) : (FT n N (reps k)).walk = (FT n N (reps k), (0, 9)) := by
  unfold PT.walk
  have e : opens (FT n N (reps k)).walks = k := opens_reps k
  rw [if_pos (by rw [e]; exact h)]

/-- behind Put(k, 7) -/
def FT2 (n : Int) (N k : Nat) (ws : List W2) : PT := { rows := setVal (fullR n N) k 7, next := N, walks := ws, strict := false, frozen := false }
theorem full_putk (n : Int) (N k : Nat) (h : k < N) (ws : List W2) : (FT n N ws).put k 7 = (FT2 n N k ws, 0) := by
  have e : (FT n N ws).rows.findIdx? (fun r => r.1 == (k : Int)) = some k := by
    show (fullR n N).findIdx? _ = _
    rw [fullR_find, if_pos h]
  simp only [PT.put, e]
  simp [FT, FT2]

theorem findIdx_keys {rs qs : List R3} (h : rs.map (fun r => r.1) = qs.map (fun r => r.1)) (x : Int) : rs.findIdx? (fun r => r.1 == x) = qs.findIdx? (fun r => r.1 == x) := by
  have c : ∀ l : List R3, l.findIdx? (fun r => r.1 == x) = (l.map (fun r => r.1)).findIdx? (fun y => y == x) := by
    intro l; rw [List.findIdx?_map]; rfl
  rw [c, c, h]

theorem setVal_fst (rs : List R3) (i : Nat) (v : Int) : (setVal rs i v).map (fun r => r.1) = rs.map (fun r => r.1) := by
  apply List.ext_getElem?
  intro j
  rw [List.getElem?_map, List.getElem?_map, setVal_get]
  cases rs[j]? with
  | none => rfl
  | some r => by_cases h : i = j <;> simp [h]

/-- behind Delete(k) -/
def FT3 (n : Int) (N k : Nat) (ws : List W2) : PT := { rows := (setVal (fullR n N) k 7).eraseIdx k, next := N, walks := ws, strict := false, frozen := false }
theorem full_del (n : Int) (N k : Nat) (h : k < N) (ws : List W2) : (FT2 n N k ws).del k = (FT3 n N k ws, (7, 0)) := by
  have e : (FT2 n N k ws).rows.findIdx? (fun r => r.1 == (k : Int)) = some k := by
    show (setVal (fullR n N) k 7).findIdx? _ = _
    rw [findIdx_keys (setVal_fst _ _ _), fullR_find, if_pos h]
  have e2 : (FT2 n N k ws).rows[k]? = some ((k : Int), 7, (k : Int)) := by
    show (setVal (fullR n N) k 7)[k]? = _
    rw [setVal_get, fullR_get n N k h]; simp
  simp only [PT.del, e, e2]
  simp [FT2, FT3, PT.drop]

/-- behind Put(500, 1) -/
def FT4 (n : Int) (N k : Nat) (ws : List W2) : PT := { rows := (setVal (fullR n N) k 7).eraseIdx k ++ [((N : Int), 1, (N : Int))], next := N + 1, walks := ws, strict := false, frozen := false }
theorem full_put4 (n : Int) (N k : Nat) (hN : N = 500) (h : k < N) (ws : List W2) : (FT3 n N k ws).put (N : Int) 1 = (FT4 n N k ws, 0) := by
  have e : (FT3 n N k ws).rows.findIdx? (fun r => r.1 == (N : Int)) = none := by
    rw [List.findIdx?_eq_none_iff]
    intro r hr
    have h1 : r ∈ setVal (fullR n N) k 7 := (List.eraseIdx_sublist _ _).mem hr
    have h2 : r.1 ∈ (fullR n N).map (fun r => r.1) := by rw [← setVal_fst (fullR n N) k 7]; exact List.mem_map_of_mem h1
    simp only [fullR, List.map_map, List.mem_map, List.mem_range, Function.comp] at h2
    obtain ⟨i, hi, e⟩ := h2
    simp; omega
  have e2 : ¬ (FT3 n N k ws).rows.length = 500 := by
    show ¬ ((setVal (fullR n N) k 7).eraseIdx k).length = 500
    rw [List.length_eraseIdx, setVal_length, fullR_length, if_pos h]; omega
  simp only [PT.put, e, if_neg e2]
  simp [FT3, FT4, PT.add]

def FT5 (n : Int) (N k j M : Nat) : PT := { FT4 n N k (reps M) with walks := (reps M).set j (-1, true) }
theorem full_stop (j M : Nat) (h : j < M) : stopW (reps M) (j : Int) = ((reps M).set j (-1, true), 0) := by
  have e : (reps M)[j]? = some (-1, false) := by unfold reps; rw [List.getElem?_replicate, if_pos h]
  have u : underB (reps M) (j : Int) = true := by
    unfold underB
    rw [if_neg (by omega), Int.toNat_natCast, e]; rfl
  unfold stopW
  rw [if_pos u, Int.toNat_natCast, e]

theorem opens_set : ∀ (ws : List W2) (j : Nat) (b : Int), ws[j]? = some (b, false) → opens (ws.set j (b, true)) + 1 = opens ws := by
  intro ws
  induction ws with
  | nil => intro j b h; simp at h
  | cons x ws ih =>
    intro j b h
    cases j with
    | zero => simp at h; subst h; simp [opens]
    | succ j =>
      have := ih j b (by simpa using h)
      simp only [List.set_cons_succ, opens, List.filter_cons] at this ⊢
      split <;> simp_all

theorem full_walk5 (n : Int) (N k j M : Nat) (hM : M = 20) (h : j < M) : ((FT5 n N k j M).walk).2 = ((M : Int), 0) := by
  unfold PT.walk
  have e0 : (reps M)[j]? = some (-1, false) := by unfold reps; rw [List.getElem?_replicate, if_pos h]
  have e : opens (FT5 n N k j M).walks + 1 = M := (opens_set (reps M) j (-1) e0).trans (opens_reps M)
  rw [if_neg (by omega)]
  show ((((reps M).set j (-1, true)).length : Int), (0 : Int)) = _
  rw [List.length_set, reps_length]

theorem umod (m : Int) (c : Nat) (h0 : 0 < c) (h1 : c < 1000000) : ∃ K : Nat, wrap64 ((IntKind.u64.wrap m).tmod c) = K ∧ K < c := by
  have e : 0 ≤ IntKind.u64.wrap m := by rw [IntKind.wrap_u64]; omega
  obtain ⟨x, hx⟩ := Int.eq_ofNat_of_zero_le e
  rw [hx]
  refine ⟨x % c, ?_, Nat.mod_lt _ h0⟩
  have e2 : ((x : Int).tmod (c : Int)) = ((x % c : Nat) : Int) := by
    rw [Int.tmod_eq_emod_of_nonneg (by omega)]; rfl
  have := Nat.mod_lt x h0
  rw [e2]
  exact IntWalk.wrap64_in _ ⟨by omega, by omega⟩

set_option maxRecDepth 100000 in
set_option maxHeartbeats 1000000 in
theorem full_walks (n m : Int) (hn : (Lit.int .i64 n).wf = true) (hm : (Lit.int .i64 m).wf = true) (w : World) :
    Calls Try.prog 3 #[.int .i64 n, .int .i64 m] w fun e w' => e = .returned (.bool true) ∧ Still w w' := by
  obtain ⟨K, hK, hKl⟩ := umod m 500 (by omega) (by omega)
  obtain ⟨J, hJ, hJl⟩ := umod m 20 (by omega) (by omega)
  have HK : Hid (wrap64 ((IntKind.u64.wrap m).tmod 500) = K) := hK
  have HJ : Hid (wrap64 ((IntKind.u64.wrap m).tmod 20) = J) := hJ
  clear hK hJ
  go_enter Try.func3, Try.ntmps3
  go_wp2_with (go_at_call 12; refine (new_own (Touch.refl _ w)).mono ?_; rintro e x1 ⟨b, rfl, h⟩; have H := Lib.hid h; clear h)
  go_loopw [6] (fun i wr => ∃ k : Nat, k ≤ 500 ∧ i = .int .i64 k ∧ Hid (Own w wr b (FT n k []))) (fun i _ => 500 - (intOf i).toNat)
  case atStart => exact ⟨0, by omega, rfl, H.out⟩
  case round =>
    obtain ⟨k, hk, rfl, H1⟩ := hrel
    clear H
    by_cases hlt : k < 500
    · have HP := Lib.hid (full_put n k [] hlt)
      have H13 := put_own H1.out (show k < _ by omega) (show 0 < _ by omega) (wf_nat (n := k) (by omega)) n
      rw [HP.out] at H13
      have H13 := Lib.hid H13
      go_wp2_with (go_at_call 13; refine H13.out.mono ?_; rintro e x2 ⟨rfl, h⟩; have H := Lib.hid h; clear h)
      go_roundw
      case rel => exact ⟨k + 1, by omega, by go_num, H.out⟩
      case measure => simp [intOf]; omega
    · have HN : Hid (k = 500) := by show _ = _; omega
      have hge : 500 ≤ k := by omega
      clear hlt
      obtain ⟨wo, hwo⟩ : ∃ wo : World, wo = wr := ⟨_, rfl⟩
      go_wp2_with fail
      go_loopw [7, 8, 9] (fun i a c wr => ∃ q : Nat, q ≤ 20 ∧ i = .int .i64 q ∧ Hid (Own w wr b (FT n k (reps q)))) (fun i _ _ _ => 20 - (intOf i).toNat)
      case atStart => exact ⟨0, by omega, rfl, H1.out⟩
      case round =>
        obtain ⟨q, hq, rfl, H2⟩ := hrel
        by_cases hlt : q < 20
        · have HP := Lib.hid (full_walk n k q hlt)
          have H14 := walk_own H2.out (show (reps q).length < _ by rw [reps_length]; omega)
          rw [HP.out] at H14
          have H14 := Lib.hid H14
          go_wp2_with (go_at_call 14; refine H14.out.mono ?_; rintro e x2 ⟨rfl, h⟩; have H := Lib.hid h; clear h)
          go_roundw
          case rel => exact ⟨q + 1, by omega, by go_num, H.out⟩
          case measure => simp [intOf]; omega
        · have HM : Hid (q = 20) := by show _ = _; omega
          have hge2 : 20 ≤ q := by omega
          clear hlt
          have h14 := walk_own H2.out (show (reps q).length < _ by rw [reps_length]; omega)
          rw [full_walk20 n k q HM.out] at h14
          have H14 := Lib.hid h14; clear h14
          go_wp2_with fail
          refine H14.out.mono ?_
          rintro e x2 ⟨rfl, h⟩
          have H := Lib.hid h; clear h
          have h13 := put_own H.out (show k < _ by omega) (show (reps q).length < _ by rw [reps_length]; omega) (wf_nat (n := k) (by omega)) 1
          rw [full_put500 n k HN.out] at h13
          rw [show (k : Int) = 500 from by have := HN.out; omega] at h13
          have H13 := Lib.hid h13; clear h13
          go_wp2_with fail
          refine H13.out.mono ?_
          rintro e x3 ⟨rfl, h⟩
          have H := Lib.hid h; clear h
          go_wp2_with fail
          rw [HK.out]
          have h13 := put_own H.out (show k < _ by omega) (show (reps q).length < _ by rw [reps_length]; omega) (wf_nat (n := K) (by omega)) 7
          rw [full_putk n k K (by omega)] at h13
          have H13 := Lib.hid h13; clear h13
          refine H13.out.mono ?_
          rintro e x4 ⟨rfl, h⟩
          have H := Lib.hid h; clear h
          go_wp2_with fail
          have h15 := delete_own H.out (show k < _ by omega) (wf_nat (n := K) (by omega))
          rw [full_del n k K (by omega)] at h15
          have H15 := Lib.hid h15; clear h15
          refine H15.out.mono ?_
          rintro e x5 ⟨rfl, h⟩
          have H := Lib.hid h; clear h
          go_wp2_with fail
          have h13 := put_own H.out (show k < _ by omega) (show (reps q).length < _ by rw [reps_length]; omega) (wf_nat (n := k) (by omega)) 1
          rw [full_put4 n k K HN.out (by omega)] at h13
          rw [show (k : Int) = 500 from by have := HN.out; omega] at h13
          have H13 := Lib.hid h13; clear h13
          refine H13.out.mono ?_
          rintro e x6 ⟨rfl, h⟩
          have H := Lib.hid h; clear h
          go_wp2_with fail
          rw [HJ.out]
          have h16 := stop_own H.out (show (reps q).length < _ by rw [reps_length]; omega) (J : Int)
          rw [show (FT4 n k K (reps q)).walks = reps q from rfl, full_stop J q (by omega)] at h16
          have H16 := Lib.hid h16; clear h16
          refine H16.out.mono ?_
          rintro e x7 ⟨rfl, h⟩
          have H : Hid (Own w x7 b (FT5 n k K J q)) := h; clear h
          go_wp2_with fail
          have h14 := walk_own H.out (show ((reps q).set J (-1, true)).length < _ by rw [List.length_set, reps_length]; omega)
          rw [full_walk5 n k K J q HM.out (by omega)] at h14
          rw [show (q : Int) = 20 from by have := HM.out; omega] at h14
          have H14 := Lib.hid h14; clear h14
          refine H14.out.mono ?_
          rintro e x8 ⟨rfl, h⟩
          have H := Lib.hid h; clear h
          go_wp2_with fail
          refine (sane_any _).mono ?_
          rintro e x9 ⟨rfl, hs⟩
          have HS := Lib.hid hs; clear hs
          go_wp2_with fail
          go_ret
          exact ⟨rfl, H.out.touch.then HS.out⟩

end Go.Proofs.Ytombofldebmaoaa
