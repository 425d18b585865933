/-
  Next: the closure, IndexFunc, the method.
-/
import Derived.Test.YtombofldebmaoaaWalkE
import Derived.Deep.QuietTactic
import Derived.BigQuiet
namespace Go.Proofs.Ytombofldebmaoaa
open Go.RowKit
set_option linter.unusedVariables false

theorem f52_any (k v m : Int) (B1 B2 b g j len cap : Nat) (beh : Int) (w : World) (hj : j < len) (hl : len < 1099511627776) (l1 : B1 < w.heap.size) (l2 : B2 < w.heap.size) (l3 : b < w.heap.size) (l4 : g < w.heap.size)
    (h1 : w.cell? ⟨B1, 0, none⟩ = some (.pointer (some ⟨b, 0, none⟩))) (h2 : w.cell? ⟨B2, 0, none⟩ = some (.int .i64 j))
    (h3 : w.cell? ⟨b, 4, none⟩ = some (.slice (some ⟨g, 0, none⟩) len cap)) (h4 : w.cell? ⟨g, j * 2, none⟩ = some (.int .i64 beh)) :
    Calls Try.prog 52 #[.agg #[.int .i64 k, .int .i64 v, .int .i64 m], .pointer (some ⟨B1, 0, none⟩), .pointer (some ⟨B2, 0, none⟩)] w fun e w' => e = .returned (.bool (decide (beh < m))) ∧ Still w w' := by
  go_enter Try.func52, Try.ntmps52
  go_wp2
  go_region
  go_wp2
  go_ret
  exact ⟨rfl, ((Touch.refl _ _).alloc _).drew⟩

def idxI (o : Option Nat) : Int := match o with | some i => (i : Int) | none => -1

theorem findIdx_take {p : R3 → Bool} {rs : List R3} {k : Nat} {r : R3} (h : (rs.take k).findIdx? p = none) (hr : rs[k]? = some r) : (p r = true → rs.findIdx? p = some k) ∧ (p r = false → (rs.take (k + 1)).findIdx? p = none) := by
  rw [List.findIdx?_eq_none_iff] at h
  obtain ⟨hlt, hk⟩ := List.getElem?_eq_some_iff.1 hr
  constructor
  · intro hp
    rw [List.findIdx?_eq_some_iff_getElem]
    refine ⟨hlt, by rw [hk]; exact hp, fun j hj => ?_⟩
    have := h (rs[j]'(by omega)) (by rw [List.mem_take_iff_getElem]; exact ⟨j, by omega, rfl⟩)
    simp [this]
  · intro hp
    rw [List.findIdx?_eq_none_iff, List.take_add_one, hr]
    intro x hx
    simp only [Option.toList_some, List.mem_append, List.mem_singleton] at hx
    rcases hx with hx | rfl
    · exact h x hx
    · exact hp

theorem f51_any {w : World} {F : Nat → Prop} (rs : List R3) (ao : Option Addr) (cap : Nat) (q1 q2 : Value) (p : R3 → Bool) (hl : rs.length ≤ 500) (hF : ∀ k, F k → k < w.heap.size)
    (hv : ∀ i r, rs[i]? = some r → ∃ g, ao = some ⟨g, 0, none⟩ ∧ F g ∧ (w.cell? ⟨g, i * 3, none⟩ = some (.int .i64 r.1) ∧ w.cell? ⟨g, i * 3 + 1, none⟩ = some (.int .i64 r.2.1) ∧ w.cell? ⟨g, i * 3 + 2, none⟩ = some (.int .i64 r.2.2)) ∧ w.frozen? ⟨g, i * 3 + 1, none⟩ = false)
    (hc : ∀ W, Still w W → ∀ k v m : Int, Calls Try.prog 52 #[.agg #[.int .i64 k, .int .i64 v, .int .i64 m], q1, q2] W fun e w' => e = .returned (.bool (p (k, v, m))) ∧ Still W w') :
    Calls Try.prog 51 #[.slice ao rs.length cap, .func (.func 52) #[] #[q1, q2]] w fun e w' => e = .returned (.int .i64 (idxI (rs.findIdx? p))) ∧ Still w w' := by
  have HV := Lib.hid hv; clear hv
  have HF := Lib.hid hF; clear hF
  have HC := Lib.hid hc; clear hc
  go_enter Try.func51, Try.ntmps51
  go_wp2_with fail
  go_loopw [8] (fun i wr => ∃ k : Nat, k ≤ rs.length ∧ i = .int .i64 k ∧ (rs.take k).findIdx? p = none ∧ Still w wr) (fun i _ => rs.length - (intOf i).toNat)
  case atStart => exact ⟨0, Nat.zero_le _, rfl, by simp, Touch.refl _ _⟩
  case round =>
    obtain ⟨k, hk, rfl, hfi, ht⟩ := hrel
    have HT := Lib.hid ht; clear ht
    have HN := Lib.hid hfi; clear hfi
    by_cases hlt : k < rs.length
    · obtain ⟨r, hr⟩ : ∃ r, rs[k]? = some r := ⟨rs[k], by simp [hlt]⟩
      obtain ⟨g, hg, hFg, ⟨x0, x1, x2⟩, _⟩ := HV.out k r hr
      have hb := HF.out g hFg
      have x0 := (HT.out.cell (p := ⟨g, _, none⟩) hb (by simp)).trans x0
      have x1 := (HT.out.cell (p := ⟨g, _, none⟩) hb (by simp)).trans x1
      have x2 := (HT.out.cell (p := ⟨g, _, none⟩) hb (by simp)).trans x2
      have HR := Lib.hid (findIdx_take HN.out hr); clear hr
      have HC1 := Lib.hid (HC.out wr HT.out r.1 r.2.1 r.2.2)
      cases hp : p r with
      | true =>
        have HE := Lib.hid (HR.out.1 hp)
        rw [hp] at HC1
        clear hp
        subst hg
        go_wp2_with (go_at_call 52; refine HC1.out.mono ?_; rintro e w1 ⟨rfl, hw1⟩; have HW1 := Lib.hid hw1; clear hw1)
        go_ret
        rw [HE.out]
        exact ⟨rfl, HT.out.then HW1.out⟩
      | false =>
        have HE := Lib.hid (HR.out.2 hp)
        rw [hp] at HC1
        clear hp
        subst hg
        go_wp2_with (go_at_call 52; refine HC1.out.mono ?_; rintro e w1 ⟨rfl, hw1⟩; have HW1 := Lib.hid hw1; clear hw1)
        go_roundw
        case rel => exact ⟨k + 1, by omega, by go_num, HE.out, HT.out.then HW1.out⟩
        case measure => simp [intOf]; omega
    · have HE : Hid (rs.findIdx? p = none) := by
        have h := HN.out
        rwa [List.take_of_length_le (by omega)] at h
      go_wp2_with fail
      go_ret
      rw [HE.out]
      exact ⟨rfl, HT.out⟩

/-- Next: the walks behind it; key, value, error. -/
def nextW (T : PT) (i : Int) : List W2 × (Int × Int × Int) :=
  if underB T.walks i then
    match T.walks[i.toNat]? with
    | some k =>
      (match T.rows.findIdx? (fun r => decide (k.1 < r.2.2)) with
      | some j => (match T.rows[j]? with
        | some r => (T.walks.set i.toNat (r.2.2, k.2), (r.1, r.2.1, 0))
        | none => (T.walks, (0, 0, 1)))
      | none => (T.walks.set i.toNat (k.1, true), (0, 0, 14)))
    | none => (T.walks, (0, 0, 1))
  else (T.walks, (0, 0, 1))

theorem TabAt.kept2 {w w' : World} {F : Nat → Prop} {b m : Nat} {T : PT} {rv kv : Value} (h : TabAt w F b T rv m kv) (ht : Still w w') : TabAt w' F b T rv m kv := h.kept ht (fun _ _ h => h)

theorem f21_tab {w : World} {F : Nat → Prop} {b : Nat} {T : PT} (h : Tab w F b T) (hl : T.walks.length < 1099511627776) (i : Int) :
    Calls Try.prog 21 #[.pointer (some ⟨b, 0, none⟩), .int .i64 i] w fun e w' => e = .returned (.tuple #[.int .i64 (nextW T i).2.1, .int .i64 (nextW T i).2.2.1, .int .i64 (nextW T i).2.2.2]) ∧ Moves w F b { T with walks := (nextW T i).1 } w' := by
  cases hu : underB T.walks i with
  | false =>
    have e : nextW T i = (T.walks, (0, 0, 1)) := by simp [nextW, hu]
    rw [e]
    have hS : Still w ((w.alloc (.cells #[.pointer (some ⟨b, 0, none⟩)] 22)).alloc (.cells #[.int .i64 i] 3)) := ((Touch.refl _ _).alloc _).alloc _
    have H50 := f50_tab (h.still hS) hl i
    rw [hu] at H50
    have H50 := Lib.hid H50
    have HM := Lib.hid (h.stays hS)
    clear hu e h hS
    go_enter Try.func21, Try.ntmps21
    go_wp2_with (go_at_call 50; refine H50.out.mono ?_; rintro e w' ⟨rfl, rfl⟩)
    go_ret3
    exact ⟨rfl, HM.out⟩
  | true =>
    obtain ⟨j, r, rfl, hr, hr2⟩ := under_true hu
    obtain ⟨beh, ov⟩ := r
    simp only at hr2; subst hr2
    have hS : Still w ((w.alloc (.cells #[.pointer (some ⟨b, 0, none⟩)] 22)).alloc (.cells #[.int .i64 j] 3)) := ((Touch.refl _ _).alloc _).alloc _
    have H50 := f50_tab (h.still hS) hl j
    rw [hu] at H50
    have H50 := Lib.hid H50
    have hj : j < T.walks.length := (List.getElem?_eq_some_iff.1 hr).1
    obtain ⟨rv, m, kv, h⟩ := h
    have hfew := h.ok.few
    obtain ⟨g, cap, hkv, hFg, hog, ⟨x0, x1⟩, z0, z1⟩ := h.viewKg hr
    obtain ⟨ao, capr, hrv, hcapr, hv⟩ := h.viewR
    have c1 := h.c1
    have c4 := h.c4
    have lb := h.bl
    have lg := h.lt g hFg
    have hgb : ¬ g = b := owns_ne h.walks h.block (by decide) g hog
    rw [hkv] at c4
    rw [hrv] at c1
    -- the closure
    have HC : Hid (∀ W, Still ((w.alloc (.cells #[.pointer (some ⟨b, 0, none⟩)] 22)).alloc (.cells #[.int .i64 j] 3)) W → ∀ k v m : Int, Calls Try.prog 52 #[.agg #[.int .i64 k, .int .i64 v, .int .i64 m], .pointer (some ⟨w.heap.size, 0, none⟩), .pointer (some ⟨w.heap.size + 1, 0, none⟩)] W fun e w' => e = .returned (.bool (decide (beh < m))) ∧ Still W w') := by
      intro W hW k v m
      have s := hW.size
      simp at s
      refine f52_any k v m w.heap.size (w.heap.size + 1) b g j T.walks.length cap beh W hj hl (by omega) (by omega) (by omega) (by omega) ?_ ?_ ?_ ?_
      · rw [hW.cell (p := ⟨w.heap.size, 0, none⟩) (by simp; omega) (fun h => h)]; simp
      · rw [hW.cell (p := ⟨w.heap.size + 1, 0, none⟩) (by simp) (fun h => h)]; simp
      · rw [hW.cell (p := ⟨b, 4, none⟩) (by show b < _; simp; omega) (fun h => h), hS.cell lb (fun h => h)]; exact c4
      · rw [hW.cell (p := ⟨g, j * 2, none⟩) (by show g < _; simp; omega) (fun h => h), hS.cell lg (fun h => h)]; exact x0
    have HV : Hid (∀ i r, T.rows[i]? = some r → ∃ g, ao = some ⟨g, 0, none⟩ ∧ F g ∧ (((w.alloc (.cells #[.pointer (some ⟨b, 0, none⟩)] 22)).alloc (.cells #[.int .i64 j] 3)).cell? ⟨g, i * 3, none⟩ = some (.int .i64 r.1) ∧ ((w.alloc (.cells #[.pointer (some ⟨b, 0, none⟩)] 22)).alloc (.cells #[.int .i64 j] 3)).cell? ⟨g, i * 3 + 1, none⟩ = some (.int .i64 r.2.1) ∧ ((w.alloc (.cells #[.pointer (some ⟨b, 0, none⟩)] 22)).alloc (.cells #[.int .i64 j] 3)).cell? ⟨g, i * 3 + 2, none⟩ = some (.int .i64 r.2.2)) ∧ ((w.alloc (.cells #[.pointer (some ⟨b, 0, none⟩)] 22)).alloc (.cells #[.int .i64 j] 3)).frozen? ⟨g, i * 3 + 1, none⟩ = false) := by
      intro i r hr
      obtain ⟨g, h1, h2, ⟨h3, h4, h5⟩, h6⟩ := hv i r hr
      have hg := h.lt g h2
      refine ⟨g, h1, h2, ⟨?_, ?_, ?_⟩, ?_⟩
      · rw [hS.cell hg (by simp)]; exact h3
      · rw [hS.cell hg (by simp)]; exact h4
      · rw [hS.cell hg (by simp)]; exact h5
      · rw [World.frozen?_of_block (hS.block g hg (by simp))]; exact h6
    have H51 := Lib.hid (f51_any (F := F) T.rows ao capr _ _ (fun r => decide (beh < r.2.2)) hfew (fun k hk => Nat.lt_of_lt_of_le (h.lt k hk) hS.size) HV.out HC.out)
    have HS := Lib.hid hS; clear hS
    cases hf : T.rows.findIdx? (fun r => decide (beh < r.2.2)) with
    | none =>
      rw [hf] at H51
      simp only [idxI] at H51
      have e : nextW T j = (T.walks.set j (beh, true), (0, 0, 14)) := by simp [nextW, hu, hr, hf]
      rw [e]
      have HK := Lib.hid (walksCells_set1 _ _ _ hr true)
      have H := Lib.hid h
      have HG := Lib.hid hog
      clear e h hr hv hu hf hog
      subst hkv hrv
      go_enter Try.func21, Try.ntmps21
      go_wp2_with (first | (go_at_call 50; refine H50.out.mono ?_; rintro e w' ⟨rfl, rfl⟩) | (go_at_call 51; refine H51.out.mono ?_; rintro e w1 ⟨rfl, hw1⟩; have HW1 := Lib.hid hw1; clear hw1))
      have s := HW1.out.size
      simp at s
      have d1 : w1.cell? ⟨w.heap.size, 0, none⟩ = some (.pointer (some ⟨b, 0, none⟩)) := by
        rw [HW1.out.cell (p := ⟨w.heap.size, 0, none⟩) (by simp; omega) (fun h => h)]; simp
      have d2 : w1.cell? ⟨w.heap.size + 1, 0, none⟩ = some (.int .i64 j) := by
        rw [HW1.out.cell (p := ⟨w.heap.size + 1, 0, none⟩) (by simp) (fun h => h)]; simp
      have d3 : w1.cell? ⟨b, 4, none⟩ = some (.slice (some ⟨g, 0, none⟩) T.walks.length cap) := by
        rw [HW1.out.cell (p := ⟨b, 4, none⟩) (by show b < _; simp; omega) (fun h => h), HS.out.cell lb (fun h => h)]; exact c4
      have d4 : w1.cell? ⟨g, j * 2 + 1, none⟩ = some (.bool false) := by
        rw [HW1.out.cell (p := ⟨g, j * 2 + 1, none⟩) (by show g < _; simp; omega) (fun h => h), HS.out.cell lg (fun h => h)]; exact x1
      have d5 : w1.frozen? ⟨g, j * 2 + 1, none⟩ = false := by
        rw [World.frozen?_of_block ((HS.out.then HW1.out).block g lg (fun h => h))]; exact z1
      have HM : Moves w F b { T with walks := T.walks.set j (beh, true) } (w1.drew.setCell ⟨g, j * 2 + 1, none⟩ (.bool true)) := by
        have t1 : Still w w1.drew := (HS.out.then HW1.out).drew
        have h1 := H.out.kept2 t1
        exact ⟨F, ⟨_, _, _, h1.setWalk HG.out (j * 2 + 1) (.bool true) _ (by simp) HK.out⟩, (t1.mono (fun _ _ h => h.elim)).setCell (.inl hFg) _, fun _ h => .inl h⟩
      have HM := Lib.hid HM
      go_region
      go_wp2
      go_ret3
      exact ⟨rfl, HM.out⟩
    | some i =>
      obtain ⟨hil, hip, _⟩ := List.findIdx?_eq_some_iff_getElem.1 hf
      obtain ⟨q, hq⟩ : ∃ q, T.rows[i]? = some q := ⟨T.rows[i], by simp [hil]⟩
      rw [hf] at H51
      simp only [idxI] at H51
      have e : nextW T j = (T.walks.set j (q.2.2, false), (q.1, q.2.1, 0)) := by simp [nextW, hu, hr, hf, hq]
      rw [e]
      have HK := Lib.hid (walksCells_set0 _ _ _ hr q.2.2)
      have H := Lib.hid h
      have HG := Lib.hid hog
      obtain ⟨gr, hgr, hFr, ⟨y0, y1, y2⟩, _⟩ := hv i q hq
      have lr := h.lt gr hFr
      have hrb : ¬ gr = b := owns_ne h.rows h.block (by decide) gr (by rw [hrv, hgr]; rfl)
      have hrg : ¬ gr = g := by
        rcases h.walks.2 with ⟨hn, _⟩ | ⟨g', cap', cur, hn, _, hgg, _⟩
        · rw [hn] at hog; cases hog
        · rw [hn] at hog; cases hog
          exact owns_ne h.rows hgg (by decide) gr (by rw [hrv, hgr]; rfl)
      clear e h hr hv hu hf hog hq hip
      subst hkv hrv hgr
      go_enter Try.func21, Try.ntmps21
      go_wp2_with (first | (go_at_call 50; refine H50.out.mono ?_; rintro e w' ⟨rfl, rfl⟩) | (go_at_call 51; refine H51.out.mono ?_; rintro e w1 ⟨rfl, hw1⟩; have HW1 := Lib.hid hw1; clear hw1))
      have s := HW1.out.size
      simp at s
      have d1 : w1.cell? ⟨w.heap.size, 0, none⟩ = some (.pointer (some ⟨b, 0, none⟩)) := by
        rw [HW1.out.cell (p := ⟨w.heap.size, 0, none⟩) (by simp; omega) (fun h => h)]; simp
      have d2 : w1.cell? ⟨w.heap.size + 1, 0, none⟩ = some (.int .i64 j) := by
        rw [HW1.out.cell (p := ⟨w.heap.size + 1, 0, none⟩) (by simp) (fun h => h)]; simp
      have d3 : w1.cell? ⟨b, 4, none⟩ = some (.slice (some ⟨g, 0, none⟩) T.walks.length cap) := by
        rw [HW1.out.cell (p := ⟨b, 4, none⟩) (by show b < _; simp; omega) (fun h => h), HS.out.cell lb (fun h => h)]; exact c4
      have d4 : w1.cell? ⟨g, j * 2, none⟩ = some (.int .i64 beh) := by
        rw [HW1.out.cell (p := ⟨g, j * 2, none⟩) (by show g < _; simp; omega) (fun h => h), HS.out.cell lg (fun h => h)]; exact x0
      have d5 : w1.frozen? ⟨g, j * 2, none⟩ = false := by
        rw [World.frozen?_of_block ((HS.out.then HW1.out).block g lg (fun h => h))]; exact z0
      have d6 : w1.cell? ⟨b, 1, none⟩ = some (.slice (some ⟨gr, 0, none⟩) T.rows.length capr) := by
        rw [HW1.out.cell (p := ⟨b, 1, none⟩) (by show b < _; simp; omega) (fun h => h), HS.out.cell lb (fun h => h)]; exact c1
      have d7 : w1.cell? ⟨gr, i * 3, none⟩ = some (.int .i64 q.1) := by
        rw [HW1.out.cell (p := ⟨gr, i * 3, none⟩) (by show gr < _; simp; omega) (fun h => h), HS.out.cell lr (fun h => h)]; exact y0
      have d8 : w1.cell? ⟨gr, i * 3 + 1, none⟩ = some (.int .i64 q.2.1) := by
        rw [HW1.out.cell (p := ⟨gr, i * 3 + 1, none⟩) (by show gr < _; simp; omega) (fun h => h), HS.out.cell lr (fun h => h)]; exact y1
      have d9 : w1.cell? ⟨gr, i * 3 + 2, none⟩ = some (.int .i64 q.2.2) := by
        rw [HW1.out.cell (p := ⟨gr, i * 3 + 2, none⟩) (by show gr < _; simp; omega) (fun h => h), HS.out.cell lr (fun h => h)]; exact y2
      have HM : Moves w F b { T with walks := T.walks.set j (q.2.2, false) } (w1.drew.drew.setCell ⟨g, j * 2, none⟩ (.int .i64 q.2.2)) := by
        have t1 : Still w w1.drew.drew := (HS.out.then HW1.out).drew.drew
        have h1 := H.out.kept2 t1
        exact ⟨F, ⟨_, _, _, h1.setWalk HG.out (j * 2) (.int .i64 q.2.2) _ (by simp) HK.out⟩, (t1.mono (fun _ _ h => h.elim)).setCell (.inl hFg) _, fun _ h => .inl h⟩
      have HM := Lib.hid HM
      go_region
      go_wp2
      go_region
      go_wp2
      go_outline
      go_ret3
      exact ⟨rfl, HM.out⟩

end Go.Proofs.Ytombofldebmaoaa
