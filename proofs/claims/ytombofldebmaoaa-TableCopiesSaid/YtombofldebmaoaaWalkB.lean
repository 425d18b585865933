/-
  The binary search over the rows' numbers; the index of a key.
-/
import Derived.Test.YtombofldebmaoaaWalkA
namespace Go.Proofs.Ytombofldebmaoaa
open Go.RowKit
set_option linter.unusedVariables false

/-- How many rows have a number below n. -/
def cntLt (rs : List R3) (n : Int) : Nat := (rs.filter (fun r => r.2.2 < n)).length

theorem cntLt_le (rs : List R3) (n : Int) : cntLt rs n ≤ rs.length := List.length_filter_le _ _

theorem cntLt_zero (n : Int) : ∀ (rs : List R3), (∀ r ∈ rs, n ≤ r.2.2) → cntLt rs n = 0 := by
  intro rs h
  unfold cntLt
  rw [List.length_eq_zero_iff, List.filter_eq_nil_iff]
  intro r hr
  have := h r hr
  simp; omega

theorem cntLt_iff (n : Int) : ∀ (rs : List R3), rs.Pairwise (fun a b => a.2.2 < b.2.2) → ∀ h r, rs[h]? = some r → (r.2.2 < n ↔ h < cntLt rs n) := by
  intro rs
  induction rs with
  | nil => intro _ h r hr; simp at hr
  | cons x rs ih =>
    intro hs h r hr
    rw [List.pairwise_cons] at hs
    by_cases hx : x.2.2 < n
    · have e : cntLt (x :: rs) n = cntLt rs n + 1 := by simp [cntLt, hx]
      cases h with
      | zero => simp at hr; subst hr; simp [e, hx]
      | succ h =>
        rw [e, ih hs.2 h r (by simpa using hr)]; omega
    · have e : cntLt (x :: rs) n = 0 := by
        refine cntLt_zero n _ fun y hy => ?_
        rcases List.mem_cons.1 hy with rfl | hy
        · omega
        · have := hs.1 y hy; omega
      rw [e]
      have hr' : r ∈ x :: rs := List.mem_of_getElem? hr
      rcases List.mem_cons.1 hr' with rfl | hy
      · omega
      · have := hs.1 r hy; omega

theorem f68_any (k v m n : Int) (w : World) (hm0 : 0 ≤ m) (hm1 : m < 4611686018427387904) (hn0 : 0 ≤ n) (hn1 : n < 4611686018427387904) :
    Calls Try.prog 68 #[.agg #[.int .i64 k, .int .i64 v, .int .i64 m], .int .i64 n] w fun e w' => e = .returned (.int .i64 (m - n)) ∧ Still w w' := by
  go_enter Try.func68, Try.ntmps68
  go_wp2
  go_ret
  exact ⟨rfl, (Touch.refl _ _).alloc _⟩

theorem f67_gen {w : World} {F : Nat → Prop} (rs : List R3) (C : Nat) (ao : Option Addr) (cap : Nat) (n : Int) (hn0 : 0 ≤ n) (hn1 : n < 4611686018427387904)
    (hl : rs.length ≤ 500) (hcl : C ≤ rs.length) (hI : ∀ h r, rs[h]? = some r → (r.2.2 < n ↔ h < C)) (hnum : ∀ r ∈ rs, 0 ≤ r.2.2 ∧ r.2.2 < 4611686018427387904) (hF : ∀ k, F k → k < w.heap.size)
    (hv : ∀ i r, rs[i]? = some r → ∃ g, ao = some ⟨g, 0, none⟩ ∧ F g ∧ (w.cell? ⟨g, i * 3, none⟩ = some (.int .i64 r.1) ∧ w.cell? ⟨g, i * 3 + 1, none⟩ = some (.int .i64 r.2.1) ∧ w.cell? ⟨g, i * 3 + 2, none⟩ = some (.int .i64 r.2.2)) ∧ w.frozen? ⟨g, i * 3 + 1, none⟩ = false) :
    Calls Try.prog 67 #[.slice ao rs.length cap, .int .i64 n, .func (.func 68) #[] #[]] w fun e w' => (∃ f : Bool, e = .returned (.tuple #[.int .i64 (C), .bool f])) ∧ Still w w' := by
  have HV := Lib.hid hv; clear hv
  have HF := Lib.hid hF; clear hF
  have HN := Lib.hid hnum; clear hnum
  have HI := Lib.hid hI; clear hI
  go_enter Try.func67, Try.ntmps67
  go_wp2_with fail
  go_loopw [9, 10] (fun i j wr => ∃ a c : Nat, a ≤ C ∧ C ≤ c ∧ c ≤ rs.length ∧ i = .int .i64 a ∧ j = .int .i64 c ∧ Still w wr) (fun i j _ => (intOf j).toNat - (intOf i).toNat)
  case atStart => exact ⟨0, rs.length, Nat.zero_le _, hcl, Nat.le_refl _, rfl, rfl, Touch.refl _ _⟩
  case round =>
    obtain ⟨a, c, ha, hc, hcl2, rfl, rfl, ht⟩ := hrel
    have HT := Lib.hid ht; clear ht
    by_cases hlt : a < c
    · obtain ⟨r, hr⟩ : ∃ r, rs[(a + c) / 2]? = some r := ⟨rs[(a + c) / 2], by rw [List.getElem?_eq_getElem (by omega)]⟩
      obtain ⟨g, hg, hFg, ⟨h0, h1, h2⟩, _⟩ := HV.out _ r hr
      have hb := HF.out g hFg
      have hn := HN.out r (List.mem_of_getElem? hr)
      have hi := HI.out _ r hr
      have h0 := (HT.out.cell (p := ⟨g, (a + c) / 2 * 3, none⟩) hb (by simp)).trans h0
      have h1 := (HT.out.cell (p := ⟨g, (a + c) / 2 * 3 + 1, none⟩) hb (by simp)).trans h1
      have h2 := (HT.out.cell (p := ⟨g, (a + c) / 2 * 3 + 2, none⟩) hb (by simp)).trans h2
      obtain ⟨hn2, hn3⟩ := hn
      have HI2 := Lib.hid hi; clear hi hr
      subst hg
      go_wp2_with (go_at_call 68; refine (f68_any _ _ _ _ _ (by omega) (by omega) (by omega) (by omega)).mono ?_; rintro e w1 ⟨rfl, hw1⟩; have HW1 := Lib.hid hw1; clear hw1)
      · go_roundw
        case rel =>
          have h5 : r.2.2 < n := by omega
          have h6 := HI2.out.1 h5
          exact ⟨(a + c) / 2 + 1, c, by omega, by omega, by omega, by go_num, rfl, HT.out.then HW1.out⟩
        case measure => simp [intOf]; omega
      · go_roundw
        case rel =>
          have h5 : ¬ r.2.2 < n := by omega
          have h6 : ¬ (a + c) / 2 < C := fun h => h5 (HI2.out.2 h)
          exact ⟨a, (a + c) / 2, by omega, by omega, by omega, rfl, by go_num, HT.out.then HW1.out⟩
        case measure => simp [intOf]; omega
    · obtain rfl : C = a := by omega
      by_cases hx : C < rs.length
      · obtain ⟨r, hr⟩ : ∃ r, rs[C]? = some r := ⟨rs[C], by rw [List.getElem?_eq_getElem (by omega)]⟩
        obtain ⟨g, hg, hFg, ⟨h0, h1, h2⟩, _⟩ := HV.out _ r hr
        have hb := HF.out g hFg
        have hn := HN.out r (List.mem_of_getElem? hr)
        have h0 := (HT.out.cell (p := ⟨g, C * 3, none⟩) hb (by simp)).trans h0
        have h1 := (HT.out.cell (p := ⟨g, C * 3 + 1, none⟩) hb (by simp)).trans h1
        have h2 := (HT.out.cell (p := ⟨g, C * 3 + 2, none⟩) hb (by simp)).trans h2
        obtain ⟨hn2, hn3⟩ := hn
        clear hr
        subst hg
        go_wp2_with (go_at_call 68; refine (f68_any _ _ _ _ _ (by omega) (by omega) (by omega) (by omega)).mono ?_; rintro e w1 ⟨rfl, hw1⟩; have HW1 := Lib.hid hw1; clear hw1)
        go_ret2
        exact ⟨⟨_, rfl⟩, HT.out.then HW1.out⟩
      · go_wp2
        go_ret2
        exact ⟨⟨_, rfl⟩, HT.out⟩

/-- The index of a key; -1 where it is not there. -/
def atI (rs : List R3) (k : Int) : Int := match rs.findIdx? (fun r => r.1 == k) with | some i => (i : Int) | none => -1

theorem atI_ge (rs : List R3) (k : Int) : -1 ≤ atI rs k ∧ atI rs k < rs.length := by
  unfold atI
  cases h : rs.findIdx? (fun r => r.1 == k) with
  | none => simp; omega
  | some i => have := (List.findIdx?_eq_some_iff_findIdx_eq.1 h).1; simp; omega

theorem numOf_none {rs : List R3} {k : Int} (h : numOf rs k = none) : atI rs k = -1 := by
  unfold numOf at h
  unfold atI
  have : rs.findIdx? (fun r => r.1 == k) = none := by
    rw [List.findIdx?_eq_none_iff]
    rw [Option.map_eq_none_iff, List.find?_eq_none] at h
    intro x hx; simpa using h x hx
  rw [this]

theorem find_idx (p : R3 → Bool) : ∀ (rs : List R3) (r : R3), rs.find? p = some r → ∃ i, rs.findIdx? p = some i ∧ rs[i]? = some r := by
  intro rs
  induction rs with
  | nil => intro r h; simp at h
  | cons x rs ih =>
    intro r h
    by_cases hx : p x = true
    · rw [List.find?_cons, hx] at h
      exact ⟨0, by rw [List.findIdx?_cons, hx]; rfl, by simpa using h⟩
    · have hx : p x = false := by simpa using hx
      rw [List.find?_cons, hx] at h
      obtain ⟨i, h1, h2⟩ := ih r h
      exact ⟨i + 1, by rw [List.findIdx?_cons, hx, h1]; rfl, by simpa using h2⟩

theorem sorted_get {rs : List R3} (hs : rs.Pairwise (fun a b => a.2.2 < b.2.2)) {i j : Nat} {a b : R3} (hi : rs[i]? = some a) (hj : rs[j]? = some b) (h : i < j) : a.2.2 < b.2.2 := by
  obtain ⟨p1, e1⟩ := List.getElem?_eq_some_iff.1 hi
  obtain ⟨p2, e2⟩ := List.getElem?_eq_some_iff.1 hj
  subst e1; subst e2
  exact (List.pairwise_iff_getElem.1 hs) _ _ p1 p2 h

theorem numOf_some {rs : List R3} {k n : Int} (hs : rs.Pairwise (fun a b => a.2.2 < b.2.2)) (h : numOf rs k = some n) : atI rs k = cntLt rs n ∧ ∃ r ∈ rs, r.2.2 = n ∧ r.1 = k := by
  unfold numOf at h
  obtain ⟨r, hr, rfl⟩ := Option.map_eq_some_iff.1 h
  have hk : r.1 = k := by simpa using List.find?_some hr
  have hm := List.mem_of_find?_eq_some hr
  refine ⟨?_, r, hm, rfl, hk⟩
  unfold atI
  obtain ⟨i, hf, hi⟩ := find_idx _ rs r hr
  rw [hf]
  have h1 := cntLt_iff r.2.2 rs hs i r hi
  have h2 := cntLt_le rs r.2.2
  have hlt : i < rs.length := (List.getElem?_eq_some_iff.1 hi).1
  simp only
  generalize hC : cntLt rs r.2.2 = C at *
  by_cases hc : i + 1 ≤ C
  · omega
  · by_cases hc2 : C < i
    · obtain ⟨r', hr'⟩ : ∃ r', rs[C]? = some r' := ⟨rs[C], by rw [List.getElem?_eq_getElem (by omega)]⟩
      have h3 := cntLt_iff r.2.2 rs hs _ r' hr'
      have h4 := sorted_get hs hr' hi hc2
      omega
    · omega

theorem f45_tab {w : World} {F : Nat → Prop} {b : Nat} {T : PT} (h : Tab w F b T) (hn : T.next < 1099511627776) {k : Int} (hk : (Lit.int .i64 k).wf = true) :
    Calls Try.prog 45 #[.pointer (some ⟨b, 0, none⟩), .int .i64 k] w fun e w' => e = .returned (.int .i64 (atI T.rows k)) ∧ Still w w' := by
  obtain ⟨rv, m, kv, h⟩ := h
  have h2 := h.c2
  have h1 := h.c1
  have hl := h.map.look hk
  cases hf : numOf T.rows k with
  | none =>
    rw [hf] at hl
    have HE := Lib.hid (numOf_none hf); clear hf
    go_enter Try.func45, Try.ntmps45
    go_wp2_with fail
    go_ret
    exact ⟨ret_int (by rw [HE.out]), Touch.refl _ _⟩
  | some n =>
    rw [hf] at hl
    obtain ⟨e1, r, hr, hrn, _⟩ := numOf_some h.ok.sorted hf
    have HE := Lib.hid e1; clear e1 hf
    have hb := h.ok.nums r hr
    have hb0 : 0 ≤ n := by omega
    have hb1 : n < 4611686018427387904 := by omega
    obtain ⟨ao, cap, rfl, hcap, hv⟩ := h.viewR
    have hC := f67_gen (w := w) (F := F) T.rows (cntLt T.rows n) ao cap n hb0 hb1 h.ok.few (cntLt_le _ _) (cntLt_iff n T.rows h.ok.sorted) (fun r hr => by have := h.ok.nums r hr; omega) h.lt hv
    have HC := Lib.hid hC
    clear hC hv h hrn hb
    go_enter Try.func45, Try.ntmps45
    go_wp2_with (go_at_call 67; refine HC.out.mono ?_; rintro e w1 ⟨⟨f, rfl⟩, hw1⟩; have HW1 := Lib.hid hw1; clear hw1)
    go_ret
    exact ⟨ret_int (by rw [HE.out]), HW1.out⟩

theorem f46_tab {w : World} {F : Nat → Prop} {b : Nat} {T : PT} (h : Tab w F b T) (hl : T.walks.length < 1099511627776) :
    Calls Try.prog 46 #[.pointer (some ⟨b, 0, none⟩)] w fun e w' => e = .returned (.bool (T.strict && decide (0 < opens T.walks))) ∧ Still w w' := by
  have h0 := h
  obtain ⟨rv, m, kv, h⟩ := h
  have h5 := h.c5
  have HO := Lib.hid (f48_tab h0 hl)
  clear h h0
  cases hs : T.strict with
  | false =>
    rw [hs] at h5; clear hs
    go_enter Try.func46, Try.ntmps46
    go_wp2
    go_ret
    exact ⟨rfl, Touch.refl _ _⟩
  | true =>
    rw [hs] at h5; clear hs
    go_enter Try.func46, Try.ntmps46
    go_wp2_with (go_at_call 48; refine HO.out.mono ?_; rintro e w1 ⟨rfl, hw1⟩; have HW1 := Lib.hid hw1; clear hw1)
    go_ret
    exact ⟨rfl, HW1.out⟩

end Go.Proofs.Ytombofldebmaoaa
