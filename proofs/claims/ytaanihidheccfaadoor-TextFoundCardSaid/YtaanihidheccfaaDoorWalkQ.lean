/-
  The program's door: Slice.
-/
import Derived.Test.YtaanihidheccfaaDoorWalkM
import Derived.Test.YtaanihidheccfaaDoorRefG
namespace Go.Proofs.YtaanihidheccfaaDoor
open Go.Shelf Go.RowKit
set_option linter.unusedVariables false

theorem f39_bad (e i n : Int) (s : ByteArray) (hs : s.size ≤ 140737488355328) (h : ¬ (e = 0 ∨ e = 1 ∨ e = 2) ∨ 100000 < s.size) (w : World) : Calls Tryd.prog 39 #[.string s, .int .i64 e, .int .i64 i, .int .i64 n] w fun en w' => en = .returned (.tuple #[.string ⟨#[]⟩, .int .i64 1]) ∧ Below w.heap.size w w' := by
  have H47 := Lib.hid (f47one e s hs w)
  rw [asked_bad (xs := [s]) (h.imp_right fun h => ⟨s, by simp, h⟩)] at H47
  clear h
  go_enter Tryd.func39, Tryd.ntmps39
  go_wp2_with (go_at_call 47; refine H47.out.mono ?_; rintro en w2 ⟨rfl, rfl⟩)
  go_ret2
  exact ⟨rfl, (Below.refl _ _).alloc (Nat.le_refl _) _⟩
theorem f39_neg (e i n : Int) (he : e = 0 ∨ e = 1 ∨ e = 2) (s : ByteArray) (hs : s.size ≤ 100000) (hn : n < 0) (w : World) : Calls Tryd.prog 39 #[.string s, .int .i64 e, .int .i64 i, .int .i64 n] w fun en w' => en = .returned (.tuple #[.string ⟨#[]⟩, .int .i64 1]) ∧ Below w.heap.size w w' := by
  have H47 := Lib.hid (f47one e s (by omega) w)
  rw [asked_ok (xs := [s]) he (by intro x hx; simp at hx; subst hx; exact hs)] at H47
  clear he
  go_enter Tryd.func39, Tryd.ntmps39
  go_wp2_with (go_at_call 47; refine H47.out.mono ?_; rintro en w2 ⟨rfl, rfl⟩)
  go_ret2
  exact ⟨rfl, (Below.refl _ _).alloc (Nat.le_refl _) _⟩
theorem f40_bad (e i n : Int) (s : ByteArray) (hs : s.size ≤ 140737488355328) (h : ¬ (e = 0 ∨ e = 1 ∨ e = 2) ∨ 100000 < s.size) (w : World) : Calls Tryd.prog 40 #[.string s, .int .i64 e, .int .i64 i, .int .i64 n] w fun en w' => en = .returned (.tuple #[.string ⟨#[]⟩, .int .i64 1]) ∧ Below w.heap.size w w' := by
  have H51 := Lib.hid (f51one e s hs w)
  rw [badN_bad (xs := [s]) (h.imp_right fun h => ⟨s, by simp, h⟩)] at H51
  clear h
  go_enter Tryd.func40, Tryd.ntmps40
  go_wp2_with (go_at_call 51; refine H51.out.mono ?_; rintro en w2 ⟨rfl, rfl⟩)
  go_ret2
  exact ⟨rfl, (Below.refl _ _).alloc (Nat.le_refl _) _⟩
theorem f40_neg (e i n : Int) (he : e = 0 ∨ e = 1 ∨ e = 2) (s : ByteArray) (hs : s.size ≤ 100000) (hn : n < 0) (w : World) : Calls Tryd.prog 40 #[.string s, .int .i64 e, .int .i64 i, .int .i64 n] w fun en w' => en = .returned (.tuple #[.string ⟨#[]⟩, .int .i64 1]) ∧ Below w.heap.size w w' := by
  have H51 := Lib.hid (f51one e s (by omega) w)
  rw [badN_ok (xs := [s]) he (by intro x hx; simp at hx; subst hx; exact hs)] at H51
  clear he
  go_enter Tryd.func40, Tryd.ntmps40
  go_wp2_with (go_at_call 51; refine H51.out.mono ?_; rintro en w2 ⟨rfl, rfl⟩)
  go_ret2
  exact ⟨rfl, (Below.refl _ _).alloc (Nat.le_refl _) _⟩

theorem join_none (l : List (List UInt8)) : Lib.join l [] = l.flatten := by
  cases l with
  | nil => rfl
  | cons x r =>
    rw [Lib.join_cons, List.flatten_cons]
    congr 1
    unfold Lib.joinTail
    congr 1
    exact List.map_id' r

theorem take_drop_at {ps : List (List UInt8 × Int)} {k m j : Nat} {p : List UInt8 × Int} (h : ((ps.drop k).take m)[j]? = some p) : ps[k + j]? = some p := by
  rw [List.getElem?_take] at h
  split at h
  · rw [List.getElem?_drop] at h; exact h
  · cases h

theorem joinP_sub (ps : List (List UInt8 × Int)) (k m : Nat) : (joinP ((ps.drop k).take m)).length ≤ (joinP ps).length := by
  have h1 : ps = ps.take k ++ ((ps.drop k).take m ++ (ps.drop k).drop m) := by rw [List.take_append_drop, List.take_append_drop]
  have h2 : (joinP ps).length = (joinP (ps.take k ++ ((ps.drop k).take m ++ (ps.drop k).drop m))).length := by rw [← h1]
  rw [h2]
  unfold joinP
  simp only [List.map_append, List.flatten_append, List.length_append]
  omega

/-- strings.Join without a separator, over texts of characters. -/
theorem f68 (g k m c : Nat) (ps : List (List UInt8 × Int)) (hm : ps.length = m) (hc : m ≤ c) (hj : (joinP ps).length ≤ 140737488355328) (hl : m ≤ 140737488355328) (w : World) (hg : g < w.heap.size) (hcell : ∀ (j : Nat) p, ps[j]? = some p → w.cell? ⟨g, k + j, none⟩ = some (.string (bs p.1))) : Calls Tryd.prog 68 #[.slice (some ⟨g, k, none⟩) m c, .string ⟨#[]⟩] w fun en w' => en = .returned (.string (bs (joinP ps))) ∧ Below w.heap.size w w' := by
  subst hm
  have e1 : Lib.join ((ps.map fun p => bs p.1).map (·.data.toList)) (⟨#[]⟩ : ByteArray).data.toList = joinP ps := by
    show Lib.join _ [] = _
    rw [join_none, List.map_map]
    rfl
  have h := Tryd.strings_Join g k c (ps.map fun p => bs p.1) ⟨#[]⟩ w (by
    intro j x hx
    rw [List.getElem?_map] at hx
    cases hp : ps[j]? with
    | none => rw [hp] at hx; cases hx
    | some p =>
      rw [hp] at hx
      cases hx
      exact hcell j p hp) hg (by rw [List.length_map]; exact hl) (by rw [List.length_map]; exact hc) (by rw [e1]; exact hj)
  rw [List.length_map, e1] at h
  exact h
theorem f68nil (a : Option Addr) (c : Nat) (w : World) : Calls Tryd.prog 68 #[.slice a 0 c, .string ⟨#[]⟩] w fun en w' => en = .returned (.string ⟨#[]⟩) ∧ Below w.heap.size w w' :=
  (Tryd.strings_Join_none a c ⟨#[]⟩ w).mono fun _ _ h => ⟨h.1, h.2 ▸ Below.refl _ _⟩

theorem sub_min (ps : List (List UInt8 × Int)) (k m : Nat) (n : Int) (hn : 0 ≤ n) (hm : min n ((ps.length : Int) - (k : Int)) = (m : Int)) (hk : k ≤ ps.length) : (ps.drop k).take n.toNat = (ps.drop k).take m := by
  by_cases h : n ≤ (ps.length : Int) - (k : Int)
  · rw [show n.toNat = m by omega]
  · have h1 : m = ps.length - k := by omega
    rw [List.take_of_length_le (by rw [List.length_drop]; omega), List.take_of_length_le (by rw [List.length_drop]; omega)]

/-- The bytes of some characters from a place on, if the place is there. -/
def sliceO (ps : List (List UInt8 × Int)) (i n : Int) : Option (List UInt8) :=
  if place ps.length i < 0 ∨ ps.length < place ps.length i then none else some (joinP ((ps.drop (place ps.length i).toNat).take n.toNat))
theorem sliceO_none {ps : List (List UInt8 × Int)} {i n : Int} (h : place ps.length i < 0 ∨ ps.length < place ps.length i) : sliceO ps i n = none := if_pos h
theorem sliceO_some {ps : List (List UInt8 × Int)} {i n : Int} (h : ¬ (place ps.length i < 0 ∨ ps.length < place ps.length i)) : sliceO ps i n = some (joinP ((ps.drop (place ps.length i).toNat).take n.toNat)) := if_neg h
/-- A string, or an error. -/
def OptPost (w : World) (err : Int) (o : Option (List UInt8)) (en : Ending) (w' : World) : Prop :=
  (match o with
    | none => en = .returned (.tuple #[.string ⟨#[]⟩, .int .i64 err])
    | some l => en = .returned (.tuple #[.string (bs l), .int .i64 0])) ∧ Below w.heap.size w w'

set_option maxRecDepth 100000 in
set_option maxHeartbeats 1000000 in
theorem f39 (e i n : Int) (he : e = 0 ∨ e = 1 ∨ e = 2) (hwf : -9223372036854775808 ≤ i) (s : ByteArray) (hs : s.size ≤ 100000) (hn : 0 ≤ n) (w : World) (hT : Lib.Utf8Tabs 0 1 w) (h2 : 2 ≤ w.heap.size) : Calls Tryd.prog 39 #[.string s, .int .i64 e, .int .i64 i, .int .i64 n] w (OptPost w 3 (sliceO (parts e (str s)) i n)) := by
  have HG := Lib.hid (f47one e s (by omega) w)
  rw [asked_ok (xs := [s]) he (by intro x hx; simp at hx; subst hx; exact hs)] at HG
  have hA : Below w.heap.size w (w.alloc (.cells #[.string s] 9)) := (Below.refl _ _).alloc (Nat.le_refl _) _
  have HP := Lib.hid (f54 e he s (by omega) (w.alloc (.cells #[.string s] 9)) (tabs_below hA h2 hT) (by simp; omega))
  have HA := Lib.hid hA; clear hA
  have hl := parts_len e (str s)
  rw [str_len] at hl
  have hjl : (joinP (parts e (str s))).length ≤ 100000 := by unfold joinP; rw [parts_join, str_len]; exact hs
  unfold PiecesPost at HP
  clear hT
  generalize parts e (str s) = ps at *
  clear he
  by_cases hout : place ps.length i < 0 ∨ ps.length < place ps.length i
  · rw [sliceO_none hout]
    by_cases hneg : i < 0
    · have hge : i < -(ps.length : Int) := by unfold place at hout; rw [if_pos hneg] at hout; omega
      have hlt : i + (ps.length : Int) < 0 := by omega
      clear hout
      go_enter Tryd.func39, Tryd.ntmps39
      go_wp2_with (go_at_call 47; refine HG.out.mono ?_; rintro en w2 ⟨rfl, rfl⟩)
      refine HP.out.mono ?_
      rintro en w3 ⟨v, rfl, ho, hB⟩
      have HB := Lib.hid hB; clear hB
      obtain ⟨a, cap, rfl⟩ : ∃ a cap, v = .slice a ps.length cap := let ⟨a, c, h, _⟩ := owns_slice ho; ⟨a, c, h⟩
      clear ho
      go_wp2_with fail
      go_ret2
      exact ⟨rfl, HA.out.trans (HB.out.mono (by simp))⟩
    · have hge : (ps.length : Int) < i := by unfold place at hout; rw [if_neg hneg] at hout; omega
      clear hout
      go_enter Tryd.func39, Tryd.ntmps39
      go_wp2_with (go_at_call 47; refine HG.out.mono ?_; rintro en w2 ⟨rfl, rfl⟩)
      refine HP.out.mono ?_
      rintro en w3 ⟨v, rfl, ho, hB⟩
      have HB := Lib.hid hB; clear hB
      obtain ⟨a, cap, rfl⟩ : ∃ a cap, v = .slice a ps.length cap := let ⟨a, c, h, _⟩ := owns_slice ho; ⟨a, c, h⟩
      clear ho
      go_wp2_with fail
      go_ret2
      exact ⟨rfl, HA.out.trans (HB.out.mono (by simp))⟩
  · rw [sliceO_some hout]
    obtain ⟨k, hk⟩ : ∃ k : Nat, place ps.length i = k := ⟨(place ps.length i).toNat, by omega⟩
    rw [hk] at hout
    have hkl : k ≤ ps.length := by omega
    clear hout
    obtain ⟨m, hm⟩ : ∃ m : Nat, min n ((ps.length : Int) - (k : Int)) = (m : Int) := ⟨(min n ((ps.length : Int) - (k : Int))).toNat, by omega⟩
    have hm2 : k + m ≤ ps.length := by omega
    rw [hk, show ((k : Int)).toNat = k from rfl, sub_min ps k m n hn hm hkl]
    have hsl : ((ps.drop k).take m).length = m := by rw [List.length_take, List.length_drop]; omega
    have HSL := Lib.hid hsl; clear hsl
    have hkg : (k : Int) ≤ (ps.length : Int) := by omega
    by_cases hlt : k < ps.length
    · have HN : Hid (ps ≠ []) := Lib.hid (by intro h; rw [h] at hlt; simp at hlt)
      by_cases hneg : i < 0
      · have hik : i + (ps.length : Int) = (k : Int) := by unfold place at hk; rw [if_pos hneg] at hk; omega
        have hge : -(ps.length : Int) ≤ i := by omega
        clear hk
        go_enter Tryd.func39, Tryd.ntmps39
        go_wp2_with (go_at_call 47; refine HG.out.mono ?_; rintro en w2 ⟨rfl, rfl⟩)
        refine HP.out.mono ?_
        rintro en w3 ⟨v, rfl, ho, hB⟩
        have HB := Lib.hid hB; clear hB
        obtain ⟨g, cap, rfl, hcap, hg1, hg2, hcl⟩ := owns_some ho HN.out
        have HCL := Lib.hid hcl; clear hcl ho
        have HJ := Lib.hid (f68 g k m (cap - k) ((ps.drop k).take m) HSL.out (by omega) (by have := joinP_sub ps k m; omega) (by omega) w3 hg2 (fun j p hp => HCL.out _ p (take_drop_at hp)))
        go_wp2_with (go_at_call 68; refine HJ.out.mono ?_; rintro en w4 ⟨rfl, hB⟩; have HB4 := Lib.hid hB; clear hB)
        go_ret2
        exact ⟨rfl, (HA.out.trans (HB.out.mono (by simp))).trans (HB4.out.mono (by have := HB.out.size; simp at this; omega))⟩
      · obtain rfl : i = (k : Int) := by unfold place at hk; rw [if_neg hneg] at hk; exact hk
        clear hk
        go_enter Tryd.func39, Tryd.ntmps39
        go_wp2_with (go_at_call 47; refine HG.out.mono ?_; rintro en w2 ⟨rfl, rfl⟩)
        refine HP.out.mono ?_
        rintro en w3 ⟨v, rfl, ho, hB⟩
        have HB := Lib.hid hB; clear hB
        obtain ⟨g, cap, rfl, hcap, hg1, hg2, hcl⟩ := owns_some ho HN.out
        have HCL := Lib.hid hcl; clear hcl ho
        have HJ := Lib.hid (f68 g k m (cap - k) ((ps.drop k).take m) HSL.out (by omega) (by have := joinP_sub ps k m; omega) (by omega) w3 hg2 (fun j p hp => HCL.out _ p (take_drop_at hp)))
        go_wp2_with (go_at_call 68; refine HJ.out.mono ?_; rintro en w4 ⟨rfl, hB⟩; have HB4 := Lib.hid hB; clear hB)
        go_ret2
        exact ⟨rfl, (HA.out.trans (HB.out.mono (by simp))).trans (HB4.out.mono (by have := HB.out.size; simp at this; omega))⟩
    · obtain rfl : k = ps.length := by omega
      obtain rfl : m = 0 := by omega
      have HE : Hid (joinP ((ps.drop ps.length).take 0) = []) := Lib.hid rfl
      rw [HE.out]
      have hm' : min n 0 = 0 := by omega
      clear hm HSL hlt hm2 hkl hkg
      by_cases hneg : i < 0
      · have hik : i + (ps.length : Int) = (ps.length : Int) := by unfold place at hk; rw [if_pos hneg] at hk; omega
        exact absurd hik (by omega)
      · obtain rfl : i = (ps.length : Int) := by unfold place at hk; rw [if_neg hneg] at hk; exact hk
        clear hk hneg
        go_enter Tryd.func39, Tryd.ntmps39
        go_wp2_with (go_at_call 47; refine HG.out.mono ?_; rintro en w2 ⟨rfl, rfl⟩)
        refine HP.out.mono ?_
        rintro en w3 ⟨v, rfl, ho, hB⟩
        have HB := Lib.hid hB; clear hB
        rcases ho.2 with ⟨rfl, h0⟩ | ⟨g, cap, cur, rfl, hB1, hgg, hcap, hcm, hcs, htk⟩
        · clear ho
          go_wp2_with fail
          refine (f68nil _ _ _).mono ?_
          rintro en w4 ⟨rfl, hB⟩
          have HB4 := Lib.hid hB; clear hB
          go_wp2_with fail
          go_ret2
          exact ⟨rfl, (HA.out.trans (HB.out.mono (by simp))).trans (HB4.out.mono (by have := HB.out.size; simp at this; omega))⟩
        · have hg2 := (Array.getElem?_eq_some_iff.1 hgg).1
          clear ho hgg htk hcs
          by_cases hce : cap = ps.length
          · subst hce
            go_wp2_with fail
            refine (f68nil _ _ _).mono ?_
            rintro en w4 ⟨rfl, hB⟩
            have HB4 := Lib.hid hB; clear hB
            go_wp2_with fail
            go_ret2
            exact ⟨rfl, (HA.out.trans (HB.out.mono (by simp))).trans (HB4.out.mono (by have := HB.out.size; simp at this; omega))⟩
          · have hce2 : ps.length < cap := by omega
            go_wp2_with fail
            refine (f68nil _ _ _).mono ?_
            rintro en w4 ⟨rfl, hB⟩
            have HB4 := Lib.hid hB; clear hB
            go_wp2_with fail
            go_ret2
            exact ⟨rfl, (HA.out.trans (HB.out.mono (by simp))).trans (HB4.out.mono (by have := HB.out.size; simp at this; omega))⟩
set_option maxRecDepth 100000 in
set_option maxHeartbeats 1000000 in
theorem f40 (e i n : Int) (he : e = 0 ∨ e = 1 ∨ e = 2) (hwf : -9223372036854775808 ≤ i) (s : ByteArray) (hs : s.size ≤ 100000) (hn : 0 ≤ n) (w : World) : Calls Tryd.prog 40 #[.string s, .int .i64 e, .int .i64 i, .int .i64 n] w (OptPost w 3 (sliceO (parts e (str s)) i n)) := by
  have HG := Lib.hid (f51one e s (by omega) w)
  rw [badN_ok (xs := [s]) he (by intro x hx; simp at hx; subst hx; exact hs)] at HG
  have hA : Below w.heap.size w (w.alloc (.cells #[.string s] 9)) := (Below.refl _ _).alloc (Nat.le_refl _) _
  have HP := Lib.hid (f56 e he s (by omega) (w.alloc (.cells #[.string s] 9)))
  have HA := Lib.hid hA; clear hA
  have hl := parts_len e (str s)
  rw [str_len] at hl
  have HPL : Hid (∀ p ∈ parts e (str s), p.1.length ≤ 100000) := Lib.hid fun p hp => by have := (parts_part e (str s) p hp).2.1; omega
  unfold PartsPost at HP
  generalize parts e (str s) = ps at *
  clear he
  by_cases hout : place ps.length i < 0 ∨ ps.length < place ps.length i
  · rw [sliceO_none hout]
    by_cases hneg : i < 0
    · have hge : i < -(ps.length : Int) := by unfold place at hout; rw [if_pos hneg] at hout; omega
      have hlt : i + (ps.length : Int) < 0 := by omega
      clear hout
      go_enter Tryd.func40, Tryd.ntmps40
      go_wp2_with (go_at_call 51; refine HG.out.mono ?_; rintro en w2 ⟨rfl, rfl⟩)
      refine HP.out.mono ?_
      rintro en w3 ⟨v, rfl, ho, hB⟩
      have HB := Lib.hid hB; clear hB
      obtain ⟨a, cap, rfl⟩ : ∃ a cap, v = .slice a ps.length cap := let ⟨⟨a, c, h, _⟩, _⟩ := parts_in ho; ⟨a, c, h⟩
      clear ho
      go_wp2_with fail
      go_ret2
      exact ⟨rfl, HA.out.trans (HB.out.mono (by simp))⟩
    · have hge : (ps.length : Int) < i := by unfold place at hout; rw [if_neg hneg] at hout; omega
      clear hout
      go_enter Tryd.func40, Tryd.ntmps40
      go_wp2_with (go_at_call 51; refine HG.out.mono ?_; rintro en w2 ⟨rfl, rfl⟩)
      refine HP.out.mono ?_
      rintro en w3 ⟨v, rfl, ho, hB⟩
      have HB := Lib.hid hB; clear hB
      obtain ⟨a, cap, rfl⟩ : ∃ a cap, v = .slice a ps.length cap := let ⟨⟨a, c, h, _⟩, _⟩ := parts_in ho; ⟨a, c, h⟩
      clear ho
      go_wp2_with fail
      go_ret2
      exact ⟨rfl, HA.out.trans (HB.out.mono (by simp))⟩
  · rw [sliceO_some hout]
    obtain ⟨k, hk⟩ : ∃ k : Nat, place ps.length i = k := ⟨(place ps.length i).toNat, by omega⟩
    rw [hk] at hout
    have hkl : k ≤ ps.length := by omega
    clear hout
    obtain ⟨m, hm⟩ : ∃ m : Nat, min n ((ps.length : Int) - (k : Int)) = (m : Int) := ⟨(min n ((ps.length : Int) - (k : Int))).toNat, by omega⟩
    have hm2 : k + m ≤ ps.length := by omega
    rw [hk, show ((k : Int)).toNat = k from rfl, sub_min ps k m n hn hm hkl]
    have hsl : ((ps.drop k).take m).length = m := by rw [List.length_take, List.length_drop]; omega
    have HSL := Lib.hid hsl; clear hsl
    have hkg : (k : Int) ≤ (ps.length : Int) := by omega
    by_cases hlt : k < ps.length
    · have HN : Hid (ps ≠ []) := Lib.hid (by intro h; rw [h] at hlt; simp at hlt)
      by_cases hneg : i < 0
      · have hik : i + (ps.length : Int) = (k : Int) := by unfold place at hk; rw [if_pos hneg] at hk; omega
        have hge : -(ps.length : Int) ≤ i := by omega
        clear hk
        go_enter Tryd.func40, Tryd.ntmps40
        go_wp2_with (go_at_call 51; refine HG.out.mono ?_; rintro en w2 ⟨rfl, rfl⟩)
        refine HP.out.mono ?_
        rintro en w3 ⟨v, rfl, ho, hB⟩
        have HB := Lib.hid hB; clear hB
        have hpi := (parts_in ho).1
        obtain ⟨g, cap, rfl, hg1⟩ := (parts_in ho).2 HN.out
        obtain ⟨g', o', cap', e1, hcap, hg2, hcl⟩ := hpi.some HN.out
        injection e1 with e1 e2 e3
        injection e1 with e1
        injection e1 with e1 e4
        subst e1 e3 e4
        have HCL := Lib.hid hcl; clear hcl ho hpi e2
        have HJ := Lib.hid (f57 (.slice (some ⟨g, k * 2, none⟩) m (cap - k)) ((ps.drop k).take m) (by rw [HSL.out]; omega) (fun p hp => HPL.out p (List.mem_of_mem_drop (List.mem_of_mem_take hp))) w3 ⟨_, _, by rw [HSL.out], by simp, by rw [HSL.out]; omega, fun j p hp => ⟨g, k * 2, rfl, hg2, by have := HCL.out _ p (take_drop_at hp); rw [show 0 + (k + j) * 2 = k * 2 + j * 2 by omega] at this; exact this⟩⟩)
        go_wp2_with (go_at_call 57; refine HJ.out.mono ?_; rintro en w4 ⟨rfl, hB⟩; have HB4 := Lib.hid hB; clear hB)
        go_ret2
        exact ⟨rfl, (HA.out.trans (HB.out.mono (by simp))).trans (HB4.out.mono (by have := HB.out.size; simp at this; omega))⟩
      · obtain rfl : i = (k : Int) := by unfold place at hk; rw [if_neg hneg] at hk; exact hk
        clear hk
        go_enter Tryd.func40, Tryd.ntmps40
        go_wp2_with (go_at_call 51; refine HG.out.mono ?_; rintro en w2 ⟨rfl, rfl⟩)
        refine HP.out.mono ?_
        rintro en w3 ⟨v, rfl, ho, hB⟩
        have HB := Lib.hid hB; clear hB
        have hpi := (parts_in ho).1
        obtain ⟨g, cap, rfl, hg1⟩ := (parts_in ho).2 HN.out
        obtain ⟨g', o', cap', e1, hcap, hg2, hcl⟩ := hpi.some HN.out
        injection e1 with e1 e2 e3
        injection e1 with e1
        injection e1 with e1 e4
        subst e1 e3 e4
        have HCL := Lib.hid hcl; clear hcl ho hpi e2
        have HJ := Lib.hid (f57 (.slice (some ⟨g, k * 2, none⟩) m (cap - k)) ((ps.drop k).take m) (by rw [HSL.out]; omega) (fun p hp => HPL.out p (List.mem_of_mem_drop (List.mem_of_mem_take hp))) w3 ⟨_, _, by rw [HSL.out], by simp, by rw [HSL.out]; omega, fun j p hp => ⟨g, k * 2, rfl, hg2, by have := HCL.out _ p (take_drop_at hp); rw [show 0 + (k + j) * 2 = k * 2 + j * 2 by omega] at this; exact this⟩⟩)
        go_wp2_with (go_at_call 57; refine HJ.out.mono ?_; rintro en w4 ⟨rfl, hB⟩; have HB4 := Lib.hid hB; clear hB)
        go_ret2
        exact ⟨rfl, (HA.out.trans (HB.out.mono (by simp))).trans (HB4.out.mono (by have := HB.out.size; simp at this; omega))⟩
    · obtain rfl : k = ps.length := by omega
      obtain rfl : m = 0 := by omega
      have HE : Hid (joinP ((ps.drop ps.length).take 0) = []) := Lib.hid rfl
      rw [HE.out]
      have hm' : min n 0 = 0 := by omega
      clear hm HSL hlt hm2 hkl hkg
      by_cases hneg : i < 0
      · have hik : i + (ps.length : Int) = (ps.length : Int) := by unfold place at hk; rw [if_pos hneg] at hk; omega
        exact absurd hik (by omega)
      · obtain rfl : i = (ps.length : Int) := by unfold place at hk; rw [if_neg hneg] at hk; exact hk
        clear hk hneg
        go_enter Tryd.func40, Tryd.ntmps40
        go_wp2_with (go_at_call 51; refine HG.out.mono ?_; rintro en w2 ⟨rfl, rfl⟩)
        refine HP.out.mono ?_
        rintro en w3 ⟨v, rfl, ho, hB⟩
        have HB := Lib.hid hB; clear hB
        rcases ho.2 with ⟨rfl, h0⟩ | ⟨g, cap, cur, rfl, hB1, hgg, hcap, hcm, hcs, htk⟩
        · clear ho
          go_wp2_with fail
          refine (f57_nil _ _ _).mono ?_
          rintro en w4 ⟨rfl, hB⟩
          have HB4 := Lib.hid hB; clear hB
          go_wp2_with fail
          go_ret2
          exact ⟨rfl, (HA.out.trans (HB.out.mono (by simp))).trans (HB4.out.mono (by have := HB.out.size; simp at this; omega))⟩
        · have hg2 := (Array.getElem?_eq_some_iff.1 hgg).1
          clear ho hgg htk hcs
          by_cases hce : cap = ps.length
          · subst hce
            go_wp2_with fail
            refine (f57_nil _ _ _).mono ?_
            rintro en w4 ⟨rfl, hB⟩
            have HB4 := Lib.hid hB; clear hB
            go_wp2_with fail
            go_ret2
            exact ⟨rfl, (HA.out.trans (HB.out.mono (by simp))).trans (HB4.out.mono (by have := HB.out.size; simp at this; omega))⟩
          · have hce2 : ps.length < cap := by omega
            go_wp2_with fail
            refine (f57_nil _ _ _).mono ?_
            rintro en w4 ⟨rfl, hB⟩
            have HB4 := Lib.hid hB; clear hB
            go_wp2_with fail
            go_ret2
            exact ⟨rfl, (HA.out.trans (HB.out.mono (by simp))).trans (HB4.out.mono (by have := HB.out.size; simp at this; omega))⟩

end Go.Proofs.YtaanihidheccfaaDoor
