/-
  Index of the program.
-/
import Derived.Test.YtaanihidheccfaaDoorFinA
import Derived.Test.YtaanihidheccfaaDoorRefG
namespace Go.Proofs.YtaanihidheccfaaDoor
open Go.Shelf Go.RowKit
set_option linter.unusedVariables false

/-- The first place from a given one on where a part stands, counted in characters; the error 3: none. -/
def idxN (part : List UInt8) (fr : Int) : Nat → List (List UInt8 × Int) → Int × Int
  | k, [] => if fr ≤ (k : Int) ∧ Lib.hasPrefix (joinP []) part = true then ((k : Int), 0) else (0, 3)
  | k, p :: r => if fr ≤ (k : Int) ∧ Lib.hasPrefix (joinP (p :: r)) part = true then ((k : Int), 0) else idxN part fr (k + 1) r
theorem idx_yes {part : List UInt8} {fr : Int} {ps : List (List UInt8 × Int)} {k : Nat} (h : fr ≤ (k : Int) ∧ Lib.hasPrefix (joinP (ps.drop k)) part = true) : idxN part fr k (ps.drop k) = ((k : Int), 0) := by
  cases hq : ps.drop k with
  | nil => rw [hq] at h; exact if_pos h
  | cons p r => rw [hq] at h; exact if_pos h
theorem pdrop_at {ps : List (List UInt8 × Int)} {k : Nat} {p : List UInt8 × Int} (hp : ps[k]? = some p) : ps.drop k = p :: ps.drop (k + 1) := by
  obtain ⟨h, rfl⟩ := List.getElem?_eq_some_iff.1 hp
  exact List.drop_eq_getElem_cons h
theorem idx_next {part : List UInt8} {fr : Int} {ps : List (List UInt8 × Int)} {k : Nat} {p : List UInt8 × Int} (hp : ps[k]? = some p) (h : ¬ (fr ≤ (k : Int) ∧ Lib.hasPrefix (joinP (ps.drop k)) part = true)) : idxN part fr k (ps.drop k) = idxN part fr (k + 1) (ps.drop (k + 1)) := by
  rw [pdrop_at hp] at h ⊢
  exact if_neg h
theorem idx_end {part : List UInt8} {fr : Int} {ps : List (List UInt8 × Int)} (h : ¬ (fr ≤ (ps.length : Int) ∧ Lib.hasPrefix (joinP (ps.drop ps.length)) part = true)) : idxN part fr ps.length (ps.drop ps.length) = (0, 3) := by
  rw [List.drop_length] at h ⊢
  exact if_neg h
theorem join_drop (p : List UInt8 × Int) (r : List (List UInt8 × Int)) : (joinP (p :: r)).drop (bs p.1).size = joinP r := by
  rw [← str_len, str_bs]
  unfold joinP
  rw [List.map_cons, List.flatten_cons]
  exact List.drop_left
theorem join_le (p : List UInt8 × Int) (r : List (List UInt8 × Int)) : p.1.length ≤ (joinP (p :: r)).length := by
  unfold joinP
  rw [List.map_cons, List.flatten_cons, List.length_append]
  omega
def ansI (r : Int × Int) : Value := .tuple #[.int .i64 r.1, .int .i64 r.2]

theorem f20_bad (e fr : Int) (s t : ByteArray) (hs : s.size ≤ 9223372036854775807) (ht : t.size ≤ 9223372036854775807) (h : ¬ (e = 0 ∨ e = 1 ∨ e = 2) ∨ 100000 < s.size ∨ 100000 < t.size) (w : World) : Calls Tryd.prog 20 #[.string s, .string t, .int .i64 e, .int .i64 fr] w fun en w' => en = .returned (ansI (0, 1)) ∧ Below w.heap.size w w' := by
  have H47 := Lib.hid (f47twow e s t hs ht w)
  rw [asked_bad (xs := [s, t]) (h.imp_right fun h => h.elim (fun h => ⟨s, by simp, h⟩) (fun h => ⟨t, by simp, h⟩))] at H47
  clear h
  go_enter Tryd.func20, Tryd.ntmps20
  go_wp2_with (go_at_call 47; refine H47.out.mono ?_; rintro en w2 ⟨rfl, rfl⟩)
  go_ret2
  exact ⟨rfl, (Below.refl _ _).alloc (Nat.le_refl _) _⟩
theorem f21_bad (e fr : Int) (s t : ByteArray) (hs : s.size ≤ 9223372036854775807) (ht : t.size ≤ 9223372036854775807) (h : ¬ (e = 0 ∨ e = 1 ∨ e = 2) ∨ 100000 < s.size ∨ 100000 < t.size) (w : World) : Calls Tryd.prog 21 #[.string s, .string t, .int .i64 e, .int .i64 fr] w fun en w' => en = .returned (ansI (0, 1)) ∧ Below w.heap.size w w' := by
  have H51 := Lib.hid (f51twow e s t hs ht w)
  rw [badN_bad (xs := [s, t]) (h.imp_right fun h => h.elim (fun h => ⟨s, by simp, h⟩) (fun h => ⟨t, by simp, h⟩))] at H51
  clear h
  go_enter Tryd.func21, Tryd.ntmps21
  go_wp2_with (go_at_call 51; refine H51.out.mono ?_; rintro en w2 ⟨rfl, rfl⟩)
  go_ret2
  exact ⟨rfl, (Below.refl _ _).alloc (Nat.le_refl _) _⟩

set_option maxRecDepth 100000 in
set_option maxHeartbeats 1000000 in
theorem f20 (e : Int) (he : e = 0 ∨ e = 1 ∨ e = 2) (s t : ByteArray) (hs : s.size ≤ 100000) (ht : t.size ≤ 100000) (fr : Int) (hf0 : 0 ≤ fr) (hf1 : fr ≤ ((parts e (str s)).length : Int)) (w : World) (hT : Lib.Utf8Tabs 0 1 w) (h2 : 2 ≤ w.heap.size) : Calls Tryd.prog 20 #[.string s, .string t, .int .i64 e, .int .i64 fr] w fun en w' => en = .returned (ansI (idxN (str t) fr 0 (parts e (str s)))) ∧ Below w.heap.size w w' := by
  have HG := Lib.hid (f47twow e s t (by omega) (by omega) w)
  rw [asked_ok (xs := [s, t]) he (by intro x hx; simp at hx; rcases hx with rfl | rfl <;> assumption)] at HG
  have hA : Below w.heap.size w (w.alloc (.cells #[.string s, .string t] 9)) := (Below.refl _ _).alloc (Nat.le_refl _) _
  have HP := Lib.hid (f54 e he s (by omega) (w.alloc (.cells #[.string s, .string t] 9)) (tabs_below hA h2 hT) (by simp; omega))
  have HA := Lib.hid hA; clear hA
  have hl := parts_len e (str s)
  rw [str_len] at hl
  have HJ : Hid (str s = joinP (parts e (str s))) := Lib.hid (by unfold joinP; rw [parts_join])
  unfold PiecesPost at HP
  generalize parts e (str s) = ps at *
  clear hT he
  go_enter Tryd.func20, Tryd.ntmps20
  go_wp2_with (go_at_call 47; refine HG.out.mono ?_; rintro en w2 ⟨rfl, rfl⟩)
  refine HP.out.mono ?_
  rintro en w3 ⟨v, rfl, ho, hB⟩
  have hz3 := hB.size
  simp only [World.size_alloc] at hz3
  have HB : Hid (Below w.heap.size w w3) := Lib.hid (HA.out.trans (hB.mono (by simp)))
  clear hB
  by_cases h0 : ps = []
  · subst h0
    obtain ⟨a, cap, rfl, -⟩ := owns_slice ho
    clear ho
    obtain rfl : fr = 0 := by simp at hf1; omega
    obtain ⟨b, hb⟩ : ∃ b, Lib.hasPrefix (str s) (str t) = b := ⟨_, rfl⟩
    have h55 := Tryd.strings_HasPrefix s t w3
    rw [show Lib.hasPrefix s.data.toList t.data.toList = b from hb] at h55
    have H55 := Lib.hid h55; clear h55
    rw [HJ.out] at hb
    have HE : Hid (idxN (str t) 0 0 [] = if b = true then (0, 0) else (0, 3)) := Lib.hid (by unfold idxN; rw [hb]; simp)
    clear hb
    go_wp2_with fail
    go_loop [0, 12] (fun x k => x = .string s ∧ k = .int .i64 0) (fun _ _ => 0)
    case atStart => exact ⟨rfl, rfl⟩
    case round =>
      obtain ⟨rfl, rfl⟩ := hrel
      cases b with
      | true =>
        go_wp2_with (go_at_call 55; refine H55.out.mono ?_; rintro en w4 ⟨rfl, rfl⟩)
        go_ret2
        exact ⟨by rw [HE.out]; rfl, HB.out⟩
      | false =>
        go_wp2_with (go_at_call 55; refine H55.out.mono ?_; rintro en w4 ⟨rfl, rfl⟩)
        go_ret2
        exact ⟨by rw [HE.out]; rfl, HB.out⟩
  · obtain ⟨g, cap, rfl, hcap, hg1, hg2, hcl⟩ := owns_some ho h0
    have HCL := Lib.hid hcl; clear hcl ho h0
    go_wp2_with fail
    go_loop [0, 12] (fun a k => ∃ (x : ByteArray) (j : Nat), a = .string x ∧ k = .int .i64 j ∧ j ≤ ps.length ∧ Hid (str x = joinP (ps.drop j)) ∧ Hid (idxN (str t) fr 0 ps = idxN (str t) fr j (ps.drop j))) (fun _ k => ps.length - (intOf k).toNat)
    case atStart => exact ⟨s, 0, rfl, rfl, Nat.zero_le _, HJ, Lib.hid rfl⟩
    case round =>
      obtain ⟨x, j, rfl, rfl, hj, HX, HI⟩ := hrel
      by_cases hfj : fr ≤ (j : Int)
      · obtain ⟨b, hb⟩ : ∃ b, Lib.hasPrefix (str x) (str t) = b := ⟨_, rfl⟩
        have h55 := Tryd.strings_HasPrefix x t w3
        rw [show Lib.hasPrefix x.data.toList t.data.toList = b from hb] at h55
        have H55 := Lib.hid h55; clear h55
        rw [HX.out] at hb
        have HBB := Lib.hid hb; clear hb
        have HFJ := Lib.hid hfj
        cases b with
        | true =>
          have HY := Lib.hid (idx_yes ⟨HFJ.out, HBB.out⟩)
          go_wp2_with (go_at_call 55; refine H55.out.mono ?_; rintro en w4 ⟨rfl, rfl⟩)
          go_ret2
          exact ⟨by rw [HI.out, HY.out]; rfl, HB.out⟩
        | false =>
          by_cases hlt : j < ps.length
          · obtain ⟨p, hp⟩ : ∃ p, ps[j]? = some p := ⟨ps[j], by simp [hlt]⟩
            have hc := HCL.out j p hp
            have HN := Lib.hid (idx_next (part := str t) (fr := fr) hp (fun h => by have h1 := HBB.out; rw [h.2] at h1; cases h1))
            have hd := pdrop_at hp
            have HX2 : Hid (str (x.extract (bs p.1).size x.size) = joinP (ps.drop (j + 1))) := Lib.hid (by rw [str_drop, HX.out, hd]; exact join_drop p _)
            have hpx : (bs p.1).size ≤ x.size := by rw [← str_len, ← str_len, str_bs, HX.out, hd]; exact join_le p _
            have q1 : ((j : Int) == (ps.length : Int)) = false := by simp; omega
            have q2 : (j == ps.length) = false := by simp; omega
            clear hp hd
            generalize bs p.1 = y at *
            go_wp2_with (go_at_call 55; refine H55.out.mono ?_; rintro en w4 ⟨rfl, rfl⟩)
            go_round
            case rel => exact ⟨_, j + 1, rfl, by go_num, by omega, HX2, Lib.hid (HI.out.trans HN.out)⟩
            case measure => simp [intOf]; omega
          · obtain rfl : j = ps.length := by omega
            have HE := Lib.hid (idx_end (part := str t) (fr := fr) (ps := ps) (fun h => by have h1 := HBB.out; rw [h.2] at h1; cases h1))
            go_wp2_with (go_at_call 55; refine H55.out.mono ?_; rintro en w4 ⟨rfl, rfl⟩)
            go_ret2
            exact ⟨by rw [HI.out, HE.out]; rfl, HB.out⟩

      · have HFJ := Lib.hid hfj
        have e1 : decide (fr ≤ (j : Int)) = false := by simp; omega
        by_cases hlt : j < ps.length
        · obtain ⟨p, hp⟩ : ∃ p, ps[j]? = some p := ⟨ps[j], by simp [hlt]⟩
          have hc := HCL.out j p hp
          have HN := Lib.hid (idx_next (part := str t) (fr := fr) hp (fun h => HFJ.out h.1))
          have hd := pdrop_at hp
          have HX2 : Hid (str (x.extract (bs p.1).size x.size) = joinP (ps.drop (j + 1))) := Lib.hid (by rw [str_drop, HX.out, hd]; exact join_drop p _)
          have hpx : (bs p.1).size ≤ x.size := by rw [← str_len, ← str_len, str_bs, HX.out, hd]; exact join_le p _
          have q1 : ((j : Int) == (ps.length : Int)) = false := by simp; omega
          have q2 : (j == ps.length) = false := by simp; omega
          clear hp hd
          generalize bs p.1 = y at *
          go_wp2_with fail
          go_round
          case rel => exact ⟨_, j + 1, rfl, by go_num, by omega, HX2, Lib.hid (HI.out.trans HN.out)⟩
          case measure => simp [intOf]; omega
        · omega

end Go.Proofs.YtaanihidheccfaaDoor
