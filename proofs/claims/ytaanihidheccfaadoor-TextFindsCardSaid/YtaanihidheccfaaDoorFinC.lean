/-
  Index of the document.
-/
import Derived.Test.YtaanihidheccfaaDoorFinB
namespace Go.Proofs.YtaanihidheccfaaDoor
open Go.Shelf Go.RowKit
set_option linter.unusedVariables false

theorem hp_ext (s t : ByteArray) (a : Nat) (h : a + t.size ≤ s.size) : Lib.hasPrefix ((str s).drop a) (str t) = true ↔ s.extract a (a + t.size) = t := by
  unfold Lib.hasPrefix
  rw [List.isPrefixOf_iff_prefix, List.prefix_iff_eq_take]
  have e1 : str (s.extract a (a + t.size)) = ((str s).drop a).take t.size := by
    unfold str; rw [Lib.extract_data]; simp
  rw [str_len]
  constructor
  · intro h1
    exact str_inj (e1.trans h1.symm)
  · intro h1
    rw [← e1, h1]
theorem hp_short (s t : ByteArray) (a : Nat) (h : s.size < a + t.size) (ha : a ≤ s.size) : ¬ Lib.hasPrefix ((str s).drop a) (str t) = true := by
  unfold Lib.hasPrefix
  rw [List.isPrefixOf_iff_prefix]
  intro h1
  have := h1.length_le
  rw [List.length_drop, str_len, str_len] at this
  omega
theorem idx_skip {part : List UInt8} {fr : Int} {ps : List (List UInt8 × Int)} : ∀ (m : Nat), (m : Int) ≤ fr → m ≤ ps.length → idxN part fr 0 ps = idxN part fr m (ps.drop m)
  | 0, _, _ => rfl
  | m + 1, h1, h2 => by
    obtain ⟨p, hp⟩ : ∃ p, ps[m]? = some p := ⟨ps[m], by simp⟩
    rw [idx_skip m (by omega) (by omega), idx_next hp (fun h => by omega)]
theorem join_split (ps : List (List UInt8 × Int)) (k : Nat) : joinP ps = joinP (ps.take k) ++ joinP (ps.drop k) := by
  unfold joinP
  rw [← List.flatten_append, ← List.map_append, List.take_append_drop]
theorem drop_join (ps : List (List UInt8 × Int)) (k a : Nat) (ha : a = (joinP (ps.take k)).length) : (joinP ps).drop a = joinP (ps.drop k) := by
  rw [join_split ps k, ha]
  exact List.drop_left
theorem take_join {ps : List (List UInt8 × Int)} {k : Nat} {p : List UInt8 × Int} (hp : ps[k]? = some p) : (joinP (ps.take (k + 1))).length = (joinP (ps.take k)).length + p.1.length := by
  unfold joinP
  rw [List.take_add_one, hp]
  simp

set_option maxRecDepth 100000 in
theorem f20_out (e : Int) (he : e = 0 ∨ e = 1 ∨ e = 2) (s t : ByteArray) (hs : s.size ≤ 100000) (ht : t.size ≤ 100000) (fr : Int) (hf : fr < 0 ∨ ((parts e (str s)).length : Int) < fr) (w : World) (hT : Lib.Utf8Tabs 0 1 w) (h2 : 2 ≤ w.heap.size) : Calls Tryd.prog 20 #[.string s, .string t, .int .i64 e, .int .i64 fr] w fun en w' => en = .returned (ansI (0, 1)) ∧ Below w.heap.size w w' := by
  have HG := Lib.hid (f47twow e s t (by omega) (by omega) w)
  rw [asked_ok (xs := [s, t]) he (by intro x hx; simp at hx; rcases hx with rfl | rfl <;> assumption)] at HG
  have hA : Below w.heap.size w (w.alloc (.cells #[.string s, .string t] 9)) := (Below.refl _ _).alloc (Nat.le_refl _) _
  have HP := Lib.hid (f54 e he s (by omega) (w.alloc (.cells #[.string s, .string t] 9)) (tabs_below hA h2 hT) (by simp; omega))
  have HA := Lib.hid hA; clear hA
  have hl := parts_len e (str s)
  rw [str_len] at hl
  unfold PiecesPost at HP
  generalize parts e (str s) = ps at *
  clear hT he
  rcases hf with hf | hf
  all_goals
    go_enter Tryd.func20, Tryd.ntmps20
    go_wp2_with (go_at_call 47; refine HG.out.mono ?_; rintro en w2 ⟨rfl, rfl⟩)
    refine HP.out.mono ?_
    rintro en w3 ⟨v, rfl, ho, hB⟩
    have HB := Lib.hid hB; clear hB
    obtain ⟨a, cap, rfl⟩ : ∃ a cap, v = .slice a ps.length cap := let ⟨a, c, h, _⟩ := owns_slice ho; ⟨a, c, h⟩
    clear ho
    go_wp2_with fail
    go_ret2
    exact ⟨rfl, HA.out.trans (HB.out.mono (by simp))⟩

set_option maxRecDepth 100000 in
theorem f21_out (e : Int) (he : e = 0 ∨ e = 1 ∨ e = 2) (s t : ByteArray) (hs : s.size ≤ 100000) (ht : t.size ≤ 100000) (fr : Int) (hf : fr < 0 ∨ ((parts e (str s)).length : Int) < fr) (w : World) (hT : Lib.Utf8Tabs 0 1 w) (h2 : 2 ≤ w.heap.size) : Calls Tryd.prog 21 #[.string s, .string t, .int .i64 e, .int .i64 fr] w fun en w' => en = .returned (ansI (0, 1)) ∧ Below w.heap.size w w' := by
  have HG := Lib.hid (f51twow e s t (by omega) (by omega) w)
  rw [badN_ok (xs := [s, t]) he (by intro x hx; simp at hx; rcases hx with rfl | rfl <;> assumption)] at HG
  have hA : Below w.heap.size w (w.alloc (.cells #[.string s, .string t] 9)) := (Below.refl _ _).alloc (Nat.le_refl _) _
  have HP := Lib.hid (f56 e he s (by omega) (w.alloc (.cells #[.string s, .string t] 9)))
  have HA := Lib.hid hA; clear hA
  have hl := parts_len e (str s)
  rw [str_len] at hl
  unfold PartsPost at HP
  generalize parts e (str s) = ps at *
  clear hT he
  rcases hf with hf | hf
  all_goals
    go_enter Tryd.func21, Tryd.ntmps21
    go_wp2_with (go_at_call 51; refine HG.out.mono ?_; rintro en w2 ⟨rfl, rfl⟩)
    refine HP.out.mono ?_
    rintro en w3 ⟨v, rfl, ho, hB⟩
    have HB := Lib.hid hB; clear hB
    obtain ⟨a, cap, rfl⟩ : ∃ a cap, v = .slice a ps.length cap := let ⟨⟨a, c, h, _⟩, _⟩ := parts_in ho; ⟨a, c, h⟩
    clear ho
    go_wp2_with fail
    go_ret2
    exact ⟨rfl, HA.out.trans (HB.out.mono (by simp))⟩

end Go.Proofs.YtaanihidheccfaaDoor
