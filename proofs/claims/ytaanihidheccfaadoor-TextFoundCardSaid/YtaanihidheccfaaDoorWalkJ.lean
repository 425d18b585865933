/-
  The program's door: asked with one string, and the codes of a string.
-/
import Derived.Test.YtaanihidheccfaaDoorWalkA
import Derived.Test.YtaanihidheccfaaDoorWalkI
namespace Go.Proofs.YtaanihidheccfaaDoor
open Go.Shelf Go.RowKit
set_option linter.unusedVariables false

theorem asked_ok {e : Int} (he : e = 0 ∨ e = 1 ∨ e = 2) {xs : List ByteArray} (hl : ∀ x ∈ xs, x.size ≤ 100000) : askedN e xs = 0 := by
  unfold askedN
  rw [if_neg]
  rintro (h | h | h)
  · omega
  · omega
  · rw [List.any_eq_true] at h
    obtain ⟨x, hx, h⟩ := h
    have := hl x hx
    unfold longB at h
    simp at h
    omega
theorem asked_bad {e : Int} {xs : List ByteArray} (h : ¬ (e = 0 ∨ e = 1 ∨ e = 2) ∨ ∃ x ∈ xs, 100000 < x.size) : askedN e xs = 1 := by
  unfold askedN
  rw [if_pos]
  rcases h with h | ⟨x, hx, h⟩
  · omega
  · right; right
    rw [List.any_eq_true]
    exact ⟨x, hx, by unfold longB; simp; omega⟩

/-- asked with one string, behind the world in which it was laid. -/
theorem f47one (e : Int) (s : ByteArray) (hs : s.size ≤ 140737488355328) (w : World) : Calls Tryd.prog 47 #[.int .i64 e, .slice (some ⟨w.heap.size, 0, none⟩) 1 1] (w.alloc (.cells #[.string s] 9)) fun en w' => en = .returned (.int .i64 (askedN e [s])) ∧ w' = w.alloc (.cells #[.string s] 9) := by
  have h := f47 e w.heap.size 0 1 [s] (w.alloc (.cells #[.string s] 9)) (by
    intro j x hx
    have hj : j = 0 := by have := (List.getElem?_eq_some_iff.1 hx).1; simp at this; omega
    subst hj
    simp at hx
    subst hx
    simp) (by simp) (by simp) (by intro x hx; simp at hx; subst hx; exact hs)
  exact h

/-- The codes of a string, if it has them all. -/
def codesL (e : Int) (l : List UInt8) : Option (List Int) := if ∀ p ∈ parts e l, 0 ≤ p.2 then some ((parts e l).map (·.2)) else none
theorem codesL_none {e : Int} {s t : ByteArray} {done : List (List UInt8 × Int)} {n : Nat} {c : Int} (h : parts e (str s) = (done ++ [((str t).take n, c)]) ++ parts e (str (t.extract n t.size))) (hc : c < 0) : codesL e (str s) = none := by
  unfold codesL
  rw [if_neg]
  intro h2
  have := h2 ((str t).take n, c) (by rw [h]; simp)
  simp only at this; omega
theorem codesL_some {e : Int} {s : ByteArray} {done : List (List UInt8 × Int)} (h : parts e (str s) = done) (hc : ∀ p ∈ done, 0 ≤ p.2) : codesL e (str s) = some (done.map (·.2)) := by
  unfold codesL
  rw [h, if_pos hc]

/-- Numbers as values. -/
def ints (l : List Int) : List Value := l.map fun c => .int .i64 c
theorem ints_snoc (l : List Int) (c : Int) : ints (l ++ [c]) = ints l ++ [.int .i64 c] := by simp [ints]

/-- What Codes hands out. -/
def CodesPost (w : World) (o : Option (List Int)) (en : Ending) (w' : World) : Prop :=
  (match o with
    | none => en = .returned (.tuple #[.slice none 0 0, .int .i64 4])
    | some cs => ∃ v, en = .returned (.tuple #[v, .int .i64 0]) ∧ w'.ownsRow w.heap.size 3 1 v cs.length (ints cs)) ∧ Below w.heap.size w w'

theorem f18_bad (e : Int) (s : ByteArray) (hs : s.size ≤ 140737488355328) (h : ¬ (e = 0 ∨ e = 1 ∨ e = 2) ∨ 100000 < s.size) (w : World) : Calls Tryd.prog 18 #[.string s, .int .i64 e] w fun en w' => en = .returned (.tuple #[.slice none 0 0, .int .i64 1]) ∧ Below w.heap.size w w' := by
  have H47 := Lib.hid (f47one e s hs w)
  rw [asked_bad (xs := [s]) (h.imp_right fun h => ⟨s, by simp, h⟩)] at H47
  clear h
  go_enter Tryd.func18, Tryd.ntmps18
  go_wp2_with (go_at_call 47; refine H47.out.mono ?_; rintro en w2 ⟨rfl, rfl⟩)
  go_ret2
  exact ⟨rfl, (Below.refl _ _).alloc (Nat.le_refl _) _⟩

set_option maxRecDepth 100000 in
theorem f18_0 (s : ByteArray) (hs : s.size ≤ 100000) (w : World) (hT : Lib.Utf8Tabs 0 1 w) (h2 : 2 ≤ w.heap.size) : Calls Tryd.prog 18 #[.string s, .int .i64 0] w (CodesPost w (codesL 0 (str s))) := by
  have H47 := Lib.hid (f47one 0 s (by omega) w)
  rw [asked_ok (xs := [s]) (by decide) (by intro x hx; simp at hx; subst hx; exact hs)] at H47
  have H48 := Lib.hid (f48a (w.alloc (.cells #[.string s] 9)))
  obtain ⟨i0, hi, hz0, hz1, hz2⟩ := info_parts info3
  have HI := Lib.hid hi; clear hi
  have HT := Lib.hid hT; clear hT
  go_enter Tryd.func18, Tryd.ntmps18
  go_wp2_with (first | (go_at_call 47; refine H47.out.mono ?_; rintro en w9 ⟨rfl, rfl⟩) | (go_at_call 48; refine H48.out.mono ?_; rintro en w2 ⟨b, rfl, hblo, hb2, hbd, hB⟩; have HBLO := Lib.hid hblo; clear hblo; have HB := Lib.hid hB; clear hB; have HBD := Lib.hid hbd; clear hbd; simp only [oneByte]))
  have hsz2 : w.heap.size + 1 ≤ w2.heap.size := by have := HB.out.size; simp at this; omega
  have HBA : Hid (Below w.heap.size w (w2.alloc (.cells #[.func (.func 87) #[] #[.pointer (some ⟨b, 0, none⟩)], .func (.func 88) #[] #[.pointer (some ⟨b, 0, none⟩)]] 67))) := Lib.hid ((((Below.refl _ _).alloc (Nat.le_refl _) _).trans (HB.out.mono (by simp))).alloc (by omega) _)
  go_loopw [0, 7] (fun a v wr => ∃ (t : ByteArray) (done : List (List UInt8 × Int)), a = .string t ∧ t.size ≤ s.size ∧ done.length + t.size ≤ s.size ∧ Hid (parts 0 (str s) = done ++ parts 0 (str t)) ∧ Hid (∀ p ∈ done, 0 ≤ p.2) ∧ Hid (wr.ownsRow (w2.heap.size + 1) 3 1 v done.length (ints (done.map (·.2)))) ∧ Hid (Below (w2.heap.size + 1) (w2.alloc (.cells #[.func (.func 87) #[] #[.pointer (some ⟨b, 0, none⟩)], .func (.func 88) #[] #[.pointer (some ⟨b, 0, none⟩)]] 67)) wr)) (fun a _ _ => strLen a)
  case atStart => exact ⟨s, [], rfl, Nat.le_refl _, by simp, Lib.hid rfl, Lib.hid (by simp), Lib.hid (World.ownsRow_nil _ _ _ _), Lib.hid (Below.refl _ _)⟩
  case round =>
    obtain ⟨t, done, rfl, ht, hd, HP, HG, HO, HB2⟩ := hrel
    by_cases hz : t.size = 0
    · obtain rfl := empty_of hz
      have HE := Lib.hid (parts_done HP.out)
      clear hz
      go_wp2_with fail
      go_ret2
      refine ⟨?_, HBA.out.trans (HB2.out.mono (by omega))⟩
      rw [codesL_some HE.out HG.out]
      exact ⟨_, rfl, by rw [List.length_map]; exact owns_mono HO.out (by omega)⟩
    · have hpos : 0 < t.size := by omega
      clear hz
      have hemp := notEmpty_of hpos
      have hbw := HB2.out.size
      simp at hbw
      have hc0 : wr.cell? ⟨w2.heap.size, 0, none⟩ = some (.func (.func 87) #[] #[.pointer (some ⟨b, 0, none⟩)]) := (HB2.out.cell (by simp)).trans (by simp)
      have HTr := Lib.hid (tabs_below HB2.out (by omega) (tabs_below HBA.out h2 HT.out))
      have hbc : wr.cell? ⟨b, 0, none⟩ = some (.int .i64 128) := (HB2.out.cell (p := ⟨b, 0, none⟩) (by show b < _; omega)).trans (bound_alloc HBD.out _)
      have HBC := Lib.hid hbc; clear hbc
      have HCUT := Lib.hid (f87d 128 0 (.inl ⟨rfl, rfl⟩) t b wr hpos HBC.out (by omega))
      have hcb := cutL_bounds 0 (str t) (str_ne hpos)
      unfold cutV at HCUT
      generalize hk : cutL 0 (str t) = k at *
      obtain ⟨n, c⟩ := k
      have HS := Lib.hid (parts_step HP.out hpos hk)
      rw [str_len] at hcb
      clear hk
      simp only at HCUT hcb
      obtain ⟨hn1, hn2, -, -, -⟩ := hcb
      by_cases hc : c < 0
      · have HN := Lib.hid (codesL_none HS.out hc)
        go_wp2_with (go_at_call 87; refine HCUT.out.mono ?_; rintro en w3 ⟨rfl, hB3⟩; have HB3 := Lib.hid hB3; clear hB3)
        go_ret2
        rw [HN.out]
        exact ⟨rfl, (HBA.out.trans (HB2.out.mono (by omega))).trans (HB3.out.mono (by omega))⟩
      · have hc' : 0 ≤ c := by omega
        clear hc
        go_wp2_with (first | (go_at_call 87; refine HCUT.out.mono ?_; rintro en w3 ⟨rfl, hB3⟩; have HB3 := Lib.hid hB3; clear hB3; have HO3 := Lib.hid (owns_below HO.out HB3.out)) | (at_builtin; refine wpList_append_own _ rfl (.tmp 31) (.tmp 33) 22 rfl (w2.heap.size + 1) 3 i0 (.int .i64 0) 1 8 Tryd.underlying22 HI.out hz0 hz1 hz2 rfl (by decide) _ _ _ rfl (HO3.out.alloc _) ⟨w3.heap.size, 0, none⟩ 1 1 [.int .i64 c] rfl rfl ?c1 ?c2 ?c3 ?c4 ?c5 ?_))
        case c1 => exact new1 _ _ _
        case c2 => intro u hu; simp at hu; subst hu; rfl
        case c3 => unfold maxLen; omega
        case c4 => omega
        case c5 => simp; have := HB3.out.size; omega
        intro v' w4 hown' hgrow _
        have HR : Hid (Below (w2.heap.size + 1) (w2.alloc (.cells #[.func (.func 87) #[] #[.pointer (some ⟨b, 0, none⟩)], .func (.func 88) #[] #[.pointer (some ⟨b, 0, none⟩)]] 67)) w4 ∧ w4.ownsRow (w2.heap.size + 1) 3 1 v' (done ++ [((str t).take n, c)]).length (ints ((done ++ [((str t).take n, c)]).map (·.2))) ∧ ∀ p ∈ done ++ [((str t).take n, c)], 0 ≤ p.2) := by
          have hb3 := HB3.out.size
          refine ⟨?_, ?_, ?_⟩
          · exact ((HB2.out.trans (HB3.out.mono (by omega))).alloc (by omega) _).grown hgrow (by simp; omega) (fun k hk => (HO3.out.lt k hk).1)
          · rw [List.map_append, List.map_cons, List.map_nil, ints_snoc, List.length_append]
            exact hown'
          · intro p hp
            rw [List.mem_append, List.mem_singleton] at hp
            rcases hp with hp | rfl
            · exact HG.out p hp
            · exact hc'
        clear hown' hgrow
        go_wp2_with fail
        go_roundw
        case rel => exact ⟨_, _, rfl, by simp; omega, by simp; omega, HS, Lib.hid HR.out.2.2, Lib.hid HR.out.2.1, Lib.hid HR.out.1⟩
        case measure => simp [strLen]; omega

set_option maxRecDepth 100000 in
theorem f18_1 (s : ByteArray) (hs : s.size ≤ 100000) (w : World) (hT : Lib.Utf8Tabs 0 1 w) (h2 : 2 ≤ w.heap.size) : Calls Tryd.prog 18 #[.string s, .int .i64 1] w (CodesPost w (codesL 1 (str s))) := by
  have H47 := Lib.hid (f47one 1 s (by omega) w)
  rw [asked_ok (xs := [s]) (by decide) (by intro x hx; simp at hx; subst hx; exact hs)] at H47
  have H48 := Lib.hid (f48b (w.alloc (.cells #[.string s] 9)))
  obtain ⟨i0, hi, hz0, hz1, hz2⟩ := info_parts info3
  have HI := Lib.hid hi; clear hi
  have HT := Lib.hid hT; clear hT
  go_enter Tryd.func18, Tryd.ntmps18
  go_wp2_with (first | (go_at_call 47; refine H47.out.mono ?_; rintro en w9 ⟨rfl, rfl⟩) | (go_at_call 48; refine H48.out.mono ?_; rintro en w2 ⟨b, rfl, hblo, hb2, hbd, hB⟩; have HBLO := Lib.hid hblo; clear hblo; have HB := Lib.hid hB; clear hB; have HBD := Lib.hid hbd; clear hbd; simp only [oneByte]))
  have hsz2 : w.heap.size + 1 ≤ w2.heap.size := by have := HB.out.size; simp at this; omega
  have HBA : Hid (Below w.heap.size w (w2.alloc (.cells #[.func (.func 87) #[] #[.pointer (some ⟨b, 0, none⟩)], .func (.func 88) #[] #[.pointer (some ⟨b, 0, none⟩)]] 67))) := Lib.hid ((((Below.refl _ _).alloc (Nat.le_refl _) _).trans (HB.out.mono (by simp))).alloc (by omega) _)
  go_loopw [0, 7] (fun a v wr => ∃ (t : ByteArray) (done : List (List UInt8 × Int)), a = .string t ∧ t.size ≤ s.size ∧ done.length + t.size ≤ s.size ∧ Hid (parts 1 (str s) = done ++ parts 1 (str t)) ∧ Hid (∀ p ∈ done, 0 ≤ p.2) ∧ Hid (wr.ownsRow (w2.heap.size + 1) 3 1 v done.length (ints (done.map (·.2)))) ∧ Hid (Below (w2.heap.size + 1) (w2.alloc (.cells #[.func (.func 87) #[] #[.pointer (some ⟨b, 0, none⟩)], .func (.func 88) #[] #[.pointer (some ⟨b, 0, none⟩)]] 67)) wr)) (fun a _ _ => strLen a)
  case atStart => exact ⟨s, [], rfl, Nat.le_refl _, by simp, Lib.hid rfl, Lib.hid (by simp), Lib.hid (World.ownsRow_nil _ _ _ _), Lib.hid (Below.refl _ _)⟩
  case round =>
    obtain ⟨t, done, rfl, ht, hd, HP, HG, HO, HB2⟩ := hrel
    by_cases hz : t.size = 0
    · obtain rfl := empty_of hz
      have HE := Lib.hid (parts_done HP.out)
      clear hz
      go_wp2_with fail
      go_ret2
      refine ⟨?_, HBA.out.trans (HB2.out.mono (by omega))⟩
      rw [codesL_some HE.out HG.out]
      exact ⟨_, rfl, by rw [List.length_map]; exact owns_mono HO.out (by omega)⟩
    · have hpos : 0 < t.size := by omega
      clear hz
      have hemp := notEmpty_of hpos
      have hbw := HB2.out.size
      simp at hbw
      have hc0 : wr.cell? ⟨w2.heap.size, 0, none⟩ = some (.func (.func 87) #[] #[.pointer (some ⟨b, 0, none⟩)]) := (HB2.out.cell (by simp)).trans (by simp)
      have HTr := Lib.hid (tabs_below HB2.out (by omega) (tabs_below HBA.out h2 HT.out))
      have hbc : wr.cell? ⟨b, 0, none⟩ = some (.int .i64 256) := (HB2.out.cell (p := ⟨b, 0, none⟩) (by show b < _; omega)).trans (bound_alloc HBD.out _)
      have HBC := Lib.hid hbc; clear hbc
      have HCUT := Lib.hid (f87d 256 1 (.inr ⟨rfl, rfl⟩) t b wr hpos HBC.out (by omega))
      have hcb := cutL_bounds 1 (str t) (str_ne hpos)
      unfold cutV at HCUT
      generalize hk : cutL 1 (str t) = k at *
      obtain ⟨n, c⟩ := k
      have HS := Lib.hid (parts_step HP.out hpos hk)
      rw [str_len] at hcb
      clear hk
      simp only at HCUT hcb
      obtain ⟨hn1, hn2, -, -, -⟩ := hcb
      by_cases hc : c < 0
      · have HN := Lib.hid (codesL_none HS.out hc)
        go_wp2_with (go_at_call 87; refine HCUT.out.mono ?_; rintro en w3 ⟨rfl, hB3⟩; have HB3 := Lib.hid hB3; clear hB3)
        go_ret2
        rw [HN.out]
        exact ⟨rfl, (HBA.out.trans (HB2.out.mono (by omega))).trans (HB3.out.mono (by omega))⟩
      · have hc' : 0 ≤ c := by omega
        clear hc
        go_wp2_with (first | (go_at_call 87; refine HCUT.out.mono ?_; rintro en w3 ⟨rfl, hB3⟩; have HB3 := Lib.hid hB3; clear hB3; have HO3 := Lib.hid (owns_below HO.out HB3.out)) | (at_builtin; refine wpList_append_own _ rfl (.tmp 31) (.tmp 33) 22 rfl (w2.heap.size + 1) 3 i0 (.int .i64 0) 1 8 Tryd.underlying22 HI.out hz0 hz1 hz2 rfl (by decide) _ _ _ rfl (HO3.out.alloc _) ⟨w3.heap.size, 0, none⟩ 1 1 [.int .i64 c] rfl rfl ?c1 ?c2 ?c3 ?c4 ?c5 ?_))
        case c1 => exact new1 _ _ _
        case c2 => intro u hu; simp at hu; subst hu; rfl
        case c3 => unfold maxLen; omega
        case c4 => omega
        case c5 => simp; have := HB3.out.size; omega
        intro v' w4 hown' hgrow _
        have HR : Hid (Below (w2.heap.size + 1) (w2.alloc (.cells #[.func (.func 87) #[] #[.pointer (some ⟨b, 0, none⟩)], .func (.func 88) #[] #[.pointer (some ⟨b, 0, none⟩)]] 67)) w4 ∧ w4.ownsRow (w2.heap.size + 1) 3 1 v' (done ++ [((str t).take n, c)]).length (ints ((done ++ [((str t).take n, c)]).map (·.2))) ∧ ∀ p ∈ done ++ [((str t).take n, c)], 0 ≤ p.2) := by
          have hb3 := HB3.out.size
          refine ⟨?_, ?_, ?_⟩
          · exact ((HB2.out.trans (HB3.out.mono (by omega))).alloc (by omega) _).grown hgrow (by simp; omega) (fun k hk => (HO3.out.lt k hk).1)
          · rw [List.map_append, List.map_cons, List.map_nil, ints_snoc, List.length_append]
            exact hown'
          · intro p hp
            rw [List.mem_append, List.mem_singleton] at hp
            rcases hp with hp | rfl
            · exact HG.out p hp
            · exact hc'
        clear hown' hgrow
        go_wp2_with fail
        go_roundw
        case rel => exact ⟨_, _, rfl, by simp; omega, by simp; omega, HS, Lib.hid HR.out.2.2, Lib.hid HR.out.2.1, Lib.hid HR.out.1⟩
        case measure => simp [strLen]; omega

set_option maxRecDepth 100000 in
theorem f18_2 (s : ByteArray) (hs : s.size ≤ 100000) (w : World) (hT : Lib.Utf8Tabs 0 1 w) (h2 : 2 ≤ w.heap.size) : Calls Tryd.prog 18 #[.string s, .int .i64 2] w (CodesPost w (codesL 2 (str s))) := by
  have H47 := Lib.hid (f47one 2 s (by omega) w)
  rw [asked_ok (xs := [s]) (by decide) (by intro x hx; simp at hx; subst hx; exact hs)] at H47
  have H48 := Lib.hid (f48u 2 (by decide) (by decide) (w.alloc (.cells #[.string s] 9)))
  obtain ⟨i0, hi, hz0, hz1, hz2⟩ := info_parts info3
  have HI := Lib.hid hi; clear hi
  have HT := Lib.hid hT; clear hT
  go_enter Tryd.func18, Tryd.ntmps18
  go_wp2_with (first | (go_at_call 47; refine H47.out.mono ?_; rintro en w9 ⟨rfl, rfl⟩) | (go_at_call 48; refine H48.out.mono ?_; rintro en w2 ⟨rfl, hB⟩; have HB := Lib.hid hB; clear hB))
  have hsz2 : w.heap.size + 1 ≤ w2.heap.size := by have := HB.out.size; simp at this; omega
  have HBA : Hid (Below w.heap.size w (w2.alloc (.cells #[.func (.func 73) #[] #[], .func (.func 76) #[] #[]] 67))) := Lib.hid ((((Below.refl _ _).alloc (Nat.le_refl _) _).trans (HB.out.mono (by simp))).alloc (by omega) _)
  go_loopw [0, 7] (fun a v wr => ∃ (t : ByteArray) (done : List (List UInt8 × Int)), a = .string t ∧ t.size ≤ s.size ∧ done.length + t.size ≤ s.size ∧ Hid (parts 2 (str s) = done ++ parts 2 (str t)) ∧ Hid (∀ p ∈ done, 0 ≤ p.2) ∧ Hid (wr.ownsRow (w2.heap.size + 1) 3 1 v done.length (ints (done.map (·.2)))) ∧ Hid (Below (w2.heap.size + 1) (w2.alloc (.cells #[.func (.func 73) #[] #[], .func (.func 76) #[] #[]] 67)) wr)) (fun a _ _ => strLen a)
  case atStart => exact ⟨s, [], rfl, Nat.le_refl _, by simp, Lib.hid rfl, Lib.hid (by simp), Lib.hid (World.ownsRow_nil _ _ _ _), Lib.hid (Below.refl _ _)⟩
  case round =>
    obtain ⟨t, done, rfl, ht, hd, HP, HG, HO, HB2⟩ := hrel
    by_cases hz : t.size = 0
    · obtain rfl := empty_of hz
      have HE := Lib.hid (parts_done HP.out)
      clear hz
      go_wp2_with fail
      go_ret2
      refine ⟨?_, HBA.out.trans (HB2.out.mono (by omega))⟩
      rw [codesL_some HE.out HG.out]
      exact ⟨_, rfl, by rw [List.length_map]; exact owns_mono HO.out (by omega)⟩
    · have hpos : 0 < t.size := by omega
      clear hz
      have hemp := notEmpty_of hpos
      have hbw := HB2.out.size
      simp at hbw
      have hc0 : wr.cell? ⟨w2.heap.size, 0, none⟩ = some (.func (.func 73) #[] #[]) := (HB2.out.cell (by simp)).trans (by simp)
      have HTr := Lib.hid (tabs_below HB2.out (by omega) (tabs_below HBA.out h2 HT.out))
      have HCUT := Lib.hid (f73 2 (by decide) (by decide) t hpos (by omega) wr HTr.out)
      have hcb := cutL_bounds 2 (str t) (str_ne hpos)
      unfold cutV at HCUT
      generalize hk : cutL 2 (str t) = k at *
      obtain ⟨n, c⟩ := k
      have HS := Lib.hid (parts_step HP.out hpos hk)
      rw [str_len] at hcb
      clear hk
      simp only at HCUT hcb
      obtain ⟨hn1, hn2, -, -, -⟩ := hcb
      by_cases hc : c < 0
      · have HN := Lib.hid (codesL_none HS.out hc)
        go_wp2_with (go_at_call 73; refine HCUT.out.mono ?_; rintro en w3 ⟨rfl, hB3⟩; have HB3 := Lib.hid hB3; clear hB3)
        go_ret2
        rw [HN.out]
        exact ⟨rfl, (HBA.out.trans (HB2.out.mono (by omega))).trans (HB3.out.mono (by omega))⟩
      · have hc' : 0 ≤ c := by omega
        clear hc
        go_wp2_with (first | (go_at_call 73; refine HCUT.out.mono ?_; rintro en w3 ⟨rfl, hB3⟩; have HB3 := Lib.hid hB3; clear hB3; have HO3 := Lib.hid (owns_below HO.out HB3.out)) | (at_builtin; refine wpList_append_own _ rfl (.tmp 31) (.tmp 33) 22 rfl (w2.heap.size + 1) 3 i0 (.int .i64 0) 1 8 Tryd.underlying22 HI.out hz0 hz1 hz2 rfl (by decide) _ _ _ rfl (HO3.out.alloc _) ⟨w3.heap.size, 0, none⟩ 1 1 [.int .i64 c] rfl rfl ?c1 ?c2 ?c3 ?c4 ?c5 ?_))
        case c1 => exact new1 _ _ _
        case c2 => intro u hu; simp at hu; subst hu; rfl
        case c3 => unfold maxLen; omega
        case c4 => omega
        case c5 => simp; have := HB3.out.size; omega
        intro v' w4 hown' hgrow _
        have HR : Hid (Below (w2.heap.size + 1) (w2.alloc (.cells #[.func (.func 73) #[] #[], .func (.func 76) #[] #[]] 67)) w4 ∧ w4.ownsRow (w2.heap.size + 1) 3 1 v' (done ++ [((str t).take n, c)]).length (ints ((done ++ [((str t).take n, c)]).map (·.2))) ∧ ∀ p ∈ done ++ [((str t).take n, c)], 0 ≤ p.2) := by
          have hb3 := HB3.out.size
          refine ⟨?_, ?_, ?_⟩
          · exact ((HB2.out.trans (HB3.out.mono (by omega))).alloc (by omega) _).grown hgrow (by simp; omega) (fun k hk => (HO3.out.lt k hk).1)
          · rw [List.map_append, List.map_cons, List.map_nil, ints_snoc, List.length_append]
            exact hown'
          · intro p hp
            rw [List.mem_append, List.mem_singleton] at hp
            rcases hp with hp | rfl
            · exact HG.out p hp
            · exact hc'
        clear hown' hgrow
        go_wp2_with fail
        go_roundw
        case rel => exact ⟨_, _, rfl, by simp; omega, by simp; omega, HS, Lib.hid HR.out.2.2, Lib.hid HR.out.2.1, Lib.hid HR.out.1⟩
        case measure => simp [strLen]; omega

theorem f18 (e : Int) (he : e = 0 ∨ e = 1 ∨ e = 2) (s : ByteArray) (hs : s.size ≤ 100000) (w : World) (hT : Lib.Utf8Tabs 0 1 w) (h2 : 2 ≤ w.heap.size) : Calls Tryd.prog 18 #[.string s, .int .i64 e] w (CodesPost w (codesL e (str s))) := by
  rcases he with rfl | rfl | rfl
  · exact f18_0 s hs w hT h2
  · exact f18_1 s hs w hT h2
  · exact f18_2 s hs w hT h2

end Go.Proofs.YtaanihidheccfaaDoor
