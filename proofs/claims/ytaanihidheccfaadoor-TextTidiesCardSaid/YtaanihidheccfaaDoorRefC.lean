/-
  The document's and the program's Tidy; the statement TextTidies.
-/
import Derived.Test.YtaanihidheccfaaDoorRefB
namespace Go.Proofs.YtaanihidheccfaaDoor
open Go.Shelf Go.RowKit
set_option linter.unusedVariables false

theorem front_nil (set : List UInt8) : frontL set [] = [] := rfl

theorem f22_bad (s t : ByteArray) (hs : s.size ≤ 140737488355328) (ht : t.size ≤ 140737488355328) (h : 100000 < s.size ∨ 100000 < t.size) (w : World) : Calls Tryd.prog 22 #[.string s, .string t] w fun en w' => en = .returned (.tuple #[.string ⟨#[]⟩, .int .i64 1]) ∧ Below w.heap.size w w' := by
  have H47 := Lib.hid (f47two 0 s t hs ht w)
  rw [asked_bad (xs := [s, t]) (.inr (h.elim (fun h => ⟨s, by simp, h⟩) (fun h => ⟨t, by simp, h⟩)))] at H47
  clear h
  go_enter Tryd.func22, Tryd.ntmps22
  go_wp2_with (go_at_call 47; refine H47.out.mono ?_; rintro en w2 ⟨rfl, rfl⟩)
  go_ret2
  exact ⟨rfl, (Below.refl _ _).alloc (Nat.le_refl _) _⟩

theorem f23_bad (s t : ByteArray) (hs : s.size ≤ 140737488355328) (ht : t.size ≤ 140737488355328) (h : 100000 < s.size ∨ 100000 < t.size) (w : World) : Calls Tryd.prog 23 #[.string s, .string t] w fun en w' => en = .returned (.tuple #[.string ⟨#[]⟩, .int .i64 1]) ∧ Below w.heap.size w w' := by
  have H51 := Lib.hid (f51two 2 s t hs ht w)
  rw [badN_bad (xs := [s, t]) (.inr (h.elim (fun h => ⟨s, by simp, h⟩) (fun h => ⟨t, by simp, h⟩)))] at H51
  clear h
  go_enter Tryd.func23, Tryd.ntmps23
  go_wp2_with (go_at_call 51; refine H51.out.mono ?_; rintro en w2 ⟨rfl, rfl⟩)
  go_ret2
  exact ⟨rfl, (Below.refl _ _).alloc (Nat.le_refl _) _⟩

set_option maxRecDepth 100000 in
theorem f22 (s set : ByteArray) (hs : s.size ≤ 100000) (ht : set.size ≤ 100000) (w : World) : Calls Tryd.prog 22 #[.string s, .string set] w fun en w' => en = .returned (.tuple #[.string (bs (tidyL (str set) (str s))), .int .i64 0]) ∧ Below w.heap.size w w' := by
  have HG := Lib.hid (f47two 0 s set (by omega) (by omega) w)
  rw [asked_ok (xs := [s, set]) (by decide) (by intro x hx; simp at hx; rcases hx with rfl | rfl <;> assumption)] at HG
  generalize hD : frontL (str set) (str s) = D
  have HD := Lib.hid hD; clear hD
  go_enter Tryd.func22, Tryd.ntmps22
  go_wp2_with (go_at_call 47; refine HG.out.mono ?_; rintro en w2 ⟨rfl, rfl⟩)
  go_loop [0] (fun a => ∃ t : ByteArray, a = .string t ∧ t.size ≤ s.size ∧ Hid (frontL (str set) (str t) = D)) (fun a => strLen a)
  case atStart => exact ⟨s, rfl, Nat.le_refl _, HD⟩
  case round =>
    obtain ⟨t, rfl, hts, HT⟩ := hrel
    by_cases hz : t.size = 0
    · obtain rfl := empty_of hz
      have HDE : Hid (D = str ⟨#[]⟩) := Lib.hid HT.out.symm
      clear hz
      go_wp2_with fail
      go_loop [0] (fun a => ∃ t : ByteArray, a = .string t ∧ t.size ≤ s.size ∧ Hid (frontL (str set) (str t).reverse = frontL (str set) D.reverse)) (fun a => strLen a)
      case atStart => exact ⟨_, rfl, hts, Lib.hid (by rw [HDE.out])⟩
      case round =>
        obtain ⟨u, rfl, hus, HU⟩ := hrel
        by_cases hz : u.size = 0
        · obtain rfl := empty_of hz
          have HE : Hid (tidyL (str set) (str s) = str ⟨#[]⟩) := Lib.hid (by unfold tidyL; rw [HD.out, ← HU.out]; rfl)
          clear hz
          go_wp2_with fail
          go_ret2
          rw [HE.out, bs_str]
          exact ⟨rfl, (Below.refl _ _).alloc (Nat.le_refl _) _⟩
        · have hpos : 0 < u.size := by omega
          have hlt : u.size - 1 < u.size := by omega
          clear hz
          have hemp := notEmpty_of hpos
          have HL := Lib.hid (str_last u hlt)
          have hcast : ((u.size : Int) - 1) = ((u.size - 1 : Nat) : Int) := by omega
          by_cases hm : (u[u.size - 1]'hlt) ∈ str set
          · have HN : Hid (frontL (str set) (str (u.extract 0 (u.size - 1))).reverse = frontL (str set) D.reverse) := Lib.hid (by rw [← HU.out, HL.out, front_yes hm])
            have HC := Lib.hid (f58_yes set (u[u.size - 1]'hlt) (w.alloc (.cells #[.string s, .string set] 9)) hm)
            clear hm
            go_wp2_with (go_at_call 58; refine HC.out.mono ?_; rintro en w2 ⟨⟨r, hr0, rfl⟩, rfl⟩)
            go_round
            case rel => exact ⟨_, rfl, by simp; omega, HN⟩
            case measure => simp [strLen]; omega
          · have HE : Hid (tidyL (str set) (str s) = str u) := Lib.hid (by unfold tidyL; rw [HD.out, ← HU.out, HL.out, front_no hm, ← HL.out, List.reverse_reverse])
            have HC := Lib.hid (f58_no set (u[u.size - 1]'hlt) (w.alloc (.cells #[.string s, .string set] 9)) hm)
            clear hm
            go_wp2_with (go_at_call 58; refine HC.out.mono ?_; rintro en w2 ⟨rfl, rfl⟩)
            go_ret2
            rw [HE.out, bs_str]
            exact ⟨rfl, (Below.refl _ _).alloc (Nat.le_refl _) _⟩
    · have hpos : 0 < t.size := by omega
      clear hz
      have hemp := notEmpty_of hpos
      have HL := Lib.hid (str_cons t hpos)
      by_cases hm : (t[0]'hpos) ∈ str set
      · have HN : Hid (frontL (str set) (str (t.extract 1 t.size)) = D) := Lib.hid (by rw [← HT.out, HL.out, front_yes hm])
        have HC := Lib.hid (f58_yes set (t[0]'hpos) (w.alloc (.cells #[.string s, .string set] 9)) hm)
        clear hm
        go_wp2_with (go_at_call 58; refine HC.out.mono ?_; rintro en w2 ⟨⟨r, hr0, rfl⟩, rfl⟩)
        go_round
        case rel => exact ⟨_, rfl, by simp; omega, HN⟩
        case measure => simp [strLen]; omega
      · have HDE : Hid (D = str t) := Lib.hid (by rw [← HT.out, HL.out, front_no hm])
        have HC := Lib.hid (f58_no set (t[0]'hpos) (w.alloc (.cells #[.string s, .string set] 9)) hm)
        clear hm
        go_wp2_with (go_at_call 58; refine HC.out.mono ?_; rintro en w2 ⟨rfl, rfl⟩)
        go_loop [0] (fun a => ∃ t : ByteArray, a = .string t ∧ t.size ≤ s.size ∧ Hid (frontL (str set) (str t).reverse = frontL (str set) D.reverse)) (fun a => strLen a)
        case atStart => exact ⟨_, rfl, hts, Lib.hid (by rw [HDE.out])⟩
        case round =>
          obtain ⟨u, rfl, hus, HU⟩ := hrel
          by_cases hz : u.size = 0
          · obtain rfl := empty_of hz
            have HE : Hid (tidyL (str set) (str s) = str ⟨#[]⟩) := Lib.hid (by unfold tidyL; rw [HD.out, ← HU.out]; rfl)
            clear hz
            go_wp2_with fail
            go_ret2
            rw [HE.out, bs_str]
            exact ⟨rfl, (Below.refl _ _).alloc (Nat.le_refl _) _⟩
          · have hpos : 0 < u.size := by omega
            have hlt : u.size - 1 < u.size := by omega
            clear hz
            have hemp := notEmpty_of hpos
            have HL := Lib.hid (str_last u hlt)
            have hcast : ((u.size : Int) - 1) = ((u.size - 1 : Nat) : Int) := by omega
            by_cases hm : (u[u.size - 1]'hlt) ∈ str set
            · have HN : Hid (frontL (str set) (str (u.extract 0 (u.size - 1))).reverse = frontL (str set) D.reverse) := Lib.hid (by rw [← HU.out, HL.out, front_yes hm])
              have HC := Lib.hid (f58_yes set (u[u.size - 1]'hlt) (w.alloc (.cells #[.string s, .string set] 9)) hm)
              clear hm
              go_wp2_with (go_at_call 58; refine HC.out.mono ?_; rintro en w2 ⟨⟨r, hr0, rfl⟩, rfl⟩)
              go_round
              case rel => exact ⟨_, rfl, by simp; omega, HN⟩
              case measure => simp [strLen]; omega
            · have HE : Hid (tidyL (str set) (str s) = str u) := Lib.hid (by unfold tidyL; rw [HD.out, ← HU.out, HL.out, front_no hm, ← HL.out, List.reverse_reverse])
              have HC := Lib.hid (f58_no set (u[u.size - 1]'hlt) (w.alloc (.cells #[.string s, .string set] 9)) hm)
              clear hm
              go_wp2_with (go_at_call 58; refine HC.out.mono ?_; rintro en w2 ⟨rfl, rfl⟩)
              go_ret2
              rw [HE.out, bs_str]
              exact ⟨rfl, (Below.refl _ _).alloc (Nat.le_refl _) _⟩

set_option maxRecDepth 100000 in
theorem f23 (s set : ByteArray) (hs : s.size ≤ 100000) (ht : set.size ≤ 100000) (w : World) : Calls Tryd.prog 23 #[.string s, .string set] w fun en w' => en = .returned (.tuple #[.string (bs (tidyL (str set) (str s))), .int .i64 0]) ∧ Below w.heap.size w w' := by
  have HG := Lib.hid (f51two 2 s set (by omega) (by omega) w)
  rw [badN_ok (xs := [s, set]) (by decide) (by intro x hx; simp at hx; rcases hx with rfl | rfl <;> assumption)] at HG
  generalize hD : frontL (str set) (str s) = D
  have HD := Lib.hid hD; clear hD
  go_enter Tryd.func23, Tryd.ntmps23
  go_wp2_with (go_at_call 51; refine HG.out.mono ?_; rintro en w2 ⟨rfl, rfl⟩)
  go_loop [0] (fun a => ∃ t : ByteArray, a = .string t ∧ t.size ≤ s.size ∧ Hid (frontL (str set) (str t) = D)) (fun a => strLen a)
  case atStart => exact ⟨s, rfl, Nat.le_refl _, HD⟩
  case round =>
    obtain ⟨t, rfl, hts, HT⟩ := hrel
    by_cases hz : t.size = 0
    · obtain rfl := empty_of hz
      have HDE : Hid (D = str ⟨#[]⟩) := Lib.hid HT.out.symm
      clear hz
      go_wp2_with fail
      go_loop [0] (fun a => ∃ t : ByteArray, a = .string t ∧ t.size ≤ s.size ∧ Hid (frontL (str set) (str t).reverse = frontL (str set) D.reverse)) (fun a => strLen a)
      case atStart => exact ⟨_, rfl, hts, Lib.hid (by rw [HDE.out])⟩
      case round =>
        obtain ⟨u, rfl, hus, HU⟩ := hrel
        by_cases hz : u.size = 0
        · obtain rfl := empty_of hz
          have HE : Hid (tidyL (str set) (str s) = str ⟨#[]⟩) := Lib.hid (by unfold tidyL; rw [HD.out, ← HU.out]; rfl)
          clear hz
          go_wp2_with fail
          go_ret2
          rw [HE.out, bs_str]
          exact ⟨rfl, (Below.refl _ _).alloc (Nat.le_refl _) _⟩
        · have hpos : 0 < u.size := by omega
          have hlt : u.size - 1 < u.size := by omega
          clear hz
          have hemp := notEmpty_of hpos
          have HL := Lib.hid (str_last u hlt)
          have hcast : ((u.size : Int) - 1) = ((u.size - 1 : Nat) : Int) := by omega
          by_cases hm : (u[u.size - 1]'hlt) ∈ str set
          · have HN : Hid (frontL (str set) (str (u.extract 0 (u.size - 1))).reverse = frontL (str set) D.reverse) := Lib.hid (by rw [← HU.out, HL.out, front_yes hm])
            have HC := Lib.hid (f59 (u[u.size - 1]'hlt) set (by omega) (w.alloc (.cells #[.string s, .string set] 9)))
            rw [decide_eq_true hm] at HC
            clear hm
            go_wp2_with (go_at_call 59; refine HC.out.mono ?_; rintro en w2 ⟨rfl, rfl⟩)
            go_round
            case rel => exact ⟨_, rfl, by simp; omega, HN⟩
            case measure => simp [strLen]; omega
          · have HE : Hid (tidyL (str set) (str s) = str u) := Lib.hid (by unfold tidyL; rw [HD.out, ← HU.out, HL.out, front_no hm, ← HL.out, List.reverse_reverse])
            have HC := Lib.hid (f59 (u[u.size - 1]'hlt) set (by omega) (w.alloc (.cells #[.string s, .string set] 9)))
            rw [decide_eq_false hm] at HC
            clear hm
            go_wp2_with (go_at_call 59; refine HC.out.mono ?_; rintro en w2 ⟨rfl, rfl⟩)
            go_ret2
            rw [HE.out, bs_str]
            exact ⟨rfl, (Below.refl _ _).alloc (Nat.le_refl _) _⟩
    · have hpos : 0 < t.size := by omega
      clear hz
      have hemp := notEmpty_of hpos
      have HL := Lib.hid (str_cons t hpos)
      by_cases hm : (t[0]'hpos) ∈ str set
      · have HN : Hid (frontL (str set) (str (t.extract 1 t.size)) = D) := Lib.hid (by rw [← HT.out, HL.out, front_yes hm])
        have HC := Lib.hid (f59 (t[0]'hpos) set (by omega) (w.alloc (.cells #[.string s, .string set] 9)))
        rw [decide_eq_true hm] at HC
        clear hm
        go_wp2_with (go_at_call 59; refine HC.out.mono ?_; rintro en w2 ⟨rfl, rfl⟩)
        go_round
        case rel => exact ⟨_, rfl, by simp; omega, HN⟩
        case measure => simp [strLen]; omega
      · have HDE : Hid (D = str t) := Lib.hid (by rw [← HT.out, HL.out, front_no hm])
        have HC := Lib.hid (f59 (t[0]'hpos) set (by omega) (w.alloc (.cells #[.string s, .string set] 9)))
        rw [decide_eq_false hm] at HC
        clear hm
        go_wp2_with (go_at_call 59; refine HC.out.mono ?_; rintro en w2 ⟨rfl, rfl⟩)
        go_loop [0] (fun a => ∃ t : ByteArray, a = .string t ∧ t.size ≤ s.size ∧ Hid (frontL (str set) (str t).reverse = frontL (str set) D.reverse)) (fun a => strLen a)
        case atStart => exact ⟨_, rfl, hts, Lib.hid (by rw [HDE.out])⟩
        case round =>
          obtain ⟨u, rfl, hus, HU⟩ := hrel
          by_cases hz : u.size = 0
          · obtain rfl := empty_of hz
            have HE : Hid (tidyL (str set) (str s) = str ⟨#[]⟩) := Lib.hid (by unfold tidyL; rw [HD.out, ← HU.out]; rfl)
            clear hz
            go_wp2_with fail
            go_ret2
            rw [HE.out, bs_str]
            exact ⟨rfl, (Below.refl _ _).alloc (Nat.le_refl _) _⟩
          · have hpos : 0 < u.size := by omega
            have hlt : u.size - 1 < u.size := by omega
            clear hz
            have hemp := notEmpty_of hpos
            have HL := Lib.hid (str_last u hlt)
            have hcast : ((u.size : Int) - 1) = ((u.size - 1 : Nat) : Int) := by omega
            by_cases hm : (u[u.size - 1]'hlt) ∈ str set
            · have HN : Hid (frontL (str set) (str (u.extract 0 (u.size - 1))).reverse = frontL (str set) D.reverse) := Lib.hid (by rw [← HU.out, HL.out, front_yes hm])
              have HC := Lib.hid (f59 (u[u.size - 1]'hlt) set (by omega) (w.alloc (.cells #[.string s, .string set] 9)))
              rw [decide_eq_true hm] at HC
              clear hm
              go_wp2_with (go_at_call 59; refine HC.out.mono ?_; rintro en w2 ⟨rfl, rfl⟩)
              go_round
              case rel => exact ⟨_, rfl, by simp; omega, HN⟩
              case measure => simp [strLen]; omega
            · have HE : Hid (tidyL (str set) (str s) = str u) := Lib.hid (by unfold tidyL; rw [HD.out, ← HU.out, HL.out, front_no hm, ← HL.out, List.reverse_reverse])
              have HC := Lib.hid (f59 (u[u.size - 1]'hlt) set (by omega) (w.alloc (.cells #[.string s, .string set] 9)))
              rw [decide_eq_false hm] at HC
              clear hm
              go_wp2_with (go_at_call 59; refine HC.out.mono ?_; rintro en w2 ⟨rfl, rfl⟩)
              go_ret2
              rw [HE.out, bs_str]
              exact ⟨rfl, (Below.refl _ _).alloc (Nat.le_refl _) _⟩

end Go.Proofs.YtaanihidheccfaaDoor
