/-
  The statement TextTurns walked.
-/
import Derived.Test.YtaanihidheccfaaDoorTurns
import Derived.Test.YtaanihidheccfaaDoorScrubs
namespace Go.Proofs.YtaanihidheccfaaDoor
open Go.Shelf Go.RowKit
set_option linter.unusedVariables false

def codeB (e : Int) (b : UInt8) : Int := if e = 0 then (if b.toNat < 128 then (b.toNat : Int) else -1) else (b.toNat : Int)
theorem parts_byte {e : Int} (he : e = 0 ∨ e = 1) : ∀ l : List UInt8, parts e l = l.map fun b => ([b], codeB e b)
  | [] => rfl
  | a :: l => by
    have hc : cutL e (a :: l) = (1, codeB e a) := by
      unfold cutL codeB
      rcases he with rfl | rfl
      · rw [if_pos rfl, if_pos rfl]; rfl
      · rw [if_neg (by decide), if_pos rfl, if_neg (by decide)]; rfl
    rw [parts_cons e (a :: l) (by simp), hc]
    show ([a], codeB e a) :: parts e l = _
    rw [parts_byte he l]
    rfl
theorem join_byte (e : Int) (l : List UInt8) : joinP (l.map fun b => ([b], codeB e b)) = l := by
  unfold joinP
  induction l with
  | nil => rfl
  | cons a l ih =>
    rw [List.map_cons, List.map_cons, List.flatten_cons, ih]
    rfl

theorem parts_rev {e : Int} (he : e = 0 ∨ e = 1 ∨ e = 2) {l : List UInt8} (hv : validN e (parts e l) = true) : parts e (joinP (parts e l).reverse) = (parts e l).reverse := by
  by_cases h2 : e = 2
  · subst h2
    have hall := (of_decide_eq_true hv) rfl
    have hb : ∀ p ∈ (parts 2 l).reverse, has 2 p.2 ∧ p.1 = enc 2 p.2 := fun p hp => parts_back 2 (by decide) l p (List.mem_reverse.1 hp) (hall p (List.mem_reverse.1 hp))
    generalize (parts 2 l).reverse = qs at *
    have e1 : joinP qs = ((qs.map (·.2)).map (enc 2)).flatten := by
      unfold joinP
      rw [List.map_map]
      congr 1
      apply List.map_congr_left
      intro p hp
      exact (hb p hp).2
    rw [e1, parts_of 2 (by decide) _ (by
      intro c hc
      obtain ⟨p, hp, rfl⟩ := List.mem_map.1 hc
      exact (hb p hp).1), List.map_map]
    conv => rhs; rw [← List.map_id qs]
    apply List.map_congr_left
    intro p hp
    show (enc 2 p.2, p.2) = p
    rw [← (hb p hp).2]
  · have he' : e = 0 ∨ e = 1 := by omega
    rw [parts_byte he' l, ← List.map_reverse, join_byte, parts_byte he']

theorem rev_twice {e : Int} (he : e = 0 ∨ e = 1 ∨ e = 2) {s : ByteArray} (hv : validN e (parts e (str s)) = true) : bs (joinP (parts e (str (bs (joinP (parts e (str s)).reverse)))).reverse) = s := by
  rw [str_bs, parts_rev he hv, List.reverse_reverse]
  have : joinP (parts e (str s)) = str s := by unfold joinP; rw [parts_join]
  rw [this, bs_str]

theorem f14_sane (s : ByteArray) (e : Int) (w : World) (hs : s.size ≤ 9223372036854775807) (hbig : 3000 < s.size) (hT : Lib.Utf8Tabs 0 1 w) (h2 : 2 ≤ w.heap.size) : Calls Tryd.prog 14 #[.string s, .int .i64 e] w fun en w' => en = .returned (.bool true) ∧ Below w.heap.size w w' := by
  have H15 := Lib.hid (f15 w hT h2)
  clear hT
  go_enter Tryd.func14, Tryd.ntmps14
  go_wp2_with (go_at_call 15; refine H15.out.mono ?_; rintro en w4 ⟨rfl, hB⟩; have HB4 := Lib.hid hB; clear hB)
  go_ret
  exact ⟨rfl, HB4.out⟩

set_option maxHeartbeats 1000000 in
theorem f14_no (s a : ByteArray) (e c d : Int) (is : Bool) (w : World) (hs : s.size ≤ 3000) (hq : (c == 0) = false ∨ is = false)
    (H45 : Hid (Says 45 #[.string s, .int .i64 e] (.tuple #[.string a, .int .i64 c]))) (H46 : Hid (Says 46 #[.string s, .int .i64 e] (.tuple #[.string a, .int .i64 c]))) (H36 : Hid (Says 36 #[.string s, .int .i64 e] (.tuple #[.bool is, .int .i64 d])))
    (hT : Lib.Utf8Tabs 0 1 w) (h2 : 2 ≤ w.heap.size) : Calls Tryd.prog 14 #[.string s, .int .i64 e] w fun en w' => en = .returned (.bool true) ∧ Below w.heap.size w w' := by
  have HT := Lib.hid hT; clear hT
  have hq2 : (c == 0) = false ∨ ((c == 0) = true ∧ is = false) := by
    rcases hq with h | h
    · exact .inl h
    · cases hc : (c == 0) with
      | false => exact .inl rfl
      | true => exact .inr ⟨rfl, h⟩
  clear hq
  rcases hq2 with hq | ⟨hq, rfl⟩
  all_goals
    go_enter Tryd.func14, Tryd.ntmps14
    go_wp2_with fail
    refine (H45.out w HT.out h2).mono ?_
    rintro en w2 ⟨rfl, hB⟩
    have HB : Hid (Below w.heap.size w w2) := Lib.hid hB
    clear hB
    go_wp2_with fail
    refine (H46.out w2 (tabs_below HB.out h2 HT.out) (by have := HB.out.size; omega)).mono ?_
    rintro en w3 ⟨rfl, hB⟩
    have HB3 : Hid (Below w.heap.size w w3) := Lib.hid (HB.out.trans (hB.mono HB.out.size))
    clear hB HB
    go_wp2_with fail
    refine (H36.out w3 (tabs_below HB3.out h2 HT.out) (by have := HB3.out.size; omega)).mono ?_
    rintro en w4 ⟨rfl, hB⟩
    have HB4 : Hid (Below w.heap.size w w4) := Lib.hid (HB3.out.trans (hB.mono HB3.out.size))
    clear hB HB3
    have H15 := Lib.hid (f15 w4 (tabs_below HB4.out h2 HT.out) (by have := HB4.out.size; omega))
    go_wp2_with (go_at_call 15; refine H15.out.mono ?_; rintro en w9 ⟨rfl, hB⟩; have HB9 := Lib.hid hB; clear hB)
    go_ret
    exact ⟨rfl, HB4.out.trans (HB9.out.mono HB4.out.size)⟩

set_option maxHeartbeats 1000000 in
theorem f14_yes (s a : ByteArray) (e d : Int) (w : World) (hs : s.size ≤ 3000)
    (H45 : Hid (Says 45 #[.string s, .int .i64 e] (.tuple #[.string a, .int .i64 0]))) (H46 : Hid (Says 46 #[.string s, .int .i64 e] (.tuple #[.string a, .int .i64 0]))) (H36 : Hid (Says 36 #[.string s, .int .i64 e] (.tuple #[.bool true, .int .i64 d]))) (HBK : Hid (Says 45 #[.string a, .int .i64 e] (.tuple #[.string s, .int .i64 0])))
    (hT : Lib.Utf8Tabs 0 1 w) (h2 : 2 ≤ w.heap.size) : Calls Tryd.prog 14 #[.string s, .int .i64 e] w fun en w' => en = .returned (.bool true) ∧ Below w.heap.size w w' := by
  have HT := Lib.hid hT; clear hT
  go_enter Tryd.func14, Tryd.ntmps14
  go_wp2_with fail
  refine (H45.out w HT.out h2).mono ?_
  rintro en w2 ⟨rfl, hB⟩
  have HB : Hid (Below w.heap.size w w2) := Lib.hid hB
  clear hB
  go_wp2_with fail
  refine (H46.out w2 (tabs_below HB.out h2 HT.out) (by have := HB.out.size; omega)).mono ?_
  rintro en w3 ⟨rfl, hB⟩
  have HB3 : Hid (Below w.heap.size w w3) := Lib.hid (HB.out.trans (hB.mono HB.out.size))
  clear hB HB
  go_wp2_with fail
  refine (H36.out w3 (tabs_below HB3.out h2 HT.out) (by have := HB3.out.size; omega)).mono ?_
  rintro en w4 ⟨rfl, hB⟩
  have HB4 : Hid (Below w.heap.size w w4) := Lib.hid (HB3.out.trans (hB.mono HB3.out.size))
  clear hB HB3
  go_wp2_with fail
  refine (HBK.out w4 (tabs_below HB4.out h2 HT.out) (by have := HB4.out.size; omega)).mono ?_
  rintro en w5 ⟨rfl, hB⟩
  have HB5 : Hid (Below w.heap.size w w5) := Lib.hid (HB4.out.trans (hB.mono HB4.out.size))
  clear hB HB4
  have H15 := Lib.hid (f15 w5 (tabs_below HB5.out h2 HT.out) (by have := HB5.out.size; omega))
  go_wp2_with (go_at_call 15; refine H15.out.mono ?_; rintro en w9 ⟨rfl, hB⟩; have HB9 := Lib.hid hB; clear hB)
  go_ret
  exact ⟨rfl, HB5.out.trans (HB9.out.mono HB5.out.size)⟩

theorem f14 (s : ByteArray) (e : Int) (w : World) (hs : s.size ≤ 9223372036854775807) (he : (Lit.int .i64 e).wf = true) (hT : Lib.Utf8Tabs 0 1 w) (h2 : 2 ≤ w.heap.size) : Calls Tryd.prog 14 #[.string s, .int .i64 e] w fun en w' => en = .returned (.bool true) ∧ Below w.heap.size w w' := by
  by_cases hbig : 3000 < s.size
  · exact f14_sane s e w hs hbig hT h2
  · by_cases hee : e = 0 ∨ e = 1 ∨ e = 2
    · have H45 : Hid (Says 45 #[.string s, .int .i64 e] (ans (bs (joinP (parts e (str s)).reverse)) 0)) := Lib.hid fun w hT h2 => f45 e hee s (by omega) w hT h2
      have H46 : Hid (Says 46 #[.string s, .int .i64 e] (ans (bs (joinP (parts e (str s)).reverse)) 0)) := Lib.hid fun w hT h2 => f46 e hee s (by omega) w
      have H36 : Hid (Says 36 #[.string s, .int .i64 e] (.tuple #[.bool (validN e (parts e (str s))), .int .i64 0])) := Lib.hid fun w hT h2 => f36 e hee s (by omega) w hT h2
      cases hv : validN e (parts e (str s)) with
      | false =>
        rw [hv] at H36
        exact f14_no s _ e 0 0 false w (by omega) (.inr rfl) H45 H46 H36 hT h2
      | true =>
        rw [hv] at H36
        have hsz : (bs (joinP (parts e (str s)).reverse)).size ≤ 3000 := by
          rw [← str_len, str_bs, joinP_rev_len]
          unfold joinP
          rw [parts_join, str_len]
          omega
        have HBK : Hid (Says 45 #[.string (bs (joinP (parts e (str s)).reverse)), .int .i64 e] (.tuple #[.string s, .int .i64 0])) := Lib.hid fun w hT h2 => by
          have h := f45 e hee (bs (joinP (parts e (str s)).reverse)) (by omega) w hT h2
          rw [rev_twice hee hv] at h
          exact h
        exact f14_yes s _ e 0 w (by omega) H45 H46 H36 HBK hT h2
    · exact f14_no s ⟨#[]⟩ e 1 1 false w (by omega) (.inr rfl) (Lib.hid fun w hT h2 => f45_bad e s (by omega) (.inl hee) w) (Lib.hid fun w hT h2 => f46_bad e s (by omega) (.inl hee) w) (Lib.hid fun w hT h2 => f36_bad e s (by omega) (.inl hee) w) hT h2

end Go.Proofs.YtaanihidheccfaaDoor
