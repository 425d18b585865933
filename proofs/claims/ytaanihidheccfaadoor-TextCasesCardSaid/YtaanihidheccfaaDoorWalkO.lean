/-
  The program's door: Valid; the statement TextLong.
-/
import Derived.Test.YtaanihidheccfaaDoorLayB
import Derived.Test.YtaanihidheccfaaDoorWalkN
import Derived.OwnWalk
namespace Go.Proofs.YtaanihidheccfaaDoor
open Go.Shelf Go.RowKit
set_option linter.unusedVariables false

theorem f36_bad (e : Int) (s : ByteArray) (hs : s.size ≤ 140737488355328) (h : ¬ (e = 0 ∨ e = 1 ∨ e = 2) ∨ 100000 < s.size) (w : World) : Calls Tryd.prog 36 #[.string s, .int .i64 e] w fun en w' => en = .returned (.tuple #[.bool false, .int .i64 1]) ∧ Below w.heap.size w w' := by
  have H47 := Lib.hid (f47one e s hs w)
  rw [asked_bad (xs := [s]) (h.imp_right fun h => ⟨s, by simp, h⟩)] at H47
  clear h
  go_enter Tryd.func36, Tryd.ntmps36
  go_wp2_with (go_at_call 47; refine H47.out.mono ?_; rintro en w2 ⟨rfl, rfl⟩)
  go_ret2
  exact ⟨rfl, (Below.refl _ _).alloc (Nat.le_refl _) _⟩

theorem f36_byte (e : Int) (he : e = 0 ∨ e = 1) (s : ByteArray) (hs : s.size ≤ 100000) (w : World) : Calls Tryd.prog 36 #[.string s, .int .i64 e] w fun en w' => en = .returned (.tuple #[.bool true, .int .i64 0]) ∧ Below w.heap.size w w' := by
  have H47 := Lib.hid (f47one e s (by omega) w)
  rw [asked_ok (xs := [s]) (by omega) (by intro x hx; simp at hx; subst hx; exact hs)] at H47
  rcases he with rfl | rfl
  all_goals
    go_enter Tryd.func36, Tryd.ntmps36
    go_wp2_with (go_at_call 47; refine H47.out.mono ?_; rintro en w2 ⟨rfl, rfl⟩)
    go_ret2
    exact ⟨rfl, (Below.refl _ _).alloc (Nat.le_refl _) _⟩

theorem f36_utf (s : ByteArray) (hs : s.size ≤ 100000) (w : World) (hT : Lib.Utf8Tabs 0 1 w) (h2 : 2 ≤ w.heap.size) : Calls Tryd.prog 36 #[.string s, .int .i64 2] w fun en w' => en = .returned (.tuple #[.bool (Lib.validD (str s)), .int .i64 0]) ∧ Below w.heap.size w w' := by
  have H47 := Lib.hid (f47one 2 s (by omega) w)
  rw [asked_ok (xs := [s]) (by decide) (by intro x hx; simp at hx; subst hx; exact hs)] at H47
  have hA : Below w.heap.size w (w.alloc (.cells #[.string s] 9)) := (Below.refl _ _).alloc (Nat.le_refl _) _
  have H67 := Lib.hid (f67 s (w.alloc (.cells #[.string s] 9)) (by omega) (tabs_below hA h2 hT))
  have HA := Lib.hid hA; clear hA
  clear hT
  unfold str
  generalize Lib.validD s.data.toList = b at *
  go_enter Tryd.func36, Tryd.ntmps36
  go_wp2_with (first | (go_at_call 47; refine H47.out.mono ?_; rintro en w2 ⟨rfl, rfl⟩) | (go_at_call 67; refine H67.out.mono ?_; rintro en w3 ⟨rfl, hB⟩; have HB := Lib.hid hB; clear hB))
  go_ret2
  exact ⟨rfl, HA.out.trans (HB.out.mono (by simp))⟩

theorem info5 : (Tryd.prog.info? 5).map (fun i => (i.zero, i.size, i.bytes)) = some (some (.int .u8 0), 1, 1) := by kernel_rfl

theorem long_k (n : Int) : ∃ k : Nat, wrap64 (99998 + wrap64 ((IntKind.u64.wrap n).tmod 5)) = (k : Int) ∧ 99998 ≤ k ∧ k ≤ 100002 := by
  have h0 : 0 ≤ IntKind.u64.wrap n := by
    unfold IntKind.wrap
    simp [IntKind.signed, IntKind.bits]
    omega
  rw [Int.tmod_eq_emod_of_nonneg h0]
  generalize IntKind.u64.wrap n = u at *
  have e1 : wrap64 (u % 5) = u % 5 := by unfold wrap64; omega
  rw [e1]
  have e2 : wrap64 (99998 + u % 5) = 99998 + u % 5 := by unfold wrap64; omega
  rw [e2]
  exact ⟨(99998 + u % 5).toNat, by omega, by omega, by omega⟩

/-- A string of zero bytes. -/
def zeros (k : Nat) : ByteArray := bs (List.replicate k 0)
theorem zeros_size (k : Nat) : (zeros k).size = k := by
  show (List.replicate k (0 : UInt8)).toArray.size = k
  simp
theorem zeros_bytes {w w' : World} {B k : Nat} {g : Nat} {cap : Nat} (ho : w.ownsRow B 5 1 (.slice (some ⟨g, 0, none⟩) k cap) k (madeCells #[Value.int .u8 0] k).toList) (hb : Below w.heap.size w w') : (convert 53 9 (.slice (some ⟨g, 0, none⟩) k cap)).run Tryd.prog w' = .ok (.string (zeros k)) w' := by
  have h := Go.Lib.run_convert_whole (P := Tryd.prog) w' 53 5 9 Tryd.underlying53 Tryd.underlying5 Tryd.underlying9 g 0 (zeros k) (by
    intro i hi
    rw [zeros_size] at hi
    rcases ho.2 with ⟨h3, -⟩ | ⟨g', cap', cur, hv, hB, hg, hn, hm, hs, ht⟩
    · cases h3
    · injection hv with e1 e2 e3
      injection e1 with e1
      injection e1 with e1
      subst e1
      have hlt := (Array.getElem?_eq_some_iff.1 hg).1
      rw [Nat.zero_add, cell_blk ((hb.block g hlt).trans hg), ← Array.getElem?_toList]
      have h3 : (madeCells #[Value.int .u8 0] k).toList[i]? = some (Value.int .u8 0) := by
        unfold madeCells
        simp
        exact ⟨i, by simp [hi], by simp [Nat.mod_one]⟩
      rw [← ht, List.getElem?_take_of_lt (by omega)] at h3
      rw [h3]
      congr 2
      have : (zeros k)[i] = 0 := by
        show (List.replicate k (0 : UInt8)).toArray[i] = 0
        simp
      rw [this]
      rfl) cap
  rw [zeros_size] at h
  exact h

set_option maxRecDepth 100000 in
theorem f10 (n : Int) (w : World) (hT : Lib.Utf8Tabs 0 1 w) (h2 : 2 ≤ w.heap.size) : Calls Tryd.prog 10 #[.int .i64 n] w fun en w' => en = .returned (.bool true) ∧ Below w.heap.size w w' := by
  obtain ⟨i0, hi, hz0, hz1, hz2⟩ := info_parts info5
  have HI := Lib.hid hi; clear hi
  have HT := Lib.hid hT; clear hT
  obtain ⟨k, hk, hk1, hk2⟩ := long_k n
  have HK := Lib.hid hk; clear hk
  go_enter Tryd.func10, Tryd.ntmps10
  go_wp2_with (at_make; (refine wpList_make_full _ rfl (.tmp 15) (.tmp 15) 53 rfl w.heap.size 5 i0 (.int .u8 0) 1 Tryd.underlying53 HI.out hz0 hz1 .i64 .i64 _ _ k rfl rfl HK.out HK.out (by rw [hz2]; omega) (by unfold maxLen; omega) (Nat.le_refl _) ?_))
  intro w1 ho hg
  have hB1 : Below w.heap.size w w1 := (Below.refl _ _).grown hg (Nat.le_refl _) (by simp)
  have HO := Lib.hid ho; clear ho
  have hz1' := hB1.size
  have HT1 := Lib.hid (tabs_below hB1 h2 HT.out)
  have HB1 := Lib.hid hB1; clear hB1 hg
  have hcv := zeros_bytes HO.out (Below.refl _ w1)
  have hsz := zeros_size k
  have HS := Lib.hid hsz; clear hsz
  by_cases hl : 100000 < k
  · have hd : decide ((100000 : Int) < wrap64 (99998 + wrap64 ((IntKind.u64.wrap n).tmod 5))) = true := by rw [HK.out]; simp; omega
    have H41 := Lib.hid (f41_bad 0 (zeros k) (by rw [HS.out]; omega) (.inr (by rw [HS.out]; exact hl)) w1)
    go_wp2_with fail
    refine H41.out.mono ?_
    rintro en w2 ⟨rfl, hB⟩
    have hz2' := hB.size
    have HT2 := Lib.hid (tabs_below hB (by omega) HT1.out)
    have hcv2 := zeros_bytes HO.out hB
    have HB2 := Lib.hid hB; clear hB
    have H36 := Lib.hid (f36_bad 1 (zeros k) (by rw [HS.out]; omega) (.inr (by rw [HS.out]; exact hl)) w2)
    go_wp2_with fail
    refine H36.out.mono ?_
    rintro en w3 ⟨rfl, hB⟩
    have hz3' := hB.size
    have H15 := Lib.hid (f15 w3 (tabs_below hB (by omega) HT2.out) (by omega))
    have HB3 := Lib.hid hB; clear hB
    go_wp2_with (go_at_call 15; refine H15.out.mono ?_; rintro en w4 ⟨rfl, hB⟩; have HB4 := Lib.hid hB; clear hB)
    go_ret
    exact ⟨rfl, ((HB1.out.trans (HB2.out.mono (by omega))).trans (HB3.out.mono (by omega))).trans (HB4.out.mono (by omega))⟩
  · have hl' : k ≤ 100000 := by omega
    clear hl
    have hd : decide ((100000 : Int) < wrap64 (99998 + wrap64 ((IntKind.u64.wrap n).tmod 5))) = false := by rw [HK.out]; simp; omega
    have H41 := Lib.hid (f41 0 (by decide) (zeros k) (by rw [HS.out]; exact hl') w1 HT1.out (by omega))
    go_wp2_with fail
    refine H41.out.mono ?_
    rintro en w2 ⟨rfl, hB⟩
    have hz2' := hB.size
    have HT2 := Lib.hid (tabs_below hB (by omega) HT1.out)
    have hcv2 := zeros_bytes HO.out hB
    have HB2 := Lib.hid hB; clear hB
    have H36 := Lib.hid (f36_byte 1 (by decide) (zeros k) (by rw [HS.out]; exact hl') w2)
    go_wp2_with fail
    refine H36.out.mono ?_
    rintro en w3 ⟨rfl, hB⟩
    have hz3' := hB.size
    have H15 := Lib.hid (f15 w3 (tabs_below hB (by omega) HT2.out) (by omega))
    have HB3 := Lib.hid hB; clear hB
    go_wp2_with (go_at_call 15; refine H15.out.mono ?_; rintro en w4 ⟨rfl, hB⟩; have HB4 := Lib.hid hB; clear hB)
    go_ret
    exact ⟨rfl, ((HB1.out.trans (HB2.out.mono (by omega))).trans (HB3.out.mono (by omega))).trans (HB4.out.mono (by omega))⟩

theorem long_walks (n : Int) (w : World) (hn : (Lit.int .i64 n).wf = true) (hT : Lib.Utf8Tabs 0 1 w) (h2 : 2 ≤ w.heap.size) : Calls Tryd.prog 10 #[.int .i64 n] w fun en w' => en = .returned (.bool true) ∧ Below w.heap.size w w' := f10 n w hT h2

end Go.Proofs.YtaanihidheccfaaDoor
