/-
  The statement TextOf walked.
-/
import Derived.Test.YtaanihidheccfaaDoorPlainD
import Derived.Test.YtaanihidheccfaaDoorRefB
import Derived.Test.YtaanihidheccfaaDoorRefH
namespace Go.Proofs.YtaanihidheccfaaDoor
open Go.Shelf Go.RowKit
set_option linter.unusedVariables false

theorem ints_in {w : World} {B n : Nat} {v : Value} {cs : List Int} (hn : n = cs.length) (hl : cs.length ≤ 9223372036854775807) (h : w.ownsRow B 3 1 v n (ints cs)) : IntsIn w v cs := by
  subst hn
  rcases h.2 with ⟨rfl, h0⟩ | ⟨g, cap, cur, rfl, hB, hg, hn, hm, hs, ht⟩
  · have : cs = [] := List.eq_nil_of_length_eq_zero h0
    subst this
    exact ⟨none, 0, rfl, hl, by intro j x h; simp at h⟩
  · refine ⟨_, cap, rfl, hl, fun j x hx => ⟨g, 0, rfl, (Array.getElem?_eq_some_iff.1 hg).1, ?_⟩⟩
    have hj := (List.getElem?_eq_some_iff.1 hx).1
    rw [Nat.zero_add, cell_blk hg, ← Array.getElem?_toList]
    have h3 : (ints cs)[j]? = some (.int .i64 x) := by unfold ints; rw [List.getElem?_map, hx]; rfl
    rw [← ht, List.getElem?_take_of_lt (by omega)] at h3
    exact h3

theorem f19_nil (a b : Option Addr) (c d : Nat) (w : World) : Calls Tryd.prog 19 #[.slice a 0 c, .slice b 0 d] w fun en w' => en = .returned (.bool true) ∧ Below w.heap.size w w' := by
  go_enter Tryd.func19, Tryd.ntmps19
  go_wp2_with fail
  go_loop [5] (fun i => i = .int .i64 0) (fun _ => 0)
  case atStart => rfl
  case round =>
    subst hrel
    go_wp2_with fail
    go_ret
    exact ⟨rfl, Below.refl _ _⟩

theorem f19_some (b o c b2 o2 c2 : Nat) (l : List Int) (hl : l.length ≤ 9223372036854775807) (w : World) (hb : b < w.heap.size) (hb2 : b2 < w.heap.size) (h1 : ∀ (j : Nat) x, l[j]? = some x → w.cell? ⟨b, o + j, none⟩ = some (.int .i64 x)) (h2 : ∀ (j : Nat) x, l[j]? = some x → w.cell? ⟨b2, o2 + j, none⟩ = some (.int .i64 x)) : Calls Tryd.prog 19 #[.slice (some ⟨b, o, none⟩) l.length c, .slice (some ⟨b2, o2, none⟩) l.length c2] w fun en w' => en = .returned (.bool true) ∧ Below w.heap.size w w' := by
  have H1 := Lib.hid h1; clear h1
  have H2 := Lib.hid h2; clear h2
  go_enter Tryd.func19, Tryd.ntmps19
  go_wp2_with fail
  go_loopw [5] (fun i wr => ∃ j : Nat, j ≤ l.length ∧ i = .int .i64 j ∧ Hid (Below w.heap.size w wr)) (fun i _ => l.length - (intOf i).toNat)
  case atStart => exact ⟨0, Nat.zero_le _, rfl, Lib.hid (Below.refl _ _)⟩
  case round =>
    obtain ⟨j, hj, rfl, HB⟩ := hrel
    by_cases hlt : j < l.length
    · obtain ⟨x, hx⟩ : ∃ x, l[j]? = some x := ⟨l[j], by simp [hlt]⟩
      have hc1 := (HB.out.cell (p := ⟨b, o + j, none⟩) hb).trans (H1.out j x hx)
      have hc2 := (HB.out.cell (p := ⟨b2, o2 + j, none⟩) hb2).trans (H2.out j x hx)
      clear hx
      go_wp2_with fail
      go_quiet (fail)
      go_wp2_with fail
      go_roundw
      case rel => exact ⟨j + 1, by omega, by go_num, Lib.hid (below_drewN' HB.out _)⟩
      case measure => simp [intOf]; omega
    · go_wp2_with fail
      go_ret
      exact ⟨rfl, HB.out⟩

theorem f19 (v u : Value) (l : List Int) (w : World) (hv : IntsIn w v l) (hu : IntsIn w u l) : Calls Tryd.prog 19 #[v, u] w fun en w' => en = .returned (.bool true) ∧ Below w.heap.size w w' := by
  by_cases h0 : l = []
  · subst h0
    obtain ⟨a, c, rfl, -⟩ := hv
    obtain ⟨b, d, rfl, -⟩ := hu
    exact f19_nil a b c d w
  · obtain ⟨b, o, c, rfl, hl, hb, h1⟩ := hv.some h0
    obtain ⟨b2, o2, c2, rfl, -, hb2, h2⟩ := hu.some h0
    exact f19_some b o c b2 o2 c2 l hl w hb hb2 h1 h2

theorem of_codes {e : Int} (he : e = 0 ∨ e = 1 ∨ e = 2) {cs : List Int} {l : List UInt8} (h : ofL e cs = some l) : codesL e l = some cs ∧ l.length ≤ cs.length * 4 := by
  unfold ofL at h
  split at h
  · rename_i hh
    injection h with h
    subst h
    have hp := parts_of e he cs hh
    constructor
    · unfold codesL
      rw [hp, if_pos (by
        intro p hp'
        obtain ⟨c, hc, rfl⟩ := List.mem_map.1 hp'
        exact (has_pos (hh c hc)).1)]
      rw [List.map_map]
      exact congrArg some (List.map_id' cs)
    · clear hp
      clear hh
      induction cs with
      | nil => simp
      | cons c cs ih =>
        have := (enc_len e c).2
        rw [List.map_cons, List.flatten_cons, List.length_append, List.length_cons]
        omega
  · cases h

set_option maxRecDepth 100000 in
set_option maxHeartbeats 1000000 in
theorem f3 (v : Value) (cs : List Int) (e : Int) (w : World) (hv : IntsIn w v cs) (he : (Lit.int .i64 e).wf = true) (hT : Lib.Utf8Tabs 0 1 w) (h2 : 2 ≤ w.heap.size) : Calls Tryd.prog 3 #[v, .int .i64 e] w fun en w' => en = .returned (.bool true) ∧ Below w.heap.size w w' := by
  clear he
  by_cases hbig : 3000 < cs.length
  · have H15 := Lib.hid (f15 w hT h2)
    clear hT
    obtain ⟨a, cap, rfl, hl, -⟩ := hv
    go_enter Tryd.func3, Tryd.ntmps3
    go_wp2_with (go_at_call 15; refine H15.out.mono ?_; rintro en w4 ⟨rfl, hB⟩; have HB4 := Lib.hid hB; clear hB)
    go_ret
    exact ⟨rfl, HB4.out⟩
  · have hl : cs.length ≤ 3000 := by omega
    have HT := Lib.hid hT; clear hT
    have HV := Lib.hid hv
    by_cases hee : e = 0 ∨ e = 1 ∨ e = 2
    · have H16 := Lib.hid (f16 e hee v cs (by omega) w h2 hv)
      obtain ⟨a, cap, rfl, -⟩ := hv
      have HEE := Lib.hid hee; clear hee
      clear hbig
      unfold OfPost at H16
      cases ho : ofL e cs with
      | none =>
        rw [ho] at H16
        have HO := Lib.hid ho; clear ho
        go_enter Tryd.func3, Tryd.ntmps3
        go_wp2_with fail
        refine H16.out.mono ?_
        rintro en w2 ⟨rfl, hB⟩
        have hz2 := hB.size
        have HT2 := Lib.hid (tabs_below hB h2 HT.out)
        have HV2 := Lib.hid (HV.out.below hB)
        have HB2 := Lib.hid hB; clear hB
        have H17 := Lib.hid (f17 e HEE.out _ cs (by omega) w2 HV2.out)
        unfold OfPost at H17
        rw [HO.out] at H17
        go_wp2_with fail
        refine H17.out.mono ?_
        rintro en w3 ⟨rfl, hB⟩
        have hz3 := hB.size
        have H15 := Lib.hid (f15 w3 (tabs_below hB (by omega) HT2.out) (by omega))
        have HB3 := Lib.hid hB; clear hB
        go_wp2_with fail
        refine H15.out.mono ?_
        rintro en w4 ⟨rfl, hB⟩
        have HB4 := Lib.hid hB; clear hB
        go_wp2_with fail
        go_ret
        exact ⟨rfl, (HB2.out.trans (HB3.out.mono (by omega))).trans (HB4.out.mono (by omega))⟩
      | some l =>
        rw [ho] at H16
        have HO := Lib.hid ho; clear ho
        have HC := Lib.hid (of_codes HEE.out HO.out)
        have hsz : (bs l).size ≤ 12000 := by
          have h1 := str_len (bs l)
          have h2 := HC.out.2
          rw [str_bs] at h1
          omega
        have HC1 : Hid (codesL e (str (bs l)) = some cs) := Lib.hid HC.out.1
        clear HC
        have H17 := Lib.hid (fun w2 hv2 => f17 e HEE.out (.slice a cs.length cap) cs (by omega) w2 hv2)
        unfold OfPost at H17
        rw [HO.out] at H17
        go_enter Tryd.func3, Tryd.ntmps3
        go_wp2_with fail
        refine H16.out.mono ?_
        rintro en w2 ⟨rfl, hB⟩
        have hz2 := hB.size
        have HT2 := Lib.hid (tabs_below hB h2 HT.out)
        have HV2 := Lib.hid (HV.out.below hB)
        have HB2 := Lib.hid hB; clear hB
        go_wp2_with fail
        refine (H17.out w2 HV2.out).mono ?_
        rintro en w3 ⟨rfl, hB⟩
        have hz3 := hB.size
        have HT3 := Lib.hid (tabs_below hB (by omega) HT2.out)
        have HV3 := Lib.hid (HV2.out.below hB)
        have HB3 := Lib.hid hB; clear hB
        have H18 := Lib.hid (f18 e HEE.out (bs l) (by omega) w3 HT3.out (by omega))
        unfold CodesPost at H18
        rw [HC1.out] at H18
        go_wp2_with fail
        refine H18.out.mono ?_
        rintro en w4 ⟨⟨u, rfl, ho⟩, hB⟩
        have hz4 := hB.size
        have HT4 := Lib.hid (tabs_below hB (by omega) HT3.out)
        have HV4 := Lib.hid (HV3.out.below hB)
        have HB4 := Lib.hid hB; clear hB
        have HU := Lib.hid (ints_in rfl (by omega) ho); clear ho
        have H19 := Lib.hid (f19 u _ cs w4 HU.out HV4.out)
        go_wp2_with fail
        refine H19.out.mono ?_
        rintro en w5 ⟨rfl, hB⟩
        have hz5 := hB.size
        have H15 := Lib.hid (f15 w5 (tabs_below hB (by omega) HT4.out) (by omega))
        have HB5 := Lib.hid hB; clear hB
        go_wp2_with fail
        refine H15.out.mono ?_
        rintro en w6 ⟨rfl, hB⟩
        have HB6 := Lib.hid hB; clear hB
        go_wp2_with fail
        go_ret
        exact ⟨rfl, (((HB2.out.trans (HB3.out.mono (by omega))).trans (HB4.out.mono (by omega))).trans (HB5.out.mono (by omega))).trans (HB6.out.mono (by omega))⟩
    · have H16 := Lib.hid (f16_bad e v hee w)
      have H17 := Lib.hid (f17_bad e v hee w)
      have H15 := Lib.hid (f15 w HT.out h2)
      obtain ⟨a, cap, rfl, -⟩ := hv
      clear hee hbig
      go_enter Tryd.func3, Tryd.ntmps3
      go_wp2_with (first | (go_at_call 16; refine H16.out.mono ?_; rintro en w2 ⟨rfl, rfl⟩) | (go_at_call 17; refine H17.out.mono ?_; rintro en w2 ⟨rfl, rfl⟩) | (go_at_call 15; refine H15.out.mono ?_; rintro en w4 ⟨rfl, hB⟩; have HB4 := Lib.hid hB; clear hB))
      go_ret
      exact ⟨rfl, HB4.out⟩

end Go.Proofs.YtaanihidheccfaaDoor
