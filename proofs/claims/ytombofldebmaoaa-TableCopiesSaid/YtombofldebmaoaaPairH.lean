/-
  alike: both tables tell the same.
-/
import Derived.Test.YtombofldebmaoaaPairD
import Derived.Deep.RegionHeld3
import Derived.Deep.DrawnRows
namespace Go.Proofs.Ytombofldebmaoaa
open Go.RowKit
set_option linter.unusedVariables false
attribute [local go_sem ↓] Go.wp_at_zero Go.wp_at_succ

theorem info3' : (Try.prog.info? 3).map (fun i => (i.zero, i.size, i.bytes)) = some (some (.int .i64 0), 1, 8) := by kernel_rfl

/-- The table and its fellow, as they are read. -/
structure Side (w : World) (bT bR : Nat) (T R : PT) : Prop where
  t : ∃ F, Tab w F bT T
  r : ∃ F, Ref w F bR R
  sim : Sim T R
  next : T.next < 1099511627776
  walks : T.walks.length < 1099511627776

theorem Side.still {w w' : World} {bT bR : Nat} {T R : PT} (h : Side w bT bR T R) (hs : Still w w') : Side w' bT bR T R := by
  obtain ⟨F, ht⟩ := h.t
  obtain ⟨F', hr⟩ := h.r
  exact ⟨⟨F, ht.still hs⟩, ⟨F', hr.still hs⟩, h.sim, h.next, h.walks⟩

abbrev box1 (w : World) (bT bO bR bP : Nat) : World :=
  w.alloc (.cells #[.pointer (some ⟨bT, 0, none⟩), .pointer (some ⟨bO, 0, none⟩), .pointer (some ⟨bR, 0, none⟩), .pointer (some ⟨bP, 0, none⟩)] 46)

theorem box1_kept {w W : World} {bT bO bR bP : Nat} (ht : Still (box1 w bT bO bR bP) W) : W.cell? ⟨w.heap.size, 0, none⟩ = some (.pointer (some ⟨bT, 0, none⟩)) ∧ W.cell? ⟨w.heap.size, 2, none⟩ = some (.pointer (some ⟨bR, 0, none⟩)) := by
  have k := ht.keeps (heap_alloc_new w _) (fun h => h)
  exact ⟨blk_c k 0 _ rfl, blk_c k 2 _ rfl⟩

section
variable {w : World} {bT bO bR bP : Nat} {T R : PT}

set_option maxRecDepth 100000 in
set_option maxHeartbeats 8000000 in
theorem f26_any (h : Side w bT bR T R) {key : Int} (hkey : (Lit.int .i64 key).wf = true) :
    Calls Try.prog 26 #[.agg #[.pointer (some ⟨bT, 0, none⟩), .pointer (some ⟨bO, 0, none⟩), .pointer (some ⟨bR, 0, none⟩), .pointer (some ⟨bP, 0, none⟩)], .int .i64 key] w fun e w' => e = .returned (.bool true) ∧ Still w w' := by
  have hs0 : Still w (box1 w bT bO bR bP) := (Touch.refl _ w).alloc _
  have hb := h.still hs0
  have hsim := h.sim
  obtain ⟨F0, ht0⟩ := h.t
  have hok := ht0.ok
  have hfew := hok.few
  have H19 : Hid (∀ W, Still (box1 w bT bO bR bP) W → Calls Try.prog 19 #[.pointer (some ⟨bT, 0, none⟩)] W (NewPairs W (pairsOf T.rows))) := fun W hW => by
    obtain ⟨F, ht⟩ := (hb.still hW).t
    exact f19_tab ht
  have H31 : Hid (∀ W, Still (box1 w bT bO bR bP) W → Calls Try.prog 31 #[.pointer (some ⟨bR, 0, none⟩)] W (NewPairs W (pairsOf T.rows))) := fun W hW => by
    obtain ⟨F, hr⟩ := (hb.still hW).r
    rw [hsim.pairs]
    exact f31_ref hr
  have hlen : (pairsOf T.rows).length = T.rows.length := by simp [pairsOf]
  have H18 : Hid (∀ W u v, Pairs W u (pairsOf T.rows) → Pairs W v (pairsOf T.rows) → Calls Try.prog 18 #[u, v] W fun e w' => e = .returned (.bool true) ∧ Still W w') := fun W u v hu hv =>
    (f18_any hu hv (by omega) (by omega)).mono fun e w' ⟨he, hs⟩ => ⟨by rw [he]; simp, hs⟩
  have H43 : Hid (∀ W, Still (box1 w bT bO bR bP) W → Calls Try.prog 43 #[.pointer (some ⟨bT, 0, none⟩)] W fun e w' => e = .returned (.int .i64 T.rows.length) ∧ Still W w') := fun W hW => by
    obtain ⟨F, ht⟩ := (hb.still hW).t
    exact f43_tab ht
  have H23 : Hid (∀ W, Still (box1 w bT bO bR bP) W → Calls Try.prog 23 #[.pointer (some ⟨bT, 0, none⟩)] W fun e w' => e = .returned (.bool T.frozen) ∧ Still W w') := fun W hW => by
    obtain ⟨F, ht⟩ := (hb.still hW).t
    exact f23_tab ht
  have HFZ : Hid (∀ W, Still (box1 w bT bO bR bP) W → W.cell? ⟨bR, 2, none⟩ = some (.bool T.frozen)) := fun W hW => by
    obtain ⟨F, rv, kv, hr⟩ := (hb.still hW).r
    rw [hsim.frozen]
    exact hr.c2
  have H20 : Hid (∀ k, (Lit.int .i64 k).wf = true → ∀ W, Still (box1 w bT bO bR bP) W → Calls Try.prog 20 #[.pointer (some ⟨bT, 0, none⟩), .int .i64 k] W fun e w' => e = .returned (.tuple #[.int .i64 (getI T.rows k).1, .int .i64 (getI T.rows k).2]) ∧ Still W w') := fun k hk W hW => by
    obtain ⟨F, ht⟩ := (hb.still hW).t
    exact f20_tab ht h.next hk
  have H59 : Hid (∀ k, ∀ W, Still (box1 w bT bO bR bP) W → Calls Try.prog 59 #[.pointer (some ⟨bR, 0, none⟩), .int .i64 k] W fun e w' => e = .returned (.tuple #[.int .i64 (getI T.rows k).1, .int .i64 (getI T.rows k).2]) ∧ Still W w') := fun k W hW => by
    obtain ⟨F, hr⟩ := (hb.still hW).r
    rw [getI_pairs hsim.rows]
    exact f59_ref hr k
  have H42 : Hid (∀ k, (Lit.int .i64 k).wf = true → ∀ W, Still (box1 w bT bO bR bP) W → Calls Try.prog 42 #[.pointer (some ⟨bT, 0, none⟩), .int .i64 k] W fun e w' => e = .returned (.tuple #[.int .i64 (whereI T.rows k).1, .int .i64 (whereI T.rows k).2]) ∧ Still W w') := fun k hk W hW => by
    obtain ⟨F, ht⟩ := (hb.still hW).t
    exact f42_tab ht h.next hk
  have H60 : Hid (∀ k, ∀ W, Still (box1 w bT bO bR bP) W → Calls Try.prog 60 #[.pointer (some ⟨bR, 0, none⟩), .int .i64 k] W fun e w' => e = .returned (.tuple #[.int .i64 (whereI T.rows k).1, .int .i64 (whereI T.rows k).2]) ∧ Still W w') := fun k W hW => by
    obtain ⟨F, hr⟩ := (hb.still hW).r
    rw [whereI_pairs hsim.rows]
    exact f60_ref hr k
  have H41 : Hid (∀ k, ∀ W, Still (box1 w bT bO bR bP) W → Calls Try.prog 41 #[.pointer (some ⟨bT, 0, none⟩), .int .i64 k] W fun e w' => e = .returned (.tuple #[.int .i64 (rowI T.rows k).1, .int .i64 (rowI T.rows k).2.1, .int .i64 (rowI T.rows k).2.2]) ∧ Still W w') := fun k W hW => by
    obtain ⟨F, ht⟩ := (hb.still hW).t
    exact f41_tab ht k
  have H61 : Hid (∀ k, ∀ W, Still (box1 w bT bO bR bP) W → Calls Try.prog 61 #[.pointer (some ⟨bR, 0, none⟩), .int .i64 k] W fun e w' => e = .returned (.tuple #[.int .i64 (rowI T.rows k).1, .int .i64 (rowI T.rows k).2.1, .int .i64 (rowI T.rows k).2.2]) ∧ Still W w') := fun k W hW => by
    obtain ⟨F, hr⟩ := (hb.still hW).r
    rw [rowI_pairs hsim.rows]
    exact f61_ref hr k
  have H39 : Hid (∀ W, Still (box1 w bT bO bR bP) W → Calls Try.prog 39 #[.pointer (some ⟨bT, 0, none⟩)] W fun e w' => e = .returned (.tuple #[.int .i64 (rowI T.rows 0).1, .int .i64 (rowI T.rows 0).2.1, .int .i64 (rowI T.rows 0).2.2]) ∧ Still W w') := fun W hW => by
    obtain ⟨F, ht⟩ := (hb.still hW).t
    exact f39_tab ht
  have H62 : Hid (∀ W, Still (box1 w bT bO bR bP) W → Calls Try.prog 62 #[.pointer (some ⟨bR, 0, none⟩)] W fun e w' => e = .returned (.tuple #[.int .i64 (rowI T.rows 0).1, .int .i64 (rowI T.rows 0).2.1, .int .i64 (rowI T.rows 0).2.2]) ∧ Still W w') := fun W hW => by
    obtain ⟨F, hr⟩ := (hb.still hW).r
    rw [rowI_pairs hsim.rows]
    exact f62_ref hr
  have HWF : Hid (∀ p ∈ pairsOf T.rows, (Lit.int .i64 p.1).wf = true) := fun p hp => by
    obtain ⟨r, hr, rfl⟩ := List.mem_map.1 hp
    exact hok.wf r hr
  have HK := Lib.hid hkey
  have HS0 := Lib.hid hs0
  obtain ⟨i0, hi, hz0, hz1, hz2⟩ := info_parts info3'
  have HI := Lib.hid hi
  have HLEN := Lib.hid hlen
  generalize T.frozen = FZ at *
  generalize rowI T.rows 0 = E0 at *
  clear h hb hsim ht0 hok hkey hs0 hlen hi
  go_enter Try.func26, Try.ntmps26
  go_wp2_with fail
  refine (H31.out _ (Touch.refl _ _)).mono ?_
  rintro e w1 ⟨v0, rfl, hp0, hn0, hs1⟩
  obtain ⟨a0, cap0, hv0, hcap0, _⟩ := hp0.view
  rw [HLEN.out] at hv0 hcap0
  subst hv0
  have HP0 := Lib.hid hp0
  have HC := Lib.hid hs1
  obtain ⟨c0, c2⟩ := box1_kept hs1
  have cf := HFZ.out _ hs1
  clear hp0 hn0 hs1
  go_wp2_with fail
  have HC1 := Lib.hid HC.out.drew
  go_region_held3 (fun w' => w'.cell? ⟨w.heap.size, 0, none⟩ = some (.pointer (some ⟨bT, 0, none⟩)) ∧ w'.cell? ⟨w.heap.size, 2, none⟩ = some (.pointer (some ⟨bR, 0, none⟩)) ∧ w'.cell? ⟨bR, 2, none⟩ = some (.bool FZ)) (go_keep)
    (first
      | (go_at_call 19; refine (H19.out _ HC1.out).mono ?_; rintro e w2 ⟨v1, rfl, hp1, hn1, hs⟩; have HP1 := Lib.hid hp1; have HC2 := Lib.hid (HC1.out.then hs); have HP2 := Lib.hid (HP0.out.still ((Touch.refl (fun _ => False) w1).drew.then hs)); obtain ⟨d0, d2⟩ := box1_kept HC2.out; have df := HFZ.out _ HC2.out; clear hp1 hn1 hs)
      | (go_at_call 18; refine (H18.out _ _ _ HP1.out HP2.out).mono ?_; rintro e w3 ⟨rfl, hs⟩; have HC3 := Lib.hid (HC2.out.then hs); have HP3 := Lib.hid (HP2.out.still hs); obtain ⟨e0, e2⟩ := box1_kept HC3.out; have ef := HFZ.out _ HC3.out; clear hs)
      | (go_at_call 43; refine (H43.out _ HC3.out).mono ?_; rintro e w4 ⟨rfl, hs⟩; have HC4 := Lib.hid (HC3.out.then hs); have HP4 := Lib.hid (HP3.out.still hs); obtain ⟨f0, f2⟩ := box1_kept HC4.out; have ff := HFZ.out _ HC4.out; clear hs)
      | (go_at_call 23; refine (H23.out _ HC4.out).mono ?_; rintro e w5 ⟨rfl, hs⟩; have HC5 := Lib.hid (HC4.out.then hs); have HP5 := Lib.hid (HP4.out.still hs); obtain ⟨g0, g2⟩ := box1_kept HC5.out; have gf := HFZ.out _ HC5.out; clear hs))
  all_goals
    have hz5 := HC5.out.size
    go_wp2_with fail
    go_loopw [6, 7] (fun v i wx => ∃ (k : Nat) (ks : List Int), k ≤ 8 ∧ k ≤ T.rows.length ∧ i = .int .i64 k ∧ Hid (ks.length = 4 + k) ∧ Hid (∀ x ∈ ks, (Lit.int .i64 x).wf = true) ∧ Hid (wx.ownsRow w5.heap.size 3 1 v (4 + k) (ks.map (Value.int .i64))) ∧ Hid (Still (box1 w bT bO bR bP) wx) ∧ Hid (Still w5 wx)) (fun _ i _ => 8 - (intOf i).toNat)
    case atStart =>
      refine ⟨0, [key, 0, 1, 2], by omega, by omega, rfl, rfl, ?_, ?_, HC5.out.alloc _, (Touch.refl _ _).alloc _⟩
      · show ∀ x ∈ _, _
        intro x hx
        simp only [List.mem_cons, List.not_mem_nil, or_false] at hx
        rcases hx with rfl | rfl | rfl | rfl
        · exact HK.out
        · rfl
        · rfl
        · rfl
      · exact ⟨rfl, .inr ⟨w5.heap.size, 4, _, rfl, Nat.le_refl _, heap_alloc_new w5 _, by omega, by unfold maxLen; omega, rfl, rfl⟩⟩
    case round =>
      obtain ⟨k, ks, hk8, hkn, rfl, HKL, HKW, HO, HCX, HSX⟩ := hrel
      have hz6 := HSX.out.size
      by_cases hlt : k < T.rows.length ∧ k < 8
      · obtain ⟨hlt1, hlt2⟩ := hlt
        obtain ⟨p, hp⟩ : ∃ p, (pairsOf T.rows)[k]? = some p := ⟨(pairsOf T.rows)[k]'(by rw [HLEN.out]; exact hlt1), by rw [List.getElem?_eq_getElem]⟩
        obtain ⟨g, o, cap, e, _, hg, hcs⟩ := HP5.out.at (S := fun _ => False) hp
        obtain ⟨x0, -⟩ := hcs wr HSX.out (fun h => h)
        simp only [Value.slice.injEq] at e
        obtain ⟨rfl, -, rfl⟩ := e
        have HPW : Hid ((Lit.int .i64 p.1).wf = true) := HWF.out p (List.mem_of_getElem? hp)
        clear hcs hp
        go_wp2_with (at_builtin; refine wpList_append_own _ rfl (.tmp 69) (.tmp 75) 83 rfl w5.heap.size 3 i0 (.int .i64 0) 1 8 Try.underlying83 HI.out hz0 hz1 hz2 rfl (by decide) _ _ _ rfl (HO.out.alloc _) ⟨wr.heap.size, 0, none⟩ 1 1 [.int .i64 p.1] rfl rfl ?c1 ?c2 ?c3 ?c4 ?c5 ?_)
        case c1 => exact cellsAt (heap_alloc_new _ _)
        case c2 => intro u hu; simp at hu; subst hu; rfl
        case c3 => unfold maxLen; omega
        case c4 => omega
        case c5 => simp; omega
        intro v' w6 hown' hgrow _
        have HN : Hid (w6.ownsRow w5.heap.size 3 1 v' (4 + (k + 1)) ((ks ++ [p.1]).map (Value.int .i64))) := by
          show World.ownsRow _ _ _ _ _ _ _
          rw [List.map_append]
          exact hown'
        have HS1 : Hid (Still (box1 w bT bO bR bP) w6) := (HCX.out.alloc _).grown hgrow (fun i hi => .inr (by have := (HO.out.lt i hi).1; omega))
        have HS2 : Hid (Still w5 w6) := (HSX.out.alloc _).grown hgrow (fun i hi => .inr (HO.out.lt i hi).1)
        have HL2 : Hid ((ks ++ [p.1]).length = 4 + (k + 1)) := by show _ = _; rw [List.length_append, HKL.out]; rfl
        have HW2 : Hid (∀ x ∈ ks ++ [p.1], (Lit.int .i64 x).wf = true) := by
          show ∀ x ∈ _, _
          intro x hx
          rcases List.mem_append.1 hx with h | h
          · exact HKW.out x h
          · simp only [List.mem_singleton] at h
            rw [h]; exact HPW.out
        clear hown' hgrow
        go_wp2_with fail
        go_roundw
        case rel => exact ⟨k + 1, ks ++ [p.1], by omega, by omega, by go_num, HL2.out, HW2.out, HN.out, HS1.out, HS2.out⟩
        case measure => simp [intOf]; omega
      · have HO6 := Lib.hid (owns_base HO.out).1
        obtain ⟨L, hL⟩ : ∃ L, 4 + k = L := ⟨_, rfl⟩
        have hL12 : L ≤ 12 := by omega
        rw [hL] at HO6 HKL
        clear HO
        obtain ⟨ao6, cap6, hv6, hc6, _, hview⟩ := owns_view HO6.out
        subst hv6
        have HV := Lib.hid hview
        have HC6 := HCX
        have HNB : Hid (¬ (k < T.rows.length ∧ k < 8)) := hlt
        clear hview hL
        have hcase : (¬ k < T.rows.length) ∨ (k < T.rows.length ∧ ¬ k < 8) := by omega
        clear hlt
        have HTAIL : True := trivial
        rcases hcase with hlt | ⟨hlt, hlt8⟩
        all_goals
          go_wp2_with fail
          obtain ⟨wy, hwy⟩ : ∃ wy : World, wy = wr := ⟨_, rfl⟩
          subst hwy
          go_loopw [8] (fun i wx => ∃ q : Nat, q ≤ L ∧ i = .int .i64 q ∧ Hid (Still wy wx)) (fun i _ => L - (intOf i).toNat)
          case atStart => exact ⟨0, Nat.zero_le _, rfl, Touch.refl _ _⟩
          case round =>
            obtain ⟨q, hq, rfl, HB⟩ := hrel
            by_cases hlt2 : q < L
            · obtain ⟨x, hx⟩ : ∃ x, ks[q]? = some x := ⟨ks[q]'(by rw [HKL.out]; exact hlt2), by rw [List.getElem?_eq_getElem]⟩
              obtain ⟨g6, e6, hk6, -, -⟩ := HV.out q (.int .i64 x) (by simp [hx])
              subst e6
              have HX : Hid ((Lit.int .i64 x).wf = true) := HKW.out x (List.mem_of_getElem? hx)
              have hl6 := World.block_lt_of_cell? wy ⟨g6, q, none⟩ hk6
              have HCELL : Hid (∀ W, Still wr W → W.cell? ⟨w.heap.size, 0, none⟩ = some (.pointer (some ⟨bT, 0, none⟩)) ∧ W.cell? ⟨w.heap.size, 2, none⟩ = some (.pointer (some ⟨bR, 0, none⟩)) ∧ W.cell? ⟨g6, q, none⟩ = some (.int .i64 x)) := by
                show ∀ W, _ → _
                intro W hW
                obtain ⟨r0, r2⟩ := box1_kept ((HC6.out.then HB.out).then hW)
                exact ⟨r0, r2, ((HB.out.then hW).cell (p := ⟨g6, q, none⟩) hl6 (fun h => h)).trans hk6⟩
              have HC7 : Hid (Still (box1 w bT bO bR bP) wr) := HC6.out.then HB.out
              have HW : Hid (Still wr wr) := Touch.refl _ _
              have hi0 : (0 : Int) ≤ (q : Int) := by omega
              have hi1 : (q : Int) < (L : Int) := by omega
              obtain ⟨E1, hE1⟩ : ∃ E1, getI T.rows x = E1 := ⟨_, rfl⟩
              obtain ⟨E2, hE2⟩ : ∃ E2, whereI T.rows x = E2 := ⟨_, rfl⟩
              obtain ⟨E3, hE3⟩ : ∃ E3, rowI T.rows x = E3 := ⟨_, rfl⟩
              have h20 := H20.out x HX.out
              have h59 := H59.out x
              have h42 := H42.out x HX.out
              have h60 := H60.out x
              have h41 := H41.out x
              have h61 := H61.out x
              rw [hE1] at h20 h59
              rw [hE2] at h42 h60
              rw [hE3] at h41 h61
              have K20 := Lib.hid h20
              have K59 := Lib.hid h59
              have K42 := Lib.hid h42
              have K60 := Lib.hid h60
              have K41 := Lib.hid h41
              have K61 := Lib.hid h61
              clear hx hk6 hE1 hE2 hE3 h20 h59 h42 h60 h41 h61
              obtain ⟨m00, m02, m0k⟩ := HCELL.out _ HW.out
              go_wp2_with fail
              have HWD := Lib.hid HW.out.drew
              go_region_held3 (fun w' => w'.cell? ⟨w.heap.size, 0, none⟩ = some (.pointer (some ⟨bT, 0, none⟩)) ∧ w'.cell? ⟨g6, q, none⟩ = some (.int .i64 x)) (go_keep)
                ((go_at_call 20; refine (K20.out _ (HC7.out.then HWD.out)).mono ?_; rintro e x1 ⟨rfl, hs⟩; replace HW := Lib.hid (HWD.out.then hs); obtain ⟨o00, o02, o0k⟩ := HCELL.out _ HW.out; clear hs HWD))
              clear m00 m02 m0k
              clear o00 o02 o0k
              obtain ⟨m10, m12, m1k⟩ := HCELL.out _ HW.out
              go_wp2_with fail
              have HWD := Lib.hid HW.out.drew
              go_region_held3 (fun w' => w'.cell? ⟨w.heap.size, 2, none⟩ = some (.pointer (some ⟨bR, 0, none⟩)) ∧ w'.cell? ⟨g6, q, none⟩ = some (.int .i64 x)) (go_keep)
                ((go_at_call 59; refine (K59.out _ (HC7.out.then HWD.out)).mono ?_; rintro e x2 ⟨rfl, hs⟩; replace HW := Lib.hid (HWD.out.then hs); obtain ⟨o10, o12, o1k⟩ := HCELL.out _ HW.out; clear hs HWD))
              clear m10 m12 m1k
              clear o10 o12 o1k
              obtain ⟨m20, m22, m2k⟩ := HCELL.out _ HW.out
              go_wp2_with fail
              have HWD := Lib.hid HW.out.drew
              go_region_held3 (fun w' => w'.cell? ⟨w.heap.size, 0, none⟩ = some (.pointer (some ⟨bT, 0, none⟩)) ∧ w'.cell? ⟨g6, q, none⟩ = some (.int .i64 x)) (go_keep)
                ((go_at_call 42; refine (K42.out _ (HC7.out.then HWD.out)).mono ?_; rintro e x3 ⟨rfl, hs⟩; replace HW := Lib.hid (HWD.out.then hs); obtain ⟨o20, o22, o2k⟩ := HCELL.out _ HW.out; clear hs HWD))
              clear m20 m22 m2k
              clear o20 o22 o2k
              obtain ⟨m30, m32, m3k⟩ := HCELL.out _ HW.out
              go_wp2_with fail
              have HWD := Lib.hid HW.out.drew
              go_region_held3 (fun w' => w'.cell? ⟨w.heap.size, 2, none⟩ = some (.pointer (some ⟨bR, 0, none⟩)) ∧ w'.cell? ⟨g6, q, none⟩ = some (.int .i64 x)) (go_keep)
                ((go_at_call 60; refine (K60.out _ (HC7.out.then HWD.out)).mono ?_; rintro e x4 ⟨rfl, hs⟩; replace HW := Lib.hid (HWD.out.then hs); obtain ⟨o30, o32, o3k⟩ := HCELL.out _ HW.out; clear hs HWD))
              clear m30 m32 m3k
              clear o30 o32 o3k
              obtain ⟨m40, m42, m4k⟩ := HCELL.out _ HW.out
              go_wp2_with fail
              have HWD := Lib.hid HW.out.drew
              go_region_held3 (fun w' => w'.cell? ⟨w.heap.size, 0, none⟩ = some (.pointer (some ⟨bT, 0, none⟩)) ∧ w'.cell? ⟨g6, q, none⟩ = some (.int .i64 x)) (go_keep)
                ((go_at_call 41; refine (K41.out _ (HC7.out.then HWD.out)).mono ?_; rintro e x5 ⟨rfl, hs⟩; replace HW := Lib.hid (HWD.out.then hs); obtain ⟨o40, o42, o4k⟩ := HCELL.out _ HW.out; clear hs HWD))
              clear m40 m42 m4k
              clear o40 o42 o4k
              obtain ⟨m50, m52, m5k⟩ := HCELL.out _ HW.out
              go_wp2_with fail
              have HWD := Lib.hid HW.out.drew
              go_region_held3 (fun w' => w'.cell? ⟨w.heap.size, 2, none⟩ = some (.pointer (some ⟨bR, 0, none⟩)) ∧ w'.cell? ⟨g6, q, none⟩ = some (.int .i64 x)) (go_keep)
                ((go_at_call 61; refine (K61.out _ (HC7.out.then HWD.out)).mono ?_; rintro e x6 ⟨rfl, hs⟩; replace HW := Lib.hid (HWD.out.then hs); obtain ⟨o50, o52, o5k⟩ := HCELL.out _ HW.out; clear hs HWD))
              clear m50 m52 m5k
              clear o50 o52 o5k
              go_wp2_with fail
              go_roundw
              case rel => exact ⟨q + 1, by omega, by go_num, HB.out.then HW.out⟩
              case measure => simp [intOf]; omega
            · have HC8 := Lib.hid (HC6.out.then HB.out)
              obtain ⟨r0, r2⟩ := box1_kept HC8.out
              go_wp2_with fail
              refine (H39.out _ HC8.out).mono ?_
              rintro e y1 ⟨rfl, hs⟩
              have HC9 := Lib.hid (HC8.out.then hs)
              obtain ⟨s0, s2⟩ := box1_kept HC9.out
              clear hs
              go_wp2_with fail
              refine (H62.out _ HC9.out).mono ?_
              rintro e y2 ⟨rfl, hs⟩
              have HC10 := Lib.hid (HC9.out.then hs)
              clear hs
              go_wp2_with fail
              go_ret
              exact ⟨rfl, HS0.out.then HC10.out⟩
end

end Go.Proofs.Ytombofldebmaoaa
