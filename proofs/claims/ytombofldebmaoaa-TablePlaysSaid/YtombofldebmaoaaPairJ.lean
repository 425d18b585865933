/-
  TablePlays, walked.
-/
import Derived.Test.YtombofldebmaoaaPairI
import Derived.Test.YtombofldebmaoaaPairH
namespace Go.Proofs.Ytombofldebmaoaa
open Go.RowKit
set_option linter.unusedVariables false
attribute [local go_sem ↓] Go.wp_at_zero Go.wp_at_succ

theorem Rest.side {w wx : World} {n bT bO bR bP : Nat} {X : Nat → Prop} (h : Rest w n bT bO bR bP X wx) (hn : n ≤ 1000) : ∃ T R, Side wx bT bR T R := by
  obtain ⟨T, O, R, P, G, h1, h2, h3, h4, h5⟩ := h
  obtain ⟨F, ht, -⟩ := h3.onT
  obtain ⟨F', hr, -⟩ := h3.onR
  have b1 := h1.bt.next
  have b2 := h1.bt.walks
  exact ⟨T, R, ⟨F, ht⟩, ⟨F', hr⟩, h1.sim, by omega, by omega⟩

theorem rest_alike {w wx : World} {n bT bO bR bP : Nat} {X : Nat → Prop} (h : Rest w n bT bO bR bP X wx) (hn : n ≤ 1000) {key : Int} (hk : (Lit.int .i64 key).wf = true) :
    Calls Try.prog 26 #[.agg #[.pointer (some ⟨bT, 0, none⟩), .pointer (some ⟨bO, 0, none⟩), .pointer (some ⟨bR, 0, none⟩), .pointer (some ⟨bP, 0, none⟩)], .int .i64 key] wx fun e w' => e = .returned (.bool true) ∧ Still wx w' := by
  obtain ⟨T, R, hs⟩ := h.side hn
  exact f26_any hs hk

set_option maxHeartbeats 4000000 in
theorem plays_any (v : Value) (ds : List DD) (key : Int) (w : World) (hd : Deeds w v ds) (hkey : (Lit.int .i64 key).wf = true) : Calls Try.prog 7 #[v, .int .i64 key] w fun e w' => e = .returned (.bool true) ∧ Still w w' := by
  have HD := Lib.hid hd
  have HOK := Lib.hid hd.ok
  have HKEY := Lib.hid hkey
  obtain ⟨av, capv, hv, hc1, hc2, _⟩ := hd.view
  have hcm : ds.length ≤ 9223372036854775807 := by unfold maxLen at hc2; omega
  clear hd hc1 hc2 hkey
  subst hv
  go_enter Try.func7, Try.ntmps7
  go_wp2_with fail
  refine (f24_any _).mono ?_
  rintro e w2 ⟨bT, bO, bR, bP, rfl, hq⟩
  have hs2 : Still w w2 := hq.touch
  have hz2 := hs2.size
  have HVAR : Hid ((w2.alloc (.cells #[.pointer (some ⟨bT, 0, none⟩), .pointer (some ⟨bO, 0, none⟩), .pointer (some ⟨bR, 0, none⟩), .pointer (some ⟨bP, 0, none⟩)] 46)).heap[w2.heap.size]? = some (.cells #[.pointer (some ⟨bT, 0, none⟩), .pointer (some ⟨bO, 0, none⟩), .pointer (some ⟨bR, 0, none⟩), .pointer (some ⟨bP, 0, none⟩)] 46 (0, 0))) := heap_alloc_new w2 _
  have HREST : Hid (Rest w 0 bT bO bR bP (fun k => k = w2.heap.size) (w2.alloc (.cells #[.pointer (some ⟨bT, 0, none⟩), .pointer (some ⟨bO, 0, none⟩), .pointer (some ⟨bR, 0, none⟩), .pointer (some ⟨bP, 0, none⟩)] 46))) := by
    refine ⟨_, _, _, _, _, Both.new 0, Both.new 0, hq.renew.base ((Touch.refl _ w2).alloc _), ?_, hs2.alloc _⟩
    rintro j (hj | ⟨hj1, hj2⟩)
    · exact hj.elim
    · exact ⟨hj1, by simp; omega, by omega⟩
  clear hq hs2
  simp only [pairVal]
  go_wp2_with fail
  obtain ⟨vb, hvb⟩ : ∃ vb, w2.heap.size = vb := ⟨_, rfl⟩
  rw [hvb] at HREST HVAR hz2
  simp only [hvb]
  go_loopw [6, 7] (fun ok i wx => ∃ k : Nat, k ≤ 100 ∧ k ≤ ds.length ∧ i = .int .i64 k ∧ ok = .bool true ∧ Hid (Rest w k bT bO bR bP (fun k => k = vb) wx) ∧ Hid (wx.heap[vb]? = some (.cells #[.pointer (some ⟨bT, 0, none⟩), .pointer (some ⟨bO, 0, none⟩), .pointer (some ⟨bR, 0, none⟩), .pointer (some ⟨bP, 0, none⟩)] 46 (0, 0)))) (fun _ i _ => 100 - (intOf i).toNat)
  case atStart => exact ⟨0, by omega, by omega, rfl, rfl, HREST.out, HVAR.out⟩
  case round =>
    obtain ⟨k, hk100, hkn, rfl, rfl, HR, HE2⟩ := hrel
    by_cases hlt : k < ds.length ∧ k < 100
    · obtain ⟨hlt1, hlt2⟩ := hlt
      obtain ⟨x, hx⟩ : ∃ x, ds[k]? = some x := ⟨ds[k], by simp [hlt1]⟩
      obtain ⟨g, o, cap, e, hg, hcs⟩ := HD.out.one hx
      simp only [Value.slice.injEq] at e
      obtain ⟨rfl, -, rfl⟩ := e
      have hst := HR.out.touch
      obtain ⟨x0, x1, x2, x3⟩ := hcs wr _ hst (fun h => h)
      have HCS : Hid (∀ w', Touch (fun k => w.heap.size ≤ k ∧ ¬ (k = vb)) wr w' → w'.cell? ⟨g, o + k * 4, none⟩ = some (.int .i64 x.d) ∧ w'.cell? ⟨g, o + k * 4 + 1, none⟩ = some (.int .i64 x.a) ∧ w'.cell? ⟨g, o + k * 4 + 2, none⟩ = some (.int .i64 x.b) ∧ w'.cell? ⟨g, o + k * 4 + 3, none⟩ = some x.pv) := by
        show ∀ w', _ → _
        intro w' ht
        exact hcs w' _ ((hst.mono (fun _ _ h => h.elim)).then ht) (fun h => by omega)
      have c0 := blk_c HE2.out 0 _ rfl
      have c1 := blk_c HE2.out 1 _ rfl
      have c2 := blk_c HE2.out 2 _ rfl
      have c3 := blk_c HE2.out 3 _ rfl
      have hlv := World.lt_of_heap HE2.out
      have H25 := Lib.hid (rest_does (HR.out.still (Touch.refl _ _).drew) (fun k hk => by rw [hk]; exact hlv) (by omega) (HOK.out x (List.mem_of_getElem? hx)))
      have hj0 : (0 : Int) ≤ (k : Int) := by omega
      have hj1 : (k : Int) < (ds.length : Int) := by omega
      clear hcs hx hst
      have hm8 : k % 8 = 0 ∨ k % 8 ≠ 0 := by omega
      rcases hm8 with hm8 | hm8
      · have hb1 : (((k : Int) % 8) != 0) = false := by simp; omega
        have hb2 : (((k : Int).tmod 8) != 0) = false := by rw [Int.tmod_eq_emod_of_nonneg hj0]; exact hb1
        clear hm8
        go_wp2_with fail
        go_region_held3 (fun w' => w'.cell? ⟨vb, 0, none⟩ = some (.pointer (some ⟨bT, 0, none⟩)) ∧ w'.cell? ⟨vb, 1, none⟩ = some (.pointer (some ⟨bO, 0, none⟩)) ∧ w'.cell? ⟨vb, 2, none⟩ = some (.pointer (some ⟨bR, 0, none⟩)) ∧ w'.cell? ⟨vb, 3, none⟩ = some (.pointer (some ⟨bP, 0, none⟩)) ∧ w'.cell? ⟨g, o + k * 4, none⟩ = some (.int .i64 x.d) ∧ w'.cell? ⟨g, o + k * 4 + 1, none⟩ = some (.int .i64 x.a) ∧ w'.cell? ⟨g, o + k * 4 + 2, none⟩ = some (.int .i64 x.b) ∧ w'.cell? ⟨g, o + k * 4 + 3, none⟩ = some x.pv) (go_keep)
          (first
            | (go_at_call 25; refine H25.out.mono ?_; rintro e w5 ⟨rfl, hr5, ht5⟩; obtain ⟨q0, q1, q2, q3⟩ := HCS.out w5 ⟨ht5.os, ht5.tape, ht5.output, ht5.size, ht5.block⟩; have hv5 : w5.heap[vb]? = some (.cells #[.pointer (some ⟨bT, 0, none⟩), .pointer (some ⟨bO, 0, none⟩), .pointer (some ⟨bR, 0, none⟩), .pointer (some ⟨bP, 0, none⟩)] 46 (0, 0)) := ht5.keeps HE2.out (fun h => h.2 rfl); have d0 := blk_c hv5 0 _ rfl; have d1 := blk_c hv5 1 _ rfl; have d2 := blk_c hv5 2 _ rfl; have d3 := blk_c hv5 3 _ rfl; have HR5 := Lib.hid hr5; have HV5 := Lib.hid hv5; have HT5 : Hid (Touch (fun k => w.heap.size ≤ k ∧ ¬ (k = vb)) wr w5) := ⟨ht5.os, ht5.tape, ht5.output, ht5.size, ht5.block⟩; clear hr5 ht5 hv5)
            | (go_at_call 26; refine (rest_alike HR5.out (by omega) HKEY.out).mono ?_; rintro e w6 ⟨rfl, hs6⟩; obtain ⟨p0, p1, p2, p3⟩ := HCS.out w6 (HT5.out.trans hs6 (fun _ h => h.elim)); have hv6 := hs6.keeps HV5.out (fun h => h); have e0 := blk_c hv6 0 _ rfl; have e1 := blk_c hv6 1 _ rfl; have e2 := blk_c hv6 2 _ rfl; have e3 := blk_c hv6 3 _ rfl; have HR6 := Lib.hid (HR5.out.still hs6); have HV6 := Lib.hid hv6; clear hs6 hv6))
        all_goals
          go_wp2_with fail
          go_roundw
          case rel => exact ⟨k + 1, by omega, by omega, by go_num, rfl, HR6.out, HV6.out⟩
          case measure => simp [intOf]; omega
      · have hb1 : (((k : Int) % 8) != 0) = true := by simp; omega
        have hb2 : (((k : Int).tmod 8) != 0) = true := by rw [Int.tmod_eq_emod_of_nonneg hj0]; exact hb1
        clear hm8
        go_wp2_with fail
        first
          | go_region_with ((go_at_call 25; refine H25.out.mono ?_; rintro e w5 ⟨rfl, hr5, ht5⟩; obtain ⟨q0, q1, q2, q3⟩ := HCS.out w5 ⟨ht5.os, ht5.tape, ht5.output, ht5.size, ht5.block⟩; have hv5 : w5.heap[vb]? = some (.cells #[.pointer (some ⟨bT, 0, none⟩), .pointer (some ⟨bO, 0, none⟩), .pointer (some ⟨bR, 0, none⟩), .pointer (some ⟨bP, 0, none⟩)] 46 (0, 0)) := ht5.keeps HE2.out (fun h => h.2 rfl); have d0 := blk_c hv5 0 _ rfl; have d1 := blk_c hv5 1 _ rfl; have d2 := blk_c hv5 2 _ rfl; have d3 := blk_c hv5 3 _ rfl; have HR6 := Lib.hid hr5; have HV6 := Lib.hid hv5; clear hr5 ht5 hv5))
          | fail
        all_goals
          go_wp2_with fail
          go_roundw
          case rel => exact ⟨k + 1, by omega, by omega, by go_num, rfl, HR6.out, HV6.out⟩
          case measure => simp [intOf]; omega
    · have c0 := blk_c HE2.out 0 _ rfl
      have c1 := blk_c HE2.out 1 _ rfl
      have c2 := blk_c HE2.out 2 _ rfl
      have c3 := blk_c HE2.out 3 _ rfl
      have hcase : (¬ k < ds.length) ∨ (k < ds.length ∧ ¬ k < 100) := by omega
      clear hlt
      have H26 := Lib.hid (rest_alike HR.out (by omega) HKEY.out)
      rcases hcase with hlt | ⟨hlt, hlt2⟩
      all_goals
        go_wp2_with fail
        refine H26.out.mono ?_
        rintro e w6 ⟨rfl, hs6⟩
        have HS6 := Lib.hid (HR.out.touch.then hs6)
        clear hs6
        go_wp2_with fail
        refine (sane_any _).mono ?_
        rintro e w7 ⟨rfl, hs7⟩
        have HS7 := Lib.hid (HS6.out.then hs7)
        clear hs7
        go_wp2_with fail
        go_ret
        exact ⟨rfl, HS7.out⟩

end Go.Proofs.Ytombofldebmaoaa
