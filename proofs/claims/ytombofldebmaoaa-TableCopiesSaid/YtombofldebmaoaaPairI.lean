/-
  played: deeds at new tables; the state of a pair between two deeds.
-/
import Derived.Test.YtombofldebmaoaaPairG
namespace Go.Proofs.Ytombofldebmaoaa
open Go.RowKit
set_option linter.unusedVariables false
attribute [local go_sem ↓] Go.wp_at_zero Go.wp_at_succ

/-- A pair made since w, n deeds done; X is none of its blocks. -/
def Rest (w : World) (n bT bO bR bP : Nat) (X : Nat → Prop) (wx : World) : Prop :=
  ∃ T O R P G, Both n T R ∧ Both n O P ∧ QM wx G bT bO bR bP T O R P wx ∧ (∀ j, G j → w.heap.size ≤ j ∧ j < wx.heap.size ∧ ¬ X j) ∧ Still w wx

theorem Rest.touch {w wx : World} {n bT bO bR bP : Nat} {X : Nat → Prop} (h : Rest w n bT bO bR bP X wx) : Still w wx := by
  obtain ⟨T, O, R, P, G, h1, h2, h3, h4, h5⟩ := h
  exact h5

theorem Rest.still {w wx wy : World} {n bT bO bR bP : Nat} {X : Nat → Prop} (h : Rest w n bT bO bR bP X wx) (hs : Still wx wy) : Rest w n bT bO bR bP X wy := by
  obtain ⟨T, O, R, P, G, h1, h2, h3, h4, h5⟩ := h
  have := hs.size
  exact ⟨T, O, R, P, G, h1, h2, h3.base hs, fun j hj => ⟨(h4 j hj).1, by have := (h4 j hj).2.1; omega, (h4 j hj).2.2⟩, h5.then hs⟩

/-- X is widened by new blocks. -/
theorem Rest.beside {w wx : World} {n bT bO bR bP : Nat} {X X' : Nat → Prop} (h : Rest w n bT bO bR bP X wx) (hX : ∀ k, X' k → X k ∨ wx.heap.size ≤ k ∨ k < w.heap.size) : Rest w n bT bO bR bP X' wx := by
  obtain ⟨T, O, R, P, G, h1, h2, h3, h4, h5⟩ := h
  refine ⟨T, O, R, P, G, h1, h2, h3, fun j hj => ⟨(h4 j hj).1, (h4 j hj).2.1, fun hx => ?_⟩, h5⟩
  have := h4 j hj
  rcases hX j hx with h | h | h
  · exact this.2.2 h
  · omega
  · omega

/-- The reckoning begins earlier. -/
theorem Rest.before {w0 w wx : World} {n bT bO bR bP : Nat} {X : Nat → Prop} (h : Rest w n bT bO bR bP X wx) (hs : Still w0 w) : Rest w0 n bT bO bR bP X wx := by
  obtain ⟨T, O, R, P, G, h1, h2, h3, h4, h5⟩ := h
  have := hs.size
  exact ⟨T, O, R, P, G, h1, h2, h3, fun j hj => ⟨by have := (h4 j hj).1; omega, (h4 j hj).2⟩, hs.then h5⟩

theorem Rest.mono {w wx : World} {n m bT bO bR bP : Nat} {X : Nat → Prop} (h : Rest w n bT bO bR bP X wx) (hn : n ≤ m) : Rest w m bT bO bR bP X wx := by
  obtain ⟨T, O, R, P, G, h1, h2, h3, h4, h5⟩ := h
  exact ⟨T, O, R, P, G, h1.mono hn, h2.mono hn, h3, h4, h5⟩

theorem DD.ok.still {w w' : World} {x : DD} (h : x.ok w) (hs : Still w w') : x.ok w' := ⟨h.wd, h.wa, h.wb, h.wp.kept hs (fun _ _ _ _ _ _ h => h)⟩

/-- A deed. -/
theorem rest_does {w wx : World} {n bT bO bR bP : Nat} {X : Nat → Prop} (h : Rest w n bT bO bR bP X wx) (hX : ∀ k, X k → k < wx.heap.size) (hn : n ≤ 1000) {x : DD} (hx : x.ok w) :
    Calls Try.prog 25 #[.agg #[.pointer (some ⟨bT, 0, none⟩), .pointer (some ⟨bO, 0, none⟩), .pointer (some ⟨bR, 0, none⟩), .pointer (some ⟨bP, 0, none⟩)], .agg #[.int .i64 x.d, .int .i64 x.a, .int .i64 x.b, x.pv]] wx fun e w' => e = .returned (.bool true) ∧ Rest w (n + 1) bT bO bR bP X w' ∧ Touch (fun k => w.heap.size ≤ k ∧ ¬ X k) wx w' := by
  obtain ⟨T, O, R, P, G, h1, h2, h3, h4, h5⟩ := h
  refine (does_any h3 (fun k hk => (h4 k hk).2.1) h1 h2 hn (hx.still h5) ?_).mono ?_
  · intro g o l c e hz hG
    have h6 := hx.wp.pairs.lt hz g ⟨o, l, c, e⟩
    have := (h4 g hG).1
    omega
  · rintro e w' ⟨rfl, T', O', R', P', q1, q2, q3⟩
    have ht := q3.touch
    have hsz := ht.size
    refine ⟨rfl, ⟨T', O', R', P', _, q1, q2, q3.renew, ?_, h5.trans ht (fun k hk => .inr (h4 k hk).1)⟩, ht.mono (fun k hk hG => ⟨(h4 k hG).1, (h4 k hG).2.2⟩)⟩
    have := h5.size
    rintro j (hj | ⟨hj1, hj2⟩)
    · have := h4 j hj
      exact ⟨this.1, by omega, this.2.2⟩
    · exact ⟨by omega, hj2, fun hx => by have := hX j hx; omega⟩

/-- One deed's cells. -/
theorem Deeds.one {w : World} {v : Value} {ds : List DD} (h : Deeds w v ds) {i : Nat} {x : DD} (hx : ds[i]? = some x) : ∃ g o cap, v = .slice (some ⟨g, o, none⟩) ds.length cap ∧ g < w.heap.size ∧ ∀ w' (S : Nat → Prop), Touch S w w' → ¬ S g →
    w'.cell? ⟨g, o + i * 4, none⟩ = some (.int .i64 x.d) ∧ w'.cell? ⟨g, o + i * 4 + 1, none⟩ = some (.int .i64 x.a) ∧ w'.cell? ⟨g, o + i * 4 + 2, none⟩ = some (.int .i64 x.b) ∧ w'.cell? ⟨g, o + i * 4 + 3, none⟩ = some x.pv := by
  obtain ⟨ao, cap, rfl, _, _, hv⟩ := h.view
  obtain ⟨g, o, rfl, hg, x0, x1, x2, x3⟩ := hv i x hx
  exact ⟨g, o, cap, rfl, hg, fun w' S ht hS => ⟨(ht.cell (p := ⟨g, _, none⟩) hg hS).trans x0, (ht.cell (p := ⟨g, _, none⟩) hg hS).trans x1, (ht.cell (p := ⟨g, _, none⟩) hg hS).trans x2, (ht.cell (p := ⟨g, _, none⟩) hg hS).trans x3⟩⟩

def Played (w : World) (e : Ending) (w' : World) : Prop :=
  ∃ bT bO bR bP, e = .returned (.tuple #[pairVal bT bO bR bP, .bool true]) ∧ Rest w 100 bT bO bR bP (fun _ => False) w'

theorem bodyPost22 {R : Ending → World → Prop} {a : Act} {W : World} {g bT bO bR bP : Nat} {x : Bool} (ha : a.tmps.getD 2 undef = .pointer (some ⟨g, 0, none⟩)) (hb : a.tmps.getD 3 undef = .bool x)
    (h : W.heap[g]? = some (.cells #[.pointer (some ⟨bT, 0, none⟩), .pointer (some ⟨bO, 0, none⟩), .pointer (some ⟨bR, 0, none⟩), .pointer (some ⟨bP, 0, none⟩)] 46 (0, 0))) (hd : a.defers = [])
    (hR : R (.returned (.tuple #[pairVal bT bO bR bP, .bool x])) W) : bodyPost Try.prog Try.f22 R .ret a W := by
  have q0 := blk_c h 0 _ rfl
  have q1 := blk_c h 1 _ rfl
  have q2 := blk_c h 2 _ rfl
  have q3 := blk_c h 3 _ rfl
  have ha' : a.tmps[2]?.getD undef = .pointer (some ⟨g, 0, none⟩) := by simpa using ha
  have hb' : a.tmps[3]?.getD undef = .bool x := by simpa using hb
  refine bodyPost_ret (v := .tuple #[pairVal bT bO bR bP, .bool x]) ?_ hd hR
  simp [results, Try.results22, go_sem, ha', hb', q0, q1, q2, q3, pairVal]

theorem Rest.aside {w wx wy : World} {n bT bO bR bP : Nat} {X S : Nat → Prop} (h : Rest w n bT bO bR bP X wx) (ht : Touch S wx wy) (hS : ∀ k, S k → X k ∧ k < wx.heap.size ∧ w.heap.size ≤ k) : Rest w n bT bO bR bP (fun _ => False) wy := by
  obtain ⟨T, O, R, P, G, h1, h2, h3, h4, h5⟩ := h
  have q := (h3.aside ht (fun k hk => ⟨(hS k hk).2.1, fun hG => (h4 k hG).2.2 (hS k hk).1⟩)).renew
  have hsz := ht.size
  have hs5 := h5.size
  refine ⟨T, O, R, P, _, h1, h2, q, ?_, h5.trans ht (fun k hk => .inr (hS k hk).2.2)⟩
  rintro j ((hj | hj) | ⟨hj1, hj2⟩)
  · have := h4 j hj
    exact ⟨this.1, by omega, fun h => h⟩
  · have := hS j hj
    exact ⟨this.2.2, by omega, fun h => h⟩
  · exact ⟨by omega, hj2, fun h => h⟩

set_option maxHeartbeats 4000000 in
theorem f22_any {w : World} {v : Value} {ds : List DD} (hd : Deeds w v ds) : Calls Try.prog 22 #[v] w (Played w) := by
  have HD := Lib.hid hd
  have HOK := Lib.hid hd.ok
  obtain ⟨av, capv, hv, hc1, hc2, _⟩ := hd.view
  have hcm : ds.length ≤ 9223372036854775807 := by unfold maxLen at hc2; omega
  clear hd hc1 hc2
  subst hv
  go_enter Try.func22, Try.ntmps22
  go_wp2_with fail
  refine (f24_any _).mono ?_
  rintro e w2 ⟨bT, bO, bR, bP, rfl, hq⟩
  have hres := heap_alloc_new w (.cells #[.pointer none, .pointer none, .pointer none, .pointer none] 46)
  have hs2 : Still (w.alloc (.cells #[.pointer none, .pointer none, .pointer none, .pointer none] 46)) w2 := hq.touch
  have hz2 := hs2.size
  simp at hz2
  have HRES : Hid ((w2.alloc (.cells #[.pointer (some ⟨bT, 0, none⟩), .pointer (some ⟨bO, 0, none⟩), .pointer (some ⟨bR, 0, none⟩), .pointer (some ⟨bP, 0, none⟩)] 46)).heap[w.heap.size]? = some (.cells #[.pointer none, .pointer none, .pointer none, .pointer none] 46 (0, 0))) :=
    (Below.heap_alloc w2 _ _ (by omega)).trans (hs2.keeps hres (fun h => h))
  have HVAR : Hid ((w2.alloc (.cells #[.pointer (some ⟨bT, 0, none⟩), .pointer (some ⟨bO, 0, none⟩), .pointer (some ⟨bR, 0, none⟩), .pointer (some ⟨bP, 0, none⟩)] 46)).heap[w2.heap.size]? = some (.cells #[.pointer (some ⟨bT, 0, none⟩), .pointer (some ⟨bO, 0, none⟩), .pointer (some ⟨bR, 0, none⟩), .pointer (some ⟨bP, 0, none⟩)] 46 (0, 0))) := heap_alloc_new w2 _
  have HREST : Hid (Rest w 0 bT bO bR bP (fun k => k = w.heap.size ∨ k = w2.heap.size) (w2.alloc (.cells #[.pointer (some ⟨bT, 0, none⟩), .pointer (some ⟨bO, 0, none⟩), .pointer (some ⟨bR, 0, none⟩), .pointer (some ⟨bP, 0, none⟩)] 46))) := by
    refine ⟨_, _, _, _, _, Both.new 0, Both.new 0, hq.renew.base ((Touch.refl _ w2).alloc _), ?_, (((Touch.refl _ w).alloc _).then hs2).alloc _⟩
    rintro j (hj | ⟨hj1, hj2⟩)
    · exact hj.elim
    · simp at hj1
      refine ⟨by omega, by simp; omega, ?_⟩
      rintro (h | h) <;> omega
  have hb2 : w.heap.size < w2.heap.size := by omega
  clear hq hres hs2 hz2
  simp only [pairVal]
  go_wp2_with fail
  obtain ⟨vb, hvb⟩ : ∃ vb, w2.heap.size = vb := ⟨_, rfl⟩
  rw [hvb] at HREST HVAR hb2
  simp only [hvb]
  go_loopw [5, 6] (fun ok i wx => ∃ k : Nat, k ≤ 100 ∧ k ≤ ds.length ∧ i = .int .i64 k ∧ ok = .bool true ∧ Hid (Rest w k bT bO bR bP (fun k => k = w.heap.size ∨ k = vb) wx) ∧ Hid (wx.heap[w.heap.size]? = some (.cells #[.pointer none, .pointer none, .pointer none, .pointer none] 46 (0, 0))) ∧ Hid (wx.heap[vb]? = some (.cells #[.pointer (some ⟨bT, 0, none⟩), .pointer (some ⟨bO, 0, none⟩), .pointer (some ⟨bR, 0, none⟩), .pointer (some ⟨bP, 0, none⟩)] 46 (0, 0)))) (fun _ i _ => 100 - (intOf i).toNat)
  case atStart => exact ⟨0, by omega, by omega, rfl, rfl, HREST.out, HRES.out, HVAR.out⟩
  case round =>
    obtain ⟨k, hk100, hkn, rfl, rfl, HR, HE1, HE2⟩ := hrel
    by_cases hlt : k < ds.length ∧ k < 100
    · obtain ⟨hlt1, hlt2⟩ := hlt
      obtain ⟨x, hx⟩ : ∃ x, ds[k]? = some x := ⟨ds[k], by simp [hlt1]⟩
      obtain ⟨g, o, cap, e, hg, hcs⟩ := HD.out.one hx
      simp only [Value.slice.injEq] at e
      obtain ⟨rfl, -, rfl⟩ := e
      have hst := HR.out.touch
      obtain ⟨x0, x1, x2, x3⟩ := hcs wr _ hst (fun h => h)
      have HCS : Hid (∀ w', Touch (fun k => w.heap.size ≤ k ∧ ¬ (k = w.heap.size ∨ k = vb)) wr w' → w'.cell? ⟨g, o + k * 4, none⟩ = some (.int .i64 x.d) ∧ w'.cell? ⟨g, o + k * 4 + 1, none⟩ = some (.int .i64 x.a) ∧ w'.cell? ⟨g, o + k * 4 + 2, none⟩ = some (.int .i64 x.b) ∧ w'.cell? ⟨g, o + k * 4 + 3, none⟩ = some x.pv) := by
        show ∀ w', _ → _
        intro w' ht
        exact hcs w' _ ((hst.mono (fun _ _ h => h.elim)).then ht) (fun h => by omega)
      have c0 := blk_c HE2.out 0 _ rfl
      have c1 := blk_c HE2.out 1 _ rfl
      have c2 := blk_c HE2.out 2 _ rfl
      have c3 := blk_c HE2.out 3 _ rfl
      have hlr := World.lt_of_heap HE1.out
      have hlv := World.lt_of_heap HE2.out
      have H25 := Lib.hid (rest_does (HR.out.still (Touch.refl _ _).drew) (fun k hk => by rcases hk with h | h <;> (rw [h]; assumption)) (by omega) (HOK.out x (List.mem_of_getElem? hx)))
      have hj0 : (0 : Int) ≤ (k : Int) := by omega
      have hj1 : (k : Int) < (ds.length : Int) := by omega
      clear hcs hx hst
      go_wp2_with fail
      go_region_held3 (fun w' => w'.cell? ⟨vb, 0, none⟩ = some (.pointer (some ⟨bT, 0, none⟩)) ∧ w'.cell? ⟨vb, 1, none⟩ = some (.pointer (some ⟨bO, 0, none⟩)) ∧ w'.cell? ⟨vb, 2, none⟩ = some (.pointer (some ⟨bR, 0, none⟩)) ∧ w'.cell? ⟨vb, 3, none⟩ = some (.pointer (some ⟨bP, 0, none⟩)) ∧ w'.cell? ⟨g, o + k * 4, none⟩ = some (.int .i64 x.d) ∧ w'.cell? ⟨g, o + k * 4 + 1, none⟩ = some (.int .i64 x.a) ∧ w'.cell? ⟨g, o + k * 4 + 2, none⟩ = some (.int .i64 x.b) ∧ w'.cell? ⟨g, o + k * 4 + 3, none⟩ = some x.pv) (go_keep)
        ((go_at_call 25; refine H25.out.mono ?_; rintro e w5 ⟨rfl, hr5, ht5⟩; obtain ⟨q0, q1, q2, q3⟩ := HCS.out w5 ⟨ht5.os, ht5.tape, ht5.output, ht5.size, ht5.block⟩; have hv5 : w5.heap[vb]? = some (.cells #[.pointer (some ⟨bT, 0, none⟩), .pointer (some ⟨bO, 0, none⟩), .pointer (some ⟨bR, 0, none⟩), .pointer (some ⟨bP, 0, none⟩)] 46 (0, 0)) := ht5.keeps HE2.out (fun h => h.2 (.inr rfl)); have hr6 : w5.heap[w.heap.size]? = some (.cells #[.pointer none, .pointer none, .pointer none, .pointer none] 46 (0, 0)) := ht5.keeps HE1.out (fun h => h.2 (.inl rfl)); have d0 := blk_c hv5 0 _ rfl; have d1 := blk_c hv5 1 _ rfl; have d2 := blk_c hv5 2 _ rfl; have d3 := blk_c hv5 3 _ rfl; have HR5 := Lib.hid hr5; have HV5 := Lib.hid hv5; have HR6 := Lib.hid hr6; clear hr5 ht5 hv5 hr6))
      all_goals
        go_wp2_with fail
        go_roundw
        case rel => exact ⟨k + 1, by omega, by omega, by go_num, rfl, HR5.out, HR6.out, HV5.out⟩
        case measure => simp [intOf]; omega
    · have c0 := blk_c HE2.out 0 _ rfl
      have c1 := blk_c HE2.out 1 _ rfl
      have c2 := blk_c HE2.out 2 _ rfl
      have c3 := blk_c HE2.out 3 _ rfl
      have r0 := blk_c HE1.out 0 _ rfl
      have r1 := blk_c HE1.out 1 _ rfl
      have r2 := blk_c HE1.out 2 _ rfl
      have r3 := blk_c HE1.out 3 _ rfl
      have z0 := blk_z HE1.out 0
      have z1 := blk_z HE1.out 1
      have z2 := blk_z HE1.out 2
      have z3 := blk_z HE1.out 3
      have hlr := World.lt_of_heap HE1.out
      obtain ⟨tt, hE⟩ := four_set HE1.out (.pointer (some ⟨bT, 0, none⟩)) (.pointer (some ⟨bO, 0, none⟩)) (.pointer (some ⟨bR, 0, none⟩)) (.pointer (some ⟨bP, 0, none⟩))
      have HFIN := Lib.hid ((HR.out.aside tt (fun k hk => ⟨.inl hk, by rw [hk]; exact hlr, by rw [hk]; exact Nat.le_refl _⟩)).mono hk100)
      have HE := Lib.hid hE
      have hcase : (¬ k < ds.length) ∨ (k < ds.length ∧ ¬ k < 100) := by omega
      clear tt hE hlt
      rcases hcase with hlt | ⟨hlt, hlt2⟩
      all_goals
        go_wp2_with fail
        exact bodyPost22 (g := w.heap.size) rfl rfl HE.out rfl ⟨bT, bO, bR, bP, rfl, HFIN.out⟩

end Go.Proofs.Ytombofldebmaoaa
