/-
  begun: two new tables of each kind.
-/
import Derived.Test.YtombofldebmaoaaPairC
namespace Go.Proofs.Ytombofldebmaoaa
open Go.RowKit
set_option linter.unusedVariables false

def ptr (b : Nat) : Value := .pointer (some ⟨b, 0, none⟩)
def pairVal (bT bO bR bP : Nat) : Value := .agg #[.pointer (some ⟨bT, 0, none⟩), .pointer (some ⟨bO, 0, none⟩), .pointer (some ⟨bR, 0, none⟩), .pointer (some ⟨bP, 0, none⟩)]

def Begun (w : World) (e : Ending) (w' : World) : Prop :=
  ∃ bT bO bR bP, e = .returned (.tuple #[pairVal bT bO bR bP, .bool true]) ∧ QM w (fun _ => False) bT bO bR bP PT.new PT.new PT.new PT.new w'

theorem four_set {W : World} {g : Nat} {a0 a1 a2 a3 : Value} {e : TypeId} (h : W.heap[g]? = some (.cells #[a0, a1, a2, a3] e (0, 0))) (v0 v1 v2 v3 : Value) :
    Touch (fun k => k = g) W ((((W.setCell ⟨g, 0, none⟩ v0).setCell ⟨g, 1, none⟩ v1).setCell ⟨g, 2, none⟩ v2).setCell ⟨g, 3, none⟩ v3) ∧
    ((((W.setCell ⟨g, 0, none⟩ v0).setCell ⟨g, 1, none⟩ v1).setCell ⟨g, 2, none⟩ v2).setCell ⟨g, 3, none⟩ v3).heap[g]? = some (.cells #[v0, v1, v2, v3] e (0, 0)) := by
  have h1 := heap_setCell_same h 0 v0
  have h2 := heap_setCell_same h1 1 v1
  have h3 := heap_setCell_same h2 2 v2
  have h4 := heap_setCell_same h3 3 v3
  exact ⟨(((touch_setCell W ⟨g, 0, none⟩ v0).then (touch_setCell _ ⟨g, 1, none⟩ v1)).then (touch_setCell _ ⟨g, 2, none⟩ v2)).then (touch_setCell _ ⟨g, 3, none⟩ v3), h4⟩

theorem qm_new {w w1 w2 w3 w4 : World} {bT bO bR bP : Nat} {FT FO FR FP : Nat → Prop} (h1 : Tab w1 FT bT PT.new) (g1 : ∀ k, FT k → w.heap.size ≤ k) (s1 : Still w w1)
    (h2 : Tab w2 FO bO PT.new) (g2 : ∀ k, FO k → w1.heap.size ≤ k) (s2 : Still w1 w2) (h3 : Ref w3 FR bR PT.new) (g3 : ∀ k, FR k → w2.heap.size ≤ k) (s3 : Still w2 w3) (h4 : Ref w4 FP bP PT.new) (g4 : ∀ k, FP k → w3.heap.size ≤ k) (s4 : Still w3 w4) :
    QM w (fun _ => False) bT bO bR bP PT.new PT.new PT.new PT.new w4 := by
  have z1 := s1.size
  have z2 := s2.size
  have z3 := s3.size
  have z4 := s4.size
  have l1 := h1.lt
  have l2 := h2.lt
  have l3 := h3.lt
  refine ⟨FT, FO, FR, FP, h1.still ((s2.then s3).then s4), h2.still (s3.then s4), h3.still s4, h4, ?_, ?_, ?_, ?_, ((s1.then s2).then s3).then s4⟩
  · intro k hk
    have := l1 k hk
    exact ⟨fun h => by have := g2 k h; omega, fun h => by have := g3 k h; omega, fun h => by have := g4 k h; omega⟩
  · intro k hk
    have := l2 k hk
    exact ⟨fun h => by have := g3 k h; omega, fun h => by have := g4 k h; omega⟩
  · intro k hk h
    have := l3 k hk
    have := g4 k h
    omega
  · rintro k (h | h | h | h)
    · exact .inr (g1 k h)
    · exact .inr (by have := g2 k h; omega)
    · exact .inr (by have := g3 k h; omega)
    · exact .inr (by have := g4 k h; omega)

theorem bodyPost24 {R : Ending → World → Prop} {a : Act} {W : World} {g bT bO bR bP : Nat} {x : Bool} (ha : a.tmps.getD 0 undef = .pointer (some ⟨g, 0, none⟩)) (hb : a.tmps.getD 1 undef = .bool x)
    (h : W.heap[g]? = some (.cells #[.pointer (some ⟨bT, 0, none⟩), .pointer (some ⟨bO, 0, none⟩), .pointer (some ⟨bR, 0, none⟩), .pointer (some ⟨bP, 0, none⟩)] 46 (0, 0))) (hd : a.defers = [])
    (hR : R (.returned (.tuple #[pairVal bT bO bR bP, .bool x])) W) : bodyPost Try.prog Try.f24 R .ret a W := by
  have q0 := blk_c h 0 _ rfl
  have q1 := blk_c h 1 _ rfl
  have q2 := blk_c h 2 _ rfl
  have q3 := blk_c h 3 _ rfl
  have ha' : a.tmps[0]?.getD undef = .pointer (some ⟨g, 0, none⟩) := by simpa using ha
  have hb' : a.tmps[1]?.getD undef = .bool x := by simpa using hb
  refine bodyPost_ret (v := .tuple #[pairVal bT bO bR bP, .bool x]) ?_ hd hR
  simp [results, Try.results24, go_sem, ha', hb', q0, q1, q2, q3, pairVal]

set_option maxHeartbeats 1000000 in
theorem f24_any (w : World) : Calls Try.prog 24 #[] w (Begun w) := by
  go_enter Try.func24, Try.ntmps24
  go_wp2_with fail
  refine (f12_any _).mono ?_
  rintro e w1 ⟨bT, FT, rfl, t1, g1, s1⟩
  have H1 := Lib.hid (And.intro t1 (And.intro g1 s1)); clear t1 g1 s1
  go_wp2_with fail
  refine (f12_any _).mono ?_
  rintro e w2 ⟨bO, FO, rfl, t2, g2, s2⟩
  have H2 := Lib.hid (And.intro t2 (And.intro g2 s2)); clear t2 g2 s2
  go_wp2_with fail
  refine (f35_any _).mono ?_
  rintro e w3 ⟨bR, FR, rfl, t3, g3, s3⟩
  have H3 := Lib.hid (And.intro t3 (And.intro g3 s3)); clear t3 g3 s3
  go_wp2_with fail
  refine (f35_any _).mono ?_
  rintro e w4 ⟨bP, FP, rfl, t4, g4, s4⟩
  have H4 := Lib.hid (And.intro t4 (And.intro g4 s4)); clear t4 g4 s4
  have hres : (w.alloc (.cells #[.pointer none, .pointer none, .pointer none, .pointer none] 46)).heap[w.heap.size]? = _ := heap_alloc_new w _
  have HS4 : Hid (Still (w.alloc (.cells #[.pointer none, .pointer none, .pointer none, .pointer none] 46)) w4) := ((H1.out.2.2.then H2.out.2.2).then H3.out.2.2).then H4.out.2.2
  have hr4 := HS4.out.keeps hres (fun h => h)
  have hlt := World.lt_of_heap hr4
  have c0 := blk_c hr4 0 _ rfl
  have c1 := blk_c hr4 1 _ rfl
  have c2 := blk_c hr4 2 _ rfl
  have c3 := blk_c hr4 3 _ rfl
  have z0 := blk_z hr4 0
  have z1 := blk_z hr4 1
  have z2 := blk_z hr4 2
  have z3 := blk_z hr4 3
  have HR4 := Lib.hid hr4
  clear hr4 hres
  go_wp2_with fail
  obtain ⟨tt, hE⟩ := four_set HR4.out (.pointer (some ⟨bT, 0, none⟩)) (.pointer (some ⟨bO, 0, none⟩)) (.pointer (some ⟨bR, 0, none⟩)) (.pointer (some ⟨bP, 0, none⟩))
  have hq := qm_new H1.out.1 H1.out.2.1 H1.out.2.2 H2.out.1 H2.out.2.1 H2.out.2.2 H3.out.1 H3.out.2.1 H3.out.2.2 H4.out.1 H4.out.2.1 H4.out.2.2
  have hq2 := hq.aside tt (fun k hk => ⟨by rw [hk]; simp, fun h => h⟩)
  have hq3 := hq2.wider (w := w) (G0 := fun _ => False) ((Touch.refl _ w).alloc _) (fun k hk => by rcases hk with h | h; exact h.elim; exact .inr (by rw [h]; exact Nat.le_refl _))
  have hE2 := fun O => (Below.heap_alloc _ O w.heap.size (Nat.lt_of_lt_of_le hlt tt.size)).trans hE
  have HE := Lib.hid hE2
  have HQ3 := Lib.hid (fun O => hq3.still ((Touch.refl (fun _ => False) _).alloc O).drew)
  clear hE hE2 tt hq hq2 hq3
  go_region
  all_goals
    go_wp2_with fail
    exact bodyPost24 (g := w.heap.size) rfl rfl (HE.out _) rfl ⟨bT, bO, bR, bP, rfl, HQ3.out _⟩

end Go.Proofs.Ytombofldebmaoaa
