/-
  A pair of tables and the pair of the document, in memory, apart from each other.
-/
import Derived.Test.YtombofldebmaoaaPairB
import Derived.Test.YtombofldebmaoaaRefF
namespace Go.Proofs.Ytombofldebmaoaa
open Go.RowKit
set_option linter.unusedVariables false

/-- Since w0 only blocks of G, and new ones, have turned; in them lie the four tables, apart from each other. -/
def QM (w0 : World) (G : Nat → Prop) (bT bO bR bP : Nat) (T O R P : PT) (w : World) : Prop :=
  ∃ FT FO FR FP : Nat → Prop, Tab w FT bT T ∧ Tab w FO bO O ∧ Ref w FR bR R ∧ Ref w FP bP P ∧
    (∀ k, FT k → ¬ FO k ∧ ¬ FR k ∧ ¬ FP k) ∧ (∀ k, FO k → ¬ FR k ∧ ¬ FP k) ∧ (∀ k, FR k → ¬ FP k) ∧
    (∀ k, FT k ∨ FO k ∨ FR k ∨ FP k → G k ∨ w0.heap.size ≤ k) ∧ Touch G w0 w

section
variable {w0 w w' : World} {G : Nat → Prop} {bT bO bR bP : Nat} {T O R P : PT}

theorem QM.touch (h : QM w0 G bT bO bR bP T O R P w) : Touch G w0 w := by
  obtain ⟨FT, FO, FR, FP, hT, hO, hR, hP, d1, d2, d3, hG, ht⟩ := h
  exact ht
theorem QM.okT (h : QM w0 G bT bO bR bP T O R P w) : T.ok := by
  obtain ⟨FT, FO, FR, FP, hT, hO, hR, hP, d1, d2, d3, hG, ht⟩ := h
  exact hT.ok
theorem QM.okO (h : QM w0 G bT bO bR bP T O R P w) : O.ok := by
  obtain ⟨FT, FO, FR, FP, hT, hO, hR, hP, d1, d2, d3, hG, ht⟩ := h
  exact hO.ok

theorem QM.still (h : QM w0 G bT bO bR bP T O R P w) (hs : Still w w') : QM w0 G bT bO bR bP T O R P w' := by
  obtain ⟨FT, FO, FR, FP, hT, hO, hR, hP, d1, d2, d3, hG, ht⟩ := h
  exact ⟨FT, FO, FR, FP, hT.still hs, hO.still hs, hR.still hs, hP.still hs, d1, d2, d3, hG, ht.trans hs (fun _ h => h.elim)⟩

/-- The start of the reckoning is moved back. -/
theorem QM.before (h : QM w G bT bO bR bP T O R P w') (hs : Still w0 w) : QM w0 G bT bO bR bP T O R P w' := by
  obtain ⟨FT, FO, FR, FP, hT, hO, hR, hP, d1, d2, d3, hG, ht⟩ := h
  have := hs.size
  exact ⟨FT, FO, FR, FP, hT, hO, hR, hP, d1, d2, d3, fun k hk => (hG k hk).imp id (fun h => by omega), (hs.mono (fun _ _ h => h.elim)).then ht⟩

/-- The reckoning begins anew. -/
theorem QM.renew (h : QM w0 G bT bO bR bP T O R P w) : QM w (fun k => G k ∨ (w0.heap.size ≤ k ∧ k < w.heap.size)) bT bO bR bP T O R P w := by
  obtain ⟨FT, FO, FR, FP, hT, hO, hR, hP, d1, d2, d3, hG, ht⟩ := h
  refine ⟨FT, FO, FR, FP, hT, hO, hR, hP, d1, d2, d3, fun k hk => .inl ((hG k hk).imp id (fun h => ⟨h, ?_⟩)), Touch.refl _ _⟩
  rcases hk with hk | hk | hk | hk
  · exact hT.lt k hk
  · exact hO.lt k hk
  · exact hR.lt k hk
  · exact hP.lt k hk

/-- Blocks that lie aside have turned. -/
theorem QM.aside {S : Nat → Prop} (h : QM w0 G bT bO bR bP T O R P w) (hs : Touch S w w') (hS : ∀ k, S k → k < w0.heap.size ∧ ¬ G k) : QM w0 (fun k => G k ∨ S k) bT bO bR bP T O R P w' := by
  obtain ⟨FT, FO, FR, FP, hT, hO, hR, hP, d1, d2, d3, hG, ht⟩ := h
  have key : ∀ k, FT k ∨ FO k ∨ FR k ∨ FP k → ¬ S k := by
    intro k hk hSk
    have := hS k hSk
    rcases hG k hk with h | h
    · exact this.2 h
    · omega
  exact ⟨FT, FO, FR, FP, hT.kept hs (fun k hk => key k (.inl hk)), hO.kept hs (fun k hk => key k (.inr (.inl hk))), hR.kept hs (fun k hk => key k (.inr (.inr (.inl hk)))), hP.kept hs (fun k hk => key k (.inr (.inr (.inr hk)))), d1, d2, d3,
    fun k hk => (hG k hk).imp .inl id, (ht.mono (fun _ _ h => .inl h)).trans hs (fun k hk => .inl (.inr hk))⟩

theorem QM.wider {w1 : World} {G0 : Nat → Prop} (h : QM w1 G bT bO bR bP T O R P w') (hs : Still w w1) (hG : ∀ k, G k → G0 k ∨ w.heap.size ≤ k) : QM w G0 bT bO bR bP T O R P w' := by
  obtain ⟨FT, FO, FR, FP, hT, hO, hR, hP, d1, d2, d3, hg, ht⟩ := h
  have := hs.size
  refine ⟨FT, FO, FR, FP, hT, hO, hR, hP, d1, d2, d3, fun k hk => ?_, (hs.mono (fun _ _ h => h.elim)).trans ht hG⟩
  rcases hg k hk with h | h
  · exact hG k h
  · exact .inr (by omega)

theorem QM.onT (h : QM w0 G bT bO bR bP T O R P w) : ∃ F, Tab w F bT T ∧ ∀ T' w', Moves w F bT T' w' → QM w0 G bT bO bR bP T' O R P w' := by
  obtain ⟨FT, FO, FR, FP, hT, hO, hR, hP, d1, d2, d3, hG, ht⟩ := h
  refine ⟨FT, hT, ?_⟩
  rintro T' w' ⟨F', h1, h2, h3⟩
  have hs := ht.size
  refine ⟨F', FO, FR, FP, h1, hO.kept h2 (fun k hk hk2 => (d1 k hk2).1 hk), hR.kept h2 (fun k hk hk2 => (d1 k hk2).2.1 hk), hP.kept h2 (fun k hk hk2 => (d1 k hk2).2.2 hk), ?_, d2, d3, ?_, ?_⟩
  · intro k hk
    rcases h3 k hk with h | h
    · exact d1 k h
    · exact ⟨fun h' => by have := hO.lt k h'; omega, fun h' => by have := hR.lt k h'; omega, fun h' => by have := hP.lt k h'; omega⟩
  · rintro k (hk | hk)
    · rcases h3 k hk with h | h
      · exact hG k (.inl h)
      · exact .inr (by omega)
    · exact hG k (.inr hk)
  · exact ht.trans h2 (fun k hk => hG k (.inl hk))

theorem QM.onO (h : QM w0 G bT bO bR bP T O R P w) : ∃ F, Tab w F bO O ∧ ∀ O' w', Moves w F bO O' w' → QM w0 G bT bO bR bP T O' R P w' := by
  obtain ⟨FT, FO, FR, FP, hT, hO, hR, hP, d1, d2, d3, hG, ht⟩ := h
  refine ⟨FO, hO, ?_⟩
  rintro O' w' ⟨F', h1, h2, h3⟩
  have hs := ht.size
  refine ⟨FT, F', FR, FP, hT.kept h2 (fun k hk hk2 => (d1 k hk).1 hk2), h1, hR.kept h2 (fun k hk hk2 => (d2 k hk2).1 hk), hP.kept h2 (fun k hk hk2 => (d2 k hk2).2 hk), ?_, ?_, d3, ?_, ?_⟩
  · intro k hk
    refine ⟨fun h' => ?_, (d1 k hk).2⟩
    rcases h3 k h' with h | h
    · exact (d1 k hk).1 h
    · have := hT.lt k hk; omega
  · intro k hk
    rcases h3 k hk with h | h
    · exact d2 k h
    · exact ⟨fun h' => by have := hR.lt k h'; omega, fun h' => by have := hP.lt k h'; omega⟩
  · rintro k (hk | hk | hk)
    · exact hG k (.inl hk)
    · rcases h3 k hk with h | h
      · exact hG k (.inr (.inl h))
      · exact .inr (by omega)
    · exact hG k (.inr (.inr hk))
  · exact ht.trans h2 (fun k hk => hG k (.inr (.inl hk)))

theorem QM.onR (h : QM w0 G bT bO bR bP T O R P w) : ∃ F, Ref w F bR R ∧ ∀ R' w', RMoves w F bR R' w' → QM w0 G bT bO bR bP T O R' P w' := by
  obtain ⟨FT, FO, FR, FP, hT, hO, hR, hP, d1, d2, d3, hG, ht⟩ := h
  refine ⟨FR, hR, ?_⟩
  rintro R' w' ⟨F', h1, h2, h3⟩
  have hs := ht.size
  refine ⟨FT, FO, F', FP, hT.kept h2 (fun k hk hk2 => (d1 k hk).2.1 hk2), hO.kept h2 (fun k hk hk2 => (d2 k hk).1 hk2), h1, hP.kept h2 (fun k hk hk2 => d3 k hk2 hk), ?_, ?_, ?_, ?_, ?_⟩
  · intro k hk
    refine ⟨(d1 k hk).1, fun h' => ?_, (d1 k hk).2.2⟩
    rcases h3 k h' with h | h
    · exact (d1 k hk).2.1 h
    · have := hT.lt k hk; omega
  · intro k hk
    refine ⟨fun h' => ?_, (d2 k hk).2⟩
    rcases h3 k h' with h | h
    · exact (d2 k hk).1 h
    · have := hO.lt k hk; omega
  · intro k hk h'
    rcases h3 k hk with h | h
    · exact d3 k h h'
    · have := hP.lt k h'; omega
  · rintro k (hk | hk | hk | hk)
    · exact hG k (.inl hk)
    · exact hG k (.inr (.inl hk))
    · rcases h3 k hk with h | h
      · exact hG k (.inr (.inr (.inl h)))
      · exact .inr (by omega)
    · exact hG k (.inr (.inr (.inr hk)))
  · exact ht.trans h2 (fun k hk => hG k (.inr (.inr (.inl hk))))

theorem QM.onP (h : QM w0 G bT bO bR bP T O R P w) : ∃ F, Ref w F bP P ∧ ∀ P' w', RMoves w F bP P' w' → QM w0 G bT bO bR bP T O R P' w' := by
  obtain ⟨FT, FO, FR, FP, hT, hO, hR, hP, d1, d2, d3, hG, ht⟩ := h
  refine ⟨FP, hP, ?_⟩
  rintro P' w' ⟨F', h1, h2, h3⟩
  have hs := ht.size
  refine ⟨FT, FO, FR, F', hT.kept h2 (fun k hk hk2 => (d1 k hk).2.2 hk2), hO.kept h2 (fun k hk hk2 => (d2 k hk).2 hk2), hR.kept h2 (fun k hk hk2 => d3 k hk hk2), h1, ?_, ?_, ?_, ?_, ?_⟩
  · intro k hk
    refine ⟨(d1 k hk).1, (d1 k hk).2.1, fun h' => ?_⟩
    rcases h3 k h' with h | h
    · exact (d1 k hk).2.2 h
    · have := hT.lt k hk; omega
  · intro k hk
    refine ⟨(d2 k hk).1, fun h' => ?_⟩
    rcases h3 k h' with h | h
    · exact (d2 k hk).2 h
    · have := hO.lt k hk; omega
  · intro k hk h'
    rcases h3 k h' with h | h
    · exact d3 k hk h
    · have := hR.lt k hk; omega
  · rintro k (hk | hk | hk | hk)
    · exact hG k (.inl hk)
    · exact hG k (.inr (.inl hk))
    · exact hG k (.inr (.inr (.inl hk)))
    · rcases h3 k hk with h | h
      · exact hG k (.inr (.inr (.inr h)))
      · exact .inr (by omega)
  · exact ht.trans h2 (fun k hk => hG k (.inr (.inr (.inr hk))))
end

end Go.Proofs.Ytombofldebmaoaa
