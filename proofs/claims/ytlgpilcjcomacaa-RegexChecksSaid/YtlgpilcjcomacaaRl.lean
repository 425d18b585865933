/-
  Plain: reading goes on: places only grow.
-/
import Derived.Test.YtlgpilcjcomacaaRa
namespace Go.Proofs.Ytlgpilcjcomacaa.Rx
set_option linter.unusedVariables false

theorem member_pos {s : List UInt8} {i : Nat} {r : Nat × Option (Nat → Bool) × Nat} (h : memberP s i = some r) : i < r.2.2 := by
  unfold memberP at h
  split at h
  · cases h
  · split at h
    · cases h; show i < i + 1; omega
    · split at h
      · cases h
      · split at h
        · cases h; show i < i + 2; omega
        · split at h
          · cases h
          · cases h; show i < i + 2; omega

theorem class_pos (s : List UInt8) : ∀ f first i g r, classP s f first i g = some r → i ≤ r.2 := by
  intro f
  induction f with
  | zero => intro first i g r h; cases h
  | succ f ih =>
    intro first i g r h
    unfold classP at h
    split at h
    · cases h; exact Nat.le_refl _
    · split at h
      · cases h
      · rename_i c m j hm
        have hj := member_pos hm
        simp only at hj
        split at h
        · cases h
        · split at h
          · have := ih _ _ _ _ h; omega
          · split at h
            · split at h
              · cases h
              · rename_i d m2 k hm2
                have hk := member_pos hm2
                simp only at hk
                split at h
                · cases h
                · have := ih _ _ _ _ h; omega
            · have := ih _ _ _ _ h; omega

theorem classAll_pos {s : List UInt8} {i : Nat} {r : (Nat → Bool) × Nat} (h : classAll s i = some r) : i < r.2 := by
  unfold classAll classEnd at h
  split at h
  · cases h
  · rename_i g j hc
    cases h
    have := class_pos s _ _ _ _ _ hc
    simp only at this ⊢
    split at this <;> omega

theorem num_pos {s : List UInt8} {i : Nat} {r : Nat × Nat} (h : numP s i = some r) : i ≤ r.2 := by
  unfold numP numOk at h
  split at h
  · cases h
  · cases h
    exact digs_le s _ _ _

theorem times_pos {s : List UInt8} {i : Nat} {r : Option (Nat × Int) × Nat} (h : timesP s i = some r) : i ≤ r.2 := by
  unfold timesP at h
  split at h
  · cases h; show i ≤ i + 1; omega
  · split at h
    · cases h; show i ≤ i + 1; omega
    · split at h
      · cases h; show i ≤ i + 1; omega
      · split at h
        · split at h
          · cases h
          · rename_i lo j hn
            have h1 := num_pos hn
            simp only at h1
            split at h
            · split at h
              · cases h; show i ≤ j + 2; omega
              · split at h
                · cases h
                · rename_i hi k hn2
                  have h2 := num_pos hn2
                  simp only at h2
                  split at h
                  · cases h; show i ≤ k + 1; omega
                  · cases h
            · split at h
              · cases h; show i ≤ j + 1; omega
              · cases h
        · cases h; exact Nat.le_refl _

def PPos (P : PS → Option (Re × PS)) : Prop := ∀ st a st', P st = some (a, st') → st.pos ≤ st'.pos

theorem esc_pos {s : List UInt8} {st : PS} {a : Re} {st' : PS} (h : escP s st = some (a, st')) : st'.pos = st.pos + 1 := by
  unfold escP at h
  split at h
  · cases h
  · split at h
    · cases h; rfl
    · split at h
      · cases h; rfl
      · split at h
        · cases h; rfl
        · split at h
          · cases h; rfl
          · split at h
            · cases h; rfl
            · split at h
              · cases h; rfl
              · split at h
                · cases h
                · cases h; rfl

theorem inside_pos {W : PS → Option (Re × PS)} (hW : PPos W) {s : List UInt8} {mk : Re → Re} {st : PS} {a : Re} {st' : PS} (h : insideP W s mk st = some (a, st')) : st.pos < st'.pos := by
  unfold insideP at h
  split at h
  · cases h
  · split at h
    · cases h
    · rename_i x st1 hw
      have := hW _ _ _ hw
      split at h
      · cases h; show st.pos < st1.pos + 1; omega
      · cases h

theorem grp_pos {W : PS → Option (Re × PS)} (hW : PPos W) {s : List UInt8} {st : PS} {a : Re} {st' : PS} (h : grpP W s st = some (a, st')) : st.pos < st'.pos := by
  unfold grpP at h
  split at h
  · have := inside_pos hW h; simp only at this; omega
  · split at h
    · have := inside_pos hW h; simp only at this; omega
    · split at h
      · have := inside_pos hW h; simp only at this; omega
      · split at h
        · have := inside_pos hW h; simp only at this; omega
        · split at h
          · cases h
          · have := inside_pos hW h; simp only at this; omega

theorem atom_pos {W : PS → Option (Re × PS)} (hW : PPos W) {s : List UInt8} {st : PS} {a : Re} {st' : PS} (h : atomP W s st = some (a, st')) : st.pos < st'.pos := by
  unfold atomP at h
  split at h
  · have := esc_pos h; simp only at this; omega
  · split at h
    · cases h; show st.pos < st.pos + 1; omega
    · split at h
      · cases h; show st.pos < st.pos + 1; omega
      · split at h
        · cases h; show st.pos < st.pos + 1; omega
        · split at h
          · split at h
            · cases h
            · rename_i f j hc
              cases h
              have := classAll_pos hc
              simp only at this ⊢
              omega
          · split at h
            · have := grp_pos hW h; simp only at this; omega
            · split at h
              · cases h
              · cases h; show st.pos < st.pos + 1; omega

theorem how_pos (s : List UInt8) (a : Re) (lo : Nat) (hi : Int) (st : PS) : st.pos ≤ (howP s a lo hi st).2.pos := by
  unfold howP
  split
  · show st.pos ≤ st.pos + 1; omega
  · split
    · show st.pos ≤ st.pos + 1; omega
    · exact Nat.le_refl _

theorem rep_pos {s : List UInt8} {a : Re} {st : PS} {a' : Re} {st' : PS} (h : repP s a st = some (a', st')) : st.pos ≤ st'.pos := by
  unfold repP at h
  split at h
  · cases h
  · cases h; exact Nat.le_refl _
  · rename_i lo hi j ht
    have h1 := times_pos ht
    simp only at h1
    split at h
    · cases h
    · have e := Option.some.inj h
      have h2 := how_pos s a lo hi { st with pos := j }
      rw [e] at h2
      simp only at h2
      omega

theorem pieceR_pos {W : PS → Option (Re × PS)} (hW : PPos W) {s : List UInt8} {st : PS} {a : Re} {st' : PS} (h : pieceR W s st = some (a, st')) : st.pos < st'.pos := by
  unfold pieceR at h
  split at h
  · cases h
  · rename_i x st1 ha
    have h1 := atom_pos hW ha
    have h2 := rep_pos h
    omega

theorem loop_pos {P : PS → Option (Re × PS)} (hP : ∀ st a st', P st = some (a, st') → st.pos < st'.pos) (s : List UInt8) : ∀ f st rows cur res st', loopP P s f st rows cur = some (res, st') → st.pos ≤ st'.pos := by
  intro f
  induction f with
  | zero => intro st rows cur res st' h; cases h
  | succ f ih =>
    intro st rows cur res st' h
    unfold loopP at h
    split at h
    · split at h
      · have := ih _ _ _ _ _ h; simp only at this; omega
      · split at h
        · cases h
        · rename_i x st1 hp
          have h1 := hP _ _ _ hp
          have := ih _ _ _ _ _ h
          omega
    · cases h; exact Nat.le_refl _

theorem ways_pos (s : List UInt8) : ∀ d, PPos (waysP s d)
  | 0 => fun st a st' h => by cases h
  | d + 1 => fun st a st' h => by
    rw [waysR_succ] at h
    unfold waysEnd at h
    split at h
    · cases h
    · rename_i rows st1 hl
      cases h
      exact loop_pos (fun st a st' h => pieceR_pos (ways_pos s d) h) s _ _ _ _ _ _ hl
end Go.Proofs.Ytlgpilcjcomacaa.Rx
