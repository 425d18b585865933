/-
  Plain: the numbers of the groups and back references of a tree that was read.
-/
import Derived.Test.YtlgpilcjcomacaaPp
namespace Go.Proofs.Ytlgpilcjcomacaa
open Go.RowKit Rx
set_option linter.unusedVariables false

/-- The groups of a tree have numbers up to g, its back references up to r. -/
def fits (g r : Nat) : Re → Prop
  | .set _ => True
  | .asr _ => True
  | .bref m => m ≤ r
  | .nil => True
  | .cat a b => fits g r a ∧ fits g r b
  | .none => True
  | .alt a b => fits g r a ∧ fits g r b
  | .grp m a => m ≤ g ∧ fits g r a
  | .look _ a => fits g r a
  | .atom a => fits g r a
  | .rep a _ _ _ => fits g r a
  | .poss a _ _ => fits g r a
theorem fits_mono {g g' r r' : Nat} (hg : g ≤ g') (hr : r ≤ r') : ∀ a, fits g r a → fits g' r' a
  | .set _, _ => trivial
  | .asr _, _ => trivial
  | .bref m, h => Nat.le_trans h hr
  | .nil, _ => trivial
  | .cat a b, h => ⟨fits_mono hg hr a h.1, fits_mono hg hr b h.2⟩
  | .none, _ => trivial
  | .alt a b, h => ⟨fits_mono hg hr a h.1, fits_mono hg hr b h.2⟩
  | .grp m a, h => ⟨Nat.le_trans h.1 hg, fits_mono hg hr a h.2⟩
  | .look _ a, h => fits_mono hg hr a h
  | .atom a, h => fits_mono hg hr a h
  | .rep a _ _ _, h => fits_mono hg hr a h
  | .poss a _ _, h => fits_mono hg hr a h

theorem rd_fit {F : Nat → Prop} {w : World} {G : Nat} : ∀ a : Re, fits G G a → (∀ p, (rd F w 9 a).node p → (rd F w G a).node p) ∧ (∀ x l, (rd F w 9 a).row x l → (rd F w G a).row x l) ∧ (∀ x l, (rd F w 9 a).ways x l → (rd F w G a).ways x l) := by
  intro a
  induction a with
  | set f => exact fun _ => ⟨fun _ h => h, fun _ _ h => h, fun _ _ h => h⟩
  | asr k => exact fun _ => ⟨fun _ h => h, fun _ _ h => h, fun _ _ h => h⟩
  | bref m => exact fun hf => ⟨fun p ⟨b, of, wa, wl, wc, kid, least, most, how, e, h, h1, h2⟩ => ⟨b, of, wa, wl, wc, kid, least, most, how, e, h, h1, hf⟩, fun _ _ h => h.elim, fun _ _ h => h.elim⟩
  | nil => exact fun _ => ⟨fun _ h => h, fun _ _ h => h, fun _ _ h => h⟩
  | cat x r ihx ihr => exact fun hf => ⟨fun _ h => h.elim, fun _ _ ⟨b, o, p, e, hb, h1, h2, h3, h4, h5⟩ => ⟨b, o, p, e, hb, h1, h2, h3, (ihx hf.1).1 _ h4, (ihr hf.2).2.1 _ _ h5⟩, fun _ _ h => h.elim⟩
  | none => exact fun _ => ⟨fun _ h => h, fun _ _ h => h, fun _ _ h => h⟩
  | alt x r ihx ihr => exact fun hf => ⟨fun _ h => h.elim, fun _ _ h => h.elim, fun _ _ ⟨b, o, ra, rl, rc, e, hb, h1, h2, h3, h4, h5, h6⟩ => ⟨b, o, ra, rl, rc, e, hb, h1, h2, h3, h4, (ihx hf.1).2.1 _ _ h5, (ihr hf.2).2.2 _ _ h6⟩⟩
  | grp m x ih => exact fun hf => ⟨fun p ⟨b, of, wa, wl, wc, kid, least, most, how, e, h, h1, h2, h3⟩ => ⟨b, of, wa, wl, wc, kid, least, most, how, e, h, hf.1, h2, (ih hf.2).2.2 _ _ h3⟩, fun _ _ h => h.elim, fun _ _ h => h.elim⟩
  | look neg x ih => exact fun hf => ⟨fun p ⟨b, of, num, wa, wl, wc, kid, least, most, how, e, h, h2, h3⟩ => ⟨b, of, num, wa, wl, wc, kid, least, most, how, e, h, h2, (ih hf).2.2 _ _ h3⟩, fun _ _ h => h.elim, fun _ _ h => h.elim⟩
  | atom x ih => exact fun hf => ⟨fun p ⟨b, of, num, wa, wl, wc, kid, least, most, how, e, h, h2, h3⟩ => ⟨b, of, num, wa, wl, wc, kid, least, most, how, e, h, h2, (ih hf).2.2 _ _ h3⟩, fun _ _ h => h.elim, fun _ _ h => h.elim⟩
  | rep x least most lazy ih => exact fun hf => ⟨fun p ⟨b, of, num, wa, wl, wc, kid, e, h, h1, h2, h3, h4⟩ => ⟨b, of, num, wa, wl, wc, kid, e, h, h1, h2, h3, (ih hf).1 _ h4⟩, fun _ _ h => h.elim, fun _ _ h => h.elim⟩
  | poss x least most ih => exact fun hf => ⟨fun p ⟨b, of, num, wa, wl, wc, kid, e, h, h1, h2, h3, h4⟩ => ⟨b, of, num, wa, wl, wc, kid, e, h, h1, h2, h3, (ih hf).1 _ h4⟩, fun _ _ h => h.elim, fun _ _ h => h.elim⟩

/-- What a reader of trees gives: the numbers only grow, and the tree fits. -/
def PFit (P : PS → Option (Re × PS)) : Prop := ∀ st a st', P st = some (a, st') → st.grps ≤ st'.grps ∧ st.refs ≤ st'.refs ∧ fits st'.grps st'.refs a

theorem esc_fit (s : List UInt8) : PFit (escP s) := by
  intro st a st' h
  unfold escP at h
  split at h
  · cases h
  · split at h
    · cases h; exact ⟨Nat.le_refl _, Nat.le_refl _, trivial⟩
    · split at h
      · cases h; exact ⟨Nat.le_refl _, Nat.le_refl _, trivial⟩
      · split at h
        · cases h; exact ⟨Nat.le_refl _, Nat.le_refl _, trivial⟩
        · split at h
          · cases h; exact ⟨Nat.le_refl _, Nat.le_refl _, trivial⟩
          · split at h
            · cases h; exact ⟨Nat.le_refl _, Nat.le_refl _, trivial⟩
            · split at h
              · cases h; exact ⟨Nat.le_refl _, Nat.le_max_left _ _, Nat.le_max_right _ _⟩
              · split at h
                · cases h
                · cases h; exact ⟨Nat.le_refl _, Nat.le_refl _, trivial⟩

theorem inside_fit {W : PS → Option (Re × PS)} (hW : PFit W) (s : List UInt8) (mk : Re → Re) {g0 : Nat} (hmk : ∀ g r x, g0 ≤ g → fits g r x → fits g r (mk x)) (st : PS) (hg : g0 ≤ st.grps) (a : Re) (st' : PS) (h : insideP W s mk st = some (a, st')) : st.grps ≤ st'.grps ∧ st.refs ≤ st'.refs ∧ fits st'.grps st'.refs a := by
  unfold insideP at h
  split at h
  · cases h
  · split at h
    · cases h
    · rename_i x st2 hw
      split at h
      · cases h
        obtain ⟨h1, h2, h3⟩ := hW _ _ _ hw
        exact ⟨h1, h2, hmk _ _ _ (Nat.le_trans hg h1) h3⟩
      · cases h

theorem grp_fit {W : PS → Option (Re × PS)} (hW : PFit W) (s : List UInt8) : PFit (grpP W s) := by
  intro st a st' h
  unfold grpP at h
  split at h
  · (have h1 := inside_fit hW s (.grp 0) (g0 := 0) (fun g r x _ hx => ⟨Nat.zero_le _, hx⟩) _ (Nat.zero_le _) _ _ h; exact h1)
  · split at h
    · (have h1 := inside_fit hW s (.look false) (g0 := 0) (fun g r x _ hx => hx) _ (Nat.zero_le _) _ _ h; exact h1)
    · split at h
      · (have h1 := inside_fit hW s (.look true) (g0 := 0) (fun g r x _ hx => hx) _ (Nat.zero_le _) _ _ h; exact h1)
      · split at h
        · (have h1 := inside_fit hW s .atom (g0 := 0) (fun g r x _ hx => hx) _ (Nat.zero_le _) _ _ h; exact h1)
        · split at h
          · cases h
          · have h1 := inside_fit hW s (.grp (st.grps + 1)) (g0 := st.grps + 1) (fun g r x hg hx => ⟨hg, hx⟩) _ (Nat.le_refl _) _ _ h
            exact ⟨Nat.le_of_succ_le h1.1, h1.2⟩

theorem atom_fit {W : PS → Option (Re × PS)} (hW : PFit W) (s : List UInt8) : PFit (atomP W s) := by
  intro st a st' h
  unfold atomP at h
  split at h
  · (have h1 := esc_fit s _ _ _ h; exact h1)
  · split at h
    · cases h; exact ⟨Nat.le_refl _, Nat.le_refl _, trivial⟩
    · split at h
      · cases h; exact ⟨Nat.le_refl _, Nat.le_refl _, trivial⟩
      · split at h
        · cases h; exact ⟨Nat.le_refl _, Nat.le_refl _, trivial⟩
        · split at h
          · split at h
            · cases h
            · cases h; exact ⟨Nat.le_refl _, Nat.le_refl _, trivial⟩
          · split at h
            · (have h1 := grp_fit hW s _ _ _ h; exact h1)
            · split at h
              · cases h
              · cases h; exact ⟨Nat.le_refl _, Nat.le_refl _, trivial⟩

theorem how_fit (s : List UInt8) (a : Re) (lo : Nat) (hi : Int) (st : PS) (g r : Nat) (h : fits g r a) : (howP s a lo hi st).2.grps = st.grps ∧ (howP s a lo hi st).2.refs = st.refs ∧ fits g r (howP s a lo hi st).1 := by
  unfold howP
  split
  · exact ⟨rfl, rfl, h⟩
  · split
    · exact ⟨rfl, rfl, h⟩
    · exact ⟨rfl, rfl, h⟩

theorem piece_fit {W : PS → Option (Re × PS)} (hW : PFit W) (s : List UInt8) : PFit (pieceP W s) := by
  intro st a st' h
  unfold pieceP at h
  split at h
  · cases h
  · rename_i x st1 ha
    have h1 := atom_fit hW s _ _ _ ha
    split at h
    · cases h
    · cases h; exact h1
    · rename_i lo hi j ht
      split at h
      · cases h
      · split at h
        · cases h
        · have h2 := how_fit s x lo hi { st1 with pos := j } _ _ h1.2.2
          have h3 := Option.some.inj h
          rw [h3] at h2
          exact ⟨by rw [h2.1]; exact h1.1, by rw [h2.2.1]; exact h1.2.1, by rw [h2.1, h2.2.1]; exact h2.2.2⟩

theorem fits_row {g r : Nat} : ∀ l : List Re, (∀ x, x ∈ l → fits g r x) → fits g r (toRow l)
  | [], _ => trivial
  | a :: l, h => ⟨h a (List.mem_cons_self ..), fits_row l (fun x hx => h x (List.mem_cons_of_mem _ hx))⟩
theorem fits_ways {g r : Nat} : ∀ l : List (List Re), (∀ c, c ∈ l → ∀ x, x ∈ c → fits g r x) → fits g r (toWays l)
  | [], _ => trivial
  | a :: l, h => ⟨fits_row a (h a (List.mem_cons_self ..)), fits_ways l (fun c hc => h c (List.mem_cons_of_mem _ hc))⟩

theorem loop_fit {P : PS → Option (Re × PS)} (hP : PFit P) (s : List UInt8) : ∀ (f : Nat) (st : PS) (rows : List (List Re)) (cur : List Re) (res : List (List Re)) (st' : PS), loopP P s f st rows cur = some (res, st') → (∀ c, c ∈ rows → ∀ x, x ∈ c → fits st.grps st.refs x) → (∀ x, x ∈ cur → fits st.grps st.refs x) →
    st.grps ≤ st'.grps ∧ st.refs ≤ st'.refs ∧ ∀ c, c ∈ res → ∀ x, x ∈ c → fits st'.grps st'.refs x := by
  intro f
  induction f with
  | zero => intro st rows cur res st' h; cases h
  | succ f ih =>
    intro st rows cur res st' h hr hc
    unfold loopP at h
    split at h
    · split at h
      · have h1 := ih _ _ _ _ _ h (fun c hc' => by
          rcases List.mem_append.1 hc' with h1 | h1
          · exact hr c h1
          · rw [List.mem_singleton.1 h1]; exact hc) (fun x hx => by cases hx)
        exact h1
      · split at h
        · cases h
        · rename_i x st1 hp
          obtain ⟨h1, h2, h3⟩ := hP _ _ _ hp
          have h4 := ih _ _ _ _ _ h (fun c hc' y hy => fits_mono h1 h2 y (hr c hc' y hy)) (fun y hy => by
            rcases List.mem_append.1 hy with h5 | h5
            · exact fits_mono h1 h2 y (hc y h5)
            · rw [List.mem_singleton.1 h5]; exact h3)
          exact ⟨Nat.le_trans h1 h4.1, Nat.le_trans h2 h4.2.1, h4.2.2⟩
    · cases h
      exact ⟨Nat.le_refl _, Nat.le_refl _, fun c hc' => by
        rcases List.mem_append.1 hc' with h1 | h1
        · exact hr c h1
        · rw [List.mem_singleton.1 h1]; exact hc⟩

theorem ways_fit (s : List UInt8) : ∀ d, PFit (waysP s d)
  | 0 => fun st a st' h => by cases h
  | d + 1 => fun st a st' h => by
    unfold waysP waysEnd at h
    split at h
    · cases h
    · rename_i rows st1 hl
      cases h
      obtain ⟨h1, h2, h3⟩ := loop_fit (piece_fit (ways_fit s d) s) s _ _ _ _ _ _ hl (fun c hc => by cases hc) (fun x hx => by cases hx)
      exact ⟨h1, h2, fits_ways _ h3⟩

/-- What is read fits its own number of groups. -/
theorem read_fit {s : List UInt8} {a : Re} {G : Nat} (h : readP s = some (a, G)) : fits G G (.grp 0 a) := by
  unfold readP readEnd at h
  split at h
  · cases h
  · split at h
    · cases h
    · rename_i x st hw
      split at h
      · cases h
      · rename_i hn
        cases h
        have h1 := (ways_fit s 11 _ _ _ hw).2.2
        exact ⟨Nat.zero_le _, fits_mono (Nat.le_refl _) (by omega) _ h1⟩
end Go.Proofs.Ytlgpilcjcomacaa
