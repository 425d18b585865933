/-
  Plain: a pattern in which no look ahead is written is read into a tree that does not look ahead.
-/
import Derived.Test.YtlgpilcjcomacaaGreatLa
import Derived.Test.YtlgpilcjcomacaaGreatAi
namespace Go.Proofs.YtlgpilcjcomacaaGreat
open Rx
set_option linter.unusedVariables false

/-- Behind each bracket with a question mark there is a colon. -/
def okS (s : List UInt8) : Prop := ∀ i, pk s i = 40 → pk s (i + 1) = 63 → pk s (i + 2) = 58

theorem tk_pk2 {s : List UInt8} {i : Nat} {x y : UInt8} (h : tk s i [x, y] = true) : pk s i = x.toNat ∧ pk s (i + 1) = y.toNat := by
  unfold tk at h
  obtain ⟨t, ht⟩ := List.isPrefixOf_iff_prefix.1 h
  have h0 : (s.drop i)[0]? = some x := by rw [← ht]; rfl
  have h1 : (s.drop i)[1]? = some y := by rw [← ht]; rfl
  rw [List.getElem?_drop] at h0 h1
  unfold pk byteAt
  rw [show i + 0 = i from rfl] at h0
  rw [h0, h1]
  exact ⟨rfl, rfl⟩

def PNo (P : PS → Option (Re × PS)) : Prop := ∀ st a st', P st = some (a, st') → noLook a

theorem esc_no (s : List UInt8) : PNo (escP s) := by
  intro st a st' h
  unfold escP at h
  split at h
  · cases h
  · split at h
    · cases h; trivial
    · split at h
      · cases h; trivial
      · split at h
        · cases h; trivial
        · split at h
          · cases h; trivial
          · split at h
            · cases h; trivial
            · split at h
              · cases h; trivial
              · split at h
                · cases h
                · cases h; trivial

theorem inside_no {W : PS → Option (Re × PS)} (hW : PNo W) (s : List UInt8) (mk : Re → Re) (hmk : ∀ x, noLook x → noLook (mk x)) (st : PS) (a : Re) (st' : PS) (h : insideP W s mk st = some (a, st')) : noLook a := by
  unfold insideP at h
  split at h
  · cases h
  · split at h
    · cases h
    · rename_i x st2 hw
      split at h
      · cases h
        exact hmk _ (hW _ _ _ hw)
      · cases h

theorem grp_no {W : PS → Option (Re × PS)} (hW : PNo W) (s : List UInt8) (hs : okS s) (i : Nat) (hi : pk s i = 40) (st : PS) (hp : st.pos = i + 1) (a : Re) (st' : PS) (h : grpP W s st = some (a, st')) : noLook a := by
  unfold grpP at h
  split at h
  · exact inside_no hW s (.grp 0) (fun x hx => hx) _ _ _ h
  · split at h
    · rename_i h1
      rw [hp] at h1
      obtain ⟨h2, h3⟩ := tk_pk2 h1
      have h4 := hs i hi h2
      rw [h3] at h4
      exact absurd h4 (by decide)
    · split at h
      · rename_i h1
        rw [hp] at h1
        obtain ⟨h2, h3⟩ := tk_pk2 h1
        have h4 := hs i hi h2
        rw [h3] at h4
        exact absurd h4 (by decide)
      · split at h
        · exact inside_no hW s .atom (fun x hx => hx) _ _ _ h
        · split at h
          · cases h
          · exact inside_no hW s (.grp (st.grps + 1)) (fun x hx => hx) _ _ _ h

theorem atom_no {W : PS → Option (Re × PS)} (hW : PNo W) (s : List UInt8) (hs : okS s) : PNo (atomP W s) := by
  intro st a st' h
  unfold atomP at h
  split at h
  · exact esc_no s _ _ _ h
  · split at h
    · cases h; trivial
    · split at h
      · cases h; trivial
      · split at h
        · cases h; trivial
        · split at h
          · split at h
            · cases h
            · cases h; trivial
          · split at h
            · rename_i h1
              exact grp_no hW s hs st.pos h1 _ rfl _ _ h
            · split at h
              · cases h
              · cases h; trivial

theorem how_no (s : List UInt8) (a : Re) (lo : Nat) (hi : Int) (st : PS) (h : noLook a) : noLook (howP s a lo hi st).1 := by
  unfold howP
  split
  · exact h
  · split
    · exact h
    · exact h

theorem piece_no {W : PS → Option (Re × PS)} (hW : PNo W) (s : List UInt8) (hs : okS s) : PNo (pieceP W s) := by
  intro st a st' h
  unfold pieceP at h
  split at h
  · cases h
  · rename_i x st1 ha
    have h1 := atom_no hW s hs _ _ _ ha
    split at h
    · cases h
    · cases h; exact h1
    · rename_i lo hi j ht
      split at h
      · cases h
      · split at h
        · cases h
        · have h2 := how_no s x lo hi { st1 with pos := j } h1
          have h3 := Option.some.inj h
          rw [h3] at h2
          exact h2

theorem no_row : ∀ l : List Re, (∀ x, x ∈ l → noLook x) → noLook (toRow l)
  | [], _ => trivial
  | a :: l, h => ⟨h a (List.mem_cons_self ..), no_row l (fun x hx => h x (List.mem_cons_of_mem _ hx))⟩
theorem no_ways : ∀ l : List (List Re), (∀ c, c ∈ l → ∀ x, x ∈ c → noLook x) → noLook (toWays l)
  | [], _ => trivial
  | a :: l, h => ⟨no_row a (h a (List.mem_cons_self ..)), no_ways l (fun c hc => h c (List.mem_cons_of_mem _ hc))⟩

theorem loop_no {P : PS → Option (Re × PS)} (hP : PNo P) (s : List UInt8) : ∀ (f : Nat) (st : PS) (rows : List (List Re)) (cur : List Re) (res : List (List Re)) (st' : PS), loopP P s f st rows cur = some (res, st') → (∀ c, c ∈ rows → ∀ x, x ∈ c → noLook x) → (∀ x, x ∈ cur → noLook x) → ∀ c, c ∈ res → ∀ x, x ∈ c → noLook x := by
  intro f
  induction f with
  | zero => intro st rows cur res st' h; cases h
  | succ f ih =>
    intro st rows cur res st' h hr hc
    unfold loopP at h
    split at h
    · split at h
      · exact ih _ _ _ _ _ h (fun c hc' => by
          rcases List.mem_append.1 hc' with h1 | h1
          · exact hr c h1
          · rw [List.mem_singleton.1 h1]; exact hc) (fun x hx => by cases hx)
      · split at h
        · cases h
        · rename_i x st1 hp
          exact ih _ _ _ _ _ h hr (fun y hy => by
            rcases List.mem_append.1 hy with h5 | h5
            · exact hc y h5
            · rw [List.mem_singleton.1 h5]; exact hP _ _ _ hp)
    · cases h
      exact fun c hc' => by
        rcases List.mem_append.1 hc' with h1 | h1
        · exact hr c h1
        · rw [List.mem_singleton.1 h1]; exact hc

theorem ways_no (s : List UInt8) (hs : okS s) : ∀ d, PNo (waysP s d)
  | 0 => fun st a st' h => by cases h
  | d + 1 => fun st a st' h => by
    unfold waysP waysEnd at h
    split at h
    · cases h
    · rename_i rows st1 hl
      cases h
      exact no_ways _ (loop_no (piece_no (ways_no s hs d) s hs) s _ _ _ _ _ _ hl (fun c hc => by cases hc) (fun x hx => by cases hx))

theorem read_no {s : List UInt8} {a : Re} {G : Nat} (h : readP s = some (a, G)) (hs : okS s) : noLook (.grp 0 a) := by
  unfold readP readEnd at h
  split at h
  · cases h
  · split at h
    · cases h
    · rename_i x st hw
      split at h
      · cases h
      · cases h
        exact (ways_no s hs 11 _ _ _ hw : noLook a)

/-- A text of which nothing is open at its end. -/
def shutS (s : List UInt8) : Prop := okS s ∧ (∀ i, i + 1 = s.length → pk s i ≠ 40) ∧ (∀ i, i + 2 = s.length → pk s i = 40 → pk s (i + 1) ≠ 63)
theorem pk_past {s : List UInt8} {i : Nat} (h : s.length ≤ i) : pk s i = 0 := by unfold pk byteAt; rw [List.getElem?_eq_none h]; rfl
theorem pk_left {s t : List UInt8} {i : Nat} (h : i < s.length) : pk (s ++ t) i = pk s i := by unfold pk byteAt; rw [List.getElem?_append_left h]
theorem pk_right {s t : List UInt8} {i : Nat} : pk (s ++ t) (s.length + i) = pk t i := by unfold pk byteAt; rw [List.getElem?_append_right (by omega), Nat.add_sub_cancel_left]
theorem shut_append {s t : List UInt8} (hs : shutS s) (ht : shutS t) : shutS (s ++ t) := by
  obtain ⟨s1, s2, s3⟩ := hs
  obtain ⟨t1, t2, t3⟩ := ht
  refine ⟨fun i h0 h1 => ?_, fun i hi h0 => ?_, fun i hi h0 h1 => ?_⟩
  · by_cases hi : i < s.length
    · rw [pk_left hi] at h0
      by_cases h2 : i + 1 < s.length
      · rw [pk_left h2] at h1
        by_cases h3 : i + 2 < s.length
        · rw [pk_left h3]; exact s1 i h0 h1
        · exact absurd h1 (s3 i (by omega) h0)
      · exact absurd h0 (s2 i (by omega))
    · obtain ⟨k, rfl⟩ : ∃ k, i = s.length + k := ⟨i - s.length, by omega⟩
      rw [Nat.add_assoc, pk_right] at h1 ⊢
      rw [pk_right] at h0
      exact t1 k h0 h1
  · rw [List.length_append] at hi
    by_cases h : i < s.length
    · rw [pk_left h] at h0
      exact s2 i (by omega) h0
    · obtain ⟨k, rfl⟩ : ∃ k, i = s.length + k := ⟨i - s.length, by omega⟩
      rw [pk_right] at h0
      exact t2 k (by omega) h0
  · rw [List.length_append] at hi
    by_cases h : i < s.length
    · rw [pk_left h] at h0
      by_cases h2 : i + 1 < s.length
      · rw [pk_left h2] at h1
        exact s3 i (by omega) h0 h1
      · exact s2 i (by omega) h0
    · obtain ⟨k, rfl⟩ : ∃ k, i = s.length + k := ⟨i - s.length, by omega⟩
      rw [Nat.add_assoc, pk_right] at h1
      rw [pk_right] at h0
      exact t3 k (by omega) h0 h1
/-- A text that can stand in brackets: nothing is open at its end, and it does not begin with a question mark. -/
def goodS (s : List UInt8) : Prop := shutS s ∧ pk s 0 ≠ 63
theorem good_nil : goodS [] := by
  refine ⟨⟨fun i h => ?_, fun i hi => ?_, fun i hi => ?_⟩, by decide⟩
  · rw [pk_past (Nat.zero_le _)] at h; cases h
  · cases hi
  · cases hi
theorem good_append {s t : List UInt8} (hs : goodS s) (ht : goodS t) : goodS (s ++ t) := by
  refine ⟨shut_append hs.1 ht.1, ?_⟩
  cases s with
  | nil => exact ht.2
  | cons x s => rw [pk_left (by simp)]; exact hs.2
theorem good_shut {s t : List UInt8} (hs : goodS s) (h : s ≠ []) (ht : shutS t) : goodS (s ++ t) := by
  refine ⟨shut_append hs.1 ht, ?_⟩
  cases s with
  | nil => exact absurd rfl h
  | cons x s => rw [pk_left (by simp)]; exact hs.2
theorem good_grp {t : List UInt8} (ht : goodS t) : goodS ([40] ++ (t ++ [41])) := by
  have hc : shutS (t ++ [41]) := shut_append ht.1 (by
    refine ⟨fun i h => ?_, fun i hi => ?_, fun i hi => ?_⟩
    · cases i with
      | zero => cases h
      | succ i => rw [pk_past (by simp)] at h; cases h
    · obtain rfl : i = 0 := by simpa using hi
      decide
    · simp at hi)
  obtain ⟨c1, c2, c3⟩ := hc
  refine ⟨⟨fun i h0 h1 => ?_, fun i hi h0 => ?_, fun i hi h0 h1 => ?_⟩, show (40 : Nat) ≠ 63 by decide⟩
  · cases i with
    | zero =>
      exfalso
      have h2 : pk (t ++ [41]) 0 = 63 := h1
      cases t with
      | nil => cases h2
      | cons x t => rw [pk_left (by simp)] at h2; exact ht.2 h2
    | succ i =>
      have e : ∀ j, pk ([40] ++ (t ++ [41])) (j + 1) = pk (t ++ [41]) j := fun j => by rw [Nat.add_comm]; exact pk_right (s := [40])
      rw [e] at h0 h1 ⊢
      exact c1 i h0 h1
  · cases i with
    | zero => simp at hi
    | succ i =>
      have e : ∀ j, pk ([40] ++ (t ++ [41])) (j + 1) = pk (t ++ [41]) j := fun j => by rw [Nat.add_comm]; exact pk_right (s := [40])
      rw [e] at h0
      exact c2 i (by simp at hi ⊢; omega) h0
  · cases i with
    | zero =>
      have h2 : pk (t ++ [41]) 0 = 63 := h1
      cases t with
      | nil => cases h2
      | cons x t => rw [pk_left (by simp)] at h2; exact ht.2 h2
    | succ i =>
      have e : ∀ j, pk ([40] ++ (t ++ [41])) (j + 1) = pk (t ++ [41]) j := fun j => by rw [Nat.add_comm]; exact pk_right (s := [40])
      rw [e] at h0 h1
      exact c3 i (by simp at hi ⊢; omega) h0 h1
theorem good_plain {t : List UInt8} (ht : goodS t) : goodS ([40, 63, 58] ++ (t ++ [41])) := by
  have hc : shutS (t ++ [41]) := shut_append ht.1 (by
    refine ⟨fun i h => ?_, fun i hi => ?_, fun i hi => ?_⟩
    · cases i with
      | zero => cases h
      | succ i => rw [pk_past (by simp)] at h; cases h
    · obtain rfl : i = 0 := by simpa using hi
      decide
    · simp at hi)
  refine ⟨shut_append (s := [40, 63, 58]) ⟨fun i h0 h1 => ?_, fun i hi h0 => ?_, fun i hi h0 h1 => ?_⟩ hc, show (40 : Nat) ≠ 63 by decide⟩
  · match i with
    | 0 => rfl
    | 1 => cases h0
    | 2 => cases h0
    | i + 3 => rw [pk_past (by simp)] at h0; cases h0
  · obtain rfl : i = 2 := by simpa using hi
    cases h0
  · obtain rfl : i = 1 := by simpa using hi
    cases h0
end Go.Proofs.YtlgpilcjcomacaaGreat
