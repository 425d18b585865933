/-
  Plain: a text written as a pattern of itself; where that pattern matches.
-/
import Derived.Test.YtlgpilcjcomacaaAi
namespace Go.Proofs.Ytlgpilcjcomacaa
open Rx
set_option linter.unusedVariables false

/-- The bytes that have a backslash ahead. -/
def specB : List UInt8 := [92, 94, 36, 46, 124, 63, 42, 43, 40, 41, 91, 93, 123, 125]
/-- A byte as a pattern. -/
def escB (c : UInt8) : List UInt8 := if c = 10 then [92, 110] else if c = 9 then [92, 116] else if specB.contains c = true then [92, c] else [c]
/-- A text as a pattern. -/
def escR : List UInt8 → List UInt8
  | [] => []
  | c :: r => escB c ++ escR r
def litR (l : List UInt8) : List Re := l.map (fun c => oneR c.toNat)
theorem escB_len (c : UInt8) : 1 ≤ (escB c).length ∧ (escB c).length ≤ 2 := by
  unfold escB
  repeat' split
  all_goals simp
theorem escR_len : ∀ l : List UInt8, l.length ≤ (escR l).length ∧ (escR l).length ≤ 2 * l.length
  | [] => ⟨Nat.le_refl _, Nat.le_refl _⟩
  | c :: r => by
    have h1 := escB_len c
    have h2 := escR_len r
    unfold escR
    rw [List.length_append, List.length_cons]
    omega

theorem pk_at (pre r : List UInt8) (c : UInt8) : pk (pre ++ c :: r) pre.length = c.toNat := by
  unfold pk byteAt
  rw [List.getElem?_append_right (Nat.le_refl _), Nat.sub_self]
  rfl
theorem pk_at1 (pre r : List UInt8) (c d : UInt8) : pk (pre ++ c :: d :: r) (pre.length + 1) = d.toNat := by
  unfold pk byteAt
  rw [List.getElem?_append_right (by omega), show pre.length + 1 - pre.length = 1 by omega]
  rfl
theorem byte_at1 (pre r : List UInt8) (c d : UInt8) : byteAt (pre ++ c :: d :: r) (pre.length + 1) = some d.toNat := by
  unfold byteAt
  rw [List.getElem?_append_right (by omega), show pre.length + 1 - pre.length = 1 by omega]
  rfl
theorem tk_at (pre r : List UInt8) (c x : UInt8) : tk (pre ++ c :: r) pre.length [x] = decide (c = x) := by
  unfold tk
  rw [List.drop_left]
  simp [List.isPrefixOf]
  rw [Bool.eq_iff_iff]
  simp
  exact eq_comm
theorem tk_end (pre : List UInt8) (x : UInt8) : tk pre pre.length [x] = false := by
  unfold tk
  rw [List.drop_length]
  rfl

/-- A byte that is not special. -/
def plainB (c : UInt8) : Prop := c ≠ 10 ∧ c ≠ 9 ∧ specB.contains c = false
theorem escB_cases (c : UInt8) : (∃ d : UInt8, escB c = [92, d] ∧ (d = 110 ∧ c = 10 ∨ d = 116 ∧ c = 9 ∨ specB.contains c = true ∧ d = c)) ∨ (escB c = [c] ∧ plainB c) := by
  unfold escB
  by_cases h1 : c = 10
  · rw [if_pos h1]; exact .inl ⟨_, rfl, .inl ⟨rfl, h1⟩⟩
  · rw [if_neg h1]
    by_cases h2 : c = 9
    · rw [if_pos h2]; exact .inl ⟨_, rfl, .inr (.inl ⟨rfl, h2⟩)⟩
    · rw [if_neg h2]
      by_cases h3 : specB.contains c = true
      · rw [if_pos h3]; exact .inl ⟨_, rfl, .inr (.inr ⟨h3, rfl⟩)⟩
      · rw [if_neg h3]; exact .inr ⟨rfl, h1, h2, by simpa using h3⟩

theorem plain_ne {c : UInt8} (h : plainB c) {x : UInt8} (hx : specB.contains x = true) : c ≠ x := fun e => by
  subst e
  rw [h.2.2] at hx
  cases hx
theorem spec_nums {c : UInt8} (h : specB.contains c = true) : c = 92 ∨ c = 94 ∨ c = 36 ∨ c = 46 ∨ c = 124 ∨ c = 63 ∨ c = 42 ∨ c = 43 ∨ c = 40 ∨ c = 41 ∨ c = 91 ∨ c = 93 ∨ c = 123 ∨ c = 125 := by
  simpa [specB] using h

/-- What begins a byte's pattern. -/
theorem esc_first (pre t : List UInt8) {x : UInt8} (hx : specB.contains x = true) (h92 : x ≠ 92) : tk (pre ++ escR t) pre.length [x] = false := by
  cases t with
  | nil => unfold escR; rw [List.append_nil]; exact tk_end _ _
  | cons c r =>
    unfold escR
    rcases escB_cases c with ⟨d, e, -⟩ | ⟨e, hp⟩
    · rw [e, List.cons_append, tk_at]
      exact decide_eq_false (fun e => h92 e.symm)
    · rw [e, List.cons_append, List.nil_append, tk_at]
      exact decide_eq_false (plain_ne hp hx)

theorem esc_times (pre t : List UInt8) : timesP (pre ++ escR t) pre.length = some (none, pre.length) := by
  unfold timesP
  rw [if_neg (by rw [esc_first pre t (by decide) (by decide)]; decide), if_neg (by rw [esc_first pre t (by decide) (by decide)]; decide), if_neg (by rw [esc_first pre t (by decide) (by decide)]; decide), if_neg (by rw [esc_first pre t (by decide) (by decide)]; decide)]

/-- An escaped byte, read. -/
theorem esc_atom (W : PS → Option (Re × PS)) (pre r : List UInt8) (c : UInt8) (g q : Nat) : atomP W (pre ++ (escB c ++ r)) ⟨pre.length, g, q⟩ = some (oneR c.toNat, ⟨pre.length + (escB c).length, g, q⟩) := by
  rcases escB_cases c with ⟨d, e, hd⟩ | ⟨e, hp⟩
  · rw [e]
    show atomP W (pre ++ 92 :: d :: r) ⟨pre.length, g, q⟩ = _
    unfold atomP
    simp only
    rw [if_pos (by rw [pk_at]; rfl)]
    unfold escP
    simp only
    rw [byte_at1]
    simp only
    have key : ∀ x : Nat, named d.toNat = none ∧ d.toNat ≠ 65 ∧ d.toNat ≠ 122 ∧ d.toNat ≠ 98 ∧ d.toNat ≠ 66 ∧ ¬ (49 ≤ d.toNat ∧ d.toNat ≤ 57) ∧ plainP d.toNat = some c.toNat := by
      intro _
      rcases hd with ⟨rfl, rfl⟩ | ⟨rfl, rfl⟩ | ⟨hs, rfl⟩
      · decide
      · decide
      · rcases spec_nums hs with rfl | rfl | rfl | rfl | rfl | rfl | rfl | rfl | rfl | rfl | rfl | rfl | rfl | rfl <;> decide
    obtain ⟨k1, k2, k3, k4, k5, k6, k7⟩ := key 0
    rw [k1]
    simp only
    rw [if_neg k2, if_neg k3, if_neg k4, if_neg k5, if_neg k6, k7]
    rfl
  · rw [e]
    show atomP W (pre ++ c :: r) ⟨pre.length, g, q⟩ = _
    have hc : ∀ (x : UInt8) (n : Nat), x.toNat = n → specB.contains x = true → ¬ (c.toNat = n) := fun x n hn hx e => plain_ne hp hx (UInt8.toNat.inj (e.trans hn.symm))
    unfold atomP
    simp only
    rw [pk_at]
    rw [if_neg (hc 92 92 rfl (by decide)), if_neg (hc 46 46 rfl (by decide)), if_neg (hc 94 94 rfl (by decide)), if_neg (hc 36 36 rfl (by decide)), if_neg (hc 91 91 rfl (by decide)), if_neg (hc 40 40 rfl (by decide))]
    rw [if_neg (by
      intro h
      have h : c.toNat = 42 ∨ c.toNat = 43 ∨ c.toNat = 63 ∨ c.toNat = 123 ∨ c.toNat = 125 ∨ c.toNat = 93 := by simpa [stops] using h
      rcases h with h | h | h | h | h | h
      · exact hc 42 42 rfl (by decide) h
      · exact hc 43 43 rfl (by decide) h
      · exact hc 63 63 rfl (by decide) h
      · exact hc 123 123 rfl (by decide) h
      · exact hc 125 125 rfl (by decide) h
      · exact hc 93 93 rfl (by decide) h)]
    rfl

theorem esc_piece (W : PS → Option (Re × PS)) (pre r : List UInt8) (c : UInt8) (g q : Nat) : pieceP W (pre ++ escR (c :: r)) ⟨pre.length, g, q⟩ = some (oneR c.toNat, ⟨pre.length + (escB c).length, g, q⟩) := by
  unfold pieceP
  rw [show escR (c :: r) = escB c ++ escR r from rfl, esc_atom]
  simp only
  have h := esc_times (pre ++ escB c) r
  rw [List.append_assoc, List.length_append] at h
  rw [h]

theorem esc_loop (W : PS → Option (Re × PS)) : ∀ (t pre : List UInt8) (f g q : Nat) (cur : List Re), t.length < f → loopP (pieceP W (pre ++ escR t)) (pre ++ escR t) f ⟨pre.length, g, q⟩ [] cur = some ([cur ++ litR t], ⟨(pre ++ escR t).length, g, q⟩)
  | [], pre, f, g, q, cur, hf => by
    cases f with
    | zero => omega
    | succ f =>
      unfold loopP
      rw [if_neg (by unfold escR; rw [List.append_nil]; exact fun h => Nat.lt_irrefl _ h.1)]
      simp [litR, escR]
  | c :: r, pre, f, g, q, cur, hf => by
    cases f with
    | zero => omega
    | succ f =>
      have hlen := escB_len c
      have hl : pre.length < (pre ++ escR (c :: r)).length := by
        rw [List.length_append]; unfold escR; rw [List.length_append]; omega
      have h41 : pk (pre ++ escR (c :: r)) pre.length ≠ 41 := by
        have h1 := esc_first pre (c :: r) (x := 41) (by decide) (by decide)
        rcases escB_cases c with ⟨d, e, -⟩ | ⟨e, hp⟩
        · unfold escR; rw [e]
          show pk (pre ++ 92 :: ([d] ++ escR r)) pre.length ≠ 41
          rw [pk_at]; decide
        · unfold escR; rw [e]
          show pk (pre ++ c :: ([] ++ escR r)) pre.length ≠ 41
          rw [pk_at]
          exact fun h => plain_ne hp (x := 41) (by decide) (UInt8.toNat.inj h)
      unfold loopP
      rw [if_pos ⟨hl, h41⟩, if_neg (by rw [esc_first pre (c :: r) (by decide) (by decide)]; decide)]
      rw [esc_piece]
      simp only
      have ih := esc_loop W r (pre ++ escB c) f g q (cur ++ [oneR c.toNat]) (by simp at hf; omega)
      rw [List.append_assoc, List.length_append] at ih
      rw [show escR (c :: r) = escB c ++ escR r from rfl, ih]
      simp [litR]

/-- The pattern, read. -/
def litsR (t : List UInt8) : Re := .alt (toRow (litR t)) .none
theorem esc_read (t : List UInt8) (h : t.length ≤ 150) : readP (escR t) = some (litsR t, 0) := by
  have hl := escR_len t
  unfold readP
  rw [if_neg (by omega)]
  unfold waysP
  have h1 := esc_loop (waysP (escR t) 10) t [] ((escR t).length + 1 - 0) 0 0 [] (by omega)
  rw [List.nil_append] at h1
  show readEnd (escR t) (waysEnd (loopP (pieceP (waysP (escR t) 10) (escR t)) (escR t) ((escR t).length + 1 - 0) ⟨0, 0, 0⟩ [] [])) = _
  rw [show (⟨0, 0, 0⟩ : PS) = ⟨([] : List UInt8).length, 0, 0⟩ from rfl, h1]
  show (if (escR t).length < (escR t).length ∨ 0 < 0 then none else some (toWays [[] ++ litR t], 0)) = _
  rw [if_neg (by omega)]
  rfl

/-- The text at a place. -/
def PreAt (s t : List UInt8) (j : Nat) : Prop := t <+: s.drop j
theorem run_lits (s : List UInt8) (B : Nat) (g : Grp) (k : K) : ∀ (t : List UInt8) (j n : Nat), n + t.length ≤ B → (PreAt s t j → run s B (toRow (litR t)) j k n g = k (j + t.length) (n + t.length) g) ∧ (¬ PreAt s t j → ∃ m, m ≤ n + t.length ∧ run s B (toRow (litR t)) j k n g = .no m)
  | [], j, n, h => ⟨fun _ => rfl, fun h => absurd (List.nil_prefix) h⟩
  | c :: r, j, n, h => by
    have hn : n < B := by simp at h; omega
    have hrun : run s B (toRow (litR (c :: r))) j k n g = (match byteAt s j with | some d => if decide (d = c.toNat) = true then run s B (toRow (litR r)) (j + 1) k (n + 1) g else .no (n + 1) | none => .no (n + 1)) := by
      show run s B (.cat (oneR c.toNat) (toRow (litR r))) j k n g = _
      simp only [run, oneR, tick]
      rw [if_neg (by omega)]
      cases byteAt s j <;> rfl
    rw [hrun]
    have ih := run_lits s B g k r (j + 1) (n + 1) (by simp at h; omega)
    have hpre : PreAt s (c :: r) j ↔ (s[j]? = some c ∧ PreAt s r (j + 1)) := by
      unfold PreAt
      rcases Nat.lt_or_ge j s.length with hj | hj
      · rw [List.drop_eq_getElem_cons hj, List.cons_prefix_cons, List.getElem?_eq_getElem hj]
        constructor
        · rintro ⟨h1, h2⟩; exact ⟨by rw [h1], h2⟩
        · rintro ⟨h1, h2⟩; exact ⟨(Option.some.inj h1).symm, h2⟩
      · rw [List.drop_eq_nil_of_le hj, List.getElem?_eq_none hj]
        constructor
        · intro h; simp at h
        · rintro ⟨h1, -⟩; cases h1
    rw [hpre]
    unfold byteAt
    cases hb : s[j]? with
    | none =>
      refine ⟨(fun h => by cases h.1), fun _ => ⟨n + 1, by simp only [List.length_cons]; omega, rfl⟩⟩
    | some d =>
      simp only [Option.map_some]
      by_cases hd : d = c
      · subst hd
        rw [if_pos (by simp)]
        refine ⟨fun h => ?_, fun h => ?_⟩
        · rw [ih.1 h.2]
          simp only [List.length_cons]
          rw [show j + 1 + r.length = j + (r.length + 1) by omega, show n + 1 + r.length = n + (r.length + 1) by omega]
        · obtain ⟨m, h1, h2⟩ := ih.2 (fun hp => h ⟨rfl, hp⟩)
          exact ⟨m, by simp only [List.length_cons]; omega, h2⟩
      · rw [if_neg (by simp; exact fun e => hd (UInt8.toNat.inj e))]
        exact ⟨fun h => absurd (Option.some.inj h.1) hd, fun _ => ⟨n + 1, by simp only [List.length_cons]; omega, rfl⟩⟩

theorem run_litsR (s t : List UInt8) (B : Nat) (g : Grp) (j n : Nat) (h : n + t.length ≤ B) : (PreAt s t j → run s B (.grp 0 (litsR t)) j K0 n g = .yes (n + t.length) g (j + t.length)) ∧ (¬ PreAt s t j → ∃ m, m ≤ n + t.length ∧ run s B (.grp 0 (litsR t)) j K0 n g = .no m) := by
  have h1 := run_lits s B g K0 t j n h
  have e : run s B (.grp 0 (litsR t)) j K0 n g = orElse (run s B (toRow (litR t)) j K0 n g) (fun n => .no n) := by
    simp only [run, litsR, if_true]
  rw [e]
  refine ⟨fun hp => by rw [h1.1 hp]; rfl, fun hp => ?_⟩
  obtain ⟨m, h2, h3⟩ := h1.2 hp
  exact ⟨m, h2, by rw [h3]; rfl⟩

/-- The pattern matches where the text stands first. -/
theorem fr_lits (s t : List UInt8) (B i : Nat) (hi : i ≤ s.length) (hp : PreAt s t i) : ∀ (d j n : Nat), j + d = i → (∀ m, j ≤ m → m < i → ¬ PreAt s t m) → n + (d + 1) * t.length ≤ B → ∃ m, fr s B (.grp 0 (litsR t)) false j n = .yes m (upd g0 0 ((i : Int), ((i + t.length : Nat) : Int))) (i + t.length)
  | 0, j, n, e, hn, hB => by
    have e : j = i := e
    subst e
    rw [fr_step _ _ _ _ _ _ hi, (run_litsR s t B g0 j n (by omega)).1 hp]
    exact ⟨_, rfl⟩
  | d + 1, j, n, e, hn, hB => by
    rw [fr_step _ _ _ _ _ _ (by omega)]
    have hmul : (d + 1 + 1) * t.length = (d + 1) * t.length + t.length := by rw [Nat.add_mul, Nat.one_mul]
    obtain ⟨m, h1, h2⟩ := (run_litsR s t B g0 j n (by omega)).2 (hn j (Nat.le_refl _) (by omega))
    rw [h2]
    exact fr_lits s t B i hi hp d (j + 1) m (by omega) (fun m h3 h4 => hn m (by omega) h4) (by omega)
end Go.Proofs.Ytlgpilcjcomacaa
