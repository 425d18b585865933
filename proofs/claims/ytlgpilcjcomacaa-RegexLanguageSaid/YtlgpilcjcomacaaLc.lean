/-
  Plain: trying one way after the other finds a way just if there is one (of patterns without looks ahead, back references and atomic parts).
-/
import Derived.Test.YtlgpilcjcomacaaLa
import Derived.Test.YtlgpilcjcomacaaHa
namespace Go.Proofs.Ytlgpilcjcomacaa
open Rx
set_option linter.unusedVariables false

/-- So many rounds. -/
def Pow (R : Nat → Nat → Prop) : Nat → Nat → Nat → Prop
  | 0, i, j => i = j
  | n + 1, i, j => ∃ m, R i m ∧ Pow R n m j
/-- Some way of a pattern goes from a place to a place. -/
def Way (s : List UInt8) : Re → Nat → Nat → Prop
  | .set f, i, j => (∃ c, byteAt s i = some c ∧ f c = true) ∧ j = i + 1
  | .asr k, i, j => stands s k i = true ∧ j = i
  | .bref _, _, _ => False
  | .nil, i, j => j = i
  | .cat a b, i, j => ∃ m, Way s a i m ∧ Way s b m j
  | .none, _, _ => False
  | .alt a b, i, j => Way s a i j ∨ Way s b i j
  | .grp _ a, i, j => Way s a i j
  | .look _ _, _, _ => False
  | .atom _, _, _ => False
  | .rep a lo hi _, i, j => ∃ r, lo ≤ r ∧ (hi = -1 ∨ r = 0 ∨ (r : Int) ≤ hi) ∧ Pow (Way s a) r i j
  | .poss _ _ _, _, _ => False
/-- Nothing looks ahead or back, nothing is atomic. -/
def pureB : Re → Bool
  | .set _ => true
  | .asr _ => true
  | .bref _ => false
  | .nil => true
  | .cat a b => pureB a && pureB b
  | .none => true
  | .alt a b => pureB a && pureB b
  | .grp _ a => pureB a
  | .look _ _ => false
  | .atom _ => false
  | .rep a _ _ _ => pureB a
  | .poss _ _ _ => false

/-- What comes of a try says whether something is so, unless the budget is used up. -/
def Says (P : Prop) : Res → Prop
  | .over => True
  | .no _ => ¬ P
  | .yes _ _ _ => P
theorem Says.congr {P Q : Prop} {r : Res} (h : Says P r) (e : P ↔ Q) : Says Q r := by
  cases r with
  | over => trivial
  | no n => exact fun q => h (e.2 q)
  | yes n g x => exact e.1 h
theorem says_orElse {P Q : Prop} {r : Res} {f : Nat → Res} (hr : Says P r) (hf : ∀ n, Says Q (f n)) : Says (P ∨ Q) (orElse r f) := by
  cases r with
  | over => trivial
  | no n => exact (hf n).congr ⟨.inr, fun h => h.resolve_left hr⟩
  | yes n g x => exact .inl hr
theorem says_tick {P : Prop} {B n : Nat} {f : Nat → Res} (h : ∀ n, Says P (f n)) : Says P (tick B n f) := by
  unfold tick
  split
  · trivial
  · exact h _

def CanR (most : Int) (made r : Nat) : Prop := most = -1 ∨ r = 0 ∨ ((made + r : Nat) : Int) ≤ most

theorem says_times {L : Nat} {kid : Nat → K → Nat → Grp → Res} {W : Nat → Nat → Prop}
    (hkid : ∀ at' k n g (T : Nat → Prop), at' ≤ L → (∀ e n g, at' ≤ e → e ≤ L → Says (T e) (k e n g)) → Says (∃ e, W at' e ∧ T e) (kid at' k n g)) (least : Nat) (most : Int) (lazy : Bool) :
    ∀ fuel made at' k n g (T : Nat → Prop), at' ≤ L → (least - made) + (L - at') + 1 ≤ fuel → (∀ e n g, at' ≤ e → e ≤ L → Says (T e) (k e n g)) →
      Says (∃ e, (∃ r, least ≤ made + r ∧ CanR most made r ∧ Pow W r at' e) ∧ T e) (times kid least most lazy fuel made at' k n g) := by
  intro fuel
  induction fuel with
  | zero => intro made at' k n g T _ hf; omega
  | succ fuel ih =>
    intro made at' k n g T hL hf hk
    have hmore : ∀ n, Says (∃ m, W at' m ∧ ((m = at' ∧ least ≤ made ∧ T at') ∨ (¬ (m = at' ∧ least ≤ made) ∧ ∃ e, (∃ r, least ≤ made + 1 + r ∧ CanR most (made + 1) r ∧ Pow W r m e) ∧ T e)) ∧ ¬ (most ≠ -1 ∧ most ≤ (made : Int))) (moreR kid least most lazy fuel made at' k g n) := by
      intro n
      unfold moreR
      by_cases hm : most ≠ -1 ∧ most ≤ (made : Int)
      · rw [if_pos hm]
        rintro ⟨m, _, _, h⟩
        exact h hm
      · rw [if_neg hm]
        refine (hkid at' _ n g (fun m => (m = at' ∧ least ≤ made ∧ T at') ∨ (¬ (m = at' ∧ least ≤ made) ∧ ∃ e, (∃ r, least ≤ made + 1 + r ∧ CanR most (made + 1) r ∧ Pow W r m e) ∧ T e)) hL (fun e n g he hl => ?_)).congr ⟨fun ⟨m, h1, h2⟩ => ⟨m, h1, h2, hm⟩, fun ⟨m, h1, h2, _⟩ => ⟨m, h1, h2⟩⟩
        unfold roundK
        by_cases hc : e = at' ∧ least ≤ made
        · rw [if_pos hc]
          refine (hk e n g he hl).congr ⟨fun h => .inl ⟨hc.1, hc.2, hc.1 ▸ h⟩, fun h => ?_⟩
          rcases h with ⟨h1, -, h3⟩ | ⟨h1, -⟩
          · exact h1 ▸ h3
          · exact absurd hc h1
        · rw [if_neg hc]
          refine (ih (made + 1) e k n g T hl ?_ (fun e2 n g he2 => hk e2 n g (by omega))).congr ⟨fun h => .inr ⟨hc, h⟩, fun h => ?_⟩
          · by_cases h1 : made < least
            · omega
            · have : e ≠ at' := fun h => hc ⟨h, by omega⟩
              omega
          · rcases h with ⟨h1, h2, -⟩ | ⟨-, h2⟩
            · exact absurd ⟨h1, h2⟩ hc
            · exact h2
    rw [times_succ]
    by_cases h1 : made < least
    · rw [if_pos h1]
      refine (hmore n).congr ⟨?_, ?_⟩
      · rintro ⟨m, hw, h2, hm⟩
        rcases h2 with ⟨-, h3, -⟩ | ⟨-, e, ⟨r, h4, h5, h6⟩, hT⟩
        · omega
        · refine ⟨e, ⟨r + 1, by omega, ?_, m, hw, h6⟩, hT⟩
          unfold CanR at h5 ⊢
          omega
      · rintro ⟨e, ⟨r, h4, h5, h6⟩, hT⟩
        cases r with
        | zero => omega
        | succ r =>
          obtain ⟨m, hw, hp⟩ := h6
          unfold CanR at h5
          refine ⟨m, hw, .inr ⟨by omega, e, ⟨r, by omega, ?_, hp⟩, hT⟩, by omega⟩
          unfold CanR
          omega
    · rw [if_neg h1]
      have key : ((∃ e, (∃ r, least ≤ made + r ∧ CanR most made r ∧ Pow W r at' e) ∧ T e) ↔ (T at' ∨ ∃ m, W at' m ∧ ((m = at' ∧ least ≤ made ∧ T at') ∨ (¬ (m = at' ∧ least ≤ made) ∧ ∃ e, (∃ r, least ≤ made + 1 + r ∧ CanR most (made + 1) r ∧ Pow W r m e) ∧ T e)) ∧ ¬ (most ≠ -1 ∧ most ≤ (made : Int)))) := by
        constructor
        · rintro ⟨e, ⟨r, h4, h5, h6⟩, hT⟩
          induction r with
          | zero => exact .inl (by have h7 : at' = e := h6; rw [h7]; exact hT)
          | succ r ihr =>
            obtain ⟨m, hw, hp⟩ := h6
            by_cases hma : m = at'
            · subst hma
              exact ihr (by omega) (by unfold CanR at h5 ⊢; omega) hp
            · right
              unfold CanR at h5
              refine ⟨m, hw, .inr ⟨fun h => hma h.1, e, ⟨r, by omega, ?_, hp⟩, hT⟩, by omega⟩
              unfold CanR
              omega
        · rintro (hT | ⟨m, hw, h2, hm⟩)
          · exact ⟨at', ⟨0, by omega, .inr (.inl rfl), rfl⟩, hT⟩
          · rcases h2 with ⟨-, -, hT⟩ | ⟨-, e, ⟨r, h4, h5, h6⟩, hT⟩
            · exact ⟨at', ⟨0, by omega, .inr (.inl rfl), rfl⟩, hT⟩
            · refine ⟨e, ⟨r + 1, by omega, ?_, m, hw, h6⟩, hT⟩
              unfold CanR at h5 ⊢
              omega
      cases lazy with
      | true =>
        rw [if_pos rfl]
        exact (says_orElse (hk at' n g (Nat.le_refl _) hL) hmore).congr key.symm
      | false =>
        rw [if_neg (by decide)]
        exact (says_orElse (hmore n) (fun n => hk at' n g (Nat.le_refl _) hL)).congr (Or.comm.trans key.symm)

theorem says_run (s : List UInt8) (B : Nat) : ∀ a, pureB a = true → ∀ at' k n g (T : Nat → Prop), at' ≤ s.length → (∀ e n g, at' ≤ e → e ≤ s.length → Says (T e) (k e n g)) → Says (∃ e, Way s a at' e ∧ T e) (run s B a at' k n g) := by
  intro a
  induction a with
  | set f =>
    intro _ at' k n g T hL hk
    simp only [run]
    refine says_tick (fun n => ?_)
    cases hb : byteAt s at' with
    | none =>
      rintro ⟨e, ⟨⟨c, hc, -⟩, -⟩, -⟩
      rw [hb] at hc; cases hc
    | some c =>
      have hlt : at' < s.length := by
        unfold byteAt at hb
        rcases Nat.lt_or_ge at' s.length with h | h
        · exact h
        · rw [List.getElem?_eq_none h] at hb; cases hb
      simp only
      cases hf : f c with
      | true =>
        rw [if_pos rfl]
        exact (hk (at' + 1) n g (by omega) hlt).congr ⟨fun h => ⟨at' + 1, ⟨⟨c, hb, hf⟩, rfl⟩, h⟩, fun ⟨e, ⟨_, he⟩, h⟩ => he ▸ h⟩
      | false =>
        rw [if_neg (by decide)]
        rintro ⟨e, ⟨⟨c', hc, h1⟩, -⟩, -⟩
        rw [hb] at hc; cases hc
        rw [hf] at h1; cases h1
  | asr j =>
    intro _ at' k n g T hL hk
    simp only [run]
    refine says_tick (fun n => ?_)
    cases hs : stands s j at' with
    | true =>
      rw [if_pos rfl]
      exact (hk at' n g (Nat.le_refl _) hL).congr ⟨fun h => ⟨at', ⟨hs, rfl⟩, h⟩, fun ⟨e, ⟨_, he⟩, h⟩ => he ▸ h⟩
    | false =>
      rw [if_neg (by decide)]
      rintro ⟨e, ⟨h1, -⟩, -⟩
      rw [hs] at h1; cases h1
  | bref i => intro h; cases h
  | nil =>
    intro _ at' k n g T hL hk
    simp only [run]
    exact (hk at' n g (Nat.le_refl _) hL).congr ⟨fun h => ⟨at', rfl, h⟩, fun ⟨e, he, h⟩ => (show e = at' from he) ▸ h⟩
  | cat x y ihx ihy =>
    intro hp at' k n g T hL hk
    simp only [pureB, Bool.and_eq_true] at hp
    simp only [run]
    exact (ihx hp.1 at' _ n g (fun m => ∃ e, Way s y m e ∧ T e) hL (fun e n g he hl => ihy hp.2 e k n g T hl (fun e2 n g he2 => hk e2 n g (by omega)))).congr
      ⟨fun ⟨m, h1, e, h2, h3⟩ => ⟨e, ⟨m, h1, h2⟩, h3⟩, fun ⟨e, ⟨m, h1, h2⟩, h3⟩ => ⟨m, h1, e, h2, h3⟩⟩
  | none =>
    intro _ at' k n g T hL hk
    simp only [run]
    rintro ⟨e, h, -⟩
    exact h
  | alt x y ihx ihy =>
    intro hp at' k n g T hL hk
    simp only [pureB, Bool.and_eq_true] at hp
    simp only [run]
    refine (says_orElse (ihx hp.1 at' k n g T hL hk) (fun n => ihy hp.2 at' k n g T hL hk)).congr ⟨?_, ?_⟩
    · rintro (⟨e, h1, h2⟩ | ⟨e, h1, h2⟩)
      · exact ⟨e, .inl h1, h2⟩
      · exact ⟨e, .inr h1, h2⟩
    · rintro ⟨e, h1 | h1, h2⟩
      · exact .inl ⟨e, h1, h2⟩
      · exact .inr ⟨e, h1, h2⟩
  | grp i x ih =>
    intro hp at' k n g T hL hk
    simp only [run]
    split
    · exact ih hp at' k n g T hL hk
    · exact ih hp at' _ n g T hL (fun e n g he hl => hk e n _ he hl)
  | look neg x ih => intro h; cases h
  | atom x ih => intro h; cases h
  | rep x least most lazy ih =>
    intro hp at' k n g T hL hk
    simp only [run]
    refine (says_times (L := s.length) (W := Way s x) (fun at' k n g T hL hk => ih hp at' k n g T hL hk) least most lazy (least + s.length + 2 - at') 0 at' k n g T hL (by omega) hk).congr ⟨?_, ?_⟩
    · rintro ⟨e, ⟨r, h1, h2, h3⟩, hT⟩
      exact ⟨e, ⟨r, by omega, by unfold CanR at h2; omega, h3⟩, hT⟩
    · rintro ⟨e, ⟨r, h1, h2, h3⟩, hT⟩
      exact ⟨e, ⟨r, by omega, by unfold CanR; omega, h3⟩, hT⟩
  | poss x least most ih => intro h; cases h

theorem says_whole (s : List UInt8) (B : Nat) (a : Re) (ha : pureB a = true) : Says (Way s a 0 s.length) (fr s B (wholeR a) true 0 0) := by
  have h1 := says_run s B (wholeR a) (by simp [wholeR, pureB, ha]) 0 K0 0 g0 (fun _ => True) (Nat.zero_le _) (fun e n g _ _ => trivial)
  rw [fr_step _ _ _ _ _ _ (Nat.zero_le _)]
  have h2 : Says (Way s a 0 s.length) (run s B (wholeR a) 0 K0 0 g0) := h1.congr (by
    constructor
    · rintro ⟨e, h, -⟩
      rcases h with ⟨m, hm, m2, ⟨h3, h4⟩, h5⟩ | h
      · have e1 : m = s.length := by
          unfold stands at h3
          simpa using h3
        rw [← e1]
        exact hm
      · exact h.elim
    · intro h
      exact ⟨s.length, .inl ⟨s.length, h, s.length, ⟨by unfold stands; simp, rfl⟩, rfl⟩, trivial⟩)
  cases hr : run s B (wholeR a) 0 K0 0 g0 with
  | over => trivial
  | no n => rw [hr] at h2; exact h2
  | yes n g e => rw [hr] at h2; exact h2
end Go.Proofs.Ytlgpilcjcomacaa
