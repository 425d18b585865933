/-
  Plain: steps do not hang on the budget; where matches and groups lie, as far as nothing looks ahead.
-/
import Derived.Test.YtlgpilcjcomacaaGreatAb
namespace Go.Proofs.YtlgpilcjcomacaaGreat.Rx
set_option linter.unusedVariables false

/-- The steps of what comes of a try that began behind n steps. -/
def ge (B n : Nat) : Res → Prop
  | .over => True
  | .no m => n ≤ m ∧ (n ≤ B → m ≤ B)
  | .yes m _ _ => n ≤ m ∧ (n ≤ B → m ≤ B)
/-- What comes of a try, with d steps less taken before, and another budget. -/
def cut (d B : Nat) : Res → Res
  | .over => .over
  | .no m => if m ≤ B + d then .no (m - d) else .over
  | .yes m g e => if m ≤ B + d then .yes (m - d) g e else .over
theorem ge.mono {B n m : Nat} {r : Res} (h : ge B m r) (hn : n ≤ m) (hb : n ≤ B → m ≤ B) : ge B n r := by
  cases r with
  | over => trivial
  | no k => exact ⟨Nat.le_trans hn h.1, fun x => h.2 (hb x)⟩
  | yes k g e => exact ⟨Nat.le_trans hn h.1, fun x => h.2 (hb x)⟩
theorem cut_past {B' B d m : Nat} {r : Res} (h : ge B m r) (hm : B' + d < m) : cut d B' r = .over := by
  cases r with
  | over => rfl
  | no k => exact if_neg (by have := h.1; omega)
  | yes k g e => exact if_neg (by have := h.1; omega)

/-- Two tries, that differ in the budget and in d steps. -/
def RelF (B B' d : Nat) (f' f : Nat → Res) : Prop := (∀ n, ge B n (f n)) ∧ ∀ n, n ≤ B' → f' n = cut d B' (f (n + d))
def RelK (B B' d : Nat) (k' k : K) : Prop := ∀ e g, RelF B B' d (fun n => k' e n g) (fun n => k e n g)

theorem rel_no {B B' d : Nat} (hB : B' + d ≤ B) : RelF B B' d .no .no := ⟨fun n => ⟨Nat.le_refl _, id⟩, fun n hn => by show Res.no n = if n + d ≤ B' + d then Res.no (n + d - d) else .over; rw [if_pos (by omega), Nat.add_sub_cancel]⟩
theorem rel_K0 {B B' d : Nat} (hB : B' + d ≤ B) : RelK B B' d K0 K0 := fun e g => ⟨fun n => ⟨Nat.le_refl _, id⟩, fun n hn => by show Res.yes n g e = if n + d ≤ B' + d then Res.yes (n + d - d) g e else .over; rw [if_pos (by omega), Nat.add_sub_cancel]⟩
theorem rel_tick {B B' d : Nat} (hB : B' + d ≤ B) {f' f : Nat → Res} (h : RelF B B' d f' f) : RelF B B' d (fun n => tick B' n f') (fun n => tick B n f) := by
  refine ⟨fun n => ?_, fun n hn => ?_⟩
  · show ge B n (if n = B then .over else f (n + 1))
    split
    · trivial
    · exact (h.1 (n + 1)).mono (by omega) (by omega)
  · show (if n = B' then Res.over else f' (n + 1)) = cut d B' (if n + d = B then .over else f (n + d + 1))
    by_cases h1 : n = B'
    · rw [if_pos h1]
      by_cases h2 : n + d = B
      · rw [if_pos h2]; rfl
      · rw [if_neg h2]
        exact (cut_past (h.1 (n + d + 1)) (by omega)).symm
    · rw [if_neg h1, if_neg (by omega), h.2 (n + 1) (by omega)]
      rw [show n + 1 + d = n + d + 1 by omega]
theorem rel_orElse {B B' d : Nat} (hB : B' + d ≤ B) {r' r f' f : Nat → Res} (hr : RelF B B' d r' r) (h : RelF B B' d f' f) : RelF B B' d (fun n => orElse (r' n) f') (fun n => orElse (r n) f) := by
  refine ⟨fun n => ?_, fun n hn => ?_⟩
  · have h1 := hr.1 n
    show ge B n (orElse (r n) f)
    cases hq : r n with
    | over => trivial
    | no m => rw [hq] at h1; exact (h.1 m).mono h1.1 h1.2
    | yes m g e => rw [hq] at h1; exact h1
  · have h1 := hr.1 (n + d)
    have h2 := hr.2 n hn
    show orElse (r' n) f' = cut d B' (orElse (r (n + d)) f)
    rw [h2]
    cases hq : r (n + d) with
    | over => rfl
    | no m =>
      rw [hq] at h1
      by_cases hm : m ≤ B' + d
      · rw [show cut d B' (.no m) = .no (m - d) from if_pos hm]
        show f' (m - d) = cut d B' (f m)
        rw [h.2 (m - d) (by omega), Nat.sub_add_cancel (by have := h1.1; omega)]
      · rw [show cut d B' (.no m) = .over from if_neg hm]
        exact (cut_past (h.1 m) (by omega)).symm
    | yes m g e =>
      by_cases hm : m ≤ B' + d
      · rw [show cut d B' (.yes m g e) = .yes (m - d) g e from if_pos hm]
        show Res.yes (m - d) g e = cut d B' (.yes m g e)
        exact (if_pos hm).symm
      · rw [show cut d B' (.yes m g e) = .over from if_neg hm]
        show Res.over = cut d B' (.yes m g e)
        exact (if_neg hm).symm
theorem rel_alone {B B' d : Nat} (hB : B' + d ≤ B) {r' r : Nat → Res} {k' k : K} (hr : RelF B B' d r' r) (h : RelK B B' d k' k) : RelF B B' d (fun n => alone (r' n) k') (fun n => alone (r n) k) := by
  refine ⟨fun n => ?_, fun n hn => ?_⟩
  · have h1 := hr.1 n
    show ge B n (alone (r n) k)
    cases hq : r n with
    | over => trivial
    | no m => rw [hq] at h1; exact h1
    | yes m g e => rw [hq] at h1; exact ((h e g).1 m).mono h1.1 h1.2
  · have h1 := hr.1 (n + d)
    have h2 := hr.2 n hn
    show alone (r' n) k' = cut d B' (alone (r (n + d)) k)
    rw [h2]
    cases hq : r (n + d) with
    | over => rfl
    | no m =>
      by_cases hm : m ≤ B' + d
      · rw [show cut d B' (.no m) = .no (m - d) from if_pos hm]
        show Res.no (m - d) = cut d B' (.no m)
        exact (if_pos hm).symm
      · rw [show cut d B' (.no m) = .over from if_neg hm]
        show Res.over = cut d B' (.no m)
        exact (if_neg hm).symm
    | yes m g e =>
      rw [hq] at h1
      by_cases hm : m ≤ B' + d
      · rw [show cut d B' (.yes m g e) = .yes (m - d) g e from if_pos hm]
        show k' e (m - d) g = cut d B' (k e m g)
        have h3 := (h e g).2 (m - d) (by omega)
        simp only at h3
        rw [h3, Nat.sub_add_cancel (by have := h1.1; omega)]
      · rw [show cut d B' (.yes m g e) = .over from if_neg hm]
        exact (cut_past ((h e g).1 m) (by omega)).symm
theorem rel_look {B B' d : Nat} (hB : B' + d ≤ B) {neg : Bool} {at' : Nat} {g : Grp} {r' r : Nat → Res} {k' k : K} (hr : RelF B B' d r' r) (h : RelK B B' d k' k) : RelF B B' d (fun n => lookR neg (r' n) k' at' g) (fun n => lookR neg (r n) k at' g) := by
  refine ⟨fun n => ?_, fun n hn => ?_⟩
  · have h1 := hr.1 n
    show ge B n (lookR neg (r n) k at' g)
    cases hq : r n with
    | over => trivial
    | no m =>
      rw [hq] at h1
      cases neg with
      | true => exact ((h at' g).1 m).mono h1.1 h1.2
      | false => exact h1
    | yes m g2 e =>
      rw [hq] at h1
      cases neg with
      | true => exact h1
      | false => exact ((h at' g2).1 m).mono h1.1 h1.2
  · have h1 := hr.1 (n + d)
    have h2 := hr.2 n hn
    show lookR neg (r' n) k' at' g = cut d B' (lookR neg (r (n + d)) k at' g)
    rw [h2]
    cases hq : r (n + d) with
    | over => rfl
    | no m =>
      rw [hq] at h1
      by_cases hm : m ≤ B' + d
      · rw [show cut d B' (.no m) = .no (m - d) from if_pos hm]
        cases neg with
        | true =>
          show k' at' (m - d) g = cut d B' (k at' m g)
          have h3 := (h at' g).2 (m - d) (by omega)
          simp only at h3
          rw [h3, Nat.sub_add_cancel (by have := h1.1; omega)]
        | false =>
          show Res.no (m - d) = cut d B' (.no m)
          exact (if_pos hm).symm
      · rw [show cut d B' (.no m) = .over from if_neg hm]
        cases neg with
        | true => exact (cut_past ((h at' g).1 m) (by omega)).symm
        | false =>
          show Res.over = cut d B' (.no m)
          exact (if_neg hm).symm
    | yes m g2 e =>
      rw [hq] at h1
      by_cases hm : m ≤ B' + d
      · rw [show cut d B' (.yes m g2 e) = .yes (m - d) g2 e from if_pos hm]
        cases neg with
        | true =>
          show Res.no (m - d) = cut d B' (.no m)
          exact (if_pos hm).symm
        | false =>
          show k' at' (m - d) g2 = cut d B' (k at' m g2)
          have h3 := (h at' g2).2 (m - d) (by omega)
          simp only at h3
          rw [h3, Nat.sub_add_cancel (by have := h1.1; omega)]
      · rw [show cut d B' (.yes m g2 e) = .over from if_neg hm]
        cases neg with
        | true =>
          show Res.over = cut d B' (.no m)
          exact (if_neg hm).symm
        | false => exact (cut_past ((h at' g2).1 m) (by omega)).symm

theorem rel_times {B B' d : Nat} (hB : B' + d ≤ B) {kid' kid : Nat → K → Nat → Grp → Res} (hkid : ∀ at' k' k g, RelK B B' d k' k → RelF B B' d (fun n => kid' at' k' n g) (fun n => kid at' k n g)) (least : Nat) (most : Int) (lazy : Bool) :
    ∀ fuel made at' k' k g, RelK B B' d k' k → RelF B B' d (fun n => times kid' least most lazy fuel made at' k' n g) (fun n => times kid least most lazy fuel made at' k n g) := by
  intro fuel
  induction fuel with
  | zero => intro made at' k' k g hk; exact rel_no hB
  | succ fuel ih =>
    intro made at' k' k g hk
    have hmore : RelF B B' d (fun n => if most ≠ -1 ∧ most ≤ (made : Int) then .no n else kid' at' (fun e n g => if e = at' ∧ least ≤ made then k' e n g else times kid' least most lazy fuel (made + 1) e k' n g) n g)
        (fun n => if most ≠ -1 ∧ most ≤ (made : Int) then .no n else kid at' (fun e n g => if e = at' ∧ least ≤ made then k e n g else times kid least most lazy fuel (made + 1) e k n g) n g) := by
      by_cases hm : most ≠ -1 ∧ most ≤ (made : Int)
      · simp only [if_pos hm]
        exact rel_no hB
      · simp only [if_neg hm]
        refine hkid at' _ _ g (fun e g => ?_)
        by_cases he : e = at' ∧ least ≤ made
        · simp only [if_pos he]
          exact hk e g
        · simp only [if_neg he]
          exact ih (made + 1) e k' k g hk
    unfold times
    by_cases h1 : made < least
    · simp only [if_pos h1]
      exact hmore
    · simp only [if_neg h1]
      cases lazy with
      | true =>
        simp only [if_true]
        exact rel_orElse hB (hk at' g) hmore
      | false =>
        simp only [Bool.false_eq_true, if_false]
        exact rel_orElse hB hmore (hk at' g)

theorem rel_run {B B' d : Nat} (hB : B' + d ≤ B) (s : List UInt8) : ∀ a at' k' k g, RelK B B' d k' k → RelF B B' d (fun n => run s B' a at' k' n g) (fun n => run s B a at' k n g) := by
  intro a
  induction a with
  | set f =>
    intro at' k' k g hk
    simp only [run]
    refine rel_tick hB ?_
    cases byteAt s at' with
    | none => exact rel_no hB
    | some c =>
      simp only
      cases f c with
      | true => simp only [if_true]; exact hk (at' + 1) g
      | false => simp only [Bool.false_eq_true, if_false]; exact rel_no hB
  | asr j =>
    intro at' k' k g hk
    simp only [run]
    refine rel_tick hB ?_
    cases stands s j at' with
    | true => simp only [if_true]; exact hk at' g
    | false => simp only [Bool.false_eq_true, if_false]; exact rel_no hB
  | bref i =>
    intro at' k' k g hk
    simp only [run]
    refine rel_tick hB ?_
    by_cases h : (g i).1 < 0 ∨ ¬ ((s.drop (g i).1.toNat).take ((g i).2.toNat - (g i).1.toNat)).isPrefixOf (s.drop at') = true
    · simp only [if_pos h]; exact rel_no hB
    · simp only [if_neg h]; exact hk _ g
  | nil => intro at' k' k g hk; simp only [run]; exact hk at' g
  | cat x y ihx ihy =>
    intro at' k' k g hk
    simp only [run]
    exact ihx at' _ _ g (fun e g => ihy e k' k g hk)
  | none => intro at' k' k g hk; simp only [run]; exact rel_no hB
  | alt x y ihx ihy =>
    intro at' k' k g hk
    simp only [run]
    exact rel_orElse hB (ihx at' k' k g hk) (ihy at' k' k g hk)
  | grp i x ih =>
    intro at' k' k g hk
    simp only [run]
    by_cases h0 : i = 0
    · simp only [if_pos h0]; exact ih at' k' k g hk
    · simp only [if_neg h0]
      exact ih at' _ _ g (fun e g => hk e _)
  | look neg x ih =>
    intro at' k' k g hk
    simp only [run]
    exact rel_look hB (ih at' K0 K0 g (rel_K0 hB)) hk
  | atom x ih =>
    intro at' k' k g hk
    simp only [run]
    exact rel_alone hB (ih at' K0 K0 g (rel_K0 hB)) hk
  | rep x least most lazy ih =>
    intro at' k' k g hk
    simp only [run]
    exact rel_times hB ih least most lazy _ 0 at' k' k g hk
  | poss x least most ih =>
    intro at' k' k g hk
    simp only [run]
    exact rel_alone hB (rel_times hB ih least most false _ 0 at' K0 K0 g (rel_K0 hB)) hk

/-- The whole as group 0. -/
def KU (j : Nat) : K := fun e n g => .yes n (upd g 0 ((j : Int), (e : Int))) e
theorem find_zero (s : List UInt8) (B : Nat) (a : Re) (only : Bool) (at' n : Nat) : find s B a only 0 at' n = orElse (alone (run s B a at' K0 n g0) (KU at')) .no := by
  unfold find
  cases run s B a at' K0 n g0 <;> rfl
theorem find_succ (s : List UInt8) (B : Nat) (a : Re) (only : Bool) (r at' n : Nat) : find s B a only (r + 1) at' n = orElse (alone (run s B a at' K0 n g0) (KU at')) (fun n => if only then .no n else find s B a only r (at' + 1) n) := by
  show (match run s B a at' K0 n g0 with | .over => Res.over | .no n => if only then Res.no n else find s B a only r (at' + 1) n | .yes n g e => Res.yes n (upd g 0 ((at' : Int), (e : Int))) e) = _
  cases run s B a at' K0 n g0 <;> rfl

/-- The same, of a search. -/
theorem rel_find {B B' d : Nat} (hB : B' + d ≤ B) (s : List UInt8) (a : Re) (only : Bool) : ∀ r at', RelF B B' d (fun n => find s B' a only r at' n) (fun n => find s B a only r at' n) := by
  intro r
  induction r with
  | zero =>
    intro at'
    simp only [find_zero]
    exact rel_orElse hB (rel_alone hB (rel_run hB s a at' K0 K0 g0 (rel_K0 hB)) (fun e g => rel_K0 hB e _)) (rel_no hB)
  | succ r ih =>
    intro at'
    simp only [find_succ]
    refine rel_orElse hB (rel_alone hB (rel_run hB s a at' K0 K0 g0 (rel_K0 hB)) (fun e g => rel_K0 hB e _)) ?_
    cases only with
    | true => simp only [if_true]; exact rel_no hB
    | false => simp only [Bool.false_eq_true, if_false]; exact ih (at' + 1)
end Go.Proofs.YtlgpilcjcomacaaGreat.Rx
namespace Go.Proofs.YtlgpilcjcomacaaGreat
open Rx
set_option linter.unusedVariables false
theorem rel_fr {B B' d : Nat} (hB : B' + d ≤ B) (s : List UInt8) (a : Re) (only : Bool) (j : Nat) : RelF B B' d (fun n => fr s B' a only j n) (fun n => fr s B a only j n) := by
  unfold fr
  by_cases h : j ≤ s.length
  · simp only [if_pos h]; exact rel_find hB s a only _ j
  · simp only [if_neg h]; exact rel_no hB

/-- With just as many steps as are needed the match is there. -/
theorem fr_just {B : Nat} {s : List UInt8} {a : Re} {only : Bool} {j n : Nat} {g : Grp} {x : Nat} (h : fr s B a only j 0 = .yes n g x) : fr s n a only j 0 = .yes n g x := by
  have h0 := (rel_fr (B := B) (B' := B) (d := 0) (Nat.le_refl _) s a only j).1 0
  simp only [h] at h0
  have hn : n ≤ B := h0.2 (Nat.zero_le _)
  have h1 := (rel_fr (B := B) (B' := n) (d := 0) hn s a only j).2 0 (Nat.zero_le _)
  simp only [Nat.add_zero, h] at h1
  rw [h1]
  exact if_pos (Nat.le_refl _)
/-- With one less it is not. -/
theorem fr_less {B : Nat} {s : List UInt8} {a : Re} {only : Bool} {j n m : Nat} {g : Grp} {x : Nat} (h : fr s B a only j 0 = .yes n g x) (hm : m < n) : fr s m a only j 0 = .over := by
  have h0 := (rel_fr (B := B) (B' := B) (d := 0) (Nat.le_refl _) s a only j).1 0
  simp only [h] at h0
  have hn : n ≤ B := h0.2 (Nat.zero_le _)
  have h1 := (rel_fr (B := B) (B' := m) (d := 0) (by omega) s a only j).2 0 (Nat.zero_le _)
  simp only [Nat.add_zero, h] at h1
  rw [h1]
  exact if_neg (by omega)
/-- Steps that were taken before. -/
theorem fr_later {B : Nat} {s : List UInt8} {a : Re} {only : Bool} {j n d : Nat} {g : Grp} {x : Nat} (h : fr s B a only j d = .yes n g x) (hd : d ≤ B) : ∃ m, fr s B a only j 0 = .yes m g x := by
  have h0 := (rel_fr (B := B) (B' := B) (d := 0) (Nat.le_refl _) s a only j).1 d
  simp only [h] at h0
  have hn : n ≤ B := h0.2 hd
  have h1 := (rel_fr (B := B) (B' := B - d) (d := d) (by omega) s a only j).2 0 (Nat.zero_le _)
  simp only [Nat.zero_add, h] at h1
  rw [show cut d (B - d) (.yes n g x) = .yes (n - d) g x from if_pos (by omega)] at h1
  have h2 := (rel_fr (B := B) (B' := B - d) (d := 0) (by omega) s a only j).2 0 (Nat.zero_le _)
  simp only [Nat.add_zero, h1] at h2
  cases hq : fr s B a only j 0 with
  | over => rw [hq] at h2; cases h2
  | no m =>
    rw [hq] at h2
    unfold cut at h2
    simp only at h2
    split at h2 <;> cases h2
  | yes m g2 y =>
    rw [hq] at h2
    unfold cut at h2
    simp only at h2
    split at h2
    · simp only [Res.yes.injEq] at h2
      obtain ⟨-, rfl, rfl⟩ := h2
      exact ⟨m, rfl⟩
    · cases h2
/-- A search's steps. -/
theorem fr_ge (B : Nat) (s : List UInt8) (a : Re) (only : Bool) (j n : Nat) : ge B n (fr s B a only j n) := (rel_fr (B := B) (B' := B) (d := 0) (Nat.le_refl _) s a only j).1 n
theorem run_ge (B : Nat) (s : List UInt8) (a : Re) (j n : Nat) (g : Grp) : ge B n (run s B a j K0 n g) := (rel_run (B := B) (B' := B) (d := 0) (Nat.le_refl _) s a j K0 K0 g (rel_K0 (Nat.le_refl _))).1 n

/-- Nothing looks ahead. -/
def noLook : Re → Prop
  | .set _ => True
  | .asr _ => True
  | .bref _ => True
  | .nil => True
  | .cat a b => noLook a ∧ noLook b
  | .none => True
  | .alt a b => noLook a ∧ noLook b
  | .grp _ a => noLook a
  | .look _ _ => False
  | .atom a => noLook a
  | .rep a _ _ _ => noLook a
  | .poss a _ _ => noLook a

/-- Each group is empty, or lies between two places. -/
def GIn (lo hi : Nat) (g : Grp) : Prop := ∀ i, g i = (-1, -1) ∨ ((lo : Int) ≤ (g i).1 ∧ (g i).1 ≤ (g i).2 ∧ (g i).2 ≤ (hi : Int))
theorem GIn.mono {lo hi hi' : Nat} {g : Grp} (h : GIn lo hi g) (hh : hi ≤ hi') : GIn lo hi' g := fun i => (h i).imp id (fun h => ⟨h.1, h.2.1, by omega⟩)
def Ins (L lo at' : Nat) (r : Res) : Prop := ∀ n g e, r = .yes n g e → at' ≤ e ∧ e ≤ L ∧ GIn lo e g
theorem Ins.mono {L lo at' at2 : Nat} {r : Res} (h : Ins L lo at2 r) (ha : at' ≤ at2) : Ins L lo at' r := fun n g e hr => ⟨Nat.le_trans ha (h n g e hr).1, (h n g e hr).2⟩
def InsK (L lo at' : Nat) (k : K) : Prop := ∀ e n g, at' ≤ e → e ≤ L → GIn lo e g → Ins L lo e (k e n g)
theorem InsK.mono {L lo at' at2 : Nat} {k : K} (h : InsK L lo at' k) (ha : at' ≤ at2) : InsK L lo at2 k := fun e n g he => h e n g (by omega)
theorem ins_no {L lo at' n : Nat} : Ins L lo at' (.no n) := fun _ _ _ h => by cases h
theorem ins_over {L lo at' : Nat} : Ins L lo at' .over := fun _ _ _ h => by cases h
theorem ins_K0 {L lo at' : Nat} : InsK L lo at' K0 := fun e n g _ hl hg _ _ _ h => by cases h; exact ⟨Nat.le_refl _, hl, hg⟩
theorem ins_tick {L lo at' B n : Nat} {f : Nat → Res} (h : ∀ n, Ins L lo at' (f n)) : Ins L lo at' (tick B n f) := by
  unfold tick
  split
  · exact ins_over
  · exact h _
theorem ins_orElse {L lo at' : Nat} {r : Res} {f : Nat → Res} (hr : Ins L lo at' r) (h : ∀ n, Ins L lo at' (f n)) : Ins L lo at' (orElse r f) := by
  cases r with
  | over => exact ins_over
  | no n => exact h n
  | yes n g e => exact hr
theorem ins_alone {L lo at' : Nat} {r : Res} {k : K} (hr : Ins L lo at' r) (hk : InsK L lo at' k) : Ins L lo at' (alone r k) := by
  cases r with
  | over => exact ins_over
  | no n => exact ins_no
  | yes n g e =>
    obtain ⟨h1, h2, h3⟩ := hr n g e rfl
    exact (hk e n g h1 h2 h3).mono h1

theorem ins_times {L lo : Nat} {kid : Nat → K → Nat → Grp → Res} (hkid : ∀ at' k n g, lo ≤ at' → at' ≤ L → GIn lo at' g → InsK L lo at' k → Ins L lo at' (kid at' k n g)) (least : Nat) (most : Int) (lazy : Bool) :
    ∀ fuel made at' k n g, lo ≤ at' → at' ≤ L → GIn lo at' g → InsK L lo at' k → Ins L lo at' (times kid least most lazy fuel made at' k n g) := by
  intro fuel
  induction fuel with
  | zero => intro made at' k n g _ _ _ _; exact ins_no
  | succ fuel ih =>
    intro made at' k n g hlo hL hg hk
    have hmore : ∀ n, Ins L lo at' (if most ≠ -1 ∧ most ≤ (made : Int) then .no n else kid at' (fun e n g => if e = at' ∧ least ≤ made then k e n g else times kid least most lazy fuel (made + 1) e k n g) n g) := by
      intro n
      split
      · exact ins_no
      · refine hkid at' _ n g hlo hL hg (fun e n g he hl hg => ?_)
        split
        · exact hk e n g he hl hg
        · exact ih (made + 1) e k n g (by omega) hl hg (hk.mono he)
    unfold times
    by_cases h1 : made < least
    · simp only [if_pos h1]
      exact hmore n
    · simp only [if_neg h1]
      cases lazy with
      | true =>
        simp only [if_true]
        exact ins_orElse (hk at' n g (Nat.le_refl _) hL hg) hmore
      | false =>
        simp only [Bool.false_eq_true, if_false]
        exact ins_orElse (hmore n) (fun n => hk at' n g (Nat.le_refl _) hL hg)

theorem ins_run (s : List UInt8) (B lo : Nat) : ∀ a, noLook a → ∀ at' k n g, lo ≤ at' → at' ≤ s.length → GIn lo at' g → InsK s.length lo at' k → Ins s.length lo at' (run s B a at' k n g) := by
  intro a
  induction a with
  | set f =>
    intro _ at' k n g hlo hL hg hk
    simp only [run]
    refine ins_tick (fun n => ?_)
    cases hb : byteAt s at' with
    | none => exact ins_no
    | some c =>
      have hlt : at' < s.length := by
        unfold byteAt at hb
        rcases Nat.lt_or_ge at' s.length with h | h
        · exact h
        · rw [List.getElem?_eq_none h] at hb; cases hb
      simp only
      split
      · exact (hk (at' + 1) n g (by omega) hlt (hg.mono (by omega))).mono (by omega)
      · exact ins_no
  | asr j =>
    intro _ at' k n g hlo hL hg hk
    simp only [run]
    refine ins_tick (fun n => ?_)
    split
    · exact hk at' n g (Nat.le_refl _) hL hg
    · exact ins_no
  | bref i =>
    intro _ at' k n g hlo hL hg hk
    simp only [run]
    refine ins_tick (fun n => ?_)
    split
    · exact ins_no
    · rename_i h
      rw [_root_.not_or, Classical.not_not] at h
      have h1 := List.IsPrefix.length_le (List.isPrefixOf_iff_prefix.1 h.2)
      rw [List.length_take, List.length_drop, List.length_drop] at h1
      have h3 := (hg i).resolve_left (fun e => h.1 (by rw [e]; decide))
      have hle : at' + ((g i).2.toNat - (g i).1.toNat) ≤ s.length := by omega
      exact (hk _ n g (by omega) hle (hg.mono (by omega))).mono (by omega)
  | nil => intro _ at' k n g hlo hL hg hk; simp only [run]; exact hk at' n g (Nat.le_refl _) hL hg
  | cat x y ihx ihy =>
    intro hn at' k n g hlo hL hg hk
    simp only [run]
    exact ihx hn.1 at' _ n g hlo hL hg (fun e n g he hl hg => ihy hn.2 e k n g (by omega) hl hg (hk.mono he))
  | none => intro _ at' k n g hlo hL hg hk; simp only [run]; exact ins_no
  | alt x y ihx ihy =>
    intro hn at' k n g hlo hL hg hk
    simp only [run]
    exact ins_orElse (ihx hn.1 at' k n g hlo hL hg hk) (fun n => ihy hn.2 at' k n g hlo hL hg hk)
  | grp i x ih =>
    intro hn at' k n g hlo hL hg hk
    simp only [run]
    split
    · exact ih hn at' k n g hlo hL hg hk
    · refine ih hn at' _ n g hlo hL hg (fun e n g he hl hg => hk e n _ he hl (fun j => ?_))
      by_cases hj : j = i
      · rw [show upd g i ((at' : Int), (e : Int)) j = ((at' : Int), (e : Int)) from if_pos hj]
        exact .inr ⟨by simp only; omega, by simp only; omega, by simp only; omega⟩
      · rw [show upd g i ((at' : Int), (e : Int)) j = g j from if_neg hj]
        exact hg j
  | look neg x ih => intro hn; exact hn.elim
  | atom x ih =>
    intro hn at' k n g hlo hL hg hk
    simp only [run]
    exact ins_alone (ih hn at' K0 n g hlo hL hg ins_K0) hk
  | rep x least most lazy ih =>
    intro hn at' k n g hlo hL hg hk
    simp only [run]
    exact ins_times (ih hn) least most lazy _ 0 at' k n g hlo hL hg hk
  | poss x least most ih =>
    intro hn at' k n g hlo hL hg hk
    simp only [run]
    exact ins_alone (ins_times (ih hn) least most false _ 0 at' K0 n g hlo hL hg ins_K0) hk

/-- Where a match stands, and its groups, as far as nothing looks ahead. -/
theorem fr_in {s : List UInt8} {B : Nat} {a : Re} (ha : noLook a) : ∀ (r j n m : Nat) (g : Grp) (x : Nat), s.length - j = r → fr s B a false j n = .yes m g x → ∃ i : Nat, j ≤ i ∧ i ≤ x ∧ x ≤ s.length ∧ g 0 = ((i : Int), (x : Int)) ∧ GIn i x g := by
  intro r
  induction r with
  | zero =>
    intro j n m g x hr h
    by_cases hj : j ≤ s.length
    · rw [fr_step _ _ _ _ _ _ hj] at h
      have h1 := ins_run s B j a ha j K0 n g0 (Nat.le_refl _) hj (fun _ => .inl rfl) ins_K0
      cases hq : run s B a j K0 n g0 with
      | over => rw [hq] at h; cases h
      | no n1 =>
        rw [hq] at h
        have h2 : fr s B a false (j + 1) n1 = .yes m g x := h
        unfold fr at h2
        rw [if_neg (by omega)] at h2
        cases h2
      | yes n1 g1 e =>
        rw [hq] at h
        have h2 : Res.yes n1 (upd g1 0 ((j : Int), (e : Int))) e = .yes m g x := h
        cases h2
        obtain ⟨h3, h4, h5⟩ := h1 _ _ _ hq
        refine ⟨j, Nat.le_refl _, h3, h4, if_pos rfl, fun k => ?_⟩
        by_cases hk : k = 0
        · rw [show upd g1 0 ((j : Int), (x : Int)) k = ((j : Int), (x : Int)) from if_pos hk]
          exact .inr ⟨by simp only; omega, by simp only; omega, by simp only; omega⟩
        · rw [show upd g1 0 ((j : Int), (x : Int)) k = g1 k from if_neg hk]
          exact h5 k
    · unfold fr at h
      rw [if_neg hj] at h
      cases h
  | succ r ih =>
    intro j n m g x hr h
    rw [fr_step _ _ _ _ _ _ (by omega)] at h
    have h1 := ins_run s B j a ha j K0 n g0 (Nat.le_refl _) (by omega) (fun _ => .inl rfl) ins_K0
    cases hq : run s B a j K0 n g0 with
    | over => rw [hq] at h; cases h
    | no n1 =>
      rw [hq] at h
      have h2 : fr s B a false (j + 1) n1 = .yes m g x := h
      obtain ⟨i, h3, h4⟩ := ih (j + 1) n1 m g x (by omega) h2
      exact ⟨i, by omega, h4⟩
    | yes n1 g1 e =>
      rw [hq] at h
      have h2 : Res.yes n1 (upd g1 0 ((j : Int), (e : Int))) e = .yes m g x := h
      cases h2
      obtain ⟨h3, h4, h5⟩ := h1 _ _ _ hq
      refine ⟨j, Nat.le_refl _, h3, h4, if_pos rfl, fun k => ?_⟩
      by_cases hk : k = 0
      · rw [show upd g1 0 ((j : Int), (x : Int)) k = ((j : Int), (x : Int)) from if_pos hk]
        exact .inr ⟨by simp only; omega, by simp only; omega, by simp only; omega⟩
      · rw [show upd g1 0 ((j : Int), (x : Int)) k = g1 k from if_neg hk]
        exact h5 k

/-- A match that stands behind the place where it was looked for is that of the next place. -/
theorem fr_next {s : List UInt8} {B : Nat} {a : Re} {j m : Nat} {g : Grp} {x i : Nat} (h : fr s B a false j 0 = .yes m g x) (h0 : g 0 = ((i : Int), (x : Int))) (hi : j < i) : ∃ m', fr s B a false (j + 1) 0 = .yes m' g x := by
  by_cases hj : j ≤ s.length
  · rw [fr_step _ _ _ _ _ _ hj] at h
    have hge := run_ge B s a j 0 g0
    cases hq : run s B a j K0 0 g0 with
    | over => rw [hq] at h; cases h
    | no n1 =>
      rw [hq] at h hge
      have h2 : fr s B a false (j + 1) n1 = .yes m g x := h
      exact fr_later h2 (hge.2 (Nat.zero_le _))
    | yes n1 g1 e =>
      rw [hq] at h
      have h2 : Res.yes n1 (upd g1 0 ((j : Int), (e : Int))) e = .yes m g x := h
      cases h2
      have h3 : ((j : Int), (x : Int)) = ((i : Int), (x : Int)) := h0
      have := congrArg Prod.fst h3
      simp only at this
      omega
  · unfold fr at h
    rw [if_neg hj] at h
    cases h
end Go.Proofs.YtlgpilcjcomacaaGreat
