/-
  Plain: where matches and their groups lie; all matches, one behind the other; what replaces; the parts between.
-/
import Derived.Test.YtlgpilcjcomacaaGreatAb
import Derived.Test.YtlgpilcjcomacaaGreatAi
namespace Go.Proofs.YtlgpilcjcomacaaGreat
open Rx
set_option linter.unusedVariables false

/-- Groups lie in the text, and those behind a number have matched nothing. -/
def GFar (L G : Nat) (g : Grp) : Prop := GInv L g ∧ ∀ i, G < i → g i = (-1, -1)
def FarR (L G at' : Nat) (r : Res) : Prop := ∀ n g e, r = .yes n g e → at' ≤ e ∧ e ≤ L ∧ GFar L G g
theorem FarR.mono {L G at' at2 : Nat} {r : Res} (h : FarR L G at2 r) (ha : at' ≤ at2) : FarR L G at' r := fun n g e hr => ⟨Nat.le_trans ha (h n g e hr).1, (h n g e hr).2⟩
def FarK (L G at' : Nat) (k : K) : Prop := ∀ e n g, at' ≤ e → e ≤ L → GFar L G g → FarR L G e (k e n g)
theorem FarK.mono {L G at' at2 : Nat} {k : K} (h : FarK L G at' k) (ha : at' ≤ at2) : FarK L G at2 k := fun e n g he => h e n g (by omega)
theorem far_no {L G at' n : Nat} : FarR L G at' (.no n) := fun _ _ _ h => by cases h
theorem far_over {L G at' : Nat} : FarR L G at' .over := fun _ _ _ h => by cases h
theorem far_K0 {L G at' : Nat} : FarK L G at' K0 := fun e n g _ hl hg _ _ _ h => by cases h; exact ⟨Nat.le_refl _, hl, hg⟩
theorem far_tick {L G at' B n : Nat} {f : Nat → Res} (h : ∀ n, FarR L G at' (f n)) : FarR L G at' (tick B n f) := by
  unfold tick
  split
  · exact far_over
  · exact h _
theorem far_orElse {L G at' : Nat} {r : Res} {f : Nat → Res} (hr : FarR L G at' r) (h : ∀ n, FarR L G at' (f n)) : FarR L G at' (orElse r f) := by
  cases r with
  | over => exact far_over
  | no n => exact h n
  | yes n g e => exact hr
theorem far_alone {L G at' : Nat} {r : Res} {k : K} (hr : FarR L G at' r) (hk : FarK L G at' k) : FarR L G at' (alone r k) := by
  cases r with
  | over => exact far_over
  | no n => exact far_no
  | yes n g e =>
    obtain ⟨h1, h2, h3⟩ := hr n g e rfl
    exact (hk e n g h1 h2 h3).mono h1

theorem far_times {L G : Nat} {kid : Nat → K → Nat → Grp → Res} (hkid : ∀ at' k n g, at' ≤ L → GFar L G g → FarK L G at' k → FarR L G at' (kid at' k n g)) (least : Nat) (most : Int) (lazy : Bool) :
    ∀ fuel made at' k n g, at' ≤ L → GFar L G g → FarK L G at' k → FarR L G at' (times kid least most lazy fuel made at' k n g) := by
  intro fuel
  induction fuel with
  | zero => intro made at' k n g _ _ _; exact far_no
  | succ fuel ih =>
    intro made at' k n g hL hg hk
    have hmore : ∀ n, FarR L G at' (if most ≠ -1 ∧ most ≤ (made : Int) then .no n else kid at' (fun e n g => if e = at' ∧ least ≤ made then k e n g else times kid least most lazy fuel (made + 1) e k n g) n g) := by
      intro n
      split
      · exact far_no
      · refine hkid at' _ n g hL hg (fun e n g he hl hg => ?_)
        split
        · exact hk e n g he hl hg
        · exact ih (made + 1) e k n g hl hg (hk.mono he)
    unfold times
    by_cases h1 : made < least
    · simp only [if_pos h1]
      exact hmore n
    · simp only [if_neg h1]
      cases lazy with
      | true =>
        simp only [if_true]
        exact far_orElse (hk at' n g (Nat.le_refl _) hL hg) hmore
      | false =>
        simp only [Bool.false_eq_true, if_false]
        exact far_orElse (hmore n) (fun n => hk at' n g (Nat.le_refl _) hL hg)

theorem far_run (s : List UInt8) (B G : Nat) : ∀ a, fits G G a → ∀ at' k n g, at' ≤ s.length → GFar s.length G g → FarK s.length G at' k → FarR s.length G at' (run s B a at' k n g) := by
  intro a
  induction a with
  | set f =>
    intro _ at' k n g hL hg hk
    simp only [run]
    refine far_tick (fun n => ?_)
    cases hb : byteAt s at' with
    | none => exact far_no
    | some c =>
      have hlt : at' < s.length := by
        unfold byteAt at hb
        rcases Nat.lt_or_ge at' s.length with h | h
        · exact h
        · rw [List.getElem?_eq_none h] at hb; cases hb
      simp only
      split
      · exact (hk (at' + 1) n g (by omega) hlt hg).mono (by omega)
      · exact far_no
  | asr j =>
    intro _ at' k n g hL hg hk
    simp only [run]
    refine far_tick (fun n => ?_)
    split
    · exact hk at' n g (Nat.le_refl _) hL hg
    · exact far_no
  | bref i =>
    intro _ at' k n g hL hg hk
    simp only [run]
    refine far_tick (fun n => ?_)
    split
    · exact far_no
    · rename_i h
      rw [_root_.not_or, Classical.not_not] at h
      have h1 := List.IsPrefix.length_le (List.isPrefixOf_iff_prefix.1 h.2)
      rw [List.length_take, List.length_drop, List.length_drop] at h1
      have h3 := (hg.1 i).resolve_left (fun e => h.1 (by rw [e]; decide))
      have hle : at' + ((g i).2.toNat - (g i).1.toNat) ≤ s.length := by omega
      exact (hk _ n g (by omega) hle hg).mono (by omega)
  | nil => intro _ at' k n g hL hg hk; simp only [run]; exact hk at' n g (Nat.le_refl _) hL hg
  | cat x y ihx ihy =>
    intro hn at' k n g hL hg hk
    simp only [run]
    exact ihx hn.1 at' _ n g hL hg (fun e n g he hl hg => ihy hn.2 e k n g hl hg (hk.mono he))
  | none => intro _ at' k n g hL hg hk; simp only [run]; exact far_no
  | alt x y ihx ihy =>
    intro hn at' k n g hL hg hk
    simp only [run]
    exact far_orElse (ihx hn.1 at' k n g hL hg hk) (fun n => ihy hn.2 at' k n g hL hg hk)
  | grp i x ih =>
    intro hn at' k n g hL hg hk
    simp only [run]
    split
    · exact ih hn.2 at' k n g hL hg hk
    · refine ih hn.2 at' _ n g hL hg (fun e n g he hl hg => hk e n _ he hl ⟨fun j => ?_, fun j hj => ?_⟩)
      · by_cases hj : j = i
        · rw [show upd g i ((at' : Int), (e : Int)) j = ((at' : Int), (e : Int)) from if_pos hj]
          exact .inr ⟨by simp only; omega, by simp only; omega, by simp only; omega⟩
        · rw [show upd g i ((at' : Int), (e : Int)) j = g j from if_neg hj]
          exact hg.1 j
      · have h1 := hn.1
        rw [show upd g i ((at' : Int), (e : Int)) j = g j from if_neg (by omega)]
        exact hg.2 j hj
  | look neg x ih =>
    intro hn at' k n g hL hg hk
    simp only [run]
    have h1 := ih hn at' K0 n g hL hg far_K0
    cases hr : run s B x at' K0 n g with
    | over => exact far_over
    | no m =>
      unfold lookR
      simp only
      split
      · exact hk at' m g (Nat.le_refl _) hL hg
      · exact far_no
    | yes m h e =>
      unfold lookR
      simp only
      split
      · exact far_no
      · exact hk at' m h (Nat.le_refl _) hL (h1 _ _ _ hr).2.2
  | atom x ih =>
    intro hn at' k n g hL hg hk
    simp only [run]
    exact far_alone (ih hn at' K0 n g hL hg far_K0) hk
  | rep x least most lazy ih =>
    intro hn at' k n g hL hg hk
    simp only [run]
    exact far_times (ih hn) least most lazy _ 0 at' k n g hL hg hk
  | poss x least most ih =>
    intro hn at' k n g hL hg hk
    simp only [run]
    exact far_alone (far_times (ih hn) least most false _ 0 at' K0 n g hL hg far_K0) hk

/-- A match: where it stands, and where its groups lie. -/
def MatchAt (L G j : Nat) (g : Grp) (x : Nat) : Prop := (∃ i : Nat, j ≤ i ∧ i ≤ x ∧ x ≤ L ∧ g 0 = ((i : Int), (x : Int))) ∧ GFar L G g
theorem fr_far {s : List UInt8} {B G : Nat} {a : Re} (ha : fits G G a) {only : Bool} : ∀ (r j n m : Nat) (g : Grp) (x : Nat), s.length - j = r → fr s B a only j n = .yes m g x → MatchAt s.length G j g x := by
  have key : ∀ (j n n1 : Nat) (g1 : Grp) (x : Nat), j ≤ s.length → run s B a j K0 n g0 = .yes n1 g1 x → MatchAt s.length G j (upd g1 0 ((j : Int), (x : Int))) x := by
    intro j n n1 g1 x hj hq
    obtain ⟨h3, h4, h5⟩ := far_run s B G a ha j K0 n g0 hj ⟨fun _ => .inl rfl, fun _ _ => rfl⟩ far_K0 _ _ _ hq
    refine ⟨⟨j, Nat.le_refl _, h3, h4, if_pos rfl⟩, fun k => ?_, fun k hk => ?_⟩
    · by_cases hk : k = 0
      · rw [show upd g1 0 ((j : Int), (x : Int)) k = ((j : Int), (x : Int)) from if_pos hk]
        exact .inr ⟨by simp only; omega, by simp only; omega, by simp only; omega⟩
      · rw [show upd g1 0 ((j : Int), (x : Int)) k = g1 k from if_neg hk]
        exact h5.1 k
    · rw [show upd g1 0 ((j : Int), (x : Int)) k = g1 k from if_neg (by omega)]
      exact h5.2 k hk
  intro r
  induction r with
  | zero =>
    intro j n m g x hr h
    by_cases hj : j ≤ s.length
    · rw [fr_step _ _ _ _ _ _ hj] at h
      cases hq : run s B a j K0 n g0 with
      | over => rw [hq] at h; cases h
      | no n1 =>
        rw [hq] at h
        have h2 : (if only then Res.no n1 else fr s B a only (j + 1) n1) = .yes m g x := h
        split at h2
        · cases h2
        · unfold fr at h2
          rw [if_neg (by omega)] at h2
          cases h2
      | yes n1 g1 e =>
        rw [hq] at h
        have h2 : Res.yes n1 (upd g1 0 ((j : Int), (e : Int))) e = .yes m g x := h
        cases h2
        exact key j n _ g1 _ hj hq
    · unfold fr at h
      rw [if_neg hj] at h
      cases h
  | succ r ih =>
    intro j n m g x hr h
    rw [fr_step _ _ _ _ _ _ (by omega)] at h
    cases hq : run s B a j K0 n g0 with
    | over => rw [hq] at h; cases h
    | no n1 =>
      rw [hq] at h
      have h2 : (if only then Res.no n1 else fr s B a only (j + 1) n1) = .yes m g x := h
      split at h2
      · cases h2
      · obtain ⟨⟨i, h3, h4⟩, h5⟩ := ih (j + 1) n1 m g x (by omega) h2
        exact ⟨⟨i, by omega, h4⟩, h5⟩
    | yes n1 g1 e =>
      rw [hq] at h
      have h2 : Res.yes n1 (upd g1 0 ((j : Int), (e : Int))) e = .yes m g x := h
      cases h2
      exact key j n _ g1 _ (by omega) hq

/-- Where it goes on behind a match. -/
def nextJ (g : Grp) : Nat := if (g 0).1 = (g 0).2 then (g 0).2.toNat + 1 else (g 0).2.toNat
theorem nextJ_lt {L G j : Nat} {g : Grp} {x : Nat} (h : MatchAt L G j g x) : j < nextJ g ∧ x ≤ nextJ g ∧ nextJ g ≤ L + 1 := by
  obtain ⟨⟨i, h1, h2, h3, h4⟩, -⟩ := h
  unfold nextJ
  rw [h4]
  simp only [Int.toNat_natCast]
  split <;> omega

/-- All matches from a place on, one behind the other. -/
def everyF (s : List UInt8) (B : Nat) (a : Re) : Nat → Nat → Nat → Option (List Grp)
  | 0, _, _ => some []
  | f + 1, j, n => match fr s B a false j n with
    | .over => none
    | .no _ => some []
    | .yes n g _ => (everyF s B a f (nextJ g) n).map (g :: ·)
theorem everyF_past {s : List UInt8} {B : Nat} {a : Re} {j : Nat} (hj : s.length < j) : ∀ f n, everyF s B a f j n = some []
  | 0, n => rfl
  | f + 1, n => by
    unfold everyF
    rw [show fr s B a false j n = .no n from if_neg (by omega)]
theorem everyF_fuel {s : List UInt8} {B G : Nat} {a : Re} (ha : fits G G a) : ∀ f f' j n, s.length + 1 ≤ f + j → s.length + 1 ≤ f' + j → everyF s B a f j n = everyF s B a f' j n := by
  intro f
  induction f with
  | zero => intro f' j n h1 h2; rw [everyF_past (by omega), everyF_past (by omega)]
  | succ f ih =>
    intro f' j n h1 h2
    cases f' with
    | zero => rw [everyF_past (by omega), everyF_past (by omega)]
    | succ f' =>
      unfold everyF
      cases hq : fr s B a false j n with
      | over => rfl
      | no n1 => rfl
      | yes n1 g x =>
        have h3 := (nextJ_lt (fr_far ha _ _ _ _ _ _ rfl hq)).1
        simp only
        rw [ih f' (nextJ g) n1 (by omega) (by omega)]
def everyR (s : List UInt8) (B : Nat) (a : Re) (j n : Nat) : Option (List Grp) := everyF s B a (s.length + 1 - j) j n
theorem everyR_past {s : List UInt8} {B : Nat} {a : Re} {j n : Nat} (hj : s.length < j) : everyR s B a j n = some [] := everyF_past hj _ _
theorem everyR_over {s : List UInt8} {B : Nat} {a : Re} {j n : Nat} (h : fr s B a false j n = .over) : everyR s B a j n = none := by
  have hj : j ≤ s.length := by
    rcases Nat.lt_or_ge s.length j with h1 | h1
    · unfold fr at h; rw [if_neg (by omega)] at h; cases h
    · exact h1
  unfold everyR
  rw [show s.length + 1 - j = (s.length - j) + 1 by omega]
  unfold everyF
  rw [h]
theorem everyR_no {s : List UInt8} {B : Nat} {a : Re} {j n m : Nat} (h : fr s B a false j n = .no m) : everyR s B a j n = some [] := by
  rcases Nat.lt_or_ge s.length j with h1 | h1
  · exact everyR_past h1
  · unfold everyR
    rw [show s.length + 1 - j = (s.length - j) + 1 by omega]
    unfold everyF
    rw [h]
theorem everyR_yes {s : List UInt8} {B G : Nat} {a : Re} (ha : fits G G a) {j n m : Nat} {g : Grp} {x : Nat} (h : fr s B a false j n = .yes m g x) : everyR s B a j n = (everyR s B a (nextJ g) m).map (g :: ·) := by
  have hj : j ≤ s.length := by
    rcases Nat.lt_or_ge s.length j with h1 | h1
    · unfold fr at h; rw [if_neg (by omega)] at h; cases h
    · exact h1
  have h3 := (nextJ_lt (fr_far ha _ _ _ _ _ _ rfl h)).1
  unfold everyR
  rw [show s.length + 1 - j = (s.length - j) + 1 by omega]
  show (match fr s B a false j n with | .over => none | .no _ => some [] | .yes n g _ => (everyF s B a (s.length - j) (nextJ g) n).map (g :: ·)) = _
  rw [h]
  simp only
  rw [everyF_fuel ha (s.length - j) (s.length + 1 - nextJ g) (nextJ g) m (by omega) (by omega)]

/-- Matches one behind the other, from a place on. -/
def Chain (L G : Nat) : Nat → List Grp → Prop
  | _, [] => True
  | j, g :: l => (∃ x, MatchAt L G j g x) ∧ Chain L G (nextJ g) l
theorem everyF_chain {s : List UInt8} {B G : Nat} {a : Re} (ha : fits G G a) : ∀ f j n l, everyF s B a f j n = some l → Chain s.length G j l := by
  intro f
  induction f with
  | zero => intro j n l h; cases h; trivial
  | succ f ih =>
    intro j n l h
    unfold everyF at h
    cases hq : fr s B a false j n with
    | over => rw [hq] at h; cases h
    | no n1 => rw [hq] at h; cases h; trivial
    | yes n1 g x =>
      rw [hq] at h
      simp only [Option.map_eq_some_iff] at h
      obtain ⟨l', h1, rfl⟩ := h
      exact ⟨⟨x, fr_far ha _ _ _ _ _ _ rfl hq⟩, ih _ _ _ h1⟩
theorem everyR_chain {s : List UInt8} {B G : Nat} {a : Re} (ha : fits G G a) {j n : Nat} {l : List Grp} (h : everyR s B a j n = some l) : Chain s.length G j l := everyF_chain ha _ _ _ _ h

/-- A piece of a text. -/
def cutS (s : List UInt8) (i j : Int) : List UInt8 := (s.drop i.toNat).take (j.toNat - i.toNat)

/-- What replaces a match. -/
def fillR (s : List UInt8) (g : Grp) : List UInt8 → List UInt8
  | [] => []
  | [c] => [c]
  | c :: d :: r => if c = 92 then (if d = 92 then 92 :: fillR s g r else if 48 ≤ d ∧ d ≤ 57 then (if 0 ≤ (g (d.toNat - 48)).1 then cutS s (g (d.toNat - 48)).1 (g (d.toNat - 48)).2 ++ fillR s g r else fillR s g r) else c :: d :: fillR s g r) else c :: fillR s g (d :: r)

/-- The whole of a text: the pattern, then the end of the text. -/
def wholeR (a : Re) : Re := .grp 0 (.alt (.cat (.grp 0 a) (.cat (.asr 4) .nil)) .none)

/-- All matches replaced. -/
def replR (s by' : List UInt8) : Nat → List Grp → List UInt8
  | j, [] => s.drop j
  | j, g :: l => cutS s j (g 0).1 ++ (fillR s g by' ++ replR s by' (g 0).2.toNat l)

/-- The parts between the matches. -/
def splitR (s : List UInt8) : Nat → List Grp → List (List UInt8)
  | j, [] => [s.drop j]
  | j, g :: l => if (g 0).1 = (g 0).2 ∧ ((g 0).1 = (j : Int) ∨ (g 0).1 = (s.length : Int)) then splitR s j l else cutS s j (g 0).1 :: splitR s (g 0).2.toNat l

theorem drop_cut (s : List UInt8) {i j : Nat} (h : i ≤ j) : s.drop i = cutS s (i : Int) (j : Int) ++ s.drop j := by
  unfold cutS
  simp only [Int.toNat_natCast]
  have h1 : s.drop j = (s.drop i).drop (j - i) := by rw [List.drop_drop]; congr 1; omega
  rw [h1, List.take_append_drop]

/-- Each match by itself: the text. -/
theorem repl_self (s : List UInt8) (G : Nat) : ∀ (l : List Grp) (j k : Nat), j ≤ k → Chain s.length G k l → replR s [92, 48] j l = s.drop j
  | [], j, k, _, _ => rfl
  | g :: l, j, k, hj, h => by
    obtain ⟨⟨x, hm⟩, hc⟩ := h
    have hn := nextJ_lt hm
    obtain ⟨⟨i, h1, h2, h3, h4⟩, -⟩ := hm
    unfold replR
    rw [show fillR s g [92, 48] = cutS s (g 0).1 (g 0).2 by
      unfold fillR
      rw [if_pos rfl, if_neg (by decide), if_pos (by decide), show (48 : UInt8).toNat - 48 = 0 from rfl, if_pos (by rw [h4]; exact Int.natCast_nonneg _)]
      simp [fillR]]
    rw [repl_self s G l _ _ (by rw [h4]; simp only [Int.toNat_natCast]; exact hn.2.1) hc, h4]
    simp only [Int.toNat_natCast]
    rw [← drop_cut s h2, ← drop_cut s (by omega : j ≤ i)]

/-- The parts are the text without the matches. -/
theorem split_none (s : List UInt8) (G : Nat) : ∀ (l : List Grp) (j k : Nat), j ≤ k → Chain s.length G k l → (splitR s j l).flatten = replR s [] j l
  | [], j, k, _, _ => by simp [splitR, replR]
  | g :: l, j, k, hj, h => by
    obtain ⟨⟨x, hm⟩, hc⟩ := h
    have hn := nextJ_lt hm
    obtain ⟨⟨i, h1, h2, h3, h4⟩, -⟩ := hm
    unfold splitR replR
    rw [show fillR s g [] = [] from rfl, List.nil_append]
    rw [h4]
    simp only [Int.toNat_natCast]
    have h5 := split_none s G l x _ (by omega) hc
    split
    · rename_i hif
      obtain ⟨e1, e2⟩ := hif
      have hix : i = x := by omega
      subst hix
      rw [split_none s G l j _ (by omega) hc]
      rcases e2 with e2 | e2
      · have : i = j := by omega
        subst this
        rw [show cutS s (i : Int) (i : Int) = [] by unfold cutS; simp, List.nil_append]
      · have hl : i = s.length := by omega
        cases l with
        | nil => unfold replR; rw [← drop_cut s (by omega : j ≤ i)]
        | cons g' l' =>
          obtain ⟨⟨x', ⟨i', h6, h7, h8, -⟩, -⟩, -⟩ := hc
          have : i < nextJ g := by unfold nextJ; rw [h4]; simp
          omega
    · rw [List.flatten_cons, h5]
theorem split_ne (s : List UInt8) : ∀ (l : List Grp) (j : Nat), splitR s j l ≠ []
  | [], j => by simp [splitR]
  | g :: l, j => by
    unfold splitR
    split
    · exact split_ne s l j
    · simp
end Go.Proofs.YtlgpilcjcomacaaGreat
