/-
  The document's ends: alternatives, repeats, all trees; Some. (Printed by wip/tools/ends07c.py.)
-/
import Derived.Test.YtlgpilcjcomacaaWb
namespace Go.Proofs.Ytlgpilcjcomacaa
open Go.RowKit Rx
set_option linter.unusedVariables false

/-- Alternatives under way. -/
def AltSt (wT : World) (s : ByteArray) (a : Re) (F : Nat → Bool) (kx : Option Addr) (kl j : Nat) (g1 : Nat) (wr : World) : Prop :=
  ∃ (O : Nat → Bool) (a' : Re) (x : Option Addr), BH wr g1 s.size O ∧ (tE wT a').ways x (kl - j) ∧ (∀ kb ko, kx = some ⟨kb, ko, none⟩ → x = some ⟨kb, ko + j, none⟩) ∧ pureB a = pureB a' ∧ AltA wT s a' ∧ ∀ y, y ≤ s.size → ((∃ i, i ≤ s.size ∧ F i = true ∧ Way (str s) a i y) ↔ (O y = true ∨ ∃ i, i ≤ s.size ∧ F i = true ∧ Way (str s) a' i y))
/-- Marks that are joined up to a place. -/
def joinO (O X : Nat → Bool) (k : Nat) : Nat → Bool := fun i => if i < k then O i || X i else O i
theorem joinO_zero (O X : Nat → Bool) : joinO O X 0 = O := by funext i; unfold joinO; rw [if_neg (Nat.not_lt_zero _)]
theorem joinO_at (O X : Nat → Bool) (k : Nat) : joinO O X k k = O k := by unfold joinO; rw [if_neg (Nat.lt_irrefl _)]
theorem joinO_next (O X : Nat → Bool) (k : Nat) : setO (joinO O X k) k (O k || X k) = joinO O X (k + 1) := by
  funext i
  unfold setO joinO
  by_cases h : i = k
  · rw [if_pos h, if_pos (by omega), h]
  · rw [if_neg h]
    by_cases h2 : i < k
    · rw [if_pos h2, if_pos (by omega)]
    · rw [if_neg h2, if_neg (by omega)]
theorem joinO_all (O X : Nat → Bool) (L y : Nat) (hy : y ≤ L) : joinO O X (L + 1) y = (O y || X y) := by unfold joinO; rw [if_pos (by omega)]

set_option maxRecDepth 100000 in
set_option maxHeartbeats 8000000 in
/-- Alternatives: all of them. -/
theorem ends_either (wT : World) (s : ByteArray) (hs : s.size ≤ 5000) (a : Re) (hR : AltA wT s a) (p : Value) (hp : EitherD (fun _ => True) wT (tE wT a).ways p) : EndsOK wT s p a := by
  obtain ⟨v, ⟨b, rfl, -, hv⟩, hk, hlc, hways⟩ := hp
  intro w g c F t hF
  have k0 := t.has hv.c0 id
  have k9 := t.has hv.c259 id
  rw [hk] at k0
  have HF := Lib.hid hF
  have HTT := Lib.hid t
  have hl1 : v.kl ≤ 1000 := by
    cases a with
    | none => have h : v.kl = 0 := hways; omega
    | alt x r => obtain ⟨_, _, _, _, -, -, -, h, -⟩ := hways; exact h
    | _ => exact hways.elim
  have HX : Hid (0 < v.kl → ∃ kb ko, v.kx = some ⟨kb, ko, none⟩) := Lib.hid (fun h => by
    cases a with
    | none => have h : v.kl = 0 := hways; omega
    | alt x r => obtain ⟨kb, ko, _, _, h, -⟩ := hways; exact ⟨kb, ko, h⟩
    | _ => exact hways.elim)
  have HS0 : Hid (∀ g1 wr, BH wr g1 s.size (fun _ => false) → AltSt wT s a F v.kx v.kl 0 g1 wr) := Lib.hid (fun g1 wr hb => ⟨fun _ => false, a, v.kx, hb, hways, (fun kb ko h => h), rfl, hR, fun y hy => by simp⟩)
  have ws := IntWalk.i64_in ((s.size : Int) + 1) (by omega)
  generalize v.kl = kl at *
  generalize v.kc = kc at *
  generalize v.kx = kx at *
  have K9 := Lib.hid k9
  have hlg : g < w.heap.size := block_lt_of_cell (hF 0 (Nat.zero_le _))
  clear hk hv t hF hways hR
  go_enter Try.func35, Try.ntmps35
  go_wp2_with (at_make; (refine wpList_make_bools rfl (.tmp 20) rfl (s.size + 1) rfl (by omega) ?_); intro w1 hnew ht1; have HN1 := Lib.hid hnew; have HT1 := Lib.hid ht1; have k0 := ht1.has k0 id; have k9 := ht1.has k9 id; clear hnew ht1)
  obtain ⟨g1, hg1⟩ : ∃ g1, w.heap.size = g1 := ⟨_, rfl⟩
  have HB1 : Hid (BH w1 g1 s.size (fun _ => false)) := Lib.hid (by rw [← hg1]; exact fun j hj => HN1.out j (by omega))
  have HG1 := Lib.hid hg1
  have HZ1 : Hid (g1 < w1.heap.size) := Lib.hid (by rw [← hg1]; exact (HN1.out 0 (by omega)).lt)
  have HSA := Lib.hid (HS0.out g1 w1 HB1.out)
  rw [hg1]
  clear HN1 HB1 HS0 hg1
  go_loopw [14] (fun iv wr => ∃ j : Nat, iv = .int .i64 (j : Int) ∧ j ≤ kl ∧ Hid (AltSt wT s a F kx kl j g1 wr) ∧ Hid (Touch (fun k => k = g1) w1 wr)) (fun iv _ => kl - (intOf iv).toNat)
  case atStart => exact ⟨0, rfl, Nat.zero_le _, HSA, Lib.hid (Touch.refl _ _)⟩
  case round =>
    clear HSA
    obtain ⟨j, rfl, hj, HS, HT⟩ := hrel
    have HTW : Hid (Still w wr) := Lib.hid (HT1.out.trans HT.out (fun i e => .inr (by have := HG1.out; omega)))
    have k9 := HTW.out.has K9.out id
    by_cases hlt : j < kl
    · obtain ⟨kb, ko, e0⟩ := HX.out (by omega)
      obtain ⟨O, x, r, rp, v2, b2, hbh, hcr, hrp, hv2, hk2, hlc2, hrow2, hr, hpu, hra, hiff⟩ : ∃ (O : Nat → Bool) (x r : Re) (rp : Value) (v2 : NV) (b2 : Nat), BH wr g1 s.size O ∧ wT.cell? ⟨kb, ko + j, none⟩ = some rp ∧ rp = .pointer (some ⟨b2, 0, none⟩) ∧ NodeB wT b2 v2 ∧ v2.kind = 3 ∧ v2.kl ≤ v2.kc ∧ (tE wT x).row v2.kx v2.kl ∧ (tE wT r).ways (some ⟨kb, ko + j + 1, none⟩) (kl - j - 1) ∧ pureB a = (pureB x && pureB r) ∧ (RowA wT s x ∧ AltA wT s r) ∧ ∀ y, y ≤ s.size → ((∃ i, i ≤ s.size ∧ F i = true ∧ Way (str s) a i y) ↔ (O y = true ∨ ∃ i, i ≤ s.size ∧ F i = true ∧ Way (str s) (.alt x r) i y)) := by
        obtain ⟨O, a', x, h1, h2, h3, h4, h5, h6⟩ := HS.out
        cases a' with
        | none => have : kl - j = 0 := h2; omega
        | alt y r =>
          obtain ⟨b', o', rp, v2, e1, -, -, -, e2, ⟨b2, e3, -, e4⟩, e5, e6, e7, e8⟩ := h2
          have h9 := h3 kb ko e0
          rw [e1] at h9
          obtain ⟨rfl, rfl⟩ : b' = kb ∧ o' = ko + j := by simpa using h9
          exact ⟨O, y, r, rp, v2, b2, h1, e2, e3, e4, e5, e6, e7, e8, h4, h5, h6⟩
        | _ => exact h2.elim
      subst e0
      subst hrp
      have hcj := HTW.out.has (HTT.out.has hcr id) id
      have HC := Lib.hid (ends_row wT s hs x hra.1 b2 v2 hv2 hk2 hlc2 hrow2 wr g c F (HTT.out.then HTW.out) (HF.out.keep HTW.out id))
      have hin : (j : Int) < (kl : Int) := by omega
      have wj := IntWalk.i64_in ((j : Int) + 1) (by omega)
      have HRR := Lib.hid hr
      have HPU := Lib.hid hpu
      have HRA := Lib.hid hra.2
      have HIF := Lib.hid hiff
      have HBH := Lib.hid hbh
      clear hr hcr hpu hra hiff hbh HS hv2 hk2 hlc2 hrow2
      go_wp2_with fail
      refine HC.out.mono ?_
      clear HC
      intro e w3 hG
      rcases hG with ⟨hp, g2, c2, F2, rfl, h1, h2, h4, h3⟩ | ⟨hp, ao, c2, rfl, h3⟩
      · have HT3 := Lib.hid (HT.out.trans h3 (fun i e => e.elim))
        have HBH3 := Lib.hid (HBH.out.keep h3 id)
        have HB2 := Lib.hid h1
        have HNE : Hid (g2 ≠ g1) := Lib.hid (by have := HZ1.out; have := HT.out.size; omega)
        have HP := Lib.hid hp
        have H2 := Lib.hid h2
        clear h1 h2 h3 h4 hp
        go_wp2_with fail
        go_loopw [17] (fun kv wz => ∃ k : Nat, kv = .int .i64 (k : Int) ∧ k ≤ s.size + 1 ∧ Hid (BH wz g1 s.size (joinO O F2 k)) ∧ Hid (BR wz g2 s.size F2) ∧ Hid (Touch (fun k => k = g1) w1 wz)) (fun kv _ => s.size + 1 - (intOf kv).toNat)
        case atStart => exact ⟨0, rfl, Nat.zero_le _, by rw [joinO_zero]; exact HBH3, HB2, HT3⟩
        case round =>
          obtain ⟨k, rfl, hk, HK, HK2, HTK⟩ := hrel
          by_cases hks : k ≤ s.size
          · have q1 : decide ((k : Int) ≤ (s.size : Int)) = true := decide_eq_true (by omega)
            have q1n : decide (k ≤ s.size) = true := decide_eq_true hks
            have wk := IntWalk.i64_in ((k : Int) + 1) (by omega)
            have hkc : (k : Int) < (s.size : Int) + 1 := by omega
            obtain ⟨y0, z0⟩ := HK.out k hks
            rw [joinO_at] at y0
            have x0 := HK2.out k hks
            have HJ : Hid (∀ b : Bool, b = (O k || F2 k) → BH (wr.setCell ⟨g1, k, none⟩ (.bool b)) g1 s.size (joinO O F2 (k + 1))) := Lib.hid (fun b e => by
              rw [← joinO_next, e]
              exact HK.out.set hks _)
            have HX2 : Hid (∀ v, BR (wr.setCell ⟨g1, k, none⟩ v) g2 s.size F2) := Lib.hid (fun v => HK2.out.keep (Touch.setCell (Touch.refl (fun k => k = g1) wr) (.inl rfl) v) HNE.out)
            have HTZ : Hid (∀ v, Touch (fun k => k = g1) w1 (wr.setCell ⟨g1, k, none⟩ v)) := Lib.hid (fun v => HTK.out.setCell (.inl rfl) v)
            cases hO : O k with
            | true =>
              rw [hO] at y0
              have HJT : Hid (BH (wr.setCell ⟨g1, k, none⟩ (.bool true)) g1 s.size (joinO O F2 (k + 1))) := Lib.hid (HJ.out true (by rw [hO]; rfl))
              clear HJ hO
              go_wp2_with fail
              go_roundw
              case rel => exact ⟨k + 1, by go_num, by omega, HJT, Lib.hid (HX2.out _), Lib.hid (HTZ.out _)⟩
              case measure => simp [intOf]; omega
            | false =>
              rw [hO] at y0
              have HJT : Hid (BH (wr.setCell ⟨g1, k, none⟩ (.bool (F2 k))) g1 s.size (joinO O F2 (k + 1))) := Lib.hid (HJ.out _ (by rw [hO]; rfl))
              clear HJ hO
              go_wp2_with fail
              go_roundw
              case rel => exact ⟨k + 1, by go_num, by omega, HJT, Lib.hid (HX2.out _), Lib.hid (HTZ.out _)⟩
              case measure => simp [intOf]; omega
          · obtain rfl : k = s.size + 1 := by omega
            have q1 : decide (((s.size + 1 : Nat) : Int) ≤ (s.size : Int)) = false := decide_eq_false (by omega)
            have q1n : decide (s.size + 1 ≤ s.size) = false := decide_eq_false hks
            have HSN : Hid (AltSt wT s a F (some ⟨kb, ko, none⟩) kl (j + 1) g1 wr) := Lib.hid ⟨joinO O F2 (s.size + 1), r, some ⟨kb, ko + j + 1, none⟩, HK.out, by rw [show kl - (j + 1) = kl - j - 1 by omega]; exact HRR.out, (fun kb' ko' h => by cases h; rw [Nat.add_assoc]), by rw [HPU.out, HP.out]; rfl, HRA.out, fun y hy => by
              rw [HIF.out y hy, joinO_all _ _ _ _ hy, Bool.or_eq_true, H2.out y hy]
              constructor
              · rintro (h | ⟨i, hi, hF, h | h⟩)
                · exact .inl (.inl h)
                · exact .inl (.inr ⟨i, hi, hF, h⟩)
                · exact .inr ⟨i, hi, hF, h⟩
              · rintro ((h | ⟨i, hi, hF, h⟩) | ⟨i, hi, hF, h⟩)
                · exact .inl h
                · exact .inr ⟨i, hi, hF, .inl h⟩
                · exact .inr ⟨i, hi, hF, .inr h⟩⟩
            go_wp2_with fail
            go_roundw
            case rel => exact ⟨j + 1, by go_num, by omega, HSN, HTK⟩
            case measure => simp [intOf]; omega
      · have HT3 := Lib.hid (HTW.out.then h3)
        have HNP : Hid (pureB a = false) := Lib.hid (by rw [HPU.out, hp]; rfl)
        clear h3 hp
        go_wp2_with fail
        go_ret2
        exact .inr ⟨HNP.out, none, 0, rfl, HT3.out⟩
    · obtain rfl : j = kl := by omega
      have hin : ¬ (j : Int) < (j : Int) := by omega
      have HFIN : Hid (pureB a = true ∧ ∃ O : Nat → Bool, BR wr g1 s.size O ∧ EndF s.size (Way (str s) a) F O) := Lib.hid (by
        obtain ⟨O, a', x, h1, h2, h3, h4, h5, h6⟩ := HS.out
        cases a' with
        | none => exact ⟨h4, O, h1.br, fun y hy => ⟨fun h => (h6 y hy).2 (.inl h), fun h => by
            rcases (h6 y hy).1 h with h | ⟨i, -, -, hw⟩
            · exact h
            · exact hw.elim⟩⟩
        | alt y r => obtain ⟨_, _, _, _, -, -, h, -⟩ := h2; omega
        | _ => exact h2.elim)
      clear HS
      obtain ⟨hpu, O, hbr, hef⟩ := HFIN.out
      have HBR := Lib.hid hbr
      have HEF := Lib.hid hef
      have HPU := Lib.hid hpu
      clear HFIN hpu hbr hef
      go_wp2_with fail
      go_ret2
      exact .inl ⟨HPU.out, g1, s.size + 1, O, rfl, HBR.out, HEF.out, Nat.le_of_eq HG1.out, HTW.out⟩

end Go.Proofs.Ytlgpilcjcomacaa
