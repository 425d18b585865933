/-
  Texts Pg in one.
-/
import Derived.Test.YtlgpilcjcomacaaGreatAe
import Derived.Deep.Cut
import Derived.Deep.CutRange
/-
  The program's reader: class.
-/
namespace Go.Proofs.YtlgpilcjcomacaaGreat
open Go.RowKit Rx
set_option linter.unusedVariables false

/-- What comes back of a class. -/
def ClassPost (br : Nat) (s : ByteArray) (deep : Nat) (st : PS) (w : World) : Option ((Nat → Bool) × Nat) → Ending → World → Prop
  | none, e, w' => e = bad ∧ Touch (fun b => b = br) w w'
  | some (f, j), e, w' => ∃ b, e = .returned (.pointer (some ⟨b, 0, none⟩)) ∧ SetB w' b f ∧ w.heap.size ≤ b ∧ RS br s deep { st with pos := j } w' ∧ Touch (fun b => b = br) w w' ∧ st.pos < j

theorem member_lt {s : ByteArray} {i : Nat} {r : Nat × Option (Nat → Bool) × Nat} (h : memberP (str s) i = some r) : i < s.size := by
  rcases Nat.lt_or_ge i s.size with h1 | h1
  · exact h1
  · unfold memberP at h; rw [byteAt_ge h1] at h; cases h

/-- A member's set, or none. -/
def MV (m : Option (Nat → Bool)) (mv : Option Addr) (n : Nat) (w : World) : Prop :=
  match m with
  | none => mv = none
  | some f => ∃ b, mv = some ⟨b, 0, none⟩ ∧ SetB w b f ∧ n ≤ b
theorem MV.keep {S : Nat → Prop} {w w' : World} {m mv n} (h : MV m mv n w) (t : Touch S w w') (hb : ∀ b, S b → b < n) : MV m mv n w' := by
  cases m with
  | none => exact h
  | some f => obtain ⟨b, h1, h2, h3⟩ := h; exact ⟨b, h1, h2.keep t (fun e => by have := hb b e; omega), h3⟩

theorem member_g {br : Nat} {s : ByteArray} {deep : Nat} {st : PS} {w : World} (h : RS br s deep st w) {c : Nat} {m : Option (Nat → Bool)} {j : Nat} (hm : memberP (str s) st.pos = some (c, m, j)) :
    Calls Tryz.prog 118 #[.pointer (some ⟨br, 0, none⟩)] w fun e w' => ∃ mv, e = .returned (.tuple #[.int .u8 (c : Int), .pointer mv]) ∧ MV m mv w.heap.size w' ∧ RS br s deep { st with pos := j } w' ∧ Touch (fun b => b = br) w w' ∧ st.pos < j ∧ (m = none → c < 256) := by
  refine (member_any br s deep st w h).mono ?_
  intro e w' hG
  rw [hm] at hG
  cases m with
  | none => obtain ⟨rfl, h1, h2, h3, h4⟩ := hG; exact ⟨none, rfl, rfl, h1, h2, h4, fun _ => h3⟩
  | some f => obtain ⟨b, rfl, h1, h2, h3, h4, h5⟩ := hG; exact ⟨_, rfl, ⟨b, rfl, h1, h2⟩, h3, h4, h5, fun e => by cases e⟩
theorem member_bad {br : Nat} {s : ByteArray} {deep : Nat} {st : PS} {w : World} (h : RS br s deep st w) (hm : memberP (str s) st.pos = none) :
    Calls Tryz.prog 118 #[.pointer (some ⟨br, 0, none⟩)] w fun e w' => e = bad ∧ Touch (fun b => b = br) w w' := by
  refine (member_any br s deep st w h).mono ?_
  intro e w' hG
  rw [hm] at hG
  exact hG

set_option maxRecDepth 100000 in
set_option maxHeartbeats 20000000 in
theorem class_any (br : Nat) (s : ByteArray) (deep : Nat) (st : PS) (w : World) (h : RS br s deep st w) :
    Calls Tryz.prog 106 #[.pointer (some ⟨br, 0, none⟩)] w (ClassPost br s deep st w (classAll (str s) st.pos)) := by
  have hle := h.le
  have hsz := h.sz
  have HH := Lib.hid (h.keep ((Touch.refl (fun _ => False) w).alloc (.cells Tryz.zeroCells160 160)) id)
  have HT0 : Hid (Touch (fun b => b = br) w (w.alloc (.cells Tryz.zeroCells160 160))) := Lib.hid ((Touch.refl _ _).alloc _)
  have HS0 := Lib.hid (SetB.made w _ _ zero_set)
  have HNB : Hid (w.heap.size ≠ br) := Lib.hid (by have := h.lt; omega)
  have HBL : Hid (br < w.heap.size) := Lib.hid h.lt
  clear h
  obtain ⟨neg, hneg⟩ : ∃ b, tk (str s) st.pos [94] = b := ⟨_, rfl⟩
  obtain ⟨i0, hi0⟩ : ∃ i0, (if tk (str s) st.pos [94] = true then st.pos + 1 else st.pos) = i0 := ⟨_, rfl⟩
  obtain ⟨r, hr⟩ : ∃ r, classP (str s) ((str s).length + 1) true i0 (fun _ => false) = r := ⟨_, rfl⟩
  have HALL : Hid (classAll (str s) st.pos = classEnd neg r) := Lib.hid (by unfold classAll; rw [hi0, hr, hneg])
  have HI0 : Hid (st.pos ≤ i0) := Lib.hid (by rw [← hi0]; split <;> omega)
  have HTAKE : Hid (∀ w, RS br s deep st w → Calls Tryz.prog 82 #[.pointer (some ⟨br, 0, none⟩), .string ⟨#[94]⟩] w fun e w' => e = .returned (.bool neg) ∧ RS br s deep { st with pos := i0 } w' ∧ Touch (fun b => b = br) w w') := Lib.hid (fun w h => by
    cases neg with
    | true =>
      rw [hneg, if_pos rfl] at hi0
      rw [← hi0]
      exact take_yes br s ⟨#[94]⟩ deep st w h hneg (by decide)
    | false =>
      rw [hneg, if_neg (by decide)] at hi0
      rw [← hi0]
      exact tk_no (t := ⟨#[94]⟩) h hneg)
  have HCL0 : Hid (classP (str s) ((str s).length + 1) true i0 (fun _ => false) = r) := Lib.hid hr
  clear hneg hi0 hr
  go_enter Tryz.func106, Tryz.ntmps106
  go_wp2_with fail
  refine (HTAKE.out _ HH.out).mono ?_
  rintro e w1 ⟨rfl, hrs, ht⟩
  have HRS1 := Lib.hid hrs
  have HT1 := Lib.hid (HT0.out.then ht)
  have HS1 := Lib.hid (HS0.out.keep ht HNB.out)
  have hi0s := hrs.le
  simp only at hi0s
  clear hrs ht
  go_wp2_with fail
  go_loopw [5] (fun fst wr => ∃ (first : Bool) (i : Nat) (g : Nat → Bool) (f : Nat), fst = .bool first ∧ i ≤ s.size ∧ Hid (RS br s deep { st with pos := i } wr) ∧ Hid (SetB wr w.heap.size g) ∧ Hid (classP (str s) f first i g = r) ∧ Hid (s.size + 1 - i ≤ f) ∧ Hid (Touch (fun b => b = br) w wr) ∧ Hid (st.pos ≤ i)) (fun _ wr => s.size - cellI wr br 1)
  case atStart => exact ⟨true, i0, _, _, rfl, hi0s, HRS1, HS1, HCL0, Lib.hid (by rw [str_len]; omega), HT1, HI0⟩
  case round =>
    obtain ⟨first, i, g, f, rfl, his, HRS, HS, HCL, HF, HT, HIP⟩ := hrel
    obtain ⟨wr0, hwr0⟩ : ∃ wr0 : World, wr0 = wr := ⟨_, rfl⟩
    obtain ⟨f, rfl⟩ : ∃ f', f = f' + 1 := ⟨f - 1, by have := HF.out; omega⟩
    obtain ⟨ci, hci⟩ : ∃ c, pk (str s) i = c := ⟨_, rfl⟩
    have hci256 := pk_256 s i
    rw [hci] at hci256
    have HCI := Lib.hid hci
    clear hci
    have hstep : classP (str s) (f + 1) first i g = if first = false ∧ ci = 93 then some (g, i) else
      match memberP (str s) i with
      | none => none
      | some (c, m, j) => if ci = 45 ∧ first = false ∧ pk (str s) j ≠ 93 then none else
        match m with
        | some h => classP (str s) f false j (fun x => g x || h x)
        | none => if rangeAt (str s) j = true then
            match memberP (str s) (j + 1) with
            | none => none
            | some (d, m2, k) => if m2.isSome = true ∨ d < c then none else classP (str s) f false k (fun x => g x || (decide (c ≤ x) && decide (x ≤ d)))
          else classP (str s) f false j (fun x => g x || (decide (c ≤ x) && decide (x ≤ c))) := by
      rw [← HCI.out]; rfl
    rw [HCL.out] at hstep
    have HSTEP := Lib.hid hstep
    clear HCL hstep
    have HM0 : Hid (wr0.cell? ⟨br, 1, none⟩ = some (.int .i64 (i : Int))) := Lib.hid (by rw [hwr0]; exact HRS.out.c1.1)
    go_upto_region 4 with fail
    go_cut [22] from 17 to 134 (fun t wx => t = .bool (!(!first && decide (ci = 93))) ∧ Hid (RS br s deep { st with pos := i } wx) ∧ Hid (SetB wx w.heap.size g) ∧ Hid (Touch (fun b => b = br) w wx))
    case first =>
      cases first with
      | true =>
        go_wp2_with fail
        go_meet
        exact ⟨rfl, HRS, HS, HT⟩
      | false =>
        go_wp2_with fail
        refine (peek_rs br s deep _ _ HRS.out).mono ?_
        rintro e we ⟨he, hrs, ht⟩
        rw [show pk (str s) (PS.pos _) = ci from HCI.out] at he
        subst he
        have HRSe := Lib.hid hrs
        have HTe := Lib.hid (HT.out.then (ht.mono (fun _ _ e => e.elim)))
        have HSe := Lib.hid (HS.out.keep ht id)
        clear hrs ht
        go_wp2_with fail
        go_meet
        exact ⟨by congr 1; by_cases h : ci = 93 <;> simp [h] <;> omega, HRSe, HSe, HTe⟩
    case rest =>
      obtain ⟨rfl, HRSp, HSp, HTp⟩ := hcut
      cases hend : (!first && decide (ci = 93)) with
      | true =>
        have h12 : first = false ∧ ci = 93 := by simpa using hend
        have hstep := HSTEP.out
        rw [if_pos h12] at hstep
        have HRR := Lib.hid hstep
        have hc93 := h12.2
        clear hstep hend h12
        have hc1 := HRSp.out.c1
        obtain ⟨hc1, hc1f⟩ := hc1
        have hilt : i < s.size := by
          rcases Nat.lt_or_ge i s.size with h1 | h1
          · exact h1
          · exfalso
            have h2 := HCI.out
            rw [pk_ge h1] at h2
            omega
        clear hc93
        obtain ⟨p1, hp1⟩ : ∃ p1, i + 1 = p1 := ⟨_, rfl⟩
        obtain ⟨w5, hw5⟩ : ∃ w5, wc.setCell ⟨br, 1, none⟩ (.int .i64 ((i : Int) + 1)) = w5 := ⟨_, rfl⟩
        have hrs : RS br s deep { st with pos := p1 } w5 := by rw [← hw5, ← hp1]; exact HRSp.out.setPos (i + 1) (by omega)
        have ht : Touch (fun b => b = br) wc w5 := by rw [← hw5]; exact Touch.setCell (Touch.refl (fun b => b = br) wc) (.inl rfl) _
        have HRS5 := Lib.hid hrs
        have HT5 := Lib.hid (HTp.out.then ht)
        have HS5 := Lib.hid (HSp.out.keep ht HNB.out)
        have HLT : Hid (st.pos < p1) := Lib.hid (by have := HIP.out; omega)
        have HP1 := Lib.hid hp1
        clear hrs ht hp1
        cases neg with
        | false =>
          have HFIN : Hid (classAll (str s) st.pos = some (g, p1)) := Lib.hid (by rw [HALL.out, HRR.out, ← HP1.out]; rfl)
          go_wp2_with fail
          clear hc1 hc1f
          go_ret
          rw [HFIN.out]
          exact ⟨_, rfl, HS5.out, Nat.le_refl _, HRS5.out, HT5.out, HLT.out⟩
        | true =>
          have HFIN : Hid (classAll (str s) st.pos = some (fun x => !g x, p1)) := Lib.hid (by rw [HALL.out, HRR.out, ← HP1.out]; rfl)
          go_wp2_with fail
          clear hw5 hc1 hc1f
          go_loopw [143] (fun q wq => ∃ (j : Nat) (g' : Nat → Bool), q = .int .i64 j ∧ j ≤ 256 ∧ Hid (SetB wq w.heap.size g') ∧ Hid (∀ x, (x < j → g' x = !g x) ∧ (j ≤ x → g' x = g x)) ∧ Hid (RS br s deep { st with pos := p1 } wq) ∧ Hid (Touch (fun b => b = br) w wq)) (fun q _ => 256 - (intOf q).toNat)
          case atStart => exact ⟨0, g, rfl, by omega, HS5, Lib.hid (fun x => ⟨fun h => by omega, fun _ => rfl⟩), HRS5, HT5⟩
          case round =>
            obtain ⟨j, g', rfl, hj, HSq, HGq, HRSq, HTq⟩ := hrel
            by_cases hlt : j < 256
            · have hx := HSq.out.cell hlt
              rw [(HGq.out j).2 (Nat.le_refl _)] at hx
              obtain ⟨hx1, hx2⟩ := hx
              have HS6 := Lib.hid (SetB.keep (HSq.out.put hlt (!g j)) ((Touch.refl (fun _ => False) _).drew) id)
              have t6 : Touch (fun b => b = w.heap.size) wr (wr.setCell ⟨w.heap.size, j, none⟩ (.bool (!g j))).drew := (Touch.setCell (Touch.refl (fun b => b = w.heap.size) wr) (.inl rfl) _).drew
              have HRS6 := Lib.hid (HRSq.out.keep t6 (Ne.symm HNB.out))
              have HT6 := Lib.hid (HTq.out.trans t6 (fun i e => .inr (by omega)))
              clear t6
              go_wp2_with fail
              go_still_tail 10, (by kernel_rfl)
              change wpList _ _ _ _ _ (World.drew _)
              go_wp2_with fail
              refine ⟨⟨j + 1, _, by go_num, by omega, HS6, Lib.hid ?_, HRS6, HT6⟩, by simp [intOf]; omega⟩
              intro x
              constructor
              · intro hx
                by_cases e : x = j
                · subst e; rw [if_pos rfl]
                · rw [if_neg e]; exact (HGq.out x).1 (by omega)
              · intro hx
                rw [if_neg (by omega)]; exact (HGq.out x).2 (by omega)
            · obtain rfl : j = 256 := by omega
              go_wp2_with fail
              go_ret
              rw [HFIN.out]
              exact ⟨_, rfl, HSq.out.congr (fun x hx => (HGq.out x).1 hx), Nat.le_refl _, HRSq.out, HTq.out, HLT.out⟩
      | false =>
        have hstep := HSTEP.out
        rw [if_neg (by intro h12; obtain ⟨rfl, rfl⟩ := h12; revert hend; decide)] at hstep
        clear hend HSTEP
        have hc1m := HRSp.out.c1.1
        cases hm : memberP (str s) i with
        | none =>
          rw [hm] at hstep
          have HNONE := Lib.hid hstep
          have HM := Lib.hid hm
          clear hstep hm
          go_wp2_with fail
          refine (member_bad HRSp.out HM.out).mono ?_
          rintro e w2 ⟨rfl, ht⟩
          refine ⟨rfl, ?_⟩
          rw [HALL.out, HNONE.out]
          exact ⟨rfl, HTp.out.then ht⟩
        | some t =>
          obtain ⟨c, m, j⟩ := t
          have hlt := member_lt hm
          rw [hm] at hstep
          have HM := Lib.hid hm
          have hbyte : (s[i]'hlt).toNat = ci := by rw [← pk_lt hlt]; exact HCI.out
          clear hm
          dsimp only at hstep
          have HSTEP := Lib.hid hstep
          clear hstep
          go_wp2_with fail
          refine (member_g HRSp.out HM.out).mono ?_
          rintro e w2 ⟨mv, rfl, hmv, hrs, ht, hij, hc256⟩
          have HMV2 := Lib.hid hmv
          have HRS2 := Lib.hid hrs
          have HT2 := Lib.hid (HTp.out.then ht)
          have HS2 := Lib.hid (HSp.out.keep ht HNB.out)
          have hjs : j ≤ s.size := hrs.le
          have hij : i < j := hij
          have HN2 : Hid (w.heap.size < wc.heap.size) := Lib.hid HSp.out.lt
          obtain ⟨n2, hn2⟩ : ∃ n2, wc.heap.size = n2 := ⟨_, rfl⟩
          rw [hn2] at HMV2 HN2
          clear hrs ht hmv hc1m hn2
          go_upto_region 8 with fail
          have hs0 := HRS2.out.c0
          obtain ⟨D, hD⟩ : ∃ D, decide (ci = 45 ∧ first = false ∧ pk (str s) j ≠ 93) = D := ⟨_, rfl⟩
          have HD := Lib.hid hD
          clear hD
          go_cut [47] from 17 to 134 (fun t wx => t = .bool D ∧ Hid (RS br s deep { st with pos := j } wx) ∧ Hid (SetB wx w.heap.size g) ∧ Hid (Touch (fun b => b = br) w wx) ∧ Hid (MV m mv n2 wx))
          case first =>
            by_cases h45 : ci = 45
            · have q45 : ((ci : Int) == 45) = true := by rw [h45]; rfl
              cases first with
              | true =>
                go_wp2_with fail
                go_meet
                exact ⟨congrArg Value.bool (by rw [← HD.out]; simp), HRS2, HS2, HT2, HMV2⟩
              | false =>
                obtain ⟨cj, hcj⟩ : ∃ cj, pk (str s) j = cj := ⟨_, rfl⟩
                have HCJ := Lib.hid hcj
                clear hcj
                go_wp2_with fail
                refine (peek_rs br s deep _ _ HRS2.out).mono ?_
                rintro e w3 ⟨he, hrs, ht⟩
                rw [show pk (str s) (PS.pos _) = cj from HCJ.out] at he
                subst he
                have HRS3 := Lib.hid hrs
                have HT3 := Lib.hid (HT2.out.then (ht.mono (fun _ _ e => e.elim)))
                have HS3 := Lib.hid (HS2.out.keep ht id)
                have HMV3 := Lib.hid (HMV2.out.keep ht (fun b e => e.elim))
                clear hrs ht
                go_wp2_with fail
                go_meet
                exact ⟨congrArg Value.bool (by rw [← HD.out, HCJ.out]; by_cases h : cj = 93 <;> simp [h, h45] <;> omega), HRS3, HS3, HT3, HMV3⟩
            · have q45 : ((ci : Int) == 45) = false := by simp; omega
              go_wp2_with fail
              go_meet
              exact ⟨congrArg Value.bool (by rw [← HD.out]; simp [h45]), HRS2, HS2, HT2, HMV2⟩
          case rest =>
            clear hs0
            obtain ⟨rfl, HRS3, HS3, HT3, HMV3⟩ := hcut
            have hstep := HSTEP.out
            cases D with
            | true =>
              rw [if_pos (of_decide_eq_true HD.out)] at hstep
              have HNONE := Lib.hid hstep
              clear hstep
              go_wp2_with fail
              refine (fail_any _ _).mono ?_
              rintro e w99 ⟨rfl, rfl⟩
              refine ⟨rfl, ?_⟩
              rw [HALL.out, HNONE.out]
              exact ⟨rfl, HT3.out⟩
            | false =>
              rw [if_neg (of_decide_eq_false HD.out)] at hstep
              clear HSTEP
              cases m with
              | some hf =>
                have HNEXT := Lib.hid hstep.symm
                clear hstep
                obtain ⟨bh, rfl, hset, hbs⟩ := HMV3.out
                have HBN : Hid (¬ bh = w.heap.size) := Lib.hid (by have h1 := HN2.out; omega)
                have HBH := Lib.hid hset
                clear hset hbs HMV2 HMV3
                go_wp2_with fail
                go_loopw [52] (fun q wq => ∃ (x0 : Nat) (g' : Nat → Bool), q = .int .i64 x0 ∧ x0 ≤ 256 ∧ Hid (SetB wq w.heap.size g') ∧ Hid (SetB wq bh hf) ∧ Hid (∀ x, (x < x0 → g' x = (g x || hf x)) ∧ (x0 ≤ x → g' x = g x)) ∧ Hid (RS br s deep { st with pos := j } wq) ∧ Hid (Touch (fun b => b = br) w wq)) (fun q _ => 256 - (intOf q).toNat)
                case atStart => exact ⟨0, g, rfl, by omega, HS3, HBH, Lib.hid (fun x => ⟨fun h => by omega, fun _ => rfl⟩), HRS3, HT3⟩
                case round =>
                  obtain ⟨x0, g', rfl, hx0, HSq, HBq, HGq, HRSq, HTq⟩ := hrel
                  by_cases hlt2 : x0 < 256
                  · have hx := HSq.out.cell hlt2
                    rw [(HGq.out x0).2 (Nat.le_refl _)] at hx
                    obtain ⟨hx1, hx2⟩ := hx
                    have hy1 := (HBq.out.cell hlt2).1
                    obtain ⟨v, hv⟩ : ∃ v, (g x0 || hf x0) = v := ⟨_, rfl⟩
                    have HV := Lib.hid hv
                    have HS6 := Lib.hid (SetB.keep (HSq.out.put hlt2 v) ((Touch.refl (fun _ => False) _).drew) id)
                    have t6 : Touch (fun b => b = w.heap.size) wr (wr.setCell ⟨w.heap.size, x0, none⟩ (.bool v)).drew := (Touch.setCell (Touch.refl (fun b => b = w.heap.size) wr) (.inl rfl) _).drew
                    have HRS6 := Lib.hid (HRSq.out.keep t6 (Ne.symm HNB.out))
                    have HB6 := Lib.hid (HBq.out.keep t6 HBN.out)
                    have HT6 := Lib.hid (HTq.out.trans t6 (fun i e => .inr (by omega)))
                    clear t6
                    cases hg : g x0 with
                    | true =>
                      obtain rfl : true = v := by rw [← hv, hg]; rfl
                      rw [hg] at hx1
                      clear hg hv
                      go_wp2_with fail
                      go_still_tail 16, (by kernel_rfl)
                      change wpList _ _ _ _ _ (World.drew _)
                      go_wp2_with fail
                      refine ⟨⟨x0 + 1, _, by go_num, by omega, HS6, HB6, Lib.hid ?_, HRS6, HT6⟩, by simp [intOf]; omega⟩
                      intro x
                      constructor
                      · intro hx
                        by_cases e : x = x0
                        · subst e; rw [if_pos rfl]; exact HV.out.symm
                        · rw [if_neg e]; exact (HGq.out x).1 (by omega)
                      · intro hx
                        rw [if_neg (by omega)]; exact (HGq.out x).2 (by omega)
                    | false =>
                      have hfv : hf x0 = v := by rw [← hv, hg]; rfl
                      rw [hg] at hx1
                      rw [hfv] at hy1
                      clear hg hv hfv
                      go_wp2_with fail
                      go_still_tail 16, (by kernel_rfl)
                      change wpList _ _ _ _ _ (World.drew _)
                      go_wp2_with fail
                      refine ⟨⟨x0 + 1, _, by go_num, by omega, HS6, HB6, Lib.hid ?_, HRS6, HT6⟩, by simp [intOf]; omega⟩
                      intro x
                      constructor
                      · intro hx
                        by_cases e : x = x0
                        · subst e; rw [if_pos rfl]; exact HV.out.symm
                        · rw [if_neg e]; exact (HGq.out x).1 (by omega)
                      · intro hx
                        rw [if_neg (by omega)]; exact (HGq.out x).2 (by omega)
                  · obtain rfl : x0 = 256 := by omega
                    go_wp2_with fail
                    have HSE := Lib.hid (HSq.out.congr (fun x hx => (HGq.out x).1 hx))
                    have HCN := Lib.hid HNEXT.out
                    have hmm : s.size - cellI wr br 1 < s.size - cellI wr0 br 1 := by
                      rw [cellI_at HRSq.out.c1.1, cellI_at HM0.out]
                      show s.size - j < s.size - i
                      omega
                    exact ⟨⟨false, j, _, f, rfl, hjs, HRSq, HSE, HCN, Lib.hid (by have := HF.out; omega), HTq, Lib.hid (by have := HIP.out; omega)⟩, by rw [← hwr0]; exact hmm⟩
              | none =>
                dsimp only at hstep
                replace hc256 := hc256 rfl
                obtain rfl : mv = none := HMV3.out
                clear HMV2 HMV3
                obtain ⟨RG, hrg⟩ : ∃ b, rangeAt (str s) j = b := ⟨_, rfl⟩
                have HRG := Lib.hid hrg
                rw [hrg] at hstep
                have HSTEP := Lib.hid hstep
                clear hrg hstep
                have hs0 := HRS3.out.c0
                have hc0 := HRS3.out.c0
                have hc1 := HRS3.out.c1.1
                obtain ⟨cq, hcq0⟩ : ∃ cq, pk (str s) j = cq := ⟨_, rfl⟩
                have hcq := pk_256 s j
                rw [hcq0] at hcq
                have HPKQ : Hid (∀ w', RS br s deep { st with pos := j } w' → Calls Tryz.prog 81 #[.pointer (some ⟨br, 0, none⟩)] w' fun e w'' => e = .returned (.int .u8 (cq : Int)) ∧ ∃ q, w'' = w'.drewN q) := Lib.hid (fun w' h => by rw [← hcq0]; exact peek_any br s deep _ w' h)
                have hw5 := IntWalk.i64_in ((j : Int) + 1) (by omega)
                have s4 : ((j : Int) + 1).toNat = j + 1 := by omega
                go_upto_region 17 with fail
                go_cut [101] from 17 to 134 (fun t wx => t = .bool RG ∧ Hid (RS br s deep { st with pos := j } wx) ∧ Hid (SetB wx w.heap.size g) ∧ Hid (Touch (fun b => b = br) w wx))
                case first =>
                  have h1 := HRG.out
                  unfold rangeAt at h1
                  rw [hcq0, str_len] at h1
                  clear hcq0
                  by_cases r1 : cq = 45
                  · have s1 : ((cq : Int) == 45) = true := by rw [r1]; rfl
                    by_cases r2 : j + 1 < s.size
                    · have s2 : decide ((j : Int) + 1 < (s.size : Int)) = true := by simp; omega
                      obtain ⟨cz, hcz⟩ : ∃ cz, pk (str s) (j + 1) = cz := ⟨_, rfl⟩
                      rw [hcz] at h1
                      have s3 : (s[j + 1]'r2).toNat = cz := by rw [← pk_lt r2]; exact hcz
                      have HRG : Hid (RG = !decide (cz = 93)) := Lib.hid (by rw [← h1]; simp [r1, r2])
                      clear h1 hcz r1
                      by_cases r3 : cz = 93
                      · have s6 : ((cz : Int) != 93) = false := by rw [r3]; rfl
                        have HRG : Hid (RG = false) := Lib.hid (by rw [HRG.out]; simp [r3])
                        clear r3
                        go_quiet ((go_at_call 81; exact Calls.quiet_of (HPKQ.out _ (by first | exact HRS3.out | exact HRS3.out.drewN _))))
                        go_wp2_with fail
                        go_meet
                        exact ⟨congrArg Value.bool HRG.out.symm, Lib.hid (HRS3.out.drewN nq), Lib.hid (HS3.out.keep (still_drewN (S := fun _ => False) _ nq) id), Lib.hid (HT3.out.drewN nq)⟩
                      · have s6 : ((cz : Int) != 93) = true := by rw [bne_iff_ne]; omega
                        have HRG : Hid (RG = true) := Lib.hid (by rw [HRG.out]; simp [r3])
                        clear r3
                        go_quiet ((go_at_call 81; exact Calls.quiet_of (HPKQ.out _ (by first | exact HRS3.out | exact HRS3.out.drewN _))))
                        go_wp2_with fail
                        go_meet
                        exact ⟨congrArg Value.bool HRG.out.symm, Lib.hid (HRS3.out.drewN nq), Lib.hid (HS3.out.keep (still_drewN (S := fun _ => False) _ nq) id), Lib.hid (HT3.out.drewN nq)⟩
                    · have s2 : decide ((j : Int) + 1 < (s.size : Int)) = false := by simp; omega
                      have HRG : Hid (RG = false) := Lib.hid (by rw [← h1]; simp [r2])
                      clear h1 r1
                      go_quiet ((go_at_call 81; exact Calls.quiet_of (HPKQ.out _ (by first | exact HRS3.out | exact HRS3.out.drewN _))))
                      go_wp2_with fail
                      go_meet
                      exact ⟨congrArg Value.bool HRG.out.symm, Lib.hid (HRS3.out.drewN nq), Lib.hid (HS3.out.keep (still_drewN (S := fun _ => False) _ nq) id), Lib.hid (HT3.out.drewN nq)⟩
                  · have s1 : ((cq : Int) == 45) = false := by simp; omega
                    have HRG : Hid (RG = false) := Lib.hid (by rw [← h1]; simp [r1])
                    clear h1 r1
                    go_quiet ((go_at_call 81; exact Calls.quiet_of (HPKQ.out _ (by first | exact HRS3.out | exact HRS3.out.drewN _))))
                    go_wp2_with fail
                    go_meet
                    exact ⟨congrArg Value.bool HRG.out.symm, Lib.hid (HRS3.out.drewN nq), Lib.hid (HS3.out.keep (still_drewN (S := fun _ => False) _ nq) id), Lib.hid (HT3.out.drewN nq)⟩
                case rest =>
                  obtain ⟨rfl, HRS7, HS7, HT7⟩ := hcut
                  clear hc0 hc1 hs0 hcq HPKQ hcq0 s4
                  go_upto_if 101 with fail
                  go_cut [10] from 17 to 134 (fun t wx => ∃ d k : Nat, t = .int .u8 (d : Int) ∧ c ≤ d ∧ d < 256 ∧ i < k ∧ k ≤ s.size ∧ Hid (classP (str s) f false k (fun x => g x || (decide (c ≤ x) && decide (x ≤ d))) = r) ∧ Hid (RS br s deep { st with pos := k } wx) ∧ Hid (SetB wx w.heap.size g) ∧ Hid (Touch (fun b => b = br) w wx))
                  case first =>
                    have hstep := HSTEP.out
                    clear HSTEP
                    cases RG with
                    | false =>
                      rw [if_neg (by decide)] at hstep
                      have HNEXT := Lib.hid hstep.symm
                      clear hstep
                      go_wp2_with fail
                      go_meet
                      exact ⟨c, j, rfl, Nat.le_refl _, hc256, hij, hjs, HNEXT, HRS7, HS7, HT7⟩
                    | true =>
                      rw [if_pos rfl] at hstep
                      have hj1 : j + 1 ≤ s.size := by
                        have h1 := HRG.out
                        unfold rangeAt at h1
                        rw [str_len] at h1
                        simp at h1
                        omega
                      have hc1 := HRS7.out.c1
                      obtain ⟨hc1, hc1f⟩ := hc1
                      obtain ⟨p1, hp1⟩ : ∃ p1, j + 1 = p1 := ⟨_, rfl⟩
                      obtain ⟨w9, hw9⟩ : ∃ w9, wc.setCell ⟨br, 1, none⟩ (.int .i64 ((j : Int) + 1)) = w9 := ⟨_, rfl⟩
                      have hrs : RS br s deep { st with pos := p1 } w9 := by rw [← hw9, ← hp1]; exact HRS7.out.setPos (j + 1) hj1
                      have ht : Touch (fun b => b = br) wc w9 := by rw [← hw9]; exact Touch.setCell (Touch.refl (fun b => b = br) wc) (.inl rfl) _
                      have HRS9 := Lib.hid hrs
                      have HT9 := Lib.hid (HT7.out.then ht)
                      have HS9 := Lib.hid (HS7.out.keep ht HNB.out)
                      have HPP : Hid (i < p1) := Lib.hid (by omega)
                      clear hrs ht
                      rw [hp1] at hstep
                      have HSTEP := Lib.hid hstep
                      clear hstep hj1
                      go_wp2_with fail
                      clear hw9 hc1 hc1f hp1
                      have hstep := HSTEP.out
                      clear HSTEP
                      cases hm2 : memberP (str s) p1 with
                      | none =>
                        rw [hm2] at hstep
                        have HNONE := Lib.hid hstep
                        refine (member_bad HRS9.out hm2).mono ?_
                        rintro e w10 ⟨rfl, ht⟩
                        refine ⟨rfl, ?_⟩
                        rw [HALL.out, HNONE.out]
                        exact ⟨rfl, HT9.out.then ht⟩
                      | some t2 =>
                        obtain ⟨d, m2, k⟩ := t2
                        rw [hm2] at hstep
                        dsimp only at hstep
                        refine (member_g HRS9.out hm2).mono ?_
                        clear hm2
                        rintro e w10 ⟨mv2, rfl, hmv2, hrs, ht, hjk, hd256⟩
                        have HRS10 := Lib.hid hrs
                        have HT10 := Lib.hid (HT9.out.then ht)
                        have HS10 := Lib.hid (HS9.out.keep ht HNB.out)
                        have hks : k ≤ s.size := hrs.le
                        have hjk : p1 < k := hjk
                        clear hrs ht
                        cases m2 with
                        | some hf2 =>
                          rw [if_pos (.inl rfl)] at hstep
                          have HNONE := Lib.hid hstep
                          clear hstep
                          obtain ⟨b2, rfl, -, -⟩ := hmv2
                          go_wp2_with fail
                          refine (fail_any _ _).mono ?_
                          rintro e w99 ⟨rfl, rfl⟩
                          refine ⟨rfl, ?_⟩
                          rw [HALL.out, HNONE.out]
                          exact ⟨rfl, HT10.out⟩
                        | none =>
                          obtain rfl : mv2 = none := hmv2
                          replace hd256 := hd256 rfl
                          by_cases hdc : d < c
                          · rw [if_pos (.inr hdc)] at hstep
                            have HNONE := Lib.hid hstep
                            clear hstep
                            have s7 : decide (d < c) = true := by simp; omega
                            go_wp2_with fail
                            refine (fail_any _ _).mono ?_
                            rintro e w99 ⟨rfl, rfl⟩
                            refine ⟨rfl, ?_⟩
                            rw [HALL.out, HNONE.out]
                            exact ⟨rfl, HT10.out⟩
                          · rw [if_neg (by simp; omega)] at hstep
                            have HNEXT := Lib.hid hstep.symm
                            clear hstep
                            have s7 : decide (d < c) = false := by simp; omega
                            go_wp2_with fail
                            go_meet
                            have hik := HPP.out
                            exact ⟨d, k, rfl, by omega, hd256, by omega, hks, HNEXT, HRS10, HS10, HT10⟩
                  case rest =>
                    obtain ⟨d, k, rfl, hcd, hd256, hik, hks, HNEXT, HRS8, HS8, HT8⟩ := hcut
                    go_wp2_with fail
                    go_loopw [11] (fun q wq => ∃ (x0 : Nat) (g' : Nat → Bool), q = .int .i64 x0 ∧ c ≤ x0 ∧ x0 ≤ d + 1 ∧ Hid (SetB wq w.heap.size g') ∧ Hid (∀ x, g' x = (g x || (decide (c ≤ x) && decide (x < x0)))) ∧ Hid (RS br s deep { st with pos := k } wq) ∧ Hid (Touch (fun b => b = br) w wq)) (fun q _ => d + 1 - (intOf q).toNat)
                    case atStart => exact ⟨c, g, rfl, Nat.le_refl _, by omega, HS8, Lib.hid (fun x => by by_cases h1 : c ≤ x <;> simp [h1]; omega), HRS8, HT8⟩
                    case round =>
                      obtain ⟨x0, g', rfl, hx0, hx1, HSq, HGq, HRSq, HTq⟩ := hrel
                      by_cases hlt2 : x0 ≤ d
                      · have h256 : x0 < 256 := by omega
                        have hx := HSq.out.cell h256
                        obtain ⟨hy1, hy2⟩ := hx
                        have HS6 := Lib.hid (HSq.out.put h256 true)
                        have t6 : Touch (fun b => b = w.heap.size) wr (wr.setCell ⟨w.heap.size, x0, none⟩ (.bool true)) := Touch.setCell (Touch.refl (fun b => b = w.heap.size) wr) (.inl rfl) _
                        have HRS6 := Lib.hid (HRSq.out.keep t6 (Ne.symm HNB.out))
                        have HT6 := Lib.hid (HTq.out.trans t6 (fun i e => .inr (by omega)))
                        clear t6
                        have hq2 : decide (x0 ≤ d) = true := by simp; omega
                        have hw1 := IntWalk.i64_in ((x0 : Int) + 1) (by omega)
                        go_wp2_with fail
                        refine ⟨⟨x0 + 1, _, by go_num, by omega, by omega, HS6, Lib.hid ?_, HRS6, HT6⟩, by simp [intOf]; omega⟩
                        intro x
                        by_cases e : x = x0
                        · subst e; rw [if_pos rfl]; simp [hx0]
                        · rw [if_neg e, HGq.out x]
                          congr 2
                          exact decide_eq_decide.2 (by omega)
                      · obtain rfl : x0 = d + 1 := by omega
                        have hq2 : decide (d + 1 ≤ d) = false := by simp
                        go_wp2_with fail
                        have HSE : Hid (SetB wr w.heap.size (fun x => g x || (decide (c ≤ x) && decide (x ≤ d)))) := Lib.hid (HSq.out.congr (fun x hx => by
                          rw [HGq.out x]
                          congr 2
                          exact decide_eq_decide.2 (by omega)))
                        have hmm : s.size - cellI wr br 1 < s.size - cellI wr0 br 1 := by
                          rw [cellI_at HRSq.out.c1.1, cellI_at HM0.out]
                          show s.size - k < s.size - i
                          omega
                        exact ⟨⟨false, k, _, f, rfl, hks, HRSq, HSE, HNEXT, Lib.hid (by have := HF.out; omega), HTq, Lib.hid (by have := HIP.out; omega)⟩, by rw [← hwr0]; exact hmm⟩
end Go.Proofs.YtlgpilcjcomacaaGreat
