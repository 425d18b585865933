/-
  Texts Rh, Ri in one.
-/
import Derived.Test.YtlgpilcjcomacaaGreatBd
import Derived.Deep.Cut
import Derived.Deep.CutRange
/-
  The document's class. (Printed by wip/tools/rclass07.py.)
-/
namespace Go.Proofs.YtlgpilcjcomacaaGreat
open Go.RowKit Rx
set_option linter.unusedVariables false

/-- A node of a set. -/
abbrev VS (g : Nat → Bool) : NV := { nv0 0 with set := g }

/-- What comes back of a class of the document. -/
def ClassD (br : Nat) (s : ByteArray) (deep : Nat) (st : PS) (w : World) : Option ((Nat → Bool) × Nat) → Ending → World → Prop
  | none, e, w' => ∃ b, e = .returned (.pointer (some ⟨b, 0, none⟩)) ∧ RX br s w' ∧ Touch (fun b => b = br) w w'
  | some (f, j), e, w' => ∃ b, e = .returned (.pointer (some ⟨b, 0, none⟩)) ∧ w.heap.size ≤ b ∧ NodeB w' b (VS f) ∧ RR br s deep { st with pos := j } w' ∧ Touch (fun b => b = br) w w' ∧ st.pos < j

/-- How much is left to read, nothing once a fault was seen. -/
def leftC (n : Nat) (w : World) (br : Nat) : Nat := match w.cell? ⟨br, 5, none⟩ with | some (.bool true) => 0 | _ => n + 1 - cellI w br 1
theorem leftC_rr {br : Nat} {s : ByteArray} {deep : Nat} {st : PS} {w : World} (h : RR br s deep st w) : leftC s.size w br = s.size + 1 - st.pos := by
  unfold leftC
  rw [h.c5.1, cellI_at h.c1.1]
theorem leftC_rx {br : Nat} {s : ByteArray} {w : World} (h : RX br s w) : leftC s.size w br = 0 := by
  unfold leftC
  rw [h.c5.1]

/-- What follows a member of a class. -/
def classN (s : List UInt8) (f c j : Nat) (g : Nat → Bool) (m : Option (Nat → Bool)) : Option ((Nat → Bool) × Nat) :=
  match m with
  | some h => classP s f false j (fun x => g x || h x)
  | none => if rangeAt s j = true then
      match memberP s (j + 1) with
      | none => none
      | some (d, m2, k) => if m2.isSome = true ∨ d < c then none else classP s f false k (fun x => g x || (decide (c ≤ x) && decide (x ≤ d)))
    else classP s f false j (fun x => g x || (decide (c ≤ x) && decide (x ≤ c)))

theorem touch_two {br nb : Nat} {w a b : World} (h : Touch (fun i => i = br) w a) (k : Touch (fun i => i = br ∨ i = nb) a b) (hn : w.heap.size ≤ nb) : Touch (fun i => i = br) w b :=
  h.trans k (fun i e => e.elim .inl (fun e => .inr (by rw [e]; exact hn)))

theorem rnext_rr {br : Nat} {s t : ByteArray} {deep : Nat} {st : PS} {w : World} (h : RR br s deep st w) (b : Bool) (hb : tk (str s) st.pos (str t) = b) (ht : t.size ≤ 2) :
    Calls Tryz.prog 80 #[.pointer (some ⟨br, 0, none⟩), .string t] w fun e w' => e = .returned (.bool b) ∧ RR br s deep { st with pos := if b = true then st.pos + t.size else st.pos } w' ∧ Touch (fun b => b = br) w w' := by
  cases b with
  | true =>
    refine (rnext_yes br s t st.pos w h.c0 h.c1 h.sz h.le hb ht).mono ?_
    rintro e w' ⟨he, q, rfl⟩
    exact ⟨he, (h.drewN q).setPos _ (tk_le hb h.le), Touch.setCell ((Touch.refl (fun b => b = br) w).drewN q) (.inl rfl) _⟩
  | false =>
    refine (rnext_no br s t st.pos w h.c0 h.c1.1 h.sz h.le hb).mono ?_
    rintro e w' ⟨he, q, rfl⟩
    exact ⟨he, h.drewN q, (Touch.refl _ _).drewN q⟩

set_option maxRecDepth 100000 in
set_option maxHeartbeats 20000000 in
theorem rclass_any (br : Nat) (s : ByteArray) (deep : Nat) (st : PS) (w : World) (h : RR br s deep st w) :
    Calls Tryz.prog 100 #[.pointer (some ⟨br, 0, none⟩)] w (ClassD br s deep st w (classAll (str s) st.pos)) := by
  have hle := h.le
  have hsz := h.sz
  obtain ⟨w0, hw0⟩ : ∃ w0, w.alloc (.cells (Tryz.zeroCells97.setIfInBounds 0 (.int .i64 0)) 97) = w0 := ⟨_, rfl⟩
  have ha0 : Still w w0 := by rw [← hw0]; exact (Touch.refl _ _).alloc _
  have HH := Lib.hid (h.keep ha0 id)
  have HT0 : Hid (Touch (fun b => b = br) w w0) := Lib.hid (ha0.mono (fun _ _ e => e.elim))
  have HS0 : Hid (NodeB w0 w.heap.size (VS (fun _ => false))) := Lib.hid (by rw [← hw0]; exact node_new w 0)
  have HNB : Hid (w.heap.size ≠ br) := Lib.hid (by have := h.lt; omega)
  obtain ⟨nb, hnb⟩ : ∃ nb, w.heap.size = nb := ⟨_, rfl⟩
  have HNBE := Lib.hid hnb
  clear h ha0
  obtain ⟨neg, hneg⟩ : ∃ b, tk (str s) st.pos [94] = b := ⟨_, rfl⟩
  obtain ⟨i0, hi0⟩ : ∃ i0, (if neg = true then st.pos + 1 else st.pos) = i0 := ⟨_, rfl⟩
  obtain ⟨r, hr⟩ : ∃ r, classP (str s) ((str s).length + 1) true i0 (fun _ => false) = r := ⟨_, rfl⟩
  have HALL : Hid (classAll (str s) st.pos = classEnd neg r) := Lib.hid (by unfold classAll; rw [hneg, hi0, hr])
  have HI0 : Hid (st.pos ≤ i0) := Lib.hid (by rw [← hi0]; split <;> omega)
  have HTAKE := Lib.hid (rnext_rr (t := ⟨#[94]⟩) HH.out neg hneg (by decide))
  rw [show (if neg = true then st.pos + (⟨#[94]⟩ : ByteArray).size else st.pos) = i0 from hi0] at HTAKE
  have HCL0 : Hid (classP (str s) ((str s).length + 1) true i0 (fun _ => false) = r) := Lib.hid hr
  clear hneg hi0 hr
  go_enter Tryz.func100, Tryz.ntmps100
  go_wp2_with fail
  clear hw0
  refine HTAKE.out.mono ?_
  rintro e w1 ⟨rfl, hrs, ht⟩
  rw [hnb] at HS0 HNB
  have HRS1 := Lib.hid hrs
  have HT1 := Lib.hid (HT0.out.then ht)
  have HS1 := Lib.hid (HS0.out.keep ht HNB.out)
  have hi0s := hrs.le
  simp only at hi0s
  clear hrs ht hnb HTAKE
  go_upto_region 3 with fail
  go_cut [5] from 16 to 16 (fun t wx => t = .bool true ∧ wx = w1)
  case first =>
    go_wp2_with fail
    go_meet
    exact ⟨rfl, rfl⟩
  case rest =>
  obtain ⟨rfl, rfl⟩ := hcut
  rename_i hKA
  apply hKA
  go_cut [] from 5 to 159 (fun wx => ∃ (g : Nat → Bool) (i : Nat), Hid (NodeB wx nb (VS g)) ∧ Hid (Touch (fun b => b = br) w wx) ∧ i < s.size ∧ Hid (Holds wx br 1 (.int .i64 (i : Int))) ∧ Hid ((RR br s deep { st with pos := i } wx ∧ r = some (g, i) ∧ st.pos ≤ i) ∨ (RX br s wx ∧ r = none)))
  case first =>
    go_wp2_with fail
    go_loopw [5] (fun fst wr => ∃ (first : Bool) (g : Nat → Bool), fst = .bool first ∧ Hid (NodeB wr nb (VS g)) ∧ Hid (Touch (fun b => b = br) w wr) ∧ Hid ((∃ i f, i ≤ s.size ∧ RR br s deep { st with pos := i } wr ∧ classP (str s) f first i g = r ∧ s.size + 1 ≤ f + i ∧ st.pos ≤ i) ∨ (first = false ∧ RX br s wr ∧ r = none))) (fun _ wr => leftC s.size wr br)
    case atStart => exact ⟨true, _, rfl, HS1, HT1, Lib.hid (.inl ⟨i0, _, hi0s, HRS1.out, HCL0.out, by rw [str_len]; omega, HI0.out⟩)⟩
    case round =>
      obtain ⟨first, g, rfl, HS, HT, HAB⟩ := hrel
      obtain ⟨wr0, hwr0⟩ : ∃ wr0 : World, wr0 = wr := ⟨_, rfl⟩
      rcases HAB.out with ⟨i, f, his, hrs, hcl, hf, hip⟩ | ⟨rfl, hrx, hrn⟩
      · have HRS := Lib.hid hrs
        have HIP := Lib.hid hip
        have HF := Lib.hid hf
        have HLEFT : Hid (leftC s.size wr br = s.size + 1 - i) := Lib.hid (leftC_rr hrs)
        obtain ⟨f, rfl⟩ : ∃ f', f = f' + 1 := ⟨f - 1, by omega⟩
        obtain ⟨ci, hci⟩ : ∃ c, pk (str s) i = c := ⟨_, rfl⟩
        have hci256 := pk_256 s i
        rw [hci] at hci256
        have HCI := Lib.hid hci
        have hstep : classP (str s) (f + 1) first i g = if first = false ∧ ci = 93 then some (g, i) else
          match memberP (str s) i with
          | none => none
          | some (c, m, j) => if ci = 45 ∧ first = false ∧ pk (str s) j ≠ 93 then none else
            match m with
            | some h => classP (str s) f false j (fun x => g x || h x)
            | none => if rangeAt (str s) j = true then
                match memberP (str s) (j + 1) with
                | none => none
                | some (d, m2, k) => if m2.isSome = true ∨ d < c then none else classP (str s) f false k (fun x => g x || (decide (c ≤ x) && decide (x ≤ d)))
              else classP (str s) f false j (fun x => g x || (decide (c ≤ x) && decide (x ≤ c))) := by
          rw [← HCI.out]; rfl
        rw [hcl] at hstep
        have HSTEP := Lib.hid hstep
        clear hcl hstep hrs hip hf hci HAB
        go_upto_region 4 with fail
        go_cut [25] from 16 to 24 (fun t wx => t = .bool (!(!first && decide (ci = 93))) ∧ Hid (RR br s deep { st with pos := i } wx) ∧ Hid (NodeB wx nb (VS g)) ∧ Hid (Touch (fun b => b = br) w wx))
        case first =>
          cases first with
          | true =>
            go_wp2_with fail
            go_meet
            exact ⟨rfl, HRS, HS, HT⟩
          | false =>
            go_wp2_with fail
            refine (rpeek_rr HRS.out).mono ?_
            rintro e we ⟨he, q, hq⟩
            rw [show pk (str s) (PS.pos _) = ci from HCI.out] at he
            subst he
            have HRSe := Lib.hid (HRS.out.drewN q)
            have HTe := Lib.hid (HT.out.drewN q)
            have HSe := Lib.hid (HS.out.keep ((Touch.refl (fun _ => False) wr).drewN q) id)
            rw [← hq] at HRSe HTe HSe
            clear hq
            by_cases h93 : ci = 93
            · have hlt : i < s.size := by
                rcases Nat.lt_or_ge i s.size with h1 | h1
                · exact h1
                · exfalso
                  have h2 := HCI.out
                  rw [pk_ge h1] at h2
                  omega
              have q93 : ((ci : Int) != 93) = false := by rw [h93]; rfl
              have HX : Hid ((!(!false && decide (ci = 93))) = false) := Lib.hid (by simp [h93])
              clear h93
              go_wp2_with fail
              refine (rend_rr HRSe.out).mono ?_
              rintro e wf ⟨he, q, hq⟩
              rw [show decide (s.size ≤ PS.pos _) = false from decide_eq_false (by show ¬ s.size ≤ i; omega)] at he
              subst he
              have HRSf := Lib.hid (HRSe.out.drewN q)
              have HTf := Lib.hid (HTe.out.drewN q)
              have HSf := Lib.hid (HSe.out.keep ((Touch.refl (fun _ => False) we).drewN q) id)
              rw [← hq] at HRSf HTf HSf
              clear hq
              go_wp2_with fail
              go_meet
              exact ⟨by rw [HX.out], HRSf, HSf, HTf⟩
            · have q93 : ((ci : Int) != 93) = true := by rw [bne_iff_ne]; omega
              have HX : Hid ((!(!false && decide (ci = 93))) = true) := Lib.hid (by simp [h93])
              clear h93
              go_wp2_with fail
              go_meet
              exact ⟨by rw [HX.out], HRSe, HSe, HTe⟩
        case rest =>
          obtain ⟨rfl, HRSp, HSp, HTp⟩ := hcut
          cases hend : (!first && decide (ci = 93)) with
          | true =>
            have h12 : first = false ∧ ci = 93 := by simpa using hend
            have hstep := HSTEP.out
            rw [if_pos h12] at hstep
            have HRR := Lib.hid hstep
            have hc93 := h12.2
            clear hstep hend h12
            have hilt : i < s.size := by
              rcases Nat.lt_or_ge i s.size with h1 | h1
              · exact h1
              · exfalso
                have h2 := HCI.out
                rw [pk_ge h1] at h2
                omega
            clear hc93
            go_wp2_with fail
            go_meet
            exact ⟨g, i, HSp, HTp, hilt, Lib.hid HRSp.out.c1, Lib.hid (.inl ⟨HRSp.out, HRR.out, HIP.out⟩)⟩
          | false =>
            have hstep := HSTEP.out
            rw [if_neg (by intro h12; obtain ⟨rfl, rfl⟩ := h12; revert hend; decide)] at hstep
            clear hend HSTEP
            have hc1m := HRSp.out.c1.1
            have hc0m := HRSp.out.c0
            have hc5m := HRSp.out.c5
            obtain ⟨hc5m, hc5f⟩ := hc5m
            simp only at hc1m
            by_cases hlt : i < s.size
            · have hwi := IntWalk.i64_in ((i : Int) + 1) (by omega)
              obtain ⟨D, hD⟩ : ∃ D, decide (ci = 45 ∧ first = false ∧ pk (str s) (i + 1) ≠ 93) = D := ⟨_, rfl⟩
              have HD := Lib.hid hD
              clear hD
              have HSTEP := Lib.hid hstep
              clear hstep
              go_wp2_with fail
              refine (rend_rr HRSp.out).mono ?_
              rintro e w2 ⟨he, q, hq⟩
              rw [show decide (s.size ≤ PS.pos _) = false from decide_eq_false (by show ¬ s.size ≤ i; omega)] at he
              subst he
              have HRS2 := Lib.hid (HRSp.out.drewN q)
              have HT2 := Lib.hid (HTp.out.drewN q)
              have HS2 := Lib.hid (HSp.out.keep ((Touch.refl (fun _ => False) wc).drewN q) id)
              rw [← hq] at HRS2 HT2 HS2
              clear hq hc1m hc0m hc5m hc5f
              have hc1m := HRS2.out.c1.1
              have hc0m := HRS2.out.c0
              have hc5m := HRS2.out.c5.1
              simp only at hc1m
              go_upto_region 9 with fail
              go_cut [6] from 38 to 61 (fun t wx => t = .bool (decide (pk (str s) (i + 1) = 93)) ∧ Hid (RR br s deep { st with pos := i } wx) ∧ Hid (NodeB wx nb (VS g)) ∧ Hid (Touch (fun b => b = br) w wx))
              case first =>
                by_cases r2 : i + 1 < s.size
                · have s2 : decide ((i : Int) + 1 < (s.size : Int)) = true := decide_eq_true (by omega)
                  have s2n : decide (i + 1 < s.size) = true := decide_eq_true (by omega)
                  have s4 : ((i : Int) + 1).toNat = i + 1 := by omega
                  obtain ⟨cz, hcz⟩ : ∃ cz, pk (str s) (i + 1) = cz := ⟨_, rfl⟩
                  have s3 : (s[i + 1]'r2).toNat = cz := by rw [← pk_lt r2]; exact hcz
                  have HCZ := Lib.hid hcz
                  clear hcz
                  by_cases r3 : cz = 93
                  · have s6 : ((cz : Int) == 93) = true := by rw [r3]; rfl
                    have HX : Hid (decide (pk (str s) (i + 1) = 93) = true) := Lib.hid (by rw [HCZ.out]; exact decide_eq_true r3)
                    clear r3
                    go_quiet (fail)
                    go_wp2_with fail
                    go_meet
                    exact ⟨by rw [HX.out], Lib.hid (HRS2.out.drewN nq), Lib.hid (HS2.out.keep (still_drewN (S := fun _ => False) _ nq) id), Lib.hid (HT2.out.drewN nq)⟩
                  · have s6 : ((cz : Int) == 93) = false := by simp; omega
                    have HX : Hid (decide (pk (str s) (i + 1) = 93) = false) := Lib.hid (by rw [HCZ.out]; exact decide_eq_false r3)
                    clear r3
                    go_quiet (fail)
                    go_wp2_with fail
                    go_meet
                    exact ⟨by rw [HX.out], Lib.hid (HRS2.out.drewN nq), Lib.hid (HS2.out.keep (still_drewN (S := fun _ => False) _ nq) id), Lib.hid (HT2.out.drewN nq)⟩
                · have s2 : decide ((i : Int) + 1 < (s.size : Int)) = false := decide_eq_false (by omega)
                  have s2n : decide (i + 1 < s.size) = false := decide_eq_false (by omega)
                  have HX : Hid (decide (pk (str s) (i + 1) = 93) = false) := Lib.hid (by rw [pk_ge (by omega)]; rfl)
                  go_quiet (fail)
                  go_wp2_with fail
                  go_meet
                  exact ⟨by rw [HX.out], Lib.hid (HRS2.out.drewN nq), Lib.hid (HS2.out.keep (still_drewN (S := fun _ => False) _ nq) id), Lib.hid (HT2.out.drewN nq)⟩
              case rest =>
                obtain ⟨rfl, HRS3, HS3, HT3⟩ := hcut
                clear hc0m hc1m hc5m
                obtain ⟨L, hL⟩ : ∃ L, decide (pk (str s) (i + 1) = 93) = L := ⟨_, rfl⟩
                have HL := Lib.hid hL
                rw [hL]
                clear hL
                go_upto_region 10 with fail
                go_cut [72] from 62 to 71 (fun t wx => t = .bool D ∧ Hid (RR br s deep { st with pos := i } wx) ∧ Hid (NodeB wx nb (VS g)) ∧ Hid (Touch (fun b => b = br) w wx))
                case first =>
                  go_wp2_with fail
                  refine (rpeek_rr HRS3.out).mono ?_
                  rintro e we ⟨he, q, hq⟩
                  rw [show pk (str s) (PS.pos _) = ci from HCI.out] at he
                  subst he
                  have HRSe := Lib.hid (HRS3.out.drewN q)
                  have HTe := Lib.hid (HT3.out.drewN q)
                  have HSe := Lib.hid (HS3.out.keep ((Touch.refl (fun _ => False) _).drewN q) id)
                  rw [← hq] at HRSe HTe HSe
                  clear hq
                  have hDD : D = (decide (ci = 45) && (!first && !L)) := by
                    rw [← HD.out, ← HL.out]
                    by_cases h1 : ci = 45 <;> cases first <;> by_cases h2 : pk (str s) (i + 1) = 93 <;> simp [h1, h2]
                  have HDD := Lib.hid hDD
                  clear hDD
                  by_cases h45 : ci = 45
                  · have q45 : ((ci : Int) == 45) = true := by rw [h45]; rfl
                    have HX : Hid (D = (!first && !L)) := Lib.hid (by rw [HDD.out, h45]; simp)
                    clear h45
                    cases first with
                    | true =>
                      go_wp2_with fail
                      go_meet
                      exact ⟨by rw [HX.out]; rfl, HRSe, HSe, HTe⟩
                    | false =>
                      cases L with
                      | true =>
                        go_wp2_with fail
                        go_meet
                        exact ⟨by rw [HX.out]; rfl, HRSe, HSe, HTe⟩
                      | false =>
                        go_wp2_with fail
                        go_meet
                        exact ⟨by rw [HX.out]; rfl, HRSe, HSe, HTe⟩
                  · have q45 : ((ci : Int) == 45) = false := by simp; omega
                    have HX : Hid (D = false) := Lib.hid (by rw [HDD.out]; simp [h45])
                    clear h45
                    go_wp2_with fail
                    go_meet
                    exact ⟨by rw [HX.out], HRSe, HSe, HTe⟩
                case rest =>
                  obtain ⟨rfl, HRS4, HS4, HT4⟩ := hcut
                  cases D with
                  | true =>
                    have HNONE : Hid (r = none) := Lib.hid (by
                      rw [HSTEP.out]
                      have hd : ci = 45 ∧ first = false ∧ pk (str s) (i + 1) ≠ 93 := of_decide_eq_true HD.out
                      have hm : memberP (str s) i = some (45, none, i + 1) := by
                        unfold memberP
                        rw [byteAt_pk hlt, HCI.out, hd.1]
                        rfl
                      rw [hm]
                      show (if ci = 45 ∧ first = false ∧ pk (str s) (i + 1) ≠ 93 then _ else _) = _
                      rw [if_pos hd])
                    have hc5 := HRS4.out.c5
                    obtain ⟨hc5, hc5f⟩ := hc5
                    go_wp2_with fail
                    go_ret
                    rw [HALL.out, HNONE.out]
                    exact ⟨nb, rfl, HRS4.out.bad, Touch.setCell HT4.out (.inl rfl) _⟩
                  | false =>
                    have hnd : ∀ c m j, memberP (str s) i = some (c, m, j) → ¬ (ci = 45 ∧ first = false ∧ pk (str s) j ≠ 93) := fun c m j hm hd => by
                      have hm2 : memberP (str s) i = some (45, none, i + 1) := by
                        unfold memberP
                        rw [byteAt_pk hlt, HCI.out, hd.1]
                        rfl
                      rw [hm2] at hm
                      cases hm
                      exact absurd hd (of_decide_eq_false HD.out)
                    have HND := Lib.hid hnd
                    clear hnd
                    have HMB := Lib.hid (rmember_any br nb HNB.out s deep { st with pos := i } (VS g) _ HRS4.out hlt HS4.out)
                    go_wp2_with fail
                    refine HMB.out.mono ?_
                    clear HMB
                    intro e w5 hG
                    cases hm : memberP (str s) i with
                    | none =>
                      rw [hm] at hG
                      obtain ⟨b0, rfl, hb256, hrx, hn5, ht5⟩ := hG
                      have HNONE : Hid (r = none) := Lib.hid (by rw [HSTEP.out, hm])
                      have HN5 := Lib.hid hn5
                      have HT5 := Lib.hid (touch_two HT4.out ht5 (Nat.le_of_eq HNBE.out))
                      have HRX := Lib.hid hrx
                      have hc5 := hrx.c5.1
                      clear hn5 ht5 hrx hm
                      go_wp2_with fail
                      exact ⟨⟨false, g, rfl, HN5, HT5, Lib.hid (.inr ⟨rfl, HRX.out, HNONE.out⟩)⟩, by rw [leftC_rx HRX.out, ← hwr0]; rw [← hwr0] at HLEFT; rw [HLEFT.out]; omega⟩
                    | some t =>
                      obtain ⟨c, m, j⟩ := t
                      have HND2 := Lib.hid (HND.out c m j hm)
                      have HSTEP2 : Hid (r = classN (str s) f c j g m) := Lib.hid (by rw [HSTEP.out, hm]; exact if_neg HND2.out)
                      rw [hm] at hG
                      clear hm HND HSTEP
                      cases m with
                      | some hf =>
                        obtain ⟨rfl, rfl, hij, hrs5, hn5, ht5⟩ := hG
                        have HN5 : Hid (NodeB w5 nb (VS (fun x => g x || hf x))) := Lib.hid hn5
                        have HT5 := Lib.hid (touch_two HT4.out ht5 (Nat.le_of_eq HNBE.out))
                        have HRS5 := Lib.hid hrs5
                        have hc5 := hrs5.c5.1
                        have hjs : j ≤ s.size := hrs5.le
                        have hij : i < j := hij
                        clear hn5 ht5 hrs5
                        go_wp2_with fail
                        exact ⟨⟨false, _, rfl, HN5, HT5, Lib.hid (.inl ⟨j, f, hjs, HRS5.out, HSTEP2.out.symm, by have := HF.out; omega, by have := HIP.out; omega⟩)⟩, by rw [leftC_rr HRS5.out, ← hwr0]; rw [← hwr0] at HLEFT; rw [HLEFT.out]; show s.size + 1 - j < _; omega⟩
                      | none =>
                        obtain ⟨rfl, hc256, hij, hrs5, hn5, ht5⟩ := hG
                        have HN5 := Lib.hid hn5
                        have HT5 := Lib.hid (touch_two HT4.out ht5 (Nat.le_of_eq HNBE.out))
                        have HRS5 := Lib.hid hrs5
                        have hc5 := hrs5.c5.1
                        have hjs : j ≤ s.size := hrs5.le
                        have hij : i < j := hij
                        clear hn5 ht5 hrs5
                        have HSTEP2 : Hid (r = if rangeAt (str s) j = true then
                          match memberP (str s) (j + 1) with
                          | none => none
                          | some (d, m2, k) => if m2.isSome = true ∨ d < c then none else classP (str s) f false k (fun x => g x || (decide (c ≤ x) && decide (x ≤ d)))
                        else classP (str s) f false j (fun x => g x || (decide (c ≤ x) && decide (x ≤ c)))) := HSTEP2
                        obtain ⟨RG, hrg⟩ : ∃ b, rangeAt (str s) j = b := ⟨_, rfl⟩
                        have HRG := Lib.hid hrg
                        rw [hrg] at HSTEP2
                        clear hrg
                        go_upto_region 16 with fail
                        clear hc5
                        have hc0 := HRS5.out.c0
                        have hc1 := HRS5.out.c1.1
                        simp only at hc1
                        obtain ⟨cq, hcq0⟩ : ∃ cq, pk (str s) j = cq := ⟨_, rfl⟩
                        have hcq := pk_256 s j
                        rw [hcq0] at hcq
                        have HPKQ : Hid (∀ w', RR br s deep { st with pos := j } w' → Calls Tryz.prog 91 #[.pointer (some ⟨br, 0, none⟩)] w' fun e w'' => e = .returned (.int .u8 (cq : Int)) ∧ ∃ q, w'' = w'.drewN q) := Lib.hid (fun w' h => by rw [← hcq0]; exact rpeek_rr h)
                        have hwj := IntWalk.i64_in ((j : Int) + 1) (by omega)
                        have s4 : ((j : Int) + 1).toNat = j + 1 := by omega
                        go_cut [121] from 93 to 120 (fun t wx => t = .bool RG ∧ Hid (RR br s deep { st with pos := j } wx) ∧ Hid (NodeB wx nb (VS g)) ∧ Hid (Touch (fun b => b = br) w wx))
                        case first =>
                          have h1 := HRG.out
                          unfold rangeAt at h1
                          rw [hcq0, str_len] at h1
                          clear hcq0
                          by_cases r1 : cq = 45
                          · have s1 : ((cq : Int) == 45) = true := by rw [r1]; rfl
                            by_cases r2 : j + 1 < s.size
                            · have s2 : decide ((j : Int) + 1 < (s.size : Int)) = true := decide_eq_true (by omega)
                              have s2n : decide (j + 1 < s.size) = true := decide_eq_true (by omega)
                              obtain ⟨cz, hcz⟩ : ∃ cz, pk (str s) (j + 1) = cz := ⟨_, rfl⟩
                              rw [hcz] at h1
                              have s3 : (s[j + 1]'r2).toNat = cz := by rw [← pk_lt r2]; exact hcz
                              have HRG2 : Hid (RG = !decide (cz = 93)) := Lib.hid (by rw [← h1]; simp [r1, r2])
                              clear h1 hcz r1
                              by_cases r3 : cz = 93
                              · have s6 : ((cz : Int) != 93) = false := by rw [r3]; rfl
                                have HX : Hid (RG = false) := Lib.hid (by rw [HRG2.out]; simp [r3])
                                clear r3
                                go_quiet ((go_at_call 91; exact Calls.quiet_of (HPKQ.out _ (by first | exact HRS5.out | exact HRS5.out.drewN _))))
                                go_wp2_with fail
                                go_meet
                                exact ⟨by rw [HX.out], Lib.hid (HRS5.out.drewN nq), Lib.hid (HN5.out.keep (still_drewN (S := fun _ => False) _ nq) id), Lib.hid (HT5.out.drewN nq)⟩
                              · have s6 : ((cz : Int) != 93) = true := by rw [bne_iff_ne]; omega
                                have HX : Hid (RG = true) := Lib.hid (by rw [HRG2.out]; simp [r3])
                                clear r3
                                go_quiet ((go_at_call 91; exact Calls.quiet_of (HPKQ.out _ (by first | exact HRS5.out | exact HRS5.out.drewN _))))
                                go_wp2_with fail
                                go_meet
                                exact ⟨by rw [HX.out], Lib.hid (HRS5.out.drewN nq), Lib.hid (HN5.out.keep (still_drewN (S := fun _ => False) _ nq) id), Lib.hid (HT5.out.drewN nq)⟩
                            · have s2 : decide ((j : Int) + 1 < (s.size : Int)) = false := decide_eq_false (by omega)
                              have s2n : decide (j + 1 < s.size) = false := decide_eq_false (by omega)
                              have HX : Hid (RG = false) := Lib.hid (by rw [← h1]; simp [r2])
                              clear h1 r1
                              go_quiet ((go_at_call 91; exact Calls.quiet_of (HPKQ.out _ (by first | exact HRS5.out | exact HRS5.out.drewN _))))
                              go_wp2_with fail
                              go_meet
                              exact ⟨by rw [HX.out], Lib.hid (HRS5.out.drewN nq), Lib.hid (HN5.out.keep (still_drewN (S := fun _ => False) _ nq) id), Lib.hid (HT5.out.drewN nq)⟩
                          · have s1 : ((cq : Int) == 45) = false := by simp; omega
                            have HX : Hid (RG = false) := Lib.hid (by rw [← h1]; simp [r1])
                            clear h1 r1
                            go_quiet ((go_at_call 91; exact Calls.quiet_of (HPKQ.out _ (by first | exact HRS5.out | exact HRS5.out.drewN _))))
                            go_wp2_with fail
                            go_meet
                            exact ⟨by rw [HX.out], Lib.hid (HRS5.out.drewN nq), Lib.hid (HN5.out.keep (still_drewN (S := fun _ => False) _ nq) id), Lib.hid (HT5.out.drewN nq)⟩
                        case rest =>
                          obtain ⟨rfl, HRS6, HS6, HT6⟩ := hcut
                          clear hc0 hc1 hcq0 HPKQ
                          go_upto_if 121 with fail
                          go_cut [8, 9] from 122 to 146 (fun many high wx => ∃ (d : Nat) (bm : Bool) (g2 : Nat → Bool), many = .bool bm ∧ high = .int .u8 (d : Int) ∧ d < 256 ∧ Hid (NodeB wx nb (VS g2)) ∧ Hid (Touch (fun b => b = br) w wx) ∧ Hid ((∃ k, i < k ∧ k ≤ s.size ∧ RR br s deep { st with pos := k } wx ∧ classP (str s) f false k (fun x => g2 x || (decide (c ≤ x) && decide (x ≤ d))) = r) ∨ (RX br s wx ∧ r = none)))
                          case first =>
                            cases RG with
                            | false =>
                              go_wp2_with fail
                              go_meet
                              exact ⟨c, false, g, rfl, rfl, hc256, HS6, HT6, Lib.hid (.inl ⟨j, hij, hjs, HRS6.out, HSTEP2.out.symm⟩)⟩
                            | true =>
                              have hj1 : j + 1 < s.size := by
                                have h1 := HRG.out
                                unfold rangeAt at h1
                                rw [str_len] at h1
                                simp at h1
                                exact h1.2.1
                              have hc1 := HRS6.out.c1
                              obtain ⟨hc1, hc1f⟩ := hc1
                              simp only at hc1 hc1f
                              obtain ⟨w7, hw7⟩ : ∃ w7, wc.setCell ⟨br, 1, none⟩ (.int .i64 ((j : Int) + 1)) = w7 := ⟨_, rfl⟩
                              have hrs7 : RR br s deep { st with pos := j + 1 } w7 := by rw [← hw7]; exact HRS6.out.setPos (j + 1) (by omega)
                              have t67 : Touch (fun b => b = br) wc w7 := by rw [← hw7]; exact Touch.setCell (Touch.refl (fun b => b = br) wc) (.inl rfl) _
                              have HRS7 := Lib.hid hrs7
                              have HS7 := Lib.hid (HS6.out.keep t67 HNB.out)
                              have HT7 := Lib.hid (HT6.out.then t67)
                              have HMB := Lib.hid (rmember_any br nb HNB.out s deep { st with pos := j + 1 } (VS g) w7 hrs7 hj1 HS7.out)
                              clear hrs7 t67
                              go_wp2_with fail
                              clear hw7 hc1 hc1f
                              refine HMB.out.mono ?_
                              clear HMB
                              intro e w8 hG
                              have HTT : Hid (∀ wx, Touch (fun i => i = br ∨ i = nb) w7 wx → Touch (fun b => b = br) w wx) := Lib.hid (fun wx ht => touch_two HT7.out ht (Nat.le_of_eq HNBE.out))
                              cases hm2 : memberP (str s) (j + 1) with
                              | none =>
                                rw [hm2] at hG
                                obtain ⟨b0, rfl, hb256, hrx, hn8, ht8⟩ := hG
                                have HNONE : Hid (r = none) := Lib.hid (by rw [HSTEP2.out, if_pos trivial, hm2])
                                have HN8 := Lib.hid hn8
                                have HT8 := Lib.hid (HTT.out _ ht8)
                                have HRX := Lib.hid hrx
                                have hc5 := hrx.c5
                                obtain ⟨hc5, hc5f⟩ := hc5
                                clear hn8 ht8 hrx hm2
                                by_cases hbl : b0 < c
                                · have qb : decide ((b0 : Int) < (c : Int)) = true := decide_eq_true (by omega)
                                  have qbn : decide (b0 < c) = true := decide_eq_true (by omega)
                                  go_wp2_with fail
                                  go_meet
                                  have tb : Touch (fun b => b = br) w8 (w8.setCell ⟨br, 5, none⟩ (.bool true)) := Touch.setCell (Touch.refl (fun b => b = br) w8) (.inl rfl) _
                                  exact ⟨b0, false, g, rfl, rfl, hb256, Lib.hid (HN8.out.keep tb HNB.out), Lib.hid (HT8.out.then tb), Lib.hid (.inr ⟨HRX.out.setBad, HNONE.out⟩)⟩
                                · have qb : decide ((b0 : Int) < (c : Int)) = false := decide_eq_false (by omega)
                                  have qbn : decide (b0 < c) = false := decide_eq_false (by omega)
                                  go_wp2_with fail
                                  go_meet
                                  exact ⟨b0, false, g, rfl, rfl, hb256, HN8, HT8, Lib.hid (.inr ⟨HRX.out, HNONE.out⟩)⟩
                              | some t2 =>
                                obtain ⟨d, m2, k⟩ := t2
                                rw [hm2] at hG
                                have HSTEP3 : Hid (r = if m2.isSome = true ∨ d < c then none else classP (str s) f false k (fun x => g x || (decide (c ≤ x) && decide (x ≤ d)))) := Lib.hid (by rw [HSTEP2.out, if_pos trivial, hm2])
                                clear hm2
                                cases m2 with
                                | some hf =>
                                  obtain ⟨rfl, rfl, hjk, hrs8, hn8, ht8⟩ := hG
                                  have HNONE : Hid (r = none) := Lib.hid (by rw [HSTEP3.out, if_pos (.inl rfl)])
                                  have HN8 : Hid (NodeB w8 nb (VS (fun x => g x || hf x))) := Lib.hid hn8
                                  have HT8 := Lib.hid (HTT.out _ ht8)
                                  have HRS8 := Lib.hid hrs8
                                  have hc5 := hrs8.c5
                                  obtain ⟨hc5, hc5f⟩ := hc5
                                  clear hn8 ht8 hrs8
                                  go_wp2_with fail
                                  go_meet
                                  have tb : Touch (fun b => b = br) w8 (w8.setCell ⟨br, 5, none⟩ (.bool true)) := Touch.setCell (Touch.refl (fun b => b = br) w8) (.inl rfl) _
                                  exact ⟨0, true, _, rfl, rfl, by decide, Lib.hid (HN8.out.keep tb HNB.out), Lib.hid (HT8.out.then tb), Lib.hid (.inr ⟨HRS8.out.bad, HNONE.out⟩)⟩
                                | none =>
                                  obtain ⟨rfl, hd256, hjk, hrs8, hn8, ht8⟩ := hG
                                  have HN8 := Lib.hid hn8
                                  have HT8 := Lib.hid (HTT.out _ ht8)
                                  have HRS8 := Lib.hid hrs8
                                  have hks : k ≤ s.size := hrs8.le
                                  have hjk : j + 1 < k := hjk
                                  have hc5 := hrs8.c5
                                  obtain ⟨hc5, hc5f⟩ := hc5
                                  clear hn8 ht8 hrs8
                                  by_cases hdc : d < c
                                  · have qb : decide ((d : Int) < (c : Int)) = true := decide_eq_true (by omega)
                                    have qbn : decide (d < c) = true := decide_eq_true (by omega)
                                    have HNONE : Hid (r = none) := Lib.hid (by rw [HSTEP3.out, if_pos (.inr hdc)])
                                    go_wp2_with fail
                                    go_meet
                                    have tb : Touch (fun b => b = br) w8 (w8.setCell ⟨br, 5, none⟩ (.bool true)) := Touch.setCell (Touch.refl (fun b => b = br) w8) (.inl rfl) _
                                    exact ⟨d, false, g, rfl, rfl, hd256, Lib.hid (HN8.out.keep tb HNB.out), Lib.hid (HT8.out.then tb), Lib.hid (.inr ⟨HRS8.out.bad, HNONE.out⟩)⟩
                                  · have qb : decide ((d : Int) < (c : Int)) = false := decide_eq_false (by omega)
                                    have qbn : decide (d < c) = false := decide_eq_false (by omega)
                                    have HNEXT : Hid (classP (str s) f false k (fun x => g x || (decide (c ≤ x) && decide (x ≤ d))) = r) := Lib.hid (by rw [HSTEP3.out, if_neg (fun h => h.elim (fun h => absurd h (by decide)) hdc)])
                                    go_wp2_with fail
                                    go_meet
                                    exact ⟨d, false, g, rfl, rfl, hd256, HN8, HT8, Lib.hid (.inl ⟨k, by omega, hks, HRS8.out, HNEXT.out⟩)⟩
                          case rest =>
                            obtain ⟨d, bm, g2, rfl, rfl, hd256, HS9, HT9, HAB⟩ := hcut
                            have hwc := IntWalk.i64_in (c : Int) (by omega)
                            have hwd := IntWalk.i64_in (d : Int) (by omega)
                            obtain ⟨w9, hw9⟩ : ∃ w9, w9 = wc := ⟨_, rfl⟩
                            rw [← hw9] at HS9 HT9 HAB
                            have HW9 := Lib.hid hw9
                            have HRNG0 : Hid (NodeB w9 nb (VS (fun x => g2 x || (decide (c ≤ x) && decide (x < c))))) := Lib.hid (HS9.out.congrSet (g := fun x => g2 x || (decide (c ≤ x) && decide (x < c))) (fun x _ => by
                              by_cases h1 : c ≤ x
                              · simp [show ¬ x < c by omega]
                              · simp [h1]))
                            rw [hw9] at HRNG0
                            clear hw9
                            go_wp2_with fail
                            go_loopw [10] (fun q wq => ∃ x0 : Nat, q = .int .i64 x0 ∧ c ≤ x0 ∧ x0 ≤ max c (d + 1) ∧ Hid (NodeB wq nb (VS (fun x => g2 x || (decide (c ≤ x) && decide (x < x0))))) ∧ Hid (Touch (fun b => b = nb) w9 wq)) (fun q _ => max c (d + 1) - (intOf q).toNat)
                            case atStart => exact ⟨c, rfl, Nat.le_refl _, by omega, HRNG0, Lib.hid (by rw [HW9.out]; exact Touch.refl _ _)⟩
                            case round =>
                              obtain ⟨x0, rfl, hx1, hx2, HSq, HTq⟩ := hrel
                              by_cases hlt2 : x0 ≤ d
                              · have ql : decide ((x0 : Int) ≤ (d : Int)) = true := decide_eq_true (by omega)
                                have qln : decide (x0 ≤ d) = true := decide_eq_true (by omega)
                                have h256 : (x0 : Int) < 256 := by omega
                                have hwx := IntWalk.i64_in ((x0 : Int) + 1) (by omega)
                                have hx := HSq.out.cell (i := 1 + x0) (by omega)
                                rw [nv_set _ (by omega)] at hx
                                obtain ⟨hx3, hx4⟩ := hx
                                have HS10 : Hid (NodeB (wr.setCell ⟨nb, 1 + x0, none⟩ (.bool true)) nb (VS (fun x => g2 x || (decide (c ≤ x) && decide (x < x0 + 1))))) := Lib.hid ((HSq.out.setOne (by omega) true).congrSet (g := fun x => g2 x || (decide (c ≤ x) && decide (x < x0 + 1))) (fun x _ => by
                                  show (if x = x0 then true else g2 x || (decide (c ≤ x) && decide (x < x0))) = _
                                  by_cases e : x = x0
                                  · subst e; simp [hx1]
                                  · rw [if_neg e]
                                    by_cases hl : x < x0
                                    · simp [hl, show x < x0 + 1 by omega]
                                    · simp [hl, show ¬ x < x0 + 1 by omega]))
                                have HT10 : Hid (Touch (fun b => b = nb) w9 (wr.setCell ⟨nb, 1 + x0, none⟩ (.bool true))) := Lib.hid (Touch.setCell HTq.out (.inl rfl) _)
                                go_wp2_with fail
                                go_roundw
                                case rel => exact ⟨x0 + 1, by go_num, by omega, by omega, HS10, HT10⟩
                                case measure => simp [intOf]; omega
                              · have ql : decide ((x0 : Int) ≤ (d : Int)) = false := decide_eq_false (by omega)
                                have qln : decide (x0 ≤ d) = false := decide_eq_false (by omega)
                                have HS11 : Hid (NodeB wr nb (VS (fun x => g2 x || (decide (c ≤ x) && decide (x ≤ d))))) := Lib.hid (HSq.out.congrSet (g := fun x => g2 x || (decide (c ≤ x) && decide (x ≤ d))) (fun x _ => by
                                  by_cases h1 : c ≤ x
                                  · have : (x < x0) = (x ≤ d) := propext ⟨fun h => by omega, fun h => by omega⟩
                                    simp [this]
                                  · simp [h1]))
                                have HT11 := Lib.hid (HT9.out.trans HTq.out (fun i e => .inr (by rw [HNBE.out]; omega)))
                                go_wp2_with fail
                                refine ⟨⟨false, _, rfl, HS11, HT11, Lib.hid ?_⟩, ?_⟩
                                · rcases HAB.out with ⟨k, hk1, hk2, hrs9, hnx⟩ | ⟨hrx, hrn⟩
                                  · exact .inl ⟨k, f, hk2, hrs9.keep HTq.out (Ne.symm HNB.out), hnx, by have := HF.out; omega, by have := HIP.out; omega⟩
                                  · exact .inr ⟨rfl, hrx.keep HTq.out (Ne.symm HNB.out), hrn⟩
                                · rw [← hwr0]
                                  rw [← hwr0] at HLEFT
                                  rw [HLEFT.out]
                                  rcases HAB.out with ⟨k, hk1, hk2, hrs9, hnx⟩ | ⟨hrx, hrn⟩
                                  · rw [leftC_rr (hrs9.keep HTq.out (Ne.symm HNB.out))]; show s.size + 1 - k < _; omega
                                  · rw [leftC_rx (hrx.keep HTq.out (Ne.symm HNB.out))]; omega
            · have HNONE : Hid (r = none) := Lib.hid (by rw [hstep]; unfold memberP; rw [byteAt_ge (by omega)])
              clear hstep
              go_wp2_with fail
              refine (rend_rr HRSp.out).mono ?_
              rintro e w2 ⟨he, q, hq⟩
              rw [show decide (s.size ≤ PS.pos _) = true from decide_eq_true (by show s.size ≤ i; omega)] at he
              subst he
              have HRS2 := Lib.hid (HRSp.out.drewN q)
              have HT2 := Lib.hid (HTp.out.drewN q)
              rw [← hq] at HRS2 HT2
              clear hq hc1m hc0m hc5m hc5f
              have hc5 := HRS2.out.c5
              obtain ⟨hc5, hc5f⟩ := hc5
              go_wp2_with fail
              go_ret
              rw [HALL.out, HNONE.out]
              exact ⟨nb, rfl, HRS2.out.bad, Touch.setCell HT2.out (.inl rfl) _⟩
      · have HRX := Lib.hid hrx
        have HNONE := Lib.hid hrn
        obtain ⟨i, hi, hci1⟩ := hrx.c1
        obtain ⟨ci, hci⟩ : ∃ c, pk (str s) i = c := ⟨_, rfl⟩
        have hci256 := pk_256 s i
        rw [hci] at hci256
        have HPKX := Lib.hid (rpeek_any br s i wr hrx.c0 hci1.1 hsz hi)
        rw [hci] at HPKX
        have HC1 := Lib.hid hci1
        have HCI := Lib.hid hci
        clear hrx hrn hci hci1 HAB
        go_wp2_with fail
        refine HPKX.out.mono ?_
        rintro e w2 ⟨rfl, q, hq⟩
        have HRX2 := Lib.hid (HRX.out.drewN q)
        have HT2 := Lib.hid (HT.out.drewN q)
        have HS2 := Lib.hid (HS.out.keep ((Touch.refl (fun _ => False) wr).drewN q) id)
        have HC12 := Lib.hid (HC1.out.drewN q)
        rw [← hq] at HRX2 HT2 HS2 HC12
        clear hq
        have HENX := Lib.hid (rend_any br s i w2 HRX2.out.c0 HC12.out.1 hsz hi)
        by_cases h93 : ci = 93
        · have hlt : i < s.size := by
            rcases Nat.lt_or_ge i s.size with h1 | h1
            · exact h1
            · exfalso
              have h2 := HCI.out
              rw [pk_ge h1] at h2
              omega
          have q93 : ((ci : Int) != 93) = false := by rw [h93]; rfl
          rw [show decide (s.size ≤ i) = false from decide_eq_false (by omega)] at HENX
          clear h93
          go_wp2_with fail
          refine HENX.out.mono ?_
          rintro e w3 ⟨rfl, q, hq⟩
          have HRX3 := Lib.hid (HRX2.out.drewN q)
          have HT3 := Lib.hid (HT2.out.drewN q)
          have HSp := Lib.hid (HS2.out.keep ((Touch.refl (fun _ => False) w2).drewN q) id)
          have HC13 := Lib.hid (HC12.out.drewN q)
          rw [← hq] at HRX3 HT3 HSp HC13
          clear hq
          go_wp2_with fail
          go_meet
          exact ⟨g, i, HSp, HT3, hlt, HC13, Lib.hid (.inr ⟨HRX3.out, HNONE.out⟩)⟩
        · have q93 : ((ci : Int) != 93) = true := by rw [bne_iff_ne]; omega
          clear h93
          obtain ⟨eb, heb⟩ : ∃ eb, decide (s.size ≤ i) = eb := ⟨_, rfl⟩
          rw [heb] at HENX
          clear heb
          cases eb with
          | true =>
            go_wp2_with fail
            refine HENX.out.mono ?_
            rintro e w3 ⟨rfl, q, hq⟩
            have HRX3 := Lib.hid (HRX2.out.drewN q)
            have HT3 := Lib.hid (HT2.out.drewN q)
            rw [← hq] at HRX3 HT3
            clear hq
            have hc5 := HRX3.out.c5
            obtain ⟨hc5, hc5f⟩ := hc5
            go_wp2_with fail
            go_ret
            rw [HALL.out, HNONE.out]
            exact ⟨nb, rfl, HRX3.out.setBad, Touch.setCell HT3.out (.inl rfl) _⟩
          | false =>
            go_wp2_with fail
            refine HENX.out.mono ?_
            rintro e w3 ⟨rfl, q, hq⟩
            have HRX3 := Lib.hid (HRX2.out.drewN q)
            have HT3 := Lib.hid (HT2.out.drewN q)
            rw [← hq] at HRX3 HT3
            clear hq
            have hc5 := HRX3.out.c5
            obtain ⟨hc5, hc5f⟩ := hc5
            go_wp2_with fail
            go_ret
            rw [HALL.out, HNONE.out]
            exact ⟨nb, rfl, HRX3.out.setBad, Touch.setCell HT3.out (.inl rfl) _⟩
  case rest =>
    obtain ⟨g, i, HSp, HTp, hilt, HC1, HAB⟩ := hcut
    have hc1 := HC1.out
    obtain ⟨hc1, hc1f⟩ := hc1
    have hwi := IntWalk.i64_in ((i : Int) + 1) (by omega)
    obtain ⟨w5, hw5⟩ : ∃ w5, wc.setCell ⟨br, 1, none⟩ (.int .i64 ((i : Int) + 1)) = w5 := ⟨_, rfl⟩
    have ht : Touch (fun b => b = br) wc w5 := by rw [← hw5]; exact Touch.setCell (Touch.refl (fun b => b = br) wc) (.inl rfl) _
    have HT5 := Lib.hid (HTp.out.then ht)
    have HS5 := Lib.hid (HSp.out.keep ht HNB.out)
    have HAB5 : Hid ((RR br s deep { st with pos := i + 1 } w5 ∧ r = some (g, i) ∧ st.pos ≤ i) ∨ (RX br s w5 ∧ r = none)) := Lib.hid (by
      rw [← hw5]
      rcases HAB.out with ⟨h1, h2, h3⟩ | ⟨h1, h2⟩
      · exact .inl ⟨h1.setPos (i + 1) (by omega), h2, h3⟩
      · exact .inr ⟨h1.setPos (i + 1) (by omega), h2⟩)
    clear ht
    cases neg with
    | false =>
      have HFIN : Hid (∀ wx, Touch (fun b => b = nb) w5 wx → NodeB wx nb (VS g) → ClassD br s deep st w (classAll (str s) st.pos) (.returned (.pointer (some ⟨nb, 0, none⟩))) wx) := Lib.hid (fun wx tx hn => by
        rw [HALL.out]
        have tw : Touch (fun b => b = br) w wx := HT5.out.trans tx (fun i e => .inr (by rw [HNBE.out]; omega))
        rcases HAB5.out with ⟨h1, h2, h3⟩ | ⟨h1, h2⟩
        · rw [h2]
          exact ⟨nb, rfl, Nat.le_of_eq HNBE.out, hn, h1.keep tx (Ne.symm HNB.out), tw, by omega⟩
        · rw [h2]
          exact ⟨nb, rfl, h1.keep tx (Ne.symm HNB.out), tw⟩)
      go_wp2_with fail
      clear hc1 hc1f
      go_ret
      exact HFIN.out _ (Touch.refl _ _) HS5.out
    | true =>
      have HFIN : Hid (∀ wx, Touch (fun b => b = nb) w5 wx → NodeB wx nb (VS (fun x => !g x)) → ClassD br s deep st w (classAll (str s) st.pos) (.returned (.pointer (some ⟨nb, 0, none⟩))) wx) := Lib.hid (fun wx tx hn => by
        rw [HALL.out]
        have tw : Touch (fun b => b = br) w wx := HT5.out.trans tx (fun i e => .inr (by rw [HNBE.out]; omega))
        rcases HAB5.out with ⟨h1, h2, h3⟩ | ⟨h1, h2⟩
        · rw [h2]
          exact ⟨nb, rfl, Nat.le_of_eq HNBE.out, hn, h1.keep tx (Ne.symm HNB.out), tw, by omega⟩
        · rw [h2]
          exact ⟨nb, rfl, h1.keep tx (Ne.symm HNB.out), tw⟩)
      go_wp2_with fail
      clear hw5 hc1 hc1f
      go_loopw [11] (fun q wq => ∃ (j : Nat) (g' : Nat → Bool), q = .int .i64 j ∧ j ≤ 256 ∧ Hid (NodeB wq nb (VS g')) ∧ Hid (∀ x, (x < j → g' x = !g x) ∧ (j ≤ x → g' x = g x)) ∧ Hid (Touch (fun b => b = nb) w5 wq)) (fun q _ => 256 - (intOf q).toNat)
      case atStart => exact ⟨0, g, rfl, by omega, HS5, Lib.hid (fun x => ⟨fun h => by omega, fun _ => rfl⟩), Lib.hid (Touch.refl _ _)⟩
      case round =>
        obtain ⟨j, g', rfl, hj, HSq, HGq, HTq⟩ := hrel
        by_cases hltq : j < 256
        · have hx := HSq.out.cell (i := 1 + j) (by omega)
          rw [nv_set _ hltq, show (VS g').set j = g j from (HGq.out j).2 (Nat.le_refl _)] at hx
          obtain ⟨hx1, hx2⟩ := hx
          have hq256 : (j : Int) < 256 := by omega
          have HS6 := Lib.hid (NodeB.keep (HSq.out.setOne hltq (!g j)) ((Touch.refl (fun _ => False) _).drew) id)
          have t6 : Touch (fun b => b = nb) wr (wr.setCell ⟨nb, 1 + j, none⟩ (.bool (!g j))).drew := (Touch.setCell (Touch.refl (fun b => b = nb) wr) (.inl rfl) _).drew
          have HT6 := Lib.hid (HTq.out.then t6)
          clear t6
          go_wp2_with fail
          go_still_tail 12, (by kernel_rfl)
          change wpList _ _ _ _ _ (World.drew _)
          go_wp2_with fail
          refine ⟨⟨j + 1, _, by go_num, by omega, HS6, Lib.hid ?_, HT6⟩, by simp [intOf]; omega⟩
          intro x
          constructor
          · intro hx
            show (if x = j then !g j else g' x) = !g x
            by_cases e : x = j
            · subst e; rw [if_pos rfl]
            · rw [if_neg e]; exact (HGq.out x).1 (by omega)
          · intro hx
            show (if x = j then !g j else g' x) = g x
            rw [if_neg (by omega)]; exact (HGq.out x).2 (by omega)
        · obtain rfl : j = 256 := by omega
          go_wp2_with fail
          go_ret
          exact HFIN.out _ HTq.out (HSq.out.congrSet (fun x hx => (HGq.out x).1 hx))
end Go.Proofs.YtlgpilcjcomacaaGreat

/-
  The document's escape. (Printed by wip/tools/resc07.py.)
-/
namespace Go.Proofs.YtlgpilcjcomacaaGreat
open Go.RowKit Rx
set_option linter.unusedVariables false

/-- What comes back of reading a node. -/
def NPostD (br : Nat) (s : ByteArray) (deep : Nat) (w : World) : Option (Re × PS) → Ending → World → Prop
  | none, e, w' => ∃ p, e = .returned (.pointer p) ∧ RX br s w' ∧ Touch (fun b => b = br) w w'
  | some (a, st'), e, w' => ∃ p, e = .returned (.pointer (some ⟨p, 0, none⟩)) ∧ RR br s deep st' w' ∧ Touch (fun b => b = br) w w' ∧ (rdD (FP w.heap.size w'.heap.size) w' a).node (.pointer (some ⟨p, 0, none⟩))

theorem ib_assert (c : Nat) (hc : c < 256) : decide (0 ≤ Lib.indexByte ([65, 122, 98, 66] : List UInt8) ((c : Int).toNat.toUInt8)) = decide (c = 65 ∨ c = 122 ∨ c = 98 ∨ c = 66) := by
  have hu : ((c : Int).toNat.toUInt8).toNat = c := by simp; omega
  have hib := ib_contains [65, 122, 98, 66] ((c : Int).toNat.toUInt8)
  rw [hu] at hib
  rw [hib, Bool.eq_iff_iff]
  simp only [List.contains_iff_mem, List.map_cons, List.map_nil, List.mem_cons, List.not_mem_nil, or_false, decide_eq_true_eq]
  exact Iff.rfl

theorem asr_new (w : World) (k c : Nat) (hk : 1 ≤ k) (hk6 : k ≤ 6) (hc : c = asrByte k) (lo hi : Nat) (hl : lo ≤ w.heap.size) (hh : w.heap.size < hi) :
    (rdD (FP lo hi) (w.alloc (.cells ((Tryz.zeroCells97.setIfInBounds 0 (.int .i64 1)).setIfInBounds 257 (.int .u8 (c : Int))) 97)) (.asr k)).node (.pointer (some ⟨w.heap.size, 0, none⟩)) :=
  ⟨{ nv0 1 with what := c }, ⟨w.heap.size, rfl, ⟨hl, hh⟩, NodeB.made w _ _ ((zero_node.kind 1).what c)⟩, rfl, hc, hk, hk6⟩
theorem bref_new (w : World) (m : Nat) (hm : 1 ≤ m) (hm9 : m ≤ 9) (lo hi : Nat) (hl : lo ≤ w.heap.size) (hh : w.heap.size < hi) :
    (rdD (FP lo hi) (w.alloc (.cells ((Tryz.zeroCells97.setIfInBounds 0 (.int .i64 2)).setIfInBounds 258 (.int .i64 (m : Int))) 97)) (.bref m)).node (.pointer (some ⟨w.heap.size, 0, none⟩)) :=
  ⟨{ nv0 2 with num := (m : Int) }, ⟨w.heap.size, rfl, ⟨hl, hh⟩, NodeB.made w _ _ ((zero_node.kind 2).num m)⟩, rfl, rfl, hm, hm9⟩
theorem set_nodeD {w : World} {b : Nat} {f : Nat → Bool} (h : NodeB w b (VS f)) (lo hi : Nat) (hl : lo ≤ b) (hh : b < hi) : (rdD (FP lo hi) w (.set f)).node (.pointer (some ⟨b, 0, none⟩)) :=
  ⟨VS f, ⟨b, rfl, ⟨hl, hh⟩, h⟩, rfl, fun _ _ => rfl⟩

set_option maxRecDepth 100000 in
set_option maxHeartbeats 8000000 in
theorem rescape_any (br : Nat) (s : ByteArray) (deep : Nat) (st : PS) (w : World) (h : RR br s deep st w) :
    Calls Tryz.prog 102 #[.pointer (some ⟨br, 0, none⟩)] w (NPostD br s deep w (escP (str s) st)) := by
  have hsz := h.sz
  have hle := h.le
  have HRS0 := Lib.hid h
  have HT0 : Hid (Touch (fun b => b = br) w w) := Lib.hid (Touch.refl _ _)
  obtain ⟨w0, hw0⟩ : ∃ w0, w0 = w := ⟨_, rfl⟩
  obtain ⟨i, hi⟩ : ∃ i, st.pos = i := ⟨_, rfl⟩
  have HI := Lib.hid hi
  have HPI : Hid (({ st with pos := i } : PS) = st) := Lib.hid (by rw [← HI.out])
  rw [hi] at hle
  rw [← hw0] at HRS0 HT0 ⊢
  rw [← HPI.out] at HRS0
  clear h hw0 hi
  go_enter Tryz.func102, Tryz.ntmps102
  go_wp2_with fail
  refine (rend_rr HRS0.out).mono ?_
  rintro e w1 ⟨he, q, hq⟩
  have HRS1 := Lib.hid (HRS0.out.drewN q)
  have HT1 := Lib.hid (HT0.out.drewN q)
  rw [← hq] at HRS1 HT1
  clear hq
  by_cases hend : s.size ≤ i
  · rw [show decide (s.size ≤ PS.pos _) = true from decide_eq_true hend] at he
    subst he
    have HR : Hid (escP (str s) st = none) := Lib.hid (by unfold escP; rw [HI.out, byteAt_ge hend])
    have hc5 := HRS1.out.c5
    obtain ⟨hc5, hc5f⟩ := hc5
    clear hend
    go_wp2_with fail
    go_ret
    rw [HR.out]
    exact ⟨none, rfl, HRS1.out.bad, Touch.setCell HT1.out (.inl rfl) _⟩
  · rw [show decide (s.size ≤ PS.pos _) = false from decide_eq_false hend] at he
    subst he
    have hlt : i < s.size := by omega
    clear hend
    have HPOS := Lib.hid (byteAt_pk hlt)
    obtain ⟨c, hc⟩ : ∃ c, pk (str s) i = c := ⟨_, rfl⟩
    have hc256 := pk_256 s i
    rw [hc] at hc256 HPOS
    have HC := Lib.hid hc
    clear hc
    have hw1 := IntWalk.i64_in ((i : Int) + 1) (by omega)
    go_wp2_with fail
    refine (rpeek_rr HRS1.out).mono ?_
    rintro e w2 ⟨he, q, hq⟩
    rw [show pk (str s) (PS.pos _) = c from HC.out] at he
    subst he
    have HRS2 := Lib.hid (HRS1.out.drewN q)
    have HT2 := Lib.hid (HT1.out.drewN q)
    rw [← hq] at HRS2 HT2
    clear hq
    have hc1 := HRS2.out.c1
    obtain ⟨hc1, hc1f⟩ := hc1
    simp only at hc1 hc1f
    obtain ⟨w3, hw3⟩ : ∃ w3, w2.setCell ⟨br, 1, none⟩ (.int .i64 ((i : Int) + 1)) = w3 := ⟨_, rfl⟩
    have HRS3 := Lib.hid (HRS2.out.setPos (i + 1) (by show i + 1 ≤ s.size; omega))
    rw [show ((i + 1 : Nat) : Int) = (i : Int) + 1 from by omega, hw3] at HRS3
    have HT3 := Lib.hid (Touch.then HT2.out (Touch.setCell (p := ⟨br, 1, none⟩) (Touch.refl (fun b => b = br) w2) (.inl rfl) (.int .i64 ((i : Int) + 1))))
    rw [hw3] at HT3
    have HIBA := Lib.hid (fun w => Tryz.strings_IndexByte ⟨#[65, 122, 98, 66]⟩ (c : Int) w)
    have hiba := ib_assert c hc256
    obtain ⟨xa, hxa⟩ : ∃ x, Lib.indexByte (⟨#[65, 122, 98, 66]⟩ : ByteArray).data.toList ((c : Int).toNat.toUInt8) = x := ⟨_, rfl⟩
    rw [hxa] at HIBA
    rw [show Lib.indexByte [65, 122, 98, 66] ((c : Int).toNat.toUInt8) = xa from hxa] at hiba
    have HIBK := Lib.hid (fun w => Tryz.strings_IndexByte ⟨#[100, 68, 119, 87, 115, 83]⟩ (c : Int) w)
    have hibk := ib_kinds c hc256
    obtain ⟨xk, hxk⟩ : ∃ x, Lib.indexByte (⟨#[100, 68, 119, 87, 115, 83]⟩ : ByteArray).data.toList ((c : Int).toNat.toUInt8) = x := ⟨_, rfl⟩
    rw [hxk] at HIBK
    rw [show Lib.indexByte [100, 68, 119, 87, 115, 83] ((c : Int).toNat.toUInt8) = xk from hxk] at hibk
    clear hxa hxk
    have HESC : Hid (escP (str s) st = match named c with
        | some f => some (.set f, { st with pos := i + 1 })
        | none =>
          if c = 65 then some (.asr 3, { st with pos := i + 1 })
          else if c = 122 then some (.asr 4, { st with pos := i + 1 })
          else if c = 98 then some (.asr 5, { st with pos := i + 1 })
          else if c = 66 then some (.asr 6, { st with pos := i + 1 })
          else if 49 ≤ c ∧ c ≤ 57 then some (.bref (c - 48), { st with pos := i + 1, refs := max st.refs (c - 48) })
          else match plainP c with
            | none => none
            | some b => some (oneR b, { st with pos := i + 1 })) := Lib.hid (by unfold escP; rw [HI.out, HPOS.out]; rfl)
    by_cases h65 : c = 65
    · subst h65
      have HR : Hid (escP (str s) st = some (.asr 3, { st with pos := i + 1 })) := Lib.hid (HESC.out.trans rfl)
      have HSZ : Hid (w0.heap.size ≤ w3.heap.size) := Lib.hid HT3.out.size
      clear HESC
      replace hiba : decide (0 ≤ xa) = true := hiba.trans (by decide)
      go_wp2_with fail
      clear hw3 hc1 hc1f
      refine (HIBA.out _).mono ?_
      rintro e w9 ⟨rfl, rfl⟩
      go_wp2_with fail
      go_ret
      rw [HR.out]
      have ta : Still w9 (w9.alloc (.cells ((Tryz.zeroCells97.setIfInBounds 0 (.int .i64 1)).setIfInBounds 257 (.int .u8 (65 : Nat))) 97)) := (Touch.refl _ _).alloc _
      exact ⟨w9.heap.size, rfl, HRS3.out.keep ta id, HT3.out.then (ta.mono (fun _ _ e => e.elim)), asr_new w9 3 65 (by decide) (by decide) rfl _ _ HSZ.out (by simp)⟩
    by_cases h122 : c = 122
    · subst h122
      have HR : Hid (escP (str s) st = some (.asr 4, { st with pos := i + 1 })) := Lib.hid (HESC.out.trans rfl)
      have HSZ : Hid (w0.heap.size ≤ w3.heap.size) := Lib.hid HT3.out.size
      clear HESC
      replace hiba : decide (0 ≤ xa) = true := hiba.trans (by decide)
      go_wp2_with fail
      clear hw3 hc1 hc1f
      refine (HIBA.out _).mono ?_
      rintro e w9 ⟨rfl, rfl⟩
      go_wp2_with fail
      go_ret
      rw [HR.out]
      have ta : Still w9 (w9.alloc (.cells ((Tryz.zeroCells97.setIfInBounds 0 (.int .i64 1)).setIfInBounds 257 (.int .u8 (122 : Nat))) 97)) := (Touch.refl _ _).alloc _
      exact ⟨w9.heap.size, rfl, HRS3.out.keep ta id, HT3.out.then (ta.mono (fun _ _ e => e.elim)), asr_new w9 4 122 (by decide) (by decide) rfl _ _ HSZ.out (by simp)⟩
    by_cases h98 : c = 98
    · subst h98
      have HR : Hid (escP (str s) st = some (.asr 5, { st with pos := i + 1 })) := Lib.hid (HESC.out.trans rfl)
      have HSZ : Hid (w0.heap.size ≤ w3.heap.size) := Lib.hid HT3.out.size
      clear HESC
      replace hiba : decide (0 ≤ xa) = true := hiba.trans (by decide)
      go_wp2_with fail
      clear hw3 hc1 hc1f
      refine (HIBA.out _).mono ?_
      rintro e w9 ⟨rfl, rfl⟩
      go_wp2_with fail
      go_ret
      rw [HR.out]
      have ta : Still w9 (w9.alloc (.cells ((Tryz.zeroCells97.setIfInBounds 0 (.int .i64 1)).setIfInBounds 257 (.int .u8 (98 : Nat))) 97)) := (Touch.refl _ _).alloc _
      exact ⟨w9.heap.size, rfl, HRS3.out.keep ta id, HT3.out.then (ta.mono (fun _ _ e => e.elim)), asr_new w9 5 98 (by decide) (by decide) rfl _ _ HSZ.out (by simp)⟩
    by_cases h66 : c = 66
    · subst h66
      have HR : Hid (escP (str s) st = some (.asr 6, { st with pos := i + 1 })) := Lib.hid (HESC.out.trans rfl)
      have HSZ : Hid (w0.heap.size ≤ w3.heap.size) := Lib.hid HT3.out.size
      clear HESC
      replace hiba : decide (0 ≤ xa) = true := hiba.trans (by decide)
      go_wp2_with fail
      clear hw3 hc1 hc1f
      refine (HIBA.out _).mono ?_
      rintro e w9 ⟨rfl, rfl⟩
      go_wp2_with fail
      go_ret
      rw [HR.out]
      have ta : Still w9 (w9.alloc (.cells ((Tryz.zeroCells97.setIfInBounds 0 (.int .i64 1)).setIfInBounds 257 (.int .u8 (66 : Nat))) 97)) := (Touch.refl _ _).alloc _
      exact ⟨w9.heap.size, rfl, HRS3.out.keep ta id, HT3.out.then (ta.mono (fun _ _ e => e.elim)), asr_new w9 6 66 (by decide) (by decide) rfl _ _ HSZ.out (by simp)⟩
    have hibf : decide (0 ≤ xa) = false := by rw [hiba]; exact decide_eq_false (fun h => h.elim h65 (fun h => h.elim h122 (fun h => h.elim h98 h66)))
    have HNA : Hid (c ≠ 65 ∧ c ≠ 122 ∧ c ≠ 98 ∧ c ≠ 66) := Lib.hid ⟨h65, h122, h98, h66⟩
    clear hiba h65 h122 h98 h66
    cases hnm : named c with
    | some f =>
      rw [hnm] at hibk HESC
      simp only [Option.isSome_some] at hibk
      have hd0 := named_ne0 (c := c) (by rw [hnm]; rfl)
      have q0 : ((c : Int) != 0) = true := by rw [bne_iff_ne]; omega
      have HR : Hid (escP (str s) st = some (.set f, { st with pos := i + 1 })) := HESC
      have HNM := Lib.hid hnm
      clear hd0 hnm HESC
      go_wp2_with fail
      clear hw3 hc1 hc1f
      refine (HIBA.out _).mono ?_
      rintro e w9 ⟨rfl, rfl⟩
      go_wp2_with fail
      refine (HIBK.out _).mono ?_
      rintro e w9 ⟨rfl, rfl⟩
      have HN9 := Lib.hid (node_new w9 0)
      have ta : Still w9 (w9.alloc (.cells (Tryz.zeroCells97.setIfInBounds 0 (.int .i64 0)) 97)) := (Touch.refl _ _).alloc _
      have HTA := Lib.hid ta
      have HIS := Lib.hid (ris_any c f HNM.out w9.heap.size (nv0 0) _ HN9.out)
      have HLT9 := Lib.hid HRS3.out.lt
      have HSZ : Hid (w0.heap.size ≤ w9.heap.size) := Lib.hid HT3.out.size
      clear ta
      go_wp2_with fail
      refine HIS.out.mono ?_
      rintro e w6 ⟨rfl, hn, ht⟩
      have HN6 : Hid (NodeB w6 w9.heap.size (VS f)) := Lib.hid (hn.congrSet (g := f) (fun x _ => by show (false || f x) = f x; rfl))
      have HRS6 := Lib.hid ((HRS3.out.keep HTA.out id).keep ht (by have := HLT9.out; omega))
      have HT6 := Lib.hid ((HT3.out.then (HTA.out.mono (S1 := fun b => b = br) (fun _ _ e => e.elim))).trans ht (fun i e => .inr (by have := HSZ.out; omega)))
      have HL6 : Hid (w9.heap.size < w6.heap.size) := Lib.hid hn.lt
      clear hn ht
      go_wp2_with fail
      go_ret
      rw [HR.out]
      exact ⟨w9.heap.size, rfl, HRS6.out, HT6.out, set_nodeD HN6.out _ _ HSZ.out HL6.out⟩
    | none =>
      rw [hnm] at hibk HESC
      simp only [Option.isSome_none] at hibk
      have HE2 : Hid (escP (str s) st = if 49 ≤ c ∧ c ≤ 57 then some (.bref (c - 48), { st with pos := i + 1, refs := max st.refs (c - 48) })
          else match plainP c with
            | none => none
            | some b => some (oneR b, { st with pos := i + 1 })) := Lib.hid (by
        rw [HESC.out]
        show (if c = 65 then _ else _) = _
        rw [if_neg HNA.out.1, if_neg HNA.out.2.1, if_neg HNA.out.2.2.1, if_neg HNA.out.2.2.2])
      clear hnm HESC
      have HSZ : Hid (w0.heap.size ≤ w3.heap.size) := Lib.hid HT3.out.size
      by_cases hdg : 49 ≤ c ∧ c ≤ 57
      · have HR : Hid (escP (str s) st = some (.bref (c - 48), { st with pos := i + 1, refs := max st.refs (c - 48) })) := Lib.hid (by rw [HE2.out, if_pos hdg])
        obtain ⟨hd1, hd2⟩ := hdg
        have q1 : decide ((49 : Int) ≤ (c : Int)) = true := decide_eq_true (by omega)
        have q1n : decide (49 ≤ c) = true := decide_eq_true (by omega)
        have q2 : decide ((c : Int) ≤ 57) = true := decide_eq_true (by omega)
        have q2n : decide (c ≤ 57) = true := decide_eq_true (by omega)
        have hw8 : IntKind.u8.wrap ((c : Int) - 48) = (c : Int) - 48 := by unfold IntKind.wrap; simp [IntKind.signed, IntKind.bits]; omega
        have hw9 := IntWalk.i64_in ((c : Int) - 48) (by omega)
        have hc4 := HRS3.out.c4
        obtain ⟨hc4, hc4f⟩ := hc4
        simp only at hc4
        have hrs := HRS3.out.rs
        simp only at hrs
        have hmx : max (st.refs : Int) ((c : Int) - 48) = ((max st.refs (c - 48) : Nat) : Int) := by omega
        have hcm : ((c - 48 : Nat) : Int) = (c : Int) - 48 := by omega
        clear HE2
        go_wp2_with fail
        clear hw3 hc1 hc1f
        refine (HIBA.out _).mono ?_
        rintro e w9 ⟨rfl, rfl⟩
        go_wp2_with fail
        refine (HIBK.out _).mono ?_
        rintro e w9 ⟨rfl, rfl⟩
        go_wp2_with fail
        go_ret
        rw [HR.out]
        have tb : Touch (fun b => b = br) w9 (w9.setCell ⟨br, 4, none⟩ (.int .i64 ((max st.refs (c - 48) : Nat) : Int))) := Touch.setCell (Touch.refl (fun b => b = br) w9) (.inl rfl) _
        have ta : Still (w9.setCell ⟨br, 4, none⟩ (.int .i64 ((max st.refs (c - 48) : Nat) : Int))) ((w9.setCell ⟨br, 4, none⟩ (.int .i64 ((max st.refs (c - 48) : Nat) : Int))).alloc (.cells ((Tryz.zeroCells97.setIfInBounds 0 (.int .i64 2)).setIfInBounds 258 (.int .i64 ((c - 48 : Nat) : Int))) 97)) := (Touch.refl _ _).alloc _
        have hz : (w9.setCell ⟨br, 4, none⟩ (.int .i64 ((max st.refs (c - 48) : Nat) : Int))).heap.size = w9.heap.size := by simp [World.setCell]
        rw [← hcm]
        refine ⟨w9.heap.size, rfl, (HRS3.out.setRefs (max st.refs (c - 48)) (by omega)).keep ta id, (HT3.out.then tb).then (ta.mono (fun _ _ e => e.elim)), ?_⟩
        have := bref_new (w9.setCell ⟨br, 4, none⟩ (.int .i64 ((max st.refs (c - 48) : Nat) : Int))) (c - 48) (by omega) (by omega) w0.heap.size (w9.heap.size + 1) (by rw [hz]; exact HSZ.out) (by rw [hz]; omega)
        rw [hz] at this
        simpa using this
      · have HE3 : Hid (escP (str s) st = match plainP c with | none => none | some b => some (oneR b, { st with pos := i + 1 })) := Lib.hid (by rw [HE2.out, if_neg hdg])
        have HSI := Lib.hid (rsingle_any c hc256 w3)
        obtain ⟨D1, hD1⟩ : ∃ D1, decide ((49 : Int) ≤ (c : Int)) = D1 := ⟨_, rfl⟩
        have hDn : D1 = true → decide ((c : Int) ≤ 57) = false := fun h => by
          rw [← hD1] at h
          exact decide_eq_false (fun h2 => hdg ⟨by have := of_decide_eq_true h; omega, by omega⟩)
        have HDN := Lib.hid hDn
        clear HE2 hdg hDn
        cases hpl : plainP c with
        | some b =>
          rw [hpl] at HSI HE3
          have hb256 := plain_lt hpl hc256
          have HR : Hid (escP (str s) st = some (oneR b, { st with pos := i + 1 })) := HE3
          clear hpl HE3
          cases D1 with
          | true =>
            have q2 := HDN.out rfl
            have q1n : decide (49 ≤ c) = true := by rw [← hD1]; exact decide_eq_decide.2 (by omega)
            have q2n : decide (c ≤ 57) = false := by rw [← q2]; exact decide_eq_decide.2 (by omega)
            go_wp2_with fail
            clear hw3 hc1 hc1f
            refine (HIBA.out _).mono ?_
            rintro e w9 ⟨rfl, rfl⟩
            go_wp2_with fail
            refine (HIBK.out _).mono ?_
            rintro e w9 ⟨rfl, rfl⟩
            go_wp2_with fail
            refine HSI.out.mono ?_
            rintro e w9 ⟨rfl, rfl⟩
            have hc5 := HRS3.out.c5
            obtain ⟨hc5, hc5f⟩ := hc5
            have HRS4 := Lib.hid HRS3.out.setOk
            have HT4 : Hid (Touch (fun b => b = br) w0 (w9.setCell ⟨br, 5, none⟩ (.bool false))) := Lib.hid (Touch.setCell HT3.out (.inl rfl) _)
            have HON := Lib.hid (rone_any b hb256 (w9.setCell ⟨br, 5, none⟩ (.bool false)))
            have HZZ : Hid ((w9.setCell ⟨br, 5, none⟩ (.bool false)).heap.size = w9.heap.size) := Lib.hid (by simp [World.setCell])
            go_wp2_with fail
            refine HON.out.mono ?_
            rintro e w6 ⟨rfl, ht, hz, hn⟩
            rw [HZZ.out] at hn
            have HT6 := Lib.hid (HT4.out.then (ht.mono (fun _ _ e => e.elim)))
            have HRS6 := Lib.hid (HRS4.out.keep ht id)
            have HN6 := Lib.hid hn
            have HZ6 : Hid (w0.heap.size ≤ w9.heap.size ∧ w9.heap.size < w6.heap.size) := Lib.hid ⟨HSZ.out, hn.lt⟩
            clear ht hz hn
            go_wp2_with fail
            go_ret
            rw [HR.out]
            exact ⟨w9.heap.size, by first | rfl | (rw [HZZ.out]; rfl), HRS6.out, HT6.out, set_nodeD HN6.out _ _ HZ6.out.1 HZ6.out.2⟩
          | false =>
            have q1n : decide (49 ≤ c) = false := by rw [← hD1]; exact decide_eq_decide.2 (by omega)
            go_wp2_with fail
            clear hw3 hc1 hc1f
            refine (HIBA.out _).mono ?_
            rintro e w9 ⟨rfl, rfl⟩
            go_wp2_with fail
            refine (HIBK.out _).mono ?_
            rintro e w9 ⟨rfl, rfl⟩
            go_wp2_with fail
            refine HSI.out.mono ?_
            rintro e w9 ⟨rfl, rfl⟩
            have hc5 := HRS3.out.c5
            obtain ⟨hc5, hc5f⟩ := hc5
            have HRS4 := Lib.hid HRS3.out.setOk
            have HT4 : Hid (Touch (fun b => b = br) w0 (w9.setCell ⟨br, 5, none⟩ (.bool false))) := Lib.hid (Touch.setCell HT3.out (.inl rfl) _)
            have HON := Lib.hid (rone_any b hb256 (w9.setCell ⟨br, 5, none⟩ (.bool false)))
            have HZZ : Hid ((w9.setCell ⟨br, 5, none⟩ (.bool false)).heap.size = w9.heap.size) := Lib.hid (by simp [World.setCell])
            go_wp2_with fail
            refine HON.out.mono ?_
            rintro e w6 ⟨rfl, ht, hz, hn⟩
            rw [HZZ.out] at hn
            have HT6 := Lib.hid (HT4.out.then (ht.mono (fun _ _ e => e.elim)))
            have HRS6 := Lib.hid (HRS4.out.keep ht id)
            have HN6 := Lib.hid hn
            have HZ6 : Hid (w0.heap.size ≤ w9.heap.size ∧ w9.heap.size < w6.heap.size) := Lib.hid ⟨HSZ.out, hn.lt⟩
            clear ht hz hn
            go_wp2_with fail
            go_ret
            rw [HR.out]
            exact ⟨w9.heap.size, by first | rfl | (rw [HZZ.out]; rfl), HRS6.out, HT6.out, set_nodeD HN6.out _ _ HZ6.out.1 HZ6.out.2⟩
        | none =>
          rw [hpl] at HSI HE3
          have HR : Hid (escP (str s) st = none) := HE3
          clear hpl HE3
          cases D1 with
          | true =>
            have q2 := HDN.out rfl
            have q1n : decide (49 ≤ c) = true := by rw [← hD1]; exact decide_eq_decide.2 (by omega)
            have q2n : decide (c ≤ 57) = false := by rw [← q2]; exact decide_eq_decide.2 (by omega)
            go_wp2_with fail
            clear hw3 hc1 hc1f
            refine (HIBA.out _).mono ?_
            rintro e w9 ⟨rfl, rfl⟩
            go_wp2_with fail
            refine (HIBK.out _).mono ?_
            rintro e w9 ⟨rfl, rfl⟩
            go_wp2_with fail
            refine HSI.out.mono ?_
            rintro e w9 ⟨b, hb256, rfl, rfl⟩
            have hc5 := HRS3.out.c5
            obtain ⟨hc5, hc5f⟩ := hc5
            have HRS4 := Lib.hid HRS3.out.bad
            have HT4 : Hid (Touch (fun b => b = br) w0 (w9.setCell ⟨br, 5, none⟩ (.bool true))) := Lib.hid (Touch.setCell HT3.out (.inl rfl) _)
            have HON := Lib.hid (rone_any b hb256 (w9.setCell ⟨br, 5, none⟩ (.bool true)))
            have HZZ : Hid ((w9.setCell ⟨br, 5, none⟩ (.bool true)).heap.size = w9.heap.size) := Lib.hid (by simp [World.setCell])
            go_wp2_with fail
            refine HON.out.mono ?_
            rintro e w6 ⟨rfl, ht, hz, hn⟩
            rw [HZZ.out] at hn
            have HT6 := Lib.hid (HT4.out.then (ht.mono (fun _ _ e => e.elim)))
            have HRS6 := Lib.hid (HRS4.out.keep ht id)
            clear ht hz hn
            go_wp2_with fail
            go_ret
            rw [HR.out]
            exact ⟨_, rfl, HRS6.out, HT6.out⟩
          | false =>
            have q1n : decide (49 ≤ c) = false := by rw [← hD1]; exact decide_eq_decide.2 (by omega)
            go_wp2_with fail
            clear hw3 hc1 hc1f
            refine (HIBA.out _).mono ?_
            rintro e w9 ⟨rfl, rfl⟩
            go_wp2_with fail
            refine (HIBK.out _).mono ?_
            rintro e w9 ⟨rfl, rfl⟩
            go_wp2_with fail
            refine HSI.out.mono ?_
            rintro e w9 ⟨b, hb256, rfl, rfl⟩
            have hc5 := HRS3.out.c5
            obtain ⟨hc5, hc5f⟩ := hc5
            have HRS4 := Lib.hid HRS3.out.bad
            have HT4 : Hid (Touch (fun b => b = br) w0 (w9.setCell ⟨br, 5, none⟩ (.bool true))) := Lib.hid (Touch.setCell HT3.out (.inl rfl) _)
            have HON := Lib.hid (rone_any b hb256 (w9.setCell ⟨br, 5, none⟩ (.bool true)))
            have HZZ : Hid ((w9.setCell ⟨br, 5, none⟩ (.bool true)).heap.size = w9.heap.size) := Lib.hid (by simp [World.setCell])
            go_wp2_with fail
            refine HON.out.mono ?_
            rintro e w6 ⟨rfl, ht, hz, hn⟩
            rw [HZZ.out] at hn
            have HT6 := Lib.hid (HT4.out.then (ht.mono (fun _ _ e => e.elim)))
            have HRS6 := Lib.hid (HRS4.out.keep ht id)
            clear ht hz hn
            go_wp2_with fail
            go_ret
            rw [HR.out]
            exact ⟨_, rfl, HRS6.out, HT6.out⟩
end Go.Proofs.YtlgpilcjcomacaaGreat
