/-
  Texts Pj, Pk, Pl in one.
-/
import Derived.Test.YtlgpilcjcomacaaGreatAg
import Derived.Deep.Cut
import Derived.Deep.AppendLies
import Derived.Deep.CutRange
import Derived.Deep.RegionLaw
/-
  The program's reader: piece.
-/
namespace Go.Proofs.YtlgpilcjcomacaaGreat
open Go.RowKit Rx
set_option linter.unusedVariables false

theorem again_ib (c : Nat) (h : c < 256) : (decide (0 ≤ Lib.indexByte ((⟨#[42, 43, 63, 123]⟩ : ByteArray).data.toList) ((c : Int).toNat.toUInt8))) = again.contains c := by
  have h1 : ∀ c : Fin 256, (decide (0 ≤ Lib.indexByte ((⟨#[42, 43, 63, 123]⟩ : ByteArray).data.toList) (c.val.toUInt8))) = again.contains c.val := by decide +kernel
  exact h1 ⟨c, h⟩

/-- The kind of a node in memory. -/
theorem rd_kind {F : Nat → Prop} {w : World} {a : Re} {b : Nat} (h : (rd F w 9 a).node (.pointer (some ⟨b, 0, none⟩))) : ∃ kd : Int, w.cell? ⟨b, 0, none⟩ = some (.int .i64 kd) ∧ isAsr a = (decide (1 ≤ kd) && decide (kd ≤ 6)) := by
  cases a with
  | set f => obtain ⟨b', sb, num, wa, wl, wc, kid, least, most, how, e, h, -⟩ := h; cases e; exact ⟨0, h.c0, rfl⟩
  | asr k => obtain ⟨b', of, num, wa, wl, wc, kid, least, most, how, e, h, h1, h2⟩ := h; cases e; exact ⟨k, h.c0, by simp [isAsr]; omega⟩
  | bref m => obtain ⟨b', of, wa, wl, wc, kid, least, most, how, e, h, h1, h2⟩ := h; cases e; exact ⟨7, h.c0, rfl⟩
  | nil => exact h.elim
  | cat x r => exact h.elim
  | none => exact h.elim
  | alt x r => exact h.elim
  | grp m x => obtain ⟨b', of, wa, wl, wc, kid, least, most, how, e, h, -⟩ := h; cases e; exact ⟨8, h.c0, rfl⟩
  | look neg x =>
    obtain ⟨b', of, num, wa, wl, wc, kid, least, most, how, e, h, -⟩ := h; cases e
    cases neg with
    | true => exact ⟨10, h.c0, rfl⟩
    | false => exact ⟨9, h.c0, rfl⟩
  | atom x => obtain ⟨b', of, num, wa, wl, wc, kid, least, most, how, e, h, -⟩ := h; cases e; exact ⟨11, h.c0, rfl⟩
  | rep x least most lazy => obtain ⟨b', of, num, wa, wl, wc, kid, e, h, -⟩ := h; cases e; exact ⟨12, h.c0, rfl⟩
  | poss x least most => obtain ⟨b', of, num, wa, wl, wc, kid, e, h, -⟩ := h; cases e; exact ⟨12, h.c0, rfl⟩

theorem rd_in {F : Nat → Prop} {w : World} {a : Re} {b : Nat} (h : (rd F w 9 a).node (.pointer (some ⟨b, 0, none⟩))) : F b := by
  cases a with
  | set f => obtain ⟨b', sb, num, wa, wl, wc, kid, least, most, how, e, h, -⟩ := h; cases e; exact h.fb
  | asr k => obtain ⟨b', of, num, wa, wl, wc, kid, least, most, how, e, h, h1, h2⟩ := h; cases e; exact h.fb
  | bref m => obtain ⟨b', of, wa, wl, wc, kid, least, most, how, e, h, h1, h2⟩ := h; cases e; exact h.fb
  | nil => exact h.elim
  | cat x r => exact h.elim
  | none => exact h.elim
  | alt x r => exact h.elim
  | grp m x => obtain ⟨b', of, wa, wl, wc, kid, least, most, how, e, h, -⟩ := h; cases e; exact h.fb
  | look neg x => obtain ⟨b', of, num, wa, wl, wc, kid, least, most, how, e, h, -⟩ := h; cases e; exact h.fb
  | atom x => obtain ⟨b', of, num, wa, wl, wc, kid, least, most, how, e, h, -⟩ := h; cases e; exact h.fb
  | rep x least most lazy => obtain ⟨b', of, num, wa, wl, wc, kid, e, h, -⟩ := h; cases e; exact h.fb
  | poss x least most => obtain ⟨b', of, num, wa, wl, wc, kid, e, h, -⟩ := h; cases e; exact h.fb

set_option maxRecDepth 100000 in
set_option maxHeartbeats 20000000 in
theorem piece_any (br : Nat) (s : ByteArray) (deep : Nat) (st : PS) (w : World) (W : PS → Option (Re × PS)) (hW : WOK br s (deep + 1) W) (h : RS br s deep st w) (hlt : st.pos < s.size) :
    Calls Tryz.prog 83 #[.pointer (some ⟨br, 0, none⟩)] w (NodePost br s deep st w (pieceP W (str s) st)) := by
  have hsz := h.sz
  obtain ⟨p0, g0, r0⟩ := st
  simp only at hlt
  have HAT := Lib.hid (atom_any br s deep _ w W hW h hlt)
  have HBL : Hid (br < w.heap.size) := Lib.hid h.lt
  clear h hW
  go_enter Tryz.func83, Tryz.ntmps83
  go_wp2_with fail
  refine HAT.out.mono ?_
  intro e w1 hG
  clear HAT
  have hres : pieceP W (str s) ⟨p0, g0, r0⟩ = match atomP W (str s) ⟨p0, g0, r0⟩ with
    | none => none
    | some (a, st1) => match timesP (str s) st1.pos with
      | none => none
      | some (none, j) => some (a, st1)
      | some (some (lo, hi), j) => if isAsr a = true then none else
        if again.contains (pk (str s) (howP (str s) a lo hi { st1 with pos := j }).2.pos) = true then none else some (howP (str s) a lo hi { st1 with pos := j }) := rfl
  cases ha : atomP W (str s) ⟨p0, g0, r0⟩ with
  | none =>
    rw [ha] at hG hres
    obtain ⟨rfl, ht⟩ := hG
    refine ⟨rfl, ?_⟩
    rw [hres]
    exact ⟨rfl, ht⟩
  | some t =>
    obtain ⟨a, p1, g1, r1⟩ := t
    rw [ha] at hG hres
    obtain ⟨b, rfl, hrs, ht, hrd, hpp⟩ := hG
    dsimp only at hres
    have HRS1 := Lib.hid hrs
    have HT1 := Lib.hid ht
    have HRD := Lib.hid hrd
    have HP1 : Hid (p0 < p1) := Lib.hid hpp
    have HRES0 := Lib.hid hres
    clear hrs ht hrd hpp hres ha
    go_wp2_with fail
    refine (times_parse br s deep _ _ HRS1.out).mono ?_
    intro e w2 hG
    have hres := HRES0.out
    clear HRES0
    cases htm : timesP (str s) p1 with
    | none =>
      rw [show timesP (str s) (PS.pos _) = none from htm] at hG
      rw [htm] at hres
      obtain ⟨rfl, ht⟩ := hG
      refine ⟨rfl, ?_⟩
      rw [hres]
      exact ⟨rfl, HT1.out.then ht⟩
    | some t =>
      obtain ⟨o, j⟩ := t
      cases o with
      | none =>
        rw [show timesP (str s) (PS.pos _) = some (none, j) from htm] at hG
        rw [htm] at hres
        obtain ⟨rfl, hrs, ht⟩ := hG
        have HRES := Lib.hid hres
        have HRS2 := Lib.hid hrs
        have HT2 := Lib.hid (HT1.out.then ht)
        have HT12 := Lib.hid ht
        clear hrs ht hres htm
        go_wp2_with fail
        go_ret
        rw [HRES.out]
        exact ⟨b, rfl, HRS2.out, HT2.out, (rd_later HT12.out (fun b e => .inl (by have := HBL.out; omega)) (Nat.le_refl _) HT12.out.size a).1 _ HRD.out, HP1.out⟩
      | some lh =>
        obtain ⟨lo, hi⟩ := lh
        rw [show timesP (str s) (PS.pos _) = some (some (lo, hi), j) from htm] at hG
        rw [htm] at hres
        obtain ⟨rfl, hrs, ht, hlo, hhi1, hhi2, hpj⟩ := hG
        dsimp only at hres
        have HRES0 := Lib.hid hres
        have HRS2 := Lib.hid hrs
        have HT2 := Lib.hid (HT1.out.then ht)
        have HT12 := Lib.hid ht
        have HPJ : Hid (p0 < j) := Lib.hid (by have h1 := HP1.out; have h2 : p1 < j := hpj; omega)
        have HZ2 := Lib.hid HT2.out.size
        have HZ12 := Lib.hid ht.size
        obtain ⟨kd, hk1, hk2⟩ := rd_kind HRD.out
        have hkl : w2.cell? ⟨b, 0, none⟩ = some (.int .i64 kd) := by
          obtain ⟨kd', h1, -⟩ := rd_kind ((rd_later HT12.out (fun b e => .inl (by have := HBL.out; omega)) (Nat.le_refl (w.heap.size)) HT12.out.size a).1 _ HRD.out)
          have hbb : b < w1.heap.size ∧ ¬ b = br := by
            have h2 := HRD.out
            have h3 : FP w.heap.size w1.heap.size b := rd_in h2
            have h4 := HBL.out
            exact ⟨h3.2, by have := h3.1; omega⟩
          exact ht.has hk1 hbb.2
        obtain ⟨ia, hia⟩ : ∃ ia, isAsr a = ia := ⟨_, rfl⟩
        have HIA := Lib.hid hia
        rw [hia] at hk2
        have HK2 := Lib.hid hk2
        clear hrs ht hres htm hpj hk1 hia hk2
        go_upto_region 5 with fail
        go_cut [30] from 11 to 68 (fun t wx => t = .bool ia ∧ wx = w2)
        case first =>
          by_cases k1 : 1 ≤ kd
          · have q1 : decide (1 ≤ kd) = true := by simp; omega
            obtain ⟨v, hv⟩ : ∃ v, decide (kd ≤ 6) = v := ⟨_, rfl⟩
            have HV : Hid (ia = v) := Lib.hid (by rw [HK2.out, q1, hv]; rfl)
            go_wp2_with fail
            go_meet
            exact ⟨congrArg Value.bool HV.out.symm, rfl⟩
          · have q1 : decide (1 ≤ kd) = false := by simp; omega
            have HV : Hid (ia = false) := Lib.hid (by rw [HK2.out, q1]; rfl)
            go_wp2_with fail
            go_meet
            exact ⟨congrArg Value.bool HV.out.symm, rfl⟩
        case rest =>
          obtain ⟨rfl, rfl⟩ := hcut
          have hres := HRES0.out
          rw [HIA.out] at hres
          clear HRES0
          cases ia with
          | true =>
            rw [if_pos rfl] at hres
            have HRES := Lib.hid hres
            clear hres
            go_wp2_with fail
            refine (fail_any _ _).mono ?_
            rintro e w9 ⟨rfl, rfl⟩
            refine ⟨rfl, ?_⟩
            rw [HRES.out]
            exact ⟨rfl, HT2.out⟩
          | false =>
            rw [if_neg (by decide)] at hres
            have HRES := Lib.hid hres
            clear hres hkl
            have HRS3 := Lib.hid (HRS2.out.keep ((Touch.refl (fun _ => False) _).alloc (.cells (nd 12 (.pointer none) 0 none 0 0 (.pointer (some ⟨b, 0, none⟩)) (lo : Int) hi 0) 89)) id)
            have HT3 := Lib.hid (HT2.out.alloc (.cells (nd 12 (.pointer none) 0 none 0 0 (.pointer (some ⟨b, 0, none⟩)) (lo : Int) hi 0) 89))
            have HT13 := Lib.hid (HT12.out.alloc (.cells (nd 12 (.pointer none) 0 none 0 0 (.pointer (some ⟨b, 0, none⟩)) (lo : Int) hi 0) 89))
            obtain ⟨w2, hw2⟩ : ∃ w, w = wc := ⟨_, rfl⟩
            subst hw2
            have HNB3 := Lib.hid (NB.made w2 (nd 12 (.pointer none) 0 none 0 0 (.pointer (some ⟨b, 0, none⟩)) (lo : Int) hi 0))
            obtain ⟨j1, hj1⟩ : ∃ j1, j + 1 = j1 := ⟨_, rfl⟩
            have HJ1 := Lib.hid hj1
            clear hj1
            go_wp2_with fail
            generalize w2.alloc (.cells (nd 12 (.pointer none) 0 none 0 0 (.pointer (some ⟨b, 0, none⟩)) (lo : Int) hi 0) 89) = w3 at *
            cases h1 : tk (str s) j [63] with
            | true =>
              have HHOW : Hid (howP (str s) a lo hi ⟨j, g1, r1⟩ = (.rep a lo hi true, ⟨j1, g1, r1⟩)) := Lib.hid (by unfold howP; rw [if_pos h1, ← HJ1.out])
              have HPOS : Hid (p0 < j1) := Lib.hid (by have h1 := HPJ.out; have h2 := HJ1.out; omega)
              have HTK := Lib.hid h1
              clear h1
              refine (take_yes br s ⟨#[63]⟩ deep _ _ HRS3.out HTK.out (by decide)).mono ?_
              rintro e w4 ⟨rfl, hrs, ht⟩
              have HRS4 := Lib.hid hrs
              have HT4 := Lib.hid (HT3.out.then ht)
              have HT14 := Lib.hid (HT13.out.then ht)
              have HNB4 := Lib.hid (HNB3.out.keep ht (by have := HBL.out; have := HZ2.out; omega))
              have hrs : RS br s deep ⟨j1, g1, r1⟩ w4 := by rw [← HJ1.out]; exact hrs
              have HRS4 := Lib.hid hrs
              clear hrs ht
              have hn7 := HNB4.out.holds (i := 7) rfl
              obtain ⟨hn7, hn7f⟩ := hn7
              obtain ⟨w5, hw5⟩ : ∃ w6, w4.setCell ⟨w2.heap.size, 7, none⟩ (.int .i64 1) = w6 := ⟨_, rfl⟩
              have ht : Touch (fun b => b = w2.heap.size) w4 w5 := by rw [← hw5]; exact Touch.setCell (Touch.refl (fun b => b = w2.heap.size) w4) (.inl rfl) _
              have HNB5 : Hid (NB w5 w2.heap.size (nd 12 (.pointer none) 0 none 0 0 (.pointer (some ⟨b, 0, none⟩)) (lo : Int) hi 1)) := Lib.hid (by rw [← hw5]; exact HNB4.out.put 7 _)
              have HRS5 := Lib.hid (HRS4.out.keep ht (by have := HBL.out; have := HZ2.out; omega))
              have HT5 := Lib.hid (HT4.out.trans ht (fun i e => .inr (by have := HZ2.out; omega)))
              have HT15 := Lib.hid (HT14.out.trans ht (fun i e => .inr (by have := HZ12.out; omega)))
              clear ht
              have hres : pieceP W (str s) ⟨p0, g0, r0⟩ = if again.contains (pk (str s) j1) = true then none else some (.rep a lo hi true, ⟨j1, g1, r1⟩) := by rw [HRES.out, HHOW.out]
              have hc0 := HRS5.out.c0
              have hc1 := HRS5.out.c1.1
              simp only at hc1
              have hpl := HRS5.out.le
              simp only at hpl
              by_cases hin : j1 < s.size
              · have q1 : decide ((j1 : Int) < (s.size : Int)) = true := by simp; omega
                have q1n : decide (j1 < s.size) = true := by simp; omega
                obtain ⟨cq, hcq0⟩ : ∃ cq, pk (str s) j1 = cq := ⟨_, rfl⟩
                have hcq := pk_256 s j1
                rw [hcq0] at hcq hres
                have HPKQ : Hid (∀ w', RS br s deep ⟨j1, g1, r1⟩ w' → Calls Tryz.prog 81 #[.pointer (some ⟨br, 0, none⟩)] w' fun e w'' => e = .returned (.int .u8 (cq : Int)) ∧ ∃ q, w'' = w'.drewN q) := Lib.hid (fun w' h => by rw [← hcq0]; exact peek_any br s deep _ w' h)
                obtain ⟨ib, hib⟩ : ∃ ib, Lib.indexByte ((⟨#[42, 43, 63, 123]⟩ : ByteArray).data.toList) ((cq : Int).toNat.toUInt8) = ib := ⟨_, rfl⟩
                have HIB : Hid (∀ w', Calls Tryz.prog 96 #[.string ⟨#[42, 43, 63, 123]⟩, .int .u8 (cq : Int)] w' fun e w'' => e = .returned (.int .i64 ib) ∧ w'' = w') := Lib.hid (fun w' => by rw [← hib]; exact Tryz.strings_IndexByte _ _ w')
                have hag := again_ib cq hcq
                rw [hib] at hag
                clear hcq0 hib
                cases hcase : again.contains cq with
                | true =>
                  have q2 : decide (0 ≤ ib) = true := hag.trans hcase
                  rw [if_pos hcase] at hres
                  have HRES2 := Lib.hid hres
                  clear hag hcase hres hin
                  go_wp2_with fail
                  go_quiet ((first
                    | (go_at_call 81; exact Calls.quiet_of (HPKQ.out _ (by first | exact HRS5.out | exact HRS5.out.drewN _)))
                    | (go_at_call 96; exact Calls.quiet_of_same (HIB.out _))))
                  have HRSf := Lib.hid (HRS5.out.drewN nq)
                  have HTf := Lib.hid (HT5.out.drewN nq)
                  have HT1f := Lib.hid (HT15.out.drewN nq)
                  have HNBf := Lib.hid (HNB5.out.keep (still_drewN (S := fun _ => False) _ nq) id)
                  generalize w5.drewN nq = wf at *
                  go_wp2_with fail
                  refine (fail_any _ _).mono ?_
                  rintro e w9 ⟨rfl, rfl⟩
                  refine ⟨rfl, ?_⟩
                  rw [HRES2.out]
                  exact ⟨rfl, HTf.out⟩
                | false =>
                  have q2 : decide (0 ≤ ib) = false := hag.trans hcase
                  rw [if_neg (by rw [hcase]; decide)] at hres
                  have HRES2 := Lib.hid hres
                  clear hag hcase hres hin
                  go_wp2_with fail
                  go_quiet ((first
                    | (go_at_call 81; exact Calls.quiet_of (HPKQ.out _ (by first | exact HRS5.out | exact HRS5.out.drewN _)))
                    | (go_at_call 96; exact Calls.quiet_of_same (HIB.out _))))
                  have HRSf := Lib.hid (HRS5.out.drewN nq)
                  have HTf := Lib.hid (HT5.out.drewN nq)
                  have HT1f := Lib.hid (HT15.out.drewN nq)
                  have HNBf := Lib.hid (HNB5.out.keep (still_drewN (S := fun _ => False) _ nq) id)
                  generalize w5.drewN nq = wf at *
                  go_wp2_with fail
                  go_ret
                  rw [HRES2.out]
                  have hl := HNBf.out.lt
                  exact ⟨w2.heap.size, rfl, HRSf.out, HTf.out, ⟨w2.heap.size, _, _, _, _, _, _, rfl, HNBf.out.node ⟨HZ2.out, hl⟩, hlo, hhi1, hhi2, (rd_later HT1f.out (fun b e => .inl (by have := HBL.out; omega)) (Nat.le_refl _) HT1f.out.size a).1 _ HRD.out⟩, HPOS.out⟩
              · have q1 : decide ((j1 : Int) < (s.size : Int)) = false := by simp; omega
                have q1n : decide (j1 < s.size) = false := by simp; omega
                rw [pk_ge (by omega), if_neg (by decide)] at hres
                have HRES2 := Lib.hid hres
                clear hres hin
                go_wp2_with fail
                go_quiet ((first
                  | (go_at_call 81; exact Calls.quiet_of (HPKQ.out _ (by first | exact HRS5.out | exact HRS5.out.drewN _)))
                  | (go_at_call 96; exact Calls.quiet_of_same (HIB.out _))))
                have HRSf := Lib.hid (HRS5.out.drewN nq)
                have HTf := Lib.hid (HT5.out.drewN nq)
                have HT1f := Lib.hid (HT15.out.drewN nq)
                have HNBf := Lib.hid (HNB5.out.keep (still_drewN (S := fun _ => False) _ nq) id)
                generalize w5.drewN nq = wf at *
                go_wp2_with fail
                go_ret
                rw [HRES2.out]
                have hl := HNBf.out.lt
                exact ⟨w2.heap.size, rfl, HRSf.out, HTf.out, ⟨w2.heap.size, _, _, _, _, _, _, rfl, HNBf.out.node ⟨HZ2.out, hl⟩, hlo, hhi1, hhi2, (rd_later HT1f.out (fun b e => .inl (by have := HBL.out; omega)) (Nat.le_refl _) HT1f.out.size a).1 _ HRD.out⟩, HPOS.out⟩
            | false =>
              cases h2 : tk (str s) j [43] with
              | true =>
                have HHOW : Hid (howP (str s) a lo hi ⟨j, g1, r1⟩ = (.poss a lo hi, ⟨j1, g1, r1⟩)) := Lib.hid (by unfold howP; rw [if_neg (by rw [h1]; decide), if_pos h2, ← HJ1.out])
                have HPOS : Hid (p0 < j1) := Lib.hid (by have h1 := HPJ.out; have h2 := HJ1.out; omega)
                have HTK := Lib.hid h1
                have HTK2 := Lib.hid h2
                clear h1 h2
                refine (tk_no (t := ⟨#[63]⟩) HRS3.out HTK.out).mono ?_
                rintro e w3b ⟨rfl, hrs, ht⟩
                have HRS3b := Lib.hid hrs
                have HT3b := Lib.hid (HT3.out.then ht)
                have HT13b := Lib.hid (HT13.out.then ht)
                have HNB3b := Lib.hid (HNB3.out.keep ht (by have := HBL.out; have := HZ2.out; omega))
                clear hrs ht HTK
                go_wp2_with fail
                have HTK := HTK2
                refine (take_yes br s ⟨#[43]⟩ deep _ _ HRS3b.out HTK.out (by decide)).mono ?_
                rintro e w4 ⟨rfl, hrs, ht⟩
                have HRS4 := Lib.hid hrs
                have HT4 := Lib.hid (HT3b.out.then ht)
                have HT14 := Lib.hid (HT13b.out.then ht)
                have HNB4 := Lib.hid (HNB3b.out.keep ht (by have := HBL.out; have := HZ2.out; omega))
                have hrs : RS br s deep ⟨j1, g1, r1⟩ w4 := by rw [← HJ1.out]; exact hrs
                have HRS4 := Lib.hid hrs
                clear hrs ht
                have hn7 := HNB4.out.holds (i := 7) rfl
                obtain ⟨hn7, hn7f⟩ := hn7
                obtain ⟨w5, hw5⟩ : ∃ w6, w4.setCell ⟨w2.heap.size, 7, none⟩ (.int .i64 2) = w6 := ⟨_, rfl⟩
                have ht : Touch (fun b => b = w2.heap.size) w4 w5 := by rw [← hw5]; exact Touch.setCell (Touch.refl (fun b => b = w2.heap.size) w4) (.inl rfl) _
                have HNB5 : Hid (NB w5 w2.heap.size (nd 12 (.pointer none) 0 none 0 0 (.pointer (some ⟨b, 0, none⟩)) (lo : Int) hi 2)) := Lib.hid (by rw [← hw5]; exact HNB4.out.put 7 _)
                have HRS5 := Lib.hid (HRS4.out.keep ht (by have := HBL.out; have := HZ2.out; omega))
                have HT5 := Lib.hid (HT4.out.trans ht (fun i e => .inr (by have := HZ2.out; omega)))
                have HT15 := Lib.hid (HT14.out.trans ht (fun i e => .inr (by have := HZ12.out; omega)))
                clear ht
                have hres : pieceP W (str s) ⟨p0, g0, r0⟩ = if again.contains (pk (str s) j1) = true then none else some (.poss a lo hi, ⟨j1, g1, r1⟩) := by rw [HRES.out, HHOW.out]
                have hc0 := HRS5.out.c0
                have hc1 := HRS5.out.c1.1
                simp only at hc1
                have hpl := HRS5.out.le
                simp only at hpl
                by_cases hin : j1 < s.size
                · have q1 : decide ((j1 : Int) < (s.size : Int)) = true := by simp; omega
                  have q1n : decide (j1 < s.size) = true := by simp; omega
                  obtain ⟨cq, hcq0⟩ : ∃ cq, pk (str s) j1 = cq := ⟨_, rfl⟩
                  have hcq := pk_256 s j1
                  rw [hcq0] at hcq hres
                  have HPKQ : Hid (∀ w', RS br s deep ⟨j1, g1, r1⟩ w' → Calls Tryz.prog 81 #[.pointer (some ⟨br, 0, none⟩)] w' fun e w'' => e = .returned (.int .u8 (cq : Int)) ∧ ∃ q, w'' = w'.drewN q) := Lib.hid (fun w' h => by rw [← hcq0]; exact peek_any br s deep _ w' h)
                  obtain ⟨ib, hib⟩ : ∃ ib, Lib.indexByte ((⟨#[42, 43, 63, 123]⟩ : ByteArray).data.toList) ((cq : Int).toNat.toUInt8) = ib := ⟨_, rfl⟩
                  have HIB : Hid (∀ w', Calls Tryz.prog 96 #[.string ⟨#[42, 43, 63, 123]⟩, .int .u8 (cq : Int)] w' fun e w'' => e = .returned (.int .i64 ib) ∧ w'' = w') := Lib.hid (fun w' => by rw [← hib]; exact Tryz.strings_IndexByte _ _ w')
                  have hag := again_ib cq hcq
                  rw [hib] at hag
                  clear hcq0 hib
                  cases hcase : again.contains cq with
                  | true =>
                    have q2 : decide (0 ≤ ib) = true := hag.trans hcase
                    rw [if_pos hcase] at hres
                    have HRES2 := Lib.hid hres
                    clear hag hcase hres hin
                    go_wp2_with fail
                    go_quiet ((first
                      | (go_at_call 81; exact Calls.quiet_of (HPKQ.out _ (by first | exact HRS5.out | exact HRS5.out.drewN _)))
                      | (go_at_call 96; exact Calls.quiet_of_same (HIB.out _))))
                    have HRSf := Lib.hid (HRS5.out.drewN nq)
                    have HTf := Lib.hid (HT5.out.drewN nq)
                    have HT1f := Lib.hid (HT15.out.drewN nq)
                    have HNBf := Lib.hid (HNB5.out.keep (still_drewN (S := fun _ => False) _ nq) id)
                    generalize w5.drewN nq = wf at *
                    go_wp2_with fail
                    refine (fail_any _ _).mono ?_
                    rintro e w9 ⟨rfl, rfl⟩
                    refine ⟨rfl, ?_⟩
                    rw [HRES2.out]
                    exact ⟨rfl, HTf.out⟩
                  | false =>
                    have q2 : decide (0 ≤ ib) = false := hag.trans hcase
                    rw [if_neg (by rw [hcase]; decide)] at hres
                    have HRES2 := Lib.hid hres
                    clear hag hcase hres hin
                    go_wp2_with fail
                    go_quiet ((first
                      | (go_at_call 81; exact Calls.quiet_of (HPKQ.out _ (by first | exact HRS5.out | exact HRS5.out.drewN _)))
                      | (go_at_call 96; exact Calls.quiet_of_same (HIB.out _))))
                    have HRSf := Lib.hid (HRS5.out.drewN nq)
                    have HTf := Lib.hid (HT5.out.drewN nq)
                    have HT1f := Lib.hid (HT15.out.drewN nq)
                    have HNBf := Lib.hid (HNB5.out.keep (still_drewN (S := fun _ => False) _ nq) id)
                    generalize w5.drewN nq = wf at *
                    go_wp2_with fail
                    go_ret
                    rw [HRES2.out]
                    have hl := HNBf.out.lt
                    exact ⟨w2.heap.size, rfl, HRSf.out, HTf.out, ⟨w2.heap.size, _, _, _, _, _, _, rfl, HNBf.out.node ⟨HZ2.out, hl⟩, hlo, hhi1, hhi2, (rd_later HT1f.out (fun b e => .inl (by have := HBL.out; omega)) (Nat.le_refl _) HT1f.out.size a).1 _ HRD.out⟩, HPOS.out⟩
                · have q1 : decide ((j1 : Int) < (s.size : Int)) = false := by simp; omega
                  have q1n : decide (j1 < s.size) = false := by simp; omega
                  rw [pk_ge (by omega), if_neg (by decide)] at hres
                  have HRES2 := Lib.hid hres
                  clear hres hin
                  go_wp2_with fail
                  go_quiet ((first
                    | (go_at_call 81; exact Calls.quiet_of (HPKQ.out _ (by first | exact HRS5.out | exact HRS5.out.drewN _)))
                    | (go_at_call 96; exact Calls.quiet_of_same (HIB.out _))))
                  have HRSf := Lib.hid (HRS5.out.drewN nq)
                  have HTf := Lib.hid (HT5.out.drewN nq)
                  have HT1f := Lib.hid (HT15.out.drewN nq)
                  have HNBf := Lib.hid (HNB5.out.keep (still_drewN (S := fun _ => False) _ nq) id)
                  generalize w5.drewN nq = wf at *
                  go_wp2_with fail
                  go_ret
                  rw [HRES2.out]
                  have hl := HNBf.out.lt
                  exact ⟨w2.heap.size, rfl, HRSf.out, HTf.out, ⟨w2.heap.size, _, _, _, _, _, _, rfl, HNBf.out.node ⟨HZ2.out, hl⟩, hlo, hhi1, hhi2, (rd_later HT1f.out (fun b e => .inl (by have := HBL.out; omega)) (Nat.le_refl _) HT1f.out.size a).1 _ HRD.out⟩, HPOS.out⟩
              | false =>
                have HHOW : Hid (howP (str s) a lo hi ⟨j, g1, r1⟩ = (.rep a lo hi false, ⟨j, g1, r1⟩)) := Lib.hid (by unfold howP; rw [if_neg (by rw [h1]; decide), if_neg (by rw [h2]; decide)])
                have HPOS := HPJ
                have HTK := Lib.hid h1
                have HTK2 := Lib.hid h2
                clear h1 h2
                refine (tk_no (t := ⟨#[63]⟩) HRS3.out HTK.out).mono ?_
                rintro e w3b ⟨rfl, hrs, ht⟩
                have HRS3b := Lib.hid hrs
                have HT3b := Lib.hid (HT3.out.then ht)
                have HT13b := Lib.hid (HT13.out.then ht)
                have HNB3b := Lib.hid (HNB3.out.keep ht (by have := HBL.out; have := HZ2.out; omega))
                clear hrs ht HTK
                go_wp2_with fail
                have HTK := HTK2
                refine (tk_no (t := ⟨#[43]⟩) HRS3b.out HTK.out).mono ?_
                rintro e w5 ⟨rfl, hrs, ht⟩
                have HRS5 := Lib.hid hrs
                have HT5 := Lib.hid (HT3b.out.then ht)
                have HT15 := Lib.hid (HT13b.out.then ht)
                have HNB5 := Lib.hid (HNB3b.out.keep ht (by have := HBL.out; have := HZ2.out; omega))
                clear hrs ht HTK
                have hres : pieceP W (str s) ⟨p0, g0, r0⟩ = if again.contains (pk (str s) j) = true then none else some (.rep a lo hi false, ⟨j, g1, r1⟩) := by rw [HRES.out, HHOW.out]
                have hc0 := HRS5.out.c0
                have hc1 := HRS5.out.c1.1
                simp only at hc1
                have hpl := HRS5.out.le
                simp only at hpl
                by_cases hin : j < s.size
                · have q1 : decide ((j : Int) < (s.size : Int)) = true := by simp; omega
                  have q1n : decide (j < s.size) = true := by simp; omega
                  obtain ⟨cq, hcq0⟩ : ∃ cq, pk (str s) j = cq := ⟨_, rfl⟩
                  have hcq := pk_256 s j
                  rw [hcq0] at hcq hres
                  have HPKQ : Hid (∀ w', RS br s deep ⟨j, g1, r1⟩ w' → Calls Tryz.prog 81 #[.pointer (some ⟨br, 0, none⟩)] w' fun e w'' => e = .returned (.int .u8 (cq : Int)) ∧ ∃ q, w'' = w'.drewN q) := Lib.hid (fun w' h => by rw [← hcq0]; exact peek_any br s deep _ w' h)
                  obtain ⟨ib, hib⟩ : ∃ ib, Lib.indexByte ((⟨#[42, 43, 63, 123]⟩ : ByteArray).data.toList) ((cq : Int).toNat.toUInt8) = ib := ⟨_, rfl⟩
                  have HIB : Hid (∀ w', Calls Tryz.prog 96 #[.string ⟨#[42, 43, 63, 123]⟩, .int .u8 (cq : Int)] w' fun e w'' => e = .returned (.int .i64 ib) ∧ w'' = w') := Lib.hid (fun w' => by rw [← hib]; exact Tryz.strings_IndexByte _ _ w')
                  have hag := again_ib cq hcq
                  rw [hib] at hag
                  clear hcq0 hib
                  cases hcase : again.contains cq with
                  | true =>
                    have q2 : decide (0 ≤ ib) = true := hag.trans hcase
                    rw [if_pos hcase] at hres
                    have HRES2 := Lib.hid hres
                    clear hag hcase hres hin
                    go_wp2_with fail
                    go_quiet ((first
                      | (go_at_call 81; exact Calls.quiet_of (HPKQ.out _ (by first | exact HRS5.out | exact HRS5.out.drewN _)))
                      | (go_at_call 96; exact Calls.quiet_of_same (HIB.out _))))
                    have HRSf := Lib.hid (HRS5.out.drewN nq)
                    have HTf := Lib.hid (HT5.out.drewN nq)
                    have HT1f := Lib.hid (HT15.out.drewN nq)
                    have HNBf := Lib.hid (HNB5.out.keep (still_drewN (S := fun _ => False) _ nq) id)
                    generalize w5.drewN nq = wf at *
                    go_wp2_with fail
                    refine (fail_any _ _).mono ?_
                    rintro e w9 ⟨rfl, rfl⟩
                    refine ⟨rfl, ?_⟩
                    rw [HRES2.out]
                    exact ⟨rfl, HTf.out⟩
                  | false =>
                    have q2 : decide (0 ≤ ib) = false := hag.trans hcase
                    rw [if_neg (by rw [hcase]; decide)] at hres
                    have HRES2 := Lib.hid hres
                    clear hag hcase hres hin
                    go_wp2_with fail
                    go_quiet ((first
                      | (go_at_call 81; exact Calls.quiet_of (HPKQ.out _ (by first | exact HRS5.out | exact HRS5.out.drewN _)))
                      | (go_at_call 96; exact Calls.quiet_of_same (HIB.out _))))
                    have HRSf := Lib.hid (HRS5.out.drewN nq)
                    have HTf := Lib.hid (HT5.out.drewN nq)
                    have HT1f := Lib.hid (HT15.out.drewN nq)
                    have HNBf := Lib.hid (HNB5.out.keep (still_drewN (S := fun _ => False) _ nq) id)
                    generalize w5.drewN nq = wf at *
                    go_wp2_with fail
                    go_ret
                    rw [HRES2.out]
                    have hl := HNBf.out.lt
                    exact ⟨w2.heap.size, rfl, HRSf.out, HTf.out, ⟨w2.heap.size, _, _, _, _, _, _, rfl, HNBf.out.node ⟨HZ2.out, hl⟩, hlo, hhi1, hhi2, (rd_later HT1f.out (fun b e => .inl (by have := HBL.out; omega)) (Nat.le_refl _) HT1f.out.size a).1 _ HRD.out⟩, HPOS.out⟩
                · have q1 : decide ((j : Int) < (s.size : Int)) = false := by simp; omega
                  have q1n : decide (j < s.size) = false := by simp; omega
                  rw [pk_ge (by omega), if_neg (by decide)] at hres
                  have HRES2 := Lib.hid hres
                  clear hres hin
                  go_wp2_with fail
                  go_quiet ((first
                    | (go_at_call 81; exact Calls.quiet_of (HPKQ.out _ (by first | exact HRS5.out | exact HRS5.out.drewN _)))
                    | (go_at_call 96; exact Calls.quiet_of_same (HIB.out _))))
                  have HRSf := Lib.hid (HRS5.out.drewN nq)
                  have HTf := Lib.hid (HT5.out.drewN nq)
                  have HT1f := Lib.hid (HT15.out.drewN nq)
                  have HNBf := Lib.hid (HNB5.out.keep (still_drewN (S := fun _ => False) _ nq) id)
                  generalize w5.drewN nq = wf at *
                  go_wp2_with fail
                  go_ret
                  rw [HRES2.out]
                  have hl := HNBf.out.lt
                  exact ⟨w2.heap.size, rfl, HRSf.out, HTf.out, ⟨w2.heap.size, _, _, _, _, _, _, rfl, HNBf.out.node ⟨HZ2.out, hl⟩, hlo, hhi1, hhi2, (rd_later HT1f.out (fun b e => .inl (by have := HBL.out; omega)) (Nat.le_refl _) HT1f.out.size a).1 _ HRD.out⟩, HPOS.out⟩
end Go.Proofs.YtlgpilcjcomacaaGreat

/-
  Alternatives under way in memory: the rows that are over, the row under way, the slice that holds them.
-/
namespace Go.Proofs.YtlgpilcjcomacaaGreat
open Go.RowKit Rx
set_option linter.unusedVariables false

abbrev TN : TypeId := 60
abbrev TR : TypeId := 90
abbrev TW : TypeId := 87

def NodesIn (F : Nat → Prop) (w : World) : List Re → List Value → Prop
  | [], [] => True
  | a :: l, p :: ps => (rd F w 9 a).node p ∧ NodesIn F w l ps
  | _, _ => False
def RowsIn (F : Nat → Prop) (w : World) : List (List Re) → List Value → Prop
  | [], [] => True
  | r :: rs, v :: vs => (∃ ra rl rc, v = .slice ra rl rc ∧ rl ≤ rc ∧ (rd F w 9 (toRow r)).row ra rl) ∧ RowsIn F w rs vs
  | _, _ => False

theorem NodesIn.mono {F F' : Nat → Prop} {w w' : World} (hF : ∀ b, F b → F' b) (hc : ∀ b o v, F b → w.cell? ⟨b, o, none⟩ = some v → w'.cell? ⟨b, o, none⟩ = some v) : ∀ {l : List Re} {ps : List Value}, NodesIn F w l ps → NodesIn F' w' l ps
  | [], [], _ => trivial
  | _ :: _, _ :: _, h => ⟨(rd_mono hF hc _).1 _ h.1, NodesIn.mono hF hc h.2⟩
  | [], _ :: _, h => h.elim
  | _ :: _, [], h => h.elim
theorem RowsIn.mono {F F' : Nat → Prop} {w w' : World} (hF : ∀ b, F b → F' b) (hc : ∀ b o v, F b → w.cell? ⟨b, o, none⟩ = some v → w'.cell? ⟨b, o, none⟩ = some v) : ∀ {l : List (List Re)} {ps : List Value}, RowsIn F w l ps → RowsIn F' w' l ps
  | [], [], _ => trivial
  | _ :: _, _ :: _, h => by
    obtain ⟨⟨ra, rl, rc, h1, h2, h3⟩, h4⟩ := h
    exact ⟨⟨ra, rl, rc, h1, h2, (rd_mono hF hc _).2.1 _ _ h3⟩, RowsIn.mono hF hc h4⟩
  | [], _ :: _, h => h.elim
  | _ :: _, [], h => h.elim
theorem NodesIn.len {F : Nat → Prop} {w : World} : ∀ {l : List Re} {ps : List Value}, NodesIn F w l ps → ps.length = l.length
  | [], [], _ => rfl
  | _ :: _, _ :: _, h => by rw [List.length_cons, List.length_cons, NodesIn.len h.2]
  | [], _ :: _, h => h.elim
  | _ :: _, [], h => h.elim
theorem RowsIn.len {F : Nat → Prop} {w : World} : ∀ {l : List (List Re)} {ps : List Value}, RowsIn F w l ps → ps.length = l.length
  | [], [], _ => rfl
  | _ :: _, _ :: _, h => by rw [List.length_cons, List.length_cons, RowsIn.len h.2]
  | [], _ :: _, h => h.elim
  | _ :: _, [], h => h.elim
theorem NodesIn.snoc {F : Nat → Prop} {w : World} {a : Re} {p : Value} (ha : (rd F w 9 a).node p) : ∀ {l : List Re} {ps : List Value}, NodesIn F w l ps → NodesIn F w (l ++ [a]) (ps ++ [p])
  | [], [], _ => ⟨ha, trivial⟩
  | _ :: _, _ :: _, h => ⟨h.1, NodesIn.snoc ha h.2⟩
  | [], _ :: _, h => h.elim
  | _ :: _, [], h => h.elim
theorem RowsIn.snoc {F : Nat → Prop} {w : World} {r : List Re} {v : Value} (hv : ∃ ra rl rc, v = .slice ra rl rc ∧ rl ≤ rc ∧ (rd F w 9 (toRow r)).row ra rl) : ∀ {l : List (List Re)} {ps : List Value}, RowsIn F w l ps → RowsIn F w (l ++ [r]) (ps ++ [v])
  | [], [], _ => ⟨hv, trivial⟩
  | _ :: _, _ :: _, h => ⟨h.1, RowsIn.snoc hv h.2⟩
  | [], _ :: _, h => h.elim
  | _ :: _, [], h => h.elim

theorem row_aux {F : Nat → Prop} {w : World} {g : Nat} (hg : F g) : ∀ (l : List Re) (ps : List Value) (o : Nat), (∀ j u, ps[j]? = some u → w.cell? ⟨g, o + j, none⟩ = some u) → NodesIn F w l ps → l.length ≤ 1000 → (rd F w 9 (toRow l)).row (some ⟨g, o, none⟩) l.length
  | [], [], _, _, _, _ => rfl
  | a :: l, p :: ps, o, hc, h, hl => by
    refine ⟨g, o, p, rfl, hg, by rw [List.length_cons]; omega, hl, hc 0 p rfl, h.1, ?_⟩
    rw [show (a :: l).length - 1 = l.length by rw [List.length_cons]; omega]
    exact row_aux hg l ps (o + 1) (fun j u hu => by rw [show o + 1 + j = o + (j + 1) by omega]; exact hc (j + 1) u hu) h.2 (by rw [List.length_cons] at hl; omega)
  | [], _ :: _, _, _, h, _ => h.elim
  | _ :: _, [], _, _, h, _ => h.elim
theorem ways_aux {F : Nat → Prop} {w : World} {g : Nat} (hg : F g) : ∀ (l : List (List Re)) (ps : List Value) (o : Nat), (∀ j u, ps[j]? = some u → w.cell? ⟨g, o + j, none⟩ = some u) → RowsIn F w l ps → l.length ≤ 1000 → (rd F w 9 (toWays l)).ways (some ⟨g, o, none⟩) l.length
  | [], [], _, _, _, _ => rfl
  | a :: l, p :: ps, o, hc, h, hl => by
    obtain ⟨⟨ra, rl, rc, rfl, h2, h3⟩, h4⟩ := h
    refine ⟨g, o, ra, rl, rc, rfl, hg, by rw [List.length_cons]; omega, hl, h2, hc 0 _ rfl, h3, ?_⟩
    rw [show (a :: l).length - 1 = l.length by rw [List.length_cons]; omega]
    exact ways_aux hg l ps (o + 1) (fun j u hu => by rw [show o + 1 + j = o + (j + 1) by omega]; exact hc (j + 1) u hu) h4 (by rw [List.length_cons] at hl; omega)
  | [], _ :: _, _, _, h, _ => h.elim
  | _ :: _, [], _, _, h, _ => h.elim

/-- The cells of a row that is owned. -/
theorem owns_cells {w : World} {lo : Nat} {e : TypeId} {v : Value} {n : Nat} {xs : List Value} (h : w.ownsRow lo e 1 v n xs) {g : Nat} (hg : v.ownBlock = some g) : ∀ j u, xs[j]? = some u → w.cell? ⟨g, 0 + j, none⟩ = some u := fun j u hu => by
  have h1 := h.cells hg j u hu
  by_cases hj : j = 0
  · subst hj; simpa [Addr.add] using h1
  · simpa [Addr.add, hj] using h1

/-- A row that is owned, read as a tree. -/
theorem row_of {F F' : Nat → Prop} {w : World} {lo : Nat} {y : Value} {n : Nat} {cur : List Re} {cvs : List Value} (ho : w.ownsRow lo TN 1 y n cvs) (h : NodesIn F w cur cvs) (hF : ∀ b, F b → F' b) (hy : ∀ g, y.ownBlock = some g → F' g) (hl : cur.length ≤ 1000) :
    ∃ ra rl rc, y = .slice ra rl rc ∧ rl ≤ rc ∧ (rd F' w 9 (toRow cur)).row ra rl := by
  have h' := h.mono hF (fun _ _ _ _ hc => hc)
  have hn : n = cur.length := by have h1 := ho.1; have h2 := h.len; omega
  rcases ho.2 with ⟨rfl, h0⟩ | ⟨g, cap, c, rfl, hb, hgg, hc, -⟩
  · refine ⟨none, 0, 0, rfl, Nat.le_refl _, ?_⟩
    cases cur with
    | nil => exact rfl
    | cons a l => rw [List.length_cons] at hn; omega
  · refine ⟨some ⟨g, 0, none⟩, n, cap, rfl, hc, ?_⟩
    rw [hn]
    exact row_aux (hy g rfl) cur cvs 0 (owns_cells ho rfl) h' hl

/-- The blocks of what is over: not those that are written still. -/
def FW (lo : Nat) (x y : Value) (w : World) : Nat → Prop := fun b => lo ≤ b ∧ b < w.heap.size ∧ x.ownBlock ≠ some b ∧ y.ownBlock ≠ some b

structure WS (lo : Nat) (rows : List (List Re)) (cur : List Re) (x y : Value) (ovs cvs : List Value) (w : World) : Prop where
  ox : w.ownsRow lo TR 1 x (rows.length + 1) (ovs ++ [y])
  oy : w.ownsRow lo TN 1 y cur.length cvs
  rs : RowsIn (FW lo x y w) w rows ovs
  ns : NodesIn (FW lo x y w) w cur cvs
  ne : ∀ g, x.ownBlock = some g → y.ownBlock ≠ some g

theorem owns_keep {S : Nat → Prop} {w w' : World} {lo : Nat} {e : TypeId} {v : Value} {n : Nat} {xs : List Value} (h : w.ownsRow lo e 1 v n xs) (t : Touch S w w') (hS : ∀ b, S b → v.ownBlock ≠ some b) : w'.ownsRow lo e 1 v n xs := by
  refine ⟨h.1, ?_⟩
  rcases h.2 with h0 | ⟨g, cap, c, rfl, hb, hgg, hr⟩
  · exact .inl h0
  · exact .inr ⟨g, cap, c, rfl, hb, (t.block g (Array.getElem?_eq_some_iff.1 hgg).1 (fun e => hS g e rfl)).trans hgg, hr⟩

/-- Nothing of it is touched. -/
theorem WS.keep {S : Nat → Prop} {lo : Nat} {rows : List (List Re)} {cur : List Re} {x y : Value} {ovs cvs : List Value} {w w' : World} (h : WS lo rows cur x y ovs cvs w) (t : Touch S w w') (hS : ∀ b, S b → b < lo) : WS lo rows cur x y ovs cvs w' := by
  have hx : ∀ b, S b → x.ownBlock ≠ some b := fun b hb e => by have h1 := (h.ox.lt b e).1; have h2 := hS b hb; omega
  have hy : ∀ b, S b → y.ownBlock ≠ some b := fun b hb e => by have h1 := (h.oy.lt b e).1; have h2 := hS b hb; omega
  have hF : ∀ b, FW lo x y w b → FW lo x y w' b := fun b hb => ⟨hb.1, Nat.lt_of_lt_of_le hb.2.1 t.size, hb.2.2⟩
  have hc : ∀ b o v, FW lo x y w b → w.cell? ⟨b, o, none⟩ = some v → w'.cell? ⟨b, o, none⟩ = some v := fun b o v hb hv => t.has hv (fun e => by have h1 := hS b e; have h2 := hb.1; omega)
  exact ⟨owns_keep h.ox t hx, owns_keep h.oy t hy, h.rs.mono hF hc, h.ns.mono hF hc, h.ne⟩

/-- At the start. -/
theorem WS.first (w : World) : WS w.heap.size [] [] (.slice (some ⟨w.heap.size, 0, none⟩) 1 1) (.slice none 0 0) [] [] (w.alloc (.cells #[.slice none 0 0] TR)) :=
  ⟨⟨rfl, .inr ⟨_, _, _, rfl, Nat.le_refl _, heap_alloc_new w _, Nat.le_refl _, by unfold maxLen; omega, rfl, rfl⟩⟩, World.ownsRow_nil _ _ _ _, trivial, trivial, fun _ _ e => by cases e⟩

/-- A row is over, a new one begins. -/
theorem WS.bar {lo : Nat} {rows : List (List Re)} {cur : List Re} {x y x' : Value} {ovs cvs : List Value} {w w' : World} {g' H : Nat} (h : WS lo rows cur x y ovs cvs w) (ho : w'.ownsRow lo TR 1 x' (rows.length + 1 + 1) (ovs ++ [y] ++ [.slice none 0 0])) (hg : w.grownBy w' x.ownBlock) (hx' : x'.ownBlock = some g') (hat : x.ownBlock = some g' ∨ g' = H) (hH : w.heap.size ≤ H) (hl : cur.length ≤ 1000) :
    WS lo (rows ++ [cur]) [] x' (.slice none 0 0) (ovs ++ [y]) [] w' := by
  have hn : ∀ b, b < w.heap.size → x.ownBlock ≠ some b → x'.ownBlock ≠ some b := fun b hb hne e => by
    rw [hx'] at e
    cases e
    rcases hat with h1 | h1
    · exact hne h1
    · omega
  have hF : ∀ b, FW lo x y w b → FW lo x' (.slice none 0 0) w' b := fun b hb => ⟨hb.1, Nat.lt_of_lt_of_le hb.2.1 hg.size, hn b hb.2.1 hb.2.2.1, fun e => by cases e⟩
  have hc : ∀ b o v, FW lo x y w b → w.cell? ⟨b, o, none⟩ = some v → w'.cell? ⟨b, o, none⟩ = some v := fun b o v hb hv => hg.cell hv (fun e => hb.2.2.1 e.symm)
  have oy : w'.ownsRow lo TN 1 y cur.length cvs := h.oy.kept hg (by
    cases hy : y.ownBlock with
    | none => exact .inl rfl
    | some b => exact .inr (fun e => h.ne b e.symm hy))
  refine ⟨by rw [List.length_append]; exact ho, World.ownsRow_nil _ _ _ _, ?_, trivial, fun _ _ e => by cases e⟩
  refine (h.rs.mono hF hc).snoc ?_
  refine row_of oy (h.ns.mono hF hc) (fun _ hb => hb) (fun g hy => ?_) hl
  have h1 := h.oy.lt g hy
  exact ⟨h1.1, Nat.lt_of_lt_of_le h1.2 hg.size, hn g h1.2 (fun e => h.ne g e hy), fun e => by cases e⟩

/-- A node is laid behind the row under way. -/
theorem WS.add {lo : Nat} {rows : List (List Re)} {cur : List Re} {x y y' : Value} {ovs cvs : List Value} {w w' : World} {g' H gx : Nat} {a : Re} {p : Value} (h : WS lo rows cur x y ovs cvs w) (ha : (rd (FW lo x y w) w 9 a).node p) (ho : w'.ownsRow lo TN 1 y' (cur.length + 1) (cvs ++ [p])) (hg : w.grownBy w' y.ownBlock) (hy' : y'.ownBlock = some g') (hat : y.ownBlock = some g' ∨ g' = H) (hH : w.heap.size ≤ H) (hgx : x.ownBlock = some gx) :
    WS lo rows (cur ++ [a]) x y' ovs (cvs ++ [p]) (w'.setCell ⟨gx, rows.length, none⟩ y') := by
  have hxl := h.ox.lt gx hgx
  have hng : gx ≠ g' := fun e => by
    subst e
    rcases hat with h1 | h1
    · exact h.ne gx hgx h1
    · omega
  have hn : ∀ b, b < w.heap.size → y.ownBlock ≠ some b → y'.ownBlock ≠ some b := fun b hb hne e => by
    rw [hy'] at e
    cases e
    rcases hat with h1 | h1
    · exact hne h1
    · omega
  have ox : w'.ownsRow lo TR 1 x (rows.length + 1) (ovs ++ [y]) := h.ox.kept hg (.inr (fun e => h.ne gx hgx (by rw [← e, hgx])))
  have hov : ovs.length = rows.length := h.rs.len
  have t : Touch (fun b => b = gx) w' (w'.setCell ⟨gx, rows.length, none⟩ y') := Touch.setCell (Touch.refl (fun b => b = gx) w') (.inl rfl) _
  have hF : ∀ b, FW lo x y w b → FW lo x y' (w'.setCell ⟨gx, rows.length, none⟩ y') b := fun b hb => ⟨hb.1, Nat.lt_of_lt_of_le (Nat.lt_of_lt_of_le hb.2.1 hg.size) t.size, hb.2.2.1, hn b hb.2.1 hb.2.2.2⟩
  have hc : ∀ b o v, FW lo x y w b → w.cell? ⟨b, o, none⟩ = some v → (w'.setCell ⟨gx, rows.length, none⟩ y').cell? ⟨b, o, none⟩ = some v := fun b o v hb hv => t.has (hg.cell hv (fun e => hb.2.2.2 e.symm)) (fun e => hb.2.2.1 (hgx.trans (congrArg some (show gx = b from Eq.symm e))))
  refine ⟨?_, ?_, h.rs.mono hF hc, (h.ns.mono hF hc).snoc ((rd_mono hF hc a).1 _ ha), fun g e e2 => ?_⟩
  · rcases ox.2 with ⟨rfl, h0⟩ | ⟨g, cap, c, rfl, hb, hgg, h1, h2, h3, h4⟩
    · omega
    · have hgx' : g = gx := Option.some.inj hgx
      subst hgx'
      refine ⟨by simp [hov], .inr ⟨g, cap, c.setIfInBounds rows.length y', rfl, hb, ?_, h1, h2, by simpa using h3, ?_⟩⟩
      · rw [setCell_eq_setRow w' g rows.length _ _ (0, 0) _ hgg, setRow_heap w' g _ _ _ (0, 0) hgg]
      · rw [Array.toList_setIfInBounds, List.take_set, h4]
        rw [List.set_append_right _ _ (by omega)]
        simp [hov]
  · rw [List.length_append]
    exact owns_keep ho t (fun b e e2 => by subst e; rw [hy'] at e2; exact hng (Option.some.inj e2).symm)
  · rw [hgx] at e
    rw [hy'] at e2
    exact hng ((Option.some.inj e).trans (Option.some.inj e2).symm)

/-- At the end. -/
theorem WS.done {lo : Nat} {rows : List (List Re)} {cur : List Re} {x y : Value} {ovs cvs : List Value} {w : World} (h : WS lo rows cur x y ovs cvs w) (hl : cur.length ≤ 1000) (hr : rows.length + 1 ≤ 1000) :
    ∃ xa l cap, x = .slice xa l cap ∧ l ≤ cap ∧ (rd (FP lo w.heap.size) w 9 (toWays (rows ++ [cur]))).ways xa l := by
  have hF : ∀ b, FW lo x y w b → FP lo w.heap.size b := fun b hb => ⟨hb.1, hb.2.1⟩
  have h1 := row_of h.oy h.ns hF (fun g hg => h.oy.lt g hg) hl
  have h2 := (h.rs.mono hF (fun _ _ _ _ hc => hc)).snoc h1
  obtain ⟨g, cap, rfl, hg, hgl⟩ := h.ox.form (by omega)
  have h3 : rows.length + 1 ≤ cap := by
    rcases h.ox.2 with ⟨e, -⟩ | ⟨g', cap', c, e, -, -, hcc, -⟩
    · cases e
    · cases e; exact hcc
  refine ⟨some ⟨g, 0, none⟩, rows.length + 1, cap, rfl, h3, ?_⟩
  have h4 := ways_aux (F := FP lo w.heap.size) (g := g) ⟨hg, hgl⟩ (rows ++ [cur]) (ovs ++ [y]) 0 (owns_cells h.ox rfl) h2 (by simp; omega)
  rw [List.length_append] at h4
  exact h4
end Go.Proofs.YtlgpilcjcomacaaGreat

/-
  The program's reader: alternatives.
-/
namespace Go.Proofs.YtlgpilcjcomacaaGreat
open Go.RowKit Rx
set_option linter.unusedVariables false

theorem infoTR : (Tryz.prog.info? TR).map (fun i => (i.zero, i.size, i.bytes)) = some (some (.slice none 0 0), 1, 24) := by kernel_rfl
theorem infoTN : (Tryz.prog.info? TN).map (fun i => (i.zero, i.size, i.bytes)) = some (some (.pointer none), 1, 8) := by kernel_rfl

theorem news1 {w : World} {ad : Addr} {u : Value} (h : w.cell? ad = some u) : ∀ j v, ([u] : List Value)[j]? = some v → w.cell? (ad.add j) = some v := by
  intro j v hv
  cases j with
  | zero => simp at hv; subst hv; simpa [Addr.add] using h
  | succ j => simp at hv

theorem alloc_cell0 (w : World) (v : Value) (T : TypeId) : (w.alloc (.cells #[v] T)).cell? ⟨w.heap.size, 0, none⟩ = some v := by simp [go_sem]

/-- A row more. -/
theorem wpList_appW {ops : Array Oper} {rest : List Oper} {o : Oper} {a : Act} {w : World} {Q : Exit → Act → World → Prop} (hgd : o.guard = none) (s x : Operand)
    (ho : o.op = .call { callee := .builtin .append, args := #[s, x], argTypes := #[TW, TW] }) (lo : Nat) (v : Value) (n : Nat) (xs : List Value) (hs : a.eval s = v) (hown : w.ownsRow lo TR 1 v n xs)
    (ad : Addr) (c : Nat) (u : Value) (hx : a.eval x = .slice (some ad) 1 c) (hc : w.cell? ad = some u) (h1 : u.oneCell' = true) (hn : n ≤ 100000) (hlo : lo ≤ w.heap.size)
    (h : ∀ g cap w', w'.ownsRow lo TR 1 (.slice (some ⟨g, 0, none⟩) (n + 1) cap) (n + 1) (xs ++ [u]) → w.grownBy w' v.ownBlock → (v.ownBlock = some g ∨ g = w.heap.size) → g < w'.heap.size → wpList Tryz.prog ops Q rest (a.put o.dst (.slice (some ⟨g, 0, none⟩) (n + 1) cap)) w') : wpList Tryz.prog ops Q (o :: rest) a w := by
  obtain ⟨i0, hi, hz0, hz1, hz2⟩ := info_parts infoTR
  exact wpList_append_lies w hgd s x TW ho lo TR i0 (.slice none 0 0) 1 24 Tryz.underlying87 hi hz0 hz1 hz2 rfl (by decide) v n xs hs hown ad 1 c [u] hx rfl (news1 hc) (by intro v hv; rw [List.mem_singleton.1 hv]; exact h1) (by decide) (by unfold maxLen; omega) (by omega) hlo _ rfl h

/-- A node more, in a region that draws. -/
theorem step_appN {ops : Array Oper} {o : Oper} {a : Act} {w : World} {K : Act → World → Prop} {Q : Exit → Act → World → Prop} {E : Prop} (hgd : o.guard = none) (s x : Operand)
    (ho : o.op = .call { callee := .builtin .append, args := #[s, x], argTypes := #[TR, TR] }) (lo : Nat) (v : Value) (n : Nat) (xs : List Value) (hs : a.eval s = v) (hown : w.ownsRow lo TN 1 v n xs)
    (ad : Addr) (c : Nat) (u : Value) (hx : a.eval x = .slice (some ad) 1 c) (hc : w.cell? ad = some u) (h1 : u.oneCell' = true) (hn : n ≤ 100000) (hlo : lo ≤ w.heap.size)
    (h : ∀ g cap w', w'.ownsRow lo TN 1 (.slice (some ⟨g, 0, none⟩) (n + 1) cap) (n + 1) (xs ++ [u]) → w.grownBy w' v.ownBlock → (v.ownBlock = some g ∨ g = w.heap.size) → g < w'.heap.size → K (a.put o.dst (.slice (some ⟨g, 0, none⟩) (n + 1) cap)) w') : if Region.wanted o (yielded ops a.tmps) = true then Oper.wp Tryz.prog o a w K Q else E := by
  obtain ⟨i0, hi, hz0, hz1, hz2⟩ := info_parts infoTN
  have hw : Region.wanted o (yielded ops a.tmps) = true := by simp [Region.wanted, hgd]
  rw [if_pos hw]
  exact wp_append_lies w s x TR ho lo TN i0 (.pointer none) 1 8 Tryz.underlying90 hi hz0 hz1 hz2 rfl (by decide) v n xs hs hown ad 1 c [u] hx rfl (news1 hc) (by intro v hv; rw [List.mem_singleton.1 hv]; exact h1) (by decide) (by unfold maxLen; omega) (by omega) hlo _ rfl h

/-- The cell of the row under way. -/
theorem WS.holds {lo : Nat} {rows : List (List Re)} {cur : List Re} {x y : Value} {ovs cvs : List Value} {w : World} (h : WS lo rows cur x y ovs cvs w) {gx : Nat} (hgx : x.ownBlock = some gx) : Holds w gx rows.length y := by
  have h1 := owns_cells h.ox hgx rows.length y (by rw [List.getElem?_append_right (by rw [h.rs.len]; exact Nat.le_refl _), h.rs.len, Nat.sub_self]; rfl)
  rw [Nat.zero_add] at h1
  refine ⟨h1, ?_⟩
  rcases h.ox.2 with ⟨e, h0⟩ | ⟨g, cap, c, rfl, hb, hgg, -⟩
  · omega
  · cases hgx; unfold World.frozen?; simp [hgg]
theorem holds_grown {w w' : World} {b o : Nat} {v : Value} {row : Option Nat} (h : Holds w b o v) (hg : w.grownBy w' row) (hne : some b ≠ row) : Holds w' b o v :=
  ⟨hg.cell h.1 hne, (hg.frozen_far ⟨b, o, none⟩ h.lt hne).trans h.2⟩

/-- A node is laid behind the row under way: all of it. -/
theorem ways_add {br lo k gx : Nat} {rows : List (List Re)} {cur : List Re} {x y : Value} {ovs cvs : List Value} {w3 w5 w6 : World} {a : Re} {b g3 cap3 H : Nat} (hbr : br < lo) (h3 : WS lo rows cur x y ovs cvs w3) (hx : x.ownBlock = some gx) (hk : rows.length = k) (ht : Touch (fun b => b = br) w3 w5)
    (hrd : (rd (FP w3.heap.size w5.heap.size) w5 9 a).node (.pointer (some ⟨b, 0, none⟩))) (hown : w6.ownsRow lo TN 1 (.slice (some ⟨g3, 0, none⟩) (cur.length + 1) cap3) (cur.length + 1) (cvs ++ [.pointer (some ⟨b, 0, none⟩)]))
    (hgrow : (w5.alloc (.cells #[.pointer (some ⟨b, 0, none⟩)] TN)).grownBy w6 y.ownBlock) (hat : y.ownBlock = some g3 ∨ g3 = H) (hH : (w5.alloc (.cells #[.pointer (some ⟨b, 0, none⟩)] TN)).heap.size ≤ H) :
    WS lo rows (cur ++ [a]) x (.slice (some ⟨g3, 0, none⟩) (cur.length + 1) cap3) ovs (cvs ++ [.pointer (some ⟨b, 0, none⟩)]) (w6.setCell ⟨gx, k, none⟩ (.slice (some ⟨g3, 0, none⟩) (cur.length + 1) cap3)) ∧ Touch (fun b => lo ≤ b) w5 (w6.setCell ⟨gx, k, none⟩ (.slice (some ⟨g3, 0, none⟩) (cur.length + 1) cap3)) := by
  have h5 := h3.keep ht (fun b e => by subst e; exact hbr)
  have ta : Touch (fun _ => False) w5 (w5.alloc (.cells #[.pointer (some ⟨b, 0, none⟩)] TN)) := (Touch.refl _ _).alloc _
  have hA := h5.keep ta (fun _ e => e.elim)
  have hxl := h3.ox.lt gx hx
  have hz := ht.size
  have hz2 := ta.size
  refine ⟨?_, ?_⟩
  · rw [← hk]
    refine hA.add ?_ hown hgrow rfl hat hH hx
    refine (rd_mono (fun c hc => ⟨?_, Nat.lt_of_lt_of_le hc.2 hz2, fun e => ?_, fun e => ?_⟩) (fun c o v hc hv => ta.has hv id) a).1 _ hrd
    · have h1 := hc.1; omega
    · rw [hx] at e; have h1 := hc.1; have h2 := Option.some.inj e; omega
    · have h1 := hc.1; have h2 := h3.oy.lt c e; omega
  · refine Touch.setCell ?_ (.inl hxl.1) _
    exact ((Touch.refl (fun b => lo ≤ b) w5).alloc _).grown hgrow (fun c hc => .inl (h3.oy.lt c hc).1)

set_option maxRecDepth 100000 in
set_option maxHeartbeats 20000000 in
theorem rways_any (br : Nat) (s : ByteArray) (deep : Nat) (P : PS → Option (Re × PS)) (hP : ∀ st w, RS br s deep st w → st.pos < s.size → Calls Tryz.prog 83 #[.pointer (some ⟨br, 0, none⟩)] w (NodePost br s deep st w (P st))) (st : PS) (w : World) (h : RS br s deep st w) :
    Calls Tryz.prog 59 #[.pointer (some ⟨br, 0, none⟩)] w (WaysPost br s deep st w (waysEnd (loopP P (str s) ((str s).length + 1 - st.pos) st [] []))) := by
  have hsz := h.sz
  have HP := Lib.hid hP
  clear hP
  have HBL : Hid (br < w.heap.size) := Lib.hid h.lt
  have hle := h.le
  obtain ⟨rr, hrr⟩ : ∃ rr, loopP P (str s) ((str s).length + 1 - st.pos) st [] [] = rr := ⟨_, rfl⟩
  rw [hrr]
  have HRS0 := Lib.hid (h.keep ((Touch.refl (fun _ => False) w).alloc (.cells #[.slice none 0 0] TR)) id)
  have HT0 : Hid (Touch (fun b => b = br) w (w.alloc (.cells #[.slice none 0 0] TR))) := Lib.hid ((Touch.refl _ _).alloc _)
  have HWS0 := Lib.hid (WS.first w)
  have HRR := Lib.hid hrr
  clear h hrr
  go_enter Tryz.func59, Tryz.ntmps59
  go_wp2_with fail
  go_loopw [3] (fun x wr => ∃ (p g r k gx cap : Nat) (rows : List (List Re)) (cur : List Re) (y : Value) (ovs cvs : List Value) (f : Nat), x = .slice (some ⟨gx, 0, none⟩) (k + 1) cap ∧ k ≤ 300 ∧ p ≤ s.size ∧ Hid (RS br s deep ⟨p, g, r⟩ wr) ∧ Hid (WS w.heap.size rows cur (.slice (some ⟨gx, 0, none⟩) (k + 1) cap) y ovs cvs wr) ∧ Hid (rows.length = k) ∧ Hid (k + cur.length ≤ p) ∧ Hid (loopP P (str s) f ⟨p, g, r⟩ rows cur = rr) ∧ Hid (s.size + 1 - p ≤ f) ∧ Hid (Touch (fun b => b = br) w wr) ∧ Hid (st.pos ≤ p)) (fun _ wr => s.size - cellI wr br 1)
  case atStart => exact ⟨st.pos, st.grps, st.refs, 0, w.heap.size, 1, [], [], .slice none 0 0, [], [], _, rfl, by omega, hle, HRS0, HWS0, Lib.hid rfl, Lib.hid (Nat.zero_le _), HRR, Lib.hid (by rw [str_len]; omega), HT0, Lib.hid (Nat.le_refl _)⟩
  case round =>
    obtain ⟨p, g, r, k, gx, cap, rows, cur, y, ovs, cvs, f, rfl, hk3, hps, HRS, HWS, HKL, HKC, HCL, HF, HT, HSP⟩ := hrel
    obtain ⟨wr0, hwr0⟩ : ∃ wr0 : World, wr0 = wr := ⟨_, rfl⟩
    have HM0 : Hid (wr0.cell? ⟨br, 1, none⟩ = some (.int .i64 (p : Int))) := Lib.hid (by rw [hwr0]; exact HRS.out.c1.1)
    obtain ⟨f, rfl⟩ : ∃ f', f = f' + 1 := ⟨f - 1, by have := HF.out; omega⟩
    obtain ⟨cq, hcq0⟩ : ∃ cq, pk (str s) p = cq := ⟨_, rfl⟩
    have hcq := pk_256 s p
    rw [hcq0] at hcq
    have HPKQ : Hid (∀ w', RS br s deep ⟨p, g, r⟩ w' → Calls Tryz.prog 81 #[.pointer (some ⟨br, 0, none⟩)] w' fun e w'' => e = .returned (.int .u8 (cq : Int)) ∧ ∃ q, w'' = w'.drewN q) := Lib.hid (fun w' h => by rw [← hcq0]; exact peek_any br s deep _ w' h)
    have hstep : loopP P (str s) (f + 1) ⟨p, g, r⟩ rows cur = if p < (str s).length ∧ cq ≠ 41 then
        if tk (str s) p [124] = true then loopP P (str s) f ⟨p + 1, g, r⟩ (rows ++ [cur]) []
        else match P ⟨p, g, r⟩ with
          | none => none
          | some (a, st') => loopP P (str s) f st' rows (cur ++ [a])
      else some (rows ++ [cur], ⟨p, g, r⟩) := by rw [← hcq0]; rfl
    rw [HCL.out, str_len] at hstep
    have HSTEP := Lib.hid hstep
    clear hstep HCL hcq0
    have hc0 := HRS.out.c0
    have hc1 := HRS.out.c1.1
    simp only at hc1
    obtain ⟨B, hB⟩ : ∃ B, decide (p < s.size ∧ cq ≠ 41) = B := ⟨_, rfl⟩
    have HB := Lib.hid hB
    clear hB
    go_upto_region 2 with fail
    go_cut [20] from 6 to 39 (fun t wx => t = .bool B ∧ Hid (RS br s deep ⟨p, g, r⟩ wx) ∧ Hid (WS w.heap.size rows cur (.slice (some ⟨gx, 0, none⟩) (k + 1) cap) y ovs cvs wx) ∧ Hid (Touch (fun b => b = br) w wx))
    case first =>
      by_cases r1 : p < s.size
      · have q1 : decide ((p : Int) < (s.size : Int)) = true := by simp; omega
        have q1n : decide (p < s.size) = true := by simp; omega
        by_cases r2 : cq = 41
        · have q2 : ((cq : Int) != 41) = false := by rw [r2]; rfl
          have HB : Hid (B = false) := Lib.hid (by rw [← HB.out]; simp [r2])
          clear r2
          go_quiet ((go_at_call 81; exact Calls.quiet_of (HPKQ.out _ (by first | exact HRS.out | exact HRS.out.drewN _))))
          go_wp2_with fail
          go_meet
          exact ⟨congrArg Value.bool HB.out.symm, Lib.hid (HRS.out.drewN nq), Lib.hid (HWS.out.keep (still_drewN (S := fun _ => False) _ nq) (fun _ e => e.elim)), Lib.hid (HT.out.drewN nq)⟩
        · have q2 : ((cq : Int) != 41) = true := by rw [bne_iff_ne]; omega
          have HB : Hid (B = true) := Lib.hid (by rw [← HB.out]; simp [r1, r2])
          clear r2
          go_quiet ((go_at_call 81; exact Calls.quiet_of (HPKQ.out _ (by first | exact HRS.out | exact HRS.out.drewN _))))
          go_wp2_with fail
          go_meet
          exact ⟨congrArg Value.bool HB.out.symm, Lib.hid (HRS.out.drewN nq), Lib.hid (HWS.out.keep (still_drewN (S := fun _ => False) _ nq) (fun _ e => e.elim)), Lib.hid (HT.out.drewN nq)⟩
      · have q1 : decide ((p : Int) < (s.size : Int)) = false := by simp; omega
        have q1n : decide (p < s.size) = false := by simp; omega
        have HB : Hid (B = false) := Lib.hid (by rw [← HB.out]; simp [r1])
        go_quiet ((go_at_call 81; exact Calls.quiet_of (HPKQ.out _ (by first | exact HRS.out | exact HRS.out.drewN _))))
        go_wp2_with fail
        go_meet
        exact ⟨congrArg Value.bool HB.out.symm, Lib.hid (HRS.out.drewN nq), Lib.hid (HWS.out.keep (still_drewN (S := fun _ => False) _ nq) (fun _ e => e.elim)), Lib.hid (HT.out.drewN nq)⟩
    case rest =>
      obtain ⟨rfl, HRS2, HWS2, HT2⟩ := hcut
      clear hc0 hc1 HPKQ
      have hstep := HSTEP.out
      clear HSTEP
      cases B with
      | false =>
        rw [if_neg (of_decide_eq_false HB.out)] at hstep
        have HR := Lib.hid hstep
        clear hstep
        go_wp2_with fail
        go_ret
        rw [HR.out]
        have hkl := HKL.out
        have hkc := HKC.out
        obtain ⟨xa, l, cap', h1, h2, h3⟩ := HWS2.out.done (by omega) (by omega)
        exact ⟨xa, l, cap', congrArg Ending.returned h1, h2, HRS2.out, HT2.out, h3, HSP.out⟩
      | true =>
        have hlt : p < s.size := (of_decide_eq_true HB.out).1
        rw [if_pos (of_decide_eq_true HB.out)] at hstep
        cases htk : tk (str s) p [124] with
        | true =>
          rw [if_pos htk] at hstep
          have HTK := Lib.hid htk
          have HCL := Lib.hid hstep.symm
          clear htk hstep
          go_wp2_with fail
          refine (take_yes br s ⟨#[124]⟩ deep _ _ HRS2.out HTK.out (by decide)).mono ?_
          rintro e w3 ⟨rfl, hrs, ht⟩
          have HRS3 := Lib.hid hrs
          have HT3 := Lib.hid (HT2.out.then ht)
          have HWS3 := Lib.hid (HWS2.out.keep ht (fun b e => by have := HBL.out; omega))
          clear hrs ht
          obtain ⟨L, hL⟩ : ∃ L, w.heap.size = L := ⟨_, rfl⟩
          have HL := Lib.hid hL
          clear hL
          have HOX := Lib.hid (HWS3.out.ox.alloc (.cells #[.slice none 0 0] TR))
          rw [HKL.out] at HOX
          have HLW : Hid (w.heap.size ≤ (w3.alloc (.cells #[.slice none 0 0] TR)).heap.size) := Lib.hid (by have := HT3.out.size; simp; omega)
          go_wp2_with (with_reducible refine wpList_appW rfl (.tmp 23) (.tmp 24) rfl w.heap.size (.slice (some ⟨gx, 0, none⟩) (k + 1) cap) (k + 1) (ovs ++ [y]) (by simp [Act.eval]) HOX.out ⟨w3.heap.size, 0, none⟩ 1 (.slice none 0 0) (by simp [Act.eval]) (by simp [go_sem]) rfl (by omega) HLW.out ?_)
          intro g2 cap2 w4 hown hgrow hat hlt2
          have HGX : Hid (w.heap.size ≤ gx) := Lib.hid (HWS3.out.ox.lt gx rfl).1
          have HWSA := Lib.hid (HWS3.out.keep ((Touch.refl (fun _ => False) w3).alloc (.cells #[.slice none 0 0] TR)) (fun _ e => e.elim))
          have HT4 : Hid (Touch (fun b => b = br) w w4) := Lib.hid ((HT3.out.alloc _).grown hgrow (fun k hk => .inr (by cases hk; exact HGX.out)))
          have HT34 : Hid (Touch (fun b => b = gx) w3 w4) := Lib.hid (((Touch.refl _ _).alloc _).grown hgrow (fun k hk => .inl (Option.some.inj hk).symm))
          have HRS4 : Hid (RS br s deep ⟨p + 1, g, r⟩ w4) := Lib.hid (HRS3.out.keep HT34.out (fun e => by have h1 := HBL.out; have h2 := HGX.out; omega))
          have HWS4 : Hid (WS w.heap.size (rows ++ [cur]) [] (.slice (some ⟨g2, 0, none⟩) (k + 1 + 1) cap2) (.slice none 0 0) (ovs ++ [y]) [] w4) := Lib.hid (HWSA.out.bar (by rw [HKL.out, List.append_assoc]; exact hown) hgrow rfl hat (by simp) (by have := HKC.out; omega))
          have HKL4 : Hid ((rows ++ [cur]).length = k + 1) := Lib.hid (by rw [List.length_append, HKL.out]; rfl)
          have HKC4 : Hid (k + 1 + ([] : List Re).length ≤ p + 1) := Lib.hid (by have := HKC.out; simp; omega)
          have hk4 : k + 1 ≤ 300 := by have := HKC.out; omega
          clear hown hgrow hat hlt2 HOX HLW
          go_wp2_with fail
          have hmm : s.size - cellI w4 br 1 < s.size - cellI wr0 br 1 := by
            rw [cellI_at HRS4.out.c1.1, cellI_at HM0.out]
            show s.size - (p + 1) < s.size - p
            omega
          exact ⟨⟨p + 1, g, r, k + 1, g2, cap2, rows ++ [cur], [], .slice none 0 0, ovs ++ [y], [], f, rfl, hk4, by omega, HRS4, HWS4, HKL4, HKC4, HCL, Lib.hid (by have := HF.out; omega), HT4, Lib.hid (by have := HSP.out; omega)⟩, by rw [← hwr0]; exact hmm⟩
        | false =>
          rw [if_neg (by rw [htk]; decide)] at hstep
          have HTK := Lib.hid htk
          have HSTEP := Lib.hid hstep
          clear htk hstep
          go_wp2_with fail
          refine (tk_no (t := ⟨#[124]⟩) HRS2.out HTK.out).mono ?_
          rintro e w3 ⟨rfl, hrs, ht⟩
          have HRS3 := Lib.hid hrs
          have HT3 := Lib.hid (HT2.out.then ht)
          have HWS3 := Lib.hid (HWS2.out.keep ht (fun b e => by have := HBL.out; omega))
          clear hrs ht
          have hstep := HSTEP.out
          clear HSTEP
          have hx3 := HWS3.out.holds (gx := gx) rfl
          rw [HKL.out] at hx3
          obtain ⟨hx3, hx3f⟩ := hx3
          have HGX : Hid (w.heap.size ≤ gx ∧ gx < w3.heap.size) := Lib.hid (HWS3.out.ox.lt gx rfl)
          have HPC : Hid (∀ w', Touch (fun _ => False) w3 w' → Calls Tryz.prog 83 #[.pointer (some ⟨br, 0, none⟩)] w' (NodePost br s deep ⟨p, g, r⟩ w' (P ⟨p, g, r⟩))) := Lib.hid (fun w' t => HP.out _ _ (HRS3.out.keep t id) hlt)
          have HSTEP := Lib.hid hstep
          clear hstep
          have hkk : (k : Int) < (k : Int) + 1 := by omega
          go_wp2_with fail
          go_region_law (first
            | (refine step_appN rfl (.tmp 34) (.tmp 37) rfl w.heap.size y cur.length cvs rfl HOY5.out ⟨w5.heap.size, 0, none⟩ 1 (.pointer (some ⟨b, 0, none⟩)) rfl (alloc_cell0 _ _ _) rfl HC5.out HL5.out ?_
               intro g3 cap3 w6 hown hgrow hat hlt2
               have hx6 := holds_grown HX5A.out hgrow HNE.out
               obtain ⟨hx6, hx6f⟩ := hx6)
            | (go_simp
               go_at_call 83
               refine (HPC.out _ ((Touch.refl _ _).drew)).mono ?_
               intro e w5 hG
               have hres := HSTEP.out
               rcases hpc : P ⟨p, g, r⟩ with _ | ⟨a, p2, g2, r2⟩
               · rw [hpc] at hG hres
                 obtain ⟨rfl, ht⟩ := hG
                 refine ⟨rfl, ?_⟩
                 rw [hres]
                 exact ⟨rfl, (HT3.out.drew).then ht⟩
               rw [hpc] at hG hres
               obtain ⟨b, rfl, hrs, ht, hrd, hpp⟩ := hG
               have ht3 : Touch (fun b => b = br) w3 w5 := ((Touch.refl _ _).drew).then ht
               have hx5 : Holds w5 gx k y := Holds.keep ⟨hx3, hx3f⟩ ht3 (fun e => by have h1 := HBL.out; have h2 := HGX.out.1; omega)
               have HCL := Lib.hid hres.symm
               have HRS5 := Lib.hid hrs
               have HT5 := Lib.hid (HT3.out.then ht3)
               have HRD5 := Lib.hid hrd
               have HPP : Hid (p < p2) := Lib.hid hpp
               have HWS5 := Lib.hid (HWS3.out.keep ht3 (fun b e => by have := HBL.out; omega))
               have HOY5 := Lib.hid (HWS5.out.oy.alloc (.cells #[.pointer (some ⟨b, 0, none⟩)] TN))
               have HC5 : Hid (cur.length ≤ 100000) := Lib.hid (by have := HKC.out; omega)
               have HL5 : Hid (w.heap.size ≤ (w5.alloc (.cells #[.pointer (some ⟨b, 0, none⟩)] TN)).heap.size) := Lib.hid (by have := HT5.out.size; simp; omega)
               have HX5A := Lib.hid (hx5.alloc (.cells #[.pointer (some ⟨b, 0, none⟩)] TN))
               have HNE : Hid (some gx ≠ y.ownBlock) := Lib.hid (fun e => HWS5.out.ne gx rfl e.symm)
               have HT35 := Lib.hid ht3
               have hx5a := HX5A.out.1
               obtain ⟨hx5, hx5f⟩ := hx5
               clear hres hpc hrs ht ht3 hrd hpp))
          all_goals (
            obtain ⟨hws, ht7⟩ := ways_add HBL.out HWS3.out rfl HKL.out HT35.out HRD5.out hown hgrow hat (by simp)
            have HWS7 := Lib.hid hws
            have HRS7 := Lib.hid (HRS5.out.keep ht7 (fun e => by have := HBL.out; omega))
            have HT7 := Lib.hid (HT5.out.trans ht7 (fun i e => .inr e))
            have HKC7 : Hid (k + (cur ++ [a]).length ≤ p2) := Lib.hid (by have h1 := HKC.out; have h2 := HPP.out; simp; omega)
            have HPS7 : Hid (p2 ≤ s.size) := Lib.hid HRS5.out.le
            clear hws ht7 hown hgrow hat hlt2
            go_wp2_with fail
            have hmm : s.size - cellI (w6.setCell ⟨gx, k, none⟩ (.slice (some ⟨g3, 0, none⟩) (cur.length + 1) cap3)) br 1 < s.size - cellI wr0 br 1 := by
              rw [cellI_at HRS7.out.c1.1, cellI_at HM0.out]
              have h1 := HPP.out
              show s.size - p2 < s.size - p
              omega
            exact ⟨⟨p2, g2, r2, k, gx, cap, rows, cur ++ [a], _, ovs, cvs ++ [_], f, rfl, hk3, HPS7.out, HRS7, HWS7, HKL, HKC7, HCL, Lib.hid (by have := HF.out; have := HPP.out; omega), HT7, Lib.hid (by have := HSP.out; have := HPP.out; omega)⟩, by rw [← hwr0]; exact hmm⟩)
end Go.Proofs.YtlgpilcjcomacaaGreat
