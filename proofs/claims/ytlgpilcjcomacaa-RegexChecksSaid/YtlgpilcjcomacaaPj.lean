/-
  The program's reader: piece.
-/
import Derived.Test.YtlgpilcjcomacaaPi
import Derived.Deep.Cut
namespace Go.Proofs.Ytlgpilcjcomacaa
open Go.RowKit Rx
set_option linter.unusedVariables false

theorem again_ib (c : Nat) (h : c < 256) : (decide (0 ≤ Lib.indexByte ((⟨#[42, 43, 63, 123]⟩ : ByteArray).data.toList) ((c : Int).toNat.toUInt8))) = again.contains c := by
  have h1 : ∀ c : Fin 256, (decide (0 ≤ Lib.indexByte ((⟨#[42, 43, 63, 123]⟩ : ByteArray).data.toList) (c.val.toUInt8))) = again.contains c.val := by decide +kernel
  exact h1 ⟨c, h⟩

/-- The kind of a node in memory. -/
theorem rd_kind {F : Nat → Prop} {w : World} {a : Re} {b : Nat} (h : (rd F w 9 a).node (.pointer (some ⟨b, 0, none⟩))) : ∃ kd : Int, w.cell? ⟨b, 0, none⟩ = some (.int .i64 kd) ∧ isAsr a = (decide (1 ≤ kd) && decide (kd ≤ 6)) := by
  cases a with
  | set f => obtain ⟨b', sb, num, wa, wl, wc, kid, least, most, how, e, h, -⟩ := h; cases e; exact ⟨0, h.c0, rfl⟩
  | asr k => obtain ⟨b', of, num, wa, wl, wc, kid, least, most, how, e, h, h1, h2⟩ := h; cases e; exact ⟨k, h.c0, by simp [isAsr]; omega⟩
  | bref m => obtain ⟨b', of, wa, wl, wc, kid, least, most, how, e, h, h1, h2⟩ := h; cases e; exact ⟨7, h.c0, rfl⟩
  | nil => exact h.elim
  | cat x r => exact h.elim
  | none => exact h.elim
  | alt x r => exact h.elim
  | grp m x => obtain ⟨b', of, wa, wl, wc, kid, least, most, how, e, h, -⟩ := h; cases e; exact ⟨8, h.c0, rfl⟩
  | look neg x =>
    obtain ⟨b', of, num, wa, wl, wc, kid, least, most, how, e, h, -⟩ := h; cases e
    cases neg with
    | true => exact ⟨10, h.c0, rfl⟩
    | false => exact ⟨9, h.c0, rfl⟩
  | atom x => obtain ⟨b', of, num, wa, wl, wc, kid, least, most, how, e, h, -⟩ := h; cases e; exact ⟨11, h.c0, rfl⟩
  | rep x least most lazy => obtain ⟨b', of, num, wa, wl, wc, kid, e, h, -⟩ := h; cases e; exact ⟨12, h.c0, rfl⟩
  | poss x least most => obtain ⟨b', of, num, wa, wl, wc, kid, e, h, -⟩ := h; cases e; exact ⟨12, h.c0, rfl⟩

theorem rd_in {F : Nat → Prop} {w : World} {a : Re} {b : Nat} (h : (rd F w 9 a).node (.pointer (some ⟨b, 0, none⟩))) : F b := by
  cases a with
  | set f => obtain ⟨b', sb, num, wa, wl, wc, kid, least, most, how, e, h, -⟩ := h; cases e; exact h.fb
  | asr k => obtain ⟨b', of, num, wa, wl, wc, kid, least, most, how, e, h, h1, h2⟩ := h; cases e; exact h.fb
  | bref m => obtain ⟨b', of, wa, wl, wc, kid, least, most, how, e, h, h1, h2⟩ := h; cases e; exact h.fb
  | nil => exact h.elim
  | cat x r => exact h.elim
  | none => exact h.elim
  | alt x r => exact h.elim
  | grp m x => obtain ⟨b', of, wa, wl, wc, kid, least, most, how, e, h, -⟩ := h; cases e; exact h.fb
  | look neg x => obtain ⟨b', of, num, wa, wl, wc, kid, least, most, how, e, h, -⟩ := h; cases e; exact h.fb
  | atom x => obtain ⟨b', of, num, wa, wl, wc, kid, least, most, how, e, h, -⟩ := h; cases e; exact h.fb
  | rep x least most lazy => obtain ⟨b', of, num, wa, wl, wc, kid, e, h, -⟩ := h; cases e; exact h.fb
  | poss x least most => obtain ⟨b', of, num, wa, wl, wc, kid, e, h, -⟩ := h; cases e; exact h.fb

set_option maxRecDepth 100000 in
set_option maxHeartbeats 20000000 in
theorem piece_any (br : Nat) (s : ByteArray) (deep : Nat) (st : PS) (w : World) (W : PS → Option (Re × PS)) (hW : WOK br s (deep + 1) W) (h : RS br s deep st w) (hlt : st.pos < s.size) :
    Calls Try.prog 89 #[.pointer (some ⟨br, 0, none⟩)] w (NodePost br s deep st w (pieceP W (str s) st)) := by
  have hsz := h.sz
  obtain ⟨p0, g0, r0⟩ := st
  simp only at hlt
  have HAT := Lib.hid (atom_any br s deep _ w W hW h hlt)
  have HBL : Hid (br < w.heap.size) := Lib.hid h.lt
  clear h hW
  go_enter Try.func89, Try.ntmps89
  go_wp2_with fail
  refine HAT.out.mono ?_
  intro e w1 hG
  clear HAT
  have hres : pieceP W (str s) ⟨p0, g0, r0⟩ = match atomP W (str s) ⟨p0, g0, r0⟩ with
    | none => none
    | some (a, st1) => match timesP (str s) st1.pos with
      | none => none
      | some (none, j) => some (a, st1)
      | some (some (lo, hi), j) => if isAsr a = true then none else
        if again.contains (pk (str s) (howP (str s) a lo hi { st1 with pos := j }).2.pos) = true then none else some (howP (str s) a lo hi { st1 with pos := j }) := rfl
  cases ha : atomP W (str s) ⟨p0, g0, r0⟩ with
  | none =>
    rw [ha] at hG hres
    obtain ⟨rfl, ht⟩ := hG
    refine ⟨rfl, ?_⟩
    rw [hres]
    exact ⟨rfl, ht⟩
  | some t =>
    obtain ⟨a, p1, g1, r1⟩ := t
    rw [ha] at hG hres
    obtain ⟨b, rfl, hrs, ht, hrd, hpp⟩ := hG
    dsimp only at hres
    have HRS1 := Lib.hid hrs
    have HT1 := Lib.hid ht
    have HRD := Lib.hid hrd
    have HP1 : Hid (p0 < p1) := Lib.hid hpp
    have HRES0 := Lib.hid hres
    clear hrs ht hrd hpp hres ha
    go_wp2_with fail
    refine (times_parse br s deep _ _ HRS1.out).mono ?_
    intro e w2 hG
    have hres := HRES0.out
    clear HRES0
    cases htm : timesP (str s) p1 with
    | none =>
      rw [show timesP (str s) (PS.pos _) = none from htm] at hG
      rw [htm] at hres
      obtain ⟨rfl, ht⟩ := hG
      refine ⟨rfl, ?_⟩
      rw [hres]
      exact ⟨rfl, HT1.out.then ht⟩
    | some t =>
      obtain ⟨o, j⟩ := t
      cases o with
      | none =>
        rw [show timesP (str s) (PS.pos _) = some (none, j) from htm] at hG
        rw [htm] at hres
        obtain ⟨rfl, hrs, ht⟩ := hG
        have HRES := Lib.hid hres
        have HRS2 := Lib.hid hrs
        have HT2 := Lib.hid (HT1.out.then ht)
        have HT12 := Lib.hid ht
        clear hrs ht hres htm
        go_wp2_with fail
        go_ret
        rw [HRES.out]
        exact ⟨b, rfl, HRS2.out, HT2.out, (rd_later HT12.out (fun b e => .inl (by have := HBL.out; omega)) (Nat.le_refl _) HT12.out.size a).1 _ HRD.out, HP1.out⟩
      | some lh =>
        obtain ⟨lo, hi⟩ := lh
        rw [show timesP (str s) (PS.pos _) = some (some (lo, hi), j) from htm] at hG
        rw [htm] at hres
        obtain ⟨rfl, hrs, ht, hlo, hhi1, hhi2, hpj⟩ := hG
        dsimp only at hres
        have HRES0 := Lib.hid hres
        have HRS2 := Lib.hid hrs
        have HT2 := Lib.hid (HT1.out.then ht)
        have HT12 := Lib.hid ht
        have HPJ : Hid (p0 < j) := Lib.hid (by have h1 := HP1.out; have h2 : p1 < j := hpj; omega)
        have HZ2 := Lib.hid HT2.out.size
        have HZ12 := Lib.hid ht.size
        obtain ⟨kd, hk1, hk2⟩ := rd_kind HRD.out
        have hkl : w2.cell? ⟨b, 0, none⟩ = some (.int .i64 kd) := by
          obtain ⟨kd', h1, -⟩ := rd_kind ((rd_later HT12.out (fun b e => .inl (by have := HBL.out; omega)) (Nat.le_refl (w.heap.size)) HT12.out.size a).1 _ HRD.out)
          have hbb : b < w1.heap.size ∧ ¬ b = br := by
            have h2 := HRD.out
            have h3 : FP w.heap.size w1.heap.size b := rd_in h2
            have h4 := HBL.out
            exact ⟨h3.2, by have := h3.1; omega⟩
          exact ht.has hk1 hbb.2
        obtain ⟨ia, hia⟩ : ∃ ia, isAsr a = ia := ⟨_, rfl⟩
        have HIA := Lib.hid hia
        rw [hia] at hk2
        have HK2 := Lib.hid hk2
        clear hrs ht hres htm hpj hk1 hia hk2
        go_upto_region 5 with fail
        go_cut [30] from 11 to 68 (fun t wx => t = .bool ia ∧ wx = w2)
        case first =>
          by_cases k1 : 1 ≤ kd
          · have q1 : decide (1 ≤ kd) = true := by simp; omega
            obtain ⟨v, hv⟩ : ∃ v, decide (kd ≤ 6) = v := ⟨_, rfl⟩
            have HV : Hid (ia = v) := Lib.hid (by rw [HK2.out, q1, hv]; rfl)
            go_wp2_with fail
            go_meet
            exact ⟨congrArg Value.bool HV.out.symm, rfl⟩
          · have q1 : decide (1 ≤ kd) = false := by simp; omega
            have HV : Hid (ia = false) := Lib.hid (by rw [HK2.out, q1]; rfl)
            go_wp2_with fail
            go_meet
            exact ⟨congrArg Value.bool HV.out.symm, rfl⟩
        case rest =>
          obtain ⟨rfl, rfl⟩ := hcut
          have hres := HRES0.out
          rw [HIA.out] at hres
          clear HRES0
          cases ia with
          | true =>
            rw [if_pos rfl] at hres
            have HRES := Lib.hid hres
            clear hres
            go_wp2_with fail
            refine (fail_any _ _).mono ?_
            rintro e w9 ⟨rfl, rfl⟩
            refine ⟨rfl, ?_⟩
            rw [HRES.out]
            exact ⟨rfl, HT2.out⟩
          | false =>
            rw [if_neg (by decide)] at hres
            have HRES := Lib.hid hres
            clear hres hkl
            have HRS3 := Lib.hid (HRS2.out.keep ((Touch.refl (fun _ => False) _).alloc (.cells (nd 12 (.pointer none) 0 none 0 0 (.pointer (some ⟨b, 0, none⟩)) (lo : Int) hi 0) 78)) id)
            have HT3 := Lib.hid (HT2.out.alloc (.cells (nd 12 (.pointer none) 0 none 0 0 (.pointer (some ⟨b, 0, none⟩)) (lo : Int) hi 0) 78))
            have HT13 := Lib.hid (HT12.out.alloc (.cells (nd 12 (.pointer none) 0 none 0 0 (.pointer (some ⟨b, 0, none⟩)) (lo : Int) hi 0) 78))
            obtain ⟨w2, hw2⟩ : ∃ w, w = wc := ⟨_, rfl⟩
            subst hw2
            have HNB3 := Lib.hid (NB.made w2 (nd 12 (.pointer none) 0 none 0 0 (.pointer (some ⟨b, 0, none⟩)) (lo : Int) hi 0))
            obtain ⟨j1, hj1⟩ : ∃ j1, j + 1 = j1 := ⟨_, rfl⟩
            have HJ1 := Lib.hid hj1
            clear hj1
            go_wp2_with fail
            generalize w2.alloc (.cells (nd 12 (.pointer none) 0 none 0 0 (.pointer (some ⟨b, 0, none⟩)) (lo : Int) hi 0) 78) = w3 at *
            cases h1 : tk (str s) j [63] with
            | true =>
              have HHOW : Hid (howP (str s) a lo hi ⟨j, g1, r1⟩ = (.rep a lo hi true, ⟨j1, g1, r1⟩)) := Lib.hid (by unfold howP; rw [if_pos h1, ← HJ1.out])
              have HPOS : Hid (p0 < j1) := Lib.hid (by have h1 := HPJ.out; have h2 := HJ1.out; omega)
              have HTK := Lib.hid h1
              clear h1
              refine (take_yes br s ⟨#[63]⟩ deep _ _ HRS3.out HTK.out (by decide)).mono ?_
              rintro e w4 ⟨rfl, hrs, ht⟩
              have HRS4 := Lib.hid hrs
              have HT4 := Lib.hid (HT3.out.then ht)
              have HT14 := Lib.hid (HT13.out.then ht)
              have HNB4 := Lib.hid (HNB3.out.keep ht (by have := HBL.out; have := HZ2.out; omega))
              have hrs : RS br s deep ⟨j1, g1, r1⟩ w4 := by rw [← HJ1.out]; exact hrs
              have HRS4 := Lib.hid hrs
              clear hrs ht
              have hn7 := HNB4.out.holds (i := 7) rfl
              obtain ⟨hn7, hn7f⟩ := hn7
              obtain ⟨w5, hw5⟩ : ∃ w6, w4.setCell ⟨w2.heap.size, 7, none⟩ (.int .i64 1) = w6 := ⟨_, rfl⟩
              have ht : Touch (fun b => b = w2.heap.size) w4 w5 := by rw [← hw5]; exact Touch.setCell (Touch.refl (fun b => b = w2.heap.size) w4) (.inl rfl) _
              have HNB5 : Hid (NB w5 w2.heap.size (nd 12 (.pointer none) 0 none 0 0 (.pointer (some ⟨b, 0, none⟩)) (lo : Int) hi 1)) := Lib.hid (by rw [← hw5]; exact HNB4.out.put 7 _)
              have HRS5 := Lib.hid (HRS4.out.keep ht (by have := HBL.out; have := HZ2.out; omega))
              have HT5 := Lib.hid (HT4.out.trans ht (fun i e => .inr (by have := HZ2.out; omega)))
              have HT15 := Lib.hid (HT14.out.trans ht (fun i e => .inr (by have := HZ12.out; omega)))
              clear ht
              have hres : pieceP W (str s) ⟨p0, g0, r0⟩ = if again.contains (pk (str s) j1) = true then none else some (.rep a lo hi true, ⟨j1, g1, r1⟩) := by rw [HRES.out, HHOW.out]
              have hc0 := HRS5.out.c0
              have hc1 := HRS5.out.c1.1
              simp only at hc1
              have hpl := HRS5.out.le
              simp only at hpl
              by_cases hin : j1 < s.size
              · have q1 : decide ((j1 : Int) < (s.size : Int)) = true := by simp; omega
                have q1n : decide (j1 < s.size) = true := by simp; omega
                obtain ⟨cq, hcq0⟩ : ∃ cq, pk (str s) j1 = cq := ⟨_, rfl⟩
                have hcq := pk_256 s j1
                rw [hcq0] at hcq hres
                have HPKQ : Hid (∀ w', RS br s deep ⟨j1, g1, r1⟩ w' → Calls Try.prog 87 #[.pointer (some ⟨br, 0, none⟩)] w' fun e w'' => e = .returned (.int .u8 (cq : Int)) ∧ ∃ q, w'' = w'.drewN q) := Lib.hid (fun w' h => by rw [← hcq0]; exact peek_any br s deep _ w' h)
                obtain ⟨ib, hib⟩ : ∃ ib, Lib.indexByte ((⟨#[42, 43, 63, 123]⟩ : ByteArray).data.toList) ((cq : Int).toNat.toUInt8) = ib := ⟨_, rfl⟩
                have HIB : Hid (∀ w', Calls Try.prog 38 #[.string ⟨#[42, 43, 63, 123]⟩, .int .u8 (cq : Int)] w' fun e w'' => e = .returned (.int .i64 ib) ∧ w'' = w') := Lib.hid (fun w' => by rw [← hib]; exact Try.strings_IndexByte _ _ w')
                have hag := again_ib cq hcq
                rw [hib] at hag
                clear hcq0 hib
                cases hcase : again.contains cq with
                | true =>
                  have q2 : decide (0 ≤ ib) = true := hag.trans hcase
                  rw [if_pos hcase] at hres
                  have HRES2 := Lib.hid hres
                  clear hag hcase hres hin
                  go_wp2_with fail
                  go_quiet ((first
                    | (go_at_call 87; exact Calls.quiet_of (HPKQ.out _ (by first | exact HRS5.out | exact HRS5.out.drewN _)))
                    | (go_at_call 38; exact Calls.quiet_of_same (HIB.out _))))
                  have HRSf := Lib.hid (HRS5.out.drewN nq)
                  have HTf := Lib.hid (HT5.out.drewN nq)
                  have HT1f := Lib.hid (HT15.out.drewN nq)
                  have HNBf := Lib.hid (HNB5.out.keep (still_drewN (S := fun _ => False) _ nq) id)
                  generalize w5.drewN nq = wf at *
                  go_wp2_with fail
                  refine (fail_any _ _).mono ?_
                  rintro e w9 ⟨rfl, rfl⟩
                  refine ⟨rfl, ?_⟩
                  rw [HRES2.out]
                  exact ⟨rfl, HTf.out⟩
                | false =>
                  have q2 : decide (0 ≤ ib) = false := hag.trans hcase
                  rw [if_neg (by rw [hcase]; decide)] at hres
                  have HRES2 := Lib.hid hres
                  clear hag hcase hres hin
                  go_wp2_with fail
                  go_quiet ((first
                    | (go_at_call 87; exact Calls.quiet_of (HPKQ.out _ (by first | exact HRS5.out | exact HRS5.out.drewN _)))
                    | (go_at_call 38; exact Calls.quiet_of_same (HIB.out _))))
                  have HRSf := Lib.hid (HRS5.out.drewN nq)
                  have HTf := Lib.hid (HT5.out.drewN nq)
                  have HT1f := Lib.hid (HT15.out.drewN nq)
                  have HNBf := Lib.hid (HNB5.out.keep (still_drewN (S := fun _ => False) _ nq) id)
                  generalize w5.drewN nq = wf at *
                  go_wp2_with fail
                  go_ret
                  rw [HRES2.out]
                  have hl := HNBf.out.lt
                  exact ⟨w2.heap.size, rfl, HRSf.out, HTf.out, ⟨w2.heap.size, _, _, _, _, _, _, rfl, HNBf.out.node ⟨HZ2.out, hl⟩, hlo, hhi1, hhi2, (rd_later HT1f.out (fun b e => .inl (by have := HBL.out; omega)) (Nat.le_refl _) HT1f.out.size a).1 _ HRD.out⟩, HPOS.out⟩
              · have q1 : decide ((j1 : Int) < (s.size : Int)) = false := by simp; omega
                have q1n : decide (j1 < s.size) = false := by simp; omega
                rw [pk_ge (by omega), if_neg (by decide)] at hres
                have HRES2 := Lib.hid hres
                clear hres hin
                go_wp2_with fail
                go_quiet ((first
                  | (go_at_call 87; exact Calls.quiet_of (HPKQ.out _ (by first | exact HRS5.out | exact HRS5.out.drewN _)))
                  | (go_at_call 38; exact Calls.quiet_of_same (HIB.out _))))
                have HRSf := Lib.hid (HRS5.out.drewN nq)
                have HTf := Lib.hid (HT5.out.drewN nq)
                have HT1f := Lib.hid (HT15.out.drewN nq)
                have HNBf := Lib.hid (HNB5.out.keep (still_drewN (S := fun _ => False) _ nq) id)
                generalize w5.drewN nq = wf at *
                go_wp2_with fail
                go_ret
                rw [HRES2.out]
                have hl := HNBf.out.lt
                exact ⟨w2.heap.size, rfl, HRSf.out, HTf.out, ⟨w2.heap.size, _, _, _, _, _, _, rfl, HNBf.out.node ⟨HZ2.out, hl⟩, hlo, hhi1, hhi2, (rd_later HT1f.out (fun b e => .inl (by have := HBL.out; omega)) (Nat.le_refl _) HT1f.out.size a).1 _ HRD.out⟩, HPOS.out⟩
            | false =>
              cases h2 : tk (str s) j [43] with
              | true =>
                have HHOW : Hid (howP (str s) a lo hi ⟨j, g1, r1⟩ = (.poss a lo hi, ⟨j1, g1, r1⟩)) := Lib.hid (by unfold howP; rw [if_neg (by rw [h1]; decide), if_pos h2, ← HJ1.out])
                have HPOS : Hid (p0 < j1) := Lib.hid (by have h1 := HPJ.out; have h2 := HJ1.out; omega)
                have HTK := Lib.hid h1
                have HTK2 := Lib.hid h2
                clear h1 h2
                refine (tk_no (t := ⟨#[63]⟩) HRS3.out HTK.out).mono ?_
                rintro e w3b ⟨rfl, hrs, ht⟩
                have HRS3b := Lib.hid hrs
                have HT3b := Lib.hid (HT3.out.then ht)
                have HT13b := Lib.hid (HT13.out.then ht)
                have HNB3b := Lib.hid (HNB3.out.keep ht (by have := HBL.out; have := HZ2.out; omega))
                clear hrs ht HTK
                go_wp2_with fail
                have HTK := HTK2
                refine (take_yes br s ⟨#[43]⟩ deep _ _ HRS3b.out HTK.out (by decide)).mono ?_
                rintro e w4 ⟨rfl, hrs, ht⟩
                have HRS4 := Lib.hid hrs
                have HT4 := Lib.hid (HT3b.out.then ht)
                have HT14 := Lib.hid (HT13b.out.then ht)
                have HNB4 := Lib.hid (HNB3b.out.keep ht (by have := HBL.out; have := HZ2.out; omega))
                have hrs : RS br s deep ⟨j1, g1, r1⟩ w4 := by rw [← HJ1.out]; exact hrs
                have HRS4 := Lib.hid hrs
                clear hrs ht
                have hn7 := HNB4.out.holds (i := 7) rfl
                obtain ⟨hn7, hn7f⟩ := hn7
                obtain ⟨w5, hw5⟩ : ∃ w6, w4.setCell ⟨w2.heap.size, 7, none⟩ (.int .i64 2) = w6 := ⟨_, rfl⟩
                have ht : Touch (fun b => b = w2.heap.size) w4 w5 := by rw [← hw5]; exact Touch.setCell (Touch.refl (fun b => b = w2.heap.size) w4) (.inl rfl) _
                have HNB5 : Hid (NB w5 w2.heap.size (nd 12 (.pointer none) 0 none 0 0 (.pointer (some ⟨b, 0, none⟩)) (lo : Int) hi 2)) := Lib.hid (by rw [← hw5]; exact HNB4.out.put 7 _)
                have HRS5 := Lib.hid (HRS4.out.keep ht (by have := HBL.out; have := HZ2.out; omega))
                have HT5 := Lib.hid (HT4.out.trans ht (fun i e => .inr (by have := HZ2.out; omega)))
                have HT15 := Lib.hid (HT14.out.trans ht (fun i e => .inr (by have := HZ12.out; omega)))
                clear ht
                have hres : pieceP W (str s) ⟨p0, g0, r0⟩ = if again.contains (pk (str s) j1) = true then none else some (.poss a lo hi, ⟨j1, g1, r1⟩) := by rw [HRES.out, HHOW.out]
                have hc0 := HRS5.out.c0
                have hc1 := HRS5.out.c1.1
                simp only at hc1
                have hpl := HRS5.out.le
                simp only at hpl
                by_cases hin : j1 < s.size
                · have q1 : decide ((j1 : Int) < (s.size : Int)) = true := by simp; omega
                  have q1n : decide (j1 < s.size) = true := by simp; omega
                  obtain ⟨cq, hcq0⟩ : ∃ cq, pk (str s) j1 = cq := ⟨_, rfl⟩
                  have hcq := pk_256 s j1
                  rw [hcq0] at hcq hres
                  have HPKQ : Hid (∀ w', RS br s deep ⟨j1, g1, r1⟩ w' → Calls Try.prog 87 #[.pointer (some ⟨br, 0, none⟩)] w' fun e w'' => e = .returned (.int .u8 (cq : Int)) ∧ ∃ q, w'' = w'.drewN q) := Lib.hid (fun w' h => by rw [← hcq0]; exact peek_any br s deep _ w' h)
                  obtain ⟨ib, hib⟩ : ∃ ib, Lib.indexByte ((⟨#[42, 43, 63, 123]⟩ : ByteArray).data.toList) ((cq : Int).toNat.toUInt8) = ib := ⟨_, rfl⟩
                  have HIB : Hid (∀ w', Calls Try.prog 38 #[.string ⟨#[42, 43, 63, 123]⟩, .int .u8 (cq : Int)] w' fun e w'' => e = .returned (.int .i64 ib) ∧ w'' = w') := Lib.hid (fun w' => by rw [← hib]; exact Try.strings_IndexByte _ _ w')
                  have hag := again_ib cq hcq
                  rw [hib] at hag
                  clear hcq0 hib
                  cases hcase : again.contains cq with
                  | true =>
                    have q2 : decide (0 ≤ ib) = true := hag.trans hcase
                    rw [if_pos hcase] at hres
                    have HRES2 := Lib.hid hres
                    clear hag hcase hres hin
                    go_wp2_with fail
                    go_quiet ((first
                      | (go_at_call 87; exact Calls.quiet_of (HPKQ.out _ (by first | exact HRS5.out | exact HRS5.out.drewN _)))
                      | (go_at_call 38; exact Calls.quiet_of_same (HIB.out _))))
                    have HRSf := Lib.hid (HRS5.out.drewN nq)
                    have HTf := Lib.hid (HT5.out.drewN nq)
                    have HT1f := Lib.hid (HT15.out.drewN nq)
                    have HNBf := Lib.hid (HNB5.out.keep (still_drewN (S := fun _ => False) _ nq) id)
                    generalize w5.drewN nq = wf at *
                    go_wp2_with fail
                    refine (fail_any _ _).mono ?_
                    rintro e w9 ⟨rfl, rfl⟩
                    refine ⟨rfl, ?_⟩
                    rw [HRES2.out]
                    exact ⟨rfl, HTf.out⟩
                  | false =>
                    have q2 : decide (0 ≤ ib) = false := hag.trans hcase
                    rw [if_neg (by rw [hcase]; decide)] at hres
                    have HRES2 := Lib.hid hres
                    clear hag hcase hres hin
                    go_wp2_with fail
                    go_quiet ((first
                      | (go_at_call 87; exact Calls.quiet_of (HPKQ.out _ (by first | exact HRS5.out | exact HRS5.out.drewN _)))
                      | (go_at_call 38; exact Calls.quiet_of_same (HIB.out _))))
                    have HRSf := Lib.hid (HRS5.out.drewN nq)
                    have HTf := Lib.hid (HT5.out.drewN nq)
                    have HT1f := Lib.hid (HT15.out.drewN nq)
                    have HNBf := Lib.hid (HNB5.out.keep (still_drewN (S := fun _ => False) _ nq) id)
                    generalize w5.drewN nq = wf at *
                    go_wp2_with fail
                    go_ret
                    rw [HRES2.out]
                    have hl := HNBf.out.lt
                    exact ⟨w2.heap.size, rfl, HRSf.out, HTf.out, ⟨w2.heap.size, _, _, _, _, _, _, rfl, HNBf.out.node ⟨HZ2.out, hl⟩, hlo, hhi1, hhi2, (rd_later HT1f.out (fun b e => .inl (by have := HBL.out; omega)) (Nat.le_refl _) HT1f.out.size a).1 _ HRD.out⟩, HPOS.out⟩
                · have q1 : decide ((j1 : Int) < (s.size : Int)) = false := by simp; omega
                  have q1n : decide (j1 < s.size) = false := by simp; omega
                  rw [pk_ge (by omega), if_neg (by decide)] at hres
                  have HRES2 := Lib.hid hres
                  clear hres hin
                  go_wp2_with fail
                  go_quiet ((first
                    | (go_at_call 87; exact Calls.quiet_of (HPKQ.out _ (by first | exact HRS5.out | exact HRS5.out.drewN _)))
                    | (go_at_call 38; exact Calls.quiet_of_same (HIB.out _))))
                  have HRSf := Lib.hid (HRS5.out.drewN nq)
                  have HTf := Lib.hid (HT5.out.drewN nq)
                  have HT1f := Lib.hid (HT15.out.drewN nq)
                  have HNBf := Lib.hid (HNB5.out.keep (still_drewN (S := fun _ => False) _ nq) id)
                  generalize w5.drewN nq = wf at *
                  go_wp2_with fail
                  go_ret
                  rw [HRES2.out]
                  have hl := HNBf.out.lt
                  exact ⟨w2.heap.size, rfl, HRSf.out, HTf.out, ⟨w2.heap.size, _, _, _, _, _, _, rfl, HNBf.out.node ⟨HZ2.out, hl⟩, hlo, hhi1, hhi2, (rd_later HT1f.out (fun b e => .inl (by have := HBL.out; omega)) (Nat.le_refl _) HT1f.out.size a).1 _ HRD.out⟩, HPOS.out⟩
              | false =>
                have HHOW : Hid (howP (str s) a lo hi ⟨j, g1, r1⟩ = (.rep a lo hi false, ⟨j, g1, r1⟩)) := Lib.hid (by unfold howP; rw [if_neg (by rw [h1]; decide), if_neg (by rw [h2]; decide)])
                have HPOS := HPJ
                have HTK := Lib.hid h1
                have HTK2 := Lib.hid h2
                clear h1 h2
                refine (tk_no (t := ⟨#[63]⟩) HRS3.out HTK.out).mono ?_
                rintro e w3b ⟨rfl, hrs, ht⟩
                have HRS3b := Lib.hid hrs
                have HT3b := Lib.hid (HT3.out.then ht)
                have HT13b := Lib.hid (HT13.out.then ht)
                have HNB3b := Lib.hid (HNB3.out.keep ht (by have := HBL.out; have := HZ2.out; omega))
                clear hrs ht HTK
                go_wp2_with fail
                have HTK := HTK2
                refine (tk_no (t := ⟨#[43]⟩) HRS3b.out HTK.out).mono ?_
                rintro e w5 ⟨rfl, hrs, ht⟩
                have HRS5 := Lib.hid hrs
                have HT5 := Lib.hid (HT3b.out.then ht)
                have HT15 := Lib.hid (HT13b.out.then ht)
                have HNB5 := Lib.hid (HNB3b.out.keep ht (by have := HBL.out; have := HZ2.out; omega))
                clear hrs ht HTK
                have hres : pieceP W (str s) ⟨p0, g0, r0⟩ = if again.contains (pk (str s) j) = true then none else some (.rep a lo hi false, ⟨j, g1, r1⟩) := by rw [HRES.out, HHOW.out]
                have hc0 := HRS5.out.c0
                have hc1 := HRS5.out.c1.1
                simp only at hc1
                have hpl := HRS5.out.le
                simp only at hpl
                by_cases hin : j < s.size
                · have q1 : decide ((j : Int) < (s.size : Int)) = true := by simp; omega
                  have q1n : decide (j < s.size) = true := by simp; omega
                  obtain ⟨cq, hcq0⟩ : ∃ cq, pk (str s) j = cq := ⟨_, rfl⟩
                  have hcq := pk_256 s j
                  rw [hcq0] at hcq hres
                  have HPKQ : Hid (∀ w', RS br s deep ⟨j, g1, r1⟩ w' → Calls Try.prog 87 #[.pointer (some ⟨br, 0, none⟩)] w' fun e w'' => e = .returned (.int .u8 (cq : Int)) ∧ ∃ q, w'' = w'.drewN q) := Lib.hid (fun w' h => by rw [← hcq0]; exact peek_any br s deep _ w' h)
                  obtain ⟨ib, hib⟩ : ∃ ib, Lib.indexByte ((⟨#[42, 43, 63, 123]⟩ : ByteArray).data.toList) ((cq : Int).toNat.toUInt8) = ib := ⟨_, rfl⟩
                  have HIB : Hid (∀ w', Calls Try.prog 38 #[.string ⟨#[42, 43, 63, 123]⟩, .int .u8 (cq : Int)] w' fun e w'' => e = .returned (.int .i64 ib) ∧ w'' = w') := Lib.hid (fun w' => by rw [← hib]; exact Try.strings_IndexByte _ _ w')
                  have hag := again_ib cq hcq
                  rw [hib] at hag
                  clear hcq0 hib
                  cases hcase : again.contains cq with
                  | true =>
                    have q2 : decide (0 ≤ ib) = true := hag.trans hcase
                    rw [if_pos hcase] at hres
                    have HRES2 := Lib.hid hres
                    clear hag hcase hres hin
                    go_wp2_with fail
                    go_quiet ((first
                      | (go_at_call 87; exact Calls.quiet_of (HPKQ.out _ (by first | exact HRS5.out | exact HRS5.out.drewN _)))
                      | (go_at_call 38; exact Calls.quiet_of_same (HIB.out _))))
                    have HRSf := Lib.hid (HRS5.out.drewN nq)
                    have HTf := Lib.hid (HT5.out.drewN nq)
                    have HT1f := Lib.hid (HT15.out.drewN nq)
                    have HNBf := Lib.hid (HNB5.out.keep (still_drewN (S := fun _ => False) _ nq) id)
                    generalize w5.drewN nq = wf at *
                    go_wp2_with fail
                    refine (fail_any _ _).mono ?_
                    rintro e w9 ⟨rfl, rfl⟩
                    refine ⟨rfl, ?_⟩
                    rw [HRES2.out]
                    exact ⟨rfl, HTf.out⟩
                  | false =>
                    have q2 : decide (0 ≤ ib) = false := hag.trans hcase
                    rw [if_neg (by rw [hcase]; decide)] at hres
                    have HRES2 := Lib.hid hres
                    clear hag hcase hres hin
                    go_wp2_with fail
                    go_quiet ((first
                      | (go_at_call 87; exact Calls.quiet_of (HPKQ.out _ (by first | exact HRS5.out | exact HRS5.out.drewN _)))
                      | (go_at_call 38; exact Calls.quiet_of_same (HIB.out _))))
                    have HRSf := Lib.hid (HRS5.out.drewN nq)
                    have HTf := Lib.hid (HT5.out.drewN nq)
                    have HT1f := Lib.hid (HT15.out.drewN nq)
                    have HNBf := Lib.hid (HNB5.out.keep (still_drewN (S := fun _ => False) _ nq) id)
                    generalize w5.drewN nq = wf at *
                    go_wp2_with fail
                    go_ret
                    rw [HRES2.out]
                    have hl := HNBf.out.lt
                    exact ⟨w2.heap.size, rfl, HRSf.out, HTf.out, ⟨w2.heap.size, _, _, _, _, _, _, rfl, HNBf.out.node ⟨HZ2.out, hl⟩, hlo, hhi1, hhi2, (rd_later HT1f.out (fun b e => .inl (by have := HBL.out; omega)) (Nat.le_refl _) HT1f.out.size a).1 _ HRD.out⟩, HPOS.out⟩
                · have q1 : decide ((j : Int) < (s.size : Int)) = false := by simp; omega
                  have q1n : decide (j < s.size) = false := by simp; omega
                  rw [pk_ge (by omega), if_neg (by decide)] at hres
                  have HRES2 := Lib.hid hres
                  clear hres hin
                  go_wp2_with fail
                  go_quiet ((first
                    | (go_at_call 87; exact Calls.quiet_of (HPKQ.out _ (by first | exact HRS5.out | exact HRS5.out.drewN _)))
                    | (go_at_call 38; exact Calls.quiet_of_same (HIB.out _))))
                  have HRSf := Lib.hid (HRS5.out.drewN nq)
                  have HTf := Lib.hid (HT5.out.drewN nq)
                  have HT1f := Lib.hid (HT15.out.drewN nq)
                  have HNBf := Lib.hid (HNB5.out.keep (still_drewN (S := fun _ => False) _ nq) id)
                  generalize w5.drewN nq = wf at *
                  go_wp2_with fail
                  go_ret
                  rw [HRES2.out]
                  have hl := HNBf.out.lt
                  exact ⟨w2.heap.size, rfl, HRSf.out, HTf.out, ⟨w2.heap.size, _, _, _, _, _, _, rfl, HNBf.out.node ⟨HZ2.out, hl⟩, hlo, hhi1, hhi2, (rd_later HT1f.out (fun b e => .inl (by have := HBL.out; omega)) (Nat.le_refl _) HT1f.out.size a).1 _ HRD.out⟩, HPOS.out⟩
end Go.Proofs.Ytlgpilcjcomacaa
