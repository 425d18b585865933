/-
  Texts Rm, Rn in one.
-/
import Derived.Test.YtlgpilcjcomacaaGreatBf
import Derived.Test.YtlgpilcjcomacaaGreatBa
/-
  The document's atom. (Printed by wip/tools/ratom07.py.)
-/
namespace Go.Proofs.YtlgpilcjcomacaaGreat
open Go.RowKit Rx
set_option linter.unusedVariables false

set_option maxRecDepth 100000 in
set_option maxHeartbeats 8000000 in
theorem ratom_any (br : Nat) (s : ByteArray) (deep : Nat) (st : PS) (w : World) (W : PS → Option (Re × PS)) (hG : ∀ st' w', RR br s deep st' w' → Calls Tryz.prog 101 #[.pointer (some ⟨br, 0, none⟩)] w' (NPostD br s deep w' (grpP W (str s) st'))) (h : RR br s deep st w) (hlt : st.pos < s.size) (hb : pk (str s) st.pos ≠ 124) (hp : pk (str s) st.pos ≠ 41) :
    Calls Tryz.prog 92 #[.pointer (some ⟨br, 0, none⟩)] w (NPostD br s deep w (atomP W (str s) st)) := by
  have hsz := h.sz
  have HRS0 := Lib.hid h
  have HT0 : Hid (Touch (fun b => b = br) w w) := Lib.hid (Touch.refl _ _)
  have HG := Lib.hid hG
  obtain ⟨w0, hw0⟩ : ∃ w0, w0 = w := ⟨_, rfl⟩
  obtain ⟨i, hi⟩ : ∃ i, st.pos = i := ⟨_, rfl⟩
  have HI := Lib.hid hi
  have HPI : Hid (({ st with pos := i } : PS) = st) := Lib.hid (by rw [← HI.out])
  rw [hi] at hlt hb hp
  rw [← hw0] at HRS0 HT0 ⊢
  rw [← HPI.out] at HRS0
  obtain ⟨c, hc⟩ : ∃ c, pk (str s) i = c := ⟨_, rfl⟩
  have hc256 := pk_256 s i
  rw [hc] at hc256 hb hp
  have HC := Lib.hid hc
  have HATOM : Hid (atomP W (str s) st = if c = 92 then escP (str s) { st with pos := i + 1 }
    else if c = 46 then some (.set (fun x => !decide (x = 10)), { st with pos := i + 1 })
    else if c = 94 then some (.asr 1, { st with pos := i + 1 })
    else if c = 36 then some (.asr 2, { st with pos := i + 1 })
    else if c = 91 then (match classAll (str s) (i + 1) with
      | none => none
      | some (f, j) => some (.set f, { st with pos := j }))
    else if c = 40 then grpP W (str s) { st with pos := i + 1 }
    else if stops.contains c = true then none
    else some (oneR c, { st with pos := i + 1 })) := Lib.hid (by unfold atomP; rw [HI.out, HC.out]; rfl)
  generalize atomP W (str s) st = res at HATOM ⊢
  have hw1 := IntWalk.i64_in ((i : Int) + 1) (by omega)
  clear h hw0 hi hc hG
  by_cases h46 : c = 46
  · subst h46
    have HR : Hid (res = some (.set (fun x => !decide (x = 10)), { st with pos := i + 1 })) := Lib.hid (HATOM.out.trans rfl)
    clear HATOM
    go_enter Tryz.func92, Tryz.ntmps92
    go_wp2_with fail
    refine (rpeek_rr HRS0.out).mono ?_
    rintro e w1 ⟨he, q, hq⟩
    rw [show pk (str s) (PS.pos _) = 46 from HC.out] at he
    subst he
    have HRS1 := Lib.hid (HRS0.out.drewN q)
    have HT1 := Lib.hid (HT0.out.drewN q)
    rw [← hq] at HRS1 HT1
    clear hq
    have hc1 := HRS1.out.c1
    obtain ⟨hc1, hc1f⟩ := hc1
    simp only at hc1 hc1f
    obtain ⟨w2, hw2⟩ : ∃ w2, w1.setCell ⟨br, 1, none⟩ (.int .i64 ((i : Int) + 1)) = w2 := ⟨_, rfl⟩
    have HRS2 := Lib.hid (HRS1.out.setPos (i + 1) (by show i + 1 ≤ s.size; omega))
    rw [show ((i + 1 : Nat) : Int) = (i : Int) + 1 from by omega, hw2] at HRS2
    have HT2 := Lib.hid (Touch.then HT1.out (Touch.setCell (p := ⟨br, 1, none⟩) (Touch.refl (fun b => b = br) w1) (.inl rfl) (.int .i64 ((i : Int) + 1))))
    rw [hw2] at HT2
    have HN0 := Lib.hid (node_new w2 0)
    have HSZ : Hid (w0.heap.size ≤ w2.heap.size) := Lib.hid HT2.out.size
    obtain ⟨w3, hw3⟩ : ∃ w3, w2.alloc (.cells (Tryz.zeroCells97.setIfInBounds 0 (.int .i64 0)) 97) = w3 := ⟨_, rfl⟩
    have t23 : Still w2 w3 := by rw [← hw3]; exact (Touch.refl _ _).alloc _
    rw [hw3] at HN0
    have HRS3 := Lib.hid (HRS2.out.keep t23 id)
    have HT3 := Lib.hid (HT2.out.then (t23.mono (S1 := fun b => b = br) (fun _ _ e => e.elim)))
    have HNB : Hid (w2.heap.size ≠ br) := Lib.hid (by have := HRS2.out.lt; omega)
    obtain ⟨nb, hnb⟩ : ∃ nb, w2.heap.size = nb := ⟨_, rfl⟩
    have HNBE := Lib.hid hnb
    rw [hnb] at HN0 HNB
    have HNV : Hid (NodeB w3 nb (VS (upTo (fun _ => false) (fun x => !decide (x = 10)) 0))) := Lib.hid (HN0.out.congrSet (g := upTo (fun _ => false) (fun x => !decide (x = 10)) 0) (fun x _ => by simp [upTo]))
    clear t23 HN0
    go_wp2_with fail
    clear hw2 hc1 hc1f hw3
    go_loopw [5] (fun q wq => ∃ j : Nat, q = .int .i64 j ∧ j ≤ 256 ∧ Hid (NodeB wq nb (VS (upTo (fun _ => false) (fun x => !decide (x = 10)) j))) ∧ Hid (Touch (fun b => b = nb) w3 wq)) (fun q _ => 256 - (intOf q).toNat)
    case atStart => exact ⟨0, rfl, by omega, HNV, Lib.hid (Touch.refl _ _)⟩
    case round =>
      obtain ⟨j, rfl, hj, HSq, HTq⟩ := hrel
      by_cases hltq : j < 256
      · have hx := HSq.out.cell (i := 1 + j) (by omega)
        rw [nv_set _ hltq] at hx
        obtain ⟨hx1, hx2⟩ := hx
        have hq256 : (j : Int) < 256 := by omega
        have hwj := IntWalk.i64_in ((j : Int) + 1) (by omega)
        by_cases h10 : j = 10
        · subst h10
          have HS6 : Hid (NodeB (wr.setCell ⟨nb, 1 + 10, none⟩ (.bool false)) nb (VS (upTo (fun _ => false) (fun x => !decide (x = 10)) 11))) := Lib.hid ((HSq.out.setOne hltq false).congrSet (g := upTo (fun _ => false) (fun x => !decide (x = 10)) 11) (fun x _ => by
            show (if x = 10 then false else upTo (fun _ => false) (fun x => !decide (x = 10)) 10 x) = _
            unfold upTo
            by_cases e : x = 10
            · subst e; simp
            · rw [if_neg e]
              by_cases hl : x < 10
              · simp [hl, show x < 11 by omega]
              · simp [hl, show ¬ x < 11 by omega]))
          have HT6 : Hid (Touch (fun b => b = nb) w3 (wr.setCell ⟨nb, 1 + 10, none⟩ (.bool false))) := Lib.hid (Touch.setCell HTq.out (.inl rfl) _)
          go_wp2_with fail
          go_roundw
          case rel => exact ⟨11, by go_num, by omega, HS6, HT6⟩
          case measure => simp [intOf]
        · have q10 : ((j : Int) != 10) = true := by rw [bne_iff_ne]; omega
          have HS6 : Hid (NodeB (wr.setCell ⟨nb, 1 + j, none⟩ (.bool true)) nb (VS (upTo (fun _ => false) (fun x => !decide (x = 10)) (j + 1)))) := Lib.hid (by
            have := HSq.out.setOne hltq true
            rw [show (fun x => if x = j then true else (VS (upTo (fun _ => false) (fun x => !decide (x = 10)) j)).set x) = upTo (fun _ => false) (fun x => !decide (x = 10)) (j + 1) from upTo_yes (g := fun _ => false) (f := fun x => !decide (x = 10)) (j := j) (by show (!decide (j = 10)) = true; rw [decide_eq_false h10]; rfl)] at this
            exact this)
          have HT6 : Hid (Touch (fun b => b = nb) w3 (wr.setCell ⟨nb, 1 + j, none⟩ (.bool true))) := Lib.hid (Touch.setCell HTq.out (.inl rfl) _)
          clear h10
          go_wp2_with fail
          go_roundw
          case rel => exact ⟨j + 1, by go_num, by omega, HS6, HT6⟩
          case measure => simp [intOf]; omega
      · obtain rfl : j = 256 := by omega
        have HTE := Lib.hid (HT3.out.trans HTq.out (fun i e => .inr (by have := HNBE.out; have := HSZ.out; omega)))
        have HRE := Lib.hid (HRS3.out.keep HTq.out (Ne.symm HNB.out))
        have HNE : Hid (NodeB wr nb (VS (fun x => !decide (x = 10)))) := Lib.hid (HSq.out.congrSet (g := fun x => !decide (x = 10)) (fun x hx => by unfold upTo; simp [hx]))
        go_wp2_with fail
        go_ret
        rw [HR.out]
        exact ⟨nb, rfl, HRE.out, HTE.out, set_nodeD HNE.out _ _ (by have := HNBE.out; have := HSZ.out; omega) HNE.out.lt⟩
  by_cases h94 : c = 94
  · subst h94
    have HR : Hid (res = some (.asr 1, { st with pos := i + 1 })) := Lib.hid (HATOM.out.trans rfl)
    clear HATOM
    go_enter Tryz.func92, Tryz.ntmps92
    go_wp2_with fail
    refine (rpeek_rr HRS0.out).mono ?_
    rintro e w1 ⟨he, q, hq⟩
    rw [show pk (str s) (PS.pos _) = 94 from HC.out] at he
    subst he
    have HRS1 := Lib.hid (HRS0.out.drewN q)
    have HT1 := Lib.hid (HT0.out.drewN q)
    rw [← hq] at HRS1 HT1
    clear hq
    have hc1 := HRS1.out.c1
    obtain ⟨hc1, hc1f⟩ := hc1
    simp only at hc1 hc1f
    obtain ⟨w2, hw2⟩ : ∃ w2, w1.setCell ⟨br, 1, none⟩ (.int .i64 ((i : Int) + 1)) = w2 := ⟨_, rfl⟩
    have HRS2 := Lib.hid (HRS1.out.setPos (i + 1) (by show i + 1 ≤ s.size; omega))
    rw [show ((i + 1 : Nat) : Int) = (i : Int) + 1 from by omega, hw2] at HRS2
    have HT2 := Lib.hid (Touch.then HT1.out (Touch.setCell (p := ⟨br, 1, none⟩) (Touch.refl (fun b => b = br) w1) (.inl rfl) (.int .i64 ((i : Int) + 1))))
    rw [hw2] at HT2
    have HSZ : Hid (w0.heap.size ≤ w2.heap.size) := Lib.hid HT2.out.size
    go_wp2_with fail
    clear hw2 hc1 hc1f
    go_ret
    rw [HR.out]
    have ta : Still w2 (w2.alloc (.cells ((Tryz.zeroCells97.setIfInBounds 0 (.int .i64 1)).setIfInBounds 257 (.int .u8 (94 : Nat))) 97)) := (Touch.refl _ _).alloc _
    exact ⟨w2.heap.size, rfl, HRS2.out.keep ta id, HT2.out.then (ta.mono (fun _ _ e => e.elim)), asr_new w2 1 94 (by decide) (by decide) rfl _ _ HSZ.out (by simp)⟩
  by_cases h36 : c = 36
  · subst h36
    have HR : Hid (res = some (.asr 2, { st with pos := i + 1 })) := Lib.hid (HATOM.out.trans rfl)
    clear HATOM
    go_enter Tryz.func92, Tryz.ntmps92
    go_wp2_with fail
    refine (rpeek_rr HRS0.out).mono ?_
    rintro e w1 ⟨he, q, hq⟩
    rw [show pk (str s) (PS.pos _) = 36 from HC.out] at he
    subst he
    have HRS1 := Lib.hid (HRS0.out.drewN q)
    have HT1 := Lib.hid (HT0.out.drewN q)
    rw [← hq] at HRS1 HT1
    clear hq
    have hc1 := HRS1.out.c1
    obtain ⟨hc1, hc1f⟩ := hc1
    simp only at hc1 hc1f
    obtain ⟨w2, hw2⟩ : ∃ w2, w1.setCell ⟨br, 1, none⟩ (.int .i64 ((i : Int) + 1)) = w2 := ⟨_, rfl⟩
    have HRS2 := Lib.hid (HRS1.out.setPos (i + 1) (by show i + 1 ≤ s.size; omega))
    rw [show ((i + 1 : Nat) : Int) = (i : Int) + 1 from by omega, hw2] at HRS2
    have HT2 := Lib.hid (Touch.then HT1.out (Touch.setCell (p := ⟨br, 1, none⟩) (Touch.refl (fun b => b = br) w1) (.inl rfl) (.int .i64 ((i : Int) + 1))))
    rw [hw2] at HT2
    have HSZ : Hid (w0.heap.size ≤ w2.heap.size) := Lib.hid HT2.out.size
    go_wp2_with fail
    clear hw2 hc1 hc1f
    go_ret
    rw [HR.out]
    have ta : Still w2 (w2.alloc (.cells ((Tryz.zeroCells97.setIfInBounds 0 (.int .i64 1)).setIfInBounds 257 (.int .u8 (36 : Nat))) 97)) := (Touch.refl _ _).alloc _
    exact ⟨w2.heap.size, rfl, HRS2.out.keep ta id, HT2.out.then (ta.mono (fun _ _ e => e.elim)), asr_new w2 2 36 (by decide) (by decide) rfl _ _ HSZ.out (by simp)⟩
  by_cases h91 : c = 91
  · subst h91
    have HRC : Hid (res = match classAll (str s) (i + 1) with
          | none => none
          | some (f, j) => some (.set f, { st with pos := j })) := Lib.hid (HATOM.out.trans rfl)
    clear HATOM
    go_enter Tryz.func92, Tryz.ntmps92
    go_wp2_with fail
    refine (rpeek_rr HRS0.out).mono ?_
    rintro e w1 ⟨he, q, hq⟩
    rw [show pk (str s) (PS.pos _) = 91 from HC.out] at he
    subst he
    have HRS1 := Lib.hid (HRS0.out.drewN q)
    have HT1 := Lib.hid (HT0.out.drewN q)
    rw [← hq] at HRS1 HT1
    clear hq
    have hc1 := HRS1.out.c1
    obtain ⟨hc1, hc1f⟩ := hc1
    simp only at hc1 hc1f
    obtain ⟨w2, hw2⟩ : ∃ w2, w1.setCell ⟨br, 1, none⟩ (.int .i64 ((i : Int) + 1)) = w2 := ⟨_, rfl⟩
    have HRS2 := Lib.hid (HRS1.out.setPos (i + 1) (by show i + 1 ≤ s.size; omega))
    rw [show ((i + 1 : Nat) : Int) = (i : Int) + 1 from by omega, hw2] at HRS2
    have HT2 := Lib.hid (Touch.then HT1.out (Touch.setCell (p := ⟨br, 1, none⟩) (Touch.refl (fun b => b = br) w1) (.inl rfl) (.int .i64 ((i : Int) + 1))))
    rw [hw2] at HT2
    have HCL := Lib.hid (rclass_any br s deep { st with pos := i + 1 } w2 HRS2.out)
    simp only at HCL
    cases hca : classAll (str s) (i + 1) with
    | none =>
      rw [hca] at HCL HRC
      clear hca
      go_wp2_with fail
      clear hw2 hc1 hc1f
      refine HCL.out.mono ?_
      rintro e w3 ⟨b, rfl, hrx, ht⟩
      have HRX := Lib.hid hrx
      have HT3 := Lib.hid (HT2.out.then ht)
      clear hrx ht
      go_wp2_with fail
      go_ret
      rw [HRC.out]
      exact ⟨_, rfl, HRX.out, HT3.out⟩
    | some x =>
      obtain ⟨f, j⟩ := x
      rw [hca] at HCL HRC
      clear hca
      go_wp2_with fail
      clear hw2 hc1 hc1f
      refine HCL.out.mono ?_
      rintro e w3 ⟨b, rfl, hbl, hn, hrs, ht, -⟩
      have HRS3 : Hid (RR br s deep { st with pos := j } w3) := Lib.hid hrs
      have HT3 := Lib.hid (HT2.out.then ht)
      have HN3 := Lib.hid hn
      have HBL : Hid (w0.heap.size ≤ b) := Lib.hid (Nat.le_trans HT2.out.size hbl)
      clear hn hrs ht hbl
      go_wp2_with fail
      go_ret
      rw [HRC.out]
      exact ⟨b, rfl, HRS3.out, HT3.out, set_nodeD HN3.out _ _ HBL.out HN3.out.lt⟩
  by_cases h40 : c = 40
  · subst h40
    have HRC : Hid (res = grpP W (str s) { st with pos := i + 1 }) := Lib.hid (HATOM.out.trans rfl)
    clear HATOM
    go_enter Tryz.func92, Tryz.ntmps92
    go_wp2_with fail
    refine (rpeek_rr HRS0.out).mono ?_
    rintro e w1 ⟨he, q, hq⟩
    rw [show pk (str s) (PS.pos _) = 40 from HC.out] at he
    subst he
    have HRS1 := Lib.hid (HRS0.out.drewN q)
    have HT1 := Lib.hid (HT0.out.drewN q)
    rw [← hq] at HRS1 HT1
    clear hq
    have hc1 := HRS1.out.c1
    obtain ⟨hc1, hc1f⟩ := hc1
    simp only at hc1 hc1f
    obtain ⟨w2, hw2⟩ : ∃ w2, w1.setCell ⟨br, 1, none⟩ (.int .i64 ((i : Int) + 1)) = w2 := ⟨_, rfl⟩
    have HRS2 := Lib.hid (HRS1.out.setPos (i + 1) (by show i + 1 ≤ s.size; omega))
    rw [show ((i + 1 : Nat) : Int) = (i : Int) + 1 from by omega, hw2] at HRS2
    have HT2 := Lib.hid (Touch.then HT1.out (Touch.setCell (p := ⟨br, 1, none⟩) (Touch.refl (fun b => b = br) w1) (.inl rfl) (.int .i64 ((i : Int) + 1))))
    rw [hw2] at HT2
    have HCL := Lib.hid (HG.out { st with pos := i + 1 } w2 HRS2.out)
    have HSZ : Hid (w0.heap.size ≤ w2.heap.size) := Lib.hid HT2.out.size
    generalize grpP W (str s) { st with pos := i + 1 } = res2 at HCL HRC
    go_wp2_with fail
    clear hw2 hc1 hc1f
    refine HCL.out.mono ?_
    intro e w3 hG
    clear HCL
    cases res2 with
    | none =>
      obtain ⟨p, rfl, hrx, ht⟩ := hG
      have HRX := Lib.hid hrx
      have HT3 := Lib.hid (HT2.out.then ht)
      clear hrx ht
      go_wp2_with fail
      go_ret
      rw [HRC.out]
      exact ⟨_, rfl, HRX.out, HT3.out⟩
    | some x =>
      obtain ⟨a, st'⟩ := x
      obtain ⟨p, rfl, hrs, ht, hn⟩ := hG
      have HRS3 := Lib.hid hrs
      have HT3 := Lib.hid (HT2.out.then ht)
      have HN3 := Lib.hid ((rdD_mono (F' := FP w0.heap.size w3.heap.size) (fun b h => ⟨Nat.le_trans HSZ.out h.1, h.2⟩) (fun b h hl => rfl) a).1 _ hn)
      clear hrs ht hn
      go_wp2_with fail
      go_ret
      rw [HRC.out]
      exact ⟨p, rfl, HRS3.out, HT3.out, HN3.out⟩
  by_cases h92 : c = 92
  · subst h92
    have HRC : Hid (res = escP (str s) { st with pos := i + 1 }) := Lib.hid (HATOM.out.trans rfl)
    clear HATOM
    go_enter Tryz.func92, Tryz.ntmps92
    go_wp2_with fail
    refine (rpeek_rr HRS0.out).mono ?_
    rintro e w1 ⟨he, q, hq⟩
    rw [show pk (str s) (PS.pos _) = 92 from HC.out] at he
    subst he
    have HRS1 := Lib.hid (HRS0.out.drewN q)
    have HT1 := Lib.hid (HT0.out.drewN q)
    rw [← hq] at HRS1 HT1
    clear hq
    have hc1 := HRS1.out.c1
    obtain ⟨hc1, hc1f⟩ := hc1
    simp only at hc1 hc1f
    obtain ⟨w2, hw2⟩ : ∃ w2, w1.setCell ⟨br, 1, none⟩ (.int .i64 ((i : Int) + 1)) = w2 := ⟨_, rfl⟩
    have HRS2 := Lib.hid (HRS1.out.setPos (i + 1) (by show i + 1 ≤ s.size; omega))
    rw [show ((i + 1 : Nat) : Int) = (i : Int) + 1 from by omega, hw2] at HRS2
    have HT2 := Lib.hid (Touch.then HT1.out (Touch.setCell (p := ⟨br, 1, none⟩) (Touch.refl (fun b => b = br) w1) (.inl rfl) (.int .i64 ((i : Int) + 1))))
    rw [hw2] at HT2
    have HCL := Lib.hid (rescape_any br s deep { st with pos := i + 1 } w2 HRS2.out)
    have HSZ : Hid (w0.heap.size ≤ w2.heap.size) := Lib.hid HT2.out.size
    generalize escP (str s) { st with pos := i + 1 } = res2 at HCL HRC
    go_wp2_with fail
    clear hw2 hc1 hc1f
    refine HCL.out.mono ?_
    intro e w3 hG
    clear HCL
    cases res2 with
    | none =>
      obtain ⟨p, rfl, hrx, ht⟩ := hG
      have HRX := Lib.hid hrx
      have HT3 := Lib.hid (HT2.out.then ht)
      clear hrx ht
      go_wp2_with fail
      go_ret
      rw [HRC.out]
      exact ⟨_, rfl, HRX.out, HT3.out⟩
    | some x =>
      obtain ⟨a, st'⟩ := x
      obtain ⟨p, rfl, hrs, ht, hn⟩ := hG
      have HRS3 := Lib.hid hrs
      have HT3 := Lib.hid (HT2.out.then ht)
      have HN3 := Lib.hid ((rdD_mono (F' := FP w0.heap.size w3.heap.size) (fun b h => ⟨Nat.le_trans HSZ.out h.1, h.2⟩) (fun b h hl => rfl) a).1 _ hn)
      clear hrs ht hn
      go_wp2_with fail
      go_ret
      rw [HRC.out]
      exact ⟨p, rfl, HRS3.out, HT3.out, HN3.out⟩
  have HA2 : Hid (res = if stops.contains c = true then none else some (oneR c, { st with pos := i + 1 })) := Lib.hid (by rw [HATOM.out, if_neg h92, if_neg h46, if_neg h94, if_neg h36, if_neg h91, if_neg h40])
  have q46 : ((c : Int) == 46) = false := by simp; omega
  have q94 : ((c : Int) == 94) = false := by simp; omega
  have q36 : ((c : Int) == 36) = false := by simp; omega
  have q91 : ((c : Int) == 91) = false := by simp; omega
  have q40 : ((c : Int) == 40) = false := by simp; omega
  have q92 : ((c : Int) == 92) = false := by simp; omega
  have HIB := Lib.hid (fun w => Tryz.strings_IndexByte ⟨#[92, 94, 36, 46, 124, 63, 42, 43, 40, 41, 91, 93, 123, 125]⟩ (c : Int) w)
  have hib := ib_special c hc256
  obtain ⟨x, hx⟩ : ∃ x, Lib.indexByte (⟨#[92, 94, 36, 46, 124, 63, 42, 43, 40, 41, 91, 93, 123, 125]⟩ : ByteArray).data.toList ((c : Int).toNat.toUInt8) = x := ⟨_, rfl⟩
  rw [hx] at HIB
  rw [show Lib.indexByte [92, 94, 36, 46, 124, 63, 42, 43, 40, 41, 91, 93, 123, 125] ((c : Int).toNat.toUInt8) = x from hx] at hib
  have hst : ([92, 94, 36, 46, 124, 63, 42, 43, 40, 41, 91, 93, 123, 125] : List Nat).contains c = stops.contains c := by
    rw [Bool.eq_iff_iff]
    unfold stops
    simp only [List.contains_iff_mem, List.mem_cons, List.not_mem_nil, or_false]
    omega
  rw [hst] at hib
  have hc0 : stops.contains c = true → c ≠ 0 := fun h e => by rw [e] at h; exact absurd h (by decide)
  have HC0 := Lib.hid hc0
  clear hx hst HATOM h46 h94 h36 h91 h40 h92 hb hp hc0
  go_enter Tryz.func92, Tryz.ntmps92
  go_wp2_with fail
  refine (rpeek_rr HRS0.out).mono ?_
  rintro e w1 ⟨he, q, hq⟩
  rw [show pk (str s) (PS.pos _) = c from HC.out] at he
  subst he
  have HRS1 := Lib.hid (HRS0.out.drewN q)
  have HT1 := Lib.hid (HT0.out.drewN q)
  rw [← hq] at HRS1 HT1
  clear hq
  have hc1 := HRS1.out.c1
  obtain ⟨hc1, hc1f⟩ := hc1
  simp only at hc1 hc1f
  obtain ⟨w2, hw2⟩ : ∃ w2, w1.setCell ⟨br, 1, none⟩ (.int .i64 ((i : Int) + 1)) = w2 := ⟨_, rfl⟩
  have HRS2 := Lib.hid (HRS1.out.setPos (i + 1) (by show i + 1 ≤ s.size; omega))
  rw [show ((i + 1 : Nat) : Int) = (i : Int) + 1 from by omega, hw2] at HRS2
  have HT2 := Lib.hid (Touch.then HT1.out (Touch.setCell (p := ⟨br, 1, none⟩) (Touch.refl (fun b => b = br) w1) (.inl rfl) (.int .i64 ((i : Int) + 1))))
  rw [hw2] at HT2
  have HSZ : Hid (w0.heap.size ≤ w2.heap.size) := Lib.hid HT2.out.size
  cases hs : stops.contains c with
  | true =>
    have HR : Hid (res = none) := Lib.hid (by rw [HA2.out, if_pos hs])
    have q0 : ((c : Int) != 0) = true := by rw [bne_iff_ne]; have := HC0.out hs; omega
    rw [hs] at hib
    clear hs HA2
    go_wp2_with fail
    clear hw2 hc1 hc1f
    refine (HIB.out _).mono ?_
    rintro e w9 ⟨rfl, rfl⟩
    have hc5 := HRS2.out.c5
    obtain ⟨hc5, hc5f⟩ := hc5
    have HRS4 := Lib.hid HRS2.out.bad
    have HT4 : Hid (Touch (fun b => b = br) w0 (w9.setCell ⟨br, 5, none⟩ (.bool true))) := Lib.hid (Touch.setCell HT2.out (.inl rfl) _)
    have HON := Lib.hid (rone_any c hc256 (w9.setCell ⟨br, 5, none⟩ (.bool true)))
    go_wp2_with fail
    refine HON.out.mono ?_
    rintro e w6 ⟨rfl, ht, hz, hn⟩
    have HT6 := Lib.hid (HT4.out.then (ht.mono (fun _ _ e => e.elim)))
    have HRS6 := Lib.hid (HRS4.out.keep ht id)
    clear ht hz hn
    go_wp2_with fail
    go_ret
    rw [HR.out]
    exact ⟨_, rfl, HRS6.out, HT6.out⟩
  | false =>
    have HR : Hid (res = some (oneR c, { st with pos := i + 1 })) := Lib.hid (by rw [HA2.out, if_neg (by rw [hs]; decide)])
    rw [hs] at hib
    clear hs HA2
    have HON := Lib.hid (rone_any c hc256 w2)
    go_wp2_with fail
    clear hw2 hc1 hc1f
    refine (HIB.out _).mono ?_
    rintro e w9 ⟨rfl, rfl⟩
    go_wp2_with fail
    refine HON.out.mono ?_
    rintro e w6 ⟨rfl, ht, hz, hn⟩
    have HT6 := Lib.hid (HT2.out.then (ht.mono (fun _ _ e => e.elim)))
    have HRS6 := Lib.hid (HRS2.out.keep ht id)
    have HN6 := Lib.hid hn
    clear ht hz hn
    go_wp2_with fail
    go_ret
    rw [HR.out]
    exact ⟨_, rfl, HRS6.out, HT6.out, set_nodeD HN6.out _ _ HSZ.out HN6.out.lt⟩
end Go.Proofs.YtlgpilcjcomacaaGreat

/-
  The document's group. (Printed by wip/tools/rgroup07.py.)
-/
namespace Go.Proofs.YtlgpilcjcomacaaGreat
open Go.RowKit Rx
set_option linter.unusedVariables false

/-- A reader of the document between two checks. -/
structure RQ (br : Nat) (s : ByteArray) (deep : Nat) (st : PS) (w : World) : Prop where
  c0 : w.cell? ⟨br, 0, none⟩ = some (.string s)
  c1 : Holds w br 1 (.int .i64 st.pos)
  c2 : Holds w br 2 (.int .i64 st.grps)
  c3 : Holds w br 3 (.int .i64 deep)
  c4 : Holds w br 4 (.int .i64 st.refs)
  c5 : Holds w br 5 (.bool false)
  le : st.pos ≤ s.size
  sz : s.size ≤ 300
  gs : st.grps ≤ 10
  rs : st.refs ≤ 9
  dp : deep ≤ 11
theorem RR.rq {br : Nat} {s : ByteArray} {deep : Nat} {st : PS} {w : World} (h : RR br s deep st w) : RQ br s deep st w :=
  ⟨h.c0, h.c1, h.c2, h.c3, h.c4, h.c5, h.le, h.sz, by have := h.gs; omega, h.rs, by have := h.dp; omega⟩
theorem RQ.rr {br : Nat} {s : ByteArray} {deep : Nat} {st : PS} {w : World} (h : RQ br s deep st w) (hg : st.grps ≤ 9) (hd : deep ≤ 10) : RR br s deep st w :=
  ⟨h.c0, h.c1, h.c2, h.c3, h.c4, h.c5, h.le, h.sz, hg, h.rs, hd⟩
theorem RQ.keep {S : Nat → Prop} {br : Nat} {s : ByteArray} {deep : Nat} {st : PS} {w w' : World} (h : RQ br s deep st w) (t : Touch S w w') (hb : ¬ S br) : RQ br s deep st w' :=
  ⟨t.has h.c0 hb, h.c1.keep t hb, h.c2.keep t hb, h.c3.keep t hb, h.c4.keep t hb, h.c5.keep t hb, h.le, h.sz, h.gs, h.rs, h.dp⟩
theorem RQ.setGrps {br : Nat} {s : ByteArray} {deep : Nat} {st : PS} {w : World} (h : RQ br s deep st w) (j : Nat) (hj : j ≤ 10) : RQ br s deep { st with grps := j } (w.setCell ⟨br, 2, none⟩ (.int .i64 (j : Int))) :=
  ⟨cell_set_other h.c0 _ (.inr (by simp)), h.c1.set_other _ (.inr (by simp)), h.c2.set _, h.c3.set_other _ (.inr (by simp)), h.c4.set_other _ (.inr (by simp)), h.c5.set_other _ (.inr (by simp)), h.le, h.sz, hj, h.rs, h.dp⟩
theorem RQ.setDeep {br : Nat} {s : ByteArray} {deep : Nat} {st : PS} {w : World} (h : RQ br s deep st w) (j : Nat) (hj : j ≤ 11) : RQ br s j st (w.setCell ⟨br, 3, none⟩ (.int .i64 (j : Int))) :=
  ⟨cell_set_other h.c0 _ (.inr (by simp)), h.c1.set_other _ (.inr (by simp)), h.c2.set_other _ (.inr (by simp)), h.c3.set _, h.c4.set_other _ (.inr (by simp)), h.c5.set_other _ (.inr (by simp)), h.le, h.sz, h.gs, h.rs, hj⟩
theorem RQ.bad {br : Nat} {s : ByteArray} {deep : Nat} {st : PS} {w : World} (h : RQ br s deep st w) : RX br s (w.setCell ⟨br, 5, none⟩ (.bool true)) :=
  ⟨cell_set_other h.c0 _ (.inr (by simp)), ⟨_, h.le, h.c1.set_other _ (.inr (by simp))⟩, ⟨_, h.c2.set_other _ (.inr (by simp))⟩, ⟨_, h.c3.set_other _ (.inr (by simp))⟩, ⟨_, h.c4.set_other _ (.inr (by simp))⟩, h.c5.set _, h.sz⟩

/-- What comes back of alternatives of the document. -/
def AltD (br : Nat) (s : ByteArray) (deep : Nat) (w : World) : Option (Re × PS) → Ending → World → Prop
  | none, e, w' => ∃ p, e = .returned (.pointer p) ∧ RX br s w' ∧ Touch (fun b => b = br) w w'
  | some (a, st'), e, w' => ∃ p, e = .returned (.pointer (some ⟨p, 0, none⟩)) ∧ RR br s deep st' w' ∧ Touch (fun b => b = br) w w' ∧ EitherD (FP w.heap.size w'.heap.size) w' (rdD (FP w.heap.size w'.heap.size) w' a).ways (.pointer (some ⟨p, 0, none⟩))

/-- The document's alternatives, so deep. -/
def WOKD (br : Nat) (s : ByteArray) (deep : Nat) (W : PS → Option (Re × PS)) : Prop :=
  (deep = 11 → ∀ st, W st = none) ∧ (∀ st, again.contains (pk (str s) st.pos) = true → W st = none) ∧ (deep ≤ 10 → ∀ st w, RR br s deep st w → Calls Tryz.prog 56 #[.pointer (some ⟨br, 0, none⟩)] w (AltD br s deep w (W st)))

/-- A node of this kind and number, with the alternatives as its kid, is that tree. -/
def MkOK (mk : Re → Re) (K num : Int) : Prop := ∀ (F : Nat → Prop) (w : World) (p q : Value) (v : NV) (a : Re), AtD F w p v → v.kind = K → v.num = num → KidD F w v q → EitherD F w (rdD F w a).ways q → (rdD F w (mk a)).node p
theorem mk_plain (num : Int) : MkOK (.grp 0) 6 num := fun F w p q v a h1 h2 h3 h4 h5 => ⟨v, q, h1, h2, fun h => absurd rfl h, Nat.zero_le _, h4, h5⟩
theorem mk_look (num : Int) : MkOK (.look false) 7 num := fun F w p q v a h1 h2 h3 h4 h5 => ⟨v, q, h1, h2, h4, h5⟩
theorem mk_not (num : Int) : MkOK (.look true) 8 num := fun F w p q v a h1 h2 h3 h4 h5 => ⟨v, q, h1, h2, h4, h5⟩
theorem mk_atom (num : Int) : MkOK .atom 9 num := fun F w p q v a h1 h2 h3 h4 h5 => ⟨v, q, h1, h2, h4, h5⟩
theorem mk_grp (m : Nat) (h0 : m ≠ 0) (h9 : m ≤ 9) : MkOK (.grp m) 5 (m : Int) := fun F w p q v a h1 h2 h3 h4 h5 => ⟨v, q, h1, by rw [h2, if_neg h0], fun _ => h3, h9, h4, h5⟩

theorem EitherD.mono {F F' : Nat → Prop} {w w' : World} (hF : ∀ b, F b → F' b) (hc : ∀ b, F b → b < w.heap.size → w'.heap[b]? = w.heap[b]?) {a : Re} {p : Value} (h : EitherD F w (rdD F w a).ways p) : EitherD F' w' (rdD F' w' a).ways p := by
  obtain ⟨v, ⟨b, e, hb, hv⟩, h2, h3, h4⟩ := h
  have hl := hv.lt
  obtain ⟨A, hA, hs⟩ := hv
  exact ⟨v, ⟨b, e, hF _ hb, ⟨A, (hc _ hb hl).trans hA, hs⟩⟩, h2, h3, (rdD_mono hF hc a).2.2 _ _ h4⟩

set_option maxRecDepth 100000 in
set_option maxHeartbeats 8000000 in
theorem rgroup_any (br : Nat) (s : ByteArray) (deep : Nat) (st : PS) (w : World) (W : PS → Option (Re × PS)) (hW : WOKD br s (deep + 1) W) (h : RR br s deep st w) :
    Calls Tryz.prog 101 #[.pointer (some ⟨br, 0, none⟩)] w (NPostD br s deep w (grpP W (str s) st)) := by
  have hsz := h.sz
  have hle := h.le
  have hdp := h.dp
  have hgs := h.gs
  have HW := Lib.hid hW
  obtain ⟨nb, hnb⟩ : ∃ nb, w.heap.size = nb := ⟨_, rfl⟩
  obtain ⟨w1, hw1⟩ : ∃ w1, w.alloc (.cells (Tryz.zeroCells97.setIfInBounds 0 (.int .i64 5)) 97) = w1 := ⟨_, rfl⟩
  have t1 : Still w w1 := by rw [← hw1]; exact (Touch.refl _ _).alloc _
  have HRS1 := Lib.hid (h.keep t1 id)
  have HT1 : Hid (Touch (fun b => b = br) w w1) := Lib.hid (t1.mono (fun _ _ e => e.elim))
  have HN1 : Hid (NodeB w1 nb (nv0 5)) := Lib.hid (by rw [← hnb, ← hw1]; exact node_new w 5)
  have HNB : Hid (nb ≠ br) := Lib.hid (by have := h.lt; omega)
  have HNBE := Lib.hid hnb
  have HBL : Hid (br < w.heap.size) := Lib.hid h.lt
  obtain ⟨p0, g0, r0⟩ := st
  simp only at hle hgs
  have HG : Hid (grpP W (str s) ⟨p0, g0, r0⟩ = if tk (str s) p0 [63, 58] = true then insideP W (str s) (.grp 0) ⟨p0 + 2, g0, r0⟩
    else if tk (str s) p0 [63, 61] = true then insideP W (str s) (.look false) ⟨p0 + 2, g0, r0⟩
    else if tk (str s) p0 [63, 33] = true then insideP W (str s) (.look true) ⟨p0 + 2, g0, r0⟩
    else if tk (str s) p0 [63, 62] = true then insideP W (str s) .atom ⟨p0 + 2, g0, r0⟩
    else if pk (str s) p0 = 63 then none
    else insideP W (str s) (.grp (g0 + 1)) ⟨p0, g0 + 1, r0⟩) := Lib.hid rfl
  generalize grpP W (str s) ⟨p0, g0, r0⟩ = res at HG ⊢
  clear h t1 hW
  go_enter Tryz.func101, Tryz.ntmps101
  go_upto_region 1 with fail
  go_cut [3] from 4 to 5 (fun x wx => x = .pointer (some ⟨nb, 0, none⟩) ∧ wx = w1)
  case first =>
    go_wp2_with fail
    go_meet
    exact ⟨rfl, rfl⟩
  case rest =>
  obtain ⟨rfl, hwc⟩ := hcut
  rw [hwc]
  clear hwc hw1 hnb
  rename_i hKA
  apply hKA
  clear hKA
  refine wp_seq_k ?_
  intro K hK
  go_cut [] from 6 to 44 (fun wx => Hid (∃ (mk : Re → Re) (K num : Int) (p1 g1 : Nat), (g1 ≤ 9 → MkOK mk K num) ∧ NodeB wx nb { nv0 K with num := num } ∧ Touch (fun b => b = br) w wx ∧ RQ br s deep ⟨p1, g1, r0⟩ wx ∧ res = insideP W (str s) mk ⟨p1, g1, r0⟩))
  case first =>
    have HNX2 := Lib.hid (fun b hb => rnext_rr (t := ⟨#[63, 58]⟩) HRS1.out b hb (by decide))
    simp only at HNX2
    cases h58 : tk (str s) p0 [63, 58] with
    | true =>
      have HNY := Lib.hid (HNX2.out true h58)
      have HR : Hid (res = insideP W (str s) (.grp 0) ⟨p0 + 2, g0, r0⟩) := Lib.hid (by rw [HG.out]; rw [if_pos h58])
      clear HNX2 h58 HG
      go_wp2_with fail
      refine HNY.out.mono ?_
      clear HNY
      rintro e w2 ⟨rfl, hrs, ht⟩
      have HRS2 : Hid (RR br s deep ⟨p0 + 2, g0, r0⟩ w2) := Lib.hid hrs
      have HT2 := Lib.hid (HT1.out.then ht)
      have HN2 := Lib.hid (HN1.out.keep ht HNB.out)
      have hz := HN2.out.cell (i := 0) (by decide)
      obtain ⟨hz, hzf⟩ := hz
      clear hrs ht
      go_wp2_with fail
      go_meet
      have tz : Touch (fun b => b = nb) w2 (w2.setCell ⟨nb, 0, none⟩ (.int .i64 6)) := Touch.setCell (Touch.refl (fun b => b = nb) w2) (.inl rfl) _
      exact Lib.hid ⟨(.grp 0), 6, 0, p0 + 2, g0, fun _ => mk_plain 0, HN2.out.put (v' := { nv0 6 with num := 0 }) _ (fun A hA => hA.kind 6), HT2.out.trans tz (fun i e => .inr (by rw [HNBE.out]; omega)), (HRS2.out.keep tz (Ne.symm HNB.out)).rq, HR.out⟩
    | false =>
      have HNY := Lib.hid (HNX2.out false h58)
      have H58 := Lib.hid h58
      clear HNX2 h58
      go_wp2_with fail
      refine HNY.out.mono ?_
      clear HNY
      rintro e w2 ⟨rfl, hrs, ht⟩
      have HRS2 : Hid (RR br s deep ⟨p0, g0, r0⟩ w2) := Lib.hid hrs
      have HT2 := Lib.hid (HT1.out.then ht)
      have HN2 := Lib.hid (HN1.out.keep ht HNB.out)
      clear hrs ht
      have HNX3 := Lib.hid (fun b hb => rnext_rr (t := ⟨#[63, 61]⟩) HRS2.out b hb (by decide))
      simp only at HNX3
      cases h61 : tk (str s) p0 [63, 61] with
      | true =>
        have HNY := Lib.hid (HNX3.out true h61)
        have HR : Hid (res = insideP W (str s) (.look false) ⟨p0 + 2, g0, r0⟩) := Lib.hid (by rw [HG.out]; rw [if_neg (by rw [H58.out]; decide)]; rw [if_pos h61])
        clear HNX3 h61 HG
        go_wp2_with fail
        refine HNY.out.mono ?_
        clear HNY
        rintro e w3 ⟨rfl, hrs, ht⟩
        have HRS3 : Hid (RR br s deep ⟨p0 + 2, g0, r0⟩ w3) := Lib.hid hrs
        have HT3 := Lib.hid (HT2.out.then ht)
        have HN3 := Lib.hid (HN2.out.keep ht HNB.out)
        have hz := HN3.out.cell (i := 0) (by decide)
        obtain ⟨hz, hzf⟩ := hz
        clear hrs ht
        go_wp2_with fail
        go_meet
        have tz : Touch (fun b => b = nb) w3 (w3.setCell ⟨nb, 0, none⟩ (.int .i64 7)) := Touch.setCell (Touch.refl (fun b => b = nb) w3) (.inl rfl) _
        exact Lib.hid ⟨(.look false), 7, 0, p0 + 2, g0, fun _ => mk_look 0, HN3.out.put (v' := { nv0 7 with num := 0 }) _ (fun A hA => hA.kind 7), HT3.out.trans tz (fun i e => .inr (by rw [HNBE.out]; omega)), (HRS3.out.keep tz (Ne.symm HNB.out)).rq, HR.out⟩
      | false =>
        have HNY := Lib.hid (HNX3.out false h61)
        have H61 := Lib.hid h61
        clear HNX3 h61
        go_wp2_with fail
        refine HNY.out.mono ?_
        clear HNY
        rintro e w3 ⟨rfl, hrs, ht⟩
        have HRS3 : Hid (RR br s deep ⟨p0, g0, r0⟩ w3) := Lib.hid hrs
        have HT3 := Lib.hid (HT2.out.then ht)
        have HN3 := Lib.hid (HN2.out.keep ht HNB.out)
        clear hrs ht
        have HNX4 := Lib.hid (fun b hb => rnext_rr (t := ⟨#[63, 33]⟩) HRS3.out b hb (by decide))
        simp only at HNX4
        cases h33 : tk (str s) p0 [63, 33] with
        | true =>
          have HNY := Lib.hid (HNX4.out true h33)
          have HR : Hid (res = insideP W (str s) (.look true) ⟨p0 + 2, g0, r0⟩) := Lib.hid (by rw [HG.out]; rw [if_neg (by rw [H58.out]; decide)]; rw [if_neg (by rw [H61.out]; decide)]; rw [if_pos h33])
          clear HNX4 h33 HG
          go_wp2_with fail
          refine HNY.out.mono ?_
          clear HNY
          rintro e w4 ⟨rfl, hrs, ht⟩
          have HRS4 : Hid (RR br s deep ⟨p0 + 2, g0, r0⟩ w4) := Lib.hid hrs
          have HT4 := Lib.hid (HT3.out.then ht)
          have HN4 := Lib.hid (HN3.out.keep ht HNB.out)
          have hz := HN4.out.cell (i := 0) (by decide)
          obtain ⟨hz, hzf⟩ := hz
          clear hrs ht
          go_wp2_with fail
          go_meet
          have tz : Touch (fun b => b = nb) w4 (w4.setCell ⟨nb, 0, none⟩ (.int .i64 8)) := Touch.setCell (Touch.refl (fun b => b = nb) w4) (.inl rfl) _
          exact Lib.hid ⟨(.look true), 8, 0, p0 + 2, g0, fun _ => mk_not 0, HN4.out.put (v' := { nv0 8 with num := 0 }) _ (fun A hA => hA.kind 8), HT4.out.trans tz (fun i e => .inr (by rw [HNBE.out]; omega)), (HRS4.out.keep tz (Ne.symm HNB.out)).rq, HR.out⟩
        | false =>
          have HNY := Lib.hid (HNX4.out false h33)
          have H33 := Lib.hid h33
          clear HNX4 h33
          go_wp2_with fail
          refine HNY.out.mono ?_
          clear HNY
          rintro e w4 ⟨rfl, hrs, ht⟩
          have HRS4 : Hid (RR br s deep ⟨p0, g0, r0⟩ w4) := Lib.hid hrs
          have HT4 := Lib.hid (HT3.out.then ht)
          have HN4 := Lib.hid (HN3.out.keep ht HNB.out)
          clear hrs ht
          have HNX5 := Lib.hid (fun b hb => rnext_rr (t := ⟨#[63, 62]⟩) HRS4.out b hb (by decide))
          simp only at HNX5
          cases h62 : tk (str s) p0 [63, 62] with
          | true =>
            have HNY := Lib.hid (HNX5.out true h62)
            have HR : Hid (res = insideP W (str s) .atom ⟨p0 + 2, g0, r0⟩) := Lib.hid (by rw [HG.out]; rw [if_neg (by rw [H58.out]; decide)]; rw [if_neg (by rw [H61.out]; decide)]; rw [if_neg (by rw [H33.out]; decide)]; rw [if_pos h62])
            clear HNX5 h62 HG
            go_wp2_with fail
            refine HNY.out.mono ?_
            clear HNY
            rintro e w5 ⟨rfl, hrs, ht⟩
            have HRS5 : Hid (RR br s deep ⟨p0 + 2, g0, r0⟩ w5) := Lib.hid hrs
            have HT5 := Lib.hid (HT4.out.then ht)
            have HN5 := Lib.hid (HN4.out.keep ht HNB.out)
            have hz := HN5.out.cell (i := 0) (by decide)
            obtain ⟨hz, hzf⟩ := hz
            clear hrs ht
            go_wp2_with fail
            go_meet
            have tz : Touch (fun b => b = nb) w5 (w5.setCell ⟨nb, 0, none⟩ (.int .i64 9)) := Touch.setCell (Touch.refl (fun b => b = nb) w5) (.inl rfl) _
            exact Lib.hid ⟨.atom, 9, 0, p0 + 2, g0, fun _ => mk_atom 0, HN5.out.put (v' := { nv0 9 with num := 0 }) _ (fun A hA => hA.kind 9), HT5.out.trans tz (fun i e => .inr (by rw [HNBE.out]; omega)), (HRS5.out.keep tz (Ne.symm HNB.out)).rq, HR.out⟩
          | false =>
            have HNY := Lib.hid (HNX5.out false h62)
            have H62 := Lib.hid h62
            clear HNX5 h62
            go_wp2_with fail
            refine HNY.out.mono ?_
            clear HNY
            rintro e w5 ⟨rfl, hrs, ht⟩
            have HRS5 : Hid (RR br s deep ⟨p0, g0, r0⟩ w5) := Lib.hid hrs
            have HT5 := Lib.hid (HT4.out.then ht)
            have HN5 := Lib.hid (HN4.out.keep ht HNB.out)
            clear hrs ht
            have HR : Hid (res = insideP W (str s) (.grp (g0 + 1)) ⟨p0, g0 + 1, r0⟩) := Lib.hid (by
              rw [HG.out]; rw [if_neg (by rw [H58.out]; decide)]; rw [if_neg (by rw [H61.out]; decide)]; rw [if_neg (by rw [H33.out]; decide)]; rw [if_neg (by rw [H62.out]; decide)]; 
              by_cases h63 : pk (str s) p0 = 63
              · rw [if_pos h63]
                unfold insideP
                rw [HW.out.2.1 ⟨p0, g0 + 1, r0⟩ (by show again.contains (pk (str s) p0) = true; rw [h63]; rfl)]
                split <;> rfl
              · rw [if_neg h63])
            have hc2 := HRS5.out.c2
            obtain ⟨hc2, hc2f⟩ := hc2
            simp only at hc2
            have hwg := IntWalk.i64_in ((g0 : Int) + 1) (by omega)
            obtain ⟨w8, hw8⟩ : ∃ w8, w5.setCell ⟨br, 2, none⟩ (.int .i64 ((g0 : Int) + 1)) = w8 := ⟨_, rfl⟩
            have HRS8 : Hid (RQ br s deep ⟨p0, g0 + 1, r0⟩ w8) := Lib.hid (by rw [← hw8]; exact HRS5.out.rq.setGrps (g0 + 1) (by omega))
            have t8 : Touch (fun b => b = br) w5 w8 := by rw [← hw8]; exact Touch.setCell (Touch.refl (fun b => b = br) w5) (.inl rfl) _
            have HT8 := Lib.hid (HT5.out.then t8)
            have HN8 := Lib.hid (HN5.out.keep t8 HNB.out)
            have hz := HN8.out.cell (i := 258) (by decide)
            obtain ⟨hz, hzf⟩ := hz
            have hg8 := HRS8.out.c2.1
            simp only at hg8
            clear t8
            go_wp2_with fail
            go_meet
            have tz : Touch (fun b => b = nb) w8 (w8.setCell ⟨nb, 258, none⟩ (.int .i64 ((g0 + 1 : Nat) : Int))) := Touch.setCell (Touch.refl (fun b => b = nb) w8) (.inl rfl) _
            exact Lib.hid ⟨.grp (g0 + 1), 5, ((g0 + 1 : Nat) : Int), p0, g0 + 1, fun h => mk_grp (g0 + 1) (by omega) h, HN8.out.put (v' := { nv0 5 with num := ((g0 + 1 : Nat) : Int) }) _ (fun A hA => hA.num ((g0 + 1 : Nat) : Int)), HT8.out.trans tz (fun i e => .inr (by rw [HNBE.out]; omega)), HRS8.out.keep tz (Ne.symm HNB.out), HR.out⟩
  case rest =>
    obtain ⟨mk, Kd, num, p1, g1, hmk, hn, ht, hrq, hres⟩ := hcut.out
    have HMK := Lib.hid hmk
    have HN2 := Lib.hid hn
    have HT2 := Lib.hid ht
    have HRES := Lib.hid hres
    have hg10 := hrq.gs
    simp only at hg10
    have hc3 := hrq.c3
    obtain ⟨hc3, hc3f⟩ := hc3
    have hwd := IntWalk.i64_in ((deep : Int) + 1) (by omega)
    obtain ⟨w3, hw3⟩ : ∃ w3, wc.setCell ⟨br, 3, none⟩ (.int .i64 ((deep : Int) + 1)) = w3 := ⟨_, rfl⟩
    have HRQ3 : Hid (RQ br s (deep + 1) ⟨p1, g1, r0⟩ w3) := Lib.hid (by rw [← hw3]; exact hrq.setDeep (deep + 1) (by omega))
    have t3 : Touch (fun b => b = br) wc w3 := by rw [← hw3]; exact Touch.setCell (Touch.refl (fun b => b = br) wc) (.inl rfl) _
    have HT3 := Lib.hid (HT2.out.then t3)
    have HN3 := Lib.hid (HN2.out.keep t3 HNB.out)
    have hd3 : w3.cell? ⟨br, 3, none⟩ = some (.int .i64 ((deep : Int) + 1)) := HRQ3.out.c3.1
    have hg3 := HRQ3.out.c2.1
    simp only at hg3
    have hc5 := HRQ3.out.c5
    obtain ⟨hc5, hc5f⟩ := hc5
    clear hmk hn ht hrq hres t3 hcut
    by_cases hd10 : deep = 10
    · have q1 : decide ((10 : Int) < (deep : Int) + 1) = true := decide_eq_true (by omega)
      have HR : Hid (res = none) := Lib.hid (by
        rw [HRES.out]
        unfold insideP
        rw [HW.out.1 (by omega) ⟨p1, g1, r0⟩]
        split <;> rfl)
      clear hd10
      go_wp2_with fail
      go_ret
      rw [HR.out]
      exact ⟨_, rfl, HRQ3.out.bad, Touch.setCell HT3.out (.inl rfl) _⟩
    · have q1 : decide ((10 : Int) < (deep : Int) + 1) = false := decide_eq_false (by omega)
      by_cases hg : g1 = 10
      · have q2 : decide ((9 : Int) < (g1 : Int)) = true := decide_eq_true (by omega)
        have q2n : decide (9 < g1) = true := decide_eq_true (by omega)
        have HR : Hid (res = none) := Lib.hid (by
          rw [HRES.out]
          unfold insideP
          rw [if_pos (by show 9 < g1; omega)])
        clear hg hd10
        go_wp2_with fail
        go_ret
        rw [HR.out]
        exact ⟨_, rfl, HRQ3.out.bad, Touch.setCell HT3.out (.inl rfl) _⟩
      · have q2 : decide ((9 : Int) < (g1 : Int)) = false := decide_eq_false (by omega)
        have q2n : decide (9 < g1) = false := decide_eq_false (by omega)
        have hg9 : g1 ≤ 9 := by omega
        have HM := Lib.hid (HMK.out hg9)
        have HRS3 := Lib.hid (HRQ3.out.rr hg9 (by omega))
        have HAL := Lib.hid (HW.out.2.2 (by omega) ⟨p1, g1, r0⟩ w3 HRS3.out)
        have HR0 : Hid (res = match W ⟨p1, g1, r0⟩ with
          | none => none
          | some (a, st') => if tk (str s) st'.pos [41] = true then some (mk a, { st' with pos := st'.pos + 1 }) else none) := Lib.hid (by
          rw [HRES.out]
          unfold insideP
          rw [if_neg (by show ¬ 9 < g1; omega)]
          rfl)
        clear hg hd10 hg9
        go_wp2_with fail
        clear hw3 hc3 hc3f hd3 hg3 hc5 hc5f
        refine HAL.out.mono ?_
        clear HAL
        intro e w4 hG
        cases hwr : W ⟨p1, g1, r0⟩ with
        | none =>
          rw [hwr] at hG
          obtain ⟨p, rfl, hrx, ht⟩ := hG
          have HR : Hid (res = none) := Lib.hid (by rw [HR0.out, hwr])
          have HRX4 := Lib.hid hrx
          have HT4 := Lib.hid (HT3.out.then ht)
          have HN4 := Lib.hid (HN3.out.keep ht HNB.out)
          clear hrx ht hwr
          have hz := (HN4.out.cell (i := 259) (by decide)).alloc (.cells #[.pointer p] 91)
          obtain ⟨hz, hzf⟩ := hz
          obtain ⟨n4, hn4⟩ : ∃ n4, w4.heap.size = n4 := ⟨_, rfl⟩
          obtain ⟨w5, hw5⟩ : ∃ w5, (w4.alloc (.cells #[.pointer p] 91)).setCell ⟨nb, 259, none⟩ (.slice (some ⟨n4, 0, none⟩) 1 1) = w5 := ⟨_, rfl⟩
          have tz : Touch (fun b => b = nb) w4 w5 := by rw [← hw5]; exact Touch.setCell ((Touch.refl (fun b => b = nb) w4).alloc _) (.inl rfl) _
          have HRX5 := Lib.hid (HRX4.out.keep tz (Ne.symm HNB.out))
          have HT5 := Lib.hid (HT4.out.trans tz (fun i e => .inr (by rw [HNBE.out]; omega)))
          obtain ⟨x, hx3⟩ := HRX5.out.c3
          obtain ⟨hx3, hx3f⟩ := hx3
          clear tz
          have HBX := Lib.hid (fun wx (h : RX br s wx) => rnext_rx (t := ⟨#[41]⟩) h (by decide))
          go_wp2_with fail
          refine (HBX.out _ (HRX5.out.setDeep _)).mono ?_
          rintro e w7 ⟨b7, rfl, hrx, ht⟩
          have HRX7 := Lib.hid hrx
          have HT7 := Lib.hid ((Touch.setCell HT5.out (.inl rfl) _).then ht)
          clear hrx ht hw5 hx3 hx3f hz hzf
          have hc5 := HRX7.out.c5
          obtain ⟨hc5, hc5f⟩ := hc5
          cases b7 with
          | true =>
            go_wp2_with fail
            go_ret
            rw [HR.out]
            exact ⟨_, rfl, HRX7.out, HT7.out⟩
          | false =>
            go_wp2_with fail
            go_ret
            rw [HR.out]
            exact ⟨_, rfl, HRX7.out.setBad, Touch.setCell HT7.out (.inl rfl) _⟩
        | some y =>
          obtain ⟨a, st2⟩ := y
          rw [hwr] at hG
          obtain ⟨p, rfl, hrs, ht, he⟩ := hG
          have HR1 : Hid (res = if tk (str s) st2.pos [41] = true then some (mk a, { st2 with pos := st2.pos + 1 }) else none) := Lib.hid (by rw [HR0.out, hwr])
          have HRS4 := Lib.hid hrs
          have HT4 := Lib.hid (HT3.out.then ht)
          have HN4 := Lib.hid (HN3.out.keep ht HNB.out)
          have HE4 := Lib.hid he
          clear hrs ht hwr he HR0
          have hz := (HN4.out.cell (i := 259) (by decide)).alloc (.cells #[.pointer (some ⟨p, 0, none⟩)] 91)
          obtain ⟨hz, hzf⟩ := hz
          obtain ⟨n4, hn4⟩ : ∃ n4, w4.heap.size = n4 := ⟨_, rfl⟩
          have HN4E := Lib.hid hn4
          obtain ⟨w5, hw5⟩ : ∃ w5, (w4.alloc (.cells #[.pointer (some ⟨p, 0, none⟩)] 91)).setCell ⟨nb, 259, none⟩ (.slice (some ⟨n4, 0, none⟩) 1 1) = w5 := ⟨_, rfl⟩
          have tz : Touch (fun b => b = nb) w4 w5 := by rw [← hw5]; exact Touch.setCell ((Touch.refl (fun b => b = nb) w4).alloc _) (.inl rfl) _
          have HTZ := Lib.hid tz
          have hnl4 : nb < n4 := by rw [← hn4]; exact HN4.out.lt
          have HN5 : Hid (NodeB w5 nb { nv0 Kd with num := num, kx := some ⟨n4, 0, none⟩, kl := 1, kc := 1 }) := Lib.hid (by
            rw [← hw5]
            exact NodeB.put (v' := { nv0 Kd with num := num, kx := some ⟨n4, 0, none⟩, kl := 1, kc := 1 }) (NodeB.keep HN4.out ((Touch.refl (fun _ => False) _).alloc _) id) _ (fun A hA => hA.kids (some ⟨n4, 0, none⟩) 1 1))
          have HC5 : Hid (w5.cell? ⟨n4, 0, none⟩ = some (.pointer (some ⟨p, 0, none⟩))) := Lib.hid (by
            rw [← hw5]
            have h1 := Holds.made w4 #[.pointer (some ⟨p, 0, none⟩)] 91 0 _ rfl
            rw [hn4] at h1
            exact (Touch.setCell (Touch.refl (fun b => b = nb) _) (.inl rfl) _).has h1.1 (Nat.ne_of_gt hnl4))
          have HRS5 := Lib.hid (HRS4.out.keep tz (Ne.symm HNB.out))
          have HT5 := Lib.hid (HT4.out.trans tz (fun i e => .inr (by rw [HNBE.out]; omega)))
          have hx3 := HRS5.out.c3
          obtain ⟨hx3, hx3f⟩ := hx3
          have hwm := IntWalk.i64_in ((deep : Int) + 1 - 1) (by omega)
          have hwn : ((deep + 1 : Nat) : Int) = (deep : Int) + 1 := by omega
          rw [hwn] at hx3
          obtain ⟨w6, hw6⟩ : ∃ w6, w5.setCell ⟨br, 3, none⟩ (.int .i64 (deep : Int)) = w6 := ⟨_, rfl⟩
          have HRS6 : Hid (RR br s deep st2 w6) := Lib.hid (by rw [← hw6]; exact HRS5.out.setDeep deep hdp)
          have t56 : Touch (fun b => b = br) w5 w6 := by rw [← hw6]; exact Touch.setCell (Touch.refl (fun b => b = br) w5) (.inl rfl) _
          have HT56 := Lib.hid t56
          have hdd : (deep : Int) + 1 - 1 = (deep : Int) := by omega
          clear tz t56 hnl4
          have HNN := Lib.hid (fun b hb => rnext_rr (t := ⟨#[41]⟩) HRS6.out b hb (by decide))
          cases h41 : tk (str s) st2.pos [41] with
          | true =>
            have HNY := Lib.hid (HNN.out true h41)
            have HR : Hid (res = some (mk a, { st2 with pos := st2.pos + 1 })) := Lib.hid (by rw [HR1.out, if_pos h41])
            clear HNN h41 HR1
            go_wp2_with fail
            clear hw6 hw5 hx3 hx3f hz hzf
            refine HNY.out.mono ?_
            rintro e w7 ⟨rfl, hrs, ht⟩
            have HRS7 : Hid (RR br s deep { st2 with pos := st2.pos + 1 } w7) := Lib.hid hrs
            have HT67 := Lib.hid (HT56.out.then ht)
            clear hrs ht
            go_wp2_with fail
            go_ret
            rw [HR.out]
            have hT7 := HT5.out.then HT67.out
            have hl5 : n4 < w5.heap.size := block_lt_of_cell HC5.out
            have hs7 := HT67.out.size
            have hnl := HN5.out.lt
            have hbn : br < w.heap.size := HBL.out
            refine ⟨nb, rfl, HRS7.out, hT7, ?_⟩
            refine HM.out _ w7 _ (.pointer (some ⟨p, 0, none⟩)) { nv0 Kd with num := num, kx := some ⟨n4, 0, none⟩, kl := 1, kc := 1 } a ⟨nb, rfl, ⟨Nat.le_of_eq HNBE.out, by omega⟩, HN5.out.keep HT67.out HNB.out⟩ rfl rfl ⟨n4, 0, rfl, rfl, Nat.le_refl _, ⟨by have := HT4.out.size; have := HN4E.out; omega, by omega⟩, HT67.out.has HC5.out (by have := HT4.out.size; have := HN4E.out; show n4 ≠ br; omega)⟩ ?_
            have hsz3 : w.heap.size ≤ w3.heap.size := HT3.out.size
            have hnb3 : nb < w3.heap.size := HN3.out.lt
            exact EitherD.mono (F := FP w3.heap.size w4.heap.size) (F' := FP w.heap.size w7.heap.size) (fun b h => ⟨by have := h.1; omega, by have := h.2; have := HN4E.out; omega⟩) (fun b h hl => by
              have h1 := h.1
              have e1 : w5.heap[b]? = w4.heap[b]? := HTZ.out.block b hl (by omega)
              have e2 : w7.heap[b]? = w5.heap[b]? := HT67.out.block b (Nat.lt_of_lt_of_le hl HTZ.out.size) (by omega)
              exact e2.trans e1) HE4.out
          | false =>
            have HNY := Lib.hid (HNN.out false h41)
            have HR : Hid (res = none) := Lib.hid (by rw [HR1.out, if_neg (by rw [h41]; decide)])
            clear HNN h41 HR1
            go_wp2_with fail
            clear hw6 hw5 hx3 hx3f hz hzf
            refine HNY.out.mono ?_
            rintro e w7 ⟨rfl, hrs, ht⟩
            have HRS7 := Lib.hid hrs
            have HT7 := Lib.hid ((HT5.out.then HT56.out).then ht)
            have hc5 := hrs.c5
            obtain ⟨hc5, hc5f⟩ := hc5
            clear hrs ht
            go_wp2_with fail
            go_ret
            rw [HR.out]
            exact ⟨_, rfl, HRS7.out.bad, Touch.setCell HT7.out (.inl rfl) _⟩
end Go.Proofs.YtlgpilcjcomacaaGreat
