/-
  The document's member, escape. (Printed by wip/tools/rmemb07.py.)
-/
import Derived.Test.YtlgpilcjcomacaaRf
import Derived.Test.YtlgpilcjcomacaaSb
import Derived.Test.YtlgpilcjcomacaaPg
namespace Go.Proofs.Ytlgpilcjcomacaa
open Go.RowKit Rx
set_option linter.unusedVariables false

theorem RR.setOk {br : Nat} {s : ByteArray} {deep : Nat} {st : PS} {w : World} (h : RR br s deep st w) : RR br s deep st (w.setCell ⟨br, 5, none⟩ (.bool false)) :=
  ⟨cell_set_other h.c0 _ (.inr (by simp)), h.c1.set_other _ (.inr (by simp)), h.c2.set_other _ (.inr (by simp)), h.c3.set_other _ (.inr (by simp)), h.c4.set_other _ (.inr (by simp)), h.c5.set _, h.le, h.sz, h.gs, h.rs, h.dp⟩
theorem RR.rx {br : Nat} {s : ByteArray} {deep : Nat} {st : PS} {w : World} (h : RR br s deep st w) : ∀ w', w' = w.setCell ⟨br, 5, none⟩ (.bool true) → RX br s w' := fun w' e => by rw [e]; exact h.bad

theorem ib_kinds (c : Nat) (hc : c < 256) : decide (0 ≤ Lib.indexByte ([100, 68, 119, 87, 115, 83] : List UInt8) ((c : Int).toNat.toUInt8)) = (named c).isSome := by
  have hu : ((c : Int).toNat.toUInt8).toNat = c := by simp; omega
  have hib := ib_contains [100, 68, 119, 87, 115, 83] ((c : Int).toNat.toUInt8)
  rw [hu] at hib
  rw [hib, Bool.eq_iff_iff]
  unfold named
  simp only [List.contains_iff_mem, List.map_cons, List.map_nil, List.mem_cons, List.not_mem_nil, or_false]
  constructor
  · rintro (h | h | h | h | h | h) <;> (rw [h]; rfl)
  · intro h
    by_cases h0 : c = 100
    · exact .inl h0
    by_cases h1 : c = 68
    · exact .inr (.inl h1)
    by_cases h2 : c = 119
    · exact .inr (.inr (.inl h2))
    by_cases h3 : c = 87
    · exact .inr (.inr (.inr (.inl h3)))
    by_cases h4 : c = 115
    · exact .inr (.inr (.inr (.inr (.inl h4))))
    by_cases h5 : c = 83
    · exact .inr (.inr (.inr (.inr (.inr h5))))
    rw [if_neg h0, if_neg h1, if_neg h2, if_neg h3, if_neg h4, if_neg h5] at h
    cases h
theorem named_ne0 {c : Nat} (h : (named c).isSome = true) : c ≠ 0 := fun e => by subst e; exact absurd h (by decide)

/-- What comes back of a member of a class of the document. -/
def MembP (br nb : Nat) (s : ByteArray) (deep : Nat) (st : PS) (v : NV) (w : World) : Option (Nat × Option (Nat → Bool) × Nat) → Ending → World → Prop
  | none, e, w' => ∃ b : Nat, e = .returned (.tuple #[.int .u8 (b : Int), .bool false]) ∧ b < 256 ∧ RX br s w' ∧ NodeB w' nb v ∧ Touch (fun i => i = br ∨ i = nb) w w'
  | some (c, none, j), e, w' => e = .returned (.tuple #[.int .u8 (c : Int), .bool false]) ∧ c < 256 ∧ st.pos < j ∧ RR br s deep { st with pos := j } w' ∧ NodeB w' nb v ∧ Touch (fun i => i = br ∨ i = nb) w w'
  | some (c, some f, j), e, w' => e = .returned (.tuple #[.int .u8 (c : Int), .bool true]) ∧ c = 0 ∧ st.pos < j ∧ RR br s deep { st with pos := j } w' ∧ NodeB w' nb { v with set := fun x => v.set x || f x } ∧ Touch (fun i => i = br ∨ i = nb) w w'

set_option maxRecDepth 100000 in
set_option maxHeartbeats 4000000 in
theorem rmember_any (br nb : Nat) (hne : nb ≠ br) (s : ByteArray) (deep : Nat) (st : PS) (v : NV) (w : World) (h : RR br s deep st w) (hlt : st.pos < s.size) (hN : NodeB w nb v) :
    Calls Try.prog 115 #[.pointer (some ⟨br, 0, none⟩), .pointer (some ⟨nb, 1, none⟩)] w (MembP br nb s deep st v w (memberP (str s) st.pos)) := by
  have hsz := h.sz
  have HRS0 := Lib.hid h
  have HN0 := Lib.hid hN
  have HT0 : Hid (Touch (fun i => i = br ∨ i = nb) w w) := Lib.hid (Touch.refl _ _)
  have HNE := Lib.hid hne
  obtain ⟨w0, hw0⟩ : ∃ w0, w0 = w := ⟨_, rfl⟩
  have HPOS : Hid (byteAt (str s) st.pos = some (pk (str s) st.pos)) := Lib.hid (byteAt_pk hlt)
  obtain ⟨i, hi⟩ : ∃ i, st.pos = i := ⟨_, rfl⟩
  rw [hi] at hlt HPOS
  have hw1 := IntWalk.i64_in ((i : Int) + 1) (by omega)
  obtain ⟨c, hc⟩ : ∃ c, pk (str s) i = c := ⟨_, rfl⟩
  have hc256 := pk_256 s i
  rw [hc] at hc256 HPOS
  have HC := Lib.hid hc
  have HI := Lib.hid hi
  rw [hi]
  clear h hN hne hc
  rw [← hw0] at HRS0 HN0 HT0 ⊢
  have HW0 := Lib.hid hw0
  clear hw0 hi
  go_enter Try.func115, Try.ntmps115
  go_wp2_with fail
  refine (rpeek_rr HRS0.out).mono ?_
  rintro e w1 ⟨he, q, hq⟩
  rw [show pk (str s) (PS.pos _) = c from by rw [HI.out]; exact HC.out] at he
  subst he
  have HRS1 := Lib.hid (HRS0.out.drewN q)
  have HT1 := Lib.hid (HT0.out.drewN q)
  rw [← hq] at HRS1 HT1
  have HN1 := Lib.hid (HN0.out.keep ((Touch.refl (fun _ => False) w0).drewN q) id)
  rw [← hq] at HN1
  clear hq
  have HPI : Hid (({ st with pos := i } : PS) = st) := Lib.hid (by rw [← HI.out])
  rw [← HPI.out] at HRS1
  have hc1 := HRS1.out.c1
  obtain ⟨hc1, hc1f⟩ := hc1
  simp only at hc1 hc1f
  obtain ⟨w2, hw2⟩ : ∃ w2, w1.setCell ⟨br, 1, none⟩ (.int .i64 ((i : Int) + 1)) = w2 := ⟨_, rfl⟩
  have HRS2 := Lib.hid (HRS1.out.setPos (i + 1) (by show i + 1 ≤ s.size; omega))
  rw [show ((i + 1 : Nat) : Int) = (i : Int) + 1 from by omega, hw2] at HRS2
  have HT2 := Lib.hid (Touch.then HT1.out (Touch.setCell (p := ⟨br, 1, none⟩) (Touch.refl (fun b => b = br ∨ b = nb) w1) (.inl (.inl rfl)) (.int .i64 ((i : Int) + 1))))
  rw [hw2] at HT2
  have HN2 := Lib.hid (HN1.out.keep (Touch.setCell (p := ⟨br, 1, none⟩) (Touch.refl (fun b => b = br) w1) (.inl rfl) (.int .i64 ((i : Int) + 1))) HNE.out)
  rw [hw2] at HN2
  by_cases h92 : c = 92
  · have q92 : ((c : Int) != 92) = false := by rw [h92]; rfl
    have q92b : ((c : Int) == 92) = true := by rw [h92]; rfl
    have HC92 := Lib.hid h92
    clear h92
    go_wp2_with fail
    clear hw2 hc1 hc1f
    refine (rend_rr HRS2.out).mono ?_
    rintro e w3 ⟨he, q, hq⟩
    have HRS3 := Lib.hid (HRS2.out.drewN q)
    have HT3 := Lib.hid (HT2.out.drewN q)
    rw [← hq] at HRS3 HT3
    have HN3 := Lib.hid (HN2.out.keep ((Touch.refl (fun _ => False) w2).drewN q) id)
    rw [← hq] at HN3
    clear hq
    by_cases hend : s.size ≤ i + 1
    · rw [show decide (s.size ≤ PS.pos _) = true from decide_eq_true hend] at he
      subst he
      have HR : Hid (memberP (str s) i = none) := Lib.hid (by unfold memberP; rw [HPOS.out, HC92.out]; simp only [ne_eq, not_true_eq_false, if_false]; rw [byteAt_ge hend])
      have hc5 := HRS3.out.c5
      obtain ⟨hc5, hc5f⟩ := hc5
      clear hend
      go_wp2_with fail
      go_ret2
      rw [HR.out]
      have tb : Touch (fun b => b = br) w3 (w3.setCell ⟨br, 5, none⟩ (.bool true)) := Touch.setCell (Touch.refl (fun b => b = br) w3) (.inl rfl) _
      exact ⟨0, rfl, by decide, HRS3.out.bad, HN3.out.keep tb HNE.out, HT3.out.then (tb.mono (fun _ _ e => .inl e))⟩
    · rw [show decide (s.size ≤ PS.pos _) = false from decide_eq_false hend] at he
      subst he
      have hlt2 : i + 1 < s.size := by omega
      clear hend
      have HPOS2 := Lib.hid (byteAt_pk hlt2)
      obtain ⟨d, hd⟩ : ∃ d, pk (str s) (i + 1) = d := ⟨_, rfl⟩
      have hd256 := pk_256 s (i + 1)
      rw [hd] at hd256 HPOS2
      have HD := Lib.hid hd
      clear hd
      have HM : Hid (memberP (str s) i = match named d with | some f => some (0, some f, i + 2) | none => match plainP d with | none => none | some b => some (b, none, i + 2)) := Lib.hid (by unfold memberP; rw [HPOS.out, HC92.out]; simp only [ne_eq, not_true_eq_false, if_false]; rw [HPOS2.out]; rfl)
      go_wp2_with fail
      refine (rpeek_rr HRS3.out).mono ?_
      rintro e w4 ⟨he, q, hq⟩
      rw [show pk (str s) (PS.pos _) = d from HD.out] at he
      subst he
      have HRS4 := Lib.hid (HRS3.out.drewN q)
      have HT4 := Lib.hid (HT3.out.drewN q)
      rw [← hq] at HRS4 HT4
      have HN4 := Lib.hid (HN3.out.keep ((Touch.refl (fun _ => False) w3).drewN q) id)
      rw [← hq] at HN4
      clear hq
      have hw12 := IntWalk.i64_in ((i : Int) + 1 + 1) (by omega)
      have hc1 := HRS4.out.c1
      obtain ⟨hc1, hc1f⟩ := hc1
      simp only at hc1 hc1f
      obtain ⟨w5, hw5⟩ : ∃ w5, w4.setCell ⟨br, 1, none⟩ (.int .i64 ((i : Int) + 1 + 1)) = w5 := ⟨_, rfl⟩
      have HRS5 := Lib.hid (HRS4.out.setPos ((i + 1) + 1) (by show (i + 1) + 1 ≤ s.size; omega))
      rw [show (((i + 1) + 1 : Nat) : Int) = (i : Int) + 1 + 1 from by omega, hw5] at HRS5
      have HT5 := Lib.hid (Touch.then HT4.out (Touch.setCell (p := ⟨br, 1, none⟩) (Touch.refl (fun b => b = br ∨ b = nb) w4) (.inl (.inl rfl)) (.int .i64 ((i : Int) + 1 + 1))))
      rw [hw5] at HT5
      have HN5 := Lib.hid (HN4.out.keep (Touch.setCell (p := ⟨br, 1, none⟩) (Touch.refl (fun b => b = br) w4) (.inl rfl) (.int .i64 ((i : Int) + 1 + 1))) HNE.out)
      rw [hw5] at HN5
      have HIB := Lib.hid (fun w => Try.strings_IndexByte ⟨#[100, 68, 119, 87, 115, 83]⟩ (d : Int) w)
      have hib := ib_kinds d hd256
      obtain ⟨x, hx⟩ : ∃ x, Lib.indexByte (⟨#[100, 68, 119, 87, 115, 83]⟩ : ByteArray).data.toList ((d : Int).toNat.toUInt8) = x := ⟨_, rfl⟩
      rw [hx] at HIB
      rw [show Lib.indexByte [100, 68, 119, 87, 115, 83] ((d : Int).toNat.toUInt8) = x from hx] at hib
      clear hx
      cases hnm : named d with
      | some f =>
        rw [hnm] at hib HM
        simp only [Option.isSome_some] at hib
        have hd0 := named_ne0 (c := d) (by rw [hnm]; rfl)
        have q0 : ((d : Int) != 0) = true := by rw [bne_iff_ne]; omega
        have HIS := Lib.hid (ris_any d f hnm nb v w5 HN5.out)
        have HR : Hid (memberP (str s) i = some (0, some f, i + 2)) := HM
        clear hd0 hnm HM
        go_wp2_with fail
        clear hw5 hc1 hc1f
        refine (HIB.out _).mono ?_
        rintro e w9 ⟨rfl, rfl⟩
        go_wp2_with fail
        refine HIS.out.mono ?_
        rintro e w6 ⟨rfl, hn, ht⟩
        have HN6 := Lib.hid hn
        have HRS6 := Lib.hid (HRS5.out.keep ht (Ne.symm HNE.out))
        have HT6 := Lib.hid (HT5.out.then (ht.mono (fun _ _ e => .inr e)))
        clear hn ht
        go_wp2_with fail
        go_ret2
        rw [HR.out]
        exact ⟨rfl, rfl, by rw [HI.out]; omega, HRS6.out, HN6.out, HT6.out⟩
      | none =>
        rw [hnm] at hib HM
        simp only [Option.isSome_none] at hib
        have HSI := Lib.hid (rsingle_any d hd256 w5)
        clear hnm
        cases hpl : plainP d with
        | some b =>
          rw [hpl] at HSI HM
          have hb256 := plain_lt hpl hd256
          have HR : Hid (memberP (str s) i = some (b, none, i + 2)) := HM
          clear hpl HM
          go_wp2_with fail
          clear hw5 hc1 hc1f
          refine (HIB.out _).mono ?_
          rintro e w9 ⟨rfl, rfl⟩
          go_wp2_with fail
          refine HSI.out.mono ?_
          rintro e w9 ⟨rfl, rfl⟩
          have hc5 := HRS5.out.c5
          obtain ⟨hc5, hc5f⟩ := hc5
          go_wp2_with fail
          go_ret2
          rw [HR.out]
          have tb : Touch (fun b => b = br) w9 (w9.setCell ⟨br, 5, none⟩ (.bool false)) := Touch.setCell (Touch.refl (fun b => b = br) w9) (.inl rfl) _
          exact ⟨rfl, hb256, by rw [HI.out]; omega, HRS5.out.setOk, HN5.out.keep tb HNE.out, HT5.out.then (tb.mono (fun _ _ e => .inl e))⟩
        | none =>
          rw [hpl] at HSI HM
          have HR : Hid (memberP (str s) i = none) := HM
          clear hpl HM
          go_wp2_with fail
          clear hw5 hc1 hc1f
          refine (HIB.out _).mono ?_
          rintro e w9 ⟨rfl, rfl⟩
          go_wp2_with fail
          refine HSI.out.mono ?_
          rintro e w9 ⟨b, hb256, rfl, rfl⟩
          have hc5 := HRS5.out.c5
          obtain ⟨hc5, hc5f⟩ := hc5
          go_wp2_with fail
          go_ret2
          rw [HR.out]
          have tb : Touch (fun b => b = br) w9 (w9.setCell ⟨br, 5, none⟩ (.bool true)) := Touch.setCell (Touch.refl (fun b => b = br) w9) (.inl rfl) _
          exact ⟨b, rfl, hb256, HRS5.out.bad, HN5.out.keep tb HNE.out, HT5.out.then (tb.mono (fun _ _ e => .inl e))⟩
  · have q92 : ((c : Int) != 92) = true := by rw [bne_iff_ne]; omega
    have q92b : ((c : Int) == 92) = false := by simp; omega
    have HR : Hid (memberP (str s) i = some (c, none, i + 1)) := Lib.hid (by unfold memberP; rw [HPOS.out]; show (if c ≠ 92 then _ else _) = _; rw [if_pos h92])
    clear h92
    go_wp2_with fail
    clear hw2 hc1 hc1f
    go_ret2
    rw [HR.out]
    exact ⟨rfl, hc256, by rw [HI.out]; omega, HRS2.out, HN2.out, HT2.out⟩
end Go.Proofs.Ytlgpilcjcomacaa
