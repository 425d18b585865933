/-
  Texts Pf in one.
-/
import Derived.Test.YtlgpilcjcomacaaGreatAd
/-
  The program's reader: member, escape.
-/
namespace Go.Proofs.YtlgpilcjcomacaaGreat
open Go.RowKit Rx
set_option linter.unusedVariables false

def NamedPost (w : World) : Option (Nat → Bool) → Ending → World → Prop
  | none, e, w' => e = .returned (.pointer none) ∧ Still w w'
  | some f, e, w' => ∃ b, e = .returned (.pointer (some ⟨b, 0, none⟩)) ∧ SetB w' b f ∧ w.heap.size ≤ b ∧ Still w w'
theorem named_any (c : Nat) (hc : c < 256) (w : World) : Calls Tryz.prog 116 #[.int .u8 (c : Int)] w (NamedPost w (named c)) := by
  by_cases h1 : c = 100
  · subst h1; exact named_d w
  by_cases h2 : c = 68
  · subst h2; exact named_D w
  by_cases h3 : c = 119
  · subst h3; exact named_w w
  by_cases h4 : c = 87
  · subst h4; exact named_W w
  by_cases h5 : c = 115
  · subst h5; exact named_s w
  by_cases h6 : c = 83
  · subst h6; exact named_S w
  have hn : named c = none := by unfold named; rw [if_neg h1, if_neg h2, if_neg h3, if_neg h4, if_neg h5, if_neg h6]
  rw [hn]
  exact named_none c hc hn w

/-- What comes back of a member of a class. -/
def MemberPost (br : Nat) (s : ByteArray) (deep : Nat) (st : PS) (w : World) : Option (Nat × Option (Nat → Bool) × Nat) → Ending → World → Prop
  | none, e, w' => e = bad ∧ Touch (fun b => b = br) w w'
  | some (c, none, j), e, w' => e = .returned (.tuple #[.int .u8 (c : Int), .pointer none]) ∧ RS br s deep { st with pos := j } w' ∧ Touch (fun b => b = br) w w' ∧ c < 256 ∧ st.pos < j
  | some (c, some f, j), e, w' => ∃ b, e = .returned (.tuple #[.int .u8 (c : Int), .pointer (some ⟨b, 0, none⟩)]) ∧ SetB w' b f ∧ w.heap.size ≤ b ∧ RS br s deep { st with pos := j } w' ∧ Touch (fun b => b = br) w w' ∧ st.pos < j

theorem plain_lt {c b : Nat} (h : plainP c = some b) (hc : c < 256) : b < 256 := by
  unfold plainP at h
  by_cases h1 : c = 110
  · rw [if_pos h1] at h; cases h; decide
  · rw [if_neg h1] at h
    by_cases h2 : c = 116
    · rw [if_pos h2] at h; cases h; decide
    · rw [if_neg h2] at h
      by_cases h3 : specials.contains c = true
      · rw [if_pos h3] at h; cases h; exact hc
      · rw [if_neg h3] at h; cases h

theorem byteAt_pk {s : ByteArray} {i : Nat} (h : i < s.size) : byteAt (str s) i = some (pk (str s) i) := by rw [pk_lt h, byteAt_lt h]

set_option maxRecDepth 100000 in
set_option maxHeartbeats 4000000 in
theorem member_any (br : Nat) (s : ByteArray) (deep : Nat) (st : PS) (w : World) (h : RS br s deep st w) :
    Calls Tryz.prog 118 #[.pointer (some ⟨br, 0, none⟩)] w (MemberPost br s deep st w (memberP (str s) st.pos)) := by
  have hle := h.le
  have hsz := h.sz
  obtain ⟨p0, hp0⟩ : ∃ p0, st.pos = p0 := ⟨_, rfl⟩
  have HRS0 : Hid (RS br s deep { st with pos := p0 } w) := Lib.hid (by rw [← hp0]; exact h); clear h
  rw [hp0] at hle ⊢
  have HP0 := Lib.hid hp0; clear hp0
  have HT0 : Hid (Touch (fun b => b = br) w w) := Lib.hid (Touch.refl _ _)
  have hc256 := pk_256 s p0
  obtain ⟨c, hc⟩ : ∃ c, pk (str s) p0 = c := ⟨_, rfl⟩
  rw [hc] at hc256
  have HC := Lib.hid hc
  obtain ⟨p1, hp1⟩ : ∃ p1, p0 + 1 = p1 := ⟨_, rfl⟩
  have HP1 := Lib.hid hp1
  obtain ⟨p2, hp2⟩ : ∃ p2, p1 + 1 = p2 := ⟨_, rfl⟩
  have HP2 := Lib.hid hp2
  by_cases hlt : p0 < s.size
  · have q0 : ((p0 : Int) == (s.size : Int)) = false := by simp; omega
    have HR1 : memberP (str s) p0 = if c ≠ 92 then some (c, none, p1) else
        match byteAt (str s) p1 with
        | none => none
        | some d => match named d with
          | some f => some (0, some f, p2)
          | none => match plainP d with
            | none => none
            | some b => some (b, none, p2) := by
      unfold memberP; rw [byteAt_pk hlt, hc, ← hp2, ← hp1]; rfl
    have hlt1 : p1 ≤ s.size := by omega
    clear hc
    by_cases h92 : c = 92
    · have qc : ((c : Int) != 92) = false := by rw [h92]; rfl
      rw [if_neg (by rw [h92]; decide)] at HR1
      clear h92 hc256
      by_cases hlt2 : p1 < s.size
      · have q1 : ((p1 : Int) == (s.size : Int)) = false := by simp; omega
        have hd256 := pk_256 s p1
        obtain ⟨d, hd⟩ : ∃ d, pk (str s) p1 = d := ⟨_, rfl⟩
        rw [byteAt_pk hlt2, hd] at HR1
        rw [hd] at hd256
        have HD := Lib.hid hd
        clear hd hp1 hp2
        simp only at HR1
        have hnm := fun w => named_any d hd256 w
        cases hn : named d with
        | some f =>
          rw [hn] at hnm HR1
          have HNM := Lib.hid hnm
          have HR := Lib.hid HR1
          clear hnm HR1 hn
          go_enter Tryz.func118, Tryz.ntmps118
          go_wp2_with fail
          refine (peek_rs br s deep _ _ HRS0.out).mono ?_
          rintro e w1 ⟨he, hrs, ht⟩
          rw [show pk (str s) (PS.pos _) = c from HC.out] at he
          subst he
          have HRS1 := Lib.hid hrs
          have HT1 := Lib.hid (HT0.out.then (ht.mono (fun _ _ e => e.elim)))
          clear hrs ht
          have hc0 := HRS1.out.c0
          have hc1 := HRS1.out.c1.1
          go_wp2_with fail
          go_quiet (fail)
          have hrs := HRS1.out.drewN nq
          have ht := HT1.out.drewN nq
          generalize w1.drewN nq = w2 at *
          have HRS2 := Lib.hid hrs
          have HT2 := Lib.hid ht
          clear hrs ht hc0 hc1
          have hc1 := HRS2.out.c1
          obtain ⟨hc1, hc1f⟩ := hc1
          have hw1 := IntWalk.i64_in ((p0 : Int) + 1) (by omega)
          obtain ⟨w3, hw3⟩ : ∃ w3, w2.setCell ⟨br, 1, none⟩ (.int .i64 ((p0 : Int) + 1)) = w3 := ⟨_, rfl⟩
          have hrs : RS br s deep { st with pos := p1 } w3 := by rw [← hw3, ← HP1.out]; exact HRS2.out.setPos (p0 + 1) (by omega)
          have ht : Touch (fun b => b = br) w w3 := by rw [← hw3]; exact Touch.setCell HT2.out (.inl rfl) _
          have HRS3 := Lib.hid hrs
          have HT3 := Lib.hid ht
          clear hrs ht
          go_wp2_with fail
          clear hw3 hc1 hc1f hw1
          have hc0 := HRS3.out.c0
          have hc1 := HRS3.out.c1.1
          go_wp2_with fail
          go_quiet (fail)
          have hrs := HRS3.out.drewN nq
          have ht := HT3.out.drewN nq
          generalize w3.drewN nq = w4 at *
          have HRS4 := Lib.hid hrs
          have HT4 := Lib.hid ht
          clear hrs ht hc0 hc1
          go_wp2_with fail
          refine (peek_rs br s deep _ _ HRS4.out).mono ?_
          rintro e w5 ⟨he, hrs, ht⟩
          rw [show pk (str s) (PS.pos _) = d from HD.out] at he
          subst he
          have HRS5 := Lib.hid hrs
          have HT5 := Lib.hid (HT4.out.then (ht.mono (fun _ _ e => e.elim)))
          clear hrs ht
          have hc1 := HRS5.out.c1
          obtain ⟨hc1, hc1f⟩ := hc1
          have hw1 := IntWalk.i64_in ((p1 : Int) + 1) (by omega)
          obtain ⟨w6, hw6⟩ : ∃ w6, w5.setCell ⟨br, 1, none⟩ (.int .i64 ((p1 : Int) + 1)) = w6 := ⟨_, rfl⟩
          have hrs : RS br s deep { st with pos := p2 } w6 := by rw [← hw6, ← HP2.out]; exact HRS5.out.setPos (p1 + 1) (by omega)
          have ht : Touch (fun b => b = br) w w6 := by rw [← hw6]; exact Touch.setCell HT5.out (.inl rfl) _
          have HRS6 := Lib.hid hrs
          have HT6 := Lib.hid ht
          clear hrs ht
          go_wp2_with fail
          clear hw6 hc1 hc1f hw1
          go_wp2_with fail
          refine (HNM.out _).mono ?_
          rintro e w7 ⟨bs, rfl, hset, hbs, ht⟩
          have HSET := Lib.hid hset
          have HRS7 := Lib.hid (HRS6.out.keep ht id)
          have HT7 := Lib.hid (HT6.out.then (ht.mono (fun _ _ e => e.elim)))
          have HBS : Hid (w.heap.size ≤ bs) := Lib.hid (Nat.le_trans HT6.out.size hbs)
          clear hset hbs ht
          go_wp2_with fail
          go_ret2
          rw [HR.out]
          exact ⟨bs, rfl, HSET.out, HBS.out, HRS7.out, HT7.out, by have := HP0.out; have := HP1.out; have := HP2.out; omega⟩
        | none =>
          rw [hn] at hnm HR1
          have HNM := Lib.hid hnm
          clear hnm hn
          simp only at HR1
          have hpl := fun v w => plain_any v d hd256 w
          cases hq : plainP d with
          | some bb =>
            have hb256 := plain_lt hq hd256
            rw [hq] at hpl HR1
            have HPL := Lib.hid hpl
            have HR := Lib.hid HR1
            clear hpl HR1 hq
            go_enter Tryz.func118, Tryz.ntmps118
            go_wp2_with fail
            refine (peek_rs br s deep _ _ HRS0.out).mono ?_
            rintro e w1 ⟨he, hrs, ht⟩
            rw [show pk (str s) (PS.pos _) = c from HC.out] at he
            subst he
            have HRS1 := Lib.hid hrs
            have HT1 := Lib.hid (HT0.out.then (ht.mono (fun _ _ e => e.elim)))
            clear hrs ht
            have hc0 := HRS1.out.c0
            have hc1 := HRS1.out.c1.1
            go_wp2_with fail
            go_quiet (fail)
            have hrs := HRS1.out.drewN nq
            have ht := HT1.out.drewN nq
            generalize w1.drewN nq = w2 at *
            have HRS2 := Lib.hid hrs
            have HT2 := Lib.hid ht
            clear hrs ht hc0 hc1
            have hc1 := HRS2.out.c1
            obtain ⟨hc1, hc1f⟩ := hc1
            have hw1 := IntWalk.i64_in ((p0 : Int) + 1) (by omega)
            obtain ⟨w3, hw3⟩ : ∃ w3, w2.setCell ⟨br, 1, none⟩ (.int .i64 ((p0 : Int) + 1)) = w3 := ⟨_, rfl⟩
            have hrs : RS br s deep { st with pos := p1 } w3 := by rw [← hw3, ← HP1.out]; exact HRS2.out.setPos (p0 + 1) (by omega)
            have ht : Touch (fun b => b = br) w w3 := by rw [← hw3]; exact Touch.setCell HT2.out (.inl rfl) _
            have HRS3 := Lib.hid hrs
            have HT3 := Lib.hid ht
            clear hrs ht
            go_wp2_with fail
            clear hw3 hc1 hc1f hw1
            have hc0 := HRS3.out.c0
            have hc1 := HRS3.out.c1.1
            go_wp2_with fail
            go_quiet (fail)
            have hrs := HRS3.out.drewN nq
            have ht := HT3.out.drewN nq
            generalize w3.drewN nq = w4 at *
            have HRS4 := Lib.hid hrs
            have HT4 := Lib.hid ht
            clear hrs ht hc0 hc1
            go_wp2_with fail
            refine (peek_rs br s deep _ _ HRS4.out).mono ?_
            rintro e w5 ⟨he, hrs, ht⟩
            rw [show pk (str s) (PS.pos _) = d from HD.out] at he
            subst he
            have HRS5 := Lib.hid hrs
            have HT5 := Lib.hid (HT4.out.then (ht.mono (fun _ _ e => e.elim)))
            clear hrs ht
            have hc1 := HRS5.out.c1
            obtain ⟨hc1, hc1f⟩ := hc1
            have hw1 := IntWalk.i64_in ((p1 : Int) + 1) (by omega)
            obtain ⟨w6, hw6⟩ : ∃ w6, w5.setCell ⟨br, 1, none⟩ (.int .i64 ((p1 : Int) + 1)) = w6 := ⟨_, rfl⟩
            have hrs : RS br s deep { st with pos := p2 } w6 := by rw [← hw6, ← HP2.out]; exact HRS5.out.setPos (p1 + 1) (by omega)
            have ht : Touch (fun b => b = br) w w6 := by rw [← hw6]; exact Touch.setCell HT5.out (.inl rfl) _
            have HRS6 := Lib.hid hrs
            have HT6 := Lib.hid ht
            clear hrs ht
            go_wp2_with fail
            clear hw6 hc1 hc1f hw1
            go_wp2_with fail
            refine (HNM.out _).mono ?_
            rintro e w7 ⟨rfl, ht⟩
            have HRS7 := Lib.hid (HRS6.out.keep ht id)
            have HT7 := Lib.hid (HT6.out.then (ht.mono (fun _ _ e => e.elim)))
            clear ht
            go_wp2_with fail
            refine (HPL.out _ _).mono ?_
            rintro e w8 ⟨rfl, ht⟩
            have HRS8 := Lib.hid (HRS7.out.keep ht id)
            have HT8 := Lib.hid (HT7.out.then (ht.mono (fun _ _ e => e.elim)))
            clear ht
            go_wp2_with fail
            go_ret2
            rw [HR.out]
            exact ⟨rfl, HRS8.out, HT8.out, hb256, by have := HP0.out; have := HP1.out; have := HP2.out; omega⟩
          | none =>
            rw [hq] at hpl HR1
            have HPL := Lib.hid hpl
            have HR := Lib.hid HR1
            clear hpl HR1 hq
            go_enter Tryz.func118, Tryz.ntmps118
            go_wp2_with fail
            refine (peek_rs br s deep _ _ HRS0.out).mono ?_
            rintro e w1 ⟨he, hrs, ht⟩
            rw [show pk (str s) (PS.pos _) = c from HC.out] at he
            subst he
            have HRS1 := Lib.hid hrs
            have HT1 := Lib.hid (HT0.out.then (ht.mono (fun _ _ e => e.elim)))
            clear hrs ht
            have hc0 := HRS1.out.c0
            have hc1 := HRS1.out.c1.1
            go_wp2_with fail
            go_quiet (fail)
            have hrs := HRS1.out.drewN nq
            have ht := HT1.out.drewN nq
            generalize w1.drewN nq = w2 at *
            have HRS2 := Lib.hid hrs
            have HT2 := Lib.hid ht
            clear hrs ht hc0 hc1
            have hc1 := HRS2.out.c1
            obtain ⟨hc1, hc1f⟩ := hc1
            have hw1 := IntWalk.i64_in ((p0 : Int) + 1) (by omega)
            obtain ⟨w3, hw3⟩ : ∃ w3, w2.setCell ⟨br, 1, none⟩ (.int .i64 ((p0 : Int) + 1)) = w3 := ⟨_, rfl⟩
            have hrs : RS br s deep { st with pos := p1 } w3 := by rw [← hw3, ← HP1.out]; exact HRS2.out.setPos (p0 + 1) (by omega)
            have ht : Touch (fun b => b = br) w w3 := by rw [← hw3]; exact Touch.setCell HT2.out (.inl rfl) _
            have HRS3 := Lib.hid hrs
            have HT3 := Lib.hid ht
            clear hrs ht
            go_wp2_with fail
            clear hw3 hc1 hc1f hw1
            have hc0 := HRS3.out.c0
            have hc1 := HRS3.out.c1.1
            go_wp2_with fail
            go_quiet (fail)
            have hrs := HRS3.out.drewN nq
            have ht := HT3.out.drewN nq
            generalize w3.drewN nq = w4 at *
            have HRS4 := Lib.hid hrs
            have HT4 := Lib.hid ht
            clear hrs ht hc0 hc1
            go_wp2_with fail
            refine (peek_rs br s deep _ _ HRS4.out).mono ?_
            rintro e w5 ⟨he, hrs, ht⟩
            rw [show pk (str s) (PS.pos _) = d from HD.out] at he
            subst he
            have HRS5 := Lib.hid hrs
            have HT5 := Lib.hid (HT4.out.then (ht.mono (fun _ _ e => e.elim)))
            clear hrs ht
            have hc1 := HRS5.out.c1
            obtain ⟨hc1, hc1f⟩ := hc1
            have hw1 := IntWalk.i64_in ((p1 : Int) + 1) (by omega)
            obtain ⟨w6, hw6⟩ : ∃ w6, w5.setCell ⟨br, 1, none⟩ (.int .i64 ((p1 : Int) + 1)) = w6 := ⟨_, rfl⟩
            have hrs : RS br s deep { st with pos := p2 } w6 := by rw [← hw6, ← HP2.out]; exact HRS5.out.setPos (p1 + 1) (by omega)
            have ht : Touch (fun b => b = br) w w6 := by rw [← hw6]; exact Touch.setCell HT5.out (.inl rfl) _
            have HRS6 := Lib.hid hrs
            have HT6 := Lib.hid ht
            clear hrs ht
            go_wp2_with fail
            clear hw6 hc1 hc1f hw1
            go_wp2_with fail
            refine (HNM.out _).mono ?_
            rintro e w7 ⟨rfl, ht⟩
            have HRS7 := Lib.hid (HRS6.out.keep ht id)
            have HT7 := Lib.hid (HT6.out.then (ht.mono (fun _ _ e => e.elim)))
            clear ht
            go_wp2_with fail
            refine (HPL.out _ _).mono ?_
            rintro e w8 ⟨rfl, ht⟩
            refine ⟨rfl, ?_⟩
            rw [HR.out]
            exact ⟨rfl, HT7.out.then (ht.mono (fun _ _ e => e.elim))⟩
      · have q1 : ((p1 : Int) == (s.size : Int)) = true := by simp; omega
        rw [byteAt_ge (by omega)] at HR1
        have HR := Lib.hid HR1
        clear HR1 hp1 hp2
        go_enter Tryz.func118, Tryz.ntmps118
        go_wp2_with fail
        refine (peek_rs br s deep _ _ HRS0.out).mono ?_
        rintro e w1 ⟨he, hrs, ht⟩
        rw [show pk (str s) (PS.pos _) = c from HC.out] at he
        subst he
        have HRS1 := Lib.hid hrs
        have HT1 := Lib.hid (HT0.out.then (ht.mono (fun _ _ e => e.elim)))
        clear hrs ht
        have hc0 := HRS1.out.c0
        have hc1 := HRS1.out.c1.1
        go_wp2_with fail
        go_quiet (fail)
        have hrs := HRS1.out.drewN nq
        have ht := HT1.out.drewN nq
        generalize w1.drewN nq = w2 at *
        have HRS2 := Lib.hid hrs
        have HT2 := Lib.hid ht
        clear hrs ht hc0 hc1
        have hc1 := HRS2.out.c1
        obtain ⟨hc1, hc1f⟩ := hc1
        have hw1 := IntWalk.i64_in ((p0 : Int) + 1) (by omega)
        obtain ⟨w3, hw3⟩ : ∃ w3, w2.setCell ⟨br, 1, none⟩ (.int .i64 ((p0 : Int) + 1)) = w3 := ⟨_, rfl⟩
        have hrs : RS br s deep { st with pos := p1 } w3 := by rw [← hw3, ← HP1.out]; exact HRS2.out.setPos (p0 + 1) (by omega)
        have ht : Touch (fun b => b = br) w w3 := by rw [← hw3]; exact Touch.setCell HT2.out (.inl rfl) _
        have HRS3 := Lib.hid hrs
        have HT3 := Lib.hid ht
        clear hrs ht
        go_wp2_with fail
        clear hw3 hc1 hc1f hw1
        have hc0 := HRS3.out.c0
        have hc1 := HRS3.out.c1.1
        go_wp2_with fail
        go_quiet (fail)
        have hrs := HRS3.out.drewN nq
        have ht := HT3.out.drewN nq
        generalize w3.drewN nq = w4 at *
        have HRS4 := Lib.hid hrs
        have HT4 := Lib.hid ht
        clear hrs ht hc0 hc1
        go_wp2_with fail
        refine (fail_any _ _).mono ?_
        rintro e w99 ⟨rfl, rfl⟩
        refine ⟨rfl, ?_⟩
        rw [HR.out]
        exact ⟨rfl, HT4.out⟩
    · have qc : ((c : Int) != 92) = true := by rw [bne_iff_ne]; omega
      rw [if_pos h92] at HR1
      have HR := Lib.hid HR1
      clear HR1 hp1 hp2 h92
      go_enter Tryz.func118, Tryz.ntmps118
      go_wp2_with fail
      refine (peek_rs br s deep _ _ HRS0.out).mono ?_
      rintro e w1 ⟨he, hrs, ht⟩
      rw [show pk (str s) (PS.pos _) = c from HC.out] at he
      subst he
      have HRS1 := Lib.hid hrs
      have HT1 := Lib.hid (HT0.out.then (ht.mono (fun _ _ e => e.elim)))
      clear hrs ht
      have hc0 := HRS1.out.c0
      have hc1 := HRS1.out.c1.1
      go_wp2_with fail
      go_quiet (fail)
      have hrs := HRS1.out.drewN nq
      have ht := HT1.out.drewN nq
      generalize w1.drewN nq = w2 at *
      have HRS2 := Lib.hid hrs
      have HT2 := Lib.hid ht
      clear hrs ht hc0 hc1
      have hc1 := HRS2.out.c1
      obtain ⟨hc1, hc1f⟩ := hc1
      have hw1 := IntWalk.i64_in ((p0 : Int) + 1) (by omega)
      obtain ⟨w3, hw3⟩ : ∃ w3, w2.setCell ⟨br, 1, none⟩ (.int .i64 ((p0 : Int) + 1)) = w3 := ⟨_, rfl⟩
      have hrs : RS br s deep { st with pos := p1 } w3 := by rw [← hw3, ← HP1.out]; exact HRS2.out.setPos (p0 + 1) (by omega)
      have ht : Touch (fun b => b = br) w w3 := by rw [← hw3]; exact Touch.setCell HT2.out (.inl rfl) _
      have HRS3 := Lib.hid hrs
      have HT3 := Lib.hid ht
      clear hrs ht
      go_wp2_with fail
      clear hw3 hc1 hc1f hw1
      go_ret2
      rw [HR.out]
      exact ⟨rfl, HRS3.out, HT3.out, hc256, by have := HP0.out; have := HP1.out; omega⟩
  · have q0 : ((p0 : Int) == (s.size : Int)) = true := by simp; omega
    have HR : Hid (memberP (str s) p0 = none) := Lib.hid (by unfold memberP; rw [byteAt_ge (by omega)])
    clear hc hp1 hp2
    go_enter Tryz.func118, Tryz.ntmps118
    go_wp2_with fail
    refine (peek_rs br s deep _ _ HRS0.out).mono ?_
    rintro e w1 ⟨he, hrs, ht⟩
    rw [show pk (str s) (PS.pos _) = c from HC.out] at he
    subst he
    have HRS1 := Lib.hid hrs
    have HT1 := Lib.hid (HT0.out.then (ht.mono (fun _ _ e => e.elim)))
    clear hrs ht
    have hc0 := HRS1.out.c0
    have hc1 := HRS1.out.c1.1
    go_wp2_with fail
    go_quiet (fail)
    have hrs := HRS1.out.drewN nq
    have ht := HT1.out.drewN nq
    generalize w1.drewN nq = w2 at *
    have HRS2 := Lib.hid hrs
    have HT2 := Lib.hid ht
    clear hrs ht hc0 hc1
    go_wp2_with fail
    refine (fail_any _ _).mono ?_
    rintro e w99 ⟨rfl, rfl⟩
    refine ⟨rfl, ?_⟩
    rw [HR.out]
    exact ⟨rfl, HT2.out⟩

/-- What comes back of a function that reads a node. -/
def NodePost (br : Nat) (s : ByteArray) (deep : Nat) (st : PS) (w : World) : Option (Re × PS) → Ending → World → Prop
  | none, e, w' => e = bad ∧ Touch (fun b => b = br) w w'
  | some (a, st'), e, w' => ∃ b, e = .returned (.pointer (some ⟨b, 0, none⟩)) ∧ RS br s deep st' w' ∧ Touch (fun b => b = br) w w' ∧ (rd (FP w.heap.size w'.heap.size) w' 9 a).node (.pointer (some ⟨b, 0, none⟩)) ∧ st.pos < st'.pos

/-- A new node without parts. -/
theorem leaf_new {w0 w : World} (hw : w0.heap.size ≤ w.heap.size) (kind : Int) (of : Value) (num : Int) :
    NodeC (FP w0.heap.size (w.heap.size + 1)) (w.alloc (.cells #[.int .i64 kind, of, .int .i64 num, .slice none 0 0, .pointer none, .int .i64 0, .int .i64 0, .int .i64 0] 89)) w.heap.size kind of num none 0 0 (.pointer none) 0 0 0 :=
  nodeC_new ⟨hw, Nat.lt_succ_self _⟩ kind of num none 0 0 (.pointer none) 0 0 0

set_option maxRecDepth 100000 in
set_option maxHeartbeats 8000000 in
theorem escape_any (br : Nat) (s : ByteArray) (deep : Nat) (st : PS) (w : World) (h : RS br s deep st w) :
    Calls Tryz.prog 105 #[.pointer (some ⟨br, 0, none⟩)] w (NodePost br s deep st w (escP (str s) st)) := by
  have hle := h.le
  have hsz := h.sz
  have hrf := h.rs
  obtain ⟨p0, g0', r0⟩ := st
  have HRS0 := Lib.hid h; clear h
  simp only at hle hrf
  have HT0 : Hid (Touch (fun b => b = br) w w) := Lib.hid (Touch.refl _ _)
  have hc256 := pk_256 s p0
  obtain ⟨c, hc⟩ : ∃ c, pk (str s) p0 = c := ⟨_, rfl⟩
  rw [hc] at hc256
  have HC := Lib.hid hc
  obtain ⟨p1, hp1⟩ : ∃ p1, p0 + 1 = p1 := ⟨_, rfl⟩
  have HP1 := Lib.hid hp1
  by_cases hlt : p0 < s.size
  · have q0 : ((p0 : Int) == (s.size : Int)) = false := by simp; omega
    have HR1 : escP (str s) ⟨p0, g0', r0⟩ = match named c with
      | some f => some (.set f, ⟨p1, g0', r0⟩)
      | none =>
        if c = 65 then some (.asr 3, ⟨p1, g0', r0⟩)
        else if c = 122 then some (.asr 4, ⟨p1, g0', r0⟩)
        else if c = 98 then some (.asr 5, ⟨p1, g0', r0⟩)
        else if c = 66 then some (.asr 6, ⟨p1, g0', r0⟩)
        else if 49 ≤ c ∧ c ≤ 57 then some (.bref (c - 48), ⟨p1, g0', max r0 (c - 48)⟩)
        else match plainP c with
          | none => none
          | some b => some (oneR b, ⟨p1, g0', r0⟩) := by
      unfold escP; simp only; rw [byteAt_pk hlt, hc, ← hp1]; rfl
    have hlt1 : p1 ≤ s.size := by omega
    clear hc hp1
    have hnm := fun w => named_any c hc256 w
    cases hn : named c with
    | some f =>
      rw [hn] at hnm HR1
      have HNM := Lib.hid hnm
      have HR := Lib.hid HR1
      clear hnm HR1 hn
      go_enter Tryz.func105, Tryz.ntmps105
      have hc0 := HRS0.out.c0
      have hc1 := HRS0.out.c1.1
      go_wp2_with fail
      go_quiet (fail)
      have hrs := HRS0.out.drewN nq
      have ht := HT0.out.drewN nq
      generalize w.drewN nq = w1 at *
      have HRS1 := Lib.hid hrs
      have HT1 := Lib.hid ht
      clear hrs ht hc0 hc1
      go_wp2_with fail
      refine (peek_rs br s deep _ _ HRS1.out).mono ?_
      rintro e w2 ⟨he, hrs, ht⟩
      rw [show pk (str s) (PS.pos _) = c from HC.out] at he
      subst he
      have HRS2 := Lib.hid hrs
      have HT2 := Lib.hid (HT1.out.then (ht.mono (fun _ _ e => e.elim)))
      clear hrs ht
      have hc1 := HRS2.out.c1
      obtain ⟨hc1, hc1f⟩ := hc1
      have hw1 := IntWalk.i64_in ((p0 : Int) + 1) (by omega)
      obtain ⟨w3, hw3⟩ : ∃ w3, w2.setCell ⟨br, 1, none⟩ (.int .i64 ((p0 : Int) + 1)) = w3 := ⟨_, rfl⟩
      have hrs : RS br s deep ⟨p1, g0', r0⟩ w3 := by rw [← hw3, ← HP1.out]; exact HRS2.out.setPos (p0 + 1) (by omega)
      have ht : Touch (fun b => b = br) w w3 := by rw [← hw3]; exact Touch.setCell HT2.out (.inl rfl) _
      have HRS3 := Lib.hid hrs
      have HT3 := Lib.hid ht
      clear hrs ht
      go_wp2_with fail
      clear hw3 hc1 hc1f hw1
      go_wp2_with fail
      refine (HNM.out _).mono ?_
      rintro e w4 ⟨bs, rfl, hset, hbs, ht⟩
      have HSET := Lib.hid hset
      have HRS4 := Lib.hid (HRS3.out.keep ht id)
      have HT4 := Lib.hid (HT3.out.then (ht.mono (fun _ _ e => e.elim)))
      have HBS : Hid (w.heap.size ≤ bs) := Lib.hid (Nat.le_trans HT3.out.size hbs)
      clear hset hbs ht
      go_wp2_with fail
      go_ret
      rw [HR.out]
      have hbl := HSET.out.lt
      refine ⟨w4.heap.size, rfl, HRS4.out.keep ((Touch.refl (fun _ => False) _).alloc _) id, HT4.out.alloc _, ?_, by have := HP1.out; show p0 < p1; omega⟩
      rw [show (w4.alloc (.cells #[.int .i64 0, .pointer (some ⟨bs, 0, none⟩), .int .i64 0, .slice none 0 0, .pointer none, .int .i64 0, .int .i64 0, .int .i64 0] 89)).heap.size = w4.heap.size + 1 by simp]
      refine ⟨w4.heap.size, bs, _, _, _, _, _, _, _, _, rfl, leaf_new HT4.out.size 0 (.pointer (some ⟨bs, 0, none⟩)) 0, ⟨HBS.out, by omega⟩, fun i hi => ?_⟩
      exact ((HSET.out.keep ((Touch.refl (fun _ => False) _).alloc _) id).cell hi).1
    | none =>
      rw [hn] at hnm HR1
      have HNM := Lib.hid hnm
      clear hnm hn
      simp only at HR1
      by_cases e65 : c = 65
      · have HR : Hid (escP (str s) ⟨p0, g0', r0⟩ = some (.asr 3, ⟨p1, g0', r0⟩)) := Lib.hid (by rw [HR1, if_pos e65])
        have q65 : ((c : Int) == 65) = true := by rw [e65]; rfl
        clear HR1 e65
        go_enter Tryz.func105, Tryz.ntmps105
        have hc0 := HRS0.out.c0
        have hc1 := HRS0.out.c1.1
        go_wp2_with fail
        go_quiet (fail)
        have hrs := HRS0.out.drewN nq
        have ht := HT0.out.drewN nq
        generalize w.drewN nq = w1 at *
        have HRS1 := Lib.hid hrs
        have HT1 := Lib.hid ht
        clear hrs ht hc0 hc1
        go_wp2_with fail
        refine (peek_rs br s deep _ _ HRS1.out).mono ?_
        rintro e w2 ⟨he, hrs, ht⟩
        rw [show pk (str s) (PS.pos _) = c from HC.out] at he
        subst he
        have HRS2 := Lib.hid hrs
        have HT2 := Lib.hid (HT1.out.then (ht.mono (fun _ _ e => e.elim)))
        clear hrs ht
        have hc1 := HRS2.out.c1
        obtain ⟨hc1, hc1f⟩ := hc1
        have hw1 := IntWalk.i64_in ((p0 : Int) + 1) (by omega)
        obtain ⟨w3, hw3⟩ : ∃ w3, w2.setCell ⟨br, 1, none⟩ (.int .i64 ((p0 : Int) + 1)) = w3 := ⟨_, rfl⟩
        have hrs : RS br s deep ⟨p1, g0', r0⟩ w3 := by rw [← hw3, ← HP1.out]; exact HRS2.out.setPos (p0 + 1) (by omega)
        have ht : Touch (fun b => b = br) w w3 := by rw [← hw3]; exact Touch.setCell HT2.out (.inl rfl) _
        have HRS3 := Lib.hid hrs
        have HT3 := Lib.hid ht
        clear hrs ht
        go_wp2_with fail
        clear hw3 hc1 hc1f hw1
        go_wp2_with fail
        refine (HNM.out _).mono ?_
        rintro e w4 ⟨rfl, ht⟩
        have HRS4 := Lib.hid (HRS3.out.keep ht id)
        have HT4 := Lib.hid (HT3.out.then (ht.mono (fun _ _ e => e.elim)))
        clear ht
        go_wp2_with fail
        go_ret
        rw [HR.out]
        refine ⟨w4.heap.size, rfl, HRS4.out.keep ((Touch.refl (fun _ => False) _).alloc _) id, HT4.out.alloc _, ?_, by have := HP1.out; show p0 < p1; omega⟩
        rw [show (w4.alloc (.cells #[.int .i64 3, .pointer none, .int .i64 0, .slice none 0 0, .pointer none, .int .i64 0, .int .i64 0, .int .i64 0] 89)).heap.size = w4.heap.size + 1 by simp]
        exact ⟨w4.heap.size, _, _, _, _, _, _, _, _, _, rfl, leaf_new HT4.out.size 3 (.pointer none) 0, by decide, by decide⟩
      · have q65 : ((c : Int) == 65) = false := by simp; omega
        by_cases e122 : c = 122
        · have HR : Hid (escP (str s) ⟨p0, g0', r0⟩ = some (.asr 4, ⟨p1, g0', r0⟩)) := Lib.hid (by rw [HR1, if_neg e65, if_pos e122])
          have q122 : ((c : Int) == 122) = true := by rw [e122]; rfl
          clear HR1 e122
          go_enter Tryz.func105, Tryz.ntmps105
          have hc0 := HRS0.out.c0
          have hc1 := HRS0.out.c1.1
          go_wp2_with fail
          go_quiet (fail)
          have hrs := HRS0.out.drewN nq
          have ht := HT0.out.drewN nq
          generalize w.drewN nq = w1 at *
          have HRS1 := Lib.hid hrs
          have HT1 := Lib.hid ht
          clear hrs ht hc0 hc1
          go_wp2_with fail
          refine (peek_rs br s deep _ _ HRS1.out).mono ?_
          rintro e w2 ⟨he, hrs, ht⟩
          rw [show pk (str s) (PS.pos _) = c from HC.out] at he
          subst he
          have HRS2 := Lib.hid hrs
          have HT2 := Lib.hid (HT1.out.then (ht.mono (fun _ _ e => e.elim)))
          clear hrs ht
          have hc1 := HRS2.out.c1
          obtain ⟨hc1, hc1f⟩ := hc1
          have hw1 := IntWalk.i64_in ((p0 : Int) + 1) (by omega)
          obtain ⟨w3, hw3⟩ : ∃ w3, w2.setCell ⟨br, 1, none⟩ (.int .i64 ((p0 : Int) + 1)) = w3 := ⟨_, rfl⟩
          have hrs : RS br s deep ⟨p1, g0', r0⟩ w3 := by rw [← hw3, ← HP1.out]; exact HRS2.out.setPos (p0 + 1) (by omega)
          have ht : Touch (fun b => b = br) w w3 := by rw [← hw3]; exact Touch.setCell HT2.out (.inl rfl) _
          have HRS3 := Lib.hid hrs
          have HT3 := Lib.hid ht
          clear hrs ht
          go_wp2_with fail
          clear hw3 hc1 hc1f hw1
          go_wp2_with fail
          refine (HNM.out _).mono ?_
          rintro e w4 ⟨rfl, ht⟩
          have HRS4 := Lib.hid (HRS3.out.keep ht id)
          have HT4 := Lib.hid (HT3.out.then (ht.mono (fun _ _ e => e.elim)))
          clear ht
          go_wp2_with fail
          go_ret
          rw [HR.out]
          refine ⟨w4.heap.size, rfl, HRS4.out.keep ((Touch.refl (fun _ => False) _).alloc _) id, HT4.out.alloc _, ?_, by have := HP1.out; show p0 < p1; omega⟩
          rw [show (w4.alloc (.cells #[.int .i64 4, .pointer none, .int .i64 0, .slice none 0 0, .pointer none, .int .i64 0, .int .i64 0, .int .i64 0] 89)).heap.size = w4.heap.size + 1 by simp]
          exact ⟨w4.heap.size, _, _, _, _, _, _, _, _, _, rfl, leaf_new HT4.out.size 4 (.pointer none) 0, by decide, by decide⟩
        · have q122 : ((c : Int) == 122) = false := by simp; omega
          by_cases e98 : c = 98
          · have HR : Hid (escP (str s) ⟨p0, g0', r0⟩ = some (.asr 5, ⟨p1, g0', r0⟩)) := Lib.hid (by rw [HR1, if_neg e65, if_neg e122, if_pos e98])
            have q98 : ((c : Int) == 98) = true := by rw [e98]; rfl
            clear HR1 e98
            go_enter Tryz.func105, Tryz.ntmps105
            have hc0 := HRS0.out.c0
            have hc1 := HRS0.out.c1.1
            go_wp2_with fail
            go_quiet (fail)
            have hrs := HRS0.out.drewN nq
            have ht := HT0.out.drewN nq
            generalize w.drewN nq = w1 at *
            have HRS1 := Lib.hid hrs
            have HT1 := Lib.hid ht
            clear hrs ht hc0 hc1
            go_wp2_with fail
            refine (peek_rs br s deep _ _ HRS1.out).mono ?_
            rintro e w2 ⟨he, hrs, ht⟩
            rw [show pk (str s) (PS.pos _) = c from HC.out] at he
            subst he
            have HRS2 := Lib.hid hrs
            have HT2 := Lib.hid (HT1.out.then (ht.mono (fun _ _ e => e.elim)))
            clear hrs ht
            have hc1 := HRS2.out.c1
            obtain ⟨hc1, hc1f⟩ := hc1
            have hw1 := IntWalk.i64_in ((p0 : Int) + 1) (by omega)
            obtain ⟨w3, hw3⟩ : ∃ w3, w2.setCell ⟨br, 1, none⟩ (.int .i64 ((p0 : Int) + 1)) = w3 := ⟨_, rfl⟩
            have hrs : RS br s deep ⟨p1, g0', r0⟩ w3 := by rw [← hw3, ← HP1.out]; exact HRS2.out.setPos (p0 + 1) (by omega)
            have ht : Touch (fun b => b = br) w w3 := by rw [← hw3]; exact Touch.setCell HT2.out (.inl rfl) _
            have HRS3 := Lib.hid hrs
            have HT3 := Lib.hid ht
            clear hrs ht
            go_wp2_with fail
            clear hw3 hc1 hc1f hw1
            go_wp2_with fail
            refine (HNM.out _).mono ?_
            rintro e w4 ⟨rfl, ht⟩
            have HRS4 := Lib.hid (HRS3.out.keep ht id)
            have HT4 := Lib.hid (HT3.out.then (ht.mono (fun _ _ e => e.elim)))
            clear ht
            go_wp2_with fail
            go_ret
            rw [HR.out]
            refine ⟨w4.heap.size, rfl, HRS4.out.keep ((Touch.refl (fun _ => False) _).alloc _) id, HT4.out.alloc _, ?_, by have := HP1.out; show p0 < p1; omega⟩
            rw [show (w4.alloc (.cells #[.int .i64 5, .pointer none, .int .i64 0, .slice none 0 0, .pointer none, .int .i64 0, .int .i64 0, .int .i64 0] 89)).heap.size = w4.heap.size + 1 by simp]
            exact ⟨w4.heap.size, _, _, _, _, _, _, _, _, _, rfl, leaf_new HT4.out.size 5 (.pointer none) 0, by decide, by decide⟩
          · have q98 : ((c : Int) == 98) = false := by simp; omega
            by_cases e66 : c = 66
            · have HR : Hid (escP (str s) ⟨p0, g0', r0⟩ = some (.asr 6, ⟨p1, g0', r0⟩)) := Lib.hid (by rw [HR1, if_neg e65, if_neg e122, if_neg e98, if_pos e66])
              have q66 : ((c : Int) == 66) = true := by rw [e66]; rfl
              clear HR1 e66
              go_enter Tryz.func105, Tryz.ntmps105
              have hc0 := HRS0.out.c0
              have hc1 := HRS0.out.c1.1
              go_wp2_with fail
              go_quiet (fail)
              have hrs := HRS0.out.drewN nq
              have ht := HT0.out.drewN nq
              generalize w.drewN nq = w1 at *
              have HRS1 := Lib.hid hrs
              have HT1 := Lib.hid ht
              clear hrs ht hc0 hc1
              go_wp2_with fail
              refine (peek_rs br s deep _ _ HRS1.out).mono ?_
              rintro e w2 ⟨he, hrs, ht⟩
              rw [show pk (str s) (PS.pos _) = c from HC.out] at he
              subst he
              have HRS2 := Lib.hid hrs
              have HT2 := Lib.hid (HT1.out.then (ht.mono (fun _ _ e => e.elim)))
              clear hrs ht
              have hc1 := HRS2.out.c1
              obtain ⟨hc1, hc1f⟩ := hc1
              have hw1 := IntWalk.i64_in ((p0 : Int) + 1) (by omega)
              obtain ⟨w3, hw3⟩ : ∃ w3, w2.setCell ⟨br, 1, none⟩ (.int .i64 ((p0 : Int) + 1)) = w3 := ⟨_, rfl⟩
              have hrs : RS br s deep ⟨p1, g0', r0⟩ w3 := by rw [← hw3, ← HP1.out]; exact HRS2.out.setPos (p0 + 1) (by omega)
              have ht : Touch (fun b => b = br) w w3 := by rw [← hw3]; exact Touch.setCell HT2.out (.inl rfl) _
              have HRS3 := Lib.hid hrs
              have HT3 := Lib.hid ht
              clear hrs ht
              go_wp2_with fail
              clear hw3 hc1 hc1f hw1
              go_wp2_with fail
              refine (HNM.out _).mono ?_
              rintro e w4 ⟨rfl, ht⟩
              have HRS4 := Lib.hid (HRS3.out.keep ht id)
              have HT4 := Lib.hid (HT3.out.then (ht.mono (fun _ _ e => e.elim)))
              clear ht
              go_wp2_with fail
              go_ret
              rw [HR.out]
              refine ⟨w4.heap.size, rfl, HRS4.out.keep ((Touch.refl (fun _ => False) _).alloc _) id, HT4.out.alloc _, ?_, by have := HP1.out; show p0 < p1; omega⟩
              rw [show (w4.alloc (.cells #[.int .i64 6, .pointer none, .int .i64 0, .slice none 0 0, .pointer none, .int .i64 0, .int .i64 0, .int .i64 0] 89)).heap.size = w4.heap.size + 1 by simp]
              exact ⟨w4.heap.size, _, _, _, _, _, _, _, _, _, rfl, leaf_new HT4.out.size 6 (.pointer none) 0, by decide, by decide⟩
            · have q66 : ((c : Int) == 66) = false := by simp; omega
              by_cases edig : 49 ≤ c ∧ c ≤ 57
              · have HR : Hid (escP (str s) ⟨p0, g0', r0⟩ = some (.bref (c - 48), ⟨p1, g0', max r0 (c - 48)⟩)) := Lib.hid (by rw [HR1, if_neg e65, if_neg e122, if_neg e98, if_neg e66, if_pos edig])
                obtain ⟨d1, d2⟩ := edig
                have r1 : decide (49 ≤ (c : Int)) = true := by simp; omega
                have r2 : decide ((c : Int) ≤ 57) = true := by simp; omega
                clear HR1
                go_enter Tryz.func105, Tryz.ntmps105
                have hc0 := HRS0.out.c0
                have hc1 := HRS0.out.c1.1
                go_wp2_with fail
                go_quiet (fail)
                have hrs := HRS0.out.drewN nq
                have ht := HT0.out.drewN nq
                generalize w.drewN nq = w1 at *
                have HRS1 := Lib.hid hrs
                have HT1 := Lib.hid ht
                clear hrs ht hc0 hc1
                go_wp2_with fail
                refine (peek_rs br s deep _ _ HRS1.out).mono ?_
                rintro e w2 ⟨he, hrs, ht⟩
                rw [show pk (str s) (PS.pos _) = c from HC.out] at he
                subst he
                have HRS2 := Lib.hid hrs
                have HT2 := Lib.hid (HT1.out.then (ht.mono (fun _ _ e => e.elim)))
                clear hrs ht
                have hc1 := HRS2.out.c1
                obtain ⟨hc1, hc1f⟩ := hc1
                have hw1 := IntWalk.i64_in ((p0 : Int) + 1) (by omega)
                obtain ⟨w3, hw3⟩ : ∃ w3, w2.setCell ⟨br, 1, none⟩ (.int .i64 ((p0 : Int) + 1)) = w3 := ⟨_, rfl⟩
                have hrs : RS br s deep ⟨p1, g0', r0⟩ w3 := by rw [← hw3, ← HP1.out]; exact HRS2.out.setPos (p0 + 1) (by omega)
                have ht : Touch (fun b => b = br) w w3 := by rw [← hw3]; exact Touch.setCell HT2.out (.inl rfl) _
                have HRS3 := Lib.hid hrs
                have HT3 := Lib.hid ht
                clear hrs ht
                go_wp2_with fail
                clear hw3 hc1 hc1f hw1
                go_wp2_with fail
                refine (HNM.out _).mono ?_
                rintro e w4 ⟨rfl, ht⟩
                have HRS4 := Lib.hid (HRS3.out.keep ht id)
                have HT4 := Lib.hid (HT3.out.then (ht.mono (fun _ _ e => e.elim)))
                clear ht
                have h4 := HRS4.out.c4
                obtain ⟨h4, h4f⟩ := h4
                obtain ⟨m, hm⟩ : ∃ m, max r0 (c - 48) = m := ⟨_, rfl⟩
                have hmI : max (r0 : Int) ((c : Int) - 48) = (m : Int) := by omega
                have hm9 : m ≤ 9 := by omega
                have HRS5 := Lib.hid (HRS4.out.setRefs m hm9)
                have HT5 : Hid (Touch (fun b => b = br) w (w4.setCell ⟨br, 4, none⟩ (.int .i64 (m : Int)))) := Lib.hid (Touch.setCell HT4.out (.inl rfl) _)
                have HM := Lib.hid hm
                simp only at HRS5
                clear hm
                go_wp2_with fail
                go_ret
                rw [HR.out, HM.out]
                refine ⟨w4.heap.size, rfl, HRS5.out.keep ((Touch.refl (fun _ => False) _).alloc _) id, HT5.out.alloc _, ?_, by have := HP1.out; show p0 < p1; omega⟩
                have hnum : (c : Int) - 48 = ((c - 48 : Nat) : Int) := by omega
                rw [hnum, show ((w4.setCell ⟨br, 4, none⟩ (.int .i64 (m : Int))).alloc (.cells #[.int .i64 7, .pointer none, .int .i64 ((c - 48 : Nat) : Int), .slice none 0 0, .pointer none, .int .i64 0, .int .i64 0, .int .i64 0] 89)).heap.size = w4.heap.size + 1 by simp [World.setCell]]
                have hs5 : (w4.setCell ⟨br, 4, none⟩ (.int .i64 (m : Int))).heap.size = w4.heap.size := by simp [World.setCell]
                have hl := leaf_new (w0 := w) (w := w4.setCell ⟨br, 4, none⟩ (.int .i64 (m : Int))) (by rw [hs5]; exact HT4.out.size) 7 (.pointer none) ((c - 48 : Nat) : Int)
                rw [hs5] at hl
                exact ⟨w4.heap.size, _, _, _, _, _, _, _, _, rfl, hl, by omega, by omega⟩
              · have hr : ∀ X Y : Option (Re × PS), (if 49 ≤ c ∧ c ≤ 57 then X else Y) = Y := fun X Y => if_neg edig
                have HR2 : escP (str s) ⟨p0, g0', r0⟩ = match plainP c with
                    | none => none
                    | some b => some (oneR b, ⟨p1, g0', r0⟩) := by rw [HR1, if_neg e65, if_neg e122, if_neg e98, if_neg e66, hr]
                have rr : decide (49 ≤ (c : Int)) = false ∨ (decide (49 ≤ (c : Int)) = true ∧ decide ((c : Int) ≤ 57) = false) := by
                  by_cases h49 : 49 ≤ c
                  · right; constructor
                    · simp; omega
                    · simp; omega
                  · left; simp; omega
                have hpl := fun v w => plain_any v c hc256 w
                clear HR1 hr edig
                cases hq : plainP c with
                | none =>
                  rw [hq] at hpl HR2
                  have HPL := Lib.hid hpl
                  have HR := Lib.hid HR2
                  clear hpl HR2 hq
                  rcases rr with r1 | ⟨r1, r2⟩
                  all_goals
                    go_enter Tryz.func105, Tryz.ntmps105
                    have hc0 := HRS0.out.c0
                    have hc1 := HRS0.out.c1.1
                    go_wp2_with fail
                    go_quiet (fail)
                    have hrs := HRS0.out.drewN nq
                    have ht := HT0.out.drewN nq
                    generalize w.drewN nq = w1 at *
                    have HRS1 := Lib.hid hrs
                    have HT1 := Lib.hid ht
                    clear hrs ht hc0 hc1
                    go_wp2_with fail
                    refine (peek_rs br s deep _ _ HRS1.out).mono ?_
                    rintro e w2 ⟨he, hrs, ht⟩
                    rw [show pk (str s) (PS.pos _) = c from HC.out] at he
                    subst he
                    have HRS2 := Lib.hid hrs
                    have HT2 := Lib.hid (HT1.out.then (ht.mono (fun _ _ e => e.elim)))
                    clear hrs ht
                    have hc1 := HRS2.out.c1
                    obtain ⟨hc1, hc1f⟩ := hc1
                    have hw1 := IntWalk.i64_in ((p0 : Int) + 1) (by omega)
                    obtain ⟨w3, hw3⟩ : ∃ w3, w2.setCell ⟨br, 1, none⟩ (.int .i64 ((p0 : Int) + 1)) = w3 := ⟨_, rfl⟩
                    have hrs : RS br s deep ⟨p1, g0', r0⟩ w3 := by rw [← hw3, ← HP1.out]; exact HRS2.out.setPos (p0 + 1) (by omega)
                    have ht : Touch (fun b => b = br) w w3 := by rw [← hw3]; exact Touch.setCell HT2.out (.inl rfl) _
                    have HRS3 := Lib.hid hrs
                    have HT3 := Lib.hid ht
                    clear hrs ht
                    go_wp2_with fail
                    clear hw3 hc1 hc1f hw1
                    go_wp2_with fail
                    refine (HNM.out _).mono ?_
                    rintro e w4 ⟨rfl, ht⟩
                    have HRS4 := Lib.hid (HRS3.out.keep ht id)
                    have HT4 := Lib.hid (HT3.out.then (ht.mono (fun _ _ e => e.elim)))
                    clear ht
                    go_wp2_with fail
                    refine (HPL.out _ _).mono ?_
                    rintro e w8 ⟨rfl, ht⟩
                    refine ⟨rfl, ?_⟩
                    rw [HR.out]
                    exact ⟨rfl, HT4.out.then (ht.mono (fun _ _ e => e.elim))⟩
                | some bb =>
                  have hb256 := plain_lt hq hc256
                  rw [hq] at hpl HR2
                  have HPL := Lib.hid hpl
                  have HR := Lib.hid HR2
                  clear hpl HR2 hq
                  have HON := Lib.hid (fun w => one_any bb hb256 w)
                  rcases rr with r1 | ⟨r1, r2⟩
                  all_goals
                    go_enter Tryz.func105, Tryz.ntmps105
                    have hc0 := HRS0.out.c0
                    have hc1 := HRS0.out.c1.1
                    go_wp2_with fail
                    go_quiet (fail)
                    have hrs := HRS0.out.drewN nq
                    have ht := HT0.out.drewN nq
                    generalize w.drewN nq = w1 at *
                    have HRS1 := Lib.hid hrs
                    have HT1 := Lib.hid ht
                    clear hrs ht hc0 hc1
                    go_wp2_with fail
                    refine (peek_rs br s deep _ _ HRS1.out).mono ?_
                    rintro e w2 ⟨he, hrs, ht⟩
                    rw [show pk (str s) (PS.pos _) = c from HC.out] at he
                    subst he
                    have HRS2 := Lib.hid hrs
                    have HT2 := Lib.hid (HT1.out.then (ht.mono (fun _ _ e => e.elim)))
                    clear hrs ht
                    have hc1 := HRS2.out.c1
                    obtain ⟨hc1, hc1f⟩ := hc1
                    have hw1 := IntWalk.i64_in ((p0 : Int) + 1) (by omega)
                    obtain ⟨w3, hw3⟩ : ∃ w3, w2.setCell ⟨br, 1, none⟩ (.int .i64 ((p0 : Int) + 1)) = w3 := ⟨_, rfl⟩
                    have hrs : RS br s deep ⟨p1, g0', r0⟩ w3 := by rw [← hw3, ← HP1.out]; exact HRS2.out.setPos (p0 + 1) (by omega)
                    have ht : Touch (fun b => b = br) w w3 := by rw [← hw3]; exact Touch.setCell HT2.out (.inl rfl) _
                    have HRS3 := Lib.hid hrs
                    have HT3 := Lib.hid ht
                    clear hrs ht
                    go_wp2_with fail
                    clear hw3 hc1 hc1f hw1
                    go_wp2_with fail
                    refine (HNM.out _).mono ?_
                    rintro e w4 ⟨rfl, ht⟩
                    have HRS4 := Lib.hid (HRS3.out.keep ht id)
                    have HT4 := Lib.hid (HT3.out.then (ht.mono (fun _ _ e => e.elim)))
                    clear ht
                    go_wp2_with fail
                    refine (HPL.out _ _).mono ?_
                    rintro e w8 ⟨rfl, ht⟩
                    have HRS8 := Lib.hid (HRS4.out.keep ht id)
                    have HT8 := Lib.hid (HT4.out.then (ht.mono (fun _ _ e => e.elim)))
                    clear ht
                    go_wp2_with fail
                    refine (HON.out _).mono ?_
                    rintro e w9 ⟨rfl, ht, hz, hrd⟩
                    have HRS9 := Lib.hid (HRS8.out.keep ht id)
                    have HT9 := Lib.hid (HT8.out.then (ht.mono (fun _ _ e => e.elim)))
                    have HRD : Hid ((rd (FP w.heap.size w9.heap.size) w9 9 (oneR bb)).node (.pointer (some ⟨w8.heap.size + 1, 0, none⟩))) := Lib.hid ((rd_mono (fun b h => ⟨Nat.le_trans HT8.out.size h.1, h.2⟩) (fun _ _ _ _ h => h) _).1 _ hrd)
                    clear ht hz hrd
                    go_wp2_with fail
                    go_ret
                    rw [HR.out]
                    exact ⟨_, rfl, HRS9.out, HT9.out, HRD.out, by have := HP1.out; show p0 < p1; omega⟩
  · have q0 : ((p0 : Int) == (s.size : Int)) = true := by simp; omega
    have HR : Hid (escP (str s) ⟨p0, g0', r0⟩ = none) := Lib.hid (by unfold escP; simp only; rw [byteAt_ge (by omega)])
    clear hc hp1
    go_enter Tryz.func105, Tryz.ntmps105
    have hc0 := HRS0.out.c0
    have hc1 := HRS0.out.c1.1
    go_wp2_with fail
    go_quiet (fail)
    have hrs := HRS0.out.drewN nq
    have ht := HT0.out.drewN nq
    generalize w.drewN nq = w1 at *
    have HRS1 := Lib.hid hrs
    have HT1 := Lib.hid ht
    clear hrs ht hc0 hc1
    go_wp2_with fail
    refine (fail_any _ _).mono ?_
    rintro e w99 ⟨rfl, rfl⟩
    refine ⟨rfl, ?_⟩
    rw [HR.out]
    exact ⟨rfl, HT1.out⟩
end Go.Proofs.YtlgpilcjcomacaaGreat
