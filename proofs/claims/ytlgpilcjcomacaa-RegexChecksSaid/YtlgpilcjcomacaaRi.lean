/-
  The document's escape. (Printed by wip/tools/resc07.py.)
-/
import Derived.Test.YtlgpilcjcomacaaRh
namespace Go.Proofs.Ytlgpilcjcomacaa
open Go.RowKit Rx
set_option linter.unusedVariables false

/-- What comes back of reading a node. -/
def NPostD (br : Nat) (s : ByteArray) (deep : Nat) (w : World) : Option (Re × PS) → Ending → World → Prop
  | none, e, w' => ∃ p, e = .returned (.pointer p) ∧ RX br s w' ∧ Touch (fun b => b = br) w w'
  | some (a, st'), e, w' => ∃ p, e = .returned (.pointer (some ⟨p, 0, none⟩)) ∧ RR br s deep st' w' ∧ Touch (fun b => b = br) w w' ∧ (rdD (FP w.heap.size w'.heap.size) w' a).node (.pointer (some ⟨p, 0, none⟩))

theorem ib_assert (c : Nat) (hc : c < 256) : decide (0 ≤ Lib.indexByte ([65, 122, 98, 66] : List UInt8) ((c : Int).toNat.toUInt8)) = decide (c = 65 ∨ c = 122 ∨ c = 98 ∨ c = 66) := by
  have hu : ((c : Int).toNat.toUInt8).toNat = c := by simp; omega
  have hib := ib_contains [65, 122, 98, 66] ((c : Int).toNat.toUInt8)
  rw [hu] at hib
  rw [hib, Bool.eq_iff_iff]
  simp only [List.contains_iff_mem, List.map_cons, List.map_nil, List.mem_cons, List.not_mem_nil, or_false, decide_eq_true_eq]
  exact Iff.rfl

theorem asr_new (w : World) (k c : Nat) (hk : 1 ≤ k) (hk6 : k ≤ 6) (hc : c = asrByte k) (lo hi : Nat) (hl : lo ≤ w.heap.size) (hh : w.heap.size < hi) :
    (rdD (FP lo hi) (w.alloc (.cells ((Try.zeroCells128.setIfInBounds 0 (.int .i64 1)).setIfInBounds 257 (.int .u8 (c : Int))) 128)) (.asr k)).node (.pointer (some ⟨w.heap.size, 0, none⟩)) :=
  ⟨{ nv0 1 with what := c }, ⟨w.heap.size, rfl, ⟨hl, hh⟩, NodeB.made w _ _ ((zero_node.kind 1).what c)⟩, rfl, hc, hk, hk6⟩
theorem bref_new (w : World) (m : Nat) (hm : 1 ≤ m) (hm9 : m ≤ 9) (lo hi : Nat) (hl : lo ≤ w.heap.size) (hh : w.heap.size < hi) :
    (rdD (FP lo hi) (w.alloc (.cells ((Try.zeroCells128.setIfInBounds 0 (.int .i64 2)).setIfInBounds 258 (.int .i64 (m : Int))) 128)) (.bref m)).node (.pointer (some ⟨w.heap.size, 0, none⟩)) :=
  ⟨{ nv0 2 with num := (m : Int) }, ⟨w.heap.size, rfl, ⟨hl, hh⟩, NodeB.made w _ _ ((zero_node.kind 2).num m)⟩, rfl, rfl, hm, hm9⟩
theorem set_nodeD {w : World} {b : Nat} {f : Nat → Bool} (h : NodeB w b (VS f)) (lo hi : Nat) (hl : lo ≤ b) (hh : b < hi) : (rdD (FP lo hi) w (.set f)).node (.pointer (some ⟨b, 0, none⟩)) :=
  ⟨VS f, ⟨b, rfl, ⟨hl, hh⟩, h⟩, rfl, fun _ _ => rfl⟩

set_option maxRecDepth 100000 in
set_option maxHeartbeats 8000000 in
theorem rescape_any (br : Nat) (s : ByteArray) (deep : Nat) (st : PS) (w : World) (h : RR br s deep st w) :
    Calls Try.prog 106 #[.pointer (some ⟨br, 0, none⟩)] w (NPostD br s deep w (escP (str s) st)) := by
  have hsz := h.sz
  have hle := h.le
  have HRS0 := Lib.hid h
  have HT0 : Hid (Touch (fun b => b = br) w w) := Lib.hid (Touch.refl _ _)
  obtain ⟨w0, hw0⟩ : ∃ w0, w0 = w := ⟨_, rfl⟩
  obtain ⟨i, hi⟩ : ∃ i, st.pos = i := ⟨_, rfl⟩
  have HI := Lib.hid hi
  have HPI : Hid (({ st with pos := i } : PS) = st) := Lib.hid (by rw [← HI.out])
  rw [hi] at hle
  rw [← hw0] at HRS0 HT0 ⊢
  rw [← HPI.out] at HRS0
  clear h hw0 hi
  go_enter Try.func106, Try.ntmps106
  go_wp2_with fail
  refine (rend_rr HRS0.out).mono ?_
  rintro e w1 ⟨he, q, hq⟩
  have HRS1 := Lib.hid (HRS0.out.drewN q)
  have HT1 := Lib.hid (HT0.out.drewN q)
  rw [← hq] at HRS1 HT1
  clear hq
  by_cases hend : s.size ≤ i
  · rw [show decide (s.size ≤ PS.pos _) = true from decide_eq_true hend] at he
    subst he
    have HR : Hid (escP (str s) st = none) := Lib.hid (by unfold escP; rw [HI.out, byteAt_ge hend])
    have hc5 := HRS1.out.c5
    obtain ⟨hc5, hc5f⟩ := hc5
    clear hend
    go_wp2_with fail
    go_ret
    rw [HR.out]
    exact ⟨none, rfl, HRS1.out.bad, Touch.setCell HT1.out (.inl rfl) _⟩
  · rw [show decide (s.size ≤ PS.pos _) = false from decide_eq_false hend] at he
    subst he
    have hlt : i < s.size := by omega
    clear hend
    have HPOS := Lib.hid (byteAt_pk hlt)
    obtain ⟨c, hc⟩ : ∃ c, pk (str s) i = c := ⟨_, rfl⟩
    have hc256 := pk_256 s i
    rw [hc] at hc256 HPOS
    have HC := Lib.hid hc
    clear hc
    have hw1 := IntWalk.i64_in ((i : Int) + 1) (by omega)
    go_wp2_with fail
    refine (rpeek_rr HRS1.out).mono ?_
    rintro e w2 ⟨he, q, hq⟩
    rw [show pk (str s) (PS.pos _) = c from HC.out] at he
    subst he
    have HRS2 := Lib.hid (HRS1.out.drewN q)
    have HT2 := Lib.hid (HT1.out.drewN q)
    rw [← hq] at HRS2 HT2
    clear hq
    have hc1 := HRS2.out.c1
    obtain ⟨hc1, hc1f⟩ := hc1
    simp only at hc1 hc1f
    obtain ⟨w3, hw3⟩ : ∃ w3, w2.setCell ⟨br, 1, none⟩ (.int .i64 ((i : Int) + 1)) = w3 := ⟨_, rfl⟩
    have HRS3 := Lib.hid (HRS2.out.setPos (i + 1) (by show i + 1 ≤ s.size; omega))
    rw [show ((i + 1 : Nat) : Int) = (i : Int) + 1 from by omega, hw3] at HRS3
    have HT3 := Lib.hid (Touch.then HT2.out (Touch.setCell (p := ⟨br, 1, none⟩) (Touch.refl (fun b => b = br) w2) (.inl rfl) (.int .i64 ((i : Int) + 1))))
    rw [hw3] at HT3
    have HIBA := Lib.hid (fun w => Try.strings_IndexByte ⟨#[65, 122, 98, 66]⟩ (c : Int) w)
    have hiba := ib_assert c hc256
    obtain ⟨xa, hxa⟩ : ∃ x, Lib.indexByte (⟨#[65, 122, 98, 66]⟩ : ByteArray).data.toList ((c : Int).toNat.toUInt8) = x := ⟨_, rfl⟩
    rw [hxa] at HIBA
    rw [show Lib.indexByte [65, 122, 98, 66] ((c : Int).toNat.toUInt8) = xa from hxa] at hiba
    have HIBK := Lib.hid (fun w => Try.strings_IndexByte ⟨#[100, 68, 119, 87, 115, 83]⟩ (c : Int) w)
    have hibk := ib_kinds c hc256
    obtain ⟨xk, hxk⟩ : ∃ x, Lib.indexByte (⟨#[100, 68, 119, 87, 115, 83]⟩ : ByteArray).data.toList ((c : Int).toNat.toUInt8) = x := ⟨_, rfl⟩
    rw [hxk] at HIBK
    rw [show Lib.indexByte [100, 68, 119, 87, 115, 83] ((c : Int).toNat.toUInt8) = xk from hxk] at hibk
    clear hxa hxk
    have HESC : Hid (escP (str s) st = match named c with
        | some f => some (.set f, { st with pos := i + 1 })
        | none =>
          if c = 65 then some (.asr 3, { st with pos := i + 1 })
          else if c = 122 then some (.asr 4, { st with pos := i + 1 })
          else if c = 98 then some (.asr 5, { st with pos := i + 1 })
          else if c = 66 then some (.asr 6, { st with pos := i + 1 })
          else if 49 ≤ c ∧ c ≤ 57 then some (.bref (c - 48), { st with pos := i + 1, refs := max st.refs (c - 48) })
          else match plainP c with
            | none => none
            | some b => some (oneR b, { st with pos := i + 1 })) := Lib.hid (by unfold escP; rw [HI.out, HPOS.out]; rfl)
    by_cases h65 : c = 65
    · subst h65
      have HR : Hid (escP (str s) st = some (.asr 3, { st with pos := i + 1 })) := Lib.hid (HESC.out.trans rfl)
      have HSZ : Hid (w0.heap.size ≤ w3.heap.size) := Lib.hid HT3.out.size
      clear HESC
      replace hiba : decide (0 ≤ xa) = true := hiba.trans (by decide)
      go_wp2_with fail
      clear hw3 hc1 hc1f
      refine (HIBA.out _).mono ?_
      rintro e w9 ⟨rfl, rfl⟩
      go_wp2_with fail
      go_ret
      rw [HR.out]
      have ta : Still w9 (w9.alloc (.cells ((Try.zeroCells128.setIfInBounds 0 (.int .i64 1)).setIfInBounds 257 (.int .u8 (65 : Nat))) 128)) := (Touch.refl _ _).alloc _
      exact ⟨w9.heap.size, rfl, HRS3.out.keep ta id, HT3.out.then (ta.mono (fun _ _ e => e.elim)), asr_new w9 3 65 (by decide) (by decide) rfl _ _ HSZ.out (by simp)⟩
    by_cases h122 : c = 122
    · subst h122
      have HR : Hid (escP (str s) st = some (.asr 4, { st with pos := i + 1 })) := Lib.hid (HESC.out.trans rfl)
      have HSZ : Hid (w0.heap.size ≤ w3.heap.size) := Lib.hid HT3.out.size
      clear HESC
      replace hiba : decide (0 ≤ xa) = true := hiba.trans (by decide)
      go_wp2_with fail
      clear hw3 hc1 hc1f
      refine (HIBA.out _).mono ?_
      rintro e w9 ⟨rfl, rfl⟩
      go_wp2_with fail
      go_ret
      rw [HR.out]
      have ta : Still w9 (w9.alloc (.cells ((Try.zeroCells128.setIfInBounds 0 (.int .i64 1)).setIfInBounds 257 (.int .u8 (122 : Nat))) 128)) := (Touch.refl _ _).alloc _
      exact ⟨w9.heap.size, rfl, HRS3.out.keep ta id, HT3.out.then (ta.mono (fun _ _ e => e.elim)), asr_new w9 4 122 (by decide) (by decide) rfl _ _ HSZ.out (by simp)⟩
    by_cases h98 : c = 98
    · subst h98
      have HR : Hid (escP (str s) st = some (.asr 5, { st with pos := i + 1 })) := Lib.hid (HESC.out.trans rfl)
      have HSZ : Hid (w0.heap.size ≤ w3.heap.size) := Lib.hid HT3.out.size
      clear HESC
      replace hiba : decide (0 ≤ xa) = true := hiba.trans (by decide)
      go_wp2_with fail
      clear hw3 hc1 hc1f
      refine (HIBA.out _).mono ?_
      rintro e w9 ⟨rfl, rfl⟩
      go_wp2_with fail
      go_ret
      rw [HR.out]
      have ta : Still w9 (w9.alloc (.cells ((Try.zeroCells128.setIfInBounds 0 (.int .i64 1)).setIfInBounds 257 (.int .u8 (98 : Nat))) 128)) := (Touch.refl _ _).alloc _
      exact ⟨w9.heap.size, rfl, HRS3.out.keep ta id, HT3.out.then (ta.mono (fun _ _ e => e.elim)), asr_new w9 5 98 (by decide) (by decide) rfl _ _ HSZ.out (by simp)⟩
    by_cases h66 : c = 66
    · subst h66
      have HR : Hid (escP (str s) st = some (.asr 6, { st with pos := i + 1 })) := Lib.hid (HESC.out.trans rfl)
      have HSZ : Hid (w0.heap.size ≤ w3.heap.size) := Lib.hid HT3.out.size
      clear HESC
      replace hiba : decide (0 ≤ xa) = true := hiba.trans (by decide)
      go_wp2_with fail
      clear hw3 hc1 hc1f
      refine (HIBA.out _).mono ?_
      rintro e w9 ⟨rfl, rfl⟩
      go_wp2_with fail
      go_ret
      rw [HR.out]
      have ta : Still w9 (w9.alloc (.cells ((Try.zeroCells128.setIfInBounds 0 (.int .i64 1)).setIfInBounds 257 (.int .u8 (66 : Nat))) 128)) := (Touch.refl _ _).alloc _
      exact ⟨w9.heap.size, rfl, HRS3.out.keep ta id, HT3.out.then (ta.mono (fun _ _ e => e.elim)), asr_new w9 6 66 (by decide) (by decide) rfl _ _ HSZ.out (by simp)⟩
    have hibf : decide (0 ≤ xa) = false := by rw [hiba]; exact decide_eq_false (fun h => h.elim h65 (fun h => h.elim h122 (fun h => h.elim h98 h66)))
    have HNA : Hid (c ≠ 65 ∧ c ≠ 122 ∧ c ≠ 98 ∧ c ≠ 66) := Lib.hid ⟨h65, h122, h98, h66⟩
    clear hiba h65 h122 h98 h66
    cases hnm : named c with
    | some f =>
      rw [hnm] at hibk HESC
      simp only [Option.isSome_some] at hibk
      have hd0 := named_ne0 (c := c) (by rw [hnm]; rfl)
      have q0 : ((c : Int) != 0) = true := by rw [bne_iff_ne]; omega
      have HR : Hid (escP (str s) st = some (.set f, { st with pos := i + 1 })) := HESC
      have HNM := Lib.hid hnm
      clear hd0 hnm HESC
      go_wp2_with fail
      clear hw3 hc1 hc1f
      refine (HIBA.out _).mono ?_
      rintro e w9 ⟨rfl, rfl⟩
      go_wp2_with fail
      refine (HIBK.out _).mono ?_
      rintro e w9 ⟨rfl, rfl⟩
      have HN9 := Lib.hid (node_new w9 0)
      have ta : Still w9 (w9.alloc (.cells (Try.zeroCells128.setIfInBounds 0 (.int .i64 0)) 128)) := (Touch.refl _ _).alloc _
      have HTA := Lib.hid ta
      have HIS := Lib.hid (ris_any c f HNM.out w9.heap.size (nv0 0) _ HN9.out)
      have HLT9 := Lib.hid HRS3.out.lt
      have HSZ : Hid (w0.heap.size ≤ w9.heap.size) := Lib.hid HT3.out.size
      clear ta
      go_wp2_with fail
      refine HIS.out.mono ?_
      rintro e w6 ⟨rfl, hn, ht⟩
      have HN6 : Hid (NodeB w6 w9.heap.size (VS f)) := Lib.hid (hn.congrSet (g := f) (fun x _ => by show (false || f x) = f x; rfl))
      have HRS6 := Lib.hid ((HRS3.out.keep HTA.out id).keep ht (by have := HLT9.out; omega))
      have HT6 := Lib.hid ((HT3.out.then (HTA.out.mono (S1 := fun b => b = br) (fun _ _ e => e.elim))).trans ht (fun i e => .inr (by have := HSZ.out; omega)))
      have HL6 : Hid (w9.heap.size < w6.heap.size) := Lib.hid hn.lt
      clear hn ht
      go_wp2_with fail
      go_ret
      rw [HR.out]
      exact ⟨w9.heap.size, rfl, HRS6.out, HT6.out, set_nodeD HN6.out _ _ HSZ.out HL6.out⟩
    | none =>
      rw [hnm] at hibk HESC
      simp only [Option.isSome_none] at hibk
      have HE2 : Hid (escP (str s) st = if 49 ≤ c ∧ c ≤ 57 then some (.bref (c - 48), { st with pos := i + 1, refs := max st.refs (c - 48) })
          else match plainP c with
            | none => none
            | some b => some (oneR b, { st with pos := i + 1 })) := Lib.hid (by
        rw [HESC.out]
        show (if c = 65 then _ else _) = _
        rw [if_neg HNA.out.1, if_neg HNA.out.2.1, if_neg HNA.out.2.2.1, if_neg HNA.out.2.2.2])
      clear hnm HESC
      have HSZ : Hid (w0.heap.size ≤ w3.heap.size) := Lib.hid HT3.out.size
      by_cases hdg : 49 ≤ c ∧ c ≤ 57
      · have HR : Hid (escP (str s) st = some (.bref (c - 48), { st with pos := i + 1, refs := max st.refs (c - 48) })) := Lib.hid (by rw [HE2.out, if_pos hdg])
        obtain ⟨hd1, hd2⟩ := hdg
        have q1 : decide ((49 : Int) ≤ (c : Int)) = true := decide_eq_true (by omega)
        have q1n : decide (49 ≤ c) = true := decide_eq_true (by omega)
        have q2 : decide ((c : Int) ≤ 57) = true := decide_eq_true (by omega)
        have q2n : decide (c ≤ 57) = true := decide_eq_true (by omega)
        have hw8 : IntKind.u8.wrap ((c : Int) - 48) = (c : Int) - 48 := by unfold IntKind.wrap; simp [IntKind.signed, IntKind.bits]; omega
        have hw9 := IntWalk.i64_in ((c : Int) - 48) (by omega)
        have hc4 := HRS3.out.c4
        obtain ⟨hc4, hc4f⟩ := hc4
        simp only at hc4
        have hrs := HRS3.out.rs
        simp only at hrs
        have hmx : max (st.refs : Int) ((c : Int) - 48) = ((max st.refs (c - 48) : Nat) : Int) := by omega
        have hcm : ((c - 48 : Nat) : Int) = (c : Int) - 48 := by omega
        clear HE2
        go_wp2_with fail
        clear hw3 hc1 hc1f
        refine (HIBA.out _).mono ?_
        rintro e w9 ⟨rfl, rfl⟩
        go_wp2_with fail
        refine (HIBK.out _).mono ?_
        rintro e w9 ⟨rfl, rfl⟩
        go_wp2_with fail
        go_ret
        rw [HR.out]
        have tb : Touch (fun b => b = br) w9 (w9.setCell ⟨br, 4, none⟩ (.int .i64 ((max st.refs (c - 48) : Nat) : Int))) := Touch.setCell (Touch.refl (fun b => b = br) w9) (.inl rfl) _
        have ta : Still (w9.setCell ⟨br, 4, none⟩ (.int .i64 ((max st.refs (c - 48) : Nat) : Int))) ((w9.setCell ⟨br, 4, none⟩ (.int .i64 ((max st.refs (c - 48) : Nat) : Int))).alloc (.cells ((Try.zeroCells128.setIfInBounds 0 (.int .i64 2)).setIfInBounds 258 (.int .i64 ((c - 48 : Nat) : Int))) 128)) := (Touch.refl _ _).alloc _
        have hz : (w9.setCell ⟨br, 4, none⟩ (.int .i64 ((max st.refs (c - 48) : Nat) : Int))).heap.size = w9.heap.size := by simp [World.setCell]
        rw [← hcm]
        refine ⟨w9.heap.size, rfl, (HRS3.out.setRefs (max st.refs (c - 48)) (by omega)).keep ta id, (HT3.out.then tb).then (ta.mono (fun _ _ e => e.elim)), ?_⟩
        have := bref_new (w9.setCell ⟨br, 4, none⟩ (.int .i64 ((max st.refs (c - 48) : Nat) : Int))) (c - 48) (by omega) (by omega) w0.heap.size (w9.heap.size + 1) (by rw [hz]; exact HSZ.out) (by rw [hz]; omega)
        rw [hz] at this
        simpa using this
      · have HE3 : Hid (escP (str s) st = match plainP c with | none => none | some b => some (oneR b, { st with pos := i + 1 })) := Lib.hid (by rw [HE2.out, if_neg hdg])
        have HSI := Lib.hid (rsingle_any c hc256 w3)
        obtain ⟨D1, hD1⟩ : ∃ D1, decide ((49 : Int) ≤ (c : Int)) = D1 := ⟨_, rfl⟩
        have hDn : D1 = true → decide ((c : Int) ≤ 57) = false := fun h => by
          rw [← hD1] at h
          exact decide_eq_false (fun h2 => hdg ⟨by have := of_decide_eq_true h; omega, by omega⟩)
        have HDN := Lib.hid hDn
        clear HE2 hdg hDn
        cases hpl : plainP c with
        | some b =>
          rw [hpl] at HSI HE3
          have hb256 := plain_lt hpl hc256
          have HR : Hid (escP (str s) st = some (oneR b, { st with pos := i + 1 })) := HE3
          clear hpl HE3
          cases D1 with
          | true =>
            have q2 := HDN.out rfl
            have q1n : decide (49 ≤ c) = true := by rw [← hD1]; exact decide_eq_decide.2 (by omega)
            have q2n : decide (c ≤ 57) = false := by rw [← q2]; exact decide_eq_decide.2 (by omega)
            go_wp2_with fail
            clear hw3 hc1 hc1f
            refine (HIBA.out _).mono ?_
            rintro e w9 ⟨rfl, rfl⟩
            go_wp2_with fail
            refine (HIBK.out _).mono ?_
            rintro e w9 ⟨rfl, rfl⟩
            go_wp2_with fail
            refine HSI.out.mono ?_
            rintro e w9 ⟨rfl, rfl⟩
            have hc5 := HRS3.out.c5
            obtain ⟨hc5, hc5f⟩ := hc5
            have HRS4 := Lib.hid HRS3.out.setOk
            have HT4 : Hid (Touch (fun b => b = br) w0 (w9.setCell ⟨br, 5, none⟩ (.bool false))) := Lib.hid (Touch.setCell HT3.out (.inl rfl) _)
            have HON := Lib.hid (rone_any b hb256 (w9.setCell ⟨br, 5, none⟩ (.bool false)))
            have HZZ : Hid ((w9.setCell ⟨br, 5, none⟩ (.bool false)).heap.size = w9.heap.size) := Lib.hid (by simp [World.setCell])
            go_wp2_with fail
            refine HON.out.mono ?_
            rintro e w6 ⟨rfl, ht, hz, hn⟩
            rw [HZZ.out] at hn
            have HT6 := Lib.hid (HT4.out.then (ht.mono (fun _ _ e => e.elim)))
            have HRS6 := Lib.hid (HRS4.out.keep ht id)
            have HN6 := Lib.hid hn
            have HZ6 : Hid (w0.heap.size ≤ w9.heap.size ∧ w9.heap.size < w6.heap.size) := Lib.hid ⟨HSZ.out, hn.lt⟩
            clear ht hz hn
            go_wp2_with fail
            go_ret
            rw [HR.out]
            exact ⟨w9.heap.size, by first | rfl | (rw [HZZ.out]; rfl), HRS6.out, HT6.out, set_nodeD HN6.out _ _ HZ6.out.1 HZ6.out.2⟩
          | false =>
            have q1n : decide (49 ≤ c) = false := by rw [← hD1]; exact decide_eq_decide.2 (by omega)
            go_wp2_with fail
            clear hw3 hc1 hc1f
            refine (HIBA.out _).mono ?_
            rintro e w9 ⟨rfl, rfl⟩
            go_wp2_with fail
            refine (HIBK.out _).mono ?_
            rintro e w9 ⟨rfl, rfl⟩
            go_wp2_with fail
            refine HSI.out.mono ?_
            rintro e w9 ⟨rfl, rfl⟩
            have hc5 := HRS3.out.c5
            obtain ⟨hc5, hc5f⟩ := hc5
            have HRS4 := Lib.hid HRS3.out.setOk
            have HT4 : Hid (Touch (fun b => b = br) w0 (w9.setCell ⟨br, 5, none⟩ (.bool false))) := Lib.hid (Touch.setCell HT3.out (.inl rfl) _)
            have HON := Lib.hid (rone_any b hb256 (w9.setCell ⟨br, 5, none⟩ (.bool false)))
            have HZZ : Hid ((w9.setCell ⟨br, 5, none⟩ (.bool false)).heap.size = w9.heap.size) := Lib.hid (by simp [World.setCell])
            go_wp2_with fail
            refine HON.out.mono ?_
            rintro e w6 ⟨rfl, ht, hz, hn⟩
            rw [HZZ.out] at hn
            have HT6 := Lib.hid (HT4.out.then (ht.mono (fun _ _ e => e.elim)))
            have HRS6 := Lib.hid (HRS4.out.keep ht id)
            have HN6 := Lib.hid hn
            have HZ6 : Hid (w0.heap.size ≤ w9.heap.size ∧ w9.heap.size < w6.heap.size) := Lib.hid ⟨HSZ.out, hn.lt⟩
            clear ht hz hn
            go_wp2_with fail
            go_ret
            rw [HR.out]
            exact ⟨w9.heap.size, by first | rfl | (rw [HZZ.out]; rfl), HRS6.out, HT6.out, set_nodeD HN6.out _ _ HZ6.out.1 HZ6.out.2⟩
        | none =>
          rw [hpl] at HSI HE3
          have HR : Hid (escP (str s) st = none) := HE3
          clear hpl HE3
          cases D1 with
          | true =>
            have q2 := HDN.out rfl
            have q1n : decide (49 ≤ c) = true := by rw [← hD1]; exact decide_eq_decide.2 (by omega)
            have q2n : decide (c ≤ 57) = false := by rw [← q2]; exact decide_eq_decide.2 (by omega)
            go_wp2_with fail
            clear hw3 hc1 hc1f
            refine (HIBA.out _).mono ?_
            rintro e w9 ⟨rfl, rfl⟩
            go_wp2_with fail
            refine (HIBK.out _).mono ?_
            rintro e w9 ⟨rfl, rfl⟩
            go_wp2_with fail
            refine HSI.out.mono ?_
            rintro e w9 ⟨b, hb256, rfl, rfl⟩
            have hc5 := HRS3.out.c5
            obtain ⟨hc5, hc5f⟩ := hc5
            have HRS4 := Lib.hid HRS3.out.bad
            have HT4 : Hid (Touch (fun b => b = br) w0 (w9.setCell ⟨br, 5, none⟩ (.bool true))) := Lib.hid (Touch.setCell HT3.out (.inl rfl) _)
            have HON := Lib.hid (rone_any b hb256 (w9.setCell ⟨br, 5, none⟩ (.bool true)))
            have HZZ : Hid ((w9.setCell ⟨br, 5, none⟩ (.bool true)).heap.size = w9.heap.size) := Lib.hid (by simp [World.setCell])
            go_wp2_with fail
            refine HON.out.mono ?_
            rintro e w6 ⟨rfl, ht, hz, hn⟩
            rw [HZZ.out] at hn
            have HT6 := Lib.hid (HT4.out.then (ht.mono (fun _ _ e => e.elim)))
            have HRS6 := Lib.hid (HRS4.out.keep ht id)
            clear ht hz hn
            go_wp2_with fail
            go_ret
            rw [HR.out]
            exact ⟨_, rfl, HRS6.out, HT6.out⟩
          | false =>
            have q1n : decide (49 ≤ c) = false := by rw [← hD1]; exact decide_eq_decide.2 (by omega)
            go_wp2_with fail
            clear hw3 hc1 hc1f
            refine (HIBA.out _).mono ?_
            rintro e w9 ⟨rfl, rfl⟩
            go_wp2_with fail
            refine (HIBK.out _).mono ?_
            rintro e w9 ⟨rfl, rfl⟩
            go_wp2_with fail
            refine HSI.out.mono ?_
            rintro e w9 ⟨b, hb256, rfl, rfl⟩
            have hc5 := HRS3.out.c5
            obtain ⟨hc5, hc5f⟩ := hc5
            have HRS4 := Lib.hid HRS3.out.bad
            have HT4 : Hid (Touch (fun b => b = br) w0 (w9.setCell ⟨br, 5, none⟩ (.bool true))) := Lib.hid (Touch.setCell HT3.out (.inl rfl) _)
            have HON := Lib.hid (rone_any b hb256 (w9.setCell ⟨br, 5, none⟩ (.bool true)))
            have HZZ : Hid ((w9.setCell ⟨br, 5, none⟩ (.bool true)).heap.size = w9.heap.size) := Lib.hid (by simp [World.setCell])
            go_wp2_with fail
            refine HON.out.mono ?_
            rintro e w6 ⟨rfl, ht, hz, hn⟩
            rw [HZZ.out] at hn
            have HT6 := Lib.hid (HT4.out.then (ht.mono (fun _ _ e => e.elim)))
            have HRS6 := Lib.hid (HRS4.out.keep ht id)
            clear ht hz hn
            go_wp2_with fail
            go_ret
            rw [HR.out]
            exact ⟨_, rfl, HRS6.out, HT6.out⟩
end Go.Proofs.Ytlgpilcjcomacaa
