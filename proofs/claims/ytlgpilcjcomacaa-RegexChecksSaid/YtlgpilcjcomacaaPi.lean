/-
  The program's reader: atom.
-/
import Derived.Test.YtlgpilcjcomacaaPh
namespace Go.Proofs.Ytlgpilcjcomacaa
open Go.RowKit Rx
set_option linter.unusedVariables false

theorem NodePost.from {br : Nat} {s : ByteArray} {deep : Nat} {st st1 : PS} {w w1 : World} {r : Option (Re × PS)} {e : Ending} {w' : World} (h : NodePost br s deep st1 w1 r e w') (t : Touch (fun b => b = br) w w1) (hp : st.pos ≤ st1.pos) : NodePost br s deep st w r e w' := by
  cases r with
  | none => exact ⟨h.1, t.then h.2⟩
  | some x =>
    obtain ⟨a, st2⟩ := x
    obtain ⟨b, h1, h2, h3, h4, h5⟩ := h
    exact ⟨b, h1, h2, t.then h3, (rd_later (Touch.refl (fun _ => False) w') (fun _ e => e.elim) t.size (Nat.le_refl _) a).1 _ h4, by omega⟩

theorem set_node {w w4 : World} {bs : Nat} {f : Nat → Bool} (hs : SetB w4 bs f) (hbs : w.heap.size ≤ bs) (hz : w.heap.size ≤ w4.heap.size) :
    (rd (FP w.heap.size (w4.alloc (.cells (nd 0 (.pointer (some ⟨bs, 0, none⟩)) 0 none 0 0 (.pointer none) 0 0 0) 78)).heap.size) (w4.alloc (.cells (nd 0 (.pointer (some ⟨bs, 0, none⟩)) 0 none 0 0 (.pointer none) 0 0 0) 78)) 9 (.set f)).node (.pointer (some ⟨w4.heap.size, 0, none⟩)) := by
  have hbl := hs.lt
  rw [show (w4.alloc (.cells (nd 0 (.pointer (some ⟨bs, 0, none⟩)) 0 none 0 0 (.pointer none) 0 0 0) 78)).heap.size = w4.heap.size + 1 by simp]
  refine ⟨w4.heap.size, bs, _, _, _, _, _, _, _, _, rfl, leaf_new hz 0 (.pointer (some ⟨bs, 0, none⟩)) 0, ⟨hbs, by omega⟩, fun i hi => ?_⟩
  exact ((hs.keep ((Touch.refl (fun _ => False) _).alloc _) id).cell hi).1
theorem asr_node {w w4 : World} (k : Nat) (h1 : 1 ≤ k) (h2 : k ≤ 6) (hz : w.heap.size ≤ w4.heap.size) :
    (rd (FP w.heap.size (w4.alloc (.cells (nd (k : Int) (.pointer none) 0 none 0 0 (.pointer none) 0 0 0) 78)).heap.size) (w4.alloc (.cells (nd (k : Int) (.pointer none) 0 none 0 0 (.pointer none) 0 0 0) 78)) 9 (.asr k)).node (.pointer (some ⟨w4.heap.size, 0, none⟩)) := by
  rw [show (w4.alloc (.cells (nd (k : Int) (.pointer none) 0 none 0 0 (.pointer none) 0 0 0) 78)).heap.size = w4.heap.size + 1 by simp]
  exact ⟨w4.heap.size, _, _, _, _, _, _, _, _, _, rfl, leaf_new hz (k : Int) (.pointer none) 0, h1, h2⟩

theorem NodePost.ends {br : Nat} {s : ByteArray} {deep : Nat} {st : PS} {w : World} {r : Option (Re × PS)} {e : Ending} {w' : World} (h : NodePost br s deep st w r e w') : e = bad ∨ ∃ v, e = .returned v := by
  cases r with
  | none => exact .inl h.1
  | some x => obtain ⟨b, h1, -⟩ := h; exact .inr ⟨_, h1⟩

set_option maxRecDepth 100000 in
set_option maxHeartbeats 20000000 in
theorem atom_any (br : Nat) (s : ByteArray) (deep : Nat) (st : PS) (w : World) (W : PS → Option (Re × PS)) (hW : WOK br s (deep + 1) W) (h : RS br s deep st w) (hlt : st.pos < s.size) :
    Calls Try.prog 100 #[.pointer (some ⟨br, 0, none⟩)] w (NodePost br s deep st w (atomP W (str s) st)) := by
  have hsz := h.sz
  obtain ⟨p0, g0, r0⟩ := st
  simp only at hlt
  have HRS0 := Lib.hid h
  clear h
  obtain ⟨p1, hp1⟩ : ∃ p1, p0 + 1 = p1 := ⟨_, rfl⟩
  have hc256 := pk_256 s p0
  obtain ⟨c, hc⟩ : ∃ c, pk (str s) p0 = c := ⟨_, rfl⟩
  rw [hc] at hc256
  have HC := Lib.hid hc
  have HP1 := Lib.hid hp1
  have hp1s : p1 ≤ s.size := by omega
  have HLE : Hid (p0 < p1) := Lib.hid (by omega)
  have hres : atomP W (str s) ⟨p0, g0, r0⟩ = if c = 92 then escP (str s) ⟨p1, g0, r0⟩
    else if c = 46 then some (.set (fun x => !decide (x = 10)), ⟨p1, g0, r0⟩)
    else if c = 94 then some (.asr 1, ⟨p1, g0, r0⟩)
    else if c = 36 then some (.asr 2, ⟨p1, g0, r0⟩)
    else if c = 91 then (match classAll (str s) p1 with
      | none => none
      | some (f, j) => some (.set f, ⟨j, g0, r0⟩))
    else if c = 40 then grpP W (str s) ⟨p1, g0, r0⟩
    else if stops.contains c = true then none
    else some (oneR c, ⟨p1, g0, r0⟩) := by
    unfold atomP; simp only [hc, hp1]; rfl
  clear hc hp1
  have HW := Lib.hid hW
  have HRES0 := Lib.hid hres
  clear hW hres
  go_enter Try.func100, Try.ntmps100
  go_wp2_with fail
  refine (peek_rs br s deep _ _ HRS0.out).mono ?_
  rintro e w1 ⟨he, hrs, ht⟩
  rw [show pk (str s) (PS.pos _) = c from HC.out] at he
  subst he
  have HRS1 := Lib.hid hrs
  have HT1 : Hid (Touch (fun b => b = br) w w1) := Lib.hid (ht.mono (fun _ _ e => e.elim))
  clear hrs ht
  have hc1 := HRS1.out.c1
  obtain ⟨hc1, hc1f⟩ := hc1
  simp only at hc1
  obtain ⟨w2, hw2⟩ : ∃ w2, w1.setCell ⟨br, 1, none⟩ (.int .i64 ((p0 : Int) + 1)) = w2 := ⟨_, rfl⟩
  have hrs : RS br s deep ⟨p1, g0, r0⟩ w2 := by rw [← hw2, ← HP1.out]; exact HRS1.out.setPos (p0 + 1) (by omega)
  have ht : Touch (fun b => b = br) w1 w2 := by rw [← hw2]; exact Touch.setCell (Touch.refl (fun b => b = br) w1) (.inl rfl) _
  have HRS2 := Lib.hid hrs
  have HT2 := Lib.hid (HT1.out.then ht)
  clear hrs ht
  have hres := HRES0.out
  clear HRES0
  by_cases e92 : c = 92
  · have q92 : ((c : Int) == 92) = true := by rw [e92]; rfl
    rw [if_pos e92] at hres
    have HR := Lib.hid hres
    clear hres e92
    go_wp2_with fail
    clear hw2 hc1 hc1f
    refine (escape_any br s deep _ _ HRS2.out).mono ?_
    intro e w3 hG
    rcases NodePost.ends hG with he | ⟨v, he⟩
    · subst he
      refine ⟨rfl, ?_⟩
      rw [HR.out]
      exact NodePost.from hG HT2.out (Nat.le_of_lt HLE.out)
    · subst he
      go_wp2_with fail
      go_ret
      rw [HR.out]
      exact NodePost.from hG HT2.out (Nat.le_of_lt HLE.out)
  · have q92 : ((c : Int) == 92) = false := by simp; omega
    rw [if_neg e92] at hres
    by_cases e46 : c = 46
    · have q46 : ((c : Int) == 46) = true := by rw [e46]; rfl
      rw [if_pos e46] at hres
      have HR := Lib.hid hres
      clear hres e46
      go_wp2_with fail
      clear hc1 hc1f
      go_loopw [24] (fun q wq => ∃ (j : Nat) (g' : Nat → Bool), q = .int .i64 j ∧ j ≤ 256 ∧ Hid (SetB wq w2.heap.size g') ∧ Hid (∀ x, x < j → g' x = !decide (x = 10)) ∧ Hid (RS br s deep ⟨p1, g0, r0⟩ wq) ∧ Hid (Touch (fun b => b = br) w wq)) (fun q _ => 256 - (intOf q).toNat)
      case atStart => exact ⟨0, _, rfl, by omega, Lib.hid (SetB.made w2 _ _ zero_set), Lib.hid (fun x hx => by omega), Lib.hid (HRS2.out.keep ((Touch.refl (fun _ => False) _).alloc _) id), Lib.hid (HT2.out.alloc _)⟩
      case round =>
        obtain ⟨j, g', rfl, hj, HSq, HGq, HRSq, HTq⟩ := hrel
        by_cases hlt2 : j < 256
        · have hx := HSq.out.cell hlt2
          obtain ⟨hx1, hx2⟩ := hx
          obtain ⟨v, hv⟩ : ∃ v, (!decide (j = 10)) = v := ⟨_, rfl⟩
          have q10 : ((j : Int) != 10) = v := by
            rw [← hv]; by_cases h10 : j = 10
            · rw [h10]; rfl
            · rw [decide_eq_false h10]; rw [show (!false) = true from rfl, bne_iff_ne]; omega
          have HV := Lib.hid hv
          clear hv
          have HS6 := Lib.hid (HSq.out.put hlt2 v)
          have t6 : Touch (fun b => b = w2.heap.size) wr (wr.setCell ⟨w2.heap.size, j, none⟩ (.bool v)) := Touch.setCell (Touch.refl (fun b => b = w2.heap.size) wr) (.inl rfl) _
          have HRS6 := Lib.hid (HRSq.out.keep t6 (fun e => by have := HRS2.out.lt; omega))
          have HT6 := Lib.hid (HTq.out.trans t6 (fun i e => .inr (by have := HT2.out.size; omega)))
          clear t6
          go_wp2_with fail
          refine ⟨⟨j + 1, _, by go_num, by omega, HS6, Lib.hid ?_, HRS6, HT6⟩, by simp [intOf]; omega⟩
          intro x hx
          by_cases e : x = j
          · subst e; rw [if_pos rfl]; exact HV.out.symm
          · rw [if_neg e]; exact HGq.out x (by omega)
        · obtain rfl : j = 256 := by omega
          go_wp2_with fail
          go_ret
          rw [HR.out]
          exact ⟨wr.heap.size, rfl, HRSq.out.keep ((Touch.refl (fun _ => False) _).alloc _) id, HTq.out.alloc _, set_node (HSq.out.congr (fun x hx => HGq.out x hx)) HT2.out.size HTq.out.size, HLE.out⟩
    · have q46 : ((c : Int) == 46) = false := by simp; omega
      rw [if_neg e46] at hres
      by_cases e94 : c = 94
      · have q94 : ((c : Int) == 94) = true := by rw [e94]; rfl
        rw [if_pos e94] at hres
        have HR := Lib.hid hres
        clear hres e94
        go_wp2_with fail
        clear hc1 hc1f
        go_ret
        rw [HR.out]
        exact ⟨w2.heap.size, rfl, HRS2.out.keep ((Touch.refl (fun _ => False) _).alloc _) id, HT2.out.alloc _, asr_node 1 (by decide) (by decide) HT2.out.size, HLE.out⟩
      · have q94 : ((c : Int) == 94) = false := by simp; omega
        rw [if_neg e94] at hres
        by_cases e36 : c = 36
        · have q36 : ((c : Int) == 36) = true := by rw [e36]; rfl
          rw [if_pos e36] at hres
          have HR := Lib.hid hres
          clear hres e36
          go_wp2_with fail
          clear hc1 hc1f
          go_ret
          rw [HR.out]
          exact ⟨w2.heap.size, rfl, HRS2.out.keep ((Touch.refl (fun _ => False) _).alloc _) id, HT2.out.alloc _, asr_node 2 (by decide) (by decide) HT2.out.size, HLE.out⟩
        · have q36 : ((c : Int) == 36) = false := by simp; omega
          rw [if_neg e36] at hres
          by_cases e91 : c = 91
          · have q91 : ((c : Int) == 91) = true := by rw [e91]; rfl
            rw [if_pos e91] at hres
            have HR := Lib.hid hres
            clear hres e91
            go_wp2_with fail
            clear hw2 hc1 hc1f
            refine (class_any br s deep _ _ HRS2.out).mono ?_
            intro e w3 hG
            have hr := HR.out
            cases hcl : classAll (str s) p1 with
            | none =>
              rw [show classAll (str s) (PS.pos _) = none from hcl] at hG
              rw [hcl] at hr
              obtain ⟨rfl, ht⟩ := hG
              refine ⟨rfl, ?_⟩
              rw [hr]
              exact ⟨rfl, HT2.out.then ht⟩
            | some t =>
              obtain ⟨f, j⟩ := t
              rw [show classAll (str s) (PS.pos _) = some (f, j) from hcl] at hG
              rw [hcl] at hr
              obtain ⟨b, rfl, hset, hbs, hrs, ht, hpj⟩ := hG
              have HR3 : Hid (atomP W (str s) ⟨p0, g0, r0⟩ = some (.set f, ⟨j, g0, r0⟩)) := Lib.hid hr
              have HS3 := Lib.hid hset
              have HBS := Lib.hid (Nat.le_trans HT2.out.size hbs)
              have HRS3 := Lib.hid hrs
              have HT3 := Lib.hid (HT2.out.then ht)
              have HPJ : Hid (p1 < j) := Lib.hid hpj
              clear hr hcl hset hbs hrs ht hpj
              go_wp2_with fail
              go_ret
              rw [HR3.out]
              exact ⟨w3.heap.size, rfl, HRS3.out.keep ((Touch.refl (fun _ => False) _).alloc _) id, HT3.out.alloc _, set_node HS3.out HBS.out HT3.out.size, by have h1 := HPJ.out; have h2 := HLE.out; show p0 < j; omega⟩
          · have q91 : ((c : Int) == 91) = false := by simp; omega
            rw [if_neg e91] at hres
            by_cases e40 : c = 40
            · have q40 : ((c : Int) == 40) = true := by rw [e40]; rfl
              rw [if_pos e40] at hres
              have HR := Lib.hid hres
              clear hres e40
              go_wp2_with fail
              clear hw2 hc1 hc1f
              refine (group_any br s deep _ _ W HW.out HRS2.out).mono ?_
              intro e w3 hG
              rcases NodePost.ends hG with he | ⟨v, he⟩
              · subst he
                refine ⟨rfl, ?_⟩
                rw [HR.out]
                exact NodePost.from hG HT2.out (Nat.le_of_lt HLE.out)
              · subst he
                go_wp2_with fail
                go_ret
                rw [HR.out]
                exact NodePost.from hG HT2.out (Nat.le_of_lt HLE.out)
            · have q40 : ((c : Int) == 40) = false := by simp; omega
              rw [if_neg e40] at hres
              by_cases e42 : c = 42
              · have q42 : ((c : Int) == 42) = true := by rw [e42]; rfl
                rw [if_pos (by rw [e42]; decide)] at hres
                have HR := Lib.hid hres
                clear hres e42
                go_wp2_with fail
                clear hw2 hc1 hc1f
                refine (fail_any _ _).mono ?_
                rintro e w3 ⟨rfl, rfl⟩
                refine ⟨rfl, ?_⟩
                rw [HR.out]
                exact ⟨rfl, HT2.out⟩
              · have q42 : ((c : Int) == 42) = false := by simp; omega
                by_cases e43 : c = 43
                · have q43 : ((c : Int) == 43) = true := by rw [e43]; rfl
                  rw [if_pos (by rw [e43]; decide)] at hres
                  have HR := Lib.hid hres
                  clear hres e43
                  go_wp2_with fail
                  clear hw2 hc1 hc1f
                  refine (fail_any _ _).mono ?_
                  rintro e w3 ⟨rfl, rfl⟩
                  refine ⟨rfl, ?_⟩
                  rw [HR.out]
                  exact ⟨rfl, HT2.out⟩
                · have q43 : ((c : Int) == 43) = false := by simp; omega
                  by_cases e63 : c = 63
                  · have q63 : ((c : Int) == 63) = true := by rw [e63]; rfl
                    rw [if_pos (by rw [e63]; decide)] at hres
                    have HR := Lib.hid hres
                    clear hres e63
                    go_wp2_with fail
                    clear hw2 hc1 hc1f
                    refine (fail_any _ _).mono ?_
                    rintro e w3 ⟨rfl, rfl⟩
                    refine ⟨rfl, ?_⟩
                    rw [HR.out]
                    exact ⟨rfl, HT2.out⟩
                  · have q63 : ((c : Int) == 63) = false := by simp; omega
                    by_cases e123 : c = 123
                    · have q123 : ((c : Int) == 123) = true := by rw [e123]; rfl
                      rw [if_pos (by rw [e123]; decide)] at hres
                      have HR := Lib.hid hres
                      clear hres e123
                      go_wp2_with fail
                      clear hw2 hc1 hc1f
                      refine (fail_any _ _).mono ?_
                      rintro e w3 ⟨rfl, rfl⟩
                      refine ⟨rfl, ?_⟩
                      rw [HR.out]
                      exact ⟨rfl, HT2.out⟩
                    · have q123 : ((c : Int) == 123) = false := by simp; omega
                      by_cases e125 : c = 125
                      · have q125 : ((c : Int) == 125) = true := by rw [e125]; rfl
                        rw [if_pos (by rw [e125]; decide)] at hres
                        have HR := Lib.hid hres
                        clear hres e125
                        go_wp2_with fail
                        clear hw2 hc1 hc1f
                        refine (fail_any _ _).mono ?_
                        rintro e w3 ⟨rfl, rfl⟩
                        refine ⟨rfl, ?_⟩
                        rw [HR.out]
                        exact ⟨rfl, HT2.out⟩
                      · have q125 : ((c : Int) == 125) = false := by simp; omega
                        by_cases e93 : c = 93
                        · have q93 : ((c : Int) == 93) = true := by rw [e93]; rfl
                          rw [if_pos (by rw [e93]; decide)] at hres
                          have HR := Lib.hid hres
                          clear hres e93
                          go_wp2_with fail
                          clear hw2 hc1 hc1f
                          refine (fail_any _ _).mono ?_
                          rintro e w3 ⟨rfl, rfl⟩
                          refine ⟨rfl, ?_⟩
                          rw [HR.out]
                          exact ⟨rfl, HT2.out⟩
                        · have q93 : ((c : Int) == 93) = false := by simp; omega
                          rw [if_neg (by simp only [stops]; simp; omega)] at hres
                          have HR := Lib.hid hres
                          clear hres
                          go_wp2_with fail
                          clear hw2 hc1 hc1f
                          refine (one_any c hc256 _).mono ?_
                          rintro e w3 ⟨rfl, ht, hz, hn⟩
                          have HN := Lib.hid hn
                          have HRS3 := Lib.hid (HRS2.out.keep ht id)
                          have HT3 := Lib.hid (HT2.out.then (ht.mono (fun _ _ e => e.elim)))
                          clear ht hz hn
                          go_wp2_with fail
                          go_ret
                          rw [HR.out]
                          exact ⟨w2.heap.size + 1, rfl, HRS3.out, HT3.out, (rd_later (Touch.refl (fun _ => False) _) (fun _ e => e.elim) HT2.out.size (Nat.le_refl _) (oneR c)).1 _ HN.out, HLE.out⟩
end Go.Proofs.Ytlgpilcjcomacaa
