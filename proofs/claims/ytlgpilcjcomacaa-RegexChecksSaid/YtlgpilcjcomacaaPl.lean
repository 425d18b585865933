/-
  The program's reader: alternatives.
-/
import Derived.Test.YtlgpilcjcomacaaPk
import Derived.Deep.Cut
import Derived.Deep.CutRange
import Derived.Deep.RegionLaw
namespace Go.Proofs.Ytlgpilcjcomacaa
open Go.RowKit Rx
set_option linter.unusedVariables false

theorem infoTR : (Try.prog.info? TR).map (fun i => (i.zero, i.size, i.bytes)) = some (some (.slice none 0 0), 1, 24) := by kernel_rfl
theorem infoTN : (Try.prog.info? TN).map (fun i => (i.zero, i.size, i.bytes)) = some (some (.pointer none), 1, 8) := by kernel_rfl

theorem news1 {w : World} {ad : Addr} {u : Value} (h : w.cell? ad = some u) : ∀ j v, ([u] : List Value)[j]? = some v → w.cell? (ad.add j) = some v := by
  intro j v hv
  cases j with
  | zero => simp at hv; subst hv; simpa [Addr.add] using h
  | succ j => simp at hv

theorem alloc_cell0 (w : World) (v : Value) (T : TypeId) : (w.alloc (.cells #[v] T)).cell? ⟨w.heap.size, 0, none⟩ = some v := by simp [go_sem]

/-- A row more. -/
theorem wpList_appW {ops : Array Oper} {rest : List Oper} {o : Oper} {a : Act} {w : World} {Q : Exit → Act → World → Prop} (hgd : o.guard = none) (s x : Operand)
    (ho : o.op = .call { callee := .builtin .append, args := #[s, x], argTypes := #[TW, TW] }) (lo : Nat) (v : Value) (n : Nat) (xs : List Value) (hs : a.eval s = v) (hown : w.ownsRow lo TR 1 v n xs)
    (ad : Addr) (c : Nat) (u : Value) (hx : a.eval x = .slice (some ad) 1 c) (hc : w.cell? ad = some u) (h1 : u.oneCell' = true) (hn : n ≤ 100000) (hlo : lo ≤ w.heap.size)
    (h : ∀ g cap w', w'.ownsRow lo TR 1 (.slice (some ⟨g, 0, none⟩) (n + 1) cap) (n + 1) (xs ++ [u]) → w.grownBy w' v.ownBlock → (v.ownBlock = some g ∨ g = w.heap.size) → g < w'.heap.size → wpList Try.prog ops Q rest (a.put o.dst (.slice (some ⟨g, 0, none⟩) (n + 1) cap)) w') : wpList Try.prog ops Q (o :: rest) a w := by
  obtain ⟨i0, hi, hz0, hz1, hz2⟩ := info_parts infoTR
  exact wpList_append_lies w hgd s x TW ho lo TR i0 (.slice none 0 0) 1 24 Try.underlying76 hi hz0 hz1 hz2 rfl (by decide) v n xs hs hown ad 1 c [u] hx rfl (news1 hc) (by intro v hv; rw [List.mem_singleton.1 hv]; exact h1) (by decide) (by unfold maxLen; omega) (by omega) hlo _ rfl h

/-- A node more, in a region that draws. -/
theorem step_appN {ops : Array Oper} {o : Oper} {a : Act} {w : World} {K : Act → World → Prop} {Q : Exit → Act → World → Prop} {E : Prop} (hgd : o.guard = none) (s x : Operand)
    (ho : o.op = .call { callee := .builtin .append, args := #[s, x], argTypes := #[TR, TR] }) (lo : Nat) (v : Value) (n : Nat) (xs : List Value) (hs : a.eval s = v) (hown : w.ownsRow lo TN 1 v n xs)
    (ad : Addr) (c : Nat) (u : Value) (hx : a.eval x = .slice (some ad) 1 c) (hc : w.cell? ad = some u) (h1 : u.oneCell' = true) (hn : n ≤ 100000) (hlo : lo ≤ w.heap.size)
    (h : ∀ g cap w', w'.ownsRow lo TN 1 (.slice (some ⟨g, 0, none⟩) (n + 1) cap) (n + 1) (xs ++ [u]) → w.grownBy w' v.ownBlock → (v.ownBlock = some g ∨ g = w.heap.size) → g < w'.heap.size → K (a.put o.dst (.slice (some ⟨g, 0, none⟩) (n + 1) cap)) w') : if Region.wanted o (yielded ops a.tmps) = true then Oper.wp Try.prog o a w K Q else E := by
  obtain ⟨i0, hi, hz0, hz1, hz2⟩ := info_parts infoTN
  have hw : Region.wanted o (yielded ops a.tmps) = true := by simp [Region.wanted, hgd]
  rw [if_pos hw]
  exact wp_append_lies w s x TR ho lo TN i0 (.pointer none) 1 8 Try.underlying79 hi hz0 hz1 hz2 rfl (by decide) v n xs hs hown ad 1 c [u] hx rfl (news1 hc) (by intro v hv; rw [List.mem_singleton.1 hv]; exact h1) (by decide) (by unfold maxLen; omega) (by omega) hlo _ rfl h

/-- The cell of the row under way. -/
theorem WS.holds {lo : Nat} {rows : List (List Re)} {cur : List Re} {x y : Value} {ovs cvs : List Value} {w : World} (h : WS lo rows cur x y ovs cvs w) {gx : Nat} (hgx : x.ownBlock = some gx) : Holds w gx rows.length y := by
  have h1 := owns_cells h.ox hgx rows.length y (by rw [List.getElem?_append_right (by rw [h.rs.len]; exact Nat.le_refl _), h.rs.len, Nat.sub_self]; rfl)
  rw [Nat.zero_add] at h1
  refine ⟨h1, ?_⟩
  rcases h.ox.2 with ⟨e, h0⟩ | ⟨g, cap, c, rfl, hb, hgg, -⟩
  · omega
  · cases hgx; unfold World.frozen?; simp [hgg]
theorem holds_grown {w w' : World} {b o : Nat} {v : Value} {row : Option Nat} (h : Holds w b o v) (hg : w.grownBy w' row) (hne : some b ≠ row) : Holds w' b o v :=
  ⟨hg.cell h.1 hne, (hg.frozen_far ⟨b, o, none⟩ h.lt hne).trans h.2⟩

/-- A node is laid behind the row under way: all of it. -/
theorem ways_add {br lo k gx : Nat} {rows : List (List Re)} {cur : List Re} {x y : Value} {ovs cvs : List Value} {w3 w5 w6 : World} {a : Re} {b g3 cap3 H : Nat} (hbr : br < lo) (h3 : WS lo rows cur x y ovs cvs w3) (hx : x.ownBlock = some gx) (hk : rows.length = k) (ht : Touch (fun b => b = br) w3 w5)
    (hrd : (rd (FP w3.heap.size w5.heap.size) w5 9 a).node (.pointer (some ⟨b, 0, none⟩))) (hown : w6.ownsRow lo TN 1 (.slice (some ⟨g3, 0, none⟩) (cur.length + 1) cap3) (cur.length + 1) (cvs ++ [.pointer (some ⟨b, 0, none⟩)]))
    (hgrow : (w5.alloc (.cells #[.pointer (some ⟨b, 0, none⟩)] TN)).grownBy w6 y.ownBlock) (hat : y.ownBlock = some g3 ∨ g3 = H) (hH : (w5.alloc (.cells #[.pointer (some ⟨b, 0, none⟩)] TN)).heap.size ≤ H) :
    WS lo rows (cur ++ [a]) x (.slice (some ⟨g3, 0, none⟩) (cur.length + 1) cap3) ovs (cvs ++ [.pointer (some ⟨b, 0, none⟩)]) (w6.setCell ⟨gx, k, none⟩ (.slice (some ⟨g3, 0, none⟩) (cur.length + 1) cap3)) ∧ Touch (fun b => lo ≤ b) w5 (w6.setCell ⟨gx, k, none⟩ (.slice (some ⟨g3, 0, none⟩) (cur.length + 1) cap3)) := by
  have h5 := h3.keep ht (fun b e => by subst e; exact hbr)
  have ta : Touch (fun _ => False) w5 (w5.alloc (.cells #[.pointer (some ⟨b, 0, none⟩)] TN)) := (Touch.refl _ _).alloc _
  have hA := h5.keep ta (fun _ e => e.elim)
  have hxl := h3.ox.lt gx hx
  have hz := ht.size
  have hz2 := ta.size
  refine ⟨?_, ?_⟩
  · rw [← hk]
    refine hA.add ?_ hown hgrow rfl hat hH hx
    refine (rd_mono (fun c hc => ⟨?_, Nat.lt_of_lt_of_le hc.2 hz2, fun e => ?_, fun e => ?_⟩) (fun c o v hc hv => ta.has hv id) a).1 _ hrd
    · have h1 := hc.1; omega
    · rw [hx] at e; have h1 := hc.1; have h2 := Option.some.inj e; omega
    · have h1 := hc.1; have h2 := h3.oy.lt c e; omega
  · refine Touch.setCell ?_ (.inl hxl.1) _
    exact ((Touch.refl (fun b => lo ≤ b) w5).alloc _).grown hgrow (fun c hc => .inl (h3.oy.lt c hc).1)

set_option maxRecDepth 100000 in
set_option maxHeartbeats 20000000 in
theorem rways_any (br : Nat) (s : ByteArray) (deep : Nat) (P : PS → Option (Re × PS)) (hP : ∀ st w, RS br s deep st w → st.pos < s.size → Calls Try.prog 89 #[.pointer (some ⟨br, 0, none⟩)] w (NodePost br s deep st w (P st))) (st : PS) (w : World) (h : RS br s deep st w) :
    Calls Try.prog 64 #[.pointer (some ⟨br, 0, none⟩)] w (WaysPost br s deep st w (waysEnd (loopP P (str s) ((str s).length + 1 - st.pos) st [] []))) := by
  have hsz := h.sz
  have HP := Lib.hid hP
  clear hP
  have HBL : Hid (br < w.heap.size) := Lib.hid h.lt
  have hle := h.le
  obtain ⟨rr, hrr⟩ : ∃ rr, loopP P (str s) ((str s).length + 1 - st.pos) st [] [] = rr := ⟨_, rfl⟩
  rw [hrr]
  have HRS0 := Lib.hid (h.keep ((Touch.refl (fun _ => False) w).alloc (.cells #[.slice none 0 0] TR)) id)
  have HT0 : Hid (Touch (fun b => b = br) w (w.alloc (.cells #[.slice none 0 0] TR))) := Lib.hid ((Touch.refl _ _).alloc _)
  have HWS0 := Lib.hid (WS.first w)
  have HRR := Lib.hid hrr
  clear h hrr
  go_enter Try.func64, Try.ntmps64
  go_wp2_with fail
  go_loopw [3] (fun x wr => ∃ (p g r k gx cap : Nat) (rows : List (List Re)) (cur : List Re) (y : Value) (ovs cvs : List Value) (f : Nat), x = .slice (some ⟨gx, 0, none⟩) (k + 1) cap ∧ k ≤ 300 ∧ p ≤ s.size ∧ Hid (RS br s deep ⟨p, g, r⟩ wr) ∧ Hid (WS w.heap.size rows cur (.slice (some ⟨gx, 0, none⟩) (k + 1) cap) y ovs cvs wr) ∧ Hid (rows.length = k) ∧ Hid (k + cur.length ≤ p) ∧ Hid (loopP P (str s) f ⟨p, g, r⟩ rows cur = rr) ∧ Hid (s.size + 1 - p ≤ f) ∧ Hid (Touch (fun b => b = br) w wr) ∧ Hid (st.pos ≤ p)) (fun _ wr => s.size - cellI wr br 1)
  case atStart => exact ⟨st.pos, st.grps, st.refs, 0, w.heap.size, 1, [], [], .slice none 0 0, [], [], _, rfl, by omega, hle, HRS0, HWS0, Lib.hid rfl, Lib.hid (Nat.zero_le _), HRR, Lib.hid (by rw [str_len]; omega), HT0, Lib.hid (Nat.le_refl _)⟩
  case round =>
    obtain ⟨p, g, r, k, gx, cap, rows, cur, y, ovs, cvs, f, rfl, hk3, hps, HRS, HWS, HKL, HKC, HCL, HF, HT, HSP⟩ := hrel
    obtain ⟨wr0, hwr0⟩ : ∃ wr0 : World, wr0 = wr := ⟨_, rfl⟩
    have HM0 : Hid (wr0.cell? ⟨br, 1, none⟩ = some (.int .i64 (p : Int))) := Lib.hid (by rw [hwr0]; exact HRS.out.c1.1)
    obtain ⟨f, rfl⟩ : ∃ f', f = f' + 1 := ⟨f - 1, by have := HF.out; omega⟩
    obtain ⟨cq, hcq0⟩ : ∃ cq, pk (str s) p = cq := ⟨_, rfl⟩
    have hcq := pk_256 s p
    rw [hcq0] at hcq
    have HPKQ : Hid (∀ w', RS br s deep ⟨p, g, r⟩ w' → Calls Try.prog 87 #[.pointer (some ⟨br, 0, none⟩)] w' fun e w'' => e = .returned (.int .u8 (cq : Int)) ∧ ∃ q, w'' = w'.drewN q) := Lib.hid (fun w' h => by rw [← hcq0]; exact peek_any br s deep _ w' h)
    have hstep : loopP P (str s) (f + 1) ⟨p, g, r⟩ rows cur = if p < (str s).length ∧ cq ≠ 41 then
        if tk (str s) p [124] = true then loopP P (str s) f ⟨p + 1, g, r⟩ (rows ++ [cur]) []
        else match P ⟨p, g, r⟩ with
          | none => none
          | some (a, st') => loopP P (str s) f st' rows (cur ++ [a])
      else some (rows ++ [cur], ⟨p, g, r⟩) := by rw [← hcq0]; rfl
    rw [HCL.out, str_len] at hstep
    have HSTEP := Lib.hid hstep
    clear hstep HCL hcq0
    have hc0 := HRS.out.c0
    have hc1 := HRS.out.c1.1
    simp only at hc1
    obtain ⟨B, hB⟩ : ∃ B, decide (p < s.size ∧ cq ≠ 41) = B := ⟨_, rfl⟩
    have HB := Lib.hid hB
    clear hB
    go_upto_region 2 with fail
    go_cut [20] from 6 to 39 (fun t wx => t = .bool B ∧ Hid (RS br s deep ⟨p, g, r⟩ wx) ∧ Hid (WS w.heap.size rows cur (.slice (some ⟨gx, 0, none⟩) (k + 1) cap) y ovs cvs wx) ∧ Hid (Touch (fun b => b = br) w wx))
    case first =>
      by_cases r1 : p < s.size
      · have q1 : decide ((p : Int) < (s.size : Int)) = true := by simp; omega
        have q1n : decide (p < s.size) = true := by simp; omega
        by_cases r2 : cq = 41
        · have q2 : ((cq : Int) != 41) = false := by rw [r2]; rfl
          have HB : Hid (B = false) := Lib.hid (by rw [← HB.out]; simp [r2])
          clear r2
          go_quiet ((go_at_call 87; exact Calls.quiet_of (HPKQ.out _ (by first | exact HRS.out | exact HRS.out.drewN _))))
          go_wp2_with fail
          go_meet
          exact ⟨congrArg Value.bool HB.out.symm, Lib.hid (HRS.out.drewN nq), Lib.hid (HWS.out.keep (still_drewN (S := fun _ => False) _ nq) (fun _ e => e.elim)), Lib.hid (HT.out.drewN nq)⟩
        · have q2 : ((cq : Int) != 41) = true := by rw [bne_iff_ne]; omega
          have HB : Hid (B = true) := Lib.hid (by rw [← HB.out]; simp [r1, r2])
          clear r2
          go_quiet ((go_at_call 87; exact Calls.quiet_of (HPKQ.out _ (by first | exact HRS.out | exact HRS.out.drewN _))))
          go_wp2_with fail
          go_meet
          exact ⟨congrArg Value.bool HB.out.symm, Lib.hid (HRS.out.drewN nq), Lib.hid (HWS.out.keep (still_drewN (S := fun _ => False) _ nq) (fun _ e => e.elim)), Lib.hid (HT.out.drewN nq)⟩
      · have q1 : decide ((p : Int) < (s.size : Int)) = false := by simp; omega
        have q1n : decide (p < s.size) = false := by simp; omega
        have HB : Hid (B = false) := Lib.hid (by rw [← HB.out]; simp [r1])
        go_quiet ((go_at_call 87; exact Calls.quiet_of (HPKQ.out _ (by first | exact HRS.out | exact HRS.out.drewN _))))
        go_wp2_with fail
        go_meet
        exact ⟨congrArg Value.bool HB.out.symm, Lib.hid (HRS.out.drewN nq), Lib.hid (HWS.out.keep (still_drewN (S := fun _ => False) _ nq) (fun _ e => e.elim)), Lib.hid (HT.out.drewN nq)⟩
    case rest =>
      obtain ⟨rfl, HRS2, HWS2, HT2⟩ := hcut
      clear hc0 hc1 HPKQ
      have hstep := HSTEP.out
      clear HSTEP
      cases B with
      | false =>
        rw [if_neg (of_decide_eq_false HB.out)] at hstep
        have HR := Lib.hid hstep
        clear hstep
        go_wp2_with fail
        go_ret
        rw [HR.out]
        have hkl := HKL.out
        have hkc := HKC.out
        obtain ⟨xa, l, cap', h1, h2, h3⟩ := HWS2.out.done (by omega) (by omega)
        exact ⟨xa, l, cap', congrArg Ending.returned h1, h2, HRS2.out, HT2.out, h3, HSP.out⟩
      | true =>
        have hlt : p < s.size := (of_decide_eq_true HB.out).1
        rw [if_pos (of_decide_eq_true HB.out)] at hstep
        cases htk : tk (str s) p [124] with
        | true =>
          rw [if_pos htk] at hstep
          have HTK := Lib.hid htk
          have HCL := Lib.hid hstep.symm
          clear htk hstep
          go_wp2_with fail
          refine (take_yes br s ⟨#[124]⟩ deep _ _ HRS2.out HTK.out (by decide)).mono ?_
          rintro e w3 ⟨rfl, hrs, ht⟩
          have HRS3 := Lib.hid hrs
          have HT3 := Lib.hid (HT2.out.then ht)
          have HWS3 := Lib.hid (HWS2.out.keep ht (fun b e => by have := HBL.out; omega))
          clear hrs ht
          obtain ⟨L, hL⟩ : ∃ L, w.heap.size = L := ⟨_, rfl⟩
          have HL := Lib.hid hL
          clear hL
          have HOX := Lib.hid (HWS3.out.ox.alloc (.cells #[.slice none 0 0] TR))
          rw [HKL.out] at HOX
          have HLW : Hid (w.heap.size ≤ (w3.alloc (.cells #[.slice none 0 0] TR)).heap.size) := Lib.hid (by have := HT3.out.size; simp; omega)
          go_wp2_with (with_reducible refine wpList_appW rfl (.tmp 23) (.tmp 24) rfl w.heap.size (.slice (some ⟨gx, 0, none⟩) (k + 1) cap) (k + 1) (ovs ++ [y]) (by simp [Act.eval]) HOX.out ⟨w3.heap.size, 0, none⟩ 1 (.slice none 0 0) (by simp [Act.eval]) (by simp [go_sem]) rfl (by omega) HLW.out ?_)
          intro g2 cap2 w4 hown hgrow hat hlt2
          have HGX : Hid (w.heap.size ≤ gx) := Lib.hid (HWS3.out.ox.lt gx rfl).1
          have HWSA := Lib.hid (HWS3.out.keep ((Touch.refl (fun _ => False) w3).alloc (.cells #[.slice none 0 0] TR)) (fun _ e => e.elim))
          have HT4 : Hid (Touch (fun b => b = br) w w4) := Lib.hid ((HT3.out.alloc _).grown hgrow (fun k hk => .inr (by cases hk; exact HGX.out)))
          have HT34 : Hid (Touch (fun b => b = gx) w3 w4) := Lib.hid (((Touch.refl _ _).alloc _).grown hgrow (fun k hk => .inl (Option.some.inj hk).symm))
          have HRS4 : Hid (RS br s deep ⟨p + 1, g, r⟩ w4) := Lib.hid (HRS3.out.keep HT34.out (fun e => by have h1 := HBL.out; have h2 := HGX.out; omega))
          have HWS4 : Hid (WS w.heap.size (rows ++ [cur]) [] (.slice (some ⟨g2, 0, none⟩) (k + 1 + 1) cap2) (.slice none 0 0) (ovs ++ [y]) [] w4) := Lib.hid (HWSA.out.bar (by rw [HKL.out, List.append_assoc]; exact hown) hgrow rfl hat (by simp) (by have := HKC.out; omega))
          have HKL4 : Hid ((rows ++ [cur]).length = k + 1) := Lib.hid (by rw [List.length_append, HKL.out]; rfl)
          have HKC4 : Hid (k + 1 + ([] : List Re).length ≤ p + 1) := Lib.hid (by have := HKC.out; simp; omega)
          have hk4 : k + 1 ≤ 300 := by have := HKC.out; omega
          clear hown hgrow hat hlt2 HOX HLW
          go_wp2_with fail
          have hmm : s.size - cellI w4 br 1 < s.size - cellI wr0 br 1 := by
            rw [cellI_at HRS4.out.c1.1, cellI_at HM0.out]
            show s.size - (p + 1) < s.size - p
            omega
          exact ⟨⟨p + 1, g, r, k + 1, g2, cap2, rows ++ [cur], [], .slice none 0 0, ovs ++ [y], [], f, rfl, hk4, by omega, HRS4, HWS4, HKL4, HKC4, HCL, Lib.hid (by have := HF.out; omega), HT4, Lib.hid (by have := HSP.out; omega)⟩, by rw [← hwr0]; exact hmm⟩
        | false =>
          rw [if_neg (by rw [htk]; decide)] at hstep
          have HTK := Lib.hid htk
          have HSTEP := Lib.hid hstep
          clear htk hstep
          go_wp2_with fail
          refine (tk_no (t := ⟨#[124]⟩) HRS2.out HTK.out).mono ?_
          rintro e w3 ⟨rfl, hrs, ht⟩
          have HRS3 := Lib.hid hrs
          have HT3 := Lib.hid (HT2.out.then ht)
          have HWS3 := Lib.hid (HWS2.out.keep ht (fun b e => by have := HBL.out; omega))
          clear hrs ht
          have hstep := HSTEP.out
          clear HSTEP
          have hx3 := HWS3.out.holds (gx := gx) rfl
          rw [HKL.out] at hx3
          obtain ⟨hx3, hx3f⟩ := hx3
          have HGX : Hid (w.heap.size ≤ gx ∧ gx < w3.heap.size) := Lib.hid (HWS3.out.ox.lt gx rfl)
          have HPC : Hid (∀ w', Touch (fun _ => False) w3 w' → Calls Try.prog 89 #[.pointer (some ⟨br, 0, none⟩)] w' (NodePost br s deep ⟨p, g, r⟩ w' (P ⟨p, g, r⟩))) := Lib.hid (fun w' t => HP.out _ _ (HRS3.out.keep t id) hlt)
          have HSTEP := Lib.hid hstep
          clear hstep
          have hkk : (k : Int) < (k : Int) + 1 := by omega
          go_wp2_with fail
          go_region_law (first
            | (refine step_appN rfl (.tmp 34) (.tmp 37) rfl w.heap.size y cur.length cvs rfl HOY5.out ⟨w5.heap.size, 0, none⟩ 1 (.pointer (some ⟨b, 0, none⟩)) rfl (alloc_cell0 _ _ _) rfl HC5.out HL5.out ?_
               intro g3 cap3 w6 hown hgrow hat hlt2
               have hx6 := holds_grown HX5A.out hgrow HNE.out
               obtain ⟨hx6, hx6f⟩ := hx6)
            | (go_simp
               go_at_call 89
               refine (HPC.out _ ((Touch.refl _ _).drew)).mono ?_
               intro e w5 hG
               have hres := HSTEP.out
               rcases hpc : P ⟨p, g, r⟩ with _ | ⟨a, p2, g2, r2⟩
               · rw [hpc] at hG hres
                 obtain ⟨rfl, ht⟩ := hG
                 refine ⟨rfl, ?_⟩
                 rw [hres]
                 exact ⟨rfl, (HT3.out.drew).then ht⟩
               rw [hpc] at hG hres
               obtain ⟨b, rfl, hrs, ht, hrd, hpp⟩ := hG
               have ht3 : Touch (fun b => b = br) w3 w5 := ((Touch.refl _ _).drew).then ht
               have hx5 : Holds w5 gx k y := Holds.keep ⟨hx3, hx3f⟩ ht3 (fun e => by have h1 := HBL.out; have h2 := HGX.out.1; omega)
               have HCL := Lib.hid hres.symm
               have HRS5 := Lib.hid hrs
               have HT5 := Lib.hid (HT3.out.then ht3)
               have HRD5 := Lib.hid hrd
               have HPP : Hid (p < p2) := Lib.hid hpp
               have HWS5 := Lib.hid (HWS3.out.keep ht3 (fun b e => by have := HBL.out; omega))
               have HOY5 := Lib.hid (HWS5.out.oy.alloc (.cells #[.pointer (some ⟨b, 0, none⟩)] TN))
               have HC5 : Hid (cur.length ≤ 100000) := Lib.hid (by have := HKC.out; omega)
               have HL5 : Hid (w.heap.size ≤ (w5.alloc (.cells #[.pointer (some ⟨b, 0, none⟩)] TN)).heap.size) := Lib.hid (by have := HT5.out.size; simp; omega)
               have HX5A := Lib.hid (hx5.alloc (.cells #[.pointer (some ⟨b, 0, none⟩)] TN))
               have HNE : Hid (some gx ≠ y.ownBlock) := Lib.hid (fun e => HWS5.out.ne gx rfl e.symm)
               have HT35 := Lib.hid ht3
               have hx5a := HX5A.out.1
               obtain ⟨hx5, hx5f⟩ := hx5
               clear hres hpc hrs ht ht3 hrd hpp))
          all_goals (
            obtain ⟨hws, ht7⟩ := ways_add HBL.out HWS3.out rfl HKL.out HT35.out HRD5.out hown hgrow hat (by simp)
            have HWS7 := Lib.hid hws
            have HRS7 := Lib.hid (HRS5.out.keep ht7 (fun e => by have := HBL.out; omega))
            have HT7 := Lib.hid (HT5.out.trans ht7 (fun i e => .inr e))
            have HKC7 : Hid (k + (cur ++ [a]).length ≤ p2) := Lib.hid (by have h1 := HKC.out; have h2 := HPP.out; simp; omega)
            have HPS7 : Hid (p2 ≤ s.size) := Lib.hid HRS5.out.le
            clear hws ht7 hown hgrow hat hlt2
            go_wp2_with fail
            have hmm : s.size - cellI (w6.setCell ⟨gx, k, none⟩ (.slice (some ⟨g3, 0, none⟩) (cur.length + 1) cap3)) br 1 < s.size - cellI wr0 br 1 := by
              rw [cellI_at HRS7.out.c1.1, cellI_at HM0.out]
              have h1 := HPP.out
              show s.size - p2 < s.size - p
              omega
            exact ⟨⟨p2, g2, r2, k, gx, cap, rows, cur ++ [a], _, ovs, cvs ++ [_], f, rfl, hk3, HPS7.out, HRS7, HWS7, HKL, HKC7, HCL, Lib.hid (by have := HF.out; have := HPP.out; omega), HT7, Lib.hid (by have := HSP.out; have := HPP.out; omega)⟩, by rw [← hwr0]; exact hmm⟩)
end Go.Proofs.Ytlgpilcjcomacaa
