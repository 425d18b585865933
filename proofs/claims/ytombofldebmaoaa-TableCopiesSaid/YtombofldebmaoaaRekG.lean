/-
  Rekey, of the reference's table, walked.
-/
import Derived.Test.YtombofldebmaoaaRekE
import Derived.Test.YtombofldebmaoaaRefE
import Derived.Laws.AppendOwnNone
import Derived.Deep.DeepCutAuto
namespace Go.Proofs.Ytombofldebmaoaa
open Go.RowKit
set_option linter.unusedVariables false

/-- The keys of the first i pairs are distinct; the i-th one's is none of the first k. -/
theorem nodup_next {ps : List P2} {i : Nat} {p : P2} (h : (keysOf (ps.take i)).Nodup) (hp : ps[i]? = some p) (hn : p.1 ∉ keysOf (ps.take i)) : (keysOf (ps.take (i + 1))).Nodup := by
  rw [take_snoc hp, keysOf_snoc, List.nodup_append]
  refine ⟨h, by simp, ?_⟩
  intro a ha c hc e
  simp only [List.mem_singleton] at hc
  rw [e, hc] at ha
  exact hn ha

theorem notin_next {ps : List P2} {k : Nat} {p : P2} {x : Int} (h : x ∉ keysOf (ps.take k)) (hp : ps[k]? = some p) (hne : x ≠ p.1) : x ∉ keysOf (ps.take (k + 1)) := by
  rw [take_snoc hp, keysOf_snoc, List.mem_append]
  rintro (h1 | h1)
  · exact h h1
  · simp only [List.mem_singleton] at h1; exact hne h1

theorem dup_found {ps : List P2} {i k : Nat} {p q : P2} (hi : ps[i]? = some p) (hk : ps[k]? = some q) (hlt : k < i) (he : p.1 = q.1) : ¬ (keysOf ps).Nodup := by
  intro h
  have h1 : (keysOf ps)[i]? = some p.1 := by simp [keysOf, hi]
  have h2 : (keysOf ps)[k]? = some q.1 := by simp [keysOf, hk]
  obtain ⟨l1, e1⟩ := List.getElem?_eq_some_iff.1 h1
  obtain ⟨l2, e2⟩ := List.getElem?_eq_some_iff.1 h2
  have := (List.pairwise_iff_getElem.1 h) k i l2 l1 hlt
  rw [e1, e2] at this
  exact this he.symm

theorem nodup_notin {ps : List P2} (h : (keysOf ps).Nodup) {c : Nat} {q : P2} (hq : ps[c]? = some q) : toOf (ps.take c) q.1 = none := by
  rw [toOf_none]
  intro hm
  have e1 : keysOf ps = keysOf (ps.take (c + 1)) ++ keysOf (ps.drop (c + 1)) := by unfold keysOf; rw [← List.map_append, List.take_append_drop]
  rw [e1, take_snoc hq, keysOf_snoc] at h
  have h1 := (List.nodup_append.1 h).1
  exact (List.nodup_append.1 h1).2.2 _ hm _ (by simp) rfl

/-- A cell of an owned slice of rows. -/
theorem owns_row {w : World} {e : TypeId} {ao : Option Addr} {n cap : Nat} {rs : List R3} (h : w.ownsRow 0 e 3 (.slice ao n cap) n (rowsCells rs)) {i : Nat} {r : R3} (hr : rs[i]? = some r) :
    ∃ g, ao = some ⟨g, 0, none⟩ ∧ (w.cell? ⟨g, i * 3, none⟩ = some (.int .i64 r.1) ∧ w.cell? ⟨g, i * 3 + 1, none⟩ = some (.int .i64 r.2.1) ∧ w.cell? ⟨g, i * 3 + 2, none⟩ = some (.int .i64 r.2.2)) ∧ w.frozen? ⟨g, i * 3, none⟩ = false ∧ w.frozen? ⟨g, i * 3 + 1, none⟩ = false ∧ g < w.heap.size := by
  obtain ⟨ao', cap', e, _, _, hv⟩ := owns_view h
  simp only [Value.slice.injEq] at e
  obtain ⟨rfl, -, rfl⟩ := e
  have e : ∀ c, c < 3 → (rowsCells rs)[i * 3 + c]? = (rowCells r)[c]? := fun c hc => rowsCells_get _ i c r hr hc
  obtain ⟨g, rfl, h0, z0, hg⟩ := hv (i * 3) _ (e 0 (by omega))
  obtain ⟨g1, hg1, h1, z1, _⟩ := hv (i * 3 + 1) _ (e 1 (by omega))
  obtain ⟨g2, hg2, h2, _⟩ := hv (i * 3 + 2) _ (e 2 (by omega))
  cases hg1; cases hg2
  exact ⟨g, rfl, ⟨h0, h1, h2⟩, z0, z1, World.block_lt_of_cell? w _ h0⟩

/-- A copy of the rows, however many they are. -/
theorem wpList_copy_rows {ops : Array Oper} {rest : List Oper} {o : Oper} {a : Act} {w : World} {Q : Exit → Act → World → Prop} (hgd : o.guard = none) (s x : Operand)
    (ho : o.op = .call { callee := .builtin .append, args := #[s, x], argTypes := #[57, 57] }) (g : Nat) (hs : a.eval s = .slice (some ⟨g, 0, none⟩) 0 0) (hg : w.heap[g]? = some (.cells #[] 86 (0, 0))) (rv : Value) (hx : a.eval x = rv) (rs : List R3) (hrv : w.ownsRow 0 86 3 rv rs.length (rowsCells rs)) (hn : rs.length ≤ 500)
    (h : ∀ ao c w', w'.ownsRow 0 86 3 (.slice ao rs.length c) rs.length (rowsCells rs) → Touch (fun k => k = g) w w' → (∀ k, ownOf (.slice ao rs.length c) k → k = g ∨ k = w.heap.size) → wpList Try.prog ops Q rest (a.put o.dst (.slice ao rs.length c)) w') : wpList Try.prog ops Q (o :: rest) a w := by
  obtain ⟨i0, hi, hz0, hz1, hz2⟩ := info_parts info86
  rcases hrv.2 with ⟨e, h0⟩ | ⟨g', cap, cur, e, hb, hgg, hnc, hcm, hcs, htk⟩
  · have hnil : rs = [] := List.eq_nil_of_length_eq_zero h0
    subst hnil
    refine wpList_append_own_none hgd s x 57 ho 0 86 i0 3 Try.underlying57 hi _ 0 [] hs (owns_empty hg) (hx.trans e) ?_
    exact h _ _ w (owns_empty hg) (Touch.refl _ _) (fun k hk => .inl (own_slice hk).symm)
  · have hcell : ∀ j u, (rowsCells rs)[j]? = some u → w.cell? ((⟨g', 0, none⟩ : Addr).add j) = some u := by
      intro j u hu
      rw [Addr.add_lit, Nat.zero_add, cell_of_row w g' j cur 86 (0, 0) hgg]
      rw [← htk, List.getElem?_take] at hu
      split at hu
      · simpa using hu
      · cases hu
    refine wpList_append_own_at w hgd s x 57 ho 0 86 i0 (.agg #[.int .i64 0, .int .i64 0, .int .i64 0]) 3 24 Try.underlying57 hi hz0 hz1 hz2 rfl (by decide) _ 0 [] hs (owns_empty hg) ⟨g', 0, none⟩ rs.length cap (rowsCells rs) (hx.trans e) (rowsCells_length rs) hcell (rowsCells_one _) (by unfold maxLen; omega) (by omega) (Nat.zero_le _) ?_
    intro v' w' h2 h3 _ h5
    rw [Nat.zero_add, List.nil_append] at h2
    obtain ⟨ao, c, e2, _⟩ := owns_view h2
    subst e2
    refine h ao c w' h2 ⟨h3.os, h3.tape, h3.output, h3.size, fun k hk hne => h3.block k hk (fun e => hne (Option.some.inj e))⟩ (fun k hk => ?_)
    have hk : (Value.slice ao rs.length c).ownBlock = some k := hk
    rcases h5 with h5 | h5
    · rw [h5] at hk
      exact .inl (own_slice hk).symm
    · rw [h5] at hk
      exact .inr (Option.some.inj hk).symm

section
variable {w : World} {F : Nat → Prop} {b : Nat} {R : PT}

set_option maxRecDepth 100000 in
set_option maxHeartbeats 8000000 in
theorem f28_ref (h : Ref w F b R) (hkeys : R.rows.Pairwise (fun a b => a.1 ≠ b.1)) (hl : R.walks.length < 1099511627776) {v : Value} {ps : List P2} (hp : PairsIn w v ps) :
    Calls Try.prog 28 #[.pointer (some ⟨b, 0, none⟩), v] w fun e w' => e = .returned (.int .i64 (R.rekey ps).2) ∧ RMoves w F b (R.rekey ps).1 w' := by
  have H63 := Lib.hid (f63_ref h)
  have H := Lib.hid h
  have HWF := Lib.hid hp.wf
  have HP := Lib.hid hp.pairs
  have HKEYS := Lib.hid hkeys
  have hpl := hp.len
  have hpl2 : ps.length < 1099511627776 * 1099511627776 := by unfold maxLen at hpl; omega
  obtain ⟨av, capv, hv, _⟩ := hp.pairs.view
  clear hp h hpl hkeys
  subst hv
  obtain ⟨i0, hi00, hz0, hz1, hz2⟩ := info_parts info86
  have HI := Lib.hid hi00
  clear hi00
  by_cases hbig : 500 < ps.length
  · have e : R.rekey ps = (R, 1) := by simp [PT.rekey, hbig]
    rw [e]
    have hb : decide ((500 : Int) < (ps.length : Int)) = true := by simp; omega
    clear e hbig
    go_enter Try.func28, Try.ntmps28
    go_wp2_with (go_at_call 63; refine H63.out.mono ?_; rintro e w' ⟨rfl, rfl⟩)
    go_ret
    exact ⟨rfl, H.out.stays (Touch.refl _ _)⟩
  · have hb : decide ((500 : Int) < (ps.length : Int)) = false := by simp; omega
    go_enter Try.func28, Try.ntmps28
    go_wp2_with (go_at_call 63; refine H63.out.mono ?_; rintro e w' ⟨rfl, rfl⟩)
    go_loopw [5] (fun i wr => ∃ j : Nat, j ≤ ps.length ∧ i = .int .i64 j ∧ Hid ((keysOf (ps.take j)).Nodup) ∧ Hid (Still w wr)) (fun i _ => ps.length - (intOf i).toNat)
    case atStart => exact ⟨0, Nat.zero_le _, rfl, by show List.Nodup _; simp [keysOf], Touch.refl _ _⟩
    case round =>
      obtain ⟨j, hj, rfl, HND, HT⟩ := hrel
      by_cases hlt : j < ps.length
      · obtain ⟨p, hp⟩ : ∃ p, ps[j]? = some p := ⟨ps[j], by simp [hlt]⟩
        have HPJ := Lib.hid hp
        clear hp
        go_wp2_with fail
        obtain ⟨wo, rfl⟩ : ∃ wo : World, wo = wr := ⟨_, rfl⟩
        go_loopw [6] (fun i wx => ∃ c : Nat, c ≤ j ∧ i = .int .i64 c ∧ Hid (p.1 ∉ keysOf (ps.take c)) ∧ Hid (Still w wx)) (fun i _ => j - (intOf i).toNat)
        case atStart => exact ⟨0, Nat.zero_le _, rfl, by show ¬ _; simp [keysOf], HT.out⟩
        case round =>
          obtain ⟨c, hc, rfl, HNI, HTX⟩ := hrel
          by_cases hlt2 : c < j
          · obtain ⟨q, hq⟩ : ∃ q, ps[c]? = some q := ⟨ps[c]'(by omega), by rw [List.getElem?_eq_getElem]⟩
            obtain ⟨g, o, cap, e, _, hg, hcs⟩ := HP.out.at (S := fun _ => False) HPJ.out
            obtain ⟨x0, -⟩ := hcs wr HTX.out (fun h => h)
            simp only [Value.slice.injEq] at e
            obtain ⟨rfl, -, rfl⟩ := e
            obtain ⟨g2, o2, cap2, e2, _, hg2, hcs2⟩ := HP.out.at (S := fun _ => False) hq
            obtain ⟨y0, -⟩ := hcs2 wr HTX.out (fun h => h)
            simp only [Value.slice.injEq, Option.some.injEq, Addr.mk.injEq, and_true] at e2
            obtain ⟨⟨rfl, rfl⟩, -⟩ := e2
            have HQ := Lib.hid hq
            clear hcs hcs2 hq
            by_cases hpq : p.1 = q.1
            · have HEE : Hid (R.rekey ps = (R, 1)) := by
                show _ = _
                have hnd := dup_found HPJ.out HQ.out hlt2 hpq
                simp only [PT.rekey, if_neg hbig, hnd, not_false_eq_true, if_true]
              have hbq : (p.1 == q.1) = true := by simp [hpq]
              clear hpq
              go_wp2_with fail
              go_region
              all_goals
                go_wp2_with fail
                go_ret
                rw [HEE.out]
                exact ⟨rfl, H.out.stays HTX.out.drew⟩
            · have HN2 := Lib.hid (notin_next HNI.out HQ.out hpq)
              have hbq : (p.1 == q.1) = false := by simp [hpq]
              clear hpq
              go_wp2_with fail
              go_region
              all_goals
                go_wp2_with fail
                go_roundw
                case rel => exact ⟨c + 1, by omega, by go_num, HN2.out, HTX.out.drew⟩
                case measure => simp [intOf]; omega
          · obtain rfl : c = j := by omega
            have HN2 := Lib.hid (nodup_next HND.out HPJ.out HNI.out)
            go_wp2_with fail
            go_roundw
            case rel => exact ⟨c + 1, by omega, by go_num, HN2.out, HTX.out⟩
            case measure => simp [intOf]; omega
      · have HND2 : Hid ((keysOf ps).Nodup) := by
          have := HND.out
          rwa [List.take_of_length_le (by omega)] at this
        clear HND
        obtain ⟨rv, kv, hra⟩ := H.out
        have HRA := Lib.hid hra
        have d2 := (hra.still HT.out).c2
        have d1 := (hra.still HT.out).c1
        have d3 := (hra.still HT.out).c3
        have lb := hra.bl
        have HROWS := Lib.hid (hra.still HT.out).rows
        have hfew := hra.few
        clear hra
        have HREK : Hid (R.rekey ps = if R.frozen then (R, 13) else if rekFresh R.rows ps && (R.strict && decide (0 < opens R.walks)) then (R, 8) else if rekMiss R.rows ps then (R, 3) else ({ R with rows := rekRows ps R.rows }, 0)) := by
          show _ = _
          simp only [PT.rekey, if_neg hbig, HND2.out, not_true_eq_false, if_false]
        cases hfz : R.frozen with
        | true =>
          rw [hfz] at d2 HREK
          go_wp2_with fail
          go_ret
          rw [HREK.out]
          exact ⟨rfl, H.out.stays HT.out⟩
        | false =>
          rw [hfz] at d2
          have HZ : Hid (wr.heap.size = wr.heap.size) := Lib.hid rfl
          have szr := HT.out.size
          have lbr : b < wr.heap.size := Nat.lt_of_lt_of_le lb szr
          go_wp2_with (at_builtin; refine wpList_copy_rows rfl (.tmp 49) (.tmp 53) rfl wr.heap.size rfl (heap_alloc_new wr _) rv rfl R.rows (HROWS.out.alloc _) hfew ?_; intro a8 c8 w8 own8 t8 o8; have HO8 := Lib.hid own8; have HT8 : Hid (Still w w8) := (HT.out.alloc _).trans t8 (fun k hk => .inr (by omega)); have HB8 : Hid (∀ k, ownOf (.slice a8 R.rows.length c8) k → w.heap.size ≤ k) := (fun k hk => by rcases o8 k hk with h | h; (omega); (simp at h; omega)); clear own8 t8 o8)
          clear d1 d2 d3 lbr szr
          go_loopw [7, 9] (fun mi i wx => ∃ (c : Nat) (MI : Bool), c ≤ ps.length ∧ i = .int .i64 c ∧ mi = .bool MI ∧ Hid (rekMiss R.rows (ps.take c) = MI) ∧ Hid (Still w wx) ∧ Hid (wx.ownsRow 0 86 3 (.slice a8 R.rows.length c8) R.rows.length (rowsCells (ren (ps.take c) R.rows)))) (fun _ i _ => ps.length - (intOf i).toNat)
          case atStart => exact ⟨0, false, Nat.zero_le _, rfl, rfl, rfl, HT8.out, by show World.ownsRow _ _ _ _ _ _ _; rw [List.take_zero, ren_nil]; exact HO8.out⟩
          case round =>
            obtain ⟨c, MI, hc, rfl, rfl, HMI, HTX, HOX⟩ := hrel
            by_cases hlt3 : c < ps.length
            · obtain ⟨q, hq⟩ : ∃ q, ps[c]? = some q := ⟨ps[c], by simp [hlt3]⟩
              obtain ⟨g, o, cap, e, _, hg, hcs⟩ := HP.out.at (S := fun _ => False) hq
              obtain ⟨x0, x1⟩ := hcs wr HTX.out (fun h => h)
              have hcs2 := fun w' (hw : Still wr w') => (hcs w' (HTX.out.then hw) (fun h => h)).2
              have HCS := Lib.hid hcs2
              simp only [Value.slice.injEq] at e
              obtain ⟨rfl, -, rfl⟩ := e
              have HQ := Lib.hid hq
              have H64 := Lib.hid (f64_ref (H.out.still HTX.out) q.1)
              have HNX := Lib.hid (nodup_notin HND2.out hq)
              clear hcs hcs2 hq
              rcases atI_cases R.rows q.1 with ⟨ha, hf⟩ | ⟨i, r, ha, hr, he, -⟩
              · have HM : Hid (rekMiss R.rows (ps.take (c + 1)) = true) := by
                  show _ = _
                  rw [rekMiss_take HQ.out, ha]; simp
                have HRN : Hid (ren (ps.take (c + 1)) R.rows = ren (ps.take c) R.rows) := by
                  show _ = _
                  rw [take_snoc HQ.out]
                  refine ren_none HNX.out (fun r hr => ?_)
                  rw [List.findIdx?_eq_none_iff] at hf
                  simpa using hf r hr
                rw [ha] at H64
                clear ha hf
                go_wp2_with (go_at_call 64; refine H64.out.mono ?_; rintro e w2 ⟨rfl, hs⟩; have HS2 := Lib.hid hs; clear hs)
                go_roundw
                case rel => exact ⟨c + 1, true, by omega, by go_num, rfl, HM.out, HTX.out.then HS2.out, by show World.ownsRow _ _ _ _ _ _ _; rw [HRN.out]; exact owns_touch HOX.out HS2.out (fun _ _ h => h)⟩
                case measure => simp [intOf]; omega
              · have HM : Hid (rekMiss R.rows (ps.take (c + 1)) = MI) := by
                  show _ = _
                  rw [rekMiss_take HQ.out, ha, HMI.out]
                  have : ¬ ((i : Int) < 0) := by omega
                  simp [this]
                have HRN : Hid (ren (ps.take (c + 1)) R.rows = setKey (ren (ps.take c) R.rows) i q.2) := by
                  show _ = _
                  rw [take_snoc HQ.out]
                  exact ren_some HNX.out HKEYS.out hr he
                obtain ⟨g8, hg8, ⟨y0, -, -⟩, z0, -, lg8⟩ := owns_row HOX.out (ren_get hr)
                subst hg8
                have hin : i < R.rows.length := (List.getElem?_eq_some_iff.1 hr).1
                rw [ha] at H64
                clear ha hr he
                go_wp2_with (go_at_call 64; refine H64.out.mono ?_; rintro e w2 ⟨rfl, hs⟩; have y1 := HCS.out w2 hs; have y2 := (hs.cell (p := ⟨g8, i * 3, none⟩) lg8 (fun h => h)).trans y0; have y3 := (World.frozen?_of_block (a := ⟨g8, i * 3, none⟩) (hs.block g8 lg8 (fun h => h))).trans z0; have HS2 := Lib.hid hs; clear hs)
                go_roundw
                case rel => exact ⟨c + 1, MI, by omega, by go_num, rfl, HM.out, (HTX.out.then HS2.out).setCell (.inr (HB8.out g8 rfl)) _, by show World.ownsRow _ _ _ _ _ _ _; rw [HRN.out, ← rowsCells_setKey]; exact owns_set (owns_touch HOX.out HS2.out (fun _ _ h => h)) rfl _ _⟩
                case measure => simp [intOf]; omega
            · have HTK : Hid (ps.take c = ps) := List.take_of_length_le (by omega)
              have HMI2 : Hid (rekMiss R.rows ps = MI) := by have := HMI.out; rwa [HTK.out] at this
              have HO9 : Hid (wr.ownsRow 0 86 3 (.slice a8 R.rows.length c8) R.rows.length (rowsCells (ren ps R.rows))) := by have := HOX.out; rwa [HTK.out] at this
              clear HMI HOX HTK
              go_upto_region 22 with fail
              go_cut [86] (fun s wx => ∃ SB : Bool, s = .bool SB ∧ Hid ((R.strict && decide (0 < opens R.walks)) = SB) ∧ Hid (Still w wx) ∧ Hid (wx.ownsRow 0 86 3 (.slice a8 R.rows.length c8) R.rows.length (rowsCells (ren ps R.rows))))
              case first =>
                have e1 := (HRA.out.still HTX.out).c1
                cases hst : R.strict with
                | false =>
                  rw [hst] at e1
                  have HSB : Hid ((R.strict && decide (0 < opens R.walks)) = false) := by show _ = _; rw [hst]; rfl
                  clear hst
                  go_wp2_with fail
                  go_meet
                  exact ⟨false, rfl, HSB.out, HTX.out, HO9.out⟩
                | true =>
                  rw [hst] at e1
                  have H65 := Lib.hid (f65_ref (H.out.still HTX.out) hl)
                  have HSB : Hid ((R.strict && decide (0 < opens R.walks)) = decide (0 < opens R.walks)) := by show _ = _; rw [hst]; rfl
                  clear hst
                  go_wp2_with (go_at_call 65; refine H65.out.mono ?_; rintro e w2 ⟨rfl, hs⟩; have HS2 := Lib.hid hs; clear hs)
                  go_meet
                  exact ⟨_, rfl, HSB.out, HTX.out.then HS2.out, owns_touch HO9.out HS2.out (fun _ _ h => h)⟩
              case rest =>
                obtain ⟨SB, rfl, HSB, HTC, HOC⟩ := hcut
                go_upto_if 86 with fail
                go_cut [86] (fun s wx => Hid ((rekFresh R.rows ps && SB) = false) ∧ Hid (Still w wx) ∧ Hid (wx.ownsRow 0 86 3 (.slice a8 R.rows.length c8) R.rows.length (rowsCells (ren ps R.rows))))
                case first =>
                  cases SB with
                  | false =>
                    go_wp2_with fail
                    go_meet
                    exact ⟨by show _ = _; simp, HTC.out, HOC.out⟩
                  | true =>
                    go_wp2_with fail
                    go_loopw [11] (fun i wx => ∃ c : Nat, c ≤ R.rows.length ∧ i = .int .i64 c ∧ Hid (∀ q ∈ (ren ps R.rows).take c, 0 ≤ atI R.rows q.1) ∧ Hid (Still w wx) ∧ Hid (wx.ownsRow 0 86 3 (.slice a8 R.rows.length c8) R.rows.length (rowsCells (ren ps R.rows)))) (fun i _ => R.rows.length - (intOf i).toNat)
                    case atStart => exact ⟨0, Nat.zero_le _, rfl, by show ∀ q ∈ _, _; simp, HTC.out, HOC.out⟩
                    case round =>
                      obtain ⟨c, hc, rfl, HALL, HTX2, HOX⟩ := hrel
                      by_cases hlt3 : c < R.rows.length
                      · obtain ⟨r, hr⟩ : ∃ r, R.rows[c]? = some r := ⟨R.rows[c], by simp [hlt3]⟩
                        have hq := ren_get (ps := ps) hr
                        obtain ⟨K, hK⟩ : ∃ K, (toOf ps r.1).getD r.1 = K := ⟨_, rfl⟩
                        rw [hK] at hq
                        obtain ⟨g8, hg8, ⟨y0, -, -⟩, -, -, lg8⟩ := owns_row HOX.out hq
                        subst hg8
                        simp only at y0
                        have HQ := Lib.hid hq
                        have H64 := Lib.hid (f64_ref (H.out.still HTX2.out) K)
                        clear hq hr hK
                        cases hx : decide (atI R.rows K < 0) with
                        | true =>
                          have HEE : Hid (R.rekey ps = (R, 8)) := by
                            show _ = _
                            have hfr : rekFresh R.rows ps = true := (ren_fresh HND2.out).2 ⟨_, List.mem_of_getElem? HQ.out, by simpa using hx⟩
                            rw [HREK.out, hfr, HSB.out, hfz]
                            rfl
                          go_wp2_with (go_at_call 64; refine H64.out.mono ?_; rintro e w2 ⟨rfl, hs⟩; have HS2 := Lib.hid hs; clear hs)
                          go_ret
                          rw [HEE.out]
                          exact ⟨rfl, H.out.stays (HTX2.out.then HS2.out)⟩
                        | false =>
                          have HN : Hid (∀ q ∈ (ren ps R.rows).take (c + 1), 0 ≤ atI R.rows q.1) := by
                            show ∀ q ∈ _, _
                            rw [List.take_add_one, HQ.out]
                            intro q hq
                            rcases List.mem_append.1 hq with h | h
                            · exact HALL.out q h
                            · simp only [Option.toList_some, List.mem_singleton] at h
                              subst h
                              simp only [decide_eq_false_iff_not] at hx
                              simp only; omega
                          go_wp2_with (go_at_call 64; refine H64.out.mono ?_; rintro e w2 ⟨rfl, hs⟩; have HS2 := Lib.hid hs; clear hs)
                          go_roundw
                          case rel => exact ⟨c + 1, by omega, by go_num, HN.out, HTX2.out.then HS2.out, owns_touch HOX.out HS2.out (fun _ _ h => h)⟩
                          case measure => simp [intOf]; omega
                      · have HF : Hid ((rekFresh R.rows ps && true) = false) := by
                          show _ = _
                          rw [Bool.and_true, Bool.eq_false_iff]
                          intro h
                          obtain ⟨q, hq, hneg⟩ := (ren_fresh HND2.out).1 h
                          have := HALL.out q (by rw [List.take_of_length_le (by rw [ren_length]; omega)]; exact hq)
                          omega
                        go_wp2_with fail
                        go_meet
                        exact ⟨HF.out, HTX2.out, HOX.out⟩
                case rest =>
                  obtain ⟨HF, HTD, HOD⟩ := hcut
                  have HREK2 : Hid (R.rekey ps = if MI = true then (R, 3) else ({ R with rows := rekRows ps R.rows }, 0)) := by
                    show _ = _
                    rw [HREK.out, HSB.out, HF.out, HMI2.out, hfz]
                    rfl
                  clear HREK HSB HF HMI2
                  cases MI with
                  | true =>
                    go_wp2_with fail
                    go_ret
                    rw [HREK2.out]
                    exact ⟨rfl, H.out.stays HTD.out⟩
                  | false =>
                    go_wp2_with fail
                    go_loopw [12, 13] (fun v i wx => ∃ (c L : Nat) (ao : Option Addr) (cap : Nat), c ≤ R.rows.length ∧ i = .int .i64 c ∧ v = .slice ao L cap ∧ L ≤ 500 ∧ Hid ((rekRows ps (R.rows.take c)).length = L) ∧ Hid (Still w wx) ∧ Hid (wx.ownsRow 0 86 3 (.slice a8 R.rows.length c8) R.rows.length (rowsCells (ren ps R.rows))) ∧ Hid (wx.ownsRow 0 86 3 (.slice ao L cap) L (rowsCells (rekRows ps (R.rows.take c)))) ∧ Hid (∀ k, ownOf (.slice ao L cap) k → w.heap.size ≤ k ∧ ¬ ownOf (.slice a8 R.rows.length c8) k)) (fun _ i _ => R.rows.length - (intOf i).toNat)
                    case atStart => exact ⟨0, 0, none, 0, Nat.zero_le _, rfl, rfl, by omega, by show _ = _; rfl, HTD.out, HOD.out, World.ownsRow_nil _ _ _ _, by show ∀ k, _ → _; intro k hk; cases hk⟩
                    case round =>
                      obtain ⟨c, L, ao, cap, hc, rfl, rfl, hL5, HL, HTX2, HOX, HOO, HAP⟩ := hrel
                      by_cases hlt3 : c < R.rows.length
                      · obtain ⟨r, hr⟩ : ∃ r, R.rows[c]? = some r := ⟨R.rows[c], by simp [hlt3]⟩
                        have hq := ren_get (ps := ps) hr
                        obtain ⟨K, hK⟩ : ∃ K, (toOf ps r.1).getD r.1 = K := ⟨_, rfl⟩
                        rw [hK] at hq
                        have HKK := Lib.hid hK
                        have HQ := Lib.hid hq
                        have HR := Lib.hid hr
                        have HL2 : Hid (L < 500) := by
                          have h1 := (rekRows_keys ps (R.rows.take c)).2
                          have h2 := HL.out
                          rw [List.length_take] at h1
                          show _ < _; omega
                        clear hq hr hK
                        go_wp2_with fail
                        obtain ⟨wo, rfl⟩ : ∃ wo : World, wo = wr := ⟨_, rfl⟩
                        go_loopw [14, 15] (fun at_ i wx => ∃ (d : Nat) (A : Int), d ≤ L ∧ i = .int .i64 d ∧ at_ = .int .i64 A ∧ Hid (atI ((rekRows ps (R.rows.take c)).take d) K = A) ∧ Hid (Still wo wx)) (fun _ i _ => L - (intOf i).toNat)
                        case atStart => exact ⟨0, -1, Nat.zero_le _, rfl, rfl, by show _ = _; rfl, Touch.refl _ _⟩
                        case round =>
                          obtain ⟨d, A, hd, rfl, rfl, HA, HTY⟩ := hrel
                          by_cases hlt4 : d < L
                          · obtain ⟨o, ho⟩ : ∃ o, (rekRows ps (R.rows.take c))[d]? = some o := ⟨(rekRows ps (R.rows.take c))[d]'(by rw [HL.out]; exact hlt4), by rw [List.getElem?_eq_getElem]⟩
                            obtain ⟨g1, hg1, ⟨y0, -, -⟩, -, -, lg1⟩ := owns_row (owns_touch HOO.out HTY.out (fun _ _ h => h)) ho
                            obtain ⟨g8, hg8, ⟨z0, -, -⟩, -, -, lg8⟩ := owns_row (owns_touch HOX.out HTY.out (fun _ _ h => h)) HQ.out
                            simp only at z0
                            subst hg1
                            subst hg8
                            have HNX := Lib.hid (atI_take (rekRows_keys ps (R.rows.take c)).1 ho K)
                            clear ho
                            by_cases hok : o.1 = K
                            · have HA2 : Hid (atI ((rekRows ps (R.rows.take c)).take (d + 1)) K = (d : Int)) := by show _ = _; rw [HNX.out, if_pos hok]
                              have hb2 : (o.1 == K) = true := by simp [hok]
                              clear hok
                              go_wp2_with fail
                              go_region
                              all_goals
                                go_wp2_with fail
                                go_roundw
                                case rel => exact ⟨d + 1, (d : Int), by omega, by go_num, rfl, HA2.out, HTY.out.drew⟩
                                case measure => simp [intOf]; omega
                            · have HA2 : Hid (atI ((rekRows ps (R.rows.take c)).take (d + 1)) K = A) := by show _ = _; rw [HNX.out, if_neg hok]; exact HA.out
                              have hb2 : (o.1 == K) = false := by simp [hok]
                              clear hok
                              go_wp2_with fail
                              go_region
                              all_goals
                                go_wp2_with fail
                                go_roundw
                                case rel => exact ⟨d + 1, A, by omega, by go_num, rfl, HA2.out, HTY.out.drew⟩
                                case measure => simp [intOf]; omega
                          · have HA2 : Hid (atI (rekRows ps (R.rows.take c)) K = A) := by have := HA.out; rwa [List.take_of_length_le (by rw [HL.out]; omega)] at this
                            clear HA
                            have HTZ : Hid (Still w wr) := HTX2.out.then HTY.out
                            have HO1 : Hid (wr.ownsRow 0 86 3 (.slice a8 R.rows.length c8) R.rows.length (rowsCells (ren ps R.rows))) := owns_touch HOX.out HTY.out (fun _ _ h => h)
                            have HO2 : Hid (wr.ownsRow 0 86 3 (.slice ao L cap) L (rowsCells (rekRows ps (R.rows.take c)))) := owns_touch HOO.out HTY.out (fun _ _ h => h)
                            obtain ⟨g8, hg8, ⟨z0, z1, z2⟩, -, -, lg8⟩ := owns_row HO1.out HQ.out
                            simp only at z0 z1 z2
                            subst hg8
                            rcases atI_cases (rekRows ps (R.rows.take c)) K with ⟨ha, -⟩ | ⟨i, o, ha, ho, -, -⟩
                            · obtain rfl : A = -1 := by have := HA2.out; omega
                              have HST : Hid (rekRows ps (R.rows.take (c + 1)) = rekRows ps (R.rows.take c) ++ [(K, r.2.1, r.2.2)]) := by
                                show _ = _
                                rw [rekRows_take HR.out, (rek_snoc (by rw [HKK.out, ha]; decide)).1, HKK.out]
                              clear ha
                              have hL4 := HL2.out
                              have hlw := HTZ.out.size
                              go_wp2_with (at_builtin; refine wpList_append_own_at _ rfl (.tmp 137) (.tmp 142) 57 rfl 0 86 i0 (.agg #[.int .i64 0, .int .i64 0, .int .i64 0]) 3 24 Try.underlying57 HI.out hz0 hz1 hz2 rfl (by decide) _ _ _ rfl (HO2.out.alloc _) ⟨wr.heap.size, 0, none⟩ 1 1 [.int .i64 K, .int .i64 r.2.1, .int .i64 r.2.2] rfl rfl ?c1 ?c2 ?c3 ?c4 ?c5 ?_)
                              case c1 => exact cellsAt (heap_alloc_new _ _)
                              case c2 => exact one_cells _ _ _ rfl rfl rfl
                              case c3 => unfold maxLen; omega
                              case c4 => omega
                              case c5 => omega
                              intro v' w1 hown' hgrow _ hat
                              obtain ⟨ao', cap', ev, _⟩ := owns_view hown'
                              subst ev
                              have HW1 : Hid (Still w w1) := (HTZ.out.alloc _).grown hgrow (fun k hk => .inr (HAP.out k hk).1)
                              have HX1 : Hid (w1.ownsRow 0 86 3 (.slice (some ⟨g8, 0, none⟩) R.rows.length c8) R.rows.length (rowsCells (ren ps R.rows))) :=
                                owns_touch (HO1.out.alloc _) ((Touch.refl (fun k => ownOf (.slice ao L cap) k) _).grown hgrow (fun k hk => .inl hk)) (fun k hk h => (HAP.out k h).2 hk)
                              have HX2 : Hid (w1.ownsRow 0 86 3 (.slice ao' (L + 1) cap') (L + 1) (rowsCells (rekRows ps (R.rows.take (c + 1))))) := by
                                show World.ownsRow _ _ _ _ _ _ _
                                rw [HST.out, rowsCells_append]
                                exact hown'
                              have HX3 : Hid (∀ k, ownOf (.slice ao' (L + 1) cap') k → w.heap.size ≤ k ∧ ¬ ownOf (.slice (some ⟨g8, 0, none⟩) R.rows.length c8) k) := by
                                show ∀ k, _ → _
                                intro k hk
                                have hk : (Value.slice ao' (L + 1) cap').ownBlock = some k := hk
                                rcases hat with h | h
                                · exact HAP.out k (h.symm.trans hk)
                                · rw [h] at hk
                                  have e := Option.some.inj hk
                                  have e2 : wr.heap.size + 1 = k := by first | exact e | simpa using e
                                  refine ⟨by omega, fun h8 => ?_⟩
                                  have := own_slice h8
                                  omega
                              have HX4 : Hid ((rekRows ps (R.rows.take (c + 1))).length = L + 1) := by
                                show _ = _
                                rw [HST.out, List.length_append, HL.out]; rfl
                              clear hown' hgrow hat
                              go_wp2_with fail
                              go_roundw
                              case rel => exact ⟨c + 1, L + 1, ao', cap', by omega, by go_num, rfl, by omega, HX4.out, HW1.out, HX1.out, HX2.out, HX3.out⟩
                              case measure => simp [intOf]; omega
                            · obtain rfl : A = (i : Int) := by have := HA2.out; omega
                              have HST : Hid (rekRows ps (R.rows.take (c + 1)) = setVal (rekRows ps (R.rows.take c)) i r.2.1) := by
                                show _ = _
                                rw [rekRows_take HR.out, rek_set (by rw [HKK.out, ha])]
                              obtain ⟨g1, hg1, ⟨-, y1, -⟩, -, zf, lg1⟩ := owns_row HO2.out ho
                              subst hg1
                              have hiL : i < L := by have h1 := (List.getElem?_eq_some_iff.1 ho).1; rw [HL.out] at h1; exact h1
                              clear ha ho
                              go_wp2_with fail
                              go_roundw
                              case rel =>
                                refine ⟨c + 1, L, _, _, by omega, by go_num, rfl, by omega, ?_, HTZ.out.setCell (.inr (HAP.out g1 rfl).1) _, owns_touch HO1.out (touch_setCell _ _ _) (fun k hk e => (HAP.out g1 rfl).2 (by have e : k = g1 := e; rw [← e]; exact hk)), ?_, HAP.out⟩
                                · show _ = _
                                  rw [HST.out, setVal_length]; exact HL.out
                                · show World.ownsRow _ _ _ _ _ _ _
                                  rw [HST.out, ← rowsCells_set]
                                  exact owns_set HO2.out rfl _ _
                              case measure => simp [intOf]; omega
                      · have HTK : Hid (R.rows.take c = R.rows) := List.take_of_length_le (by omega)
                        have d3 := (HRA.out.still HTX2.out).c3
                        have z3 := (HRA.out.still HTX2.out).z 3
                        have HFIN : Hid (RMoves w F b { R with rows := rekRows ps R.rows } (wr.setCell ⟨b, 3, none⟩ (.slice ao L cap))) := by
                          have h1 := HL.out
                          have h2 := HOO.out
                          rw [HTK.out] at h1 h2
                          rw [← h1] at h2
                          rw [← h1]
                          exact HRA.out.newRows (HTX2.out.mono (fun _ _ h => h.elim)) (rekRows ps R.rows) h2 (fun k hk => .inr (HAP.out k (by rw [← h1]; exact hk)).1) (by omega)
                        go_wp2_with fail
                        go_ret
                        rw [HREK2.out]
                        exact ⟨rfl, HFIN.out⟩
end

end Go.Proofs.Ytombofldebmaoaa
