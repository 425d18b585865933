/-
  TableOrder, walked.
-/
import Derived.Test.YtombofldebmaoaaOrdA
import Derived.Deep.AppendLies
import Derived.Deep.RegionLaw
namespace Go.Proofs.Ytombofldebmaoaa
open Go.RowKit
set_option linter.unusedVariables false

def ownOf (v : Value) : Nat → Prop := fun k => v.ownBlock = some k

/-- One deed's cells, in every world behind. -/
theorem Deeds.at {w : World} {v : Value} {ds : List DD} (h : Deeds w v ds) : ∃ ao cap, v = .slice ao ds.length cap ∧ ds.length < 1099511627776 * 1099511627776 ∧ ∀ k x, ds[k]? = some x → ∃ g o, ao = some ⟨g, o, none⟩ ∧ g < w.heap.size ∧ ∀ w', Still w w' →
    w'.cell? ⟨g, o + k * 4, none⟩ = some (.int .i64 x.d) ∧ w'.cell? ⟨g, o + k * 4 + 1, none⟩ = some (.int .i64 x.a) ∧ w'.cell? ⟨g, o + k * 4 + 2, none⟩ = some (.int .i64 x.b) ∧ w'.cell? ⟨g, o + k * 4 + 3, none⟩ = some x.pv := by
  obtain ⟨ao, cap, rfl, h1, h2, h3⟩ := h.view
  refine ⟨ao, cap, rfl, by unfold maxLen at h2; omega, fun k x hx => ?_⟩
  obtain ⟨g, o, e, hg, c0, c1, c2, c3⟩ := h3 k x hx
  refine ⟨g, o, e, hg, fun w' hw => ⟨?_, ?_, ?_, ?_⟩⟩
  · exact (hw.cell (p := ⟨g, _, none⟩) hg (fun h => h)).trans c0
  · exact (hw.cell (p := ⟨g, _, none⟩) hg (fun h => h)).trans c1
  · exact (hw.cell (p := ⟨g, _, none⟩) hg (fun h => h)).trans c2
  · exact (hw.cell (p := ⟨g, _, none⟩) hg (fun h => h)).trans c3

theorem bits_wf (x c : Int) : (Lit.int .i64 (bits .and .i64 x c)).wf = true := by
  simp only [Go.bits]
  exact (WalkArith.wf_i64 (by simp only [IntKind.wrap, IntKind.bits, IntKind.signed]; simp; split <;> omega))

/-! ### a list of pairs of the call's own -/

/-- v holds the pairs W, in a block made since w0. -/
structure Lst (w0 w : World) (v : Value) (W : List P2) : Prop where
  own : w.ownsRow 0 37 2 v W.length (pairsCells W)
  new : ∀ k, ownOf v k → w0.heap.size ≤ k

theorem Lst.nil (w0 w : World) : Lst w0 w (.slice none 0 0) [] := ⟨World.ownsRow_nil _ _ _ _, by simp [ownOf, Value.ownBlock]⟩

theorem Lst.touch {w0 w w' : World} {v : Value} {W : List P2} {S : Nat → Prop} (h : Lst w0 w v W) (ht : Touch S w w') (hS : ∀ k, ownOf v k → ¬ S k) : Lst w0 w' v W := ⟨owns_touch h.own ht hS, h.new⟩
theorem Lst.still {w0 w w' : World} {v : Value} {W : List P2} (h : Lst w0 w v W) (ht : Still w w') : Lst w0 w' v W := h.touch ht (fun _ _ h => h)
theorem Lst.apart {w0 w w' : World} {v : Value} {W : List P2} {X : Nat → Prop} (h : Lst w0 w v W) (ht : Touch (Apart w0 X) w w') (hX : ∀ k, ownOf v k → X k) : Lst w0 w' v W := h.touch ht (fun k hk hs => hs.2 (hX k hk))

theorem Lst.lt {w0 w : World} {v : Value} {W : List P2} (h : Lst w0 w v W) : ∀ k, ownOf v k → k < w.heap.size := by
  intro k hk
  rcases h.own.2 with ⟨rfl, _⟩ | ⟨g, cap, cur, rfl, _, hg, _⟩
  · cases hk
  · cases hk; exact World.lt_of_heap hg

theorem Lst.view {w0 w : World} {v : Value} {W : List P2} (h : Lst w0 w v W) : ∃ ao cap, v = .slice ao W.length cap ∧ W.length ≤ cap ∧ ∀ i p, W[i]? = some p → ∃ g, ao = some ⟨g, 0, none⟩ ∧ ownOf v g ∧
    w.cell? ⟨g, i * 2, none⟩ = some (.int .i64 p.1) ∧ w.cell? ⟨g, i * 2 + 1, none⟩ = some (.int .i64 p.2) ∧ w.frozen? ⟨g, i * 2 + 1, none⟩ = false := by
  obtain ⟨ao, cap, rfl, hc, _, hv⟩ := owns_view h.own
  refine ⟨ao, cap, rfl, hc, fun i r hr => ?_⟩
  have e : ∀ c, c < 2 → (pairsCells W)[i * 2 + c]? = (pairCells r)[c]? := fun c hc => pairsCells_get _ i c r hr hc
  obtain ⟨g, rfl, h0, z0, hg⟩ := hv (i * 2) _ (e 0 (by omega))
  obtain ⟨g1, hg1, h1, z1, _⟩ := hv (i * 2 + 1) _ (e 1 (by omega))
  cases hg1
  exact ⟨g, rfl, hg, h0, h1, z1⟩

theorem Lst.set {w0 w : World} {v : Value} {W : List P2} (h : Lst w0 w v W) {g : Nat} (hg : ownOf v g) {i : Nat} {p : P2} (hp : W[i]? = some p) (x : Int) : Lst w0 (w.setCell ⟨g, i * 2 + 1, none⟩ (.int .i64 x)) v (W.set i (p.1, x)) := by
  refine ⟨?_, h.new⟩
  have h1 := owns_set h.own hg (i * 2 + 1) (.int .i64 x)
  have e : (pairsCells W).set (i * 2 + 1) (.int .i64 x) = pairsCells (W.set i (p.1, x)) := by
    clear h1 h hg
    induction W generalizing i with
    | nil => simp at hp
    | cons y W ih =>
      cases i with
      | zero => simp at hp; subst hp; rfl
      | succ i =>
        have e2 : (i + 1) * 2 + 1 = (i * 2 + 1) + 1 + 1 := by omega
        have := ih (i := i) (by simpa using hp)
        rw [List.set_cons_succ, pairsCells_cons, pairsCells_cons, ← this, e2]
        rfl
  rw [e] at h1
  simpa using h1

/-- Behind an append. -/
theorem Lst.grow {w0 w w1 : World} {v : Value} {W : List P2} {A B : Int} {O : Obj} {n : Nat} (h : Lst w0 w v W) (hn : W.length = n) (hs : w0.heap.size ≤ w.heap.size) {g cap : Nat}
    (hown : w1.ownsRow 0 37 2 (.slice (some ⟨g, 0, none⟩) (n + 1) cap) (n + 1) (pairsCells W ++ [.int .i64 A, .int .i64 B])) (hgrow : (w.alloc O).grownBy w1 v.ownBlock) (hat : v.ownBlock = some g ∨ g = w.heap.size + 1) :
    Lst w0 w1 (.slice (some ⟨g, 0, none⟩) (n + 1) cap) (W ++ [(A, B)]) ∧ Touch (ownOf v) w w1 ∧ ∀ k, ownOf (.slice (some ⟨g, 0, none⟩) (n + 1) cap) k → ownOf v k ∨ w.heap.size ≤ k := by
  have key : ∀ k, ownOf (.slice (some ⟨g, 0, none⟩) (n + 1) cap) k → ownOf v k ∨ w.heap.size ≤ k := by
    intro k hk
    obtain rfl : g = k := by cases hk; rfl
    rcases hat with h | h
    · exact .inl h
    · exact .inr (by omega)
  refine ⟨⟨?_, fun k hk => ?_⟩, ((Touch.refl _ w).alloc O).grown hgrow (fun i hi => .inl hi), key⟩
  · have e : pairsCells (W ++ [(A, B)]) = pairsCells W ++ [.int .i64 A, .int .i64 B] := by rw [pairsCells_append]; rfl
    have e2 : (W ++ [(A, B)]).length = n + 1 := by simp [hn]
    rw [e, e2]
    exact hown
  · rcases key k hk with h1 | h1
    · exact h.new k h1
    · omega

theorem Sep.less {w0 w : World} {b : Nat} {T : PT} {X Y : Nat → Prop} (h : Sep w0 w b T X) (hY : ∀ k, Y k → X k) : Sep w0 w b T Y := by
  obtain ⟨F, h1, h2, h3⟩ := h
  exact ⟨F, h1, fun k hk => ⟨(h2 k hk).1, fun hy => (h2 k hk).2 (hY k hy)⟩, h3⟩

theorem upd_step {W : List P2} {q : Nat} {p : P2} (h : W[q]? = some p) (f : P2 → P2) : ((W.take q).map f ++ W.drop q)[q]? = some p ∧ ((W.take q).map f ++ W.drop q).set q (f p) = (W.take (q + 1)).map f ++ W.drop (q + 1) := by
  obtain ⟨hq, hp⟩ := List.getElem?_eq_some_iff.1 h
  have hl : ((W.take q).map f).length = q := by simp; omega
  have hd : W.drop q = p :: W.drop (q + 1) := by rw [← hp]; exact List.drop_eq_getElem_cons hq
  constructor
  · rw [List.getElem?_append_right (by omega), hl, Nat.sub_self, hd]; rfl
  · rw [List.set_append_right _ _ (by omega), hl, Nat.sub_self, hd, List.take_add_one, h]
    simp

theorem set_same {W : List P2} {q : Nat} {p : P2} (h : W[q]? = some p) : W.set q p = W := by
  obtain ⟨hq, hp⟩ := List.getElem?_eq_some_iff.1 h
  rw [← hp]; exact List.set_getElem_self hq

theorem filter_step {W : List P2} {q : Nat} {p : P2} (h : W[q]? = some p) (f : P2 → Bool) : (W.take (q + 1)).filter f = (W.take q).filter f ++ (if f p then [p] else []) := by
  rw [List.take_add_one, h, List.filter_append]
  congr 1
  simp only [Option.toList_some, List.filter_cons, List.filter_nil]

/-- The state between two deeds. -/
structure OrdR (w0 w : World) (b : Nat) (T : PT) (W : List P2) (v : Value) (k : Nat) : Prop where
  sep : Sep w0 w b T (ownOf v)
  list : Lst w0 w v W
  eq : W = pairsOf T.rows
  plain : PlainT T k

theorem OrdR.len {w0 w : World} {b : Nat} {T : PT} {W : List P2} {v : Value} {k : Nat} (h : OrdR w0 w b T W v k) : W.length ≤ k := by
  rw [h.eq]; simp only [pairsOf, List.length_map]; exact h.plain.len

set_option maxRecDepth 100000 in
set_option maxHeartbeats 4000000 in
theorem order_walks (v : Value) (ds : List DD) (w : World) (hd : Deeds w v ds) :
    Calls Try.prog 4 #[v] w fun e w' => e = .returned (.bool true) ∧ Still w w' := by
  obtain ⟨ao, cap, rfl, hlen, hv⟩ := hd.at
  have HV := Lib.hid hv; clear hv
  have HD := Lib.hid hd.ok; clear hd
  obtain ⟨i0, hi, hz0, hz1, hz2⟩ := info_parts info37
  have HI := Lib.hid hi; clear hi
  go_enter Try.func4, Try.ntmps4
  go_wp2_with (go_at_call 12; refine (new_own (Touch.refl _ w)).mono ?_; rintro e x1 ⟨b, rfl, h⟩; have H := Lib.hid h; clear h)
  go_loopw [4, 5] (fun u i wr => ∃ (k : Nat) (T : PT) (W : List P2), k ≤ 300 ∧ i = .int .i64 k ∧ Hid (OrdR w wr b T W u k)) (fun _ i _ => 300 - (intOf i).toNat)
  case atStart =>
    refine ⟨0, PT.new, [], by omega, rfl, ?_⟩
    obtain ⟨F, h1, h2, h3⟩ := H.out
    exact ⟨⟨F, h1, fun k hk => ⟨h2 k hk, by simp [ownOf, Value.ownBlock]⟩, h3⟩, Lst.nil _ _, rfl, ⟨by simp [PT.new], by simp [PT.new], rfl, rfl, rfl⟩⟩
  case round =>
    obtain ⟨k, T, W, hk, rfl, HR⟩ := hrel
    clear H
    by_cases hlt : k < ds.length ∧ k < 300
    · obtain ⟨hlt, hlt3⟩ := hlt
      obtain ⟨x, hx⟩ : ∃ x, ds[k]? = some x := ⟨ds[k], by simp [hlt]⟩
      obtain ⟨g, o, hg, hgl, hcc⟩ := HV.out k x hx
      have HCC := Lib.hid hcc; clear hcc
      obtain ⟨c0, c1, c2, c3⟩ := HCC.out wr HR.out.sep.touch
      have HKW := Lib.hid (bits_wf x.a 15)
      subst hg
      obtain ⟨aw, capw, hu4, hcapw, hvw⟩ := HR.out.list.view
      have hWl := HR.out.len
      have HVW := Lib.hid hvw; clear hvw hx
      generalize hWn : W.length = n at *
      have HN := Lib.hid hWn; clear hWn
      subst hu4
      have hb1 : (1 : Nat) < 2 := by omega
      go_wp2_with fail
      generalize bits BinOp.and IntKind.i64 x.a 15 = K at *
      go_loopw [8, 9] (fun h j wx => ∃ q : Nat, q ≤ n ∧ j = .int .i64 q ∧ h = .bool (has (W.take q) K) ∧ Still wr wx) (fun _ j _ => n - (intOf j).toNat)
      case atStart => exact ⟨0, Nat.zero_le _, rfl, rfl, Touch.refl _ _⟩
      case round =>
        obtain ⟨q, hq, rfl, rfl, ht⟩ := hrel
        have HT := Lib.hid ht; clear ht
        by_cases hql : q < n
        · obtain ⟨p, hp⟩ : ∃ p, W[q]? = some p := ⟨W[q]'(by rw [HN.out]; exact hql), by simp⟩
          obtain ⟨g4, hg4, hog, x0, x1, _⟩ := HVW.out q p hp
          have lg4 := HR.out.list.lt g4 hog
          have x0 := (HT.out.cell (p := ⟨g4, _, none⟩) lg4 (fun h => h)).trans x0
          have HH := Lib.hid (has_take_succ W q p K hp); clear hp hog x1
          subst hg4
          cases hpk : (p.1 == K)
          all_goals
            rw [hpk] at HH
            go_wp2_with fail
            go_roundw
            case rel =>
              refine ⟨q + 1, by omega, by go_num, ?_, HT.out⟩
              rw [HH.out]
              simp
            case measure => simp [intOf]; omega
        · have HE : Hid (W.take q = W) := List.take_of_length_le (by have := HN.out; omega)
          rw [HE.out]
          cases hdo : (bits BinOp.and IntKind.i64 x.d 3 != 0)
          · have HRx := Lib.hid (show OrdR w _ b T W _ k from ⟨HR.out.sep.still HT.out, HR.out.list.still HT.out, HR.out.eq, HR.out.plain⟩)
            obtain ⟨c0, c1, c2, c3⟩ := HCC.out _ HRx.out.sep.touch
            have HPD := Lib.hid (plain_del HRx.out.plain HRx.out.sep.ok K)
            have HFE := Lib.hid HPD.out.2.2
            rw [← HR.out.eq] at HFE
            have h15 := delete_sep HRx.out.sep HRx.out.list.lt (by have := HRx.out.plain.next; omega) HKW.out
            rw [HPD.out.1, ← HR.out.eq] at h15
            have H15 := Lib.hid h15; clear h15
            generalize has W K = hh at *
            go_wp2_with fail
            refine H15.out.mono ?_
            rintro e w2 ⟨rfl, hsep, happ⟩
            have HL2 := Lib.hid (HRx.out.list.apart happ (fun _ h => h))
            have HS2 := Lib.hid hsep
            clear hsep happ
            cases hh
            all_goals
              go_wp2_with fail
              go_loopw [7, 13] (fun u7 j wx => ∃ q : Nat, q ≤ n ∧ j = .int .i64 q ∧ Hid (Lst w wx u7 ((W.take q).filter (fun p => p.1 != K))) ∧ Hid (Lst w wx (.slice aw n capw) W) ∧ Hid (Sep w wx b (T.del K).1 (fun k => ownOf (.slice aw n capw) k ∨ ownOf u7 k)) ∧ Hid (∀ k, ownOf u7 k → ¬ ownOf (.slice aw n capw) k)) (fun _ j _ => n - (intOf j).toNat)
              case atStart => exact ⟨0, Nat.zero_le _, rfl, Lst.nil _ _, HL2.out, HS2.out.less (fun k hk => by rcases hk with h | h; exact h; cases h), fun k hk => by cases hk⟩
              case round =>
                obtain ⟨q, hq, rfl, HL3, HL4, HS3, HD3⟩ := hrel
                by_cases hql : q < n
                · obtain ⟨p, hp⟩ : ∃ p, W[q]? = some p := ⟨W[q]'(by rw [HN.out]; exact hql), by simp⟩
                  have HFS := Lib.hid (filter_step hp (fun p => p.1 != K))
                  obtain ⟨aw', capw', e1, _, hvv⟩ := HL4.out.view
                  obtain ⟨g4, hg4, hog, x0, x1, z1⟩ := hvv q p hp
                  have lg4 := HL4.out.lt g4 hog
                  simp only [Value.slice.injEq] at e1
                  obtain ⟨rfl, -, rfl⟩ := e1
                  clear hvv hp hog
                  subst hg4
                  have hfl : ((W.take q).filter (fun p => p.1 != K)).length ≤ 300 := Nat.le_trans (List.length_filter_le _ _) (by rw [List.length_take]; omega)
                  have HOW := Lib.hid HL3.out.own
                  generalize hfn : ((W.take q).filter (fun p => p.1 != K)).length = m at *
                  have HFN := Lib.hid hfn; clear hfn
                  have hm63 : m + 1 ≤ maxLen := by unfold maxLen; omega
                  cases hpk : (p.1 != K)
                  · go_wp2_with fail
                    go_roundw
                    case rel =>
                      refine ⟨q + 1, by omega, by go_num, ?_, HL4.out, HS3.out, HD3.out⟩
                      show Lst _ _ _ _
                      rw [HFS.out, hpk]
                      simpa using HL3.out
                    case measure => simp [intOf]; omega
                  · go_wp2_with (at_builtin; refine wpList_append_lies _ rfl (.tmp 127) (.tmp 132) 34 rfl 0 37 i0 (.agg #[.int .i64 0, .int .i64 0]) 2 16 Try.underlying34 HI.out hz0 hz1 hz2 rfl (by decide) _ _ _ rfl (HOW.out.alloc _) ⟨_, 0, none⟩ 1 1 [.int .i64 p.1, .int .i64 p.2] rfl rfl (World.news_of_block (heap_alloc_new _ _)) ?c2 ?c3 ?c4 ?c5 (Nat.zero_le _) _ rfl ?_)
                    case c2 => intro u hu; simp at hu; rcases hu with rfl | rfl <;> rfl
                    case c3 => decide
                    case c4 => exact hm63
                    case c5 => omega
                    intro g6 cap6 w6 hown hgrow hat hlt6
                    obtain ⟨q1, q2, q3⟩ := HL3.out.grow HFN.out HS3.out.touch.size hown hgrow hat
                    have HL6 : Hid (Lst w w6 (.slice (some ⟨g6, 0, none⟩) (m + 1) cap6) ((W.take (q + 1)).filter (fun p => p.1 != K))) := by
                      show Lst _ _ _ _
                      rw [HFS.out, hpk]; exact q1
                    have HL7 := Lib.hid (HL4.out.touch q2 (fun i hi ho => HD3.out i ho hi))
                    have HS6 : Hid (Sep w w6 b (T.del K).1 (fun k => ownOf (.slice (some ⟨g4, 0, none⟩) n capw) k ∨ ownOf (.slice (some ⟨g6, 0, none⟩) (m + 1) cap6) k)) :=
                      HS3.out.other q2 (fun i hi => ⟨.inr hi, HL3.out.new i hi⟩) (fun i hi => by
                        rcases hi with h | h
                        · exact .inl (.inl h)
                        · rcases q3 i h with h | h
                          · exact .inl (.inr h)
                          · exact .inr h)
                    have HD6 : Hid (∀ k, ownOf (.slice (some ⟨g6, 0, none⟩) (m + 1) cap6) k → ¬ ownOf (.slice (some ⟨g4, 0, none⟩) n capw) k) := by
                      intro i hi hj
                      rcases q3 i hi with h | h
                      · exact HD3.out i h hj
                      · have := HL4.out.lt i hj; omega
                    clear hown hgrow hat q1 q2 q3
                    go_wp2_with fail
                    go_roundw
                    case rel => exact ⟨q + 1, by omega, by go_num, HL6.out, HL7.out, HS6.out, HD6.out⟩
                    case measure => simp [intOf]; omega
                · have HE2 : Hid ((W.take q).filter (fun p => p.1 != K) = pairsOf (T.del K).1.rows) := by
                    show _ = _
                    rw [List.take_of_length_le (by have := HN.out; omega), HFE.out]
                  have HQ : Hid (OrdR w _ b (T.del K).1 ((W.take q).filter (fun p => p.1 != K)) _ (k + 1)) := ⟨HS3.out.less (fun i hi => .inr hi), HL3.out, HE2.out, HPD.out.2.1⟩
                  go_wp2_with fail
                  go_roundw
                  case rel => exact ⟨k + 1, _, _, by omega, by go_num, HQ.out⟩
                  case measure => simp [intOf]; omega
          · have HRx := Lib.hid (show OrdR w _ b T W _ k from ⟨HR.out.sep.still HT.out, HR.out.list.still HT.out, HR.out.eq, HR.out.plain⟩)
            obtain ⟨c0, c1, c2, c3⟩ := HCC.out _ HRx.out.sep.touch
            have HPP := Lib.hid (plain_put HRx.out.plain HRx.out.sep.ok (by omega) K x.b)
            have h13 := put_sep HRx.out.sep HRx.out.list.lt (by have := HRx.out.plain.next; omega) (by rw [HRx.out.plain.walks]; decide) HKW.out x.b
            rw [HPP.out.1] at h13
            have H13 := Lib.hid h13; clear h13
            go_wp2_with fail
            refine H13.out.mono ?_
            rintro e w2 ⟨rfl, hsep, happ⟩
            have HL2 := Lib.hid (HRx.out.list.apart happ (fun _ h => h))
            have HS2 := Lib.hid hsep
            have HSt := Lib.hid (hsep.touch)
            clear hsep happ
            go_wp2_with fail
            go_loopw [10] (fun j wx => ∃ q : Nat, q ≤ n ∧ j = .int .i64 q ∧ Hid (Lst w wx (.slice aw n capw) ((W.take q).map (upd K x.b) ++ W.drop q)) ∧ Hid (Sep w wx b (T.put K x.b).1 (ownOf (.slice aw n capw)))) (fun j _ => n - (intOf j).toNat)
            case atStart => exact ⟨0, Nat.zero_le _, rfl, by have h := HL2.out; show Lst w w2 _ _; simpa using h, HS2.out⟩
            case round =>
              obtain ⟨q, hq, rfl, HL3, HS3⟩ := hrel
              by_cases hql : q < n
              · obtain ⟨p, hp⟩ : ∃ p, W[q]? = some p := ⟨W[q]'(by rw [HN.out]; exact hql), by simp⟩
                obtain ⟨us1, us2⟩ := upd_step hp (upd K x.b)
                obtain ⟨aw', capw', e1, _, hvv⟩ := HL3.out.view
                obtain ⟨g4, hg4, hog, x0, x1, z1⟩ := hvv q p us1
                have lg4 := HL3.out.lt g4 hog
                simp only [Value.slice.injEq] at e1
                obtain ⟨rfl, -, rfl⟩ := e1
                have HUS := Lib.hid us2
                have HU1 := Lib.hid us1
                have HOG := Lib.hid hog
                clear us1 us2 hvv hp hog
                subst hg4
                obtain ⟨c0, c1, c2, c3⟩ := HCC.out _ HS3.out.touch
                cases hpk : (p.1 == K)
                · have HF : Hid (upd K x.b p = p) := by
                    show _ = _
                    rw [upd, if_neg (by simpa using hpk)]
                  go_wp2_with fail
                  go_roundw
                  case rel =>
                    refine ⟨q + 1, by omega, by go_num, ?_, HS3.out⟩
                    rw [← HUS.out, HF.out, set_same HU1.out]
                    exact HL3.out
                  case measure => simp [intOf]; omega
                · have HF : Hid (upd K x.b p = (p.1, x.b)) := by
                    show _ = _
                    rw [upd, if_pos (by simpa using hpk)]
                  go_wp2_with fail
                  go_region
                  go_wp2_with fail
                  go_roundw
                  case rel =>
                    refine ⟨q + 1, by omega, by go_num, ?_, ?_⟩
                    · rw [← HUS.out, HF.out]
                      exact (HL3.out.still ((Touch.refl _ _).drew)).set HOG.out HU1.out x.b
                    · exact (HS3.out.still ((Touch.refl _ _).drew)).other (touch_setCell _ _ _) (fun k hk => by rw [hk]; exact ⟨HOG.out, HL3.out.new _ HOG.out⟩) (fun k hk => .inl hk)
                  case measure => simp [intOf]; omega
              · have HE2 : Hid ((W.take q).map (upd K x.b) ++ W.drop q = W.map (upd K x.b)) := by
                  show _ = _
                  rw [List.take_of_length_le (by have := HN.out; omega), List.drop_of_length_le (by have := HN.out; omega), List.append_nil]
                rw [HE2.out] at HL3
                have HPE := Lib.hid HPP.out.2.2
                rw [← HR.out.eq] at HPE
                obtain ⟨c0, c1, c2, c3⟩ := HCC.out _ HS3.out.touch
                obtain ⟨wx, hwx⟩ : ∃ wx', wx' = wr := ⟨_, rfl⟩
                cases hhs : has W K
                · rw [hhs] at HPE
                  have hlm : (W.map (upd K x.b)).length = n := by rw [List.length_map]; exact HN.out
                  have HLM := Lib.hid hlm
                  have HOW := HL3.out.own
                  rw [hlm] at HOW
                  have HOW := Lib.hid HOW
                  clear hlm hwx
                  go_wp2_with (at_builtin; refine wpList_append_lies _ rfl (.tmp 86) (.tmp 94) 34 rfl 0 37 i0 (.agg #[.int .i64 0, .int .i64 0]) 2 16 Try.underlying34 HI.out hz0 hz1 hz2 rfl (by decide) _ _ _ rfl (HOW.out.alloc _) ⟨_, 0, none⟩ 1 1 [.int .i64 K, .int .i64 x.b] rfl rfl (World.news_of_block (heap_alloc_new _ _)) ?c2 ?c3 ?c4 ?c5 (Nat.zero_le _) _ rfl ?_)
                  case c2 => intro u hu; simp at hu; rcases hu with rfl | rfl <;> rfl
                  case c3 => decide
                  case c4 => unfold maxLen; omega
                  case c5 => omega
                  intro g4 cap4 w4 hown hgrow hat hlt4
                  obtain ⟨q1, q2, q3⟩ := HL3.out.grow HLM.out HS3.out.touch.size hown hgrow hat
                  have HQ : Hid (OrdR w w4 b (T.put K x.b).1 (W.map (upd K x.b) ++ [(K, x.b)]) (.slice (some ⟨g4, 0, none⟩) (n + 1) cap4) (k + 1)) :=
                    ⟨HS3.out.other q2 (fun i hi => ⟨hi, HL3.out.new i hi⟩) q3, q1, HPE.out.symm, HPP.out.2.1⟩
                  clear hown hgrow hat q1 q2 q3
                  go_wp2_with fail
                  go_roundw
                  case rel => exact ⟨k + 1, _, _, by omega, by go_num, HQ.out⟩
                  case measure => simp [intOf]; omega
                · rw [hhs] at HPE
                  go_wp2_with fail
                  go_roundw
                  case rel => exact ⟨k + 1, (T.put K x.b).1, W.map (upd K x.b), by omega, by go_num, ⟨HS3.out, HL3.out, HPE.out.symm, HPP.out.2.1⟩⟩
                  case measure => simp [intOf]; omega
    · have HL2 := Lib.hid HR.out.list
      have HLL := Lib.hid HR.out.len
      have HEQ := Lib.hid HR.out.eq
      have h19 := Lib.hid (rows_sep HR.out.sep)
      have HTT := Lib.hid HR.out.sep.touch
      have h3 : ¬ k < ds.length ∨ (k < ds.length ∧ ¬ k < 300) := by omega
      clear hlt
      rcases h3 with hl3 | ⟨hl3, hl4⟩
      all_goals
        go_wp2_with fail
        refine h19.out.mono ?_
        rintro e w2 ⟨u, rfl, hp, hs⟩
        have HP := Lib.hid hp; have HS := Lib.hid hs; clear hp hs
        go_wp2_with fail
        refine (f18_any HP.out (pairs_of_owns (HL2.out.still HS.out).own) ?p1 ?p2).mono ?_
        case p1 => rw [← HEQ.out]; have := HLL.out; omega
        case p2 => have := HLL.out; omega
        rintro e w3 ⟨rfl, hs⟩
        have HS3 := Lib.hid hs; clear hs
        have HDD : Hid (decide (pairsOf T.rows = W) = true) := by show _ = _; rw [HEQ.out]; simp
        rw [HDD.out]
        go_wp2_with fail
        refine (sane_any _).mono ?_
        rintro e w4 ⟨rfl, hs⟩
        have HS4 := Lib.hid hs; clear hs
        go_wp2_with fail
        go_ret
        exact ⟨rfl, ((HTT.out.then HS.out).then HS3.out).then HS4.out⟩

end Go.Proofs.Ytombofldebmaoaa
