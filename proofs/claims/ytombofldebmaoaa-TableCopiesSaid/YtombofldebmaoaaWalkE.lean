/-
  slices.Equal at pairs; Rows: the rows as a new slice of pairs; Same.
-/
import Derived.Test.YtombofldebmaoaaWalkD
namespace Go.Proofs.Ytombofldebmaoaa
open Go.RowKit
set_option linter.unusedVariables false

/-- slices.Equal at pairs. -/
theorem f66_any {w : World} {u v : Value} {ps qs : List P2} (hp : Pairs w u ps) (hq : Pairs w v qs) (hl : ps.length < 1099511627776) (hl2 : qs.length < 1099511627776) :
    Calls Try.prog 66 #[u, v] w fun e w' => e = .returned (.bool (decide (ps = qs))) ∧ Still w w' := by
  obtain ⟨a1, cap1, rfl, hc1, hv1⟩ := hp.view
  obtain ⟨a2, cap2, rfl, hc2, hv2⟩ := hq.view
  have H1 := Lib.hid hv1
  have H2 := Lib.hid hv2
  clear hv1 hv2 hp hq
  by_cases hlen : ps.length = qs.length
  · have HL := Lib.hid hlen
    have hb : ((ps.length : Int) != qs.length) = false := by simp [hlen]
    clear hlen
    go_enter Try.func66, Try.ntmps66
    go_wp2
    go_loopw [13] (fun i wr => ∃ k : Nat, k ≤ ps.length ∧ i = .int .i64 k ∧ ps.take k = qs.take k ∧ Still w wr) (fun i _ => ps.length - (intOf i).toNat)
    case atStart => exact ⟨0, Nat.zero_le _, rfl, by simp, Touch.refl _ _⟩
    case round =>
      obtain ⟨k, hk, rfl, hkk, ht⟩ := hrel
      have HK := Lib.hid hkk; clear hkk
      have HT := Lib.hid ht; clear ht
      by_cases hlt : k < ps.length
      · obtain ⟨p, hp⟩ : ∃ p, ps[k]? = some p := ⟨ps[k], by simp [hlt]⟩
        obtain ⟨q, hq⟩ : ∃ q, qs[k]? = some q := ⟨qs[k]'(by rw [← HL.out]; exact hlt), by simp [← HL.out, hlt]⟩
        obtain ⟨g1, o1, e1, hg1, x1, y1⟩ := H1.out k p hp
        obtain ⟨g2, o2, e2, hg2, x2, y2⟩ := H2.out k q hq
        have x1 := (HT.out.cell (p := ⟨g1, _, none⟩) hg1 (by simp)).trans x1
        have y1 := (HT.out.cell (p := ⟨g1, _, none⟩) hg1 (by simp)).trans y1
        have x2 := (HT.out.cell (p := ⟨g2, _, none⟩) hg2 (by simp)).trans x2
        have y2 := (HT.out.cell (p := ⟨g2, _, none⟩) hg2 (by simp)).trans y2
        have HP := Lib.hid hp; have HQ := Lib.hid hq; clear hp hq
        have hlq : k < qs.length := by have := HL.out; omega
        subst e1; subst e2
        have he := eq37 p.1 p.2 q.1 q.2 wr.drew
        by_cases hpq : p = q
        · have HE : Hid (ps.take (k + 1) = qs.take (k + 1)) := by
            show _ = _
            rw [List.take_add_one, List.take_add_one, HK.out, HP.out, HQ.out, hpq]
          have hbq : (p.1 == q.1 && p.2 == q.2) = true := by simp [hpq]
          rw [hbq] at he
          clear hpq hbq
          go_wp2
          go_region
          go_wp2
          go_roundw
          case rel => exact ⟨k + 1, by omega, by go_num, HE.out, HT.out.drew⟩
          case measure => simp [intOf]; omega
        · have HD : Hid (decide (ps = qs) = false) := by
            show _ = _
            simp only [decide_eq_false_iff_not]
            intro h
            have h1 := HP.out
            rw [h, HQ.out] at h1
            exact hpq (Option.some.inj h1).symm
          have hbq : (p.1 == q.1 && p.2 == q.2) = false := by
            rw [Bool.eq_false_iff]
            intro h
            simp only [Bool.and_eq_true, beq_iff_eq] at h
            exact hpq (Prod.ext h.1 h.2)
          rw [hbq] at he
          clear hpq hbq
          go_wp2
          go_region
          go_wp2
          go_ret
          rw [HD.out]
          exact ⟨rfl, HT.out.drew⟩
      · have HE : Hid (ps = qs) := by
          have h1 := HK.out
          rwa [List.take_of_length_le (by omega), List.take_of_length_le (by have := HL.out; omega)] at h1
        go_wp2
        go_ret
        rw [show decide (ps = qs) = true by simp [HE.out]]
        exact ⟨rfl, HT.out⟩
  · have hb : ((ps.length : Int) != qs.length) = true := by simp; omega
    have hd : decide (ps = qs) = false := by simp; exact fun h => hlen (by rw [h])
    rw [hd]
    clear hlen
    go_enter Try.func66, Try.ntmps66
    go_wp2
    go_ret
    exact ⟨rfl, Touch.refl _ _⟩


def pairsOf (rs : List R3) : List P2 := rs.map (fun r => (r.1, r.2.1))

theorem info37 : (Try.prog.info? 37).map (fun i => (i.zero, i.size, i.bytes)) = some (some (.agg #[.int .i64 0, .int .i64 0]), 2, 16) := by kernel_rfl

theorem new2 (w : World) (A B : Obj) : ((w.alloc A).alloc B).heap[w.heap.size + 1]? = some B := by
  have := heap_alloc_new (w.alloc A) B
  simpa using this

theorem cellsAt {w : World} {g : Nat} {cs : List Value} {e : TypeId} (h : w.heap[g]? = some (.cells cs.toArray e (0, 0))) : ∀ j u, cs[j]? = some u → w.cell? ((⟨g, 0, none⟩ : Addr).add j) = some u := by
  intro j u hu
  rw [Addr.add_lit, cell_of_row w g _ cs.toArray e (0, 0) h]
  simpa using hu

theorem owns_base {w : World} {B : Nat} {e : TypeId} {size n : Nat} {v : Value} {xs : List Value} (h : w.ownsRow B e size v n xs) : w.ownsRow 0 e size v n xs ∧ ∀ g o l c, v = .slice (some ⟨g, o, none⟩) l c → B ≤ g := by
  rcases h.2 with ⟨rfl, rfl⟩ | ⟨g, cap, cur, rfl, hb, rest⟩
  · exact ⟨⟨h.1, .inl ⟨rfl, rfl⟩⟩, by intro g o l c h; simp at h⟩
  · refine ⟨⟨h.1, .inr ⟨g, cap, cur, rfl, Nat.zero_le _, rest⟩⟩, ?_⟩
    intro g' o l c h
    cases h
    exact hb

/-- What Rows gives: a new slice that holds the pairs. -/
def NewPairs (w : World) (ps : List P2) (e : Ending) (w' : World) : Prop :=
  ∃ v, e = .returned v ∧ Pairs w' v ps ∧ (∀ g o l c, v = .slice (some ⟨g, o, none⟩) l c → w.heap.size ≤ g) ∧ Still w w'

theorem f19_nil (w : World) : Calls Try.prog 19 #[.pointer none] w (NewPairs w []) := by
  have H44 := Lib.hid (f44_nil w)
  go_enter Try.func19, Try.ntmps19
  go_wp2_with (go_at_call 44; refine H44.out.mono ?_; rintro e w' ⟨rfl, rfl⟩)
  go_ret
  exact ⟨_, rfl, ⟨none, 0, rfl, Nat.le_refl _, by intro i p h; simp at h⟩, by intro g o l c h; simp at h, Touch.refl _ _⟩

theorem f19_tab {w : World} {F : Nat → Prop} {b : Nat} {T : PT} (h : Tab w F b T) :
    Calls Try.prog 19 #[.pointer (some ⟨b, 0, none⟩)] w (NewPairs w (pairsOf T.rows)) := by
  have H44 := Lib.hid (f44_tab h)
  obtain ⟨rv, m, kv, h⟩ := h
  have h1 := h.c1
  have hfew := h.ok.few
  have HF := Lib.hid h.lt
  obtain ⟨ao, cap, rfl, hcap, hv⟩ := h.viewR
  have HV := Lib.hid hv
  clear h hv
  generalize T.rows = rs at *
  obtain ⟨i0, hi, hz0, hz1, hz2⟩ := info_parts info37
  have HI := Lib.hid hi; clear hi
  go_enter Try.func19, Try.ntmps19
  go_wp2_with (go_at_call 44; refine H44.out.mono ?_; rintro e w' ⟨rfl, rfl⟩)
  go_loopw [3, 13] (fun v i wr => ∃ k : Nat, k ≤ rs.length ∧ i = .int .i64 k ∧ wr.ownsRow w.heap.size 37 2 v k (pairsCells ((pairsOf rs).take k)) ∧ Still w wr) (fun _ i _ => rs.length - (intOf i).toNat)
  case atStart => exact ⟨0, Nat.zero_le _, rfl, World.ownsRow_nil _ _ _ _, Touch.refl _ _⟩
  case round =>
    obtain ⟨k, hk, rfl, hown, ht⟩ := hrel
    have HO := Lib.hid hown; clear hown
    have HT := Lib.hid ht; clear ht
    by_cases hlt : k < rs.length
    · obtain ⟨r, hr⟩ : ∃ r, rs[k]? = some r := ⟨rs[k], by simp [hlt]⟩
      obtain ⟨g, hg, hF, ⟨x0, x1, x2⟩, _⟩ := HV.out k r hr
      have hb := HF.out g hF
      have x0 := (HT.out.cell (p := ⟨g, _, none⟩) hb (by simp)).trans x0
      have x1 := (HT.out.cell (p := ⟨g, _, none⟩) hb (by simp)).trans x1
      have x2 := (HT.out.cell (p := ⟨g, _, none⟩) hb (by simp)).trans x2
      have HR := Lib.hid hr; clear hr
      have hsz := HT.out.size
      subst hg
      go_wp2_with (at_builtin; refine wpList_append_own _ rfl (.tmp 17) (.tmp 23) 34 rfl w.heap.size 37 i0 (.agg #[.int .i64 0, .int .i64 0]) 2 16 Try.underlying34 HI.out hz0 hz1 hz2 rfl (by decide) _ _ _ rfl ((HO.out.alloc _).alloc _) ⟨wr.heap.size + 1, 0, none⟩ 1 1 [.int .i64 r.1, .int .i64 r.2.1] rfl rfl ?c1 ?c2 ?c3 ?c4 ?c5 ?_)
      case c1 => exact cellsAt (new2 _ _ _)
      case c2 => intro u hu; simp at hu; rcases hu with rfl | rfl <;> rfl
      case c3 => unfold maxLen; omega
      case c4 => omega
      case c5 => simp; omega
      intro v' w1 hown' hgrow _
      have HR1 : Hid (wr.heap.size ≤ w1.heap.size ∧ Still w w1 ∧ w1.ownsRow w.heap.size 37 2 v' (k + 1) (pairsCells ((pairsOf rs).take (k + 1)))) := by
        refine ⟨?_, ?_, ?_⟩
        · have := hgrow.size; simp at this; omega
        · exact ((HT.out.alloc _).alloc _).grown hgrow (fun i hi => .inr (HO.out.lt i hi).1)
        · have e : (pairsOf rs).take (k + 1) = (pairsOf rs).take k ++ [(r.1, r.2.1)] := by
            rw [List.take_add_one]
            simp [pairsOf, HR.out]
          rw [e, pairsCells_append]
          exact hown'
      clear hown' hgrow
      go_wp2
      go_roundw
      case rel => exact ⟨k + 1, by omega, by go_num, HR1.out.2.2, HR1.out.2.1⟩
      case measure => simp [intOf]; omega
    · obtain rfl : k = rs.length := by omega
      go_wp2
      go_ret
      have e : (pairsOf rs).take rs.length = pairsOf rs := List.take_of_length_le (by simp [pairsOf])
      have ho := HO.out
      rw [e] at ho
      obtain ⟨h1, h2⟩ := owns_base ho
      have e2 : (pairsOf rs).length = rs.length := by simp [pairsOf]
      exact ⟨_, rfl, pairs_of_owns (by rw [e2]; exact h1), h2, HT.out⟩

/-- Same. -/
theorem f34_any {w : World} {p q : Value} {ps qs : List P2} (hp : ∀ w', Still w w' → Calls Try.prog 19 #[p] w' (NewPairs w' ps)) (hq : ∀ w', Still w w' → Calls Try.prog 19 #[q] w' (NewPairs w' qs)) (hl : ps.length < 1099511627776) (hl2 : qs.length < 1099511627776) :
    Calls Try.prog 34 #[p, q] w fun e w' => e = .returned (.bool (decide (ps = qs))) ∧ Still w w' := by
  have HP := Lib.hid hp; clear hp
  have HQ := Lib.hid hq; clear hq
  go_enter Try.func34, Try.ntmps34
  go_wp2_with fail
  refine (HP.out _ (Touch.refl _ _)).mono ?_
  rintro e w1 ⟨v1, rfl, p1, n1, t1⟩
  have HT := Lib.hid t1; clear t1
  have HP1 := Lib.hid p1; clear p1
  have HN1 := Lib.hid n1; clear n1
  go_wp2_with fail
  refine (HQ.out _ HT.out).mono ?_
  rintro e w2 ⟨v2, rfl, p2, n2, t2⟩
  have HT2 := Lib.hid t2; clear t2
  have HP2 := Lib.hid p2; clear p2
  have HN2 := Lib.hid n2; clear n2
  go_wp2_with fail
  refine (f66_any (HP1.out.still HT2.out) HP2.out hl hl2).mono ?_
  rintro e w3 ⟨rfl, t3⟩
  have HT3 := Lib.hid t3; clear t3
  go_wp2_with fail
  go_ret
  exact ⟨rfl, (HT.out.then HT2.out).then HT3.out⟩

end Go.Proofs.Ytombofldebmaoaa
