/-
  The document's Split. (Printed by wip/tools/rsplit07.py.)
-/
import Derived.Test.YtlgpilcjcomacaaGreatJb
namespace Go.Proofs.YtlgpilcjcomacaaGreat
open Go.RowKit Rx
set_option linter.unusedVariables false

/-- Where the last match ended, and where the next one may begin. -/
def LastOK (lv : Int) (p k : Nat) : Prop := (lv = -1 ∧ p = 0) ∨ ∃ q : Nat, lv = (q : Int) ∧ p ≤ q ∧ q ≤ k ∧ (p = q ∨ q < k)
theorem LastOK.same {lv : Int} {p k i : Nat} (h : LastOK lv p k) (hi : k ≤ i) : (i = p ↔ ((i : Int) = lv ∨ i = 0)) ∨ False := by
  left
  rcases h with ⟨rfl, rfl⟩ | ⟨q, rfl, h1, h2, h3⟩
  · constructor
    · intro h; exact .inr h
    · rintro (h | h)
      · omega
      · exact h
  · constructor
    · intro h; left; rcases h3 with h3 | h3 <;> omega
    · rintro (h | h)
      · rcases h3 with h3 | h3 <;> omega
      · omega
theorem nextJ_empty {g : Grp} {i : Nat} (h : g 0 = ((i : Int), (i : Int))) : nextJ g = i + 1 := by unfold nextJ; rw [h]; simp

set_option maxRecDepth 100000 in
set_option maxHeartbeats 8000000 in
theorem rsplit_any (s t : ByteArray) (bu : Int) (w : World) :
    Calls Tryz.prog 17 #[.string s, .string t, .int .i64 bu] w (SplitP t w (allV t bu (readP (str s)))) := by
  have h0 := every_any s t bu w
  have HGOT := Lib.hid (fun G l (h : allV t bu (readP (str s)) = .got G l) => allV_got h)
  have HERR := Lib.hid (fun c (h : allV t bu (readP (str s)) = .err c) => allV_err h)
  generalize allV t bu (readP (str s)) = rr at h0 HGOT HERR ⊢
  have HA := Lib.hid h0
  clear h0
  go_enter Tryz.func17, Tryz.ntmps17
  go_wp2_with fail
  refine HA.out.mono ?_
  intro e w1 hG
  clear HA
  cases rr with
  | err c =>
    obtain ⟨rfl, ht⟩ := hG
    have HT := Lib.hid ht
    have hc0 : (c != 0) = true := by have := HERR.out c rfl; simp; exact this
    clear ht
    go_wp2_with fail
    go_ret2
    exact ⟨rfl, HT.out⟩
  | got G l =>
    obtain ⟨x, cp, rfl, hcp, hrow, -, ht⟩ := hG
    obtain ⟨hts, hch, hl5⟩ := HGOT.out G l rfl
    have HROW := Lib.hid hrow
    have HCH := Lib.hid hch
    have HTW := Lib.hid ht
    clear hrow hch ht
    obtain ⟨i0, hinfo, hz0, hz1, hz2⟩ := info_parts infoS
    have HI := Lib.hid hinfo
    have HZ := Lib.hid (And.intro hz0 (And.intro hz1 hz2))
    clear hinfo hz0 hz1 hz2
    go_wp2_with fail
    go_loopw [10, 11, 12, 13] (fun ov av lv jv wr => ∃ (j p k : Nat) (la : Int) (d : List (List UInt8)) (ox : Option Addr) (oc : Nat), ov = .slice ox d.length oc ∧ av = .int .i64 (p : Int) ∧ lv = .int .i64 la ∧ jv = .int .i64 (j : Int) ∧ j ≤ l.length ∧ d.length ≤ j ∧ p ≤ k ∧ p ≤ t.size ∧ Hid (LastOK la p k) ∧ Hid (wr.ownsRow w1.heap.size 9 1 (.slice ox d.length oc) d.length (strs d)) ∧ Hid (Still w1 wr) ∧ Hid (Chain t.size G k (l.drop j)) ∧ Hid (splitR (str t) 0 l = d ++ splitR (str t) p (l.drop j))) (fun _ _ _ jv _ => l.length - (intOf jv).toNat)
    case atStart => exact ⟨0, 0, 0, -1, [], none, 0, rfl, rfl, rfl, rfl, Nat.zero_le _, Nat.le_refl _, Nat.le_refl _, Nat.zero_le _, Lib.hid (.inl ⟨rfl, rfl⟩), Lib.hid (World.ownsRow_nil _ _ _ _), Lib.hid (Touch.refl _ _), HCH, Lib.hid rfl⟩
    case round =>
      clear HCH
      obtain ⟨j, p, k, la, d, ox, oc, rfl, rfl, rfl, rfl, hj, hd, hpk, hpt, HLA, HO, HT, HC, HE⟩ := hrel
      have HWS := Lib.hid HT.out.size
      by_cases hlt : j < l.length
      · have q1 : decide ((j : Int) < (l.length : Int)) = true := decide_eq_true (by omega)
        have q1n : decide (j < l.length) = true := decide_eq_true hlt
        have hji : (j : Int) < (l.length : Int) := by omega
        have wj := IntWalk.i64_in ((j : Int) + 1) (by omega)
        obtain ⟨g, hg⟩ : ∃ g, l[j]? = some g := ⟨_, List.getElem?_eq_getElem hlt⟩
        have hdr : l.drop j = g :: l.drop (j + 1) := by
          rw [List.drop_eq_getElem_cons hlt]
          rw [List.getElem?_eq_getElem hlt] at hg
          rw [Option.some.inj hg]
        have hc := HC.out
        rw [hdr] at hc
        obtain ⟨⟨x1, hma⟩, hc2⟩ := hc
        have HNJ := Lib.hid (nextJ_lt hma)
        obtain ⟨⟨i, hi1, hi2, hi3, hi4⟩, -⟩ := hma
        obtain ⟨b, hx, hcells⟩ := HROW.out j g hg
        subst hx
        have p0 : wr.cell? ⟨b, j * 20, none⟩ = some (.int .i64 (i : Int)) := by have h1 := HT.out.has (hcells 0 (by decide)) id; rw [gv_zero, hi4] at h1; exact h1
        have p1 : wr.cell? ⟨b, j * 20 + 1, none⟩ = some (.int .i64 (x1 : Int)) := by have h1 := HT.out.has (hcells 1 (by decide)) id; rw [gv_one, hi4] at h1; exact h1
        have HC2 := Lib.hid hc2
        have HSM := Lib.hid ((HLA.out.same hi1).resolve_right id)
        have HEM : Hid (i = x1 → nextJ g = x1 + 1) := Lib.hid (fun e => nextJ_empty (by rw [hi4, e]))
        have HPI : Hid (p ≤ i) := Lib.hid (by omega)
        have HDR : Hid (splitR (str t) p (l.drop j) = if i = x1 ∧ (i = p ∨ i = t.size) then splitR (str t) p (l.drop (j + 1)) else cutS (str t) (p : Int) (i : Int) :: splitR (str t) x1 (l.drop (j + 1))) := Lib.hid (by
          rw [hdr]
          show (if (g 0).1 = (g 0).2 ∧ ((g 0).1 = (p : Int) ∨ (g 0).1 = ((str t).length : Int)) then splitR (str t) p (l.drop (j + 1)) else cutS (str t) (p : Int) (g 0).1 :: splitR (str t) (g 0).2.toNat (l.drop (j + 1))) = _
          rw [hi4, str_len]
          simp only [Int.toNat_natCast, Int.natCast_inj])
        have hti : ((i : Int)).toNat = i := by omega
        have hpi : (p : Int) ≤ (i : Int) := by omega
        have hit : (i : Int) ≤ (t.size : Int) := by omega
        clear hi4 hc2 hdr hg hcells
        have HOA : Hid ((wr.alloc (.cells #[.int .i64 (i : Int), .int .i64 (x1 : Int)] 39)).ownsRow w1.heap.size 9 1 (.slice ox d.length oc) d.length (strs d)) := Lib.hid (HO.out.alloc _)
        have HTA : Hid (Still w1 (wr.alloc (.cells #[.int .i64 (i : Int), .int .i64 (x1 : Int)] 39))) := Lib.hid (HT.out.alloc _)
        by_cases hix : i = x1
        · have q2 : ((i : Int) == (x1 : Int)) = true := by simp; omega
          by_cases hil : (i : Int) = la
          · have q3 : ((i : Int) != la) = false := by simp; exact hil
            have HQ : Hid (i = x1 ∧ (i = p ∨ i = t.size)) := Lib.hid ⟨hix, .inl (HSM.out.2 (.inl hil))⟩
            clear hix hil
            go_wp2_with fail
            go_roundw
            case rel => exact ⟨j + 1, p, nextJ g, (x1 : Int), d, ox, oc, rfl, rfl, rfl, by go_num, by omega, by omega, by have := HNJ.out; omega, by omega, Lib.hid (.inr ⟨x1, rfl, by have := HPI.out; have := HQ.out; omega, HNJ.out.2.1, .inr (by have h1 := HEM.out HQ.out.1; omega)⟩), HOA, HTA, HC2, Lib.hid (by rw [HE.out, HDR.out, if_pos HQ.out])⟩
            case measure => simp [intOf]; omega
          · have q3 : ((i : Int) != la) = true := by simp; exact hil
            by_cases hi0 : i = 0
            · have q4 : ((i : Int) != 0) = false := by simp; omega
              have HQ : Hid (i = x1 ∧ (i = p ∨ i = t.size)) := Lib.hid ⟨hix, .inl (HSM.out.2 (.inr hi0))⟩
              clear hix hil hi0
              go_wp2_with fail
              go_roundw
              case rel => exact ⟨j + 1, p, nextJ g, (x1 : Int), d, ox, oc, rfl, rfl, rfl, by go_num, by omega, by omega, by have := HNJ.out; omega, by omega, Lib.hid (.inr ⟨x1, rfl, by have := HPI.out; have := HQ.out; omega, HNJ.out.2.1, .inr (by have h1 := HEM.out HQ.out.1; omega)⟩), HOA, HTA, HC2, Lib.hid (by rw [HE.out, HDR.out, if_pos HQ.out])⟩
              case measure => simp [intOf]; omega
            · have q4 : ((i : Int) != 0) = true := by simp; omega
              by_cases hie : i = t.size
              · have q5 : ((i : Int) != (t.size : Int)) = false := by simp; omega
                have HQ : Hid (i = x1 ∧ (i = p ∨ i = t.size)) := Lib.hid ⟨hix, .inr hie⟩
                clear hix hil hi0 hie
                go_wp2_with fail
                go_roundw
                case rel => exact ⟨j + 1, p, nextJ g, (x1 : Int), d, ox, oc, rfl, rfl, rfl, by go_num, by omega, by omega, by have := HNJ.out; omega, by omega, Lib.hid (.inr ⟨x1, rfl, by have := HPI.out; have := HQ.out; omega, HNJ.out.2.1, .inr (by have h1 := HEM.out HQ.out.1; omega)⟩), HOA, HTA, HC2, Lib.hid (by rw [HE.out, HDR.out, if_pos HQ.out])⟩
                case measure => simp [intOf]; omega
              · have q5 : ((i : Int) != (t.size : Int)) = true := by simp; omega
                have HQ : Hid (¬ (i = x1 ∧ (i = p ∨ i = t.size))) := Lib.hid (fun h => h.2.elim (fun h => (HSM.out.1 h).elim hil hi0) hie)
                clear hix hil hi0 hie
                go_wp2_with (at_builtin; refine wpList_append_lies _ rfl (.tmp 62) (.tmp 68) 44 rfl w1.heap.size 9 i0 (.string ⟨#[]⟩) 1 16 Tryz.underlying44 HI.out HZ.out.1 HZ.out.2.1 HZ.out.2.2 rfl (by decide) _ _ _ rfl ((HO.out.alloc _).alloc _) ⟨wr.heap.size + 1, 0, none⟩ 1 1 [.string (t.extract p i)] rfl rfl (news1 (by simp [go_sem])) (by intro v hv; rw [List.mem_singleton.1 hv]; rfl) (by decide) (by unfold maxLen; omega) (by omega) (by have := HWS.out; simp; omega) _ rfl ?_; intro g' cp' w5 hown hgrow hat hlt'; have ht5 := grown_still HO.out HT.out (((Touch.refl (fun _ => False) wr).alloc _).alloc _) hgrow; have c1 := hgrow.cell_far ⟨wr.heap.size, 1, none⟩ (by simp; omega) (fun e => absurd (HO.out.lt _ e.symm).2 (Nat.lt_irrefl _)); have c1 : w5.cell? ⟨wr.heap.size, 1, none⟩ = some (.int .i64 (x1 : Int)) := (c1.trans (by simp [go_sem])); have HT5 := Lib.hid ht5; have HO5 := Lib.hid hown; clear hown hgrow hat hlt' ht5 p0 p1)
                go_roundw
                case rel => exact ⟨j + 1, x1, nextJ g, (x1 : Int), d ++ [cutS (str t) (p : Int) (i : Int)], some ⟨g', 0, none⟩, cp', by simp, rfl, rfl, by go_num, by omega, by simp; omega, HNJ.out.2.1, hi3, Lib.hid (.inr ⟨x1, rfl, Nat.le_refl _, HNJ.out.2.1, .inl rfl⟩), by rw [strs_snoc, List.length_append]; have h1 := HO5.out; rw [show t.extract p i = bs (cutS (str t) (p : Int) (i : Int)) by rw [← ext_cut]; rfl] at h1; exact Lib.hid h1, HT5, HC2, Lib.hid (by rw [HE.out, HDR.out, if_neg HQ.out]; simp)⟩
                case measure => simp [intOf]; omega
        · have q2 : ((i : Int) == (x1 : Int)) = false := by simp; omega
          have HQ : Hid (¬ (i = x1 ∧ (i = p ∨ i = t.size))) := Lib.hid (fun h => hix h.1)
          clear hix
          go_wp2_with (at_builtin; refine wpList_append_lies _ rfl (.tmp 62) (.tmp 68) 44 rfl w1.heap.size 9 i0 (.string ⟨#[]⟩) 1 16 Tryz.underlying44 HI.out HZ.out.1 HZ.out.2.1 HZ.out.2.2 rfl (by decide) _ _ _ rfl ((HO.out.alloc _).alloc _) ⟨wr.heap.size + 1, 0, none⟩ 1 1 [.string (t.extract p i)] rfl rfl (news1 (by simp [go_sem])) (by intro v hv; rw [List.mem_singleton.1 hv]; rfl) (by decide) (by unfold maxLen; omega) (by omega) (by have := HWS.out; simp; omega) _ rfl ?_; intro g' cp' w5 hown hgrow hat hlt'; have ht5 := grown_still HO.out HT.out (((Touch.refl (fun _ => False) wr).alloc _).alloc _) hgrow; have c1 := hgrow.cell_far ⟨wr.heap.size, 1, none⟩ (by simp; omega) (fun e => absurd (HO.out.lt _ e.symm).2 (Nat.lt_irrefl _)); have c1 : w5.cell? ⟨wr.heap.size, 1, none⟩ = some (.int .i64 (x1 : Int)) := (c1.trans (by simp [go_sem])); have HT5 := Lib.hid ht5; have HO5 := Lib.hid hown; clear hown hgrow hat hlt' ht5 p0 p1)
          go_roundw
          case rel => exact ⟨j + 1, x1, nextJ g, (x1 : Int), d ++ [cutS (str t) (p : Int) (i : Int)], some ⟨g', 0, none⟩, cp', by simp, rfl, rfl, by go_num, by omega, by simp; omega, HNJ.out.2.1, hi3, Lib.hid (.inr ⟨x1, rfl, Nat.le_refl _, HNJ.out.2.1, .inl rfl⟩), by rw [strs_snoc, List.length_append]; have h1 := HO5.out; rw [show t.extract p i = bs (cutS (str t) (p : Int) (i : Int)) by rw [← ext_cut]; rfl] at h1; exact Lib.hid h1, HT5, HC2, Lib.hid (by rw [HE.out, HDR.out, if_neg HQ.out]; simp)⟩
          case measure => simp [intOf]; omega
      · obtain rfl : j = l.length := by omega
        have q1 : decide ((l.length : Int) < (l.length : Int)) = false := decide_eq_false (by omega)
        have HEQ : Hid (splitR (str t) 0 l = d ++ [(str t).drop p]) := Lib.hid (by rw [HE.out, List.drop_length]; rfl)
        have hpt' : (p : Int) ≤ (t.size : Int) := by omega
        have hl1 := alloc_cell0 wr (.string (t.extract p t.size)) 9
        have HL1 := Lib.hid hl1
        clear hl1
        go_wp2_with (at_builtin; refine wpList_append_lies _ rfl (.tmp 74) (.tmp 78) 44 rfl w1.heap.size 9 i0 (.string ⟨#[]⟩) 1 16 Tryz.underlying44 HI.out HZ.out.1 HZ.out.2.1 HZ.out.2.2 rfl (by decide) _ _ _ rfl (HO.out.alloc _) ⟨wr.heap.size, 0, none⟩ 1 1 [.string (t.extract p t.size)] rfl rfl (news1 HL1.out) (by intro v hv; rw [List.mem_singleton.1 hv]; rfl) (by decide) (by unfold maxLen; omega) (by omega) (by have := HWS.out; simp; omega) _ rfl ?_; intro g' cp' w5 hown hgrow hat hlt'; have ht5 := grown_still HO.out HT.out ((Touch.refl (fun _ => False) wr).alloc _) hgrow; have HT5 := Lib.hid ht5; have HO5 := Lib.hid hown; clear hown hgrow hat hlt' ht5)
        go_ret2
        show ∃ x cp, _ ∧ _
        rw [HEQ.out]
        have h1 := HO5.out
        rw [show t.extract p t.size = bs ((str t).drop p) by rw [← str_ext_end]; rfl, ← strs_snoc] at h1
        have h2 := owns_row h1
        exact ⟨some ⟨g', 0, none⟩, cp', by simp, by simpa using h2.2, h2.1, HTW.out.then HT5.out⟩
      end Go.Proofs.YtlgpilcjcomacaaGreat
