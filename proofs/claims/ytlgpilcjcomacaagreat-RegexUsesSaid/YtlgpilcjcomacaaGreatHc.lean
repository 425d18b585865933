/-
  The program's filled.
-/
import Derived.Test.YtlgpilcjcomacaaGreatHa
import Derived.Test.YtlgpilcjcomacaaGreatHs
namespace Go.Proofs.YtlgpilcjcomacaaGreat
open Go.RowKit Rx
set_option linter.unusedVariables false

/-- A match's groups in memory. -/
def PairsAt (w : World) (G bg : Nat) (g : Grp) : Prop := ∀ j, j < 2 * (G + 1) → w.cell? ⟨bg, j, none⟩ = some (gv g j)
theorem PairsAt.keep {S : Nat → Prop} {w w' : World} {G bg : Nat} {g : Grp} (h : PairsAt w G bg g) (t : Touch S w w') (hn : ¬ S bg) : PairsAt w' G bg g := fun j hj => t.has (h j hj) hn
theorem PairsAt.lo {w : World} {G bg : Nat} {g : Grp} (h : PairsAt w G bg g) {i : Nat} (hi : i ≤ G) : w.cell? ⟨bg, 2 * i, none⟩ = some (.int .i64 (g i).1) := by rw [h (2 * i) (by omega), gv_even]
theorem PairsAt.hi {w : World} {G bg : Nat} {g : Grp} (h : PairsAt w G bg g) {i : Nat} (hi : i ≤ G) : w.cell? ⟨bg, 2 * i + 1, none⟩ = some (.int .i64 (g i).2) := by rw [h (2 * i + 1) (by omega), gv_odd]
theorem PairsAt.lt {w : World} {G bg : Nat} {g : Grp} (h : PairsAt w G bg g) : bg < w.heap.size := block_lt_of_cell (h 0 (by omega))

theorem drop_at {s : ByteArray} {k : Nat} (h : k < s.size) : (str s).drop k = s[k]'h :: (str s).drop (k + 1) := by
  have h1 : k < (str s).length := by rw [str_len]; exact h
  rw [List.drop_eq_getElem_cons h1]
  rfl
theorem drop_none (s : ByteArray) : (str s).drop s.size = [] := by rw [← str_len, List.drop_length]
/-- A byte that stands for itself. -/
theorem fill_self (s : List UInt8) (g : Grp) (c : UInt8) (r : List UInt8) (h : c ≠ 92 ∨ r = []) : fillR s g (c :: r) = c :: fillR s g r := by
  cases r with
  | nil => rfl
  | cons d r =>
    have h1 : c ≠ 92 := h.resolve_right (by simp)
    show (if c = 92 then _ else c :: fillR s g (d :: r)) = _
    rw [if_neg h1]
theorem fill_back (s : List UInt8) (g : Grp) (r : List UInt8) : fillR s g (92 :: 92 :: r) = 92 :: fillR s g r := by
  show (if (92 : UInt8) = 92 then (if (92 : UInt8) = 92 then 92 :: fillR s g r else _) else _) = _
  rw [if_pos rfl, if_pos rfl]
theorem fill_other (s : List UInt8) (g : Grp) (d : UInt8) (r : List UInt8) (h1 : d ≠ 92) (h2 : ¬ (48 ≤ d ∧ d ≤ 57)) : fillR s g (92 :: d :: r) = 92 :: d :: fillR s g r := by
  show (if (92 : UInt8) = 92 then (if d = 92 then _ else if 48 ≤ d ∧ d ≤ 57 then _ else 92 :: d :: fillR s g r) else _) = _
  rw [if_pos rfl, if_neg h1, if_neg h2]
theorem fill_group (s : List UInt8) (g : Grp) (d : UInt8) (r : List UInt8) (h2 : 48 ≤ d ∧ d ≤ 57) (h3 : 0 ≤ (g (d.toNat - 48)).1) : fillR s g (92 :: d :: r) = cutS s (g (d.toNat - 48)).1 (g (d.toNat - 48)).2 ++ fillR s g r := by
  show (if (92 : UInt8) = 92 then (if d = 92 then _ else if 48 ≤ d ∧ d ≤ 57 then (if 0 ≤ (g (d.toNat - 48)).1 then cutS s (g (d.toNat - 48)).1 (g (d.toNat - 48)).2 ++ fillR s g r else _) else _) else _) = _
  rw [if_pos rfl, if_neg (by rintro rfl; exact absurd h2.2 (by decide)), if_pos h2, if_pos h3]
theorem fill_none (s : List UInt8) (g : Grp) (d : UInt8) (r : List UInt8) (h2 : 48 ≤ d ∧ d ≤ 57) (h3 : ¬ 0 ≤ (g (d.toNat - 48)).1) : fillR s g (92 :: d :: r) = fillR s g r := by
  show (if (92 : UInt8) = 92 then (if d = 92 then _ else if 48 ≤ d ∧ d ≤ 57 then (if 0 ≤ (g (d.toNat - 48)).1 then _ else fillR s g r) else _) else _) = _
  rw [if_pos rfl, if_neg (by rintro rfl; exact absurd h2.2 (by decide)), if_pos h2, if_neg h3]
theorem cutS_len (s : List UInt8) (i j : Int) : (cutS s i j).length ≤ s.length := by unfold cutS; simp; omega
/-- A piece of a string, as the walk spells it. -/
theorem cutS_ext (s : ByteArray) (i j : Int) : str (s.extract i.toNat j.toNat) = cutS (str s) i j := by rw [str_ext]; rfl

set_option maxRecDepth 100000 in
set_option maxHeartbeats 8000000 in
theorem filled_any (y s : ByteArray) (g : Grp) (G bg cg : Nat) (w : World) (hs : s.size ≤ 5000) (hy : y.size ≤ 100000) (hG : G ≤ 9) (hg : GFar s.size G g) (hc : PairsAt w G bg g) (hcap : G + 1 ≤ cg) :
    Calls Tryz.prog 36 #[.string y, .string s, .slice (some ⟨bg, 0, none⟩) (G + 1) cg] w fun e w' => e = .returned (.string (bs (fillR (str s) g (str y)))) ∧ Still w w' := by
  have HC := Lib.hid hc
  have HG := Lib.hid hg
  obtain ⟨w1, hw1⟩ : ∃ w1, w.alloc (.cells #[.pointer none, .slice none 0 0] 78) = w1 := ⟨_, rfl⟩
  obtain ⟨B, hB⟩ : ∃ B, w.heap.size = B := ⟨_, rfl⟩
  have HB := Lib.hid hB
  have HB1 : Hid (Bld B B [] w1) := Lib.hid (by rw [← hw1, ← hB]; exact bld_new w)
  have HT1 : Hid (Still w w1) := Lib.hid (by rw [← hw1]; exact (Touch.refl _ _).alloc _)
  clear hc hg
  go_enter Tryz.func36, Tryz.ntmps36
  go_wp2_with fail
  clear hw1 hB
  go_loopw [8] (fun iv wr => ∃ (k : Nat) (l : List UInt8), iv = .int .i64 (k : Int) ∧ k ≤ y.size ∧ l.length ≤ k * 5001 ∧ Hid (Bld B B l wr) ∧ Hid (Still w wr) ∧ Hid (fillR (str s) g (str y) = l ++ fillR (str s) g ((str y).drop k))) (fun iv _ => y.size - (intOf iv).toNat)
  case atStart => exact ⟨0, [], rfl, Nat.zero_le _, Nat.zero_le _, HB1, HT1, Lib.hid rfl⟩
  case round =>
    obtain ⟨k, l, rfl, hk, hl, HBL, HT, HF⟩ := hrel
    have hBw : B ≤ wr.heap.size := by have h1 := HT.out.size; have h2 := HB.out; omega
    by_cases hlt : k < y.size
    · have HD := Lib.hid (drop_at hlt)
      have q1 : decide ((k : Int) < (y.size : Int)) = true := decide_eq_true (by omega)
      have wk1 := IntWalk.i64_in ((k : Int) + 1) (by omega)
      obtain ⟨c, hcv⟩ : ∃ c, y[k]'hlt = c := ⟨_, rfl⟩
      rw [hcv] at HD
      by_cases hc92 : c = 92
      · subst hc92
        by_cases hlast : k + 1 = y.size
        · have HW := Lib.hid (bbyte_any B B l 92 wr HBL.out (by omega) hBw)
          have q2 : ((k : Int) + 1 == (y.size : Int)) = true := by simp; omega
          have HLAST := Lib.hid hlast
          clear hlast
          go_wp2_with fail
          refine HW.out.mono ?_
          rintro e w3 ⟨rfl, hb, hbl⟩
          have HB_w3 := Lib.hid hb
          have HT_w3 := Lib.hid (below_still hbl HT.out (by have := HB.out; omega))
          clear hb hbl
          go_wp2_with fail
          go_roundw
          case rel => exact ⟨k + 1, l ++ [92], by go_num, by omega, by simp; omega, HB_w3, HT_w3, Lib.hid (by rw [HF.out, HD.out, fill_self _ _ _ _ (.inr (by rw [HLAST.out, drop_none]))]; simp)⟩
          case measure => simp [intOf]; omega
        · have hlt2 : k + 1 < y.size := by omega
          have q2 : ((k : Int) + 1 == (y.size : Int)) = false := by simp; omega
          have ht1 : ((k : Int) + 1).toNat = k + 1 := by omega
          have wk2 := IntWalk.i64_in ((k : Int) + 1 + 1) (by omega)
          have HD2 := Lib.hid (drop_at hlt2)
          obtain ⟨d, hdv⟩ : ∃ d, y[k + 1]'hlt2 = d := ⟨_, rfl⟩
          rw [hdv] at HD2
          have hd256 : d.toNat < 256 := d.toNat_lt
          by_cases hd92 : d = 92
          · subst hd92
            have HW := Lib.hid (bbyte_any B B l 92 wr HBL.out (by omega) hBw)
            go_wp2_with fail
            refine HW.out.mono ?_
            rintro e w3 ⟨rfl, hb, hbl⟩
            have HB_w3 := Lib.hid hb
            have HT_w3 := Lib.hid (below_still hbl HT.out (by have := HB.out; omega))
            clear hb hbl
            go_wp2_with fail
            go_roundw
            case rel => exact ⟨k + 1 + 1, l ++ [92], by go_num, by omega, by simp; omega, HB_w3, HT_w3, Lib.hid (by rw [HF.out, HD.out, HD2.out, fill_back]; simp)⟩
            case measure => simp [intOf]; omega
          · have q3 : (((d.toNat : Nat) : Int) == 92) = false := by simp; intro e; exact hd92 (UInt8.toNat.inj (by show d.toNat = 92; omega))
            by_cases hdig : 48 ≤ d ∧ d ≤ 57
            · have h48 : 48 ≤ d.toNat := hdig.1
              have h57 : d.toNat ≤ 57 := hdig.2
              have HDIG := Lib.hid hdig
              clear hdig
              have q4 : decide (48 ≤ (d.toNat : Int)) = true := decide_eq_true (by omega)
              have q5 : decide ((d.toNat : Int) ≤ 57) = true := decide_eq_true (by omega)
              obtain ⟨q, hq⟩ : ∃ q, d.toNat - 48 = q := ⟨_, rfl⟩
              have HQ := Lib.hid hq
              have wq : IntKind.u8.wrap ((d.toNat : Int) - 48) = (q : Int) := by rw [show (d.toNat : Int) - 48 = (q : Int) by omega]; exact IntWalk.u8_in _ (by omega)
              have wq2 := IntWalk.i64_in (q : Int) (by omega)
              have wq3 : IntKind.i64.wrap ((d.toNat : Int) - 48) = (q : Int) := by rw [show (d.toNat : Int) - 48 = (q : Int) by omega]; exact wq2
              have hq9 : q ≤ 9 := by omega
              clear hq
              by_cases hqG : q < G + 1
              · have q6 : decide ((q : Int) < (G : Int) + 1) = true := decide_eq_true (by omega)
                have HP := Lib.hid (HC.out.keep HT.out id)
                have p0 : wr.cell? ⟨bg, q * 2, none⟩ = some (.int .i64 (g q).1) := by rw [Nat.mul_comm]; exact HP.out.lo (i := q) (by omega)
                have p1 : wr.cell? ⟨bg, q * 2 + 1, none⟩ = some (.int .i64 (g q).2) := by rw [Nat.mul_comm]; exact HP.out.hi (i := q) (by omega)
                by_cases hneg : 0 ≤ (g q).1
                · have q7 : decide (0 ≤ (g q).1) = true := decide_eq_true hneg
                  have hqn : (q : Int) < (G : Int) + 1 := by omega
                  have hgi := (HG.out.1 q).resolve_left (fun e => by rw [e] at hneg; exact absurd hneg (by decide))
                  obtain ⟨hg1, hg2, hg3⟩ := hgi
                  have hcl := cutS_len (str s) (g q).1 (g q).2
                  rw [str_len] at hcl
                  have HCL := Lib.hid hcl
                  have HNEG := Lib.hid hneg
                  have htd : Still wr wr.drew := (Touch.refl _ _).drew
                  have HTD := Lib.hid (HT.out.then htd)
                  have HW := Lib.hid (bwrite_any B B l (s.extract (g q).1.toNat (g q).2.toNat) wr.drew (bld_still HBL.out htd) (by rw [← str_len, cutS_ext]; omega) hBw)
                  clear hcl htd
                  go_wp2_with fail
                  go_still_tail 12, (by kernel_rfl)
                  change wpList _ _ _ _ _ (World.drew _)
                  go_wp2_with fail
                  refine HW.out.mono ?_
                  rintro e w3 ⟨rfl, hb, hbl⟩
                  have HB_w3 := Lib.hid hb
                  have HT_w3 := Lib.hid (below_still hbl HTD.out (by have := HB.out; omega))
                  clear hb hbl
                  go_wp2_with fail
                  go_roundw
                  case rel => exact ⟨k + 1 + 1, l ++ str (s.extract (g q).1.toNat (g q).2.toNat), by go_num, by omega, by rw [List.length_append, cutS_ext]; have := HCL.out; omega, HB_w3, HT_w3, Lib.hid (by rw [HF.out, HD.out, HD2.out, fill_group _ _ _ _ HDIG.out (by rw [HQ.out]; exact HNEG.out), HQ.out, ← cutS_ext]; simp)⟩
                  case measure => simp [intOf]; omega
                · have q7 : decide (0 ≤ (g q).1) = false := decide_eq_false hneg
                  have HB_wr := HBL
                  have HT_wr := HT
                  have HNEG := Lib.hid hneg
                  go_wp2_with fail
                  go_roundw
                  case rel => exact ⟨k + 1 + 1, l, by go_num, by omega, by omega, HB_wr, HT_wr, Lib.hid (by rw [HF.out, HD.out, HD2.out, fill_none _ _ _ _ HDIG.out (by rw [HQ.out]; exact HNEG.out)])⟩
                  case measure => simp [intOf]; omega
              · have q6 : decide ((q : Int) < (G : Int) + 1) = false := decide_eq_false (by omega)
                have HNEG : Hid (¬ 0 ≤ (g q).1) := Lib.hid (by rw [HG.out.2 q (by omega)]; decide)
                have HB_wr := HBL
                have HT_wr := HT
                go_wp2_with fail
                go_roundw
                case rel => exact ⟨k + 1 + 1, l, by go_num, by omega, by omega, HB_wr, HT_wr, Lib.hid (by rw [HF.out, HD.out, HD2.out, fill_none _ _ _ _ HDIG.out (by rw [HQ.out]; exact HNEG.out)])⟩
                case measure => simp [intOf]; omega
            · have hnd : d.toNat < 48 ∨ 57 < d.toNat := by
                rcases Nat.lt_or_ge d.toNat 48 with h | h
                · exact .inl h
                · exact .inr (Nat.lt_of_not_le (fun h2 => hdig ⟨h, h2⟩))
              have HDIG := Lib.hid hdig
              clear hdig
              have HW := Lib.hid (bbyte_any B B l 92 wr HBL.out (by omega) hBw)
              rcases hnd with hnd | hnd
              · have q4 : decide (48 ≤ (d.toNat : Int)) = false := decide_eq_false (by omega)
                go_wp2_with fail
                refine HW.out.mono ?_
                rintro e w3 ⟨rfl, hb, hbl⟩
                have HB_w3 := Lib.hid hb
                have HT_w3 := Lib.hid (below_still hbl HT.out (by have := HB.out; omega))
                clear hb hbl
                have HW2 := Lib.hid (bbyte_any B B (l ++ [92]) d w3 HB_w3.out (by simp; omega) (by have h1 := HT_w3.out.size; have h2 := HB.out; omega))
                go_wp2_with fail
                refine HW2.out.mono ?_
                rintro e w4 ⟨rfl, hb, hbl⟩
                have HB_w4 := Lib.hid hb
                have HT_w4 := Lib.hid (below_still hbl HT_w3.out (by have := HB.out; omega))
                clear hb hbl
                go_wp2_with fail
                go_roundw
                case rel => exact ⟨k + 1 + 1, l ++ [92] ++ [d], by go_num, by omega, by simp; omega, HB_w4, HT_w4, Lib.hid (by rw [HF.out, HD.out, HD2.out, fill_other _ _ _ _ hd92 HDIG.out]; simp)⟩
                case measure => simp [intOf]; omega
              · have q4 : decide (48 ≤ (d.toNat : Int)) = true := decide_eq_true (by omega)
                have q5 : decide ((d.toNat : Int) ≤ 57) = false := decide_eq_false (by omega)
                go_wp2_with fail
                refine HW.out.mono ?_
                rintro e w3 ⟨rfl, hb, hbl⟩
                have HB_w3 := Lib.hid hb
                have HT_w3 := Lib.hid (below_still hbl HT.out (by have := HB.out; omega))
                clear hb hbl
                have HW2 := Lib.hid (bbyte_any B B (l ++ [92]) d w3 HB_w3.out (by simp; omega) (by have h1 := HT_w3.out.size; have h2 := HB.out; omega))
                go_wp2_with fail
                refine HW2.out.mono ?_
                rintro e w4 ⟨rfl, hb, hbl⟩
                have HB_w4 := Lib.hid hb
                have HT_w4 := Lib.hid (below_still hbl HT_w3.out (by have := HB.out; omega))
                clear hb hbl
                go_wp2_with fail
                go_roundw
                case rel => exact ⟨k + 1 + 1, l ++ [92] ++ [d], by go_num, by omega, by simp; omega, HB_w4, HT_w4, Lib.hid (by rw [HF.out, HD.out, HD2.out, fill_other _ _ _ _ hd92 HDIG.out]; simp)⟩
                case measure => simp [intOf]; omega
      · have HW := Lib.hid (bbyte_any B B l c wr HBL.out (by omega) hBw)
        have hq : (((c.toNat : Nat) : Int) != 92) = true := by simp; intro e; exact hc92 (UInt8.toNat.inj (by show c.toNat = 92; omega))
        go_wp2_with fail
        refine HW.out.mono ?_
        rintro e w3 ⟨rfl, hb, hbl⟩
        have HB_w3 := Lib.hid hb
        have HT_w3 := Lib.hid (below_still hbl HT.out (by have := HB.out; omega))
        clear hb hbl
        go_wp2_with fail
        go_roundw
        case rel => exact ⟨k + 1, l ++ [c], by go_num, by omega, by simp; omega, HB_w3, HT_w3, Lib.hid (by rw [HF.out, HD.out, fill_self _ _ _ _ (.inl hc92)]; simp)⟩
        case measure => simp [intOf]; omega
    · obtain rfl : k = y.size := by omega
      have q1 : decide (((y.size : Nat) : Int) < (y.size : Int)) = false := decide_eq_false (by omega)
      have HE : Hid (fillR (str s) g (str y) = l) := Lib.hid (by rw [HF.out, drop_none]; simp [fillR])
      have HS := Lib.hid (bstring_any B B l wr HBL.out hBw)
      go_wp2_with fail
      refine HS.out.mono ?_
      rintro e w3 ⟨rfl, hb⟩
      have HT3 := Lib.hid (below_still hb HT.out (by have := HB.out; omega))
      clear hb
      go_wp2_with fail
      go_ret
      rw [HE.out]
      exact ⟨rfl, HT3.out⟩
end Go.Proofs.YtlgpilcjcomacaaGreat
