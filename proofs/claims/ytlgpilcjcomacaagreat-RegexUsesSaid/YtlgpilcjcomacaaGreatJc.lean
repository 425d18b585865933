/-
  The document's All, filled and Replace. (Printed by wip/tools/rrepl07.py.)
-/
import Derived.Test.YtlgpilcjcomacaaGreatJb
import Derived.Test.YtlgpilcjcomacaaGreatBj
import Derived.Deep.MidRow
namespace Go.Proofs.YtlgpilcjcomacaaGreat
open Go.RowKit Rx
set_option linter.unusedVariables false

set_option maxRecDepth 100000 in
set_option maxHeartbeats 8000000 in
theorem rall_any (s t : ByteArray) (bu : Int) (w : World) :
    Calls Tryz.prog 13 #[.string s, .string t, .int .i64 bu] w (AllQ w (allV t bu (readP (str s)))) := by
  have h0 := every_any s t bu w
  have HGOT := Lib.hid (fun G l (h : allV t bu (readP (str s)) = .got G l) => allV_got h)
  generalize allV t bu (readP (str s)) = rr at h0 HGOT ⊢
  have HA := Lib.hid h0
  clear h0
  go_enter Tryz.func13, Tryz.ntmps13
  go_wp2_with fail
  refine HA.out.mono ?_
  intro e w1 hG
  clear HA
  cases rr with
  | err c =>
    obtain ⟨rfl, ht⟩ := hG
    have HT := Lib.hid ht
    clear ht
    go_wp2_with fail
    go_loopw [10, 11] (fun ov jv wr => ov = .slice none 0 0 ∧ jv = .int .i64 0 ∧ Hid (Still w1 wr)) (fun _ _ _ => 0)
    case atStart => exact ⟨rfl, rfl, Lib.hid (Touch.refl _ _)⟩
    case round =>
      obtain ⟨rfl, rfl, HT1⟩ := hrel
      go_wp2_with fail
      go_ret2
      exact ⟨rfl, HT.out.then HT1.out⟩
  | got G l =>
    obtain ⟨x, cp, rfl, hcp, hrow, hG9, ht⟩ := hG
    obtain ⟨hts, hch, hl5⟩ := HGOT.out G l rfl
    have HROW := Lib.hid hrow
    have HTW := Lib.hid ht
    clear hrow hch ht
    obtain ⟨i0, hinfo, hz0, hz1, hz2⟩ := info_parts infoPair'
    have HI := Lib.hid hinfo
    have HZ := Lib.hid (And.intro hz0 (And.intro hz1 hz2))
    clear hinfo hz0 hz1 hz2
    go_wp2_with fail
    go_loopw [10, 11] (fun ov jv wr => ∃ (j : Nat) (ox : Option Addr) (oc : Nat), ov = .slice ox j oc ∧ jv = .int .i64 (j : Int) ∧ j ≤ l.length ∧ Hid (wr.ownsRow w1.heap.size 39 2 (.slice ox j oc) j (pl (l.take j))) ∧ Hid (Still w1 wr)) (fun _ jv _ => l.length - (intOf jv).toNat)
    case atStart => exact ⟨0, none, 0, rfl, rfl, Nat.zero_le _, Lib.hid (World.ownsRow_nil _ _ _ _), Lib.hid (Touch.refl _ _)⟩
    case round =>
      obtain ⟨j, ox, oc, rfl, rfl, hj, HO, HT⟩ := hrel
      by_cases hlt : j < l.length
      · have q1 : decide ((j : Int) < (l.length : Int)) = true := decide_eq_true (by omega)
        have q1n : decide (j < l.length) = true := decide_eq_true hlt
        have hji : (j : Int) < (l.length : Int) := by omega
        have wj := IntWalk.i64_in ((j : Int) + 1) (by omega)
        obtain ⟨g, hg⟩ : ∃ g, l[j]? = some g := ⟨_, List.getElem?_eq_getElem hlt⟩
        obtain ⟨b, hx, hcells⟩ := HROW.out j g hg
        subst hx
        have htk : pl (l.take (j + 1)) = pl (l.take j) ++ [.int .i64 (g 0).1, .int .i64 (g 0).2] := by
          rw [List.take_add_one, hg]
          exact pl_snoc _ _
        have HTK := Lib.hid htk
        have p0 : wr.cell? ⟨b, j * 20, none⟩ = some (.int .i64 (g 0).1) := HT.out.has (hcells 0 (by decide)) id
        have p1 : wr.cell? ⟨b, j * 20 + 1, none⟩ = some (.int .i64 (g 0).2) := HT.out.has (hcells 1 (by decide)) id
        have hl2 := alloc_two wr (.int .i64 (g 0).1) (.int .i64 (g 0).2) 39
        have HL2 := Lib.hid hl2
        have HWS := Lib.hid HT.out.size
        clear htk hg hl2 hcells
        go_wp2_with (at_builtin; refine wpList_append_lies _ rfl (.tmp 25) (.tmp 31) 32 rfl w1.heap.size 39 i0 (.agg #[.int .i64 0, .int .i64 0]) 2 16 Tryz.underlying32 HI.out HZ.out.1 HZ.out.2.1 HZ.out.2.2 rfl (by decide) _ _ _ rfl (HO.out.alloc _) ⟨wr.heap.size, 0, none⟩ 1 1 [.int .i64 (g 0).1, .int .i64 (g 0).2] rfl rfl (news2 HL2.out.1 HL2.out.2) (by intro v hv; simp at hv; rcases hv with rfl | rfl <;> rfl) (by decide) (by unfold maxLen; omega) (by omega) (by have := HWS.out; simp; omega) _ rfl ?_; intro g' cp' w5 hown hgrow hat hlt'; have HT5 := Lib.hid (grown_still HO.out HT.out ((Touch.refl (fun _ => False) wr).alloc _) hgrow); have HO5 := Lib.hid hown; clear hown hgrow hat hlt' p0 p1)
        go_roundw
        case rel => exact ⟨j + 1, some ⟨g', 0, none⟩, cp', rfl, by go_num, by omega, by rw [HTK.out]; exact HO5, HT5⟩
        case measure => simp [intOf]; omega
      · obtain rfl : j = l.length := by omega
        have q1 : decide ((l.length : Int) < (l.length : Int)) = false := decide_eq_false (by omega)
        have ho := HO.out
        rw [List.take_length] at ho
        have HP := Lib.hid (owns_pairs ho)
        clear ho
        go_wp2_with fail
        go_ret2
        exact ⟨ox, oc, rfl, HP.out.2, HP.out.1, HTW.out.then HT.out⟩

theorem one_ext2 {s : ByteArray} {j : Nat} (h : j < s.size) : s.extract j (j + 1) = bs [s[j]'h] := by
  have e : str (s.extract j (j + 1)) = [s[j]'h] := by
    rw [str_ext, drop_at h, show j + 1 - j = 1 by omega]
    rfl
  rw [← e]
  rfl
theorem fill_one (s : List UInt8) (g : Grp) (d : UInt8) (r : List UInt8) (hd : d ≠ 92) : fillR s g (d :: r) = d :: fillR s g r := fill_self s g d r (.inl hd)
theorem gbox (w : World) (g : Grp) (T : TypeId) : ∀ i, i < 20 → (w.alloc (.cells (gl 9 g).toArray T)).cell? ⟨w.heap.size, i, none⟩ = some (gv g i) := fun i hi => by
  have h := (Holds.made w (gl 9 g).toArray T i (gv g i) (by rw [List.getElem?_toArray]; exact gl_get 9 g i (by omega))).1
  exact h

set_option maxRecDepth 100000 in
set_option maxHeartbeats 16000000 in
theorem rfilled_any (y s : ByteArray) (g : Grp) (G : Nat) (w : World) (hs : s.size ≤ 5000) (hy : y.size ≤ 100000) (hG : G ≤ 9) (hg : GFar s.size G g) :
    Calls Tryz.prog 38 #[.string y, .string s, .agg (gl 9 g).toArray] w fun e w' => e = .returned (.string (bs (fillR (str s) g (str y)))) ∧ Still w w' := by
  have HG := Lib.hid hg
  obtain ⟨w1, hw1⟩ : ∃ w1, w.alloc (.cells (gl 9 g).toArray 74) = w1 := ⟨_, rfl⟩
  obtain ⟨b5, hb5⟩ : ∃ b5, w.heap.size = b5 := ⟨_, rfl⟩
  have HC1 : Hid (∀ i, i < 20 → w1.cell? ⟨b5, i, none⟩ = some (gv g i)) := Lib.hid (by rw [← hw1, ← hb5]; exact gbox w g _)
  have HT1 : Hid (Still w w1) := Lib.hid (by rw [← hw1]; exact (Touch.refl _ _).alloc _)
  clear hg
  go_enter Tryz.func38, Tryz.ntmps38
  go_wp2_with fail
  clear hw1 hb5
  go_loopw [7, 8] (fun ov iv wr => ∃ (k : Nat) (l : List UInt8), ov = .string (bs l) ∧ iv = .int .i64 (k : Int) ∧ k ≤ y.size ∧ l.length ≤ k * 5001 ∧ Hid (Still w1 wr) ∧ Hid (fillR (str s) g (str y) = l ++ fillR (str s) g ((str y).drop k))) (fun _ iv _ => y.size - (intOf iv).toNat)
  case atStart => exact ⟨0, [], rfl, rfl, Nat.zero_le _, Nat.zero_le _, Lib.hid (Touch.refl _ _), Lib.hid rfl⟩
  case round =>
    obtain ⟨k, l, rfl, rfl, hk, hl, HT, HF⟩ := hrel
    have hbl : (bs l).size ≤ 600000000 := by rw [bs_size]; omega
    by_cases hlt : k < y.size
    · have HD := Lib.hid (drop_at hlt)
      have q1 : decide ((k : Int) < (y.size : Int)) = true := decide_eq_true (by omega)
      have q1n : decide (k < y.size) = true := decide_eq_true hlt
      have wk1 := IntWalk.i64_in ((k : Int) + 1) (by omega)
      have wk2 := IntWalk.i64_in ((k : Int) + 1 + 1) (by omega)
      have ht1 : ((k : Int) + 1).toNat = k + 1 := by omega
      have hk1 : (k : Int) + 1 ≤ (y.size : Int) := by omega
      have hk2 : (k : Int) ≤ (k : Int) + 1 := by omega
      have hx1 := one_ext2 hlt
      obtain ⟨c, hcv⟩ : ∃ c, y[k]'hlt = c := ⟨_, rfl⟩
      rw [hcv] at HD hx1
      have hb1 : (bs [c]).size = 1 := rfl
      have hb3 : (bs l).size + 1 ≤ 9223372036854775807 := by omega
      by_cases hc92 : c = 92
      · subst hc92
        by_cases hlast : k + 1 = y.size
        · have q2 : decide ((k : Int) + 1 < (y.size : Int)) = false := decide_eq_false (by omega)
          have HLAST := Lib.hid hlast
          clear hlast
          go_wp2_with fail
          go_roundw
          case rel => exact ⟨k + 1, l ++ [92], by first | rfl | (rw [← bs_append]; done) | (rw [← bs_append]; rfl), by go_num, by omega, by simp; omega, HT, Lib.hid (by rw [HF.out, HD.out, fill_self _ _ _ _ (.inr (by rw [HLAST.out, drop_none]))]; simp)⟩
          case measure => simp [intOf]; omega
        · have hlt2 : k + 1 < y.size := by omega
          have q2 : decide ((k : Int) + 1 < (y.size : Int)) = true := decide_eq_true (by omega)
          have HD2 := Lib.hid (drop_at hlt2)
          have hx2 := one_ext2 hlt2
          have ht2 : ((k : Int) + 1 + 1).toNat = k + 1 + 1 := by omega
          have hk3 : (k : Int) + 1 + 1 ≤ (y.size : Int) := by omega
          have hk4 : (k : Int) + 1 ≤ (k : Int) + 1 + 1 := by omega
          obtain ⟨d, hdv⟩ : ∃ d, y[k + 1]'hlt2 = d := ⟨_, rfl⟩
          rw [hdv] at HD2 hx2
          have hb2 : (bs [d]).size = 1 := rfl
          have hd256 : d.toNat < 256 := d.toNat_lt
          by_cases hd92 : d = 92
          · subst hd92
            go_wp2_with fail
            go_roundw
            case rel => exact ⟨k + 1 + 1, l ++ [92], by first | rfl | (rw [← bs_append]; done) | (rw [← bs_append]; rfl), by go_num, by omega, by simp; omega, HT, Lib.hid (by rw [HF.out, HD.out, HD2.out, fill_back]; simp)⟩
            case measure => simp [intOf]; omega
          · have q3 : (((d.toNat : Nat) : Int) == 92) = false := by simp; intro e; exact hd92 (UInt8.toNat.inj (by show d.toNat = 92; omega))
            by_cases hdig : 48 ≤ d ∧ d ≤ 57
            · have h48 : 48 ≤ d.toNat := hdig.1
              have h57 : d.toNat ≤ 57 := hdig.2
              have HDIG := Lib.hid hdig
              clear hdig
              have q4 : decide (48 ≤ (d.toNat : Int)) = true := decide_eq_true (by omega)
              have q5 : decide ((d.toNat : Int) ≤ 57) = true := decide_eq_true (by omega)
              obtain ⟨q, hq⟩ : ∃ q, d.toNat - 48 = q := ⟨_, rfl⟩
              have HQ := Lib.hid hq
              have wq : IntKind.u8.wrap ((d.toNat : Int) - 48) = (q : Int) := by rw [show (d.toNat : Int) - 48 = (q : Int) by omega]; exact IntWalk.u8_in _ (by omega)
              have hq9 : q ≤ 9 := by omega
              have hq10 : (q : Int) < 10 := by omega
              clear hq
              have p0 : wr.cell? ⟨b5, q * 2, none⟩ = some (.int .i64 (g q).1) := by rw [Nat.mul_comm]; exact HT.out.has ((HC1.out (2 * q) (by omega)).trans (by rw [gv_even])) id
              have p1 : wr.cell? ⟨b5, q * 2 + 1, none⟩ = some (.int .i64 (g q).2) := by rw [Nat.mul_comm]; exact HT.out.has ((HC1.out (2 * q + 1) (by omega)).trans (by rw [gv_odd])) id
              have HTA : Hid (Still w1 (wr.alloc (.cells #[.int .i64 (g q).1, .int .i64 (g q).2] 39))) := Lib.hid (HT.out.alloc _)
              by_cases hneg : 0 ≤ (g q).1
              · have q7 : decide (0 ≤ (g q).1) = true := decide_eq_true hneg
                have hgi := (HG.out.1 q).resolve_left (fun e => by rw [e] at hneg; exact absurd hneg (by decide))
                obtain ⟨hg1, hg2, hg3⟩ := hgi
                have hcl := cutS_len (str s) (g q).1 (g q).2
                rw [str_len] at hcl
                have HCL := Lib.hid hcl
                have HNEG := Lib.hid hneg
                have hxs : (s.extract (g q).1.toNat (g q).2.toNat).size ≤ 5000 := by rw [← str_len, cutS_ext]; omega
                obtain ⟨X, hX⟩ : ∃ X, s.extract (g q).1.toNat (g q).2.toNat = X := ⟨_, rfl⟩
                have HX : Hid (X = bs (cutS (str s) (g q).1 (g q).2)) := Lib.hid (by rw [← hX, ← cutS_ext]; rfl)
                rw [hX] at hxs
                have hb4 : (bs l).size + X.size ≤ 9223372036854775807 := by omega
                clear hcl
                go_wp2_with fail
                go_roundw
                case rel => exact ⟨k + 1 + 1, l ++ cutS (str s) (g q).1 (g q).2, by rw [HX.out, ← bs_append], by go_num, by omega, by rw [List.length_append]; have := HCL.out; omega, HTA, Lib.hid (by rw [HF.out, HD.out, HD2.out, fill_group _ _ _ _ HDIG.out (by rw [HQ.out]; exact HNEG.out), HQ.out]; simp)⟩
                case measure => simp [intOf]; omega
              · have q7 : decide (0 ≤ (g q).1) = false := decide_eq_false hneg
                have HNEG := Lib.hid hneg
                go_wp2_with fail
                go_roundw
                case rel => exact ⟨k + 1 + 1, l, by first | rfl | (rw [← bs_append]; done) | (rw [← bs_append]; rfl), by go_num, by omega, by omega, HTA, Lib.hid (by rw [HF.out, HD.out, HD2.out, fill_none _ _ _ _ HDIG.out (by rw [HQ.out]; exact HNEG.out)])⟩
                case measure => simp [intOf]; omega
            · have hnd : d.toNat < 48 ∨ 57 < d.toNat := by
                rcases Nat.lt_or_ge d.toNat 48 with h | h
                · exact .inl h
                · exact .inr (Nat.lt_of_not_le (fun h2 => hdig ⟨h, h2⟩))
              have HDIG := Lib.hid hdig
              clear hdig
              rcases hnd with hnd | hnd
              · have q4 : decide (48 ≤ (d.toNat : Int)) = false := decide_eq_false (by omega)
                go_wp2_with fail
                go_roundw
                case rel => exact ⟨k + 1, l ++ [92], by first | rfl | (rw [← bs_append]; done) | (rw [← bs_append]; rfl), by go_num, by omega, by simp; omega, HT, Lib.hid (by rw [HF.out, HD.out, HD2.out, fill_other _ _ _ _ hd92 HDIG.out, fill_one _ _ _ _ hd92]; simp)⟩
                case measure => simp [intOf]; omega
              · have q4 : decide (48 ≤ (d.toNat : Int)) = true := decide_eq_true (by omega)
                have q5 : decide ((d.toNat : Int) ≤ 57) = false := decide_eq_false (by omega)
                go_wp2_with fail
                go_roundw
                case rel => exact ⟨k + 1, l ++ [92], by first | rfl | (rw [← bs_append]; done) | (rw [← bs_append]; rfl), by go_num, by omega, by simp; omega, HT, Lib.hid (by rw [HF.out, HD.out, HD2.out, fill_other _ _ _ _ hd92 HDIG.out, fill_one _ _ _ _ hd92]; simp)⟩
                case measure => simp [intOf]; omega
      · have hq : (((c.toNat : Nat) : Int) == 92) = false := by simp; intro e; exact hc92 (UInt8.toNat.inj (by show c.toNat = 92; omega))
        go_wp2_with fail
        go_roundw
        case rel => exact ⟨k + 1, l ++ [c], by first | rfl | (rw [← bs_append]; done) | (rw [← bs_append]; rfl), by go_num, by omega, by simp; omega, HT, Lib.hid (by rw [HF.out, HD.out, fill_self _ _ _ _ (.inl hc92)]; simp)⟩
        case measure => simp [intOf]; omega
    · obtain rfl : k = y.size := by omega
      have q1 : decide (((y.size : Nat) : Int) < (y.size : Int)) = false := decide_eq_false (by omega)
      have HE : Hid (fillR (str s) g (str y) = l) := Lib.hid (by rw [HF.out, drop_none]; simp [fillR])
      go_wp2_with fail
      go_ret
      rw [HE.out]
      exact ⟨rfl, HT1.out.then HT.out⟩
    

set_option maxRecDepth 100000 in
set_option maxHeartbeats 8000000 in
theorem rreplace_any (s t y : ByteArray) (bu : Int) (hy : y.size ≤ 1000) (w : World) :
    Calls Tryz.prog 15 #[.string s, .string t, .string y, .int .i64 bu] w (ReplP w (replV t y (allV t bu (readP (str s))))) := by
  have h0 := every_any s t bu w
  have HGOT := Lib.hid (fun G l (h : allV t bu (readP (str s)) = .got G l) => allV_got h)
  have HERR := Lib.hid (fun c (h : allV t bu (readP (str s)) = .err c) => allV_err h)
  generalize allV t bu (readP (str s)) = rr at h0 HGOT HERR ⊢
  have HA := Lib.hid h0
  clear h0
  go_enter Tryz.func15, Tryz.ntmps15
  go_wp2_with fail
  refine HA.out.mono ?_
  intro e w1 hG
  clear HA
  cases rr with
  | err c =>
    obtain ⟨rfl, ht⟩ := hG
    have HT := Lib.hid ht
    have hc0 : (c != 0) = true := by have := HERR.out c rfl; simp; exact this
    clear ht
    go_wp2_with fail
    go_ret2
    exact ⟨rfl, HT.out⟩
  | got G l =>
    obtain ⟨x, cp, rfl, hcp, hrow, hG9, ht⟩ := hG
    obtain ⟨hts, hch, hl5⟩ := HGOT.out G l rfl
    have HROW := Lib.hid hrow
    have HCH := Lib.hid hch
    have HTW := Lib.hid ht
    clear hrow hch ht
    go_wp2_with fail
    go_loopw [12, 13, 14] (fun ov av jv wr => ∃ (p j k : Nat) (o : List UInt8), ov = .string (bs o) ∧ av = .int .i64 (p : Int) ∧ jv = .int .i64 (j : Int) ∧ j ≤ l.length ∧ p ≤ k ∧ p ≤ t.size ∧ o.length ≤ j * 6000000 ∧ Hid (Still w1 wr) ∧ Hid (Chain t.size G k (l.drop j)) ∧ Hid (replR (str t) (str y) 0 l = o ++ replR (str t) (str y) p (l.drop j))) (fun _ _ jv _ => l.length - (intOf jv).toNat)
    case atStart => exact ⟨0, 0, 0, [], rfl, rfl, rfl, Nat.zero_le _, Nat.le_refl _, Nat.zero_le _, Nat.zero_le _, Lib.hid (Touch.refl _ _), HCH, Lib.hid rfl⟩
    case round =>
      clear HCH
      obtain ⟨p, j, k, o, rfl, rfl, rfl, hj, hpk, hpt, ho, HT, HC, HE⟩ := hrel
      have hbo : (bs o).size ≤ 40000000000 := by rw [bs_size]; omega
      by_cases hlt : j < l.length
      · have q1 : decide ((j : Int) < (l.length : Int)) = true := decide_eq_true (by omega)
        have q1n : decide (j < l.length) = true := decide_eq_true hlt
        have hji : (j : Int) < (l.length : Int) := by omega
        have wj := IntWalk.i64_in ((j : Int) + 1) (by omega)
        obtain ⟨g, hg⟩ : ∃ g, l[j]? = some g := ⟨_, List.getElem?_eq_getElem hlt⟩
        have hdr : l.drop j = g :: l.drop (j + 1) := by
          rw [List.drop_eq_getElem_cons hlt]
          rw [List.getElem?_eq_getElem hlt] at hg
          rw [Option.some.inj hg]
        have hc := HC.out
        rw [hdr] at hc
        obtain ⟨⟨x1, hma⟩, hc2⟩ := hc
        obtain ⟨b, hx, hcells⟩ := HROW.out j g hg
        subst hx
        have HNJ := Lib.hid (nextJ_lt hma)
        obtain ⟨⟨i, hi1, hi2, hi3, hi4⟩, hgf⟩ := hma
        have HG0 := Lib.hid hi4
        have HC2 := Lib.hid hc2
        have HDR := Lib.hid hdr
        have HCE : Hid (∀ w', Still w1 w' → ∀ i, i < 20 → w'.cell? ⟨b, j * 20 + i, none⟩ = some (gv g i)) := Lib.hid (fun w' ht i hi => ht.has (hcells i hi) id)
        have p0 : wr.cell? ⟨b, j * 20, none⟩ = some (.int .i64 (i : Int)) := by have h1 := HCE.out wr HT.out 0 (by decide); rw [gv_zero, hi4] at h1; exact h1
        have p1 : wr.cell? ⟨b, j * 20 + 1, none⟩ = some (.int .i64 (x1 : Int)) := by have h1 := HCE.out wr HT.out 1 (by decide); rw [gv_one, hi4] at h1; exact h1
        have HRG : Hid (∀ w', Still w1 w' → w'.rangeAt b (j * 20) (gl 9 g)) := Lib.hid (fun w' ht m v hm => by
          have hm2 : m < 20 := by have := (List.getElem?_eq_some_iff.1 hm).1; rw [gl9_len] at this; exact this
          rw [gl_get 9 g m (by omega)] at hm
          rw [← Option.some.inj hm]
          exact HCE.out w' ht m hm2)
        have hrange : wr.rangeAt b (j * 20) (gl 9 g) := HRG.out wr HT.out
        have hti : ((i : Int)).toNat = i := by omega
        have hpi : (p : Int) ≤ (i : Int) := by omega
        have hit : (i : Int) ≤ (t.size : Int) := by omega
        have HFL := Lib.hid (fill_len (str t) g _ (str y) (Nat.le_refl _))
        obtain ⟨E, hE⟩ : ∃ E, t.extract p i = E := ⟨_, rfl⟩
        have HEX := Lib.hid hE
        have hes : E.size ≤ 5000 := by rw [← hE, ByteArray.size_extract]; omega
        have hx0 : (bs o).size + E.size ≤ 9223372036854775807 := by omega
        have hfs : (bs (fillR (str t) g (str y))).size ≤ 5001000 := by
          have h1 := HFL.out
          rw [str_len, str_len] at h1
          rw [bs_size]
          have hmul : y.size * (t.size + 1) ≤ 1000 * 5001 := Nat.mul_le_mul hy (by omega)
          omega
        have HFI := Lib.hid (fun w' => rfilled_any y t g G w' hts (by omega) hG9 hgf)
        obtain ⟨FB, hFB⟩ : ∃ FB, bs (fillR (str t) g (str y)) = FB := ⟨_, rfl⟩
        have HFB := Lib.hid hFB
        rw [hFB] at HFI hfs
        have hx2 : (bs o ++ E).size + FB.size ≤ 9223372036854775807 := by rw [ByteArray.size_append]; omega
        have hx3 : (bs o).size + E.size + FB.size ≤ 9223372036854775807 := by omega
        have hfl := HFL.out
        rw [str_len, str_len] at hfl
        have hcl := cutS_len (str t) (p : Int) (i : Int)
        rw [str_len] at hcl
        have hmul : y.size * (t.size + 1) ≤ 1000 * 5001 := Nat.mul_le_mul hy (by omega)
        have HLN : Hid ((o ++ str (t.extract p i) ++ fillR (str t) g (str y)).length ≤ (j + 1) * 6000000) := Lib.hid (by
          rw [List.length_append, List.length_append, ext_cut]
          omega)
        clear hi4 hc2 hdr hg hgf hcells hFB hfl hcl hmul
        have hx0n : ¬ 9223372036854775807 < (bs o).size + E.size := by omega
        have hx3n : ¬ 9223372036854775807 < (bs o).size + E.size + FB.size := by omega
        go_upto_region 9 with fail
        have hu20 := Tryz.underlying74
        have hi20 : (Tryz.prog.info? 74).map (·.size) = some (gl 9 g).length := by rw [gl9_len]; exact info_groups
        go_region_held3 (fun w' => w'.cell? ⟨b, j * 20, none⟩ = some (.int .i64 (i : Int)) ∧ w'.rangeAt b (j * 20) (gl 9 g)) (first | exact ⟨d0, dr⟩ | exact ⟨p0, hrange⟩) (first | (go_at_call 38; refine (HFI.out _).mono ?_; rintro e w3 ⟨rfl, ht3⟩; have ht4 := (Touch.drew HT.out).then ht3; have HT3 := Lib.hid ht4; have d0 : w3.cell? ⟨b, j * 20, none⟩ = some (.int .i64 (i : Int)) := (by have h1 := HCE.out w3 ht4 0 (by decide); rw [gv_zero, HG0.out] at h1; exact h1); have d1 : w3.cell? ⟨b, j * 20 + 1, none⟩ = some (.int .i64 (x1 : Int)) := (by have h1 := HCE.out w3 ht4 1 (by decide); rw [gv_one, HG0.out] at h1; exact h1); have dr : w3.rangeAt b (j * 20) (gl 9 g) := HRG.out w3 ht4; clear ht3 ht4))
        go_wp2_with fail
        go_roundw
        case rel => exact ⟨x1, j + 1, nextJ g, o ++ str (t.extract p i) ++ fillR (str t) g (str y), by rw [← HFB.out, ← HEX.out, ← bs_append, ← bs_append]; first | done | rfl, rfl, by go_num, by omega, HNJ.out.2.1, by omega, HLN.out, HT3, HC2, Lib.hid (by
          rw [HE.out, HDR.out, ext_cut]
          show o ++ (cutS (str t) (p : Int) (g 0).1 ++ (fillR (str t) g (str y) ++ replR (str t) (str y) (g 0).2.toNat (l.drop (j + 1)))) = _
          rw [HG0.out]
          simp)⟩
        case measure => simp [intOf]; omega
      · obtain rfl : j = l.length := by omega
        have q1 : decide ((l.length : Int) < (l.length : Int)) = false := decide_eq_false (by omega)
        have HEQ : Hid (replR (str t) (str y) 0 l = o ++ (str t).drop p) := Lib.hid (by rw [HE.out, List.drop_length]; rfl)
        have hpt' : (p : Int) ≤ (t.size : Int) := by omega
        have hx1 : (bs o).size + (t.extract p t.size).size ≤ 9223372036854775807 := by rw [ByteArray.size_extract]; omega
        have hx2 : (bs o).size + (t.size - p) ≤ 9223372036854775807 := by omega
        go_wp2_with fail
        go_ret2
        refine ⟨?_, HTW.out.then HT.out⟩
        show Ending.returned (.tuple #[.string (bs o ++ t.extract p t.size), .int .i64 0]) = .returned (.tuple #[.string (bs (replR (str t) (str y) 0 l)), .int .i64 0])
        rw [HEQ.out, ← bs_append, ← str_ext_end]
        rfl
end Go.Proofs.YtlgpilcjcomacaaGreat
