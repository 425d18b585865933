/-
  The document's ends: repeats, all trees. (Printed by wip/tools/ends07d.py.)
-/
import Derived.Test.YtlgpilcjcomacaaWc
namespace Go.Proofs.Ytlgpilcjcomacaa
open Go.RowKit Rx
set_option linter.unusedVariables false

/-- So many rounds from the marked places. -/
def PF (L : Nat) (W : Nat → Nat → Prop) (F : Nat → Bool) (r z : Nat) : Prop := ∃ i, i ≤ L ∧ F i = true ∧ Pow W r i z
theorem pf_succ {L : Nat} {W : Nat → Nat → Prop} (hW : ∀ i j, W i j → i ≤ j ∧ (i ≤ L → j ≤ L)) (F : Nat → Bool) (r z : Nat) : PF L W F (r + 1) z ↔ ∃ m, m ≤ L ∧ PF L W F r m ∧ W m z := by
  unfold PF
  constructor
  · rintro ⟨i, hi, hF, hp⟩
    obtain ⟨m, h1, h2⟩ := (pow_add r 1 i z).1 hp
    have h3 := (pow_le hW _ _ _ h1).2 hi
    obtain ⟨q, h4, h5⟩ := h2
    have h5 : q = z := h5
    subst h5
    exact ⟨m, h3, ⟨i, hi, hF, h1⟩, h4⟩
  · rintro ⟨m, hm, ⟨i, hi, hF, hp⟩, hw⟩
    exact ⟨i, hi, hF, (pow_add r 1 i z).2 ⟨m, hp, z, hw, rfl⟩⟩
/-- Rounds up to the greatest number are all that is wanted. -/
theorem rep_way (s : List UInt8) (y : Re) (least M : Nat) (most : Int) (lazy : Bool) (hM : (most = -1 ∧ M = least + s.length + 1) ∨ most = (M : Int)) (i z : Nat) (hi : i ≤ s.length) :
    (∃ r, r < M + 1 ∧ least ≤ r ∧ Pow (Way s y) r i z) ↔ Way s (.rep y least most lazy) i z := by
  constructor
  · rintro ⟨r, h1, h2, h3⟩
    refine ⟨r, h2, ?_, h3⟩
    rcases hM with ⟨h, -⟩ | h
    · exact .inl h
    · exact .inr (.inr (by omega))
  · rintro ⟨r, h1, h2, h3⟩
    rcases hM with ⟨h, hM⟩ | h
    · obtain ⟨d, rfl⟩ : ∃ d, r = least + d := ⟨r - least, by omega⟩
      obtain ⟨k, h4, h5⟩ := (pow_add least d i z).1 h3
      have h6 := pow_le (way_le s y) _ _ _ h4
      obtain ⟨m, h7, h8⟩ := pow_short (way_le s y) d k z h5
      have h9 := (pow_le (way_le s y) _ _ _ h8).2 (h6.2 hi)
      exact ⟨least + m, by omega, by omega, (pow_add least m i z).2 ⟨k, h4, h8⟩⟩
    · refine ⟨r, ?_, h1, h3⟩
      omega
theorem pf_zero (L : Nat) (W : Nat → Nat → Prop) (F : Nat → Bool) (z : Nat) (hz : z ≤ L) : F z = true ↔ PF L W F 0 z := by
  constructor
  · intro h; exact ⟨z, hz, h, rfl⟩
  · rintro ⟨i, hi, hF, hp⟩; have hp : i = z := hp; rw [← hp]; exact hF

set_option maxRecDepth 100000 in
set_option maxHeartbeats 16000000 in
theorem reps_any (wT : World) (s : ByteArray) (hs : s.size ≤ 5000) (b : Nat) (v : NV) (hv : NodeB wT b v) (q : Value) (hkid : KidD (fun _ => True) wT v q) (hqp : ∃ z, q = .pointer z) (y : Re) (least M : Nat) (most : Int) (lazy : Bool) (hls : v.lo = (least : Int)) (hhi : v.hi = most) (hl100 : least ≤ 100) (hM : (most = -1 ∧ M = least + s.size + 1) ∨ (most = (M : Int) ∧ M ≤ 100)) (hq : EndsOK wT s q y)
    (w : World) (g c : Nat) (F : Nat → Bool) (t : Still wT w) (hF : BR w g s.size F) :
    Calls Try.prog 56 #[.pointer (some ⟨b, 0, none⟩), .string s, .slice (some ⟨g, 0, none⟩) (s.size + 1) c] w (EndsP s (.rep y least most lazy) F w) := by
  obtain ⟨kb, ko, hkx, hkl, hkc, -, hcell⟩ := hkid
  obtain ⟨z, rfl⟩ := hqp
  have c59 := hv.c259
  have c60 := hv.c260
  have c61 := hv.c261
  rw [hkx, hkl] at c59
  rw [hls] at c60
  rw [hhi] at c61
  generalize v.kc = kc at c59 hkc
  have HCE : Hid (∀ wr, Still w wr → wr.cell? ⟨b, 259, none⟩ = some (.slice (some ⟨kb, ko, none⟩) 1 kc) ∧ wr.cell? ⟨b, 260, none⟩ = some (.int .i64 (least : Int)) ∧ wr.cell? ⟨b, 261, none⟩ = some (.int .i64 most) ∧ wr.cell? ⟨kb, ko, none⟩ = some (.pointer z)) := Lib.hid (fun wr tr => ⟨(t.then tr).has c59 id, (t.then tr).has c60 id, (t.then tr).has c61 id, (t.then tr).has hcell id⟩)
  have HWAY := Lib.hid (fun (i zz : Nat) (hi : i ≤ s.size) => rep_way (str s) y least M most lazy (hM.imp (fun h => ⟨h.1, by rw [str_len]; exact h.2⟩) (fun h => h.1)) i zz (by rw [str_len]; exact hi))
  have HWL : Hid (∀ i j, Way (str s) y i j → i ≤ j ∧ (i ≤ s.size → j ≤ s.size)) := Lib.hid (fun i j h => by have h1 := way_le (str s) y i j h; rw [str_len] at h1; exact h1)
  have HF := Lib.hid hF
  have HQ := Lib.hid hq
  have HTT := Lib.hid t
  have HPB : Hid (pureB (.rep y least most lazy) = pureB y) := Lib.hid rfl
  have HMB : Hid (M ≤ 5101) := Lib.hid (by omega)
  have ws := IntWalk.i64_in ((s.size : Int) + 1) (by omega)
  have hlg : g < w.heap.size := block_lt_of_cell (hF 0 (Nat.zero_le _))
  clear hkx hkl hv t hF hq hcell c59 c60 c61 hls hhi
  rcases hM with ⟨rfl, hM⟩ | ⟨rfl, hM⟩
  · have wm1 := IntWalk.i64_in ((least : Int) + (s.size : Int)) (by omega)
    have wm2 := IntWalk.i64_in ((least : Int) + (s.size : Int) + 1) (by omega)
    have hMi : (least : Int) + (s.size : Int) + 1 = (M : Int) := by omega
    clear hM
    have k61 := (HCE.out w (Touch.refl _ _)).2.2.1
    have k60 := (HCE.out w (Touch.refl _ _)).2.1
    go_enter Try.func56, Try.ntmps56
    go_wp2_with (at_make; (refine wpList_make_bools rfl (.tmp 16) rfl (s.size + 1) rfl (by omega) ?_); intro w1 hnew ht1; have HN1 := Lib.hid hnew; have HT1 := Lib.hid ht1; have k60 := ht1.has k60 id; have k61 := ht1.has k61 id; clear hnew ht1)
    obtain ⟨g1, hg1⟩ : ∃ g1, w.heap.size = g1 := ⟨_, rfl⟩
    have HB1 : Hid (BH w1 g1 s.size (fun _ => false)) := Lib.hid (by rw [← hg1]; exact fun j hj => HN1.out j (by omega))
    have HG1 := Lib.hid hg1
    have HZ1 : Hid (g1 < w1.heap.size) := Lib.hid (by rw [← hg1]; exact (HN1.out 0 (by omega)).lt)
    have HF1 := Lib.hid (HF.out.keep HT1.out id)
    have HGN : Hid (g ≠ g1) := Lib.hid (by omega)
    rw [hg1]
    clear HN1 hg1 k60 k61
    try rw [hMi]
    go_loopw [9, 12] (fun sv iv wr => ∃ (n gn cn : Nat) (N O : Nat → Bool), sv = .slice (some ⟨gn, 0, none⟩) (s.size + 1) cn ∧ iv = .int .i64 (n : Int) ∧ n ≤ M + 1 ∧ Hid (gn ≠ g1) ∧ Hid (BR wr gn s.size N) ∧ Hid (BH wr g1 s.size O) ∧ Hid (Touch (fun k => k = g1) w1 wr) ∧ Hid (n = 0 ∨ pureB y = true) ∧ Hid (∀ zz, zz ≤ s.size → (N zz = true ↔ PF s.size (Way (str s) y) F n zz)) ∧ Hid (∀ zz, zz ≤ s.size → (O zz = true ↔ ∃ r, r < n ∧ least ≤ r ∧ PF s.size (Way (str s) y) F r zz))) (fun _ iv _ => M + 1 - (intOf iv).toNat)
    case atStart => exact ⟨0, g, c, F, fun _ => false, rfl, rfl, Nat.zero_le _, HGN, HF1, HB1, Lib.hid (Touch.refl _ _), Lib.hid (.inl rfl), Lib.hid (fun zz hz => pf_zero _ _ _ _ hz), Lib.hid (fun zz hz => ⟨fun h => (by cases h), fun ⟨r, h, _⟩ => absurd h (Nat.not_lt_zero _)⟩)⟩
    case round =>
      clear HF1 HB1 HGN
      obtain ⟨n, gn, cn, N, O, rfl, rfl, hn, HGN, HBN, HBO, HT, HPU, HN, HO⟩ := hrel
      by_cases hlt : n ≤ M
      · have q1 : decide ((n : Int) ≤ (M : Int)) = true := decide_eq_true (by omega)
        have q1n : decide (n ≤ M) = true := decide_eq_true hlt
        have wn := IntWalk.i64_in ((n : Int) + 1) (by have := HMB.out; omega)
        go_wp2_with fail
        go_loopw [13] (fun kv wz => ∃ k : Nat, kv = .int .i64 (k : Int) ∧ k ≤ s.size + 1 ∧ (k = 0 ∨ least ≤ n) ∧ Hid (BH wz g1 s.size (joinO O N k)) ∧ Hid (BR wz gn s.size N) ∧ Hid (Touch (fun k => k = g1) w1 wz)) (fun kv _ => s.size + 1 - (intOf kv).toNat)
        case atStart => exact ⟨0, rfl, Nat.zero_le _, .inl rfl, by rw [joinO_zero]; exact HBO, HBN, HT⟩
        case round =>
          clear HBO HBN HT
          obtain ⟨k, rfl, hk, hkn, HK, HK2, HTK⟩ := hrel
          have HTW : Hid (Still w wr) := Lib.hid (HT1.out.trans HTK.out (fun i e => .inr (by have := HG1.out; omega)))
          have k60 := (HCE.out wr HTW.out).2.1
          by_cases hgo : k ≤ s.size ∧ least ≤ n
          · obtain ⟨hks, hln⟩ := hgo
            have q2 : decide ((k : Int) ≤ (s.size : Int)) = true := decide_eq_true (by omega)
            have q2n : decide (k ≤ s.size) = true := decide_eq_true hks
            have q3 : decide ((least : Int) ≤ (n : Int)) = true := decide_eq_true (by omega)
            have q3n : decide (least ≤ n) = true := decide_eq_true hln
            have wk := IntWalk.i64_in ((k : Int) + 1) (by omega)
            have hkc : (k : Int) < (s.size : Int) + 1 := by omega
            obtain ⟨y0, z0⟩ := HK.out k hks
            rw [joinO_at] at y0
            have x0 := HK2.out k hks
            have HJ : Hid (∀ b : Bool, b = (O k || N k) → BH (wr.setCell ⟨g1, k, none⟩ (.bool b)) g1 s.size (joinO O N (k + 1))) := Lib.hid (fun b e => by
              rw [← joinO_next, e]
              exact HK.out.set hks _)
            have HX2 : Hid (∀ v, BR (wr.setCell ⟨g1, k, none⟩ v) gn s.size N) := Lib.hid (fun v => HK2.out.keep (Touch.setCell (Touch.refl (fun k => k = g1) wr) (.inl rfl) v) HGN.out)
            have HTZ : Hid (∀ v, Touch (fun k => k = g1) w1 (wr.setCell ⟨g1, k, none⟩ v)) := Lib.hid (fun v => HTK.out.setCell (.inl rfl) v)
            have HLN := Lib.hid hln
            clear hkn hln
            cases hO : O k with
            | true =>
              rw [hO] at y0
              have HJT : Hid (BH (wr.setCell ⟨g1, k, none⟩ (.bool true)) g1 s.size (joinO O N (k + 1))) := Lib.hid (HJ.out true (by rw [hO]; rfl))
              clear HJ hO
              go_wp2_with fail
              go_roundw
              case rel => exact ⟨k + 1, by go_num, by omega, .inr HLN.out, HJT, Lib.hid (HX2.out _), Lib.hid (HTZ.out _)⟩
              case measure => simp [intOf]; omega
            | false =>
              rw [hO] at y0
              have HJT : Hid (BH (wr.setCell ⟨g1, k, none⟩ (.bool (N k))) g1 s.size (joinO O N (k + 1))) := Lib.hid (HJ.out _ (by rw [hO]; rfl))
              clear HJ hO
              go_wp2_with fail
              go_roundw
              case rel => exact ⟨k + 1, by go_num, by omega, .inr HLN.out, HJT, Lib.hid (HX2.out _), Lib.hid (HTZ.out _)⟩
              case measure => simp [intOf]; omega
          · have hQ : ∃ O2 : Nat → Bool, BH wr g1 s.size O2 ∧ ∀ zz, zz ≤ s.size → (O2 zz = true ↔ ∃ r, r < n + 1 ∧ least ≤ r ∧ PF s.size (Way (str s) y) F r zz) := by
              refine ⟨joinO O N k, HK.out, fun zz hz => ?_⟩
              by_cases hln : least ≤ n
              · have hk2 : k = s.size + 1 := by omega
                rw [hk2, joinO_all _ _ _ _ hz, Bool.or_eq_true, HO.out zz hz, HN.out zz hz]
                constructor
                · rintro (⟨r, h1, h2⟩ | h)
                  · exact ⟨r, by omega, h2⟩
                  · exact ⟨n, by omega, hln, h⟩
                · rintro ⟨r, h1, h2, h3⟩
                  by_cases hr : r = n
                  · subst hr; exact .inr h3
                  · exact .inl ⟨r, by omega, h2, h3⟩
              · have hk2 : k = 0 := by omega
                rw [hk2, joinO_zero, HO.out zz hz]
                constructor
                · rintro ⟨r, h1, h2⟩; exact ⟨r, by omega, h2⟩
                · rintro ⟨r, h1, h2, h3⟩; exact ⟨r, by omega, h2, h3⟩
            obtain ⟨O2, hbo, ho2⟩ := hQ
            have HBO := Lib.hid hbo
            have HO2 := Lib.hid ho2
            have HC := Lib.hid (HQ.out wr gn cn N (HTT.out.then HTW.out) HK2.out)
            obtain ⟨k59, -, -, kk⟩ := HCE.out wr HTW.out
            have hc2 : (decide ((k : Int) ≤ (s.size : Int)) = false ∧ decide (k ≤ s.size) = false) ∨ (decide ((k : Int) ≤ (s.size : Int)) = true ∧ decide (k ≤ s.size) = true ∧ decide ((least : Int) ≤ (n : Int)) = false ∧ decide (least ≤ n) = false) := by
              by_cases h : k ≤ s.size
              · exact .inr ⟨decide_eq_true (by omega), decide_eq_true h, decide_eq_false (by omega), decide_eq_false (by omega)⟩
              · exact .inl ⟨decide_eq_false (by omega), decide_eq_false h⟩
            clear hbo ho2 hkn hgo HK
            rcases hc2 with ⟨q2, q2n⟩ | ⟨q2, q2n, q3, q3n⟩
            · go_wp2_with fail
              refine HC.out.mono ?_
              intro e w3 hG
              rcases hG with ⟨hp, g2, c2, F2, rfl, h1, h2, h4, h3⟩ | ⟨hp, ao, c2, rfl, h3⟩
              · have HT3 := Lib.hid (HTK.out.trans h3 (fun i e => e.elim))
                have HBO3 := Lib.hid (HBO.out.keep h3 id)
                have HB2 := Lib.hid h1
                have HNE : Hid (g2 ≠ g1) := Lib.hid (by have := HZ1.out; have := HTK.out.size; omega)
                have HP := Lib.hid hp
                have HN2 : Hid (∀ zz, zz ≤ s.size → (F2 zz = true ↔ PF s.size (Way (str s) y) F (n + 1) zz)) := Lib.hid (fun zz hz => by
                  rw [h2 zz hz, pf_succ HWL.out]
                  exact ⟨fun ⟨i, hi, hN, hw⟩ => ⟨i, hi, (HN.out i hi).1 hN, hw⟩, fun ⟨i, hi, hN, hw⟩ => ⟨i, hi, (HN.out i hi).2 hN, hw⟩⟩)
                clear h1 h2 h3 h4 hp k59 kk k60
                go_wp2_with fail
                go_roundw
                case rel => exact ⟨n + 1, g2, c2, F2, O2, rfl, by go_num, by omega, HNE, HB2, HBO3, HT3, Lib.hid (.inr HP.out), HN2, HO2⟩
                case measure => simp [intOf]; omega
              · have HT3 := Lib.hid (HTW.out.then h3)
                have HNP : Hid (pureB y = false) := Lib.hid hp
                clear h3 hp k59 kk k60
                go_wp2_with fail
                go_ret2
                exact .inr ⟨HNP.out, none, 0, rfl, HT3.out⟩
            · go_wp2_with fail
              refine HC.out.mono ?_
              intro e w3 hG
              rcases hG with ⟨hp, g2, c2, F2, rfl, h1, h2, h4, h3⟩ | ⟨hp, ao, c2, rfl, h3⟩
              · have HT3 := Lib.hid (HTK.out.trans h3 (fun i e => e.elim))
                have HBO3 := Lib.hid (HBO.out.keep h3 id)
                have HB2 := Lib.hid h1
                have HNE : Hid (g2 ≠ g1) := Lib.hid (by have := HZ1.out; have := HTK.out.size; omega)
                have HP := Lib.hid hp
                have HN2 : Hid (∀ zz, zz ≤ s.size → (F2 zz = true ↔ PF s.size (Way (str s) y) F (n + 1) zz)) := Lib.hid (fun zz hz => by
                  rw [h2 zz hz, pf_succ HWL.out]
                  exact ⟨fun ⟨i, hi, hN, hw⟩ => ⟨i, hi, (HN.out i hi).1 hN, hw⟩, fun ⟨i, hi, hN, hw⟩ => ⟨i, hi, (HN.out i hi).2 hN, hw⟩⟩)
                clear h1 h2 h3 h4 hp k59 kk k60
                go_wp2_with fail
                go_roundw
                case rel => exact ⟨n + 1, g2, c2, F2, O2, rfl, by go_num, by omega, HNE, HB2, HBO3, HT3, Lib.hid (.inr HP.out), HN2, HO2⟩
                case measure => simp [intOf]; omega
              · have HT3 := Lib.hid (HTW.out.then h3)
                have HNP : Hid (pureB y = false) := Lib.hid hp
                clear h3 hp k59 kk k60
                go_wp2_with fail
                go_ret2
                exact .inr ⟨HNP.out, none, 0, rfl, HT3.out⟩
      · obtain rfl : n = M + 1 := by omega
        have q1 : decide (((M + 1 : Nat) : Int) ≤ (M : Int)) = false := decide_eq_false (by omega)
        have q1n : decide (M + 1 ≤ M) = false := decide_eq_false hlt
        have HTW : Hid (Still w wr) := Lib.hid (HT1.out.trans HT.out (fun i e => .inr (by have := HG1.out; omega)))
        have HPY : Hid (pureB y = true) := Lib.hid (HPU.out.resolve_left (by omega))
        go_wp2_with fail
        go_ret2
        refine .inl ⟨HPY.out, g1, s.size + 1, O, rfl, HBO.out.br, fun zz hz => ?_, Nat.le_of_eq HG1.out, HTW.out⟩
        rw [HO.out zz hz]
        constructor
        · rintro ⟨r, h1, h2, i, hi, hF, h3⟩
          exact ⟨i, hi, hF, (HWAY.out i zz hi).1 ⟨r, h1, h2, h3⟩⟩
        · rintro ⟨i, hi, hF, h⟩
          obtain ⟨r, h1, h2, h3⟩ := (HWAY.out i zz hi).2 h
          exact ⟨r, h1, h2, i, hi, hF, h3⟩
  · have hneg : decide ((M : Int) < 0) = false := decide_eq_false (by omega)
    clear hM
    have k61 := (HCE.out w (Touch.refl _ _)).2.2.1
    have k60 := (HCE.out w (Touch.refl _ _)).2.1
    go_enter Try.func56, Try.ntmps56
    go_wp2_with (at_make; (refine wpList_make_bools rfl (.tmp 16) rfl (s.size + 1) rfl (by omega) ?_); intro w1 hnew ht1; have HN1 := Lib.hid hnew; have HT1 := Lib.hid ht1; have k60 := ht1.has k60 id; have k61 := ht1.has k61 id; clear hnew ht1)
    obtain ⟨g1, hg1⟩ : ∃ g1, w.heap.size = g1 := ⟨_, rfl⟩
    have HB1 : Hid (BH w1 g1 s.size (fun _ => false)) := Lib.hid (by rw [← hg1]; exact fun j hj => HN1.out j (by omega))
    have HG1 := Lib.hid hg1
    have HZ1 : Hid (g1 < w1.heap.size) := Lib.hid (by rw [← hg1]; exact (HN1.out 0 (by omega)).lt)
    have HF1 := Lib.hid (HF.out.keep HT1.out id)
    have HGN : Hid (g ≠ g1) := Lib.hid (by omega)
    rw [hg1]
    clear HN1 hg1 k60 k61
    try rw [hMi]
    go_loopw [9, 12] (fun sv iv wr => ∃ (n gn cn : Nat) (N O : Nat → Bool), sv = .slice (some ⟨gn, 0, none⟩) (s.size + 1) cn ∧ iv = .int .i64 (n : Int) ∧ n ≤ M + 1 ∧ Hid (gn ≠ g1) ∧ Hid (BR wr gn s.size N) ∧ Hid (BH wr g1 s.size O) ∧ Hid (Touch (fun k => k = g1) w1 wr) ∧ Hid (n = 0 ∨ pureB y = true) ∧ Hid (∀ zz, zz ≤ s.size → (N zz = true ↔ PF s.size (Way (str s) y) F n zz)) ∧ Hid (∀ zz, zz ≤ s.size → (O zz = true ↔ ∃ r, r < n ∧ least ≤ r ∧ PF s.size (Way (str s) y) F r zz))) (fun _ iv _ => M + 1 - (intOf iv).toNat)
    case atStart => exact ⟨0, g, c, F, fun _ => false, rfl, rfl, Nat.zero_le _, HGN, HF1, HB1, Lib.hid (Touch.refl _ _), Lib.hid (.inl rfl), Lib.hid (fun zz hz => pf_zero _ _ _ _ hz), Lib.hid (fun zz hz => ⟨fun h => (by cases h), fun ⟨r, h, _⟩ => absurd h (Nat.not_lt_zero _)⟩)⟩
    case round =>
      clear HF1 HB1 HGN
      obtain ⟨n, gn, cn, N, O, rfl, rfl, hn, HGN, HBN, HBO, HT, HPU, HN, HO⟩ := hrel
      by_cases hlt : n ≤ M
      · have q1 : decide ((n : Int) ≤ (M : Int)) = true := decide_eq_true (by omega)
        have q1n : decide (n ≤ M) = true := decide_eq_true hlt
        have wn := IntWalk.i64_in ((n : Int) + 1) (by have := HMB.out; omega)
        go_wp2_with fail
        go_loopw [13] (fun kv wz => ∃ k : Nat, kv = .int .i64 (k : Int) ∧ k ≤ s.size + 1 ∧ (k = 0 ∨ least ≤ n) ∧ Hid (BH wz g1 s.size (joinO O N k)) ∧ Hid (BR wz gn s.size N) ∧ Hid (Touch (fun k => k = g1) w1 wz)) (fun kv _ => s.size + 1 - (intOf kv).toNat)
        case atStart => exact ⟨0, rfl, Nat.zero_le _, .inl rfl, by rw [joinO_zero]; exact HBO, HBN, HT⟩
        case round =>
          clear HBO HBN HT
          obtain ⟨k, rfl, hk, hkn, HK, HK2, HTK⟩ := hrel
          have HTW : Hid (Still w wr) := Lib.hid (HT1.out.trans HTK.out (fun i e => .inr (by have := HG1.out; omega)))
          have k60 := (HCE.out wr HTW.out).2.1
          by_cases hgo : k ≤ s.size ∧ least ≤ n
          · obtain ⟨hks, hln⟩ := hgo
            have q2 : decide ((k : Int) ≤ (s.size : Int)) = true := decide_eq_true (by omega)
            have q2n : decide (k ≤ s.size) = true := decide_eq_true hks
            have q3 : decide ((least : Int) ≤ (n : Int)) = true := decide_eq_true (by omega)
            have q3n : decide (least ≤ n) = true := decide_eq_true hln
            have wk := IntWalk.i64_in ((k : Int) + 1) (by omega)
            have hkc : (k : Int) < (s.size : Int) + 1 := by omega
            obtain ⟨y0, z0⟩ := HK.out k hks
            rw [joinO_at] at y0
            have x0 := HK2.out k hks
            have HJ : Hid (∀ b : Bool, b = (O k || N k) → BH (wr.setCell ⟨g1, k, none⟩ (.bool b)) g1 s.size (joinO O N (k + 1))) := Lib.hid (fun b e => by
              rw [← joinO_next, e]
              exact HK.out.set hks _)
            have HX2 : Hid (∀ v, BR (wr.setCell ⟨g1, k, none⟩ v) gn s.size N) := Lib.hid (fun v => HK2.out.keep (Touch.setCell (Touch.refl (fun k => k = g1) wr) (.inl rfl) v) HGN.out)
            have HTZ : Hid (∀ v, Touch (fun k => k = g1) w1 (wr.setCell ⟨g1, k, none⟩ v)) := Lib.hid (fun v => HTK.out.setCell (.inl rfl) v)
            have HLN := Lib.hid hln
            clear hkn hln
            cases hO : O k with
            | true =>
              rw [hO] at y0
              have HJT : Hid (BH (wr.setCell ⟨g1, k, none⟩ (.bool true)) g1 s.size (joinO O N (k + 1))) := Lib.hid (HJ.out true (by rw [hO]; rfl))
              clear HJ hO
              go_wp2_with fail
              go_roundw
              case rel => exact ⟨k + 1, by go_num, by omega, .inr HLN.out, HJT, Lib.hid (HX2.out _), Lib.hid (HTZ.out _)⟩
              case measure => simp [intOf]; omega
            | false =>
              rw [hO] at y0
              have HJT : Hid (BH (wr.setCell ⟨g1, k, none⟩ (.bool (N k))) g1 s.size (joinO O N (k + 1))) := Lib.hid (HJ.out _ (by rw [hO]; rfl))
              clear HJ hO
              go_wp2_with fail
              go_roundw
              case rel => exact ⟨k + 1, by go_num, by omega, .inr HLN.out, HJT, Lib.hid (HX2.out _), Lib.hid (HTZ.out _)⟩
              case measure => simp [intOf]; omega
          · have hQ : ∃ O2 : Nat → Bool, BH wr g1 s.size O2 ∧ ∀ zz, zz ≤ s.size → (O2 zz = true ↔ ∃ r, r < n + 1 ∧ least ≤ r ∧ PF s.size (Way (str s) y) F r zz) := by
              refine ⟨joinO O N k, HK.out, fun zz hz => ?_⟩
              by_cases hln : least ≤ n
              · have hk2 : k = s.size + 1 := by omega
                rw [hk2, joinO_all _ _ _ _ hz, Bool.or_eq_true, HO.out zz hz, HN.out zz hz]
                constructor
                · rintro (⟨r, h1, h2⟩ | h)
                  · exact ⟨r, by omega, h2⟩
                  · exact ⟨n, by omega, hln, h⟩
                · rintro ⟨r, h1, h2, h3⟩
                  by_cases hr : r = n
                  · subst hr; exact .inr h3
                  · exact .inl ⟨r, by omega, h2, h3⟩
              · have hk2 : k = 0 := by omega
                rw [hk2, joinO_zero, HO.out zz hz]
                constructor
                · rintro ⟨r, h1, h2⟩; exact ⟨r, by omega, h2⟩
                · rintro ⟨r, h1, h2, h3⟩; exact ⟨r, by omega, h2, h3⟩
            obtain ⟨O2, hbo, ho2⟩ := hQ
            have HBO := Lib.hid hbo
            have HO2 := Lib.hid ho2
            have HC := Lib.hid (HQ.out wr gn cn N (HTT.out.then HTW.out) HK2.out)
            obtain ⟨k59, -, -, kk⟩ := HCE.out wr HTW.out
            have hc2 : (decide ((k : Int) ≤ (s.size : Int)) = false ∧ decide (k ≤ s.size) = false) ∨ (decide ((k : Int) ≤ (s.size : Int)) = true ∧ decide (k ≤ s.size) = true ∧ decide ((least : Int) ≤ (n : Int)) = false ∧ decide (least ≤ n) = false) := by
              by_cases h : k ≤ s.size
              · exact .inr ⟨decide_eq_true (by omega), decide_eq_true h, decide_eq_false (by omega), decide_eq_false (by omega)⟩
              · exact .inl ⟨decide_eq_false (by omega), decide_eq_false h⟩
            clear hbo ho2 hkn hgo HK
            rcases hc2 with ⟨q2, q2n⟩ | ⟨q2, q2n, q3, q3n⟩
            · go_wp2_with fail
              refine HC.out.mono ?_
              intro e w3 hG
              rcases hG with ⟨hp, g2, c2, F2, rfl, h1, h2, h4, h3⟩ | ⟨hp, ao, c2, rfl, h3⟩
              · have HT3 := Lib.hid (HTK.out.trans h3 (fun i e => e.elim))
                have HBO3 := Lib.hid (HBO.out.keep h3 id)
                have HB2 := Lib.hid h1
                have HNE : Hid (g2 ≠ g1) := Lib.hid (by have := HZ1.out; have := HTK.out.size; omega)
                have HP := Lib.hid hp
                have HN2 : Hid (∀ zz, zz ≤ s.size → (F2 zz = true ↔ PF s.size (Way (str s) y) F (n + 1) zz)) := Lib.hid (fun zz hz => by
                  rw [h2 zz hz, pf_succ HWL.out]
                  exact ⟨fun ⟨i, hi, hN, hw⟩ => ⟨i, hi, (HN.out i hi).1 hN, hw⟩, fun ⟨i, hi, hN, hw⟩ => ⟨i, hi, (HN.out i hi).2 hN, hw⟩⟩)
                clear h1 h2 h3 h4 hp k59 kk k60
                go_wp2_with fail
                go_roundw
                case rel => exact ⟨n + 1, g2, c2, F2, O2, rfl, by go_num, by omega, HNE, HB2, HBO3, HT3, Lib.hid (.inr HP.out), HN2, HO2⟩
                case measure => simp [intOf]; omega
              · have HT3 := Lib.hid (HTW.out.then h3)
                have HNP : Hid (pureB y = false) := Lib.hid hp
                clear h3 hp k59 kk k60
                go_wp2_with fail
                go_ret2
                exact .inr ⟨HNP.out, none, 0, rfl, HT3.out⟩
            · go_wp2_with fail
              refine HC.out.mono ?_
              intro e w3 hG
              rcases hG with ⟨hp, g2, c2, F2, rfl, h1, h2, h4, h3⟩ | ⟨hp, ao, c2, rfl, h3⟩
              · have HT3 := Lib.hid (HTK.out.trans h3 (fun i e => e.elim))
                have HBO3 := Lib.hid (HBO.out.keep h3 id)
                have HB2 := Lib.hid h1
                have HNE : Hid (g2 ≠ g1) := Lib.hid (by have := HZ1.out; have := HTK.out.size; omega)
                have HP := Lib.hid hp
                have HN2 : Hid (∀ zz, zz ≤ s.size → (F2 zz = true ↔ PF s.size (Way (str s) y) F (n + 1) zz)) := Lib.hid (fun zz hz => by
                  rw [h2 zz hz, pf_succ HWL.out]
                  exact ⟨fun ⟨i, hi, hN, hw⟩ => ⟨i, hi, (HN.out i hi).1 hN, hw⟩, fun ⟨i, hi, hN, hw⟩ => ⟨i, hi, (HN.out i hi).2 hN, hw⟩⟩)
                clear h1 h2 h3 h4 hp k59 kk k60
                go_wp2_with fail
                go_roundw
                case rel => exact ⟨n + 1, g2, c2, F2, O2, rfl, by go_num, by omega, HNE, HB2, HBO3, HT3, Lib.hid (.inr HP.out), HN2, HO2⟩
                case measure => simp [intOf]; omega
              · have HT3 := Lib.hid (HTW.out.then h3)
                have HNP : Hid (pureB y = false) := Lib.hid hp
                clear h3 hp k59 kk k60
                go_wp2_with fail
                go_ret2
                exact .inr ⟨HNP.out, none, 0, rfl, HT3.out⟩
      · obtain rfl : n = M + 1 := by omega
        have q1 : decide (((M + 1 : Nat) : Int) ≤ (M : Int)) = false := decide_eq_false (by omega)
        have q1n : decide (M + 1 ≤ M) = false := decide_eq_false hlt
        have HTW : Hid (Still w wr) := Lib.hid (HT1.out.trans HT.out (fun i e => .inr (by have := HG1.out; omega)))
        have HPY : Hid (pureB y = true) := Lib.hid (HPU.out.resolve_left (by omega))
        go_wp2_with fail
        go_ret2
        refine .inl ⟨HPY.out, g1, s.size + 1, O, rfl, HBO.out.br, fun zz hz => ?_, Nat.le_of_eq HG1.out, HTW.out⟩
        rw [HO.out zz hz]
        constructor
        · rintro ⟨r, h1, h2, i, hi, hF, h3⟩
          exact ⟨i, hi, hF, (HWAY.out i zz hi).1 ⟨r, h1, h2, h3⟩⟩
        · rintro ⟨i, hi, hF, h⟩
          obtain ⟨r, h1, h2, h3⟩ := (HWAY.out i zz hi).2 h
          exact ⟨r, h1, h2, i, hi, hF, h3⟩

set_option maxRecDepth 100000 in
set_option maxHeartbeats 8000000 in
/-- A repeat. -/
theorem ends_rep (wT : World) (s : ByteArray) (hs : s.size ≤ 5000) (b : Nat) (v : NV) (hv : NodeB wT b v) (hk : v.kind = 10) (a : Re) (hreps : ∀ (w : World) (g c : Nat) (F : Nat → Bool), Still wT w → BR w g s.size F → Calls Try.prog 56 #[.pointer (some ⟨b, 0, none⟩), .string s, .slice (some ⟨g, 0, none⟩) (s.size + 1) c] w (EndsP s a F w)) : EndsOK wT s (.pointer (some ⟨b, 0, none⟩)) a := by
  intro w g c F t hF
  have k0 := t.has hv.c0 id
  rw [hk] at k0
  have HF := Lib.hid hF
  have HQ := Lib.hid hreps
  have HTT := Lib.hid t
  have ws := IntWalk.i64_in ((s.size : Int) + 1) (by omega)
  clear hv t hF hreps
  go_enter Try.func35, Try.ntmps35
  go_wp2_with (at_make; (refine wpList_make_bools rfl (.tmp 20) rfl (s.size + 1) rfl (by omega) ?_); intro w1 hnew ht1; have HN1 := Lib.hid hnew; have HT1 := Lib.hid ht1; have k0 := ht1.has k0 id; clear hnew ht1)
  refine (HQ.out _ g c F (HTT.out.then HT1.out) (HF.out.keep HT1.out id)).mono ?_
  intro e w2 hG
  rcases hG with ⟨hp, g', c', F', rfl, h1, h2, h4, h3⟩ | ⟨hp, ao, c', rfl, h3⟩
  · have HR := Lib.hid (show EndsP s a F w (.returned (.tuple #[.slice (some ⟨g', 0, none⟩) (s.size + 1) c', .bool true])) w2 from .inl ⟨hp, g', c', F', rfl, h1, h2, Nat.le_trans HT1.out.size h4, HT1.out.then h3⟩)
    clear hp h1 h2 h3 h4
    go_wp2_with fail
    go_ret2
    exact HR.out
  · have HR := Lib.hid (show EndsP s a F w (.returned (.tuple #[.slice ao 0 c', .bool false])) w2 from .inr ⟨hp, ao, c', rfl, HT1.out.then h3⟩)
    clear hp h3
    go_wp2_with fail
    go_ret2
    exact HR.out
end Go.Proofs.Ytlgpilcjcomacaa
