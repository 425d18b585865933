/-
  The maker of patterns: rows, alternatives, a whole pattern. (Printed by wip/tools/grow07c.py.)
-/
import Derived.Test.YtlgpilcjcomacaaGreatGb
import Derived.Test.YtlgpilcjcomacaaGreatBi
namespace Go.Proofs.YtlgpilcjcomacaaGreat
open Go.RowKit Rx
set_option linter.unusedVariables false

/-- An atom is made. -/
theorem atom_grow (d : Nat) (hd : d ≤ 3) (hE : ∀ d', d = d' + 1 → EOK d') : AOK d := by
  intro w0 b ao len cap pl at' gs w h
  obtain ⟨k, at1, hk, ha, hl, -, hp⟩ := pick_det w0 b ao len cap pl at' 16 h.li h.le (by decide) (by decide)
  by_cases h11 : k < 11
  · have h7 := (cA_3 d hd).1
    exact (atom_low d w0 b ao len cap pl at' gs w h k at1 h11 ha hl hp).mono fun e w' ⟨x, can, at2, gs2, h1, h2, h3, h4⟩ => ⟨x, can, at2, gs2, h1, h2, by omega, h4⟩
  · cases d with
    | zero => exact atom_zero w0 b ao len cap pl at' gs w h k at1 (by omega) ha hp
    | succ d =>
      have hE := hE d rfl
      have hd : d ≤ 2 := by omega
      rw [show ((d + 1 : Nat) : Int) = (d : Int) + 1 from rfl]
      have hz : cA (d + 1) = cR d + 7 := rfl
      rw [hz]
      have hk' : k = 11 ∨ k = 12 ∨ k = 13 ∨ k = 14 ∨ k = 15 := by omega
      rcases hk' with rfl | rfl | rfl | rfl | rfl
      · by_cases hg : gs < 9
        · exact atom_grp11 d hd hE w0 b ao len cap pl at' gs w h at1 ha hl hg hp
        · cases pl with
          | true => exact atom_pl11 d hd hE w0 b ao len cap at' gs w h at1 ha hl (by omega) hp
          | false => exact atom_no11 d hd hE w0 b ao len cap at' gs w h at1 ha hl (by omega) hp
      · by_cases hg : gs < 9
        · exact atom_grp12 d hd hE w0 b ao len cap pl at' gs w h at1 ha hl hg hp
        · cases pl with
          | true => exact atom_pl12 d hd hE w0 b ao len cap at' gs w h at1 ha hl (by omega) hp
          | false => exact atom_no12 d hd hE w0 b ao len cap at' gs w h at1 ha hl (by omega) hp
      · exact atom_13 d hd hE w0 b ao len cap pl at' gs w h at1 ha hl hp
      · cases pl with
        | true => exact atom_pl14 d hd hE w0 b ao len cap at' gs w h at1 ha hl hp
        | false =>
          by_cases hg : gs = 0
          · exact atom_no14 d hd hE w0 b ao len cap at' gs w h at1 ha hl hg hp
          · exact atom_ref14 d hd hE w0 b ao len cap at' gs w h at1 ha hl (by omega) hp
      · cases pl with
        | true => exact atom_pl15 d hd hE w0 b ao len cap at' gs w h at1 ha hl hp
        | false => exact atom_no15 d hd hE w0 b ao len cap at' gs w h at1 ha hl hp

theorem str_ne {x : ByteArray} (h : 0 < x.size) : str x ≠ [] := fun e => by
  have := str_len x
  rw [e] at this
  simp at this
  omega
theorem str_app_ne (x : ByteArray) {y : ByteArray} (h : 0 < y.size) : str (x ++ y) ≠ [] := str_ne (by rw [ByteArray.size_append]; omega)

/-- How often: one of seven. -/
theorem suffix_at (w : World) (k : Nat) (hk : k < 7) : ∃ z : ByteArray, (w.alloc (.cells #[.string ⟨#[42]⟩, .string ⟨#[43]⟩, .string ⟨#[63]⟩, .string ⟨#[123, 50, 125]⟩, .string ⟨#[123, 49, 44, 125]⟩, .string ⟨#[123, 48, 44, 50, 125]⟩, .string ⟨#[123, 49, 44, 51, 125]⟩] 9)).cell? ⟨w.heap.size, k, none⟩ = some (.string z) ∧ z.size ≤ 5 ∧ shutS (str z) := by
  have hk' : k = 0 ∨ k = 1 ∨ k = 2 ∨ k = 3 ∨ k = 4 ∨ k = 5 ∨ k = 6 := by omega
  rcases hk' with rfl | rfl | rfl | rfl | rfl | rfl | rfl
  · exact ⟨⟨#[42]⟩, (Holds.made w _ _ 0 _ rfl).1, by decide, shut_no40 (by decide)⟩
  · exact ⟨⟨#[43]⟩, (Holds.made w _ _ 1 _ rfl).1, by decide, shut_no40 (by decide)⟩
  · exact ⟨⟨#[63]⟩, (Holds.made w _ _ 2 _ rfl).1, by decide, shut_no40 (by decide)⟩
  · exact ⟨⟨#[123, 50, 125]⟩, (Holds.made w _ _ 3 _ rfl).1, by decide, shut_no40 (by decide)⟩
  · exact ⟨⟨#[123, 49, 44, 125]⟩, (Holds.made w _ _ 4 _ rfl).1, by decide, shut_no40 (by decide)⟩
  · exact ⟨⟨#[123, 48, 44, 50, 125]⟩, (Holds.made w _ _ 5 _ rfl).1, by decide, shut_no40 (by decide)⟩
  · exact ⟨⟨#[123, 49, 44, 51, 125]⟩, (Holds.made w _ _ 6 _ rfl).1, by decide, shut_no40 (by decide)⟩

set_option maxRecDepth 100000 in
set_option maxHeartbeats 8000000 in
/-- A row is made. -/
theorem row_grow (d : Nat) (hd : d ≤ 3) (hA : AOK d) : ROK d := by
  intro w0 b ao len cap pl at' gs w h
  obtain ⟨ki, at1, hki, ha1, hl1, -, hpi⟩ := pick_det w0 b ao len cap pl at' 4 h.li h.le (by decide) (by decide)
  have HPI := Lib.hid (hpi gs w h)
  have HA := Lib.hid hA
  have HLI := Lib.hid h.li
  have hcA := (cA_3 d hd).2
  have hll := h.li.le
  clear h hpi hA hd
  go_enter Tryz.func54, Tryz.ntmps54
  go_wp2_with fail
  refine HPI.out.mono ?_
  rintro e w1 ⟨rfl, hg, ht⟩
  have HG1 := Lib.hid hg
  have HT1 := Lib.hid ht
  clear HPI hg ht
  go_wp2_with fail
  go_loopw [5, 6] (fun sv iv wr => ∃ (x : ByteArray) (j at2 gs2 : Nat), sv = .string x ∧ iv = .int .i64 (j : Int) ∧ j ≤ 3 ∧ at' ≤ at2 ∧ Hid (x.size + 100000 * at' ≤ 100000 * at2 + (3 - j) * (cA d + 6)) ∧ Hid (GR w0 b ao len cap pl at2 gs2 wr) ∧ Hid (pl = true → goodS (str x)) ∧ Hid (Touch (fun i => i = b) w wr)) (fun _ iv _ => (intOf iv).toNat)
  case atStart => exact ⟨⟨#[]⟩, ki, at1, gs, rfl, rfl, by omega, ha1, Lib.hid (by show 0 + _ ≤ _; omega), HG1, Lib.hid (fun _ => good_nil), HT1⟩
  case round =>
    obtain ⟨x, j, at2, gs2, rfl, rfl, hj3, hat2, HSZ, HG, HGD, HT⟩ := hrel
    have HEND : Hid (x.size + 100000 * at' ≤ 100000 * at2 + cR d) := Lib.hid (by have h1 := HSZ.out; have h2 : (3 - j) * (cA d + 6) ≤ 3 * (cA d + 6) := Nat.mul_le_mul_right _ (by omega); unfold cR; omega)
    by_cases hj : j = 0
    · have q1 : decide (0 < (j : Int)) = false := decide_eq_false (by omega)
      have q1n : decide (0 < j) = false := decide_eq_false (by omega)
      go_wp2_with fail
      go_ret
      exact ⟨x, at2, gs2, rfl, hat2, HEND.out, HG.out, HGD.out, HT.out⟩
    · have q1 : decide (0 < (j : Int)) = true := decide_eq_true (by omega)
      have q1n : decide (0 < j) = true := decide_eq_true (by omega)
      by_cases h60 : x.size < 60
      · have q2 : decide ((x.size : Int) < 60) = true := decide_eq_true (by omega)
        have q2n : decide (x.size < 60) = true := decide_eq_true h60
        have HMUL : Hid ((3 - (j - 1)) * (cA d + 6) = (3 - j) * (cA d + 6) + (cA d + 6)) := Lib.hid (by rw [show 3 - (j - 1) = (3 - j) + 1 by omega, Nat.succ_mul])
        have wj := IntWalk.i64_in ((j : Int) - 1) (by omega)
        go_wp2_with fail
        refine (HA.out _ _ _ _ _ _ _ _ _ HG.out).mono ?_
        rintro e w4 ⟨ax, can, at3, gs3, rfl, ha3, hxs, hg, hgood, hpos, ht⟩
        have hl3 := hg.le
        have hax : ax.size ≤ 1759218604441602000 := by omega
        have HGDA := Lib.hid hgood
        have HG4 := Lib.hid hg
        have HT4 := Lib.hid (HT.out.then ht)
        have HPOS := Lib.hid hpos
        have hs1 : x.size + ax.size ≤ 9223372036854775807 := by omega
        have HXS := Lib.hid hxs
        clear hg hgood ht hpos hxs
        cases can with
        | false =>
          go_wp2_with fail
          go_roundw
          case rel => exact ⟨x ++ ax, j - 1, at3, gs3, rfl, by go_num, by omega, by omega, Lib.hid (by rw [ByteArray.size_append]; have h1 := HSZ.out; have h2 := HMUL.out; have h3 := HXS.out; omega), HG4, Lib.hid (fun hpl => by rw [str_append]; exact good_append (HGD.out hpl) (HGDA.out hpl)), HT4⟩
          case measure => simp [intOf]; omega

        | true =>
          obtain ⟨k2, at4, hk2, ha4, hl4, -, h2⟩ := pick_det w0 b ao len cap pl at3 2 HLI.out hl3 (by decide) (by decide)
          have H2 := Lib.hid (h2 gs3 w4 HG4.out)
          clear h2
          go_wp2_with fail
          refine H2.out.mono ?_
          rintro e w4 ⟨rfl, hg, ht⟩
          have HG5 := Lib.hid hg
          have HT5 := Lib.hid (HT4.out.then ht)
          clear hg ht
          by_cases hk : k2 = 1
          · subst hk
            obtain ⟨k7, at5, hk7, ha5, hl5, -, h7⟩ := pick_det w0 b ao len cap pl at4 7 HLI.out hl4 (by decide) (by decide)
            obtain ⟨k6, at6, hk6, ha6, hl6, -, h6⟩ := pick_det w0 b ao len cap pl at5 6 HLI.out hl5 (by decide) (by decide)
            obtain ⟨z, hz, hz5, hzs⟩ := suffix_at w4 k7 hk7
            have H7 := Lib.hid (h7 gs3 (w4.alloc (.cells #[.string ⟨#[42]⟩, .string ⟨#[43]⟩, .string ⟨#[63]⟩, .string ⟨#[123, 50, 125]⟩, .string ⟨#[123, 49, 44, 125]⟩, .string ⟨#[123, 48, 44, 50, 125]⟩, .string ⟨#[123, 49, 44, 51, 125]⟩] 9)) (HG5.out.keep ((Touch.refl (fun _ => False) w4).alloc _)))
            have H6 := Lib.hid h6
            have HZ := Lib.hid hz
            have HZS := Lib.hid hzs
            have HNE : Hid (w4.heap.size ≠ b) := Lib.hid (grow_new HG5.out.c0)
            have hs2 : x.size + ax.size + z.size ≤ 9223372036854775807 := by omega
            have hs3 : x.size + ax.size + z.size + 1 ≤ 9223372036854775807 := by omega
            clear h7 h6 hz hzs
            go_wp2_with fail
            refine H7.out.mono ?_
            rintro e w6 ⟨rfl, hg, ht⟩
            have HG6 := Lib.hid hg
            have hz6 := ht.has HZ.out HNE.out
            have HT6 := Lib.hid ((HT5.out.alloc _).then ht)
            have HP6 := Lib.hid (H6.out gs3 w6 hg)
            have hk7i : (k7 : Int) < 7 := by omega
            clear hg ht H7 H6
            go_wp2_with fail
            refine HP6.out.mono ?_
            rintro e w7 ⟨rfl, hg, ht⟩
            have HG7 := Lib.hid hg
            have HT7 := Lib.hid (HT6.out.then ht)
            have g3 := hg.c3
            clear hg ht HP6 hz6
            have HGZ : Hid (pl = true → goodS (str (x ++ ax ++ z))) := Lib.hid (fun hpl => by rw [str_append]; exact good_shut (by rw [str_append]; exact good_append (HGD.out hpl) (HGDA.out hpl)) (str_app_ne x HPOS.out) HZS.out)
            have HNEZ : Hid (str (x ++ ax ++ z) ≠ []) := Lib.hid (str_ne (by rw [ByteArray.size_append, ByteArray.size_append]; have := HPOS.out; omega))
            by_cases h61 : k6 = 1
            · subst h61
              go_wp2_with fail
              go_roundw
              case rel => exact ⟨x ++ ax ++ z ++ ⟨#[63]⟩, j - 1, at6, gs3, rfl, by go_num, by omega, by omega, Lib.hid (by rw [ByteArray.size_append, ByteArray.size_append, ByteArray.size_append]; have h1 := HSZ.out; have h2 := HMUL.out; have h3 := HXS.out; show x.size + ax.size + z.size + 1 + _ ≤ _; omega), HG7, Lib.hid (fun hpl => by rw [str_append]; exact good_shut (HGZ.out hpl) HNEZ.out (shut_no40 (by decide))), HT7⟩
              case measure => simp [intOf]; omega

            · have n1 : ((k6 : Int) == 1) = false := by simp; omega
              have n1n : (k6 == 1) = false := by simp; omega
              by_cases h62 : k6 = 2
              · subst h62
                cases pl with
                | true =>
                  go_wp2_with fail
                  go_roundw
                  case rel => exact ⟨x ++ ax ++ z, j - 1, at6, gs3, rfl, by go_num, by omega, by omega, Lib.hid (by rw [ByteArray.size_append, ByteArray.size_append]; have h1 := HSZ.out; have h2 := HMUL.out; have h3 := HXS.out; omega), HG7, Lib.hid (fun hpl => HGZ.out hpl), HT7⟩
                  case measure => simp [intOf]; omega

                | false =>
                  go_wp2_with fail
                  go_roundw
                  case rel => exact ⟨x ++ ax ++ z ++ ⟨#[43]⟩, j - 1, at6, gs3, rfl, by go_num, by omega, by omega, Lib.hid (by rw [ByteArray.size_append, ByteArray.size_append, ByteArray.size_append]; have h1 := HSZ.out; have h2 := HMUL.out; have h3 := HXS.out; show x.size + ax.size + z.size + 1 + _ ≤ _; omega), HG7, Lib.hid (fun hpl => by cases hpl), HT7⟩
                  case measure => simp [intOf]; omega

              · have n2 : ((k6 : Int) == 2) = false := by simp; omega
                have n2n : (k6 == 2) = false := by simp; omega
                go_wp2_with fail
                go_roundw
                case rel => exact ⟨x ++ ax ++ z, j - 1, at6, gs3, rfl, by go_num, by omega, by omega, Lib.hid (by rw [ByteArray.size_append, ByteArray.size_append]; have h1 := HSZ.out; have h2 := HMUL.out; have h3 := HXS.out; omega), HG7, Lib.hid (fun hpl => HGZ.out hpl), HT7⟩
                case measure => simp [intOf]; omega

          · have n2 : ((k2 : Int) == 1) = false := by simp; omega
            have n2n : (k2 == 1) = false := by simp; omega
            go_wp2_with fail
            go_roundw
            case rel => exact ⟨x ++ ax, j - 1, at4, gs3, rfl, by go_num, by omega, by omega, Lib.hid (by rw [ByteArray.size_append]; have h1 := HSZ.out; have h2 := HMUL.out; have h3 := HXS.out; omega), HG5, Lib.hid (fun hpl => by rw [str_append]; exact good_append (HGD.out hpl) (HGDA.out hpl)), HT5⟩
            case measure => simp [intOf]; omega

      · have q2 : decide ((x.size : Int) < 60) = false := decide_eq_false (by omega)
        have q2n : decide (x.size < 60) = false := decide_eq_false h60
        go_wp2_with fail
        go_ret
        exact ⟨x, at2, gs2, rfl, hat2, HEND.out, HG.out, HGD.out, HT.out⟩

/-- How many numbers are used. -/
def usedAt (b : Nat) (w : World) : Nat := match w.cell? ⟨b, 1, none⟩ with | some v => (intOf v).toNat | none => 0
theorem used_gr {w0 : World} {b : Nat} {ao : Option Addr} {len cap : Nat} {pl : Bool} {at' gs : Nat} {w : World} (h : GR w0 b ao len cap pl at' gs w) : usedAt b w = at' := by
  unfold usedAt
  rw [h.c1.1]
  simp [intOf]

set_option maxRecDepth 100000 in
set_option maxHeartbeats 8000000 in
/-- Alternatives are made. -/
theorem either_grow (d : Nat) (hd : d ≤ 3) (hR : ROK d) : EOK d := by
  intro w0 b ao len cap pl at' gs w h
  have HR := Lib.hid hR
  have HLI := Lib.hid h.li
  have HG0 := Lib.hid h
  have hcA := (cA_3 d hd).2
  have hcR : cR d ≤ 1600 := by unfold cR; omega
  have hll := h.li.le
  clear h hR hd hcA
  go_enter Tryz.func42, Tryz.ntmps42
  go_wp2_with fail
  refine (HR.out _ _ _ _ _ _ _ _ _ HG0.out).mono ?_
  rintro e w1 ⟨x1, at1, gs1, rfl, ha1, hx1, hg, hgood, ht⟩
  have HG1 := Lib.hid hg
  have HT1 := Lib.hid ht
  have HD1 := Lib.hid hgood
  have HX1 := Lib.hid hx1
  clear hg ht hgood hx1
  go_wp2_with fail
  go_loopw [5] (fun sv wr => ∃ (x : ByteArray) (at2 gs2 : Nat), sv = .string x ∧ at' ≤ at2 ∧ Hid (x.size + 100000 * at' ≤ 100000 * at2 + cR d) ∧ Hid (GR w0 b ao len cap pl at2 gs2 wr) ∧ Hid (pl = true → goodS (str x)) ∧ Hid (Touch (fun i => i = b) w wr)) (fun _ wr => len - usedAt b wr)
  case atStart => exact ⟨x1, at1, gs1, rfl, ha1, HX1, HG1, HD1, HT1⟩
  case round =>
    obtain ⟨x, at2, gs2, rfl, hat2, HSZ, HG, HGD, HT⟩ := hrel
    have hl2 := HG.out.le
    obtain ⟨k, at3, hk, ha3, hl3, hk0, hp⟩ := pick_det w0 b ao len cap pl at2 4 HLI.out hl2 (by decide) (by decide)
    have HP := Lib.hid (hp gs2 wr HG.out)
    have HUS : Hid (usedAt b wr = at2) := Lib.hid (used_gr HG.out)
    clear hp
    go_wp2_with fail
    refine HP.out.mono ?_
    rintro e w3 ⟨rfl, hg, ht⟩
    have HG3 := Lib.hid hg
    have HT3 := Lib.hid (HT.out.then ht)
    clear hg ht HP
    by_cases h1 : k = 1
    · subst h1
      have hlt : at2 < at3 := hk0 (by decide)
      have hs0 : x.size + 1 ≤ 9223372036854775807 := by have := HSZ.out; omega
      go_wp2_with fail
      refine (HR.out _ _ _ _ _ _ _ _ _ HG3.out).mono ?_
      rintro e w4 ⟨y, at4, gs4, rfl, ha4, hy, hg, hgood, ht⟩
      have hl4 := hg.le
      have hs1 : x.size + 1 + y.size ≤ 9223372036854775807 := by have := HSZ.out; omega
      have HG4 := Lib.hid hg
      have HT4 := Lib.hid (HT3.out.then ht)
      have HDY := Lib.hid hgood
      have HY := Lib.hid hy
      have HU4 : Hid (usedAt b w4 = at4) := Lib.hid (used_gr hg)
      clear hg ht hgood hy
      go_wp2_with fail
      go_roundw
      case rel => exact ⟨x ++ ⟨#[124]⟩ ++ y, at4, gs4, rfl, by omega, Lib.hid (by rw [size_app3]; have h1 := HSZ.out; have h2 := HY.out; show x.size + 1 + y.size + _ ≤ _; omega), HG4, Lib.hid (fun hpl => by rw [str_append, str_append]; exact good_append (good_append (HGD.out hpl) (good_no40 (by decide) (by decide))) (HDY.out hpl)), HT4⟩
      case measure => rw [HUS.out, HU4.out]; omega
    · have n2 : ((k : Int) == 1) = false := by simp; omega
      have n2n : (k == 1) = false := by simp; omega
      go_wp2_with fail
      go_ret
      exact ⟨x, at3, gs2, rfl, by omega, by have := HSZ.out; omega, HG3.out, HGD.out, HT3.out⟩

/-- At every depth. -/
theorem grow_all : ∀ d, d ≤ 3 → EOK d
  | 0, h => either_grow 0 h (row_grow 0 h (atom_grow 0 h (fun d' e => by cases e)))
  | d + 1, h => either_grow (d + 1) h (row_grow (d + 1) h (atom_grow (d + 1) h (fun d' e => by cases e; exact grow_all d (by omega))))

theorem read_a : (readP [97]).isSome = true := by kernel_rfl

set_option maxRecDepth 100000 in
set_option maxHeartbeats 4000000 in
/-- A pattern is made: it can be read; plainly made it does not look ahead. -/
theorem grown_any (ao : Option Addr) (len cap : Nat) (pl : Bool) (w : World) (h : IntsIn w ao len cap) :
    Calls Tryz.prog 22 #[.slice ao len cap, .bool pl] w fun e w' => ∃ (p : ByteArray) (a : Re) (G : Nat), e = .returned (.string p) ∧ readP (str p) = some (a, G) ∧ (pl = true → noLook (.grp 0 a)) ∧ Still w w' := by
  have hg1 : GR w w.heap.size ao len cap pl 0 0 (w.alloc (.cells #[.slice ao len cap, .int .i64 0, .int .i64 0, .bool pl] 103)) :=
    ⟨(Holds.made w _ _ 0 _ rfl).1, Holds.made w _ _ 1 _ rfl, Holds.made w _ _ 2 _ rfl, (Holds.made w _ _ 3 _ rfl).1, h, (Touch.refl _ _).alloc _, Nat.le_refl _, Nat.zero_le _, Nat.zero_le _⟩
  have HE := Lib.hid (grow_all 3 (Nat.le_refl _) _ _ _ _ _ _ _ _ _ hg1)
  have HR := Lib.hid (fun s w => rread_any s w)
  have HA : Hid (∃ (a : Re) (G : Nat), readP (str ⟨#[97]⟩) = some (a, G) ∧ (pl = true → noLook (.grp 0 a))) := Lib.hid (by
    obtain ⟨⟨a, G⟩, hz⟩ := Option.isSome_iff_exists.1 read_a
    exact ⟨a, G, hz, fun _ => read_no hz (good_no40 (by decide) (by decide)).1.1⟩)
  clear hg1 h
  go_enter Tryz.func22, Tryz.ntmps22
  go_wp2_with fail
  refine HE.out.mono ?_
  rintro e w1 ⟨x, at2, gs2, rfl, -, -, hg, hgood, ht⟩
  have HT := Lib.hid hg.tr
  have HGD := Lib.hid hgood
  clear hg hgood ht HE
  go_wp2_with fail
  refine (HR.out x w1).mono ?_
  intro e w2 hG
  cases hr : readP (str x) with
  | none =>
    rw [hr] at hG
    obtain ⟨pv, gv, rfl, ht⟩ := hG
    have HT2 := Lib.hid (HT.out.then ht)
    clear ht hr
    go_wp2_with fail
    go_ret
    obtain ⟨a, G, h1, h2⟩ := HA.out
    exact ⟨_, a, G, rfl, h1, h2, HT2.out⟩
  | some q =>
    obtain ⟨a, G⟩ := q
    rw [hr] at hG
    obtain ⟨b, rfl, ht, -, -⟩ := hG
    have HT2 := Lib.hid (HT.out.then ht)
    have HRD := Lib.hid hr
    clear ht hr
    go_wp2_with fail
    go_ret
    exact ⟨x, a, G, rfl, HRD.out, fun hpl => read_no HRD.out (HGD.out hpl).1.1, HT2.out⟩
end Go.Proofs.YtlgpilcjcomacaaGreat
