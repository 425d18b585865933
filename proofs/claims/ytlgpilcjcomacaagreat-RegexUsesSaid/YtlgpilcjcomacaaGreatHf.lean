/-
  The program's Replace.
-/
import Derived.Test.YtlgpilcjcomacaaGreatHe
import Derived.Deep.DeepCutAuto
namespace Go.Proofs.YtlgpilcjcomacaaGreat
open Go.RowKit Rx
set_option linter.unusedVariables false

theorem chain_len {L G : Nat} : ∀ (l : List Grp) (j : Nat), Chain L G j l → j ≤ L + 1 → l.length + j ≤ L + 1
  | [], j, _, h => by simp; exact h
  | g :: l, j, h, hj => by
    obtain ⟨⟨x, hm⟩, hc⟩ := h
    have h1 := nextJ_lt hm
    have h2 := chain_len l (nextJ g) hc h1.2.2
    rw [List.length_cons]
    omega
/-- What all gives lies in the text. -/
theorem allV_got {s t : ByteArray} {bu : Int} {G : Nat} {l : List Grp} (h : allV t bu (readP (str s)) = .got G l) : t.size ≤ 5000 ∧ Chain t.size G 0 l ∧ l.length ≤ 5001 := by
  cases hr : readP (str s) with
  | none => rw [hr] at h; cases h
  | some x =>
    obtain ⟨a, G'⟩ := x
    rw [hr] at h
    have h : (if askOK t.size 0 bu = true then allRes G' (everyR (str t) bu.toNat (.grp 0 a) 0 0) else .err 1) = AllR.got G l := h
    split at h
    · rename_i hok
      have hin : t.size ≤ 5000 ∧ 0 ≤ (0 : Int) ∧ (0 : Int) ≤ (t.size : Int) ∧ 0 ≤ bu ∧ bu ≤ 1000000 := of_decide_eq_true hok
      cases he : everyR (str t) bu.toNat (.grp 0 a) 0 0 with
      | none => rw [he] at h; cases h
      | some l' =>
        rw [he] at h
        injection h with h1 h2
        subst h1
        subst h2
        have hc := everyR_chain (read_fit hr) he
        rw [str_len] at hc
        have := chain_len _ _ hc (Nat.zero_le _)
        exact ⟨hin.1, hc, by omega⟩
    · cases h

theorem allV_err {s t : ByteArray} {bu : Int} {c : Int} (h : allV t bu (readP (str s)) = .err c) : c ≠ 0 := by
  cases hr : readP (str s) with
  | none => rw [hr] at h; injection h with h; omega
  | some x =>
    obtain ⟨a, G'⟩ := x
    rw [hr] at h
    have h : (if askOK t.size 0 bu = true then allRes G' (everyR (str t) bu.toNat (.grp 0 a) 0 0) else .err 1) = AllR.err c := h
    split at h
    · cases he : everyR (str t) bu.toNat (.grp 0 a) 0 0 with
      | none => rw [he] at h; injection h with h; omega
      | some l' => rw [he] at h; cases h
    · injection h with h; omega

theorem fill_len (s : List UInt8) (g : Grp) : ∀ n (r : List UInt8), r.length ≤ n → (fillR s g r).length ≤ r.length * (s.length + 1) := by
  intro n
  induction n with
  | zero => intro r h; cases r with
    | nil => simp [fillR]
    | cons c r => simp at h
  | succ n ih =>
    intro r h
    match r with
    | [] => simp [fillR]
    | [c] => simp [fillR]
    | c :: d :: r =>
      have h1 := ih r (by simp at h; omega)
      have h2 := ih (d :: r) (by simp at h ⊢; omega)
      have h3 : (c :: d :: r).length * (s.length + 1) = r.length * (s.length + 1) + (s.length + 1) + (s.length + 1) := by
        simp only [List.length_cons, Nat.add_mul, Nat.one_mul]
      have h4 : (d :: r).length * (s.length + 1) = r.length * (s.length + 1) + (s.length + 1) := by
        simp only [List.length_cons, Nat.add_mul, Nat.one_mul]
      rw [h3]
      rw [h4] at h2
      unfold fillR
      split
      · split
        · simp only [List.length_cons]; omega
        · split
          · split
            · have h5 := cutS_len s (g (d.toNat - 48)).1 (g (d.toNat - 48)).2
              rw [List.length_append]
              omega
            · omega
          · simp only [List.length_cons]; omega
      · simp only [List.length_cons]; omega

/-- What Replace gives. -/
def replV (t y : ByteArray) : AllR → ByteArray × Int
  | .err c => (⟨#[]⟩, c)
  | .got _ l => (bs (replR (str t) (str y) 0 l), 0)
def ReplP (w : World) (r : ByteArray × Int) (e : Ending) (w' : World) : Prop := e = .returned (.tuple #[.string r.1, .int .i64 r.2]) ∧ Still w w'

theorem cutS_nat (s : List UInt8) (i j : Nat) : cutS s (i : Int) (j : Int) = (s.drop i).take (j - i) := by unfold cutS; simp
theorem ext_cut (s : ByteArray) (i j : Nat) : str (s.extract i j) = cutS (str s) (i : Int) (j : Int) := by rw [str_ext, cutS_nat]
theorem bs_append (a b : List UInt8) : bs a ++ bs b = bs (a ++ b) := by
  apply ByteArray.ext
  rw [ByteArray.data_append]
  simp [bs]

/-- A match of the row, read. -/
theorem ml_at {w : World} {G : Nat} {x : Option Addr} {l : List Grp} {vs : List Value} (hr : RowAt w x vs) (hm : ML w G (fun _ => True) l vs) {j : Nat} {g : Grp} (hg : l[j]? = some g) :
    ∃ b bg : Nat, x = some ⟨b, 0, none⟩ ∧ w.cell? ⟨b, j, none⟩ = some (.slice (some ⟨bg, 0, none⟩) (G + 1) (G + 1)) ∧ PairsAt w G bg g := by
  obtain ⟨bg, h1, -, h2⟩ := ML.get l vs j g hm hg
  obtain ⟨b, h3, h4⟩ := hr j _ h1
  exact ⟨b, bg, h3, h4, h2⟩
theorem gv_zero (g : Grp) : gv g 0 = .int .i64 (g 0).1 := rfl
theorem gv_one (g : Grp) : gv g 1 = .int .i64 (g 0).2 := rfl

set_option maxRecDepth 100000 in
set_option maxHeartbeats 8000000 in
theorem replace_any (s t y : ByteArray) (bu : Int) (hy : y.size ≤ 1000) (w : World) :
    Calls Tryz.prog 14 #[.string s, .string t, .string y, .int .i64 bu] w (ReplP w (replV t y (allV t bu (readP (str s))))) := by
  have h0 := all_any s t bu w
  have HGOT := Lib.hid (fun G l (h : allV t bu (readP (str s)) = .got G l) => allV_got h)
  have HERR := Lib.hid (fun c (h : allV t bu (readP (str s)) = .err c) => allV_err h)
  generalize allV t bu (readP (str s)) = rr at h0 HGOT HERR ⊢
  have HA := Lib.hid h0
  clear h0
  go_enter Tryz.func14, Tryz.ntmps14
  go_wp2_with fail
  refine HA.out.mono ?_
  intro e w1 hG
  clear HA
  cases rr with
  | err c =>
    obtain ⟨rfl, ht⟩ := hG
    have HT := Lib.hid ht
    have hc0 : (c != 0) = true := by have := HERR.out c rfl; simp; exact this
    clear ht
    go_wp2_with fail
    go_ret2
    exact ⟨rfl, HT.out⟩
  | got G l =>
    obtain ⟨x, cp, vs, rfl, hcp, hrow, hml, hG9, ht⟩ := hG
    obtain ⟨hts, hch, hl5⟩ := HGOT.out G l rfl
    have HROW := Lib.hid hrow
    have HML := Lib.hid hml
    have HCH := Lib.hid hch
    obtain ⟨w2, hw2⟩ : ∃ w2, w1.alloc (.cells #[.pointer none, .slice none 0 0] 78) = w2 := ⟨_, rfl⟩
    obtain ⟨B, hB⟩ : ∃ B, w1.heap.size = B := ⟨_, rfl⟩
    have HB := Lib.hid hB
    have HB2 : Hid (Bld B B [] w2) := Lib.hid (by rw [← hw2, ← hB]; exact bld_new w1)
    have HT12 : Hid (Still w1 w2) := Lib.hid (by rw [← hw2]; exact (Touch.refl _ _).alloc _)
    have HTW := Lib.hid ht
    clear hrow hml hch ht
    go_wp2_with fail
    clear hw2 hB
    go_loopw [13, 28] (fun av jv wr => ∃ (p j k : Nat) (o : List UInt8), av = .int .i64 (p : Int) ∧ jv = .int .i64 (j : Int) ∧ j ≤ l.length ∧ p ≤ k ∧ p ≤ t.size ∧ o.length ≤ j * 6000000 ∧ Hid (Bld B B o wr) ∧ Hid (Still w1 wr) ∧ Hid (Chain t.size G k (l.drop j)) ∧ Hid (replR (str t) (str y) 0 l = o ++ replR (str t) (str y) p (l.drop j))) (fun _ jv _ => l.length - (intOf jv).toNat)
    case atStart => exact ⟨0, 0, 0, [], rfl, rfl, Nat.zero_le _, Nat.le_refl _, Nat.zero_le _, Nat.zero_le _, HB2, HT12, HCH, Lib.hid rfl⟩
    case round =>
      clear HB2 HT12 HCH
      obtain ⟨p, j, k, o, rfl, rfl, hj, hpk, hpt, ho, HBL, HT, HC, HE⟩ := hrel
      have hBw : B ≤ wr.heap.size := by have h1 := HT.out.size; have h2 := HB.out; omega
      by_cases hlt : j < l.length
      · have q1 : decide ((j : Int) < (l.length : Int)) = true := decide_eq_true (by omega)
        have q1n : decide (j < l.length) = true := decide_eq_true hlt
        have hji : (j : Int) < (l.length : Int) := by omega
        have wj := IntWalk.i64_in ((j : Int) + 1) (by omega)
        obtain ⟨g, hg⟩ : ∃ g, l[j]? = some g := ⟨_, List.getElem?_eq_getElem hlt⟩
        have hdr : l.drop j = g :: l.drop (j + 1) := by
          rw [List.drop_eq_getElem_cons hlt]
          rw [List.getElem?_eq_getElem hlt] at hg
          rw [Option.some.inj hg]
        have hc := HC.out
        rw [hdr] at hc
        obtain ⟨⟨x1, hma⟩, hc2⟩ := hc
        obtain ⟨b, bg, hx, hcj, hpa⟩ := ml_at HROW.out HML.out hg
        subst hx
        have hnj := nextJ_lt hma
        have HMA := Lib.hid hma
        obtain ⟨⟨i, hi1, hi2, hi3, hi4⟩, hgf⟩ := hma
        have HG0 := Lib.hid hi4
        have HC2 := Lib.hid hc2
        have HDR := Lib.hid hdr
        have HNJ := Lib.hid hnj
        have HPA := Lib.hid hpa
        have hcj := HT.out.has hcj id
        have hpr := hpa.keep HT.out id
        have p0 : wr.cell? ⟨bg, 0, none⟩ = some (.int .i64 (i : Int)) := by have h1 := hpr 0 (by omega); rw [h1, gv_zero, hi4]
        have hti : ((i : Int)).toNat = i := by omega
        have hpi : (p : Int) ≤ (i : Int) := by omega
        have hit : (i : Int) ≤ (t.size : Int) := by omega
        have HFL := Lib.hid (fill_len (str t) g _ (str y) (Nat.le_refl _))
        have HW := Lib.hid (bwrite_any B B o (t.extract p i) wr HBL.out (by rw [← str_len, ext_cut]; have := cutS_len (str t) (p : Int) (i : Int); rw [str_len] at this; omega) hBw)
        have HFI := Lib.hid (fun (w : World) (hpa : PairsAt w G bg g) => filled_any y t g G bg (G + 1) w hts (by omega) hG9 hgf hpa (Nat.le_refl _))
        clear hi4 hc2 hdr hpr hg hgf hnj hpa
        go_wp2_with fail
        refine HW.out.mono ?_
        rintro e w3 ⟨rfl, hb, hbl⟩
        have HB3 := Lib.hid hb
        have ht3 : Still w1 w3 := below_still hbl HT.out (by have := HB.out; omega)
        have HT3 := Lib.hid ht3
        have HF3 := Lib.hid (HFI.out w3 (HPA.out.keep ht3 id))
        clear hb hbl ht3 hcj p0 HW
        go_wp2_with fail
        refine HF3.out.mono ?_
        rintro e w4 ⟨rfl, ht⟩
        have HB4 := Lib.hid (bld_still HB3.out ht)
        have ht4 := HT3.out.then ht
        have HT4 := Lib.hid ht4
        have hfl := HFL.out
        rw [str_len, str_len] at hfl
        have hcl := cutS_len (str t) (p : Int) (i : Int)
        rw [str_len] at hcl
        have hmul : y.size * (t.size + 1) ≤ 1000 * 5001 := Nat.mul_le_mul hy (by omega)
        have HLN : Hid ((o ++ str (t.extract p i) ++ str (bs (fillR (str t) g (str y)))).length ≤ (j + 1) * 6000000) := Lib.hid (by
          rw [List.length_append, List.length_append, ext_cut, str_bs]
          omega)
        have HW4 := Lib.hid (bwrite_any B B (o ++ str (t.extract p i)) (bs (fillR (str t) g (str y))) w4 HB4.out (by rw [bs_size, List.length_append, ext_cut]; omega) (by have h1 := ht4.size; have h2 := HB.out; omega))
        clear ht ht4 hfl hcl hmul HF3
        go_wp2_with fail
        refine HW4.out.mono ?_
        rintro e w5 ⟨rfl, hb, hbl⟩
        have HB5 := Lib.hid hb
        have ht5 : Still w1 w5 := below_still hbl HT4.out (by have := HB.out; omega)
        have HT5 := Lib.hid ht5
        have p1 : w5.cell? ⟨bg, 1, none⟩ = some (.int .i64 (x1 : Int)) := by have h1 := (HPA.out.keep ht5 id) 1 (by omega); rw [h1, gv_one, HG0.out]
        clear hb hbl ht5 HW4
        go_wp2_with fail
        go_roundw
        case rel => exact ⟨x1, j + 1, nextJ g, o ++ str (t.extract p i) ++ str (bs (fillR (str t) g (str y))), rfl, by go_num, by omega, HNJ.out.2.1, by omega, HLN.out, HB5, HT5, HC2, Lib.hid (by
          rw [HE.out, HDR.out, str_bs, ext_cut]
          show o ++ (cutS (str t) (p : Int) (g 0).1 ++ (fillR (str t) g (str y) ++ replR (str t) (str y) (g 0).2.toNat (l.drop (j + 1)))) = _
          rw [HG0.out]
          simp)⟩
        case measure => simp [intOf]; omega
      · obtain rfl : j = l.length := by omega
        have q1 : decide ((l.length : Int) < (l.length : Int)) = false := decide_eq_false (by omega)
        have HEQ : Hid (replR (str t) (str y) 0 l = o ++ (str t).drop p) := Lib.hid (by rw [HE.out, List.drop_length]; rfl)
        have hpt' : (p : Int) ≤ (t.size : Int) := by omega
        have hx0 : (bs o).size ≤ 40000000000 := by rw [bs_size]; omega
        have hx1 : (bs o).size + (t.extract p t.size).size ≤ 9223372036854775807 := by rw [ByteArray.size_extract]; omega
        have hx2 : (bs o).size + (t.size - p) ≤ 9223372036854775807 := by omega
        have HS := Lib.hid (fun w' (ht : Still wr w') => bstring_any B B o w' (bld_still HBL.out ht) (by have := ht.size; omega))
        go_wp2_with fail
        go_region_with (go_at_call 37; refine (HS.out _ (Touch.drew (Touch.refl _ _))).mono ?_; rintro e w3 ⟨rfl, hb⟩; have HT3 := Lib.hid (below_still hb (HT.out.then (Touch.drew (Touch.refl _ _))) (by have := HB.out; omega)); clear hb)
        all_goals
          go_wp2_with fail
          go_ret2
          refine ⟨?_, HTW.out.then HT3.out⟩
          show Ending.returned (.tuple #[.string (bs o ++ t.extract p t.size), .int .i64 0]) = .returned (.tuple #[.string (bs (replR (str t) (str y) 0 l)), .int .i64 0])
          rw [HEQ.out, ← bs_append, ← str_ext_end]
          rfl
end Go.Proofs.YtlgpilcjcomacaaGreat
