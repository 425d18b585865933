/-
  The program's All and Split. (Printed by wip/tools/split07.py.)
-/
import Derived.Test.YtlgpilcjcomacaaGreatHf
namespace Go.Proofs.YtlgpilcjcomacaaGreat
open Go.RowKit Rx
set_option linter.unusedVariables false

/-- The places of matches, as cells. -/
def pl : List Grp → List Value
  | [] => []
  | g :: l => .int .i64 (g 0).1 :: .int .i64 (g 0).2 :: pl l
theorem pl_len : ∀ l : List Grp, (pl l).length = l.length * 2
  | [] => rfl
  | g :: l => by show (pl l).length + 1 + 1 = _; rw [pl_len l, List.length_cons]; omega
theorem pl_snoc : ∀ (l : List Grp) (g : Grp), pl (l ++ [g]) = pl l ++ [.int .i64 (g 0).1, .int .i64 (g 0).2]
  | [], g => rfl
  | h :: l, g => by show _ :: _ :: pl (l ++ [g]) = _; rw [pl_snoc l g]; rfl
theorem pl_get : ∀ (l : List Grp) (j : Nat) (g : Grp), l[j]? = some g → (pl l)[j * 2]? = some (.int .i64 (g 0).1) ∧ (pl l)[j * 2 + 1]? = some (.int .i64 (g 0).2)
  | [], j, g, h => by simp at h
  | h0 :: l, 0, g, h => by simp at h; subst h; exact ⟨rfl, rfl⟩
  | h0 :: l, j + 1, g, h => by
    simp at h
    have h1 := pl_get l j g h
    rw [show (j + 1) * 2 = j * 2 + 1 + 1 by omega]
    exact h1
/-- Places of matches in memory. -/
def PairRow (w : World) (x : Option Addr) (l : List Grp) : Prop := ∀ j g, l[j]? = some g → ∃ b, x = some ⟨b, 0, none⟩ ∧ w.cell? ⟨b, j * 2, none⟩ = some (.int .i64 (g 0).1) ∧ w.cell? ⟨b, j * 2 + 1, none⟩ = some (.int .i64 (g 0).2)
theorem PairRow.keep {w w' : World} {x : Option Addr} {l : List Grp} (h : PairRow w x l) (t : Still w w') : PairRow w' x l := fun j g hg => by
  obtain ⟨b, h1, h2, h3⟩ := h j g hg
  exact ⟨b, h1, t.has h2 id, t.has h3 id⟩
theorem owns_pairs {w : World} {lo : Nat} {e : TypeId} {x : Option Addr} {cp : Nat} {l : List Grp} (h : w.ownsRow lo e 2 (.slice x l.length cp) l.length (pl l)) : PairRow w x l ∧ l.length ≤ cp := by
  rcases h.2 with ⟨e1, e2⟩ | ⟨g0, cap, cur, e1, hb, hgg, hc, hr⟩
  · injection e1 with a1 a2 a3
    refine ⟨fun j g hg => ?_, by omega⟩
    have h2 := (List.getElem?_eq_some_iff.1 hg).1
    omega
  · injection e1 with a1 a2 a3
    subst a3
    refine ⟨fun j g hg => ⟨g0, a1, ?_, ?_⟩, hc⟩
    · have h2 := h.cells (g := g0) (by rw [a1]; rfl) (j * 2) _ (pl_get l j g hg).1
      rw [Addr.add_mid, Nat.zero_add] at h2
      exact h2
    · have h2 := h.cells (g := g0) (by rw [a1]; rfl) (j * 2 + 1) _ (pl_get l j g hg).2
      rw [Addr.add_mid, Nat.zero_add] at h2
      exact h2
theorem news2 {w : World} {b : Nat} {u v : Value} (h1 : w.cell? ⟨b, 0, none⟩ = some u) (h2 : w.cell? ⟨b, 1, none⟩ = some v) : ∀ j z, ([u, v] : List Value)[j]? = some z → w.cell? ((⟨b, 0, none⟩ : Addr).add j) = some z := by
  intro j z hz
  rw [Addr.add_mid, Nat.zero_add]
  match j, hz with
  | 0, hz => simp at hz; subst hz; exact h1
  | 1, hz => simp at hz; subst hz; exact h2
  | j + 2, hz => simp at hz
theorem alloc_two (w : World) (u v : Value) (T : TypeId) : (w.alloc (.cells #[u, v] T)).cell? ⟨w.heap.size, 0, none⟩ = some u ∧ (w.alloc (.cells #[u, v] T)).cell? ⟨w.heap.size, 1, none⟩ = some v := by simp [go_sem]

/-- What All gives. -/
def AllQ (w : World) : AllR → Ending → World → Prop
  | .err c, e, w' => e = .returned (.tuple #[.slice none 0 0, .int .i64 c]) ∧ Still w w'
  | .got _ l, e, w' => ∃ x cp, e = .returned (.tuple #[.slice x l.length cp, .int .i64 0]) ∧ l.length ≤ cp ∧ PairRow w' x l ∧ Still w w'

/-- A row that grows leaves what is elder. -/
theorem grown_still {w1 wr w4 w5 : World} {e : TypeId} {sz n : Nat} {v : Value} {xs : List Value} (ho : wr.ownsRow w1.heap.size e sz v n xs) (h1 : Still w1 wr) (h4 : Still wr w4) (hg : w4.grownBy w5 v.ownBlock) : Still w1 w5 :=
  (h1.then h4).grown hg (fun k hk => .inr (ho.lt k hk).1)

set_option maxRecDepth 100000 in
set_option maxHeartbeats 8000000 in
theorem allq_any (s t : ByteArray) (bu : Int) (w : World) :
    Calls Tryz.prog 12 #[.string s, .string t, .int .i64 bu] w (AllQ w (allV t bu (readP (str s)))) := by
  have h0 := all_any s t bu w
  have HGOT := Lib.hid (fun G l (h : allV t bu (readP (str s)) = .got G l) => allV_got h)
  generalize allV t bu (readP (str s)) = rr at h0 HGOT ⊢
  have HA := Lib.hid h0
  clear h0
  go_enter Tryz.func12, Tryz.ntmps12
  go_wp2_with fail
  refine HA.out.mono ?_
  intro e w1 hG
  clear HA
  cases rr with
  | err c =>
    obtain ⟨rfl, ht⟩ := hG
    have HT := Lib.hid ht
    clear ht
    go_wp2_with fail
    go_loopw [10, 22] (fun ov jv wr => ov = .slice none 0 0 ∧ jv = .int .i64 0 ∧ Hid (Still w1 wr)) (fun _ _ _ => 0)
    case atStart => exact ⟨rfl, rfl, Lib.hid (Touch.refl _ _)⟩
    case round =>
      obtain ⟨rfl, rfl, HT1⟩ := hrel
      go_wp2_with fail
      go_ret2
      exact ⟨rfl, HT.out.then HT1.out⟩
  | got G l =>
    obtain ⟨x, cp, vs, rfl, hcp, hrow, hml, hG9, ht⟩ := hG
    obtain ⟨hts, hch, hl5⟩ := HGOT.out G l rfl
    have HROW := Lib.hid hrow
    have HML := Lib.hid hml
    have HTW := Lib.hid ht
    clear hrow hml hch ht
    obtain ⟨i0, hinfo, hz0, hz1, hz2⟩ := info_parts infoPair'
    have HI := Lib.hid hinfo
    have HZ := Lib.hid (And.intro hz0 (And.intro hz1 hz2))
    clear hinfo hz0 hz1 hz2
    go_wp2_with fail
    go_loopw [10, 22] (fun ov jv wr => ∃ (j : Nat) (ox : Option Addr) (oc : Nat), ov = .slice ox j oc ∧ jv = .int .i64 (j : Int) ∧ j ≤ l.length ∧ Hid (wr.ownsRow w1.heap.size 39 2 (.slice ox j oc) j (pl (l.take j))) ∧ Hid (Still w1 wr)) (fun _ jv _ => l.length - (intOf jv).toNat)
    case atStart => exact ⟨0, none, 0, rfl, rfl, Nat.zero_le _, Lib.hid (World.ownsRow_nil _ _ _ _), Lib.hid (Touch.refl _ _)⟩
    case round =>
      obtain ⟨j, ox, oc, rfl, rfl, hj, HO, HT⟩ := hrel
      by_cases hlt : j < l.length
      · have q1 : decide ((j : Int) < (l.length : Int)) = true := decide_eq_true (by omega)
        have q1n : decide (j < l.length) = true := decide_eq_true hlt
        have hji : (j : Int) < (l.length : Int) := by omega
        have wj := IntWalk.i64_in ((j : Int) + 1) (by omega)
        obtain ⟨g, hg⟩ : ∃ g, l[j]? = some g := ⟨_, List.getElem?_eq_getElem hlt⟩
        obtain ⟨b, bg, hx, hcj, hpa⟩ := ml_at HROW.out HML.out hg
        subst hx
        have htk : pl (l.take (j + 1)) = pl (l.take j) ++ [.int .i64 (g 0).1, .int .i64 (g 0).2] := by
          rw [List.take_add_one, hg]
          exact pl_snoc _ _
        have HTK := Lib.hid htk
        have hcj := HT.out.has hcj id
        have hpr := hpa.keep HT.out id
        have p0 : wr.cell? ⟨bg, 0, none⟩ = some (.int .i64 (g 0).1) := hpr 0 (by omega)
        have p1 : wr.cell? ⟨bg, 1, none⟩ = some (.int .i64 (g 0).2) := hpr 1 (by omega)
        have hl2 := alloc_two wr (.int .i64 (g 0).1) (.int .i64 (g 0).2) 39
        have HL2 := Lib.hid hl2
        have HWS := Lib.hid HT.out.size
        clear htk hpr hpa hg hl2
        go_wp2_with (at_builtin; refine wpList_append_lies _ rfl (.tmp 26) (.tmp 30) 32 rfl w1.heap.size 39 i0 (.agg #[.int .i64 0, .int .i64 0]) 2 16 Tryz.underlying32 HI.out HZ.out.1 HZ.out.2.1 HZ.out.2.2 rfl (by decide) _ _ _ rfl (HO.out.alloc _) ⟨wr.heap.size, 0, none⟩ 1 1 [.int .i64 (g 0).1, .int .i64 (g 0).2] rfl rfl (news2 HL2.out.1 HL2.out.2) (by intro v hv; simp at hv; rcases hv with rfl | rfl <;> rfl) (by decide) (by unfold maxLen; omega) (by omega) (by have := HWS.out; simp; omega) _ rfl ?_; intro g' cp' w5 hown hgrow hat hlt'; have HT5 := Lib.hid (grown_still HO.out HT.out ((Touch.refl (fun _ => False) wr).alloc _) hgrow); have HO5 := Lib.hid hown; clear hown hgrow hat hlt' hcj p0 p1)
        go_roundw
        case rel => exact ⟨j + 1, some ⟨g', 0, none⟩, cp', rfl, by go_num, by omega, by rw [HTK.out]; exact HO5, HT5⟩
        case measure => simp [intOf]; omega
      · obtain rfl : j = l.length := by omega
        have q1 : decide ((l.length : Int) < (l.length : Int)) = false := decide_eq_false (by omega)
        have ho := HO.out
        rw [List.take_length] at ho
        have HP := Lib.hid (owns_pairs ho)
        clear ho
        go_wp2_with fail
        go_ret2
        exact ⟨ox, oc, rfl, HP.out.2, HP.out.1, HTW.out.then HT.out⟩

/-- Strings in memory. -/
def strs (l : List (List UInt8)) : List Value := l.map (fun a => .string (bs a))
theorem strs_snoc (l : List (List UInt8)) (a : List UInt8) : strs (l ++ [a]) = strs l ++ [.string (bs a)] := by simp [strs]
/-- What Split gives. -/
def SplitP (t : ByteArray) (w : World) : AllR → Ending → World → Prop
  | .err c, e, w' => e = .returned (.tuple #[.slice none 0 0, .int .i64 c]) ∧ Still w w'
  | .got _ l, e, w' => ∃ x cp, e = .returned (.tuple #[.slice x (splitR (str t) 0 l).length cp, .int .i64 0]) ∧ (splitR (str t) 0 l).length ≤ cp ∧ RowAt w' x (strs (splitR (str t) 0 l)) ∧ Still w w'
theorem infoS : (Tryz.prog.info? 9).map (fun i => (i.zero, i.size, i.bytes)) = some (some (.string ⟨#[]⟩), 1, 16) := by kernel_rfl
theorem split_len (s : List UInt8) : ∀ (l : List Grp) (j : Nat), (splitR s j l).length ≤ l.length + 1
  | [], j => by simp [splitR]
  | g :: l, j => by
    unfold splitR
    split
    · have := split_len s l j; rw [List.length_cons]; omega
    · have := split_len s l (g 0).2.toNat; rw [List.length_cons, List.length_cons]; omega

set_option maxRecDepth 100000 in
set_option maxHeartbeats 8000000 in
theorem split_any (s t : ByteArray) (bu : Int) (w : World) :
    Calls Tryz.prog 16 #[.string s, .string t, .int .i64 bu] w (SplitP t w (allV t bu (readP (str s)))) := by
  have h0 := allq_any s t bu w
  have HGOT := Lib.hid (fun G l (h : allV t bu (readP (str s)) = .got G l) => allV_got h)
  have HERR := Lib.hid (fun c (h : allV t bu (readP (str s)) = .err c) => allV_err h)
  generalize allV t bu (readP (str s)) = rr at h0 HGOT HERR ⊢
  have HA := Lib.hid h0
  clear h0
  go_enter Tryz.func16, Tryz.ntmps16
  go_wp2_with fail
  refine HA.out.mono ?_
  intro e w1 hG
  clear HA
  cases rr with
  | err c =>
    obtain ⟨rfl, ht⟩ := hG
    have HT := Lib.hid ht
    have hc0 : (c != 0) = true := by have := HERR.out c rfl; simp; exact this
    clear ht
    go_wp2_with fail
    go_ret2
    exact ⟨rfl, HT.out⟩
  | got G l =>
    obtain ⟨x, cp, rfl, hcp, hrow, ht⟩ := hG
    obtain ⟨hts, hch, hl5⟩ := HGOT.out G l rfl
    have HROW := Lib.hid hrow
    have HCH := Lib.hid hch
    have HTW := Lib.hid ht
    have HLEN := Lib.hid (split_len (str t) l 0)
    clear hrow hch ht
    obtain ⟨i0, hinfo, hz0, hz1, hz2⟩ := info_parts infoS
    have HI := Lib.hid hinfo
    have HZ := Lib.hid (And.intro hz0 (And.intro hz1 hz2))
    clear hinfo hz0 hz1 hz2
    go_wp2_with fail
    go_loopw [10, 11, 26] (fun ov av jv wr => ∃ (j p k : Nat) (d : List (List UInt8)) (ox : Option Addr) (oc : Nat), ov = .slice ox d.length oc ∧ av = .int .i64 (p : Int) ∧ jv = .int .i64 (j : Int) ∧ j ≤ l.length ∧ d.length ≤ j ∧ p ≤ k ∧ p ≤ t.size ∧ Hid (wr.ownsRow w1.heap.size 9 1 (.slice ox d.length oc) d.length (strs d)) ∧ Hid (Still w1 wr) ∧ Hid (Chain t.size G k (l.drop j)) ∧ Hid (splitR (str t) 0 l = d ++ splitR (str t) p (l.drop j))) (fun _ _ jv _ => l.length - (intOf jv).toNat)
    case atStart => exact ⟨0, 0, 0, [], none, 0, rfl, rfl, rfl, Nat.zero_le _, Nat.le_refl _, Nat.le_refl _, Nat.zero_le _, Lib.hid (World.ownsRow_nil _ _ _ _), Lib.hid (Touch.refl _ _), HCH, Lib.hid rfl⟩
    case round =>
      clear HCH
      obtain ⟨j, p, k, d, ox, oc, rfl, rfl, rfl, hj, hd, hpk, hpt, HO, HT, HC, HE⟩ := hrel
      have HWS := Lib.hid HT.out.size
      by_cases hlt : j < l.length
      · have q1 : decide ((j : Int) < (l.length : Int)) = true := decide_eq_true (by omega)
        have q1n : decide (j < l.length) = true := decide_eq_true hlt
        have hji : (j : Int) < (l.length : Int) := by omega
        have wj := IntWalk.i64_in ((j : Int) + 1) (by omega)
        obtain ⟨g, hg⟩ : ∃ g, l[j]? = some g := ⟨_, List.getElem?_eq_getElem hlt⟩
        have hdr : l.drop j = g :: l.drop (j + 1) := by
          rw [List.drop_eq_getElem_cons hlt]
          rw [List.getElem?_eq_getElem hlt] at hg
          rw [Option.some.inj hg]
        have hc := HC.out
        rw [hdr] at hc
        obtain ⟨⟨x1, hma⟩, hc2⟩ := hc
        have HNJ := Lib.hid (nextJ_lt hma)
        obtain ⟨⟨i, hi1, hi2, hi3, hi4⟩, -⟩ := hma
        obtain ⟨b, hx, p0, p1⟩ := HROW.out j g hg
        subst hx
        rw [hi4] at p0 p1
        have p0 := HT.out.has p0 id
        have p1 := HT.out.has p1 id
        have HC2 := Lib.hid hc2
        have HDR : Hid (splitR (str t) p (l.drop j) = if i = x1 ∧ (i = p ∨ i = t.size) then splitR (str t) p (l.drop (j + 1)) else cutS (str t) (p : Int) (i : Int) :: splitR (str t) x1 (l.drop (j + 1))) := Lib.hid (by
          rw [hdr]
          show (if (g 0).1 = (g 0).2 ∧ ((g 0).1 = (p : Int) ∨ (g 0).1 = ((str t).length : Int)) then splitR (str t) p (l.drop (j + 1)) else cutS (str t) (p : Int) (g 0).1 :: splitR (str t) (g 0).2.toNat (l.drop (j + 1))) = _
          rw [hi4, str_len]
          simp only [Int.toNat_natCast, Int.natCast_inj])
        have hti : ((i : Int)).toNat = i := by omega
        have hpi : (p : Int) ≤ (i : Int) := by omega
        have hit : (i : Int) ≤ (t.size : Int) := by omega
        clear hi4 hc2 hdr hg
        have HOA : Hid ((wr.alloc (.cells #[.int .i64 (i : Int), .int .i64 (x1 : Int)] 39)).ownsRow w1.heap.size 9 1 (.slice ox d.length oc) d.length (strs d)) := Lib.hid (HO.out.alloc _)
        have HTA : Hid (Still w1 (wr.alloc (.cells #[.int .i64 (i : Int), .int .i64 (x1 : Int)] 39))) := Lib.hid (HT.out.alloc _)
        by_cases hix : i = x1
        · have q2 : ((i : Int) == (x1 : Int)) = true := by simp; omega
          by_cases hip : i = p
          · have q3 : ((i : Int) == (p : Int)) = true := by simp; omega
            have HQ : Hid (i = x1 ∧ (i = p ∨ i = t.size)) := Lib.hid ⟨hix, .inl hip⟩
            clear hix hip
            go_wp2_with fail
            go_roundw
            case rel => exact ⟨j + 1, p, nextJ g, d, ox, oc, rfl, rfl, by go_num, by omega, by omega, by have := HNJ.out; omega, by omega, HOA, HTA, HC2, Lib.hid (by rw [HE.out, HDR.out, if_pos HQ.out])⟩
            case measure => simp [intOf]; omega
          · have q3 : ((i : Int) == (p : Int)) = false := by simp; omega
            by_cases hie : i = t.size
            · have q4 : ((i : Int) == (t.size : Int)) = true := by simp; omega
              have HQ : Hid (i = x1 ∧ (i = p ∨ i = t.size)) := Lib.hid ⟨hix, .inr hie⟩
              clear hix hip hie
              go_wp2_with fail
              go_roundw
              case rel => exact ⟨j + 1, p, nextJ g, d, ox, oc, rfl, rfl, by go_num, by omega, by omega, by have := HNJ.out; omega, by omega, HOA, HTA, HC2, Lib.hid (by rw [HE.out, HDR.out, if_pos HQ.out])⟩
              case measure => simp [intOf]; omega
            · have q4 : ((i : Int) == (t.size : Int)) = false := by simp; omega
              have HQ : Hid (¬ (i = x1 ∧ (i = p ∨ i = t.size))) := Lib.hid (fun h => h.2.elim hip hie)
              clear hix hip hie
              go_wp2_with (at_builtin; refine wpList_append_lies _ rfl (.tmp 48) (.tmp 54) 44 rfl w1.heap.size 9 i0 (.string ⟨#[]⟩) 1 16 Tryz.underlying44 HI.out HZ.out.1 HZ.out.2.1 HZ.out.2.2 rfl (by decide) _ _ _ rfl ((HO.out.alloc _).alloc _) ⟨wr.heap.size + 1, 0, none⟩ 1 1 [.string (t.extract p i)] rfl rfl (news1 (by simp [go_sem])) (by intro v hv; rw [List.mem_singleton.1 hv]; rfl) (by decide) (by unfold maxLen; omega) (by omega) (by have := HWS.out; simp; omega) _ rfl ?_; intro g' cp' w5 hown hgrow hat hlt'; have ht5 := grown_still HO.out HT.out (((Touch.refl (fun _ => False) wr).alloc _).alloc _) hgrow; have c1 := hgrow.cell_far ⟨wr.heap.size, 1, none⟩ (by simp; omega) (fun e => absurd (HO.out.lt _ e.symm).2 (Nat.lt_irrefl _)); have c1 : w5.cell? ⟨wr.heap.size, 1, none⟩ = some (.int .i64 (x1 : Int)) := (c1.trans (by simp [go_sem])); have HT5 := Lib.hid ht5; have HO5 := Lib.hid hown; clear hown hgrow hat hlt' ht5 p0 p1)
              go_roundw
              case rel => exact ⟨j + 1, x1, nextJ g, d ++ [cutS (str t) (p : Int) (i : Int)], some ⟨g', 0, none⟩, cp', by simp, rfl, by go_num, by omega, by simp; omega, HNJ.out.2.1, hi3, by rw [strs_snoc, List.length_append]; have h1 := HO5.out; rw [show t.extract p i = bs (cutS (str t) (p : Int) (i : Int)) by rw [← ext_cut]; rfl] at h1; exact Lib.hid h1, HT5, HC2, Lib.hid (by rw [HE.out, HDR.out, if_neg HQ.out]; simp)⟩
              case measure => simp [intOf]; omega
        · have q2 : ((i : Int) == (x1 : Int)) = false := by simp; omega
          have HQ : Hid (¬ (i = x1 ∧ (i = p ∨ i = t.size))) := Lib.hid (fun h => hix h.1)
          clear hix
          go_wp2_with (at_builtin; refine wpList_append_lies _ rfl (.tmp 48) (.tmp 54) 44 rfl w1.heap.size 9 i0 (.string ⟨#[]⟩) 1 16 Tryz.underlying44 HI.out HZ.out.1 HZ.out.2.1 HZ.out.2.2 rfl (by decide) _ _ _ rfl ((HO.out.alloc _).alloc _) ⟨wr.heap.size + 1, 0, none⟩ 1 1 [.string (t.extract p i)] rfl rfl (news1 (by simp [go_sem])) (by intro v hv; rw [List.mem_singleton.1 hv]; rfl) (by decide) (by unfold maxLen; omega) (by omega) (by have := HWS.out; simp; omega) _ rfl ?_; intro g' cp' w5 hown hgrow hat hlt'; have ht5 := grown_still HO.out HT.out (((Touch.refl (fun _ => False) wr).alloc _).alloc _) hgrow; have c1 := hgrow.cell_far ⟨wr.heap.size, 1, none⟩ (by simp; omega) (fun e => absurd (HO.out.lt _ e.symm).2 (Nat.lt_irrefl _)); have c1 : w5.cell? ⟨wr.heap.size, 1, none⟩ = some (.int .i64 (x1 : Int)) := (c1.trans (by simp [go_sem])); have HT5 := Lib.hid ht5; have HO5 := Lib.hid hown; clear hown hgrow hat hlt' ht5 p0 p1)
          go_roundw
          case rel => exact ⟨j + 1, x1, nextJ g, d ++ [cutS (str t) (p : Int) (i : Int)], some ⟨g', 0, none⟩, cp', by simp, rfl, by go_num, by omega, by simp; omega, HNJ.out.2.1, hi3, by rw [strs_snoc, List.length_append]; have h1 := HO5.out; rw [show t.extract p i = bs (cutS (str t) (p : Int) (i : Int)) by rw [← ext_cut]; rfl] at h1; exact Lib.hid h1, HT5, HC2, Lib.hid (by rw [HE.out, HDR.out, if_neg HQ.out]; simp)⟩
          case measure => simp [intOf]; omega
      · obtain rfl : j = l.length := by omega
        have q1 : decide ((l.length : Int) < (l.length : Int)) = false := decide_eq_false (by omega)
        have HEQ : Hid (splitR (str t) 0 l = d ++ [(str t).drop p]) := Lib.hid (by rw [HE.out, List.drop_length]; rfl)
        have hpt' : (p : Int) ≤ (t.size : Int) := by omega
        have hl1 := alloc_cell0 wr (.string (t.extract p t.size)) 9
        have HL1 := Lib.hid hl1
        clear hl1
        go_wp2_with (at_builtin; refine wpList_append_lies _ rfl (.tmp 59) (.tmp 63) 44 rfl w1.heap.size 9 i0 (.string ⟨#[]⟩) 1 16 Tryz.underlying44 HI.out HZ.out.1 HZ.out.2.1 HZ.out.2.2 rfl (by decide) _ _ _ rfl (HO.out.alloc _) ⟨wr.heap.size, 0, none⟩ 1 1 [.string (t.extract p t.size)] rfl rfl (news1 HL1.out) (by intro v hv; rw [List.mem_singleton.1 hv]; rfl) (by decide) (by unfold maxLen; omega) (by omega) (by have := HWS.out; simp; omega) _ rfl ?_; intro g' cp' w5 hown hgrow hat hlt'; have ht5 := grown_still HO.out HT.out ((Touch.refl (fun _ => False) wr).alloc _) hgrow; have HT5 := Lib.hid ht5; have HO5 := Lib.hid hown; clear hown hgrow hat hlt' ht5)
        go_ret2
        show ∃ x cp, _ ∧ _
        rw [HEQ.out]
        have h1 := HO5.out
        rw [show t.extract p t.size = bs ((str t).drop p) by rw [← str_ext_end]; rfl, ← strs_snoc] at h1
        have h2 := owns_row h1
        exact ⟨some ⟨g', 0, none⟩, cp', by simp, by simpa using h2.2, h2.1, HTW.out.then HT5.out⟩
      end Go.Proofs.YtlgpilcjcomacaaGreat
