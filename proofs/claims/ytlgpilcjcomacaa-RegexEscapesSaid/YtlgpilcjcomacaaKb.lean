/-
  Escape: the program's, the document's. (Printed by wip/tools/esc07.py.)
-/
import Derived.Test.YtlgpilcjcomacaaKa
import Derived.Test.YtlgpilcjcomacaaHf
import Derived.Lib.ConvBytes
namespace Go.Proofs.Ytlgpilcjcomacaa
open Go.Shelf Go.RowKit Rx
set_option linter.unusedVariables false

theorem ib_spec (c : UInt8) : decide (0 ≤ Lib.indexByte specB c) = specB.contains c := by
  rw [ib_contains, Bool.eq_iff_iff, List.contains_iff_mem, List.contains_iff_mem, List.mem_map]
  constructor
  · rintro ⟨a, h1, h2⟩; rw [← UInt8.toNat.inj h2]; exact h1
  · intro h; exact ⟨c, h, rfl⟩
theorem spec_enc {c : UInt8} (h : specB.contains c = true) : Utf8.encode (c.toNat : Int) = ⟨#[c]⟩ := by
  have h1 : c.toNat < 128 := by
    rcases spec_nums h with rfl | rfl | rfl | rfl | rfl | rfl | rfl | rfl | rfl | rfl | rfl | rfl | rfl | rfl <;> decide
  have hv : Utf8.valid (c.toNat : Int) = true := by unfold Utf8.valid; simp; omega
  unfold Utf8.encode
  simp [hv, h1]

/-- The world behind the conversion to bytes. -/
theorem bytes_still (w : World) (e : TypeId) (s : ByteArray) : Still w (Lib.bytesWorld w e s) :=
  ⟨rfl, rfl, rfl, by rw [Lib.bytesWorld_size]; omega, fun k hk _ => Lib.bytesWorld_at_old w e s k hk⟩

theorem escB_nl : escB 10 = [92, 110] := rfl
theorem escB_tab : escB 9 = [92, 116] := rfl
theorem escB_spec {c : UInt8} (h1 : c ≠ 10) (h2 : c ≠ 9) (h3 : specB.contains c = true) : escB c = [92, c] := by unfold escB; rw [if_neg h1, if_neg h2, if_pos h3]
theorem escB_self {c : UInt8} (h1 : c ≠ 10) (h2 : c ≠ 9) (h3 : specB.contains c = false) : escB c = [c] := by unfold escB; rw [if_neg h1, if_neg h2, if_neg (by rw [h3]; decide)]
theorem one_ext {s : ByteArray} {j : Nat} (h : j < s.size) : s.extract j (j + 1) = bs [s[j]'h] := by
  have e : str (s.extract j (j + 1)) = [s[j]'h] := by
    rw [str_ext, drop_at h, show j + 1 - j = 1 by omega]
    rfl
  rw [← e]
  rfl

/-- Every block but the builder's, and but a row of bytes that nothing is marked in, stands. -/
def Kept0 (b : Nat) (w w' : World) : Prop := ∀ k o, w.heap[k]? = some o → k ≠ b → (∀ c, o ≠ .cells c 5 (0, 0)) → w'.heap[k]? = some o
theorem Kept0.trans {b : Nat} {w w1 w2 : World} (h : Kept0 b w w1) (h2 : Kept0 b w1 w2) : Kept0 b w w2 := fun k o hk hb ho => h2 k o (h k o hk hb ho) hb ho
/-- A builder that has not been read. -/
def Bld0 (B b : Nat) (l : List UInt8) (w : World) : Prop := Lib.IsBuilder 83 5 B b (Lib.byteCells l) w
theorem bld0_still {B b : Nat} {l : List UInt8} {w w' : World} (h : Bld0 B b l w) (t : Still w w') : Bld0 B b l w' := by
  have key : ∀ p, Lib.BuilderAt 83 5 B b p (Lib.byteCells l) w → Lib.BuilderAt 83 5 B b p (Lib.byteCells l) w' := by
    rintro p ⟨hB, v, hbk, hown, hne⟩
    exact ⟨hB, v, (t.block b (Array.getElem?_eq_some_iff.1 hbk).1 id).trans hbk, owns_keep hown t (fun _ e => e.elim), hne⟩
  exact h.elim (fun x => .inl (key _ x)) (fun x => .inr (key _ x))
abbrev Bld1 (B b : Nat) (l : List Value) (w : World) : Prop := Lib.BuilderAt 83 5 B b (.pointer (some ⟨b, 0, none⟩)) l w

theorem check0 (B b : Nat) (l : List UInt8) (w : World) (h : Bld0 B b l w) :
    Calls Try.prog 57 #[.pointer (some ⟨b, 0, none⟩)] w fun e w' => e = .returned (.tuple #[]) ∧ Bld1 B b (Lib.byteCells l) w' ∧ Below B w w' ∧ Kept0 b w w' := by
  rcases h with h | h
  · refine (Any.Builder_copyCheck_fresh (ρ := renB) { laysWB with } extraB.toX72 b w h.cell0 h.shape h.frozen0).mono ?_
    rintro e w' ⟨rfl, rfl⟩
    exact ⟨rfl, h.used _, (Below.refl B w).setCell (p := ⟨b, 0, none⟩) h.1 _, fun k o hk hb _ => (Below.heap_setCell _ _ _ _ (fun e => hb e)).trans hk⟩
  · refine (Any.Builder_copyCheck_used (ρ := renB) { laysWB with } extraB.toX72 b w h.cell0).mono ?_
    rintro e w' ⟨rfl, rfl⟩
    exact ⟨rfl, h, Below.refl B _, fun k o hk _ _ => hk⟩

/-- What an append to the builder's row leaves. -/
theorem put0 {B b : Nat} {v v' : Value} {l l' : List Value} {w w1 w4 w2 : World} (hb1 : Below B w w1) (hk1 : Kept0 b w w1) (hB : B ≤ b) (hbk : w1.heap[b]? = some (.cells #[.pointer (some ⟨b, 0, none⟩), v] 83 (0, 0))) (hown : w1.ownsRow B 5 1 v l.length l) (h4 : Still w1 w4) (hg : w4.grownBy w2 v.ownBlock) (hne : v.ownBlock ≠ some b) (hn' : w2.ownsRow B 5 1 v' l'.length l') (hBw : B ≤ w.heap.size) :
    w2.heap[b]? = some (.cells #[.pointer (some ⟨b, 0, none⟩), v] 83 (0, 0)) ∧ Bld1 B b l' (w2.setCell ⟨b, 1, none⟩ v') ∧ Below B w (w2.setCell ⟨b, 1, none⟩ v') ∧ Kept0 b w (w2.setCell ⟨b, 1, none⟩ v') := by
  have hlt : b < w1.heap.size := (Array.getElem?_eq_some_iff.1 hbk).1
  have hb2 : w2.heap[b]? = some (.cells #[.pointer (some ⟨b, 0, none⟩), v] 83 (0, 0)) := by
    rw [hg.block b (Nat.lt_of_lt_of_le hlt h4.size) (fun e => hne e.symm)]
    exact (h4.block b hlt id).trans hbk
  refine ⟨hb2, Lib.BuilderAt.put hB hb2 hn' (by decide), ?_, ?_⟩
  · have b2 : Below B w1 w4 := h4.toBelow (fun _ _ h => h) (by have := hb1.size; omega)
    exact ((hb1.trans b2).grown hg (by have := hb1.size; have := h4.size; omega) (fun k hk => (hown.lt k hk).1)).setCell (p := ⟨b, 1, none⟩) hB _
  · intro k o hk hkb ho
    have h1 := hk1 k o hk hkb ho
    have hk1lt : k < w1.heap.size := (Array.getElem?_eq_some_iff.1 h1).1
    have h2 := (h4.block k hk1lt id).trans h1
    have hnk : some k ≠ v.ownBlock := fun e => by
      rcases hown.2 with ⟨rfl, -⟩ | ⟨g, cap, cur, rfl, -, hgg, -⟩
      · cases e
      · have e : k = g := Option.some.inj e
        subst e
        rw [h1] at hgg
        exact ho cur (Option.some.inj hgg)
    have h3 := (hg.block k (Nat.lt_of_lt_of_le hk1lt h4.size) hnk).trans h2
    exact (Below.heap_setCell _ _ _ _ (fun e => hkb e)).trans h3

set_option maxHeartbeats 2000000 in
set_option maxRecDepth 100000 in
theorem bbyte0 (B b : Nat) (l : List UInt8) (c : UInt8) (w : World) (h : Bld0 B b l w) (hlen : l.length + 1 ≤ 140737488355328) (hBw : B ≤ w.heap.size) :
    Calls Try.prog 39 #[.pointer (some ⟨b, 0, none⟩), .int .u8 (c.toNat : Int)] w fun e w' => e = .returned .nilIface ∧ Bld0 B b (l ++ [c]) w' ∧ Below B w w' ∧ Kept0 b w w' := by
  have HC := Lib.hid (check0 B b l w h)
  obtain ⟨i0, hinfo, hz0, hz1, hz2⟩ := info_parts extraB.infoByte
  have HI := Lib.hid hinfo
  have HZ := Lib.hid (And.intro hz0 (And.intro hz1 hz2))
  clear hinfo hz0 hz1 hz2 h
  go_enter Try.func39, Try.ntmps39
  go_wp2_with fail
  refine HC.out.mono ?_
  rintro e w1 ⟨rfl, h1, hb1, hk1⟩
  clear HC
  obtain ⟨hB, v, hbk, hown, hne⟩ := h1
  have HB1 := Lib.hid hb1
  have HK1 := Lib.hid hk1
  have HBK := Lib.hid hbk
  have HOWN := Lib.hid hown
  have HNE := Lib.hid hne
  have hsz1 := hb1.size
  have c0 : w1.cell? ⟨b, 0, none⟩ = some (.pointer (some ⟨b, 0, none⟩)) := by rw [Lib.cell_of_heap hbk]; rfl
  have c1 : w1.cell? ⟨b, 1, none⟩ = some v := by rw [Lib.cell_of_heap hbk]; rfl
  clear hbk hown hne hb1 hk1
  go_wp2_with (at_builtin; refine wpList_append_lies _ rfl (.tmp 11) (.tmp 13) 81 rfl B 5 i0 (.int .u8 0) 1 1 Try.underlying81 HI.out HZ.out.1 HZ.out.2.1 HZ.out.2.2 rfl (by decide) _ _ _ rfl (HOWN.out.alloc _) ⟨w1.heap.size, 0, none⟩ 1 1 [.int .u8 (c.toNat : Int)] rfl rfl (news1 (alloc_cell0 _ _ _)) (by intro v hv; rw [List.mem_singleton.1 hv]; rfl) (by decide) (by rw [Lib.byteCells_length]; unfold maxLen; omega) (by rw [Lib.byteCells_length]; omega) (by simp; omega) _ rfl ?_; intro g' cp' w2 hown' hgrow hat hlt'; obtain ⟨d, e1, e2, e3⟩ := put0 HB1.out HK1.out hB HBK.out HOWN.out ((Touch.refl (fun _ => False) w1).alloc _) hgrow HNE.out (l' := Lib.byteCells l ++ [.int .u8 (c.toNat : Int)]) (by rw [List.length_append]; exact hown') hBw; have HE := Lib.hid (And.intro e1 (And.intro e2 e3)); have d1 : w2.cell? ⟨b, 1, none⟩ = some v := (by rw [Lib.cell_of_heap d]; rfl); have f1 : w2.frozen? ⟨b, 1, none⟩ = false := Lib.frozen_of_heap d 1; clear hown' hgrow hat hlt' d e1 e2 e3 c0 c1)
  go_ret
  refine ⟨rfl, ?_, HE.out.2.1, HE.out.2.2⟩
  have h9 := HE.out.1
  unfold Bld0
  rw [Lib.byteCells_append]
  exact .inr h9

set_option maxHeartbeats 2000000 in
set_option maxRecDepth 100000 in
theorem bwrite0 (B b : Nat) (l : List UInt8) (t : ByteArray) (w : World) (h : Bld0 B b l w) (hlen : l.length + t.size ≤ 140737488355328) (hBw : B ≤ w.heap.size) :
    Calls Try.prog 37 #[.pointer (some ⟨b, 0, none⟩), .string t] w fun e w' => e = .returned (.tuple #[.int .i64 t.size, .nilIface]) ∧ Bld0 B b (l ++ str t) w' ∧ Below B w w' ∧ Kept0 b w w' := by
  have HC := Lib.hid (check0 B b l w h)
  obtain ⟨i0, hinfo, hz0, hz1, hz2⟩ := info_parts extraB.infoByte
  have HI := Lib.hid hinfo
  have HZ := Lib.hid (And.intro hz0 (And.intro hz1 hz2))
  clear hinfo hz0 hz1 hz2 h
  go_enter Try.func37, Try.ntmps37
  go_wp2_with fail
  refine HC.out.mono ?_
  rintro e w1 ⟨rfl, h1, hb1, hk1⟩
  clear HC
  obtain ⟨hB, v, hbk, hown, hne⟩ := h1
  have HB1 := Lib.hid hb1
  have HK1 := Lib.hid hk1
  have HBK := Lib.hid hbk
  have HOWN := Lib.hid hown
  have HNE := Lib.hid hne
  have hsz1 := hb1.size
  have c0 : w1.cell? ⟨b, 0, none⟩ = some (.pointer (some ⟨b, 0, none⟩)) := by rw [Lib.cell_of_heap hbk]; rfl
  have c1 : w1.cell? ⟨b, 1, none⟩ = some v := by rw [Lib.cell_of_heap hbk]; rfl
  clear hbk hown hne hb1 hk1
  go_wp2_with (at_builtin; refine Lib.wpList_append_own_string _ rfl (.tmp 12) (.tmp 13) 81 9 rfl B 5 i0 Try.underlying81 Try.underlying9 HI.out HZ.out.1 HZ.out.2.1 HZ.out.2.2 _ _ _ rfl HOWN.out t rfl (by rw [Lib.byteCells_length]; unfold maxLen; omega) (by rw [Lib.byteCells_length]; omega) (by omega) ?_; intro v' w2 hown' hgrow hnil; obtain ⟨d, e1, e2, e3⟩ := put0 HB1.out HK1.out hB HBK.out HOWN.out (Touch.refl (fun _ => False) w1) hgrow HNE.out (l' := Lib.byteCells l ++ Lib.strCells t) (by rw [List.length_append, Lib.strCells_length]; exact hown') hBw; have HE := Lib.hid (And.intro e1 (And.intro e2 e3)); have d1 : w2.cell? ⟨b, 1, none⟩ = some v := (by rw [Lib.cell_of_heap d]; rfl); have f1 : w2.frozen? ⟨b, 1, none⟩ = false := Lib.frozen_of_heap d 1; obtain ⟨ao, n', cap, hv'⟩ : ∃ ao n' cap, v' = .slice ao n' cap := (by rcases hown'.2 with ⟨hv, _⟩ | ⟨g, cap, cur, hv, _⟩; exact ⟨_, _, _, hv⟩; exact ⟨_, _, _, hv⟩); subst hv'; clear hown' hgrow hnil d e1 e2 e3 c0 c1)
  go_ret2
  refine ⟨rfl, ?_, HE.out.2.1, HE.out.2.2⟩
  have h9 := HE.out.1
  unfold Bld0
  rw [Lib.byteCells_append]
  exact .inr h9


set_option maxRecDepth 100000 in
set_option maxHeartbeats 8000000 in
theorem escw_any (s : ByteArray) (hs : s.size ≤ 100000) (w : World) :
    Calls Try.prog 19 #[.string s] w fun e w' => e = .returned (.string (bs (escR (str s)))) ∧ Still w w' := by
  obtain ⟨w1, hw1⟩ : ∃ w1, w.alloc (.cells #[.pointer none, .slice none 0 0] 83) = w1 := ⟨_, rfl⟩
  obtain ⟨B, hB⟩ : ∃ B, w.heap.size = B := ⟨_, rfl⟩
  have HB := Lib.hid hB
  have hcv := Lib.run_convert_string_bytes (P := Try.prog) w1 9 81 5 s Try.underlying9 Try.underlying81 Try.underlying5
  have hcell := fun j (hj : j < s.size) => Lib.bytesWorld_cell w1 5 s j hj
  have hst := bytes_still w1 5 s
  have hobj : ∃ C z, (Lib.bytesWorld w1 5 s).heap[w1.heap.size]? = some (.cells C 5 (z, z + 1)) := ⟨_, _, Lib.bytesWorld_at_new w1 5 s⟩
  generalize grownCap w1 s.size 0 5 = cap at hcv
  generalize Lib.bytesWorld w1 5 s = w2 at hcv hcell hst hobj
  obtain ⟨g, hg⟩ : ∃ g, w1.heap.size = g := ⟨_, rfl⟩
  rw [hg] at hcv hcell hobj
  obtain ⟨C, z, hobj⟩ := hobj
  have HOBJ := Lib.hid hobj
  have HB2 : Hid (Bld0 B B [] w2) := Lib.hid (bld0_still (by rw [← hw1, ← hB]; exact Lib.fresh_isBuilder 83 5 w) hst)
  have HT2 : Hid (Still w w2) := Lib.hid (Touch.then (show Still w w1 by rw [← hw1]; exact (Touch.refl _ _).alloc _) hst)
  have HC2 : Hid (∀ j (hj : j < s.size), w2.cell? ⟨g, j, none⟩ = some (.int .u8 ((s[j]'hj).toNat : Int))) := Lib.hid (fun j hj => by
    rw [hcell j hj]
    congr 3
    rw [List.getD_eq_getElem?_getD, List.getElem?_eq_getElem (by rw [Array.length_toList]; exact hj)]
    rfl)
  have HG : Hid (B < g) := Lib.hid (by rw [← hg, ← hw1, ← hB]; simp)
  clear hcell hst hg hobj
  go_enter Try.func19, Try.ntmps19
  go_wp2_with fail
  clear hcv hw1 hB
  go_loopw [9] (fun iv wr => ∃ (j : Nat) (l : List UInt8), iv = .int .i64 (j : Int) ∧ j ≤ s.size ∧ l.length ≤ j * 2 ∧ Hid (Bld0 B B l wr) ∧ Hid (Still w wr) ∧ Hid (Kept0 B w2 wr) ∧ Hid (escR (str s) = l ++ escR ((str s).drop j))) (fun iv _ => s.size - (intOf iv).toNat)
  case atStart => exact ⟨0, [], rfl, Nat.zero_le _, Nat.zero_le _, HB2, HT2, Lib.hid (fun k o h _ _ => h), Lib.hid rfl⟩
  case round =>
    clear HB2 HT2
    obtain ⟨j, l, rfl, hj, hl, HBL, HT, HK, HE⟩ := hrel
    have hBw : B ≤ wr.heap.size := by have h1 := HT.out.size; have h2 := HB.out; omega
    by_cases hlt : j < s.size
    · have q1 : decide ((j : Int) < (s.size : Int)) = true := decide_eq_true (by omega)
      have q1n : decide (j < s.size) = true := decide_eq_true hlt
      have hji : (j : Int) < (s.size : Int) := by omega
      have wj := IntWalk.i64_in ((j : Int) + 1) (by omega)
      have HD := Lib.hid (drop_at hlt)
      have hog := HK.out g _ HOBJ.out (by have := HG.out; omega) (fun c e => by cases e)
      have hcj : wr.cell? ⟨g, j, none⟩ = some (.int .u8 ((s[j]'hlt).toNat : Int)) := (World.cell?_of_block (w := w2) (a := ⟨g, j, none⟩) (hog.trans HOBJ.out.symm)).trans (HC2.out j hlt)
      obtain ⟨c, hcv⟩ : ∃ c, s[j]'hlt = c := ⟨_, rfl⟩
      rw [hcv] at HD hcj
      clear hog hcv
      by_cases h10 : c = 10
      · subst h10
        have HW := Lib.hid (bwrite0 B B l ⟨#[92, 110]⟩ wr HBL.out (by show l.length + 2 ≤ _; omega) hBw)
        go_wp2_with fail
        refine HW.out.mono ?_
        rintro e w4 ⟨rfl, hb, hbl, hk⟩
        have HB4 := Lib.hid hb
        have HT4 := Lib.hid (below_still hbl HT.out (by have := HB.out; omega))
        have HK4 := Lib.hid (HK.out.trans hk)
        clear hb hbl hk
        go_wp2_with fail
        go_roundw
        case rel => exact ⟨j + 1, l ++ [92, 110], by go_num, by omega, by simp; omega, HB4, HT4, HK4, Lib.hid (by rw [HE.out, HD.out]; show l ++ (escB _ ++ escR _) = _; rw [escB_nl]; simp)⟩
        case measure => simp [intOf]; omega
      · have q10 : (((c.toNat : Nat) : Int) == 10) = false := by simp; intro e; exact h10 (UInt8.toNat.inj (by show c.toNat = 10; omega))
        by_cases h9 : c = 9
        · subst h9
          have HW := Lib.hid (bwrite0 B B l ⟨#[92, 116]⟩ wr HBL.out (by show l.length + 2 ≤ _; omega) hBw)
          go_wp2_with fail
          refine HW.out.mono ?_
          rintro e w4 ⟨rfl, hb, hbl, hk⟩
          have HB4 := Lib.hid hb
          have HT4 := Lib.hid (below_still hbl HT.out (by have := HB.out; omega))
          have HK4 := Lib.hid (HK.out.trans hk)
          clear hb hbl hk
          go_wp2_with fail
          go_roundw
          case rel => exact ⟨j + 1, l ++ [92, 116], by go_num, by omega, by simp; omega, HB4, HT4, HK4, Lib.hid (by rw [HE.out, HD.out]; show l ++ (escB _ ++ escR _) = _; rw [escB_tab]; simp)⟩
          case measure => simp [intOf]; omega
        · have q9 : (((c.toNat : Nat) : Int) == 9) = false := by simp; intro e; exact h9 (UInt8.toNat.inj (by show c.toNat = 9; omega))
          obtain ⟨ib, hib⟩ : ∃ ib, Lib.indexByte specB c = ib := ⟨_, rfl⟩
          have hsp := ib_spec c
          rw [hib] at hsp
          have HIB : Hid (∀ w', Calls Try.prog 38 #[.string ⟨#[92, 94, 36, 46, 124, 63, 42, 43, 40, 41, 91, 93, 123, 125]⟩, .int .u8 (c.toNat : Int)] w' fun e w'' => e = .returned (.int .i64 ib) ∧ w'' = w') := Lib.hid (fun w' => by
            have h1 := Try.strings_IndexByte ⟨#[92, 94, 36, 46, 124, 63, 42, 43, 40, 41, 91, 93, 123, 125]⟩ (c.toNat : Int) w'
            have e1 : ((c.toNat : Int)).toNat.toUInt8 = c := by simp
            rw [e1] at h1
            rw [← hib]
            exact h1)
          clear hib
          cases hc : specB.contains c with
          | true =>
            rw [hc] at hsp
            have q8 := hsp
            have HENC := Lib.hid (spec_enc hc)
            have henc := spec_enc hc
            have hc255 := c.toNat_lt
            have w32 := IntWalk.i32_in (c.toNat : Int) (by omega)
            have hsz : (⟨#[92]⟩ : ByteArray).size + (⟨#[c]⟩ : ByteArray).size ≤ 9223372036854775807 := by show 1 + 1 ≤ _; omega
            have HC := Lib.hid hc
            have HW := Lib.hid (bwrite0 B B l (⟨#[92]⟩ ++ ⟨#[c]⟩) wr HBL.out (by show l.length + 2 ≤ _; omega) hBw)
            clear hsp hc
            go_wp2_with fail
            refine (HIB.out _).mono ?_
            rintro e w3 ⟨rfl, rfl⟩
            go_wp2_with fail
            refine HW.out.mono ?_
            rintro e w4 ⟨rfl, hb, hbl, hk⟩
            have HB4 := Lib.hid hb
            have HT4 := Lib.hid (below_still hbl HT.out (by have := HB.out; omega))
            have HK4 := Lib.hid (HK.out.trans hk)
            clear hb hbl hk
            go_wp2_with fail
            go_roundw
            case rel => exact ⟨j + 1, l ++ [92, c], by go_num, by omega, by simp; omega, HB4, HT4, HK4, Lib.hid (by rw [HE.out, HD.out]; show l ++ (escB _ ++ escR _) = _; rw [escB_spec h10 h9 HC.out]; simp)⟩
            case measure => simp [intOf]; omega
          | false =>
            rw [hc] at hsp
            have q8 := hsp
            have HC := Lib.hid hc
            have HW := Lib.hid (bbyte0 B B l c wr HBL.out (by omega) hBw)
            clear hsp hc
            go_wp2_with fail
            refine (HIB.out _).mono ?_
            rintro e w3 ⟨rfl, rfl⟩
            go_wp2_with fail
            refine HW.out.mono ?_
            rintro e w4 ⟨rfl, hb, hbl, hk⟩
            have HB4 := Lib.hid hb
            have HT4 := Lib.hid (below_still hbl HT.out (by have := HB.out; omega))
            have HK4 := Lib.hid (HK.out.trans hk)
            clear hb hbl hk
            go_wp2_with fail
            go_roundw
            case rel => exact ⟨j + 1, l ++ [c], by go_num, by omega, by simp; omega, HB4, HT4, HK4, Lib.hid (by rw [HE.out, HD.out]; show l ++ (escB _ ++ escR _) = _; rw [escB_self h10 h9 HC.out]; simp)⟩
            case measure => simp [intOf]; omega
    · obtain rfl : j = s.size := by omega
      have q1 : decide (((s.size : Nat) : Int) < (s.size : Int)) = false := decide_eq_false (by omega)
      have HEQ : Hid (escR (str s) = l) := Lib.hid (by rw [HE.out, drop_none]; simp [escR])
      have HS := Lib.hid (bstring_any B B l wr (Lib.IsBuilderF.of HBL.out) hBw)
      go_wp2_with fail
      refine HS.out.mono ?_
      rintro e w3 ⟨rfl, hb⟩
      have HT3 := Lib.hid (below_still hb HT.out (by have := HB.out; omega))
      clear hb
      go_wp2_with fail
      go_ret
      rw [HEQ.out]
      exact ⟨rfl, HT3.out⟩
end Go.Proofs.Ytlgpilcjcomacaa
