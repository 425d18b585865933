/-
  The program's door: what is common to the loops over a string's characters, and the characters of a string.
-/
import Derived.Test.YtaanihidheccfaaDoorWalkH
import Derived.Laws.AppendOwn
import Derived.Outline
namespace Go.Proofs.YtaanihidheccfaaDoor
open Go.Shelf Go.RowKit
set_option linter.unusedVariables false

theorem info9 : (Tryd.prog.info? 9).map (fun i => (i.zero, i.size, i.bytes)) = some (some (.string ⟨#[]⟩), 1, 16) := by kernel_rfl
theorem info3 : (Tryd.prog.info? 3).map (fun i => (i.zero, i.size, i.bytes)) = some (some (.int .i64 0), 1, 8) := by kernel_rfl

/-- A list of bytes as a string. -/
def bs (l : List UInt8) : ByteArray := ⟨⟨l⟩⟩
theorem str_bs (l : List UInt8) : str (bs l) = l := rfl
theorem bs_str (s : ByteArray) : bs (str s) = s := rfl
theorem str_inj {s t : ByteArray} (h : str s = str t) : s = t := by rw [← bs_str s, ← bs_str t, h]
theorem ext_front (s : ByteArray) (n : Nat) : s.extract 0 n = bs ((str s).take n) := str_inj (by rw [str_bs]; unfold str; rw [Lib.extract_data]; simp)
theorem str_drop (s : ByteArray) (n : Nat) : str (s.extract n s.size) = (str s).drop n := Lib.extract_to_end s n

def strLen : Value → Nat
  | .string s => s.size
  | _ => 0

/-- The cell that a function value of an encoding lies in: the coding's block. -/
theorem cell_blk {w : World} {b : Nat} {c : Array Value} {t : TypeId} {f : Nat × Nat} (h : w.heap[b]? = some (.cells c t f)) (i : Nat) : w.cell? ⟨b, i, none⟩ = c[i]? := by simp [World.cell?, h]

theorem empty_of {t : ByteArray} (h : t.size = 0) : t = ⟨#[]⟩ := by
  apply ByteArray.ext
  exact Array.eq_empty_of_size_eq_zero h
theorem notEmpty_of {t : ByteArray} (h : 0 < t.size) : t.toList.isEmpty = false := by
  rw [Lib.toList_data]
  cases h2 : t.data.toList with
  | nil => have : t.data.toList.length = 0 := by rw [h2]; rfl
           rw [Array.length_toList] at this; exact absurd this (by show ¬ t.size = 0; omega)
  | cons _ _ => rfl
theorem str_ne {t : ByteArray} (h : 0 < t.size) : str t ≠ [] := by
  intro h2
  have := str_len t
  rw [h2] at this
  simp at this; omega

/-- The texts of the characters, as values. -/
def texts (l : List (List UInt8 × Int)) : List Value := l.map fun p => .string (bs p.1)
theorem texts_snoc (l : List (List UInt8 × Int)) (p : List UInt8 × Int) : texts (l ++ [p]) = texts l ++ [.string (bs p.1)] := by simp [texts]

/-- One step along the characters. -/
theorem parts_step {e : Int} {s t : ByteArray} {done : List (List UInt8 × Int)} {n : Nat} {c : Int} (h : parts e (str s) = done ++ parts e (str t)) (hpos : 0 < t.size) (hk : cutL e (str t) = (n, c)) :
    parts e (str s) = (done ++ [((str t).take n, c)]) ++ parts e (str (t.extract n t.size)) := by
  rw [h, parts_cons e (str t) (str_ne hpos), hk, str_drop, List.append_assoc]
  rfl
theorem parts_done {e : Int} {s : ByteArray} {done : List (List UInt8 × Int)} (h : parts e (str s) = done ++ parts e (str ⟨#[]⟩)) : parts e (str s) = done := by
  rw [h]; exact List.append_nil _

theorem tabs_below {B : Nat} {w w' : World} (hB : Below B w w') (h2 : 2 ≤ B) (hT : Lib.Utf8Tabs 0 1 w) : Lib.Utf8Tabs 0 1 w' :=
  ⟨fun c hc => (hB.cell (p := ⟨0, _, none⟩) (by show 0 < B; omega)).trans (hT.1 c hc), fun i hi => ⟨(hB.cell (p := ⟨1, _, none⟩) (by show 1 < B; omega)).trans (hT.2 i hi).1, (hB.cell (p := ⟨1, _, none⟩) (by show 1 < B; omega)).trans (hT.2 i hi).2⟩⟩

theorem owns_mono {w : World} {base base' : Nat} {e : TypeId} {size : Nat} {v : Value} {n : Nat} {xs : List Value} (h : w.ownsRow base e size v n xs) (hb : base' ≤ base) : w.ownsRow base' e size v n xs := by
  rcases h.2 with h2 | ⟨g, cap, cur, hv, hg, rest⟩
  · exact ⟨h.1, .inl h2⟩
  · exact ⟨h.1, .inr ⟨g, cap, cur, hv, by omega, rest⟩⟩
theorem owns_below {B : Nat} {e : TypeId} {k : Nat} {v : Value} {n : Nat} {xs : List Value} {w w' : World} (h : w.ownsRow B e k v n xs) (hb : Below w.heap.size w w') : w'.ownsRow B e k v n xs := by
  rcases h.2 with h2 | ⟨g, cap, cur, hv, hg, hh, rest⟩
  · exact ⟨h.1, .inl h2⟩
  · exact ⟨h.1, .inr ⟨g, cap, cur, hv, hg, (hb.block g (Array.getElem?_eq_some_iff.1 hh).1).trans hh, rest⟩⟩

theorem new1 (w : World) (v : Value) (t : TypeId) : ∀ j u, [v][j]? = some u → (w.alloc (.cells #[v] t)).cell? ((⟨w.heap.size, 0, none⟩ : Addr).add j) = some u := by
  intro j u h
  rw [Addr.add_lit]
  rw [cell_blk (heap_alloc_new w _)]
  simpa using h

/-- A bound's block, behind an allocation. -/
theorem bound_alloc {w : World} {b : Nat} {v : Value} {t : TypeId} {f : Nat × Nat} (h : w.heap[b]? = some (.cells #[v] t f)) (o : Obj) : (w.alloc o).cell? ⟨b, 0, none⟩ = some v := by
  rw [cell_blk ((Below.heap_alloc w o b (Array.getElem?_eq_some_iff.1 h).1).trans h)]
  rfl

theorem f87d (m : Int) (e : Int) (hm : (e = 0 ∧ m = 128) ∨ (e = 1 ∧ m = 256)) (s : ByteArray) (b : Nat) (w : World) (hs : 0 < s.size) (hc : w.cell? ⟨b, 0, none⟩ = some (.int .i64 m)) (hb : b < w.heap.size) : Calls Tryd.prog 87 #[.string s, .pointer (some ⟨b, 0, none⟩)] w fun en w' => en = .returned (cutV e s) ∧ Below w.heap.size w w' :=
  (f87c m e hm s b w hs hc hb).mono fun _ _ h => ⟨h.1, h.2 ▸ Below.refl _ _⟩

/-- What pieces hands out: a new slice of the characters' texts. -/
def PiecesPost (w : World) (e : Int) (s : ByteArray) (en : Ending) (w' : World) : Prop :=
  ∃ v, en = .returned v ∧ w'.ownsRow w.heap.size 9 1 v (parts e (str s)).length (texts (parts e (str s))) ∧ Below w.heap.size w w'

set_option maxRecDepth 100000 in
theorem f54_0 (s : ByteArray) (hs : s.size ≤ 8796093022207) (w : World) (hT : Lib.Utf8Tabs 0 1 w) (h2 : 2 ≤ w.heap.size) : Calls Tryd.prog 54 #[.string s, .int .i64 0] w (PiecesPost w 0 s) := by
  have H48 := Lib.hid (f48a w)
  obtain ⟨i0, hi, hz0, hz1, hz2⟩ := info_parts info9
  have HI := Lib.hid hi; clear hi
  have HT := Lib.hid hT; clear hT
  go_enter Tryd.func54, Tryd.ntmps54
  go_wp2_with (go_at_call 48; refine H48.out.mono ?_; rintro en w2 ⟨b, rfl, hblo, hb2, hbd, hB⟩; have HBLO := Lib.hid hblo; clear hblo; have HB := Lib.hid hB; clear hB; have HBD := Lib.hid hbd; clear hbd; simp only [oneByte])
  have hsz2 : w.heap.size ≤ w2.heap.size := HB.out.size
  go_loopw [0, 5] (fun a v wr => ∃ (t : ByteArray) (done : List (List UInt8 × Int)), a = .string t ∧ t.size ≤ s.size ∧ done.length + t.size ≤ s.size ∧ Hid (parts 0 (str s) = done ++ parts 0 (str t)) ∧ Hid (wr.ownsRow (w2.heap.size + 1) 9 1 v done.length (texts done)) ∧ Hid (Below (w2.heap.size + 1) (w2.alloc (.cells #[.func (.func 87) #[] #[.pointer (some ⟨b, 0, none⟩)], .func (.func 88) #[] #[.pointer (some ⟨b, 0, none⟩)]] 67)) wr)) (fun a _ _ => strLen a)
  case atStart => exact ⟨s, [], rfl, Nat.le_refl _, by simp, Lib.hid rfl, Lib.hid (World.ownsRow_nil _ _ _ _), Lib.hid (Below.refl _ _)⟩
  case round =>
    obtain ⟨t, done, rfl, ht, hd, HP, HO, HB2⟩ := hrel
    by_cases hz : t.size = 0
    · obtain rfl := empty_of hz
      have HE := Lib.hid (parts_done HP.out)
      clear hz
      go_wp2_with fail
      go_ret
      refine ⟨_, rfl, ?_, ?_⟩
      · rw [HE.out]; exact owns_mono HO.out (by omega)
      · exact (HB.out.alloc hsz2 _).trans (HB2.out.mono (by omega))
    · have hpos : 0 < t.size := by omega
      clear hz
      have hemp := notEmpty_of hpos
      have hbw := HB2.out.size
      simp at hbw
      have hc0 : wr.cell? ⟨w2.heap.size, 0, none⟩ = some (.func (.func 87) #[] #[.pointer (some ⟨b, 0, none⟩)]) := (HB2.out.cell (by simp)).trans (by simp)
      have HTr := Lib.hid (tabs_below HB2.out (by omega) (tabs_below (HB.out.alloc hsz2 _) h2 HT.out))
      have hbc : wr.cell? ⟨b, 0, none⟩ = some (.int .i64 128) := (HB2.out.cell (p := ⟨b, 0, none⟩) (by show b < _; omega)).trans (bound_alloc HBD.out _)
      have HBC := Lib.hid hbc; clear hbc
      have HCUT := Lib.hid (f87d 128 0 (.inl ⟨rfl, rfl⟩) t b wr hpos HBC.out (by omega))
      have hcb := cutL_bounds 0 (str t) (str_ne hpos)
      unfold cutV at HCUT
      generalize hk : cutL 0 (str t) = k at *
      obtain ⟨n, c⟩ := k
      have HS := Lib.hid (parts_step HP.out hpos hk)
      rw [str_len] at hcb
      clear hk
      simp only at HCUT hcb
      obtain ⟨hn1, hn2, -, -, -⟩ := hcb
      go_wp2_with (first | (go_at_call 87; refine HCUT.out.mono ?_; rintro en w3 ⟨rfl, hB3⟩; have HB3 := Lib.hid hB3; clear hB3; have HO3 := Lib.hid (owns_below HO.out HB3.out)) | (at_builtin; refine wpList_append_own _ rfl (.tmp 20) (.tmp 24) 79 rfl (w2.heap.size + 1) 9 i0 (.string ⟨#[]⟩) 1 16 Tryd.underlying79 HI.out hz0 hz1 hz2 rfl (by decide) _ _ _ rfl (HO3.out.alloc _) ⟨w3.heap.size, 0, none⟩ 1 1 [.string (t.extract 0 n)] rfl rfl ?c1 ?c2 ?c3 ?c4 ?c5 ?_))
      case c1 => exact new1 _ _ _
      case c2 => intro u hu; simp at hu; subst hu; rfl
      case c3 => unfold maxLen; omega
      case c4 => omega
      case c5 => simp; have := HB3.out.size; omega
      intro v' w4 hown' hgrow _
      have HR : Hid (Below (w2.heap.size + 1) (w2.alloc (.cells #[.func (.func 87) #[] #[.pointer (some ⟨b, 0, none⟩)], .func (.func 88) #[] #[.pointer (some ⟨b, 0, none⟩)]] 67)) w4 ∧ w4.ownsRow (w2.heap.size + 1) 9 1 v' (done ++ [((str t).take n, c)]).length (texts (done ++ [((str t).take n, c)]))) := by
        have hb3 := HB3.out.size
        refine ⟨?_, ?_⟩
        · exact ((HB2.out.trans (HB3.out.mono (by omega))).alloc (by omega) _).grown hgrow (by simp; omega) (fun k hk => (HO3.out.lt k hk).1)
        · rw [texts_snoc, List.length_append]
          rw [ext_front] at hown'
          exact hown'
      clear hown' hgrow
      go_wp2_with fail
      go_roundw
      case rel => exact ⟨_, _, rfl, by simp; omega, by simp; omega, HS, Lib.hid HR.out.2, Lib.hid HR.out.1⟩
      case measure => simp [strLen]; omega

set_option maxRecDepth 100000 in
theorem f54_1 (s : ByteArray) (hs : s.size ≤ 8796093022207) (w : World) (hT : Lib.Utf8Tabs 0 1 w) (h2 : 2 ≤ w.heap.size) : Calls Tryd.prog 54 #[.string s, .int .i64 1] w (PiecesPost w 1 s) := by
  have H48 := Lib.hid (f48b w)
  obtain ⟨i0, hi, hz0, hz1, hz2⟩ := info_parts info9
  have HI := Lib.hid hi; clear hi
  have HT := Lib.hid hT; clear hT
  go_enter Tryd.func54, Tryd.ntmps54
  go_wp2_with (go_at_call 48; refine H48.out.mono ?_; rintro en w2 ⟨b, rfl, hblo, hb2, hbd, hB⟩; have HBLO := Lib.hid hblo; clear hblo; have HB := Lib.hid hB; clear hB; have HBD := Lib.hid hbd; clear hbd; simp only [oneByte])
  have hsz2 : w.heap.size ≤ w2.heap.size := HB.out.size
  go_loopw [0, 5] (fun a v wr => ∃ (t : ByteArray) (done : List (List UInt8 × Int)), a = .string t ∧ t.size ≤ s.size ∧ done.length + t.size ≤ s.size ∧ Hid (parts 1 (str s) = done ++ parts 1 (str t)) ∧ Hid (wr.ownsRow (w2.heap.size + 1) 9 1 v done.length (texts done)) ∧ Hid (Below (w2.heap.size + 1) (w2.alloc (.cells #[.func (.func 87) #[] #[.pointer (some ⟨b, 0, none⟩)], .func (.func 88) #[] #[.pointer (some ⟨b, 0, none⟩)]] 67)) wr)) (fun a _ _ => strLen a)
  case atStart => exact ⟨s, [], rfl, Nat.le_refl _, by simp, Lib.hid rfl, Lib.hid (World.ownsRow_nil _ _ _ _), Lib.hid (Below.refl _ _)⟩
  case round =>
    obtain ⟨t, done, rfl, ht, hd, HP, HO, HB2⟩ := hrel
    by_cases hz : t.size = 0
    · obtain rfl := empty_of hz
      have HE := Lib.hid (parts_done HP.out)
      clear hz
      go_wp2_with fail
      go_ret
      refine ⟨_, rfl, ?_, ?_⟩
      · rw [HE.out]; exact owns_mono HO.out (by omega)
      · exact (HB.out.alloc hsz2 _).trans (HB2.out.mono (by omega))
    · have hpos : 0 < t.size := by omega
      clear hz
      have hemp := notEmpty_of hpos
      have hbw := HB2.out.size
      simp at hbw
      have hc0 : wr.cell? ⟨w2.heap.size, 0, none⟩ = some (.func (.func 87) #[] #[.pointer (some ⟨b, 0, none⟩)]) := (HB2.out.cell (by simp)).trans (by simp)
      have HTr := Lib.hid (tabs_below HB2.out (by omega) (tabs_below (HB.out.alloc hsz2 _) h2 HT.out))
      have hbc : wr.cell? ⟨b, 0, none⟩ = some (.int .i64 256) := (HB2.out.cell (p := ⟨b, 0, none⟩) (by show b < _; omega)).trans (bound_alloc HBD.out _)
      have HBC := Lib.hid hbc; clear hbc
      have HCUT := Lib.hid (f87d 256 1 (.inr ⟨rfl, rfl⟩) t b wr hpos HBC.out (by omega))
      have hcb := cutL_bounds 1 (str t) (str_ne hpos)
      unfold cutV at HCUT
      generalize hk : cutL 1 (str t) = k at *
      obtain ⟨n, c⟩ := k
      have HS := Lib.hid (parts_step HP.out hpos hk)
      rw [str_len] at hcb
      clear hk
      simp only at HCUT hcb
      obtain ⟨hn1, hn2, -, -, -⟩ := hcb
      go_wp2_with (first | (go_at_call 87; refine HCUT.out.mono ?_; rintro en w3 ⟨rfl, hB3⟩; have HB3 := Lib.hid hB3; clear hB3; have HO3 := Lib.hid (owns_below HO.out HB3.out)) | (at_builtin; refine wpList_append_own _ rfl (.tmp 20) (.tmp 24) 79 rfl (w2.heap.size + 1) 9 i0 (.string ⟨#[]⟩) 1 16 Tryd.underlying79 HI.out hz0 hz1 hz2 rfl (by decide) _ _ _ rfl (HO3.out.alloc _) ⟨w3.heap.size, 0, none⟩ 1 1 [.string (t.extract 0 n)] rfl rfl ?c1 ?c2 ?c3 ?c4 ?c5 ?_))
      case c1 => exact new1 _ _ _
      case c2 => intro u hu; simp at hu; subst hu; rfl
      case c3 => unfold maxLen; omega
      case c4 => omega
      case c5 => simp; have := HB3.out.size; omega
      intro v' w4 hown' hgrow _
      have HR : Hid (Below (w2.heap.size + 1) (w2.alloc (.cells #[.func (.func 87) #[] #[.pointer (some ⟨b, 0, none⟩)], .func (.func 88) #[] #[.pointer (some ⟨b, 0, none⟩)]] 67)) w4 ∧ w4.ownsRow (w2.heap.size + 1) 9 1 v' (done ++ [((str t).take n, c)]).length (texts (done ++ [((str t).take n, c)]))) := by
        have hb3 := HB3.out.size
        refine ⟨?_, ?_⟩
        · exact ((HB2.out.trans (HB3.out.mono (by omega))).alloc (by omega) _).grown hgrow (by simp; omega) (fun k hk => (HO3.out.lt k hk).1)
        · rw [texts_snoc, List.length_append]
          rw [ext_front] at hown'
          exact hown'
      clear hown' hgrow
      go_wp2_with fail
      go_roundw
      case rel => exact ⟨_, _, rfl, by simp; omega, by simp; omega, HS, Lib.hid HR.out.2, Lib.hid HR.out.1⟩
      case measure => simp [strLen]; omega

set_option maxRecDepth 100000 in
theorem f54_2 (s : ByteArray) (hs : s.size ≤ 8796093022207) (w : World) (hT : Lib.Utf8Tabs 0 1 w) (h2 : 2 ≤ w.heap.size) : Calls Tryd.prog 54 #[.string s, .int .i64 2] w (PiecesPost w 2 s) := by
  have H48 := Lib.hid (f48u 2 (by decide) (by decide) w)
  obtain ⟨i0, hi, hz0, hz1, hz2⟩ := info_parts info9
  have HI := Lib.hid hi; clear hi
  have HT := Lib.hid hT; clear hT
  go_enter Tryd.func54, Tryd.ntmps54
  go_wp2_with (go_at_call 48; refine H48.out.mono ?_; rintro en w2 ⟨rfl, hB⟩; have HB := Lib.hid hB; clear hB)
  have hsz2 : w.heap.size ≤ w2.heap.size := HB.out.size
  go_loopw [0, 5] (fun a v wr => ∃ (t : ByteArray) (done : List (List UInt8 × Int)), a = .string t ∧ t.size ≤ s.size ∧ done.length + t.size ≤ s.size ∧ Hid (parts 2 (str s) = done ++ parts 2 (str t)) ∧ Hid (wr.ownsRow (w2.heap.size + 1) 9 1 v done.length (texts done)) ∧ Hid (Below (w2.heap.size + 1) (w2.alloc (.cells #[.func (.func 73) #[] #[], .func (.func 76) #[] #[]] 67)) wr)) (fun a _ _ => strLen a)
  case atStart => exact ⟨s, [], rfl, Nat.le_refl _, by simp, Lib.hid rfl, Lib.hid (World.ownsRow_nil _ _ _ _), Lib.hid (Below.refl _ _)⟩
  case round =>
    obtain ⟨t, done, rfl, ht, hd, HP, HO, HB2⟩ := hrel
    by_cases hz : t.size = 0
    · obtain rfl := empty_of hz
      have HE := Lib.hid (parts_done HP.out)
      clear hz
      go_wp2_with fail
      go_ret
      refine ⟨_, rfl, ?_, ?_⟩
      · rw [HE.out]; exact owns_mono HO.out (by omega)
      · exact (HB.out.alloc hsz2 _).trans (HB2.out.mono (by omega))
    · have hpos : 0 < t.size := by omega
      clear hz
      have hemp := notEmpty_of hpos
      have hbw := HB2.out.size
      simp at hbw
      have hc0 : wr.cell? ⟨w2.heap.size, 0, none⟩ = some (.func (.func 73) #[] #[]) := (HB2.out.cell (by simp)).trans (by simp)
      have HTr := Lib.hid (tabs_below HB2.out (by omega) (tabs_below (HB.out.alloc hsz2 _) h2 HT.out))
      have HCUT := Lib.hid (f73 2 (by decide) (by decide) t hpos (by omega) wr HTr.out)
      have hcb := cutL_bounds 2 (str t) (str_ne hpos)
      unfold cutV at HCUT
      generalize hk : cutL 2 (str t) = k at *
      obtain ⟨n, c⟩ := k
      have HS := Lib.hid (parts_step HP.out hpos hk)
      rw [str_len] at hcb
      clear hk
      simp only at HCUT hcb
      obtain ⟨hn1, hn2, -, -, -⟩ := hcb
      go_wp2_with (first | (go_at_call 73; refine HCUT.out.mono ?_; rintro en w3 ⟨rfl, hB3⟩; have HB3 := Lib.hid hB3; clear hB3; have HO3 := Lib.hid (owns_below HO.out HB3.out)) | (at_builtin; refine wpList_append_own _ rfl (.tmp 20) (.tmp 24) 79 rfl (w2.heap.size + 1) 9 i0 (.string ⟨#[]⟩) 1 16 Tryd.underlying79 HI.out hz0 hz1 hz2 rfl (by decide) _ _ _ rfl (HO3.out.alloc _) ⟨w3.heap.size, 0, none⟩ 1 1 [.string (t.extract 0 n)] rfl rfl ?c1 ?c2 ?c3 ?c4 ?c5 ?_))
      case c1 => exact new1 _ _ _
      case c2 => intro u hu; simp at hu; subst hu; rfl
      case c3 => unfold maxLen; omega
      case c4 => omega
      case c5 => simp; have := HB3.out.size; omega
      intro v' w4 hown' hgrow _
      have HR : Hid (Below (w2.heap.size + 1) (w2.alloc (.cells #[.func (.func 73) #[] #[], .func (.func 76) #[] #[]] 67)) w4 ∧ w4.ownsRow (w2.heap.size + 1) 9 1 v' (done ++ [((str t).take n, c)]).length (texts (done ++ [((str t).take n, c)]))) := by
        have hb3 := HB3.out.size
        refine ⟨?_, ?_⟩
        · exact ((HB2.out.trans (HB3.out.mono (by omega))).alloc (by omega) _).grown hgrow (by simp; omega) (fun k hk => (HO3.out.lt k hk).1)
        · rw [texts_snoc, List.length_append]
          rw [ext_front] at hown'
          exact hown'
      clear hown' hgrow
      go_wp2_with fail
      go_roundw
      case rel => exact ⟨_, _, rfl, by simp; omega, by simp; omega, HS, Lib.hid HR.out.2, Lib.hid HR.out.1⟩
      case measure => simp [strLen]; omega

theorem f54 (e : Int) (he : e = 0 ∨ e = 1 ∨ e = 2) (s : ByteArray) (hs : s.size ≤ 8796093022207) (w : World) (hT : Lib.Utf8Tabs 0 1 w) (h2 : 2 ≤ w.heap.size) : Calls Tryd.prog 54 #[.string s, .int .i64 e] w (PiecesPost w e s) := by
  rcases he with rfl | rfl | rfl
  · exact f54_0 s hs w hT h2
  · exact f54_1 s hs w hT h2
  · exact f54_2 s hs w hT h2

end Go.Proofs.YtaanihidheccfaaDoor
