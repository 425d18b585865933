/-
  The document: Parts and joined.
-/
import Derived.Test.YtaanihidheccfaaDoorRefE
import Derived.Lib.AppendStr
import Derived.Lib.BufferRead
namespace Go.Proofs.YtaanihidheccfaaDoor
open Go.Shelf Go.RowKit
set_option linter.unusedVariables false

theorem info85 : (Tryd.prog.info? 85).map (fun i => (i.zero, i.size, i.bytes)) = some (some (.agg #[.string ⟨#[]⟩, .int .i64 0]), 2, 24) := by kernel_rfl

/-- A part as two cells. -/
def partCell (p : List UInt8 × Int) : List Value := [.string (bs p.1), .int .i64 p.2]
def partCells (l : List (List UInt8 × Int)) : List Value := (l.map partCell).flatten
theorem partCells_snoc (l : List (List UInt8 × Int)) (p : List UInt8 × Int) : partCells (l ++ [p]) = partCells l ++ [.string (bs p.1), .int .i64 p.2] := by
  unfold partCells
  rw [List.map_append, List.flatten_append]
  exact congrArg _ (List.append_nil _)
theorem partCells_cons (p : List UInt8 × Int) (l : List (List UInt8 × Int)) : partCells (p :: l) = .string (bs p.1) :: .int .i64 p.2 :: partCells l := rfl
theorem partCells_length (l : List (List UInt8 × Int)) : (partCells l).length = l.length * 2 := by
  induction l with
  | nil => rfl
  | cons p l ih => rw [partCells_cons, List.length_cons, List.length_cons, ih, List.length_cons]; omega
theorem partCells_at : ∀ (l : List (List UInt8 × Int)) (j : Nat) (p : List UInt8 × Int), l[j]? = some p → (partCells l)[j * 2]? = some (.string (bs p.1)) ∧ (partCells l)[j * 2 + 1]? = some (.int .i64 p.2)
  | [], j, p, h => by simp at h
  | q :: l, 0, p, h => by
    simp at h
    subst h
    exact ⟨rfl, rfl⟩
  | q :: l, j + 1, p, h => by
    have h' : l[j]? = some p := by simpa using h
    have ih := partCells_at l j p h'
    rw [partCells_cons, show (j + 1) * 2 = j * 2 + 2 by omega]
    exact ih
theorem new2 (w : World) (a b : Value) (t : TypeId) : ∀ j u, [a, b][j]? = some u → (w.alloc (.cells #[a, b] t)).cell? ((⟨w.heap.size, 0, none⟩ : Addr).add j) = some u := by
  intro j u h
  rw [Addr.add_lit]
  rw [cell_blk (heap_alloc_new w _)]
  simpa using h
theorem owns_drewN {w : World} {B : Nat} {e : TypeId} {k : Nat} {v : Value} {n : Nat} {xs : List Value} (h : w.ownsRow B e k v n xs) (q : Nat) : (w.drewN q).ownsRow B e k v n xs := h

/-- What Parts hands out. -/
def PartsPost (w : World) (e : Int) (s : ByteArray) (en : Ending) (w' : World) : Prop :=
  ∃ v, en = .returned v ∧ w'.ownsRow w.heap.size 85 2 v (parts e (str s)).length (partCells (parts e (str s))) ∧ Below w.heap.size w w'

theorem cutL_oneS (s : ByteArray) : cutL 2 (str s) = oneS s := by
  unfold cutL oneS
  rw [if_neg (by decide), if_neg (by decide), str_len, byteN_bN, byteN_bN, byteN_bN, byteN_bN]
theorem cutL_low (s : ByteArray) (h : 0 < s.size) (hl : (s[0]'h).toNat < 128) : cutL 0 (str s) = (1, ((s[0]'h).toNat : Int)) := by
  unfold cutL
  rw [if_pos rfl, ← byteN_bN, byteN_eq s 0 h, if_pos hl]
theorem cutL_high (s : ByteArray) (h : 0 < s.size) (hl : ¬ (s[0]'h).toNat < 128) : cutL 0 (str s) = (1, -1) := by
  unfold cutL
  rw [if_pos rfl, ← byteN_bN, byteN_eq s 0 h, if_neg hl]
theorem cutL_latin (s : ByteArray) (h : 0 < s.size) : cutL 1 (str s) = (1, ((s[0]'h).toNat : Int)) := by
  unfold cutL
  rw [if_neg (by decide), if_pos rfl, ← byteN_bN, byteN_eq s 0 h]

set_option maxRecDepth 100000 in
set_option maxHeartbeats 1000000 in
theorem f56_2 (s : ByteArray) (hs : s.size ≤ 5864062014805) (w : World) : Calls Tryd.prog 56 #[.string s, .int .i64 2] w (PartsPost w 2 s) := by
  obtain ⟨i0, hi, hz0, hz1, hz2⟩ := info_parts info85
  have HI := Lib.hid hi; clear hi
  go_enter Tryd.func56, Tryd.ntmps56
  go_wp2_with fail
  go_loopw [0, 5] (fun a v wr => ∃ (t : ByteArray) (done : List (List UInt8 × Int)), a = .string t ∧ t.size ≤ s.size ∧ done.length + t.size ≤ s.size ∧ Hid (parts 2 (str s) = done ++ parts 2 (str t)) ∧ Hid (wr.ownsRow w.heap.size 85 2 v done.length (partCells done)) ∧ Hid (Below w.heap.size w wr)) (fun a _ _ => strLen a)
  case atStart => exact ⟨s, [], rfl, Nat.le_refl _, by simp, Lib.hid rfl, Lib.hid (World.ownsRow_nil _ _ _ _), Lib.hid (Below.refl _ _)⟩
  case round =>
    obtain ⟨t, done, rfl, ht, hd, HP, HO, HB2⟩ := hrel
    have hbw := HB2.out.size
    by_cases hz : t.size = 0
    · obtain rfl := empty_of hz
      have HE := Lib.hid (parts_done HP.out)
      clear hz
      go_wp2_with fail
      go_ret
      refine ⟨_, rfl, ?_, HB2.out⟩
      rw [HE.out]; exact HO.out
    · have hpos : 0 < t.size := by omega
      clear hz
      have hw := wrap_byte (t[0]'hpos)
      have hcb := cutL_bounds 2 (str t) (str_ne hpos)
      have H81 := Lib.hid (fun w => f81 t hpos (by omega) w)
      rw [str_len] at hcb
      have HCE := Lib.hid (cutL_oneS t)
      rw [HCE.out] at hcb
      unfold oneV at H81
      generalize hk : oneS t = k at *
      obtain ⟨n, c⟩ := k
      simp only at H81 hcb
      obtain ⟨hn1, hn2, -, -, -⟩ := hcb
      clear hk
      have HS := Lib.hid (parts_step HP.out hpos HCE.out)
      go_wp2_with fail
      go_quiet (fail)
      go_wp2_with (first | (go_at_call 81; refine (H81.out _).mono ?_; rintro en w3 ⟨rfl, hB3⟩; have HB3 := Lib.hid hB3; clear hB3; have HO3 := Lib.hid (owns_below (owns_drewN HO.out _) HB3.out)) | (at_builtin; refine wpList_append_own _ rfl (.tmp 27) (.tmp 33) 81 rfl w.heap.size 85 i0 (.agg #[.string ⟨#[]⟩, .int .i64 0]) 2 24 Tryd.underlying81 HI.out hz0 hz1 hz2 rfl (by decide) _ _ _ rfl (HO3.out.alloc _) ⟨_, 0, none⟩ 1 1 [.string (t.extract 0 n), .int .i64 c] rfl rfl ?c1 ?c2 ?c3 ?c4 ?c5 ?_))
      case c1 => exact new2 _ _ _ _
      case c2 => intro u hu; simp at hu; rcases hu with rfl | rfl <;> rfl
      case c3 => unfold maxLen; omega
      case c4 => omega
      case c5 => simp; have := HB3.out.size; simp at this; omega
      intro v' w4 hown' hgrow _
      have HR : Hid (Below w.heap.size w w4 ∧ w4.ownsRow w.heap.size 85 2 v' (done ++ [((str t).take n, c)]).length (partCells (done ++ [((str t).take n, c)]))) := by
        refine ⟨?_, ?_⟩
        · have hb3 := HB3.out.size
          simp at hb3
          exact ((HB2.out.trans ((below_drewN' (Below.refl _ _) _).trans (HB3.out.mono (by simp; omega)))).alloc (by omega) _).grown hgrow (by simp; omega) (fun k hk => (HO3.out.lt k hk).1)
        · rw [partCells_snoc, List.length_append]
          rw [ext_front] at hown'
          exact hown'
      clear hown' hgrow
      go_wp2_with fail
      go_roundw
      case rel => exact ⟨_, _, rfl, by simp; omega, by simp; omega, HS, Lib.hid HR.out.2, Lib.hid HR.out.1⟩
      case measure => simp [strLen]; omega

set_option maxRecDepth 100000 in
set_option maxHeartbeats 1000000 in
theorem f56_1 (s : ByteArray) (hs : s.size ≤ 5864062014805) (w : World) : Calls Tryd.prog 56 #[.string s, .int .i64 1] w (PartsPost w 1 s) := by
  obtain ⟨i0, hi, hz0, hz1, hz2⟩ := info_parts info85
  have HI := Lib.hid hi; clear hi
  go_enter Tryd.func56, Tryd.ntmps56
  go_wp2_with fail
  go_loopw [0, 5] (fun a v wr => ∃ (t : ByteArray) (done : List (List UInt8 × Int)), a = .string t ∧ t.size ≤ s.size ∧ done.length + t.size ≤ s.size ∧ Hid (parts 1 (str s) = done ++ parts 1 (str t)) ∧ Hid (wr.ownsRow w.heap.size 85 2 v done.length (partCells done)) ∧ Hid (Below w.heap.size w wr)) (fun a _ _ => strLen a)
  case atStart => exact ⟨s, [], rfl, Nat.le_refl _, by simp, Lib.hid rfl, Lib.hid (World.ownsRow_nil _ _ _ _), Lib.hid (Below.refl _ _)⟩
  case round =>
    obtain ⟨t, done, rfl, ht, hd, HP, HO, HB2⟩ := hrel
    have hbw := HB2.out.size
    by_cases hz : t.size = 0
    · obtain rfl := empty_of hz
      have HE := Lib.hid (parts_done HP.out)
      clear hz
      go_wp2_with fail
      go_ret
      refine ⟨_, rfl, ?_, HB2.out⟩
      rw [HE.out]; exact HO.out
    · have hpos : 0 < t.size := by omega
      clear hz
      have hw := wrap_byte (t[0]'hpos)
      have HS := Lib.hid (parts_step HP.out hpos (cutL_latin t hpos))
      go_wp2_with fail
      go_quiet (fail)
      go_wp2_with (at_builtin; refine wpList_append_own _ rfl (.tmp 27) (.tmp 33) 81 rfl w.heap.size 85 i0 (.agg #[.string ⟨#[]⟩, .int .i64 0]) 2 24 Tryd.underlying81 HI.out hz0 hz1 hz2 rfl (by decide) _ _ _ rfl ((owns_drewN HO.out _).alloc _) ⟨_, 0, none⟩ 1 1 [.string (t.extract 0 1), .int .i64 ((t[0]'hpos).toNat : Int)] rfl rfl ?c1 ?c2 ?c3 ?c4 ?c5 ?_)
      case c1 => exact new2 _ _ _ _
      case c2 => intro u hu; simp at hu; rcases hu with rfl | rfl <;> rfl
      case c3 => unfold maxLen; omega
      case c4 => omega
      case c5 => simp; omega
      intro v' w4 hown' hgrow _
      have HR : Hid (Below w.heap.size w w4 ∧ w4.ownsRow w.heap.size 85 2 v' (done ++ [((str t).take 1, ((t[0]'hpos).toNat : Int))]).length (partCells (done ++ [((str t).take 1, ((t[0]'hpos).toNat : Int))]))) := by
        refine ⟨?_, ?_⟩
        · exact ((below_drewN' HB2.out _).alloc (by simp; omega) _).grown hgrow (by simp; omega) (fun k hk => (HO.out.lt k hk).1)
        · rw [partCells_snoc, List.length_append]
          rw [ext_front] at hown'
          exact hown'
      clear hown' hgrow
      go_wp2_with fail
      go_roundw
      case rel => exact ⟨_, _, rfl, by simp; omega, by simp; omega, HS, Lib.hid HR.out.2, Lib.hid HR.out.1⟩
      case measure => simp [strLen]; omega

set_option maxRecDepth 100000 in
set_option maxHeartbeats 1000000 in
theorem f56_0 (s : ByteArray) (hs : s.size ≤ 5864062014805) (w : World) : Calls Tryd.prog 56 #[.string s, .int .i64 0] w (PartsPost w 0 s) := by
  obtain ⟨i0, hi, hz0, hz1, hz2⟩ := info_parts info85
  have HI := Lib.hid hi; clear hi
  go_enter Tryd.func56, Tryd.ntmps56
  go_wp2_with fail
  go_loopw [0, 5] (fun a v wr => ∃ (t : ByteArray) (done : List (List UInt8 × Int)), a = .string t ∧ t.size ≤ s.size ∧ done.length + t.size ≤ s.size ∧ Hid (parts 0 (str s) = done ++ parts 0 (str t)) ∧ Hid (wr.ownsRow w.heap.size 85 2 v done.length (partCells done)) ∧ Hid (Below w.heap.size w wr)) (fun a _ _ => strLen a)
  case atStart => exact ⟨s, [], rfl, Nat.le_refl _, by simp, Lib.hid rfl, Lib.hid (World.ownsRow_nil _ _ _ _), Lib.hid (Below.refl _ _)⟩
  case round =>
    obtain ⟨t, done, rfl, ht, hd, HP, HO, HB2⟩ := hrel
    have hbw := HB2.out.size
    by_cases hz : t.size = 0
    · obtain rfl := empty_of hz
      have HE := Lib.hid (parts_done HP.out)
      clear hz
      go_wp2_with fail
      go_ret
      refine ⟨_, rfl, ?_, HB2.out⟩
      rw [HE.out]; exact HO.out
    · have hpos : 0 < t.size := by omega
      clear hz
      have hw := wrap_byte (t[0]'hpos)
      by_cases hlo : (t[0]'hpos).toNat < 128
      · have HS := Lib.hid (parts_step HP.out hpos (cutL_low t hpos hlo))
        have hd7 : ((t[0]'hpos).toNat : Int) ≤ 127 := by omega
        go_wp2_with fail
        go_quiet (fail)
        go_wp2_with (at_builtin; refine wpList_append_own _ rfl (.tmp 27) (.tmp 33) 81 rfl w.heap.size 85 i0 (.agg #[.string ⟨#[]⟩, .int .i64 0]) 2 24 Tryd.underlying81 HI.out hz0 hz1 hz2 rfl (by decide) _ _ _ rfl ((owns_drewN HO.out _).alloc _) ⟨_, 0, none⟩ 1 1 [.string (t.extract 0 1), .int .i64 ((t[0]'hpos).toNat : Int)] rfl rfl ?c1 ?c2 ?c3 ?c4 ?c5 ?_)
        case c1 => exact new2 _ _ _ _
        case c2 => intro u hu; simp at hu; rcases hu with rfl | rfl <;> rfl
        case c3 => unfold maxLen; omega
        case c4 => omega
        case c5 => simp; omega
        intro v' w4 hown' hgrow _
        have HR : Hid (Below w.heap.size w w4 ∧ w4.ownsRow w.heap.size 85 2 v' (done ++ [((str t).take 1, ((t[0]'hpos).toNat : Int))]).length (partCells (done ++ [((str t).take 1, ((t[0]'hpos).toNat : Int))]))) := by
          refine ⟨?_, ?_⟩
          · exact ((below_drewN' HB2.out _).alloc (by simp; omega) _).grown hgrow (by simp; omega) (fun k hk => (HO.out.lt k hk).1)
          · rw [partCells_snoc, List.length_append]
            rw [ext_front] at hown'
            exact hown'
        clear hown' hgrow
        go_wp2_with fail
        go_roundw
        case rel => exact ⟨_, _, rfl, by simp; omega, by simp; omega, HS, Lib.hid HR.out.2, Lib.hid HR.out.1⟩
        case measure => simp [strLen]; omega
      · have HS := Lib.hid (parts_step HP.out hpos (cutL_high t hpos hlo))
        have hd7 : 127 < ((t[0]'hpos).toNat : Int) := by omega
        clear hlo
        go_wp2_with fail
        go_quiet (fail)
        go_wp2_with (at_builtin; refine wpList_append_own _ rfl (.tmp 27) (.tmp 33) 81 rfl w.heap.size 85 i0 (.agg #[.string ⟨#[]⟩, .int .i64 0]) 2 24 Tryd.underlying81 HI.out hz0 hz1 hz2 rfl (by decide) _ _ _ rfl ((owns_drewN HO.out _).alloc _) ⟨_, 0, none⟩ 1 1 [.string (t.extract 0 1), .int .i64 (-1)] rfl rfl ?c1 ?c2 ?c3 ?c4 ?c5 ?_)
        case c1 => exact new2 _ _ _ _
        case c2 => intro u hu; simp at hu; rcases hu with rfl | rfl <;> rfl
        case c3 => unfold maxLen; omega
        case c4 => omega
        case c5 => simp; omega
        intro v' w4 hown' hgrow _
        have HR : Hid (Below w.heap.size w w4 ∧ w4.ownsRow w.heap.size 85 2 v' (done ++ [((str t).take 1, (-1))]).length (partCells (done ++ [((str t).take 1, (-1))]))) := by
          refine ⟨?_, ?_⟩
          · exact ((below_drewN' HB2.out _).alloc (by simp; omega) _).grown hgrow (by simp; omega) (fun k hk => (HO.out.lt k hk).1)
          · rw [partCells_snoc, List.length_append]
            rw [ext_front] at hown'
            exact hown'
        clear hown' hgrow
        go_wp2_with fail
        go_roundw
        case rel => exact ⟨_, _, rfl, by simp; omega, by simp; omega, HS, Lib.hid HR.out.2, Lib.hid HR.out.1⟩
        case measure => simp [strLen]; omega

theorem f56 (e : Int) (he : e = 0 ∨ e = 1 ∨ e = 2) (s : ByteArray) (hs : s.size ≤ 5864062014805) (w : World) : Calls Tryd.prog 56 #[.string s, .int .i64 e] w (PartsPost w e s) := by
  rcases he with rfl | rfl | rfl
  · exact f56_0 s hs w
  · exact f56_1 s hs w
  · exact f56_2 s hs w

end Go.Proofs.YtaanihidheccfaaDoor
