/-
  The law's 'matches'.
-/
import Derived.Test.YtlgpilcjcomacaaGreatCa
import Derived.Test.YtlgpilcjcomacaaGreatBm
namespace Go.Proofs.YtlgpilcjcomacaaGreat
open Go.RowKit Rx
set_option linter.unusedVariables false

/-- An Ask in memory. -/
structure AskAt (w : World) (b : Nat) (p s y : ByteArray) (fr bu : Int) : Prop where
  c0 : w.cell? ⟨b, 0, none⟩ = some (.string p)
  c1 : w.cell? ⟨b, 1, none⟩ = some (.string s)
  c2 : w.cell? ⟨b, 2, none⟩ = some (.string y)
  c3 : w.cell? ⟨b, 3, none⟩ = some (.int .i64 fr)
  c4 : Holds w b 4 (.int .i64 bu)
theorem AskAt.keep {w w' : World} {b : Nat} {p s y : ByteArray} {fr bu : Int} (h : AskAt w b p s y fr bu) (t : Still w w') : AskAt w' b p s y fr bu :=
  ⟨t.has h.c0 id, t.has h.c1 id, t.has h.c2 id, t.has h.c3 id, h.c4.keep t id⟩
theorem AskAt.made (w : World) (p s y : ByteArray) (fr bu : Int) : AskAt (w.alloc (.cells #[.string p, .string s, .string y, .int .i64 fr, .int .i64 bu] 23)) w.heap.size p s y fr bu :=
  ⟨(Holds.made w _ _ 0 _ rfl).1, (Holds.made w _ _ 1 _ rfl).1, (Holds.made w _ _ 2 _ rfl).1, (Holds.made w _ _ 3 _ rfl).1, Holds.made w _ _ 4 _ rfl⟩
/-- A Found in memory. -/
structure FoundAt (w : World) (b : Nat) (v : Value) (n : Int) : Prop where
  c0 : w.cell? ⟨b, 0, none⟩ = some v
  c1 : w.cell? ⟨b, 1, none⟩ = some (.int .i64 n)
theorem FoundAt.keep {w w' : World} {b : Nat} {v : Value} {n : Int} (h : FoundAt w b v n) (t : Still w w') : FoundAt w' b v n := ⟨t.has h.c0 id, t.has h.c1 id⟩
theorem FoundAt.made (w : World) (v : Value) (n : Int) (T : TypeId) : FoundAt (w.alloc (.cells #[v, .int .i64 n] T)) w.heap.size v n :=
  ⟨(Holds.made w _ _ 0 _ rfl).1, (Holds.made w _ _ 1 _ rfl).1⟩

set_option maxRecDepth 100000 in
theorem pairs_nil (w : World) : Calls Tryz.prog 11 #[.slice none 0 0, .slice none 0 0] w fun e w' => e = .returned (.bool true) ∧ Still w w' := by
  go_enter Tryz.func11, Tryz.ntmps11
  go_wp2_with fail
  go_loopw [5] (fun i wr => i = .int .i64 0 ∧ Hid (Still w wr)) (fun i _ => 0)
  case atStart => exact ⟨rfl, Lib.hid (Touch.refl _ _)⟩
  case round =>
    obtain ⟨rfl, HT⟩ := hrel
    go_wp2_with fail
    go_ret
    exact ⟨rfl, HT.out⟩

set_option maxRecDepth 100000 in
set_option maxHeartbeats 4000000 in
theorem matches_any (p s y : ByteArray) (fr0 bu : Int) (w : World) :
    Calls Tryz.prog 9 #[.agg #[.string p, .string s, .string y, .int .i64 fr0, .int .i64 bu]] w fun e w' => e = .returned (.bool true) ∧ Still w w' := by
  have HM := Lib.hid (fun w => match_out p s fr0 bu w)
  have HD := Lib.hid (fun w => rmatch_any p s fr0 bu w)
  generalize MOut s fr0 bu (readP (str p)) = out at HM HD
  obtain ⟨w1, hw1⟩ : ∃ w1, w.alloc (.cells #[.string p, .string s, .string y, .int .i64 fr0, .int .i64 bu] 23) = w1 := ⟨_, rfl⟩
  obtain ⟨n1, hn1⟩ : ∃ n1, w.heap.size = n1 := ⟨_, rfl⟩
  have HA1 : Hid (AskAt w1 n1 p s y fr0 bu) := Lib.hid (by rw [← hw1, ← hn1]; exact AskAt.made w p s y fr0 bu)
  have HT1 : Hid (Still w w1) := Lib.hid (by rw [← hw1]; exact (Touch.refl _ _).alloc _)
  have a0 := HA1.out.c0; have a1 := HA1.out.c1; have a3 := HA1.out.c3; have a4 := HA1.out.c4.1
  go_enter Tryz.func9, Tryz.ntmps9
  go_wp2_with fail
  refine (HM.out _).mono ?_
  intro e w2 hG
  clear a0 a1 a3 a4 hw1
  cases out with
  | err c =>
    obtain ⟨rfl, ht⟩ := hG
    have HT2 := Lib.hid (HT1.out.then ht)
    have HA2 := Lib.hid (HA1.out.keep ht)
    obtain ⟨n3, hn3⟩ : ∃ n3, w2.heap.size = n3 := ⟨_, rfl⟩
    have HN3 := Lib.hid hn3
    have HF3 : Hid (FoundAt (w2.alloc (.cells #[.slice none 0 0, .int .i64 0] 34)) w2.heap.size (.slice none 0 0) 0) := Lib.hid (FoundAt.made w2 _ _ _)
    rw [hn3] at HF3
    have ht3 : Still w2 (w2.alloc (.cells #[.slice none 0 0, .int .i64 0] 34)) := (Touch.refl _ _).alloc _
    have HTS3 := Lib.hid ht3
    have HT3 := Lib.hid (HT2.out.then ht3)
    have ha := HA2.out.keep ht3
    have a0 := ha.c0; have a1 := ha.c1; have a3 := ha.c3; have a4 := ha.c4.1
    clear ht ht3 ha
    go_wp2_with fail
    refine (HD.out _).mono ?_
    rintro e w4 ⟨rfl, ht⟩
    clear a0 a1 a3 a4
    obtain ⟨n5, hn5⟩ : ∃ n5, w4.heap.size = n5 := ⟨_, rfl⟩
    have HN5 := Lib.hid hn5
    have ht5 : Still w4 (w4.alloc (.cells #[.slice none 0 0, .int .i64 0] 57)) := (Touch.refl _ _).alloc _
    have hf5 : FoundAt (w4.alloc (.cells #[.slice none 0 0, .int .i64 0] 57)) w4.heap.size (.slice none 0 0) 0 := FoundAt.made w4 _ _ _
    rw [hn5] at hf5
    have HT5 := Lib.hid (HT3.out.then (ht.then ht5))
    have HF5 := Lib.hid hf5
    have HTS5 := Lib.hid ht5
    have HTS4 := Lib.hid ht
    have hf3 := HF3.out.keep (ht.then ht5)
    have HF35 := Lib.hid hf3
    have d0 := hf3.c0; have e0 := hf5.c0
    clear ht ht5 hf5 hf3
    go_wp2_with fail
    refine (pairs_nil _).mono ?_
    rintro e w6 ⟨rfl, ht⟩
    have HT6 := Lib.hid (HT5.out.then ht)
    have d1 := (HF35.out.keep ht).c1; have e1 := (HF5.out.keep ht).c1
    clear ht d0 e0
    go_wp2_with fail
    go_ret
    exact ⟨by simp, HT6.out⟩
  | found G n g x =>
    obtain ⟨bg, cg, rfl, hbg, hcs, hG9, hn6, ht⟩ := hG
    have HT2 := Lib.hid (HT1.out.then ht)
    have HA2 := Lib.hid (HA1.out.keep ht)
    have HCS := Lib.hid hcs
    have HG9 := Lib.hid hG9
    clear hcs hG9 hn6 hbg
    obtain ⟨n3, hn3⟩ : ∃ n3, w2.heap.size = n3 := ⟨_, rfl⟩
    have HN3 := Lib.hid hn3
    have HF3 : Hid (FoundAt (w2.alloc (.cells #[.slice (some ⟨bg, 0, none⟩) (G + 1) cg, .int .i64 (n : Int)] 34)) w2.heap.size (.slice (some ⟨bg, 0, none⟩) (G + 1) cg) (n : Int)) := Lib.hid (FoundAt.made w2 _ _ _)
    rw [hn3] at HF3
    have ht3 : Still w2 (w2.alloc (.cells #[.slice (some ⟨bg, 0, none⟩) (G + 1) cg, .int .i64 (n : Int)] 34)) := (Touch.refl _ _).alloc _
    have HTS3 := Lib.hid ht3
    have HT3 := Lib.hid (HT2.out.then ht3)
    have ha := HA2.out.keep ht3
    have a0 := ha.c0; have a1 := ha.c1; have a3 := ha.c3; have a4 := ha.c4.1
    clear ht ht3 ha
    go_wp2_with fail
    refine (HD.out _).mono ?_
    rintro e w4 ⟨bg2, cg2, rfl, hbg2, hcs2, -, -, ht⟩
    clear a0 a1 a3 a4
    have HCS2 := Lib.hid hcs2
    clear hcs2 hbg2
    obtain ⟨n5, hn5⟩ : ∃ n5, w4.heap.size = n5 := ⟨_, rfl⟩
    have HN5 := Lib.hid hn5
    have ht5 : Still w4 (w4.alloc (.cells #[.slice (some ⟨bg2, 0, none⟩) (G + 1) cg2, .int .i64 (n : Int)] 57)) := (Touch.refl _ _).alloc _
    have hf5 : FoundAt (w4.alloc (.cells #[.slice (some ⟨bg2, 0, none⟩) (G + 1) cg2, .int .i64 (n : Int)] 57)) w4.heap.size (.slice (some ⟨bg2, 0, none⟩) (G + 1) cg2) (n : Int) := FoundAt.made w4 _ _ _
    rw [hn5] at hf5
    have HT5 := Lib.hid (HT3.out.then (ht.then ht5))
    have HF5 := Lib.hid hf5
    have HTS5 := Lib.hid ht5
    have HTS4 := Lib.hid ht
    have hf3 := HF3.out.keep (ht.then ht5)
    have HF35 := Lib.hid hf3
    have d0 := hf3.c0; have e0 := hf5.c0
    clear ht ht5 hf5 hf3
    go_wp2_with fail
    refine (pairs_same bg bg2 cg cg2 G g _ (fun j hj => HTS5.out.has (HTS4.out.has (HTS3.out.has (HCS.out j hj) id) id) id) (fun j hj => HTS5.out.has (HCS2.out j hj) id) HG9.out).mono ?_
    rintro e w6 ⟨rfl, ht⟩
    have HT6 := Lib.hid (HT5.out.then ht)
    have d1 := (HF35.out.keep ht).c1; have e1 := (HF5.out.keep ht).c1
    clear ht d0 e0
    go_wp2_with fail
    go_ret
    exact ⟨by simp, HT6.out⟩

end Go.Proofs.YtlgpilcjcomacaaGreat
