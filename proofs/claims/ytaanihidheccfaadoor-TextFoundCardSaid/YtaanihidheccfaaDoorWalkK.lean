/-
  The program's door: what an encoding writes, and a strings.Builder.
-/
import Derived.Test.YtaanihidheccfaaDoorPlainC
import Derived.Test.YtaanihidheccfaaDoorWalkI
namespace Go.Proofs.YtaanihidheccfaaDoor
open Go.Shelf Go.RowKit
set_option linter.unusedVariables false

/-- What a way back hands out. -/
def backV (e c : Int) : Value := if has e c then .tuple #[.string (bs (enc e c)), .bool true] else .tuple #[.string ⟨#[]⟩, .bool false]
theorem backV_yes {e c : Int} (h : has e c) : backV e c = .tuple #[.string (bs (enc e c)), .bool true] := if_pos h
theorem backV_no {e c : Int} (h : ¬ has e c) : backV e c = .tuple #[.string ⟨#[]⟩, .bool false] := if_neg h

theorem f88d (m : Int) (e : Int) (hm : (e = 0 ∧ m = 128) ∨ (e = 1 ∧ m = 256)) (c : Int) (b : Nat) (w : World) (hc : w.cell? ⟨b, 0, none⟩ = some (.int .i64 m)) (hb : b < w.heap.size) : Calls Tryd.prog 88 #[.int .i64 c, .pointer (some ⟨b, 0, none⟩)] w fun en w' => en = .returned (backV e c) ∧ Below w.heap.size w w' := by
  have h := f88 c b m w (by omega) hc hb
  have e1 : backB c m = backV e c := by
    unfold backB backV
    rcases hm with ⟨rfl, rfl⟩ | ⟨rfl, rfl⟩
    · by_cases h : has 0 c
      · rw [if_pos h]
        rw [has_zero] at h
        rw [if_pos (by omega)]
        have : enc 0 c = [b8 c.toNat] := by unfold enc; rw [if_pos (.inl (by decide))]
        rw [this]; rfl
      · rw [if_neg h]
        rw [has_zero] at h
        rw [if_neg (by omega)]
    · by_cases h : has 1 c
      · rw [if_pos h]
        rw [has_one] at h
        rw [if_pos (by omega)]
        have : enc 1 c = [b8 c.toNat] := by unfold enc; rw [if_pos (.inl (by decide))]
        rw [this]; rfl
      · rw [if_neg h]
        rw [has_one] at h
        rw [if_neg (by omega)]
  rw [e1] at h
  exact h

theorem f76d (c : Int) (w : World) : Calls Tryd.prog 76 #[.int .i64 c] w fun en w' => en = .returned (backV 2 c) ∧ Below w.heap.size w w' := by
  by_cases h : has 2 c
  · have h' := (has_two c).1 h
    rw [backV_yes h]
    have e1 : Utf8.encode c = bs (enc 2 c) := str_inj (encode_enc c h)
    have := f76ok c (by omega) (by omega) (by unfold Lib.validRune; simp; omega) w
    rw [e1] at this
    exact this.mono fun _ _ h => ⟨h.1, h.2 ▸ Below.refl _ _⟩
  · rw [backV_no h]
    rw [has_two] at h
    by_cases h2 : c < 0 ∨ 1114111 < c
    · exact (f76out c h2 w).mono fun _ _ h => ⟨h.1, h.2 ▸ Below.refl _ _⟩
    · exact (f76bad c (by omega) (by omega) (by unfold Lib.validRune; simp; omega) w).mono fun _ _ h => ⟨h.1, h.2 ▸ Below.refl _ _⟩

/-- A builder that holds bytes. -/
def Bld (B b : Nat) (l : List UInt8) (w : World) : Prop := Lib.IsBuilderF 63 5 B b (Lib.byteCells l) w
theorem bld_new (w : World) : Bld w.heap.size w.heap.size [] (w.alloc (.cells #[.pointer none, .slice none 0 0] 63)) := Lib.IsBuilderF.of (Lib.fresh_isBuilder 63 5 w)
theorem bld_below {B b : Nat} {l : List UInt8} {w w' : World} (h : Bld B b l w) (hb : Below w.heap.size w w') : Bld B b l w' := by
  have key : ∀ p, Lib.BuilderAtF 63 5 B b p (Lib.byteCells l) w → Lib.BuilderAtF 63 5 B b p (Lib.byteCells l) w' := by
    rintro p ⟨hB, v, hbk, hown, hne⟩
    refine ⟨hB, v, (hb.block b (Array.getElem?_eq_some_iff.1 hbk).1).trans hbk, ⟨hown.1, ?_⟩, hne⟩
    rcases hown.2 with hn | ⟨g, cap, cur, fz, hv, hbg, hg, rest⟩
    · exact .inl hn
    · exact .inr ⟨g, cap, cur, fz, hv, hbg, (hb.block g (Array.getElem?_eq_some_iff.1 hg).1).trans hg, rest⟩
  exact h.elim (fun x => .inl (key _ x)) (fun x => .inr (key _ x))

theorem f49 (B b : Nat) (l : List UInt8) (t : ByteArray) (w : World) (h : Bld B b l w) (hlen : l.length + t.size ≤ 140737488355328) (hBw : B ≤ w.heap.size) :
    Calls Tryd.prog 49 #[.pointer (some ⟨b, 0, none⟩), .string t] w fun e w' => e = .returned (.tuple #[.int .i64 t.size, .nilIface]) ∧ Bld B b (l ++ str t) w' ∧ Below B w w' ∧ Lib.OthersKept 5 (some b) w w' := by
  have h2 := Any.Builder_WriteString_k lays166 Tryd.Builder_Extra_156 B b (Lib.byteCells l) t w h (by rw [Lib.byteCells_length]; exact hlen) hBw
  refine h2.mono ?_
  rintro e w' ⟨he, hb, hB, hO⟩
  refine ⟨he, ?_, hB, hO⟩
  unfold Bld
  rw [Lib.byteCells_append]
  exact .inr hb

theorem f50 (B b : Nat) (l : List UInt8) (w : World) (h : Bld B b l w) (hBw : B ≤ w.heap.size) :
    Calls Tryd.prog 50 #[.pointer (some ⟨b, 0, none⟩)] w fun e w' => e = .returned (.string (bs l)) ∧ Below B w w' :=
  (Tryd.Builder_String_any_k B b l w h hBw).mono fun _ _ h => ⟨h.1, h.2.2.1⟩

theorem others_of_below {b : Nat} {w w' : World} (h : Below w.heap.size w w') : Lib.OthersKept 5 (some b) w w' := fun k o hk _ _ => (h.block k (Array.getElem?_eq_some_iff.1 hk).1).trans hk
/-- A block of another kind stands. -/
theorem others_blk {b k : Nat} {w w' : World} {c : Array Value} {t : TypeId} (h : Lib.OthersKept 5 (some b) w w') (hk : w.heap[k]? = some (.cells c t (0, 0))) (hkb : k ≠ b) (ht : t ≠ 5) : w'.heap[k]? = some (.cells c t (0, 0)) :=
  h k _ hk (fun e => hkb (Option.some.inj e)) (fun c' fz e => by injection e with e1 e2 e3; exact ht e2)

end Go.Proofs.YtaanihidheccfaaDoor
