/-
  The small methods of the program's table: none, open, strictly, at with the binary search, under.
-/
import Derived.Test.YtombofldebmaoaaHeap
namespace Go.Proofs.Ytombofldebmaoaa
open Go.RowKit
set_option linter.unusedVariables false

abbrev Still (w w' : World) : Prop := Touch (fun _ => False) w w'

theorem ret_int {k : IntKind} {a b : Int} (h : a = b) : Ending.returned (.int k a) = .returned (.int k b) := by rw [h]

theorem f44_nil (w : World) : Calls Try.prog 44 #[.pointer none] w fun e w' => e = .returned (.bool true) ∧ w = w' := by
  go_enter Try.func44, Try.ntmps44
  go_wp2
  go_ret
  exact ⟨rfl, rfl⟩

theorem f44_at (b : Nat) (m : Bool) (w : World) (h0 : w.cell? ⟨b, 0, none⟩ = some (.bool m)) :
    Calls Try.prog 44 #[.pointer (some ⟨b, 0, none⟩)] w fun e w' => e = .returned (.bool (!m)) ∧ w = w' := by
  go_enter Try.func44, Try.ntmps44
  go_wp2
  go_ret
  exact ⟨rfl, rfl⟩

theorem f44_tab {w : World} {F : Nat → Prop} {b : Nat} {T : PT} (h : Tab w F b T) :
    Calls Try.prog 44 #[.pointer (some ⟨b, 0, none⟩)] w fun e w' => e = .returned (.bool false) ∧ w = w' := by
  obtain ⟨rv, m, kv, h⟩ := h
  exact f44_at b true w h.c0

/-- how many walks are not over -/
def opens (ks : List W2) : Nat := (ks.filter (fun k => !k.2)).length
theorem opens_le (ks : List W2) : opens ks ≤ ks.length := List.length_filter_le _ _
theorem opens_take_succ (ks : List W2) (k : Nat) (r : W2) (h : ks[k]? = some r) : opens (ks.take (k + 1)) = opens (ks.take k) + (if r.2 then 0 else 1) := by
  unfold opens
  rw [List.take_add_one, h]
  simp only [Option.toList_some, List.filter_append, List.length_append]
  congr 1
  obtain ⟨a, b⟩ := r
  cases b <;> rfl

theorem f48_tab {w : World} {F : Nat → Prop} {b : Nat} {T : PT} (h : Tab w F b T) (hl : T.walks.length < 1099511627776) :
    Calls Try.prog 48 #[.pointer (some ⟨b, 0, none⟩)] w fun e w' => e = .returned (.int .i64 (opens T.walks)) ∧ Still w w' := by
  obtain ⟨rv, m, kv, h⟩ := h
  obtain ⟨ao, cap, rfl, hcap, hv⟩ := h.viewK
  have h4 := h.c4
  have hlt' := h.lt
  have HF := Lib.hid hlt'; clear hlt'
  have HC := Lib.hid hv; clear hv
  generalize T.walks = ks at *
  clear h
  go_enter Try.func48, Try.ntmps48
  go_wp2
  go_loopw [3, 11] (fun n i wr => ∃ k : Nat, k ≤ ks.length ∧ i = .int .i64 k ∧ n = .int .i64 (opens (ks.take k)) ∧ Still w wr) (fun _ i _ => ks.length - (intOf i).toNat)
  case atStart => exact ⟨0, Nat.zero_le _, rfl, by simp [opens], Touch.refl _ _⟩
  case round =>
    obtain ⟨k, hk, rfl, rfl, ht⟩ := hrel
    by_cases hlt : k < ks.length
    · obtain ⟨r, hr⟩ : ∃ r, ks[k]? = some r := ⟨ks[k], by simp [hlt]⟩
      obtain ⟨g, hg, hF, ⟨h0, h1⟩, _⟩ := HC.out k r hr
      have hb := HF.out g hF
      have h0 := (ht.cell (p := ⟨g, k * 2, none⟩) hb (by simp)).trans h0
      have h1 := (ht.cell (p := ⟨g, k * 2 + 1, none⟩) hb (by simp)).trans h1
      have HR := Lib.hid (opens_take_succ ks k r hr)
      have HT := Lib.hid ht; clear ht hr
      have hle := opens_le (ks.take k)
      have hle2 : (ks.take k).length ≤ k := List.length_take_le _ _
      subst hg
      go_wp2
      all_goals
        go_roundw
        case rel =>
          refine ⟨k + 1, by omega, by go_num, ?_, HT.out.alloc _⟩
          have e := HR.out
          simp_all
        case measure => simp [intOf]; omega
    · have HT := Lib.hid ht; clear ht
      have HE : Hid (ks.take k = ks) := List.take_of_length_le (by omega)
      go_wp2
      go_ret
      refine ⟨?_, HT.out⟩
      show Ending.returned (.int .i64 (opens (ks.take k))) = _
      rw [HE.out]

end Go.Proofs.Ytombofldebmaoaa
