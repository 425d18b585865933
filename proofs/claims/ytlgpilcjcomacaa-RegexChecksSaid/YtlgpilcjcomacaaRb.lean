/-
  The document's reader in memory; peek, end, next.
-/
import Derived.Test.YtlgpilcjcomacaaPb
namespace Go.Proofs.Ytlgpilcjcomacaa
open Go.RowKit Rx
set_option linter.unusedVariables false

/-- A reader of the document. -/
structure RR (br : Nat) (s : ByteArray) (deep : Nat) (st : PS) (w : World) : Prop where
  c0 : w.cell? ⟨br, 0, none⟩ = some (.string s)
  c1 : Holds w br 1 (.int .i64 st.pos)
  c2 : Holds w br 2 (.int .i64 st.grps)
  c3 : Holds w br 3 (.int .i64 deep)
  c4 : Holds w br 4 (.int .i64 st.refs)
  c5 : Holds w br 5 (.bool false)
  le : st.pos ≤ s.size
  sz : s.size ≤ 300
  gs : st.grps ≤ 9
  rs : st.refs ≤ 9
  dp : deep ≤ 10

/-- A reader of the document that has seen a fault. -/
structure RX (br : Nat) (s : ByteArray) (w : World) : Prop where
  c0 : w.cell? ⟨br, 0, none⟩ = some (.string s)
  c1 : ∃ j : Nat, j ≤ s.size ∧ Holds w br 1 (.int .i64 j)
  c2 : ∃ x : Int, Holds w br 2 (.int .i64 x)
  c3 : ∃ x : Int, Holds w br 3 (.int .i64 x)
  c4 : ∃ x : Int, Holds w br 4 (.int .i64 x)
  c5 : Holds w br 5 (.bool true)
  sz : s.size ≤ 300

theorem RR.keep {S : Nat → Prop} {br : Nat} {s : ByteArray} {deep : Nat} {st : PS} {w w' : World} (h : RR br s deep st w) (t : Touch S w w') (hb : ¬ S br) : RR br s deep st w' :=
  ⟨t.has h.c0 hb, h.c1.keep t hb, h.c2.keep t hb, h.c3.keep t hb, h.c4.keep t hb, h.c5.keep t hb, h.le, h.sz, h.gs, h.rs, h.dp⟩
theorem RX.keep {S : Nat → Prop} {br : Nat} {s : ByteArray} {w w' : World} (h : RX br s w) (t : Touch S w w') (hb : ¬ S br) : RX br s w' :=
  ⟨t.has h.c0 hb, by obtain ⟨j, h1, h2⟩ := h.c1; exact ⟨j, h1, h2.keep t hb⟩, by obtain ⟨x, hx⟩ := h.c2; exact ⟨x, hx.keep t hb⟩, by obtain ⟨x, hx⟩ := h.c3; exact ⟨x, hx.keep t hb⟩, by obtain ⟨x, hx⟩ := h.c4; exact ⟨x, hx.keep t hb⟩, h.c5.keep t hb, h.sz⟩
theorem RR.lt {br : Nat} {s : ByteArray} {deep : Nat} {st : PS} {w : World} (h : RR br s deep st w) : br < w.heap.size := h.c1.lt
theorem RX.lt {br : Nat} {s : ByteArray} {w : World} (h : RX br s w) : br < w.heap.size := h.c5.lt
theorem RR.setPos {br : Nat} {s : ByteArray} {deep : Nat} {st : PS} {w : World} (h : RR br s deep st w) (j : Nat) (hj : j ≤ s.size) : RR br s deep { st with pos := j } (w.setCell ⟨br, 1, none⟩ (.int .i64 (j : Int))) :=
  ⟨cell_set_other h.c0 _ (.inr (by simp)), h.c1.set _, h.c2.set_other _ (.inr (by simp)), h.c3.set_other _ (.inr (by simp)), h.c4.set_other _ (.inr (by simp)), h.c5.set_other _ (.inr (by simp)), hj, h.sz, h.gs, h.rs, h.dp⟩
theorem RR.setGrps {br : Nat} {s : ByteArray} {deep : Nat} {st : PS} {w : World} (h : RR br s deep st w) (j : Nat) (hj : j ≤ 9) : RR br s deep { st with grps := j } (w.setCell ⟨br, 2, none⟩ (.int .i64 (j : Int))) :=
  ⟨cell_set_other h.c0 _ (.inr (by simp)), h.c1.set_other _ (.inr (by simp)), h.c2.set _, h.c3.set_other _ (.inr (by simp)), h.c4.set_other _ (.inr (by simp)), h.c5.set_other _ (.inr (by simp)), h.le, h.sz, hj, h.rs, h.dp⟩
theorem RR.setDeep {br : Nat} {s : ByteArray} {deep : Nat} {st : PS} {w : World} (h : RR br s deep st w) (j : Nat) (hj : j ≤ 10) : RR br s j st (w.setCell ⟨br, 3, none⟩ (.int .i64 (j : Int))) :=
  ⟨cell_set_other h.c0 _ (.inr (by simp)), h.c1.set_other _ (.inr (by simp)), h.c2.set_other _ (.inr (by simp)), h.c3.set _, h.c4.set_other _ (.inr (by simp)), h.c5.set_other _ (.inr (by simp)), h.le, h.sz, h.gs, h.rs, hj⟩
theorem RR.setRefs {br : Nat} {s : ByteArray} {deep : Nat} {st : PS} {w : World} (h : RR br s deep st w) (j : Nat) (hj : j ≤ 9) : RR br s deep { st with refs := j } (w.setCell ⟨br, 4, none⟩ (.int .i64 (j : Int))) :=
  ⟨cell_set_other h.c0 _ (.inr (by simp)), h.c1.set_other _ (.inr (by simp)), h.c2.set_other _ (.inr (by simp)), h.c3.set_other _ (.inr (by simp)), h.c4.set _, h.c5.set_other _ (.inr (by simp)), h.le, h.sz, h.gs, hj, h.dp⟩

/-- A reader whatever it has seen: not bad, or bad. -/
theorem RR.bad {br : Nat} {s : ByteArray} {deep : Nat} {st : PS} {w : World} (h : RR br s deep st w) : RX br s (w.setCell ⟨br, 5, none⟩ (.bool true)) :=
  ⟨cell_set_other h.c0 _ (.inr (by simp)), ⟨_, h.le, h.c1.set_other _ (.inr (by simp))⟩, ⟨_, h.c2.set_other _ (.inr (by simp))⟩, ⟨_, h.c3.set_other _ (.inr (by simp))⟩, ⟨_, h.c4.set_other _ (.inr (by simp))⟩, h.c5.set _, h.sz⟩
theorem RX.setPos {br : Nat} {s : ByteArray} {w : World} (h : RX br s w) (j : Nat) (hj : j ≤ s.size) : RX br s (w.setCell ⟨br, 1, none⟩ (.int .i64 (j : Int))) :=
  ⟨cell_set_other h.c0 _ (.inr (by simp)), by obtain ⟨i, -, h2⟩ := h.c1; exact ⟨j, hj, h2.set _⟩, by obtain ⟨x, hx⟩ := h.c2; exact ⟨x, hx.set_other _ (.inr (by simp))⟩, by obtain ⟨x, hx⟩ := h.c3; exact ⟨x, hx.set_other _ (.inr (by simp))⟩, by obtain ⟨x, hx⟩ := h.c4; exact ⟨x, hx.set_other _ (.inr (by simp))⟩, h.c5.set_other _ (.inr (by simp)), h.sz⟩
theorem RX.setBad {br : Nat} {s : ByteArray} {w : World} (h : RX br s w) : RX br s (w.setCell ⟨br, 5, none⟩ (.bool true)) :=
  ⟨cell_set_other h.c0 _ (.inr (by simp)), by obtain ⟨i, h1, h2⟩ := h.c1; exact ⟨i, h1, h2.set_other _ (.inr (by simp))⟩, by obtain ⟨x, hx⟩ := h.c2; exact ⟨x, hx.set_other _ (.inr (by simp))⟩, by obtain ⟨x, hx⟩ := h.c3; exact ⟨x, hx.set_other _ (.inr (by simp))⟩, by obtain ⟨x, hx⟩ := h.c4; exact ⟨x, hx.set_other _ (.inr (by simp))⟩, h.c5.set _, h.sz⟩
theorem RX.setDeep {br : Nat} {s : ByteArray} {w : World} (h : RX br s w) (x : Int) : RX br s (w.setCell ⟨br, 3, none⟩ (.int .i64 x)) :=
  ⟨cell_set_other h.c0 _ (.inr (by simp)), by obtain ⟨i, h1, h2⟩ := h.c1; exact ⟨i, h1, h2.set_other _ (.inr (by simp))⟩, by obtain ⟨x, hx⟩ := h.c2; exact ⟨x, hx.set_other _ (.inr (by simp))⟩, by obtain ⟨y, hy⟩ := h.c3; exact ⟨x, hy.set _⟩, by obtain ⟨x, hx⟩ := h.c4; exact ⟨x, hx.set_other _ (.inr (by simp))⟩, h.c5.set_other _ (.inr (by simp)), h.sz⟩

set_option maxRecDepth 100000 in
theorem rpeek_any (br : Nat) (s : ByteArray) (j : Nat) (w : World) (h0 : w.cell? ⟨br, 0, none⟩ = some (.string s)) (h1 : w.cell? ⟨br, 1, none⟩ = some (.int .i64 j)) (hsz : s.size ≤ 300) (hle : j ≤ s.size) :
    Calls Try.prog 96 #[.pointer (some ⟨br, 0, none⟩)] w fun e w' => e = .returned (.int .u8 (pk (str s) j)) ∧ ∃ q, w' = w.drewN q := by
  by_cases hlt : j < s.size
  · have HP := Lib.hid (pk_lt hlt)
    have hd : decide (j < s.size) = true := by simp; omega
    go_enter Try.func96, Try.ntmps96
    go_wp2_with fail
    go_quiet (fail)
    go_wp2_with fail
    go_quiet (fail)
    go_wp2_with fail
    go_ret
    rw [HP.out]
    exact ⟨rfl, _, drewN2 _ _ _⟩
  · have HP := Lib.hid (pk_ge (Nat.le_of_not_lt hlt))
    have hd : decide (j < s.size) = false := by simp; omega
    go_enter Try.func96, Try.ntmps96
    go_wp2_with fail
    go_quiet (fail)
    go_wp2_with fail
    go_ret
    rw [HP.out]
    exact ⟨rfl, _, rfl⟩

set_option maxRecDepth 100000 in
theorem rend_any (br : Nat) (s : ByteArray) (j : Nat) (w : World) (h0 : w.cell? ⟨br, 0, none⟩ = some (.string s)) (h1 : w.cell? ⟨br, 1, none⟩ = some (.int .i64 j)) (hsz : s.size ≤ 300) (hle : j ≤ s.size) :
    Calls Try.prog 54 #[.pointer (some ⟨br, 0, none⟩)] w fun e w' => e = .returned (.bool (decide (s.size ≤ j))) ∧ ∃ q, w' = w.drewN q := by
  have HE : Hid (decide ((s.size : Int) ≤ (j : Int)) = decide (s.size ≤ j)) := Lib.hid (decide_eq_decide.2 (by omega))
  go_enter Try.func54, Try.ntmps54
  go_wp2_with fail
  go_quiet (fail)
  go_wp2_with fail
  go_ret
  exact ⟨rfl, _, rfl⟩

set_option maxRecDepth 100000 in
theorem rnext_no (br : Nat) (s t : ByteArray) (j : Nat) (w : World) (h0 : w.cell? ⟨br, 0, none⟩ = some (.string s)) (h1 : w.cell? ⟨br, 1, none⟩ = some (.int .i64 j)) (hsz : s.size ≤ 300) (hle : j ≤ s.size) (ht : tk (str s) j (str t) = false) :
    Calls Try.prog 78 #[.pointer (some ⟨br, 0, none⟩), .string t] w fun e w' => e = .returned (.bool false) ∧ ∃ q, w' = w.drewN q := by
  have HHP := Lib.hid (fun w => Try.strings_HasPrefix (s.extract j s.size) t w)
  have HE : Hid (Lib.hasPrefix (s.extract j s.size).data.toList t.data.toList = false) := Lib.hid (by
    rw [show (s.extract j s.size).data.toList = (str s).drop j from str_ext_end _ _]; exact ht)
  rw [HE.out] at HHP
  have hmin : min (j : Int) (s.size : Int) = (j : Int) := by omega
  clear ht
  go_enter Try.func78, Try.ntmps78
  go_wp2_with fail
  go_quiet ((go_at_call 69; exact Calls.quiet_of_same ((HHP.out _).mono fun e w' h => ⟨h.1, h.2⟩)))
  go_wp2_with fail
  go_ret
  exact ⟨rfl, _, rfl⟩

set_option maxRecDepth 100000 in
theorem rnext_yes (br : Nat) (s t : ByteArray) (j : Nat) (w : World) (h0 : w.cell? ⟨br, 0, none⟩ = some (.string s)) (h1 : Holds w br 1 (.int .i64 j)) (hsz : s.size ≤ 300) (hle : j ≤ s.size) (ht : tk (str s) j (str t) = true) (htz : t.size ≤ 2) :
    Calls Try.prog 78 #[.pointer (some ⟨br, 0, none⟩), .string t] w fun e w' => e = .returned (.bool true) ∧ ∃ q, w' = (w.drewN q).setCell ⟨br, 1, none⟩ (.int .i64 ((j + t.size : Nat) : Int)) := by
  have hl2 := tk_le ht hle
  have HHP := Lib.hid (fun w => Try.strings_HasPrefix (s.extract j s.size) t w)
  have HE : Hid (Lib.hasPrefix (s.extract j s.size).data.toList t.data.toList = true) := Lib.hid (by
    rw [show (s.extract j s.size).data.toList = (str s).drop j from str_ext_end _ _]; exact ht)
  rw [HE.out] at HHP
  obtain ⟨h1, h1f⟩ := h1
  have hmin : min (j : Int) (s.size : Int) = (j : Int) := by omega
  clear ht
  go_enter Try.func78, Try.ntmps78
  go_wp2_with fail
  go_quiet ((go_at_call 69; exact Calls.quiet_of_same ((HHP.out _).mono fun e w' h => ⟨h.1, h.2⟩)))
  go_wp2_with fail
  go_ret
  exact ⟨rfl, _, rfl⟩

/-- What comes of a call while the reader has seen a fault. -/
def Bads (br : Nat) (s : ByteArray) (w w' : World) : Prop := RX br s w' ∧ Touch (fun b => b = br) w w'

theorem rpeek_rr {br : Nat} {s : ByteArray} {deep : Nat} {st : PS} {w : World} (h : RR br s deep st w) :
    Calls Try.prog 96 #[.pointer (some ⟨br, 0, none⟩)] w fun e w' => e = .returned (.int .u8 (pk (str s) st.pos)) ∧ ∃ q, w' = w.drewN q :=
  rpeek_any br s st.pos w h.c0 h.c1.1 h.sz h.le
theorem rend_rr {br : Nat} {s : ByteArray} {deep : Nat} {st : PS} {w : World} (h : RR br s deep st w) :
    Calls Try.prog 54 #[.pointer (some ⟨br, 0, none⟩)] w fun e w' => e = .returned (.bool (decide (s.size ≤ st.pos))) ∧ ∃ q, w' = w.drewN q :=
  rend_any br s st.pos w h.c0 h.c1.1 h.sz h.le
theorem rpeek_rx {br : Nat} {s : ByteArray} {w : World} (h : RX br s w) :
    Calls Try.prog 96 #[.pointer (some ⟨br, 0, none⟩)] w fun e w' => ∃ c : Nat, e = .returned (.int .u8 (c : Int)) ∧ c < 256 ∧ ∃ q, w' = w.drewN q := by
  obtain ⟨j, hj, h1⟩ := h.c1
  exact (rpeek_any br s j w h.c0 h1.1 h.sz hj).mono fun e w' ⟨he, hq⟩ => ⟨_, he, pk_256 s j, hq⟩
theorem rend_rx {br : Nat} {s : ByteArray} {w : World} (h : RX br s w) :
    Calls Try.prog 54 #[.pointer (some ⟨br, 0, none⟩)] w fun e w' => ∃ b, e = .returned (.bool b) ∧ ∃ q, w' = w.drewN q := by
  obtain ⟨j, hj, h1⟩ := h.c1
  exact (rend_any br s j w h.c0 h1.1 h.sz hj).mono fun e w' ⟨he, hq⟩ => ⟨_, he, hq⟩
theorem rnext_rx {br : Nat} {s t : ByteArray} {w : World} (h : RX br s w) (ht : t.size ≤ 2) :
    Calls Try.prog 78 #[.pointer (some ⟨br, 0, none⟩), .string t] w fun e w' => ∃ b, e = .returned (.bool b) ∧ Bads br s w w' := by
  obtain ⟨j, hj, h1⟩ := h.c1
  by_cases hk : tk (str s) j (str t) = true
  · refine (rnext_yes br s t j w h.c0 h1 h.sz hj hk ht).mono ?_
    rintro e w' ⟨he, q, rfl⟩
    exact ⟨_, he, (h.keep (S := fun _ => False) ((Touch.refl _ _).drewN q) id).setPos _ (tk_le hk hj), Touch.setCell ((Touch.refl (fun b => b = br) w).drewN q) (.inl rfl) _⟩
  · refine (rnext_no br s t j w h.c0 h1.1 h.sz hj (by simpa using hk)).mono ?_
    rintro e w' ⟨he, q, rfl⟩
    exact ⟨_, he, h.keep (S := fun _ => False) ((Touch.refl _ _).drewN q) id, (Touch.refl _ _).drewN q⟩
end Go.Proofs.Ytlgpilcjcomacaa
