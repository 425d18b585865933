/-
  The program's reader in memory; peek, take, fail, number.
-/
import Derived.Test.YtlgpilcjcomacaaHeap
import Derived.Test.YtlgpilcjcomacaaPa
import Derived.Test.YtlgpilcjcomacaaShelf
import Derived.IntWalk
namespace Go.Proofs.Ytlgpilcjcomacaa
open Go.RowKit Rx
set_option linter.unusedVariables false

theorem str_ext (s : ByteArray) (a b : Nat) : str (s.extract a b) = ((str s).drop a).take (b - a) := by
  unfold str
  rw [ByteArray.data_extract, Array.toList_extract, List.extract_eq_take_drop]
theorem str_ext_end (s : ByteArray) (a : Nat) : str (s.extract a s.size) = (str s).drop a := by
  rw [str_ext, List.take_of_length_le (by rw [List.length_drop, str_len]; omega)]

/-- A reader of the program. -/
structure RS (br : Nat) (s : ByteArray) (deep : Nat) (st : PS) (w : World) : Prop where
  c0 : w.cell? ⟨br, 0, none⟩ = some (.string s)
  c1 : Holds w br 1 (.int .i64 st.pos)
  c2 : Holds w br 2 (.int .i64 st.grps)
  c3 : Holds w br 3 (.int .i64 deep)
  c4 : Holds w br 4 (.int .i64 st.refs)
  le : st.pos ≤ s.size
  sz : s.size ≤ 300
  gs : st.grps ≤ 9
  rs : st.refs ≤ 9
  dp : deep ≤ 10

theorem RS.keep {S : Nat → Prop} {br : Nat} {s : ByteArray} {deep : Nat} {st : PS} {w w' : World} (h : RS br s deep st w) (t : Touch S w w') (hb : ¬ S br) : RS br s deep st w' :=
  ⟨t.has h.c0 hb, h.c1.keep t hb, h.c2.keep t hb, h.c3.keep t hb, h.c4.keep t hb, h.le, h.sz, h.gs, h.rs, h.dp⟩
theorem RS.lt {br : Nat} {s : ByteArray} {deep : Nat} {st : PS} {w : World} (h : RS br s deep st w) : br < w.heap.size := h.c1.lt
theorem RS.setPos {br : Nat} {s : ByteArray} {deep : Nat} {st : PS} {w : World} (h : RS br s deep st w) (j : Nat) (hj : j ≤ s.size) : RS br s deep { st with pos := j } (w.setCell ⟨br, 1, none⟩ (.int .i64 (j : Int))) :=
  ⟨cell_set_other h.c0 _ (.inr (by simp)), h.c1.set _, h.c2.set_other _ (.inr (by simp)), h.c3.set_other _ (.inr (by simp)), h.c4.set_other _ (.inr (by simp)), hj, h.sz, h.gs, h.rs, h.dp⟩
theorem RS.setGrps {br : Nat} {s : ByteArray} {deep : Nat} {st : PS} {w : World} (h : RS br s deep st w) (j : Nat) (hj : j ≤ 9) : RS br s deep { st with grps := j } (w.setCell ⟨br, 2, none⟩ (.int .i64 (j : Int))) :=
  ⟨cell_set_other h.c0 _ (.inr (by simp)), h.c1.set_other _ (.inr (by simp)), h.c2.set _, h.c3.set_other _ (.inr (by simp)), h.c4.set_other _ (.inr (by simp)), h.le, h.sz, hj, h.rs, h.dp⟩
theorem RS.setDeep {br : Nat} {s : ByteArray} {deep : Nat} {st : PS} {w : World} (h : RS br s deep st w) (j : Nat) (hj : j ≤ 10) : RS br s j st (w.setCell ⟨br, 3, none⟩ (.int .i64 (j : Int))) :=
  ⟨cell_set_other h.c0 _ (.inr (by simp)), h.c1.set_other _ (.inr (by simp)), h.c2.set_other _ (.inr (by simp)), h.c3.set _, h.c4.set_other _ (.inr (by simp)), h.le, h.sz, h.gs, h.rs, hj⟩
theorem RS.setRefs {br : Nat} {s : ByteArray} {deep : Nat} {st : PS} {w : World} (h : RS br s deep st w) (j : Nat) (hj : j ≤ 9) : RS br s deep { st with refs := j } (w.setCell ⟨br, 4, none⟩ (.int .i64 (j : Int))) :=
  ⟨cell_set_other h.c0 _ (.inr (by simp)), h.c1.set_other _ (.inr (by simp)), h.c2.set_other _ (.inr (by simp)), h.c3.set_other _ (.inr (by simp)), h.c4.set _, h.le, h.sz, h.gs, hj, h.dp⟩

theorem pk_lt {s : ByteArray} {i : Nat} (h : i < s.size) : pk (str s) i = (s[i]'h).toNat := by unfold pk; rw [byteAt_lt h]; rfl
theorem pk_ge {s : ByteArray} {i : Nat} (h : s.size ≤ i) : pk (str s) i = 0 := by unfold pk; rw [byteAt_ge h]; rfl
theorem pk_256 (s : ByteArray) (i : Nat) : pk (str s) i < 256 := by
  by_cases h : i < s.size
  · rw [pk_lt h]; exact (s[i]'h).toNat_lt
  · rw [pk_ge (by omega)]; decide

theorem drewN2 (w : World) (a b : Nat) : (w.drewN a).drewN b = w.drewN (a + b) := by
  simp [World.drewN, Nat.add_assoc]

set_option maxRecDepth 100000 in
theorem peek_any (br : Nat) (s : ByteArray) (deep : Nat) (st : PS) (w : World) (h : RS br s deep st w) :
    Calls Try.prog 87 #[.pointer (some ⟨br, 0, none⟩)] w fun e w' => e = .returned (.int .u8 (pk (str s) st.pos)) ∧ ∃ q, w' = w.drewN q := by
  have h0 := h.c0
  have h1 := h.c1.1
  have hsz := h.sz
  have hle := h.le
  clear h
  by_cases hlt : st.pos < s.size
  · have HP := Lib.hid (pk_lt hlt)
    have hd : decide (st.pos < s.size) = true := by simp; omega
    go_enter Try.func87, Try.ntmps87
    go_wp2_with fail
    go_quiet (fail)
    go_wp2_with fail
    go_quiet (fail)
    go_wp2_with fail
    go_ret
    rw [HP.out]
    exact ⟨rfl, _, drewN2 _ _ _⟩
  · have HP := Lib.hid (pk_ge (Nat.le_of_not_lt hlt))
    have hd : decide (st.pos < s.size) = false := by simp; omega
    go_enter Try.func87, Try.ntmps87
    go_wp2_with fail
    go_quiet (fail)
    go_wp2_with fail
    go_ret
    rw [HP.out]
    exact ⟨rfl, _, rfl⟩

theorem peek_rs (br : Nat) (s : ByteArray) (deep : Nat) (st : PS) (w : World) (h : RS br s deep st w) :
    Calls Try.prog 87 #[.pointer (some ⟨br, 0, none⟩)] w fun e w' => e = .returned (.int .u8 (pk (str s) st.pos)) ∧ RS br s deep st w' ∧ Still w w' :=
  (peek_any br s deep st w h).mono fun e w' ⟨he, q, hq⟩ => ⟨he, by subst hq; exact h.keep (S := fun _ => False) ((Touch.refl _ _).drewN q) id, by subst hq; exact (Touch.refl _ _).drewN q⟩

set_option maxRecDepth 100000 in
theorem take_no (br : Nat) (s t : ByteArray) (deep : Nat) (st : PS) (w : World) (h : RS br s deep st w) (ht : tk (str s) st.pos (str t) = false) :
    Calls Try.prog 88 #[.pointer (some ⟨br, 0, none⟩), .string t] w fun e w' => e = .returned (.bool false) ∧ ∃ q, w' = w.drewN q := by
  have h0 := h.c0
  have h1 := h.c1.1
  have hsz := h.sz
  have hle := h.le
  have HHP := Lib.hid (fun w => Try.strings_HasPrefix (s.extract st.pos s.size) t w)
  have HE : Hid (Lib.hasPrefix (s.extract st.pos s.size).data.toList t.data.toList = false) := Lib.hid (by
    rw [show (s.extract st.pos s.size).data.toList = (str s).drop st.pos from str_ext_end _ _]; exact ht)
  rw [HE.out] at HHP
  clear h ht
  go_enter Try.func88, Try.ntmps88
  go_wp2_with fail
  go_quiet ((go_at_call 69; exact Calls.quiet_of_same ((HHP.out _).mono fun e w' h => ⟨h.1, h.2⟩)))
  go_wp2_with fail
  go_ret
  exact ⟨rfl, _, rfl⟩

theorem tk_le {s t : ByteArray} {i : Nat} (h : tk (str s) i (str t) = true) (hi : i ≤ s.size) : i + t.size ≤ s.size := by
  have h1 := List.IsPrefix.length_le (List.isPrefixOf_iff_prefix.1 h)
  rw [List.length_drop, str_len, str_len] at h1
  omega

set_option maxRecDepth 100000 in
theorem take_yes (br : Nat) (s t : ByteArray) (deep : Nat) (st : PS) (w : World) (h : RS br s deep st w) (ht : tk (str s) st.pos (str t) = true) (htz : t.size ≤ 2) :
    Calls Try.prog 88 #[.pointer (some ⟨br, 0, none⟩), .string t] w fun e w' => e = .returned (.bool true) ∧ RS br s deep { st with pos := st.pos + t.size } w' ∧ Touch (fun b => b = br) w w' := by
  have h0 := h.c0
  have h1 := h.c1
  have hsz := h.sz
  have hle := h.le
  have hl2 := tk_le ht hle
  have HHP := Lib.hid (fun w => Try.strings_HasPrefix (s.extract st.pos s.size) t w)
  have HE : Hid (Lib.hasPrefix (s.extract st.pos s.size).data.toList t.data.toList = true) := Lib.hid (by
    rw [show (s.extract st.pos s.size).data.toList = (str s).drop st.pos from str_ext_end _ _]; exact ht)
  rw [HE.out] at HHP
  have HH := Lib.hid h
  obtain ⟨h1, h1f⟩ := h1
  clear h ht
  go_enter Try.func88, Try.ntmps88
  go_wp2_with fail
  go_quiet ((go_at_call 69; exact Calls.quiet_of_same ((HHP.out _).mono fun e w' h => ⟨h.1, h.2⟩)))
  go_wp2_with fail
  go_ret
  exact ⟨rfl, (HH.out.keep ((Touch.refl (fun _ => False) w).drewN _) id).setPos (st.pos + t.size) hl2, Touch.setCell ((Touch.refl (fun b => b = br) w).drewN _) (.inl rfl) _⟩

theorem fail_any (v : Value) (w : World) :
    Calls Try.prog 65 #[v] w fun e w' => e = .panicked [{ v := .iface 132 (.agg #[]), recovered := false }] ∧ w = w' := by
  have h : ∀ x : Value, x = v → Calls Try.prog 65 #[x] w fun e w' => e = .panicked [{ v := .iface 132 (.agg #[]), recovered := false }] ∧ w = w' := by
    intro x hx
    cases x
    all_goals
      clear hx
      go_enter Try.func65, Try.ntmps65
      go_wp2_with fail
      exact ⟨rfl, rfl, rfl⟩
  exact h v rfl
end Go.Proofs.Ytlgpilcjcomacaa
