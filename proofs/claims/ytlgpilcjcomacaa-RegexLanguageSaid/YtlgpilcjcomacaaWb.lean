/-
  The document's ends: rows, alternatives, groups, repeats. (Printed by wip/tools/ends07b.py.)
-/
import Derived.Test.YtlgpilcjcomacaaWa
namespace Go.Proofs.Ytlgpilcjcomacaa
open Go.RowKit Rx
set_option linter.unusedVariables false

theorem run_append_none {P : Program} {w : World} (base : Nat) (t ty e : TypeId) (i : TypeInfo) (size c : Nat) (ht : P.underlying t = some (.slice e)) (hi : P.info? e = some i)
    (v : Value) (n : Nat) (xs : List Value) (hown : w.ownsRow base e size v n xs) :
    (Builtin.append_ #[t, t] ty #[v, .slice none 0 c]).run P w = .ok v w := by
  rcases hown.2 with ⟨rfl, rfl⟩ | ⟨g, cap, cur, rfl, _, _, hnc, _⟩
  · simp [Builtin.append_, run_underlying ht, sizeOf, typeInfo, hi, Builtin.lenOf, Builtin.firstCells]
  · simp [Builtin.append_, run_underlying ht, sizeOf, typeInfo, hi, Builtin.lenOf, Builtin.firstCells, hnc, storeCells]

/-- A copy of a row of no marks. -/
theorem wpList_copy_zero {ops : Array Oper} {rest : List Oper} {o : Oper} {a : Act} {w : World} {Q : Exit → Act → World → Prop} (hgd : o.guard = none) (s x : Operand)
    (ho : o.op = .call { callee := .builtin .append, args := #[s, x], argTypes := #[72, 72] }) (g : Nat) (hs : a.eval s = .slice (some ⟨g, 0, none⟩) 0 0) (hg : w.heap[g]? = some (.cells #[] 4 (0, 0))) (ao : Option Addr) (cap : Nat) (hx : a.eval x = .slice ao 0 cap)
    (h : ∀ ao' c w', Touch (fun k => k = g) w w' → wpList Try.prog ops Q rest (a.put o.dst (.slice ao' 0 c)) w') : wpList Try.prog ops Q (o :: rest) a w := by
  obtain ⟨i0, hi, hz0, hz1, hz2⟩ := info_parts infoBool
  cases ao with
  | none =>
    refine wpList_plain hgd fun K hK => ?_
    have hrun := run_append_none (P := Try.prog) (w := w) 0 72 o.type 4 i0 1 cap Try.underlying72 hi _ 0 [] (owns_empty hg)
    unfold Oper.wp
    simp [execOp, ho, resolve, invoke, builtin, hs, hx, hrun, Result.andThen]
    exact hK _ _ (h _ _ w (Touch.refl _ _))
  | some ad =>
    refine wpList_append_own_at w hgd s x 72 ho 0 4 i0 (.bool false) 1 1 Try.underlying72 hi hz0 hz1 hz2 rfl (by decide) _ 0 [] hs (owns_empty hg) ad 0 cap [] hx rfl (fun j u hu => by simp at hu) (fun u hu => by simp at hu) (Nat.zero_le _) (by omega) (Nat.zero_le _) ?_
    intro v' w' h2 h3 _ h5
    have ht : Touch (fun k => k = g) w w' := ⟨h3.os, h3.tape, h3.output, h3.size, fun k hk hne => h3.block k hk (fun e => hne (Option.some.inj e))⟩
    rcases h2.2 with ⟨rfl, h0⟩ | ⟨b, c, cur, rfl, -⟩
    · exact h _ _ w' ht
    · exact h _ _ w' ht

/-- A way goes forth, and stays in the text. -/
theorem pow_le {L : Nat} {R : Nat → Nat → Prop} (hR : ∀ i j, R i j → i ≤ j ∧ (i ≤ L → j ≤ L)) : ∀ n i j, Pow R n i j → i ≤ j ∧ (i ≤ L → j ≤ L)
  | 0, i, j, h => by have e : i = j := h; subst e; exact ⟨Nat.le_refl _, id⟩
  | n + 1, i, j, h => by
    obtain ⟨m, h1, h2⟩ := h
    have h3 := hR _ _ h1
    have h4 := pow_le hR n m j h2
    exact ⟨Nat.le_trans h3.1 h4.1, fun h => h4.2 (h3.2 h)⟩
theorem way_le (s : List UInt8) : ∀ a i j, Way s a i j → i ≤ j ∧ (i ≤ s.length → j ≤ s.length)
  | .set f, i, j, h => by
    obtain ⟨⟨c, hc, -⟩, rfl⟩ := h
    refine ⟨Nat.le_succ _, fun _ => ?_⟩
    unfold byteAt at hc
    rcases Nat.lt_or_ge i s.length with h | h
    · exact h
    · rw [List.getElem?_eq_none h] at hc; cases hc
  | .asr k, i, j, h => by obtain ⟨-, rfl⟩ := h; exact ⟨Nat.le_refl _, id⟩
  | .bref _, i, j, h => h.elim
  | .nil, i, j, h => by have e : j = i := h; subst e; exact ⟨Nat.le_refl _, id⟩
  | .cat a b, i, j, h => by
    obtain ⟨m, h1, h2⟩ := h
    have h3 := way_le s a _ _ h1
    have h4 := way_le s b _ _ h2
    exact ⟨Nat.le_trans h3.1 h4.1, fun h => h4.2 (h3.2 h)⟩
  | .none, i, j, h => h.elim
  | .alt a b, i, j, h => h.elim (way_le s a i j) (way_le s b i j)
  | .grp _ a, i, j, h => way_le s a i j h
  | .look _ _, i, j, h => h.elim
  | .atom _, i, j, h => h.elim
  | .rep a lo hi _, i, j, h => by
    obtain ⟨r, -, -, h3⟩ := h
    exact pow_le (way_le s a) r i j h3
  | .poss _ _ _, i, j, h => h.elim
theorem pow_add {R : Nat → Nat → Prop} : ∀ n m i j, Pow R (n + m) i j ↔ ∃ k, Pow R n i k ∧ Pow R m k j
  | 0, m, i, j => by rw [Nat.zero_add]; exact ⟨fun h => ⟨i, rfl, h⟩, fun ⟨k, h1, h2⟩ => (show i = k from h1) ▸ h2⟩
  | n + 1, m, i, j => by
    rw [show n + 1 + m = (n + m) + 1 by omega]
    constructor
    · rintro ⟨q, h1, h2⟩
      obtain ⟨k, h3, h4⟩ := (pow_add n m q j).1 h2
      exact ⟨k, ⟨q, h1, h3⟩, h4⟩
    · rintro ⟨k, ⟨q, h1, h3⟩, h4⟩
      exact ⟨q, h1, (pow_add n m q j).2 ⟨k, h3, h4⟩⟩
/-- Without the empty rounds. -/
theorem pow_short {L : Nat} {R : Nat → Nat → Prop} (hR : ∀ i j, R i j → i ≤ j ∧ (i ≤ L → j ≤ L)) : ∀ n i j, Pow R n i j → ∃ m, m ≤ j - i ∧ Pow R m i j
  | 0, i, j, h => ⟨0, Nat.zero_le _, h⟩
  | n + 1, i, j, h => by
    obtain ⟨q, h1, h2⟩ := h
    obtain ⟨m, h3, h4⟩ := pow_short hR n q j h2
    have h5 := (hR _ _ h1).1
    have h6 := (pow_le hR _ _ _ h4).1
    by_cases e : q = i
    · subst e; exact ⟨m, h3, h4⟩
    · exact ⟨m + 1, by omega, q, h1, h4⟩

/-- What comes back of ends. -/
def EndsP (s : ByteArray) (a : Re) (F : Nat → Bool) (w : World) (e : Ending) (w' : World) : Prop :=
  (pureB a = true ∧ ∃ (g c : Nat) (F' : Nat → Bool), e = .returned (.tuple #[.slice (some ⟨g, 0, none⟩) (s.size + 1) c, .bool true]) ∧ BR w' g s.size F' ∧ EndF s.size (Way (str s) a) F F' ∧ w.heap.size ≤ g ∧ Still w w') ∨
  (pureB a = false ∧ ∃ (ao : Option Addr) (c : Nat), e = .returned (.tuple #[.slice ao 0 c, .bool false]) ∧ Still w w')
def EndsOK (wT : World) (s : ByteArray) (p : Value) (a : Re) : Prop := ∀ (w : World) (g c : Nat) (F : Nat → Bool), Still wT w → BR w g s.size F →
  Calls Try.prog 35 #[p, .string s, .slice (some ⟨g, 0, none⟩) (s.size + 1) c] w (EndsP s a F w)
abbrev tE (wT : World) (a : Re) : Rd := rdD (fun _ => True) wT a
def NodeE (wT : World) (s : ByteArray) (a : Re) : Prop := ∀ p, (tE wT a).node p → EndsOK wT s p a
def RowA (wT : World) (s : ByteArray) : Re → Prop
  | .cat x r => NodeE wT s x ∧ RowA wT s r
  | _ => True
def AltA (wT : World) (s : ByteArray) : Re → Prop
  | .alt y r => RowA wT s y ∧ AltA wT s r
  | _ => True

theorem way_set {s : List UInt8} {f : Nat → Bool} {i j : Nat} : Way s (.set f) i j ↔ setAt s f i = some j := by
  unfold setAt
  constructor
  · rintro ⟨⟨c, hc, hf⟩, rfl⟩
    rw [hc]
    simp [hf]
  · intro h
    cases hb : byteAt s i with
    | none => rw [hb] at h; cases h
    | some c =>
      rw [hb] at h
      simp only at h
      split at h
      · rename_i hf
        cases h
        exact ⟨⟨c, hb, hf⟩, rfl⟩
      · cases h
theorem way_asr {s : List UInt8} {k i j : Nat} : Way s (.asr k) i j ↔ asrAt s k i = some j := by
  unfold asrAt
  constructor
  · rintro ⟨h, rfl⟩
    rw [if_pos h]
  · intro h
    split at h
    · rename_i hs; cases h; exact ⟨hs, rfl⟩
    · cases h
theorem EndF.congr {L : Nat} {W W' : Nat → Nat → Prop} {F F' : Nat → Bool} (h : EndF L W F F') (e : ∀ i j, W i j ↔ W' i j) : EndF L W' F F' := fun j hj => (h j hj).trans ⟨fun ⟨i, h1, h2, h3⟩ => ⟨i, h1, h2, (e i j).1 h3⟩, fun ⟨i, h1, h2, h3⟩ => ⟨i, h1, h2, (e i j).2 h3⟩⟩

theorem ends_set (wT : World) (s : ByteArray) (hs : s.size ≤ 5000) (f : Nat → Bool) : NodeE wT s (.set f) := by
  rintro p ⟨v, ⟨b, rfl, -, hv⟩, hk, hf⟩
  intro w g c F t hF
  refine (rends_atom b v s (setAt (str s) f) wT hv (.inl hk) hs (fun i e hi he => (setAt_le he hi).2) (fun bt at' w' ha h0 t' => ratom_set bt b at' s v f w' hs ha h0 (hv.keep t' id) hk hf) w g c F t hF).mono ?_
  rintro e w' ⟨g', c', F', rfl, h1, h2, h4, h3⟩
  exact .inl ⟨rfl, g', c', F', rfl, h1, h2.congr (fun i j => way_set.symm), h4, h3⟩
theorem ends_asr (wT : World) (s : ByteArray) (hs : s.size ≤ 5000) (k : Nat) : NodeE wT s (.asr k) := by
  rintro p ⟨v, ⟨b, rfl, -, hv⟩, hk, hw, h1, h6⟩
  intro w g c F t hF
  refine (rends_atom b v s (asrAt (str s) k) wT hv (.inr hk) hs (fun i e hi he => (asrAt_le he hi).2) (fun bt at' w' ha h0 t' => ratom_asr bt b k at' s v w' hs ha h0 (hv.keep t' id) hk hw h1 h6) w g c F t hF).mono ?_
  rintro e w' ⟨g', c', F', rfl, h1, h2, h4, h3⟩
  exact .inl ⟨rfl, g', c', F', rfl, h1, h2.congr (fun i j => way_asr.symm), h4, h3⟩

set_option maxRecDepth 100000 in
set_option maxHeartbeats 8000000 in
/-- Other nodes: it can not be told. -/
theorem ends_none (wT : World) (s : ByteArray) (hs : s.size ≤ 5000) (b : Nat) (v : NV) (hv : NodeB wT b v) (k : Int) (hk : v.kind = k) (h : k = 2 ∨ k = 7 ∨ k = 8 ∨ k = 9) (a : Re) (ha : pureB a = false) : EndsOK wT s (.pointer (some ⟨b, 0, none⟩)) a := by
  intro w g c F t hF
  have k0 := t.has hv.c0 id
  rw [hk] at k0
  have HA := Lib.hid ha
  have ws := IntWalk.i64_in ((s.size : Int) + 1) (by omega)
  clear hk hv t hF ha
  rcases h with rfl | rfl | rfl | rfl
  · go_enter Try.func35, Try.ntmps35
    go_wp2_with (at_make; (refine wpList_make_bools rfl (.tmp 20) rfl (s.size + 1) rfl (by omega) ?_); intro w1 hnew ht1; have HN1 := Lib.hid hnew; have HT1 := Lib.hid ht1; have k0 := ht1.has k0 id; clear hnew ht1)
    go_ret2
    exact .inr ⟨HA.out, none, 0, rfl, HT1.out⟩
  · go_enter Try.func35, Try.ntmps35
    go_wp2_with (at_make; (refine wpList_make_bools rfl (.tmp 20) rfl (s.size + 1) rfl (by omega) ?_); intro w1 hnew ht1; have HN1 := Lib.hid hnew; have HT1 := Lib.hid ht1; have k0 := ht1.has k0 id; clear hnew ht1)
    go_ret2
    exact .inr ⟨HA.out, none, 0, rfl, HT1.out⟩
  · go_enter Try.func35, Try.ntmps35
    go_wp2_with (at_make; (refine wpList_make_bools rfl (.tmp 20) rfl (s.size + 1) rfl (by omega) ?_); intro w1 hnew ht1; have HN1 := Lib.hid hnew; have HT1 := Lib.hid ht1; have k0 := ht1.has k0 id; clear hnew ht1)
    go_ret2
    exact .inr ⟨HA.out, none, 0, rfl, HT1.out⟩
  · go_enter Try.func35, Try.ntmps35
    go_wp2_with (at_make; (refine wpList_make_bools rfl (.tmp 20) rfl (s.size + 1) rfl (by omega) ?_); intro w1 hnew ht1; have HN1 := Lib.hid hnew; have HT1 := Lib.hid ht1; have k0 := ht1.has k0 id; clear hnew ht1)
    go_ret2
    exact .inr ⟨HA.out, none, 0, rfl, HT1.out⟩

set_option maxRecDepth 100000 in
set_option maxHeartbeats 8000000 in
/-- A group: as its kid. -/
theorem ends_kid (wT : World) (s : ByteArray) (hs : s.size ≤ 5000) (b : Nat) (v : NV) (hv : NodeB wT b v) (hk : v.kind = 5 ∨ v.kind = 6) (q : Value) (hkid : KidD (fun _ => True) wT v q) (hqp : ∃ z, q = .pointer z) (a : Re) (hq : EndsOK wT s q a) : EndsOK wT s (.pointer (some ⟨b, 0, none⟩)) a := by
  intro w g c F t hF
  obtain ⟨kb, ko, hkx, hkl, hkc, -, hcell⟩ := hkid
  obtain ⟨z, rfl⟩ := hqp
  have k0 := t.has hv.c0 id
  have k9 := t.has hv.c259 id
  rw [hkx, hkl] at k9
  have kc := t.has hcell id
  have HF := Lib.hid hF
  have HQ := Lib.hid hq
  have HTT := Lib.hid t
  have ws := IntWalk.i64_in ((s.size : Int) + 1) (by omega)
  generalize v.kc = kcc at *
  clear hkx hkl hv t hF hq hcell
  rcases hk with hk | hk
  · rw [hk] at k0
    go_enter Try.func35, Try.ntmps35
    go_wp2_with (at_make; (refine wpList_make_bools rfl (.tmp 20) rfl (s.size + 1) rfl (by omega) ?_); intro w1 hnew ht1; have HN1 := Lib.hid hnew; have HT1 := Lib.hid ht1; have k0 := ht1.has k0 id; have k9 := ht1.has k9 id; have kc := ht1.has kc id; clear hnew ht1)
    refine (HQ.out _ g c F (HTT.out.then HT1.out) (HF.out.keep HT1.out id)).mono ?_
    intro e w2 hG
    rcases hG with ⟨hp, g', c', F', rfl, h1, h2, h4, h3⟩ | ⟨hp, ao, c', rfl, h3⟩
    · have HR := Lib.hid (show EndsP s a F w (.returned (.tuple #[.slice (some ⟨g', 0, none⟩) (s.size + 1) c', .bool true])) w2 from .inl ⟨hp, g', c', F', rfl, h1, h2, Nat.le_trans HT1.out.size h4, HT1.out.then h3⟩)
      clear hp h1 h2 h3 h4
      go_wp2_with fail
      go_ret2
      exact HR.out
    · have HR := Lib.hid (show EndsP s a F w (.returned (.tuple #[.slice ao 0 c', .bool false])) w2 from .inr ⟨hp, ao, c', rfl, HT1.out.then h3⟩)
      clear hp h3
      go_wp2_with fail
      go_ret2
      exact HR.out
  · rw [hk] at k0
    go_enter Try.func35, Try.ntmps35
    go_wp2_with (at_make; (refine wpList_make_bools rfl (.tmp 20) rfl (s.size + 1) rfl (by omega) ?_); intro w1 hnew ht1; have HN1 := Lib.hid hnew; have HT1 := Lib.hid ht1; have k0 := ht1.has k0 id; have k9 := ht1.has k9 id; have kc := ht1.has kc id; clear hnew ht1)
    refine (HQ.out _ g c F (HTT.out.then HT1.out) (HF.out.keep HT1.out id)).mono ?_
    intro e w2 hG
    rcases hG with ⟨hp, g', c', F', rfl, h1, h2, h4, h3⟩ | ⟨hp, ao, c', rfl, h3⟩
    · have HR := Lib.hid (show EndsP s a F w (.returned (.tuple #[.slice (some ⟨g', 0, none⟩) (s.size + 1) c', .bool true])) w2 from .inl ⟨hp, g', c', F', rfl, h1, h2, Nat.le_trans HT1.out.size h4, HT1.out.then h3⟩)
      clear hp h1 h2 h3 h4
      go_wp2_with fail
      go_ret2
      exact HR.out
    · have HR := Lib.hid (show EndsP s a F w (.returned (.tuple #[.slice ao 0 c', .bool false])) w2 from .inr ⟨hp, ao, c', rfl, HT1.out.then h3⟩)
      clear hp h3
      go_wp2_with fail
      go_ret2
      exact HR.out

/-- A row under way. -/
def RowSt (wT : World) (s : ByteArray) (a : Re) (F : Nat → Bool) (kx : Option Addr) (kl j : Nat) (g' : Nat) (wr : World) : Prop :=
  ∃ (F' : Nat → Bool) (a' : Re) (x : Option Addr), BR wr g' s.size F' ∧ (tE wT a').row x (kl - j) ∧ (∀ kb ko, kx = some ⟨kb, ko, none⟩ → x = some ⟨kb, ko + j, none⟩) ∧ pureB a = pureB a' ∧ RowA wT s a' ∧ ∀ y, y ≤ s.size → ((∃ i, i ≤ s.size ∧ F i = true ∧ Way (str s) a i y) ↔ ∃ i, i ≤ s.size ∧ F' i = true ∧ Way (str s) a' i y)

set_option maxRecDepth 100000 in
set_option maxHeartbeats 8000000 in
/-- A row: one behind the other. -/
theorem ends_row (wT : World) (s : ByteArray) (hs : s.size ≤ 5000) (a : Re) (hR : RowA wT s a) (b : Nat) (v : NV) (hv : NodeB wT b v) (hk : v.kind = 3) (hlc : v.kl ≤ v.kc) (hrow : (tE wT a).row v.kx v.kl) : EndsOK wT s (.pointer (some ⟨b, 0, none⟩)) a := by
  intro w g c F t hF
  have k0 := t.has hv.c0 id
  have k9 := t.has hv.c259 id
  rw [hk] at k0
  have HF := Lib.hid hF
  have HTT := Lib.hid t
  have hl1 : v.kl ≤ 1000 := by
    cases a with
    | nil => have h : v.kl = 0 := hrow; omega
    | cat x r => obtain ⟨_, _, _, -, -, -, h, -⟩ := hrow; exact h
    | _ => exact hrow.elim
  have HX : Hid (0 < v.kl → ∃ kb ko, v.kx = some ⟨kb, ko, none⟩) := Lib.hid (fun h => by
    cases a with
    | nil => have h : v.kl = 0 := hrow; omega
    | cat x r => obtain ⟨kb, ko, _, h, -⟩ := hrow; exact ⟨kb, ko, h⟩
    | _ => exact hrow.elim)
  have HS0 : Hid (∀ wr, Still w wr → RowSt wT s a F v.kx v.kl 0 g wr) := Lib.hid (fun wr tr => ⟨F, a, v.kx, hF.keep tr id, hrow, (fun kb ko h => h), rfl, hR, fun y hy => Iff.rfl⟩)
  have ws := IntWalk.i64_in ((s.size : Int) + 1) (by omega)
  generalize v.kl = kl at *
  generalize v.kc = kc at *
  generalize v.kx = kx at *
  have K9 := Lib.hid k9
  clear hk hv t hF hrow hR
  go_enter Try.func35, Try.ntmps35
  go_wp2_with (at_make; (refine wpList_make_bools rfl (.tmp 20) rfl (s.size + 1) rfl (by omega) ?_); intro w1 hnew ht1; have HN1 := Lib.hid hnew; have HT1 := Lib.hid ht1; have k0 := ht1.has k0 id; have k9 := ht1.has k9 id; clear hnew ht1)
  go_loopw [2, 12, 13] (fun fv ov iv wr => ∃ j : Nat, iv = .int .i64 (j : Int) ∧ j ≤ kl ∧ Hid (Still w wr) ∧ ((∃ g' c', fv = .slice (some ⟨g', 0, none⟩) (s.size + 1) c' ∧ ov = .bool true ∧ Hid (RowSt wT s a F kx kl j g' wr)) ∨ (∃ (ao : Option Addr) (c' : Nat), fv = .slice ao 0 c' ∧ ov = .bool false ∧ Hid (pureB a = false)))) (fun _ _ iv _ => kl - (intOf iv).toNat)
  case atStart => exact ⟨0, rfl, Nat.zero_le _, HT1, .inl ⟨g, c, rfl, rfl, Lib.hid (HS0.out _ HT1.out)⟩⟩
  case round =>
    clear HS0
    obtain ⟨j, rfl, hj, HT, h⟩ := hrel
    have k9 := HT.out.has K9.out id
    rcases h with ⟨g', c', rfl, rfl, HS⟩ | ⟨ao, c', rfl, rfl, HNP⟩
    · by_cases hlt : j < kl
      · obtain ⟨kb, ko, e0⟩ := HX.out (by omega)
        obtain ⟨F', x, r, rp, hbr, hcr, hx, hr, hpu, hra, hiff⟩ : ∃ (F' : Nat → Bool) (x r : Re) (rp : Value), BR wr g' s.size F' ∧ wT.cell? ⟨kb, ko + j, none⟩ = some rp ∧ (tE wT x).node rp ∧ (tE wT r).row (some ⟨kb, ko + j + 1, none⟩) (kl - j - 1) ∧ pureB a = (pureB x && pureB r) ∧ (NodeE wT s x ∧ RowA wT s r) ∧ ∀ y, y ≤ s.size → ((∃ i, i ≤ s.size ∧ F i = true ∧ Way (str s) a i y) ↔ ∃ i, i ≤ s.size ∧ F' i = true ∧ Way (str s) (.cat x r) i y) := by
          obtain ⟨F', a', x, h1, h2, h3, h4, h5, h6⟩ := HS.out
          cases a' with
          | nil => have : kl - j = 0 := h2; omega
          | cat y r =>
            obtain ⟨b', o', rp, e1, -, -, -, e2, e3, e4⟩ := h2
            have h9 := h3 kb ko e0
            rw [e1] at h9
            obtain ⟨rfl, rfl⟩ : b' = kb ∧ o' = ko + j := by simpa using h9
            exact ⟨F', y, r, rp, h1, e2, e3, e4, h4, h5, h6⟩
          | _ => exact h2.elim
        subst e0
        obtain ⟨pb, rfl⟩ := rdD_ptr hx
        have hcj := HT.out.has (HTT.out.has hcr id) id
        have HC := Lib.hid (hra.1 _ hx wr g' c' F' (HTT.out.then HT.out) hbr)
        have hin : (j : Int) < (kl : Int) := by omega
        have wj := IntWalk.i64_in ((j : Int) + 1) (by omega)
        have HRR := Lib.hid hr
        have HPU := Lib.hid hpu
        have HRA := Lib.hid hra.2
        have HIF := Lib.hid hiff
        clear hr hx hcr hpu hra hiff hbr HS
        go_wp2_with fail
        refine HC.out.mono ?_
        clear HC
        intro e w3 hG
        rcases hG with ⟨hp, g2, c2, F2, rfl, h1, h2, h4, h3⟩ | ⟨hp, ao, c2, rfl, h3⟩
        · have HT3 := Lib.hid (HT.out.then h3)
          have HS3 : Hid (RowSt wT s a F (some ⟨kb, ko, none⟩) kl (j + 1) g2 w3) := Lib.hid ⟨F2, r, some ⟨kb, ko + j + 1, none⟩, h1, by rw [show kl - (j + 1) = kl - j - 1 by omega]; exact HRR.out, (fun kb' ko' h => by cases h; rw [Nat.add_assoc]), by rw [HPU.out, hp]; rfl, HRA.out, fun y hy => by
            rw [HIF.out y hy]
            constructor
            · rintro ⟨i, hi, hF, m, hm, hw⟩
              have hm' : m ≤ s.size := by have := (way_le (str s) _ _ _ hm).2 (by rw [str_len]; exact hi); rwa [str_len] at this
              exact ⟨m, hm', (h2 m hm').2 ⟨i, hi, hF, hm⟩, hw⟩
            · rintro ⟨m, hm, hF2, hw⟩
              obtain ⟨i, hi, hF, hx⟩ := (h2 m hm).1 hF2
              exact ⟨i, hi, hF, m, hx, hw⟩⟩
          clear h1 h2 h3 h4 hp
          go_wp2_with fail
          go_roundw
          case rel => exact ⟨j + 1, by go_num, by omega, HT3, .inl ⟨g2, c2, rfl, rfl, HS3⟩⟩
          case measure => simp [intOf]; omega
        · have HT3 := Lib.hid (HT.out.then h3)
          have HNP : Hid (pureB a = false) := Lib.hid (by rw [HPU.out, hp]; rfl)
          clear h3 hp
          go_wp2_with fail
          go_roundw
          case rel => exact ⟨j + 1, by go_num, by omega, HT3, .inr ⟨ao, c2, rfl, rfl, HNP⟩⟩
          case measure => simp [intOf]; omega
      · obtain rfl : j = kl := by omega
        have HFIN : Hid (pureB a = true ∧ ∃ F' : Nat → Bool, BR wr g' s.size F' ∧ EndF s.size (Way (str s) a) F F') := Lib.hid (by
          obtain ⟨F', a', x, h1, h2, h3, h4, h5, h6⟩ := HS.out
          cases a' with
          | nil => exact ⟨h4, F', h1, fun y hy => ⟨fun h => (h6 y hy).2 ⟨y, hy, h, rfl⟩, fun h => by
              obtain ⟨i, hi, hF, hw⟩ := (h6 y hy).1 h
              have e : y = i := hw
              rw [e]; exact hF⟩⟩
          | cat y r => obtain ⟨_, _, _, -, -, h, -⟩ := h2; omega
          | _ => exact h2.elim)
        have hin : ¬ (j : Int) < (j : Int) := by omega
        clear HS
        obtain ⟨hpu, F', hbr, hef⟩ := HFIN.out
        have HBR := Lib.hid hbr
        have HEF := Lib.hid hef
        have HPU := Lib.hid hpu
        clear HFIN hpu hbr hef
        go_wp2_with (at_builtin; (refine wpList_copy_bools rfl (.tmp 81) (.tmp 82) rfl wr.heap.size rfl (heap_alloc_new wr _) g' s.size c' rfl F' (HBR.out.keep ((Touch.refl (fun _ => False) wr).alloc _) id) (by omega) ?_); intro g9 c9 w9 hb9 hat9 ht9; have HB9 := Lib.hid hb9; have HG9 : Hid (w.heap.size ≤ g9) := Lib.hid (by have h1 := HT.out.size; have h2 : (wr.alloc (.cells #[] 4)).heap.size = wr.heap.size + 1 := (by simp); omega); have HT9 : Hid (Still w w9) := Lib.hid ((HT.out.alloc _).trans ht9 (fun i e => .inr (by have := HT.out.size; omega))); clear hb9 ht9 hat9)
        go_ret2
        exact .inl ⟨HPU.out, g9, c9, F', rfl, HB9.out, HEF.out, HG9.out, HT9.out⟩
    · by_cases hlt : j < kl
      · have hin : (j : Int) < (kl : Int) := by omega
        go_wp2_with (at_builtin; (refine wpList_copy_zero rfl (.tmp 81) (.tmp 82) rfl wr.heap.size rfl (heap_alloc_new wr _) ao c' rfl ?_); intro ao9 c9 w9 ht9; have HT9 : Hid (Still w w9) := Lib.hid ((HT.out.alloc _).trans ht9 (fun i e => .inr (by have := HT.out.size; omega))); clear ht9)
        go_ret2
        exact .inr ⟨HNP.out, ao9, c9, rfl, HT9.out⟩
      · have hin : ¬ (j : Int) < (kl : Int) := by omega
        go_wp2_with (at_builtin; (refine wpList_copy_zero rfl (.tmp 81) (.tmp 82) rfl wr.heap.size rfl (heap_alloc_new wr _) ao c' rfl ?_); intro ao9 c9 w9 ht9; have HT9 : Hid (Still w w9) := Lib.hid ((HT.out.alloc _).trans ht9 (fun i e => .inr (by have := HT.out.size; omega))); clear ht9)
        go_ret2
        exact .inr ⟨HNP.out, ao9, c9, rfl, HT9.out⟩
end Go.Proofs.Ytlgpilcjcomacaa
