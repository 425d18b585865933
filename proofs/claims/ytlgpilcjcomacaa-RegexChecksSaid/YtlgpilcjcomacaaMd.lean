/-
  The program's first, alone, look.
-/
import Derived.Test.YtlgpilcjcomacaaMc
import Derived.Test.YtlgpilcjcomacaaCp
namespace Go.Proofs.Ytlgpilcjcomacaa
open Go.RowKit Rx
set_option linter.unusedVariables false

/-- The matcher's blocks. -/
def S2 (c : Cx) (b : Nat) : Prop := b = c.bm ∨ b = c.bg

/-- Something that is to be tried, as a function value. -/
def TryOK (c : Cx) (tv : Value) (R : K → Nat → Grp → Res) (lo : Nat) (w0 : World) : Prop :=
  ∃ f cap, tv = .func (.func f) #[] cap ∧ (∀ args w, (callFunc f args).run Try.prog w = .ok (.enter f args) w) ∧
    ∀ (w : World) (be n : Nat) (g : Grp) (kv : Value) (k : K), Touch (S2 c) w0 w → w0.heap.size ≤ be → Inv c be n g w → KOK c be kv k lo w → Calls Try.prog f (#[kv] ++ cap) w (Got c be w lo g (R k n g))

/-- What comes back of a first way. -/
def FirstP (c : Cx) (w : World) (lo : Nat) (g : Grp) : Res → Ending → World → Prop
  | .over, e, w' => e = .panicked [{ v := .iface 112 (.agg #[]), recovered := false }] ∧ Touch (S2 c) w w'
  | .no n, e, w' => (∃ x : Int, e = .returned (.tuple #[.int .i64 x, .bool false])) ∧ Inv c w.heap.size n g w' ∧ Touch (S2 c) w w'
  | .yes n h x, e, w' => e = .returned (.tuple #[.int .i64 (x : Int), .bool true]) ∧ Inv c w.heap.size n h w' ∧ lo ≤ x ∧ x ≤ c.s.size ∧ Touch (S2 c) w w'

theorem touch_alloc_ss {c : Cx} {w w1 : World} {o : Obj} (h : Touch (SS c w.heap.size) (w.alloc o) w1) : Touch (S2 c) w w1 :=
  ((Touch.refl _ _).alloc o).trans h (by
    rintro i (e | e | e)
    · exact .inl (.inl e)
    · exact .inl (.inr e)
    · exact .inr (by omega))

set_option maxRecDepth 100000 in
theorem first_any (c : Cx) (tv : Value) (R : K → Nat → Grp → Res) (lo n : Nat) (g : Grp) (w : World) (ht : TryOK c tv R lo w) (hI : Inv c w.heap.size n g (w.alloc (.cells #[.int .i64 0] 3))) :
    Calls Try.prog 50 #[.pointer (some ⟨c.bm, 0, none⟩), tv] w (FirstP c w lo g (R K0 n g)) := by
  obtain ⟨f, cap, rfl, en, ht⟩ := ht
  have HT := Lib.hid (ht _ w.heap.size n g _ K0 ((Touch.refl _ _).alloc _) (Nat.le_refl _) hI (KOK0 c w.heap.size lo _)); clear ht hI
  have hz : (w.alloc (.cells #[.int .i64 0] 3)).cell? ⟨w.heap.size, 0, none⟩ = some (.int .i64 0) := by simp [go_sem]
  generalize R K0 n g = r at *
  go_enter Try.func50, Try.ntmps50
  go_wp2_with fail
  refine HT.out.mono ?_
  intro e w' hG
  clear hz
  cases r with
  | over =>
    obtain ⟨rfl, ht⟩ := hG
    exact ⟨rfl, rfl, touch_alloc_ss ht⟩
  | no n2 =>
    obtain ⟨rfl, hI2, ht⟩ := hG
    have HT2 := Lib.hid (touch_alloc_ss ht); clear ht
    obtain ⟨x, hx, -⟩ := hI2.eh
    have HI2 := Lib.hid hI2; clear hI2
    go_wp2_with fail
    go_ret2
    exact ⟨⟨x, rfl⟩, HI2.out, HT2.out⟩
  | yes n2 h2 x2 =>
    obtain ⟨rfl, hI2, hH2, hlo, hsz, ht⟩ := hG
    have HT2 := Lib.hid (touch_alloc_ss ht); clear ht
    have HI2 := Lib.hid hI2; clear hI2
    obtain ⟨hx, -⟩ := hH2
    go_wp2_with fail
    go_ret2
    exact ⟨rfl, HI2.out, hlo, hsz, HT2.out⟩

theorem TryOK.later {c : Cx} {tv : Value} {R : K → Nat → Grp → Res} {lo : Nat} {w0 w1 : World} (h : TryOK c tv R lo w0) (t : Touch (S2 c) w0 w1) : TryOK c tv R lo w1 := by
  obtain ⟨f, cap, e, en, h⟩ := h
  exact ⟨f, cap, e, en, fun w be n g kv k t1 hb => h w be n g kv k (t.then t1) (Nat.le_trans t.size hb)⟩
theorem Still.s2 {c : Cx} {w w1 : World} (h : Still w w1) : Touch (S2 c) w w1 := h.mono (fun _ _ e => e.elim)
theorem Still.ss {c : Cx} {be : Nat} {w w1 : World} (h : Still w w1) : Touch (SS c be) w w1 := h.mono (fun _ _ e => e.elim)
theorem Touch.s2ss {c : Cx} {be : Nat} {w w1 : World} (h : Touch (S2 c) w w1) : Touch (SS c be) w w1 := h.mono (fun _ _ e => e.elim .inl (fun e => .inr (.inl e)))

/-- A new answer's block. -/
theorem Rx.Inv.fresh {c : Cx} {be n : Nat} {g : Grp} {w : World} (h : Inv c be n g w) : Inv c w.heap.size n g (w.alloc (.cells #[.int .i64 0] 3)) := by
  have h1 := h.keep ((Touch.refl (fun _ => False) w).alloc (.cells #[.int .i64 0] 3))
  have hb := h.ltm
  have hg := h.ltg
  have hs := h.tr.size
  exact h1.other (Holds.made w #[.int .i64 0] 3 0 (.int .i64 0) rfl) (by omega) (by omega) (by omega)
/-- Back to the elder answer's block. -/
theorem Rx.Inv.back {c : Cx} {be be' n n' : Nat} {g g' : Grp} {w w' : World} (h' : Inv c be' n' g' w') (h : Inv c be n g w) (t : Touch (S2 c) w w') : Inv c be n' g' w' := by
  obtain ⟨x, hx⟩ := h.eh
  exact h'.other (hx.keep t (fun e => e.elim h.em h.eg)) h.em h.eg h.he

set_option maxRecDepth 100000 in
theorem alone_any (c : Cx) (be : Nat) (tv : Value) (R : K → Nat → Grp → Res) (at' : Nat) (kv : Value) (k : K) (n : Nat) (g : Grp) (w : World) (ht : TryOK c tv R at' w) (hI : Inv c be n g w) (hk : KOK c be kv k at' w) :
    Calls Try.prog 72 #[.pointer (some ⟨c.bm, 0, none⟩), tv, kv] w (Got c be w at' g (alone (R K0 n g) k)) := by
  obtain ⟨f, cp, rfl, en, hk⟩ := hk
  have ht2 := ht
  obtain ⟨f2, cp2, rfl, -, -⟩ := ht2
  have hgb := hI.gb
  obtain ⟨T, hgb⟩ := hgb
  have h3 := hI.c3
  have hlg := hI.ltg
  have hlm := hI.ltm
  have hl9 := hI.lG
  have hcells : ∀ j u, (gl c.G g)[j]? = some u → (w.alloc (.cells #[] 40)).cell? ((⟨c.bg, 0, none⟩ : Addr).add j) = some u := by
    intro j u hu
    rw [Addr.add_lit, Nat.zero_add]
    exact ((holds_of_block hgb hu).alloc _).1
  have HC := Lib.hid hcells; clear hcells
  have HI := Lib.hid hI; clear hI
  have HTR := Lib.hid ht; clear ht
  have HK := Lib.hid hk; clear hk
  clear hgb
  go_enter Try.func72, Try.ntmps72
  go_wp2_with (at_builtin; refine wpList_append2 rfl (.tmp 10) (.tmp 14) rfl w.heap.size rfl (heap_alloc_new w _) ⟨c.bg, 0, none⟩ (c.G + 1) (c.G + 1) rfl (gl c.G g) (gl_length _ _) HC.out (gl_one _ _) (by omega) (by omega) ?_; intro b c1 w1 hc1 _ hold ht1 hb1; have HOLD := Lib.hid hold; have HT1 := Lib.hid ht1; have HB1 := Lib.hid hb1; clear hold ht1 hb1)
  have HT2 : Hid (Still w w1) := Lib.hid (((Touch.refl _ _).alloc _).trans HT1.out (fun i e => .inr (by omega)))
  clear HT1
  have HI1 := Lib.hid (HI.out.keep HT2.out)
  have HF := Lib.hid (first_any c _ R at' n g w1 (HTR.out.later HT2.out.s2) HI1.out.fresh)
  have HB : Hid (w.heap.size ≤ b) := Lib.hid (by have := HB1.out; simp at this; omega)
  clear HTR HB1 HC h3 hlg hlm
  generalize R K0 n g = r at *
  refine HF.out.mono ?_
  intro e w2 hG
  clear HF
  cases r with
  | over =>
    obtain ⟨rfl, ht⟩ := hG
    exact ⟨rfl, rfl, (HT2.out.ss).then ht.s2ss⟩
  | no n2 =>
    obtain ⟨⟨x, rfl⟩, hI2, ht⟩ := hG
    have HI2 := Lib.hid (hI2.back HI1.out ht); clear hI2
    have HT := Lib.hid ((HT2.out.ss).then (ht.s2ss (be := be)))
    have hb3 := HI2.out.gb
    obtain ⟨T3, hb3⟩ := hb3
    have h3 := HI2.out.c3
    have HO : Hid (∀ j u, (gl c.G g)[j]? = some u → w2.cell? ((⟨b, 0, none⟩ : Addr).add j) = some u) := Lib.hid (fun j u hu => by
      rw [Addr.add_lit, Nat.zero_add]
      have h1 := HI1.out.ltm; have h2 := HI1.out.ltg
      exact ht.has (HOLD.out j u hu) (fun e => by
        have h4 := HI.out.ltm; have h5 := HI.out.ltg; have h6 := HB.out
        rcases e with e | e <;> simp at e <;> omega))
    clear ht
    have HB3 := Lib.hid hb3; clear hb3
    go_wp2_with ((with_reducible refine wpList_copy2 rfl (.tmp 31) (.tmp 32) rfl c.bg (c.G + 1) (c.G + 1) c1 ⟨b, 0, none⟩ rfl rfl (gl c.G g).toArray T3 HB3.out (gl c.G g) (gl_length _ _) (by simpa using gl_length c.G g) HO.out (gl_one _ _) ?_); intro w9 hw9 ht9; have HI9 := Lib.hid (HI2.out.restore ht9 hw9 HI.out.gi); have HT9 := Lib.hid (HT.out.then (ht9.mono (fun _ _ e => .inr (.inl e)))); clear hw9 ht9)
    go_ret
    exact ⟨rfl, HI9.out, HT9.out⟩
  | yes n2 h2 x2 =>
    obtain ⟨rfl, hI2, hlo, hsz, ht⟩ := hG
    have HI2 := Lib.hid (hI2.back HI1.out ht); clear hI2
    have HT := Lib.hid ((HT2.out.ss).then (ht.s2ss (be := be)))
    have HO : Hid (∀ j u, (gl c.G g)[j]? = some u → w2.cell? ⟨b, j, none⟩ = some u) := Lib.hid (fun j u hu => 
      ht.has (HOLD.out j u hu) (fun e => by
        have h4 := HI.out.ltm; have h5 := HI.out.ltg; have h6 := HB.out
        rcases e with e | e <;> simp at e <;> omega))
    have hkk := HK.out w2 x2 n2 h2 HT.out HI2.out hlo hsz
    obtain ⟨q, hq⟩ : ∃ q, k x2 n2 h2 = q := ⟨_, rfl⟩
    rw [hq] at hkk
    have HKK := Lib.hid hkk
    have HQ := Lib.hid hq
    clear ht HK hkk hq
    go_wp2_with fail
    refine HKK.out.mono ?_
    intro e w3 hG
    clear HKK
    cases q with
    | over =>
      obtain ⟨rfl, ht⟩ := hG
      refine ⟨rfl, ?_⟩
      show Got c be w at' g (k x2 n2 h2) _ _
      rw [HQ.out]
      exact ⟨rfl, HT.out.then ht⟩
    | no n3 =>
      obtain ⟨rfl, hI3, ht⟩ := hG
      have HI3 := Lib.hid hI3
      have HT3 := Lib.hid (HT.out.then ht)
      have HO3 : Hid (∀ j u, (gl c.G g)[j]? = some u → w3.cell? ((⟨b, 0, none⟩ : Addr).add j) = some u) := Lib.hid (fun j u hu => by
        rw [Addr.add_lit, Nat.zero_add]
        exact ht.has (HO.out j u hu) (fun e => by
          have h4 := HI.out.ltm; have h5 := HI.out.ltg; have h6 := HB.out; have h7 := HI.out.lte
          rcases e with e | e | e <;> simp at e <;> omega))
      have hb3 := hI3.gb
      obtain ⟨T3, hb3⟩ := hb3
      have HB3 := Lib.hid hb3
      have h3 := hI3.c3
      clear hb3 hI3 ht
      go_wp2_with ((with_reducible refine wpList_copy2 rfl (.tmp 31) (.tmp 32) rfl c.bg (c.G + 1) (c.G + 1) c1 ⟨b, 0, none⟩ rfl rfl (gl c.G h2).toArray T3 HB3.out (gl c.G g) (gl_length _ _) (by simpa using gl_length c.G h2) HO3.out (gl_one _ _) ?_); intro w9 hw9 ht9; have HI9 := Lib.hid (HI3.out.restore ht9 hw9 HI.out.gi); have HT9 := Lib.hid (HT3.out.then (ht9.mono (fun _ _ e => .inr (.inl e)))); clear hw9 ht9)
      go_ret
      show Got c be w at' g (k x2 n2 h2) _ _
      rw [HQ.out]
      exact ⟨rfl, HI9.out, HT9.out⟩
    | yes n3 h3 x3 =>
      obtain ⟨rfl, hI3, hH3, hlo3, hsz3, ht⟩ := hG
      have HI3 := Lib.hid hI3
      have HH3 := Lib.hid hH3
      have HT3 := Lib.hid (HT.out.then ht)
      clear hI3 hH3 ht
      go_wp2_with fail
      go_ret
      show Got c be w at' g (k x2 n2 h2) _ _
      rw [HQ.out]
      exact ⟨rfl, HI3.out, HH3.out, by omega, hsz3, HT3.out⟩
end Go.Proofs.Ytlgpilcjcomacaa
