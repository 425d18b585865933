/-
  Texts Sj, Sk, Sl in one.
-/
import Derived.Test.YtlgpilcjcomacaaGreatBk
import Derived.Deep.Cut
import Derived.Deep.DeepCutAuto
import Derived.Test.YtlgpilcjcomacaaGreatAb
/-
  The document's closed. (Printed by wip/tools/closed07.py.)
-/
namespace Go.Proofs.YtlgpilcjcomacaaGreat
open Go.RowKit Rx
set_option linter.unusedVariables false
attribute [local go_sem ↓] Go.wp_at_zero Go.wp_at_succ

set_option maxRecDepth 100000 in
/-- Nothing follows: the place is the answer. -/
theorem KR0 (c : Cr) (lo : Nat) (w0 : World) : KR c (.pointer none) K0 lo w0 := by
  refine ⟨⟨_, rfl⟩, fun w at' n g t hI h1 h2 => ?_⟩
  obtain ⟨x, hx⟩ := hI.ce
  have HI := Lib.hid (hI.answer (at' : Int))
  have HH := Lib.hid (hx.set (.int .i64 (at' : Int)))
  have HT : Hid (Touch (fun b => b = c.bt) w (w.setCell ⟨c.bt, 23, none⟩ (.int .i64 (at' : Int)))) := Lib.hid (Touch.setCell (Touch.refl (fun b => b = c.bt) w) (.inl rfl) _)
  obtain ⟨hc, hf⟩ := hx
  clear hI t
  show Calls Tryz.prog 75 _ w (GotR c w at' g (.yes n g at'))
  go_enter Tryz.func75, Tryz.ntmps75
  go_wp2_with fail
  go_ret
  exact ⟨rfl, HI.out, HH.out, Nat.le_refl _, h2, HT.out⟩

/-- The groups laid aside. -/
abbrev wasW (w : World) (g : Grp) : World := (w.alloc (.cells #[.int .i64 0, .int .i64 0, .int .i64 0, .int .i64 0, .int .i64 0, .int .i64 0, .int .i64 0, .int .i64 0, .int .i64 0, .int .i64 0, .int .i64 0, .int .i64 0, .int .i64 0, .int .i64 0, .int .i64 0, .int .i64 0, .int .i64 0, .int .i64 0, .int .i64 0, .int .i64 0] 74)).setCells w.heap.size 0 (gl 9 g)
theorem was_there (w : World) : (w.alloc (.cells #[.int .i64 0, .int .i64 0, .int .i64 0, .int .i64 0, .int .i64 0, .int .i64 0, .int .i64 0, .int .i64 0, .int .i64 0, .int .i64 0, .int .i64 0, .int .i64 0, .int .i64 0, .int .i64 0, .int .i64 0, .int .i64 0, .int .i64 0, .int .i64 0, .int .i64 0, .int .i64 0] 74)).there w.heap.size 0 20 := fun j hj => by
  rw [Nat.zero_add]
  refine ⟨?_, World.frozen?_alloc_at _ _ _ _ rfl⟩
  rw [World.cell?_alloc_at _ _ _ _ rfl, Array.getElem?_eq_getElem (by show j < 20; exact hj)]
  rfl
theorem was_range (w : World) (g : Grp) : (wasW w g).rangeAt w.heap.size 0 (gl 9 g) := World.rangeAt_setCells_same _ _ _ _ (by rw [gl9_len]; exact was_there w)
theorem was_still (w : World) (g : Grp) : Still w (wasW w g) := ((Touch.refl _ w).alloc _).trans (setCells_touch _ _ _ _) (fun i e => .inr (by omega))
theorem was_size (w : World) (g : Grp) : (wasW w g).heap.size = w.heap.size + 1 := by
  have h : ∀ (vs : List Value) (o : Nat) (w' : World) (b : Nat), (w'.setCells b o vs).heap.size = w'.heap.size := by
    intro vs
    induction vs with
    | nil => intros; rfl
    | cons v r ih => intro o w' b; show ((w'.setCell _ v).setCells b (o + 1) r).heap.size = _; rw [ih]; simp [World.setCell]
  rw [h]; simp
theorem range_keep {S : Nat → Prop} {w w' : World} {b o : Nat} {cs : List Value} (h : w.rangeAt b o cs) (t : Touch S w w') (hb : ¬ S b) : w'.rangeAt b o cs := fun j v hv => t.has (h j v hv) hb

set_option maxRecDepth 100000 in
set_option maxHeartbeats 2000000 in
theorem rclosed_atom (c : Cr) (b : Nat) (v : NV) (hv : NodeB c.wT b v) (hb : b ≠ c.bt) (hk : v.kind = 9) (p : Value) (hkid : KidD (fun b => b ≠ c.bt) c.wT v p) (hpp : ∃ x, p = .pointer x) (R : Nat → K → Nat → Grp → Res) (hY : RunOK c p R) (at' : Nat) (kv : Value) (k : K) (n : Nat) (g : Grp) (w : World) (hI : IR c n g w) (ha : at' ≤ c.s.size) (hK : KR c kv k at' w) :
    Calls Tryz.prog 77 #[.pointer (some ⟨c.bt, 0, none⟩), .pointer (some ⟨b, 0, none⟩), .int .i64 (at' : Int), kv] w (GotR c w at' g (alone (R at' K0 n g) k)) := by
  obtain ⟨px, rfl⟩ := hpp
  have hKx := hK
  obtain ⟨⟨z, rfl⟩, -⟩ := hKx
  obtain ⟨kb, ko, hkx, hkl, hkc, hkb, hcell⟩ := hkid
  have hrg := hI.range
  have hlt := hI.lt
  obtain ⟨w1, hw1⟩ : ∃ w1, wasW w g = w1 := ⟨_, rfl⟩
  have t1 : Still w w1 := by rw [← hw1]; exact was_still w g
  have HT1 : Hid (Touch (fun b => b = c.bt) w w1) := Lib.hid (t1.mono (fun _ _ e => e.elim))
  have HWAS : Hid (w1.rangeAt w.heap.size 0 (gl 9 g)) := Lib.hid (by rw [← hw1]; exact was_range w g)
  have hI1 := hI.keep t1
  have k259 := (hI1.node hv hb).c259
  rw [hkx, hkl] at k259
  have kcell := hI1.tree hcell hkb
  have HB : Hid (b ≠ c.bt ∧ kb ≠ c.bt ∧ w.heap.size ≠ c.bt ∧ w.heap.size < w1.heap.size) := Lib.hid ⟨hb, hkb, by omega, by rw [← hw1, was_size]; omega⟩
  have HV := Lib.hid hv
  have HGI := Lib.hid hI.gi
  have HKIND := Lib.hid hk
  have HKK : Hid (∀ (w' : World) (e n' : Nat) (g' : Grp), Touch (fun b => b = c.bt) w1 w' → IR c n' g' w' → at' ≤ e → e ≤ c.s.size → Calls Tryz.prog 75 #[.pointer (some ⟨c.bt, 0, none⟩), .pointer z, .int .i64 (e : Int)] w' (GotR c w' e g' (k e n' g'))) := Lib.hid (fun w' e n' g' t hI' h1 h2 => hK.2 w' e n' g' (HT1.out.then t) hI' h1 h2)
  obtain ⟨q, hq⟩ : ∃ q, R at' K0 n g = q := ⟨_, rfl⟩
  have HC := Lib.hid (hY at' (.pointer none) K0 n g w1 hI1 ha (KR0 c at' w1))
  rw [hq] at HC ⊢
  have HW1 := Lib.hid hw1
  clear hq hI hI1 hK hY hv hb hk hcell t1 hw1 hkx hkl hlt
  go_enter Tryz.func77, Tryz.ntmps77
  go_upto_region 2 with (first | (refine load_groups rfl _ rfl _ _ rfl g (by assumption) ?_) | (refine store_groups rfl _ _ rfl _ _ g rfl rfl (was_there w) ?_))
  rw [show (w.alloc (.cells #[.int .i64 0, .int .i64 0, .int .i64 0, .int .i64 0, .int .i64 0, .int .i64 0, .int .i64 0, .int .i64 0, .int .i64 0, .int .i64 0, .int .i64 0, .int .i64 0, .int .i64 0, .int .i64 0, .int .i64 0, .int .i64 0, .int .i64 0, .int .i64 0, .int .i64 0, .int .i64 0] 74)).setCells w.heap.size 0 (gl 9 g) = w1 from HW1.out]
  clear HW1 hrg
  go_wp2_with fail
  refine HC.out.mono ?_
  clear HC
  intro e w2 hG
  cases q with
  | over =>
    have HG := Lib.hid (hG.from HT1.out (Nat.le_refl _))
    obtain ⟨rfl, -⟩ := hG
    go_wp2_with fail
    go_ret
    exact HG.out
  | no n2 =>
    obtain ⟨rfl, hI2, ht⟩ := hG
    have k0 := (hI2.node HV.out HB.out.1).c0
    rw [HKIND.out] at k0
    obtain ⟨xe, hxe, -⟩ := hI2.ce
    have HRES : Hid (alone (.no n2) k = .no n2) := Lib.hid rfl
    have hI8 := hI2
    have HT2 := Lib.hid ht
    clear hI2 ht
    have hrw := range_keep HWAS.out HT2.out HB.out.2.2.1
    have hth := hI8.there
    have HI9 := Lib.hid (hI8.restore g HGI.out)
    have HT9 := Lib.hid ((HT2.out).then (setCells_touch c.bt (gl 9 g) 3 w2))
    clear hI8
    go_wp2_with (first | (refine load_groups rfl _ rfl _ _ rfl g (by assumption) ?_) | (refine store_groups rfl _ _ rfl _ _ g rfl rfl (by assumption) ?_))
    go_ret
    rw [HRES.out]
    exact ⟨rfl, HI9.out, HT1.out.then HT9.out⟩
  | yes n2 g2 e2 =>
    obtain ⟨rfl, hI2, hxe, hle1, hle2, ht⟩ := hG
    obtain ⟨hxe, -⟩ := hxe
    have HLE : Hid (at' ≤ e2 ∧ e2 ≤ c.s.size) := Lib.hid ⟨hle1, hle2⟩
    have k0 := (hI2.node HV.out HB.out.1).c0
    rw [HKIND.out] at k0
    have HI2 := Lib.hid hI2
    have HT2 := Lib.hid ht
    clear hI2 ht hle1 hle2
    obtain ⟨q2, hq2⟩ : ∃ q2, k e2 n2 g2 = q2 := ⟨_, rfl⟩
    have HRES : Hid (alone (.yes n2 g2 e2) k = q2) := Lib.hid hq2
    have HC2 := Lib.hid (HKK.out w2 e2 n2 g2 HT2.out HI2.out HLE.out.1 HLE.out.2)
    rw [hq2] at HC2
    clear hq2 HKK
    go_wp2_with fail
    refine HC2.out.mono ?_
    clear HC2
    intro e' w5 hG
    cases q2 with
    | over =>
      have HG := Lib.hid (hG.from (HT1.out.then HT2.out) HLE.out.1)
      obtain ⟨rfl, -⟩ := hG
      go_wp2_with fail
      go_ret
      rw [HRES.out]
      exact HG.out
    | yes n3 g3 x3 =>
      have HG := Lib.hid (hG.from (HT1.out.then HT2.out) HLE.out.1)
      obtain ⟨rfl, -⟩ := hG
      go_wp2_with fail
      go_ret
      rw [HRES.out]
      exact HG.out
    | no n3 =>
      obtain ⟨rfl, hI8, ht5⟩ := hG
      have HT5 := Lib.hid (HT2.out.then ht5)
      clear ht5
      have hrw := range_keep HWAS.out HT5.out HB.out.2.2.1
      have hth := hI8.there
      have HI9 := Lib.hid (hI8.restore g HGI.out)
      have HT9 := Lib.hid ((HT5.out).then (setCells_touch c.bt (gl 9 g) 3 w5))
      clear hI8
      go_wp2_with (first | (refine load_groups rfl _ rfl _ _ rfl g (by assumption) ?_) | (refine store_groups rfl _ _ rfl _ _ g rfl rfl (by assumption) ?_))
      go_ret
      rw [HRES.out]
      exact ⟨rfl, HI9.out, HT1.out.then HT9.out⟩

set_option maxRecDepth 100000 in
set_option maxHeartbeats 2000000 in
theorem rclosed_look (c : Cr) (b : Nat) (v : NV) (hv : NodeB c.wT b v) (hb : b ≠ c.bt) (hk : v.kind = 7) (p : Value) (hkid : KidD (fun b => b ≠ c.bt) c.wT v p) (hpp : ∃ x, p = .pointer x) (R : Nat → K → Nat → Grp → Res) (hY : RunOK c p R) (at' : Nat) (kv : Value) (k : K) (n : Nat) (g : Grp) (w : World) (hI : IR c n g w) (ha : at' ≤ c.s.size) (hK : KR c kv k at' w) :
    Calls Tryz.prog 77 #[.pointer (some ⟨c.bt, 0, none⟩), .pointer (some ⟨b, 0, none⟩), .int .i64 (at' : Int), kv] w (GotR c w at' g (lookR false (R at' K0 n g) k at' g)) := by
  obtain ⟨px, rfl⟩ := hpp
  have hKx := hK
  obtain ⟨⟨z, rfl⟩, -⟩ := hKx
  obtain ⟨kb, ko, hkx, hkl, hkc, hkb, hcell⟩ := hkid
  have hrg := hI.range
  have hlt := hI.lt
  obtain ⟨w1, hw1⟩ : ∃ w1, wasW w g = w1 := ⟨_, rfl⟩
  have t1 : Still w w1 := by rw [← hw1]; exact was_still w g
  have HT1 : Hid (Touch (fun b => b = c.bt) w w1) := Lib.hid (t1.mono (fun _ _ e => e.elim))
  have HWAS : Hid (w1.rangeAt w.heap.size 0 (gl 9 g)) := Lib.hid (by rw [← hw1]; exact was_range w g)
  have hI1 := hI.keep t1
  have k259 := (hI1.node hv hb).c259
  rw [hkx, hkl] at k259
  have kcell := hI1.tree hcell hkb
  have HB : Hid (b ≠ c.bt ∧ kb ≠ c.bt ∧ w.heap.size ≠ c.bt ∧ w.heap.size < w1.heap.size) := Lib.hid ⟨hb, hkb, by omega, by rw [← hw1, was_size]; omega⟩
  have HV := Lib.hid hv
  have HGI := Lib.hid hI.gi
  have HKIND := Lib.hid hk
  have HKK : Hid (∀ (w' : World) (e n' : Nat) (g' : Grp), Touch (fun b => b = c.bt) w1 w' → IR c n' g' w' → at' ≤ e → e ≤ c.s.size → Calls Tryz.prog 75 #[.pointer (some ⟨c.bt, 0, none⟩), .pointer z, .int .i64 (e : Int)] w' (GotR c w' e g' (k e n' g'))) := Lib.hid (fun w' e n' g' t hI' h1 h2 => hK.2 w' e n' g' (HT1.out.then t) hI' h1 h2)
  obtain ⟨q, hq⟩ : ∃ q, R at' K0 n g = q := ⟨_, rfl⟩
  have HC := Lib.hid (hY at' (.pointer none) K0 n g w1 hI1 ha (KR0 c at' w1))
  rw [hq] at HC ⊢
  have HW1 := Lib.hid hw1
  clear hq hI hI1 hK hY hv hb hk hcell t1 hw1 hkx hkl hlt
  go_enter Tryz.func77, Tryz.ntmps77
  go_upto_region 2 with (first | (refine load_groups rfl _ rfl _ _ rfl g (by assumption) ?_) | (refine store_groups rfl _ _ rfl _ _ g rfl rfl (was_there w) ?_))
  rw [show (w.alloc (.cells #[.int .i64 0, .int .i64 0, .int .i64 0, .int .i64 0, .int .i64 0, .int .i64 0, .int .i64 0, .int .i64 0, .int .i64 0, .int .i64 0, .int .i64 0, .int .i64 0, .int .i64 0, .int .i64 0, .int .i64 0, .int .i64 0, .int .i64 0, .int .i64 0, .int .i64 0, .int .i64 0] 74)).setCells w.heap.size 0 (gl 9 g) = w1 from HW1.out]
  clear HW1 hrg
  go_wp2_with fail
  refine HC.out.mono ?_
  clear HC
  intro e w2 hG
  cases q with
  | over =>
    have HG := Lib.hid (hG.from HT1.out (Nat.le_refl _))
    obtain ⟨rfl, -⟩ := hG
    go_wp2_with fail
    go_ret
    exact HG.out
  | no n2 =>
    obtain ⟨rfl, hI2, ht⟩ := hG
    have k0 := (hI2.node HV.out HB.out.1).c0
    rw [HKIND.out] at k0
    obtain ⟨xe, hxe, -⟩ := hI2.ce
    have HRES : Hid (lookR false (.no n2) k at' g = .no n2) := Lib.hid rfl
    have hI8 := hI2
    have HT2 := Lib.hid ht
    clear hI2 ht
    have hrw := range_keep HWAS.out HT2.out HB.out.2.2.1
    have hth := hI8.there
    have HI9 := Lib.hid (hI8.restore g HGI.out)
    have HT9 := Lib.hid ((HT2.out).then (setCells_touch c.bt (gl 9 g) 3 w2))
    clear hI8
    go_wp2_with (first | (refine load_groups rfl _ rfl _ _ rfl g (by assumption) ?_) | (refine store_groups rfl _ _ rfl _ _ g rfl rfl (by assumption) ?_))
    go_ret
    rw [HRES.out]
    exact ⟨rfl, HI9.out, HT1.out.then HT9.out⟩
  | yes n2 g2 e2 =>
    obtain ⟨rfl, hI2, hxe, hle1, hle2, ht⟩ := hG
    obtain ⟨hxe, -⟩ := hxe
    have HLE : Hid (at' ≤ e2 ∧ e2 ≤ c.s.size) := Lib.hid ⟨hle1, hle2⟩
    have k0 := (hI2.node HV.out HB.out.1).c0
    rw [HKIND.out] at k0
    have HI2 := Lib.hid hI2
    have HT2 := Lib.hid ht
    clear hI2 ht hle1 hle2
    obtain ⟨q2, hq2⟩ : ∃ q2, k at' n2 g2 = q2 := ⟨_, rfl⟩
    have HRES : Hid (lookR false (.yes n2 g2 e2) k at' g = q2) := Lib.hid hq2
    have HC2 := Lib.hid (HKK.out w2 at' n2 g2 HT2.out HI2.out (Nat.le_refl _) ha)
    rw [hq2] at HC2
    clear hq2 HKK
    go_wp2_with fail
    refine HC2.out.mono ?_
    clear HC2
    intro e' w5 hG
    cases q2 with
    | over =>
      have HG := Lib.hid (hG.from (HT1.out.then HT2.out) (Nat.le_refl _))
      obtain ⟨rfl, -⟩ := hG
      go_wp2_with fail
      go_ret
      rw [HRES.out]
      exact HG.out
    | yes n3 g3 x3 =>
      have HG := Lib.hid (hG.from (HT1.out.then HT2.out) (Nat.le_refl _))
      obtain ⟨rfl, -⟩ := hG
      go_wp2_with fail
      go_ret
      rw [HRES.out]
      exact HG.out
    | no n3 =>
      obtain ⟨rfl, hI8, ht5⟩ := hG
      have HT5 := Lib.hid (HT2.out.then ht5)
      clear ht5
      have hrw := range_keep HWAS.out HT5.out HB.out.2.2.1
      have hth := hI8.there
      have HI9 := Lib.hid (hI8.restore g HGI.out)
      have HT9 := Lib.hid ((HT5.out).then (setCells_touch c.bt (gl 9 g) 3 w5))
      clear hI8
      go_wp2_with (first | (refine load_groups rfl _ rfl _ _ rfl g (by assumption) ?_) | (refine store_groups rfl _ _ rfl _ _ g rfl rfl (by assumption) ?_))
      go_ret
      rw [HRES.out]
      exact ⟨rfl, HI9.out, HT1.out.then HT9.out⟩

set_option maxRecDepth 100000 in
set_option maxHeartbeats 2000000 in
theorem rclosed_not (c : Cr) (b : Nat) (v : NV) (hv : NodeB c.wT b v) (hb : b ≠ c.bt) (hk : v.kind = 8) (p : Value) (hkid : KidD (fun b => b ≠ c.bt) c.wT v p) (hpp : ∃ x, p = .pointer x) (R : Nat → K → Nat → Grp → Res) (hY : RunOK c p R) (at' : Nat) (kv : Value) (k : K) (n : Nat) (g : Grp) (w : World) (hI : IR c n g w) (ha : at' ≤ c.s.size) (hK : KR c kv k at' w) :
    Calls Tryz.prog 77 #[.pointer (some ⟨c.bt, 0, none⟩), .pointer (some ⟨b, 0, none⟩), .int .i64 (at' : Int), kv] w (GotR c w at' g (lookR true (R at' K0 n g) k at' g)) := by
  obtain ⟨px, rfl⟩ := hpp
  have hKx := hK
  obtain ⟨⟨z, rfl⟩, -⟩ := hKx
  obtain ⟨kb, ko, hkx, hkl, hkc, hkb, hcell⟩ := hkid
  have hrg := hI.range
  have hlt := hI.lt
  obtain ⟨w1, hw1⟩ : ∃ w1, wasW w g = w1 := ⟨_, rfl⟩
  have t1 : Still w w1 := by rw [← hw1]; exact was_still w g
  have HT1 : Hid (Touch (fun b => b = c.bt) w w1) := Lib.hid (t1.mono (fun _ _ e => e.elim))
  have HWAS : Hid (w1.rangeAt w.heap.size 0 (gl 9 g)) := Lib.hid (by rw [← hw1]; exact was_range w g)
  have hI1 := hI.keep t1
  have k259 := (hI1.node hv hb).c259
  rw [hkx, hkl] at k259
  have kcell := hI1.tree hcell hkb
  have HB : Hid (b ≠ c.bt ∧ kb ≠ c.bt ∧ w.heap.size ≠ c.bt ∧ w.heap.size < w1.heap.size) := Lib.hid ⟨hb, hkb, by omega, by rw [← hw1, was_size]; omega⟩
  have HV := Lib.hid hv
  have HGI := Lib.hid hI.gi
  have HKIND := Lib.hid hk
  have HKK : Hid (∀ (w' : World) (e n' : Nat) (g' : Grp), Touch (fun b => b = c.bt) w1 w' → IR c n' g' w' → at' ≤ e → e ≤ c.s.size → Calls Tryz.prog 75 #[.pointer (some ⟨c.bt, 0, none⟩), .pointer z, .int .i64 (e : Int)] w' (GotR c w' e g' (k e n' g'))) := Lib.hid (fun w' e n' g' t hI' h1 h2 => hK.2 w' e n' g' (HT1.out.then t) hI' h1 h2)
  obtain ⟨q, hq⟩ : ∃ q, R at' K0 n g = q := ⟨_, rfl⟩
  have HC := Lib.hid (hY at' (.pointer none) K0 n g w1 hI1 ha (KR0 c at' w1))
  rw [hq] at HC ⊢
  have HW1 := Lib.hid hw1
  clear hq hI hI1 hK hY hv hb hk hcell t1 hw1 hkx hkl hlt
  go_enter Tryz.func77, Tryz.ntmps77
  go_upto_region 2 with (first | (refine load_groups rfl _ rfl _ _ rfl g (by assumption) ?_) | (refine store_groups rfl _ _ rfl _ _ g rfl rfl (was_there w) ?_))
  rw [show (w.alloc (.cells #[.int .i64 0, .int .i64 0, .int .i64 0, .int .i64 0, .int .i64 0, .int .i64 0, .int .i64 0, .int .i64 0, .int .i64 0, .int .i64 0, .int .i64 0, .int .i64 0, .int .i64 0, .int .i64 0, .int .i64 0, .int .i64 0, .int .i64 0, .int .i64 0, .int .i64 0, .int .i64 0] 74)).setCells w.heap.size 0 (gl 9 g) = w1 from HW1.out]
  clear HW1 hrg
  go_wp2_with fail
  refine HC.out.mono ?_
  clear HC
  intro e w2 hG
  cases q with
  | over =>
    have HG := Lib.hid (hG.from HT1.out (Nat.le_refl _))
    obtain ⟨rfl, -⟩ := hG
    go_wp2_with fail
    go_ret
    exact HG.out
  | no n2 =>
    obtain ⟨rfl, hI2, ht⟩ := hG
    have k0 := (hI2.node HV.out HB.out.1).c0
    rw [HKIND.out] at k0
    obtain ⟨xe, hxe, -⟩ := hI2.ce
    have hrw := range_keep HWAS.out ht HB.out.2.2.1
    have hth := hI2.there
    have hI3 := hI2.restore g HGI.out
    have HTS := Lib.hid (ht.then (setCells_touch c.bt (gl 9 g) 3 w2))
    clear hI2 ht
    go_upto_region 10 with (first | (refine load_groups rfl _ rfl _ _ rfl g (by assumption) ?_) | (refine store_groups rfl _ _ rfl _ _ g rfl rfl (by assumption) ?_))
    generalize w2.setCells c.bt 3 (gl 9 g) = w3 at *
    have HT2 := HTS
    have HI2 := Lib.hid hI3
    clear hI3 hrw hth hxe k0
    obtain ⟨q2, hq2⟩ : ∃ q2, k at' n2 g = q2 := ⟨_, rfl⟩
    have HRES : Hid (lookR true (.no n2) k at' g = q2) := Lib.hid hq2
    have HC2 := Lib.hid (HKK.out w3 at' n2 g HT2.out HI2.out (Nat.le_refl _) ha)
    rw [hq2] at HC2
    clear hq2 HKK
    go_wp2_with fail
    refine HC2.out.mono ?_
    clear HC2
    intro e' w5 hG
    cases q2 with
    | over =>
      have HG := Lib.hid (hG.from (HT1.out.then HT2.out) (Nat.le_refl _))
      obtain ⟨rfl, -⟩ := hG
      go_wp2_with fail
      go_ret
      rw [HRES.out]
      exact HG.out
    | yes n3 g3 x3 =>
      have HG := Lib.hid (hG.from (HT1.out.then HT2.out) (Nat.le_refl _))
      obtain ⟨rfl, -⟩ := hG
      go_wp2_with fail
      go_ret
      rw [HRES.out]
      exact HG.out
    | no n3 =>
      obtain ⟨rfl, hI8, ht5⟩ := hG
      have HT5 := Lib.hid (HT2.out.then ht5)
      clear ht5
      have hrw := range_keep HWAS.out HT5.out HB.out.2.2.1
      have hth := hI8.there
      have HI9 := Lib.hid (hI8.restore g HGI.out)
      have HT9 := Lib.hid ((HT5.out).then (setCells_touch c.bt (gl 9 g) 3 w5))
      clear hI8
      go_wp2_with (first | (refine load_groups rfl _ rfl _ _ rfl g (by assumption) ?_) | (refine store_groups rfl _ _ rfl _ _ g rfl rfl (by assumption) ?_))
      go_ret
      rw [HRES.out]
      exact ⟨rfl, HI9.out, HT1.out.then HT9.out⟩
  | yes n2 g2 e2 =>
    obtain ⟨rfl, hI2, hxe, hle1, hle2, ht⟩ := hG
    obtain ⟨hxe, -⟩ := hxe
    have HLE : Hid (at' ≤ e2 ∧ e2 ≤ c.s.size) := Lib.hid ⟨hle1, hle2⟩
    have k0 := (hI2.node HV.out HB.out.1).c0
    rw [HKIND.out] at k0
    have HRES : Hid (lookR true (.yes n2 g2 e2) k at' g = .no n2) := Lib.hid rfl
    have hrw := range_keep HWAS.out ht HB.out.2.2.1
    have hth := hI2.there
    have hI8 := hI2.restore g HGI.out
    have HT2 := Lib.hid (ht.then (setCells_touch c.bt (gl 9 g) 3 w2))
    clear hI2 ht hle1 hle2
    go_upto_region 10 with (first | (refine load_groups rfl _ rfl _ _ rfl g (by assumption) ?_) | (refine store_groups rfl _ _ rfl _ _ g rfl rfl (by assumption) ?_))
    generalize w2.setCells c.bt 3 (gl 9 g) = w3 at *
    clear hrw hth hxe k0
    have hrw := range_keep HWAS.out HT2.out HB.out.2.2.1
    have hth := hI8.there
    have HI9 := Lib.hid (hI8.restore g HGI.out)
    have HT9 := Lib.hid ((HT2.out).then (setCells_touch c.bt (gl 9 g) 3 w3))
    clear hI8
    go_wp2_with (first | (refine load_groups rfl _ rfl _ _ rfl g (by assumption) ?_) | (refine store_groups rfl _ _ rfl _ _ g rfl rfl (by assumption) ?_))
    go_ret
    rw [HRES.out]
    exact ⟨rfl, HI9.out, HT1.out.then HT9.out⟩

set_option maxRecDepth 100000 in
set_option maxHeartbeats 1000000 in
/-- The kinds of which the first way alone counts. -/
theorem rrun_closed (c : Cr) (b : Nat) (v : NV) (hv : NodeB c.wT b v) (hb : b ≠ c.bt) (hk : v.kind = 7 ∨ v.kind = 8 ∨ v.kind = 9) (R : Nat → K → Nat → Grp → Res)
    (hC : ∀ (at' : Nat) (kv : Value) (k : K) (n : Nat) (g : Grp) (w : World), IR c n g w → at' ≤ c.s.size → KR c kv k at' w → Calls Tryz.prog 77 #[.pointer (some ⟨c.bt, 0, none⟩), .pointer (some ⟨b, 0, none⟩), .int .i64 (at' : Int), kv] w (GotR c w at' g (R at' k n g))) :
    RunOK c (.pointer (some ⟨b, 0, none⟩)) R := by
  intro at' kv k n g w hI ha hK
  have k0 := (hI.node hv hb).c0
  have HC := Lib.hid (hC at' kv k n g w hI ha hK)
  have hKx := hK
  obtain ⟨⟨z, rfl⟩, -⟩ := hKx
  clear hI hK hC hv
  rcases hk with e | e | e
  all_goals
    rw [e] at k0
    go_enter Tryz.func53, Tryz.ntmps53
    go_wp2_with fail
    refine HC.out.mono ?_
    intro e w' hG
    have HG := Lib.hid hG
    have hc := hG.code
    subst hc
    clear hG
    go_wp2_with fail
    go_ret
    exact HG.out
end Go.Proofs.YtlgpilcjcomacaaGreat

/-
  The document's matcher: every tree is tried as it should be; first.
-/
namespace Go.Proofs.YtlgpilcjcomacaaGreat
open Go.RowKit Rx
set_option linter.unusedVariables false
attribute [local go_sem ↓] Go.wp_at_zero Go.wp_at_succ

theorem setAt_le {s : ByteArray} {f : Nat → Bool} {at' e : Nat} (h : setAt (str s) f at' = some e) (ha : at' ≤ s.size) : at' ≤ e ∧ e ≤ s.size := by
  unfold setAt at h
  by_cases hlt : at' < s.size
  · rw [byteAt_lt hlt] at h
    simp only at h
    split at h
    · cases h; omega
    · cases h
  · rw [byteAt_ge (by omega)] at h
    cases h
theorem asrAt_le {s : ByteArray} {k at' e : Nat} (h : asrAt (str s) k at' = some e) (ha : at' ≤ s.size) : at' ≤ e ∧ e ≤ s.size := by
  unfold asrAt at h
  split at h
  · cases h; omega
  · cases h
theorem brefAt_le {s : ByteArray} {g : Grp} {i at' e : Nat} (h : brefAt (str s) g i at' = some e) (hg : GInv s.size g) (ha : at' ≤ s.size) : at' ≤ e ∧ e ≤ s.size := by
  unfold brefAt at h
  split at h
  · cases h
  · rename_i hn
    cases h
    have hp := not_or.1 hn
    have h2 := Decidable.not_not.1 hp.2
    have h1 := List.IsPrefix.length_le (List.isPrefixOf_iff_prefix.1 h2)
    rw [List.length_take, List.length_drop, List.length_drop, str_len] at h1
    have h3 := (hg i).resolve_left (fun e => hp.1 (by rw [e]; decide))
    omega

theorem all_okR (c : Cr) : ∀ a : Re, (∀ p, (trdD c a).node p → RunOK c p (run (str c.s) c.B a)) ∧ RowGo c a ∧ AllGo c a := by
  have noRow : ∀ a : Re, (∀ x l, ¬ (trdD c a).row x l) → RowGo c a := fun a h b rb v i x fr kv k lo w0 _ _ _ _ _ hrow => absurd hrow (h _ _)
  intro a
  induction a with
  | set f =>
    refine ⟨fun p hp at' kv k n g w hI ha hK => ?_, noRow _ (fun _ _ h => h), trivial⟩
    obtain ⟨v, ⟨b, rfl, hb, hv⟩, hk, hf⟩ := hp
    rw [run_set]
    exact rrun_atom c b v hv hb (.inl hk) (fun _ => setAt (str c.s) f at') at' kv k n g w hI ha hK (fun e h => setAt_le h ha) (fun w' hI' => ratom_set c.bt b at' c.s v f w' hI'.sz ha hI'.c0 (hI'.node hv hb) hk hf)
  | asr j =>
    refine ⟨fun p hp at' kv k n g w hI ha hK => ?_, noRow _ (fun _ _ h => h), trivial⟩
    obtain ⟨v, ⟨b, rfl, hb, hv⟩, hk, hw, h1, h6⟩ := hp
    rw [run_asr]
    exact rrun_atom c b v hv hb (.inr (.inl hk)) (fun _ => asrAt (str c.s) j at') at' kv k n g w hI ha hK (fun e h => asrAt_le h ha) (fun w' hI' => ratom_asr c.bt b j at' c.s v w' hI'.sz ha hI'.c0 (hI'.node hv hb) hk hw h1 h6)
  | bref m =>
    refine ⟨fun p hp at' kv k n g w hI ha hK => ?_, noRow _ (fun _ _ h => h), trivial⟩
    obtain ⟨v, ⟨b, rfl, hb, hv⟩, hk, hm, h1, h9⟩ := hp
    rw [run_bref]
    exact rrun_atom c b v hv hb (.inr (.inr hk)) (fun g => brefAt (str c.s) g m at') at' kv k n g w hI ha hK (fun e h => brefAt_le h hI.gi ha) (fun w' hI' => ratom_bref c.bt b m at' c.s g v w' hI'.sz ha hI'.c0 (hI'.node hv hb) hk hm h1 h9 hI'.gi (hI'.y0 (by omega)).1 (hI'.y1 (by omega)).1)
  | nil => exact ⟨fun p hp => hp.elim, rgo_nil c, trivial⟩
  | cat x r ihx ihr => exact ⟨fun p hp => hp.elim, rgo_cat c x r ihx.1 ihr.2.1, trivial⟩
  | none => exact ⟨fun p hp => hp.elim, noRow _ (fun _ _ h => h), trivial⟩
  | alt x r ihx ihr => exact ⟨fun p hp => hp.elim, noRow _ (fun _ _ h => h), ihx.2.1, ihr.2.2⟩
  | grp m x ih =>
    refine ⟨fun p hp => ?_, noRow _ (fun _ _ h => h), trivial⟩
    obtain ⟨v, q, ⟨b, rfl, hb, hv⟩, hk, hm, h9, hkid, hq⟩ := hp
    by_cases h0 : m = 0
    · subst h0
      exact rrun_plain c x ih.2.2 b v hv hb (by rw [hk]; rfl) q hkid hq
    · exact rrun_grp c m h0 h9 x ih.2.2 b v hv hb (by rw [hk, if_neg h0]) (hm h0) q hkid hq
  | look neg x ih =>
    refine ⟨fun p hp => ?_, noRow _ (fun _ _ h => h), trivial⟩
    obtain ⟨v, q, ⟨b, rfl, hb, hv⟩, hk, hkid, hq⟩ := hp
    have hpp : ∃ y, q = .pointer y := by obtain ⟨_, ⟨qb, h, -, -⟩, -⟩ := hq; exact ⟨_, h⟩
    cases neg with
    | false => exact rrun_closed c b v hv hb (.inl hk) _ (fun at' kv k n g w hI ha hK => rclosed_look c b v hv hb hk q hkid hpp _ (rrun_either c x ih.2.2 q hq) at' kv k n g w hI ha hK)
    | true => exact rrun_closed c b v hv hb (.inr (.inl hk)) _ (fun at' kv k n g w hI ha hK => rclosed_not c b v hv hb hk q hkid hpp _ (rrun_either c x ih.2.2 q hq) at' kv k n g w hI ha hK)
  | atom x ih =>
    refine ⟨fun p hp => ?_, noRow _ (fun _ _ h => h), trivial⟩
    obtain ⟨v, q, ⟨b, rfl, hb, hv⟩, hk, hkid, hq⟩ := hp
    have hpp : ∃ y, q = .pointer y := by obtain ⟨_, ⟨qb, h, -, -⟩, -⟩ := hq; exact ⟨_, h⟩
    exact rrun_closed c b v hv hb (.inr (.inr hk)) _ (fun at' kv k n g w hI ha hK => rclosed_atom c b v hv hb hk q hkid hpp _ (rrun_either c x ih.2.2 q hq) at' kv k n g w hI ha hK)
  | rep x least most lazy ih =>
    refine ⟨fun p hp => ?_, noRow _ (fun _ _ h => h), trivial⟩
    obtain ⟨v, q, ⟨b, rfl, hb, hv⟩, hk, hls, hhi, hlz, hl, hm, hkid, hq⟩ := hp
    have hpp := rdD_ptr hq
    exact rrun_rep c x b v hv hb hk least most lazy hls hhi hlz hl hm q hkid (by obtain ⟨b, h⟩ := hpp; exact ⟨_, h⟩) (ih.1 q hq)
  | poss x least most ih =>
    refine ⟨fun p hp => ?_, noRow _ (fun _ _ h => h), trivial⟩
    obtain ⟨v, q, v2, q2, ⟨b, rfl, hb, hv⟩, hk, hkid, ⟨b2, rfl, hb2, hv2⟩, hk2, hls, hhi, hlz, hl, hm, hkid2, hq⟩ := hp
    have hpp := rdD_ptr hq
    have hR := rrun_rep c x b2 v2 hv2 hb2 hk2 least most false hls hhi hlz hl hm q2 hkid2 (by obtain ⟨b, h⟩ := hpp; exact ⟨_, h⟩) (ih.1 q2 hq)
    exact rrun_closed c b v hv hb (.inr (.inr hk)) _ (fun at' kv k n g w hI ha hK => rclosed_atom c b v hv hb hk _ hkid ⟨_, rfl⟩ _ hR at' kv k n g w hI ha hK)
end Go.Proofs.YtlgpilcjcomacaaGreat

/-
  The document's first: the first match from a place on. (Printed by wip/tools/first07.py.)
-/
namespace Go.Proofs.YtlgpilcjcomacaaGreat
open Go.RowKit Rx
set_option linter.unusedVariables false
attribute [local go_sem ↓] Go.wp_at_zero Go.wp_at_succ

/-- A try of the document, whatever its groups. -/
structure MR (c : Cr) (n : Nat) (w : World) : Prop where
  c0 : w.cell? ⟨c.bt, 0, none⟩ = some (.string c.s)
  c1 : Holds w c.bt 1 (.int .i64 n)
  c2 : w.cell? ⟨c.bt, 2, none⟩ = some (.int .i64 c.B)
  cg : ∀ j, j < 20 → ∃ v, Holds w c.bt (3 + j) v
  ce : ∃ x : Int, Holds w c.bt 23 (.int .i64 x)
  nB : n ≤ c.B
  lB : c.B ≤ 1000000
  sz : c.s.size ≤ 5000
  tr : Touch (fun b => b = c.bt) c.wT w
theorem MR.of {c : Cr} {n : Nat} {g : Grp} {w : World} (h : IR c n g w) : MR c n w := ⟨h.c0, h.c1, h.c2, fun j hj => ⟨_, h.cg j hj⟩, h.ce, h.nB, h.lB, h.sz, h.tr⟩
theorem MR.lt {c : Cr} {n : Nat} {w : World} (h : MR c n w) : c.bt < w.heap.size := h.c1.lt
theorem MR.pair {c : Cr} {n : Nat} {w : World} (h : MR c n w) (i : Nat) (hi : i < 10) (u v : Value) : MR c n ((w.setCell ⟨c.bt, 3 + i * 2, none⟩ u).setCell ⟨c.bt, 3 + i * 2 + 1, none⟩ v) :=
  ⟨cell_set_other (cell_set_other h.c0 _ (.inr (by show 3 + i * 2 ≠ 0; omega))) _ (.inr (by show 3 + i * 2 + 1 ≠ 0; omega)),
    (h.c1.set_other _ (.inr (by show 3 + i * 2 ≠ 1; omega))).set_other _ (.inr (by show 3 + i * 2 + 1 ≠ 1; omega)),
    cell_set_other (cell_set_other h.c2 _ (.inr (by show 3 + i * 2 ≠ 2; omega))) _ (.inr (by show 3 + i * 2 + 1 ≠ 2; omega)),
    fun j hj => by
      obtain ⟨x, hx⟩ := h.cg j hj
      by_cases e1 : j = i * 2 + 1
      · subst e1; exact ⟨v, (hx.set_other _ (.inr (by show 3 + i * 2 ≠ 3 + (i * 2 + 1); omega))).set _⟩
      · by_cases e0 : j = i * 2
        · subst e0; exact ⟨u, (hx.set _).set_other _ (.inr (by show 3 + i * 2 + 1 ≠ 3 + i * 2; omega))⟩
        · exact ⟨x, (hx.set_other _ (.inr (by show 3 + i * 2 ≠ 3 + j; omega))).set_other _ (.inr (by show 3 + i * 2 + 1 ≠ 3 + j; omega))⟩,
    by obtain ⟨x, hx⟩ := h.ce; exact ⟨x, (hx.set_other _ (.inr (by show 3 + i * 2 ≠ 23; omega))).set_other _ (.inr (by show 3 + i * 2 + 1 ≠ 23; omega))⟩, h.nB, h.lB, h.sz,
    (h.tr.setCell (.inl rfl) _).setCell (.inl rfl) _⟩

/-- So many of the document's groups are cleared. -/
def ClR (bt i : Nat) (w : World) : Prop := ∀ j, j < 2 * i → Holds w bt (3 + j) (.int .i64 (-1))
theorem ClR.next {bt i : Nat} {w : World} {x y : Value} (h : ClR bt i w) (h0 : Holds w bt (3 + i * 2) x) (h1 : Holds w bt (3 + i * 2 + 1) y) : ClR bt (i + 1) ((w.setCell ⟨bt, 3 + i * 2, none⟩ (.int .i64 (-1))).setCell ⟨bt, 3 + i * 2 + 1, none⟩ (.int .i64 (-1))) := fun j hj => by
  by_cases e1 : j = i * 2 + 1
  · subst e1; exact (h1.set_other _ (.inr (by show 3 + i * 2 ≠ 3 + i * 2 + 1; omega))).set _
  · by_cases e0 : j = i * 2
    · subst e0; exact (h0.set _).set_other _ (.inr (by show 3 + i * 2 + 1 ≠ 3 + i * 2; omega))
    · exact ((h j (by omega)).set_other _ (.inr (by show 3 + i * 2 ≠ 3 + j; omega))).set_other _ (.inr (by show 3 + i * 2 + 1 ≠ 3 + j; omega))
theorem MR.clear {c : Cr} {n : Nat} {w : World} (h : MR c n w) (hc : ClR c.bt 10 w) : IR c n g0 w :=
  ⟨h.c0, h.c1, h.c2, fun j hj => by
    have := hc j (by omega)
    have e : gv g0 j = .int .i64 (-1) := by unfold gv g0; split <;> rfl
    rw [e]; exact this, h.ce, h.nB, h.lB, h.sz, fun _ => .inl rfl, h.tr⟩

/-- What comes back of the document's first. -/
def FirstD (c : Cr) (w : World) (lo : Nat) : Res → Ending → World → Prop
  | .over, e, w' => e = .returned (.tuple #[.pointer (some ⟨c.bt, 0, none⟩), .int .i64 2]) ∧ (∃ x : Int, Holds w' c.bt 1 (.int .i64 x)) ∧ Still w w'
  | .no n, e, w' => e = .returned (.tuple #[.pointer (some ⟨c.bt, 0, none⟩), .int .i64 0]) ∧ MR c n w' ∧ Still w w'
  | .yes n g x, e, w' => e = .returned (.tuple #[.pointer (some ⟨c.bt, 0, none⟩), .int .i64 1]) ∧ IR c n g w' ∧ Holds w' c.bt 23 (.int .i64 (x : Int)) ∧ (∃ j : Nat, lo ≤ j ∧ j ≤ x ∧ x ≤ c.s.size ∧ g 0 = ((j : Int), (x : Int))) ∧ Still w w'

set_option maxRecDepth 100000 in
set_option maxHeartbeats 4000000 in
theorem rfirst_any (s : ByteArray) (B : Nat) (p : Value) (hpp : ∃ x, p = .pointer x) (a : Re) (w : World) (hRun : RunOK ⟨w.heap.size, B, s, w⟩ p (run (str s) B a)) (lo last n : Nat) (hlo : lo ≤ last + 1) (hla : last ≤ s.size) (hsz : s.size ≤ 5000) (hB : B ≤ 1000000) (hn : n ≤ B)
    (F : Nat → Nat → Res) (hF : ∀ j n, j ≤ last → F j n = frR (F (j + 1)) false j (run (str s) B a j K0 n g0)) (hE : ∀ n, F (last + 1) n = .no n) :
    Calls Tryz.prog 41 #[p, .string s, .int .i64 (lo : Int), .int .i64 (last : Int), .int .i64 (n : Int), .int .i64 (B : Int)] w (FirstD ⟨w.heap.size, B, s, w⟩ w lo (F lo n)) := by
  obtain ⟨px, rfl⟩ := hpp
  obtain ⟨w1, hw1⟩ : ∃ w1, w.alloc (.cells #[.string s, .int .i64 (n : Int), .int .i64 (B : Int), .int .i64 0, .int .i64 0, .int .i64 0, .int .i64 0, .int .i64 0, .int .i64 0, .int .i64 0, .int .i64 0, .int .i64 0, .int .i64 0, .int .i64 0, .int .i64 0, .int .i64 0, .int .i64 0, .int .i64 0, .int .i64 0, .int .i64 0, .int .i64 0, .int .i64 0, .int .i64 0, .int .i64 0] 108) = w1 := ⟨_, rfl⟩
  have hM1 : MR ⟨w.heap.size, B, s, w⟩ n w1 := by
    rw [← hw1]
    refine ⟨(Holds.made w _ _ 0 _ rfl).1, Holds.made w _ _ 1 _ rfl, (Holds.made w _ _ 2 _ rfl).1, fun j hj => ⟨.int .i64 0, Holds.made w _ _ (3 + j) _ ?_⟩, ⟨0, Holds.made w _ _ 23 _ rfl⟩, hn, hB, hsz, (Touch.refl _ _).alloc _⟩
    obtain rfl | rfl | rfl | rfl | rfl | rfl | rfl | rfl | rfl | rfl | rfl | rfl | rfl | rfl | rfl | rfl | rfl | rfl | rfl | rfl : j = 0 ∨ j = 1 ∨ j = 2 ∨ j = 3 ∨ j = 4 ∨ j = 5 ∨ j = 6 ∨ j = 7 ∨ j = 8 ∨ j = 9 ∨ j = 10 ∨ j = 11 ∨ j = 12 ∨ j = 13 ∨ j = 14 ∨ j = 15 ∨ j = 16 ∨ j = 17 ∨ j = 18 ∨ j = 19 := by omega
    all_goals rfl
  have HM1 := Lib.hid hM1
  have HT1 : Hid (Still w w1) := Lib.hid (by rw [← hw1]; exact (Touch.refl _ _).alloc _)
  have HRUN := Lib.hid hRun
  have HF := Lib.hid hF
  have HE := Lib.hid hE
  have HBD : Hid (B ≤ 1000000 ∧ n ≤ B) := Lib.hid ⟨hB, hn⟩
  obtain ⟨bt, hbt⟩ : ∃ bt, w.heap.size = bt := ⟨_, rfl⟩
  have HBT := Lib.hid hbt
  clear hM1 hRun hF hE hB hn
  go_enter Tryz.func41, Tryz.ntmps41
  go_wp2_with fail
  rw [hbt] at HM1 HRUN ⊢
  clear hw1 hbt
  go_loopw [15] (fun ii wr => ∃ (j n' : Nat), ii = .int .i64 j ∧ lo ≤ j ∧ j ≤ last + 1 ∧ Hid (F lo n = F j n') ∧ Hid (MR ⟨bt, B, s, w⟩ n' wr) ∧ Hid (Touch (fun b => b = bt) w1 wr)) (fun ii _ => last + 1 - (intOf ii).toNat)
  case atStart => exact ⟨lo, n, rfl, Nat.le_refl _, hlo, Lib.hid rfl, HM1, Lib.hid (Touch.refl _ _)⟩
  case round =>
    obtain ⟨j, n', rfl, hj0, hj1, HEQ, HM, HT⟩ := hrel
    have HST : Hid (∀ wx, Touch (fun b => b = bt) w1 wx → Still w wx) := Lib.hid (fun wx t => HT1.out.trans t (fun i e => .inr (by rw [HBT.out]; omega)))
    by_cases hle : j ≤ last
    · have hd : decide ((j : Int) ≤ (last : Int)) = true := decide_eq_true (by omega)
      have HCL0 : Hid (ClR bt 0 wr) := Lib.hid (fun j hj => by omega)
      go_wp2_with fail
      go_loopw [16] (fun gg wz => ∃ i : Nat, gg = .int .i64 i ∧ i ≤ 10 ∧ Hid (ClR bt i wz) ∧ Hid (MR ⟨bt, B, s, w⟩ n' wz) ∧ Hid (Touch (fun b => b = bt) w1 wz)) (fun gg _ => 10 - (intOf gg).toNat)
      case atStart => exact ⟨0, rfl, by omega, HCL0, HM, HT⟩
      case round =>
        obtain ⟨i, rfl, hi, HCL, HMz, HTz⟩ := hrel
        by_cases hlt : i < 10
        · obtain ⟨x0, hx0⟩ := HMz.out.cg (i * 2) (by omega)
          obtain ⟨x1, hx1⟩ := HMz.out.cg (i * 2 + 1) (by omega)
          rw [← Nat.add_assoc] at hx1
          simp only at hx0 hx1
          have HCL2 := Lib.hid (HCL.out.next hx0 hx1)
          have HM2 := Lib.hid (HMz.out.pair i hlt (.int .i64 (-1)) (.int .i64 (-1)))
          have HT2 : Hid (Touch (fun b => b = bt) w1 ((wr.setCell ⟨bt, 3 + i * 2, none⟩ (.int .i64 (-1))).setCell ⟨bt, 3 + i * 2 + 1, none⟩ (.int .i64 (-1)))) := Lib.hid ((HTz.out.setCell (.inl rfl) _).setCell (.inl rfl) _)
          obtain ⟨hx0, hf0⟩ := hx0
          obtain ⟨hx1, hf1⟩ := hx1
          go_wp2_with fail
          go_roundw
          case rel => exact ⟨i + 1, by go_num, by omega, HCL2, HM2, HT2⟩
          case measure => simp [intOf]; omega
        · obtain rfl : i = 10 := by omega
          have hI := HMz.out.clear HCL.out
          have HI := Lib.hid hI
          obtain ⟨q, hq⟩ : ∃ q, run (str s) B a j K0 n' g0 = q := ⟨_, rfl⟩
          have HC := Lib.hid (HRUN.out j (.pointer none) K0 n' g0 wr hI (by show j ≤ s.size; omega) (KR0 _ j wr))
          have HFQ : Hid (F lo n = frR (F (j + 1)) false j q) := Lib.hid (by rw [HEQ.out, HF.out j n' hle, hq])
          rw [hq] at HC
          clear hI hq
          go_wp2_with fail
          refine HC.out.mono ?_
          clear HC
          intro e w2 hG
          cases q with
          | over =>
            obtain ⟨rfl, hs, ht⟩ := hG
            have HG : Hid (FirstD ⟨bt, B, s, w⟩ w lo (F lo n) (.returned (.tuple #[.pointer (some ⟨bt, 0, none⟩), .int .i64 2])) w2) := Lib.hid (by rw [HFQ.out]; exact ⟨rfl, hs, HST.out w2 (HTz.out.then ht)⟩)
            clear hs ht
            go_wp2_with fail
            go_ret2
            try rw [HBT.out]
            exact HG.out
          | yes n2 g2 x2 =>
            obtain ⟨rfl, hI2, hx, hle1, hle2, ht⟩ := hG
            have hle2 : x2 ≤ s.size := hle2
            have y0 := hI2.y0 (m := 0) (by decide)
            have y1 := hI2.y1 (m := 0) (by decide)
            have hI9 := (hI2.group2 0 (by decide) (j : Int) (x2 : Int) (.inr ⟨by omega, by omega, by show (x2 : Int) ≤ (s.size : Int); omega⟩)).keep (Touch.refl (fun _ => False) _).drew
            have hx9 := ((hx.set_other (p := ⟨bt, 3, none⟩) (.int .i64 (j : Int)) (.inr (by show (3 : Nat) ≠ 23; decide))).set_other (p := ⟨bt, 4, none⟩) (.int .i64 (x2 : Int)) (.inr (by show (4 : Nat) ≠ 23; decide)))
            simp only [Nat.zero_mul, Nat.add_zero, Nat.reduceAdd] at y0 y1 hI9 hx9
            have HG : Hid (FirstD ⟨bt, B, s, w⟩ w lo (F lo n) (.returned (.tuple #[.pointer (some ⟨bt, 0, none⟩), .int .i64 1])) ((w2.setCell ⟨bt, 3, none⟩ (.int .i64 (j : Int))).setCell ⟨bt, 4, none⟩ (.int .i64 (x2 : Int))).drew) := Lib.hid (by
              rw [HFQ.out]
              exact ⟨rfl, hI9, hx9, ⟨j, hj0, hle1, hle2, if_pos rfl⟩, HST.out _ (Touch.drew (((HTz.out.then ht).setCell (.inl rfl) _).setCell (.inl rfl) _))⟩)
            obtain ⟨y0, f0⟩ := y0
            obtain ⟨y1, f1⟩ := y1
            obtain ⟨hx, -⟩ := hx
            clear hI2 ht hI9 hx9
            go_wp2_with fail
            go_still_tail 10, (by kernel_rfl)
            change wpList _ _ _ _ _ (World.drew _)
            go_wp2_with fail
            go_ret2
            try rw [HBT.out]
            exact HG.out
          | no n2 =>
            obtain ⟨rfl, hI2, ht⟩ := hG
            have HM2 := Lib.hid (MR.of hI2)
            have HT2 := Lib.hid (HTz.out.then ht)
            have HF2 : Hid (F lo n = F (j + 1) n2) := Lib.hid (by rw [HFQ.out]; rfl)
            have hw9 := IntWalk.i64_in ((j : Int) + 1) (by omega)
            clear hI2 ht
            go_wp2_with fail
            go_roundw
            case rel => exact ⟨j + 1, n2, by go_num, by omega, by omega, HF2, HM2, HT2⟩
            case measure => simp [intOf]; omega
    · obtain rfl : j = last + 1 := by omega
      have hd : decide (((last + 1 : Nat) : Int) ≤ (last : Int)) = false := decide_eq_false (by omega)
      have HG : Hid (FirstD ⟨bt, B, s, w⟩ w lo (F lo n) (.returned (.tuple #[.pointer (some ⟨bt, 0, none⟩), .int .i64 0])) wr) := Lib.hid (by rw [HEQ.out, HE.out]; exact ⟨rfl, HM.out, HST.out wr HT.out⟩)
      go_wp2_with fail
      go_ret2
      try rw [HBT.out]
      exact HG.out
end Go.Proofs.YtlgpilcjcomacaaGreat
