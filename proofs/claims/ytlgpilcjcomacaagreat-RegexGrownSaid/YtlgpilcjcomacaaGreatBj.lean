/-
  Texts Sc, Sd, Se, Sf in one.
-/
import Derived.Test.YtlgpilcjcomacaaGreatBc
import Derived.Test.YtlgpilcjcomacaaGreatAb
/-
  The document's matcher: atoms, rows.
-/
namespace Go.Proofs.YtlgpilcjcomacaaGreat
open Go.RowKit Rx
set_option linter.unusedVariables false
attribute [local go_sem ↓] Go.wp_at_zero Go.wp_at_succ

theorem GotR.drewN {c : Cr} {w : World} {lo : Nat} {g : Grp} {r : Res} {e : Ending} {w' : World} (h : GotR c w lo g r e w') (q : Nat) : GotR c w lo g r e (w'.drewN q) := by
  cases r with
  | over => exact ⟨h.1, by obtain ⟨x, hx⟩ := h.2.1; exact ⟨x, hx.drewN q⟩, h.2.2.drewN q⟩
  | no n => exact ⟨h.1, h.2.1.keep ((Touch.refl _ _).drewN q), h.2.2.drewN q⟩
  | yes n k x => obtain ⟨h1, h2, h3, h4, h5, h6⟩ := h; exact ⟨h1, h2.keep ((Touch.refl _ _).drewN q), h3.drewN q, h4, h5, h6.drewN q⟩
theorem GotR.drew {c : Cr} {w : World} {lo : Nat} {g : Grp} {r : Res} {e : Ending} {w' : World} (h : GotR c w lo g r e w') : GotR c w lo g r e w'.drew := h.drewN 1

/-- A rest in memory. -/
structure RestC (w : World) (b : Nat) (p : Value) (kind i fr : Int) (kv : Value) : Prop where
  c0 : w.cell? ⟨b, 0, none⟩ = some p
  c1 : w.cell? ⟨b, 1, none⟩ = some (.int .i64 kind)
  c2 : w.cell? ⟨b, 2, none⟩ = some (.int .i64 i)
  c3 : w.cell? ⟨b, 3, none⟩ = some (.int .i64 fr)
  c4 : w.cell? ⟨b, 4, none⟩ = some kv
theorem RestC.keep {S : Nat → Prop} {w w' : World} {b : Nat} {p : Value} {kind i fr : Int} {kv : Value} (h : RestC w b p kind i fr kv) (t : Touch S w w') (hb : ¬ S b) : RestC w' b p kind i fr kv :=
  ⟨t.has h.c0 hb, t.has h.c1 hb, t.has h.c2 hb, t.has h.c3 hb, t.has h.c4 hb⟩
theorem RestC.made (w : World) (p : Value) (kind i fr : Int) (kv : Value) : RestC (w.alloc (.cells #[p, .int .i64 kind, .int .i64 i, .int .i64 fr, kv] 144)) w.heap.size p kind i fr kv :=
  ⟨by simp [go_sem], by simp [go_sem], by simp [go_sem], by simp [go_sem], by simp [go_sem]⟩

set_option maxRecDepth 100000 in
set_option maxHeartbeats 1000000 in
theorem rrun_atom (c : Cr) (b : Nat) (v : NV) (hv : NodeB c.wT b v) (hb : b ≠ c.bt) (hk : v.kind = 0 ∨ v.kind = 1 ∨ v.kind = 2) (o : Grp → Option Nat) (at' : Nat) (kv : Value) (k : K) (n : Nat) (g : Grp) (w : World) (hI : IR c n g w) (ha : at' ≤ c.s.size) (hK : KR c kv k at' w)
    (ho : ∀ e, o g = some e → at' ≤ e ∧ e ≤ c.s.size) (hAt : ∀ w' : World, IR c (n + 1) g w' → Calls Tryz.prog 74 #[.pointer (some ⟨c.bt, 0, none⟩), .pointer (some ⟨b, 0, none⟩), .int .i64 (at' : Int)] w' fun e w'' => e = .returned (.int .i64 (endI (o g))) ∧ Still w' w'') :
    Calls Tryz.prog 53 #[.pointer (some ⟨c.bt, 0, none⟩), .pointer (some ⟨b, 0, none⟩), .int .i64 (at' : Int), kv] w (GotR c w at' g (tick c.B n (goOn (o g) k g))) := by
  have k0 := (hI.node hv hb).c0
  have hKx := hK
  obtain ⟨⟨x, rfl⟩, -⟩ := hKx
  by_cases hn : n = c.B
  · have HR : Hid (tick c.B n (goOn (o g) k g) = .over) := Lib.hid (tick_over hn)
    have h1 := hI.c1
    rw [hn] at h1
    have HS := Lib.hid (rstep_over c.bt c.B w hI.lB h1 hI.c2)
    have HH := Lib.hid h1
    clear hAt ho hK hI h1
    rcases hk with e | e | e
    all_goals
      rw [e] at k0
      go_enter Tryz.func53, Tryz.ntmps53
      go_wp2_with fail
      refine HS.out.mono ?_
      rintro e w' ⟨rfl, q, rfl⟩
      go_wp2_with fail
      go_ret
      rw [HR.out]
      exact ⟨rfl, ⟨_, (HH.out.set _).drewN q⟩, (Touch.setCell (Touch.refl (fun b => b = c.bt) w) (.inl rfl) _).drewN q⟩
  · have hlt : n < c.B := by have := hI.nB; omega
    have HR : Hid (tick c.B n (goOn (o g) k g) = goOn (o g) k g (n + 1)) := Lib.hid (tick_on hlt)
    have HS := Lib.hid (rstep_on c.bt c.B n w hlt hI.lB hI.c1 hI.c2)
    have HI1 := Lib.hid (fun q => (hI.step hlt).keep ((Touch.refl (fun _ => False) _).drewN q))
    have HT1 : Hid (∀ q, Touch (fun b => b = c.bt) w ((w.setCell ⟨c.bt, 1, none⟩ (.int .i64 ((n + 1 : Nat) : Int))).drewN q)) := Lib.hid (fun q => (Touch.setCell (Touch.refl (fun b => b = c.bt) w) (.inl rfl) _).drewN q)
    have HAT := Lib.hid hAt
    have HK := Lib.hid hK
    have HO := Lib.hid ho
    clear hAt hK ho hI hlt
    cases hog : o g with
    | none =>
      rw [hog] at HR HAT
      have q1 : decide ((0 : Int) ≤ -1) = false := by decide
      rcases hk with e | e | e
      all_goals
        rw [e] at k0
        go_enter Tryz.func53, Tryz.ntmps53
        go_wp2_with fail
        refine HS.out.mono ?_
        rintro e w' ⟨rfl, q, rfl⟩
        have HI2 := Lib.hid (HI1.out q)
        have HT2 := Lib.hid (HT1.out q)
        generalize (w.setCell ⟨c.bt, 1, none⟩ (.int .i64 ((n + 1 : Nat) : Int))).drewN q = w2 at *
        go_wp2_with fail
        refine (HAT.out w2 HI2.out).mono ?_
        rintro e w' ⟨rfl, ht⟩
        have HI3 := Lib.hid (HI2.out.keep ht)
        have HT3 := Lib.hid (HT2.out.trans ht (fun _ e => e.elim))
        clear ht
        go_wp2_with fail
        go_ret
        rw [HR.out]
        exact ⟨rfl, HI3.out, HT3.out⟩
    | some e1 =>
      rw [hog] at HR HAT
      obtain ⟨he1, he2⟩ := HO.out e1 hog
      have q1 : decide ((0 : Int) ≤ (e1 : Int)) = true := decide_eq_true (by omega)
      clear HO hog
      rcases hk with e | e | e
      all_goals
        rw [e] at k0
        go_enter Tryz.func53, Tryz.ntmps53
        go_wp2_with fail
        refine HS.out.mono ?_
        rintro e w' ⟨rfl, q, rfl⟩
        have HI2 := Lib.hid (HI1.out q)
        have HT2 := Lib.hid (HT1.out q)
        generalize (w.setCell ⟨c.bt, 1, none⟩ (.int .i64 ((n + 1 : Nat) : Int))).drewN q = w2 at *
        go_wp2_with fail
        refine (HAT.out w2 HI2.out).mono ?_
        rintro e w3 ⟨rfl, ht⟩
        have HI3 := Lib.hid (HI2.out.keep ht)
        have HT3 := Lib.hid (HT2.out.trans ht (fun _ e => e.elim))
        clear ht
        go_wp2_with fail
        refine (HK.out.2 w3 e1 (n + 1) g HT3.out HI3.out he1 he2).mono ?_
        intro e w' hG
        have HG := Lib.hid (hG.from HT3.out he1)
        have hc := hG.code
        subst hc
        clear hG
        go_wp2_with fail
        go_ret
        rw [HR.out]
        exact HG.out
end Go.Proofs.YtlgpilcjcomacaaGreat

/-
  The document's go_ at a row's rest.
-/
namespace Go.Proofs.YtlgpilcjcomacaaGreat
open Go.RowKit Rx
set_option linter.unusedVariables false
attribute [local go_sem ↓] Go.wp_at_zero Go.wp_at_succ

theorem GotR.touch {c : Cr} {w : World} {lo : Nat} {g : Grp} {r : Res} {e : Ending} {w' : World} (h : GotR c w lo g r e w') : Touch (fun b => b = c.bt) w w' := by
  cases r with
  | over => exact h.2.2
  | no n => exact h.2.2
  | yes n k x => exact h.2.2.2.2.2

theorem rdD_ptr {F : Nat → Prop} {w : World} {a : Re} {p : Value} (h : (rdD F w a).node p) : ∃ b, p = .pointer (some ⟨b, 0, none⟩) := by
  cases a with
  | set f => obtain ⟨v, ⟨b, e, -⟩, -⟩ := h; exact ⟨b, e⟩
  | asr k => obtain ⟨v, ⟨b, e, -⟩, -⟩ := h; exact ⟨b, e⟩
  | bref m => obtain ⟨v, ⟨b, e, -⟩, -⟩ := h; exact ⟨b, e⟩
  | grp m x => obtain ⟨v, q, ⟨b, e, -⟩, -⟩ := h; exact ⟨b, e⟩
  | look neg x => obtain ⟨v, q, ⟨b, e, -⟩, -⟩ := h; exact ⟨b, e⟩
  | atom x => obtain ⟨v, q, ⟨b, e, -⟩, -⟩ := h; exact ⟨b, e⟩
  | rep x l m z => obtain ⟨v, q, ⟨b, e, -⟩, -⟩ := h; exact ⟨b, e⟩
  | poss x l m => obtain ⟨v, q, v2, q2, ⟨b, e, -⟩, -⟩ := h; exact ⟨b, e⟩
  | nil => exact h.elim
  | cat x r => exact h.elim
  | none => exact h.elim
  | alt x r => exact h.elim

/-- A row's rest from its i-th kid on stands for the rest of the row. -/
def RowGo (c : Cr) (a : Re) : Prop := ∀ (b rb : Nat) (v : NV) (i : Nat) (x : Option Addr) (fr : Int) (kv : Value) (k : K) (lo : Nat) (w0 : World),
  NodeB c.wT b v → b ≠ c.bt → i ≤ v.kl → v.kl ≤ v.kc → v.kl ≤ 1000 → (trdD c a).row x (v.kl - i) → (i < v.kl → ∃ kb ko, v.kx = some ⟨kb, ko, none⟩ ∧ x = some ⟨kb, ko + i, none⟩) →
  RestC w0 rb (.pointer (some ⟨b, 0, none⟩)) 3 (i : Int) fr kv → rb ≠ c.bt → KR c kv k lo w0 → KR c (.pointer (some ⟨rb, 0, none⟩)) (fun e n g => run (str c.s) c.B a e k n g) lo w0

set_option maxRecDepth 100000 in
set_option maxHeartbeats 1000000 in
theorem rgo_nil (c : Cr) : RowGo c .nil := by
  intro b rb v i x fr kv k lo w0 hv hb hi hlc hl1 hrow hx hR hrb hK
  obtain rfl : i = v.kl := by have h : v.kl - i = 0 := hrow; omega
  refine ⟨⟨_, rfl⟩, fun w at' n g t hI h1 h2 => ?_⟩
  have hKx := hK
  obtain ⟨⟨y, rfl⟩, -⟩ := hKx
  have hr := hR.keep t hrb
  obtain ⟨r0, r1, r2, r3, r4⟩ := hr
  have k259 := (hI.node hv hb).c259
  have HK := Lib.hid (fun q => hK.2 (w.drewN q) at' n g (t.drewN q) (hI.keep ((Touch.refl _ _).drewN q)) h1 h2)
  clear hv hx hK hR hI hrow t
  show Calls Tryz.prog 75 _ w (GotR c w at' g (k at' n g))
  go_enter Tryz.func75, Tryz.ntmps75
  go_wp2_with fail
  go_quiet (fail)
  go_wp2_with fail
  refine (HK.out _).mono ?_
  intro e w' hG
  have HG := Lib.hid (hG.from ((Touch.refl (fun b => b = c.bt) w).drewN _) (Nat.le_refl _))
  have hc := hG.code
  subst hc
  clear hG
  go_wp2_with fail
  go_ret
  exact HG.out

set_option maxRecDepth 100000 in
set_option maxHeartbeats 2000000 in
theorem rgo_cat (c : Cr) (y r : Re) (hY : ∀ p, (trdD c y).node p → RunOK c p (run (str c.s) c.B y)) (hRg : RowGo c r) : RowGo c (.cat y r) := by
  intro b rb v i x fr kv k lo w0 hv hb hi hlc hl1 hrow hx hR hrb hK
  obtain ⟨kb, o, p, rfl, hkb, hl, -, hcell, hnode, hrest⟩ := hrow
  obtain ⟨kb', ko, hkx, hxe⟩ := hx (by omega)
  cases hxe
  have hpp := rdD_ptr hnode
  obtain ⟨pb, rfl⟩ := hpp
  refine ⟨⟨_, rfl⟩, fun w at' n g t hI h1 h2 => ?_⟩
  have hKx := hK
  obtain ⟨⟨z, rfl⟩, -⟩ := hKx
  have hr := hR.keep t hrb
  have hin : (i : Int) < (v.kl : Int) := by omega
  have hq1 : ((i : Int) == (v.kl : Int)) = false := by simp; omega
  have hw1 := IntWalk.i64_in ((i : Int) + 1) (by omega)
  have k259 := (hI.node hv hb).c259
  rw [hkx] at k259
  have kc := hI.tree hcell hkb
  have HB : Hid (rb ≠ c.bt ∧ b ≠ c.bt ∧ kb ≠ c.bt) := Lib.hid ⟨hrb, hb, hkb⟩
  have HC : Hid (∀ w5 : World, Still w w5 → RestC w5 w.heap.size (.pointer (some ⟨b, 0, none⟩)) 3 (((i : Int) + 1)) 0 (.pointer z) → Calls Tryz.prog 53 #[.pointer (some ⟨c.bt, 0, none⟩), .pointer (some ⟨pb, 0, none⟩), .int .i64 (at' : Int), .pointer (some ⟨w.heap.size, 0, none⟩)] w5 (GotR c w5 at' g (run (str c.s) c.B (.cat y r) at' k n g))) := Lib.hid (by
    intro w5 t5 hr5
    have hlt := hI.lt
    refine hY _ hnode at' _ (fun e n g => run (str c.s) c.B r e k n g) n g w5 (hI.keep t5) h2 ?_
    refine hRg b w.heap.size v (i + 1) (some ⟨kb, ko + i + 1, none⟩) 0 _ k at' w5 hv hb (by omega) hlc hl1 (by rw [show v.kl - (i + 1) = v.kl - i - 1 by omega]; exact hrest) (fun _ => ⟨kb, ko, hkx, by rw [Nat.add_assoc]⟩) hr5 (by omega) (hK.later (t.then (t5.mono (fun _ _ e => e.elim))) h1))
  have hrx := hr
  obtain ⟨r0, r1, r2, r3, r4⟩ := hrx
  have HR := Lib.hid hr
  have HI := Lib.hid hI
  have HV := Lib.hid hv
  clear hv hx hK hR hI hrest t hY hRg hnode hcell hr r3
  show Calls Tryz.prog 75 _ w (GotR c w at' g (run (str c.s) c.B (.cat y r) at' k n g))
  generalize run (str c.s) c.B (.cat y r) at' k n g = rr at HC ⊢
  go_enter Tryz.func75, Tryz.ntmps75
  go_wp2_with fail
  go_quiet (fail)
  have r0 : (w.drewN nq).cell? ⟨rb, 0, none⟩ = some (.pointer (some ⟨b, 0, none⟩)) := r0
  have r2 : (w.drewN nq).cell? ⟨rb, 2, none⟩ = some (.int .i64 (i : Int)) := r2
  have r4 : (w.drewN nq).cell? ⟨rb, 4, none⟩ = some (.pointer z) := r4
  have k259 : (w.drewN nq).cell? ⟨b, 259, none⟩ = some (.slice (some ⟨kb, ko, none⟩) v.kl v.kc) := k259
  have kc : (w.drewN nq).cell? ⟨kb, ko + i, none⟩ = some (.pointer (some ⟨pb, 0, none⟩)) := kc
  have HT0 : Hid (Still w (w.drewN nq) ∧ w.heap.size = (w.drewN nq).heap.size) := Lib.hid ⟨(Touch.refl _ _).drewN nq, rfl⟩
  generalize w.drewN nq = w0 at *
  rw [HT0.out.2] at HC
  go_wp2_with fail
  go_region_held3 (fun w' => w'.cell? ⟨rb, 0, none⟩ = some (.pointer (some ⟨b, 0, none⟩)) ∧ w'.cell? ⟨rb, 2, none⟩ = some (.int .i64 (i : Int)) ∧ w'.cell? ⟨rb, 4, none⟩ = some (.pointer z) ∧ w'.cell? ⟨b, 259, none⟩ = some (.slice (some ⟨kb, ko, none⟩) v.kl v.kc) ∧ w'.cell? ⟨kb, ko + i, none⟩ = some (.pointer (some ⟨pb, 0, none⟩))) (go_keep)
    (first
      | (go_at_call 53; refine (HC.out _ (HT0.out.1.then (((Touch.refl _ _).alloc _).drew)) (by exact (RestC.made w0 _ _ _ _ _).keep ((Touch.refl (fun _ => False) _).drew) id)).mono ?_; rintro e w2 hG; have hcd := hG.code; subst hcd; have tt := hG.touch; have ta : Still w0 (w0.alloc (.cells #[.pointer (some ⟨b, 0, none⟩), .int .i64 3, .int .i64 ((i : Int) + 1), .int .i64 0, .pointer z] 144)).drew := ((Touch.refl _ _).alloc _).drew; have HG := Lib.hid (hG.from (Touch.mono (HT0.out.1.then ta) (fun _ _ e => e.elim)) (Nat.le_refl _)); have d0 := tt.has (ta.has r0 id) HB.out.1; have d2 := tt.has (ta.has r2 id) HB.out.1; have d4 := tt.has (ta.has r4 id) HB.out.1; have d5 := tt.has (ta.has k259 id) HB.out.2.1; have d6 := tt.has (ta.has kc id) HB.out.2.2; clear hG tt ta))
  go_wp2_with fail
  go_ret
  exact HG.out
end Go.Proofs.YtlgpilcjcomacaaGreat

/-
  The document's run at rows, alternatives, groups without a number.
-/
namespace Go.Proofs.YtlgpilcjcomacaaGreat
open Go.RowKit Rx
set_option linter.unusedVariables false
attribute [local go_sem ↓] Go.wp_at_zero Go.wp_at_succ

set_option maxRecDepth 100000 in
set_option maxHeartbeats 1000000 in
theorem rrun_row (c : Cr) (a : Re) (hR : RowGo c a) (b : Nat) (v : NV) (hv : NodeB c.wT b v) (hb : b ≠ c.bt) (hk : v.kind = 3) (hlc : v.kl ≤ v.kc) (hrow : (trdD c a).row v.kx v.kl) : RunOK c (.pointer (some ⟨b, 0, none⟩)) (run (str c.s) c.B a) := by
  intro at' kv k n g w hI ha hK
  have hl1 : v.kl ≤ 1000 := by
    cases a with
    | nil => have h : v.kl = 0 := hrow; omega
    | cat y r => obtain ⟨_, _, _, -, -, -, h, -⟩ := hrow; exact h
    | _ => exact hrow.elim
  have hx : 0 < v.kl → ∃ kb ko, v.kx = some ⟨kb, ko, none⟩ ∧ v.kx = some ⟨kb, ko + 0, none⟩ := fun h => by
    cases a with
    | nil => have h : v.kl = 0 := hrow; omega
    | cat y r => obtain ⟨kb, ko, _, h, -⟩ := hrow; exact ⟨kb, ko, h, h⟩
    | _ => exact hrow.elim
  have k0 := (hI.node hv hb).c0
  rw [hk] at k0
  have hKx := hK
  obtain ⟨⟨z, rfl⟩, -⟩ := hKx
  have hlt := hI.lt
  have t1 : Still w (w.alloc (.cells #[.pointer (some ⟨b, 0, none⟩), .int .i64 3, .int .i64 0, .int .i64 0, .pointer z] 144)) := (Touch.refl _ _).alloc _
  have hK1 := hR b w.heap.size v 0 v.kx 0 _ k at' _ hv hb (Nat.zero_le _) hlc hl1 hrow hx (RestC.made w (.pointer (some ⟨b, 0, none⟩)) 3 0 0 (.pointer z)) (by omega) (hK.later (t1.mono (fun _ _ e => e.elim)) (Nat.le_refl _))
  have HC := Lib.hid (hK1.2 _ at' n g (Touch.refl _ _) (hI.keep t1) (Nat.le_refl _) ha)
  have HT : Hid (Touch (fun b => b = c.bt) w _) := Lib.hid (t1.mono (fun _ _ e => e.elim))
  clear hI hK hK1 hv hrow hx hR t1
  go_enter Tryz.func53, Tryz.ntmps53
  go_wp2_with fail
  refine HC.out.mono ?_
  intro e w' hG
  have HG := Lib.hid (hG.from HT.out (Nat.le_refl _))
  have hc := hG.code
  subst hc
  clear hG
  go_wp2_with fail
  go_ret
  exact HG.out

/-- The rows of alternatives are as they should be. -/
def AllGo (c : Cr) : Re → Prop
  | .alt y r => RowGo c y ∧ AllGo c r
  | _ => True

theorem rdD_ways0 {c : Cr} {a : Re} {x : Option Addr} {l : Nat} (h : (trdD c a).ways x l) (hl : l = 0) (s : List UInt8) (B at' : Nat) (k : K) (n : Nat) (g : Grp) : run s B a at' k n g = .no n := by
  cases a with
  | none => rfl
  | alt y r => obtain ⟨b, o, p, v, -, -, h1, -⟩ := h; omega
  | _ => exact h.elim

set_option maxRecDepth 100000 in
set_option maxHeartbeats 1000000 in
theorem rrun_either (c : Cr) (a : Re) (hR : AllGo c a) (p : Value) (hp : EitherD (fun b => b ≠ c.bt) c.wT (trdD c a).ways p) : RunOK c p (run (str c.s) c.B a) := by
  obtain ⟨v, ⟨b, rfl, hb, hv⟩, hk, hlc, hw⟩ := hp
  intro at' kv k n g w hI ha hK
  have hl1 : v.kl ≤ 1000 := by
    cases a with
    | none => have h : v.kl = 0 := hw; omega
    | alt y r => obtain ⟨_, _, _, _, -, -, -, h, -⟩ := hw; exact h
    | _ => exact hw.elim
  have hx : 0 < v.kl → ∃ kb ko, v.kx = some ⟨kb, ko, none⟩ := fun h => by
    cases a with
    | none => have h : v.kl = 0 := hw; omega
    | alt y r => obtain ⟨kb, ko, _, _, h, -⟩ := hw; exact ⟨kb, ko, h⟩
    | _ => exact hw.elim
  have k0 := (hI.node hv hb).c0
  rw [hk] at k0
  have k259 := (hI.node hv hb).c259
  have HB := Lib.hid hb
  have HV := Lib.hid hv
  have hKx := hK
  obtain ⟨⟨z, rfl⟩, -⟩ := hKx
  have HI := Lib.hid hI
  have HW := Lib.hid hw
  have HK := Lib.hid hK
  have HR := Lib.hid hR
  have HX := Lib.hid hx
  clear hI hw hK hR hx hv hb
  generalize v.kl = kl at *
  generalize v.kc = kc at *
  generalize v.kx = kx at *
  go_enter Tryz.func53, Tryz.ntmps53
  go_wp2_with fail
  go_loopw [10] (fun ii wr => ∃ (j n' : Nat) (a' : Re), ii = .int .i64 j ∧ j ≤ kl ∧ Hid (∃ x, (trdD c a').ways x (kl - j) ∧ (∀ kb ko, kx = some ⟨kb, ko, none⟩ → x = some ⟨kb, ko + j, none⟩)) ∧ Hid (run (str c.s) c.B a at' k n g = run (str c.s) c.B a' at' k n' g) ∧ Hid (IR c n' g wr) ∧ Hid (Touch (fun b => b = c.bt) w wr) ∧ Hid (AllGo c a')) (fun ii _ => kl - (intOf ii).toNat)
  case atStart => exact ⟨0, n, a, rfl, Nat.zero_le _, Lib.hid ⟨kx, HW.out, fun kb ko h => h⟩, Lib.hid rfl, HI, Lib.hid (Touch.refl _ _), HR⟩
  case round =>
    clear HR
    obtain ⟨j, n', a', rfl, hj, HA, HE, HIr, HT, HR⟩ := hrel
    have k0 := HT.out.has k0 HB.out
    have k259 := HT.out.has k259 HB.out
    by_cases hlt : j < kl
    · obtain ⟨kb, ko, e0⟩ := HX.out (by omega)
      obtain ⟨y, r, rp, rv, e1, hkb, hcr, hat, hrk, hrlc, hy, hr⟩ : ∃ y r rp rv, a' = .alt y r ∧ kb ≠ c.bt ∧ c.wT.cell? ⟨kb, ko + j, none⟩ = some rp ∧ AtD (fun b => b ≠ c.bt) c.wT rp rv ∧ rv.kind = 3 ∧ rv.kl ≤ rv.kc ∧ (trdD c y).row rv.kx rv.kl ∧ (trdD c r).ways (some ⟨kb, ko + j + 1, none⟩) (kl - j - 1) := by
        obtain ⟨x, hA, hxe⟩ := HA.out
        cases a' with
        | none => have : kl - j = 0 := hA; omega
        | alt y r =>
          obtain ⟨b', o, rp, rv, h1, h2, -, -, h3, h4, h5, h6, h7, h8⟩ := hA
          have h9 := hxe kb ko e0
          rw [h1] at h9
          obtain ⟨rfl, rfl⟩ : b' = kb ∧ o = ko + j := by simpa using h9
          exact ⟨y, r, rp, rv, rfl, h2, h3, h4, h5, h6, h7, h8⟩
        | _ => exact hA.elim
      obtain ⟨rb, rfl, hrb, hrv⟩ := hat
      subst e1
      subst e0
      have hcj := HIr.out.tree hcr hkb
      have HC := Lib.hid (rrun_row c y HR.out.1 rb rv hrv hrb hrk hrlc hy at' _ k n' g wr HIr.out ha (HK.out.later HT.out (Nat.le_refl _)))
      have HRR : Hid (∃ x, (trdD c r).ways x (kl - (j + 1)) ∧ (∀ kb' ko', some (⟨kb, ko, none⟩ : Addr) = some ⟨kb', ko', none⟩ → x = some ⟨kb', ko' + (j + 1), none⟩)) := Lib.hid ⟨some ⟨kb, ko + j + 1, none⟩, by rw [show kl - (j + 1) = kl - j - 1 by omega]; exact hr, fun kb' ko' h => by cases h; rw [Nat.add_assoc]⟩
      clear hr hy hcr hrv
      generalize hq : run (str c.s) c.B y at' k n' g = q at HC
      have HQ := Lib.hid hq; clear hq
      have hin : (j : Int) < (kl : Int) := by omega
      go_wp2_with fail
      refine HC.out.mono ?_
      intro e w' hG
      cases q with
      | over =>
        obtain ⟨rfl, hs, ht⟩ := hG
        have HE2 : Hid (GotR c w at' g (run (str c.s) c.B a at' k n g) (.returned (.int .i64 2)) w') := Lib.hid (by
          rw [HE.out]
          show GotR c w at' g (orElse (run (str c.s) c.B y at' k n' g) _) _ _
          rw [HQ.out]
          exact ⟨rfl, hs, HT.out.then ht⟩)
        clear hs ht
        go_wp2_with fail
        go_ret
        exact HE2.out
      | no n2 =>
        obtain ⟨rfl, hI2, ht⟩ := hG
        have HI2 := Lib.hid hI2; clear hI2
        have HT2 := Lib.hid (HT.out.then ht); clear ht
        go_wp2_with fail
        go_roundw
        case rel =>
          refine ⟨j + 1, n2, r, by go_num, by omega, HRR, ?_, HI2, HT2, Lib.hid HR.out.2⟩
          refine Lib.hid ?_
          rw [HE.out]
          show orElse (run (str c.s) c.B y at' k n' g) _ = _
          rw [HQ.out]; rfl
        case measure => simp [intOf]; omega
      | yes n2 h2 x2 =>
        obtain ⟨rfl, hI2, hH2, hlo, hsz, ht⟩ := hG
        have HE2 : Hid (GotR c w at' g (run (str c.s) c.B a at' k n g) (.returned (.int .i64 1)) w') := Lib.hid (by
          rw [HE.out]
          show GotR c w at' g (orElse (run (str c.s) c.B y at' k n' g) _) _ _
          rw [HQ.out]
          exact ⟨rfl, hI2, hH2, hlo, hsz, HT.out.then ht⟩)
        clear hI2 hH2 hlo hsz ht
        go_wp2_with fail
        go_ret
        exact HE2.out
    · go_wp2_with fail
      go_ret
      obtain ⟨x, hA, -⟩ := HA.out
      rw [HE.out, rdD_ways0 hA (by omega)]
      exact ⟨rfl, HIr.out, HT.out⟩

set_option maxRecDepth 100000 in
set_option maxHeartbeats 1000000 in
theorem rrun_plain (c : Cr) (a : Re) (hR : AllGo c a) (b : Nat) (v : NV) (hv : NodeB c.wT b v) (hb : b ≠ c.bt) (hk : v.kind = 6) (q : Value) (hkid : KidD (fun b => b ≠ c.bt) c.wT v q) (hq : EitherD (fun b => b ≠ c.bt) c.wT (trdD c a).ways q) : RunOK c (.pointer (some ⟨b, 0, none⟩)) (run (str c.s) c.B (.grp 0 a)) := by
  intro at' kv k n g w hI ha hK
  obtain ⟨kb, ko, hkx, hkl, hkc, hkb, hcell⟩ := hkid
  have k0 := (hI.node hv hb).c0
  rw [hk] at k0
  have k259 := (hI.node hv hb).c259
  rw [hkx, hkl] at k259
  have kq := hI.tree hcell hkb
  have HC := Lib.hid (rrun_either c a hR q hq at' kv k n g w hI ha hK)
  have HR : Hid (run (str c.s) c.B (.grp 0 a) at' k n g = run (str c.s) c.B a at' k n g) := Lib.hid (if_pos rfl)
  rw [← HR.out] at HC
  have hKx := hK
  obtain ⟨⟨z, rfl⟩, -⟩ := hKx
  obtain ⟨_, ⟨qb, rfl, -, -⟩, -⟩ := hq
  clear hI hK hR hv hcell
  go_enter Tryz.func53, Tryz.ntmps53
  go_wp2_with fail
  refine HC.out.mono ?_
  intro e w' hG
  have HG := Lib.hid hG
  have hc := hG.code
  subst hc
  clear hG
  go_wp2_with fail
  go_ret
  exact HG.out
end Go.Proofs.YtlgpilcjcomacaaGreat

/-
  The document's matcher at numbered groups.
-/
namespace Go.Proofs.YtlgpilcjcomacaaGreat
open Go.RowKit Rx
set_option linter.unusedVariables false
attribute [local go_sem ↓] Go.wp_at_zero Go.wp_at_succ

theorem IR.y0 {c : Cr} {n : Nat} {g : Grp} {w : World} (h : IR c n g w) {m : Nat} (hm : m < 10) : Holds w c.bt (3 + m * 2) (.int .i64 (g m).1) := by
  have := h.cg (2 * m) (by omega)
  rw [gv_even, Nat.mul_comm] at this
  exact this
theorem IR.y1 {c : Cr} {n : Nat} {g : Grp} {w : World} (h : IR c n g w) {m : Nat} (hm : m < 10) : Holds w c.bt (3 + m * 2 + 1) (.int .i64 (g m).2) := by
  have := h.cg (2 * m + 1) (by omega)
  rw [gv_odd, Nat.mul_comm] at this
  exact this
theorem IR.group2 {c : Cr} {n : Nat} {g : Grp} {w : World} (h : IR c n g w) (m : Nat) (hm : m < 10) (v1 v2 : Int) (hv : (v1, v2) = (-1, -1) ∨ (0 ≤ v1 ∧ v1 ≤ v2 ∧ v2 ≤ (c.s.size : Int))) :
    IR c n (upd g m (v1, v2)) ((w.setCell ⟨c.bt, 3 + m * 2, none⟩ (.int .i64 v1)).setCell ⟨c.bt, 3 + m * 2 + 1, none⟩ (.int .i64 v2)) := by
  have := h.group m hm (v1, v2) hv
  rw [Nat.mul_comm 2 m] at this
  exact this

set_option maxRecDepth 100000 in
set_option maxHeartbeats 2000000 in
theorem rgo_grp (c : Cr) (m : Nat) (hm : m ≤ 9) (b rb at0 : Nat) (v : NV) (hv : NodeB c.wT b v) (hb : b ≠ c.bt) (hnum : v.num = (m : Int)) (fr : Int) (kv : Value) (k : K) (lo : Nat) (w0 : World) (hR : RestC w0 rb (.pointer (some ⟨b, 0, none⟩)) 5 (at0 : Int) fr kv) (hrb : rb ≠ c.bt) (hlo : at0 ≤ lo) (hK : KR c kv k lo w0) :
    KR c (.pointer (some ⟨rb, 0, none⟩)) (fun e n g => k e n (upd g m ((at0 : Int), (e : Int)))) lo w0 := by
  refine ⟨⟨_, rfl⟩, fun w at' n g t hI h1 h2 => ?_⟩
  have hKx := hK
  obtain ⟨⟨z, rfl⟩, -⟩ := hKx
  have hr := hR.keep t hrb
  obtain ⟨r0, r1, r2, r3, r4⟩ := hr
  have k258 := (hI.node hv hb).c258
  rw [hnum] at k258
  have y0 := (hI.y0 (m := m) (by omega)).1
  have y1 := (hI.y1 (m := m) (by omega)).1
  have HGI := Lib.hid (hI.gi m)
  have hmi : (m : Int) < 10 := by omega
  have HB : Hid (rb ≠ c.bt ∧ b ≠ c.bt ∧ w.heap.size ≠ c.bt ∧ rb < w.heap.size) := Lib.hid ⟨hrb, hb, by have := hI.lt; omega, block_lt_of_cell r0⟩
  have HI := Lib.hid hI
  have HK := Lib.hid hK
  have HT := Lib.hid t
  obtain ⟨v1, hv1⟩ : ∃ v1, (g m).1 = v1 := ⟨_, rfl⟩
  obtain ⟨v2, hv2⟩ : ∃ v2, (g m).2 = v2 := ⟨_, rfl⟩
  rw [hv1] at y0
  rw [hv2] at y1
  have HV : Hid (g m = (v1, v2)) := Lib.hid (by rw [← hv1, ← hv2])
  clear hv1 hv2 hI hv hR hK t hnum r3
  show Calls Tryz.prog 75 _ w (GotR c w at' g (k at' n (upd g m ((at0 : Int), (at' : Int)))))
  obtain ⟨q, hq⟩ : ∃ q, k at' n (upd g m ((at0 : Int), (at' : Int))) = q := ⟨_, rfl⟩
  have HQ := Lib.hid hq
  rw [hq]
  clear hq
  go_enter Tryz.func75, Tryz.ntmps75
  go_wp2_with fail
  go_region_held3 (fun w' => w'.cell? ⟨rb, 0, none⟩ = some (.pointer (some ⟨b, 0, none⟩)) ∧ w'.cell? ⟨b, 258, none⟩ = some (.int .i64 (m : Int)) ∧ w'.cell? ⟨c.bt, 3 + m * 2, none⟩ = some (.int .i64 v1) ∧ w'.cell? ⟨c.bt, 3 + m * 2 + 1, none⟩ = some (.int .i64 v2)) (go_keep) (first | fail)
  rename_i hS6
  clear hS6
  have T6 : Still w (w.alloc (.cells #[.int .i64 v1, .int .i64 v2] 39)).drew := ((Touch.refl _ _).alloc _).drew
  have z0 : (w.alloc (.cells #[.int .i64 v1, .int .i64 v2] 39)).drew.cell? ⟨w.heap.size, 0, none⟩ = some (.int .i64 v1) := by simp [go_sem]
  have z1 : (w.alloc (.cells #[.int .i64 v1, .int .i64 v2] 39)).drew.cell? ⟨w.heap.size, 1, none⟩ = some (.int .i64 v2) := by simp [go_sem]
  generalize (w.alloc (.cells #[.int .i64 v1, .int .i64 v2] 39)).drew = w6 at *
  have r0 := T6.has r0 id
  have r2 := T6.has r2 id
  have r4 := T6.has r4 id
  have k258 := T6.has k258 id
  have HI6 := Lib.hid (HI.out.keep T6)
  have x0 := HI6.out.y0 (m := m) (by omega)
  have x1 := HI6.out.y1 (m := m) (by omega)
  obtain ⟨x0, xf0⟩ := x0
  obtain ⟨x1, xf1⟩ := x1
  rw [HV.out] at x0 x1
  simp only at x0 x1
  have HT6 : Hid (Touch (fun b => b = c.bt) w w6) := Lib.hid (T6.mono (fun _ _ e => e.elim))
  obtain ⟨w7, hw7⟩ : ∃ w7, ((w6.setCell ⟨c.bt, 3 + m * 2, none⟩ (.int .i64 (at0 : Int))).setCell ⟨c.bt, 3 + m * 2 + 1, none⟩ (.int .i64 (at' : Int))).drew = w7 := ⟨_, rfl⟩
  have T7 : Touch (fun i => i = c.bt) w6 w7 := by rw [← hw7]; exact ((Touch.setCell (Touch.setCell (Touch.refl (fun i => i = c.bt) w6) (.inl rfl) _) (.inl rfl) _).drew)
  have hI7 := (HI6.out.group2 m (by omega) (at0 : Int) (at' : Int) (.inr ⟨by omega, by omega, by omega⟩)).keep (Touch.refl _ _).drew
  rw [hw7] at hI7
  have g0 := T7.has r0 HB.out.1
  have g4 := T7.has r4 HB.out.1
  have gk := T7.has k258 HB.out.2.1
  have gz0 := T7.has z0 HB.out.2.2.1
  have gz1 := T7.has z1 HB.out.2.2.1
  have HT7 : Hid (Touch (fun b => b = c.bt) w w7) := Lib.hid (HT6.out.then T7)
  have HI7 := Lib.hid hI7
  have HKK := Lib.hid (HK.out.2 w7 at' n _ (HT.out.then HT7.out) HI7.out h1 h2)
  rw [HQ.out] at HKK
  clear T6 y0 y1 T7 hI7
  go_wp2_with fail
  go_still_tail 17, (by kernel_rfl)
  change wpList _ _ _ _ _ (World.drew _)
  go_wp2_with fail
  clear hw7 x0 x1 xf0 xf1
  refine HKK.out.mono ?_
  intro e w8 hG
  clear HKK
  cases q with
  | over =>
    obtain ⟨rfl, hs, ht⟩ := hG
    have HS := Lib.hid hs
    have HT8 := Lib.hid (HT7.out.then ht)
    clear hs ht
    go_wp2_with fail
    go_ret
    exact ⟨rfl, HS.out, HT8.out⟩
  | yes n3 h3' x3 =>
    obtain ⟨rfl, hI3, hH3, hlo3, hsz3, ht⟩ := hG
    have HI8 := Lib.hid hI3
    have HH8 := Lib.hid hH3
    have HT8 := Lib.hid (HT7.out.then ht)
    clear hI3 hH3 ht
    go_wp2_with fail
    go_ret
    exact ⟨rfl, HI8.out, HH8.out, hlo3, hsz3, HT8.out⟩
  | no n3 =>
    obtain ⟨rfl, hI8, ht⟩ := hG
    have g0 := ht.has g0 HB.out.1
    have gk := ht.has gk HB.out.2.1
    have gz0 := ht.has gz0 HB.out.2.2.1
    have gz1 := ht.has gz1 HB.out.2.2.1
    have x0 := hI8.y0 (m := m) (by omega)
    have x1 := hI8.y1 (m := m) (by omega)
    obtain ⟨x0, xf0⟩ := x0
    obtain ⟨x1, xf1⟩ := x1
    obtain ⟨w9, hw9⟩ : ∃ w9, ((w8.setCell ⟨c.bt, 3 + m * 2, none⟩ (.int .i64 v1)).setCell ⟨c.bt, 3 + m * 2 + 1, none⟩ (.int .i64 v2)).drew = w9 := ⟨_, rfl⟩
    have T9 : Touch (fun i => i = c.bt) w8 w9 := by rw [← hw9]; exact ((Touch.setCell (Touch.setCell (Touch.refl (fun i => i = c.bt) w8) (.inl rfl) _) (.inl rfl) _).drew)
    have hI9 := (hI8.group2 m (by omega) v1 v2 (by have h := HGI.out; rw [HV.out] at h; exact h)).keep (Touch.refl _ _).drew
    rw [← HV.out, upd_back, hw9] at hI9
    have HI9 := Lib.hid hI9
    have HT9 : Hid (Touch (fun b => b = c.bt) w w9) := Lib.hid ((HT7.out.then ht).then T9)
    clear hI8 ht T9 hI9
    go_wp2_with fail
    go_still_tail 12, (by kernel_rfl)
    change wpList _ _ _ _ _ (World.drew _)
    go_wp2_with fail
    go_ret
    exact ⟨rfl, HI9.out, HT9.out⟩

set_option maxRecDepth 100000 in
set_option maxHeartbeats 1000000 in
theorem rrun_grp (c : Cr) (m : Nat) (hm0 : m ≠ 0) (hm : m ≤ 9) (a : Re) (hR : AllGo c a) (b : Nat) (v : NV) (hv : NodeB c.wT b v) (hb : b ≠ c.bt) (hk : v.kind = 5) (hnum : v.num = (m : Int)) (q : Value) (hkid : KidD (fun b => b ≠ c.bt) c.wT v q) (hq : EitherD (fun b => b ≠ c.bt) c.wT (trdD c a).ways q) : RunOK c (.pointer (some ⟨b, 0, none⟩)) (run (str c.s) c.B (.grp m a)) := by
  intro at' kv k n g w hI ha hK
  obtain ⟨kb, ko, hkx, hkl, hkc, hkb, hcell⟩ := hkid
  have k0 := (hI.node hv hb).c0
  rw [hk] at k0
  have k259 := (hI.node hv hb).c259
  rw [hkx, hkl] at k259
  have kq := hI.tree hcell hkb
  have hKx := hK
  obtain ⟨⟨z, rfl⟩, -⟩ := hKx
  have hlt := hI.lt
  have t1 : Still w (w.alloc (.cells #[.pointer (some ⟨b, 0, none⟩), .int .i64 5, .int .i64 (at' : Int), .int .i64 0, .pointer z] 144)) := (Touch.refl _ _).alloc _
  have hK1 := rgo_grp c m hm b w.heap.size at' v hv hb hnum 0 _ k at' _ (RestC.made w (.pointer (some ⟨b, 0, none⟩)) 5 (at' : Int) 0 (.pointer z)) (by omega) (Nat.le_refl _) (hK.later (t1.mono (fun _ _ e => e.elim)) (Nat.le_refl _))
  have HC := Lib.hid (rrun_either c a hR q hq at' _ _ n g _ (hI.keep t1) ha hK1)
  have HR : Hid (run (str c.s) c.B (.grp m a) at' k n g = run (str c.s) c.B a at' (fun e n g => k e n (upd g m ((at' : Int), (e : Int)))) n g) := Lib.hid (if_neg hm0)
  rw [← HR.out] at HC
  have HT : Hid (Touch (fun b => b = c.bt) w _) := Lib.hid (t1.mono (fun _ _ e => e.elim))
  obtain ⟨_, ⟨qb, rfl, -, -⟩, -⟩ := hq
  clear hI hK hR hv hcell hK1 t1 hm0
  go_enter Tryz.func53, Tryz.ntmps53
  go_wp2_with fail
  refine HC.out.mono ?_
  intro e w' hG
  have HG := Lib.hid (hG.from HT.out (Nat.le_refl _))
  have hc := hG.code
  subst hc
  clear hG
  go_wp2_with fail
  go_ret
  exact HG.out
end Go.Proofs.YtlgpilcjcomacaaGreat
