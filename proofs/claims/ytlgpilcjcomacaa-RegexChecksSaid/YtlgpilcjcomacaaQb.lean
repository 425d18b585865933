/-
  The program's Match.
-/
import Derived.Test.YtlgpilcjcomacaaQa
namespace Go.Proofs.Ytlgpilcjcomacaa
open Go.RowKit Rx
set_option linter.unusedVariables false

/-- What Match gives, by what the try gives. -/
def MatchR (G : Nat) (w : World) : Res → Ending → World → Prop
  | .over, e, w' => e = .returned (.tuple #[.agg #[.slice none 0 0, .int .i64 0], .int .i64 12]) ∧ Still w w'
  | .no _, e, w' => e = .returned (.tuple #[.agg #[.slice none 0 0, .int .i64 0], .int .i64 3]) ∧ Still w w'
  | .yes n g x, e, w' => ∃ bg T, e = .returned (.tuple #[.agg #[.slice (some ⟨bg, 0, none⟩) (G + 1) (G + 1), .int .i64 (n : Int)], .int .i64 0]) ∧ w.heap.size ≤ bg ∧ w'.heap[bg]? = some (.cells (gl G g).toArray T (0, 0)) ∧ G ≤ 9 ∧ n ≤ 1000000 ∧ Still w w'
def MatchP (t : ByteArray) (fr0 bu : Int) (w : World) : Option (Re × Nat) → Ending → World → Prop
  | none, e, w' => e = .returned (.tuple #[.agg #[.slice none 0 0, .int .i64 0], .int .i64 4]) ∧ Still w w'
  | some (a, G), e, w' => (askOK t.size fr0 bu = false ∧ e = .returned (.tuple #[.agg #[.slice none 0 0, .int .i64 0], .int .i64 1]) ∧ Still w w') ∨
      (askOK t.size fr0 bu = true ∧ MatchR G w (fr (str t) bu.toNat (.grp 0 a) false fr0.toNat 0) e w')

theorem enters_match1 (args : Array Value) (w : World) : (callFunc 30 args).run Try.prog w = .ok (.enter 30 args) w :=
  enters_of Try.func30 (by kernel_rfl) rfl args w

/-- The world at Match's try. -/
abbrev mW (w1 : World) (b G : Nat) (t : ByteArray) (bu : Int) : World := ((((w1.alloc (.cells #[.pointer (some ⟨b, 0, none⟩)] 61)).alloc (.cells #[.int .i64 (G : Int)] 3)).alloc (.cells #[.string t, .int .i64 0, .int .i64 bu, .slice none 0 0] 66)).alloc (.cells #[.pointer (some ⟨w1.heap.size + 1 + 1, 0, none⟩)] 64)).alloc (.cells #[.bool false] 4)

theorem mW_still (w1 : World) (b G : Nat) (t : ByteArray) (bu : Int) : Still w1 (mW w1 b G t bu) := (((((Touch.refl _ w1).alloc _).alloc _).alloc _).alloc _).alloc _
theorem mW_size (w1 : World) (b G : Nat) (t : ByteArray) (bu : Int) : (mW w1 b G t bu).heap.size = w1.heap.size + 5 := by simp
structure mC (w1 : World) (b G : Nat) (t : ByteArray) (bu : Int) (w : World) : Prop where
  n0 : w.cell? ⟨w1.heap.size, 0, none⟩ = some (.pointer (some ⟨b, 0, none⟩))
  q0 : w.cell? ⟨w1.heap.size + 1, 0, none⟩ = some (.int .i64 (G : Int))
  m0 : w.cell? ⟨w1.heap.size + 1 + 1, 0, none⟩ = some (.string t)
  m1 : Holds w (w1.heap.size + 1 + 1) 1 (.int .i64 (0 : Nat))
  m2 : w.cell? ⟨w1.heap.size + 1 + 1, 2, none⟩ = some (.int .i64 bu)
  m3 : Holds w (w1.heap.size + 1 + 1) 3 (.slice none 0 0)
  p0 : w.cell? ⟨w1.heap.size + 1 + 1 + 1, 0, none⟩ = some (.pointer (some ⟨w1.heap.size + 1 + 1, 0, none⟩))
  r0 : Holds w (w1.heap.size + 1 + 1 + 1 + 1) 0 (.bool false)
theorem mW_cells (w1 : World) (b G : Nat) (t : ByteArray) (bu : Int) : mC w1 b G t bu (mW w1 b G t bu) := by
  refine ⟨?_, ?_, ?_, ⟨?_, ?_⟩, ?_, ⟨?_, ?_⟩, ?_, ⟨?_, ?_⟩⟩
  all_goals simp [go_sem]
theorem mC.keep {w1 : World} {b G : Nat} {t : ByteArray} {bu : Int} {w w' : World} (h : mC w1 b G t bu w) (ht : Still w w') : mC w1 b G t bu w' :=
  ⟨ht.has h.n0 id, ht.has h.q0 id, ht.has h.m0 id, h.m1.keep ht id, ht.has h.m2 id, h.m3.keep ht id, ht.has h.p0 id, h.r0.keep ht id⟩

/-- What the try leaves: over, or what the answer's cell says. -/
def MTry (c : Cx) (wA : World) (r0 lo : Nat) (rr : Res) (b : Bool) (w' : World) : Prop :=
  TriedP c wA r0 lo rr (if b then .panicked [{ v := .iface 112 (.agg #[]), recovered := false }] else .returned (.tuple #[])) w'

theorem TriedP.both {c : Cx} {w : World} {r0 lo : Nat} {rr : Res} {e : Ending} {w' : World} (h : TriedP c w r0 lo rr e w') : (e = .returned (.tuple #[]) ∧ MTry c w r0 lo rr false w') ∨ (e = .panicked [{ v := .iface 112 (.agg #[]), recovered := false }] ∧ MTry c w r0 lo rr true w') := by
  cases rr with
  | over => obtain ⟨rfl, h2⟩ := h; exact .inr ⟨rfl, rfl, h2⟩
  | no n => obtain ⟨rfl, h2⟩ := h; exact .inl ⟨rfl, rfl, h2⟩
  | yes n g x => obtain ⟨rfl, h2⟩ := h; exact .inl ⟨rfl, rfl, h2⟩
/-- Only the matcher's block, the answer's, and new ones have turned. -/
theorem TriedP.touch {c : Cx} {w : World} {r0 lo : Nat} {rr : Res} {e : Ending} {w' : World} (h : TriedP c w r0 lo rr e w') : Touch (fun b => b = c.bm ∨ b = r0) w w' := by
  cases rr with
  | over => exact h.2.mono (fun _ _ e => .inl e)
  | no n => obtain ⟨-, -, w1, ⟨-, -, h1⟩, h2⟩ := h; exact (h1.mono (fun _ _ e => .inl e)).trans h2 (fun _ e => .inl (.inr e))
  | yes n g x => obtain ⟨-, -, w1, ⟨-, -, -, h1⟩, h2⟩ := h; exact (h1.mono (fun _ _ e => .inl e)).trans h2 (fun _ e => .inl (.inr e))

set_option maxRecDepth 100000 in
set_option maxHeartbeats 8000000 in
theorem match_any (s t : ByteArray) (fr0 bu : Int) (w : World) :
    Calls Try.prog 13 #[.string s, .string t, .int .i64 fr0, .int .i64 bu] w (MatchP t fr0 bu w (readP (str s))) := by
  have hmf : ∀ (fn : Fn) (first cap : Array Value) (w : World), (Instr.makeFunc fn first cap).run Try.prog w = .ok (.func fn first cap) w := fun _ _ _ _ => rfl
  obtain ⟨w2, hw2⟩ : ∃ w2, (w.alloc (.cells #[.int .i64 fr0] 3)).alloc (.cells #[.slice none 0 0, .int .i64 0] 32) = w2 := ⟨_, rfl⟩
  have HT2 : Hid (Still w w2) := Lib.hid (by rw [← hw2]; exact ((Touch.refl _ w).alloc _).alloc _)
  have HZ2 : Hid (w2.heap.size = w.heap.size + 1 + 1) := Lib.hid (by rw [← hw2]; simp)
  have HC0 : Hid (Holds w2 w.heap.size 0 (.int .i64 fr0)) := Lib.hid (by rw [← hw2]; exact (Holds.made w #[.int .i64 fr0] 3 0 _ rfl).alloc _)
  have HC1 : Hid (Holds w2 (w.heap.size + 1) 0 (.slice none 0 0) ∧ Holds w2 (w.heap.size + 1) 1 (.int .i64 0)) := Lib.hid (by rw [← hw2]; exact ⟨by simpa using Holds.made (w.alloc (.cells #[.int .i64 fr0] 3)) #[.slice none 0 0, .int .i64 0] 32 0 _ rfl, by simpa using Holds.made (w.alloc (.cells #[.int .i64 fr0] 3)) #[.slice none 0 0, .int .i64 0] 32 1 _ rfl⟩)
  have h0 := asked_any s t fr0 bu w2
  have HF := Lib.hid (fun a G (h : readP (str s) = some (a, G)) => read_fit h)
  have hfr := HC0.out.1
  generalize readP (str s) = rr at h0 HF ⊢
  have HA := Lib.hid h0
  clear h0
  go_enter Try.func13, Try.ntmps13
  go_wp2_with fail
  refine HA.out.mono ?_
  intro e w1 hG
  clear HA hw2 hfr
  have early : ∀ (pv gv : Value) (w3 : World), (w1.alloc (.cells #[pv] 61)).alloc (.cells #[gv] 3) = w3 → Still w2 w1 → Still w w3 ∧ Holds w3 (w.heap.size + 1) 0 (.slice none 0 0) ∧ Holds w3 (w.heap.size + 1) 1 (.int .i64 0) := by
    intro pv gv w3 h ht
    have t13 : Still w1 w3 := by rw [← h]; exact ((Touch.refl _ w1).alloc _).alloc _
    exact ⟨(HT2.out.then ht).then t13, (HC1.out.1.keep ht id).keep t13 id, (HC1.out.2.keep ht id).keep t13 id⟩
  have HEARLY := Lib.hid early
  clear early
  cases rr with
  | none =>
    obtain ⟨rfl, ht⟩ := hG
    go_upto_region 3 with fail
    generalize hw3 : (w1.alloc (.cells #[.pointer none] 61)).alloc (.cells #[.int .i64 0] 3) = w3
    obtain ⟨hT3, hx0, hx1⟩ := HEARLY.out _ _ w3 hw3 ht
    have HT3 := Lib.hid hT3
    have HX0 := Lib.hid hx0; have HX1 := Lib.hid hx1
    obtain ⟨hx0, hf0⟩ := hx0
    obtain ⟨hx1, hf1⟩ := hx1
    clear ht hT3 hw3
    go_wp2_with fail
    try simp only [Exit.inBlock, Exit.then]
    refine bodyPost_ret (v := .tuple #[.agg #[.slice none 0 0, .int .i64 0], .int .i64 4]) ?_ rfl ?_
    · simp [results, Try.results13, go_sem, hx0, hx1]
    · refine ⟨rfl, (HT3.out.trans (S1 := fun b => w.heap.size ≤ b) ?_ (fun i e => .inr e))⟩
      exact Touch.setCell (Touch.setCell (Touch.refl (fun b => w.heap.size ≤ b) w3) (.inl (Nat.le_succ _)) _) (.inl (Nat.le_succ _)) _
  | some x =>
    obtain ⟨a, G⟩ := x
    rcases hG with ⟨hok, rfl, ht⟩ | ⟨hok, b, rfl, ht, hrd, hg9⟩
    · have HOK := Lib.hid hok
      go_upto_region 3 with fail
      generalize hw3 : (w1.alloc (.cells #[.pointer none] 61)).alloc (.cells #[.int .i64 0] 3) = w3
      obtain ⟨hT3, hx0, hx1⟩ := HEARLY.out _ _ w3 hw3 ht
      have HT3 := Lib.hid hT3
      have HX0 := Lib.hid hx0; have HX1 := Lib.hid hx1
      obtain ⟨hx0, hf0⟩ := hx0
      obtain ⟨hx1, hf1⟩ := hx1
      clear ht hT3 hok hw3
      go_wp2_with fail
      try simp only [Exit.inBlock, Exit.then]
      refine bodyPost_ret (v := .tuple #[.agg #[.slice none 0 0, .int .i64 0], .int .i64 1]) ?_ rfl ?_
      · simp [results, Try.results13, go_sem, hx0, hx1]
      · refine .inl ⟨HOK.out, rfl, (HT3.out.trans (S1 := fun b => w.heap.size ≤ b) ?_ (fun i e => .inr e))⟩
        exact Touch.setCell (Touch.setCell (Touch.refl (fun b => w.heap.size ≤ b) w3) (.inl (Nat.le_succ _)) _) (.inl (Nat.le_succ _)) _
    · have HOK := Lib.hid hok
      have hin : t.size ≤ 5000 ∧ 0 ≤ fr0 ∧ fr0 ≤ (t.size : Int) ∧ 0 ≤ bu ∧ bu ≤ 1000000 := of_decide_eq_true hok
      obtain ⟨i1, i2, i3, i4, i5⟩ := hin
      obtain ⟨lo, rfl⟩ := Int.eq_ofNat_of_zero_le i2
      obtain ⟨B, rfl⟩ := Int.eq_ofNat_of_zero_le i4
      have HIN : Hid (t.size ≤ 5000 ∧ lo ≤ t.size ∧ B ≤ 1000000) := Lib.hid ⟨i1, by omega, by omega⟩
      obtain ⟨w6, hw6⟩ : ∃ w6, mW w1 b G t (B : Int) = w6 := ⟨_, rfl⟩
      have HC6 : Hid (mC w1 b G t (B : Int) w6) := Lib.hid (by rw [← hw6]; exact mW_cells _ _ _ _ _)
      have HT6 : Hid (Still w1 w6) := Lib.hid (by rw [← hw6]; exact mW_still _ _ _ _ _)
      have HZ6 : Hid (w6.heap.size = w1.heap.size + 5) := Lib.hid (by rw [← hw6]; exact mW_size _ _ _ _ _)
      have HT1 := Lib.hid ht
      have HX0 := Lib.hid (HC0.out.keep ht id)
      have HX := Lib.hid (And.intro (HC1.out.1.keep ht id) (HC1.out.2.keep ht id))
      have HFIT := HF.out a G rfl
      have HRD := Lib.hid (((rd_mono (F := FP w2.heap.size w1.heap.size) (F' := fun b => b ≠ w1.heap.size + 1 + 1) (fun b hb => by have := hb.2; omega) (fun b o v _ h => h) (.grp 0 a)).1 _ hrd))
      have HRD2 := Lib.hid ((rd_fit (.grp 0 a) HFIT).1 _ HRD.out)
      have HW6 := Lib.hid hw6
      clear hw6
      have HG9 := Lib.hid hg9
      clear ht hrd HRD HFIT HF i1 i2 i3 i4 i5 hok hg9 HEARLY
      have HCALL : Hid (Calls Try.prog 29 #[.func (.func 30) #[] #[.pointer (some ⟨w1.heap.size + 1 + 1 + 1, 0, none⟩), .pointer (some ⟨w1.heap.size, 0, none⟩), .pointer (some ⟨w1.heap.size + 1, 0, none⟩), .pointer (some ⟨w.heap.size, 0, none⟩), .pointer (some ⟨w1.heap.size + 1 + 1 + 1 + 1, 0, none⟩)]] (mW w1 b G t (B : Int))
          fun e w' => ∃ b w9, e = .returned (.bool b) ∧ MTry ⟨w1.heap.size + 1 + 1, 0, G, B, t, w1⟩ (w6.alloc (.cells #[.bool false] 4)) (w1.heap.size + 1 + 1 + 1 + 1) lo (fr (str t) B (.grp 0 a) false lo 0) b w9 ∧ Touch (fun i => i = w6.heap.size) w9 w') := Lib.hid (by
        rw [HW6.out]
        refine caught_any _ _ enters_match1 (MTry ⟨w1.heap.size + 1 + 1, 0, G, B, t, w1⟩ (w6.alloc (.cells #[.bool false] 4)) (w1.heap.size + 1 + 1 + 1 + 1) lo (fr (str t) B (.grp 0 a) false lo 0)) w6 ?_
        have tA : Still w6 (w6.alloc (.cells #[.bool false] 4)) := (Touch.refl _ _).alloc _
        have hcA := HC6.out.keep tA
        have hMB : MB ⟨w1.heap.size + 1 + 1, 0, G, B, t, w1⟩ 0 (w6.alloc (.cells #[.bool false] 4)) :=
          ⟨hcA.m0, hcA.m1, hcA.m2, ⟨_, hcA.m3⟩, Nat.zero_le _, HIN.out.2.2, HG9.out, HIN.out.1, (HT6.out.then tA).mono (fun _ _ e => e.elim)⟩
        refine (match1_any ⟨w1.heap.size + 1 + 1, 0, G, B, t, w1⟩ (.grp 0 a) _ HRD2.out ⟨_, rfl⟩ lo 0 _ HIN.out.2.1 hMB _ _ _ _ _ hcA.p0 hcA.n0 hcA.q0 ((HX0.out.keep HT6.out id).keep tA id).1 hcA.r0 (by show w1.heap.size + 1 + 1 + 1 + 1 ≠ w1.heap.size + 1 + 1; omega)).mono ?_
        intro e w' h
        refine ⟨h.both, ?_⟩
        have h6 := HZ6.out
        exact (Holds.made w6 #[.bool false] 4 0 _ rfl).keep h.touch (fun e => by
          rcases e with e | e
          · have e : w6.heap.size = w1.heap.size + 1 + 1 := e
            omega
          · omega))
      clear HRD2
      go_wp2_with fail
      refine HCALL.out.mono ?_
      clear HW6 HCALL
      rintro e w8 ⟨bb, w9, rfl, hM, ht9⟩
      have hz2 := HZ2.out
      have hz6 := HZ6.out
      have ht1 := HT1.out
      have hts := ht1.size
      have hmid : Still w1 w8 := by
        have tA : Still w6 (w6.alloc (.cells #[.bool false] 4)) := (Touch.refl _ _).alloc _
        refine ((HT6.out.then tA).trans hM.touch (fun i e => .inr ?_)).trans ht9 (fun i e => .inr (by omega))
        rcases e with e | e
        · have e : i = w1.heap.size + 1 + 1 := e
          omega
        · omega
      have hall : Still w w8 := (HT2.out.then ht1).then hmid
      have hx := HX.out.1.keep hmid id
      have hy := HX.out.2.keep hmid id
      have HALL := Lib.hid hall
      have HMID := Lib.hid hmid
      have HXX := Lib.hid (And.intro hx hy)
      obtain ⟨hx, hxf⟩ := hx
      obtain ⟨hy, hyf⟩ := hy
      have HRR : Hid (∀ e w', MatchR G w (fr (str t) B (.grp 0 a) false lo 0) e w' → MatchP t (lo : Int) (B : Int) w (some (a, G)) e w') := Lib.hid (fun e w' h => .inr ⟨HOK.out, by simpa using h⟩)
      clear hall hmid
      generalize fr (str t) B (.grp 0 a) false lo 0 = rr at hM HRR
      cases rr with
      | over =>
        obtain ⟨he, -⟩ := hM
        cases bb with
        | false => cases he
        | true =>
          clear he ht9
          go_wp2_with fail
          try simp only [Exit.inBlock, Exit.then]
          refine bodyPost_ret (v := .tuple #[.agg #[.slice none 0 0, .int .i64 0], .int .i64 12]) ?_ rfl ?_
          · simp [results, Try.results13, go_sem, hx, hy]
          · refine HRR.out _ _ ⟨rfl, (HALL.out.trans (S1 := fun b => w.heap.size ≤ b) ?_ (fun i e => .inr e))⟩
            exact Touch.setCell (Touch.setCell (Touch.refl (fun b => w.heap.size ≤ b) w8) (.inl (Nat.le_succ _)) _) (.inl (Nat.le_succ _)) _
      | no n1 =>
        obtain ⟨he, hr, -⟩ := hM
        cases bb with
        | true => cases he
        | false =>
          have hr8 := (hr.keep ht9 (by omega)).1
          clear he ht9 hr
          go_wp2_with fail
          try simp only [Exit.inBlock, Exit.then]
          refine bodyPost_ret (v := .tuple #[.agg #[.slice none 0 0, .int .i64 0], .int .i64 3]) ?_ rfl ?_
          · simp [results, Try.results13, go_sem, hx, hy]
          · refine HRR.out _ _ ⟨rfl, (HALL.out.trans (S1 := fun b => w.heap.size ≤ b) ?_ (fun i e => .inr e))⟩
            exact Touch.setCell (Touch.setCell (Touch.refl (fun b => w.heap.size ≤ b) w8) (.inl (Nat.le_succ _)) _) (.inl (Nat.le_succ _)) _
      | yes n1 g x =>
        obtain ⟨he, hr, wf, ⟨-, ⟨bg, hbg, be, hI⟩, -, tf⟩, tr⟩ := hM
        cases bb with
        | true => cases he
        | false =>
          have hr8 := (hr.keep ht9 (by omega)).1
          have hbg' : w1.heap.size + 5 ≤ bg := by
            have : (w6.alloc (.cells #[.bool false] 4)).heap.size = w6.heap.size + 1 := by simp
            omega
          have hsz := hI.ltg
          have hne : bg ≠ w6.heap.size := by
            have : (w6.alloc (.cells #[.bool false] 4)).heap.size = w6.heap.size + 1 := by simp
            omega
          have hp : w8.cell? ⟨w1.heap.size + 1 + 1 + 1, 0, none⟩ = some (.pointer (some ⟨w1.heap.size + 1 + 1, 0, none⟩)) := by
            have h1 := (HC6.out.keep ((Touch.refl (fun _ => False) _).alloc (.cells #[.bool false] 4))).p0
            exact ht9.has (tr.has (tf.has h1 (by show w1.heap.size + 1 + 1 + 1 ≠ w1.heap.size + 1 + 1; omega)) (by show w1.heap.size + 1 + 1 + 1 ≠ w1.heap.size + 1 + 1 + 1 + 1; omega)) (by show w1.heap.size + 1 + 1 + 1 ≠ w6.heap.size; omega)
          have hm3 : w8.cell? ⟨w1.heap.size + 1 + 1, 3, none⟩ = some (.slice (some ⟨bg, 0, none⟩) (G + 1) (G + 1)) := ht9.has (tr.has hI.c3 (by show w1.heap.size + 1 + 1 ≠ w1.heap.size + 1 + 1 + 1 + 1; omega)) (by show w1.heap.size + 1 + 1 ≠ w6.heap.size; omega)
          have hm1 : w8.cell? ⟨w1.heap.size + 1 + 1, 1, none⟩ = some (.int .i64 (n1 : Int)) := ((hI.c1.keep tr (by show w1.heap.size + 1 + 1 ≠ w1.heap.size + 1 + 1 + 1 + 1; omega)).keep ht9 (by show w1.heap.size + 1 + 1 ≠ w6.heap.size; omega)).1
          have HGB : Hid (∃ T, w8.heap[bg]? = some (.cells (gl G g).toArray T (0, 0))) := Lib.hid (by
            obtain ⟨T, hb⟩ := hI.gb
            have l1 := hI.ltg
            have h1 : w9.heap[bg]? = wf.heap[bg]? := tr.block bg l1 (by omega)
            exact ⟨T, (ht9.block bg (Nat.lt_of_lt_of_le l1 tr.size) hne).trans (h1.trans hb)⟩)
          have HNB : Hid (n1 ≤ 1000000) := Lib.hid (Nat.le_trans hI.nB hI.lB)
          clear he ht9 hr tf tr hI
          go_wp2_with fail
          go_region
          go_wp2_with fail
          try simp only [Exit.inBlock, Exit.then]
          refine bodyPost_ret (v := .tuple #[.agg #[.slice (some ⟨bg, 0, none⟩) (G + 1) (G + 1), .int .i64 (n1 : Int)], .int .i64 0]) ?_ rfl ?_
          · simp [results, Try.results13, go_sem, hx, hy]
          · obtain ⟨T, hT⟩ := HGB.out
            have tw : Touch (fun b => b = w.heap.size + 1) w8 (((w8.setCell ⟨w.heap.size + 1, 0, none⟩ (.slice (some ⟨bg, 0, none⟩) (G + 1) (G + 1))).setCell ⟨w.heap.size + 1, 1, none⟩ (.int .i64 (n1 : Int))).drew) := (Touch.setCell (Touch.setCell (Touch.refl (fun b => b = w.heap.size + 1) w8) (.inl rfl) _) (.inl rfl) _).drew
            refine HRR.out _ _ ⟨bg, T, rfl, by omega, (tw.block bg (Array.getElem?_eq_some_iff.1 hT).1 (by omega)).trans hT, HG9.out, HNB.out, HALL.out.trans tw (fun i e => .inr (by omega))⟩
end Go.Proofs.Ytlgpilcjcomacaa
