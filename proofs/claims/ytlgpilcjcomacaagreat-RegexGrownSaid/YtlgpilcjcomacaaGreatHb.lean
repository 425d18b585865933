/-
  The program's Whole.
-/
import Derived.Test.YtlgpilcjcomacaaGreatHa
namespace Go.Proofs.YtlgpilcjcomacaaGreat
open Go.RowKit Rx
set_option linter.unusedVariables false

set_option maxRecDepth 100000 in
theorem whole1_any (c : Cx) (a : Re) (p : Value) (hp : (trd c a).node p) (hpp : ∃ x, p = .pointer x) (n : Nat) (w : World) (h : MB c n w) (m0 n0 q0 r0 : Nat) (k0 : w.cell? ⟨m0, 0, none⟩ = some (.pointer (some ⟨c.bm, 0, none⟩))) (k1 : w.cell? ⟨n0, 0, none⟩ = some p) (k2 : w.cell? ⟨q0, 0, none⟩ = some (.int .i64 (c.G : Int))) (k4 : Holds w r0 0 (.bool false)) (hr : r0 ≠ c.bm) :
    Calls Tryz.prog 39 #[.pointer (some ⟨m0, 0, none⟩), .pointer (some ⟨n0, 0, none⟩), .pointer (some ⟨q0, 0, none⟩), .pointer (some ⟨r0, 0, none⟩)] w (TriedP c w r0 0 (fr (str c.s) c.B a true 0 n)) := by
  have h0 := find_any c a p hp true 0 n w (Nat.zero_le _) h hpp
  generalize fr (str c.s) c.B a true 0 n = rr at h0 ⊢
  have HF := Lib.hid h0
  have HK := Lib.hid k4
  obtain ⟨px, rfl⟩ := hpp
  clear h0 hp h k4
  go_enter Tryz.func39, Tryz.ntmps39
  go_wp2_with fail
  refine HF.out.mono ?_
  intro e w1 hG
  clear HF
  cases rr with
  | over =>
    obtain ⟨rfl, ht⟩ := hG
    refine ⟨rfl, ?_⟩
    exact ⟨rfl, ht⟩
  | no n1 =>
    have HG := Lib.hid hG
    obtain ⟨rfl, -, ht⟩ := hG
    have hk := HK.out.keep ht (fun e => hr e)
    have HK1 := Lib.hid hk
    obtain ⟨hk, hkf⟩ := hk
    clear ht
    go_wp2_with fail
    go_end0
    exact ⟨rfl, HK1.out.set _, w1, HG.out, Touch.setCell (Touch.refl (fun b => b = r0) w1) (.inl rfl) _⟩
  | yes n1 g x =>
    have HG := Lib.hid hG
    obtain ⟨rfl, -, -, ht⟩ := hG
    have hk := HK.out.keep ht (fun e => hr e)
    have HK1 := Lib.hid hk
    obtain ⟨hk, hkf⟩ := hk
    clear ht
    go_wp2_with fail
    go_end0
    exact ⟨rfl, HK1.out.set _, w1, HG.out, Touch.setCell (Touch.refl (fun b => b = r0) w1) (.inl rfl) _⟩

theorem enters_whole1 (args : Array Value) (w : World) : (callFunc 39 args).run Tryz.prog w = .ok (.enter 39 args) w :=
  enters_of Tryz.func39 (by kernel_rfl) rfl args w

/-- What Whole gives: the answer, the error. -/
def wholeRes : Res → Bool × Int
  | .over => (false, 12)
  | .no _ => (false, 0)
  | .yes _ _ _ => (true, 0)
def wholeV (t : ByteArray) (bu : Int) : Option (Re × Nat) → Bool × Int
  | none => (false, 4)
  | some (a, G) => if askOK t.size 0 bu = true then wholeRes (fr (str t) bu.toNat (wholeR a) true 0 0) else (false, 1)
def WholeP (w : World) (r : Bool × Int) (e : Ending) (w' : World) : Prop := e = .returned (.tuple #[.bool r.1, .int .i64 r.2]) ∧ Still w w'

/-- The world at Whole's try. -/
abbrev wW (w1 : World) (b G : Nat) (t : ByteArray) (bu : Int) : World := ((((((((w1.alloc (.cells #[.int .i64 (G : Int)] 3)).alloc (.cells #[.string t, .int .i64 0, .int .i64 bu, .slice none 0 0] 65)).alloc (.cells #[.pointer (some ⟨w1.heap.size + 1, 0, none⟩)] 63)).alloc (.cells #[.bool false] 4)).alloc (.cells (nd 4 (.pointer none) 0 none 0 0 (.pointer none) 0 0 0) 89)).alloc (.cells #[.pointer (some ⟨b, 0, none⟩), .pointer (some ⟨w1.heap.size + 1 + 1 + 1 + 1, 0, none⟩)] 60)).alloc (.cells #[.slice (some ⟨w1.heap.size + 1 + 1 + 1 + 1 + 1, 0, none⟩) 2 2] 90)).alloc (.cells (nd 8 (.pointer none) 0 (some ⟨w1.heap.size + 1 + 1 + 1 + 1 + 1 + 1, 0, none⟩) 1 1 (.pointer none) 0 0 0) 89)).alloc (.cells #[.pointer (some ⟨w1.heap.size + 1 + 1 + 1 + 1 + 1 + 1 + 1, 0, none⟩)] 60)
theorem wW_still (w1 : World) (b G : Nat) (t : ByteArray) (bu : Int) : Still w1 (wW w1 b G t bu) := (((((((((Touch.refl _ w1).alloc _).alloc _).alloc _).alloc _).alloc _).alloc _).alloc _).alloc _).alloc _
theorem wW_size (w1 : World) (b G : Nat) (t : ByteArray) (bu : Int) : (wW w1 b G t bu).heap.size = w1.heap.size + 9 := by simp
structure wC (w1 : World) (b G : Nat) (t : ByteArray) (bu : Int) (w : World) : Prop where
  q0 : w.cell? ⟨w1.heap.size, 0, none⟩ = some (.int .i64 (G : Int))
  m0 : w.cell? ⟨w1.heap.size + 1, 0, none⟩ = some (.string t)
  m1 : Holds w (w1.heap.size + 1) 1 (.int .i64 (0 : Nat))
  m2 : w.cell? ⟨w1.heap.size + 1, 2, none⟩ = some (.int .i64 bu)
  m3 : Holds w (w1.heap.size + 1) 3 (.slice none 0 0)
  p0 : w.cell? ⟨w1.heap.size + 1 + 1, 0, none⟩ = some (.pointer (some ⟨w1.heap.size + 1, 0, none⟩))
  r0 : Holds w (w1.heap.size + 1 + 1 + 1) 0 (.bool false)
  z : NB w (w1.heap.size + 1 + 1 + 1 + 1) (nd 4 (.pointer none) 0 none 0 0 (.pointer none) 0 0 0)
  y0 : w.cell? ⟨w1.heap.size + 1 + 1 + 1 + 1 + 1, 0, none⟩ = some (.pointer (some ⟨b, 0, none⟩))
  y1 : w.cell? ⟨w1.heap.size + 1 + 1 + 1 + 1 + 1, 1, none⟩ = some (.pointer (some ⟨w1.heap.size + 1 + 1 + 1 + 1, 0, none⟩))
  x0 : w.cell? ⟨w1.heap.size + 1 + 1 + 1 + 1 + 1 + 1, 0, none⟩ = some (.slice (some ⟨w1.heap.size + 1 + 1 + 1 + 1 + 1, 0, none⟩) 2 2)
  n : NB w (w1.heap.size + 1 + 1 + 1 + 1 + 1 + 1 + 1) (nd 8 (.pointer none) 0 (some ⟨w1.heap.size + 1 + 1 + 1 + 1 + 1 + 1, 0, none⟩) 1 1 (.pointer none) 0 0 0)
  n0 : w.cell? ⟨w1.heap.size + 1 + 1 + 1 + 1 + 1 + 1 + 1 + 1, 0, none⟩ = some (.pointer (some ⟨w1.heap.size + 1 + 1 + 1 + 1 + 1 + 1 + 1, 0, none⟩))
set_option maxRecDepth 100000 in
theorem wW_cells (w1 : World) (b G : Nat) (t : ByteArray) (bu : Int) : wC w1 b G t bu (wW w1 b G t bu) := by
  refine ⟨?_, ?_, ⟨?_, ?_⟩, ?_, ⟨?_, ?_⟩, ?_, ⟨?_, ?_⟩, ?_, ?_, ?_, ?_, ?_, ?_⟩
  all_goals try (simp [go_sem]; done)
  · have e : ((((w1.alloc (.cells #[.int .i64 (G : Int)] 3)).alloc (.cells #[.string t, .int .i64 0, .int .i64 bu, .slice none 0 0] 65)).alloc (.cells #[.pointer (some ⟨w1.heap.size + 1, 0, none⟩)] 63)).alloc (.cells #[.bool false] 4)).heap.size = w1.heap.size + 1 + 1 + 1 + 1 := by simp
    have h := NB.made ((((w1.alloc (.cells #[.int .i64 (G : Int)] 3)).alloc (.cells #[.string t, .int .i64 0, .int .i64 bu, .slice none 0 0] 65)).alloc (.cells #[.pointer (some ⟨w1.heap.size + 1, 0, none⟩)] 63)).alloc (.cells #[.bool false] 4)) (nd 4 (.pointer none) 0 none 0 0 (.pointer none) 0 0 0)
    rw [e] at h
    exact h.keep (((((Touch.refl (fun _ => False) _).alloc _).alloc _).alloc _).alloc _) id
  · have e : (((((((w1.alloc (.cells #[.int .i64 (G : Int)] 3)).alloc (.cells #[.string t, .int .i64 0, .int .i64 bu, .slice none 0 0] 65)).alloc (.cells #[.pointer (some ⟨w1.heap.size + 1, 0, none⟩)] 63)).alloc (.cells #[.bool false] 4)).alloc (.cells (nd 4 (.pointer none) 0 none 0 0 (.pointer none) 0 0 0) 89)).alloc (.cells #[.pointer (some ⟨b, 0, none⟩), .pointer (some ⟨w1.heap.size + 1 + 1 + 1 + 1, 0, none⟩)] 60)).alloc (.cells #[.slice (some ⟨w1.heap.size + 1 + 1 + 1 + 1 + 1, 0, none⟩) 2 2] 90)).heap.size = w1.heap.size + 1 + 1 + 1 + 1 + 1 + 1 + 1 := by simp
    have h := NB.made (((((((w1.alloc (.cells #[.int .i64 (G : Int)] 3)).alloc (.cells #[.string t, .int .i64 0, .int .i64 bu, .slice none 0 0] 65)).alloc (.cells #[.pointer (some ⟨w1.heap.size + 1, 0, none⟩)] 63)).alloc (.cells #[.bool false] 4)).alloc (.cells (nd 4 (.pointer none) 0 none 0 0 (.pointer none) 0 0 0) 89)).alloc (.cells #[.pointer (some ⟨b, 0, none⟩), .pointer (some ⟨w1.heap.size + 1 + 1 + 1 + 1, 0, none⟩)] 60)).alloc (.cells #[.slice (some ⟨w1.heap.size + 1 + 1 + 1 + 1 + 1, 0, none⟩) 2 2] 90)) (nd 8 (.pointer none) 0 (some ⟨w1.heap.size + 1 + 1 + 1 + 1 + 1 + 1, 0, none⟩) 1 1 (.pointer none) 0 0 0)
    rw [e] at h
    exact h.keep ((Touch.refl (fun _ => False) _).alloc _) id
theorem wC.keep {w1 : World} {b G : Nat} {t : ByteArray} {bu : Int} {w w' : World} (h : wC w1 b G t bu w) (ht : Still w w') : wC w1 b G t bu w' :=
  ⟨ht.has h.q0 id, ht.has h.m0 id, h.m1.keep ht id, ht.has h.m2 id, h.m3.keep ht id, ht.has h.p0 id, h.r0.keep ht id, h.z.keep ht id, ht.has h.y0 id, ht.has h.y1 id, ht.has h.x0 id, h.n.keep ht id, ht.has h.n0 id⟩
/-- The pattern of the whole, in memory. -/
theorem wC.tree {w1 : World} {b G : Nat} {t : ByteArray} {bu : Int} {w : World} (h : wC w1 b G t bu w) {a : Re} (ha : (rd (fun i => i ≠ w1.heap.size + 1) w G (.grp 0 a)).node (.pointer (some ⟨b, 0, none⟩))) :
    (rd (fun i => i ≠ w1.heap.size + 1) w G (wholeR a)).node (.pointer (some ⟨w1.heap.size + 1 + 1 + 1 + 1 + 1 + 1 + 1, 0, none⟩)) := by
  refine ⟨_, _, _, _, _, _, _, _, _, rfl, h.n.node (by show w1.heap.size + 1 + 1 + 1 + 1 + 1 + 1 + 1 ≠ w1.heap.size + 1; omega), Nat.zero_le _, Nat.le_refl _, ?_⟩
  refine ⟨_, _, _, _, _, rfl, by show w1.heap.size + 1 + 1 + 1 + 1 + 1 + 1 ≠ w1.heap.size + 1; omega, Nat.le_refl _, by decide, Nat.le_refl _, h.x0, ?_, rfl⟩
  refine ⟨_, _, _, rfl, by show w1.heap.size + 1 + 1 + 1 + 1 + 1 ≠ w1.heap.size + 1; omega, by decide, by decide, h.y0, ha, ?_⟩
  refine ⟨_, _, _, rfl, by show w1.heap.size + 1 + 1 + 1 + 1 + 1 ≠ w1.heap.size + 1; omega, by decide, by decide, h.y1, ?_, rfl⟩
  exact ⟨_, _, _, _, _, _, _, _, _, _, rfl, h.z.node (by show w1.heap.size + 1 + 1 + 1 + 1 ≠ w1.heap.size + 1; omega), by decide, by decide⟩

set_option maxRecDepth 100000 in
set_option maxHeartbeats 8000000 in
theorem whole_any (s t : ByteArray) (bu : Int) (w : World) :
    Calls Tryz.prog 18 #[.string s, .string t, .int .i64 bu] w (WholeP w (wholeV t bu (readP (str s)))) := by
  have hmf : ∀ (fn : Fn) (first cap : Array Value) (w : World), (Instr.makeFunc fn first cap).run Tryz.prog w = .ok (.func fn first cap) w := fun _ _ _ _ => rfl
  have h0 := asked_any s t 0 bu w
  have HF := Lib.hid (fun a G (h : readP (str s) = some (a, G)) => read_fit h)
  generalize readP (str s) = rr at h0 HF ⊢
  have HA := Lib.hid h0
  clear h0
  go_enter Tryz.func18, Tryz.ntmps18
  go_wp2_with fail
  refine HA.out.mono ?_
  intro e w1 hG
  clear HA
  cases rr with
  | none =>
    obtain ⟨rfl, ht⟩ := hG
    have HT1 : Hid (Still w (w1.alloc (.cells #[.int .i64 0] 3))) := Lib.hid (ht.then ((Touch.refl _ _).alloc _))
    clear ht
    go_wp2_with fail
    go_ret2
    exact ⟨rfl, HT1.out⟩
  | some x =>
    obtain ⟨a, G⟩ := x
    rcases hG with ⟨hok, rfl, ht⟩ | ⟨hok, b, rfl, ht, hrd, hg9⟩
    · have HV : Hid (wholeV t bu (some (a, G)) = (false, 1)) := Lib.hid (if_neg (by rw [hok]; decide))
      have HT1 : Hid (Still w (w1.alloc (.cells #[.int .i64 0] 3))) := Lib.hid (ht.then ((Touch.refl _ _).alloc _))
      clear ht hok
      go_wp2_with fail
      go_ret2
      rw [HV.out]
      exact ⟨rfl, HT1.out⟩
    · have HOK := Lib.hid hok
      have hin : t.size ≤ 5000 ∧ 0 ≤ (0 : Int) ∧ (0 : Int) ≤ (t.size : Int) ∧ 0 ≤ bu ∧ bu ≤ 1000000 := of_decide_eq_true hok
      obtain ⟨i1, -, -, i4, i5⟩ := hin
      obtain ⟨B, rfl⟩ := Int.eq_ofNat_of_zero_le i4
      have HIN : Hid (t.size ≤ 5000 ∧ B ≤ 1000000) := Lib.hid ⟨i1, by omega⟩
      obtain ⟨w6, hw6⟩ : ∃ w6, wW w1 b G t (B : Int) = w6 := ⟨_, rfl⟩
      have HC6 : Hid (wC w1 b G t (B : Int) w6) := Lib.hid (by rw [← hw6]; exact wW_cells _ _ _ _ _)
      have HT6 : Hid (Still w1 w6) := Lib.hid (by rw [← hw6]; exact wW_still _ _ _ _ _)
      have HZ6 : Hid (w6.heap.size = w1.heap.size + 9) := Lib.hid (by rw [← hw6]; exact wW_size _ _ _ _ _)
      have HT1 := Lib.hid ht
      have HFIT := Lib.hid (HF.out a G rfl)
      have HRD := Lib.hid (((rd_mono (F := FP w.heap.size w1.heap.size) (F' := fun b => b ≠ w1.heap.size + 1) (fun b hb => by have := hb.2; omega) (fun b o v _ h => HT6.out.has h id) (.grp 0 a)).1 _ hrd))
      have HRD2 := Lib.hid (HC6.out.tree ((rd_fit (.grp 0 a) HFIT.out).1 _ HRD.out))
      have HW6 := Lib.hid hw6
      clear hw6
      have HG9 := Lib.hid hg9
      clear ht hrd HRD HF i1 i4 i5 hok hg9
      have HCALL : Hid (Calls Tryz.prog 30 #[.func (.func 39) #[] #[.pointer (some ⟨w1.heap.size + 1 + 1, 0, none⟩), .pointer (some ⟨w1.heap.size + 1 + 1 + 1 + 1 + 1 + 1 + 1 + 1, 0, none⟩), .pointer (some ⟨w1.heap.size, 0, none⟩), .pointer (some ⟨w1.heap.size + 1 + 1 + 1, 0, none⟩)]] (wW w1 b G t (B : Int))
          fun e w' => ∃ b w9, e = .returned (.bool b) ∧ MTry ⟨w1.heap.size + 1, 0, G, B, t, w6⟩ (w6.alloc (.cells #[.bool false] 4)) (w1.heap.size + 1 + 1 + 1) 0 (fr (str t) B (wholeR a) true 0 0) b w9 ∧ Touch (fun i => i = w6.heap.size) w9 w') := Lib.hid (by
        rw [HW6.out]
        refine caught_any _ _ enters_whole1 (MTry ⟨w1.heap.size + 1, 0, G, B, t, w6⟩ (w6.alloc (.cells #[.bool false] 4)) (w1.heap.size + 1 + 1 + 1) 0 (fr (str t) B (wholeR a) true 0 0)) w6 ?_
        have tA : Still w6 (w6.alloc (.cells #[.bool false] 4)) := (Touch.refl _ _).alloc _
        have hcA := HC6.out.keep tA
        have hMB : MB ⟨w1.heap.size + 1, 0, G, B, t, w6⟩ 0 (w6.alloc (.cells #[.bool false] 4)) :=
          ⟨hcA.m0, hcA.m1, hcA.m2, ⟨_, hcA.m3⟩, Nat.zero_le _, HIN.out.2, HG9.out, HIN.out.1, tA.mono (fun _ _ e => e.elim)⟩
        refine (whole1_any ⟨w1.heap.size + 1, 0, G, B, t, w6⟩ (wholeR a) _ HRD2.out ⟨_, rfl⟩ 0 _ hMB _ _ _ _ hcA.p0 hcA.n0 hcA.q0 hcA.r0 (by show w1.heap.size + 1 + 1 + 1 ≠ w1.heap.size + 1; omega)).mono ?_
        intro e w' h
        refine ⟨h.both, ?_⟩
        have h6 := HZ6.out
        exact (Holds.made w6 #[.bool false] 4 0 _ rfl).keep h.touch (fun e => by
          rcases e with e | e
          · have e : w6.heap.size = w1.heap.size + 1 := e
            omega
          · omega))
      clear HRD2
      go_wp2_with fail
      refine HCALL.out.mono ?_
      clear HW6 HCALL
      rintro e w8 ⟨bb, w9, rfl, hM, ht9⟩
      have hz6 := HZ6.out
      have hmid : Still w1 w8 := by
        have tA : Still w6 (w6.alloc (.cells #[.bool false] 4)) := (Touch.refl _ _).alloc _
        refine ((HT6.out.then tA).trans hM.touch (fun i e => .inr ?_)).trans ht9 (fun i e => .inr (by omega))
        rcases e with e | e
        · have e : i = w1.heap.size + 1 := e
          omega
        · omega
      have HALL := Lib.hid (HT1.out.then hmid)
      have HV : Hid (∀ r, fr (str t) B (wholeR a) true 0 0 = r → wholeV t (B : Int) (some (a, G)) = wholeRes r) := Lib.hid (fun r h => by
        show (if askOK t.size 0 (B : Int) = true then wholeRes (fr (str t) (B : Int).toNat (wholeR a) true 0 0) else (false, 1)) = _
        rw [if_pos HOK.out, Int.toNat_natCast, h])
      clear hmid
      generalize fr (str t) B (wholeR a) true 0 0 = rr at hM HV
      cases rr with
      | over =>
        obtain ⟨he, -⟩ := hM
        cases bb with
        | false => cases he
        | true =>
          clear he ht9
          go_wp2_with fail
          go_ret2
          rw [HV.out _ rfl]
          exact ⟨rfl, HALL.out⟩
      | no n1 =>
        obtain ⟨he, hr, -⟩ := hM
        cases bb with
        | true => cases he
        | false =>
          have hr8 := (hr.keep ht9 (by omega)).1
          clear he ht9 hr
          go_wp2_with fail
          go_ret2
          rw [HV.out _ rfl]
          exact ⟨rfl, HALL.out⟩
      | yes n1 g x =>
        obtain ⟨he, hr, -⟩ := hM
        cases bb with
        | true => cases he
        | false =>
          have hr8 := (hr.keep ht9 (by omega)).1
          clear he ht9 hr
          go_wp2_with fail
          go_ret2
          rw [HV.out _ rfl]
          exact ⟨rfl, HALL.out⟩
end Go.Proofs.YtlgpilcjcomacaaGreat
