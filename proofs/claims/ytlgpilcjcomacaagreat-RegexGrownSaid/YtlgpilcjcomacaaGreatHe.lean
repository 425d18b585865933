/-
  The program's all: asked, and tried.
-/
import Derived.Test.YtlgpilcjcomacaaGreatHd
namespace Go.Proofs.YtlgpilcjcomacaaGreat
open Go.RowKit Rx
set_option linter.unusedVariables false

theorem enters_all1 (args : Array Value) (w : World) : (callFunc 50 args).run Tryz.prog w = .ok (.enter 50 args) w :=
  enters_of Tryz.func50 (by kernel_rfl) rfl args w

/-- What all gives: an error; all matches. -/
inductive AllR where
  | err (c : Int)
  | got (G : Nat) (l : List Grp)
def allRes (G : Nat) : Option (List Grp) → AllR
  | none => .err 12
  | some l => .got G l
def allV (t : ByteArray) (bu : Int) : Option (Re × Nat) → AllR
  | none => .err 4
  | some (a, G) => if askOK t.size 0 bu = true then allRes G (everyR (str t) bu.toNat (.grp 0 a) 0 0) else .err 1
/-- A row's cells. -/
def RowAt (w : World) (x : Option Addr) (vs : List Value) : Prop := ∀ j u, vs[j]? = some u → ∃ b, x = some ⟨b, 0, none⟩ ∧ w.cell? ⟨b, j, none⟩ = some u
theorem RowAt.keep {w w' : World} {x : Option Addr} {vs : List Value} (h : RowAt w x vs) (t : Still w w') : RowAt w' x vs := fun j u hu => by
  obtain ⟨b, h1, h2⟩ := h j u hu
  exact ⟨b, h1, t.has h2 id⟩
theorem owns_row {w : World} {lo : Nat} {e : TypeId} {x : Option Addr} {n cp : Nat} {vs : List Value} (h : w.ownsRow lo e 1 (.slice x n cp) n vs) : RowAt w x vs ∧ n ≤ cp := by
  rcases h.2 with ⟨e1, e2⟩ | ⟨g, cap, cur, e1, hb, hgg, hc, hr⟩
  · cases e1
    refine ⟨fun j u hu => ?_, Nat.le_refl _⟩
    have h1 := h.1
    have h2 := (List.getElem?_eq_some_iff.1 hu).1
    omega
  · cases e1
    refine ⟨fun j u hu => ⟨g, rfl, ?_⟩, hc⟩
    have h2 := owns_cells h rfl j u hu
    rwa [Nat.zero_add] at h2

def AllP (w : World) : AllR → Ending → World → Prop
  | .err c, e, w' => e = .returned (.tuple #[.slice none 0 0, .int .i64 c]) ∧ Still w w'
  | .got G l, e, w' => ∃ x cp vs, e = .returned (.tuple #[.slice x l.length cp, .int .i64 0]) ∧ l.length ≤ cp ∧ RowAt w' x vs ∧ ML w' G (fun _ => True) l vs ∧ G ≤ 9 ∧ Still w w'

/-- The world at all's try. -/
abbrev aW (w1 : World) (b G : Nat) (t : ByteArray) (bu : Int) : World := ((((w1.alloc (.cells #[.pointer (some ⟨b, 0, none⟩)] 60)).alloc (.cells #[.int .i64 (G : Int)] 3)).alloc (.cells #[.slice none 0 0] TGS)).alloc (.cells #[.string t, .int .i64 0, .int .i64 bu, .slice none 0 0] 65)).alloc (.cells #[.pointer (some ⟨w1.heap.size + 1 + 1 + 1, 0, none⟩)] 63)
theorem aW_still (w1 : World) (b G : Nat) (t : ByteArray) (bu : Int) : Still w1 (aW w1 b G t bu) := (((((Touch.refl _ w1).alloc _).alloc _).alloc _).alloc _).alloc _
theorem aW_size (w1 : World) (b G : Nat) (t : ByteArray) (bu : Int) : (aW w1 b G t bu).heap.size = w1.heap.size + 5 := by simp
structure aC (w1 : World) (b G : Nat) (t : ByteArray) (bu : Int) (w : World) : Prop where
  n0 : w.cell? ⟨w1.heap.size, 0, none⟩ = some (.pointer (some ⟨b, 0, none⟩))
  q0 : w.cell? ⟨w1.heap.size + 1, 0, none⟩ = some (.int .i64 (G : Int))
  r0 : Holds w (w1.heap.size + 1 + 1) 0 (.slice none 0 0)
  m0 : w.cell? ⟨w1.heap.size + 1 + 1 + 1, 0, none⟩ = some (.string t)
  m1 : Holds w (w1.heap.size + 1 + 1 + 1) 1 (.int .i64 (0 : Nat))
  m2 : w.cell? ⟨w1.heap.size + 1 + 1 + 1, 2, none⟩ = some (.int .i64 bu)
  m3 : Holds w (w1.heap.size + 1 + 1 + 1) 3 (.slice none 0 0)
  p0 : w.cell? ⟨w1.heap.size + 1 + 1 + 1 + 1, 0, none⟩ = some (.pointer (some ⟨w1.heap.size + 1 + 1 + 1, 0, none⟩))
theorem aW_cells (w1 : World) (b G : Nat) (t : ByteArray) (bu : Int) : aC w1 b G t bu (aW w1 b G t bu) := by
  refine ⟨?_, ?_, ⟨?_, ?_⟩, ?_, ⟨?_, ?_⟩, ?_, ⟨?_, ?_⟩, ?_⟩
  all_goals simp [go_sem]
theorem aC.keep {w1 : World} {b G : Nat} {t : ByteArray} {bu : Int} {w w' : World} (h : aC w1 b G t bu w) (ht : Still w w') : aC w1 b G t bu w' :=
  ⟨ht.has h.n0 id, ht.has h.q0 id, h.r0.keep ht id, ht.has h.m0 id, h.m1.keep ht id, ht.has h.m2 id, h.m3.keep ht id, ht.has h.p0 id⟩

/-- What the try leaves: over, or all matches. -/
def ATry (c : Cx) (wA : World) (r0 : Nat) (rr : Option (List Grp)) (b : Bool) (w' : World) : Prop :=
  AllTried c wA r0 rr (if b then .panicked [{ v := .iface 112 (.agg #[]), recovered := false }] else .returned (.tuple #[])) w'
theorem AllTried.both {c : Cx} {w : World} {r0 : Nat} {rr : Option (List Grp)} {e : Ending} {w' : World} (h : AllTried c w r0 rr e w') : (e = .returned (.tuple #[]) ∧ ATry c w r0 rr false w') ∨ (e = .panicked [{ v := .iface 112 (.agg #[]), recovered := false }] ∧ ATry c w r0 rr true w') := by
  cases rr with
  | none => obtain ⟨rfl, h2⟩ := h; exact .inr ⟨rfl, rfl, h2⟩
  | some l => obtain ⟨rfl, h2⟩ := h; exact .inl ⟨rfl, rfl, h2⟩
theorem AllTried.touch {c : Cx} {w : World} {r0 : Nat} {rr : Option (List Grp)} {e : Ending} {w' : World} (h : AllTried c w r0 rr e w') : Touch (fun b => b = c.bm ∨ b = r0) w w' := by
  cases rr with
  | none => exact h.2
  | some l => obtain ⟨-, n, x, cp, vs, h⟩ := h; exact h.tr

set_option maxRecDepth 100000 in
set_option maxHeartbeats 8000000 in
theorem all_any (s t : ByteArray) (bu : Int) (w : World) :
    Calls Tryz.prog 33 #[.string s, .string t, .int .i64 bu] w (AllP w (allV t bu (readP (str s)))) := by
  have hmf : ∀ (fn : Fn) (first cap : Array Value) (w : World), (Instr.makeFunc fn first cap).run Tryz.prog w = .ok (.func fn first cap) w := fun _ _ _ _ => rfl
  obtain ⟨w2, hw2⟩ : ∃ w2, w.alloc (.cells #[.string t] 9) = w2 := ⟨_, rfl⟩
  have HT2 : Hid (Still w w2) := Lib.hid (by rw [← hw2]; exact (Touch.refl _ w).alloc _)
  have HZ2 : Hid (w2.heap.size = w.heap.size + 1) := Lib.hid (by rw [← hw2]; simp)
  have HC0 : Hid (w2.cell? ⟨w.heap.size, 0, none⟩ = some (.string t)) := Lib.hid (by rw [← hw2]; exact (Holds.made w #[.string t] 9 0 _ rfl).1)
  have h0 := asked_any s t 0 bu w2
  have HF := Lib.hid (fun a G (h : readP (str s) = some (a, G)) => read_fit h)
  have hst := HC0.out
  generalize readP (str s) = rr at h0 HF ⊢
  have HA := Lib.hid h0
  clear h0
  go_enter Tryz.func33, Tryz.ntmps33
  go_wp2_with fail
  refine HA.out.mono ?_
  intro e w1 hG
  clear HA hw2 hst
  cases rr with
  | none =>
    obtain ⟨rfl, ht⟩ := hG
    have HT1 : Hid (Still w ((w1.alloc (.cells #[.pointer none] 60)).alloc (.cells #[.int .i64 0] 3))) := Lib.hid ((HT2.out.then ht).then (((Touch.refl _ _).alloc _).alloc _))
    clear ht
    go_wp2_with fail
    go_ret2
    exact ⟨rfl, HT1.out⟩
  | some x =>
    obtain ⟨a, G⟩ := x
    rcases hG with ⟨hok, rfl, ht⟩ | ⟨hok, b, rfl, ht, hrd, hg9⟩
    · have HV : Hid (allV t bu (some (a, G)) = .err 1) := Lib.hid (if_neg (by rw [hok]; decide))
      have HT1 : Hid (Still w ((w1.alloc (.cells #[.pointer none] 60)).alloc (.cells #[.int .i64 0] 3))) := Lib.hid ((HT2.out.then ht).then (((Touch.refl _ _).alloc _).alloc _))
      clear ht hok
      go_wp2_with fail
      go_ret2
      rw [HV.out]
      exact ⟨rfl, HT1.out⟩
    · have HOK := Lib.hid hok
      have hin : t.size ≤ 5000 ∧ 0 ≤ (0 : Int) ∧ (0 : Int) ≤ (t.size : Int) ∧ 0 ≤ bu ∧ bu ≤ 1000000 := of_decide_eq_true hok
      obtain ⟨i1, -, -, i4, i5⟩ := hin
      obtain ⟨B, rfl⟩ := Int.eq_ofNat_of_zero_le i4
      have HIN : Hid (t.size ≤ 5000 ∧ B ≤ 1000000) := Lib.hid ⟨i1, by omega⟩
      obtain ⟨w6, hw6⟩ : ∃ w6, aW w1 b G t (B : Int) = w6 := ⟨_, rfl⟩
      have HC6 : Hid (aC w1 b G t (B : Int) w6) := Lib.hid (by rw [← hw6]; exact aW_cells _ _ _ _ _)
      have HT6 : Hid (Still w1 w6) := Lib.hid (by rw [← hw6]; exact aW_still _ _ _ _ _)
      have HZ6 : Hid (w6.heap.size = w1.heap.size + 5) := Lib.hid (by rw [← hw6]; exact aW_size _ _ _ _ _)
      have HT1 := Lib.hid ht
      have HX0 : Hid (w1.cell? ⟨w.heap.size, 0, none⟩ = some (.string t)) := Lib.hid (ht.has HC0.out id)
      have HZ1 : Hid (w.heap.size < w1.heap.size) := Lib.hid (by have := ht.size; have := HZ2.out; omega)
      have HFIT := Lib.hid (HF.out a G rfl)
      have HRD := Lib.hid (((rd_mono (F := FP w2.heap.size w1.heap.size) (F' := fun b => b ≠ w1.heap.size + 1 + 1 + 1) (fun b hb => by have := hb.2; omega) (fun b o v _ h => h) (.grp 0 a)).1 _ hrd))
      have HRD2 := Lib.hid ((rd_fit (.grp 0 a) HFIT.out).1 _ HRD.out)
      have HW6 := Lib.hid hw6
      clear hw6
      have HG9 := Lib.hid hg9
      clear ht hrd HRD HF i1 i4 i5 hok hg9
      have HCALL : Hid (Calls Tryz.prog 30 #[.func (.func 50) #[] #[.pointer (some ⟨w.heap.size, 0, none⟩), .pointer (some ⟨w1.heap.size + 1 + 1 + 1 + 1, 0, none⟩), .pointer (some ⟨w1.heap.size, 0, none⟩), .pointer (some ⟨w1.heap.size + 1, 0, none⟩), .pointer (some ⟨w1.heap.size + 1 + 1, 0, none⟩)]] (aW w1 b G t (B : Int))
          fun e w' => ∃ b w9, e = .returned (.bool b) ∧ ATry ⟨w1.heap.size + 1 + 1 + 1, 0, G, B, t, w1⟩ (w6.alloc (.cells #[.bool false] 4)) (w1.heap.size + 1 + 1) (everyR (str t) B (.grp 0 a) 0 0) b w9 ∧ Touch (fun i => i = w6.heap.size) w9 w') := Lib.hid (by
        rw [HW6.out]
        refine caught_any _ _ enters_all1 (ATry ⟨w1.heap.size + 1 + 1 + 1, 0, G, B, t, w1⟩ (w6.alloc (.cells #[.bool false] 4)) (w1.heap.size + 1 + 1) (everyR (str t) B (.grp 0 a) 0 0)) w6 ?_
        have tA : Still w6 (w6.alloc (.cells #[.bool false] 4)) := (Touch.refl _ _).alloc _
        have hcA := HC6.out.keep tA
        have hMB : MB ⟨w1.heap.size + 1 + 1 + 1, 0, G, B, t, w1⟩ 0 (w6.alloc (.cells #[.bool false] 4)) :=
          ⟨hcA.m0, hcA.m1, hcA.m2, ⟨_, hcA.m3⟩, Nat.zero_le _, HIN.out.2, HG9.out, HIN.out.1, (HT6.out.then tA).mono (fun _ _ e => e.elim)⟩
        have hz1 := HZ1.out
        refine (all1_any ⟨w1.heap.size + 1 + 1 + 1, 0, G, B, t, w1⟩ (.grp 0 a) HFIT.out _ HRD2.out ⟨_, rfl⟩ _ hMB w.heap.size (w1.heap.size + 1 + 1 + 1 + 1) w1.heap.size (w1.heap.size + 1) (w1.heap.size + 1 + 1) ((HT6.out.then tA).has HX0.out id) hcA.p0 hcA.n0 hcA.q0 hcA.r0 ⟨?_, ?_⟩ ⟨?_, ?_⟩ ⟨?_, ?_⟩ ⟨?_, ?_⟩ ?_ ?_).mono ?_
        · show w.heap.size ≠ w1.heap.size + 1 + 1 + 1; omega
        · omega
        · show w1.heap.size + 1 + 1 + 1 + 1 ≠ w1.heap.size + 1 + 1 + 1; omega
        · omega
        · show w1.heap.size ≠ w1.heap.size + 1 + 1 + 1; omega
        · omega
        · show w1.heap.size + 1 ≠ w1.heap.size + 1 + 1 + 1; omega
        · omega
        · show w1.heap.size + 1 + 1 ≠ w1.heap.size + 1 + 1 + 1; omega
        · show w1.heap.size ≤ w1.heap.size + 1 + 1; omega
        intro e w' h
        refine ⟨h.both, ?_⟩
        have h6 := HZ6.out
        exact (Holds.made w6 #[.bool false] 4 0 _ rfl).keep h.touch (fun e => by
          rcases e with e | e
          · have e : w6.heap.size = w1.heap.size + 1 + 1 + 1 := e
            omega
          · omega))
      clear HRD2
      have hsx : (((w1.alloc (.cells #[.pointer (some ⟨b, 0, none⟩)] 60)).alloc (.cells #[.int .i64 (G : Int)] 3)).alloc (.cells #[.slice none 0 0] TGS)).cell? ⟨w.heap.size, 0, none⟩ = some (.string t) := ((((Touch.refl (fun _ => False) w1).alloc _).alloc _).alloc _).has HX0.out id
      go_wp2_with fail
      refine HCALL.out.mono ?_
      clear HW6 HCALL
      rintro e w8 ⟨bb, w9, rfl, hM, ht9⟩
      have hz6 := HZ6.out
      have hmid : Still w1 w8 := by
        have tA : Still w6 (w6.alloc (.cells #[.bool false] 4)) := (Touch.refl _ _).alloc _
        refine ((HT6.out.then tA).trans hM.touch (fun i e => .inr ?_)).trans ht9 (fun i e => .inr (by omega))
        rcases e with e | e
        · have e : i = w1.heap.size + 1 + 1 + 1 := e
          omega
        · omega
      have HALL := Lib.hid ((HT2.out.then HT1.out).then hmid)
      have HV : Hid (∀ r, everyR (str t) B (.grp 0 a) 0 0 = r → allV t (B : Int) (some (a, G)) = allRes G r) := Lib.hid (fun r h => by
        show (if askOK t.size 0 (B : Int) = true then allRes G (everyR (str t) (B : Int).toNat (.grp 0 a) 0 0) else .err 1) = _
        rw [if_pos HOK.out, Int.toNat_natCast, h])
      clear hmid
      generalize everyR (str t) B (.grp 0 a) 0 0 = rr at hM HV
      cases rr with
      | none =>
        obtain ⟨he, -⟩ := hM
        cases bb with
        | false => cases he
        | true =>
          clear he ht9
          go_wp2_with fail
          go_ret2
          rw [HV.out none rfl]
          exact ⟨rfl, HALL.out⟩
      | some l =>
        obtain ⟨he, n, x, cp, vs, hS⟩ := hM
        cases bb with
        | true => cases he
        | false =>
          have hr8 := (hS.ro.keep ht9 (by omega)).1
          have hz7 : (w6.alloc (.cells #[.bool false] 4)).heap.size = w6.heap.size + 1 := by simp
          have HROW := Lib.hid (owns_row (owns_keep hS.ow ht9 (fun b e e2 => by have := (hS.ow.lt b e2).1; omega)))
          have HML : Hid (ML w8 G (fun _ => True) l vs) := Lib.hid (hS.ml.mono (fun b hF hl => ⟨trivial, ht9.block b hl (by have := hF.1; omega)⟩))
          clear he ht9 hS
          go_wp2_with fail
          go_ret2
          rw [HV.out _ rfl]
          exact ⟨x, cp, vs, rfl, HROW.out.2, HROW.out.1, HML.out, HG9.out, HALL.out⟩
end Go.Proofs.YtlgpilcjcomacaaGreat
