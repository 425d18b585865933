/-
  What a pattern's functions of the program are asked to do; the answer's closure; a row's closure.
-/
import Derived.Test.YtlgpilcjcomacaaMa
import Derived.Shelf.Abstract
namespace Go.Proofs.Ytlgpilcjcomacaa
open Go.RowKit Rx
set_option linter.unusedVariables false

/-- What comes back of a try from a place lo on. -/
def Got (c : Cx) (be : Nat) (w : World) (lo : Nat) (g : Grp) : Res → Ending → World → Prop
  | .over, e, w' => e = .panicked [{ v := .iface 112 (.agg #[]), recovered := false }] ∧ Touch (SS c be) w w'
  | .no n, e, w' => e = .returned (.bool false) ∧ Inv c be n g w' ∧ Touch (SS c be) w w'
  | .yes n h x, e, w' => e = .returned (.bool true) ∧ Inv c be n h w' ∧ Holds w' be 0 (.int .i64 (x : Int)) ∧ lo ≤ x ∧ x ≤ c.s.size ∧ Touch (SS c be) w w'

theorem Got.from {c : Cx} {be : Nat} {w w1 : World} {lo lo1 : Nat} {g : Grp} {r : Res} {e : Ending} {w' : World} (h : Got c be w1 lo1 g r e w') (t : Touch (SS c be) w w1) (hl : lo ≤ lo1) : Got c be w lo g r e w' := by
  cases r with
  | over => exact ⟨h.1, t.then h.2⟩
  | no n => exact ⟨h.1, h.2.1, t.then h.2.2⟩
  | yes n k x => obtain ⟨h1, h2, h3, h4, h5, h6⟩ := h; exact ⟨h1, h2, h3, by omega, h5, t.then h6⟩

theorem Got.ends {c : Cx} {be : Nat} {w : World} {lo : Nat} {g : Grp} {r : Res} {e : Ending} {w' : World} (h : Got c be w lo g r e w') : e = .panicked [{ v := .iface 112 (.agg #[]), recovered := false }] ∨ ∃ b, e = .returned (.bool b) := by
  cases r with
  | over => exact .inl h.1
  | no n => exact .inr ⟨_, h.1⟩
  | yes n k x => exact .inr ⟨_, h.1⟩

/-- A function value of the program that stands for what is to follow. -/
def KOK (c : Cx) (be : Nat) (kv : Value) (k : K) (lo : Nat) (w0 : World) : Prop :=
  ∃ f cap, kv = .func (.func f) #[] cap ∧ (∀ args w, (callFunc f args).run Try.prog w = .ok (.enter f args) w) ∧
    ∀ (w : World) (at' n : Nat) (g : Grp), Touch (SS c be) w0 w → Inv c be n g w → lo ≤ at' → at' ≤ c.s.size →
      Calls Try.prog f (#[.int .i64 (at' : Int)] ++ cap) w (Got c be w at' g (k at' n g))

theorem KOK.later {c : Cx} {be : Nat} {kv : Value} {k : K} {lo lo1 : Nat} {w0 w1 : World} (h : KOK c be kv k lo w0) (t : Touch (SS c be) w0 w1) (hl : lo ≤ lo1) : KOK c be kv k lo1 w1 := by
  obtain ⟨f, cap, e, en, h⟩ := h
  exact ⟨f, cap, e, en, fun w at' n g t1 hI h1 h2 => h w at' n g (t.then t1) hI (by omega) h2⟩

theorem enters_first1 (args : Array Value) (w : World) : (callFunc 66 args).run Try.prog w = .ok (.enter 66 args) w :=
  enters_of Try.func66 (by kernel_rfl) rfl args w

/-- The last thing to follow: the place is the answer. -/
theorem first1_any (c : Cx) (be at' n : Nat) (g : Grp) (w : World) (hI : Inv c be n g w) (ha : at' ≤ c.s.size) :
    Calls Try.prog 66 #[.int .i64 (at' : Int), .pointer (some ⟨be, 0, none⟩)] w (Got c be w at' g (K0 at' n g)) := by
  have HI := Lib.hid (hI.answer (at' : Int))
  have HT : Hid (Touch (SS c be) w (w.setCell ⟨be, 0, none⟩ (.int .i64 (at' : Int)))) := Lib.hid ((Touch.refl _ _).setCell (.inl (.inr (.inr rfl))) _)
  obtain ⟨x, hx⟩ := hI.eh
  have HH := Lib.hid (hx.set (.int .i64 (at' : Int)))
  obtain ⟨hc, hf⟩ := hx
  clear hI
  go_enter Try.func66, Try.ntmps66
  go_wp2_with fail
  go_ret
  exact ⟨rfl, HI.out, HH.out, Nat.le_refl _, ha, HT.out⟩

theorem KOK0 (c : Cx) (be lo : Nat) (w : World) : KOK c be (.func (.func 66) #[] #[.pointer (some ⟨be, 0, none⟩)]) K0 lo w :=
  ⟨_, _, rfl, enters_first1, fun w at' n g _ hI _ h2 => first1_any c be at' n g w hI h2⟩

/-! The tree of a pattern in memory. -/

structure Rd where
  node : Value → Prop
  row : Option Addr → Nat → Prop
  ways : Option Addr → Nat → Prop

/-- A node of the program: its cells. -/
structure NodeC (F : Nat → Prop) (w : World) (b : Nat) (kind : Int) (of : Value) (num : Int) (wa : Option Addr) (wl wc : Nat) (kid : Value) (least most how : Int) : Prop where
  fb : F b
  c0 : w.cell? ⟨b, 0, none⟩ = some (.int .i64 kind)
  c1 : w.cell? ⟨b, 1, none⟩ = some of
  c2 : w.cell? ⟨b, 2, none⟩ = some (.int .i64 num)
  c3 : w.cell? ⟨b, 3, none⟩ = some (.slice wa wl wc)
  c4 : w.cell? ⟨b, 4, none⟩ = some kid
  c5 : w.cell? ⟨b, 5, none⟩ = some (.int .i64 least)
  c6 : w.cell? ⟨b, 6, none⟩ = some (.int .i64 most)
  c7 : w.cell? ⟨b, 7, none⟩ = some (.int .i64 how)

/-- A tree in memory: as a node, as a row, as alternatives. -/
def rd (F : Nat → Prop) (w : World) (G : Nat) : Re → Rd
  | .set f => ⟨fun p => ∃ b sb num wa wl wc kid least most how, p = .pointer (some ⟨b, 0, none⟩) ∧ NodeC F w b 0 (.pointer (some ⟨sb, 0, none⟩)) num wa wl wc kid least most how ∧ F sb ∧ ∀ i, i < 256 → w.cell? ⟨sb, i, none⟩ = some (.bool (f i)), fun _ _ => False, fun _ _ => False⟩
  | .asr k => ⟨fun p => ∃ b of num wa wl wc kid least most how, p = .pointer (some ⟨b, 0, none⟩) ∧ NodeC F w b (k : Int) of num wa wl wc kid least most how ∧ 1 ≤ k ∧ k ≤ 6, fun _ _ => False, fun _ _ => False⟩
  | .bref m => ⟨fun p => ∃ b of wa wl wc kid least most how, p = .pointer (some ⟨b, 0, none⟩) ∧ NodeC F w b 7 of (m : Int) wa wl wc kid least most how ∧ 1 ≤ m ∧ m ≤ G, fun _ _ => False, fun _ _ => False⟩
  | .nil => ⟨fun _ => False, fun _ l => l = 0, fun _ _ => False⟩
  | .cat x r => ⟨fun _ => False, fun a l => ∃ b o p, a = some ⟨b, o, none⟩ ∧ F b ∧ 1 ≤ l ∧ l ≤ 1000 ∧ w.cell? ⟨b, o, none⟩ = some p ∧ (rd F w G x).node p ∧ (rd F w G r).row (some ⟨b, o + 1, none⟩) (l - 1), fun _ _ => False⟩
  | .none => ⟨fun _ => False, fun _ _ => False, fun _ l => l = 0⟩
  | .alt x r => ⟨fun _ => False, fun _ _ => False, fun a l => ∃ b o ra rl rc, a = some ⟨b, o, none⟩ ∧ F b ∧ 1 ≤ l ∧ l ≤ 1000 ∧ rl ≤ rc ∧ w.cell? ⟨b, o, none⟩ = some (.slice ra rl rc) ∧ (rd F w G x).row ra rl ∧ (rd F w G r).ways (some ⟨b, o + 1, none⟩) (l - 1)⟩
  | .grp m x => ⟨fun p => ∃ b of wa wl wc kid least most how, p = .pointer (some ⟨b, 0, none⟩) ∧ NodeC F w b 8 of (m : Int) wa wl wc kid least most how ∧ m ≤ G ∧ wl ≤ wc ∧ (rd F w G x).ways wa wl, fun _ _ => False, fun _ _ => False⟩
  | .look neg x => ⟨fun p => ∃ b of num wa wl wc kid least most how, p = .pointer (some ⟨b, 0, none⟩) ∧ NodeC F w b (if neg then 10 else 9) of num wa wl wc kid least most how ∧ wl ≤ wc ∧ (rd F w G x).ways wa wl, fun _ _ => False, fun _ _ => False⟩
  | .atom x => ⟨fun p => ∃ b of num wa wl wc kid least most how, p = .pointer (some ⟨b, 0, none⟩) ∧ NodeC F w b 11 of num wa wl wc kid least most how ∧ wl ≤ wc ∧ (rd F w G x).ways wa wl, fun _ _ => False, fun _ _ => False⟩
  | .rep x least most lazy => ⟨fun p => ∃ b of num wa wl wc kid, p = .pointer (some ⟨b, 0, none⟩) ∧ NodeC F w b 12 of num wa wl wc kid (least : Int) most (if lazy then 1 else 0) ∧ least ≤ 100 ∧ -1 ≤ most ∧ most ≤ 100 ∧ (rd F w G x).node kid, fun _ _ => False, fun _ _ => False⟩
  | .poss x least most => ⟨fun p => ∃ b of num wa wl wc kid, p = .pointer (some ⟨b, 0, none⟩) ∧ NodeC F w b 12 of num wa wl wc kid (least : Int) most 2 ∧ least ≤ 100 ∧ -1 ≤ most ∧ most ≤ 100 ∧ (rd F w G x).node kid, fun _ _ => False, fun _ _ => False⟩

/-- A tree in the world in which it was read; its blocks are no matcher's. -/
def trd (c : Cx) (a : Re) : Rd := rd (fun b => b ≠ c.bm) c.wT c.G a

theorem rd_row0 {F : Nat → Prop} {w : World} {G : Nat} {a : Re} {x y : Option Addr} (h : (rd F w G a).row x 0) : (rd F w G a).row y 0 := by
  cases a with
  | nil => exact rfl
  | cat p q => obtain ⟨b, o, p, -, -, h1, -⟩ := h; omega
  | _ => exact h.elim

/-- A cell of the tree while the pattern is tried. -/
theorem Rx.Inv.tree {c : Cx} {be n : Nat} {g : Grp} {w : World} (h : Inv c be n g w) {b o : Nat} {v : Value} (hc : c.wT.cell? ⟨b, o, none⟩ = some v) (hb : b ≠ c.bm) : w.cell? ⟨b, o, none⟩ = some v :=
  h.tr.has hc hb

def NodeOK (c : Cx) (a : Re) : Prop := ∀ (be : Nat) (p : Value) (at' : Nat) (kv : Value) (k : K) (n : Nat) (g : Grp) (w : World), (trd c a).node p → Inv c be n g w → at' ≤ c.s.size → KOK c be kv k at' w →
  Calls Try.prog 52 #[.pointer (some ⟨c.bm, 0, none⟩), p, .int .i64 (at' : Int), kv] w (Got c be w at' g (run (str c.s) c.B a at' k n g))
def RowOK (c : Cx) (a : Re) : Prop := ∀ (be : Nat) (x : Option Addr) (l cap : Nat) (at' : Nat) (kv : Value) (k : K) (n : Nat) (g : Grp) (w : World), (trd c a).row x l → l ≤ cap → Inv c be n g w → at' ≤ c.s.size → KOK c be kv k at' w →
  Calls Try.prog 92 #[.pointer (some ⟨c.bm, 0, none⟩), .slice x l cap, .int .i64 (at' : Int), kv] w (Got c be w at' g (run (str c.s) c.B a at' k n g))
/-- Alternatives from the i-th on. -/
def WaysOK (c : Cx) (a : Re) : Prop := ∀ (be b : Nat) (x : Option Addr) (l cap : Nat) (at' : Nat) (kv : Value) (k : K) (n : Nat) (g : Grp) (w : World), b ≠ c.bm → c.wT.cell? ⟨b, 3, none⟩ = some (.slice x l cap) → (trd c a).ways x l → l ≤ cap → Inv c be n g w → at' ≤ c.s.size → KOK c be kv k at' w →
  Calls Try.prog 70 #[.pointer (some ⟨c.bm, 0, none⟩), .pointer (some ⟨b, 0, none⟩), .int .i64 (at' : Int), kv] w (Got c be w at' g (run (str c.s) c.B a at' k n g))
end Go.Proofs.Ytlgpilcjcomacaa
