/-
  The program's row and its closure; alternatives.
-/
import Derived.Test.YtlgpilcjcomacaaMb
namespace Go.Proofs.Ytlgpilcjcomacaa
open Go.RowKit Rx
set_option linter.unusedVariables false

theorem row_nil (c : Cx) : RowOK c .nil := by
  intro be x l cap at' kv k n g w hr hl hI ha hk
  obtain rfl : l = 0 := hr
  obtain ⟨f, cp, rfl, en, hk⟩ := hk
  have HI := Lib.hid hI; clear hI
  have HK := Lib.hid hk; clear hk
  show Calls _ _ _ _ (Got c be w at' g (k at' n g))
  go_enter Try.func92, Try.ntmps92
  go_wp2_with fail
  refine (HK.out _ at' n g ((((Touch.refl _ _).alloc _).alloc _).alloc _) (HI.out.keep ((((Touch.refl _ _).alloc _).alloc _).alloc _)) (Nat.le_refl _) ha).mono ?_
  intro e w' hG
  have HG := Lib.hid (hG.from ((((Touch.refl _ _).alloc _).alloc _).alloc _) (Nat.le_refl _))
  rcases hG.ends with rfl | ⟨b, rfl⟩
  · exact ⟨rfl, HG.out⟩
  · clear hG
    go_wp2_with fail
    go_ret
    exact HG.out

theorem enters_row1 (args : Array Value) (w : World) : (callFunc 103 args).run Try.prog w = .ok (.enter 103 args) w :=
  enters_of Try.func103 (by kernel_rfl) rfl args w

theorem run_rest (b o l cap : Nat) (hl : l ≤ cap) : ∃ a : Option Addr, (l = 0 ∨ a = some ⟨b, o + 1, none⟩) ∧ ∀ w : World, (Instr.slice 79 (.slice (some ⟨b, o, none⟩) (l + 1) (cap + 1)) (some (.int .i64 1)) none none).run Try.prog w = .ok (.slice a l cap) w := by
  refine ⟨if cap = 0 then some ⟨b, o, none⟩ else some ⟨b, o + 1, none⟩, ?_, fun w => ?_⟩
  · by_cases h : cap = 0
    · exact .inl (by omega)
    · exact .inr (if_neg h)
  have h1 : (1 : Int) ≤ (l : Int) + 1 := by omega
  simp [Instr.slice, go_sem, h1]

set_option maxRecDepth 100000 in
/-- The rest of a row, from the closure's variables. -/
theorem row1_any (c : Cx) (r : Re) (hR : RowOK c r) (be : Nat) (b o l cap : Nat) (hrow : (trd c r).row (some ⟨b, o + 1, none⟩) l) (hl : l ≤ cap) (kv : Value) (k : K) (n : Nat) (g : Grp) (w : World) (vm vl vk : Nat)
    (h1 : w.cell? ⟨vm, 0, none⟩ = some (.pointer (some ⟨c.bm, 0, none⟩))) (h2 : w.cell? ⟨vl, 0, none⟩ = some (.slice (some ⟨b, o, none⟩) (l + 1) (cap + 1))) (h3 : w.cell? ⟨vk, 0, none⟩ = some kv)
    (at' : Nat) (hI : Inv c be n g w) (ha : at' ≤ c.s.size) (hk : KOK c be kv k at' w) :
    Calls Try.prog 103 #[.int .i64 (at' : Int), .pointer (some ⟨vm, 0, none⟩), .pointer (some ⟨vl, 0, none⟩), .pointer (some ⟨vk, 0, none⟩)] w (Got c be w at' g (run (str c.s) c.B r at' k n g)) := by
  have HH0 : ∀ (x : Option Addr) (q : Nat), (l = 0 ∨ x = some ⟨b, o + 1, none⟩) → Calls Try.prog 92 #[.pointer (some ⟨c.bm, 0, none⟩), .slice x l cap, .int .i64 (at' : Int), kv] (w.drewN q) (Got c be (w.drewN q) at' g (run (str c.s) c.B r at' k n g)) := fun x q hx =>
    hR be x l cap at' kv k n g (w.drewN q) (by rcases hx with h | h; · subst h; exact rd_row0 hrow
                                               · rw [h]; exact hrow) hl (hI.keep ((Touch.refl _ _).drewN q)) ha (hk.later ((Touch.refl _ _).drewN q) (Nat.le_refl _))
  have HH := Lib.hid HH0; clear HH0
  obtain ⟨x, hx, hsl⟩ := run_rest b o l cap hl
  have HX := Lib.hid hx; clear hx
  clear hI hk hR hrow
  go_enter Try.func103, Try.ntmps103
  go_wp2_with fail
  go_still_tail 5, (by kernel_rfl)
  change wpList _ _ _ _ _ w.drew
  go_wp2_with fail
  refine (HH.out x 1 HX.out).mono ?_
  intro e w' hG
  have HG := Lib.hid (hG.from ((Touch.refl _ _).drewN 1) (Nat.le_refl _))
  rcases hG.ends with rfl | ⟨b, rfl⟩
  · exact ⟨rfl, HG.out⟩
  · clear hG
    go_wp2_with fail
    go_ret
    exact HG.out

set_option maxRecDepth 100000 in
theorem row_cat (c : Cx) (y r : Re) (hN : NodeOK c y) (hR : RowOK c r) : RowOK c (.cat y r) := by
  intro be x l cap at' kv k n g w hr hl hI ha hk
  obtain ⟨b, o, p, rfl, hb, hl1, hl2, hc, hp, hrr⟩ := hr
  obtain ⟨l, rfl⟩ : ∃ m, l = m + 1 := ⟨l - 1, by omega⟩
  obtain ⟨cap, rfl⟩ : ∃ m, cap = m + 1 := ⟨cap - 1, by omega⟩
  have hk2 := hk
  obtain ⟨f, cp, rfl, -, -⟩ := hk2
  obtain ⟨w3, hw3⟩ : ∃ w3, ((w.alloc (.cells #[.pointer (some ⟨c.bm, 0, none⟩)] 64)).alloc (.cells #[.slice (some ⟨b, o, none⟩) (l + 1) (cap + 1)] 79)).alloc (.cells #[.func (.func f) #[] cp] 118) = w3 := ⟨_, rfl⟩
  have T3 : Still w w3 := by rw [← hw3]; exact (((Touch.refl _ _).alloc _).alloc _).alloc _
  have k0 : w3.cell? ⟨w.heap.size, 0, none⟩ = some (.pointer (some ⟨c.bm, 0, none⟩)) := by rw [← hw3]; simp [go_sem]
  have k1 : w3.cell? ⟨w.heap.size + 1, 0, none⟩ = some (.slice (some ⟨b, o, none⟩) (l + 1) (cap + 1)) := by rw [← hw3]; simp [go_sem]
  have k2 : w3.cell? ⟨w.heap.size + 1 + 1, 0, none⟩ = some (.func (.func f) #[] cp) := by rw [← hw3]; simp [go_sem]
  have kb := T3.has (hI.tree hc hb) id
  have HT : Hid (Touch (SS c be) w w3.drew) := Lib.hid (Touch.mono T3.drew (fun _ _ h => h.elim))
  have s0 := hI.ss (b := w.heap.size) (Nat.le_refl _)
  have s1 := hI.ss (b := w.heap.size + 1) (by omega)
  have s2 := hI.ss (b := w.heap.size + 1 + 1) (by omega)
  have HN := Lib.hid (hN be p at' (.func (.func 103) #[] #[.pointer (some ⟨w.heap.size, 0, none⟩), .pointer (some ⟨w.heap.size + 1, 0, none⟩), .pointer (some ⟨w.heap.size + 1 + 1, 0, none⟩)]) (fun e n g => run (str c.s) c.B r e k n g) n g w3.drew hp (hI.keep T3.drew) ha
    ⟨_, _, rfl, enters_row1, fun w1 a1 n1 g1 t1 hI1 h1 h2 => row1_any c r hR be b o l cap hrr (by omega) _ k n1 g1 w1 _ _ _
      (t1.has k0 s0) (t1.has k1 s1) (t1.has k2 s2) a1 hI1 h2 (hk.later (HT.out.then t1) h1)⟩)
  clear hI hk hc hp hrr T3 hN hR s0 s1 s2
  show Calls _ _ _ _ (Got c be w at' g (run (str c.s) c.B y at' (fun e n g => run (str c.s) c.B r e k n g) n g))
  go_enter Try.func92, Try.ntmps92
  go_wp2_with fail
  clear hw3
  go_still_tail 6, (by kernel_rfl)
  change wpList _ _ _ _ _ (World.drew _)
  go_wp2_with fail
  refine HN.out.mono ?_
  intro e w' hG
  have HG := Lib.hid (hG.from HT.out (Nat.le_refl _))
  rcases hG.ends with rfl | ⟨b, rfl⟩
  · exact ⟨rfl, HG.out⟩
  · clear hG
    go_wp2_with fail
    go_ret
    exact HG.out

/-- The rows of alternatives are as they should be. -/
def AllRows (c : Cx) : Re → Prop
  | .alt y r => RowOK c y ∧ AllRows c r
  | _ => True

theorem trd_ways {c : Cx} {a : Re} {x : Option Addr} {l : Nat} (h : (trd c a).ways x l) (hl : l = 0) (s : List UInt8) (B at' : Nat) (k : K) (n : Nat) (g : Grp) : run s B a at' k n g = .no n := by
  cases a with
  | none => rfl
  | alt y r => obtain ⟨b, o, ra, rl, rc, -, -, h1, -⟩ := h; omega
  | _ => exact h.elim

set_option maxRecDepth 100000 in
theorem ways_nil (c : Cx) (a : Re) (be b : Nat) (x : Option Addr) (cap at' : Nat) (kv : Value) (k : K) (n : Nat) (g : Grp) (w : World) (hb : b ≠ c.bm) (hc : c.wT.cell? ⟨b, 3, none⟩ = some (.slice x 0 cap)) (hw : (trd c a).ways x 0) (hI : Inv c be n g w) (hk : ∃ f cp, kv = .func (.func f) #[] cp) :
    Calls Try.prog 70 #[.pointer (some ⟨c.bm, 0, none⟩), .pointer (some ⟨b, 0, none⟩), .int .i64 (at' : Int), kv] w (Got c be w at' g (run (str c.s) c.B a at' k n g)) := by
  have hcw := hI.tree hc hb
  have HI := Lib.hid hI; clear hI
  rw [trd_ways hw rfl]
  clear hc hw
  obtain ⟨f, cp, rfl⟩ := hk
  go_enter Try.func70, Try.ntmps70
  go_wp2_with fail
  go_loopw [16] (fun ii wr => ii = .int .i64 0 ∧ w = wr) (fun _ _ => 0)
  case atStart => exact ⟨rfl, rfl⟩
  case round =>
    obtain ⟨rfl, rfl⟩ := hrel
    go_wp2_with fail
    go_ret
    exact ⟨rfl, HI.out, Touch.refl _ _⟩

set_option maxRecDepth 100000 in
theorem ways_some (c : Cx) (a : Re) (hR : AllRows c a) (be b b0 o0 l cap at' : Nat) (kv : Value) (k : K) (n : Nat) (g : Grp) (w : World) (hb : b ≠ c.bm) (hc : c.wT.cell? ⟨b, 3, none⟩ = some (.slice (some ⟨b0, o0, none⟩) l cap)) (hw : (trd c a).ways (some ⟨b0, o0, none⟩) l) (hl : l ≤ cap) (h1000 : l ≤ 1000) (hI : Inv c be n g w) (ha : at' ≤ c.s.size) (hk : KOK c be kv k at' w) :
    Calls Try.prog 70 #[.pointer (some ⟨c.bm, 0, none⟩), .pointer (some ⟨b, 0, none⟩), .int .i64 (at' : Int), kv] w (Got c be w at' g (run (str c.s) c.B a at' k n g)) := by
  have hcw := hI.tree hc hb
  have HI := Lib.hid hI; clear hI
  have HW := Lib.hid hw; clear hw
  have HK := Lib.hid hk; clear hk
  have HR := Lib.hid hR; clear hR
  obtain ⟨f, cp, hkv⟩ : ∃ f cp, kv = .func (.func f) #[] cp := by obtain ⟨f, cp, h, -, -⟩ := HK.out; exact ⟨f, cp, h⟩
  subst hkv
  clear hc
  go_enter Try.func70, Try.ntmps70
  go_wp2_with fail
  go_loopw [16] (fun ii wr => ∃ (j n' : Nat) (a' : Re), ii = .int .i64 j ∧ j ≤ l ∧ Hid ((trd c a').ways (some ⟨b0, o0 + j, none⟩) (l - j)) ∧ Hid (run (str c.s) c.B a at' k n g = run (str c.s) c.B a' at' k n' g) ∧ Hid (Inv c be n' g wr) ∧ Hid (Touch (SS c be) w wr) ∧ Hid (AllRows c a')) (fun ii _ => l - (intOf ii).toNat)
  case atStart => exact ⟨0, n, a, rfl, Nat.zero_le _, HW, Lib.hid rfl, HI, Lib.hid (Touch.refl _ _), HR⟩
  case round =>
    clear HR
    obtain ⟨j, n', a', rfl, hj, HA, HE, HIr, HT, HR⟩ := hrel
    by_cases hlt : j < l
    · obtain ⟨y, r, ra, rl, rc, e1, hb0, hrc, hcr, hy, hr⟩ : ∃ y r ra rl rc, a' = .alt y r ∧ b0 ≠ c.bm ∧ rl ≤ rc ∧ c.wT.cell? ⟨b0, o0 + j, none⟩ = some (.slice ra rl rc) ∧ (trd c y).row ra rl ∧ (trd c r).ways (some ⟨b0, o0 + j + 1, none⟩) (l - j - 1) := by
        have hA := HA.out
        cases a' with
        | none => have : l - j = 0 := hA; omega
        | alt y r =>
          obtain ⟨b, o, ra, rl, rc, h1, h2, -, -, h3, h4, h5, h6⟩ := hA
          obtain ⟨rfl, rfl⟩ : b0 = b ∧ o0 + j = o := by simpa using h1
          exact ⟨y, r, ra, rl, rc, rfl, h2, h3, h4, h5, h6⟩
        | _ => exact hA.elim
      subst e1
      have hcj := HIr.out.tree hcr hb0
      have HC := Lib.hid (HR.out.1 be ra rl rc at' _ k n' g wr hy hrc HIr.out ha (HK.out.later HT.out (Nat.le_refl _)))
      have HRR := Lib.hid hr; clear hr hy hcr
      generalize hq : run (str c.s) c.B y at' k n' g = q at HC
      have HQ := Lib.hid hq; clear hq
      go_wp2_with fail
      refine HC.out.mono ?_
      intro e w' hG
      cases q with
      | over => 
        obtain ⟨rfl, ht⟩ := hG
        refine ⟨rfl, ?_⟩
        rw [HE.out]
        show Got c be w at' g (orElse (run (str c.s) c.B y at' k n' g) _) _ _
        rw [HQ.out]
        exact ⟨rfl, HT.out.then ht⟩
      | no n2 =>
        obtain ⟨rfl, hI2, ht⟩ := hG
        have HI2 := Lib.hid hI2; clear hI2
        have HT2 := Lib.hid (HT.out.then ht); clear ht
        go_wp2_with fail
        go_roundw
        case rel => 
          refine ⟨j + 1, n2, r, by go_num, by omega, ?_, ?_, HI2, HT2, Lib.hid HR.out.2⟩
          · rw [show l - (j + 1) = l - j - 1 by omega]; exact HRR
          · refine Lib.hid ?_
            rw [HE.out]
            show orElse (run (str c.s) c.B y at' k n' g) _ = _
            rw [HQ.out]; rfl
        case measure => simp [intOf]; omega
      | yes n2 h2 x2 =>
        obtain ⟨rfl, hI2, hH2, hlo, hsz, ht⟩ := hG
        have HI2 := Lib.hid hI2; clear hI2
        have HH2 := Lib.hid hH2; clear hH2
        have HT2 := Lib.hid (HT.out.then ht); clear ht
        go_wp2_with fail
        go_ret
        rw [HE.out]
        show Got c be w at' g (orElse (run (str c.s) c.B y at' k n' g) _) _ _
        rw [HQ.out]
        exact ⟨rfl, HI2.out, HH2.out, hlo, hsz, HT2.out⟩
    · go_wp2_with fail
      go_ret
      rw [HE.out, trd_ways HA.out (by omega)]
      exact ⟨rfl, HIr.out, HT.out⟩

theorem ways_any (c : Cx) (a : Re) (hR : AllRows c a) : WaysOK c a := by
  intro be b x l cap at' kv k n g w hb hc hw hl hI ha hk
  by_cases h0 : l = 0
  · subst h0
    exact ways_nil c a be b x cap at' kv k n g w hb hc hw hI (by obtain ⟨f, cp, h, -, -⟩ := hk; exact ⟨f, cp, h⟩)
  · cases a with
    | none => exact absurd hw h0
    | alt y r =>
      have hw' := hw
      obtain ⟨b0, o0, ra, rl, rc, rfl, -, -, h4, -⟩ := hw'
      exact ways_some c _ hR be b b0 o0 l cap at' kv k n g w hb hc hw hl h4 hI ha hk
    | _ => exact hw.elim
end Go.Proofs.Ytlgpilcjcomacaa
