/-
  The program's node at repeats, atomic parts, looks ahead; every tree is tried as it should be.
-/
import Derived.Test.YtlgpilcjcomacaaMk
import Derived.Test.YtlgpilcjcomacaaMi
import Derived.Test.YtlgpilcjcomacaaMh
import Derived.Test.YtlgpilcjcomacaaMg
namespace Go.Proofs.Ytlgpilcjcomacaa
open Go.RowKit Rx
set_option linter.unusedVariables false

theorem enters_node2 (args : Array Value) (w : World) : (callFunc 73 args).run Try.prog w = .ok (.enter 73 args) w :=
  enters_of Try.func73 (by kernel_rfl) rfl args w
theorem node2_any (c : Cx) (y : Re) (b least : Nat) (most : Int) (at' : Nat) (hT : TimesOK c y b least most false (least + c.s.size + 2 - at')) (hl : least ≤ 100) (hsz : c.s.size ≤ 5000) (ha : at' ≤ c.s.size) (vm vn va : Nat) (w0 : World)
    (h1 : w0.cell? ⟨vm, 0, none⟩ = some (.pointer (some ⟨c.bm, 0, none⟩))) (h2 : w0.cell? ⟨vn, 0, none⟩ = some (.pointer (some ⟨b, 0, none⟩))) (h3 : w0.cell? ⟨va, 0, none⟩ = some (.int .i64 (at' : Int)))
    (s1 : ¬ S2 c vm) (s2 : ¬ S2 c vn) (s3 : ¬ S2 c va) :
    TryOK c (.func (.func 73) #[] #[.pointer (some ⟨vm, 0, none⟩), .pointer (some ⟨vn, 0, none⟩), .pointer (some ⟨va, 0, none⟩)]) (fun k n g => times (run (str c.s) c.B y) least most false (least + c.s.size + 2 - at') 0 at' k n g) at' w0 := by
  refine ⟨_, _, rfl, enters_node2, fun w be n g kv k t hbe hI hk => ?_⟩
  have k1 := t.has h1 s1
  have k2 := t.has h2 s2
  have k3 := t.has h3 s3
  have HW := Lib.hid (hT be 0 at' kv k n g w (by omega) (by omega) hI ha hk)
  clear h1 h2 h3 hI hk t hT
  show Calls Try.prog 73 #[kv, .pointer (some ⟨vm, 0, none⟩), .pointer (some ⟨vn, 0, none⟩), .pointer (some ⟨va, 0, none⟩)] w _
  go_enter Try.func73, Try.ntmps73
  go_wp2_with fail
  refine HW.out.mono ?_
  intro e w' hG
  have HG := Lib.hid hG
  rcases hG.ends with rfl | ⟨b, rfl⟩
  · exact ⟨rfl, HG.out⟩
  · clear hG
    go_wp2_with fail
    go_ret
    exact HG.out

set_option maxRecDepth 100000 in
set_option maxHeartbeats 1000000 in
theorem node_rep (c : Cx) (y : Re) (hNode : NodeOK c y) (be b : Nat) (of : Value) (num : Int) (wa : Option Addr) (wl wc : Nat) (kid : Value) (least : Nat) (most how : Int) (lazy : Bool) (hhow : how = if lazy then 1 else 0) (hl : least ≤ 100) (at' : Nat) (kv : Value) (k : K) (n : Nat) (g : Grp) (w : World)
    (hN : NodeC (fun b => b ≠ c.bm) c.wT b 12 of num wa wl wc kid (least : Int) most how) (hkid : (trd c y).node kid) (hI : Inv c be n g w) (ha : at' ≤ c.s.size) (hk : KOK c be kv k at' w) :
    Calls Try.prog 52 #[.pointer (some ⟨c.bm, 0, none⟩), .pointer (some ⟨b, 0, none⟩), .int .i64 (at' : Int), kv] w (Got c be w at' g (run (str c.s) c.B (.rep y least most lazy) at' k n g)) := by
  have hsz := hI.sz
  have hk0 := hk
  obtain ⟨f, cp, rfl, en, -⟩ := hk0
  obtain ⟨w4, hw4⟩ : ∃ w4, (((w.alloc (.cells #[.pointer (some ⟨c.bm, 0, none⟩)] 64)).alloc (.cells #[.pointer (some ⟨b, 0, none⟩)] 61)).alloc (.cells #[.int .i64 (at' : Int)] 3)).alloc (.cells #[.func (.func f) #[] cp] 118) = w4 := ⟨_, rfl⟩
  have T4 : Still w w4 := by rw [← hw4]; exact ((((Touch.refl _ _).alloc _).alloc _).alloc _).alloc _
  have k4 : w4.cell? ⟨w.heap.size, 0, none⟩ = some (.pointer (some ⟨c.bm, 0, none⟩)) := by rw [← hw4]; simp [go_sem]
  have k5 : w4.cell? ⟨w.heap.size + 1, 0, none⟩ = some (.pointer (some ⟨b, 0, none⟩)) := by rw [← hw4]; simp [go_sem]
  have k6 : w4.cell? ⟨w.heap.size + 1 + 1, 0, none⟩ = some (.int .i64 (at' : Int)) := by rw [← hw4]; simp [go_sem]
  have k7 : w4.cell? ⟨w.heap.size + 1 + 1 + 1, 0, none⟩ = some (.func (.func f) #[] cp) := by rw [← hw4]; simp [go_sem]
  have hz4 : w4.heap.size = w.heap.size + 1 + 1 + 1 + 1 := by rw [← hw4]; simp
  have s0 := hI.ss (b := w.heap.size) (Nat.le_refl _)
  have s1 := hI.ss (b := w.heap.size + 1) (by omega)
  have s2 := hI.ss (b := w.heap.size + 1 + 1) (by omega)
  have s3 := hI.ss (b := w.heap.size + 1 + 1 + 1) (by omega)
  have HI4 := Lib.hid (hI.keep T4)
  have HT4 : Hid (Touch (SS c be) w w4) := Lib.hid T4.ss
  have HS0 := Lib.hid s0; have HS1 := Lib.hid s1; have HS2 := Lib.hid s2; have HS3 := Lib.hid s3
  have HZ4 := Lib.hid hz4
  have kd := HI4.out.tree hN.c0 hN.fb
  have HN := Lib.hid hN
  have HK := Lib.hid hk
  have hnB := hI.nB
  have hB := hI.lB
  clear hI hk hN T4 s0 s1 s2 s3 hz4
  have HW := Lib.hid (times_any c y b of num wa wl wc kid least most how lazy HN.out hkid hNode hl (.inl hhow) (least + c.s.size + 2 - at') be 0 at' _ k n g w4 (by omega) (by omega) HI4.out ha (HK.out.later HT4.out (Nat.le_refl _)))
  have HR : Hid (run (str c.s) c.B (.rep y least most lazy) at' k n g = times (run (str c.s) c.B y) least most lazy (least + c.s.size + 2 - at') 0 at' k n g) := Lib.hid (by
    show times _ least most lazy (least + (str c.s).length + 2 - at') 0 at' k n g = _
    rw [str_len])
  have kd7 := HI4.out.tree HN.out.c7 HN.out.fb
  have hh2 : (how == 2) = false := by rw [hhow]; cases lazy <;> rfl
  clear hNode hhow
  go_enter Try.func52, Try.ntmps52
  go_wp2_with fail
  clear hw4
  refine HW.out.mono ?_
  intro e w' hG
  have HG := Lib.hid (hG.from HT4.out (Nat.le_refl _))
  rcases hG.ends with rfl | ⟨bb, rfl⟩
  · refine ⟨rfl, ?_⟩
    rw [HR.out]
    exact HG.out
  · clear hG
    go_wp2_with fail
    go_ret
    rw [HR.out]
    exact HG.out

set_option maxRecDepth 100000 in
set_option maxHeartbeats 1000000 in
theorem node_poss (c : Cx) (y : Re) (hNode : NodeOK c y) (be b : Nat) (of : Value) (num : Int) (wa : Option Addr) (wl wc : Nat) (kid : Value) (least : Nat) (most how : Int) (hhow : how = 2) (hl : least ≤ 100) (at' : Nat) (kv : Value) (k : K) (n : Nat) (g : Grp) (w : World)
    (hN : NodeC (fun b => b ≠ c.bm) c.wT b 12 of num wa wl wc kid (least : Int) most how) (hkid : (trd c y).node kid) (hI : Inv c be n g w) (ha : at' ≤ c.s.size) (hk : KOK c be kv k at' w) :
    Calls Try.prog 52 #[.pointer (some ⟨c.bm, 0, none⟩), .pointer (some ⟨b, 0, none⟩), .int .i64 (at' : Int), kv] w (Got c be w at' g (run (str c.s) c.B (.poss y least most) at' k n g)) := by
  have hsz := hI.sz
  have hk0 := hk
  obtain ⟨f, cp, rfl, en, -⟩ := hk0
  obtain ⟨w4, hw4⟩ : ∃ w4, (((w.alloc (.cells #[.pointer (some ⟨c.bm, 0, none⟩)] 64)).alloc (.cells #[.pointer (some ⟨b, 0, none⟩)] 61)).alloc (.cells #[.int .i64 (at' : Int)] 3)).alloc (.cells #[.func (.func f) #[] cp] 118) = w4 := ⟨_, rfl⟩
  have T4 : Still w w4 := by rw [← hw4]; exact ((((Touch.refl _ _).alloc _).alloc _).alloc _).alloc _
  have k4 : w4.cell? ⟨w.heap.size, 0, none⟩ = some (.pointer (some ⟨c.bm, 0, none⟩)) := by rw [← hw4]; simp [go_sem]
  have k5 : w4.cell? ⟨w.heap.size + 1, 0, none⟩ = some (.pointer (some ⟨b, 0, none⟩)) := by rw [← hw4]; simp [go_sem]
  have k6 : w4.cell? ⟨w.heap.size + 1 + 1, 0, none⟩ = some (.int .i64 (at' : Int)) := by rw [← hw4]; simp [go_sem]
  have k7 : w4.cell? ⟨w.heap.size + 1 + 1 + 1, 0, none⟩ = some (.func (.func f) #[] cp) := by rw [← hw4]; simp [go_sem]
  have hz4 : w4.heap.size = w.heap.size + 1 + 1 + 1 + 1 := by rw [← hw4]; simp
  have s0 := hI.ss (b := w.heap.size) (Nat.le_refl _)
  have s1 := hI.ss (b := w.heap.size + 1) (by omega)
  have s2 := hI.ss (b := w.heap.size + 1 + 1) (by omega)
  have s3 := hI.ss (b := w.heap.size + 1 + 1 + 1) (by omega)
  have HI4 := Lib.hid (hI.keep T4)
  have HT4 : Hid (Touch (SS c be) w w4) := Lib.hid T4.ss
  have HS0 := Lib.hid s0; have HS1 := Lib.hid s1; have HS2 := Lib.hid s2; have HS3 := Lib.hid s3
  have HZ4 := Lib.hid hz4
  have kd := HI4.out.tree hN.c0 hN.fb
  have HN := Lib.hid hN
  have HK := Lib.hid hk
  have hnB := hI.nB
  have hB := hI.lB
  clear hI hk hN T4 s0 s1 s2 s3 hz4
  have d0 : ¬ S2 c w.heap.size := fun e => HS0.out (e.elim .inl (fun e => .inr (.inl e)))
  have d1 : ¬ S2 c (w.heap.size + 1) := fun e => HS1.out (e.elim .inl (fun e => .inr (.inl e)))
  have d2 : ¬ S2 c (w.heap.size + 1 + 1) := fun e => HS2.out (e.elim .inl (fun e => .inr (.inl e)))
  have HW := Lib.hid (alone_any c be _ _ at' _ k n g w4 (node2_any c y b least most at' (times_any c y b of num wa wl wc kid least most how false HN.out hkid hNode hl (.inr ⟨hhow, rfl⟩) _) hl hsz ha _ _ _ w4 k4 k5 k6 d0 d1 d2) HI4.out (HK.out.later HT4.out (Nat.le_refl _)))
  have HR : Hid (run (str c.s) c.B (.poss y least most) at' k n g = alone (times (run (str c.s) c.B y) least most false (least + c.s.size + 2 - at') 0 at' K0 n g) k) := Lib.hid (by
    show alone (times _ least most false (least + (str c.s).length + 2 - at') 0 at' K0 n g) k = _
    rw [str_len])
  have kd7 := HI4.out.tree HN.out.c7 HN.out.fb
  subst hhow
  clear hNode d0 d1 d2
  go_enter Try.func52, Try.ntmps52
  go_wp2_with fail
  clear hw4
  refine HW.out.mono ?_
  intro e w' hG
  have HG := Lib.hid (hG.from HT4.out (Nat.le_refl _))
  rcases hG.ends with rfl | ⟨bb, rfl⟩
  · refine ⟨rfl, ?_⟩
    rw [HR.out]
    exact HG.out
  · clear hG
    go_wp2_with fail
    go_ret
    rw [HR.out]
    exact HG.out

set_option maxRecDepth 100000 in
set_option maxHeartbeats 1000000 in
theorem node_atom (c : Cx) (y : Re) (hW : WaysOK c y) (be b : Nat) (of : Value) (num : Int) (wa : Option Addr) (wl wc : Nat) (kid : Value) (least most how : Int)  (at' : Nat) (kv : Value) (k : K) (n : Nat) (g : Grp) (w : World)
    (hN : NodeC (fun b => b ≠ c.bm) c.wT b 11 of num wa wl wc kid least most how) (hx : (trd c y).ways wa wl) (hl : wl ≤ wc) (hI : Inv c be n g w) (ha : at' ≤ c.s.size) (hk : KOK c be kv k at' w) :
    Calls Try.prog 52 #[.pointer (some ⟨c.bm, 0, none⟩), .pointer (some ⟨b, 0, none⟩), .int .i64 (at' : Int), kv] w (Got c be w at' g (run (str c.s) c.B (.atom y) at' k n g)) := by
  have hsz := hI.sz
  have hk0 := hk
  obtain ⟨f, cp, rfl, en, -⟩ := hk0
  obtain ⟨w4, hw4⟩ : ∃ w4, (((w.alloc (.cells #[.pointer (some ⟨c.bm, 0, none⟩)] 64)).alloc (.cells #[.pointer (some ⟨b, 0, none⟩)] 61)).alloc (.cells #[.int .i64 (at' : Int)] 3)).alloc (.cells #[.func (.func f) #[] cp] 118) = w4 := ⟨_, rfl⟩
  have T4 : Still w w4 := by rw [← hw4]; exact ((((Touch.refl _ _).alloc _).alloc _).alloc _).alloc _
  have k4 : w4.cell? ⟨w.heap.size, 0, none⟩ = some (.pointer (some ⟨c.bm, 0, none⟩)) := by rw [← hw4]; simp [go_sem]
  have k5 : w4.cell? ⟨w.heap.size + 1, 0, none⟩ = some (.pointer (some ⟨b, 0, none⟩)) := by rw [← hw4]; simp [go_sem]
  have k6 : w4.cell? ⟨w.heap.size + 1 + 1, 0, none⟩ = some (.int .i64 (at' : Int)) := by rw [← hw4]; simp [go_sem]
  have k7 : w4.cell? ⟨w.heap.size + 1 + 1 + 1, 0, none⟩ = some (.func (.func f) #[] cp) := by rw [← hw4]; simp [go_sem]
  have hz4 : w4.heap.size = w.heap.size + 1 + 1 + 1 + 1 := by rw [← hw4]; simp
  have s0 := hI.ss (b := w.heap.size) (Nat.le_refl _)
  have s1 := hI.ss (b := w.heap.size + 1) (by omega)
  have s2 := hI.ss (b := w.heap.size + 1 + 1) (by omega)
  have s3 := hI.ss (b := w.heap.size + 1 + 1 + 1) (by omega)
  have HI4 := Lib.hid (hI.keep T4)
  have HT4 : Hid (Touch (SS c be) w w4) := Lib.hid T4.ss
  have HS0 := Lib.hid s0; have HS1 := Lib.hid s1; have HS2 := Lib.hid s2; have HS3 := Lib.hid s3
  have HZ4 := Lib.hid hz4
  have kd := HI4.out.tree hN.c0 hN.fb
  have HN := Lib.hid hN
  have HK := Lib.hid hk
  have hnB := hI.nB
  have hB := hI.lB
  clear hI hk hN T4 s0 s1 s2 s3 hz4
  have d0 : ¬ S2 c w.heap.size := fun e => HS0.out (e.elim .inl (fun e => .inr (.inl e)))
  have d1 : ¬ S2 c (w.heap.size + 1) := fun e => HS1.out (e.elim .inl (fun e => .inr (.inl e)))
  have d2 : ¬ S2 c (w.heap.size + 1 + 1) := fun e => HS2.out (e.elim .inl (fun e => .inr (.inl e)))
  have HW := Lib.hid (alone_any c be _ _ at' _ k n g w4 (node3_any c y hW b wa wl wc at' HN.out.fb HN.out.c3 hx hl ha _ _ _ w4 k4 k5 k6 d0 d1 d2) HI4.out (HK.out.later HT4.out (Nat.le_refl _)))
  have HR : Hid (run (str c.s) c.B (.atom y) at' k n g = alone (run (str c.s) c.B y at' K0 n g) k) := Lib.hid rfl
  clear hW d0 d1 d2
  go_enter Try.func52, Try.ntmps52
  go_wp2_with fail
  clear hw4
  refine HW.out.mono ?_
  intro e w' hG
  have HG := Lib.hid (hG.from HT4.out (Nat.le_refl _))
  rcases hG.ends with rfl | ⟨bb, rfl⟩
  · refine ⟨rfl, ?_⟩
    rw [HR.out]
    exact HG.out
  · clear hG
    go_wp2_with fail
    go_ret
    rw [HR.out]
    exact HG.out

set_option maxRecDepth 100000 in
set_option maxHeartbeats 1000000 in
theorem node_not (c : Cx) (y : Re) (hW : WaysOK c y) (be b : Nat) (of : Value) (num : Int) (wa : Option Addr) (wl wc : Nat) (kid : Value) (least most how : Int)  (at' : Nat) (kv : Value) (k : K) (n : Nat) (g : Grp) (w : World)
    (hN : NodeC (fun b => b ≠ c.bm) c.wT b 10 of num wa wl wc kid least most how) (hx : (trd c y).ways wa wl) (hl : wl ≤ wc) (hI : Inv c be n g w) (ha : at' ≤ c.s.size) (hk : KOK c be kv k at' w) :
    Calls Try.prog 52 #[.pointer (some ⟨c.bm, 0, none⟩), .pointer (some ⟨b, 0, none⟩), .int .i64 (at' : Int), kv] w (Got c be w at' g (run (str c.s) c.B (.look true y) at' k n g)) := by
  have hsz := hI.sz
  have hk0 := hk
  obtain ⟨f, cp, rfl, en, -⟩ := hk0
  obtain ⟨w4, hw4⟩ : ∃ w4, (((w.alloc (.cells #[.pointer (some ⟨c.bm, 0, none⟩)] 64)).alloc (.cells #[.pointer (some ⟨b, 0, none⟩)] 61)).alloc (.cells #[.int .i64 (at' : Int)] 3)).alloc (.cells #[.func (.func f) #[] cp] 118) = w4 := ⟨_, rfl⟩
  have T4 : Still w w4 := by rw [← hw4]; exact ((((Touch.refl _ _).alloc _).alloc _).alloc _).alloc _
  have k4 : w4.cell? ⟨w.heap.size, 0, none⟩ = some (.pointer (some ⟨c.bm, 0, none⟩)) := by rw [← hw4]; simp [go_sem]
  have k5 : w4.cell? ⟨w.heap.size + 1, 0, none⟩ = some (.pointer (some ⟨b, 0, none⟩)) := by rw [← hw4]; simp [go_sem]
  have k6 : w4.cell? ⟨w.heap.size + 1 + 1, 0, none⟩ = some (.int .i64 (at' : Int)) := by rw [← hw4]; simp [go_sem]
  have k7 : w4.cell? ⟨w.heap.size + 1 + 1 + 1, 0, none⟩ = some (.func (.func f) #[] cp) := by rw [← hw4]; simp [go_sem]
  have hz4 : w4.heap.size = w.heap.size + 1 + 1 + 1 + 1 := by rw [← hw4]; simp
  have s0 := hI.ss (b := w.heap.size) (Nat.le_refl _)
  have s1 := hI.ss (b := w.heap.size + 1) (by omega)
  have s2 := hI.ss (b := w.heap.size + 1 + 1) (by omega)
  have s3 := hI.ss (b := w.heap.size + 1 + 1 + 1) (by omega)
  have HI4 := Lib.hid (hI.keep T4)
  have HT4 : Hid (Touch (SS c be) w w4) := Lib.hid T4.ss
  have HS0 := Lib.hid s0; have HS1 := Lib.hid s1; have HS2 := Lib.hid s2; have HS3 := Lib.hid s3
  have HZ4 := Lib.hid hz4
  have kd := HI4.out.tree hN.c0 hN.fb
  have HN := Lib.hid hN
  have HK := Lib.hid hk
  have hnB := hI.nB
  have hB := hI.lB
  clear hI hk hN T4 s0 s1 s2 s3 hz4
  have HW := Lib.hid (look_not c y hW be b of num wa wl wc kid least most how at' _ k n g w4 HN.out hx hl HI4.out ha (HK.out.later HT4.out (Nat.le_refl _)))
  clear hW
  go_enter Try.func52, Try.ntmps52
  go_wp2_with fail
  clear hw4
  refine HW.out.mono ?_
  intro e w' hG
  have HG := Lib.hid (hG.from HT4.out (Nat.le_refl _))
  rcases hG.ends with rfl | ⟨bb, rfl⟩
  · refine ⟨rfl, ?_⟩
    exact HG.out
  · clear hG
    go_wp2_with fail
    go_ret
    exact HG.out

set_option maxRecDepth 100000 in
set_option maxHeartbeats 1000000 in
theorem node_look (c : Cx) (y : Re) (hW : WaysOK c y) (be b : Nat) (of : Value) (num : Int) (wa : Option Addr) (wl wc : Nat) (kid : Value) (least most how : Int)  (at' : Nat) (kv : Value) (k : K) (n : Nat) (g : Grp) (w : World)
    (hN : NodeC (fun b => b ≠ c.bm) c.wT b 9 of num wa wl wc kid least most how) (hx : (trd c y).ways wa wl) (hl : wl ≤ wc) (hI : Inv c be n g w) (ha : at' ≤ c.s.size) (hk : KOK c be kv k at' w) :
    Calls Try.prog 52 #[.pointer (some ⟨c.bm, 0, none⟩), .pointer (some ⟨b, 0, none⟩), .int .i64 (at' : Int), kv] w (Got c be w at' g (run (str c.s) c.B (.look false y) at' k n g)) := by
  have hsz := hI.sz
  have hk0 := hk
  obtain ⟨f, cp, rfl, en, -⟩ := hk0
  obtain ⟨w4, hw4⟩ : ∃ w4, (((w.alloc (.cells #[.pointer (some ⟨c.bm, 0, none⟩)] 64)).alloc (.cells #[.pointer (some ⟨b, 0, none⟩)] 61)).alloc (.cells #[.int .i64 (at' : Int)] 3)).alloc (.cells #[.func (.func f) #[] cp] 118) = w4 := ⟨_, rfl⟩
  have T4 : Still w w4 := by rw [← hw4]; exact ((((Touch.refl _ _).alloc _).alloc _).alloc _).alloc _
  have k4 : w4.cell? ⟨w.heap.size, 0, none⟩ = some (.pointer (some ⟨c.bm, 0, none⟩)) := by rw [← hw4]; simp [go_sem]
  have k5 : w4.cell? ⟨w.heap.size + 1, 0, none⟩ = some (.pointer (some ⟨b, 0, none⟩)) := by rw [← hw4]; simp [go_sem]
  have k6 : w4.cell? ⟨w.heap.size + 1 + 1, 0, none⟩ = some (.int .i64 (at' : Int)) := by rw [← hw4]; simp [go_sem]
  have k7 : w4.cell? ⟨w.heap.size + 1 + 1 + 1, 0, none⟩ = some (.func (.func f) #[] cp) := by rw [← hw4]; simp [go_sem]
  have hz4 : w4.heap.size = w.heap.size + 1 + 1 + 1 + 1 := by rw [← hw4]; simp
  have s0 := hI.ss (b := w.heap.size) (Nat.le_refl _)
  have s1 := hI.ss (b := w.heap.size + 1) (by omega)
  have s2 := hI.ss (b := w.heap.size + 1 + 1) (by omega)
  have s3 := hI.ss (b := w.heap.size + 1 + 1 + 1) (by omega)
  have HI4 := Lib.hid (hI.keep T4)
  have HT4 : Hid (Touch (SS c be) w w4) := Lib.hid T4.ss
  have HS0 := Lib.hid s0; have HS1 := Lib.hid s1; have HS2 := Lib.hid s2; have HS3 := Lib.hid s3
  have HZ4 := Lib.hid hz4
  have kd := HI4.out.tree hN.c0 hN.fb
  have HN := Lib.hid hN
  have HK := Lib.hid hk
  have hnB := hI.nB
  have hB := hI.lB
  clear hI hk hN T4 s0 s1 s2 s3 hz4
  have HW := Lib.hid (look_yes c y hW be b of num wa wl wc kid least most how at' _ k n g w4 HN.out hx hl HI4.out ha (HK.out.later HT4.out (Nat.le_refl _)))
  clear hW
  go_enter Try.func52, Try.ntmps52
  go_wp2_with fail
  clear hw4
  refine HW.out.mono ?_
  intro e w' hG
  have HG := Lib.hid (hG.from HT4.out (Nat.le_refl _))
  rcases hG.ends with rfl | ⟨bb, rfl⟩
  · refine ⟨rfl, ?_⟩
    exact HG.out
  · clear hG
    go_wp2_with fail
    go_ret
    exact HG.out

theorem all_ok (c : Cx) : ∀ a, NodeOK c a ∧ RowOK c a ∧ AllRows c a := by
  intro a
  induction a with
  | set f =>
    refine ⟨?_, fun _ _ _ _ _ _ _ _ _ _ h => h.elim, trivial⟩
    intro be p at' kv k n g w hp hI ha hk
    obtain ⟨b, sb, num, wa, wl, wc, kid, least, most, how, rfl, hN, hsb, hset⟩ := hp
    exact node_set c f be b sb num wa wl wc kid least most how at' kv k n g w hN hsb hset hI ha hk
  | asr ka =>
    refine ⟨?_, fun _ _ _ _ _ _ _ _ _ _ h => h.elim, trivial⟩
    intro be p at' kv k n g w hp hI ha hk
    obtain ⟨b, of, num, wa, wl, wc, kid, least, most, how, rfl, hN, h1, h6⟩ := hp
    exact node_asr c ka h1 h6 be b of num wa wl wc kid least most how at' kv k n g w hN hI ha hk
  | bref m =>
    refine ⟨?_, fun _ _ _ _ _ _ _ _ _ _ h => h.elim, trivial⟩
    intro be p at' kv k n g w hp hI ha hk
    obtain ⟨b, of, wa, wl, wc, kid, least, most, how, rfl, hN, h1, hG⟩ := hp
    exact node_bref c m h1 hG be b of wa wl wc kid least most how at' kv k n g w hN hI ha hk
  | nil => exact ⟨fun _ _ _ _ _ _ _ _ h => h.elim, row_nil c, trivial⟩
  | cat x r ihx ihr => exact ⟨fun _ _ _ _ _ _ _ _ h => h.elim, row_cat c x r ihx.1 ihr.2.1, trivial⟩
  | none => exact ⟨fun _ _ _ _ _ _ _ _ h => h.elim, fun _ _ _ _ _ _ _ _ _ _ h => h.elim, trivial⟩
  | alt x r ihx ihr => exact ⟨fun _ _ _ _ _ _ _ _ h => h.elim, fun _ _ _ _ _ _ _ _ _ _ h => h.elim, ihx.2.1, ihr.2.2⟩
  | grp m x ih =>
    refine ⟨?_, fun _ _ _ _ _ _ _ _ _ _ h => h.elim, trivial⟩
    intro be p at' kv k n g w hp hI ha hk
    obtain ⟨b, of, wa, wl, wc, kid, least, most, how, rfl, hN, hG, hl, hx⟩ := hp
    by_cases h0 : m = 0
    · exact node_grp0 c x (ways_any c x ih.2.2) m h0 be b of wa wl wc kid least most how at' kv k n g w hN hx hl hI ha hk
    · exact node_grp c x (ways_any c x ih.2.2) m (by omega) hG be b of wa wl wc kid least most how at' kv k n g w hN hx hl hI ha hk
  | look neg x ih =>
    refine ⟨?_, fun _ _ _ _ _ _ _ _ _ _ h => h.elim, trivial⟩
    intro be p at' kv k n g w hp hI ha hk
    obtain ⟨b, of, num, wa, wl, wc, kid, least, most, how, rfl, hN, hl, hx⟩ := hp
    have hW := ways_any c x ih.2.2
    cases neg with
    | true => exact node_not c x hW be b of num wa wl wc kid least most how at' kv k n g w hN hx hl hI ha hk
    | false => exact node_look c x hW be b of num wa wl wc kid least most how at' kv k n g w hN hx hl hI ha hk
  | atom x ih =>
    refine ⟨?_, fun _ _ _ _ _ _ _ _ _ _ h => h.elim, trivial⟩
    intro be p at' kv k n g w hp hI ha hk
    obtain ⟨b, of, num, wa, wl, wc, kid, least, most, how, rfl, hN, hl, hx⟩ := hp
    exact node_atom c x (ways_any c x ih.2.2) be b of num wa wl wc kid least most how at' kv k n g w hN hx hl hI ha hk
  | rep x least most lazy ih =>
    refine ⟨?_, fun _ _ _ _ _ _ _ _ _ _ h => h.elim, trivial⟩
    intro be p at' kv k n g w hp hI ha hk
    obtain ⟨b, of, num, wa, wl, wc, kid, rfl, hN, hl, -, -, hx⟩ := hp
    exact node_rep c x ih.1 be b of num wa wl wc kid least most _ lazy rfl hl at' kv k n g w hN hx hI ha hk
  | poss x least most ih =>
    refine ⟨?_, fun _ _ _ _ _ _ _ _ _ _ h => h.elim, trivial⟩
    intro be p at' kv k n g w hp hI ha hk
    obtain ⟨b, of, num, wa, wl, wc, kid, rfl, hN, hl, -, -, hx⟩ := hp
    exact node_poss c x ih.1 be b of num wa wl wc kid least most 2 rfl hl at' kv k n g w hN hx hI ha hk
end Go.Proofs.Ytlgpilcjcomacaa
