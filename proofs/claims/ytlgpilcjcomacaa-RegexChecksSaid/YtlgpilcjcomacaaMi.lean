/-
  The closure at a group's end; the program's node at a group.
-/
import Derived.Test.YtlgpilcjcomacaaMf
import Derived.Deep.RegionHeld3
import Derived.Deep.DrawnRows
namespace Go.Proofs.Ytlgpilcjcomacaa
open Go.RowKit Rx
set_option linter.unusedVariables false
attribute [local go_sem ↓] Go.wp_at_zero Go.wp_at_succ

theorem upd_back (g : Grp) (i : Nat) (v : Int × Int) : upd (upd g i v) i (g i) = g := by
  funext j
  unfold upd
  by_cases h : j = i
  · subst h; rw [if_pos rfl]
  · rw [if_neg h, if_neg h]

theorem enters_node1 (args : Array Value) (w : World) : (callFunc 71 args).run Try.prog w = .ok (.enter 71 args) w :=
  enters_of Try.func71 (by kernel_rfl) rfl args w

set_option maxRecDepth 100000 in
set_option maxHeartbeats 1000000 in
theorem node1_any (c : Cx) (m : Nat) (hmG : m ≤ c.G) (be b : Nat) (hb : b ≠ c.bm) (hc2 : c.wT.cell? ⟨b, 2, none⟩ = some (.int .i64 (m : Int))) (lo at' : Nat) (hlo : lo ≤ at') (ha : at' ≤ c.s.size) (kv : Value) (k : K) (n : Nat) (g : Grp) (w : World) (vm vn va vk : Nat)
    (h1 : w.cell? ⟨vm, 0, none⟩ = some (.pointer (some ⟨c.bm, 0, none⟩))) (h2 : w.cell? ⟨vn, 0, none⟩ = some (.pointer (some ⟨b, 0, none⟩))) (h3 : w.cell? ⟨va, 0, none⟩ = some (.int .i64 (lo : Int))) (h4 : w.cell? ⟨vk, 0, none⟩ = some kv)
    (s1 : ¬ SS c be vm) (s2 : ¬ SS c be vn) (s3 : ¬ SS c be va) (s4 : ¬ SS c be vk) (hI : Inv c be n g w) (hk : KOK c be kv k at' w) :
    Calls Try.prog 71 #[.int .i64 (at' : Int), .pointer (some ⟨vm, 0, none⟩), .pointer (some ⟨vn, 0, none⟩), .pointer (some ⟨va, 0, none⟩), .pointer (some ⟨vk, 0, none⟩)] w (Got c be w at' g (k at' n (upd g m ((lo : Int), (at' : Int))))) := by
  have hk0 := hk
  obtain ⟨f, cp, rfl, en, -⟩ := hk0
  have hG9 := hI.lG
  have hk2 := hI.tree hc2 hb
  have hk3 := hI.c3
  have y0 := (hI.g0 m hmG).1
  have y1 := (hI.g1 m hmG).1
  rw [Nat.mul_comm] at y0 y1
  have HGI := Lib.hid (hI.gi m)
  have hmi : (m : Int) < (c.G : Int) + 1 := by omega
  have HI := Lib.hid hI; clear hI
  have HK := Lib.hid hk; clear hk
  have HS1 := Lib.hid s1; have HS2 := Lib.hid s2; have HS3 := Lib.hid s3; have HS4 := Lib.hid s4; clear s1 s2 s3 s4
  obtain ⟨v1, hv1⟩ : ∃ v1, (g m).1 = v1 := ⟨_, rfl⟩
  obtain ⟨v2, hv2⟩ : ∃ v2, (g m).2 = v2 := ⟨_, rfl⟩
  rw [hv1] at y0
  rw [hv2] at y1
  have HV : Hid (g m = (v1, v2)) := Lib.hid (by rw [← hv1, ← hv2])
  clear hv1 hv2
  have HC2 := Lib.hid hc2; clear hc2
  go_enter Try.func71, Try.ntmps71
  go_wp2_with fail
  go_region_held3 (fun w' => w'.cell? ⟨vm, 0, none⟩ = some (.pointer (some ⟨c.bm, 0, none⟩)) ∧ w'.cell? ⟨vn, 0, none⟩ = some (.pointer (some ⟨b, 0, none⟩)) ∧ w'.cell? ⟨c.bm, 3, none⟩ = some (.slice (some ⟨c.bg, 0, none⟩) (c.G + 1) (c.G + 1)) ∧ w'.cell? ⟨b, 2, none⟩ = some (.int .i64 (m : Int)) ∧ w'.cell? ⟨c.bg, m * 2, none⟩ = some (.int .i64 v1) ∧ w'.cell? ⟨c.bg, m * 2 + 1, none⟩ = some (.int .i64 v2)) (go_keep) (first | fail)
  rename_i hS6
  clear hS6
  have T6 : Still w (w.alloc (.cells #[.int .i64 v1, .int .i64 v2] 40)).drew := ((Touch.refl _ _).alloc _).drew
  have z0 : (w.alloc (.cells #[.int .i64 v1, .int .i64 v2] 40)).drew.cell? ⟨w.heap.size, 0, none⟩ = some (.int .i64 v1) := by simp [go_sem]
  have z1 : (w.alloc (.cells #[.int .i64 v1, .int .i64 v2] 40)).drew.cell? ⟨w.heap.size, 1, none⟩ = some (.int .i64 v2) := by simp [go_sem]
  have hz : (w.alloc (.cells #[.int .i64 v1, .int .i64 v2] 40)).drew.heap.size = w.heap.size + 1 := by simp [go_sem]
  generalize (w.alloc (.cells #[.int .i64 v1, .int .i64 v2] 40)).drew = w6 at *
  have h1 := T6.has h1 id
  have h2 := T6.has h2 id
  have h3 := T6.has h3 id
  have h4 := T6.has h4 id
  have hk2 := T6.has hk2 id
  have hk3 := T6.has hk3 id
  have HI6 := Lib.hid (HI.out.keep T6)
  have x0 := HI6.out.g0 m hmG
  have x1 := HI6.out.g1 m hmG
  rw [Nat.mul_comm] at x0 x1
  obtain ⟨x0, xf0⟩ := x0
  obtain ⟨x1, xf1⟩ := x1
  have HT6 : Hid (Touch (SS c be) w w6) := Lib.hid T6.ss
  have HZ := Lib.hid hz
  have fz : ∀ x, w.heap.size ≤ x → ¬ SS c be x := fun x hx => HI.out.ss hx
  have HFZ := Lib.hid (fz w.heap.size (Nat.le_refl _)); clear fz
  obtain ⟨w7, hw7⟩ : ∃ w7, ((w6.setCell ⟨c.bg, m * 2, none⟩ (.int .i64 (lo : Int))).setCell ⟨c.bg, m * 2 + 1, none⟩ (.int .i64 (at' : Int))).drew = w7 := ⟨_, rfl⟩
  have T7 : Touch (fun i => i = c.bg) w6 w7 := by rw [← hw7]; exact ((Touch.setCell (Touch.setCell (Touch.refl (fun i => i = c.bg) w6) (.inl rfl) _) (.inl rfl) _).drew)
  have hI7 := (HI6.out.group m hmG ((lo : Int), (at' : Int)) (.inr ⟨by simp, by simp; omega, by simp; omega⟩)).keep (Touch.refl _ _).drew
  rw [Nat.mul_comm 2 m] at hI7
  simp only at hI7
  rw [hw7] at hI7
  have g1 := T7.has h1 (fun e => HS1.out (.inr (.inl e)))
  have g2 := T7.has h2 (fun e => HS2.out (.inr (.inl e)))
  have g4 := T7.has h4 (fun e => HS4.out (.inr (.inl e)))
  have gz0 := T7.has z0 (fun e => HFZ.out (.inr (.inl e)))
  have gz1 := T7.has z1 (fun e => HFZ.out (.inr (.inl e)))
  have HT7 : Hid (Touch (SS c be) w w7) := Lib.hid (HT6.out.then (T7.mono (fun _ _ e => .inr (.inl e))))
  have HI7 := Lib.hid hI7
  obtain ⟨q, hq⟩ : ∃ q, k at' n (upd g m ((lo : Int), (at' : Int))) = q := ⟨_, rfl⟩
  have HKK : Hid (Calls Try.prog f (#[.int .i64 (at' : Int)] ++ cp) w7 (Got c be w7 at' (upd g m ((lo : Int), (at' : Int))) q)) := Lib.hid (by
    obtain ⟨f', cp', e1, -, hk⟩ := HK.out
    cases e1
    rw [← hq]
    exact hk w7 at' n _ HT7.out HI7.out (Nat.le_refl _) ha)
  have HQ := Lib.hid hq
  clear T6 y0 y1 hz T7 hI7 hq
  go_wp2_with fail
  go_still_tail 11, (by kernel_rfl)
  change wpList _ _ _ _ _ (World.drew _)
  go_wp2_with fail
  clear hw7 x0 x1 xf0 xf1
  refine HKK.out.mono ?_
  intro e w8 hG
  clear HKK
  cases q with
  | over =>
    obtain ⟨rfl, ht⟩ := hG
    refine ⟨rfl, ?_⟩
    rw [HQ.out]
    exact ⟨rfl, HT7.out.then ht⟩
  | yes n3 h3' x3 =>
    obtain ⟨rfl, hI3, hH3, hlo3, hsz3, ht⟩ := hG
    have HI8 := Lib.hid hI3
    have HH8 := Lib.hid hH3
    have HT8 := Lib.hid (HT7.out.then ht)
    clear hI3 hH3 ht
    go_wp2_with fail
    go_ret
    rw [HQ.out]
    exact ⟨rfl, HI8.out, HH8.out, hlo3, hsz3, HT8.out⟩
  | no n3 =>
    obtain ⟨rfl, hI8, ht⟩ := hG
    have g1 := ht.has g1 HS1.out
    have g2 := ht.has g2 HS2.out
    have gz0 := ht.has gz0 HFZ.out
    have gz1 := ht.has gz1 HFZ.out
    have hk2 := hI8.tree HC2.out hb
    have hk3 := hI8.c3
    have x0 := hI8.g0 m hmG
    have x1 := hI8.g1 m hmG
    rw [Nat.mul_comm] at x0 x1
    obtain ⟨x0, xf0⟩ := x0
    obtain ⟨x1, xf1⟩ := x1
    obtain ⟨w9, hw9⟩ : ∃ w9, ((w8.setCell ⟨c.bg, m * 2, none⟩ (.int .i64 v1)).setCell ⟨c.bg, m * 2 + 1, none⟩ (.int .i64 v2)).drew = w9 := ⟨_, rfl⟩
    have T9 : Touch (fun i => i = c.bg) w8 w9 := by rw [← hw9]; exact ((Touch.setCell (Touch.setCell (Touch.refl (fun i => i = c.bg) w8) (.inl rfl) _) (.inl rfl) _).drew)
    have hI9 := (hI8.group m hmG (v1, v2) (by have h := HGI.out; rw [HV.out] at h; exact h)).keep (Touch.refl _ _).drew
    rw [Nat.mul_comm 2 m, ← HV.out, upd_back, HV.out] at hI9
    simp only at hI9
    rw [hw9] at hI9
    have HI9 := Lib.hid hI9
    have HT9 : Hid (Touch (SS c be) w w9) := Lib.hid ((HT7.out.then ht).then (T9.mono (fun _ _ e => .inr (.inl e))))
    clear hI8 ht T9 hI9
    go_wp2_with fail
    go_still_tail 9, (by kernel_rfl)
    change wpList _ _ _ _ _ (World.drew _)
    go_wp2_with fail
    go_ret
    rw [HQ.out]
    exact ⟨rfl, HI9.out, HT9.out⟩

set_option maxRecDepth 100000 in
set_option maxHeartbeats 1000000 in
theorem node_grp0 (c : Cx) (x : Re) (hW : WaysOK c x) (m : Nat) (hm : m = 0) (be b : Nat) (of : Value) (wa : Option Addr) (wl wc : Nat) (kid : Value) (least most how : Int) (at' : Nat) (kv : Value) (k : K) (n : Nat) (g : Grp) (w : World)
    (hN : NodeC (fun b => b ≠ c.bm) c.wT b 8 of (m : Int) wa wl wc kid least most how) (hx : (trd c x).ways wa wl) (hl : wl ≤ wc) (hI : Inv c be n g w) (ha : at' ≤ c.s.size) (hk : KOK c be kv k at' w) :
    Calls Try.prog 52 #[.pointer (some ⟨c.bm, 0, none⟩), .pointer (some ⟨b, 0, none⟩), .int .i64 (at' : Int), kv] w (Got c be w at' g (run (str c.s) c.B (.grp m x) at' k n g)) := by
  subst hm
  have hk0 := hk
  obtain ⟨f, cp, rfl, en, -⟩ := hk0
  obtain ⟨w4, hw4⟩ : ∃ w4, (((w.alloc (.cells #[.pointer (some ⟨c.bm, 0, none⟩)] 64)).alloc (.cells #[.pointer (some ⟨b, 0, none⟩)] 61)).alloc (.cells #[.int .i64 (at' : Int)] 3)).alloc (.cells #[.func (.func f) #[] cp] 118) = w4 := ⟨_, rfl⟩
  have T4 : Still w w4 := by rw [← hw4]; exact ((((Touch.refl _ _).alloc _).alloc _).alloc _).alloc _
  have k4 : w4.cell? ⟨w.heap.size, 0, none⟩ = some (.pointer (some ⟨c.bm, 0, none⟩)) := by rw [← hw4]; simp [go_sem]
  have k5 : w4.cell? ⟨w.heap.size + 1, 0, none⟩ = some (.pointer (some ⟨b, 0, none⟩)) := by rw [← hw4]; simp [go_sem]
  have k6 : w4.cell? ⟨w.heap.size + 1 + 1, 0, none⟩ = some (.int .i64 (at' : Int)) := by rw [← hw4]; simp [go_sem]
  have k7 : w4.cell? ⟨w.heap.size + 1 + 1 + 1, 0, none⟩ = some (.func (.func f) #[] cp) := by rw [← hw4]; simp [go_sem]
  have hz4 : w4.heap.size = w.heap.size + 1 + 1 + 1 + 1 := by rw [← hw4]; simp
  have s0 := hI.ss (b := w.heap.size) (Nat.le_refl _)
  have s1 := hI.ss (b := w.heap.size + 1) (by omega)
  have s2 := hI.ss (b := w.heap.size + 1 + 1) (by omega)
  have s3 := hI.ss (b := w.heap.size + 1 + 1 + 1) (by omega)
  have HI4 := Lib.hid (hI.keep T4)
  have HT4 : Hid (Touch (SS c be) w w4) := Lib.hid T4.ss
  have HS0 := Lib.hid s0; have HS1 := Lib.hid s1; have HS2 := Lib.hid s2; have HS3 := Lib.hid s3
  have HZ4 := Lib.hid hz4
  have kd := HI4.out.tree hN.c0 hN.fb
  have HN := Lib.hid hN
  have HK := Lib.hid hk
  have hnB := hI.nB
  have hB := hI.lB
  clear hI hk hN T4 s0 s1 s2 s3 hz4
  have HR : Hid (run (str c.s) c.B (.grp 0 x) at' k n g = run (str c.s) c.B x at' k n g) := Lib.hid rfl
  have HW := Lib.hid (hW be b wa wl wc at' _ k n g w4 HN.out.fb HN.out.c3 hx hl HI4.out ha (HK.out.later HT4.out (Nat.le_refl _)))
  have kd2 := HI4.out.tree HN.out.c2 HN.out.fb
  clear hW
  go_enter Try.func52, Try.ntmps52
  go_wp2_with fail
  clear hw4
  refine HW.out.mono ?_
  intro e w' hG
  have HG := Lib.hid (hG.from HT4.out (Nat.le_refl _))
  rcases hG.ends with rfl | ⟨bb, rfl⟩
  · refine ⟨rfl, ?_⟩
    rw [HR.out]
    exact HG.out
  · clear hG
    go_wp2_with fail
    go_ret
    rw [HR.out]
    exact HG.out

set_option maxRecDepth 100000 in
set_option maxHeartbeats 1000000 in
theorem node_grp (c : Cx) (x : Re) (hW : WaysOK c x) (m : Nat) (hm1 : 1 ≤ m) (hmG : m ≤ c.G) (be b : Nat) (of : Value) (wa : Option Addr) (wl wc : Nat) (kid : Value) (least most how : Int) (at' : Nat) (kv : Value) (k : K) (n : Nat) (g : Grp) (w : World)
    (hN : NodeC (fun b => b ≠ c.bm) c.wT b 8 of (m : Int) wa wl wc kid least most how) (hx : (trd c x).ways wa wl) (hl : wl ≤ wc) (hI : Inv c be n g w) (ha : at' ≤ c.s.size) (hk : KOK c be kv k at' w) :
    Calls Try.prog 52 #[.pointer (some ⟨c.bm, 0, none⟩), .pointer (some ⟨b, 0, none⟩), .int .i64 (at' : Int), kv] w (Got c be w at' g (run (str c.s) c.B (.grp m x) at' k n g)) := by
  have hk0 := hk
  obtain ⟨f, cp, rfl, en, -⟩ := hk0
  obtain ⟨w4, hw4⟩ : ∃ w4, (((w.alloc (.cells #[.pointer (some ⟨c.bm, 0, none⟩)] 64)).alloc (.cells #[.pointer (some ⟨b, 0, none⟩)] 61)).alloc (.cells #[.int .i64 (at' : Int)] 3)).alloc (.cells #[.func (.func f) #[] cp] 118) = w4 := ⟨_, rfl⟩
  have T4 : Still w w4 := by rw [← hw4]; exact ((((Touch.refl _ _).alloc _).alloc _).alloc _).alloc _
  have k4 : w4.cell? ⟨w.heap.size, 0, none⟩ = some (.pointer (some ⟨c.bm, 0, none⟩)) := by rw [← hw4]; simp [go_sem]
  have k5 : w4.cell? ⟨w.heap.size + 1, 0, none⟩ = some (.pointer (some ⟨b, 0, none⟩)) := by rw [← hw4]; simp [go_sem]
  have k6 : w4.cell? ⟨w.heap.size + 1 + 1, 0, none⟩ = some (.int .i64 (at' : Int)) := by rw [← hw4]; simp [go_sem]
  have k7 : w4.cell? ⟨w.heap.size + 1 + 1 + 1, 0, none⟩ = some (.func (.func f) #[] cp) := by rw [← hw4]; simp [go_sem]
  have hz4 : w4.heap.size = w.heap.size + 1 + 1 + 1 + 1 := by rw [← hw4]; simp
  have s0 := hI.ss (b := w.heap.size) (Nat.le_refl _)
  have s1 := hI.ss (b := w.heap.size + 1) (by omega)
  have s2 := hI.ss (b := w.heap.size + 1 + 1) (by omega)
  have s3 := hI.ss (b := w.heap.size + 1 + 1 + 1) (by omega)
  have HI4 := Lib.hid (hI.keep T4)
  have HT4 : Hid (Touch (SS c be) w w4) := Lib.hid T4.ss
  have HS0 := Lib.hid s0; have HS1 := Lib.hid s1; have HS2 := Lib.hid s2; have HS3 := Lib.hid s3
  have HZ4 := Lib.hid hz4
  have kd := HI4.out.tree hN.c0 hN.fb
  have HN := Lib.hid hN
  have HK := Lib.hid hk
  have hnB := hI.nB
  have hB := hI.lB
  clear hI hk hN T4 s0 s1 s2 s3 hz4
  have HR : Hid (run (str c.s) c.B (.grp m x) at' k n g = run (str c.s) c.B x at' (fun e n g => k e n (upd g m ((at' : Int), (e : Int)))) n g) := Lib.hid (if_neg (by omega))
  have HW := Lib.hid (hW be b wa wl wc at' (.func (.func 71) #[] #[.pointer (some ⟨w.heap.size, 0, none⟩), .pointer (some ⟨w.heap.size + 1, 0, none⟩), .pointer (some ⟨w.heap.size + 1 + 1, 0, none⟩), .pointer (some ⟨w.heap.size + 1 + 1 + 1, 0, none⟩)]) (fun e n g => k e n (upd g m ((at' : Int), (e : Int)))) n g w4 HN.out.fb HN.out.c3 hx hl HI4.out ha
    ⟨_, _, rfl, enters_node1, fun w1 a1 n1 g1 t1 hI1 h1 h2 => node1_any c m hmG be b HN.out.fb HN.out.c2 at' a1 h1 h2 _ k n1 g1 w1 _ _ _ _ (t1.has k4 HS0.out) (t1.has k5 HS1.out) (t1.has k6 HS2.out) (t1.has k7 HS3.out) HS0.out HS1.out HS2.out HS3.out hI1 (HK.out.later (HT4.out.then t1) h1)⟩)
  have kd2 := HI4.out.tree HN.out.c2 HN.out.fb
  have hm0 : ((m : Int) == 0) = false := by simp; omega
  clear hW
  go_enter Try.func52, Try.ntmps52
  go_wp2_with fail
  clear hw4
  refine HW.out.mono ?_
  intro e w' hG
  have HG := Lib.hid (hG.from HT4.out (Nat.le_refl _))
  rcases hG.ends with rfl | ⟨bb, rfl⟩
  · refine ⟨rfl, ?_⟩
    rw [HR.out]
    exact HG.out
  · clear hG
    go_wp2_with fail
    go_ret
    rw [HR.out]
    exact HG.out
end Go.Proofs.Ytlgpilcjcomacaa
