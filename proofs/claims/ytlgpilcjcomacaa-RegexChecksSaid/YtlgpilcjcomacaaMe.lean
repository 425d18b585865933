/-
  The program's closures over alternatives, and looking ahead.
-/
import Derived.Test.YtlgpilcjcomacaaMd
namespace Go.Proofs.Ytlgpilcjcomacaa
open Go.RowKit Rx
set_option linter.unusedVariables false

theorem enters_look1 (args : Array Value) (w : World) : (callFunc 95 args).run Try.prog w = .ok (.enter 95 args) w :=
  enters_of Try.func95 (by kernel_rfl) rfl args w
theorem look1_any (c : Cx) (x : Re) (hW : WaysOK c x) (b : Nat) (wa : Option Addr) (wl wc at' : Nat) (hb : b ≠ c.bm) (hc : c.wT.cell? ⟨b, 3, none⟩ = some (.slice wa wl wc)) (hx : (trd c x).ways wa wl) (hl : wl ≤ wc) (ha : at' ≤ c.s.size) (vm vn va : Nat) (w0 : World)
    (h1 : w0.cell? ⟨vm, 0, none⟩ = some (.pointer (some ⟨c.bm, 0, none⟩))) (h2 : w0.cell? ⟨vn, 0, none⟩ = some (.pointer (some ⟨b, 0, none⟩))) (h3 : w0.cell? ⟨va, 0, none⟩ = some (.int .i64 (at' : Int)))
    (s1 : ¬ S2 c vm) (s2 : ¬ S2 c vn) (s3 : ¬ S2 c va) :
    TryOK c (.func (.func 95) #[] #[.pointer (some ⟨vm, 0, none⟩), .pointer (some ⟨vn, 0, none⟩), .pointer (some ⟨va, 0, none⟩)]) (fun k n g => run (str c.s) c.B x at' k n g) at' w0 := by
  refine ⟨_, _, rfl, enters_look1, fun w be n g kv k t hbe hI hk => ?_⟩
  have k1 := t.has h1 s1
  have k2 := t.has h2 s2
  have k3 := t.has h3 s3
  have HW := Lib.hid (hW be b wa wl wc at' kv k n g w hb hc hx hl hI ha hk)
  clear h1 h2 h3 hI hk t hc
  show Calls Try.prog 95 #[kv, .pointer (some ⟨vm, 0, none⟩), .pointer (some ⟨vn, 0, none⟩), .pointer (some ⟨va, 0, none⟩)] w _
  go_enter Try.func95, Try.ntmps95
  go_wp2_with fail
  refine HW.out.mono ?_
  intro e w' hG
  have HG := Lib.hid hG
  rcases hG.ends with rfl | ⟨b, rfl⟩
  · exact ⟨rfl, HG.out⟩
  · clear hG
    go_wp2_with fail
    go_ret
    exact HG.out

theorem enters_node3 (args : Array Value) (w : World) : (callFunc 75 args).run Try.prog w = .ok (.enter 75 args) w :=
  enters_of Try.func75 (by kernel_rfl) rfl args w
theorem node3_any (c : Cx) (x : Re) (hW : WaysOK c x) (b : Nat) (wa : Option Addr) (wl wc at' : Nat) (hb : b ≠ c.bm) (hc : c.wT.cell? ⟨b, 3, none⟩ = some (.slice wa wl wc)) (hx : (trd c x).ways wa wl) (hl : wl ≤ wc) (ha : at' ≤ c.s.size) (vm vn va : Nat) (w0 : World)
    (h1 : w0.cell? ⟨vm, 0, none⟩ = some (.pointer (some ⟨c.bm, 0, none⟩))) (h2 : w0.cell? ⟨vn, 0, none⟩ = some (.pointer (some ⟨b, 0, none⟩))) (h3 : w0.cell? ⟨va, 0, none⟩ = some (.int .i64 (at' : Int)))
    (s1 : ¬ S2 c vm) (s2 : ¬ S2 c vn) (s3 : ¬ S2 c va) :
    TryOK c (.func (.func 75) #[] #[.pointer (some ⟨vm, 0, none⟩), .pointer (some ⟨vn, 0, none⟩), .pointer (some ⟨va, 0, none⟩)]) (fun k n g => run (str c.s) c.B x at' k n g) at' w0 := by
  refine ⟨_, _, rfl, enters_node3, fun w be n g kv k t hbe hI hk => ?_⟩
  have k1 := t.has h1 s1
  have k2 := t.has h2 s2
  have k3 := t.has h3 s3
  have HW := Lib.hid (hW be b wa wl wc at' kv k n g w hb hc hx hl hI ha hk)
  clear h1 h2 h3 hI hk t hc
  show Calls Try.prog 75 #[kv, .pointer (some ⟨vm, 0, none⟩), .pointer (some ⟨vn, 0, none⟩), .pointer (some ⟨va, 0, none⟩)] w _
  go_enter Try.func75, Try.ntmps75
  go_wp2_with fail
  refine HW.out.mono ?_
  intro e w' hG
  have HG := Lib.hid hG
  rcases hG.ends with rfl | ⟨b, rfl⟩
  · exact ⟨rfl, HG.out⟩
  · clear hG
    go_wp2_with fail
    go_ret
    exact HG.out

set_option maxRecDepth 100000 in
set_option maxHeartbeats 1000000 in
theorem look_not (c : Cx) (x : Re) (hW : WaysOK c x) (be b : Nat) (of : Value) (num : Int) (wa : Option Addr) (wl wc : Nat) (kid : Value) (least most how : Int) (at' : Nat) (kv : Value) (k : K) (n : Nat) (g : Grp) (w : World)
    (hN : NodeC (fun b => b ≠ c.bm) c.wT b 10 of num wa wl wc kid least most how) (hx : (trd c x).ways wa wl) (hl : wl ≤ wc) (hI : Inv c be n g w) (ha : at' ≤ c.s.size) (hk : KOK c be kv k at' w) :
    Calls Try.prog 76 #[.pointer (some ⟨c.bm, 0, none⟩), .pointer (some ⟨b, 0, none⟩), .int .i64 (at' : Int), kv] w (Got c be w at' g (run (str c.s) c.B (.look true x) at' k n g)) := by
  obtain ⟨f, cp, rfl, en, hk⟩ := hk
  obtain ⟨w3, hw3⟩ : ∃ w3, ((w.alloc (.cells #[.pointer (some ⟨c.bm, 0, none⟩)] 64)).alloc (.cells #[.pointer (some ⟨b, 0, none⟩)] 61)).alloc (.cells #[.int .i64 (at' : Int)] 3) = w3 := ⟨_, rfl⟩
  have T3 : Still w w3 := by rw [← hw3]; exact (((Touch.refl _ _).alloc _).alloc _).alloc _
  have k4 : w3.cell? ⟨w.heap.size, 0, none⟩ = some (.pointer (some ⟨c.bm, 0, none⟩)) := by rw [← hw3]; simp [go_sem]
  have k5 : w3.cell? ⟨w.heap.size + 1, 0, none⟩ = some (.pointer (some ⟨b, 0, none⟩)) := by rw [← hw3]; simp [go_sem]
  have k6 : w3.cell? ⟨w.heap.size + 1 + 1, 0, none⟩ = some (.int .i64 (at' : Int)) := by rw [← hw3]; simp [go_sem]
  have hz3 : w3.heap.size = w.heap.size + 1 + 1 + 1 := by rw [← hw3]; simp
  have hs := hI.ss (b := w.heap.size) (Nat.le_refl _)
  have hs1 := hI.ss (b := w.heap.size + 1) (by omega)
  have hs2 := hI.ss (b := w.heap.size + 1 + 1) (by omega)
  have d4 : ¬ S2 c w.heap.size := fun e => hs (e.elim .inl (fun e => .inr (.inl e)))
  have d5 : ¬ S2 c (w.heap.size + 1) := fun e => hs1 (e.elim .inl (fun e => .inr (.inl e)))
  have d6 : ¬ S2 c (w.heap.size + 1 + 1) := fun e => hs2 (e.elim .inl (fun e => .inr (.inl e)))
  have s6 : ¬ (w.heap.size + 1 + 1 = c.bg) := fun e => d6 (.inr e)
  have T3h := Lib.hid T3
  have hI3 := hI.keep T3
  have hgb := hI3.gb
  obtain ⟨T, hgb⟩ := hgb
  have h3 := hI3.c3
  have hlg := hI3.ltg
  have hlm := hI3.ltm
  have hl9 := hI.lG
  have HC : Hid (∀ j u, (gl c.G g)[j]? = some u → (w3.alloc (.cells #[] 40)).cell? ((⟨c.bg, 0, none⟩ : Addr).add j) = some u) := Lib.hid (by
    intro j u hu
    rw [Addr.add_lit, Nat.zero_add]
    exact ((holds_of_block hgb hu).alloc _).1)
  have HI := Lib.hid hI; clear hI
  have HI3 := Lib.hid hI3; clear hI3
  have HK := Lib.hid hk; clear hk
  have HZ := Lib.hid hz3
  have HN := Lib.hid hN; clear hN
  have HW := Lib.hid hW; clear hW
  have k4a := k4
  have hb4 : w.heap.size < w3.heap.size := by omega
  clear hgb hz3 T3 hs hs1 hs2
  go_enter Try.func76, Try.ntmps76
  go_wp2_with (at_builtin; clear hw3; refine wpList_append2 rfl (.tmp 12) (.tmp 16) rfl w3.heap.size rfl (heap_alloc_new w3 _) ⟨c.bg, 0, none⟩ (c.G + 1) (c.G + 1) rfl (gl c.G g) (gl_length _ _) HC.out (gl_one _ _) (by omega) (by omega) ?_; intro b1 c1 w4 hc1 _ hold ht1 hb1; have HOLD := Lib.hid hold; have HB1 := Lib.hid hb1; have HT1 : Hid (Still w3 w4) := Lib.hid (((Touch.refl _ _).alloc _).trans ht1 (fun i e => .inr (by omega))); clear hold ht1 hb1; have k4 := HT1.out.has k4 id; have k5 := HT1.out.has k5 id; have k6 := HT1.out.has k6 id)
  have HT2 : Hid (Still w w4) := Lib.hid (T3h.out.then HT1.out)
  have HI1 := Lib.hid (HI3.out.keep HT1.out)
  have hfb := HN.out.fb
  have HF := Lib.hid (first_any c _ _ at' n g w4 (look1_any c x HW.out b wa wl wc at' HN.out.fb HN.out.c3 hx hl ha _ _ _ w4 k4 k5 k6 d4 d5 d6) HI1.out.fresh)
  have HB : Hid (w3.heap.size ≤ b1) := Lib.hid (by have := HB1.out; simp at this; omega)
  clear HB1 HC h3 hlg hlm hb4
  obtain ⟨r, hr⟩ : ∃ r, run (str c.s) c.B x at' K0 n g = r := ⟨_, rfl⟩
  have HR : Hid (run (str c.s) c.B (.look true x) at' k n g = lookR true r k at' g) := Lib.hid (by rw [← hr]; rfl)
  have HF2 : Hid (Calls Try.prog 50 _ w4 (FirstP c w4 at' g r)) := Lib.hid (by rw [← hr]; exact HF.out)
  clear hr HF
  refine HF2.out.mono ?_
  intro e w5 hG
  clear HF2
  cases r with
  | over =>
    obtain ⟨rfl, ht⟩ := hG
    refine ⟨rfl, ?_⟩
    rw [HR.out]
    exact ⟨rfl, (HT2.out.ss).then ht.s2ss⟩
  | no n2 =>
    obtain ⟨⟨x0, rfl⟩, hI2, ht⟩ := hG
    have t5 := ht
    have k4 := t5.has k4 d4
    have k5 := t5.has k5 d5
    have k6 := t5.has k6 d6
    have HI5 := Lib.hid (hI2.back HI1.out ht); clear hI2
    have HT := Lib.hid ((HT2.out.ss).then (ht.s2ss (be := be)))
    have hk0 := HI5.out.tree HN.out.c0 hfb
    have hb3 := HI5.out.gb
    obtain ⟨T3, hb3⟩ := hb3
    have HB3 := Lib.hid hb3
    have h3 := HI5.out.c3
    have HO : Hid (∀ j u, (gl c.G g)[j]? = some u → w5.cell? ((⟨b1, 0, none⟩ : Addr).add j) = some u) := Lib.hid (fun j u hu => by
      rw [Addr.add_lit, Nat.zero_add]
      exact ht.has (HOLD.out j u hu) (fun e => by
        have h4 := HI.out.ltm; have h5 := HI.out.ltg; have h6 := HB.out; have h7 := HZ.out
        rcases e with e | e <;> simp at e <;> omega))
    clear ht t5 hb3
    go_wp2_with ((with_reducible refine wpList_copy2 rfl (.tmp 32) (.tmp 33) rfl c.bg (c.G + 1) (c.G + 1) c1 ⟨b1, 0, none⟩ rfl rfl (gl c.G g).toArray T3 HB3.out (gl c.G g) (gl_length _ _) (by simpa using gl_length c.G g) HO.out (gl_one _ _) ?_); intro w9 hw9 ht9; have HI9 := Lib.hid (HI5.out.restore ht9 hw9 HI.out.gi); have HT9 := Lib.hid (HT.out.then (ht9.mono (fun _ _ e => .inr (.inl e)))); have k69 := (ht9.has k6 s6); clear hw9 ht9 k4 k5 k6 hk0 h3)
    have HKK := Lib.hid (HK.out w9 at' n2 g HT9.out HI9.out (Nat.le_refl _) ha)
    refine HKK.out.mono ?_
    intro e w' hG
    have HG := Lib.hid (hG.from HT9.out (Nat.le_refl _))
    rcases hG.ends with rfl | ⟨b, rfl⟩
    · refine ⟨rfl, ?_⟩
      rw [HR.out]
      exact HG.out
    · clear hG
      go_wp2_with fail
      go_ret
      rw [HR.out]
      exact HG.out
  | yes n2 h2 x2 =>
    obtain ⟨rfl, hI2, hlo, hsz, ht⟩ := hG
    have t5 := ht
    have k4 := t5.has k4 d4
    have k5 := t5.has k5 d5
    have k6 := t5.has k6 d6
    have HI5 := Lib.hid (hI2.back HI1.out ht); clear hI2
    have HT := Lib.hid ((HT2.out.ss).then (ht.s2ss (be := be)))
    have hk0 := HI5.out.tree HN.out.c0 hfb
    have hb3 := HI5.out.gb
    obtain ⟨T3, hb3⟩ := hb3
    have HB3 := Lib.hid hb3
    have h3 := HI5.out.c3
    have HO : Hid (∀ j u, (gl c.G g)[j]? = some u → w5.cell? ((⟨b1, 0, none⟩ : Addr).add j) = some u) := Lib.hid (fun j u hu => by
      rw [Addr.add_lit, Nat.zero_add]
      exact ht.has (HOLD.out j u hu) (fun e => by
        have h4 := HI.out.ltm; have h5 := HI.out.ltg; have h6 := HB.out; have h7 := HZ.out
        rcases e with e | e <;> simp at e <;> omega))
    clear ht t5 hb3
    go_wp2_with ((with_reducible refine wpList_copy2 rfl (.tmp 32) (.tmp 33) rfl c.bg (c.G + 1) (c.G + 1) c1 ⟨b1, 0, none⟩ rfl rfl (gl c.G h2).toArray T3 HB3.out (gl c.G g) (gl_length _ _) (by simpa using gl_length c.G h2) HO.out (gl_one _ _) ?_); intro w9 hw9 ht9; have HI9 := Lib.hid (HI5.out.restore ht9 hw9 HI.out.gi); have HT9 := Lib.hid (HT.out.then (ht9.mono (fun _ _ e => .inr (.inl e)))); have k69 := (ht9.has k6 s6); clear hw9 ht9)
    go_ret
    rw [HR.out]
    exact ⟨rfl, HI9.out, HT9.out⟩

set_option maxRecDepth 100000 in
set_option maxHeartbeats 1000000 in
theorem look_yes (c : Cx) (x : Re) (hW : WaysOK c x) (be b : Nat) (of : Value) (num : Int) (wa : Option Addr) (wl wc : Nat) (kid : Value) (least most how : Int) (at' : Nat) (kv : Value) (k : K) (n : Nat) (g : Grp) (w : World)
    (hN : NodeC (fun b => b ≠ c.bm) c.wT b 9 of num wa wl wc kid least most how) (hx : (trd c x).ways wa wl) (hl : wl ≤ wc) (hI : Inv c be n g w) (ha : at' ≤ c.s.size) (hk : KOK c be kv k at' w) :
    Calls Try.prog 76 #[.pointer (some ⟨c.bm, 0, none⟩), .pointer (some ⟨b, 0, none⟩), .int .i64 (at' : Int), kv] w (Got c be w at' g (run (str c.s) c.B (.look false x) at' k n g)) := by
  obtain ⟨f, cp, rfl, en, hk⟩ := hk
  obtain ⟨w3, hw3⟩ : ∃ w3, ((w.alloc (.cells #[.pointer (some ⟨c.bm, 0, none⟩)] 64)).alloc (.cells #[.pointer (some ⟨b, 0, none⟩)] 61)).alloc (.cells #[.int .i64 (at' : Int)] 3) = w3 := ⟨_, rfl⟩
  have T3 : Still w w3 := by rw [← hw3]; exact (((Touch.refl _ _).alloc _).alloc _).alloc _
  have k4 : w3.cell? ⟨w.heap.size, 0, none⟩ = some (.pointer (some ⟨c.bm, 0, none⟩)) := by rw [← hw3]; simp [go_sem]
  have k5 : w3.cell? ⟨w.heap.size + 1, 0, none⟩ = some (.pointer (some ⟨b, 0, none⟩)) := by rw [← hw3]; simp [go_sem]
  have k6 : w3.cell? ⟨w.heap.size + 1 + 1, 0, none⟩ = some (.int .i64 (at' : Int)) := by rw [← hw3]; simp [go_sem]
  have hz3 : w3.heap.size = w.heap.size + 1 + 1 + 1 := by rw [← hw3]; simp
  have hs := hI.ss (b := w.heap.size) (Nat.le_refl _)
  have hs1 := hI.ss (b := w.heap.size + 1) (by omega)
  have hs2 := hI.ss (b := w.heap.size + 1 + 1) (by omega)
  have d4 : ¬ S2 c w.heap.size := fun e => hs (e.elim .inl (fun e => .inr (.inl e)))
  have d5 : ¬ S2 c (w.heap.size + 1) := fun e => hs1 (e.elim .inl (fun e => .inr (.inl e)))
  have d6 : ¬ S2 c (w.heap.size + 1 + 1) := fun e => hs2 (e.elim .inl (fun e => .inr (.inl e)))
  have s6 : ¬ (w.heap.size + 1 + 1 = c.bg) := fun e => d6 (.inr e)
  have T3h := Lib.hid T3
  have hI3 := hI.keep T3
  have hgb := hI3.gb
  obtain ⟨T, hgb⟩ := hgb
  have h3 := hI3.c3
  have hlg := hI3.ltg
  have hlm := hI3.ltm
  have hl9 := hI.lG
  have HC : Hid (∀ j u, (gl c.G g)[j]? = some u → (w3.alloc (.cells #[] 40)).cell? ((⟨c.bg, 0, none⟩ : Addr).add j) = some u) := Lib.hid (by
    intro j u hu
    rw [Addr.add_lit, Nat.zero_add]
    exact ((holds_of_block hgb hu).alloc _).1)
  have HI := Lib.hid hI; clear hI
  have HI3 := Lib.hid hI3; clear hI3
  have HK := Lib.hid hk; clear hk
  have HZ := Lib.hid hz3
  have HN := Lib.hid hN; clear hN
  have HW := Lib.hid hW; clear hW
  have k4a := k4
  have hb4 : w.heap.size < w3.heap.size := by omega
  clear hgb hz3 T3
  have HS := Lib.hid hs; have HS1 := Lib.hid hs1; have HS2 := Lib.hid hs2; clear hs hs1 hs2
  go_enter Try.func76, Try.ntmps76
  go_wp2_with (at_builtin; clear hw3; refine wpList_append2 rfl (.tmp 12) (.tmp 16) rfl w3.heap.size rfl (heap_alloc_new w3 _) ⟨c.bg, 0, none⟩ (c.G + 1) (c.G + 1) rfl (gl c.G g) (gl_length _ _) HC.out (gl_one _ _) (by omega) (by omega) ?_; intro b1 c1 w4 hc1 _ hold ht1 hb1; have HOLD := Lib.hid hold; have HB1 := Lib.hid hb1; have HT1 : Hid (Still w3 w4) := Lib.hid (((Touch.refl _ _).alloc _).trans ht1 (fun i e => .inr (by omega))); clear hold ht1 hb1; have k4 := HT1.out.has k4 id; have k5 := HT1.out.has k5 id; have k6 := HT1.out.has k6 id)
  have HT2 : Hid (Still w w4) := Lib.hid (T3h.out.then HT1.out)
  have HI1 := Lib.hid (HI3.out.keep HT1.out)
  have hfb := HN.out.fb
  have HF := Lib.hid (first_any c _ _ at' n g w4 (look1_any c x HW.out b wa wl wc at' HN.out.fb HN.out.c3 hx hl ha _ _ _ w4 k4 k5 k6 d4 d5 d6) HI1.out.fresh)
  have HB : Hid (w3.heap.size ≤ b1) := Lib.hid (by have := HB1.out; simp at this; omega)
  clear HB1 HC h3 hlg hlm hb4
  obtain ⟨r, hr⟩ : ∃ r, run (str c.s) c.B x at' K0 n g = r := ⟨_, rfl⟩
  have HR : Hid (run (str c.s) c.B (.look false x) at' k n g = lookR false r k at' g) := Lib.hid (by rw [← hr]; rfl)
  have HF2 : Hid (Calls Try.prog 50 _ w4 (FirstP c w4 at' g r)) := Lib.hid (by rw [← hr]; exact HF.out)
  clear hr HF
  refine HF2.out.mono ?_
  intro e w5 hG
  clear HF2
  cases r with
  | over =>
    obtain ⟨rfl, ht⟩ := hG
    refine ⟨rfl, ?_⟩
    rw [HR.out]
    exact ⟨rfl, (HT2.out.ss).then ht.s2ss⟩
  | no n2 =>
    obtain ⟨⟨x0, rfl⟩, hI2, ht⟩ := hG
    have t5 := ht
    have k4 := t5.has k4 d4
    have k5 := t5.has k5 d5
    have k6 := t5.has k6 d6
    have HI5 := Lib.hid (hI2.back HI1.out ht); clear hI2
    have HT := Lib.hid ((HT2.out.ss).then (ht.s2ss (be := be)))
    have hk0 := HI5.out.tree HN.out.c0 hfb
    have hb3 := HI5.out.gb
    obtain ⟨T3, hb3⟩ := hb3
    have HB3 := Lib.hid hb3
    have h3 := HI5.out.c3
    have HO : Hid (∀ j u, (gl c.G g)[j]? = some u → w5.cell? ((⟨b1, 0, none⟩ : Addr).add j) = some u) := Lib.hid (fun j u hu => by
      rw [Addr.add_lit, Nat.zero_add]
      exact ht.has (HOLD.out j u hu) (fun e => by
        have h4 := HI.out.ltm; have h5 := HI.out.ltg; have h6 := HB.out; have h7 := HZ.out
        rcases e with e | e <;> simp at e <;> omega))
    clear ht t5 hb3
    go_wp2_with ((with_reducible refine wpList_copy2 rfl (.tmp 51) (.tmp 52) rfl c.bg (c.G + 1) (c.G + 1) c1 ⟨b1, 0, none⟩ rfl rfl (gl c.G g).toArray T3 HB3.out (gl c.G g) (gl_length _ _) (by simpa using gl_length c.G g) HO.out (gl_one _ _) ?_); intro w9 hw9 ht9; have HI9 := Lib.hid (HI5.out.restore ht9 hw9 HI.out.gi); have HT9 := Lib.hid (HT.out.then (ht9.mono (fun _ _ e => .inr (.inl e)))); have k69 := (ht9.has k6 s6); clear hw9 ht9)
    go_ret
    rw [HR.out]
    exact ⟨rfl, HI9.out, HT9.out⟩
  | yes n2 h2 x2 =>
    obtain ⟨rfl, hI2, hlo, hsz, ht⟩ := hG
    have t5 := ht
    have k4 := t5.has k4 d4
    have k5 := t5.has k5 d5
    have k6 := t5.has k6 d6
    have HI5 := Lib.hid (hI2.back HI1.out ht); clear hI2
    have HT := Lib.hid ((HT2.out.ss).then (ht.s2ss (be := be)))
    have hk0 := HI5.out.tree HN.out.c0 hfb
    have hb3 := HI5.out.gb
    obtain ⟨T3, hb3⟩ := hb3
    have HB3 := Lib.hid hb3
    have h3 := HI5.out.c3
    have HO : Hid (∀ j u, (gl c.G g)[j]? = some u → w5.cell? ((⟨b1, 0, none⟩ : Addr).add j) = some u) := Lib.hid (fun j u hu => by
      rw [Addr.add_lit, Nat.zero_add]
      exact ht.has (HOLD.out j u hu) (fun e => by
        have h4 := HI.out.ltm; have h5 := HI.out.ltg; have h6 := HB.out; have h7 := HZ.out
        rcases e with e | e <;> simp at e <;> omega))
    clear ht t5 hb3
    have hkk := HK.out w5 at' n2 h2 HT.out HI5.out (Nat.le_refl _) ha
    obtain ⟨q, hq⟩ : ∃ q, k at' n2 h2 = q := ⟨_, rfl⟩
    rw [hq] at hkk
    have HKK := Lib.hid hkk
    have HQ : Hid (lookR false (.yes n2 h2 x2) k at' g = q) := Lib.hid hq
    clear HK hkk hq
    go_wp2_with fail
    refine HKK.out.mono ?_
    intro e w6 hG
    clear HKK
    cases q with
    | over =>
      obtain ⟨rfl, ht⟩ := hG
      refine ⟨rfl, ?_⟩
      rw [HR.out, HQ.out]
      exact ⟨rfl, HT.out.then ht⟩
    | no n3 =>
      obtain ⟨rfl, hI3, ht⟩ := hG
      have k4 := ht.has k4 HS.out
      have k6 := ht.has k6 HS2.out
      have HI6 := Lib.hid hI3
      have HT6 := Lib.hid (HT.out.then ht)
      have HO6 : Hid (∀ j u, (gl c.G g)[j]? = some u → w6.cell? ((⟨b1, 0, none⟩ : Addr).add j) = some u) := Lib.hid (fun j u hu => by
        exact ht.has (HO.out j u hu) (fun e => by
          rw [Addr.add_lit] at e
          have h4 := HI.out.ltm; have h5 := HI.out.ltg; have h6 := HB.out; have h7 := HI.out.lte; have h8 := HZ.out
          rcases e with e | e | e <;> simp at e <;> omega))
      have hb3 := hI3.gb
      obtain ⟨T3, hb3⟩ := hb3
      have HB6 := Lib.hid hb3
      have h3 := hI3.c3
      clear hb3 hI3 ht
      go_wp2_with ((with_reducible refine wpList_copy2 rfl (.tmp 51) (.tmp 52) rfl c.bg (c.G + 1) (c.G + 1) c1 ⟨b1, 0, none⟩ rfl rfl (gl c.G h2).toArray T3 HB6.out (gl c.G g) (gl_length _ _) (by simpa using gl_length c.G h2) HO6.out (gl_one _ _) ?_); intro w9 hw9 ht9; have HI9 := Lib.hid (HI6.out.restore ht9 hw9 HI.out.gi); have HT9 := Lib.hid (HT6.out.then (ht9.mono (fun _ _ e => .inr (.inl e)))); have k69 := (ht9.has k6 s6); clear hw9 ht9)
      go_ret
      rw [HR.out, HQ.out]
      exact ⟨rfl, HI9.out, HT9.out⟩
    | yes n3 h3' x3 =>
      obtain ⟨rfl, hI3, hH3, hlo3, hsz3, ht⟩ := hG
      have HI6 := Lib.hid hI3
      have HH6 := Lib.hid hH3
      have HT6 := Lib.hid (HT.out.then ht)
      clear hI3 hH3 ht
      go_wp2_with fail
      go_ret
      rw [HR.out, HQ.out]
      exact ⟨rfl, HI6.out, HH6.out, hlo3, hsz3, HT6.out⟩
end Go.Proofs.Ytlgpilcjcomacaa
