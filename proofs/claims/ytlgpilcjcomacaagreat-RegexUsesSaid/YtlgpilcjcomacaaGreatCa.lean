/-
  The document's Match.
-/
import Derived.Test.YtlgpilcjcomacaaGreatBi
import Derived.Test.YtlgpilcjcomacaaGreatBl
import Derived.Deep.RegionLaw
namespace Go.Proofs.YtlgpilcjcomacaaGreat
open Go.RowKit Rx
set_option linter.unusedVariables false

/-- A copy of a slice of pairs that has an element, as a step of a region that draws. -/
theorem step_copy2 {ops : Array Oper} {o : Oper} {a : Act} {w : World} {K : Act → World → Prop} {Q : Exit → Act → World → Prop} {E : Prop} (hgd : o.guard = none) (s x : Operand)
    (ho : o.op = .call { callee := .builtin .append, args := #[s, x], argTypes := #[32, 32] }) (g : Nat) (hs : a.eval s = .slice (some ⟨g, 0, none⟩) 0 0) (hg : w.heap[g]? = some (.cells #[] 39 (0, 0))) (ad : Addr) (n cap : Nat) (hx : a.eval x = .slice (some ad) n cap)
    (cs : List Value) (hl : cs.length = n * 2) (hcell : ∀ j u, cs[j]? = some u → w.cell? (ad.add j) = some u) (h1 : ∀ u ∈ cs, u.oneCell' = true) (hn0 : 0 < n) (hn : n ≤ 100000)
    (h : ∀ b c w', n ≤ c → (∀ j u, cs[j]? = some u → w'.cell? ⟨b, j, none⟩ = some u) → Touch (fun k => k = g) w w' → (b = g ∨ b = w.heap.size) → K (a.put o.dst (.slice (some ⟨b, 0, none⟩) n c)) w') :
    if Region.wanted o (yielded ops a.tmps) = true then Oper.wp Tryz.prog o a w K Q else E := by
  obtain ⟨i0, hi, hz0, hz1, hz2⟩ := info_parts infoPair
  have hw : Region.wanted o (yielded ops a.tmps) = true := by simp [Region.wanted, hgd]
  rw [if_pos hw]
  obtain ⟨v', w', hr, h2, h3, _, h5⟩ := run_append_own_at (P := Tryz.prog) w 0 32 o.type 39 i0 (.agg #[.int .i64 0, .int .i64 0]) 2 16 Tryz.underlying32 hi hz0 hz1 hz2 rfl (by decide) _ 0 [] (owns_empty hg) ad n cap cs hl hcell h1 (by unfold maxLen; omega) (by omega) (Nat.zero_le _)
  unfold Oper.wp execOp
  simp only [ho, resolve, invoke, builtin, Sem.run_bind, Sem.run_pure, Result.andThen_ok, List.map_toArray, List.map_cons, List.map_nil, hs, hx, hr]
  rw [Nat.zero_add, List.nil_append] at h2
  rcases h2.2 with ⟨rfl, h0⟩ | ⟨b, c, cur, rfl, -, hb, hnc, -, hcz, htk⟩
  · omega
  · refine h b c w' hnc (fun j u hu => ?_) ⟨h3.os, h3.tape, h3.output, h3.size, fun k hk hne => h3.block k hk (fun e => hne (Option.some.inj e))⟩ ?_
    · unfold World.cell?
      have hj : j < cs.length := (List.getElem?_eq_some_iff.1 hu).1
      rw [← htk, List.getElem?_take, if_pos (by omega)] at hu
      simp [hb]
      simpa using hu
    · rcases h5 with h5 | h5
      · exact .inl (Option.some.inj h5)
      · exact .inr (Option.some.inj h5)

theorem slice_groups (bt G : Nat) (hG : G ≤ 9) (w : World) : (Instr.sliceAt 74 (.pointer (some ⟨bt, 3, none⟩)) none (some (.int .i64 ((G : Int) + 1))) none).run Tryz.prog w = .ok (.slice (some ⟨bt, 3, none⟩) (G + 1) 10) w := by
  have hal : Tryz.prog.arrayLen 74 = 10 := by kernel_rfl
  have hel : Tryz.prog.elem 74 = 39 := by kernel_rfl
  rw [run_sliceAt_array_h w 74 ⟨bt, 3, none⟩ (by kernel_rfl) .i64 _ (by omega) (by rw [hal]; omega), hal, hel]
  have e : ((G : Int) + 1).toNat = G + 1 := by omega
  simp [slicedAt, go_sem, e]

/-- What Match gives: an error; a match: its groups, its steps. -/
inductive Out where
  | err (c : Int)
  | found (G n : Nat) (g : Grp) (x : Nat)
def outR (G : Nat) : Res → Out
  | .over => .err 12
  | .no _ => .err 3
  | .yes n g x => .found G n g x
def MOut (t : ByteArray) (fr0 bu : Int) : Option (Re × Nat) → Out
  | none => .err 4
  | some (a, G) => if askOK t.size fr0 bu = true then outR G (fr (str t) bu.toNat (.grp 0 a) false fr0.toNat 0) else .err 1
def OutP (w : World) : Out → Ending → World → Prop
  | .err c, e, w' => e = .returned (.tuple #[.agg #[.slice none 0 0, .int .i64 0], .int .i64 c]) ∧ Still w w'
  | .found G n g x, e, w' => ∃ bg c : Nat, e = .returned (.tuple #[.agg #[.slice (some ⟨bg, 0, none⟩) (G + 1) c, .int .i64 (n : Int)], .int .i64 0]) ∧ w.heap.size ≤ bg ∧ (∀ j, j < 2 * (G + 1) → w'.cell? ⟨bg, j, none⟩ = some (gv g j)) ∧ G ≤ 9 ∧ n ≤ 1000000 ∧ Still w w'

/-- The program's Match, so told. -/
theorem match_out (s t : ByteArray) (fr0 bu : Int) (w : World) :
    Calls Tryz.prog 10 #[.string s, .string t, .int .i64 fr0, .int .i64 bu] w (OutP w (MOut t fr0 bu (readP (str s)))) := by
  refine (match_any s t fr0 bu w).mono ?_
  intro e w' h
  cases hr : readP (str s) with
  | none => rw [hr] at h; exact h
  | some x =>
    obtain ⟨a, G⟩ := x
    rw [hr] at h
    rcases h with ⟨h1, h2⟩ | ⟨h1, h2⟩
    · show OutP w (if askOK t.size fr0 bu = true then _ else _) e w'
      rw [if_neg (by rw [h1]; decide)]
      exact h2
    · show OutP w (if askOK t.size fr0 bu = true then _ else _) e w'
      rw [if_pos h1]
      generalize fr (str t) bu.toNat (.grp 0 a) false fr0.toNat 0 = rr at h2 ⊢
      cases rr with
      | over => exact h2
      | no n => exact h2
      | yes n g x =>
        obtain ⟨bg, T, h3, h4, h5, h6, h7, h8⟩ := h2
        refine ⟨bg, G + 1, h3, h4, fun j hj => ?_, h6, h7, h8⟩
        exact (holds_of_block h5 (gl_get G g j hj)).1

/-- The document's first, at a tree that was read. -/
theorem rfirst_read (t : ByteArray) (B : Nat) (b : Nat) (a : Re) (w0 w : World) (hei : EitherD (FP w0.heap.size w.heap.size) w (rdD (FP w0.heap.size w.heap.size) w a).ways (.pointer (some ⟨b, 0, none⟩))) (lo n : Nat) (hlo : lo ≤ t.size + 1) (hsz : t.size ≤ 5000) (hB : B ≤ 1000000) (hn : n ≤ B) (w1 : World) (ht : Still w w1) :
    Calls Tryz.prog 41 #[.pointer (some ⟨b, 0, none⟩), .string t, .int .i64 (lo : Int), .int .i64 (t.size : Int), .int .i64 (n : Int), .int .i64 (B : Int)] w1 (FirstD ⟨w1.heap.size, B, t, w1⟩ w1 lo (fr (str t) B (.grp 0 a) false lo n)) := by
  have hei1 : EitherD (fun i => i ≠ w1.heap.size) w1 (rdD (fun i => i ≠ w1.heap.size) w1 a).ways (.pointer (some ⟨b, 0, none⟩)) := hei.mono (fun i h => by have h1 := h.2; have h2 := ht.size; omega) (fun i h hl => ht.block i hl id)
  refine rfirst_any t B _ ⟨_, rfl⟩ a w1 (rrun_either ⟨w1.heap.size, B, t, w1⟩ a (all_okR _ a).2.2 _ hei1) lo t.size n hlo (Nat.le_refl _) hsz hB hn (fun j n => fr (str t) B (.grp 0 a) false j n) (fun j n hj => ?_) (fun n => ?_)
  · show fr (str t) B (.grp 0 a) false j n = _
    rw [fr_step _ _ _ _ _ _ (by rw [str_len]; exact hj)]
    simp only [run, if_true]
  · exact if_neg (by rw [str_len]; omega)

set_option maxRecDepth 100000 in
set_option maxHeartbeats 8000000 in
theorem rmatch_any (s t : ByteArray) (fr0 bu : Int) (w : World) :
    Calls Tryz.prog 28 #[.string s, .string t, .int .i64 fr0, .int .i64 bu] w (OutP w (MOut t fr0 bu (readP (str s)))) := by
  obtain ⟨w2, hw2⟩ : ∃ w2, w.alloc (.cells #[.slice none 0 0, .int .i64 0] 57) = w2 := ⟨_, rfl⟩
  have HT2 : Hid (Still w w2) := Lib.hid (by rw [← hw2]; exact (Touch.refl _ w).alloc _)
  have HZ2 : Hid (w2.heap.size = w.heap.size + 1) := Lib.hid (by rw [← hw2]; simp)
  have HC1 : Hid (Holds w2 w.heap.size 0 (.slice none 0 0) ∧ Holds w2 w.heap.size 1 (.int .i64 0)) := Lib.hid (by rw [← hw2]; exact ⟨Holds.made w #[.slice none 0 0, .int .i64 0] 57 0 _ rfl, Holds.made w #[.slice none 0 0, .int .i64 0] 57 1 _ rfl⟩)
  obtain ⟨b0, hb0⟩ : ∃ b0, w.heap.size = b0 := ⟨_, rfl⟩
  have HB0 := Lib.hid hb0
  have h0 := rasked_any s t fr0 bu w2
  generalize readP (str s) = rr at h0 ⊢
  have HA := Lib.hid h0
  clear h0
  go_enter Tryz.func28, Tryz.ntmps28
  go_wp2_with fail
  rw [hb0] at HC1
  clear hb0
  refine HA.out.mono ?_
  intro e w1 hG
  clear HA hw2
  have hend : ∀ (w1 w8 : World) (u v : Value), Still w2 w1 → w8 = (w1.setCell ⟨b0, 0, none⟩ u).setCell ⟨b0, 1, none⟩ v → Still w w8 := fun w1 w8 u v h e => by
    rw [e]
    exact (HT2.out.then h).trans (S1 := fun b => b = b0) (Touch.setCell (Touch.setCell (Touch.refl (fun b => b = b0) w1) (.inl rfl) _) (.inl rfl) _) (fun i e => .inr (by rw [HB0.out]; omega))
  have HEND := Lib.hid hend
  clear hend
  cases rr with
  | none =>
    obtain ⟨rfl, ht⟩ := hG
    have HT1 := Lib.hid ht
    have hx := HC1.out.1.keep ht id
    have hy := HC1.out.2.keep ht id
    obtain ⟨hx, hxf⟩ := hx
    obtain ⟨hy, hyf⟩ := hy
    clear ht
    go_wp2_with fail
    try simp only [Exit.inBlock, Exit.then]
    refine bodyPost_ret (v := .tuple #[.agg #[.slice none 0 0, .int .i64 0], .int .i64 4]) ?_ rfl ?_
    · simp [results, Tryz.results28, go_sem, hx, hy]
    · exact ⟨rfl, HEND.out _ _ _ _ HT1.out rfl⟩
  | some x =>
    obtain ⟨a, G⟩ := x
    rcases hG with ⟨hok, rfl, ht⟩ | ⟨hok, b, rfl, ht, hei, hg9⟩
    · have HOK := Lib.hid hok
      have HT1 := Lib.hid ht
      have hx := HC1.out.1.keep ht id
      have hy := HC1.out.2.keep ht id
      obtain ⟨hx, hxf⟩ := hx
      obtain ⟨hy, hyf⟩ := hy
      clear ht hok
      go_wp2_with fail
      try simp only [Exit.inBlock, Exit.then]
      refine bodyPost_ret (v := .tuple #[.agg #[.slice none 0 0, .int .i64 0], .int .i64 1]) ?_ rfl ?_
      · simp [results, Tryz.results28, go_sem, hx, hy]
      · show OutP w (if askOK t.size fr0 bu = true then outR G (fr (str t) bu.toNat (.grp 0 a) false fr0.toNat 0) else .err 1) _ _
        rw [if_neg (by rw [HOK.out]; decide)]
        exact ⟨rfl, HEND.out _ _ _ _ HT1.out rfl⟩
    · have HOK := Lib.hid hok
      have hin : t.size ≤ 5000 ∧ 0 ≤ fr0 ∧ fr0 ≤ (t.size : Int) ∧ 0 ≤ bu ∧ bu ≤ 1000000 := of_decide_eq_true hok
      obtain ⟨i1, i2, i3, i4, i5⟩ := hin
      obtain ⟨lo, rfl⟩ := Int.eq_ofNat_of_zero_le i2
      obtain ⟨B, rfl⟩ := Int.eq_ofNat_of_zero_le i4
      have HT1 := Lib.hid ht
      have HG9 := Lib.hid hg9
      have h1 := rfirst_read t B b a w2 w1 hei lo 0 (by omega) i1 (by omega) (Nat.zero_le _) w1 (Touch.refl _ _)
      obtain ⟨rr, hrr⟩ : ∃ rr, fr (str t) B (.grp 0 a) false lo 0 = rr := ⟨_, rfl⟩
      rw [hrr] at h1
      have HF := Lib.hid h1
      have HR : Hid (∀ e w', OutP w (outR G rr) e w' → OutP w (MOut t (lo : Int) (B : Int) (some (a, G))) e w') := Lib.hid (fun e w' h => by
        show OutP w (if askOK t.size (lo : Int) (B : Int) = true then outR G (fr (str t) B (.grp 0 a) false lo 0) else .err 1) e w'
        rw [if_pos HOK.out, hrr]; exact h)
      obtain ⟨bt, hbt⟩ : ∃ bt, w1.heap.size = bt := ⟨_, rfl⟩
      have HBT := Lib.hid hbt
      have hsl := slice_groups w1.heap.size G hg9
      rw [hbt] at HF hsl
      have HX : Hid (Holds w1 b0 0 (.slice none 0 0) ∧ Holds w1 b0 1 (.int .i64 0)) := Lib.hid ⟨HC1.out.1.keep ht id, HC1.out.2.keep ht id⟩
      have HN0 : Hid (b0 < w1.heap.size) := Lib.hid HX.out.1.lt
      have hw9 := IntWalk.i64_in ((G : Int) + 1) (by omega)
      clear hei ht hrr h1 hok hg9 hbt
      go_wp2_with fail
      refine HF.out.mono ?_
      clear HF
      intro e w6 hG
      cases rr with
      | over =>
        obtain ⟨rfl, -, ht⟩ := hG
        have HT6 := Lib.hid (HT1.out.then ht)
        have hx := HX.out.1.keep ht id
        have hy := HX.out.2.keep ht id
        obtain ⟨hx, hxf⟩ := hx
        obtain ⟨hy, hyf⟩ := hy
        clear ht
        go_wp2_with fail
        try simp only [Exit.inBlock, Exit.then]
        refine bodyPost_ret (v := .tuple #[.agg #[.slice none 0 0, .int .i64 0], .int .i64 12]) ?_ rfl ?_
        · simp [results, Tryz.results28, go_sem, hx, hy]
        · exact HR.out _ _ ⟨rfl, HEND.out _ _ _ _ HT6.out rfl⟩
      | no n1 =>
        obtain ⟨rfl, -, ht⟩ := hG
        have HT6 := Lib.hid (HT1.out.then ht)
        have hx := HX.out.1.keep ht id
        have hy := HX.out.2.keep ht id
        obtain ⟨hx, hxf⟩ := hx
        obtain ⟨hy, hyf⟩ := hy
        clear ht
        go_wp2_with fail
        try simp only [Exit.inBlock, Exit.then]
        refine bodyPost_ret (v := .tuple #[.agg #[.slice none 0 0, .int .i64 0], .int .i64 3]) ?_ rfl ?_
        · simp [results, Tryz.results28, go_sem, hx, hy]
        · exact HR.out _ _ ⟨rfl, HEND.out _ _ _ _ HT6.out rfl⟩
      | yes n1 g x =>
        obtain ⟨rfl, hI, -, -, ht⟩ := hG
        have HT6 := Lib.hid (HT1.out.then ht)
        have HZ6 : Hid (w1.heap.size ≤ w6.heap.size) := Lib.hid ht.size
        have HX6 : Hid (Holds w6 b0 0 (.slice none 0 0) ∧ Holds w6 b0 1 (.int .i64 0)) := Lib.hid ⟨HX.out.1.keep ht id, HX.out.2.keep ht id⟩
        have hI1 := hI.c1.1
        have HI := Lib.hid hI
        have HGL : Hid (∀ W, Still w6 W → ∀ j u, (gl G g)[j]? = some u → W.cell? ((⟨bt, 3, none⟩ : Addr).add j) = some u) := Lib.hid (fun W hW j u hu => by
          have hj : j < 2 * (G + 1) := by have := (List.getElem?_eq_some_iff.1 hu).1; rw [gl_length] at this; omega
          rw [gl_get G g j hj] at hu
          rw [Addr.add_lit, ← Option.some.inj hu]
          have h9 := HG9.out
          exact hW.has (HI.out.cg j (by omega)).1 id)
        have hI2 : (w6.alloc (.cells #[] 39)).cell? ⟨bt, 1, none⟩ = some (.int .i64 n1) := ((Touch.refl (fun _ => False) w6).alloc _).has hI1 id
        clear ht hI
        go_wp2_with fail
        go_region_law (refine step_copy2 rfl (.tmp 44) (.tmp 50) rfl w6.heap.size (by go_simp) (heap_alloc_new w6 _) ⟨bt, 3, none⟩ (G + 1) 10 (by go_simp) (gl G g) (gl_length _ _) (HGL.out _ (Touch.drew (Touch.alloc (Touch.refl (fun _ => False) w6) _))) (gl_one _ _) (by omega) (by have := HG9.out; omega) ?_; intro bg cg w7 hcg7 hcells ht7 hbg; have HT7 : Hid (Still w6 w7) := Lib.hid ((Touch.drew (Touch.alloc (Touch.refl (fun _ => False) w6) _)).trans ht7 (fun i e => .inr (by omega))); have HC7 := Lib.hid hcells; have hx7 := (HX6.out.1.keep HT7.out id).1; have hxf7 := (HX6.out.1.keep HT7.out id).2; have hy7 := (HX6.out.2.keep HT7.out id).1; have hyf7 := (HX6.out.2.keep HT7.out id).2; have h17 := HT7.out.has hI1 id; have HBG := Lib.hid hbg; clear hcells ht7 hbg)
        all_goals
          go_wp2_with fail
          try simp only [Exit.inBlock, Exit.then]
          refine bodyPost_ret (v := .tuple #[.agg #[.slice (some ⟨bg, 0, none⟩) (G + 1) cg, .int .i64 (n1 : Int)], .int .i64 0]) ?_ rfl ?_
          · simp [results, Tryz.results28, go_sem, hx7, hy7]
          · have hb := HBG.out
            have hz0 := HN0.out
            have hz1 := HT6.out.size
            have hz6 := HZ6.out
            have hne : b0 ≠ bg := by
              rcases hb with hb | hb
              · omega
              · simp at hb; omega
            refine HR.out _ _ ⟨bg, cg, rfl, by rw [HB0.out]; rcases hb with hb | hb <;> (try simp at hb) <;> omega, fun j hj => ?_, HG9.out, Nat.le_trans HI.out.nB HI.out.lB, HEND.out _ _ _ _ (HT6.out.then HT7.out) rfl⟩
            rw [World.cell?_setCell_other _ _ _ _ (by intro e; exact hne (congrArg Addr.block e)), World.cell?_setCell_other _ _ _ _ (by intro e; exact hne (congrArg Addr.block e))]
            exact HC7.out j _ (gl_get G g j hj)
end Go.Proofs.YtlgpilcjcomacaaGreat
