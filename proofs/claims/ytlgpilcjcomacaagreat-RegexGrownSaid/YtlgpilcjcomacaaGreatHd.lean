/-
  The program's all.
-/
import Derived.Test.YtlgpilcjcomacaaGreatHc
import Derived.Deep.AppendLies
namespace Go.Proofs.YtlgpilcjcomacaaGreat
open Go.RowKit Rx
set_option linter.unusedVariables false

abbrev TG : TypeId := 32
abbrev TGS : TypeId := 68
theorem infoTG : (Tryz.prog.info? TG).map (fun i => (i.zero, i.size, i.bytes)) = some (some (.slice none 0 0), 1, 24) := by kernel_rfl

/-- Matches in memory: each a slice of its own block. -/
def ML (w : World) (G : Nat) (F : Nat → Prop) : List Grp → List Value → Prop
  | [], [] => True
  | g :: l, v :: vs => (∃ bg, v = .slice (some ⟨bg, 0, none⟩) (G + 1) (G + 1) ∧ F bg ∧ PairsAt w G bg g) ∧ ML w G F l vs
  | _, _ => False
theorem ML.mono {w w' : World} {G : Nat} {F F' : Nat → Prop} (hc : ∀ b, F b → b < w.heap.size → F' b ∧ w'.heap[b]? = w.heap[b]?) : ∀ {l : List Grp} {vs : List Value}, ML w G F l vs → ML w' G F' l vs
  | [], [], _ => trivial
  | g :: l, v :: vs, ⟨⟨bg, h1, h2, h3⟩, h4⟩ => by
    obtain ⟨h5, h6⟩ := hc bg h2 h3.lt
    exact ⟨⟨bg, h1, h5, fun j hj => (World.cell?_of_block (w := w) (a := ⟨bg, j, none⟩) h6).trans (h3 j hj)⟩, ML.mono hc h4⟩
  | [], _ :: _, h => h.elim
  | _ :: _, [], h => h.elim
theorem ML.snoc {w : World} {G : Nat} {F : Nat → Prop} {g : Grp} {v : Value} (hv : ∃ bg, v = .slice (some ⟨bg, 0, none⟩) (G + 1) (G + 1) ∧ F bg ∧ PairsAt w G bg g) : ∀ {l : List Grp} {vs : List Value}, ML w G F l vs → ML w G F (l ++ [g]) (vs ++ [v])
  | [], [], _ => ⟨hv, trivial⟩
  | _ :: _, _ :: _, ⟨h1, h2⟩ => ⟨h1, ML.snoc hv h2⟩
  | [], _ :: _, h => h.elim
  | _ :: _, [], h => h.elim
theorem ML.get {w : World} {G : Nat} {F : Nat → Prop} : ∀ (l : List Grp) (vs : List Value) (j : Nat) (g : Grp), ML w G F l vs → l[j]? = some g → ∃ bg : Nat, vs[j]? = some (Value.slice (some ⟨bg, 0, none⟩) (G + 1) (G + 1)) ∧ F bg ∧ PairsAt w G bg g := by
  intro l
  induction l with
  | nil => intro vs j g _ h; simp at h
  | cons g0 l ih =>
    intro vs j g hm h
    cases vs with
    | nil => exact hm.elim
    | cons v vs =>
      obtain ⟨⟨bg, h1, h2, h3⟩, h4⟩ := hm
      cases j with
      | zero =>
        simp at h
        subst h
        exact ⟨bg, by simp [h1], h2, h3⟩
      | succ j =>
        simp at h
        obtain ⟨bg, h5, h6⟩ := ih vs j g h4 h
        exact ⟨bg, by simpa using h5, h6⟩

theorem MB.keep2 {S : Nat → Prop} {c : Cx} {n : Nat} {w w' : World} (h : MB c n w) (t : Touch S w w') (hn : ¬ S c.bm) (hS : ∀ b, S b → b = c.bm ∨ c.wT.heap.size ≤ b) : MB c n w' :=
  ⟨t.has h.c0 hn, h.c1.keep t hn, t.has h.c2 hn, by obtain ⟨v, hv⟩ := h.c3; exact ⟨v, hv.keep t hn⟩, h.nB, h.lB, h.lG, h.sz, h.tr.trans t hS⟩

/-- All matches under way: so many steps, those that are there. -/
structure AllSt (c : Cx) (w : World) (r0 n : Nat) (v : Value) (l : List Grp) (vs : List Value) (wr : World) : Prop where
  mb : MB c n wr
  ro : Holds wr r0 0 v
  ow : wr.ownsRow w.heap.size TG 1 v l.length vs
  ml : ML wr c.G (fun b => w.heap.size ≤ b ∧ v.ownBlock ≠ some b) l vs
  tr : Touch (fun b => b = c.bm ∨ b = r0) w wr

def AllTried (c : Cx) (w : World) (r0 : Nat) : Option (List Grp) → Ending → World → Prop
  | none, e, w' => e = .panicked [{ v := .iface 112 (.agg #[]), recovered := false }] ∧ Touch (fun b => b = c.bm ∨ b = r0) w w'
  | some l, e, w' => e = .returned (.tuple #[]) ∧ ∃ n x cp vs, AllSt c w r0 n (.slice x l.length cp) l vs w'

/-- A look for a match leaves what is there. -/
theorem AllSt.find {c : Cx} {w : World} {r0 n n' : Nat} {v : Value} {l : List Grp} {vs : List Value} {wr w3 : World} (h : AllSt c w r0 n v l vs wr) (t : Touch (fun b => b = c.bm) wr w3) (hb : c.bm < w.heap.size) (hr : r0 ≠ c.bm) (hm : MB c n' w3) : AllSt c w r0 n' v l vs w3 :=
  ⟨hm, h.ro.keep t hr, owns_keep h.ow t (fun b e e2 => by have h1 := (h.ow.lt b e2).1; omega), h.ml.mono (fun b hF hl => ⟨hF, t.block b hl (fun e => by have := hF.1; omega)⟩), h.tr.trans t (fun i e => .inl (.inl e))⟩

theorem AllSt.keep {c : Cx} {w : World} {r0 n : Nat} {v : Value} {l : List Grp} {vs : List Value} {wr w3 : World} (h : AllSt c w r0 n v l vs wr) (t : Still wr w3) : AllSt c w r0 n v l vs w3 :=
  ⟨h.mb.keep t, h.ro.keep t id, owns_keep h.ow t (fun b e => e.elim), h.ml.mono (fun b hF hl => ⟨hF, t.block b hl id⟩), h.tr.trans t (fun i e => e.elim)⟩

/-- A match more. -/
theorem AllSt.add {c : Cx} {w : World} {r0 n : Nat} {v : Value} {l : List Grp} {vs : List Value} {w3 w4 w5 : World} {g : Grp} {bg g' cap' : Nat} (h : AllSt c w r0 n v l vs w3) (t4 : Still w3 w4) (hrow : ∀ b, v.ownBlock = some b → b ≠ bg) (hbg : w.heap.size ≤ bg) (hp : PairsAt w3 c.G bg g)
    (ho : w5.ownsRow w.heap.size TG 1 (.slice (some ⟨g', 0, none⟩) (l.length + 1) cap') (l.length + 1) (vs ++ [.slice (some ⟨bg, 0, none⟩) (c.G + 1) (c.G + 1)])) (hg : w4.grownBy w5 v.ownBlock) (hat : v.ownBlock = some g' ∨ g' = w4.heap.size) (hr : r0 ≠ c.bm) (hb : c.bm < w.heap.size) (hrw : r0 < w.heap.size) (hT : c.wT.heap.size ≤ r0) :
    Holds w5 r0 0 v ∧ AllSt c w r0 n (.slice (some ⟨g', 0, none⟩) (l ++ [g]).length cap') (l ++ [g]) (vs ++ [.slice (some ⟨bg, 0, none⟩) (c.G + 1) (c.G + 1)]) (w5.setCell ⟨r0, 0, none⟩ (.slice (some ⟨g', 0, none⟩) (l.length + 1) cap')) ∧ PairsAt (w5.setCell ⟨r0, 0, none⟩ (.slice (some ⟨g', 0, none⟩) (l.length + 1) cap')) c.G bg g ∧ Still w3 w4 := by
  have hrl : ∀ b, v.ownBlock = some b → w.heap.size ≤ b := fun b e => (h.ow.lt b e).1
  have t5 : Touch (fun b => v.ownBlock = some b) w4 w5 := ⟨hg.os, hg.tape, hg.output, hg.size, fun k hk hn => hg.block k hk (fun e => hn e.symm)⟩
  have t45 : Touch (fun b => v.ownBlock = some b) w3 w5 := (t4.mono (fun _ _ e => e.elim)).then t5
  have hro : Holds w5 r0 0 v := h.ro.keep t45 (fun e => by have := hrl _ e; omega)
  have t6 : Touch (fun b => b = r0) w5 (w5.setCell ⟨r0, 0, none⟩ (.slice (some ⟨g', 0, none⟩) (l.length + 1) cap')) := Touch.setCell (Touch.refl (fun b => b = r0) w5) (.inl rfl) _
  have hl3 := hp.lt
  have hg'0 : w.heap.size ≤ g' := by
    rcases hat with e | e
    · exact hrl _ e
    · have := h.tr.size; have := t4.size; omega
  have hne : ∀ b, b < w3.heap.size → v.ownBlock ≠ some b → g' ≠ b := fun b hb hn e => by
    subst e
    rcases hat with e | e
    · exact hn e
    · have := t4.size; omega
  have hpz : PairsAt (w5.setCell ⟨r0, 0, none⟩ (.slice (some ⟨g', 0, none⟩) (l.length + 1) cap')) c.G bg g := (hp.keep t45 (fun e => hrow _ e rfl)).keep t6 (by omega)
  have hmb : MB c n (w5.setCell ⟨r0, 0, none⟩ (.slice (some ⟨g', 0, none⟩) (l.length + 1) cap')) := by
    refine (h.mb.keep2 t45 (fun e => by have := hrl _ e; omega) (fun b e => .inr (by have := hrl _ e; omega))).keep2 t6 (fun e => hr e.symm) (fun b e => .inr (by omega))
  refine ⟨hro, ⟨hmb, ?_, ?_, ?_, ?_⟩, hpz, t4⟩
  · rw [List.length_append]; exact hro.set _
  · rw [List.length_append]
    exact owns_keep ho t6 (fun b e e2 => by
      have e2 : some g' = some b := e2
      cases e2
      omega)
  · refine ML.snoc ⟨bg, rfl, ⟨hbg, fun e => hne bg hl3 (fun e2 => hrow _ e2 rfl) (Option.some.inj e)⟩, hpz⟩ (h.ml.mono (fun b hF hlb => ⟨⟨hF.1, fun e => hne b hlb hF.2 (Option.some.inj e)⟩, ?_⟩))
    exact (t6.block b (Nat.lt_of_lt_of_le hlb t45.size) (by have := hF.1; omega)).trans (t45.block b hlb (fun e => hF.2 e))
  · exact ((h.tr.trans t45 (fun i e => .inr (hrl _ e))).trans t6 (fun i e => .inl (.inr e)))

set_option maxRecDepth 100000 in
set_option maxHeartbeats 8000000 in
theorem all1_any (c : Cx) (a : Re) (ha : fits c.G c.G a) (p : Value) (hp : (trd c a).node p) (hpp : ∃ x, p = .pointer x) (w : World) (h : MB c 0 w) (s0 m0 n0 q0 r0 : Nat) (ks : w.cell? ⟨s0, 0, none⟩ = some (.string c.s)) (k0 : w.cell? ⟨m0, 0, none⟩ = some (.pointer (some ⟨c.bm, 0, none⟩))) (k1 : w.cell? ⟨n0, 0, none⟩ = some p) (k2 : w.cell? ⟨q0, 0, none⟩ = some (.int .i64 (c.G : Int))) (k4 : Holds w r0 0 (.slice none 0 0))
    (hs : s0 ≠ c.bm ∧ s0 ≠ r0) (hm : m0 ≠ c.bm ∧ m0 ≠ r0) (hn : n0 ≠ c.bm ∧ n0 ≠ r0) (hq : q0 ≠ c.bm ∧ q0 ≠ r0) (hr : r0 ≠ c.bm) (hT : c.wT.heap.size ≤ r0) :
    Calls Tryz.prog 50 #[.pointer (some ⟨s0, 0, none⟩), .pointer (some ⟨m0, 0, none⟩), .pointer (some ⟨n0, 0, none⟩), .pointer (some ⟨q0, 0, none⟩), .pointer (some ⟨r0, 0, none⟩)] w (AllTried c w r0 (everyR (str c.s) c.B a 0 0)) := by
  obtain ⟨px, rfl⟩ := hpp
  have HST : Hid (AllSt c w r0 0 (.slice none 0 0) [] [] w) := Lib.hid ⟨h, k4, World.ownsRow_nil _ _ _ _, trivial, Touch.refl _ _⟩
  have hsz := h.sz
  have hbm := h.ltm
  have hrw := k4.lt
  have HFI := Lib.hid (fun (j n : Nat) (wr : World) (hj : j ≤ c.s.size) (hm : MB c n wr) => find_any c a (.pointer px) hp false j n wr hj hm ⟨px, rfl⟩)
  have HFAR := Lib.hid (fun (j n m : Nat) (g : Grp) (x : Nat) (h : fr (str c.s) c.B a false j n = .yes m g x) => fr_far ha _ j n m g x rfl h)
  have HEY := Lib.hid (fun (j n m : Nat) (g : Grp) (x : Nat) (h : fr (str c.s) c.B a false j n = .yes m g x) => everyR_yes ha h)
  have HKS := Lib.hid ks
  have HK0 := Lib.hid k0
  have HK1 := Lib.hid k1
  have HK2 := Lib.hid k2
  have HNE := Lib.hid (And.intro hs (And.intro hm (And.intro hn (And.intro hq hr))))
  have HT := Lib.hid hT
  have HBM := Lib.hid hbm
  have HRW := Lib.hid hrw
  clear h k4 ks k0 k1 k2 hs hm hn hq hr hT hp ha hbm hrw
  go_enter Tryz.func50, Tryz.ntmps50
  go_wp2_with fail
  go_loopw [5] (fun iv wr => ∃ (j n : Nat) (x : Option Addr) (cp : Nat) (l : List Grp) (vs : List Value), iv = .int .i64 (j : Int) ∧ j ≤ c.s.size + 1 ∧ l.length ≤ j ∧ Hid (AllSt c w r0 n (.slice x l.length cp) l vs wr) ∧ Hid (everyR (str c.s) c.B a 0 0 = (everyR (str c.s) c.B a j n).map (l ++ ·))) (fun iv _ => c.s.size + 1 - (intOf iv).toNat)
  case atStart => exact ⟨0, 0, none, 0, [], [], rfl, Nat.zero_le _, Nat.le_refl _, HST, Lib.hid (by simp)⟩
  case round =>
    clear HST
    obtain ⟨j, n, x, cp, l, vs, rfl, hj, hl, HS, HE⟩ := hrel
    have ks := HS.out.tr.has HKS.out (fun e => e.elim HNE.out.1.1 HNE.out.1.2)
    have k0 := HS.out.tr.has HK0.out (fun e => e.elim HNE.out.2.1.1 HNE.out.2.1.2)
    have k1 := HS.out.tr.has HK1.out (fun e => e.elim HNE.out.2.2.1.1 HNE.out.2.2.1.2)
    have k2 := HS.out.tr.has HK2.out (fun e => e.elim HNE.out.2.2.2.1.1 HNE.out.2.2.2.1.2)
    by_cases hlt : j ≤ c.s.size
    · have q1 : decide ((j : Int) ≤ (c.s.size : Int)) = true := decide_eq_true (by omega)
      have q1n : decide (j ≤ c.s.size) = true := decide_eq_true hlt
      have HF := Lib.hid (HFI.out j n wr hlt HS.out.mb)
      have HFR := Lib.hid (HFAR.out j n)
      have HEV := Lib.hid (HEY.out j n)
      have HEO : Hid (fr (str c.s) c.B a false j n = .over → everyR (str c.s) c.B a j n = none) := Lib.hid everyR_over
      have HEN : Hid (∀ m, fr (str c.s) c.B a false j n = .no m → everyR (str c.s) c.B a j n = some []) := Lib.hid (fun m h => everyR_no h)
      go_wp2_with fail
      generalize fr (str c.s) c.B a false j n = rr at HF HFR HEV HEO HEN
      refine HF.out.mono ?_
      clear HF ks k0 k1 k2
      intro e w3 hG
      cases rr with
      | over =>
        obtain ⟨rfl, ht⟩ := hG
        have HEQ : Hid (everyR (str c.s) c.B a 0 0 = none) := Lib.hid (by rw [HE.out, HEO.out rfl]; rfl)
        have HTT := Lib.hid (HS.out.tr.trans ht (fun i e => .inl (.inl e)))
        have HRES : AllTried c w r0 (everyR (str c.s) c.B a 0 0) (.panicked [{ v := .iface 112 (.agg #[]), recovered := false }]) w3 := by rw [HEQ.out]; exact ⟨rfl, HTT.out⟩
        exact ⟨rfl, HRES⟩
      | no n1 =>
        obtain ⟨rfl, hm, ht⟩ := hG
        have HEQ : Hid (everyR (str c.s) c.B a 0 0 = some l) := Lib.hid (by rw [HE.out, HEN.out n1 rfl]; simp)
        have HS3 := Lib.hid (HS.out.find ht HBM.out HNE.out.2.2.2.2 hm)
        clear ht hm
        go_wp2_with fail
        go_end0
        rw [HEQ.out]
        exact ⟨rfl, n1, x, cp, vs, HS3.out⟩
      | yes n1 g x1 =>
        obtain ⟨rfl, ⟨bg, hbg, be, hI⟩, ⟨i, hi0, hi1, hi2, hi3⟩, ht⟩ := hG
        have hbg0 : w.heap.size ≤ bg := Nat.le_trans HS.out.tr.size hbg
        have hp3 : PairsAt w3 c.G bg g := fun j hj => by
          obtain ⟨T, hb⟩ := hI.gb
          exact (holds_of_block hb (gl_get c.G g j hj)).1
        have hrow : ∀ b, (Value.slice x l.length cp).ownBlock = some b → b ≠ bg := fun b e e2 => by
          have := (HS.out.ow.lt b e).2
          omega
        have HS3 := Lib.hid (HS.out.find ht HBM.out HNE.out.2.2.2.2 (MB.of hI))
        have hc3 : w3.cell? ⟨c.bm, 3, none⟩ = some (.slice (some ⟨bg, 0, none⟩) (c.G + 1) (c.G + 1)) := hI.c3
        have k0 := HS3.out.tr.has HK0.out (fun e => e.elim HNE.out.2.1.1 HNE.out.2.1.2)
        have hv := HS3.out.ro.1
        have HROW := Lib.hid hrow
        have HBG0 := Lib.hid hbg0
        have HP3 := Lib.hid hp3
        have HG0 := Lib.hid hi3
        have HMA := Lib.hid (HFR.out n1 g x1 rfl)
        have HEQ : Hid (everyR (str c.s) c.B a 0 0 = (everyR (str c.s) c.B a (nextJ g) n1).map (l ++ [g] ++ ·)) := Lib.hid (by
          rw [HE.out, HEV.out n1 g x1 rfl, Option.map_map]
          congr 1
          funext z
          simp)
        obtain ⟨i0, hinfo, hz0, hz1, hz2⟩ := info_parts infoTG
        have HI := Lib.hid hinfo
        have HZ := Lib.hid (And.intro hz0 (And.intro hz1 hz2))
        clear ht hI hbg hrow hbg0 hp3 hi3 hinfo hz0 hz1 hz2
        go_wp2_with (at_builtin; refine wpList_append_lies _ rfl (.tmp 22) (.tmp 24) TGS rfl w.heap.size TG i0 (.slice none 0 0) 1 24 Tryz.underlying68 HI.out HZ.out.1 HZ.out.2.1 HZ.out.2.2 rfl (by decide) _ _ _ rfl (HS3.out.ow.alloc _) ⟨w3.heap.size, 0, none⟩ 1 1 [_] rfl rfl (news1 (alloc_cell0 _ _ _)) (by intro v hv; rw [List.mem_singleton.1 hv]; rfl) (by decide) (by unfold maxLen; omega) (by omega) (by have := HS3.out.tr.size; simp; omega) _ rfl ?_; intro g' cp' w5 hown hgrow hat hlt'; obtain ⟨hro, hs6, hp6, ht4⟩ := HS3.out.add ((Touch.refl (fun _ => False) w3).alloc _) HROW.out HBG0.out HP3.out hown hgrow hat HNE.out.2.2.2.2 HBM.out HRW.out HT.out; clear hown hgrow hat hlt' ht4 hv k0 hc3; have HS6 := Lib.hid hs6; have HP6 := Lib.hid hp6; clear hs6 hp6; obtain ⟨hro, hrf⟩ := hro; obtain ⟨w6, hw6⟩ : ∃ w6, w5.setCell ⟨r0, 0, none⟩ (.slice (some ⟨g', 0, none⟩) (l.length + 1) cp') = w6 := ⟨_, rfl⟩; rw [hw6] at HS6 HP6; have p0 : w6.cell? ⟨bg, 0, none⟩ = some (.int .i64 (i : Int)) := (by have h1 := HP6.out 0 (by omega); rw [h1]; unfold gv; rw [if_pos rfl, HG0.out]); have p1 : w6.cell? ⟨bg, 1, none⟩ = some (.int .i64 (x1 : Int)) := (by have h1 := HP6.out 1 (by omega); rw [h1]; unfold gv; rw [if_neg (by decide), HG0.out]))
        obtain ⟨hn1, hn2, hn3⟩ := nextJ_lt HMA.out
        rw [str_len] at hn3
        have HN := Lib.hid (And.intro hn1 (And.intro hn2 hn3))
        clear hn1 hn2 hn3 hw6
        by_cases hix : i = x1
        · have HNX : Hid (nextJ g = x1 + 1) := Lib.hid (by unfold nextJ; rw [HG0.out]; simp [hix])
          have q3 : ((i : Int) == (x1 : Int)) = true := by simp; omega
          have wx := IntWalk.i64_in ((x1 : Int) + 1) (by omega)
          clear hix
          go_quiet (fail)
          generalize hw7 : w6.drewN nq = w7
          have HS7 := Lib.hid (HS6.out.keep (show Still w6 w7 by rw [← hw7]; exact still_drewN _ nq))
          clear hw7 p0 p1
          go_wp2_with fail
          go_roundw
          case rel => exact ⟨nextJ g, n1, some ⟨g', 0, none⟩, cp', l ++ [g], _, by rw [HNX.out]; go_num, HN.out.2.2, by rw [List.length_append]; have := HN.out.1; simp; omega, HS7, HEQ⟩
          case measure => have := HN.out; rw [HNX.out] at this; simp [intOf]; omega
        · have HNX : Hid (nextJ g = x1) := Lib.hid (by unfold nextJ; rw [HG0.out]; simp only; rw [if_neg (by omega)]; simp)
          have q3 : ((i : Int) == (x1 : Int)) = false := by simp; omega
          have wx := IntWalk.i64_in ((x1 : Int) + 1) (by omega)
          clear hix
          go_quiet (fail)
          generalize hw7 : w6.drewN nq = w7
          have HS7 := Lib.hid (HS6.out.keep (show Still w6 w7 by rw [← hw7]; exact still_drewN _ nq))
          clear hw7 p0 p1
          go_wp2_with fail
          go_roundw
          case rel => exact ⟨nextJ g, n1, some ⟨g', 0, none⟩, cp', l ++ [g], _, by rw [HNX.out], HN.out.2.2, by rw [List.length_append]; have := HN.out.1; simp; omega, HS7, HEQ⟩
          case measure => have := HN.out; rw [HNX.out] at this; simp [intOf]; omega
    · obtain rfl : j = c.s.size + 1 := by omega
      have q1 : decide (((c.s.size + 1 : Nat) : Int) ≤ (c.s.size : Int)) = false := decide_eq_false (by omega)
      have q1n : decide (c.s.size + 1 ≤ c.s.size) = false := decide_eq_false (by omega)
      have HEQ : Hid (everyR (str c.s) c.B a 0 0 = some l) := Lib.hid (by rw [HE.out, everyR_past (by rw [str_len]; omega)]; simp)
      go_wp2_with fail
      go_end0
      rw [HEQ.out]
      exact ⟨rfl, n, x, cp, vs, HS.out⟩
end Go.Proofs.YtlgpilcjcomacaaGreat
