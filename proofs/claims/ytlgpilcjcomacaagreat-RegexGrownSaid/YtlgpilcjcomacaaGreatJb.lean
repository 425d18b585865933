/-
  The document's every and All. (Printed by wip/tools/every07.py.)
-/
import Derived.Test.YtlgpilcjcomacaaGreatCa
import Derived.Test.YtlgpilcjcomacaaGreatHg
namespace Go.Proofs.YtlgpilcjcomacaaGreat
open Go.RowKit Rx
set_option linter.unusedVariables false

/-- Matches with all their groups, as cells. -/
def dl : List Grp → List Value
  | [] => []
  | g :: l => gl 9 g ++ dl l
theorem dl_len : ∀ l : List Grp, (dl l).length = l.length * 20
  | [] => rfl
  | g :: l => by show (gl 9 g ++ dl l).length = _; rw [List.length_append, gl9_len, dl_len l, List.length_cons]; omega
theorem dl_snoc : ∀ (l : List Grp) (g : Grp), dl (l ++ [g]) = dl l ++ gl 9 g
  | [], g => by show gl 9 g ++ [] = [] ++ gl 9 g; simp
  | h :: l, g => by show gl 9 h ++ dl (l ++ [g]) = (gl 9 h ++ dl l) ++ gl 9 g; rw [dl_snoc l g, List.append_assoc]
theorem dl_get : ∀ (l : List Grp) (j : Nat) (g : Grp) (i : Nat), l[j]? = some g → i < 20 → (dl l)[j * 20 + i]? = some (gv g i)
  | [], j, g, i, h, _ => by simp at h
  | h0 :: l, 0, g, i, h, hi => by
    simp at h
    subst h
    show (gl 9 h0 ++ dl l)[0 * 20 + i]? = _
    rw [List.getElem?_append_left (by rw [gl9_len]; omega), show 0 * 20 + i = i by omega, gl_get 9 h0 i (by omega)]
  | h0 :: l, j + 1, g, i, h, hi => by
    simp at h
    show (gl 9 h0 ++ dl l)[(j + 1) * 20 + i]? = _
    rw [List.getElem?_append_right (by rw [gl9_len]; omega), gl9_len, show (j + 1) * 20 + i - 20 = j * 20 + i by omega]
    exact dl_get l j g i h hi
/-- Matches in the document's memory. -/
def DRow (w : World) (x : Option Addr) (l : List Grp) : Prop := ∀ j g, l[j]? = some g → ∃ b, x = some ⟨b, 0, none⟩ ∧ ∀ i, i < 20 → w.cell? ⟨b, j * 20 + i, none⟩ = some (gv g i)
theorem DRow.keep {w w' : World} {x : Option Addr} {l : List Grp} (h : DRow w x l) (t : Still w w') : DRow w' x l := fun j g hg => by
  obtain ⟨b, h1, h2⟩ := h j g hg
  exact ⟨b, h1, fun i hi => t.has (h2 i hi) id⟩
theorem owns_drow {w : World} {lo : Nat} {e : TypeId} {x : Option Addr} {cp : Nat} {l : List Grp} (h : w.ownsRow lo e 20 (.slice x l.length cp) l.length (dl l)) : DRow w x l ∧ l.length ≤ cp := by
  rcases h.2 with ⟨e1, e2⟩ | ⟨g0, cap, cur, e1, hb, hgg, hc, hr⟩
  · injection e1 with a1 a2 a3
    refine ⟨fun j g hg => ?_, by omega⟩
    have h2 := (List.getElem?_eq_some_iff.1 hg).1
    omega
  · injection e1 with a1 a2 a3
    subst a3
    refine ⟨fun j g hg => ⟨g0, a1, fun i hi => ?_⟩, hc⟩
    have h2 := h.cells (g := g0) (by rw [a1]; rfl) (j * 20 + i) _ (dl_get l j g i hg hi)
    rw [Addr.add_mid, Nat.zero_add] at h2
    exact h2
theorem owns_keep20 {w w' : World} {lo : Nat} {e : TypeId} {v : Value} {n : Nat} {xs : List Value} (h : w.ownsRow lo e 20 v n xs) (t : Still w w') : w'.ownsRow lo e 20 v n xs := by
  refine ⟨h.1, ?_⟩
  rcases h.2 with h0 | ⟨g, cap, c, rfl, hb, hgg, hr⟩
  · exact .inl h0
  · exact .inr ⟨g, cap, c, rfl, hb, (t.block g (Array.getElem?_eq_some_iff.1 hgg).1 id).trans hgg, hr⟩
theorem infoG20 : (Tryz.prog.info? 74).map (fun i => (i.zero, i.size, i.bytes)) = some (some (.agg #[.int .i64 0, .int .i64 0, .int .i64 0, .int .i64 0, .int .i64 0, .int .i64 0, .int .i64 0, .int .i64 0, .int .i64 0, .int .i64 0, .int .i64 0, .int .i64 0, .int .i64 0, .int .i64 0, .int .i64 0, .int .i64 0, .int .i64 0, .int .i64 0, .int .i64 0, .int .i64 0]), 20, 160) := by kernel_rfl

theorem fold20 (g : Grp) : List.foldl (fun (cs : Array Value) (x : Value × Nat) => cs.setIfInBounds x.snd x.fst) #[.int .i64 0, .int .i64 0, .int .i64 0, .int .i64 0, .int .i64 0, .int .i64 0, .int .i64 0, .int .i64 0, .int .i64 0, .int .i64 0, .int .i64 0, .int .i64 0, .int .i64 0, .int .i64 0, .int .i64 0, .int .i64 0, .int .i64 0, .int .i64 0, .int .i64 0, .int .i64 0] (gl 9 g).zipIdx = (gl 9 g).toArray := by kernel_rfl

/-- What every gives. -/
def EveryP (w : World) : AllR → Ending → World → Prop
  | .err c, e, w' => e = .returned (.tuple #[.slice none 0 0, .int .i64 c]) ∧ Still w w'
  | .got G l, e, w' => ∃ x cp, e = .returned (.tuple #[.slice x l.length cp, .int .i64 0]) ∧ l.length ≤ cp ∧ DRow w' x l ∧ G ≤ 9 ∧ Still w w'

set_option maxRecDepth 100000 in
set_option maxHeartbeats 8000000 in
theorem every_any (s t : ByteArray) (bu : Int) (w : World) :
    Calls Tryz.prog 34 #[.string s, .string t, .int .i64 bu] w (EveryP w (allV t bu (readP (str s)))) := by
  have h0 := rasked_any s t 0 bu w
  have HFIT0 := Lib.hid (fun a G (h : readP (str s) = some (a, G)) => read_fit h)
  generalize readP (str s) = rr at h0 HFIT0 ⊢
  have HA := Lib.hid h0
  clear h0
  go_enter Tryz.func34, Tryz.ntmps34
  go_wp2_with fail
  refine HA.out.mono ?_
  intro e w1 hG
  clear HA
  cases rr with
  | none =>
    obtain ⟨rfl, ht⟩ := hG
    have HT1 := Lib.hid ht
    clear ht
    go_wp2_with fail
    go_ret2
    exact ⟨rfl, HT1.out⟩
  | some xx =>
    obtain ⟨a, G⟩ := xx
    rcases hG with ⟨hok, rfl, ht⟩ | ⟨hok, b, rfl, ht, hei, hg9⟩
    · have HV : Hid (allV t bu (some (a, G)) = .err 1) := Lib.hid (if_neg (by rw [hok]; decide))
      have HT1 := Lib.hid ht
      clear ht hok
      go_wp2_with fail
      go_ret2
      rw [HV.out]
      exact ⟨rfl, HT1.out⟩
    · have hin : t.size ≤ 5000 ∧ 0 ≤ (0 : Int) ∧ (0 : Int) ≤ (t.size : Int) ∧ 0 ≤ bu ∧ bu ≤ 1000000 := of_decide_eq_true hok
      obtain ⟨i1, -, -, i4, i5⟩ := hin
      obtain ⟨B, rfl⟩ := Int.eq_ofNat_of_zero_le i4
      have HFIT := HFIT0.out a G rfl
      have HV : Hid (∀ r, everyR (str t) B (.grp 0 a) 0 0 = r → allV t (B : Int) (some (a, G)) = allRes G r) := Lib.hid (fun r h => by
        show (if askOK t.size 0 (B : Int) = true then allRes G (everyR (str t) (B : Int).toNat (.grp 0 a) 0 0) else .err 1) = _
        rw [if_pos hok, Int.toNat_natCast, h])
      have HFI := Lib.hid (fun (j n : Nat) (wr : World) (hj : j ≤ t.size) (hn : n ≤ B) (ht : Still w1 wr) => rfirst_read t B b a w w1 hei j n (by omega) i1 (by omega) hn wr ht)
      have HFAR := Lib.hid (fun (j n m : Nat) (g : Grp) (x : Nat) (h : fr (str t) B (.grp 0 a) false j n = .yes m g x) => fr_far HFIT _ j n m g x rfl h)
      have HEY := Lib.hid (fun (j n m : Nat) (g : Grp) (x : Nat) (h : fr (str t) B (.grp 0 a) false j n = .yes m g x) => everyR_yes HFIT h)
      have HTW := Lib.hid ht
      have hB : B ≤ 1000000 := by omega
      have HG9 := Lib.hid hg9
      clear ht hok hei hg9 HFIT HFIT0 i4 i5
      obtain ⟨i0, hinfo, hz0, hz1, hz2⟩ := info_parts infoG20
      have HI := Lib.hid hinfo
      have HZ := Lib.hid (And.intro hz0 (And.intro hz1 hz2))
      clear hinfo hz0 hz1 hz2
      go_wp2_with fail
      go_loopw [11, 12, 13] (fun ov nv jv wr => ∃ (j n : Nat) (ox : Option Addr) (oc : Nat) (l : List Grp), ov = .slice ox l.length oc ∧ nv = .int .i64 (n : Int) ∧ jv = .int .i64 (j : Int) ∧ j ≤ t.size + 1 ∧ n ≤ B ∧ l.length ≤ j ∧ Hid (wr.ownsRow w1.heap.size 74 20 (.slice ox l.length oc) l.length (dl l)) ∧ Hid (Still w1 wr) ∧ Hid (everyR (str t) B (.grp 0 a) 0 0 = (everyR (str t) B (.grp 0 a) j n).map (l ++ ·))) (fun _ _ jv _ => t.size + 1 - (intOf jv).toNat)
      case atStart => exact ⟨0, 0, none, 0, [], rfl, rfl, rfl, Nat.zero_le _, Nat.zero_le _, Nat.le_refl _, Lib.hid (World.ownsRow_nil _ _ _ _), Lib.hid (Touch.refl _ _), Lib.hid (by simp)⟩
      case round =>
        obtain ⟨j, n, ox, oc, l, rfl, rfl, rfl, hj, hn, hl, HO, HT, HE⟩ := hrel
        by_cases hlt : j ≤ t.size
        · have q1 : decide ((j : Int) ≤ (t.size : Int)) = true := decide_eq_true (by omega)
          have q1n : decide (j ≤ t.size) = true := decide_eq_true hlt
          have HF := Lib.hid (HFI.out j n wr hlt hn HT.out)
          have HFR := Lib.hid (HFAR.out j n)
          have HEV := Lib.hid (HEY.out j n)
          have HEO : Hid (fr (str t) B (.grp 0 a) false j n = .over → everyR (str t) B (.grp 0 a) j n = none) := Lib.hid everyR_over
          have HEN : Hid (∀ m, fr (str t) B (.grp 0 a) false j n = .no m → everyR (str t) B (.grp 0 a) j n = some []) := Lib.hid (fun m h => everyR_no h)
          go_wp2_with fail
          generalize fr (str t) B (.grp 0 a) false j n = rr at HF HFR HEV HEO HEN
          refine HF.out.mono ?_
          clear HF
          intro e w3 hG
          obtain ⟨bt, hbt⟩ : ∃ bt, wr.heap.size = bt := ⟨_, rfl⟩
          cases rr with
          | over =>
            obtain ⟨rfl, ⟨x, hx⟩, ht⟩ := hG
            have HEQ : Hid (everyR (str t) B (.grp 0 a) 0 0 = none) := Lib.hid (by rw [HE.out, HEO.out rfl]; rfl)
            have HT3 := Lib.hid (HTW.out.then (HT.out.then ht))
            obtain ⟨hx, -⟩ := hx
            rw [hbt] at hx
            clear ht
            go_wp2_with fail
            go_ret2
            rw [HV.out _ HEQ.out]
            exact ⟨rfl, HT3.out⟩
          | no n1 =>
            obtain ⟨rfl, hm, ht⟩ := hG
            have HEQ : Hid (everyR (str t) B (.grp 0 a) 0 0 = some l) := Lib.hid (by rw [HE.out, HEN.out n1 rfl]; simp)
            have HT3 := Lib.hid (HTW.out.then (HT.out.then ht))
            have HP := Lib.hid (owns_drow (owns_keep20 HO.out ht))
            obtain ⟨hx, -⟩ := hm.c1
            rw [hbt] at hx
            clear ht hm
            go_wp2_with fail
            go_ret2
            rw [HV.out _ HEQ.out]
            exact ⟨ox, oc, rfl, HP.out.2, HP.out.1, HG9.out, HT3.out⟩
          | yes n1 g x1 =>
            obtain ⟨rfl, hI, hx23, ⟨i, hi0, hi1, hi2, hi3⟩, ht⟩ := hG
            have HIB : Hid (n1 ≤ B) := Lib.hid hI.nB
            have hc1 := hI.c1.1
            have hrange := hI.range
            have y3 := (hI.y0 (m := 0) (by decide)).1
            rw [hi3] at y3
            have y23 := hx23.1
            have HY := Lib.hid (And.intro y3 y23)
            have HT3 := Lib.hid (HT.out.then ht)
            have HO3 := Lib.hid (owns_keep20 HO.out ht)
            have HNB : Hid (∀ k, (Value.slice ox l.length oc).ownBlock = some k → k ≠ wr.heap.size) := Lib.hid (fun k e e2 => by have := (HO.out.lt k e).2; omega)
            have HG0 := Lib.hid hi3
            have HMA := Lib.hid (HFR.out n1 g x1 rfl)
            have HW3 : Hid (w1.heap.size ≤ w3.heap.size) := Lib.hid HT3.out.size
            have HEQ : Hid (everyR (str t) B (.grp 0 a) 0 0 = (everyR (str t) B (.grp 0 a) (nextJ g) n1).map (l ++ [g] ++ ·)) := Lib.hid (by
              rw [HE.out, HEV.out n1 g x1 rfl, Option.map_map]
              congr 1
              funext z
              simp)
            have HLT : Hid (wr.heap.size < w3.heap.size) := Lib.hid hI.c1.lt
            have HBT := Lib.hid hbt
            rw [hbt] at hc1 hrange y3 y23
            have hrange : w3.rangeAt bt 3 (gl 9 g) := hrange
            clear ht hI hx23 hi3
            have hgl : (gl 9 g).length = 20 := gl9_len g
            have hnews : ∀ k u, (gl 9 g)[k]? = some u → (w3.alloc (.cells (gl 9 g).toArray 74)).cell? ((⟨w3.heap.size, 0, none⟩ : Addr).add k) = some u := fun k u hu => by
              rw [Addr.add_mid, Nat.zero_add]
              exact (Holds.made w3 (gl 9 g).toArray 74 k u (by rw [List.getElem?_toArray]; exact hu)).1
            have HNEWS := Lib.hid hnews
            clear hnews
            go_wp2_with (first | (refine load_groups rfl _ rfl _ _ rfl g hrange ?_) | (at_builtin; rw [fold20]; refine wpList_append_lies _ rfl (.tmp 51) (.tmp 56) 71 rfl w1.heap.size 74 i0 _ 20 160 Tryz.underlying71 HI.out HZ.out.1 HZ.out.2.1 HZ.out.2.2 rfl (by decide) _ _ _ rfl (HO3.out.alloc _) ⟨w3.heap.size, 0, none⟩ 1 1 (gl 9 g) rfl (by rw [gl9_len]) HNEWS.out (gl_one 9 g) (by decide) (by unfold maxLen; omega) (by omega) (by have := HW3.out; simp; omega) _ rfl ?_; intro g' cp' w5 hown hgrow hat hlt'; have HT5 := Lib.hid (grown_still HO3.out HT3.out ((Touch.refl (fun _ => False) w3).alloc _) hgrow); have HO5 := Lib.hid hown; have hne5 : some bt ≠ (Value.slice ox l.length oc).ownBlock := (fun e => HNB.out bt e.symm HBT.out.symm); have hbl : bt < w3.heap.size := (by have h1 := HLT.out; have h2 := HBT.out; omega); have far5 : ∀ k v, w3.cell? ⟨bt, k, none⟩ = some v → w5.cell? ⟨bt, k, none⟩ = some v := (fun k v hv => (hgrow.cell_far ⟨bt, k, none⟩ (by simp; omega) hne5).trans (((Touch.refl (fun _ => False) w3).alloc _).has hv id)); have y3' := far5 _ _ y3; have y23' := far5 _ _ y23; have hY := Lib.hid (And.intro y3' y23'); clear hown hgrow hat hlt' hne5 hbl far5 y3 y23 y3' y23' hrange hc1; obtain ⟨y3, y23⟩ := hY.out))
            obtain ⟨hn1, hn2, hn3⟩ := nextJ_lt HMA.out
            rw [str_len] at hn3
            have HN := Lib.hid (And.intro hn1 (And.intro hn2 hn3))
            clear hn1 hn2 hn3
            by_cases hix : x1 = i
            · have HNX : Hid (nextJ g = x1 + 1) := Lib.hid (by unfold nextJ; rw [HG0.out]; simp [hix])
              have q3 : ((x1 : Int) == (i : Int)) = true := by simp; omega
              have wx := IntWalk.i64_in ((x1 : Int) + 1) (by omega)
              clear hix
              go_quiet (fail)
              generalize hw7 : w5.drewN nq = w7
              have ht7 : Still w5 w7 := by rw [← hw7]; exact still_drewN _ nq
              have HT7 := Lib.hid (HT5.out.then ht7)
              have HO7 := Lib.hid (owns_keep20 HO5.out ht7)
              clear hw7 ht7 y23 y3
              go_wp2_with fail
              go_roundw
              case rel => exact ⟨nextJ g, n1, some ⟨g', 0, none⟩, cp', l ++ [g], by simp, rfl, by rw [HNX.out]; go_num, HN.out.2.2, HIB.out, by rw [List.length_append]; have := HN.out.1; simp; omega, by rw [List.length_append, dl_snoc]; exact HO7, HT7, HEQ⟩
              case measure => have := HN.out; rw [HNX.out] at this; simp [intOf]; omega
            · have HNX : Hid (nextJ g = x1) := Lib.hid (by unfold nextJ; rw [HG0.out]; simp only; rw [if_neg (by omega)]; simp)
              have q3 : ((x1 : Int) == (i : Int)) = false := by simp; omega
              have wx := IntWalk.i64_in ((x1 : Int) + 1) (by omega)
              clear hix
              go_quiet (fail)
              generalize hw7 : w5.drewN nq = w7
              have ht7 : Still w5 w7 := by rw [← hw7]; exact still_drewN _ nq
              have HT7 := Lib.hid (HT5.out.then ht7)
              have HO7 := Lib.hid (owns_keep20 HO5.out ht7)
              clear hw7 ht7 y23 y3
              go_wp2_with fail
              go_roundw
              case rel => exact ⟨nextJ g, n1, some ⟨g', 0, none⟩, cp', l ++ [g], by simp, rfl, by rw [HNX.out], HN.out.2.2, HIB.out, by rw [List.length_append]; have := HN.out.1; simp; omega, by rw [List.length_append, dl_snoc]; exact HO7, HT7, HEQ⟩
              case measure => have := HN.out; rw [HNX.out] at this; simp [intOf]; omega
        · obtain rfl : j = t.size + 1 := by omega
          have q1 : decide (((t.size + 1 : Nat) : Int) ≤ (t.size : Int)) = false := decide_eq_false (by omega)
          have q1n : decide (t.size + 1 ≤ t.size) = false := decide_eq_false (by omega)
          have HEQ : Hid (everyR (str t) B (.grp 0 a) 0 0 = some l) := Lib.hid (by rw [HE.out, everyR_past (by rw [str_len]; omega)]; simp)
          have HP := Lib.hid (owns_drow HO.out)
          go_wp2_with fail
          go_ret2
          rw [HV.out _ HEQ.out]
          exact ⟨ox, oc, rfl, HP.out.2, HP.out.1, HG9.out, HTW.out.then HT.out⟩
end Go.Proofs.YtlgpilcjcomacaaGreat
