/-
  TableOnce, walked.
-/
import Derived.Test.YtombofldebmaoaaOnceA
namespace Go.Proofs.Ytombofldebmaoaa
open Go.RowKit
set_option linter.unusedVariables false

theorem new_sep {w0 w : World} (hs : Still w0 w) (X : Nat → Prop) (hX : ∀ k, X k → k < w.heap.size) : Calls Try.prog 12 #[] w fun e w' => ∃ b, e = .returned (.pointer (some ⟨b, 0, none⟩)) ∧ Sep w0 w' b PT.new X ∧ Still w w' := by
  refine (f12_any w).mono ?_
  rintro e w' ⟨b, F, rfl, h, hF, ht⟩
  have := hs.size
  exact ⟨b, rfl, ⟨F, h, fun k hk => ⟨by have := hF k hk; omega, fun hx => by have := hF k hk; have := hX k hx; omega⟩, hs.then ht⟩, ht⟩

theorem walk_sep {w0 w : World} {b : Nat} {T : PT} {X : Nat → Prop} (h : Sep w0 w b T X) (hX : ∀ k, X k → k < w.heap.size) (hl : T.walks.length < 1099511627776) :
    Calls Try.prog 14 #[.pointer (some ⟨b, 0, none⟩)] w fun e w' => e = .returned (.tuple #[.int .i64 T.walk.2.1, .int .i64 T.walk.2.2]) ∧ Sep w0 w' b T.walk.1 X ∧ Touch (Apart w0 X) w w' := by
  obtain ⟨F, ht, hF, hs⟩ := h
  exact (f14_tab ht hl).mono fun _ _ ⟨he, hm⟩ => ⟨he, sep_moves hF hs hX hm⟩

def OT0 : PT := { rows := [], next := 0, walks := [(-1, false)], strict := false, frozen := false }
theorem ot0 : PT.new.walk = (OT0, (0, 0)) := by rfl

/-- The state between two deeds. -/
structure OnceR (w0 w : World) (b g : Nat) (T : PT) (beh : Int) (told : List Bool) (k : Nat) : Prop where
  sep : Sep w0 w b T (fun i => i = g)
  row : w.heap[g]? = some (.cells (told.map Value.bool).toArray 41 (0, 0))
  new : w0.heap.size ≤ g
  plain : OnceT T beh told k

theorem OnceR.touch {w0 w w' : World} {b g : Nat} {T T' : PT} {beh beh' : Int} {told : List Bool} {k k' : Nat} (h : OnceR w0 w b g T beh told k) (ht : Touch (Apart w0 (fun i => i = g)) w w') (hs : Sep w0 w' b T' (fun i => i = g)) (hp : OnceT T' beh' told k') : OnceR w0 w' b g T' beh' told k' :=
  ⟨hs, ht.keeps h.row (fun hx => hx.2 rfl), h.new, hp⟩

theorem OnceR.lt {w0 w : World} {b g : Nat} {T : PT} {beh : Int} {told : List Bool} {k : Nat} (h : OnceR w0 w b g T beh told k) : ∀ i, i = g → i < w.heap.size := by
  rintro i rfl; exact World.lt_of_heap h.row

theorem told_get {w : World} {g k : Nat} {told : List Bool} {x : Bool} (h : w.heap[g]? = some (.cells (told.map Value.bool).toArray 41 (0, 0))) (hk : told[k]? = some x) : w.cell? ⟨g, k, none⟩ = some (.bool x) ∧ w.frozen? ⟨g, k, none⟩ = false :=
  ⟨blk_c h k _ (by simp [hk]), blk_z h k⟩

theorem told_set {w : World} {g k : Nat} {told : List Bool} (x : Bool) (h : w.heap[g]? = some (.cells (told.map Value.bool).toArray 41 (0, 0))) : (w.setCell ⟨g, k, none⟩ (.bool x)).heap[g]? = some (.cells ((told.set k x).map Value.bool).toArray 41 (0, 0)) := by
  rw [heap_setCell_same h k (.bool x)]
  simp

theorem Sep.setTold {w0 w : World} {b g k : Nat} {T : PT} (h : Sep w0 w b T (fun i => i = g)) (hg : w0.heap.size ≤ g) (u : Value) : Sep w0 (w.setCell ⟨g, k, none⟩ u) b T (fun i => i = g) :=
  h.other (touch_setCell w ⟨g, k, none⟩ u) (fun i hi => ⟨hi, by rw [hi]; exact hg⟩) (fun i hi => .inl hi)

set_option maxRecDepth 100000 in
set_option maxHeartbeats 4000000 in
theorem once_walks (v : Value) (ds : List DD) (w : World) (hd : Deeds w v ds) :
    Calls Try.prog 5 #[v] w fun e w' => e = .returned (.bool true) ∧ Still w w' := by
  obtain ⟨ao, cap, rfl, hlen, hv⟩ := hd.at
  have HV := Lib.hid hv; clear hv hd
  go_enter Try.func5, Try.ntmps5
  go_wp2_with fail
  refine (new_sep (Touch.refl _ w) (fun _ => False) (fun _ h => h.elim)).mono ?_
  rintro e x1 ⟨b, rfl, h, _⟩
  have H := Lib.hid h; clear h
  go_wp2_with fail
  refine (walk_sep H.out (fun _ h => h.elim) (by decide)).mono ?_
  rw [ot0]
  rintro e x2 ⟨rfl, h, _⟩
  have H2 := Lib.hid h; clear h
  go_wp2_with fail
  generalize htg : x2.heap.size = tg at *
  have HB : Hid (OnceR w (x2.alloc (.cells #[.bool false, .bool false, .bool false, .bool false, .bool false, .bool false, .bool false, .bool false, .bool false, .bool false, .bool false, .bool false, .bool false, .bool false, .bool false, .bool false] 41)) b tg OT0 (-1) (List.replicate 16 false) 0) := by
    have hsz := H2.out.touch.size
    refine ⟨?_, ?_, by omega, ⟨by simp [OT0], by simp [OT0], rfl, rfl, rfl, by simp [OT0], by simp [OT0], rfl, by simp [OT0]⟩⟩
    · exact H2.out.other (S := fun _ => False) ((Touch.refl _ _).alloc _) (fun _ h => h.elim) (fun k hk => by right; omega)
    · rw [← htg]
      exact heap_alloc_new _ _
  clear htg
  go_loopw [7] (fun i wr => ∃ (k : Nat) (T : PT) (beh : Int) (told : List Bool), k ≤ 300 ∧ i = .int .i64 k ∧ Hid (OnceR w wr b tg T beh told k)) (fun i _ => 300 - (intOf i).toNat)
  case atStart => exact ⟨0, _, _, _, by omega, rfl, HB.out⟩
  case round =>
    obtain ⟨k, T, beh, told, hk, rfl, HR⟩ := hrel
    clear HB H H2
    by_cases hlt : k < ds.length ∧ k < 300
    · obtain ⟨hlt, hlt3⟩ := hlt
      obtain ⟨x, hx⟩ : ∃ x, ds[k]? = some x := ⟨ds[k], by simp [hlt]⟩
      obtain ⟨g, o, hg, hgl, hcc⟩ := HV.out k x hx
      obtain ⟨c0, c1, c2, c3⟩ := hcc wr HR.out.sep.touch
      clear hcc hx
      obtain ⟨κ, hκ, hκl⟩ := bits_nat x.a 15 (by omega)
      obtain ⟨D, hD, hDl⟩ := bits_nat x.d 3 (by omega)
      have HK : Hid (bits BinOp.and IntKind.i64 x.a 15 = (κ : Int)) := hκ
      have hD : bits BinOp.and IntKind.i64 x.d 3 = (D : Int) := hD
      have HKW : Hid ((Lit.int .i64 (κ : Int)).wf = true) := wf_nat (n := κ) (by omega)
      clear hκ
      have hsz := HR.out.plain.size
      subst hg
      by_cases h0 : D = 0
      · have hd0 : (bits BinOp.and IntKind.i64 x.d 3 == 0) = true := by rw [hD]; simp [h0]
        clear hD
        go_wp2_with fail
        rw [HK.out]
        have H20 := Lib.hid (get_sep HR.out.sep (by have := HR.out.plain.next; omega) HKW.out)
        refine H20.out.mono ?_
        rintro e y1 ⟨rfl, hs1⟩
        have HR1 := Lib.hid (HR.out.touch (hs1.mono (fun _ _ h => h.elim)) (HR.out.sep.still hs1) HR.out.plain)
        have HP := Lib.hid (once_put HR1.out.plain HR1.out.sep.ok (by omega) hκl k)
        clear hs1
        rcases HP.out.2 with ⟨hg3, hp⟩ | ⟨hg3, hp⟩
        · rw [hg3]
          have HP1 := Lib.hid hp; clear hp hg3
          have h13 := put_sep HR1.out.sep HR1.out.lt (by have := HR1.out.plain.next; omega) (by rw [HR1.out.plain.walks]; simp) HKW.out k
          rw [HP.out.1] at h13
          have H13 := Lib.hid h13; clear h13
          go_wp2_with fail
          refine H13.out.mono ?_
          rintro e y2 ⟨rfl, hsep, happ⟩
          have hrow := happ.keeps HR1.out.row (fun hx => hx.2 rfl)
          obtain ⟨x0, z0⟩ := told_get (k := κ) (x := told[κ]'(by omega)) hrow (by simp)
          have HQ : Hid (OnceR w (y2.setCell ⟨tg, κ, none⟩ (.bool false)) b tg (T.put κ k).1 beh (told.set κ false) (k + 1)) :=
            ⟨hsep.setTold HR1.out.new _, told_set false hrow, HR1.out.new, HP1.out⟩
          clear hsep happ hrow
          go_wp2_with fail
          go_roundw
          case rel => exact ⟨k + 1, _, _, _, by omega, by go_num, HQ.out⟩
          case measure => simp [intOf]; omega
        · rw [hg3]
          have HP1 := Lib.hid hp; clear hp hg3
          have h13 := put_sep HR1.out.sep HR1.out.lt (by have := HR1.out.plain.next; omega) (by rw [HR1.out.plain.walks]; simp) HKW.out k
          rw [HP.out.1] at h13
          have H13 := Lib.hid h13; clear h13
          go_wp2_with fail
          refine H13.out.mono ?_
          rintro e y2 ⟨rfl, hsep, happ⟩
          have HQ := Lib.hid (HR1.out.touch happ hsep HP1.out)
          clear hsep happ
          go_wp2_with fail
          go_roundw
          case rel => exact ⟨k + 1, _, _, _, by omega, by go_num, HQ.out⟩
          case measure => simp [intOf]; omega
      · have hd0 : (bits BinOp.and IntKind.i64 x.d 3 == 0) = false := by rw [hD]; simp; omega
        by_cases h1 : D = 1
        · have hd1 : (bits BinOp.and IntKind.i64 x.d 3 == 1) = true := by rw [hD]; simp [h1]
          clear hD
          have H15 := Lib.hid (delete_sep HR.out.sep HR.out.lt (by have := HR.out.plain.next; omega) HKW.out)
          go_wp2_with fail
          rw [HK.out]
          refine H15.out.mono ?_
          rintro e y2 ⟨rfl, hsep, happ⟩
          have HQ := Lib.hid (HR.out.touch happ hsep (once_del HR.out.plain κ))
          clear hsep happ
          go_wp2_with fail
          go_roundw
          case rel => exact ⟨k + 1, _, _, _, by omega, by go_num, HQ.out⟩
          case measure => simp [intOf]; omega
        · have hd1 : (bits BinOp.and IntKind.i64 x.d 3 == 1) = false := by rw [hD]; simp; omega
          clear hD
          have h21 := next_sep HR.out.sep HR.out.lt (by rw [HR.out.plain.walks]; simp) 0
          rcases once_next HR.out.plain HR.out.sep.ok with e | ⟨κ2, v2, m2, hκ2, e, htold, hp⟩
          · rw [e] at h21
            have H21 := Lib.hid h21; clear h21 e
            go_wp2_with fail
            refine H21.out.mono ?_
            rintro e y2 ⟨rfl, hsep, happ⟩
            have h21 := next_sep hsep (fun i hi => Nat.lt_of_lt_of_le (HR.out.lt i hi) happ.size) (by simp) 0
            rw [over_next rfl] at h21
            have H21 := Lib.hid h21; clear h21 hsep happ
            go_wp2_with fail
            refine H21.out.mono ?_
            rintro e y3 ⟨rfl, hsep, happ⟩
            have HST := Lib.hid hsep.touch; clear hsep happ
            go_wp2_with fail
            refine (sane_any _).mono ?_
            rintro e y4 ⟨rfl, hs⟩
            have HS := Lib.hid hs; clear hs
            go_wp2_with fail
            go_ret
            exact ⟨rfl, HST.out.then HS.out⟩
          · rw [e] at h21
            have H21 := Lib.hid h21; clear h21 e
            have HPL := Lib.hid hp; clear hp
            go_wp2_with fail
            refine H21.out.mono ?_
            rintro e y2 ⟨rfl, hsep, happ⟩
            have hrow := happ.keeps HR.out.row (fun hx => hx.2 rfl)
            obtain ⟨x0, z0⟩ := told_get hrow htold
            have HQ : Hid (OnceR w (y2.setCell ⟨tg, κ2, none⟩ (.bool true)) b tg _ m2 (told.set κ2 true) (k + 1)) :=
              ⟨hsep.setTold HR.out.new _, told_set true hrow, HR.out.new, HPL.out⟩
            clear hsep happ hrow
            go_wp2_with fail
            go_roundw
            case rel => exact ⟨k + 1, _, _, _, by omega, by go_num, HQ.out⟩
            case measure => simp [intOf]; omega
    · have HTT := Lib.hid HR.out.sep.touch
      have h3 : ¬ k < ds.length ∨ (k < ds.length ∧ ¬ k < 300) := by omega
      clear hlt
      rcases h3 with hl3 | ⟨hl3, hl4⟩
      all_goals
        go_wp2_with fail
        refine (sane_any _).mono ?_
        rintro e w4 ⟨rfl, hs⟩
        have HS4 := Lib.hid hs; clear hs
        go_wp2_with fail
        go_ret
        exact ⟨rfl, HTT.out.then HS4.out⟩

end Go.Proofs.Ytombofldebmaoaa
