/-
  The document: One.
-/
import Derived.Test.YtaanihidheccfaaDoorRefD
namespace Go.Proofs.YtaanihidheccfaaDoor
open Go.Shelf Go.RowKit
set_option linter.unusedVariables false

def oneGo (s : ByteArray) (least : Nat) : Nat → Nat → Nat → Nat × Int
  | 0, n, b => (n, (b : Int))
  | r + 1, n, b => if n < s.size ∧ Cont (byteN s n) ∧ Beg (b * 64 + byteN s n - 128) (64 ^ r) least then oneGo s least r (n + 1) (b * 64 + byteN s n - 128) else (n, -1)
theorem oneGo_zero (s : ByteArray) (least n b : Nat) : oneGo s least 0 n b = (n, (b : Int)) := rfl
theorem oneGo_yes {s : ByteArray} {least r n b : Nat} (h1 : n < s.size) (h2 : Cont (byteN s n)) (h3 : Beg (b * 64 + byteN s n - 128) (64 ^ r) least) : oneGo s least (r + 1) n b = oneGo s least r (n + 1) (b * 64 + byteN s n - 128) := if_pos ⟨h1, h2, h3⟩
theorem oneGo_no {s : ByteArray} {least r n b : Nat} (h : ¬ (n < s.size ∧ Cont (byteN s n) ∧ Beg (b * 64 + byteN s n - 128) (64 ^ r) least)) : oneGo s least (r + 1) n b = (n, -1) := if_neg h

/-- One of the document, at a string. -/
def oneS (s : ByteArray) : Nat × Int := oneN s.size (byteN s 0) (byteN s 1) (byteN s 2) (byteN s 3)
theorem oneS_ascii (s : ByteArray) (h : byteN s 0 < 128) : oneS s = (1, (byteN s 0 : Int)) := by unfold oneS oneN; rw [if_pos h]
theorem oneS_none (s : ByteArray) (h0 : ¬ byteN s 0 < 128) (h : byteN s 0 < 192 ∨ 248 ≤ byteN s 0) : oneS s = (1, -1) := by
  unfold oneS oneN
  rw [if_neg h0]
  by_cases h1 : byteN s 0 < 192
  · rw [if_pos h1]
  · rw [if_neg h1, if_neg (by omega), if_neg (by omega), if_neg (by omega)]
theorem ite_not_swap {α : Type} {p : Prop} [Decidable p] (a b : α) : (if ¬ p then a else b) = if p then b else a := by
  by_cases h : p <;> simp [h]
theorem oneS_2 (s : ByteArray) (h0 : 192 ≤ byteN s 0) (h1 : byteN s 0 < 224) : oneS s = if Beg (byteN s 0 - 192) 64 128 then oneGo s 128 1 1 (byteN s 0 - 192) else (1, -1) := by
  unfold oneS oneN
  rw [if_neg (by omega : ¬ byteN s 0 < 128), if_neg (by omega : ¬ byteN s 0 < 192), if_pos h1]
  simp only [ite_not_swap, oneGo, Nat.reduceAdd, Nat.reducePow]
theorem oneS_3 (s : ByteArray) (h0 : 224 ≤ byteN s 0) (h1 : byteN s 0 < 240) : oneS s = if Beg (byteN s 0 - 224) 4096 2048 then oneGo s 2048 2 1 (byteN s 0 - 224) else (1, -1) := by
  unfold oneS oneN
  rw [if_neg (by omega : ¬ byteN s 0 < 128), if_neg (by omega : ¬ byteN s 0 < 192), if_neg (by omega : ¬ byteN s 0 < 224), if_pos h1]
  simp only [ite_not_swap, oneGo, Nat.reduceAdd, Nat.reducePow]
theorem oneS_4 (s : ByteArray) (h0 : 240 ≤ byteN s 0) (h1 : byteN s 0 < 248) : oneS s = if Beg (byteN s 0 - 240) 262144 65536 then oneGo s 65536 3 1 (byteN s 0 - 240) else (1, -1) := by
  unfold oneS oneN
  rw [if_neg (by omega : ¬ byteN s 0 < 128), if_neg (by omega : ¬ byteN s 0 < 192), if_neg (by omega : ¬ byteN s 0 < 224), if_neg (by omega : ¬ byteN s 0 < 240), if_pos h1]
  simp only [ite_not_swap, oneGo, Nat.reduceAdd, Nat.reducePow]

def oneV (p : Nat × Int) : Value := .tuple #[.int .i64 (p.1 : Nat), .int .i64 p.2]

set_option maxRecDepth 100000 in
theorem f81_ascii (s : ByteArray) (hs : 0 < s.size) (hm : s.size ≤ 140737488355328) (h : byteN s 0 < 128) (w : World) : Calls Tryd.prog 81 #[.string s] w fun en w' => en = .returned (oneV (oneS s)) ∧ Below w.heap.size w w' := by
  rw [oneS_ascii s h]
  rw [byteN_eq s 0 hs] at h ⊢
  have hw := wrap_byte (s[0]'hs)
  go_enter Tryd.func81, Tryd.ntmps81
  go_wp2_with fail
  go_ret2
  exact ⟨rfl, Below.refl _ _⟩

set_option maxRecDepth 100000 in
theorem f81_none (s : ByteArray) (hs : 0 < s.size) (hm : s.size ≤ 140737488355328) (h0 : ¬ byteN s 0 < 128) (h : byteN s 0 < 192 ∨ 248 ≤ byteN s 0) (w : World) : Calls Tryd.prog 81 #[.string s] w fun en w' => en = .returned (oneV (oneS s)) ∧ Below w.heap.size w w' := by
  rw [oneS_none s h0 h]
  rw [byteN_eq s 0 hs] at h0 h
  have hw := wrap_byte (s[0]'hs)
  have h0' : 128 ≤ (s[0]'hs).toNat := by omega
  clear h0
  rcases h with h | h
  all_goals
    go_enter Tryd.func81, Tryd.ntmps81
    go_wp2_with fail
    go_ret2
    exact ⟨rfl, Below.refl _ _⟩

set_option maxRecDepth 100000 in
set_option maxHeartbeats 1000000 in
theorem f81_2 (s : ByteArray) (hs : 0 < s.size) (hm : s.size ≤ 140737488355328) (h0 : 192 ≤ byteN s 0) (h1 : byteN s 0 < 224) (w : World) : Calls Tryd.prog 81 #[.string s] w fun en w' => en = .returned (oneV (oneS s)) ∧ Below w.heap.size w w' := by
  rw [oneS_2 s h0 h1]
  rw [byteN_eq s 0 hs] at h0 h1 ⊢
  have hw := wrap_byte (s[0]'hs)
  obtain ⟨b, hb⟩ : ∃ b, (s[0]'hs).toNat = b + 192 := ⟨(s[0]'hs).toNat - 192, by omega⟩
  have hbm : b ≤ 31 := by omega
  rw [show (s[0]'hs).toNat - 192 = b by omega]
  have hq : (((s[0]'hs).toNat : Nat) : Int) - 192 = (b : Int) := by omega
  have H91 := Lib.hid (f91_12 b (by omega) w)
  have hc1 : 192 ≤ (s[0]'hs).toNat := h0
  clear hb
  by_cases hg : Beg b 64 128
  · rw [if_pos hg]
    rw [decide_eq_true hg] at H91
    generalize hR : oneGo s 128 1 1 b = R
    have HR := Lib.hid hR; clear hR hg
    go_enter Tryd.func81, Tryd.ntmps81
    go_wp2_with (go_at_call 91; refine H91.out.mono ?_; rintro en w2 ⟨rfl, hB⟩; have HB := Lib.hid hB; clear hB)
    go_loopw [6, 7] (fun bb nn wr => ∃ b n r : Nat, bb = .int .i64 b ∧ nn = .int .i64 n ∧ Hid (oneGo s 128 r n b = R) ∧ Hid ((1 = r ∧ 1 = n ∧ b ≤ 31) ∨ (0 = r ∧ 2 = n ∧ b ≤ 2047)) ∧ Hid (Below w.heap.size w wr)) (fun _ nn _ => 2 - (intOf nn).toNat)
    case atStart => exact ⟨b, 1, 1, rfl, rfl, HR, Lib.hid (by omega), HB⟩
    case round =>
      obtain ⟨b, n, r, rfl, rfl, HG, HJ, HB2⟩ := hrel
      have HZ := HB2.out.size
      have HJ0 := HJ.out
      clear HJ
      rcases HJ0 with ⟨rfl, rfl, hbb⟩ | ⟨rfl, rfl, hbb⟩
      · by_cases hl : 1 < s.size
        · have HX := Lib.hid (byteN_eq s 1 hl)
          have hwx := wrap_byte (s[1]'hl)
          have hxl := (s[1]'hl).toNat_lt
          by_cases hx1 : 128 ≤ (s[1]'hl).toNat
          · by_cases hx2 : (s[1]'hl).toNat < 192
            · have hnb : b * 64 + (s[1]'hl).toNat - 128 ≤ 2047 := by omega
              have H91b := Lib.hid (f91_22 (b * 64 + (s[1]'hl).toNat - 128) (by omega) wr)
              have HQ : Hid (((b * 64 + (s[1]'hl).toNat - 128 : Nat) : Int) = (b : Int) * (64 : Int) + ((s[1]'hl).toNat : Int) - (128 : Int)) := Lib.hid (by omega)
              rw [HQ.out] at H91b
              by_cases hg : Beg (b * 64 + (s[1]'hl).toNat - 128) 1 128
              · rw [decide_eq_true hg] at H91b
                have HN : Hid (oneGo s 128 0 2 (b * 64 + (s[1]'hl).toNat - 128) = R) := Lib.hid (by
                  rw [← HG.out, ← HX.out]
                  exact (oneGo_yes hl (by rw [HX.out]; exact ⟨hx1, hx2⟩) (by rw [HX.out]; exact hg)).symm)
                clear HG hg
                go_wp2_with (go_at_call 91; refine H91b.out.mono ?_; rintro en w2 ⟨rfl, hB⟩; have HB5 := Lib.hid hB; clear hB)
                go_roundw
                case rel => exact ⟨b * 64 + (s[1]'hl).toNat - 128, 2, 0, by rw [HQ.out], by go_num, HN, Lib.hid (by omega), Lib.hid (HB2.out.trans (HB5.out.mono HZ))⟩
                case measure => simp [intOf]
              · rw [decide_eq_false hg] at H91b
                have HE : Hid (R = (1, -1)) := Lib.hid (by rw [← HG.out]; exact oneGo_no (by rw [HX.out]; exact fun h => hg h.2.2))
                clear HG hg
                go_wp2_with (go_at_call 91; refine H91b.out.mono ?_; rintro en w2 ⟨rfl, hB⟩; have HB5 := Lib.hid hB; clear hB)
                go_ret2
                rw [HE.out]
                exact ⟨rfl, HB2.out.trans (HB5.out.mono HZ)⟩
            · have HE : Hid (R = (1, -1)) := Lib.hid (by rw [← HG.out]; exact oneGo_no (by rw [HX.out]; exact fun h => hx2 h.2.1.2))
              have hx2' : 192 ≤ (s[1]'hl).toNat := by omega
              clear HG hx2
              go_wp2_with fail
              go_ret2
              rw [HE.out]
              exact ⟨rfl, HB2.out⟩
          · have HE : Hid (R = (1, -1)) := Lib.hid (by rw [← HG.out]; exact oneGo_no (by rw [HX.out]; exact fun h => hx1 h.2.1.1))
            have hx1' : (s[1]'hl).toNat < 128 := by omega
            clear HG hx1
            go_wp2_with fail
            go_ret2
            rw [HE.out]
            exact ⟨rfl, HB2.out⟩
        · have HE : Hid (R = (1, -1)) := Lib.hid (by rw [← HG.out]; exact oneGo_no (fun h => hl h.1))
          have hl' : s.size ≤ 1 := by omega
          clear HG hl
          go_wp2_with fail
          go_ret2
          rw [HE.out]
          exact ⟨rfl, HB2.out⟩
      · have HE : Hid (R = (2, (b : Int))) := Lib.hid HG.out.symm
        clear HG
        go_wp2_with fail
        go_ret2
        rw [HE.out]
        exact ⟨rfl, HB2.out⟩
  · rw [if_neg hg]
    rw [decide_eq_false hg] at H91
    clear hg
    go_enter Tryd.func81, Tryd.ntmps81
    go_wp2_with (go_at_call 91; refine H91.out.mono ?_; rintro en w2 ⟨rfl, hB⟩; have HB := Lib.hid hB; clear hB)
    go_ret2
    exact ⟨rfl, HB.out⟩

set_option maxRecDepth 100000 in
set_option maxHeartbeats 1000000 in
theorem f81_3 (s : ByteArray) (hs : 0 < s.size) (hm : s.size ≤ 140737488355328) (h0 : 224 ≤ byteN s 0) (h1 : byteN s 0 < 240) (w : World) : Calls Tryd.prog 81 #[.string s] w fun en w' => en = .returned (oneV (oneS s)) ∧ Below w.heap.size w w' := by
  rw [oneS_3 s h0 h1]
  rw [byteN_eq s 0 hs] at h0 h1 ⊢
  have hw := wrap_byte (s[0]'hs)
  obtain ⟨b, hb⟩ : ∃ b, (s[0]'hs).toNat = b + 224 := ⟨(s[0]'hs).toNat - 224, by omega⟩
  have hbm : b ≤ 15 := by omega
  rw [show (s[0]'hs).toNat - 224 = b by omega]
  have hq : (((s[0]'hs).toNat : Nat) : Int) - 224 = (b : Int) := by omega
  have H91 := Lib.hid (f91_13 b (by omega) w)
  have hc1 : 224 ≤ (s[0]'hs).toNat := h0
  clear hb
  by_cases hg : Beg b 4096 2048
  · rw [if_pos hg]
    rw [decide_eq_true hg] at H91
    generalize hR : oneGo s 2048 2 1 b = R
    have HR := Lib.hid hR; clear hR hg
    go_enter Tryd.func81, Tryd.ntmps81
    go_wp2_with (go_at_call 91; refine H91.out.mono ?_; rintro en w2 ⟨rfl, hB⟩; have HB := Lib.hid hB; clear hB)
    go_loopw [6, 7] (fun bb nn wr => ∃ b n r : Nat, bb = .int .i64 b ∧ nn = .int .i64 n ∧ Hid (oneGo s 2048 r n b = R) ∧ Hid ((2 = r ∧ 1 = n ∧ b ≤ 15) ∨ (1 = r ∧ 2 = n ∧ b ≤ 1023) ∨ (0 = r ∧ 3 = n ∧ b ≤ 65535)) ∧ Hid (Below w.heap.size w wr)) (fun _ nn _ => 3 - (intOf nn).toNat)
    case atStart => exact ⟨b, 1, 2, rfl, rfl, HR, Lib.hid (by omega), HB⟩
    case round =>
      obtain ⟨b, n, r, rfl, rfl, HG, HJ, HB2⟩ := hrel
      have HZ := HB2.out.size
      have HJ0 := HJ.out
      clear HJ
      rcases HJ0 with ⟨rfl, rfl, hbb⟩ | ⟨rfl, rfl, hbb⟩ | ⟨rfl, rfl, hbb⟩
      · by_cases hl : 1 < s.size
        · have HX := Lib.hid (byteN_eq s 1 hl)
          have hwx := wrap_byte (s[1]'hl)
          have hxl := (s[1]'hl).toNat_lt
          by_cases hx1 : 128 ≤ (s[1]'hl).toNat
          · by_cases hx2 : (s[1]'hl).toNat < 192
            · have hnb : b * 64 + (s[1]'hl).toNat - 128 ≤ 1023 := by omega
              have H91b := Lib.hid (f91_23 (b * 64 + (s[1]'hl).toNat - 128) (by omega) wr)
              have HQ : Hid (((b * 64 + (s[1]'hl).toNat - 128 : Nat) : Int) = (b : Int) * (64 : Int) + ((s[1]'hl).toNat : Int) - (128 : Int)) := Lib.hid (by omega)
              rw [HQ.out] at H91b
              by_cases hg : Beg (b * 64 + (s[1]'hl).toNat - 128) 64 2048
              · rw [decide_eq_true hg] at H91b
                have HN : Hid (oneGo s 2048 1 2 (b * 64 + (s[1]'hl).toNat - 128) = R) := Lib.hid (by
                  rw [← HG.out, ← HX.out]
                  exact (oneGo_yes hl (by rw [HX.out]; exact ⟨hx1, hx2⟩) (by rw [HX.out]; exact hg)).symm)
                clear HG hg
                go_wp2_with (go_at_call 91; refine H91b.out.mono ?_; rintro en w2 ⟨rfl, hB⟩; have HB5 := Lib.hid hB; clear hB)
                go_roundw
                case rel => exact ⟨b * 64 + (s[1]'hl).toNat - 128, 2, 1, by rw [HQ.out], by go_num, HN, Lib.hid (by omega), Lib.hid (HB2.out.trans (HB5.out.mono HZ))⟩
                case measure => simp [intOf]
              · rw [decide_eq_false hg] at H91b
                have HE : Hid (R = (1, -1)) := Lib.hid (by rw [← HG.out]; exact oneGo_no (by rw [HX.out]; exact fun h => hg h.2.2))
                clear HG hg
                go_wp2_with (go_at_call 91; refine H91b.out.mono ?_; rintro en w2 ⟨rfl, hB⟩; have HB5 := Lib.hid hB; clear hB)
                go_ret2
                rw [HE.out]
                exact ⟨rfl, HB2.out.trans (HB5.out.mono HZ)⟩
            · have HE : Hid (R = (1, -1)) := Lib.hid (by rw [← HG.out]; exact oneGo_no (by rw [HX.out]; exact fun h => hx2 h.2.1.2))
              have hx2' : 192 ≤ (s[1]'hl).toNat := by omega
              clear HG hx2
              go_wp2_with fail
              go_ret2
              rw [HE.out]
              exact ⟨rfl, HB2.out⟩
          · have HE : Hid (R = (1, -1)) := Lib.hid (by rw [← HG.out]; exact oneGo_no (by rw [HX.out]; exact fun h => hx1 h.2.1.1))
            have hx1' : (s[1]'hl).toNat < 128 := by omega
            clear HG hx1
            go_wp2_with fail
            go_ret2
            rw [HE.out]
            exact ⟨rfl, HB2.out⟩
        · have HE : Hid (R = (1, -1)) := Lib.hid (by rw [← HG.out]; exact oneGo_no (fun h => hl h.1))
          have hl' : s.size ≤ 1 := by omega
          clear HG hl
          go_wp2_with fail
          go_ret2
          rw [HE.out]
          exact ⟨rfl, HB2.out⟩
      · by_cases hl : 2 < s.size
        · have HX := Lib.hid (byteN_eq s 2 hl)
          have hwx := wrap_byte (s[2]'hl)
          have hxl := (s[2]'hl).toNat_lt
          by_cases hx1 : 128 ≤ (s[2]'hl).toNat
          · by_cases hx2 : (s[2]'hl).toNat < 192
            · have hnb : b * 64 + (s[2]'hl).toNat - 128 ≤ 65535 := by omega
              have H91b := Lib.hid (f91_33 (b * 64 + (s[2]'hl).toNat - 128) (by omega) wr)
              have HQ : Hid (((b * 64 + (s[2]'hl).toNat - 128 : Nat) : Int) = (b : Int) * (64 : Int) + ((s[2]'hl).toNat : Int) - (128 : Int)) := Lib.hid (by omega)
              rw [HQ.out] at H91b
              by_cases hg : Beg (b * 64 + (s[2]'hl).toNat - 128) 1 2048
              · rw [decide_eq_true hg] at H91b
                have HN : Hid (oneGo s 2048 0 3 (b * 64 + (s[2]'hl).toNat - 128) = R) := Lib.hid (by
                  rw [← HG.out, ← HX.out]
                  exact (oneGo_yes hl (by rw [HX.out]; exact ⟨hx1, hx2⟩) (by rw [HX.out]; exact hg)).symm)
                clear HG hg
                go_wp2_with (go_at_call 91; refine H91b.out.mono ?_; rintro en w2 ⟨rfl, hB⟩; have HB5 := Lib.hid hB; clear hB)
                go_roundw
                case rel => exact ⟨b * 64 + (s[2]'hl).toNat - 128, 3, 0, by rw [HQ.out], by go_num, HN, Lib.hid (by omega), Lib.hid (HB2.out.trans (HB5.out.mono HZ))⟩
                case measure => simp [intOf]
              · rw [decide_eq_false hg] at H91b
                have HE : Hid (R = (2, -1)) := Lib.hid (by rw [← HG.out]; exact oneGo_no (by rw [HX.out]; exact fun h => hg h.2.2))
                clear HG hg
                go_wp2_with (go_at_call 91; refine H91b.out.mono ?_; rintro en w2 ⟨rfl, hB⟩; have HB5 := Lib.hid hB; clear hB)
                go_ret2
                rw [HE.out]
                exact ⟨rfl, HB2.out.trans (HB5.out.mono HZ)⟩
            · have HE : Hid (R = (2, -1)) := Lib.hid (by rw [← HG.out]; exact oneGo_no (by rw [HX.out]; exact fun h => hx2 h.2.1.2))
              have hx2' : 192 ≤ (s[2]'hl).toNat := by omega
              clear HG hx2
              go_wp2_with fail
              go_ret2
              rw [HE.out]
              exact ⟨rfl, HB2.out⟩
          · have HE : Hid (R = (2, -1)) := Lib.hid (by rw [← HG.out]; exact oneGo_no (by rw [HX.out]; exact fun h => hx1 h.2.1.1))
            have hx1' : (s[2]'hl).toNat < 128 := by omega
            clear HG hx1
            go_wp2_with fail
            go_ret2
            rw [HE.out]
            exact ⟨rfl, HB2.out⟩
        · have HE : Hid (R = (2, -1)) := Lib.hid (by rw [← HG.out]; exact oneGo_no (fun h => hl h.1))
          have hl' : s.size ≤ 2 := by omega
          clear HG hl
          go_wp2_with fail
          go_ret2
          rw [HE.out]
          exact ⟨rfl, HB2.out⟩
      · have HE : Hid (R = (3, (b : Int))) := Lib.hid HG.out.symm
        clear HG
        go_wp2_with fail
        go_ret2
        rw [HE.out]
        exact ⟨rfl, HB2.out⟩
  · rw [if_neg hg]
    rw [decide_eq_false hg] at H91
    clear hg
    go_enter Tryd.func81, Tryd.ntmps81
    go_wp2_with (go_at_call 91; refine H91.out.mono ?_; rintro en w2 ⟨rfl, hB⟩; have HB := Lib.hid hB; clear hB)
    go_ret2
    exact ⟨rfl, HB.out⟩

set_option maxRecDepth 100000 in
set_option maxHeartbeats 1000000 in
theorem f81_4 (s : ByteArray) (hs : 0 < s.size) (hm : s.size ≤ 140737488355328) (h0 : 240 ≤ byteN s 0) (h1 : byteN s 0 < 248) (w : World) : Calls Tryd.prog 81 #[.string s] w fun en w' => en = .returned (oneV (oneS s)) ∧ Below w.heap.size w w' := by
  rw [oneS_4 s h0 h1]
  rw [byteN_eq s 0 hs] at h0 h1 ⊢
  have hw := wrap_byte (s[0]'hs)
  obtain ⟨b, hb⟩ : ∃ b, (s[0]'hs).toNat = b + 240 := ⟨(s[0]'hs).toNat - 240, by omega⟩
  have hbm : b ≤ 7 := by omega
  rw [show (s[0]'hs).toNat - 240 = b by omega]
  have hq : (((s[0]'hs).toNat : Nat) : Int) - 240 = (b : Int) := by omega
  have H91 := Lib.hid (f91_14 b (by omega) w)
  have hc1 : 240 ≤ (s[0]'hs).toNat := h0
  clear hb
  by_cases hg : Beg b 262144 65536
  · rw [if_pos hg]
    rw [decide_eq_true hg] at H91
    generalize hR : oneGo s 65536 3 1 b = R
    have HR := Lib.hid hR; clear hR hg
    go_enter Tryd.func81, Tryd.ntmps81
    go_wp2_with (go_at_call 91; refine H91.out.mono ?_; rintro en w2 ⟨rfl, hB⟩; have HB := Lib.hid hB; clear hB)
    go_loopw [6, 7] (fun bb nn wr => ∃ b n r : Nat, bb = .int .i64 b ∧ nn = .int .i64 n ∧ Hid (oneGo s 65536 r n b = R) ∧ Hid ((3 = r ∧ 1 = n ∧ b ≤ 7) ∨ (2 = r ∧ 2 = n ∧ b ≤ 511) ∨ (1 = r ∧ 3 = n ∧ b ≤ 32767) ∨ (0 = r ∧ 4 = n ∧ b ≤ 2097151)) ∧ Hid (Below w.heap.size w wr)) (fun _ nn _ => 4 - (intOf nn).toNat)
    case atStart => exact ⟨b, 1, 3, rfl, rfl, HR, Lib.hid (by omega), HB⟩
    case round =>
      obtain ⟨b, n, r, rfl, rfl, HG, HJ, HB2⟩ := hrel
      have HZ := HB2.out.size
      have HJ0 := HJ.out
      clear HJ
      rcases HJ0 with ⟨rfl, rfl, hbb⟩ | ⟨rfl, rfl, hbb⟩ | ⟨rfl, rfl, hbb⟩ | ⟨rfl, rfl, hbb⟩
      · by_cases hl : 1 < s.size
        · have HX := Lib.hid (byteN_eq s 1 hl)
          have hwx := wrap_byte (s[1]'hl)
          have hxl := (s[1]'hl).toNat_lt
          by_cases hx1 : 128 ≤ (s[1]'hl).toNat
          · by_cases hx2 : (s[1]'hl).toNat < 192
            · have hnb : b * 64 + (s[1]'hl).toNat - 128 ≤ 511 := by omega
              have H91b := Lib.hid (f91_24 (b * 64 + (s[1]'hl).toNat - 128) (by omega) wr)
              have HQ : Hid (((b * 64 + (s[1]'hl).toNat - 128 : Nat) : Int) = (b : Int) * (64 : Int) + ((s[1]'hl).toNat : Int) - (128 : Int)) := Lib.hid (by omega)
              rw [HQ.out] at H91b
              by_cases hg : Beg (b * 64 + (s[1]'hl).toNat - 128) 4096 65536
              · rw [decide_eq_true hg] at H91b
                have HN : Hid (oneGo s 65536 2 2 (b * 64 + (s[1]'hl).toNat - 128) = R) := Lib.hid (by
                  rw [← HG.out, ← HX.out]
                  exact (oneGo_yes hl (by rw [HX.out]; exact ⟨hx1, hx2⟩) (by rw [HX.out]; exact hg)).symm)
                clear HG hg
                go_wp2_with (go_at_call 91; refine H91b.out.mono ?_; rintro en w2 ⟨rfl, hB⟩; have HB5 := Lib.hid hB; clear hB)
                go_roundw
                case rel => exact ⟨b * 64 + (s[1]'hl).toNat - 128, 2, 2, by rw [HQ.out], by go_num, HN, Lib.hid (by omega), Lib.hid (HB2.out.trans (HB5.out.mono HZ))⟩
                case measure => simp [intOf]
              · rw [decide_eq_false hg] at H91b
                have HE : Hid (R = (1, -1)) := Lib.hid (by rw [← HG.out]; exact oneGo_no (by rw [HX.out]; exact fun h => hg h.2.2))
                clear HG hg
                go_wp2_with (go_at_call 91; refine H91b.out.mono ?_; rintro en w2 ⟨rfl, hB⟩; have HB5 := Lib.hid hB; clear hB)
                go_ret2
                rw [HE.out]
                exact ⟨rfl, HB2.out.trans (HB5.out.mono HZ)⟩
            · have HE : Hid (R = (1, -1)) := Lib.hid (by rw [← HG.out]; exact oneGo_no (by rw [HX.out]; exact fun h => hx2 h.2.1.2))
              have hx2' : 192 ≤ (s[1]'hl).toNat := by omega
              clear HG hx2
              go_wp2_with fail
              go_ret2
              rw [HE.out]
              exact ⟨rfl, HB2.out⟩
          · have HE : Hid (R = (1, -1)) := Lib.hid (by rw [← HG.out]; exact oneGo_no (by rw [HX.out]; exact fun h => hx1 h.2.1.1))
            have hx1' : (s[1]'hl).toNat < 128 := by omega
            clear HG hx1
            go_wp2_with fail
            go_ret2
            rw [HE.out]
            exact ⟨rfl, HB2.out⟩
        · have HE : Hid (R = (1, -1)) := Lib.hid (by rw [← HG.out]; exact oneGo_no (fun h => hl h.1))
          have hl' : s.size ≤ 1 := by omega
          clear HG hl
          go_wp2_with fail
          go_ret2
          rw [HE.out]
          exact ⟨rfl, HB2.out⟩
      · by_cases hl : 2 < s.size
        · have HX := Lib.hid (byteN_eq s 2 hl)
          have hwx := wrap_byte (s[2]'hl)
          have hxl := (s[2]'hl).toNat_lt
          by_cases hx1 : 128 ≤ (s[2]'hl).toNat
          · by_cases hx2 : (s[2]'hl).toNat < 192
            · have hnb : b * 64 + (s[2]'hl).toNat - 128 ≤ 32767 := by omega
              have H91b := Lib.hid (f91_34 (b * 64 + (s[2]'hl).toNat - 128) (by omega) wr)
              have HQ : Hid (((b * 64 + (s[2]'hl).toNat - 128 : Nat) : Int) = (b : Int) * (64 : Int) + ((s[2]'hl).toNat : Int) - (128 : Int)) := Lib.hid (by omega)
              rw [HQ.out] at H91b
              by_cases hg : Beg (b * 64 + (s[2]'hl).toNat - 128) 64 65536
              · rw [decide_eq_true hg] at H91b
                have HN : Hid (oneGo s 65536 1 3 (b * 64 + (s[2]'hl).toNat - 128) = R) := Lib.hid (by
                  rw [← HG.out, ← HX.out]
                  exact (oneGo_yes hl (by rw [HX.out]; exact ⟨hx1, hx2⟩) (by rw [HX.out]; exact hg)).symm)
                clear HG hg
                go_wp2_with (go_at_call 91; refine H91b.out.mono ?_; rintro en w2 ⟨rfl, hB⟩; have HB5 := Lib.hid hB; clear hB)
                go_roundw
                case rel => exact ⟨b * 64 + (s[2]'hl).toNat - 128, 3, 1, by rw [HQ.out], by go_num, HN, Lib.hid (by omega), Lib.hid (HB2.out.trans (HB5.out.mono HZ))⟩
                case measure => simp [intOf]
              · rw [decide_eq_false hg] at H91b
                have HE : Hid (R = (2, -1)) := Lib.hid (by rw [← HG.out]; exact oneGo_no (by rw [HX.out]; exact fun h => hg h.2.2))
                clear HG hg
                go_wp2_with (go_at_call 91; refine H91b.out.mono ?_; rintro en w2 ⟨rfl, hB⟩; have HB5 := Lib.hid hB; clear hB)
                go_ret2
                rw [HE.out]
                exact ⟨rfl, HB2.out.trans (HB5.out.mono HZ)⟩
            · have HE : Hid (R = (2, -1)) := Lib.hid (by rw [← HG.out]; exact oneGo_no (by rw [HX.out]; exact fun h => hx2 h.2.1.2))
              have hx2' : 192 ≤ (s[2]'hl).toNat := by omega
              clear HG hx2
              go_wp2_with fail
              go_ret2
              rw [HE.out]
              exact ⟨rfl, HB2.out⟩
          · have HE : Hid (R = (2, -1)) := Lib.hid (by rw [← HG.out]; exact oneGo_no (by rw [HX.out]; exact fun h => hx1 h.2.1.1))
            have hx1' : (s[2]'hl).toNat < 128 := by omega
            clear HG hx1
            go_wp2_with fail
            go_ret2
            rw [HE.out]
            exact ⟨rfl, HB2.out⟩
        · have HE : Hid (R = (2, -1)) := Lib.hid (by rw [← HG.out]; exact oneGo_no (fun h => hl h.1))
          have hl' : s.size ≤ 2 := by omega
          clear HG hl
          go_wp2_with fail
          go_ret2
          rw [HE.out]
          exact ⟨rfl, HB2.out⟩
      · by_cases hl : 3 < s.size
        · have HX := Lib.hid (byteN_eq s 3 hl)
          have hwx := wrap_byte (s[3]'hl)
          have hxl := (s[3]'hl).toNat_lt
          by_cases hx1 : 128 ≤ (s[3]'hl).toNat
          · by_cases hx2 : (s[3]'hl).toNat < 192
            · have hnb : b * 64 + (s[3]'hl).toNat - 128 ≤ 2097151 := by omega
              have H91b := Lib.hid (f91_44 (b * 64 + (s[3]'hl).toNat - 128) (by omega) wr)
              have HQ : Hid (((b * 64 + (s[3]'hl).toNat - 128 : Nat) : Int) = (b : Int) * (64 : Int) + ((s[3]'hl).toNat : Int) - (128 : Int)) := Lib.hid (by omega)
              rw [HQ.out] at H91b
              by_cases hg : Beg (b * 64 + (s[3]'hl).toNat - 128) 1 65536
              · rw [decide_eq_true hg] at H91b
                have HN : Hid (oneGo s 65536 0 4 (b * 64 + (s[3]'hl).toNat - 128) = R) := Lib.hid (by
                  rw [← HG.out, ← HX.out]
                  exact (oneGo_yes hl (by rw [HX.out]; exact ⟨hx1, hx2⟩) (by rw [HX.out]; exact hg)).symm)
                clear HG hg
                go_wp2_with (go_at_call 91; refine H91b.out.mono ?_; rintro en w2 ⟨rfl, hB⟩; have HB5 := Lib.hid hB; clear hB)
                go_roundw
                case rel => exact ⟨b * 64 + (s[3]'hl).toNat - 128, 4, 0, by rw [HQ.out], by go_num, HN, Lib.hid (by omega), Lib.hid (HB2.out.trans (HB5.out.mono HZ))⟩
                case measure => simp [intOf]
              · rw [decide_eq_false hg] at H91b
                have HE : Hid (R = (3, -1)) := Lib.hid (by rw [← HG.out]; exact oneGo_no (by rw [HX.out]; exact fun h => hg h.2.2))
                clear HG hg
                go_wp2_with (go_at_call 91; refine H91b.out.mono ?_; rintro en w2 ⟨rfl, hB⟩; have HB5 := Lib.hid hB; clear hB)
                go_ret2
                rw [HE.out]
                exact ⟨rfl, HB2.out.trans (HB5.out.mono HZ)⟩
            · have HE : Hid (R = (3, -1)) := Lib.hid (by rw [← HG.out]; exact oneGo_no (by rw [HX.out]; exact fun h => hx2 h.2.1.2))
              have hx2' : 192 ≤ (s[3]'hl).toNat := by omega
              clear HG hx2
              go_wp2_with fail
              go_ret2
              rw [HE.out]
              exact ⟨rfl, HB2.out⟩
          · have HE : Hid (R = (3, -1)) := Lib.hid (by rw [← HG.out]; exact oneGo_no (by rw [HX.out]; exact fun h => hx1 h.2.1.1))
            have hx1' : (s[3]'hl).toNat < 128 := by omega
            clear HG hx1
            go_wp2_with fail
            go_ret2
            rw [HE.out]
            exact ⟨rfl, HB2.out⟩
        · have HE : Hid (R = (3, -1)) := Lib.hid (by rw [← HG.out]; exact oneGo_no (fun h => hl h.1))
          have hl' : s.size ≤ 3 := by omega
          clear HG hl
          go_wp2_with fail
          go_ret2
          rw [HE.out]
          exact ⟨rfl, HB2.out⟩
      · have HE : Hid (R = (4, (b : Int))) := Lib.hid HG.out.symm
        clear HG
        go_wp2_with fail
        go_ret2
        rw [HE.out]
        exact ⟨rfl, HB2.out⟩
  · rw [if_neg hg]
    rw [decide_eq_false hg] at H91
    clear hg
    go_enter Tryd.func81, Tryd.ntmps81
    go_wp2_with (go_at_call 91; refine H91.out.mono ?_; rintro en w2 ⟨rfl, hB⟩; have HB := Lib.hid hB; clear hB)
    go_ret2
    exact ⟨rfl, HB.out⟩

theorem f81 (s : ByteArray) (hs : 0 < s.size) (hm : s.size ≤ 140737488355328) (w : World) : Calls Tryd.prog 81 #[.string s] w fun en w' => en = .returned (oneV (oneS s)) ∧ Below w.heap.size w w' := by
  have hl := byteN_lt s 0
  by_cases c1 : byteN s 0 < 128
  · exact f81_ascii s hs hm c1 w
  · by_cases c2 : byteN s 0 < 192 ∨ 248 ≤ byteN s 0
    · exact f81_none s hs hm c1 c2 w
    · by_cases c3 : byteN s 0 < 224
      · exact f81_2 s hs hm (by omega) c3 w
      · by_cases c4 : byteN s 0 < 240
        · exact f81_3 s hs hm (by omega) c4 w
        · exact f81_4 s hs hm (by omega) (by omega) w

end Go.Proofs.YtaanihidheccfaaDoor
