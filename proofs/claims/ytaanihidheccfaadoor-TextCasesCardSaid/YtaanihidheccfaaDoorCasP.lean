/-
  Changing the case of letters, as plain lists: the parts of the changed string. No program in sight.
-/
import Derived.Test.YtaanihidheccfaaDoorTurnsL
import Derived.Test.YtaanihidheccfaaDoorCasD
namespace Go.Proofs.YtaanihidheccfaaDoor
set_option linter.unusedVariables false

theorem nocont {b : Nat} (h : b < 128) : ¬ Cont b := by unfold Cont; omega
/-- A row of broken bytes stays one, whatever plain letter follows. -/
theorem oneN_keep (n b0 b1 b2 b3 d1 d2 d3 : Nat) (hc : (oneN n b0 b1 b2 b3).2 < 0)
    (h1 : 1 < (oneN n b0 b1 b2 b3).1 → d1 = b1) (h2 : 2 < (oneN n b0 b1 b2 b3).1 → d2 = b2)
    (g1 : (oneN n b0 b1 b2 b3).1 = 1 → d1 = b1 ∨ (b1 < 128 ∧ d1 < 128)) (g2 : (oneN n b0 b1 b2 b3).1 = 2 → d2 = b2 ∨ (b2 < 128 ∧ d2 < 128)) (g3 : (oneN n b0 b1 b2 b3).1 = 3 → d3 = b3 ∨ (b3 < 128 ∧ d3 < 128)) :
    oneN n b0 d1 d2 d3 = oneN n b0 b1 b2 b3 := by
  by_cases c0 : b0 < 128
  · unfold oneN; rw [if_pos c0, if_pos c0]
  by_cases c1 : b0 < 192
  · unfold oneN; rw [if_neg c0, if_pos c1, if_neg c0, if_pos c1]
  by_cases c2 : b0 < 224
  · by_cases a0 : ¬ Beg (b0 - 192) 64 128
    · unfold oneN; rw [if_neg c0, if_neg c1, if_pos c2, if_pos a0, if_neg c0, if_neg c1, if_pos c2, if_pos a0]
    by_cases a1 : ¬ (1 < n ∧ Cont b1 ∧ Beg ((b0 - 192) * 64 + b1 - 128) 1 128)
    · have hv : oneN n b0 b1 b2 b3 = (1, -1) := by unfold oneN; rw [if_neg c0, if_neg c1, if_pos c2, if_neg a0, if_pos a1]
      rw [hv] at hc h1 h2 g1 g2 g3 ⊢
      rcases g1 rfl with rfl | ⟨x, y⟩
      · unfold oneN; rw [if_neg c0, if_neg c1, if_pos c2, if_neg a0, if_pos a1]
      · unfold oneN; rw [if_neg c0, if_neg c1, if_pos c2, if_neg a0, if_pos (fun h => nocont y h.2.1)]
    exfalso
    unfold oneN at hc
    rw [if_neg c0, if_neg c1, if_pos c2, if_neg a0, if_neg a1] at hc
    simp only at hc
    omega
  by_cases c3 : b0 < 240
  · by_cases a0 : ¬ Beg (b0 - 224) 4096 2048
    · unfold oneN; rw [if_neg c0, if_neg c1, if_neg c2, if_pos c3, if_pos a0, if_neg c0, if_neg c1, if_neg c2, if_pos c3, if_pos a0]
    by_cases a1 : ¬ (1 < n ∧ Cont b1 ∧ Beg ((b0 - 224) * 64 + b1 - 128) 64 2048)
    · have hv : oneN n b0 b1 b2 b3 = (1, -1) := by unfold oneN; rw [if_neg c0, if_neg c1, if_neg c2, if_pos c3, if_neg a0, if_pos a1]
      rw [hv] at hc h1 h2 g1 g2 g3 ⊢
      rcases g1 rfl with rfl | ⟨x, y⟩
      · unfold oneN; rw [if_neg c0, if_neg c1, if_neg c2, if_pos c3, if_neg a0, if_pos a1]
      · unfold oneN; rw [if_neg c0, if_neg c1, if_neg c2, if_pos c3, if_neg a0, if_pos (fun h => nocont y h.2.1)]
    by_cases a2 : ¬ (2 < n ∧ Cont b2 ∧ Beg (((b0 - 224) * 64 + b1 - 128) * 64 + b2 - 128) 1 2048)
    · have hv : oneN n b0 b1 b2 b3 = (2, -1) := by unfold oneN; rw [if_neg c0, if_neg c1, if_neg c2, if_pos c3, if_neg a0, if_neg a1, if_pos a2]
      rw [hv] at hc h1 h2 g1 g2 g3 ⊢
      obtain rfl := h1 (by decide)
      rcases g2 rfl with rfl | ⟨x, y⟩
      · unfold oneN; rw [if_neg c0, if_neg c1, if_neg c2, if_pos c3, if_neg a0, if_neg a1, if_pos a2]
      · unfold oneN; rw [if_neg c0, if_neg c1, if_neg c2, if_pos c3, if_neg a0, if_neg a1, if_pos (fun h => nocont y h.2.1)]
    exfalso
    unfold oneN at hc
    rw [if_neg c0, if_neg c1, if_neg c2, if_pos c3, if_neg a0, if_neg a1, if_neg a2] at hc
    simp only at hc
    omega
  by_cases c4 : b0 < 248
  · by_cases a0 : ¬ Beg (b0 - 240) 262144 65536
    · unfold oneN; rw [if_neg c0, if_neg c1, if_neg c2, if_neg c3, if_pos c4, if_pos a0, if_neg c0, if_neg c1, if_neg c2, if_neg c3, if_pos c4, if_pos a0]
    by_cases a1 : ¬ (1 < n ∧ Cont b1 ∧ Beg ((b0 - 240) * 64 + b1 - 128) 4096 65536)
    · have hv : oneN n b0 b1 b2 b3 = (1, -1) := by unfold oneN; rw [if_neg c0, if_neg c1, if_neg c2, if_neg c3, if_pos c4, if_neg a0, if_pos a1]
      rw [hv] at hc h1 h2 g1 g2 g3 ⊢
      rcases g1 rfl with rfl | ⟨x, y⟩
      · unfold oneN; rw [if_neg c0, if_neg c1, if_neg c2, if_neg c3, if_pos c4, if_neg a0, if_pos a1]
      · unfold oneN; rw [if_neg c0, if_neg c1, if_neg c2, if_neg c3, if_pos c4, if_neg a0, if_pos (fun h => nocont y h.2.1)]
    by_cases a2 : ¬ (2 < n ∧ Cont b2 ∧ Beg (((b0 - 240) * 64 + b1 - 128) * 64 + b2 - 128) 64 65536)
    · have hv : oneN n b0 b1 b2 b3 = (2, -1) := by unfold oneN; rw [if_neg c0, if_neg c1, if_neg c2, if_neg c3, if_pos c4, if_neg a0, if_neg a1, if_pos a2]
      rw [hv] at hc h1 h2 g1 g2 g3 ⊢
      obtain rfl := h1 (by decide)
      rcases g2 rfl with rfl | ⟨x, y⟩
      · unfold oneN; rw [if_neg c0, if_neg c1, if_neg c2, if_neg c3, if_pos c4, if_neg a0, if_neg a1, if_pos a2]
      · unfold oneN; rw [if_neg c0, if_neg c1, if_neg c2, if_neg c3, if_pos c4, if_neg a0, if_neg a1, if_pos (fun h => nocont y h.2.1)]
    by_cases a3 : ¬ (3 < n ∧ Cont b3 ∧ Beg ((((b0 - 240) * 64 + b1 - 128) * 64 + b2 - 128) * 64 + b3 - 128) 1 65536)
    · have hv : oneN n b0 b1 b2 b3 = (3, -1) := by unfold oneN; rw [if_neg c0, if_neg c1, if_neg c2, if_neg c3, if_pos c4, if_neg a0, if_neg a1, if_neg a2, if_pos a3]
      rw [hv] at hc h1 h2 g1 g2 g3 ⊢
      obtain rfl := h1 (by decide)
      obtain rfl := h2 (by decide)
      rcases g3 rfl with rfl | ⟨x, y⟩
      · unfold oneN; rw [if_neg c0, if_neg c1, if_neg c2, if_neg c3, if_pos c4, if_neg a0, if_neg a1, if_neg a2, if_pos a3]
      · unfold oneN; rw [if_neg c0, if_neg c1, if_neg c2, if_neg c3, if_pos c4, if_neg a0, if_neg a1, if_neg a2, if_pos (fun h => nocont y h.2.1)]
    exfalso
    unfold oneN at hc
    rw [if_neg c0, if_neg c1, if_neg c2, if_neg c3, if_pos c4, if_neg a0, if_neg a1, if_neg a2, if_neg a3] at hc
    simp only at hc
    omega
  unfold oneN; rw [if_neg c0, if_neg c1, if_neg c2, if_neg c3, if_neg c4, if_neg c0, if_neg c1, if_neg c2, if_neg c3, if_neg c4]

theorem bN_app_lt {p r : List UInt8} {i : Nat} (h : i < p.length) : bN (p ++ r) i = bN p i := by
  unfold bN; rw [List.getD_eq_getElem?_getD, List.getD_eq_getElem?_getD, List.getElem?_append_left h]
theorem bN_app_eq (p r : List UInt8) : bN (p ++ r) p.length = bN r 0 := by
  unfold bN; rw [List.getD_eq_getElem?_getD, List.getD_eq_getElem?_getD, List.getElem?_append_right (Nat.le_refl _), Nat.sub_self]

/-- The cut of a broken row: what follows matters only by its first byte, and a plain one for a plain one does not. -/
theorem cut_keep (e : Int) (p r r' : List UInt8) (hp : p ≠ []) (hk : (cutL e (p ++ r)).1 = p.length) (hc : (cutL e (p ++ r)).2 < 0) (hl : r'.length = r.length) (hf : bN r' 0 = bN r 0 ∨ (bN r 0 < 128 ∧ bN r' 0 < 128)) : cutL e (p ++ r') = cutL e (p ++ r) := by
  have hp0 : 0 < p.length := by cases p with | nil => exact absurd rfl hp | cons a l => simp
  have e0 : bN (p ++ r') 0 = bN (p ++ r) 0 := by rw [bN_app_lt hp0, bN_app_lt hp0]
  unfold cutL at *
  rw [e0]
  by_cases h0 : e = 0
  · rw [if_pos h0, if_pos h0]
  rw [if_neg h0] at hk hc ⊢
  rw [if_neg h0]
  by_cases h1 : e = 1
  · rw [if_pos h1, if_pos h1]
  rw [if_neg h1] at hk hc ⊢
  rw [if_neg h1]
  rw [show (p ++ r').length = (p ++ r).length by rw [List.length_append, List.length_append, hl]]
  refine oneN_keep _ _ _ _ _ _ _ _ hc ?_ ?_ ?_ ?_ ?_
  · rw [hk]; intro h; rw [bN_app_lt h, bN_app_lt h]
  · rw [hk]; intro h; rw [bN_app_lt h, bN_app_lt h]
  · rw [hk]; intro h; have h1 := bN_app_eq p r; have h2 := bN_app_eq p r'; rw [h] at h1 h2; rw [h1, h2]; exact hf
  · rw [hk]; intro h; have h1 := bN_app_eq p r; have h2 := bN_app_eq p r'; rw [h] at h1 h2; rw [h1, h2]; exact hf
  · rw [hk]; intro h; have h1 := bN_app_eq p r; have h2 := bN_app_eq p r'; rw [h] at h1 h2; rw [h1, h2]; exact hf

/-- What is used of a change of case. -/
structure Chg (e : Int) (ch : Int → Int) : Prop where
  fits : ∀ c, has e c → has e (ch c)
  same : ∀ c, has e c → ch c = c ∨ (0 ≤ c ∧ c < 128 ∧ 0 ≤ ch c ∧ ch c < 128) ∨ (192 ≤ c ∧ c < 256 ∧ 192 ≤ ch c ∧ ch c < 256)
theorem chg_up {e : Int} (he : e = 0 ∨ e = 1 ∨ e = 2) : Chg e (upI e) := by
  refine ⟨?_, ?_⟩
  · intro c h
    by_cases hl : largeP (c - 32) e
    · exact (up_has he hl).1
    · rw [show upI e c = c from if_neg hl]; exact h
  · intro c h
    by_cases hl : largeP (c - 32) e
    · rw [(up_has he hl).2.2]
      unfold largeP at hl
      omega
    · exact .inl (if_neg hl)
theorem chg_lo {e : Int} (he : e = 0 ∨ e = 1 ∨ e = 2) : Chg e (loI e) := by
  refine ⟨?_, ?_⟩
  · intro c h
    by_cases hl : largeP c e
    · exact (lo_has he hl).1
    · rw [show loI e c = c from if_neg hl]; exact h
  · intro c h
    by_cases hl : largeP c e
    · rw [(lo_has he hl).2.2]
      unfold largeP at hl
      omega
    · exact .inl (if_neg hl)

/-- The bytes of a changed letter: as many, and the first a plain one for a plain one. -/
theorem enc_chg {e : Int} (he : e = 0 ∨ e = 1 ∨ e = 2) {ch : Int → Int} (H : Chg e ch) {c : Int} (h : has e c) (h2 : e = 2) : (enc e (ch c)).length = (enc e c).length ∧ (bN (enc e (ch c)) 0 = bN (enc e c) 0 ∨ (bN (enc e c) 0 < 128 ∧ bN (enc e (ch c)) 0 < 128)) := by
  subst h2
  rcases H.same c h with e1 | ⟨a1, a2, a3, a4⟩ | ⟨a1, a2, a3, a4⟩
  · rw [e1]; exact ⟨rfl, .inl rfl⟩
  · have f1 : enc 2 c = [b8 c.toNat] := by unfold enc; rw [if_pos (.inr a2)]
    have f2 : enc 2 (ch c) = [b8 (ch c).toNat] := by unfold enc; rw [if_pos (.inr a4)]
    rw [f1, f2]
    refine ⟨rfl, .inr ⟨?_, ?_⟩⟩
    · show (b8 _).toNat < 128
      rw [b8_toNat]; omega
    · show (b8 _).toNat < 128
      rw [b8_toNat]; omega
  · have f1 : enc 2 c = [b8 (192 + c.toNat / 64), b8 (128 + c.toNat % 64)] := by unfold enc; rw [if_neg (by omega), if_pos (by omega)]
    have f2 : enc 2 (ch c) = [b8 (192 + (ch c).toNat / 64), b8 (128 + (ch c).toNat % 64)] := by unfold enc; rw [if_neg (by omega), if_pos (by omega)]
    rw [f1, f2]
    refine ⟨rfl, .inl ?_⟩
    show (b8 _).toNat = (b8 _).toNat
    rw [b8_toNat, b8_toNat]; omega
theorem enc_len_chg {e : Int} (he : e = 0 ∨ e = 1 ∨ e = 2) {ch : Int → Int} (H : Chg e ch) {c : Int} (h : has e c) : (enc e (ch c)).length = (enc e c).length := by
  by_cases h2 : e = 2
  · exact (enc_chg he H h h2).1
  · unfold enc; rw [if_pos (.inl h2), if_pos (.inl h2)]; rfl

theorem mapP_len {e : Int} (he : e = 0 ∨ e = 1 ∨ e = 2) {ch : Int → Int} (H : Chg e ch) {l : List UInt8} {p : List UInt8 × Int} (hp : p ∈ parts e l) : (mapP e ch p).length = p.1.length := by
  unfold mapP
  split
  · rename_i h
    have hb := parts_back e he l p hp h.1
    rw [enc_len_chg he H hb.1, ← hb.2]
  · rfl
theorem mapL_nil (e : Int) (ch : Int → Int) : mapL e ch [] = [] := rfl
theorem mapL_cons (e : Int) (ch : Int → Int) (l : List UInt8) (h : l ≠ []) : mapL e ch l = mapP e ch (l.take (cutL e l).1, (cutL e l).2) ++ mapL e ch (l.drop (cutL e l).1) := by
  unfold mapL
  rw [parts_cons e l h]
  rfl
theorem mapL_len {e : Int} (he : e = 0 ∨ e = 1 ∨ e = 2) {ch : Int → Int} (H : Chg e ch) (l : List UInt8) : (mapL e ch l).length = l.length := by
  induction l using parts_ind e with
  | h0 => rfl
  | h1 l hl ih =>
    have h := mapP_len he H (l := l) (p := (l.take (cutL e l).1, (cutL e l).2)) (by rw [parts_cons e l hl]; exact List.mem_cons_self)
    rw [mapL_cons e ch l hl, List.length_append, ih, h, ← List.length_append, List.take_append_drop]
theorem mapL_first {e : Int} (he : e = 0 ∨ e = 1 ∨ e = 2) (h2 : e = 2) {ch : Int → Int} (H : Chg e ch) (l : List UInt8) : bN (mapL e ch l) 0 = bN l 0 ∨ (bN l 0 < 128 ∧ bN (mapL e ch l) 0 < 128) := by
  by_cases hl : l = []
  · subst hl; exact .inl rfl
  · have hm : (l.take (cutL e l).1, (cutL e l).2) ∈ parts e l := by rw [parts_cons e l hl]; exact List.mem_cons_self
    have h := mapP_len he H hm
    have hpp := (parts_part e l _ hm).1
    have hp0 : 0 < (l.take (cutL e l).1).length := by
      cases hq : l.take (cutL e l).1 with
      | nil => exact absurd hq hpp
      | cons a r => simp
    have e2 : bN l 0 = bN (l.take (cutL e l).1) 0 := by
      conv => lhs; rw [← List.take_append_drop (cutL e l).1 l]
      exact bN_app_lt hp0
    rw [mapL_cons e ch l hl, bN_app_lt (by rw [h]; exact hp0), e2]
    unfold mapP
    split
    · rename_i hh
      have hb := parts_back e he l _ hm hh.1
      have := (enc_chg he H hb.1 h2).2
      rw [← hb.2] at this
      exact this
    · exact .inl rfl

/-- The code of a changed part. -/
def codP (e : Int) (ch : Int → Int) (p : List UInt8 × Int) : Int := if 0 ≤ p.2 ∧ has e (ch p.2) then ch p.2 else p.2
theorem parts_map {e : Int} (he : e = 0 ∨ e = 1 ∨ e = 2) {ch : Int → Int} (H : Chg e ch) (l : List UInt8) : parts e (mapL e ch l) = (parts e l).map fun p => (mapP e ch p, codP e ch p) := by
  induction l using parts_ind e with
  | h0 => rfl
  | h1 l hl ih =>
    have hm : (l.take (cutL e l).1, (cutL e l).2) ∈ parts e l := by rw [parts_cons e l hl]; exact List.mem_cons_self
    have hb1 := cutL_bounds e l hl
    rw [mapL_cons e ch l hl, parts_cons e l hl, List.map_cons, ← ih]
    by_cases hc : 0 ≤ (cutL e l).2
    · have hb := parts_back e he l _ hm hc
      have hh := H.fits _ hb.1
      have e1 : mapP e ch (l.take (cutL e l).1, (cutL e l).2) = enc e (ch (cutL e l).2) := mapP_yes hc hh
      have e2 : codP e ch (l.take (cutL e l).1, (cutL e l).2) = ch (cutL e l).2 := if_pos ⟨hc, hh⟩
      rw [e1, e2]
      exact parts_enc e _ he hh _
    · have e1 : mapP e ch (l.take (cutL e l).1, (cutL e l).2) = l.take (cutL e l).1 := mapP_no (fun h => hc h.1)
      have e2 : codP e ch (l.take (cutL e l).1, (cutL e l).2) = (cutL e l).2 := if_neg (fun h => hc h.1)
      have hne := (parts_part e l _ hm).1
      simp only at hne
      rw [e1, e2]
      have htl : (l.take (cutL e l).1).length = (cutL e l).1 := by rw [List.length_take]; omega
      have hk : cutL e (l.take (cutL e l).1 ++ mapL e ch (l.drop (cutL e l).1)) = cutL e l := by
        by_cases h2 : e = 2
        · have := cut_keep e (l.take (cutL e l).1) (l.drop (cutL e l).1) (mapL e ch (l.drop (cutL e l).1)) hne (by rw [List.take_append_drop, htl]) (by rw [List.take_append_drop]; omega) (mapL_len he H _) (mapL_first he h2 H _)
          rw [List.take_append_drop] at this
          exact this
        · have hp0 : 0 < (l.take (cutL e l).1).length := by omega
          have e3 : bN (l.take (cutL e l).1 ++ mapL e ch (l.drop (cutL e l).1)) 0 = bN l 0 := by
            rw [bN_app_lt hp0]
            conv => rhs; rw [← List.take_append_drop (cutL e l).1 l]
            exact (bN_app_lt hp0).symm
          generalize l.take (cutL e l).1 ++ mapL e ch (l.drop (cutL e l).1) = m at *
          unfold cutL
          rw [e3]
          rcases he with rfl | rfl | rfl
          · rw [if_pos rfl, if_pos rfl]
          · rw [if_neg (by decide), if_pos rfl, if_neg (by decide), if_pos rfl]
          · exact absurd rfl h2
      rw [parts_cons e _ (by intro h; exact hne (List.append_eq_nil_iff.1 h).1), hk]
      rw [List.take_left' htl, List.drop_left' htl]

theorem twice {e : Int} (he : e = 0 ∨ e = 1 ∨ e = 2) {f g : Int → Int} (F : Chg e f) (G : Chg e g) (hfg : ∀ c, f (g c) = f c) (l : List UInt8) : mapL e f (mapL e g l) = mapL e f l := by
  unfold mapL
  rw [show (((parts e l).map (mapP e g)).flatten) = mapL e g l from rfl, parts_map he G l, List.map_map]
  congr 1
  apply List.map_congr_left
  intro p hp
  show mapP e f (mapP e g p, codP e g p) = mapP e f p
  by_cases hc : 0 ≤ p.2
  · have hb := parts_back e he l p hp hc
    have hg := G.fits _ hb.1
    have e2 : codP e g p = g p.2 := if_pos ⟨hc, hg⟩
    have hf := F.fits _ hg
    rw [mapP_yes (p := (mapP e g p, codP e g p)) (by show 0 ≤ codP e g p; rw [e2]; exact (has_pos hg).1) (by show has e (f (codP e g p)); rw [e2]; exact hf), mapP_yes hc (F.fits _ hb.1)]
    show enc e (f (codP e g p)) = _
    rw [e2, hfg]
  · have e1 : mapP e g p = p.1 := mapP_no (fun h => hc h.1)
    have e2 : codP e g p = p.2 := if_neg (fun h => hc h.1)
    rw [e1, e2]
theorem up_lo (e c : Int) : upI e (loI e c) = upI e c := by
  unfold upI loI
  by_cases h : largeP c e
  · rw [if_pos h, if_pos (by rw [show c + 32 - 32 = c by omega]; exact h), if_neg (by unfold largeP at *; omega)]; omega
  · rw [if_neg h]
theorem lo_up (e c : Int) : loI e (upI e c) = loI e c := by
  unfold upI loI
  by_cases h : largeP (c - 32) e
  · rw [if_pos h, if_pos h, if_neg (by unfold largeP at *; omega)]; omega
  · rw [if_neg h]

end Go.Proofs.YtaanihidheccfaaDoor
