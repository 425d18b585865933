/-
  A node of the document in memory.
-/
import Derived.Test.YtlgpilcjcomacaaRb
namespace Go.Proofs.Ytlgpilcjcomacaa
open Go.RowKit Rx
set_option linter.unusedVariables false

/-- What a node of the document holds. -/
structure NV where
  kind : Int
  set : Nat → Bool
  what : Nat
  num : Int
  kx : Option Addr
  kl : Nat
  kc : Nat
  lo : Int
  hi : Int
  lazy : Bool

def nv (v : NV) (i : Nat) : Value := if i = 0 then .int .i64 v.kind else if i < 257 then .bool (v.set (i - 1)) else if i = 257 then .int .u8 v.what else if i = 258 then .int .i64 v.num else if i = 259 then .slice v.kx v.kl v.kc else if i = 260 then .int .i64 v.lo else if i = 261 then .int .i64 v.hi else .bool v.lazy

theorem nv_set (v : NV) {i : Nat} (h : i < 256) : nv v (1 + i) = .bool (v.set i) := by unfold nv; rw [if_neg (by omega), if_pos (by omega), show 1 + i - 1 = i by omega]

def IsNode (A : Array Value) (v : NV) : Prop := A.size = 263 ∧ ∀ i, i < 263 → A[i]? = some (nv v i)
/-- A node, known whole. -/
def NodeB (w : World) (b : Nat) (v : NV) : Prop := ∃ A, w.heap[b]? = some (.cells A 128 (0, 0)) ∧ IsNode A v

def nv0 (k : Int) : NV := ⟨k, fun _ => false, 0, 0, none, 0, 0, 0, 0, false⟩

theorem zero_node : IsNode Try.zeroCells128 (nv0 0) := by
  have h : Try.zeroCells128 = (List.range 263).toArray.map (nv (nv0 0)) := by kernel_rfl
  rw [h]
  exact ⟨by simp, fun i hi => by simp [hi]⟩

theorem IsNode.put {A : Array Value} {v v' : NV} (h : IsNode A v) {i : Nat} (hi : i < 263) (u : Value) (hu : u = nv v' i) (ho : ∀ j, j < 263 → j ≠ i → nv v' j = nv v j) : IsNode (A.setIfInBounds i u) v' := by
  refine ⟨by simp [h.1], fun j hj => ?_⟩
  rw [Array.getElem?_setIfInBounds]
  by_cases e : i = j
  · subst e; simp [h.1, hi, hu]
  · rw [if_neg e, h.2 j hj, ho j hj (Ne.symm e)]

theorem nv_put_set (v : NV) (f : Nat → Bool) (j : Nat) (i : Nat) (hi : i < 256) (hf : ∀ x, x ≠ i → x < 256 → f x = v.set x) (hj : j < 263) (hne : j ≠ 1 + i) : nv { v with set := f } j = nv v j := by
  unfold nv
  by_cases h0 : j = 0
  · rw [if_pos h0, if_pos h0]
  · rw [if_neg h0, if_neg h0]
    by_cases h1 : j < 257
    · rw [if_pos h1, if_pos h1]
      show Value.bool (f (j - 1)) = _
      rw [hf (j - 1) (by omega) (by omega)]
    · rw [if_neg h1, if_neg h1]

theorem IsNode.kind {A : Array Value} {v : NV} (h : IsNode A v) (k : Int) : IsNode (A.setIfInBounds 0 (.int .i64 k)) { v with kind := k } :=
  h.put (by decide) _ rfl (fun j _ hne => by unfold nv; rw [if_neg hne, if_neg hne])
theorem IsNode.sets {A : Array Value} {v : NV} (h : IsNode A v) {i : Nat} (hi : i < 256) (b : Bool) : IsNode (A.setIfInBounds (1 + i) (.bool b)) { v with set := fun x => if x = i then b else v.set x } :=
  h.put (by omega) _ (by rw [nv_set _ hi]; simp) (fun j hj hne => nv_put_set v _ j i hi (fun x hx _ => if_neg hx) hj hne)
theorem nv_tail (v v' : NV) {j : Nat} (hk : v'.kind = v.kind) (hs : v'.set = v.set) (h257 : j = 257 → v'.what = v.what) (h258 : j = 258 → v'.num = v.num) (h259 : j = 259 → v'.kx = v.kx ∧ v'.kl = v.kl ∧ v'.kc = v.kc) (h260 : j = 260 → v'.lo = v.lo) (h261 : j = 261 → v'.hi = v.hi) (h262 : 262 ≤ j → v'.lazy = v.lazy) : nv v' j = nv v j := by
  unfold nv
  rw [hk, hs]
  split
  · rfl
  · split
    · rfl
    · split
      · rename_i h; rw [h257 h]
      · split
        · rename_i h; rw [h258 h]
        · split
          · rename_i h; obtain ⟨a, b, c⟩ := h259 h; rw [a, b, c]
          · split
            · rename_i h; rw [h260 h]
            · split
              · rename_i h; rw [h261 h]
              · rw [h262 (by omega)]
theorem IsNode.what {A : Array Value} {v : NV} (h : IsNode A v) (c : Nat) : IsNode (A.setIfInBounds 257 (.int .u8 (c : Int))) { v with what := c } :=
  h.put (by decide) _ rfl (fun j _ hne => nv_tail _ _ rfl rfl (fun e => absurd e hne) (fun _ => rfl) (fun _ => ⟨rfl, rfl, rfl⟩) (fun _ => rfl) (fun _ => rfl) (fun _ => rfl))
theorem IsNode.num {A : Array Value} {v : NV} (h : IsNode A v) (c : Int) : IsNode (A.setIfInBounds 258 (.int .i64 c)) { v with num := c } :=
  h.put (by decide) _ rfl (fun j _ hne => nv_tail _ _ rfl rfl (fun _ => rfl) (fun e => absurd e hne) (fun _ => ⟨rfl, rfl, rfl⟩) (fun _ => rfl) (fun _ => rfl) (fun _ => rfl))
theorem IsNode.kids {A : Array Value} {v : NV} (h : IsNode A v) (x : Option Addr) (l c : Nat) : IsNode (A.setIfInBounds 259 (.slice x l c)) { v with kx := x, kl := l, kc := c } :=
  h.put (by decide) _ rfl (fun j _ hne => nv_tail _ _ rfl rfl (fun _ => rfl) (fun _ => rfl) (fun e => absurd e hne) (fun _ => rfl) (fun _ => rfl) (fun _ => rfl))
theorem IsNode.lo {A : Array Value} {v : NV} (h : IsNode A v) (c : Int) : IsNode (A.setIfInBounds 260 (.int .i64 c)) { v with lo := c } :=
  h.put (by decide) _ rfl (fun j _ hne => nv_tail _ _ rfl rfl (fun _ => rfl) (fun _ => rfl) (fun _ => ⟨rfl, rfl, rfl⟩) (fun e => absurd e hne) (fun _ => rfl) (fun _ => rfl))
theorem IsNode.hi {A : Array Value} {v : NV} (h : IsNode A v) (c : Int) : IsNode (A.setIfInBounds 261 (.int .i64 c)) { v with hi := c } :=
  h.put (by decide) _ rfl (fun j _ hne => nv_tail _ _ rfl rfl (fun _ => rfl) (fun _ => rfl) (fun _ => ⟨rfl, rfl, rfl⟩) (fun _ => rfl) (fun e => absurd e hne) (fun _ => rfl))
theorem IsNode.lazy {A : Array Value} {v : NV} (h : IsNode A v) (c : Bool) : IsNode (A.setIfInBounds 262 (.bool c)) { v with lazy := c } :=
  h.put (by decide) _ rfl (fun j hj hne => nv_tail _ _ rfl rfl (fun _ => rfl) (fun _ => rfl) (fun _ => ⟨rfl, rfl, rfl⟩) (fun _ => rfl) (fun _ => rfl) (fun e => absurd (by omega) hne))

theorem NodeB.cell {w : World} {b : Nat} {v : NV} (h : NodeB w b v) {i : Nat} (hi : i < 263) : Holds w b i (nv v i) := by
  obtain ⟨A, hA, hs⟩ := h
  exact ⟨by unfold World.cell?; simp [hA, hs.2 i hi], by unfold World.frozen?; simp [hA]⟩
theorem NodeB.lt {w : World} {b : Nat} {v : NV} (h : NodeB w b v) : b < w.heap.size := by obtain ⟨A, hA, -⟩ := h; exact (Array.getElem?_eq_some_iff.1 hA).1
theorem NodeB.keep {S : Nat → Prop} {w w' : World} {b : Nat} {v : NV} (h : NodeB w b v) (t : Touch S w w') (hb : ¬ S b) : NodeB w' b v := by
  have hl := h.lt
  obtain ⟨A, hA, hs⟩ := h
  exact ⟨A, (t.block b hl hb).trans hA, hs⟩
theorem NodeB.made (w : World) (A : Array Value) (v : NV) (h : IsNode A v) : NodeB (w.alloc (.cells A 128)) w.heap.size v := ⟨A, heap_alloc_new w _, h⟩
theorem NodeB.put {w : World} {b : Nat} {v v' : NV} (h : NodeB w b v) {i : Nat} (u : Value) (hp : ∀ A, IsNode A v → IsNode (A.setIfInBounds i u) v') : NodeB (w.setCell ⟨b, i, none⟩ u) b v' := by
  obtain ⟨A, hA, hs⟩ := h
  refine ⟨A.setIfInBounds i u, ?_, hp A hs⟩
  rw [setCell_eq_setRow w b i _ _ (0, 0) _ hA, setRow_heap w b _ _ _ (0, 0) hA]

/-- A node of a kind, made new. -/
theorem node_new (w : World) (k : Int) : NodeB (w.alloc (.cells (Try.zeroCells128.setIfInBounds 0 (.int .i64 k)) 128)) w.heap.size (nv0 k) := NodeB.made w _ _ (zero_node.kind k)

set_option maxRecDepth 100000 in
theorem rone_any (c : Nat) (hc : c < 256) (w : World) :
    Calls Try.prog 107 #[.int .u8 (c : Int)] w fun e w' => e = .returned (.pointer (some ⟨w.heap.size, 0, none⟩)) ∧ Still w w' ∧ w'.heap.size = w.heap.size + 1 ∧ NodeB w' w.heap.size { nv0 0 with set := fun x => decide (x = c) } := by
  have hk := zero_node.kind 0
  have hx := hk.2 (1 + c) (by omega)
  rw [nv_set _ hc] at hx
  have HK := Lib.hid hk
  clear hk
  go_enter Try.func107, Try.ntmps107
  go_wp2_with fail
  go_ret
  refine ⟨rfl, (Touch.refl _ _).alloc _, by simp, ?_⟩
  exact NodeB.made w _ _ (by
    have h := HK.out.sets hc true
    refine ⟨h.1, fun i hi => (h.2 i hi).trans ?_⟩
    congr 1)
end Go.Proofs.Ytlgpilcjcomacaa
