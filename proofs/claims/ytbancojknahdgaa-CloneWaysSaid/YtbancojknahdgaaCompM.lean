/- Layer 19 in memory: rows of numbers, a graph's rows (GrM), and the contract of comp.read. -/
import Derived.Test.YtbancojknahdgaaAppS
import Derived.Test.YtbancojknahdgaaMap
import Derived.Test.YtbancojknahdgaaCompQ
namespace Go.Proofs.Ytbancojknahdgaa
open Go.RowKit CP
theorem int_infoC : (Try.prog.info? 3).map (fun i => (i.zero, i.size, i.bytes)) = some (some (.int .i64 0), 1, 8) := by kernel_rfl
def iV (l : List Nat) : List Value := l.map fun (k : Nat) => Value.int .i64 (k : Int)
theorem iV_len (l : List Nat) : (iV l).length = l.length := by simp [iV]
theorem iV_app (l m : List Nat) : iV (l ++ m) = iV l ++ iV m := by simp [iV]
/-! ### arrays as functions -/
def tabV (n : Nat) (f : Nat → Value) : Array Value := ((List.range n).map f).toArray
theorem tabV_size (n : Nat) (f : Nat → Value) : (tabV n f).size = n := by simp [tabV]
theorem tabV_get {n : Nat} (f : Nat → Value) {i : Nat} (h : i < n) : (tabV n f)[i]? = some (f i) := by simp [tabV, h]
theorem tabV_set {n : Nat} (f : Nat → Value) {i : Nat} (h : i < n) (v : Value) : (tabV n f).setIfInBounds i v = tabV n (fup f i v) := by
  apply Array.ext_getElem?
  intro j
  rw [Array.getElem?_setIfInBounds]
  by_cases e : i = j
  · subst e
    rw [if_pos rfl, tabV_get _ h, fup_same, if_pos (by rw [tabV_size]; exact h)]
  · rw [if_neg e]
    by_cases hj : j < n
    · rw [tabV_get _ hj, tabV_get _ hj, fup_ne _ _ (fun h => e h.symm)]
    · rw [Array.getElem?_eq_none (by rw [tabV_size]; omega), Array.getElem?_eq_none (by rw [tabV_size]; omega)]
theorem fup_map {α β : Type} (h : α → β) (f : Nat → α) (i : Nat) (v : α) : fup (fun j => h (f j)) i (h v) = fun j => h (fup f i v j) := by
  funext j
  by_cases e : j = i
  · subst e; rw [fup_same, fup_same]
  · rw [fup_ne _ _ e, fup_ne _ _ e]
def tabI (n : Nat) (f : Nat → Nat) : Array Value := tabV n fun i => .int .i64 (f i : Int)
def tabB (n : Nat) (f : Nat → Bool) : Array Value := tabV n fun i => .bool (f i)
theorem tabI_get {n : Nat} (f : Nat → Nat) {i : Nat} (h : i < n) : (tabI n f)[i]? = some (.int .i64 (f i : Int)) := tabV_get _ h
theorem tabB_get {n : Nat} (f : Nat → Bool) {i : Nat} (h : i < n) : (tabB n f)[i]? = some (.bool (f i)) := tabV_get _ h
theorem tabI_set {n : Nat} (f : Nat → Nat) {i : Nat} (h : i < n) (v : Nat) : (tabI n f).setIfInBounds i (.int .i64 (v : Int)) = tabI n (fup f i v) := by
  unfold tabI
  rw [tabV_set _ h, fup_map (fun k : Nat => Value.int .i64 (k : Int))]
theorem tabB_set {n : Nat} (f : Nat → Bool) {i : Nat} (h : i < n) (v : Bool) : (tabB n f).setIfInBounds i (.bool v) = tabB n (fup f i v) := by
  unfold tabB
  rw [tabV_set _ h, fup_map (fun k : Bool => Value.bool k)]
theorem tabV_rep (n : Nat) (v : Value) : tabV n (fun _ => v) = (List.replicate n v).toArray := by
  apply Array.ext_getElem?
  intro j
  by_cases hj : j < n
  · rw [tabV_get _ hj]; simp [hj]
  · rw [Array.getElem?_eq_none (by rw [tabV_size]; omega), Array.getElem?_eq_none (by simp; omega)]
/-! ### a graph's rows -/
structure GrM (w : World) (B ga n : Nat) (g : Nat → List Nat) (sl : Nat → Value) : Prop where
  blk : Blk w ga 25 (tabV n sl)
  low : B ≤ ga
  row : ∀ a, a < n → w.ownsRow B 3 1 (sl a) (g a).length (iV (g a))
  apart : ∀ a b, a < n → b < n → a ≠ b → ∀ k, (sl a).ownBlock = some k → (sl b).ownBlock ≠ some k
theorem GrM.keep {w w' : World} {B ga n : Nat} {g : Nat → List Nat} {sl : Nat → Value} (h : GrM w B ga n g sl) (hb : w'.heap[ga]? = w.heap[ga]?) (hk : ∀ a, a < n → ∀ k, (sl a).ownBlock = some k → w'.heap[k]? = w.heap[k]?) : GrM w' B ga n g sl :=
  ⟨hb.trans h.blk, h.low, fun a ha => own_keep (h.row a ha) (hk a ha), h.apart⟩
theorem GrM.below {w w' : World} {B ga n : Nat} {g : Nat → List Nat} {sl : Nat → Value} (h : GrM w B ga n g sl) (hb : Below w.heap.size w w') : GrM w' B ga n g sl :=
  h.keep (hb.block _ h.blk.lt) fun a ha k hk => hb.block _ ((h.row a ha).lt k hk).2
theorem GrM.made (w : World) (n : Nat) : GrM (w.alloc (.cells (tabV n fun _ => .slice none 0 0) 25)) w.heap.size w.heap.size n (fun _ => []) fun _ => .slice none 0 0 :=
  ⟨Blk.new_ _ _ _, Nat.le_refl _, fun _ _ => World.ownsRow_nil _ _ _ _, fun _ _ _ _ _ _ h => by cases h⟩
/-- a row grows, and its slice is stored -/
theorem GrM.grow {w w' : World} {B ga n : Nat} {g : Nat → List Nat} {sl : Nat → Value} (h : GrM w B ga n g sl) {a : Nat} (ha : a < n) {v : Value} {x : Nat} (hown : w'.ownsRow B 3 1 v ((g a).length + 1) (iV (g a) ++ [.int .i64 (x : Int)]))
    (hg : w.grownBy w' (sl a).ownBlock) (hs : v.ownBlock = (sl a).ownBlock ∨ v.ownBlock = some w.heap.size) : GrM (w'.setCell ⟨ga, a, none⟩ v) B ga n (fup g a (g a ++ [x])) (fup sl a v) := by
  have hne : some ga ≠ (sl a).ownBlock := own_ne_blk (h.row a ha) h.blk (by decide)
  have hb : Blk w' ga 25 (tabV n sl) := h.blk.grown hg hne
  have hgv : some ga ≠ v.ownBlock := own_ne_blk hown hb (by decide)
  refine ⟨?_, h.low, fun b hbn => ?_, fun b c hbn hcn hbc k hk => ?_⟩
  · have := hb.set_ a v
    rw [tabV_set _ ha] at this
    exact this
  · by_cases e : b = a
    · subst e
      rw [fup_same, fup_same]
      have h1 : w'.ownsRow B 3 1 v (g b ++ [x]).length (iV (g b ++ [x])) := by rw [iV_app, List.length_append]; exact hown
      exact own_keep h1 fun k hk => Below.heap_setCell _ _ _ _ (fun e => hgv (by rw [hk, e]))
    · rw [fup_ne _ _ e, fup_ne _ _ e]
      have h1 : w'.ownsRow B 3 1 (sl b) (g b).length (iV (g b)) := (h.row b hbn).kept hg (by
        cases e2 : (sl b).ownBlock with
        | none => exact .inl rfl
        | some k => exact .inr fun e3 => h.apart b a hbn ha e k e2 e3.symm)
      exact own_keep h1 fun k hk => Below.heap_setCell _ _ _ _ (fun e => (own_ne_blk h1 hb (by decide)) (by rw [hk, e]))
  · have hlt : ∀ d, d < n → ∀ k, (sl d).ownBlock = some k → k < w.heap.size := fun d hd k hk => ((h.row d hd).lt k hk).2
    by_cases e1 : b = a
    · subst e1
      have e2 : c ≠ b := fun e => hbc e.symm
      rw [fup_same] at hk
      rw [fup_ne _ _ e2]
      intro hck
      rcases hs with hs | hs
      · exact h.apart c b hcn hbn e2 k hck (by rw [← hs]; exact hk)
      · have := hlt c hcn k hck; rw [hs] at hk; injection hk with hk; omega
    · rw [fup_ne _ _ e1] at hk
      by_cases e2 : c = a
      · subst e2
        rw [fup_same]
        intro hck
        rcases hs with hs | hs
        · exact h.apart b c hbn hcn e1 k hk (by rw [← hs]; exact hck)
        · have := hlt b hbn k hk; rw [hs] at hck; injection hck with hck; omega
      · rw [fup_ne _ _ e2]
        exact h.apart b c hbn hcn hbc k hk
end Go.Proofs.Ytbancojknahdgaa
