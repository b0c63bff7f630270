/- Layer 7 in memory: rows that are dealt out (GrM), the seen set, what a row's turning leaves. -/
import Derived.Test.YtedfakpmdncnmaaDoorLayB
import Derived.Test.YtedfakpmdncnmaaDoorLayS
import Derived.Lib.OwnBridge
namespace Go.Proofs.YtedfakpmdncnmaaDoor
open Go.RowKit LY
def fup {α : Type} (f : Nat → α) (k : Nat) (v : α) : Nat → α := fun i => if i = k then v else f i
theorem fup_same {α : Type} (f : Nat → α) (k : Nat) (v : α) : fup f k v k = v := by simp [fup]
theorem fup_ne {α : Type} (f : Nat → α) {k i : Nat} (v : α) (h : i ≠ k) : fup f k v i = f i := by simp [fup, h]
def setB (s : Nat → Bool) (k : Nat) : Nat → Bool := fun j => s j || j == k
/-! ### arrays as functions -/
def tabV (n : Nat) (f : Nat → Value) : Array Value := ((List.range n).map f).toArray
theorem tabV_size (n : Nat) (f : Nat → Value) : (tabV n f).size = n := by simp [tabV]
theorem tabV_get {n : Nat} (f : Nat → Value) {i : Nat} (h : i < n) : (tabV n f)[i]? = some (f i) := by simp [tabV, h]
theorem tabV_set {n : Nat} (f : Nat → Value) {i : Nat} (h : i < n) (v : Value) : (tabV n f).setIfInBounds i v = tabV n (fup f i v) := by
  apply Array.ext_getElem?
  intro j
  rw [Array.getElem?_setIfInBounds]
  by_cases e : i = j
  · subst e
    rw [if_pos rfl, tabV_get _ h, fup_same, if_pos (by rw [tabV_size]; exact h)]
  · rw [if_neg e]
    by_cases hj : j < n
    · rw [tabV_get _ hj, tabV_get _ hj, fup_ne _ _ (fun h => e h.symm)]
    · rw [Array.getElem?_eq_none (by rw [tabV_size]; omega), Array.getElem?_eq_none (by rw [tabV_size]; omega)]
/-! ### a graph's rows -/
structure GrM (w : World) (B ga n : Nat) (g : Nat → List Nat) (sl : Nat → Value) : Prop where
  blk : Blk w ga 32 (tabV n sl)
  low : B ≤ ga
  row : ∀ a, a < n → w.ownsRow B 3 1 (sl a) (g a).length (iV (g a))
  apart : ∀ a b, a < n → b < n → a ≠ b → ∀ k, (sl a).ownBlock = some k → (sl b).ownBlock ≠ some k
theorem GrM.keep {w w' : World} {B ga n : Nat} {g : Nat → List Nat} {sl : Nat → Value} (h : GrM w B ga n g sl) (hb : w'.heap[ga]? = w.heap[ga]?) (hk : ∀ a, a < n → ∀ k, (sl a).ownBlock = some k → w'.heap[k]? = w.heap[k]?) : GrM w' B ga n g sl :=
  ⟨hb.trans h.blk, h.low, fun a ha => own_keep (h.row a ha) (hk a ha), h.apart⟩
theorem GrM.below {w w' : World} {B ga n : Nat} {g : Nat → List Nat} {sl : Nat → Value} (h : GrM w B ga n g sl) (hb : Below w.heap.size w w') : GrM w' B ga n g sl :=
  h.keep (hb.block _ h.blk.lt) fun a ha k hk => hb.block _ ((h.row a ha).lt k hk).2
theorem GrM.made (w : World) (n : Nat) : GrM (w.alloc (.cells (tabV n fun _ => .slice none 0 0) 32)) w.heap.size w.heap.size n (fun _ => []) fun _ => .slice none 0 0 :=
  ⟨Blk.new_ _ _ _, Nat.le_refl _, fun _ _ => World.ownsRow_nil _ _ _ _, fun _ _ _ _ _ _ h => by cases h⟩
/-- a row grows, and its slice is stored -/
theorem GrM.grow {w w' : World} {B ga n : Nat} {g : Nat → List Nat} {sl : Nat → Value} (h : GrM w B ga n g sl) {a : Nat} (ha : a < n) {v : Value} {x : Nat} (hown : w'.ownsRow B 3 1 v ((g a).length + 1) (iV (g a) ++ [.int .i64 (x : Int)]))
    (hg : w.grownBy w' (sl a).ownBlock) (hs : v.ownBlock = (sl a).ownBlock ∨ v.ownBlock = some w.heap.size) : GrM (w'.setCell ⟨ga, a, none⟩ v) B ga n (fup g a (g a ++ [x])) (fup sl a v) := by
  have hne : some ga ≠ (sl a).ownBlock := own_ne_blk (h.row a ha) h.blk (by decide)
  have hb : Blk w' ga 32 (tabV n sl) := h.blk.grown hg hne
  have hgv : some ga ≠ v.ownBlock := own_ne_blk hown hb (by decide)
  refine ⟨?_, h.low, fun b hbn => ?_, fun b c hbn hcn hbc k hk => ?_⟩
  · have := hb.set_ a v
    rw [tabV_set _ ha] at this
    exact this
  · by_cases e : b = a
    · subst e
      rw [fup_same, fup_same]
      have h1 : w'.ownsRow B 3 1 v (g b ++ [x]).length (iV (g b ++ [x])) := by rw [iV_app, List.length_append]; exact hown
      exact own_keep h1 fun k hk => Below.heap_setCell _ _ _ _ (fun e => hgv (by rw [hk, e]))
    · rw [fup_ne _ _ e, fup_ne _ _ e]
      have h1 : w'.ownsRow B 3 1 (sl b) (g b).length (iV (g b)) := (h.row b hbn).kept hg (by
        cases e2 : (sl b).ownBlock with
        | none => exact .inl rfl
        | some k => exact .inr fun e3 => h.apart b a hbn ha e k e2 e3.symm)
      exact own_keep h1 fun k hk => Below.heap_setCell _ _ _ _ (fun e => (own_ne_blk h1 hb (by decide)) (by rw [hk, e]))
  · have hlt : ∀ d, d < n → ∀ k, (sl d).ownBlock = some k → k < w.heap.size := fun d hd k hk => ((h.row d hd).lt k hk).2
    by_cases e1 : b = a
    · subst e1
      have e2 : c ≠ b := fun e => hbc e.symm
      rw [fup_same] at hk
      rw [fup_ne _ _ e2]
      intro hck
      rcases hs with hs | hs
      · exact h.apart c b hcn hbn e2 k hck (by rw [← hs]; exact hk)
      · have := hlt c hcn k hck; rw [hs] at hk; injection hk with hk; omega
    · rw [fup_ne _ _ e1] at hk
      by_cases e2 : c = a
      · subst e2
        rw [fup_same]
        intro hck
        rcases hs with hs | hs
        · exact h.apart b c hbn hcn e1 k hk (by rw [← hs]; exact hck)
        · have := hlt b hbn k hk; rw [hs] at hck; injection hck with hck; omega
      · rw [fup_ne _ _ e2]
        exact h.apart b c hbn hcn hbc k hk
/-- a set of numbers as a map of bools -/
def setM (s : Nat → Bool) : Lit → Option Value
  | .int .i64 z => if decide (0 ≤ z) && s z.toNat then some (.bool true) else none
  | _ => none
theorem setM_at (s : Nat → Bool) (k : Nat) : setM s (.int .i64 (k : Int)) = if s k then some (.bool true) else none := by simp [setM]
theorem setM_set (s : Nat → Bool) (k : Nat) : setF (setM s) (.int .i64 (k : Int)) (.bool true) = setM (setB s k) := by
  funext l
  unfold setF
  by_cases e : l = .int .i64 (k : Int)
  · subst e
    simp [setM, setB, Lit.sameKey]
  · rw [Maps.sameKey_ne e]
    simp only [Bool.false_eq_true, if_false]
    cases l with
    | int kd z =>
      cases kd
      case i64 =>
        simp only [setM]
        by_cases hz : 0 ≤ z
        · have : z.toNat ≠ k := by rintro rfl; exact e (by rw [Int.toNat_of_nonneg hz])
          simp [setB, this]
        · simp [hz]
      all_goals rfl
    | _ => rfl
theorem keyI (k : Nat) (h : k ≤ 1048576) : keyOf Tryd.prog 3 (.int .i64 (k : Int)) = some (.int .i64 (k : Int)) := Maps.keyOf_int_mk Tryd.underlying3 (by rw [← IntWalk.wrap64_in (k : Int) ⟨by omega, by omega⟩]; exact wrap64_wf _)

/-! ### rows turned about -/
theorem only_putRow (w : World) (g q : Nat) {n c : Nat} (d : Array Int) : Only (fun k => (Value.slice (some ⟨g, 0, none⟩) n c).ownBlock = some k) w (Sort.putRow (Value.int .i64) (Sort.ahead w q) g 0 d) :=
  ⟨rfl, rfl, rfl, by simp [Sort.putRow, Sort.mapBlock, Sort.ahead], fun k _ hn => by
    have hk : g ≠ k := fun e => hn (by rw [e]; rfl)
    simp [Sort.putRow, Sort.mapBlock, Sort.ahead, Array.getElem?_modify, hk]⟩
theorem iV_int (l : List Nat) : iV l = (l.map fun k : Nat => (k : Int)).map (Value.int .i64) := by unfold iV; rw [List.map_map]; rfl
theorem reverse_own (w : World) (B : Nat) (v : Value) (l : List Nat) (hl : l.length ≤ 1024) (h : w.ownsRow B 3 1 v l.length (iV l)) :
    Calls Tryd.prog 20 #[v] w fun e w' => e = .returned (.tuple #[]) ∧ w'.ownsRow B 3 1 v l.length (iV l.reverse) ∧ Only (fun k => v.ownBlock = some k) w w' := by
  obtain ⟨a, c, rfl⟩ := own_shape h
  cases l with
  | nil =>
    refine (Tryd.slices_Reverse_int_empty a c w).mono ?_
    rintro e w' ⟨he, hw⟩
    subst hw
    exact ⟨he, h, Only.refl _ _⟩
  | cons x l =>
    obtain ⟨n, hn⟩ : ∃ n, (x :: l).length = n := ⟨_, rfl⟩
    have hn1 : 0 < n := by rw [← hn]; simp
    rw [iV_int, hn] at h
    rw [hn] at hl ⊢
    have hzl : ((x :: l).map fun k : Nat => (k : Int)).length = n := by rw [List.length_map, hn]
    have hne : Value.slice a n c ≠ .slice none 0 0 := by
      intro e
      injection e with _ e _
      omega
    obtain ⟨g, cap, e, hbg, _, _, hcm, hlen, hH⟩ := Lib.holds_of_ownsRow (enc := Value.int .i64) (zs := (x :: l).map fun k : Nat => (k : Int)) h hne
    injection e with e1 _ e3
    subst e1 e3
    have hrev := Tryd.slices_Reverse_int g 0 c ((x :: l).map fun k : Nat => (k : Int)) w hH (by rw [hzl]; omega)
    rw [hzl] at hrev
    refine hrev.mono ?_
    rintro e w' ⟨rfl, q, rfl⟩
    have hy : ((x :: l).map fun k : Nat => (k : Int)).reverse.length = n := by rw [List.length_reverse, hzl]
    have h1 := Lib.ownsRow_putRow (q := q) (ys := ((x :: l).map fun k : Nat => (k : Int)).reverse) h hy (Nat.le_refl n)
    rw [List.take_of_length_le (Nat.le_of_eq hy)] at h1
    have e2 : iV (x :: l).reverse = (((x :: l).map fun k : Nat => (k : Int)).reverse).map (Value.int .i64) := by
      rw [iV_int, List.map_reverse]
    exact ⟨rfl, by rw [e2]; exact h1, only_putRow w g q _⟩

/-! ### frames by types -/
def TL (t : TypeId) : Bool := t == 3 || t == 32
theorem kb_below {T : TypeId → Bool} {w w' : World} (h : Below w.heap.size w w') : Kb T w w' := fun _ _ _ hb _ => hb.below h hb.lt
theorem kb_grown {T : TypeId → Bool} {w w' : World} {base e size n : Nat} {v : Value} {xs : List Value} (h : w.ownsRow base e size v n xs) (hg : w.grownBy w' v.ownBlock) (hT : T e = true) : Kb T w w' := fun b t cs hb ht => hb.grown hg (own_ne_blk h hb (fun e2 => by rw [e2, hT] at ht; cases ht))
theorem kb_set {T : TypeId → Bool} {w : World} {g i : Nat} {t : TypeId} {cs : Array Value} (h : Blk w g t cs) (hT : T t = true) (u : Value) : Kb T w (w.setCell ⟨g, i, none⟩ u) := fun b t' cs' hb ht => hb.far (hb.ne h (fun e2 => by rw [e2, hT] at ht; cases ht)) u
theorem GrM.kb {w w' : World} {B ga n : Nat} {g : Nat → List Nat} {sl : Nat → Value} (h : GrM w B ga n g sl) (hk : Kb (fun _ => false) w w') : GrM w' B ga n g sl :=
  ⟨hk _ _ _ h.blk rfl, h.low, fun a ha => own_kb (h.row a ha) hk rfl, h.apart⟩
end Go.Proofs.YtedfakpmdncnmaaDoor
