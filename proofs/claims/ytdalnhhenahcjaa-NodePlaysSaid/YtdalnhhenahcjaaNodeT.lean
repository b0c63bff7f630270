/- Layer 3 in plain Lean: what a node is of (Rc), marked sets (Mk3). -/
import Derived.Test.YtdalnhhenahcjaaNodeR
namespace Go.Proofs.Ytdalnhhenahcjaa.NP
/-- node j is of node k -/
inductive Rc (l : List Nd) : Nat → Nat → Prop
  | here (k : Nat) : Rc l k k
  | low {k j : Nat} : 2 ≤ k → Rc l (nd l k).low j → Rc l k j
  | high {k j : Nat} : 2 ≤ k → Rc l (nd l k).high j → Rc l k j
/-- a set of nodes that has, of each that asks a variable from v on, what it goes on to -/
structure Cl (S : NS) (s : Nat → Bool) (v : Nat) : Prop where
  is : ∀ j, s j = true → isB S.l j = true
  kids : ∀ j, s j = true → 2 ≤ j → v ≤ (nd S.l j).v → s (nd S.l j).low = true ∧ s (nd S.l j).high = true
theorem Rc.isB {S : NS} (h : Wf S) {k j : Nat} (hr : Rc S.l k j) : isB S.l k = true → isB S.l j = true := by
  induction hr with
  | here => exact id
  | low h2 _ ih => exact fun hk => ih (h.kid _ h2 hk).2.2.1
  | high h2 _ ih => exact fun hk => ih (h.kid _ h2 hk).2.2.2.1
theorem Rc.trans {l : List Nd} {a b c : Nat} (h : Rc l a b) (k : Rc l b c) : Rc l a c := by
  induction h with
  | here => exact k
  | low h2 _ ih => exact .low h2 (ih k)
  | high h2 _ ih => exact .high h2 (ih k)
/-- what is of a marked node is marked -/
theorem Cl.rc {S : NS} (hW : Wf S) {s : Nat → Bool} {v : Nat} (h : Cl S s v) {k j : Nat} (hr : Rc S.l k j) : s k = true → v ≤ (nd S.l k).v → s j = true := by
  induction hr with
  | here => exact fun a _ => a
  | low h2 _ ih =>
    intro hs hv
    obtain ⟨a, _⟩ := h.kids _ hs h2 hv
    have := (hW.kid _ h2 (h.is _ hs)).2.2.2.2.1
    exact ih a (by omega)
  | high h2 _ ih =>
    intro hs hv
    obtain ⟨_, a⟩ := h.kids _ hs h2 hv
    have := (hW.kid _ h2 (h.is _ hs)).2.2.2.2.2
    exact ih a (by omega)
/-- s' is s with all that k is of -/
def Adds (l : List Nd) (k : Nat) (s s' : Nat → Bool) : Prop := ∀ j, s' j = true ↔ s j = true ∨ Rc l k j
def setB (s : Nat → Bool) (k : Nat) : Nat → Bool := fun j => s j || j == k
theorem Adds.cl {S : NS} (hW : Wf S) {k v : Nat} {s s' : Nat → Bool} (ha : Adds S.l k s s') (hk : NP.isB S.l k = true) (h : Cl S s v) : Cl S s' v := by
  refine ⟨fun j hj => ?_, fun j hj h2 hv => ?_⟩
  · rcases (ha j).1 hj with h1 | h1
    · exact h.is j h1
    · exact h1.isB hW hk
  · rcases (ha j).1 hj with h1 | h1
    · obtain ⟨a, b⟩ := h.kids j h1 h2 hv
      exact ⟨(ha _).2 (.inl a), (ha _).2 (.inl b)⟩
    · exact ⟨(ha _).2 (.inr (h1.trans (.low h2 (.here _)))), (ha _).2 (.inr (h1.trans (.high h2 (.here _))))⟩
/-- k marked already -/
theorem Adds.same {S : NS} (hW : Wf S) {k : Nat} {s : Nat → Bool} (h : Cl S s (nd S.l k).v) (hk : s k = true) : Adds S.l k s s := fun _ =>
  ⟨fun a => .inl a, fun a => a.elim id fun b => h.rc hW b hk (Nat.le_refl _)⟩
/-- a leaf -/
theorem Adds.leaf {S : NS} {k : Nat} {s : Nat → Bool} (hk : k < 2) : Adds S.l k s (setB s k) := fun j => by
  unfold setB
  constructor
  · intro h
    simp at h
    rcases h with h | h
    · exact .inl h
    · subst h; exact .inr (.here _)
  · rintro (h | h)
    · simp [h]
    · cases h with
      | here => simp
      | low h2 _ => omega
      | high h2 _ => omega
theorem Cl.mark {S : NS} {k v : Nat} {s : Nat → Bool} (h : Cl S s (nd S.l k).v) (hk : NP.isB S.l k = true) (hv : (nd S.l k).v < v) : Cl S (setB s k) v := by
  refine ⟨fun j hj => ?_, fun j hj h2 hvj => ?_⟩
  · unfold setB at hj
    simp at hj
    rcases hj with hj | rfl
    · exact h.is j hj
    · exact hk
  · have hne : j ≠ k := by rintro rfl; omega
    unfold setB at hj ⊢
    simp [hne] at hj
    obtain ⟨a, b⟩ := h.kids j hj h2 (by omega)
    simp [a, b]
/-- k, then its low, then its high -/
theorem Adds.node {S : NS} {k : Nat} {s s2 s3 : Nat → Bool} (h2 : 2 ≤ k) (ha : Adds S.l (nd S.l k).low (setB s k) s2) (hb : Adds S.l (nd S.l k).high s2 s3) : Adds S.l k s s3 := fun j => by
  rw [hb j, ha j]
  unfold setB
  constructor
  · rintro ((h | h) | h)
    · simp at h
      rcases h with h | rfl
      · exact .inl h
      · exact .inr (.here _)
    · exact .inr (.low h2 h)
    · exact .inr (.high h2 h)
  · rintro (h | h)
    · exact .inl (.inl (by simp [h]))
    · cases h with
      | here => exact .inl (.inl (by simp))
      | low _ h => exact .inl (.inr h)
      | high _ h => exact .inr h
/-- how many are marked -/
def cntS (s : Nat → Bool) (n : Nat) : Nat := (List.range n).countP s
theorem cntS_set {s : Nat → Bool} {n k : Nat} (hk : k < n) (h0 : s k = false) : cntS (setB s k) n = cntS s n + 1 := by
  unfold cntS
  induction n with
  | zero => omega
  | succ n ih =>
    rw [List.range_succ, List.countP_append, List.countP_append]
    by_cases e : k = n
    · subst e
      have : (List.range k).countP (setB s k) = (List.range k).countP s := by
        apply List.countP_congr
        intro j hj
        have : j ≠ k := by have := List.mem_range.1 hj; omega
        simp [setB, this]
      rw [this]
      simp [setB, h0]
    · rw [ih (by omega)]
      have : setB s k n = s n := by simp [setB, Ne.symm e]
      simp [List.countP_cons, this]; omega
theorem cntS_le (s : Nat → Bool) (n : Nat) : cntS s n ≤ n := by unfold cntS; exact Nat.le_trans List.countP_le_length (by simp)
theorem cntS_congr {s s' : Nat → Bool} (n : Nat) (h : ∀ j, s j = true ↔ s' j = true) : cntS s n = cntS s' n := by
  unfold cntS
  apply List.countP_congr
  intro j _
  exact h j
end Go.Proofs.Ytdalnhhenahcjaa.NP
