/- Layer 19 in plain Lean: how comp.Comps counts edges into components (inF), and that it picks what the definition picks. -/
import Derived.Test.YtbancojknahdgaaCompE
namespace Go.Proofs.Ytbancojknahdgaa.CP
/-- edges into b from other components that have no number (nu: the number and 1; 0: none) -/
def inB (cm nu : Nat → Nat) (b : Nat) (e : Nat × Nat) : Bool := cm e.2 == b && cm e.1 != b && nu (cm e.1) == 0
def inF (E : Ed) (cm nu : Nat → Nat) (b : Nat) : Nat := (E.filter (inB cm nu b)).length
theorem inF_snoc (E : Ed) (cm nu : Nat → Nat) (b : Nat) (e : Nat × Nat) : inF (E ++ [e]) cm nu b = inF E cm nu b + (if inB cm nu b e then 1 else 0) := by
  unfold inF
  rw [List.filter_append, List.length_append]
  cases h : inB cm nu b e <;> simp [h]
theorem inF_le (E : Ed) (cm nu : Nat → Nat) (b : Nat) : inF E cm nu b ≤ E.length := List.length_filter_le _ _
/-- the first count: an edge between two components adds one to where it leads -/
theorem inF_first (E : Ed) (cm : Nat → Nat) (e : Nat × Nat) (m : Nat) : (fun b => inF (E ++ [e]) cm (fun _ => 0) b) = if cm e.1 = cm e.2 then (fun b => inF E cm (fun _ => 0) b) else fup (fun b => inF E cm (fun _ => 0) b) (cm e.2) (inF E cm (fun _ => 0) (cm e.2) + 1) := by
  have _ := m
  funext b
  rw [inF_snoc]
  by_cases h : cm e.1 = cm e.2
  · rw [if_pos h]
    have : inB cm (fun _ => 0) b e = false := by
      unfold inB
      by_cases hb : cm e.2 = b <;> simp [hb, h]
    rw [this]; simp
  · rw [if_neg h]
    by_cases hb : b = cm e.2
    · subst hb
      rw [fup_same]
      have : inB cm (fun _ => 0) (cm e.2) e = true := by unfold inB; simp [h]
      rw [this]; simp
    · rw [fup_ne _ _ hb]
      have : inB cm (fun _ => 0) b e = false := by unfold inB; simp; intro h1; exact absurd h1.symm hb
      rw [this]; simp
/-- when c gets its number, part of the edges gone through -/
def mid (D R : Ed) (cm nu nu' : Nat → Nat) (b : Nat) : Nat := inF D cm nu' b + inF R cm nu b
theorem mid_start (E : Ed) (cm nu nu' : Nat → Nat) : mid [] E cm nu nu' = inF E cm nu := by
  funext b
  unfold mid inF; simp
theorem mid_end (E : Ed) (cm nu nu' : Nat → Nat) : mid E [] cm nu nu' = inF E cm nu' := by
  funext b
  unfold mid inF; simp
theorem mid_step (D R : Ed) (cm nu : Nat → Nat) (c v : Nat) (e : Nat × Nat) (h0 : nu c = 0) (hv : v ≠ 0) :
    mid (D ++ [e]) R cm nu (fup nu c v) = if cm e.1 = c ∧ cm e.2 ≠ c then fup (mid D (e :: R) cm nu (fup nu c v)) (cm e.2) (mid D (e :: R) cm nu (fup nu c v) (cm e.2) - 1) else mid D (e :: R) cm nu (fup nu c v) := by
  have hcons : ∀ b, inF (e :: R) cm nu b = (if inB cm nu b e then 1 else 0) + inF R cm nu b := fun b => by
    unfold inF
    rw [List.filter_cons]
    split <;> simp <;> omega
  have key : ∀ b, mid (D ++ [e]) R cm nu (fup nu c v) b = inF D cm (fup nu c v) b + (if inB cm (fup nu c v) b e then 1 else 0) + inF R cm nu b := fun b => by unfold mid; rw [inF_snoc]
  have key2 : ∀ b, mid D (e :: R) cm nu (fup nu c v) b = inF D cm (fup nu c v) b + (if inB cm nu b e then 1 else 0) + inF R cm nu b := fun b => by unfold mid; rw [hcons]; omega
  by_cases h : cm e.1 = c ∧ cm e.2 ≠ c
  · rw [if_pos h]
    obtain ⟨h1, h2⟩ := h
    funext b
    by_cases hb : b = cm e.2
    · subst hb
      rw [fup_same, key, key2]
      have a1 : inB cm (fup nu c v) (cm e.2) e = false := by unfold inB; rw [h1, fup_same]; simp [hv]
      have a2 : inB cm nu (cm e.2) e = true := by unfold inB; rw [h1, h0]; simp; exact fun h => h2 h.symm
      rw [a1, a2]; simp
    · rw [fup_ne _ _ hb, key, key2]
      have a1 : inB cm (fup nu c v) b e = false := by unfold inB; simp; intro h; exact absurd h.symm hb
      have a2 : inB cm nu b e = false := by unfold inB; simp; intro h; exact absurd h.symm hb
      rw [a1, a2]
  · rw [if_neg h]
    funext b
    rw [key, key2]
    have : inB cm (fup nu c v) b e = inB cm nu b e := by
      unfold inB
      by_cases h1 : cm e.1 = c
      · have h2 : cm e.2 = c := Classical.byContradiction fun h2 => h ⟨h1, h2⟩
        rw [h1, h2]
        cases hcb : (c == b) <;> simp [bne, hcb]
      · rw [fup_ne _ _ h1]
    rw [this]
/-- the count that is lowered is not 0 -/
theorem mid_pos (D R : Ed) (cm nu nu' : Nat → Nat) (e : Nat × Nat) (h : inB cm nu (cm e.2) e = true) : 1 ≤ mid D (e :: R) cm nu nu' (cm e.2) := by
  unfold mid inF
  rw [List.filter_cons, h]
  simp; omega
/-- the walk's components -/
structure CmOk (n : Nat) (E : Ed) (cm : Nat → Nat) (m : Nat) : Prop where
  lt : ∀ v, v < n → cm v < m
  ker : ∀ u v, u < n → v < n → (cm u = cm v ↔ both E u v = true)
  hit : ∀ c, c < m → ∃ v, v < n ∧ cm v = c
/-- the numbers by components are the numbers by nodes -/
structure NuOk (n : Nat) (E : Ed) (cm : Nat → Nat) (m j : Nat) (nu : Nat → Nat) : Prop where
  eq : ∀ v, v < n → numF n E (both E) j v = nu (cm v)
  cnt : cn (fun c => nu c != 0) m = j
  le : ∀ c, nu c ≤ j
section
variable {n : Nat} {E : Ed} {cm : Nat → Nat} {m : Nat}
theorem NuOk.zero (n : Nat) (E : Ed) (cm : Nat → Nat) (m : Nat) : NuOk n E cm m 0 fun _ => 0 := by
  refine ⟨fun _ _ => rfl, ?_, fun _ => Nat.le_refl _⟩
  show cn (fun _ => false) m = 0
  induction m with
  | zero => rfl
  | succ n ih => unfold cn; rw [ih]; rfl
theorem free_in (hC : CmOk n E cm m) (hE : EdOk E n) {j : Nat} {nu : Nat → Nat} (h : NuOk n E cm m j nu) {k : Nat} (hk : k < n) : freeB E (both E) (numF n E (both E) j) k = (inF E cm nu (cm k) == 0) := by
  refine Bool.eq_iff_iff.2 ?_
  unfold freeB inF
  rw [List.all_eq_true]
  simp only [beq_iff_eq, List.length_eq_zero_iff, List.filter_eq_nil_iff]
  have key : ∀ e ∈ E, (!both E e.2 k || both E e.1 k || numF n E (both E) j e.1 != 0) = !(inB cm nu (cm k) e) := fun e he => by
    obtain ⟨h1, h2⟩ := hE e he
    have a1 : both E e.2 k = (cm e.2 == cm k) := by
      refine Bool.eq_iff_iff.2 ?_
      rw [beq_iff_eq]
      exact (hC.ker _ _ h2 hk).symm
    have a2 : both E e.1 k = (cm e.1 == cm k) := by
      refine Bool.eq_iff_iff.2 ?_
      rw [beq_iff_eq]
      exact (hC.ker _ _ h1 hk).symm
    rw [a1, a2, h.eq _ h1]
    unfold inB
    cases h3 : (cm e.2 == cm k) <;> cases h4 : (cm e.1 == cm k) <;> simp [h4, bne]
  constructor
  · intro hh e he
    have := hh e he
    rw [key e he] at this
    simpa using this
  · intro hh e he
    rw [key e he]
    have := hh e he
    simpa using this
theorem pick_in (hC : CmOk n E cm m) (hE : EdOk E n) {j : Nat} {nu : Nat → Nat} (h : NuOk n E cm m j nu) {k : Nat} (hk : k < n) (h0 : nu (cm k) = 0) (hf : inF E cm nu (cm k) = 0) (hl : ∀ i, i < k → ¬ (nu (cm i) = 0 ∧ inF E cm nu (cm i) = 0)) : pick n E (both E) (numF n E (both E) j) = some k :=
  pick_eq hk (by rw [h.eq k hk]; exact h0) (by rw [free_in hC hE h hk, hf]; rfl) fun i hi hh => hl i hi ⟨by rw [← h.eq i (by omega)]; exact hh.1, by
    have := hh.2
    rw [free_in hC hE h (by omega)] at this
    simpa using this⟩
theorem some_in (hC : CmOk n E cm m) (hE : EdOk E n) {j : Nat} {nu : Nat → Nat} (h : NuOk n E cm m j nu) (hj : j < m) : ∃ k, k < n ∧ nu (cm k) = 0 ∧ inF E cm nu (cm k) = 0 := by
  obtain ⟨c, hc, h0⟩ := cn_gap (p := fun c => nu c != 0) (n := m) (by rw [h.cnt]; exact hj)
  obtain ⟨v, hv, rfl⟩ := hC.hit c hc
  have hI := numI hE j
  obtain ⟨k, hk⟩ := pick_ex hE hI.cls ⟨v, hv, by rw [h.eq v hv]; simpa using h0⟩
  obtain ⟨h1, h2, h3, _⟩ := pick_some hk
  rw [free_in hC hE h h1] at h3
  exact ⟨k, h1, by rw [← h.eq k h1]; exact h2, by simpa using h3⟩
theorem NuOk.next (hC : CmOk n E cm m) {j : Nat} {nu : Nat → Nat} (h : NuOk n E cm m j nu) {k : Nat} (hk : k < n) (h0 : nu (cm k) = 0) (hp : pick n E (both E) (numF n E (both E) j) = some k) : NuOk n E cm m (j + 1) (fup nu (cm k) (j + 1)) := by
  refine ⟨fun v hv => ?_, ?_, fun c => ?_⟩
  · show stp n E (both E) j (numF n E (both E) j) v = _
    unfold stp
    rw [hp]
    show (if both E v k then j + 1 else numF n E (both E) j v) = _
    by_cases e : cm v = cm k
    · rw [e, fup_same, if_pos ((hC.ker v k hv hk).1 e)]
    · rw [fup_ne _ _ e, if_neg (fun hh => e ((hC.ker v k hv hk).2 hh)), h.eq v hv]
  · have e : (fun c => fup nu (cm k) (j + 1) c != 0) = fup (fun c => nu c != 0) (cm k) true := by
      funext c
      by_cases e : c = cm k
      · subst e; rw [fup_same, fup_same]; simp
      · rw [fup_ne _ _ e, fup_ne _ _ e]
    rw [e, cn_fup (by simp [h0]) (hC.lt k hk), h.cnt]
  · by_cases e : c = cm k
    · subst e; rw [fup_same]; exact Nat.le_refl _
    · rw [fup_ne _ _ e]; have := h.le c; omega
theorem NuOk.done (hE : EdOk E n) (hC : CmOk n E cm m) {nu : Nat → Nat} (h : NuOk n E cm m m nu) {v : Nat} (hv : v < n) : nu (cm v) ≠ 0 ∧ nu (cm v) - 1 = cmp n E v := by
  have hall : ∀ v, v < n → numF n E (both E) m v ≠ 0 := fun v hv => by
    rw [h.eq v hv]
    have := cn_full (p := fun c => nu c != 0) h.cnt (cm v) (hC.lt v hv)
    simpa using this
  refine ⟨by rw [← h.eq v hv]; exact hall v hv, ?_⟩
  rw [← h.eq v hv]
  exact cmp_of hE hall v
end
end Go.Proofs.Ytbancojknahdgaa.CP
