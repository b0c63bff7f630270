/- Layer 20 in plain Lean: clone.Number's counts and edges' numbers in memory, round by round. -/
import Derived.Test.YtbancojknahdgaaCloneR
namespace Go.Proofs.Ytbancojknahdgaa.CP
variable {fc tc : Nat → Nat} {L mc m : Nat}
/-- the counts, behind so many edges into component c -/
def pcnt (fc tc : Nat → Nat) (L mc m c q : Nat) (v : Nat) : Nat :=
  if v < c then cntF fc tc L mc m v else if v = c then (if c = mc then 1 else 0) + lsum fc (cntF fc tc L mc m) ((inL fc tc c L).take q) else if v = mc then 1 else 0
/-- what the edges add, as far as they are told -/
def padd (fc tc : Nat → Nat) (L mc m c q : Nat) (j : Nat) : Nat := if tc j < c ∨ j ∈ (inL fc tc c L).take q then addF fc tc L mc m j else 0
theorem pcnt_start : pcnt fc tc L mc m 0 0 = fun v => if v = mc then 1 else 0 := by
  funext v
  unfold pcnt
  by_cases h : v = 0
  · subst h; simp [lsum_nil]
  · simp [h]
theorem pcnt_next (h : Up fc tc L m) {c : Nat} (hc : c < m) : pcnt fc tc L mc m c (inL fc tc c L).length = pcnt fc tc L mc m (c + 1) 0 := by
  funext v
  unfold pcnt
  rw [List.take_length, List.take_zero, lsum_nil, ← cnt_eq h hc]
  by_cases h1 : v < c
  · have h2 : v < c + 1 := by omega
    simp only [h1, h2, if_true]
  · by_cases h2 : v = c
    · subst h2; simp
    · have h3 : ¬ v < c + 1 := by omega
      simp only [h1, h2, h3, if_false]
      by_cases h4 : v = c + 1
      · subst h4; simp
      · simp only [h4, if_false]
theorem pcnt_old {c q v : Nat} (h : v < c) : pcnt fc tc L mc m c q v = cntF fc tc L mc m v := by unfold pcnt; rw [if_pos h]
theorem pcnt_at (c q : Nat) : pcnt fc tc L mc m c q c = (if c = mc then 1 else 0) + lsum fc (cntF fc tc L mc m) ((inL fc tc c L).take q) := by unfold pcnt; rw [if_neg (Nat.lt_irrefl _), if_pos rfl]
theorem pcnt_step {c q j : Nat} (hj : (inL fc tc c L)[q]? = some j) : pcnt fc tc L mc m c (q + 1) = fup (pcnt fc tc L mc m c q) c (pcnt fc tc L mc m c q c + cntF fc tc L mc m (fc j)) := by
  funext v
  by_cases h2 : v = c
  · subst h2
    rw [fup_same, pcnt_at, pcnt_at, lsum_step hj]; omega
  · rw [fup_ne _ _ h2]
    unfold pcnt
    by_cases h1 : v < c
    · rw [if_pos h1, if_pos h1]
    · rw [if_neg h1, if_neg h1, if_neg h2, if_neg h2]
theorem pcnt_skip {c q j : Nat} (hj : (inL fc tc c L)[q]? = some j) (h0 : cntF fc tc L mc m (fc j) = 0) : pcnt fc tc L mc m c (q + 1) = pcnt fc tc L mc m c q := by
  rw [pcnt_step hj, h0, Nat.add_zero]
  funext v
  by_cases e : v = c
  · subst e; rw [fup_same]
  · rw [fup_ne _ _ e]
/-- a count on the way is not above the count -/
theorem pcnt_le (h : Up fc tc L m) {c q j : Nat} (hc : c < m) (hj : (inL fc tc c L)[q]? = some j) : pcnt fc tc L mc m c q c + cntF fc tc L mc m (fc j) ≤ cntF fc tc L mc m c := by
  rw [pcnt_at, cnt_eq h hc]
  have h1 := lsum_step (fc := fc) (cn := cntF fc tc L mc m) hj
  have h2 := lsum_take fc (cntF fc tc L mc m) (inL fc tc c L) (q + 1)
  omega
theorem pcnt_all (h : Up fc tc L m) (hmc : mc < m) {v : Nat} (hv : v < m) : pcnt fc tc L mc m m 0 v = cntF fc tc L mc m v := pcnt_old hv
theorem padd_start {j : Nat} : padd fc tc L mc m 0 0 j = 0 := by unfold padd; rw [List.take_zero, if_neg]; simp
theorem padd_next {c j : Nat} (hj : j < L) : padd fc tc L mc m c (inL fc tc c L).length j = padd fc tc L mc m (c + 1) 0 j := by
  unfold padd
  rw [List.take_length, List.take_zero]
  by_cases h : tc j < c + 1
  · have e2 : tc j < c + 1 ∨ j ∈ ([] : List Nat) := .inl h
    by_cases h1 : tc j < c ∨ j ∈ inL fc tc c L
    · rw [if_pos h1]; exact (if_pos e2).symm
    · rw [if_neg h1]
      refine Eq.symm ((if_pos e2).trans ?_)
      unfold addF
      exact if_pos (.inl (Classical.byContradiction fun hne => h1 (.inr (mem_inL.2 ⟨hj, by omega, fun e => hne (by omega)⟩))))
  · have e2 : ¬ (tc j < c + 1 ∨ j ∈ ([] : List Nat)) := by simp; omega
    have e1 : ¬ (tc j < c ∨ j ∈ inL fc tc c L) := by
      rintro (h1 | h1)
      · omega
      · have := (mem_inL.1 h1).2.1; omega
    rw [if_neg e1]; exact (if_neg e2).symm
theorem inL_nodup (fc tc : Nat → Nat) (c i : Nat) : (inL fc tc c i).Nodup := by
  unfold inL; exact List.Pairwise.filter _ List.nodup_range
theorem padd_step {c q j : Nat} (hj : (inL fc tc c L)[q]? = some j) (h0 : cntF fc tc L mc m (fc j) ≠ 0) : padd fc tc L mc m c (q + 1) = fup (padd fc tc L mc m c q) j (pcnt fc tc L mc m c q c) := by
  obtain ⟨h1, h2, h3⟩ := mem_inL.1 (List.mem_of_getElem? hj)
  have e : (inL fc tc c L).take (q + 1) = (inL fc tc c L).take q ++ [j] := by rw [List.take_add_one, hj]; rfl
  funext v
  by_cases hv : v = j
  · subst hv
    rw [fup_same, pcnt_at]
    unfold padd
    rw [e, if_pos (by simp)]
    unfold addF
    rw [if_neg (by intro h; rcases h with h | h; exact h3 (by omega); exact h0 h), h2, inL_at hj]
  · rw [fup_ne _ _ hv]
    unfold padd
    rw [e]
    by_cases h4 : tc v < c ∨ v ∈ (inL fc tc c L).take q
    · rw [if_pos h4, if_pos]
      rcases h4 with h4 | h4
      · exact .inl h4
      · exact .inr (List.mem_append_left _ h4)
    · rw [if_neg h4, if_neg]
      rintro (h5 | h5)
      · exact h4 (.inl h5)
      · rcases List.mem_append.1 h5 with h5 | h5
        · exact h4 (.inr h5)
        · simp at h5; exact hv h5
theorem padd_skip {c q j : Nat} (hj : (inL fc tc c L)[q]? = some j) (h0 : cntF fc tc L mc m (fc j) = 0) : padd fc tc L mc m c (q + 1) = padd fc tc L mc m c q := by
  have e : (inL fc tc c L).take (q + 1) = (inL fc tc c L).take q ++ [j] := by rw [List.take_add_one, hj]; rfl
  funext v
  unfold padd
  rw [e]
  by_cases h4 : tc v < c ∨ v ∈ (inL fc tc c L).take q
  · rw [if_pos h4, if_pos]
    rcases h4 with h4 | h4
    · exact .inl h4
    · exact .inr (List.mem_append_left _ h4)
  · rw [if_neg h4]
    by_cases hv : v = j
    · subst hv
      rw [if_pos (by simp)]
      unfold addF
      rw [if_pos (.inr h0)]
    · rw [if_neg]
      rintro (h5 | h5)
      · exact h4 (.inl h5)
      · rcases List.mem_append.1 h5 with h5 | h5
        · exact h4 (.inr h5)
        · simp at h5; exact hv h5
theorem padd_all (h : Up fc tc L m) {j : Nat} (hj : j < L) : padd fc tc L mc m m 0 j = addF fc tc L mc m j := by
  unfold padd
  rw [if_pos (.inl (h j hj).2)]
end Go.Proofs.Ytbancojknahdgaa.CP
