/- Layer 20 in plain Lean: how many contexts each component has, and what each edge adds. -/
import Derived.Test.YtbancojknahdgaaCompU
namespace Go.Proofs.Ytbancojknahdgaa.CP
section
variable (fc tc : Nat → Nat)
/-- of the first i edges those that lead into component k from another one -/
def inL (k i : Nat) : List Nat := (List.range i).filter fun j => tc j == k && fc j != k
def lsum (cn : Nat → Nat) (l : List Nat) : Nat := (l.map fun j => cn (fc j)).sum
/-- how many contexts the components have, behind so many rounds -/
def cntF (L mc : Nat) : Nat → Nat → Nat
  | 0 => fun _ => 0
  | k + 1 => fup (cntF L mc k) k ((if k = mc then 1 else 0) + lsum fc (cntF L mc k) (inL fc tc k L))
/-- what an edge adds -/
def addF (L mc m i : Nat) : Nat := if fc i = tc i ∨ cntF fc tc L mc m (fc i) = 0 then 0 else (if tc i = mc then 1 else 0) + lsum fc (cntF fc tc L mc m) (inL fc tc (tc i) i)
end
variable {fc tc : Nat → Nat} {L mc m : Nat}
theorem inL_next (fc tc : Nat → Nat) (k i : Nat) : inL fc tc k (i + 1) = inL fc tc k i ++ (if tc i = k ∧ fc i ≠ k then [i] else []) := by
  unfold inL
  rw [List.range_succ, List.filter_append]
  congr 1
  by_cases h : tc i = k ∧ fc i ≠ k
  · rw [if_pos h]; simp [h.1, h.2]
  · rw [if_neg h]
    simp only [List.filter_cons, List.filter_nil]
    rw [if_neg (by simpa using h)]
theorem mem_inL {k i j : Nat} : j ∈ inL fc tc k i ↔ j < i ∧ tc j = k ∧ fc j ≠ k := by
  unfold inL
  rw [List.mem_filter, List.mem_range]
  simp
theorem inL_at {k j : Nat} : ∀ {i p : Nat}, (inL fc tc k i)[p]? = some j → inL fc tc k j = (inL fc tc k i).take p
  | 0, p, h => by simp [inL] at h
  | i + 1, p, h => by
    rw [inL_next] at h ⊢
    rcases Nat.lt_or_ge p (inL fc tc k i).length with hp | hp
    · rw [List.getElem?_append_left hp] at h
      rw [List.take_append_of_le_length (Nat.le_of_lt hp)]
      exact inL_at h
    · rw [List.getElem?_append_right hp] at h
      by_cases hc : tc i = k ∧ fc i ≠ k
      · rw [if_pos hc] at h ⊢
        have hp0 : p - (inL fc tc k i).length = 0 := by
          rcases Nat.eq_zero_or_pos (p - (inL fc tc k i).length) with h0 | h0
          · exact h0
          · rw [List.getElem?_eq_none (by simp; omega)] at h; cases h
        rw [hp0] at h
        simp at h
        subst h
        rw [show p = (inL fc tc k i).length from by omega, List.take_left]
      · rw [if_neg hc] at h; simp at h
theorem lsum_nil (fc cn : Nat → Nat) : lsum fc cn [] = 0 := rfl
theorem lsum_app (fc cn : Nat → Nat) (l l' : List Nat) : lsum fc cn (l ++ l') = lsum fc cn l + lsum fc cn l' := by unfold lsum; simp
theorem lsum_one (fc cn : Nat → Nat) (j : Nat) : lsum fc cn [j] = cn (fc j) := by unfold lsum; simp
theorem lsum_congr {cn cn' : Nat → Nat} : ∀ {l : List Nat}, (∀ j ∈ l, cn (fc j) = cn' (fc j)) → lsum fc cn l = lsum fc cn' l
  | [], _ => rfl
  | a :: l, h => by
    have := lsum_congr (l := l) fun j hj => h j (by simp [hj])
    unfold lsum at this ⊢
    simp [this, h a (by simp)]
theorem lsum_take (fc cn : Nat → Nat) (l : List Nat) (p : Nat) : lsum fc cn (l.take p) ≤ lsum fc cn l := by
  have h : lsum fc cn l = lsum fc cn (l.take p ++ l.drop p) := by rw [List.take_append_drop]
  rw [h, lsum_app]; omega
theorem lsum_step {cn : Nat → Nat} {l : List Nat} {p j : Nat} (h : l[p]? = some j) : lsum fc cn (l.take (p + 1)) = lsum fc cn (l.take p) + cn (fc j) := by
  rw [List.take_add_one, h, lsum_app]
  show _ + lsum fc cn [j] = _
  rw [lsum_one]
theorem cntF_zero : ∀ {k c : Nat}, k ≤ c → cntF fc tc L mc k c = 0
  | 0, _, _ => rfl
  | k + 1, c, h => by
    show fup _ k _ c = 0
    rw [fup_ne _ _ (by omega)]
    exact cntF_zero (by omega)
theorem cntF_old {k c : Nat} (h : c < k) : ∀ d, cntF fc tc L mc (k + d) c = cntF fc tc L mc k c
  | 0 => rfl
  | d + 1 => by
    show fup _ (k + d) _ c = _
    rw [fup_ne _ _ (by omega)]
    exact cntF_old h d
theorem cntF_keep {k c : Nat} (h : c < k) (hk : k ≤ m) : cntF fc tc L mc m c = cntF fc tc L mc k c := by
  have := cntF_old (fc := fc) (tc := tc) (L := L) (mc := mc) h (m - k)
  rw [show k + (m - k) = m from by omega] at this; exact this
/-- edges lead up -/
def Up (fc tc : Nat → Nat) (L m : Nat) : Prop := ∀ i, i < L → fc i ≤ tc i ∧ tc i < m
theorem Up.lt (h : Up fc tc L m) {k i j : Nat} (hi : i ≤ L) (hj : j ∈ inL fc tc k i) : fc j < k := by
  obtain ⟨h1, h2, h3⟩ := mem_inL.1 hj
  have := (h j (by omega)).1
  omega
theorem lsum_old (h : Up fc tc L m) {k i : Nat} (hi : i ≤ L) (hk : k ≤ m) : lsum fc (cntF fc tc L mc m) (inL fc tc k i) = lsum fc (cntF fc tc L mc k) (inL fc tc k i) :=
  lsum_congr fun _ hj => cntF_keep (h.lt hi hj) hk
theorem cnt_eq (h : Up fc tc L m) {k : Nat} (hk : k < m) : cntF fc tc L mc m k = (if k = mc then 1 else 0) + lsum fc (cntF fc tc L mc m) (inL fc tc k L) := by
  rw [lsum_old h (Nat.le_refl _) (by omega), cntF_keep (k := k + 1) (by omega) (by omega)]
  show fup _ k _ k = _
  rw [fup_same]
/-- what the edges before add, and the edge itself, is not above the count -/
theorem add_le (h : Up fc tc L m) {i : Nat} (hi : i < L) (hne : fc i ≠ tc i) (h0 : cntF fc tc L mc m (fc i) ≠ 0) : addF fc tc L mc m i + cntF fc tc L mc m (fc i) ≤ cntF fc tc L mc m (tc i) := by
  unfold addF
  rw [if_neg (by intro h; rcases h with h | h; exact hne h; exact h0 h)]
  rw [cnt_eq h (h i hi).2]
  have hm : i ∈ inL fc tc (tc i) L := mem_inL.2 ⟨hi, rfl, hne⟩
  obtain ⟨p, hp⟩ := List.getElem?_of_mem hm
  rw [inL_at hp]
  have h1 := lsum_step (fc := fc) (cn := cntF fc tc L mc m) hp
  have h2 := lsum_take fc (cntF fc tc L mc m) (inL fc tc (tc i) L) (p + 1)
  omega
/-- two edges into one component: what the later one adds is at least what the earlier one adds and brings -/
theorem add_later {i j : Nat} (hij : i < j) (ht : tc i = tc j) (hi : fc i ≠ tc i) (hj : fc j ≠ tc j) (h0 : cntF fc tc L mc m (fc i) ≠ 0) (h1 : cntF fc tc L mc m (fc j) ≠ 0) :
    addF fc tc L mc m i + cntF fc tc L mc m (fc i) ≤ addF fc tc L mc m j := by
  have e1 : addF fc tc L mc m i = (if tc j = mc then 1 else 0) + lsum fc (cntF fc tc L mc m) (inL fc tc (tc j) i) := by
    unfold addF
    rw [if_neg (by intro h; rcases h with h | h; exact hi h; exact h0 h), ht]
  have e2 : addF fc tc L mc m j = (if tc j = mc then 1 else 0) + lsum fc (cntF fc tc L mc m) (inL fc tc (tc j) j) := by
    unfold addF
    rw [if_neg (by intro h; rcases h with h | h; exact hj h; exact h1 h)]
  have hm : i ∈ inL fc tc (tc j) j := mem_inL.2 ⟨hij, ht, by rw [← ht]; exact hi⟩
  obtain ⟨p, hp⟩ := List.getElem?_of_mem hm
  rw [e1, e2, inL_at hp]
  have h1 := lsum_step (fc := fc) (cn := cntF fc tc L mc m) hp
  have h2 := lsum_take fc (cntF fc tc L mc m) (inL fc tc (tc j) j) (p + 1)
  omega
/-- may all contexts be numbered? -/
def fits (fc tc : Nat → Nat) (L mc m most : Nat) : Bool := (List.range m).all fun c => decide (cntF fc tc L mc m c ≤ most)
theorem fits_no {most k : Nat} (hk : k < m) (h : most < cntF fc tc L mc m k) : fits fc tc L mc m most = false := by
  unfold fits
  rw [List.all_eq_false]
  exact ⟨k, List.mem_range.2 hk, by simpa using h⟩
theorem fits_yes {most : Nat} (h : ∀ k, k < m → cntF fc tc L mc m k ≤ most) : fits fc tc L mc m most = true := by
  unfold fits
  rw [List.all_eq_true]
  intro k hk
  simpa using h k (List.mem_range.1 hk)
theorem fits_of {most : Nat} (h : fits fc tc L mc m most = true) {k : Nat} (hk : k < m) : cntF fc tc L mc m k ≤ most := by
  have := List.all_eq_true.1 h k (List.mem_range.2 hk)
  simpa using this
/-- the counts in memory in round k, behind so many edges into it: the reference's -/
def rcnt (fc tc : Nat → Nat) (L mc k x : Nat) : Nat → Nat := fup (cntF fc tc L mc k) k x
/-- what the edges add, as far as they are told -/
def addT (fc tc : Nat → Nat) (L mc m k i j : Nat) : Nat := if tc j < k ∨ (tc j = k ∧ j < i) then addF fc tc L mc m j else 0
theorem addT_zero (fc tc : Nat → Nat) (L mc m : Nat) : addT fc tc L mc m 0 0 = fun _ => 0 := by funext j; unfold addT; rw [if_neg (by omega)]
theorem addT_round (fc tc : Nat → Nat) (L mc m k : Nat) {j : Nat} (hj : j < L) : addT fc tc L mc m k L j = addT fc tc L mc m (k + 1) 0 j := by
  unfold addT
  by_cases h : tc j < k ∨ (tc j = k ∧ j < L)
  · rw [if_pos h, if_pos (by omega)]
  · rw [if_neg h, if_neg (by omega)]
theorem addT_still {k i : Nat} (h : ¬ (tc i = k ∧ fc i ≠ k ∧ cntF fc tc L mc m (fc i) ≠ 0)) : addT fc tc L mc m k (i + 1) = addT fc tc L mc m k i := by
  funext j
  unfold addT
  by_cases e : j = i
  · subst e
    by_cases h2 : tc j = k
    · rw [if_pos (by omega), if_neg (by omega)]
      unfold addF
      rw [if_pos]
      by_cases h3 : fc j = tc j
      · exact .inl h3
      · refine .inr (Classical.byContradiction fun h4 => h ⟨h2, by rw [← h2]; exact h3, h4⟩)
    · by_cases h5 : tc j < k
      · rw [if_pos (.inl h5), if_pos (.inl h5)]
      · rw [if_neg (by omega), if_neg (by omega)]
  · by_cases h2 : tc j < k ∨ (tc j = k ∧ j < i)
    · rw [if_pos (by omega), if_pos h2]
    · rw [if_neg (by omega), if_neg h2]
theorem addT_put {k i : Nat} (h1 : tc i = k) (h2 : fc i ≠ k) (h3 : cntF fc tc L mc m (fc i) ≠ 0) : addT fc tc L mc m k (i + 1) = fup (addT fc tc L mc m k i) i ((if k = mc then 1 else 0) + lsum fc (cntF fc tc L mc m) (inL fc tc k i)) := by
  funext j
  by_cases e : j = i
  · subst e
    rw [fup_same]
    unfold addT
    rw [if_pos (by omega)]
    unfold addF
    rw [if_neg (by rw [h1]; intro h; rcases h with h | h; exact h2 h; exact h3 h), h1]
  · rw [fup_ne _ _ e]
    unfold addT
    by_cases h2 : tc j < k ∨ (tc j = k ∧ j < i)
    · rw [if_pos (by omega), if_pos h2]
    · rw [if_neg (by omega), if_neg h2]
theorem addT_all (h : Up fc tc L m) {j : Nat} (hj : j < L) : addT fc tc L mc m m 0 j = addF fc tc L mc m j := by
  unfold addT
  rw [if_pos (.inl (h j hj).2)]
end Go.Proofs.Ytbancojknahdgaa.CP
