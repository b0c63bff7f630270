/- Layer 20 in plain Lean: how many contexts each component has, and what each edge adds; ways and their numbers; ways told by their first edges. -/
import Derived.Test.YtbancojknahdgaaCompU
namespace Go.Proofs.Ytbancojknahdgaa.CP
section
variable (fc tc : Nat → Nat)
/-- of the first i edges those that lead into component k from another one -/
def inL (k i : Nat) : List Nat := (List.range i).filter fun j => tc j == k && fc j != k
def lsum (cn : Nat → Nat) (l : List Nat) : Nat := (l.map fun j => cn (fc j)).sum
/-- how many contexts the components have, behind so many rounds -/
def cntF (L mc : Nat) : Nat → Nat → Nat
  | 0 => fun _ => 0
  | k + 1 => fup (cntF L mc k) k ((if k = mc then 1 else 0) + lsum fc (cntF L mc k) (inL fc tc k L))
/-- what an edge adds -/
def addF (L mc m i : Nat) : Nat := if fc i = tc i ∨ cntF fc tc L mc m (fc i) = 0 then 0 else (if tc i = mc then 1 else 0) + lsum fc (cntF fc tc L mc m) (inL fc tc (tc i) i)
end
variable {fc tc : Nat → Nat} {L mc m : Nat}
theorem inL_next (fc tc : Nat → Nat) (k i : Nat) : inL fc tc k (i + 1) = inL fc tc k i ++ (if tc i = k ∧ fc i ≠ k then [i] else []) := by
  unfold inL
  rw [List.range_succ, List.filter_append]
  congr 1
  by_cases h : tc i = k ∧ fc i ≠ k
  · rw [if_pos h]; simp [h.1, h.2]
  · rw [if_neg h]
    simp only [List.filter_cons, List.filter_nil]
    rw [if_neg (by simpa using h)]
theorem mem_inL {k i j : Nat} : j ∈ inL fc tc k i ↔ j < i ∧ tc j = k ∧ fc j ≠ k := by
  unfold inL
  rw [List.mem_filter, List.mem_range]
  simp
theorem inL_at {k j : Nat} : ∀ {i p : Nat}, (inL fc tc k i)[p]? = some j → inL fc tc k j = (inL fc tc k i).take p
  | 0, p, h => by simp [inL] at h
  | i + 1, p, h => by
    rw [inL_next] at h ⊢
    rcases Nat.lt_or_ge p (inL fc tc k i).length with hp | hp
    · rw [List.getElem?_append_left hp] at h
      rw [List.take_append_of_le_length (Nat.le_of_lt hp)]
      exact inL_at h
    · rw [List.getElem?_append_right hp] at h
      by_cases hc : tc i = k ∧ fc i ≠ k
      · rw [if_pos hc] at h ⊢
        have hp0 : p - (inL fc tc k i).length = 0 := by
          rcases Nat.eq_zero_or_pos (p - (inL fc tc k i).length) with h0 | h0
          · exact h0
          · rw [List.getElem?_eq_none (by simp; omega)] at h; cases h
        rw [hp0] at h
        simp at h
        subst h
        rw [show p = (inL fc tc k i).length from by omega, List.take_left]
      · rw [if_neg hc] at h; simp at h
theorem lsum_nil (fc cn : Nat → Nat) : lsum fc cn [] = 0 := rfl
theorem lsum_app (fc cn : Nat → Nat) (l l' : List Nat) : lsum fc cn (l ++ l') = lsum fc cn l + lsum fc cn l' := by unfold lsum; simp
theorem lsum_one (fc cn : Nat → Nat) (j : Nat) : lsum fc cn [j] = cn (fc j) := by unfold lsum; simp
theorem lsum_congr {cn cn' : Nat → Nat} : ∀ {l : List Nat}, (∀ j ∈ l, cn (fc j) = cn' (fc j)) → lsum fc cn l = lsum fc cn' l
  | [], _ => rfl
  | a :: l, h => by
    have := lsum_congr (l := l) fun j hj => h j (by simp [hj])
    unfold lsum at this ⊢
    simp [this, h a (by simp)]
theorem lsum_take (fc cn : Nat → Nat) (l : List Nat) (p : Nat) : lsum fc cn (l.take p) ≤ lsum fc cn l := by
  have h : lsum fc cn l = lsum fc cn (l.take p ++ l.drop p) := by rw [List.take_append_drop]
  rw [h, lsum_app]; omega
theorem lsum_step {cn : Nat → Nat} {l : List Nat} {p j : Nat} (h : l[p]? = some j) : lsum fc cn (l.take (p + 1)) = lsum fc cn (l.take p) + cn (fc j) := by
  rw [List.take_add_one, h, lsum_app]
  show _ + lsum fc cn [j] = _
  rw [lsum_one]
theorem cntF_zero : ∀ {k c : Nat}, k ≤ c → cntF fc tc L mc k c = 0
  | 0, _, _ => rfl
  | k + 1, c, h => by
    show fup _ k _ c = 0
    rw [fup_ne _ _ (by omega)]
    exact cntF_zero (by omega)
theorem cntF_old {k c : Nat} (h : c < k) : ∀ d, cntF fc tc L mc (k + d) c = cntF fc tc L mc k c
  | 0 => rfl
  | d + 1 => by
    show fup _ (k + d) _ c = _
    rw [fup_ne _ _ (by omega)]
    exact cntF_old h d
theorem cntF_keep {k c : Nat} (h : c < k) (hk : k ≤ m) : cntF fc tc L mc m c = cntF fc tc L mc k c := by
  have := cntF_old (fc := fc) (tc := tc) (L := L) (mc := mc) h (m - k)
  rw [show k + (m - k) = m from by omega] at this; exact this
/-- edges lead up -/
def Up (fc tc : Nat → Nat) (L m : Nat) : Prop := ∀ i, i < L → fc i ≤ tc i ∧ tc i < m
theorem Up.lt (h : Up fc tc L m) {k i j : Nat} (hi : i ≤ L) (hj : j ∈ inL fc tc k i) : fc j < k := by
  obtain ⟨h1, h2, h3⟩ := mem_inL.1 hj
  have := (h j (by omega)).1
  omega
theorem lsum_old (h : Up fc tc L m) {k i : Nat} (hi : i ≤ L) (hk : k ≤ m) : lsum fc (cntF fc tc L mc m) (inL fc tc k i) = lsum fc (cntF fc tc L mc k) (inL fc tc k i) :=
  lsum_congr fun _ hj => cntF_keep (h.lt hi hj) hk
theorem cnt_eq (h : Up fc tc L m) {k : Nat} (hk : k < m) : cntF fc tc L mc m k = (if k = mc then 1 else 0) + lsum fc (cntF fc tc L mc m) (inL fc tc k L) := by
  rw [lsum_old h (Nat.le_refl _) (by omega), cntF_keep (k := k + 1) (by omega) (by omega)]
  show fup _ k _ k = _
  rw [fup_same]
/-- what the edges before add, and the edge itself, is not above the count -/
theorem add_le (h : Up fc tc L m) {i : Nat} (hi : i < L) (hne : fc i ≠ tc i) (h0 : cntF fc tc L mc m (fc i) ≠ 0) : addF fc tc L mc m i + cntF fc tc L mc m (fc i) ≤ cntF fc tc L mc m (tc i) := by
  unfold addF
  rw [if_neg (by intro h; rcases h with h | h; exact hne h; exact h0 h)]
  rw [cnt_eq h (h i hi).2]
  have hm : i ∈ inL fc tc (tc i) L := mem_inL.2 ⟨hi, rfl, hne⟩
  obtain ⟨p, hp⟩ := List.getElem?_of_mem hm
  rw [inL_at hp]
  have h1 := lsum_step (fc := fc) (cn := cntF fc tc L mc m) hp
  have h2 := lsum_take fc (cntF fc tc L mc m) (inL fc tc (tc i) L) (p + 1)
  omega
/-- two edges into one component: what the later one adds is at least what the earlier one adds and brings -/
theorem add_later {i j : Nat} (hij : i < j) (ht : tc i = tc j) (hi : fc i ≠ tc i) (hj : fc j ≠ tc j) (h0 : cntF fc tc L mc m (fc i) ≠ 0) (h1 : cntF fc tc L mc m (fc j) ≠ 0) :
    addF fc tc L mc m i + cntF fc tc L mc m (fc i) ≤ addF fc tc L mc m j := by
  have e1 : addF fc tc L mc m i = (if tc j = mc then 1 else 0) + lsum fc (cntF fc tc L mc m) (inL fc tc (tc j) i) := by
    unfold addF
    rw [if_neg (by intro h; rcases h with h | h; exact hi h; exact h0 h), ht]
  have e2 : addF fc tc L mc m j = (if tc j = mc then 1 else 0) + lsum fc (cntF fc tc L mc m) (inL fc tc (tc j) j) := by
    unfold addF
    rw [if_neg (by intro h; rcases h with h | h; exact hj h; exact h1 h)]
  have hm : i ∈ inL fc tc (tc j) j := mem_inL.2 ⟨hij, ht, by rw [← ht]; exact hi⟩
  obtain ⟨p, hp⟩ := List.getElem?_of_mem hm
  rw [e1, e2, inL_at hp]
  have h1 := lsum_step (fc := fc) (cn := cntF fc tc L mc m) hp
  have h2 := lsum_take fc (cntF fc tc L mc m) (inL fc tc (tc j) j) (p + 1)
  omega
/-- may all contexts be numbered? -/
def fits (fc tc : Nat → Nat) (L mc m most : Nat) : Bool := (List.range m).all fun c => decide (cntF fc tc L mc m c ≤ most)
theorem fits_no {most k : Nat} (hk : k < m) (h : most < cntF fc tc L mc m k) : fits fc tc L mc m most = false := by
  unfold fits
  rw [List.all_eq_false]
  exact ⟨k, List.mem_range.2 hk, by simpa using h⟩
theorem fits_yes {most : Nat} (h : ∀ k, k < m → cntF fc tc L mc m k ≤ most) : fits fc tc L mc m most = true := by
  unfold fits
  rw [List.all_eq_true]
  intro k hk
  simpa using h k (List.mem_range.1 hk)
theorem fits_of {most : Nat} (h : fits fc tc L mc m most = true) {k : Nat} (hk : k < m) : cntF fc tc L mc m k ≤ most := by
  have := List.all_eq_true.1 h k (List.mem_range.2 hk)
  simpa using this
/-- the counts in memory in round k, behind so many edges into it: the reference's -/
def rcnt (fc tc : Nat → Nat) (L mc k x : Nat) : Nat → Nat := fup (cntF fc tc L mc k) k x
/-- what the edges add, as far as they are told -/
def addT (fc tc : Nat → Nat) (L mc m k i j : Nat) : Nat := if tc j < k ∨ (tc j = k ∧ j < i) then addF fc tc L mc m j else 0
theorem addT_zero (fc tc : Nat → Nat) (L mc m : Nat) : addT fc tc L mc m 0 0 = fun _ => 0 := by funext j; unfold addT; rw [if_neg (by omega)]
theorem addT_round (fc tc : Nat → Nat) (L mc m k : Nat) {j : Nat} (hj : j < L) : addT fc tc L mc m k L j = addT fc tc L mc m (k + 1) 0 j := by
  unfold addT
  by_cases h : tc j < k ∨ (tc j = k ∧ j < L)
  · rw [if_pos h, if_pos (by omega)]
  · rw [if_neg h, if_neg (by omega)]
theorem addT_still {k i : Nat} (h : ¬ (tc i = k ∧ fc i ≠ k ∧ cntF fc tc L mc m (fc i) ≠ 0)) : addT fc tc L mc m k (i + 1) = addT fc tc L mc m k i := by
  funext j
  unfold addT
  by_cases e : j = i
  · subst e
    by_cases h2 : tc j = k
    · rw [if_pos (by omega), if_neg (by omega)]
      unfold addF
      rw [if_pos]
      by_cases h3 : fc j = tc j
      · exact .inl h3
      · refine .inr (Classical.byContradiction fun h4 => h ⟨h2, by rw [← h2]; exact h3, h4⟩)
    · by_cases h5 : tc j < k
      · rw [if_pos (.inl h5), if_pos (.inl h5)]
      · rw [if_neg (by omega), if_neg (by omega)]
  · by_cases h2 : tc j < k ∨ (tc j = k ∧ j < i)
    · rw [if_pos (by omega), if_pos h2]
    · rw [if_neg (by omega), if_neg h2]
theorem addT_put {k i : Nat} (h1 : tc i = k) (h2 : fc i ≠ k) (h3 : cntF fc tc L mc m (fc i) ≠ 0) : addT fc tc L mc m k (i + 1) = fup (addT fc tc L mc m k i) i ((if k = mc then 1 else 0) + lsum fc (cntF fc tc L mc m) (inL fc tc k i)) := by
  funext j
  by_cases e : j = i
  · subst e
    rw [fup_same]
    unfold addT
    rw [if_pos (by omega)]
    unfold addF
    rw [if_neg (by rw [h1]; intro h; rcases h with h | h; exact h2 h; exact h3 h), h1]
  · rw [fup_ne _ _ e]
    unfold addT
    by_cases h2 : tc j < k ∨ (tc j = k ∧ j < i)
    · rw [if_pos (by omega), if_pos h2]
    · rw [if_neg (by omega), if_neg h2]
theorem addT_all (h : Up fc tc L m) {j : Nat} (hj : j < L) : addT fc tc L mc m m 0 j = addF fc tc L mc m j := by
  unfold addT
  rw [if_pos (.inl (h j hj).2)]
end Go.Proofs.Ytbancojknahdgaa.CP
namespace Go.Proofs.Ytbancojknahdgaa.CP
variable {fc tc : Nat → Nat} {L mc m : Nat}
theorem cnt_low (h : Up fc tc L m) (hmc : mc < m) : ∀ c, c < mc → cntF fc tc L mc m c = 0 := by
  intro c
  induction c using Nat.strongRecOn with
  | ind c ih =>
    intro hc
    rw [cnt_eq h (by omega), if_neg (by omega)]
    have e : lsum fc (cntF fc tc L mc m) (inL fc tc c L) = lsum fc (fun _ => 0) (inL fc tc c L) := lsum_congr fun j hj => by
      have := h.lt (Nat.le_refl _) hj
      exact ih _ this (by omega)
    rw [e]
    unfold lsum
    clear e
    generalize inL fc tc c L = l
    induction l with
    | nil => rfl
    | cons a l ihl => simpa using ihl
theorem cnt_main (h : Up fc tc L m) (hmc : mc < m) : cntF fc tc L mc m mc = 1 := by
  rw [cnt_eq h hmc, if_pos rfl]
  have e : lsum fc (cntF fc tc L mc m) (inL fc tc mc L) = lsum fc (fun _ => 0) (inL fc tc mc L) := lsum_congr fun j hj => cnt_low h hmc _ (h.lt (Nat.le_refl _) hj)
  rw [e]
  unfold lsum
  clear e
  generalize inL fc tc mc L = l
  induction l with
  | nil => rfl
  | cons a l ihl => simpa using ihl
section
variable (fc tc : Nat → Nat) (cn ad : Nat → Nat)
/-- may an edge be the last of a context's way? -/
def wayP (at_ ctx j : Nat) : Bool := tc j == at_ && fc j != at_ && decide (0 < cn (fc j)) && decide (ad j ≤ ctx)
/-- the last such edge among the first i -/
def lastI (at_ ctx : Nat) : Nat → Int
  | 0 => -1
  | i + 1 => if wayP fc tc cn ad at_ ctx i then (i : Int) else lastI at_ ctx i
/-- a context's way, its last edge first -/
def wayB (L mc : Nat) : Nat → Nat → Nat → List Nat
  | 0, _, _ => []
  | f + 1, at_, ctx => if at_ = mc then [] else
    let k := (lastI fc tc cn ad at_ ctx L).toNat
    k :: wayB L mc f (fc k) (ctx - ad k)
/-- the component and the number to which a way leads -/
def ctxF (L : Nat) : List Int → Nat → Nat → Option (Nat × Nat)
  | [], at_, n => some (at_, n)
  | z :: r, at_, n => if z < 0 ∨ (L : Int) ≤ z then none else if fc z.toNat ≠ at_ ∨ tc z.toNat = at_ then none else ctxF L r (tc z.toNat) (n + ad z.toNat)
end
theorem ctxF_app (fc tc ad : Nat → Nat) (L : Nat) : ∀ (a b : List Int) (x n : Nat), ctxF fc tc ad L (a ++ b) x n = (ctxF fc tc ad L a x n).bind fun p => ctxF fc tc ad L b p.1 p.2
  | [], _, _, _ => rfl
  | z :: a, b, x, n => by
    show (if _ then _ else if _ then _ else _) = Option.bind (if _ then _ else if _ then _ else _) _
    split
    · rfl
    · split
      · rfl
      · exact ctxF_app fc tc ad L a b _ _
theorem lastI_ge (fc tc cn ad : Nat → Nat) (a c : Nat) : ∀ i, -1 ≤ lastI fc tc cn ad a c i
  | 0 => Int.le_refl _
  | i + 1 => by
    unfold lastI
    split
    · exact Int.le_trans (by decide) (Int.natCast_nonneg i)
    · exact lastI_ge fc tc cn ad a c i
theorem lastI_lt (fc tc cn ad : Nat → Nat) (a c : Nat) : ∀ i, lastI fc tc cn ad a c i < (i : Int)
  | 0 => by show (-1 : Int) < ((0 : Nat) : Int); decide
  | i + 1 => by
    show (if _ then _ else _) < _
    split
    · omega
    · have := lastI_lt fc tc cn ad a c i; omega
theorem lastI_of {fc tc cn ad : Nat → Nat} {a c k : Nat} (hk : wayP fc tc cn ad a c k = true) : ∀ i, k < i → (∀ j, k < j → j < i → wayP fc tc cn ad a c j = false) → lastI fc tc cn ad a c i = (k : Int)
  | 0, h, _ => absurd h (Nat.not_lt_zero _)
  | i + 1, h, hno => by
    show (if _ then _ else _) = _
    by_cases e : k = i
    · subst e; rw [if_pos hk]
    · rw [if_neg (by rw [hno i (by omega) (by omega)]; decide)]
      exact lastI_of hk i (by omega) fun j h1 h2 => hno j h1 (by omega)
theorem cross {fc cn : Nat → Nat} {l : List Nat} {c : Nat} : ∀ q, q ≤ l.length → c < lsum fc cn (l.take q) → ∃ p k, l[p]? = some k ∧ lsum fc cn (l.take p) ≤ c ∧ c < lsum fc cn (l.take p) + cn (fc k)
  | 0, _, h => by simp [lsum] at h
  | q + 1, hq, h => by
    by_cases h2 : c < lsum fc cn (l.take q)
    · exact cross q (by omega) h2
    · obtain ⟨k, hk⟩ : ∃ k, l[q]? = some k := ⟨_, List.getElem?_eq_getElem (by omega)⟩
      rw [lsum_step hk] at h
      exact ⟨q, k, hk, by omega, h⟩
/-- a context that there is -/
def OkS (fc tc : Nat → Nat) (L mc m a c : Nat) : Prop := a < m ∧ c < cntF fc tc L mc m a
/-- the last edge of a context's way -/
theorem last_ok (h : Up fc tc L m) {a c : Nat} (hs : OkS fc tc L mc m a c) (hne : a ≠ mc) :
    ∃ k : Nat, lastI fc tc (cntF fc tc L mc m) (addF fc tc L mc m) a c L = (k : Int) ∧ k < L ∧ tc k = a ∧ fc k < a ∧ addF fc tc L mc m k ≤ c ∧ OkS fc tc L mc m (fc k) (c - addF fc tc L mc m k) := by
  obtain ⟨ha, hc⟩ := hs
  rw [cnt_eq h ha, if_neg hne, Nat.zero_add] at hc
  obtain ⟨p, k, hp, h1, h2⟩ := cross (l := inL fc tc a L) _ (Nat.le_refl _) (by rw [List.take_length]; exact hc)
  obtain ⟨hkL, hkt, hkf⟩ := mem_inL.1 (List.mem_of_getElem? hp)
  have hlt : fc k < a := by have := (h k hkL).1; omega
  have hpos : 0 < cntF fc tc L mc m (fc k) := by omega
  have had : addF fc tc L mc m k = lsum fc (cntF fc tc L mc m) ((inL fc tc a L).take p) := by
    unfold addF
    rw [if_neg (by omega), hkt, if_neg hne, Nat.zero_add, inL_at hp]
  refine ⟨k, lastI_of ?_ L hkL fun j hj hjL => ?_, hkL, hkt, hlt, by omega, by omega, by omega⟩
  · unfold wayP
    simp only [Bool.and_eq_true, decide_eq_true_eq, beq_iff_eq, bne_iff_ne]
    exact ⟨⟨⟨hkt, hkf⟩, hpos⟩, by omega⟩
  · cases hw : wayP fc tc (cntF fc tc L mc m) (addF fc tc L mc m) a c j with
    | false => rfl
    | true =>
      exfalso
      unfold wayP at hw
      simp only [Bool.and_eq_true, decide_eq_true_eq, beq_iff_eq, bne_iff_ne] at hw
      obtain ⟨⟨⟨w1, w2⟩, w3⟩, w4⟩ := hw
      have := add_later (fc := fc) (tc := tc) (L := L) (mc := mc) (m := m) hj (by rw [hkt, w1]) (by omega) (by rw [w1]; exact w2) (by omega) (by omega)
      omega
theorem wayB_lt (h : Up fc tc L m) : ∀ (f a c : Nat), OkS fc tc L mc m a c → a < f → ∀ k ∈ wayB fc tc (cntF fc tc L mc m) (addF fc tc L mc m) L mc f a c, k < L
  | 0, _, _, _, h0 => absurd h0 (Nat.not_lt_zero _)
  | f + 1, a, c, hs, hf => by
    intro k hk
    unfold wayB at hk
    by_cases e : a = mc
    · rw [if_pos e] at hk; cases hk
    · rw [if_neg e] at hk
      obtain ⟨k2, hl, h1, h2, h3, h4, h5⟩ := last_ok h hs e
      rw [hl] at hk
      simp only [Int.toNat_natCast] at hk
      rcases List.mem_cons.1 hk with rfl | hk
      · exact h1
      · exact wayB_lt h f _ _ h5 (by omega) k hk
/-- there and back -/
theorem ctx_way (h : Up fc tc L m) (hmc : mc < m) : ∀ (f a c : Nat), OkS fc tc L mc m a c → a < f →
    ctxF fc tc (addF fc tc L mc m) L ((wayB fc tc (cntF fc tc L mc m) (addF fc tc L mc m) L mc f a c).reverse.map fun k : Nat => (k : Int)) mc 0 = some (a, c)
  | 0, _, _, _, h0 => absurd h0 (Nat.not_lt_zero _)
  | f + 1, a, c, hs, hf => by
    unfold wayB
    by_cases e : a = mc
    · rw [if_pos e]
      have h1 := hs.2
      rw [e, cnt_main h hmc] at h1
      show some (mc, 0) = _
      rw [e, show c = 0 from by omega]
    · rw [if_neg e]
      obtain ⟨k, hl, h1, h2, h3, h4, h5⟩ := last_ok h hs e
      rw [hl]
      simp only [Int.toNat_natCast, List.reverse_cons, List.map_append, List.map_cons, List.map_nil]
      rw [ctxF_app, ctx_way h hmc f _ _ h5 (by omega)]
      show ctxF _ _ _ _ [(k : Int)] _ _ = _
      unfold ctxF
      rw [if_neg (by omega), if_neg (by rw [Int.toNat_natCast]; omega)]
      unfold ctxF
      rw [Int.toNat_natCast, h2]
      congr 2
      omega
/-- what a way adds up to is a context -/
theorem ctx_step (h : Up fc tc L m) {a n k : Nat} (hs : OkS fc tc L mc m a n) (hk : k < L) (hf : fc k = a) (ht : tc k ≠ a) : OkS fc tc L mc m (tc k) (n + addF fc tc L mc m k) := by
  have h1 := add_le (mc := mc) h hk (by omega) (by have := hs.2; rw [hf]; omega)
  have h2 := hs.2
  rw [hf] at h1
  exact ⟨(h k hk).2, by omega⟩
end Go.Proofs.Ytbancojknahdgaa.CP
namespace Go.Proofs.Ytbancojknahdgaa.CP
variable {fc tc : Nat → Nat} {L mc m : Nat}
def sumS (f : Nat → Nat) : Nat → Nat
  | 0 => 0
  | i + 1 => sumS f i + f i
theorem sumS_congr {f g : Nat → Nat} : ∀ {i : Nat}, (∀ j, j < i → f j = g j) → sumS f i = sumS g i
  | 0, _ => rfl
  | i + 1, h => by
    show sumS f i + f i = sumS g i + g i
    rw [sumS_congr fun j hj => h j (by omega), h i (by omega)]
theorem sumS_add (f g : Nat → Nat) : ∀ i, sumS (fun j => f j + g j) i = sumS f i + sumS g i
  | 0 => rfl
  | i + 1 => by
    show sumS (fun j => f j + g j) i + (f i + g i) = (sumS f i + f i) + (sumS g i + g i)
    rw [sumS_add f g i]; omega
theorem sumS_zero : ∀ i, sumS (fun _ => 0) i = 0
  | 0 => rfl
  | i + 1 => by show sumS (fun _ => 0) i + 0 = 0; rw [sumS_zero i]
theorem sumS_swap (f : Nat → Nat → Nat) (K : Nat) : ∀ i, sumS (fun a => sumS (fun b => f a b) K) i = sumS (fun b => sumS (fun a => f a b) i) K
  | 0 => (sumS_zero K).symm
  | i + 1 => by
    show sumS (fun a => sumS (fun b => f a b) K) i + sumS (fun b => f i b) K = sumS (fun b => sumS (fun a => f a b) i + f i b) K
    rw [sumS_swap f K i, sumS_add]
theorem sumS_if (p : Prop) [Decidable p] (f : Nat → Nat) (i : Nat) : (if p then sumS f i else 0) = sumS (fun j => if p then f j else 0) i := by
  by_cases h : p
  · rw [if_pos h]; exact sumS_congr fun j _ => by rw [if_pos h]
  · rw [if_neg h]; exact (sumS_zero i).symm.trans (sumS_congr fun j _ => by rw [if_neg h])
theorem lsum_sumS (cn : Nat → Nat) (k : Nat) : ∀ i, lsum fc cn (inL fc tc k i) = sumS (fun j => if tc j = k ∧ fc j ≠ k then cn (fc j) else 0) i
  | 0 => rfl
  | i + 1 => by
    rw [inL_next, lsum_app, lsum_sumS cn k i]
    show _ = sumS _ i + (if tc i = k ∧ fc i ≠ k then cn (fc i) else 0)
    by_cases h : tc i = k ∧ fc i ≠ k
    · rw [if_pos h, lsum_one, if_pos h]
    · rw [if_neg h, lsum_nil, if_neg h]
/-- the ways that go on from a component, by their first edges -/
def outW (fc tc : Nat → Nat) (L m a x : Nat) (i : Nat) : Nat := sumS (fun j => if fc j = a ∧ tc j ≠ a then cntF fc tc L (tc j) m x else 0) i
theorem outW_next (fc tc : Nat → Nat) (L m a x i : Nat) : outW fc tc L m a x (i + 1) = outW fc tc L m a x i + (if fc i = a ∧ tc i ≠ a then cntF fc tc L (tc i) m x else 0) := rfl
theorem cnt_first (h : Up fc tc L m) (a : Nat) : ∀ x, x < m → cntF fc tc L a m x = (if x = a then 1 else 0) + outW fc tc L m a x L := by
  intro x
  induction x using Nat.strongRecOn with
  | ind x ih =>
    intro hx
    rw [cnt_eq h hx, lsum_sumS]
    congr 1
    have e1 : sumS (fun j => if tc j = x ∧ fc j ≠ x then cntF fc tc L a m (fc j) else 0) L
        = sumS (fun j => (if fc j = a ∧ tc j ≠ a then (if x = tc j then 1 else 0) else 0) + sumS (fun i => if tc j = x ∧ fc j ≠ x then (if fc i = a ∧ tc i ≠ a then cntF fc tc L (tc i) m (fc j) else 0) else 0) L) L := by
      refine sumS_congr fun j hj => ?_
      by_cases hp : tc j = x ∧ fc j ≠ x
      · have hlt : fc j < x := by have := (h j hj).1; omega
        rw [if_pos hp, ih (fc j) hlt (by omega)]
        unfold outW
        congr 1
        · by_cases h2 : fc j = a
          · rw [if_pos h2, if_pos ⟨h2, by omega⟩, if_pos hp.1.symm]
          · rw [if_neg h2, if_neg (fun h3 => h2 h3.1)]
        · exact sumS_congr fun i _ => by rw [if_pos hp]
      · rw [if_neg hp]
        have e2 : sumS (fun i => if tc j = x ∧ fc j ≠ x then (if fc i = a ∧ tc i ≠ a then cntF fc tc L (tc i) m (fc j) else 0) else 0) L = 0 := by
          exact (sumS_congr fun i _ => by rw [if_neg hp]).trans (sumS_zero L)
        rw [e2]
        by_cases h2 : fc j = a ∧ tc j ≠ a
        · rw [if_pos h2, if_neg (by omega)]
        · rw [if_neg h2]
    rw [e1, sumS_add, sumS_swap, ← sumS_add]
    unfold outW
    refine sumS_congr fun i hi => ?_
    by_cases hq : fc i = a ∧ tc i ≠ a
    · rw [if_pos hq, if_pos hq, cnt_eq h hx, lsum_sumS]
      congr 1
      exact sumS_congr fun j _ => by
        by_cases hp : tc j = x ∧ fc j ≠ x
        · rw [if_pos hp, if_pos hp, if_pos hq]
        · rw [if_neg hp, if_neg hp]
    · rw [if_neg hq, if_neg hq, Nat.zero_add]
      refine (sumS_congr fun j _ => ?_).trans (sumS_zero L)
      rw [if_neg hq]
      split <;> rfl
end Go.Proofs.Ytbancojknahdgaa.CP
