/- Layer 3 in plain Lean: the sweep: what is swept behind a number (swp), the free numbers behind it (fr). -/
import Derived.Test.YtdalnhhenahcjaaNodeT
namespace Go.Proofs.Ytdalnhhenahcjaa.NP
def rootB (l : List Nd) (k : Nat) : Bool := decide (k < 2) || (isB l k && decide (0 < (nd l k).pins))
/-- s are the nodes that the roots below n are of -/
def MarkedTo (l : List Nd) (n : Nat) (s : Nat → Bool) : Prop := ∀ j, s j = true ↔ ∃ i, i < n ∧ rootB l i = true ∧ Rc l i j
def swp (l : List Nd) (s : Nat → Bool) (k : Nat) : List Nd := (List.range l.length).map fun j => if decide (k < j) && !s j then Nd.no else nd l j
theorem len_swp (l : List Nd) (s : Nat → Bool) (k : Nat) : (swp l s k).length = l.length := by simp [swp]
theorem nd_swp (l : List Nd) (s : Nat → Bool) (k j : Nat) : nd (swp l s k) j = if decide (k < j) && !s j then Nd.no else nd l j := by
  rcases Nat.lt_or_ge j l.length with h | h
  · exact nd_eq (by simp [swp, h])
  · rw [nd_ge (by rw [len_swp]; exact h), nd_ge h]; split <;> rfl
theorem list_nd {l l' : List Nd} (h : l.length = l'.length) (hn : ∀ j, nd l j = nd l' j) : l = l' := by
  apply List.ext_getElem?
  intro j
  rcases Nat.lt_or_ge j l.length with h1 | h1
  · rw [nd_lt h1, nd_lt (by omega), hn]
  · rw [List.getElem?_eq_none h1, List.getElem?_eq_none (by omega)]
theorem swp_all {l : List Nd} (s : Nat → Bool) {k : Nat} (hk : l.length ≤ k + 1) : swp l s k = l := by
  apply list_nd (len_swp _ _ _)
  intro j
  rw [nd_swp]
  rcases Nat.lt_or_ge k j with h | h
  · rw [nd_ge (show l.length ≤ j by omega)]; split <;> rfl
  · rw [if_neg (by simp; omega)]
theorem swp_clear {l : List Nd} {s : Nat → Bool} {k : Nat} (hk : 1 ≤ k) (hl : k < l.length) (hs : s k = false) : swp l s (k - 1) = (swp l s k).set k Nd.no := by
  apply list_nd (by rw [len_swp, List.length_set, len_swp])
  intro j
  have h1 := nd_put (l := swp l s k) (k := k) (by rw [len_swp]; omega) Nd.no j
  unfold putN at h1
  rw [if_pos (by rw [len_swp]; exact hl)] at h1
  rw [h1, nd_swp, nd_swp]
  by_cases e : j = k
  · subst e; rw [if_pos rfl, if_pos (by simp [hs]; omega)]
  · rw [if_neg e]
    have : decide (k - 1 < j) = decide (k < j) := by
      rcases Nat.lt_or_ge k j with h | h
      · rw [decide_eq_true h, decide_eq_true (by omega)]
      · rw [decide_eq_false (by omega), decide_eq_false (by omega)]
    rw [this]
theorem swp_stay {l : List Nd} {s : Nat → Bool} {k : Nat} (hk : 1 ≤ k) (h : s k = true ∨ nd l k = Nd.no) : swp l s (k - 1) = swp l s k := by
  apply list_nd (by rw [len_swp, len_swp])
  intro j
  rw [nd_swp, nd_swp]
  by_cases e : j = k
  · subst e
    rcases h with h | h
    · rw [if_neg (by simp [h]), if_neg (by simp [h])]
    · rw [h]; split <;> split <;> rfl
  · have : decide (k - 1 < j) = decide (k < j) := by
      rcases Nat.lt_or_ge k j with h | h
      · rw [decide_eq_true h, decide_eq_true (by omega)]
      · rw [decide_eq_false (by omega), decide_eq_false (by omega)]
    rw [this]
def fr (l : List Nd) (s : Nat → Bool) (k : Nat) : List Nat := (List.range l.length).filter fun j => decide (k < j) && !(isB l j && s j)
theorem filter_range_cons (P Q : Nat → Bool) (k : Nat) (hP : ∀ j, P j = (Q j || (decide (j = k) && P k))) (hQ : ∀ j, Q j = true → k < j) : ∀ n, (List.range n).filter P = if decide (k < n) && P k then k :: (List.range n).filter Q else (List.range n).filter Q
  | 0 => by simp
  | n + 1 => by
    have ih := filter_range_cons P Q k hP hQ n
    have hQe : n ≤ k → (List.range n).filter Q = [] := fun h => List.filter_eq_nil_iff.2 fun j hj => by
      have := List.mem_range.1 hj
      intro hq
      have := hQ j hq; omega
    rw [List.range_succ, List.filter_append, List.filter_append, ih]
    rcases Nat.lt_trichotomy n k with h | h | h
    · rw [if_neg (by simp; omega), if_neg (by simp; omega)]
      have hp : P n = Q n := by rw [hP n, decide_eq_false (by omega)]; simp
      simp [List.filter_cons, hp]
    · subst h
      have hq : Q n = false := by
        cases hx : Q n with
        | false => rfl
        | true => have := hQ n hx; omega
      rw [if_neg (by simp), hQe (Nat.le_refl _)]
      simp [List.filter_cons, hq]
    · have hp : P n = Q n := by rw [hP n, decide_eq_false (by omega)]; simp
      have : decide (k < n + 1) = decide (k < n) := by rw [decide_eq_true (by omega), decide_eq_true h]
      rw [this]
      simp only [List.filter_cons, hp, List.filter_nil]
      split <;> simp
theorem fr_step {l : List Nd} {s : Nat → Bool} {k : Nat} (hk : 1 ≤ k) (hl : k < l.length) : fr l s (k - 1) = if !(isB l k && s k) then k :: fr l s k else fr l s k := by
  have := filter_range_cons (fun j => decide (k - 1 < j) && !(isB l j && s j)) (fun j => decide (k < j) && !(isB l j && s j)) k (fun j => by
    by_cases e : j = k
    · subst e
      simp
    · have : decide (k - 1 < j) = decide (k < j) := by
        rcases Nat.lt_or_ge k j with h | h
        · rw [decide_eq_true h, decide_eq_true (by omega)]
        · rw [decide_eq_false (by omega), decide_eq_false (by omega)]
      simp [this, e]) (fun j hj => by simp at hj; exact hj.1) l.length
  unfold fr
  rw [this]
  have e1 : decide (k < l.length) = true := decide_eq_true hl
  have e2 : decide (k - 1 < k) = true := decide_eq_true (by omega)
  simp [e1, e2]
theorem fr_all {l : List Nd} (s : Nat → Bool) {k : Nat} (hk : l.length ≤ k + 1) : fr l s k = [] := List.filter_eq_nil_iff.2 fun j hj => by
  have := List.mem_range.1 hj
  simp; omega
theorem isB_swp (l : List Nd) (s : Nat → Bool) (k j : Nat) : isB (swp l s k) j = if decide (k < j) && !s j then false else isB l j := by
  unfold isB; rw [nd_swp]; split <;> rfl
theorem fr_end (l : List Nd) (s : Nat → Bool) : fr l s 1 = frees (swp l s 1) := by
  unfold fr frees
  rw [len_swp]
  apply List.filter_congr
  intro j _
  unfold freeB
  have := isB_swp l s 1 j
  unfold isB at this ⊢
  rw [this]
  by_cases h : 1 < j
  · have h2 : 2 ≤ j := h
    cases hs : s j <;> simp [h, h2]
  · have h2 : ¬ 2 ≤ j := h
    simp [h, h2]
theorem cnt_clear {l : List Nd} {s : Nat → Bool} {k : Nat} (hl : k < l.length) (hb : isB (swp l s k) k = true) : cnt ((swp l s k).set k Nd.no) + 1 = cnt (swp l s k) := by
  have := cnt_set (l := swp l s k) (k := k) (by rw [len_swp]; exact hl) Nd.no
  unfold isB at hb
  rw [hb] at this
  simp [Nd.no] at this ⊢
  omega
theorem MarkedTo.cl {S : NS} (h : Wf S) {n : Nat} {s : Nat → Bool} (hm : MarkedTo S.l n s) : Cl S s 0 := by
  have hroot : ∀ i, rootB S.l i = true → isB S.l i = true := fun i hi => by
    unfold rootB at hi
    simp at hi
    rcases hi with hi | hi
    · have : i = 0 ∨ i = 1 := by omega
      rcases this with rfl | rfl
      · exact h.is0
      · exact h.is1
    · exact hi.1
  refine ⟨fun j hj => ?_, fun j hj h2 _ => ?_⟩
  · obtain ⟨i, _, hi, hr⟩ := (hm j).1 hj
    exact hr.isB h (hroot i hi)
  · obtain ⟨i, hl, hi, hr⟩ := (hm j).1 hj
    exact ⟨(hm _).2 ⟨i, hl, hi, hr.trans (.low h2 (.here _))⟩, (hm _).2 ⟨i, hl, hi, hr.trans (.high h2 (.here _))⟩⟩
theorem MarkedTo.zero (l : List Nd) : MarkedTo l 0 (fun _ => false) := fun j => ⟨(fun h => by cases h), (fun ⟨i, h, _⟩ => by omega)⟩
theorem MarkedTo.next {l : List Nd} {n : Nat} {s s' : Nat → Bool} (h : MarkedTo l n s) (hr : rootB l n = true) (ha : Adds l n s s') : MarkedTo l (n + 1) s' := fun j => by
  rw [ha j, h j]
  constructor
  · rintro (⟨i, h1, h2⟩ | h1)
    · exact ⟨i, by omega, h2⟩
    · exact ⟨n, by omega, hr, h1⟩
  · rintro ⟨i, h1, h2, h3⟩
    by_cases e : i = n
    · subst e; exact .inr h3
    · exact .inl ⟨i, by omega, h2, h3⟩
theorem MarkedTo.skip {l : List Nd} {n : Nat} {s : Nat → Bool} (h : MarkedTo l n s) (hr : rootB l n = false) : MarkedTo l (n + 1) s := fun j => by
  rw [h j]
  constructor
  · rintro ⟨i, h1, h2⟩; exact ⟨i, by omega, h2⟩
  · rintro ⟨i, h1, h2, h3⟩
    by_cases e : i = n
    · subst e; rw [hr] at h2; cases h2
    · exact ⟨i, by omega, h2, h3⟩
theorem Marked.low {S : NS} (h : Wf S) {s : Nat → Bool} (hm : MarkedTo S.l S.l.length s) {k : Nat} (hk : k < 2) : s k = true :=
  (hm k).2 ⟨k, by have := h.two; omega, by unfold rootB; simp [hk], .here _⟩
/-- a swept store -/
theorem Wf.sweep {S : NS} (h : Wf S) {s : Nat → Bool} (hm : MarkedTo S.l S.l.length s) (n : Nat) : Wf { S with l := swp S.l s 1, sweeps := n } := by
  have hc := hm.cl h
  have hkeep : ∀ j, s j = true → nd (swp S.l s 1) j = nd S.l j := fun j hj => by rw [nd_swp, if_neg (by simp [hj])]
  have hback : ∀ j, isB (swp S.l s 1) j = true → s j = true ∧ isB S.l j = true := fun j hj => by
    rw [isB_swp] at hj
    split at hj
    · cases hj
    · rename_i hx
      refine ⟨?_, hj⟩
      simp at hx
      rcases Nat.lt_or_ge 1 j with h1 | h1
      · exact hx h1
      · exact Marked.low h hm (by omega)
  refine ⟨by show 2 ≤ (swp _ _ _).length; rw [len_swp]; exact h.two, h.v256, h.b2, h.bm, by show (swp _ _ _).length ≤ _; rw [len_swp]; exact h.len, ?_, ?_, fun k h2 hk => ?_, fun j k hj hk bj bk he => ?_, fun k hk => ?_, fun k => ?_⟩
  · rw [hkeep 0 (Marked.low h hm (by omega))]; exact h.z
  · rw [hkeep 1 (Marked.low h hm (by omega))]; exact h.o
  · obtain ⟨hs, hb⟩ := hback k hk
    obtain ⟨s1, s2⟩ := hc.kids k hs h2 (Nat.zero_le _)
    obtain ⟨a1, a2, a3, a4, a5, a6⟩ := h.kid k h2 hb
    show (nd (swp S.l s 1) k).v < _ ∧ _
    rw [hkeep k hs]
    refine ⟨a1, a2, ?_, ?_, ?_, ?_⟩
    · show isB (swp S.l s 1) _ = true
      unfold isB; rw [hkeep _ s1]; exact a3
    · show isB (swp S.l s 1) _ = true
      unfold isB; rw [hkeep _ s2]; exact a4
    · show _ < (nd (swp S.l s 1) _).v
      rw [hkeep _ s1]; exact a5
    · show _ < (nd (swp S.l s 1) _).v
      rw [hkeep _ s2]; exact a6
  · obtain ⟨sj, bj'⟩ := hback j bj
    obtain ⟨sk, bk'⟩ := hback k bk
    have he' : kyOf (nd (swp S.l s 1) j) = kyOf (nd (swp S.l s 1) k) := he
    rw [hkeep j sj, hkeep k sk] at he'
    exact h.once j k hj hk bj' bk' he'
  · show nd (swp S.l s 1) k = Nd.no
    have hk' : isB (swp S.l s 1) k = false := hk
    rw [isB_swp] at hk'
    rw [nd_swp]
    split
    · rfl
    · rename_i hx
      rw [if_neg hx] at hk'
      exact h.gone k hk'
  · show (nd (swp S.l s 1) k).pins ≤ _
    rw [nd_swp]
    split
    · exact Nat.zero_le _
    · exact h.pins k
end Go.Proofs.Ytdalnhhenahcjaa.NP
