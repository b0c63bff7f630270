/- Layer 3 in plain Lean: what a node is of and what it says; a sweep behind one pin. -/
import Derived.Test.YtdalnhhenahcjaaNodeL1
namespace Go.Proofs.Ytdalnhhenahcjaa.NP
theorem den_alk {l l' : List Nd} (h : Alk l l') (ρ : Nat → Bool) : ∀ (f k : Nat), denF l' ρ f k = denF l ρ f k
  | 0, _ => rfl
  | f + 1, k => by rw [denF, denF, h.v, h.low, h.high, den_alk h ρ f]
theorem rc_alk {l l' : List Nd} (h : Alk l l') {k j : Nat} (hr : Rc l k j) : Rc l' k j := by
  induction hr with
  | here => exact .here _
  | low h2 _ ih => exact .low h2 (by rw [h.low]; exact ih)
  | high h2 _ ih => exact .high h2 (by rw [h.high]; exact ih)
theorem rc_den {S : NS} (hW : Wf S) (ρ : Nat → Bool) : ∀ (f k : Nat), isB S.l k = true → S.vars - (nd S.l k).v < f → Rc S.l k (den S.l ρ k).toNat
  | 0, k, _, hf => by omega
  | f + 1, k, hk, hf => by
    rcases Nat.lt_or_ge k 2 with h2 | h2
    · rw [den_leaf _ _ h2]
      have : k = 0 ∨ k = 1 := by omega
      rcases this with rfl | rfl <;> exact .here _
    · obtain ⟨a, b⟩ := hW.nxt h2 hk ρ
      have hv := (hW.kid k h2 hk).1
      rw [den_step hW ρ h2 hk]
      have ih := rc_den hW ρ f _ a (by omega)
      unfold nxt at ih ⊢
      by_cases hr : ρ (nd S.l k).v = true
      · rw [if_pos hr] at ih ⊢; exact .high h2 ih
      · rw [if_neg hr] at ih ⊢; exact .low h2 ih
/-- a node that is no leaf is of both leaves -/
theorem rc_leaves {S : NS} (hW : Wf S) {k : Nat} (h2 : 2 ≤ k) (hk : isB S.l k = true) : Rc S.l k 0 ∧ Rc S.l k 1 := by
  have key : ∀ b : Bool, (∀ ρ, den S.l ρ k = b) → False := fun b hb => by
    cases b with
    | false => have := one_node hW hk hW.is0 (fun ρ => by rw [hb, den_leaf _ _ (by decide)]; rfl); omega
    | true => have := one_node hW hk hW.is1 (fun ρ => by rw [hb, den_leaf _ _ (by decide)]; rfl); omega
  have hv := hW.v256
  constructor
  · refine Classical.byContradiction fun hn => key true fun ρ => ?_
    cases hd : den S.l ρ k with
    | true => rfl
    | false => exact absurd (by have := rc_den hW ρ 257 k hk (by omega); rw [hd] at this; exact this) hn
  · refine Classical.byContradiction fun hn => key false fun ρ => ?_
    cases hd : den S.l ρ k with
    | false => rfl
    | true => exact absurd (by have := rc_den hW ρ 257 k hk (by omega); rw [hd] at this; exact this) hn
theorem isB_sw {S : NS} (hW : Wf S) {s : Nat → Bool} (hm : MarkedTo S.l S.l.length s) (j : Nat) : isB (swp S.l s 1) j = s j := by
  have hc := hm.cl hW
  rw [isB_swp]
  cases hs : s j with
  | true => simp [hc.is j hs]
  | false =>
    rcases Nat.lt_or_ge 1 j with h1 | h1
    · simp [h1]
    · have := Marked.low hW hm (k := j) (by omega)
      rw [this] at hs; cases hs
theorem cnt_sw {S : NS} (hW : Wf S) {s : Nat → Bool} (hm : MarkedTo S.l S.l.length s) : NP.cnt (swp S.l s 1) = cntS s S.l.length := by
  have e : ∀ l : List Nd, NP.cnt l = (List.range l.length).countP (isB l) := fun l => by
    unfold NP.cnt
    induction l with
    | nil => rfl
    | cons x t ih =>
      rw [List.countP_cons, ih, List.length_cons, List.range_succ_eq_map, List.countP_cons, List.countP_map]
      rfl
  rw [e, len_swp]
  unfold cntS
  apply List.countP_congr
  intro j _
  rw [isB_sw hW hm]
theorem cntS_two (n : Nat) (h : 2 ≤ n) (s : Nat → Bool) (hs : ∀ j, s j = decide (j < 2)) : cntS s n = 2 := by
  unfold cntS
  induction n with
  | zero => omega
  | succ n ih =>
    rcases Nat.lt_or_ge n 2 with h1 | h1
    · have : n = 1 := by omega
      subst this
      simp [List.range_succ, hs]
    · rw [List.range_succ, List.countP_append, ih h1]
      have : s n = false := by rw [hs]; simp; omega
      simp [this]
theorem cntS_one (n k : Nat) (h : k < n) (s : Nat → Bool) (hs : ∀ j, s j = true ↔ j = k) : cntS s n = 1 := by
  have e : cntS s n = cntS (setB (fun _ => false) k) n := cntS_congr n (fun j => by rw [hs]; simp [setB])
  rw [e, cntS_set h rfl]
  unfold cntS; simp
/-- one node has a pin: what is swept -/
theorem sweep_pin {S : NS} (hW : Wf S) {s : Nat → Bool} (hm : MarkedTo S.l S.l.length s) {k : Nat} (hk : isB S.l k = true) (hp : ∀ j, 0 < (nd S.l j).pins ↔ j = k) : ∀ j, s j = true ↔ j < 2 ∨ Rc S.l k j := fun j => by
  rw [hm j]
  constructor
  · rintro ⟨i, _, hr, hrc⟩
    unfold rootB at hr
    simp at hr
    rcases hr with hr | ⟨_, hr⟩
    · left
      cases hrc with
      | here => exact hr
      | low h _ => omega
      | high h _ => omega
    · rw [(hp i).1 hr] at hrc; exact .inr hrc
  · rintro (h | h)
    · exact ⟨j, by have := hW.two; omega, by unfold rootB; simp [h], .here _⟩
    · exact ⟨k, isB_lt hk, by unfold rootB; simp [hk, (hp k).2 rfl], h⟩
theorem sweep_none {S : NS} (hW : Wf S) {s : Nat → Bool} (hm : MarkedTo S.l S.l.length s) (hp : ∀ j, (nd S.l j).pins = 0) : ∀ j, s j = decide (j < 2) := fun j => by
  rw [Bool.eq_iff_iff, hm j, decide_eq_true_eq]
  constructor
  · rintro ⟨i, _, hr, hrc⟩
    unfold rootB at hr
    rw [hp] at hr
    simp at hr
    cases hrc with
    | here => exact hr
    | low h _ => omega
    | high h _ => omega
  · exact fun h => ⟨j, by have := hW.two; omega, by unfold rootB; simp [h], .here _⟩
/-- as many stay as the pinned node is of -/
theorem sweep_size {S : NS} (hW : Wf S) {s t : Nat → Bool} (hm : MarkedTo S.l S.l.length s) {k : Nat} (hk : isB S.l k = true) (hp : ∀ j, 0 < (nd S.l j).pins ↔ j = k) (ht : Adds S.l k (fun _ => false) t) : NP.cnt (swp S.l s 1) = max 2 (cntS t S.l.length) := by
  have hs := sweep_pin hW hm hk hp
  have htt : ∀ j, t j = true ↔ Rc S.l k j := fun j => by rw [ht j]; simp
  rw [cnt_sw hW hm]
  rcases Nat.lt_or_ge k 2 with h2 | h2
  · have e1 : cntS s S.l.length = 2 := cntS_two _ hW.two s (fun j => by
      rw [Bool.eq_iff_iff, hs j, decide_eq_true_eq]
      constructor
      · rintro (h | h)
        · exact h
        · cases h with
          | here => exact h2
          | low h _ => omega
          | high h _ => omega
      · exact fun h => .inl h)
    have e2 : cntS t S.l.length = 1 := cntS_one _ k (isB_lt hk) t (fun j => by
      rw [htt j]
      constructor
      · intro h
        cases h with
        | here => rfl
        | low h _ => omega
        | high h _ => omega
      · rintro rfl; exact .here _)
    rw [e1, e2]; rfl
  · obtain ⟨r0, r1⟩ := rc_leaves hW h2 hk
    have e : cntS s S.l.length = cntS t S.l.length := cntS_congr _ (fun j => by
      rw [hs j, htt j]
      constructor
      · rintro (h | h)
        · have : j = 0 ∨ j = 1 := by omega
          rcases this with rfl | rfl
          · exact r0
          · exact r1
        · exact h
      · exact fun h => .inr h)
    have h2c : 2 ≤ cntS t S.l.length := by
      have := cnt_two (hW.sweep hm 0)
      have e3 : NP.cnt (swp S.l s 1) = cntS s S.l.length := cnt_sw hW hm
      have : 2 ≤ NP.cnt (swp S.l s 1) := this
      omega
    rw [e]; omega
end Go.Proofs.Ytdalnhhenahcjaa.NP
