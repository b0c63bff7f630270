/- NodeBudget in plain Lean: a store with c nodes over the two that are always there (Bst). -/
import Derived.Test.YtdalnhhenahcjaaNodeM
namespace Go.Proofs.Ytdalnhhenahcjaa.NP
theorem ff_unique {l : List Nd} {k : Nat} (h2 : 2 ≤ k) (hk : k ≤ l.length) (hb : ∀ j, 2 ≤ j → j < k → isB l j = true) (h0 : isB l k = false) : ff l = k := by
  have hge : ∀ j ∈ frees l, k ≤ j := fun j hj => by
    obtain ⟨a, b, c⟩ := (frees_mem l j).1 hj
    rcases Nat.lt_or_ge j k with h | h
    · rw [hb j a h] at c; cases c
    · exact h
  have hp : (frees l).Pairwise (· < ·) := List.Pairwise.filter _ List.pairwise_lt_range
  unfold ff
  cases hf : frees l with
  | nil =>
    rcases Nat.lt_or_ge k l.length with h | h
    · have : k ∈ frees l := (frees_mem l k).2 ⟨h2, h, h0⟩
      rw [hf] at this; cases this
    · simp; omega
  | cons x t =>
    have hx : k ≤ x := hge x (by rw [hf]; simp)
    have hxl := ((frees_mem l x).1 (by rw [hf]; simp)).2.1
    have hkm : k ∈ frees l := (frees_mem l k).2 ⟨h2, by omega, h0⟩
    rw [hf] at hkm hp
    rcases List.mem_cons.1 hkm with e | e
    · simp [e]
    · have := (List.pairwise_cons.1 hp).1 k e
      simp; omega
theorem cnt_range (l : List Nd) : cnt l = (List.range l.length).countP (isB l) := by
  unfold cnt
  induction l with
  | nil => rfl
  | cons x t ih =>
    rw [List.countP_cons, ih, List.length_cons, List.range_succ_eq_map, List.countP_cons, List.countP_map]
    rfl
theorem countP_lt (n c : Nat) (h : c ≤ n) (p : Nat → Bool) (hp : ∀ k, k < n → p k = decide (k < c)) : (List.range n).countP p = c := by
  induction n with
  | zero => simp; omega
  | succ n ih =>
    rw [List.range_succ, List.countP_append]
    rcases Nat.lt_or_ge n c with h1 | h1
    · have : c = n + 1 := by omega
      subst this
      have e : (List.range n).countP p = n := by
        rw [List.countP_eq_length.2]
        · simp
        · intro k hk
          have := List.mem_range.1 hk
          rw [hp k (by omega)]; simp; omega
      rw [e]
      simp [hp n (by omega)]
    · rw [ih h1 (fun k hk => hp k (by omega))]
      simp [List.countP_cons, hp n (by omega)]; omega
/-- c nodes that ask 0, 1 .. c-1, each from 0 to 1 -/
structure Bst (S : NS) (m n c made sweeps : Nat) : Prop where
  wf : Wf S
  vars : S.vars = m
  bud : S.budget = n
  nds : ∀ k, 2 ≤ k → nd S.l k = if k < 2 + c then ⟨true, k - 2, 0, 1, 0⟩ else Nd.no
  p0 : (nd S.l 0).pins = 0 ∧ (nd S.l 1).pins = 0
  len : 2 + c ≤ S.l.length
  made : S.made = made
  sweeps : S.sweeps = sweeps
theorem Bst.isB {S : NS} {m n c made sweeps : Nat} (h : Bst S m n c made sweeps) (k : Nat) : isB S.l k = decide (k < 2 + c) := by
  rcases Nat.lt_or_ge k 2 with h2 | h2
  · have : k = 0 ∨ k = 1 := by omega
    rw [decide_eq_true (by omega)]
    rcases this with rfl | rfl
    · exact h.wf.is0
    · exact h.wf.is1
  · unfold NP.isB
    rw [h.nds k h2]
    by_cases hk : k < 2 + c
    · rw [if_pos hk, decide_eq_true hk]
    · rw [if_neg hk, decide_eq_false hk]; rfl
theorem Bst.cnt {S : NS} {m n c made sweeps : Nat} (h : Bst S m n c made sweeps) : NP.cnt S.l = 2 + c := by
  rw [cnt_range]
  exact countP_lt _ _ h.len _ (fun k _ => h.isB k)
theorem Bst.noFind {S : NS} {m n c made sweeps : Nat} (h : Bst S m n c made sweeps) {v : Nat} (hv : c ≤ v) : findK S.l ((v : Int), 0, 1) = none := by
  cases hf : findK S.l ((v : Int), 0, 1) with
  | none => rfl
  | some k =>
    obtain ⟨h2, hb, hc⟩ := findK_some hf
    rw [h.isB] at hb
    have hk : k < 2 + c := of_decide_eq_true hb
    unfold kyOf at hc
    rw [h.nds k h2, if_pos hk] at hc
    simp at hc
    omega
theorem Bst.ok {S : NS} {m n c made sweeps : Nat} (h : Bst S m n c made sweeps) {v : Nat} (hv : v < m) : okMk S v 0 1 = true := by
  have e0 : isK S.l 0 = true := by rw [show (0 : Int) = ((0 : Nat) : Int) from rfl, isK_nat]; exact h.wf.is0
  have e1 : isK S.l 1 = true := by rw [show (1 : Int) = ((1 : Nat) : Int) from rfl, isK_nat]; exact h.wf.is1
  have v0 : (nd S.l (0 : Int).toNat).v = S.vars := h.wf.v0
  have v1 : (nd S.l (1 : Int).toNat).v = S.vars := h.wf.v1
  unfold okMk
  rw [e0, e1, v0, v1, h.vars]
  simp; omega
theorem Bst.full {S : NS} {m n c made sweeps : Nat} (h : Bst S m n c made sweeps) {v : Nat} (hv : v < m) (hc : c ≤ v) (hn : n = 2 + c) : mkS S v 0 1 = (S, 0, 30) := by
  unfold mkS
  rw [if_pos (h.ok hv), if_neg (by decide), h.noFind hc]
  simp only []
  rw [if_pos (by rw [h.bud, h.cnt]; omega)]
theorem Bst.more {S : NS} {m n c made sweeps : Nat} (h : Bst S m n c made sweeps) (hv : c < m) (hn : 2 + c < n) : ∃ S', mkS S c 0 1 = (S', ((2 + c : Nat) : Int), 0) ∧ Bst S' m n (c + 1) (made + 1) sweeps := by
  have hff : ff S.l = 2 + c := ff_unique (by omega) h.len (fun j _ hj => by rw [h.isB]; exact decide_eq_true hj) (by rw [h.isB]; exact decide_eq_false (by omega))
  have hb : NP.cnt S.l < S.budget := by rw [h.cnt, h.bud]; exact hn
  have h0 : (nd S.l 0).v = S.vars := h.wf.v0
  have h1 : (nd S.l 1).v = S.vars := h.wf.v1
  have hw := h.wf.put (v := c) (low := 0) (high := 1) (by rw [h.vars]; exact hv) (by decide) h.wf.is0 h.wf.is1 (by rw [h0, h.vars]; exact hv) (by rw [h1, h.vars]; exact hv) (h.noFind (Nat.le_refl c)) hb (S.made + 1)
  refine ⟨{ S with l := putN S.l (ff S.l) ⟨true, c, 0, 1, 0⟩, made := S.made + 1 }, ?_, hw, h.vars, h.bud, fun k h2 => ?_, ?_, ?_, ?_, h.sweeps⟩
  · unfold mkS
    rw [if_pos (h.ok hv), if_neg (by decide), h.noFind (Nat.le_refl c)]
    simp only []
    rw [if_neg (by omega), hff]
    rfl
  · show nd (putN _ _ _) k = _
    rw [nd_put (ff_le _), hff, h.nds k h2]
    by_cases e : k = 2 + c
    · rw [if_pos e, if_pos (by omega), e]; simp
    · rw [if_neg e]
      by_cases hk : k < 2 + c
      · rw [if_pos hk, if_pos (by omega)]
      · rw [if_neg hk, if_neg (by omega)]
  · show (nd (putN _ _ _) 0).pins = 0 ∧ (nd (putN _ _ _) 1).pins = 0
    rw [nd_put (ff_le _), nd_put (ff_le _), hff, if_neg (by omega), if_neg (by omega)]
    exact h.p0
  · show 2 + (c + 1) ≤ (putN _ _ _).length
    rw [len_put (ff_le _), hff]
    have := h.len
    split <;> omega
  · show S.made + 1 = made + 1
    rw [h.made]
theorem Bst.sweep {S : NS} {m n c made sweeps : Nat} (h : Bst S m n c made sweeps) {s : Nat → Bool} (hm : MarkedTo S.l S.l.length s) : Bst { S with l := swp S.l s 1, sweeps := S.sweeps + 1 } m n 0 made (sweeps + 1) ∧ NP.cnt S.l - NP.cnt (swp S.l s 1) = c := by
  have hs : ∀ k, 2 ≤ k → s k = false := fun k h2 => by
    cases hk : s k with
    | false => rfl
    | true =>
      obtain ⟨i, _, hr, hrc⟩ := (hm k).1 hk
      unfold rootB at hr
      simp at hr
      have hi : i < 2 := by
        rcases hr with hr | ⟨_, hp⟩
        · exact hr
        · rcases Nat.lt_or_ge i 2 with hi | hi
          · exact hi
          · rw [h.nds i hi] at hp
            split at hp <;> simp [Nd.no] at hp
      have : k = i := by
        cases hrc with
        | here => rfl
        | low h _ => omega
        | high h _ => omega
      omega
  have hw := h.wf.sweep hm (S.sweeps + 1)
  have hB : Bst { S with l := swp S.l s 1, sweeps := S.sweeps + 1 } m n 0 made (sweeps + 1) := by
    refine ⟨hw, h.vars, h.bud, fun k h2 => ?_, ?_, ?_, h.made, by show S.sweeps + 1 = _; rw [h.sweeps]⟩
    · show nd (swp S.l s 1) k = _
      rw [nd_swp, if_pos (by simp [hs k h2]; omega), if_neg (by omega)]
    · show (nd (swp S.l s 1) 0).pins = 0 ∧ (nd (swp S.l s 1) 1).pins = 0
      rw [nd_swp, nd_swp, if_neg (by simp), if_neg (by simp)]
      exact h.p0
    · show 2 + 0 ≤ (swp S.l s 1).length
      rw [len_swp]; exact h.wf.two
  refine ⟨hB, ?_⟩
  have e : NP.cnt (swp S.l s 1) = 2 + 0 := hB.cnt
  rw [h.cnt, e]; omega
end Go.Proofs.Ytdalnhhenahcjaa.NP
