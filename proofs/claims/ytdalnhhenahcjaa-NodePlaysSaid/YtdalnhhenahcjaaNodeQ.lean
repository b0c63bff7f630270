/- Layer 3 in plain Lean: pins (pinN), what a node says of values (den). -/
import Derived.Test.YtdalnhhenahcjaaNodeP
namespace Go.Proofs.Ytdalnhhenahcjaa.NP
/-- l with other pins under a number -/
def pinN (l : List Nd) (m n : Nat) : List Nd := l.set m { nd l m with pins := n }
theorem len_pin (l : List Nd) (m n : Nat) : (pinN l m n).length = l.length := by simp [pinN]
theorem nd_pin {l : List Nd} {m : Nat} (h : m < l.length) (n j : Nat) : nd (pinN l m n) j = if j = m then { nd l m with pins := n } else nd l j := by
  have := nd_put (Nat.le_of_lt h) { nd l m with pins := n } j
  unfold putN at this
  rwa [if_pos h] at this
/-- two lists of nodes that are alike but for pins -/
structure Alk (l l' : List Nd) : Prop where
  len : l'.length = l.length
  is : ∀ k, isB l' k = isB l k
  v : ∀ k, (nd l' k).v = (nd l k).v
  low : ∀ k, (nd l' k).low = (nd l k).low
  high : ∀ k, (nd l' k).high = (nd l k).high
theorem Alk.pin {l : List Nd} {m : Nat} (h : m < l.length) (n : Nat) : Alk l (pinN l m n) := by
  refine ⟨len_pin _ _ _, fun k => ?_, fun k => ?_, fun k => ?_, fun k => ?_⟩
  all_goals
    try unfold isB
    rw [nd_pin h]
    split
    · subst_vars; rfl
    · rfl
theorem Alk.ky {l l' : List Nd} (h : Alk l l') (k : Nat) : kyOf (nd l' k) = kyOf (nd l k) := by unfold kyOf; rw [h.v, h.low, h.high]
theorem Alk.frees {l l' : List Nd} (h : Alk l l') : frees l' = frees l := by
  unfold NP.frees
  rw [h.len]
  congr 1
  funext k
  unfold freeB
  have := h.is k
  unfold isB at this
  rw [this]
theorem Alk.cnt {l l' : List Nd} (h : Alk l l') : cnt l' = cnt l := by
  have e : ∀ l : List Nd, NP.cnt l = (List.range l.length).countP (isB l) := fun l => by
    unfold NP.cnt
    induction l with
    | nil => rfl
    | cons x t ih =>
      rw [List.countP_cons, ih, List.length_cons, List.range_succ_eq_map, List.countP_cons, List.countP_map]
      rfl
  rw [e, e, h.len]
  congr 1
  funext k
  exact h.is k
theorem Wf.alk {S : NS} (hW : Wf S) {l' : List Nd} (h : Alk S.l l') (hp : ∀ k, (nd l' k).pins ≤ 1073741824) (hno : ∀ k, isB S.l k = false → nd l' k = Nd.no) : Wf { S with l := l' } := by
  refine ⟨by show 2 ≤ l'.length; rw [h.len]; exact hW.two, hW.v256, hW.b2, hW.bm, by show l'.length ≤ _; rw [h.len]; exact hW.len, ?_, ?_, fun k h2 hk => ?_, fun j k hj hk bj bk he => ?_, fun k hk => ?_, hp⟩
  · obtain ⟨p, hz⟩ := hW.z
    refine ⟨(nd l' 0).pins, ?_⟩
    show nd l' 0 = _
    have a := h.is 0; have b := h.v 0; have c := h.low 0; have d := h.high 0
    unfold isB at a
    rw [hz] at a b c d
    cases hx : nd l' 0; rw [hx] at a b c d; simp_all
  · obtain ⟨p, hz⟩ := hW.o
    refine ⟨(nd l' 1).pins, ?_⟩
    show nd l' 1 = _
    have a := h.is 1; have b := h.v 1; have c := h.low 1; have d := h.high 1
    unfold isB at a
    rw [hz] at a b c d
    cases hx : nd l' 1; rw [hx] at a b c d; simp_all
  · rw [h.is] at hk
    rw [h.v, h.low, h.high, h.is, h.is, h.v, h.v]
    exact hW.kid k h2 hk
  · rw [h.is] at bj bk
    rw [h.ky, h.ky] at he
    exact hW.once j k hj hk bj bk he
  · rw [h.is] at hk; exact hno k hk
theorem Wf.pin {S : NS} (hW : Wf S) {m : Nat} (hm : isB S.l m = true) {n : Nat} (hn : n ≤ 1073741824) : Wf { S with l := pinN S.l m n } := by
  have hl := isB_lt hm
  refine hW.alk (Alk.pin hl n) (fun k => ?_) (fun k hk => ?_)
  · rw [nd_pin hl]; split
    · exact hn
    · exact hW.pins k
  · rw [nd_pin hl, if_neg (by rintro rfl; rw [hm] at hk; cases hk)]; exact hW.gone k hk

/-! ### what a node says of values -/
def denF (l : List Nd) (ρ : Nat → Bool) : Nat → Nat → Bool
  | 0, k => k == 1
  | f + 1, k => if k < 2 then k == 1 else denF l ρ f (if ρ (nd l k).v then (nd l k).high else (nd l k).low)
def den (l : List Nd) (ρ : Nat → Bool) (k : Nat) : Bool := denF l ρ 257 k
/-- where a node goes on -/
def nxt (l : List Nd) (ρ : Nat → Bool) (k : Nat) : Nat := if ρ (nd l k).v then (nd l k).high else (nd l k).low
theorem Wf.nxt {S : NS} (h : Wf S) {k : Nat} (h2 : 2 ≤ k) (hk : isB S.l k = true) (ρ : Nat → Bool) : isB S.l (nxt S.l ρ k) = true ∧ (nd S.l k).v < (nd S.l (nxt S.l ρ k)).v := by
  obtain ⟨_, _, a, b, c, d⟩ := h.kid k h2 hk
  unfold NP.nxt
  split
  · exact ⟨b, d⟩
  · exact ⟨a, c⟩
theorem denF_fuel {S : NS} (h : Wf S) (ρ : Nat → Bool) : ∀ (f g k : Nat), isB S.l k = true → S.vars - (nd S.l k).v ≤ f → S.vars - (nd S.l k).v ≤ g → denF S.l ρ f k = denF S.l ρ g k := by
  have leaf : ∀ f k, k < 2 → denF S.l ρ f k = (k == 1) := fun f k hk => by
    cases f with
    | zero => rfl
    | succ f => rw [denF, if_pos hk]
  intro f
  induction f with
  | zero =>
    intro g k hk hf _
    have : k < 2 := by
      rcases Nat.lt_or_ge k 2 with h2 | h2
      · exact h2
      · have := (h.kid k h2 hk).1; omega
    rw [leaf _ _ this, leaf _ _ this]
  | succ f ih =>
    intro g k hk hf hg
    rcases Nat.lt_or_ge k 2 with h2 | h2
    · rw [leaf _ _ h2, leaf _ _ h2]
    · have hv := (h.kid k h2 hk).1
      cases g with
      | zero => omega
      | succ g =>
        have h2' : ¬ k < 2 := by omega
        rw [denF, denF, if_neg h2', if_neg h2']
        obtain ⟨a, b⟩ := h.nxt h2 hk ρ
        exact ih g (NP.nxt S.l ρ k) a (by omega) (by omega)
theorem den_leaf (l : List Nd) (ρ : Nat → Bool) {k : Nat} (hk : k < 2) : den l ρ k = (k == 1) := by unfold den; rw [denF, if_pos hk]
theorem den_step {S : NS} (h : Wf S) (ρ : Nat → Bool) {k : Nat} (h2 : 2 ≤ k) (hk : isB S.l k = true) : den S.l ρ k = den S.l ρ (nxt S.l ρ k) := by
  have e : den S.l ρ k = denF S.l ρ 256 (nxt S.l ρ k) := by unfold den; rw [denF, if_neg (by omega)]; rfl
  obtain ⟨a, _⟩ := h.nxt h2 hk ρ
  have := h.v256
  rw [e]
  exact denF_fuel h ρ _ _ _ a (by omega) (by omega)
def rho (vals : List Bool) (i : Nat) : Bool := vals.getD i false
end Go.Proofs.Ytdalnhhenahcjaa.NP
