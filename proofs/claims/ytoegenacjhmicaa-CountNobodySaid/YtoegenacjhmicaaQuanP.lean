/- Layer 5 in plain Lean: what a node says if variables have values (rsT), for some values of variables (exT, prT), with variables in place of others (rnT); a node that hangs on no variable below u asks none. -/
import Derived.Test.YtoegenacjhmicaaTabP
namespace Go.Proofs.Ytoegenacjhmicaa.NP
/-- g does not hang on the variables below u -/
def From (g : (Nat → Bool) → Bool) (u : Nat) : Prop := ∀ ρ σ : Nat → Bool, (∀ i, u ≤ i → ρ i = σ i) → g ρ = g σ
theorem From.mono {g : (Nat → Bool) → Bool} {u v : Nat} (h : From g u) (hv : v ≤ u) : From g v := fun ρ σ he => h ρ σ fun i hi => he i (by omega)
theorem den_from {S : NS} (hW : Wf S) {k : Nat} (hk : isB S.l k = true) : From (fun ρ => den S.l ρ k) (nd S.l k).v := fun ρ σ he => den_dep hW ρ σ 257 k hk (by have := hW.v256; omega) he
theorem Den.ge {S : NS} (hW : Wf S) {k u : Nat} {g : (Nat → Bool) → Bool} (h : Den S k g) (hg : From g u) (hu : u ≤ S.vars) : u ≤ (nd S.l k).v := by
  rcases Nat.lt_or_ge (nd S.l k).v u with hlt | hge
  · exfalso
    have h2 : 2 ≤ k := by
      rcases Nat.lt_or_ge k 2 with h2 | h2
      · have := leaf_v hW h2; omega
      · exact h2
    obtain ⟨_, hne, h3, h4, _, _⟩ := hW.kid k h2 h.is
    refine hne (one_node hW h3 h4 fun ρ => ?_)
    rw [den_low hW h2 h.is, den_high hW h2 h.is, h.says, h.says]
    exact hg _ _ fun i hi => by unfold upR; rw [if_neg (by omega), if_neg (by omega)]
  · exact hge
theorem den_kid {S : NS} (hW : Wf S) {k : Nat} (h2 : 2 ≤ k) (hk : isB S.l k = true) (ρ : Nat → Bool) : den S.l ρ k = if ρ (nd S.l k).v then den S.l ρ (nd S.l k).high else den S.l ρ (nd S.l k).low := by
  rw [den_step hW ρ h2 hk]
  unfold nxt
  split <;> rfl
/-! ### restrict -/
def rsT (S : NS) (v : Nat) (b : Bool) (k : Nat) (ρ : Nat → Bool) : Bool := den S.l (upR ρ v b) k
theorem rsT_from {S : NS} (hW : Wf S) (v : Nat) (b : Bool) {k : Nat} (hk : isB S.l k = true) : From (rsT S v b k) (nd S.l k).v := fun ρ σ he => den_from hW hk _ _ fun i hi => by unfold upR; split; rfl; exact he i hi
theorem rsT_leaf (S : NS) (v : Nat) (b : Bool) {k : Nat} (hk : k < 2) (ρ : Nat → Bool) : rsT S v b k ρ = (k == 1) := den_leaf _ _ hk
theorem rsT_node {S : NS} (hW : Wf S) (v : Nat) (b : Bool) {k : Nat} (h2 : 2 ≤ k) (hk : isB S.l k = true) (ρ : Nat → Bool) :
    rsT S v b k ρ = if (nd S.l k).v = v then (if b then rsT S v b (nd S.l k).high ρ else rsT S v b (nd S.l k).low ρ) else (if ρ (nd S.l k).v then rsT S v b (nd S.l k).high ρ else rsT S v b (nd S.l k).low ρ) := by
  unfold rsT
  rw [den_kid hW h2 hk]
  by_cases e : (nd S.l k).v = v
  · rw [if_pos e]
    have : upR ρ v b (nd S.l k).v = b := by unfold upR; rw [if_pos e]
    rw [this]
  · rw [if_neg e]
    have : upR ρ v b (nd S.l k).v = ρ (nd S.l k).v := by unfold upR; rw [if_neg e]
    rw [this]
/-! ### exists -/
/-- g is true for some values of the variables of vs -/
noncomputable def exQ (vs : Nat → Bool) (g : (Nat → Bool) → Bool) (ρ : Nat → Bool) : Bool := @decide (∃ σ : Nat → Bool, (∀ i, vs i = false → σ i = ρ i) ∧ g σ = true) (Classical.propDecidable _)
theorem exQ_iff {vs : Nat → Bool} {g : (Nat → Bool) → Bool} {ρ : Nat → Bool} : exQ vs g ρ = true ↔ ∃ σ : Nat → Bool, (∀ i, vs i = false → σ i = ρ i) ∧ g σ = true := by unfold exQ; exact @decide_eq_true_iff _ (Classical.propDecidable _)
theorem bool_iff {a b : Bool} (h : a = true ↔ b = true) : a = b := by cases a <;> cases b <;> simp_all
theorem exQ_from {vs : Nat → Bool} {g : (Nat → Bool) → Bool} {u : Nat} (hg : From g u) : From (exQ vs g) u := by
  have key : ∀ ρ σ : Nat → Bool, (∀ i, u ≤ i → ρ i = σ i) → exQ vs g ρ = true → exQ vs g σ = true := fun ρ σ he h => by
    obtain ⟨τ, h1, h2⟩ := exQ_iff.1 h
    refine exQ_iff.2 ⟨fun i => if u ≤ i then τ i else σ i, fun i hi => ?_, ?_⟩
    · show (if u ≤ i then τ i else σ i) = σ i
      split
      · rename_i hu; rw [h1 i hi, he i hu]
      · rfl
    · rw [← h2]
      exact hg _ _ fun i hi => by show (if u ≤ i then τ i else σ i) = τ i; rw [if_pos hi]
  exact fun ρ σ he => bool_iff ⟨key ρ σ he, key σ ρ fun i hi => (he i hi).symm⟩
theorem exQ_congr {vs : Nat → Bool} {g g' : (Nat → Bool) → Bool} (h : ∀ ρ, g ρ = g' ρ) (ρ : Nat → Bool) : exQ vs g ρ = exQ vs g' ρ := by rw [funext h]
theorem exQ_const {vs : Nat → Bool} (b : Bool) (ρ : Nat → Bool) : exQ vs (fun _ => b) ρ = b := bool_iff ⟨fun h => by obtain ⟨_, _, h⟩ := exQ_iff.1 h; exact h, fun h => exQ_iff.2 ⟨ρ, fun _ _ => rfl, h⟩⟩
/-- a variable asked first: one of vs -/
theorem exQ_in {vs : Nat → Bool} {v : Nat} (hv : vs v = true) {g0 g1 : (Nat → Bool) → Bool} (h0 : From g0 (v + 1)) (h1 : From g1 (v + 1)) (ρ : Nat → Bool) :
    exQ vs (fun ρ => if ρ v then g1 ρ else g0 ρ) ρ = (exQ vs g0 ρ || exQ vs g1 ρ) := by
  refine bool_iff ⟨fun h => ?_, fun h => ?_⟩
  · obtain ⟨σ, a, b⟩ := exQ_iff.1 h
    rw [Bool.or_eq_true]
    by_cases hs : σ v = true
    · right
      rw [if_pos hs] at b
      exact exQ_iff.2 ⟨σ, a, b⟩
    · left
      rw [if_neg hs] at b
      exact exQ_iff.2 ⟨σ, a, b⟩
  · rw [Bool.or_eq_true] at h
    have up : ∀ (σ : Nat → Bool) (b : Bool) (g : (Nat → Bool) → Bool), From g (v + 1) → g (upR σ v b) = g σ := fun σ b g hg => hg _ _ fun i hi => by unfold upR; rw [if_neg (by omega)]
    have uv : ∀ (σ : Nat → Bool) (b : Bool), upR σ v b v = b := fun σ b => by unfold upR; rw [if_pos rfl]
    have us : ∀ (σ : Nat → Bool) (b : Bool), (∀ i, vs i = false → σ i = ρ i) → ∀ i, vs i = false → upR σ v b i = ρ i := fun σ b hs i hi => by
      unfold upR
      rw [if_neg (by rintro rfl; rw [hv] at hi; cases hi)]
      exact hs i hi
    rcases h with h | h
    · obtain ⟨σ, a, b⟩ := exQ_iff.1 h
      refine exQ_iff.2 ⟨upR σ v false, us σ _ a, ?_⟩
      simp only [uv, Bool.false_eq_true, if_false]
      rw [up _ _ _ h0]; exact b
    · obtain ⟨σ, a, b⟩ := exQ_iff.1 h
      refine exQ_iff.2 ⟨upR σ v true, us σ _ a, ?_⟩
      simp only [uv, if_true]
      rw [up _ _ _ h1]; exact b
/-- a variable asked first: none of vs -/
theorem exQ_out {vs : Nat → Bool} {v : Nat} (hv : vs v = false) (g0 g1 : (Nat → Bool) → Bool) (ρ : Nat → Bool) :
    exQ vs (fun ρ => if ρ v then g1 ρ else g0 ρ) ρ = if ρ v then exQ vs g1 ρ else exQ vs g0 ρ := by
  refine bool_iff ⟨fun h => ?_, fun h => ?_⟩
  · obtain ⟨σ, a, b⟩ := exQ_iff.1 h
    have e := a v hv
    simp only [e] at b
    split
    · rename_i hr; rw [if_pos hr] at b; exact exQ_iff.2 ⟨σ, a, b⟩
    · rename_i hr; rw [if_neg hr] at b; exact exQ_iff.2 ⟨σ, a, b⟩
  · by_cases hr : ρ v = true
    · rw [if_pos hr] at h
      obtain ⟨σ, a, b⟩ := exQ_iff.1 h
      exact exQ_iff.2 ⟨σ, a, by simp only [a v hv, hr, if_true]; exact b⟩
    · rw [if_neg hr] at h
      obtain ⟨σ, a, b⟩ := exQ_iff.1 h
      refine exQ_iff.2 ⟨σ, a, ?_⟩
      simp only [a v hv]
      rw [if_neg hr]; exact b
noncomputable def exT (S : NS) (vs : Nat → Bool) (k : Nat) : (Nat → Bool) → Bool := exQ vs (fun ρ => den S.l ρ k)
theorem exT_from {S : NS} (hW : Wf S) (vs : Nat → Bool) {k : Nat} (hk : isB S.l k = true) : From (exT S vs k) (nd S.l k).v := exQ_from (den_from hW hk)
theorem exT_leaf (S : NS) (vs : Nat → Bool) {k : Nat} (hk : k < 2) (ρ : Nat → Bool) : exT S vs k ρ = (k == 1) := by
  unfold exT
  rw [exQ_congr (g' := fun _ => (k == 1)) (fun ρ => den_leaf _ _ hk)]
  exact exQ_const _ ρ
theorem exT_in {S : NS} (hW : Wf S) (vs : Nat → Bool) {k : Nat} (h2 : 2 ≤ k) (hk : isB S.l k = true) (hv : vs (nd S.l k).v = true) (ρ : Nat → Bool) :
    exT S vs k ρ = (exT S vs (nd S.l k).low ρ || exT S vs (nd S.l k).high ρ) := by
  obtain ⟨_, _, h3, h4, h5, h6⟩ := hW.kid k h2 hk
  unfold exT
  rw [exQ_congr (g' := fun ρ => if ρ (nd S.l k).v then den S.l ρ (nd S.l k).high else den S.l ρ (nd S.l k).low) (fun ρ => den_kid hW h2 hk ρ)]
  exact exQ_in hv ((den_from hW h3).mono (by omega)) ((den_from hW h4).mono (by omega)) ρ
theorem exT_out {S : NS} (hW : Wf S) (vs : Nat → Bool) {k : Nat} (h2 : 2 ≤ k) (hk : isB S.l k = true) (hv : vs (nd S.l k).v = false) (ρ : Nat → Bool) :
    exT S vs k ρ = if ρ (nd S.l k).v then exT S vs (nd S.l k).high ρ else exT S vs (nd S.l k).low ρ := by
  unfold exT
  rw [exQ_congr (g' := fun ρ => if ρ (nd S.l k).v then den S.l ρ (nd S.l k).high else den S.l ρ (nd S.l k).low) (fun ρ => den_kid hW h2 hk ρ)]
  exact exQ_out hv _ _ ρ
/-! ### rename -/
def rnT (S : NS) (by_ : Nat → Nat) (k : Nat) (ρ : Nat → Bool) : Bool := den S.l (fun i => ρ (by_ i)) k
theorem rnT_leaf (S : NS) (by_ : Nat → Nat) {k : Nat} (hk : k < 2) (ρ : Nat → Bool) : rnT S by_ k ρ = (k == 1) := den_leaf _ _ hk
theorem rnT_node {S : NS} (hW : Wf S) (by_ : Nat → Nat) {k : Nat} (h2 : 2 ≤ k) (hk : isB S.l k = true) (ρ : Nat → Bool) :
    rnT S by_ k ρ = if ρ (by_ (nd S.l k).v) then rnT S by_ (nd S.l k).high ρ else rnT S by_ (nd S.l k).low ρ := den_kid hW h2 hk _
/-! ### two nodes -/
noncomputable def prT (S : NS) (vs : Nat → Bool) (a b : Nat) : (Nat → Bool) → Bool := exQ vs (fun ρ => den S.l ρ a && den S.l ρ b)
theorem and_from {g h : (Nat → Bool) → Bool} {u : Nat} (h1 : From g u) (h2 : From h u) : From (fun ρ => g ρ && h ρ) u := fun ρ σ he => by
  show (g ρ && h ρ) = (g σ && h σ)
  rw [h1 ρ σ he, h2 ρ σ he]
theorem prT_from {S : NS} (hW : Wf S) (vs : Nat → Bool) {a b : Nat} (ha : isB S.l a = true) (hb : isB S.l b = true) : From (prT S vs a b) (min (nd S.l a).v (nd S.l b).v) :=
  exQ_from (and_from ((den_from hW ha).mono (by omega)) ((den_from hW hb).mono (by omega)))
theorem prT_zero {S : NS} (vs : Nat → Bool) {a b : Nat} (h : a = 0 ∨ b = 0) (ρ : Nat → Bool) : prT S vs a b ρ = false := by
  unfold prT
  rw [exQ_congr (g' := fun _ => false) (fun ρ => ?_)]
  · exact exQ_const _ ρ
  · rcases h with rfl | rfl
    · rw [den_leaf _ _ (by decide : 0 < 2)]; simp
    · rw [den_leaf _ _ (by decide : 0 < 2)]; simp
theorem prT_one {S : NS} (vs : Nat → Bool) (ρ : Nat → Bool) : prT S vs 1 1 ρ = true := by
  unfold prT
  rw [exQ_congr (g' := fun _ => true) (fun ρ => by rw [den_leaf _ _ (by decide : 1 < 2)]; simp)]
  exact exQ_const _ ρ
theorem prT_comm {S : NS} (vs : Nat → Bool) (a b : Nat) (ρ : Nat → Bool) : prT S vs a b ρ = prT S vs b a ρ := exQ_congr (fun _ => Bool.and_comm _ _) ρ
theorem prT_in {S : NS} (hW : Wf S) (vs : Nat → Bool) {v a b a0 a1 b0 b1 : Nat} (hv : vs v = true) (sa : SplitOk S v a a0 a1) (sb : SplitOk S v b b0 b1) (ρ : Nat → Bool) :
    prT S vs a b ρ = (prT S vs a0 b0 ρ || prT S vs a1 b1 ρ) := by
  unfold prT
  rw [exQ_congr (g' := fun ρ => if ρ v then (den S.l ρ a1 && den S.l ρ b1) else (den S.l ρ a0 && den S.l ρ b0)) (fun ρ => by rw [sa.says, sb.says]; cases ρ v <;> simp)]
  exact exQ_in hv (and_from ((den_from hW sa.ilo).mono sa.vlo) ((den_from hW sb.ilo).mono sb.vlo)) (and_from ((den_from hW sa.ihi).mono sa.vhi) ((den_from hW sb.ihi).mono sb.vhi)) ρ
theorem prT_out {S : NS} (vs : Nat → Bool) {v a b a0 a1 b0 b1 : Nat} (hv : vs v = false) (sa : SplitOk S v a a0 a1) (sb : SplitOk S v b b0 b1) (ρ : Nat → Bool) :
    prT S vs a b ρ = if ρ v then prT S vs a1 b1 ρ else prT S vs a0 b0 ρ := by
  unfold prT
  rw [exQ_congr (g' := fun ρ => if ρ v then (den S.l ρ a1 && den S.l ρ b1) else (den S.l ρ a0 && den S.l ρ b0)) (fun ρ => by rw [sa.says, sb.says]; cases ρ v <;> simp)]
  exact exQ_out hv _ _ ρ
end Go.Proofs.Ytoegenacjhmicaa.NP
