/- Layer 3 in plain Lean: what is kept (Ext), what Mk's node says, what says the same is one node (canon). -/
import Derived.Test.YtdalnhhenahcjaaNodeU
namespace Go.Proofs.Ytdalnhhenahcjaa.NP
/-- S' has all nodes of S as they were -/
structure Ext (S S' : NS) : Prop where
  vars : S'.vars = S.vars
  budget : S'.budget = S.budget
  nds : ∀ k, isB S.l k = true → nd S'.l k = nd S.l k
theorem Ext.refl (S : NS) : Ext S S := ⟨rfl, rfl, fun _ _ => rfl⟩
theorem Ext.isB {S S' : NS} (h : Ext S S') {k : Nat} (hk : isB S.l k = true) : NP.isB S'.l k = true := by unfold NP.isB; rw [h.nds k hk]; exact hk
theorem Ext.trans {A B C : NS} (h : Ext A B) (k : Ext B C) : Ext A C := ⟨k.vars.trans h.vars, k.budget.trans h.budget, fun j hj => (k.nds j (h.isB hj)).trans (h.nds j hj)⟩
theorem Ext.den {S S' : NS} (h : Ext S S') (hW : Wf S) (hW' : Wf S') (ρ : Nat → Bool) : ∀ (f k : Nat), NP.isB S.l k = true → S.vars - (nd S.l k).v < f → NP.den S'.l ρ k = NP.den S.l ρ k
  | 0, k, _, hf => by omega
  | f + 1, k, hk, hf => by
    rcases Nat.lt_or_ge k 2 with h2 | h2
    · rw [den_leaf _ _ h2, den_leaf _ _ h2]
    · obtain ⟨a, b⟩ := hW.nxt h2 hk ρ
      have hv := (hW.kid k h2 hk).1
      rw [den_step hW ρ h2 hk, den_step hW' ρ h2 (h.isB hk)]
      have e : nxt S'.l ρ k = nxt S.l ρ k := by unfold nxt; rw [h.nds k hk]
      rw [e]
      exact Ext.den h hW hW' ρ f _ a (by omega)
theorem Ext.den' {S S' : NS} (h : Ext S S') (hW : Wf S) (hW' : Wf S') (ρ : Nat → Bool) {k : Nat} (hk : NP.isB S.l k = true) : NP.den S'.l ρ k = NP.den S.l ρ k := h.den hW hW' ρ 257 k hk (by have := hW.v256; omega)
/-- Mk where it may be: what comes -/
structure MkOk (S : NS) (v lo hi : Nat) (S' : NS) (k : Nat) : Prop where
  wf : Wf S'
  ext : Ext S S'
  is : isB S'.l k = true
  ge : v ≤ (nd S'.l k).v
  says : ∀ ρ, den S'.l ρ k = if ρ v then den S.l ρ hi else den S.l ρ lo
  cnt : cnt S'.l ≤ cnt S.l + 1
  pin : ∀ j, (nd S'.l j).pins ≤ (nd S.l j).pins
theorem mkS_ok {S : NS} (hW : Wf S) {v lo hi : Nat} (hv : v < S.vars) (hl : isB S.l lo = true) (hh : isB S.l hi = true) (hvl : v < (nd S.l lo).v) (hvh : v < (nd S.l hi).v) (hb : cnt S.l < S.budget) :
    ∃ S' : NS, ∃ k : Nat, mkS S v lo hi = (S', (k : Int), 0) ∧ MkOk S v lo hi S' k := by
  have hok : okMk S v lo hi = true := by
    unfold okMk
    simp only [isK_nat, hl, hh, Int.toNat_natCast, Bool.true_and, Bool.and_eq_true, decide_eq_true_eq]
    omega
  unfold mkS
  rw [if_pos hok]
  by_cases he : lo = hi
  · subst he
    rw [if_pos rfl]
    exact ⟨S, lo, rfl, hW, Ext.refl _, hl, by omega, (fun ρ => by simp), by omega, fun _ => Nat.le_refl _⟩
  · rw [if_neg (by omega)]
    cases hf : findK S.l ((v : Int), (lo : Int), (hi : Int)) with
    | some k =>
      obtain ⟨h2, hk, hc⟩ := findK_some hf
      unfold kyOf at hc
      simp only [Prod.mk.injEq, Int.ofNat_inj] at hc
      obtain ⟨e1, e2, e3⟩ := hc
      refine ⟨S, k, rfl, hW, Ext.refl _, hk, by omega, fun ρ => ?_, by omega, fun _ => Nat.le_refl _⟩
      rw [den_step hW ρ h2 hk]
      unfold nxt
      rw [e1, e2, e3]
      split <;> rfl
    | none =>
      simp only []
      rw [if_neg (by omega)]
      simp only [Int.toNat_natCast]
      have hw := hW.put hv he hl hh hvl hvh hf hb (S.made + 1)
      have hff := ff_is S.l
      have hle := ff_le S.l
      have hnd := nd_put hle ⟨true, v, lo, hi, 0⟩
      have hext : Ext S { S with l := putN S.l (ff S.l) ⟨true, v, lo, hi, 0⟩, made := S.made + 1 } := ⟨rfl, rfl, fun k hk => by
        show nd (putN _ _ _) k = _
        rw [hnd, if_neg (by rintro rfl; rw [hff] at hk; cases hk)]⟩
      have hk : isB (putN S.l (ff S.l) ⟨true, v, lo, hi, 0⟩) (ff S.l) = true := by unfold isB; rw [hnd, if_pos rfl]
      refine ⟨_, ff S.l, rfl, hw, hext, hk, ?_, fun ρ => ?_, ?_, fun j => ?_⟩
      · show v ≤ (nd (putN _ _ _) _).v
        rw [hnd, if_pos rfl]; exact Nat.le_refl _
      · rw [den_step hw ρ (ff_ge hW.two) hk]
        have e : nxt (putN S.l (ff S.l) ⟨true, v, lo, hi, 0⟩) ρ (ff S.l) = if ρ v then hi else lo := by unfold nxt; rw [hnd, if_pos rfl]
        show den (putN _ _ _) ρ (nxt (putN _ _ _) ρ (ff S.l)) = _
        rw [e]
        cases ρ v
        · exact hext.den' hW hw ρ hl
        · exact hext.den' hW hw ρ hh
      · show cnt (putN _ _ _) ≤ _
        rw [cnt_put hle hff _ rfl]; exact Nat.le_refl _
      · show (nd (putN _ _ _) j).pins ≤ _
        rw [hnd]
        split
        · exact Nat.zero_le _
        · exact Nat.le_refl _
/-! ### what says the same is one node -/
theorem den_dep {S : NS} (hW : Wf S) (ρ σ : Nat → Bool) : ∀ (f k : Nat), isB S.l k = true → S.vars - (nd S.l k).v < f → (∀ i, (nd S.l k).v ≤ i → ρ i = σ i) → den S.l ρ k = den S.l σ k
  | 0, k, _, hf, _ => by omega
  | f + 1, k, hk, hf, he => by
    rcases Nat.lt_or_ge k 2 with h2 | h2
    · rw [den_leaf _ _ h2, den_leaf _ _ h2]
    · obtain ⟨a, b⟩ := hW.nxt h2 hk ρ
      have hv := (hW.kid k h2 hk).1
      rw [den_step hW ρ h2 hk, den_step hW σ h2 hk]
      have e : nxt S.l σ k = nxt S.l ρ k := by unfold nxt; rw [he _ (Nat.le_refl _)]
      rw [e]
      exact den_dep hW ρ σ f _ a (by omega) (fun i hi => he i (by omega))
def upR (ρ : Nat → Bool) (v : Nat) (b : Bool) : Nat → Bool := fun i => if i = v then b else ρ i
theorem den_low {S : NS} (hW : Wf S) {k : Nat} (h2 : 2 ≤ k) (hk : isB S.l k = true) (ρ : Nat → Bool) : den S.l ρ (nd S.l k).low = den S.l (upR ρ (nd S.l k).v false) k := by
  obtain ⟨h1, _, h3, h4, h5, h6⟩ := hW.kid k h2 hk
  rw [den_step hW _ h2 hk]
  have e : nxt S.l (upR ρ (nd S.l k).v false) k = (nd S.l k).low := by unfold nxt upR; simp
  rw [e]
  exact den_dep hW _ _ 257 _ h3 (by have := hW.v256; omega) (fun i hi => by unfold upR; rw [if_neg (by omega)])
theorem den_high {S : NS} (hW : Wf S) {k : Nat} (h2 : 2 ≤ k) (hk : isB S.l k = true) (ρ : Nat → Bool) : den S.l ρ (nd S.l k).high = den S.l (upR ρ (nd S.l k).v true) k := by
  obtain ⟨h1, _, h3, h4, h5, h6⟩ := hW.kid k h2 hk
  rw [den_step hW _ h2 hk]
  have e : nxt S.l (upR ρ (nd S.l k).v true) k = (nd S.l k).high := by unfold nxt upR; simp
  rw [e]
  exact den_dep hW _ _ 257 _ h4 (by have := hW.v256; omega) (fun i hi => by unfold upR; rw [if_neg (by omega)])
theorem den_up {S : NS} (hW : Wf S) {k v : Nat} (hk : isB S.l k = true) (hv : v < (nd S.l k).v) (ρ : Nat → Bool) (b : Bool) : den S.l (upR ρ v b) k = den S.l ρ k :=
  den_dep hW _ _ 257 _ hk (by have := hW.v256; omega) (fun i hi => by unfold upR; rw [if_neg (by omega)])
theorem canon {S : NS} (hW : Wf S) : ∀ (f j k : Nat), isB S.l j = true → isB S.l k = true → (S.vars - (nd S.l j).v) + (S.vars - (nd S.l k).v) < f → (∀ ρ, den S.l ρ j = den S.l ρ k) → j = k
  | 0, j, k, _, _, hf, _ => by omega
  | f + 1, j, k, hj, hk, hf, he => by
    have leafv : ∀ i, i < 2 → (nd S.l i).v = S.vars := fun i hi => by
      have : i = 0 ∨ i = 1 := by omega
      rcases this with rfl | rfl
      · exact hW.v0
      · exact hW.v1
    have key : ∀ a b, isB S.l a = true → isB S.l b = true → 2 ≤ a → (nd S.l a).v < (nd S.l b).v → (S.vars - (nd S.l a).v) + (S.vars - (nd S.l b).v) < f + 1 → (∀ ρ, den S.l ρ a = den S.l ρ b) → False := fun a b ha hb h2 hv hff hab => by
      obtain ⟨h1, hne, h3, h4, h5, h6⟩ := hW.kid a h2 ha
      have l1 : (nd S.l a).low = (nd S.l a).high := canon hW f _ _ h3 h4 (by
        have := hW.vle hb
        have c1 := hW.vle h3
        have c2 := hW.vle h4
        have hbv := hW.vle hb
        rcases Nat.lt_or_ge b 2 with hb2 | hb2
        · have := leafv b hb2
          -- low and high both reach to leaves
          have e1 : (nd S.l a).low = b := canon hW f _ _ h3 hb (by omega) (fun ρ => by rw [den_low hW h2 ha, hab, den_up hW hb hv])
          have e2 : (nd S.l a).high = b := canon hW f _ _ h4 hb (by omega) (fun ρ => by rw [den_high hW h2 ha, hab, den_up hW hb hv])
          exact absurd (e1.trans e2.symm) hne
        · have e1 : (nd S.l a).low = b := canon hW f _ _ h3 hb (by omega) (fun ρ => by rw [den_low hW h2 ha, hab, den_up hW hb hv])
          have e2 : (nd S.l a).high = b := canon hW f _ _ h4 hb (by omega) (fun ρ => by rw [den_high hW h2 ha, hab, den_up hW hb hv])
          exact absurd (e1.trans e2.symm) hne) (fun ρ => by rw [den_low hW h2 ha, den_high hW h2 ha, hab, hab, den_up hW hb hv, den_up hW hb hv])
      exact hne l1
    rcases Nat.lt_trichotomy (nd S.l j).v (nd S.l k).v with h | h | h
    · have h2 : 2 ≤ j := by
        rcases Nat.lt_or_ge j 2 with h2 | h2
        · have := leafv j h2; have := hW.vle hk; omega
        · exact h2
      exact (key j k hj hk h2 h hf he).elim
    · rcases Nat.lt_or_ge j 2 with hj2 | hj2
      · have hk2 : k < 2 := by
          rcases Nat.lt_or_ge k 2 with hk2 | hk2
          · exact hk2
          · have := (hW.kid k hk2 hk).1; have := leafv j hj2; omega
        have := he (fun _ => false)
        rw [den_leaf _ _ hj2, den_leaf _ _ hk2] at this
        rcases (by omega : j = 0 ∨ j = 1) with rfl | rfl <;> rcases (by omega : k = 0 ∨ k = 1) with rfl | rfl <;> simp_all
      · have hk2 : 2 ≤ k := by
          rcases Nat.lt_or_ge k 2 with hk2 | hk2
          · have := (hW.kid j hj2 hj).1; have := leafv k hk2; omega
          · exact hk2
        obtain ⟨a1, a2, a3, a4, a5, a6⟩ := hW.kid j hj2 hj
        obtain ⟨b1, b2, b3, b4, b5, b6⟩ := hW.kid k hk2 hk
        have e1 : (nd S.l j).low = (nd S.l k).low := canon hW f _ _ a3 b3 (by omega) (fun ρ => by rw [den_low hW hj2 hj, den_low hW hk2 hk, he, h])
        have e2 : (nd S.l j).high = (nd S.l k).high := canon hW f _ _ a4 b4 (by omega) (fun ρ => by rw [den_high hW hj2 hj, den_high hW hk2 hk, he, h])
        exact hW.once j k hj2 hk2 hj hk (by unfold kyOf; rw [e1, e2, h])
    · have h2 : 2 ≤ k := by
        rcases Nat.lt_or_ge k 2 with h2 | h2
        · have := leafv k h2; have := hW.vle hj; omega
        · exact h2
      exact (key k j hk hj h2 h (by omega) (fun ρ => (he ρ).symm)).elim
theorem one_node {S : NS} (hW : Wf S) {j k : Nat} (hj : isB S.l j = true) (hk : isB S.l k = true) (he : ∀ ρ, den S.l ρ j = den S.l ρ k) : j = k := canon hW _ j k hj hk (Nat.lt_succ_self _) he
end Go.Proofs.Ytdalnhhenahcjaa.NP
