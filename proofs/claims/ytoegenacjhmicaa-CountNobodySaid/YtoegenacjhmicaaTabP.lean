/- Nodes of sixteen answers of four variables in plain Lean: what a node says (Den), its answers as a number (tt), what osiertables.below makes (TabN). -/
import Derived.Test.YtoegenacjhmicaaOperP
import Derived.Test.YtoegenacjhmicaaNodeQ
namespace Go.Proofs.Ytoegenacjhmicaa.NP
/-- which of the answers the values tell, the variables from v on not yet asked: f of them -/
def idx (ρ : Nat → Bool) : Nat → Nat → Nat → Nat
  | 0, _, fr => fr
  | f + 1, v, fr => idx ρ f (v + 1) (if ρ v then fr + 2 ^ v else fr)
def ix (ρ : Nat → Bool) : Nat := idx ρ 4 0 0
def valsN (n : Nat) : List Bool := [n.testBit 0, n.testBit 1, n.testBit 2, n.testBit 3]
theorem ix_vals : ∀ n : Nat, n < 16 → ix (rho (valsN n)) = n := by decide +kernel
theorem ix_lt (ρ : Nat → Bool) : ix ρ < 16 := by
  simp only [ix, idx]
  cases ρ 0 <;> cases ρ 1 <;> cases ρ 2 <;> cases ρ 3 <;> decide
theorem vals_ix (ρ : Nat → Bool) (i : Nat) (hi : i < 4) : rho (valsN (ix ρ)) i = ρ i := by
  simp only [ix, idx]
  rcases (by omega : i = 0 ∨ i = 1 ∨ i = 2 ∨ i = 3) with rfl | rfl | rfl | rfl <;> cases ρ 0 <;> cases ρ 1 <;> cases ρ 2 <;> cases ρ 3 <;> rfl
/-- a node that says g -/
structure Den (S : NS) (k : Nat) (g : (Nat → Bool) → Bool) : Prop where
  is : isB S.l k = true
  says : ∀ ρ, den S.l ρ k = g ρ
theorem Den.ext {S S' : NS} {k : Nat} {g : (Nat → Bool) → Bool} (h : Den S k g) (he : Ext S S') (hW : Wf S) (hW' : Wf S') : Den S' k g :=
  ⟨he.isB h.is, fun ρ => by rw [he.den' hW hW' ρ h.is, h.says]⟩
theorem Den.cong {S : NS} {k : Nat} {g g' : (Nat → Bool) → Bool} (h : Den S k g) (hg : ∀ ρ, g ρ = g' ρ) : Den S k g' := ⟨h.is, fun ρ => (h.says ρ).trans (hg ρ)⟩
theorem Den.zero {S : NS} (hW : Wf S) : Den S 0 (fun _ => false) := ⟨hW.is0, fun ρ => by rw [den_leaf _ _ (by decide)]; simp⟩
theorem Den.one {S : NS} (hW : Wf S) : Den S 1 (fun _ => true) := ⟨hW.is1, fun ρ => by rw [den_leaf _ _ (by decide)]; simp⟩
theorem Den.same {S : NS} (hW : Wf S) {j k : Nat} {g : (Nat → Bool) → Bool} (h1 : Den S j g) (h2 : Den S k g) : j = k := one_node hW h1.is h2.is fun ρ => by rw [h1.says, h2.says]
theorem Den.self {S : NS} {k : Nat} (h : isB S.l k = true) : Den S k (fun ρ => den S.l ρ k) := ⟨h, fun _ => rfl⟩
theorem Den.uniq {S : NS} {k : Nat} {g g' : (Nat → Bool) → Bool} (h1 : Den S k g) (h2 : Den S k g') (ρ : Nat → Bool) : g ρ = g' ρ := (h1.says ρ).symm.trans (h2.says ρ)
theorem Den.ite {S : NS} {a b c k : Nat} {ga gb gc : (Nat → Bool) → Bool} (h : IteIs S a b c k) (ha : Den S a ga) (hb : Den S b gb) (hc : Den S c gc) : Den S k (fun ρ => if ga ρ then gb ρ else gc ρ) :=
  ⟨h.ik, fun ρ => by rw [h.says, ha.says, hb.says, hc.says]⟩
/-- sixteen answers as a number -/
def tbl (X : Nat) (ρ : Nat → Bool) : Bool := X.testBit (ix ρ)
def ttF (g : Nat → Bool) : Nat → Nat
  | 0 => 0
  | n + 1 => ttF g n + if g n then 2 ^ n else 0
theorem ttF_bits (X : Nat) : ∀ n : Nat, ttF (fun i => X.testBit i) n = X % 2 ^ n
  | 0 => by simp [ttF, Nat.mod_one]
  | n + 1 => by
    unfold ttF
    rw [ttF_bits X n, Nat.testBit_eq_decide_div_mod_eq, Nat.pow_succ]
    have h := Nat.mod_mul (x := X) (a := 2 ^ n) (b := 2)
    rw [h]
    rcases Nat.mod_two_eq_zero_or_one (X / 2 ^ n) with e | e <;> rw [e] <;> simp
theorem ttF_lt (g : Nat → Bool) : ∀ n : Nat, ttF g n < 2 ^ n
  | 0 => by simp [ttF]
  | n + 1 => by
    unfold ttF
    have := ttF_lt g n
    rw [Nat.pow_succ]
    split <;> omega
theorem ttF_congr {g g' : Nat → Bool} : ∀ {n : Nat}, (∀ i, i < n → g i = g' i) → ttF g n = ttF g' n
  | 0, _ => rfl
  | n + 1, h => by
    unfold ttF
    rw [ttF_congr (n := n) (fun i hi => h i (by omega)), h n (by omega)]
theorem ttF_testBit (g : Nat → Bool) : ∀ (n i : Nat), i < n → (ttF g n).testBit i = g i
  | 0, i, h => by omega
  | n + 1, i, h => by
    have h1 : ttF (fun j => (ttF g (n + 1)).testBit j) (n + 1) = ttF g (n + 1) := by rw [ttF_bits, Nat.mod_eq_of_lt (ttF_lt g _)]
    have key : ∀ (m : Nat) (a b : Nat → Bool), ttF a m = ttF b m → ∀ j, j < m → a j = b j := by
      intro m
      induction m with
      | zero => intro a b _ j hj; omega
      | succ m ih =>
        intro a b hab j hj
        unfold ttF at hab
        have l1 := ttF_lt a m
        have l2 := ttF_lt b m
        have e : a m = b m := by
          cases ha : a m <;> cases hb : b m <;> rw [ha, hb] at hab <;> simp at hab <;> first | rfl | (exfalso; omega)
        by_cases hjm : j = m
        · rw [hjm]; exact e
        · rw [e] at hab
          exact ih a b (by omega) j (by omega)
    exact key _ _ _ h1 i h
/-- the sixteen answers of a node -/
def tt (S : NS) (k : Nat) : Nat := ttF (fun n => den S.l (rho (valsN n)) k) 16
theorem tt_lt (S : NS) (k : Nat) : tt S k < 65536 := ttF_lt _ 16
theorem tt_den {S : NS} {k X : Nat} (h : Den S k (tbl X)) (hX : X < 65536) : tt S k = X := by
  unfold tt
  rw [ttF_congr (g' := fun n => X.testBit n) (fun i hi => by rw [h.says]; unfold tbl; rw [ix_vals i hi]), ttF_bits]
  exact Nat.mod_eq_of_lt hX
theorem tt_gen {S : NS} {k : Nat} {g : (Nat → Bool) → Bool} (h : Den S k g) : tt S k = ttF (fun n => g (rho (valsN n))) 16 := by
  unfold tt
  exact ttF_congr fun i _ => h.says _
theorem Den.table {S : NS} (hW : Wf S) (h4 : S.vars = 4) {k : Nat} (hk : isB S.l k = true) : Den S k (tbl (tt S k)) := ⟨hk, fun ρ => by
  unfold tbl tt
  rw [ttF_testBit _ _ _ (ix_lt ρ)]
  rcases Nat.lt_or_ge k 2 with h2 | h2
  · rw [den_leaf _ _ h2, den_leaf _ _ h2]
  · -- only four variables are asked
    have key : ∀ (f j : Nat), isB S.l j = true → S.vars - (nd S.l j).v < f → den S.l ρ j = den S.l (rho (valsN (ix ρ))) j := by
      intro f
      induction f with
      | zero => intro j _ h; omega
      | succ f ih =>
        intro j hj hf
        rcases Nat.lt_or_ge j 2 with hj2 | hj2
        · rw [den_leaf _ _ hj2, den_leaf _ _ hj2]
        · have hv := (hW.kid j hj2 hj).1
          obtain ⟨x, y⟩ := hW.nxt hj2 hj ρ
          rw [den_step hW ρ hj2 hj, den_step hW (rho (valsN (ix ρ))) hj2 hj]
          have e : nxt S.l (rho (valsN (ix ρ))) j = nxt S.l ρ j := by unfold nxt; rw [vals_ix ρ _ (by omega)]
          rw [e]
          exact ih _ x (by omega)
    exact key _ k hk (Nat.lt_succ_self _)⟩
/-! ### what osiertables.below makes -/
structure TabN (S : NS) (X f v fr : Nat) (S' : NS) (k : Nat) : Prop where
  wf : Wf S'
  ext : Ext S S'
  is : isB S'.l k = true
  ge : v ≤ (nd S'.l k).v
  says : ∀ ρ, den S'.l ρ k = X.testBit (idx ρ f v fr)
  cnt : cnt S'.l + 1 ≤ cnt S.l + 2 ^ f
  pin : ∀ j, (nd S'.l j).pins ≤ (nd S.l j).pins
  sw : S'.sweeps = S.sweeps
theorem TabN.leaf {S : NS} (hW : Wf S) (h4 : S.vars = 4) (X fr : Nat) : TabN S X 0 4 fr S (X.testBit fr).toNat := by
  refine ⟨hW, Ext.refl _, ?_, ?_, fun ρ => ?_, by simp, fun _ => Nat.le_refl _, rfl⟩
  · cases X.testBit fr
    · exact hW.is0
    · exact hW.is1
  · cases X.testBit fr
    · show 4 ≤ (nd S.l 0).v; rw [hW.v0, h4]; exact Nat.le_refl _
    · show 4 ≤ (nd S.l 1).v; rw [hW.v1, h4]; exact Nat.le_refl _
  · rw [den_leaf _ _ (by cases X.testBit fr <;> decide)]
    show _ = X.testBit fr
    cases X.testBit fr <;> rfl
theorem TabN.node {S S1 S2 S3 : NS} {X f v fr lo hi k : Nat} (h1 : TabN S X f (v + 1) fr S1 lo) (h2 : TabN S1 X f (v + 1) (fr + 2 ^ v) S2 hi) (h3 : MkOk S2 v lo hi S3 k) (h4 : S3.sweeps = S2.sweeps) : TabN S X (f + 1) v fr S3 k := by
  refine ⟨h3.wf, (h1.ext.trans h2.ext).trans h3.ext, h3.is, h3.ge, fun ρ => ?_, ?_, fun j => Nat.le_trans (h3.pin j) (Nat.le_trans (h2.pin j) (h1.pin j)), by rw [h4, h2.sw, h1.sw]⟩
  · rw [h3.says ρ, h2.ext.den' h1.wf h2.wf ρ h1.is, h1.says, h2.says]
    show _ = X.testBit (idx ρ f (v + 1) (if ρ v then fr + 2 ^ v else fr))
    cases ρ v <;> rfl
  · have a := h1.cnt; have b := h2.cnt; have c := h3.cnt
    rw [Nat.pow_succ]; omega
theorem TabN.no {S S1 S2 : NS} {X f v fr lo : Nat} (h1 : TabN S X f v fr S1 lo) (h2 : IteNo S1 f S2) : IteNo S (f + 1) S2 :=
  ⟨h2.wf, h1.ext.trans h2.ext, by have := h2.room; have := h1.cnt; rw [h1.ext.budget] at *; rw [Nat.pow_succ]; omega, fun j => Nat.le_trans (h2.pin j) (h1.pin j), h2.sw.trans h1.sw⟩
theorem IteNo.tab {S S1 S2 : NS} {X f v fr hi : Nat} (h1 : IteNo S f S1) (h2 : TabN S1 X f v fr S2 hi) : IteNo S (f + 1) S2 :=
  ⟨h2.wf, h1.ext.trans h2.ext, by have := h1.room; rw [Nat.pow_succ]; omega, fun j => Nat.le_trans (h2.pin j) (h1.pin j), h2.sw.trans h1.sw⟩
theorem IteNo.two {S S1 S2 : NS} {f : Nat} (h1 : IteNo S f S1) (h2 : IteNo S1 f S2) : IteNo S (f + 1) S2 :=
  ⟨h2.wf, h1.ext.trans h2.ext, by have := h1.room; rw [Nat.pow_succ]; omega, fun j => Nat.le_trans (h2.pin j) (h1.pin j), h2.sw.trans h1.sw⟩
theorem TabN.room {S S1 S2 : NS} {X f v fr lo hi : Nat} {v' fr' : Nat} (h1 : TabN S X f v fr S1 lo) (h2 : TabN S1 X f v' fr' S2 hi) (h : S2.budget ≤ NP.cnt S2.l) : IteNo S (f + 1) S2 :=
  ⟨h2.wf, h1.ext.trans h2.ext, by have := h1.cnt; have := h2.cnt; rw [h2.ext.budget, h1.ext.budget] at h; rw [Nat.pow_succ]; omega, fun j => Nat.le_trans (h2.pin j) (h1.pin j), h2.sw.trans h1.sw⟩
/-! ### what an operation gives: a node that says g, with at most n new ones; or there was no room for these -/
structure GotOk (S : NS) (g : (Nat → Bool) → Bool) (n : Nat) (S' : NS) (k : Nat) : Prop where
  wf : Wf S'
  ext : Ext S S'
  den : Den S' k g
  cnt : cnt S'.l ≤ cnt S.l + n
  pin : ∀ j, (nd S'.l j).pins ≤ (nd S.l j).pins
  sw : S'.sweeps = S.sweeps
structure GotNo (S : NS) (n : Nat) (S' : NS) : Prop where
  wf : Wf S'
  ext : Ext S S'
  room : S.budget < cnt S.l + n
  pin : ∀ j, (nd S'.l j).pins ≤ (nd S.l j).pins
  sw : S'.sweeps = S.sweeps
theorem TabN.got {S S' : NS} {X k : Nat} (h : TabN S X 4 0 0 S' k) : GotOk S (tbl X) 15 S' k := ⟨h.wf, h.ext, ⟨h.is, fun ρ => h.says ρ⟩, by have := h.cnt; omega, h.pin, h.sw⟩
theorem IteNo.got {S S' : NS} {f n : Nat} (h : IteNo S f S') (hn : 2 ^ f ≤ n + 1) : GotNo S n S' := ⟨h.wf, h.ext, by have := h.room; omega, h.pin, h.sw⟩
theorem IteOk.got {S S' : NS} {a b c f n k : Nat} (h : IteOk S a b c f S' k) (hW : Wf S) {ga gb gc g : (Nat → Bool) → Bool} (ha : Den S a ga) (hb : Den S b gb) (hc : Den S c gc) (hg : ∀ ρ, (if ga ρ then gb ρ else gc ρ) = g ρ) (hn : 2 ^ f ≤ n + 1) : GotOk S g n S' k :=
  ⟨h.wf, h.ext, (Den.ite h.is (ha.ext h.ext hW h.wf) (hb.ext h.ext hW h.wf) (hc.ext h.ext hW h.wf)).cong hg, by have := h.cnt; omega, h.pin, h.sw⟩
end Go.Proofs.Ytoegenacjhmicaa.NP
