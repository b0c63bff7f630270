/- Layer 4 in plain Lean: what Ite gives (IteOk, IteNo), what the cache has (CaOk). 
 Nodes of sixteen answers of four variables in plain Lean: what a node says (Den), its answers as a number (tt), what osiertables.below makes (TabN). 
 Layer 5 in plain Lean: what a node says if variables have values (rsT), for some values of variables (exT, prT), with variables in place of others (rnT); a node that hangs on no variable below u asks none. 
 Layers 4 and 5 in plain Lean: what hangs on the variables of a set alone (Dep), how many of these there are from one on (rk). -/
import Derived.Test.YtobhjkfkdkiigaaGreatDoorNodePZ
namespace Go.Proofs.YtobhjkfkdkiigaaGreatDoor.NP
theorem mkS_sweeps (S : NS) (v lo hi : Int) : (mkS S v lo hi).1.sweeps = S.sweeps := by
  unfold mkS
  split
  · split
    · rfl
    · split
      · rfl
      · split <;> rfl
  · rfl
/-- Mk where it may be, with room or without: what comes -/
theorem mkS_any {S : NS} (hW : Wf S) {v lo hi : Nat} (hv : v < S.vars) (hl : isB S.l lo = true) (hh : isB S.l hi = true) (hvl : v < (nd S.l lo).v) (hvh : v < (nd S.l hi).v) :
    (∃ S' : NS, ∃ k : Nat, mkS S v lo hi = (S', (k : Int), 0) ∧ MkOk S v lo hi S' k ∧ S'.sweeps = S.sweeps) ∨ (mkS S v lo hi = (S, 0, 30) ∧ S.budget ≤ cnt S.l) := by
  rcases Nat.lt_or_ge (cnt S.l) S.budget with hb | hb
  · obtain ⟨S', k, h1, h2⟩ := mkS_ok hW hv hl hh hvl hvh hb
    refine .inl ⟨S', k, h1, h2, ?_⟩
    have := mkS_sweeps S v lo hi
    rw [h1] at this
    exact this
  · have hok : okMk S v lo hi = true := by
      unfold okMk
      simp only [isK_nat, hl, hh, Int.toNat_natCast, Bool.true_and, Bool.and_eq_true, decide_eq_true_eq]
      omega
    by_cases he : lo = hi
    · subst he
      refine .inl ⟨S, lo, ?_, ⟨hW, Ext.refl _, hl, by omega, (fun ρ => by simp), by omega, fun _ => Nat.le_refl _⟩, rfl⟩
      unfold mkS
      rw [if_pos hok, if_pos rfl]
    · cases hf : findK S.l ((v : Int), (lo : Int), (hi : Int)) with
      | some k =>
        obtain ⟨h2, hk, hc⟩ := findK_some hf
        unfold kyOf at hc
        simp only [Prod.mk.injEq, Int.ofNat_inj] at hc
        obtain ⟨e1, e2, e3⟩ := hc
        refine .inl ⟨S, k, ?_, ⟨hW, Ext.refl _, hk, by omega, fun ρ => ?_, by omega, fun _ => Nat.le_refl _⟩, rfl⟩
        · unfold mkS
          rw [if_pos hok, if_neg (by omega), hf]
        · rw [den_step hW ρ h2 hk]
          unfold nxt
          rw [e1, e2, e3]
          split <;> rfl
      | none =>
        refine .inr ⟨?_, hb⟩
        unfold mkS
        rw [if_pos hok, if_neg (by omega), hf]
        simp only []
        rw [if_pos hb]
/-- k says in S what Ite of a, b, c must -/
structure IteIs (S : NS) (a b c k : Nat) : Prop where
  ia : isB S.l a = true
  ib : isB S.l b = true
  ic : isB S.l c = true
  ik : isB S.l k = true
  says : ∀ ρ, den S.l ρ k = if den S.l ρ a then den S.l ρ b else den S.l ρ c
  ge : ∀ v, v ≤ (nd S.l a).v → v ≤ (nd S.l b).v → v ≤ (nd S.l c).v → v ≤ (nd S.l k).v
theorem IteIs.ext {S S' : NS} {a b c k : Nat} (h : IteIs S a b c k) (he : Ext S S') (hW : Wf S) (hW' : Wf S') : IteIs S' a b c k := by
  refine ⟨he.isB h.ia, he.isB h.ib, he.isB h.ic, he.isB h.ik, fun ρ => ?_, fun v => ?_⟩
  · rw [he.den' hW hW' ρ h.ik, he.den' hW hW' ρ h.ia, he.den' hW hW' ρ h.ib, he.den' hW hW' ρ h.ic]; exact h.says ρ
  · rw [he.nds _ h.ik, he.nds _ h.ia, he.nds _ h.ib, he.nds _ h.ic]; exact h.ge v
/-- an entry of the cache -/
structure Fnd where
  is : Bool
  a : Int
  b : Int
  c : Int
  n : Int
def Fnd.no : Fnd := ⟨false, 0, 0, 0, 0⟩
def FndOk (S : NS) (x : Fnd) : Prop := x.is = true → ∃ a b c k : Nat, x.a = (a : Int) ∧ x.b = (b : Int) ∧ x.c = (c : Int) ∧ x.n = (k : Int) ∧ IteIs S a b c k
def CaOk (S : NS) (L : List Fnd) : Prop := ∀ x ∈ L, FndOk S x
theorem FndOk.ext {S S' : NS} {x : Fnd} (h : FndOk S x) (he : Ext S S') (hW : Wf S) (hW' : Wf S') : FndOk S' x := fun hx => by
  obtain ⟨a, b, c, k, e1, e2, e3, e4, hi⟩ := h hx
  exact ⟨a, b, c, k, e1, e2, e3, e4, hi.ext he hW hW'⟩
theorem CaOk.ext {S S' : NS} {L : List Fnd} (h : CaOk S L) (he : Ext S S') (hW : Wf S) (hW' : Wf S') : CaOk S' L := fun x hx => (h x hx).ext he hW hW'
theorem CaOk.none (S : NS) (n : Nat) : CaOk S (List.replicate n Fnd.no) := fun x hx hi => by
  rw [List.eq_of_mem_replicate hx] at hi; cases hi
theorem CaOk.set {S : NS} {L : List Fnd} (h : CaOk S L) (i : Nat) {x : Fnd} (hx : FndOk S x) : CaOk S (L.set i x) := fun y hy => by
  rcases List.mem_or_eq_of_mem_set hy with h1 | h1
  · exact h y h1
  · rw [h1]; exact hx
/-- what Ite of a, b, c gives, all asking nothing ahead of u, f variables from u on -/
structure IteOk (S : NS) (a b c f : Nat) (S' : NS) (k : Nat) : Prop where
  wf : Wf S'
  ext : Ext S S'
  is : IteIs S' a b c k
  cnt : cnt S'.l + 1 ≤ cnt S.l + 2 ^ f
  pin : ∀ j, (nd S'.l j).pins ≤ (nd S.l j).pins
  sw : S'.sweeps = S.sweeps
/-- there was too little room -/
structure IteNo (S : NS) (f : Nat) (S' : NS) : Prop where
  wf : Wf S'
  ext : Ext S S'
  room : S.budget + 2 ≤ cnt S.l + 2 ^ f
  pin : ∀ j, (nd S'.l j).pins ≤ (nd S.l j).pins
  sw : S'.sweeps = S.sweeps
/-- how a node goes on at a variable -/
def sLow (S : NS) (v k : Nat) : Nat := if (nd S.l k).v = v then (nd S.l k).low else k
def sHigh (S : NS) (v k : Nat) : Nat := if (nd S.l k).v = v then (nd S.l k).high else k
theorem leaf_v {S : NS} (hW : Wf S) {k : Nat} (hk : k < 2) : (nd S.l k).v = S.vars := by
  rcases (by omega : k = 0 ∨ k = 1) with rfl | rfl
  · exact hW.v0
  · exact hW.v1
structure SplitOk (S : NS) (v k lo hi : Nat) : Prop where
  ilo : isB S.l lo = true
  ihi : isB S.l hi = true
  vlo : v < (nd S.l lo).v
  vhi : v < (nd S.l hi).v
  says : ∀ ρ, den S.l ρ k = if ρ v then den S.l ρ hi else den S.l ρ lo
theorem split_ok {S : NS} (hW : Wf S) {v k : Nat} (hk : isB S.l k = true) (hv : v < S.vars) (hle : v ≤ (nd S.l k).v) : SplitOk S v k (sLow S v k) (sHigh S v k) := by
  unfold sLow sHigh
  by_cases he : (nd S.l k).v = v
  · rw [if_pos he, if_pos he]
    have h2 : 2 ≤ k := by
      rcases Nat.lt_or_ge k 2 with h | h
      · have := leaf_v hW h; omega
      · exact h
    obtain ⟨a1, a2, a3, a4, a5, a6⟩ := hW.kid k h2 hk
    refine ⟨a3, a4, by omega, by omega, fun ρ => ?_⟩
    rw [den_step hW ρ h2 hk]
    unfold nxt
    rw [he]
    split <;> rfl
  · rw [if_neg he, if_neg he]
    exact ⟨hk, hk, by omega, by omega, fun ρ => by split <;> rfl⟩
theorem IteOk.triv {S : NS} (hW : Wf S) {a b c f k : Nat} (h : IteIs S a b c k) : IteOk S a b c f S k :=
  ⟨hW, Ext.refl _, h, by have := Nat.one_le_two_pow (n := f); omega, fun _ => Nat.le_refl _, rfl⟩
theorem iteIs_one {S : NS} {a b c : Nat} (ha : isB S.l a = true) (hb : isB S.l b = true) (hc : isB S.l c = true) (h : a = 1 ∨ b = c) : IteIs S a b c b := by
  refine ⟨ha, hb, hc, hb, fun ρ => ?_, fun _ _ h _ => h⟩
  rcases h with rfl | rfl
  · rw [den_leaf (k := 1) _ _ (by decide)]; simp
  · simp
theorem iteIs_zero {S : NS} (hW : Wf S) {b c : Nat} (hb : isB S.l b = true) (hc : isB S.l c = true) : IteIs S 0 b c c := by
  refine ⟨hW.is0, hb, hc, hc, fun ρ => ?_, fun _ _ _ h => h⟩
  rw [den_leaf (k := 0) _ _ (by decide)]; simp
theorem iteIs_self {S : NS} (hW : Wf S) {a : Nat} (ha : isB S.l a = true) : IteIs S a 1 0 a := by
  refine ⟨ha, hW.is1, hW.is0, ha, fun ρ => ?_, fun _ h _ _ => h⟩
  rw [den_leaf (k := 0) _ _ (by decide), den_leaf (k := 1) _ _ (by decide)]
  cases den S.l ρ a <;> simp
/-- the two halves, and the node upon them -/
theorem IteOk.node {S S1 S2 S3 : NS} {a b c v f lo hi k : Nat} {x0 x1 y0 y1 z0 z1 : Nat} (hW : Wf S) (ha : isB S.l a = true) (hb : isB S.l b = true) (hc : isB S.l c = true)
    (hm : v = min (nd S.l a).v (min (nd S.l b).v (nd S.l c).v))
    (sa : SplitOk S v a x0 x1) (sb : SplitOk S v b y0 y1) (sc : SplitOk S v c z0 z1)
    (h1 : IteOk S x0 y0 z0 f S1 lo) (h2 : IteOk S1 x1 y1 z1 f S2 hi) (h3 : MkOk S2 v lo hi S3 k) (h4 : S3.sweeps = S2.sweeps) : IteOk S a b c (f + 1) S3 k := by
  have e12 := h1.ext.trans h2.ext
  have e13 := e12.trans h3.ext
  refine ⟨h3.wf, e13, ⟨e13.isB ha, e13.isB hb, e13.isB hc, h3.is, fun ρ => ?_, fun u hu1 hu2 hu3 => ?_⟩, ?_, fun j => Nat.le_trans (h3.pin j) (Nat.le_trans (h2.pin j) (h1.pin j)), by rw [h4, h2.sw, h1.sw]⟩
  · rw [h3.says ρ, h2.is.says ρ, h2.ext.den' h1.wf h2.wf ρ h1.is.ik, h1.is.says ρ, e13.den' hW h3.wf ρ ha, e13.den' hW h3.wf ρ hb, e13.den' hW h3.wf ρ hc, sa.says ρ, sb.says ρ, sc.says ρ]
    rw [e12.den' hW h2.wf ρ sa.ihi, e12.den' hW h2.wf ρ sb.ihi, e12.den' hW h2.wf ρ sc.ihi]
    rw [h1.ext.den' hW h1.wf ρ sa.ilo, h1.ext.den' hW h1.wf ρ sb.ilo, h1.ext.den' hW h1.wf ρ sc.ilo]
    cases ρ v <;> simp
  · rw [e13.nds _ ha] at hu1
    rw [e13.nds _ hb] at hu2
    rw [e13.nds _ hc] at hu3
    have := h3.ge
    omega
  · have := h1.cnt; have := h2.cnt; have := h3.cnt
    rw [Nat.pow_succ]; omega
theorem IteNo.low {S S1 : NS} {f : Nat} (h : IteNo S f S1) : IteNo S (f + 1) S1 := ⟨h.wf, h.ext, by have := h.room; rw [Nat.pow_succ]; omega, h.pin, h.sw⟩
theorem IteNo.high {S S1 S2 : NS} {a b c f k : Nat} (h1 : IteOk S a b c f S1 k) (h : IteNo S1 f S2) : IteNo S (f + 1) S2 :=
  ⟨h.wf, h1.ext.trans h.ext, by have := h.room; have := h1.cnt; rw [h1.ext.budget] at *; rw [Nat.pow_succ]; omega, fun j => Nat.le_trans (h.pin j) (h1.pin j), h.sw.trans h1.sw⟩
theorem IteNo.node {S S1 S2 : NS} {a b c x y z f lo hi : Nat} (h1 : IteOk S a b c f S1 lo) (h2 : IteOk S1 x y z f S2 hi) (h : S2.budget ≤ NP.cnt S2.l) : IteNo S (f + 1) S2 :=
  ⟨h2.wf, h1.ext.trans h2.ext, by have := h1.cnt; have := h2.cnt; rw [h2.ext.budget, h1.ext.budget] at h; rw [Nat.pow_succ]; omega, fun j => Nat.le_trans (h2.pin j) (h1.pin j), h2.sw.trans h1.sw⟩
/-- the node of a half asks nothing ahead of v + 1 -/
theorem IteOk.above {S S1 : NS} {a b c f k v : Nat} (h : IteOk S a b c f S1 k) (ha : v < (nd S.l a).v) (hb : v < (nd S.l b).v) (hc : v < (nd S.l c).v) (ia : isB S.l a = true) (ib : isB S.l b = true) (ic : isB S.l c = true) : v < (nd S1.l k).v := by
  refine h.is.ge (v + 1) ?_ ?_ ?_
  · rw [h.ext.nds _ ia]; exact ha
  · rw [h.ext.nds _ ib]; exact hb
  · rw [h.ext.nds _ ic]; exact hc
theorem SplitOk.ext {S S' : NS} {v k lo hi : Nat} (h : SplitOk S v k lo hi) (he : Ext S S') : isB S'.l hi = true ∧ v < (nd S'.l hi).v := ⟨he.isB h.ihi, by rw [he.nds _ h.ihi]; exact h.vhi⟩
theorem IteOk.mono {S S' : NS} {a b c f g k : Nat} (h : IteOk S a b c f S' k) (hg : f ≤ g) : IteOk S a b c g S' k :=
  ⟨h.wf, h.ext, h.is, by have := h.cnt; have := Nat.pow_le_pow_right (n := 2) (by decide) hg; omega, h.pin, h.sw⟩
theorem IteNo.mono {S S' : NS} {f g : Nat} (h : IteNo S f S') (hg : f ≤ g) : IteNo S g S' :=
  ⟨h.wf, h.ext, by have := h.room; have := Nat.pow_le_pow_right (n := 2) (by decide) hg; omega, h.pin, h.sw⟩
end Go.Proofs.YtobhjkfkdkiigaaGreatDoor.NP

namespace Go.Proofs.YtobhjkfkdkiigaaGreatDoor.NP
/-- which of the answers the values tell, the variables from v on not yet asked: f of them -/
def idx (ρ : Nat → Bool) : Nat → Nat → Nat → Nat
  | 0, _, fr => fr
  | f + 1, v, fr => idx ρ f (v + 1) (if ρ v then fr + 2 ^ v else fr)
def ix (ρ : Nat → Bool) : Nat := idx ρ 4 0 0
def valsN (n : Nat) : List Bool := [n.testBit 0, n.testBit 1, n.testBit 2, n.testBit 3]
theorem ix_vals : ∀ n : Nat, n < 16 → ix (rho (valsN n)) = n := by decide +kernel
theorem ix_lt (ρ : Nat → Bool) : ix ρ < 16 := by
  simp only [ix, idx]
  cases ρ 0 <;> cases ρ 1 <;> cases ρ 2 <;> cases ρ 3 <;> decide
theorem vals_ix (ρ : Nat → Bool) (i : Nat) (hi : i < 4) : rho (valsN (ix ρ)) i = ρ i := by
  simp only [ix, idx]
  rcases (by omega : i = 0 ∨ i = 1 ∨ i = 2 ∨ i = 3) with rfl | rfl | rfl | rfl <;> cases ρ 0 <;> cases ρ 1 <;> cases ρ 2 <;> cases ρ 3 <;> rfl
/-- a node that says g -/
structure Den (S : NS) (k : Nat) (g : (Nat → Bool) → Bool) : Prop where
  is : isB S.l k = true
  says : ∀ ρ, den S.l ρ k = g ρ
theorem Den.ext {S S' : NS} {k : Nat} {g : (Nat → Bool) → Bool} (h : Den S k g) (he : Ext S S') (hW : Wf S) (hW' : Wf S') : Den S' k g :=
  ⟨he.isB h.is, fun ρ => by rw [he.den' hW hW' ρ h.is, h.says]⟩
theorem Den.cong {S : NS} {k : Nat} {g g' : (Nat → Bool) → Bool} (h : Den S k g) (hg : ∀ ρ, g ρ = g' ρ) : Den S k g' := ⟨h.is, fun ρ => (h.says ρ).trans (hg ρ)⟩
theorem Den.zero {S : NS} (hW : Wf S) : Den S 0 (fun _ => false) := ⟨hW.is0, fun ρ => by rw [den_leaf _ _ (by decide)]; simp⟩
theorem Den.one {S : NS} (hW : Wf S) : Den S 1 (fun _ => true) := ⟨hW.is1, fun ρ => by rw [den_leaf _ _ (by decide)]; simp⟩
theorem Den.same {S : NS} (hW : Wf S) {j k : Nat} {g : (Nat → Bool) → Bool} (h1 : Den S j g) (h2 : Den S k g) : j = k := one_node hW h1.is h2.is fun ρ => by rw [h1.says, h2.says]
theorem Den.self {S : NS} {k : Nat} (h : isB S.l k = true) : Den S k (fun ρ => den S.l ρ k) := ⟨h, fun _ => rfl⟩
theorem Den.uniq {S : NS} {k : Nat} {g g' : (Nat → Bool) → Bool} (h1 : Den S k g) (h2 : Den S k g') (ρ : Nat → Bool) : g ρ = g' ρ := (h1.says ρ).symm.trans (h2.says ρ)
theorem Den.ite {S : NS} {a b c k : Nat} {ga gb gc : (Nat → Bool) → Bool} (h : IteIs S a b c k) (ha : Den S a ga) (hb : Den S b gb) (hc : Den S c gc) : Den S k (fun ρ => if ga ρ then gb ρ else gc ρ) :=
  ⟨h.ik, fun ρ => by rw [h.says, ha.says, hb.says, hc.says]⟩
/-- sixteen answers as a number -/
def tbl (X : Nat) (ρ : Nat → Bool) : Bool := X.testBit (ix ρ)
def ttF (g : Nat → Bool) : Nat → Nat
  | 0 => 0
  | n + 1 => ttF g n + if g n then 2 ^ n else 0
theorem ttF_bits (X : Nat) : ∀ n : Nat, ttF (fun i => X.testBit i) n = X % 2 ^ n
  | 0 => by simp [ttF, Nat.mod_one]
  | n + 1 => by
    unfold ttF
    rw [ttF_bits X n, Nat.testBit_eq_decide_div_mod_eq, Nat.pow_succ]
    have h := Nat.mod_mul (x := X) (a := 2 ^ n) (b := 2)
    rw [h]
    rcases Nat.mod_two_eq_zero_or_one (X / 2 ^ n) with e | e <;> rw [e] <;> simp
theorem ttF_lt (g : Nat → Bool) : ∀ n : Nat, ttF g n < 2 ^ n
  | 0 => by simp [ttF]
  | n + 1 => by
    unfold ttF
    have := ttF_lt g n
    rw [Nat.pow_succ]
    split <;> omega
theorem ttF_congr {g g' : Nat → Bool} : ∀ {n : Nat}, (∀ i, i < n → g i = g' i) → ttF g n = ttF g' n
  | 0, _ => rfl
  | n + 1, h => by
    unfold ttF
    rw [ttF_congr (n := n) (fun i hi => h i (by omega)), h n (by omega)]
theorem ttF_testBit (g : Nat → Bool) : ∀ (n i : Nat), i < n → (ttF g n).testBit i = g i
  | 0, i, h => by omega
  | n + 1, i, h => by
    have h1 : ttF (fun j => (ttF g (n + 1)).testBit j) (n + 1) = ttF g (n + 1) := by rw [ttF_bits, Nat.mod_eq_of_lt (ttF_lt g _)]
    have key : ∀ (m : Nat) (a b : Nat → Bool), ttF a m = ttF b m → ∀ j, j < m → a j = b j := by
      intro m
      induction m with
      | zero => intro a b _ j hj; omega
      | succ m ih =>
        intro a b hab j hj
        unfold ttF at hab
        have l1 := ttF_lt a m
        have l2 := ttF_lt b m
        have e : a m = b m := by
          cases ha : a m <;> cases hb : b m <;> rw [ha, hb] at hab <;> simp at hab <;> first | rfl | (exfalso; omega)
        by_cases hjm : j = m
        · rw [hjm]; exact e
        · rw [e] at hab
          exact ih a b (by omega) j (by omega)
    exact key _ _ _ h1 i h
/-- the sixteen answers of a node -/
def tt (S : NS) (k : Nat) : Nat := ttF (fun n => den S.l (rho (valsN n)) k) 16
theorem tt_lt (S : NS) (k : Nat) : tt S k < 65536 := ttF_lt _ 16
theorem tt_den {S : NS} {k X : Nat} (h : Den S k (tbl X)) (hX : X < 65536) : tt S k = X := by
  unfold tt
  rw [ttF_congr (g' := fun n => X.testBit n) (fun i hi => by rw [h.says]; unfold tbl; rw [ix_vals i hi]), ttF_bits]
  exact Nat.mod_eq_of_lt hX
theorem tt_gen {S : NS} {k : Nat} {g : (Nat → Bool) → Bool} (h : Den S k g) : tt S k = ttF (fun n => g (rho (valsN n))) 16 := by
  unfold tt
  exact ttF_congr fun i _ => h.says _
theorem Den.table {S : NS} (hW : Wf S) (h4 : S.vars = 4) {k : Nat} (hk : isB S.l k = true) : Den S k (tbl (tt S k)) := ⟨hk, fun ρ => by
  unfold tbl tt
  rw [ttF_testBit _ _ _ (ix_lt ρ)]
  rcases Nat.lt_or_ge k 2 with h2 | h2
  · rw [den_leaf _ _ h2, den_leaf _ _ h2]
  · -- only four variables are asked
    have key : ∀ (f j : Nat), isB S.l j = true → S.vars - (nd S.l j).v < f → den S.l ρ j = den S.l (rho (valsN (ix ρ))) j := by
      intro f
      induction f with
      | zero => intro j _ h; omega
      | succ f ih =>
        intro j hj hf
        rcases Nat.lt_or_ge j 2 with hj2 | hj2
        · rw [den_leaf _ _ hj2, den_leaf _ _ hj2]
        · have hv := (hW.kid j hj2 hj).1
          obtain ⟨x, y⟩ := hW.nxt hj2 hj ρ
          rw [den_step hW ρ hj2 hj, den_step hW (rho (valsN (ix ρ))) hj2 hj]
          have e : nxt S.l (rho (valsN (ix ρ))) j = nxt S.l ρ j := by unfold nxt; rw [vals_ix ρ _ (by omega)]
          rw [e]
          exact ih _ x (by omega)
    exact key _ k hk (Nat.lt_succ_self _)⟩
/-! ### what osiertables.below makes -/
structure TabN (S : NS) (X f v fr : Nat) (S' : NS) (k : Nat) : Prop where
  wf : Wf S'
  ext : Ext S S'
  is : isB S'.l k = true
  ge : v ≤ (nd S'.l k).v
  says : ∀ ρ, den S'.l ρ k = X.testBit (idx ρ f v fr)
  cnt : cnt S'.l + 1 ≤ cnt S.l + 2 ^ f
  pin : ∀ j, (nd S'.l j).pins ≤ (nd S.l j).pins
  sw : S'.sweeps = S.sweeps
theorem TabN.leaf {S : NS} (hW : Wf S) (h4 : S.vars = 4) (X fr : Nat) : TabN S X 0 4 fr S (X.testBit fr).toNat := by
  refine ⟨hW, Ext.refl _, ?_, ?_, fun ρ => ?_, by simp, fun _ => Nat.le_refl _, rfl⟩
  · cases X.testBit fr
    · exact hW.is0
    · exact hW.is1
  · cases X.testBit fr
    · show 4 ≤ (nd S.l 0).v; rw [hW.v0, h4]; exact Nat.le_refl _
    · show 4 ≤ (nd S.l 1).v; rw [hW.v1, h4]; exact Nat.le_refl _
  · rw [den_leaf _ _ (by cases X.testBit fr <;> decide)]
    show _ = X.testBit fr
    cases X.testBit fr <;> rfl
theorem TabN.node {S S1 S2 S3 : NS} {X f v fr lo hi k : Nat} (h1 : TabN S X f (v + 1) fr S1 lo) (h2 : TabN S1 X f (v + 1) (fr + 2 ^ v) S2 hi) (h3 : MkOk S2 v lo hi S3 k) (h4 : S3.sweeps = S2.sweeps) : TabN S X (f + 1) v fr S3 k := by
  refine ⟨h3.wf, (h1.ext.trans h2.ext).trans h3.ext, h3.is, h3.ge, fun ρ => ?_, ?_, fun j => Nat.le_trans (h3.pin j) (Nat.le_trans (h2.pin j) (h1.pin j)), by rw [h4, h2.sw, h1.sw]⟩
  · rw [h3.says ρ, h2.ext.den' h1.wf h2.wf ρ h1.is, h1.says, h2.says]
    show _ = X.testBit (idx ρ f (v + 1) (if ρ v then fr + 2 ^ v else fr))
    cases ρ v <;> rfl
  · have a := h1.cnt; have b := h2.cnt; have c := h3.cnt
    rw [Nat.pow_succ]; omega
theorem TabN.no {S S1 S2 : NS} {X f v fr lo : Nat} (h1 : TabN S X f v fr S1 lo) (h2 : IteNo S1 f S2) : IteNo S (f + 1) S2 :=
  ⟨h2.wf, h1.ext.trans h2.ext, by have := h2.room; have := h1.cnt; rw [h1.ext.budget] at *; rw [Nat.pow_succ]; omega, fun j => Nat.le_trans (h2.pin j) (h1.pin j), h2.sw.trans h1.sw⟩
theorem IteNo.tab {S S1 S2 : NS} {X f v fr hi : Nat} (h1 : IteNo S f S1) (h2 : TabN S1 X f v fr S2 hi) : IteNo S (f + 1) S2 :=
  ⟨h2.wf, h1.ext.trans h2.ext, by have := h1.room; rw [Nat.pow_succ]; omega, fun j => Nat.le_trans (h2.pin j) (h1.pin j), h2.sw.trans h1.sw⟩
theorem IteNo.two {S S1 S2 : NS} {f : Nat} (h1 : IteNo S f S1) (h2 : IteNo S1 f S2) : IteNo S (f + 1) S2 :=
  ⟨h2.wf, h1.ext.trans h2.ext, by have := h1.room; rw [Nat.pow_succ]; omega, fun j => Nat.le_trans (h2.pin j) (h1.pin j), h2.sw.trans h1.sw⟩
theorem TabN.room {S S1 S2 : NS} {X f v fr lo hi : Nat} {v' fr' : Nat} (h1 : TabN S X f v fr S1 lo) (h2 : TabN S1 X f v' fr' S2 hi) (h : S2.budget ≤ NP.cnt S2.l) : IteNo S (f + 1) S2 :=
  ⟨h2.wf, h1.ext.trans h2.ext, by have := h1.cnt; have := h2.cnt; rw [h2.ext.budget, h1.ext.budget] at h; rw [Nat.pow_succ]; omega, fun j => Nat.le_trans (h2.pin j) (h1.pin j), h2.sw.trans h1.sw⟩
/-! ### what an operation gives: a node that says g, with at most n new ones; or there was no room for these -/
structure GotOk (S : NS) (g : (Nat → Bool) → Bool) (n : Nat) (S' : NS) (k : Nat) : Prop where
  wf : Wf S'
  ext : Ext S S'
  den : Den S' k g
  cnt : cnt S'.l ≤ cnt S.l + n
  pin : ∀ j, (nd S'.l j).pins ≤ (nd S.l j).pins
  sw : S'.sweeps = S.sweeps
structure GotNo (S : NS) (n : Nat) (S' : NS) : Prop where
  wf : Wf S'
  ext : Ext S S'
  room : S.budget < cnt S.l + n
  pin : ∀ j, (nd S'.l j).pins ≤ (nd S.l j).pins
  sw : S'.sweeps = S.sweeps
theorem TabN.got {S S' : NS} {X k : Nat} (h : TabN S X 4 0 0 S' k) : GotOk S (tbl X) 15 S' k := ⟨h.wf, h.ext, ⟨h.is, fun ρ => h.says ρ⟩, by have := h.cnt; omega, h.pin, h.sw⟩
theorem IteNo.got {S S' : NS} {f n : Nat} (h : IteNo S f S') (hn : 2 ^ f ≤ n + 1) : GotNo S n S' := ⟨h.wf, h.ext, by have := h.room; omega, h.pin, h.sw⟩
theorem IteOk.got {S S' : NS} {a b c f n k : Nat} (h : IteOk S a b c f S' k) (hW : Wf S) {ga gb gc g : (Nat → Bool) → Bool} (ha : Den S a ga) (hb : Den S b gb) (hc : Den S c gc) (hg : ∀ ρ, (if ga ρ then gb ρ else gc ρ) = g ρ) (hn : 2 ^ f ≤ n + 1) : GotOk S g n S' k :=
  ⟨h.wf, h.ext, (Den.ite h.is (ha.ext h.ext hW h.wf) (hb.ext h.ext hW h.wf) (hc.ext h.ext hW h.wf)).cong hg, by have := h.cnt; omega, h.pin, h.sw⟩
end Go.Proofs.YtobhjkfkdkiigaaGreatDoor.NP

namespace Go.Proofs.YtobhjkfkdkiigaaGreatDoor.NP
/-- g does not hang on the variables below u -/
def From (g : (Nat → Bool) → Bool) (u : Nat) : Prop := ∀ ρ σ : Nat → Bool, (∀ i, u ≤ i → ρ i = σ i) → g ρ = g σ
theorem From.mono {g : (Nat → Bool) → Bool} {u v : Nat} (h : From g u) (hv : v ≤ u) : From g v := fun ρ σ he => h ρ σ fun i hi => he i (by omega)
theorem den_from {S : NS} (hW : Wf S) {k : Nat} (hk : isB S.l k = true) : From (fun ρ => den S.l ρ k) (nd S.l k).v := fun ρ σ he => den_dep hW ρ σ 257 k hk (by have := hW.v256; omega) he
theorem Den.ge {S : NS} (hW : Wf S) {k u : Nat} {g : (Nat → Bool) → Bool} (h : Den S k g) (hg : From g u) (hu : u ≤ S.vars) : u ≤ (nd S.l k).v := by
  rcases Nat.lt_or_ge (nd S.l k).v u with hlt | hge
  · exfalso
    have h2 : 2 ≤ k := by
      rcases Nat.lt_or_ge k 2 with h2 | h2
      · have := leaf_v hW h2; omega
      · exact h2
    obtain ⟨_, hne, h3, h4, _, _⟩ := hW.kid k h2 h.is
    refine hne (one_node hW h3 h4 fun ρ => ?_)
    rw [den_low hW h2 h.is, den_high hW h2 h.is, h.says, h.says]
    exact hg _ _ fun i hi => by unfold upR; rw [if_neg (by omega), if_neg (by omega)]
  · exact hge
theorem den_kid {S : NS} (hW : Wf S) {k : Nat} (h2 : 2 ≤ k) (hk : isB S.l k = true) (ρ : Nat → Bool) : den S.l ρ k = if ρ (nd S.l k).v then den S.l ρ (nd S.l k).high else den S.l ρ (nd S.l k).low := by
  rw [den_step hW ρ h2 hk]
  unfold nxt
  split <;> rfl
/-! ### restrict -/
def rsT (S : NS) (v : Nat) (b : Bool) (k : Nat) (ρ : Nat → Bool) : Bool := den S.l (upR ρ v b) k
theorem rsT_from {S : NS} (hW : Wf S) (v : Nat) (b : Bool) {k : Nat} (hk : isB S.l k = true) : From (rsT S v b k) (nd S.l k).v := fun ρ σ he => den_from hW hk _ _ fun i hi => by unfold upR; split; rfl; exact he i hi
theorem rsT_leaf (S : NS) (v : Nat) (b : Bool) {k : Nat} (hk : k < 2) (ρ : Nat → Bool) : rsT S v b k ρ = (k == 1) := den_leaf _ _ hk
theorem rsT_node {S : NS} (hW : Wf S) (v : Nat) (b : Bool) {k : Nat} (h2 : 2 ≤ k) (hk : isB S.l k = true) (ρ : Nat → Bool) :
    rsT S v b k ρ = if (nd S.l k).v = v then (if b then rsT S v b (nd S.l k).high ρ else rsT S v b (nd S.l k).low ρ) else (if ρ (nd S.l k).v then rsT S v b (nd S.l k).high ρ else rsT S v b (nd S.l k).low ρ) := by
  unfold rsT
  rw [den_kid hW h2 hk]
  by_cases e : (nd S.l k).v = v
  · rw [if_pos e]
    have : upR ρ v b (nd S.l k).v = b := by unfold upR; rw [if_pos e]
    rw [this]
  · rw [if_neg e]
    have : upR ρ v b (nd S.l k).v = ρ (nd S.l k).v := by unfold upR; rw [if_neg e]
    rw [this]
/-! ### exists -/
/-- g is true for some values of the variables of vs -/
noncomputable def exQ (vs : Nat → Bool) (g : (Nat → Bool) → Bool) (ρ : Nat → Bool) : Bool := @decide (∃ σ : Nat → Bool, (∀ i, vs i = false → σ i = ρ i) ∧ g σ = true) (Classical.propDecidable _)
theorem exQ_iff {vs : Nat → Bool} {g : (Nat → Bool) → Bool} {ρ : Nat → Bool} : exQ vs g ρ = true ↔ ∃ σ : Nat → Bool, (∀ i, vs i = false → σ i = ρ i) ∧ g σ = true := by unfold exQ; exact @decide_eq_true_iff _ (Classical.propDecidable _)
theorem bool_iff {a b : Bool} (h : a = true ↔ b = true) : a = b := by cases a <;> cases b <;> simp_all
theorem exQ_from {vs : Nat → Bool} {g : (Nat → Bool) → Bool} {u : Nat} (hg : From g u) : From (exQ vs g) u := by
  have key : ∀ ρ σ : Nat → Bool, (∀ i, u ≤ i → ρ i = σ i) → exQ vs g ρ = true → exQ vs g σ = true := fun ρ σ he h => by
    obtain ⟨τ, h1, h2⟩ := exQ_iff.1 h
    refine exQ_iff.2 ⟨fun i => if u ≤ i then τ i else σ i, fun i hi => ?_, ?_⟩
    · show (if u ≤ i then τ i else σ i) = σ i
      split
      · rename_i hu; rw [h1 i hi, he i hu]
      · rfl
    · rw [← h2]
      exact hg _ _ fun i hi => by show (if u ≤ i then τ i else σ i) = τ i; rw [if_pos hi]
  exact fun ρ σ he => bool_iff ⟨key ρ σ he, key σ ρ fun i hi => (he i hi).symm⟩
theorem exQ_congr {vs : Nat → Bool} {g g' : (Nat → Bool) → Bool} (h : ∀ ρ, g ρ = g' ρ) (ρ : Nat → Bool) : exQ vs g ρ = exQ vs g' ρ := by rw [funext h]
theorem exQ_const {vs : Nat → Bool} (b : Bool) (ρ : Nat → Bool) : exQ vs (fun _ => b) ρ = b := bool_iff ⟨fun h => by obtain ⟨_, _, h⟩ := exQ_iff.1 h; exact h, fun h => exQ_iff.2 ⟨ρ, fun _ _ => rfl, h⟩⟩
/-- a variable asked first: one of vs -/
theorem exQ_in {vs : Nat → Bool} {v : Nat} (hv : vs v = true) {g0 g1 : (Nat → Bool) → Bool} (h0 : From g0 (v + 1)) (h1 : From g1 (v + 1)) (ρ : Nat → Bool) :
    exQ vs (fun ρ => if ρ v then g1 ρ else g0 ρ) ρ = (exQ vs g0 ρ || exQ vs g1 ρ) := by
  refine bool_iff ⟨fun h => ?_, fun h => ?_⟩
  · obtain ⟨σ, a, b⟩ := exQ_iff.1 h
    rw [Bool.or_eq_true]
    by_cases hs : σ v = true
    · right
      rw [if_pos hs] at b
      exact exQ_iff.2 ⟨σ, a, b⟩
    · left
      rw [if_neg hs] at b
      exact exQ_iff.2 ⟨σ, a, b⟩
  · rw [Bool.or_eq_true] at h
    have up : ∀ (σ : Nat → Bool) (b : Bool) (g : (Nat → Bool) → Bool), From g (v + 1) → g (upR σ v b) = g σ := fun σ b g hg => hg _ _ fun i hi => by unfold upR; rw [if_neg (by omega)]
    have uv : ∀ (σ : Nat → Bool) (b : Bool), upR σ v b v = b := fun σ b => by unfold upR; rw [if_pos rfl]
    have us : ∀ (σ : Nat → Bool) (b : Bool), (∀ i, vs i = false → σ i = ρ i) → ∀ i, vs i = false → upR σ v b i = ρ i := fun σ b hs i hi => by
      unfold upR
      rw [if_neg (by rintro rfl; rw [hv] at hi; cases hi)]
      exact hs i hi
    rcases h with h | h
    · obtain ⟨σ, a, b⟩ := exQ_iff.1 h
      refine exQ_iff.2 ⟨upR σ v false, us σ _ a, ?_⟩
      simp only [uv, Bool.false_eq_true, if_false]
      rw [up _ _ _ h0]; exact b
    · obtain ⟨σ, a, b⟩ := exQ_iff.1 h
      refine exQ_iff.2 ⟨upR σ v true, us σ _ a, ?_⟩
      simp only [uv, if_true]
      rw [up _ _ _ h1]; exact b
/-- a variable asked first: none of vs -/
theorem exQ_out {vs : Nat → Bool} {v : Nat} (hv : vs v = false) (g0 g1 : (Nat → Bool) → Bool) (ρ : Nat → Bool) :
    exQ vs (fun ρ => if ρ v then g1 ρ else g0 ρ) ρ = if ρ v then exQ vs g1 ρ else exQ vs g0 ρ := by
  refine bool_iff ⟨fun h => ?_, fun h => ?_⟩
  · obtain ⟨σ, a, b⟩ := exQ_iff.1 h
    have e := a v hv
    simp only [e] at b
    split
    · rename_i hr; rw [if_pos hr] at b; exact exQ_iff.2 ⟨σ, a, b⟩
    · rename_i hr; rw [if_neg hr] at b; exact exQ_iff.2 ⟨σ, a, b⟩
  · by_cases hr : ρ v = true
    · rw [if_pos hr] at h
      obtain ⟨σ, a, b⟩ := exQ_iff.1 h
      exact exQ_iff.2 ⟨σ, a, by simp only [a v hv, hr, if_true]; exact b⟩
    · rw [if_neg hr] at h
      obtain ⟨σ, a, b⟩ := exQ_iff.1 h
      refine exQ_iff.2 ⟨σ, a, ?_⟩
      simp only [a v hv]
      rw [if_neg hr]; exact b
noncomputable def exT (S : NS) (vs : Nat → Bool) (k : Nat) : (Nat → Bool) → Bool := exQ vs (fun ρ => den S.l ρ k)
theorem exT_from {S : NS} (hW : Wf S) (vs : Nat → Bool) {k : Nat} (hk : isB S.l k = true) : From (exT S vs k) (nd S.l k).v := exQ_from (den_from hW hk)
theorem exT_leaf (S : NS) (vs : Nat → Bool) {k : Nat} (hk : k < 2) (ρ : Nat → Bool) : exT S vs k ρ = (k == 1) := by
  unfold exT
  rw [exQ_congr (g' := fun _ => (k == 1)) (fun ρ => den_leaf _ _ hk)]
  exact exQ_const _ ρ
theorem exT_in {S : NS} (hW : Wf S) (vs : Nat → Bool) {k : Nat} (h2 : 2 ≤ k) (hk : isB S.l k = true) (hv : vs (nd S.l k).v = true) (ρ : Nat → Bool) :
    exT S vs k ρ = (exT S vs (nd S.l k).low ρ || exT S vs (nd S.l k).high ρ) := by
  obtain ⟨_, _, h3, h4, h5, h6⟩ := hW.kid k h2 hk
  unfold exT
  rw [exQ_congr (g' := fun ρ => if ρ (nd S.l k).v then den S.l ρ (nd S.l k).high else den S.l ρ (nd S.l k).low) (fun ρ => den_kid hW h2 hk ρ)]
  exact exQ_in hv ((den_from hW h3).mono (by omega)) ((den_from hW h4).mono (by omega)) ρ
theorem exT_out {S : NS} (hW : Wf S) (vs : Nat → Bool) {k : Nat} (h2 : 2 ≤ k) (hk : isB S.l k = true) (hv : vs (nd S.l k).v = false) (ρ : Nat → Bool) :
    exT S vs k ρ = if ρ (nd S.l k).v then exT S vs (nd S.l k).high ρ else exT S vs (nd S.l k).low ρ := by
  unfold exT
  rw [exQ_congr (g' := fun ρ => if ρ (nd S.l k).v then den S.l ρ (nd S.l k).high else den S.l ρ (nd S.l k).low) (fun ρ => den_kid hW h2 hk ρ)]
  exact exQ_out hv _ _ ρ
/-! ### rename -/
def rnT (S : NS) (by_ : Nat → Nat) (k : Nat) (ρ : Nat → Bool) : Bool := den S.l (fun i => ρ (by_ i)) k
theorem rnT_leaf (S : NS) (by_ : Nat → Nat) {k : Nat} (hk : k < 2) (ρ : Nat → Bool) : rnT S by_ k ρ = (k == 1) := den_leaf _ _ hk
theorem rnT_node {S : NS} (hW : Wf S) (by_ : Nat → Nat) {k : Nat} (h2 : 2 ≤ k) (hk : isB S.l k = true) (ρ : Nat → Bool) :
    rnT S by_ k ρ = if ρ (by_ (nd S.l k).v) then rnT S by_ (nd S.l k).high ρ else rnT S by_ (nd S.l k).low ρ := den_kid hW h2 hk _
/-! ### two nodes -/
noncomputable def prT (S : NS) (vs : Nat → Bool) (a b : Nat) : (Nat → Bool) → Bool := exQ vs (fun ρ => den S.l ρ a && den S.l ρ b)
theorem and_from {g h : (Nat → Bool) → Bool} {u : Nat} (h1 : From g u) (h2 : From h u) : From (fun ρ => g ρ && h ρ) u := fun ρ σ he => by
  show (g ρ && h ρ) = (g σ && h σ)
  rw [h1 ρ σ he, h2 ρ σ he]
theorem prT_from {S : NS} (hW : Wf S) (vs : Nat → Bool) {a b : Nat} (ha : isB S.l a = true) (hb : isB S.l b = true) : From (prT S vs a b) (min (nd S.l a).v (nd S.l b).v) :=
  exQ_from (and_from ((den_from hW ha).mono (by omega)) ((den_from hW hb).mono (by omega)))
theorem prT_zero {S : NS} (vs : Nat → Bool) {a b : Nat} (h : a = 0 ∨ b = 0) (ρ : Nat → Bool) : prT S vs a b ρ = false := by
  unfold prT
  rw [exQ_congr (g' := fun _ => false) (fun ρ => ?_)]
  · exact exQ_const _ ρ
  · rcases h with rfl | rfl
    · rw [den_leaf _ _ (by decide : 0 < 2)]; simp
    · rw [den_leaf _ _ (by decide : 0 < 2)]; simp
theorem prT_one {S : NS} (vs : Nat → Bool) (ρ : Nat → Bool) : prT S vs 1 1 ρ = true := by
  unfold prT
  rw [exQ_congr (g' := fun _ => true) (fun ρ => by rw [den_leaf _ _ (by decide : 1 < 2)]; simp)]
  exact exQ_const _ ρ
theorem prT_comm {S : NS} (vs : Nat → Bool) (a b : Nat) (ρ : Nat → Bool) : prT S vs a b ρ = prT S vs b a ρ := exQ_congr (fun _ => Bool.and_comm _ _) ρ
theorem prT_in {S : NS} (hW : Wf S) (vs : Nat → Bool) {v a b a0 a1 b0 b1 : Nat} (hv : vs v = true) (sa : SplitOk S v a a0 a1) (sb : SplitOk S v b b0 b1) (ρ : Nat → Bool) :
    prT S vs a b ρ = (prT S vs a0 b0 ρ || prT S vs a1 b1 ρ) := by
  unfold prT
  rw [exQ_congr (g' := fun ρ => if ρ v then (den S.l ρ a1 && den S.l ρ b1) else (den S.l ρ a0 && den S.l ρ b0)) (fun ρ => by rw [sa.says, sb.says]; cases ρ v <;> simp)]
  exact exQ_in hv (and_from ((den_from hW sa.ilo).mono sa.vlo) ((den_from hW sb.ilo).mono sb.vlo)) (and_from ((den_from hW sa.ihi).mono sa.vhi) ((den_from hW sb.ihi).mono sb.vhi)) ρ
theorem prT_out {S : NS} (vs : Nat → Bool) {v a b a0 a1 b0 b1 : Nat} (hv : vs v = false) (sa : SplitOk S v a a0 a1) (sb : SplitOk S v b b0 b1) (ρ : Nat → Bool) :
    prT S vs a b ρ = if ρ v then prT S vs a1 b1 ρ else prT S vs a0 b0 ρ := by
  unfold prT
  rw [exQ_congr (g' := fun ρ => if ρ v then (den S.l ρ a1 && den S.l ρ b1) else (den S.l ρ a0 && den S.l ρ b0)) (fun ρ => by rw [sa.says, sb.says]; cases ρ v <;> simp)]
  exact exQ_out hv _ _ ρ
end Go.Proofs.YtobhjkfkdkiigaaGreatDoor.NP

namespace Go.Proofs.YtobhjkfkdkiigaaGreatDoor.NP
/-- g hangs on no variable but those of V -/
def Dep (V : Nat → Bool) (g : (Nat → Bool) → Bool) : Prop := ∀ ρ σ : Nat → Bool, (∀ i, V i = true → ρ i = σ i) → g ρ = g σ
/-- how many variables of V there are from u on, below n -/
def rk (V : Nat → Bool) (n u : Nat) : Nat := (List.range n).countP fun i => decide (u ≤ i) && V i
theorem Dep.mono {V W : Nat → Bool} {g : (Nat → Bool) → Bool} (h : Dep V g) (hV : ∀ i, V i = true → W i = true) : Dep W g := fun ρ σ he => h ρ σ fun i hi => he i (hV i hi)
theorem Dep.cong {V : Nat → Bool} {g g' : (Nat → Bool) → Bool} (h : Dep V g) (hg : ∀ ρ, g ρ = g' ρ) : Dep V g' := fun ρ σ he => by rw [← hg, ← hg]; exact h ρ σ he
theorem Dep.const (V : Nat → Bool) (b : Bool) : Dep V (fun _ => b) := fun _ _ _ => rfl
theorem Dep.ite {V : Nat → Bool} {a b c : (Nat → Bool) → Bool} (ha : Dep V a) (hb : Dep V b) (hc : Dep V c) : Dep V (fun ρ => if a ρ then b ρ else c ρ) := fun ρ σ he => by
  show (if a ρ then b ρ else c ρ) = if a σ then b σ else c σ
  rw [ha ρ σ he, hb ρ σ he, hc ρ σ he]
theorem Dep.and {V : Nat → Bool} {a b : (Nat → Bool) → Bool} (ha : Dep V a) (hb : Dep V b) : Dep V (fun ρ => a ρ && b ρ) := fun ρ σ he => by
  show (a ρ && b ρ) = (a σ && b σ)
  rw [ha ρ σ he, hb ρ σ he]
theorem Dep.or {V : Nat → Bool} {a b : (Nat → Bool) → Bool} (ha : Dep V a) (hb : Dep V b) : Dep V (fun ρ => a ρ || b ρ) := fun ρ σ he => by
  show (a ρ || b ρ) = (a σ || b σ)
  rw [ha ρ σ he, hb ρ σ he]
theorem Dep.var {V : Nat → Bool} {v : Nat} (h : V v = true) : Dep V (fun ρ => ρ v) := fun _ _ he => he v h
theorem Den.dep {V : Nat → Bool} {S : NS} {k : Nat} {g : (Nat → Bool) → Bool} (h : Den S k g) (hd : Dep V g) : Dep V (fun ρ => den S.l ρ k) := hd.cong fun ρ => (h.says ρ).symm
theorem rk_all (n : Nat) (u : Nat) (hu : u ≤ n) : rk (fun _ => true) n u = n - u := by
  unfold rk
  induction n with
  | zero => simp
  | succ n ih =>
    rw [List.range_succ, List.countP_append]
    by_cases h : u ≤ n
    · rw [ih h]; simp [h]; omega
    · have : u = n + 1 := by omega
      subst this
      have h0 : (List.range n).countP (fun i => decide (n + 1 ≤ i) && true) = 0 := by
        rw [List.countP_eq_zero]
        intro i hi
        have := List.mem_range.1 hi
        simp; omega
      rw [h0]; simp
theorem rk_mono {V W : Nat → Bool} {n u : Nat} (hV : ∀ i, V i = true → W i = true) : rk V n u ≤ rk W n u := by
  unfold rk
  apply List.countP_mono_left
  intro i _ hi
  simp only [Bool.and_eq_true] at hi ⊢
  exact ⟨hi.1, hV i hi.2⟩
theorem rk_le {V : Nat → Bool} {n u v : Nat} (h : u ≤ v) : rk V n v ≤ rk V n u := by
  unfold rk
  apply List.countP_mono_left
  intro i _ hi
  simp only [Bool.and_eq_true, decide_eq_true_eq] at hi ⊢
  exact ⟨by omega, hi.2⟩
theorem rk_lt {V : Nat → Bool} {n u v : Nat} (h : u ≤ v) (hv : v < n) (hV : V v = true) : rk V n (v + 1) + 1 ≤ rk V n u := by
  have h1 := cntS_set (s := fun i => decide (v + 1 ≤ i) && V i) (n := n) (k := v) hv (by rw [decide_eq_false (by omega)]; rfl)
  have h2 : cntS (setB (fun i => decide (v + 1 ≤ i) && V i) v) n ≤ rk V n u := by
    unfold cntS rk
    apply List.countP_mono_left
    intro i _ hi
    unfold setB at hi
    simp only [Bool.or_eq_true, Bool.and_eq_true, decide_eq_true_eq, beq_iff_eq] at hi ⊢
    rcases hi with hi | rfl
    · exact ⟨by omega, hi.2⟩
    · exact ⟨h, hV⟩
  have h3 : cntS (fun i => decide (v + 1 ≤ i) && V i) n = rk V n (v + 1) := rfl
  omega
/-- what a node asks it hangs on -/
theorem Dep.top {S : NS} (hW : Wf S) {V : Nat → Bool} {k : Nat} (hk : isB S.l k = true) (hd : Dep V (fun ρ => den S.l ρ k)) (hv : (nd S.l k).v < S.vars) : V (nd S.l k).v = true := by
  have h2 : 2 ≤ k := by
    rcases Nat.lt_or_ge k 2 with h2 | h2
    · have := leaf_v hW h2; omega
    · exact h2
  obtain ⟨_, hne, h3, h4, _, _⟩ := hW.kid k h2 hk
  cases hV : V (nd S.l k).v with
  | true => rfl
  | false =>
    exfalso
    refine hne (one_node hW h3 h4 fun ρ => ?_)
    rw [den_low hW h2 hk, den_high hW h2 hk]
    refine hd _ _ fun i hi => ?_
    unfold upR
    have : i ≠ (nd S.l k).v := by rintro rfl; rw [hV] at hi; cases hi
    rw [if_neg this, if_neg this]
theorem dep_up {V : Nat → Bool} {ρ σ : Nat → Bool} (he : ∀ i, V i = true → ρ i = σ i) (v : Nat) (b : Bool) : ∀ i, V i = true → upR ρ v b i = upR σ v b i := fun i hi => by
  unfold upR; split
  · rfl
  · exact he i hi
theorem SplitOk.dep {S : NS} (hW : Wf S) {V : Nat → Bool} {v k lo hi : Nat} (h : SplitOk S v k lo hi) (hd : Dep V (fun ρ => den S.l ρ k)) : Dep V (fun ρ => den S.l ρ lo) ∧ Dep V (fun ρ => den S.l ρ hi) := by
  have e0 : ∀ ρ, den S.l ρ lo = den S.l (upR ρ v false) k := fun ρ => by
    rw [h.says]
    have : upR ρ v false v = false := by unfold upR; rw [if_pos rfl]
    rw [this]
    exact den_from hW h.ilo _ _ fun i hi => by have := h.vlo; unfold upR; rw [if_neg (by omega)]
  have e1 : ∀ ρ, den S.l ρ hi = den S.l (upR ρ v true) k := fun ρ => by
    rw [h.says]
    have : upR ρ v true v = true := by unfold upR; rw [if_pos rfl]
    rw [this]
    exact den_from hW h.ihi _ _ fun i hi => by have := h.vhi; unfold upR; rw [if_neg (by omega)]
  refine ⟨fun ρ σ he => ?_, fun ρ σ he => ?_⟩
  · show den S.l ρ lo = den S.l σ lo
    rw [e0, e0]; exact hd _ _ (dep_up he v false)
  · show den S.l ρ hi = den S.l σ hi
    rw [e1, e1]; exact hd _ _ (dep_up he v true)
theorem Dep.kids {S : NS} (hW : Wf S) {V : Nat → Bool} {k : Nat} (h2 : 2 ≤ k) (hk : isB S.l k = true) (hd : Dep V (fun ρ => den S.l ρ k)) : Dep V (fun ρ => den S.l ρ (nd S.l k).low) ∧ Dep V (fun ρ => den S.l ρ (nd S.l k).high) := by
  refine ⟨fun ρ σ he => ?_, fun ρ σ he => ?_⟩
  · show den S.l ρ _ = den S.l σ _
    rw [den_low hW h2 hk, den_low hW h2 hk]; exact hd _ _ (dep_up he _ _)
  · show den S.l ρ _ = den S.l σ _
    rw [den_high hW h2 hk, den_high hW h2 hk]; exact hd _ _ (dep_up he _ _)
theorem Ext.dep {S S' : NS} (h : Ext S S') (hW : Wf S) (hW' : Wf S') {V : Nat → Bool} {k : Nat} (hk : NP.isB S.l k = true) (hd : Dep V (fun ρ => NP.den S.l ρ k)) : Dep V (fun ρ => NP.den S'.l ρ k) := hd.cong fun ρ => (h.den' hW hW' ρ hk).symm
theorem exQ_dep {V vs : Nat → Bool} {g : (Nat → Bool) → Bool} (hg : Dep V g) : Dep V (exQ vs g) := by
  have key : ∀ ρ σ : Nat → Bool, (∀ i, V i = true → ρ i = σ i) → exQ vs g ρ = true → exQ vs g σ = true := fun ρ σ he h => by
    obtain ⟨τ, h1, h2⟩ := exQ_iff.1 h
    refine exQ_iff.2 ⟨fun i => if V i then τ i else σ i, fun i hi => ?_, ?_⟩
    · show (if V i then τ i else σ i) = σ i
      split
      · rename_i hu; rw [h1 i hi, he i hu]
      · rfl
    · refine (hg _ τ fun i hi => ?_).trans h2
      show (if V i then τ i else σ i) = τ i
      rw [if_pos hi]
  exact fun ρ σ he => bool_iff ⟨key ρ σ he, key σ ρ fun i hi => (he i hi).symm⟩
theorem exQ_gone {V vs : Nat → Bool} {g : (Nat → Bool) → Bool} (hg : Dep V g) : Dep (fun i => V i && !vs i) (exQ vs g) := by
  have key : ∀ ρ σ : Nat → Bool, (∀ i, (V i && !vs i) = true → ρ i = σ i) → exQ vs g ρ = true → exQ vs g σ = true := fun ρ σ he h => by
    obtain ⟨τ, h1, h2⟩ := exQ_iff.1 h
    refine exQ_iff.2 ⟨fun i => if V i then (if vs i then τ i else σ i) else σ i, fun i hi => ?_, ?_⟩
    · show (if V i then (if vs i then τ i else σ i) else σ i) = σ i
      rw [hi]; simp
    · refine (hg _ τ fun i hi => ?_).trans h2
      show (if V i then (if vs i then τ i else σ i) else σ i) = τ i
      rw [if_pos hi]
      cases hvi : vs i with
      | true => rfl
      | false => rw [if_neg (by simp), h1 i hvi]; exact (he i (by rw [hi, hvi]; rfl)).symm
  exact fun ρ σ he => bool_iff ⟨key ρ σ he, key σ ρ fun i hi => (he i hi).symm⟩
theorem rnT_dep {S : NS} {V U : Nat → Bool} {by_ : Nat → Nat} {k : Nat} (hd : Dep V (fun ρ => den S.l ρ k)) (hb : ∀ v, V v = true → U (by_ v) = true) : Dep U (rnT S by_ k) := fun _ _ he => hd _ _ fun i hi => he _ (hb i hi)
end Go.Proofs.YtobhjkfkdkiigaaGreatDoor.NP
