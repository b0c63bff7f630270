/- Layer 4 in plain Lean: what Ite gives (IteOk, IteNo), what the cache has (CaOk). -/
import Derived.Test.YtoegenacjhmicaaNodeW
namespace Go.Proofs.Ytoegenacjhmicaa.NP
theorem mkS_sweeps (S : NS) (v lo hi : Int) : (mkS S v lo hi).1.sweeps = S.sweeps := by
  unfold mkS
  split
  · split
    · rfl
    · split
      · rfl
      · split <;> rfl
  · rfl
/-- Mk where it may be, with room or without: what comes -/
theorem mkS_any {S : NS} (hW : Wf S) {v lo hi : Nat} (hv : v < S.vars) (hl : isB S.l lo = true) (hh : isB S.l hi = true) (hvl : v < (nd S.l lo).v) (hvh : v < (nd S.l hi).v) :
    (∃ S' : NS, ∃ k : Nat, mkS S v lo hi = (S', (k : Int), 0) ∧ MkOk S v lo hi S' k ∧ S'.sweeps = S.sweeps) ∨ (mkS S v lo hi = (S, 0, 30) ∧ S.budget ≤ cnt S.l) := by
  rcases Nat.lt_or_ge (cnt S.l) S.budget with hb | hb
  · obtain ⟨S', k, h1, h2⟩ := mkS_ok hW hv hl hh hvl hvh hb
    refine .inl ⟨S', k, h1, h2, ?_⟩
    have := mkS_sweeps S v lo hi
    rw [h1] at this
    exact this
  · have hok : okMk S v lo hi = true := by
      unfold okMk
      simp only [isK_nat, hl, hh, Int.toNat_natCast, Bool.true_and, Bool.and_eq_true, decide_eq_true_eq]
      omega
    by_cases he : lo = hi
    · subst he
      refine .inl ⟨S, lo, ?_, ⟨hW, Ext.refl _, hl, by omega, (fun ρ => by simp), by omega, fun _ => Nat.le_refl _⟩, rfl⟩
      unfold mkS
      rw [if_pos hok, if_pos rfl]
    · cases hf : findK S.l ((v : Int), (lo : Int), (hi : Int)) with
      | some k =>
        obtain ⟨h2, hk, hc⟩ := findK_some hf
        unfold kyOf at hc
        simp only [Prod.mk.injEq, Int.ofNat_inj] at hc
        obtain ⟨e1, e2, e3⟩ := hc
        refine .inl ⟨S, k, ?_, ⟨hW, Ext.refl _, hk, by omega, fun ρ => ?_, by omega, fun _ => Nat.le_refl _⟩, rfl⟩
        · unfold mkS
          rw [if_pos hok, if_neg (by omega), hf]
        · rw [den_step hW ρ h2 hk]
          unfold nxt
          rw [e1, e2, e3]
          split <;> rfl
      | none =>
        refine .inr ⟨?_, hb⟩
        unfold mkS
        rw [if_pos hok, if_neg (by omega), hf]
        simp only []
        rw [if_pos hb]
/-- k says in S what Ite of a, b, c must -/
structure IteIs (S : NS) (a b c k : Nat) : Prop where
  ia : isB S.l a = true
  ib : isB S.l b = true
  ic : isB S.l c = true
  ik : isB S.l k = true
  says : ∀ ρ, den S.l ρ k = if den S.l ρ a then den S.l ρ b else den S.l ρ c
  ge : ∀ v, v ≤ (nd S.l a).v → v ≤ (nd S.l b).v → v ≤ (nd S.l c).v → v ≤ (nd S.l k).v
theorem IteIs.ext {S S' : NS} {a b c k : Nat} (h : IteIs S a b c k) (he : Ext S S') (hW : Wf S) (hW' : Wf S') : IteIs S' a b c k := by
  refine ⟨he.isB h.ia, he.isB h.ib, he.isB h.ic, he.isB h.ik, fun ρ => ?_, fun v => ?_⟩
  · rw [he.den' hW hW' ρ h.ik, he.den' hW hW' ρ h.ia, he.den' hW hW' ρ h.ib, he.den' hW hW' ρ h.ic]; exact h.says ρ
  · rw [he.nds _ h.ik, he.nds _ h.ia, he.nds _ h.ib, he.nds _ h.ic]; exact h.ge v
/-- an entry of the cache -/
structure Fnd where
  is : Bool
  a : Int
  b : Int
  c : Int
  n : Int
def Fnd.no : Fnd := ⟨false, 0, 0, 0, 0⟩
def FndOk (S : NS) (x : Fnd) : Prop := x.is = true → ∃ a b c k : Nat, x.a = (a : Int) ∧ x.b = (b : Int) ∧ x.c = (c : Int) ∧ x.n = (k : Int) ∧ IteIs S a b c k
def CaOk (S : NS) (L : List Fnd) : Prop := ∀ x ∈ L, FndOk S x
theorem FndOk.ext {S S' : NS} {x : Fnd} (h : FndOk S x) (he : Ext S S') (hW : Wf S) (hW' : Wf S') : FndOk S' x := fun hx => by
  obtain ⟨a, b, c, k, e1, e2, e3, e4, hi⟩ := h hx
  exact ⟨a, b, c, k, e1, e2, e3, e4, hi.ext he hW hW'⟩
theorem CaOk.ext {S S' : NS} {L : List Fnd} (h : CaOk S L) (he : Ext S S') (hW : Wf S) (hW' : Wf S') : CaOk S' L := fun x hx => (h x hx).ext he hW hW'
theorem CaOk.none (S : NS) (n : Nat) : CaOk S (List.replicate n Fnd.no) := fun x hx hi => by
  rw [List.eq_of_mem_replicate hx] at hi; cases hi
theorem CaOk.set {S : NS} {L : List Fnd} (h : CaOk S L) (i : Nat) {x : Fnd} (hx : FndOk S x) : CaOk S (L.set i x) := fun y hy => by
  rcases List.mem_or_eq_of_mem_set hy with h1 | h1
  · exact h y h1
  · rw [h1]; exact hx
/-- what Ite of a, b, c gives, all asking nothing ahead of u, f variables from u on -/
structure IteOk (S : NS) (a b c f : Nat) (S' : NS) (k : Nat) : Prop where
  wf : Wf S'
  ext : Ext S S'
  is : IteIs S' a b c k
  cnt : cnt S'.l + 1 ≤ cnt S.l + 2 ^ f
  pin : ∀ j, (nd S'.l j).pins ≤ (nd S.l j).pins
  sw : S'.sweeps = S.sweeps
/-- there was too little room -/
structure IteNo (S : NS) (f : Nat) (S' : NS) : Prop where
  wf : Wf S'
  ext : Ext S S'
  room : S.budget + 2 ≤ cnt S.l + 2 ^ f
  pin : ∀ j, (nd S'.l j).pins ≤ (nd S.l j).pins
  sw : S'.sweeps = S.sweeps
/-- how a node goes on at a variable -/
def sLow (S : NS) (v k : Nat) : Nat := if (nd S.l k).v = v then (nd S.l k).low else k
def sHigh (S : NS) (v k : Nat) : Nat := if (nd S.l k).v = v then (nd S.l k).high else k
theorem leaf_v {S : NS} (hW : Wf S) {k : Nat} (hk : k < 2) : (nd S.l k).v = S.vars := by
  rcases (by omega : k = 0 ∨ k = 1) with rfl | rfl
  · exact hW.v0
  · exact hW.v1
structure SplitOk (S : NS) (v k lo hi : Nat) : Prop where
  ilo : isB S.l lo = true
  ihi : isB S.l hi = true
  vlo : v < (nd S.l lo).v
  vhi : v < (nd S.l hi).v
  says : ∀ ρ, den S.l ρ k = if ρ v then den S.l ρ hi else den S.l ρ lo
theorem split_ok {S : NS} (hW : Wf S) {v k : Nat} (hk : isB S.l k = true) (hv : v < S.vars) (hle : v ≤ (nd S.l k).v) : SplitOk S v k (sLow S v k) (sHigh S v k) := by
  unfold sLow sHigh
  by_cases he : (nd S.l k).v = v
  · rw [if_pos he, if_pos he]
    have h2 : 2 ≤ k := by
      rcases Nat.lt_or_ge k 2 with h | h
      · have := leaf_v hW h; omega
      · exact h
    obtain ⟨a1, a2, a3, a4, a5, a6⟩ := hW.kid k h2 hk
    refine ⟨a3, a4, by omega, by omega, fun ρ => ?_⟩
    rw [den_step hW ρ h2 hk]
    unfold nxt
    rw [he]
    split <;> rfl
  · rw [if_neg he, if_neg he]
    exact ⟨hk, hk, by omega, by omega, fun ρ => by split <;> rfl⟩
theorem IteOk.triv {S : NS} (hW : Wf S) {a b c f k : Nat} (h : IteIs S a b c k) : IteOk S a b c f S k :=
  ⟨hW, Ext.refl _, h, by have := Nat.one_le_two_pow (n := f); omega, fun _ => Nat.le_refl _, rfl⟩
theorem iteIs_one {S : NS} {a b c : Nat} (ha : isB S.l a = true) (hb : isB S.l b = true) (hc : isB S.l c = true) (h : a = 1 ∨ b = c) : IteIs S a b c b := by
  refine ⟨ha, hb, hc, hb, fun ρ => ?_, fun _ _ h _ => h⟩
  rcases h with rfl | rfl
  · rw [den_leaf (k := 1) _ _ (by decide)]; simp
  · simp
theorem iteIs_zero {S : NS} (hW : Wf S) {b c : Nat} (hb : isB S.l b = true) (hc : isB S.l c = true) : IteIs S 0 b c c := by
  refine ⟨hW.is0, hb, hc, hc, fun ρ => ?_, fun _ _ _ h => h⟩
  rw [den_leaf (k := 0) _ _ (by decide)]; simp
theorem iteIs_self {S : NS} (hW : Wf S) {a : Nat} (ha : isB S.l a = true) : IteIs S a 1 0 a := by
  refine ⟨ha, hW.is1, hW.is0, ha, fun ρ => ?_, fun _ h _ _ => h⟩
  rw [den_leaf (k := 0) _ _ (by decide), den_leaf (k := 1) _ _ (by decide)]
  cases den S.l ρ a <;> simp
/-- the two halves, and the node upon them -/
theorem IteOk.node {S S1 S2 S3 : NS} {a b c v f lo hi k : Nat} {x0 x1 y0 y1 z0 z1 : Nat} (hW : Wf S) (ha : isB S.l a = true) (hb : isB S.l b = true) (hc : isB S.l c = true)
    (hm : v = min (nd S.l a).v (min (nd S.l b).v (nd S.l c).v))
    (sa : SplitOk S v a x0 x1) (sb : SplitOk S v b y0 y1) (sc : SplitOk S v c z0 z1)
    (h1 : IteOk S x0 y0 z0 f S1 lo) (h2 : IteOk S1 x1 y1 z1 f S2 hi) (h3 : MkOk S2 v lo hi S3 k) (h4 : S3.sweeps = S2.sweeps) : IteOk S a b c (f + 1) S3 k := by
  have e12 := h1.ext.trans h2.ext
  have e13 := e12.trans h3.ext
  refine ⟨h3.wf, e13, ⟨e13.isB ha, e13.isB hb, e13.isB hc, h3.is, fun ρ => ?_, fun u hu1 hu2 hu3 => ?_⟩, ?_, fun j => Nat.le_trans (h3.pin j) (Nat.le_trans (h2.pin j) (h1.pin j)), by rw [h4, h2.sw, h1.sw]⟩
  · rw [h3.says ρ, h2.is.says ρ, h2.ext.den' h1.wf h2.wf ρ h1.is.ik, h1.is.says ρ, e13.den' hW h3.wf ρ ha, e13.den' hW h3.wf ρ hb, e13.den' hW h3.wf ρ hc, sa.says ρ, sb.says ρ, sc.says ρ]
    rw [e12.den' hW h2.wf ρ sa.ihi, e12.den' hW h2.wf ρ sb.ihi, e12.den' hW h2.wf ρ sc.ihi]
    rw [h1.ext.den' hW h1.wf ρ sa.ilo, h1.ext.den' hW h1.wf ρ sb.ilo, h1.ext.den' hW h1.wf ρ sc.ilo]
    cases ρ v <;> simp
  · rw [e13.nds _ ha] at hu1
    rw [e13.nds _ hb] at hu2
    rw [e13.nds _ hc] at hu3
    have := h3.ge
    omega
  · have := h1.cnt; have := h2.cnt; have := h3.cnt
    rw [Nat.pow_succ]; omega
theorem IteNo.low {S S1 : NS} {f : Nat} (h : IteNo S f S1) : IteNo S (f + 1) S1 := ⟨h.wf, h.ext, by have := h.room; rw [Nat.pow_succ]; omega, h.pin, h.sw⟩
theorem IteNo.high {S S1 S2 : NS} {a b c f k : Nat} (h1 : IteOk S a b c f S1 k) (h : IteNo S1 f S2) : IteNo S (f + 1) S2 :=
  ⟨h.wf, h1.ext.trans h.ext, by have := h.room; have := h1.cnt; rw [h1.ext.budget] at *; rw [Nat.pow_succ]; omega, fun j => Nat.le_trans (h.pin j) (h1.pin j), h.sw.trans h1.sw⟩
theorem IteNo.node {S S1 S2 : NS} {a b c x y z f lo hi : Nat} (h1 : IteOk S a b c f S1 lo) (h2 : IteOk S1 x y z f S2 hi) (h : S2.budget ≤ NP.cnt S2.l) : IteNo S (f + 1) S2 :=
  ⟨h2.wf, h1.ext.trans h2.ext, by have := h1.cnt; have := h2.cnt; rw [h2.ext.budget, h1.ext.budget] at h; rw [Nat.pow_succ]; omega, fun j => Nat.le_trans (h2.pin j) (h1.pin j), h2.sw.trans h1.sw⟩
/-- the node of a half asks nothing ahead of v + 1 -/
theorem IteOk.above {S S1 : NS} {a b c f k v : Nat} (h : IteOk S a b c f S1 k) (ha : v < (nd S.l a).v) (hb : v < (nd S.l b).v) (hc : v < (nd S.l c).v) (ia : isB S.l a = true) (ib : isB S.l b = true) (ic : isB S.l c = true) : v < (nd S1.l k).v := by
  refine h.is.ge (v + 1) ?_ ?_ ?_
  · rw [h.ext.nds _ ia]; exact ha
  · rw [h.ext.nds _ ib]; exact hb
  · rw [h.ext.nds _ ic]; exact hc
theorem SplitOk.ext {S S' : NS} {v k lo hi : Nat} (h : SplitOk S v k lo hi) (he : Ext S S') : isB S'.l hi = true ∧ v < (nd S'.l hi).v := ⟨he.isB h.ihi, by rw [he.nds _ h.ihi]; exact h.vhi⟩
theorem IteOk.mono {S S' : NS} {a b c f g k : Nat} (h : IteOk S a b c f S' k) (hg : f ≤ g) : IteOk S a b c g S' k :=
  ⟨h.wf, h.ext, h.is, by have := h.cnt; have := Nat.pow_le_pow_right (n := 2) (by decide) hg; omega, h.pin, h.sw⟩
theorem IteNo.mono {S S' : NS} {f g : Nat} (h : IteNo S f S') (hg : f ≤ g) : IteNo S g S' :=
  ⟨h.wf, h.ext, by have := h.room; have := Nat.pow_le_pow_right (n := 2) (by decide) hg; omega, h.pin, h.sw⟩
end Go.Proofs.Ytoegenacjhmicaa.NP
