/- Layer 20 in plain Lean: what clone.Number answers (numC), out of the components of the edges' ends. -/
import Derived.Test.YtbancojknahdgaaCloneB
import Derived.Test.YtbancojknahdgaaCloneQ
import Derived.Test.YtbancojknahdgaaCompT
namespace Go.Proofs.Ytbancojknahdgaa
open Go.RowKit CP
/-- numbers of contexts -/
structure Cl where
  comp : List Int
  count : List Int
  edges : List (Int × Int × Int)
  add : List Int
def Cl.none : Cl := ⟨[], [], [], []⟩
def edE (es : List (Int × Int × Int)) : Ed := natE (pairsZ es)
noncomputable def edF (k : Nat) (es : List (Int × Int × Int)) (i : Nat) : Nat := cmp k (edE es) (es.getD i (0, 0, 0)).1.toNat
noncomputable def edT (k : Nat) (es : List (Int × Int × Int)) (i : Nat) : Nat := cmp k (edE es) (es.getD i (0, 0, 0)).2.2.toNat
noncomputable def edM (k : Nat) (es : List (Int × Int × Int)) : Nat := topN (cmpZ k (edE es))
noncomputable def cnE (k mn : Nat) (es : List (Int × Int × Int)) : Nat → Nat := cntF (edF k es) (edT k es) es.length (cmp k (edE es) mn) (edM k es)
noncomputable def adE (k mn : Nat) (es : List (Int × Int × Int)) : Nat → Nat := addF (edF k es) (edT k es) es.length (cmp k (edE es) mn) (edM k es)
noncomputable def fitC (k mn : Nat) (es : List (Int × Int × Int)) (wd : Nat) : Bool := fits (edF k es) (edT k es) es.length (cmp k (edE es) mn) (edM k es) (2 ^ wd - 1)
noncomputable def numC (k mn : Nat) (es : List (Int × Int × Int)) : Cl :=
  ⟨cmpZ k (edE es), (List.range k).map fun v => (cnE k mn es (cmp k (edE es) v) : Int), es, (List.range es.length).map fun i => (adE k mn es i : Int)⟩
theorem edF_at (k : Nat) {es : List (Int × Int × Int)} {i : Nat} {x : Int × Int × Int} (h : es[i]? = some x) : edF k es i = cmp k (edE es) x.1.toNat := by
  unfold edF; rw [List.getD_eq_getElem?_getD, h]; rfl
theorem edT_at (k : Nat) {es : List (Int × Int × Int)} {i : Nat} {x : Int × Int × Int} (h : es[i]? = some x) : edT k es i = cmp k (edE es) x.2.2.toNat := by
  unfold edT; rw [List.getD_eq_getElem?_getD, h]; rfl
theorem edE_mem {es : List (Int × Int × Int)} {x : Int × Int × Int} (h : x ∈ es) : (x.1.toNat, x.2.2.toNat) ∈ edE es := by
  unfold edE natE pairsZ
  rw [List.map_map]
  exact List.mem_map.2 ⟨x, h, rfl⟩
theorem edE_len (es : List (Int × Int × Int)) : (edE es).length = es.length := by unfold edE natE pairsZ; simp
/-- what may be numbered -/
structure MayN (k mn : Nat) (es : List (Int × Int × Int)) (wd : Nat) : Prop where
  k1 : 1 ≤ k
  k2 : k ≤ 1024
  mn1 : mn < k
  len : es.length ≤ 16384
  wd1 : 1 ≤ wd
  wd2 : wd ≤ 62
  ed : ∀ i x, es[i]? = some x → edC (k : Int) es i x = true
theorem mayN_of {n main wd : Int} {es : List (Int × Int × Int)} (h : mayC n main es wd = true) : ∃ k mn w : Nat, n = (k : Int) ∧ main = (mn : Int) ∧ wd = (w : Int) ∧ MayN k mn es w := by
  unfold mayC at h
  simp only [Bool.and_eq_true, decide_eq_true_eq] at h
  obtain ⟨⟨⟨⟨⟨⟨⟨h1, h2⟩, h3⟩, h4⟩, h5⟩, h6⟩, h7⟩, h8⟩ := h
  refine ⟨n.toNat, main.toNat, wd.toNat, by omega, by omega, by omega, by omega, by omega, by omega, h5, by omega, by omega, fun i x hx => ?_⟩
  have hi : i < es.length := (List.getElem?_eq_some_iff.1 hx).1
  unfold edsC at h8
  have := List.all_eq_true.1 h8 i (List.mem_range.2 hi)
  rw [show es.getD i (0, 0, 0) = x from by rw [List.getD_eq_getElem?_getD, hx]; rfl] at this
  rw [Int.toNat_of_nonneg (by omega)]
  exact this
theorem mayN_to {k mn wd : Nat} {es : List (Int × Int × Int)} (h : MayN k mn es wd) : mayC (k : Int) (mn : Int) es (wd : Int) = true := by
  unfold mayC
  have h8 : edsC (k : Int) es es.length = true := by
    unfold edsC
    rw [List.all_eq_true]
    intro j hj
    have hj := List.mem_range.1 hj
    have hx : es[j]? = some es[j] := List.getElem?_eq_getElem hj
    rw [show es.getD j (0, 0, 0) = es[j] from by rw [List.getD_eq_getElem?_getD, hx]; rfl]
    exact h.ed j _ hx
  rw [h8]
  have h1 := h.k1; have h2 := h.k2; have h3 := h.mn1; have h4 := h.len; have h5 := h.wd1; have h6 := h.wd2
  simp; omega
/-- an edge's numbers -/
theorem MayN.at_ {k mn wd : Nat} {es : List (Int × Int × Int)} (h : MayN k mn es wd) {i : Nat} {x : Int × Int × Int} (hx : es[i]? = some x) : ∃ a b c : Nat, x = ((a : Int), (b : Int), (c : Int)) ∧ a < k ∧ c < k ∧ b ≤ 1048576 := by
  have h1 := h.ed i x hx
  unfold edC at h1
  simp only [Bool.and_eq_true, decide_eq_true_eq] at h1
  obtain ⟨⟨⟨⟨⟨⟨a1, a2⟩, a3⟩, a4⟩, a5⟩, a6⟩, _⟩ := h1
  obtain ⟨x0, x1, x2⟩ := x
  simp only at a1 a2 a3 a4 a5 a6
  exact ⟨x0.toNat, x1.toNat, x2.toNat, by rw [Int.toNat_of_nonneg a1, Int.toNat_of_nonneg a5, Int.toNat_of_nonneg a3], by omega, by omega, by omega⟩
theorem MayN.mayG {k mn wd : Nat} {es : List (Int × Int × Int)} (h : MayN k mn es wd) : mayG (k : Int) (pairsZ es) = true := by
  unfold Go.Proofs.Ytbancojknahdgaa.mayG
  have h1 := h.k2; have h2 := h.len
  rw [decide_eq_true (by omega), decide_eq_true (by omega), decide_eq_true (by rw [pairsZ_len]; omega), Bool.true_and, Bool.true_and, Bool.true_and]
  rw [List.all_eq_true]
  intro p hp
  unfold pairsZ at hp
  obtain ⟨x, hx, rfl⟩ := List.mem_map.1 hp
  obtain ⟨i, hi⟩ := List.getElem?_of_mem hx
  obtain ⟨a, b, c, rfl, ha, hc, _⟩ := h.at_ hi
  unfold edZ
  simp; omega
theorem MayN.ok {k mn wd : Nat} {es : List (Int × Int × Int)} (h : MayN k mn es wd) : EdOk (edE es) k := may_ok h.mayG
theorem MayN.top {k mn wd : Nat} {es : List (Int × Int × Int)} (h : MayN k mn es wd) {v : Nat} (hv : v < k) : cmp k (edE es) v < edM k es := (cmpZ_top h.ok hv).1
theorem MayN.topk {k mn wd : Nat} {es : List (Int × Int × Int)} (h : MayN k mn es wd) : edM k es ≤ k := (cmpZ_top h.ok h.mn1).2
theorem MayN.up {k mn wd : Nat} {es : List (Int × Int × Int)} (h : MayN k mn es wd) : Up (edF k es) (edT k es) es.length (edM k es) := fun i hi => by
  have hx : es[i]? = some es[i] := List.getElem?_eq_getElem hi
  obtain ⟨a, b, c, e, ha, hc, _⟩ := h.at_ hx
  rw [edF_at k hx, edT_at k hx, e]
  simp only [Int.toNat_natCast]
  refine ⟨?_, h.top hc⟩
  have := edE_mem (List.mem_of_getElem? hx)
  rw [e] at this
  simp only [Int.toNat_natCast] at this
  exact cmp_edge h.ok this
theorem MayN.maxOf {k mn wd : Nat} {es : List (Int × Int × Int)} (h : MayN k mn es wd) : Lib.maxOf (cmpZ k (edE es)) + 1 = (edM k es : Int) := by
  have hne : cmpZ k (edE es) ≠ [] := by
    intro e
    have := cmpZ_len k (edE es)
    rw [e] at this
    have := h.k1
    simp at *; omega
  unfold edM topN
  rw [if_neg hne]
  have hm := (maxOf_spec hne).2
  obtain ⟨v, _, hv⟩ := List.mem_map.1 hm
  omega
end Go.Proofs.Ytbancojknahdgaa
