/- Layer 20: what clone.Number answers (numC), its counts round by round, and its memory in the last loops (NSt, BoxPost). -/
import Derived.Test.YtbancojknahdgaaCloneA
import Derived.Test.YtbancojknahdgaaCloneP
import Derived.Test.YtbancojknahdgaaCompT
import Derived.Test.YtbancojknahdgaaArith
import Derived.WalkSpells
import Derived.Deep.DeepCutAuto
namespace Go.Proofs.Ytbancojknahdgaa
open Go.RowKit CP
/-- numbers of contexts -/
structure Cl where
  comp : List Int
  count : List Int
  edges : List (Int × Int × Int)
  add : List Int
def Cl.none : Cl := ⟨[], [], [], []⟩
def edE (es : List (Int × Int × Int)) : Ed := natE (pairsZ es)
noncomputable def edF (k : Nat) (es : List (Int × Int × Int)) (i : Nat) : Nat := cmp k (edE es) (es.getD i (0, 0, 0)).1.toNat
noncomputable def edT (k : Nat) (es : List (Int × Int × Int)) (i : Nat) : Nat := cmp k (edE es) (es.getD i (0, 0, 0)).2.2.toNat
noncomputable def edM (k : Nat) (es : List (Int × Int × Int)) : Nat := topN (cmpZ k (edE es))
noncomputable def cnE (k mn : Nat) (es : List (Int × Int × Int)) : Nat → Nat := cntF (edF k es) (edT k es) es.length (cmp k (edE es) mn) (edM k es)
noncomputable def adE (k mn : Nat) (es : List (Int × Int × Int)) : Nat → Nat := addF (edF k es) (edT k es) es.length (cmp k (edE es) mn) (edM k es)
noncomputable def fitC (k mn : Nat) (es : List (Int × Int × Int)) (wd : Nat) : Bool := fits (edF k es) (edT k es) es.length (cmp k (edE es) mn) (edM k es) (2 ^ wd - 1)
noncomputable def numC (k mn : Nat) (es : List (Int × Int × Int)) : Cl :=
  ⟨cmpZ k (edE es), (List.range k).map fun v => (cnE k mn es (cmp k (edE es) v) : Int), es, (List.range es.length).map fun i => (adE k mn es i : Int)⟩
theorem edF_at (k : Nat) {es : List (Int × Int × Int)} {i : Nat} {x : Int × Int × Int} (h : es[i]? = some x) : edF k es i = cmp k (edE es) x.1.toNat := by
  unfold edF; rw [List.getD_eq_getElem?_getD, h]; rfl
theorem edT_at (k : Nat) {es : List (Int × Int × Int)} {i : Nat} {x : Int × Int × Int} (h : es[i]? = some x) : edT k es i = cmp k (edE es) x.2.2.toNat := by
  unfold edT; rw [List.getD_eq_getElem?_getD, h]; rfl
theorem edE_mem {es : List (Int × Int × Int)} {x : Int × Int × Int} (h : x ∈ es) : (x.1.toNat, x.2.2.toNat) ∈ edE es := by
  unfold edE natE pairsZ
  rw [List.map_map]
  exact List.mem_map.2 ⟨x, h, rfl⟩
theorem edE_len (es : List (Int × Int × Int)) : (edE es).length = es.length := by unfold edE natE pairsZ; simp
/-- what may be numbered -/
structure MayN (k mn : Nat) (es : List (Int × Int × Int)) (wd : Nat) : Prop where
  k1 : 1 ≤ k
  k2 : k ≤ 1024
  mn1 : mn < k
  len : es.length ≤ 16384
  wd1 : 1 ≤ wd
  wd2 : wd ≤ 62
  ed : ∀ i x, es[i]? = some x → edC (k : Int) es i x = true
theorem mayN_of {n main wd : Int} {es : List (Int × Int × Int)} (h : mayC n main es wd = true) : ∃ k mn w : Nat, n = (k : Int) ∧ main = (mn : Int) ∧ wd = (w : Int) ∧ MayN k mn es w := by
  unfold mayC at h
  simp only [Bool.and_eq_true, decide_eq_true_eq] at h
  obtain ⟨⟨⟨⟨⟨⟨⟨h1, h2⟩, h3⟩, h4⟩, h5⟩, h6⟩, h7⟩, h8⟩ := h
  refine ⟨n.toNat, main.toNat, wd.toNat, by omega, by omega, by omega, by omega, by omega, by omega, h5, by omega, by omega, fun i x hx => ?_⟩
  have hi : i < es.length := (List.getElem?_eq_some_iff.1 hx).1
  unfold edsC at h8
  have := List.all_eq_true.1 h8 i (List.mem_range.2 hi)
  rw [show es.getD i (0, 0, 0) = x from by rw [List.getD_eq_getElem?_getD, hx]; rfl] at this
  rw [Int.toNat_of_nonneg (by omega)]
  exact this
theorem mayN_to {k mn wd : Nat} {es : List (Int × Int × Int)} (h : MayN k mn es wd) : mayC (k : Int) (mn : Int) es (wd : Int) = true := by
  unfold mayC
  have h8 : edsC (k : Int) es es.length = true := by
    unfold edsC
    rw [List.all_eq_true]
    intro j hj
    have hj := List.mem_range.1 hj
    have hx : es[j]? = some es[j] := List.getElem?_eq_getElem hj
    rw [show es.getD j (0, 0, 0) = es[j] from by rw [List.getD_eq_getElem?_getD, hx]; rfl]
    exact h.ed j _ hx
  rw [h8]
  have h1 := h.k1; have h2 := h.k2; have h3 := h.mn1; have h4 := h.len; have h5 := h.wd1; have h6 := h.wd2
  simp; omega
/-- an edge's numbers -/
theorem MayN.at_ {k mn wd : Nat} {es : List (Int × Int × Int)} (h : MayN k mn es wd) {i : Nat} {x : Int × Int × Int} (hx : es[i]? = some x) : ∃ a b c : Nat, x = ((a : Int), (b : Int), (c : Int)) ∧ a < k ∧ c < k ∧ b ≤ 1048576 := by
  have h1 := h.ed i x hx
  unfold edC at h1
  simp only [Bool.and_eq_true, decide_eq_true_eq] at h1
  obtain ⟨⟨⟨⟨⟨⟨a1, a2⟩, a3⟩, a4⟩, a5⟩, a6⟩, _⟩ := h1
  obtain ⟨x0, x1, x2⟩ := x
  simp only at a1 a2 a3 a4 a5 a6
  exact ⟨x0.toNat, x1.toNat, x2.toNat, by rw [Int.toNat_of_nonneg a1, Int.toNat_of_nonneg a5, Int.toNat_of_nonneg a3], by omega, by omega, by omega⟩
theorem MayN.mayG {k mn wd : Nat} {es : List (Int × Int × Int)} (h : MayN k mn es wd) : mayG (k : Int) (pairsZ es) = true := by
  unfold Go.Proofs.Ytbancojknahdgaa.mayG
  have h1 := h.k2; have h2 := h.len
  rw [decide_eq_true (by omega), decide_eq_true (by omega), decide_eq_true (by rw [pairsZ_len]; omega), Bool.true_and, Bool.true_and, Bool.true_and]
  rw [List.all_eq_true]
  intro p hp
  unfold pairsZ at hp
  obtain ⟨x, hx, rfl⟩ := List.mem_map.1 hp
  obtain ⟨i, hi⟩ := List.getElem?_of_mem hx
  obtain ⟨a, b, c, rfl, ha, hc, _⟩ := h.at_ hi
  unfold edZ
  simp; omega
theorem MayN.ok {k mn wd : Nat} {es : List (Int × Int × Int)} (h : MayN k mn es wd) : EdOk (edE es) k := may_ok h.mayG
theorem MayN.top {k mn wd : Nat} {es : List (Int × Int × Int)} (h : MayN k mn es wd) {v : Nat} (hv : v < k) : cmp k (edE es) v < edM k es := (cmpZ_top h.ok hv).1
theorem MayN.topk {k mn wd : Nat} {es : List (Int × Int × Int)} (h : MayN k mn es wd) : edM k es ≤ k := (cmpZ_top h.ok h.mn1).2
theorem MayN.up {k mn wd : Nat} {es : List (Int × Int × Int)} (h : MayN k mn es wd) : Up (edF k es) (edT k es) es.length (edM k es) := fun i hi => by
  have hx : es[i]? = some es[i] := List.getElem?_eq_getElem hi
  obtain ⟨a, b, c, e, ha, hc, _⟩ := h.at_ hx
  rw [edF_at k hx, edT_at k hx, e]
  simp only [Int.toNat_natCast]
  refine ⟨?_, h.top hc⟩
  have := edE_mem (List.mem_of_getElem? hx)
  rw [e] at this
  simp only [Int.toNat_natCast] at this
  exact cmp_edge h.ok this
theorem MayN.maxOf {k mn wd : Nat} {es : List (Int × Int × Int)} (h : MayN k mn es wd) : Lib.maxOf (cmpZ k (edE es)) + 1 = (edM k es : Int) := by
  have hne : cmpZ k (edE es) ≠ [] := by
    intro e
    have := cmpZ_len k (edE es)
    rw [e] at this
    have := h.k1
    simp at *; omega
  unfold edM topN
  rw [if_neg hne]
  have hm := (maxOf_spec hne).2
  obtain ⟨v, _, hv⟩ := List.mem_map.1 hm
  omega
end Go.Proofs.Ytbancojknahdgaa
namespace Go.Proofs.Ytbancojknahdgaa.CP
variable {fc tc : Nat → Nat} {L mc m : Nat}
/-- the counts, behind so many edges into component c -/
def pcnt (fc tc : Nat → Nat) (L mc m c q : Nat) (v : Nat) : Nat :=
  if v < c then cntF fc tc L mc m v else if v = c then (if c = mc then 1 else 0) + lsum fc (cntF fc tc L mc m) ((inL fc tc c L).take q) else if v = mc then 1 else 0
/-- what the edges add, as far as they are told -/
def padd (fc tc : Nat → Nat) (L mc m c q : Nat) (j : Nat) : Nat := if tc j < c ∨ j ∈ (inL fc tc c L).take q then addF fc tc L mc m j else 0
theorem pcnt_start : pcnt fc tc L mc m 0 0 = fun v => if v = mc then 1 else 0 := by
  funext v
  unfold pcnt
  by_cases h : v = 0
  · subst h; simp [lsum_nil]
  · simp [h]
theorem pcnt_next (h : Up fc tc L m) {c : Nat} (hc : c < m) : pcnt fc tc L mc m c (inL fc tc c L).length = pcnt fc tc L mc m (c + 1) 0 := by
  funext v
  unfold pcnt
  rw [List.take_length, List.take_zero, lsum_nil, ← cnt_eq h hc]
  by_cases h1 : v < c
  · have h2 : v < c + 1 := by omega
    simp only [h1, h2, if_true]
  · by_cases h2 : v = c
    · subst h2; simp
    · have h3 : ¬ v < c + 1 := by omega
      simp only [h1, h2, h3, if_false]
      by_cases h4 : v = c + 1
      · subst h4; simp
      · simp only [h4, if_false]
theorem pcnt_old {c q v : Nat} (h : v < c) : pcnt fc tc L mc m c q v = cntF fc tc L mc m v := by unfold pcnt; rw [if_pos h]
theorem pcnt_at (c q : Nat) : pcnt fc tc L mc m c q c = (if c = mc then 1 else 0) + lsum fc (cntF fc tc L mc m) ((inL fc tc c L).take q) := by unfold pcnt; rw [if_neg (Nat.lt_irrefl _), if_pos rfl]
theorem pcnt_step {c q j : Nat} (hj : (inL fc tc c L)[q]? = some j) : pcnt fc tc L mc m c (q + 1) = fup (pcnt fc tc L mc m c q) c (pcnt fc tc L mc m c q c + cntF fc tc L mc m (fc j)) := by
  funext v
  by_cases h2 : v = c
  · subst h2
    rw [fup_same, pcnt_at, pcnt_at, lsum_step hj]; omega
  · rw [fup_ne _ _ h2]
    unfold pcnt
    by_cases h1 : v < c
    · rw [if_pos h1, if_pos h1]
    · rw [if_neg h1, if_neg h1, if_neg h2, if_neg h2]
theorem pcnt_skip {c q j : Nat} (hj : (inL fc tc c L)[q]? = some j) (h0 : cntF fc tc L mc m (fc j) = 0) : pcnt fc tc L mc m c (q + 1) = pcnt fc tc L mc m c q := by
  rw [pcnt_step hj, h0, Nat.add_zero]
  funext v
  by_cases e : v = c
  · subst e; rw [fup_same]
  · rw [fup_ne _ _ e]
/-- a count on the way is not above the count -/
theorem pcnt_le (h : Up fc tc L m) {c q j : Nat} (hc : c < m) (hj : (inL fc tc c L)[q]? = some j) : pcnt fc tc L mc m c q c + cntF fc tc L mc m (fc j) ≤ cntF fc tc L mc m c := by
  rw [pcnt_at, cnt_eq h hc]
  have h1 := lsum_step (fc := fc) (cn := cntF fc tc L mc m) hj
  have h2 := lsum_take fc (cntF fc tc L mc m) (inL fc tc c L) (q + 1)
  omega
theorem padd_start {j : Nat} : padd fc tc L mc m 0 0 j = 0 := by unfold padd; rw [List.take_zero, if_neg]; simp
theorem padd_next {c j : Nat} (hj : j < L) : padd fc tc L mc m c (inL fc tc c L).length j = padd fc tc L mc m (c + 1) 0 j := by
  unfold padd
  rw [List.take_length, List.take_zero]
  by_cases h : tc j < c + 1
  · have e2 : tc j < c + 1 ∨ j ∈ ([] : List Nat) := .inl h
    by_cases h1 : tc j < c ∨ j ∈ inL fc tc c L
    · rw [if_pos h1]; exact (if_pos e2).symm
    · rw [if_neg h1]
      refine Eq.symm ((if_pos e2).trans ?_)
      unfold addF
      exact if_pos (.inl (Classical.byContradiction fun hne => h1 (.inr (mem_inL.2 ⟨hj, by omega, fun e => hne (by omega)⟩))))
  · have e2 : ¬ (tc j < c + 1 ∨ j ∈ ([] : List Nat)) := by simp; omega
    have e1 : ¬ (tc j < c ∨ j ∈ inL fc tc c L) := by
      rintro (h1 | h1)
      · omega
      · have := (mem_inL.1 h1).2.1; omega
    rw [if_neg e1]; exact (if_neg e2).symm
theorem inL_nodup (fc tc : Nat → Nat) (c i : Nat) : (inL fc tc c i).Nodup := by
  unfold inL; exact List.Pairwise.filter _ List.nodup_range
theorem padd_step {c q j : Nat} (hj : (inL fc tc c L)[q]? = some j) (h0 : cntF fc tc L mc m (fc j) ≠ 0) : padd fc tc L mc m c (q + 1) = fup (padd fc tc L mc m c q) j (pcnt fc tc L mc m c q c) := by
  obtain ⟨h1, h2, h3⟩ := mem_inL.1 (List.mem_of_getElem? hj)
  have e : (inL fc tc c L).take (q + 1) = (inL fc tc c L).take q ++ [j] := by rw [List.take_add_one, hj]; rfl
  funext v
  by_cases hv : v = j
  · subst hv
    rw [fup_same, pcnt_at]
    unfold padd
    rw [e, if_pos (by simp)]
    unfold addF
    rw [if_neg (by intro h; rcases h with h | h; exact h3 (by omega); exact h0 h), h2, inL_at hj]
  · rw [fup_ne _ _ hv]
    unfold padd
    rw [e]
    by_cases h4 : tc v < c ∨ v ∈ (inL fc tc c L).take q
    · rw [if_pos h4, if_pos]
      rcases h4 with h4 | h4
      · exact .inl h4
      · exact .inr (List.mem_append_left _ h4)
    · rw [if_neg h4, if_neg]
      rintro (h5 | h5)
      · exact h4 (.inl h5)
      · rcases List.mem_append.1 h5 with h5 | h5
        · exact h4 (.inr h5)
        · simp at h5; exact hv h5
theorem padd_skip {c q j : Nat} (hj : (inL fc tc c L)[q]? = some j) (h0 : cntF fc tc L mc m (fc j) = 0) : padd fc tc L mc m c (q + 1) = padd fc tc L mc m c q := by
  have e : (inL fc tc c L).take (q + 1) = (inL fc tc c L).take q ++ [j] := by rw [List.take_add_one, hj]; rfl
  funext v
  unfold padd
  rw [e]
  by_cases h4 : tc v < c ∨ v ∈ (inL fc tc c L).take q
  · rw [if_pos h4, if_pos]
    rcases h4 with h4 | h4
    · exact .inl h4
    · exact .inr (List.mem_append_left _ h4)
  · rw [if_neg h4]
    by_cases hv : v = j
    · subst hv
      rw [if_pos (by simp)]
      unfold addF
      rw [if_pos (.inr h0)]
    · rw [if_neg]
      rintro (h5 | h5)
      · exact h4 (.inl h5)
      · rcases List.mem_append.1 h5 with h5 | h5
        · exact h4 (.inr h5)
        · simp at h5; exact hv h5
theorem padd_all (h : Up fc tc L m) {j : Nat} (hj : j < L) : padd fc tc L mc m m 0 j = addF fc tc L mc m j := by
  unfold padd
  rw [if_pos (.inl (h j hj).2)]
end Go.Proofs.Ytbancojknahdgaa.CP
namespace Go.Proofs.Ytbancojknahdgaa
open Go.RowKit CP
def boxN : Array Value := #[.slice none 0 0, .slice none 0 0, .slice none 0 0, .slice none 0 0]
theorem boxA1 {w w8 : World} (hb : Below (w.alloc (.cells #[.slice none 0 0, .slice none 0 0, .slice none 0 0, .slice none 0 0] 27)).drew.heap.size (w.alloc (.cells #[.slice none 0 0, .slice none 0 0, .slice none 0 0, .slice none 0 0] 27)).drew w8) : Blk w8 w.heap.size 27 #[.slice none 0 0, .slice none 0 0, .slice none 0 0, .slice none 0 0] :=
  (Blk.new_ w 27 _).drew_.below hb (Blk.new_ w 27 _).lt
theorem boxA2 {w w8 : World} {o : Obj} (hb : Below ((w.alloc (.cells #[.slice none 0 0, .slice none 0 0, .slice none 0 0, .slice none 0 0] 27)).alloc o).drew.heap.size ((w.alloc (.cells #[.slice none 0 0, .slice none 0 0, .slice none 0 0, .slice none 0 0] 27)).alloc o).drew w8) : Blk w8 w.heap.size 27 #[.slice none 0 0, .slice none 0 0, .slice none 0 0, .slice none 0 0] :=
  ((Blk.new_ w 27 _).alloc_ o).drew_.below hb ((Blk.new_ w 27 _).alloc_ o).lt
theorem boxA3 {w w8 : World} {o : Obj} (hb : Below ((w.alloc o).alloc (.cells #[.slice none 0 0, .slice none 0 0, .slice none 0 0, .slice none 0 0] 27)).drew.heap.size ((w.alloc o).alloc (.cells #[.slice none 0 0, .slice none 0 0, .slice none 0 0, .slice none 0 0] 27)).drew w8) : Blk w8 (w.heap.size + 1) 27 #[.slice none 0 0, .slice none 0 0, .slice none 0 0, .slice none 0 0] := by
  have h := (Blk.new_ (w.alloc o) 27 #[.slice none 0 0, .slice none 0 0, .slice none 0 0, .slice none 0 0]).drew_
  have e : (w.alloc o).heap.size = w.heap.size + 1 := by simp
  rw [e] at h
  exact h.below hb h.lt
/-- what region 23 leaves: the answer's box, the copied edges, and zeros -/
def BoxPost (w7 : World) (N : Nat) (v1 : Value) (es : List (Int × Int × Int)) (x : Value) (wc : World) : Prop :=
  ∃ p ba ea2 ec2, x = .pointer (some ⟨p, 0, none⟩) ∧ Blk wc p 27 #[v1, .slice none 0 0, .slice ea2 N ec2, .slice (some ⟨ba, 0, none⟩) N N] ∧ Blk wc ba 3 (tabI N fun _ => 0) ∧ wc.ownsRow w7.heap.size 50 3 (.slice ea2 N ec2) N (es.flatMap keyCells) ∧ Below w7.heap.size w7 wc ∧ w7.heap.size ≤ p ∧ w7.heap.size ≤ ba
section
variable {w7 w8 : World} {N : Nat} {v1 : Value} {es : List (Int × Int × Int)} {oa : Option Addr} {oc : Nat}
abbrev OwnE (W w8 : World) (N : Nat) (es : List (Int × Int × Int)) (oa : Option Addr) (oc : Nat) : Prop := Below W.drew.heap.size W.drew w8 ∧ w8.ownsRow W.drew.heap.size 50 3 (.slice oa N oc) N (es.flatMap keyCells)
abbrev boxZ : Obj := .cells #[.slice none 0 0, .slice none 0 0, .slice none 0 0, .slice none 0 0] 27
theorem set4 {w : World} {b : Nat} {t : TypeId} {y0 y1 y2 y3 x0 x1 x2 x3 : Value} (h : Blk w b t #[y0, y1, y2, y3]) : Blk ((((w.setCell ⟨b, 0, none⟩ x0).setCell ⟨b, 1, none⟩ x1).setCell ⟨b, 2, none⟩ x2).setCell ⟨b, 3, none⟩ x3) b t #[x0, x1, x2, x3] := (((h.set_ 0 x0).set_ 1 x1).set_ 2 x2).set_ 3 x3
theorem al_size (w : World) (o : Obj) : (w.alloc o).heap.size = w.heap.size + 1 := by simp
theorem bw (w : World) (o : Obj) : Below w.heap.size w (w.alloc o).drew := ((Below.refl _ _).alloc (Nat.le_refl _) _).drew
theorem bw2 (w : World) (o q : Obj) : Below w.heap.size w ((w.alloc o).alloc q).drew := (((Below.refl _ _).alloc (Nat.le_refl _) _).alloc (by simp) _).drew
theorem bp1 (h : OwnE w7 w8 N es oa oc) : BoxPost w7 N v1 es (.pointer (some ⟨w8.heap.size + 1, 0, none⟩)) ((w8.alloc (.cells (tabI N fun _ => 0) 3)).alloc (.cells #[v1, .slice none 0 0, .slice oa N oc, .slice (some ⟨w8.heap.size, 0, none⟩) N N] 27)) := by
  obtain ⟨hb, hr⟩ := h
  have hs : w7.heap.size ≤ w8.heap.size := hb.size
  have k := Blk.new_ (w8.alloc (.cells (tabI N fun _ => 0) 3)) 27 #[v1, .slice none 0 0, .slice oa N oc, .slice (some ⟨w8.heap.size, 0, none⟩) N N]
  rw [al_size] at k
  exact ⟨_, _, _, _, rfl, k, (Blk.new_ w8 _ _).alloc_ _, own_base ((hr.alloc _).alloc _) (Nat.le_refl _), ((((Below.refl _ _).drew.trans hb).alloc hs _).alloc (by rw [al_size]; exact Nat.le_succ_of_le hs) _), Nat.le_succ_of_le hs, hs⟩
theorem bp2 (h : OwnE w7 w8 N es oa oc) : BoxPost w7 N v1 es (.pointer (some ⟨w8.heap.size, 0, none⟩)) ((w8.alloc (.cells #[v1, .slice none 0 0, .slice oa N oc, .slice (some ⟨w8.heap.size + 1, 0, none⟩) N N] 27)).alloc (.cells (tabI N fun _ => 0) 3)) := by
  obtain ⟨hb, hr⟩ := h
  have hs : w7.heap.size ≤ w8.heap.size := hb.size
  have k := Blk.new_ (w8.alloc (.cells #[v1, .slice none 0 0, .slice oa N oc, .slice (some ⟨w8.heap.size + 1, 0, none⟩) N N] 27)) 3 (tabI N fun _ => 0)
  rw [al_size] at k
  exact ⟨_, _, _, _, rfl, (Blk.new_ w8 _ _).alloc_ _, k, own_base ((hr.alloc _).alloc _) (Nat.le_refl _), ((((Below.refl _ _).drew.trans hb).alloc hs _).alloc (by rw [al_size]; exact Nat.le_succ_of_le hs) _), hs, Nat.le_succ_of_le hs⟩
theorem bp3 (h : OwnE (w7.alloc (.cells (tabI N fun _ => 0) 3)) w8 N es oa oc) : BoxPost w7 N v1 es (.pointer (some ⟨w8.heap.size, 0, none⟩)) (w8.alloc (.cells #[v1, .slice none 0 0, .slice oa N oc, .slice (some ⟨w7.heap.size, 0, none⟩) N N] 27)) := by
  obtain ⟨hb, hr⟩ := h
  have k := (Blk.new_ w7 3 (tabI N fun _ => 0)).drew_
  have hs : (w7.alloc (.cells (tabI N fun _ => 0) 3)).drew.heap.size ≤ w8.heap.size := hb.size
  have hs2 : w7.heap.size + 1 ≤ w8.heap.size := by rw [← al_size w7 (.cells (tabI N fun _ => 0) 3)]; exact hs
  exact ⟨_, _, _, _, rfl, Blk.new_ w8 _ _, (k.below hb k.lt).alloc_ _, own_base (hr.alloc _) (bw w7 _).size, ((bw w7 _).trans (hb.mono (bw w7 _).size)).alloc (by omega) _, by omega, Nat.le_refl _⟩
theorem bp4 (h : OwnE ((w7.alloc (.cells (tabI N fun _ => 0) 3)).alloc boxZ) w8 N es oa oc) : BoxPost w7 N v1 es (.pointer (some ⟨w7.heap.size + 1, 0, none⟩)) ((((w8.setCell ⟨w7.heap.size + 1, 0, none⟩ v1).setCell ⟨w7.heap.size + 1, 1, none⟩ (.slice none 0 0)).setCell ⟨w7.heap.size + 1, 2, none⟩ (.slice oa N oc)).setCell ⟨w7.heap.size + 1, 3, none⟩ (.slice (some ⟨w7.heap.size, 0, none⟩) N N)) := by
  obtain ⟨hb, hr⟩ := h
  have k1 := ((Blk.new_ w7 3 (tabI N fun _ => 0)).alloc_ boxZ).drew_
  have k2 := (Blk.new_ (w7.alloc (.cells (tabI N fun _ => 0) 3)) 27 #[.slice none 0 0, .slice none 0 0, .slice none 0 0, .slice none 0 0]).drew_
  rw [al_size] at k2
  replace k1 := k1.below hb k1.lt
  replace k2 := Blk.below k2 hb k2.lt
  have hne := own_ne_blk hr k2 (by decide)
  have hr2 := own_far (own_far (own_far (own_far hr (a := ⟨w7.heap.size + 1, 0, none⟩) (fun e => hne e.symm) v1) (a := ⟨w7.heap.size + 1, 1, none⟩) (fun e => hne e.symm) (.slice none 0 0)) (a := ⟨w7.heap.size + 1, 2, none⟩) (fun e => hne e.symm) (.slice oa N oc)) (a := ⟨w7.heap.size + 1, 3, none⟩) (fun e => hne e.symm) (.slice (some ⟨w7.heap.size, 0, none⟩) N N)
  exact ⟨_, _, _, _, rfl, set4 k2, (((k1.far (by simp) _).far (by simp) _).far (by simp) _).far (by simp) _, own_base hr2 (bw2 w7 _ _).size, ((((((bw2 w7 _ _).trans (hb.mono (bw2 w7 _ _).size)).setCell (by simp) _).setCell (by simp) _).setCell (by simp) _).setCell (by simp) _), by omega, Nat.le_refl _⟩
theorem bp5 (h : OwnE (w7.alloc boxZ) w8 N es oa oc) : BoxPost w7 N v1 es (.pointer (some ⟨w7.heap.size, 0, none⟩)) (((((w8.setCell ⟨w7.heap.size, 0, none⟩ v1).setCell ⟨w7.heap.size, 1, none⟩ (.slice none 0 0)).setCell ⟨w7.heap.size, 2, none⟩ (.slice oa N oc)).setCell ⟨w7.heap.size, 3, none⟩ (.slice (some ⟨w8.heap.size, 0, none⟩) N N)).alloc (.cells (tabI N fun _ => 0) 3)) := by
  obtain ⟨hb, hr⟩ := h
  have k2 := (Blk.new_ w7 27 #[.slice none 0 0, .slice none 0 0, .slice none 0 0, .slice none 0 0]).drew_
  replace k2 := Blk.below k2 hb k2.lt
  have hl := k2.lt
  have hne := own_ne_blk hr k2 (by decide)
  have hr2 := own_far (own_far (own_far (own_far hr (a := ⟨w7.heap.size, 0, none⟩) (fun e => hne e.symm) v1) (a := ⟨w7.heap.size, 1, none⟩) (fun e => hne e.symm) (.slice none 0 0)) (a := ⟨w7.heap.size, 2, none⟩) (fun e => hne e.symm) (.slice oa N oc)) (a := ⟨w7.heap.size, 3, none⟩) (fun e => hne e.symm) (.slice (some ⟨w8.heap.size, 0, none⟩) N N)
  have k3 := Blk.new_ ((((w8.setCell ⟨w7.heap.size, 0, none⟩ v1).setCell ⟨w7.heap.size, 1, none⟩ (.slice none 0 0)).setCell ⟨w7.heap.size, 2, none⟩ (.slice oa N oc)).setCell ⟨w7.heap.size, 3, none⟩ (.slice (some ⟨w8.heap.size, 0, none⟩) N N)) 3 (tabI N fun _ => 0)
  have es : ((((w8.setCell ⟨w7.heap.size, 0, none⟩ v1).setCell ⟨w7.heap.size, 1, none⟩ (.slice none 0 0)).setCell ⟨w7.heap.size, 2, none⟩ (.slice oa N oc)).setCell ⟨w7.heap.size, 3, none⟩ (.slice (some ⟨w8.heap.size, 0, none⟩) N N)).heap.size = w8.heap.size := by simp
  rw [es] at k3
  exact ⟨_, _, _, _, rfl, (set4 k2).alloc_ _, k3, own_base (hr2.alloc _) (bw w7 _).size, ((((((bw w7 _).trans (hb.mono (bw w7 _).size)).setCell (by simp) _).setCell (by simp) _).setCell (by simp) _).setCell (by simp) _).alloc (by rw [es]; omega) _, Nat.le_refl _, by omega⟩
theorem bp6 (h : OwnE ((w7.alloc boxZ).alloc (.cells (tabI N fun _ => 0) 3)) w8 N es oa oc) : BoxPost w7 N v1 es (.pointer (some ⟨w7.heap.size, 0, none⟩)) ((((w8.setCell ⟨w7.heap.size, 0, none⟩ v1).setCell ⟨w7.heap.size, 1, none⟩ (.slice none 0 0)).setCell ⟨w7.heap.size, 2, none⟩ (.slice oa N oc)).setCell ⟨w7.heap.size, 3, none⟩ (.slice (some ⟨w7.heap.size + 1, 0, none⟩) N N)) := by
  obtain ⟨hb, hr⟩ := h
  have k2 := ((Blk.new_ w7 27 #[.slice none 0 0, .slice none 0 0, .slice none 0 0, .slice none 0 0]).alloc_ (.cells (tabI N fun _ => 0) 3)).drew_
  have k1 := (Blk.new_ (w7.alloc boxZ) 3 (tabI N fun _ => 0)).drew_
  rw [al_size] at k1
  replace k1 := Blk.below k1 hb k1.lt
  replace k2 := Blk.below k2 hb k2.lt
  have hne := own_ne_blk hr k2 (by decide)
  have hr2 := own_far (own_far (own_far (own_far hr (a := ⟨w7.heap.size, 0, none⟩) (fun e => hne e.symm) v1) (a := ⟨w7.heap.size, 1, none⟩) (fun e => hne e.symm) (.slice none 0 0)) (a := ⟨w7.heap.size, 2, none⟩) (fun e => hne e.symm) (.slice oa N oc)) (a := ⟨w7.heap.size, 3, none⟩) (fun e => hne e.symm) (.slice (some ⟨w7.heap.size + 1, 0, none⟩) N N)
  exact ⟨_, _, _, _, rfl, set4 k2, (((k1.far (by simp) _).far (by simp) _).far (by simp) _).far (by simp) _, own_base hr2 (bw2 w7 _ _).size, ((((((bw2 w7 _ _).trans (hb.mono (bw2 w7 _ _).size)).setCell (by simp) _).setCell (by simp) _).setCell (by simp) _).setCell (by simp) _), Nat.le_refl _, by omega⟩
end
theorem own_low {w : World} {base e size n g : Nat} {v : Value} {xs : List Value} (h : w.ownsRow base e size v n xs) (hg : g < base) : some g ≠ v.ownBlock := fun he => by have := (h.lt g he.symm).1; omega
/-- the memory of the last loops -/
structure NSt (w5 wr : World) (m N bc p ba B : Nat) (v1 y v3 : Value) (ys : List Value) (es : List (Int × Int × Int)) (f g : Nat → Nat) : Prop where
  bel : Below w5.heap.size w5 wr
  cb : Blk wr bc 3 (tabI m f)
  ab : Blk wr ba 3 (tabI N g)
  pb : Blk wr p 27 #[v1, y, v3, .slice (some ⟨ba, 0, none⟩) N N]
  ed : wr.ownsRow w5.heap.size 50 3 v3 N (es.flatMap keyCells)
  row : wr.ownsRow B 3 1 y ys.length ys
  lc : w5.heap.size ≤ bc
  la : w5.heap.size ≤ ba
  lp : w5.heap.size ≤ p
  ne : bc ≠ ba
  cB : bc < B
  aB : ba < B
  Bw : B ≤ wr.heap.size
section
variable {w5 wr w' : World} {m N bc p ba B : Nat} {v1 y v3 : Value} {ys : List Value} {es : List (Int × Int × Int)} {f g : Nat → Nat}
theorem NSt.below (h : NSt w5 wr m N bc p ba B v1 y v3 ys es f g) (hb : Below wr.heap.size wr w') : NSt w5 w' m N bc p ba B v1 y v3 ys es f g :=
  ⟨h.bel.trans (hb.mono h.bel.size), h.cb.below hb h.cb.lt, h.ab.below hb h.ab.lt, h.pb.below hb h.pb.lt, own_below h.ed hb, own_below h.row hb, h.lc, h.la, h.lp, h.ne, h.cB, h.aB, Nat.le_trans h.Bw hb.size⟩
theorem NSt.storeC (h : NSt w5 wr m N bc p ba B v1 y v3 ys es f g) {c : Nat} (hc : c < m) (v : Nat) : NSt w5 (wr.setCell ⟨bc, c, none⟩ (.int .i64 (v : Int))) m N bc p ba B v1 y v3 ys es (fup f c v) g := by
  refine ⟨h.bel.setCell h.lc _, ?_, h.ab.far h.ne.symm _, h.pb.far (Blk.ne h.pb h.cb (by decide)) _, own_far h.ed (fun e => own_ne_blk h.ed h.cb (by decide) e.symm) _, own_far h.row (fun e => own_low h.row h.cB e.symm) _, h.lc, h.la, h.lp, h.ne, h.cB, h.aB, by simpa using h.Bw⟩
  have := h.cb.set_ c (.int .i64 (v : Int)); rw [tabI_set _ hc] at this; exact this
theorem NSt.storeA (h : NSt w5 wr m N bc p ba B v1 y v3 ys es f g) {c : Nat} (hc : c < N) (v : Nat) : NSt w5 (wr.setCell ⟨ba, c, none⟩ (.int .i64 (v : Int))) m N bc p ba B v1 y v3 ys es f (fup g c v) := by
  refine ⟨h.bel.setCell h.la _, h.cb.far h.ne _, ?_, h.pb.far (Blk.ne h.pb h.ab (by decide)) _, own_far h.ed (fun e => own_ne_blk h.ed h.ab (by decide) e.symm) _, own_far h.row (fun e => own_low h.row h.aB e.symm) _, h.lc, h.la, h.lp, h.ne, h.cB, h.aB, by simpa using h.Bw⟩
  have := h.ab.set_ c (.int .i64 (v : Int)); rw [tabI_set _ hc] at this; exact this
theorem NSt.grow (h : NSt w5 wr m N bc p ba B v1 y v3 ys es f g) {y' x : Value} {ad : Addr} (hown : w'.ownsRow B 3 1 y' (ys.length + 1) (ys ++ [x])) (hg : wr.grownBy w' y.ownBlock) (hB : w5.heap.size ≤ B) (hap : ad = ⟨p, 1, none⟩) : NSt w5 (w'.setCell ad y') m N bc p ba B v1 y' v3 (ys ++ [x]) es f g := by
  subst hap
  have kp := h.pb.grown hg (own_ne_blk h.row h.pb (by decide))
  have kc := h.cb.grown hg (own_low h.row h.cB)
  have ka := h.ab.grown hg (own_low h.row h.aB)
  have ke := h.ed.kept hg (own_ne_own h.ed h.row (by decide))
  refine ⟨(h.bel.grown hg h.bel.size (fun b hb => Nat.le_trans hB (h.row.lt b hb).1)).setCell h.lp _, kc.far (Blk.ne kc kp (by decide)) _, ka.far (Blk.ne ka kp (by decide)) _, kp.set_ 1 y', own_far ke (fun e => own_ne_blk ke kp (by decide) e.symm) _, ?_, h.lc, h.la, h.lp, h.ne, h.cB, h.aB, by simpa using Nat.le_trans h.Bw hg.size⟩
  rw [List.length_append]
  exact own_far hown (fun e => own_ne_blk hown kp (by decide) e.symm) _
end
theorem tabI_congr {n : Nat} {f g : Nat → Nat} (h : ∀ i, i < n → f i = g i) : tabI n f = tabI n g := by
  unfold tabI tabV
  congr 1
  exact List.map_congr_left fun i hi => by rw [h i (List.mem_range.1 hi)]
theorem NSt.congr {w5 wr : World} {m N bc p ba B : Nat} {v1 y v3 : Value} {ys : List Value} {es : List (Int × Int × Int)} {f g f' g' : Nat → Nat} (h : NSt w5 wr m N bc p ba B v1 y v3 ys es f g) (hf : ∀ i, i < m → f i = f' i) (hg : ∀ i, i < N → g i = g' i) : NSt w5 wr m N bc p ba B v1 y v3 ys es f' g' :=
  ⟨h.bel, by rw [← tabI_congr hf]; exact h.cb, by rw [← tabI_congr hg]; exact h.ab, h.pb, h.ed, h.row, h.lc, h.la, h.lp, h.ne, h.cB, h.aB, h.Bw⟩
theorem cells_far {w : World} {b off : Nat} {xs : List Value} (h : Cells w (some ⟨b, off, none⟩) xs) {a : Addr} (hne : b ≠ a.block) (u : Value) : Cells (w.setCell a u) (some ⟨b, off, none⟩) xs := fun hx => by
  obtain ⟨b', o', e, hb, hc⟩ := h hx
  injection e with e
  injection e with e1 e2 _
  subst e1 e2
  exact ⟨b, off, rfl, by simpa using hb, fun i v hv => (World.cell?_of_block (Below.heap_setCell w a u b hne)).trans (hc i v hv)⟩
end Go.Proofs.Ytbancojknahdgaa
