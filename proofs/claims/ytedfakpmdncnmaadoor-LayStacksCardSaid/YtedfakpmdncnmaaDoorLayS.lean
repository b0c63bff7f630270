/- Layer 7 in plain Lean: an order that is read name by name. -/
import Derived.Test.YtedfakpmdncnmaaDoorLayQ
namespace Go.Proofs.YtedfakpmdncnmaaDoor.LY
theorem nodup_perm {n : Nat} {l : List Nat} (hn : l.Nodup) (hl : ∀ k ∈ l, k < n) : l.Perm ((List.range n).filter fun k => decide (k ∈ l)) := by
  refine (List.perm_ext_iff_of_nodup hn ((List.nodup_range).filter _)).2 fun k => ?_
  rw [List.mem_filter, List.mem_range, decide_eq_true_eq]
  exact ⟨fun h => ⟨hl k h, h⟩, fun h => h.2⟩
theorem nodup_len {n : Nat} {l : List Nat} (hn : l.Nodup) (hl : ∀ k ∈ l, k < n) : l.length ≤ n := by
  rw [(nodup_perm hn hl).length_eq]
  exact Nat.le_trans (List.length_filter_le _ _) (by simp)
theorem sum_filter (f : Nat → Nat) (p : Nat → Bool) : ∀ l : List Nat, ((l.filter p).map f).sum ≤ (l.map f).sum
  | [] => Nat.le_refl _
  | x :: l => by
    have := sum_filter f p l
    rw [List.filter_cons]
    split
    · rw [List.map_cons, List.map_cons, List.sum_cons, List.sum_cons]; omega
    · rw [List.map_cons, List.sum_cons]; omega
theorem allW_eq (doms : List Dm) : ((List.range doms.length).map (wF doms)).sum = allW doms := by
  unfold allW
  congr 1
  refine List.ext_getElem? fun i => ?_
  rw [List.getElem?_map, List.getElem?_map]
  by_cases h : i < doms.length
  · rw [List.getElem?_range h, at_get h]; rfl
  · rw [List.getElem?_eq_none (by simpa using h), List.getElem?_eq_none (by omega)]; rfl
theorem sum_le {doms : List Dm} {l : List Nat} (hn : l.Nodup) (hl : ∀ k ∈ l, k < doms.length) : (l.map (wF doms)).sum ≤ allW doms := by
  rw [← allW_eq, ((nodup_perm hn hl).map (wF doms)).sum_nat]
  exact sum_filter _ _ _
theorem sum_all {doms : List Dm} {l : List Nat} (hn : l.Nodup) (hl : ∀ k ∈ l, k < doms.length) (ha : l.length = doms.length) : (l.map (wF doms)).sum = allW doms := by
  have hp := nodup_perm hn hl
  have hf : (List.range doms.length).filter (fun k => decide (k ∈ l)) = List.range doms.length := by
    refine List.filter_eq_self.2 fun k hk => ?_
    have hlen : ((List.range doms.length).filter fun k => decide (k ∈ l)).length = (List.range doms.length).length := by rw [← hp.length_eq, ha, List.length_range]
    exact List.length_filter_eq_length_iff.1 hlen k hk
  rw [hf] at hp
  rw [(hp.map (wF doms)).sum_nat, allW_eq]
theorem wF_le {doms : List Dm} (h : mayB doms = true) {k : Nat} (hk : k < doms.length) : wF doms k ≤ 30 := widD_le ((may_iff.1 h).1 _ (List.mem_of_getElem? (at_get hk)))
/-- the first i groups of an order, and the first j names of the next one, are read -/
structure Rd (doms : List Dm) (s : List UInt8) (gs : List (List Nat)) (g : List (List UInt8)) (lst : List Nat) : Prop where
  grp : (groupsT s).take gs.length = gs.map fun g => g.map (nm doms)
  here : (groupsT s)[gs.length]? = some g
  pre : g.take lst.length = lst.map (nm doms)
  lt : ∀ k ∈ gs.flatten ++ lst, k < doms.length
  nod : (gs.flatten ++ lst).Nodup
theorem Rd.other {doms : List Dm} {s : List UInt8} {gs gs' : List (List Nat)} {g : List (List UInt8)} {lst : List Nat} (hm : mayB doms = true) (h : Rd doms s gs g lst) (h' : OrderIs doms s gs') :
    gs'.take gs.length = gs ∧ ∃ g', gs'[gs.length]? = some g' ∧ g = g'.map (nm doms) ∧ g'.take lst.length = lst := by
  have e1 : (gs'.take gs.length).map (fun g => g.map (nm doms)) = gs.map fun g => g.map (nm doms) := by rw [List.map_take, ← h'.txt, h.grp]
  refine ⟨map_inj_on (fun g1 h1 g2 h2 e => map_inj_on (fun x hx y hy e => ?_) e) e1, ?_⟩
  · exact nm_inj hm (h'.lt x (List.mem_flatten.2 ⟨g1, List.mem_of_mem_take h1, hx⟩)) (h.lt y (List.mem_append_left _ (List.mem_flatten.2 ⟨g2, h2, hy⟩))) e
  · have hh := h.here
    rw [h'.txt, List.getElem?_map] at hh
    cases hg : gs'[gs.length]? with
    | none => rw [hg] at hh; cases hh
    | some g' =>
      rw [hg] at hh
      injection hh with hh
      have hh : g'.map (nm doms) = g := hh
      refine ⟨g', rfl, hh.symm, map_inj_on (fun x hx y hy e => ?_) (show (g'.take lst.length).map (nm doms) = lst.map (nm doms) by rw [List.map_take, hh, h.pre])⟩
      exact nm_inj hm (h'.lt x (List.mem_flatten.2 ⟨g', List.mem_of_getElem? hg, List.mem_of_mem_take hx⟩)) (h.lt y (List.mem_append_right _ hy)) e
/-- a name that is nobody's -/
theorem Rd.gone {doms : List Dm} {s : List UInt8} {gs : List (List Nat)} {g : List (List UInt8)} {lst : List Nat} (hm : mayB doms = true) (h : Rd doms s gs g lst) {x : List UInt8} (hx : g[lst.length]? = some x) (hno : ∀ k, k < doms.length → nm doms k ≠ x) : ∀ gs', ¬ OrderIs doms s gs' := fun gs' h' => by
  obtain ⟨_, g', h1, rfl, _⟩ := h.other hm h'
  rw [List.getElem?_map] at hx
  cases hg : g'[lst.length]? with
  | none => rw [hg] at hx; cases hx
  | some k =>
    rw [hg] at hx
    injection hx with hx
    exact hno k (h'.lt k (List.mem_flatten.2 ⟨g', List.mem_of_getElem? h1, List.mem_of_getElem? hg⟩)) hx
/-- a name that was there -/
theorem Rd.twice {doms : List Dm} {s : List UInt8} {gs : List (List Nat)} {g : List (List UInt8)} {lst : List Nat} (hm : mayB doms = true) (h : Rd doms s gs g lst) {k : Nat} (hk : k < doms.length) (hx : g[lst.length]? = some (nm doms k)) (hin : k ∈ gs.flatten ++ lst) : ∀ gs', ¬ OrderIs doms s gs' := fun gs' h' => by
  obtain ⟨h0, g', h1, rfl, h2⟩ := h.other hm h'
  rw [List.getElem?_map] at hx
  cases hg : g'[lst.length]? with
  | none => rw [hg] at hx; cases hx
  | some j =>
    rw [hg] at hx
    injection hx with hx
    have hj : j = k := nm_inj hm (h'.lt j (List.mem_flatten.2 ⟨g', List.mem_of_getElem? h1, List.mem_of_getElem? hg⟩)) hk hx
    subst hj
    have e1 : gs' = gs ++ g' :: gs'.drop (gs.length + 1) := by
      conv => lhs; rw [← List.take_append_drop gs.length gs', h0]
      congr 1
      have hl := (List.getElem?_eq_some_iff.1 h1)
      obtain ⟨hl, he⟩ := hl
      rw [List.drop_eq_getElem_cons hl, he]
    have e2 : g' = lst ++ j :: g'.drop (lst.length + 1) := by
      conv => lhs; rw [← List.take_append_drop lst.length g', h2]
      congr 1
      obtain ⟨hl, he⟩ := List.getElem?_eq_some_iff.1 hg
      rw [List.drop_eq_getElem_cons hl, he]
    have hn := h'.nod
    rw [e1, List.flatten_append, List.flatten_cons, e2, List.append_assoc, ← List.append_assoc] at hn
    obtain ⟨_, _, h3⟩ := List.nodup_append.1 hn
    exact h3 j hin j (by simp) rfl
/-- all groups are read -/
theorem read_all {doms : List Dm} {s : List UInt8} {gs : List (List Nat)} (h1 : groupsT s = gs.map fun g => g.map (nm doms)) (h2 : ∀ k ∈ gs.flatten, k < doms.length) (h3 : gs.flatten.Nodup) (h4 : gs.flatten.length = doms.length) : OrderIs doms s gs := ⟨h1, h2, h3, h4⟩
theorem read_few {doms : List Dm} {s : List UInt8} {gs gs' : List (List Nat)} (hm : mayB doms = true) (h1 : groupsT s = gs.map fun g => g.map (nm doms)) (h2 : ∀ k ∈ gs.flatten, k < doms.length) (h4 : gs.flatten.length < doms.length) : ¬ OrderIs doms s gs' := fun h' => by
  have e : gs' = gs := map_inj_on (f := fun g => g.map (nm doms)) (fun g1 h1 g2 h2' e => map_inj_on (fun x hx y hy e => nm_inj hm (h'.lt x (List.mem_flatten.2 ⟨g1, h1, hx⟩)) (h2 y (List.mem_flatten.2 ⟨g2, h2', hy⟩)) e) e) (h'.txt.symm.trans h1)
  have := h'.all
  rw [e] at this
  omega
end Go.Proofs.YtedfakpmdncnmaaDoor.LY
