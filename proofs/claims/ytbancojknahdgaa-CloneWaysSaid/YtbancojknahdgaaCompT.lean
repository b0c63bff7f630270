/- CompTwice in plain Lean: the components' numbers are all taken; the graph of the components; edges there twice. -/
import Derived.Test.YtbancojknahdgaaCompL2
namespace Go.Proofs.Ytbancojknahdgaa
open Go.RowKit CP
section
variable {n : Nat} {E : Ed}
theorem num_keep {j v : Nat} (hE : EdOk E n) (h : numF n E (both E) j v ≠ 0) : numF n E (both E) (j + 1) v = numF n E (both E) j v := by
  show stp n E (both E) j (numF n E (both E) j) v = _
  unfold stp
  cases e : pick n E (both E) (numF n E (both E) j) with
  | none => rfl
  | some k =>
    obtain ⟨_, h0, _, _⟩ := pick_some e
    show (if both E v k then _ else _) = _
    cases hb : both E v k with
    | true => exact absurd (by rw [(numI hE j).cls v k hb]; exact h0) h
    | false => rfl
theorem num_keeps {j v : Nat} (hE : EdOk E n) (h : numF n E (both E) j v ≠ 0) : ∀ d, numF n E (both E) (j + d) v = numF n E (both E) j v
  | 0 => rfl
  | d + 1 => by
    have ih := num_keeps hE h d
    show numF n E (both E) ((j + d) + 1) v = _
    rw [num_keep hE (by rw [ih]; exact h), ih]
theorem num_keep_n {j v : Nat} (hE : EdOk E n) (hj : j ≤ n) (h : numF n E (both E) j v ≠ 0) : numF n E (both E) n v = numF n E (both E) j v := by
  have := num_keeps hE h (n - j)
  rw [show j + (n - j) = n from by omega] at this; exact this
/-- each number below one that is taken is taken -/
theorem num_onto (hE : EdOk E n) {v c : Nat} (hv : v < n) (hc : c ≤ cmp n E v) : ∃ u, u < n ∧ cmp n E u = c := by
  have h1 := num_all hE v hv
  have hle := (numI hE n).le v
  obtain ⟨m, hm⟩ : ∃ m, numF n E (both E) n v = m := ⟨_, rfl⟩
  have hcm : cmp n E v = m - 1 := by unfold cmp; rw [hm]
  rw [hm] at h1 hle
  by_cases e : c = m - 1
  · exact ⟨v, hv, by rw [hcm, e]⟩
  · have h0 : numF n E (both E) (m - 1) v = 0 := by
      rcases Nat.eq_zero_or_pos (numF n E (both E) (m - 1) v) with h | h
      · exact h
      · have h2 := num_keep_n hE (j := m - 1) (by omega) (by omega : numF n E (both E) (m - 1) v ≠ 0)
        have h3 := (numI hE (m - 1)).le v
        rw [hm] at h2; omega
    obtain ⟨u, hu, h2⟩ := (numI hE (m - 1)).all (c + 1) (by omega) (by omega) ⟨v, hv, h0⟩
    have h3 := num_keep_n hE (j := m - 1) (v := u) (by omega) (by omega)
    exact ⟨u, hu, by unfold cmp; rw [h3, h2]; omega⟩
end
noncomputable def cmpZ (n : Nat) (E : Ed) : List Int := (List.range n).map fun v => (cmp n E v : Int)
theorem cmpZ_len (n : Nat) (E : Ed) : (cmpZ n E).length = n := by unfold cmpZ; simp
theorem cmpZ_in {n : Nat} {E : Ed} (hE : EdOk E n) : inZ (cmpZ n E) = true := by
  unfold inZ
  rw [List.all_eq_true]
  intro c hc
  obtain ⟨v, hv, rfl⟩ := List.mem_map.1 hc
  have := cmp_lt hE (List.mem_range.1 hv)
  rw [cmpZ_len]
  simp; omega
theorem cmpZ_top {n : Nat} {E : Ed} (hE : EdOk E n) {v : Nat} (hv : v < n) : cmp n E v < topN (cmpZ n E) ∧ topN (cmpZ n E) ≤ n := by
  have h := topN_lt (cmpZ_in hE) (c := (cmp n E v : Int)) (List.mem_map.2 ⟨v, List.mem_range.2 hv, rfl⟩)
  rw [cmpZ_len] at h; omega
theorem cmpZ_ok {n : Nat} {E : Ed} (hE : EdOk E n) (hn : 0 < n) : okM (cmpZ n E) = true := by
  unfold okM
  rw [cmpZ_in hE, Bool.true_and, List.all_eq_true]
  intro c hc
  have hc := List.mem_range.1 hc
  have hne : cmpZ n E ≠ [] := by
    intro h
    have := cmpZ_len n E
    rw [h] at this; simp at this; omega
  obtain ⟨_, hm⟩ := maxOf_spec hne
  unfold topN at hc
  rw [if_neg hne] at hc
  obtain ⟨v, hv, he⟩ := List.mem_map.1 hm
  obtain ⟨u, hu, hcu⟩ := num_onto hE (List.mem_range.1 hv) (c := c) (by omega)
  have : u ∈ mrow (cmpZ n E) (cmpZ n E).length c := by
    unfold mrow
    refine List.mem_filter.2 ⟨List.mem_range.2 (by rw [cmpZ_len]; exact hu), ?_⟩
    unfold cmpZ
    rw [List.getD_eq_getElem?_getD, List.getElem?_map, List.getElem?_range hu]
    simp [hcu]
  cases hr : mrow (cmpZ n E) (cmpZ n E).length c with
  | nil => rw [hr] at this; cases this
  | cons _ _ => rfl
/-! ### the graph of the components -/
def smP (C : Nat → Nat) (e : Int × Int) : Int × Int := ((C e.1.toNat : Int), (C e.2.toNat : Int))
def smL (C : Nat → Nat) (l : List (Int × Int)) : List (Int × Int) := (l.filter fun e => C e.1.toNat != C e.2.toNat).map (smP C)
theorem smL_len (C : Nat → Nat) (l : List (Int × Int)) : (smL C l).length ≤ l.length := by
  unfold smL
  rw [List.length_map]; exact List.length_filter_le _ _
theorem smL_next {C : Nat → Nat} {l : List (Int × Int)} {i u v : Nat} (h : l[i]? = some ((u : Int), (v : Int))) : smL C (l.take (i + 1)) = smL C (l.take i) ++ (if C u = C v then [] else [((C u : Int), (C v : Int))]) := by
  unfold smL
  rw [List.take_add_one, h, List.filter_append, List.map_append]
  congr 1
  by_cases e : C u = C v
  · rw [if_pos e]; simp [e]
  · rw [if_neg e]; simp [e, smP]
theorem smL_mem {C : Nat → Nat} {l : List (Int × Int)} {n : Nat} (h : mayG (n : Int) l = true) {x : Int × Int} (hx : x ∈ smL C l) : ∃ u v, u < n ∧ v < n ∧ (u, v) ∈ natE l ∧ C u ≠ C v ∧ x = ((C u : Int), (C v : Int)) := by
  unfold smL at hx
  obtain ⟨e, he, rfl⟩ := List.mem_map.1 hx
  obtain ⟨he, hne⟩ := List.mem_filter.1 he
  obtain ⟨i, hi, he⟩ := List.getElem_of_mem he
  obtain ⟨u, v, rfl, hu, hv, hm⟩ := may_at h (i := i) (x := e) (by rw [List.getElem?_eq_getElem hi, he])
  exact ⟨u, v, hu, hv, hm, by simpa using hne, by simp [smP]⟩
theorem smL_may {C : Nat → Nat} {l : List (Int × Int)} {n K : Nat} (h : mayG (n : Int) l = true) (hC : ∀ v, v < n → C v < K) (hK : K ≤ 1024) : mayG (K : Int) (smL C l) = true := by
  have h1 : l.length ≤ 16384 := by unfold mayG at h; simp only [Bool.and_eq_true, decide_eq_true_eq] at h; exact h.1.2
  have h2 := smL_len C l
  have h3 : (smL C l).all (edZ (K : Int)) = true := by
    rw [List.all_eq_true]
    intro x hx
    obtain ⟨u, v, hu, hv, _, _, rfl⟩ := smL_mem h hx
    have := hC u hu
    have := hC v hv
    unfold edZ
    simp; omega
  unfold mayG
  rw [h3, decide_eq_true (by omega), decide_eq_true (by omega), decide_eq_true (by omega)]; rfl
theorem smL_up {C : Nat → Nat} {l : List (Int × Int)} {n : Nat} (h : mayG (n : Int) l = true) (hC : ∀ e ∈ natE l, C e.1 ≤ C e.2) {a b : Nat} (hr : Rc (gr (natE (smL C l))) a b) : a ≤ b := by
  refine hr.closed (fun x => a ≤ x) (fun v hv x hx => ?_) (Nat.le_refl _)
  have hm := mem_gr.1 hx
  unfold natE at hm
  obtain ⟨y, hy, e⟩ := List.mem_map.1 hm
  obtain ⟨u, w, hu, hw, h1, h2, rfl⟩ := smL_mem h hy
  have h3 := hC _ h1
  simp only [Int.toNat_natCast, Prod.mk.injEq] at e
  simp only at hv h3
  omega
theorem smL_both {C : Nat → Nat} {l : List (Int × Int)} {n : Nat} (h : mayG (n : Int) l = true) (hC : ∀ e ∈ natE l, C e.1 ≤ C e.2) {a b : Nat} (hr : both (natE (smL C l)) a b = true) : a = b := by
  have hb := both_iff.1 hr
  have h1 := smL_up h hC hb.1
  have h2 := smL_up h hC hb.2
  omega
/-! ### edges there twice -/
def morL (l : List (Int × Int)) (T i : Nat) : List (Int × Int) := (List.range i).map fun j => l.getD ((j + T) % l.length) (0, 0)
theorem morL_len (l : List (Int × Int)) (T i : Nat) : (morL l T i).length = i := by unfold morL; simp
theorem morL_next {l : List (Int × Int)} {T i : Nat} {x : Int × Int} (h : l[(i + T) % l.length]? = some x) : morL l T (i + 1) = morL l T i ++ [x] := by
  unfold morL
  rw [List.range_succ, List.map_append, List.map_singleton, List.getD_eq_getElem?_getD, h]; rfl
theorem morL_mem (l : List (Int × Int)) (T : Nat) (x : Int × Int) : x ∈ morL l T (2 * l.length) ↔ x ∈ l := by
  unfold morL
  constructor
  · intro h
    obtain ⟨j, hj, rfl⟩ := List.mem_map.1 h
    have hL : 0 < l.length := by have := List.mem_range.1 hj; omega
    have hlt := Nat.mod_lt (j + T) hL
    rw [List.getD_eq_getElem?_getD, List.getElem?_eq_getElem hlt]
    exact List.getElem_mem _
  · intro h
    obtain ⟨q, hq, rfl⟩ := List.getElem_of_mem h
    have hL : 0 < l.length := by omega
    have ht := Nat.mod_lt T hL
    refine List.mem_map.2 ⟨q + l.length - T % l.length, List.mem_range.2 (by omega), ?_⟩
    have e : (q + l.length - T % l.length + T) % l.length = q := by
      have h1 := Nat.div_add_mod T l.length
      have h2 : q + l.length - T % l.length + T = q + l.length * (T / l.length + 1) := by rw [Nat.mul_add]; omega
      rw [h2, Nat.add_mul_mod_self_left, Nat.mod_eq_of_lt hq]
    rw [e, List.getD_eq_getElem?_getD, List.getElem?_eq_getElem hq]; rfl
theorem morE_mem (l : List (Int × Int)) (T : Nat) (e : Nat × Nat) : e ∈ natE l ↔ e ∈ natE (morL l T (2 * l.length)) := by
  unfold natE
  rw [List.mem_map, List.mem_map]
  constructor
  · rintro ⟨x, hx, rfl⟩
    exact ⟨x, (morL_mem l T x).2 hx, rfl⟩
  · rintro ⟨x, hx, rfl⟩
    exact ⟨x, (morL_mem l T x).1 hx, rfl⟩
theorem morL_may {l : List (Int × Int)} {n : Nat} (h : mayG (n : Int) l = true) (hl : l.length ≤ 100) (T : Nat) : mayG (n : Int) (morL l T (2 * l.length)) = true := by
  unfold mayG at h ⊢
  simp only [Bool.and_eq_true, decide_eq_true_eq] at h ⊢
  refine ⟨⟨h.1.1, by rw [morL_len]; omega⟩, ?_⟩
  have h2 := List.all_eq_true.1 h.2
  rw [List.all_eq_true]
  exact fun x hx => h2 x ((morL_mem l T x).1 hx)
end Go.Proofs.Ytbancojknahdgaa
