/- The components of a ring, and of a ring with one edge less: plain. -/
import Derived.Test.YtbancojknahdgaaCompR
namespace Go.Proofs.Ytbancojknahdgaa
open Go.RowKit CP
def ringE (n : Nat) : Ed := (List.range n).map fun i => (i, (i + 1) % n)
def ringZ (n : Nat) : List (Int × Int) := (List.range n).map fun i : Nat => ((i : Int), (((i + 1) % n : Nat) : Int))
def lessE (n k : Nat) : Ed := (ringE n).take k ++ (ringE n).drop (k + 1)
def lessZ (n k : Nat) : List (Int × Int) := (ringZ n).take k ++ (ringZ n).drop (k + 1)
theorem natE_ring (n : Nat) : natE (ringZ n) = ringE n := by
  unfold natE ringZ ringE
  rw [List.map_map]
  exact List.map_congr_left fun i _ => by show ((i : Int).toNat, (((i + 1) % n : Nat) : Int).toNat) = _; rw [Int.toNat_natCast, Int.toNat_natCast]
theorem natE_less (n k : Nat) : natE (lessZ n k) = lessE n k := by
  unfold lessZ lessE
  rw [← natE_ring]
  unfold natE
  rw [List.map_append, List.map_take, List.map_drop]
theorem ringZ_len (n : Nat) : (ringZ n).length = n := by unfold ringZ; simp
theorem ringE_ok {n : Nat} (hn : 0 < n) : EdOk (ringE n) n := fun e he => by
  unfold ringE at he
  obtain ⟨i, hi, rfl⟩ := List.mem_map.1 he
  have h1 := List.mem_range.1 hi
  have h2 := Nat.mod_lt (i + 1) hn
  exact ⟨h1, h2⟩
theorem ring_all {n : Nat} (hn : 0 < n) : (ringZ n).all (edZ (n : Int)) = true := by
  rw [List.all_eq_true]
  intro x hx
  unfold ringZ at hx
  obtain ⟨i, hi, rfl⟩ := List.mem_map.1 hx
  have h1 := List.mem_range.1 hi
  have h2 := Nat.mod_lt (i + 1) hn
  generalize (i + 1) % n = m at h2 ⊢
  unfold edZ
  simp; omega
theorem ring_may {n : Nat} (hn : 0 < n) (hn2 : n ≤ 1024) : mayG (n : Int) (ringZ n) = true := by
  unfold mayG
  rw [ring_all hn, ringZ_len, decide_eq_true (by omega), decide_eq_true (by omega), decide_eq_true (by omega)]; rfl
theorem lessZ_len {n k : Nat} (hk : k < n) : (lessZ n k).length = n - 1 := by
  unfold lessZ
  rw [List.length_append, List.length_take, List.length_drop, ringZ_len]; omega
theorem less_may {n k : Nat} (hk : k < n) (hn2 : n ≤ 1024) : mayG (n : Int) (lessZ n k) = true := by
  have h : (lessZ n k).all (edZ (n : Int)) = true := by
    have h := List.all_eq_true.1 (ring_all (n := n) (by omega))
    rw [List.all_eq_true]
    intro x hx
    unfold lessZ at hx
    rcases List.mem_append.1 hx with hx | hx
    · exact h x (List.mem_of_mem_take hx)
    · exact h x (List.mem_of_mem_drop hx)
  unfold mayG
  rw [h, lessZ_len hk, decide_eq_true (by omega), decide_eq_true (by omega), decide_eq_true (by omega)]; rfl
theorem ring_rc {n : Nat} {v : Nat} (hv : v < n) : ∀ d, Rc (gr (ringE n)) v ((v + d) % n)
  | 0 => by rw [Nat.add_zero, Nat.mod_eq_of_lt hv]; exact Rc.refl
  | d + 1 => (ring_rc hv d).tail (mem_gr.2 (List.mem_map.2 ⟨(v + d) % n, List.mem_range.2 (Nat.mod_lt _ (by omega)), by rw [Nat.mod_add_mod, Nat.add_assoc]⟩))
theorem ring_both {n u v : Nat} (hu : u < n) (hv : v < n) : both (ringE n) u v = true := by
  have h : ∀ a b, a < n → b < n → Rc (gr (ringE n)) a b := fun a b ha hb => by
    have := ring_rc ha (b + n - a)
    rw [show a + (b + n - a) = b + n from by omega, Nat.add_mod_right, Nat.mod_eq_of_lt hb] at this
    exact this
  exact both_iff.2 ⟨h u v hu hv, h v u hv hu⟩
theorem ring_cmp {n v : Nat} (hv : v < n) : cmp n (ringE n) v = 0 := by
  have hE := ringE_ok (n := n) (by omega)
  have hp : pick n (ringE n) (both (ringE n)) (fun _ => 0) = some 0 := by
    refine pick_eq (by omega) rfl ?_ (fun i hi => absurd hi (Nat.not_lt_zero _))
    unfold freeB
    rw [List.all_eq_true]
    intro e he
    rw [ring_both (hE e he).1 (by omega)]; simp
  have h1 : ∀ v, v < n → numF n (ringE n) (both (ringE n)) 1 v = 1 := fun v hv => by
    show stp n (ringE n) (both (ringE n)) 0 (fun _ => 0) v = 1
    unfold stp
    rw [hp]
    show (if both (ringE n) v 0 then 0 + 1 else 0) = 1
    rw [ring_both hv (by omega)]; rfl
  rw [← cmp_of hE (a := 1) (fun v hv => by rw [h1 v hv]; decide) v, h1 v hv]
/-- the place of a node behind the missing edge -/
def posR (n k v : Nat) : Nat := if v ≤ k then v + n - k - 1 else v - k - 1
theorem mem_less {n k : Nat} {e : Nat × Nat} (h : e ∈ lessE n k) : e.1 < n ∧ e.1 ≠ k ∧ e.2 = (e.1 + 1) % n := by
  have hat : ∀ j x, (ringE n)[j]? = some x → j < n ∧ x = (j, (j + 1) % n) := fun j x hj => by
    unfold ringE at hj
    have hlt : j < n := by have := (List.getElem?_eq_some_iff.1 hj).1; simpa using this
    rw [List.getElem?_map, List.getElem?_range hlt] at hj
    injection hj with hj
    exact ⟨hlt, hj.symm⟩
  unfold lessE at h
  rcases List.mem_append.1 h with h | h
  · obtain ⟨j, hj, e1⟩ := List.getElem_of_mem h
    have h1 : (ringE n)[j]? = some e := by
      rw [← e1, List.getElem_take, List.getElem?_eq_getElem]
    have h2 : j < k := by rw [List.length_take] at hj; omega
    obtain ⟨h3, rfl⟩ := hat j e h1
    exact ⟨h3, by simp; omega, rfl⟩
  · obtain ⟨j, hj, e1⟩ := List.getElem_of_mem h
    have h1 : (ringE n)[k + 1 + j]? = some e := by
      rw [← e1, List.getElem_drop, List.getElem?_eq_getElem]
    obtain ⟨h3, rfl⟩ := hat _ e h1
    exact ⟨h3, by simp; omega, rfl⟩
theorem less_mem {n k i : Nat} (hi : i < n) (hk : i ≠ k) : (i, (i + 1) % n) ∈ lessE n k := by
  have h1 : (ringE n)[i]? = some (i, (i + 1) % n) := by
    unfold ringE
    rw [List.getElem?_map, List.getElem?_range hi]; rfl
  unfold lessE
  by_cases h : i < k
  · refine List.mem_append.2 (.inl (List.mem_of_getElem? (i := i) ?_))
    rw [List.getElem?_take, if_pos h]; exact h1
  · refine List.mem_append.2 (.inr (List.mem_of_getElem? (i := i - (k + 1)) ?_))
    rw [List.getElem?_drop, show k + 1 + (i - (k + 1)) = i from by omega]; exact h1
theorem mod_next {n i : Nat} (hi : i < n) : (i + 1) % n = if i + 1 = n then 0 else i + 1 := by
  split
  · rename_i h; rw [h, Nat.mod_self]
  · exact Nat.mod_eq_of_lt (by omega)
theorem pos_next {n k i : Nat} (_hk : k < n) (hi : i < n) (hne : i ≠ k) : posR n k ((i + 1) % n) = posR n k i + 1 := by
  rw [mod_next hi]
  unfold posR
  split <;> split <;> split <;> omega
theorem pos_lt {n k v : Nat} (hk : k < n) (hv : v < n) : posR n k v < n := by unfold posR; split <;> omega
theorem pos_inj {n k u v : Nat} (_hk : k < n) (hu : u < n) (hv : v < n) (h : posR n k u = posR n k v) : u = v := by
  unfold posR at h
  split at h <;> split at h <;> omega
theorem lessE_ok {n k : Nat} (_hk : k < n) : EdOk (lessE n k) n := fun e he => by
  obtain ⟨h1, _, h2⟩ := mem_less he
  exact ⟨h1, by rw [h2]; exact Nat.mod_lt _ (by omega)⟩
theorem less_rc {n k a b : Nat} (hk : k < n) (ha : a < n) (h : Rc (gr (lessE n k)) a b) : b < n ∧ posR n k a ≤ posR n k b := by
  refine h.closed (fun x => x < n ∧ posR n k a ≤ posR n k x) (fun v hv x hx => ?_) ⟨ha, Nat.le_refl _⟩
  obtain ⟨h1, h2, h3⟩ := mem_less (mem_gr.1 hx)
  simp only at h1 h2 h3
  subst h3
  have := pos_next hk h1 h2
  exact ⟨Nat.mod_lt _ (by omega), by omega⟩
theorem less_both {n k a b : Nat} (hk : k < n) (ha : a < n) (hb : b < n) (h : both (lessE n k) a b = true) : a = b := by
  have h := both_iff.1 h
  have h1 := (less_rc hk ha h.1).2
  have h2 := (less_rc hk hb h.2).2
  exact pos_inj hk ha hb (by omega)
theorem less_num {n k : Nat} (hk : k < n) : ∀ j, j ≤ n → ∀ v, v < n → numF n (lessE n k) (both (lessE n k)) j v = if posR n k v < j then posR n k v + 1 else 0
  | 0, _, v, _ => by rw [if_neg (Nat.not_lt_zero _)]; rfl
  | j + 1, hj, v, hv => by
    have ih := less_num hk j (by omega)
    have hE := lessE_ok hk
    obtain ⟨i0, hi0, hp0⟩ : ∃ i0, i0 < n ∧ posR n k i0 = j := by
      refine ⟨if k + 1 + j < n then k + 1 + j else k + 1 + j - n, by split <;> omega, ?_⟩
      unfold posR
      split <;> split <;> omega
    have hp : pick n (lessE n k) (both (lessE n k)) (numF n (lessE n k) (both (lessE n k)) j) = some i0 := by
      refine pick_eq hi0 (by rw [ih i0 hi0, if_neg (by omega)]) ?_ ?_
      · unfold freeB
        rw [List.all_eq_true]
        intro e he
        obtain ⟨h1, h2, h3⟩ := mem_less he
        cases hb : both (lessE n k) e.2 i0 with
        | false => simp
        | true =>
          have e2 := less_both hk (hE e he).2 hi0 hb
          have h4 := pos_next hk h1 h2
          rw [← h3, e2] at h4
          have : numF n (lessE n k) (both (lessE n k)) j e.1 ≠ 0 := by rw [ih e.1 h1, if_pos (by omega)]; omega
          simp [this]
      · rintro i hi ⟨h0, hf⟩
        have hin : i < n := by omega
        have hpi : j < posR n k i := by
          rw [ih i hin] at h0
          have : posR n k i ≠ j := fun e => by have := pos_inj hk hin hi0 (by omega); omega
          split at h0 <;> omega
        -- the one before it
        obtain ⟨p, hp1, hp2, hp3⟩ : ∃ p, p < n ∧ p ≠ k ∧ (p + 1) % n = i := by
          refine ⟨if i = 0 then n - 1 else i - 1, by split <;> omega, ?_, ?_⟩
          · unfold posR at hpi
            split at hpi <;> split <;> omega
          · split
            · rw [show n - 1 + 1 = n from by omega, Nat.mod_self]; omega
            · rw [show i - 1 + 1 = i from by omega, Nat.mod_eq_of_lt hin]
        have hpp := pos_next hk hp1 hp2
        rw [hp3] at hpp
        unfold freeB at hf
        have h5 := List.all_eq_true.1 hf _ (less_mem hp1 hp2)
        rw [hp3] at h5
        have h6 : both (lessE n k) p i = false := by
          cases hb : both (lessE n k) p i with
          | false => rfl
          | true => have := less_both hk hp1 hin hb; rw [this] at hpp; omega
        have h7 : numF n (lessE n k) (both (lessE n k)) j p = 0 := by rw [ih p hp1, if_neg (by omega)]
        simp only [both_refl, h6, h7] at h5
        exact absurd h5 (by decide)
    show stp n (lessE n k) (both (lessE n k)) j (numF n (lessE n k) (both (lessE n k)) j) v = _
    unfold stp
    rw [hp]
    show (if both (lessE n k) v i0 then j + 1 else _) = _
    cases hb : both (lessE n k) v i0 with
    | true =>
      have := less_both hk hv hi0 hb
      subst this
      rw [hp0, if_pos rfl, if_pos (by omega)]
    | false =>
      have hne : posR n k v ≠ j := fun e => by
        have := pos_inj hk hv hi0 (by omega)
        rw [this, both_refl] at hb; cases hb
      rw [ih v hv]
      show (if posR n k v < j then _ else _) = _
      by_cases h : posR n k v < j
      · rw [if_pos h, if_pos (by omega)]
      · rw [if_neg h, if_neg (by omega)]
theorem less_cmp {n k v : Nat} (hk : k < n) (hv : v < n) : cmp n (lessE n k) v = posR n k v := by
  unfold cmp
  rw [less_num hk n (Nat.le_refl _) v hv, if_pos (pos_lt hk hv)]; omega
theorem pos_at {n k i : Nat} (hk : k < n) (hi : i < n) : posR n k ((k + 1 + i) % n) = i := by
  have e : (k + 1 + i) % n = if k + 1 + i < n then k + 1 + i else k + 1 + i - n := by
    split
    · rename_i h; exact Nat.mod_eq_of_lt h
    · rw [Nat.mod_eq_sub_mod (by omega)]; exact Nat.mod_eq_of_lt (by omega)
  rw [e]
  unfold posR
  split <;> split <;> omega
end Go.Proofs.Ytbancojknahdgaa
