/- Plain Lean: methods one behind the other, each called twice (for CloneDoubles): as many contexts as powers of two. -/
import Derived.Test.YtbancojknahdgaaCloneU
import Derived.Test.YtbancojknahdgaaCompS
namespace Go.Proofs.Ytbancojknahdgaa
open Go.RowKit CP
def dblP (i : Nat) : List (Int × Int × Int) := [((i : Int), ((2 * i : Nat) : Int), ((i + 1 : Nat) : Int)), ((i : Int), ((2 * i + 1 : Nat) : Int), ((i + 1 : Nat) : Int))]
def dblL (i : Nat) : List (Int × Int × Int) := (List.range i).flatMap dblP
theorem dblL_next (i : Nat) : dblL (i + 1) = dblL i ++ dblP i := by
  unfold dblL; rw [List.range_succ, List.flatMap_append]; simp
theorem dblL_len : ∀ i, (dblL i).length = 2 * i
  | 0 => rfl
  | i + 1 => by rw [dblL_next, List.length_append, dblL_len i]; show _ + 2 = _; omega
theorem dblL_at : ∀ {i j : Nat}, j < 2 * i → (dblL i)[j]? = some (((j / 2 : Nat) : Int), (j : Int), ((j / 2 + 1 : Nat) : Int))
  | 0, j, h => absurd h (by omega)
  | i + 1, j, h => by
    rw [dblL_next]
    by_cases h1 : j < 2 * i
    · rw [List.getElem?_append_left (by rw [dblL_len]; exact h1)]
      exact dblL_at h1
    · rw [List.getElem?_append_right (by rw [dblL_len]; omega), dblL_len]
      rcases (by omega : j = 2 * i ∨ j = 2 * i + 1) with rfl | rfl
      · rw [Nat.sub_self, show 2 * i / 2 = i from by omega]; rfl
      · rw [show 2 * i + 1 - 2 * i = 1 from by omega, show (2 * i + 1) / 2 = i from by omega]; rfl
theorem dbl_may {n wd : Nat} (hn : 0 < n) (hn2 : n ≤ 66) (h1 : 1 ≤ wd) (h2 : wd ≤ 62) : MayN n 0 (dblL (n - 1)) wd := by
  refine ⟨hn, by omega, hn, by rw [dblL_len]; omega, h1, h2, fun i x hx => ?_⟩
  have hi : i < 2 * (n - 1) := by rw [← dblL_len]; exact (List.getElem?_eq_some_iff.1 hx).1
  have e := dblL_at hi
  rw [hx] at e
  injection e with e
  have hah : (i == 0 || aheadB ((dblL (n - 1)).getD (i - 1) (0, 0, 0)) x) = true := by
    by_cases h0 : i = 0
    · rw [h0]; rfl
    · rw [List.getD_eq_getElem?_getD, dblL_at (i := n - 1) (j := i - 1) (by omega), e]
      show (_ || aheadB (_, _, _) _) = true
      rw [ahead_lex]
      by_cases h3 : (i - 1) / 2 = i / 2
      · rw [if_pos (by omega), if_neg (by omega)]
        rw [decide_eq_true (by omega), Bool.or_true]
      · rw [if_neg (by omega), decide_eq_true (by omega), Bool.or_true]
  unfold edC
  rw [hah, e]
  simp; omega
theorem edE_dbl {n : Nat} (hn : 0 < n) (e : Nat × Nat) : e ∈ edE (dblL (n - 1)) ↔ e ∈ lessE n (n - 1) := by
  constructor
  · intro h
    unfold edE natE pairsZ at h
    rw [List.map_map] at h
    obtain ⟨x, hx, rfl⟩ := List.mem_map.1 h
    obtain ⟨j, hj⟩ := List.getElem?_of_mem hx
    have hi : j < 2 * (n - 1) := by rw [← dblL_len]; exact (List.getElem?_eq_some_iff.1 hj).1
    rw [dblL_at hi] at hj
    injection hj with hj
    subst hj
    have := less_mem (n := n) (k := n - 1) (i := j / 2) (by omega) (by omega)
    rw [Nat.mod_eq_of_lt (by omega)] at this
    show (((j / 2 : Nat) : Int).toNat, ((j / 2 + 1 : Nat) : Int).toNat) ∈ _
    rw [Int.toNat_natCast, Int.toNat_natCast]
    exact this
  · intro h
    obtain ⟨h1, h2, h3⟩ := mem_less h
    obtain ⟨a, b⟩ := e
    simp only at h1 h2 h3
    rw [Nat.mod_eq_of_lt (by omega)] at h3
    subst h3
    have := edE_mem (List.mem_of_getElem? (dblL_at (i := n - 1) (j := 2 * a) (by omega)))
    rw [show 2 * a / 2 = a from by omega] at this
    simpa using this
theorem dbl_cmp {n v : Nat} (hn : 0 < n) (hv : v < n) : cmp n (edE (dblL (n - 1))) v = v := by
  rw [cmp_congr (edE_dbl hn) v, less_cmp (by omega) hv]
  unfold posR
  rw [if_pos (by omega)]; omega
theorem dbl_top {n : Nat} (hn : 0 < n) (hn2 : n ≤ 66) : edM n (dblL (n - 1)) = n := by
  have h := dbl_may (wd := 62) hn hn2 (by decide) (by decide)
  have h1 := h.topk
  have h2 := h.top (v := n - 1) (by omega)
  rw [dbl_cmp hn (by omega)] at h2
  omega
theorem dbl_sum (cn : Nat → Nat) (fc tc : Nat → Nat) (L c : Nat) (hf : ∀ j, j < L → fc j = j / 2) (ht : ∀ j, j < L → tc j = j / 2 + 1) : ∀ i, i ≤ L →
    lsum fc cn (inL fc tc (c + 1) i) = (if 2 * c < i then cn c else 0) + (if 2 * c + 1 < i then cn c else 0)
  | 0, _ => by rw [if_neg (by omega), if_neg (by omega)]; rfl
  | i + 1, h => by
    rw [inL_next, lsum_app, dbl_sum cn fc tc L c hf ht i (by omega), hf i (by omega), ht i (by omega)]
    by_cases h1 : i / 2 = c
    · have hp : i / 2 + 1 = c + 1 ∧ i / 2 ≠ c + 1 := ⟨by omega, by omega⟩
      rw [if_pos hp, lsum_one, hf i (by omega), h1]
      rcases (by omega : i = 2 * c ∨ i = 2 * c + 1) with rfl | rfl
      · rw [if_neg (by omega), if_neg (by omega), if_pos (by omega), if_neg (by omega)]; omega
      · rw [if_pos (by omega), if_neg (by omega), if_pos (by omega), if_pos (by omega)]; omega
    · have hp : ¬ (i / 2 + 1 = c + 1 ∧ i / 2 ≠ c + 1) := by omega
      rw [if_neg hp, lsum_nil]
      by_cases h2 : 2 * c < i
      · rw [if_pos h2, if_pos (by omega), if_pos (by omega), if_pos (by omega)]; rfl
      · rw [if_neg h2, if_neg (by omega), if_neg (by omega), if_neg (by omega)]
theorem dbl_cn {n : Nat} (hn : 0 < n) (hn2 : n ≤ 66) : ∀ v, v < n → cnE n 0 (dblL (n - 1)) v = 2 ^ v
  | 0, _ => by
    have h := dbl_may (wd := 62) hn hn2 (by decide) (by decide)
    have hm := cnt_main h.up (h.top hn)
    unfold cnE
    rw [dbl_cmp hn hn] at hm ⊢
    exact hm
  | v + 1, hv => by
    have h := dbl_may (wd := 62) hn hn2 (by decide) (by decide)
    have ih := dbl_cn hn hn2 v (by omega)
    unfold cnE at ih ⊢
    rw [dbl_cmp hn hn] at ih ⊢
    have hf : ∀ j, j < (dblL (n - 1)).length → edF n (dblL (n - 1)) j = j / 2 := fun j hj => by
      rw [dblL_len] at hj
      rw [edF_at n (dblL_at hj)]
      simp only [Int.toNat_natCast]
      exact dbl_cmp hn (by omega)
    have ht : ∀ j, j < (dblL (n - 1)).length → edT n (dblL (n - 1)) j = j / 2 + 1 := fun j hj => by
      rw [dblL_len] at hj
      rw [edT_at n (dblL_at hj)]
      simp only [Int.toNat_natCast]
      exact dbl_cmp hn (by omega)
    rw [cnt_eq h.up (by rw [dbl_top hn hn2]; exact hv), if_neg (by omega), dbl_sum _ _ _ _ v hf ht _ (Nat.le_refl _), if_pos (by rw [dblL_len]; omega), if_pos (by rw [dblL_len]; omega), ih, Nat.pow_succ]
    omega
theorem dbl_fit {n wd : Nat} (hn : 0 < n) (hn2 : n ≤ 66) (h2 : n ≤ wd) : fitC n 0 (dblL (n - 1)) wd = true := by
  unfold fitC
  refine fits_yes fun c hc => ?_
  rw [dbl_top hn hn2] at hc
  have := dbl_cn hn hn2 c hc
  unfold cnE at this
  rw [this]
  have h3 : 2 ^ (c + 1) ≤ 2 ^ wd := Nat.pow_le_pow_right (by decide) (by omega)
  have h4 := Nat.two_pow_pos c
  rw [Nat.pow_succ] at h3
  omega
theorem dbl_nofit {n wd : Nat} (hn : 0 < n) (hn2 : n ≤ 66) (h2 : wd < n) : fitC n 0 (dblL (n - 1)) wd = false := by
  unfold fitC
  refine fits_no (k := wd) (by rw [dbl_top hn hn2]; exact h2) ?_
  have := dbl_cn hn hn2 wd h2
  unfold cnE at this
  rw [this]
  have := Nat.two_pow_pos wd
  omega
end Go.Proofs.Ytbancojknahdgaa
