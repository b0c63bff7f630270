/- Plain Lean: methods one behind the other, each called twice (CloneDoubles); one method more (CloneFar). -/
import Derived.Test.YtbancojknahdgaaCloneE
import Derived.Test.YtbancojknahdgaaCompS
import Derived.Test.YtbancojknahdgaaCloneP
namespace Go.Proofs.Ytbancojknahdgaa
open Go.RowKit CP
def dblP (i : Nat) : List (Int × Int × Int) := [((i : Int), ((2 * i : Nat) : Int), ((i + 1 : Nat) : Int)), ((i : Int), ((2 * i + 1 : Nat) : Int), ((i + 1 : Nat) : Int))]
def dblL (i : Nat) : List (Int × Int × Int) := (List.range i).flatMap dblP
theorem dblL_next (i : Nat) : dblL (i + 1) = dblL i ++ dblP i := by
  unfold dblL; rw [List.range_succ, List.flatMap_append]; simp
theorem dblL_len : ∀ i, (dblL i).length = 2 * i
  | 0 => rfl
  | i + 1 => by rw [dblL_next, List.length_append, dblL_len i]; show _ + 2 = _; omega
theorem dblL_at : ∀ {i j : Nat}, j < 2 * i → (dblL i)[j]? = some (((j / 2 : Nat) : Int), (j : Int), ((j / 2 + 1 : Nat) : Int))
  | 0, j, h => absurd h (by omega)
  | i + 1, j, h => by
    rw [dblL_next]
    by_cases h1 : j < 2 * i
    · rw [List.getElem?_append_left (by rw [dblL_len]; exact h1)]
      exact dblL_at h1
    · rw [List.getElem?_append_right (by rw [dblL_len]; omega), dblL_len]
      rcases (by omega : j = 2 * i ∨ j = 2 * i + 1) with rfl | rfl
      · rw [Nat.sub_self, show 2 * i / 2 = i from by omega]; rfl
      · rw [show 2 * i + 1 - 2 * i = 1 from by omega, show (2 * i + 1) / 2 = i from by omega]; rfl
theorem dbl_may {n wd : Nat} (hn : 0 < n) (hn2 : n ≤ 66) (h1 : 1 ≤ wd) (h2 : wd ≤ 62) : MayN n 0 (dblL (n - 1)) wd := by
  refine ⟨hn, by omega, hn, by rw [dblL_len]; omega, h1, h2, fun i x hx => ?_⟩
  have hi : i < 2 * (n - 1) := by rw [← dblL_len]; exact (List.getElem?_eq_some_iff.1 hx).1
  have e := dblL_at hi
  rw [hx] at e
  injection e with e
  have hah : (i == 0 || aheadB ((dblL (n - 1)).getD (i - 1) (0, 0, 0)) x) = true := by
    by_cases h0 : i = 0
    · rw [h0]; rfl
    · rw [List.getD_eq_getElem?_getD, dblL_at (i := n - 1) (j := i - 1) (by omega), e]
      show (_ || aheadB (_, _, _) _) = true
      rw [ahead_lex]
      by_cases h3 : (i - 1) / 2 = i / 2
      · rw [if_pos (by omega), if_neg (by omega)]
        rw [decide_eq_true (by omega), Bool.or_true]
      · rw [if_neg (by omega), decide_eq_true (by omega), Bool.or_true]
  unfold edC
  rw [hah, e]
  simp; omega
theorem edE_dbl {n : Nat} (hn : 0 < n) (e : Nat × Nat) : e ∈ edE (dblL (n - 1)) ↔ e ∈ lessE n (n - 1) := by
  constructor
  · intro h
    unfold edE natE pairsZ at h
    rw [List.map_map] at h
    obtain ⟨x, hx, rfl⟩ := List.mem_map.1 h
    obtain ⟨j, hj⟩ := List.getElem?_of_mem hx
    have hi : j < 2 * (n - 1) := by rw [← dblL_len]; exact (List.getElem?_eq_some_iff.1 hj).1
    rw [dblL_at hi] at hj
    injection hj with hj
    subst hj
    have := less_mem (n := n) (k := n - 1) (i := j / 2) (by omega) (by omega)
    rw [Nat.mod_eq_of_lt (by omega)] at this
    show (((j / 2 : Nat) : Int).toNat, ((j / 2 + 1 : Nat) : Int).toNat) ∈ _
    rw [Int.toNat_natCast, Int.toNat_natCast]
    exact this
  · intro h
    obtain ⟨h1, h2, h3⟩ := mem_less h
    obtain ⟨a, b⟩ := e
    simp only at h1 h2 h3
    rw [Nat.mod_eq_of_lt (by omega)] at h3
    subst h3
    have := edE_mem (List.mem_of_getElem? (dblL_at (i := n - 1) (j := 2 * a) (by omega)))
    rw [show 2 * a / 2 = a from by omega] at this
    simpa using this
theorem dbl_cmp {n v : Nat} (hn : 0 < n) (hv : v < n) : cmp n (edE (dblL (n - 1))) v = v := by
  rw [cmp_congr (edE_dbl hn) v, less_cmp (by omega) hv]
  unfold posR
  rw [if_pos (by omega)]; omega
theorem dbl_top {n : Nat} (hn : 0 < n) (hn2 : n ≤ 66) : edM n (dblL (n - 1)) = n := by
  have h := dbl_may (wd := 62) hn hn2 (by decide) (by decide)
  have h1 := h.topk
  have h2 := h.top (v := n - 1) (by omega)
  rw [dbl_cmp hn (by omega)] at h2
  omega
theorem dbl_sum (cn : Nat → Nat) (fc tc : Nat → Nat) (L c : Nat) (hf : ∀ j, j < L → fc j = j / 2) (ht : ∀ j, j < L → tc j = j / 2 + 1) : ∀ i, i ≤ L →
    lsum fc cn (inL fc tc (c + 1) i) = (if 2 * c < i then cn c else 0) + (if 2 * c + 1 < i then cn c else 0)
  | 0, _ => by rw [if_neg (by omega), if_neg (by omega)]; rfl
  | i + 1, h => by
    rw [inL_next, lsum_app, dbl_sum cn fc tc L c hf ht i (by omega), hf i (by omega), ht i (by omega)]
    by_cases h1 : i / 2 = c
    · have hp : i / 2 + 1 = c + 1 ∧ i / 2 ≠ c + 1 := ⟨by omega, by omega⟩
      rw [if_pos hp, lsum_one, hf i (by omega), h1]
      rcases (by omega : i = 2 * c ∨ i = 2 * c + 1) with rfl | rfl
      · rw [if_neg (by omega), if_neg (by omega), if_pos (by omega), if_neg (by omega)]; omega
      · rw [if_pos (by omega), if_neg (by omega), if_pos (by omega), if_pos (by omega)]; omega
    · have hp : ¬ (i / 2 + 1 = c + 1 ∧ i / 2 ≠ c + 1) := by omega
      rw [if_neg hp, lsum_nil]
      by_cases h2 : 2 * c < i
      · rw [if_pos h2, if_pos (by omega), if_pos (by omega), if_pos (by omega)]; rfl
      · rw [if_neg h2, if_neg (by omega), if_neg (by omega), if_neg (by omega)]
theorem dbl_cn {n : Nat} (hn : 0 < n) (hn2 : n ≤ 66) : ∀ v, v < n → cnE n 0 (dblL (n - 1)) v = 2 ^ v
  | 0, _ => by
    have h := dbl_may (wd := 62) hn hn2 (by decide) (by decide)
    have hm := cnt_main h.up (h.top hn)
    unfold cnE
    rw [dbl_cmp hn hn] at hm ⊢
    exact hm
  | v + 1, hv => by
    have h := dbl_may (wd := 62) hn hn2 (by decide) (by decide)
    have ih := dbl_cn hn hn2 v (by omega)
    unfold cnE at ih ⊢
    rw [dbl_cmp hn hn] at ih ⊢
    have hf : ∀ j, j < (dblL (n - 1)).length → edF n (dblL (n - 1)) j = j / 2 := fun j hj => by
      rw [dblL_len] at hj
      rw [edF_at n (dblL_at hj)]
      simp only [Int.toNat_natCast]
      exact dbl_cmp hn (by omega)
    have ht : ∀ j, j < (dblL (n - 1)).length → edT n (dblL (n - 1)) j = j / 2 + 1 := fun j hj => by
      rw [dblL_len] at hj
      rw [edT_at n (dblL_at hj)]
      simp only [Int.toNat_natCast]
      exact dbl_cmp hn (by omega)
    rw [cnt_eq h.up (by rw [dbl_top hn hn2]; exact hv), if_neg (by omega), dbl_sum _ _ _ _ v hf ht _ (Nat.le_refl _), if_pos (by rw [dblL_len]; omega), if_pos (by rw [dblL_len]; omega), ih, Nat.pow_succ]
    omega
theorem dbl_fit {n wd : Nat} (hn : 0 < n) (hn2 : n ≤ 66) (h2 : n ≤ wd) : fitC n 0 (dblL (n - 1)) wd = true := by
  unfold fitC
  refine fits_yes fun c hc => ?_
  rw [dbl_top hn hn2] at hc
  have := dbl_cn hn hn2 c hc
  unfold cnE at this
  rw [this]
  have h3 : 2 ^ (c + 1) ≤ 2 ^ wd := Nat.pow_le_pow_right (by decide) (by omega)
  have h4 := Nat.two_pow_pos c
  rw [Nat.pow_succ] at h3
  omega
theorem dbl_nofit {n wd : Nat} (hn : 0 < n) (hn2 : n ≤ 66) (h2 : wd < n) : fitC n 0 (dblL (n - 1)) wd = false := by
  unfold fitC
  refine fits_no (k := wd) (by rw [dbl_top hn hn2]; exact h2) ?_
  have := dbl_cn hn hn2 wd h2
  unfold cnE at this
  rw [this]
  have := Nat.two_pow_pos wd
  omega
end Go.Proofs.Ytbancojknahdgaa
namespace Go.Proofs.Ytbancojknahdgaa
open Go.RowKit CP
/-- how many contexts a method has -/
noncomputable def cnM (k mn : Nat) (es : List (Int × Int × Int)) (v : Nat) : Nat := cnE k mn es (cmp k (edE es) v)
theorem if_iff {p q : Prop} [Decidable p] [Decidable q] (h : p ↔ q) (a b : Nat) : (if p then a else b) = if q then a else b := by
  by_cases e : p
  · rw [if_pos e, if_pos (h.1 e)]
  · rw [if_neg e, if_neg (fun h2 => e (h.2 h2))]
def frN (es : List (Int × Int × Int)) (j : Nat) : Nat := (es.getD j (0, 0, 0)).1.toNat
def toN (es : List (Int × Int × Int)) (j : Nat) : Nat := (es.getD j (0, 0, 0)).2.2.toNat
theorem MayN.ends {k mn wd : Nat} {es : List (Int × Int × Int)} (h : MayN k mn es wd) {j : Nat} (hj : j < es.length) : frN es j < k ∧ toN es j < k ∧ (frN es j, toN es j) ∈ edE es := by
  have hx : es[j]? = some es[j] := List.getElem?_eq_getElem hj
  obtain ⟨a, b, c, e, ha, hc, _⟩ := h.at_ hx
  have hm := edE_mem (List.mem_of_getElem? hx)
  unfold frN toN
  rw [List.getD_eq_getElem?_getD, hx]
  show (es[j]).1.toNat < k ∧ (es[j]).2.2.toNat < k ∧ _
  rw [e] at hm ⊢
  simp only [Int.toNat_natCast] at hm ⊢
  exact ⟨ha, hc, hm⟩
theorem MayN.cn_eq {k mn wd : Nat} {es : List (Int × Int × Int)} (h : MayN k mn es wd) {v : Nat} (hv : v < k) :
    cnM k mn es v = (if both (edE es) v mn = true then 1 else 0) + sumS (fun j => if both (edE es) (toN es j) v = true ∧ ¬ both (edE es) (frN es j) v = true then cnM k mn es (frN es j) else 0) es.length := by
  unfold cnM cnE
  rw [cnt_eq h.up (h.top hv), lsum_sumS]
  congr 1
  · by_cases e : both (edE es) v mn = true
    · rw [if_pos e, if_pos ((cmp_same h.ok hv h.mn1).2 e)]
    · rw [if_neg e, if_neg (fun h2 => e ((cmp_same h.ok hv h.mn1).1 h2))]
  · refine sumS_congr fun j hj => ?_
    obtain ⟨h1, h2, _⟩ := h.ends hj
    exact if_iff (and_congr (cmp_same h.ok h2 hv) (not_congr (cmp_same h.ok h1 hv))) _ _
theorem MayN.ad_eq {k mn wd : Nat} {es : List (Int × Int × Int)} (h : MayN k mn es wd) {i : Nat} (hi : i < es.length) :
    adE k mn es i = if both (edE es) (frN es i) (toN es i) = true ∨ cnM k mn es (frN es i) = 0 then 0 else (if both (edE es) (toN es i) mn = true then 1 else 0) + sumS (fun j => if both (edE es) (toN es j) (toN es i) = true ∧ ¬ both (edE es) (frN es j) (toN es i) = true then cnM k mn es (frN es j) else 0) i := by
  obtain ⟨a1, a2, _⟩ := h.ends hi
  unfold adE addF
  rw [lsum_sumS]
  have e1 : (edF k es i = edT k es i ∨ cntF (edF k es) (edT k es) es.length (cmp k (edE es) mn) (edM k es) (edF k es i) = 0) ↔ (both (edE es) (frN es i) (toN es i) = true ∨ cnM k mn es (frN es i) = 0) := by
    show (cmp k (edE es) (frN es i) = cmp k (edE es) (toN es i) ∨ cnM k mn es (frN es i) = 0) ↔ _
    rw [cmp_same h.ok a1 a2]
  have e2 : (edT k es i = cmp k (edE es) mn) ↔ both (edE es) (toN es i) mn = true := cmp_same h.ok a2 h.mn1
  have e3 : sumS (fun j => if edT k es j = edT k es i ∧ edF k es j ≠ edT k es i then cntF (edF k es) (edT k es) es.length (cmp k (edE es) mn) (edM k es) (edF k es j) else 0) i = sumS (fun j => if both (edE es) (toN es j) (toN es i) = true ∧ ¬ both (edE es) (frN es j) (toN es i) = true then cnM k mn es (frN es j) else 0) i := by
    refine sumS_congr fun j hj => ?_
    obtain ⟨h1, h2, _⟩ := h.ends (show j < es.length by omega)
    exact if_iff (and_congr (cmp_same h.ok h2 a2) (not_congr (cmp_same h.ok h1 a2))) _ _
  rw [e3]
  by_cases g1 : both (edE es) (frN es i) (toN es i) = true ∨ cnM k mn es (frN es i) = 0
  · rw [if_pos (e1.2 g1), if_pos g1]
  · rw [if_neg (fun h => g1 (e1.1 h)), if_neg g1]
    congr 1
    by_cases g2 : both (edE es) (toN es i) mn = true
    · rw [if_pos (e2.2 g2), if_pos g2]
    · rw [if_neg (fun h => g2 (e2.1 h)), if_neg g2]
/-- one method more -/
def farE (es : List (Int × Int × Int)) (n t : Nat) : List (Int × Int × Int) := es ++ [((n : Int), 99, (t : Int))]
theorem farE_len (es : List (Int × Int × Int)) (n t : Nat) : (farE es n t).length = es.length + 1 := by unfold farE; simp
section
variable {n t : Nat} {es : List (Int × Int × Int)}
theorem far_old {j : Nat} (hj : j < es.length) : (farE es n t)[j]? = es[j]? := by unfold farE; rw [List.getElem?_append_left hj]
theorem far_new : (farE es n t)[es.length]? = some ((n : Int), 99, (t : Int)) := by unfold farE; rw [List.getElem?_append_right (Nat.le_refl _), Nat.sub_self]; rfl
theorem far_fr {j : Nat} (hj : j < es.length) : frN (farE es n t) j = frN es j := by unfold frN; rw [List.getD_eq_getElem?_getD, far_old hj, ← List.getD_eq_getElem?_getD]
theorem far_to {j : Nat} (hj : j < es.length) : toN (farE es n t) j = toN es j := by unfold toN; rw [List.getD_eq_getElem?_getD, far_old hj, ← List.getD_eq_getElem?_getD]
theorem far_frL : frN (farE es n t) es.length = n := by unfold frN; rw [List.getD_eq_getElem?_getD, far_new]; simp
theorem far_toL : toN (farE es n t) es.length = t := by unfold toN; rw [List.getD_eq_getElem?_getD, far_new]; simp
theorem edE_far : edE (farE es n t) = edE es ++ [(n, t)] := by
  unfold edE natE pairsZ farE
  simp
theorem far_may {wd : Nat} (h : MayN n 0 es wd) (hn : n < 1024) (hL : es.length < 16384) (ht : t < n) : MayN (n + 1) 0 (farE es n t) wd := by
  refine ⟨by omega, by omega, by omega, by rw [farE_len]; omega, h.wd1, h.wd2, fun i x hx => ?_⟩
  by_cases hi : i < es.length
  · rw [far_old hi] at hx
    have h1 := h.ed i x hx
    unfold edC at h1 ⊢
    simp only [Bool.and_eq_true, decide_eq_true_eq] at h1 ⊢
    obtain ⟨⟨⟨⟨⟨⟨a1, a2⟩, a3⟩, a4⟩, a5⟩, a6⟩, a7⟩ := h1
    refine ⟨⟨⟨⟨⟨⟨a1, by omega⟩, a3⟩, by omega⟩, a5⟩, a6⟩, ?_⟩
    by_cases h0 : i = 0
    · rw [h0]; rfl
    · rw [List.getD_eq_getElem?_getD, far_old (by omega), ← List.getD_eq_getElem?_getD]; exact a7
  · have hi2 : i = es.length := by
      have := (List.getElem?_eq_some_iff.1 hx).1
      rw [farE_len] at this; omega
    subst hi2
    rw [far_new] at hx
    injection hx with hx
    subst hx
    have hah : (es.length == 0 || aheadB ((farE es n t).getD (es.length - 1) (0, 0, 0)) ((n : Int), 99, (t : Int))) = true := by
      by_cases h0 : es.length = 0
      · rw [h0]; rfl
      · obtain ⟨p, hp⟩ : ∃ p, es[es.length - 1]? = some p := ⟨_, List.getElem?_eq_getElem (by omega)⟩
        obtain ⟨a, b, c, e, ha, _, _⟩ := h.at_ hp
        rw [List.getD_eq_getElem?_getD, far_old (by omega), hp, e]
        show (_ || aheadB (_, _, _) _) = true
        rw [ahead_lex, if_neg (by omega), decide_eq_true (by omega), Bool.or_true]
    unfold edC
    rw [hah]
    simp; omega
variable (h : MayN n 0 es 62) (hn : n < 1024) (hL : es.length < 16384) (ht : t < n)
include h
theorem far_rc {a b : Nat} (ha : a < n) (hr : Rc (gr (edE (farE es n t))) a b) : b < n ∧ Rc (gr (edE es)) a b :=
  hr.closed (fun v => v < n ∧ Rc (gr (edE es)) a v) (fun v hv x hx => by
    have := mem_gr.1 hx
    rw [edE_far] at this
    rcases List.mem_append.1 this with h1 | h1
    · exact ⟨(h.ok _ h1).2, hv.2.trans (Rc.one (mem_gr.2 h1))⟩
    · simp at h1; omega) ⟨ha, Rc.refl⟩
theorem far_both {a b : Nat} (ha : a < n) (hb : b < n) : both (edE (farE es n t)) a b = both (edE es) a b := by
  refine Bool.eq_iff_iff.2 ?_
  rw [both_iff, both_iff]
  constructor
  · rintro ⟨h1, h2⟩
    exact ⟨(far_rc h ha h1).2, (far_rc h hb h2).2⟩
  · have hc : ∀ u v, v ∈ gr (edE es) u → v ∈ gr (edE (farE es n t)) u := fun u v hv => mem_gr.2 (by rw [edE_far]; exact List.mem_append_left _ (mem_gr.1 hv))
    rintro ⟨h1, h2⟩
    exact ⟨h1.congr hc, h2.congr hc⟩
theorem far_apart {a : Nat} (ha : a < n) : both (edE (farE es n t)) a n = false := by
  cases e : both (edE (farE es n t)) a n with
  | false => rfl
  | true => have := (far_rc h ha (both_iff.1 e).1).1; omega
include hn hL ht
theorem far_none : cnM (n + 1) 0 (farE es n t) n = 0 := by
  have h' := far_may h hn hL ht
  have h0 := h.k1
  rw [h'.cn_eq (by omega), both_comm, far_apart h (by omega), if_neg (by decide), Nat.zero_add]
  refine (sumS_congr fun j hj => ?_).trans (sumS_zero _)
  rw [farE_len] at hj
  rw [if_neg]
  rintro ⟨h1, _⟩
  by_cases hj2 : j < es.length
  · rw [far_to hj2, far_apart h (h.ends hj2).2.1] at h1; cases h1
  · rw [show j = es.length from by omega, far_toL, far_apart h ht] at h1; cases h1
theorem far_cn : ∀ v, v < n → cnM (n + 1) 0 (farE es n t) v = cnM n 0 es v := by
  have h' := far_may h hn hL ht
  intro v
  obtain ⟨d, hd⟩ : ∃ d, cmp n (edE es) v = d := ⟨_, rfl⟩
  induction d using Nat.strongRecOn generalizing v with
  | ind d ih =>
    intro hv
    have hk := h.k1
    rw [h'.cn_eq (by omega), h.cn_eq hv, far_both h hv (by omega), farE_len]
    congr 1
    show sumS _ es.length + _ = _
    simp only []
    rw [far_frL, far_none h hn hL ht]
    have e0 : ∀ p : Prop, [Decidable p] → (if p then 0 else 0) = 0 := fun p _ => by split <;> rfl
    rw [e0, Nat.add_zero]
    refine sumS_congr fun j hj => ?_
    obtain ⟨h1, h2, h3⟩ := h.ends hj
    rw [far_fr hj, far_to hj, far_both h h2 hv, far_both h h1 hv]
    by_cases hp : both (edE es) (toN es j) v = true ∧ ¬ both (edE es) (frN es j) v = true
    · rw [if_pos hp, if_pos hp]
      have l1 := cmp_edge h.ok h3
      have l2 := (cmp_same h.ok h2 hv).2 hp.1
      have l3 : cmp n (edE es) (frN es j) ≠ cmp n (edE es) v := fun e => hp.2 ((cmp_same h.ok h1 hv).1 e)
      simp only at l1
      exact ih (cmp n (edE es) (frN es j)) (by omega) _ rfl h1
    · rw [if_neg hp, if_neg hp]
theorem far_ad {i : Nat} (hi : i < es.length) : adE (n + 1) 0 (farE es n t) i = adE n 0 es i := by
  have h' := far_may h hn hL ht
  obtain ⟨a1, a2, _⟩ := h.ends hi
  have hk := h.k1
  rw [h'.ad_eq (by rw [farE_len]; omega), h.ad_eq hi, far_fr hi, far_to hi, far_both h a1 a2, far_cn h hn hL ht _ a1, far_both h a2 (by omega)]
  congr 2
  refine sumS_congr fun j hj => ?_
  obtain ⟨h1, h2, h3⟩ := h.ends (show j < es.length by omega)
  rw [far_fr (by omega), far_to (by omega), far_both h h2 a2, far_both h h1 a2, far_cn h hn hL ht _ h1]
theorem far_adL : adE (n + 1) 0 (farE es n t) es.length = 0 := by
  have h' := far_may h hn hL ht
  rw [h'.ad_eq (by rw [farE_len]; omega), if_pos]
  right
  rw [far_frL, far_none h hn hL ht]
theorem far_fit (hf : fitC n 0 es 62 = true) : fitC (n + 1) 0 (farE es n t) 62 = true := by
  have h' := far_may h hn hL ht
  unfold fitC
  refine fits_yes fun c hc => ?_
  have hmx := h'.maxOf
  have hne : cmpZ (n + 1) (edE (farE es n t)) ≠ [] := by
    intro e
    have := cmpZ_len (n + 1) (edE (farE es n t))
    rw [e] at this
    simp at this
  obtain ⟨v, hv, hve⟩ := List.mem_map.1 (maxOf_spec hne).2
  have hv := List.mem_range.1 hv
  obtain ⟨u, hu, rfl⟩ := num_onto h'.ok hv (c := c) (by omega)
  show cnM (n + 1) 0 (farE es n t) u ≤ _
  by_cases hun : u < n
  · rw [far_cn h hn hL ht u hun]
    exact fits_of hf (h.top hun)
  · rw [show u = n from by omega, far_none h hn hL ht]; exact Nat.zero_le _
end
end Go.Proofs.Ytbancojknahdgaa
