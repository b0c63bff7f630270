/- Layer 7 in plain Lean: texts that are split at a byte and joined with one; how the bits of groups are dealt out. -/
import Derived.Lib.SplitLaws
namespace Go.Proofs.YtedfakpmdncnmaaDoor.LY
open Go.Lib
/-! ### split at a byte -/
theorem index_free {c : UInt8} : ∀ {l : List UInt8}, c ∉ l → index l [c] = -1
  | [], _ => by simp [index]
  | b :: l, h => by
    have hb : b ≠ c := fun e => h (by rw [e]; exact List.mem_cons_self ..)
    have hl : c ∉ l := fun e => h (List.mem_cons_of_mem _ e)
    have hp : ([c] : List UInt8).isPrefixOf (b :: l) = false := by simp [List.isPrefixOf, Ne.symm hb]
    rw [index, hp, index_free hl]; simp
theorem index_at {c : UInt8} : ∀ {x : List UInt8} (r : List UInt8), c ∉ x → index (x ++ c :: r) [c] = (x.length : Int)
  | [], r, _ => by rw [List.nil_append, index]; simp [List.isPrefixOf]
  | b :: x, r, h => by
    have hb : b ≠ c := fun e => h (by rw [e]; exact List.mem_cons_self ..)
    have hl : c ∉ x := fun e => h (List.mem_cons_of_mem _ e)
    have hp : ([c] : List UInt8).isPrefixOf (b :: (x ++ c :: r)) = false := by simp [List.isPrefixOf, Ne.symm hb]
    rw [List.cons_append, index, hp, index_at r hl]
    have hn : ¬ ((x.length : Int) == -1) = true := by simp
    rw [if_neg (by decide), if_neg hn, List.length_cons]; omega
theorem split_free {c : UInt8} {l : List UInt8} (h : c ∉ l) : split l [c] = [l] := by
  unfold split
  rw [count_one, List.count_eq_zero.2 h]; rfl
theorem split_at {c : UInt8} {x : List UInt8} (r : List UInt8) (h : c ∉ x) : split (x ++ c :: r) [c] = x :: split r [c] := by
  have hi := index_at r h
  have hn : ¬ (index (x ++ c :: r) [c] == -1) = true := by rw [hi]; simp
  unfold split
  rw [count_one, count_one, List.count_append, List.count_eq_zero.2 h, List.count_cons_self, Nat.zero_add, splitK, if_neg hn, hi]
  simp
theorem split_ne (l : List UInt8) (c : UInt8) : split l [c] ≠ [] := by
  unfold split
  cases count l [c] with
  | zero => simp [splitK]
  | succ k => unfold splitK; split <;> simp
/-- texts with a byte between -/
def joinC (c : UInt8) : List (List UInt8) → List UInt8
  | [] => []
  | [x] => x
  | x :: y :: r => x ++ c :: joinC c (y :: r)
theorem split_join {c : UInt8} : ∀ {l : List (List UInt8)}, l ≠ [] → (∀ x ∈ l, c ∉ x) → split (joinC c l) [c] = l
  | [], h, _ => absurd rfl h
  | [x], _, h => split_free (h x (by simp))
  | x :: y :: r, _, h => by
    show split (x ++ c :: joinC c (y :: r)) [c] = _
    rw [split_at _ (h x (by simp)), split_join (by simp) fun z hz => h z (List.mem_cons_of_mem _ hz)]
theorem joinC_mem {c b : UInt8} : ∀ {l : List (List UInt8)}, b ∈ joinC c l → b = c ∨ ∃ x ∈ l, b ∈ x
  | [], h => by cases h
  | [x], h => .inr ⟨x, by simp, h⟩
  | x :: y :: r, h => by
    have h : b ∈ x ++ c :: joinC c (y :: r) := h
    rcases List.mem_append.1 h with h | h
    · exact .inr ⟨x, by simp, h⟩
    · rcases List.mem_cons.1 h with h | h
      · exact .inl h
      · rcases joinC_mem h with h | ⟨z, hz, h⟩
        · exact .inl h
        · exact .inr ⟨z, List.mem_cons_of_mem _ hz, h⟩
theorem joinC_nil {c : UInt8} : ∀ {l : List (List UInt8)}, l ≠ [] → (∀ x ∈ l, x ≠ []) → joinC c l ≠ []
  | [], h, _ => absurd rfl h
  | [x], _, h => h x (by simp)
  | x :: y :: r, _, _ => by show x ++ c :: joinC c (y :: r) ≠ []; simp
theorem joinC_snoc {c : UInt8} : ∀ {l : List (List UInt8)} (x : List UInt8), l ≠ [] → joinC c (l ++ [x]) = joinC c l ++ c :: x
  | [], _, h => absurd rfl h
  | [y], x, _ => rfl
  | y :: z :: r, x, _ => by
    show y ++ c :: joinC c (z :: (r ++ [x])) = _
    rw [← List.cons_append, joinC_snoc (l := z :: r) x (by simp)]
    show y ++ c :: (joinC c (z :: r) ++ c :: x) = (y ++ c :: joinC c (z :: r)) ++ c :: x
    simp
/-- a name with a byte more behind the last of some texts -/
theorem joinC_last {c : UInt8} : ∀ {l : List (List UInt8)} (x y : List UInt8), joinC c (l ++ [x ++ y]) = joinC c (l ++ [x]) ++ y
  | [], x, y => rfl
  | [z], x, y => by show z ++ c :: (x ++ y) = (z ++ c :: x) ++ y; simp
  | z :: u :: r, x, y => by
    show z ++ c :: joinC c ((u :: r) ++ [x ++ y]) = (z ++ c :: joinC c ((u :: r) ++ [x])) ++ y
    rw [joinC_last x y]; simp
/-! ### groups -/
/-- the groups of an order, as texts -/
def groupsT (s : List UInt8) : List (List (List UInt8)) := if s = [] then [] else (split s [95]).map fun g => split g [42]
def orderT (gs : List (List (List UInt8))) : List UInt8 := joinC 95 (gs.map (joinC 42))
theorem groups_order {gs : List (List (List UInt8))} (h0 : gs ≠ []) (h1 : ∀ g ∈ gs, g ≠ []) (h2 : ∀ g ∈ gs, ∀ x ∈ g, x ≠ [] ∧ (95 : UInt8) ∉ x ∧ (42 : UInt8) ∉ x) : groupsT (orderT gs) = gs := by
  have hne : orderT gs ≠ [] := joinC_nil (by simpa using h0) fun x hx => by
    obtain ⟨g, hg, rfl⟩ := List.mem_map.1 hx
    exact joinC_nil (h1 g hg) fun y hy => (h2 g hg y hy).1
  unfold groupsT
  rw [if_neg hne]
  unfold orderT
  rw [split_join (by simpa using h0) fun x hx => by
    obtain ⟨g, hg, rfl⟩ := List.mem_map.1 hx
    intro hm
    rcases joinC_mem hm with h | ⟨y, hy, h⟩
    · exact absurd h (by decide)
    · exact (h2 g hg y hy).2.1 h]
  rw [List.map_map]
  conv => rhs; rw [← List.map_id gs]
  refine List.map_congr_left fun g hg => ?_
  show split (joinC 42 g) [42] = g
  exact split_join (h1 g hg) fun x hx => (h2 g hg x hx).2.2
/-! ### how bits are dealt out -/
/-- the next bit, and each domain's bits, the highest first -/
abbrev St := Nat × (Nat → List Nat)
def put1 (w : Nat → Nat) (L : Nat) (st : St) (k : Nat) : St := if L < w k then (st.1 + 1, fun j => if j = k then st.2 j ++ [st.1] else st.2 j) else st
def levS (w : Nat → Nat) (l : List Nat) (L : Nat) (st : St) : St := l.foldl (put1 w L) st
def grpS (w : Nat → Nat) (l : List Nat) (M : Nat) (st : St) : St := (List.range M).foldl (fun st L => levS w l L st) st
def outS (w : Nat → Nat) (M : Nat) (gs : List (List Nat)) (st : St) : St := gs.foldl (fun st g => grpS w g M st) st
def stZ : St := (0, fun _ => [])
theorem levS_idle {w : Nat → Nat} {L : Nat} : ∀ {l : List Nat} (st : St), (∀ k ∈ l, w k ≤ L) → levS w l L st = st
  | [], _, _ => rfl
  | k :: l, st, h => by
    have h1 : put1 w L st k = st := by unfold put1; rw [if_neg (by have := h k (by simp); omega)]
    show levS w l L (put1 w L st k) = st
    rw [h1]
    exact levS_idle st fun j hj => h j (List.mem_cons_of_mem _ hj)
theorem grpS_succ (w : Nat → Nat) (l : List Nat) (M : Nat) (st : St) : grpS w l (M + 1) st = levS w l M (grpS w l M st) := by
  unfold grpS; rw [List.range_succ, List.foldl_append]; rfl
theorem grpS_idle {w : Nat → Nat} {l : List Nat} (st : St) {M : Nat} (h : ∀ k ∈ l, w k ≤ M) : ∀ d, grpS w l (M + d) st = grpS w l M st
  | 0 => rfl
  | d + 1 => by
    rw [← Nat.add_assoc, grpS_succ, levS_idle _ fun k hk => by have := h k hk; omega]
    exact grpS_idle st h d
theorem levS_take {w : Nat → Nat} {l : List Nat} {L j k : Nat} {st : St} (h : l[j]? = some k) : levS w (l.take (j + 1)) L st = put1 w L (levS w (l.take j) L st) k := by
  unfold levS
  rw [List.take_add_one, h, List.foldl_append]; rfl
theorem outS_take {w : Nat → Nat} {M : Nat} {gs : List (List Nat)} {i : Nat} {g : List Nat} {st : St} (h : gs[i]? = some g) : outS w M (gs.take (i + 1)) st = grpS w g M (outS w M (gs.take i) st) := by
  unfold outS
  rw [List.take_add_one, h, List.foldl_append]; rfl
/-! ### the same under other numbers -/
/-- st, with k for r k -/
structure Rot (n : Nat) (r : Nat → Nat) (st st' : St) : Prop where
  nx : st.1 = st'.1
  at_ : ∀ k, k < n → st.2 k = st'.2 (r k)
section
variable {n : Nat} {r : Nat → Nat} {w w' : Nat → Nat} (hr : ∀ j k, j < n → k < n → r j = r k → j = k) (hw : ∀ k, k < n → w' (r k) = w k)
include hr hw
theorem put1_rot {st st' : St} (h : Rot n r st st') {k : Nat} (hk : k < n) (L : Nat) : Rot n r (put1 w L st k) (put1 w' L st' (r k)) := by
  unfold put1
  rw [hw k hk]
  split
  · refine ⟨by rw [h.nx], fun j hj => ?_⟩
    show (if j = k then st.2 j ++ [st.1] else st.2 j) = if r j = r k then st'.2 (r j) ++ [st'.1] else st'.2 (r j)
    by_cases e : j = k
    · subst e; rw [if_pos rfl, if_pos rfl, h.at_ j hj, h.nx]
    · rw [if_neg e, if_neg fun e2 => e (hr j k hj hk e2), h.at_ j hj]
  · exact h
theorem levS_rot (L : Nat) : ∀ (l : List Nat) {st st' : St}, Rot n r st st' → (∀ k ∈ l, k < n) → Rot n r (levS w l L st) (levS w' (l.map r) L st')
  | [], _, _, h, _ => h
  | k :: l, _, _, h, hl => levS_rot L l (put1_rot hr hw h (hl k (by simp)) L) fun j hj => hl j (List.mem_cons_of_mem _ hj)
theorem grpS_rot (l : List Nat) (hl : ∀ k ∈ l, k < n) {st st' : St} (h : Rot n r st st') : ∀ M, Rot n r (grpS w l M st) (grpS w' (l.map r) M st')
  | 0 => h
  | M + 1 => by rw [grpS_succ, grpS_succ]; exact levS_rot hr hw M l (grpS_rot l hl h M) hl
theorem outS_rot (M : Nat) : ∀ (gs : List (List Nat)) {st st' : St}, Rot n r st st' → (∀ g ∈ gs, ∀ k ∈ g, k < n) → Rot n r (outS w M gs st) (outS w' M (gs.map fun g => g.map r) st')
  | [], _, _, h, _ => h
  | g :: gs, _, _, h, hg => outS_rot M gs (grpS_rot hr hw g (hg g (by simp)) h M) fun x hx => hg x (List.mem_cons_of_mem _ hx)
end
/-! ### each bit is dealt out once -/
/-- so far: each domain's bits rise, all are below the next one, and each below it is one domain's -/
structure Dealt (st : St) : Prop where
  up : ∀ k, (st.2 k).Pairwise (· < ·)
  lt : ∀ k, ∀ v ∈ st.2 k, v < st.1
  one : ∀ j k v, v ∈ st.2 j → v ∈ st.2 k → j = k
theorem Dealt.zero : Dealt stZ := ⟨fun _ => List.Pairwise.nil, fun _ _ h => (List.not_mem_nil h).elim, fun _ _ _ h => (List.not_mem_nil h).elim⟩
theorem Dealt.put1 {st : St} (h : Dealt st) (w : Nat → Nat) (L k : Nat) : Dealt (put1 w L st k) := by
  unfold LY.put1
  split
  · have hm : ∀ j v, v ∈ (if j = k then st.2 j ++ [st.1] else st.2 j) → v ∈ st.2 j ∨ (j = k ∧ v = st.1) := fun j v hv => by
      by_cases e : j = k
      · rw [if_pos e] at hv
        rcases List.mem_append.1 hv with hv | hv
        · exact .inl hv
        · exact .inr ⟨e, List.mem_singleton.1 hv⟩
      · rw [if_neg e] at hv; exact .inl hv
    refine ⟨fun j => ?_, fun j v hv => ?_, fun i j v hi hj => ?_⟩
    · show (if j = k then st.2 j ++ [st.1] else st.2 j).Pairwise _
      split
      · refine List.pairwise_append.2 ⟨h.up j, List.pairwise_singleton .., fun a ha b hb => ?_⟩
        rw [List.mem_singleton.1 hb]
        exact h.lt j a ha
      · exact h.up j
    · rcases hm j v hv with hv | ⟨_, rfl⟩
      · exact Nat.lt_succ_of_lt (h.lt j v hv)
      · exact Nat.lt_succ_self _
    · rcases hm i v hi with hi | ⟨rfl, rfl⟩ <;> rcases hm j _ hj with hj | ⟨hjk, hv⟩
      · exact h.one i j v hi hj
      · have := h.lt i v hi; omega
      · have := h.lt j _ hj; omega
      · exact hjk.symm
  · exact h
theorem Dealt.lev {w : Nat → Nat} {L : Nat} : ∀ (l : List Nat) {st : St}, Dealt st → Dealt (levS w l L st)
  | [], _, h => h
  | k :: l, _, h => Dealt.lev l (h.put1 w L k)
theorem Dealt.grp {w : Nat → Nat} {l : List Nat} {st : St} (h : Dealt st) : ∀ M, Dealt (grpS w l M st)
  | 0 => h
  | M + 1 => by rw [grpS_succ]; exact Dealt.lev l (h.grp M)
theorem Dealt.out {w : Nat → Nat} {M : Nat} : ∀ (gs : List (List Nat)) {st : St}, Dealt st → Dealt (outS w M gs st)
  | [], _, h => h
  | _ :: gs, _, h => Dealt.out gs (h.grp M)
/-! ### how many bits each has -/
theorem lev_other {w : Nat → Nat} {L k : Nat} : ∀ (l : List Nat) (st : St), k ∉ l → (levS w l L st).2 k = st.2 k
  | [], _, _ => rfl
  | j :: l, st, h => by
    show (levS w l L (put1 w L st j)).2 k = st.2 k
    rw [lev_other l _ fun e => h (List.mem_cons_of_mem _ e)]
    unfold put1
    split
    · show (if k = j then _ else st.2 k) = _
      rw [if_neg fun e => h (by rw [e]; exact List.mem_cons_self ..)]
    · rfl
theorem lev_own {w : Nat → Nat} {L k : Nat} : ∀ (l : List Nat) (st : St), l.Nodup → k ∈ l → ((levS w l L st).2 k).length = (st.2 k).length + (if L < w k then 1 else 0)
  | [], _, _, h => by cases h
  | j :: l, st, hn, h => by
    obtain ⟨h1, h2⟩ := List.nodup_cons.1 hn
    show ((levS w l L (put1 w L st j)).2 k).length = _
    by_cases e : k = j
    · subst e
      rw [lev_other l _ h1]
      unfold put1
      split
      · show (if k = k then st.2 k ++ [st.1] else st.2 k).length = _
        rw [if_pos rfl]; simp
      · rfl
    · rw [lev_own l _ h2 (by rcases List.mem_cons.1 h with h | h; exact absurd h e; exact h)]
      congr 1
      unfold put1
      split
      · show (if k = j then _ else st.2 k).length = _
        rw [if_neg e]
      · rfl
theorem grp_other {w : Nat → Nat} {k : Nat} {l : List Nat} (st : St) (h : k ∉ l) : ∀ M, (grpS w l M st).2 k = st.2 k
  | 0 => rfl
  | M + 1 => by rw [grpS_succ, lev_other l _ h, grp_other st h M]
theorem grp_own {w : Nat → Nat} {k : Nat} {l : List Nat} (st : St) (hn : l.Nodup) (h : k ∈ l) : ∀ M, ((grpS w l M st).2 k).length = (st.2 k).length + min M (w k)
  | 0 => by simp [grpS]
  | M + 1 => by
    rw [grpS_succ, lev_own l _ hn h, grp_own st hn h M]
    split <;> omega
theorem out_other {w : Nat → Nat} {M k : Nat} : ∀ (gs : List (List Nat)) (st : St), k ∉ gs.flatten → (outS w M gs st).2 k = st.2 k
  | [], _, _ => rfl
  | g :: gs, st, h => by
    rw [List.flatten_cons, List.mem_append] at h
    show (outS w M gs (grpS w g M st)).2 k = _
    rw [out_other gs _ fun e => h (.inr e), grp_other st fun e => h (.inl e)]
theorem out_own {w : Nat → Nat} {M k : Nat} (hM : w k ≤ M) : ∀ (gs : List (List Nat)) (st : St), gs.flatten.Nodup → k ∈ gs.flatten → ((outS w M gs st).2 k).length = (st.2 k).length + w k
  | [], _, _, h => by cases h
  | g :: gs, st, hn, h => by
    rw [List.flatten_cons] at hn h
    obtain ⟨h1, h2, h3⟩ := List.nodup_append.1 hn
    show ((outS w M gs (grpS w g M st)).2 k).length = _
    by_cases e : k ∈ g
    · rw [out_other gs _ fun e2 => h3 k e k e2 rfl, grp_own st h1 e]; omega
    · rcases List.mem_append.1 h with h | h
      · exact absurd h e
      · rw [out_own hM gs _ h2 h, grp_other st e]
/-! ### how many in all -/
def sumW (w : Nat → Nat) (l : List Nat) : Nat := (l.map w).sum
def levN (w : Nat → Nat) (l : List Nat) (L : Nat) : Nat := l.countP fun k => decide (L < w k)
theorem lev_next {w : Nat → Nat} {L : Nat} : ∀ (l : List Nat) (st : St), (levS w l L st).1 = st.1 + levN w l L
  | [], _ => rfl
  | k :: l, st => by
    show (levS w l L (put1 w L st k)).1 = _
    rw [lev_next l]
    unfold levN put1
    rw [List.countP_cons]
    by_cases h : L < w k
    · rw [if_pos h, if_pos (by simpa using h)]; show st.1 + 1 + _ = _; omega
    · rw [if_neg h, if_neg (by simpa using h)]; omega
theorem levN_min (w : Nat → Nat) (M : Nat) : ∀ l : List Nat, (l.map fun k => min M (w k)).sum + levN w l M = (l.map fun k => min (M + 1) (w k)).sum
  | [] => rfl
  | x :: l => by
    have ih := levN_min w M l
    unfold levN at ih ⊢
    rw [List.countP_cons, List.map_cons, List.map_cons, List.sum_cons, List.sum_cons]
    split <;> rename_i h <;> simp at h <;> omega
theorem grp_next {w : Nat → Nat} (l : List Nat) (st : St) : ∀ M, (grpS w l M st).1 = st.1 + (l.map fun k => min M (w k)).sum
  | 0 => by
    have e : (l.map fun k => min 0 (w k)).sum = 0 := by
      induction l with
      | nil => rfl
      | cons x l ih => simpa using ih
    rw [e]; rfl
  | M + 1 => by rw [grpS_succ, lev_next, grp_next l st M, ← levN_min w M l]; omega
theorem out_next {w : Nat → Nat} {M : Nat} : ∀ (gs : List (List Nat)) (st : St), (∀ k ∈ gs.flatten, w k ≤ M) → (outS w M gs st).1 = st.1 + (gs.flatten.map w).sum
  | [], _, _ => rfl
  | g :: gs, st, h => by
    have e : (g.map fun k => min M (w k)) = g.map w := List.map_congr_left fun k hk => Nat.min_eq_right (h k (by rw [List.flatten_cons]; exact List.mem_append_left _ hk))
    show (outS w M gs (grpS w g M st)).1 = _
    rw [out_next gs _ fun k hk => h k (by rw [List.flatten_cons]; exact List.mem_append_right _ hk), grp_next, e, List.flatten_cons, List.map_append, List.sum_append]
    omega
/-- each bit below the next one is somebody's -/
def Full (n : Nat) (st : St) : Prop := ∀ v, v < st.1 → ∃ k, k < n ∧ v ∈ st.2 k
theorem Full.put1 {n : Nat} {st : St} (h : Full n st) (w : Nat → Nat) (L : Nat) {k : Nat} (hk : k < n) : Full n (put1 w L st k) := by
  unfold LY.put1
  split
  · intro v hv
    by_cases e : v = st.1
    · exact ⟨k, hk, by show v ∈ (if k = k then st.2 k ++ [st.1] else st.2 k); rw [if_pos rfl, e]; simp⟩
    · obtain ⟨j, hj, hm⟩ := h v (by have hv : v < st.1 + 1 := hv; omega)
      refine ⟨j, hj, ?_⟩
      show v ∈ (if j = k then st.2 j ++ [st.1] else st.2 j)
      split
      · exact List.mem_append_left _ hm
      · exact hm
  · exact h
end Go.Proofs.YtedfakpmdncnmaaDoor.LY
