/- Layer 7 in plain Lean: texts that are split at a byte and joined with one; how the bits of groups are dealt out. 
 Layer 7 in plain Lean: domains, when they may be, orders of domains, domains told in another order. 
 Layer 7: the contracts of name, widths, Check, Bits. 
 Layer 7: the contracts of Check, Bits, and of finding a domain by its name. 
 Layer 7 in plain Lean: an order that is read name by name. 
 Layer 7 in memory: rows that are dealt out (GrM), the seen set, what a row's turning leaves. 
 Layer 7: what Place has in memory between its steps. 
 Layer 7: the contract of Place. -/
import Derived.Lib.SplitLaws
import Derived.Shelf.GgClosure.StringsIndexFunc
import Derived.Test.YtobhjkfkdkiigaaGreatDoorShelfD
import Derived.Test.YtobhjkfkdkiigaaGreatDoorArith
import Derived.Test.YtobhjkfkdkiigaaGreatDoorMap
import Derived.Test.YtobhjkfkdkiigaaGreatDoorCountJ
import Derived.StringKeys
import Derived.BigQuiet
import Derived.Test.YtobhjkfkdkiigaaGreatDoorNodeGZ
import Derived.Test.YtobhjkfkdkiigaaGreatDoorCountB
import Derived.Conc.MuLone
import Derived.Lib.OwnBridge
import Derived.Test.YtobhjkfkdkiigaaGreatDoorCountPR
namespace Go.Proofs.YtobhjkfkdkiigaaGreatDoor.LY
open Go.Lib
/-! ### split at a byte -/
theorem index_free {c : UInt8} : ∀ {l : List UInt8}, c ∉ l → index l [c] = -1
  | [], _ => by simp [index]
  | b :: l, h => by
    have hb : b ≠ c := fun e => h (by rw [e]; exact List.mem_cons_self ..)
    have hl : c ∉ l := fun e => h (List.mem_cons_of_mem _ e)
    have hp : ([c] : List UInt8).isPrefixOf (b :: l) = false := by simp [List.isPrefixOf, Ne.symm hb]
    rw [index, hp, index_free hl]; simp
theorem index_at {c : UInt8} : ∀ {x : List UInt8} (r : List UInt8), c ∉ x → index (x ++ c :: r) [c] = (x.length : Int)
  | [], r, _ => by rw [List.nil_append, index]; simp [List.isPrefixOf]
  | b :: x, r, h => by
    have hb : b ≠ c := fun e => h (by rw [e]; exact List.mem_cons_self ..)
    have hl : c ∉ x := fun e => h (List.mem_cons_of_mem _ e)
    have hp : ([c] : List UInt8).isPrefixOf (b :: (x ++ c :: r)) = false := by simp [List.isPrefixOf, Ne.symm hb]
    rw [List.cons_append, index, hp, index_at r hl]
    have hn : ¬ ((x.length : Int) == -1) = true := by simp
    rw [if_neg (by decide), if_neg hn, List.length_cons]; omega
theorem split_free {c : UInt8} {l : List UInt8} (h : c ∉ l) : split l [c] = [l] := by
  unfold split
  rw [count_one, List.count_eq_zero.2 h]; rfl
theorem split_at {c : UInt8} {x : List UInt8} (r : List UInt8) (h : c ∉ x) : split (x ++ c :: r) [c] = x :: split r [c] := by
  have hi := index_at r h
  have hn : ¬ (index (x ++ c :: r) [c] == -1) = true := by rw [hi]; simp
  unfold split
  rw [count_one, count_one, List.count_append, List.count_eq_zero.2 h, List.count_cons_self, Nat.zero_add, splitK, if_neg hn, hi]
  simp
theorem split_ne (l : List UInt8) (c : UInt8) : split l [c] ≠ [] := by
  unfold split
  cases count l [c] with
  | zero => simp [splitK]
  | succ k => unfold splitK; split <;> simp
/-- texts with a byte between -/
def joinC (c : UInt8) : List (List UInt8) → List UInt8
  | [] => []
  | [x] => x
  | x :: y :: r => x ++ c :: joinC c (y :: r)
theorem split_join {c : UInt8} : ∀ {l : List (List UInt8)}, l ≠ [] → (∀ x ∈ l, c ∉ x) → split (joinC c l) [c] = l
  | [], h, _ => absurd rfl h
  | [x], _, h => split_free (h x (by simp))
  | x :: y :: r, _, h => by
    show split (x ++ c :: joinC c (y :: r)) [c] = _
    rw [split_at _ (h x (by simp)), split_join (by simp) fun z hz => h z (List.mem_cons_of_mem _ hz)]
theorem joinC_mem {c b : UInt8} : ∀ {l : List (List UInt8)}, b ∈ joinC c l → b = c ∨ ∃ x ∈ l, b ∈ x
  | [], h => by cases h
  | [x], h => .inr ⟨x, by simp, h⟩
  | x :: y :: r, h => by
    have h : b ∈ x ++ c :: joinC c (y :: r) := h
    rcases List.mem_append.1 h with h | h
    · exact .inr ⟨x, by simp, h⟩
    · rcases List.mem_cons.1 h with h | h
      · exact .inl h
      · rcases joinC_mem h with h | ⟨z, hz, h⟩
        · exact .inl h
        · exact .inr ⟨z, List.mem_cons_of_mem _ hz, h⟩
theorem joinC_nil {c : UInt8} : ∀ {l : List (List UInt8)}, l ≠ [] → (∀ x ∈ l, x ≠ []) → joinC c l ≠ []
  | [], h, _ => absurd rfl h
  | [x], _, h => h x (by simp)
  | x :: y :: r, _, _ => by show x ++ c :: joinC c (y :: r) ≠ []; simp
theorem joinC_snoc {c : UInt8} : ∀ {l : List (List UInt8)} (x : List UInt8), l ≠ [] → joinC c (l ++ [x]) = joinC c l ++ c :: x
  | [], _, h => absurd rfl h
  | [y], x, _ => rfl
  | y :: z :: r, x, _ => by
    show y ++ c :: joinC c (z :: (r ++ [x])) = _
    rw [← List.cons_append, joinC_snoc (l := z :: r) x (by simp)]
    show y ++ c :: (joinC c (z :: r) ++ c :: x) = (y ++ c :: joinC c (z :: r)) ++ c :: x
    simp
/-- a name with a byte more behind the last of some texts -/
theorem joinC_last {c : UInt8} : ∀ {l : List (List UInt8)} (x y : List UInt8), joinC c (l ++ [x ++ y]) = joinC c (l ++ [x]) ++ y
  | [], x, y => rfl
  | [z], x, y => by show z ++ c :: (x ++ y) = (z ++ c :: x) ++ y; simp
  | z :: u :: r, x, y => by
    show z ++ c :: joinC c ((u :: r) ++ [x ++ y]) = (z ++ c :: joinC c ((u :: r) ++ [x])) ++ y
    rw [joinC_last x y]; simp
/-! ### groups -/
/-- the groups of an order, as texts -/
def groupsT (s : List UInt8) : List (List (List UInt8)) := if s = [] then [] else (split s [95]).map fun g => split g [42]
def orderT (gs : List (List (List UInt8))) : List UInt8 := joinC 95 (gs.map (joinC 42))
theorem groups_order {gs : List (List (List UInt8))} (h0 : gs ≠ []) (h1 : ∀ g ∈ gs, g ≠ []) (h2 : ∀ g ∈ gs, ∀ x ∈ g, x ≠ [] ∧ (95 : UInt8) ∉ x ∧ (42 : UInt8) ∉ x) : groupsT (orderT gs) = gs := by
  have hne : orderT gs ≠ [] := joinC_nil (by simpa using h0) fun x hx => by
    obtain ⟨g, hg, rfl⟩ := List.mem_map.1 hx
    exact joinC_nil (h1 g hg) fun y hy => (h2 g hg y hy).1
  unfold groupsT
  rw [if_neg hne]
  unfold orderT
  rw [split_join (by simpa using h0) fun x hx => by
    obtain ⟨g, hg, rfl⟩ := List.mem_map.1 hx
    intro hm
    rcases joinC_mem hm with h | ⟨y, hy, h⟩
    · exact absurd h (by decide)
    · exact (h2 g hg y hy).2.1 h]
  rw [List.map_map]
  conv => rhs; rw [← List.map_id gs]
  refine List.map_congr_left fun g hg => ?_
  show split (joinC 42 g) [42] = g
  exact split_join (h1 g hg) fun x hx => (h2 g hg x hx).2.2
/-! ### how bits are dealt out -/
/-- the next bit, and each domain's bits, the highest first -/
abbrev St := Nat × (Nat → List Nat)
def put1 (w : Nat → Nat) (L : Nat) (st : St) (k : Nat) : St := if L < w k then (st.1 + 1, fun j => if j = k then st.2 j ++ [st.1] else st.2 j) else st
def levS (w : Nat → Nat) (l : List Nat) (L : Nat) (st : St) : St := l.foldl (put1 w L) st
def grpS (w : Nat → Nat) (l : List Nat) (M : Nat) (st : St) : St := (List.range M).foldl (fun st L => levS w l L st) st
def outS (w : Nat → Nat) (M : Nat) (gs : List (List Nat)) (st : St) : St := gs.foldl (fun st g => grpS w g M st) st
def stZ : St := (0, fun _ => [])
theorem levS_idle {w : Nat → Nat} {L : Nat} : ∀ {l : List Nat} (st : St), (∀ k ∈ l, w k ≤ L) → levS w l L st = st
  | [], _, _ => rfl
  | k :: l, st, h => by
    have h1 : put1 w L st k = st := by unfold put1; rw [if_neg (by have := h k (by simp); omega)]
    show levS w l L (put1 w L st k) = st
    rw [h1]
    exact levS_idle st fun j hj => h j (List.mem_cons_of_mem _ hj)
theorem grpS_succ (w : Nat → Nat) (l : List Nat) (M : Nat) (st : St) : grpS w l (M + 1) st = levS w l M (grpS w l M st) := by
  unfold grpS; rw [List.range_succ, List.foldl_append]; rfl
theorem grpS_idle {w : Nat → Nat} {l : List Nat} (st : St) {M : Nat} (h : ∀ k ∈ l, w k ≤ M) : ∀ d, grpS w l (M + d) st = grpS w l M st
  | 0 => rfl
  | d + 1 => by
    rw [← Nat.add_assoc, grpS_succ, levS_idle _ fun k hk => by have := h k hk; omega]
    exact grpS_idle st h d
theorem levS_take {w : Nat → Nat} {l : List Nat} {L j k : Nat} {st : St} (h : l[j]? = some k) : levS w (l.take (j + 1)) L st = put1 w L (levS w (l.take j) L st) k := by
  unfold levS
  rw [List.take_add_one, h, List.foldl_append]; rfl
theorem outS_take {w : Nat → Nat} {M : Nat} {gs : List (List Nat)} {i : Nat} {g : List Nat} {st : St} (h : gs[i]? = some g) : outS w M (gs.take (i + 1)) st = grpS w g M (outS w M (gs.take i) st) := by
  unfold outS
  rw [List.take_add_one, h, List.foldl_append]; rfl
/-! ### the same under other numbers -/
/-- st, with k for r k -/
structure Rot (n : Nat) (r : Nat → Nat) (st st' : St) : Prop where
  nx : st.1 = st'.1
  at_ : ∀ k, k < n → st.2 k = st'.2 (r k)
section
variable {n : Nat} {r : Nat → Nat} {w w' : Nat → Nat} (hr : ∀ j k, j < n → k < n → r j = r k → j = k) (hw : ∀ k, k < n → w' (r k) = w k)
include hr hw
theorem put1_rot {st st' : St} (h : Rot n r st st') {k : Nat} (hk : k < n) (L : Nat) : Rot n r (put1 w L st k) (put1 w' L st' (r k)) := by
  unfold put1
  rw [hw k hk]
  split
  · refine ⟨by rw [h.nx], fun j hj => ?_⟩
    show (if j = k then st.2 j ++ [st.1] else st.2 j) = if r j = r k then st'.2 (r j) ++ [st'.1] else st'.2 (r j)
    by_cases e : j = k
    · subst e; rw [if_pos rfl, if_pos rfl, h.at_ j hj, h.nx]
    · rw [if_neg e, if_neg fun e2 => e (hr j k hj hk e2), h.at_ j hj]
  · exact h
theorem levS_rot (L : Nat) : ∀ (l : List Nat) {st st' : St}, Rot n r st st' → (∀ k ∈ l, k < n) → Rot n r (levS w l L st) (levS w' (l.map r) L st')
  | [], _, _, h, _ => h
  | k :: l, _, _, h, hl => levS_rot L l (put1_rot hr hw h (hl k (by simp)) L) fun j hj => hl j (List.mem_cons_of_mem _ hj)
theorem grpS_rot (l : List Nat) (hl : ∀ k ∈ l, k < n) {st st' : St} (h : Rot n r st st') : ∀ M, Rot n r (grpS w l M st) (grpS w' (l.map r) M st')
  | 0 => h
  | M + 1 => by rw [grpS_succ, grpS_succ]; exact levS_rot hr hw M l (grpS_rot l hl h M) hl
theorem outS_rot (M : Nat) : ∀ (gs : List (List Nat)) {st st' : St}, Rot n r st st' → (∀ g ∈ gs, ∀ k ∈ g, k < n) → Rot n r (outS w M gs st) (outS w' M (gs.map fun g => g.map r) st')
  | [], _, _, h, _ => h
  | g :: gs, _, _, h, hg => outS_rot M gs (grpS_rot hr hw g (hg g (by simp)) h M) fun x hx => hg x (List.mem_cons_of_mem _ hx)
end
/-! ### each bit is dealt out once -/
/-- so far: each domain's bits rise, all are below the next one, and each below it is one domain's -/
structure Dealt (st : St) : Prop where
  up : ∀ k, (st.2 k).Pairwise (· < ·)
  lt : ∀ k, ∀ v ∈ st.2 k, v < st.1
  one : ∀ j k v, v ∈ st.2 j → v ∈ st.2 k → j = k
theorem Dealt.zero : Dealt stZ := ⟨fun _ => List.Pairwise.nil, fun _ _ h => (List.not_mem_nil h).elim, fun _ _ _ h => (List.not_mem_nil h).elim⟩
theorem Dealt.put1 {st : St} (h : Dealt st) (w : Nat → Nat) (L k : Nat) : Dealt (put1 w L st k) := by
  unfold LY.put1
  split
  · have hm : ∀ j v, v ∈ (if j = k then st.2 j ++ [st.1] else st.2 j) → v ∈ st.2 j ∨ (j = k ∧ v = st.1) := fun j v hv => by
      by_cases e : j = k
      · rw [if_pos e] at hv
        rcases List.mem_append.1 hv with hv | hv
        · exact .inl hv
        · exact .inr ⟨e, List.mem_singleton.1 hv⟩
      · rw [if_neg e] at hv; exact .inl hv
    refine ⟨fun j => ?_, fun j v hv => ?_, fun i j v hi hj => ?_⟩
    · show (if j = k then st.2 j ++ [st.1] else st.2 j).Pairwise _
      split
      · refine List.pairwise_append.2 ⟨h.up j, List.pairwise_singleton .., fun a ha b hb => ?_⟩
        rw [List.mem_singleton.1 hb]
        exact h.lt j a ha
      · exact h.up j
    · rcases hm j v hv with hv | ⟨_, rfl⟩
      · exact Nat.lt_succ_of_lt (h.lt j v hv)
      · exact Nat.lt_succ_self _
    · rcases hm i v hi with hi | ⟨rfl, rfl⟩ <;> rcases hm j _ hj with hj | ⟨hjk, hv⟩
      · exact h.one i j v hi hj
      · have := h.lt i v hi; omega
      · have := h.lt j _ hj; omega
      · exact hjk.symm
  · exact h
theorem Dealt.lev {w : Nat → Nat} {L : Nat} : ∀ (l : List Nat) {st : St}, Dealt st → Dealt (levS w l L st)
  | [], _, h => h
  | k :: l, _, h => Dealt.lev l (h.put1 w L k)
theorem Dealt.grp {w : Nat → Nat} {l : List Nat} {st : St} (h : Dealt st) : ∀ M, Dealt (grpS w l M st)
  | 0 => h
  | M + 1 => by rw [grpS_succ]; exact Dealt.lev l (h.grp M)
theorem Dealt.out {w : Nat → Nat} {M : Nat} : ∀ (gs : List (List Nat)) {st : St}, Dealt st → Dealt (outS w M gs st)
  | [], _, h => h
  | _ :: gs, _, h => Dealt.out gs (h.grp M)
/-! ### how many bits each has -/
theorem lev_other {w : Nat → Nat} {L k : Nat} : ∀ (l : List Nat) (st : St), k ∉ l → (levS w l L st).2 k = st.2 k
  | [], _, _ => rfl
  | j :: l, st, h => by
    show (levS w l L (put1 w L st j)).2 k = st.2 k
    rw [lev_other l _ fun e => h (List.mem_cons_of_mem _ e)]
    unfold put1
    split
    · show (if k = j then _ else st.2 k) = _
      rw [if_neg fun e => h (by rw [e]; exact List.mem_cons_self ..)]
    · rfl
theorem lev_own {w : Nat → Nat} {L k : Nat} : ∀ (l : List Nat) (st : St), l.Nodup → k ∈ l → ((levS w l L st).2 k).length = (st.2 k).length + (if L < w k then 1 else 0)
  | [], _, _, h => by cases h
  | j :: l, st, hn, h => by
    obtain ⟨h1, h2⟩ := List.nodup_cons.1 hn
    show ((levS w l L (put1 w L st j)).2 k).length = _
    by_cases e : k = j
    · subst e
      rw [lev_other l _ h1]
      unfold put1
      split
      · show (if k = k then st.2 k ++ [st.1] else st.2 k).length = _
        rw [if_pos rfl]; simp
      · rfl
    · rw [lev_own l _ h2 (by rcases List.mem_cons.1 h with h | h; exact absurd h e; exact h)]
      congr 1
      unfold put1
      split
      · show (if k = j then _ else st.2 k).length = _
        rw [if_neg e]
      · rfl
theorem grp_other {w : Nat → Nat} {k : Nat} {l : List Nat} (st : St) (h : k ∉ l) : ∀ M, (grpS w l M st).2 k = st.2 k
  | 0 => rfl
  | M + 1 => by rw [grpS_succ, lev_other l _ h, grp_other st h M]
theorem grp_own {w : Nat → Nat} {k : Nat} {l : List Nat} (st : St) (hn : l.Nodup) (h : k ∈ l) : ∀ M, ((grpS w l M st).2 k).length = (st.2 k).length + min M (w k)
  | 0 => by simp [grpS]
  | M + 1 => by
    rw [grpS_succ, lev_own l _ hn h, grp_own st hn h M]
    split <;> omega
theorem out_other {w : Nat → Nat} {M k : Nat} : ∀ (gs : List (List Nat)) (st : St), k ∉ gs.flatten → (outS w M gs st).2 k = st.2 k
  | [], _, _ => rfl
  | g :: gs, st, h => by
    rw [List.flatten_cons, List.mem_append] at h
    show (outS w M gs (grpS w g M st)).2 k = _
    rw [out_other gs _ fun e => h (.inr e), grp_other st fun e => h (.inl e)]
theorem out_own {w : Nat → Nat} {M k : Nat} (hM : w k ≤ M) : ∀ (gs : List (List Nat)) (st : St), gs.flatten.Nodup → k ∈ gs.flatten → ((outS w M gs st).2 k).length = (st.2 k).length + w k
  | [], _, _, h => by cases h
  | g :: gs, st, hn, h => by
    rw [List.flatten_cons] at hn h
    obtain ⟨h1, h2, h3⟩ := List.nodup_append.1 hn
    show ((outS w M gs (grpS w g M st)).2 k).length = _
    by_cases e : k ∈ g
    · rw [out_other gs _ fun e2 => h3 k e k e2 rfl, grp_own st h1 e]; omega
    · rcases List.mem_append.1 h with h | h
      · exact absurd h e
      · rw [out_own hM gs _ h2 h, grp_other st e]
/-! ### how many in all -/
def sumW (w : Nat → Nat) (l : List Nat) : Nat := (l.map w).sum
def levN (w : Nat → Nat) (l : List Nat) (L : Nat) : Nat := l.countP fun k => decide (L < w k)
theorem lev_next {w : Nat → Nat} {L : Nat} : ∀ (l : List Nat) (st : St), (levS w l L st).1 = st.1 + levN w l L
  | [], _ => rfl
  | k :: l, st => by
    show (levS w l L (put1 w L st k)).1 = _
    rw [lev_next l]
    unfold levN put1
    rw [List.countP_cons]
    by_cases h : L < w k
    · rw [if_pos h, if_pos (by simpa using h)]; show st.1 + 1 + _ = _; omega
    · rw [if_neg h, if_neg (by simpa using h)]; omega
theorem levN_min (w : Nat → Nat) (M : Nat) : ∀ l : List Nat, (l.map fun k => min M (w k)).sum + levN w l M = (l.map fun k => min (M + 1) (w k)).sum
  | [] => rfl
  | x :: l => by
    have ih := levN_min w M l
    unfold levN at ih ⊢
    rw [List.countP_cons, List.map_cons, List.map_cons, List.sum_cons, List.sum_cons]
    split <;> rename_i h <;> simp at h <;> omega
theorem grp_next {w : Nat → Nat} (l : List Nat) (st : St) : ∀ M, (grpS w l M st).1 = st.1 + (l.map fun k => min M (w k)).sum
  | 0 => by
    have e : (l.map fun k => min 0 (w k)).sum = 0 := by
      induction l with
      | nil => rfl
      | cons x l ih => simpa using ih
    rw [e]; rfl
  | M + 1 => by rw [grpS_succ, lev_next, grp_next l st M, ← levN_min w M l]; omega
theorem out_next {w : Nat → Nat} {M : Nat} : ∀ (gs : List (List Nat)) (st : St), (∀ k ∈ gs.flatten, w k ≤ M) → (outS w M gs st).1 = st.1 + (gs.flatten.map w).sum
  | [], _, _ => rfl
  | g :: gs, st, h => by
    have e : (g.map fun k => min M (w k)) = g.map w := List.map_congr_left fun k hk => Nat.min_eq_right (h k (by rw [List.flatten_cons]; exact List.mem_append_left _ hk))
    show (outS w M gs (grpS w g M st)).1 = _
    rw [out_next gs _ fun k hk => h k (by rw [List.flatten_cons]; exact List.mem_append_right _ hk), grp_next, e, List.flatten_cons, List.map_append, List.sum_append]
    omega
/-- each bit below the next one is somebody's -/
def Full (n : Nat) (st : St) : Prop := ∀ v, v < st.1 → ∃ k, k < n ∧ v ∈ st.2 k
theorem Full.put1 {n : Nat} {st : St} (h : Full n st) (w : Nat → Nat) (L : Nat) {k : Nat} (hk : k < n) : Full n (put1 w L st k) := by
  unfold LY.put1
  split
  · intro v hv
    by_cases e : v = st.1
    · exact ⟨k, hk, by show v ∈ (if k = k then st.2 k ++ [st.1] else st.2 k); rw [if_pos rfl, e]; simp⟩
    · obtain ⟨j, hj, hm⟩ := h v (by have hv : v < st.1 + 1 := hv; omega)
      refine ⟨j, hj, ?_⟩
      show v ∈ (if j = k then st.2 j ++ [st.1] else st.2 j)
      split
      · exact List.mem_append_left _ hm
      · exact hm
  · exact h
end Go.Proofs.YtobhjkfkdkiigaaGreatDoor.LY

namespace Go.Proofs.YtobhjkfkdkiigaaGreatDoor.LY
open Go.Lib
structure Dm where
  name : ByteArray
  size : Int
def Dm.no : Dm := ⟨ByteArray.empty, 0⟩
instance : Inhabited Dm := ⟨Dm.no⟩
def oddR (R : Nat) : Bool := (decide (R < 97) || decide (122 < R)) && ((decide (R < 65) || decide (90 < R)) && (decide (R < 48) || decide (57 < R)))
def nameB (s : ByteArray) : Bool := decide (s.size ≠ 0) && (decide (s.size ≤ 16) && decide (idxFunc oddR true s < 0))
def okD (d : Dm) : Bool := decide (1 ≤ d.size) && (decide (d.size ≤ 1073741824) && nameB d.name)
def widD (d : Dm) : Nat := if (d.size - 1).toNat = 0 then 0 else (d.size - 1).toNat.log2 + 1
theorem widD_le {d : Dm} (h : okD d = true) : widD d ≤ 30 := by
  unfold okD at h
  rw [Bool.and_eq_true, Bool.and_eq_true, decide_eq_true_eq, decide_eq_true_eq] at h
  unfold widD
  split
  · omega
  · rename_i h0
    have := (Nat.log2_lt h0 (k := 30)).2 (by have : (2 : Nat) ^ 30 = 1073741824 := by decide
                                             omega)
    omega
def at_ (doms : List Dm) (k : Nat) : Dm := doms.getD k Dm.no
def hadB (doms : List Dm) (i : Nat) : Bool := (doms.take i).any fun x => decide (x.name = (at_ doms i).name)
def goodN (doms : List Dm) : Nat → Bool
  | 0 => true
  | i + 1 => goodN doms i && (okD (at_ doms i) && !hadB doms i)
def allW (doms : List Dm) : Nat := (doms.map widD).sum
def mayB (doms : List Dm) : Bool := goodN doms doms.length && (decide (allW doms ≤ 256) && decide (doms.length ≤ 32))
theorem at_eq {doms : List Dm} {i : Nat} {d : Dm} (h : doms[i]? = some d) : at_ doms i = d := by unfold at_; rw [List.getD_eq_getElem?_getD, h]; rfl
theorem at_get {doms : List Dm} {i : Nat} (h : i < doms.length) : doms[i]? = some (at_ doms i) := by
  have e := List.getElem?_eq_getElem h
  rw [at_eq e, e]
theorem good_iff {doms : List Dm} : ∀ i, i ≤ doms.length → (goodN doms i = true ↔ (∀ d ∈ doms.take i, okD d = true) ∧ ((doms.take i).map (·.name)).Nodup)
  | 0, _ => by simp [goodN]
  | i + 1, h => by
    have hg := at_get (doms := doms) (i := i) (by omega)
    have e : doms.take (i + 1) = doms.take i ++ [at_ doms i] := by rw [List.take_add_one, hg]; rfl
    have hh : hadB doms i = false ↔ (at_ doms i).name ∉ (doms.take i).map (·.name) := by
      unfold hadB
      rw [List.any_eq_false, List.mem_map]
      constructor
      · rintro h1 ⟨x, hx, hxe⟩; exact h1 x hx (by simpa using hxe)
      · intro h1 x hx hxe; exact h1 ⟨x, hx, by simpa using hxe⟩
    rw [goodN, Bool.and_eq_true, Bool.and_eq_true, good_iff i (by omega), Bool.not_eq_true', hh, e, List.map_append, List.nodup_append]
    constructor
    · rintro ⟨⟨h1, h2⟩, h3, h4⟩
      refine ⟨fun d hd => ?_, h2, by simp, fun a ha b hb => ?_⟩
      · rcases List.mem_append.1 hd with hd | hd
        · exact h1 d hd
        · rw [List.mem_singleton.1 hd]; exact h3
      · have : b = (at_ doms i).name := by simpa using hb
        rw [this]
        rintro rfl
        exact h4 ha
    · rintro ⟨h1, h2, _, h3⟩
      exact ⟨⟨fun d hd => h1 d (List.mem_append_left _ hd), h2⟩, h1 _ (by simp), fun hm => h3 _ hm _ (by simp) rfl⟩
theorem may_iff {doms : List Dm} : mayB doms = true ↔ (∀ d ∈ doms, okD d = true) ∧ (doms.map (·.name)).Nodup ∧ allW doms ≤ 256 ∧ doms.length ≤ 32 := by
  unfold mayB
  rw [Bool.and_eq_true, Bool.and_eq_true, good_iff _ (Nat.le_refl _), List.take_length, decide_eq_true_eq, decide_eq_true_eq, and_assoc]
theorem may_perm {a b : List Dm} (h : a.Perm b) : mayB a = mayB b := by
  have key : ∀ {a b : List Dm}, a.Perm b → mayB a = true → mayB b = true := fun {a b} h ha => by
    obtain ⟨h1, h2, h3, h4⟩ := may_iff.1 ha
    refine may_iff.2 ⟨fun d hd => h1 d (h.mem_iff.2 hd), (h.map _).nodup_iff.1 h2, ?_, by rw [← h.length_eq]; exact h4⟩
    unfold allW at h3 ⊢
    rw [← (h.map widD).sum_nat]; exact h3
  cases hb : mayB b with
  | true => exact key h.symm hb
  | false =>
    cases ha : mayB a with
    | true => rw [key h ha] at hb; cases hb
    | false => rfl
/-! ### orders -/
def nm (doms : List Dm) (k : Nat) : List UInt8 := (at_ doms k).name.data.toList
def wF (doms : List Dm) (k : Nat) : Nat := widD (at_ doms k)
structure OrderIs (doms : List Dm) (s : List UInt8) (gs : List (List Nat)) : Prop where
  txt : groupsT s = gs.map fun g => g.map (nm doms)
  lt : ∀ k ∈ gs.flatten, k < doms.length
  nod : gs.flatten.Nodup
  all : gs.flatten.length = doms.length
theorem nm_inj {doms : List Dm} (h : mayB doms = true) {j k : Nat} (hj : j < doms.length) (hk : k < doms.length) (e : nm doms j = nm doms k) : j = k := by
  obtain ⟨_, h2, _, _⟩ := may_iff.1 h
  have h3 : (at_ doms j).name = (at_ doms k).name := by
    unfold nm at e
    have : (at_ doms j).name.data = (at_ doms k).name.data := Array.toList_inj.1 e
    exact ByteArray.ext this
  have hl : (doms.map (·.name)).length = doms.length := List.length_map ..
  have := (List.getElem?_inj (l := doms.map (·.name)) (i := j) (j := k) (by rw [hl]; exact hj) h2).1 (by
    rw [List.getElem?_map, List.getElem?_map, at_get hj, at_get hk]
    show some (at_ doms j).name = some (at_ doms k).name
    rw [h3])
  exact this
theorem map_inj_on {α β : Type} {f : α → β} : ∀ {l m : List α}, (∀ x ∈ l, ∀ y ∈ m, f x = f y → x = y) → l.map f = m.map f → l = m
  | [], [], _, _ => rfl
  | [], _ :: _, _, h => by simp at h
  | _ :: _, [], _, h => by simp at h
  | x :: l, y :: m, hf, h => by
    rw [List.map_cons, List.map_cons, List.cons.injEq] at h
    rw [hf x (by simp) y (by simp) h.1, map_inj_on (fun a ha b hb => hf a (List.mem_cons_of_mem _ ha) b (List.mem_cons_of_mem _ hb)) h.2]
theorem OrderIs.uniq {doms : List Dm} {s : List UInt8} {gs gs' : List (List Nat)} (hm : mayB doms = true) (h : OrderIs doms s gs) (h' : OrderIs doms s gs') : gs = gs' := by
  refine map_inj_on (f := fun g => g.map (nm doms)) (fun g hg g' hg' e => ?_) (h.txt.symm.trans h'.txt)
  exact map_inj_on (fun x hx y hy e => nm_inj hm (h.lt x (List.mem_flatten.2 ⟨g, hg, hx⟩)) (h'.lt y (List.mem_flatten.2 ⟨g', hg', hy⟩)) e) e
/-- a domain's bits, the lowest first -/
def rowP (doms : List Dm) (gs : List (List Nat)) (k : Nat) : List Nat := ((outS (wF doms) 31 gs stZ).2 k).reverse
/-! ### told in another order -/
def sg (n t i : Nat) : Nat := if i + t < n then i + t else i + t - n
def rh (n t k : Nat) : Nat := if t ≤ k then k - t else k + n - t
theorem sg_lt {n t i : Nat} (ht : t < n) (hi : i < n) : sg n t i < n := by unfold sg; split <;> omega
theorem rh_lt {n t k : Nat} (ht : t < n) (hk : k < n) : rh n t k < n := by unfold rh; split <;> omega
theorem sg_rh {n t k : Nat} (ht : t < n) (hk : k < n) : sg n t (rh n t k) = k := by unfold sg rh; split <;> split <;> omega
theorem rh_sg {n t i : Nat} (ht : t < n) (hi : i < n) : rh n t (sg n t i) = i := by unfold sg rh; split <;> split <;> omega
theorem rh_inj {n t : Nat} (ht : t < n) {j k : Nat} (hj : j < n) (hk : k < n) (e : rh n t j = rh n t k) : j = k := by rw [← sg_rh ht hj, e, sg_rh ht hk]
theorem sg_mod {n t i : Nat} (hn : 0 < n) (hi : i < n) : (i + t) % n = sg n (t % n) i := by
  have ht := Nat.mod_lt t hn
  rw [Nat.add_mod, Nat.mod_eq_of_lt hi]
  obtain ⟨q, hq⟩ : ∃ q, t % n = q := ⟨_, rfl⟩
  rw [hq] at ht ⊢
  unfold sg
  split
  · exact Nat.mod_eq_of_lt (by omega)
  · rw [Nat.mod_eq_sub_mod (by omega)]; exact Nat.mod_eq_of_lt (by omega)
def rotL (doms : List Dm) (t : Nat) : List Dm := doms.drop t ++ doms.take t
theorem rotL_len (doms : List Dm) {t : Nat} (ht : t ≤ doms.length) : (rotL doms t).length = doms.length := by unfold rotL; rw [List.length_append, List.length_drop, List.length_take]; omega
theorem rotL_perm (doms : List Dm) (t : Nat) : (rotL doms t).Perm doms := by
  unfold rotL
  exact List.perm_append_comm.trans (by rw [List.take_append_drop])
theorem rotL_at {doms : List Dm} {t i : Nat} (ht : t < doms.length) (hi : i < doms.length) : (rotL doms t)[i]? = doms[sg doms.length t i]? := by
  unfold rotL sg
  by_cases h : i + t < doms.length
  · rw [if_pos h, List.getElem?_append_left (by rw [List.length_drop]; omega), List.getElem?_drop, Nat.add_comm]
  · rw [if_neg h, List.getElem?_append_right (by rw [List.length_drop]; omega), List.length_drop, List.getElem?_take, if_pos (by omega)]
    congr 1; omega
theorem rot_at {doms : List Dm} {t k : Nat} (ht : t < doms.length) (hk : k < doms.length) : at_ (rotL doms t) (rh doms.length t k) = at_ doms k := by
  unfold at_
  rw [List.getD_eq_getElem?_getD, rotL_at ht (rh_lt ht hk), sg_rh ht hk, ← List.getD_eq_getElem?_getD]
theorem rot_nm {doms : List Dm} {t k : Nat} (ht : t < doms.length) (hk : k < doms.length) : nm (rotL doms t) (rh doms.length t k) = nm doms k := by unfold nm; rw [rot_at ht hk]
theorem flat_map {α β : Type} (f : α → β) (gs : List (List α)) : (gs.map fun g => g.map f).flatten = gs.flatten.map f := by rw [List.map_flatten]
theorem nodup_on {α β : Type} {f : α → β} : ∀ {l : List α}, (∀ x ∈ l, ∀ y ∈ l, f x = f y → x = y) → l.Nodup → (l.map f).Nodup
  | [], _, _ => List.nodup_nil
  | x :: l, hf, h => by
    obtain ⟨h1, h2⟩ := List.nodup_cons.1 h
    rw [List.map_cons]
    refine List.nodup_cons.2 ⟨fun hm => ?_, nodup_on (fun a ha b hb => hf a (List.mem_cons_of_mem _ ha) b (List.mem_cons_of_mem _ hb)) h2⟩
    obtain ⟨y, hy, e⟩ := List.mem_map.1 hm
    exact h1 (by rw [← hf y (List.mem_cons_of_mem _ hy) x (by simp) e]; exact hy)
theorem OrderIs.rot {doms : List Dm} {s : List UInt8} {gs : List (List Nat)} {t : Nat} (ht : t < doms.length) (h : OrderIs doms s gs) : OrderIs (rotL doms t) s (gs.map fun g => g.map (rh doms.length t)) := by
  refine ⟨?_, fun k hk => ?_, ?_, ?_⟩
  · rw [h.txt, List.map_map]
    refine List.map_congr_left fun g hg => ?_
    show _ = (g.map (rh doms.length t)).map (nm (rotL doms t))
    rw [List.map_map]
    exact List.map_congr_left fun k hk => (rot_nm ht (h.lt k (List.mem_flatten.2 ⟨g, hg, hk⟩))).symm
  · rw [flat_map] at hk
    obtain ⟨j, hj, rfl⟩ := List.mem_map.1 hk
    rw [rotL_len doms (Nat.le_of_lt ht)]
    exact rh_lt ht (h.lt j hj)
  · rw [flat_map]
    exact nodup_on (fun x hx y hy e => rh_inj ht (h.lt x hx) (h.lt y hy) e) h.nod
  · rw [flat_map, List.length_map, rotL_len doms (Nat.le_of_lt ht)]; exact h.all
theorem OrderIs.back {doms : List Dm} {s : List UInt8} {gs : List (List Nat)} {t : Nat} (ht : t < doms.length) (h : OrderIs (rotL doms t) s gs) : OrderIs doms s (gs.map fun g => g.map (sg doms.length t)) := by
  have hl := rotL_len doms (Nat.le_of_lt ht)
  have hlt : ∀ k ∈ gs.flatten, k < doms.length := fun k hk => by have := h.lt k hk; omega
  refine ⟨?_, fun k hk => ?_, ?_, ?_⟩
  · rw [h.txt, List.map_map]
    refine List.map_congr_left fun g hg => ?_
    show _ = (g.map (sg doms.length t)).map (nm doms)
    rw [List.map_map]
    refine List.map_congr_left fun k hk => ?_
    have hk2 := hlt k (List.mem_flatten.2 ⟨g, hg, hk⟩)
    show nm (rotL doms t) k = nm doms (sg doms.length t k)
    rw [← rot_nm ht (sg_lt ht hk2), rh_sg ht hk2]
  · rw [flat_map] at hk
    obtain ⟨j, hj, rfl⟩ := List.mem_map.1 hk
    exact sg_lt ht (hlt j hj)
  · rw [flat_map]
    exact nodup_on (fun x hx y hy e => by rw [← rh_sg ht (hlt x hx), e, rh_sg ht (hlt y hy)]) h.nod
  · rw [flat_map, List.length_map, h.all, hl]
theorem row_rot {doms : List Dm} {s : List UInt8} {gs : List (List Nat)} {t : Nat} (ht : t < doms.length) (h : OrderIs doms s gs) {i : Nat} (hi : i < doms.length) : rowP (rotL doms t) (gs.map fun g => g.map (rh doms.length t)) i = rowP doms gs (sg doms.length t i) := by
  have hr := outS_rot (n := doms.length) (r := rh doms.length t) (w := wF doms) (w' := wF (rotL doms t)) (fun j k hj hk e => rh_inj ht hj hk e) (fun k hk => by unfold wF; rw [rot_at ht hk]) 31 gs (st := stZ) (st' := stZ) ⟨rfl, fun _ _ => rfl⟩ fun g hg k hk => h.lt k (List.mem_flatten.2 ⟨g, hg, hk⟩)
  unfold rowP
  rw [hr.at_ _ (sg_lt ht hi), rh_sg ht hi]
end Go.Proofs.YtobhjkfkdkiigaaGreatDoor.LY

namespace Go.Proofs.YtobhjkfkdkiigaaGreatDoor
open Go.RowKit LY
set_option maxHeartbeats 1600000 in
theorem odd_ok (x : Nat) (W : World) : Calls Tryz.prog 99 #[.int .i32 (x : Int)] W fun e w' => e = .returned (.bool (oddR x)) ∧ ∃ q, w' = W.drewN q := by
  have h1 : decide ((x : Int) < 97) = decide (x < 97) := decide_eq_decide.2 (by omega)
  have h2 : decide ((122 : Int) < (x : Int)) = decide (122 < x) := decide_eq_decide.2 (by omega)
  have h3 : decide ((x : Int) < 65) = decide (x < 65) := decide_eq_decide.2 (by omega)
  have h4 : decide ((90 : Int) < (x : Int)) = decide (90 < x) := decide_eq_decide.2 (by omega)
  have h5 : decide ((x : Int) < 48) = decide (x < 48) := decide_eq_decide.2 (by omega)
  have h6 : decide ((57 : Int) < (x : Int)) = decide (57 < x) := decide_eq_decide.2 (by omega)
  obtain ⟨b1, e1⟩ : ∃ b, decide (x < 97) = b := ⟨_, rfl⟩
  obtain ⟨b2, e2⟩ : ∃ b, decide (122 < x) = b := ⟨_, rfl⟩
  obtain ⟨b3, e3⟩ : ∃ b, decide (x < 65) = b := ⟨_, rfl⟩
  obtain ⟨b4, e4⟩ : ∃ b, decide (90 < x) = b := ⟨_, rfl⟩
  obtain ⟨b5, e5⟩ : ∃ b, decide (x < 48) = b := ⟨_, rfl⟩
  obtain ⟨b6, e6⟩ : ∃ b, decide (57 < x) = b := ⟨_, rfl⟩
  have HO : Hid (oddR x = ((b1 || b2) && ((b3 || b4) && (b5 || b6)))) := Lib.hid (by unfold oddR; rw [e1, e2, e3, e4, e5, e6])
  rw [e1] at h1
  rw [e2] at h2
  rw [e3] at h3
  rw [e4] at h4
  rw [e5] at h5
  rw [e6] at h6
  go_enter Tryz.func99, Tryz.ntmps99
  cases b1 <;> cases b2 <;> cases b3 <;> cases b4 <;> cases b5 <;> cases b6 <;>
    (go_wp2
     go_ret
     exact ⟨by rw [HO.out]; rfl, 0, rfl⟩)
theorem call_odd (args : Array Value) (w : World) : (callFunc 99 args).run Tryz.prog w = .ok (.enter 99 args) w := enters_of Tryz.func99 (by kernel_rfl) rfl args w
theorem odd_pred (w : World) : PredAt Tryz.prog 99 #[] encR oddR w := fun W x _ => odd_ok x W
set_option maxHeartbeats 1600000 in
theorem name_ok (s : ByteArray) (w : World) : Calls Tryz.prog 79 #[.string s] w fun e w' => e = .returned (.bool (nameB s)) ∧ Below w.heap.size w w' := by
  have hix := fun W => Tryz.strings_IndexFunc 99 #[] call_odd oddR s W (odd_pred W)
  have HIX := Lib.hid hix
  obtain ⟨iv, hiv⟩ : ∃ iv, Lib.idxFunc oddR true s = iv := ⟨_, rfl⟩
  rw [hiv] at HIX
  obtain ⟨n, hn⟩ : ∃ n, s.size = n := ⟨_, rfl⟩
  have HN : Hid (nameB s = (decide (n ≠ 0) && (decide (n ≤ 16) && decide (iv < 0)))) := Lib.hid (by unfold nameB; rw [hiv, hn])
  clear hix hiv
  by_cases h0 : n = 0
  · have hs : s = ByteArray.empty := ByteArray.size_eq_zero_iff.1 (by omega)
    subst hs
    go_enter Tryz.func79, Tryz.ntmps79
    go_wp2
    go_ret
    exact ⟨by rw [HN.out, h0]; rfl, Below.refl _ _⟩
  · have hne : s.toList.isEmpty = false := by
      rw [List.isEmpty_eq_false_iff]
      intro e
      apply h0
      rw [← hn, Lib.size_eq, ← Lib.toList_data, e]; rfl
    by_cases h16 : n ≤ 16
    · have d1 : decide ((n : Int) ≤ 16) = true := decide_eq_true (by omega)
      have HS := Lib.hid hn
      obtain ⟨t, ht⟩ : ∃ t, decide (iv < 0) = t := ⟨_, rfl⟩
      rw [ht, decide_eq_true h0, decide_eq_true h16] at HN
      clear h0 h16
      go_enter Tryz.func79, Tryz.ntmps79
      go_wp2_with fail
      refine (HIX.out _).mono ?_
      rintro e w1 ⟨rfl, hb1⟩
      have HB1 := Lib.hid hb1
      clear hb1
      go_wp2_with fail
      go_ret
      exact ⟨by rw [HN.out]; rfl, HB1.out⟩
    · have d1 : decide ((n : Int) ≤ 16) = false := decide_eq_false (by omega)
      have HS := Lib.hid hn
      rw [decide_eq_false h16] at HN
      clear h0 h16
      go_enter Tryz.func79, Tryz.ntmps79
      go_wp2_with fail
      go_ret
      exact ⟨by rw [HN.out]; simp, Below.refl _ _⟩

/-! ### sets as maps of bools -/
def nameM (doms : List Dm) (i : Nat) : Lit → Option Value
  | .string l => if (doms.take i).any (fun x => decide (x.name.data.toList = l)) then some (.bool true) else none
  | _ => none
theorem nameM_at (doms : List Dm) (i : Nat) : nameM doms i (.string (at_ doms i).name.data.toList) = if hadB doms i then some (.bool true) else none := by
  have e : ((doms.take i).any fun x => decide (x.name.data.toList = (at_ doms i).name.data.toList)) = hadB doms i := by
    unfold hadB
    congr 1
    funext x
    refine decide_eq_decide.2 ⟨fun h => ?_, fun h => by rw [h]⟩
    exact ByteArray.ext (Array.toList_inj.1 h)
  show (if _ then _ else _) = _
  rw [e]
theorem nameM_set {doms : List Dm} {i : Nat} {d : Dm} (h : doms[i]? = some d) : setF (nameM doms i) (.string d.name.data.toList) (.bool true) = nameM doms (i + 1) := by
  have et : doms.take (i + 1) = doms.take i ++ [d] := by rw [List.take_add_one, h]; rfl
  funext l
  unfold setF
  by_cases e : l = .string d.name.data.toList
  · subst e
    simp [nameM, Lit.sameKey, et]
  · rw [Maps.sameKey_ne e]
    simp only [Bool.false_eq_true, if_false]
    cases l with
    | string l =>
      have hl : ¬ d.name.data.toList = l := fun e2 => e (by rw [e2])
      simp [nameM, et, hl]
    | _ => rfl
theorem nameM_zero (doms : List Dm) : nameM doms 0 = fun _ => none := by
  funext l
  cases l <;> rfl
/-! ### domains in memory -/
def domCells (d : Dm) : List Value := [.string d.name, .int .i64 d.size]
theorem Cells.dom {w : World} {a : Option Addr} {es : List Dm} (h : Cells w a (es.flatMap domCells)) {i : Nat} {x : Dm} (hx : es[i]? = some x) :
    ∃ b off, a = some ⟨b, off, none⟩ ∧ b < w.heap.size ∧ w.cell? ⟨b, off + i * 2, none⟩ = some (.string x.name) ∧ w.cell? ⟨b, off + i * 2 + 1, none⟩ = some (.int .i64 x.size) := by
  have g0 := flat_get domCells 2 (fun _ => rfl) es i 0 x _ hx rfl
  have g1 := flat_get domCells 2 (fun _ => rfl) es i 1 x _ hx rfl
  obtain ⟨b, off, e, hb, hh⟩ := h (by intro h0; rw [h0] at g0; simp at g0)
  exact ⟨b, off, e, hb, hh _ _ g0, hh _ _ g1⟩
theorem widS_dom {d : Dm} (h1 : 1 ≤ d.size) (h2 : d.size ≤ 4611686018427387903) : widS d.size = (widD d : Int) ∧ widE d.size = 0 := widS_yes d.size h1 h2
def sumN (doms : List Dm) (i : Nat) : Nat := ((doms.take i).map widD).sum
theorem sumN_next {doms : List Dm} {i : Nat} {d : Dm} (h : doms[i]? = some d) : sumN doms (i + 1) = sumN doms i + widD d := by
  unfold sumN
  rw [List.take_add_one, h, List.map_append, List.sum_append]
  show _ + (widD d + 0) = _
  omega
theorem sumN_le {doms : List Dm} : ∀ i, i ≤ doms.length → goodN doms i = true → sumN doms i ≤ 30 * i
  | 0, _, _ => by simp [sumN]
  | i + 1, h, hg => by
    rw [goodN, Bool.and_eq_true, Bool.and_eq_true] at hg
    have h1 := sumN_le i (by omega) hg.1
    rw [sumN_next (at_get (by omega))]
    have := widD_le hg.2.1
    omega
def WPost (doms : List Dm) (w : World) (e : Ending) (w' : World) : Prop :=
  Below w.heap.size w w' ∧ ((mayB doms = false ∧ ∃ y A, e = .returned (.tuple #[y, .int .i64 A, .bool false])) ∨
    (mayB doms = true ∧ ∃ y, e = .returned (.tuple #[y, .int .i64 (allW doms : Int), .bool true]) ∧ w'.ownsRow w.heap.size 3 1 y doms.length (iV (doms.map widD))))
theorem may_bad {doms : List Dm} {i : Nat} (hi : i < doms.length) (h : (okD (at_ doms i) && !hadB doms i) = false) : mayB doms = false := by
  cases hm : mayB doms with
  | false => rfl
  | true =>
    unfold mayB at hm
    rw [Bool.and_eq_true] at hm
    have key : ∀ j, i < j → j ≤ doms.length → goodN doms j = true → False := by
      intro j hj hjl hg
      induction j with
      | zero => omega
      | succ j ih =>
        rw [goodN, Bool.and_eq_true] at hg
        by_cases e : i = j
        · subst e; rw [h] at hg; cases hg.2
        · exact ih (by omega) (by omega) hg.1
    exact (key doms.length hi (Nat.le_refl _) hm.1).elim
theorem okD_eq {d : Dm} : okD d = (decide (1 ≤ d.size) && (decide (d.size ≤ 1073741824) && nameB d.name)) := rfl
theorem own_not_map {w : World} {base e size n b c : Nat} {v : Value} {xs : List Value} {es : Array MapEntry} (h : w.ownsRow base e size v n xs) (hb : w.heap[b]? = some (.map es c)) : v.ownBlock ≠ some b := by
  rcases h.2 with ⟨h1, _⟩ | ⟨g, cap, cur, h1, _, hg, _⟩
  · rw [h1]; exact fun e => by cases e
  · rw [h1]
    intro e
    have e : some g = some b := e
    injection e with e
    subst e
    rw [hb] at hg
    injection hg with hg
    cases hg
theorem int_infoL : (Tryz.prog.info? 3).map (fun i => (i.zero, i.size, i.bytes)) = some (some (.int .i64 0), 1, 8) := by kernel_rfl
set_option maxRecDepth 100000 in
set_option maxHeartbeats 6400000 in
theorem widths_ok (w : World) (a : Option Addr) (doms : List Dm) (c : Nat) (hl : doms.length ≤ 40) (hc : Cells w a (doms.flatMap domCells)) (hnm : ∀ d ∈ doms, d.name.size ≤ maxLen) :
    Calls Tryz.prog 51 #[.slice a doms.length c] w (WPost doms w) := by
  have hmk := @run_makeMap Tryz.prog
  obtain ⟨l0, hl0, lz0, lz1, lz2⟩ := info_parts int_infoL
  obtain ⟨am, ham⟩ : ∃ am, am = w.heap.size := ⟨_, rfl⟩
  obtain ⟨w1, hw1⟩ : ∃ w1, w1 = w.alloc (.map #[] 0) := ⟨_, rfl⟩
  have hb1 : Below w.heap.size w w1 := by rw [hw1]; exact (Below.refl _ _).alloc (Nat.le_refl _) _
  have HM1 : Hid (MapAt w1 Tryz.prog 9 am 0 (nameM doms 0)) := Lib.hid (by rw [hw1, ham, nameM_zero]; exact MapAt.made w Tryz.prog 9)
  obtain ⟨N, hN⟩ : ∃ N, doms.length = N := ⟨_, rfl⟩
  have HC := Lib.hid hc; have HNM := Lib.hid hnm; have HN := Lib.hid hN; have HW1 := Lib.hid hw1; have HAM := Lib.hid ham; have HB1 := Lib.hid hb1
  rw [hN] at hl ⊢
  clear hc hnm hN hw1 ham hb1
  go_enter Tryz.func51, Tryz.ntmps51
  go_upto_region 2 with (fail)
  rw [← HW1.out, ← HAM.out]
  go_wp2_with fail
  go_loopg [2, 3, 13] N (fun mm u x y wr => ∃ i : Nat, mm + i = N ∧ x = .int .i64 (sumN doms i : Int) ∧ y = .int .i64 (i : Int) ∧ goodN doms i = true ∧ Below w.heap.size w wr ∧ wr.ownsRow w.heap.size 3 1 u i (iV ((doms.take i).map widD)) ∧ MapAt wr Tryz.prog 9 am i (nameM doms i))
  case atStart => exact ⟨0, by omega, rfl, rfl, rfl, HB1.out, World.ownsRow_nil _ _ _ _, HM1.out⟩
  case round =>
    obtain ⟨i, hm, rfl, rfl, hg, hb, hr, hmap⟩ := hrel
    have HM := Lib.hid hm; have HG := Lib.hid hg; have HB := Lib.hid hb; have HR := Lib.hid hr; have HMP := Lib.hid hmap
    have hsl := sumN_le i (by rw [HN.out]; omega) hg
    have hi40 : i ≤ 40 := by omega
    obtain ⟨sn, hsn⟩ : ∃ sn, sumN doms i = sn := ⟨_, rfl⟩
    have HSN := Lib.hid hsn
    rw [hsn] at hsl ⊢
    clear hm hg hb hr hmap hsn
    by_cases hi : i < N
    · have hd := at_get (doms := doms) (i := i) (by rw [HN.out]; exact hi)
      obtain ⟨d, hde⟩ : ∃ d, at_ doms i = d := ⟨_, rfl⟩
      rw [hde] at hd
      obtain ⟨s, z⟩ := d
      obtain ⟨b0, o0, rfl, hb0, k0, k1⟩ := (HC.out.below HB.out).dom hd
      have hss : s.size ≤ maxLen := HNM.out _ (List.mem_of_getElem? hd)
      obtain ⟨W1, hW1⟩ : ∃ W1, W1 = wr.alloc (.cells #[.string s, .int .i64 z] 37) := ⟨_, rfl⟩
      have hbb1 : Below wr.heap.size wr W1 := by rw [hW1]; exact (Below.refl _ _).alloc (Nat.le_refl _) _
      have hk1 : Blk W1 wr.heap.size 37 #[.string s, .int .i64 z] := by rw [hW1]; exact Blk.new_ _ _ _
      obtain ⟨bd, hbd⟩ : ∃ bd, wr.heap.size = bd := ⟨_, rfl⟩
      rw [hbd] at hk1
      have c0 : W1.cell? ⟨bd, 0, none⟩ = some (.string s) := hk1.cell 0
      have c1 : W1.cell? ⟨bd, 1, none⟩ = some (.int .i64 z) := hk1.cell 1
      have HK1 := Lib.hid hk1
      have HBB1 := Lib.hid (HB.out.trans (hbb1.mono HB.out.size)); have HR1 := Lib.hid (own_below HR.out hbb1); have HMP1 := Lib.hid (HMP.out.below hbb1)
      have HKEY : Hid (keyOf Tryz.prog 9 (.string s) = some (.string s.data.toList)) := Lib.hid (WideMaps.keyOf_string_mk Tryz.underlying9 hss)
      have HD := Lib.hid hd; have HDE := Lib.hid hde; have HW1 := Lib.hid hW1; have HBD := Lib.hid hbd
      clear hd hde hss hW1 hbb1 hk1 hbd
      obtain ⟨ws, hws⟩ : ∃ ws, widS z = ws := ⟨_, rfl⟩
      obtain ⟨es, hes⟩ : ∃ es, widE z = es := ⟨_, rfl⟩
      have HWI := Lib.hid (width_ok z W1)
      rw [hws, hes] at HWI
      have HIN : Hid (i < doms.length) := Lib.hid (by rw [HN.out]; exact hi)
      have BAD : ∀ W', Below w.heap.size w W' → (okD (at_ doms i) && !hadB doms i) = false → WPost doms w (.returned (.tuple #[.slice none 0 0, .int .i64 0, .bool false])) W' := fun W' hb h => ⟨hb, .inl ⟨may_bad HIN.out h, _, _, rfl⟩⟩
      have HBAD := Lib.hid BAD
      rw [HDE.out] at HBAD
      clear BAD
      by_cases hz1 : 1 ≤ z ∧ z ≤ 4611686018427387903
      · obtain ⟨hz1, hz2⟩ := hz1
        obtain ⟨e1, e2⟩ := widS_dom (d := ⟨s, z⟩) hz1 hz2
        obtain ⟨wd, hwd⟩ : ∃ wd, widD ⟨s, z⟩ = wd := ⟨_, rfl⟩
        have hwsd : ws = (wd : Int) := (hws.symm.trans e1).trans (by rw [hwd])
        have HWD := Lib.hid hwd
        clear hwd
        have hes0 : es = 0 := hes.symm.trans e2
        subst hes0
        clear hws hes e1 e2
        subst hwsd
        by_cases hz3 : z ≤ 1073741824
        · have d3 : decide ((1073741824 : Int) < z) = false := decide_eq_false (by omega)
          have HOK : Hid (okD ⟨s, z⟩ = nameB s) := Lib.hid (by
            rw [okD_eq, decide_eq_true (show 1 ≤ (⟨s, z⟩ : Dm).size from hz1), decide_eq_true (show (⟨s, z⟩ : Dm).size ≤ 1073741824 from hz3)]; rfl)
          clear hz1 hz2 hz3
          go_upto_region 5 with (fail)
          rw [← HW1.out]
          rw [HBD.out]
          go_wp2_with fail
          refine HWI.out.mono ?_
          rintro e w' ⟨rfl, rfl⟩
          go_wp2_with fail
          refine (name_ok s W1).mono ?_
          rintro e W2 ⟨rfl, hb2⟩
          have HK2 := Lib.hid (HK1.out.below hb2 HK1.out.lt)
          have c0' : W2.cell? ⟨bd, 0, none⟩ = some (.string s) := HK2.out.cell 0
          have HB2 := Lib.hid (HBB1.out.trans (hb2.mono HBB1.out.size)); have HR2 := Lib.hid (own_below HR1.out hb2); have HMP2 := Lib.hid (HMP1.out.below hb2)
          obtain ⟨t, ht⟩ : ∃ t, nameB s = t := ⟨_, rfl⟩
          rw [ht] at HOK ⊢
          clear hb2 ht c0 c1
          cases t with
          | false =>
            go_wp2_with fail
            refine bodyPost_ret (v := .tuple #[.slice none 0 0, .int .i64 0, .bool false]) (by simp [results, Tryz.results51, go_sem]) rfl ?_
            exact HBAD.out _ HB2.out (by rw [HOK.out]; rfl)
          | true =>
            obtain ⟨hd, hhd⟩ : ∃ hd, hadB doms i = hd := ⟨_, rfl⟩
            have hrl := run_mlook 112 4 (Maps.string_keyed Tryz.underlying9) Tryz.underlying112 (zeroB _) HMP2.out _ _ HKEY.out
            have hat : atF (nameM doms i) (.string s.data.toList) (.bool false) = .bool hd := by
              have h := nameM_at doms i
              rw [HDE.out, hhd] at h
              unfold atF
              rw [show (Lit.string s.data.toList) = .string (⟨s, z⟩ : Dm).name.data.toList from rfl, h]
              cases hd <;> rfl
            rw [hat] at hrl
            have HHD := Lib.hid hhd
            rw [HHD.out] at HBAD
            clear hat hhd
            cases hd with
            | true =>
              go_wp2_with fail
              refine bodyPost_ret (v := .tuple #[.slice none 0 0, .int .i64 0, .bool false]) (by simp [results, Tryz.results51, go_sem]) rfl ?_
              exact HBAD.out _ HB2.out (by simp)
            | false =>
              have hok : okD ⟨s, z⟩ = true := HOK.out
              have hwd30 : wd ≤ 30 := by rw [← HWD.out]; exact widD_le hok
              obtain ⟨q, hq⟩ : ∃ q, sn + wd = q := ⟨_, rfl⟩
              have hqi : (sn : Int) + (wd : Int) = (q : Int) := by omega
              have hq2 : q ≤ 1230 := by omega
              have HG2 : Hid (goodN doms (i + 1) = true) := Lib.hid (by rw [goodN, HG.out, HDE.out, hok, HHD.out]; rfl)
              have HSN2 : Hid (sumN doms (i + 1) = q) := Lib.hid (by rw [sumN_next HD.out, HSN.out, HWD.out]; exact hq)
              have HCN : Hid ((if (nameM doms i (.string s.data.toList)).isSome then i else i + 1) = i + 1) := Lib.hid (by
                have h := nameM_at doms i
                rw [HDE.out, HHD.out] at h
                rw [show (Lit.string s.data.toList) = .string (⟨s, z⟩ : Dm).name.data.toList from rfl, h]; rfl)
              have him : i < maxLen := by unfold maxLen; omega
              have HIW : Hid (iV ((doms.take (i + 1)).map widD) = iV ((doms.take i).map widD) ++ [.int .i64 (wd : Int)]) := Lib.hid (by
                rw [List.take_add_one, HD.out, List.map_append, iV_app]
                show _ ++ iV [widD ⟨s, z⟩] = _
                rw [HWD.out]; rfl)
              clear hok hq
              go_wp2_with (at_mapUpdate; refine wpList_msetn rfl (.tmp 42) (.tmp 44) (.const (.bool true)) 112 rfl 4 (Maps.string_keyed Tryz.underlying9) Tryz.underlying112 rfl HMP2.out him _ _ _ rfl rfl HKEY.out _ HCN.out ?_)
              intro w3 hm3 hg3
              have HMP3 : Hid (MapAt w3 Tryz.prog 9 am (i + 1) (nameM doms (i + 1))) := Lib.hid (by rw [← nameM_set HD.out]; exact hm3)
              have HB3 := Lib.hid (HB2.out.grown hg3 HB2.out.size (fun j e => by injection e with e; have := HAM.out; omega))
              have HR3 := Lib.hid (own_kb HR2.out (HMP2.out.kb hg3 (fun _ => false)) rfl)
              have hs3 := HB3.out.size
              clear hm3 hg3 c0'
              go_wp2_with (at_builtin; refine wpList_append_sep rfl (.tmp 45) (.tmp 47) 45 rfl w.heap.size 3 l0 (.int .i64 0) 1 8 Tryz.underlying45 hl0 lz0 lz1 lz2 rfl (by decide) u2 i _ rfl (HR3.out.alloc _) w3.heap.size 0 1 1 [.int .i64 (wd : Int)] rfl rfl (lit_one _ _ _) (ones_int _) (by unfold maxLen; omega) (by omega) (by simp; omega) ?_)
              intro y4 w4 hown4 hg4 hsep4
              have HR4 : Hid (w4.ownsRow w.heap.size 3 1 y4 (i + 1) (iV ((doms.take (i + 1)).map widD))) := Lib.hid (by rw [HIW.out, List.map_take]; exact hown4)
              have HB4 : Hid (Below w.heap.size w w4) := Lib.hid ((HB3.out.alloc hs3 (.cells #[.int .i64 (wd : Int)] 3)).grown hg4 (Nat.le_trans hs3 (Nat.le_of_lt (by simp))) (fun j hj => (HR3.out.lt j hj).1))
              have HMP4 : Hid (MapAt w4 Tryz.prog 9 am (i + 1) (nameM doms (i + 1))) := Lib.hid (by
                have h := HMP3.out.below ((Below.refl _ _).alloc (Nat.le_refl _) (.cells #[.int .i64 (wd : Int)] 3))
                obtain ⟨es, cc, hbk⟩ := h.block
                exact h.grown hg4 (own_not_map (HR3.out.alloc _) hbk).symm)
              clear hown4 hg4 hsep4
              go_wp2_with fail
              go_roundg (N - (i + 1))
              case measure => have := HM.out; omega
              case rel => exact ⟨i + 1, by have := HM.out; omega, by rw [HSN2.out], by go_num, HG2.out, HB4.out, HR4.out, HMP4.out⟩
        · have d3 : decide ((1073741824 : Int) < z) = true := decide_eq_true (by omega)
          have HOK : Hid (okD ⟨s, z⟩ = false) := Lib.hid (by
            rw [okD_eq, decide_eq_false (show ¬ (⟨s, z⟩ : Dm).size ≤ 1073741824 from hz3)]; simp)
          clear hz1 hz2 hz3
          go_upto_region 5 with (fail)
          rw [← HW1.out]
          rw [HBD.out]
          go_wp2_with fail
          refine HWI.out.mono ?_
          rintro e w' ⟨rfl, rfl⟩
          go_wp2_with fail
          refine bodyPost_ret (v := .tuple #[.slice none 0 0, .int .i64 0, .bool false]) (by simp [results, Tryz.results51, go_sem]) rfl ?_
          exact HBAD.out _ HBB1.out (by rw [HOK.out]; rfl)
      · have hes1 : es = 1 := hes.symm.trans (widS_no z (by omega)).2
        subst hes1
        have HOK : Hid (okD ⟨s, z⟩ = false) := Lib.hid (by
          rw [okD_eq]
          by_cases h1 : 1 ≤ z
          · rw [decide_eq_false (show ¬ (⟨s, z⟩ : Dm).size ≤ 1073741824 from (by show ¬ z ≤ _; omega))]; simp
          · rw [decide_eq_false (show ¬ 1 ≤ (⟨s, z⟩ : Dm).size from h1)]; rfl)
        clear hz1 hws hes
        go_upto_region 5 with (fail)
        rw [← HW1.out]
        rw [HBD.out]
        go_wp2_with fail
        refine HWI.out.mono ?_
        rintro e w' ⟨rfl, rfl⟩
        go_wp2_with fail
        refine bodyPost_ret (v := .tuple #[.slice none 0 0, .int .i64 0, .bool false]) (by simp [results, Tryz.results51, go_sem]) rfl ?_
        exact HBAD.out _ HBB1.out (by rw [HOK.out]; rfl)
    · have hiN : i = N := by have := HM.out; omega
      subst hiN
      have HALL : Hid (allW doms = sn) := Lib.hid (by
        rw [← HSN.out]; unfold allW sumN
        rw [← HN.out, List.take_length])
      have HMAY : Hid (mayB doms = (decide (sn ≤ 256) && decide (i ≤ 32))) := Lib.hid (by
        unfold mayB
        rw [HN.out, HG.out, HALL.out, Bool.true_and])
      have HRF : Hid (wr.ownsRow w.heap.size 3 1 u2 i (iV (doms.map widD))) := Lib.hid (by
        have h := HR.out
        rw [List.take_of_length_le (by rw [HN.out]; exact Nat.le_refl _)] at h
        exact h)
      obtain ⟨b2, hb2⟩ : ∃ b2, decide (i ≤ 32) = b2 := ⟨_, rfl⟩
      have d2 : decide ((i : Int) ≤ 32) = b2 := by rw [← hb2]; exact decide_eq_decide.2 (by omega)
      by_cases h1 : sn ≤ 256
      · have d1 : decide ((sn : Int) ≤ 256) = true := decide_eq_true (by omega)
        rw [hb2, decide_eq_true h1, Bool.true_and] at HMAY
        clear h1 hb2
        go_wp2_with fail
        refine bodyPost_ret (v := .tuple #[u2, .int .i64 (sn : Int), .bool b2]) (by simp [results, Tryz.results51, go_sem]) rfl ?_
        cases b2 with
        | true => exact ⟨HB.out, .inr ⟨HMAY.out, u2, by rw [HALL.out], by rw [HN.out]; exact HRF.out⟩⟩
        | false => exact ⟨HB.out, .inl ⟨HMAY.out, u2, _, rfl⟩⟩
      · have d1 : decide ((sn : Int) ≤ 256) = false := decide_eq_false (by omega)
        rw [hb2, decide_eq_false h1, Bool.false_and] at HMAY
        clear h1 hb2
        go_wp2_with fail
        refine bodyPost_ret (v := .tuple #[u2, .int .i64 (sn : Int), .bool false]) (by simp [results, Tryz.results51, go_sem]) rfl ?_
        exact ⟨HB.out, .inl ⟨HMAY.out, u2, _, rfl⟩⟩
end Go.Proofs.YtobhjkfkdkiigaaGreatDoor

namespace Go.Proofs.YtobhjkfkdkiigaaGreatDoor
open Go.RowKit LY
set_option maxHeartbeats 1600000 in
theorem check_ok (w : World) (a : Option Addr) (doms : List Dm) (c : Nat) (hl : doms.length ≤ 40) (hc : Cells w a (doms.flatMap domCells)) (hnm : ∀ d ∈ doms, d.name.size ≤ maxLen) :
    Calls Tryz.prog 21 #[.slice a doms.length c] w fun e w' => e = .returned (.int .i64 (if mayB doms then 0 else 1)) ∧ Below w.heap.size w w' := by
  have HW := Lib.hid (widths_ok w a doms c hl hc hnm)
  obtain ⟨r, hr⟩ : ∃ r : Int, (if mayB doms then 0 else 1) = r := ⟨_, rfl⟩
  have HR := Lib.hid hr
  rw [hr]
  clear hr
  go_enter Tryz.func21, Tryz.ntmps21
  go_wp2_with fail
  refine HW.out.mono ?_
  rintro e w1 ⟨hb1, ⟨hm, y, A, rfl⟩ | ⟨hm, y, rfl, _⟩⟩
  · have HB1 := Lib.hid hb1
    have hr2 := HR.out
    rw [hm] at hr2
    subst hr2
    clear hb1 hm
    go_wp2_with fail
    go_ret
    exact ⟨rfl, HB1.out⟩
  · have HB1 := Lib.hid hb1
    have hr2 := HR.out
    rw [hm] at hr2
    subst hr2
    clear hb1 hm
    go_wp2_with fail
    go_ret
    exact ⟨rfl, HB1.out⟩
set_option maxHeartbeats 1600000 in
theorem bitsD_ok (w : World) (a : Option Addr) (doms : List Dm) (c : Nat) (hl : doms.length ≤ 40) (hc : Cells w a (doms.flatMap domCells)) (hnm : ∀ d ∈ doms, d.name.size ≤ maxLen) :
    Calls Tryz.prog 22 #[.slice a doms.length c] w fun e w' => e = .returned (.int .i64 (if mayB doms then (allW doms : Int) else 0)) ∧ Below w.heap.size w w' := by
  have HW := Lib.hid (widths_ok w a doms c hl hc hnm)
  obtain ⟨r, hr⟩ : ∃ r : Int, (if mayB doms then (allW doms : Int) else 0) = r := ⟨_, rfl⟩
  have HR := Lib.hid hr
  rw [hr]
  clear hr
  go_enter Tryz.func22, Tryz.ntmps22
  go_wp2_with fail
  refine HW.out.mono ?_
  rintro e w1 ⟨hb1, ⟨hm, y, A, rfl⟩ | ⟨hm, y, rfl, _⟩⟩
  · have HB1 := Lib.hid hb1
    have hr2 := HR.out
    rw [hm] at hr2
    subst hr2
    clear hb1 hm
    go_wp2_with fail
    go_ret
    exact ⟨rfl, HB1.out⟩
  · have HB1 := Lib.hid hb1
    have hr2 := HR.out
    rw [hm] at hr2
    subst hr2
    clear hb1 hm
    go_wp2_with fail
    go_ret
    exact ⟨rfl, HB1.out⟩
theorem call_place1 (args : Array Value) (w : World) : (callFunc 54 args).run Tryz.prog w = .ok (.enter 54 args) w := MuLone.run_callFunc_enter Tryz.func54 (by kernel_rfl) rfl args w
theorem beq_bytes (a b : ByteArray) : (a.toList == b.toList) = decide (a = b) := by
  rw [Lib.toList_data, Lib.toList_data]
  by_cases h : a = b
  · subst h; simp
  · rw [decide_eq_false h, beq_eq_false_iff_ne]
    intro e
    exact h (ByteArray.ext (Array.toList_inj.1 e))
set_option maxHeartbeats 1600000 in
theorem place1_ok (w : World) (n s : ByteArray) (z : Int) (sb : Nat) (hs : w.cell? ⟨sb, 0, none⟩ = some (.string s)) (hlt : sb < w.heap.size) :
    Calls Tryz.prog 54 #[.agg #[.string n, .int .i64 z], .pointer (some ⟨sb, 0, none⟩)] w fun e w' => e = .returned (.bool (decide (n = s))) ∧ Below w.heap.size w w' := by
  obtain ⟨b, hb⟩ : ∃ b, decide (n = s) = b := ⟨_, rfl⟩
  have hbe : (n.toList == s.toList) = b := by rw [beq_bytes, hb]
  obtain ⟨w1, hw1⟩ : ∃ w1, w1 = w.alloc (.cells #[.string n, .int .i64 z] 37) := ⟨_, rfl⟩
  have hb1 : Below w.heap.size w w1 := by rw [hw1]; exact (Below.refl _ _).alloc (Nat.le_refl _) _
  have HB1 := Lib.hid hb1; have HW1 := Lib.hid hw1; have HBV := Lib.hid hb
  clear hb hb1 hw1
  go_enter Tryz.func54, Tryz.ntmps54
  go_wp2
  go_ret
  refine ⟨?_, by rw [← HW1.out]; exact HB1.out⟩
  rw [HBV.out]; rfl
/-- where a domain with a name stands -/
def IdxPost (doms : List Dm) (s : ByteArray) (w : World) (e : Ending) (w' : World) : Prop :=
  Below w.heap.size w w' ∧ ((∃ k : Nat, k < doms.length ∧ (at_ doms k).name = s ∧ e = .returned (.int .i64 (k : Int))) ∨ ((∀ k, k < doms.length → (at_ doms k).name ≠ s) ∧ e = .returned (.int .i64 (-1))))
set_option maxHeartbeats 1600000 in
theorem index_ok (w : World) (a : Option Addr) (doms : List Dm) (c : Nat) (hl : doms.length ≤ 40) (hc : Cells w a (doms.flatMap domCells)) (s : ByteArray) (sb : Nat) (hs : w.cell? ⟨sb, 0, none⟩ = some (.string s)) (hlt : sb < w.heap.size) :
    Calls Tryz.prog 53 #[.slice a doms.length c, .func (.func 54) #[] #[.pointer (some ⟨sb, 0, none⟩)]] w (IdxPost doms s w) := by
  obtain ⟨N, hN⟩ : ∃ N, doms.length = N := ⟨_, rfl⟩
  have HC := Lib.hid hc; have HN := Lib.hid hN; have HS := Lib.hid hs
  have hcall := call_place1
  rw [hN] at hl ⊢
  clear hc hN hs
  go_enter Tryz.func53, Tryz.ntmps53
  go_wp2_with fail
  go_loopg [8] N (fun mm x wr => ∃ i : Nat, mm + i = N ∧ x = .int .i64 (i : Int) ∧ Below w.heap.size w wr ∧ ∀ k, k < i → (at_ doms k).name ≠ s)
  case atStart => exact ⟨0, by omega, rfl, Below.refl _ _, fun k hk => absurd hk (Nat.not_lt_zero _)⟩
  case round =>
    obtain ⟨i, hm, rfl, hb, hno⟩ := hrel
    have HM := Lib.hid hm; have HB := Lib.hid hb; have HNO := Lib.hid hno
    clear hm hb hno
    by_cases hi : i < N
    · have hd := at_get (doms := doms) (i := i) (by rw [HN.out]; exact hi)
      obtain ⟨d, hde⟩ : ∃ d, at_ doms i = d := ⟨_, rfl⟩
      rw [hde] at hd
      obtain ⟨n, z⟩ := d
      obtain ⟨b0, o0, rfl, hb0, k0, k1⟩ := (HC.out.below HB.out).dom hd
      have hcell : wr.cell? ⟨sb, 0, none⟩ = some (.string s) := (HB.out.cell (p := ⟨sb, 0, none⟩) hlt).trans HS.out
      have HP1 := Lib.hid (place1_ok wr n s z sb hcell (Nat.lt_of_lt_of_le hlt HB.out.size))
      have HDE := Lib.hid hde
      obtain ⟨b, hbv⟩ : ∃ b, decide (n = s) = b := ⟨_, rfl⟩
      rw [hbv] at HP1
      clear hd hde hcell
      go_wp2_with fail
      refine HP1.out.mono ?_
      rintro e w1 ⟨rfl, hb1⟩
      have HB1 := Lib.hid (HB.out.trans (hb1.mono HB.out.size))
      clear hb1 HP1
      cases b with
      | true =>
        have hns := of_decide_eq_true hbv
        have HNS : Hid ((at_ doms i).name = s) := Lib.hid (by rw [HDE.out]; exact hns)
        clear hbv hns
        go_wp2_with fail
        go_ret
        exact ⟨HB1.out, .inl ⟨i, by rw [HN.out]; exact hi, HNS.out, rfl⟩⟩
      | false =>
        have hns := of_decide_eq_false hbv
        have HNS : Hid ((at_ doms i).name ≠ s) := Lib.hid (by rw [HDE.out]; exact hns)
        clear hbv hns
        go_wp2_with fail
        go_roundg (N - (i + 1))
        case measure => have := HM.out; omega
        case rel => exact ⟨i + 1, by have := HM.out; omega, by go_num, HB1.out, fun k hk => by
          by_cases e : k = i
          · subst e; exact HNS.out
          · exact HNO.out k (by omega)⟩
    · have hiN : i = N := by have := HM.out; omega
      subst hiN
      go_wp2_with fail
      go_ret
      exact ⟨HB.out, .inr ⟨fun k hk => HNO.out k (by rw [HN.out] at hk; exact hk), rfl⟩⟩
end Go.Proofs.YtobhjkfkdkiigaaGreatDoor

namespace Go.Proofs.YtobhjkfkdkiigaaGreatDoor.LY
theorem nodup_perm {n : Nat} {l : List Nat} (hn : l.Nodup) (hl : ∀ k ∈ l, k < n) : l.Perm ((List.range n).filter fun k => decide (k ∈ l)) := by
  refine (List.perm_ext_iff_of_nodup hn ((List.nodup_range).filter _)).2 fun k => ?_
  rw [List.mem_filter, List.mem_range, decide_eq_true_eq]
  exact ⟨fun h => ⟨hl k h, h⟩, fun h => h.2⟩
theorem nodup_len {n : Nat} {l : List Nat} (hn : l.Nodup) (hl : ∀ k ∈ l, k < n) : l.length ≤ n := by
  rw [(nodup_perm hn hl).length_eq]
  exact Nat.le_trans (List.length_filter_le _ _) (by simp)
theorem sum_filter (f : Nat → Nat) (p : Nat → Bool) : ∀ l : List Nat, ((l.filter p).map f).sum ≤ (l.map f).sum
  | [] => Nat.le_refl _
  | x :: l => by
    have := sum_filter f p l
    rw [List.filter_cons]
    split
    · rw [List.map_cons, List.map_cons, List.sum_cons, List.sum_cons]; omega
    · rw [List.map_cons, List.sum_cons]; omega
theorem allW_eq (doms : List Dm) : ((List.range doms.length).map (wF doms)).sum = allW doms := by
  unfold allW
  congr 1
  refine List.ext_getElem? fun i => ?_
  rw [List.getElem?_map, List.getElem?_map]
  by_cases h : i < doms.length
  · rw [List.getElem?_range h, at_get h]; rfl
  · rw [List.getElem?_eq_none (by simpa using h), List.getElem?_eq_none (by omega)]; rfl
theorem sum_le {doms : List Dm} {l : List Nat} (hn : l.Nodup) (hl : ∀ k ∈ l, k < doms.length) : (l.map (wF doms)).sum ≤ allW doms := by
  rw [← allW_eq, ((nodup_perm hn hl).map (wF doms)).sum_nat]
  exact sum_filter _ _ _
theorem sum_all {doms : List Dm} {l : List Nat} (hn : l.Nodup) (hl : ∀ k ∈ l, k < doms.length) (ha : l.length = doms.length) : (l.map (wF doms)).sum = allW doms := by
  have hp := nodup_perm hn hl
  have hf : (List.range doms.length).filter (fun k => decide (k ∈ l)) = List.range doms.length := by
    refine List.filter_eq_self.2 fun k hk => ?_
    have hlen : ((List.range doms.length).filter fun k => decide (k ∈ l)).length = (List.range doms.length).length := by rw [← hp.length_eq, ha, List.length_range]
    exact List.length_filter_eq_length_iff.1 hlen k hk
  rw [hf] at hp
  rw [(hp.map (wF doms)).sum_nat, allW_eq]
theorem wF_le {doms : List Dm} (h : mayB doms = true) {k : Nat} (hk : k < doms.length) : wF doms k ≤ 30 := widD_le ((may_iff.1 h).1 _ (List.mem_of_getElem? (at_get hk)))
/-- the first i groups of an order, and the first j names of the next one, are read -/
structure Rd (doms : List Dm) (s : List UInt8) (gs : List (List Nat)) (g : List (List UInt8)) (lst : List Nat) : Prop where
  grp : (groupsT s).take gs.length = gs.map fun g => g.map (nm doms)
  here : (groupsT s)[gs.length]? = some g
  pre : g.take lst.length = lst.map (nm doms)
  lt : ∀ k ∈ gs.flatten ++ lst, k < doms.length
  nod : (gs.flatten ++ lst).Nodup
theorem Rd.other {doms : List Dm} {s : List UInt8} {gs gs' : List (List Nat)} {g : List (List UInt8)} {lst : List Nat} (hm : mayB doms = true) (h : Rd doms s gs g lst) (h' : OrderIs doms s gs') :
    gs'.take gs.length = gs ∧ ∃ g', gs'[gs.length]? = some g' ∧ g = g'.map (nm doms) ∧ g'.take lst.length = lst := by
  have e1 : (gs'.take gs.length).map (fun g => g.map (nm doms)) = gs.map fun g => g.map (nm doms) := by rw [List.map_take, ← h'.txt, h.grp]
  refine ⟨map_inj_on (fun g1 h1 g2 h2 e => map_inj_on (fun x hx y hy e => ?_) e) e1, ?_⟩
  · exact nm_inj hm (h'.lt x (List.mem_flatten.2 ⟨g1, List.mem_of_mem_take h1, hx⟩)) (h.lt y (List.mem_append_left _ (List.mem_flatten.2 ⟨g2, h2, hy⟩))) e
  · have hh := h.here
    rw [h'.txt, List.getElem?_map] at hh
    cases hg : gs'[gs.length]? with
    | none => rw [hg] at hh; cases hh
    | some g' =>
      rw [hg] at hh
      injection hh with hh
      have hh : g'.map (nm doms) = g := hh
      refine ⟨g', rfl, hh.symm, map_inj_on (fun x hx y hy e => ?_) (show (g'.take lst.length).map (nm doms) = lst.map (nm doms) by rw [List.map_take, hh, h.pre])⟩
      exact nm_inj hm (h'.lt x (List.mem_flatten.2 ⟨g', List.mem_of_getElem? hg, List.mem_of_mem_take hx⟩)) (h.lt y (List.mem_append_right _ hy)) e
/-- a name that is nobody's -/
theorem Rd.gone {doms : List Dm} {s : List UInt8} {gs : List (List Nat)} {g : List (List UInt8)} {lst : List Nat} (hm : mayB doms = true) (h : Rd doms s gs g lst) {x : List UInt8} (hx : g[lst.length]? = some x) (hno : ∀ k, k < doms.length → nm doms k ≠ x) : ∀ gs', ¬ OrderIs doms s gs' := fun gs' h' => by
  obtain ⟨_, g', h1, rfl, _⟩ := h.other hm h'
  rw [List.getElem?_map] at hx
  cases hg : g'[lst.length]? with
  | none => rw [hg] at hx; cases hx
  | some k =>
    rw [hg] at hx
    injection hx with hx
    exact hno k (h'.lt k (List.mem_flatten.2 ⟨g', List.mem_of_getElem? h1, List.mem_of_getElem? hg⟩)) hx
/-- a name that was there -/
theorem Rd.twice {doms : List Dm} {s : List UInt8} {gs : List (List Nat)} {g : List (List UInt8)} {lst : List Nat} (hm : mayB doms = true) (h : Rd doms s gs g lst) {k : Nat} (hk : k < doms.length) (hx : g[lst.length]? = some (nm doms k)) (hin : k ∈ gs.flatten ++ lst) : ∀ gs', ¬ OrderIs doms s gs' := fun gs' h' => by
  obtain ⟨h0, g', h1, rfl, h2⟩ := h.other hm h'
  rw [List.getElem?_map] at hx
  cases hg : g'[lst.length]? with
  | none => rw [hg] at hx; cases hx
  | some j =>
    rw [hg] at hx
    injection hx with hx
    have hj : j = k := nm_inj hm (h'.lt j (List.mem_flatten.2 ⟨g', List.mem_of_getElem? h1, List.mem_of_getElem? hg⟩)) hk hx
    subst hj
    have e1 : gs' = gs ++ g' :: gs'.drop (gs.length + 1) := by
      conv => lhs; rw [← List.take_append_drop gs.length gs', h0]
      congr 1
      have hl := (List.getElem?_eq_some_iff.1 h1)
      obtain ⟨hl, he⟩ := hl
      rw [List.drop_eq_getElem_cons hl, he]
    have e2 : g' = lst ++ j :: g'.drop (lst.length + 1) := by
      conv => lhs; rw [← List.take_append_drop lst.length g', h2]
      congr 1
      obtain ⟨hl, he⟩ := List.getElem?_eq_some_iff.1 hg
      rw [List.drop_eq_getElem_cons hl, he]
    have hn := h'.nod
    rw [e1, List.flatten_append, List.flatten_cons, e2, List.append_assoc, ← List.append_assoc] at hn
    obtain ⟨_, _, h3⟩ := List.nodup_append.1 hn
    exact h3 j hin j (by simp) rfl
/-- all groups are read -/
theorem read_all {doms : List Dm} {s : List UInt8} {gs : List (List Nat)} (h1 : groupsT s = gs.map fun g => g.map (nm doms)) (h2 : ∀ k ∈ gs.flatten, k < doms.length) (h3 : gs.flatten.Nodup) (h4 : gs.flatten.length = doms.length) : OrderIs doms s gs := ⟨h1, h2, h3, h4⟩
theorem read_few {doms : List Dm} {s : List UInt8} {gs gs' : List (List Nat)} (hm : mayB doms = true) (h1 : groupsT s = gs.map fun g => g.map (nm doms)) (h2 : ∀ k ∈ gs.flatten, k < doms.length) (h4 : gs.flatten.length < doms.length) : ¬ OrderIs doms s gs' := fun h' => by
  have e : gs' = gs := map_inj_on (f := fun g => g.map (nm doms)) (fun g1 h1 g2 h2' e => map_inj_on (fun x hx y hy e => nm_inj hm (h'.lt x (List.mem_flatten.2 ⟨g1, h1, hx⟩)) (h2 y (List.mem_flatten.2 ⟨g2, h2', hy⟩)) e) e) (h'.txt.symm.trans h1)
  have := h'.all
  rw [e] at this
  omega
end Go.Proofs.YtobhjkfkdkiigaaGreatDoor.LY

namespace Go.Proofs.YtobhjkfkdkiigaaGreatDoor
open Go.RowKit LY
def fup {α : Type} (f : Nat → α) (k : Nat) (v : α) : Nat → α := fun i => if i = k then v else f i
theorem fup_same {α : Type} (f : Nat → α) (k : Nat) (v : α) : fup f k v k = v := by simp [fup]
theorem fup_ne {α : Type} (f : Nat → α) {k i : Nat} (v : α) (h : i ≠ k) : fup f k v i = f i := by simp [fup, h]
def setB (s : Nat → Bool) (k : Nat) : Nat → Bool := fun j => s j || j == k
/-! ### arrays as functions -/
def tabV (n : Nat) (f : Nat → Value) : Array Value := ((List.range n).map f).toArray
theorem tabV_size (n : Nat) (f : Nat → Value) : (tabV n f).size = n := by simp [tabV]
theorem tabV_get {n : Nat} (f : Nat → Value) {i : Nat} (h : i < n) : (tabV n f)[i]? = some (f i) := by simp [tabV, h]
theorem tabV_set {n : Nat} (f : Nat → Value) {i : Nat} (h : i < n) (v : Value) : (tabV n f).setIfInBounds i v = tabV n (fup f i v) := by
  apply Array.ext_getElem?
  intro j
  rw [Array.getElem?_setIfInBounds]
  by_cases e : i = j
  · subst e
    rw [if_pos rfl, tabV_get _ h, fup_same, if_pos (by rw [tabV_size]; exact h)]
  · rw [if_neg e]
    by_cases hj : j < n
    · rw [tabV_get _ hj, tabV_get _ hj, fup_ne _ _ (fun h => e h.symm)]
    · rw [Array.getElem?_eq_none (by rw [tabV_size]; omega), Array.getElem?_eq_none (by rw [tabV_size]; omega)]
/-! ### a graph's rows -/
structure GrM (w : World) (B ga n : Nat) (g : Nat → List Nat) (sl : Nat → Value) : Prop where
  blk : Blk w ga 45 (tabV n sl)
  low : B ≤ ga
  row : ∀ a, a < n → w.ownsRow B 3 1 (sl a) (g a).length (iV (g a))
  apart : ∀ a b, a < n → b < n → a ≠ b → ∀ k, (sl a).ownBlock = some k → (sl b).ownBlock ≠ some k
theorem GrM.keep {w w' : World} {B ga n : Nat} {g : Nat → List Nat} {sl : Nat → Value} (h : GrM w B ga n g sl) (hb : w'.heap[ga]? = w.heap[ga]?) (hk : ∀ a, a < n → ∀ k, (sl a).ownBlock = some k → w'.heap[k]? = w.heap[k]?) : GrM w' B ga n g sl :=
  ⟨hb.trans h.blk, h.low, fun a ha => own_keep (h.row a ha) (hk a ha), h.apart⟩
theorem GrM.below {w w' : World} {B ga n : Nat} {g : Nat → List Nat} {sl : Nat → Value} (h : GrM w B ga n g sl) (hb : Below w.heap.size w w') : GrM w' B ga n g sl :=
  h.keep (hb.block _ h.blk.lt) fun a ha k hk => hb.block _ ((h.row a ha).lt k hk).2
theorem GrM.made (w : World) (n : Nat) : GrM (w.alloc (.cells (tabV n fun _ => .slice none 0 0) 45)) w.heap.size w.heap.size n (fun _ => []) fun _ => .slice none 0 0 :=
  ⟨Blk.new_ _ _ _, Nat.le_refl _, fun _ _ => World.ownsRow_nil _ _ _ _, fun _ _ _ _ _ _ h => by cases h⟩
/-- a row grows, and its slice is stored -/
theorem GrM.grow {w w' : World} {B ga n : Nat} {g : Nat → List Nat} {sl : Nat → Value} (h : GrM w B ga n g sl) {a : Nat} (ha : a < n) {v : Value} {x : Nat} (hown : w'.ownsRow B 3 1 v ((g a).length + 1) (iV (g a) ++ [.int .i64 (x : Int)]))
    (hg : w.grownBy w' (sl a).ownBlock) (hs : v.ownBlock = (sl a).ownBlock ∨ v.ownBlock = some w.heap.size) : GrM (w'.setCell ⟨ga, a, none⟩ v) B ga n (fup g a (g a ++ [x])) (fup sl a v) := by
  have hne : some ga ≠ (sl a).ownBlock := own_ne_blk (h.row a ha) h.blk (by decide)
  have hb : Blk w' ga 45 (tabV n sl) := h.blk.grown hg hne
  have hgv : some ga ≠ v.ownBlock := own_ne_blk hown hb (by decide)
  refine ⟨?_, h.low, fun b hbn => ?_, fun b c hbn hcn hbc k hk => ?_⟩
  · have := hb.set_ a v
    rw [tabV_set _ ha] at this
    exact this
  · by_cases e : b = a
    · subst e
      rw [fup_same, fup_same]
      have h1 : w'.ownsRow B 3 1 v (g b ++ [x]).length (iV (g b ++ [x])) := by rw [iV_app, List.length_append]; exact hown
      exact own_keep h1 fun k hk => Below.heap_setCell _ _ _ _ (fun e => hgv (by rw [hk, e]))
    · rw [fup_ne _ _ e, fup_ne _ _ e]
      have h1 : w'.ownsRow B 3 1 (sl b) (g b).length (iV (g b)) := (h.row b hbn).kept hg (by
        cases e2 : (sl b).ownBlock with
        | none => exact .inl rfl
        | some k => exact .inr fun e3 => h.apart b a hbn ha e k e2 e3.symm)
      exact own_keep h1 fun k hk => Below.heap_setCell _ _ _ _ (fun e => (own_ne_blk h1 hb (by decide)) (by rw [hk, e]))
  · have hlt : ∀ d, d < n → ∀ k, (sl d).ownBlock = some k → k < w.heap.size := fun d hd k hk => ((h.row d hd).lt k hk).2
    by_cases e1 : b = a
    · subst e1
      have e2 : c ≠ b := fun e => hbc e.symm
      rw [fup_same] at hk
      rw [fup_ne _ _ e2]
      intro hck
      rcases hs with hs | hs
      · exact h.apart c b hcn hbn e2 k hck (by rw [← hs]; exact hk)
      · have := hlt c hcn k hck; rw [hs] at hk; injection hk with hk; omega
    · rw [fup_ne _ _ e1] at hk
      by_cases e2 : c = a
      · subst e2
        rw [fup_same]
        intro hck
        rcases hs with hs | hs
        · exact h.apart b c hbn hcn e1 k hk (by rw [← hs]; exact hck)
        · have := hlt b hbn k hk; rw [hs] at hck; injection hck with hck; omega
      · rw [fup_ne _ _ e2]
        exact h.apart b c hbn hcn hbc k hk
/-! ### rows turned about -/
theorem only_putRow (w : World) (g q : Nat) {n c : Nat} (d : Array Int) : Only (fun k => (Value.slice (some ⟨g, 0, none⟩) n c).ownBlock = some k) w (Sort.putRow (Value.int .i64) (Sort.ahead w q) g 0 d) :=
  ⟨rfl, rfl, rfl, by simp [Sort.putRow, Sort.mapBlock, Sort.ahead], fun k _ hn => by
    have hk : g ≠ k := fun e => hn (by rw [e]; rfl)
    simp [Sort.putRow, Sort.mapBlock, Sort.ahead, Array.getElem?_modify, hk]⟩
theorem iV_int (l : List Nat) : iV l = (l.map fun k : Nat => (k : Int)).map (Value.int .i64) := by unfold iV; rw [List.map_map]; rfl
theorem reverse_own (w : World) (B : Nat) (v : Value) (l : List Nat) (hl : l.length ≤ 1024) (h : w.ownsRow B 3 1 v l.length (iV l)) :
    Calls Tryz.prog 55 #[v] w fun e w' => e = .returned (.tuple #[]) ∧ w'.ownsRow B 3 1 v l.length (iV l.reverse) ∧ Only (fun k => v.ownBlock = some k) w w' := by
  obtain ⟨a, c, rfl⟩ := own_shape h
  cases l with
  | nil =>
    refine (Tryz.slices_Reverse_int_empty a c w).mono ?_
    rintro e w' ⟨he, hw⟩
    subst hw
    exact ⟨he, h, Only.refl _ _⟩
  | cons x l =>
    obtain ⟨n, hn⟩ : ∃ n, (x :: l).length = n := ⟨_, rfl⟩
    have hn1 : 0 < n := by rw [← hn]; simp
    rw [iV_int, hn] at h
    rw [hn] at hl ⊢
    have hzl : ((x :: l).map fun k : Nat => (k : Int)).length = n := by rw [List.length_map, hn]
    have hne : Value.slice a n c ≠ .slice none 0 0 := by
      intro e
      injection e with _ e _
      omega
    obtain ⟨g, cap, e, hbg, _, _, hcm, hlen, hH⟩ := Lib.holds_of_ownsRow (enc := Value.int .i64) (zs := (x :: l).map fun k : Nat => (k : Int)) h hne
    injection e with e1 _ e3
    subst e1 e3
    have hrev := Tryz.slices_Reverse_int g 0 c ((x :: l).map fun k : Nat => (k : Int)) w hH (by rw [hzl]; omega)
    rw [hzl] at hrev
    refine hrev.mono ?_
    rintro e w' ⟨rfl, q, rfl⟩
    have hy : ((x :: l).map fun k : Nat => (k : Int)).reverse.length = n := by rw [List.length_reverse, hzl]
    have h1 := Lib.ownsRow_putRow (q := q) (ys := ((x :: l).map fun k : Nat => (k : Int)).reverse) h hy (Nat.le_refl n)
    rw [List.take_of_length_le (Nat.le_of_eq hy)] at h1
    have e2 : iV (x :: l).reverse = (((x :: l).map fun k : Nat => (k : Int)).reverse).map (Value.int .i64) := by
      rw [iV_int, List.map_reverse]
    exact ⟨rfl, by rw [e2]; exact h1, only_putRow w g q _⟩

/-! ### frames by types -/
def TL (t : TypeId) : Bool := t == 3 || t == 45
theorem kb_below {T : TypeId → Bool} {w w' : World} (h : Below w.heap.size w w') : Kb T w w' := fun _ _ _ hb _ => hb.below h hb.lt
theorem kb_grown {T : TypeId → Bool} {w w' : World} {base e size n : Nat} {v : Value} {xs : List Value} (h : w.ownsRow base e size v n xs) (hg : w.grownBy w' v.ownBlock) (hT : T e = true) : Kb T w w' := fun b t cs hb ht => hb.grown hg (own_ne_blk h hb (fun e2 => by rw [e2, hT] at ht; cases ht))
theorem kb_set {T : TypeId → Bool} {w : World} {g i : Nat} {t : TypeId} {cs : Array Value} (h : Blk w g t cs) (hT : T t = true) (u : Value) : Kb T w (w.setCell ⟨g, i, none⟩ u) := fun b t' cs' hb ht => hb.far (hb.ne h (fun e2 => by rw [e2, hT] at ht; cases ht)) u
theorem GrM.kb {w w' : World} {B ga n : Nat} {g : Nat → List Nat} {sl : Nat → Value} (h : GrM w B ga n g sl) (hk : Kb (fun _ => false) w w') : GrM w' B ga n g sl :=
  ⟨hk _ _ _ h.blk rfl, h.low, fun a ha => own_kb (h.row a ha) hk rfl, h.apart⟩
end Go.Proofs.YtobhjkfkdkiigaaGreatDoor

namespace Go.Proofs.YtobhjkfkdkiigaaGreatDoor
open Go.RowKit LY
def zN (l : List Nat) : List Int := l.map fun k : Nat => (k : Int)
theorem zN_len (l : List Nat) : (zN l).length = l.length := List.length_map ..
theorem iV_zN (l : List Nat) : iV l = zV (zN l) := iV_z l
/-- internal/bytealg's bound holds an int -/
def MaxL (w : World) : Prop := ∃ m, w.cell? ⟨0, 0, none⟩ = some (.int .i64 m)
theorem MaxL.below {w w' : World} (h : MaxL w) (hb : Below w.heap.size w w') : MaxL w' := by
  obtain ⟨m, h⟩ := h
  exact ⟨m, (hb.cell (p := ⟨0, 0, none⟩) (World.block_lt_of_cell? _ _ h)).trans h⟩
theorem piece_le {sep : ByteArray} : ∀ (k : Nat) (s x : ByteArray), x ∈ Lib.splitB sep 0 k s → x.size ≤ s.size
  | 0, s, x, h => by rw [List.mem_singleton.1 h]; exact Nat.le_refl _
  | k + 1, s, x, h => by
    unfold Lib.splitB at h
    split at h
    · rw [List.mem_singleton.1 h]; exact Nat.le_refl _
    · rcases List.mem_cons.1 h with rfl | h
      · rw [ByteArray.size_extract]; omega
      · have := piece_le k _ x h
        rw [ByteArray.size_extract] at this
        omega
/-- the texts between a byte -/
def pcs (c : UInt8) (s : ByteArray) : List ByteArray := Lib.splitB ⟨#[c]⟩ 0 (Lib.countB s ⟨#[c]⟩) s
theorem pcs_len (c : UInt8) (s : ByteArray) : (pcs c s).length = Lib.countB s ⟨#[c]⟩ + 1 := Lib.splitB_all _ (by simp [ByteArray.size]) 0 _ s rfl
theorem pcs_txt (c : UInt8) (s : ByteArray) : (pcs c s).map (fun x => x.data.toList) = Lib.split s.data.toList [c] := Lib.splitB_data _ 0 _ s
theorem pcs_le {c : UInt8} {s x : ByteArray} (h : x ∈ pcs c s) : x.size ≤ s.size := piece_le _ s x h
theorem groups_at {s x : ByteArray} {i : Nat} (h0 : s.data.toList ≠ []) (h : (pcs 95 s)[i]? = some x) : (groupsT s.data.toList)[i]? = some ((pcs 42 x).map fun y => y.data.toList) := by
  unfold groupsT
  rw [if_neg h0, List.getElem?_map, ← pcs_txt, List.getElem?_map, h, pcs_txt]; rfl
theorem groups_len {s : ByteArray} (h0 : s.data.toList ≠ []) : (groupsT s.data.toList).length = (pcs 95 s).length := by
  unfold groupsT
  rw [if_neg h0, List.length_map, ← pcs_txt, List.length_map]
def strV (l : List ByteArray) : Array Value := (l.map Value.string).toArray
theorem strV_cell {w : World} {b : Nat} {l : List ByteArray} (h : Blk w b 9 (strV l)) {i : Nat} {x : ByteArray} (hx : l[i]? = some x) : w.cell? ⟨b, i, none⟩ = some (.string x) := by
  rw [h.cell]; unfold strV
  rw [List.getElem?_toArray, List.getElem?_map, hx]; rfl
theorem put1_yes {w : Nat → Nat} {L k : Nat} {st : St} (h : L < w k) : put1 w L st k = (st.1 + 1, fup st.2 k (st.2 k ++ [st.1])) := by
  unfold put1
  rw [if_pos h]
  congr 1
  funext j
  unfold fup
  by_cases e : j = k
  · subst e; simp
  · rw [if_neg e, if_neg e]
theorem put1_no {w : Nat → Nat} {L k : Nat} {st : St} (h : ¬ L < w k) : put1 w L st k = st := by unfold put1; rw [if_neg h]
/-- map am may have changed, and what lies from B on -/
abbrev OM (am B : Nat) (w w' : World) : Prop := Only (fun i => i = am ∨ B ≤ i) w w'
theorem OM.trans {am B : Nat} {a b c : World} (h : OM am B a b) (k : OM am B b c) : OM am B a c := Only.trans h k fun _ _ hi => hi
theorem OM.of_below {am B : Nat} {w w' : World} (h : Below w.heap.size w w') : OM am B w w' := Only.of_below h fun k h1 h2 => by omega
theorem OM.map {am B : Nat} {w w' : World} (h : w.grownBy w' (some am)) : OM am B w w' := Only.of_grown h fun k _ e => by injection e with e; exact .inl e
theorem OM.row {am B e size n : Nat} {w w' : World} {v : Value} {xs : List Value} (h : w.ownsRow B e size v n xs) (hg : w.grownBy w' v.ownBlock) : OM am B w w' := Only.of_grown hg fun k _ e => .inr (h.lt k e.symm).1
theorem Blk.om {am B g : Nat} {w w' : World} {t : TypeId} {cs : Array Value} {es : Array MapEntry} {c : Nat} (h : Blk w g t cs) (ho : OM am B w w') (hm : w.heap[am]? = some (.map es c)) (hg : g < B) : Blk w' g t cs := h.only ho (by
  rintro (e | e)
  · subst e
    unfold Blk at h
    rw [hm] at h; cases h
  · omega)
theorem GrM.om {am B B0 ga n : Nat} {w w' : World} {g : Nat → List Nat} {sl : Nat → Value} {es : Array MapEntry} {c : Nat} (h : GrM w B0 ga n g sl) (ho : OM am B w w') (hm : w.heap[am]? = some (.map es c)) (hB : w.heap.size ≤ B) : GrM w' B0 ga n g sl :=
  h.keep (ho.block ga h.blk.lt (by
    rintro (e | e)
    · subst e
      have hb := h.blk
      unfold Blk at hb
      rw [hm] at hb; cases hb
    · have := h.blk.lt; omega)) fun a ha k hk => ho.block k ((h.row a ha).lt k hk).2 (by
    rintro (e | e)
    · subst e; exact own_not_map (h.row a ha) hm hk
    · have := ((h.row a ha).lt k hk).2; omega)
/-- between the steps of the levels -/
structure LvY (w1 : World) (B2 ob am gb lb J lc N : Nat) (pc : Array Value) (lst done : List Nat) (g : Nat → List Nat) (sl : Nat → Value) (W : World) : Prop where
  bel : Below w1.heap.size w1 W
  gr : GrM W w1.heap.size ob N g sl
  ap : ∀ a, a < N → (sl a).ownBlock ≠ some lb
  l : W.ownsRow B2 3 1 (.slice (some ⟨lb, 0, none⟩) J lc) J (iV lst)
  mp : MapAt W Tryz.prog 3 am done.length (setM fun k => decide (k ∈ done))
  gb : Blk W gb 9 pc
theorem LvY.below {w1 W W' : World} {B2 ob am gb lb J lc N : Nat} {pc : Array Value} {lst done : List Nat} {g : Nat → List Nat} {sl : Nat → Value} (h : LvY w1 B2 ob am gb lb J lc N pc lst done g sl W) (hb : Below W.heap.size W W') : LvY w1 B2 ob am gb lb J lc N pc lst done g sl W' :=
  ⟨h.bel.trans (hb.mono h.bel.size), h.gr.below hb, h.ap, own_below h.l hb, h.mp.below hb, h.gb.below hb h.gb.lt⟩
theorem LvY.put {w1 W W2 : World} {B2 ob am gb lb J lc N : Nat} {pc : Array Value} {lst done : List Nat} {g : Nat → List Nat} {sl : Nat → Value} (h : LvY w1 B2 ob am gb lb J lc N pc lst done g sl W) {k na x : Nat} {v : Value} (hk : k < N) (hna : (g k).length = na)
    (hown : W2.ownsRow w1.heap.size 3 1 v (na + 1) (iV (g k) ++ [.int .i64 (x : Int)])) (hg : W.grownBy W2 (sl k).ownBlock) (hs : v.ownBlock = (sl k).ownBlock ∨ v.ownBlock = some W.heap.size) :
    LvY w1 B2 ob am gb lb J lc N pc lst done (fup g k (g k ++ [x])) (fup sl k v) (W2.setCell ⟨ob, k, none⟩ v) := by
  subst hna
  have hrow := h.gr.row k hk
  have hG := h.gr.grow hk hown hg hs
  obtain ⟨es, cc, hm⟩ := h.mp.block
  have hlb : lb < W.heap.size := (h.l.lt lb rfl).2
  have hobl : ob ≠ lb := fun e => by
    subst e
    exact own_ne_blk h.l h.gr.blk (by decide) rfl
  have hl2 : W2.ownsRow B2 3 1 (.slice (some ⟨lb, 0, none⟩) J lc) J (iV lst) := h.l.kept hg (.inr fun e => h.ap k hk e.symm)
  have hm2 := h.mp.grown hg (own_not_map hrow hm).symm
  obtain ⟨es2, cc2, hmb2⟩ := hm2.block
  have hgb2 : Blk W2 gb 9 pc := h.gb.grown hg (own_ne_blk hrow h.gb (by decide))
  have hob2 : Blk W2 ob 45 (tabV N sl) := h.gr.blk.grown hg (own_ne_blk hrow h.gr.blk (by decide))
  refine ⟨?_, hG, fun a ha => ?_, ?_, ?_, ?_⟩
  · exact (h.bel.grown hg h.bel.size (fun j hj => (hrow.lt j hj).1)).setCell h.gr.low _
  · by_cases e : a = k
    · subst e
      rw [fup_same]
      rcases hs with hs | hs
      · rw [hs]; exact h.ap a ha
      · rw [hs]; intro e2; injection e2 with e2; omega
    · rw [fup_ne _ _ e]; exact h.ap a ha
  · exact own_keep hl2 fun j hj => Below.heap_setCell _ _ _ _ (fun e => by
      injection hj with hj
      exact hobl (e.symm.trans hj.symm))
  · exact hm2.keep (Below.heap_setCell _ _ _ _ (fun e => by
      have e : am = ob := e
      subst e
      unfold Blk at hob2
      rw [hmb2] at hob2; cases hob2))
  · exact hgb2.far (hgb2.ne hob2 (by decide)) _
end Go.Proofs.YtobhjkfkdkiigaaGreatDoor

namespace Go.Proofs.YtobhjkfkdkiigaaGreatDoor
open Go.RowKit LY
theorem rows_infoL : (Tryz.prog.info? 45).map (fun i => (i.zero, i.size, i.bytes)) = some (some (.slice none 0 0), 1, 24) := by kernel_rfl
theorem made_repL (n : Nat) (v : Value) : madeCells #[v] (n * 1) = tabV n fun _ => v := by
  apply Array.ext_getElem?
  intro j
  unfold madeCells
  by_cases hj : j < n
  · rw [tabV_get _ hj]; simp [hj, Nat.mod_one]
  · rw [Array.getElem?_eq_none (by simp; omega), Array.getElem?_eq_none (by rw [tabV_size]; omega)]
theorem setM_zero : setM (fun k => decide (k ∈ ([] : List Nat))) = fun _ => none := by
  funext l
  unfold setM
  split <;> simp
theorem setM_snoc (done : List Nat) (k : Nat) : setF (setM fun j => decide (j ∈ done)) (.int .i64 (k : Int)) (.bool true) = setM fun j => decide (j ∈ done ++ [k]) := by
  rw [setM_set]
  congr 1
  funext j
  unfold NP.setB
  by_cases h1 : j ∈ done <;> by_cases h2 : j = k <;> simp [h1, h2]
theorem GrM.turn {w w' : World} {B ga n i : Nat} {g : Nat → List Nat} {sl : Nat → Value} (h : GrM w B ga n g sl) (hi : i < n) (hrow : w'.ownsRow B 3 1 (sl i) (g i).length (iV (g i).reverse)) (ho : Only (fun k => (sl i).ownBlock = some k) w w') : GrM w' B ga n (fup g i (g i).reverse) sl :=
  ⟨h.blk.only ho (fun e => own_ne_blk (h.row i hi) h.blk (by decide) e.symm), h.low, fun a ha => by
    by_cases e : a = i
    · subst e; rw [fup_same, List.length_reverse]; exact hrow
    · rw [fup_ne _ _ e]
      exact own_keep (h.row a ha) fun k hk => ho.block k ((h.row a ha).lt k hk).2 (fun e2 => h.apart i a hi ha (fun e3 => e e3.symm) k e2 hk), h.apart⟩
theorem own_tbL {w : World} {base e size n : Nat} {v : Value} {xs : List Value} (h : w.ownsRow base e size v n xs) : ∀ b off s m c, v = .slice (some ⟨b, off, s⟩) m c → ∃ cs, Blk w b e cs := fun b off s m c he => by
  rcases h.2 with ⟨h1, _⟩ | ⟨g, cap, cur, h1, _, hg, _⟩
  · rw [h1] at he; cases he
  · rw [h1] at he; injection he with he _ _; injection he with he; injection he with he _ _; subst he; exact ⟨cur, hg⟩
theorem GrM.rowsAt {w : World} {B ga n : Nat} {g : Nat → List Nat} {sl : Nat → Value} (h : GrM w B ga n g sl) : RowsT w (some ⟨ga, 0, none⟩) ((List.range n).map fun k => zN (g k)) := by
  refine ⟨(List.range n).map sl, ⟨fun _ => ⟨ga, 0, rfl, h.blk.lt, fun i v hv => ?_⟩, fun b off s e => by injection e with e; injection e with e _ _; subst e; exact ⟨_, h.blk⟩⟩, fun i l hl => ?_⟩
  · rw [Nat.zero_add, h.blk.cell]
    unfold tabV
    rw [List.getElem?_toArray]; exact hv
  · rw [List.getElem?_map] at hl
    by_cases hi : i < n
    · rw [List.getElem?_range hi] at hl
      injection hl with hl
      subst hl
      obtain ⟨oa, cap, e, h1, h2, h3⟩ := Cells.of_own (h.row i hi)
      have ht := own_tbL (h.row i hi)
      rw [e] at ht
      refine ⟨by rw [zN_len]; omega, oa, cap, ?_, ⟨by rw [← iV_zN]; exact h3, fun b off s e2 => ht b off s _ _ (by rw [e2])⟩⟩
      rw [List.getElem?_map, List.getElem?_range hi, zN_len]
      show some (sl i) = _
      rw [e]
    · rw [List.getElem?_eq_none (by simpa using hi)] at hl; cases hl
theorem LY.Dealt.len {st : St} (h : Dealt st) (k : Nat) : (st.2 k).length ≤ st.1 :=
  nodup_len ((h.up k).imp fun h => by omega) (h.lt k)
theorem own_cellsL {w : World} {base e size n : Nat} {v : Value} {xs : List Value} (h : w.ownsRow base e size v n xs) (hn : 0 < n) : ∃ g cap, v = .slice (some ⟨g, 0, none⟩) n cap ∧ base ≤ g := by
  rcases h.2 with ⟨h1, h2⟩ | ⟨g, cap, cur, h1, h4, _⟩
  · omega
  · exact ⟨g, cap, h1, h4⟩
theorem sum_min_le (w : Nat → Nat) (L : Nat) : ∀ l : List Nat, (l.map fun k => min L (w k)).sum ≤ L * l.length
  | [] => Nat.zero_le _
  | x :: l => by
    have := sum_min_le w L l
    rw [List.map_cons, List.sum_cons, List.length_cons, Nat.mul_succ]
    omega
theorem levN_le (w : Nat → Nat) (l : List Nat) (L : Nat) : levN w l L ≤ l.length := List.countP_le_length
def PlacePost (doms : List Dm) (s : ByteArray) (w : World) (e : Ending) (w' : World) : Prop := Below w.heap.size w w' ∧
  ((mayB doms = false ∧ e = .returned (.tuple #[.slice none 0 0, .int .i64 1])) ∨
   (mayB doms = true ∧ (∀ gs, ¬ OrderIs doms s.data.toList gs) ∧ e = .returned (.tuple #[.slice none 0 0, .int .i64 70])) ∨
   (mayB doms = true ∧ ∃ gs ob, OrderIs doms s.data.toList gs ∧ e = .returned (.tuple #[.slice (some ⟨ob, 0, none⟩) doms.length doms.length, .int .i64 0]) ∧ (0 < doms.length → RowsT w' (some ⟨ob, 0, none⟩) ((List.range doms.length).map fun k => zN (rowP doms gs k)))))
set_option maxRecDepth 100000 in
set_option maxHeartbeats 16000000 in
theorem place_ok (w : World) (a : Option Addr) (doms : List Dm) (c : Nat) (s : ByteArray) (hl : doms.length ≤ 40) (hc : Cells w a (doms.flatMap domCells)) (hnm : ∀ d ∈ doms, d.name.size ≤ maxLen) (hs : s.size ≤ 1048576) (hML : MaxL w) :
    Calls Tryz.prog 24 #[.slice a doms.length c, .string s] w (PlacePost doms s w) := by
  have hmf : ∀ (fn : Fn) (first cap : Array Value) (w : World), (Instr.makeFunc fn first cap).run Tryz.prog w = .ok (.func fn first cap) w := fun _ _ _ _ => rfl
  have hmk := @run_makeMap Tryz.prog
  obtain ⟨l0, hl0, lz0, lz1, lz2⟩ := info_parts int_infoL
  obtain ⟨i0, hi0, iz0, iz1, iz2⟩ := info_parts rows_infoL
  obtain ⟨N, hN⟩ : ∃ N, doms.length = N := ⟨_, rfl⟩
  have HWI := Lib.hid (widths_ok w a doms c hl hc hnm)
  have HC := Lib.hid hc; have HNM := Lib.hid hnm; have HN := Lib.hid hN; have HML := Lib.hid hML
  rw [hN] at hl HWI ⊢
  have hmk2 := run_make_n (P := Tryz.prog) 42 45 i0 (.slice none 0 0) 1 24 Tryz.underlying42 hi0 iz0 iz1 iz2 .i64 .i64 N N (Nat.le_refl _) (by omega) (by omega)
  have e0 : madeCells (Value.slice none 0 0).cells (N * 1) = tabV N fun _ => .slice none 0 0 := made_repL N _
  rw [e0] at hmk2
  clear e0 hc hnm hN hML
  go_enter Tryz.func24, Tryz.ntmps24
  go_wp2_with fail
  refine HWI.out.mono ?_
  rintro e w1 ⟨hb1, ⟨hm, y, A, rfl⟩ | ⟨hm, y, rfl, hrow⟩⟩
  · have HB1 := Lib.hid hb1; have HMAY := Lib.hid hm
    clear hb1 hm
    go_wp2_with fail
    go_ret2
    exact ⟨HB1.out, .inl ⟨HMAY.out, rfl⟩⟩
  rw [HN.out] at hrow
  obtain ⟨wa, wc, rfl, _, _, hwc⟩ := Cells.of_own hrow
  have HB1 := Lib.hid hb1; have HMAY := Lib.hid hm; have HWC := Lib.hid hwc; have HROW := Lib.hid hrow
  obtain ⟨AW, hAW⟩ : ∃ AW, allW doms = AW := ⟨_, rfl⟩
  rw [hAW]
  obtain ⟨ob, hob⟩ : ∃ ob, ob = w1.heap.size := ⟨_, rfl⟩
  obtain ⟨am, ham⟩ : ∃ am, am = w1.heap.size + 1 := ⟨_, rfl⟩
  obtain ⟨w3, hw3⟩ : ∃ w3, w3 = (w1.alloc (.cells (tabV N fun _ => .slice none 0 0) 45)).alloc (.map #[] 0) := ⟨_, rfl⟩
  have hbm : Below w1.heap.size w1 w3 := by rw [hw3]; exact ((Below.refl _ _).alloc (Nat.le_refl _) _).alloc (by simp) _
  have HG3 : Hid (GrM w3 w1.heap.size ob N stZ.2 fun _ => .slice none 0 0) := Lib.hid (by rw [hw3, hob]; exact (GrM.made w1 N).below ((Below.refl _ _).alloc (Nat.le_refl _) _))
  have HM3 : Hid (MapAt w3 Tryz.prog 3 am 0 (setM fun k => decide (k ∈ ([] : List Nat)))) := Lib.hid (by
    rw [setM_zero, hw3, ham]
    have h := MapAt.made (w1.alloc (.cells (tabV N fun _ => .slice none 0 0) 45)) Tryz.prog 3
    rw [World.size_alloc] at h
    exact h)
  have HB3 := Lib.hid hbm; have HW3 := Lib.hid hw3; have HOB := Lib.hid hob; have HAM := Lib.hid ham
  clear hb1 hm hrow hwc hbm hw3 hob ham hAW HWI
  by_cases h0 : s.size = 0
  · have hse : s = ByteArray.empty := ByteArray.size_eq_zero_iff.1 h0
    subst hse
    have HGE : Hid (groupsT (ByteArray.empty).data.toList = []) := Lib.hid rfl
    go_upto_region 8 with (fail)
    rw [← HAM.out]
    rw [← HOB.out]
    rw [← HW3.out]
    go_wp2_with fail
    go_loopg [10, 46] 0 (fun mm x10 x wr => x10 = .int .i64 (N : Int) ∧ x = .int .i64 0 ∧ w3 = wr)
    case atStart => exact ⟨rfl, rfl, rfl⟩
    case round =>
      obtain ⟨rfl, rfl, rfl⟩ := hrel
      by_cases hN0 : N = 0
      · subst hN0
        go_wp2_with fail
        go_loopg [109] 0 (fun mm x wr => x = .int .i64 0 ∧ w3 = wr)
        case atStart => exact ⟨rfl, rfl⟩
        case round =>
          obtain ⟨rfl, rfl⟩ := hrel
          go_wp2_with fail
          go_ret2
          exact ⟨HB1.out.trans (HB3.out.mono HB1.out.size), .inr (.inr ⟨HMAY.out, [], ob, ⟨HGE.out, by simp, by simp, by simp [HN.out]⟩, by rw [HN.out]; rfl, fun h0 => absurd h0 (by rw [HN.out]; exact Nat.lt_irrefl 0)⟩)⟩
      · have hN1 : 0 < N := by omega
        have HNO : Hid (∀ gs', ¬ OrderIs doms (ByteArray.empty).data.toList gs') := Lib.hid (fun gs' h => by
          have h1 := h.txt
          rw [HGE.out] at h1
          have h2 : gs' = [] := by simpa using h1.symm
          have h3 := h.all
          rw [h2, HN.out] at h3
          simp at h3
          omega)
        clear hN0
        go_wp2_with fail
        go_ret2
        exact ⟨HB1.out.trans (HB3.out.mono HB1.out.size), .inr (.inl ⟨HMAY.out, HNO.out, rfl⟩)⟩
  have hne : s.toList.isEmpty = false := by
    rw [List.isEmpty_eq_false_iff]
    intro e
    apply h0
    rw [Lib.size_eq, ← Lib.toList_data, e]; rfl
  have HD0 : Hid (s.data.toList ≠ []) := Lib.hid (fun e => h0 (by rw [Lib.size_eq, e]; rfl))
  obtain ⟨m0, hm0⟩ := HML.out.below (HB1.out.trans (HB3.out.mono HB1.out.size))
  have HSP := Lib.hid (Tryz.strings_Split s ⟨#[95]⟩ m0 w3 (by omega) hm0 (by decide))
  obtain ⟨G, hG⟩ : ∃ G, (pcs 95 s).length = G := ⟨_, rfl⟩
  have HG := Lib.hid hG
  have hG2 : Lib.countB s ⟨#[95]⟩ + 1 = G := (pcs_len 95 s).symm.trans hG
  rw [hG2] at HSP
  have hGb : G ≤ 1048577 := by
    have := Lib.countB_le ⟨#[95]⟩ (by decide) s.size s (Nat.le_refl _)
    omega
  obtain ⟨P, hP⟩ : ∃ P, pcs 95 s = P := ⟨_, rfl⟩
  have HP := Lib.hid hP
  have hPle : ∀ x ∈ P, x.size ≤ 1048576 := fun x hx => by
    have := pcs_le (c := 95) (s := s) (x := x) (by rw [hP]; exact hx)
    omega
  have HPLE := Lib.hid hPle
  have hGL : Hid ((groupsT s.data.toList).length = G) := Lib.hid (by rw [groups_len HD0.out]; exact hG)
  clear h0 hm0 hG hP hPle
  go_upto_region 8 with (fail)
  rw [← HAM.out]
  rw [← HOB.out]
  rw [← HW3.out]
  go_wp2_with fail
  refine HSP.out.mono ?_
  rintro e w4 ⟨rfl, hw4⟩
  obtain ⟨gb, hgb⟩ : ∃ gb, w3.heap.size = gb := ⟨_, rfl⟩
  have hb4 : Below w3.heap.size w3 w4 := by rw [hw4]; exact (Below.refl _ _).alloc (Nat.le_refl _) _
  have HG4 := Lib.hid (HG3.out.below hb4); have HM4 := Lib.hid (HM3.out.below hb4); have HB4 := Lib.hid (HB3.out.trans (hb4.mono HB3.out.size))
  have HK4 : Hid (Blk w4 gb 9 (strV P)) := Lib.hid (by rw [hw4, ← hgb, ← HP.out]; exact Blk.new_ _ _ _)
  rw [hgb]
  clear hw4 hgb hb4 HSP HG3 HM3
  go_wp2_with fail
  go_loopg [10, 11, 46] G (fun mm x10 x11 x46 wr => ∃ (gs : List (List Nat)) (lf : Nat) (sl : Nat → Value), mm + gs.length = G ∧ lf + gs.flatten.length = N ∧ x10 = .int .i64 (lf : Int) ∧ x11 = .int .i64 ((outS (wF doms) 31 gs stZ).1 : Int) ∧ x46 = .int .i64 (gs.length : Int) ∧
    (groupsT s.data.toList).take gs.length = gs.map (fun g => g.map (nm doms)) ∧ (∀ k ∈ gs.flatten, k < doms.length) ∧ gs.flatten.Nodup ∧ Below w1.heap.size w1 wr ∧ GrM wr w1.heap.size ob N (outS (wF doms) 31 gs stZ).2 sl ∧ MapAt wr Tryz.prog 3 am gs.flatten.length (setM fun k => decide (k ∈ gs.flatten)) ∧ Blk wr gb 9 (strV P))
  case atStart => exact ⟨[], N, _, by simp, by simp, rfl, rfl, rfl, by simp, by simp, by simp, HB4.out, HG4.out, HM4.out, HK4.out⟩
  case round =>
    obtain ⟨gs, lf, sl, hm, hlf, rfl, rfl, rfl, hgrp, hlt, hnod, hb, hgr, hmp, hgbk⟩ := hrel
    obtain ⟨gi, hgi⟩ : ∃ gi, gs.length = gi := ⟨_, rfl⟩
    obtain ⟨fl, hfl⟩ : ∃ fl, gs.flatten = fl := ⟨_, rfl⟩
    obtain ⟨fn, hfn⟩ : ∃ fn, fl.length = fn := ⟨_, rfl⟩
    obtain ⟨st0, hst0⟩ : ∃ st0, outS (wF doms) 31 gs stZ = st0 := ⟨_, rfl⟩
    have HDL0 : Hid (Dealt st0) := Lib.hid (by rw [← hst0]; exact Dealt.out gs Dealt.zero)
    have hnx0 : Hid (st0.1 ≤ 256) := Lib.hid (by
      rw [← hst0, out_next gs stZ fun k hk => Nat.le_trans (wF_le HMAY.out (hlt k hk)) (by decide)]
      exact Nat.le_trans (Nat.le_of_eq (Nat.zero_add _)) (Nat.le_trans (sum_le hnod hlt) (may_iff.1 HMAY.out).2.2.1))
    rw [hfl] at hlt hnod hlf hmp
    rw [hfn] at hlf hmp
    rw [hst0] at hgr ⊢
    rw [hgi] at hm hgrp ⊢
    have HM := Lib.hid hm; have HLF := Lib.hid hlf; have HGRP := Lib.hid hgrp; have HLT := Lib.hid hlt; have HNOD := Lib.hid hnod; have HB := Lib.hid hb; have HGR := Lib.hid hgr; have HMP := Lib.hid hmp; have HGB := Lib.hid hgbk; have HGI := Lib.hid hgi; have HFL := Lib.hid hfl; have HFN := Lib.hid hfn; have HST0 := Lib.hid hst0
    clear hm hlf hgrp hlt hnod hb hgr hmp hgbk hgi hfl hfn hst0 HG4 HM4 HB4 HK4
    obtain ⟨wr1, hren⟩ : ∃ x, x = wr := ⟨_, rfl⟩
    subst hren
    by_cases hi : gi < G
    · obtain ⟨x, hx⟩ : ∃ x, P[gi]? = some x := ⟨_, List.getElem?_eq_getElem (by rw [← HP.out, HG.out]; exact hi)⟩
      have k0 := strV_cell HGB.out hx
      have hgbl := HGB.out.lt
      have hxs := HPLE.out x (List.mem_of_getElem? hx)
      have HERE : Hid ((groupsT s.data.toList)[gi]? = some ((pcs 42 x).map fun y => y.data.toList)) := Lib.hid (groups_at HD0.out (by rw [HP.out]; exact hx))
      obtain ⟨m1, hm1⟩ := HML.out.below (HB1.out.trans (HB.out.mono HB1.out.size))
      have HSP := Lib.hid (Tryz.strings_Split x ⟨#[42]⟩ m1 wr1 (by omega) hm1 (by decide))
      obtain ⟨J, hJ⟩ : ∃ J, (pcs 42 x).length = J := ⟨_, rfl⟩
      have hJ2 : Lib.countB x ⟨#[42]⟩ + 1 = J := (pcs_len 42 x).symm.trans hJ
      have hJ1 : 1 ≤ J := by omega
      rw [hJ2] at HSP
      obtain ⟨Q, hQ⟩ : ∃ Q, pcs 42 x = Q := ⟨_, rfl⟩
      rw [hQ] at HERE hJ
      obtain ⟨nb, hnb⟩ : ∃ nb, wr1.heap.size = nb := ⟨_, rfl⟩
      have HJ := Lib.hid hJ; have HQ := Lib.hid hQ; have HNB := Lib.hid hnb
      clear hx hm1 hJ hJ2 hQ hnb
      go_wp2_with fail
      refine HSP.out.mono ?_
      rintro e w5 ⟨rfl, hw5⟩
      have hb5 : Below wr1.heap.size wr1 w5 := by rw [hw5]; exact (Below.refl _ _).alloc (Nat.le_refl _) _
      have HB5 := Lib.hid (HB.out.trans (hb5.mono HB.out.size)); have HGR5 := Lib.hid (HGR.out.below hb5); have HMP5 := Lib.hid (HMP.out.below hb5); have HGB5 := Lib.hid (HGB.out.below hb5 HGB.out.lt)
      have HNK5 : Hid (Blk w5 nb 9 (strV Q)) := Lib.hid (by rw [hw5, ← HNB.out, ← HQ.out]; exact Blk.new_ _ _ _)
      rw [HNB.out]
      clear hw5 hb5 HSP k0 hgbl
      go_wp2_with fail
      go_loopg [10, 16, 53] J (fun mm x10 u x53 wr2 => ∃ (lst : List Nat) (lf2 : Nat), mm + lst.length = J ∧ lf2 + (fn + lst.length) = N ∧ x10 = .int .i64 (lf2 : Int) ∧ x53 = .int .i64 (lst.length : Int) ∧ (Q.map fun y => y.data.toList).take lst.length = lst.map (nm doms) ∧ (∀ k ∈ fl ++ lst, k < doms.length) ∧ (fl ++ lst).Nodup ∧
        OM am w5.heap.size w5 wr2 ∧ Below w1.heap.size w1 wr2 ∧ wr2.ownsRow w5.heap.size 3 1 u lst.length (iV lst) ∧ MapAt wr2 Tryz.prog 3 am (fn + lst.length) (setM fun k => decide (k ∈ fl ++ lst)))
      case atStart => exact ⟨[], lf, by simp, by have := HLF.out; simp; omega, rfl, rfl, by simp, by simpa using HLT.out, by simpa using HNOD.out, Only.refl _ _, HB5.out, World.ownsRow_nil _ _ _ _, by simpa using HMP5.out⟩
      case round =>
        obtain ⟨lst, lf2, hm, hlf, rfl, rfl, hpre, hlt2, hnod2, hom, hb2, hrow, hmp2⟩ := hrel
        obtain ⟨j, hj⟩ : ∃ j, lst.length = j := ⟨_, rfl⟩
        rw [hj] at hm hlf hpre hrow hmp2 ⊢
        have HM2 := Lib.hid hm; have HLF2 := Lib.hid hlf; have HPRE := Lib.hid hpre; have HLT2 := Lib.hid hlt2; have HNOD2 := Lib.hid hnod2; have HOM := Lib.hid hom; have HB2 := Lib.hid hb2; have HROW2 := Lib.hid hrow; have HMP2 := Lib.hid hmp2; have HJL := Lib.hid hj
        have hj40 : fn + j ≤ 40 := by omega
        clear hm hlf hpre hlt2 hnod2 hom hb2 hrow hmp2 hj
        obtain ⟨wr2, hren⟩ : ∃ x, x = wr := ⟨_, rfl⟩
        subst hren
        obtain ⟨mes, mcc, hmb5⟩ := HMP5.out.block
        have HMB5 := Lib.hid hmb5
        have HNK2 : Hid (Blk wr2 nb 9 (strV Q)) := Lib.hid (HNK5.out.om HOM.out hmb5 HNK5.out.lt)
        have HGB2 : Hid (Blk wr2 gb 9 (strV P)) := Lib.hid (HGB5.out.om HOM.out hmb5 HGB5.out.lt)
        have HGR2 := Lib.hid (HGR5.out.om HOM.out hmb5 (Nat.le_refl _))
        clear hmb5
        have HRD : Hid (Rd doms s.data.toList gs (Q.map fun y => y.data.toList) lst) := Lib.hid ⟨by rw [HGI.out]; exact HGRP.out, by rw [HGI.out]; exact HERE.out, by rw [HJL.out]; exact HPRE.out, by rw [HFL.out]; exact HLT2.out, by rw [HFL.out]; exact HNOD2.out⟩
        have NO : ∀ W', Below w1.heap.size w1 W' → (∀ gs', ¬ OrderIs doms s.data.toList gs') → PlacePost doms s w (.returned (.tuple #[.slice none 0 0, .int .i64 70])) W' := fun W' hb h => ⟨HB1.out.trans (hb.mono HB1.out.size), .inr (.inl ⟨HMAY.out, h, rfl⟩)⟩
        have HNO := Lib.hid NO
        clear NO
        by_cases hjJ : j < J
        · obtain ⟨y, hy⟩ : ∃ y, Q[j]? = some y := ⟨_, List.getElem?_eq_getElem (by rw [HJ.out]; exact hjJ)⟩
          have k2 := strV_cell HNK2.out hy
          have hnbl := HNK2.out.lt
          have HY := Lib.hid hy
          obtain ⟨sb, hsb⟩ : ∃ sb, wr2.heap.size = sb := ⟨_, rfl⟩
          obtain ⟨w6, hw6⟩ : ∃ w6, w6 = wr2.alloc (.cells #[.string y] 9) := ⟨_, rfl⟩
          have hb6 : Below wr2.heap.size wr2 w6 := by rw [hw6]; exact (Below.refl _ _).alloc (Nat.le_refl _) _
          have hk6 : Blk w6 sb 9 #[.string y] := by rw [hw6, ← hsb]; exact Blk.new_ _ _ _
          have HB6 := Lib.hid (HB2.out.trans (hb6.mono HB2.out.size)); have HOM6 := Lib.hid (HOM.out.trans (OM.of_below hb6)); have HROW6 := Lib.hid (own_below HROW2.out hb6); have HMP6 := Lib.hid (HMP2.out.below hb6)
          have HIX := Lib.hid (index_ok w6 a doms c (by rw [HN.out]; exact hl) (HC.out.below (HB1.out.trans (HB6.out.mono HB1.out.size))) y sb (hk6.cell 0) hk6.lt)
          rw [HN.out] at HIX
          have HW6 := Lib.hid hw6; have HSB := Lib.hid hsb
          clear hy hb6 hk6 hw6 hsb HB2 HOM HROW2 HMP2
          go_upto_region 18 with (fail)
          rw [HSB.out]
          rw [← HW6.out]
          go_wp2_with fail
          refine HIX.out.mono ?_
          rintro e w7 ⟨hb7, h⟩
          have HB7 := Lib.hid (HB6.out.trans (hb7.mono HB6.out.size)); have HOM7 := Lib.hid (HOM6.out.trans (OM.of_below hb7)); have HROW7 := Lib.hid (own_below HROW6.out hb7); have HMP7 := Lib.hid (HMP6.out.below hb7)
          clear hb7 k2 HB6 HOM6 HROW6 HMP6 HIX
          rcases h with ⟨k, hk, hkn, rfl⟩ | ⟨hno, rfl⟩
          · have hk40 : k < 40 := by rw [HN.out] at hk; omega
            have HKN : Hid (nm doms k = y.data.toList) := Lib.hid (by unfold nm; rw [hkn])
            have HKL := Lib.hid hk
            obtain ⟨sd, hsd⟩ : ∃ sd, decide (k ∈ fl ++ lst) = sd := ⟨_, rfl⟩
            have HKI : Hid (keyOf Tryz.prog 3 (.int .i64 (k : Int)) = some (.int .i64 (k : Int))) := Lib.hid (keyI k (by omega))
            have hrl := run_mlook 106 4 (Maps.int_keyed Tryz.underlying3) Tryz.underlying106 (zeroB _) HMP7.out _ _ HKI.out
            have hat : atF (setM fun k => decide (k ∈ fl ++ lst)) (.int .i64 (k : Int)) (.bool false) = .bool sd := by
              unfold atF
              rw [setM_at, hsd]
              cases sd <;> rfl
            rw [hat] at hrl
            have HQJ : Hid ((Q.map fun y => y.data.toList)[lst.length]? = some (nm doms k)) := Lib.hid (by rw [HJL.out, List.getElem?_map, HY.out, HKN.out]; rfl)
            clear hat hk hkn
            cases sd with
            | true =>
              have HIN := Lib.hid (of_decide_eq_true hsd)
              clear hsd
              go_wp2_with fail
              go_ret2
              exact HNO.out _ HB7.out (HRD.out.twice HMAY.out HKL.out HQJ.out (by rw [HFL.out]; exact HIN.out))
            | false =>
              have HIN := Lib.hid (of_decide_eq_false hsd)
              clear hsd
              have HCN : Hid ((if (setM (fun k => decide (k ∈ fl ++ lst)) (.int .i64 (k : Int))).isSome then fn + j else fn + j + 1) = fn + (j + 1)) := Lib.hid (by
                rw [setM_at, decide_eq_false HIN.out]; rfl)
              have hfm : fn + j < maxLen := by unfold maxLen; omega
              obtain ⟨lf3, hlf3⟩ : ∃ lf3, lf3 + 1 = lf2 := ⟨lf2 - 1, by
                have h1 := HLF2.out
                have h2 := nodup_len (l := fl ++ lst ++ [k]) (n := doms.length) (by
                  rw [List.nodup_append]
                  exact ⟨HNOD2.out, by simp, fun a ha b hb => by rw [List.mem_singleton.1 hb]; rintro rfl; exact HIN.out ha⟩) (fun q hq => by
                  rcases List.mem_append.1 hq with hq | hq
                  · exact HLT2.out q hq
                  · rw [List.mem_singleton.1 hq]; exact HKL.out)
                rw [List.length_append, List.length_append, HFN.out, HJL.out, HN.out] at h2
                simp at h2
                omega⟩
              have hlfi : (lf2 : Int) - 1 = (lf3 : Int) := by omega
              have hlf40 : lf3 ≤ 40 := by have := HLF2.out; omega
              have HLF3 := Lib.hid hlf3
              have HPN : Hid ((Q.map fun y => y.data.toList).take (j + 1) = (lst ++ [k]).map (nm doms)) := Lib.hid (by
                have h := HQJ.out
                rw [HJL.out] at h
                rw [List.take_add_one, HPRE.out, h, List.map_append]; rfl)
              have HLTN : Hid (∀ q ∈ fl ++ (lst ++ [k]), q < doms.length) := Lib.hid (fun q hq => by
                rw [← List.append_assoc] at hq
                rcases List.mem_append.1 hq with hq | hq
                · exact HLT2.out q hq
                · rw [List.mem_singleton.1 hq]; exact HKL.out)
              have HNDN : Hid ((fl ++ (lst ++ [k])).Nodup) := Lib.hid (by
                rw [← List.append_assoc, List.nodup_append]
                exact ⟨HNOD2.out, by simp, fun a ha b hb => by rw [List.mem_singleton.1 hb]; rintro rfl; exact HIN.out ha⟩)
              obtain ⟨sf, hsf⟩ : ∃ sf : Nat → Bool, (fun k => decide (k ∈ fl ++ lst)) = sf := ⟨_, rfl⟩
              rw [hsf] at HMP7 HCN
              have HSF := Lib.hid hsf
              clear hlf3 hsf
              go_wp2_with (at_mapUpdate; refine wpList_msetn rfl (.tmp 67) (.tmp 68) (.const (.bool true)) 106 rfl 4 (Maps.int_keyed Tryz.underlying3) Tryz.underlying106 rfl HMP7.out hfm _ _ _ rfl rfl HKI.out _ HCN.out ?_)
              intro w8 hm8 hg8
              have HMP8 : Hid (MapAt w8 Tryz.prog 3 am (fn + (j + 1)) (setM fun q => decide (q ∈ fl ++ (lst ++ [k])))) := Lib.hid (by rw [← List.append_assoc, ← setM_snoc, HSF.out]; exact hm8)
              have HB8 := Lib.hid (HB7.out.grown hg8 HB7.out.size (fun j e => by injection e with e; have := HAM.out; omega))
              have HOM8 := Lib.hid (HOM7.out.trans (OM.map hg8))
              have HROW8 := Lib.hid (own_kb HROW7.out (HMP7.out.kb hg8 (fun _ => false)) rfl)
              have hs8 := HB8.out.size; have hs58 := HOM8.out.size
              clear hm8 hg8 hrl HB7 HOM7 HROW7 HMP7
              go_wp2_with (at_builtin; refine wpList_append_sep rfl (.tmp 69) (.tmp 71) 45 rfl w5.heap.size 3 l0 (.int .i64 0) 1 8 Tryz.underlying45 hl0 lz0 lz1 lz2 rfl (by decide) u16 j _ rfl (HROW8.out.alloc _) w8.heap.size 0 1 1 [.int .i64 (k : Int)] rfl rfl (lit_one _ _ _) (ones_int _) (by unfold maxLen; omega) (by omega) (by simp; omega) ?_)
              intro y9 w9 hown9 hg9 hsep9
              have hal : Below w8.heap.size w8 (w8.alloc (.cells #[.int .i64 (k : Int)] 3)) := (Below.refl _ _).alloc (Nat.le_refl _) _
              have HROW9 : Hid (w9.ownsRow w5.heap.size 3 1 y9 (lst ++ [k]).length (iV (lst ++ [k]))) := Lib.hid (by
                rw [iV_app, List.length_append, HJL.out]; exact hown9)
              have HMP9 : Hid (MapAt w9 Tryz.prog 3 am (fn + (j + 1)) (setM fun q => decide (q ∈ fl ++ (lst ++ [k])))) := Lib.hid (by
                have h := HMP8.out.below hal
                obtain ⟨es, cc, hbk⟩ := h.block
                exact h.grown hg9 (own_not_map (HROW8.out.alloc _) hbk).symm)
              have HOM9 := Lib.hid ((HOM8.out.trans (OM.of_below hal)).trans (OM.row (HROW8.out.alloc _) hg9))
              have HB9 : Hid (Below w1.heap.size w1 w9) := Lib.hid ((HB8.out.trans (hal.mono HB8.out.size)).grown hg9 (by simp; omega) (fun q hq => by
                have h1 := (HROW8.out.lt q hq).1
                have h2 := HB5.out.size
                omega))
              clear hown9 hg9 hsep9 hal
              go_wp2_with fail
              go_roundg (J - (j + 1))
              case measure => have := HM2.out; omega
              case rel => exact ⟨lst ++ [k], lf3, by have := HM2.out; have := HJL.out; simp; omega, by have := HLF2.out; have := HLF3.out; have := HJL.out; simp; omega, by go_num, by rw [List.length_append, HJL.out]; go_num, by rw [List.length_append, HJL.out]; exact HPN.out, HLTN.out, HNDN.out, HOM9.out, HB9.out, HROW9.out, by rw [List.length_append, HJL.out]; exact HMP9.out⟩
          · have HNOO : Hid (∀ q, q < doms.length → nm doms q ≠ y.data.toList) := Lib.hid (fun q hq e => hno q hq (ByteArray.ext (Array.toList_inj.1 e)))
            clear hno
            go_wp2_with fail
            go_ret2
            exact HNO.out _ HB7.out (HRD.out.gone HMAY.out (x := y.data.toList) (by rw [HJL.out, List.getElem?_map, HY.out]; rfl) HNOO.out)
        · have hjJ2 : j = J := by have := HM2.out; omega
          subst hjJ2
          obtain ⟨lb, lc, rfl, hlb⟩ := own_cellsL HROW2.out hJ1
          have hpf : (Q.map fun y => y.data.toList) = lst.map (nm doms) := by
            have h := HPRE.out
            rw [List.take_of_length_le (by rw [List.length_map, HJ.out]; exact Nat.le_refl _)] at h
            exact h
          have HPF := Lib.hid hpf
          have HLV : Hid (LvY w1 w5.heap.size ob am gb lb j lc N (strV P) lst (fl ++ lst) st0.2 sl wr2) := Lib.hid ⟨HB2.out, HGR2.out, fun a ha e => by
            have := ((HGR5.out.row a ha).lt lb e).2
            omega, HROW2.out, by rw [List.length_append, HFN.out, HJL.out]; exact HMP2.out, HGB2.out⟩
          clear hpf HB2 HOM HROW2 HMP2 HNK2 HGB2 HGR2 HNO HRD
          go_wp2_with fail
          go_loopg [11, 20, 21] 40 (fun mm x11 x20 x21 wr3 => ∃ (L : Nat) (more : Bool) (sl3 : Nat → Value), mm + L = 40 ∧ L ≤ 31 ∧ x11 = .int .i64 ((grpS (wF doms) lst L st0).1 : Int) ∧ x20 = .int .i64 (L : Int) ∧ x21 = .bool more ∧ (more = true → L ≤ 30) ∧ (more = false → ∀ k ∈ lst, wF doms k ≤ L) ∧ LvY w1 w5.heap.size ob am gb lb j lc N (strV P) lst (fl ++ lst) (grpS (wF doms) lst L st0).2 sl3 wr3)
          case atStart => exact ⟨0, true, sl, rfl, Nat.zero_le _, rfl, rfl, rfl, (fun _ => Nat.zero_le _), (fun h => absurd h (by decide)), HLV.out⟩
          case round =>
            obtain ⟨L, more, sl3, hm3, hL, rfl, rfl, rfl, hmt, hmff, hlv⟩ := hrel
            obtain ⟨stL, hstL⟩ : ∃ stL, grpS (wF doms) lst L st0 = stL := ⟨_, rfl⟩
            have HDL : Hid (Dealt stL) := Lib.hid (by rw [← hstL]; exact HDL0.out.grp L)
            have hnxL : stL.1 ≤ 1496 := by
              have h1 := grp_next (w := wF doms) lst st0 L
              have h2 := sum_min_le (wF doms) L lst
              have h3 := hnx0.out
              rw [hstL] at h1
              rw [HJL.out] at h2
              have h4 : L * j ≤ 31 * 40 := Nat.mul_le_mul hL (by omega)
              omega
            rw [hstL] at hlv ⊢
            have HM3 := Lib.hid hm3; have HMT := Lib.hid hmt; have HMFF := Lib.hid hmff; have HLV3 := Lib.hid hlv; have HSTL := Lib.hid hstL
            clear hm3 hmt hmff hlv hstL HLV
            obtain ⟨wr3, hren⟩ : ∃ x, x = wr := ⟨_, rfl⟩
            subst hren
            cases more with
            | false =>
              have hall := HMFF.out rfl
              have hfin : grpS (wF doms) lst 31 st0 = stL := by
                have h := grpS_idle (w := wF doms) st0 hall (31 - L)
                rw [show L + (31 - L) = 31 by omega, HSTL.out] at h
                exact h
              have HOUT : Hid (outS (wF doms) 31 (gs ++ [lst]) stZ = stL) := Lib.hid (by
                unfold outS
                rw [List.foldl_append]
                show grpS (wF doms) lst 31 (outS (wF doms) 31 gs stZ) = _
                rw [HST0.out]; exact hfin)
              have HFLN : Hid ((gs ++ [lst]).flatten = fl ++ lst) := Lib.hid (by rw [List.flatten_append, HFL.out]; simp)
              have HLEN : Hid ((gs ++ [lst]).length = gi + 1) := Lib.hid (by rw [List.length_append, HGI.out]; rfl)
              have HGRN : Hid ((groupsT s.data.toList).take (gi + 1) = (gs ++ [lst]).map fun g => g.map (nm doms)) := Lib.hid (by
                rw [List.take_add_one, HGRP.out, HERE.out, List.map_append, HPF.out]; rfl)
              clear hall hfin
              go_wp2_with fail
              go_roundg (G - (gi + 1))
              case measure => have := HM.out; omega
              case rel => exact ⟨gs ++ [lst], lf2, sl3, by rw [HLEN.out]; have := HM.out; omega, by rw [HFLN.out, List.length_append, HFN.out, HJL.out]; have := HLF2.out; omega, rfl, by rw [HOUT.out], by rw [HLEN.out]; go_num, by rw [HLEN.out]; exact HGRN.out, by rw [HFLN.out]; exact HLT2.out, by rw [HFLN.out]; exact HNOD2.out, HLV3.out.bel, by rw [HOUT.out]; exact HLV3.out.gr, by rw [HFLN.out]; exact HLV3.out.mp, HLV3.out.gb⟩
            | true =>
              have hL30 : L ≤ 30 := HMT.out rfl
              go_wp2_with fail
              go_loopg [11, 21, 81] j (fun mm x11 x21 x81 wr4 => ∃ (q : Nat) (sl4 : Nat → Value), mm + q = j ∧ x11 = .int .i64 ((levS (wF doms) (lst.take q) L stL).1 : Int) ∧ x21 = .bool ((lst.take q).any fun k => decide (L < wF doms k)) ∧ x81 = .int .i64 (q : Int) ∧ LvY w1 w5.heap.size ob am gb lb j lc N (strV P) lst (fl ++ lst) (levS (wF doms) (lst.take q) L stL).2 sl4 wr4)
              case atStart => exact ⟨0, sl3, by omega, rfl, rfl, rfl, HLV3.out⟩
              case round =>
                obtain ⟨q, sl4, hm4, rfl, rfl, rfl, hlv4⟩ := hrel
                obtain ⟨stq, hstq⟩ : ∃ stq, levS (wF doms) (lst.take q) L stL = stq := ⟨_, rfl⟩
                obtain ⟨av, hav⟩ : ∃ av, ((lst.take q).any fun k => decide (L < wF doms k)) = av := ⟨_, rfl⟩
                have HDQ : Hid (Dealt stq) := Lib.hid (by rw [← hstq]; exact Dealt.lev _ HDL.out)
                have hnxq : stq.1 ≤ 1536 := by
                  have h1 := lev_next (w := wF doms) (L := L) (lst.take q) stL
                  have h2 := levN_le (wF doms) (lst.take q) L
                  rw [hstq] at h1
                  rw [List.length_take] at h2
                  omega
                rw [hstq] at hlv4 ⊢
                rw [hav]
                have HM4 := Lib.hid hm4; have HLV4 := Lib.hid hlv4; have HSTQ := Lib.hid hstq; have HAV := Lib.hid hav
                clear hm4 hlv4 hstq hav
                obtain ⟨wr4, hren⟩ : ∃ x, x = wr := ⟨_, rfl⟩
                subst hren
                by_cases hq : q < j
                · obtain ⟨k, hk⟩ : ∃ k, lst[q]? = some k := ⟨_, List.getElem?_eq_getElem (by rw [HJL.out]; exact hq)⟩
                  have hkN : k < N := by
                    have := HLT2.out k (List.mem_append_right _ (List.mem_of_getElem? hk))
                    rw [HN.out] at this; exact this
                  obtain ⟨oa, cap, e, _, _, hlc⟩ := Cells.of_own HLV4.out.l
                  injection e with e1 e2 e3
                  subst e1 e3
                  obtain ⟨b1, o1, e, hb1, kl⟩ := hlc.at_ (k := q) (v := .int .i64 (k : Int)) (by unfold iV; rw [List.getElem?_map, hk]; rfl)
                  injection e with e
                  injection e with e1 e2 _
                  subst e1 e2
                  rw [Nat.zero_add] at kl
                  obtain ⟨wk, hwk⟩ : ∃ wk, wF doms k = wk := ⟨_, rfl⟩
                  have hcw := (HWC.out.below HLV4.out.bel).at_ (k := k) (v := .int .i64 (wk : Int)) (by
                    unfold iV
                    rw [List.getElem?_map, List.getElem?_map, at_get (by rw [HN.out]; exact hkN), ← hwk]; rfl)
                  obtain ⟨b2, o2, rfl, hb2', kw⟩ := hcw
                  have HLK := Lib.hid hk; have HWK := Lib.hid hwk
                  have hlt : (lst.take (q + 1)).any (fun k => decide (L < wF doms k)) = (av || decide (L < wk)) := by
                    rw [List.take_add_one, hk, List.any_append, HAV.out]
                    show (av || (decide (L < wF doms k) || false)) = _
                    rw [hwk, Bool.or_false]
                  have HAN := Lib.hid hlt
                  have hst1 : levS (wF doms) (lst.take (q + 1)) L stL = put1 (wF doms) L stq k := by rw [levS_take hk, HSTQ.out]
                  have HST1 := Lib.hid hst1
                  clear hk hwk hlc hlt hst1
                  by_cases hLw : L < wk
                  · have HRK := Lib.hid (HLV4.out.gr.row k hkN)
                    obtain ⟨na, hna⟩ : ∃ na, (stq.2 k).length = na := ⟨_, rfl⟩
                    rw [hna] at HRK
                    have hna2 : na ≤ 1536 := by rw [← hna]; exact Nat.le_trans (HDQ.out.len k) hnxq
                    have HNA := Lib.hid hna
                    have HPUT : Hid (put1 (wF doms) L stq k = (stq.1 + 1, fup stq.2 k (stq.2 k ++ [stq.1]))) := Lib.hid (put1_yes (by rw [HWK.out]; exact hLw))
                    rw [decide_eq_true hLw, Bool.or_true] at HAN
                    have kob : wr4.cell? ⟨ob, k, none⟩ = some (sl4 k) := by rw [HLV4.out.gr.blk.cell]; exact tabV_get _ hkN
                    have hobl := HLV4.out.gr.blk.lt
                    obtain ⟨nx, hnx⟩ : ∃ nx, stq.1 = nx := ⟨_, rfl⟩
                    rw [hnx] at hnxq ⊢
                    have HNX := Lib.hid hnx
                    have hs4 := HLV4.out.bel.size
                    clear hna hnx
                    go_wp2_with (at_builtin; refine wpList_append_sep rfl (.tmp 96) (.tmp 98) 45 rfl w1.heap.size 3 l0 (.int .i64 0) 1 8 Tryz.underlying45 hl0 lz0 lz1 lz2 rfl (by decide) (sl4 k) na _ rfl (HRK.out.alloc _) wr4.heap.size 0 1 1 [.int .i64 (nx : Int)] rfl rfl (lit_one _ _ _) (ones_int _) (by unfold maxLen; omega) (by omega) (by simp; omega) ?_)
                    intro v6 w6 hown6 hg6 hs6
                    obtain ⟨va, vc, rfl⟩ := own_shape hown6
                    have hal : Below wr4.heap.size wr4 (wr4.alloc (.cells #[.int .i64 (nx : Int)] 3)) := (Below.refl _ _).alloc (Nat.le_refl _) _
                    have HLA := Lib.hid (HLV4.out.below hal)
                    have hrowA := HLA.out.gr.row k hkN
                    rw [HNA.out] at hrowA
                    have hbk6 : Blk w6 ob 45 (tabV N sl4) := HLA.out.gr.blk.grown hg6 (own_ne_blk hrowA HLA.out.gr.blk (by decide))
                    have k6 : w6.cell? ⟨ob, k, none⟩ = some (sl4 k) := by rw [hbk6.cell]; exact tabV_get _ hkN
                    have f6 : w6.frozen? ⟨ob, k, none⟩ = false := hbk6.frozen k
                    have HLN : Hid (LvY w1 w5.heap.size ob am gb lb j lc N (strV P) lst (fl ++ lst) (fup stq.2 k (stq.2 k ++ [nx])) (fup sl4 k (.slice va (na + 1) vc)) (w6.setCell ⟨ob, k, none⟩ (.slice va (na + 1) vc))) := Lib.hid (HLA.out.put hkN HNA.out hown6 hg6 (by rw [World.size_alloc]; exact hs6))
                    clear hown6 hg6 hs6 hal hrowA hbk6
                    go_wp2_with fail
                    go_roundg (j - (q + 1))
                    case measure => have := HM4.out; omega
                    case rel => exact ⟨q + 1, fup sl4 k (.slice va (na + 1) vc), by have := HM4.out; omega, by rw [HST1.out, HPUT.out, HNX.out]; go_num, by rw [HAN.out], by go_num, by rw [HST1.out, HPUT.out, HNX.out]; exact HLN.out⟩
                  · have HPUT : Hid (put1 (wF doms) L stq k = stq) := Lib.hid (put1_no (by rw [HWK.out]; exact hLw))
                    rw [decide_eq_false hLw, Bool.or_false] at HAN
                    go_wp2_with fail
                    go_roundg (j - (q + 1))
                    case measure => have := HM4.out; omega
                    case rel => exact ⟨q + 1, sl4, by have := HM4.out; omega, by rw [HST1.out, HPUT.out], by rw [HAN.out], by go_num, by rw [HST1.out, HPUT.out]; exact HLV4.out⟩
                · have hqj : q = j := by have := HM4.out; omega
                  subst hqj
                  have htk : lst.take q = lst := List.take_of_length_le (by rw [HJL.out]; exact Nat.le_refl _)
                  have HST2 : Hid (grpS (wF doms) lst (L + 1) st0 = stq) := Lib.hid (by rw [grpS_succ, HSTL.out, ← HSTQ.out, htk])
                  have HAL : Hid (lst.any (fun k => decide (L < wF doms k)) = av) := Lib.hid (by rw [← HAV.out, htk])
                  have H1 : Hid (av = true → L + 1 ≤ 30) := Lib.hid (fun h => by
                    have h2 := HAL.out
                    rw [h, List.any_eq_true] at h2
                    obtain ⟨k, hk, hd⟩ := h2
                    have h3 := of_decide_eq_true hd
                    have h4 := wF_le HMAY.out (HLT2.out k (List.mem_append_right _ hk))
                    omega)
                  have H2 : Hid (av = false → ∀ k ∈ lst, wF doms k ≤ L + 1) := Lib.hid (fun h k hk => by
                    have h2 := HAL.out
                    rw [h, List.any_eq_false] at h2
                    have h3 := h2 k hk
                    simp at h3
                    omega)
                  clear htk
                  go_wp2_with fail
                  go_roundg (40 - (L + 1))
                  case measure => have := HM3.out; omega
                  case rel => exact ⟨L + 1, av, sl4, by have := HM3.out; omega, by omega, by rw [HST2.out], by go_num, rfl, H1.out, H2.out, by rw [HST2.out]; exact HLV4.out⟩
    · have hiG : gi = G := by have := HM.out; omega
      subst hiG
      have HGS : Hid (groupsT s.data.toList = gs.map fun g => g.map (nm doms)) := Lib.hid (by
        have h := HGRP.out
        rw [List.take_of_length_le (by rw [hGL.out]; exact Nat.le_refl _)] at h
        exact h)
      have hlfN : lf + fn = N := HLF.out
      by_cases hl0 : lf = 0
      · subst hl0
        have HOR : Hid (OrderIs doms s.data.toList gs) := Lib.hid (read_all HGS.out (by rw [HFL.out]; exact HLT.out) (by rw [HFL.out]; exact HNOD.out) (by rw [HFL.out, HFN.out, HN.out]; omega))
        clear hlfN
        go_wp2_with fail
        go_loopg [109] N (fun mm x wr5 => ∃ i : Nat, mm + i = N ∧ x = .int .i64 (i : Int) ∧ Below w1.heap.size w1 wr5 ∧ GrM wr5 w1.heap.size ob N (fun k => if k < i then (st0.2 k).reverse else st0.2 k) sl)
        case atStart => exact ⟨0, by omega, rfl, HB.out, by simpa using HGR.out⟩
        case round =>
          obtain ⟨i, hm5, rfl, hb5, hgr5⟩ := hrel
          have HM5 := Lib.hid hm5; have HB5 := Lib.hid hb5; have HGR5 := Lib.hid hgr5
          clear hm5 hb5 hgr5
          by_cases hi5 : i < N
          · have kob : wr.cell? ⟨ob, i, none⟩ = some (sl i) := by rw [HGR5.out.blk.cell]; exact tabV_get _ hi5
            have hobl := HGR5.out.blk.lt
            have hrow := HGR5.out.row i hi5
            rw [if_neg (Nat.lt_irrefl i)] at hrow
            have HRV := Lib.hid (reverse_own wr w1.heap.size (sl i) (st0.2 i) (by have := HDL0.out.len i; have := hnx0.out; omega) hrow)
            have HRW := Lib.hid hrow
            clear hrow
            go_wp2_with fail
            refine HRV.out.mono ?_
            rintro e w6 ⟨rfl, hrow6, hon6⟩
            have HB6 : Hid (Below w1.heap.size w1 w6) := Lib.hid (HB5.out.trans (Only.below hon6 (fun k hk _ he => by have := (HRW.out.lt k he).1; omega) HB5.out.size))
            have HGR6 : Hid (GrM w6 w1.heap.size ob N (fun k => if k < i + 1 then (st0.2 k).reverse else st0.2 k) sl) := Lib.hid (by
              have h := HGR5.out.turn hi5 (by rw [if_neg (Nat.lt_irrefl i)]; exact hrow6) hon6
              have e : fup (fun k => if k < i then (st0.2 k).reverse else st0.2 k) i (if i < i then (st0.2 i).reverse else st0.2 i).reverse = fun k => if k < i + 1 then (st0.2 k).reverse else st0.2 k := by
                funext k
                unfold fup
                rw [if_neg (Nat.lt_irrefl i)]
                by_cases e : k = i
                · subst e; rw [if_pos rfl, if_pos (by omega)]
                · rw [if_neg e]
                  show (if k < i then (st0.2 k).reverse else st0.2 k) = _
                  by_cases h2 : k < i
                  · rw [if_pos h2, if_pos (by omega)]
                  · rw [if_neg h2, if_neg (by omega)]
              rw [e] at h
              exact h)
            clear hrow6 hon6 HRV kob hobl
            go_wp2_with fail
            go_roundg (N - (i + 1))
            case measure => have := HM5.out; omega
            case rel => exact ⟨i + 1, by have := HM5.out; omega, by go_num, HB6.out, HGR6.out⟩
          · have hiN : i = N := by have := HM5.out; omega
            subst hiN
            go_wp2_with fail
            go_ret2
            refine ⟨HB1.out.trans (HB5.out.mono HB1.out.size), .inr (.inr ⟨HMAY.out, gs, ob, HOR.out, by rw [HN.out]; rfl, ?_⟩)⟩
            intro _
            have h := HGR5.out.rowsAt
            rw [HN.out]
            have e : ((List.range i).map fun k => zN (rowP doms gs k)) = (List.range i).map fun k => zN (if k < i then (st0.2 k).reverse else st0.2 k) := List.map_congr_left fun k hk => by
              rw [if_pos (List.mem_range.1 hk)]
              unfold rowP
              rw [HST0.out]
            rw [e]; exact h
      · have HNO : Hid (∀ gs', ¬ OrderIs doms s.data.toList gs') := Lib.hid (fun gs' => read_few HMAY.out HGS.out (by rw [HFL.out]; exact HLT.out) (by rw [HFL.out, HFN.out, HN.out]; omega))
        have hl1 : 0 < lf := by omega
        clear hl0 hlfN
        go_wp2_with fail
        go_ret2
        exact ⟨HB1.out.trans (HB.out.mono HB1.out.size), .inr (.inl ⟨HMAY.out, HNO.out, rfl⟩)⟩
end Go.Proofs.YtobhjkfkdkiigaaGreatDoor
