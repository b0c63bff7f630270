/- Layer 7 in plain Lean, for LayOnce: bytes of names, orders that are built name by name, what a domain's bits are. -/
import Derived.Test.YtedfakpmdncnmaaDoorLayS
import Derived.Lib.TrimU
import Derived.Lib.TrimUEq
namespace Go.Proofs.YtedfakpmdncnmaaDoor.LY
open Go.Lib
theorem decodeN_hi (n b0 b1 b2 b3 : Nat) (h : 128 ≤ b0) : 128 ≤ (decodeN n b0 b1 b2 b3).1 := by
  unfold decodeN
  repeat' split
  all_goals (simp only; omega)
theorem odd_hi {R : Nat} (h : 128 ≤ R) : oddR R = true := by
  unfold oddR
  rw [decide_eq_true (show 122 < R by omega), decide_eq_true (show 90 < R by omega), decide_eq_true (show 57 < R by omega)]
  simp
theorem none_odd (s : ByteArray) : ∀ (f pos : Nat), idxFuncFrom oddR true s f pos = -1 → s.size ≤ pos + f → ∀ j, pos ≤ j → j < s.size → oddR (s.get! j).toNat = false
  | 0, pos, _, hf, j, h1, h2 => by omega
  | f + 1, pos, h, hf, j, h1, h2 => by
    unfold idxFuncFrom at h
    have hp : pos < s.size := by omega
    rw [if_pos hp] at h
    by_cases ho : oddR (Utf8.decode s pos).1 = true
    · rw [if_pos ho] at h; omega
    · rw [if_neg ho] at h
      have hd := decode_at s pos
      have hb : (s.get! pos).toNat < 128 := by
        rcases Nat.lt_or_ge (s.get! pos).toNat 128 with h3 | h3
        · exact h3
        · exact absurd (odd_hi (by rw [hd]; exact decodeN_hi _ _ _ _ _ h3)) ho
      rw [decodeN_ascii _ _ _ _ _ hb] at hd
      rw [hd] at h ho
      by_cases e : j = pos
      · subst e; simpa using ho
      · exact none_odd s f (pos + 1) h (by omega) j (by omega) h2
theorem name_bytes {s : ByteArray} (h : nameB s = true) : s.data.toList ≠ [] ∧ (95 : UInt8) ∉ s.data.toList ∧ (42 : UInt8) ∉ s.data.toList := by
  unfold nameB at h
  rw [Bool.and_eq_true, Bool.and_eq_true, decide_eq_true_eq, decide_eq_true_eq, decide_eq_true_eq] at h
  obtain ⟨h0, _, h2⟩ := h
  have hix : idxFuncFrom oddR true s s.size 0 = -1 := by
    rcases idxFunc_range oddR true s with h3 | ⟨h3, _⟩
    · exact h3
    · omega
  have hall := none_odd s s.size 0 hix (by omega)
  have key : ∀ c : UInt8, oddR c.toNat = true → c ∉ s.data.toList := fun c hc hm => by
    obtain ⟨j, hj, e⟩ := List.getElem_of_mem hm
    have hjs : j < s.size := by rw [Lib.size_eq]; exact hj
    have := hall j (Nat.zero_le _) hjs
    have e2 : s.get! j = c := by
      rw [← e]
      show s.data[j]! = _
      rw [getElem!_pos s.data j (by simpa using hj)]
      simp
    rw [e2, hc] at this
    cases this
  exact ⟨fun e => h0 (by rw [Lib.size_eq, e]; rfl), key 95 (by decide), key 42 (by decide)⟩
/-! ### an order that is built name by name -/
def oP (f : Nat → Nat) (st : Nat → Bool) : Nat → List (List Nat) × List Nat
  | 0 => ([], [f 0])
  | i + 1 => if st (i + 1) then ((oP f st i).1 ++ [(oP f st i).2], [f (i + 1)]) else ((oP f st i).1, (oP f st i).2 ++ [f (i + 1)])
def oG (f : Nat → Nat) (st : Nat → Bool) (i : Nat) : List (List Nat) := (oP f st i).1 ++ [(oP f st i).2]
theorem oP_ne (f : Nat → Nat) (st : Nat → Bool) : ∀ i, (oP f st i).2 ≠ [] ∧ ∀ g ∈ (oP f st i).1, g ≠ []
  | 0 => ⟨by simp [oP], by simp [oP]⟩
  | i + 1 => by
    obtain ⟨h1, h2⟩ := oP_ne f st i
    unfold oP
    split
    · refine ⟨by simp, fun g hg => ?_⟩
      rcases List.mem_append.1 hg with hg | hg
      · exact h2 g hg
      · rw [List.mem_singleton.1 hg]; exact h1
    · exact ⟨by simp, h2⟩
theorem oG_ne (f : Nat → Nat) (st : Nat → Bool) (i : Nat) : ∀ g ∈ oG f st i, g ≠ [] := fun g hg => by
  obtain ⟨h1, h2⟩ := oP_ne f st i
  rcases List.mem_append.1 hg with hg | hg
  · exact h2 g hg
  · rw [List.mem_singleton.1 hg]; exact h1
theorem oG_flat (f : Nat → Nat) (st : Nat → Bool) : ∀ i, (oG f st i).flatten = (List.range (i + 1)).map f
  | 0 => rfl
  | i + 1 => by
    have ih := oG_flat f st i
    rw [List.range_succ, List.map_append, ← ih]
    unfold oG
    rw [oP]
    split <;> simp
/-- the text of an order so far -/
def oT (nmf : Nat → List UInt8) (f : Nat → Nat) (st : Nat → Bool) (i : Nat) : List UInt8 := orderT ((oG f st i).map fun g => g.map nmf)
theorem oT_zero (nmf : Nat → List UInt8) (f : Nat → Nat) (st : Nat → Bool) : oT nmf f st 0 = nmf (f 0) := rfl
theorem oT_next (nmf : Nat → List UInt8) (f : Nat → Nat) (st : Nat → Bool) (i : Nat) : oT nmf f st (i + 1) = oT nmf f st i ++ (if st (i + 1) then 95 else 42) :: nmf (f (i + 1)) := by
  unfold oT orderT oG
  have hne := (oP_ne f st i).1
  rw [oP]
  by_cases h : st (i + 1) = true
  · rw [if_pos h, if_pos h]
    show joinC 95 (List.map (joinC 42) (List.map _ (((oP f st i).1 ++ [(oP f st i).2]) ++ [[f (i + 1)]]))) = _
    rw [List.map_append, List.map_append]
    exact joinC_snoc (nmf (f (i + 1))) (by simp)
  · rw [if_neg h, if_neg h]
    show joinC 95 (List.map (joinC 42) (List.map _ ((oP f st i).1 ++ [(oP f st i).2 ++ [f (i + 1)]]))) = joinC 95 (List.map (joinC 42) (List.map _ ((oP f st i).1 ++ [(oP f st i).2]))) ++ _
    rw [List.map_append, List.map_append, List.map_append, List.map_append]
    show joinC 95 (_ ++ [joinC 42 (((oP f st i).2 ++ [f (i + 1)]).map nmf)]) = joinC 95 (_ ++ [joinC 42 ((oP f st i).2.map nmf)]) ++ _
    rw [List.map_append]
    show joinC 95 (_ ++ [joinC 42 ((oP f st i).2.map nmf ++ [nmf (f (i + 1))])]) = _
    rw [joinC_snoc (nmf (f (i + 1))) (by simpa using hne), joinC_last]
theorem oT_order {doms : List Dm} (hm : mayB doms = true) {t : Nat} (hn : 0 < doms.length) (ht : t < doms.length) (st : Nat → Bool) : OrderIs doms (oT (nm doms) (sg doms.length t) st (doms.length - 1)) (oG (sg doms.length t) st (doms.length - 1)) := by
  have hfl := oG_flat (sg doms.length t) st (doms.length - 1)
  rw [show doms.length - 1 + 1 = doms.length by omega] at hfl
  have hlt : ∀ k ∈ (oG (sg doms.length t) st (doms.length - 1)).flatten, k < doms.length := fun k hk => by
    rw [hfl] at hk
    obtain ⟨i, hi, rfl⟩ := List.mem_map.1 hk
    exact sg_lt ht (List.mem_range.1 hi)
  refine ⟨?_, hlt, ?_, by rw [hfl]; simp⟩
  · refine groups_order ?_ (fun g hg => ?_) fun g hg x hx => ?_
    · unfold oG; simp
    · obtain ⟨g', hg', rfl⟩ := List.mem_map.1 hg
      simpa using oG_ne _ _ _ g' hg'
    · obtain ⟨g', hg', rfl⟩ := List.mem_map.1 hg
      obtain ⟨k, hk, rfl⟩ := List.mem_map.1 hx
      have hk2 := hlt k (List.mem_flatten.2 ⟨g', hg', hk⟩)
      have hok := (may_iff.1 hm).1 _ (List.mem_of_getElem? (at_get hk2))
      unfold okD at hok
      rw [Bool.and_eq_true, Bool.and_eq_true] at hok
      exact name_bytes hok.2.2
  · rw [hfl]
    exact nodup_on (fun x hx y hy e => by rw [← rh_sg ht (List.mem_range.1 hx), e, rh_sg ht (List.mem_range.1 hy)]) List.nodup_range
/-! ### a domain's bits -/
section
variable {doms : List Dm} {s : List UInt8} {gs : List (List Nat)} (hm : mayB doms = true) (h : OrderIs doms s gs)
include hm h
theorem row_len {k : Nat} (hk : k < doms.length) : (rowP doms gs k).length = wF doms k := by
  unfold rowP
  rw [List.length_reverse, out_own (Nat.le_trans (wF_le hm hk) (by decide)) gs stZ h.nod ?_]
  · exact Nat.zero_add _
  · have hp := nodup_perm h.nod h.lt
    have hf : (List.range doms.length).filter (fun k => decide (k ∈ gs.flatten)) = List.range doms.length := by
      refine List.filter_eq_self.2 fun k hk => ?_
      have hlen : ((List.range doms.length).filter fun k => decide (k ∈ gs.flatten)).length = (List.range doms.length).length := by rw [← hp.length_eq, h.all, List.length_range]
      exact List.length_filter_eq_length_iff.1 hlen k hk
    rw [hf] at hp
    exact hp.mem_iff.2 (List.mem_range.2 hk)
theorem row_lt {k v : Nat} (hv : v ∈ rowP doms gs k) : v < allW doms := by
  have hd : Dealt (outS (wF doms) 31 gs stZ) := Dealt.out gs Dealt.zero
  have h1 := hd.lt k v (List.mem_reverse.1 hv)
  rw [out_next gs stZ fun k hk => Nat.le_trans (wF_le hm (h.lt k hk)) (by decide), sum_all h.nod h.lt h.all] at h1
  exact Nat.lt_of_lt_of_le h1 (Nat.le_of_eq (Nat.zero_add _))
omit hm h in
theorem row_one {j k v : Nat} (hj : v ∈ rowP doms gs j) (hk : v ∈ rowP doms gs k) : j = k :=
  (Dealt.out gs Dealt.zero : Dealt (outS (wF doms) 31 gs stZ)).one j k v (List.mem_reverse.1 hj) (List.mem_reverse.1 hk)
omit hm h in
theorem row_down (k : Nat) : (rowP doms gs k).Pairwise fun a b => b < a := by
  unfold rowP
  rw [List.pairwise_reverse]
  exact (Dealt.out gs Dealt.zero : Dealt (outS (wF doms) 31 gs stZ)).up k
end
/-- which bits are seen: those of the first i domains, and the first j of the next one -/
def seenF (doms : List Dm) (gs : List (List Nat)) (i j v : Nat) : Bool := ((List.range i).any fun k => (rowP doms gs k).contains v) || ((rowP doms gs i).take j).contains v
theorem seen_row (doms : List Dm) (gs : List (List Nat)) (i v : Nat) {n : Nat} (hn : (rowP doms gs i).length = n) : seenF doms gs i n v = seenF doms gs (i + 1) 0 v := by
  unfold seenF
  rw [List.take_of_length_le (Nat.le_of_eq hn), List.range_succ, List.any_append, List.take_zero]
  simp
theorem seen_put {doms : List Dm} {gs : List (List Nat)} {i j v : Nat} (h : (rowP doms gs i)[j]? = some v) (u : Nat) : seenF doms gs i (j + 1) u = if u = v then true else seenF doms gs i j u := by
  unfold seenF
  rw [List.take_add_one, h]
  by_cases e : u = v
  · subst e; simp
  · rw [if_neg e]; simp [e]
theorem seen_new {doms : List Dm} {gs : List (List Nat)} {i j v : Nat} (h : (rowP doms gs i)[j]? = some v) : seenF doms gs i j v = false := by
  unfold seenF
  rw [Bool.or_eq_false_iff, List.any_eq_false]
  refine ⟨fun k hk hc => ?_, ?_⟩
  · have := row_one (by simpa using hc) (List.mem_of_getElem? h)
    have hk := List.mem_range.1 hk
    omega
  · rw [List.contains_eq_mem, decide_eq_false_iff_not]
    intro hc
    obtain ⟨q, hq, e⟩ := List.getElem_of_mem hc
    rw [List.getElem_take] at e
    rw [List.length_take] at hq
    obtain ⟨hj, ej⟩ := List.getElem?_eq_some_iff.1 h
    have := List.pairwise_iff_getElem.1 (row_down (doms := doms) (gs := gs) i) q j (by omega) hj (by omega)
    rw [e, ej] at this
    omega
theorem seen_zero (doms : List Dm) (gs : List (List Nat)) (v : Nat) : seenF doms gs 0 0 v = false := by simp [seenF]
end Go.Proofs.YtedfakpmdncnmaaDoor.LY
