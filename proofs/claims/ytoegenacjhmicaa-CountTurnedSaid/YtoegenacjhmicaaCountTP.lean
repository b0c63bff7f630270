/- Layer 6 in plain Lean, for CountTurned: orders of the four variables, numbers turned about. -/
import Derived.Test.YtoegenacjhmicaaCountZ
import Derived.Test.YtoegenacjhmicaaCountPR
namespace Go.Proofs.Ytoegenacjhmicaa
open Go.RowKit HP NP
/-- two places of a list changed about -/
def swapL (zs : List Int) (i k : Nat) : List Int := (zs.set i (zs.getD k 0)).set k (zs.getD i 0)
theorem Ord4.swap {zs : List Int} (h : Ord4 zs) {i k : Nat} (hi : i < 4) (hk : k < 4) : Ord4 (swapL zs i k) := by
  obtain ⟨h1, h2, h3⟩ := h
  match zs, h1 with
  | [a, b, c, d], _ =>
    have ia := h3 a (by simp); have ib := h3 b (by simp); have ic := h3 c (by simp); have id_ := h3 d (by simp)
    simp only [List.nodup_cons, List.mem_cons, List.not_mem_nil, or_false, not_or, List.nodup_nil, and_true, not_false_eq_true] at h2
    obtain ⟨⟨n1, n2, n3⟩, ⟨n4, n5⟩, n6⟩ := h2
    rcases (by omega : i = 0 ∨ i = 1 ∨ i = 2 ∨ i = 3) with rfl | rfl | rfl | rfl <;> rcases (by omega : k = 0 ∨ k = 1 ∨ k = 2 ∨ k = 3) with rfl | rfl | rfl | rfl <;>
      (refine ⟨by simp [swapL], ?_, ?_⟩
       · simp only [swapL, List.getD_cons_zero, List.getD_cons_succ, List.set_cons_zero, List.set_cons_succ, List.nodup_cons, List.mem_cons, List.not_mem_nil, or_false, not_or, List.nodup_nil, and_true, not_false_eq_true]
         omega
       · intro z hz
         simp only [swapL, List.getD_cons_zero, List.getD_cons_succ, List.set_cons_zero, List.set_cons_succ, List.mem_cons, List.not_mem_nil, or_false] at hz
         omega)
/-- a number turned about: its first so many bits -/
def tN (l : List Nat) (n : Nat) : Nat → Nat
  | 0 => 0
  | i + 1 => tN l n i + (n.testBit (l.getD i 0)).toNat * 2 ^ i
def perms4 : List (List Nat) := ((List.range 256).map fun x => [x % 4, x / 4 % 4, x / 16 % 4, x / 64]).filter fun l => decide l.Nodup
theorem perms_bits : ∀ l ∈ perms4, ∀ n, n < 16 → tN l n 4 < 16 ∧ ∀ i, i < 4 → n.testBit (l.getD i 0) = (tN l n 4).testBit i := by decide +kernel
theorem perms_onto : ∀ l ∈ perms4, ∀ r, r < 16 → ((List.range 16).any fun n => tN l n 4 == r) = true := by decide +kernel
theorem perms_or : ∀ l ∈ perms4, ∀ n, n < 16 → ∀ i, i < 4 → tN l n i ||| ((n.testBit (l.getD i 0)).toNat * 2 ^ i) = tN l n (i + 1) := by decide +kernel
theorem perms_lt : ∀ l ∈ perms4, ∀ n, n < 16 → ∀ i, i < 5 → tN l n i < 16 := by decide +kernel
theorem perms_lt2 : ∀ l ∈ perms4, ∀ n, n < 16 → ∀ i, i < 4 → (n.testBit (l.getD i 0)).toNat * 2 ^ i < 16 := by decide +kernel
theorem Ord4.perm {zs : List Int} (h : Ord4 zs) : toNs zs ∈ perms4 := by
  obtain ⟨h1, h2, h3⟩ := h
  match zs, h1 with
  | [a, b, c, d], _ =>
    have ia := h3 a (by simp); have ib := h3 b (by simp); have ic := h3 c (by simp); have id_ := h3 d (by simp)
    simp only [List.nodup_cons, List.mem_cons, List.not_mem_nil, or_false, not_or, List.nodup_nil, and_true, not_false_eq_true] at h2
    obtain ⟨⟨n1, n2, n3⟩, ⟨n4, n5⟩, n6⟩ := h2
    show [a.toNat, b.toNat, c.toNat, d.toNat] ∈ _
    obtain ⟨a, rfl⟩ : ∃ x : Nat, a = (x : Int) := ⟨a.toNat, by omega⟩
    obtain ⟨b, rfl⟩ : ∃ x : Nat, b = (x : Int) := ⟨b.toNat, by omega⟩
    obtain ⟨c, rfl⟩ : ∃ x : Nat, c = (x : Int) := ⟨c.toNat, by omega⟩
    obtain ⟨d, rfl⟩ : ∃ x : Nat, d = (x : Int) := ⟨d.toNat, by omega⟩
    simp only [Int.toNat_natCast]
    unfold perms4
    rw [List.mem_filter, List.mem_map]
    refine ⟨⟨a + 4 * b + 16 * c + 64 * d, List.mem_range.2 (by omega), ?_⟩, ?_⟩
    · rw [show (a + 4 * b + 16 * c + 64 * d) % 4 = a by omega, show (a + 4 * b + 16 * c + 64 * d) / 4 % 4 = b by omega, show (a + 4 * b + 16 * c + 64 * d) / 16 % 4 = c by omega, show (a + 4 * b + 16 * c + 64 * d) / 64 = d by omega]
    · rw [decide_eq_true_eq]
      simp only [List.nodup_cons, List.mem_cons, List.not_mem_nil, or_false, not_or, List.nodup_nil, and_true, not_false_eq_true]
      omega
/-- a number's row -/
def rowT (l : List Nat) (n : Nat) : List Int := [((tN l n 4 : Nat) : Int)]
def wantL (l ns : List Nat) : List (List Int) := ns.foldl (fun a n => putL a (rowT l n)) []
theorem wantL_next {l ns : List Nat} {i n : Nat} (h : ns[i]? = some n) : wantL l (ns.take (i + 1)) = putL (wantL l (ns.take i)) (rowT l n) := by
  unfold wantL
  rw [List.take_add_one, h, List.foldl_append]; rfl
theorem want_fold (l : List Nat) : ∀ (ns : List Nat) (a : List (List Int)), a.Pairwise (fun x y => lessL x y = true) →
    (ns.foldl (fun a n => putL a (rowT l n)) a).Pairwise (fun x y => lessL x y = true) ∧ (ns.foldl (fun a n => putL a (rowT l n)) a).length ≤ a.length + ns.length ∧ ∀ y, y ∈ ns.foldl (fun a n => putL a (rowT l n)) a ↔ y ∈ a ∨ ∃ n ∈ ns, y = rowT l n
  | [], a, h => ⟨h, by simp, fun y => by simp⟩
  | n :: ns, a, h => by
    obtain ⟨h1, h2, h3⟩ := want_fold l ns (putL a (rowT l n)) (putL_sorted _ _ h)
    have h4 := putL_le (rowT l n) a
    refine ⟨h1, by rw [List.foldl_cons, List.length_cons]; omega, fun y => ?_⟩
    rw [List.foldl_cons, h3, putL_mem]
    constructor
    · rintro ((h | h) | ⟨m, hm, h⟩)
      · exact .inl h
      · exact .inr ⟨n, List.mem_cons_self .., h⟩
      · exact .inr ⟨m, List.mem_cons_of_mem _ hm, h⟩
    · rintro (h | ⟨m, hm, h⟩)
      · exact .inl (.inl h)
      · rcases List.mem_cons.1 hm with rfl | hm
        · exact .inl (.inr h)
        · exact .inr ⟨m, hm, h⟩
theorem want_len (l ns : List Nat) : (wantL l ns).length ≤ ns.length := by
  have := (want_fold l ns [] List.Pairwise.nil).2.1
  simpa [wantL] using this
theorem want_mem (l ns : List Nat) (y : List Int) : y ∈ wantL l ns ↔ ∃ n ∈ ns, y = rowT l n := by
  rw [show wantL l ns = ns.foldl (fun a n => putL a (rowT l n)) [] from rfl, (want_fold l ns [] List.Pairwise.nil).2.2]
  simp
def wantN (l ns : List Nat) : List Nat := (wantL l ns).map fun r => (r.getD 0 0).toNat
theorem wantN_rise (l ns : List Nat) : (wantN l ns).Pairwise (· < ·) := by
  unfold wantN
  rw [List.pairwise_map]
  refine ((want_fold l ns [] List.Pairwise.nil).1).imp_of_mem fun {x y} hx hy h => ?_
  obtain ⟨n, _, rfl⟩ := (want_mem l ns x).1 hx
  obtain ⟨m, _, rfl⟩ := (want_mem l ns y).1 hy
  unfold rowT at h ⊢
  rw [lessL_cons] at h
  split at h
  · cases h
  · have := of_decide_eq_true h
    simp only [List.getD_cons_zero, Int.toNat_natCast]
    omega
theorem wantN_mem (l ns : List Nat) (r : Nat) : r ∈ wantN l ns ↔ ∃ n, n ∈ ns ∧ tN l n 4 = r := by
  unfold wantN
  rw [List.mem_map]
  constructor
  · rintro ⟨y, hy, rfl⟩
    obtain ⟨n, hn, rfl⟩ := (want_mem l ns y).1 hy
    exact ⟨n, hn, by simp [rowT]⟩
  · rintro ⟨n, hn, rfl⟩
    exact ⟨rowT l n, (want_mem l ns _).2 ⟨n, hn, rfl⟩, by simp [rowT]⟩
theorem want_at {l ns : List Nat} {i : Nat} {y : List Int} (h : (wantL l ns)[i]? = some y) : ∃ q : Nat, y = [(q : Int)] ∧ (nZ (wantN l ns))[i]? = some (q : Int) := by
  obtain ⟨n, _, rfl⟩ := (want_mem l ns y).1 (List.mem_of_getElem? h)
  refine ⟨tN l n 4, rfl, ?_⟩
  unfold nZ wantN
  rw [List.map_map, List.getElem?_map, h]
  simp [rowT]
theorem wantN_len (l ns : List Nat) : (wantN l ns).length = (wantL l ns).length := by simp [wantN]
section
variable {w0 w : World} {p : Nat} {S : NS} {k X : Nat}
theorem turned_each (h : CSt w0 w p S) (hd : Den S k (tbl X)) {zs : List Int} (hz : Ord4 zs) : eachL S (k : Int) zs = nZ (wantN (toNs zs) (truesL X)) := by
  unfold eachL
  rw [Int.toNat_natCast]
  have hp := hz.perm
  obtain ⟨l, hl⟩ : ∃ l, toNs zs = l := ⟨_, rfl⟩
  have hll : l.length = 4 := by rw [← hl]; simp [toNs, hz.len]
  have hlt : ∀ v ∈ l, v < 4 := fun v hv => by
    rw [← hl] at hv
    unfold toNs at hv
    obtain ⟨z, hzm, rfl⟩ := List.mem_map.1 hv
    have := hz.ins z hzm
    omega
  have hcov : ∀ v, v < 4 → v ∈ l := fun v hv => by
    rw [← hl]
    exact List.mem_map.2 ⟨(v : Int), hz.all hv, Int.toNat_natCast v⟩
  rw [hl] at hp ⊢
  obtain ⟨q, hq⟩ : ∃ q, numsL (cubes S k) l = q := ⟨_, rfl⟩
  have hs := nums_turned h.sto.wf h.v4 hd hll hlt hcov (fun n => tN l n 4) (fun n hn => by
      obtain ⟨h1, h2⟩ := perms_bits l hp n hn
      refine ⟨h1, fun i v hi => ?_⟩
      have h3 : i < 4 := by rw [← hll]; exact (List.getElem?_eq_some_iff.1 hi).1
      have h4 := h2 i h3
      rw [List.getD_eq_getElem?_getD, hi] at h4
      exact h4) (fun r hr => by
      have h1 := perms_onto l hp r hr
      rw [List.any_eq_true] at h1
      obtain ⟨n, h2, h3⟩ := h1
      exact ⟨n, List.mem_range.1 h2, by simpa using h3⟩)
    (s := q.mergeSort fun a b => decide (a ≤ b)) (t := wantN l (truesL X)) (by rw [hq]; exact List.mergeSort_perm q _) (by
      have := List.pairwise_mergeSort (le := fun a b : Nat => decide (a ≤ b)) (fun a b c => by simpa using Nat.le_trans) (fun a b => by simpa using Nat.le_total a b) q
      exact this.imp fun h => by simpa using h) (wantN_rise _ _) (wantN_mem l _)
  have hperm : (nZ q).Perm (nZ (wantN l (truesL X))) := by
    rw [← hs]
    exact ((List.mergeSort_perm q _).symm).map _
  rw [hq]
  show (nZ q).mergeSort _ = _
  exact (mergeSort_of_perm_i hperm).trans (srt_self ((nZ_rise (wantN_rise _ _)).imp fun h => by omega))
end
end Go.Proofs.Ytoegenacjhmicaa
