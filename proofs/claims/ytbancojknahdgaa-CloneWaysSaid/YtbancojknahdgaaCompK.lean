/- The contract of comp.Reach: the nodes to which one comes, rising. -/
import Derived.Test.YtbancojknahdgaaCompI
import Derived.Test.YtbancojknahdgaaCompJ
import Derived.Test.YtbancojknahdgaaShelfC
import Derived.Sort.OwnSortedInts
namespace Go.Proofs.Ytbancojknahdgaa
open Go.RowKit CP
theorem sort_own (w : World) (B g cap : Nat) (zs : List Int) (hlen : zs.length ≤ 4096) (h : w.ownsRow B 3 1 (.slice (some ⟨g, 0, none⟩) zs.length cap) zs.length (zV zs)) :
    Calls Try.prog 55 #[.slice (some ⟨g, 0, none⟩) zs.length cap] w fun e w' => e = .returned (.tuple #[]) ∧ w'.ownsRow B 3 1 (.slice (some ⟨g, 0, none⟩) zs.length cap) zs.length (zV (zs.mergeSort fun x y => decide (x ≤ y))) ∧ w.grownBy w' (some g) := by
  rcases h.2 with ⟨h0, _⟩ | ⟨g', cap', cur, hv, hg, hb, hn, hcap, hcs, htk⟩
  · cases h0
  · injection hv with hv1 _ hv3
    injection hv1 with hv1
    injection hv1 with hv1
    subst hv1 hv3
    rw [Nat.mul_one] at htk
    have hH := holds_of_blockI hb htk
    refine (Try.slices_Sort_int g 0 cap zs w hH (Array.getElem?_eq_some_iff.1 hb).1 (by omega)).mono ?_
    rintro e w' ⟨rfl, n, os, rfl⟩
    exact ⟨rfl, ownsRow_sortedI (by simp [List.length_mergeSort]) hg hb hn hcap hcs, grownBy_sortedI _⟩
/-! ### plain -/
theorem sorted_eq {l m : List Nat} (hl : l.Pairwise (· < ·)) (hm : m.Pairwise (· < ·)) (h : ∀ x, x ∈ l ↔ x ∈ m) : l = m := by
  induction l generalizing m with
  | nil =>
    cases m with
    | nil => rfl
    | cons y m => have := (h y).2 (by simp); cases this
  | cons x l ih =>
    cases m with
    | nil => have := (h x).1 (by simp); cases this
    | cons y m =>
      have h1 := List.pairwise_cons.1 hl
      have h2 := List.pairwise_cons.1 hm
      have hxy : x = y := by
        rcases List.mem_cons.1 ((h x).1 (by simp)) with e | e
        · exact e
        · rcases List.mem_cons.1 ((h y).2 (by simp)) with e2 | e2
          · exact e2.symm
          · have a := h2.1 x e; have b := h1.1 y e2; omega
      subst hxy
      congr 1
      refine ih h1.2 h2.2 fun z => ?_
      constructor
      · intro hz
        have := h1.1 z hz
        rcases List.mem_cons.1 ((h z).1 (by simp [hz])) with e | e
        · omega
        · exact e
      · intro hz
        have := h2.1 z hz
        rcases List.mem_cons.1 ((h z).2 (by simp [hz])) with e | e
        · omega
        · exact e
/-- a list of numbers without repeats, sorted -/
theorem sort_filter {l : List Nat} (hd : l.Nodup) {n : Nat} {p : Nat → Bool} (h : ∀ v, v ∈ l ↔ v < n ∧ p v = true) : (l.map fun k : Nat => (k : Int)).mergeSort (fun x y => decide (x ≤ y)) = ((List.range n).filter p).map fun k : Nat => (k : Int) := by
  have hperm := List.mergeSort_perm (l.map fun k : Nat => (k : Int)) (fun x y => decide (x ≤ y))
  have hsort := List.pairwise_mergeSort (le := fun x y : Int => decide (x ≤ y)) (fun a b c h1 h2 => by simp at *; omega) (fun a b => by simp; omega) (l.map fun k : Nat => (k : Int))
  obtain ⟨z, hz⟩ : ∃ z, z = (l.map fun k : Nat => (k : Int)).mergeSort (fun x y => decide (x ≤ y)) := ⟨_, rfl⟩
  rw [← hz] at hperm hsort ⊢
  have hmem : ∀ x, x ∈ z ↔ ∃ v, v ∈ l ∧ (v : Int) = x := fun x => by rw [hperm.mem_iff]; simp
  have hzn : z = (z.map Int.toNat).map fun k : Nat => (k : Int) := by
    rw [List.map_map]
    have : ∀ x ∈ z, ((fun k : Nat => (k : Int)) ∘ Int.toNat) x = x := fun x hx => by
      obtain ⟨v, _, rfl⟩ := (hmem x).1 hx
      simp
    rw [List.map_congr_left this]
    simp
  have hnd : z.Nodup := hperm.nodup_iff.2 (by
    unfold List.Nodup at hd ⊢
    rw [List.pairwise_map]
    exact hd.imp fun h e => h (by omega))
  have hs2 : (z.map Int.toNat).Pairwise (· < ·) := by
    rw [List.pairwise_map]
    have hboth := List.Pairwise.and hsort hnd
    refine List.Pairwise.imp_of_mem ?_ hboth
    intro a b ha hb hab
    obtain ⟨u, _, rfl⟩ := (hmem a).1 ha
    obtain ⟨v, _, rfl⟩ := (hmem b).1 hb
    have h1 := of_decide_eq_true hab.1
    have h2 := hab.2
    simp
    omega
  rw [hzn]
  congr 1
  refine sorted_eq hs2 (List.Pairwise.filter _ List.pairwise_lt_range) fun x => ?_
  rw [List.mem_map, List.mem_filter, List.mem_range]
  constructor
  · rintro ⟨y, hy, rfl⟩
    obtain ⟨v, hv, rfl⟩ := (hmem y).1 hy
    simpa using (h v).1 hv
  · intro hx
    exact ⟨(x : Int), (hmem _).2 ⟨x, (h x).2 hx, rfl⟩, by simp⟩
/-- what holds while comp.Reach goes on -/
structure RI (g : Gr) (k fr : Nat) (out : List Nat) (seen : Nat → Bool) (i : Nat) : Prop where
  nd : out.Nodup
  sn : ∀ v, seen v = true ↔ v ∈ out
  rc : ∀ v ∈ out, Rc g fr v
  lt : ∀ v ∈ out, v < k
  fr : fr ∈ out
  dn : ∀ j, j < i → ∀ v, out[j]? = some v → ∀ x ∈ g v, x ∈ out
  il : i ≤ out.length
theorem RI.start (g : Gr) {k fr : Nat} (hf : fr < k) : RI g k fr [fr] (fup (fun _ => false) fr true) 0 := by
  refine ⟨by simp, fun v => ?_, fun v hv => ?_, fun v hv => ?_, by simp, fun j hj => absurd hj (Nat.not_lt_zero _), Nat.zero_le _⟩
  · by_cases e : v = fr
    · subst e; rw [fup_same]; simp
    · rw [fup_ne _ _ e]; simp [e]
  · rw [List.mem_singleton.1 hv]; exact Rc.refl
  · rw [List.mem_singleton.1 hv]; exact hf
theorem RI.add {g : Gr} {k fr : Nat} {out : List Nat} {seen : Nat → Bool} {i : Nat} (h : RI g k fr out seen i) {v x : Nat} (hv : v ∈ out) (hx : x ∈ g v) (hxk : x < k) (hs : seen x = false) : RI g k fr (out ++ [x]) (fup seen x true) i := by
  have hxo : x ∉ out := fun hh => by rw [(h.sn x).2 hh] at hs; cases hs
  refine ⟨?_, fun u => ?_, fun u hu => ?_, fun u hu => ?_, by simp [h.fr], fun j hj u hu y hy => ?_, by simp; have := h.il; omega⟩
  · rw [List.nodup_append]
    exact ⟨h.nd, by simp, fun a ha b hb => by rw [List.mem_singleton.1 hb]; rintro rfl; exact hxo ha⟩
  · by_cases e : u = x
    · subst e; rw [fup_same]; simp
    · rw [fup_ne _ _ e, h.sn]; simp [e]
  · rcases List.mem_append.1 hu with hu | hu
    · exact h.rc u hu
    · rw [List.mem_singleton.1 hu]; exact (h.rc v hv).tail hx
  · rcases List.mem_append.1 hu with hu | hu
    · exact h.lt u hu
    · rw [List.mem_singleton.1 hu]; exact hxk
  · have := h.il
    rw [List.getElem?_append_left (by omega)] at hu
    exact List.mem_append.2 (.inl (h.dn j hj u hu y hy))
theorem RI.next {g : Gr} {k fr : Nat} {out : List Nat} {seen : Nat → Bool} {i v : Nat} (h : RI g k fr out seen i) (hv : out[i]? = some v) (ha : ∀ x ∈ g v, x ∈ out) : RI g k fr out seen (i + 1) := by
  refine ⟨h.nd, h.sn, h.rc, h.lt, h.fr, fun j hj u hu y hy => ?_, ?_⟩
  · by_cases e : j = i
    · subst e
      rw [hv] at hu; injection hu with hu; subst hu
      exact ha y hy
    · exact h.dn j (by omega) u hu y hy
  · have := (List.getElem?_eq_some_iff.1 hv).1
    omega
theorem RI.end_ {g : Gr} {k fr : Nat} {out : List Nat} {seen : Nat → Bool} {i : Nat} (h : RI g k fr out seen i) (hi : i = out.length) (v : Nat) : v ∈ out ↔ Rc g fr v := by
  refine ⟨h.rc v, fun hr => hr.closed (· ∈ out) (fun u hu x hx => ?_) h.fr⟩
  obtain ⟨j, hj, hjx⟩ := List.getElem_of_mem hu
  exact h.dn j (by omega) u (by rw [List.getElem?_eq_getElem hj, hjx]) x hx
theorem RI.len {g : Gr} {k fr : Nat} {out : List Nat} {seen : Nat → Bool} {i : Nat} (h : RI g k fr out seen i) : out.length ≤ k := nodup_le h.nd h.lt
end Go.Proofs.Ytbancojknahdgaa
