/- Layer 20 in plain Lean: contexts that are numbered as they must (rightB), their ways (wayR) and their contexts (ctxR). -/
import Derived.Test.YtbancojknahdgaaCloneD
import Derived.Test.YtbancojknahdgaaCloneE
namespace Go.Proofs.Ytbancojknahdgaa
open Go.RowKit CP
section
variable {fc tc : Nat → Nat} {L mc m : Nat}
theorem wayB_fuel (h : Up fc tc L m) : ∀ (f f' a c : Nat), OkS fc tc L mc m a c → a < f → a < f' → wayB fc tc (cntF fc tc L mc m) (addF fc tc L mc m) L mc f a c = wayB fc tc (cntF fc tc L mc m) (addF fc tc L mc m) L mc f' a c
  | 0, _, _, _, _, h0, _ => absurd h0 (Nat.not_lt_zero _)
  | _ + 1, 0, _, _, _, _, h0 => absurd h0 (Nat.not_lt_zero _)
  | f + 1, f' + 1, a, c, hs, h1, h2 => by
    unfold wayB
    by_cases e : a = mc
    · rw [if_pos e, if_pos e]
    · rw [if_neg e, if_neg e]
      obtain ⟨k, hl, _, _, h5, _, h7⟩ := last_ok h hs e
      simp only [hl, Int.toNat_natCast]
      rw [wayB_fuel h f f' _ _ h7 (by omega) (by omega)]
/-- a context's way, its last edge first -/
def wayC (fc tc : Nat → Nat) (L mc m a c : Nat) : List Nat := wayB fc tc (cntF fc tc L mc m) (addF fc tc L mc m) L mc (a + 1) a c
theorem wayC_main (c : Nat) : wayC fc tc L mc m mc c = [] := by unfold wayC wayB; rw [if_pos rfl]
theorem wayC_step (h : Up fc tc L m) {a c k : Nat} (hs : OkS fc tc L mc m a c) (hne : a ≠ mc) (hk : lastI fc tc (cntF fc tc L mc m) (addF fc tc L mc m) a c L = (k : Int)) : wayC fc tc L mc m a c = k :: wayC fc tc L mc m (fc k) (c - addF fc tc L mc m k) := by
  obtain ⟨k2, hl, _, _, h5, _, h7⟩ := last_ok h hs hne
  have e : k2 = k := by omega
  subst e
  show wayB _ _ _ _ _ _ (a + 1) a c = _
  unfold wayB
  rw [if_neg hne]
  simp only [hl, Int.toNat_natCast]
  unfold wayC
  rw [wayB_fuel h a (fc k2 + 1) _ _ h7 h5 (by omega)]
theorem wayC_len (h : Up fc tc L m) : ∀ (a c : Nat), OkS fc tc L mc m a c → (wayC fc tc L mc m a c).length ≤ a := by
  intro a
  induction a using Nat.strongRecOn with
  | ind a ih =>
    intro c hs
    by_cases e : a = mc
    · rw [e, wayC_main]; exact Nat.zero_le _
    · obtain ⟨k, hl, _, _, h5, _, h7⟩ := last_ok h hs e
      rw [wayC_step h hs e hl, List.length_cons]
      have := ih _ h5 _ h7
      omega
theorem wayC_back (h : Up fc tc L m) (hmc : mc < m) {a c : Nat} (hs : OkS fc tc L mc m a c) : ctxF fc tc (addF fc tc L mc m) L ((wayC fc tc L mc m a c).reverse.map fun k : Nat => (k : Int)) mc 0 = some (a, c) := ctx_way h hmc _ a c hs (by omega)
end
/-- contexts that are numbered as they must -/
structure Right (c : Cl) (main : Int) (k mn : Nat) : Prop where
  main : main = (mn : Int)
  len : c.comp.length = k
  may : MayN k mn c.edges 62
  fit : fitC k mn c.edges 62 = true
  comp : c.comp = cmpZ k (edE c.edges)
  count : c.count = (List.range k).map fun v => (cnE k mn c.edges (cmp k (edE c.edges) v) : Int)
  add : c.add = (List.range c.edges.length).map fun i => (adE k mn c.edges i : Int)
theorem right_of {c : Cl} {main : Int} (h : rightB c main = true) : Right c main c.comp.length main.toNat := by
  unfold rightB at h
  simp only [Bool.and_eq_true] at h
  obtain ⟨⟨⟨⟨h1, h2⟩, h3⟩, h4⟩, h5⟩ := h
  obtain ⟨k, mn, w, e1, e2, e3, hm⟩ := mayN_of h1
  have hk : k = c.comp.length := by omega
  have hmn : mn = main.toNat := by omega
  have hw : w = 62 := by omega
  subst hk hmn hw
  exact ⟨e2, rfl, hm, h2, eq_of_beq h3, eq_of_beq h4, eq_of_beq h5⟩
theorem right_to {k mn : Nat} {es : List (Int × Int × Int)} (h : MayN k mn es 62) (hf : fitC k mn es 62 = true) : rightB (numC k mn es) (mn : Int) = true := by
  have hl : (numC k mn es).comp.length = k := cmpZ_len _ _
  unfold rightB
  rw [hl, Int.toNat_natCast]
  show (mayC (k : Int) (mn : Int) es 62 && fitC k mn es 62 && _ && _ && _) = true
  have hm := mayN_to h
  rw [show ((62 : Nat) : Int) = 62 from rfl] at hm
  rw [hm, hf]
  show (true && true && ((numC k mn es).comp == (numC k mn es).comp) && ((numC k mn es).count == (numC k mn es).count) && ((numC k mn es).add == (numC k mn es).add)) = true
  simp
section
variable {c : Cl} {main : Int} {k mn : Nat} (h : Right c main k mn)
include h
theorem Right.comp_at {v : Nat} (hv : v < k) : c.comp[v]? = some (cmp k (edE c.edges) v : Int) := by
  rw [h.comp]; unfold cmpZ; rw [List.getElem?_map, List.getElem?_range hv]; rfl
theorem Right.count_at {v : Nat} (hv : v < k) : c.count[v]? = some (cnE k mn c.edges (cmp k (edE c.edges) v) : Int) := by
  rw [h.count, List.getElem?_map, List.getElem?_range hv]; rfl
theorem Right.add_at {i : Nat} (hi : i < c.edges.length) : c.add[i]? = some (adE k mn c.edges i : Int) := by
  rw [h.add, List.getElem?_map, List.getElem?_range hi]; rfl
theorem Right.lenC : c.count.length = k := by rw [h.count, List.length_map, List.length_range]
theorem Right.lenA : c.add.length = c.edges.length := by rw [h.add, List.length_map, List.length_range]
theorem Right.bound {v : Nat} (hv : v < edM k c.edges) : cnE k mn c.edges v ≤ 4611686018427387903 := by
  have := fits_of h.fit hv
  exact this
end
/-- a context's way, or why there is none -/
noncomputable def wayR (c : Cl) (main me cx : Int) : List Nat × Int :=
  if rightB c main = false ∨ me < 0 ∨ (c.comp.length : Int) ≤ me then ([], 1)
  else if cx < 0 ∨ c.count.getD me.toNat 0 ≤ cx then ([], 3)
  else ((wayC (edF c.comp.length c.edges) (edT c.comp.length c.edges) c.edges.length (cmp c.comp.length (edE c.edges) main.toNat) (edM c.comp.length c.edges) (cmp c.comp.length (edE c.edges) me.toNat) cx.toNat).reverse, 0)
/-- where a way leads, as it is answered -/
def ctxO : Option (Nat × Nat) → Int × Int × Int
  | none => (0, 0, 3)
  | some (a, n) => ((a : Int), (n : Int), 0)
noncomputable def ctxR (c : Cl) (main : Int) (way : List Int) : Int × Int × Int :=
  if rightB c main = false then ((0, 0, 1) : Int × Int × Int)
  else ctxO (ctxF (edF c.comp.length c.edges) (edT c.comp.length c.edges) (adE c.comp.length main.toNat c.edges) c.edges.length way (cmp c.comp.length (edE c.edges) main.toNat) 0)
end Go.Proofs.Ytbancojknahdgaa
