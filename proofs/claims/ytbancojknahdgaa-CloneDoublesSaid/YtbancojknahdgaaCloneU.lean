/- Plain Lean: lists of numbers in their order (Less), rows with one more (PutRow), and the edges that the laws make out of numbers (some). -/
import Derived.Test.YtbancojknahdgaaCloneR
namespace Go.Proofs.Ytbancojknahdgaa
open Go.RowKit CP
def lessL : List Int → List Int → Bool
  | [], [] => false
  | [], _ :: _ => true
  | _ :: _, [] => false
  | a :: l, b :: m => if a = b then lessL l m else decide (a < b)
theorem lessL_irr : ∀ l, lessL l l = false
  | [] => rfl
  | a :: l => by unfold lessL; rw [if_pos rfl]; exact lessL_irr l
theorem lessL_tri : ∀ l m, lessL l m = false → l = m ∨ lessL m l = true
  | [], [], _ => .inl rfl
  | [], _ :: _, h => by cases h
  | _ :: _, [], _ => .inr rfl
  | a :: l, b :: m, h => by
    unfold lessL at h
    by_cases e : a = b
    · subst e
      rw [if_pos rfl] at h
      rcases lessL_tri l m h with h | h
      · exact .inl (by rw [h])
      · right; unfold lessL; rw [if_pos rfl]; exact h
    · rw [if_neg e] at h
      right; unfold lessL; rw [if_neg (fun h => e h.symm)]
      have := of_decide_eq_false h
      exact decide_eq_true (by omega)
theorem lessL_trans : ∀ l m r, lessL l m = true → lessL m r = true → lessL l r = true
  | [], [], _, h, _ => by cases h
  | [], _ :: _, [], _, h => by cases h
  | [], _ :: _, _ :: _, _, _ => rfl
  | _ :: _, [], _, h, _ => by cases h
  | _ :: _, _ :: _, [], _, h => by cases h
  | a :: l, b :: m, c :: r, h1, h2 => by
    unfold lessL at h1 h2 ⊢
    by_cases e1 : a = b
    · subst e1
      rw [if_pos rfl] at h1
      by_cases e2 : a = c
      · subst e2
        rw [if_pos rfl] at h2 ⊢
        exact lessL_trans l m r h1 h2
      · rw [if_neg e2] at h2 ⊢; exact h2
    · rw [if_neg e1] at h1
      have h1 := of_decide_eq_true h1
      by_cases e2 : b = c
      · subst e2
        rw [if_neg e1]; exact decide_eq_true h1
      · rw [if_neg e2] at h2
        have h2 := of_decide_eq_true h2
        rw [if_neg (by omega)]; exact decide_eq_true (by omega)
/-- rows, rising, with one more, once -/
def putL : List (List Int) → List Int → List (List Int)
  | [], r => [r]
  | x :: l, r => if lessL x r = true then x :: putL l r else if x = r then x :: l else r :: x :: l
theorem putL_at : ∀ (l : List (List Int)) (r : List Int) (k : Nat), k ≤ l.length → (∀ j x, j < k → l[j]? = some x → lessL x r = true) → (∀ x, l[k]? = some x → lessL x r = false) → putL l r = if l[k]? = some r then l else l.take k ++ r :: l.drop k
  | [], r, k, hk, _, _ => by
    obtain rfl : k = 0 := by simpa using hk
    rfl
  | x :: l, r, 0, _, _, h2 => by
    have := h2 x rfl
    unfold putL
    rw [if_neg (by rw [this]; decide)]
    by_cases e : x = r
    · subst e; rw [if_pos rfl]; exact (if_pos rfl).symm
    · rw [if_neg e]; exact (if_neg (by simp; exact e)).symm
  | x :: l, r, k + 1, hk, h1, h2 => by
    have := h1 0 x (by omega) rfl
    unfold putL
    rw [if_pos this, putL_at l r k (by simpa using hk) (fun j y hj hy => h1 (j + 1) y (by omega) hy) (fun y hy => h2 y hy)]
    show x :: (if l[k]? = some r then _ else _) = if l[k]? = some r then _ else _
    by_cases e : l[k]? = some r
    · rw [if_pos e, if_pos e]
    · rw [if_neg e, if_neg e]; rfl
theorem putL_mem (r y : List Int) : ∀ l, y ∈ putL l r ↔ y ∈ l ∨ y = r
  | [] => by unfold putL; simp
  | x :: l => by
    unfold putL
    split
    · rw [List.mem_cons, putL_mem r y l, List.mem_cons]
      constructor
      · rintro (h | h | h)
        · exact .inl (.inl h)
        · exact .inl (.inr h)
        · exact .inr h
      · rintro ((h | h) | h)
        · exact .inl h
        · exact .inr (.inl h)
        · exact .inr (.inr h)
    · split
      · rename_i e
        subst e
        constructor
        · exact .inl
        · rintro (h | h)
          · exact h
          · rw [h]; exact List.mem_cons_self ..
      · rw [List.mem_cons]
        exact Or.comm
theorem putL_sorted (r : List Int) : ∀ l, l.Pairwise (fun a b => lessL a b = true) → (putL l r).Pairwise fun a b => lessL a b = true
  | [], _ => by unfold putL; exact List.pairwise_singleton ..
  | x :: l, h => by
    obtain ⟨h1, h2⟩ := List.pairwise_cons.1 h
    unfold putL
    split
    · rename_i e
      refine List.pairwise_cons.2 ⟨fun y hy => ?_, putL_sorted r l h2⟩
      rcases (putL_mem r y l).1 hy with hy | rfl
      · exact h1 y hy
      · exact e
    · split
      · exact h
      · rename_i e1 e2
        have hr : lessL r x = true := by
          rcases lessL_tri x r (by simpa using e1) with h3 | h3
          · exact absurd h3 e2
          · exact h3
        refine List.pairwise_cons.2 ⟨fun y hy => ?_, h⟩
        rcases List.mem_cons.1 hy with rfl | hy
        · exact hr
        · exact lessL_trans _ _ _ hr (h1 y hy)
theorem putL_len (r : List Int) : ∀ l, r ∉ l → (putL l r).length = l.length + 1
  | [], _ => rfl
  | x :: l, h => by
    unfold putL
    split
    · rw [List.length_cons, putL_len r l (fun h2 => h (List.mem_cons_of_mem _ h2)), List.length_cons]
    · split
      · rename_i e
        exact absurd (by rw [e]; exact List.mem_cons_self ..) h
      · rfl
theorem putL_le (r : List Int) : ∀ l, (putL l r).length ≤ l.length + 1
  | [] => Nat.le_refl _
  | x :: l => by
    unfold putL
    split
    · have := putL_le r l
      rw [List.length_cons, List.length_cons]; omega
    · split
      · omega
      · exact Nat.le_refl _
/-- an edge's row, out of three numbers -/
def rowS (n : Nat) (x : Int × Int × Int) : List Int := [((b8 x.1 % n : Nat) : Int), ((b8 x.2.1 % 8 : Nat) : Int), ((b8 x.2.2 % n : Nat) : Int)]
def rowsF (n : Nat) (l : List (Int × Int × Int)) : List (List Int) := l.foldl (fun a x => putL a (rowS n x)) []
theorem rowsF_next {n : Nat} {l : List (Int × Int × Int)} {i : Nat} {x : Int × Int × Int} (h : l[i]? = some x) : rowsF n (l.take (i + 1)) = putL (rowsF n (l.take i)) (rowS n x) := by
  unfold rowsF
  rw [List.take_add_one, h, List.foldl_append]; rfl
theorem rowsF_all (n : Nat) (l : List (Int × Int × Int)) : ∀ i, (rowsF n (l.take i)).Pairwise (fun a b => lessL a b = true) ∧ (rowsF n (l.take i)).length ≤ i ∧ ∀ r ∈ rowsF n (l.take i), ∃ x, r = rowS n x
  | 0 => ⟨List.Pairwise.nil, Nat.le_refl _, fun r hr => by cases hr⟩
  | i + 1 => by
    obtain ⟨h1, h2, h3⟩ := rowsF_all n l i
    cases hx : l[i]? with
    | none =>
      have e : l.take (i + 1) = l.take i := by rw [List.take_add_one, hx]; simp
      rw [e]; exact ⟨h1, by omega, h3⟩
    | some x =>
      rw [rowsF_next hx]
      have := putL_le (rowS n x) (rowsF n (l.take i))
      refine ⟨putL_sorted _ _ h1, by omega, fun r hr => ?_⟩
      rcases (putL_mem _ _ _).1 hr with hr | rfl
      · exact h3 r hr
      · exact ⟨x, rfl⟩
def edgeR (r : List Int) : Int × Int × Int := (r.getD 0 0, r.getD 1 0, r.getD 2 0)
def soN (z : Int) : Nat := 1 + b8 z % 12
theorem soN_lt (z : Int) : 1 ≤ soN z ∧ soN z ≤ 12 := by unfold soN; omega
def soE (n : Nat) (l : List (Int × Int × Int)) : List (Int × Int × Int) := (rowsF n (l.take 30)).map edgeR
theorem soE_len (n : Nat) (l : List (Int × Int × Int)) : (soE n l).length ≤ 30 := by
  unfold soE; rw [List.length_map]; exact (rowsF_all n l 30).2.1
theorem lessL_rows {n : Nat} {x y : Int × Int × Int} : lessL (rowS n x) (rowS n y) = aheadB (edgeR (rowS n x)) (edgeR (rowS n y)) := by
  unfold edgeR rowS
  simp only [List.getD_cons_zero, List.getD_cons_succ]
  rw [ahead_lex]
  unfold lessL
  by_cases h0 : ((b8 x.1 % n : Nat) : Int) = ((b8 y.1 % n : Nat) : Int)
  · rw [if_pos h0, if_pos h0]
    unfold lessL
    by_cases h1 : ((b8 x.2.1 % 8 : Nat) : Int) = ((b8 y.2.1 % 8 : Nat) : Int)
    · rw [if_pos h1, if_pos h1]
      unfold lessL
      by_cases h2 : ((b8 x.2.2 % n : Nat) : Int) = ((b8 y.2.2 % n : Nat) : Int)
      · rw [if_pos h2]
        exact (decide_eq_false (by omega)).symm
      · rw [if_neg h2]
    · rw [if_neg h1, if_neg h1]
  · rw [if_neg h0, if_neg h0]
theorem soE_at {n : Nat} {l : List (Int × Int × Int)} {i : Nat} {x : Int × Int × Int} (h : (soE n l)[i]? = some x) : ∃ y, (rowsF n (l.take 30))[i]? = some (rowS n y) ∧ x = edgeR (rowS n y) := by
  unfold soE at h
  rw [List.getElem?_map] at h
  cases e : (rowsF n (l.take 30))[i]? with
  | none => rw [e] at h; cases h
  | some r =>
    rw [e] at h
    injection h with h
    obtain ⟨y, rfl⟩ := (rowsF_all n l 30).2.2 r (List.mem_of_getElem? e)
    exact ⟨y, rfl, h.symm⟩
theorem soE_in {n : Nat} (hn : 0 < n) (y : Int × Int × Int) : ∃ a b c : Nat, edgeR (rowS n y) = ((a : Int), (b : Int), (c : Int)) ∧ a < n ∧ b < 8 ∧ c < n :=
  ⟨b8 y.1 % n, b8 y.2.1 % 8, b8 y.2.2 % n, rfl, Nat.mod_lt _ hn, Nat.mod_lt _ (by decide), Nat.mod_lt _ hn⟩
theorem soE_rise {n : Nat} {l : List (Int × Int × Int)} {i j : Nat} {x y : Int × Int × Int} (hij : i < j) (hx : (soE n l)[i]? = some x) (hy : (soE n l)[j]? = some y) : aheadB x y = true := by
  obtain ⟨u, hu, rfl⟩ := soE_at hx
  obtain ⟨v, hv, rfl⟩ := soE_at hy
  rw [← lessL_rows]
  have h1 := (rowsF_all n l 30).1
  obtain ⟨hi, eu⟩ := List.getElem?_eq_some_iff.1 hu
  obtain ⟨hj, ev⟩ := List.getElem?_eq_some_iff.1 hv
  have := List.pairwise_iff_getElem.1 h1 i j hi hj hij
  rw [eu, ev] at this
  exact this
theorem soE_may {n wd : Nat} (hn : 0 < n) (hn2 : n ≤ 1024) (h1 : 1 ≤ wd) (h2 : wd ≤ 62) (l : List (Int × Int × Int)) : MayN n 0 (soE n l) wd := by
  have hl := soE_len n l
  refine ⟨hn, hn2, hn, by omega, h1, h2, fun i x hx => ?_⟩
  obtain ⟨y, _, e⟩ := soE_at hx
  obtain ⟨a, b, c, e2, ha, hb, hc⟩ := soE_in hn y
  have ex : x = ((a : Int), (b : Int), (c : Int)) := e.trans e2
  have hah : (i == 0 || aheadB ((soE n l).getD (i - 1) (0, 0, 0)) x) = true := by
    by_cases h0 : i = 0
    · rw [h0]; rfl
    · have hi : i < (soE n l).length := (List.getElem?_eq_some_iff.1 hx).1
      obtain ⟨p, hp⟩ : ∃ p, (soE n l)[i - 1]? = some p := ⟨_, List.getElem?_eq_getElem (by omega)⟩
      rw [show (soE n l).getD (i - 1) (0, 0, 0) = p from by rw [List.getD_eq_getElem?_getD, hp]; rfl]
      rw [soE_rise (by omega) hp hx, Bool.or_true]
  unfold edC
  rw [hah, ex]
  simp; omega
end Go.Proofs.Ytbancojknahdgaa
