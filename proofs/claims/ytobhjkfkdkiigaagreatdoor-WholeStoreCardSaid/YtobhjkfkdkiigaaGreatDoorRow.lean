/- Rows of the call's own as lists: reading a cell, storing one, what keeps a row. -/
import Derived.Test.YtobhjkfkdkiigaaGreatDoorApp
import Derived.Test.YtobhjkfkdkiigaaGreatDoorKp
import Derived.Test.YtobhjkfkdkiigaaGreatDoorOpen
import Derived.Laws.OwnMore
namespace Go.Proofs.YtobhjkfkdkiigaaGreatDoor
open Go.RowKit HP
theorem own_blk {w : World} {base e size n g m cap : Nat} {xs : List Value} (h : w.ownsRow base e size (.slice (some ⟨g, 0, none⟩) m cap) n xs) : ∃ cs, Blk w g e cs ∧ base ≤ g := by
  rcases h.2 with ⟨h1, _⟩ | ⟨g', cap', cur, h1, hb, hg, _⟩
  · cases h1
  · injection h1 with h1 _ _; injection h1 with h1; injection h1 with h1 _ _; subst h1; exact ⟨cur, hg, hb⟩
theorem own_at {α : Type} {w : World} {base e n g cap : Nat} {l : List α} (f : α → List Value) (k : Nat) (hf : ∀ x, (f x).length = k) (h : w.ownsRow base e k (.slice (some ⟨g, 0, none⟩) n cap) n (l.flatMap f)) {i j : Nat} {x : α} {v : Value} (hi : l[i]? = some x) (hj : (f x)[j]? = some v) :
    w.cell? ⟨g, i * k + j, none⟩ = some v := by
  have h0 := flat_get f k hf l i j x v hi hj
  have h1 := (List.getElem?_eq_some_iff.1 h0).1
  rw [World.ownsRow.cellAt h _ (by rw [← h.1]; exact h1)]
  exact h0
theorem own_kb {T : TypeId → Bool} {w w' : World} {base e size n : Nat} {v : Value} {xs : List Value} (h : w.ownsRow base e size v n xs) (hk : Kb T w w') (ht : T e = false) : w'.ownsRow base e size v n xs := by
  refine ⟨h.1, ?_⟩
  rcases h.2 with hn | ⟨g, cap, cur, rfl, hg, hgg, rest⟩
  · exact .inl hn
  · exact .inr ⟨g, cap, cur, rfl, hg, hk _ _ _ hgg ht, rest⟩
theorem own_kp {T : TypeId → Bool} {B : Nat} {w w' : World} {base e size n : Nat} {v : Value} {xs : List Value} (h : w.ownsRow base e size v n xs) (hk : Kp T B w w') (ht : T e = false) : w'.ownsRow base e size v n xs := own_kb h hk.kb ht
theorem own_below {w w' : World} {base e size n : Nat} {v : Value} {xs : List Value} (h : w.ownsRow base e size v n xs) (hb : Below w.heap.size w w') : w'.ownsRow base e size v n xs :=
  own_kp (T := fun _ => false) (B := 0) h (Kp.of_below hb) rfl
theorem own_base {w : World} {base base' e size n : Nat} {v : Value} {xs : List Value} (h : w.ownsRow base e size v n xs) (hb : base' ≤ base) : w.ownsRow base' e size v n xs := by
  refine ⟨h.1, ?_⟩
  rcases h.2 with hn | ⟨g, cap, cur, rfl, hg, rest⟩
  · exact .inl hn
  · exact .inr ⟨g, cap, cur, rfl, by omega, rest⟩
theorem flat_set5 {α : Type} (f : α → List Value) (hf : ∀ x, (f x).length = 5) (l : List α) (i : Nat) (hi : i < l.length) (x : α) (a b c d e : Value) (hx : f x = [a, b, c, d, e]) :
    (((((l.flatMap f).set (i * 5) a).set (i * 5 + 1) b).set (i * 5 + 2) c).set (i * 5 + 3) d).set (i * 5 + 4) e = (l.set i x).flatMap f := by
  induction l generalizing i with
  | nil => simp at hi
  | cons y t ih =>
    cases i with
    | zero =>
      obtain ⟨p, q, r, s, u, hy⟩ : ∃ p q r s u, f y = [p, q, r, s, u] := by
        match hm : f y, hf y with
        | [p, q, r, s, u], _ => exact ⟨p, q, r, s, u, rfl⟩
      simp [hy, hx]
    | succ i =>
      have h := ih i (by simpa using hi)
      obtain ⟨p, q, r, s, u, hy⟩ : ∃ p q r s u, f y = [p, q, r, s, u] := by
        match hm : f y, hf y with
        | [p, q, r, s, u], _ => exact ⟨p, q, r, s, u, rfl⟩
      simp only [List.flatMap_cons, List.set_cons_succ, hy]
      rw [← h]
      have e0 : (i + 1) * 5 = i * 5 + 5 := by omega
      rw [e0]
      simp
theorem flat_set1 {α : Type} (f : α → Value) (l : List α) (i : Nat) (x : α) : (l.flatMap fun x => [f x]).set i (f x) = (l.set i x).flatMap fun x => [f x] := by
  have e : ∀ l : List α, (l.flatMap fun x => [f x]) = l.map f := fun l => by induction l with
    | nil => rfl
    | cons y t ih => simp [ih]
  rw [e, e, List.map_set]
/-- one cell of a struct of a row -/
theorem flat_setj {α : Type} (f : α → List Value) (k : Nat) (hf : ∀ x, (f x).length = k) (l : List α) (i j : Nat) (y x : α) (hy : l[i]? = some y) (v : Value) (hj : j < k) (hx : f x = (f y).set j v) :
    (l.flatMap f).set (i * k + j) v = (l.set i x).flatMap f := by
  induction l generalizing i with
  | nil => simp at hy
  | cons z t ih =>
    cases i with
    | zero =>
      simp at hy
      subst hy
      rw [List.flatMap_cons, List.set_cons_zero, List.flatMap_cons, Nat.zero_mul, Nat.zero_add, List.set_append_left _ _ (by rw [hf]; exact hj), hx]
    | succ i =>
      have h := ih i (by simpa using hy)
      rw [List.flatMap_cons, List.set_cons_succ, List.flatMap_cons, ← h, List.set_append_right _ _ (by rw [hf, Nat.succ_mul]; omega), hf]
      congr 2
      rw [Nat.succ_mul]; omega
end Go.Proofs.YtobhjkfkdkiigaaGreatDoor
