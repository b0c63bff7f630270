/- Plain laws of the lexer: the signs of texts that are joined by blanks. -/
import Derived.Test.YtpapmkpcnoighaaLexP
namespace Go.Proofs.Ytpapmkpcnoighaa.LP
def vS (k : Int) (t : List UInt8) : Bool := decide (t ≠ [] ∧ ((oneL t).1 : Int) = k ∧ (oneL t).2 = t.length)
def J : List (List UInt8) → List UInt8
  | [] => []
  | [x] => x
  | x :: y :: t => x ++ 32 :: J (y :: t)
theorem J_snoc (l : List (List UInt8)) (x : List UInt8) (h : l ≠ []) : J (l ++ [x]) = J l ++ 32 :: x := by
  induction l with
  | nil => exact absurd rfl h
  | cons a t ih =>
    cases t with
    | nil => rfl
    | cons b t =>
      have := ih (by simp)
      show a ++ 32 :: J ((b :: t) ++ [x]) = (a ++ 32 :: J (b :: t)) ++ 32 :: x
      rw [this]; simp
theorem run_app32 (P : UInt8 → Bool) (hP : P 32 = false) (R M : List UInt8) : runL P (M ++ 32 :: R) = runL P M := by
  induction M with
  | nil => rw [List.nil_append, runL_cons, hP]; rfl
  | cons c t ih => rw [List.cons_append, runL_cons, runL_cons, ih]
theorem mark_app32 (R M : List UInt8) (hM : M ≠ []) : markL (M ++ 32 :: R) = markL M := by
  match M, hM with
  | [c], _ =>
    unfold markL
    have e1 : ([c] ++ 32 :: R : List UInt8).take 2 = [c, 32] := rfl
    have e2 : ([c] : List UInt8).take 2 = [c] := rfl
    rw [e1, e2, if_neg (by simp), if_neg (by simp)]
    rfl
  | c :: d :: t, _ =>
    unfold markL
    have e1 : (c :: d :: t ++ 32 :: R : List UInt8).take 2 = [c, d] := rfl
    have e2 : (c :: d :: t).take 2 = [c, d] := rfl
    rw [e1, e2]
    rfl
theorem oneL_cons (c : UInt8) (X : List UInt8) : oneL (c :: X) = if digB c then (if 10 < runL digB (c :: X) ∨ (1 < runL digB (c :: X) ∧ c.toNat = 48) then (0, 0) else (2, runL digB (c :: X))) else if partB c then (if 32 < runL partB (c :: X) then (0, 0) else (1, runL partB (c :: X))) else (3, markL (c :: X)) := rfl
theorem one_app32 (R M : List UInt8) (hM : M ≠ []) : oneL (M ++ 32 :: R) = oneL M := by
  match M, hM with
  | c :: t, hM =>
    rw [oneL_cons c t, List.cons_append, oneL_cons c (t ++ 32 :: R), ← List.cons_append, run_app32 digB (by decide), run_app32 partB (by decide), mark_app32 R _ hM]
theorem mark_zero (c : UInt8) (t : List UInt8) (h : c.toNat = 32 ∨ c.toNat = 9 ∨ c.toNat = 10 ∨ c.toNat = 13 ∨ c.toNat = 35) : oneL (c :: t) = (3, 0) := by
  have hd : digB c = false := by unfold digB; rcases h with h | h | h | h | h <;> simp [h]
  have hp : partB c = false := by unfold partB; rw [hd]; rcases h with h | h | h | h | h <;> simp [h]
  have hm : markB c = false := by unfold markB; rcases h with h | h | h | h | h <;> simp [h]
  rw [oneL_cons, hd, hp]
  simp only [Bool.false_eq_true, if_false]
  have hk : markL (c :: t) = 0 := by
    unfold markL
    have hne : ¬ ((c :: t).take 2 = [58, 45] ∨ (c :: t).take 2 = [58, 58] ∨ (c :: t).take 2 = [33, 61]) := by
      rintro (e | e | e)
      all_goals
        rw [List.take_succ_cons] at e
        injection e with e1 _
        rw [e1] at h
        revert h; decide
    rw [if_neg hne]
    show (if markB c = true then 1 else 0) = 0
    rw [hm]; rfl
  rw [hk]
theorem vS_start (k : Int) (c : UInt8) (t : List UInt8) (h : vS k (c :: t) = true) : blankB c = false ∧ c.toNat ≠ 35 := by
  unfold vS at h
  rw [decide_eq_true_iff] at h
  have hn : ¬ (c.toNat = 32 ∨ c.toNat = 9 ∨ c.toNat = 10 ∨ c.toNat = 13 ∨ c.toNat = 35) := by
    intro hc
    have h2 := h.2.2
    rw [mark_zero c t hc] at h2
    simp at h2
  refine ⟨?_, fun h2 => hn (by omega)⟩
  unfold blankB
  simp only [Bool.or_eq_false_iff, decide_eq_false_iff_not]
  omega
theorem lex_J (l : List (Int × List UInt8)) : ∀ (a c : Nat), (∀ x ∈ l, vS x.1 x.2 = true) → c + l.length ≤ 4096 →
    ∃ sg : List Sg, lex (J (l.map (·.2))) a c = (sg, 0, 0) ∧ sg.map (fun x => ((x.kind : Int), x.text)) = l := by
  induction l with
  | nil => intro a c _ _; exact ⟨[], lex_nil a c, rfl⟩
  | cons x t ih =>
    intro a c hv hc
    have hx := hv x (by simp)
    obtain ⟨k, T⟩ := x
    have hx2 : vS k T = true := hx
    have hx3 := hx2
    unfold vS at hx3
    rw [decide_eq_true_iff] at hx3
    obtain ⟨hne, hk, hn⟩ := hx3
    cases T with
    | nil => exact absurd rfl hne
    | cons b T =>
      have hst := vS_start k b T hx2
      have hlc : c < 4096 := by simp at hc; omega
      cases t with
      | nil =>
        have h := lex_at (b :: T) a c b T rfl hst.1 hst.2
        rw [hn, if_neg (by simp), if_neg (by omega), List.drop_length, lex_nil, List.take_length] at h
        exact ⟨_, h, by simp [hk]⟩
      | cons y t =>
        obtain ⟨sg, hsg, hmap⟩ := ih (a + (b :: T).length + 1) (c + 1) (fun z hz => hv z (by simp [hz])) (by simp at hc ⊢; omega)
        have hJ : J (((k, b :: T) :: y :: t).map (·.2)) = (b :: T) ++ 32 :: J ((y :: t).map (·.2)) := rfl
        rw [hJ]
        have h := lex_at ((b :: T) ++ 32 :: J ((y :: t).map (·.2))) a c b (T ++ 32 :: J ((y :: t).map (·.2))) rfl hst.1 hst.2
        rw [one_app32 _ _ (by simp), hn, if_neg (by simp), if_neg (by omega), List.take_left, List.drop_left] at h
        have hb := lex_skip (32 :: J ((y :: t).map (·.2))) (a + (b :: T).length) (c + 1) 1 (by rw [skipF, if_pos (by decide)]; rfl)
        rw [hb, List.drop_succ_cons, List.drop_zero, hsg] at h
        exact ⟨_, h, by simp only [List.map_cons]; rw [hmap, hk]⟩
/-- a sign's text has at most 32 bytes -/
theorem one_le (t : List UInt8) (h : t ≠ []) : (oneL t).2 ≤ 32 := by
  cases t with
  | nil => exact absurd rfl h
  | cons c t =>
    rw [oneL_cons]
    split
    · split
      · simp
      · simp only; omega
    · split
      · split
        · simp
        · simp only; omega
      · simp only
        unfold markL
        split
        · omega
        · simp only; split <;> omega
theorem vS_len (k : Int) (t : List UInt8) (h : vS k t = true) : t.length ≤ 32 ∧ 0 < t.length := by
  unfold vS at h
  rw [decide_eq_true_iff] at h
  have := one_le t h.1
  exact ⟨by omega, List.length_pos_iff.2 h.1⟩
theorem J_len (l : List (List UInt8)) (h : ∀ x ∈ l, x.length ≤ 32) : (J l).length ≤ 33 * l.length := by
  induction l with
  | nil => simp [J]
  | cons a t ih =>
    have ha := h a (by simp)
    cases t with
    | nil => simp [J]; omega
    | cons b t =>
      have := ih (fun x hx => h x (by simp [hx]))
      show (a ++ 32 :: J (b :: t)).length ≤ _
      simp only [List.length_append, List.length_cons] at this ⊢; omega
end Go.Proofs.Ytpapmkpcnoighaa.LP
