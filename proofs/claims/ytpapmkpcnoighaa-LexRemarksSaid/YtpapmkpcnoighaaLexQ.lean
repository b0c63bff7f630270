/- Plain laws of the lexer: what stands behind a text. -/
import Derived.Test.YtpapmkpcnoighaaLexP
namespace Go.Proofs.Ytpapmkpcnoighaa.LP
def tailL (R : List UInt8) : List UInt8 := 10 :: 35 :: 32 :: (R ++ [10, 32, 9])
theorem skip_rest (R : List UInt8) (h : ∀ c ∈ R, c.toNat ≠ 10) : skipF true (R ++ [10, 32, 9]) = R.length + 3 := by
  induction R with
  | nil => decide
  | cons c t ih =>
    have h1 := h c (by simp)
    rw [List.cons_append, skipF, if_neg h1, ih (fun d hd => h d (by simp [hd]))]
    simp; omega
theorem skip_tail (R : List UInt8) (h : ∀ c ∈ R, c.toNat ≠ 10) (b : Bool) : skipF b (tailL R) = (tailL R).length := by
  have e : skipF false (35 :: 32 :: (R ++ [10, 32, 9])) = R.length + 5 := by
    rw [skipF, if_neg (by decide), if_pos (by decide), skipF, if_neg (by decide), skip_rest R h]; omega
  unfold tailL
  cases b
  · rw [skipF, if_pos (by decide), e]; simp; omega
  · rw [skipF, if_pos (by decide), e]; simp; omega
theorem skip_app (R : List UInt8) (h : ∀ c ∈ R, c.toNat ≠ 10) (L : List UInt8) : ∀ b, (L.drop (skipF b L) = [] → skipF b (L ++ tailL R) = (L ++ tailL R).length) ∧ (L.drop (skipF b L) ≠ [] → skipF b (L ++ tailL R) = skipF b L) := by
  induction L with
  | nil => intro b; exact ⟨fun _ => by simpa using skip_tail R h b, fun hh => by simp at hh⟩
  | cons c t ih =>
    intro b
    cases b
    · by_cases h1 : blankB c = true
      · have e : skipF false (c :: t) = 1 + skipF false t := by rw [skipF, if_pos h1]
        have e2 : skipF false (c :: t ++ tailL R) = 1 + skipF false (t ++ tailL R) := by rw [List.cons_append, skipF, if_pos h1]
        rw [e, e2, Nat.add_comm 1 (skipF false t), List.drop_succ_cons]
        exact ⟨fun hh => by rw [(ih false).1 hh]; simp; omega, fun hh => by rw [(ih false).2 hh]; omega⟩
      · by_cases h2 : c.toNat = 35
        · have e : skipF false (c :: t) = 1 + skipF true t := by rw [skipF, if_neg h1, if_pos h2]
          have e2 : skipF false (c :: t ++ tailL R) = 1 + skipF true (t ++ tailL R) := by rw [List.cons_append, skipF, if_neg h1, if_pos h2]
          rw [e, e2, Nat.add_comm 1 (skipF true t), List.drop_succ_cons]
          exact ⟨fun hh => by rw [(ih true).1 hh]; simp; omega, fun hh => by rw [(ih true).2 hh]; omega⟩
        · have e : skipF false (c :: t) = 0 := by rw [skipF, if_neg h1, if_neg h2]
          have e2 : skipF false (c :: t ++ tailL R) = 0 := by rw [List.cons_append, skipF, if_neg h1, if_neg h2]
          rw [e, e2]
          exact ⟨fun hh => by simp at hh, fun _ => rfl⟩
    · by_cases h1 : c.toNat = 10
      · have e : skipF true (c :: t) = 1 + skipF false t := by rw [skipF, if_pos h1]
        have e2 : skipF true (c :: t ++ tailL R) = 1 + skipF false (t ++ tailL R) := by rw [List.cons_append, skipF, if_pos h1]
        rw [e, e2, Nat.add_comm 1 (skipF false t), List.drop_succ_cons]
        exact ⟨fun hh => by rw [(ih false).1 hh]; simp; omega, fun hh => by rw [(ih false).2 hh]; omega⟩
      · have e : skipF true (c :: t) = 1 + skipF true t := by rw [skipF, if_neg h1]
        have e2 : skipF true (c :: t ++ tailL R) = 1 + skipF true (t ++ tailL R) := by rw [List.cons_append, skipF, if_neg h1]
        rw [e, e2, Nat.add_comm 1 (skipF true t), List.drop_succ_cons]
        exact ⟨fun hh => by rw [(ih true).1 hh]; simp; omega, fun hh => by rw [(ih true).2 hh]; omega⟩
theorem run_app (P : UInt8 → Bool) (hP : P 10 = false) (R M : List UInt8) : runL P (M ++ tailL R) = runL P M := by
  induction M with
  | nil => rw [List.nil_append, tailL, runL_cons, hP]; rfl
  | cons c t ih => rw [List.cons_append, runL_cons, runL_cons, ih]
theorem mark_app (R M : List UInt8) (hM : M ≠ []) : markL (M ++ tailL R) = markL M := by
  match M, hM with
  | [c], _ =>
    unfold markL tailL
    have e1 : ([c] ++ 10 :: 35 :: 32 :: (R ++ [10, 32, 9])).take 2 = [c, 10] := rfl
    have e2 : ([c] : List UInt8).take 2 = [c] := rfl
    rw [e1, e2, if_neg (by simp), if_neg (by simp)]
    rfl
  | c :: d :: t, _ =>
    unfold markL
    have e1 : (c :: d :: t ++ tailL R).take 2 = [c, d] := rfl
    have e2 : (c :: d :: t).take 2 = [c, d] := rfl
    rw [e1, e2]
    rfl
theorem one_app (R M : List UInt8) (hM : M ≠ []) : oneL (M ++ tailL R) = oneL M := by
  match M, hM with
  | c :: t, hM =>
    have e : ∀ X, oneL (c :: X) = if digB c then (if 10 < runL digB (c :: X) ∨ (1 < runL digB (c :: X) ∧ c.toNat = 48) then (0, 0) else (2, runL digB (c :: X))) else if partB c then (if 32 < runL partB (c :: X) then (0, 0) else (1, runL partB (c :: X))) else (3, markL (c :: X)) := fun X => rfl
    rw [e t, List.cons_append, e (t ++ tailL R), ← List.cons_append, run_app digB (by decide), run_app partB (by decide), mark_app R _ hM]
theorem lex_tail (R : List UInt8) (h : ∀ c ∈ R, c.toNat ≠ 10) (n : Nat) : ∀ (L : List UInt8) (a c : Nat), L.length ≤ n → lex (L ++ tailL R) a c = lex L a c := by
  induction n with
  | zero =>
    intro L a c hn
    have : L = [] := by cases L with | nil => rfl | cons _ _ => simp at hn
    subst this
    rw [lex_nil, lex_end _ _ _ (by rw [List.nil_append, skip_tail R h, List.drop_length])]
  | succ n ih =>
    intro L a c hn
    have hk := skip_app R h L false
    by_cases h1 : L.drop (skipF false L) = []
    · rw [lex_end L _ _ h1, lex_end _ _ _ (by rw [hk.1 h1, List.drop_length])]
    · have e := hk.2 h1
      have hle := skipF_le false L
      have ed : (L ++ tailL R).drop (skipF false (L ++ tailL R)) = L.drop (skipF false L) ++ tailL R := by
        rw [e, List.drop_append_of_le_length hle]
      have h1' : (L ++ tailL R).drop (skipF false (L ++ tailL R)) ≠ [] := by rw [ed]; simp [tailL]
      have eo : oneL ((L ++ tailL R).drop (skipF false (L ++ tailL R))) = oneL (L.drop (skipF false L)) := by rw [ed, one_app R _ h1]
      have hol := oneL_pos _ h1
      by_cases h2 : (oneL (L.drop (skipF false L))).2 = 0
      · rw [lex_bad L _ _ h1 h2, lex_bad _ _ _ h1' (by rw [eo]; exact h2), e]
      · by_cases h3 : 4096 ≤ c
        · rw [lex_full L _ _ h1 h2 h3, lex_full _ _ _ h1' (by rw [eo]; exact h2) h3, e]
        · rw [lex_one L _ _ h1 h2 (by omega), lex_one _ _ _ h1' (by rw [eo]; exact h2) (by omega), eo, e]
          have hs := drop_shorter L h1 h2
          rw [List.drop_append_of_le_length hle, List.take_append_of_le_length hol]
          congr 1
          rw [List.drop_append_of_le_length (by rw [List.length_drop] at hol; omega)]
          exact ih _ _ _ (by omega)
end Go.Proofs.Ytpapmkpcnoighaa.LP
