/- The plain law of layer 10 (lex): a text as signs, on lists of bytes. No Go in sight. -/
namespace Go.Proofs.Ytpapmkpcnoighaa.LP

def digB (c : UInt8) : Bool := decide (48 ≤ c.toNat) && decide (c.toNat ≤ 57)
def partB (c : UInt8) : Bool := (decide (97 ≤ c.toNat) && decide (c.toNat ≤ 122)) || (decide (65 ≤ c.toNat) && decide (c.toNat ≤ 90)) || decide (c.toNat = 95) || digB c
def blankB (c : UInt8) : Bool := decide (c.toNat = 32) || decide (c.toNat = 9) || decide (c.toNat = 10) || decide (c.toNat = 13)
def noLine (c : UInt8) : Bool := decide (c.toNat ≠ 10)
def markB (c : UInt8) : Bool := c.toNat ∈ [40, 41, 123, 125, 44, 46, 59, 61, 33]
structure Sg where
  kind : Nat
  text : List UInt8
  pos : Nat
def runL (P : UInt8 → Bool) (l : List UInt8) : Nat := (l.takeWhile P).length
def markL (l : List UInt8) : Nat :=
  if l.take 2 = [58, 45] ∨ l.take 2 = [58, 58] ∨ l.take 2 = [33, 61] then 2 else match l with
    | [] => 0
    | c :: _ => if markB c then 1 else 0
def oneL (l : List UInt8) : Nat × Nat :=
  match l with
  | [] => (0, 0)
  | c :: _ =>
    if digB c then (if 10 < runL digB l ∨ (1 < runL digB l ∧ c.toNat = 48) then (0, 0) else (2, runL digB l))
    else if partB c then (if 32 < runL partB l then (0, 0) else (1, runL partB l))
    else (3, markL l)
def skipF : Bool → List UInt8 → Nat
  | _, [] => 0
  | false, c :: t => if blankB c then 1 + skipF false t else if c.toNat = 35 then 1 + skipF true t else 0
  | true, c :: t => if c.toNat = 10 then 1 + skipF false t else 1 + skipF true t
def put1 (x : Sg) (r : List Sg × Nat × Nat) : List Sg × Nat × Nat := if r.2.2 = 0 then (x :: r.1, r.2) else ([], r.2)
def lexF : Nat → List UInt8 → Nat → Nat → List Sg × Nat × Nat
  | 0, _, _, _ => ([], 0, 0)
  | f + 1, s, at_, cnt =>
    if s.drop (skipF false s) = [] then ([], 0, 0)
    else if (oneL (s.drop (skipF false s))).2 = 0 then ([], at_ + skipF false s, 100)
    else if 4096 ≤ cnt then ([], at_ + skipF false s, 2)
    else put1 ⟨(oneL (s.drop (skipF false s))).1, (s.drop (skipF false s)).take (oneL (s.drop (skipF false s))).2, at_ + skipF false s⟩
      (lexF f (s.drop (skipF false s + (oneL (s.drop (skipF false s))).2)) (at_ + skipF false s + (oneL (s.drop (skipF false s))).2) (cnt + 1))
def lex (s : List UInt8) (at_ cnt : Nat) : List Sg × Nat × Nat := lexF (s.length + 1) s at_ cnt

theorem runL_le (P : UInt8 → Bool) (l : List UInt8) : runL P l ≤ l.length := by
  unfold runL; induction l with
  | nil => simp
  | cons c t ih => simp only [List.takeWhile_cons]; split <;> simp <;> omega
theorem runL_cons (P : UInt8 → Bool) (c : UInt8) (t : List UInt8) : runL P (c :: t) = if P c then runL P t + 1 else 0 := by
  unfold runL; simp only [List.takeWhile_cons]; split <;> simp
theorem runL_nil (P : UInt8 → Bool) : runL P [] = 0 := rfl
theorem skipF_le (b : Bool) (l : List UInt8) : skipF b l ≤ l.length := by
  induction l generalizing b with
  | nil => cases b <;> simp [skipF]
  | cons c t ih =>
    cases b
    · simp only [skipF, List.length_cons]
      have h1 := ih false; have h2 := ih true
      split
      · omega
      · split <;> omega
    · simp only [skipF, List.length_cons]
      have h1 := ih false; have h2 := ih true
      split <;> omega
theorem oneL_pos (l : List UInt8) (h : l ≠ []) : (oneL l).2 ≤ l.length := by
  cases l with
  | nil => exact absurd rfl h
  | cons c t =>
    unfold oneL
    have h1 := runL_le digB (c :: t)
    have h2 := runL_le partB (c :: t)
    simp only
    split
    · split
      · simp
      · exact h1
    · split
      · split
        · simp
        · exact h2
      · simp only
        unfold markL
        split
        · rename_i h3
          cases t with
          | nil => simp at h3
          | cons d t => simp
        · simp only; split <;> simp
theorem drop_shorter (s : List UInt8) (h1 : s.drop (skipF false s) ≠ []) (h2 : (oneL (s.drop (skipF false s))).2 ≠ 0) : (s.drop (skipF false s + (oneL (s.drop (skipF false s))).2)).length + 1 ≤ s.length := by
  have h4 := oneL_pos _ h1
  rw [List.length_drop] at h4 ⊢
  have h5 : skipF false s < s.length := by
    rcases Nat.lt_or_ge (skipF false s) s.length with h6 | h6
    · exact h6
    · exact absurd (List.drop_eq_nil_of_le h6) h1
  omega
theorem lexF_two (f : Nat) : ∀ (g : Nat) (s : List UInt8) (at_ cnt : Nat), s.length + 1 ≤ f → s.length + 1 ≤ g → lexF f s at_ cnt = lexF g s at_ cnt := by
  induction f with
  | zero => intro g s at_ cnt h; omega
  | succ f ih =>
    intro g s at_ cnt h hg
    cases g with
    | zero => omega
    | succ g =>
      rw [lexF, lexF]
      by_cases h1 : s.drop (skipF false s) = []
      · rw [if_pos h1, if_pos h1]
      · by_cases h2 : (oneL (s.drop (skipF false s))).2 = 0
        · rw [if_neg h1, if_neg h1, if_pos h2, if_pos h2]
        · by_cases h3 : 4096 ≤ cnt
          · rw [if_neg h1, if_neg h1, if_neg h2, if_neg h2, if_pos h3, if_pos h3]
          · rw [if_neg h1, if_neg h1, if_neg h2, if_neg h2, if_neg h3, if_neg h3]
            have hl := drop_shorter s h1 h2
            rw [ih g _ _ _ (by omega) (by omega)]
/-- lex, opened once -/
theorem lex_end (s : List UInt8) (at_ cnt : Nat) (h : s.drop (skipF false s) = []) : lex s at_ cnt = ([], 0, 0) := by
  unfold lex; rw [lexF, if_pos h]
theorem lex_bad (s : List UInt8) (at_ cnt : Nat) (h : s.drop (skipF false s) ≠ []) (h2 : (oneL (s.drop (skipF false s))).2 = 0) : lex s at_ cnt = ([], at_ + skipF false s, 100) := by
  unfold lex; rw [lexF, if_neg h, if_pos h2]
theorem lex_full (s : List UInt8) (at_ cnt : Nat) (h : s.drop (skipF false s) ≠ []) (h2 : (oneL (s.drop (skipF false s))).2 ≠ 0) (h3 : 4096 ≤ cnt) : lex s at_ cnt = ([], at_ + skipF false s, 2) := by
  unfold lex; rw [lexF, if_neg h, if_neg h2, if_pos h3]
theorem lex_one (s : List UInt8) (at_ cnt : Nat) (h : s.drop (skipF false s) ≠ []) (h2 : (oneL (s.drop (skipF false s))).2 ≠ 0) (h3 : cnt < 4096) :
    lex s at_ cnt = put1 ⟨(oneL (s.drop (skipF false s))).1, (s.drop (skipF false s)).take (oneL (s.drop (skipF false s))).2, at_ + skipF false s⟩
      (lex (s.drop (skipF false s + (oneL (s.drop (skipF false s))).2)) (at_ + skipF false s + (oneL (s.drop (skipF false s))).2) (cnt + 1)) := by
  have hl := drop_shorter s h h2
  unfold lex
  rw [lexF, if_neg h, if_neg h2, if_neg (by omega), lexF_two s.length _ _ _ _ hl (Nat.le_refl _)]

/-! ### what is skipped -/
theorem skip_blanks (l : List UInt8) : skipF false l = runL blankB l + skipF false (l.drop (runL blankB l)) := by
  induction l with
  | nil => simp [skipF, runL]
  | cons c t ih =>
    rw [runL_cons]
    by_cases h : blankB c = true
    · rw [if_pos h, List.drop_succ_cons]
      simp only [skipF, if_pos h]
      omega
    · rw [if_neg h]; simp
theorem skip_line (l : List UInt8) : skipF true l = runL noLine l + skipF false (l.drop (runL noLine l)) := by
  induction l with
  | nil => simp [skipF, runL]
  | cons c t ih =>
    rw [runL_cons]
    by_cases h : c.toNat = 10
    · have h2 : ¬ noLine c = true := by unfold noLine; simp [h]
      have h3 : blankB c = true := by unfold blankB; simp [h]
      rw [if_neg h2]
      simp only [skipF, if_pos h, List.drop_zero, if_pos h3]
      omega
    · have h2 : noLine c = true := by unfold noLine; simp [h]
      rw [if_pos h2, List.drop_succ_cons]
      simp only [skipF, if_neg h]
      omega
theorem skip_remark (c : UInt8) (t : List UInt8) (h : c.toNat = 35) : skipF false (c :: t) = runL noLine (c :: t) + skipF false ((c :: t).drop (runL noLine (c :: t))) := by
  have h1 : ¬ blankB c = true := by unfold blankB; simp [h]
  have h2 : noLine c = true := by unfold noLine; simp [h]
  rw [runL_cons, if_pos h2, List.drop_succ_cons]
  have e : skipF false (c :: t) = 1 + skipF true t := by simp only [skipF, if_neg h1, if_pos h]
  rw [e, skip_line t]
  omega
/-- behind j bytes that are skipped the text goes on as one of its own -/
theorem lex_skip (s : List UInt8) (at_ cnt j : Nat) (h : skipF false s = j + skipF false (s.drop j)) : lex s at_ cnt = lex (s.drop j) (at_ + j) cnt := by
  have hd : s.drop (skipF false s) = (s.drop j).drop (skipF false (s.drop j)) := by rw [h, List.drop_drop]
  by_cases h1 : s.drop (skipF false s) = []
  · rw [lex_end s _ _ h1, lex_end (s.drop j) _ _ (by rw [← hd]; exact h1)]
  · by_cases h2 : (oneL (s.drop (skipF false s))).2 = 0
    · rw [lex_bad s _ _ h1 h2, lex_bad (s.drop j) _ _ (by rw [← hd]; exact h1) (by rw [← hd]; exact h2)]
      rw [h]; simp only [Nat.add_assoc]
    · by_cases h3 : 4096 ≤ cnt
      · rw [lex_full s _ _ h1 h2 h3, lex_full (s.drop j) _ _ (by rw [← hd]; exact h1) (by rw [← hd]; exact h2) h3]
        rw [h]; simp only [Nat.add_assoc]
      · rw [lex_one s _ _ h1 h2 (by omega), lex_one (s.drop j) _ _ (by rw [← hd]; exact h1) (by rw [← hd]; exact h2) (by omega)]
        rw [← hd, List.drop_drop]
        rw [show at_ + skipF false s = at_ + j + skipF false (s.drop j) by omega, show j + (skipF false (s.drop j) + (oneL (s.drop (skipF false s))).2) = skipF false s + (oneL (s.drop (skipF false s))).2 by omega]
/-- a sign stands at the text's beginning -/
theorem skip_zero (c : UInt8) (t : List UInt8) (h1 : blankB c = false) (h2 : c.toNat ≠ 35) : skipF false (c :: t) = 0 := by
  simp only [skipF, h1, Bool.false_eq_true, if_false, if_neg h2]
theorem lex_at (s : List UInt8) (at_ cnt : Nat) (c : UInt8) (t : List UInt8) (hs : s = c :: t) (h1 : blankB c = false) (h2 : c.toNat ≠ 35) :
    lex s at_ cnt = if (oneL s).2 = 0 then ([], at_, 100) else if 4096 ≤ cnt then ([], at_, 2) else put1 ⟨(oneL s).1, s.take (oneL s).2, at_⟩ (lex (s.drop (oneL s).2) (at_ + (oneL s).2) (cnt + 1)) := by
  have h0 : skipF false s = 0 := by rw [hs]; exact skip_zero c t h1 h2
  have hd : s.drop (skipF false s) = s := by rw [h0]; rfl
  have hne : s.drop (skipF false s) ≠ [] := by rw [hd, hs]; simp
  by_cases h3 : (oneL s).2 = 0
  · rw [if_pos h3, lex_bad s _ _ hne (by rw [hd]; exact h3), h0, Nat.add_zero]
  · rw [if_neg h3]
    by_cases h4 : 4096 ≤ cnt
    · rw [if_pos h4, lex_full s _ _ hne (by rw [hd]; exact h3) h4, h0, Nat.add_zero]
    · rw [if_neg h4, lex_one s _ _ hne (by rw [hd]; exact h3) (by omega), hd, h0, Nat.add_zero, Nat.zero_add]
theorem lex_nil (at_ cnt : Nat) : lex [] at_ cnt = ([], 0, 0) := lex_end [] at_ cnt rfl

/-- signs that are there already, and what comes -/
def fin (out : List Sg) (r : List Sg × Nat × Nat) : List Sg × Nat × Nat := if r.2.2 = 0 then (out ++ r.1, r.2) else ([], r.2)
theorem fin_put1 (out : List Sg) (x : Sg) (r : List Sg × Nat × Nat) : fin out (put1 x r) = fin (out ++ [x]) r := by
  unfold fin put1
  by_cases h : r.2.2 = 0
  · simp [h]
  · simp [h]
theorem fin_nil (r : List Sg × Nat × Nat) (h : r.2.2 = 0 ∨ r.1 = []) : fin [] r = r := by
  unfold fin
  by_cases h2 : r.2.2 = 0
  · simp [h2]
  · rw [if_neg h2]
    rcases h with h | h
    · exact absurd h h2
    · rw [← h]
theorem lexF_err (f : Nat) : ∀ (s : List UInt8) (at_ cnt : Nat), (lexF f s at_ cnt).2.2 = 0 ∨ (lexF f s at_ cnt).1 = [] := by
  induction f with
  | zero => intro s at_ cnt; exact .inl rfl
  | succ f ih =>
    intro s at_ cnt
    rw [lexF]
    split
    · exact .inl rfl
    · split
      · exact .inr rfl
      · split
        · exact .inr rfl
        · unfold put1
          split
          · rename_i h; exact .inl h
          · exact .inr rfl
theorem lex_err (s : List UInt8) (at_ cnt : Nat) : (lex s at_ cnt).2.2 = 0 ∨ (lex s at_ cnt).1 = [] := lexF_err _ s at_ cnt

/-! ### a round of Signs -/
theorem runL_stop (P : UInt8 → Bool) (l : List UInt8) (h : runL P l < l.length) : P (l[runL P l]) = false := by
  induction l with
  | nil => simp at h
  | cons c t ih =>
    by_cases hc : P c = true
    · have e : runL P (c :: t) = runL P t + 1 := by rw [runL_cons, if_pos hc]
      simp only [e] at h ⊢
      have h2 : runL P t < t.length := by simpa using h
      simpa using ih h2
    · have e : runL P (c :: t) = 0 := by rw [runL_cons, if_neg hc]
      simp only [e]
      simpa using hc
theorem lex_blanks (L : List UInt8) (k cnt : Nat) : lex (L.drop k) k cnt = lex (L.drop (k + runL blankB (L.drop k))) (k + runL blankB (L.drop k)) cnt := by
  rw [← List.drop_drop]; exact lex_skip _ _ _ _ (skip_blanks _)
theorem round_end (L : List UInt8) (k q : Nat) (out : List Sg) (hq : q = k + runL blankB (L.drop k)) (h : q = L.length) : fin out (lex (L.drop k) k out.length) = (out, 0, 0) := by
  rw [lex_blanks, ← hq, h, List.drop_length, lex_nil]; simp [fin]
theorem round_black (L : List UInt8) (k q : Nat) (hq : q = k + runL blankB (L.drop k)) (h : q < L.length) : blankB L[q] = false := by
  subst hq
  have := runL_stop blankB (L.drop k) (by rw [List.length_drop]; omega)
  simpa using this
theorem drop_at (L : List UInt8) (q : Nat) (h : q < L.length) : L.drop q = L[q] :: L.drop (q + 1) := List.drop_eq_getElem_cons h
theorem round_remark (L : List UInt8) (k q n cnt : Nat) (hq : q = k + runL blankB (L.drop k)) (hn : n = runL noLine (L.drop q)) (h : q < L.length) (h35 : L[q].toNat = 35) :
    lex (L.drop k) k cnt = lex (L.drop (q + n)) (q + n) cnt ∧ 0 < n ∧ q + n ≤ L.length := by
  have hd := drop_at L q h
  have hle := runL_le noLine (L.drop q)
  rw [List.length_drop] at hle
  refine ⟨?_, ?_, by omega⟩
  · rw [lex_blanks, ← hq, hn, ← List.drop_drop]
    exact lex_skip _ _ _ _ (by rw [hd]; exact skip_remark _ _ h35)
  · rw [hn, hd, runL_cons, if_pos (by unfold noLine; simp [h35])]; omega
theorem round_sign (L : List UInt8) (k q cnt : Nat) (hq : q = k + runL blankB (L.drop k)) (h : q < L.length) (h35 : L[q].toNat ≠ 35) :
    lex (L.drop k) k cnt = if (oneL (L.drop q)).2 = 0 then ([], q, 100) else if 4096 ≤ cnt then ([], q, 2) else put1 ⟨(oneL (L.drop q)).1, (L.drop q).take (oneL (L.drop q)).2, q⟩ (lex (L.drop (q + (oneL (L.drop q)).2)) (q + (oneL (L.drop q)).2) (cnt + 1)) := by
  rw [lex_blanks, ← hq, lex_at (L.drop q) q cnt (L[q]) (L.drop (q + 1)) (drop_at L q h) (round_black L k q hq h) h35, List.drop_drop]
theorem oneL_len (L : List UInt8) (q : Nat) (h : q < L.length) : q + (oneL (L.drop q)).2 ≤ L.length := by
  have := oneL_pos (L.drop q) (by intro hh; have h9 := congrArg List.length hh; rw [List.length_drop, List.length_nil] at h9; omega)
  rw [List.length_drop] at this; omega
/-- no more than 4096 signs -/
theorem lexF_len (f : Nat) : ∀ (s : List UInt8) (a c : Nat), c ≤ 4096 → (lexF f s a c).1.length + c ≤ 4096 := by
  induction f with
  | zero => intro s a c h; simpa [lexF] using h
  | succ f ih =>
    intro s a c h
    rw [lexF]
    split
    · simpa using h
    · split
      · simpa using h
      · split
        · simpa using h
        · unfold put1
          split
          · have := ih (s.drop (skipF false s + (oneL (s.drop (skipF false s))).2)) (a + skipF false s + (oneL (s.drop (skipF false s))).2) (c + 1) (by omega)
            simp only [List.length_cons]; omega
          · simpa using h
end Go.Proofs.Ytpapmkpcnoighaa.LP
