/- Plain laws of the lexer: where signs stand, and what stands between them. -/
import Derived.Test.YtpapmkpcnoighaaLexP
namespace Go.Proofs.Ytpapmkpcnoighaa.LP
def nxt (b : Bool) (c : UInt8) : Bool := if c.toNat = 10 then false else if c.toNat = 35 then true else b
def white : Bool → List UInt8 → Bool
  | _, [] => true
  | b, c :: t => (nxt b c || blankB c) && white (nxt b c) t
theorem white_skip (L : List UInt8) : ∀ b, white b (L.take (skipF b L)) = true := by
  induction L with
  | nil => intro b; cases b <;> rfl
  | cons c t ih =>
    intro b
    cases b
    · by_cases h1 : blankB c = true
      · have e : skipF false (c :: t) = skipF false t + 1 := by rw [skipF, if_pos h1]; omega
        have h35 : c.toNat ≠ 35 := by intro h; unfold blankB at h1; simp [h] at h1
        have hn : nxt false c = false := by unfold nxt; rw [if_neg h35]; simp
        rw [e, List.take_succ_cons, white, hn, h1, ih]; rfl
      · by_cases h2 : c.toNat = 35
        · have e : skipF false (c :: t) = skipF true t + 1 := by rw [skipF, if_neg h1, if_pos h2]; omega
          have hn : nxt false c = true := by unfold nxt; rw [if_neg (by omega), if_pos h2]
          rw [e, List.take_succ_cons, white, hn, ih]; rfl
        · have e : skipF false (c :: t) = 0 := by rw [skipF, if_neg h1, if_neg h2]
          rw [e]; rfl
    · by_cases h1 : c.toNat = 10
      · have e : skipF true (c :: t) = skipF false t + 1 := by rw [skipF, if_pos h1]; omega
        have hn : nxt true c = false := by unfold nxt; rw [if_pos h1]
        have hb : blankB c = true := by unfold blankB; simp [h1]
        rw [e, List.take_succ_cons, white, hn, hb, ih]; rfl
      · have e : skipF true (c :: t) = skipF true t + 1 := by rw [skipF, if_neg h1]; omega
        have hn : nxt true c = true := by unfold nxt; rw [if_neg h1]; simp
        rw [e, List.take_succ_cons, white, hn, ih]; rfl
def Placed (L : List UInt8) : Nat → List Sg → Prop
  | k, [] => k ≤ L.length ∧ white false (L.drop k) = true
  | k, x :: t => k ≤ x.pos ∧ 0 < x.text.length ∧ x.pos + x.text.length ≤ L.length ∧ x.text = (L.drop x.pos).take x.text.length ∧ white false ((L.drop k).take (x.pos - k)) = true ∧ Placed L (x.pos + x.text.length) t
theorem lexF_step (L : List UInt8) (f k cnt q K n : Nat) (hq : q = k + skipF false (L.drop k)) (ho : oneL (L.drop q) = (K, n)) :
    lexF (f + 1) (L.drop k) k cnt = if L.drop q = [] then ([], 0, 0) else if n = 0 then ([], q, 100) else if 4096 ≤ cnt then ([], q, 2) else put1 ⟨K, (L.drop q).take n, q⟩ (lexF f (L.drop (q + n)) (q + n) (cnt + 1)) := by
  have e : (L.drop k).drop (skipF false (L.drop k)) = L.drop q := by rw [List.drop_drop, ← hq]
  rw [lexF, e, ho, ← hq]
  have e2 : (L.drop k).drop (skipF false (L.drop k) + n) = L.drop (q + n) := by rw [List.drop_drop, ← Nat.add_assoc, ← hq]
  simp only
  rw [e2]
theorem lexF_placed (L : List UInt8) (f : Nat) : ∀ (k cnt : Nat) (l : List Sg), L.length - k + 1 ≤ f → k ≤ L.length → lexF f (L.drop k) k cnt = (l, 0, 0) → Placed L k l := by
  induction f with
  | zero => intro k cnt l h; omega
  | succ f ih =>
    intro k cnt l hf hk h
    have hw := white_skip (L.drop k) false
    have hle := skipF_le false (L.drop k)
    obtain ⟨q, hq⟩ : ∃ q, q = k + skipF false (L.drop k) := ⟨_, rfl⟩
    obtain ⟨K, n, ho⟩ : ∃ K n, oneL (L.drop q) = (K, n) := ⟨_, _, rfl⟩
    rw [lexF_step L f k cnt q K n hq ho] at h
    rw [show skipF false (L.drop k) = q - k by omega] at hw
    rw [List.length_drop] at hle
    by_cases hd : L.drop q = []
    · rw [if_pos hd] at h
      have e : [] = l := congrArg (fun r => r.1) h
      subst e
      refine ⟨hk, ?_⟩
      have h9 := congrArg List.length hd
      rw [List.length_drop, List.length_nil] at h9
      rw [List.take_of_length_le (by rw [List.length_drop]; omega)] at hw; exact hw
    · have h9 : 0 < (L.drop q).length := List.length_pos_iff.2 hd
      have hol := oneL_pos _ hd
      rw [ho] at hol
      have hol2 : n ≤ (L.drop q).length := hol
      rw [List.length_drop] at h9 hol2
      rw [if_neg hd] at h
      by_cases h2 : n = 0
      · rw [if_pos h2] at h; exact absurd (congrArg (fun r => r.2.2) h) (show ¬ ((100 : Nat) = 0) by decide)
      · rw [if_neg h2] at h
        by_cases h3 : 4096 ≤ cnt
        · rw [if_pos h3] at h; exact absurd (congrArg (fun r => r.2.2) h) (show ¬ ((2 : Nat) = 0) by decide)
        · rw [if_neg h3] at h
          obtain ⟨R, hR⟩ : ∃ R, R = lexF f (L.drop (q + n)) (q + n) (cnt + 1) := ⟨_, rfl⟩
          rw [← hR] at h
          unfold put1 at h
          by_cases hz : R.2.2 = 0
          · rw [if_pos hz] at h
            have h1 : _ = l := congrArg (fun r => r.1) h
            have h4 : R.2 = (0, 0) := congrArg (fun r => r.2) h
            subst h1
            have hlen : ((L.drop q).take n).length = n := by rw [List.length_take, List.length_drop]; omega
            refine ⟨by show k ≤ q; omega, by show 0 < ((L.drop q).take n).length; omega, by show q + ((L.drop q).take n).length ≤ L.length; omega, by show (L.drop q).take n = (L.drop q).take ((L.drop q).take n).length; rw [hlen], hw, ?_⟩
            show Placed L (q + ((L.drop q).take n).length) R.1
            rw [hlen]
            exact ih (q + n) (cnt + 1) R.1 (by omega) (by omega) (by rw [← hR]; exact Prod.ext rfl h4)
          · rw [if_neg hz] at h
            exact absurd (congrArg (fun r => r.2.2) h) hz
theorem lex_placed (L : List UInt8) (l : List Sg) (h : lex L 0 0 = (l, 0, 0)) : Placed L 0 l := by
  refine lexF_placed L (L.length + 1) 0 0 l (by omega) (by omega) ?_
  exact h
theorem lexF_at (L : List UInt8) (f : Nat) : ∀ (k cnt : Nat), k ≤ L.length → (lexF f (L.drop k) k cnt).2.2 ≠ 0 → (lexF f (L.drop k) k cnt).2.1 < L.length := by
  induction f with
  | zero => intro k cnt hk h; exact absurd rfl h
  | succ f ih =>
    intro k cnt hk
    have hle := skipF_le false (L.drop k)
    obtain ⟨q, hq⟩ : ∃ q, q = k + skipF false (L.drop k) := ⟨_, rfl⟩
    obtain ⟨K, n, ho⟩ : ∃ K n, oneL (L.drop q) = (K, n) := ⟨_, _, rfl⟩
    rw [lexF_step L f k cnt q K n hq ho]
    rw [List.length_drop] at hle
    by_cases hd : L.drop q = []
    · rw [if_pos hd]; intro h; exact absurd rfl h
    · have h9 : 0 < (L.drop q).length := List.length_pos_iff.2 hd
      have hol := oneL_pos _ hd
      rw [ho] at hol
      have hol2 : n ≤ (L.drop q).length := hol
      rw [List.length_drop] at h9 hol2
      rw [if_neg hd]
      by_cases h2 : n = 0
      · rw [if_pos h2]; intro _; show q < L.length; omega
      · rw [if_neg h2]
        by_cases h3 : 4096 ≤ cnt
        · rw [if_pos h3]; intro _; show q < L.length; omega
        · rw [if_neg h3]
          unfold put1
          intro h
          by_cases hz : (lexF f (L.drop (q + n)) (q + n) (cnt + 1)).2.2 = 0
          · rw [if_pos hz] at h; exact absurd hz h
          · rw [if_neg hz]; exact ih (q + n) (cnt + 1) (by omega) hz
theorem lex_at_lt (L : List UInt8) (h : (lex L 0 0).2.2 ≠ 0) : (lex L 0 0).2.1 < L.length := lexF_at L _ 0 0 (by omega) h
theorem lexF_zero (f : Nat) : ∀ (s : List UInt8) (a c : Nat), (lexF f s a c).2.2 = 0 → (lexF f s a c).2.1 = 0 := by
  induction f with
  | zero => intro s a c _; rfl
  | succ f ih =>
    intro s a c
    rw [lexF]
    split
    · intro _; rfl
    · split
      · intro h; exact absurd h (show ¬ ((100 : Nat) = 0) by decide)
      · split
        · intro h; exact absurd h (show ¬ ((2 : Nat) = 0) by decide)
        · unfold put1
          split
          · rename_i hz; intro _; exact ih _ _ _ hz
          · rename_i hz; intro h; exact absurd h hz
end Go.Proofs.Ytpapmkpcnoighaa.LP
