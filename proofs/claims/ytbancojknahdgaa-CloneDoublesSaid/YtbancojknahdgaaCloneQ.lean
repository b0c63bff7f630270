/- Layer 20 in plain Lean: the way of a context, the context of a way, and that they lead there and back. -/
import Derived.Test.YtbancojknahdgaaCloneP
namespace Go.Proofs.Ytbancojknahdgaa.CP
variable {fc tc : Nat → Nat} {L mc m : Nat}
theorem cnt_low (h : Up fc tc L m) (hmc : mc < m) : ∀ c, c < mc → cntF fc tc L mc m c = 0 := by
  intro c
  induction c using Nat.strongRecOn with
  | ind c ih =>
    intro hc
    rw [cnt_eq h (by omega), if_neg (by omega)]
    have e : lsum fc (cntF fc tc L mc m) (inL fc tc c L) = lsum fc (fun _ => 0) (inL fc tc c L) := lsum_congr fun j hj => by
      have := h.lt (Nat.le_refl _) hj
      exact ih _ this (by omega)
    rw [e]
    unfold lsum
    clear e
    generalize inL fc tc c L = l
    induction l with
    | nil => rfl
    | cons a l ihl => simpa using ihl
theorem cnt_main (h : Up fc tc L m) (hmc : mc < m) : cntF fc tc L mc m mc = 1 := by
  rw [cnt_eq h hmc, if_pos rfl]
  have e : lsum fc (cntF fc tc L mc m) (inL fc tc mc L) = lsum fc (fun _ => 0) (inL fc tc mc L) := lsum_congr fun j hj => cnt_low h hmc _ (h.lt (Nat.le_refl _) hj)
  rw [e]
  unfold lsum
  clear e
  generalize inL fc tc mc L = l
  induction l with
  | nil => rfl
  | cons a l ihl => simpa using ihl
section
variable (fc tc : Nat → Nat) (cn ad : Nat → Nat)
/-- may an edge be the last of a context's way? -/
def wayP (at_ ctx j : Nat) : Bool := tc j == at_ && fc j != at_ && decide (0 < cn (fc j)) && decide (ad j ≤ ctx)
/-- the last such edge among the first i -/
def lastI (at_ ctx : Nat) : Nat → Int
  | 0 => -1
  | i + 1 => if wayP fc tc cn ad at_ ctx i then (i : Int) else lastI at_ ctx i
/-- a context's way, its last edge first -/
def wayB (L mc : Nat) : Nat → Nat → Nat → List Nat
  | 0, _, _ => []
  | f + 1, at_, ctx => if at_ = mc then [] else
    let k := (lastI fc tc cn ad at_ ctx L).toNat
    k :: wayB L mc f (fc k) (ctx - ad k)
/-- the component and the number to which a way leads -/
def ctxF (L : Nat) : List Int → Nat → Nat → Option (Nat × Nat)
  | [], at_, n => some (at_, n)
  | z :: r, at_, n => if z < 0 ∨ (L : Int) ≤ z then none else if fc z.toNat ≠ at_ ∨ tc z.toNat = at_ then none else ctxF L r (tc z.toNat) (n + ad z.toNat)
end
theorem ctxF_app (fc tc ad : Nat → Nat) (L : Nat) : ∀ (a b : List Int) (x n : Nat), ctxF fc tc ad L (a ++ b) x n = (ctxF fc tc ad L a x n).bind fun p => ctxF fc tc ad L b p.1 p.2
  | [], _, _, _ => rfl
  | z :: a, b, x, n => by
    show (if _ then _ else if _ then _ else _) = Option.bind (if _ then _ else if _ then _ else _) _
    split
    · rfl
    · split
      · rfl
      · exact ctxF_app fc tc ad L a b _ _
theorem lastI_ge (fc tc cn ad : Nat → Nat) (a c : Nat) : ∀ i, -1 ≤ lastI fc tc cn ad a c i
  | 0 => Int.le_refl _
  | i + 1 => by
    unfold lastI
    split
    · exact Int.le_trans (by decide) (Int.natCast_nonneg i)
    · exact lastI_ge fc tc cn ad a c i
theorem lastI_lt (fc tc cn ad : Nat → Nat) (a c : Nat) : ∀ i, lastI fc tc cn ad a c i < (i : Int)
  | 0 => by show (-1 : Int) < ((0 : Nat) : Int); decide
  | i + 1 => by
    show (if _ then _ else _) < _
    split
    · omega
    · have := lastI_lt fc tc cn ad a c i; omega
theorem lastI_of {fc tc cn ad : Nat → Nat} {a c k : Nat} (hk : wayP fc tc cn ad a c k = true) : ∀ i, k < i → (∀ j, k < j → j < i → wayP fc tc cn ad a c j = false) → lastI fc tc cn ad a c i = (k : Int)
  | 0, h, _ => absurd h (Nat.not_lt_zero _)
  | i + 1, h, hno => by
    show (if _ then _ else _) = _
    by_cases e : k = i
    · subst e; rw [if_pos hk]
    · rw [if_neg (by rw [hno i (by omega) (by omega)]; decide)]
      exact lastI_of hk i (by omega) fun j h1 h2 => hno j h1 (by omega)
theorem cross {fc cn : Nat → Nat} {l : List Nat} {c : Nat} : ∀ q, q ≤ l.length → c < lsum fc cn (l.take q) → ∃ p k, l[p]? = some k ∧ lsum fc cn (l.take p) ≤ c ∧ c < lsum fc cn (l.take p) + cn (fc k)
  | 0, _, h => by simp [lsum] at h
  | q + 1, hq, h => by
    by_cases h2 : c < lsum fc cn (l.take q)
    · exact cross q (by omega) h2
    · obtain ⟨k, hk⟩ : ∃ k, l[q]? = some k := ⟨_, List.getElem?_eq_getElem (by omega)⟩
      rw [lsum_step hk] at h
      exact ⟨q, k, hk, by omega, h⟩
/-- a context that there is -/
def OkS (fc tc : Nat → Nat) (L mc m a c : Nat) : Prop := a < m ∧ c < cntF fc tc L mc m a
/-- the last edge of a context's way -/
theorem last_ok (h : Up fc tc L m) {a c : Nat} (hs : OkS fc tc L mc m a c) (hne : a ≠ mc) :
    ∃ k : Nat, lastI fc tc (cntF fc tc L mc m) (addF fc tc L mc m) a c L = (k : Int) ∧ k < L ∧ tc k = a ∧ fc k < a ∧ addF fc tc L mc m k ≤ c ∧ OkS fc tc L mc m (fc k) (c - addF fc tc L mc m k) := by
  obtain ⟨ha, hc⟩ := hs
  rw [cnt_eq h ha, if_neg hne, Nat.zero_add] at hc
  obtain ⟨p, k, hp, h1, h2⟩ := cross (l := inL fc tc a L) _ (Nat.le_refl _) (by rw [List.take_length]; exact hc)
  obtain ⟨hkL, hkt, hkf⟩ := mem_inL.1 (List.mem_of_getElem? hp)
  have hlt : fc k < a := by have := (h k hkL).1; omega
  have hpos : 0 < cntF fc tc L mc m (fc k) := by omega
  have had : addF fc tc L mc m k = lsum fc (cntF fc tc L mc m) ((inL fc tc a L).take p) := by
    unfold addF
    rw [if_neg (by omega), hkt, if_neg hne, Nat.zero_add, inL_at hp]
  refine ⟨k, lastI_of ?_ L hkL fun j hj hjL => ?_, hkL, hkt, hlt, by omega, by omega, by omega⟩
  · unfold wayP
    simp only [Bool.and_eq_true, decide_eq_true_eq, beq_iff_eq, bne_iff_ne]
    exact ⟨⟨⟨hkt, hkf⟩, hpos⟩, by omega⟩
  · cases hw : wayP fc tc (cntF fc tc L mc m) (addF fc tc L mc m) a c j with
    | false => rfl
    | true =>
      exfalso
      unfold wayP at hw
      simp only [Bool.and_eq_true, decide_eq_true_eq, beq_iff_eq, bne_iff_ne] at hw
      obtain ⟨⟨⟨w1, w2⟩, w3⟩, w4⟩ := hw
      have := add_later (fc := fc) (tc := tc) (L := L) (mc := mc) (m := m) hj (by rw [hkt, w1]) (by omega) (by rw [w1]; exact w2) (by omega) (by omega)
      omega
theorem wayB_lt (h : Up fc tc L m) : ∀ (f a c : Nat), OkS fc tc L mc m a c → a < f → ∀ k ∈ wayB fc tc (cntF fc tc L mc m) (addF fc tc L mc m) L mc f a c, k < L
  | 0, _, _, _, h0 => absurd h0 (Nat.not_lt_zero _)
  | f + 1, a, c, hs, hf => by
    intro k hk
    unfold wayB at hk
    by_cases e : a = mc
    · rw [if_pos e] at hk; cases hk
    · rw [if_neg e] at hk
      obtain ⟨k2, hl, h1, h2, h3, h4, h5⟩ := last_ok h hs e
      rw [hl] at hk
      simp only [Int.toNat_natCast] at hk
      rcases List.mem_cons.1 hk with rfl | hk
      · exact h1
      · exact wayB_lt h f _ _ h5 (by omega) k hk
/-- there and back -/
theorem ctx_way (h : Up fc tc L m) (hmc : mc < m) : ∀ (f a c : Nat), OkS fc tc L mc m a c → a < f →
    ctxF fc tc (addF fc tc L mc m) L ((wayB fc tc (cntF fc tc L mc m) (addF fc tc L mc m) L mc f a c).reverse.map fun k : Nat => (k : Int)) mc 0 = some (a, c)
  | 0, _, _, _, h0 => absurd h0 (Nat.not_lt_zero _)
  | f + 1, a, c, hs, hf => by
    unfold wayB
    by_cases e : a = mc
    · rw [if_pos e]
      have h1 := hs.2
      rw [e, cnt_main h hmc] at h1
      show some (mc, 0) = _
      rw [e, show c = 0 from by omega]
    · rw [if_neg e]
      obtain ⟨k, hl, h1, h2, h3, h4, h5⟩ := last_ok h hs e
      rw [hl]
      simp only [Int.toNat_natCast, List.reverse_cons, List.map_append, List.map_cons, List.map_nil]
      rw [ctxF_app, ctx_way h hmc f _ _ h5 (by omega)]
      show ctxF _ _ _ _ [(k : Int)] _ _ = _
      unfold ctxF
      rw [if_neg (by omega), if_neg (by rw [Int.toNat_natCast]; omega)]
      unfold ctxF
      rw [Int.toNat_natCast, h2]
      congr 2
      omega
/-- what a way adds up to is a context -/
theorem ctx_step (h : Up fc tc L m) {a n k : Nat} (hs : OkS fc tc L mc m a n) (hk : k < L) (hf : fc k = a) (ht : tc k ≠ a) : OkS fc tc L mc m (tc k) (n + addF fc tc L mc m k) := by
  have h1 := add_le (mc := mc) h hk (by omega) (by have := hs.2; rw [hf]; omega)
  have h2 := hs.2
  rw [hf] at h1
  exact ⟨(h k hk).2, by omega⟩
end Go.Proofs.Ytbancojknahdgaa.CP
