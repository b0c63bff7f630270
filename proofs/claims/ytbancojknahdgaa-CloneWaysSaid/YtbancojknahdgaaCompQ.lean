/- Layer 19 in plain Lean: how components are numbered (numF), and the laws of the numbers. -/
import Derived.Test.YtbancojknahdgaaCompP
namespace Go.Proofs.Ytbancojknahdgaa.CP
abbrev Ed := List (Nat × Nat)
/-- where each node's edges lead -/
def gr (E : Ed) : Gr := fun a => (E.filter fun e => e.1 == a).map (·.2)
theorem mem_gr {E : Ed} {a b : Nat} : b ∈ gr E a ↔ (a, b) ∈ E := by
  unfold gr
  simp
def EdOk (E : Ed) (n : Nat) : Prop := ∀ e ∈ E, e.1 < n ∧ e.2 < n
theorem gr_lt {E : Ed} {n : Nat} (h : EdOk E n) : ∀ v, ∀ x ∈ gr E v, x < n := fun _ _ hx => (h _ (mem_gr.1 hx)).2
theorem Rc.congr {g g' : Gr} (h : ∀ a b, b ∈ g a → b ∈ g' a) {a b : Nat} (hr : Rc g a b) : Rc g' a b := by
  induction hr with
  | refl => exact Rc.refl
  | tail _ hm ih => exact ih.tail (h _ _ hm)
theorem Rc.lt {E : Ed} {n : Nat} (h : EdOk E n) {a b : Nat} (hr : Rc (gr E) a b) (ha : a < n) : b < n := hr.closed (· < n) (fun v _ x hx => gr_lt h v x hx) ha
/-- two nodes come to each other -/
def Both (E : Ed) (a b : Nat) : Prop := Rc (gr E) a b ∧ Rc (gr E) b a
open Classical in
noncomputable def both (E : Ed) (a b : Nat) : Bool := decide (Both E a b)
theorem both_iff {E : Ed} {a b : Nat} : both E a b = true ↔ Both E a b := by unfold both; simp
theorem both_refl (E : Ed) (a : Nat) : both E a a = true := both_iff.2 ⟨Rc.refl, Rc.refl⟩
theorem both_symm {E : Ed} {a b : Nat} (h : both E a b = true) : both E b a = true := both_iff.2 ⟨(both_iff.1 h).2, (both_iff.1 h).1⟩
theorem both_trans {E : Ed} {a b c : Nat} (h : both E a b = true) (k : both E b c = true) : both E a c = true := both_iff.2 ⟨(both_iff.1 h).1.trans (both_iff.1 k).1, (both_iff.1 k).2.trans (both_iff.1 h).2⟩
theorem both_comm (E : Ed) (a b : Nat) : both E a b = both E b a := by
  cases h : both E b a with
  | true => exact both_symm h
  | false =>
    cases k : both E a b with
    | true => rw [both_symm k] at h; cases h
    | false => rfl
theorem both_left {E : Ed} {a b : Nat} (h : both E a b = true) (c : Nat) : both E a c = both E b c := by
  cases k : both E b c with
  | true => exact both_trans h k
  | false =>
    cases k2 : both E a c with
    | true => rw [both_trans (both_symm h) k2] at k; cases k
    | false => rfl
theorem both_congr {E E' : Ed} (h : ∀ e, e ∈ E ↔ e ∈ E') (a b : Nat) : both E a b = both E' a b := by
  have hg : ∀ a b, b ∈ gr E a → b ∈ gr E' a := fun a b hm => mem_gr.2 ((h _).1 (mem_gr.1 hm))
  have hg' : ∀ a b, b ∈ gr E' a → b ∈ gr E a := fun a b hm => mem_gr.2 ((h _).2 (mem_gr.1 hm))
  cases k : both E' a b with
  | true => exact both_iff.2 ⟨(both_iff.1 k).1.congr hg', (both_iff.1 k).2.congr hg'⟩
  | false =>
    cases k2 : both E a b with
    | true => rw [both_iff.2 ⟨(both_iff.1 k2).1.congr hg, (both_iff.1 k2).2.congr hg⟩] at k; cases k
    | false => rfl
open Classical in
noncomputable def rcB (E : Ed) (a b : Nat) : Bool := decide (Rc (gr E) a b)
theorem rcB_iff {E : Ed} {a b : Nat} : rcB E a b = true ↔ Rc (gr E) a b := by unfold rcB; simp
/-- does no edge lead into a node's component from one that has no number? -/
def freeB (E : Ed) (sm : Nat → Nat → Bool) (num : Nat → Nat) (k : Nat) : Bool := E.all fun e => !sm e.2 k || sm e.1 k || num e.1 != 0
def pick (n : Nat) (E : Ed) (sm : Nat → Nat → Bool) (num : Nat → Nat) : Option Nat := (List.range n).find? fun k => num k == 0 && freeB E sm num k
def stp (n : Nat) (E : Ed) (sm : Nat → Nat → Bool) (j : Nat) (num : Nat → Nat) : Nat → Nat :=
  match pick n E sm num with
  | none => num
  | some k => fun v => if sm v k then j + 1 else num v
/-- the numbers and 1, behind so many rounds; 0: none yet -/
def numF (n : Nat) (E : Ed) (sm : Nat → Nat → Bool) : Nat → Nat → Nat
  | 0 => fun _ => 0
  | j + 1 => stp n E sm j (numF n E sm j)
section
variable {n : Nat} {E : Ed}
theorem pick_some {sm : Nat → Nat → Bool} {num : Nat → Nat} {k : Nat} (h : pick n E sm num = some k) : k < n ∧ num k = 0 ∧ freeB E sm num k = true ∧ ∀ i, i < k → ¬ (num i = 0 ∧ freeB E sm num i = true) := by
  unfold pick at h
  obtain ⟨h1, as, bs, h2, h3⟩ := List.find?_eq_some_iff_append.1 h
  have hk : k ∈ List.range n := by rw [h2]; simp
  have hlen : as.length = k := by
    have : (List.range n)[as.length]? = some k := by rw [h2]; simp
    rw [List.getElem?_eq_some_iff] at this
    obtain ⟨_, h⟩ := this
    simpa using h
  simp at h1
  refine ⟨List.mem_range.1 hk, h1.1, h1.2, fun i hi hh => ?_⟩
  have hia : i ∈ as := by
    have : (List.range n)[i]? = some i := by exact List.getElem?_range (by have := List.mem_range.1 hk; omega)
    rw [h2, List.getElem?_append_left (by omega)] at this
    exact List.mem_of_getElem? this
  have := h3 i hia
  simp [hh.1, hh.2] at this
theorem pick_none {sm : Nat → Nat → Bool} {num : Nat → Nat} (h : pick n E sm num = none) : ∀ i, i < n → num i = 0 → freeB E sm num i = false := fun i hi h0 => by
  unfold pick at h
  rw [List.find?_eq_none] at h
  have := h i (List.mem_range.2 hi)
  simpa [h0] using this
/-- which one is picked: the first that has no number and is free -/
theorem pick_eq {sm : Nat → Nat → Bool} {num : Nat → Nat} {k : Nat} (hk : k < n) (h0 : num k = 0) (hf : freeB E sm num k = true) (hl : ∀ i, i < k → ¬ (num i = 0 ∧ freeB E sm num i = true)) : pick n E sm num = some k := by
  cases e : pick n E sm num with
  | none => have := pick_none e k hk h0; rw [hf] at this; cases this
  | some i =>
    obtain ⟨h1, h2, h3, h4⟩ := pick_some e
    rcases Nat.lt_trichotomy i k with h | h | h
    · exact absurd ⟨h2, h3⟩ (hl i h)
    · rw [h]
    · exact absurd ⟨h0, hf⟩ (h4 k h)
theorem free_congr {sm sm' : Nat → Nat → Bool} {num num' : Nat → Nat} (hE : EdOk E n) {k : Nat} (hk : k < n) (hs : ∀ a b, a < n → b < n → sm a b = sm' a b) (hn : ∀ a, a < n → num a = num' a) : freeB E sm num k = freeB E sm' num' k := by
  unfold freeB
  refine Bool.eq_iff_iff.2 ?_
  rw [List.all_eq_true, List.all_eq_true]
  constructor
  · intro h e he
    have := h e he
    rw [← hs _ _ (hE e he).2 hk, ← hs _ _ (hE e he).1 hk, ← hn _ (hE e he).1]; exact this
  · intro h e he
    have := h e he
    rw [hs _ _ (hE e he).2 hk, hs _ _ (hE e he).1 hk, hn _ (hE e he).1]; exact this
theorem pick_congr {sm sm' : Nat → Nat → Bool} {num num' : Nat → Nat} (hE : EdOk E n) (hs : ∀ a b, a < n → b < n → sm a b = sm' a b) (hn : ∀ a, a < n → num a = num' a) : pick n E sm num = pick n E sm' num' := by
  cases e : pick n E sm' num' with
  | none =>
    cases e2 : pick n E sm num with
    | none => rfl
    | some k =>
      obtain ⟨h1, h2, h3, _⟩ := pick_some e2
      have := pick_none e k h1 (by rw [← hn k h1]; exact h2)
      rw [← free_congr hE h1 hs hn, h3] at this; cases this
  | some k =>
    obtain ⟨h1, h2, h3, h4⟩ := pick_some e
    refine pick_eq h1 (by rw [hn k h1]; exact h2) (by rw [free_congr hE h1 hs hn]; exact h3) fun i hi hh => h4 i hi ⟨by rw [← hn i (by omega)]; exact hh.1, by rw [← free_congr hE (by omega) hs hn]; exact hh.2⟩
/-- what holds of numbers in all rounds -/
structure NumI (n : Nat) (E : Ed) (j : Nat) (num : Nat → Nat) : Prop where
  cls : ∀ u v, both E u v = true → num u = num v
  le : ∀ v, num v ≤ j
  inj : ∀ u v, u < n → v < n → num u = num v → num u ≠ 0 → both E u v = true
  edge : ∀ e ∈ E, num e.2 ≠ 0 → num e.1 ≠ 0 ∧ num e.1 ≤ num e.2
  all : ∀ i, 0 < i → i ≤ j → (∃ v, v < n ∧ num v = 0) → ∃ v, v < n ∧ num v = i
/-- of nodes without a number one is free -/
theorem pick_ex (hE : EdOk E n) {num : Nat → Nat} (_hc : ∀ u v, both E u v = true → num u = num v) (hv : ∃ v, v < n ∧ num v = 0) : ∃ k, pick n E (both E) num = some k := by
  cases e : pick n E (both E) num with
  | some k => exact ⟨k, rfl⟩
  | none =>
    exfalso
    have hno := pick_none e
    -- the fewest ancestors
    have key : ∀ m v, v < n → num v = 0 → cn (fun a => rcB E a v) n = m → False := by
      intro m
      induction m using Nat.strongRecOn with
      | ind m ih =>
        intro v hv h0 hm
        have hf := hno v hv h0
        unfold freeB at hf
        have hf2 : ∃ e ∈ E, both E e.2 v = true ∧ both E e.1 v = false ∧ num e.1 = 0 := by
          rw [List.all_eq_false] at hf
          obtain ⟨e, he, h⟩ := hf
          simp at h
          exact ⟨e, he, h.1.1, h.1.2, h.2⟩
        obtain ⟨e, he, h1, h2, h3⟩ := hf2
        have hb := both_iff.1 h1
        have hedge : Rc (gr E) e.1 e.2 := Rc.one (mem_gr.2 he)
        have hlt := cn_less (p := fun a => rcB E a e.1) (q := fun a => rcB E a v) (k := v) (n := n)
          (fun i _ hi => by
            have hi := rcB_iff.1 hi
            exact rcB_iff.2 ((hi.trans hedge).trans hb.1)) hv
          (by
            cases hh : rcB E v e.1 with
            | false => rfl
            | true =>
              have : both E e.1 v = true := both_iff.2 ⟨hedge.trans hb.1, rcB_iff.1 hh⟩
              rw [h2] at this; cases this) (rcB_iff.2 Rc.refl)
        exact ih _ (by rw [← hm]; exact hlt) e.1 (hE e he).1 h3 rfl
    obtain ⟨v, h1, h2⟩ := hv
    exact key _ v h1 h2 rfl
theorem NumI.zero (n : Nat) (E : Ed) : NumI n E 0 fun _ => 0 := ⟨fun _ _ _ => rfl, fun _ => Nat.le_refl _, fun _ _ _ _ _ h => absurd rfl h, fun _ _ h => absurd rfl h, fun i h1 h2 => by omega⟩
theorem NumI.step {j : Nat} {num : Nat → Nat} (hE : EdOk E n) (h : NumI n E j num) : NumI n E (j + 1) (stp n E (both E) j num) := by
  unfold stp
  cases e : pick n E (both E) num with
  | none =>
    refine ⟨h.cls, fun v => by have := h.le v; show num v ≤ _; omega, h.inj, h.edge, fun i h1 h2 hv => ?_⟩
    obtain ⟨k, hk⟩ := pick_ex hE h.cls hv
    rw [hk] at e; cases e
  | some k =>
    obtain ⟨hk, h0, hf, _⟩ := pick_some e
    have hfree : ∀ e ∈ E, both E e.2 k = true → both E e.1 k = true ∨ num e.1 ≠ 0 := fun e he h1 => by
      unfold freeB at hf
      have := List.all_eq_true.1 hf e he
      simp [h1] at this
      exact this
    have hz : ∀ v, both E v k = true → num v = 0 := fun v hv => by rw [h.cls v k hv]; exact h0
    refine ⟨?_, ?_, ?_, ?_, ?_⟩
    · intro u v huv
      show (if both E u k then _ else _) = (if both E v k then _ else _)
      rw [both_left huv k, h.cls u v huv]
    · intro v
      show (if both E v k then _ else _) ≤ _
      split
      · exact Nat.le_refl _
      · have := h.le v; omega
    · intro u v hu hv
      show (if both E u k then _ else _) = (if both E v k then _ else _) → (if both E u k then _ else _) ≠ 0 → _
      cases h1 : both E u k with
      | true =>
        cases h2 : both E v k with
        | true => exact fun _ _ => both_trans h1 (both_symm h2)
        | false =>
          intro hh _
          have := h.le v
          simp at hh; omega
      | false =>
        cases h2 : both E v k with
        | true =>
          intro hh _
          have := h.le u
          simp at hh; omega
        | false =>
          intro h3 h4
          simp at h3 h4
          exact h.inj u v hu hv h3 h4
    · intro e he
      show (if both E e.2 k then _ else _) ≠ 0 → (if both E e.1 k then _ else _) ≠ 0 ∧ (if both E e.1 k then _ else _) ≤ (if both E e.2 k then _ else _)
      cases h2 : both E e.2 k with
      | true =>
        cases h1 : both E e.1 k with
        | true => intro _; simp
        | false =>
          intro _
          have h3 := (hfree e he h2).resolve_left (by rw [h1]; decide)
          have := h.le e.1
          simp
          exact ⟨h3, by omega⟩
      | false =>
        intro h3
        simp at h3
        obtain ⟨h4, h5⟩ := h.edge e he h3
        cases h1 : both E e.1 k with
        | true => exact absurd (hz _ h1) h4
        | false => simp; exact ⟨h4, h5⟩
    · intro i h1 h2 hv
      by_cases e : i = j + 1
      · exact ⟨k, hk, by show (if both E k k then _ else _) = _; rw [both_refl, if_pos rfl, e]⟩
      · obtain ⟨v, hv1, hv2⟩ := hv
        have hv0 : num v = 0 := by
          have hv2 : (if both E v k then j + 1 else num v) = 0 := hv2
          split at hv2
          · omega
          · exact hv2
        obtain ⟨u, h3, h4⟩ := h.all i h1 (by omega) ⟨v, hv1, hv0⟩
        refine ⟨u, h3, ?_⟩
        show (if both E u k then _ else _) = _
        cases h5 : both E u k with
        | true => have := hz u h5; omega
        | false => simpa using h4
theorem numI (hE : EdOk E n) : ∀ j, NumI n E j (numF n E (both E) j)
  | 0 => NumI.zero n E
  | j + 1 => NumI.step hE (numI hE j)
/-- with as many rounds as nodes all have a number -/
theorem num_grows (hE : EdOk E n) : ∀ j, (∃ v, v < n ∧ numF n E (both E) j v = 0) → j ≤ cn (fun v => numF n E (both E) j v != 0) n
  | 0, _ => Nat.zero_le _
  | j + 1, hv => by
    have hI := numI hE j
    obtain ⟨v, h1, h2⟩ := hv
    have h2' : stp n E (both E) j (numF n E (both E) j) v = 0 := h2
    have hlt : ∀ u, numF n E (both E) j u ≠ 0 → numF n E (both E) (j + 1) u ≠ 0 := fun u hu => by
      show stp n E (both E) j (numF n E (both E) j) u ≠ 0
      unfold stp
      cases pick n E (both E) (numF n E (both E) j) with
      | none => exact hu
      | some k =>
        show (if both E u k then _ else _) ≠ 0
        split
        · omega
        · exact hu
    have hv0 : numF n E (both E) j v = 0 := by
      rcases Nat.eq_zero_or_pos (numF n E (both E) j v) with h | h
      · exact h
      · exact absurd h2 (hlt v (by omega))
    have ih := num_grows hE j ⟨v, h1, hv0⟩
    obtain ⟨k, hk⟩ := pick_ex hE hI.cls ⟨v, h1, hv0⟩
    obtain ⟨hkn, hk0, _, _⟩ := pick_some hk
    have := cn_less (p := fun v => numF n E (both E) j v != 0) (q := fun v => numF n E (both E) (j + 1) v != 0) (k := k) (n := n)
      (fun i _ hi => by simp at hi ⊢; exact hlt i hi) hkn (by simp [hk0]) (by
        show (stp n E (both E) j (numF n E (both E) j) k != 0) = true
        unfold stp
        rw [hk]
        simp [both_refl])
    omega
theorem num_all (hE : EdOk E n) : ∀ v, v < n → numF n E (both E) n v ≠ 0 := fun v hv h0 => by
  have h1 := num_grows hE n ⟨v, hv, h0⟩
  have h2 := cn_full (p := fun v => numF n E (both E) n v != 0) (n := n) (by have := cn_le (fun v => numF n E (both E) n v != 0) n; omega) v hv
  simp at h2
  exact h2 h0
theorem num_still (_hE : EdOk E n) {a : Nat} (ha : ∀ v, v < n → numF n E (both E) a v ≠ 0) : ∀ d, numF n E (both E) (a + d) = numF n E (both E) a
  | 0 => rfl
  | d + 1 => by
    show stp n E (both E) (a + d) (numF n E (both E) (a + d)) = _
    rw [num_still _hE ha d]
    unfold stp
    cases e : pick n E (both E) (numF n E (both E) a) with
    | none => rfl
    | some k => obtain ⟨h1, h2, _⟩ := pick_some e; exact absurd h2 (ha k h1)
/-- the numbers of the components -/
noncomputable def cmp (n : Nat) (E : Ed) (v : Nat) : Nat := numF n E (both E) n v - 1
theorem cmp_of (hE : EdOk E n) {a : Nat} (ha : ∀ v, v < n → numF n E (both E) a v ≠ 0) (v : Nat) : numF n E (both E) a v - 1 = cmp n E v := by
  unfold cmp
  rcases Nat.le_total a n with h | h
  · have := num_still hE ha (n - a)
    rw [show a + (n - a) = n from by omega] at this
    rw [this]
  · have := num_still hE (num_all hE) (a - n)
    rw [show n + (a - n) = a from by omega] at this
    rw [this]
theorem cmp_same (hE : EdOk E n) {u v : Nat} (hu : u < n) (hv : v < n) : cmp n E u = cmp n E v ↔ both E u v = true := by
  have hI := numI hE n
  have h1 := num_all hE u hu
  have h2 := num_all hE v hv
  unfold cmp
  exact ⟨fun h => hI.inj u v hu hv (by omega) h1, fun h => by rw [hI.cls u v h]⟩
theorem cmp_edge (hE : EdOk E n) {e : Nat × Nat} (he : e ∈ E) : cmp n E e.1 ≤ cmp n E e.2 := by
  have := ((numI hE n).edge e he (num_all hE e.2 (hE e he).2)).2
  unfold cmp
  omega
theorem cmp_lt (hE : EdOk E n) {v : Nat} (hv : v < n) : cmp n E v < n := by
  have h1 := (numI hE n).le v
  have h2 := num_all hE v hv
  unfold cmp
  omega
theorem numF_congr {E' : Ed} (h : ∀ e, e ∈ E ↔ e ∈ E') : ∀ j, numF n E (both E) j = numF n E' (both E') j
  | 0 => rfl
  | j + 1 => by
    show stp n E (both E) j _ = stp n E' (both E') j _
    rw [numF_congr h j]
    have hs : both E = both E' := by funext a b; exact both_congr h a b
    have hp : pick n E (both E) (numF n E' (both E') j) = pick n E' (both E') (numF n E' (both E') j) := by
      unfold pick
      congr 1
      funext k
      congr 1
      unfold freeB
      rw [hs]
      refine Bool.eq_iff_iff.2 ?_
      rw [List.all_eq_true, List.all_eq_true]
      exact ⟨fun hh e he => hh e ((h e).2 he), fun hh e he => hh e ((h e).1 he)⟩
    unfold stp
    rw [hp, hs]
theorem cmp_congr {E' : Ed} (h : ∀ e, e ∈ E ↔ e ∈ E') (v : Nat) : cmp n E v = cmp n E' v := by unfold cmp; rw [numF_congr h]
end
end Go.Proofs.Ytbancojknahdgaa.CP
