/- The reference of layer 19 in plain Lean: the least node of each component, and which node gets the next number. -/
import Derived.Test.YtbancojknahdgaaCompQ
namespace Go.Proofs.Ytbancojknahdgaa.CP
/-- the least node that is one with i, looked for from i down by so many steps -/
noncomputable def lsD (E : Ed) (i : Nat) : Nat → Nat
  | 0 => i
  | d + 1 => if both E i (i - 1 - d) then i - 1 - d else lsD E i d
theorem lsD_le (E : Ed) (i : Nat) : ∀ d, lsD E i d ≤ i
  | 0 => Nat.le_refl _
  | d + 1 => by
    unfold lsD
    split
    · omega
    · exact lsD_le E i d
theorem lsD_both (E : Ed) (i : Nat) : ∀ d, both E i (lsD E i d) = true
  | 0 => both_refl E i
  | d + 1 => by
    unfold lsD
    split
    · rename_i h; exact h
    · exact lsD_both E i d
theorem lsD_least (E : Ed) (i : Nat) : ∀ d, d ≤ i → ∀ u, i - d ≤ u → u < lsD E i d → both E i u = false
  | 0, _, u, h1, h2 => absurd h2 (by show ¬ u < i; omega)
  | d + 1, hd, u, h1, h2 => by
    unfold lsD at h2
    split at h2
    · omega
    · rename_i h
      by_cases e : u = i - 1 - d
      · rw [e]; simpa using h
      · exact lsD_least E i d (by omega) u (by omega) h2
noncomputable def ls (E : Ed) (i : Nat) : Nat := lsD E i i
theorem ls_le (E : Ed) (i : Nat) : ls E i ≤ i := lsD_le E i i
theorem ls_both (E : Ed) (i : Nat) : both E i (ls E i) = true := lsD_both E i i
theorem ls_least (E : Ed) (i u : Nat) (h : both E i u = true) : ls E i ≤ u := by
  rcases Nat.lt_or_ge u (ls E i) with h1 | h1
  · have := lsD_least E i i (Nat.le_refl _) u (by omega) h1
    rw [h] at this; cases this
  · exact h1
theorem ls_eq {E : Ed} {u v : Nat} (h : both E u v = true) : ls E u = ls E v := by
  have h1 := ls_least E u (ls E v) (both_trans h (ls_both E v))
  have h2 := ls_least E v (ls E u) (both_trans (both_symm h) (ls_both E u))
  omega
theorem ls_iff {E : Ed} {u v : Nat} : ls E u = ls E v ↔ both E u v = true := by
  refine ⟨fun h => ?_, ls_eq⟩
  have h1 := ls_both E u
  rw [h] at h1
  exact both_trans h1 (both_symm (ls_both E v))
theorem ls_ls (E : Ed) (v : Nat) : ls E (ls E v) = ls E v := ls_eq (both_symm (ls_both E v))
theorem ls_lt {E : Ed} {v n : Nat} (h : v < n) : ls E v < n := Nat.lt_of_le_of_lt (ls_le E v) h
/-- is a least node free? (as the reference asks) -/
noncomputable def frR (E : Ed) (num : Nat → Nat) (i : Nat) (e : Nat × Nat) : Bool := ls E e.2 != i || ls E e.1 == i || decide (0 < num (ls E e.1))
variable {n : Nat} {E : Ed}
theorem frR_all {num numR : Nat → Nat} (hE : EdOk E n) (hn : ∀ v, v < n → numR (ls E v) = num v) {i : Nat} (hl : ls E i = i) : (E.all fun e => frR E numR i e) = freeB E (both E) num i := by
  unfold freeB
  refine Bool.eq_iff_iff.2 ?_
  rw [List.all_eq_true, List.all_eq_true]
  have key : ∀ e ∈ E, frR E numR i e = (!both E e.2 i || both E e.1 i || num e.1 != 0) := fun e he => by
    unfold frR
    have h1 : (ls E e.2 != i) = !both E e.2 i := by
      cases h : both E e.2 i with
      | true => have := ls_eq h; rw [hl] at this; rw [this]; simp
      | false =>
        have : ls E e.2 ≠ i := fun e2 => by rw [← hl] at e2; rw [ls_iff.1 e2] at h; cases h
        simpa using this
    have h2 : (ls E e.1 == i) = both E e.1 i := by
      cases h : both E e.1 i with
      | true => have := ls_eq h; rw [hl] at this; rw [this]; simp
      | false =>
        have : ls E e.1 ≠ i := fun e2 => by rw [← hl] at e2; rw [ls_iff.1 e2] at h; cases h
        simpa using this
    rw [h1, h2, hn _ (hE e he).1]
    congr 1
    refine Bool.eq_iff_iff.2 ?_
    simp; omega
  exact ⟨fun h e he => by rw [← key e he]; exact h e he, fun h e he => by rw [key e he]; exact h e he⟩
/-- what the reference's numbers are behind so many rounds -/
structure RnI (n : Nat) (E : Ed) (j : Nat) (numR : Nat → Nat) : Prop where
  of : ∀ v, v < n → numR (ls E v) = numF n E (both E) j v
theorem RnI.zero (n : Nat) (E : Ed) : RnI n E 0 fun _ => 0 := ⟨fun _ _ => rfl⟩
/-- does the reference pass node i by? -/
def skipR (E : Ed) (numR : Nat → Nat) (i : Nat) : Prop := ls E i ≠ i ∨ 0 < numR i
theorem RnI.none {j : Nat} {numR : Nat → Nat} (hE : EdOk E n) (h : RnI n E j numR) (hno : ∀ i, i < n → skipR E numR i ∨ (E.all fun e => frR E numR i e) = false) : RnI n E (j + 1) numR := by
  have hp : pick n E (both E) (numF n E (both E) j) = Option.none := by
    cases e : pick n E (both E) (numF n E (both E) j) with
    | none => rfl
    | some k =>
      obtain ⟨h1, h2, h3, _⟩ := pick_some e
      have hk := ls_lt (E := E) h1
      have hI := numI hE j
      have hb := both_symm (ls_both E k)
      rcases hno _ hk with h4 | h4
      · rcases h4 with h4 | h4
        · exact absurd (ls_ls E k) h4
        · rw [h.of k h1, h2] at h4; omega
      · rw [frR_all hE h.of (ls_ls E k)] at h4
        have h5 : freeB E (both E) (numF n E (both E) j) (ls E k) = freeB E (both E) (numF n E (both E) j) k := by
          unfold freeB
          congr 1
          funext e
          rw [both_comm E e.2, both_comm E e.1, both_left hb, both_left hb, both_comm E k, both_comm E k]
        rw [h5, h3] at h4; cases h4
  refine ⟨fun v hv => ?_⟩
  show _ = stp n E (both E) j _ v
  unfold stp
  rw [hp]
  exact h.of v hv
theorem RnI.next {j : Nat} {numR : Nat → Nat} (hE : EdOk E n) (h : RnI n E j numR) {i : Nat} (hi : i < n) (hl : ls E i = i) (h0 : numR i = 0) (hf : (E.all fun e => frR E numR i e) = true)
    (hno : ∀ k, k < i → skipR E numR k ∨ (E.all fun e => frR E numR k e) = false) : RnI n E (j + 1) (fup numR i (j + 1)) := by
  have hz : numF n E (both E) j i = 0 := by rw [← h.of i hi, hl]; exact h0
  have hp : pick n E (both E) (numF n E (both E) j) = some i := by
    refine pick_eq hi hz (by rw [← frR_all hE h.of hl]; exact hf) fun k hk hh => ?_
    have hkn : k < n := by omega
    have hkl := ls_lt (E := E) hkn
    have hle := ls_le E k
    have hb := both_symm (ls_both E k)
    rcases hno (ls E k) (by omega) with h4 | h4
    · rcases h4 with h4 | h4
      · exact absurd (ls_ls E k) h4
      · rw [h.of k hkn, hh.1] at h4; omega
    · rw [frR_all hE h.of (ls_ls E k)] at h4
      have h5 : freeB E (both E) (numF n E (both E) j) (ls E k) = freeB E (both E) (numF n E (both E) j) k := by
        unfold freeB
        congr 1
        funext e
        rw [both_comm E e.2, both_comm E e.1, both_left hb, both_left hb, both_comm E k, both_comm E k]
      rw [h5, hh.2] at h4; cases h4
  refine ⟨fun v hv => ?_⟩
  show _ = stp n E (both E) j _ v
  unfold stp
  rw [hp]
  show _ = if both E v i then _ else _
  cases hb : both E v i with
  | true => rw [ls_eq hb, hl, fup_same]; rfl
  | false =>
    have : ls E v ≠ i := fun e => by rw [← hl] at e; rw [ls_iff.1 e] at hb; cases hb
    rw [fup_ne _ _ this, h.of v hv]; rfl
theorem RnI.done {numR : Nat → Nat} (h : RnI n E n numR) {v : Nat} (hE : EdOk E n) (hv : v < n) : numR (ls E v) ≠ 0 ∧ numR (ls E v) - 1 = cmp n E v := by
  rw [h.of v hv]
  exact ⟨num_all hE v hv, rfl⟩
theorem RnI.le {j : Nat} {numR : Nat → Nat} (h : RnI n E j numR) (hE : EdOk E n) {v : Nat} (hv : v < n) : numR (ls E v) ≤ j := by
  rw [h.of v hv]; exact (numI hE j).le v
/-! ### the marks -/
/-- what holds of the marks -/
structure MkI (E : Ed) (fr : Nat) (s : Nat → Bool) : Prop where
  at_ : s fr = true
  rc : ∀ v, s v = true → rcB E fr v = true
theorem MkI.start (E : Ed) (fr : Nat) : MkI E fr (fup (fun _ => false) fr true) := by
  refine ⟨fup_same _ _ _, fun v hv => ?_⟩
  by_cases e : v = fr
  · rw [e]; exact rcB_iff.2 Rc.refl
  · rw [fup_ne _ _ e] at hv; cases hv
theorem MkI.see {fr : Nat} {s : Nat → Bool} (h : MkI E fr s) {a b : Nat} (he : (a, b) ∈ E) (ha : s a = true) : MkI E fr (fup s b true) := by
  refine ⟨?_, fun v hv => ?_⟩
  · by_cases e : fr = b
    · rw [e, fup_same]
    · rw [fup_ne _ _ e]; exact h.at_
  · by_cases e : v = b
    · rw [e]; exact rcB_iff.2 ((rcB_iff.1 (h.rc a ha)).tail (mem_gr.2 he))
    · rw [fup_ne _ _ e] at hv; exact h.rc v hv
theorem MkI.done {fr : Nat} {s : Nat → Bool} (h : MkI E fr s) (hc : ∀ e ∈ E, s e.1 = true → s e.2 = true) : s = rcB E fr := by
  funext v
  refine Bool.eq_iff_iff.2 ⟨h.rc v, fun hr => ?_⟩
  exact (rcB_iff.1 hr).closed (fun v => s v = true) (fun v hv x hx => hc _ (mem_gr.1 hx) hv) h.at_
theorem cn_see {s : Nat → Bool} {b : Nat} (hb : b < n) (h : s b = false) : cn (fup s b true) n = cn s n + 1 := cn_fup h hb
end Go.Proofs.Ytbancojknahdgaa.CP
namespace Go.Proofs.Ytbancojknahdgaa.CP
theorem both_rcs (E : Ed) (a b : Nat) : both E a b = (rcB E a b && rcB E b a) := by
  refine Bool.eq_iff_iff.2 ?_
  rw [both_iff, Bool.and_eq_true, rcB_iff, rcB_iff]; rfl
end Go.Proofs.Ytbancojknahdgaa.CP
