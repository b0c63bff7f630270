/- Pins and sweeps upon the operations' cache in plain Lean: what is alike but for pins says the same; a swept store's nodes are the store's. -/
import Derived.Test.YtffkehefkmdadaaTabP
namespace Go.Proofs.Ytffkehefkmdadaa.NP
theorem denF_alk {l l' : List Nd} (h : Alk l l') (ρ : Nat → Bool) : ∀ (f k : Nat), denF l' ρ f k = denF l ρ f k
  | 0, _ => rfl
  | f + 1, k => by
    rw [denF, denF, h.v, h.low, h.high]
    split
    · rfl
    · exact denF_alk h ρ f _
theorem den_alk' {l l' : List Nd} (h : Alk l l') (ρ : Nat → Bool) (k : Nat) : den l' ρ k = den l ρ k := denF_alk h ρ 257 k
theorem IteIs.alk {S S' : NS} (h : Alk S.l S'.l) {a b c k : Nat} (hi : IteIs S a b c k) : IteIs S' a b c k :=
  ⟨by rw [h.is]; exact hi.ia, by rw [h.is]; exact hi.ib, by rw [h.is]; exact hi.ic, by rw [h.is]; exact hi.ik, fun ρ => by rw [den_alk' h, den_alk' h, den_alk' h, den_alk' h]; exact hi.says ρ, fun v => by rw [h.v, h.v, h.v, h.v]; exact hi.ge v⟩
theorem FndOk.alk {S S' : NS} (h : Alk S.l S'.l) {x : Fnd} (hx : FndOk S x) : FndOk S' x := fun hh => by
  obtain ⟨a, b, c, k, e1, e2, e3, e4, hi⟩ := hx hh
  exact ⟨a, b, c, k, e1, e2, e3, e4, hi.alk h⟩
theorem Den.alk {S S' : NS} (h : Alk S.l S'.l) {k : Nat} {g : (Nat → Bool) → Bool} (hd : Den S k g) : Den S' k g := ⟨by rw [h.is]; exact hd.is, fun ρ => by rw [den_alk' h]; exact hd.says ρ⟩
theorem cnt_isB (l : List Nd) : cnt l = (List.range l.length).countP (isB l) := by
  unfold cnt
  induction l with
  | nil => rfl
  | cons x t ih =>
    rw [List.countP_cons, ih, List.length_cons, List.range_succ_eq_map, List.countP_cons, List.countP_map]
    rfl
theorem cnt_swp_le (l : List Nd) (s : Nat → Bool) (k : Nat) : cnt (swp l s k) ≤ cnt l := by
  rw [cnt_isB, cnt_isB, len_swp]
  refine List.countP_mono_left fun j _ h => ?_
  rw [isB_swp] at h
  split at h
  · cases h
  · exact h
/-- the swept store -/
def swS (S : NS) (s : Nat → Bool) : NS := { S with l := swp S.l s 1, sweeps := S.sweeps + 1 }
theorem swS_ext (S : NS) (s : Nat → Bool) : Ext (swS S s) S := ⟨rfl, rfl, fun k hk => by
  have hk' : isB (swp S.l s 1) k = true := hk
  show nd S.l k = nd (swp S.l s 1) k
  rw [isB_swp] at hk'
  split at hk'
  · cases hk'
  · rename_i hx
    rw [nd_swp, if_neg hx]⟩
/-- a node with a pin stays, and says what it said -/
theorem swS_den {S : NS} (hW : Wf S) {s : Nat → Bool} (hW' : Wf (swS S s)) (hm : MarkedTo S.l S.l.length s) {k : Nat} {g : (Nat → Bool) → Bool} (hd : Den S k g) (hp : 0 < (nd S.l k).pins) : Den (swS S s) k g ∧ 0 < (nd (swS S s).l k).pins := by
  have hs : s k = true := (hm k).2 ⟨k, isB_lt hd.is, by unfold rootB; simp [hd.is, hp], .here _⟩
  have hn : nd (swS S s).l k = nd S.l k := by show nd (swp S.l s 1) k = _; rw [nd_swp, if_neg (by simp [hs])]
  have hb : isB (swS S s).l k = true := by unfold isB; rw [hn]; exact hd.is
  exact ⟨⟨hb, fun ρ => by rw [← (swS_ext S s).den' hW' hW ρ hb]; exact hd.says ρ⟩, by rw [hn]; exact hp⟩
theorem swS_pins (S : NS) (s : Nat → Bool) (j : Nat) : (nd (swS S s).l j).pins ≤ (nd S.l j).pins := by
  show (nd (swp S.l s 1) j).pins ≤ _
  rw [nd_swp]
  split
  · exact Nat.zero_le _
  · exact Nat.le_refl _
end Go.Proofs.Ytffkehefkmdadaa.NP
