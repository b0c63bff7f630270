/- Layer 3 in plain Lean: what Mk puts: the free numbers behind it, the count. -/
import Derived.Test.YtdalnhhenahcjaaNodeQ
namespace Go.Proofs.Ytdalnhhenahcjaa.NP
theorem frees_put {l : List Nd} (x : Nd) (hx : x.is = true) : frees (putN l (ff l) x) = (frees l).tail := by
  cases hf : frees l with
  | nil =>
    have e : ff l = l.length := by unfold ff; rw [hf]; rfl
    rw [e]
    apply List.eq_nil_iff_forall_not_mem.2
    intro k hk
    obtain ⟨h2, hlt, hb⟩ := (frees_mem _ k).1 hk
    unfold isB at hb
    rw [nd_put (Nat.le_refl _)] at hb
    by_cases ek : k = l.length
    · rw [if_pos ek, hx] at hb; cases hb
    · rw [if_neg ek] at hb
      rw [len_put (Nat.le_refl _), if_neg (Nat.lt_irrefl _)] at hlt
      have : k ∈ frees l := (frees_mem _ k).2 ⟨h2, by omega, hb⟩
      rw [hf] at this; cases this
  | cons f t =>
    have e : ff l = f := by unfold ff; rw [hf]; rfl
    have hm : f ∈ frees l := by rw [hf]; simp
    obtain ⟨h2, hlt, hb⟩ := (frees_mem _ f).1 hm
    rw [e]
    have hnd : (frees l).Nodup := List.Pairwise.filter _ List.nodup_range
    have h3 : frees (putN l f x) = (frees l).filter (fun k => decide (k ≠ f)) := by
      unfold frees
      rw [len_put (Nat.le_of_lt hlt), if_pos hlt, List.filter_filter]
      apply List.filter_congr
      intro k _
      unfold freeB
      rw [nd_put (Nat.le_of_lt hlt)]
      by_cases ek : k = f
      · rw [if_pos ek, hx]; simp [ek]
      · rw [if_neg ek]; simp [ek]
    rw [h3, hf]
    rw [hf, List.nodup_cons] at hnd
    rw [List.filter_cons, if_neg (by simp)]
    show t.filter _ = t
    apply List.filter_eq_self.2
    intro k hk
    have : k ≠ f := by rintro rfl; exact hnd.1 hk
    simpa using this
theorem cnt_two {S : NS} (h : Wf S) : 2 ≤ cnt S.l := by
  have h0 := h.is0
  have h1 := h.is1
  have h2 := h.two
  match hl : S.l with
  | [] => rw [hl] at h2; simp at h2
  | [_] => rw [hl] at h2; simp at h2
  | a :: b :: t =>
    rw [hl] at h0 h1
    simp [isB, nd] at h0 h1
    simp [cnt, h0, h1]
end Go.Proofs.Ytdalnhhenahcjaa.NP
