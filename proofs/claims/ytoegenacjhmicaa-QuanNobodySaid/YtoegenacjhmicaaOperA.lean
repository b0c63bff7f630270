/- Layer 4: the contracts of New, Store, fresh, may. -/
import Derived.Test.YtoegenacjhmicaaOperM
namespace Go.Proofs.Ytoegenacjhmicaa
open Go.RowKit HP NP
set_option maxHeartbeats 400000 in
theorem onew_ok (w : World) (B p : Nat) (S : NS) (h : Sto w B p S) (hB : B ≤ w.heap.size) (hsw : S.sweeps < 4611686018427387904) :
    Calls Try.prog 36 #[.pointer (some ⟨p, 0, none⟩)] w fun e w' => ∃ q, e = .returned (.tuple #[.pointer (some ⟨q, 0, none⟩), .int .i64 0]) ∧ OpsM w' B p q S ∧ w.heap.size ≤ q ∧ Below w.heap.size w w' := by
  have HL := Lib.hid (nlen_ok w B p S h)
  have HS := Lib.hid h
  have hc2 := cnt_two h.wf
  obtain ⟨m, hm⟩ : ∃ m, cnt S.l = m := ⟨_, rfl⟩
  rw [hm] at HL hc2
  clear h hm
  have hne : ((m : Int) == 0) = false := beq_eq_false_iff_ne.2 (by omega)
  go_enter Try.func36, Try.ntmps36
  go_wp2_with fail
  refine HL.out.mono ?_
  rintro e w' ⟨rfl, rfl⟩
  go_wp2_with fail
  go_ret2
  refine ⟨w.heap.size, rfl, ⟨hB, hsw, .inl ?_⟩, Nat.le_refl _, (Below.refl _ _).alloc (Nat.le_refl _) _⟩
  exact Blk.new_ w 53 (opsCells p 0 (.slice none 0 0) 0)
theorem OpsM.ptr {w : World} {B p q : Nat} {S : NS} (h : OpsM w B p q S) : w.cell? ⟨q, 0, none⟩ = some (.pointer (some ⟨p, 0, none⟩)) := by
  obtain ⟨_, _, h⟩ := h
  rcases h with h | ⟨g, C, s0, _, h, _⟩
  · exact h.cell 0
  · exact h.cell 0
theorem ostore_ok (w : World) (B p q : Nat) (S : NS) (h : OpsM w B p q S) : Calls Try.prog 37 #[.pointer (some ⟨q, 0, none⟩)] w fun e w' => e = .returned (.pointer (some ⟨p, 0, none⟩)) ∧ w = w' := by
  have c0 := h.ptr
  clear h
  go_enter Try.func37, Try.ntmps37
  go_wp2
  go_ret
  exact ⟨rfl, rfl⟩
end Go.Proofs.Ytoegenacjhmicaa
