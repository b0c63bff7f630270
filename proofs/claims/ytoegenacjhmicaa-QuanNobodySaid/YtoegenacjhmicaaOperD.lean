/- Layer 4: the contract of ite. -/
import Derived.Test.YtoegenacjhmicaaOperC
namespace Go.Proofs.Ytoegenacjhmicaa
open Go.RowKit HP NP
theorem and_low (x : Int) (j : Nat) (hj : j ≤ 62) : bits .and .i64 x ((2 ^ j - 1 : Nat) : Int) = x % ((2 ^ j : Nat) : Int) := by
  have hp : 0 < 2 ^ j := Nat.two_pow_pos j
  have hle : 2 ^ j ≤ 2 ^ 62 := Nat.pow_le_pow_right (by decide) hj
  have hlt : 2 ^ j - 1 < 2 ^ 64 := by
    have : (2 : Nat) ^ 62 < 2 ^ 64 := by decide
    omega
  show IntKind.i64.wrap ((BitVec.ofInt 64 x &&& BitVec.ofInt 64 ((2 ^ j - 1 : Nat) : Int)).toNat : Int) = _
  rw [BitVec.toNat_and, BitVec.ofInt_natCast, BitVec.toNat_ofNat, Nat.mod_eq_of_lt hlt, Nat.and_two_pow_sub_one_eq_mod, BitVec.toNat_ofInt]
  have e : (((x % ((2 ^ 64 : Nat) : Int)).toNat % 2 ^ j : Nat) : Int) = x % ((2 ^ j : Nat) : Int) := by
    have h0 : 0 ≤ x % ((2 ^ 64 : Nat) : Int) := Int.emod_nonneg _ (by decide)
    rw [Int.natCast_emod, Int.toNat_of_nonneg h0]
    apply Int.emod_emod_of_dvd
    have : (2 : Nat) ^ j ∣ 2 ^ 64 := Nat.pow_dvd_pow 2 (by omega)
    exact Int.natCast_dvd_natCast.2 this
  rw [e, IntKind.wrap_i64]
  have h1 : 0 ≤ x % ((2 ^ j : Nat) : Int) := Int.emod_nonneg _ (by omega)
  have h2 : x % ((2 ^ j : Nat) : Int) < ((2 ^ j : Nat) : Int) := Int.emod_lt_of_pos _ (by omega)
  have h3 : ((2 ^ j : Nat) : Int) ≤ ((2 ^ 62 : Nat) : Int) := by omega
  have h4 : ((2 ^ 62 : Nat) : Int) = 4611686018427387904 := rfl
  omega
theorem and_lowN (x j : Nat) (hj : j ≤ 62) : bits .and .i64 (x : Int) ((2 ^ j - 1 : Nat) : Int) = ((x % 2 ^ j : Nat) : Int) := by
  rw [and_low _ j hj]; omega
theorem and_4095 (x : Nat) : bits .and .i64 (x : Int) 4095 = ((x % 4096 : Nat) : Int) := and_lowN x 12 (by decide)
def ItePost (B p q g : Nat) (S : NS) (a b c f : Nat) (w : World) (e : Ending) (w' : World) : Prop :=
  ∃ S' C', Sto w' B p S' ∧ OpsF w' B p q g S' C' ∧ Kp TO B w w' ∧ ((∃ k : Nat, e = .returned (.tuple #[.int .i64 (k : Int), .int .i64 0]) ∧ IteOk S a b c f S' k) ∨ (e = .returned (.tuple #[.int .i64 0, .int .i64 30]) ∧ IteNo S f S'))
theorem ItePost.same {B p q g : Nat} {S : NS} {C : Nat → Fnd} {a b c f k : Nat} {w : World} (h : Sto w B p S) (ho : OpsF w B p q g S C) (hi : IteIs S a b c k) {e : Ending} (he : e = .returned (.tuple #[.int .i64 (k : Int), .int .i64 0])) : ItePost B p q g S a b c f w e w :=
  ⟨S, C, h, ho, Kp.refl _ _ _, .inl ⟨k, he, IteOk.triv h.wf hi⟩⟩
set_option maxRecDepth 100000 in
set_option maxHeartbeats 1600000 in
theorem ite_early (w : World) (B p q g : Nat) (S : NS) (C : Nat → Fnd) (a b c f : Nat) (h : Sto w B p S) (ho : OpsF w B p q g S C) (ha : isB S.l a = true) (hb : isB S.l b = true) (hc : isB S.l c = true)
    (hx : a < 2 ∨ b = c ∨ (b = 1 ∧ c = 0)) :
    Calls Try.prog 73 #[.pointer (some ⟨q, 0, none⟩), .int .i64 (a : Int), .int .i64 (b : Int), .int .i64 (c : Int)] w (ItePost B p q g S a b c f w) := by
  have HS := Lib.hid h; have HO := Lib.hid ho
  by_cases h1 : a = 1 ∨ b = c
  · have HI := Lib.hid (iteIs_one ha hb hc h1)
    by_cases h2 : a = 1
    · have e1 : ((a : Int) == 1) = true := by rw [h2]; rfl
      clear h ho ha hb hc hx h1 h2
      go_enter Try.func73, Try.ntmps73
      go_wp2_with fail
      go_ret2
      exact ItePost.same HS.out HO.out HI.out rfl
    · have e1 : ((a : Int) == 1) = false := beq_eq_false_iff_ne.2 (by omega)
      have e2 : ((b : Int) == (c : Int)) = true := by rw [beq_iff_eq]; omega
      clear h ho ha hb hc hx h1 h2
      go_enter Try.func73, Try.ntmps73
      go_wp2_with fail
      go_ret2
      exact ItePost.same HS.out HO.out HI.out rfl
  · have e1 : ((a : Int) == 1) = false := beq_eq_false_iff_ne.2 (by omega)
    have e2 : ((b : Int) == (c : Int)) = false := beq_eq_false_iff_ne.2 (by omega)
    by_cases h0 : a = 0
    · subst h0
      have HI := Lib.hid (iteIs_zero h.wf hb hc)
      have e3 : (((0 : Nat) : Int) == 0) = true := rfl
      clear h ho ha hb hc hx h1
      go_enter Try.func73, Try.ntmps73
      go_wp2_with fail
      go_ret2
      exact ItePost.same HS.out HO.out HI.out rfl
    · obtain ⟨rfl, rfl⟩ : b = 1 ∧ c = 0 := by omega
      have HI := Lib.hid (iteIs_self h.wf ha)
      have e3 : ((a : Int) == 0) = false := beq_eq_false_iff_ne.2 (by omega)
      clear h ho ha hb hc hx h1 h0
      go_enter Try.func73, Try.ntmps73
      go_wp2_with fail
      go_ret2
      exact ItePost.same HS.out HO.out HI.out rfl
end Go.Proofs.Ytoegenacjhmicaa
