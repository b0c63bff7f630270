/- osiertables: the contracts of below and Make, in a seat without layer 4 (the text of TabM, fewer imports). -/
import Derived.Test.YtoegenacjhmicaaNodeE
import Derived.Test.YtoegenacjhmicaaNodeF
import Derived.Test.YtoegenacjhmicaaQuanP
namespace Go.Proofs.Ytoegenacjhmicaa
open Go.RowKit HP NP
theorem and_low (x : Int) (j : Nat) (hj : j ≤ 62) : bits .and .i64 x ((2 ^ j - 1 : Nat) : Int) = x % ((2 ^ j : Nat) : Int) := by
  have hp : 0 < 2 ^ j := Nat.two_pow_pos j
  have hle : 2 ^ j ≤ 2 ^ 62 := Nat.pow_le_pow_right (by decide) hj
  have hlt : 2 ^ j - 1 < 2 ^ 64 := by
    have : (2 : Nat) ^ 62 < 2 ^ 64 := by decide
    omega
  show IntKind.i64.wrap ((BitVec.ofInt 64 x &&& BitVec.ofInt 64 ((2 ^ j - 1 : Nat) : Int)).toNat : Int) = _
  rw [BitVec.toNat_and, BitVec.ofInt_natCast, BitVec.toNat_ofNat, Nat.mod_eq_of_lt hlt, Nat.and_two_pow_sub_one_eq_mod, BitVec.toNat_ofInt]
  have e : (((x % ((2 ^ 64 : Nat) : Int)).toNat % 2 ^ j : Nat) : Int) = x % ((2 ^ j : Nat) : Int) := by
    have h0 : 0 ≤ x % ((2 ^ 64 : Nat) : Int) := Int.emod_nonneg _ (by decide)
    rw [Int.natCast_emod, Int.toNat_of_nonneg h0]
    apply Int.emod_emod_of_dvd
    have : (2 : Nat) ^ j ∣ 2 ^ 64 := Nat.pow_dvd_pow 2 (by omega)
    exact Int.natCast_dvd_natCast.2 this
  rw [e, IntKind.wrap_i64]
  have h1 : 0 ≤ x % ((2 ^ j : Nat) : Int) := Int.emod_nonneg _ (by omega)
  have h2 : x % ((2 ^ j : Nat) : Int) < ((2 ^ j : Nat) : Int) := Int.emod_lt_of_pos _ (by omega)
  have h3 : ((2 ^ j : Nat) : Int) ≤ ((2 ^ 62 : Nat) : Int) := by omega
  have h4 : ((2 ^ 62 : Nat) : Int) = 4611686018427387904 := rfl
  omega
theorem and_lowN (x j : Nat) (hj : j ≤ 62) : bits .and .i64 (x : Int) ((2 ^ j - 1 : Nat) : Int) = ((x % 2 ^ j : Nat) : Int) := by
  rw [and_low _ j hj]; omega
theorem and_1 (x : Nat) : bits .and .i64 (x : Int) 1 = ((x % 2 : Nat) : Int) := and_lowN x 1 (by decide)
theorem and_15 (x : Nat) : bits .and .i64 (x : Int) 15 = ((x % 16 : Nat) : Int) := and_lowN x 4 (by decide)
theorem bit_val (X i : Nat) : bits .and .i64 ((X : Int) / 2 ^ i) 1 = ((X.testBit i).toNat : Int) := by
  have e : ((X : Int) / 2 ^ i) = ((X / 2 ^ i : Nat) : Int) := by rw [Int.natCast_ediv, Int.natCast_pow]; rfl
  rw [e, and_1, Nat.testBit_eq_decide_div_mod_eq]
  rcases Nat.mod_two_eq_zero_or_one (X / 2 ^ i) with h | h <;> rw [h] <;> rfl
theorem ret_ib {k : IntKind} {a c : Int} {b : Bool} (h : a = c) : Ending.returned (.tuple #[.int k a, .bool b]) = .returned (.tuple #[.int k c, .bool b]) := by rw [h]
theorem bit_is (X i : Nat) : (bits .and .i64 ((X : Int) / 2 ^ i) 1 == 1) = X.testBit i := by
  rw [bit_val]; cases X.testBit i <;> rfl
def BelowPost (B p : Nat) (S : NS) (X f v fr : Nat) (w : World) (e : Ending) (w' : World) : Prop :=
  ∃ S', Sto w' B p S' ∧ Kp TN B w w' ∧ ((∃ k : Nat, e = .returned (.tuple #[.int .i64 (k : Int), .bool true]) ∧ TabN S X f v fr S' k) ∨ (e = .returned (.tuple #[.int .i64 0, .bool false]) ∧ IteNo S f S'))
set_option maxRecDepth 100000 in
set_option maxHeartbeats 4000000 in
theorem below_ok (B p X : Nat) (_hX : X < 65536) : ∀ (f v : Nat) (w : World) (S : NS) (fr : Nat), f + v = 4 → fr < 2 ^ v → Sto w B p S → B ≤ w.heap.size → S.vars = 4 →
    Calls Try.prog 39 #[.pointer (some ⟨p, 0, none⟩), .int .i64 (v : Int), .int .i64 (fr : Int), .int .i64 (X : Int)] w (BelowPost B p S X f v fr w) := by
  intro f
  induction f with
  | zero =>
    intro v w S fr hf hfr h hB h4
    have hv : v = 4 := by omega
    subst hv
    have hfr' : fr < 16 := hfr
    have HA : Hid (bits .and .i64 (fr : Int) 15 = (fr : Int)) := Lib.hid (by rw [and_15]; omega)
    have ha := HA.out
    have HV := Lib.hid (bit_val X fr)
    have HT := Lib.hid (TabN.leaf h.wf h4 X fr)
    have HS := Lib.hid h
    clear hf hfr h h4
    go_enter Try.func39, Try.ntmps39
    go_wp2_with fail
    go_ret2
    exact ⟨S, HS.out, Kp.refl _ _ _, .inl ⟨(X.testBit fr).toNat, ret_ib HV.out, HT.out⟩⟩
  | succ f ih =>
    intro v w S fr hf hfr h hB h4
    have IH := Lib.hid ih
    have hv : v < 4 := by omega
    have hpw : 2 ^ v ≤ 8 := by
      rcases (by omega : v = 0 ∨ v = 1 ∨ v = 2 ∨ v = 3) with rfl | rfl | rfl | rfl <;> decide
    have hfr16 : fr < 8 := by omega
    have d4 : ((v : Int) == 4) = false := beq_eq_false_iff_ne.2 (by omega)
    have HFV := Lib.hid hf; have HFR := Lib.hid hfr; have HS := Lib.hid h; have H4 := Lib.hid h4
    obtain ⟨pw, hpe⟩ : ∃ pw, pw = 2 ^ v := ⟨_, rfl⟩
    have HPE := Lib.hid hpe
    clear ih hf hfr h h4
    rw [← hpe] at hpw
    clear hpe
    go_enter Try.func39, Try.ntmps39
    go_wp2_with fail
    refine (IH.out (v + 1) w S fr (by have := HFV.out; omega) (by have := HFR.out; rw [Nat.pow_succ]; omega) HS.out hB H4.out).mono ?_
    rintro e w1 ⟨S1, hs1, hk1, hr1⟩
    have HS1 := Lib.hid hs1; have HK1 := Lib.hid hk1
    have hB1 : B ≤ w1.heap.size := by have := hk1.size; omega
    have HE1 : Hid (Ext S S1 ∧ S1.vars = 4) := by
      rcases hr1 with ⟨k, _, ht⟩ | ⟨_, ht⟩
      · exact Lib.hid ⟨ht.ext, ht.ext.vars.trans H4.out⟩
      · exact Lib.hid ⟨ht.ext, ht.ext.vars.trans H4.out⟩
    clear hs1 hk1
    have hwr : wrap64 ((fr : Int) + wrap64 (2 ^ v)) = ((fr + 2 ^ v : Nat) : Int) := by
      have e : ((2 : Int) ^ v) = ((2 ^ v : Nat) : Int) := by rcases (by omega : v = 0 ∨ v = 1 ∨ v = 2 ∨ v = 3) with rfl | rfl | rfl | rfl <;> rfl
      rw [e, ← HPE.out, w64 (pw : Int) (by omega) (by omega), w64 _ (by omega) (by omega)]
      rfl
    have HWR := Lib.hid hwr
    clear hwr
    rcases hr1 with ⟨lo, rfl, ht1⟩ | ⟨rfl, ht1⟩
    all_goals
      have HT1 := Lib.hid ht1
      clear ht1
      go_wp2_with fail
      rw [HWR.out]
      refine (IH.out (v + 1) w1 S1 (fr + 2 ^ v) (by have := HFV.out; omega) (by have := HFR.out; rw [Nat.pow_succ]; omega) HS1.out hB1 HE1.out.2).mono ?_
      rintro e w2 ⟨S2, hs2, hk2, hr2⟩
      have HS2 := Lib.hid hs2; have HK2 := Lib.hid (HK1.out.trans hk2)
      have hB2 : B ≤ w2.heap.size := by have := hk2.size; omega
      clear hs2 hk2
      rcases hr2 with ⟨hi, rfl, ht2⟩ | ⟨rfl, ht2⟩
    · have HT2 := Lib.hid ht2
      have hmk := mkS_any (S := S2) ht2.wf (v := v) (lo := lo) (hi := hi) (by rw [ht2.ext.vars, HE1.out.2]; omega) (ht2.ext.isB HT1.out.is) ht2.is (by rw [ht2.ext.nds _ HT1.out.is]; have := HT1.out.ge; omega) (by have := ht2.ge; omega)
      have HMK := Lib.hid hmk
      clear ht2 hmk
      go_wp2_with fail
      refine (nmk_ok w2 B p S2 HS2.out hB2 (v : Int) (lo : Int) (hi : Int)).mono ?_
      rintro e w3 ⟨rfl, hs3, hk3⟩
      rcases HMK.out with ⟨S3, k3, hmk, hok3, hsw3⟩ | ⟨hmk, hfull⟩
      · rw [hmk] at hs3 ⊢
        have HS3 := Lib.hid hs3; have HK3 := Lib.hid (HK2.out.trans hk3); have HN := Lib.hid (TabN.node HT1.out HT2.out hok3 hsw3)
        clear hs3 hk3 hmk hok3 hsw3
        go_wp2_with fail
        go_ret2
        exact ⟨S3, HS3.out, HK3.out, .inl ⟨k3, rfl, HN.out⟩⟩
      · rw [hmk] at hs3 ⊢
        have HS3 := Lib.hid hs3; have HK3 := Lib.hid (HK2.out.trans hk3); have HN := Lib.hid (TabN.room HT1.out HT2.out hfull)
        clear hs3 hk3 hmk hfull
        go_wp2_with fail
        go_ret2
        exact ⟨S2, HS3.out, HK3.out, .inr ⟨rfl, HN.out⟩⟩
    · have HN := Lib.hid (HT1.out.no ht2)
      clear ht2
      go_wp2_with fail
      go_ret2
      exact ⟨S2, HS2.out, HK2.out, .inr ⟨rfl, HN.out⟩⟩
    · have HN := Lib.hid (HT1.out.tab ht2)
      clear ht2
      go_wp2_with fail
      go_ret2
      exact ⟨S2, HS2.out, HK2.out, .inr ⟨rfl, HN.out⟩⟩
    · have HN := Lib.hid (HT1.out.two ht2)
      clear ht2
      go_wp2_with fail
      go_ret2
      exact ⟨S2, HS2.out, HK2.out, .inr ⟨rfl, HN.out⟩⟩
/-- what Make gives -/
def MakePost (B p : Nat) (S : NS) (X : Nat) (w : World) (e : Ending) (w' : World) : Prop :=
  ∃ S', Sto w' B p S' ∧ Kp TN B w w' ∧ ((∃ k : Nat, e = .returned (.tuple #[.int .i64 (k : Int), .bool true]) ∧ GotOk S (tbl X) 15 S' k) ∨ (e = .returned (.tuple #[.int .i64 0, .bool false]) ∧ GotNo S 15 S'))
set_option maxHeartbeats 800000 in
theorem make_ok (w : World) (B p : Nat) (S : NS) (X : Nat) (hX : X < 65536) (h : Sto w B p S) (hB : B ≤ w.heap.size) (h4 : S.vars = 4) :
    Calls Try.prog 13 #[.pointer (some ⟨p, 0, none⟩), .int .i64 (X : Int)] w (MakePost B p S X w) := by
  have HI := Lib.hid (below_ok B p X hX 4 0 w S 0 rfl (by decide) h hB h4)
  clear h h4 hX
  go_enter Try.func13, Try.ntmps13
  go_wp2_with fail
  refine HI.out.mono ?_
  rintro e w1 ⟨S1, hs1, hk1, hr⟩
  have HS1 := Lib.hid hs1; have HK1 := Lib.hid hk1
  clear hs1 hk1
  rcases hr with ⟨k, rfl, ht⟩ | ⟨rfl, ht⟩
  · have HT := Lib.hid ht.got
    clear ht
    go_wp2_with fail
    go_ret2
    exact ⟨S1, HS1.out, HK1.out, .inl ⟨k, rfl, HT.out⟩⟩
  · have HT := Lib.hid (ht.got (n := 15) (by decide))
    clear ht
    go_wp2_with fail
    go_ret2
    exact ⟨S1, HS1.out, HK1.out, .inr ⟨rfl, HT.out⟩⟩
end Go.Proofs.Ytoegenacjhmicaa
