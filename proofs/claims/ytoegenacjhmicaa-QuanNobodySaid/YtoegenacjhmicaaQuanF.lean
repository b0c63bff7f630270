/- The laws of layer 5: the state of a walk with Quan (QSt), begun, restricted. -/
import Derived.Test.YtoegenacjhmicaaQuanE
import Derived.Test.YtoegenacjhmicaaOperJ
namespace Go.Proofs.Ytoegenacjhmicaa
open Go.RowKit HP NP
structure QSt (w0 w : World) (B p q qn : Nat) (S : NS) (r : Nat) : Prop extends OSt w0 w B p q S r where
  qu : QuBlk w qn p q
theorem QSt.got {w0 w : World} {B p q qn : Nat} {S : NS} {r : Nat} (h : QSt w0 w B p q qn S r) {g : (Nat → Bool) → Bool} {n : Nat} {e : Ending} {w' : World} (hr : OpPost B p q S g n w e w') (hn : n ≤ r) :
    ∃ (S' : NS) (k : Nat), e = .returned (.tuple #[.int .i64 (k : Int), .int .i64 0]) ∧ QSt w0 w' B p q qn S' (r - n) ∧ Got S S' g k := by
  have hk : Kp TO B w w' := by obtain ⟨_, _, _, h3, _⟩ := hr; exact h3
  obtain ⟨S', k, h1, h2, h3⟩ := h.toOSt.got hr hn
  exact ⟨S', k, h1, ⟨h2, hk.blk h.qu rfl⟩, h3⟩
theorem QSt.made {w0 w : World} {B p q qn : Nat} {S : NS} {r X : Nat} (h : QSt w0 w B p q qn S r) {e : Ending} {w' : World} (hr : MakePost B p S X w e w') (hn : 15 ≤ r) :
    ∃ (S' : NS) (k : Nat), e = .returned (.tuple #[.int .i64 (k : Int), .bool true]) ∧ QSt w0 w' B p q qn S' (r - 15) ∧ Got S S' (tbl X) k := by
  have hk : Kp TN B w w' := by obtain ⟨_, _, h3, _⟩ := hr; exact h3
  obtain ⟨S', k, h1, h2, h3⟩ := h.toOSt.made hr hn
  exact ⟨S', k, h1, ⟨h2, hk.blk h.qu rfl⟩, h3⟩
theorem QSt.below {w0 w w' : World} {B p q qn : Nat} {S : NS} {r : Nat} (h : QSt w0 w B p q qn S r) (hb : Below w.heap.size w w') : QSt w0 w' B p q qn S r := ⟨h.toOSt.below hb, h.qu.below hb h.qu.lt⟩
theorem OSt.vf {w0 w : World} {B p q : Nat} {S : NS} {r : Nat} (h : OSt w0 w B p q S r) {v : Nat} (hv : v < 4) : v < S.vars := by rw [h.v4]; exact hv
def BegunQ (B n : Nat) (w : World) (e : Ending) (w' : World) : Prop := ∃ p q qn, e = .returned (.tuple #[.pointer (some ⟨p, 0, none⟩), .pointer (some ⟨qn, 0, none⟩), .bool true]) ∧ Sto w' B p (newS 4 n) ∧ OpsM w' B p q (newS 4 n) ∧ QuBlk w' qn p q ∧ Below w.heap.size w w'
set_option maxHeartbeats 1600000 in
theorem begun05 (w : World) (B n : Nat) (hB : B ≤ w.heap.size) (h2 : 2 ≤ n) (hn : n ≤ 1048576) : Calls Try.prog 12 #[.int .i64 (n : Int)] w (BegunQ B n w) := by
  have HN := Lib.hid (nnew_c w B hB 4 n (by decide) h2 hn)
  clear h2 hn
  go_enter Try.func12, Try.ntmps12
  go_wp2_with fail
  refine HN.out.mono ?_
  rintro e w1 ⟨p, rfl, hs1, hb1, hp1⟩
  have HS1 := Lib.hid hs1; have HB1 := Lib.hid hb1
  clear hs1 hb1
  go_wp2_with fail
  refine (onew_ok w1 B p (newS 4 n) HS1.out (by have := HB1.out.size; omega) (by show 0 < 4611686018427387904; omega)).mono ?_
  rintro e w2 ⟨q, rfl, ho2, hq2, hb2⟩
  have HS2 := Lib.hid (HS1.out.below hb2); have HO2 := Lib.hid ho2; have HB2 := Lib.hid (HB1.out.trans (hb2.mono HB1.out.size))
  clear ho2 hb2
  go_wp2_with fail
  refine (qnew_ok w2 B p q (newS 4 n) HO2.out).mono ?_
  rintro e w3 ⟨qn, rfl, hq3, hqn, hb3⟩
  have HS3 := Lib.hid (HS2.out.below hb3); have HO3 := Lib.hid (HO2.out.below hb3); have HB3 := Lib.hid (HB2.out.trans (hb3.mono HB2.out.size)); have HQ3 := Lib.hid hq3
  clear hq3 hb3
  go_wp2_with fail
  refine (qops_ok w3 qn p q HQ3.out).mono ?_
  rintro e w4 ⟨rfl, rfl⟩
  go_wp2_with fail
  refine (qops_ok w3 qn p q HQ3.out).mono ?_
  rintro e w4 ⟨rfl, rfl⟩
  go_wp2_with fail
  refine (ostore_ok w3 B p q _ HO3.out).mono ?_
  rintro e w4 ⟨rfl, rfl⟩
  go_wp2_with fail
  refine (nvars_ok w3 B p _ HS3.out).mono ?_
  rintro e w4 ⟨rfl, rfl⟩
  go_wp2_with fail
  refine bodyPost_ret (v := .tuple #[.pointer (some ⟨p, 0, none⟩), .pointer (some ⟨qn, 0, none⟩), .bool true]) (by simp [results, Try.results12, go_sem, newS]) rfl ⟨p, q, qn, rfl, HS3.out, HO3.out, HQ3.out, HB3.out⟩
theorem QSt.begin {w w' : World} {p q qn n r : Nat} (hs : Sto w' w.heap.size p (newS 4 n)) (ho : OpsM w' w.heap.size p q (newS 4 n)) (hq : QuBlk w' qn p q) (hb : Below w.heap.size w w') (hr : 2 + r ≤ n) : QSt w w' w.heap.size p q qn (newS 4 n) r :=
  ⟨OSt.begin hs ho hb hr, hq⟩
/-! ### restricted -/
def mN (n v : Nat) (b : Bool) : Nat := if b then anN n (2 ^ v) ||| 2 ^ v else anN n (2 ^ v)
theorem ix_congr {ρ σ : Nat → Bool} (h : ∀ i, i < 4 → ρ i = σ i) : ix ρ = ix σ := by
  have h0 := h 0 (by decide); have h1 := h (0 + 1) (by decide); have h2 := h (0 + 1 + 1) (by decide); have h3 := h (0 + 1 + 1 + 1) (by decide)
  simp only [ix, idx]
  rw [h0, h1, h2, h3]
theorem mN_vals : ∀ n, n < 16 → ∀ v, v < 4 → ∀ b : Bool, mN n v b = ix (upR (rho (valsN n)) v b) := by decide +kernel
theorem mN_ix (ρ : Nat → Bool) (v : Nat) (b : Bool) (hv : v < 4) : mN (ix ρ) v b = ix (upR ρ v b) := by
  rw [mN_vals (ix ρ) (ix_lt ρ) v hv b]
  refine ix_congr fun i hi => ?_
  unfold upR
  rw [vals_ix ρ i hi]
theorem mN_lt (n v : Nat) (b : Bool) (hn : n < 16) (hv : v < 4) : mN n v b < 16 := by rw [mN_vals n hn v hv b]; exact ix_lt _
def resN (X v : Nat) (b : Bool) : Nat := ttF (fun n => X.testBit (mN n v b)) 16
theorem resN_lt (X v : Nat) (b : Bool) : resN X v b < 65536 := ttF_lt _ 16
theorem resN_tbl (X v : Nat) (b : Bool) (hv : v < 4) (ρ : Nat → Bool) : tbl (resN X v b) ρ = tbl X (upR ρ v b) := by
  unfold tbl resN
  rw [ttF_testBit _ 16 _ (ix_lt ρ), mN_ix ρ v b hv]
theorem or_bit (o n : Nat) (t : Bool) (ho : o < 2 ^ n) (hn : n < 16) : bits .or .i64 (o : Int) (wrap64 ((t.toNat : Int) * 2 ^ n)) = ((o + (if t then 2 ^ n else 0) : Nat) : Int) := by
  have hpn : 2 ^ n ≤ 32768 := Nat.pow_le_pow_right (n := 2) (by decide) (show n ≤ 15 by omega)
  have e : ((2 : Int) ^ n) = ((2 ^ n : Nat) : Int) := by simp
  cases t with
  | false =>
    have e2 : wrap64 (((false : Bool).toNat : Int) * 2 ^ n) = ((0 : Nat) : Int) := by simp [wrap64]
    rw [e2, i64_or o 0 (by omega) (by omega)]; simp
  | true =>
    have e2 : wrap64 (((true : Bool).toNat : Int) * 2 ^ n) = ((2 ^ n : Nat) : Int) := by
      rw [e]
      show wrap64 (1 * _) = _
      rw [Int.one_mul, w64 _ (by omega) (by omega)]
    rw [e2, i64_or o (2 ^ n) (by omega) (by omega)]
    have h := Nat.two_pow_add_eq_or_of_lt ho 1
    rw [Nat.mul_one] at h
    rw [Nat.or_comm, ← h, if_pos rfl, Nat.add_comm]
end Go.Proofs.Ytoegenacjhmicaa
