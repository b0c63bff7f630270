/- CountFirst: the walk. -/
import Derived.Test.YtoegenacjhmicaaCountW
namespace Go.Proofs.Ytoegenacjhmicaa
open Go.RowKit HP NP
theorem or6 (a b : Nat) (ha : a < 65536) (hb : b < 65536) : bits .or .i64 (a : Int) (b : Int) = ((a ||| b : Nat) : Int) := by
  show IntKind.i64.wrap ((BitVec.ofInt 64 (a : Int) ||| BitVec.ofInt 64 (b : Int)).toNat : Int) = _
  rw [BitVec.toNat_or, BitVec.ofInt_natCast, BitVec.ofInt_natCast, BitVec.toNat_ofNat, BitVec.toNat_ofNat, Nat.mod_eq_of_lt (a := a) (by omega), Nat.mod_eq_of_lt (a := b) (by omega), IntKind.wrap_i64]
  have := Nat.or_lt_two_pow (x := a) (y := b) (n := 16) ha hb
  omega
/-- a low bit of a number, and of its low sixteen bits -/
theorem zbit6 {z : Int} {X : Nat} (h : bits .and .i64 z 65535 = (X : Int)) {n : Nat} (hn : n < 16) : bits .and .i64 (z / 2 ^ n) 1 = ((X.testBit n).toNat : Int) := by
  have hz : z % 65536 = (X : Int) := by rw [← h]; exact (and_low z 16 (by decide)).symm
  have hc : 2 ^ (15 - n) * 2 ^ n = 32768 := by rw [← Nat.pow_add, show 15 - n + n = 15 by omega]
  have h1 : ∀ x : Int, bits .and .i64 x 1 = x % 2 := fun x => and_low x 1 (by decide)
  rw [← bit_val, h1, h1]
  obtain ⟨p, hp⟩ : ∃ p : Nat, 2 ^ n = p := ⟨_, rfl⟩
  obtain ⟨c, hcc⟩ : ∃ c : Nat, 2 ^ (15 - n) = c := ⟨_, rfl⟩
  have hp2 : ((2 : Int) ^ n) = (p : Int) := by rw [← hp]; simp
  rw [hp, hcc] at hc
  rw [hp2]
  have hp0 : (p : Int) ≠ 0 := by
    intro e
    have : p = 0 := by omega
    rw [this] at hc; simp at hc
  have hcI : (c : Int) * (p : Int) = 32768 := by rw [← Int.natCast_mul, hc]; rfl
  have e : z = (X : Int) + (2 * ((c : Int) * (z / 65536))) * (p : Int) := by
    have h2 : z = 65536 * (z / 65536) + z % 65536 := (Int.mul_ediv_add_emod z 65536).symm
    have h3 : (2 * ((c : Int) * (z / 65536))) * (p : Int) = 65536 * (z / 65536) := by
      rw [Int.mul_assoc, Int.mul_right_comm, hcI, ← Int.mul_assoc]; rfl
    rw [h3]; omega
  rw [e, Int.add_mul_ediv_right _ _ hp0, Int.add_mul_emod_self_left]
/-- four bits turned about, the first so many -/
def revN (k : Nat) : Nat → Nat
  | 0 => 0
  | v + 1 => revN k v + (k.testBit (3 - v)).toNat * 2 ^ v
theorem revN_end : ∀ k, k < 16 → revN k 4 = rev4 k := by decide +kernel
theorem revN_or : ∀ k, k < 16 → ∀ v, v < 4 → revN k v ||| ((k.testBit (3 - v)).toNat * 2 ^ v) = revN k (v + 1) := by decide +kernel
theorem revN_lt : ∀ k, k < 16 → ∀ v, v < 4 → revN k v < 16 ∧ (k.testBit (3 - v)).toNat * 2 ^ v < 16 := by decide +kernel
theorem four_len {a b c d : Bool} : [a, b, c, d].length ≤ maxLen := show 4 ≤ maxLen by decide
theorem small_w (q : Nat) (h : q < 16) : wrap64 (q : Int) = (q : Int) := w64 _ (by omega) (by omega)
theorem small_i (q : Nat) (h : q < 16) : IntKind.i64.wrap (q : Int) = (q : Int) := by rw [IntKind.wrap_i64]; omega
theorem small_or (n q : Nat) (hn : n < 16) (hq : q < 16) : bits .or .i64 (n : Int) (q : Int) = ((n ||| q : Nat) : Int) := or6 n q (by omega) (by omega)
theorem zero_k {S : NS} (hW : Wf S) {k : Nat} (hd : Den S k (tbl 0)) : k = 0 :=
  Den.same hW (hd.cong (g' := fun _ => false) fun ρ => by unfold tbl; simp) (Den.zero hW)
theorem some_bit {X : Nat} (hX : X < 65536) (h0 : X ≠ 0) : ∃ j, j < 16 ∧ X.testBit (rev4 j) = true := by
  obtain ⟨i, hi⟩ := Nat.exists_testBit_of_ne_zero h0
  have hi16 : i < 16 := by
    rcases Nat.lt_or_ge i 16 with h | h
    · exact h
    · rw [Nat.testBit_lt_two_pow (Nat.lt_of_lt_of_le hX (Nat.pow_le_pow_right (n := 2) (by decide) h))] at hi; cases hi
  exact ⟨rev4 i, rev4_lt i hi16, by rw [rev4_back i hi16]; exact hi⟩
theorem some_k {S : NS} {k X : Nat} (hd : Den S k (tbl X)) (hX : X < 65536) (h0 : X ≠ 0) : k ≠ 0 := by
  rintro rfl
  obtain ⟨j, hj, hb⟩ := some_bit hX h0
  have h := hd.says (rho (valsN (rev4 j)))
  rw [den_leaf _ _ (by decide)] at h
  unfold tbl at h
  rw [ix_vals _ (rev4_lt j hj), hb] at h
  cases h
set_option maxRecDepth 100000 in
set_option maxHeartbeats 6400000 in
theorem countFirst_walk (w : World) (z : Int) (_zw : (Lit.int .i64 z).wf = true) : Calls Try.prog 7 #[.int .i64 z] w (Fine6 w) := by
  obtain ⟨X, hX, hX16⟩ := low6 z
  have HXZ := Lib.hid hX
  go_enter Try.func7, Try.ntmps7
  go_wp2_with fail
  refine (begun6 w).mono ?_
  rintro e w1 ⟨p, rfl, hs1⟩
  have HS1 := Lib.hid hs1
  clear hs1
  go_wp2_with fail
  refine (made6 HS1.out hX16).mono ?_
  rintro e w2 ⟨S, k, rfl, hs2, hd2⟩
  have HS2 := Lib.hid hs2; have HD2 := Lib.hid hd2
  have HF := Lib.hid (first_ok w2 w.heap.size p S hs2.sto (k : Int))
  clear hs2 hd2
  by_cases hX0 : X = 0
  · subst hX0
    have hk0 : k = 0 := zero_k HS2.out.sto.wf HD2.out
    subst hk0
    go_wp2_with fail
    refine HF.out.mono ?_
    rintro e w3 ⟨hb3, ⟨_, rfl⟩ | ⟨h, _⟩⟩
    · have HS3 := Lib.hid (HS2.out.below hb3)
      clear hb3
      go_wp2_with fail
      refine (awake6 w3).mono ?_
      rintro e w4 ⟨rfl, hb4⟩
      have HS4 := Lib.hid (HS3.out.below hb4)
      clear hb4
      go_wp2_with fail
      go_ret
      exact ⟨rfl, HS4.out.bel⟩
    · unfold firE at h
      rw [if_pos (.inr rfl)] at h; cases h
  · have hk0 : k ≠ 0 := some_k HD2.out hX16 hX0
    have hx0 : ((X : Int) == 0) = false := by rw [beq_eq_false_iff_ne]; omega
    have HK0 := Lib.hid hk0; have HX0 := Lib.hid hX0
    clear hk0 hX0
    go_wp2_with fail
    refine HF.out.mono ?_
    rintro e w3 ⟨hb3, ⟨h, _⟩ | ⟨_, y, rfl, hr3⟩⟩
    · unfold firE at h
      rw [if_neg (by rw [isK_nat, HD2.out.is]; have := HK0.out; simp; omega)] at h; cases h
    rw [HS2.out.v4, Int.toNat_natCast] at hr3
    obtain ⟨ya, yc, e, _, _, hc3⟩ := Cells.of_own hr3
    subst e
    have HS3 := Lib.hid (HS2.out.below hb3); have HC3 := Lib.hid hc3
    clear hb3 hr3 hc3 HF
    go_wp2_with fail
    go_loopg [9] 16 (fun mm x wr => ∃ m : Nat, mm + m = 16 ∧ x = .int .i64 (m : Int) ∧ (∀ j, j < m → X.testBit (rev4 j) = false) ∧ w3 = wr)
    case atStart => exact ⟨0, rfl, rfl, fun j hj => absurd hj (Nat.not_lt_zero _), rfl⟩
    case round =>
      obtain ⟨m, hm, rfl, hno, rfl⟩ := hrel
      have HM := Lib.hid hm; have HNO := Lib.hid hno
      clear hm hno
      by_cases hm16 : m < 16
      · go_wp2_with fail
        go_loopg [10, 11] 4 (fun mm x y wr => ∃ v : Nat, mm + v = 4 ∧ x = .int .i64 (revN m v : Int) ∧ y = .int .i64 (v : Int) ∧ w3 = wr)
        case atStart => exact ⟨0, rfl, rfl, rfl, rfl⟩
        case round =>
          obtain ⟨v, hv, rfl, rfl, rfl⟩ := hrel
          have HV := Lib.hid hv
          clear hv
          by_cases hv4 : v < 4
          · obtain ⟨sv, hsv⟩ : ∃ sv, 3 - v = sv := ⟨_, rfl⟩
            obtain ⟨t, ht⟩ : ∃ t, m.testBit sv = t := ⟨_, rfl⟩
            obtain ⟨n, hn⟩ : ∃ n, revN m v = n := ⟨_, rfl⟩
            obtain ⟨n2, hn2⟩ : ∃ n, revN m (v + 1) = n := ⟨_, rfl⟩
            obtain ⟨q, hq⟩ : ∃ q, t.toNat * 2 ^ v = q := ⟨_, rfl⟩
            have hlt := revN_lt m hm16 v hv4
            have hor := revN_or m hm16 v hv4
            rw [hsv, ht, hn, hq] at hlt hor
            rw [hn2] at hor
            have h3v : 3 - (v : Int) = (sv : Int) := by omega
            have hsv16 : sv < 16 := by omega
            have s1 : wrap64 (3 - (v : Int)) = (sv : Int) := by rw [h3v]; exact small_w sv hsv16
            have s2 : IntKind.i64.wrap (3 - (v : Int)) = (sv : Int) := by rw [h3v]; exact small_i sv hsv16
            have hb : bits .and .i64 ((m : Int) / 2 ^ sv) 1 = (t.toNat : Int) := by rw [← ht]; exact bit_val m sv
            have hqI : (t.toNat : Int) * 2 ^ v = (q : Int) := by rw [← hq, Int.natCast_mul, Int.natCast_pow]; rfl
            have s3 : wrap64 ((t.toNat : Int) * 2 ^ v) = (q : Int) := by rw [hqI]; exact small_w q hlt.2
            have s4 : IntKind.i64.wrap ((t.toNat : Int) * 2 ^ v) = (q : Int) := by rw [hqI]; exact small_i q hlt.2
            have ho : bits .or .i64 (n : Int) (q : Int) = (n2 : Int) := by rw [small_or n q hlt.1 hlt.2, hor]
            have HN2 := Lib.hid hn2
            rw [hn]
            clear ht hn hn2 hq hlt hor hqI h3v
            go_wp2_with fail
            go_roundg (4 - (v + 1))
            case measure => have := HV.out; omega
            case rel => exact ⟨v + 1, by have := HV.out; omega, by rw [HN2.out], by go_num, rfl⟩
          · have hve : v = 4 := by have := HV.out; omega
            subst hve
            rw [revN_end m hm16]
            obtain ⟨r, hr⟩ : ∃ r, rev4 m = r := ⟨_, rfl⟩
            have hr16 : r < 16 := by rw [← hr]; exact rev4_lt m hm16
            obtain ⟨t, ht⟩ : ∃ t, X.testBit r = t := ⟨_, rfl⟩
            have hb : bits .and .i64 (z / 2 ^ r) 1 = (t.toNat : Int) := by rw [← ht]; exact zbit6 HXZ.out hr16
            have hte : ((t.toNat : Int) == 1) = t := by cases t <;> rfl
            rw [hr]
            have HR := Lib.hid hr; have HT := Lib.hid ht
            clear hr ht
            cases t with
            | false =>
              have HNO2 : Hid (∀ j, j < m + 1 → X.testBit (rev4 j) = false) := Lib.hid (fun j hj => by
                rcases Nat.lt_succ_iff_lt_or_eq.1 hj with h | rfl
                · exact HNO.out j h
                · rw [HR.out]; exact HT.out)
              go_wp2_with fail
              go_roundg (16 - (m + 1))
              case measure => have := HM.out; omega
              case rel => exact ⟨m + 1, by have := HM.out; omega, by go_num, HNO2.out, rfl⟩
            | true =>
              have hfir := fir_tbl HS2.out.sto.wf HS2.out.v4 HD2.out HK0.out hm16 (by rw [HR.out]; exact HT.out) HNO.out
              rw [HR.out] at hfir
              obtain ⟨t0, h0⟩ : ∃ t, r.testBit 0 = t := ⟨_, rfl⟩
              obtain ⟨t1, h1⟩ : ∃ t, r.testBit 1 = t := ⟨_, rfl⟩
              obtain ⟨t2, h2⟩ : ∃ t, r.testBit 2 = t := ⟨_, rfl⟩
              obtain ⟨t3, h3⟩ : ∃ t, r.testBit 3 = t := ⟨_, rfl⟩
              have hrow : bF 4 (firB S.l k) = [t0, t1, t2, t3].map Value.bool := by
                show [Value.bool (firB S.l k 0), .bool (firB S.l k 1), .bool (firB S.l k 2), .bool (firB S.l k 3)] = _
                rw [hfir 0 (by decide), hfir 1 (by decide), hfir 2 (by decide), hfir 3 (by decide), h0, h1, h2, h3]; rfl
              have a0 : bits .and .i64 (r : Int) 1 = (t0.toNat : Int) := by have := bit_val r 0; rw [h0] at this; simpa using this
              have a1 : bits .and .i64 ((r : Int) / 2) 1 = (t1.toNat : Int) := by have := bit_val r 1; rw [h1] at this; simpa using this
              have a2 : bits .and .i64 ((r : Int) / 4) 1 = (t2.toNat : Int) := by have := bit_val r 2; rw [h2] at this; simpa using this
              have a3 : bits .and .i64 ((r : Int) / 8) 1 = (t3.toNat : Int) := by have := bit_val r 3; rw [h3] at this; simpa using this
              have c0 : ((t0.toNat : Int) == 1) = t0 := by cases t0 <;> rfl
              have c1 : ((t1.toNat : Int) == 1) = t1 := by cases t1 <;> rfl
              have c2 : ((t2.toNat : Int) == 1) = t2 := by cases t2 <;> rfl
              have c3 : ((t3.toNat : Int) == 1) = t3 := by cases t3 <;> rfl
              obtain ⟨w4, hw4⟩ : ∃ w4, w4 = w3.alloc (.cells #[.bool t0, .bool t1, .bool t2, .bool t3] 4) := ⟨_, rfl⟩
              have hb4 : Below w3.heap.size w3 w4 := by rw [hw4]; exact (Below.refl _ _).alloc (Nat.le_refl _) _
              have HSB := Lib.hid (sameBits6 ya (some ⟨w3.heap.size, 0, none⟩) yc 4 [t0, t1, t2, t3] [t0, t1, t2, t3] w4 four_len four_len (by rw [← hrow]; exact HC3.out.below hb4) (by rw [hw4]; exact Cells.lit w3 #[.bool t0, .bool t1, .bool t2, .bool t3] 4))
              have HS4 := Lib.hid (HS3.out.below hb4)
              have HW4 := Lib.hid hw4
              clear hfir h0 h1 h2 h3 hrow hw4 hb4
              go_wp2_with fail
              rw [← HW4.out]
              refine HSB.out.mono ?_
              rintro e w5 ⟨rfl, q, hw5⟩
              rw [show decide True = true from rfl]
              have HS5 := Lib.hid (HS4.out.below (show Below w4.heap.size w4 w5 by rw [hw5]; exact bdN' _ _))
              clear hw5
              go_wp2_with fail
              refine (awake6 w5).mono ?_
              rintro e w6 ⟨rfl, hb6⟩
              have HS6 := Lib.hid (HS5.out.below hb6)
              clear hb6
              go_wp2_with fail
              go_ret
              exact ⟨rfl, HS6.out.bel⟩
      · have hme : m = 16 := by have := HM.out; omega
        subst hme
        obtain ⟨j, hj, hb⟩ := some_bit hX16 HX0.out
        rw [HNO.out j hj] at hb; cases hb
end Go.Proofs.Ytoegenacjhmicaa
