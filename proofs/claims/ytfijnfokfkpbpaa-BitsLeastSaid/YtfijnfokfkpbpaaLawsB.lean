/- The walks of the laws of layer 1 (bits) that go through memory: each returns true, and of what was there nothing has turned. -/
import Derived.Test.YtfijnfokfkpbpaaLawsA
namespace Go.Proofs.Ytfijnfokfkpbpaa
open Go.RowKit

theorem putR_64 : putR 6 4 = [false, true, true, false] ∧ putE 6 4 = 0 := by decide +kernel
theorem getS_3 : getS [false, true, true] = 6 ∧ getE [false, true, true] = 0 := by decide +kernel
theorem cells_lit (w : World) (t : TypeId) (cs : Array Value) : Cells (w.alloc (.cells cs t)) (some ⟨w.heap.size, 0, none⟩) cs.toList := fun _ => by
  have hb := Blk.new_ w t cs
  exact ⟨_, 0, rfl, hb.lt, fun i v hv => by rw [Nat.zero_add, hb.cell]; simpa using hv⟩

theorem cells_lit_at (w : World) (t : TypeId) (cs : Array Value) (n : Nat) (hn : n = w.heap.size) : Cells (w.alloc (.cells cs t)) (some ⟨n, 0, none⟩) cs.toList := by subst hn; exact cells_lit w t cs

set_option maxHeartbeats 1000000 in
theorem bitsOf_ok (w : World) : Calls Try.prog 22 #[] w (Fine w) := by
  go_enter Try.func22, Try.ntmps22
  go_wp2_with fail
  refine (put_ok _ _ _).mono ?_
  rintro e w1 ⟨a1, c1, rfl, hl1, hc1, hb1⟩
  rw [putR_64.1, putR_64.2]
  rw [putR_64.1] at hl1 hc1
  go_wp2_with fail
  refine (get_ok _ _ [false, true, true] _ (by simp [maxLen]) (cells_lit w1 _ _)).mono ?_
  rintro e w2 ⟨rfl, rfl⟩
  rw [getS_3.1, getS_3.2]
  go_wp2_with fail
  refine (sameBits_ok _ _ _ _ [false, true, true, false] [false, true, true, false] _ hl1 (by simp [maxLen]) ?c1 ?c2).mono ?_
  case c1 => exact (hc1.below ((Below.refl _ _).alloc (Nat.le_refl _) _)).below ((Below.refl _ _).alloc (Nat.le_refl _) _)
  case c2 => exact cells_lit_at _ _ _ _ (by simp)
  rintro e w3 ⟨rfl, n, rfl⟩
  go_wp2
  go_ret
  exact ⟨rfl, below_drewN ((hb1.alloc hb1.size _).alloc (by have := hb1.size; simp; omega) _) _⟩

set_option maxHeartbeats 1000000 in
theorem bitsPuts_walk (w : World) (a : Int) (_ : (Lit.int .i64 a).wf = true) (b : Int) (_ : (Lit.int .i64 b).wf = true) : Calls Try.prog 6 #[.int .i64 a, .int .i64 b] w (Fine w) := by
  go_enter Try.func6, Try.ntmps6
  go_wp2_with fail
  refine (put_ok _ _ _).mono ?_
  rintro e w1 ⟨a1, c1, rfl, hl1, hc1, hb1⟩
  go_wp2_with fail
  refine (rput_ok _ _ _).mono ?_
  rintro e w2 ⟨a2, c2, rfl, hl2, hc2, hb2⟩
  go_wp2_with fail
  refine (sameBits_ok _ _ _ _ _ _ _ hl1 hl2 (hc1.below hb2) hc2).mono ?_
  rintro e w3 ⟨rfl, n, rfl⟩
  rw [decide_eq_true rfl]
  go_wp2_with fail
  refine (bitsOf_ok _).mono ?_
  rintro e w3 ⟨rfl, hb3⟩
  go_wp2
  go_ret
  exact ⟨rfl, (hb1.trans (hb2.mono hb1.size)).trans ((below_drewN (Below.refl _ _) n).trans (hb3.mono (Nat.le_trans hb1.size hb2.size)))⟩

set_option maxHeartbeats 1000000 in
theorem bitsGets_walk (w : World) (a : Option Addr) (c : Nat) (l : List Bool) (hl : l.length ≤ maxLen) (hc : Cells w a (l.map Value.bool)) : Calls Try.prog 7 #[.slice a l.length c] w (Fine w) := by
  go_enter Try.func7, Try.ntmps7
  go_wp2_with fail
  refine (get_ok _ _ _ _ hl hc).mono ?_
  rintro e w1 ⟨rfl, rfl⟩
  go_wp2_with fail
  refine (rget_ok _ _ _ _ hl hc).mono ?_
  rintro e w1 ⟨rfl, rfl⟩
  go_wp2_with fail
  refine (bitsOf_ok _).mono ?_
  rintro e w3 ⟨rfl, hb3⟩
  go_wp2
  go_ret
  exact ⟨rfl, hb3⟩

theorem putR_len (n wd : Int) (h : putE n wd = 0) : 0 ≤ wd ∧ wd ≤ 62 ∧ 0 ≤ n ∧ n < ((2 ^ wd.toNat : Nat) : Int) ∧ putR n wd = putL n.toNat wd.toNat := by
  have hR : putR n wd = putL n.toNat wd.toNat := by unfold putR; rw [if_pos h]
  unfold putE at h
  split at h
  · cases h
  · exact ⟨by omega, by omega, by omega, by omega, hR⟩
theorem putE_cases (n wd : Int) : putE n wd = 0 ∨ putE n wd = 1 := by unfold putE; split <;> simp
theorem getN_putL (n k : Nat) (h : n < 2 ^ k) : getN (putL n k) = n := by
  have : ∀ j, getN (putL n j) = n % 2 ^ j := by
    intro j
    induction j with
    | zero => simp [putL, getN, Nat.mod_one]
    | succ j ih => rw [putL_snoc, getN_snoc, ih, putL_len, Nat.pow_succ, Nat.mod_mul, Nat.toNat_testBit, Nat.mul_comm]
  rw [this, Nat.mod_eq_of_lt h]
theorem putL_getN (l : List Bool) : putL (getN l) l.length = l := by
  apply List.ext_getElem?
  intro i
  rcases Nat.lt_or_ge i l.length with h | h
  · rw [putL_at _ _ _ h]
    have : ∀ (l : List Bool) (i : Nat) (h : i < l.length), (getN l).testBit i = l[i] := by
      intro l
      induction l with
      | nil => intro i h; simp at h
      | cons c l ih =>
        intro i h
        cases i with
        | zero => simp [getN, Nat.testBit_zero]; cases c <;> simp
        | succ i =>
          rw [Nat.testBit_succ]
          simp only [getN, List.getElem_cons_succ]
          rw [show (c.toNat + 2 * getN l) / 2 = getN l by have := Bool.toNat_le c; cases c <;> simp <;> omega]
          exact ih i (by simpa using h)
    rw [this l i h, List.getElem?_eq_getElem h]
  · rw [List.getElem?_eq_none (by rw [putL_len]; exact h), List.getElem?_eq_none h]
theorem get_put (n wd : Int) (h : putE n wd = 0) : getS (putR n wd) = n ∧ getE (putR n wd) = 0 ∧ ((putR n wd).length : Int) = wd := by
  obtain ⟨h1, h2, h3, h4, h5⟩ := putR_len n wd h
  have hl : (putR n wd).length = wd.toNat := by rw [h5, putL_len]
  refine ⟨?_, ?_, by rw [hl]; omega⟩
  · unfold getS
    rw [if_pos (by omega), h5, getN_putL _ _ (by omega)]; omega
  · unfold getE; rw [if_pos (by omega)]
theorem put_get (l : List Bool) (h : getE l = 0) : putR (getS l) l.length = l ∧ putE (getS l) l.length = 0 := by
  have hl : l.length ≤ 62 := by
    unfold getE at h
    split at h
    · assumption
    · cases h
  have e : getS l = (getN l : Nat) := by unfold getS; rw [if_pos hl]
  obtain ⟨e1, e2⟩ := putR_yes (getN l) l.length hl (getN_lt l)
  rw [e]
  exact ⟨e1.trans (putL_getN l), e2⟩

set_option maxHeartbeats 1000000 in
theorem bitsBack_walk (w : World) (a : Int) (_ : (Lit.int .i64 a).wf = true) (b : Int) (_ : (Lit.int .i64 b).wf = true) (x : Option Addr) (c : Nat) (l : List Bool) (hl : l.length ≤ maxLen) (hc : Cells w x (l.map Value.bool)) :
    Calls Try.prog 8 #[.int .i64 a, .int .i64 b, .slice x l.length c] w (Fine w) := by
  go_enter Try.func8, Try.ntmps8
  go_wp2_with fail
  refine (put_ok _ _ _).mono ?_
  rintro e w1 ⟨a1, c1, rfl, hl1, hc1, hb1⟩
  rcases putE_cases a b with h0 | h0
  case' inl =>
    obtain ⟨g1, g2, g3⟩ := get_put a b h0
    rw [h0]
    go_wp2_with fail
    refine (get_ok _ _ _ _ hl1 hc1).mono ?_
    rintro e w2 ⟨rfl, rfl⟩
    rw [g1, g2]
    have g4 : (((putR a b).length : Int) != b) = false := by rw [g3]; simp
    have G3 := Lib.hid g3; clear g1 g2 g3 h0
    go_wp2_with fail
  case' inr =>
    rw [h0]
    clear h0
    go_wp2_with fail
  all_goals
    refine (get_ok _ _ _ _ hl (hc.below hb1)).mono ?_
    rintro e w2 ⟨rfl, rfl⟩
    by_cases h62 : l.length ≤ 62
    case' pos =>
      have hE : getE l = 0 := by unfold getE; rw [if_pos h62]
      obtain ⟨p1, p2⟩ := put_get l hE
      rw [hE]
      have P1 := Lib.hid p1; have P2 := Lib.hid p2; clear hE p1 p2
      go_wp2_with fail
      refine (put_ok _ _ _).mono ?_
      rintro e w3 ⟨a2, c2, rfl, hl2, hc2, hb2⟩
      rw [P2.out]
      go_wp2_with fail
      refine (sameBits_ok _ _ _ _ _ _ _ hl2 hl hc2 ((hc.below hb1).below hb2)).mono ?_
      rintro e w4 ⟨rfl, n, rfl⟩
      rw [decide_eq_true P1.out]
      have hbel : Below w.heap.size w (w3.drewN n) := below_drewN (hb1.trans (hb2.mono hb1.size)) n
    case' neg =>
      have hE : getE l = 1 := by unfold getE; rw [if_neg h62]
      rw [hE]
      clear hE
      have hbel : Below w.heap.size w w1 := hb1
      have hgt : (62 : Int) < (l.length : Int) := by omega
    all_goals
      go_wp2_with fail
      refine (bitsOf_ok _).mono ?_
      rintro e w5 ⟨rfl, hb5⟩
      go_wp2
      go_ret
      exact ⟨rfl, hbel.trans (hb5.mono hbel.size)⟩

theorem put_width (n w : Int) (h : 1 ≤ n) (h2 : n ≤ 4611686018427387903) (hw : widS n = w) : putE (n - 1) w = 0 ∧ (w = 0 ∨ putE (n - 1) (w - 1) = 1) := by
  obtain ⟨e1, _⟩ := widS_yes n h h2
  rw [e1] at hw
  subst hw
  have h62 := bl_62 (n - 1).toNat (by omega)
  have hlt := lt_two_pow_bl (n - 1).toNat
  constructor
  · unfold putE
    rw [if_neg]
    rw [Int.toNat_natCast]
    omega
  · rcases Nat.eq_zero_or_pos (bl (n - 1).toNat) with h0 | h0
    · left; rw [h0]; rfl
    · right
      have hle : 2 ^ (bl (n - 1).toNat - 1) ≤ (n - 1).toNat := by
        rcases Nat.lt_or_ge (n - 1).toNat (2 ^ (bl (n - 1).toNat - 1)) with h3 | h3
        · have := bl_le_of_lt _ _ h3; omega
        · exact h3
      unfold putE
      rw [if_pos]
      right; right; right
      rw [show ((bl (n - 1).toNat : Int) - 1).toNat = bl (n - 1).toNat - 1 by omega]
      omega

set_option maxHeartbeats 1000000 in
theorem bitsLeast_walk (w : World) (a : Int) (_ : (Lit.int .i64 a).wf = true) : Calls Try.prog 9 #[.int .i64 a] w (Fine w) := by
  by_cases h : 1 ≤ a ∧ a ≤ 4611686018427387903
  · obtain ⟨h1, h2⟩ := h
    have e2 := (widS_yes a h1 h2).2
    obtain ⟨p1, p2⟩ := put_width a _ h1 h2 rfl
    have hbd := widS_bd a
    go_enter Try.func9, Try.ntmps9
    go_wp2_with fail
    refine (width_ok _ _).mono ?_
    rintro e w1 ⟨rfl, rfl⟩
    rw [e2]
    clear e2
    go_wp2_with fail
    refine (put_ok _ _ _).mono ?_
    rintro e w1 ⟨a1, c1, rfl, hl1, hc1, hb1⟩
    rw [p1]
    go_wp2_with fail
    refine (put_ok _ _ _).mono ?_
    rintro e w2 ⟨a2, c2, rfl, hl2, hc2, hb2⟩
    clear p1
    have hle : 0 ≤ widS a ∧ widS a ≤ 62 := ⟨hbd.1, hbd.2.1⟩
    rcases p2 with p2 | p2
    case' inl =>
      rw [p2]
      rcases putE_cases (a - 1) (0 - 1) with p3 | p3
    case' inr =>
      rw [p2]
    all_goals
      first | rw [p3] | skip
      go_wp2_with fail
      refine (bitsOf_ok _).mono ?_
      rintro e w5 ⟨rfl, hb5⟩
      go_wp2
      go_ret
      exact ⟨rfl, (hb1.trans (hb2.mono hb1.size)).trans (hb5.mono (Nat.le_trans hb1.size hb2.size))⟩
  · have e2 := (widS_no a (by omega)).2
    go_enter Try.func9, Try.ntmps9
    go_wp2_with fail
    refine (width_ok _ _).mono ?_
    rintro e w1 ⟨rfl, rfl⟩
    rw [e2]
    clear e2
    rcases (by omega : a < 1 ∨ ¬ a < 1 ∧ 4611686018427387903 < a) with h1 | ⟨h1, h2⟩
    all_goals
      clear h
      go_wp2_with fail
      refine (bitsOf_ok _).mono ?_
      rintro e w5 ⟨rfl, hb5⟩
      go_wp2
      go_ret
      exact ⟨rfl, hb5⟩
end Go.Proofs.Ytfijnfokfkpbpaa
