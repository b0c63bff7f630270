/- Layer 6: what the laws ask: Make on the store, hangs, trues, four. -/
import Derived.Test.YtoegenacjhmicaaCountX
import Derived.Test.YtoegenacjhmicaaTabN
import Derived.BigQuiet
namespace Go.Proofs.Ytoegenacjhmicaa
open Go.RowKit HP NP
theorem low6 (z : Int) : ∃ a : Nat, bits .and .i64 z 65535 = (a : Int) ∧ a < 65536 := ⟨(z % 65536).toNat, by rw [show bits .and .i64 z 65535 = z % 65536 from and_low z 16 (by decide)]; omega, by omega⟩
theorem xor6 (a b : Nat) (ha : a < 65536) (hb : b < 65536) : bits .xor .i64 (a : Int) (b : Int) = ((a ^^^ b : Nat) : Int) := by
  show IntKind.i64.wrap ((BitVec.ofInt 64 (a : Int) ^^^ BitVec.ofInt 64 (b : Int)).toNat : Int) = _
  rw [BitVec.toNat_xor, BitVec.ofInt_natCast, BitVec.ofInt_natCast, BitVec.toNat_ofNat, BitVec.toNat_ofNat, Nat.mod_eq_of_lt (a := a) (by omega), Nat.mod_eq_of_lt (a := b) (by omega), IntKind.wrap_i64]
  have := Nat.xor_lt_two_pow (x := a) (y := b) (n := 16) ha hb
  omega
theorem made6 {w0 w : World} {p X : Nat} (h : CSt w0 w p (newS 4 1000)) (hX : X < 65536) :
    Calls Try.prog 13 #[.pointer (some ⟨p, 0, none⟩), .int .i64 (X : Int)] w fun e w' => ∃ S' k, e = .returned (.tuple #[.int .i64 ((k : Nat) : Int), .bool true]) ∧ CSt w0 w' p S' ∧ Den S' k (tbl X) := by
  refine (make_ok w w0.heap.size p _ X hX h.sto h.bel.size rfl).mono ?_
  rintro e w' ⟨S', hs, hk, ⟨k, rfl, hg⟩ | ⟨_, hn⟩⟩
  · exact ⟨S', k, rfl, ⟨hs, hg.ext.vars.trans h.v4, h.bel.trans (hk.low h.bel.size)⟩, hg.den⟩
  · have := hn.room
    rw [newS_cnt] at this
    exact absurd (show (newS 4 1000).budget < 2 + 15 from this) (by decide)
set_option maxHeartbeats 1600000 in
theorem hangs6 (w : World) (X v : Nat) (_hX : X < 65536) (hv : v < 4) :
    Calls Try.prog 22 #[.int .i64 (X : Int), .int .i64 (v : Int)] w fun e w' => e = .returned (.bool (hangB X v)) ∧ ∃ n, w' = w.drewN n := by
  obtain ⟨pv, hpv⟩ : ∃ pv, 2 ^ v = pv := ⟨_, rfl⟩
  have e1 : wrap64 ((2 : Int) ^ v) = (pv : Int) := by rw [← hpv]; exact shl6 (by omega)
  have hp8 : pv ≤ 8 := by rw [← hpv]; exact Nat.pow_le_pow_right (n := 2) (by decide) (show v ≤ 3 by omega)
  have HPV := Lib.hid hpv
  clear hpv
  go_enter Try.func22, Try.ntmps22
  go_wp2_with fail
  go_loopg [5] 16 (fun mm x wr => ∃ n : Nat, mm + n = 16 ∧ x = .int .i64 (n : Int) ∧ ((List.range n).any fun n => X.testBit n != X.testBit (n ^^^ 2 ^ v)) = false ∧ ∃ q, wr = w.drewN q)
  case atStart => exact ⟨0, rfl, rfl, rfl, 0, rfl⟩
  case round =>
    obtain ⟨n, hm, rfl, hno, q, rfl⟩ := hrel
    have HM := Lib.hid hm; have HNO := Lib.hid hno
    clear hm hno
    by_cases hn : n < 16
    · obtain ⟨m, hmx⟩ : ∃ m, n ^^^ pv = m := ⟨_, rfl⟩
      have hm16 : m < 16 := by rw [← hmx, ← HPV.out]; exact xor_lt n hn v hv
      have hx : bits .xor .i64 (n : Int) (pv : Int) = (m : Int) := by rw [← hmx]; exact xor6 n pv (by omega) (by omega)
      obtain ⟨t1, ht1⟩ : ∃ t, X.testBit n = t := ⟨_, rfl⟩
      obtain ⟨t2, ht2⟩ : ∃ t, X.testBit m = t := ⟨_, rfl⟩
      have hb1 : bits .and .i64 ((X : Int) / 2 ^ n) 1 = (t1.toNat : Int) := by rw [← ht1]; exact bit_val X n
      have hb2 : bits .and .i64 ((X : Int) / 2 ^ m) 1 = (t2.toNat : Int) := by rw [← ht2]; exact bit_val X m
      have hne : ((t1.toNat : Int) != (t2.toNat : Int)) = (t1 != t2) := by cases t1 <;> cases t2 <;> rfl
      have HT : Hid ((X.testBit n != X.testBit (n ^^^ 2 ^ v)) = (t1 != t2)) := Lib.hid (by rw [HPV.out, hmx, ht1, ht2])
      clear hmx ht1 ht2
      cases ht : (t1 != t2) with
      | true =>
        rw [ht] at hne HT
        have HA : Hid (hangB X v = true) := Lib.hid (by
          unfold hangB
          rw [List.any_eq_true]
          exact ⟨n, List.mem_range.2 hn, HT.out⟩)
        clear ht
        go_upto_region 4 with (fail)
        go_quiet (fail)
        go_wp2_with fail
        go_ret
        exact ⟨by rw [HA.out]; rfl, drew_more ⟨_, rfl⟩ _⟩
      | false =>
        rw [ht] at hne HT
        have HA : Hid (((List.range (n + 1)).any fun n => X.testBit n != X.testBit (n ^^^ 2 ^ v)) = false) := Lib.hid (by
          rw [List.range_succ, List.any_append, HNO.out, List.any_cons, HT.out]; rfl)
        clear ht
        go_upto_region 4 with (fail)
        go_quiet (fail)
        go_wp2_with fail
        go_roundg (16 - (n + 1))
        case measure => have := HM.out; omega
        case rel => exact ⟨n + 1, by have := HM.out; omega, by go_num, HA.out, _, rfl⟩
    · have hne : n = 16 := by have := HM.out; omega
      subst hne
      go_wp2_with fail
      go_ret
      exact ⟨by unfold hangB; rw [HNO.out]; rfl, q, rfl⟩
theorem truesP {X n : Nat} {b : Bool} (h : X.testBit n = b) : (List.range (n + 1)).filter (fun n => X.testBit n) = (List.range n).filter (fun n => X.testBit n) ++ (if b then [n] else []) := by
  rw [List.range_succ, List.filter_append]
  congr 1
  cases b <;> simp [List.filter, h]
set_option maxRecDepth 100000 in
set_option maxHeartbeats 1600000 in
theorem trues6 (w : World) (X : Nat) (_hX : X < 65536) :
    Calls Try.prog 29 #[.int .i64 (X : Int)] w fun e w' => ∃ y, e = .returned y ∧ w'.ownsRow w.heap.size 3 1 y (truesL X).length (iV (truesL X)) ∧ Below w.heap.size w w' := by
  obtain ⟨l0, hl0, lz0, lz1, lz2⟩ := info_parts int_info
  go_enter Try.func29, Try.ntmps29
  go_wp2_with fail
  go_loopg [3, 4] 16 (fun mm u x wr => ∃ n : Nat, mm + n = 16 ∧ x = .int .i64 (n : Int) ∧ Below w.heap.size w wr ∧ wr.ownsRow w.heap.size 3 1 u ((List.range n).filter (fun n => X.testBit n)).length (iV ((List.range n).filter (fun n => X.testBit n))))
  case atStart => exact ⟨0, rfl, rfl, Below.refl _ _, World.ownsRow_nil _ _ _ _⟩
  case round =>
    obtain ⟨n, hm, rfl, hb, hr⟩ := hrel
    have HM := Lib.hid hm; have HB := Lib.hid hb; have hs := hb.size
    obtain ⟨T, hT⟩ : ∃ T, ((List.range n).filter (fun n => X.testBit n)).length = T := ⟨_, rfl⟩
    have hT2 : T ≤ n := by rw [← hT]; exact Nat.le_trans (List.length_filter_le _ _) (by simp)
    rw [hT] at hr
    have HR := Lib.hid hr; have HT := Lib.hid hT
    clear hm hb hr hT
    by_cases hn : n < 16
    · obtain ⟨t1, ht1⟩ : ∃ t, X.testBit n = t := ⟨_, rfl⟩
      have hb1 : bits .and .i64 ((X : Int) / 2 ^ n) 1 = (t1.toNat : Int) := by rw [← ht1]; exact bit_val X n
      have hne : ((t1.toNat : Int) == 1) = t1 := by cases t1 <;> rfl
      have HTP := Lib.hid (truesP ht1)
      clear ht1
      cases t1 with
      | true =>
        go_wp2_with (at_builtin; refine wpList_append_sep rfl (.tmp 14) (.tmp 16) 28 rfl w.heap.size 3 l0 (.int .i64 0) 1 8 Try.underlying28 hl0 lz0 lz1 lz2 rfl (by decide) u3 T _ rfl (HR.out.alloc _) wr.heap.size 0 1 1 [.int .i64 (n : Int)] rfl rfl (lit_one _ _ _) (ones_int _) (by unfold maxLen; omega) (by omega) (by simp; omega) ?_)
        intro y4 w4 hown4 hg4 hsep4
        have HR4 : Hid (w4.ownsRow w.heap.size 3 1 y4 ((List.range (n + 1)).filter (fun n => X.testBit n)).length (iV ((List.range (n + 1)).filter (fun n => X.testBit n)))) := Lib.hid (by
          rw [HTP.out, List.length_append, HT.out, iV_app]; exact hown4)
        have HB4 : Hid (Below w.heap.size w w4) := Lib.hid ((HB.out.alloc hs (.cells #[.int .i64 (n : Int)] 3)).grown hg4 (Nat.le_trans hs (Nat.le_of_lt (by simp))) (fun j hj => (HR.out.lt j hj).1))
        clear hown4 hg4 hsep4
        go_wp2_with fail
        go_roundg (16 - (n + 1))
        case measure => have := HM.out; omega
        case rel => exact ⟨n + 1, by have := HM.out; omega, by go_num, HB4.out, HR4.out⟩
      | false =>
        have HR4 : Hid (wr.ownsRow w.heap.size 3 1 u3 ((List.range (n + 1)).filter (fun n => X.testBit n)).length (iV ((List.range (n + 1)).filter (fun n => X.testBit n)))) := Lib.hid (by
          rw [HTP.out, if_neg (by decide), List.append_nil, HT.out]; exact HR.out)
        go_wp2_with fail
        go_roundg (16 - (n + 1))
        case measure => have := HM.out; omega
        case rel => exact ⟨n + 1, by have := HM.out; omega, by go_num, HB.out, HR4.out⟩
    · have hne : n = 16 := by have := HM.out; omega
      subst hne
      go_wp2_with fail
      go_ret
      refine ⟨_, rfl, ?_, HB.out⟩
      have h := HR.out
      rw [← HT.out] at h
      exact h
theorem four6 (w : World) : Calls Try.prog 31 #[] w fun e w' => e = .returned (.slice (some ⟨w.heap.size, 0, none⟩) 4 4) ∧ w' = w.alloc (.cells #[.int .i64 0, .int .i64 1, .int .i64 2, .int .i64 3] 3) := by
  go_enter Try.func31, Try.ntmps31
  go_wp2_with fail
  go_ret
  exact ⟨rfl, rfl⟩
end Go.Proofs.Ytoegenacjhmicaa
