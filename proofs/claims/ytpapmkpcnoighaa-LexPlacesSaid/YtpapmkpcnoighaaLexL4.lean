/- LexPlaces: the walk. -/
import Derived.Test.YtpapmkpcnoighaaLexD
import Derived.Test.YtpapmkpcnoighaaLexS
import Derived.BigQuiet
namespace Go.Proofs.Ytpapmkpcnoighaa
open Go.RowKit LP
set_option maxRecDepth 100000 in
set_option maxHeartbeats 800000 in
theorem lexPlaces_walk (w : World) (s : ByteArray) (hs : s.size ≤ maxLen) : Calls Try.prog 4 #[.string s] w (Fine w) := by
  unfold maxLen at hs
  have hA := Lib.hid awake10
  by_cases hb : 4096 < s.size
  · have d1 : decide (4096 < (s.size : Int)) = true := decide_eq_true (by omega)
    clear hb
    go_enter Try.func4, Try.ntmps4
    go_wp2_with fail
    refine (hA.out _).mono ?_
    rintro e w' ⟨rfl, hb⟩
    go_wp2_with fail
    go_ret
    exact ⟨rfl, hb⟩
  · have d1 : decide (4096 < (s.size : Int)) = false := decide_eq_false (by omega)
    have h4 : s.size ≤ 4096 := by omega
    have HS1 := Lib.hid (signs_ok s (by unfold maxLen; omega))
    have hsz : s.size = s.data.toList.length := Lib.size_eq s
    have hS : Sig s = lex s.data.toList 0 0 := by unfold Sig; rw [if_neg (by omega)]
    by_cases he : (Sig s).2.2 = 0
    · have hat : (Sig s).2 = (0, 0) := by
        refine Prod.ext ?_ he
        rw [hS] at he ⊢; exact lexF_zero _ _ _ _ he
      obtain ⟨l, hl⟩ : ∃ l, Sig s = (l, 0, 0) := ⟨(Sig s).1, Prod.ext rfl hat⟩
      have hpl : Placed s.data.toList 0 l := lex_placed _ _ (hS ▸ hl)
      have hlen : l.length ≤ 4096 := by have := sig_len s; rw [hl] at this; exact this
      have HP := Lib.hid hpl; have HSG := Lib.hid hl; have HSZ := Lib.hid hsz
      clear hb hsz hS he hat hl hpl
      go_enter Try.func4, Try.ntmps4
      go_wp2_with fail
      refine (HS1.out _).mono ?_
      rintro e w1 ⟨v1, rfl, hown1, hb1⟩
      rw [HSG.out] at hown1 ⊢
      have HO1 := Lib.hid hown1; have HB1 := Lib.hid hb1
      obtain ⟨oa, oc, hv⟩ := own_shape hown1
      subst hv
      clear hown1 hb1
      go_wp2_with fail
      go_loopg [6, 7] (l.length + 1) (fun m x y wr => ∃ i e : Nat, m + i = l.length + 1 ∧ y = .int .i64 (i : Int) ∧ x = .int .i64 (e : Int) ∧ (i ≤ l.length → Placed s.data.toList e (l.drop i)) ∧ Below w1.heap.size w1 wr)
      case atStart => exact ⟨0, 0, rfl, rfl, rfl, fun _ => HP.out, Below.refl _ _⟩
      case round =>
        obtain ⟨i, e, hmi, rfl, rfl, hpl, hB⟩ := hrel
        have HM := Lib.hid hmi; have HPL := Lib.hid hpl; have HB := Lib.hid hB
        clear hmi hpl hB
        by_cases hil : i < l.length
        · obtain ⟨g, cap, hv, hg, hc⟩ := own_row HO1.out (by omega)
          injection hv with h1 h2 h3
          subst h1 h3
          obtain ⟨x, hx⟩ : ∃ x, x = l[i] := ⟨_, rfl⟩
          have hdr : l.drop i = x :: l.drop (i + 1) := by rw [hx]; exact List.drop_eq_getElem_cons hil
          have hplx := HPL.out (by omega)
          rw [hdr] at hplx
          obtain ⟨k1, k2, k3, k4, k5, k6⟩ := hplx
          obtain ⟨p, hp⟩ : ∃ p, p = x.pos := ⟨_, rfl⟩
          obtain ⟨n, hn⟩ : ∃ n, n = x.text.length := ⟨_, rfl⟩
          obtain ⟨r, hr⟩ : ∃ r, r = p + n := ⟨_, rfl⟩
          rw [← hp] at k1 k3 k4 k5 k6
          rw [← hn] at k2 k3 k4 k6
          rw [← HSZ.out] at k3
          have htx : (⟨x.text.toArray⟩ : ByteArray) = s.extract p r := by rw [ext_text s p n r hr, ← k4]
          obtain ⟨e1, e2, e3⟩ := sgCells_at l i hil
          rw [← hx] at e1 e2 e3
          rw [htx] at e2
          rw [← hp] at e3
          have a2 := (HB.out.cell (p := ⟨g, i * 3 + 1, none⟩) hg).trans ((hc (i * 3 + 1) (by omega)).trans e2)
          have a3 := (HB.out.cell (p := ⟨g, i * 3 + 2, none⟩) hg).trans ((hc (i * 3 + 2) (by omega)).trans e3)
          have hts : (s.extract p r).size = n := by rw [ByteArray.size_extract]; omega
          have hPN : (p : Int) + (n : Int) = (r : Int) := by omega
          have hrl : r ≤ s.size := by omega
          have hpr : p ≤ r := by omega
          have hep : e ≤ p := k1
          have hn1 : 0 < n := k2
          have hpn : p + n ≤ s.size := k3
          have t1b : decide (p < e) = false := decide_eq_false (by omega)
          have t1 : decide ((p : Int) < (e : Int)) = false := decide_eq_false (by omega)
          have t2 : ((n : Int) == 0) = false := by rw [beq_eq_false_iff_ne]; omega
          have t3 : decide ((s.size : Int) - (n : Int) < (p : Int)) = false := decide_eq_false (by omega)
          have hpl : p ≤ 4096 := by omega
          have hnl : n ≤ 4096 := by omega
          have hel : e ≤ 4096 := by omega
          have HW := Lib.hid k5; have HPL2 := Lib.hid k6; have HRR := Lib.hid hr
          have K1 := Lib.hid k1
          clear hc hx hdr k2 k3 k4 k5 k6 hp hn hr htx e1 e2 e3
          go_wp2_with fail
          go_quiet (fail)
          go_wp2_with fail
          go_quiet (fail)
          go_wp2_with fail
          go_loopg [10, 11] (p - e) (fun m x y wr2 => ∃ (k : Nat) (b : Bool), m + k = p ∧ x = .bool b ∧ y = .int .i64 (k : Int) ∧ white b ((s.data.toList.drop k).take (p - k)) = true ∧ Below w1.heap.size w1 wr2)
          case atStart => exact ⟨e, false, by omega, rfl, rfl, HW.out, ⟨HB.out.os, HB.out.tape, HB.out.output, HB.out.size, HB.out.block⟩⟩
          case round =>
            obtain ⟨k, b, hmk, rfl, rfl, hwh, hB2⟩ := hrel
            have HMK := Lib.hid hmk; have HWH := Lib.hid hwh; have HB2 := Lib.hid hB2
            clear hmk hwh hB2
            by_cases hk : k < p
            · have hks : k < s.size := by omega
              have hdk : (s.data.toList.drop k).take (p - k) = s[k] :: (s.data.toList.drop (k + 1)).take (p - (k + 1)) := by
                rw [drop_at s.data.toList k (by rw [← HSZ.out]; exact hks), show p - k = (p - (k + 1)) + 1 by omega, List.take_succ_cons]; rfl
              have hw2 := HWH.out
              rw [hdk, white, Bool.and_eq_true] at hw2
              obtain ⟨q1, q2⟩ := hw2
              by_cases h35 : s[k].toNat = 35
              · have hnx : nxt b s[k] = true := by unfold nxt; rw [if_neg (by omega), if_pos h35]
                have d1 : ((s[k].toNat : Int) == 35) = true := by rw [beq_iff_eq]; omega
                have d2 : ((s[k].toNat : Int) == 10) = false := by rw [beq_eq_false_iff_ne]; omega
                rw [hnx] at q2
                have Q2 := Lib.hid q2
                clear hdk q1 q2 h35 hnx
                go_wp2_with fail
                go_roundg (p - (k + 1))
                case measure => have := HMK.out; omega
                case rel => exact ⟨k + 1, true, by omega, rfl, by go_num, Q2.out, HB2.out⟩
              · by_cases h10 : s[k].toNat = 10
                · have hnx : nxt b s[k] = false := by unfold nxt; rw [if_pos h10]
                  have d1 : ((s[k].toNat : Int) == 35) = false := by rw [beq_eq_false_iff_ne]; omega
                  have d2 : ((s[k].toNat : Int) == 10) = true := by rw [beq_iff_eq]; omega
                  have d3 : ((s[k].toNat : Int) != 32) = true := by rw [bne_iff_ne]; omega
                  have d4 : ((s[k].toNat : Int) != 9) = true := by rw [bne_iff_ne]; omega
                  have d5 : ((s[k].toNat : Int) != 10) = false := by rw [bne_eq_false_iff_eq]; omega
                  rw [hnx] at q2
                  have Q2 := Lib.hid q2
                  clear hdk q1 q2 h35 h10 hnx
                  go_wp2_with fail
                  go_roundg (p - (k + 1))
                  case measure => have := HMK.out; omega
                  case rel => exact ⟨k + 1, false, by omega, rfl, by go_num, Q2.out, HB2.out⟩
                · have hnx : nxt b s[k] = b := by unfold nxt; rw [if_neg h10, if_neg h35]
                  have d1 : ((s[k].toNat : Int) == 35) = false := by rw [beq_eq_false_iff_ne]; omega
                  have d2 : ((s[k].toNat : Int) == 10) = false := by rw [beq_eq_false_iff_ne]; omega
                  rw [hnx] at q1 q2
                  have Q2 := Lib.hid q2
                  cases b
                  · have hbl : blankB s[k] = true := by simpa using q1
                    have hc3 : s[k].toNat = 32 ∨ s[k].toNat = 9 ∨ s[k].toNat = 13 := by
                      unfold blankB at hbl; simp only [Bool.or_eq_true, decide_eq_true_eq] at hbl; omega
                    rcases hc3 with h | h | h
                    · have d9 : ((s[k].toNat : Int) != 10) = true := by rw [bne_iff_ne]; omega
                      have d3 : ((s[k].toNat : Int) != 32) = false := by rw [bne_eq_false_iff_eq]; omega
                      have d4 : ((s[k].toNat : Int) != 9) = true := by rw [bne_iff_ne]; omega
                      have d5 : ((s[k].toNat : Int) != 13) = true := by rw [bne_iff_ne]; omega
                      clear hdk q1 q2 h35 h10 hnx hbl h
                      go_wp2_with fail
                      go_roundg (p - (k + 1))
                      case measure => have := HMK.out; omega
                      case rel => exact ⟨k + 1, false, by omega, rfl, by go_num, Q2.out, HB2.out⟩
                    · have d9 : ((s[k].toNat : Int) != 10) = true := by rw [bne_iff_ne]; omega
                      have d3 : ((s[k].toNat : Int) != 32) = true := by rw [bne_iff_ne]; omega
                      have d4 : ((s[k].toNat : Int) != 9) = false := by rw [bne_eq_false_iff_eq]; omega
                      have d5 : ((s[k].toNat : Int) != 13) = true := by rw [bne_iff_ne]; omega
                      clear hdk q1 q2 h35 h10 hnx hbl h
                      go_wp2_with fail
                      go_roundg (p - (k + 1))
                      case measure => have := HMK.out; omega
                      case rel => exact ⟨k + 1, false, by omega, rfl, by go_num, Q2.out, HB2.out⟩
                    · have d9 : ((s[k].toNat : Int) != 10) = true := by rw [bne_iff_ne]; omega
                      have d3 : ((s[k].toNat : Int) != 32) = true := by rw [bne_iff_ne]; omega
                      have d4 : ((s[k].toNat : Int) != 9) = true := by rw [bne_iff_ne]; omega
                      have d5 : ((s[k].toNat : Int) != 13) = false := by rw [bne_eq_false_iff_eq]; omega
                      clear hdk q1 q2 h35 h10 hnx hbl h
                      go_wp2_with fail
                      go_roundg (p - (k + 1))
                      case measure => have := HMK.out; omega
                      case rel => exact ⟨k + 1, false, by omega, rfl, by go_num, Q2.out, HB2.out⟩
                  · clear hdk q1 q2 h35 h10 hnx
                    go_wp2_with fail
                    go_roundg (p - (k + 1))
                    case measure => have := HMK.out; omega
                    case rel => exact ⟨k + 1, true, by omega, rfl, by go_num, Q2.out, HB2.out⟩
            · have hke : p ≤ k := by omega
              clear hk
              go_wp2_with fail
              go_roundg (l.length + 1 - (i + 1))
              case measure => have := HM.out; omega
              case rel => exact ⟨i + 1, r, by omega, by go_num, by go_num, fun _ => by rw [HRR.out]; exact HPL2.out, HB2.out⟩
        · by_cases hie : i = l.length
          · have hplx := HPL.out (by omega)
            rw [hie, List.drop_length] at hplx
            obtain ⟨k1, k2⟩ := hplx
            rw [← HSZ.out] at k1
            have hWs : white false ((s.data.toList.drop e).take (s.size - e)) = true := by
              rw [List.take_of_length_le (by rw [List.length_drop, ← HSZ.out]; omega)]; exact k2
            have HW := Lib.hid hWs
            have hil2 : l.length ≤ i := by omega
            have hil3 : i ≤ l.length := by omega
            clear hWs k2 hie hil
            go_wp2_with fail
            go_loopg [10, 11] (s.size - e) (fun m x y wr2 => ∃ (k : Nat) (b : Bool), m + k = s.size ∧ x = .bool b ∧ y = .int .i64 (k : Int) ∧ white b ((s.data.toList.drop k).take (s.size - k)) = true ∧ Below w1.heap.size w1 wr2)
            case atStart => exact ⟨e, false, by omega, rfl, rfl, HW.out, ⟨HB.out.os, HB.out.tape, HB.out.output, HB.out.size, HB.out.block⟩⟩
            case round =>
              obtain ⟨k, b, hmk, rfl, rfl, hwh, hB2⟩ := hrel
              have HMK := Lib.hid hmk; have HWH := Lib.hid hwh; have HB2 := Lib.hid hB2
              clear hmk hwh hB2
              by_cases hk : k < s.size
              · have hks : k < s.size := by omega
                have hdk : (s.data.toList.drop k).take (s.size - k) = s[k] :: (s.data.toList.drop (k + 1)).take (s.size - (k + 1)) := by
                  rw [drop_at s.data.toList k (by rw [← HSZ.out]; exact hks), show s.size - k = (s.size - (k + 1)) + 1 by omega, List.take_succ_cons]; rfl
                have hw2 := HWH.out
                rw [hdk, white, Bool.and_eq_true] at hw2
                obtain ⟨q1, q2⟩ := hw2
                by_cases h35 : s[k].toNat = 35
                · have hnx : nxt b s[k] = true := by unfold nxt; rw [if_neg (by omega), if_pos h35]
                  have d1 : ((s[k].toNat : Int) == 35) = true := by rw [beq_iff_eq]; omega
                  have d2 : ((s[k].toNat : Int) == 10) = false := by rw [beq_eq_false_iff_ne]; omega
                  rw [hnx] at q2
                  have Q2 := Lib.hid q2
                  clear hdk q1 q2 h35 hnx
                  go_wp2_with fail
                  go_roundg (s.size - (k + 1))
                  case measure => have := HMK.out; omega
                  case rel => exact ⟨k + 1, true, by omega, rfl, by go_num, Q2.out, HB2.out⟩
                · by_cases h10 : s[k].toNat = 10
                  · have hnx : nxt b s[k] = false := by unfold nxt; rw [if_pos h10]
                    have d1 : ((s[k].toNat : Int) == 35) = false := by rw [beq_eq_false_iff_ne]; omega
                    have d2 : ((s[k].toNat : Int) == 10) = true := by rw [beq_iff_eq]; omega
                    have d3 : ((s[k].toNat : Int) != 32) = true := by rw [bne_iff_ne]; omega
                    have d4 : ((s[k].toNat : Int) != 9) = true := by rw [bne_iff_ne]; omega
                    have d5 : ((s[k].toNat : Int) != 10) = false := by rw [bne_eq_false_iff_eq]; omega
                    rw [hnx] at q2
                    have Q2 := Lib.hid q2
                    clear hdk q1 q2 h35 h10 hnx
                    go_wp2_with fail
                    go_roundg (s.size - (k + 1))
                    case measure => have := HMK.out; omega
                    case rel => exact ⟨k + 1, false, by omega, rfl, by go_num, Q2.out, HB2.out⟩
                  · have hnx : nxt b s[k] = b := by unfold nxt; rw [if_neg h10, if_neg h35]
                    have d1 : ((s[k].toNat : Int) == 35) = false := by rw [beq_eq_false_iff_ne]; omega
                    have d2 : ((s[k].toNat : Int) == 10) = false := by rw [beq_eq_false_iff_ne]; omega
                    rw [hnx] at q1 q2
                    have Q2 := Lib.hid q2
                    cases b
                    · have hbl : blankB s[k] = true := by simpa using q1
                      have hc3 : s[k].toNat = 32 ∨ s[k].toNat = 9 ∨ s[k].toNat = 13 := by
                        unfold blankB at hbl; simp only [Bool.or_eq_true, decide_eq_true_eq] at hbl; omega
                      rcases hc3 with h | h | h
                      · have d9 : ((s[k].toNat : Int) != 10) = true := by rw [bne_iff_ne]; omega
                        have d3 : ((s[k].toNat : Int) != 32) = false := by rw [bne_eq_false_iff_eq]; omega
                        have d4 : ((s[k].toNat : Int) != 9) = true := by rw [bne_iff_ne]; omega
                        have d5 : ((s[k].toNat : Int) != 13) = true := by rw [bne_iff_ne]; omega
                        clear hdk q1 q2 h35 h10 hnx hbl h
                        go_wp2_with fail
                        go_roundg (s.size - (k + 1))
                        case measure => have := HMK.out; omega
                        case rel => exact ⟨k + 1, false, by omega, rfl, by go_num, Q2.out, HB2.out⟩
                      · have d9 : ((s[k].toNat : Int) != 10) = true := by rw [bne_iff_ne]; omega
                        have d3 : ((s[k].toNat : Int) != 32) = true := by rw [bne_iff_ne]; omega
                        have d4 : ((s[k].toNat : Int) != 9) = false := by rw [bne_eq_false_iff_eq]; omega
                        have d5 : ((s[k].toNat : Int) != 13) = true := by rw [bne_iff_ne]; omega
                        clear hdk q1 q2 h35 h10 hnx hbl h
                        go_wp2_with fail
                        go_roundg (s.size - (k + 1))
                        case measure => have := HMK.out; omega
                        case rel => exact ⟨k + 1, false, by omega, rfl, by go_num, Q2.out, HB2.out⟩
                      · have d9 : ((s[k].toNat : Int) != 10) = true := by rw [bne_iff_ne]; omega
                        have d3 : ((s[k].toNat : Int) != 32) = true := by rw [bne_iff_ne]; omega
                        have d4 : ((s[k].toNat : Int) != 9) = true := by rw [bne_iff_ne]; omega
                        have d5 : ((s[k].toNat : Int) != 13) = false := by rw [bne_eq_false_iff_eq]; omega
                        clear hdk q1 q2 h35 h10 hnx hbl h
                        go_wp2_with fail
                        go_roundg (s.size - (k + 1))
                        case measure => have := HMK.out; omega
                        case rel => exact ⟨k + 1, false, by omega, rfl, by go_num, Q2.out, HB2.out⟩
                    · clear hdk q1 q2 h35 h10 hnx
                      go_wp2_with fail
                      go_roundg (s.size - (k + 1))
                      case measure => have := HMK.out; omega
                      case rel => exact ⟨k + 1, true, by omega, rfl, by go_num, Q2.out, HB2.out⟩
              · have hke : s.size ≤ k := by omega
                clear hk
                go_wp2_with fail
                go_roundg (l.length + 1 - (i + 1))
                case measure => have := HM.out; omega
                case rel => exact ⟨i + 1, s.size, by omega, by go_num, by go_num, fun h => absurd h (by omega), HB2.out⟩
          · have hgt : l.length < i := by omega
            clear hie hil
            go_wp2_with fail
            refine (hA.out _).mono ?_
            rintro e w4 ⟨rfl, hb4⟩
            have HB4 := Lib.hid ((HB1.out.trans (HB.out.mono HB1.out.size)).trans (hb4.mono (Nat.le_trans HB1.out.size HB.out.size)))
            clear hb4
            go_wp2_with fail
            go_ret
            exact ⟨rfl, HB4.out⟩
    · have hat : (Sig s).2.1 < s.size := by rw [hS, hsz]; exact lex_at_lt _ (by rw [← hS]; exact he)
      have hnil : (Sig s).1 = [] := by rw [hS] at he ⊢; exact (lex_err _ _ _).resolve_left he
      obtain ⟨p, e, hl⟩ : ∃ p e, Sig s = ([], p, e) := ⟨(Sig s).2.1, (Sig s).2.2, Prod.ext hnil rfl⟩
      rw [hl] at hat he
      have hp : p < s.size := hat
      have he0 : ¬ e = 0 := he
      have d2 : ((e : Int) == 0) = false := by rw [beq_eq_false_iff_ne]; omega
      have HSG := Lib.hid hl
      clear hb hsz hS he he0 hat hnil hl
      go_enter Try.func4, Try.ntmps4
      go_wp2_with fail
      refine (HS1.out _).mono ?_
      rintro e w1 ⟨v1, rfl, hown1, hb1⟩
      rw [HSG.out] at hown1 ⊢
      obtain ⟨oa, oc, hv⟩ := own_shape hown1
      subst hv
      have HB1 := Lib.hid hb1
      clear hown1 hb1
      go_wp2_with fail
      refine (hA.out _).mono ?_
      rintro e w4 ⟨rfl, hb4⟩
      have HB4 := Lib.hid (HB1.out.trans (hb4.mono HB1.out.size))
      clear hb4
      go_wp2_with fail
      go_ret
      exact ⟨rfl, HB4.out⟩
end Go.Proofs.Ytpapmkpcnoighaa
