/- The reference's Signs. Written by genlexrd.py. -/
import Derived.Test.YtpapmkpcnoighaaLexRC
namespace Go.Proofs.Ytpapmkpcnoighaa
open Go.RowKit LP
theorem lex_blank1 (L : List UInt8) (k cnt : Nat) (h : k < L.length) (hb : blankB L[k] = true) : lex (L.drop k) k cnt = lex (L.drop (k + 1)) (k + 1) cnt := by
  rw [← List.drop_drop]
  refine lex_skip _ _ _ _ ?_
  rw [List.drop_drop, drop_at L k h, skipF, if_pos hb]
theorem lex_rem1 (L : List UInt8) (k n cnt : Nat) (h : k < L.length) (hb : blankB L[k] = false) (h35 : L[k].toNat = 35) (hn : n = runL noLine (L.drop k)) : lex (L.drop k) k cnt = lex (L.drop (k + n)) (k + n) cnt ∧ 0 < n ∧ k + n ≤ L.length := by
  have e : k = k + runL blankB (L.drop k) := by rw [drop_at L k h, runL_cons, hb]; simp
  exact round_remark L k k n cnt e hn h h35
theorem lex_sign1 (L : List UInt8) (k cnt : Nat) (h : k < L.length) (hb : blankB L[k] = false) (h35 : L[k].toNat ≠ 35) :
    lex (L.drop k) k cnt = if (oneL (L.drop k)).2 = 0 then ([], k, 100) else if 4096 ≤ cnt then ([], k, 2) else put1 ⟨(oneL (L.drop k)).1, (L.drop k).take (oneL (L.drop k)).2, k⟩ (lex (L.drop (k + (oneL (L.drop k)).2)) (k + (oneL (L.drop k)).2) (cnt + 1)) := by
  have e : k = k + runL blankB (L.drop k) := by rw [drop_at L k h, runL_cons, hb]; simp
  exact round_sign L k k cnt e h h35
theorem blank_cases (c : UInt8) (h : blankB c = true) : c.toNat = 32 ∨ c.toNat = 9 ∨ c.toNat = 10 ∨ c.toNat = 13 := by
  unfold blankB at h; simp only [Bool.or_eq_true, decide_eq_true_eq] at h; omega
theorem blank_not (c : UInt8) (h : blankB c = false) : c.toNat ≠ 32 ∧ c.toNat ≠ 9 ∧ c.toNat ≠ 10 ∧ c.toNat ≠ 13 := by
  unfold blankB at h; simp only [Bool.or_eq_false_iff, decide_eq_false_iff_not] at h; omega
set_option maxRecDepth 100000 in
set_option maxHeartbeats 800000 in
theorem rsigns_ok (s : ByteArray) (hs : s.size ≤ maxLen) (w : World) : Calls Try.prog 10 #[.string s] w fun e w' => ∃ v, e = .returned (.tuple #[v, .int .i64 ((Sig s).2.1 : Nat), .int .i64 ((Sig s).2.2 : Nat)]) ∧ w'.ownsRow w.heap.size 30 3 v (Sig s).1.length (sgCells (Sig s).1) ∧ Below w.heap.size w w' := by
  unfold maxLen at hs
  by_cases hL : 16384 < s.size
  · have hz : Sig s = ([], 0, 1) := by unfold Sig; rw [if_pos hL]
    have HZ := Lib.hid hz; clear hz
    have h1 : decide (16384 < (s.size : Int)) = true := decide_eq_true (by omega)
    clear hL
    go_enter Try.func10, Try.ntmps10
    go_wp2_with fail
    go_ret3
    refine ⟨.slice none 0 0, ?_, by rw [HZ.out]; exact World.ownsRow_nil _ _ _ _, Below.refl _ _⟩
    rw [HZ.out]; rfl
  · have hz : Sig s = lex s.data.toList 0 0 := by unfold Sig; rw [if_neg hL]
    have HZ := Lib.hid hz; clear hz
    have h1 : decide (16384 < (s.size : Int)) = false := decide_eq_false (by omega)
    have h16 : s.size ≤ 16384 := by omega
    clear hL
    go_enter Try.func10, Try.ntmps10
    go_wp2_with fail
    go_loopg [5, 6] s.size (fun m v x wr => ∃ (k : Nat) (out : List Sg), m + k = s.size ∧ x = .int .i64 (k : Int) ∧ wr.ownsRow w.heap.size 30 3 v out.length (sgCells out) ∧ out.length ≤ 4096 ∧ lex s.data.toList 0 0 = fin out (lex (s.data.toList.drop k) k out.length) ∧ Below w.heap.size w wr)
    case atStart => exact ⟨0, [], rfl, rfl, World.ownsRow_nil _ _ _ _, by simp, by simp [fin_nil _ (lex_err _ _ _)], Below.refl _ _⟩
    case round =>
      obtain ⟨k, out, hmk, rfl, hown, hcnt, hlex, hB⟩ := hrel
      have hsz : s.size = s.data.toList.length := Lib.size_eq s
      have HS := Lib.hid hsz; have HM := Lib.hid hmk; have HX := Lib.hid hlex; have HO := Lib.hid hown; have HC := Lib.hid hcnt; have HB := Lib.hid hB
      clear hsz hmk hlex hown hcnt hB
      by_cases hlt : k < s.size
      · have hkl : k < s.data.toList.length := by rw [← HS.out]; exact hlt
        have hc0 : s[k] = s.data.toList[k] := rfl
        cases hbl : blankB s[k]
        · obtain ⟨n1, n2, n3, n4⟩ := blank_not _ hbl
          have d1 : ((s[k].toNat : Int) == 32) = false := by rw [beq_eq_false_iff_ne]; omega
          have d2 : ((s[k].toNat : Int) == 9) = false := by rw [beq_eq_false_iff_ne]; omega
          have d3 : ((s[k].toNat : Int) == 10) = false := by rw [beq_eq_false_iff_ne]; omega
          have d4 : ((s[k].toNat : Int) == 13) = false := by rw [beq_eq_false_iff_ne]; omega
          have HBL := Lib.hid hbl
          clear n1 n2 n3 n4 hbl
          by_cases h35 : s[k].toNat = 35
          · obtain ⟨n, hn⟩ : ∃ n, n = runL noLine (s.data.toList.drop k) := ⟨_, rfl⟩
            have hrem := fun c => lex_rem1 s.data.toList k n c hkl (by rw [← hc0]; exact HBL.out) (by rw [← hc0]; exact h35) hn
            have HR := Lib.hid hrem; have HN := Lib.hid hn
            have hn0 := (hrem 0).2.1
            have hC : ((s[k].toNat : Int) == 35) = true := by rw [beq_iff_eq]; omega
            clear hc0 h35 hn hrem
            go_wp2_with fail
            go_loopg [6] (s.size - k) (fun m x wr2 => ∃ j : Nat, m + j = s.size ∧ x = .int .i64 (j : Int) ∧ wr2 = wr ∧ k ≤ j ∧ runL noLine (s.data.toList.drop k) = (j - k) + runL noLine (s.data.toList.drop j))
            case atStart => exact ⟨k, by omega, rfl, rfl, Nat.le_refl _, by simp⟩
            case round =>
              obtain ⟨j, hmj, rfl, rfl, hkj, hrun⟩ := hrel
              have HMJ := Lib.hid hmj; have HRUN := Lib.hid hrun
              clear hmj hrun
              by_cases hj : j < s.size
              · have hd : s.data.toList.drop j = s[j] :: s.data.toList.drop (j + 1) := drop_at s.data.toList j (by rw [← HS.out]; exact hj)
                by_cases h10 : s[j].toNat = 10
                · have e10 : ((s[j].toNat : Int) == 10) = true := by rw [beq_iff_eq]; omega
                  have hz : n = j - k := by rw [HN.out, HRUN.out, hd, runL_cons, if_neg (by unfold noLine; simp [h10])]; omega
                  have hkn : k + n = j := by omega
                  have HKN := Lib.hid hkn
                  have hn00 : 0 < n := hn0
                  clear hd h10 hz hkn
                  go_wp2_with fail
                  go_roundg (s.size - j)
                  case measure => have := HM.out; have := HKN.out; omega
                  case rel => exact ⟨j, out, by omega, by go_num, HO.out, HC.out, by rw [HX.out, (HR.out _).1, HKN.out], HB.out⟩
                · have e10 : ((s[j].toNat : Int) == 10) = false := by rw [beq_eq_false_iff_ne]; omega
                  have hz : runL noLine (s.data.toList.drop k) = (j + 1 - k) + runL noLine (s.data.toList.drop (j + 1)) := by rw [HRUN.out, hd, runL_cons, if_pos (by unfold noLine; simp [h10])]; omega
                  have HZ2 := Lib.hid hz
                  clear hd h10 hz
                  go_wp2_with fail
                  go_roundg (s.size - (j + 1))
                  case measure => have := HMJ.out; omega
                  case rel => exact ⟨j + 1, by omega, by go_num, rfl, by omega, HZ2.out⟩
              · have hje : j = s.size := by have := HMJ.out; omega
                have hz : n = j - k := by rw [HN.out, HRUN.out, List.drop_eq_nil_of_le (by rw [← HS.out]; omega), runL_nil]; omega
                have hkn : k + n = j := by omega
                have HKN := Lib.hid hkn
                have hge : s.size ≤ j := by omega
                have hle : j ≤ s.size := by omega
                have HLE := Lib.hid hle
                clear hje hz hkn hle
                go_wp2_with fail
                go_roundg (s.size - j)
                case measure => have := HM.out; have := HKN.out; omega
                case rel => exact ⟨j, out, by have := HLE.out; omega, by go_num, HO.out, HC.out, by rw [HX.out, (HR.out _).1, HKN.out], HB.out⟩
          · have hsig := fun c => lex_sign1 s.data.toList k c hkl (by rw [← hc0]; exact HBL.out) (by rw [← hc0]; exact h35)
            have hon := oneL_len s.data.toList k hkl
            obtain ⟨K, n, hone⟩ : ∃ K n, oneL (s.data.toList.drop k) = (K, n) := ⟨_, _, rfl⟩
            rw [hone] at hon
            have hqn : k + n ≤ s.size := by rw [HS.out]; exact hon
            have hC : ((s[k].toNat : Int) == 35) = false := by rw [beq_eq_false_iff_ne]; omega
            obtain ⟨r, hr⟩ : ∃ r, r = k + n := ⟨_, rfl⟩
            have hQN : (k : Int) + (n : Int) = (r : Int) := by omega
            have hrl : r ≤ s.size := by omega
            have hrk : k ≤ r := by omega
            have hts : (s.extract k r).size = n := by rw [ByteArray.size_extract]; omega
            have HRR := Lib.hid hr
            have HG := Lib.hid hsig; have H1 := Lib.hid hone
            have HONE := Lib.hid (fun W => rone_ok s h16 k hlt K n hone W)
            clear hc0 h35 hsig hon hone hr
            by_cases hn0 : n = 0
            · have hall : Sig s = ([], k, 100) := by
                rw [HZ.out, HX.out, HG.out, H1.out, if_pos hn0]; simp [fin]
              have hok : decide (0 < n) = false := decide_eq_false (by omega)
              have HOK := Lib.hid hok
              have HA := Lib.hid hall; clear hall hn0 hok
              go_wp2_with fail
              refine (HONE.out _).mono ?_
              rintro e w1 ⟨⟨a, b, c, rfl, _⟩, hb1⟩
              rw [HOK.out]
              have HB1 := Lib.hid (HB.out.trans (hb1.mono HB.out.size)); clear hb1
              go_wp2_with fail
              go_ret3
              exact ⟨.slice none 0 0, by rw [HA.out]; rfl, by rw [HA.out]; exact World.ownsRow_nil _ _ _ _, HB1.out.alloc HB1.out.size _⟩
            · have hok : decide (0 < n) = true := decide_eq_true (by omega)
              have HOK := Lib.hid hok; clear hok
              obtain ⟨oa, oc, hv⟩ := own_shape HO.out
              subst hv
              by_cases hfull : 4096 ≤ out.length
              · have hF : decide (4096 ≤ ((out.length : Nat) : Int)) = true := decide_eq_true (by omega)
                have hall : Sig s = ([], k, 2) := by
                  rw [HZ.out, HX.out, HG.out, H1.out, if_neg hn0, if_pos hfull]; simp [fin]
                have HA := Lib.hid hall; clear hall hfull
                go_wp2_with fail
                refine (HONE.out _).mono ?_
                rintro e w1 ⟨⟨a, b, c, rfl, hgood⟩, hb1⟩
                obtain ⟨rfl, rfl, rfl⟩ := hgood (by omega)
                rw [HOK.out, ← HRR.out]
                have HB1 := Lib.hid (HB.out.trans (hb1.mono HB.out.size)); clear hb1
                go_wp2_with fail
                go_ret3
                exact ⟨.slice none 0 0, by rw [HA.out]; rfl, by rw [HA.out]; exact World.ownsRow_nil _ _ _ _, HB1.out.alloc HB1.out.size _⟩
              · have hF : decide (4096 ≤ ((out.length : Nat) : Int)) = false := decide_eq_false (by omega)
                have hlc : out.length < 4096 := by omega
                obtain ⟨x, hx⟩ : ∃ x : Sg, x = ⟨K, (s.data.toList.drop k).take n, k⟩ := ⟨_, rfl⟩
                have hnew : lex s.data.toList 0 0 = fin (out ++ [x]) (lex (s.data.toList.drop (k + n)) (k + n) (out ++ [x]).length) := by
                  rw [HX.out, HG.out, H1.out, if_neg hn0, if_neg hfull, fin_put1, hx]; simp
                have HNEW := Lib.hid hnew
                have HXX := Lib.hid hx
                clear hnew hfull hx
                go_wp2_with fail
                refine (HONE.out _).mono ?_
                rintro e w1 ⟨⟨a, b, c, rfl, hgood⟩, hb1⟩
                obtain ⟨rfl, rfl, rfl⟩ := hgood (by omega)
                rw [HOK.out, ← HRR.out]
                have hown1 := own_below HO.out hb1
                have HB1 := Lib.hid (HB.out.trans (hb1.mono HB.out.size)); clear hb1 hgood
                obtain ⟨i0, hi, hz0, hz1, hz2⟩ := info_parts info_sign
                go_wp2_with (at_builtin; refine wpList_append_own _ rfl (.tmp 63) (.tmp 65) 23 rfl w.heap.size 30 i0 (.agg #[.int .i64 0, .string ⟨#[]⟩, .int .i64 0]) 3 32 Try.underlying23 hi hz0 hz1 hz2 rfl (by decide) _ _ _ rfl ((hown1.alloc _).alloc _) ⟨w1.heap.size + 1, 0, none⟩ 1 1 [.int .i64 (K : Int), .string (s.extract k r), .int .i64 (k : Int)] rfl rfl ?c1 ?c2 ?c3 ?c4 ?c5 ?_)
                case c1 =>
                  intro j u hj
                  match j, hj with
                  | 0, hj => simp at hj; subst hj; simp [Addr.add]
                  | 1, hj => simp at hj; subst hj; simp [Addr.add]
                  | 2, hj => simp at hj; subst hj; simp [Addr.add]
                case c2 => intro u hu; simp at hu; rcases hu with rfl | rfl | rfl <;> rfl
                case c3 => unfold maxLen; omega
                case c4 => omega
                case c5 => have := HB1.out.size; simp; omega
                intro v' w2 hown' hgrow _
                have hBel : Below w.heap.size w w2 := ((HB1.out.alloc HB1.out.size _).alloc (by have := HB1.out.size; simp; omega) _).grown hgrow (by have := HB1.out.size; simp; omega) (fun j hj => (hown1.lt j hj).1)
                have hx1 : w2.cell? ⟨w1.heap.size, 1, none⟩ = some (.string (s.extract k r)) := by
                  refine hgrow.cell ((World.cell?_alloc_past _ _ _ (by simp)).trans ?_) (fun h => ?_)
                  · exact World.cell?_alloc_new ..
                  · have := (hown1.lt w1.heap.size h.symm).2; omega
                have HOWN := Lib.hid hown'; have HBEL := Lib.hid hBel
                clear hown' hgrow hown1 hBel
                go_wp2_with fail
                go_roundg (s.size - r)
                case measure => have := HM.out; have := HRR.out; omega
                case rel =>
                  refine ⟨r, out ++ [x], by omega, by go_num, ?_, by simp; omega, by rw [HRR.out]; exact HNEW.out, HBEL.out⟩
                  have h := HOWN.out
                  rw [ext_text s k n r HRR.out] at h
                  rw [sgCells_app, List.length_append, HXX.out]
                  exact h
        · obtain h | h | h | h := blank_cases _ hbl
          · have hx1 := fun c => lex_blank1 s.data.toList k c hkl (by rw [← hc0]; exact hbl)
            have HX1 := Lib.hid hx1
            have d1 : ((s[k].toNat : Int) == 32) = true := by rw [beq_iff_eq]; omega
            have d2 : ((s[k].toNat : Int) == 9) = false := by rw [beq_eq_false_iff_ne]; omega
            have d3 : ((s[k].toNat : Int) == 10) = false := by rw [beq_eq_false_iff_ne]; omega
            have d4 : ((s[k].toNat : Int) == 13) = false := by rw [beq_eq_false_iff_ne]; omega
            clear h hx1 hbl hc0
            go_wp2_with fail
            go_roundg (s.size - (k + 1))
            case measure => have := HM.out; omega
            case rel => exact ⟨k + 1, out, by omega, by go_num, HO.out, HC.out, by rw [HX.out, HX1.out], HB.out⟩
          · have hx1 := fun c => lex_blank1 s.data.toList k c hkl (by rw [← hc0]; exact hbl)
            have HX1 := Lib.hid hx1
            have d1 : ((s[k].toNat : Int) == 32) = false := by rw [beq_eq_false_iff_ne]; omega
            have d2 : ((s[k].toNat : Int) == 9) = true := by rw [beq_iff_eq]; omega
            have d3 : ((s[k].toNat : Int) == 10) = false := by rw [beq_eq_false_iff_ne]; omega
            have d4 : ((s[k].toNat : Int) == 13) = false := by rw [beq_eq_false_iff_ne]; omega
            clear h hx1 hbl hc0
            go_wp2_with fail
            go_roundg (s.size - (k + 1))
            case measure => have := HM.out; omega
            case rel => exact ⟨k + 1, out, by omega, by go_num, HO.out, HC.out, by rw [HX.out, HX1.out], HB.out⟩
          · have hx1 := fun c => lex_blank1 s.data.toList k c hkl (by rw [← hc0]; exact hbl)
            have HX1 := Lib.hid hx1
            have d1 : ((s[k].toNat : Int) == 32) = false := by rw [beq_eq_false_iff_ne]; omega
            have d2 : ((s[k].toNat : Int) == 9) = false := by rw [beq_eq_false_iff_ne]; omega
            have d3 : ((s[k].toNat : Int) == 10) = true := by rw [beq_iff_eq]; omega
            have d4 : ((s[k].toNat : Int) == 13) = false := by rw [beq_eq_false_iff_ne]; omega
            clear h hx1 hbl hc0
            go_wp2_with fail
            go_roundg (s.size - (k + 1))
            case measure => have := HM.out; omega
            case rel => exact ⟨k + 1, out, by omega, by go_num, HO.out, HC.out, by rw [HX.out, HX1.out], HB.out⟩
          · have hx1 := fun c => lex_blank1 s.data.toList k c hkl (by rw [← hc0]; exact hbl)
            have HX1 := Lib.hid hx1
            have d1 : ((s[k].toNat : Int) == 32) = false := by rw [beq_eq_false_iff_ne]; omega
            have d2 : ((s[k].toNat : Int) == 9) = false := by rw [beq_eq_false_iff_ne]; omega
            have d3 : ((s[k].toNat : Int) == 10) = false := by rw [beq_eq_false_iff_ne]; omega
            have d4 : ((s[k].toNat : Int) == 13) = true := by rw [beq_iff_eq]; omega
            clear h hx1 hbl hc0
            go_wp2_with fail
            go_roundg (s.size - (k + 1))
            case measure => have := HM.out; omega
            case rel => exact ⟨k + 1, out, by omega, by go_num, HO.out, HC.out, by rw [HX.out, HX1.out], HB.out⟩
      · have hge : s.size ≤ k := by omega
        have hfin : fin out (lex (s.data.toList.drop k) k out.length) = (out, 0, 0) := by
          rw [List.drop_eq_nil_of_le (by rw [← HS.out]; exact hge), lex_nil]; simp [fin]
        have HF := Lib.hid hfin
        clear hfin hlt
        go_wp2_with fail
        go_ret3
        have hall : Sig s = (out, 0, 0) := HZ.out.trans (HX.out.trans HF.out)
        exact ⟨_, by rw [hall]; rfl, by rw [hall]; exact HO.out, HB.out⟩
end Go.Proofs.Ytpapmkpcnoighaa
