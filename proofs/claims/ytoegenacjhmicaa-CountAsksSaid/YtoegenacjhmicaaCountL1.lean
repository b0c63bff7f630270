/- CountAsks: the walk. -/
import Derived.Test.YtoegenacjhmicaaCountY
namespace Go.Proofs.Ytoegenacjhmicaa
open Go.RowKit HP NP
theorem hangP {X n : Nat} {b : Bool} (h : hangB X n = b) : (List.range (n + 1)).filter (hangB X) = (List.range n).filter (hangB X) ++ (if b then [n] else []) := by
  rw [List.range_succ, List.filter_append]
  congr 1
  cases b <;> simp [List.filter, h]
set_option maxRecDepth 100000 in
set_option maxHeartbeats 3200000 in
theorem countAsks_walk (w : World) (z : Int) (_zw : (Lit.int .i64 z).wf = true) : Calls Try.prog 5 #[.int .i64 z] w (Fine6 w) := by
  obtain ⟨X, hX, hX16⟩ := low6 z
  obtain ⟨l0, hl0, lz0, lz1, lz2⟩ := info_parts int_info
  go_enter Try.func5, Try.ntmps5
  go_wp2_with fail
  refine (begun6 w).mono ?_
  rintro e w1 ⟨p, rfl, hs1⟩
  have HS1 := Lib.hid hs1
  clear hs1
  go_wp2_with fail
  refine (made6 HS1.out hX16).mono ?_
  rintro e w2 ⟨S, k, rfl, hs2, hd2⟩
  have HS2 := Lib.hid hs2; have HD2 := Lib.hid hd2
  clear hs2 hd2
  go_wp2_with fail
  go_loopg [7, 8] 4 (fun mm u x wr => ∃ n : Nat, mm + n = 4 ∧ x = .int .i64 (n : Int) ∧ Below w2.heap.size w2 wr ∧ wr.ownsRow w2.heap.size 3 1 u ((List.range n).filter (hangB X)).length (iV ((List.range n).filter (hangB X))))
  case atStart => exact ⟨0, rfl, rfl, Below.refl _ _, World.ownsRow_nil _ _ _ _⟩
  case round =>
    obtain ⟨n, hm, rfl, hb, hr⟩ := hrel
    have HM := Lib.hid hm; have HB := Lib.hid hb; have hs := hb.size
    obtain ⟨T, hT⟩ : ∃ T, ((List.range n).filter (hangB X)).length = T := ⟨_, rfl⟩
    have hT2 : T ≤ n := by rw [← hT]; exact Nat.le_trans (List.length_filter_le _ _) (by simp)
    rw [hT] at hr
    have HR := Lib.hid hr; have HT := Lib.hid hT
    clear hm hb hr hT
    by_cases hn : n < 4
    · have HH := Lib.hid (hangs6 wr X n hX16 hn)
      obtain ⟨t1, ht1⟩ : ∃ t, hangB X n = t := ⟨_, rfl⟩
      rw [ht1] at HH
      have HTP := Lib.hid (hangP ht1)
      clear ht1
      go_wp2_with fail
      refine HH.out.mono ?_
      rintro e w3 ⟨rfl, q, hw3⟩
      have hb3 : Below wr.heap.size wr w3 := by rw [hw3]; exact bdN' _ _
      have HB3 := Lib.hid (HB.out.trans (hb3.mono hs)); have HR3 := Lib.hid (own_below HR.out hb3)
      have hs3 : w2.heap.size ≤ w3.heap.size := Nat.le_trans hs hb3.size
      clear hw3 hb3
      cases t1 with
      | true =>
        go_wp2_with (at_builtin; refine wpList_append_sep rfl (.tmp 32) (.tmp 34) 28 rfl w2.heap.size 3 l0 (.int .i64 0) 1 8 Try.underlying28 hl0 lz0 lz1 lz2 rfl (by decide) u7 T _ rfl (HR3.out.alloc _) w3.heap.size 0 1 1 [.int .i64 (n : Int)] rfl rfl (lit_one _ _ _) (ones_int _) (by unfold maxLen; omega) (by omega) (by simp; omega) ?_)
        intro y4 w4 hown4 hg4 hsep4
        have HR4 : Hid (w4.ownsRow w2.heap.size 3 1 y4 ((List.range (n + 1)).filter (hangB X)).length (iV ((List.range (n + 1)).filter (hangB X)))) := Lib.hid (by
          rw [HTP.out, List.length_append, HT.out, iV_app]; exact hown4)
        have HB4 : Hid (Below w2.heap.size w2 w4) := Lib.hid ((HB3.out.alloc hs3 (.cells #[.int .i64 (n : Int)] 3)).grown hg4 (Nat.le_trans hs3 (Nat.le_of_lt (by simp))) (fun j hj => (HR3.out.lt j hj).1))
        clear hown4 hg4 hsep4
        go_wp2_with fail
        go_roundg (4 - (n + 1))
        case measure => have := HM.out; omega
        case rel => exact ⟨n + 1, by have := HM.out; omega, by go_num, HB4.out, HR4.out⟩
      | false =>
        have HR4 : Hid (w3.ownsRow w2.heap.size 3 1 u7 ((List.range (n + 1)).filter (hangB X)).length (iV ((List.range (n + 1)).filter (hangB X)))) := Lib.hid (by
          rw [HTP.out, if_neg (by decide), List.append_nil, HT.out]; exact HR3.out)
        go_wp2_with fail
        go_roundg (4 - (n + 1))
        case measure => have := HM.out; omega
        case rel => exact ⟨n + 1, by have := HM.out; omega, by go_num, HB3.out, HR4.out⟩
    · have hne : n = 4 := by have := HM.out; omega
      subst hne
      have hr := HR.out
      rw [← HT.out, ← asksL_tbl HS2.out.sto.wf HS2.out.v4 HD2.out] at hr
      obtain ⟨ua, uc, rfl⟩ := own_shape hr
      have hTA : (asksL S k).length = T := by rw [asksL_tbl HS2.out.sto.wf HS2.out.v4 HD2.out]; exact HT.out
      have HCU := Lib.hid (own_iV hr)
      have HS3 := Lib.hid (HS2.out.below HB.out)
      have HAK := Lib.hid (asks_ok wr w.heap.size p S HS3.out.sto (k : Int))
      rw [hTA]
      have HTA := Lib.hid hTA
      clear hr hTA
      go_wp2_with fail
      refine HAK.out.mono ?_
      rintro e w4 ⟨hb4, ⟨h, _⟩ | ⟨_, v, rfl, hr4⟩⟩
      · rw [isK_nat, HD2.out.is] at h; cases h
      rw [Int.toNat_natCast] at hr4
      obtain ⟨oa, oc, rfl, _, _, hc4⟩ := Cells.of_own hr4
      have HS4 := Lib.hid (HS3.out.below hb4)
      have HSI : Hid (Calls Try.prog 24 #[.slice oa T oc, .slice ua T uc] w4 (Tells true w4)) := Lib.hid (by
        have h := sameInts_ok w4 oa ua oc uc (nZ (asksL S k)) (nZ (asksL S k)) (by simp [nZ, HTA.out]; unfold maxLen; omega) hc4 (by rw [← iV_nZ]; exact HCU.out.below hb4)
        have e : (nZ (asksL S k)).length = T := by simp [nZ, HTA.out]
        rw [e, beq_self_eq_true] at h
        exact h)
      rw [HTA.out]
      clear hb4 hr4 hc4
      go_wp2_with fail
      refine HSI.out.mono ?_
      rintro e w5 ⟨rfl, q, hw5⟩
      have HS5 := Lib.hid (HS4.out.below (show Below w4.heap.size w4 w5 by rw [hw5]; exact bdN' _ _))
      clear hw5
      go_wp2_with fail
      refine (awake6 w5).mono ?_
      rintro e w6 ⟨rfl, hb6⟩
      have HS6 := Lib.hid (HS5.out.below hb6)
      clear hb6
      go_wp2_with fail
      go_ret
      exact ⟨rfl, HS6.out.bel⟩
end Go.Proofs.Ytoegenacjhmicaa
