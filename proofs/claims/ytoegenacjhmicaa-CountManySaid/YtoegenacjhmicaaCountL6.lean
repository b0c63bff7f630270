/- CountMany: the walk. -/
import Derived.Test.YtoegenacjhmicaaCountMP
namespace Go.Proofs.Ytoegenacjhmicaa
open Go.RowKit HP NP
theorem low255 (z : Int) : ∃ a : Nat, bits .and .i64 z 255 = (a : Int) ∧ a < 256 := ⟨(z % 256).toNat, by rw [show bits .and .i64 z 255 = z % 256 from and_low z 8 (by decide)]; omega, by omega⟩
theorem many_shl {P q : Nat} (h : P ≤ 61) (hq : 2 ^ P = q) : wrap64 ((2 : Int) ^ P) = (q : Int) := by
  have hp : 2 ^ P ≤ 2 ^ 61 := Nat.pow_le_pow_right (n := 2) (by decide) h
  rw [show ((2 : Int) ^ P) = ((2 ^ P : Nat) : Int) by rw [Int.natCast_pow]; rfl, hq]
  rw [hq] at hp
  exact w64 _ (by omega) (by omega)
set_option maxRecDepth 100000 in
set_option maxHeartbeats 6400000 in
theorem countMany_walk (w : World) (z : Int) (_zw : (Lit.int .i64 z).wf = true) : Calls Try.prog 10 #[.int .i64 z] w (Fine6 w) := by
  obtain ⟨a8, ha8, ha9⟩ := low255 z
  obtain ⟨n, hn⟩ : ∃ n, n = a8 + 1 := ⟨_, rfl⟩
  obtain ⟨P, hP⟩ : ∃ P, P = a8 := ⟨_, rfl⟩
  have hna : (1 : Int) + (a8 : Int) = (n : Int) := by omega
  have hnP : (n : Int) - 1 = (P : Int) := by omega
  have hPN : Hid (n - 1 = P) := Lib.hid (by omega)
  have h1 : 1 ≤ n := by omega
  have h256 : n ≤ 256 := by omega
  have hPn : P < n := by omega
  have HMK := Lib.hid (ma_mk n h1)
  rw [hPN.out] at HMK
  clear hn hP
  obtain ⟨l0, hl0, lz0, lz1, lz2⟩ := info_parts int_info
  have HNN := Lib.hid (nnew_yes w w.heap.size (Nat.le_refl _) n 10 h256 (by decide) (by decide))
  go_enter Try.func10, Try.ntmps10
  go_wp2_with fail
  refine HNN.out.mono ?_
  rintro e w1 ⟨p, rfl, hs1, hb1, _⟩
  have HS1 := Lib.hid hs1; have HB1 := Lib.hid hb1
  clear hs1 hb1 HNN
  go_wp2_with fail
  refine (nmk_ok w1 w.heap.size p _ HS1.out HB1.out.size (P : Int) 0 1).mono ?_
  rintro e w2 ⟨rfl, hs2, hk2⟩
  rw [HMK.out] at hs2 ⊢
  have HB2 := Lib.hid (HB1.out.trans (hk2.low HB1.out.size)); have HS2 := Lib.hid hs2
  clear hs2 hk2
  go_wp2_with fail
  go_loopg [8, 9] n (fun mm u x wr => ∃ v : Nat, mm + v = n ∧ x = .int .i64 (v : Int) ∧ Below w2.heap.size w2 wr ∧ wr.ownsRow w2.heap.size 3 1 u v (iV (List.range v)))
  case atStart => exact ⟨0, by omega, rfl, Below.refl _ _, World.ownsRow_nil _ _ _ _⟩
  case round =>
    obtain ⟨v, hm, rfl, hb, hr⟩ := hrel
    have HM := Lib.hid hm; have HB := Lib.hid hb; have hs := hb.size
    have HR := Lib.hid hr
    clear hm hb hr
    by_cases hv : v < n
    · go_wp2_with (at_builtin; refine wpList_append_sep rfl (.tmp 45) (.tmp 47) 28 rfl w2.heap.size 3 l0 (.int .i64 0) 1 8 Try.underlying28 hl0 lz0 lz1 lz2 rfl (by decide) u8 v _ rfl (HR.out.alloc _) wr.heap.size 0 1 1 [.int .i64 (v : Int)] rfl rfl (lit_one _ _ _) (ones_int _) (by unfold maxLen; omega) (by omega) (by simp; omega) ?_)
      intro y4 w4 hown4 hg4 hsep4
      have HR4 : Hid (w4.ownsRow w2.heap.size 3 1 y4 (v + 1) (iV (List.range (v + 1)))) := Lib.hid (by
        rw [List.range_succ, iV_app]; exact hown4)
      have HB4 : Hid (Below w2.heap.size w2 w4) := Lib.hid ((HB.out.alloc hs (.cells #[.int .i64 (v : Int)] 3)).grown hg4 (Nat.le_trans hs (Nat.le_of_lt (by simp))) (fun j hj => (HR.out.lt j hj).1))
      clear hown4 hg4 hsep4
      go_wp2_with fail
      go_roundg (n - (v + 1))
      case measure => have := HM.out; omega
      case rel => exact ⟨v + 1, by have := HM.out; omega, by go_num, HB4.out, HR4.out⟩
    · have hve : v = n := by have := HM.out; omega
      subst hve
      obtain ⟨V1, hren⟩ : ∃ x, x = wr := ⟨_, rfl⟩
      subst hren
      obtain ⟨ua, uc, rfl, hvc, hcm, hul, huc, _⟩ := own_cellsG HR.out h1
      have HU1 : Hid (Cells V1 (some ⟨ua, 0, none⟩) (zV (upZ v))) := Lib.hid (by rw [← iV_up]; exact huc)
      have HUT : Hid (Cells V1 (some ⟨ua, 0, none⟩) (zV (upZ P))) := Lib.hid (by
        have h := (HU1.out).take_ (v - 1)
        unfold zV at h
        rw [← List.map_take, upZ_take, hPN.out] at h
        exact h)
      have HT1 : Hid (Sto V1 w.heap.size p (maS v)) := Lib.hid (HS2.out.below HB.out)
      have HBB := Lib.hid (HB2.out.trans (HB.out.mono HB2.out.size))
      have hPc : P ≤ uc := by omega
      have HC1 := Lib.hid (many_sat HT1.out h1 h256 (c := uc) HU1.out)
      obtain ⟨wt, hwt⟩ : ∃ wt, manyT v = wt := ⟨_, rfl⟩
      rw [hwt] at HC1
      obtain ⟨b5, hb5⟩ : ∃ b5, decide (v ≤ 5) = b5 := ⟨_, rfl⟩
      have hb5' : decide ((v : Int) ≤ 5) = b5 := by rw [← hb5]; exact decide_eq_decide.2 (by omega)
      have HB5 := Lib.hid hb5
      clear huc hul hb5 HB HS2 HB2 HMK HR hvc
      by_cases h63 : v < 63
      · have d63 : decide ((v : Int) < 63) = true := decide_eq_true (by omega)
        have d63' : decide (v < 63) = true := decide_eq_true h63
        have hP61 : P ≤ 61 := by omega
        have HP := Lib.hid hwt
        unfold manyT at hwt
        rw [hPN.out, if_neg (by omega)] at hwt
        have e1 : wrap64 ((2 : Int) ^ P) = wt := by rw [← hwt]; exact many_shl hP61 rfl
        clear h63 hwt
        go_wp2_with fail
        refine HC1.out.mono ?_
        rintro e V2 ⟨rfl, hb2⟩
        have HT2 := Lib.hid (HT1.out.below hb2); have HBB2 := Lib.hid (HBB.out.trans (hb2.mono HBB.out.size)); have HU2 := Lib.hid (HU1.out.below hb2); have HUT2 := Lib.hid (HUT.out.below hb2)
        obtain ⟨V3, hV3⟩ : ∃ V3, V3 = V2.alloc (.cells #[.int .i64 (P : Int)] 3) := ⟨_, rfl⟩
        have hb3 : Below V2.heap.size V2 V3 := by rw [hV3]; exact (Below.refl _ _).alloc (Nat.le_refl _) _
        have HT3 := Lib.hid (HT2.out.below hb3); have HBB3 := Lib.hid (HBB2.out.trans (hb3.mono HBB2.out.size)); have HU3 := Lib.hid (HU2.out.below hb3); have HUT3 := Lib.hid (HUT2.out.below hb3)
        have HC3 := Lib.hid (many_one HT3.out h1 h256 (a := some ⟨V2.heap.size, 0, none⟩) (c := 1) (by rw [hPN.out, hV3]; exact Cells.lit V2 #[.int .i64 (P : Int)] 3))
        have HW3 := Lib.hid hV3
        clear hb2 hV3 hb3 HC1
        go_wp2_with fail
        rw [← HW3.out]
        refine HC3.out.mono ?_
        rintro e V4 ⟨rfl, hb4⟩
        have HT4 := Lib.hid (HT3.out.below hb4); have HBB4 := Lib.hid (HBB3.out.trans (hb4.mono HBB3.out.size)); have HU4 := Lib.hid (HU3.out.below hb4); have HUT4 := Lib.hid (HUT3.out.below hb4)
        have HC4 := Lib.hid (many_less HT4.out h1 h256 (a := some ⟨ua, 0, none⟩) (c := uc) (by rw [hPN.out]; exact HUT4.out))
        rw [hPN.out] at HC4
        clear hb4 HC3
        go_wp2_with fail
        refine HC4.out.mono ?_
        rintro e V5 ⟨rfl, hb5⟩
        have HT5 := Lib.hid (HT4.out.below hb5); have HBB5 := Lib.hid (HBB4.out.trans (hb5.mono HBB4.out.size)); have HU5 := Lib.hid (HU4.out.below hb5)
        have HC5 := Lib.hid (many_each HT5.out h1 h256 (c := uc) HU5.out)
        rw [HB5.out] at HC5
        clear hb5 HC4
        go_wp2_with fail
        refine HC5.out.mono ?_
        rintro e V6 ⟨hb6, v6, x6, rfl, hx6⟩
        have HBB6 := Lib.hid (HBB5.out.trans (hb6.mono HBB5.out.size))
        clear hb6 HC5
        go_wp2_with fail
        refine (awake6 V6).mono ?_
        rintro e V7 ⟨rfl, hb7⟩
        have HBB7 := Lib.hid (HBB6.out.trans (hb7.mono HBB6.out.size))
        clear hb7
        go_wp2_with fail
        go_ret
        exact ⟨rfl, HBB7.out⟩
      · have d63 : decide ((v : Int) < 63) = false := decide_eq_false (by omega)
        have d63' : decide (v < 63) = false := decide_eq_false h63
        unfold manyT at hwt
        rw [hPN.out, if_pos (by omega)] at hwt
        subst hwt
        clear h63
        go_wp2_with fail
        refine HC1.out.mono ?_
        rintro e V2 ⟨rfl, hb2⟩
        have HT2 := Lib.hid (HT1.out.below hb2); have HBB2 := Lib.hid (HBB.out.trans (hb2.mono HBB.out.size)); have HU2 := Lib.hid (HU1.out.below hb2); have HUT2 := Lib.hid (HUT.out.below hb2)
        obtain ⟨V3, hV3⟩ : ∃ V3, V3 = V2.alloc (.cells #[.int .i64 (P : Int)] 3) := ⟨_, rfl⟩
        have hb3 : Below V2.heap.size V2 V3 := by rw [hV3]; exact (Below.refl _ _).alloc (Nat.le_refl _) _
        have HT3 := Lib.hid (HT2.out.below hb3); have HBB3 := Lib.hid (HBB2.out.trans (hb3.mono HBB2.out.size)); have HU3 := Lib.hid (HU2.out.below hb3); have HUT3 := Lib.hid (HUT2.out.below hb3)
        have HC3 := Lib.hid (many_one HT3.out h1 h256 (a := some ⟨V2.heap.size, 0, none⟩) (c := 1) (by rw [hPN.out, hV3]; exact Cells.lit V2 #[.int .i64 (P : Int)] 3))
        have HW3 := Lib.hid hV3
        clear hb2 hV3 hb3 HC1
        go_wp2_with fail
        rw [← HW3.out]
        refine HC3.out.mono ?_
        rintro e V4 ⟨rfl, hb4⟩
        have HT4 := Lib.hid (HT3.out.below hb4); have HBB4 := Lib.hid (HBB3.out.trans (hb4.mono HBB3.out.size)); have HU4 := Lib.hid (HU3.out.below hb4); have HUT4 := Lib.hid (HUT3.out.below hb4)
        have HC4 := Lib.hid (many_less HT4.out h1 h256 (a := some ⟨ua, 0, none⟩) (c := uc) (by rw [hPN.out]; exact HUT4.out))
        rw [hPN.out] at HC4
        clear hb4 HC3
        go_wp2_with fail
        refine HC4.out.mono ?_
        rintro e V5 ⟨rfl, hb5⟩
        have HT5 := Lib.hid (HT4.out.below hb5); have HBB5 := Lib.hid (HBB4.out.trans (hb5.mono HBB4.out.size)); have HU5 := Lib.hid (HU4.out.below hb5)
        have HC5 := Lib.hid (many_each HT5.out h1 h256 (c := uc) HU5.out)
        rw [HB5.out] at HC5
        clear hb5 HC4
        go_wp2_with fail
        refine HC5.out.mono ?_
        rintro e V6 ⟨hb6, v6, x6, rfl, hx6⟩
        have HBB6 := Lib.hid (HBB5.out.trans (hb6.mono HBB5.out.size))
        clear hb6 HC5
        go_wp2_with fail
        refine (awake6 V6).mono ?_
        rintro e V7 ⟨rfl, hb7⟩
        have HBB7 := Lib.hid (HBB6.out.trans (hb7.mono HBB6.out.size))
        clear hb7
        go_wp2_with fail
        go_ret
        exact ⟨rfl, HBB7.out⟩
end Go.Proofs.Ytoegenacjhmicaa
