/- NodeStays: the walk. -/
import Derived.Test.YtdalnhhenahcjaaNodeI
import Derived.Test.YtdalnhhenahcjaaNodeN
namespace Go.Proofs.Ytdalnhhenahcjaa
open Go.RowKit HP NP
theorem swp_ext {S : NS} (hW : Wf S) {s : Nat → Bool} (hm : MarkedTo S.l S.l.length s) (n : Nat) : Ext { S with l := swp S.l s 1, sweeps := n } S := ⟨rfl, rfl, fun i hi => by
  have hi' : isB (swp S.l s 1) i = true := hi
  rw [isB_sw hW hm] at hi'
  show nd S.l i = nd (swp S.l s 1) i
  rw [nd_swp, if_neg (by simp [hi'])]⟩
theorem pin_den {S : NS} {k n : Nat} (hk : k < S.l.length) (ρ : Nat → Bool) (j : Nat) : den (pinN S.l k n) ρ j = den S.l ρ j := den_alk (Alk.pin hk n) ρ 257 j
theorem made_again {S S5 : NS} (hW : Wf S) {s : Nat → Bool} (hm : MarkedTo S.l S.l.length s) {x : List Bool} {k j n : Nat} (hs : s k = true) (hx : ∀ ρ, den S.l ρ k = x.getD (idx ρ 4 0 0) false) (ht : TabOk { S with l := swp S.l s 1, sweeps := n } x 4 0 0 S5 j) : j = k := by
  have hw4 := hW.sweep hm n
  have hk4 : isB (swp S.l s 1) k = true := by rw [isB_sw hW hm]; exact hs
  refine one_node ht.wf ht.is (ht.ext.isB hk4) fun ρ => ?_
  rw [ht.says, ← hx ρ, ht.ext.den' hw4 ht.wf ρ hk4, (swp_ext hW hm n).den' hw4 hW ρ hk4]
set_option maxRecDepth 100000 in
set_option maxHeartbeats 4000000 in
theorem nodeStays_walk (w : World) (a : Int) (_wa : (Lit.int .i64 a).wf = true) (b : Int) (_wb : (Lit.int .i64 b).wf = true) : Calls Try.prog 12 #[.int .i64 a, .int .i64 b] w (Fine w) := by
  go_enter Try.func12, Try.ntmps12
  go_wp2_with fail
  refine (nnewc w w.heap.size (Nat.le_refl _) 4 200 new4).mono ?_
  rintro e w1 ⟨p, rfl, hs1, hb1, _⟩
  have HS1 := Lib.hid (show Sto w1 w.heap.size p (newS 4 200) from hs1); have HB1 := Lib.hid hb1
  clear hs1 hb1
  go_wp2_with fail
  refine (bits_ok w1 a).mono ?_
  rintro e w2 ⟨xa, xc, rfl, hx2, hb2⟩
  have HX2 := Lib.hid hx2; have HS2 := Lib.hid (HS1.out.below hb2); have HB2 := Lib.hid (HB1.out.trans (hb2.mono HB1.out.size))
  clear hx2 hb2
  go_wp2_with fail
  refine (table_ok w.heap.size p xa w1.heap.size xc (bitsL a) (bitsL_len a) 4 0 w2 (newS 4 200) 0 rfl (by decide) HS2.out HB2.out.size rfl (by decide) HX2.out).mono ?_
  rintro e w3 ⟨S1, k, rfl, hs3, hk3, ht1⟩
  have HS3 := Lib.hid hs3; have HX3 := Lib.hid (HX2.out.kb hk3.kb rfl); have HT1 := Lib.hid ht1
  have HB3 := Lib.hid (HB2.out.trans (hk3.low HB2.out.size))
  clear hs3 hk3 ht1
  go_wp2_with fail
  refine (bits_ok w3 b).mono ?_
  rintro e w4 ⟨ya, yc, rfl, hy4, hb4⟩
  have HY4 := Lib.hid hy4; have HX4 := Lib.hid (HX3.out.below hb4); have HS4 := Lib.hid (HS3.out.below hb4); have HB4 := Lib.hid (HB3.out.trans (hb4.mono HB3.out.size))
  clear hy4 hb4
  have hc1 := HT1.out.cnt
  rw [newS_cnt] at hc1
  have HC1 := Lib.hid hc1
  clear hc1
  go_wp2_with fail
  refine (table_ok w.heap.size p ya w3.heap.size yc (bitsL b) (bitsL_len b) 4 0 w4 S1 0 rfl (by decide) HS4.out HB4.out.size HT1.out.ext.vars (by rw [HT1.out.ext.budget]; have := HC1.out; show _ ≤ 200 + 1; omega) HY4.out).mono ?_
  rintro e w5 ⟨S2, j2, rfl, hs5, hk5, ht2⟩
  have HS5 := Lib.hid hs5; have HT2 := Lib.hid ht2; have HX5 := Lib.hid (HX4.out.kb hk5.kb rfl)
  have HB5 := Lib.hid (HB4.out.trans (hk5.low HB4.out.size))
  clear hs5 hk5 ht2
  have hisk := HT2.out.ext.isB HT1.out.is
  have hp0 : ∀ j, (nd S2.l j).pins = 0 := fun j => by
    have := HT2.out.pin j; have := HT1.out.pin j
    have h0 : (nd (newS 4 200).l j).pins = 0 := by
      rcases Nat.lt_or_ge j 2 with h | h
      · have : j = 0 ∨ j = 1 := by omega
        rcases this with rfl | rfl <;> rfl
      · rw [nd_ge (by simpa [newS, base2] using h)]; rfl
    omega
  have hkl := isB_lt hisk
  have hpin : pinS S2 (k : Int) = ({ S2 with l := pinN S2.l k 1 }, 0) := by unfold pinS; rw [isK_nat, hisk]; simp [hp0]
  obtain ⟨S3, hS3⟩ : ∃ S3 : NS, S3 = { S2 with l := pinN S2.l k 1 } := ⟨_, rfl⟩
  rw [← hS3] at hpin
  have hw3 : Wf S3 := by rw [hS3]; exact HT2.out.wf.pin hisk (by omega)
  have hk3 : isB S3.l k = true := by rw [hS3]; show isB (pinN _ _ _) k = true; rw [(Alk.pin hkl 1).is]; exact hisk
  have hpp : ∀ j, 0 < (nd S3.l j).pins ↔ j = k := fun j => by
    rw [hS3]; show 0 < (nd (pinN _ _ _) j).pins ↔ _
    rw [nd_pin hkl]
    split
    · rename_i e; simp [e]
    · rename_i e; rw [hp0]; simp [e]
  have hpk : (nd S3.l k).pins = 1 := by rw [hS3]; show (nd (pinN _ _ _) k).pins = 1; rw [nd_pin hkl, if_pos rfl]
  have hd3 : ∀ ρ, den S3.l ρ k = (bitsL a).getD (idx ρ 4 0 0) false := fun ρ => by
    rw [hS3]; show den (pinN _ _ _) ρ k = _
    rw [pin_den hkl, HT2.out.ext.den' HT1.out.wf HT2.out.wf ρ HT1.out.is, HT1.out.says]
  have hv3 : S3.vars = 4 := by rw [hS3]; show S2.vars = 4; rw [HT2.out.ext.vars, HT1.out.ext.vars]; rfl
  have hb3 : S3.budget = 200 := by rw [hS3]; show S2.budget = 200; rw [HT2.out.ext.budget, HT1.out.ext.budget]; rfl
  have hc3 : cnt S3.l ≤ 40 := by
    have := HT2.out.cnt; have := HC1.out
    have e : cnt S3.l = cnt S2.l := by rw [hS3]; exact (Alk.pin hkl 1).cnt
    omega
  have HPIN := Lib.hid hpin; have HW3 := Lib.hid hw3; have HK3 := Lib.hid hk3; have HPP := Lib.hid hpp; have HPK := Lib.hid hpk; have HD3 := Lib.hid hd3; have HV3 := Lib.hid hv3; have HBU3 := Lib.hid hb3; have HC3 := Lib.hid hc3
  have hfk : findE S3 (k : Int) = 0 := by unfold findE; rw [isK_nat, hk3]; rfl
  have HFK := Lib.hid hfk
  clear hisk hp0 hkl hpin hS3 hw3 hk3 hpp hpk hd3 hv3 hb3 hc3 hfk
  go_wp2_with fail
  refine (npin_ok w5 w.heap.size p S2 HS5.out (k : Int)).mono ?_
  rintro e w6 ⟨rfl, hs6, hk6⟩
  rw [HPIN.out] at hs6 ⊢
  have HS6 := Lib.hid hs6; have HX6 := Lib.hid (HX5.out.kb hk6.kb rfl)
  have HB6 := Lib.hid (HB5.out.trans (hk6.low HB5.out.size))
  clear hs6 hk6
  go_wp2_with fail
  refine (nsize_ok w6 w.heap.size p S3 HS6.out (k : Int)).mono ?_
  rintro e w7 ⟨⟨sz, rfl, _, hsz⟩, hb7⟩
  rw [HFK.out]
  obtain ⟨t, hta, htz⟩ := hsz (by rw [isK_nat]; exact HK3.out)
  have HTA := Lib.hid hta; have HTZ := Lib.hid htz
  have HS7 := Lib.hid (HS6.out.below hb7); have HX7 := Lib.hid (HX6.out.below hb7); have HB7 := Lib.hid (HB6.out.trans (hb7.mono HB6.out.size))
  clear hsz hta htz hb7
  go_wp2_with fail
  refine (nlen_ok w7 w.heap.size p S3 HS7.out).mono ?_
  rintro e w8 ⟨rfl, rfl⟩
  go_wp2_with fail
  refine (nsweep_ok w7 w.heap.size p S3 HS7.out HB7.out.size).mono ?_
  rintro e w8 ⟨sm, hmt, rfl, hs8, hk8⟩
  have HMT := Lib.hid hmt; have HS8 := Lib.hid hs8; have HX8 := Lib.hid (HX7.out.kb hk8.kb rfl); have HB8 := Lib.hid (HB7.out.trans (hk8.low HB7.out.size))
  have hsize := sweep_size HW3.out hmt HK3.out HPP.out HTA.out
  rw [← HTZ.out] at hsize
  have hcle : cnt (swp S3.l sm 1) ≤ cnt S3.l := by
    have h1 := (swp_ext HW3.out hmt 0)
    rw [cnt_sw HW3.out hmt, cnt_range]
    unfold cntS
    apply List.countP_mono_left
    intro j _ hj
    exact (hmt.cl HW3.out).is j hj
  obtain ⟨c4, hc4⟩ : ∃ c, c = cnt (swp S3.l sm 1) := ⟨_, rfl⟩
  obtain ⟨c3, hc3⟩ : ∃ c, c = cnt S3.l := ⟨_, rfl⟩
  have HC4 := Lib.hid hc4
  rw [← hc4] at hsize hcle
  have hc3b : c3 ≤ 40 := by rw [hc3]; exact HC3.out
  rw [← hc3] at hcle ⊢
  rw [← hc4]
  have HSZ := Lib.hid hsize
  have hsub : (c3 : Int) - ((c3 - c4 : Nat) : Int) = (c4 : Int) := by omega
  clear hmt hs8 hk8 hsize hc4 hc3
  go_wp2_with fail
  refine (nlen_ok w8 w.heap.size p _ HS8.out).mono ?_
  rintro e w9 ⟨rfl, rfl⟩
  rw [← HC4.out]
  have hend : (2 < sz ∧ c4 = sz) ∨ (sz ≤ 2 ∧ c4 = 2) := by have := HSZ.out; omega
  rcases hend with ⟨hz, hcz⟩ | ⟨hz, hcz⟩
  all_goals
    subst hcz
    go_wp2_with fail
    refine (nlen_ok w8 w.heap.size p _ HS8.out).mono ?_
    rintro e w9 ⟨rfl, rfl⟩
    rw [← HC4.out]
    have hsk : sm k = true := (sweep_pin HW3.out HMT.out HK3.out HPP.out k).2 (.inr (.here _))
    have HSK := Lib.hid hsk
    have hbud : cnt (swp S3.l sm 1) + 2 ^ 4 ≤ S3.budget + 1 := by rw [← HC4.out, HBU3.out]; omega
    have HBUD := Lib.hid hbud
    clear hsk hbud
    go_wp2_with fail
    refine (table_ok w.heap.size p xa w1.heap.size xc (bitsL a) (bitsL_len a) 4 0 w8 _ 0 rfl (by decide) HS8.out HB8.out.size HV3.out HBUD.out HX8.out).mono ?_
    rintro e w9 ⟨S5, j, rfl, hs9, hk9, ht9⟩
    have hjk : j = k := made_again HW3.out HMT.out HSK.out HD3.out ht9
    subst hjk
    have HS9 := Lib.hid hs9; have HX9 := Lib.hid (HX8.out.kb hk9.kb rfl); have HT9 := Lib.hid ht9; have HB9 := Lib.hid (HB8.out.trans (hk9.low HB8.out.size))
    clear hs9 hk9 ht9
    go_wp2_with fail
    go_loopg [18] 16 (fun m x wr => ∃ n : Nat, m + n = 16 ∧ x = .int .i64 (n : Int) ∧ Below w9.heap.size w9 wr)
    case atStart => exact ⟨0, rfl, rfl, Below.refl _ _⟩
    case round =>
      obtain ⟨n, hm, rfl, hb⟩ := hrel
      have HM := Lib.hid hm; have HB := Lib.hid hb
      clear hm hb
      by_cases hn : n < 16
      · have HE1 := Lib.hid (tab_ev HT9.out HT9.out.wf (Ext.refl _) n hn)
        go_wp2_with fail
        refine (values_ok wr (n : Int)).mono ?_
        rintro e w10 ⟨vb, rfl, hv6, _, hb6⟩
        have HV6 := Lib.hid hv6; have HB6 := Lib.hid (HB.out.trans (hb6.mono HB.out.size))
        clear hv6 hb6
        go_wp2_with fail
        refine (neval_ok w10 w.heap.size p S5 (HS9.out.below HB6.out) _ (some ⟨vb, 0, none⟩) (valsL (n : Int)) 4 (vlen _) HV6.out.cells_).mono ?_
        rintro e w11 ⟨rfl, hb7⟩
        rw [HE1.out.1, HE1.out.2]
        have HB7 := Lib.hid (HB6.out.trans (hb7.mono HB6.out.size))
        clear hb7
        obtain ⟨xb, xo, rfl, hxl, hxc⟩ := (HX9.out.below HB7.out).at_ (n := n) (by rw [bitsL_len]; exact hn)
        go_wp2_with fail
        go_roundg (16 - (n + 1))
        case measure => have := HM.out; omega
        case rel => exact ⟨n + 1, by have := HM.out; omega, by go_num, HB7.out⟩
      · have hge : 16 ≤ n := by omega
        clear hn
        have HBZ := Lib.hid (HB9.out.trans (HB.out.mono HB9.out.size))
        have HSZ2 := Lib.hid (HS9.out.below HB.out)
        have hsj : sm j = true := (sweep_pin HW3.out HMT.out HK3.out HPP.out j).2 (.inr (.here _))
        have hk4 : isB (swp S3.l sm 1) j = true := by rw [isB_sw HW3.out HMT.out]; exact hsj
        have hk5 : isB S5.l j = true := HT9.out.is
        have hp5 : (nd S5.l j).pins = 1 := by
          have e1 := HT9.out.ext.nds j hk4
          have e2 : nd (swp S3.l sm 1) j = nd S3.l j := by rw [nd_swp, if_neg (by simp [hsj])]
          rw [e1]
          show (nd (swp S3.l sm 1) j).pins = 1
          rw [e2]; exact HPK.out
        have hun : unpinS S5 (j : Int) = ({ S5 with l := pinN S5.l j 0 }, 0) := by unfold unpinS; rw [isK_nat, hk5]; simp [hp5]
        have hjl := isB_lt hk5
        have hz6 : ∀ i, (nd (pinN S5.l j 0) i).pins = 0 := fun i => by
          rw [nd_pin hjl]
          by_cases e : i = j
          · rw [if_pos e]
          · rw [if_neg e]
            have h1 := HT9.out.pin i
            have h2 : (nd (swp S3.l sm 1) i).pins ≤ (nd S3.l i).pins := by
              rw [nd_swp]; split
              · exact Nat.zero_le _
              · exact Nat.le_refl _
            have h3 := HPP.out i
            have h4 : (nd S5.l i).pins ≤ (nd (swp S3.l sm 1) i).pins := h1
            omega
        obtain ⟨S6, hS6⟩ : ∃ S6 : NS, S6 = { S5 with l := pinN S5.l j 0 } := ⟨_, rfl⟩
        rw [← hS6] at hun
        have hw6 : Wf S6 := by rw [hS6]; exact HT9.out.wf.pin hk5 (Nat.zero_le _)
        have hun2 : unpinS S6 (j : Int) = (S6, 3) := by
          have hb6 : isB S6.l j = true := by rw [hS6]; show isB (pinN _ _ _) j = true; rw [(Alk.pin hjl 0).is]; exact hk5
          have hp6 : (nd S6.l j).pins = 0 := by rw [hS6]; exact hz6 j
          unfold unpinS; rw [isK_nat, hb6]; simp [hp6]
        have hz6' : ∀ i, (nd S6.l i).pins = 0 := fun i => by rw [hS6]; exact hz6 i
        have HUN := Lib.hid hun; have HUN2 := Lib.hid hun2; have HZ6 := Lib.hid hz6'; have HW6 := Lib.hid hw6
        clear hsj hk4 hk5 hp5 hun hjl hz6 hS6 hw6 hun2 hz6'
        go_wp2_with fail
        refine (nunpin_ok wr w.heap.size p S5 HSZ2.out (j : Int)).mono ?_
        rintro e w12 ⟨rfl, hs12, hk12⟩
        rw [HUN.out] at hs12 ⊢
        have HS12 := Lib.hid hs12; have HB12 := Lib.hid (HBZ.out.trans (hk12.low HBZ.out.size))
        clear hs12 hk12
        go_wp2_with fail
        refine (nunpin_ok w12 w.heap.size p S6 HS12.out (j : Int)).mono ?_
        rintro e w13 ⟨rfl, hs13, hk13⟩
        rw [HUN2.out] at hs13 ⊢
        have HS13 := Lib.hid hs13; have HB13 := Lib.hid (HB12.out.trans (hk13.low HB12.out.size))
        clear hs13 hk13
        go_wp2_with fail
        refine (nsweep_ok w13 w.heap.size p S6 HS13.out HB13.out.size).mono ?_
        rintro e w14 ⟨s2, hm2, rfl, hs14, hk14⟩
        have hc14 : cnt (swp S6.l s2 1) = 2 := by rw [cnt_sw HW6.out hm2]; exact cntS_two _ HW6.out.two s2 (sweep_none HW6.out hm2 HZ6.out)
        have HC14 := Lib.hid hc14; have HS14 := Lib.hid hs14; have HB14 := Lib.hid (HB13.out.trans (hk14.low HB13.out.size))
        clear hc14 hm2 hs14 hk14
        go_wp2_with fail
        refine (nlen_ok w14 w.heap.size p _ HS14.out).mono ?_
        rintro e w15 ⟨rfl, rfl⟩
        rw [HC14.out]
        go_wp2_with fail
        refine (awake03 w14).mono ?_
        rintro e w16 ⟨rfl, hb16⟩
        go_wp2_with fail
        go_ret
        exact ⟨rfl, HB14.out.trans (hb16.mono HB14.out.size)⟩
end Go.Proofs.Ytdalnhhenahcjaa
