/- Layer 20: what must come whatever the arguments are (osierlaw20.awake). -/
import Derived.Test.YtbancojknahdgaaCloneH
import Derived.Test.YtbancojknahdgaaCloneV
namespace Go.Proofs.Ytbancojknahdgaa
open Go.RowKit CP
def E2 : List (Int × Int × Int) := [(0, 0, 1), (0, 1, 1)]
theorem E2_dbl : E2 = dblL (2 - 1) := by decide
theorem E2_may {wd : Nat} (h1 : 1 ≤ wd) (h2 : wd ≤ 62) : MayN 2 0 E2 wd := by rw [E2_dbl]; exact dbl_may (by decide) (by decide) h1 h2
theorem E2_fit {wd : Nat} (h : 2 ≤ wd) : fitC 2 0 E2 wd = true := by rw [E2_dbl]; exact dbl_fit (by decide) (by decide) h
theorem E2_cmp {v : Nat} (h : v < 2) : cmp 2 (edE E2) v = v := by rw [E2_dbl]; exact dbl_cmp (by decide) h
theorem E2_cn {v : Nat} (h : v < 2) : cnE 2 0 E2 v = 2 ^ v := by rw [E2_dbl]; exact dbl_cn (by decide) (by decide) v h
theorem E2_F {j : Nat} (h : j < 2) : edF 2 E2 j = 0 := by
  rcases (by omega : j = 0 ∨ j = 1) with rfl | rfl
  · rw [edF_at 2 (x := (0, 0, 1)) rfl]; exact E2_cmp (by decide)
  · rw [edF_at 2 (x := (0, 1, 1)) rfl]; exact E2_cmp (by decide)
theorem E2_T {j : Nat} (h : j < 2) : edT 2 E2 j = 1 := by
  rcases (by omega : j = 0 ∨ j = 1) with rfl | rfl
  · rw [edT_at 2 (x := (0, 0, 1)) rfl]; exact E2_cmp (by decide)
  · rw [edT_at 2 (x := (0, 1, 1)) rfl]; exact E2_cmp (by decide)
theorem E2_top : edM 2 E2 = 2 := by rw [E2_dbl]; exact dbl_top (by decide) (by decide)
theorem E2_in0 : inL (edF 2 E2) (edT 2 E2) 1 0 = [] := rfl
theorem E2_in1 : inL (edF 2 E2) (edT 2 E2) 1 1 = [0] := by rw [inL_next, E2_in0, if_pos ⟨E2_T (by decide), by rw [E2_F (by decide)]; decide⟩]; rfl
theorem E2_ad0 : adE 2 0 E2 0 = 0 := by
  have hc := E2_cn (v := 0) (by decide)
  unfold adE addF
  unfold cnE at hc
  rw [E2_F (j := 0) (by decide), E2_T (j := 0) (by decide), hc, if_neg (by decide), E2_in0, lsum_nil, E2_cmp (by decide)]
  rfl
theorem E2_ad1 : adE 2 0 E2 1 = 1 := by
  have hc := E2_cn (v := 0) (by decide)
  unfold adE addF
  unfold cnE at hc
  rw [E2_F (j := 1) (by decide), E2_T (j := 1) (by decide), hc, if_neg (by decide), E2_in1, lsum_one, E2_F (j := 0) (by decide), hc, E2_cmp (by decide)]
  rfl
theorem E2_num : numC 2 0 E2 = ⟨[0, 1], [1, 2], E2, [0, 1]⟩ := by
  have h1 : cmpZ 2 (edE E2) = [0, 1] := by
    show [(cmp 2 (edE E2) 0 : Int), (cmp 2 (edE E2) 1 : Int)] = _
    rw [E2_cmp (by decide), E2_cmp (by decide)]; rfl
  have h2 : ((List.range 2).map fun v => (cnE 2 0 E2 (cmp 2 (edE E2) v) : Int)) = [1, 2] := by
    show [(cnE 2 0 E2 (cmp 2 (edE E2) 0) : Int), (cnE 2 0 E2 (cmp 2 (edE E2) 1) : Int)] = _
    rw [E2_cmp (by decide), E2_cmp (by decide), E2_cn (by decide), E2_cn (by decide)]; rfl
  have h3 : ((List.range E2.length).map fun i => (adE 2 0 E2 i : Int)) = [0, 1] := by
    show [(adE 2 0 E2 0 : Int), (adE 2 0 E2 1 : Int)] = _
    rw [E2_ad0, E2_ad1]; rfl
  unfold numC
  rw [h1, h2, h3]
theorem E2_right : rightB (numC 2 0 E2) 0 = true := right_to (E2_may (wd := 62) (by decide) (by decide)) (E2_fit (by decide))
theorem E2_ok : OkS (edF 2 E2) (edT 2 E2) 2 0 (edM 2 E2) 1 1 := ⟨by rw [E2_top]; decide, by
  have h := E2_cn (v := 1) (by decide)
  unfold cnE at h
  rw [E2_cmp (by decide), show E2.length = 2 from rfl] at h
  rw [h]; decide⟩
theorem E2_way : wayC (edF 2 E2) (edT 2 E2) 2 0 (edM 2 E2) 1 1 = [1] := by
  have hU : Up (edF 2 E2) (edT 2 E2) 2 (edM 2 E2) := (E2_may (wd := 62) (by decide) (by decide)).up
  have hc := E2_cn (v := 0) (by decide)
  have ha := E2_ad1
  unfold cnE at hc
  unfold adE at ha
  rw [E2_cmp (by decide), show E2.length = 2 from rfl] at hc ha
  have hl : lastI (edF 2 E2) (edT 2 E2) (cntF (edF 2 E2) (edT 2 E2) 2 0 (edM 2 E2)) (addF (edF 2 E2) (edT 2 E2) 2 0 (edM 2 E2)) 1 1 2 = ((1 : Nat) : Int) := by
    refine lastI_of ?_ 2 (by decide) fun j h1 h2 => by omega
    unfold wayP
    rw [E2_F (by decide), E2_T (by decide), hc, ha]
    decide
  rw [wayC_step hU E2_ok (by decide) hl, E2_F (by decide), wayC_main]
theorem E2_wayR : wayR (numC 2 0 E2) 0 1 1 = ([1], 0) := by
  have hc : (numC 2 0 E2).comp.length = 2 := by rw [E2_num]; rfl
  have hn : (numC 2 0 E2).count.getD 1 0 = 2 := by rw [E2_num]; rfl
  have he : (numC 2 0 E2).edges = E2 := rfl
  unfold wayR
  rw [hc, he, E2_right, show (1 : Int).toNat = 1 from rfl, show (0 : Int).toNat = 0 from rfl, hn, E2_cmp (by decide), E2_cmp (by decide), show E2.length = 2 from rfl, E2_way]
  rw [if_neg (by decide), if_neg (by decide)]
  rfl
theorem E2_ctxR : ctxR (numC 2 0 E2) 0 [1] = (1, 1, 0) := by
  have hc : (numC 2 0 E2).comp.length = 2 := by rw [E2_num]; rfl
  have he : (numC 2 0 E2).edges = E2 := rfl
  have hU : Up (edF 2 E2) (edT 2 E2) 2 (edM 2 E2) := (E2_may (wd := 62) (by decide) (by decide)).up
  have h := wayC_back hU (by rw [E2_top]; decide) E2_ok
  rw [E2_way] at h
  have ha : adE 2 0 E2 = addF (edF 2 E2) (edT 2 E2) 2 0 (edM 2 E2) := by unfold adE; rw [E2_cmp (by decide)]; rfl
  unfold ctxR
  rw [hc, he, E2_right, show (0 : Int).toNat = 0 from rfl, E2_cmp (by decide), ha, show E2.length = 2 from rfl, if_neg (by decide)]
  rw [show ([1] : List Int) = ([1] : List Nat).reverse.map (fun k : Nat => (k : Int)) from rfl, h]
  rfl
def litE2 : Obj := .cells #[.int .i64 0, .int .i64 0, .int .i64 1, .int .i64 0, .int .i64 1, .int .i64 1] 50
set_option maxRecDepth 100000 in
set_option maxHeartbeats 6400000 in
theorem awake20 (w : World) : Calls Try.prog 16 #[] w (FineC w) := by
  have HNUM := Lib.hid (number_ok (w.alloc litE2) 2 0 (some ⟨w.heap.size, 0, none⟩) E2 2 2 (by unfold maxLen E2; decide) (Cells.lit w _ _))
  have hlen : ClLen (numC 2 0 E2) := by rw [E2_num]; exact ⟨by decide, by decide, by unfold E2; decide, by decide⟩
  have HLEN := Lib.hid hlen
  clear hlen
  unfold litE2 at HNUM
  rw [show E2.length = 2 from rfl] at HNUM
  have hb0 : Below w.heap.size w (w.alloc (.cells #[.int .i64 0, .int .i64 0, .int .i64 1, .int .i64 0, .int .i64 1, .int .i64 1] 50)) := (Below.refl _ _).alloc (Nat.le_refl _) _
  have HB0 := Lib.hid hb0
  clear hb0
  go_enter Try.func16, Try.ntmps16
  go_wp2_with fail
  refine HNUM.out.mono ?_
  rintro e w1 ⟨hb1, h⟩
  have h2 : ∃ v, e = .returned (.tuple #[v, .int .i64 0]) ∧ ClAt w1 v (numC 2 0 E2) := by
    rcases h with ⟨h, _⟩ | ⟨k, mn, wn, h3, h4, h5, hM, h6⟩
    · rw [show (2 : Int) = ((2 : Nat) : Int) from rfl, show (0 : Int) = ((0 : Nat) : Int) from rfl, mayN_to (E2_may (by decide) (by decide))] at h; cases h
    · obtain rfl : k = 2 := by omega
      obtain rfl : mn = 0 := by omega
      obtain rfl : wn = 2 := by omega
      rcases h6 with ⟨h6, _⟩ | ⟨_, h6⟩
      · rw [E2_fit (by decide)] at h6; cases h6
      · exact h6
  obtain ⟨v, rfl, hcl⟩ := h2
  have HB1 := Lib.hid (HB0.out.trans (hb1.mono HB0.out.size))
  have HCL := Lib.hid hcl
  rw [E2_num] at hcl
  obtain ⟨a1, c1, a2, c2, a3, c3, a4, c4, rfl, _, h2, _, h4⟩ := hcl
  have HC2 : Hid (Cells w1 a2 (zV [1, 2])) := Lib.hid h2
  have HC4 : Hid (Cells w1 a4 (zV [0, 1])) := Lib.hid h4
  rw [show ([0, 1] : List Int).length = 2 from rfl, show ([1, 2] : List Int).length = 2 from rfl, show E2.length = 2 from rfl] at HCL ⊢
  obtain ⟨c4, hc4⟩ : ∃ k, 2 + c4 = k := ⟨_, rfl⟩
  rw [hc4] at HCL ⊢
  clear hc4
  obtain ⟨w2, hw2⟩ : ∃ w2, w2 = w1.alloc (.cells #[.slice a1 2 c1, .slice a2 2 c2, .slice a3 2 c3, .slice a4 2 c4] 27) := ⟨_, rfl⟩
  obtain ⟨g, hg⟩ : ∃ g, g = w1.heap.size := ⟨_, rfl⟩
  have hb2 : Below w1.heap.size w1 w2 := by rw [hw2]; exact (Below.refl _ _).alloc (Nat.le_refl _) _
  have k2 : Blk w2 g 27 #[.slice a1 2 c1, .slice a2 2 c2, .slice a3 2 c3, .slice a4 2 c4] := by rw [hw2, hg]; exact Blk.new_ _ _ _
  have HWAY := Lib.hid (way_ok w2 _ (numC 2 0 E2) 0 1 1 (HCL.out.below hb2) HLEN.out)
  rw [E2_wayR] at HWAY
  have p0 : w2.cell? ⟨g, 0, none⟩ = some (.slice a1 2 c1) := k2.cell 0
  have p1 : w2.cell? ⟨g, 1, none⟩ = some (.slice a2 2 c2) := k2.cell 1
  have p2 : w2.cell? ⟨g, 2, none⟩ = some (.slice a3 2 c3) := k2.cell 2
  have p3 : w2.cell? ⟨g, 3, none⟩ = some (.slice a4 2 c4) := k2.cell 3
  have pl := k2.lt
  have HK2 := Lib.hid k2; have HB12 := Lib.hid hb2; have HB2 := Lib.hid (HB1.out.trans (hb2.mono HB1.out.size))
  have HW2 := Lib.hid hw2; have HG := Lib.hid hg
  clear hb1 h h2 h4 hw2 hg hb2 k2 HNUM HB0
  go_upto_region 2 with (fail)
  rw [← HW2.out]
  try rw [← HG.out]
  go_wp2_with fail
  refine HWAY.out.mono ?_
  rintro e w3 ⟨hb3, y3, rfl, hr3, _⟩
  change w3.ownsRow _ _ _ y3 1 _ at hr3
  obtain ⟨a5, c5, rfl, _, _, hc5⟩ := Cells.of_own hr3
  have HC5 : Hid (Cells w3 a5 (zV [1])) := Lib.hid hc5
  have k3 := HK2.out.below hb3 HK2.out.lt
  have HB13 := Lib.hid (HB12.out.trans (hb3.mono HB12.out.size))
  have HB3 := Lib.hid (HB2.out.trans (hb3.mono HB2.out.size))
  have q0 : w3.cell? ⟨g, 0, none⟩ = some (.slice a1 2 c1) := k3.cell 0
  have q1 : w3.cell? ⟨g, 1, none⟩ = some (.slice a2 2 c2) := k3.cell 1
  have q2 : w3.cell? ⟨g, 2, none⟩ = some (.slice a3 2 c3) := k3.cell 2
  have q3 : w3.cell? ⟨g, 3, none⟩ = some (.slice a4 2 c4) := k3.cell 3
  have ql := k3.lt
  have hal : ∀ (W : World) (o : Obj), Below W.heap.size W (W.alloc o) := fun W o => (Below.refl _ _).alloc (Nat.le_refl _) o
  have HAL := Lib.hid hal
  obtain ⟨w4, hw4⟩ : ∃ w4, w4 = w3.alloc (.cells #[.int .i64 1] 3) := ⟨_, rfl⟩
  have HCTX : Hid (Calls Try.prog 24 #[.agg #[.slice a1 2 c1, .slice a2 2 c2, .slice a3 2 c3, .slice a4 2 c4], .int .i64 0, .slice (some ⟨w3.heap.size, 0, none⟩) 1 1] w4 (CtxPost w4 (1, 1, 0))) := Lib.hid (by
    have h := ctx_ok w4 _ (numC 2 0 E2) 0 (some ⟨w3.heap.size, 0, none⟩) [1] 1 ((HCL.out.below HB13.out).below (by rw [hw4]; exact hal _ _)) HLEN.out (by unfold maxLen; decide) (by rw [hw4]; exact Cells.lit w3 _ _)
    rw [E2_ctxR] at h; exact h)
  have HB34 : Hid (Below w3.heap.size w3 w4) := Lib.hid (by rw [hw4]; exact hal _ _)
  have HW4 := Lib.hid hw4
  clear hal hw4 hb3 hr3 hc5 p0 p1 p2 p3 pl HWAY HB2 HB12
  have HK3 := Lib.hid k3
  clear k3
  go_wp2_with fail
  rw [← HW4.out]
  refine HCTX.out.mono ?_
  rintro e w5 ⟨rfl, hb5⟩
  have HB35 := Lib.hid (HB34.out.trans (hb5.mono HB34.out.size))
  have k5 := HK3.out.below HB35.out HK3.out.lt
  have r1 : w5.cell? ⟨g, 1, none⟩ = some (.slice a2 2 c2) := k5.cell 1
  have r3 : w5.cell? ⟨g, 3, none⟩ = some (.slice a4 2 c4) := k5.cell 3
  have rl := k5.lt
  have HB5 := Lib.hid (HB3.out.trans (HB35.out.mono HB3.out.size))
  have HB15 := Lib.hid (HB13.out.trans (HB35.out.mono HB13.out.size))
  have HK5 := Lib.hid k5
  obtain ⟨w6, hw6⟩ : ∃ w6, w6 = w5.alloc (.cells #[.int .i64 1, .int .i64 2] 3) := ⟨_, rfl⟩
  have HS1 : Hid (Calls Try.prog 23 #[.slice a2 2 c2, .slice (some ⟨w5.heap.size, 0, none⟩) 2 2] w6 (Tells true w6)) := Lib.hid (by
    rw [hw6]
    exact sameInts_ok _ a2 _ c2 2 [1, 2] [1, 2] (by unfold maxLen; decide) ((HC2.out.below HB15.out).below (HAL.out _ _)) (Cells.lit w5 _ _))
  have HB56 : Hid (Below w5.heap.size w5 w6) := Lib.hid (by rw [hw6]; exact HAL.out _ _)
  have HW6 := Lib.hid hw6
  clear hb5 k5 hw6 q0 q1 q2 q3 ql HCTX HB34
  go_wp2_with fail
  rw [← HW6.out]
  refine HS1.out.mono ?_
  rintro e w7 ⟨rfl, n7, hw7⟩
  have HB57 : Hid (Below w5.heap.size w5 w7) := Lib.hid (by rw [hw7]; exact HB56.out.trans ((drew_below w6 n7).mono HB56.out.size))
  have k7 := HK5.out.below HB57.out HK5.out.lt
  have s3 : w7.cell? ⟨g, 3, none⟩ = some (.slice a4 2 c4) := k7.cell 3
  have sl := k7.lt
  obtain ⟨w8, hw8⟩ : ∃ w8, w8 = w7.alloc (.cells #[.int .i64 0, .int .i64 1] 3) := ⟨_, rfl⟩
  have HS2 : Hid (Calls Try.prog 23 #[.slice a4 2 c4, .slice (some ⟨w7.heap.size, 0, none⟩) 2 2] w8 (Tells true w8)) := Lib.hid (by
    rw [hw8]
    exact sameInts_ok _ a4 _ c4 2 [0, 1] [0, 1] (by unfold maxLen; decide) (((HC4.out.below HB15.out).below HB57.out).below (HAL.out _ _)) (Cells.lit w7 _ _))
  have HB58 : Hid (Below w5.heap.size w5 w8) := Lib.hid (by rw [hw8]; exact HB57.out.trans ((HAL.out w7 _).mono HB57.out.size))
  have HW8 := Lib.hid hw8
  clear hw7 k7 hw8 r1 r3 rl HS1
  go_wp2_with fail
  rw [← HW8.out]
  refine HS2.out.mono ?_
  rintro e w9 ⟨rfl, n9, hw9⟩
  have HB59 : Hid (Below w5.heap.size w5 w9) := Lib.hid (by rw [hw9]; exact HB58.out.trans ((drew_below w8 n9).mono HB58.out.size))
  obtain ⟨wx, hwx⟩ : ∃ wx, wx = w9.alloc (.cells #[.int .i64 1] 3) := ⟨_, rfl⟩
  have HS3 : Hid (Calls Try.prog 23 #[.slice a5 1 c5, .slice (some ⟨w9.heap.size, 0, none⟩) 1 1] wx (Tells true wx)) := Lib.hid (by
    rw [hwx]
    exact sameInts_ok _ a5 _ c5 1 [1] [1] (by unfold maxLen; decide) (((HC5.out.below HB35.out).below HB59.out).below (HAL.out _ _)) (Cells.lit w9 _ _))
  have HB5x : Hid (Below w5.heap.size w5 wx) := Lib.hid (by rw [hwx]; exact HB59.out.trans ((HAL.out w9 _).mono HB59.out.size))
  have HWX := Lib.hid hwx
  clear hw9 hwx s3 sl HS2
  go_wp2_with fail
  rw [← HWX.out]
  refine HS3.out.mono ?_
  rintro e wy ⟨rfl, ny, hwy⟩
  have HB5y : Hid (Below w5.heap.size w5 wy) := Lib.hid (by rw [hwy]; exact HB5x.out.trans ((drew_below wx ny).mono HB5x.out.size))
  clear hwy
  go_wp2_with fail
  go_ret
  exact ⟨rfl, HB5.out.trans (HB5y.out.mono HB5.out.size)⟩
end Go.Proofs.Ytbancojknahdgaa
