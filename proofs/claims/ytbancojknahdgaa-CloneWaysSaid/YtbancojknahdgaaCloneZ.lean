/- The contract of osierref20.Context; what Way answers, as a list. -/
import Derived.Test.YtbancojknahdgaaCloneH
import Derived.Test.YtbancojknahdgaaCloneY
import Derived.Deep.RegionHeld3
namespace Go.Proofs.Ytbancojknahdgaa
open Go.RowKit CP
set_option maxRecDepth 100000 in
set_option maxHeartbeats 12800000 in
theorem rctx_ok (w : World) (v : Value) (c : Cl) (main : Int) (wa : Option Addr) (way : List Int) (wc : Nat) (h : ClAt w v c) (hl : ClLen c) (hm : way.length ≤ maxLen) (hw : Cells w wa (zV way)) :
    Calls Try.prog 25 #[v, .int .i64 main, .slice wa way.length wc] w (CtxPost w (ctxR c main way)) := by
  have HRT0 : Hid (∀ W, Below w.heap.size w W → Calls Try.prog 46 #[v, .int .i64 main] W fun e w' => e = .returned (.bool (rightB c main)) ∧ Below W.heap.size W w') := Lib.hid (fun W hW => rright_ok W v c main (h.below hW) hl)
  obtain ⟨a1, c1, a2, c2, a3, c3, a4, c4, rfl, h1, _, h3, h4⟩ := h
  obtain ⟨c4, hc4⟩ : ∃ k, c.add.length + c4 = k := ⟨_, rfl⟩
  rw [hc4] at HRT0 ⊢
  clear hc4
  have HCR : Hid (ctxR c main way = if rightB c main = false then ((0, 0, 1) : Int × Int × Int)
    else ctxO (ctxF (edF c.comp.length c.edges) (edT c.comp.length c.edges) (adE c.comp.length main.toNat c.edges) c.edges.length way (cmp c.comp.length (edE c.edges) main.toNat) 0)) := Lib.hid rfl
  obtain ⟨R, hR⟩ : ∃ R, ctxR c main way = R := ⟨_, rfl⟩
  rw [hR] at HCR ⊢
  clear hR
  have HRO : Hid (rightB c main = true → Right c main c.comp.length main.toNat) := Lib.hid right_of
  obtain ⟨n1, hn1⟩ : ∃ n1, c.comp.length = n1 := ⟨_, rfl⟩
  obtain ⟨n2, hn2⟩ : ∃ n2, c.count.length = n2 := ⟨_, rfl⟩
  obtain ⟨n3, hn3⟩ : ∃ n3, c.edges.length = n3 := ⟨_, rfl⟩
  obtain ⟨n4, hn4⟩ : ∃ n4, c.add.length = n4 := ⟨_, rfl⟩
  obtain ⟨N, hN⟩ : ∃ N, way.length = N := ⟨_, rfl⟩
  rw [hn1, hn2, hn3, hn4] at HRT0
  rw [hn1, hn2, hn3, hn4, hN]
  rw [hN] at hm
  rw [hn1, hn3] at HCR
  rw [hn1] at HRO
  obtain ⟨w1, hw1⟩ : ∃ w1, w1 = w.alloc (.cells #[.slice a1 n1 c1, .slice a2 n2 c2, .slice a3 n3 c3, .slice a4 n4 c4] 27) := ⟨_, rfl⟩
  have hb1 : Below w.heap.size w w1 := by rw [hw1]; exact (Below.refl _ _).alloc (Nat.le_refl _) _
  obtain ⟨g, hg⟩ : ∃ g, g = w.heap.size := ⟨_, rfl⟩
  have k1 : Blk w1 g 27 #[.slice a1 n1 c1, .slice a2 n2 c2, .slice a3 n3 c3, .slice a4 n4 c4] := by rw [hw1, hg]; exact Blk.new_ _ _ _
  have HRT := Lib.hid (HRT0.out w1 hb1)
  have q0 : w1.cell? ⟨g, 0, none⟩ = some (.slice a1 n1 c1) := k1.cell 0
  have q1 : w1.cell? ⟨g, 1, none⟩ = some (.slice a2 n2 c2) := k1.cell 1
  have q2 : w1.cell? ⟨g, 2, none⟩ = some (.slice a3 n3 c3) := k1.cell 2
  have q3 : w1.cell? ⟨g, 3, none⟩ = some (.slice a4 n4 c4) := k1.cell 3
  have ql := k1.lt
  have H1 := Lib.hid (h1.below hb1); have H3 := Lib.hid (h3.below hb1); have H4 := Lib.hid (h4.below hb1); have HWY := Lib.hid (hw.below hb1)
  have hl3 : n3 ≤ 16384 := by rw [← hn3]; exact hl.edges
  have HW1 := Lib.hid hw1; have HG := Lib.hid hg; have HB1 := Lib.hid hb1; have HK1 := Lib.hid k1
  have HN1 := Lib.hid hn1; have HN3 := Lib.hid hn3; have HN4 := Lib.hid hn4; have HN := Lib.hid hN
  unfold maxLen at hm
  clear hw1 hg hb1 k1 h1 h3 h4 hl hn1 hn2 hn3 hn4 hN hw HRT0
  go_enter Try.func25, Try.ntmps25
  go_upto_region 1 with (fail)
  rw [← HW1.out]
  try rw [← HG.out]
  cases hr : rightB c main with
  | false =>
    have HNO : Hid (R = (0, 0, 1)) := Lib.hid (by rw [HCR.out, if_pos hr])
    rw [hr] at HRT
    clear hr
    go_wp2_with fail
    refine HRT.out.mono ?_
    rintro e w2 ⟨rfl, hb2⟩
    have HB2 := Lib.hid (HB1.out.trans (hb2.mono HB1.out.size))
    clear hb2 q0 q1 q2 q3 ql
    go_wp2_with fail
    go_ret3
    exact ⟨by rw [HNO.out]; rfl, HB2.out⟩
  | true =>
    have HRI := Lib.hid (HRO.out hr)
    rw [hr] at HRT HCR
    have hmain := HRI.out.main
    obtain ⟨mn, hmn⟩ : ∃ mn : Nat, main.toNat = mn := ⟨_, rfl⟩
    rw [hmn] at hmain HRI HCR
    subst hmain
    have hmnk := HRI.out.may.mn1
    have hmcM := HRI.out.may.top hmnk
    have HUP : Hid (Up (edF n1 c.edges) (edT n1 c.edges) n3 (edM n1 c.edges)) := Lib.hid (by have h := HRI.out.may.up; rw [HN3.out] at h; exact h)
    have HMCZ := Lib.hid (HRI.out.comp_at hmnk)
    obtain ⟨mc, hmc⟩ : ∃ mc, cmp n1 (edE c.edges) mn = mc := ⟨_, rfl⟩
    have hcn : cnE n1 mn c.edges = cntF (edF n1 c.edges) (edT n1 c.edges) n3 mc (edM n1 c.edges) := by unfold cnE; rw [HN3.out, hmc]
    have had : adE n1 mn c.edges = addF (edF n1 c.edges) (edT n1 c.edges) n3 mc (edM n1 c.edges) := by unfold adE; rw [HN3.out, hmc]
    have HED : Hid (∀ i, i < n3 → ∃ a e d : Nat, c.edges[i]? = some ((a : Int), (e : Int), (d : Int)) ∧ a < n1 ∧ d < n1 ∧ c.comp[a]? = some (edF n1 c.edges i : Int) ∧ c.comp[d]? = some (edT n1 c.edges i : Int) ∧ c.add[i]? = some (adE n1 mn c.edges i : Int)) := Lib.hid (fun i hi => by
      have hx : c.edges[i]? = some (c.edges[i]'(by rw [HN3.out]; exact hi)) := List.getElem?_eq_getElem _
      obtain ⟨a, e, d, he, ha, hd, _⟩ := HRI.out.may.at_ hx
      rw [he] at hx
      have h1 := edF_at n1 hx; have h2 := edT_at n1 hx
      simp only [Int.toNat_natCast] at h1 h2
      exact ⟨a, e, d, hx, ha, hd, by rw [h1]; exact HRI.out.comp_at ha, by rw [h2]; exact HRI.out.comp_at hd, HRI.out.add_at (by rw [HN3.out]; exact hi)⟩)
    have HBND : Hid (∀ v, v < edM n1 c.edges → cnE n1 mn c.edges v ≤ 4611686018427387903) := Lib.hid (fun v hv => HRI.out.bound hv)
    have HN44 : Hid (n4 = n3) := Lib.hid (by have h := HRI.out.lenA; rw [HN3.out, HN4.out] at h; exact h)
    rw [had] at HED HCR
    rw [hcn] at HBND
    rw [hmc] at HMCZ hmcM HCR
    have HCR2 : Hid (R = ctxO (ctxF (edF n1 c.edges) (edT n1 c.edges) (addF (edF n1 c.edges) (edT n1 c.edges) n3 mc (edM n1 c.edges)) n3 way mc 0)) := Lib.hid (by rw [HCR.out, if_neg (by decide)])
    obtain ⟨F, hF⟩ : ∃ F, edF n1 c.edges = F := ⟨_, rfl⟩
    obtain ⟨T, hT⟩ : ∃ T, edT n1 c.edges = T := ⟨_, rfl⟩
    obtain ⟨MM, hM⟩ : ∃ MM, edM n1 c.edges = MM := ⟨_, rfl⟩
    rw [hF, hT, hM] at HUP HED HBND HCR2
    rw [hM] at hmcM
    have HOK0 : Hid (OkS F T n3 mc MM mc 0) := Lib.hid ⟨hmcM, by rw [cnt_main HUP.out hmcM]; exact Nat.one_pos⟩
    clear hr HCR HRO hmn hmc hcn had hF hT hM HRI hmcM
    go_wp2_with fail
    refine HRT.out.mono ?_
    rintro e w2 ⟨rfl, hb2⟩
    have HB2 := Lib.hid (HB1.out.trans (hb2.mono HB1.out.size))
    have kc := HK1.out.below hb2 HK1.out.lt
    have C1 := Lib.hid (H1.out.below hb2); have C3 := Lib.hid (H3.out.below hb2); have C4 := Lib.hid (H4.out.below hb2); have CW := Lib.hid (HWY.out.below hb2)
    have HK2 := Lib.hid kc
    have u0 : w2.cell? ⟨g, 0, none⟩ = some (.slice a1 n1 c1) := kc.cell 0
    have ul := kc.lt
    obtain ⟨b6, o6, hca6, hbl6, x6⟩ := C1.out.at_ (zV_at HMCZ.out)
    subst hca6
    clear hb2 kc q0 q1 q2 q3 ql H1 H3 H4 HWY HK1 HB1 HRT
    go_wp2_with fail
    clear x6 hbl6 u0 ul
    go_loopg [9, 10, 11] N (fun mm x6 x7 x23 wr => ∃ i av nx : Nat, mm + i = N ∧ x23 = .int .i64 (i : Int) ∧ x6 = .int .i64 (av : Int) ∧ x7 = .int .i64 (nx : Int) ∧ OkS F T n3 mc MM av nx ∧ Below w2.heap.size w2 wr ∧ ctxF F T (addF F T n3 mc MM) n3 way mc 0 = ctxF F T (addF F T n3 mc MM) n3 (way.drop i) av nx)
    case atStart => exact ⟨0, mc, 0, rfl, rfl, rfl, rfl, HOK0.out, Below.refl _ _, rfl⟩
    case round =>
      obtain ⟨i, av, nx, hm2, rfl, rfl, rfl, hok, hb, hway⟩ := hrel
      have HM2 := Lib.hid hm2; have HOK := Lib.hid hok; have HB := Lib.hid hb; have HWAY := Lib.hid hway
      clear hm2 hok hb hway HOK0
      by_cases hi : i < N
      · obtain ⟨z, hz⟩ : ∃ z, way[i]? = some z := ⟨_, List.getElem?_eq_getElem (by rw [HN.out]; exact hi)⟩
        obtain ⟨b7, o7, rfl, hl7, t7⟩ := (CW.out.below HB.out).at_ (zV_at hz)
        have hwy := HWAY.out
        rw [drop_at hz, ctxF_cons] at hwy
        have kc := HK2.out.below HB.out HK2.out.lt
        have r0 : wr.cell? ⟨g, 0, none⟩ = some (.slice (some ⟨b6, o6, none⟩) n1 c1) := kc.cell 0
        have r2 : wr.cell? ⟨g, 2, none⟩ = some (.slice a3 n3 c3) := kc.cell 2
        have rl := kc.lt
        have HB0 := Lib.hid (HB2.out.trans (HB.out.mono HB2.out.size))
        clear hz
        by_cases z0 : z < 0
        · have HNO : Hid (R = (0, 0, 3)) := Lib.hid (by rw [HCR2.out, hwy, if_pos (.inl z0)]; rfl)
          have d1 : decide (z < 0) = true := decide_eq_true z0
          clear hwy kc
          go_wp2_with fail
          go_quiet (fail)
          go_wp2_with fail
          go_ret3
          exact ⟨by rw [HNO.out]; rfl, HB0.out.trans ((drew_below _ _).mono HB0.out.size)⟩
        by_cases z1 : (n3 : Int) ≤ z
        · have HNO : Hid (R = (0, 0, 3)) := Lib.hid (by rw [HCR2.out, hwy, if_pos (.inr z1)]; rfl)
          have d1 : decide (z < 0) = false := decide_eq_false z0
          have d2 : decide ((n3 : Int) ≤ z) = true := decide_eq_true z1
          clear hwy kc
          go_wp2_with fail
          go_quiet (fail)
          go_wp2_with fail
          go_ret3
          exact ⟨by rw [HNO.out]; rfl, HB0.out.trans ((drew_below _ _).mono HB0.out.size)⟩
        obtain ⟨kk, rfl⟩ : ∃ kk : Nat, z = (kk : Int) := ⟨z.toNat, by omega⟩
        have hkL : kk < n3 := by omega
        rw [if_neg (by omega), Int.toNat_natCast] at hwy
        have HWY2 := Lib.hid hwy
        have d1 : decide ((kk : Int) < 0) = false := decide_eq_false z0
        have d2 : decide (n3 ≤ kk) = false := decide_eq_false (by omega)
        obtain ⟨a, e, d, hx, ha, hd, hza, hzd, hai⟩ := HED.out kk hkL
        obtain ⟨b8, o8, rfl, hl8, t0, t1, t2⟩ := (C3.out.below HB.out).key hx
        simp only at t0 t1 t2
        clear z0 z1
        go_wp2_with fail
        go_quiet (fail)
        obtain ⟨wq, hwq, hbq⟩ : ∃ wq, wq = wr.drewN nq ∧ Below wr.heap.size wr wq := ⟨_, rfl, drew_below _ _⟩
        have hsq : wq.heap.size = wr.heap.size := by rw [hwq]; rfl
        rw [← hwq]
        have HKB : Hid (∀ W, Below wq.heap.size wq W → W.cell? ⟨g, 2, none⟩ = some (.slice (some ⟨b8, o8, none⟩) n3 c3) ∧ W.cell? ⟨b7, o7 + i, none⟩ = some (.int .i64 (kk : Int)) ∧ W.cell? ⟨b8, o8 + kk * 3, none⟩ = some (.int .i64 (a : Int)) ∧ W.cell? ⟨b8, o8 + kk * 3 + 1, none⟩ = some (.int .i64 (e : Int)) ∧ W.cell? ⟨b8, o8 + kk * 3 + 2, none⟩ = some (.int .i64 (d : Int))) := Lib.hid (fun W hW => by
          have hW2 : Below wr.heap.size wr W := hbq.trans (by rw [hsq] at hW; exact hW)
          exact ⟨(hW2.cell (p := ⟨g, 2, none⟩) rl).trans r2, (hW2.cell (p := ⟨b7, o7 + i, none⟩) hl7).trans t7, (hW2.cell (p := ⟨b8, o8 + kk * 3, none⟩) hl8).trans t0, (hW2.cell (p := ⟨b8, o8 + kk * 3 + 1, none⟩) hl8).trans t1, (hW2.cell (p := ⟨b8, o8 + kk * 3 + 2, none⟩) hl8).trans t2⟩)
        have HBQ := Lib.hid hbq; have HSQ := Lib.hid hsq
        clear hwq hbq hsq r0 r2 rl t7 t0 t1 t2 kc
        go_wp2_with fail
        go_region_held3 (fun W => W.cell? ⟨g, 2, none⟩ = some (.slice (some ⟨b8, o8, none⟩) n3 c3) ∧ W.cell? ⟨b7, o7 + i, none⟩ = some (.int .i64 (kk : Int)) ∧ W.cell? ⟨b8, o8 + kk * 3, none⟩ = some (.int .i64 (a : Int)) ∧ W.cell? ⟨b8, o8 + kk * 3 + 1, none⟩ = some (.int .i64 (e : Int)) ∧ W.cell? ⟨b8, o8 + kk * 3 + 2, none⟩ = some (.int .i64 (d : Int)))
          (first | with_reducible exact HKB.out _ (Below.refl _ _).drew | with_reducible exact HKB.out _ ((Below.refl _ _).alloc (Nat.le_refl _) _).drew) ((fail))
        go_upto_region 10 with (fail)
        obtain ⟨w4, hw4⟩ : ∃ w4, w4 = wq.alloc (.cells #[.int .i64 (a : Int), .int .i64 (e : Int), .int .i64 (d : Int)] 50) := ⟨_, rfl⟩
        obtain ⟨gx, hgx⟩ : ∃ gx, gx = wq.heap.size := ⟨_, rfl⟩
        have hb4 : Below wr.heap.size wr w4 := HBQ.out.trans (by rw [hw4, ← HSQ.out]; exact (Below.refl _ _).alloc (Nat.le_refl _) _)
        have kx : Blk w4 gx 50 #[.int .i64 (a : Int), .int .i64 (e : Int), .int .i64 (d : Int)] := by rw [hw4, hgx]; exact Blk.new_ _ _ _
        have hb24 : Below w2.heap.size w2 w4 := HB.out.trans (hb4.mono HB.out.size)
        obtain ⟨b9, o9, e9, hl9, ya⟩ := (C1.out.below hb24).at_ (zV_at hza)
        injection e9 with e9
        injection e9 with e9 e10 _
        subst e9 e10
        obtain ⟨b9, o9, e9, _, yd⟩ := (C1.out.below hb24).at_ (zV_at hzd)
        injection e9 with e9
        injection e9 with e9 e10 _
        subst e9 e10
        obtain ⟨b11, o11, e11, hl11, yi⟩ := (C4.out.below hb24).at_ (zV_at hai)
        subst e11
        have kc4 := HK2.out.below hb24 HK2.out.lt
        have p0 : w4.cell? ⟨gx, 0, none⟩ = some (.int .i64 (a : Int)) := kx.cell 0
        have p2 : w4.cell? ⟨gx, 2, none⟩ = some (.int .i64 (d : Int)) := kx.cell 2
        have pl := kx.lt
        have s0 : w4.cell? ⟨g, 0, none⟩ = some (.slice (some ⟨b6, o6, none⟩) n1 c1) := kc4.cell 0
        have s3 : w4.cell? ⟨g, 3, none⟩ = some (.slice (some ⟨b11, o11, none⟩) n4 c4) := kc4.cell 3
        have sl := kc4.lt
        have HB24 := Lib.hid hb24
        have HB04 := Lib.hid (HB2.out.trans (hb24.mono HB2.out.size))
        have HSTP : Hid (F kk = av → T kk ≠ av → OkS F T n3 mc MM (T kk) (nx + addF F T n3 mc MM kk)) := Lib.hid (fun h1 h2 => ctx_step HUP.out HOK.out hkL h1 h2)
        obtain ⟨ak, hak⟩ : ∃ ak, addF F T n3 mc MM kk = ak := ⟨_, rfl⟩
        obtain ⟨fk, hfk⟩ : ∃ fk, F kk = fk := ⟨_, rfl⟩
        obtain ⟨tk, htk⟩ : ∃ tk, T kk = tk := ⟨_, rfl⟩
        rw [hfk, htk, hak] at HWY2 HSTP
        rw [hak] at yi
        rw [hfk] at ya
        rw [htk] at yd
        have hk4 : kk < n4 := by rw [HN44.out]; exact hkL
        have t7 := (HKB.out w4 (by rw [hw4]; exact (Below.refl _ _).alloc (Nat.le_refl _) _)).2.1
        have HW4 := Lib.hid hw4; have HGX := Lib.hid hgx
        clear hx hza hzd hai hw4 hgx hb4 kx hb24 kc4 hak hfk htk hwy
        rw [← HW4.out]
        try rw [← HGX.out]
        by_cases g1 : fk = av
        · by_cases g2 : tk = av
          · have HNO : Hid (R = (0, 0, 3)) := Lib.hid (by rw [HCR2.out, HWY2.out, if_pos (.inr g2)]; rfl)
            have e1 : ((fk : Int) != (av : Int)) = false := by rw [bne_eq_false_iff_eq]; omega
            have e1' : (fk != av) = false := by rw [bne_eq_false_iff_eq]; exact g1
            have e2 : ((tk : Int) == (av : Int)) = true := by rw [beq_iff_eq]; omega
            have e2' : (tk == av) = true := by rw [beq_iff_eq]; exact g2
            clear g1 g2
            go_wp2_with fail
            go_ret3
            exact ⟨by rw [HNO.out]; rfl, HB04.out.drew⟩
          · have HOK2 := Lib.hid (HSTP.out g1 g2)
            have HWY3 : Hid (ctxF F T (addF F T n3 mc MM) n3 way mc 0 = ctxF F T (addF F T n3 mc MM) n3 (way.drop (i + 1)) tk (nx + ak)) := Lib.hid (by rw [HWY2.out, if_neg (by intro h; rcases h with h | h; exact h g1; exact g2 h)])
            have e1 : ((fk : Int) != (av : Int)) = false := by rw [bne_eq_false_iff_eq]; omega
            have e1' : (fk != av) = false := by rw [bne_eq_false_iff_eq]; exact g1
            have e2 : ((tk : Int) == (av : Int)) = false := by rw [beq_eq_false_iff_ne]; omega
            have e2' : (tk == av) = false := by rw [beq_eq_false_iff_ne]; exact g2
            obtain ⟨sm, hsm⟩ : ∃ sm, nx + ak = sm := ⟨_, rfl⟩
            rw [hsm] at HOK2 HWY3
            have hsb : sm ≤ 4611686018427387903 := by
              have h1 := HOK2.out.2
              have h2 := HBND.out tk HOK2.out.1
              omega
            have hsi : (nx : Int) + (ak : Int) = (sm : Int) := by omega
            have hnx : nx ≤ 4611686018427387903 := by omega
            have hak2 : ak ≤ 4611686018427387903 := by omega
            clear g1 g2 hsm
            go_wp2_with fail
            go_quiet (fail)
            go_wp2_with fail
            go_roundg (N - (i + 1))
            case measure => have := HM2.out; omega
            case rel => exact ⟨i + 1, tk, sm, by have := HM2.out; omega, by go_num, rfl, by go_num, HOK2.out, HB24.out.trans ((drew_below _ _).mono HB24.out.size), HWY3.out⟩
        · have HNO : Hid (R = (0, 0, 3)) := Lib.hid (by rw [HCR2.out, HWY2.out, if_pos (.inl g1)]; rfl)
          have e1 : ((fk : Int) != (av : Int)) = true := by rw [bne_iff_ne]; omega
          have e1' : (fk != av) = true := by rw [bne_iff_ne]; exact g1
          clear g1
          go_wp2_with fail
          go_ret3
          exact ⟨by rw [HNO.out]; rfl, HB04.out.drew⟩
      · have hin : i = N := by have := HM2.out; omega
        have HYES : Hid (R = ((av : Int), (nx : Int), 0)) := Lib.hid (by
          have e : way.drop i = [] := List.drop_eq_nil_of_le (by rw [HN.out]; omega)
          rw [HCR2.out, HWAY.out, e]; rfl)
        have HB0 := Lib.hid (HB2.out.trans (HB.out.mono HB2.out.size))
        clear hin
        go_wp2_with fail
        go_ret3
        exact ⟨by rw [HYES.out]; rfl, HB0.out⟩
/-- a way and an error -/
def RwPost (w : World) (rl : List Nat) (rn : Nat) (re : Int) (e : Ending) (w' : World) : Prop := Below w.heap.size w w' ∧ ∃ a c, e = .returned (.tuple #[.slice a rn c, .int .i64 re]) ∧ Cells w' a (zV (rl.map fun k : Nat => (k : Int)))
theorem rw_of {w w' : World} {r : List Nat × Int} {e : Ending} (h : WayPost w r e w') : RwPost w r.1 r.1.length r.2 e w' := by
  obtain ⟨hb, y, rfl, hr, _⟩ := h
  obtain ⟨a, c, rfl, _, _, hc⟩ := Cells.of_own hr
  rw [iV_z] at hc
  exact ⟨hb, a, c, rfl, hc⟩
theorem rw_same {W : World} {a b : Option Addr} {ca cb n : Nat} {l : List Nat} (hn : l.length = n) (hl : n ≤ 1024) (ha : Cells W a (zV (l.map fun k : Nat => (k : Int)))) (hb : Cells W b (zV (l.map fun k : Nat => (k : Int)))) :
    Calls Try.prog 23 #[.slice a n ca, .slice b n cb] W (Tells true W) := by
  have h := sameInts_ok W a b ca cb (l.map fun k : Nat => (k : Int)) (l.map fun k : Nat => (k : Int)) (by rw [List.length_map]; unfold maxLen; omega) ha hb
  rw [List.length_map, hn] at h
  have e : ((l.map fun k : Nat => (k : Int)) == (l.map fun k : Nat => (k : Int))) = true := by simp
  rw [e] at h
  exact h
theorem wayR_len (c : Cl) (main me cx : Int) : (wayR c main me cx).1.length ≤ 1024 := by
  unfold wayR
  split
  · exact Nat.zero_le _
  · rename_i h1
    split
    · exact Nat.zero_le _
    · rename_i h2
      have hr : rightB c main = true := by
        cases h : rightB c main with
        | true => rfl
        | false => exact absurd (.inl h) h1
      have hme : 0 ≤ me := by
        rcases Int.lt_or_le me 0 with h | h
        · exact absurd (.inr (.inl h)) h1
        · exact h
      have hme2 : me < (c.comp.length : Int) := by
        rcases Int.lt_or_le me (c.comp.length : Int) with h | h
        · exact h
        · exact absurd (.inr (.inr h)) h1
      have R := right_of hr
      have hv : me.toNat < c.comp.length := by omega
      have hcn := R.count_at hv
      have hcx : ¬ (cx < 0 ∨ c.count.getD me.toNat 0 ≤ cx) := h2
      rw [List.getD_eq_getElem?_getD, hcn] at hcx
      have hcx2 : 0 ≤ cx ∧ cx < (cnE c.comp.length main.toNat c.edges (cmp c.comp.length (edE c.edges) me.toNat) : Int) := by
        simp only [Option.getD_some, not_or] at hcx
        omega
      have htop := R.may.top hv
      have hk := R.may.topk
      have hk2 := R.may.k2
      have hok : OkS (edF c.comp.length c.edges) (edT c.comp.length c.edges) c.edges.length (cmp c.comp.length (edE c.edges) main.toNat) (edM c.comp.length c.edges) (cmp c.comp.length (edE c.edges) me.toNat) cx.toNat := ⟨htop, by
        have h := hcx2.2
        unfold cnE at h
        omega⟩
      have hlen := wayC_len R.may.up _ _ hok
      rw [List.length_reverse]
      omega
end Go.Proofs.Ytbancojknahdgaa
