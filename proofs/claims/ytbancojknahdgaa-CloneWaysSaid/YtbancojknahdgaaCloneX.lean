/- The contracts of osierref20.Same (of numbers with the same edges) and May. -/
import Derived.Test.YtbancojknahdgaaCloneW
import Derived.Test.YtbancojknahdgaaCloneH
namespace Go.Proofs.Ytbancojknahdgaa
open Go.RowKit CP
/-- are the numbers the same, the edges aside? -/
def sameB (c d : Cl) : Bool := (c.comp == d.comp) && (c.count == d.count) && (c.add == d.add)
set_option maxRecDepth 100000 in
set_option maxHeartbeats 12800000 in
theorem sameC_ok (w : World) (v1 v2 : Value) (c d : Cl) (h1 : ClAt w v1 c) (h2 : ClAt w v2 d) (he : d.edges = c.edges) (l1 : ClLen c) (l2 : ClLen d) :
    Calls Try.prog 19 #[v1, v2] w fun e w' => e = .returned (.bool (sameB c d)) ∧ Below w.heap.size w w' := by
  obtain ⟨a1, x1, a2, x2, a3, x3, a4, x4, rfl, p1, p2, p3, p4⟩ := h1
  obtain ⟨b1, y1, b2, y2, b3, y3, b4, y4, rfl, q1, q2, q3, q4⟩ := h2
  have HSB : Hid (sameB c d = ((c.comp == d.comp) && (c.count == d.count) && (c.add == d.add))) := Lib.hid rfl
  have hc1 := l1.comp; have hc2 := l1.count; have hc3 := l1.edges; have hc4 := l1.add
  have hd1 := l2.comp; have hd2 := l2.count; have hd4 := l2.add
  rw [he] at q3 ⊢
  obtain ⟨cs, cn, es, ad⟩ := c
  obtain ⟨ds, dn, ds3, dd⟩ := d
  simp only at hc1 hc2 hc3 hc4 hd1 hd2 hd4 p1 p2 p3 p4 q1 q2 q3 q4 HSB ⊢
  obtain ⟨r, hr⟩ : ∃ r, sameB ⟨cs, cn, es, ad⟩ ⟨ds, dn, ds3, dd⟩ = r := ⟨_, rfl⟩
  rw [hr] at HSB ⊢
  clear hr he l1 l2
  obtain ⟨wb, hwb⟩ : ∃ wb, wb = (w.alloc (.cells #[.slice a1 cs.length x1, .slice a2 cn.length x2, .slice a3 es.length x3, .slice a4 ad.length (ad.length + x4)] 27)).alloc (.cells #[.slice b1 ds.length y1, .slice b2 dn.length y2, .slice b3 es.length y3, .slice b4 dd.length (dd.length + y4)] 27) := ⟨_, rfl⟩
  have hb : Below w.heap.size w wb := by rw [hwb]; exact ((Below.refl _ _).alloc (Nat.le_refl _) _).alloc (by simp) _
  obtain ⟨g1, hg1⟩ : ∃ g1, g1 = w.heap.size := ⟨_, rfl⟩
  obtain ⟨g2, hg2⟩ : ∃ g2, g2 = w.heap.size + 1 := ⟨_, rfl⟩
  have k1 : Blk wb g1 27 #[.slice a1 cs.length x1, .slice a2 cn.length x2, .slice a3 es.length x3, .slice a4 ad.length (ad.length + x4)] := by rw [hwb, hg1]; exact (Blk.new_ _ _ _).alloc_ _
  have k2 : Blk wb g2 27 #[.slice b1 ds.length y1, .slice b2 dn.length y2, .slice b3 es.length y3, .slice b4 dd.length (dd.length + y4)] := by
    have h := Blk.new_ (w.alloc (.cells #[.slice a1 cs.length x1, .slice a2 cn.length x2, .slice a3 es.length x3, .slice a4 ad.length (ad.length + x4)] 27)) 27 #[.slice b1 ds.length y1, .slice b2 dn.length y2, .slice b3 es.length y3, .slice b4 dd.length (dd.length + y4)]
    rw [al_size] at h
    rw [hwb, hg2]; exact h
  have HE1 : Hid (∀ q, Calls Try.prog 23 #[.slice a1 cs.length x1, .slice b1 ds.length y1] (wb.drewN q) (Tells (cs == ds) (wb.drewN q))) := Lib.hid (fun q => sameInts_ok (wb.drewN q) a1 b1 x1 y1 cs ds (by unfold maxLen; omega) ((p1.below hb).drewN_ q) ((q1.below hb).drewN_ q))
  have HE2 : Hid (∀ q, Calls Try.prog 23 #[.slice a2 cn.length x2, .slice b2 dn.length y2] (wb.drewN q) (Tells (cn == dn) (wb.drewN q))) := Lib.hid (fun q => sameInts_ok (wb.drewN q) a2 b2 x2 y2 cn dn (by unfold maxLen; omega) ((p2.below hb).drewN_ q) ((q2.below hb).drewN_ q))
  have HE4 : Hid (∀ q, Calls Try.prog 23 #[.slice a4 ad.length (ad.length + x4), .slice b4 dd.length (dd.length + y4)] (wb.drewN q) (Tells (ad == dd) (wb.drewN q))) := Lib.hid (fun q => sameInts_ok (wb.drewN q) a4 b4 (ad.length + x4) (dd.length + y4) ad dd (by unfold maxLen; omega) ((p4.below hb).drewN_ q) ((q4.below hb).drewN_ q))
  have HP3 := Lib.hid (p3.below hb); have HQ3 := Lib.hid (q3.below hb)
  obtain ⟨n1, hn1⟩ : ∃ n1, cs.length = n1 := ⟨_, rfl⟩
  obtain ⟨n2, hn2⟩ : ∃ n2, cn.length = n2 := ⟨_, rfl⟩
  obtain ⟨n3, hn3⟩ : ∃ n3, es.length = n3 := ⟨_, rfl⟩
  obtain ⟨n4, hn4⟩ : ∃ n4, ad.length = n4 := ⟨_, rfl⟩
  obtain ⟨m1, hm1⟩ : ∃ m1, ds.length = m1 := ⟨_, rfl⟩
  obtain ⟨m2, hm2⟩ : ∃ m2, dn.length = m2 := ⟨_, rfl⟩
  obtain ⟨m4, hm4⟩ : ∃ m4, dd.length = m4 := ⟨_, rfl⟩
  rw [hn1, hm1] at HE1
  rw [hn2, hm2] at HE2
  rw [hn4, hm4] at HE4
  rw [hn1, hn2, hn3, hn4] at k1
  rw [hm1, hm2, hn3, hm4] at k2
  rw [hn1, hn2, hn3, hn4, hm1, hm2, hm4] at hwb
  rw [hn1, hn2, hn3, hn4, hm1, hm2, hm4]
  obtain ⟨x5, hx5⟩ : ∃ x5, n4 + x4 = x5 := ⟨_, rfl⟩
  obtain ⟨y5, hy5⟩ : ∃ y5, m4 + y4 = y5 := ⟨_, rfl⟩
  rw [hx5, hy5] at HE4 hwb
  rw [hx5] at k1
  rw [hy5] at k2
  rw [hx5, hy5]
  have hl3 : n3 ≤ 16384 := by rw [← hn3]; exact hc3
  have u0 : wb.cell? ⟨g1, 0, none⟩ = some (.slice a1 n1 x1) := k1.cell 0
  have u1 : wb.cell? ⟨g1, 1, none⟩ = some (.slice a2 n2 x2) := k1.cell 1
  have u2 : wb.cell? ⟨g1, 2, none⟩ = some (.slice a3 n3 x3) := k1.cell 2
  have u3 : wb.cell? ⟨g1, 3, none⟩ = some (.slice a4 n4 x5) := k1.cell 3
  have ul := k1.lt
  have v0 : wb.cell? ⟨g2, 0, none⟩ = some (.slice b1 m1 y1) := k2.cell 0
  have v1 : wb.cell? ⟨g2, 1, none⟩ = some (.slice b2 m2 y2) := k2.cell 1
  have v2 : wb.cell? ⟨g2, 2, none⟩ = some (.slice b3 n3 y3) := k2.cell 2
  have v3 : wb.cell? ⟨g2, 3, none⟩ = some (.slice b4 m4 y5) := k2.cell 3
  have vl := k2.lt
  have HWB := Lib.hid hwb; have HG1 := Lib.hid hg1; have HG2 := Lib.hid hg2
  have HN3 := Lib.hid hn3
  have HBD : Hid (∀ q, Below w.heap.size w (wb.drewN q)) := Lib.hid (fun q => hb.trans ((drew_below wb q).mono hb.size))
  clear hwb hg1 hg2 k1 k2 p1 p2 p3 p4 q1 q2 q3 q4 hb hc1 hc2 hc3 hc4 hd1 hd2 hd4 hn1 hn2 hn3 hn4 hm1 hm2 hm4 hx5 hy5
  go_enter Try.func19, Try.ntmps19
  go_upto_region 1 with (fail)
  rw [← HWB.out]
  try rw [← HG2.out]
  try rw [← HG1.out]
  cases hB1 : (cs == ds) with
  | false =>
    rw [hB1] at HE1
    have HRF : Hid (r = false) := Lib.hid (by rw [HSB.out, hB1]; rfl)
    clear hB1
    go_wp2_with fail
    refine (HE1.out 0).mono ?_
    rintro e w4 ⟨rfl, q, rfl⟩
    go_wp2_with fail
    go_ret
    exact ⟨by rw [HRF.out]; rfl, HBD.out _⟩
  | true =>
    rw [hB1] at HE1
    rw [hB1, Bool.true_and] at HSB
    clear hB1
    cases hB2 : (cn == dn) with
    | false =>
      rw [hB2] at HE2
      have HRF : Hid (r = false) := Lib.hid (by rw [HSB.out, hB2]; rfl)
      clear hB2
      go_wp2_with fail
      refine (HE1.out 0).mono ?_
      rintro e w4 ⟨rfl, q, rfl⟩
      go_wp2_with fail
      refine (HE2.out _).mono ?_
      rintro e w5 ⟨rfl, q2, rfl⟩
      go_wp2_with fail
      go_ret
      exact ⟨by rw [HRF.out]; rfl, HBD.out _⟩
    | true =>
      rw [hB2] at HE2
      rw [hB2, Bool.true_and] at HSB
      clear hB2
      cases hB3 : (ad == dd) with
      | false =>
        rw [hB3] at HE4
        have HRF : Hid (r = false) := Lib.hid (by rw [HSB.out, hB3])
        clear hB3
        go_wp2_with fail
        refine (HE1.out 0).mono ?_
        rintro e w4 ⟨rfl, q, rfl⟩
        go_wp2_with fail
        refine (HE2.out _).mono ?_
        rintro e w5 ⟨rfl, q2, rfl⟩
        go_wp2_with fail
        refine (HE4.out _).mono ?_
        rintro e w6 ⟨rfl, q3, rfl⟩
        go_wp2_with fail
        go_ret
        exact ⟨by rw [HRF.out]; rfl, HBD.out _⟩
      | true =>
        rw [hB3] at HE4
        have HRF : Hid (r = true) := Lib.hid (by rw [HSB.out, hB3])
        clear hB3
        go_wp2_with fail
        refine (HE1.out 0).mono ?_
        rintro e w4 ⟨rfl, q, rfl⟩
        go_wp2_with fail
        refine (HE2.out _).mono ?_
        rintro e w5 ⟨rfl, q2, rfl⟩
        go_wp2_with fail
        refine (HE4.out _).mono ?_
        rintro e w6 ⟨rfl, q3, rfl⟩
        go_wp2_with fail
        clear HE1 HE2 HE4
        go_loopg [5] n3 (fun mm x wr => ∃ i q : Nat, mm + i = n3 ∧ x = .int .i64 (i : Int) ∧ wr = wb.drewN q)
        case atStart => exact ⟨0, _, by omega, rfl, rfl⟩
        case round =>
          obtain ⟨i, q, hm, rfl, rfl⟩ := hrel
          have HM := Lib.hid hm
          clear hm
          by_cases hi : i < n3
          · obtain ⟨x, hx⟩ : ∃ x, es[i]? = some x := ⟨_, List.getElem?_eq_getElem (by rw [HN3.out]; exact hi)⟩
            obtain ⟨b8, o8, rfl, hl8, s0, s1, s2⟩ := HP3.out.key hx
            obtain ⟨b9, o9, rfl, hl9, t0, t1, t2⟩ := HQ3.out.key hx
            obtain ⟨z0, z1, z2⟩ := x
            simp only at s0 s1 s2 t0 t1 t2
            clear hx
            go_wp2_with fail
            go_quiet (fail)
            go_wp2_with fail
            go_roundg (n3 - (i + 1))
            case measure => have := HM.out; omega
            case rel => exact ⟨i + 1, _, by have := HM.out; omega, by go_num, rfl⟩
          · go_wp2_with fail
            go_ret
            exact ⟨by rw [HRF.out]; rfl, HBD.out _⟩
theorem rightB_same (c : Cl) (main : Int) : rightB c main = (mayC (c.comp.length : Int) main c.edges 62 && fitC c.comp.length main.toNat c.edges 62 && sameB c (numC c.comp.length main.toNat c.edges)) := by
  unfold rightB sameB
  simp only [Bool.and_assoc]
set_option maxRecDepth 100000 in
set_option maxHeartbeats 6400000 in
theorem rright_ok (w : World) (v : Value) (c : Cl) (main : Int) (h : ClAt w v c) (hl : ClLen c) :
    Calls Try.prog 46 #[v, .int .i64 main] w fun e w' => e = .returned (.bool (rightB c main)) ∧ Below w.heap.size w w' := by
  have HCW : Hid (∀ W, Below w.heap.size w W → ClAt W v c) := Lib.hid (fun W hW => h.below hW)
  have HLC := Lib.hid hl
  obtain ⟨a1, c1, a2, c2, a3, c3, a4, c4, rfl, h1, h2, h3, h4⟩ := h
  obtain ⟨r, hr⟩ : ∃ r, rightB c main = r := ⟨_, rfl⟩
  have HR0 := Lib.hid (hr.symm.trans (rightB_same c main))
  rw [hr]
  obtain ⟨c5, hc5⟩ : ∃ k, c.add.length + c4 = k := ⟨_, rfl⟩
  rw [hc5] at HCW ⊢
  obtain ⟨n1, hn1⟩ : ∃ n1, c.comp.length = n1 := ⟨_, rfl⟩
  obtain ⟨n2, hn2⟩ : ∃ n2, c.count.length = n2 := ⟨_, rfl⟩
  obtain ⟨n3, hn3⟩ : ∃ n3, c.edges.length = n3 := ⟨_, rfl⟩
  obtain ⟨n4, hn4⟩ : ∃ n4, c.add.length = n4 := ⟨_, rfl⟩
  obtain ⟨w1, hw1⟩ : ∃ w1, w1 = w.alloc (.cells #[.slice a1 n1 c1, .slice a2 n2 c2, .slice a3 n3 c3, .slice a4 n4 c5] 27) := ⟨_, rfl⟩
  have hb1 : Below w.heap.size w w1 := by rw [hw1]; exact (Below.refl _ _).alloc (Nat.le_refl _) _
  obtain ⟨g, hg⟩ : ∃ g, g = w.heap.size := ⟨_, rfl⟩
  have k1 : Blk w1 g 27 #[.slice a1 n1 c1, .slice a2 n2 c2, .slice a3 n3 c3, .slice a4 n4 c5] := by rw [hw1, hg]; exact Blk.new_ _ _ _
  have hnu := rnumber_ok w1 (c.comp.length : Int) main a3 c.edges c3 62 (by have := hl.edges; unfold maxLen; omega) (h3.below hb1)
  have hl1 : n1 ≤ 16384 := by rw [← hn1]; exact hl.comp
  have hl3 : n3 ≤ 16384 := by rw [← hn3]; exact hl.edges
  rw [hn1, hn3] at hnu
  rw [hn1] at HR0
  rw [hn1, hn2, hn3, hn4] at HCW ⊢
  have HNU := Lib.hid hnu
  have p0 : w1.cell? ⟨g, 0, none⟩ = some (.slice a1 n1 c1) := k1.cell 0
  have p2 : w1.cell? ⟨g, 2, none⟩ = some (.slice a3 n3 c3) := k1.cell 2
  have pl := k1.lt
  have HW1 := Lib.hid hw1; have HG := Lib.hid hg; have HB1 := Lib.hid hb1; have HK1 := Lib.hid k1; have HN3 := Lib.hid hn3
  clear hr h1 h2 h3 h4 hl hw1 hg hb1 k1 hn1 hn2 hn3 hn4 hc5 hnu
  go_enter Try.func46, Try.ntmps46
  go_upto_region 1 with (fail)
  rw [← HW1.out]
  try rw [← HG.out]
  go_wp2_with fail
  refine HNU.out.mono ?_
  rintro e w2 ⟨hb2, h | ⟨k, mn, wn, hk, hm, hw, hMay, h⟩⟩
  · obtain ⟨hmay, rfl⟩ := h
    have HB2 := Lib.hid (HB1.out.trans (hb2.mono HB1.out.size))
    have HRF : Hid (r = false) := Lib.hid (by rw [HR0.out, hmay]; rfl)
    unfold clNil
    clear hmay hb2 p0 p2 pl HNU
    go_wp2_with fail
    go_ret
    exact ⟨by rw [HRF.out]; rfl, HB2.out.alloc HB2.out.size _⟩
  · obtain rfl : n1 = k := by omega
    subst hm
    have hwn : wn = 62 := by omega
    subst hwn
    rw [Int.toNat_natCast] at HR0
    have hmay := mayN_to hMay
    rw [show ((62 : Nat) : Int) = 62 from rfl] at hmay
    rw [hmay, Bool.true_and] at HR0
    rcases h with ⟨hf, rfl⟩ | ⟨hf, v, rfl, hcl⟩
    · have HB2 := Lib.hid (HB1.out.trans (hb2.mono HB1.out.size))
      have HRF : Hid (r = false) := Lib.hid (by rw [HR0.out, hf]; rfl)
      unfold clNil
      clear hmay hf hb2 p0 p2 pl HNU hk hw
      go_wp2_with fail
      go_ret
      exact ⟨by rw [HRF.out]; rfl, HB2.out.alloc HB2.out.size _⟩
    · rw [hf, Bool.true_and] at HR0
      have HCD := Lib.hid hcl
      obtain ⟨e1, d1, e2, d2, e3, d3, e4, d4, rfl, _, _, _, _⟩ := hcl
      have hDL : ClLen (numC n1 mn c.edges) := ⟨by show (cmpZ n1 (edE c.edges)).length ≤ 16384; rw [cmpZ_len]; exact hl1, by show ((List.range n1).map _).length ≤ 16384; rw [List.length_map, List.length_range]; exact hl1, by show c.edges.length ≤ 16384; rw [HN3.out]; exact hl3, by show ((List.range c.edges.length).map _).length ≤ 16384; rw [List.length_map, List.length_range, HN3.out]; exact hl3⟩
      obtain ⟨m1, hm1⟩ : ∃ m1, (numC n1 mn c.edges).comp.length = m1 := ⟨_, rfl⟩
      obtain ⟨m2, hm2⟩ : ∃ m2, (numC n1 mn c.edges).count.length = m2 := ⟨_, rfl⟩
      obtain ⟨m3, hm3⟩ : ∃ m3, (numC n1 mn c.edges).edges.length = m3 := ⟨_, rfl⟩
      obtain ⟨m4, hm4⟩ : ∃ m4, (numC n1 mn c.edges).add.length = m4 := ⟨_, rfl⟩
      rw [hm1, hm2, hm3, hm4] at HCD ⊢
      obtain ⟨d5, hd5⟩ : ∃ d5, m4 + d4 = d5 := ⟨_, rfl⟩
      rw [hd5] at HCD ⊢
      obtain ⟨w3, hw3⟩ : ∃ w3, w3 = w2.alloc (.cells #[.slice e1 m1 d1, .slice e2 m2 d2, .slice e3 m3 d3, .slice e4 m4 d5] 27) := ⟨_, rfl⟩
      obtain ⟨g0, hg0⟩ : ∃ g0, g0 = w2.heap.size := ⟨_, rfl⟩
      have hb3 : Below w2.heap.size w2 w3 := by rw [hw3]; exact (Below.refl _ _).alloc (Nat.le_refl _) _
      have hb13 : Below w1.heap.size w1 w3 := hb2.trans (hb3.mono hb2.size)
      have k3 : Blk w3 g0 27 #[.slice e1 m1 d1, .slice e2 m2 d2, .slice e3 m3 d3, .slice e4 m4 d5] := by rw [hw3, hg0]; exact Blk.new_ _ _ _
      have kc := HK1.out.below hb13 HK1.out.lt
      have HB3 := Lib.hid (HB1.out.trans (hb13.mono HB1.out.size))
      have HSA := Lib.hid (sameC_ok w3 _ _ c (numC n1 mn c.edges) (HCW.out w3 HB3.out) (HCD.out.below hb3) rfl HLC.out hDL)
      rw [← HR0.out] at HSA
      have u0 : w3.cell? ⟨g, 0, none⟩ = some (.slice a1 n1 c1) := kc.cell 0
      have u1 : w3.cell? ⟨g, 1, none⟩ = some (.slice a2 n2 c2) := kc.cell 1
      have u2 : w3.cell? ⟨g, 2, none⟩ = some (.slice a3 n3 c3) := kc.cell 2
      have u3 : w3.cell? ⟨g, 3, none⟩ = some (.slice a4 n4 c5) := kc.cell 3
      have ul := kc.lt
      have v0 : w3.cell? ⟨g0, 0, none⟩ = some (.slice e1 m1 d1) := k3.cell 0
      have v1 : w3.cell? ⟨g0, 1, none⟩ = some (.slice e2 m2 d2) := k3.cell 1
      have v2 : w3.cell? ⟨g0, 2, none⟩ = some (.slice e3 m3 d3) := k3.cell 2
      have v3 : w3.cell? ⟨g0, 3, none⟩ = some (.slice e4 m4 d5) := k3.cell 3
      have vl := k3.lt
      have HW3 := Lib.hid hw3; have HG0 := Lib.hid hg0
      clear hm1 hm2 hm3 hm4 hd5 hw3 hg0 hb3 hb13 k3 kc hb2 p0 p2 pl HNU hk hw hmay hf hDL HCD
      go_upto_region 2 with (fail)
      rw [← HW3.out]
      try rw [← HG0.out]
      go_wp2_with fail
      refine HSA.out.mono ?_
      rintro e w7 ⟨rfl, hb7⟩
      have HB7 := Lib.hid (HB3.out.trans (hb7.mono HB3.out.size))
      clear hb7
      go_wp2_with fail
      go_ret
      exact ⟨rfl, HB7.out⟩
end Go.Proofs.Ytbancojknahdgaa
