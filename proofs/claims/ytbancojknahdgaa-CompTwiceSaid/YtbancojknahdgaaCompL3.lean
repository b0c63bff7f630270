/- CompTwice's walk. -/
import Derived.Test.YtbancojknahdgaaCompT
namespace Go.Proofs.Ytbancojknahdgaa
open Go.RowKit CP
set_option maxRecDepth 100000 in
set_option maxHeartbeats 25600000 in
theorem compTwice_walk (w : World) (z : Int) (_zw : (Lit.int .i64 z).wf = true) (ea : Option Addr) (c : Nat) (es : List (Int × Int)) (hlc : es.length ≤ c) (hmc : c ≤ maxLen) (hc0 : Cells w ea (es.flatMap pairCells)) (_wf : ∀ y ∈ es, wfI y.1 ∧ wfI y.2) (zt : Int) (_ztw : (Lit.int .i64 zt).wf = true) :
    Calls Try.prog 13 #[.int .i64 z, .slice ea es.length c, .int .i64 zt] w (FineC w) := by
  have HS := Lib.hid (some_ok w z ea es c (by omega) hc0)
  have hln := sE_len (sN z) es
  have HMAY := Lib.hid (sE_may z es)
  obtain ⟨hn1, hn2⟩ := sN_lt z
  have ht1 := b8_and zt
  have ht2 := b8_lt zt
  obtain ⟨T, hT⟩ : ∃ T, b8 zt = T := ⟨_, rfl⟩
  rw [hT] at ht1 ht2
  obtain ⟨N, hN⟩ : ∃ N, es.length = N := ⟨_, rfl⟩
  rw [hN] at HS ⊢
  clear hc0 hN hlc hmc hT
  obtain ⟨j0, hj0, yz0, yz1, yz2⟩ := info_parts pair_info
  go_enter Try.func13, Try.ntmps13
  go_wp2_with fail
  refine HS.out.mono ?_
  rintro e w1 ⟨hb1, y, rfl, hr1⟩
  obtain ⟨n, hn⟩ : ∃ n, sN z = n := ⟨_, rfl⟩
  rw [hn] at hr1 HMAY hln hn1 hn2 ⊢
  obtain ⟨l, hl⟩ : ∃ l, sE n es = l := ⟨_, rfl⟩
  rw [hl] at hr1 HMAY hln
  clear hn hl HS
  obtain ⟨L, hL⟩ : ∃ L, l.length = L := ⟨_, rfl⟩
  obtain ⟨la, lc, rfl, _, _, hlcells⟩ := Cells.of_own hr1
  have HLC := Lib.hid hlcells; have HB1 := Lib.hid hb1
  have HLL := Lib.hid hL
  rw [hL] at hln ⊢
  clear hr1 hlcells hb1 hL
  go_wp2_with fail
  go_loopg [9, 10] (2 * L) (fun m y x wr => ∃ i : Nat, m + i = 2 * L ∧ x = .int .i64 (i : Int) ∧ Below w1.heap.size w1 wr ∧ wr.ownsRow w1.heap.size 64 2 y i ((morL l T i).flatMap pairCells))
  case atStart => exact ⟨0, rfl, rfl, Below.refl _ _, World.ownsRow_nil _ _ _ _⟩
  case round =>
    obtain ⟨i, hm2, rfl, hb, hrow⟩ := hrel
    have HM := Lib.hid hm2; have HB := Lib.hid hb; have HROW := Lib.hid hrow
    have hws : w1.heap.size ≤ wr.heap.size := hb.size
    clear hm2 hb hrow
    by_cases hi : i < 2 * L
    · have hL0 : ¬ L = 0 := by omega
      obtain ⟨r, hr⟩ : ∃ r, (i + T) % L = r := ⟨_, rfl⟩
      have hrl : r < L := by rw [← hr]; exact Nat.mod_lt _ (by omega)
      have t0 : ((i : Int) + (T : Int)).tmod (L : Int) = (r : Int) := by rw [← hr]; rfl
      obtain ⟨x, hx⟩ : ∃ x, l[r]? = some x := ⟨_, List.getElem?_eq_getElem (by rw [HLL.out]; exact hrl)⟩
      obtain ⟨b, off, hla, hbl, k0, k1⟩ := (HLC.out.below HB.out).pair hx
      subst hla
      have HNX := Lib.hid (morL_next (l := l) (T := T) (i := i) (x := x) (by rw [HLL.out, hr]; exact hx))
      obtain ⟨x0, x1⟩ := x
      simp only at k0 k1
      clear hr hx
      go_wp2_with (at_builtin; refine wpList_append_sep rfl (.tmp 38) (.tmp 49) 54 rfl w1.heap.size 64 j0 (.agg #[.int .i64 0, .int .i64 0]) 2 16 Try.underlying54 hj0 yz0 yz1 yz2 rfl (by decide) u9 i _ rfl (HROW.out.alloc _) wr.heap.size 0 1 1 [.int .i64 x0, .int .i64 x1] rfl rfl (pair_lits0 _ _ _ _) (pair_ones _ _) (by unfold maxLen; omega) (by omega) (by simp; omega) ?_)
      intro y7 w7 hown hg7 hsep
      have HR7 : Hid (w7.ownsRow w1.heap.size 64 2 y7 (i + 1) ((morL l T (i + 1)).flatMap pairCells)) := Lib.hid (by rw [HNX.out, ← pairs_snoc]; exact hown)
      have HB7 : Hid (Below w1.heap.size w1 w7) := Lib.hid ((HB.out.alloc hws (.cells #[.int .i64 x0, .int .i64 x1] 64)).grown hg7 (Nat.le_trans hws (Nat.le_of_lt (by simp))) (fun j hj => (HROW.out.lt j hj).1))
      clear hown hg7 hsep HROW HB
      go_wp2_with fail
      go_roundg (2 * L - (i + 1))
      case measure => have := HM.out; omega
      case rel => exact ⟨i + 1, by have := HM.out; omega, by go_num, HB7.out, HR7.out⟩
    · have hiL : i = 2 * L := by have := HM.out; omega
      have hrow2 := HROW.out
      rw [hiL, ← HLL.out] at hrow2
      obtain ⟨ya, yc, rfl, _, _, hyc⟩ := Cells.of_own hrow2
      rw [HLL.out, ← hiL]
      have HYC := Lib.hid hyc
      obtain ⟨M, hM⟩ : ∃ M, morL l T (2 * l.length) = M := ⟨_, rfl⟩
      have hMm := morL_may HMAY.out (by rw [HLL.out]; omega) T
      have hME := morE_mem l T
      have hMl := morL_len l T (2 * l.length)
      rw [hM] at HYC hMm hME hMl
      rw [HLL.out, ← hiL] at hMl
      have HMM := Lib.hid hMm; have HMEM := Lib.hid hME; have HML := Lib.hid hMl
      obtain ⟨w2, hw2⟩ : ∃ w2, w2 = wr := ⟨_, rfl⟩
      rw [← hw2] at HYC HB ⊢
      have HB2 := Lib.hid (HB1.out.trans (HB.out.mono HB1.out.size))
      have HLC2 := Lib.hid (HLC.out.below HB.out)
      have hcs := comps_ok w2 (n : Int) la l lc (by rw [HLL.out]; unfold maxLen; omega) HLC2.out
      rw [HLL.out] at hcs
      have HC := Lib.hid hcs
      have HIL := Lib.hid hiL
      clear hrow2 hyc hM hMm hME hMl hw2 HROW HB HB1 HLC hcs hiL
      go_wp2_with fail
      refine HC.out.mono ?_
      rintro e w3 ⟨hb3, h | h⟩
      · exact absurd h.1 (by rw [HMAY.out]; decide)
      obtain ⟨_, y3, rfl, hr3⟩ := h
      rw [Int.toNat_natCast] at hr3
      obtain ⟨E, hE⟩ : ∃ E, natE l = E := ⟨_, rfl⟩
      have hEO := may_ok HMAY.out
      rw [hE] at hr3 hEO
      have HEO := Lib.hid hEO; have HE := Lib.hid hE
      obtain ⟨ca, cc, rfl, _, _, hcc⟩ := Cells.of_own hr3
      have HCC : Hid (Cells w3 ca (zV (cmpZ n E))) := Lib.hid (by
        rw [iV_z, List.map_map] at hcc; exact hcc)
      have HB3 := Lib.hid (HB2.out.trans (hb3.mono HB2.out.size))
      have HLC3 := Lib.hid (HLC2.out.below hb3)
      have HYC3 := Lib.hid (HYC.out.below hb3)
      have hcs := comps_ok w3 (n : Int) ya M yc (by rw [HML.out]; have := HIL.out; unfold maxLen; omega) HYC3.out
      rw [HML.out] at hcs
      have HC2 := Lib.hid hcs
      clear hr3 hE hEO hcc hb3 HC HB2 HLC2 HYC hcs
      go_wp2_with fail
      refine HC2.out.mono ?_
      rintro e w4 ⟨hb4, h | h⟩
      · exact absurd h.1 (by rw [HMM.out]; decide)
      obtain ⟨_, y4, rfl, hr4⟩ := h
      rw [Int.toNat_natCast] at hr4
      obtain ⟨cb, cd, rfl, _, _, hcd⟩ := Cells.of_own hr4
      have HCD : Hid (Cells w4 cb (zV (cmpZ n E))) := Lib.hid (by
        rw [iV_z, List.map_map] at hcd
        have e : cmpZ n E = (List.range n).map ((fun k : Nat => (k : Int)) ∘ cmp n (natE M)) := by
          unfold cmpZ
          refine List.map_congr_left fun v _ => ?_
          show _ = (cmp n (natE M) v : Int)
          rw [← HE.out, cmp_congr HMEM.out v]
        rw [e]; exact hcd)
      have HB4 := Lib.hid (HB3.out.trans (hb4.mono HB3.out.size))
      have HLC4 := Lib.hid (HLC3.out.below hb4)
      have HCC4 := Lib.hid (HCC.out.below hb4)
      have hsi := sameInts_ok w4 ca cb cc cd (cmpZ n E) (cmpZ n E) (by rw [cmpZ_len]; unfold maxLen; omega) HCC4.out HCD.out
      rw [cmpZ_len, beq_iff_eq.2 rfl] at hsi
      have HSI := Lib.hid hsi
      clear hr4 hcd hb4 hsi HB3 HLC3 HYC3 HCC HC2
      go_wp2_with fail
      refine HSI.out.mono ?_
      rintro e w5 ⟨rfl, hw5⟩
      have hb5 : Below w4.heap.size w4 w5 := by obtain ⟨q, rfl⟩ := hw5; exact drew_below w4 q
      have HB5 := Lib.hid (HB4.out.trans (hb5.mono HB4.out.size))
      have HLC5 := Lib.hid (HLC4.out.below hb5)
      have HCC5 := Lib.hid (HCC4.out.below hb5)
      have hme := members_ok w5 ca (cmpZ n E) cc (by rw [cmpZ_len]; omega) HCC5.out
      rw [cmpZ_len] at hme
      have HME := Lib.hid hme
      clear hw5 hb5 HB4 HLC4 HCC4 HCD hme HSI
      go_wp2_with fail
      refine HME.out.mono ?_
      rintro e w6 ⟨hb6, h | h⟩
      · exact absurd h.1 (by rw [cmpZ_ok HEO.out (by omega)]; decide)
      obtain ⟨_, ma, mc, rfl, hra⟩ := h
      clear hra
      have hK1 : ∀ v, v < n → cmp n E v < topN (cmpZ n E) := fun v hv => (cmpZ_top HEO.out hv).1
      have hK2 : topN (cmpZ n E) ≤ n := (cmpZ_top HEO.out (v := 0) (by omega)).2
      obtain ⟨K, hK⟩ : ∃ K, topN (cmpZ n E) = K := ⟨_, rfl⟩
      rw [hK] at hK1 hK2 ⊢
      obtain ⟨C, hC⟩ : ∃ C : Nat → Nat, cmp n E = C := ⟨_, rfl⟩
      have HB6 := Lib.hid (HB5.out.trans (hb6.mono HB5.out.size))
      have HLC6 := Lib.hid (HLC5.out.below hb6)
      have HCC6 : Hid (Cells w6 ca (iV ((List.range n).map C))) := Lib.hid (by
        have h := HCC5.out.below hb6
        rw [iV_z, List.map_map, ← hC]; exact h)
      have HCE : Hid (∀ e ∈ natE l, C e.1 ≤ C e.2) := Lib.hid (fun e he => by rw [HE.out] at he; rw [← hC]; exact cmp_edge HEO.out he)
      have HCK : Hid (∀ v, v < n → C v < K) := Lib.hid (by rw [← hC]; exact hK1)
      clear hK hK1 hC hb6 HB5 HLC5 HCC5 HME
      go_wp2_with fail
      go_loopg [17, 18] L (fun m y x wr => ∃ i : Nat, m + i = L ∧ x = .int .i64 (i : Int) ∧ Below w6.heap.size w6 wr ∧ wr.ownsRow w6.heap.size 64 2 y (smL C (l.take i)).length ((smL C (l.take i)).flatMap pairCells))
      case atStart => exact ⟨0, rfl, rfl, Below.refl _ _, World.ownsRow_nil _ _ _ _⟩
      case round =>
        obtain ⟨i, hm2, rfl, hb, hrow⟩ := hrel
        have HM2 := Lib.hid hm2; have HB := Lib.hid hb; have HROW := Lib.hid hrow
        have hws : w6.heap.size ≤ wr.heap.size := hb.size
        clear hm2 hb hrow
        by_cases hi : i < L
        · obtain ⟨x, hx⟩ : ∃ x, l[i]? = some x := ⟨_, List.getElem?_eq_getElem (by rw [HLL.out]; exact hi)⟩
          obtain ⟨b, off, hla, hbl, k0, k1⟩ := (HLC6.out.below HB.out).pair hx
          obtain ⟨u, v, rfl, hu, hv, huv⟩ := may_at HMAY.out hx
          subst hla
          simp only at k0 k1
          obtain ⟨b2, off2, hca, hbl2, q0⟩ := (HCC6.out.below HB.out).at_ (iVr_at C hu)
          subst hca
          obtain ⟨b3, off3, hca3, _, q1⟩ := (HCC6.out.below HB.out).at_ (iVr_at C hv)
          injection hca3 with hca3
          injection hca3 with e1 e2 _
          subst e1 e2
          have hnx := smL_next (C := C) hx
          obtain ⟨X, hX⟩ : ∃ X, C u = X := ⟨_, rfl⟩
          obtain ⟨Y, hY⟩ : ∃ Y, C v = Y := ⟨_, rfl⟩
          rw [hX] at q0 hnx
          rw [hY] at q1 hnx
          have HXY := Lib.hid hnx
          clear hx huv hX hY hnx
          by_cases hxy : X = Y
          · subst hxy
            have HR2 : Hid (smL C (l.take (i + 1)) = smL C (l.take i)) := Lib.hid (by rw [HXY.out, if_pos rfl, List.append_nil])
            go_wp2_with fail
            go_quiet (fail)
            go_wp2_with fail
            go_roundg (L - (i + 1))
            case measure => have := HM2.out; omega
            case rel => exact ⟨i + 1, by have := HM2.out; omega, by go_num, HB.out.trans ((drew_below wr _).mono HB.out.size), by rw [HR2.out]; exact HROW.out⟩
          · have HR2 : Hid (smL C (l.take (i + 1)) = smL C (l.take i) ++ [((X : Int), (Y : Int))]) := Lib.hid (by rw [HXY.out, if_neg hxy])
            have d1 : (X != Y) = true := by simpa using hxy
            have d3 : ((X : Int) != (Y : Int)) = true := by rw [bne_iff_ne]; omega
            have hsl := smL_len C (l.take i)
            rw [List.length_take, HLL.out] at hsl
            obtain ⟨q, hq⟩ : ∃ q, (smL C (l.take i)).length = q := ⟨_, rfl⟩
            rw [hq] at hsl
            have hrq := HROW.out
            rw [hq] at hrq
            have HRQ := Lib.hid hrq; have HQQ := Lib.hid hq
            clear hrq hq HXY HROW
            go_wp2_with fail
            go_quiet (fail)
            obtain ⟨w7, hw7⟩ : ∃ w7, w7 = wr.drewN nq := ⟨_, rfl⟩
            rw [← hw7]
            have hb7 : Below wr.heap.size wr w7 := by rw [hw7]; exact drew_below wr nq
            have hr7 : w7.ownsRow w6.heap.size 64 2 u17 q ((smL C (l.take i)).flatMap pairCells) := by rw [hw7]; exact HRQ.out
            have HB7 := Lib.hid (HB.out.trans (hb7.mono hws))
            have HR7 := Lib.hid hr7
            have hws7 : w6.heap.size ≤ w7.heap.size := HB7.out.size
            clear hw7 hb7 hr7 HRQ HB k0 k1 q0 q1
            go_wp2_with (at_builtin; refine wpList_append_sep rfl (.tmp 113) (.tmp 117) 54 rfl w6.heap.size 64 j0 (.agg #[.int .i64 0, .int .i64 0]) 2 16 Try.underlying54 hj0 yz0 yz1 yz2 rfl (by decide) u17 q _ rfl (HR7.out.alloc _) w7.heap.size 0 1 1 [.int .i64 (X : Int), .int .i64 (Y : Int)] rfl rfl (pair_lits0 _ _ _ _) (pair_ones _ _) (by unfold maxLen; omega) (by omega) (by simp; omega) ?_)
            intro y8 w8 hown hg8 hsep
            have HR8 : Hid (w8.ownsRow w6.heap.size 64 2 y8 (smL C (l.take (i + 1))).length ((smL C (l.take (i + 1))).flatMap pairCells)) := Lib.hid (by
              rw [HR2.out, List.length_append, HQQ.out, ← pairs_snoc]; exact hown)
            have HB8 : Hid (Below w6.heap.size w6 w8) := Lib.hid ((HB7.out.alloc hws7 (.cells #[.int .i64 (X : Int), .int .i64 (Y : Int)] 64)).grown hg8 (Nat.le_trans hws7 (Nat.le_of_lt (by simp))) (fun j hj => (HR7.out.lt j hj).1))
            clear hown hg8 hsep HR7 HB7
            go_wp2_with fail
            go_roundg (L - (i + 1))
            case measure => have := HM2.out; omega
            case rel => exact ⟨i + 1, by have := HM2.out; omega, by go_num, HB8.out, HR8.out⟩
        · have htk : l.take i = l := List.take_of_length_le (by rw [HLL.out]; omega)
          have hrow := HROW.out
          rw [htk] at hrow
          have hsm := smL_may (C := C) HMAY.out HCK.out (by omega)
          have hsl := smL_len C l
          rw [HLL.out] at hsl
          have hbo : ∀ a b, both (natE (smL C l)) a b = true → a = b := fun a b h => smL_both HMAY.out HCE.out h
          obtain ⟨S, hS⟩ : ∃ S, smL C l = S := ⟨_, rfl⟩
          rw [hS] at hrow hsm hsl hbo
          obtain ⟨sa, sc, rfl, _, _, hsc⟩ := Cells.of_own hrow
          have hcs := comps_ok wr (K : Int) sa S sc (by unfold maxLen; omega) hsc
          obtain ⟨q, hq⟩ : ∃ q, S.length = q := ⟨_, rfl⟩
          rw [hq] at hcs hsl ⊢
          have HC := Lib.hid hcs; have HSM := Lib.hid hsm; have HBO := Lib.hid hbo
          have HB7 := Lib.hid (HB6.out.trans (HB.out.mono HB6.out.size))
          clear htk hrow hsm hS hsc hq hcs hbo HROW HB
          go_wp2_with fail
          refine HC.out.mono ?_
          rintro e w8 ⟨hb8, h | h⟩
          · exact absurd h.1 (by rw [HSM.out]; decide)
          obtain ⟨_, y8, rfl, hr8⟩ := h
          rw [Int.toNat_natCast] at hr8
          obtain ⟨da, dc, rfl, _, _, hdc⟩ := Cells.of_own hr8
          have HD : Hid (∀ i k, i < K → k < K → cmp K (natE S) i = cmp K (natE S) k → i = k) := Lib.hid (fun i k hi hk h => HBO.out i k ((cmp_same (may_ok HSM.out) hi hk).1 h))
          obtain ⟨D, hD⟩ : ∃ D : Nat → Nat, cmp K (natE S) = D := ⟨_, rfl⟩
          rw [hD] at hdc HD
          have HDC := Lib.hid hdc
          have HB8 := Lib.hid (HB7.out.trans (hb8.mono HB7.out.size))
          clear hr8 hdc hD hb8 HB7 HC
          go_wp2_with fail
          go_loopg [23] K (fun m x wr => ∃ i : Nat, m + i = K ∧ x = .int .i64 (i : Int) ∧ ∃ q, wr = w8.drewN q)
          case atStart => exact ⟨0, rfl, rfl, 0, rfl⟩
          case round =>
            obtain ⟨i, hm4, rfl, hq4⟩ := hrel
            have HM4 := Lib.hid hm4; have HQ4 := Lib.hid hq4
            clear hm4 hq4
            by_cases hi : i < K
            · go_wp2_with fail
              go_loopg [24] i (fun m x wr => ∃ k : Nat, m + k = i ∧ x = .int .i64 (k : Int) ∧ ∃ q, wr = w8.drewN q)
              case atStart => exact ⟨0, rfl, rfl, HQ4.out⟩
              case round =>
                obtain ⟨k, hm5, rfl, hq5⟩ := hrel
                have HM5 := Lib.hid hm5; have HQ5 := Lib.hid hq5
                have HBW : Hid (Below w8.heap.size w8 wr) := Lib.hid (by obtain ⟨q, rfl⟩ := hq5; exact drew_below w8 q)
                clear hm5 hq5 HQ4
                by_cases hk : k < i
                · have hkK : k < K := by omega
                  obtain ⟨b2, off2, hda, hbl2, q0⟩ := (HDC.out.below HBW.out).at_ (iVr_at D hi)
                  obtain ⟨b3, off3, hda3, _, q1⟩ := (HDC.out.below HBW.out).at_ (iVr_at D hkK)
                  subst hda
                  injection hda3 with hda3
                  injection hda3 with e1 e2 _
                  subst e1 e2
                  have hne : D i ≠ D k := fun h => by have := HD.out i k hi hkK h; omega
                  obtain ⟨X, hX⟩ : ∃ X, D i = X := ⟨_, rfl⟩
                  obtain ⟨Y, hY⟩ : ∃ Y, D k = Y := ⟨_, rfl⟩
                  rw [hX] at q0 hne
                  rw [hY] at q1 hne
                  have d1 : (X == Y) = false := by simpa using hne
                  have d3 : ((X : Int) == (Y : Int)) = false := by rw [beq_eq_false_iff_ne]; omega
                  clear hX hY hne
                  go_wp2_with fail
                  go_quiet (fail)
                  go_wp2_with fail
                  go_roundg (i - (k + 1))
                  case measure => have := HM5.out; omega
                  case rel => exact ⟨k + 1, by have := HM5.out; omega, by go_num, drew_more HQ5.out _⟩
                · go_wp2_with fail
                  go_roundg (K - (i + 1))
                  case measure => have := HM4.out; omega
                  case rel => exact ⟨i + 1, by have := HM4.out; omega, by go_num, HQ5.out⟩
            · have HB9 : Hid (Below w.heap.size w wr) := Lib.hid (by
                obtain ⟨q, rfl⟩ := HQ4.out
                exact HB8.out.trans ((drew_below w8 q).mono HB8.out.size))
              go_wp2_with fail
              refine (awake19 wr).mono ?_
              rintro e w9 ⟨rfl, hb9⟩
              have HB10 := Lib.hid hb9
              clear hb9
              go_wp2_with fail
              go_ret
              exact ⟨rfl, HB9.out.trans (HB10.out.mono HB9.out.size)⟩
end Go.Proofs.Ytbancojknahdgaa
