/- CompMore's walk. -/
import Derived.Test.YtbancojknahdgaaCompL1
namespace Go.Proofs.Ytbancojknahdgaa
open Go.RowKit CP
theorem rc_more {E E' : Ed} (h : ∀ e, e ∈ E → e ∈ E') {a b : Nat} (hr : rcB E a b = true) : rcB E' a b = true := by
  rw [rcB_iff] at hr ⊢
  induction hr with
  | refl => exact Rc.refl
  | tail _ hx ih => exact ih.tail (mem_gr.2 (h _ (mem_gr.1 hx)))
theorem may_snoc {n : Nat} {l : List (Int × Int)} (h : mayG (n : Int) l = true) (hl : l.length ≤ 100) {a b : Nat} (ha : a < n) (hb : b < n) : mayG (n : Int) (l ++ [((a : Int), (b : Int))]) = true := by
  unfold mayG at h ⊢
  simp only [Bool.and_eq_true, decide_eq_true_eq] at h
  rw [List.all_append, h.2, List.length_append]
  unfold edZ
  simp; omega
theorem pairs_ones (l : List (Int × Int)) : ∀ u ∈ l.flatMap pairCells, u.oneCell' = true := by
  intro u hu
  obtain ⟨x, _, hx⟩ := List.mem_flatMap.1 hu
  unfold pairCells at hx
  simp at hx
  rcases hx with rfl | rfl <;> rfl
theorem pairs_len (l : List (Int × Int)) : (l.flatMap pairCells).length = l.length * 2 := by
  induction l with
  | nil => rfl
  | cons x t ih => rw [List.flatMap_cons, List.length_append, ih, List.length_cons]; unfold pairCells; simp; omega
theorem pairs_snoc (l : List (Int × Int)) (a b : Int) : l.flatMap pairCells ++ [.int .i64 a, .int .i64 b] = (l ++ [(a, b)]).flatMap pairCells := by
  rw [List.flatMap_append]; rfl
theorem cmp_more {n : Nat} {E F : Ed} (hE : EdOk E n) (hF : EdOk F n) (h : ∀ e, e ∈ E → e ∈ F) {i k : Nat} (hi : i < n) (hk : k < n) (he : cmp n E i = cmp n E k) : cmp n F i = cmp n F k := by
  rw [cmp_same hE hi hk, both_and, Bool.and_eq_true] at he
  rw [cmp_same hF hi hk, both_and, Bool.and_eq_true]
  exact ⟨rc_more h he.1, rc_more h he.2⟩
theorem reach_more {n : Nat} {E F : Ed} (h : ∀ e, e ∈ E → e ∈ F) {i k : Nat} (hk : k ∈ reachL n E i) : k ∈ reachL n F i := by
  unfold reachL at hk ⊢
  obtain ⟨h1, h2⟩ := List.mem_filter.1 hk
  exact List.mem_filter.2 ⟨h1, rc_more h h2⟩
set_option maxRecDepth 100000 in
set_option maxHeartbeats 25600000 in
theorem compMore_walk (w : World) (z : Int) (_zw : (Lit.int .i64 z).wf = true) (ea : Option Addr) (c : Nat) (es : List (Int × Int)) (hlc : es.length ≤ c) (hmc : c ≤ maxLen) (hc0 : Cells w ea (es.flatMap pairCells)) (_wf : ∀ y ∈ es, wfI y.1 ∧ wfI y.2) (x0 x1 : Int) :
    Calls Try.prog 15 #[.int .i64 z, .slice ea es.length c, .agg #[.int .i64 x0, .int .i64 x1]] w (FineC w) := by
  have hal : ∀ (W : World) (o : Obj), Below W.heap.size W (W.alloc o) := fun W o => (Below.refl _ _).alloc (Nat.le_refl _) o
  have HAL := Lib.hid hal
  clear hal
  have HS := Lib.hid (some_ok (w.alloc (.cells #[.int .i64 x0, .int .i64 x1] 64)) z ea es c (by omega) (hc0.below (HAL.out _ _)))
  have hln := sE_len (sN z) es
  have HMAY := Lib.hid (sE_may z es)
  obtain ⟨hn1, hn2⟩ := sN_lt z
  obtain ⟨N, hN⟩ : ∃ N, es.length = N := ⟨_, rfl⟩
  rw [hN] at HS ⊢
  clear hc0 hN hlc hmc
  go_enter Try.func15, Try.ntmps15
  go_wp2_with fail
  refine HS.out.mono ?_
  rintro e w1 ⟨hb1, y, rfl, hr1⟩
  have HBX : Hid (Blk w1 w.heap.size 64 #[.int .i64 x0, .int .i64 x1]) := Lib.hid ((Blk.new_ w _ _).below hb1 (by simp))
  obtain ⟨n, hn⟩ : ∃ n, sN z = n := ⟨_, rfl⟩
  rw [hn] at hr1 HMAY hln hn1 hn2 ⊢
  obtain ⟨l, hl⟩ : ∃ l, sE n es = l := ⟨_, rfl⟩
  rw [hl] at hr1 HMAY hln
  clear hn hl HS
  obtain ⟨L, hL⟩ : ∃ L, l.length = L := ⟨_, rfl⟩
  obtain ⟨la, lc, rfl, _, _, hlcells⟩ := Cells.of_own hr1
  have HLC := Lib.hid hlcells
  have HB1 : Hid (Below w.heap.size w w1) := Lib.hid ((HAL.out w _).trans (hb1.mono (by simp)))
  have HLL := Lib.hid hL
  rw [hL] at hln ⊢
  clear hr1 hlcells hb1 hL
  have c0 : w1.cell? ⟨w.heap.size, 0, none⟩ = some (.int .i64 x0) := HBX.out.cell 0
  have c1 : w1.cell? ⟨w.heap.size, 1, none⟩ = some (.int .i64 x1) := HBX.out.cell 1
  have cl := HBX.out.lt
  have a0 := b8_and x0; have a1 := b8_and x1
  have l0 := b8_lt x0; have l1 := b8_lt x1
  obtain ⟨X0, hX0⟩ : ∃ X0, b8 x0 = X0 := ⟨_, rfl⟩
  obtain ⟨X1, hX1⟩ : ∃ X1, b8 x1 = X1 := ⟨_, rfl⟩
  rw [hX0] at a0 l0
  rw [hX1] at a1 l1
  clear hX0 hX1
  obtain ⟨r0, hr0⟩ : ∃ r0, X0 % n = r0 := ⟨_, rfl⟩
  obtain ⟨r1, hr1⟩ : ∃ r1, X1 % n = r1 := ⟨_, rfl⟩
  have t0 : (X0 : Int).tmod (n : Int) = (r0 : Int) := by rw [← hr0]; rfl
  have t1 : (X1 : Int).tmod (n : Int) = (r1 : Int) := by rw [← hr1]; rfl
  have m0 : r0 < n := by rw [← hr0]; exact Nat.mod_lt _ (by omega)
  have m1 : r1 < n := by rw [← hr1]; exact Nat.mod_lt _ (by omega)
  have hn0 : ¬ n = 0 := by omega
  clear hr0 hr1
  go_upto_region 2 with (fail)
  have HM0 : Hid (r0 < n ∧ r1 < n) := Lib.hid ⟨m0, m1⟩
  clear m0 m1
  go_region
  obtain ⟨w2, hw2⟩ : ∃ w2, w2 = (w1.alloc (.cells #[.int .i64 (r0 : Int), .int .i64 (r1 : Int)] 64)).drew := ⟨_, rfl⟩
  obtain ⟨bx, hbx⟩ : ∃ bx, bx = w1.heap.size := ⟨_, rfl⟩
  rw [← hw2]
  have hb2 : Below w1.heap.size w1 w2 := by rw [hw2]; exact (HAL.out w1 _).drew
  have hbk : Blk w2 bx 64 #[.int .i64 (r0 : Int), .int .i64 (r1 : Int)] := by rw [hw2, hbx]; exact (Blk.new_ w1 _ _).drew_
  have HBK := Lib.hid hbk
  have HLC2 := Lib.hid (HLC.out.below hb2)
  have HB2 := Lib.hid (HB1.out.trans (hb2.mono HB1.out.size))
  rw [← hbx]
  have hbxl := hbk.lt
  clear hw2 hbx c0 c1 cl a0 a1 l0 l1 t0 t1 hbk hb2 HBX HB1 HLC
  obtain ⟨j0, hj0, yz0, yz1, yz2⟩ := info_parts pair_info
  go_wp2_with (at_builtin; refine wpList_append_src rfl (.tmp 39) (.tmp 40) 54 rfl w2.heap.size 64 j0 (.agg #[.int .i64 0, .int .i64 0]) 2 16 Try.underlying54 hj0 yz0 yz1 yz2 rfl (by decide) (.slice none 0 0) 0 [] rfl (World.ownsRow_nil _ _ _ _) la L lc (l.flatMap pairCells) rfl (by rw [pairs_len, HLL.out]) HLC2.out (pairs_ones l) (by unfold maxLen; omega) (by omega) (Nat.le_refl _) ?_)
  intro y3 w3 hown3 hg3 hnil3
  have hb3 : Below w2.heap.size w2 w3 := (Below.refl w2.heap.size w2).grown hg3 (Nat.le_refl _) (fun j hj => by cases hj)
  have HROW3 := Lib.hid hown3
  have hw2s := HB2.out.size
  have HBK3 := Lib.hid (HBK.out.below hb3 HBK.out.lt)
  have HB3 := Lib.hid hb3
  have hsz3 : w2.heap.size ≤ w3.heap.size := hb3.size
  have c0 : w3.cell? ⟨bx, 0, none⟩ = some (.int .i64 (r0 : Int)) := HBK3.out.cell 0
  have c1 : w3.cell? ⟨bx, 1, none⟩ = some (.int .i64 (r1 : Int)) := HBK3.out.cell 1
  have cl := HBK3.out.lt
  clear hown3 hg3 hnil3 hb3 HBK hbxl
  go_wp2_with (at_builtin; refine wpList_append_sep rfl (.tmp 42) (.tmp 44) 54 rfl w2.heap.size 64 j0 (.agg #[.int .i64 0, .int .i64 0]) 2 16 Try.underlying54 hj0 yz0 yz1 yz2 rfl (by decide) y3 L _ rfl (HROW3.out.alloc _) w3.heap.size 0 1 1 [.int .i64 (r0 : Int), .int .i64 (r1 : Int)] rfl rfl (pair_lits0 _ _ _ _) (pair_ones _ _) (by unfold maxLen; omega) (by omega) (by simp; omega) ?_)
  intro y4 w4 hown4 hg4 hsep4
  rw [pairs_snoc] at hown4
  have hb4 : Below w2.heap.size w3 w4 := ((Below.refl w2.heap.size w3).alloc hsz3 (.cells #[.int .i64 (r0 : Int), .int .i64 (r1 : Int)] 64)).grown hg4 (by simp; omega) (fun j hj => (HROW3.out.lt j hj).1)
  have hb24 := HB3.out.trans hb4
  have HB4 := Lib.hid (HB2.out.trans (hb24.mono HB2.out.size))
  have HLC4 := Lib.hid (HLC2.out.below hb24)
  obtain ⟨ya, yc, rfl, _, _, hyc⟩ := Cells.of_own hown4
  obtain ⟨M, hM⟩ : ∃ M, l ++ [((r0 : Int), (r1 : Int))] = M := ⟨_, rfl⟩
  rw [hM] at hyc
  have HYC := Lib.hid hyc
  have HML : Hid (M.length = L + 1) := Lib.hid (by rw [← hM, List.length_append, HLL.out]; rfl)
  have HMM : Hid (mayG (n : Int) M = true) := Lib.hid (by rw [← hM]; exact may_snoc HMAY.out (by rw [HLL.out]; exact hln) HM0.out.1 HM0.out.2)
  have HMEM : Hid (∀ e, e ∈ natE l → e ∈ natE M) := Lib.hid (fun e he => by
    rw [← hM]; unfold natE at he ⊢
    rw [List.map_append]; exact List.mem_append.2 (.inl he))
  have hcs := comps_ok w4 (n : Int) la l lc (by rw [HLL.out]; unfold maxLen; omega) HLC4.out
  rw [HLL.out] at hcs
  have HC := Lib.hid hcs
  clear hown4 hg4 hsep4 hb4 hb24 hyc hM hcs c0 c1 cl HBK3 HROW3 HB3 HB2 HLC2 hsz3 hw2s
  go_wp2_with fail
  refine HC.out.mono ?_
  rintro e w5 ⟨hb5, h | h⟩
  · exact absurd h.1 (by rw [HMAY.out]; decide)
  obtain ⟨_, y5, rfl, hr5⟩ := h
  rw [Int.toNat_natCast] at hr5
  have HEO := Lib.hid (may_ok HMAY.out)
  have HFO := Lib.hid (may_ok HMM.out)
  obtain ⟨ca, cc, rfl, _, _, hcc⟩ := Cells.of_own hr5
  have HCC := Lib.hid hcc
  have HB5 := Lib.hid (HB4.out.trans (hb5.mono HB4.out.size))
  have HLC5 := Lib.hid (HLC4.out.below hb5)
  have HYC5 := Lib.hid (HYC.out.below hb5)
  have hcs := comps_ok w5 (n : Int) ya M yc (by rw [HML.out]; unfold maxLen; omega) HYC5.out
  rw [HML.out] at hcs
  have HC2 := Lib.hid hcs
  clear hr5 hcc hb5 HB4 HLC4 HYC hcs HC
  go_wp2_with fail
  refine HC2.out.mono ?_
  rintro e w6 ⟨hb6, h | h⟩
  · exact absurd h.1 (by rw [HMM.out]; decide)
  obtain ⟨_, y6, rfl, hr6⟩ := h
  rw [Int.toNat_natCast] at hr6
  obtain ⟨cb, cd, rfl, _, _, hcd⟩ := Cells.of_own hr6
  have HAB : Hid (∀ i k, i < n → k < n → cmp n (natE l) i = cmp n (natE l) k → cmp n (natE M) i = cmp n (natE M) k) := Lib.hid (fun i k hi hk h => cmp_more HEO.out HFO.out HMEM.out hi hk h)
  have hcc := HCC.out.below hb6
  obtain ⟨A, hA⟩ : ∃ A : Nat → Nat, cmp n (natE l) = A := ⟨_, rfl⟩
  obtain ⟨B, hB⟩ : ∃ B : Nat → Nat, cmp n (natE M) = B := ⟨_, rfl⟩
  rw [hA] at HAB hcc
  rw [hB] at HAB hcd
  have HCC6 := Lib.hid hcc; have HCD6 := Lib.hid hcd
  have HB6 := Lib.hid (HB5.out.trans (hb6.mono HB5.out.size))
  have HLC6 := Lib.hid (HLC5.out.below hb6)
  have HYC6 := Lib.hid (HYC5.out.below hb6)
  clear hr6 hcc hcd hb6 hA hB HB5 HLC5 HYC5 HCC HC2 HEO HFO
  go_wp2_with fail
  go_loopg [15] n (fun m x wr => ∃ i : Nat, m + i = n ∧ x = .int .i64 (i : Int) ∧ Below w6.heap.size w6 wr)
  case atStart => exact ⟨0, rfl, rfl, Below.refl _ _⟩
  case round =>
    obtain ⟨i, hm1, rfl, hbw⟩ := hrel
    have HM1 := Lib.hid hm1; have HBW := Lib.hid hbw
    clear hm1 hbw
    by_cases hi : i < n
    · obtain ⟨wo, hwo⟩ : ∃ wo, wo = wr := ⟨_, rfl⟩
      rw [← hwo] at HBW ⊢
      clear hwo
      go_wp2_with fail
      go_loopg [16] i (fun m x wr => ∃ k : Nat, m + k = i ∧ x = .int .i64 (k : Int) ∧ Below w6.heap.size w6 wr)
      case atStart => exact ⟨0, rfl, rfl, HBW.out⟩
      case round =>
        obtain ⟨k, hm2, rfl, hbw2⟩ := hrel
        have HM2 := Lib.hid hm2; have HBW2 := Lib.hid hbw2
        clear hm2 hbw2 HBW
        by_cases hk : k < i
        · have hkn : k < n := by omega
          obtain ⟨b2, off2, hca, hbl2, q0⟩ := (HCC6.out.below HBW2.out).at_ (iVr_at A hi)
          obtain ⟨b3, off3, hca3, _, q1⟩ := (HCC6.out.below HBW2.out).at_ (iVr_at A hkn)
          obtain ⟨b4, off4, hcb, hbl4, q2⟩ := (HCD6.out.below HBW2.out).at_ (iVr_at B hi)
          obtain ⟨b5, off5, hcb5, _, q3⟩ := (HCD6.out.below HBW2.out).at_ (iVr_at B hkn)
          subst hca
          injection hca3 with hca3
          injection hca3 with e1 e2 _
          subst e1 e2
          subst hcb
          injection hcb5 with hcb5
          injection hcb5 with e1 e2 _
          subst e1 e2
          have hab := HAB.out i k hi hkn
          obtain ⟨X, hX⟩ : ∃ X, A i = X := ⟨_, rfl⟩
          obtain ⟨Y, hY⟩ : ∃ Y, A k = Y := ⟨_, rfl⟩
          rw [hX] at q0 hab
          rw [hY] at q1 hab
          by_cases hxy : X = Y
          · have e := hab hxy
            rw [e] at q2
            subst hxy
            obtain ⟨Z, hZ⟩ : ∃ Z, B k = Z := ⟨_, rfl⟩
            rw [hZ] at q2 q3
            clear hab hX hY hZ e
            go_wp2_with fail
            go_quiet (fail)
            go_wp2_with fail
            go_roundg (i - (k + 1))
            case measure => have := HM2.out; omega
            case rel => exact ⟨k + 1, by have := HM2.out; omega, by go_num, HBW2.out.trans ((drew_below wr _).mono HBW2.out.size)⟩
          · have d1 : (X == Y) = false := by simpa using hxy
            have d3 : ((X : Int) == (Y : Int)) = false := by rw [beq_eq_false_iff_ne]; omega
            obtain ⟨Z2, hZ2⟩ : ∃ Z, B i = Z := ⟨_, rfl⟩
            obtain ⟨Z, hZ⟩ : ∃ Z, B k = Z := ⟨_, rfl⟩
            rw [hZ2] at q2
            rw [hZ] at q3
            clear hab hX hY hxy hZ hZ2
            go_wp2_with fail
            go_quiet (fail)
            go_wp2_with fail
            go_roundg (i - (k + 1))
            case measure => have := HM2.out; omega
            case rel => exact ⟨k + 1, by have := HM2.out; omega, by go_num, HBW2.out.trans ((drew_below wr _).mono HBW2.out.size)⟩
        · have hr := reach_ok wr (n : Int) la l lc (i : Int) (by rw [HLL.out]; unfold maxLen; omega) (HLC6.out.below HBW2.out)
          rw [HLL.out] at hr
          have HR := Lib.hid hr
          clear hr
          go_wp2_with fail
          refine HR.out.mono ?_
          rintro e w7 ⟨hb7, h | h⟩
          · exact absurd h.1 (by rw [okR_true HMAY.out hi]; decide)
          obtain ⟨_, y7, rfl, hr7⟩ := h
          rw [Int.toNat_natCast, Int.toNat_natCast] at hr7
          obtain ⟨pa, pc, rfl, _, _, hpc⟩ := Cells.of_own hr7
          have HBW7 := Lib.hid (HBW2.out.trans (hb7.mono HBW2.out.size))
          have HPC := Lib.hid hpc
          have hr := reach_ok w7 (n : Int) ya M yc (i : Int) (by rw [HML.out]; unfold maxLen; omega) (HYC6.out.below HBW7.out)
          rw [HML.out] at hr
          have HR2 := Lib.hid hr
          clear hr7 hb7 hpc hr HR HBW2
          go_wp2_with fail
          refine HR2.out.mono ?_
          rintro e w8 ⟨hb8, h | h⟩
          · exact absurd h.1 (by rw [okR_true HMM.out hi]; decide)
          obtain ⟨_, y8, rfl, hr8⟩ := h
          rw [Int.toNat_natCast, Int.toNat_natCast] at hr8
          obtain ⟨qa, qc, rfl, _, _, hqc⟩ := Cells.of_own hr8
          have HBW8 := Lib.hid (HBW7.out.trans (hb8.mono HBW7.out.size))
          have hpc8 := HPC.out.below hb8
          have hsub : ∀ z, z ∈ reachL n (natE l) i → z ∈ reachL n (natE M) i := fun z hz => reach_more HMEM.out hz
          have hpl := reachL_len n (natE l) i
          have hql := reachL_len n (natE M) i
          obtain ⟨P, hP⟩ : ∃ P, reachL n (natE l) i = P := ⟨_, rfl⟩
          obtain ⟨Q, hQ⟩ : ∃ Q, reachL n (natE M) i = Q := ⟨_, rfl⟩
          rw [hP] at hsub hpl hpc8 ⊢
          rw [hQ] at hsub hql hqc ⊢
          rw [iV_z] at hqc
          obtain ⟨p, hp⟩ : ∃ p, P.length = p := ⟨_, rfl⟩
          obtain ⟨q, hq⟩ : ∃ q, Q.length = q := ⟨_, rfl⟩
          have HPL := Lib.hid hp; have HQL := Lib.hid hq
          rw [hp] at hpl ⊢
          rw [hq] at hql ⊢
          have HPC8 := Lib.hid hpc8; have HQC8 := Lib.hid hqc; have HSUB := Lib.hid hsub
          clear hr8 hb8 hpc8 hqc hsub hP hQ hp hq HPC HBW7 HR2
          go_wp2_with fail
          go_loopg [21] p (fun m x wr => ∃ k : Nat, m + k = p ∧ x = .int .i64 (k : Int) ∧ ∃ nn, wr = w8.drewN nn)
          case atStart => exact ⟨0, rfl, rfl, 0, rfl⟩
          case round =>
            obtain ⟨k, hm3, rfl, hwn⟩ := hrel
            have HM3 := Lib.hid hm3; have HWN := Lib.hid hwn
            have hbw : Below w8.heap.size w8 wr := by obtain ⟨nn, rfl⟩ := hwn; exact drew_below w8 nn
            have HBX := Lib.hid hbw
            clear hm3 hwn hbw
            by_cases hkp : k < p
            · obtain ⟨v, hv⟩ : ∃ v, P[k]? = some v := ⟨_, List.getElem?_eq_getElem (by rw [HPL.out]; exact hkp)⟩
              obtain ⟨b, off, hpa, hbl, k0⟩ := (HPC8.out.below HBX.out).at_ (k := k) (v := .int .i64 (v : Int)) (by unfold iV; rw [List.getElem?_map, hv]; rfl)
              subst hpa
              have hin := in_ok wr qa (Q.map fun k : Nat => (k : Int)) qc (v : Int) (by rw [List.length_map, HQL.out]; unfold maxLen; omega) (HQC8.out.below HBX.out)
              rw [List.length_map, HQL.out, decide_eq_true (List.mem_map.2 ⟨v, HSUB.out v (List.mem_of_getElem? hv), rfl⟩)] at hin
              have HIN := Lib.hid hin
              clear hin hv
              go_wp2_with fail
              refine HIN.out.mono ?_
              rintro e w9 ⟨rfl, hw9⟩
              have HW9 : Hid (∃ nn, w9 = w8.drewN nn) := Lib.hid (by
                obtain ⟨n1, rfl⟩ := hw9
                exact drew_more HWN.out n1)
              clear hw9
              go_wp2_with fail
              go_roundg (p - (k + 1))
              case measure => have := HM3.out; omega
              case rel => exact ⟨k + 1, by have := HM3.out; omega, by go_num, HW9.out⟩
            · go_wp2_with fail
              go_roundg (n - (i + 1))
              case measure => have := HM1.out; omega
              case rel => exact ⟨i + 1, by have := HM1.out; omega, by go_num, HBW8.out.trans (HBX.out.mono HBW8.out.size)⟩
    · have HB7 := Lib.hid (HB6.out.trans (HBW.out.mono HB6.out.size))
      go_wp2_with fail
      refine (awake19 wr).mono ?_
      rintro e w9 ⟨rfl, hb9⟩
      have HB9 := Lib.hid hb9
      clear hb9
      go_wp2_with fail
      go_ret
      exact ⟨rfl, HB7.out.trans (HB9.out.mono HB7.out.size)⟩
end Go.Proofs.Ytbancojknahdgaa
