/- CloneEach's walk: each way has a context of its own. -/
import Derived.Test.YtbancojknahdgaaCloneI
import Derived.Test.YtbancojknahdgaaCloneV
import Derived.Deep.RegionHeld3
namespace Go.Proofs.Ytbancojknahdgaa
open Go.RowKit CP
section
variable {n m k : Nat} {es : List (Int × Int × Int)}
/-- the way of a method's context -/
noncomputable def wzN (n : Nat) (es : List (Int × Int × Int)) (m k : Nat) : List Nat := (wayC (edF n es) (edT n es) es.length (cmp n (edE es) 0) (edM n es) (cmp n (edE es) m) k).reverse
noncomputable def wzZ (n : Nat) (es : List (Int × Int × Int)) (m k : Nat) : List Int := (wzN n es m k).map fun k : Nat => (k : Int)
theorem num_len (n : Nat) (es : List (Int × Int × Int)) : (numC n 0 es).comp.length = n := cmpZ_len _ _
theorem num_count (hm : m < n) : (numC n 0 es).count[m]? = some (cnM n 0 es m : Int) := by
  show ((List.range n).map _)[m]? = _
  rw [List.getElem?_map, List.getElem?_range hm]; rfl
theorem num_getD (hm : m < n) : (numC n 0 es).count.getD m 0 = (cnM n 0 es m : Int) := by
  rw [List.getD_eq_getElem?_getD, num_count hm]; rfl
theorem each_ok (h : MayN n 0 es 62) (hm : m < n) (hk : k < cnM n 0 es m) : OkS (edF n es) (edT n es) es.length (cmp n (edE es) 0) (edM n es) (cmp n (edE es) m) k := ⟨h.top hm, hk⟩
theorem each_way (h : MayN n 0 es 62) (hf : fitC n 0 es 62 = true) (hm : m < n) (hk : k < cnM n 0 es m) : wayR (numC n 0 es) 0 (m : Int) (k : Int) = (wzN n es m k, 0) := by
  have hr : rightB (numC n 0 es) 0 = true := right_to h hf
  have he : (numC n 0 es).edges = es := rfl
  unfold wayR
  rw [num_len, he, hr, Int.toNat_natCast, num_getD hm]
  rw [if_neg (by simp; omega), if_neg (by omega)]
  rfl
theorem each_none (h : MayN n 0 es 62) (hf : fitC n 0 es 62 = true) (hm : m < n) : wayR (numC n 0 es) 0 (m : Int) (cnM n 0 es m : Int) = ([], 3) := by
  have hr : rightB (numC n 0 es) 0 = true := right_to h hf
  unfold wayR
  rw [num_len, hr, Int.toNat_natCast, num_getD hm]
  rw [if_neg (by simp; omega), if_pos (.inr (Int.le_refl _))]
theorem each_ctxF (h : MayN n 0 es 62) (hm : m < n) (hk : k < cnM n 0 es m) : ctxF (edF n es) (edT n es) (adE n 0 es) es.length (wzZ n es m k) (cmp n (edE es) 0) 0 = some (cmp n (edE es) m, k) :=
  wayC_back h.up (h.top h.mn1) (each_ok h hm hk)
theorem each_ctx (h : MayN n 0 es 62) (hf : fitC n 0 es 62 = true) (hm : m < n) (hk : k < cnM n 0 es m) : ctxR (numC n 0 es) 0 (wzZ n es m k) = ((cmp n (edE es) m : Int), (k : Int), 0) := by
  have hr : rightB (numC n 0 es) 0 = true := right_to h hf
  have he : (numC n 0 es).edges = es := rfl
  have hc := each_ctxF h hm hk
  unfold ctxR
  rw [num_len, he, hr, if_neg (by decide)]
  show ctxO (ctxF (edF n es) (edT n es) (adE n 0 es) es.length (wzZ n es m k) (cmp n (edE es) 0) 0) = _
  rw [hc]; rfl
theorem each_apart (h : MayN n 0 es 62) (hm : m < n) {j : Nat} (hk : k < cnM n 0 es m) (hj : j < cnM n 0 es m) (e : wzZ n es m k = wzZ n es m j) : k = j := by
  have h1 := each_ctxF h hm hk
  rw [e, each_ctxF h hm hj] at h1
  injection h1 with h1
  injection h1 with _ h1
  exact h1.symm
end
set_option maxRecDepth 100000 in
set_option maxHeartbeats 25600000 in
theorem cloneEach_walk (w : World) (z : Int) (_zw : (Lit.int .i64 z).wf = true) (la : Option Addr) (lc : Nat) (l : List (Int × Int × Int)) (_hlc : l.length ≤ lc) (_hmc : lc ≤ maxLen) (hc0 : Cells w la (l.flatMap keyCells)) (_wf : ∀ y ∈ l, wfI y.1 ∧ wfI y.2.1 ∧ wfI y.2.2) :
    Calls Try.prog 5 #[.int .i64 z, .slice la l.length lc] w (FineC w) := by
  have HS := Lib.hid (so_ok w z la l lc (by omega) hc0)
  obtain ⟨hn1, hn2⟩ := soN_lt z
  have hln := soE_len (soN z) l
  obtain ⟨N, hN⟩ : ∃ N, l.length = N := ⟨_, rfl⟩
  rw [hN] at HS ⊢
  have HMAY0 := soE_may (n := soN z) (wd := 62) (by omega) (by omega) (by decide) (by decide) l
  obtain ⟨n, hn⟩ : ∃ n, soN z = n := ⟨_, rfl⟩
  obtain ⟨es, hes⟩ : ∃ es, soE n l = es := ⟨_, rfl⟩
  rw [hn] at hn1 hn2 hln HMAY0
  rw [hes] at hln HMAY0
  have HMAY := Lib.hid HMAY0
  have HN := Lib.hid hn; have HES := Lib.hid hes
  clear hc0 hN HMAY0 hn hes
  go_enter Try.func5, Try.ntmps5
  go_wp2_with fail
  refine HS.out.mono ?_
  rintro e w1 ⟨hb1, y, rfl, hr1⟩
  rw [HN.out, HES.out] at hr1
  rw [HN.out]
  obtain ⟨ea, ec, rfl, _, _, hec⟩ := Cells.of_own hr1
  have HB1 := Lib.hid hb1
  have HNU := Lib.hid (number_may w1 n 0 62 ea es ec HMAY.out hec)
  obtain ⟨L, hL⟩ : ∃ L, es.length = L := ⟨_, rfl⟩
  rw [hL] at HNU hln ⊢
  have HL := Lib.hid hL
  clear hb1 hr1 hec hL HS HN HES
  go_wp2_with fail
  refine HNU.out.mono ?_
  rintro e w2 ⟨hb2, h | h⟩
  · obtain ⟨_, rfl⟩ := h
    have HB2 := Lib.hid (HB1.out.trans (hb2.mono HB1.out.size))
    unfold clNil
    clear hb2 HNU
    go_wp2_with fail
    refine (awake20 _).mono ?_
    rintro e w9 ⟨rfl, hb9⟩
    have HB9 := Lib.hid ((HB2.out.alloc HB2.out.size _).trans (hb9.mono (HB2.out.alloc HB2.out.size _).size))
    clear hb9
    go_wp2_with fail
    go_ret
    exact ⟨rfl, HB9.out⟩
  · obtain ⟨hf, v, rfl, hcl⟩ := h
    have HFIT := Lib.hid hf
    have HB2 := Lib.hid (HB1.out.trans (hb2.mono HB1.out.size))
    have HCL := Lib.hid hcl
    obtain ⟨a1, c1, a2, c2, a3, c3, a4, c4, rfl, h1, h2, h3, h4⟩ := hcl
    have e1 : (numC n 0 es).comp.length = n := cmpZ_len _ _
    have e2 : (numC n 0 es).count.length = n := by show ((List.range n).map _).length = n; rw [List.length_map, List.length_range]
    have e3 : (numC n 0 es).edges.length = L := HL.out
    have e4 : (numC n 0 es).add.length = L := by show ((List.range es.length).map _).length = L; rw [List.length_map, List.length_range, HL.out]
    have HCLN : Hid (ClLen (numC n 0 es)) := Lib.hid ⟨by rw [e1]; omega, by rw [e2]; omega, by rw [e3]; omega, by rw [e4]; omega⟩
    rw [e1, e2, e3, e4] at HCL ⊢
    obtain ⟨c5, hc5⟩ : ∃ c5, L + c4 = c5 := ⟨_, rfl⟩
    rw [hc5] at HCL ⊢
    obtain ⟨w3, hw3⟩ : ∃ w3, w3 = w2.alloc (.cells #[.slice a1 n c1, .slice a2 n c2, .slice a3 L c3, .slice a4 L c5] 27) := ⟨_, rfl⟩
    obtain ⟨g, hg⟩ : ∃ g, g = w2.heap.size := ⟨_, rfl⟩
    have hb3 : Below w2.heap.size w2 w3 := by rw [hw3]; exact (Below.refl _ _).alloc (Nat.le_refl _) _
    have k3 : Blk w3 g 27 #[.slice a1 n c1, .slice a2 n c2, .slice a3 L c3, .slice a4 L c5] := by rw [hw3, hg]; exact Blk.new_ _ _ _
    have HCL3 : Hid (∀ W, Below w3.heap.size w3 W → ClAt W (.agg #[.slice a1 n c1, .slice a2 n c2, .slice a3 L c3, .slice a4 L c5]) (numC n 0 es)) := Lib.hid (fun W hW => (HCL.out.below hb3).below hW)
    have H1 := Lib.hid (h1.below hb3); have H2 := Lib.hid (h2.below hb3)
    have HK3 := Lib.hid k3; have HW3 := Lib.hid hw3; have HG := Lib.hid hg
    have HB3 := Lib.hid (HB2.out.trans (hb3.mono HB2.out.size))
    have p0 : w3.cell? ⟨g, 0, none⟩ = some (.slice a1 n c1) := k3.cell 0
    have p1 : w3.cell? ⟨g, 1, none⟩ = some (.slice a2 n c2) := k3.cell 1
    have pl := k3.lt
    clear hf hb2 HNU h1 h2 h3 h4 e1 e2 e3 e4 hc5 hw3 hg hb3 k3 HB2 HB1 HCL
    go_upto_region 5 with (fail)
    rw [← HW3.out]
    try rw [← HG.out]
    go_wp2_with fail
    clear p0 p1 pl
    go_loopg [9] n (fun mm x wr => ∃ m : Nat, mm + m = n ∧ x = .int .i64 (m : Int) ∧ Below w3.heap.size w3 wr)
    case atStart => exact ⟨0, by omega, rfl, Below.refl _ _⟩
    case round =>
      obtain ⟨m, hm2, rfl, hb4⟩ := hrel
      have HM := Lib.hid hm2; have HB4 := Lib.hid hb4
      clear hm2 hb4
      by_cases hm : m < n
      · obtain ⟨wo, hwo⟩ : ∃ wo, wo = wr := ⟨_, rfl⟩
        rw [← hwo] at HB4 ⊢
        obtain ⟨C, hC⟩ : ∃ C, cnM n 0 es m = C := ⟨_, rfl⟩
        obtain ⟨Q, hQ⟩ : ∃ Q, min C 60 = Q := ⟨_, rfl⟩
        have hQ1 : Q ≤ C := by omega
        have hQ2 : Q ≤ 60 := by omega
        have hCn := num_count (es := es) hm
        rw [hC] at hCn
        have hCb : C ≤ 4611686018427387903 := by
          rw [← hC]; exact fits_of HFIT.out (HMAY.out.top hm)
        obtain ⟨ab, ao, rfl, hal, xc⟩ := (H2.out.below HB4.out).at_ (zV_at hCn)
        obtain ⟨D, hD⟩ : ∃ D, cmp n (edE es) m = D := ⟨_, rfl⟩
        have hDn : (numC n 0 es).comp[m]? = some (D : Int) := by
          show (cmpZ n (edE es))[m]? = _
          unfold cmpZ
          rw [List.getElem?_map, List.getElem?_range hm]
          show some ((cmp n (edE es) m : Nat) : Int) = _
          rw [hD]
        obtain ⟨bb, bo, rfl, hbl, xd⟩ := (H1.out.below HB4.out).at_ (zV_at hDn)
        have HWAY : Hid (∀ k, k < C → wayR (numC n 0 es) 0 (m : Int) (k : Int) = (wzN n es m k, 0)) := Lib.hid (fun k hk => each_way HMAY.out HFIT.out hm (by rw [hC]; exact hk))
        have HCTX : Hid (∀ k, k < C → ctxR (numC n 0 es) 0 (wzZ n es m k) = ((D : Int), (k : Int), 0)) := Lib.hid (fun k hk => by rw [each_ctx HMAY.out HFIT.out hm (by rw [hC]; exact hk), hD])
        have HAP : Hid (∀ k j, k < C → j < C → wzZ n es m k = wzZ n es m j → k = j) := Lib.hid (fun k j h1 h2 e => each_apart HMAY.out hm (by rw [hC]; exact h1) (by rw [hC]; exact h2) e)
        have HNONE : Hid (wayR (numC n 0 es) 0 (m : Int) (C : Int) = ([], 3)) := Lib.hid (by rw [← hC]; exact each_none HMAY.out HFIT.out hm)
        have HQ := Lib.hid hQ
        have HXC : Hid (∀ W, Below wo.heap.size wo W → W.cell? ⟨ab, ao + m, none⟩ = some (.int .i64 (C : Int)) ∧ W.cell? ⟨bb, bo + m, none⟩ = some (.int .i64 (D : Int))) := Lib.hid (fun W hW => ⟨(hW.cell (p := ⟨ab, ao + m, none⟩) hal).trans xc, (hW.cell (p := ⟨bb, bo + m, none⟩) hbl).trans xd⟩)
        clear hwo hC hQ hCn hal xc hD hDn hbl xd
        go_wp2_with fail
        go_loopg [10, 11] Q (fun mm x10 x11 wr => ∃ (k : Nat) (H : List (List Int)), mm + k = Q ∧ x11 = .int .i64 (k : Int) ∧ Below wo.heap.size wo wr ∧ RowsV wr x10 H ∧ H.length = k ∧ ∀ r ∈ H, ∃ j, j < k ∧ r = wzZ n es m j)
        case atStart => exact ⟨0, [], by omega, rfl, Below.refl _ _, .inl ⟨rfl, rfl⟩, rfl, fun r hr => by cases hr⟩
        case round =>
          obtain ⟨k, H, hm3, rfl, hb5, hrows, hlen, hall⟩ := hrel
          have HM3 := Lib.hid hm3; have HB5 := Lib.hid hb5; have HROWS := Lib.hid hrows; have HLEN := Lib.hid hlen; have HALL := Lib.hid hall
          have hkQ : k ≤ Q := by omega
          clear hm3 hb5 hrows hlen hall
          have HB35 := Lib.hid (HB4.out.trans (HB5.out.mono HB4.out.size))
          have k5 := HK3.out.below HB35.out HK3.out.lt
          have p0 : wr.cell? ⟨g, 0, none⟩ = some (.slice (some ⟨bb, bo, none⟩) n c1) := k5.cell 0
          have p1 : wr.cell? ⟨g, 1, none⟩ = some (.slice (some ⟨ab, ao, none⟩) n c2) := k5.cell 1
          have p2 : wr.cell? ⟨g, 2, none⟩ = some (.slice a3 L c3) := k5.cell 2
          have p3 : wr.cell? ⟨g, 3, none⟩ = some (.slice a4 L c5) := k5.cell 3
          have pl := k5.lt
          obtain ⟨xc, xd⟩ := HXC.out _ HB5.out
          by_cases hk : k < Q
          · have hkC : k < C := by omega
            have hk60 : k < 60 := by omega
            have HWK := Lib.hid (way_ok wr _ (numC n 0 es) 0 (m : Int) (k : Int) (HCL3.out wr HB35.out) HCLN.out)
            rw [HWAY.out k hkC] at HWK
            clear k5
            go_wp2_with fail
            refine HWK.out.mono ?_
            rintro e w5 ⟨hb6, y6, rfl, hr6, hl6⟩
            have hb6' := HB35.out.trans (hb6.mono HB35.out.size)
            have hxc6 := HXC.out _ (HB5.out.trans (hb6.mono HB5.out.size))
            obtain ⟨ya, yc, rfl, _, _, hyc⟩ := Cells.of_own hr6
            have hyz : Cells w5 ya (zV (wzZ n es m k)) := by
              rw [iV_z] at hyc; exact hyc
            have hlz : (wzZ n es m k).length = (wzN n es m k).length := by unfold wzZ; rw [List.length_map]
            simp only at hl6 ⊢
            have HCK := Lib.hid (ctx_ok w5 _ (numC n 0 es) 0 ya (wzZ n es m k) yc (HCL3.out w5 hb6') HCLN.out (by rw [hlz]; unfold maxLen; omega) hyz)
            rw [HCTX.out k hkC, hlz] at HCK
            obtain ⟨lw, hlw⟩ : ∃ lw, (wzN n es m k).length = lw := ⟨_, rfl⟩
            rw [hlw] at HCK hl6 hlz ⊢
            have k6 := HK3.out.below hb6' HK3.out.lt
            have q0 : w5.cell? ⟨g, 0, none⟩ = some (.slice (some ⟨bb, bo, none⟩) n c1) := k6.cell 0
            have q1 : w5.cell? ⟨g, 1, none⟩ = some (.slice (some ⟨ab, ao, none⟩) n c2) := k6.cell 1
            have q2 : w5.cell? ⟨g, 2, none⟩ = some (.slice a3 L c3) := k6.cell 2
            have q3 : w5.cell? ⟨g, 3, none⟩ = some (.slice a4 L c5) := k6.cell 3
            have ql := k6.lt
            have HB6 := Lib.hid (HB5.out.trans (hb6.mono HB5.out.size))
            have HROWS6 := Lib.hid (HROWS.out.below hb6)
            have HYZ := Lib.hid hyz; have HLZ := Lib.hid hlz
            clear hb6 hr6 hb6' hxc6 hyc hyz hlz hlw k6 p0 p1 p2 p3 pl xc xd HWK HROWS
            go_wp2_with fail
            refine HCK.out.mono ?_
            rintro e w6 ⟨rfl, hb7⟩
            have HB7 := Lib.hid (HB6.out.trans (hb7.mono HB6.out.size))
            have k7 := HK3.out.below (HB4.out.trans (HB7.out.mono HB4.out.size)) HK3.out.lt
            have r0 : w6.cell? ⟨g, 0, none⟩ = some (.slice (some ⟨bb, bo, none⟩) n c1) := k7.cell 0
            have rl := k7.lt
            obtain ⟨xc, xd⟩ := HXC.out _ HB7.out
            have hnot : wzZ n es m k ∉ H := fun hin => by
              obtain ⟨j, hj, he⟩ := HALL.out _ hin
              have := HAP.out k j hkC (by omega) he
              omega
            have HPL : Hid ((putL H (wzZ n es m k)).length = k + 1) := Lib.hid (by rw [putL_len _ _ hnot, HLEN.out])
            have HPM : Hid (∀ r ∈ putL H (wzZ n es m k), ∃ j, j < k + 1 ∧ r = wzZ n es m j) := Lib.hid (fun r hr => by
              rcases (putL_mem _ _ _).1 hr with hr | hr
              · obtain ⟨j, hj, he⟩ := HALL.out r hr
                exact ⟨j, by omega, he⟩
              · exact ⟨k, by omega, hr⟩)
            have hpr := putrow_ok w6 u10 H ya yc (wzZ n es m k) (HROWS6.out.below hb7) (by rw [HLEN.out]; omega) (by rw [HLZ.out]; exact hl6) (HYZ.out.below hb7)
            rw [HLZ.out] at hpr
            have HPR := Lib.hid hpr
            have z1 : ((D : Int) != (D : Int)) = false := by simp
            have z2 : ((k : Int) != (k : Int)) = false := by simp
            clear hnot hb7 hpr k7 q0 q1 q2 q3 ql HCK HROWS6
            go_wp2_with fail
            refine HPR.out.mono ?_
            rintro e w8 ⟨hb8, v8, rfl, hr8⟩
            have HB8 := Lib.hid (HB7.out.trans (hb8.mono HB7.out.size))
            have HR8 := Lib.hid hr8
            clear hb8 hr8 HPR r0 rl xc xd
            go_wp2_with fail
            go_roundg (Q - (k + 1))
            case measure => have := HM3.out; omega
            case rel => exact ⟨k + 1, _, by have := HM3.out; omega, by go_num, HB8.out, HR8.out, HPL.out, HPM.out⟩
          · have hkQ2 : k = Q := by omega
            have hmin : (if 60 < C then (60 : Int) else (C : Int)) = (k : Int) := by
              have := HQ.out
              split <;> omega
            have HWN : Hid (Calls Try.prog 21 #[.agg #[.slice (some ⟨bb, bo, none⟩) n c1, .slice (some ⟨ab, ao, none⟩) n c2, .slice a3 L c3, .slice a4 L c5], .int .i64 0, .int .i64 (m : Int), .int .i64 (C : Int)] wr.drew (WayPost wr.drew ([], 3))) := Lib.hid (by
              have h := way_ok wr.drew _ (numC n 0 es) 0 (m : Int) (C : Int) (HCL3.out wr.drew HB35.out.drew) HCLN.out
              rw [HNONE.out] at h; exact h)
            obtain ⟨ha, hc, rfl⟩ := HROWS.out.len_
            rw [HLEN.out]
            have z1 : ((k : Int) != (k : Int)) = false := by simp
            have HKS : Hid (∀ W, Below wr.heap.size wr W → (W.cell? ⟨g, 0, none⟩ = some (.slice (some ⟨bb, bo, none⟩) n c1) ∧ W.cell? ⟨g, 1, none⟩ = some (.slice (some ⟨ab, ao, none⟩) n c2) ∧ W.cell? ⟨g, 2, none⟩ = some (.slice a3 L c3) ∧ W.cell? ⟨g, 3, none⟩ = some (.slice a4 L c5) ∧ W.cell? ⟨ab, ao + m, none⟩ = some (.int .i64 (C : Int)))) := Lib.hid (fun W hW => by
              have kk := k5.below hW k5.lt
              exact ⟨kk.cell 0, kk.cell 1, kk.cell 2, kk.cell 3, (HXC.out W (HB5.out.trans (hW.mono HB5.out.size))).1⟩)
            have HBD : Hid (Below wr.heap.size wr wr.drew) := Lib.hid (Below.refl _ _).drew
            by_cases hkC : C ≤ k
            · have d1 : ¬ k < C := by omega
              clear hkQ2 k5
              go_upto_region 21 with (fail)
              go_region_held3 (fun W => W.cell? ⟨g, 0, none⟩ = some (.slice (some ⟨bb, bo, none⟩) n c1) ∧ W.cell? ⟨g, 1, none⟩ = some (.slice (some ⟨ab, ao, none⟩) n c2) ∧ W.cell? ⟨g, 2, none⟩ = some (.slice a3 L c3) ∧ W.cell? ⟨g, 3, none⟩ = some (.slice a4 L c5) ∧ W.cell? ⟨ab, ao + m, none⟩ = some (.int .i64 (C : Int)))
                (first | with_reducible exact HKS.out _ HBN.out | with_reducible exact HKS.out _ HBD.out) ((go_at_call 21; ((with_reducible refine HWN.out.mono ?_); rintro e w5 ⟨hb6, y6, rfl, hr6, _⟩; have HBN : Hid (Below wr.heap.size wr w5) := Lib.hid (HBD.out.trans (hb6.mono HBD.out.size)); clear hb6 hr6)))
              all_goals
                have HB9 := Lib.hid (HB4.out.trans ((HB5.out.trans (HBN.out.mono HB5.out.size)).mono HB4.out.size))
                go_wp2_with fail
                go_roundg (n - (m + 1))
                case measure => have := HM.out; omega
                case rel => exact ⟨m + 1, by have := HM.out; omega, by go_num, HB9.out⟩
            · have d1 : k < C := by omega
              have d2 : ¬ k < 60 := by omega
              clear hkQ2 k5
              go_upto_region 21 with (fail)
              go_region_held3 (fun W => W.cell? ⟨g, 0, none⟩ = some (.slice (some ⟨bb, bo, none⟩) n c1) ∧ W.cell? ⟨g, 1, none⟩ = some (.slice (some ⟨ab, ao, none⟩) n c2) ∧ W.cell? ⟨g, 2, none⟩ = some (.slice a3 L c3) ∧ W.cell? ⟨g, 3, none⟩ = some (.slice a4 L c5) ∧ W.cell? ⟨ab, ao + m, none⟩ = some (.int .i64 (C : Int)))
                (first | with_reducible exact HKS.out _ HBN.out | with_reducible exact HKS.out _ HBD.out) ((go_at_call 21; ((with_reducible refine HWN.out.mono ?_); rintro e w5 ⟨hb6, y6, rfl, hr6, _⟩; have HBN : Hid (Below wr.heap.size wr w5) := Lib.hid (HBD.out.trans (hb6.mono HBD.out.size)); clear hb6 hr6)))
              all_goals
                have HB9 := Lib.hid (HB4.out.trans ((HB5.out.trans (HBN.out.mono HB5.out.size)).mono HB4.out.size))
                go_wp2_with fail
                go_roundg (n - (m + 1))
                case measure => have := HM.out; omega
                case rel => exact ⟨m + 1, by have := HM.out; omega, by go_num, HB9.out⟩
      · go_wp2_with fail
        refine (awake20 _).mono ?_
        rintro e w9 ⟨rfl, hb9⟩
        have HB9 := Lib.hid (HB4.out.trans (hb9.mono HB4.out.size))
        clear hb9
        go_wp2_with fail
        go_ret
        exact ⟨rfl, HB3.out.trans (HB9.out.mono HB3.out.size)⟩
end Go.Proofs.Ytbancojknahdgaa
