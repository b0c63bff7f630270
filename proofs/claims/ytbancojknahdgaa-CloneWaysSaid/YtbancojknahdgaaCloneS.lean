/- CloneWays' walk: of contexts that the reference numbers, Way and Context answer as the reference does. -/
import Derived.Test.YtbancojknahdgaaCloneZ
import Derived.Test.YtbancojknahdgaaCloneI
import Derived.Test.YtbancojknahdgaaOpen
import Derived.BigQuiet
namespace Go.Proofs.Ytbancojknahdgaa
open Go.RowKit CP
theorem rnumber_may (w : World) (k mn wn : Nat) (ea : Option Addr) (es : List (Int × Int × Int)) (c : Nat) (hM : MayN k mn es wn) (hc : Cells w ea (es.flatMap keyCells)) :
    Calls Try.prog 18 #[.int .i64 (k : Int), .int .i64 (mn : Int), .slice ea es.length c, .int .i64 (wn : Int)] w (MayPost w k mn es wn) := by
  refine (rnumber_ok w (k : Int) (mn : Int) ea es c (wn : Int) (by have := hM.len; unfold maxLen; omega) hc).mono ?_
  rintro e w' ⟨hb, h⟩
  refine ⟨hb, ?_⟩
  rcases h with ⟨h, _⟩ | ⟨k2, mn2, wn2, e1, e2, e3, _, h⟩
  · rw [mayN_to hM] at h; cases h
  · obtain rfl : k = k2 := by omega
    obtain rfl : mn = mn2 := by omega
    obtain rfl : wn = wn2 := by omega
    exact h
set_option maxRecDepth 100000 in
set_option maxHeartbeats 25600000 in
theorem cloneWays_walk (w : World) (z : Int) (_zw : (Lit.int .i64 z).wf = true) (la : Option Addr) (lc : Nat) (l : List (Int × Int × Int)) (_hlc : l.length ≤ lc) (_hmc : lc ≤ maxLen) (hc0 : Cells w la (l.flatMap keyCells)) (_wf : ∀ y ∈ l, wfI y.1 ∧ wfI y.2.1 ∧ wfI y.2.2) (z0 z1 z2 : Int) :
    Calls Try.prog 4 #[.int .i64 z, .slice la l.length lc, .agg #[.int .i64 z0, .int .i64 z1, .int .i64 z2]] w (FineC w) := by
  obtain ⟨wb, hwb⟩ : ∃ wb, wb = w.alloc (.cells #[.int .i64 z0, .int .i64 z1, .int .i64 z2] 22) := ⟨_, rfl⟩
  have hbb : Below w.heap.size w wb := by rw [hwb]; exact (Below.refl _ _).alloc (Nat.le_refl _) _
  obtain ⟨gb, hgb⟩ : ∃ gb, gb = w.heap.size := ⟨_, rfl⟩
  have kb : Blk wb gb 22 #[.int .i64 z0, .int .i64 z1, .int .i64 z2] := by rw [hwb, hgb]; exact Blk.new_ _ _ _
  have HS := Lib.hid (so_ok wb z la l lc (by omega) (hc0.below hbb))
  obtain ⟨hn1, hn2⟩ := soN_lt z
  have hln := soE_len (soN z) l
  obtain ⟨N, hN⟩ : ∃ N, l.length = N := ⟨_, rfl⟩
  rw [hN] at HS ⊢
  have HMAY0 := soE_may (n := soN z) (wd := 62) (by omega) (by omega) (by decide) (by decide) l
  obtain ⟨n, hn⟩ : ∃ n, soN z = n := ⟨_, rfl⟩
  obtain ⟨es, hes⟩ : ∃ es, soE n l = es := ⟨_, rfl⟩
  rw [hn] at hn1 hn2 hln HMAY0
  rw [hes] at hln HMAY0
  have HMAY := Lib.hid HMAY0
  have HN := Lib.hid hn; have HES := Lib.hid hes
  have hK : bits .and .i64 z2 15 = (((z2 % 16).toNat : Nat) : Int) := by
    have h2 : bits .and .i64 z2 15 = z2 % 16 := and_low z2 4 (by decide)
    omega
  obtain ⟨K, hKe⟩ : ∃ K, (z2 % 16).toNat = K := ⟨_, rfl⟩
  have hK16 : K < 16 := by omega
  rw [hKe] at hK
  obtain ⟨j0, hj0, yz0, yz1, yz2⟩ := info_parts int_infoC
  have HWB := Lib.hid hwb; have HGB := Lib.hid hgb; have HBB := Lib.hid hbb; have HKB := Lib.hid kb
  clear hc0 hN HMAY0 hn hes hKe hwb hgb hbb kb
  go_enter Try.func4, Try.ntmps4
  go_upto_region 1 with (fail)
  rw [← HWB.out]
  try rw [← HGB.out]
  go_wp2_with fail
  refine HS.out.mono ?_
  rintro e w1 ⟨hb1, y, rfl, hr1⟩
  rw [HN.out, HES.out] at hr1
  rw [HN.out]
  obtain ⟨ea, ec, rfl, _, _, hec⟩ := Cells.of_own hr1
  have HB1 := Lib.hid (HBB.out.trans (hb1.mono HBB.out.size))
  have kc := HKB.out.below hb1 HKB.out.lt
  have HK1 := Lib.hid kc
  have HNU := Lib.hid (rnumber_may w1 n 0 62 ea es ec HMAY.out hec)
  obtain ⟨L, hL⟩ : ∃ L, es.length = L := ⟨_, rfl⟩
  rw [hL] at HNU hln ⊢
  have HL := Lib.hid hL
  clear hb1 hr1 hec hL HS HN HES kc
  go_wp2_with fail
  refine HNU.out.mono ?_
  rintro e w2 ⟨hb2, h | h⟩
  · obtain ⟨_, rfl⟩ := h
    have HB2 := Lib.hid (HB1.out.trans (hb2.mono HB1.out.size))
    unfold clNil
    clear hb2 HNU
    go_wp2_with fail
    refine (awake20 _).mono ?_
    rintro e w9 ⟨rfl, hb9⟩
    have HB9 := Lib.hid ((HB2.out.alloc HB2.out.size _).trans (hb9.mono (HB2.out.alloc HB2.out.size _).size))
    clear hb9
    go_wp2_with fail
    go_ret
    exact ⟨rfl, HB9.out⟩
  · obtain ⟨hf, v, rfl, hcl⟩ := h
    have HB2 := Lib.hid (HB1.out.trans (hb2.mono HB1.out.size))
    have kc2 := HK1.out.below hb2 HK1.out.lt
    have HCL := Lib.hid hcl
    obtain ⟨a1, c1, a2, c2, a3, c3, a4, c4, rfl, _, _, _, _⟩ := hcl
    have e1 : (numC n 0 es).comp.length = n := cmpZ_len _ _
    have e2 : (numC n 0 es).count.length = n := by show ((List.range n).map _).length = n; rw [List.length_map, List.length_range]
    have e3 : (numC n 0 es).edges.length = L := HL.out
    have e4 : (numC n 0 es).add.length = L := by show ((List.range es.length).map _).length = L; rw [List.length_map, List.length_range, HL.out]
    have hCLN : ClLen (numC n 0 es) := ⟨by rw [e1]; omega, by rw [e2]; omega, by rw [e3]; omega, by rw [e4]; omega⟩
    rw [e1, e2, e3, e4] at HCL ⊢
    obtain ⟨c5, hc5⟩ : ∃ c5, L + c4 = c5 := ⟨_, rfl⟩
    rw [hc5] at HCL ⊢
    obtain ⟨C, hC⟩ : ∃ C, numC n 0 es = C := ⟨_, rfl⟩
    rw [hC] at HCL hCLN
    obtain ⟨rl, hrl⟩ : ∃ rl, (wayR C 0 z0 z1).1 = rl := ⟨_, rfl⟩
    obtain ⟨rn, hrn⟩ : ∃ rn, rl.length = rn := ⟨_, rfl⟩
    obtain ⟨re, hre⟩ : ∃ re, (wayR C 0 z0 z1).2 = re := ⟨_, rfl⟩
    have hrlen : rn ≤ 1024 := by rw [← hrn, ← hrl]; exact wayR_len _ _ _ _
    have HWA : Hid (∀ W v, ClAt W v C → Calls Try.prog 21 #[v, .int .i64 0, .int .i64 z0, .int .i64 z1] W (RwPost W rl rn re)) := Lib.hid (fun W v h => (way_ok W v C 0 z0 z1 h hCLN).mono fun e w' h => by
      have h := rw_of h; rw [hrl, hrn, hre] at h; exact h)
    have HWR : Hid (∀ W v, ClAt W v C → Calls Try.prog 22 #[v, .int .i64 0, .int .i64 z0, .int .i64 z1] W (RwPost W rl rn re)) := Lib.hid (fun W v h => (rway_ok W v C 0 z0 z1 h hCLN).mono fun e w' h => by
      have h := rw_of h; rw [hrl, hrn, hre] at h; exact h)
    have HRN := Lib.hid hrn; have HCLN := Lib.hid hCLN
    obtain ⟨w3, hw3⟩ : ∃ w3, w3 = w2.alloc (.cells #[.slice a1 n c1, .slice a2 n c2, .slice a3 L c3, .slice a4 L c5] 27) := ⟨_, rfl⟩
    obtain ⟨g, hg⟩ : ∃ g, g = w2.heap.size := ⟨_, rfl⟩
    have hb3 : Below w2.heap.size w2 w3 := by rw [hw3]; exact (Below.refl _ _).alloc (Nat.le_refl _) _
    have k3 : Blk w3 g 27 #[.slice a1 n c1, .slice a2 n c2, .slice a3 L c3, .slice a4 L c5] := by rw [hw3, hg]; exact Blk.new_ _ _ _
    have HCL3 : Hid (∀ W, Below w3.heap.size w3 W → ClAt W (.agg #[.slice a1 n c1, .slice a2 n c2, .slice a3 L c3, .slice a4 L c5]) C) := Lib.hid (fun W hW => (HCL.out.below hb3).below hW)
    have hkb3 := kc2.below hb3 kc2.lt
    have HK3 := Lib.hid k3; have HW3 := Lib.hid hw3; have HG := Lib.hid hg; have HKB3 := Lib.hid hkb3
    have HB3 := Lib.hid (HB2.out.trans (hb3.mono HB2.out.size))
    have p0 : w3.cell? ⟨g, 0, none⟩ = some (.slice a1 n c1) := k3.cell 0
    have p1 : w3.cell? ⟨g, 1, none⟩ = some (.slice a2 n c2) := k3.cell 1
    have p2 : w3.cell? ⟨g, 2, none⟩ = some (.slice a3 L c3) := k3.cell 2
    have p3 : w3.cell? ⟨g, 3, none⟩ = some (.slice a4 L c5) := k3.cell 3
    have pl := k3.lt
    have o0 : w3.cell? ⟨gb, 0, none⟩ = some (.int .i64 z0) := hkb3.cell 0
    have o1 : w3.cell? ⟨gb, 1, none⟩ = some (.int .i64 z1) := hkb3.cell 1
    have ol := hkb3.lt
    have HWA3 := Lib.hid (HWA.out w3 _ (HCL3.out w3 (Below.refl _ _)))
    clear hf hb2 kc2 HNU e1 e2 e3 e4 hc5 hw3 hg hb3 k3 HB2 HB1 HCL hC hrl hrn hre hCLN hkb3 HWA
    go_upto_region 3 with (fail)
    rw [← HW3.out]
    try rw [← HG.out]
    go_wp2_with fail
    refine HWA3.out.mono ?_
    rintro e w4 ⟨hb4, ya, yc, rfl, hya⟩
    have kc := HK3.out.below hb4 HK3.out.lt
    have kd := HKB3.out.below hb4 HKB3.out.lt
    have HYA := Lib.hid hya
    have HB4 := Lib.hid hb4
    have q0 : w4.cell? ⟨g, 0, none⟩ = some (.slice a1 n c1) := kc.cell 0
    have q1 : w4.cell? ⟨g, 1, none⟩ = some (.slice a2 n c2) := kc.cell 1
    have q2 : w4.cell? ⟨g, 2, none⟩ = some (.slice a3 L c3) := kc.cell 2
    have q3 : w4.cell? ⟨g, 3, none⟩ = some (.slice a4 L c5) := kc.cell 3
    have ql := kc.lt
    have o0 : w4.cell? ⟨gb, 0, none⟩ = some (.int .i64 z0) := kd.cell 0
    have o1 : w4.cell? ⟨gb, 1, none⟩ = some (.int .i64 z1) := kd.cell 1
    have ol := kd.lt
    have HWR4 := Lib.hid (HWR.out w4 _ (HCL3.out w4 hb4))
    clear kc kd hb4 hya p0 p1 p2 p3 pl HWA3 HWR
    go_wp2_with fail
    refine HWR4.out.mono ?_
    rintro e w5 ⟨hb5, za, zc, rfl, hza⟩
    have hb35 : Below w3.heap.size w3 w5 := HB4.out.trans (hb5.mono HB4.out.size)
    have HSM := Lib.hid (rw_same (ca := yc) (cb := zc) HRN.out hrlen (HYA.out.below hb5) hza)
    have HB35 := Lib.hid hb35
    have ee : (re != re) = false := by simp
    clear hb5 hza hb35 q0 q1 q2 q3 ql o0 o1 ol HWR4 HYA HB4
    go_wp2_with fail
    refine HSM.out.mono ?_
    rintro e w6 ⟨rfl, nq, hw6⟩
    have HB36 : Hid (Below w3.heap.size w3 w6) := Lib.hid (by rw [hw6]; exact HB35.out.trans ((drew_below _ _).mono HB35.out.size))
    clear hw6 HSM HB35
    go_wp2_with fail
    clear ee
    go_loopg [15, 16] K (fun mm x15 x16 wr => ∃ (i : Nat) (way : List Int), mm + i = K ∧ x16 = .int .i64 (i : Int) ∧ Below w6.heap.size w6 wr ∧ wr.ownsRow w6.heap.size 3 1 x15 i (zV way) ∧ way.length = i)
    case atStart => exact ⟨0, [], by omega, rfl, Below.refl _ _, World.ownsRow_nil _ _ _ _, rfl⟩
    case round =>
      obtain ⟨i, way, hm2, rfl, hb7, hrow, hwl⟩ := hrel
      have HM := Lib.hid hm2; have HB7 := Lib.hid hb7; have HROW := Lib.hid hrow; have HWL := Lib.hid hwl
      have hws := hb7.size
      have hb37 : Below w3.heap.size w3 wr := HB36.out.trans (hb7.mono HB36.out.size)
      have kd := HKB3.out.below hb37 HKB3.out.lt
      have o2 : wr.cell? ⟨gb, 2, none⟩ = some (.int .i64 z2) := kd.cell 2
      have ol := kd.lt
      have HB37 := Lib.hid hb37
      have hiK : i ≤ K := by omega
      clear hm2 hb7 hrow hwl hb37 kd
      by_cases hi : i < K
      · obtain ⟨X, hX⟩ : ∃ X, wrap64 (bits .and .i64 (z2 / 2 ^ (3 * i)) 31 - 1) = X := ⟨_, rfl⟩
        have HX := Lib.hid hX
        clear hX
        go_wp2_with (at_builtin; refine wpList_append_sep rfl (.tmp 72) (.tmp 80) 25 rfl w6.heap.size 3 j0 (.int .i64 0) 1 8 Try.underlying25 hj0 yz0 yz1 yz2 rfl (by decide) _ i _ rfl (HROW.out.alloc _) wr.heap.size 0 1 1 [.int .i64 (wrap64 (bits .and .i64 (z2 / 2 ^ (3 * i)) 31 - 1))] rfl rfl (lit_one _ _ _) (ones_int _) (by unfold maxLen; omega) (by omega) (by simp; omega) ?_)
        rw [HX.out]
        intro y7 w7 hown hg7 hsep
        have HB8 := Lib.hid ((HB7.out.alloc hws (.cells #[.int .i64 X] 3)).grown hg7 (by simp; omega) (fun b hb => (HROW.out.lt b hb).1))
        have HR8 : Hid (w7.ownsRow w6.heap.size 3 1 y7 (i + 1) (zV (way ++ [X]))) := Lib.hid (by
          have e : zV (way ++ [X]) = zV way ++ [.int .i64 X] := by simp [zV]
          rw [e]; exact hown)
        have HL8 : Hid ((way ++ [X]).length = i + 1) := Lib.hid (by rw [List.length_append, HWL.out]; rfl)
        clear hown hg7 hsep o2 ol
        go_wp2_with fail
        go_roundg (K - (i + 1))
        case measure => have := HM.out; omega
        case rel => exact ⟨i + 1, way ++ [X], by have := HM.out; omega, by go_num, HB8.out, HR8.out, HL8.out⟩
      · obtain ⟨va, vc, rfl, _, _, hvc⟩ := Cells.of_own HROW.out
        obtain ⟨x0, hx0⟩ : ∃ x, (ctxR C 0 way).1 = x := ⟨_, rfl⟩
        obtain ⟨x1, hx1⟩ : ∃ x, (ctxR C 0 way).2.1 = x := ⟨_, rfl⟩
        obtain ⟨x2, hx2⟩ : ∃ x, (ctxR C 0 way).2.2 = x := ⟨_, rfl⟩
        obtain ⟨wo, hwo⟩ : ∃ wo, wo = wr := ⟨_, rfl⟩
        rw [← hwo] at hvc HB37 o2 ol ⊢
        have HXA : Hid (Calls Try.prog 24 #[.agg #[.slice a1 n c1, .slice a2 n c2, .slice a3 L c3, .slice a4 L c5], .int .i64 0, .slice va i vc] wo fun e w' => e = .returned (.tuple #[.int .i64 x0, .int .i64 x1, .int .i64 x2]) ∧ Below wo.heap.size wo w') := Lib.hid (by
          have h := ctx_ok wo _ C 0 va way vc (HCL3.out wo HB37.out) HCLN.out (by rw [HWL.out]; unfold maxLen; omega) hvc
          rw [HWL.out] at h
          exact h.mono fun e w' h => by obtain ⟨h1, h2⟩ := h; rw [hx0, hx1, hx2] at h1; exact ⟨h1, h2⟩)
        have HXB : Hid (∀ W, Below wo.heap.size wo W → Calls Try.prog 25 #[.agg #[.slice a1 n c1, .slice a2 n c2, .slice a3 L c3, .slice a4 L c5], .int .i64 0, .slice va i vc] W fun e w' => e = .returned (.tuple #[.int .i64 x0, .int .i64 x1, .int .i64 x2]) ∧ Below W.heap.size W w') := Lib.hid (fun W hW => by
          have h := rctx_ok W _ C 0 va way vc (HCL3.out W (HB37.out.trans (hW.mono HB37.out.size))) HCLN.out (by rw [HWL.out]; unfold maxLen; omega) (hvc.below hW)
          rw [HWL.out] at h
          exact h.mono fun e w' h => by obtain ⟨h1, h2⟩ := h; rw [hx0, hx1, hx2] at h1; exact ⟨h1, h2⟩)
        have kg := HK3.out.below HB37.out HK3.out.lt
        have HKG := Lib.hid kg
        have r0 : wo.cell? ⟨g, 0, none⟩ = some (.slice a1 n c1) := kg.cell 0
        have r1 : wo.cell? ⟨g, 1, none⟩ = some (.slice a2 n c2) := kg.cell 1
        have r2 : wo.cell? ⟨g, 2, none⟩ = some (.slice a3 L c3) := kg.cell 2
        have r3 : wo.cell? ⟨g, 3, none⟩ = some (.slice a4 L c5) := kg.cell 3
        have rl := kg.lt
        have HB0 := Lib.hid (HB3.out.trans (HB37.out.mono HB3.out.size))
        clear hvc hx0 hx1 hx2 hwo kg
        go_wp2_with fail
        refine HXA.out.mono ?_
        rintro e w8 ⟨rfl, hb8⟩
        have kg := HKG.out.below hb8 HKG.out.lt
        have s0 : w8.cell? ⟨g, 0, none⟩ = some (.slice a1 n c1) := kg.cell 0
        have s1 : w8.cell? ⟨g, 1, none⟩ = some (.slice a2 n c2) := kg.cell 1
        have s2 : w8.cell? ⟨g, 2, none⟩ = some (.slice a3 L c3) := kg.cell 2
        have s3 : w8.cell? ⟨g, 3, none⟩ = some (.slice a4 L c5) := kg.cell 3
        have sl := kg.lt
        have HXB8 := Lib.hid (HXB.out w8 hb8)
        have HB8 := Lib.hid (HB0.out.trans (hb8.mono HB0.out.size))
        clear hb8 kg r0 r1 r2 r3 rl o2 ol HXA HXB
        go_wp2_with fail
        refine HXB8.out.mono ?_
        rintro e w9 ⟨rfl, hb9⟩
        have HB9 := Lib.hid (HB8.out.trans (hb9.mono HB8.out.size))
        have e1 : (x0 == x0) = true := by simp
        have e2 : (x1 == x1) = true := by simp
        have e3 : (x2 == x2) = true := by simp
        clear hb9 s0 s1 s2 s3 sl HXB8
        go_wp2_with fail
        refine (awake20 _).mono ?_
        rintro e wz ⟨rfl, hbz⟩
        have HBZ := Lib.hid (HB9.out.trans (hbz.mono HB9.out.size))
        clear hbz
        go_wp2_with fail
        go_ret
        exact ⟨rfl, HBZ.out⟩
end Go.Proofs.Ytbancojknahdgaa
