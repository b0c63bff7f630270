/- LayOnce: the walk. -/
import Derived.Test.YtedfakpmdncnmaaDoorLayL1
import Derived.Test.YtedfakpmdncnmaaDoorLayR
import Derived.Test.YtedfakpmdncnmaaDoorRefA
namespace Go.Proofs.YtedfakpmdncnmaaDoor
open Go.RowKit LY
theorem bit7 (z : Int) (i : Nat) : ∃ b : Bool, bits .and .i64 (z / 2 ^ i) 1 = (b.toNat : Int) := by
  have h : bits .and .i64 (z / 2 ^ i) 1 = (z / 2 ^ i) % 2 := and_low _ 1 (by decide)
  rcases (by omega : (z / 2 ^ i) % 2 = 0 ∨ (z / 2 ^ i) % 2 = 1) with e | e
  · exact ⟨false, h.trans e⟩
  · exact ⟨true, h.trans e⟩
noncomputable def stB (z : Int) (i : Nat) : Bool := Classical.choose (bit7 z i)
theorem stB_is (z : Int) (i : Nat) : bits .and .i64 (z / 2 ^ i) 1 = ((stB z i).toNat : Int) := Classical.choose_spec (bit7 z i)
theorem name16 {doms : List Dm} (h : mayB doms = true) {k : Nat} (hk : k < doms.length) : (at_ doms k).name.size ≤ 16 := by
  have hok := (may_iff.1 h).1 _ (List.mem_of_getElem? (at_get hk))
  unfold okD at hok
  rw [Bool.and_eq_true, Bool.and_eq_true] at hok
  have h2 := hok.2.2
  unfold nameB at h2
  rw [Bool.and_eq_true, Bool.and_eq_true, decide_eq_true_eq, decide_eq_true_eq] at h2
  exact h2.2.1
theorem bool_info7 : (Tryd.prog.info? 4).map (fun i => (i.zero, i.size, i.bytes)) = some (some (.bool false), 1, 1) := by kernel_rfl
theorem cat3 (o n : ByteArray) (c : UInt8) : (o ++ ⟨#[c]⟩ ++ n).data.toList = o.data.toList ++ c :: n.data.toList := by
  rw [ByteArray.data_append, ByteArray.data_append, Array.toList_append, Array.toList_append]
  simp
theorem cat3_size (o n : ByteArray) (c : UInt8) : (o ++ ⟨#[c]⟩ ++ n).size = o.size + 1 + n.size := by
  rw [ByteArray.size_append, ByteArray.size_append]; rfl
set_option maxRecDepth 100000 in
set_option maxHeartbeats 12800000 in
theorem layOnce_walk (w : World) (hML : MaxL w) (a : Option Addr) (c : Nat) (doms : List Dm) (hlc : doms.length ≤ c) (hcm : c ≤ maxLen) (hc : Cells w a (doms.flatMap domCells)) (z : Int) (_zw : (Lit.int .i64 z).wf = true) (y : Int) (_yw : (Lit.int .i64 y).wf = true) :
    Calls Tryd.prog 4 #[.slice a doms.length c, .int .i64 z, .int .i64 y] w (Fine7 w) := by
  obtain ⟨N, hN⟩ : ∃ N, doms.length = N := ⟨_, rfl⟩
  have HFW := Lib.hid (few_ok w a doms c (Nat.le_trans hlc hcm) hc)
  have HC := Lib.hid hc; have HN := Lib.hid hN; have HML := Lib.hid hML
  unfold maxLen at hcm
  rw [hN] at hlc HFW ⊢
  clear hc hN hML
  obtain ⟨fb, hfb⟩ : ∃ fb, fewB doms = fb := ⟨_, rfl⟩
  rw [hfb] at HFW
  cases fb with
  | false =>
    clear hfb
    go_enter Tryd.func4, Tryd.ntmps4
    go_wp2_with fail
    refine HFW.out.mono ?_
    rintro e w' ⟨rfl, rfl⟩
    go_wp2_with fail
    refine (awake7 w HML.out).mono ?_
    rintro e w2 ⟨rfl, hb2⟩
    have HB2 := Lib.hid hb2
    clear hb2
    go_wp2_with fail
    go_ret
    exact ⟨rfl, HB2.out⟩
  | true =>
  obtain ⟨hN40, hnm⟩ := few_out hfb
  have HNM : Hid (∀ d ∈ doms, d.name.size ≤ maxLen) := Lib.hid (fun d hd => by have := hnm d hd; unfold maxLen; omega)
  have HCK := Lib.hid (check_ok w a doms c hN40 HC.out HNM.out)
  rw [HN.out] at hN40 HCK
  clear hfb hnm
  obtain ⟨mb, hmb⟩ : ∃ mb, mayB doms = mb := ⟨_, rfl⟩
  rw [hmb] at HCK
  cases mb with
  | false =>
    rw [if_neg (by decide)] at HCK
    clear hmb
    go_enter Tryd.func4, Tryd.ntmps4
    go_wp2_with fail
    refine HFW.out.mono ?_
    rintro e w' ⟨rfl, rfl⟩
    go_wp2_with fail
    refine HCK.out.mono ?_
    rintro e w1 ⟨rfl, hb1⟩
    have HB1 := Lib.hid hb1
    clear hb1
    go_wp2_with fail
    refine (awake7 w1 (HML.out.below HB1.out)).mono ?_
    rintro e w2 ⟨rfl, hb2⟩
    have HB2 := Lib.hid (HB1.out.trans (hb2.mono HB1.out.size))
    clear hb2
    go_wp2_with fail
    go_ret
    exact ⟨rfl, HB2.out⟩
  | true =>
  rw [if_pos rfl] at HCK
  have HMAY := Lib.hid hmb
  clear hmb
  by_cases hN0 : N = 0
  · have d0 : ((N : Int) == 0) = true := by rw [beq_iff_eq]; omega
    clear hN0
    go_enter Tryd.func4, Tryd.ntmps4
    go_wp2_with fail
    refine HFW.out.mono ?_
    rintro e w' ⟨rfl, rfl⟩
    go_wp2_with fail
    refine HCK.out.mono ?_
    rintro e w1 ⟨rfl, hb1⟩
    have HB1 := Lib.hid hb1
    clear hb1
    go_wp2_with fail
    refine (awake7 w1 (HML.out.below HB1.out)).mono ?_
    rintro e w2 ⟨rfl, hb2⟩
    have HB2 := Lib.hid (HB1.out.trans (hb2.mono HB1.out.size))
    clear hb2
    go_wp2_with fail
    go_ret
    exact ⟨rfl, HB2.out⟩
  have d0 : ((N : Int) == 0) = false := by rw [beq_eq_false_iff_ne]; omega
  have hN32 : N ≤ 32 := by rw [← HN.out]; exact (may_iff.1 HMAY.out).2.2.2
  obtain ⟨t0, ht0, ht1⟩ := low7 z
  obtain ⟨T, hT⟩ : ∃ T, t0 % N = T := ⟨_, rfl⟩
  have hTN : T < N := by rw [← hT]; exact Nat.mod_lt _ (by omega)
  have hmod : Hid (∀ i, i < N → (i + t0) % N = sg N T i) := Lib.hid (fun i hi => by rw [← hT]; exact sg_mod (by omega) hi)
  have HTN : Hid (T < doms.length) := Lib.hid (by rw [HN.out]; exact hTN)
  have hn0 : ¬ N = 0 := hN0
  have htm : (t0 : Int).tmod (N : Int) = (T : Int) := by rw [← hT]; rfl
  have hsg0 : sg N T 0 = T := by unfold sg; rw [if_pos (by omega)]; omega
  obtain ⟨fo, hfo⟩ : ∃ fo, sg N T = fo := ⟨_, rfl⟩
  have HFO := Lib.hid hfo
  have HF0 : Hid (fo 0 = T) := Lib.hid (by rw [← hfo]; exact hsg0)
  have hdT := at_get (doms := doms) (i := T) HTN.out
  obtain ⟨dT, hdTe⟩ : ∃ dT, at_ doms T = dT := ⟨_, rfl⟩
  rw [hdTe] at hdT
  obtain ⟨nT, zT⟩ := dT
  have HNT : Hid (nm doms T = nT.data.toList) := Lib.hid (by unfold nm; rw [hdTe])
  have HNS : Hid (nT.size ≤ 16) := Lib.hid (by have := name16 HMAY.out HTN.out; rw [hdTe] at this; exact this)
  have HDT := Lib.hid hdT
  clear hT hN0 hsg0 hfo hdT hdTe
  go_enter Tryd.func4, Tryd.ntmps4
  go_wp2_with fail
  refine HFW.out.mono ?_
  rintro e w' ⟨rfl, rfl⟩
  go_wp2_with fail
  refine HCK.out.mono ?_
  rintro e w1 ⟨rfl, hb1⟩
  have HB1 := Lib.hid hb1
  obtain ⟨bT, oT7, hae, hbT, kT, _⟩ := (HC.out.below hb1).dom HDT.out
  subst hae
  clear hb1 HFW HCK
  go_wp2_with fail
  go_loopg [8, 9] N (fun mm u x wr => ∃ (i : Nat) (o : ByteArray), mm + i = N ∧ i < N ∧ u = .string o ∧ x = .int .i64 ((i + 1 : Nat) : Int) ∧ o.data.toList = oT (nm doms) fo (stB y) i ∧ o.size ≤ 17 * (i + 1) ∧ w1 = wr)
  case atStart => exact ⟨0, nT, by omega, by omega, rfl, rfl, by rw [oT_zero, HF0.out, HNT.out], by have := HNS.out; omega, rfl⟩
  case round =>
    obtain ⟨i, o, hm, hiN, rfl, rfl, hot, hos, rfl⟩ := hrel
    have HM := Lib.hid hm; have HOT := Lib.hid hot
    clear hm hot
    obtain ⟨i1, hi1⟩ : ∃ i1, i + 1 = i1 := ⟨_, rfl⟩
    have HI1 := Lib.hid hi1
    rw [hi1] at hos ⊢
    by_cases hi : i1 < N
    · obtain ⟨q, hq⟩ : ∃ q, i1 + t0 = q := ⟨_, rfl⟩
      have hqi : (i1 : Int) + (t0 : Int) = (q : Int) := by omega
      have hq3 : q ≤ 296 := by omega
      obtain ⟨k, hk⟩ : ∃ k, q % N = k := ⟨_, rfl⟩
      have hkN : k < N := by rw [← hk]; exact Nat.mod_lt _ (by omega)
      have ht : (q : Int).tmod (N : Int) = (k : Int) := by rw [← hk]; rfl
      have hks : fo i1 = k := by rw [← HFO.out, ← hk, ← hq]; exact (hmod.out i1 hi).symm
      have hd := at_get (doms := doms) (i := k) (by rw [HN.out]; exact hkN)
      obtain ⟨d, hde⟩ : ∃ d, at_ doms k = d := ⟨_, rfl⟩
      rw [hde] at hd
      obtain ⟨nme, siz⟩ := d
      have hns : nme.size ≤ 16 := by have := name16 HMAY.out (k := k) (by rw [HN.out]; exact hkN); rw [hde] at this; exact this
      obtain ⟨b3, o3, hae, hb3, k3, _⟩ := (HC.out.below HB1.out).dom hd
      injection hae with hae
      injection hae with e1 e2 _
      subst e1 e2
      have hnk : nm doms k = nme.data.toList := by unfold nm; rw [hde]
      obtain ⟨sb, hsb⟩ : ∃ sb, stB y i1 = sb := ⟨_, rfl⟩
      have hbit := stB_is y i1
      rw [hsb] at hbit
      have hbe : ((sb.toNat : Int) == 1) = sb := by cases sb <;> rfl
      have HNX : Hid (oT (nm doms) fo (stB y) i1 = o.data.toList ++ (if sb then 95 else 42) :: nme.data.toList) := Lib.hid (by
        rw [← hi1, oT_next, ← HOT.out, hi1, hks, hnk, hsb])
      clear hq hk hd hde hks hnk hsb hi1
      cases sb with
      | true =>
        go_wp2_with fail
        go_roundg (N - i1)
        case measure => have := HM.out; have := HI1.out; omega
        case rel => exact ⟨i1, o ++ ⟨#[95]⟩ ++ nme, by omega, hi, rfl, by go_num, by rw [cat3, HNX.out]; rfl, by rw [cat3_size]; omega, rfl⟩
      | false =>
        go_wp2_with fail
        go_roundg (N - i1)
        case measure => have := HM.out; have := HI1.out; omega
        case rel => exact ⟨i1, o ++ ⟨#[42]⟩ ++ nme, by omega, hi, rfl, by go_num, by rw [cat3, HNX.out]; rfl, by rw [cat3_size]; omega, rfl⟩
    · have hiN1 : i1 = N := by omega
      clear hi1
      have hiN2 : i = doms.length - 1 := by have := HI1.out; have := HN.out; omega
      have HOR : Hid (OrderIs doms o.data.toList (oG fo (stB y) (doms.length - 1))) := Lib.hid (by
        rw [HOT.out, hiN2, ← HFO.out, ← HN.out]
        exact oT_order HMAY.out (by have := HTN.out; omega) HTN.out (stB y))
      obtain ⟨gs, hgs⟩ : ∃ gs, oG fo (stB y) (doms.length - 1) = gs := ⟨_, rfl⟩
      rw [hgs] at HOR
      have HPA := Lib.hid (place_ok w1 (some ⟨bT, oT7, none⟩) doms c o (by rw [HN.out]; exact hN40) (HC.out.below HB1.out) HNM.out (by omega) (HML.out.below HB1.out))
      rw [HN.out] at HPA
      clear hgs hiN2
      go_wp2_with fail
      refine HPA.out.mono ?_
      rintro e W2 ⟨hb2, ⟨h, _⟩ | ⟨_, h, _⟩ | ⟨_, gs2, oba, ho, rfl, hra⟩⟩
      · rw [HMAY.out] at h; cases h
      · exact absurd HOR.out (h _)
      have hg2 : gs2 = gs := ho.uniq HMAY.out HOR.out
      subst hg2
      have HB2 := Lib.hid (HB1.out.trans (hb2.mono HB1.out.size)); have HRA := Lib.hid hra
      rw [HN.out] at HRA ⊢
      have hbe : ((N : Int) != (N : Int)) = false := by simp
      have HBI := Lib.hid (bitsD_ok W2 (some ⟨bT, oT7, none⟩) doms c (by rw [HN.out]; exact hN40) (HC.out.below HB2.out) HNM.out)
      obtain ⟨AW, hAW⟩ : ∃ AW, allW doms = AW := ⟨_, rfl⟩
      have hAW256 : AW ≤ 256 := by rw [← hAW]; exact (may_iff.1 HMAY.out).2.2.1
      rw [if_pos HMAY.out, HN.out, hAW] at HBI
      have HAW := Lib.hid hAW
      obtain ⟨i0, hi0, iz0, iz1, iz2⟩ := info_parts bool_info7
      have hmk2 := run_make_n (P := Tryd.prog) 35 4 i0 (.bool false) 1 1 Tryd.underlying35 hi0 iz0 iz1 iz2 .i64 .i64 AW AW (Nat.le_refl _) (by omega) (by omega)
      have e0 : madeCells (Value.bool false).cells (AW * 1) = tabV AW fun _ => .bool false := made_repL AW _
      rw [e0] at hmk2
      clear e0 hb2 hra ho HPA hAW
      go_wp2_with fail
      refine HBI.out.mono ?_
      rintro e W3 ⟨rfl, hb3⟩
      have HB3 := Lib.hid (HB2.out.trans (hb3.mono HB2.out.size)); have HRA3 := Lib.hid (HRA.out.below hb3)
      obtain ⟨sb, hsb⟩ : ∃ sb, W3.heap.size = sb := ⟨_, rfl⟩
      obtain ⟨W4, hW4⟩ : ∃ W4, W4 = W3.alloc (.cells (tabV AW fun _ => .bool false) 4) := ⟨_, rfl⟩
      have hb4 : Below W3.heap.size W3 W4 := by rw [hW4]; exact (Below.refl _ _).alloc (Nat.le_refl _) _
      have HK4 : Hid (Blk W4 sb 4 (tabV AW fun v => .bool (seenF doms gs2 0 0 v))) := Lib.hid (by
        have e : (fun v => Value.bool (seenF doms gs2 0 0 v)) = fun _ => Value.bool false := funext fun v => by rw [seen_zero]
        rw [e, hW4, ← hsb]; exact Blk.new_ _ _ _)
      have HSB : Hid (W3.heap.size = sb) := Lib.hid hsb
      have HW4 := Lib.hid hW4; have HB4 := Lib.hid hb4
      clear hb3 hsb hW4 hb4 HBI HRA
      go_upto_region 16 with (fail)
      rw [HSB.out]
      rw [← HW4.out]
      go_wp2_with fail
      go_loopg [14, 15] N (fun mm x14 x15 wr => ∃ i : Nat, mm + i = N ∧ x14 = .int .i64 (sumN doms i : Int) ∧ x15 = .int .i64 (i : Int) ∧ Blk wr sb 4 (tabV AW fun v => .bool (seenF doms gs2 i 0 v)) ∧ Below W3.heap.size W3 wr)
      case atStart => exact ⟨0, by omega, rfl, rfl, HK4.out, HB4.out⟩
      case round =>
        obtain ⟨m, hm2, rfl, rfl, hk2, hbw⟩ := hrel
        have HM2 := Lib.hid hm2; have HK2 := Lib.hid hk2; have HBW := Lib.hid hbw
        have hsl := sumN_le m (by rw [HN.out]; omega) (by
          refine (good_iff m (by rw [HN.out]; omega)).2 ?_
          obtain ⟨g1, g2, _⟩ := may_iff.1 HMAY.out
          exact ⟨fun d hd => g1 d (List.mem_of_mem_take hd), by rw [List.map_take]; exact g2.sublist (List.take_sublist _ _)⟩)
        obtain ⟨sn, hsn⟩ : ∃ sn, sumN doms m = sn := ⟨_, rfl⟩
        have HSN := Lib.hid hsn
        have hm40 : m ≤ N := by omega
        rw [hsn] at hsl ⊢
        clear hm2 hk2 hbw hsn
        obtain ⟨V1, hren⟩ : ∃ x, x = wr := ⟨_, rfl⟩
        subst hren
        by_cases hmN : m < N
        · have hd := at_get (doms := doms) (i := m) (by rw [HN.out]; exact hmN)
          have hokd := (may_iff.1 HMAY.out).1 _ (List.mem_of_getElem? hd)
          obtain ⟨wd, hwd⟩ : ∃ wd, wF doms m = wd := ⟨_, rfl⟩
          have hwd30 : wd ≤ 30 := by rw [← hwd]; exact wF_le HMAY.out (by rw [HN.out]; exact hmN)
          have hsnx := sumN_next hd
          obtain ⟨d, hde⟩ : ∃ d, at_ doms m = d := ⟨_, rfl⟩
          have hwdd : widD d = wd := by rw [← hde]; exact hwd
          rw [hde] at hd hokd hsnx
          rw [hwdd, HSN.out] at hsnx
          obtain ⟨nme, siz⟩ := d
          rw [okD_eq, Bool.and_eq_true, Bool.and_eq_true, decide_eq_true_eq, decide_eq_true_eq] at hokd
          obtain ⟨e1, e2⟩ := widS_dom (d := ⟨nme, siz⟩) hokd.1 (Int.le_trans hokd.2.1 (by decide))
          rw [hwdd] at e1
          obtain ⟨b3, o3, hae, hb3, _, k3⟩ := (HC.out.below (HB3.out.trans (HBW.out.mono HB3.out.size))).dom hd
          injection hae with hae
          injection hae with q1 q2 _
          subst q1 q2
          have HWI := Lib.hid (rwidth_ok siz V1)
          rw [e1, e2] at HWI
          have hrow : ((List.range N).map fun k => zN (rowP doms gs2 k))[m]? = some (zN (rowP doms gs2 m)) := by rw [List.getElem?_map, List.getElem?_range hmN]; rfl
          have hrl : (zN (rowP doms gs2 m)).length = wd := by rw [zN_len, row_len HMAY.out HOR.out (by rw [HN.out]; exact hmN), hwd]
          obtain ⟨b4, o4, ad, cp, hae, hb4, k4, hrc, _⟩ := (HRA3.out.below HBW.out).at_ hrow
          injection hae with hae
          injection hae with q1 q2 _
          subst q1 q2
          rw [hrl, Nat.zero_add] at k4
          have hww : ((wd : Int) != (wd : Int)) = false := by simp
          have HSX := Lib.hid hsnx; have HRL := Lib.hid hrl; have HROWE := Lib.hid hrow
          clear hd hwd hde hwdd hokd e1 e2 hsnx hrow hrl hrc
          go_wp2_with fail
          refine HWI.out.mono ?_
          rintro e w' ⟨rfl, rfl⟩
          go_wp2_with fail
          go_loopg [14, 18] wd (fun mm x14 x18 wr2 => ∃ j : Nat, mm + j = wd ∧ x14 = .int .i64 ((sn + j : Nat) : Int) ∧ x18 = .int .i64 (j : Int) ∧ Blk wr2 sb 4 (tabV AW fun v => .bool (seenF doms gs2 m j v)) ∧ Below W3.heap.size W3 wr2)
          case atStart => exact ⟨0, by omega, rfl, rfl, HK2.out, HBW.out⟩
          case round =>
            obtain ⟨j, hm3, rfl, rfl, hk3, hbw3⟩ := hrel
            have HM3 := Lib.hid hm3; have HK3 := Lib.hid hk3; have HBW3 := Lib.hid hbw3
            have hj30 : j ≤ wd := by omega
            clear hm3 hk3 hbw3
            by_cases hj : j < wd
            · obtain ⟨V2, hren⟩ : ∃ x, x = wr := ⟨_, rfl⟩
              subst hren
              obtain ⟨v, hv⟩ : ∃ v, (rowP doms gs2 m)[j]? = some v := ⟨_, List.getElem?_eq_getElem (by have := HRL.out; rw [zN_len] at this; omega)⟩
              have hvz : (zN (rowP doms gs2 m))[j]? = some (v : Int) := by unfold zN; rw [List.getElem?_map, hv]; rfl
              have hvA : v < AW := by rw [← HAW.out]; exact row_lt HMAY.out HOR.out (List.mem_of_getElem? hv)
              obtain ⟨b5, o5, ad, cp, hae, hb5, k5, hrc5, _⟩ := (HRA3.out.below HBW3.out).at_ HROWE.out
              injection hae with hae
              injection hae with q1 q2 _
              subst q1 q2
              rw [HRL.out, Nat.zero_add] at k5
              obtain ⟨b6, o6, rfl, hb6, k6⟩ := hrc5.at_ (zV_at hvz)
              have ks : V2.cell? ⟨sb, v, none⟩ = some (.bool false) := by rw [HK3.out.cell, tabV_get _ hvA, seen_new hv]
              have kf : V2.frozen? ⟨sb, v, none⟩ = false := HK3.out.frozen v
              have hsbl := HK3.out.lt
              have d1 : decide ((AW : Int) ≤ (v : Int)) = false := decide_eq_false (by omega)
              have d1' : decide (AW ≤ v) = false := decide_eq_false (by omega)
              have HKN : Hid (Blk (V2.setCell ⟨sb, v, none⟩ (.bool true)) sb 4 (tabV AW fun u => .bool (seenF doms gs2 m (j + 1) u))) := Lib.hid (by
                have h := HK3.out.set_ v (.bool true)
                rw [tabV_set _ hvA] at h
                have e : fup (fun v => Value.bool (seenF doms gs2 m j v)) v (.bool true) = fun u => Value.bool (seenF doms gs2 m (j + 1) u) := funext fun u => by
                  unfold fup
                  rw [seen_put hv]
                  by_cases e : u = v
                  · rw [if_pos e, if_pos e]
                  · rw [if_neg e, if_neg e]
                rw [e] at h
                exact h)
              have HBN : Hid (Below W3.heap.size W3 (V2.setCell ⟨sb, v, none⟩ (.bool true))) := Lib.hid (HBW3.out.setCell (by rw [HSB.out]; exact Nat.le_refl _) _)
              have HV := Lib.hid hv
              obtain ⟨sj, hsj⟩ : ∃ sj, sn + j = sj := ⟨_, rfl⟩
              have hsj2 : sj ≤ 1300 := by omega
              have HSJ := Lib.hid hsj
              rw [hsj]
              clear hv hvz hrc5 hsj
              rcases Nat.eq_zero_or_pos j with hj0 | hj0
              · have d3 : decide ((0 : Int) < (j : Int)) = false := decide_eq_false (by omega)
                have d3' : decide (0 < j) = false := decide_eq_false (by omega)
                clear hj0
                go_wp2_with fail
                go_roundg (wd - (j + 1))
                case measure => have := HM3.out; omega
                case rel => exact ⟨j + 1, by have := HM3.out; omega, by have := HSJ.out; go_num, by go_num, HKN.out, HBN.out⟩
              · obtain ⟨j1, hj1⟩ : ∃ j1, j1 + 1 = j := ⟨j - 1, by omega⟩
                have hji : (j : Int) - 1 = (j1 : Int) := by omega
                have hj1w : j1 < wd := by omega
                obtain ⟨u, hu⟩ : ∃ u, (rowP doms gs2 m)[j1]? = some u := ⟨_, List.getElem?_eq_getElem (by have := HRL.out; rw [zN_len] at this; omega)⟩
                have huv : v < u := by
                  obtain ⟨h1, e1⟩ := List.getElem?_eq_some_iff.1 hu
                  obtain ⟨h2, e2⟩ := List.getElem?_eq_some_iff.1 HV.out
                  have := List.pairwise_iff_getElem.1 (row_down (doms := doms) (gs := gs2) m) j1 j h1 h2 (by omega)
                  rw [e1, e2] at this
                  exact this
                have huz : (zN (rowP doms gs2 m))[j1]? = some (u : Int) := by unfold zN; rw [List.getElem?_map, hu]; rfl
                obtain ⟨b7, o7, ad7, cp7, hae, _, k7, hrc7, _⟩ := (HRA3.out.below HBW3.out).at_ HROWE.out
                injection hae with hae
                injection hae with q1 q2 _
                subst q1 q2
                rw [HRL.out, Nat.zero_add, k5] at k7
                injection k7 with k7
                injection k7 with q1 _ q3
                subst q1 q3
                obtain ⟨b8, o8, hae, hb8, k8⟩ := hrc7.at_ (zV_at huz)
                injection hae with hae
                injection hae with q1 q2 _
                subst q1 q2
                have d2 : decide ((u : Int) ≤ (v : Int)) = false := decide_eq_false (by omega)
                have d2' : decide (u ≤ v) = false := decide_eq_false (by omega)
                have d3 : decide ((0 : Int) < (j : Int)) = true := decide_eq_true (by omega)
                have d3' : decide (0 < j) = true := decide_eq_true hj0
                clear hu huz hrc7 huv hj1
                go_wp2_with fail
                go_roundg (wd - (j + 1))
                case measure => have := HM3.out; omega
                case rel => exact ⟨j + 1, by have := HM3.out; omega, by have := HSJ.out; go_num, by go_num, HKN.out, HBN.out⟩
            · have hjw : j = wd := by have := HM3.out; omega
              subst hjw
              have HKN : Hid (Blk wr sb 4 (tabV AW fun v => .bool (seenF doms gs2 (m + 1) 0 v))) := Lib.hid (by
                have e : (fun v => Value.bool (seenF doms gs2 m j v)) = fun v => Value.bool (seenF doms gs2 (m + 1) 0 v) := funext fun v => by rw [seen_row doms gs2 m v (by have := HRL.out; rw [zN_len] at this; exact this)]
                rw [← e]; exact HK3.out)
              go_wp2_with fail
              go_roundg (N - (m + 1))
              case measure => have := HM2.out; omega
              case rel => exact ⟨m + 1, by have := HM2.out; omega, by rw [HSX.out], by go_num, HKN.out, HBW3.out⟩
        · have hmN2 : m = N := by omega
          subst hmN2
          have hsa : sn = AW := by
            rw [← HSN.out, ← HAW.out]
            unfold sumN allW
            rw [List.take_of_length_le (by rw [HN.out]; exact Nat.le_refl _)]
          subst hsa
          have hss : ((sn : Int) == (sn : Int)) = true := by simp
          have HB5 := Lib.hid (HB3.out.trans (HBW.out.mono HB3.out.size))
          go_wp2_with fail
          refine (awake7 V1 (HML.out.below HB5.out)).mono ?_
          rintro e W5 ⟨rfl, hb5⟩
          have HB6 := Lib.hid (HB5.out.trans (hb5.mono HB5.out.size))
          clear hb5
          go_wp2_with fail
          go_ret
          exact ⟨rfl, HB6.out⟩
end Go.Proofs.YtedfakpmdncnmaaDoor
