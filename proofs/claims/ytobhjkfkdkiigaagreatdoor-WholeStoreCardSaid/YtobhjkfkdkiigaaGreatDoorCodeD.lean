/- Layer 8: the contract of Tuple. -/
import Derived.Test.YtobhjkfkdkiigaaGreatDoorCodeC
import Derived.Deep.RegionHeld3
namespace Go.Proofs.YtobhjkfkdkiigaaGreatDoor
open Go.RowKit HP NP LY
theorem srt_of {ds : List Nat} (hd : ∀ d ∈ ds, d < 4) (hn : ds.Nodup) : ∃ L : List Nat, srt (zN ((List.range (2 * ds.length)).map (pv ds))) = zN L ∧ L.length = 2 * ds.length ∧ L.Pairwise (· < ·) ∧ (∀ x, x ∈ L ↔ ∃ i, i < 2 * ds.length ∧ x = pv ds i) := by
  obtain ⟨zs, hz⟩ : ∃ zs, zs = zN ((List.range (2 * ds.length)).map (pv ds)) := ⟨_, rfl⟩
  have hnn : ∀ z ∈ srt zs, 0 ≤ z := fun z hz' => by
    rw [srt_mem, hz] at hz'
    obtain ⟨d, _, rfl⟩ := zN_mem hz'
    omega
  have hback : zN ((srt zs).map Int.toNat) = srt zs := by
    unfold zN
    rw [List.map_map]
    refine (List.map_congr_left (fun z hz' => ?_)).trans (List.map_id _)
    have := hnn z hz'
    show ((z.toNat : Nat) : Int) = z
    omega
  have hnd : zs.Nodup := by
    rw [hz]
    unfold zN
    rw [List.map_map]
    refine nodup_on (fun i hi j hj e => ?_) List.nodup_range
    have e' : pv ds i = pv ds j := by have e2 : ((pv ds i : Nat) : Int) = ((pv ds j : Nat) : Int) := e; omega
    exact pv_inj hd hn (List.mem_range.1 hi) (List.mem_range.1 hj) e'
  have hsort : (srt zs).Pairwise (· ≤ ·) := (List.pairwise_mergeSort (le := fun x y : Int => decide (x ≤ y)) (fun a b c h1 h2 => by simp at *; omega) (fun a b => by simp; omega) zs).imp (fun h => by simpa using h)
  have hlt : (srt zs).Pairwise (· < ·) := by
    have h2 : (srt zs).Nodup := (srt_perm zs).nodup_iff.2 hnd
    exact (hsort.and h2).imp fun h => by omega
  refine ⟨(srt zs).map Int.toNat, by rw [hback, hz], by rw [List.length_map, srt_len, hz, zN_len, List.length_map, List.length_range], ?_, fun x => ?_⟩
  · rw [List.pairwise_map]
    exact hlt.imp_of_mem fun ha hb h => by have := hnn _ ha; have := hnn _ hb; omega
  · constructor
    · intro hx
      obtain ⟨z, hz', rfl⟩ := List.mem_map.1 hx
      rw [srt_mem, hz] at hz'
      obtain ⟨d, hd', rfl⟩ := zN_mem hz'
      obtain ⟨i, hi, rfl⟩ := List.mem_map.1 hd'
      exact ⟨i, List.mem_range.1 hi, by simp⟩
    · rintro ⟨i, hi, rfl⟩
      refine List.mem_map.2 ⟨((pv ds i : Nat) : Int), ?_, by simp⟩
      rw [srt_mem, hz]
      unfold zN
      rw [List.map_map]
      exact List.mem_map.2 ⟨i, List.mem_range.2 hi, rfl⟩
theorem pv_snoc (ds : List Nat) (n : Nat) : zV (zN ((List.range n).map (pv ds))) ++ [.int .i64 (pv ds n : Int)] = zV (zN ((List.range (n + 1)).map (pv ds))) := by
  unfold zV zN
  rw [List.range_succ, List.map_append, List.map_append, List.map_append]; rfl
theorem pv_two {ds : List Nat} {i d j : Nat} (hd : ds[i]? = some d) (hj : j < 2) : pv ds (2 * i + j) = (atN d).getD j 0 := by
  unfold pv
  have e : ds.getD i 0 = d := by rw [List.getD_eq_getElem?_getD, hd]; rfl
  rw [show (2 * i + j) / 2 = i by omega, show (2 * i + j) % 2 = j by omega, e]
theorem pb_two {vals : List Nat} {i v j : Nat} (hv : vals[i]? = some v) (hj : j < 2) : pb vals (2 * i + j) = v.testBit j := by
  unfold pb
  have e : vals.getD i 0 = v := by rw [List.getD_eq_getElem?_getD, hv]; rfl
  rw [show (2 * i + j) / 2 = i by omega, show (2 * i + j) % 2 = j by omega, e]
theorem atN_get {d j : Nat} (hd : d < 4) (hj : j < 2) : (zV (zN (atN d)))[j]? = some (.int .i64 ((atN d).getD j 0 : Int)) := by
  have hl := atN_len hd
  unfold zV zN
  rw [List.getElem?_map, List.getElem?_map, List.getD_eq_getElem?_getD, List.getElem?_eq_getElem (by omega)]; rfl
set_option maxRecDepth 100000 in
set_option maxHeartbeats 12800000 in
theorem tuple_ok (w : World) (B p q qn cb : Nat) (S : NS) (h : Cd w B p q qn cb S) (a va : Option Addr) (ds vals : List Nat) (c vc : Nat) (hl : ds.length ≤ 4) (hvl : vals.length = ds.length) (hd : ∀ d ∈ ds, d < 4) (hv : ∀ v ∈ vals, v < 4) (hn : ds.Nodup) (hcs : Cells w a (zV (zN ds))) (hcv : Cells w va (zV (zN vals))) (hr : NP.cnt S.l + 2 * ds.length ≤ S.budget) :
    Calls Tryz.prog 33 #[.pointer (some ⟨cb, 0, none⟩), .slice a ds.length c, .slice va vals.length vc] w (YesPost B p q qn cb S (tupG ds vals) (2 * ds.length) w) := by
  have HV := Lib.hid (vars_ok w cb qn h.code a ds c hl hd hn hcs)
  have H := Lib.hid h; have HD := Lib.hid hd; have HVV := Lib.hid hv; have HN := Lib.hid hn; have HCS := Lib.hid hcs; have HCV := Lib.hid hcv; have HR := Lib.hid hr
  obtain ⟨i0, hi0, hz0, hz1, hz2⟩ := info_parts info_intC
  obtain ⟨N, hNN⟩ : ∃ N, ds.length = N := ⟨_, rfl⟩
  have HNN := Lib.hid hNN
  have HVL := Lib.hid (hvl.trans hNN)
  rw [hvl, hNN]
  rw [hNN] at HV hl
  have hmk := @run_makeMap Tryz.prog
  clear h hd hv hn hcs hcv hr hNN hvl
  go_enter Tryz.func33, Tryz.ntmps33
  go_wp2_with fail
  refine HV.out.mono ?_
  rintro e w1 ⟨hb1, va1, vc1, rfl, _⟩
  have HB1 := Lib.hid hb1
  clear hb1
  go_wp2_with fail
  obtain ⟨mb, hmb⟩ : ∃ mb, mb = w1.heap.size := ⟨_, rfl⟩
  have hal : Below w1.heap.size w1 (w1.alloc (.map #[] 0)) := (Below.refl _ _).alloc (Nat.le_refl _) _
  have HM0 : Hid (BMap (w1.alloc (.map #[] 0)) mb (fun _ => none)) := Lib.hid (by rw [hmb]; exact BMap.new _)
  have HAL := Lib.hid (HB1.out.trans (hal.mono HB1.out.size))
  have HSZ : Hid (w.heap.size ≤ mb) := Lib.hid (by rw [hmb]; exact HB1.out.size)
  rw [← hmb]
  clear hmk hal hmb
  go_loopg [11, 42] N (fun m v x wr => ∃ (k : Nat) (oa : Option Addr) (oc : Nat), m + k = N ∧ x = .int .i64 (k : Int) ∧ v = .slice oa (2 * k) oc ∧ wr.ownsRow (mb + 1) 3 1 (.slice oa (2 * k) oc) (2 * k) (zV (zN ((List.range (2 * k)).map (pv ds)))) ∧ BMap wr mb (mpT ds vals (2 * k)) ∧ Below w.heap.size w wr)
  case atStart => exact ⟨0, none, 0, rfl, rfl, rfl, World.ownsRow_nil _ _ _ _, HM0.out, HAL.out⟩
  case round =>
    obtain ⟨k, oa, oc, hm, rfl, rfl, ho, hs, hb⟩ := hrel
    have HM := Lib.hid hm; have HO := Lib.hid ho; have HS := Lib.hid hs; have HB := Lib.hid hb
    clear hm ho hs hb
    by_cases hk : k < N
    · obtain ⟨d, hx⟩ : ∃ d, ds[k]? = some d := ⟨_, List.getElem?_eq_getElem (by rw [HNN.out]; exact hk)⟩
      obtain ⟨v, hy⟩ : ∃ v, vals[k]? = some v := ⟨_, List.getElem?_eq_getElem (by rw [HVL.out]; exact hk)⟩
      have hd4 := HD.out d (List.mem_of_getElem? hx)
      have hv4 := HVV.out v (List.mem_of_getElem? hy)
      obtain ⟨b, off, rfl, hbl, x0⟩ := HCS.out.at_ (show (zV (zN ds))[k]? = some (.int .i64 (d : Int)) by unfold zV zN; rw [List.getElem?_map, List.getElem?_map, hx]; rfl)
      obtain ⟨yb, yoff, rfl, ybl, y0⟩ := HCV.out.at_ (show (zV (zN vals))[k]? = some (.int .i64 (v : Int)) by unfold zV zN; rw [List.getElem?_map, List.getElem?_map, hy]; rfl)
      have x0' : wr.cell? ⟨b, off + k, none⟩ = some (.int .i64 (d : Int)) := (HB.out.cell (p := ⟨b, _, none⟩) hbl).trans x0
      have y0' : wr.cell? ⟨yb, yoff + k, none⟩ = some (.int .i64 (v : Int)) := (HB.out.cell (p := ⟨yb, _, none⟩) ybl).trans y0
      have hbl' : b < wr.heap.size := Nat.lt_of_lt_of_le hbl HB.out.size
      have ybl' : yb < wr.heap.size := Nat.lt_of_lt_of_le ybl HB.out.size
      obtain ⟨db, doff, dc', ab, aoff, ac', ad, cap, c0, c1, c2, cl, dbl, d0, abl, a0, hrow⟩ := (H.out.code.below HB.out).dom hd4
      have HROW := Lib.hid hrow
      have q1 : decide ((4 : Int) ≤ (v : Int)) = false := decide_eq_false (by omega)
      have q1' : decide (4 ≤ v) = false := decide_eq_false (by omega)
      have q0 : decide ((v : Int) < 0) = false := decide_eq_false (by omega)
      have z1 : (0 : Int) ≤ (d : Int) := by omega
      have z2 : (d : Int) < 4 := by omega
      have HX := Lib.hid hx; have HY := Lib.hid hy; have HD4 := Lib.hid hd4; have HV4 := Lib.hid hv4
      clear hx hy x0 y0 hrow
      go_wp2_with fail
      go_quiet (fail)
      obtain ⟨w2, hw2⟩ : ∃ w2, w2 = wr.drewN nq := ⟨_, rfl⟩
      have hb2 : Below wr.heap.size wr w2 := by rw [hw2]; exact bdN' _ _
      rw [← hw2]
      have HB2 := Lib.hid (HB.out.trans (hb2.mono HB.out.size)); have HO2 := Lib.hid (own_below HO.out hb2); have HS2 : Hid (BMap w2 mb (mpT ds vals (2 * k))) := Lib.hid (MapAt.below HS.out hb2)
      have HKP : Hid (∀ W, Below wr.heap.size wr W → (W.cell? ⟨yb, yoff + k, none⟩ = some (.int .i64 (v : Int)) ∧ W.cell? ⟨cb, 2, none⟩ = some (.slice (some ⟨ab, aoff, none⟩) 4 ac')) ∧ W.cell? ⟨ab, aoff + d, none⟩ = some (.slice ad 2 cap)) := Lib.hid fun W hW =>
        ⟨⟨(hW.cell (p := ⟨yb, _, none⟩) ybl').trans y0', (hW.cell (p := ⟨cb, _, none⟩) cl).trans c2⟩, (hW.cell (p := ⟨ab, _, none⟩) abl).trans a0⟩
      have hd2 : Below wr.heap.size wr w2.drew := hb2.trans (Below.refl _ _).drew
      have HK0 := Lib.hid (HKP.out _ hd2)
      have HLT : Hid (ab < w2.heap.size ∧ cb < w2.heap.size ∧ yb < w2.heap.size) := Lib.hid (by have := hb2.size; omega)
      have HROW2 := Lib.hid (HROW.out.below hb2)
      obtain ⟨hlt1, hlt2, hlt3⟩ := HLT.out
      obtain ⟨e1, e2⟩ := putR_yes v 2 (by decide) (by omega)
      have HP := Lib.hid (bput_ok v 2 w2.drew)
      rw [show ((2 : Nat) : Int) = 2 from rfl] at e1 e2
      rw [e1, e2] at HP
      have HE2 := Lib.hid hd2
      clear x0' y0' hbl' ybl' c0 c1 c2 cl dbl d0 abl a0 hw2 hb2 hd2 e1 e2 q1 q1'
      go_wp2_with fail
      go_region_held3 (fun w' => (w'.cell? ⟨yb, yoff + k, none⟩ = some (.int .i64 (v : Int)) ∧ w'.cell? ⟨cb, 2, none⟩ = some (.slice (some ⟨ab, aoff, none⟩) 4 ac')) ∧ w'.cell? ⟨ab, aoff + d, none⟩ = some (.slice ad 2 cap))
        (first | with_reducible exact HK0.out | with_reducible exact HK3.out) (first | (go_at_call 58; ((with_reducible refine HP.out.mono ?_); rintro e w3 ⟨ba, bc, rfl, _, hcb, htb, hb3⟩; have HK3 := Lib.hid (HKP.out _ (HE2.out.trans (hb3.mono HE2.out.size))))))
      have hb23 : Below w2.heap.size w2 w3 := (Below.refl w2.heap.size w2).drew.trans (hb3.mono (Nat.le_refl _))
      have HB3 := Lib.hid (HB2.out.trans (hb23.mono HB2.out.size)); have HO3 := Lib.hid (own_below HO2.out hb23); have HS3 : Hid (BMap w3 mb (mpT ds vals (2 * k))) := Lib.hid (MapAt.below HS2.out hb23); have HCB : Hid (Cells w3 ba ((putLB v 2).map Value.bool) ∧ TB w3 ba 4) := Lib.hid ⟨hcb, htb⟩
      have hpl : (putLB v 2).length = 2 := putL_lenB v 2
      rw [hpl]
      clear hlt1 hlt2 hlt3 hb23 hb3 hcb htb hpl HP HK0 HKP HE2 HLT
      go_wp2_with fail
      go_loopg [11, 85] 2 (fun m v' x wr' => ∃ (j : Nat) (oa : Option Addr) (oc : Nat), m + j = 2 ∧ x = .int .i64 (j : Int) ∧ v' = .slice oa (2 * k + j) oc ∧ wr'.ownsRow (mb + 1) 3 1 (.slice oa (2 * k + j) oc) (2 * k + j) (zV (zN ((List.range (2 * k + j)).map (pv ds)))) ∧ BMap wr' mb (mpT ds vals (2 * k + j)) ∧ Kb (fun t => t == 3) w3 wr' ∧ Below w.heap.size w wr')
      case atStart => exact ⟨0, oa, oc, rfl, rfl, rfl, HO3.out, HS3.out, (fun _ _ _ h _ => h), HB3.out⟩
      case round =>
        obtain ⟨j, oa, oc, hm, rfl, rfl, ho, hs, hb0, hb⟩ := hrel
        have HM2 := Lib.hid hm; have HO := Lib.hid ho; have HS := Lib.hid hs; have HB := Lib.hid hb; have HB0 := Lib.hid hb0
        clear hm ho hs hb hb0
        by_cases hj : j < 2
        · obtain ⟨bb, boff, rfl, bbl', b0'⟩ := (HCB.out.1.kb HCB.out.2 HB0.out rfl).at_ (show ((putLB v 2).map Value.bool)[j]? = some (.bool (v.testBit j)) by rw [List.getElem?_map, putL_atB v 2 j hj]; rfl)
          obtain ⟨db, doff, dc', ab, aoff, ac', ad, cap, c0, c1, c2, cl, dbl, d0, abl, a0, hrow⟩ := (H.out.code.below HB.out).dom hd4
          obtain ⟨rb, roff, rfl, rbl, r0⟩ := hrow.c.at_ (atN_get hd4 hj)
          obtain ⟨x, hx⟩ : ∃ x, x = (atN d).getD j 0 := ⟨_, rfl⟩
          rw [← hx] at r0
          have hpx : pv ds (2 * k + j) = x := (pv_two HX.out hj).trans hx.symm
          have hx8 : x < 8 := by rw [hx]; exact at_lt8 d hd4 j hj
          have HPX := Lib.hid hpx; have HX8 := Lib.hid hx8; have HXE := Lib.hid hx
          obtain ⟨bt, hbt⟩ : ∃ bt, bt = v.testBit j := ⟨_, rfl⟩
          rw [← hbt] at b0'
          have HBT := Lib.hid ((pb_two HY.out hj).trans hbt.symm)
          have hcm : cntS (fun y => (mpT ds vals (2 * k + j) y).isSome) 8 < maxLen := by have := cntS_le (fun y => (mpT ds vals (2 * k + j) y).isSome) 8; unfold maxLen; omega
          have HCM := Lib.hid hcm; have HCN := Lib.hid (cnt_bM (m := mpT ds vals (2 * k + j)) (b := bt) hx8)
          have HKEY := Lib.hid (keyI x (by omega))
          have hsm : mb < wr.heap.size := MapAt.lt HS.out
          clear hbt hx hpx hcm hrow
          go_wp2_with (at_mapUpdate; refine wpList_msetn rfl (.tmp 90) (.tmp 100) (.tmp 101) 106 rfl 4 (Maps.int_keyed Tryz.underlying3) Tryz.underlying106 rfl HS.out HCM.out _ (.bool bt) _ rfl rfl HKEY.out _ HCN.out ?_)
          intro w5 hs5 hg5
          have HS5 : Hid (BMap w5 mb (mpT ds vals (2 * k + j + 1))) := Lib.hid (by
            have e : mpT ds vals (2 * k + j + 1) = fun y => if y = x then some bt else mpT ds vals (2 * k + j) y := by
              show (fun y => if y = pv ds (2 * k + j) then some (pb vals (2 * k + j)) else mpT ds vals (2 * k + j) y) = _
              rw [HPX.out, HBT.out]
            rw [e]
            unfold BMap
            rw [← bM_set]; exact hs5)
          have hB5 : Below w.heap.size w w5 := HB.out.grown hg5 HB.out.size (fun i hi => by injection hi with hi; have := HSZ.out; omega)
          have HB5 := Lib.hid hB5; have HB05 : Hid (Kb (fun t => t == 3) w3 w5) := Lib.hid (HB0.out.trans (MapAt.kb HS.out hg5 _))
          have HO5 := Lib.hid (own_kb HO.out (MapAt.kb HS.out hg5 (fun _ => false)) rfl)
          clear c0 c1 c2 cl dbl d0 abl a0 r0 rbl b0' bbl' hs5 hg5
          obtain ⟨db, doff, dc', ab, aoff, ac', ad, cap, c0, c1, c2, cl, dbl, d0, abl, a0, hrow⟩ := (H.out.code.below hB5).dom hd4
          obtain ⟨rb, roff, rfl, rbl, r0⟩ := hrow.c.at_ (atN_get hd4 hj)
          rw [← HXE.out] at r0
          have hs5 : mb + 1 ≤ w5.heap.size := MapAt.lt HS5.out
          have hn5 : 2 * k + j ≤ 8 := by omega
          have HLS : Hid (w5.heap.size ≤ (w5.alloc (.cells #[.int .i64 (x : Int)] 3)).heap.size) := Lib.hid (by simp)
          clear hB5 hrow
          go_wp2_with (at_builtin; refine wpList_append_src rfl (.tmp 102) (.tmp 113) 45 rfl (mb + 1) 3 i0 (.int .i64 0) 1 8 Tryz.underlying45 hi0 hz0 hz1 hz2 rfl (by decide) (.slice oa (2 * k + j) oc) (2 * k + j) _ rfl (HO5.out.alloc _) (some ⟨w5.heap.size, 0, none⟩) 1 1 [.int .i64 (x : Int)] rfl rfl (Cells.lit w5 _ _) (by simp [Value.oneCell']) (by unfold maxLen; omega) (by omega) (Nat.le_trans hs5 HLS.out) ?_)
          intro v6 w6 hown hg6 _
          obtain ⟨oa6, oc6, rfl⟩ := own_shape hown
          rw [← HPX.out, pv_snoc] at hown
          have hal5 : Below w5.heap.size w5 (w5.alloc (.cells #[.int .i64 (x : Int)] 3)) := (Below.refl _ _).alloc (Nat.le_refl _) _
          have HO6 := Lib.hid hown
          have HB6 := Lib.hid ((HB5.out.alloc HB5.out.size _).grown hg6 (Nat.le_trans HB5.out.size hal5.size) (fun i hi => by have := (HO5.out.lt i hi).1; have := HSZ.out; omega))
          have HS6 : Hid (BMap w6 mb (mpT ds vals (2 * k + j + 1))) := Lib.hid (MapAt.grown (MapAt.below HS5.out hal5) hg6 (fun e => by have := (HO5.out.lt mb e.symm).1; omega))
          have HB06 : Hid (Kb (fun t => t == 3) w3 w6) := Lib.hid ((HB05.out.trans (Kp.of_below (T := fun t => t == 3) (B := 0) hal5).kb).trans (own_grown_kb (HO5.out.alloc _) hg6))
          clear hown hg6 hal5 c0 c1 c2 cl dbl d0 abl a0 r0 rbl
          go_wp2_with fail
          go_roundg (2 - (j + 1))
          case measure => have := HM2.out; omega
          case rel => exact ⟨j + 1, oa6, oc6, by have := HM2.out; omega, by go_num, rfl, HO6.out, HS6.out, HB06.out, HB6.out⟩
        · have hj2 : j = 2 := by have := HM2.out; omega
          subst hj2
          go_wp2_with fail
          go_roundg (N - (k + 1))
          case measure => have := HM.out; omega
          case rel => exact ⟨k + 1, oa, oc, by have := HM.out; omega, by go_num, rfl, HO.out, HS.out, HB.out⟩
    · have hkN : k = N := by have := HM.out; omega
      subst hkN
      obtain ⟨L, hL1, hL2, hL3, hL4⟩ := srt_of HD.out HN.out
      rw [HNN.out] at hL1 hL2 hL4
      have HL1 := Lib.hid hL1; have HL2 := Lib.hid hL2; have HL3 := Lib.hid hL3; have HL4 := Lib.hid hL4
      have hln : (zN ((List.range (2 * k)).map (pv ds))).length = 2 * k := by rw [zN_len, List.length_map, List.length_range]
      have HSO := Lib.hid (sort6_ok wr (mb + 1) oc oa _ (2 * k) hln (by omega) HO.out (MapAt.lt HS.out))
      rw [hL1] at HSO
      clear hk hL1 hL2 hL3 hL4 hln
      go_wp2_with fail
      refine HSO.out.mono ?_
      rintro e w4 ⟨rfl, ho4, hb4⟩
      have hsz := HSZ.out
      have hmw : mb < wr.heap.size := MapAt.lt HS.out
      have HO4 := Lib.hid ho4
      have HB4 := Lib.hid (HB.out.trans (hb4.mono (show w.heap.size ≤ mb + 1 by omega)))
      have HS4 : Hid (BMap w4 mb (mpT ds vals (2 * k))) := Lib.hid (MapAt.keep HS.out (hb4.block mb (by omega)))
      obtain ⟨f, hf⟩ : ∃ f : Nat → Bool, f = fun x => (mpT ds vals (2 * k) x).getD false := ⟨_, rfl⟩
      have HF : Hid (∀ i, i < 2 * k → mpT ds vals (2 * k) (pv ds i) = some (f (pv ds i)) ∧ f (pv ds i) = pb vals i) := Lib.hid fun i hi => by
        have h1 := mpT_at vals HD.out HN.out (2 * k) (by rw [HNN.out]; exact Nat.le_refl _) i hi
        have h2 : f (pv ds i) = pb vals i := by rw [hf]; show (mpT ds vals (2 * k) (pv ds i)).getD false = _; rw [h1]; rfl
        exact ⟨by rw [h1, h2], h2⟩
      have HC4 := Lib.hid (H.out.below HB4.out)
      clear ho4 hb4 HSO hsz hmw hf
      go_wp2_with fail
      go_loopg [18, 19] (2 * k) (fun m y x wr => ∃ (S' : NS) (kk : Nat), m ≤ 2 * k ∧ x = .int .i64 ((m : Int) - 1) ∧ y = .int .i64 (kk : Int) ∧ Cd wr B p q qn cb S' ∧ Kp TO B w wr ∧ GotOk S (cnjG f (L.drop m)) (2 * k - m) S' kk ∧ wr.ownsRow (mb + 1) 3 1 (.slice oa (2 * k) oc) (2 * k) (zV (zN L)) ∧ BMap wr mb (mpT ds vals (2 * k)))
      case atStart =>
        refine ⟨S, 1, Nat.le_refl _, by first | rfl | (congr 1; omega), rfl, HC4.out, Kp.of_below HB4.out, ?_, HO4.out, HS4.out⟩
        rw [List.drop_of_length_le (Nat.le_of_eq HL2.out)]
        exact GotOk.same H.out.sto.wf (Den.one H.out.sto.wf)
      case round =>
        obtain ⟨S', kk, hm, rfl, rfl, hc, hk, hg, ho, hs⟩ := hrel
        have HMM := Lib.hid hm; have HC := Lib.hid hc; have HK := Lib.hid hk; have HG := Lib.hid hg; have HO := Lib.hid ho; have HS := Lib.hid hs
        clear hm hc hk hg ho hs
        by_cases hm0 : gk = 0
        · subst hm0
          have HD0 : Hid (GotOk S (tupG ds vals) (2 * k) S' kk) := Lib.hid (by
            have h := HG.out
            rw [List.drop_zero, Nat.sub_zero] at h
            exact h.cong (fun ρ => cnj_tup (ds := ds) (vals := vals) (by rw [HNN.out]; exact HL4.out) (by rw [HNN.out]; exact fun i hi => (HF.out i hi).2) ρ) (Nat.le_refl _))
          have hz : decide ((0 : Int) ≤ ((0 : Nat) : Int) - 1) = false := by decide
          go_wp2_with fail
          go_ret2
          exact ⟨S', kk, rfl, HC.out, HK.out, HD0.out⟩
        · obtain ⟨m, rfl⟩ : ∃ m, gk = m + 1 := ⟨gk - 1, by omega⟩
          have hml : m < 2 * k := by have := HMM.out; omega
          have hmi : (((m + 1 : Nat) : Int) - 1) = (m : Int) := by omega
          obtain ⟨v, hv⟩ : ∃ v, L[m]? = some v := ⟨_, List.getElem?_eq_getElem (by rw [HL2.out]; exact hml)⟩
          have hd : L.drop m = v :: L.drop (m + 1) := by
            obtain ⟨h1, h2⟩ := List.getElem?_eq_some_iff.1 hv
            rw [List.drop_eq_getElem_cons h1, h2]
          obtain ⟨i, hi, hvi⟩ := (HL4.out v).1 (List.mem_of_getElem? hv)
          have hv8 : v < 8 := by rw [hvi]; exact pv_lt HD.out (by rw [HNN.out]; exact hi)
          have hfv : (mpT ds vals (2 * k) v) = some (f v) := by rw [hvi]; exact (HF.out i hi).1
          have hfr : From (cnjG f (L.drop (m + 1))) (v + 1) := cnjG_from fun x hx => by
            have h3 := HL3.out
            rw [← List.take_append_drop m L, hd, List.pairwise_append] at h3
            have := (List.pairwise_cons.1 h3.2.1).1 x hx
            omega
          have hat : atF (bM (mpT ds vals (2 * k))) (.int .i64 (v : Int)) (.bool false) = .bool (f v) := by unfold atF; rw [bM_at, hfv]; rfl
          obtain ⟨ob, oo, rfl, obl, o0⟩ := (own_cellsV HO.out).at_ (show (zV (zN L))[m]? = some (.int .i64 (v : Int)) by unfold zV zN; rw [List.getElem?_map, List.getElem?_map, hv]; rfl)
          have hrm : NP.cnt S'.l + 1 < S'.budget + 1 := by
            have h1 := HG.out.cnt; have h2 := HR.out; rw [HNN.out] at h2; rw [HG.out.ext.budget]; omega
          have HMK := Lib.hid (fun (lo hi : Nat) gl gh hl hh fl fh => cmk_ok wr B p q qn cb S' HC.out v lo hi gl gh hl hh fl fh hv8 hrm)
          have HAT := Lib.hid hat; have HFR := Lib.hid hfr; have HDR := Lib.hid hd
          have HKEY := Lib.hid (keyI v (by omega))
          have HQ := Lib.hid (qops_ok wr qn p q HC.out.qu); have HST := Lib.hid (ostore_ok wr B p q S' HC.out.ops)
          obtain ⟨da, dc, aa, ac, c0, c1, c2, cl⟩ := HC.out.code.cell
          have hdl : m < 2 * k := hml
          clear hv hd hvi hfv hfr hat hrm hm0 hi
          rw [hmi]
          obtain ⟨fv, hfe⟩ : ∃ fv, fv = f v := ⟨_, rfl⟩
          have HFE := Lib.hid hfe
          rw [← hfe] at HAT
          have hg1 := HG.out
          have hz := H.out.sto.wf
          have HGD : Hid (Den S' kk (cnjG f (L.drop (m + 1)))) := Lib.hid hg1.den
          have HDZ := Lib.hid (Den.zero HC.out.sto.wf)
          have HFIN : Hid (∀ S2 k2, GotOk S' (cnjG f (L.drop m)) 1 S2 k2 → GotOk S (cnjG f (L.drop m)) (2 * k - m) S2 k2) := Lib.hid fun S2 k2 h2 => ⟨h2.wf, HG.out.ext.trans h2.ext, h2.den, by have := HG.out.cnt; have := h2.cnt; omega, fun j => Nat.le_trans (h2.pin j) (HG.out.pin j), h2.sw.trans HG.out.sw⟩
          clear hfe hg1 hz
          cases fv with
          | true =>
            have HM := Lib.hid (HMK.out 0 kk _ _ HDZ.out HGD.out (fun _ _ _ => rfl) HFR.out)
            clear HMK
            go_wp2_with (at_lookup; refine wpList_mlook rfl (.tmp 131) (.tmp 132) 106 rfl 4 (Maps.int_keyed Tryz.underlying3) Tryz.underlying106 (zeroB _) rfl HS.out _ _ rfl HKEY.out ?_; rw [HAT.out])
            refine HQ.out.mono ?_
            rintro e w5 ⟨rfl, rfl⟩
            go_wp2_with fail
            refine HST.out.mono ?_
            rintro e w5 ⟨rfl, rfl⟩
            go_wp2_with fail
            refine HM.out.mono ?_
            rintro e w5 ⟨S2, k2, rfl, hc2, hk2, hg2⟩
            have HC2 := Lib.hid hc2; have HK2 := Lib.hid (Kp.trans HK.out hk2)
            have HG2 := Lib.hid (HFIN.out S2 k2 (hg2.cong (fun ρ => by rw [HDR.out, cnjG_cons, ← HFE.out]; simp) (Nat.le_refl _)))
            have HO2 := Lib.hid (own_kp HO.out hk2 rfl)
            have HS2 : Hid (BMap w5 mb (mpT ds vals (2 * k))) := Lib.hid (MapAt.kp HS.out hk2)
            clear hc2 hk2 hg2 c0 c1 c2 cl o0 obl
            go_wp2_with fail
            go_roundg m
            case measure => omega
            case rel => exact ⟨S2, k2, by omega, rfl, rfl, HC2.out, HK2.out, HG2.out, HO2.out, HS2.out⟩
          | false =>
            have HM := Lib.hid (HMK.out kk 0 _ _ HGD.out HDZ.out HFR.out (fun _ _ _ => rfl))
            clear HMK
            go_wp2_with (at_lookup; refine wpList_mlook rfl (.tmp 131) (.tmp 132) 106 rfl 4 (Maps.int_keyed Tryz.underlying3) Tryz.underlying106 (zeroB _) rfl HS.out _ _ rfl HKEY.out ?_; rw [HAT.out])
            refine HQ.out.mono ?_
            rintro e w5 ⟨rfl, rfl⟩
            go_wp2_with fail
            refine HST.out.mono ?_
            rintro e w5 ⟨rfl, rfl⟩
            go_wp2_with fail
            refine HM.out.mono ?_
            rintro e w5 ⟨S2, k2, rfl, hc2, hk2, hg2⟩
            have HC2 := Lib.hid hc2; have HK2 := Lib.hid (Kp.trans HK.out hk2)
            have HG2 := Lib.hid (HFIN.out S2 k2 (hg2.cong (fun ρ => by rw [HDR.out, cnjG_cons, ← HFE.out]; simp) (Nat.le_refl _)))
            have HO2 := Lib.hid (own_kp HO.out hk2 rfl)
            have HS2 : Hid (BMap w5 mb (mpT ds vals (2 * k))) := Lib.hid (MapAt.kp HS.out hk2)
            clear hc2 hk2 hg2 c0 c1 c2 cl o0 obl
            go_wp2_with fail
            go_roundg m
            case measure => omega
            case rel => exact ⟨S2, k2, by omega, rfl, rfl, HC2.out, HK2.out, HG2.out, HO2.out, HS2.out⟩
end Go.Proofs.YtobhjkfkdkiigaaGreatDoor
