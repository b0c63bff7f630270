/- Layer 7: the contract of Place. -/
import Derived.Test.YtedfakpmdncnmaaDoorLayN
namespace Go.Proofs.YtedfakpmdncnmaaDoor
open Go.RowKit LY
theorem rows_infoL : (Tryd.prog.info? 32).map (fun i => (i.zero, i.size, i.bytes)) = some (some (.slice none 0 0), 1, 24) := by kernel_rfl
theorem made_repL (n : Nat) (v : Value) : madeCells #[v] (n * 1) = tabV n fun _ => v := by
  apply Array.ext_getElem?
  intro j
  unfold madeCells
  by_cases hj : j < n
  · rw [tabV_get _ hj]; simp [hj, Nat.mod_one]
  · rw [Array.getElem?_eq_none (by simp; omega), Array.getElem?_eq_none (by rw [tabV_size]; omega)]
theorem setM_zero : setM (fun k => decide (k ∈ ([] : List Nat))) = fun _ => none := by
  funext l
  unfold setM
  split <;> simp
theorem setM_snoc (done : List Nat) (k : Nat) : setF (setM fun j => decide (j ∈ done)) (.int .i64 (k : Int)) (.bool true) = setM fun j => decide (j ∈ done ++ [k]) := by
  rw [setM_set]
  congr 1
  funext j
  unfold setB
  by_cases h1 : j ∈ done <;> by_cases h2 : j = k <;> simp [h1, h2]
theorem GrM.turn {w w' : World} {B ga n i : Nat} {g : Nat → List Nat} {sl : Nat → Value} (h : GrM w B ga n g sl) (hi : i < n) (hrow : w'.ownsRow B 3 1 (sl i) (g i).length (iV (g i).reverse)) (ho : Only (fun k => (sl i).ownBlock = some k) w w') : GrM w' B ga n (fup g i (g i).reverse) sl :=
  ⟨h.blk.only ho (fun e => own_ne_blk (h.row i hi) h.blk (by decide) e.symm), h.low, fun a ha => by
    by_cases e : a = i
    · subst e; rw [fup_same, List.length_reverse]; exact hrow
    · rw [fup_ne _ _ e]
      exact own_keep (h.row a ha) fun k hk => ho.block k ((h.row a ha).lt k hk).2 (fun e2 => h.apart i a hi ha (fun e3 => e e3.symm) k e2 hk), h.apart⟩
theorem GrM.rowsAt {w : World} {B ga n : Nat} {g : Nat → List Nat} {sl : Nat → Value} (h : GrM w B ga n g sl) : RowsAt w (some ⟨ga, 0, none⟩) ((List.range n).map fun k => zN (g k)) := by
  refine ⟨(List.range n).map sl, fun _ => ⟨ga, 0, rfl, h.blk.lt, fun i v hv => ?_⟩, fun i l hl => ?_⟩
  · rw [Nat.zero_add, h.blk.cell]
    unfold tabV
    rw [List.getElem?_toArray]; exact hv
  · rw [List.getElem?_map] at hl
    by_cases hi : i < n
    · rw [List.getElem?_range hi] at hl
      injection hl with hl
      subst hl
      obtain ⟨oa, cap, e, h1, h2, h3⟩ := Cells.of_own (h.row i hi)
      refine ⟨by rw [zN_len]; omega, oa, cap, ?_, by rw [← iV_zN]; exact h3⟩
      rw [List.getElem?_map, List.getElem?_range hi, zN_len]
      show some (sl i) = _
      rw [e]
    · rw [List.getElem?_eq_none (by simpa using hi)] at hl; cases hl
theorem LY.Dealt.len {st : St} (h : Dealt st) (k : Nat) : (st.2 k).length ≤ st.1 :=
  nodup_len ((h.up k).imp fun h => by omega) (h.lt k)
theorem own_cellsL {w : World} {base e size n : Nat} {v : Value} {xs : List Value} (h : w.ownsRow base e size v n xs) (hn : 0 < n) : ∃ g cap, v = .slice (some ⟨g, 0, none⟩) n cap ∧ base ≤ g := by
  rcases h.2 with ⟨h1, h2⟩ | ⟨g, cap, cur, h1, h4, _⟩
  · omega
  · exact ⟨g, cap, h1, h4⟩
theorem sum_min_le (w : Nat → Nat) (L : Nat) : ∀ l : List Nat, (l.map fun k => min L (w k)).sum ≤ L * l.length
  | [] => Nat.zero_le _
  | x :: l => by
    have := sum_min_le w L l
    rw [List.map_cons, List.sum_cons, List.length_cons, Nat.mul_succ]
    omega
theorem levN_le (w : Nat → Nat) (l : List Nat) (L : Nat) : levN w l L ≤ l.length := List.countP_le_length
def PlacePost (doms : List Dm) (s : ByteArray) (w : World) (e : Ending) (w' : World) : Prop := Below w.heap.size w w' ∧
  ((mayB doms = false ∧ e = .returned (.tuple #[.slice none 0 0, .int .i64 1])) ∨
   (mayB doms = true ∧ (∀ gs, ¬ OrderIs doms s.data.toList gs) ∧ e = .returned (.tuple #[.slice none 0 0, .int .i64 70])) ∨
   (mayB doms = true ∧ ∃ gs ob, OrderIs doms s.data.toList gs ∧ e = .returned (.tuple #[.slice (some ⟨ob, 0, none⟩) doms.length doms.length, .int .i64 0]) ∧ RowsAt w' (some ⟨ob, 0, none⟩) ((List.range doms.length).map fun k => zN (rowP doms gs k))))
set_option maxRecDepth 100000 in
set_option maxHeartbeats 16000000 in
theorem place_ok (w : World) (a : Option Addr) (doms : List Dm) (c : Nat) (s : ByteArray) (hl : doms.length ≤ 40) (hc : Cells w a (doms.flatMap domCells)) (hnm : ∀ d ∈ doms, d.name.size ≤ maxLen) (hs : s.size ≤ 1048576) (hML : MaxL w) :
    Calls Tryd.prog 8 #[.slice a doms.length c, .string s] w (PlacePost doms s w) := by
  have hmf : ∀ (fn : Fn) (first cap : Array Value) (w : World), (Instr.makeFunc fn first cap).run Tryd.prog w = .ok (.func fn first cap) w := fun _ _ _ _ => rfl
  have hmk := @run_makeMap Tryd.prog
  obtain ⟨l0, hl0, lz0, lz1, lz2⟩ := info_parts int_infoL
  obtain ⟨i0, hi0, iz0, iz1, iz2⟩ := info_parts rows_infoL
  obtain ⟨N, hN⟩ : ∃ N, doms.length = N := ⟨_, rfl⟩
  have HWI := Lib.hid (widths_ok w a doms c hl hc hnm)
  have HC := Lib.hid hc; have HNM := Lib.hid hnm; have HN := Lib.hid hN; have HML := Lib.hid hML
  rw [hN] at hl HWI ⊢
  have hmk2 := run_make_n (P := Tryd.prog) 27 32 i0 (.slice none 0 0) 1 24 Tryd.underlying27 hi0 iz0 iz1 iz2 .i64 .i64 N N (Nat.le_refl _) (by omega) (by omega)
  have e0 : madeCells (Value.slice none 0 0).cells (N * 1) = tabV N fun _ => .slice none 0 0 := made_repL N _
  rw [e0] at hmk2
  clear e0 hc hnm hN hML
  go_enter Tryd.func8, Tryd.ntmps8
  go_wp2_with fail
  refine HWI.out.mono ?_
  rintro e w1 ⟨hb1, ⟨hm, y, A, rfl⟩ | ⟨hm, y, rfl, hrow⟩⟩
  · have HB1 := Lib.hid hb1; have HMAY := Lib.hid hm
    clear hb1 hm
    go_wp2_with fail
    go_ret2
    exact ⟨HB1.out, .inl ⟨HMAY.out, rfl⟩⟩
  rw [HN.out] at hrow
  obtain ⟨wa, wc, rfl, _, _, hwc⟩ := Cells.of_own hrow
  have HB1 := Lib.hid hb1; have HMAY := Lib.hid hm; have HWC := Lib.hid hwc; have HROW := Lib.hid hrow
  obtain ⟨AW, hAW⟩ : ∃ AW, allW doms = AW := ⟨_, rfl⟩
  rw [hAW]
  obtain ⟨ob, hob⟩ : ∃ ob, ob = w1.heap.size := ⟨_, rfl⟩
  obtain ⟨am, ham⟩ : ∃ am, am = w1.heap.size + 1 := ⟨_, rfl⟩
  obtain ⟨w3, hw3⟩ : ∃ w3, w3 = (w1.alloc (.cells (tabV N fun _ => .slice none 0 0) 32)).alloc (.map #[] 0) := ⟨_, rfl⟩
  have hbm : Below w1.heap.size w1 w3 := by rw [hw3]; exact ((Below.refl _ _).alloc (Nat.le_refl _) _).alloc (by simp) _
  have HG3 : Hid (GrM w3 w1.heap.size ob N stZ.2 fun _ => .slice none 0 0) := Lib.hid (by rw [hw3, hob]; exact (GrM.made w1 N).below ((Below.refl _ _).alloc (Nat.le_refl _) _))
  have HM3 : Hid (MapAt w3 Tryd.prog 3 am 0 (setM fun k => decide (k ∈ ([] : List Nat)))) := Lib.hid (by
    rw [setM_zero, hw3, ham]
    have h := MapAt.made (w1.alloc (.cells (tabV N fun _ => .slice none 0 0) 32)) Tryd.prog 3
    rw [World.size_alloc] at h
    exact h)
  have HB3 := Lib.hid hbm; have HW3 := Lib.hid hw3; have HOB := Lib.hid hob; have HAM := Lib.hid ham
  clear hb1 hm hrow hwc hbm hw3 hob ham hAW HWI
  by_cases h0 : s.size = 0
  · have hse : s = ByteArray.empty := ByteArray.size_eq_zero_iff.1 h0
    subst hse
    have HGE : Hid (groupsT (ByteArray.empty).data.toList = []) := Lib.hid rfl
    go_upto_region 8 with (fail)
    rw [← HAM.out]
    rw [← HOB.out]
    rw [← HW3.out]
    go_wp2_with fail
    go_loopg [10, 46] 0 (fun mm x10 x wr => x10 = .int .i64 (N : Int) ∧ x = .int .i64 0 ∧ w3 = wr)
    case atStart => exact ⟨rfl, rfl, rfl⟩
    case round =>
      obtain ⟨rfl, rfl, rfl⟩ := hrel
      by_cases hN0 : N = 0
      · subst hN0
        go_wp2_with fail
        go_loopg [109] 0 (fun mm x wr => x = .int .i64 0 ∧ w3 = wr)
        case atStart => exact ⟨rfl, rfl⟩
        case round =>
          obtain ⟨rfl, rfl⟩ := hrel
          go_wp2_with fail
          go_ret2
          exact ⟨HB1.out.trans (HB3.out.mono HB1.out.size), .inr (.inr ⟨HMAY.out, [], ob, ⟨HGE.out, by simp, by simp, by simp [HN.out]⟩, by rw [HN.out]; rfl, by rw [HN.out]; exact ⟨[], Cells.nil _ _, fun i l hl => by cases hl⟩⟩)⟩
      · have hN1 : 0 < N := by omega
        have HNO : Hid (∀ gs', ¬ OrderIs doms (ByteArray.empty).data.toList gs') := Lib.hid (fun gs' h => by
          have h1 := h.txt
          rw [HGE.out] at h1
          have h2 : gs' = [] := by simpa using h1.symm
          have h3 := h.all
          rw [h2, HN.out] at h3
          simp at h3
          omega)
        clear hN0
        go_wp2_with fail
        go_ret2
        exact ⟨HB1.out.trans (HB3.out.mono HB1.out.size), .inr (.inl ⟨HMAY.out, HNO.out, rfl⟩)⟩
  have hne : s.toList.isEmpty = false := by
    rw [List.isEmpty_eq_false_iff]
    intro e
    apply h0
    rw [Lib.size_eq, ← Lib.toList_data, e]; rfl
  have HD0 : Hid (s.data.toList ≠ []) := Lib.hid (fun e => h0 (by rw [Lib.size_eq, e]; rfl))
  obtain ⟨m0, hm0⟩ := HML.out.below (HB1.out.trans (HB3.out.mono HB1.out.size))
  have HSP := Lib.hid (Tryd.strings_Split s ⟨#[95]⟩ m0 w3 (by omega) hm0 (by decide))
  obtain ⟨G, hG⟩ : ∃ G, (pcs 95 s).length = G := ⟨_, rfl⟩
  have HG := Lib.hid hG
  have hG2 : Lib.countB s ⟨#[95]⟩ + 1 = G := (pcs_len 95 s).symm.trans hG
  rw [hG2] at HSP
  have hGb : G ≤ 1048577 := by
    have := Lib.countB_le ⟨#[95]⟩ (by decide) s.size s (Nat.le_refl _)
    omega
  obtain ⟨P, hP⟩ : ∃ P, pcs 95 s = P := ⟨_, rfl⟩
  have HP := Lib.hid hP
  have hPle : ∀ x ∈ P, x.size ≤ 1048576 := fun x hx => by
    have := pcs_le (c := 95) (s := s) (x := x) (by rw [hP]; exact hx)
    omega
  have HPLE := Lib.hid hPle
  have hGL : Hid ((groupsT s.data.toList).length = G) := Lib.hid (by rw [groups_len HD0.out]; exact hG)
  clear h0 hm0 hG hP hPle
  go_upto_region 8 with (fail)
  rw [← HAM.out]
  rw [← HOB.out]
  rw [← HW3.out]
  go_wp2_with fail
  refine HSP.out.mono ?_
  rintro e w4 ⟨rfl, hw4⟩
  obtain ⟨gb, hgb⟩ : ∃ gb, w3.heap.size = gb := ⟨_, rfl⟩
  have hb4 : Below w3.heap.size w3 w4 := by rw [hw4]; exact (Below.refl _ _).alloc (Nat.le_refl _) _
  have HG4 := Lib.hid (HG3.out.below hb4); have HM4 := Lib.hid (HM3.out.below hb4); have HB4 := Lib.hid (HB3.out.trans (hb4.mono HB3.out.size))
  have HK4 : Hid (Blk w4 gb 9 (strV P)) := Lib.hid (by rw [hw4, ← hgb, ← HP.out]; exact Blk.new_ _ _ _)
  rw [hgb]
  clear hw4 hgb hb4 HSP HG3 HM3
  go_wp2_with fail
  go_loopg [10, 11, 46] G (fun mm x10 x11 x46 wr => ∃ (gs : List (List Nat)) (lf : Nat) (sl : Nat → Value), mm + gs.length = G ∧ lf + gs.flatten.length = N ∧ x10 = .int .i64 (lf : Int) ∧ x11 = .int .i64 ((outS (wF doms) 31 gs stZ).1 : Int) ∧ x46 = .int .i64 (gs.length : Int) ∧
    (groupsT s.data.toList).take gs.length = gs.map (fun g => g.map (nm doms)) ∧ (∀ k ∈ gs.flatten, k < doms.length) ∧ gs.flatten.Nodup ∧ Below w1.heap.size w1 wr ∧ GrM wr w1.heap.size ob N (outS (wF doms) 31 gs stZ).2 sl ∧ MapAt wr Tryd.prog 3 am gs.flatten.length (setM fun k => decide (k ∈ gs.flatten)) ∧ Blk wr gb 9 (strV P))
  case atStart => exact ⟨[], N, _, by simp, by simp, rfl, rfl, rfl, by simp, by simp, by simp, HB4.out, HG4.out, HM4.out, HK4.out⟩
  case round =>
    obtain ⟨gs, lf, sl, hm, hlf, rfl, rfl, rfl, hgrp, hlt, hnod, hb, hgr, hmp, hgbk⟩ := hrel
    obtain ⟨gi, hgi⟩ : ∃ gi, gs.length = gi := ⟨_, rfl⟩
    obtain ⟨fl, hfl⟩ : ∃ fl, gs.flatten = fl := ⟨_, rfl⟩
    obtain ⟨fn, hfn⟩ : ∃ fn, fl.length = fn := ⟨_, rfl⟩
    obtain ⟨st0, hst0⟩ : ∃ st0, outS (wF doms) 31 gs stZ = st0 := ⟨_, rfl⟩
    have HDL0 : Hid (Dealt st0) := Lib.hid (by rw [← hst0]; exact Dealt.out gs Dealt.zero)
    have hnx0 : Hid (st0.1 ≤ 256) := Lib.hid (by
      rw [← hst0, out_next gs stZ fun k hk => Nat.le_trans (wF_le HMAY.out (hlt k hk)) (by decide)]
      exact Nat.le_trans (Nat.le_of_eq (Nat.zero_add _)) (Nat.le_trans (sum_le hnod hlt) (may_iff.1 HMAY.out).2.2.1))
    rw [hfl] at hlt hnod hlf hmp
    rw [hfn] at hlf hmp
    rw [hst0] at hgr ⊢
    rw [hgi] at hm hgrp ⊢
    have HM := Lib.hid hm; have HLF := Lib.hid hlf; have HGRP := Lib.hid hgrp; have HLT := Lib.hid hlt; have HNOD := Lib.hid hnod; have HB := Lib.hid hb; have HGR := Lib.hid hgr; have HMP := Lib.hid hmp; have HGB := Lib.hid hgbk; have HGI := Lib.hid hgi; have HFL := Lib.hid hfl; have HFN := Lib.hid hfn; have HST0 := Lib.hid hst0
    clear hm hlf hgrp hlt hnod hb hgr hmp hgbk hgi hfl hfn hst0 HG4 HM4 HB4 HK4
    obtain ⟨wr1, hren⟩ : ∃ x, x = wr := ⟨_, rfl⟩
    subst hren
    by_cases hi : gi < G
    · obtain ⟨x, hx⟩ : ∃ x, P[gi]? = some x := ⟨_, List.getElem?_eq_getElem (by rw [← HP.out, HG.out]; exact hi)⟩
      have k0 := strV_cell HGB.out hx
      have hgbl := HGB.out.lt
      have hxs := HPLE.out x (List.mem_of_getElem? hx)
      have HERE : Hid ((groupsT s.data.toList)[gi]? = some ((pcs 42 x).map fun y => y.data.toList)) := Lib.hid (groups_at HD0.out (by rw [HP.out]; exact hx))
      obtain ⟨m1, hm1⟩ := HML.out.below (HB1.out.trans (HB.out.mono HB1.out.size))
      have HSP := Lib.hid (Tryd.strings_Split x ⟨#[42]⟩ m1 wr1 (by omega) hm1 (by decide))
      obtain ⟨J, hJ⟩ : ∃ J, (pcs 42 x).length = J := ⟨_, rfl⟩
      have hJ2 : Lib.countB x ⟨#[42]⟩ + 1 = J := (pcs_len 42 x).symm.trans hJ
      have hJ1 : 1 ≤ J := by omega
      rw [hJ2] at HSP
      obtain ⟨Q, hQ⟩ : ∃ Q, pcs 42 x = Q := ⟨_, rfl⟩
      rw [hQ] at HERE hJ
      obtain ⟨nb, hnb⟩ : ∃ nb, wr1.heap.size = nb := ⟨_, rfl⟩
      have HJ := Lib.hid hJ; have HQ := Lib.hid hQ; have HNB := Lib.hid hnb
      clear hx hm1 hJ hJ2 hQ hnb
      go_wp2_with fail
      refine HSP.out.mono ?_
      rintro e w5 ⟨rfl, hw5⟩
      have hb5 : Below wr1.heap.size wr1 w5 := by rw [hw5]; exact (Below.refl _ _).alloc (Nat.le_refl _) _
      have HB5 := Lib.hid (HB.out.trans (hb5.mono HB.out.size)); have HGR5 := Lib.hid (HGR.out.below hb5); have HMP5 := Lib.hid (HMP.out.below hb5); have HGB5 := Lib.hid (HGB.out.below hb5 HGB.out.lt)
      have HNK5 : Hid (Blk w5 nb 9 (strV Q)) := Lib.hid (by rw [hw5, ← HNB.out, ← HQ.out]; exact Blk.new_ _ _ _)
      rw [HNB.out]
      clear hw5 hb5 HSP k0 hgbl
      go_wp2_with fail
      go_loopg [10, 16, 53] J (fun mm x10 u x53 wr2 => ∃ (lst : List Nat) (lf2 : Nat), mm + lst.length = J ∧ lf2 + (fn + lst.length) = N ∧ x10 = .int .i64 (lf2 : Int) ∧ x53 = .int .i64 (lst.length : Int) ∧ (Q.map fun y => y.data.toList).take lst.length = lst.map (nm doms) ∧ (∀ k ∈ fl ++ lst, k < doms.length) ∧ (fl ++ lst).Nodup ∧
        OM am w5.heap.size w5 wr2 ∧ Below w1.heap.size w1 wr2 ∧ wr2.ownsRow w5.heap.size 3 1 u lst.length (iV lst) ∧ MapAt wr2 Tryd.prog 3 am (fn + lst.length) (setM fun k => decide (k ∈ fl ++ lst)))
      case atStart => exact ⟨[], lf, by simp, by have := HLF.out; simp; omega, rfl, rfl, by simp, by simpa using HLT.out, by simpa using HNOD.out, Only.refl _ _, HB5.out, World.ownsRow_nil _ _ _ _, by simpa using HMP5.out⟩
      case round =>
        obtain ⟨lst, lf2, hm, hlf, rfl, rfl, hpre, hlt2, hnod2, hom, hb2, hrow, hmp2⟩ := hrel
        obtain ⟨j, hj⟩ : ∃ j, lst.length = j := ⟨_, rfl⟩
        rw [hj] at hm hlf hpre hrow hmp2 ⊢
        have HM2 := Lib.hid hm; have HLF2 := Lib.hid hlf; have HPRE := Lib.hid hpre; have HLT2 := Lib.hid hlt2; have HNOD2 := Lib.hid hnod2; have HOM := Lib.hid hom; have HB2 := Lib.hid hb2; have HROW2 := Lib.hid hrow; have HMP2 := Lib.hid hmp2; have HJL := Lib.hid hj
        have hj40 : fn + j ≤ 40 := by omega
        clear hm hlf hpre hlt2 hnod2 hom hb2 hrow hmp2 hj
        obtain ⟨wr2, hren⟩ : ∃ x, x = wr := ⟨_, rfl⟩
        subst hren
        obtain ⟨mes, mcc, hmb5⟩ := HMP5.out.block
        have HMB5 := Lib.hid hmb5
        have HNK2 : Hid (Blk wr2 nb 9 (strV Q)) := Lib.hid (HNK5.out.om HOM.out hmb5 HNK5.out.lt)
        have HGB2 : Hid (Blk wr2 gb 9 (strV P)) := Lib.hid (HGB5.out.om HOM.out hmb5 HGB5.out.lt)
        have HGR2 := Lib.hid (HGR5.out.om HOM.out hmb5 (Nat.le_refl _))
        clear hmb5
        have HRD : Hid (Rd doms s.data.toList gs (Q.map fun y => y.data.toList) lst) := Lib.hid ⟨by rw [HGI.out]; exact HGRP.out, by rw [HGI.out]; exact HERE.out, by rw [HJL.out]; exact HPRE.out, by rw [HFL.out]; exact HLT2.out, by rw [HFL.out]; exact HNOD2.out⟩
        have NO : ∀ W', Below w1.heap.size w1 W' → (∀ gs', ¬ OrderIs doms s.data.toList gs') → PlacePost doms s w (.returned (.tuple #[.slice none 0 0, .int .i64 70])) W' := fun W' hb h => ⟨HB1.out.trans (hb.mono HB1.out.size), .inr (.inl ⟨HMAY.out, h, rfl⟩)⟩
        have HNO := Lib.hid NO
        clear NO
        by_cases hjJ : j < J
        · obtain ⟨y, hy⟩ : ∃ y, Q[j]? = some y := ⟨_, List.getElem?_eq_getElem (by rw [HJ.out]; exact hjJ)⟩
          have k2 := strV_cell HNK2.out hy
          have hnbl := HNK2.out.lt
          have HY := Lib.hid hy
          obtain ⟨sb, hsb⟩ : ∃ sb, wr2.heap.size = sb := ⟨_, rfl⟩
          obtain ⟨w6, hw6⟩ : ∃ w6, w6 = wr2.alloc (.cells #[.string y] 9) := ⟨_, rfl⟩
          have hb6 : Below wr2.heap.size wr2 w6 := by rw [hw6]; exact (Below.refl _ _).alloc (Nat.le_refl _) _
          have hk6 : Blk w6 sb 9 #[.string y] := by rw [hw6, ← hsb]; exact Blk.new_ _ _ _
          have HB6 := Lib.hid (HB2.out.trans (hb6.mono HB2.out.size)); have HOM6 := Lib.hid (HOM.out.trans (OM.of_below hb6)); have HROW6 := Lib.hid (own_below HROW2.out hb6); have HMP6 := Lib.hid (HMP2.out.below hb6)
          have HIX := Lib.hid (index_ok w6 a doms c (by rw [HN.out]; exact hl) (HC.out.below (HB1.out.trans (HB6.out.mono HB1.out.size))) y sb (hk6.cell 0) hk6.lt)
          rw [HN.out] at HIX
          have HW6 := Lib.hid hw6; have HSB := Lib.hid hsb
          clear hy hb6 hk6 hw6 hsb HB2 HOM HROW2 HMP2
          go_upto_region 18 with (fail)
          rw [HSB.out]
          rw [← HW6.out]
          go_wp2_with fail
          refine HIX.out.mono ?_
          rintro e w7 ⟨hb7, h⟩
          have HB7 := Lib.hid (HB6.out.trans (hb7.mono HB6.out.size)); have HOM7 := Lib.hid (HOM6.out.trans (OM.of_below hb7)); have HROW7 := Lib.hid (own_below HROW6.out hb7); have HMP7 := Lib.hid (HMP6.out.below hb7)
          clear hb7 k2 HB6 HOM6 HROW6 HMP6 HIX
          rcases h with ⟨k, hk, hkn, rfl⟩ | ⟨hno, rfl⟩
          · have hk40 : k < 40 := by rw [HN.out] at hk; omega
            have HKN : Hid (nm doms k = y.data.toList) := Lib.hid (by unfold nm; rw [hkn])
            have HKL := Lib.hid hk
            obtain ⟨sd, hsd⟩ : ∃ sd, decide (k ∈ fl ++ lst) = sd := ⟨_, rfl⟩
            have HKI : Hid (keyOf Tryd.prog 3 (.int .i64 (k : Int)) = some (.int .i64 (k : Int))) := Lib.hid (keyI k (by omega))
            have hrl := run_mlook 46 4 (Maps.int_keyed Tryd.underlying3) Tryd.underlying46 (zeroB _) HMP7.out _ _ HKI.out
            have hat : atF (setM fun k => decide (k ∈ fl ++ lst)) (.int .i64 (k : Int)) (.bool false) = .bool sd := by
              unfold atF
              rw [setM_at, hsd]
              cases sd <;> rfl
            rw [hat] at hrl
            have HQJ : Hid ((Q.map fun y => y.data.toList)[lst.length]? = some (nm doms k)) := Lib.hid (by rw [HJL.out, List.getElem?_map, HY.out, HKN.out]; rfl)
            clear hat hk hkn
            cases sd with
            | true =>
              have HIN := Lib.hid (of_decide_eq_true hsd)
              clear hsd
              go_wp2_with fail
              go_ret2
              exact HNO.out _ HB7.out (HRD.out.twice HMAY.out HKL.out HQJ.out (by rw [HFL.out]; exact HIN.out))
            | false =>
              have HIN := Lib.hid (of_decide_eq_false hsd)
              clear hsd
              have HCN : Hid ((if (setM (fun k => decide (k ∈ fl ++ lst)) (.int .i64 (k : Int))).isSome then fn + j else fn + j + 1) = fn + (j + 1)) := Lib.hid (by
                rw [setM_at, decide_eq_false HIN.out]; rfl)
              have hfm : fn + j < maxLen := by unfold maxLen; omega
              obtain ⟨lf3, hlf3⟩ : ∃ lf3, lf3 + 1 = lf2 := ⟨lf2 - 1, by
                have h1 := HLF2.out
                have h2 := nodup_len (l := fl ++ lst ++ [k]) (n := doms.length) (by
                  rw [List.nodup_append]
                  exact ⟨HNOD2.out, by simp, fun a ha b hb => by rw [List.mem_singleton.1 hb]; rintro rfl; exact HIN.out ha⟩) (fun q hq => by
                  rcases List.mem_append.1 hq with hq | hq
                  · exact HLT2.out q hq
                  · rw [List.mem_singleton.1 hq]; exact HKL.out)
                rw [List.length_append, List.length_append, HFN.out, HJL.out, HN.out] at h2
                simp at h2
                omega⟩
              have hlfi : (lf2 : Int) - 1 = (lf3 : Int) := by omega
              have hlf40 : lf3 ≤ 40 := by have := HLF2.out; omega
              have HLF3 := Lib.hid hlf3
              have HPN : Hid ((Q.map fun y => y.data.toList).take (j + 1) = (lst ++ [k]).map (nm doms)) := Lib.hid (by
                have h := HQJ.out
                rw [HJL.out] at h
                rw [List.take_add_one, HPRE.out, h, List.map_append]; rfl)
              have HLTN : Hid (∀ q ∈ fl ++ (lst ++ [k]), q < doms.length) := Lib.hid (fun q hq => by
                rw [← List.append_assoc] at hq
                rcases List.mem_append.1 hq with hq | hq
                · exact HLT2.out q hq
                · rw [List.mem_singleton.1 hq]; exact HKL.out)
              have HNDN : Hid ((fl ++ (lst ++ [k])).Nodup) := Lib.hid (by
                rw [← List.append_assoc, List.nodup_append]
                exact ⟨HNOD2.out, by simp, fun a ha b hb => by rw [List.mem_singleton.1 hb]; rintro rfl; exact HIN.out ha⟩)
              obtain ⟨sf, hsf⟩ : ∃ sf : Nat → Bool, (fun k => decide (k ∈ fl ++ lst)) = sf := ⟨_, rfl⟩
              rw [hsf] at HMP7 HCN
              have HSF := Lib.hid hsf
              clear hlf3 hsf
              go_wp2_with (at_mapUpdate; refine wpList_msetn rfl (.tmp 67) (.tmp 68) (.const (.bool true)) 46 rfl 4 (Maps.int_keyed Tryd.underlying3) Tryd.underlying46 rfl HMP7.out hfm _ _ _ rfl rfl HKI.out _ HCN.out ?_)
              intro w8 hm8 hg8
              have HMP8 : Hid (MapAt w8 Tryd.prog 3 am (fn + (j + 1)) (setM fun q => decide (q ∈ fl ++ (lst ++ [k])))) := Lib.hid (by rw [← List.append_assoc, ← setM_snoc, HSF.out]; exact hm8)
              have HB8 := Lib.hid (HB7.out.grown hg8 HB7.out.size (fun j e => by injection e with e; have := HAM.out; omega))
              have HOM8 := Lib.hid (HOM7.out.trans (OM.map hg8))
              have HROW8 := Lib.hid (own_kb HROW7.out (HMP7.out.kb hg8 (fun _ => false)) rfl)
              have hs8 := HB8.out.size; have hs58 := HOM8.out.size
              clear hm8 hg8 hrl HB7 HOM7 HROW7 HMP7
              go_wp2_with (at_builtin; refine wpList_append_sep rfl (.tmp 69) (.tmp 71) 32 rfl w5.heap.size 3 l0 (.int .i64 0) 1 8 Tryd.underlying32 hl0 lz0 lz1 lz2 rfl (by decide) u16 j _ rfl (HROW8.out.alloc _) w8.heap.size 0 1 1 [.int .i64 (k : Int)] rfl rfl (lit_one _ _ _) (ones_int _) (by unfold maxLen; omega) (by omega) (by simp; omega) ?_)
              intro y9 w9 hown9 hg9 hsep9
              have hal : Below w8.heap.size w8 (w8.alloc (.cells #[.int .i64 (k : Int)] 3)) := (Below.refl _ _).alloc (Nat.le_refl _) _
              have HROW9 : Hid (w9.ownsRow w5.heap.size 3 1 y9 (lst ++ [k]).length (iV (lst ++ [k]))) := Lib.hid (by
                rw [iV_app, List.length_append, HJL.out]; exact hown9)
              have HMP9 : Hid (MapAt w9 Tryd.prog 3 am (fn + (j + 1)) (setM fun q => decide (q ∈ fl ++ (lst ++ [k])))) := Lib.hid (by
                have h := HMP8.out.below hal
                obtain ⟨es, cc, hbk⟩ := h.block
                exact h.grown hg9 (own_not_map (HROW8.out.alloc _) hbk).symm)
              have HOM9 := Lib.hid ((HOM8.out.trans (OM.of_below hal)).trans (OM.row (HROW8.out.alloc _) hg9))
              have HB9 : Hid (Below w1.heap.size w1 w9) := Lib.hid ((HB8.out.trans (hal.mono HB8.out.size)).grown hg9 (by simp; omega) (fun q hq => by
                have h1 := (HROW8.out.lt q hq).1
                have h2 := HB5.out.size
                omega))
              clear hown9 hg9 hsep9 hal
              go_wp2_with fail
              go_roundg (J - (j + 1))
              case measure => have := HM2.out; omega
              case rel => exact ⟨lst ++ [k], lf3, by have := HM2.out; have := HJL.out; simp; omega, by have := HLF2.out; have := HLF3.out; have := HJL.out; simp; omega, by go_num, by rw [List.length_append, HJL.out]; go_num, by rw [List.length_append, HJL.out]; exact HPN.out, HLTN.out, HNDN.out, HOM9.out, HB9.out, HROW9.out, by rw [List.length_append, HJL.out]; exact HMP9.out⟩
          · have HNOO : Hid (∀ q, q < doms.length → nm doms q ≠ y.data.toList) := Lib.hid (fun q hq e => hno q hq (ByteArray.ext (Array.toList_inj.1 e)))
            clear hno
            go_wp2_with fail
            go_ret2
            exact HNO.out _ HB7.out (HRD.out.gone HMAY.out (x := y.data.toList) (by rw [HJL.out, List.getElem?_map, HY.out]; rfl) HNOO.out)
        · have hjJ2 : j = J := by have := HM2.out; omega
          subst hjJ2
          obtain ⟨lb, lc, rfl, hlb⟩ := own_cellsL HROW2.out hJ1
          have hpf : (Q.map fun y => y.data.toList) = lst.map (nm doms) := by
            have h := HPRE.out
            rw [List.take_of_length_le (by rw [List.length_map, HJ.out]; exact Nat.le_refl _)] at h
            exact h
          have HPF := Lib.hid hpf
          have HLV : Hid (LvM w1 w5.heap.size ob am gb lb j lc N (strV P) lst (fl ++ lst) st0.2 sl wr2) := Lib.hid ⟨HB2.out, HGR2.out, fun a ha e => by
            have := ((HGR5.out.row a ha).lt lb e).2
            omega, HROW2.out, by rw [List.length_append, HFN.out, HJL.out]; exact HMP2.out, HGB2.out⟩
          clear hpf HB2 HOM HROW2 HMP2 HNK2 HGB2 HGR2 HNO HRD
          go_wp2_with fail
          go_loopg [11, 20, 21] 40 (fun mm x11 x20 x21 wr3 => ∃ (L : Nat) (more : Bool) (sl3 : Nat → Value), mm + L = 40 ∧ L ≤ 31 ∧ x11 = .int .i64 ((grpS (wF doms) lst L st0).1 : Int) ∧ x20 = .int .i64 (L : Int) ∧ x21 = .bool more ∧ (more = true → L ≤ 30) ∧ (more = false → ∀ k ∈ lst, wF doms k ≤ L) ∧ LvM w1 w5.heap.size ob am gb lb j lc N (strV P) lst (fl ++ lst) (grpS (wF doms) lst L st0).2 sl3 wr3)
          case atStart => exact ⟨0, true, sl, rfl, Nat.zero_le _, rfl, rfl, rfl, (fun _ => Nat.zero_le _), (fun h => absurd h (by decide)), HLV.out⟩
          case round =>
            obtain ⟨L, more, sl3, hm3, hL, rfl, rfl, rfl, hmt, hmff, hlv⟩ := hrel
            obtain ⟨stL, hstL⟩ : ∃ stL, grpS (wF doms) lst L st0 = stL := ⟨_, rfl⟩
            have HDL : Hid (Dealt stL) := Lib.hid (by rw [← hstL]; exact HDL0.out.grp L)
            have hnxL : stL.1 ≤ 1496 := by
              have h1 := grp_next (w := wF doms) lst st0 L
              have h2 := sum_min_le (wF doms) L lst
              have h3 := hnx0.out
              rw [hstL] at h1
              rw [HJL.out] at h2
              have h4 : L * j ≤ 31 * 40 := Nat.mul_le_mul hL (by omega)
              omega
            rw [hstL] at hlv ⊢
            have HM3 := Lib.hid hm3; have HMT := Lib.hid hmt; have HMFF := Lib.hid hmff; have HLV3 := Lib.hid hlv; have HSTL := Lib.hid hstL
            clear hm3 hmt hmff hlv hstL HLV
            obtain ⟨wr3, hren⟩ : ∃ x, x = wr := ⟨_, rfl⟩
            subst hren
            cases more with
            | false =>
              have hall := HMFF.out rfl
              have hfin : grpS (wF doms) lst 31 st0 = stL := by
                have h := grpS_idle (w := wF doms) st0 hall (31 - L)
                rw [show L + (31 - L) = 31 by omega, HSTL.out] at h
                exact h
              have HOUT : Hid (outS (wF doms) 31 (gs ++ [lst]) stZ = stL) := Lib.hid (by
                unfold outS
                rw [List.foldl_append]
                show grpS (wF doms) lst 31 (outS (wF doms) 31 gs stZ) = _
                rw [HST0.out]; exact hfin)
              have HFLN : Hid ((gs ++ [lst]).flatten = fl ++ lst) := Lib.hid (by rw [List.flatten_append, HFL.out]; simp)
              have HLEN : Hid ((gs ++ [lst]).length = gi + 1) := Lib.hid (by rw [List.length_append, HGI.out]; rfl)
              have HGRN : Hid ((groupsT s.data.toList).take (gi + 1) = (gs ++ [lst]).map fun g => g.map (nm doms)) := Lib.hid (by
                rw [List.take_add_one, HGRP.out, HERE.out, List.map_append, HPF.out]; rfl)
              clear hall hfin
              go_wp2_with fail
              go_roundg (G - (gi + 1))
              case measure => have := HM.out; omega
              case rel => exact ⟨gs ++ [lst], lf2, sl3, by rw [HLEN.out]; have := HM.out; omega, by rw [HFLN.out, List.length_append, HFN.out, HJL.out]; have := HLF2.out; omega, rfl, by rw [HOUT.out], by rw [HLEN.out]; go_num, by rw [HLEN.out]; exact HGRN.out, by rw [HFLN.out]; exact HLT2.out, by rw [HFLN.out]; exact HNOD2.out, HLV3.out.bel, by rw [HOUT.out]; exact HLV3.out.gr, by rw [HFLN.out]; exact HLV3.out.mp, HLV3.out.gb⟩
            | true =>
              have hL30 : L ≤ 30 := HMT.out rfl
              go_wp2_with fail
              go_loopg [11, 21, 81] j (fun mm x11 x21 x81 wr4 => ∃ (q : Nat) (sl4 : Nat → Value), mm + q = j ∧ x11 = .int .i64 ((levS (wF doms) (lst.take q) L stL).1 : Int) ∧ x21 = .bool ((lst.take q).any fun k => decide (L < wF doms k)) ∧ x81 = .int .i64 (q : Int) ∧ LvM w1 w5.heap.size ob am gb lb j lc N (strV P) lst (fl ++ lst) (levS (wF doms) (lst.take q) L stL).2 sl4 wr4)
              case atStart => exact ⟨0, sl3, by omega, rfl, rfl, rfl, HLV3.out⟩
              case round =>
                obtain ⟨q, sl4, hm4, rfl, rfl, rfl, hlv4⟩ := hrel
                obtain ⟨stq, hstq⟩ : ∃ stq, levS (wF doms) (lst.take q) L stL = stq := ⟨_, rfl⟩
                obtain ⟨av, hav⟩ : ∃ av, ((lst.take q).any fun k => decide (L < wF doms k)) = av := ⟨_, rfl⟩
                have HDQ : Hid (Dealt stq) := Lib.hid (by rw [← hstq]; exact Dealt.lev _ HDL.out)
                have hnxq : stq.1 ≤ 1536 := by
                  have h1 := lev_next (w := wF doms) (L := L) (lst.take q) stL
                  have h2 := levN_le (wF doms) (lst.take q) L
                  rw [hstq] at h1
                  rw [List.length_take] at h2
                  omega
                rw [hstq] at hlv4 ⊢
                rw [hav]
                have HM4 := Lib.hid hm4; have HLV4 := Lib.hid hlv4; have HSTQ := Lib.hid hstq; have HAV := Lib.hid hav
                clear hm4 hlv4 hstq hav
                obtain ⟨wr4, hren⟩ : ∃ x, x = wr := ⟨_, rfl⟩
                subst hren
                by_cases hq : q < j
                · obtain ⟨k, hk⟩ : ∃ k, lst[q]? = some k := ⟨_, List.getElem?_eq_getElem (by rw [HJL.out]; exact hq)⟩
                  have hkN : k < N := by
                    have := HLT2.out k (List.mem_append_right _ (List.mem_of_getElem? hk))
                    rw [HN.out] at this; exact this
                  obtain ⟨oa, cap, e, _, _, hlc⟩ := Cells.of_own HLV4.out.l
                  injection e with e1 e2 e3
                  subst e1 e3
                  obtain ⟨b1, o1, e, hb1, kl⟩ := hlc.at_ (k := q) (v := .int .i64 (k : Int)) (by unfold iV; rw [List.getElem?_map, hk]; rfl)
                  injection e with e
                  injection e with e1 e2 _
                  subst e1 e2
                  rw [Nat.zero_add] at kl
                  obtain ⟨wk, hwk⟩ : ∃ wk, wF doms k = wk := ⟨_, rfl⟩
                  have hcw := (HWC.out.below HLV4.out.bel).at_ (k := k) (v := .int .i64 (wk : Int)) (by
                    unfold iV
                    rw [List.getElem?_map, List.getElem?_map, at_get (by rw [HN.out]; exact hkN), ← hwk]; rfl)
                  obtain ⟨b2, o2, rfl, hb2', kw⟩ := hcw
                  have HLK := Lib.hid hk; have HWK := Lib.hid hwk
                  have hlt : (lst.take (q + 1)).any (fun k => decide (L < wF doms k)) = (av || decide (L < wk)) := by
                    rw [List.take_add_one, hk, List.any_append, HAV.out]
                    show (av || (decide (L < wF doms k) || false)) = _
                    rw [hwk, Bool.or_false]
                  have HAN := Lib.hid hlt
                  have hst1 : levS (wF doms) (lst.take (q + 1)) L stL = put1 (wF doms) L stq k := by rw [levS_take hk, HSTQ.out]
                  have HST1 := Lib.hid hst1
                  clear hk hwk hlc hlt hst1
                  by_cases hLw : L < wk
                  · have HRK := Lib.hid (HLV4.out.gr.row k hkN)
                    obtain ⟨na, hna⟩ : ∃ na, (stq.2 k).length = na := ⟨_, rfl⟩
                    rw [hna] at HRK
                    have hna2 : na ≤ 1536 := by rw [← hna]; exact Nat.le_trans (HDQ.out.len k) hnxq
                    have HNA := Lib.hid hna
                    have HPUT : Hid (put1 (wF doms) L stq k = (stq.1 + 1, fup stq.2 k (stq.2 k ++ [stq.1]))) := Lib.hid (put1_yes (by rw [HWK.out]; exact hLw))
                    rw [decide_eq_true hLw, Bool.or_true] at HAN
                    have kob : wr4.cell? ⟨ob, k, none⟩ = some (sl4 k) := by rw [HLV4.out.gr.blk.cell]; exact tabV_get _ hkN
                    have hobl := HLV4.out.gr.blk.lt
                    obtain ⟨nx, hnx⟩ : ∃ nx, stq.1 = nx := ⟨_, rfl⟩
                    rw [hnx] at hnxq ⊢
                    have HNX := Lib.hid hnx
                    have hs4 := HLV4.out.bel.size
                    clear hna hnx
                    go_wp2_with (at_builtin; refine wpList_append_sep rfl (.tmp 96) (.tmp 98) 32 rfl w1.heap.size 3 l0 (.int .i64 0) 1 8 Tryd.underlying32 hl0 lz0 lz1 lz2 rfl (by decide) (sl4 k) na _ rfl (HRK.out.alloc _) wr4.heap.size 0 1 1 [.int .i64 (nx : Int)] rfl rfl (lit_one _ _ _) (ones_int _) (by unfold maxLen; omega) (by omega) (by simp; omega) ?_)
                    intro v6 w6 hown6 hg6 hs6
                    obtain ⟨va, vc, rfl⟩ := own_shape hown6
                    have hal : Below wr4.heap.size wr4 (wr4.alloc (.cells #[.int .i64 (nx : Int)] 3)) := (Below.refl _ _).alloc (Nat.le_refl _) _
                    have HLA := Lib.hid (HLV4.out.below hal)
                    have hrowA := HLA.out.gr.row k hkN
                    rw [HNA.out] at hrowA
                    have hbk6 : Blk w6 ob 32 (tabV N sl4) := HLA.out.gr.blk.grown hg6 (own_ne_blk hrowA HLA.out.gr.blk (by decide))
                    have k6 : w6.cell? ⟨ob, k, none⟩ = some (sl4 k) := by rw [hbk6.cell]; exact tabV_get _ hkN
                    have f6 : w6.frozen? ⟨ob, k, none⟩ = false := hbk6.frozen k
                    have HLN : Hid (LvM w1 w5.heap.size ob am gb lb j lc N (strV P) lst (fl ++ lst) (fup stq.2 k (stq.2 k ++ [nx])) (fup sl4 k (.slice va (na + 1) vc)) (w6.setCell ⟨ob, k, none⟩ (.slice va (na + 1) vc))) := Lib.hid (HLA.out.put hkN HNA.out hown6 hg6 (by rw [World.size_alloc]; exact hs6))
                    clear hown6 hg6 hs6 hal hrowA hbk6
                    go_wp2_with fail
                    go_roundg (j - (q + 1))
                    case measure => have := HM4.out; omega
                    case rel => exact ⟨q + 1, fup sl4 k (.slice va (na + 1) vc), by have := HM4.out; omega, by rw [HST1.out, HPUT.out, HNX.out]; go_num, by rw [HAN.out], by go_num, by rw [HST1.out, HPUT.out, HNX.out]; exact HLN.out⟩
                  · have HPUT : Hid (put1 (wF doms) L stq k = stq) := Lib.hid (put1_no (by rw [HWK.out]; exact hLw))
                    rw [decide_eq_false hLw, Bool.or_false] at HAN
                    go_wp2_with fail
                    go_roundg (j - (q + 1))
                    case measure => have := HM4.out; omega
                    case rel => exact ⟨q + 1, sl4, by have := HM4.out; omega, by rw [HST1.out, HPUT.out], by rw [HAN.out], by go_num, by rw [HST1.out, HPUT.out]; exact HLV4.out⟩
                · have hqj : q = j := by have := HM4.out; omega
                  subst hqj
                  have htk : lst.take q = lst := List.take_of_length_le (by rw [HJL.out]; exact Nat.le_refl _)
                  have HST2 : Hid (grpS (wF doms) lst (L + 1) st0 = stq) := Lib.hid (by rw [grpS_succ, HSTL.out, ← HSTQ.out, htk])
                  have HAL : Hid (lst.any (fun k => decide (L < wF doms k)) = av) := Lib.hid (by rw [← HAV.out, htk])
                  have H1 : Hid (av = true → L + 1 ≤ 30) := Lib.hid (fun h => by
                    have h2 := HAL.out
                    rw [h, List.any_eq_true] at h2
                    obtain ⟨k, hk, hd⟩ := h2
                    have h3 := of_decide_eq_true hd
                    have h4 := wF_le HMAY.out (HLT2.out k (List.mem_append_right _ hk))
                    omega)
                  have H2 : Hid (av = false → ∀ k ∈ lst, wF doms k ≤ L + 1) := Lib.hid (fun h k hk => by
                    have h2 := HAL.out
                    rw [h, List.any_eq_false] at h2
                    have h3 := h2 k hk
                    simp at h3
                    omega)
                  clear htk
                  go_wp2_with fail
                  go_roundg (40 - (L + 1))
                  case measure => have := HM3.out; omega
                  case rel => exact ⟨L + 1, av, sl4, by have := HM3.out; omega, by omega, by rw [HST2.out], by go_num, rfl, H1.out, H2.out, by rw [HST2.out]; exact HLV4.out⟩
    · have hiG : gi = G := by have := HM.out; omega
      subst hiG
      have HGS : Hid (groupsT s.data.toList = gs.map fun g => g.map (nm doms)) := Lib.hid (by
        have h := HGRP.out
        rw [List.take_of_length_le (by rw [hGL.out]; exact Nat.le_refl _)] at h
        exact h)
      have hlfN : lf + fn = N := HLF.out
      by_cases hl0 : lf = 0
      · subst hl0
        have HOR : Hid (OrderIs doms s.data.toList gs) := Lib.hid (read_all HGS.out (by rw [HFL.out]; exact HLT.out) (by rw [HFL.out]; exact HNOD.out) (by rw [HFL.out, HFN.out, HN.out]; omega))
        clear hlfN
        go_wp2_with fail
        go_loopg [109] N (fun mm x wr5 => ∃ i : Nat, mm + i = N ∧ x = .int .i64 (i : Int) ∧ Below w1.heap.size w1 wr5 ∧ GrM wr5 w1.heap.size ob N (fun k => if k < i then (st0.2 k).reverse else st0.2 k) sl)
        case atStart => exact ⟨0, by omega, rfl, HB.out, by simpa using HGR.out⟩
        case round =>
          obtain ⟨i, hm5, rfl, hb5, hgr5⟩ := hrel
          have HM5 := Lib.hid hm5; have HB5 := Lib.hid hb5; have HGR5 := Lib.hid hgr5
          clear hm5 hb5 hgr5
          by_cases hi5 : i < N
          · have kob : wr.cell? ⟨ob, i, none⟩ = some (sl i) := by rw [HGR5.out.blk.cell]; exact tabV_get _ hi5
            have hobl := HGR5.out.blk.lt
            have hrow := HGR5.out.row i hi5
            rw [if_neg (Nat.lt_irrefl i)] at hrow
            have HRV := Lib.hid (reverse_own wr w1.heap.size (sl i) (st0.2 i) (by have := HDL0.out.len i; have := hnx0.out; omega) hrow)
            have HRW := Lib.hid hrow
            clear hrow
            go_wp2_with fail
            refine HRV.out.mono ?_
            rintro e w6 ⟨rfl, hrow6, hon6⟩
            have HB6 : Hid (Below w1.heap.size w1 w6) := Lib.hid (HB5.out.trans (Only.below hon6 (fun k hk _ he => by have := (HRW.out.lt k he).1; omega) HB5.out.size))
            have HGR6 : Hid (GrM w6 w1.heap.size ob N (fun k => if k < i + 1 then (st0.2 k).reverse else st0.2 k) sl) := Lib.hid (by
              have h := HGR5.out.turn hi5 (by rw [if_neg (Nat.lt_irrefl i)]; exact hrow6) hon6
              have e : fup (fun k => if k < i then (st0.2 k).reverse else st0.2 k) i (if i < i then (st0.2 i).reverse else st0.2 i).reverse = fun k => if k < i + 1 then (st0.2 k).reverse else st0.2 k := by
                funext k
                unfold fup
                rw [if_neg (Nat.lt_irrefl i)]
                by_cases e : k = i
                · subst e; rw [if_pos rfl, if_pos (by omega)]
                · rw [if_neg e]
                  show (if k < i then (st0.2 k).reverse else st0.2 k) = _
                  by_cases h2 : k < i
                  · rw [if_pos h2, if_pos (by omega)]
                  · rw [if_neg h2, if_neg (by omega)]
              rw [e] at h
              exact h)
            clear hrow6 hon6 HRV kob hobl
            go_wp2_with fail
            go_roundg (N - (i + 1))
            case measure => have := HM5.out; omega
            case rel => exact ⟨i + 1, by have := HM5.out; omega, by go_num, HB6.out, HGR6.out⟩
          · have hiN : i = N := by have := HM5.out; omega
            subst hiN
            go_wp2_with fail
            go_ret2
            refine ⟨HB1.out.trans (HB5.out.mono HB1.out.size), .inr (.inr ⟨HMAY.out, gs, ob, HOR.out, by rw [HN.out]; rfl, ?_⟩)⟩
            have h := HGR5.out.rowsAt
            rw [HN.out]
            have e : ((List.range i).map fun k => zN (rowP doms gs k)) = (List.range i).map fun k => zN (if k < i then (st0.2 k).reverse else st0.2 k) := List.map_congr_left fun k hk => by
              rw [if_pos (List.mem_range.1 hk)]
              unfold rowP
              rw [HST0.out]
            rw [e]; exact h
      · have HNO : Hid (∀ gs', ¬ OrderIs doms s.data.toList gs') := Lib.hid (fun gs' => read_few HMAY.out HGS.out (by rw [HFL.out]; exact HLT.out) (by rw [HFL.out, HFN.out, HN.out]; omega))
        have hl1 : 0 < lf := by omega
        clear hl0 hlfN
        go_wp2_with fail
        go_ret2
        exact ⟨HB1.out.trans (HB.out.mono HB1.out.size), .inr (.inl ⟨HMAY.out, HNO.out, rfl⟩)⟩
end Go.Proofs.YtedfakpmdncnmaaDoor
