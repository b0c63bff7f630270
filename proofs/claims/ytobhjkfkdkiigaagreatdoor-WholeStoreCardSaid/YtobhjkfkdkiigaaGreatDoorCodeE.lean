/- Layer 8: literal, least, between, Range of a whole domain. 
 Layer 8: slices.Clone of domains, Quan, Doms, New. -/
import Derived.Test.YtobhjkfkdkiigaaGreatDoorCodeD
namespace Go.Proofs.YtobhjkfkdkiigaaGreatDoor
open Go.RowKit HP NP LY
theorem cor_ok (w : World) (B p q qn cb : Nat) (S : NS) (h : Cd w B p q qn cb S) (a b : Nat) (ga gb : (Nat → Bool) → Bool) (ha : Den S a ga) (hb : Den S b gb) (V : Nat → Bool) (da : Dep V ga) (db : Dep V gb) (n : Nat) (hn : 2 ^ rk V 8 0 ≤ n + 1) (hr : NP.cnt S.l + n < S.budget + 1) :
    Calls Tryz.prog 34 #[.pointer (some ⟨q, 0, none⟩), .int .i64 (a : Int), .int .i64 (b : Int)] w (YesPost B p q qn cb S (fun ρ => ga ρ || gb ρ) n w) :=
  (oor_ok w B p q S h.sto h.ops h.low a b ga gb ha hb V da db n (by rw [h.v8]; exact hn)).mono fun _ _ hp => hp.yes h hr
theorem cand_ok (w : World) (B p q qn cb : Nat) (S : NS) (h : Cd w B p q qn cb S) (a b : Nat) (ga gb : (Nat → Bool) → Bool) (ha : Den S a ga) (hb : Den S b gb) (V : Nat → Bool) (da : Dep V ga) (db : Dep V gb) (n : Nat) (hn : 2 ^ rk V 8 0 ≤ n + 1) (hr : NP.cnt S.l + n < S.budget + 1) :
    Calls Tryz.prog 40 #[.pointer (some ⟨q, 0, none⟩), .int .i64 (a : Int), .int .i64 (b : Int)] w (YesPost B p q qn cb S (fun ρ => ga ρ && gb ρ) n w) :=
  (oand_ok w B p q S h.sto h.ops h.low a b ga gb ha hb V da db n (by rw [h.v8]; exact hn)).mono fun _ _ hp => hp.yes h hr
theorem YesPost.cong {B p q qn cb : Nat} {S : NS} {g g' : (Nat → Bool) → Bool} {n m : Nat} {w : World} {e : Ending} {w' : World} (h : YesPost B p q qn cb S g n w e w') (hg : ∀ ρ, g ρ = g' ρ) (hm : n ≤ m) : YesPost B p q qn cb S g' m w e w' := by
  obtain ⟨S', k, a, b, c, d⟩ := h
  exact ⟨S', k, a, b, c, d.cong hg hm⟩
theorem yesRet {B p q qn cb : Nat} {S : NS} {g : (Nat → Bool) → Bool} {n : Nat} {w : World} {e : Ending} {w' : World} (h : YesPost B p q qn cb S g n w e w') : ∃ k : Nat, e = .returned (.tuple #[.int .i64 (k : Int), .int .i64 0]) := by
  obtain ⟨S', k, a, _⟩ := h; exact ⟨k, a⟩
set_option maxRecDepth 100000 in
set_option maxHeartbeats 1600000 in
theorem lit_ok (w : World) (B p q qn cb : Nat) (S : NS) (h : Cd w B p q qn cb S) (v : Nat) (hv : v < 8) (hr : NP.cnt S.l + 1 < S.budget + 1) :
    Calls Tryz.prog 152 #[.pointer (some ⟨cb, 0, none⟩), .int .i64 (v : Int), .bool true] w (YesPost B p q qn cb S (fun ρ => ρ v) 1 w) := by
  have HM := Lib.hid (cmk_ok w B p q qn cb S h v 0 1 _ _ (Den.zero h.sto.wf) (Den.one h.sto.wf) (fun _ _ _ => rfl) (fun _ _ _ => rfl) hv hr)
  have HQ := Lib.hid (qops_ok w qn p q h.qu); have HST := Lib.hid (ostore_ok w B p q S h.ops)
  obtain ⟨da, dc, aa, ac, c0, c1, c2, cl⟩ := h.code.cell
  clear h hv hr
  go_enter Tryz.func152, Tryz.ntmps152
  go_wp2_with fail
  refine HQ.out.mono ?_
  rintro e w5 ⟨rfl, rfl⟩
  go_wp2_with fail
  refine HST.out.mono ?_
  rintro e w5 ⟨rfl, rfl⟩
  go_wp2_with fail
  refine HM.out.mono ?_
  intro e w5 hr
  obtain ⟨k, rfl⟩ := yesRet hr
  have HR := Lib.hid (hr.cong (g' := fun ρ => ρ v) (fun ρ => by simp) (Nat.le_refl _))
  clear hr
  go_wp2_with fail
  go_ret2
  exact HR.out
def oneV (v : Nat) : Nat → Bool := fun x => x == v
theorem rk_oneF : ∀ v : Fin 8, rk (oneV v.val) 8 0 = 1 := by decide
theorem rk_one {v : Nat} (h : v < 8) : rk (oneV v) 8 0 = 1 := rk_oneF ⟨v, h⟩
set_option maxRecDepth 100000 in
set_option maxHeartbeats 3200000 in
theorem least_ok (w : World) (B p q qn cb : Nat) (S : NS) (h : Cd w B p q qn cb S) (d : Nat) (hd : d < 4) (hr : NP.cnt S.l + 4 ≤ S.budget) :
    Calls Tryz.prog 120 #[.pointer (some ⟨cb, 0, none⟩), .int .i64 (d : Int), .int .i64 0] w (YesPost B p q qn cb S (fun _ => true) 4 w) := by
  have H := Lib.hid h; have HR := Lib.hid hr
  obtain ⟨db, doff, dc', ab, aoff, ac', ad, cap, c0, c1, c2, cl, dbl, d0, abl, a0, hrow⟩ := h.code.dom hd
  obtain ⟨e1, e2⟩ := putR_yes 0 2 (by decide) (by decide)
  have HP := Lib.hid (bput_ok 0 2 w)
  rw [show ((2 : Nat) : Int) = 2 from rfl, show ((0 : Nat) : Int) = 0 from rfl] at e1 e2
  rw [e1, e2] at HP
  have hpl : (putLB 0 2).length = 2 := putL_lenB 0 2
  have HPL := Lib.hid hpl
  have z1 : (0 : Int) ≤ (d : Int) := by omega
  have z2 : (d : Int) < 4 := by omega
  clear h hr hrow e1 e2 hpl
  go_enter Tryz.func120, Tryz.ntmps120
  go_wp2_with fail
  refine HP.out.mono ?_
  rintro e w1 ⟨ba, bc, rfl, _, hcb, htb, hb1⟩
  have HB1 := Lib.hid hb1; have HCB : Hid (Cells w1 ba ((putLB 0 2).map Value.bool) ∧ TB w1 ba 4) := Lib.hid ⟨hcb, htb⟩
  have HC1 := Lib.hid (H.out.below hb1)
  clear hb1 hcb htb c0 c1 c2 cl dbl d0 abl a0 HP
  rw [HPL.out]
  go_wp2_with fail
  go_loopg [8, 30] 2 (fun m y x wr => ∃ (j : Nat) (S' : NS) (kk : Nat), m + j = 2 ∧ x = .int .i64 (j : Int) ∧ y = .int .i64 (kk : Int) ∧ Cd wr B p q qn cb S' ∧ Kp TO B w wr ∧ Kp TO B w1 wr ∧ GotOk S (fun _ => true) (2 * j) S' kk)
  case atStart => exact ⟨0, S, 1, rfl, rfl, rfl, HC1.out, Kp.of_below HB1.out, Kp.refl _ _ _, GotOk.same H.out.sto.wf (Den.one H.out.sto.wf)⟩
  case round =>
    obtain ⟨j, S', kk, hm, rfl, rfl, hc, hk, hk1, hg⟩ := hrel
    have HM := Lib.hid hm; have HC := Lib.hid hc; have HK := Lib.hid hk; have HK1 := Lib.hid hk1; have HG := Lib.hid hg
    clear hm hc hk hk1 hg
    by_cases hj : j < 2
    · obtain ⟨bb, boff, rfl, bbl, b0⟩ := (HCB.out.1.kp HCB.out.2 HK1.out rfl).at_ (show ((putLB 0 2).map Value.bool)[j]? = some (.bool ((0 : Nat).testBit j)) by rw [List.getElem?_map, putL_atB 0 2 j hj]; rfl)
      rw [Nat.zero_testBit] at b0
      obtain ⟨db, doff, dc', ab, aoff, ac', ad, cap, c0, c1, c2, cl, dbl, d0, abl, a0, hrow⟩ := HC.out.code.dom hd
      obtain ⟨rb, roff, rfl, rbl, r0⟩ := hrow.c.at_ (atN_get hd hj)
      obtain ⟨x, hx⟩ : ∃ x, x = (atN d).getD j 0 := ⟨_, rfl⟩
      rw [← hx] at r0
      have hx8 : x < 8 := by rw [hx]; exact at_lt8 d hd j hj
      have hrm : NP.cnt S'.l + 1 < S'.budget + 1 := by
        have h1 := HG.out.cnt; have h2 := HR.out; rw [HG.out.ext.budget]; omega
      have HL := Lib.hid (lit_ok wr B p q qn cb S' HC.out x hx8 hrm)
      have HX8 := Lib.hid hx8
      clear hrow hx hx8 hrm
      go_wp2_with fail
      refine HL.out.mono ?_
      rintro e w2 ⟨S2, k2, rfl, hc2, hk2, hg2⟩
      have HC2 := Lib.hid hc2; have HK2 := Lib.hid hk2; have HG2 := Lib.hid hg2
      have hrm : NP.cnt S2.l + 1 < S2.budget + 1 := by
        have h1 := HG.out.cnt; have h2 := HR.out; have h3 := hg2.cnt; rw [hg2.ext.budget, HG.out.ext.budget]; omega
      have HO := Lib.hid (cor_ok w2 B p q qn cb S2 hc2 k2 kk _ _ hg2.den (HG.out.den.ext hg2.ext HG.out.wf hg2.wf) (oneV x) (Dep.var (by unfold oneV; simp)) (Dep.const _ _) 1 (by rw [rk_one HX8.out]; decide) hrm)
      have HQ := Lib.hid (qops_ok w2 qn p q hc2.qu)
      obtain ⟨db2, doff2, dc2, ab2, aoff2, ac2, ad2, cap2, e0, e1, e2, el, _⟩ := hc2.code.dom hd
      clear hc2 hk2 hg2 hrm c0 c1 c2 cl dbl d0 abl a0 r0 rbl bbl b0
      go_wp2_with fail
      refine HQ.out.mono ?_
      rintro e w3 ⟨rfl, rfl⟩
      go_wp2_with fail
      refine HO.out.mono ?_
      rintro e w3 ⟨S3, k3, rfl, hc3, hk3, hg3⟩
      have HC3 := Lib.hid hc3; have HK3 := Lib.hid (Kp.trans HK2.out hk3)
      have HG3 : Hid (GotOk S (fun _ => true) (2 * (j + 1)) S3 k3) := Lib.hid ⟨hg3.wf, (HG.out.ext.trans HG2.out.ext).trans hg3.ext, hg3.den.cong (fun ρ => by simp), by have := HG.out.cnt; have := HG2.out.cnt; have := hg3.cnt; omega, fun i => Nat.le_trans (hg3.pin i) (Nat.le_trans (HG2.out.pin i) (HG.out.pin i)), hg3.sw.trans (HG2.out.sw.trans HG.out.sw)⟩
      clear hc3 hk3 hg3 e0 e1 e2 el
      go_wp2_with fail
      go_roundg (2 - (j + 1))
      case measure => have := HM.out; omega
      case rel => exact ⟨j + 1, S3, k3, by have := HM.out; omega, by go_num, rfl, HC3.out, Kp.trans HK.out HK3.out, Kp.trans HK1.out HK3.out, HG3.out⟩
    · have hj2 : j = 2 := by have := HM.out; omega
      subst hj2
      go_wp2_with fail
      go_ret2
      exact ⟨S', kk, rfl, HC.out, HK.out, HG.out⟩
set_option maxRecDepth 100000 in
set_option maxHeartbeats 1600000 in
theorem between_ok (w : World) (B p q qn cb : Nat) (S : NS) (h : Cd w B p q qn cb S) (d : Nat) (hd : d < 4) (hr : NP.cnt S.l + 4 ≤ S.budget) :
    Calls Tryz.prog 91 #[.pointer (some ⟨cb, 0, none⟩), .int .i64 (d : Int), .int .i64 0, .int .i64 3] w (YesPost B p q qn cb S (fun _ => true) 4 w) := by
  have HL := Lib.hid (least_ok w B p q qn cb S h d hd hr)
  clear h hr
  go_enter Tryz.func91, Tryz.ntmps91
  go_wp2_with fail
  refine HL.out.mono ?_
  rintro e w1 ⟨S1, k1, rfl, hc1, hk1, hg1⟩
  have HC1 := Lib.hid hc1; have HK1 := Lib.hid hk1; have HG1 := Lib.hid hg1
  obtain ⟨db, doff, dc', ab, aoff, ac', ad, cap, c0, c1, c2, cl, dbl, d0, abl, a0, hrow⟩ := hc1.code.dom hd
  have z1 : (0 : Int) ≤ (d : Int) := by omega
  have z2 : (d : Int) < 4 := by omega
  clear hc1 hk1 hg1 hrow
  go_wp2_with fail
  go_ret2
  exact ⟨S1, k1, rfl, HC1.out, HK1.out, HG1.out⟩
set_option maxRecDepth 100000 in
set_option maxHeartbeats 1600000 in
theorem range_ok (w : World) (B p q qn cb : Nat) (S : NS) (h : Cd w B p q qn cb S) (d : Nat) (hd : d < 4) (hr : NP.cnt S.l + 4 ≤ S.budget) :
    Calls Tryz.prog 65 #[.pointer (some ⟨cb, 0, none⟩), .int .i64 (d : Int), .int .i64 0, .int .i64 3] w (YesPost B p q qn cb S (fun _ => true) 4 w) := by
  have H := Lib.hid h; have HRR := Lib.hid hr
  have hal : Below w.heap.size w (w.alloc (.cells #[.int .i64 (d : Int)] 3)) := (Below.refl _ _).alloc (Nat.le_refl _) _
  have HH := Lib.hid (has_ok (w.alloc (.cells #[.int .i64 (d : Int)] 3)) cb qn (h.code.below hal) (some ⟨w.heap.size, 0, none⟩) [d] 1 (by simp) (fun x hx => by rw [List.mem_singleton.1 hx]; exact hd) (Cells.lit w _ _))
  have HAL := Lib.hid hal
  obtain ⟨da, dc, aa, ac, c0, c1, c2, cl⟩ := h.code.cell
  clear h hr hal
  go_enter Tryz.func65, Tryz.ntmps65
  go_wp2_with fail
  refine HH.out.mono ?_
  rintro e w1 ⟨rfl, hb⟩
  have HB1 := Lib.hid (HAL.out.trans (hb.mono HAL.out.size))
  have hc1 := H.out.below HB1.out
  have HBT := Lib.hid (between_ok w1 B p q qn cb S hc1 d hd HRR.out)
  clear c0 c1 c2 cl hb
  obtain ⟨db, doff, dc', ab, aoff, ac', ad, cap, c0, c1, c2, cl, dbl, d0, abl, a0, hrow⟩ := hc1.code.dom hd
  have z1 : (0 : Int) ≤ (d : Int) := by omega
  have z2 : (d : Int) < 4 := by omega
  clear hc1 hrow
  go_wp2_with fail
  refine HBT.out.mono ?_
  rintro e w2 ⟨S1, k1, rfl, hc1, hk1, hg1⟩
  have HC1 := Lib.hid hc1; have HK1 := Lib.hid (Kp.trans (Kp.of_below HB1.out) hk1); have HG1 := Lib.hid hg1
  clear hc1 hk1 hg1 c0 c1 c2 cl dbl d0 abl a0
  go_wp2_with fail
  go_ret2
  exact ⟨S1, k1, rfl, HC1.out, HK1.out, HG1.out⟩
end Go.Proofs.YtobhjkfkdkiigaaGreatDoor

namespace Go.Proofs.YtobhjkfkdkiigaaGreatDoor
open Go.RowKit HP NP LY
def domR : Go.Shelf.Ren := ⟨fun | 41 => 25 | n => n, fun | 22 => 38 | 23 => 37 | 4 => 4 | n => n, fun | n => n⟩
theorem domL : Go.Proofs.SlLaysE0.n41 Tryz.prog domR := {
  mixed := by kernel_rfl
  f41 := ⟨Tryz.f25.name, by decide, Tryz.func25.trans (congrArg some (by kernel_rfl))⟩
  t4 := Tryz.underlying4
  a4 := Tryz.isAgg4
  z4 := Tryz.sizeOf4
  v4 := Tryz.zeroValue4
  t22 := Tryz.underlying38
  a22 := Tryz.isAgg38
  z22 := Tryz.sizeOf38
  v22 := Tryz.zeroValue38 }
theorem flatD_len (l : List Dm) : (l.flatMap domCells).length = l.length * 2 := by
  induction l with
  | nil => rfl
  | cons d l ih => rw [List.flatMap_cons, List.length_append, ih, List.length_cons]; show 2 + _ = _; omega
theorem info_dom : (Tryz.prog.info? 37).map (fun i => (i.zero, i.size, i.bytes)) = some (some (.agg #[.string ByteArray.empty, .int .i64 0]), 2, 24) := by kernel_rfl
theorem cells_someD {w : World} {b off j : Nat} {xs : List Value} {u : Value} (hc : Cells w (some ⟨b, off, none⟩) xs) (hu : xs[j]? = some u) : w.cell? ⟨b, off + j, none⟩ = some u := by
  obtain ⟨b', off', e, _, hh⟩ := hc.at_ hu
  injection e with e
  injection e with e1 e2 _
  subst e1 e2
  exact hh
set_option maxRecDepth 100000 in
theorem clone_dom (w : World) (b off c : Nat) (l : List Dm) (hl : l.length ≤ 1000) (hc : Cells w (some ⟨b, off, none⟩) (l.flatMap domCells)) :
    Calls Tryz.prog 25 #[.slice (some ⟨b, off, none⟩) l.length c] w fun e w' => Below w.heap.size w w' ∧ ∃ v', e = .returned v' ∧ w'.ownsRow w.heap.size 37 2 v' l.length (l.flatMap domCells) := by
  obtain ⟨i0, hi0, hz0, hz1, hz2⟩ := info_parts info_dom
  have hlen : (l.flatMap domCells).length = l.length * 2 := flatD_len l
  refine (AnyE.slices_Clone domL i0 _ 2 24 hi0 hz0 hz1 hz2 rfl (by decide) (fun w => by kernel_rfl) b off l.length c (l.flatMap domCells) w hlen (by unfold maxLen; omega) (by omega) (fun j u hu => ?_) (fun u hu => ?_)).mono ?_
  · exact cells_someD hc hu
  · obtain ⟨d, _, hd⟩ := List.mem_flatMap.1 hu
    unfold domCells at hd
    simp at hd
    rcases hd with rfl | rfl <;> rfl
  · rintro e w' ⟨v', rfl, ho, _, hb⟩
    exact ⟨hb, v', rfl, ho⟩
set_option maxRecDepth 100000 in
set_option maxHeartbeats 1600000 in
theorem cquan_ok (w : World) (cb qn : Nat) (h : CodeAt w cb qn) : Calls Tryz.prog 26 #[.pointer (some ⟨cb, 0, none⟩)] w fun e w' => e = .returned (.pointer (some ⟨qn, 0, none⟩)) ∧ w = w' := by
  obtain ⟨da, dc, aa, ac, c0, c1, c2, cl⟩ := h.cell
  clear h
  go_enter Tryz.func26, Tryz.ntmps26
  go_wp2_with fail
  go_ret
  exact ⟨rfl, rfl⟩
set_option maxRecDepth 100000 in
set_option maxHeartbeats 1600000 in
theorem cdoms_ok (w : World) (cb qn : Nat) (h : CodeAt w cb qn) : Calls Tryz.prog 27 #[.pointer (some ⟨cb, 0, none⟩)] w fun e w' => Below w.heap.size w w' ∧ ∃ a c, e = .returned (.slice a 4 c) ∧ Cells w' a (d4.flatMap domCells) := by
  obtain ⟨da, dc, aa, ac, hb, ⟨hd, _⟩, _⟩ := h
  obtain ⟨b, off, rfl, _⟩ := hd (by decide)
  have HC := Lib.hid (clone_dom w b off dc d4 (by decide) hd)
  rw [show d4.length = 4 from rfl] at HC
  have c1 : w.cell? ⟨cb, 1, none⟩ = some (.slice (some ⟨b, off, none⟩) 4 dc) := hb.cell 1
  have cl := hb.lt
  clear hb hd
  go_enter Tryz.func27, Tryz.ntmps27
  go_wp2_with fail
  refine HC.out.mono ?_
  rintro e w1 ⟨hb, v', rfl, ho⟩
  have HB := Lib.hid hb; have HO := Lib.hid ho
  clear hb ho
  go_wp2_with fail
  go_ret
  obtain ⟨oa, oc, rfl⟩ := own_shape HO.out
  exact ⟨HB.out, oa, oc, rfl, own_cellsV HO.out⟩
set_option maxRecDepth 100000 in
set_option maxHeartbeats 3200000 in
theorem cnew_ok (w : World) (B p q qn : Nat) (S : NS) (hs : Sto w B p S) (ho : OpsM w B p q S) (hq : QuBlk w qn p q) (h8 : S.vars = 8) (hML : MaxL w) (b off c : Nat) (hd : Cells w (some ⟨b, off, none⟩) (d4.flatMap domCells)) :
    Calls Tryz.prog 7 #[.pointer (some ⟨qn, 0, none⟩), .slice (some ⟨b, off, none⟩) 4 c, .string ord4] w fun e w' => Below w.heap.size w w' ∧ ∃ cb, e = .returned (.tuple #[.pointer (some ⟨cb, 0, none⟩), .int .i64 0]) ∧ CodeAt w' cb qn := by
  have hnm : ∀ d ∈ d4, d.name.size ≤ maxLen := by
    intro d hd
    unfold d4 at hd
    simp at hd
    unfold maxLen
    rcases hd with rfl | rfl | rfl | rfl <;> decide
  have HQ := Lib.hid (fun W (hW : Below w.heap.size w W) => qops_ok W qn p q (hq.below hW hq.lt))
  have HST := Lib.hid (fun W (hW : Below w.heap.size w W) => ostore_ok W B p q S (ho.below hW))
  have HVA := Lib.hid (fun W (hW : Below w.heap.size w W) => nvars_ok W B p S (hs.below hW))
  have HCH := Lib.hid (fun W (hW : Below w.heap.size w W) => check_ok W (some ⟨b, off, none⟩) d4 c (by decide) (hd.below hW) hnm)
  have HBI := Lib.hid (fun W (hW : Below w.heap.size w W) => bitsD_ok W (some ⟨b, off, none⟩) d4 c (by decide) (hd.below hW) hnm)
  have HPL := Lib.hid (fun W (hW : Below w.heap.size w W) => place_ok W (some ⟨b, off, none⟩) d4 c ord4 (by decide) (hd.below hW) hnm (by decide) (hML.below hW))
  have HCL := Lib.hid (fun W (hW : Below w.heap.size w W) => clone_dom W b off c d4 (by decide) (hd.below hW))
  rw [h8] at HVA
  rw [show d4.length = 4 from rfl] at HCH HBI HPL HCL
  rw [d4_may] at HCH HBI
  rw [d4_bits] at HBI
  rw [if_pos rfl] at HCH HBI
  have HB0 := Lib.hid (Below.refl w.heap.size w)
  clear hs ho hq h8 hML hd hnm
  go_enter Tryz.func7, Tryz.ntmps7
  go_wp2_with fail
  refine (HQ.out w HB0.out).mono ?_
  rintro e w1 ⟨rfl, rfl⟩
  go_wp2_with fail
  refine (HCH.out w HB0.out).mono ?_
  rintro e w1 ⟨rfl, hb1⟩
  have HB1 := Lib.hid hb1
  clear hb1
  go_wp2_with fail
  refine (HBI.out w1 HB1.out).mono ?_
  rintro e w2 ⟨rfl, hb2⟩
  have HB2 := Lib.hid (HB1.out.trans (hb2.mono HB1.out.size))
  clear hb2
  go_wp2_with fail
  refine (HQ.out w2 HB2.out).mono ?_
  rintro e w3 ⟨rfl, rfl⟩
  go_wp2_with fail
  refine (HST.out w2 HB2.out).mono ?_
  rintro e w3 ⟨rfl, rfl⟩
  go_wp2_with fail
  refine (HVA.out w2 HB2.out).mono ?_
  rintro e w3 ⟨rfl, rfl⟩
  go_wp2_with fail
  refine (HPL.out w2 HB2.out).mono ?_
  rintro e w3 ⟨hb3, hp⟩
  have HB3 := Lib.hid (HB2.out.trans (hb3.mono HB2.out.size))
  rcases hp with ⟨h, _⟩ | ⟨_, h, _⟩ | ⟨_, gs, ob, hg, rfl, hr⟩
  · rw [d4_may] at h; cases h
  · exact absurd d4_ord (h _)
  obtain rfl := hg.uniq d4_may d4_ord
  rw [d4_rows] at hr
  have HR := Lib.hid (hr (by decide))
  rw [show d4.length = 4 from rfl]
  clear hb3 hg hr
  go_wp2_with fail
  refine (HCL.out w3 HB3.out).mono ?_
  rintro e w4 ⟨hb4, v', rfl, ho4⟩
  obtain ⟨oa, oc, rfl⟩ := own_shape ho4
  have HB4 := Lib.hid (HB3.out.trans (hb4.mono HB3.out.size)); have HR4 : Hid (RowsT w4 (some ⟨ob, 0, none⟩) at4) := Lib.hid (HR.out.below hb4); have HO4 := Lib.hid ho4
  clear hb4 ho4
  go_wp2_with fail
  go_ret2
  have hal : Below w4.heap.size w4 (w4.alloc (.cells #[.pointer (some ⟨qn, 0, none⟩), .slice oa 4 oc, .slice (some ⟨ob, 0, none⟩) 4 4] 93)) := (Below.refl _ _).alloc (Nat.le_refl _) _
  exact ⟨HB4.out.trans (hal.mono HB4.out.size), w4.heap.size, rfl, oa, oc, some ⟨ob, 0, none⟩, 4, Blk.new_ _ _ _, ⟨(own_cellsV HO4.out).below hal, tb_below (own_tbV HO4.out) hal⟩, HR4.out.below hal⟩
end Go.Proofs.YtobhjkfkdkiigaaGreatDoor
