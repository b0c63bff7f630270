/- Mk (layer 3): its contract. -/
import Derived.Test.YtdalnhhenahcjaaNodeS
import Derived.Deep.RegionHeld3
namespace Go.Proofs.Ytdalnhhenahcjaa
open Go.RowKit HP NP
def MkPost (B p : Nat) (S : NS) (v low high : Int) (w : World) (e : Ending) (w' : World) : Prop :=
  e = .returned (.tuple #[.int .i64 (mkS S v low high).2.1, .int .i64 (mkS S v low high).2.2]) ∧ Sto w' B p (mkS S v low high).1 ∧ Kp TN B w w'
theorem MkPost.mk {B p : Nat} {S : NS} {v low high : Int} {w w' : World} {e : Ending} {S' : NS} {r x : Int} (h : mkS S v low high = (S', r, x)) (he : e = .returned (.tuple #[.int .i64 r, .int .i64 x])) (hs : Sto w' B p S') (hk : Kp TN B w w') : MkPost B p S v low high w e w' := by
  unfold MkPost; rw [h]; exact ⟨he, hs, hk⟩
set_option maxRecDepth 100000 in
set_option maxHeartbeats 4000000 in
theorem nmk_ok (w : World) (B p : Nat) (S : NS) (h : Sto w B p S) (hB : B ≤ w.heap.size) (v low high : Int) :
    Calls Try.prog 33 #[.pointer (some ⟨p, 0, none⟩), .int .i64 v, .int .i64 low, .int .i64 high] w (MkPost B p S v low high w) := by
  cases hok : okMk S v low high with
  | false => exact (nmk_no w B p S h v low high hok).mono fun e w' ⟨he, n, hw⟩ => MkPost.mk (by unfold mkS; rw [hok]; rfl) he (by rw [hw]; exact h.below (bdN' w n)) (by rw [hw]; exact (Kp.refl _ _ _).drewN n)
  | true =>
  have HS := Lib.hid h
  have HOK := Lib.hid hok
  have HG := Lib.hid (fun n => ngivenQ w B p S h n)
  have HLx := Lib.hid (fun x hx n => nfindQ w B p S h low x hx n)
  have HHx := Lib.hid (fun x hx n => nfindQ w B p S h high x hx n)
  obtain ⟨g, q, cap, fa, fc, M, h⟩ := h
  have c0 : w.cell? ⟨p, 0, none⟩ = some (.int .i64 (S.vars : Int)) := h.tab.cell 0
  have c2 : w.cell? ⟨p, 2, none⟩ = some (.slice (some ⟨g, 0, none⟩) S.l.length cap) := h.tab.cell 2
  have hlm := h.wf.lm
  have H := Lib.hid h
  clear h
  unfold okMk at hok
  simp only [Bool.and_eq_true, decide_eq_true_eq] at hok
  obtain ⟨hv0, hvv, hl, hh, hvl, hvh⟩ := hok
  have HL := Lib.hid (HLx.out 0 (by unfold findE; rw [hl]; rfl))
  have HH := Lib.hid (HHx.out 0 (by unfold findE; rw [hh]; rfl))
  obtain ⟨lo, rfl, hbl⟩ := isK_out hl
  obtain ⟨hi, rfl, hbh⟩ := isK_out hh
  obtain ⟨va, rfl⟩ : ∃ n : Nat, v = (n : Int) := ⟨v.toNat, by omega⟩
  rw [Int.toNat_natCast] at hvl hvh
  obtain ⟨gl, _, lv, _⟩ := H.out.nd_ (isB_lt hbl)
  obtain ⟨_, _, hv, _⟩ := H.out.nd_ (isB_lt hbh)
  have b1 := isB_lt hbl
  have b2 := isB_lt hbh
  have HF := Lib.hid (show va < S.vars ∧ isB S.l lo = true ∧ isB S.l hi = true ∧ va < (nd S.l lo).v ∧ va < (nd S.l hi).v from ⟨by omega, hbl, hbh, by omega, by omega⟩)
  obtain ⟨x, hx⟩ : ∃ x, x = (nd S.l lo).v := ⟨_, rfl⟩
  obtain ⟨y, hy⟩ : ∃ y, y = (nd S.l hi).v := ⟨_, rfl⟩
  rw [← hx] at lv hvl
  rw [← hy] at hv hvh
  have d0 : decide ((va : Int) < 0) = false := decide_eq_false (by omega)
  have d2 : decide ((S.vars : Int) ≤ (va : Int)) = false := decide_eq_false (by omega)
  have d2' : decide (S.vars ≤ va) = false := decide_eq_false (by omega)
  obtain ⟨mn, hmn⟩ : ∃ mn : Nat, (if y < x then (y : Int) else (x : Int)) = (mn : Int) := ⟨if y < x then y else x, by split <;> rfl⟩
  have d3 : va < mn := by split at hmn <;> omega
  have hsm : va ≤ 256 := by have := H.out.wf.v256; omega
  clear hv0 hvv hl hh hbl hbh hx hy hvl hvh HLx HHx
  by_cases he : lo = hi
  · have de : ((lo : Int) == (hi : Int)) = true := beq_iff_eq.2 (by omega)
    have hmk : mkS S va lo hi = (S, (lo : Int), 0) := by unfold mkS; rw [HOK.out, if_pos rfl, if_pos (by omega)]
    have HMK := Lib.hid hmk
    clear he hmk
    go_enter Try.func33, Try.ntmps33
    go_wp2_with fail
    go_quiet ((first | (go_at_call 50; with_reducible exact Calls.quiet_of_same (HG.out _)) | (go_at_call 48; with_reducible exact Calls.quiet_of_same (HL.out _)) | (go_at_call 48; with_reducible exact Calls.quiet_of_same (HH.out _))))
    go_wp2_with fail
    go_ret2
    exact MkPost.mk HMK.out rfl (HS.out.below (bdN' _ _)) ((Kp.refl _ _ _).drewN _)
  · have de : ((lo : Int) == (hi : Int)) = false := beq_eq_false_iff_ne.2 (by omega)
    have HE := Lib.hid he
    clear he
    go_enter Try.func33, Try.ntmps33
    go_wp2_with fail
    go_quiet ((first | (go_at_call 50; with_reducible exact Calls.quiet_of_same (HG.out _)) | (go_at_call 48; with_reducible exact Calls.quiet_of_same (HL.out _)) | (go_at_call 48; with_reducible exact Calls.quiet_of_same (HH.out _))))
    obtain ⟨w0, hw0⟩ : ∃ w0, w0 = w.drewN nq := ⟨_, rfl⟩
    rw [← hw0]
    have HK0 : Hid (Kp TN B w w0) := by rw [hw0]; exact Lib.hid ((Kp.refl _ _ _).drewN _)
    have HI : Hid (StIn w0 B p g q cap fa fc M S) := by rw [hw0]; exact Lib.hid (H.out.below (bdN' _ _))
    have hB0 : B ≤ w0.heap.size := by rw [hw0]; exact hB
    have c4 : w0.cell? ⟨p, 4, none⟩ = some (.pointer (some ⟨q, 0, none⟩)) := HI.out.tab.cell 4
    have pl : p < w0.heap.size := HI.out.tab.lt
    clear hw0 c0 c2 HG HL HH gl lv hv b1 b2 d2 d2' H hmn
    have kb := Blk.new_ w0 26 #[.int .i64 (va : Int), .int .i64 (lo : Int), .int .i64 (hi : Int)]
    have HKB := Lib.hid kb
    have hpne : p ≠ w0.heap.size := by omega
    have HSZ : Hid ((w0.alloc (.cells #[.int .i64 (va : Int), .int .i64 (lo : Int), .int .i64 (hi : Int)] 26)).heap.size = w0.heap.size + 1) := Lib.hid (by simp)
    have HKP : Hid (∀ w', Below (w0.alloc (.cells #[.int .i64 (va : Int), .int .i64 (lo : Int), .int .i64 (hi : Int)] 26)).drew.heap.size (w0.alloc (.cells #[.int .i64 (va : Int), .int .i64 (lo : Int), .int .i64 (hi : Int)] 26)).drew w' → w'.cell? ⟨p, 4, none⟩ = some (.pointer (some ⟨q, 0, none⟩)) ∧ w'.cell? ⟨w0.heap.size, 0, none⟩ = some (.int .i64 (va : Int)) ∧ w'.cell? ⟨w0.heap.size, 1, none⟩ = some (.int .i64 (lo : Int)) ∧ w'.cell? ⟨w0.heap.size, 2, none⟩ = some (.int .i64 (hi : Int))) := by
      refine Lib.hid fun w' hb => ?_
      have h1 := HKB.out.drew_.below hb (by simp)
      have h2 := (HI.out.tab.alloc_ (.cells #[.int .i64 (va : Int), .int .i64 (lo : Int), .int .i64 (hi : Int)] 26)).drew_.below hb (by simp; omega)
      exact ⟨h2.cell 4, h1.cell 0, h1.cell 1, h1.cell 2⟩
    have HKP0 := Lib.hid (HKP.out _ (Below.refl _ _))
    have HW0 : Hid (Below w0.heap.size w0 (w0.alloc (.cells #[.int .i64 (va : Int), .int .i64 (lo : Int), .int .i64 (hi : Int)] 26))) := Lib.hid ((Below.refl _ _).alloc (Nat.le_refl _) _)
    have HGT := Lib.hid (hb_get ((w0.alloc (.cells #[.int .i64 (va : Int), .int .i64 (lo : Int), .int .i64 (hi : Int)] 26)).drew) B q M (cnt S.l - 2) ((va : Int), (lo : Int), (hi : Int)) ((HI.out.has.below HW0.out).below ((Below.refl _ _).drew)))
    clear kb
    go_wp2_with fail
    go_region_held3 (fun w' => w'.cell? ⟨p, 4, none⟩ = some (.pointer (some ⟨q, 0, none⟩)) ∧ w'.cell? ⟨w0.heap.size, 0, none⟩ = some (.int .i64 (va : Int)) ∧ w'.cell? ⟨w0.heap.size, 1, none⟩ = some (.int .i64 (lo : Int)) ∧ w'.cell? ⟨w0.heap.size, 2, none⟩ = some (.int .i64 (hi : Int)))
      (first | with_reducible exact HKP.out _ hb3 | with_reducible exact HKP0.out) (first | (go_at_call 18; ((with_reducible refine HGT.out.mono ?_); rintro e w3 ⟨rfl, hb3⟩)))
    have HB3 := Lib.hid (HW0.out.trans ((Below.refl _ _).drew.trans (hb3.mono (by simp : w0.heap.size ≤ _))))
    have HI3 := Lib.hid (HI.out.below HB3.out)
    have hk3 := HKB.out.drew_.below hb3 (by simp)
    have HK3 := Lib.hid hk3
    have HKW := Lib.hid (HK0.out.trans (Kp.of_below HB3.out : Kp TN B w0 w3))
    have hB3 : B ≤ w3.heap.size := by have := HB3.out.size; omega
    have pl3 : p < w3.heap.size := HI3.out.tab.lt
    clear hb3 hk3 HKP HKP0 c4 pl hpne hB0 d3 de
    cases hf : findK S.l ((va : Int), (lo : Int), (hi : Int)) with
    | some k =>
      have hm := HI3.out.rep.some_ hf
      have hg1 : getV M ((va : Int), (lo : Int), (hi : Int)) = (k : Int) := by unfold getV; rw [hm]; rfl
      have hg2 : getE M ((va : Int), (lo : Int), (hi : Int)) = 0 := by unfold getE; rw [hm]; rfl
      have hmk : mkS S va lo hi = (S, (k : Int), 0) := by unfold mkS; rw [HOK.out, if_pos rfl, if_neg (by have := HE.out; omega), hf]
      have HMK := Lib.hid hmk
      rw [hg1, hg2]
      clear hm hg1 hg2 hmk hf
      go_wp2_with fail
      go_ret2
      exact MkPost.mk HMK.out rfl ⟨_, _, _, _, _, _, HI3.out⟩ HKW.out
    | none =>
      have hm := HI3.out.rep.none_ hf
      have hg1 : getV M ((va : Int), (lo : Int), (hi : Int)) = 0 := by unfold getV; rw [hm]; rfl
      have hg2 : getE M ((va : Int), (lo : Int), (hi : Int)) = 3 := by unfold getE; rw [hm]; rfl
      rw [hg1, hg2]
      have HM := Lib.hid hm; have HFN := Lib.hid hf
      have c1 : w3.cell? ⟨p, 1, none⟩ = some (.int .i64 (S.budget : Int)) := HI3.out.tab.cell 1
      have c5 : w3.cell? ⟨p, 5, none⟩ = some (.int .i64 (cnt S.l : Int)) := HI3.out.tab.cell 5
      clear hm hg1 hg2 hf
      by_cases hbud : S.budget ≤ cnt S.l
      · have hmk : mkS S va lo hi = (S, 0, 30) := by unfold mkS; rw [HOK.out, if_pos rfl, if_neg (by have := HE.out; omega), HFN.out]; simp only [if_pos hbud]
        have HMK := Lib.hid hmk
        clear hmk
        go_wp2_with fail
        go_quiet (fail)
        go_wp2_with fail
        go_ret2
        exact MkPost.mk HMK.out rfl (Sto.below (w := w3) ⟨_, _, _, _, _, _, HI3.out⟩ (bdN' _ _)) (HKW.out.drewN _)
      · have hbud' : cnt S.l < S.budget := by omega
        have HBUD := Lib.hid hbud'
        have dbud : decide ((S.budget : Int) ≤ (cnt S.l : Int)) = false := decide_eq_false (by omega)
        clear hbud
        go_wp2_with fail
        go_quiet (fail)
        obtain ⟨w4, hw4⟩ : ∃ w4, w4 = w3.drewN nq := ⟨_, rfl⟩
        rw [← hw4]
        have HI4 : Hid (StIn w4 B p g q cap fa fc M S) := by rw [hw4]; exact Lib.hid (HI3.out.below (bdN' _ _))
        have HK4 : Hid (Kp TN B w w4) := by rw [hw4]; exact Lib.hid (HKW.out.drewN _)
        have HKB4 : Hid (Blk w4 w0.heap.size 26 #[.int .i64 (va : Int), .int .i64 (lo : Int), .int .i64 (hi : Int)]) := by rw [hw4]; exact Lib.hid HK3.out
        have hB4 : B ≤ w4.heap.size := by rw [hw4]; exact hB3
        clear hw4 c1 c5 hB3 pl3
        have c2 : w4.cell? ⟨p, 2, none⟩ = some (.slice (some ⟨g, 0, none⟩) S.l.length cap) := HI4.out.tab.cell 2
        have c3 : w4.cell? ⟨p, 3, none⟩ = some (.slice fa (frees S.l).length fc) := HI4.out.tab.cell 3
        have f3 : w4.frozen? ⟨p, 3, none⟩ = false := HI4.out.tab.frozen 3
        have pl4 : p < w4.heap.size := HI4.out.tab.lt
        have hfrc := HI4.out.frc
        have hlenfr : (frees S.l).length ≤ S.l.length := by unfold frees; exact Nat.le_trans (List.length_filter_le _ _) (by simp)
        cases hfr : frees S.l with
        | nil =>
          have hff : ff S.l = S.l.length := by unfold ff; rw [hfr]; rfl
          have HFF := Lib.hid hff; have HFR := Lib.hid hfr
          have hR4 := HI4.out.raw
          rw [hfr] at hR4 c3
          have HR4 := Lib.hid (hR4.below ((Below.refl _ _).alloc (Nat.le_refl _) (.cells #[.bool false, .int .i64 0, .int .i64 0, .int .i64 0, .int .i64 0] 99) : Below w4.heap.size w4 (w4.alloc (.cells #[.bool false, .int .i64 0, .int .i64 0, .int .i64 0, .int .i64 0] 99))))
          have HKA := Lib.hid ((Kp.refl TS B w4).alloc (.cells #[.bool false, .int .i64 0, .int .i64 0, .int .i64 0, .int .i64 0] 99))
          obtain ⟨i0, hi0, hz0, hz1, hz2⟩ := info_parts info_one
          have hll : S.l.length ≤ 1048576 := hlm
          clear hff hfr hR4 hlenfr hfrc
          go_wp2_with (at_builtin; refine wpList_append_src rfl (.tmp 126) (.tmp 128) 84 rfl B 99 i0 (.agg #[.bool false, .int .i64 0, .int .i64 0, .int .i64 0, .int .i64 0]) 5 40 Try.underlying84 hi0 hz0 hz1 hz2 rfl (by decide) (.slice (some ⟨g, 0, none⟩) S.l.length cap) S.l.length _ rfl HR4.out.row (some ⟨w4.heap.size, 0, none⟩) 1 1 (ndCells Nd.no) rfl rfl (Cells.lit _ _ _) no_ones (by unfold maxLen; omega) (by omega) (by simp; omega) ?_)
          intro v' w41 hown hg _
          obtain ⟨g', cap', rfl⟩ := own_some hown (by omega)
          have hM := HR4.out.more hg hown
          have HM1 := Lib.hid hM.1; have HM2 := Lib.hid hM.2.1
          have c2 : w41.cell? ⟨p, 2, none⟩ = some (.slice (some ⟨g, 0, none⟩) S.l.length cap) := hM.2.2.cell 2
          have f2 : w41.frozen? ⟨p, 2, none⟩ = false := hM.2.2.frozen 2
          have pl41 : p < w41.heap.size := hM.2.2.lt
          have hgp : g' ≠ p := by obtain ⟨cs, hc, _⟩ := own_blk hown; exact hc.ne hM.2.2 (by decide)
          have hown' : w41.ownsRow B 99 5 (.slice (some ⟨g', 0, none⟩) (S.l.length + 1) cap') (S.l.length + 1) ((S.l ++ [Nd.no]).flatMap ndCells) := by simpa using hown
          have at_ := fun j v hj => own_at ndCells 5 (fun _ => rfl) hown' (i := S.l.length) (j := j) (v := v) (x := Nd.no) (by simp) hj
          have x0 : w41.cell? ⟨g', S.l.length * 5, none⟩ = some (.bool false) := at_ 0 _ rfl
          have x1 : w41.cell? ⟨g', S.l.length * 5 + 1, none⟩ = some (.int .i64 0) := at_ 1 _ rfl
          have x2 : w41.cell? ⟨g', S.l.length * 5 + 2, none⟩ = some (.int .i64 0) := at_ 2 _ rfl
          have x3 : w41.cell? ⟨g', S.l.length * 5 + 3, none⟩ = some (.int .i64 0) := at_ 3 _ rfl
          have x4 : w41.cell? ⟨g', S.l.length * 5 + 4, none⟩ = some (.int .i64 0) := at_ 4 _ rfl
          have z0 := World.ownsRow.frozenAt hown (S.l.length * 5)
          have z1 := World.ownsRow.frozenAt hown (S.l.length * 5 + 1)
          have z2 := World.ownsRow.frozenAt hown (S.l.length * 5 + 2)
          have z3 := World.ownsRow.frozenAt hown (S.l.length * 5 + 3)
          have z4 := World.ownsRow.frozenAt hown (S.l.length * 5 + 4)
          have gl41 : g' < w41.heap.size := by obtain ⟨cs, hc, _⟩ := own_blk hown; exact hc.lt
          clear hown hown' hM hg c3 f3 pl4 at_
          go_wp2_with fail
          generalize hw5 : (((((w41.setCell ⟨p, 2, none⟩ (.slice (some ⟨g', 0, none⟩) (S.l.length + 1) cap')).setCell ⟨g', S.l.length * 5, none⟩ (.bool true)).setCell ⟨g', S.l.length * 5 + 1, none⟩ (.int .i64 (va : Int))).setCell ⟨g', S.l.length * 5 + 2, none⟩ (.int .i64 (lo : Int))).setCell ⟨g', S.l.length * 5 + 3, none⟩ (.int .i64 (hi : Int))).setCell ⟨g', S.l.length * 5 + 4, none⟩ (.int .i64 0) = w5
          have HN5 := HM1.out.node (k := S.l.length) (by simp) ⟨true, va, lo, hi, 0⟩
          have ep : putN S.l (ff S.l) ⟨true, va, lo, hi, 0⟩ = (S.l ++ [Nd.no]).set S.l.length ⟨true, va, lo, hi, 0⟩ := by rw [HFF.out]; unfold putN; rw [if_neg (Nat.lt_irrefl _)]; simp
          have ef : frees (putN S.l (ff S.l) ⟨true, va, lo, hi, 0⟩) = [] := by rw [frees_put _ rfl, HFR.out]; rfl
          have HR5' : Hid (∃ g5 cap5 fa5 fc5, StRaw w5 B p g5 q cap5 fa5 fc5 S.vars S.budget (putN S.l (ff S.l) ⟨true, va, lo, hi, 0⟩) (frees (putN S.l (ff S.l) ⟨true, va, lo, hi, 0⟩)) (cnt S.l) (wr64 S.made) (wr64 S.sweeps)) := by rw [← hw5, ep, ← ep, ef, ep]; exact Lib.hid ⟨_, _, _, _, HN5.1⟩
          have HK45 : Hid (Kp TS B w4 w5) := by
            rw [← hw5]
            exact Lib.hid ((HKA.out.trans HM2.out).trans (HN5.2.mono ts_one (Nat.le_refl _)))
          obtain ⟨g5, cap5, fa5, fc5, hR5⟩ := HR5'.out
          have HR5 := Lib.hid hR5
          obtain ⟨kk, hkk⟩ : ∃ kk, kk = S.l.length := ⟨_, rfl⟩
          have HKK : Hid (kk = ff S.l) := Lib.hid (by rw [hkk, HFF.out])
          rw [← hkk]
          clear hkk hR5 HR5' ep ef HN5 hw5 hgp x0 x1 x2 x3 x4 z0 z1 z2 z3 z4 c2 f2 hll pl41 gl41
          have c4 : w5.cell? ⟨p, 4, none⟩ = some (.pointer (some ⟨q, 0, none⟩)) := HR5.out.tab.cell 4
          have pl5 : p < w5.heap.size := HR5.out.tab.lt
          have HKB5 := Lib.hid (HK45.out.blk HKB4.out rfl)
          have HH5 := Lib.hid ((HI4.out.has.kp HK45.out rfl rfl).below ((Below.refl _ _).drew : Below w5.heap.size w5 w5.drew))
          have hB5 : B ≤ w5.heap.size := by have := HK45.out.size; omega
          have k0 : w5.cell? ⟨w0.heap.size, 0, none⟩ = some (.int .i64 (va : Int)) := HKB5.out.cell 0
          have k1 : w5.cell? ⟨w0.heap.size, 1, none⟩ = some (.int .i64 (lo : Int)) := HKB5.out.cell 1
          have k2 : w5.cell? ⟨w0.heap.size, 2, none⟩ = some (.int .i64 (hi : Int)) := HKB5.out.cell 2
          have kl : w0.heap.size < w5.heap.size := HKB5.out.lt
          have hcm : cnt S.l - 2 < 1048576 := by have := HBUD.out; have := HI4.out.wf.bm; omega
          have HP := Lib.hid (hb_put w5.drew B q M (cnt S.l - 2) ((va : Int), (lo : Int), (hi : Int)) (kk : Int) HH5.out hB5 hcm)
          have HKP : Hid (∀ w', Kp TH B w5.drew w' → w'.cell? ⟨p, 4, none⟩ = some (.pointer (some ⟨q, 0, none⟩)) ∧ w'.cell? ⟨w0.heap.size, 0, none⟩ = some (.int .i64 (va : Int)) ∧ w'.cell? ⟨w0.heap.size, 1, none⟩ = some (.int .i64 (lo : Int)) ∧ w'.cell? ⟨w0.heap.size, 2, none⟩ = some (.int .i64 (hi : Int))) := by
            refine Lib.hid fun w' hk => ?_
            have h1 := hk.blk HKB5.out.drew_ rfl
            have h2 := hk.blk HR5.out.tab.drew_ rfl
            exact ⟨h2.cell 4, h1.cell 0, h1.cell 1, h1.cell 2⟩
          have HKP0 := Lib.hid (HKP.out _ (Kp.refl _ _ _))
          clear c4 k0 k1 k2 hcm
          go_region_held3 (fun w' => w'.cell? ⟨p, 4, none⟩ = some (.pointer (some ⟨q, 0, none⟩)) ∧ w'.cell? ⟨w0.heap.size, 0, none⟩ = some (.int .i64 (va : Int)) ∧ w'.cell? ⟨w0.heap.size, 1, none⟩ = some (.int .i64 (lo : Int)) ∧ w'.cell? ⟨w0.heap.size, 2, none⟩ = some (.int .i64 (hi : Int)))
            (first | with_reducible exact HKP.out _ hk6 | with_reducible exact HKP0.out) (first | (go_at_call 17; ((with_reducible refine HP.out.mono ?_); rintro e w6 ⟨rfl, hb6, hk6⟩)))
          have HR6 := Lib.hid ((HR5.out.below ((Below.refl _ _).drew : Below w5.heap.size w5 w5.drew)).kp hk6 rfl rfl rfl)
          have HH6 := Lib.hid hb6
          have HK6 : Hid (Kp TN B w w6) := Lib.hid (((HK4.out.trans (HK45.out.mono tn_ts (Nat.le_refl _))).trans (Kp.of_below (Below.refl _ _).drew)).trans (hk6.mono tn_hash (Nat.le_refl _)))
          have c5 : w6.cell? ⟨p, 5, none⟩ = some (.int .i64 (cnt S.l : Int)) := HR6.out.tab.cell 5
          have c6 : w6.cell? ⟨p, 6, none⟩ = some (.int .i64 (wr64 S.made)) := HR6.out.tab.cell 6
          have f5 : w6.frozen? ⟨p, 5, none⟩ = false := HR6.out.tab.frozen 5
          have f6 : w6.frozen? ⟨p, 6, none⟩ = false := HR6.out.tab.frozen 6
          have pl6 : p < w6.heap.size := HR6.out.tab.lt
          have hcm : cnt S.l ≤ 1048576 := by have := HBUD.out; have := HI4.out.wf.bm; omega
          clear hb6 hk6 HKP HKP0 HP
          go_wp2_with fail
          have hcn := cnt_put (ff_le S.l) (ff_is S.l) ⟨true, va, lo, hi, 0⟩ rfl
          have HR7 := Lib.hid (HR6.out.len_ ((cnt S.l : Int) + 1) (cnt (putN S.l (ff S.l) ⟨true, va, lo, hi, 0⟩)) (by rw [hcn]; rfl))
          refine (aadd_ok _ p 6 (wr64 S.made) (HR7.out.tab.cell 6) (HR7.out.tab.frozen 6)).mono ?_
          rintro e w8 ⟨rfl, rfl⟩
          go_wp2_with fail
          go_ret2
          obtain ⟨hva, hbl, hbh, hvl, hvh⟩ := HF.out
          have hmk : mkS S va lo hi = ({ S with l := putN S.l (ff S.l) ⟨true, va, lo, hi, 0⟩, made := S.made + 1 }, (ff S.l : Int), 0) := by unfold mkS; rw [HOK.out, if_pos rfl, if_neg (by have := HE.out; omega), HFN.out]; simp only [if_neg (Nat.not_le.2 HBUD.out), Int.toNat_natCast]
          have hwr := wr_succ S.made
          have hwf := HI4.out.wf.put hva HE.out hbl hbh hvl hvh HFN.out HBUD.out (S.made + 1)
          have hR8 := HR7.out.made_ (wrap64 (wr64 S.made + 1))
          rw [hwr] at hR8
          have hHB := HH6.out
          rw [HM.out] at hHB
          simp only [Option.isSome_none, Bool.false_eq_true, if_false] at hHB
          have hc2 := cnt_two HI4.out.wf
          rw [show cnt S.l - 2 + 1 = cnt (putN S.l (ff S.l) ⟨true, va, lo, hi, 0⟩) - 2 by rw [hcn]; omega, HKK.out] at hHB
          have k7 := HR6.out.kpp 5 (.int .i64 ((cnt S.l : Int) + 1))
          have k8 := HR7.out.kpp 6 (.int .i64 (wrap64 (wr64 S.made + 1)))
          rw [hwr] at k8
          rw [hwr]
          refine MkPost.mk hmk (by rw [← HKK.out]; rfl) ⟨g5, q, cap5, fa5, fc5, _, StRaw.stin hR8 hwf ((hHB.kp k7 rfl rfl).kp k8 rfl rfl) (HI4.out.rep.put (ff_le S.l) (ff_ge HI4.out.wf.two) (ff_is S.l) ⟨true, va, lo, hi, 0⟩ rfl HFN.out)⟩ ((HK6.out.trans (k7.mono tn_store (Nat.le_refl _))).trans (k8.mono tn_store (Nat.le_refl _)))
        | cons f t =>
          have hR4 := HI4.out.raw
          rw [hfr] at hR4 c3 hfrc hlenfr
          rw [List.length_cons] at c3 hfrc hlenfr
          obtain ⟨fb, fo, rfl, hfb, ft⟩ := hR4.top
          have HFR := Lib.hid hfr; have HR4 := Lib.hid hR4
          obtain ⟨n, hn⟩ : ∃ n, n = t.length := ⟨_, rfl⟩
          rw [← hn] at c3 hfrc hlenfr ft
          have HN := Lib.hid hn
          have hfc : n + 1 ≤ fc := hfrc.1
          have hff : ff S.l = f := by unfold ff; rw [hfr]; rfl
          have hfm := (frees_mem S.l f).1 (by rw [hfr]; simp)
          obtain ⟨gl4, x0, x1, x2, x3, x4⟩ := HI4.out.nd_ hfm.2.1
          have hfl : f < S.l.length := hfm.2.1
          have HFF := Lib.hid hff; have HFM := Lib.hid hfm
          have z0 := World.ownsRow.frozenAt HI4.out.row (f * 5)
          have z1 := World.ownsRow.frozenAt HI4.out.row (f * 5 + 1)
          have z2 := World.ownsRow.frozenAt HI4.out.row (f * 5 + 2)
          have z3 := World.ownsRow.frozenAt HI4.out.row (f * 5 + 3)
          have z4 := World.ownsRow.frozenAt HI4.out.row (f * 5 + 4)
          have hgp : g ≠ p := by obtain ⟨cs, hc, _⟩ := own_blk HI4.out.row; exact hc.ne HI4.out.tab (by decide)
          have hfp : fb ≠ p := by obtain ⟨cs, hc⟩ := HI4.out.frt fb fo none rfl; exact hc.ne HI4.out.tab (by decide)
          clear hfr hR4 hn hfrc hff hfm
          go_wp2_with fail
          generalize hw5 : (((((w4.setCell ⟨p, 3, none⟩ (.slice (some ⟨fb, fo, none⟩) n fc)).setCell ⟨g, f * 5, none⟩ (.bool true)).setCell ⟨g, f * 5 + 1, none⟩ (.int .i64 (va : Int))).setCell ⟨g, f * 5 + 2, none⟩ (.int .i64 (lo : Int))).setCell ⟨g, f * 5 + 3, none⟩ (.int .i64 (hi : Int))).setCell ⟨g, f * 5 + 4, none⟩ (.int .i64 0) = w5
          have HN5 := HR4.out.pop.node hfl ⟨true, va, lo, hi, 0⟩
          rw [← HN.out] at HN5
          have ep : putN S.l (ff S.l) ⟨true, va, lo, hi, 0⟩ = S.l.set f ⟨true, va, lo, hi, 0⟩ := by rw [HFF.out]; unfold putN; rw [if_pos hfl]
          have ef : frees (putN S.l (ff S.l) ⟨true, va, lo, hi, 0⟩) = t := by rw [frees_put _ rfl, HFR.out]; rfl
          have HR5' : Hid (∃ g5 cap5 fa5 fc5, StRaw w5 B p g5 q cap5 fa5 fc5 S.vars S.budget (putN S.l (ff S.l) ⟨true, va, lo, hi, 0⟩) (frees (putN S.l (ff S.l) ⟨true, va, lo, hi, 0⟩)) (cnt S.l) (wr64 S.made) (wr64 S.sweeps)) := by rw [← hw5, ep, ← ep, ef, ep]; exact Lib.hid ⟨_, _, _, _, HN5.1⟩
          have HK45 : Hid (Kp TS B w4 w5) := by
            rw [← hw5]
            have k1 := HR4.out.kpn 3 (.slice (some ⟨fb, fo, none⟩) n fc)
            exact Lib.hid (k1.trans (HN5.2.mono ts_one (Nat.le_refl _)))
          obtain ⟨g5, cap5, fa5, fc5, hR5⟩ := HR5'.out
          have HR5 := Lib.hid hR5
          obtain ⟨kk, hkk⟩ : ∃ kk, kk = f := ⟨_, rfl⟩
          have HKK : Hid (kk = ff S.l) := Lib.hid (by rw [hkk, HFF.out])
          rw [← hkk]
          clear hkk hR5 HR5' ep ef HN5 hw5 hfl hgp hfp x0 x1 x2 x3 x4 z0 z1 z2 z3 z4 gl4 ft c2 c3 f3 hlenfr hfc hfb pl4
          have c4 : w5.cell? ⟨p, 4, none⟩ = some (.pointer (some ⟨q, 0, none⟩)) := HR5.out.tab.cell 4
          have pl5 : p < w5.heap.size := HR5.out.tab.lt
          have HKB5 := Lib.hid (HK45.out.blk HKB4.out rfl)
          have HH5 := Lib.hid ((HI4.out.has.kp HK45.out rfl rfl).below ((Below.refl _ _).drew : Below w5.heap.size w5 w5.drew))
          have hB5 : B ≤ w5.heap.size := by have := HK45.out.size; omega
          have k0 : w5.cell? ⟨w0.heap.size, 0, none⟩ = some (.int .i64 (va : Int)) := HKB5.out.cell 0
          have k1 : w5.cell? ⟨w0.heap.size, 1, none⟩ = some (.int .i64 (lo : Int)) := HKB5.out.cell 1
          have k2 : w5.cell? ⟨w0.heap.size, 2, none⟩ = some (.int .i64 (hi : Int)) := HKB5.out.cell 2
          have kl : w0.heap.size < w5.heap.size := HKB5.out.lt
          have hcm : cnt S.l - 2 < 1048576 := by have := HBUD.out; have := HI4.out.wf.bm; omega
          have HP := Lib.hid (hb_put w5.drew B q M (cnt S.l - 2) ((va : Int), (lo : Int), (hi : Int)) (kk : Int) HH5.out hB5 hcm)
          have HKP : Hid (∀ w', Kp TH B w5.drew w' → w'.cell? ⟨p, 4, none⟩ = some (.pointer (some ⟨q, 0, none⟩)) ∧ w'.cell? ⟨w0.heap.size, 0, none⟩ = some (.int .i64 (va : Int)) ∧ w'.cell? ⟨w0.heap.size, 1, none⟩ = some (.int .i64 (lo : Int)) ∧ w'.cell? ⟨w0.heap.size, 2, none⟩ = some (.int .i64 (hi : Int))) := by
            refine Lib.hid fun w' hk => ?_
            have h1 := hk.blk HKB5.out.drew_ rfl
            have h2 := hk.blk HR5.out.tab.drew_ rfl
            exact ⟨h2.cell 4, h1.cell 0, h1.cell 1, h1.cell 2⟩
          have HKP0 := Lib.hid (HKP.out _ (Kp.refl _ _ _))
          clear c4 k0 k1 k2 hcm
          go_region_held3 (fun w' => w'.cell? ⟨p, 4, none⟩ = some (.pointer (some ⟨q, 0, none⟩)) ∧ w'.cell? ⟨w0.heap.size, 0, none⟩ = some (.int .i64 (va : Int)) ∧ w'.cell? ⟨w0.heap.size, 1, none⟩ = some (.int .i64 (lo : Int)) ∧ w'.cell? ⟨w0.heap.size, 2, none⟩ = some (.int .i64 (hi : Int)))
            (first | with_reducible exact HKP.out _ hk6 | with_reducible exact HKP0.out) (first | (go_at_call 17; ((with_reducible refine HP.out.mono ?_); rintro e w6 ⟨rfl, hb6, hk6⟩)))
          have HR6 := Lib.hid ((HR5.out.below ((Below.refl _ _).drew : Below w5.heap.size w5 w5.drew)).kp hk6 rfl rfl rfl)
          have HH6 := Lib.hid hb6
          have HK6 : Hid (Kp TN B w w6) := Lib.hid (((HK4.out.trans (HK45.out.mono tn_ts (Nat.le_refl _))).trans (Kp.of_below (Below.refl _ _).drew)).trans (hk6.mono tn_hash (Nat.le_refl _)))
          have c5 : w6.cell? ⟨p, 5, none⟩ = some (.int .i64 (cnt S.l : Int)) := HR6.out.tab.cell 5
          have c6 : w6.cell? ⟨p, 6, none⟩ = some (.int .i64 (wr64 S.made)) := HR6.out.tab.cell 6
          have f5 : w6.frozen? ⟨p, 5, none⟩ = false := HR6.out.tab.frozen 5
          have f6 : w6.frozen? ⟨p, 6, none⟩ = false := HR6.out.tab.frozen 6
          have pl6 : p < w6.heap.size := HR6.out.tab.lt
          have hcm : cnt S.l ≤ 1048576 := by have := HBUD.out; have := HI4.out.wf.bm; omega
          clear hb6 hk6 HKP HKP0 HP
          go_wp2_with fail
          have hcn := cnt_put (ff_le S.l) (ff_is S.l) ⟨true, va, lo, hi, 0⟩ rfl
          have HR7 := Lib.hid (HR6.out.len_ ((cnt S.l : Int) + 1) (cnt (putN S.l (ff S.l) ⟨true, va, lo, hi, 0⟩)) (by rw [hcn]; rfl))
          refine (aadd_ok _ p 6 (wr64 S.made) (HR7.out.tab.cell 6) (HR7.out.tab.frozen 6)).mono ?_
          rintro e w8 ⟨rfl, rfl⟩
          go_wp2_with fail
          go_ret2
          obtain ⟨hva, hbl, hbh, hvl, hvh⟩ := HF.out
          have hmk : mkS S va lo hi = ({ S with l := putN S.l (ff S.l) ⟨true, va, lo, hi, 0⟩, made := S.made + 1 }, (ff S.l : Int), 0) := by unfold mkS; rw [HOK.out, if_pos rfl, if_neg (by have := HE.out; omega), HFN.out]; simp only [if_neg (Nat.not_le.2 HBUD.out), Int.toNat_natCast]
          have hwr := wr_succ S.made
          have hwf := HI4.out.wf.put hva HE.out hbl hbh hvl hvh HFN.out HBUD.out (S.made + 1)
          have hR8 := HR7.out.made_ (wrap64 (wr64 S.made + 1))
          rw [hwr] at hR8
          have hHB := HH6.out
          rw [HM.out] at hHB
          simp only [Option.isSome_none, Bool.false_eq_true, if_false] at hHB
          have hc2 := cnt_two HI4.out.wf
          rw [show cnt S.l - 2 + 1 = cnt (putN S.l (ff S.l) ⟨true, va, lo, hi, 0⟩) - 2 by rw [hcn]; omega, HKK.out] at hHB
          have k7 := HR6.out.kpp 5 (.int .i64 ((cnt S.l : Int) + 1))
          have k8 := HR7.out.kpp 6 (.int .i64 (wrap64 (wr64 S.made + 1)))
          rw [hwr] at k8
          rw [hwr]
          refine MkPost.mk hmk (by rw [← HKK.out]; rfl) ⟨g5, q, cap5, fa5, fc5, _, StRaw.stin hR8 hwf ((hHB.kp k7 rfl rfl).kp k8 rfl rfl) (HI4.out.rep.put (ff_le S.l) (ff_ge HI4.out.wf.two) (ff_is S.l) ⟨true, va, lo, hi, 0⟩ rfl HFN.out)⟩ ((HK6.out.trans (k7.mono tn_store (Nat.le_refl _))).trans (k8.mono tn_store (Nat.le_refl _)))
end Go.Proofs.Ytdalnhhenahcjaa
