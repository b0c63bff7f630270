/- The reference's Mk: its contract. -/
import Derived.Test.YtdalnhhenahcjaaNodeRE
namespace Go.Proofs.Ytdalnhhenahcjaa
open Go.RowKit HP NP
def tt : Nat → Bool := fun _ => true
/-- the first free number above k -/
def frA (l : List Nd) (k : Nat) : Nat := (fr l tt k).headD l.length
theorem frA_end (l : List Nd) : frA l 1 = ff l := by
  unfold frA ff
  rw [fr_end]
  have e : swp l tt 1 = l := list_nd (len_swp _ _ _) (fun j => by rw [nd_swp, if_neg (by simp [tt])])
  rw [e]
theorem frA_step {l : List Nd} {k : Nat} (hk : 1 ≤ k) (hl : k < l.length) : frA l (k - 1) = if isB l k then frA l k else k := by
  unfold frA
  rw [fr_step hk hl]
  cases isB l k <;> simp [tt]
theorem frA_all {l : List Nd} {k : Nat} (hk : l.length ≤ k + 1) : frA l k = l.length := by unfold frA; rw [fr_all tt hk]; rfl
set_option maxRecDepth 100000 in
set_option maxHeartbeats 8000000 in
theorem rmk_ok (w : World) (S : NS) (hW : Wf S) (ra : Option Addr) (rc : Nat) (h : RSt w S ra rc) (v low high : Int) :
    Calls Try.prog 54 #[rsV S ra rc, .int .i64 v, .int .i64 low, .int .i64 high] w (RMkPost S v low high w) := by
  cases hok : okMk S v low high with
  | false => exact rmk_no w S hW ra rc h v low high hok
  | true =>
  have HOK := Lib.hid hok
  unfold okMk at hok
  simp only [Bool.and_eq_true, decide_eq_true_eq] at hok
  obtain ⟨hv0, hvv, hl, hh, hvl, hvh⟩ := hok
  obtain ⟨lo, rfl, hbl⟩ := isK_out hl
  obtain ⟨hi, rfl, hbh⟩ := isK_out hh
  obtain ⟨va, rfl⟩ : ∃ n : Nat, v = (n : Int) := ⟨v.toNat, by omega⟩
  rw [Int.toNat_natCast] at hvl hvh
  have HK3 := Lib.hid hl; have HK4 := Lib.hid hh
  have hll := isB_lt hbl; have hhl := isB_lt hbh
  have hlm := hW.lm
  have hl2 := hW.two
  have HR := Lib.hid h; have HW := Lib.hid hW
  have d0 : decide ((va : Int) < 0) = false := decide_eq_false (by omega)
  have d2 : decide ((S.vars : Int) ≤ (va : Int)) = false := decide_eq_false (by omega)
  have d2' : decide (S.vars ≤ va) = false := decide_eq_false (by omega)
  have hbel : Below w.heap.size w ((w.alloc (.cells #[.int .i64 (S.vars : Int), .int .i64 (S.budget : Int), .int .i64 (wr64 S.made), .int .i64 (wr64 S.sweeps), .slice ra S.l.length rc] 75)).alloc (.cells #[.int .i64 0, .int .i64 0, .int .i64 0, .int .i64 0, .slice none 0 0] 75)) := ((Below.refl _ _).alloc (Nat.le_refl _) _).alloc (by simp) _
  have hbx : Blk ((w.alloc (.cells #[.int .i64 (S.vars : Int), .int .i64 (S.budget : Int), .int .i64 (wr64 S.made), .int .i64 (wr64 S.sweeps), .slice ra S.l.length rc] 75)).alloc (.cells #[.int .i64 0, .int .i64 0, .int .i64 0, .int .i64 0, .slice none 0 0] 75)) w.heap.size 75 #[.int .i64 (S.vars : Int), .int .i64 (S.budget : Int), .int .i64 (wr64 S.made), .int .i64 (wr64 S.sweeps), .slice ra S.l.length rc] := (Blk.new_ w _ _).alloc_ _
  have hzb : Blk ((w.alloc (.cells #[.int .i64 (S.vars : Int), .int .i64 (S.budget : Int), .int .i64 (wr64 S.made), .int .i64 (wr64 S.sweeps), .slice ra S.l.length rc] 75)).alloc (.cells #[.int .i64 0, .int .i64 0, .int .i64 0, .int .i64 0, .slice none 0 0] 75)) (w.heap.size + 1) 75 #[.int .i64 0, .int .i64 0, .int .i64 0, .int .i64 0, .slice none 0 0] := by
    have := Blk.new_ (w.alloc (.cells #[.int .i64 (S.vars : Int), .int .i64 (S.budget : Int), .int .i64 (wr64 S.made), .int .i64 (wr64 S.sweeps), .slice ra S.l.length rc] 75)) 75 #[.int .i64 0, .int .i64 0, .int .i64 0, .int .i64 0, .slice none 0 0]
    rw [show (w.alloc (.cells #[.int .i64 (S.vars : Int), .int .i64 (S.budget : Int), .int .i64 (wr64 S.made), .int .i64 (wr64 S.sweeps), .slice ra S.l.length rc] 75)).heap.size = w.heap.size + 1 by simp] at this; exact this
  have HB2 := Lib.hid hbel; have HBX := Lib.hid hbx; have HZB := Lib.hid hzb
  obtain ⟨x, hx⟩ : ∃ x, x = (nd S.l lo).v := ⟨_, rfl⟩
  obtain ⟨y, hy⟩ : ∃ y, y = (nd S.l hi).v := ⟨_, rfl⟩
  rw [← hx] at hvl
  rw [← hy] at hvh
  have HX := Lib.hid hx; have HY := Lib.hid hy
  have HVL := Lib.hid (show va < x by omega); have HVH := Lib.hid (show va < y by omega)
  clear h hW hbel hbx hzb hv0 hvv hl hh hbl hbh hx hy hvl hvh
  go_enter Try.func54, Try.ntmps54
  go_wp2_with fail
  refine (ris_ok _ S hlm ra rc (HR.out.below HB2.out) (lo : Int)).mono ?_
  rintro e w3 ⟨rfl, hb⟩
  rw [HK3.out]
  have HB3 := Lib.hid (HB2.out.trans (hb.mono HB2.out.size))
  have HBX3 := Lib.hid (HBX.out.below hb HBX.out.lt); have HZB3 := Lib.hid (HZB.out.below hb HZB.out.lt)
  clear hb
  have b0 : w3.cell? ⟨w.heap.size, 0, none⟩ = some (.int .i64 (S.vars : Int)) := HBX3.out.cell 0
  have b1 : w3.cell? ⟨w.heap.size, 1, none⟩ = some (.int .i64 (S.budget : Int)) := HBX3.out.cell 1
  have b2 : w3.cell? ⟨w.heap.size, 2, none⟩ = some (.int .i64 (wr64 S.made)) := HBX3.out.cell 2
  have b3 : w3.cell? ⟨w.heap.size, 3, none⟩ = some (.int .i64 (wr64 S.sweeps)) := HBX3.out.cell 3
  have b4 : w3.cell? ⟨w.heap.size, 4, none⟩ = some (.slice ra S.l.length rc) := HBX3.out.cell 4
  have z0 : w3.cell? ⟨w.heap.size + 1, 0, none⟩ = some (.int .i64 0) := HZB3.out.cell 0
  have zf0 : w3.frozen? ⟨w.heap.size + 1, 0, none⟩ = false := HZB3.out.frozen 0
  have z1 : w3.cell? ⟨w.heap.size + 1, 1, none⟩ = some (.int .i64 0) := HZB3.out.cell 1
  have zf1 : w3.frozen? ⟨w.heap.size + 1, 1, none⟩ = false := HZB3.out.frozen 1
  have z2 : w3.cell? ⟨w.heap.size + 1, 2, none⟩ = some (.int .i64 0) := HZB3.out.cell 2
  have zf2 : w3.frozen? ⟨w.heap.size + 1, 2, none⟩ = false := HZB3.out.frozen 2
  have z3 : w3.cell? ⟨w.heap.size + 1, 3, none⟩ = some (.int .i64 0) := HZB3.out.cell 3
  have zf3 : w3.frozen? ⟨w.heap.size + 1, 3, none⟩ = false := HZB3.out.frozen 3
  have z4 : w3.cell? ⟨w.heap.size + 1, 4, none⟩ = some (.slice none 0 0) := HZB3.out.cell 4
  have zf4 : w3.frozen? ⟨w.heap.size + 1, 4, none⟩ = false := HZB3.out.frozen 4
  have bl : w.heap.size < w3.heap.size := HBX3.out.lt
  have zl : w.heap.size + 1 < w3.heap.size := HZB3.out.lt
  go_wp2_with fail
  refine (ris_ok _ S hlm ra rc (HR.out.below HB3.out) (hi : Int)).mono ?_
  rintro e w4 ⟨rfl, hb⟩
  rw [HK4.out]
  have HB4 := Lib.hid (HB3.out.trans (hb.mono HB3.out.size))
  have HBX4 := Lib.hid (HBX3.out.below hb HBX3.out.lt); have HZB4 := Lib.hid (HZB3.out.below hb HZB3.out.lt)
  clear hb
  clear b0 b1 b2 b3 b4 z0 z1 z2 z3 z4 zf0 zf1 zf2 zf3 zf4 bl zl
  obtain ⟨b, off, hra, hb, _, lv, _⟩ := (HR.out.below HB4.out).nd_ hll
  obtain ⟨b', off', hra', _, _, hv, _⟩ := (HR.out.below HB4.out).nd_ hhl
  rw [hra] at hra'
  injection hra' with hra'
  injection hra' with e1 e2 _
  subst e1 e2
  rw [← HX.out] at lv
  rw [← HY.out] at hv
  subst hra
  have b0 : w4.cell? ⟨w.heap.size, 0, none⟩ = some (.int .i64 (S.vars : Int)) := HBX4.out.cell 0
  have b1 : w4.cell? ⟨w.heap.size, 1, none⟩ = some (.int .i64 (S.budget : Int)) := HBX4.out.cell 1
  have b2 : w4.cell? ⟨w.heap.size, 2, none⟩ = some (.int .i64 (wr64 S.made)) := HBX4.out.cell 2
  have b3 : w4.cell? ⟨w.heap.size, 3, none⟩ = some (.int .i64 (wr64 S.sweeps)) := HBX4.out.cell 3
  have b4 : w4.cell? ⟨w.heap.size, 4, none⟩ = some (.slice (some ⟨b, off, none⟩) S.l.length rc) := HBX4.out.cell 4
  have z0 : w4.cell? ⟨w.heap.size + 1, 0, none⟩ = some (.int .i64 0) := HZB4.out.cell 0
  have zf0 : w4.frozen? ⟨w.heap.size + 1, 0, none⟩ = false := HZB4.out.frozen 0
  have z1 : w4.cell? ⟨w.heap.size + 1, 1, none⟩ = some (.int .i64 0) := HZB4.out.cell 1
  have zf1 : w4.frozen? ⟨w.heap.size + 1, 1, none⟩ = false := HZB4.out.frozen 1
  have z2 : w4.cell? ⟨w.heap.size + 1, 2, none⟩ = some (.int .i64 0) := HZB4.out.cell 2
  have zf2 : w4.frozen? ⟨w.heap.size + 1, 2, none⟩ = false := HZB4.out.frozen 2
  have z3 : w4.cell? ⟨w.heap.size + 1, 3, none⟩ = some (.int .i64 0) := HZB4.out.cell 3
  have zf3 : w4.frozen? ⟨w.heap.size + 1, 3, none⟩ = false := HZB4.out.frozen 3
  have z4 : w4.cell? ⟨w.heap.size + 1, 4, none⟩ = some (.slice none 0 0) := HZB4.out.cell 4
  have zf4 : w4.frozen? ⟨w.heap.size + 1, 4, none⟩ = false := HZB4.out.frozen 4
  have bl : w.heap.size < w4.heap.size := HBX4.out.lt
  have zl : w.heap.size + 1 < w4.heap.size := HZB4.out.lt
  have dxv : decide (x ≤ va) = false := decide_eq_false (by have := HVL.out; omega)
  have dyv : decide (y ≤ va) = false := decide_eq_false (by have := HVH.out; omega)
  have dxv' : decide ((x : Int) ≤ (va : Int)) = false := decide_eq_false (by have := HVL.out; omega)
  have dyv' : decide ((y : Int) ≤ (va : Int)) = false := decide_eq_false (by have := HVH.out; omega)
  by_cases he : lo = hi
  · have de : ((lo : Int) == (hi : Int)) = true := beq_iff_eq.2 (by omega)
    have hmk : mkS S va lo hi = (S, (lo : Int), 0) := by unfold mkS; rw [HOK.out, if_pos rfl, if_pos (by omega)]
    have HMK := Lib.hid hmk
    clear he hmk
    go_wp2_with fail
    refine bodyPost_ret (v := .tuple #[rsV S (some ⟨b, off, none⟩) rc, .int .i64 (lo : Int), .int .i64 0]) ?_ rfl ?_
    · rw [results_cell2 rfl]; go_simp
    · have q : w.heap.size ≤ w.heap.size + 1 := by omega
      exact RMkPost.same HMK.out HR.out (((((HB4.out.setCell (p := ⟨w.heap.size + 1, 0, none⟩) q _).setCell (p := ⟨w.heap.size + 1, 1, none⟩) q _).setCell (p := ⟨w.heap.size + 1, 2, none⟩) q _).setCell (p := ⟨w.heap.size + 1, 3, none⟩) q _).setCell (p := ⟨w.heap.size + 1, 4, none⟩) q _)
  · have de : ((lo : Int) == (hi : Int)) = false := beq_eq_false_iff_ne.2 (by omega)
    have HE := Lib.hid he
    clear he
    obtain ⟨N, hN⟩ : ∃ N, N = S.l.length := ⟨_, rfl⟩
    have HN := Lib.hid hN
    clear hN
    go_wp2_with fail
    go_loopg [11, 12] (S.l.length - 1) (fun m y x wr => 1 ≤ m ∧ m < S.l.length ∧ x = .int .i64 (m : Int) ∧ y = .int .i64 (frA S.l m : Int) ∧ (∀ j, m < j → ¬ (isB S.l j = true ∧ kyOf (nd S.l j) = ((va : Int), (lo : Int), (hi : Int)))) ∧ Below w.heap.size w wr ∧ Blk wr w.heap.size 75 #[.int .i64 (S.vars : Int), .int .i64 (S.budget : Int), .int .i64 (wr64 S.made), .int .i64 (wr64 S.sweeps), .slice (some ⟨b, off, none⟩) S.l.length rc] ∧ Blk wr (w.heap.size + 1) 75 #[.int .i64 0, .int .i64 0, .int .i64 0, .int .i64 0, .slice none 0 0])
    case atStart =>
      refine ⟨by omega, by omega, ?_, ?_, fun j hj => ?_, HB4.out, HBX4.out, HZB4.out⟩
      · show Value.int _ _ = _
        rw [show ((S.l.length : Int) - 1) = ((S.l.length - 1 : Nat) : Int) by omega]
      · rw [frA_all (by omega)]
      · rintro ⟨hb', _⟩
        have := isB_lt hb'; omega
    case round =>
      obtain ⟨hg1, hgl, rfl, rfl, hnf, hb5, hbx5, hzb5⟩ := hrel
      have HNF := Lib.hid hnf; have HB := Lib.hid hb5; have HBX5 := Lib.hid hbx5; have HZB5 := Lib.hid hzb5
      clear hnf hb5 hbx5 hzb5 b0 b1 b2 b3 b4 z0 z1 z2 z3 z4 zf0 zf1 zf2 zf3 zf4 bl zl lv hv
      have b0 : wr.cell? ⟨w.heap.size, 0, none⟩ = some (.int .i64 (S.vars : Int)) := HBX5.out.cell 0
      have b1 : wr.cell? ⟨w.heap.size, 1, none⟩ = some (.int .i64 (S.budget : Int)) := HBX5.out.cell 1
      have b2 : wr.cell? ⟨w.heap.size, 2, none⟩ = some (.int .i64 (wr64 S.made)) := HBX5.out.cell 2
      have b3 : wr.cell? ⟨w.heap.size, 3, none⟩ = some (.int .i64 (wr64 S.sweeps)) := HBX5.out.cell 3
      have b4 : wr.cell? ⟨w.heap.size, 4, none⟩ = some (.slice (some ⟨b, off, none⟩) S.l.length rc) := HBX5.out.cell 4
      have z0 : wr.cell? ⟨w.heap.size + 1, 0, none⟩ = some (.int .i64 0) := HZB5.out.cell 0
      have zf0 : wr.frozen? ⟨w.heap.size + 1, 0, none⟩ = false := HZB5.out.frozen 0
      have z1 : wr.cell? ⟨w.heap.size + 1, 1, none⟩ = some (.int .i64 0) := HZB5.out.cell 1
      have zf1 : wr.frozen? ⟨w.heap.size + 1, 1, none⟩ = false := HZB5.out.frozen 1
      have z2 : wr.cell? ⟨w.heap.size + 1, 2, none⟩ = some (.int .i64 0) := HZB5.out.cell 2
      have zf2 : wr.frozen? ⟨w.heap.size + 1, 2, none⟩ = false := HZB5.out.frozen 2
      have z3 : wr.cell? ⟨w.heap.size + 1, 3, none⟩ = some (.int .i64 0) := HZB5.out.cell 3
      have zf3 : wr.frozen? ⟨w.heap.size + 1, 3, none⟩ = false := HZB5.out.frozen 3
      have z4 : wr.cell? ⟨w.heap.size + 1, 4, none⟩ = some (.slice none 0 0) := HZB5.out.cell 4
      have zf4 : wr.frozen? ⟨w.heap.size + 1, 4, none⟩ = false := HZB5.out.frozen 4
      have bl : w.heap.size < wr.heap.size := HBX5.out.lt
      have zl : w.heap.size + 1 < wr.heap.size := HZB5.out.lt
      by_cases hg2 : 2 ≤ gk
      · obtain ⟨b', off', hra', hb', x0, x1, x2, x3, x4⟩ := (HR.out.below HB.out).nd_ hgl
        injection hra' with hra'
        injection hra' with e1 e2 _
        subst e1 e2
        have hst := frA_step hg1 hgl
        obtain ⟨q, hq⟩ : ∃ q, q = (nd S.l gk).is := ⟨_, rfl⟩
        have hbq : isB S.l gk = q := hq.symm
        rw [hbq] at hst
        rw [← hq] at x0
        obtain ⟨nv, hnv⟩ : ∃ q, q = (nd S.l gk).v := ⟨_, rfl⟩
        obtain ⟨nl, hnl⟩ : ∃ q, q = (nd S.l gk).low := ⟨_, rfl⟩
        obtain ⟨nh, hnh⟩ : ∃ q, q = (nd S.l gk).high := ⟨_, rfl⟩
        rw [← hnv] at x1
        rw [← hnl] at x2
        rw [← hnh] at x3
        have hky : kyOf (nd S.l gk) = ((nv : Int), (nl : Int), (nh : Int)) := by unfold kyOf; rw [← hnv, ← hnl, ← hnh]
        have HKY := Lib.hid hky; have HBQ := Lib.hid hbq
        clear hq hnv hnl hnh hky hbq
        cases q with
        | false =>
          have HST := Lib.hid (show frA S.l (gk - 1) = gk by rw [hst]; rfl)
          have HNM := Lib.hid (show ¬ (isB S.l gk = true ∧ kyOf (nd S.l gk) = ((va : Int), (lo : Int), (hi : Int))) from fun hh => by rw [HBQ.out] at hh; cases hh.1)
          clear hst
          go_wp2_with fail
          go_roundg (gk - 1)
          case measure => omega
          case rel => exact ⟨by omega, by omega, by show Value.int _ _ = _; rw [show ((gk : Int) - 1) = ((gk - 1 : Nat) : Int) by omega], by rw [HST.out], fun j hj => by
            by_cases e : j = gk
            · rw [e]; exact HNM.out
            · exact HNF.out j (by omega), HB.out.alloc HB.out.size _, HBX5.out.alloc_ _, HZB5.out.alloc_ _⟩
        | true =>
          have HST := Lib.hid (show frA S.l (gk - 1) = frA S.l gk by rw [hst]; rfl)
          clear hst
          by_cases hm : nv = va ∧ nl = lo ∧ nh = hi
          · obtain ⟨rfl, rfl, rfl⟩ := hm
            have hfk : findK S.l ((nv : Int), (nl : Int), (nh : Int)) = some gk := findK_of HW.out ⟨hg2, HBQ.out, HKY.out⟩
            have hmk : mkS S nv nl nh = (S, (gk : Int), 0) := by unfold mkS; rw [HOK.out, if_pos rfl, if_neg (by have := HE.out; omega), hfk]
            have HMK := Lib.hid hmk
            clear hfk hmk
            go_wp2_with fail
            refine bodyPost_ret (v := .tuple #[rsV S (some ⟨b, off, none⟩) rc, .int .i64 (gk : Int), .int .i64 0]) ?_ rfl ?_
            · rw [results_cell2 rfl]; go_simp
            · have q : w.heap.size ≤ w.heap.size + 1 := by omega
              have hz := (((((HB.out.setCell (p := ⟨w.heap.size + 1, 0, none⟩) q (.int .i64 (S.vars : Int))).setCell (p := ⟨w.heap.size + 1, 1, none⟩) q (.int .i64 (S.budget : Int))).setCell (p := ⟨w.heap.size + 1, 2, none⟩) q (.int .i64 (wr64 S.made))).setCell (p := ⟨w.heap.size + 1, 3, none⟩) q (.int .i64 (wr64 S.sweeps))).setCell (p := ⟨w.heap.size + 1, 4, none⟩) q (.slice (some ⟨b, off, none⟩) S.l.length rc))
              exact RMkPost.same HMK.out HR.out (hz.alloc hz.size _)
          · have HNM := Lib.hid (show ¬ (isB S.l gk = true ∧ kyOf (nd S.l gk) = ((va : Int), (lo : Int), (hi : Int))) from fun hh => by
              have := hh.2
              rw [HKY.out] at this
              simp only [Prod.mk.injEq, Int.ofNat_inj] at this
              exact hm this)
            have hcase : (nv ≠ va) ∨ (nv = va ∧ nl ≠ lo) ∨ (nv = va ∧ nl = lo ∧ nh ≠ hi) := by omega
            clear hm
            rcases hcase with h1 | ⟨h1, h2⟩ | ⟨h1, h2, h3⟩
            · have q1 : ((nv : Int) == (va : Int)) = false := beq_eq_false_iff_ne.2 (by omega)
              clear h1
              go_wp2_with fail
              go_roundg (gk - 1)
              case measure => omega
              case rel => exact ⟨by omega, by omega, by show Value.int _ _ = _; rw [show ((gk : Int) - 1) = ((gk - 1 : Nat) : Int) by omega], by rw [HST.out], fun j hj => by
                by_cases e : j = gk
                · rw [e]; exact HNM.out
                · exact HNF.out j (by omega), HB.out.alloc HB.out.size _, HBX5.out.alloc_ _, HZB5.out.alloc_ _⟩
            · have q1 : ((nv : Int) == (va : Int)) = true := beq_iff_eq.2 (by omega)
              have q2 : ((nl : Int) == (lo : Int)) = false := beq_eq_false_iff_ne.2 (by omega)
              clear h1 h2
              go_wp2_with fail
              go_roundg (gk - 1)
              case measure => omega
              case rel => exact ⟨by omega, by omega, by show Value.int _ _ = _; rw [show ((gk : Int) - 1) = ((gk - 1 : Nat) : Int) by omega], by rw [HST.out], fun j hj => by
                by_cases e : j = gk
                · rw [e]; exact HNM.out
                · exact HNF.out j (by omega), HB.out.alloc HB.out.size _, HBX5.out.alloc_ _, HZB5.out.alloc_ _⟩
            · have q1 : ((nv : Int) == (va : Int)) = true := beq_iff_eq.2 (by omega)
              have q2 : ((nl : Int) == (lo : Int)) = true := beq_iff_eq.2 (by omega)
              have q3 : ((nh : Int) == (hi : Int)) = false := beq_eq_false_iff_ne.2 (by omega)
              clear h1 h2 h3
              go_wp2_with fail
              go_roundg (gk - 1)
              case measure => omega
              case rel => exact ⟨by omega, by omega, by show Value.int _ _ = _; rw [show ((gk : Int) - 1) = ((gk - 1 : Nat) : Int) by omega], by rw [HST.out], fun j hj => by
                by_cases e : j = gk
                · rw [e]; exact HNM.out
                · exact HNF.out j (by omega), HB.out.alloc HB.out.size _, HBX5.out.alloc_ _, HZB5.out.alloc_ _⟩
      · have hgk : gk = 1 := by omega
        have hfn : findK S.l ((va : Int), (lo : Int), (hi : Int)) = none := by
          cases hf : findK S.l ((va : Int), (lo : Int), (hi : Int)) with
          | none => rfl
          | some k =>
            obtain ⟨k2, kb, kc⟩ := findK_some hf
            exact absurd ⟨kb, kc⟩ (HNF.out k (by omega))
        have HFN := Lib.hid hfn
        have hfr : frA S.l gk = ff S.l := by rw [hgk, frA_end]
        rw [hfr]
        have HKP : Hid (∀ w', Below wr.drew.heap.size wr.drew w' → w'.cell? ⟨w.heap.size, 0, none⟩ = some (.int .i64 (S.vars : Int)) ∧ w'.cell? ⟨w.heap.size, 1, none⟩ = some (.int .i64 (S.budget : Int)) ∧ w'.cell? ⟨w.heap.size, 2, none⟩ = some (.int .i64 (wr64 S.made)) ∧ w'.cell? ⟨w.heap.size, 3, none⟩ = some (.int .i64 (wr64 S.sweeps)) ∧ w'.cell? ⟨w.heap.size, 4, none⟩ = some (.slice (some ⟨b, off, none⟩) S.l.length rc)) := by
          refine Lib.hid fun w' hb => ?_
          have h1 := HBX5.out.drew_.below hb HBX5.out.drew_.lt
          exact ⟨h1.cell 0, h1.cell 1, h1.cell 2, h1.cell 3, h1.cell 4⟩
        have HKP0 := Lib.hid (HKP.out _ (Below.refl _ _))
        have HLN := Lib.hid (rlen_ok wr.drew S hlm (some ⟨b, off, none⟩) rc ((HR.out.below HB.out).below (Below.refl _ _).drew))
        have dg : decide ((2 : Int) ≤ (gk : Int)) = false := decide_eq_false (by omega)
        have dg' : decide (2 ≤ gk) = false := decide_eq_false (by omega)
        clear hfn hfr hgk hg2
        go_wp2_with fail
        go_region_held3 (fun w' => w'.cell? ⟨w.heap.size, 0, none⟩ = some (.int .i64 (S.vars : Int)) ∧ w'.cell? ⟨w.heap.size, 1, none⟩ = some (.int .i64 (S.budget : Int)) ∧ w'.cell? ⟨w.heap.size, 2, none⟩ = some (.int .i64 (wr64 S.made)) ∧ w'.cell? ⟨w.heap.size, 3, none⟩ = some (.int .i64 (wr64 S.sweeps)) ∧ w'.cell? ⟨w.heap.size, 4, none⟩ = some (.slice (some ⟨b, off, none⟩) S.l.length rc))
          (first | with_reducible exact HKP.out _ hb6 | with_reducible exact HKP0.out) (first | (go_at_call 42; ((with_reducible refine HLN.out.mono ?_); rintro e w6 ⟨rfl, hb6⟩)))
        have HB6 := Lib.hid (HB.out.trans ((Below.refl wr.heap.size wr).drew.trans (hb6.mono (Nat.le_refl _)) |>.mono HB.out.size))
        have HBX6 := Lib.hid (HBX5.out.drew_.below hb6 HBX5.out.drew_.lt); have HZB6 := Lib.hid (HZB5.out.drew_.below hb6 HZB5.out.drew_.lt)
        clear hb6 HKP HKP0
        clear b0 b1 b2 b3 b4 z0 z1 z2 z3 z4 zf0 zf1 zf2 zf3 zf4 bl zl
        have b0 : w6.cell? ⟨w.heap.size, 0, none⟩ = some (.int .i64 (S.vars : Int)) := HBX6.out.cell 0
        have b1 : w6.cell? ⟨w.heap.size, 1, none⟩ = some (.int .i64 (S.budget : Int)) := HBX6.out.cell 1
        have b2 : w6.cell? ⟨w.heap.size, 2, none⟩ = some (.int .i64 (wr64 S.made)) := HBX6.out.cell 2
        have b3 : w6.cell? ⟨w.heap.size, 3, none⟩ = some (.int .i64 (wr64 S.sweeps)) := HBX6.out.cell 3
        have b4 : w6.cell? ⟨w.heap.size, 4, none⟩ = some (.slice (some ⟨b, off, none⟩) S.l.length rc) := HBX6.out.cell 4
        have z0 : w6.cell? ⟨w.heap.size + 1, 0, none⟩ = some (.int .i64 0) := HZB6.out.cell 0
        have zf0 : w6.frozen? ⟨w.heap.size + 1, 0, none⟩ = false := HZB6.out.frozen 0
        have z1 : w6.cell? ⟨w.heap.size + 1, 1, none⟩ = some (.int .i64 0) := HZB6.out.cell 1
        have zf1 : w6.frozen? ⟨w.heap.size + 1, 1, none⟩ = false := HZB6.out.frozen 1
        have z2 : w6.cell? ⟨w.heap.size + 1, 2, none⟩ = some (.int .i64 0) := HZB6.out.cell 2
        have zf2 : w6.frozen? ⟨w.heap.size + 1, 2, none⟩ = false := HZB6.out.frozen 2
        have z3 : w6.cell? ⟨w.heap.size + 1, 3, none⟩ = some (.int .i64 0) := HZB6.out.cell 3
        have zf3 : w6.frozen? ⟨w.heap.size + 1, 3, none⟩ = false := HZB6.out.frozen 3
        have z4 : w6.cell? ⟨w.heap.size + 1, 4, none⟩ = some (.slice none 0 0) := HZB6.out.cell 4
        have zf4 : w6.frozen? ⟨w.heap.size + 1, 4, none⟩ = false := HZB6.out.frozen 4
        have bl : w.heap.size < w6.heap.size := HBX6.out.lt
        have zl : w.heap.size + 1 < w6.heap.size := HZB6.out.lt
        have bf2 : w6.frozen? ⟨w.heap.size, 2, none⟩ = false := HBX6.out.frozen 2
        by_cases hbud : S.budget ≤ cnt S.l
        · have hmk : mkS S va lo hi = (S, 0, 30) := by unfold mkS; rw [HOK.out, if_pos rfl, if_neg (by have := HE.out; omega), HFN.out]; simp only [if_pos hbud]
          have HMK := Lib.hid hmk
          have dbud : decide ((S.budget : Int) ≤ (cnt S.l : Int)) = true := decide_eq_true (by omega)
          have dbud' : decide (S.budget ≤ cnt S.l) = true := decide_eq_true hbud
          clear hmk dbud dbud'
          go_wp2_with fail
          refine bodyPost_ret (v := .tuple #[rsV S (some ⟨b, off, none⟩) rc, .int .i64 0, .int .i64 30]) ?_ rfl ?_
          · rw [results_cell2 rfl]; go_simp
          · have q : w.heap.size ≤ w.heap.size + 1 := by omega
            exact RMkPost.same HMK.out HR.out (((((HB6.out.setCell (p := ⟨w.heap.size + 1, 0, none⟩) q _).setCell (p := ⟨w.heap.size + 1, 1, none⟩) q _).setCell (p := ⟨w.heap.size + 1, 2, none⟩) q _).setCell (p := ⟨w.heap.size + 1, 3, none⟩) q _).setCell (p := ⟨w.heap.size + 1, 4, none⟩) q _)
        · have dbud : decide ((S.budget : Int) ≤ (cnt S.l : Int)) = false := decide_eq_false (by omega)
          have dbud' : decide (S.budget ≤ cnt S.l) = false := decide_eq_false hbud
          have HBUD := Lib.hid hbud
          have hmd : wrap64 (wr64 S.made + 1) = wr64 (S.made + 1) := wr_succ _
          clear hbud
          go_wp2_with fail
          have hfl : ff S.l ≤ S.l.length := ff_le S.l
          have hl0 : 0 < S.l.length := by omega
          obtain ⟨S2, hS2⟩ : ∃ S2 : NS, S2 = { S with l := putN S.l (ff S.l) ⟨true, va, lo, hi, 0⟩, made := S.made + 1 } := ⟨_, rfl⟩
          have HMK : Hid (mkS S va lo hi = (S2, (ff S.l : Int), 0)) := Lib.hid (by
            unfold mkS; rw [HOK.out, if_pos rfl, if_neg (by have := HE.out; omega), HFN.out]
            simp only [if_neg HBUD.out, Int.toNat_natCast]
            rw [hS2])
          have HS2 := Lib.hid hS2
          have HB7 : Hid (Below w.heap.size w (w6.setCell ⟨w.heap.size, 2, none⟩ (.int .i64 (wr64 (S.made + 1))))) := Lib.hid (HB6.out.setCell (p := ⟨w.heap.size, 2, none⟩) (Nat.le_refl _) _)
          have HZB7 : Hid (Blk (w6.setCell ⟨w.heap.size, 2, none⟩ (.int .i64 (wr64 (S.made + 1)))) (w.heap.size + 1) 75 rzero) := Lib.hid (HZB6.out.far (show w.heap.size + 1 ≠ w.heap.size by omega) _)
          have hr7 := HR.out.below HB7.out
          have HWI := Lib.hid (rwith_ok _ { S with made := S.made + 1 } hl0 hlm (some ⟨b, off, none⟩) rc ⟨hr7.cells, hr7.tb, hr7.cap⟩ (ff S.l) hfl ⟨true, va, lo, hi, 0⟩)
          clear hS2 hr7
          refine HWI.out.mono ?_
          rintro e w9 ⟨⟨ra', rc', rfl, hr9⟩, hb9⟩
          rw [← HS2.out] at hr9 ⊢
          have HR9 := Lib.hid hr9; have HB9 := Lib.hid (HB7.out.trans (hb9.mono HB7.out.size)); have HZB9 := Lib.hid (HZB7.out.below hb9 HZB7.out.lt)
          clear hr9 hb9 HWI b0 b1 b2 b3 b4 z0 z1 z2 z3 z4 zf0 zf1 zf2 zf3 zf4 bl zl bf2
          obtain ⟨z0, z1, z2, z3, z4, zl⟩ := blk5 HZB9.out
          obtain ⟨zf0, zf1, zf2, zf3, zf4⟩ := blk5f HZB9.out
          go_wp2_with fail
          refine bodyPost_ret (v := .tuple #[rsV S2 ra' rc', .int .i64 (ff S.l : Int), .int .i64 0]) ?_ rfl ?_
          · rw [results_cell2 rfl]; go_simp
          · unfold RMkPost; rw [HMK.out]
            exact ⟨⟨ra', rc', rfl, HR9.out.st5 HZB9.out⟩, below5 HB9.out (by omega)⟩
end Go.Proofs.Ytdalnhhenahcjaa
