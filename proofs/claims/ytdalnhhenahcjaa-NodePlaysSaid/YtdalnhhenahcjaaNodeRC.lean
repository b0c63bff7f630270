/- The reference's Mk. -/
import Derived.Test.YtdalnhhenahcjaaNodeRB
import Derived.Deep.RegionHeld3
namespace Go.Proofs.Ytdalnhhenahcjaa
open Go.RowKit HP NP
theorem results_cell2 {fn : Func} {p u v : Tmp} {ty : TypeId} (h : fn.results = #[.cell p ty, .tmp u, .tmp v]) (tmps : Array Value) (P : Program) (w : World) :
    (results fn tmps).run P w = ((asAddr (tmps.getD p undef)).run P w).andThen fun a w₁ => ((loadVar ty a).run P w₁).andThen fun x w₂ => .ok (.tuple #[x, tmps.getD u undef, tmps.getD v undef]) w₂ := by
  simp only [results, h]
  simp [Sem.run_bind, Result.andThen]
def RMkPost (S : NS) (v low high : Int) (w : World) (e : Ending) (w' : World) : Prop :=
  (∃ ra rc, e = .returned (.tuple #[rsV (mkS S v low high).1 ra rc, .int .i64 (mkS S v low high).2.1, .int .i64 (mkS S v low high).2.2]) ∧ RSt w' (mkS S v low high).1 ra rc) ∧ Below w.heap.size w w'
theorem RMkPost.same {S : NS} {v low high : Int} {w w' : World} {ra : Option Addr} {rc : Nat} {r x : Int} (hm : mkS S v low high = (S, r, x)) (h : RSt w S ra rc) (hb : Below w.heap.size w w') : RMkPost S v low high w (.returned (.tuple #[rsV S ra rc, .int .i64 r, .int .i64 x])) w' := by
  unfold RMkPost; rw [hm]; exact ⟨⟨ra, rc, rfl, h.below hb⟩, hb⟩
set_option maxRecDepth 100000 in
set_option maxHeartbeats 4000000 in
theorem rmk_no (w : World) (S : NS) (hW : Wf S) (ra : Option Addr) (rc : Nat) (h : RSt w S ra rc) (v low high : Int) (hno : okMk S v low high = false) :
    Calls Try.prog 54 #[rsV S ra rc, .int .i64 v, .int .i64 low, .int .i64 high] w (RMkPost S v low high w) := by
  have hmk : mkS S v low high = (S, 0, 1) := by unfold mkS; rw [hno]; rfl
  have hlm := hW.lm
  have HMK := Lib.hid hmk; have HR := Lib.hid h; have HNO := Lib.hid hno; have HW := Lib.hid hW
  have hbel : Below w.heap.size w ((w.alloc (.cells #[.int .i64 (S.vars : Int), .int .i64 (S.budget : Int), .int .i64 (wr64 S.made), .int .i64 (wr64 S.sweeps), .slice ra S.l.length rc] 75)).alloc (.cells #[.int .i64 0, .int .i64 0, .int .i64 0, .int .i64 0, .slice none 0 0] 75)) := ((Below.refl _ _).alloc (Nat.le_refl _) _).alloc (by simp) _
  have hbx : Blk ((w.alloc (.cells #[.int .i64 (S.vars : Int), .int .i64 (S.budget : Int), .int .i64 (wr64 S.made), .int .i64 (wr64 S.sweeps), .slice ra S.l.length rc] 75)).alloc (.cells #[.int .i64 0, .int .i64 0, .int .i64 0, .int .i64 0, .slice none 0 0] 75)) w.heap.size 75 #[.int .i64 (S.vars : Int), .int .i64 (S.budget : Int), .int .i64 (wr64 S.made), .int .i64 (wr64 S.sweeps), .slice ra S.l.length rc] := (Blk.new_ w _ _).alloc_ _
  have hzb : Blk ((w.alloc (.cells #[.int .i64 (S.vars : Int), .int .i64 (S.budget : Int), .int .i64 (wr64 S.made), .int .i64 (wr64 S.sweeps), .slice ra S.l.length rc] 75)).alloc (.cells #[.int .i64 0, .int .i64 0, .int .i64 0, .int .i64 0, .slice none 0 0] 75)) (w.heap.size + 1) 75 #[.int .i64 0, .int .i64 0, .int .i64 0, .int .i64 0, .slice none 0 0] := by
    have := Blk.new_ (w.alloc (.cells #[.int .i64 (S.vars : Int), .int .i64 (S.budget : Int), .int .i64 (wr64 S.made), .int .i64 (wr64 S.sweeps), .slice ra S.l.length rc] 75)) 75 #[.int .i64 0, .int .i64 0, .int .i64 0, .int .i64 0, .slice none 0 0]
    rw [show (w.alloc (.cells #[.int .i64 (S.vars : Int), .int .i64 (S.budget : Int), .int .i64 (wr64 S.made), .int .i64 (wr64 S.sweeps), .slice ra S.l.length rc] 75)).heap.size = w.heap.size + 1 by simp] at this; exact this
  have HB2 := Lib.hid hbel; have HBX := Lib.hid hbx; have HZB := Lib.hid hzb
  clear hmk h hno hW hbel hbx hzb
  by_cases h1 : v < 0
  · have d1 : decide (v < 0) = true := decide_eq_true h1
    clear h1
    go_enter Try.func54, Try.ntmps54
    go_wp2_with fail
    refine bodyPost_ret (v := .tuple #[rsV S ra rc, .int .i64 0, .int .i64 1]) ?_ rfl ?_
    · rw [results_cell2 rfl]; go_simp
    · exact RMkPost.same HMK.out HR.out (((Below.refl _ _).alloc (Nat.le_refl _) _).alloc (by simp) _)
  have d1 : decide (v < 0) = false := decide_eq_false h1
  by_cases h2 : (S.vars : Int) ≤ v
  · have d2 : decide ((S.vars : Int) ≤ v) = true := decide_eq_true h2
    clear h1 h2
    go_enter Try.func54, Try.ntmps54
    go_wp2_with fail
    refine bodyPost_ret (v := .tuple #[rsV S ra rc, .int .i64 0, .int .i64 1]) ?_ rfl ?_
    · rw [results_cell2 rfl]; go_simp
    · exact RMkPost.same HMK.out HR.out (((Below.refl _ _).alloc (Nat.le_refl _) _).alloc (by simp) _)
  have d2 : decide ((S.vars : Int) ≤ v) = false := decide_eq_false h2
  cases hl : isK S.l low with
  | false =>
    have HK3 := Lib.hid hl
    clear h1 h2 hl
    go_enter Try.func54, Try.ntmps54
    go_wp2_with fail
    refine (ris_ok _ S hlm ra rc (HR.out.below HB2.out) low).mono ?_
    rintro e w3 ⟨rfl, hb⟩
    rw [HK3.out]
    have HB3 := Lib.hid (HB2.out.trans (hb.mono HB2.out.size))
    have HBX3 := Lib.hid (HBX.out.below hb HBX.out.lt); have HZB3 := Lib.hid (HZB.out.below hb HZB.out.lt)
    clear hb
    have b0 : w3.cell? ⟨w.heap.size, 0, none⟩ = some (.int .i64 (S.vars : Int)) := HBX3.out.cell 0
    have b1 : w3.cell? ⟨w.heap.size, 1, none⟩ = some (.int .i64 (S.budget : Int)) := HBX3.out.cell 1
    have b2 : w3.cell? ⟨w.heap.size, 2, none⟩ = some (.int .i64 (wr64 S.made)) := HBX3.out.cell 2
    have b3 : w3.cell? ⟨w.heap.size, 3, none⟩ = some (.int .i64 (wr64 S.sweeps)) := HBX3.out.cell 3
    have b4 : w3.cell? ⟨w.heap.size, 4, none⟩ = some (.slice ra S.l.length rc) := HBX3.out.cell 4
    have z0 : w3.cell? ⟨w.heap.size + 1, 0, none⟩ = some (.int .i64 0) := HZB3.out.cell 0
    have zf0 : w3.frozen? ⟨w.heap.size + 1, 0, none⟩ = false := HZB3.out.frozen 0
    have z1 : w3.cell? ⟨w.heap.size + 1, 1, none⟩ = some (.int .i64 0) := HZB3.out.cell 1
    have zf1 : w3.frozen? ⟨w.heap.size + 1, 1, none⟩ = false := HZB3.out.frozen 1
    have z2 : w3.cell? ⟨w.heap.size + 1, 2, none⟩ = some (.int .i64 0) := HZB3.out.cell 2
    have zf2 : w3.frozen? ⟨w.heap.size + 1, 2, none⟩ = false := HZB3.out.frozen 2
    have z3 : w3.cell? ⟨w.heap.size + 1, 3, none⟩ = some (.int .i64 0) := HZB3.out.cell 3
    have zf3 : w3.frozen? ⟨w.heap.size + 1, 3, none⟩ = false := HZB3.out.frozen 3
    have z4 : w3.cell? ⟨w.heap.size + 1, 4, none⟩ = some (.slice none 0 0) := HZB3.out.cell 4
    have zf4 : w3.frozen? ⟨w.heap.size + 1, 4, none⟩ = false := HZB3.out.frozen 4
    have bl : w.heap.size < w3.heap.size := HBX3.out.lt
    have zl : w.heap.size + 1 < w3.heap.size := HZB3.out.lt
    go_wp2_with fail
    refine bodyPost_ret (v := .tuple #[rsV S ra rc, .int .i64 0, .int .i64 1]) ?_ rfl ?_
    · rw [results_cell2 rfl]; go_simp
    · have q : w.heap.size ≤ w.heap.size + 1 := by omega
      exact RMkPost.same HMK.out HR.out (((((HB3.out.setCell (p := ⟨w.heap.size + 1, 0, none⟩) q _).setCell (p := ⟨w.heap.size + 1, 1, none⟩) q _).setCell (p := ⟨w.heap.size + 1, 2, none⟩) q _).setCell (p := ⟨w.heap.size + 1, 3, none⟩) q _).setCell (p := ⟨w.heap.size + 1, 4, none⟩) q _)
  | true =>
    have HK3 := Lib.hid hl
    cases hh : isK S.l high with
    | false =>
      have HK4 := Lib.hid hh
      clear h1 h2 hl hh
      go_enter Try.func54, Try.ntmps54
      go_wp2_with fail
      refine (ris_ok _ S hlm ra rc (HR.out.below HB2.out) low).mono ?_
      rintro e w3 ⟨rfl, hb⟩
      rw [HK3.out]
      have HB3 := Lib.hid (HB2.out.trans (hb.mono HB2.out.size))
      have HBX3 := Lib.hid (HBX.out.below hb HBX.out.lt); have HZB3 := Lib.hid (HZB.out.below hb HZB.out.lt)
      clear hb
      have b0 : w3.cell? ⟨w.heap.size, 0, none⟩ = some (.int .i64 (S.vars : Int)) := HBX3.out.cell 0
      have b1 : w3.cell? ⟨w.heap.size, 1, none⟩ = some (.int .i64 (S.budget : Int)) := HBX3.out.cell 1
      have b2 : w3.cell? ⟨w.heap.size, 2, none⟩ = some (.int .i64 (wr64 S.made)) := HBX3.out.cell 2
      have b3 : w3.cell? ⟨w.heap.size, 3, none⟩ = some (.int .i64 (wr64 S.sweeps)) := HBX3.out.cell 3
      have b4 : w3.cell? ⟨w.heap.size, 4, none⟩ = some (.slice ra S.l.length rc) := HBX3.out.cell 4
      have z0 : w3.cell? ⟨w.heap.size + 1, 0, none⟩ = some (.int .i64 0) := HZB3.out.cell 0
      have zf0 : w3.frozen? ⟨w.heap.size + 1, 0, none⟩ = false := HZB3.out.frozen 0
      have z1 : w3.cell? ⟨w.heap.size + 1, 1, none⟩ = some (.int .i64 0) := HZB3.out.cell 1
      have zf1 : w3.frozen? ⟨w.heap.size + 1, 1, none⟩ = false := HZB3.out.frozen 1
      have z2 : w3.cell? ⟨w.heap.size + 1, 2, none⟩ = some (.int .i64 0) := HZB3.out.cell 2
      have zf2 : w3.frozen? ⟨w.heap.size + 1, 2, none⟩ = false := HZB3.out.frozen 2
      have z3 : w3.cell? ⟨w.heap.size + 1, 3, none⟩ = some (.int .i64 0) := HZB3.out.cell 3
      have zf3 : w3.frozen? ⟨w.heap.size + 1, 3, none⟩ = false := HZB3.out.frozen 3
      have z4 : w3.cell? ⟨w.heap.size + 1, 4, none⟩ = some (.slice none 0 0) := HZB3.out.cell 4
      have zf4 : w3.frozen? ⟨w.heap.size + 1, 4, none⟩ = false := HZB3.out.frozen 4
      have bl : w.heap.size < w3.heap.size := HBX3.out.lt
      have zl : w.heap.size + 1 < w3.heap.size := HZB3.out.lt
      go_wp2_with fail
      refine (ris_ok _ S hlm ra rc (HR.out.below HB3.out) high).mono ?_
      rintro e w4 ⟨rfl, hb⟩
      rw [HK4.out]
      have HB4 := Lib.hid (HB3.out.trans (hb.mono HB3.out.size))
      have HBX4 := Lib.hid (HBX3.out.below hb HBX3.out.lt); have HZB4 := Lib.hid (HZB3.out.below hb HZB3.out.lt)
      clear hb
      clear b0 b1 b2 b3 b4 z0 z1 z2 z3 z4 zf0 zf1 zf2 zf3 zf4 bl zl
      have b0 : w4.cell? ⟨w.heap.size, 0, none⟩ = some (.int .i64 (S.vars : Int)) := HBX4.out.cell 0
      have b1 : w4.cell? ⟨w.heap.size, 1, none⟩ = some (.int .i64 (S.budget : Int)) := HBX4.out.cell 1
      have b2 : w4.cell? ⟨w.heap.size, 2, none⟩ = some (.int .i64 (wr64 S.made)) := HBX4.out.cell 2
      have b3 : w4.cell? ⟨w.heap.size, 3, none⟩ = some (.int .i64 (wr64 S.sweeps)) := HBX4.out.cell 3
      have b4 : w4.cell? ⟨w.heap.size, 4, none⟩ = some (.slice ra S.l.length rc) := HBX4.out.cell 4
      have z0 : w4.cell? ⟨w.heap.size + 1, 0, none⟩ = some (.int .i64 0) := HZB4.out.cell 0
      have zf0 : w4.frozen? ⟨w.heap.size + 1, 0, none⟩ = false := HZB4.out.frozen 0
      have z1 : w4.cell? ⟨w.heap.size + 1, 1, none⟩ = some (.int .i64 0) := HZB4.out.cell 1
      have zf1 : w4.frozen? ⟨w.heap.size + 1, 1, none⟩ = false := HZB4.out.frozen 1
      have z2 : w4.cell? ⟨w.heap.size + 1, 2, none⟩ = some (.int .i64 0) := HZB4.out.cell 2
      have zf2 : w4.frozen? ⟨w.heap.size + 1, 2, none⟩ = false := HZB4.out.frozen 2
      have z3 : w4.cell? ⟨w.heap.size + 1, 3, none⟩ = some (.int .i64 0) := HZB4.out.cell 3
      have zf3 : w4.frozen? ⟨w.heap.size + 1, 3, none⟩ = false := HZB4.out.frozen 3
      have z4 : w4.cell? ⟨w.heap.size + 1, 4, none⟩ = some (.slice none 0 0) := HZB4.out.cell 4
      have zf4 : w4.frozen? ⟨w.heap.size + 1, 4, none⟩ = false := HZB4.out.frozen 4
      have bl : w.heap.size < w4.heap.size := HBX4.out.lt
      have zl : w.heap.size + 1 < w4.heap.size := HZB4.out.lt
      go_wp2_with fail
      refine bodyPost_ret (v := .tuple #[rsV S ra rc, .int .i64 0, .int .i64 1]) ?_ rfl ?_
      · rw [results_cell2 rfl]; go_simp
      · have q : w.heap.size ≤ w.heap.size + 1 := by omega
        exact RMkPost.same HMK.out HR.out (((((HB4.out.setCell (p := ⟨w.heap.size + 1, 0, none⟩) q _).setCell (p := ⟨w.heap.size + 1, 1, none⟩) q _).setCell (p := ⟨w.heap.size + 1, 2, none⟩) q _).setCell (p := ⟨w.heap.size + 1, 3, none⟩) q _).setCell (p := ⟨w.heap.size + 1, 4, none⟩) q _)
    | true =>
      have HK4 := Lib.hid hh
      obtain ⟨lo, rfl, hbl⟩ := isK_out hl
      obtain ⟨hi, rfl, hbh⟩ := isK_out hh
      have hll := isB_lt hbl; have hhl := isB_lt hbh
      obtain ⟨x, hx⟩ : ∃ x, x = (nd S.l lo).v := ⟨_, rfl⟩
      obtain ⟨y, hy⟩ : ∃ y, y = (nd S.l hi).v := ⟨_, rfl⟩
      have hor : ((x : Int) ≤ v) ∨ (¬ (x : Int) ≤ v ∧ (y : Int) ≤ v) := by
        have := HNO.out
        unfold okMk at this
        rw [hl, hh, Int.toNat_natCast, Int.toNat_natCast, ← hx, ← hy] at this
        simp at this
        omega
      have HX := Lib.hid hx; have HY := Lib.hid hy
      clear h1 h2 hl hh hbl hbh hx hy
      rcases hor with hxv | ⟨hxv, hyv⟩
      all_goals
        go_enter Try.func54, Try.ntmps54
        go_wp2_with fail
        refine (ris_ok _ S hlm ra rc (HR.out.below HB2.out) (lo : Int)).mono ?_
        rintro e w3 ⟨rfl, hb⟩
        rw [HK3.out]
        have HB3 := Lib.hid (HB2.out.trans (hb.mono HB2.out.size))
        have HBX3 := Lib.hid (HBX.out.below hb HBX.out.lt); have HZB3 := Lib.hid (HZB.out.below hb HZB.out.lt)
        clear hb
        have b0 : w3.cell? ⟨w.heap.size, 0, none⟩ = some (.int .i64 (S.vars : Int)) := HBX3.out.cell 0
        have b1 : w3.cell? ⟨w.heap.size, 1, none⟩ = some (.int .i64 (S.budget : Int)) := HBX3.out.cell 1
        have b2 : w3.cell? ⟨w.heap.size, 2, none⟩ = some (.int .i64 (wr64 S.made)) := HBX3.out.cell 2
        have b3 : w3.cell? ⟨w.heap.size, 3, none⟩ = some (.int .i64 (wr64 S.sweeps)) := HBX3.out.cell 3
        have b4 : w3.cell? ⟨w.heap.size, 4, none⟩ = some (.slice ra S.l.length rc) := HBX3.out.cell 4
        have z0 : w3.cell? ⟨w.heap.size + 1, 0, none⟩ = some (.int .i64 0) := HZB3.out.cell 0
        have zf0 : w3.frozen? ⟨w.heap.size + 1, 0, none⟩ = false := HZB3.out.frozen 0
        have z1 : w3.cell? ⟨w.heap.size + 1, 1, none⟩ = some (.int .i64 0) := HZB3.out.cell 1
        have zf1 : w3.frozen? ⟨w.heap.size + 1, 1, none⟩ = false := HZB3.out.frozen 1
        have z2 : w3.cell? ⟨w.heap.size + 1, 2, none⟩ = some (.int .i64 0) := HZB3.out.cell 2
        have zf2 : w3.frozen? ⟨w.heap.size + 1, 2, none⟩ = false := HZB3.out.frozen 2
        have z3 : w3.cell? ⟨w.heap.size + 1, 3, none⟩ = some (.int .i64 0) := HZB3.out.cell 3
        have zf3 : w3.frozen? ⟨w.heap.size + 1, 3, none⟩ = false := HZB3.out.frozen 3
        have z4 : w3.cell? ⟨w.heap.size + 1, 4, none⟩ = some (.slice none 0 0) := HZB3.out.cell 4
        have zf4 : w3.frozen? ⟨w.heap.size + 1, 4, none⟩ = false := HZB3.out.frozen 4
        have bl : w.heap.size < w3.heap.size := HBX3.out.lt
        have zl : w.heap.size + 1 < w3.heap.size := HZB3.out.lt
        go_wp2_with fail
        refine (ris_ok _ S hlm ra rc (HR.out.below HB3.out) (hi : Int)).mono ?_
        rintro e w4 ⟨rfl, hb⟩
        rw [HK4.out]
        have HB4 := Lib.hid (HB3.out.trans (hb.mono HB3.out.size))
        have HBX4 := Lib.hid (HBX3.out.below hb HBX3.out.lt); have HZB4 := Lib.hid (HZB3.out.below hb HZB3.out.lt)
        clear hb
        clear b0 b1 b2 b3 b4 z0 z1 z2 z3 z4 zf0 zf1 zf2 zf3 zf4 bl zl
        obtain ⟨b, off, hra, hb, _, lv, _⟩ := (HR.out.below HB4.out).nd_ hll
        obtain ⟨b', off', hra', _, _, hv, _⟩ := (HR.out.below HB4.out).nd_ hhl
        rw [hra] at hra'
        injection hra' with hra'
        injection hra' with e1 e2 _
        subst e1 e2
        rw [← HX.out] at lv
        rw [← HY.out] at hv
        subst hra
        have b0 : w4.cell? ⟨w.heap.size, 0, none⟩ = some (.int .i64 (S.vars : Int)) := HBX4.out.cell 0
        have b1 : w4.cell? ⟨w.heap.size, 1, none⟩ = some (.int .i64 (S.budget : Int)) := HBX4.out.cell 1
        have b2 : w4.cell? ⟨w.heap.size, 2, none⟩ = some (.int .i64 (wr64 S.made)) := HBX4.out.cell 2
        have b3 : w4.cell? ⟨w.heap.size, 3, none⟩ = some (.int .i64 (wr64 S.sweeps)) := HBX4.out.cell 3
        have b4 : w4.cell? ⟨w.heap.size, 4, none⟩ = some (.slice (some ⟨b, off, none⟩) S.l.length rc) := HBX4.out.cell 4
        have z0 : w4.cell? ⟨w.heap.size + 1, 0, none⟩ = some (.int .i64 0) := HZB4.out.cell 0
        have zf0 : w4.frozen? ⟨w.heap.size + 1, 0, none⟩ = false := HZB4.out.frozen 0
        have z1 : w4.cell? ⟨w.heap.size + 1, 1, none⟩ = some (.int .i64 0) := HZB4.out.cell 1
        have zf1 : w4.frozen? ⟨w.heap.size + 1, 1, none⟩ = false := HZB4.out.frozen 1
        have z2 : w4.cell? ⟨w.heap.size + 1, 2, none⟩ = some (.int .i64 0) := HZB4.out.cell 2
        have zf2 : w4.frozen? ⟨w.heap.size + 1, 2, none⟩ = false := HZB4.out.frozen 2
        have z3 : w4.cell? ⟨w.heap.size + 1, 3, none⟩ = some (.int .i64 0) := HZB4.out.cell 3
        have zf3 : w4.frozen? ⟨w.heap.size + 1, 3, none⟩ = false := HZB4.out.frozen 3
        have z4 : w4.cell? ⟨w.heap.size + 1, 4, none⟩ = some (.slice none 0 0) := HZB4.out.cell 4
        have zf4 : w4.frozen? ⟨w.heap.size + 1, 4, none⟩ = false := HZB4.out.frozen 4
        have bl : w.heap.size < w4.heap.size := HBX4.out.lt
        have zl : w.heap.size + 1 < w4.heap.size := HZB4.out.lt
        go_wp2_with fail
        refine bodyPost_ret (v := .tuple #[rsV S (some ⟨b, off, none⟩) rc, .int .i64 0, .int .i64 1]) ?_ rfl ?_
        · rw [results_cell2 rfl]; go_simp
        · have q : w.heap.size ≤ w.heap.size + 1 := by omega
          exact RMkPost.same HMK.out HR.out (((((HB4.out.setCell (p := ⟨w.heap.size + 1, 0, none⟩) q _).setCell (p := ⟨w.heap.size + 1, 1, none⟩) q _).setCell (p := ⟨w.heap.size + 1, 2, none⟩) q _).setCell (p := ⟨w.heap.size + 1, 3, none⟩) q _).setCell (p := ⟨w.heap.size + 1, 4, none⟩) q _)
end Go.Proofs.Ytdalnhhenahcjaa
