/- Layer 19: what must come whatever the arguments are (osierlaw19.awake). -/
import Derived.Test.YtbancojknahdgaaCompN
namespace Go.Proofs.Ytbancojknahdgaa
open Go.RowKit CP
/-! ### plain -/
theorem numF_sm {n : Nat} {E : Ed} (hE : EdOk E n) {sm : Nat → Nat → Bool} (hs : ∀ a b, a < n → b < n → both E a b = sm a b) : ∀ j v, v < n → numF n E (both E) j v = numF n E sm j v
  | 0, _, _ => rfl
  | j + 1, v, hv => by
    show stp n E (both E) j (numF n E (both E) j) v = stp n E sm j (numF n E sm j) v
    have hp := pick_congr (sm := both E) (sm' := sm) (num := numF n E (both E) j) (num' := numF n E sm j) hE hs (fun a ha => numF_sm hE hs j a ha)
    unfold stp
    rw [hp]
    cases e : pick n E sm (numF n E sm j) with
    | none => exact numF_sm hE hs j v hv
    | some k =>
      obtain ⟨hk, _⟩ := pick_some e
      show (if both E v k then j + 1 else _) = (if sm v k then j + 1 else _)
      rw [hs v k hv hk, numF_sm hE hs j v hv]
def E3 : Ed := [(0, 1), (1, 2), (2, 1)]
theorem E3_ok : EdOk E3 3 := by intro e he; revert e; decide
theorem E3_12 : Rc (gr E3) 1 2 := Rc.one (mem_gr.2 (by decide))
theorem E3_21 : Rc (gr E3) 2 1 := Rc.one (mem_gr.2 (by decide))
theorem E3_01 : Rc (gr E3) 0 1 := Rc.one (mem_gr.2 (by decide))
theorem E3_up {a b : Nat} (h : Rc (gr E3) a b) (ha : 1 ≤ a) : 1 ≤ b := h.closed (1 ≤ ·) (fun v hv x hx => by
  have := mem_gr.1 hx
  simp [E3] at this
  omega) ha
theorem E3_rc : ∀ a b, a < 3 → b < 3 → rcB E3 a b = (decide (a = 0) || decide (1 ≤ b)) := fun a b ha hb => by
  refine Bool.eq_iff_iff.2 ?_
  rw [rcB_iff]
  simp only [Bool.or_eq_true, decide_eq_true_eq]
  constructor
  · intro h
    rcases Nat.eq_zero_or_pos a with h0 | h0
    · exact .inl h0
    · exact .inr (E3_up h h0)
  · intro h
    rcases (by omega : a = 0 ∨ a = 1 ∨ a = 2) with rfl | rfl | rfl <;> rcases (by omega : b = 0 ∨ b = 1 ∨ b = 2) with rfl | rfl | rfl
    · exact Rc.refl
    · exact E3_01
    · exact E3_01.trans E3_12
    · simp at h
    · exact Rc.refl
    · exact E3_12
    · simp at h
    · exact E3_21
    · exact Rc.refl
theorem E3_both : ∀ a b, a < 3 → b < 3 → both E3 a b = ((decide (a = 0) || decide (1 ≤ b)) && (decide (b = 0) || decide (1 ≤ a))) := fun a b ha hb => by
  have h : both E3 a b = (rcB E3 a b && rcB E3 b a) := by
    refine Bool.eq_iff_iff.2 ?_
    rw [both_iff, Bool.and_eq_true, rcB_iff, rcB_iff]; rfl
  rw [h, E3_rc a b ha hb, E3_rc b a hb ha]
theorem E3_cmp : (List.range 3).map (cmp 3 E3) = [0, 1, 1] := by
  have h : ∀ v, v < 3 → cmp 3 E3 v = numF 3 E3 (fun a b => (decide (a = 0) || decide (1 ≤ b)) && (decide (b = 0) || decide (1 ≤ a))) 3 v - 1 := fun v hv => by
    unfold cmp; rw [numF_sm E3_ok E3_both 3 v hv]
  have e : (List.range 3).map (cmp 3 E3) = (List.range 3).map fun v => numF 3 E3 (fun a b => (decide (a = 0) || decide (1 ≤ b)) && (decide (b = 0) || decide (1 ≤ a))) 3 v - 1 :=
    List.map_congr_left fun v hv => h v (List.mem_range.1 hv)
  rw [e]; decide
theorem E3_reach : reachL 3 E3 1 = [1, 2] := by
  unfold reachL
  have e : (List.range 3).filter (rcB E3 1) = (List.range 3).filter fun b => decide (1 ≤ b) := List.filter_congr fun v hv => by
    rw [E3_rc 1 v (by omega) (List.mem_range.1 hv)]; simp
  rw [e]; decide
abbrev FineC (w : World) (e : Ending) (w' : World) : Prop := e = .returned (.bool true) ∧ Below w.heap.size w w'
def lit3 : Obj := .cells #[.int .i64 0, .int .i64 1, .int .i64 1, .int .i64 2, .int .i64 2, .int .i64 1] 64
set_option maxRecDepth 100000 in
set_option maxHeartbeats 6400000 in
theorem awake19 (w : World) : Calls Try.prog 28 #[] w (FineC w) := by
  have HC := Lib.hid (fun W => comps_ok (W.alloc lit3) 3 (some ⟨W.heap.size, 0, none⟩) [(0, 1), (1, 2), (2, 1)] 3 (by decide) (Cells.lit W _ _))
  have HR := Lib.hid (fun W => reach_ok (W.alloc lit3) 3 (some ⟨W.heap.size, 0, none⟩) [(0, 1), (1, 2), (2, 1)] 3 1 (by decide) (Cells.lit W _ _))
  have HM := Lib.hid (fun W => members_ok (W.alloc (.cells #[.int .i64 0, .int .i64 1, .int .i64 1] 3)) (some ⟨W.heap.size, 0, none⟩) [0, 1, 1] 3 (by decide) (Cells.lit W _ _))
  go_enter Try.func28, Try.ntmps28
  go_wp2_with fail
  refine (HC.out w).mono ?_
  rintro e w1 ⟨hb1, h | h⟩
  · exact absurd h.1 (by decide)
  obtain ⟨_, y1, rfl, hr1⟩ := h
  rw [show (List.range (3 : Int).toNat).map (cmp (3 : Int).toNat (natE [(0, 1), (1, 2), (2, 1)])) = [0, 1, 1] from E3_cmp] at hr1
  change w1.ownsRow _ _ _ y1 3 _ at hr1
  obtain ⟨a1, c1, rfl, _, _, hc1⟩ := Cells.of_own hr1
  have HC1 : Hid (Cells w1 a1 (zV [0, 1, 1])) := Lib.hid hc1
  have HB1 : Hid (Below w.heap.size w w1) := Lib.hid (((Below.refl w.heap.size w).alloc (Nat.le_refl _) lit3).trans (hb1.mono (by simp)))
  clear hb1 hr1 hc1
  go_wp2_with fail
  refine (HM.out w1).mono ?_
  rintro e w2 ⟨hb2, h | h⟩
  · exact absurd h.1 (by decide)
  obtain ⟨_, a2, c2, rfl, hr2⟩ := h
  rw [show topN [0, 1, 1] = 2 from by decide] at hr2 ⊢
  have HR2 : Hid (RowsAt w2 a2 [[0], [1, 2]]) := Lib.hid hr2
  have hb12 : Below w1.heap.size w1 w2 := ((Below.refl w1.heap.size w1).alloc (Nat.le_refl _) (.cells #[.int .i64 0, .int .i64 1, .int .i64 1] 3)).trans (hb2.mono (by simp))
  have HC1' := Lib.hid (HC1.out.below hb12)
  have HB2 := Lib.hid (HB1.out.trans (hb12.mono HB1.out.size))
  clear hb2 hr2 hb12 HC1 HB1
  go_wp2_with fail
  refine (HR.out w2).mono ?_
  rintro e w3 ⟨hb3, h | h⟩
  · exact absurd h.1 (by decide)
  obtain ⟨_, y3, rfl, hr3⟩ := h
  rw [show reachL (3 : Int).toNat (natE [(0, 1), (1, 2), (2, 1)]) (1 : Int).toNat = [1, 2] from E3_reach] at hr3
  change w3.ownsRow _ _ _ y3 2 _ at hr3
  obtain ⟨a3, c3, rfl, _, _, hc3⟩ := Cells.of_own hr3
  have hb23 : Below w2.heap.size w2 w3 := ((Below.refl w2.heap.size w2).alloc (Nat.le_refl _) lit3).trans (hb3.mono (by simp))
  have HC3 : Hid (Cells w3 a3 (zV [1, 2])) := Lib.hid hc3
  have HC1 := Lib.hid (HC1'.out.below hb23)
  have HR3 := Lib.hid (HR2.out.below hb23)
  have HB3 := Lib.hid (HB2.out.trans (hb23.mono HB2.out.size))
  clear hb3 hr3 hc3 hb23 HC1' HR2 HB2 HC HM HR
  -- the comparisons
  have hal : ∀ (W : World) (o : Obj), Below W.heap.size W (W.alloc o) := fun W o => (Below.refl _ _).alloc (Nat.le_refl _) o
  have HAL := Lib.hid hal
  clear hal
  obtain ⟨w4, hw4⟩ : ∃ w4, w4 = w3.alloc (.cells #[.int .i64 0, .int .i64 1, .int .i64 1] 3) := ⟨_, rfl⟩
  have HS1 : Hid (Calls Try.prog 23 #[.slice a1 3 c1, .slice (some ⟨w3.heap.size, 0, none⟩) 3 3] w4 (Tells true w4)) := Lib.hid (by
    rw [hw4]
    exact sameInts_ok _ a1 _ c1 3 [0, 1, 1] [0, 1, 1] (by decide) (HC1.out.below (HAL.out _ _)) (Cells.lit w3 _ _))
  have hb34 : Below w3.heap.size w3 w4 := by rw [hw4]; exact HAL.out _ _
  have HB34 := Lib.hid hb34; have HW4 := Lib.hid hw4
  clear hw4 hb34
  go_wp2_with fail
  rw [← HW4.out]
  refine HS1.out.mono ?_
  rintro e w5 ⟨rfl, n5, hw5⟩
  have hb35 : Below w3.heap.size w3 w5 := by rw [hw5]; exact HB34.out.trans ((drew_below w4 n5).mono HB34.out.size)
  have HB35 := Lib.hid hb35
  clear hw5 hb35
  have HR5 := Lib.hid (HR3.out.below HB35.out)
  have HROW : Hid (RowsAt (((w5.alloc (.cells #[.int .i64 0] 3)).alloc (.cells #[.int .i64 1, .int .i64 2] 3)).alloc (.cells #[.slice (some ⟨w5.heap.size, 0, none⟩) 1 1, .slice (some ⟨w5.heap.size + 1, 0, none⟩) 2 2] 25)) (some ⟨w5.heap.size + 1 + 1, 0, none⟩) [[0], [1, 2]]) := Lib.hid (by
    refine ⟨[.slice (some ⟨w5.heap.size, 0, none⟩) 1 1, .slice (some ⟨w5.heap.size + 1, 0, none⟩) 2 2], ?_, fun i l hi => ?_⟩
    · have h := Cells.lit ((w5.alloc (.cells #[.int .i64 0] 3)).alloc (.cells #[.int .i64 1, .int .i64 2] 3)) #[.slice (some ⟨w5.heap.size, 0, none⟩) 1 1, .slice (some ⟨w5.heap.size + 1, 0, none⟩) 2 2] 25
      have e : ((w5.alloc (.cells #[.int .i64 0] 3)).alloc (.cells #[.int .i64 1, .int .i64 2] 3)).heap.size = w5.heap.size + 1 + 1 := by simp
      rw [e] at h; exact h
    · match i, hi with
      | 0, hi =>
        injection hi with hi
        subst hi
        exact ⟨by decide, some ⟨w5.heap.size, 0, none⟩, 1, rfl, ((Cells.lit w5 #[.int .i64 0] 3).below (HAL.out _ _)).below (HAL.out _ _)⟩
      | 1, hi =>
        injection hi with hi
        subst hi
        refine ⟨by decide, some ⟨w5.heap.size + 1, 0, none⟩, 2, rfl, ?_⟩
        have h := Cells.lit (w5.alloc (.cells #[.int .i64 0] 3)) #[.int .i64 1, .int .i64 2] 3
        have e : (w5.alloc (.cells #[.int .i64 0] 3)).heap.size = w5.heap.size + 1 := by simp
        rw [e] at h
        exact h.below (HAL.out _ _))
  obtain ⟨w6, hw6⟩ : ∃ w6, w6 = (((w5.alloc (.cells #[.int .i64 0] 3)).alloc (.cells #[.int .i64 1, .int .i64 2] 3)).alloc (.cells #[.slice (some ⟨w5.heap.size, 0, none⟩) 1 1, .slice (some ⟨w5.heap.size + 1, 0, none⟩) 2 2] 25)) := ⟨_, rfl⟩
  have hb56 : Below w5.heap.size w5 w6 := by rw [hw6]; exact (((Below.refl _ _).alloc (Nat.le_refl _) _).alloc (by simp) _).alloc (by simp; omega) _
  rw [← hw6] at HROW
  have HS2 : Hid (Calls Try.prog 35 #[.slice a2 2 c2, .slice (some ⟨w5.heap.size + 1 + 1, 0, none⟩) 2 2] w6 (Tells true w6)) := Lib.hid (sameRows_ok _ a2 _ c2 2 [[0], [1, 2]] [[0], [1, 2]] (by decide) (HR5.out.below hb56) HROW.out)
  have HB36 := Lib.hid (HB35.out.trans (hb56.mono HB35.out.size)); have HW6 := Lib.hid hw6
  clear hw6 hb56
  go_wp2_with fail
  rw [← HW6.out]
  refine HS2.out.mono ?_
  rintro e w7 ⟨rfl, n7, hw7⟩
  have hb37 : Below w3.heap.size w3 w7 := by rw [hw7]; exact HB36.out.trans ((drew_below w6 n7).mono HB36.out.size)
  have HB37 := Lib.hid hb37
  clear hw7 hb37
  obtain ⟨w8, hw8⟩ : ∃ w8, w8 = w7.alloc (.cells #[.int .i64 1, .int .i64 2] 3) := ⟨_, rfl⟩
  have HS3 : Hid (Calls Try.prog 23 #[.slice a3 2 c3, .slice (some ⟨w7.heap.size, 0, none⟩) 2 2] w8 (Tells true w8)) := Lib.hid (by
    rw [hw8]
    exact sameInts_ok _ a3 _ c3 2 [1, 2] [1, 2] (by decide) ((HC3.out.below HB37.out).below (HAL.out _ _)) (Cells.lit w7 _ _))
  have HB38 : Hid (Below w3.heap.size w3 w8) := Lib.hid (by rw [hw8]; exact HB37.out.trans ((HAL.out w7 _).mono HB37.out.size))
  have HW8 := Lib.hid hw8
  clear hw8
  go_wp2_with fail
  rw [← HW8.out]
  refine HS3.out.mono ?_
  rintro e w9 ⟨rfl, n9, hw9⟩
  have HB39 : Hid (Below w3.heap.size w3 w9) := Lib.hid (by rw [hw9]; exact HB38.out.trans ((drew_below w8 n9).mono HB38.out.size))
  clear hw9
  go_wp2_with fail
  go_ret
  exact ⟨rfl, HB3.out.trans (HB39.out.mono HB3.out.size)⟩
end Go.Proofs.Ytbancojknahdgaa
