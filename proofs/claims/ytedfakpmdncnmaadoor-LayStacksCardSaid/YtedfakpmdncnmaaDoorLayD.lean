/- Layer 7: few, awake. -/
import Derived.Test.YtedfakpmdncnmaaDoorLayC
namespace Go.Proofs.YtedfakpmdncnmaaDoor
open Go.RowKit LY
def fewN (doms : List Dm) (i : Nat) : Bool := (doms.take i).all fun d => decide (d.name.size ≤ 100)
def fewB (doms : List Dm) : Bool := fewN doms (min doms.length 40) && decide (doms.length ≤ 40)
theorem few_out {doms : List Dm} (h : fewB doms = true) : doms.length ≤ 40 ∧ ∀ d ∈ doms, d.name.size ≤ 100 := by
  unfold fewB fewN at h
  rw [Bool.and_eq_true, decide_eq_true_eq] at h
  obtain ⟨h1, h2⟩ := h
  rw [Nat.min_eq_left h2, List.take_length, List.all_eq_true] at h1
  exact ⟨h2, fun d hd => of_decide_eq_true (h1 d hd)⟩
theorem fewN_le {doms : List Dm} {i j : Nat} (h : i ≤ j) (hf : fewN doms i = false) : fewN doms j = false := by
  unfold fewN at hf ⊢
  rw [List.all_eq_false] at hf ⊢
  obtain ⟨x, hx, hp⟩ := hf
  exact ⟨x, (List.take_subset_take_left doms h) hx, hp⟩
set_option maxHeartbeats 1600000 in
theorem few_ok (w : World) (a : Option Addr) (doms : List Dm) (c : Nat) (hm : doms.length ≤ maxLen) (hc : Cells w a (doms.flatMap domCells)) :
    Calls Tryd.prog 6 #[.slice a doms.length c] w fun e w' => e = .returned (.bool (fewB doms)) ∧ w = w' := by
  obtain ⟨N, hN⟩ : ∃ N, doms.length = N := ⟨_, rfl⟩
  have HC := Lib.hid hc; have HN := Lib.hid hN
  rw [hN] at hm ⊢
  unfold maxLen at hm
  clear hc hN
  go_enter Tryd.func6, Tryd.ntmps6
  go_wp2_with fail
  go_loopg [3] 40 (fun mm x wr => ∃ i : Nat, mm + i = 40 ∧ i ≤ N ∧ x = .int .i64 (i : Int) ∧ fewN doms i = true ∧ w = wr)
  case atStart => exact ⟨0, rfl, Nat.zero_le _, rfl, rfl, rfl⟩
  case round =>
    obtain ⟨i, hm2, hiN, rfl, hf, rfl⟩ := hrel
    have HM := Lib.hid hm2; have HF := Lib.hid hf
    clear hm2 hf
    by_cases hi : i < N
    · have d0 : decide ((i : Int) < (N : Int)) = true := decide_eq_true (by omega)
      have d0' : decide (i < N) = true := decide_eq_true hi
      by_cases hi4 : i < 40
      · have d1 : decide ((i : Int) < 40) = true := decide_eq_true (by omega)
        have d1' : decide (i < 40) = true := decide_eq_true hi4
        have hd := at_get (doms := doms) (i := i) (by rw [HN.out]; exact hi)
        obtain ⟨d, hde⟩ : ∃ d, at_ doms i = d := ⟨_, rfl⟩
        rw [hde] at hd
        obtain ⟨s, z⟩ := d
        obtain ⟨b0, o0, rfl, hb0, k0, _⟩ := HC.out.dom hd
        have hnx : fewN doms (i + 1) = decide (s.size ≤ 100) := by
          unfold fewN
          rw [List.take_add_one, hd, List.all_append]
          have h := HF.out
          unfold fewN at h
          rw [h]
          show (true && (decide (s.size ≤ 100) && true)) = _
          simp
        obtain ⟨sz, hsz⟩ : ∃ sz, s.size = sz := ⟨_, rfl⟩
        have HSZ := Lib.hid hsz
        rw [hsz] at hnx
        have HNX := Lib.hid hnx
        clear hd hde hnx hi4
        by_cases h100 : 100 < sz
        · have d2 : decide ((100 : Int) < (sz : Int)) = true := decide_eq_true (by omega)
          have d2' : decide (100 < sz) = true := decide_eq_true h100
          have HNO : Hid (fewB doms = false) := Lib.hid (by
            unfold fewB
            rw [fewN_le (i := i + 1) (by have := HM.out; have := HN.out; have h1 := of_decide_eq_true d0'; have h2 := of_decide_eq_true d1'; omega) (by rw [HNX.out]; exact decide_eq_false (by omega))]; rfl)
          go_wp2_with fail
          go_ret
          exact ⟨by rw [HNO.out]; rfl, rfl⟩
        · have d2 : decide ((100 : Int) < (sz : Int)) = false := decide_eq_false (by omega)
          have d2' : decide (100 < sz) = false := decide_eq_false h100
          have HNX2 : Hid (fewN doms (i + 1) = true) := Lib.hid (by rw [HNX.out]; exact decide_eq_true (by omega))
          have hi2 := hi
          go_wp2_with fail
          go_roundg (40 - (i + 1))
          case measure => have := HM.out; have h2 := of_decide_eq_true d1'; omega
          case rel => exact ⟨i + 1, by have := HM.out; have h2 := of_decide_eq_true d1'; omega, by omega, by go_num, HNX2.out, rfl⟩
      · have d1 : decide ((i : Int) < 40) = false := decide_eq_false (by omega)
        have d1' : decide (i < 40) = false := decide_eq_false hi4
        have d2 : decide ((N : Int) ≤ 40) = false := decide_eq_false (by omega)
        have HNO : Hid (fewB doms = false) := Lib.hid (by unfold fewB; rw [HN.out, decide_eq_false (show ¬ N ≤ 40 by omega), Bool.and_false])
        clear hi hi4
        go_wp2_with fail
        go_ret
        exact ⟨by rw [HNO.out]; rfl, rfl⟩
    · have d0 : decide ((i : Int) < (N : Int)) = false := decide_eq_false (by omega)
      have d0' : decide (i < N) = false := decide_eq_false hi
      have hN40 : N ≤ 40 := by have := HM.out; omega
      have d2 : decide ((N : Int) ≤ 40) = true := decide_eq_true (by omega)
      have HYES : Hid (fewB doms = true) := Lib.hid (by
        unfold fewB
        rw [HN.out, Nat.min_eq_left hN40, decide_eq_true hN40, Bool.and_true]
        have : i = N := by omega
        rw [← this]; exact HF.out)
      clear hi
      go_wp2_with fail
      go_ret
      exact ⟨by rw [HYES.out]; rfl, rfl⟩
/-! ### awake -/
def awD : List Dm := [⟨⟨#[65]⟩, 4⟩, ⟨⟨#[66]⟩, 2⟩]
def awE : List Dm := [⟨⟨#[65]⟩, 5⟩]
theorem aw_may : mayB awD = true := by decide +kernel
theorem aw_mayE : mayB awE = true := by decide +kernel
theorem aw_allE : allW awE = 3 := by decide +kernel
theorem aw_ord : OrderIs awD [65, 42, 66] [[0, 1]] := ⟨by
  have h := groups_order (gs := [[[65], [66]]]) (by simp) (by simp) (by
    intro g hg x hx
    rw [List.mem_singleton.1 hg] at hx
    rcases List.mem_cons.1 hx with rfl | hx
    · decide
    · rw [List.mem_singleton.1 hx]; decide)
  exact h, by decide, by decide, rfl⟩
theorem aw_rows : (List.range 2).map (fun k => zN (rowP awD [[0, 1]] k)) = [[2, 0], [1]] := by decide +kernel
def Fine7 (w : World) (e : Ending) (w' : World) : Prop := e = .returned (.bool true) ∧ Below w.heap.size w w'
theorem rows_two (w : World) (l m : List Int) (hl : l.length ≤ maxLen) (hm : m.length ≤ maxLen) (t1 t2 : TypeId) : RowsAt (((w.alloc (.cells (zV l).toArray t1)).alloc (.cells (zV m).toArray t1)).alloc (.cells #[.slice (some ⟨w.heap.size, 0, none⟩) l.length l.length, .slice (some ⟨w.heap.size + 1, 0, none⟩) m.length m.length] t2)) (some ⟨w.heap.size + 1 + 1, 0, none⟩) [l, m] := by
  have h1 := Cells.lit w (zV l).toArray t1
  have h2 := Cells.lit (w.alloc (.cells (zV l).toArray t1)) (zV m).toArray t1
  have h3 := Cells.lit ((w.alloc (.cells (zV l).toArray t1)).alloc (.cells (zV m).toArray t1)) #[.slice (some ⟨w.heap.size, 0, none⟩) l.length l.length, .slice (some ⟨w.heap.size + 1, 0, none⟩) m.length m.length] t2
  rw [World.size_alloc] at h2
  rw [World.size_alloc, World.size_alloc] at h3
  refine ⟨_, h3, fun i x hx => ?_⟩
  match i, hx with
  | 0, hx =>
    injection hx with hx
    subst hx
    exact ⟨hl, _, _, rfl, (h1.below ((Below.refl _ _).alloc (Nat.le_refl _) _)).below ((Below.refl _ _).alloc (Nat.le_refl _) _)⟩
  | 1, hx =>
    injection hx with hx
    subst hx
    exact ⟨hm, _, _, rfl, h2.below ((Below.refl _ _).alloc (Nat.le_refl _) _)⟩
set_option maxRecDepth 100000 in
set_option maxHeartbeats 3200000 in
theorem awake7 (w : World) (hML : MaxL w) : Calls Tryd.prog 7 #[] w (Fine7 w) := by
  obtain ⟨w1, hw1⟩ : ∃ w1, w1 = w.alloc (.cells #[.string ⟨#[65]⟩, .int .i64 4, .string ⟨#[66]⟩, .int .i64 2] 26) := ⟨_, rfl⟩
  have hb1 : Below w.heap.size w w1 := by rw [hw1]; exact (Below.refl _ _).alloc (Nat.le_refl _) _
  have HP := Lib.hid (place_ok w1 (some ⟨w.heap.size, 0, none⟩) awD 2 ⟨#[65, 42, 66]⟩ (by decide) (by rw [hw1]; exact Cells.lit w #[.string ⟨#[65]⟩, .int .i64 4, .string ⟨#[66]⟩, .int .i64 2] 26) (by
    intro d hd
    rcases List.mem_cons.1 hd with rfl | hd
    · show 1 ≤ maxLen; decide
    · rw [List.mem_singleton.1 hd]; show 1 ≤ maxLen; decide) (by show 3 ≤ 1048576; decide) (hML.below hb1))
  have HB1 := Lib.hid hb1; have HW1 := Lib.hid hw1
  clear hb1 hw1 hML
  go_enter Tryd.func7, Tryd.ntmps7
  go_wp2_with fail
  rw [← HW1.out]
  refine HP.out.mono ?_
  rintro e w2 ⟨hb2, ⟨h, _⟩ | ⟨_, h, _⟩ | ⟨_, gs, ob, ho, rfl, hr⟩⟩
  · rw [aw_may] at h; cases h
  · exact absurd aw_ord (h _)
  have hgs : gs = [[0, 1]] := ho.uniq aw_may aw_ord
  subst hgs
  change RowsAt w2 _ ((List.range 2).map fun k => zN (rowP awD [[0, 1]] k)) at hr
  rw [aw_rows] at hr
  have HB2 := Lib.hid (HB1.out.trans (hb2.mono HB1.out.size)); have HR2 := Lib.hid hr
  clear hb2 hr ho
  obtain ⟨w3, hw3⟩ : ∃ w3, w3 = ((w2.alloc (.cells #[.int .i64 2, .int .i64 0] 3)).alloc (.cells #[.int .i64 1] 3)).alloc (.cells #[.slice (some ⟨w2.heap.size, 0, none⟩) 2 2, .slice (some ⟨w2.heap.size + 1, 0, none⟩) 1 1] 32) := ⟨_, rfl⟩
  have hb3 : Below w2.heap.size w2 w3 := by rw [hw3]; exact (((Below.refl _ _).alloc (Nat.le_refl _) _).alloc (by simp) _).alloc (by simp; omega) _
  have hr3 : RowsAt w3 (some ⟨w2.heap.size + 1 + 1, 0, none⟩) [[2, 0], [1]] := by rw [hw3]; exact rows_two w2 [2, 0] [1] (by decide) (by decide) 3 32
  have HSR := Lib.hid (sameRows_ok w3 (some ⟨ob, 0, none⟩) (some ⟨w2.heap.size + 1 + 1, 0, none⟩) 2 2 [[2, 0], [1]] [[2, 0], [1]] (by decide) (HR2.out.below hb3) hr3)
  have HB3 := Lib.hid (HB2.out.trans (hb3.mono HB2.out.size)); have HW3 := Lib.hid hw3
  clear hw3 hb3 hr3
  rw [show awD.length = 2 from rfl]
  go_wp2_with fail
  rw [← HW3.out]
  refine HSR.out.mono ?_
  rintro e w4 ⟨rfl, n4, hw4⟩
  rw [show (([[2, 0], [1]] : List (List Int)) == [[2, 0], [1]]) = true from rfl]
  have hb4 : Below w3.heap.size w3 w4 := by rw [hw4]; exact drew_below _ _
  have HB4 := Lib.hid (HB3.out.trans (hb4.mono HB3.out.size))
  clear hw4 hb4
  obtain ⟨w5, hw5⟩ : ∃ w5, w5 = w4.alloc (.cells #[.string ⟨#[65]⟩, .int .i64 5] 26) := ⟨_, rfl⟩
  have hb5 : Below w4.heap.size w4 w5 := by rw [hw5]; exact (Below.refl _ _).alloc (Nat.le_refl _) _
  have HBI := Lib.hid (bitsD_ok w5 (some ⟨w4.heap.size, 0, none⟩) awE 1 (by decide) (by rw [hw5]; exact Cells.lit w4 #[.string ⟨#[65]⟩, .int .i64 5] 26) (by
    intro d hd
    rw [List.mem_singleton.1 hd]; show 1 ≤ maxLen; decide))
  rw [if_pos aw_mayE, aw_allE] at HBI
  have HB5 := Lib.hid (HB4.out.trans (hb5.mono HB4.out.size)); have HW5 := Lib.hid hw5
  clear hw5 hb5
  go_wp2_with fail
  rw [← HW5.out]
  refine HBI.out.mono ?_
  rintro e w6 ⟨rfl, hb6⟩
  have HB6 := Lib.hid (HB5.out.trans (hb6.mono HB5.out.size))
  clear hb6
  go_wp2_with fail
  go_ret
  exact ⟨rfl, HB6.out⟩
end Go.Proofs.YtedfakpmdncnmaaDoor
