/- Layer 6: begun, awake. -/
import Derived.Test.YtoegenacjhmicaaCountN
import Derived.Test.YtoegenacjhmicaaCountI
namespace Go.Proofs.Ytoegenacjhmicaa
open Go.RowKit HP NP
/-- the store of a walk: four variables -/
structure CSt (w0 w : World) (p : Nat) (S : NS) : Prop where
  sto : Sto w w0.heap.size p S
  v4 : S.vars = 4
  bel : Below w0.heap.size w0 w
theorem CSt.below {w0 w w' : World} {p : Nat} {S : NS} (h : CSt w0 w p S) (hb : Below w.heap.size w w') : CSt w0 w' p S := ⟨h.sto.below hb, h.v4, h.bel.trans (hb.mono h.bel.size)⟩
set_option maxHeartbeats 800000 in
theorem begun6 (w : World) : Calls Try.prog 21 #[] w fun e w' => ∃ p, e = .returned (.tuple #[.pointer (some ⟨p, 0, none⟩), .bool true]) ∧ CSt w w' p (newS 4 1000) := by
  have HN := Lib.hid (nnew_yes w w.heap.size (Nat.le_refl _) 4 1000 (by decide) (by decide) (by decide))
  go_enter Try.func21, Try.ntmps21
  go_wp2_with fail
  refine HN.out.mono ?_
  rintro e w1 ⟨p, rfl, hs1, hb1, hp1⟩
  have HS1 := Lib.hid hs1; have HB1 := Lib.hid hb1
  clear hs1 hb1
  go_wp2_with fail
  go_ret2
  exact ⟨p, rfl, HS1.out, rfl, HB1.out⟩
def Fine6 (w : World) (e : Ending) (w' : World) : Prop := e = .returned (.bool true) ∧ Below w.heap.size w w'
/-! ### the store of awake -/
def aw61 : NS := { newS 4 1000 with l := putN (base2 4) 2 ⟨true, 2, 0, 1, 0⟩, made := 1 }
def aw62 : NS := { newS 4 1000 with l := putN (putN (base2 4) 2 ⟨true, 2, 0, 1, 0⟩) 3 ⟨true, 0, 0, 2, 0⟩, made := 2 }
theorem aw6_a : mkS (newS 4 1000) 2 0 1 = (aw61, 2, 0) := rfl
theorem aw6_b : mkS aw61 0 0 2 = (aw62, 3, 0) := rfl
theorem aw6_k : isK aw62.l 3 = true := rfl
theorem aw6_asks : asksL aw62 3 = [0, 2] := by decide +kernel
theorem aw6_cubes : cubes aw62 3 = [[1, 2, 1, 2]] := by decide +kernel
theorem aw6_srt : srt [0, 1, 2] = [0, 1, 2] := srt_self (by decide)
theorem aw6_with : withE aw62 3 [0, 1, 2] = 0 := withE_ok ⟨by decide, by decide⟩ aw6_k (by
  intro v hv
  rw [show ((3 : Int).toNat) = 3 from rfl, aw6_asks] at hv
  rcases List.mem_cons.1 hv with rfl | hv
  · decide
  · rw [List.mem_singleton.1 hv]; decide)
theorem aw6_sat (hW : Wf aw62) {m : Nat → Option Nat} (h : PosOf (srt [0, 1, 2]) m) : satT m 3 aw62 3 = 2 := by
  rw [aw6_srt] at h
  have hk : isB aw62.l 3 = true := rfl
  obtain ⟨h1, h2⟩ := satB_congr (add := addS) (mul := mulS) (pow := powS) (lv := lvO m) (m := 3) hW id 3 hk fun v hv => by
    have hm := (mem_asksL hW hk).2 hv
    rw [aw6_asks] at hm
    unfold lvO
    rcases List.mem_cons.1 hm with rfl | hm
    · rw [(h 0 0).2 rfl]; rfl
    · rw [List.mem_singleton.1 hm, (h 2 2).2 rfl]; rfl
  unfold satT satV
  rw [h1, h2]
  decide +kernel
theorem RowsO.rowsAt {w : World} {B : Nat} {a : Option Addr} {c n : Nat} {sls : List Value} {L : List (List Int)} (h : RowsO w B (.slice a n c) sls L) (hl : ∀ l ∈ L, l.length ≤ maxLen) : RowsAt w a L := by
  obtain ⟨oa, oc, e, _, _, hc⟩ := Cells.of_own h.ow
  injection e with e1 e2 e3
  subst e1
  refine ⟨sls, hc, fun i l hi => ⟨hl l (List.mem_of_getElem? hi), ?_⟩⟩
  obtain ⟨u, h1, h2⟩ := h.ins i l hi
  obtain ⟨ad, cap, rfl, _, _, hd⟩ := Cells.of_own h2
  exact ⟨ad, cap, h1, hd⟩
/-- a row of one literal row -/
theorem rows_lit (w : World) (l : List Int) (hl : l.length ≤ maxLen) (t1 t2 : TypeId) : RowsAt ((w.alloc (.cells (zV l).toArray t1)).alloc (.cells #[.slice (some ⟨w.heap.size, 0, none⟩) l.length l.length] t2)) (some ⟨w.heap.size + 1, 0, none⟩) [l] := by
  have h1 := Cells.lit w (zV l).toArray t1
  have h2 := Cells.lit (w.alloc (.cells (zV l).toArray t1)) #[.slice (some ⟨w.heap.size, 0, none⟩) l.length l.length] t2
  rw [World.size_alloc] at h2
  refine ⟨_, h2, fun i m hm => ?_⟩
  cases i with
  | zero =>
    injection hm with hm
    subst hm
    exact ⟨hl, _, _, rfl, h1.below ((Below.refl _ _).alloc (Nat.le_refl _) _)⟩
  | succ i => cases hm
set_option maxRecDepth 100000 in
set_option maxHeartbeats 3200000 in
theorem awake6 (w : World) : Calls Try.prog 25 #[] w (Fine6 w) := by
  have HA := Lib.hid aw6_a; have HBb := Lib.hid aw6_b
  go_enter Try.func25, Try.ntmps25
  go_wp2_with fail
  refine (begun6 w).mono ?_
  rintro e w1 ⟨p, rfl, hs1⟩
  have HS1 := Lib.hid hs1
  clear hs1
  go_wp2_with fail
  refine (nmk_ok w1 w.heap.size p _ HS1.out.sto HS1.out.bel.size 2 0 1).mono ?_
  rintro e w2 ⟨rfl, hs2, hk2⟩
  rw [HA.out] at hs2 ⊢
  have HB2 := Lib.hid (HS1.out.bel.trans (hk2.low HS1.out.bel.size))
  have HS2 := Lib.hid hs2
  clear hs2 hk2
  go_wp2_with fail
  refine (nmk_ok w2 w.heap.size p _ HS2.out HB2.out.size 0 0 2).mono ?_
  rintro e w3 ⟨rfl, hs3, hk3⟩
  rw [HBb.out] at hs3 ⊢
  have HB3 := Lib.hid (HB2.out.trans (hk3.low HB2.out.size))
  have HS3 : Hid (CSt w w3 p aw62) := Lib.hid ⟨hs3, rfl, HB3.out⟩
  clear hs3 hk3
  obtain ⟨w4, hw4⟩ : ∃ w4, w4 = w3.alloc (.cells #[.int .i64 0, .int .i64 1, .int .i64 2] 3) := ⟨_, rfl⟩
  have hb4 : Below w3.heap.size w3 w4 := by rw [hw4]; exact (Below.refl _ _).alloc (Nat.le_refl _) _
  have HS4 := Lib.hid (HS3.out.below hb4)
  have HSAT := Lib.hid (csat_ok w4 w.heap.size p aw62 HS4.out.sto 3 (some ⟨w3.heap.size, 0, none⟩) [0, 1, 2] 3 (by decide) (by rw [hw4]; exact Cells.lit w3 #[.int .i64 0, .int .i64 1, .int .i64 2] 3) (by decide))
  have HW4 := Lib.hid hw4
  clear hw4 hb4
  go_wp2_with fail
  rw [← HW4.out]
  refine HSAT.out.mono ?_
  rintro e w5 ⟨hb5, ⟨h, _⟩ | ⟨_, m, hm, rfl⟩⟩
  · exact absurd aw6_with h
  have hsat : satT m 3 aw62 3 = 2 := aw6_sat HS4.out.sto.wf hm
  rw [show satT m ([0, 1, 2] : List Int).length aw62 (Int.toNat 3) = 2 from hsat]
  have HS5 := Lib.hid (HS4.out.below hb5)
  clear hb5 hm hsat HSAT
  go_wp2_with fail
  refine (cubes_ok w5 w.heap.size p aw62 HS5.out.sto (by decide) 3 9).mono ?_
  rintro e w6 ⟨hb6, h⟩
  have hce : cubE aw62 3 9 = 0 := cubE_ok (by decide) aw6_k (by rw [show (Int.toNat 3) = 3 from rfl, aw6_cubes]; decide)
  rcases h with ⟨h, _⟩ | ⟨_, y, sls, rfl, hr6⟩
  · exact absurd hce h
  rw [show (Int.toNat 3) = 3 from rfl, aw6_cubes] at hr6
  obtain ⟨ya, yc, rfl⟩ := own_shape hr6.ow
  have HR6 := Lib.hid (hr6.rowsAt (by decide))
  have HS6 := Lib.hid (HS5.out.below hb6)
  rw [show ([[1, 2, 1, 2]] : List (List Int)).length = 1 from rfl]
  clear hr6 hb6 hce
  go_wp2_with fail
  refine (asks_ok w6 w.heap.size p aw62 HS6.out.sto 3).mono ?_
  rintro e w7 ⟨hb7, ⟨h, _⟩ | ⟨_, v, rfl, hr7⟩⟩
  · rw [aw6_k] at h; cases h
  rw [show (Int.toNat 3) = 3 from rfl, aw6_asks] at hr7
  change w7.ownsRow _ _ 1 v 2 (zV [0, 2]) at hr7
  obtain ⟨oa, oc, rfl, _, _, hc7⟩ := Cells.of_own hr7
  have HS7 := Lib.hid (HS6.out.below hb7)
  have HR7 := Lib.hid (HR6.out.below hb7)
  have HC7 := Lib.hid hc7
  clear hb7 hr7 hc7
  obtain ⟨w8, hw8⟩ : ∃ w8, w8 = (w7.alloc (.cells #[.int .i64 1, .int .i64 2, .int .i64 1, .int .i64 2] 3)).alloc (.cells #[.slice (some ⟨w7.heap.size, 0, none⟩) 4 4] 28) := ⟨_, rfl⟩
  have hb8 : Below w7.heap.size w7 w8 := by rw [hw8]; exact ((Below.refl _ _).alloc (Nat.le_refl _) _).alloc (by simp) _
  have hr8 : RowsAt w8 (some ⟨w7.heap.size + 1, 0, none⟩) [[1, 2, 1, 2]] := by rw [hw8]; exact rows_lit w7 [1, 2, 1, 2] (by decide) 3 28
  have HSR := Lib.hid (sameRows_ok w8 ya (some ⟨w7.heap.size + 1, 0, none⟩) yc 1 [[1, 2, 1, 2]] [[1, 2, 1, 2]] (by decide) (HR7.out.below hb8) hr8)
  have HS8 := Lib.hid (HS7.out.below hb8); have HC8 := Lib.hid (HC7.out.below hb8)
  have HW8 := Lib.hid hw8
  clear hw8 hb8 hr8
  go_wp2_with fail
  rw [← HW8.out]
  refine HSR.out.mono ?_
  rintro e w9 ⟨rfl, n9, hw9⟩
  rw [show (([[1, 2, 1, 2]] : List (List Int)) == [[1, 2, 1, 2]]) = true from rfl]
  have hb9 : Below w8.heap.size w8 w9 := by rw [hw9]; exact bdN' _ _
  have HS9 := Lib.hid (HS8.out.below hb9); have HC9 := Lib.hid (HC8.out.below hb9)
  clear hw9 hb9
  obtain ⟨w10, hw10⟩ : ∃ w10, w10 = w9.alloc (.cells #[.int .i64 0, .int .i64 2] 3) := ⟨_, rfl⟩
  have hb10 : Below w9.heap.size w9 w10 := by rw [hw10]; exact (Below.refl _ _).alloc (Nat.le_refl _) _
  have HSI := Lib.hid (sameInts_ok w10 oa (some ⟨w9.heap.size, 0, none⟩) oc 2 [0, 2] [0, 2] (by decide) (HC9.out.below hb10) (by rw [hw10]; exact Cells.lit w9 #[.int .i64 0, .int .i64 2] 3))
  have HS10 := Lib.hid (HS9.out.below hb10)
  have HW10 := Lib.hid hw10
  clear hw10 hb10
  go_wp2_with fail
  rw [← HW10.out]
  refine HSI.out.mono ?_
  rintro e w11 ⟨rfl, n11, hw11⟩
  rw [show (([0, 2] : List Int) == [0, 2]) = true from rfl]
  have HS11 := Lib.hid (HS10.out.below (show Below w10.heap.size w10 w11 by rw [hw11]; exact bdN' _ _))
  clear hw11
  go_wp2_with fail
  go_ret
  exact ⟨rfl, HS11.out.bel⟩
end Go.Proofs.Ytoegenacjhmicaa
