/- HashApart: the walk. -/
import Derived.Test.YtdalnhhenahcjaaHashE
namespace Go.Proofs.Ytdalnhhenahcjaa
open Go.RowKit HP

theorem getV_same (M : Key → Option Int) (c : Key) (v : Int) : getV (setK M c (some v)) c = v := by simp [getV, setK]
theorem getE_same (M : Key → Option Int) (c : Key) (v : Int) : getE (setK M c (some v)) c = 0 := by simp [getE, setK]
theorem getV_other (M : Key → Option Int) (c c' : Key) (o : Option Int) (h : c' ≠ c) : getV (setK M c o) c' = getV M c' := by simp [getV, setK, h]
theorem getE_other (M : Key → Option Int) (c c' : Key) (o : Option Int) (h : c' ≠ c) : getE (setK M c o) c' = getE M c' := by simp [getE, setK, h]
theorem getE_drop (M : Key → Option Int) (c : Key) : getE (setK M c none) c = 3 := by simp [getE, setK]
theorem setK_some (M : Key → Option Int) (c : Key) (v : Int) : (setK M c (some v) c).isSome = true := by simp [setK]
theorem setK_none (M : Key → Option Int) (c : Key) : (setK M c none c).isSome = false := by simp [setK]
theorem setK_isSome (M : Key → Option Int) (c c' : Key) (o : Option Int) (h : c' ≠ c) : (setK M c o c').isSome = (M c').isSome := by simp [setK, h]

/-- the boxes of HashApart's arguments -/
structure Boxes (W0 w : World) (b : Nat) (c0 c1 : Key) (v0 v1 : Int) : Prop where
  lt : b + 1 < w.heap.size
  k0 : w.cell? ⟨b, 0, none⟩ = some (.int .i64 c0.1)
  k1 : w.cell? ⟨b, 1, none⟩ = some (.int .i64 c0.2.1)
  k2 : w.cell? ⟨b, 2, none⟩ = some (.int .i64 c0.2.2)
  k3 : w.cell? ⟨b, 3, none⟩ = some (.int .i64 c1.1)
  k4 : w.cell? ⟨b, 4, none⟩ = some (.int .i64 c1.2.1)
  k5 : w.cell? ⟨b, 5, none⟩ = some (.int .i64 c1.2.2)
  v0 : w.cell? ⟨b + 1, 0, none⟩ = some (.int .i64 v0)
  v1 : w.cell? ⟨b + 1, 1, none⟩ = some (.int .i64 v1)
theorem Boxes.below {W0 w w' : World} {b : Nat} {c0 c1 : Key} {v0 v1 : Int} (h : Boxes W0 w b c0 c1 v0 v1) (hb : Below w.heap.size w w') : Boxes W0 w' b c0 c1 v0 v1 :=
  have h1 : b < w.heap.size := Nat.lt_of_succ_lt h.lt
  have h2 : b + 1 < w.heap.size := h.lt
  ⟨Nat.lt_of_lt_of_le h.lt hb.size, (hb.cell (p := ⟨b, 0, none⟩) h1).trans h.k0, (hb.cell (p := ⟨b, 1, none⟩) h1).trans h.k1, (hb.cell (p := ⟨b, 2, none⟩) h1).trans h.k2, (hb.cell (p := ⟨b, 3, none⟩) h1).trans h.k3, (hb.cell (p := ⟨b, 4, none⟩) h1).trans h.k4, (hb.cell (p := ⟨b, 5, none⟩) h1).trans h.k5, (hb.cell (p := ⟨b + 1, 0, none⟩) h2).trans h.v0, (hb.cell (p := ⟨b + 1, 1, none⟩) h2).trans h.v1⟩

set_option maxRecDepth 100000 in
set_option maxHeartbeats 4000000 in
theorem hashApart_walk (w : World) (c0 c1 : Key) (v0 v1 : Int) :
    Calls Try.prog 6 #[.agg #[.int .i64 c0.1, .int .i64 c0.2.1, .int .i64 c0.2.2, .int .i64 c1.1, .int .i64 c1.2.1, .int .i64 c1.2.2], .agg #[.int .i64 v0, .int .i64 v1]] w (Fine w) := by
  have hgd : ∀ (x y : Operand) (a b d a' b' d' : Value) (w : World), (eqGuard .eql 26 x y (.agg #[a, b, d]) (.agg #[a', b', d'])).run Try.prog w = .ok () w := fun x y a b d a' b' d' w => guard_arr3 x y _ _ w
  have hkey := eq_keys c0 c1
  go_enter Try.func6, Try.ntmps6
  go_wp2_with fail
  have hB0 : Below w.heap.size w ((w.alloc (.cells #[.int .i64 c0.1, .int .i64 c0.2.1, .int .i64 c0.2.2, .int .i64 c1.1, .int .i64 c1.2.1, .int .i64 c1.2.2] 37)).alloc (.cells #[.int .i64 v0, .int .i64 v1] 38)) := ((Below.refl _ _).alloc (Nat.le_refl _) _).alloc (by simp) _
  have hX0 : Boxes w ((w.alloc (.cells #[.int .i64 c0.1, .int .i64 c0.2.1, .int .i64 c0.2.2, .int .i64 c1.1, .int .i64 c1.2.1, .int .i64 c1.2.2] 37)).alloc (.cells #[.int .i64 v0, .int .i64 v1] 38)) w.heap.size c0 c1 v0 v1 := by
    constructor <;> simp [go_sem]
  generalize ((w.alloc (.cells #[.int .i64 c0.1, .int .i64 c0.2.1, .int .i64 c0.2.2, .int .i64 c1.1, .int .i64 c1.2.1, .int .i64 c1.2.2] 37)).alloc (.cells #[.int .i64 v0, .int .i64 v1] 38)) = W0 at hB0 hX0 ⊢
  generalize hbx : w.heap.size = bx at hX0 ⊢
  have HBX := Lib.hid hbx; clear hbx
  have HB0 := Lib.hid hB0; clear hB0
  refine (tnew W0 W0 (Below.refl _ _)).mono ?_
  rintro e w1 ⟨p, rfl, h1, _, _⟩
  obtain ⟨x0, x1, x2, x3, x4, x5, x6, x7, x8⟩ := hX0.below h1.bel
  go_wp2_with fail
  clear x0 x1 x2 x3 x4 x5 x6 x7 x8
  refine (tput W0 w1 p _ _ c0 v0 h1 (by decide)).mono ?_
  rintro e w2 ⟨rfl, h2⟩
  obtain ⟨x0, x1, x2, x3, x4, x5, x6, x7, x8⟩ := hX0.below h2.bel
  go_wp2_with fail
  clear x0 x1 x2 x3 x4 x5 x6 x7 x8
  refine (tput W0 w2 p _ _ c1 v1 h2 (by decide)).mono ?_
  rintro e w3 ⟨rfl, h3⟩
  obtain ⟨x0, x1, x2, x3, x4, x5, x6, x7, x8⟩ := hX0.below h3.bel
  go_wp2_with fail
  clear x0 x1 x2 x3 x4 x5 x6 x7 x8
  refine (tget W0 w3 p _ _ c0 h3).mono ?_
  rintro e w4 ⟨rfl, h4⟩
  obtain ⟨x0, x1, x2, x3, x4, x5, x6, x7, x8⟩ := hX0.below h4.bel
  generalize hV0 : getV (setK (setK (fun _ => none) c0 (some v0)) c1 (some v1)) c0 = r0
  generalize hE0 : getE (setK (setK (fun _ => none) c0 (some v0)) c1 (some v1)) c0 = s0
  have HV0 := Lib.hid hV0; have HE0 := Lib.hid hE0; clear hV0 hE0
  go_wp2_with fail
  clear x0 x1 x2 x3 x4 x5 x6 x7 x8
  refine (tget W0 w4 p _ _ c1 h4).mono ?_
  rintro e w5 ⟨rfl, h5⟩
  obtain ⟨x0, x1, x2, x3, x4, x5, x6, x7, x8⟩ := hX0.below h5.bel
  rw [getV_same, getE_same]
  have HK := Lib.hid hkey; clear hkey
  by_cases hk : c0 = c1
  · have hkey : ∀ w, (Op.equalIn 10000 26 (.agg #[.int .i64 c0.1, .int .i64 c0.2.1, .int .i64 c0.2.2]) (.agg #[.int .i64 c1.1, .int .i64 c1.2.1, .int .i64 c1.2.2])).run Try.prog w = .ok true w := fun w => by rw [HK.out, decide_eq_true hk]
    subst hk
    obtain rfl : r0 = v1 := by rw [← HV0.out, getV_same]
    obtain rfl : s0 = 0 := by rw [← HE0.out, getE_same]
    rw [setK_some, if_pos rfl] at h5
    have H5 := Lib.hid h5; clear h5
    go_wp2_with fail
    refine (tlen W0 w5 p _ _ H5.out).mono ?_
    rintro e w6 ⟨rfl, rfl⟩
    go_wp2_with fail
    refine (awake02 w5).mono ?_
    rintro e w7 ⟨rfl, h7⟩
    go_wp2_with fail
    go_ret
    exact ⟨rfl, HB0.out.trans ((H5.out.bel.trans (h7.mono H5.out.bel.size)).mono HB0.out.size)⟩
  · have hkey : ∀ w, (Op.equalIn 10000 26 (.agg #[.int .i64 c0.1, .int .i64 c0.2.1, .int .i64 c0.2.2]) (.agg #[.int .i64 c1.1, .int .i64 c1.2.1, .int .i64 c1.2.2])).run Try.prog w = .ok false w := fun w => by rw [HK.out, decide_eq_false hk]
    obtain rfl : r0 = v0 := by rw [← HV0.out, getV_other _ _ _ _ hk, getV_same]
    obtain rfl : s0 = 0 := by rw [← HE0.out, getE_other _ _ _ _ hk, getE_same]
    rw [setK_isSome _ _ _ _ (fun h => hk h.symm)] at h5
    have H5 := Lib.hid h5; clear h5
    have HNE := Lib.hid hk; clear hk
    go_wp2_with fail
    clear x0 x1 x2 x3 x4 x5 x6 x7 x8
    refine (tlen W0 w5 p _ _ H5.out).mono ?_
    rintro e w6 ⟨rfl, rfl⟩
    obtain ⟨x0, x1, x2, x3, x4, x5, x6, x7, x8⟩ := hX0.below H5.out.bel
    go_wp2_with fail
    clear x0 x1 x2 x3 x4 x5 x6 x7 x8
    refine (tdrop W0 w5 p _ _ c1 H5.out).mono ?_
    rintro e w6 ⟨rfl, h6⟩
    obtain ⟨x0, x1, x2, x3, x4, x5, x6, x7, x8⟩ := hX0.below h6.bel
    rw [setK_some] at h6 ⊢
    have H6 := Lib.hid h6; clear h6
    go_wp2_with fail
    clear x0 x1 x2 x3 x4 x5 x6 x7 x8
    refine (tdrop W0 w6 p _ _ c1 H6.out).mono ?_
    rintro e w7 ⟨rfl, h7⟩
    obtain ⟨x0, x1, x2, x3, x4, x5, x6, x7, x8⟩ := hX0.below h7.bel
    rw [setK_none] at h7 ⊢
    have H7 := Lib.hid h7; clear h7
    go_wp2_with fail
    clear x0 x1 x2 x3 x4 x5 x6 x7 x8
    refine (tget W0 w7 p _ _ c0 H7.out).mono ?_
    rintro e w8 ⟨rfl, h8⟩
    obtain ⟨x0, x1, x2, x3, x4, x5, x6, x7, x8⟩ := hX0.below h8.bel
    rw [getV_other _ _ _ _ HNE.out, getV_other _ _ _ _ HNE.out, getV_other _ _ _ _ HNE.out, getV_same, getE_other _ _ _ _ HNE.out, getE_other _ _ _ _ HNE.out, getE_other _ _ _ _ HNE.out, getE_same]
    have H8 := Lib.hid h8; clear h8
    go_wp2_with fail
    clear x0 x1 x2 x3 x4 x5 x6 x7 x8
    refine (tget W0 w8 p _ _ c1 H8.out).mono ?_
    rintro e w9 ⟨rfl, h9⟩
    obtain ⟨x0, x1, x2, x3, x4, x5, x6, x7, x8⟩ := hX0.below h9.bel
    rw [getE_drop]
    generalize getV (setK (setK (setK (setK (fun _ => none) c0 (some r0)) c1 (some v1)) c1 none) c1 none) c1 = r9
    have H9 := Lib.hid h9; clear h9
    go_wp2_with fail
    clear x0 x1 x2 x3 x4 x5 x6 x7 x8
    refine (tlen W0 w9 p _ _ H9.out).mono ?_
    rintro e w10 ⟨rfl, rfl⟩
    go_wp2_with fail
    refine (awake02 w9).mono ?_
    rintro e w11 ⟨rfl, h11⟩
    go_wp2_with fail
    go_ret
    exact ⟨rfl, HB0.out.trans ((H9.out.bel.trans (h11.mono H9.out.bel.size)).mono HB0.out.size)⟩
end Go.Proofs.Ytdalnhhenahcjaa
