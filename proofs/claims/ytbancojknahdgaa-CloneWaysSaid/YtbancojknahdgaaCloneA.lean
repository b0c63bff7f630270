/- Layer 20: the order of edges; what may be numbered (clone.may, and the reference's); the pairs of edges' ends. -/
import Derived.Test.YtbancojknahdgaaCloneP
import Derived.Test.YtbancojknahdgaaCompY
import Derived.StillTailTactics
import Derived.Test.YtbancojknahdgaaCompL2
namespace Go.Proofs.Ytbancojknahdgaa
open Go.RowKit CP
theorem Cells.key {w : World} {a : Option Addr} {es : List (Int × Int × Int)} (h : Cells w a (es.flatMap keyCells)) {i : Nat} {x : Int × Int × Int} (hx : es[i]? = some x) :
    ∃ b off, a = some ⟨b, off, none⟩ ∧ b < w.heap.size ∧ w.cell? ⟨b, off + i * 3, none⟩ = some (.int .i64 x.1) ∧ w.cell? ⟨b, off + i * 3 + 1, none⟩ = some (.int .i64 x.2.1) ∧ w.cell? ⟨b, off + i * 3 + 2, none⟩ = some (.int .i64 x.2.2) := by
  have g0 := flat_get keyCells 3 (fun _ => rfl) es i 0 x _ hx rfl
  have g1 := flat_get keyCells 3 (fun _ => rfl) es i 1 x _ hx rfl
  have g2 := flat_get keyCells 3 (fun _ => rfl) es i 2 x _ hx rfl
  obtain ⟨b, off, e, hb, hh⟩ := h (by intro h0; rw [h0] at g0; simp at g0)
  exact ⟨b, off, e, hb, hh _ _ g0, hh _ _ g1, hh _ _ g2⟩
/-- the first that is not 0 -/
def orZ : List Int → Int
  | [] => 0
  | z :: l => if z = 0 then orZ l else z
set_option maxHeartbeats 1600000 in
theorem or_ok (w : World) (a : Option Addr) (c : Nat) (zs : List Int) (hl : zs.length ≤ 1024) (hc : Cells w a (zV zs)) :
    Calls Try.prog 71 #[.slice a zs.length c] w fun e w' => e = .returned (.int .i64 (orZ zs)) ∧ w = w' := by
  obtain ⟨N, hN⟩ : ∃ N, zs.length = N := ⟨_, rfl⟩
  have HN := Lib.hid hN; have HC := Lib.hid hc
  rw [hN] at hl ⊢
  clear hN hc
  go_enter Try.func71, Try.ntmps71
  go_wp2_with fail
  go_loopg [8] N (fun m x wr => ∃ i : Nat, m + i = N ∧ x = .int .i64 (i : Int) ∧ orZ zs = orZ (zs.drop i) ∧ w = wr)
  case atStart => exact ⟨0, rfl, rfl, rfl, rfl⟩
  case round =>
    obtain ⟨i, hm, rfl, ho, rfl⟩ := hrel
    have HM := Lib.hid hm; have HO := Lib.hid ho
    clear hm ho
    by_cases hi : i < N
    · obtain ⟨x, hx⟩ : ∃ x, zs[i]? = some x := ⟨_, List.getElem?_eq_getElem (by rw [HN.out]; exact hi)⟩
      obtain ⟨b, off, hca, hbl, k0⟩ := HC.out.at_ (zV_at hx)
      subst hca
      have hd : zs.drop i = x :: zs.drop (i + 1) := by
        rw [List.drop_eq_getElem_cons (by rw [HN.out]; exact hi)]
        congr 1
        rw [List.getElem?_eq_some_iff] at hx
        exact hx.2
      have HD := Lib.hid hd
      clear hx hd
      by_cases h0 : x = 0
      · subst h0
        have HO2 : Hid (orZ zs = orZ (zs.drop (i + 1))) := Lib.hid (by rw [HO.out, HD.out]; rfl)
        go_wp2_with fail
        go_roundg (N - (i + 1))
        case measure => have := HM.out; omega
        case rel => exact ⟨i + 1, by have := HM.out; omega, by go_num, HO2.out, rfl⟩
      · have HO2 : Hid (orZ zs = x) := Lib.hid (by rw [HO.out, HD.out]; show (if x = 0 then _ else _) = _; rw [if_neg h0])
        have d1 : (x != 0) = true := by simpa using h0
        clear h0
        go_wp2_with fail
        go_ret
        exact ⟨by rw [HO2.out]; rfl, rfl⟩
    · have HO2 : Hid (orZ zs = 0) := Lib.hid (by rw [HO.out, List.drop_eq_nil_of_le (by rw [HN.out]; omega)]; rfl)
      go_wp2_with fail
      go_ret
      exact ⟨by rw [HO2.out]; rfl, rfl⟩
/-- which of two edges stands first -/
def ordZ (a b : Int × Int × Int) : Int := orZ [Lib.compareInt a.1 b.1, Lib.compareInt a.2.1 b.2.1, Lib.compareInt a.2.2 b.2.2]
def edgeV (x : Int × Int × Int) : Value := .agg #[.int .i64 x.1, .int .i64 x.2.1, .int .i64 x.2.2]
set_option maxRecDepth 100000 in
set_option maxHeartbeats 1600000 in
theorem order_ok (w : World) (a b : Int × Int × Int) : Calls Try.prog 60 #[edgeV a, edgeV b] w fun e w' => e = .returned (.int .i64 (ordZ a b)) ∧ Below w.heap.size w w' := by
  obtain ⟨a0, a1, a2⟩ := a
  obtain ⟨b0, b1, b2⟩ := b
  unfold edgeV
  simp only
  go_enter Try.func60, Try.ntmps60
  go_wp2_with fail
  obtain ⟨w1, hw1⟩ : ∃ w1, w1 = (w.alloc (.cells #[.int .i64 a0, .int .i64 a1, .int .i64 a2] 50)).alloc (.cells #[.int .i64 b0, .int .i64 b1, .int .i64 b2] 50) := ⟨_, rfl⟩
  have hb1 : Below w.heap.size w w1 := by rw [hw1]; exact ((Below.refl _ _).alloc (Nat.le_refl _) _).alloc (by simp) _
  have ka : Blk w1 w.heap.size 50 #[.int .i64 a0, .int .i64 a1, .int .i64 a2] := by rw [hw1]; exact (Blk.new_ _ _ _).alloc_ _
  have kb : Blk w1 (w.heap.size + 1) 50 #[.int .i64 b0, .int .i64 b1, .int .i64 b2] := by
    rw [hw1]
    have := Blk.new_ (w.alloc (.cells #[.int .i64 a0, .int .i64 a1, .int .i64 a2] 50)) 50 #[.int .i64 b0, .int .i64 b1, .int .i64 b2]
    simpa using this
  rw [← hw1]
  have HB1 := Lib.hid hb1
  obtain ⟨ga, hga⟩ : ∃ ga, ga = w.heap.size := ⟨_, rfl⟩
  obtain ⟨gb, hgb⟩ : ∃ gb, gb = w.heap.size + 1 := ⟨_, rfl⟩
  rw [← hga] at ka
  rw [← hgb] at kb
  try rw [← hgb]
  try rw [← hga]
  have p0 : w1.cell? ⟨ga, 0, none⟩ = some (.int .i64 a0) := ka.cell 0
  have p1 : w1.cell? ⟨ga, 1, none⟩ = some (.int .i64 a1) := ka.cell 1
  have p2 : w1.cell? ⟨ga, 2, none⟩ = some (.int .i64 a2) := ka.cell 2
  have q0 : w1.cell? ⟨gb, 0, none⟩ = some (.int .i64 b0) := kb.cell 0
  have q1 : w1.cell? ⟨gb, 1, none⟩ = some (.int .i64 b1) := kb.cell 1
  have q2 : w1.cell? ⟨gb, 2, none⟩ = some (.int .i64 b2) := kb.cell 2
  clear hw1 hb1 ka kb hga hgb
  go_still_tail 15, (by kernel_rfl)
  still_call (Try.cmp_Compare_int a0 b0 _)
  repeat still_step
  still_call (Try.cmp_Compare_int a1 b1 _)
  repeat still_step
  still_call (Try.cmp_Compare_int a2 b2 _)
  refine wpStill_nil ?_
  change wpList _ _ _ _ _ w1.drew
  obtain ⟨w2, hw2⟩ : ∃ w2, w2 = w1.drew := ⟨_, rfl⟩
  have HB2 : Hid (Below w.heap.size w w2) := Lib.hid (by rw [hw2]; exact HB1.out.trans ((drew_below w1 1).mono HB1.out.size))
  rw [← hw2]
  clear hw2 p0 p1 p2 q0 q1 q2 HB1
  obtain ⟨x, hx⟩ : ∃ x, Lib.compareInt a0 b0 = x := ⟨_, rfl⟩
  obtain ⟨y, hy⟩ : ∃ y, Lib.compareInt a1 b1 = y := ⟨_, rfl⟩
  obtain ⟨z, hz⟩ : ∃ z, Lib.compareInt a2 b2 = z := ⟨_, rfl⟩
  have HE : Hid (ordZ (a0, a1, a2) (b0, b1, b2) = orZ [x, y, z]) := Lib.hid (by rw [← hx, ← hy, ← hz]; rfl)
  rw [hx, hy, hz]
  clear hx hy hz
  have HO := Lib.hid (or_ok (w2.alloc (.cells #[.int .i64 x, .int .i64 y, .int .i64 z] 3)) (some ⟨w2.heap.size, 0, none⟩) 3 [x, y, z] (Nat.le_of_ble_eq_true rfl) (Cells.lit w2 #[.int .i64 x, .int .i64 y, .int .i64 z] 3))
  go_wp2_with fail
  refine HO.out.mono ?_
  rintro e w3 ⟨rfl, rfl⟩
  have HB3 := Lib.hid (HB2.out.alloc HB2.out.size (.cells #[.int .i64 x, .int .i64 y, .int .i64 z] 3))
  clear HO HB2
  go_wp2_with fail
  go_ret
  exact ⟨by rw [HE.out]; rfl, HB3.out⟩
theorem wrap_nat {j : Nat} (h : j < 9223372036854775808) : IntKind.i64.wrap (j : Int) = (j : Int) := by
  rw [IntKind.wrap_i64]; omega
def aheadB (a b : Int × Int × Int) : Bool := decide (ordZ a b < 0)
/-- may an edge stand behind another one, or as the first? -/
def edC (n : Int) (es : List (Int × Int × Int)) (i : Nat) (x : Int × Int × Int) : Bool :=
  decide (0 ≤ x.1) && decide (x.1 < n) && decide (0 ≤ x.2.2) && decide (x.2.2 < n) && decide (0 ≤ x.2.1) && decide (x.2.1 ≤ 1048576) && (i == 0 || aheadB (es.getD (i - 1) (0, 0, 0)) x)
def edsC (n : Int) (es : List (Int × Int × Int)) (i : Nat) : Bool := (List.range i).all fun j => edC n es j (es.getD j (0, 0, 0))
def mayC (n main : Int) (es : List (Int × Int × Int)) (wd : Int) : Bool :=
  decide (1 ≤ n) && decide (n ≤ 1024) && decide (0 ≤ main) && decide (main < n) && decide (es.length ≤ 16384) && decide (1 ≤ wd) && decide (wd ≤ 62) && edsC n es es.length
theorem edsC_next {n : Int} {es : List (Int × Int × Int)} {i : Nat} {x : Int × Int × Int} (hx : es[i]? = some x) : edsC n es (i + 1) = (edsC n es i && edC n es i x) := by
  unfold edsC
  have e : es.getD i (0, 0, 0) = x := by rw [List.getD_eq_getElem?_getD, hx]; rfl
  rw [List.range_succ, List.all_append, List.all_cons, List.all_nil, Bool.and_true, e]
theorem mayC_no {n main wd : Int} {es : List (Int × Int × Int)} {i : Nat} {x : Int × Int × Int} (hx : es[i]? = some x) (h : edC n es i x = false) : mayC n main es wd = false := by
  unfold mayC
  have hi : i < es.length := (List.getElem?_eq_some_iff.1 hx).1
  have : edsC n es es.length = false := by
    unfold edsC
    rw [List.all_eq_false]
    exact ⟨i, List.mem_range.2 hi, by rw [show es.getD i (0, 0, 0) = x from by rw [List.getD_eq_getElem?_getD, hx]; rfl, h]; decide⟩
  rw [this, Bool.and_false]
set_option maxRecDepth 100000 in
set_option maxHeartbeats 6400000 in
theorem cmay_ok (w : World) (n main : Int) (ea : Option Addr) (es : List (Int × Int × Int)) (c : Nat) (wd : Int) (_hm : es.length ≤ maxLen) (hc : Cells w ea (es.flatMap keyCells)) :
    Calls Try.prog 38 #[.int .i64 n, .int .i64 main, .slice ea es.length c, .int .i64 wd] w fun e w' => e = .returned (.bool (mayC n main es wd)) ∧ Below w.heap.size w w' := by
  obtain ⟨N, hN⟩ : ∃ N, es.length = N := ⟨_, rfl⟩
  have HN := Lib.hid hN; have HC := Lib.hid hc
  rw [hN] at _hm ⊢
  clear hN hc
  by_cases h1 : n < 1
  · have NO : Hid (mayC n main es wd = false) := Lib.hid (by unfold mayC; simp; omega)
    go_enter Try.func38, Try.ntmps38
    go_wp2_with fail
    go_ret
    exact ⟨by rw [NO.out]; rfl, Below.refl _ _⟩
  by_cases h2 : 1024 < n
  · have NO : Hid (mayC n main es wd = false) := Lib.hid (by unfold mayC; simp; omega)
    go_enter Try.func38, Try.ntmps38
    go_wp2_with fail
    go_ret
    exact ⟨by rw [NO.out]; rfl, Below.refl _ _⟩
  by_cases h3 : main < 0
  · have NO : Hid (mayC n main es wd = false) := Lib.hid (by unfold mayC; simp; omega)
    go_enter Try.func38, Try.ntmps38
    go_wp2_with fail
    go_ret
    exact ⟨by rw [NO.out]; rfl, Below.refl _ _⟩
  by_cases h4 : n ≤ main
  · have NO : Hid (mayC n main es wd = false) := Lib.hid (by unfold mayC; simp; omega)
    go_enter Try.func38, Try.ntmps38
    go_wp2_with fail
    go_ret
    exact ⟨by rw [NO.out]; rfl, Below.refl _ _⟩
  by_cases h5 : (16384 : Int) < (N : Int)
  · have NO : Hid (mayC n main es wd = false) := Lib.hid (by unfold mayC; rw [HN.out]; simp; omega)
    go_enter Try.func38, Try.ntmps38
    go_wp2_with fail
    go_ret
    exact ⟨by rw [NO.out]; rfl, Below.refl _ _⟩
  by_cases h6 : wd < 1
  · have NO : Hid (mayC n main es wd = false) := Lib.hid (by unfold mayC; simp; omega)
    go_enter Try.func38, Try.ntmps38
    go_wp2_with fail
    go_ret
    exact ⟨by rw [NO.out]; rfl, Below.refl _ _⟩
  by_cases h7 : 62 < wd
  · have NO : Hid (mayC n main es wd = false) := Lib.hid (by unfold mayC; simp; omega)
    go_enter Try.func38, Try.ntmps38
    go_wp2_with fail
    go_ret
    exact ⟨by rw [NO.out]; rfl, Below.refl _ _⟩
  obtain ⟨k, rfl⟩ : ∃ k : Nat, n = (k : Int) := ⟨n.toNat, by omega⟩
  obtain ⟨mn, rfl⟩ : ∃ mn : Nat, main = (mn : Int) := ⟨main.toNat, by omega⟩
  have HK : Hid (1 ≤ k ∧ k ≤ 1024 ∧ mn < k ∧ N ≤ 16384 ∧ 1 ≤ wd ∧ wd ≤ 62) := Lib.hid (by omega)
  have t1 : decide (k < 1) = false := decide_eq_false (by omega)
  have t2 : decide (1024 < k) = false := decide_eq_false (by omega)
  have t4 : decide (k ≤ mn) = false := decide_eq_false (by omega)
  go_enter Try.func38, Try.ntmps38
  go_wp2_with fail
  go_loopg [41] N (fun m x wr => ∃ i : Nat, m + i = N ∧ x = .int .i64 (i : Int) ∧ edsC (k : Int) es i = true ∧ Below w.heap.size w wr)
  case atStart => exact ⟨0, rfl, rfl, rfl, Below.refl _ _⟩
  case round =>
    obtain ⟨i, hm2, rfl, hall, hb⟩ := hrel
    have HM := Lib.hid hm2; have HALL := Lib.hid hall; have HB := Lib.hid hb
    clear hm2 hall hb
    by_cases hi : i < N
    · obtain ⟨x, hx⟩ : ∃ x, es[i]? = some x := ⟨_, List.getElem?_eq_getElem (by rw [HN.out]; exact hi)⟩
      obtain ⟨b, off, hea, hbl, k0, k1, k2⟩ := (HC.out.below HB.out).key hx
      subst hea
      obtain ⟨x0, x1, x2⟩ := x
      have HX := Lib.hid hx
      clear hx
      simp only at k0 k1 k2
      have HBD : Hid (edC (k : Int) es i (x0, x1, x2) = false → mayC (k : Int) (mn : Int) es wd = false) := Lib.hid (mayC_no HX.out)
      have HED : Hid (edC (k : Int) es i (x0, x1, x2) = (decide (0 ≤ x0) && decide (x0 < (k : Int)) && decide (0 ≤ x2) && decide (x2 < (k : Int)) && decide (0 ≤ x1) && decide (x1 ≤ 1048576) && (i == 0 || aheadB (es.getD (i - 1) (0, 0, 0)) (x0, x1, x2)))) := Lib.hid rfl
      have HB1 := Lib.hid (HB.out.alloc HB.out.size (.cells #[.int .i64 x0, .int .i64 x1, .int .i64 x2] 50))
      obtain ⟨mn3, hmn⟩ : ∃ z, (if x1 < if x2 < x0 then x2 else x0 then x1 else if x2 < x0 then x2 else x0) = z := ⟨_, rfl⟩
      obtain ⟨mx, hmx⟩ : ∃ z, max x0 x2 = z := ⟨_, rfl⟩
      have hmn0 : mn3 < 0 ↔ x0 < 0 ∨ x2 < 0 ∨ x1 < 0 := by rw [← hmn]; split <;> split <;> omega
      have hmx0 : (k : Int) ≤ mx ↔ (k : Int) ≤ x0 ∨ (k : Int) ≤ x2 := by rw [← hmx]; omega
      have HMN := Lib.hid hmn0; have HMX := Lib.hid hmx0
      clear hmn0 hmx0
      by_cases hA : mn3 < 0
      · have NO : Hid (mayC (k : Int) (mn : Int) es wd = false) := Lib.hid (HBD.out (by rw [HED.out]; have := HMN.out.1 hA; simp; omega))
        have dA : decide (mn3 < 0) = true := decide_eq_true hA
        clear hA
        go_wp2_with fail
        go_quiet (fail)
        go_wp2_with fail
        go_ret
        exact ⟨by rw [NO.out]; rfl, HB1.out.trans ((drew_below _ _).mono HB1.out.size)⟩
      have dA : decide (mn3 < 0) = false := decide_eq_false hA
      by_cases hB : (k : Int) ≤ mx
      · have NO : Hid (mayC (k : Int) (mn : Int) es wd = false) := Lib.hid (HBD.out (by rw [HED.out]; have := HMX.out.1 hB; simp; omega))
        have dB : decide ((k : Int) ≤ mx) = true := decide_eq_true hB
        clear hA hB
        go_wp2_with fail
        go_quiet (fail)
        go_wp2_with fail
        go_ret
        exact ⟨by rw [NO.out]; rfl, HB1.out.trans ((drew_below _ _).mono HB1.out.size)⟩
      have dB : decide ((k : Int) ≤ mx) = false := decide_eq_false hB
      by_cases hC : 1048576 < x1
      · have NO : Hid (mayC (k : Int) (mn : Int) es wd = false) := Lib.hid (HBD.out (by rw [HED.out]; simp; omega))
        have dC : decide (1048576 < x1) = true := decide_eq_true hC
        clear hA hB hC
        go_wp2_with fail
        go_quiet (fail)
        go_wp2_with fail
        go_ret
        exact ⟨by rw [NO.out]; rfl, HB1.out.trans ((drew_below _ _).mono HB1.out.size)⟩
      have dC : decide (1048576 < x1) = false := decide_eq_false hC
      have HIN : Hid ((decide (0 ≤ x0) && decide (x0 < (k : Int)) && decide (0 ≤ x2) && decide (x2 < (k : Int)) && decide (0 ≤ x1) && decide (x1 ≤ 1048576)) = true) := Lib.hid (by
        have h1 := fun h => hA (HMN.out.2 h)
        have h2 := fun h => hB (HMX.out.2 h)
        simp; omega)
      rw [HIN.out, Bool.true_and] at HED
      clear hA hB hC
      by_cases h0 : i = 0
      · have HALL2 : Hid (edsC (k : Int) es (i + 1) = true) := Lib.hid (by rw [edsC_next HX.out, HALL.out, HED.out, h0]; rfl)
        have d0 : decide (0 < i) = false := decide_eq_false (by omega)
        clear h0
        go_wp2_with fail
        go_quiet (fail)
        go_wp2_with fail
        go_roundg (N - (i + 1))
        case measure => have := HM.out; omega
        case rel => exact ⟨i + 1, by have := HM.out; omega, by go_num, HALL2.out, HB1.out.trans ((drew_below _ _).mono HB1.out.size)⟩
      · obtain ⟨j, hj⟩ : ∃ j, j + 1 = i := ⟨i - 1, by omega⟩
        obtain ⟨y, hy⟩ : ∃ y, es[j]? = some y := ⟨_, List.getElem?_eq_getElem (by rw [HN.out]; omega)⟩
        obtain ⟨b2, off2, hea2, _, q0, q1, q2⟩ := (HC.out.below HB.out).key hy
        injection hea2 with hea2
        injection hea2 with e1 e2 _
        subst e1 e2
        have hgd : es.getD (i - 1) (0, 0, 0) = y := by
          rw [show i - 1 = j from by omega, List.getD_eq_getElem?_getD, hy]; rfl
        rw [hgd] at HED
        have hjN : j < N := by omega
        have eij : (i : Int) - 1 = (j : Int) := by omega
        have HJ := Lib.hid hj
        have ewj : IntKind.i64.wrap (j : Int) = (j : Int) := wrap_nat (by have := HK.out; omega)
        obtain ⟨y0, y1, y2⟩ := y
        simp only at q0 q1 q2
        obtain ⟨w1, hw1⟩ : ∃ w1, w1 = wr.alloc (.cells #[.int .i64 x0, .int .i64 x1, .int .i64 x2] 50) := ⟨_, rfl⟩
        have hb1 : Below wr.heap.size wr w1 := by rw [hw1]; exact (Below.refl _ _).alloc (Nat.le_refl _) _
        have kx : Blk w1 wr.heap.size 50 #[.int .i64 x0, .int .i64 x1, .int .i64 x2] := by rw [hw1]; exact Blk.new_ _ _ _
        obtain ⟨gx, hgx⟩ : ∃ gx, gx = wr.heap.size := ⟨_, rfl⟩
        rw [← hgx] at kx
        have p0 : w1.cell? ⟨gx, 0, none⟩ = some (.int .i64 x0) := kx.cell 0
        have p1 : w1.cell? ⟨gx, 1, none⟩ = some (.int .i64 x1) := kx.cell 1
        have p2 : w1.cell? ⟨gx, 2, none⟩ = some (.int .i64 x2) := kx.cell 2
        replace q0 := (hb1.cell (p := ⟨b, off + j * 3, none⟩) hbl).trans q0
        replace q1 := (hb1.cell (p := ⟨b, off + j * 3 + 1, none⟩) hbl).trans q1
        replace q2 := (hb1.cell (p := ⟨b, off + j * 3 + 2, none⟩) hbl).trans q2
        rw [← hw1] at HB1
        have HW1 := Lib.hid hw1; have HGX := Lib.hid hgx
        have d0 : decide (0 < i) = true := decide_eq_true (by omega)
        have HO := Lib.hid (order_ok w1.drew (y0, y1, y2) (x0, x1, x2))
        unfold edgeV at HO
        simp only at HO
        clear hgd hj hy h0 hb1 kx hw1 hgx
        go_upto_region 6 with (fail)
        rw [← HW1.out]
        try rw [← HGX.out]
        go_still_tail 32, (by kernel_rfl)
        change wpList _ _ _ _ _ w1.drew
        obtain ⟨R, hR⟩ : ∃ R, ordZ (y0, y1, y2) (x0, x1, x2) = R := ⟨_, rfl⟩
        rw [hR] at HO
        have HED2 : Hid (edC (k : Int) es i (x0, x1, x2) = decide (R < 0)) := Lib.hid (by
          rw [HED.out, show (i == 0) = false from beq_eq_false_iff_ne.2 (by have := HJ.out; omega), Bool.false_or]
          unfold aheadB
          rw [hR])
        have HB2 : Hid (Below w.heap.size w w1.drew) := Lib.hid (HB1.out.trans ((drew_below w1 1).mono HB1.out.size))
        obtain ⟨w2, hw2⟩ : ∃ w2, w2 = w1.drew := ⟨_, rfl⟩
        rw [← hw2] at HB2 HO ⊢
        clear hR hw2 p0 p1 p2 q0 q1 q2 HED
        go_wp2_with fail
        refine HO.out.mono ?_
        rintro e w3 ⟨rfl, hb3⟩
        have HB3 := Lib.hid (HB2.out.trans (hb3.mono HB2.out.size))
        clear hb3 HB2 HO
        by_cases hR0 : 0 ≤ R
        · have NO : Hid (mayC (k : Int) (mn : Int) es wd = false) := Lib.hid (HBD.out (by rw [HED2.out]; exact decide_eq_false (by omega)))
          go_wp2_with fail
          go_ret
          exact ⟨by rw [NO.out]; rfl, HB3.out⟩
        · have HALL2 : Hid (edsC (k : Int) es (i + 1) = true) := Lib.hid (by rw [edsC_next HX.out, HALL.out, HED2.out]; exact decide_eq_true (by omega))
          go_wp2_with fail
          go_roundg (N - (i + 1))
          case measure => have := HM.out; omega
          case rel => exact ⟨i + 1, by have := HM.out; omega, by go_num, HALL2.out, HB3.out⟩
    · have hiN : i = N := by have := HM.out; omega
      have YES : Hid (mayC (k : Int) (mn : Int) es wd = true) := Lib.hid (by
        have h := HALL.out
        rw [hiN, ← HN.out] at h
        unfold mayC
        rw [h, HN.out]
        have := HK.out
        simp; omega)
      go_wp2_with fail
      go_ret
      exact ⟨by rw [YES.out]; rfl, HB.out⟩
end Go.Proofs.Ytbancojknahdgaa
namespace Go.Proofs.Ytbancojknahdgaa
open Go.RowKit CP
theorem cmpI_zero (x y : Int) : Lib.compareInt x y = 0 ↔ x = y := by unfold Lib.compareInt; split <;> (try split) <;> omega
theorem cmpI_neg (x y : Int) : Lib.compareInt x y < 0 ↔ x < y := by unfold Lib.compareInt; split <;> (try split) <;> omega
theorem ahead_lex (a0 a1 a2 b0 b1 b2 : Int) : aheadB (a0, a1, a2) (b0, b1, b2) = if a0 = b0 then (if a1 = b1 then decide (a2 < b2) else decide (a1 < b1)) else decide (a0 < b0) := by
  have e : ordZ (a0, a1, a2) (b0, b1, b2) = if Lib.compareInt a0 b0 = 0 then (if Lib.compareInt a1 b1 = 0 then (if Lib.compareInt a2 b2 = 0 then 0 else Lib.compareInt a2 b2) else Lib.compareInt a1 b1) else Lib.compareInt a0 b0 := rfl
  unfold aheadB
  rw [e]
  have g0 := cmpI_zero a0 b0
  have g1 := cmpI_zero a1 b1
  have g2 := cmpI_zero a2 b2
  have n0 := cmpI_neg a0 b0
  have n1 := cmpI_neg a1 b1
  have n2 := cmpI_neg a2 b2
  by_cases h0 : a0 = b0
  · rw [if_pos (g0.2 h0), if_pos h0]
    by_cases h1 : a1 = b1
    · rw [if_pos (g1.2 h1), if_pos h1]
      by_cases h2 : Lib.compareInt a2 b2 = 0
      · rw [if_pos h2]
        have := g2.1 h2
        exact (decide_eq_false (by omega)).trans (decide_eq_false (by omega)).symm
      · rw [if_neg h2]; exact decide_eq_decide.2 n2
    · rw [if_neg (fun h => h1 (g1.1 h)), if_neg h1]; exact decide_eq_decide.2 n1
  · rw [if_neg (fun h => h0 (g0.1 h)), if_neg h0]; exact decide_eq_decide.2 n0
set_option maxRecDepth 100000 in
set_option maxHeartbeats 1600000 in
theorem ahead_ok (w : World) (a b : Int × Int × Int) : Calls Try.prog 61 #[edgeV a, edgeV b] w fun e w' => e = .returned (.bool (aheadB a b)) ∧ Below w.heap.size w w' := by
  obtain ⟨a0, a1, a2⟩ := a
  obtain ⟨b0, b1, b2⟩ := b
  have HB : Hid (∀ o1 o2, Below w.heap.size w ((w.alloc o1).alloc o2)) := Lib.hid (fun o1 o2 => ((Below.refl _ _).alloc (Nat.le_refl _) _).alloc (by simp) _)
  unfold edgeV
  simp only
  by_cases h0 : a0 = b0
  · subst h0
    by_cases h1 : a1 = b1
    · subst h1
      have HE : Hid (aheadB (a0, a1, a2) (a0, a1, b2) = decide (a2 < b2)) := Lib.hid (by rw [ahead_lex, if_pos rfl, if_pos rfl])
      go_enter Try.func61, Try.ntmps61
      go_wp2_with fail
      go_ret
      exact ⟨by rw [HE.out]; rfl, HB.out _ _⟩
    · have d1 : (a1 != b1) = true := by simpa using h1
      have HE : Hid (aheadB (a0, a1, a2) (a0, b1, b2) = decide (a1 < b1)) := Lib.hid (by rw [ahead_lex, if_pos rfl, if_neg h1])
      clear h1
      go_enter Try.func61, Try.ntmps61
      go_wp2_with fail
      go_ret
      exact ⟨by rw [HE.out]; rfl, HB.out _ _⟩
  · have d0 : (a0 != b0) = true := by simpa using h0
    have HE : Hid (aheadB (a0, a1, a2) (b0, b1, b2) = decide (a0 < b0)) := Lib.hid (by rw [ahead_lex, if_neg h0])
    clear h0
    go_enter Try.func61, Try.ntmps61
    go_wp2_with fail
    go_ret
    exact ⟨by rw [HE.out]; rfl, HB.out _ _⟩
set_option maxRecDepth 100000 in
set_option maxHeartbeats 12800000 in
theorem rcmay_ok (w : World) (n main : Int) (ea : Option Addr) (es : List (Int × Int × Int)) (c : Nat) (wd : Int) (_hm : es.length ≤ maxLen) (hc : Cells w ea (es.flatMap keyCells)) :
    Calls Try.prog 42 #[.int .i64 n, .int .i64 main, .slice ea es.length c, .int .i64 wd] w fun e w' => e = .returned (.bool (mayC n main es wd)) ∧ Below w.heap.size w w' := by
  obtain ⟨N, hN⟩ : ∃ N, es.length = N := ⟨_, rfl⟩
  have HN := Lib.hid hN; have HC := Lib.hid hc
  rw [hN] at _hm ⊢
  clear hN hc
  by_cases h1 : n < 1
  · have NO : Hid (mayC n main es wd = false) := Lib.hid (by unfold mayC; simp; omega)
    go_enter Try.func42, Try.ntmps42
    go_wp2_with fail
    go_ret
    exact ⟨by rw [NO.out]; rfl, Below.refl _ _⟩
  by_cases h2 : 1024 < n
  · have NO : Hid (mayC n main es wd = false) := Lib.hid (by unfold mayC; simp; omega)
    go_enter Try.func42, Try.ntmps42
    go_wp2_with fail
    go_ret
    exact ⟨by rw [NO.out]; rfl, Below.refl _ _⟩
  by_cases h3 : main < 0
  · have NO : Hid (mayC n main es wd = false) := Lib.hid (by unfold mayC; simp; omega)
    go_enter Try.func42, Try.ntmps42
    go_wp2_with fail
    go_ret
    exact ⟨by rw [NO.out]; rfl, Below.refl _ _⟩
  by_cases h4 : n ≤ main
  · have NO : Hid (mayC n main es wd = false) := Lib.hid (by unfold mayC; simp; omega)
    go_enter Try.func42, Try.ntmps42
    go_wp2_with fail
    go_ret
    exact ⟨by rw [NO.out]; rfl, Below.refl _ _⟩
  by_cases h5 : (16384 : Int) < (N : Int)
  · have NO : Hid (mayC n main es wd = false) := Lib.hid (by unfold mayC; rw [HN.out]; simp; omega)
    go_enter Try.func42, Try.ntmps42
    go_wp2_with fail
    go_ret
    exact ⟨by rw [NO.out]; rfl, Below.refl _ _⟩
  by_cases h6 : wd < 1
  · have NO : Hid (mayC n main es wd = false) := Lib.hid (by unfold mayC; simp; omega)
    go_enter Try.func42, Try.ntmps42
    go_wp2_with fail
    go_ret
    exact ⟨by rw [NO.out]; rfl, Below.refl _ _⟩
  by_cases h7 : 62 < wd
  · have NO : Hid (mayC n main es wd = false) := Lib.hid (by unfold mayC; simp; omega)
    go_enter Try.func42, Try.ntmps42
    go_wp2_with fail
    go_ret
    exact ⟨by rw [NO.out]; rfl, Below.refl _ _⟩
  obtain ⟨k, rfl⟩ : ∃ k : Nat, n = (k : Int) := ⟨n.toNat, by omega⟩
  obtain ⟨mn, rfl⟩ : ∃ mn : Nat, main = (mn : Int) := ⟨main.toNat, by omega⟩
  have HK : Hid (1 ≤ k ∧ k ≤ 1024 ∧ mn < k ∧ N ≤ 16384 ∧ 1 ≤ wd ∧ wd ≤ 62) := Lib.hid (by omega)
  have t1 : decide (k < 1) = false := decide_eq_false (by omega)
  have t2 : decide (1024 < k) = false := decide_eq_false (by omega)
  have t4 : decide (k ≤ mn) = false := decide_eq_false (by omega)
  go_enter Try.func42, Try.ntmps42
  go_wp2_with fail
  go_loopg [9] N (fun m x wr => ∃ i : Nat, m + i = N ∧ x = .int .i64 (i : Int) ∧ edsC (k : Int) es i = true ∧ Below w.heap.size w wr)
  case atStart => exact ⟨0, rfl, rfl, rfl, Below.refl _ _⟩
  case round =>
    obtain ⟨i, hm2, rfl, hall, hb⟩ := hrel
    have HM := Lib.hid hm2; have HALL := Lib.hid hall; have HB := Lib.hid hb
    clear hm2 hall hb
    by_cases hi : i < N
    · obtain ⟨x, hx⟩ : ∃ x, es[i]? = some x := ⟨_, List.getElem?_eq_getElem (by rw [HN.out]; exact hi)⟩
      obtain ⟨b, off, hea, hbl, k0, k1, k2⟩ := (HC.out.below HB.out).key hx
      subst hea
      obtain ⟨x0, x1, x2⟩ := x
      have HX := Lib.hid hx
      clear hx
      simp only at k0 k1 k2
      have HBD : Hid (edC (k : Int) es i (x0, x1, x2) = false → mayC (k : Int) (mn : Int) es wd = false) := Lib.hid (mayC_no HX.out)
      have HED : Hid (edC (k : Int) es i (x0, x1, x2) = (decide (0 ≤ x0) && decide (x0 < (k : Int)) && decide (0 ≤ x2) && decide (x2 < (k : Int)) && decide (0 ≤ x1) && decide (x1 ≤ 1048576) && (i == 0 || aheadB (es.getD (i - 1) (0, 0, 0)) (x0, x1, x2)))) := Lib.hid rfl
      have HB1 := Lib.hid (HB.out.alloc HB.out.size (.cells #[.int .i64 x0, .int .i64 x1, .int .i64 x2] 50))
      by_cases hA0 : x0 < 0
      · have NO : Hid (mayC (k : Int) (mn : Int) es wd = false) := Lib.hid (HBD.out (by rw [HED.out]; simp; omega))
        have dA0 : decide (x0 < 0) = true := decide_eq_true hA0
        clear hA0
        go_wp2_with fail
        go_quiet (fail)
        go_wp2_with fail
        go_ret
        exact ⟨by rw [NO.out]; rfl, HB1.out.trans ((drew_below _ _).mono HB1.out.size)⟩
      have dA0 : decide (x0 < 0) = false := decide_eq_false hA0
      by_cases hA1 : (k : Int) ≤ x0
      · have NO : Hid (mayC (k : Int) (mn : Int) es wd = false) := Lib.hid (HBD.out (by rw [HED.out]; simp; omega))
        have dA1 : decide ((k : Int) ≤ x0) = true := decide_eq_true hA1
        clear hA0 hA1
        go_wp2_with fail
        go_quiet (fail)
        go_wp2_with fail
        go_ret
        exact ⟨by rw [NO.out]; rfl, HB1.out.trans ((drew_below _ _).mono HB1.out.size)⟩
      have dA1 : decide ((k : Int) ≤ x0) = false := decide_eq_false hA1
      by_cases hA2 : x2 < 0
      · have NO : Hid (mayC (k : Int) (mn : Int) es wd = false) := Lib.hid (HBD.out (by rw [HED.out]; simp; omega))
        have dA2 : decide (x2 < 0) = true := decide_eq_true hA2
        clear hA0 hA1 hA2
        go_wp2_with fail
        go_quiet (fail)
        go_wp2_with fail
        go_ret
        exact ⟨by rw [NO.out]; rfl, HB1.out.trans ((drew_below _ _).mono HB1.out.size)⟩
      have dA2 : decide (x2 < 0) = false := decide_eq_false hA2
      by_cases hA3 : (k : Int) ≤ x2
      · have NO : Hid (mayC (k : Int) (mn : Int) es wd = false) := Lib.hid (HBD.out (by rw [HED.out]; simp; omega))
        have dA3 : decide ((k : Int) ≤ x2) = true := decide_eq_true hA3
        clear hA0 hA1 hA2 hA3
        go_wp2_with fail
        go_quiet (fail)
        go_wp2_with fail
        go_ret
        exact ⟨by rw [NO.out]; rfl, HB1.out.trans ((drew_below _ _).mono HB1.out.size)⟩
      have dA3 : decide ((k : Int) ≤ x2) = false := decide_eq_false hA3
      by_cases hA4 : x1 < 0
      · have NO : Hid (mayC (k : Int) (mn : Int) es wd = false) := Lib.hid (HBD.out (by rw [HED.out]; simp; omega))
        have dA4 : decide (x1 < 0) = true := decide_eq_true hA4
        clear hA0 hA1 hA2 hA3 hA4
        go_wp2_with fail
        go_quiet (fail)
        go_wp2_with fail
        go_ret
        exact ⟨by rw [NO.out]; rfl, HB1.out.trans ((drew_below _ _).mono HB1.out.size)⟩
      have dA4 : decide (x1 < 0) = false := decide_eq_false hA4
      by_cases hA5 : 1048576 < x1
      · have NO : Hid (mayC (k : Int) (mn : Int) es wd = false) := Lib.hid (HBD.out (by rw [HED.out]; simp; omega))
        have dA5 : decide (1048576 < x1) = true := decide_eq_true hA5
        clear hA0 hA1 hA2 hA3 hA4 hA5
        go_wp2_with fail
        go_quiet (fail)
        go_wp2_with fail
        go_ret
        exact ⟨by rw [NO.out]; rfl, HB1.out.trans ((drew_below _ _).mono HB1.out.size)⟩
      have dA5 : decide (1048576 < x1) = false := decide_eq_false hA5
      have HIN : Hid ((decide (0 ≤ x0) && decide (x0 < (k : Int)) && decide (0 ≤ x2) && decide (x2 < (k : Int)) && decide (0 ≤ x1) && decide (x1 ≤ 1048576)) = true) := Lib.hid (by simp; omega)
      rw [HIN.out, Bool.true_and] at HED
      clear hA0 hA1 hA2 hA3 hA4 hA5
      by_cases h0 : i = 0
      · have HALL2 : Hid (edsC (k : Int) es (i + 1) = true) := Lib.hid (by rw [edsC_next HX.out, HALL.out, HED.out, h0]; rfl)
        have d0 : decide (0 < i) = false := decide_eq_false (by omega)
        clear h0
        go_wp2_with fail
        go_quiet (fail)
        go_wp2_with fail
        go_roundg (N - (i + 1))
        case measure => have := HM.out; omega
        case rel => exact ⟨i + 1, by have := HM.out; omega, by go_num, HALL2.out, HB1.out.trans ((drew_below _ _).mono HB1.out.size)⟩
      · obtain ⟨j, hj⟩ : ∃ j, j + 1 = i := ⟨i - 1, by omega⟩
        obtain ⟨y, hy⟩ : ∃ y, es[j]? = some y := ⟨_, List.getElem?_eq_getElem (by rw [HN.out]; omega)⟩
        obtain ⟨b2, off2, hea2, _, q0, q1, q2⟩ := (HC.out.below HB.out).key hy
        injection hea2 with hea2
        injection hea2 with e1 e2 _
        subst e1 e2
        have hgd : es.getD (i - 1) (0, 0, 0) = y := by
          rw [show i - 1 = j from by omega, List.getD_eq_getElem?_getD, hy]; rfl
        rw [hgd] at HED
        have hjN : j < N := by omega
        have eij : (i : Int) - 1 = (j : Int) := by omega
        have HJ := Lib.hid hj
        have ewj : IntKind.i64.wrap (j : Int) = (j : Int) := wrap_nat (by have := HK.out; omega)
        obtain ⟨y0, y1, y2⟩ := y
        simp only at q0 q1 q2
        obtain ⟨w1, hw1⟩ : ∃ w1, w1 = wr.alloc (.cells #[.int .i64 x0, .int .i64 x1, .int .i64 x2] 50) := ⟨_, rfl⟩
        have hb1 : Below wr.heap.size wr w1 := by rw [hw1]; exact (Below.refl _ _).alloc (Nat.le_refl _) _
        have kx : Blk w1 wr.heap.size 50 #[.int .i64 x0, .int .i64 x1, .int .i64 x2] := by rw [hw1]; exact Blk.new_ _ _ _
        obtain ⟨gx, hgx⟩ : ∃ gx, gx = wr.heap.size := ⟨_, rfl⟩
        rw [← hgx] at kx
        have p0 : w1.cell? ⟨gx, 0, none⟩ = some (.int .i64 x0) := kx.cell 0
        have p1 : w1.cell? ⟨gx, 1, none⟩ = some (.int .i64 x1) := kx.cell 1
        have p2 : w1.cell? ⟨gx, 2, none⟩ = some (.int .i64 x2) := kx.cell 2
        replace q0 := (hb1.cell (p := ⟨b, off + j * 3, none⟩) hbl).trans q0
        replace q1 := (hb1.cell (p := ⟨b, off + j * 3 + 1, none⟩) hbl).trans q1
        replace q2 := (hb1.cell (p := ⟨b, off + j * 3 + 2, none⟩) hbl).trans q2
        rw [← hw1] at HB1
        have HW1 := Lib.hid hw1; have HGX := Lib.hid hgx
        have d0 : decide (0 < i) = true := decide_eq_true (by omega)
        have HO := Lib.hid (ahead_ok w1.drew (y0, y1, y2) (x0, x1, x2))
        unfold edgeV at HO
        simp only at HO
        clear hgd hj hy h0 hb1 kx hw1 hgx
        go_upto_region 7 with (fail)
        rw [← HW1.out]
        try rw [← HGX.out]
        go_still_tail 40, (by kernel_rfl)
        change wpList _ _ _ _ _ w1.drew
        obtain ⟨R, hR⟩ : ∃ R, aheadB (y0, y1, y2) (x0, x1, x2) = R := ⟨_, rfl⟩
        rw [hR] at HO
        have HED2 : Hid (edC (k : Int) es i (x0, x1, x2) = R) := Lib.hid (by
          rw [HED.out, show (i == 0) = false from beq_eq_false_iff_ne.2 (by have := HJ.out; omega), Bool.false_or, hR])
        have HB2 : Hid (Below w.heap.size w w1.drew) := Lib.hid (HB1.out.trans ((drew_below w1 1).mono HB1.out.size))
        obtain ⟨w2, hw2⟩ : ∃ w2, w2 = w1.drew := ⟨_, rfl⟩
        rw [← hw2] at HB2 HO ⊢
        clear hR hw2 p0 p1 p2 q0 q1 q2 HED
        go_wp2_with fail
        refine HO.out.mono ?_
        rintro e w3 ⟨rfl, hb3⟩
        have HB3 := Lib.hid (HB2.out.trans (hb3.mono HB2.out.size))
        clear hb3 HB2 HO
        cases R with
        | false =>
          have NO : Hid (mayC (k : Int) (mn : Int) es wd = false) := Lib.hid (HBD.out HED2.out)
          go_wp2_with fail
          go_ret
          exact ⟨by rw [NO.out]; rfl, HB3.out⟩
        | true =>
          have HALL2 : Hid (edsC (k : Int) es (i + 1) = true) := Lib.hid (by rw [edsC_next HX.out, HALL.out, HED2.out]; rfl)
          go_wp2_with fail
          go_roundg (N - (i + 1))
          case measure => have := HM.out; omega
          case rel => exact ⟨i + 1, by have := HM.out; omega, by go_num, HALL2.out, HB3.out⟩
    · have hiN : i = N := by have := HM.out; omega
      have YES : Hid (mayC (k : Int) (mn : Int) es wd = true) := Lib.hid (by
        have h := HALL.out
        rw [hiN, ← HN.out] at h
        unfold mayC
        rw [h, HN.out]
        have := HK.out
        simp; omega)
      go_wp2_with fail
      go_ret
      exact ⟨by rw [YES.out]; rfl, HB.out⟩
/-- the ends of edges -/
def pairsZ (es : List (Int × Int × Int)) : List (Int × Int) := es.map fun e => (e.1, e.2.2)
theorem pairsZ_len (es : List (Int × Int × Int)) : (pairsZ es).length = es.length := by unfold pairsZ; simp
theorem pairsZ_next {es : List (Int × Int × Int)} {i : Nat} {x : Int × Int × Int} (h : es[i]? = some x) : pairsZ (es.take (i + 1)) = pairsZ (es.take i) ++ [(x.1, x.2.2)] := by
  unfold pairsZ
  rw [List.take_add_one, h]; simp
set_option maxRecDepth 100000 in
set_option maxHeartbeats 3200000 in
theorem pairs_ok (w : World) (ea : Option Addr) (es : List (Int × Int × Int)) (c : Nat) (hm : es.length ≤ 16384) (hc : Cells w ea (es.flatMap keyCells)) :
    Calls Try.prog 43 #[.slice ea es.length c] w fun e w' => Below w.heap.size w w' ∧ ∃ y, e = .returned y ∧ w'.ownsRow w.heap.size 64 2 y es.length ((pairsZ es).flatMap pairCells) := by
  obtain ⟨N, hN⟩ : ∃ N, es.length = N := ⟨_, rfl⟩
  have HN := Lib.hid hN; have HC := Lib.hid hc
  rw [hN] at hm ⊢
  clear hN hc
  obtain ⟨j0, hj0, yz0, yz1, yz2⟩ := info_parts pair_info
  go_enter Try.func43, Try.ntmps43
  go_wp2_with fail
  go_loopg [3, 4] N (fun m y x wr => ∃ i : Nat, m + i = N ∧ x = .int .i64 (i : Int) ∧ Below w.heap.size w wr ∧ wr.ownsRow w.heap.size 64 2 y i ((pairsZ (es.take i)).flatMap pairCells))
  case atStart => exact ⟨0, rfl, rfl, Below.refl _ _, World.ownsRow_nil _ _ _ _⟩
  case round =>
    obtain ⟨i, hm2, rfl, hb, hrow⟩ := hrel
    have HM := Lib.hid hm2; have HB := Lib.hid hb; have HROW := Lib.hid hrow
    clear hm2 hb hrow
    by_cases hi : i < N
    · obtain ⟨x, hx⟩ : ∃ x, es[i]? = some x := ⟨_, List.getElem?_eq_getElem (by rw [HN.out]; exact hi)⟩
      obtain ⟨b, off, hla, hbl, k0, k1, k2⟩ := (HC.out.below HB.out).key hx
      subst hla
      have HNX := Lib.hid (pairsZ_next hx)
      obtain ⟨x0, x1, x2⟩ := x
      simp only at k0 k1 k2
      clear hx k1
      have hws : w.heap.size ≤ wr.heap.size := HB.out.size
      go_upto_region 5 with (fail)
      go_region_law (refine step_append_sep rfl (.tmp 11) (.tmp 23) 54 rfl w.heap.size 64 j0 (.agg #[.int .i64 0, .int .i64 0]) 2 16 Try.underlying54 hj0 yz0 yz1 yz2 rfl (by decide) u3 i _ (by simp [Act.eval]) (World.ownsRow.alloc (w := wr.drew) HROW.out _) ⟨wr.heap.size, 0, none⟩ 1 1 [.int .i64 x0, .int .i64 x2] (by simp [Act.eval]) rfl (pair_lits wr _ _ _) (pair_ones _ _) (by unfold maxLen; omega) (by omega) (by simp; omega) ?_; intro v2 w2 hown2 hg2 hs2; have H2 := Lib.hid (And.intro hown2 hg2); clear hown2 hg2 hs2)
      all_goals
        have HB7 : Hid (Below w.heap.size w w2) := Lib.hid (((HB.out.drew.alloc hws (.cells #[.int .i64 x0, .int .i64 x2] 64))).grown H2.out.2 (Nat.le_trans hws (Nat.le_of_lt (by simp))) (fun j hj => (HROW.out.lt j hj).1))
        have HR7 : Hid (w2.ownsRow w.heap.size 64 2 v2 (i + 1) ((pairsZ (es.take (i + 1))).flatMap pairCells)) := Lib.hid (by rw [HNX.out, ← pairs_snoc]; exact H2.out.1)
        clear H2 HROW HB
        go_wp2_with fail
        go_roundg (N - (i + 1))
        case measure => have := HM.out; omega
        case rel => exact ⟨i + 1, by have := HM.out; omega, by go_num, HB7.out, HR7.out⟩
    · have hiN : i = N := by have := HM.out; omega
      have hrow2 := HROW.out
      rw [hiN, ← HN.out, List.take_length, HN.out] at hrow2
      have HR := Lib.hid hrow2
      clear hrow2 hiN
      go_wp2_with fail
      go_ret
      exact ⟨HB.out, _, rfl, HR.out⟩
end Go.Proofs.Ytbancojknahdgaa
