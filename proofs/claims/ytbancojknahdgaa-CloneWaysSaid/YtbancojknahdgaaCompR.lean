/- osierlaw19.some and in: the laws' helpers. -/
import Derived.Test.YtbancojknahdgaaCompO
namespace Go.Proofs.Ytbancojknahdgaa
open Go.RowKit CP
theorem and_low (x : Int) (j : Nat) (hj : j ≤ 62) : bits .and .i64 x ((2 ^ j - 1 : Nat) : Int) = x % ((2 ^ j : Nat) : Int) := by
  have hp : 0 < 2 ^ j := Nat.two_pow_pos j
  have hle : 2 ^ j ≤ 2 ^ 62 := Nat.pow_le_pow_right (by decide) hj
  have hlt : 2 ^ j - 1 < 2 ^ 64 := by
    have : (2 : Nat) ^ 62 < 2 ^ 64 := by decide
    omega
  show IntKind.i64.wrap ((BitVec.ofInt 64 x &&& BitVec.ofInt 64 ((2 ^ j - 1 : Nat) : Int)).toNat : Int) = _
  rw [BitVec.toNat_and, BitVec.ofInt_natCast, BitVec.toNat_ofNat, Nat.mod_eq_of_lt hlt, Nat.and_two_pow_sub_one_eq_mod, BitVec.toNat_ofInt]
  have e : (((x % ((2 ^ 64 : Nat) : Int)).toNat % 2 ^ j : Nat) : Int) = x % ((2 ^ j : Nat) : Int) := by
    have h0 : 0 ≤ x % ((2 ^ 64 : Nat) : Int) := Int.emod_nonneg _ (by decide)
    rw [Int.natCast_emod, Int.toNat_of_nonneg h0]
    apply Int.emod_emod_of_dvd
    have : (2 : Nat) ^ j ∣ 2 ^ 64 := Nat.pow_dvd_pow 2 (by omega)
    exact Int.natCast_dvd_natCast.2 this
  rw [e, IntKind.wrap_i64]
  have h1 : 0 ≤ x % ((2 ^ j : Nat) : Int) := Int.emod_nonneg _ (by omega)
  have h2 : x % ((2 ^ j : Nat) : Int) < ((2 ^ j : Nat) : Int) := Int.emod_lt_of_pos _ (by omega)
  have h3 : ((2 ^ j : Nat) : Int) ≤ ((2 ^ 62 : Nat) : Int) := by omega
  have h4 : ((2 ^ 62 : Nat) : Int) = 4611686018427387904 := rfl
  omega
def b8 (a : Int) : Nat := (a % 256).toNat
theorem b8_and (a : Int) : bits .and .i64 a 255 = (b8 a : Int) := by
  have h2 : bits .and .i64 a 255 = a % 256 := and_low a 8 (by decide)
  unfold b8; omega
theorem b8_lt (a : Int) : b8 a < 256 := by unfold b8; omega
def sN (z : Int) : Nat := 1 + b8 z % 30
theorem sN_lt (z : Int) : 1 ≤ sN z ∧ sN z ≤ 30 := by unfold sN; omega
def sP (n : Nat) (e : Int × Int) : Int × Int := (((b8 e.1 % n : Nat) : Int), ((b8 e.2 % n : Nat) : Int))
def sE (n : Nat) (es : List (Int × Int)) : List (Int × Int) := (es.take 100).map (sP n)
theorem sE_len (n : Nat) (es : List (Int × Int)) : (sE n es).length ≤ 100 := by unfold sE; rw [List.length_map, List.length_take]; omega
theorem sE_may (z : Int) (es : List (Int × Int)) : mayG (sN z : Int) (sE (sN z) es) = true := by
  have h := sN_lt z
  have h2 := sE_len (sN z) es
  unfold mayG
  rw [decide_eq_true (by omega), decide_eq_true (by omega), decide_eq_true (by omega), Bool.true_and, Bool.true_and, Bool.true_and]
  rw [List.all_eq_true]
  intro x hx
  unfold sE at hx
  obtain ⟨e, _, rfl⟩ := List.mem_map.1 hx
  have h3 := Nat.mod_lt (b8 e.1) (show 0 < sN z by omega)
  have h4 := Nat.mod_lt (b8 e.2) (show 0 < sN z by omega)
  unfold edZ sP
  simp; omega
def SomePost (w : World) (z : Int) (es : List (Int × Int)) (e : Ending) (w' : World) : Prop :=
  Below w.heap.size w w' ∧ ∃ y, e = .returned (.tuple #[.int .i64 (sN z : Int), y]) ∧ w'.ownsRow w.heap.size 64 2 y (sE (sN z) es).length ((sE (sN z) es).flatMap pairCells)
theorem pair_info : (Try.prog.info? 64).map (fun i => (i.zero, i.size, i.bytes)) = some (some (.agg #[.int .i64 0, .int .i64 0]), 2, 16) := by kernel_rfl
theorem pair_lits (w : World) (a b : Int) (t : TypeId) : ∀ (j : Nat) (u : Value), [Value.int .i64 a, Value.int .i64 b][j]? = some u → (w.drew.alloc (.cells #[.int .i64 a, .int .i64 b] t)).cell? ((⟨w.heap.size, 0, none⟩ : Addr).add j) = some u := by
  intro j u hj
  match j, hj with
  | 0, hj => simp at hj; subst hj; exact World.cell?_alloc_new ..
  | 1, hj => simp at hj; subst hj; exact World.cell?_alloc_new ..
theorem pair_lits0 (w : World) (a b : Int) (t : TypeId) : ∀ (j : Nat) (u : Value), [Value.int .i64 a, Value.int .i64 b][j]? = some u → (w.alloc (.cells #[.int .i64 a, .int .i64 b] t)).cell? ((⟨w.heap.size, 0, none⟩ : Addr).add j) = some u := by
  intro j u hj
  match j, hj with
  | 0, hj => simp at hj; subst hj; exact World.cell?_alloc_new ..
  | 1, hj => simp at hj; subst hj; exact World.cell?_alloc_new ..
theorem pair_ones (a b : Int) : ∀ u ∈ [Value.int .i64 a, Value.int .i64 b], u.oneCell' = true := by intro u hu; simp at hu; rcases hu with rfl | rfl <;> rfl
theorem sE_take {n i : Nat} {es : List (Int × Int)} {x : Int × Int} (h : es[i]? = some x) : (((es.take (i + 1)).map (sP n)).flatMap pairCells) = ((es.take i).map (sP n)).flatMap pairCells ++ [.int .i64 ((b8 x.1 % n : Nat) : Int), .int .i64 ((b8 x.2 % n : Nat) : Int)] := by
  rw [List.take_add_one, h, List.map_append, List.flatMap_append]; rfl
set_option maxRecDepth 100000 in
set_option maxHeartbeats 6400000 in
theorem some_ok (w : World) (z : Int) (ea : Option Addr) (es : List (Int × Int)) (c : Nat) (_hm : es.length ≤ maxLen) (hc : Cells w ea (es.flatMap pairCells)) :
    Calls Try.prog 36 #[.int .i64 z, .slice ea es.length c] w (SomePost w z es) := by
  have HC := Lib.hid hc
  obtain ⟨N, hN⟩ : ∃ N, es.length = N := ⟨_, rfl⟩
  have HN := Lib.hid hN
  rw [hN]
  clear hN hc
  obtain ⟨j0, hj0, yz0, yz1, yz2⟩ := info_parts pair_info
  have hz1 := b8_and z
  have hz2 := b8_lt z
  obtain ⟨Z, hZ⟩ : ∃ Z, b8 z = Z := ⟨_, rfl⟩
  obtain ⟨n, hn⟩ : ∃ n, 1 + Z % 30 = n := ⟨_, rfl⟩
  have HSN : Hid (sN z = n) := Lib.hid (by unfold sN; rw [hZ]; exact hn)
  rw [hZ] at hz1 hz2
  have hn1 : 1 ≤ n := by omega
  have hn2 : n ≤ 30 := by omega
  have hne : (1 : Int) + (Z : Int) % 30 = (n : Int) := by omega
  have hn0 : ¬ n = 0 := by omega
  clear hZ hn
  go_enter Try.func36, Try.ntmps36
  go_wp2_with fail
  go_loopg [7, 8] N (fun m y x wr => ∃ i : Nat, m + i = N ∧ i ≤ 100 ∧ x = .int .i64 (i : Int) ∧ Below w.heap.size w wr ∧ wr.ownsRow w.heap.size 64 2 y i (((es.take i).map (sP n)).flatMap pairCells))
  case atStart => exact ⟨0, rfl, Nat.zero_le _, rfl, Below.refl _ _, World.ownsRow_nil _ _ _ _⟩
  case round =>
    obtain ⟨i, hm2, hi100, rfl, hb, hrow⟩ := hrel
    have HM := Lib.hid hm2; have HB := Lib.hid hb; have HROW := Lib.hid hrow
    have hws : w.heap.size ≤ wr.heap.size := hb.size
    clear hm2 hb hrow
    by_cases hi : i < N
    · by_cases hi2 : i < 100
      · obtain ⟨x, hx⟩ : ∃ x, es[i]? = some x := ⟨_, List.getElem?_eq_getElem (by rw [HN.out]; exact hi)⟩
        obtain ⟨b, off, hea, hbl, k0, k1⟩ := (HC.out.below HB.out).pair hx
        subst hea
        obtain ⟨x0, x1⟩ := x
        have HX := Lib.hid hx
        clear hx
        simp only at k0 k1
        have a0 := b8_and x0; have a1 := b8_and x1
        have HT : Hid (((es.take (i + 1)).map (sP n)).flatMap pairCells = ((es.take i).map (sP n)).flatMap pairCells ++ [.int .i64 ((b8 x0 % n : Nat) : Int), .int .i64 ((b8 x1 % n : Nat) : Int)]) := Lib.hid (sE_take HX.out)
        have l0 := b8_lt x0; have l1 := b8_lt x1
        obtain ⟨X0, hX0⟩ : ∃ X0, b8 x0 = X0 := ⟨_, rfl⟩
        obtain ⟨X1, hX1⟩ : ∃ X1, b8 x1 = X1 := ⟨_, rfl⟩
        rw [hX0] at a0 l0 HT
        rw [hX1] at a1 l1 HT
        clear hX0 hX1
        obtain ⟨r0, hr0⟩ : ∃ r0, X0 % n = r0 := ⟨_, rfl⟩
        obtain ⟨r1, hr1⟩ : ∃ r1, X1 % n = r1 := ⟨_, rfl⟩
        have t0 : (X0 : Int).tmod (n : Int) = (r0 : Int) := by rw [← hr0]; rfl
        have t1 : (X1 : Int).tmod (n : Int) = (r1 : Int) := by rw [← hr1]; rfl
        have m0 : r0 < n := by rw [← hr0]; exact Nat.mod_lt _ (by omega)
        have m1 : r1 < n := by rw [← hr1]; exact Nat.mod_lt _ (by omega)
        rw [hr0, hr1] at HT
        clear hr0 hr1
        go_upto_region 5 with (fail)
        go_region_law (refine step_append_sep rfl (.tmp 23) (.tmp 41) 54 rfl w.heap.size 64 j0 (.agg #[.int .i64 0, .int .i64 0]) 2 16 Try.underlying54 hj0 yz0 yz1 yz2 rfl (by decide) u7 i _ (by simp [Act.eval]) (World.ownsRow.alloc (w := wr.drew) HROW.out _) ⟨wr.heap.size, 0, none⟩ 1 1 [.int .i64 (r0 : Int), .int .i64 (r1 : Int)] (by simp [Act.eval]) rfl (pair_lits wr _ _ _) (pair_ones _ _) (by unfold maxLen; omega) (by omega) (by simp; omega) ?_; intro v2 w2 hown2 hg2 hs2; have H2 := Lib.hid (And.intro hown2 hg2); clear hown2 hg2 hs2)
        all_goals
          have HB2 : Hid (Below w.heap.size w w2) := Lib.hid (((HB.out.drew.alloc hws (.cells #[.int .i64 (r0 : Int), .int .i64 (r1 : Int)] 64))).grown H2.out.2 (Nat.le_trans hws (Nat.le_of_lt (by simp))) (fun j hj => (HROW.out.lt j hj).1))
          have HR2 : Hid (w2.ownsRow w.heap.size 64 2 v2 (i + 1) (((es.take (i + 1)).map (sP n)).flatMap pairCells)) := Lib.hid (by rw [HT.out]; exact H2.out.1)
          clear H2 HROW HB
          go_wp2_with fail
          go_roundg (N - (i + 1))
          case measure => have := HM.out; omega
          case rel => exact ⟨i + 1, by have := HM.out; omega, by omega, by go_num, HB2.out, HR2.out⟩
      · have h100 : i = 100 := by omega
        have HR2 : Hid ((es.take 100).map (sP n) = sE n es) := Lib.hid rfl
        have HLN : Hid ((sE n es).length = i) := Lib.hid (by unfold sE; rw [List.length_map, List.length_take, HN.out]; omega)
        have HROW2 : Hid (wr.ownsRow w.heap.size 64 2 u7 i ((sE n es).flatMap pairCells)) := Lib.hid (by have h := HROW.out; rw [h100] at h ⊢; exact h)
        clear h100 HR2
        obtain ⟨oa, oc, rfl⟩ := own_shape HROW2.out
        go_wp2_with fail
        go_ret2
        refine ⟨HB.out, .slice oa i oc, ?_, ?_⟩
        · rw [HSN.out]; rfl
        · rw [HSN.out, HLN.out]; exact HROW2.out
    · have hiN : i = N := by have := HM.out; omega
      have HLN : Hid ((sE n es).length = i) := Lib.hid (by unfold sE; rw [List.length_map, List.length_take, HN.out]; omega)
      have HROW2 : Hid (wr.ownsRow w.heap.size 64 2 u7 i ((sE n es).flatMap pairCells)) := Lib.hid (by
        have h := HROW.out
        have e : es.take i = es.take 100 := by rw [List.take_of_length_le (by rw [HN.out]; omega), List.take_of_length_le (by rw [HN.out]; omega)]
        rw [e] at h; exact h)
      clear hiN
      obtain ⟨oa, oc, rfl⟩ := own_shape HROW2.out
      go_wp2_with fail
      go_ret2
      refine ⟨HB.out, .slice oa i oc, ?_, ?_⟩
      · rw [HSN.out]; rfl
      · rw [HSN.out, HLN.out]; exact HROW2.out
set_option maxRecDepth 100000 in
theorem in_ok (w : World) (a : Option Addr) (l : List Int) (c : Nat) (z : Int) (hl : l.length ≤ maxLen) (hc : Cells w a (zV l)) :
    Calls Try.prog 37 #[.slice a l.length c, .int .i64 z] w (Tells (decide (z ∈ l)) w) := by
  have HC := Lib.hid hc
  obtain ⟨N, hN⟩ : ∃ N, l.length = N := ⟨_, rfl⟩
  have HN := Lib.hid hN
  rw [hN] at hl ⊢
  clear hc hN
  have hl2 : N ≤ 9223372036854775807 := by unfold maxLen at hl; omega
  go_enter Try.func37, Try.ntmps37
  go_wp2_with fail
  go_loopg [5] N (fun m x wr => ∃ i : Nat, m + i = N ∧ x = .int .i64 (i : Int) ∧ z ∉ l.take i ∧ wr = w)
  case atStart => exact ⟨0, rfl, rfl, by simp, rfl⟩
  case round =>
    obtain ⟨i, hm2, rfl, hno, rfl⟩ := hrel
    have HM := Lib.hid hm2; have HNO := Lib.hid hno
    clear hm2 hno
    by_cases hi : i < N
    · obtain ⟨x, hx⟩ : ∃ x, l[i]? = some x := ⟨_, List.getElem?_eq_getElem (by rw [HN.out]; exact hi)⟩
      obtain ⟨b, off, hea, hbl, k0⟩ := HC.out.at_ (zV_at hx)
      subst hea
      have HX := Lib.hid hx
      clear hx
      by_cases hxz : x = z
      · have HIN : Hid (decide (z ∈ l) = true) := Lib.hid (decide_eq_true (by rw [← hxz]; exact List.mem_of_getElem? HX.out))
        have d1 : (x == z) = true := by simpa using hxz
        go_wp2_with fail
        go_ret
        exact ⟨by rw [HIN.out]; rfl, 0, rfl⟩
      · have d1 : (x == z) = false := by simpa using hxz
        go_wp2_with fail
        go_roundg (N - (i + 1))
        case measure => have := HM.out; omega
        case rel => exact ⟨i + 1, by have := HM.out; omega, by go_num, by
          rw [List.take_add_one, HX.out]
          intro h
          rcases List.mem_append.1 h with h | h
          · exact HNO.out h
          · simp at h; exact hxz h.symm, rfl⟩
    · have hiN : i = N := by have := HM.out; omega
      have HIN : Hid (decide (z ∈ l) = false) := Lib.hid (decide_eq_false (by
        have h := HNO.out
        rw [List.take_of_length_le (by rw [HN.out]; omega)] at h; exact h))
      clear hiN
      go_wp2_with fail
      go_ret
      exact ⟨by rw [HIN.out]; rfl, 0, rfl⟩
end Go.Proofs.Ytbancojknahdgaa
