/- CountParts: the walk. -/
import Derived.Test.YtoegenacjhmicaaGreatCountZ
import Derived.Test.YtoegenacjhmicaaGreatOperI
namespace Go.Proofs.YtoegenacjhmicaaGreat
open Go.RowKit HP NP
theorem tbl_or (X Y : Nat) (ρ : Nat → Bool) : (tbl X ρ || tbl Y ρ) = tbl (X ||| Y) ρ := by unfold tbl; rw [Nat.testBit_or]
theorem tbl_and (X Y : Nat) (ρ : Nat → Bool) : (tbl X ρ && tbl Y ρ) = tbl (X &&& Y) ρ := by unfold tbl; rw [Nat.testBit_and]
theorem bit_not (X : Nat) {n : Nat} (h : n < 16) : (X ^^^ 65535).testBit n = !X.testBit n := by
  rw [Nat.testBit_xor, show (65535 : Nat) = 2 ^ 16 - 1 from rfl, Nat.testBit_two_pow_sub_one, decide_eq_true h]
  cases X.testBit n <;> rfl
theorem tbl_not (X : Nat) (ρ : Nat → Bool) : (!tbl X ρ) = tbl (X ^^^ 65535) ρ := by unfold tbl; rw [bit_not X (ix_lt ρ)]
theorem OSt.cst {w0 w : World} {p q : Nat} {S : NS} {r : Nat} (h : OSt w0 w w0.heap.size p q S r) : CSt w0 w p S := ⟨h.sto, h.v4, h.fin⟩
/-- Sat of the four variables -/
theorem sat_four {w0 w : World} {p : Nat} {S : NS} {k X T : Nat} (h : CSt w0 w p S) (hd : Den S k (tbl X)) (hT : numT X = T) :
    ∀ w', w' = w.alloc (.cells #[.int .i64 0, .int .i64 1, .int .i64 2, .int .i64 3] 3) → Calls Tryz.prog 10 #[.pointer (some ⟨p, 0, none⟩), .int .i64 (k : Int), .slice (some ⟨w.heap.size, 0, none⟩) 4 4] w' fun e w'' => e = .returned (.tuple #[.int .i64 (T : Int), .int .i64 0]) ∧ CSt w0 w'' p S := fun w' hw => by
  have hb : Below w.heap.size w w' := by rw [hw]; exact (Below.refl _ _).alloc (Nat.le_refl _) _
  have h2 := h.below hb
  refine (sat4_ok h2 hd four_ord (a := some ⟨w.heap.size, 0, none⟩) (c := 4) (by rw [hw]; exact Cells.lit w #[.int .i64 0, .int .i64 1, .int .i64 2, .int .i64 3] 3)).mono ?_
  rintro e w'' ⟨rfl, hb2⟩
  exact ⟨by rw [hT], h2.below hb2⟩
set_option maxRecDepth 100000 in
set_option maxHeartbeats 6400000 in
theorem countParts_walk (w : World) (z0 : Int) (_w0 : (Lit.int .i64 z0).wf = true) (z1 : Int) (_w1 : (Lit.int .i64 z1).wf = true) : Calls Tryz.prog 3 #[.int .i64 z0, .int .i64 z1] w (Fine6 w) := by
  obtain ⟨a, ha, ha2⟩ := low6 z0
  obtain ⟨b, hb, hb2⟩ := low6 z1
  go_enter Tryz.func3, Tryz.ntmps3
  go_wp2_with fail
  refine (begun6 w).mono ?_
  rintro e w1 ⟨p, rfl, hs1⟩
  have HS1 := Lib.hid hs1
  clear hs1
  go_wp2_with fail
  refine (onew_ok w1 w.heap.size p (newS 4 1000) HS1.out.sto HS1.out.bel.size (by show 0 < 4611686018427387904; omega)).mono ?_
  rintro e w2 ⟨q, rfl, ho2, _, hb2'⟩
  have H2 := Lib.hid (OSt.begin (r := 998) (HS1.out.sto.below hb2') ho2 (HS1.out.bel.trans (hb2'.mono HS1.out.bel.size)) (by decide))
  clear ho2 hb2' HS1
  go_wp2_with fail
  refine (make_ok w2 _ p _ a ha2 H2.out.sto H2.out.hB H2.out.v4).mono ?_
  intro e w3 hr
  obtain ⟨S3, x, rfl, ho, hg⟩ := H2.out.made hr (by decide)
  have H3 := Lib.hid ho; have Dx := Lib.hid hg.den
  clear hr ho hg
  go_wp2_with fail
  refine (make_ok w3 _ p S3 b hb2 H3.out.sto H3.out.hB H3.out.v4).mono ?_
  intro e w4 hr
  obtain ⟨S4, y, rfl, ho, hg⟩ := H3.out.made hr (by decide)
  have H4 := Lib.hid ho; have Dy := Lib.hid hg.den
  replace Dx := Lib.hid (hg.lift Dx.out)
  clear hr ho hg
  clear ha hb ha2 hb2
  go_wp2_with fail
  refine (oor_ok w4 _ p q _ H4.out.sto H4.out.ops H4.out.hB x y _ _ Dx.out Dy.out 15 (by rw [H4.out.v4]; decide)).mono ?_
  intro e w5 hr
  obtain ⟨S5, xo, rfl, ho, hg⟩ := H4.out.got hr (by omega)
  have H5 := Lib.hid ho; have Do := Lib.hid (hg.den.cong (g' := tbl (a ||| b)) fun ρ => tbl_or a b ρ)
  replace Dx := Lib.hid (hg.lift Dx.out)
  replace Dy := Lib.hid (hg.lift Dy.out)
  clear hr ho hg
  go_wp2_with fail
  refine (oand_ok w5 _ p q _ H5.out.sto H5.out.ops H5.out.hB x y _ _ Dx.out Dy.out 15 (by rw [H5.out.v4]; decide)).mono ?_
  intro e w6 hr
  obtain ⟨S6, xa, rfl, ho, hg⟩ := H5.out.got hr (by omega)
  have H6 := Lib.hid ho; have Da := Lib.hid (hg.den.cong (g' := tbl (a &&& b)) fun ρ => tbl_and a b ρ)
  replace Dx := Lib.hid (hg.lift Dx.out)
  replace Dy := Lib.hid (hg.lift Dy.out)
  replace Do := Lib.hid (hg.lift Do.out)
  clear hr ho hg
  go_wp2_with fail
  refine (onot_ok w6 _ p q _ H6.out.sto H6.out.ops H6.out.hB x _ Dx.out 15 (by rw [H6.out.v4]; decide)).mono ?_
  intro e w7 hr
  obtain ⟨S7, xn, rfl, ho, hg⟩ := H6.out.got hr (by omega)
  have H7 := Lib.hid (OSt.cst ho); have Dn := Lib.hid (hg.den.cong (g' := tbl (a ^^^ 65535)) fun ρ => tbl_not a ρ)
  replace Dx := Lib.hid (hg.lift Dx.out)
  replace Dy := Lib.hid (hg.lift Dy.out)
  replace Do := Lib.hid (hg.lift Do.out)
  replace Da := Lib.hid (hg.lift Da.out)
  clear hr ho hg H2 H3 H4 H5 H6
  obtain ⟨I, hI⟩ : ∃ I, numT a = I := ⟨_, rfl⟩
  obtain ⟨J, hJ⟩ : ∃ J, numT b = J := ⟨_, rfl⟩
  obtain ⟨K, hK⟩ : ∃ K, numT (a ||| b) = K := ⟨_, rfl⟩
  obtain ⟨M, hM⟩ : ∃ M, numT (a &&& b) = M := ⟨_, rfl⟩
  obtain ⟨N, hN⟩ : ∃ N, numT (a ^^^ 65535) = N := ⟨_, rfl⟩
  have e1 : K + M = I + J := by rw [← hI, ← hJ, ← hK, ← hM]; exact numT_or a b
  have e2 : I + N = 16 := by rw [← hI, ← hN]; exact numT_not fun n hn => bit_not a hn
  have bI : I ≤ 16 := by rw [← hI]; exact numT_le a
  have bJ : J ≤ 16 := by rw [← hJ]; exact numT_le b
  obtain ⟨T, hT⟩ : ∃ T, I + J = T := ⟨_, rfl⟩
  have hIJ : (I : Int) + (J : Int) = (T : Int) := by omega
  have hKM : (K : Int) + (M : Int) = (T : Int) := by omega
  have hIN : (I : Int) + (N : Int) = 16 := by omega
  have hT32 : T ≤ 32 := by omega
  have C1 := Lib.hid (fun w0' w' (h : CSt w w' p S7) => sat_four (w0 := w) h Dx.out hI w0')
  have C2 := Lib.hid (fun w0' w' (h : CSt w w' p S7) => sat_four (w0 := w) h Dy.out hJ w0')
  have C3 := Lib.hid (fun w0' w' (h : CSt w w' p S7) => sat_four (w0 := w) h Do.out hK w0')
  have C4 := Lib.hid (fun w0' w' (h : CSt w w' p S7) => sat_four (w0 := w) h Da.out hM w0')
  have C5 := Lib.hid (fun w0' w' (h : CSt w w' p S7) => sat_four (w0 := w) h Dn.out hN w0')
  clear hI hJ hK hM hN e1 e2 hT Dx Dy Do Da Dn
  go_wp2_with fail
  refine (four6 w7).mono ?_
  rintro e v1 ⟨rfl, hv1⟩
  have HC := Lib.hid (C1.out v1 w7 H7.out hv1)
  clear hv1
  go_wp2_with fail
  refine HC.out.mono ?_
  rintro e w8 ⟨rfl, h8⟩
  have H8 := Lib.hid h8
  clear h8 HC
  go_wp2_with fail
  refine (four6 w8).mono ?_
  rintro e v1 ⟨rfl, hv1⟩
  have HC := Lib.hid (C2.out v1 w8 H8.out hv1)
  clear hv1
  go_wp2_with fail
  refine HC.out.mono ?_
  rintro e w9 ⟨rfl, h9⟩
  have H9 := Lib.hid h9
  clear h9 HC
  go_wp2_with fail
  refine (four6 w9).mono ?_
  rintro e v1 ⟨rfl, hv1⟩
  have HC := Lib.hid (C3.out v1 w9 H9.out hv1)
  clear hv1
  go_wp2_with fail
  refine HC.out.mono ?_
  rintro e w10 ⟨rfl, h10⟩
  have H10 := Lib.hid h10
  clear h10 HC
  go_wp2_with fail
  refine (four6 w10).mono ?_
  rintro e v1 ⟨rfl, hv1⟩
  have HC := Lib.hid (C4.out v1 w10 H10.out hv1)
  clear hv1
  go_wp2_with fail
  refine HC.out.mono ?_
  rintro e w11 ⟨rfl, h11⟩
  have H11 := Lib.hid h11
  clear h11 HC
  go_wp2_with fail
  refine (four6 w11).mono ?_
  rintro e v1 ⟨rfl, hv1⟩
  have HC := Lib.hid (C5.out v1 w11 H11.out hv1)
  clear hv1
  go_wp2_with fail
  refine HC.out.mono ?_
  rintro e w12 ⟨rfl, h12⟩
  have H12 := Lib.hid h12
  clear h12 HC C1 C2 C3 C4 C5
  go_wp2_with fail
  refine (awake6 w12).mono ?_
  rintro e w13 ⟨rfl, hb13⟩
  have H13 := Lib.hid (H12.out.below hb13)
  clear hb13
  go_wp2_with fail
  go_ret
  exact ⟨rfl, H13.out.bel⟩
end Go.Proofs.YtoegenacjhmicaaGreat
