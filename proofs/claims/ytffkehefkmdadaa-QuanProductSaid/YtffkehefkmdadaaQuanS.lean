/- QuanProduct: the walk. -/
import Derived.Test.YtffkehefkmdadaaQuanH
import Derived.Test.YtffkehefkmdadaaQuanK
namespace Go.Proofs.Ytffkehefkmdadaa
open Go.RowKit HP NP
theorem low_nat (x : Int) (X : Nat) (h : bits .and .i64 x ((65535 : Nat) : Int) = (X : Int)) : (BitVec.ofInt 64 x).toNat &&& 65535 = X := by
  have e : bits .and .i64 x ((65535 : Nat) : Int) = IntKind.i64.wrap ((BitVec.ofInt 64 x &&& BitVec.ofInt 64 ((65535 : Nat) : Int)).toNat : Int) := rfl
  rw [e, BitVec.toNat_and, BitVec.ofInt_natCast, BitVec.toNat_ofNat, Nat.mod_eq_of_lt (by decide)] at h
  have hl : (BitVec.ofInt 64 x).toNat &&& 65535 ≤ 65535 := Nat.and_le_right
  generalize (BitVec.ofInt 64 x).toNat &&& 65535 = z at hl h ⊢
  rw [IntKind.wrap_i64] at h
  omega
theorem and_both (za zb : Int) {X Y : Nat} (hX : bits .and .i64 za 65535 = (X : Int)) (hY : bits .and .i64 zb 65535 = (Y : Int)) : bits .and .i64 (bits .and .i64 za zb) 65535 = ((X &&& Y : Nat) : Int) := by
  have e3 : bits .and .i64 (bits .and .i64 za zb) 65535 = bits .and .i64 za zb % 65536 := and_low _ 16 (by decide)
  have hA := low_nat za X hX
  have hB := low_nat zb Y hY
  have e4 : bits .and .i64 za zb = IntKind.i64.wrap ((BitVec.ofInt 64 za &&& BitVec.ofInt 64 zb).toNat : Int) := rfl
  rw [e3, e4, BitVec.toNat_and, IntKind.wrap_i64]
  clear e3 e4 hX hY
  generalize (BitVec.ofInt 64 za).toNat = A at hA ⊢
  generalize (BitVec.ofInt 64 zb).toNat = C at hB ⊢
  have hm : (A &&& C) % 2 ^ 16 = X &&& Y := by
    rw [Nat.and_mod_two_pow, ← Nat.and_two_pow_sub_one_eq_mod A 16, ← Nat.and_two_pow_sub_one_eq_mod C 16]
    rw [← hA, ← hB]
  generalize A &&& C = D at hm ⊢
  generalize X &&& Y = E at hm ⊢
  omega
theorem tbl_and (X Y : Nat) (ρ : Nat → Bool) : tbl (X &&& Y) ρ = (tbl X ρ && tbl Y ρ) := by unfold tbl; rw [Nat.testBit_and]
theorem inS_lst {set : Nat} {vs : List Int} (hvs : ∀ z, z ∈ vs ↔ z ∈ lst set 4) : inS (fun z => vs.reverse.contains z) = setB4 set := by
  funext i
  unfold inS setB4
  have h := (hvs (i : Int)).trans (lst_mem set 4 i)
  by_cases hc : i < 4 ∧ set.testBit i = true
  · rw [decide_eq_true hc.1, hc.2]
    have := h.2 hc
    simpa using this
  · have hn : ¬ (i : Int) ∈ vs := fun hh => hc (h.1 hh)
    have e2 : vs.reverse.contains (i : Int) = false := by simpa using hn
    show vs.reverse.contains (i : Int) = _
    rw [e2]
    by_cases h4 : i < 4
    · rw [decide_eq_true h4]
      cases hb : set.testBit i with
      | false => rfl
      | true => exact absurd ⟨h4, hb⟩ hc
    · rw [decide_eq_false h4]; rfl
theorem prT_list {S : NS} {x y X Y set : Nat} (hx : Den S x (tbl X)) (hy : Den S y (tbl Y)) {vs : List Int} (hvs : ∀ z, z ∈ vs ↔ z ∈ lst set 4) (ρ : Nat → Bool) : prT S (inS (fun z => vs.reverse.contains z)) x y ρ = tbl (exN (X &&& Y) set 4) ρ := by
  unfold prT
  rw [inS_lst hvs, exQ_congr (g' := tbl (X &&& Y)) (fun ρ => by rw [hx.says, hy.says, tbl_and])]
  exact exQ_tbl (X &&& Y) set ρ
set_option maxRecDepth 100000 in
set_option maxHeartbeats 6400000 in
theorem quanProduct_walk (w : World) (za : Int) (_wa : (Lit.int .i64 za).wf = true) (zb : Int) (_wb : (Lit.int .i64 zb).wf = true) (zs : Int) (_ws : (Lit.int .i64 zs).wf = true) : Calls Try.prog 13 #[.int .i64 za, .int .i64 zb, .int .i64 zs] w (Fine w) := by
  obtain ⟨X, hX, hX2⟩ := low16q za
  obtain ⟨Y, hY, hY2⟩ := low16q zb
  have hXY := and_both za zb hX hY
  have hXY2 : X &&& Y < 65536 := Nat.lt_of_le_of_lt Nat.and_le_left hX2
  obtain ⟨Z, hZ⟩ : ∃ Z, Z = X &&& Y := ⟨_, rfl⟩
  rw [← hZ] at hXY hXY2
  have HZ := Lib.hid hZ
  obtain ⟨set, hset, hset2⟩ := low4 zs
  clear hZ
  go_enter Try.func13, Try.ntmps13
  go_wp2_with fail
  refine (begun05 w w.heap.size 2000 (Nat.le_refl _) (by decide) (by decide)).mono ?_
  rintro e w1 ⟨p, q, qn, rfl, hs, ho, hq, hb⟩
  have H1 := Lib.hid (QSt.begin (r := 1998) hs ho hq hb (by decide))
  clear hs ho hq hb
  go_wp2_with fail
  refine (make_ok w1 _ p _ X hX2 H1.out.sto H1.out.hB H1.out.v4).mono ?_
  intro e w2 hr
  obtain ⟨S2, x, rfl, ho, hg⟩ := H1.out.made hr (by decide)
  have H2 := Lib.hid ho; have Dx := Lib.hid hg.den
  clear hr ho hg
  go_wp2_with fail
  refine (make_ok w2 _ p _ Y hY2 H2.out.sto H2.out.hB H2.out.v4).mono ?_
  intro e w3 hr
  obtain ⟨S3, y, rfl, ho, hg⟩ := H2.out.made hr (by decide)
  have H3 := Lib.hid ho; have Dy := Lib.hid hg.den
  replace Dx := Lib.hid (hg.lift Dx.out)
  clear hr ho hg
  go_wp2_with fail
  refine (exists_ok w3 Z set hXY2).mono ?_
  rintro e w' ⟨rfl, rfl⟩
  go_wp2_with fail
  refine (make_ok w3 _ p _ (exN Z set 4) (exN_lt hXY2 4) H3.out.sto H3.out.hB H3.out.v4).mono ?_
  intro e w4 hr
  obtain ⟨S4, z, rfl, ho, hg⟩ := H3.out.made hr (by decide)
  have H4 := Lib.hid ho; have Dz := Lib.hid hg.den
  replace Dx := Lib.hid (hg.lift Dx.out)
  replace Dy := Lib.hid (hg.lift Dy.out)
  clear hr ho hg
  go_wp2_with fail
  refine (list_ok w4 set).mono ?_
  rintro e w5 ⟨la, lc, rfl, hc5, hb5, hlc, htb5⟩
  have H5 := Lib.hid (H4.out.below hb5)
  have hln := lst_len set 4
  have HP := Lib.hid (qprod_ok w5 _ p q qn S4 H5.out.sto H5.out.ops H5.out.qu H5.out.hB x y Dx.out.is Dy.out.is la (lst set 4) lc (by omega) hc5 (lst_vok H5.out.v4 (fun z h => h)) 32 (by rw [H5.out.v4]; decide))
  obtain ⟨N, hN⟩ : ∃ N, (lst set 4).length = N := ⟨_, rfl⟩
  rw [hN] at hln hlc HP ⊢
  have HN := Lib.hid hN
  clear hN hc5 hb5 htb5
  go_wp2_with fail
  refine HP.out.mono ?_
  intro e w6 hr
  obtain ⟨S6, n1, rfl, ho, hg⟩ := H5.out.got hr (by decide)
  have H6 := Lib.hid ho; have Dn := Lib.hid (hg.den.cong (g' := tbl (exN Z set 4)) (fun ρ => by rw [prT_list Dx.out Dy.out (fun _ => Iff.rfl) ρ, HZ.out]))
  replace Dx := Lib.hid (hg.lift Dx.out)
  replace Dy := Lib.hid (hg.lift Dy.out)
  replace Dz := Lib.hid (hg.lift Dz.out)
  clear hr ho hg
  obtain rfl : z = n1 := Den.same H6.out.wf Dz.out Dn.out
  go_wp2_with fail
  refine (qops_ok w6 qn p q H6.out.qu).mono ?_
  rintro e w' ⟨rfl, rfl⟩
  have HAN := Lib.hid (oand_ok w6 _ p q S6 H6.out.sto H6.out.ops H6.out.hB x y _ _ Dx.out Dy.out 15 (by rw [H6.out.v4]; decide))
  go_wp2_with fail
  refine HAN.out.mono ?_
  intro e w7 hr
  obtain ⟨S7, a, rfl, ho, hg⟩ := H6.out.got hr (by decide)
  have H7 := Lib.hid ho
  have Da := Lib.hid (hg.den.cong (g' := tbl Z) (fun ρ => by rw [HZ.out, tbl_and]))
  replace Dz := Lib.hid (hg.lift Dz.out)
  clear hr ho hg
  go_wp2_with fail
  refine (list_ok w7 set).mono ?_
  rintro e w8 ⟨lb, ld, rfl, hc8, hb8, hld, htb8⟩
  have H8 := Lib.hid (H7.out.below hb8)
  have HE := Lib.hid (qex_ok w8 _ p q qn S7 H8.out.sto H8.out.ops H8.out.qu H8.out.hB a Da.out.is lb (lst set 4) ld (by have := lst_len set 4; omega) hc8 (lst_vok H8.out.v4 (fun z h => h)) 32 (by rw [H8.out.v4]; decide))
  rw [HN.out] at HE hld ⊢
  clear hc8 hb8 htb8
  go_wp2_with fail
  refine HE.out.mono ?_
  intro e w9 hr
  obtain ⟨S9, n2, rfl, ho, hg⟩ := H8.out.got hr (by decide)
  have H9 := Lib.hid ho; have Dm := Lib.hid (hg.den.cong (g' := tbl (exN Z set 4)) (fun ρ => exT_list Da.out (fun _ => Iff.rfl) ρ))
  replace Dz := Lib.hid (hg.lift Dz.out)
  clear hr ho hg
  obtain rfl : z = n2 := Den.same H9.out.wf Dz.out Dm.out
  go_wp2_with fail
  refine (awake05 w9).mono ?_
  rintro e w10 ⟨rfl, hb10⟩
  have H10 := Lib.hid (H9.out.below hb10)
  clear hb10
  go_wp2_with fail
  go_ret
  exact ⟨rfl, H10.out.toOSt.fin⟩
end Go.Proofs.Ytffkehefkmdadaa
