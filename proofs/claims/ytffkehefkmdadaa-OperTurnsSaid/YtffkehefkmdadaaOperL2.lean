/- OperTurns: the walk. -/
import Derived.Test.YtffkehefkmdadaaOperL1
namespace Go.Proofs.Ytffkehefkmdadaa
open Go.RowKit HP NP
set_option maxRecDepth 100000 in
set_option maxHeartbeats 4000000 in
theorem operTurns_walk (w : World) (z0 : Int) (_w0 : (Lit.int .i64 z0).wf = true) (z1 : Int) (_w1 : (Lit.int .i64 z1).wf = true) : Calls Try.prog 5 #[.int .i64 z0, .int .i64 z1] w (Fine w) := by
  obtain ⟨a, ha, ha2⟩ := low16 z0
  obtain ⟨b, hb, hb2⟩ := low16 z1
  go_enter Try.func5, Try.ntmps5
  go_wp2_with fail
  refine (begun04 w w.heap.size 1000 (Nat.le_refl _) (by decide) (by decide)).mono ?_
  rintro e w1 ⟨p, q, rfl, hs, ho, hb⟩
  have H1 := Lib.hid (OSt.begin (r := 998) hs ho hb (by decide))
  clear hs ho hb
  go_wp2_with fail
  refine (make_ok w1 _ p _ a ha2 H1.out.sto H1.out.hB H1.out.v4).mono ?_
  intro e w2 hr
  obtain ⟨S2, x, rfl, ho, hg⟩ := H1.out.made hr (by decide)
  have H2 := Lib.hid ho; have Dx := Lib.hid hg.den
  clear hr ho hg
  go_wp2_with fail
  refine (make_ok w2 _ p S2 b hb2 H2.out.sto H2.out.hB H2.out.v4).mono ?_
  intro e w3 hr
  obtain ⟨S3, y, rfl, ho, hg⟩ := H2.out.made hr (by decide)
  have H3 := Lib.hid ho; have Dy := Lib.hid hg.den
  replace Dx := Lib.hid (hg.lift Dx.out)
  clear hr ho hg
  clear ha hb ha2 hb2
  go_wp2_with fail
  go_loopg [12] 3 (fun m u wr => ∃ (k r : Nat) (S : NS), m + k = 4 ∧ 1 ≤ k ∧ u = .int .i64 (k : Int) ∧ OSt w wr w.heap.size p q S r ∧ 1028 ≤ r + 60 * k ∧ Den S x (tbl a) ∧ Den S y (tbl b))
  case atStart => exact ⟨1, 968, _, rfl, by decide, rfl, H3.out, by decide, Dx.out, Dy.out⟩
  case round =>
    obtain ⟨k, r, S, hm, hk1, rfl, ho, hr, dx, dy⟩ := hrel
    have HM := Lib.hid hm; have H1 := Lib.hid ho; have HR := Lib.hid hr
    clear H3 Dx Dy
    have Dx := Lib.hid dx; have Dy := Lib.hid dy
    clear hm ho hr dx dy
    obtain ⟨w1, hw1⟩ : ∃ w1, w1 = wr := ⟨_, rfl⟩
    rw [← hw1] at H1 ⊢
    clear hw1
    by_cases hk : k ≤ 3
    · go_wp2_with fail
      refine (does_ok w1 _ p q _ H1.out.sto H1.out.ops H1.out.hB H1.out.v4 k (by omega) x y 0 _ _ _ Dx.out Dy.out (Den.zero H1.out.wf)).mono ?_
      intro e w2 hr
      obtain ⟨S2, m, rfl, ho, hg⟩ := H1.out.got hr (by have := HR.out; omega)
      have H2 := Lib.hid ho; have Dm := Lib.hid hg.den
      replace Dx := Lib.hid (hg.lift Dx.out)
      replace Dy := Lib.hid (hg.lift Dy.out)
      clear hr ho hg
      go_wp2_with fail
      refine (does_ok w2 _ p q _ H2.out.sto H2.out.ops H2.out.hB H2.out.v4 k (by omega) y x 0 _ _ _ Dy.out Dx.out (Den.zero H2.out.wf)).mono ?_
      intro e w3 hr
      obtain ⟨S3, n, rfl, ho, hg⟩ := H2.out.got hr (by have := HR.out; omega)
      have H3 := Lib.hid ho; have Dn := Lib.hid hg.den
      replace Dx := Lib.hid (hg.lift Dx.out)
      replace Dy := Lib.hid (hg.lift Dy.out)
      replace Dm := Lib.hid (hg.lift Dm.out)
      clear hr ho hg
      obtain rfl : m = n := Den.same H3.out.wf Dm.out (Dn.out.cong (fun ρ => by
        rcases (by omega : k = 1 ∨ k = 2 ∨ k = 3) with h | h | h <;> rw [h] <;> cases tbl a ρ <;> cases tbl b ρ <;> rfl))
      go_wp2_with fail
      go_roundg (4 - (k + 1))
      case measure => have := HM.out; omega
      case rel => exact ⟨k + 1, r - 30 - 30, _, by have := HM.out; omega, by omega, by go_num, H3.out, by have := HR.out; omega, Dx.out, Dy.out⟩
    · have hk4 : k = 4 := by have := HM.out; omega
      clear hk
      subst hk4
      have hr700 : 700 ≤ r := by have := HR.out; omega
      go_wp2_with fail
      refine (onot_ok w1 _ p q _ H1.out.sto H1.out.ops H1.out.hB x _ Dx.out 15 (by rw [H1.out.v4]; decide)).mono ?_
      intro e w2 hr
      obtain ⟨S2, n, rfl, ho, hg⟩ := H1.out.got hr (by omega)
      have H2 := Lib.hid ho; have Dn := Lib.hid hg.den
      replace Dx := Lib.hid (hg.lift Dx.out)
      replace Dy := Lib.hid (hg.lift Dy.out)
      clear hr ho hg
      go_wp2_with fail
      refine (onot_ok w2 _ p q _ H2.out.sto H2.out.ops H2.out.hB y _ Dy.out 15 (by rw [H2.out.v4]; decide)).mono ?_
      intro e w3 hr
      obtain ⟨S3, m, rfl, ho, hg⟩ := H2.out.got hr (by omega)
      have H3 := Lib.hid ho; have Dm := Lib.hid hg.den
      replace Dx := Lib.hid (hg.lift Dx.out)
      replace Dy := Lib.hid (hg.lift Dy.out)
      replace Dn := Lib.hid (hg.lift Dn.out)
      clear hr ho hg
      go_wp2_with fail
      refine (onot_ok w3 _ p q _ H3.out.sto H3.out.ops H3.out.hB n _ Dn.out 15 (by rw [H3.out.v4]; decide)).mono ?_
      intro e w4 hr
      obtain ⟨S4, back, rfl, ho, hg⟩ := H3.out.got hr (by omega)
      have H4 := Lib.hid ho; have Dback := Lib.hid hg.den
      replace Dx := Lib.hid (hg.lift Dx.out)
      replace Dy := Lib.hid (hg.lift Dy.out)
      replace Dn := Lib.hid (hg.lift Dn.out)
      replace Dm := Lib.hid (hg.lift Dm.out)
      clear hr ho hg
      obtain rfl : x = back := Den.same H4.out.wf Dx.out (Dback.out.cong (fun ρ => by cases tbl a ρ <;> rfl))
      clear Dback
      go_wp2_with fail
      refine (oand_ok w4 _ p q _ H4.out.sto H4.out.ops H4.out.hB x y _ _ Dx.out Dy.out 15 (by rw [H4.out.v4]; decide)).mono ?_
      intro e w5 hr
      obtain ⟨S5, an, rfl, ho, hg⟩ := H4.out.got hr (by omega)
      have H5 := Lib.hid ho; have Dan := Lib.hid hg.den
      replace Dx := Lib.hid (hg.lift Dx.out)
      replace Dy := Lib.hid (hg.lift Dy.out)
      replace Dn := Lib.hid (hg.lift Dn.out)
      replace Dm := Lib.hid (hg.lift Dm.out)
      clear hr ho hg
      go_wp2_with fail
      refine (onot_ok w5 _ p q _ H5.out.sto H5.out.ops H5.out.hB an _ Dan.out 15 (by rw [H5.out.v4]; decide)).mono ?_
      intro e w6 hr
      obtain ⟨S6, nt, rfl, ho, hg⟩ := H5.out.got hr (by omega)
      have H6 := Lib.hid ho; have Dnt := Lib.hid hg.den
      replace Dx := Lib.hid (hg.lift Dx.out)
      replace Dy := Lib.hid (hg.lift Dy.out)
      replace Dn := Lib.hid (hg.lift Dn.out)
      replace Dm := Lib.hid (hg.lift Dm.out)
      replace Dan := Lib.hid (hg.lift Dan.out)
      clear hr ho hg
      go_wp2_with fail
      refine (oor_ok w6 _ p q _ H6.out.sto H6.out.ops H6.out.hB n m _ _ Dn.out Dm.out 15 (by rw [H6.out.v4]; decide)).mono ?_
      intro e w7 hr
      obtain ⟨S7, or, rfl, ho, hg⟩ := H6.out.got hr (by omega)
      have H7 := Lib.hid ho; have Dor := Lib.hid hg.den
      replace Dx := Lib.hid (hg.lift Dx.out)
      replace Dy := Lib.hid (hg.lift Dy.out)
      replace Dn := Lib.hid (hg.lift Dn.out)
      replace Dm := Lib.hid (hg.lift Dm.out)
      replace Dan := Lib.hid (hg.lift Dan.out)
      replace Dnt := Lib.hid (hg.lift Dnt.out)
      clear hr ho hg
      obtain rfl : nt = or := Den.same H7.out.wf Dnt.out (Dor.out.cong (fun ρ => by cases tbl a ρ <;> cases tbl b ρ <;> rfl))
      clear Dor
      go_wp2_with fail
      refine (odiff_ok w7 _ p q _ H7.out.sto H7.out.ops H7.out.hB x y _ _ Dx.out Dy.out 15 (by rw [H7.out.v4]; decide)).mono ?_
      intro e w8 hr
      obtain ⟨S8, one, rfl, ho, hg⟩ := H7.out.got hr (by omega)
      have H8 := Lib.hid ho; have Done := Lib.hid hg.den
      replace Dx := Lib.hid (hg.lift Dx.out)
      replace Dy := Lib.hid (hg.lift Dy.out)
      replace Dn := Lib.hid (hg.lift Dn.out)
      replace Dm := Lib.hid (hg.lift Dm.out)
      replace Dan := Lib.hid (hg.lift Dan.out)
      replace Dnt := Lib.hid (hg.lift Dnt.out)
      clear hr ho hg
      go_wp2_with fail
      refine (odiff_ok w8 _ p q _ H8.out.sto H8.out.ops H8.out.hB y x _ _ Dy.out Dx.out 15 (by rw [H8.out.v4]; decide)).mono ?_
      intro e w9 hr
      obtain ⟨S9, two, rfl, ho, hg⟩ := H8.out.got hr (by omega)
      have H9 := Lib.hid ho; have Dtwo := Lib.hid hg.den
      replace Dx := Lib.hid (hg.lift Dx.out)
      replace Dy := Lib.hid (hg.lift Dy.out)
      replace Dn := Lib.hid (hg.lift Dn.out)
      replace Dm := Lib.hid (hg.lift Dm.out)
      replace Dan := Lib.hid (hg.lift Dan.out)
      replace Dnt := Lib.hid (hg.lift Dnt.out)
      replace Done := Lib.hid (hg.lift Done.out)
      clear hr ho hg
      go_wp2_with fail
      refine (oxor_ok w9 _ p q _ H9.out.sto H9.out.ops H9.out.hB x y _ _ Dx.out Dy.out 15 30 (by rw [H9.out.v4]; decide) (by decide)).mono ?_
      intro e w10 hr
      obtain ⟨S10, xo, rfl, ho, hg⟩ := H9.out.got hr (by omega)
      have H10 := Lib.hid ho; have Dxo := Lib.hid hg.den
      replace Dx := Lib.hid (hg.lift Dx.out)
      replace Dy := Lib.hid (hg.lift Dy.out)
      replace Dn := Lib.hid (hg.lift Dn.out)
      replace Dm := Lib.hid (hg.lift Dm.out)
      replace Dan := Lib.hid (hg.lift Dan.out)
      replace Dnt := Lib.hid (hg.lift Dnt.out)
      replace Done := Lib.hid (hg.lift Done.out)
      replace Dtwo := Lib.hid (hg.lift Dtwo.out)
      clear hr ho hg
      go_wp2_with fail
      refine (oor_ok w10 _ p q _ H10.out.sto H10.out.ops H10.out.hB one two _ _ Done.out Dtwo.out 15 (by rw [H10.out.v4]; decide)).mono ?_
      intro e w11 hr
      obtain ⟨S11, both, rfl, ho, hg⟩ := H10.out.got hr (by omega)
      have H11 := Lib.hid ho; have Dboth := Lib.hid hg.den
      replace Dx := Lib.hid (hg.lift Dx.out)
      replace Dy := Lib.hid (hg.lift Dy.out)
      replace Dn := Lib.hid (hg.lift Dn.out)
      replace Dm := Lib.hid (hg.lift Dm.out)
      replace Dan := Lib.hid (hg.lift Dan.out)
      replace Dnt := Lib.hid (hg.lift Dnt.out)
      replace Done := Lib.hid (hg.lift Done.out)
      replace Dtwo := Lib.hid (hg.lift Dtwo.out)
      replace Dxo := Lib.hid (hg.lift Dxo.out)
      clear hr ho hg
      obtain rfl : xo = both := Den.same H11.out.wf Dxo.out (Dboth.out.cong (fun ρ => by cases tbl a ρ <;> cases tbl b ρ <;> rfl))
      go_wp2_with fail
      refine (awake04 w11).mono ?_
      rintro e w12 ⟨rfl, hb⟩
      have H12 := Lib.hid (H11.out.below hb)
      clear hb
      go_wp2_with fail
      go_ret
      exact ⟨rfl, H12.out.fin⟩
end Go.Proofs.Ytffkehefkmdadaa
