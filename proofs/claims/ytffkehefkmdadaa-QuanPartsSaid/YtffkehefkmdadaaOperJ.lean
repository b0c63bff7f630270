/- The laws of layer 4: awake. -/
import Derived.Test.YtffkehefkmdadaaOperI
namespace Go.Proofs.Ytffkehefkmdadaa
open Go.RowKit HP NP
def Fine (w : World) (e : Ending) (w' : World) : Prop := e = .returned (.bool true) ∧ Below w.heap.size w w'
theorem findE_yes {S : NS} {k : Nat} (h : isB S.l k = true) : findE S (k : Int) = 0 := by unfold findE; rw [isK_nat, h]; rfl
theorem evB_yes {S : NS} {k : Nat} {g : (Nat → Bool) → Bool} (h : Den S k g) (vals : List Bool) : evB S vals (k : Int) = g (rho vals) := by unfold evB; rw [isK_nat, h.is]; exact h.says _
theorem NP.Den.ge2 {S : NS} {k : Nat} {g : (Nat → Bool) → Bool} (h : Den S k g) (ρ σ : Nat → Bool) (hn : g ρ = true) (hm : g σ = false) : 2 ≤ k := by
  rcases Nat.lt_or_ge k 2 with h2 | h2
  · exfalso
    have a := h.says ρ; have b := h.says σ
    rw [den_leaf _ _ h2] at a b
    rw [hn] at a; rw [hm] at b; rw [a] at b; cases b
  · exact h2
set_option maxRecDepth 100000 in
set_option maxHeartbeats 1600000 in
theorem awake04 (w : World) : Calls Try.prog 29 #[] w (Fine w) := by
  go_enter Try.func29, Try.ntmps29
  go_wp2_with fail
  refine (begun04 w w.heap.size 50 (Nat.le_refl _) (by decide) (by decide)).mono ?_
  rintro e w1 ⟨p, q, rfl, hs, ho, hb⟩
  have H1 := Lib.hid (OSt.begin (r := 48) hs ho hb (by decide))
  clear hs ho hb
  go_wp2_with fail
  refine (mkvar H1.out 0 (by decide) (by decide)).mono ?_
  rintro e w2 ⟨S2, x, rfl, ho, hg⟩
  have H2 := Lib.hid ho; have Dx := Lib.hid hg.den
  clear ho hg
  go_wp2_with fail
  refine (mkvar H2.out 1 (by decide) (by decide)).mono ?_
  rintro e w3 ⟨S3, y, rfl, ho, hg⟩
  have H3 := Lib.hid ho; have Dy := Lib.hid hg.den
  replace Dx := Lib.hid (hg.lift Dx.out)
  clear ho hg
  go_wp2_with fail
  refine (onot_ok w3 _ p q S3 H3.out.sto H3.out.ops H3.out.hB x _ Dx.out 15 (by rw [H3.out.v4]; decide)).mono ?_
  intro e w4 hr
  obtain ⟨S4, n, rfl, ho, hg⟩ := H3.out.got hr (by decide)
  have H4 := Lib.hid ho; have Dn := Lib.hid hg.den
  replace Dx := Lib.hid (hg.lift Dx.out)
  replace Dy := Lib.hid (hg.lift Dy.out)
  clear hr ho hg
  go_wp2_with fail
  refine (oand_ok w4 _ p q S4 H4.out.sto H4.out.ops H4.out.hB x n _ _ Dx.out Dn.out 15 (by rw [H4.out.v4]; decide)).mono ?_
  intro e w5 hr
  obtain ⟨S5, a, rfl, ho, hg⟩ := H4.out.got hr (by decide)
  have H5 := Lib.hid ho; have Da := Lib.hid hg.den
  replace Dx := Lib.hid (hg.lift Dx.out)
  replace Dy := Lib.hid (hg.lift Dy.out)
  clear hr ho hg
  obtain rfl : a = 0 := Den.same H5.out.wf (Da.out.cong (g' := fun _ => false) (fun ρ => by cases ρ 0 <;> rfl)) (Den.zero H5.out.wf)
  go_wp2_with fail
  refine (oor_ok w5 _ p q S5 H5.out.sto H5.out.ops H5.out.hB x y _ _ Dx.out Dy.out 15 (by rw [H5.out.v4]; decide)).mono ?_
  intro e w6 hr
  obtain ⟨S6, b, rfl, ho, hg⟩ := H5.out.got hr (by decide)
  have H6 := Lib.hid ho; have Db := Lib.hid hg.den
  clear hr ho hg
  have hb2 := Db.out.ge2 (fun _ => true) (fun _ => false) rfl rfl
  have hb1 : decide (1 < b) = true := decide_eq_true (by omega)
  have hev : evB S6 [false, true] (b : Int) = true := (evB_yes Db.out [false, true]).trans rfl
  have hfe := findE_yes Db.out.is
  have hbl := (Below.refl w6.heap.size w6).alloc (Nat.le_refl _) (.cells #[.bool false, .bool true] 4)
  have HE := Lib.hid (neval_ok (w6.alloc (.cells #[.bool false, .bool true] 4)) _ p S6 (H6.out.sto.below hbl) (b : Int) (some ⟨w6.heap.size, 0, none⟩) [false, true] 2 (by show 2 ≤ maxLen; unfold maxLen; omega) (Cells.lit w6 _ _))
  rw [hev, hfe] at HE
  have H7 := Lib.hid (H6.out.below hbl)
  clear hev hfe hbl
  go_wp2_with fail
  refine HE.out.mono ?_
  rintro e w7 ⟨rfl, hb7⟩
  have H8 := Lib.hid (H7.out.below hb7)
  clear hb7
  go_wp2_with fail
  refine (ostore_ok w7 _ p q S6 H8.out.ops).mono ?_
  rintro e w8 ⟨rfl, rfl⟩
  go_wp2_with fail
  refine (nlen_ok w7 _ p S6 H8.out.sto).mono ?_
  rintro e w8 ⟨rfl, rfl⟩
  go_wp2_with fail
  refine (nlen_ok w7 _ p S6 H8.out.sto).mono ?_
  rintro e w8 ⟨rfl, rfl⟩
  go_wp2_with fail
  go_ret
  exact ⟨rfl, H8.out.fin⟩
end Go.Proofs.Ytffkehefkmdadaa
