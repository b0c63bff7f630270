/- QuanParts: the laws and the walk. -/
import Derived.Test.YtffkehefkmdadaaQuanH
import Derived.Test.YtffkehefkmdadaaQuanK
namespace Go.Proofs.Ytffkehefkmdadaa
open Go.RowKit HP NP
theorem inS_lstP {set : Nat} {vs : List Int} (hvs : ∀ z, z ∈ vs ↔ z ∈ lst set 4) : inS (fun z => vs.reverse.contains z) = setB4 set := by
  funext i
  unfold inS setB4
  have h := (hvs (i : Int)).trans (lst_mem set 4 i)
  by_cases hc : i < 4 ∧ set.testBit i = true
  · rw [decide_eq_true hc.1, hc.2]
    have := h.2 hc
    simpa using this
  · have hn : ¬ (i : Int) ∈ vs := fun hh => hc (h.1 hh)
    have e2 : vs.reverse.contains (i : Int) = false := by simpa using hn
    show vs.reverse.contains (i : Int) = _
    rw [e2]
    by_cases h4 : i < 4
    · rw [decide_eq_true h4]
      cases hb : set.testBit i with
      | false => rfl
      | true => exact absurd ⟨h4, hb⟩ hc
    · rw [decide_eq_false h4]; rfl
theorem exQ_two {o t u : Nat → Bool} (hu : ∀ i, u i = (o i || t i)) (g : (Nat → Bool) → Bool) (ρ : Nat → Bool) : exQ t (exQ o g) ρ = exQ u g ρ := by
  refine bool_iff ⟨fun h => ?_, fun h => ?_⟩
  · obtain ⟨σ, h1, h2⟩ := exQ_iff.1 h
    obtain ⟨τ, h3, h4⟩ := exQ_iff.1 h2
    refine exQ_iff.2 ⟨τ, fun i hi => ?_, h4⟩
    rw [hu i, Bool.or_eq_false_iff] at hi
    rw [h3 i hi.1, h1 i hi.2]
  · obtain ⟨τ, h1, h2⟩ := exQ_iff.1 h
    refine exQ_iff.2 ⟨fun i => if t i then τ i else ρ i, fun i hi => by simp [hi], exQ_iff.2 ⟨τ, fun i hi => ?_, h2⟩⟩
    show τ i = if t i then τ i else ρ i
    cases ht : t i with
    | true => rfl
    | false => exact h1 i (by rw [hu i, hi, ht]; rfl)
theorem exQ_idle {o : Nat → Bool} (g h : (Nat → Bool) → Bool) (ρ : Nat → Bool) : exQ o (fun ρ => g ρ && exQ o h ρ) ρ = (exQ o g ρ && exQ o h ρ) := by
  have same : ∀ σ : Nat → Bool, (∀ i, o i = false → σ i = ρ i) → exQ o h σ = exQ o h ρ := fun σ hs => bool_iff ⟨fun hh => by
    obtain ⟨τ, h1, h2⟩ := exQ_iff.1 hh
    exact exQ_iff.2 ⟨τ, fun i hi => (h1 i hi).trans (hs i hi), h2⟩, fun hh => by
    obtain ⟨τ, h1, h2⟩ := exQ_iff.1 hh
    exact exQ_iff.2 ⟨τ, fun i hi => (h1 i hi).trans (hs i hi).symm, h2⟩⟩
  refine bool_iff ⟨fun hh => ?_, fun hh => ?_⟩
  · obtain ⟨σ, h1, h2⟩ := exQ_iff.1 hh
    have h2' : (g σ && exQ o h σ) = true := h2
    rw [Bool.and_eq_true] at h2'
    rw [Bool.and_eq_true]
    exact ⟨exQ_iff.2 ⟨σ, h1, h2'.1⟩, by rw [← same σ h1]; exact h2'.2⟩
  · rw [Bool.and_eq_true] at hh
    obtain ⟨σ, h1, h2⟩ := exQ_iff.1 hh.1
    exact exQ_iff.2 ⟨σ, h1, by show (g σ && exQ o h σ) = true; rw [h2, same σ h1, hh.2]; rfl⟩
theorem exN_two (X o t : Nat) (ρ : Nat → Bool) : tbl (exN (exN X o 4) t 4) ρ = tbl (exN X (o ||| t) 4) ρ := by
  rw [← exQ_tbl, ← exQ_tbl, exQ_congr (g' := exQ (setB4 o) (tbl X)) (fun ρ => (exQ_tbl X o ρ).symm)]
  exact exQ_two (fun i => by unfold setB4; rw [Nat.testBit_or]; cases decide (i < 4) <;> rfl) _ ρ
theorem exT_oneV {S : NS} {x v : Nat} (ρ : Nat → Bool) : exT S (inS (fun z => [(v : Int)].reverse.contains z)) x ρ = (rsT S v false x ρ || rsT S v true x ρ) := by
  have e : inS (fun z => [(v : Int)].reverse.contains z) = fun i => decide (i = v) := by
    funext i
    unfold inS
    by_cases h : i = v
    · subst h; simp
    · have : ¬ (i : Int) = (v : Int) := by omega
      simp [h, this]
  unfold exT
  rw [e, exQ_peel (v := v) (by simp), exQ_none (fun i => by by_cases h : i = v <;> simp [h])]
  rfl
theorem prT_parts {S : NS} {x y X Y o : Nat} (hx : Den S x (tbl X)) (hy : Den S y (tbl (exN Y o 4))) (ρ : Nat → Bool) : prT S (inS (fun z => (lst o 4).reverse.contains z)) x y ρ = (tbl (exN X o 4) ρ && tbl (exN Y o 4) ρ) := by
  unfold prT
  rw [inS_lstP (fun _ => Iff.rfl), exQ_congr (g' := fun ρ => tbl X ρ && exQ (setB4 o) (tbl Y) ρ) (fun ρ => by rw [hx.says, hy.says, exQ_tbl]), exQ_idle, exQ_tbl, exQ_tbl]
set_option maxRecDepth 100000 in
set_option maxHeartbeats 6400000 in
theorem quanParts_walk (w : World) (za : Int) (_wa : (Lit.int .i64 za).wf = true) (zb : Int) (_wb : (Lit.int .i64 zb).wf = true) (zs : Int) (_ws : (Lit.int .i64 zs).wf = true) : Calls Try.prog 14 #[.int .i64 za, .int .i64 zb, .int .i64 zs] w (Fine w) := by
  obtain ⟨X, hX, hX2⟩ := low16q za
  obtain ⟨Y, hY, hY2⟩ := low16q zb
  obtain ⟨o, ho1, ho2⟩ := low4 zs
  obtain ⟨t, ht1, ht2⟩ := low4 (zs / 16)
  obtain ⟨v, hv1, hv2⟩ := low2 (zs / 256)
  have hot : bits .or .i64 (o : Int) (t : Int) = ((o ||| t : Nat) : Int) := i64_or _ _ (by omega) (by omega)
  obtain ⟨u, hu⟩ : ∃ u, u = o ||| t := ⟨_, rfl⟩
  rw [← hu] at hot
  have HU := Lib.hid hu
  clear hu
  go_enter Try.func14, Try.ntmps14
  go_wp2_with fail
  refine (begun05 w w.heap.size 3000 (Nat.le_refl _) (by decide) (by decide)).mono ?_
  rintro e w1 ⟨p, q, qn, rfl, hs, ho, hq, hb⟩
  have H1 := Lib.hid (QSt.begin (r := 2998) hs ho hq hb (by decide))
  clear hs ho hq hb
  go_wp2_with fail
  refine (make_ok w1 _ p _ X hX2 H1.out.sto H1.out.hB H1.out.v4).mono ?_
  intro e w2 hr
  obtain ⟨S2, x, rfl, ho, hg⟩ := H1.out.made hr (by decide)
  have H2 := Lib.hid ho; have Dx := Lib.hid hg.den
  clear hr ho hg
  go_wp2_with fail
  refine (exists_ok w2 Y o hY2).mono ?_
  rintro e w' ⟨rfl, rfl⟩
  go_wp2_with fail
  refine (make_ok w2 _ p _ (exN Y o 4) (exN_lt hY2 4) H2.out.sto H2.out.hB H2.out.v4).mono ?_
  intro e w3 hr
  obtain ⟨S3, y, rfl, ho, hg⟩ := H2.out.made hr (by decide)
  have H3 := Lib.hid ho; have Dy := Lib.hid hg.den
  replace Dx := Lib.hid (hg.lift Dx.out)
  clear hr ho hg
  obtain ⟨N, hN⟩ : ∃ N, (lst o 4).length = N := ⟨_, rfl⟩
  obtain ⟨M, hM⟩ : ∃ M, (lst t 4).length = M := ⟨_, rfl⟩
  obtain ⟨K, hK⟩ : ∃ K, (lst u 4).length = K := ⟨_, rfl⟩
  have HN := Lib.hid hN; have HM := Lib.hid hM; have HK := Lib.hid hK
  have hNl : N ≤ 4 := by rw [← hN]; exact lst_len o 4
  have hMl : M ≤ 4 := by rw [← hM]; exact lst_len t 4
  have hKl : K ≤ 4 := by rw [← hK]; exact lst_len u 4
  have HNl := Lib.hid hNl; have HMl := Lib.hid hMl; have HKl := Lib.hid hKl
  clear hN hM hK hNl hMl hKl
  go_wp2_with fail
  refine (list_ok w3 o).mono ?_
  rintro e w4 ⟨la, lc, rfl, hc, hb, hlc, htb⟩
  have H4 := Lib.hid (H3.out.below hb)
  have HCL := Lib.hid hc
  rw [HN.out] at hlc ⊢
  clear hb htb
  have HE := Lib.hid (qex_ok w4 _ p q qn S3 H4.out.sto H4.out.ops H4.out.qu H4.out.hB x Dx.out.is la (lst o 4) lc (by rw [HN.out]; have := HNl.out; omega) HCL.out (lst_vok H4.out.v4 (fun z h => h)) 32 (by rw [H4.out.v4]; decide))
  rw [HN.out] at HE
  clear hlc hc
  go_wp2_with fail
  refine HE.out.mono ?_
  intro e w5 hr
  obtain ⟨S4, m1, rfl, ho, hg⟩ := H4.out.got hr (by decide)
  have H5 := Lib.hid ho; have Dm1 := Lib.hid (hg.den.cong (g' := tbl (exN X o 4)) (fun ρ => exT_list Dx.out (fun _ => Iff.rfl) ρ))
  replace Dx := Lib.hid (hg.lift Dx.out)
  replace Dy := Lib.hid (hg.lift Dy.out)
  clear hr ho hg
  go_wp2_with fail
  refine (list_ok w5 t).mono ?_
  rintro e w6 ⟨la, lc, rfl, hc, hb, hlc, htb⟩
  have H6 := Lib.hid (H5.out.below hb)
  have HCL := Lib.hid hc
  rw [HM.out] at hlc ⊢
  clear hb htb
  have HE := Lib.hid (qex_ok w6 _ p q qn S4 H6.out.sto H6.out.ops H6.out.qu H6.out.hB m1 Dm1.out.is la (lst t 4) lc (by rw [HM.out]; have := HMl.out; omega) HCL.out (lst_vok H6.out.v4 (fun z h => h)) 32 (by rw [H6.out.v4]; decide))
  rw [HM.out] at HE
  clear hlc hc
  go_wp2_with fail
  refine HE.out.mono ?_
  intro e w7 hr
  obtain ⟨S5, m2, rfl, ho, hg⟩ := H6.out.got hr (by decide)
  have H7 := Lib.hid ho; have Dm2 := Lib.hid (hg.den.cong (g' := tbl (exN (exN X o 4) t 4)) (fun ρ => exT_list Dm1.out (fun _ => Iff.rfl) ρ))
  replace Dx := Lib.hid (hg.lift Dx.out)
  replace Dy := Lib.hid (hg.lift Dy.out)
  replace Dm1 := Lib.hid (hg.lift Dm1.out)
  clear hr ho hg
  go_wp2_with fail
  refine (list_ok w7 u).mono ?_
  rintro e w8 ⟨la, lc, rfl, hc, hb, hlc, htb⟩
  have H8 := Lib.hid (H7.out.below hb)
  have HCL := Lib.hid hc
  rw [HK.out] at hlc ⊢
  clear hb htb
  have HE := Lib.hid (qex_ok w8 _ p q qn S5 H8.out.sto H8.out.ops H8.out.qu H8.out.hB x Dx.out.is la (lst u 4) lc (by rw [HK.out]; have := HKl.out; omega) HCL.out (lst_vok H8.out.v4 (fun z h => h)) 32 (by rw [H8.out.v4]; decide))
  rw [HK.out] at HE
  clear hlc hc
  go_wp2_with fail
  refine HE.out.mono ?_
  intro e w9 hr
  obtain ⟨S6, n1, rfl, ho, hg⟩ := H8.out.got hr (by decide)
  have H9 := Lib.hid ho; have Dn1 := Lib.hid (hg.den.cong (g' := tbl (exN X u 4)) (fun ρ => exT_list Dx.out (fun _ => Iff.rfl) ρ))
  replace Dx := Lib.hid (hg.lift Dx.out)
  replace Dy := Lib.hid (hg.lift Dy.out)
  replace Dm1 := Lib.hid (hg.lift Dm1.out)
  replace Dm2 := Lib.hid (hg.lift Dm2.out)
  clear hr ho hg
  obtain rfl : m2 = n1 := Den.same H9.out.wf (Dm2.out.cong (g' := tbl (exN X u 4)) (fun ρ => by rw [HU.out]; exact exN_two X o t ρ)) Dn1.out
  clear Dn1
  have HE := Lib.hid (qrs_ok w9 _ p q qn S6 H9.out.sto H9.out.ops H9.out.qu H9.out.hB x v false Dx.out.is (by rw [H9.out.v4]; exact hv2) 15 (by rw [H9.out.v4]; decide))
  
  go_wp2_with fail
  refine HE.out.mono ?_
  intro e w10 hr
  obtain ⟨S7, lo, rfl, ho, hg⟩ := H9.out.got hr (by decide)
  have H10 := Lib.hid ho; have Dlo := Lib.hid (hg.den.cong (g' := fun ρ => tbl X (upR ρ v false)) (fun ρ => Dx.out.says _))
  replace Dx := Lib.hid (hg.lift Dx.out)
  replace Dy := Lib.hid (hg.lift Dy.out)
  replace Dm1 := Lib.hid (hg.lift Dm1.out)
  replace Dm2 := Lib.hid (hg.lift Dm2.out)
  clear hr ho hg
  have HE := Lib.hid (qrs_ok w10 _ p q qn S7 H10.out.sto H10.out.ops H10.out.qu H10.out.hB x v true Dx.out.is (by rw [H10.out.v4]; exact hv2) 15 (by rw [H10.out.v4]; decide))
  
  go_wp2_with fail
  refine HE.out.mono ?_
  intro e w11 hr
  obtain ⟨S8, hi, rfl, ho, hg⟩ := H10.out.got hr (by decide)
  have H11 := Lib.hid ho; have Dhi := Lib.hid (hg.den.cong (g' := fun ρ => tbl X (upR ρ v true)) (fun ρ => Dx.out.says _))
  replace Dx := Lib.hid (hg.lift Dx.out)
  replace Dy := Lib.hid (hg.lift Dy.out)
  replace Dm1 := Lib.hid (hg.lift Dm1.out)
  replace Dm2 := Lib.hid (hg.lift Dm2.out)
  replace Dlo := Lib.hid (hg.lift Dlo.out)
  clear hr ho hg
  go_wp2_with fail
  refine (qops_ok w11 qn p q H11.out.qu).mono ?_
  rintro e w' ⟨rfl, rfl⟩
  have HE := Lib.hid (oor_ok w11 _ p q S8 H11.out.sto H11.out.ops H11.out.hB lo hi _ _ Dlo.out Dhi.out 15 (by rw [H11.out.v4]; decide))
  
  go_wp2_with fail
  refine HE.out.mono ?_
  intro e w12 hr
  obtain ⟨S9, r1, rfl, ho, hg⟩ := H11.out.got hr (by decide)
  have H12 := Lib.hid ho; have Dr1 := Lib.hid (hg.den.cong (g' := fun ρ => tbl X (upR ρ v false) || tbl X (upR ρ v true)) (fun _ => rfl))
  replace Dx := Lib.hid (hg.lift Dx.out)
  replace Dy := Lib.hid (hg.lift Dy.out)
  replace Dm1 := Lib.hid (hg.lift Dm1.out)
  replace Dm2 := Lib.hid (hg.lift Dm2.out)
  replace Dlo := Lib.hid (hg.lift Dlo.out)
  replace Dhi := Lib.hid (hg.lift Dhi.out)
  clear hr ho hg
  obtain ⟨w13, hw⟩ : ∃ W, W = w12.alloc (.cells #[.int .i64 (v : Int)] 3) := ⟨_, rfl⟩
  have hb : Below w12.heap.size w12 w13 := by rw [hw]; exact (Below.refl _ _).alloc (Nat.le_refl _) _
  have hc : Cells w13 (some ⟨w12.heap.size, 0, none⟩) [.int .i64 (v : Int)] := by rw [hw]; exact Cells.lit w12 _ _
  have H13 := Lib.hid (H12.out.below hb)
  have HE := Lib.hid (qex_ok w13 _ p q qn S9 H13.out.sto H13.out.ops H13.out.qu H13.out.hB x Dx.out.is (some ⟨w12.heap.size, 0, none⟩) [(v : Int)] 1 (by simp) hc (by have := H13.out.v4; simp [vOk, this]; omega) 32 (by rw [H13.out.v4]; decide))
  rw [hw] at HE
  have HW := Lib.hid hw
  clear hw hb hc
  go_wp2_with fail
  refine HE.out.mono ?_
  rw [← HW.out]
  intro e w14 hr
  obtain ⟨S10, r2, rfl, ho, hg⟩ := H13.out.got hr (by decide)
  have H14 := Lib.hid ho; have Dr2 := Lib.hid (hg.den.cong (g' := fun ρ => tbl X (upR ρ v false) || tbl X (upR ρ v true)) (fun ρ => by rw [exT_oneV ρ]; unfold rsT; rw [Dx.out.says, Dx.out.says]))
  replace Dx := Lib.hid (hg.lift Dx.out)
  replace Dy := Lib.hid (hg.lift Dy.out)
  replace Dm1 := Lib.hid (hg.lift Dm1.out)
  replace Dm2 := Lib.hid (hg.lift Dm2.out)
  replace Dlo := Lib.hid (hg.lift Dlo.out)
  replace Dhi := Lib.hid (hg.lift Dhi.out)
  replace Dr1 := Lib.hid (hg.lift Dr1.out)
  clear hr ho hg
  obtain rfl : r1 = r2 := Den.same H14.out.wf Dr1.out Dr2.out
  clear Dr2
  go_wp2_with fail
  refine (list_ok w14 o).mono ?_
  rintro e w15 ⟨la, lc, rfl, hc, hb, hlc, htb⟩
  have H15 := Lib.hid (H14.out.below hb)
  have HCL := Lib.hid hc
  rw [HN.out] at hlc ⊢
  clear hb htb
  have HE := Lib.hid (qprod_ok w15 _ p q qn S10 H15.out.sto H15.out.ops H15.out.qu H15.out.hB x y Dx.out.is Dy.out.is la (lst o 4) lc (by rw [HN.out]; have := HNl.out; omega) HCL.out (lst_vok H15.out.v4 (fun z h => h)) 32 (by rw [H15.out.v4]; decide))
  rw [HN.out] at HE
  clear hlc hc
  go_wp2_with fail
  refine HE.out.mono ?_
  intro e w16 hr
  obtain ⟨S11, pr, rfl, ho, hg⟩ := H15.out.got hr (by decide)
  have H16 := Lib.hid ho; have Dpr := Lib.hid (hg.den.cong (g' := fun ρ => tbl (exN X o 4) ρ && tbl (exN Y o 4) ρ) (fun ρ => prT_parts Dx.out Dy.out ρ))
  replace Dx := Lib.hid (hg.lift Dx.out)
  replace Dy := Lib.hid (hg.lift Dy.out)
  replace Dm1 := Lib.hid (hg.lift Dm1.out)
  replace Dm2 := Lib.hid (hg.lift Dm2.out)
  replace Dlo := Lib.hid (hg.lift Dlo.out)
  replace Dhi := Lib.hid (hg.lift Dhi.out)
  replace Dr1 := Lib.hid (hg.lift Dr1.out)
  clear hr ho hg
  go_wp2_with fail
  refine (list_ok w16 o).mono ?_
  rintro e w17 ⟨la, lc, rfl, hc, hb, hlc, htb⟩
  have H17 := Lib.hid (H16.out.below hb)
  have HCL := Lib.hid hc
  rw [HN.out] at hlc ⊢
  clear hb htb
  have HE := Lib.hid (qex_ok w17 _ p q qn S11 H17.out.sto H17.out.ops H17.out.qu H17.out.hB x Dx.out.is la (lst o 4) lc (by rw [HN.out]; have := HNl.out; omega) HCL.out (lst_vok H17.out.v4 (fun z h => h)) 32 (by rw [H17.out.v4]; decide))
  rw [HN.out] at HE
  clear hlc hc
  go_wp2_with fail
  refine HE.out.mono ?_
  intro e w18 hr
  obtain ⟨S12, xo, rfl, ho, hg⟩ := H17.out.got hr (by decide)
  have H18 := Lib.hid ho; have Dxo := Lib.hid (hg.den.cong (g' := tbl (exN X o 4)) (fun ρ => exT_list Dx.out (fun _ => Iff.rfl) ρ))
  replace Dx := Lib.hid (hg.lift Dx.out)
  replace Dy := Lib.hid (hg.lift Dy.out)
  replace Dm1 := Lib.hid (hg.lift Dm1.out)
  replace Dm2 := Lib.hid (hg.lift Dm2.out)
  replace Dlo := Lib.hid (hg.lift Dlo.out)
  replace Dhi := Lib.hid (hg.lift Dhi.out)
  replace Dr1 := Lib.hid (hg.lift Dr1.out)
  replace Dpr := Lib.hid (hg.lift Dpr.out)
  clear hr ho hg
  go_wp2_with fail
  refine (qops_ok w18 qn p q H18.out.qu).mono ?_
  rintro e w' ⟨rfl, rfl⟩
  have HE := Lib.hid (oand_ok w18 _ p q S12 H18.out.sto H18.out.ops H18.out.hB xo y _ _ Dxo.out Dy.out 15 (by rw [H18.out.v4]; decide))
  
  go_wp2_with fail
  refine HE.out.mono ?_
  intro e w19 hr
  obtain ⟨S13, an, rfl, ho, hg⟩ := H18.out.got hr (by decide)
  have H19 := Lib.hid ho; have Dan := Lib.hid (hg.den.cong (g' := fun ρ => tbl (exN X o 4) ρ && tbl (exN Y o 4) ρ) (fun _ => rfl))
  replace Dx := Lib.hid (hg.lift Dx.out)
  replace Dy := Lib.hid (hg.lift Dy.out)
  replace Dm1 := Lib.hid (hg.lift Dm1.out)
  replace Dm2 := Lib.hid (hg.lift Dm2.out)
  replace Dlo := Lib.hid (hg.lift Dlo.out)
  replace Dhi := Lib.hid (hg.lift Dhi.out)
  replace Dr1 := Lib.hid (hg.lift Dr1.out)
  replace Dpr := Lib.hid (hg.lift Dpr.out)
  replace Dxo := Lib.hid (hg.lift Dxo.out)
  clear hr ho hg
  obtain rfl : pr = an := Den.same H19.out.wf Dpr.out Dan.out
  go_wp2_with fail
  refine (awake05 w19).mono ?_
  rintro e w100 ⟨rfl, hb100⟩
  have H100 := Lib.hid (H19.out.below hb100)
  clear hb100
  go_wp2_with fail
  go_ret
  exact ⟨rfl, H100.out.toOSt.fin⟩
end Go.Proofs.Ytffkehefkmdadaa
