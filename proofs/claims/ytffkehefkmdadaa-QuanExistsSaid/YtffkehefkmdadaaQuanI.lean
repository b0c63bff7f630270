/- QuanExists: the walk. -/
import Derived.Test.YtffkehefkmdadaaQuanH
namespace Go.Proofs.Ytffkehefkmdadaa
open Go.RowKit HP NP
theorem exT_list {S : NS} {x X set : Nat} (hd : Den S x (tbl X)) {vs : List Int} (hvs : ∀ z, z ∈ vs ↔ z ∈ lst set 4) (ρ : Nat → Bool) : exT S (inS (fun z => vs.reverse.contains z)) x ρ = tbl (exN X set 4) ρ := by
  have e1 : inS (fun z => vs.reverse.contains z) = setB4 set := by
    funext i
    unfold inS setB4
    have h := (hvs (i : Int)).trans (lst_mem set 4 i)
    by_cases hc : i < 4 ∧ set.testBit i = true
    · rw [decide_eq_true hc.1, hc.2]
      have := h.2 hc
      simpa using this
    · have hn : ¬ (i : Int) ∈ vs := fun hh => hc (h.1 hh)
      have e2 : vs.reverse.contains (i : Int) = false := by simpa using hn
      show vs.reverse.contains (i : Int) = _
      rw [e2]
      by_cases h4 : i < 4
      · rw [decide_eq_true h4]
        cases hb : set.testBit i with
        | false => rfl
        | true => exact absurd ⟨h4, hb⟩ hc
      · rw [decide_eq_false h4]; rfl
  unfold exT
  rw [e1, exQ_congr (g' := tbl X) (fun ρ => hd.says ρ)]
  exact exQ_tbl X set ρ
theorem lst_vok {S : NS} (h4 : S.vars = 4) {set : Nat} {vs : List Int} (hvs : ∀ z, z ∈ vs → z ∈ lst set 4) : vs.all (vOk S) = true := by
  rw [List.all_eq_true]
  intro z hz
  have := lst_lt (hvs z hz)
  unfold vOk
  rw [h4, decide_eq_true this.1, decide_eq_true (show z < ((4 : Nat) : Int) from this.2)]; rfl
theorem low4 (z : Int) : ∃ a : Nat, bits .and .i64 z 15 = (a : Int) ∧ a < 16 := ⟨(z % 16).toNat, by rw [show bits .and .i64 z 15 = z % 16 from and_low z 4 (by decide)]; omega, by omega⟩
theorem drop_rev (L : List Int) (i : Nat) (K : Int) (h : L[i]? = some K) : (L.drop i).reverse = (L.drop (i + 1)).reverse ++ [K] := by
  have hkl : i < L.length := by rcases Nat.lt_or_ge i L.length with h1 | h1; exact h1; rw [List.getElem?_eq_none h1] at h; cases h
  have hKe : L[i] = K := by rw [List.getElem?_eq_getElem hkl] at h; injection h
  rw [List.drop_eq_getElem_cons hkl, List.reverse_cons, hKe]
set_option maxRecDepth 100000 in
set_option maxHeartbeats 6400000 in
theorem quanExists_walk (w : World) (zb : Int) (_wb : (Lit.int .i64 zb).wf = true) (zs : Int) (_ws : (Lit.int .i64 zs).wf = true) : Calls Try.prog 9 #[.int .i64 zb, .int .i64 zs] w (Fine w) := by
  obtain ⟨X, hX, hX2⟩ := low16q zb
  obtain ⟨set, hset, hset2⟩ := low4 zs
  obtain ⟨j0, hj0, yz0, yz1, yz2⟩ := info_parts int_info
  go_enter Try.func9, Try.ntmps9
  go_wp2_with fail
  refine (begun05 w w.heap.size 1000 (Nat.le_refl _) (by decide) (by decide)).mono ?_
  rintro e w1 ⟨p, q, qn, rfl, hs, ho, hq, hb⟩
  have H1 := Lib.hid (QSt.begin (r := 998) hs ho hq hb (by decide))
  clear hs ho hq hb
  go_wp2_with fail
  refine (make_ok w1 _ p _ X hX2 H1.out.sto H1.out.hB H1.out.v4).mono ?_
  intro e w2 hr
  obtain ⟨S2, x, rfl, ho, hg⟩ := H1.out.made hr (by decide)
  have H2 := Lib.hid ho; have Dx := Lib.hid hg.den
  clear hr ho hg
  go_wp2_with fail
  refine (list_ok w2 set).mono ?_
  rintro e w3 ⟨la, lc, rfl, hc3, hb3, hlc, htb3⟩
  have H3 := Lib.hid (H2.out.below hb3); have HC3 := Lib.hid hc3; have HTB3 := Lib.hid htb3
  have hln := lst_len set 4
  obtain ⟨N, hN⟩ : ∃ N, (lst set 4).length = N := ⟨_, rfl⟩
  rw [hN] at hln hlc ⊢
  have HN := Lib.hid hN
  have hw3 : w.heap.size ≤ w3.heap.size := H3.out.hB
  clear hc3 hb3 hN htb3
  go_wp2_with fail
  go_loopg [11, 12] N (fun m y u wr => ∃ (z : Int) (j : Nat), m = j ∧ z + 1 = (j : Int) ∧ j ≤ N ∧ u = .int .i64 z ∧ wr.ownsRow w3.heap.size 3 1 y (N - j) (((lst set 4).drop j).reverse.map fun k => .int .i64 k) ∧ Below w3.heap.size w3 wr)
  case atStart =>
    refine ⟨(N : Int) - 1, N, rfl, by omega, Nat.le_refl _, rfl, ?_, Below.refl _ _⟩
    rw [List.drop_of_length_le (by rw [HN.out]; exact Nat.le_refl _), Nat.sub_self]
    exact World.ownsRow_nil _ _ _ _
  case round =>
    rename_i y _
    obtain ⟨z, j, hm, hz, hjN, rfl, hown, hb⟩ := hrel
    have HM := Lib.hid hm; have HZ := Lib.hid hz; have HOWN := Lib.hid hown; have HB := Lib.hid hb
    have hsz := hb.size
    clear hm hz hown hb
    by_cases h0 : 0 ≤ z
    · obtain ⟨i, rfl⟩ : ∃ i : Nat, z = (i : Int) := ⟨z.toNat, by omega⟩
      have hij : j = i + 1 := by have := HZ.out; omega
      subst hij
      obtain ⟨K, hK⟩ : ∃ K, (lst set 4)[i]? = some K := ⟨_, List.getElem?_eq_getElem (by rw [HN.out]; omega)⟩
      obtain ⟨xb, xo, hla, hxl, hxc⟩ := (HC3.out.below HB.out).at_ (k := i) (v := .int .i64 K) (by rw [List.getElem?_map, hK]; rfl)
      have HKK := Lib.hid hK; have HLA := Lib.hid hla
      subst hla
      obtain ⟨n, hn⟩ : ∃ n, N - (i + 1) = n := ⟨_, rfl⟩
      rw [hn] at HOWN
      have hn4 : n ≤ 4 := by omega
      have HNN := Lib.hid hn
      have hiN : i < N := by omega
      clear hK h0 hn
      go_wp2_with (at_builtin; refine wpList_append_src rfl (.tmp 45) (.tmp 50) 46 rfl w3.heap.size 3 j0 (.int .i64 0) 1 8 Try.underlying46 hj0 yz0 yz1 yz2 rfl (by decide) _ n _ rfl (HOWN.out.alloc _) (some ⟨wr.heap.size, 0, none⟩) 1 1 [.int .i64 K] rfl rfl (Cells.lit _ _ _) (one_int _) (by unfold maxLen; omega) (by omega) (by simp; omega) ?_)
      intro v' w6 hown hg _
      have HO6 := Lib.hid hown
      have HB6 := Lib.hid ((HB.out.alloc hsz (.cells #[.int .i64 K] 3)).grown hg (by simp; omega) (fun j hj => (HOWN.out.lt j hj).1))
      clear hown hg
      go_wp2_with fail
      go_roundg i
      case measure => have := HM.out; omega
      case rel =>
        refine ⟨(i : Int) - 1, i, rfl, by omega, by omega, by go_num, ?_, HB6.out⟩
        have h6 := HO6.out
        rw [drop_rev _ _ _ HKK.out, List.map_append, List.map_reverse, List.map_drop, show N - i = n + 1 by have := HNN.out; omega]
        exact h6
    · have hj : j = 0 := by have := HZ.out; omega
      subst hj
      have hown0 := HOWN.out
      rw [Nat.sub_zero, List.drop_zero] at hown0
      have HO0 := Lib.hid hown0
      have HCW := Lib.hid (HC3.out.below HB.out)
      clear hown0
      have hlist : ∀ u ∈ ((lst set 4).map fun k => Value.int .i64 k), u.oneCell' = true := by
        intro u hu
        obtain ⟨k, _, rfl⟩ := List.mem_map.1 hu
        rfl
      have hlen : ((lst set 4).map fun k => Value.int .i64 k).length = N * 1 := by rw [List.length_map, HN.out, Nat.mul_one]
      have HLI := Lib.hid hlist; have HLE := Lib.hid hlen
      clear hlist hlen
      go_wp2_with (at_builtin; refine wpList_append_src rfl (.tmp 52) (.tmp 53) 46 rfl w3.heap.size 3 j0 (.int .i64 0) 1 8 Try.underlying46 hj0 yz0 yz1 yz2 rfl (by decide) _ N _ rfl HO0.out la N lc ((lst set 4).map fun k => .int .i64 k) rfl HLE.out HCW.out HLI.out (by unfold maxLen; omega) (by omega) hsz ?_)
      intro v' w6 hown hg _
      have HO6 := Lib.hid hown
      have HB6 := Lib.hid (HB.out.grown hg hsz (fun j hj => (HO0.out.lt j hj).1))
      clear hown hg
      obtain ⟨ma, mc, hmv, hm2, hm3, hm4⟩ := Cells.of_own HO6.out
      subst hmv
      have HMC := Lib.hid (show Cells w6 ma (((lst set 4).reverse ++ lst set 4).map fun k => .int .i64 k) by rw [List.map_append, List.map_reverse]; exact hm4)
      have H6 := Lib.hid (H3.out.below HB6.out)
      have HC6 := Lib.hid (HC3.out.below HB6.out)
      clear hm4 hm3
      go_wp2_with fail
      refine (exists_ok w6 X set hX2).mono ?_
      rintro e w' ⟨rfl, rfl⟩
      go_wp2_with fail
      refine (make_ok w6 _ p _ (exN X set 4) (exN_lt hX2 4) H6.out.sto H6.out.hB H6.out.v4).mono ?_
      intro e w7 hr
      have hk7 : Kp TN w.heap.size w6 w7 := by obtain ⟨_, _, h3, _⟩ := hr; exact h3
      obtain ⟨S7, y7, rfl, ho, hg⟩ := H6.out.made hr (by decide)
      have H7 := Lib.hid ho; have Dy := Lib.hid hg.den
      replace Dx := Lib.hid (hg.lift Dx.out)
      have HTM := Lib.hid (own_tbV HO6.out)
      have HT6 := Lib.hid (HTB3.out.below HB6.out)
      have HC7 := Lib.hid (HC6.out.kp HT6.out hk7 rfl); have HT7 := Lib.hid (HT6.out.kp hk7 rfl)
      have HM7 := Lib.hid (HMC.out.kp HTM.out hk7 rfl); have HU7 := Lib.hid (HTM.out.kp hk7 rfl)
      have HE1 := Lib.hid (fun c => qex_ok w7 _ p q qn S7 H7.out.sto H7.out.ops H7.out.qu H7.out.hB x Dx.out.is la (lst set 4) c (by rw [HN.out]; omega) HC7.out (lst_vok H7.out.v4 (fun z h => h)) 32 (by rw [H7.out.v4]; decide))
      rw [HN.out] at HE1
      clear hr ho hg hk7
      go_wp2_with fail
      refine (HE1.out _).mono ?_
      intro e w8 hr
      have hk8 : Kp TO w.heap.size w7 w8 := by obtain ⟨_, _, _, h3, _⟩ := hr; exact h3
      obtain ⟨S8, n1, rfl, ho, hg⟩ := H7.out.got hr (by decide)
      have H8 := Lib.hid ho; have Dn := Lib.hid (hg.den.cong (g' := tbl (exN X set 4)) (fun ρ => exT_list Dx.out (fun _ => Iff.rfl) ρ))
      replace Dx := Lib.hid (hg.lift Dx.out)
      replace Dy := Lib.hid (hg.lift Dy.out)
      have HM8 := Lib.hid (HM7.out.kp HU7.out hk8 rfl)
      clear hr ho hg hk8
      obtain rfl : y7 = n1 := Den.same H8.out.wf Dy.out Dn.out
      have hml : ((lst set 4).reverse ++ lst set 4).length = N + N := by rw [List.length_append, List.length_reverse, HN.out]
      have hmm : ∀ z, z ∈ (lst set 4).reverse ++ lst set 4 ↔ z ∈ lst set 4 := fun z => by simp
      have HE2 := Lib.hid (fun c => qex_ok w8 _ p q qn S8 H8.out.sto H8.out.ops H8.out.qu H8.out.hB x Dx.out.is ma ((lst set 4).reverse ++ lst set 4) c (by rw [hml]; omega) HM8.out (lst_vok H8.out.v4 (fun z h => (hmm z).1 h)) 32 (by rw [H8.out.v4]; decide))
      rw [hml] at HE2
      have HMM := Lib.hid hmm
      clear hml hmm
      go_wp2_with fail
      refine (HE2.out _).mono ?_
      intro e w9 hr
      obtain ⟨S9, n2, rfl, ho, hg⟩ := H8.out.got hr (by decide)
      have H9 := Lib.hid ho; have Dm := Lib.hid (hg.den.cong (g' := tbl (exN X set 4)) (fun ρ => exT_list Dx.out HMM.out ρ))
      replace Dy := Lib.hid (hg.lift Dy.out)
      clear hr ho hg
      obtain rfl : y7 = n2 := Den.same H9.out.wf Dy.out Dm.out
      go_wp2_with fail
      refine (awake05 w9).mono ?_
      rintro e w10 ⟨rfl, hb10⟩
      have H10 := Lib.hid (H9.out.below hb10)
      clear hb10
      go_wp2_with fail
      go_ret
      exact ⟨rfl, H10.out.toOSt.fin⟩
end Go.Proofs.Ytffkehefkmdadaa
