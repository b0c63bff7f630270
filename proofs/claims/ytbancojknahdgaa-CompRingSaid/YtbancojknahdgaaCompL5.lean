/- CompRing's walk. -/
import Derived.Test.YtbancojknahdgaaCompS
import Derived.Test.YtbancojknahdgaaCompL2
namespace Go.Proofs.Ytbancojknahdgaa
open Go.RowKit CP
theorem low10 (z : Int) : ∃ Z : Nat, bits .and .i64 z 1023 = (Z : Int) ∧ Z < 1024 := ⟨(z % 1024).toNat, by rw [show bits .and .i64 z 1023 = z % 1024 from and_low z 10 (by decide)]; omega, by omega⟩
theorem low16 (z : Int) : ∃ Z : Nat, bits .and .i64 z 65535 = (Z : Int) ∧ Z < 65536 := ⟨(z % 65536).toNat, by rw [show bits .and .i64 z 65535 = z % 65536 from and_low z 16 (by decide)]; omega, by omega⟩
theorem ring_take {n i r : Nat} (hi : i < n) (hr : (i + 1) % n = r) : ((ringZ n).take (i + 1)).flatMap pairCells = ((ringZ n).take i).flatMap pairCells ++ [.int .i64 (i : Int), .int .i64 (r : Int)] := by
  have h1 : (ringZ n)[i]? = some ((i : Int), (r : Int)) := by
    unfold ringZ
    rw [List.getElem?_map, List.getElem?_range hi, ← hr]; rfl
  rw [List.take_add_one, h1, List.flatMap_append]; rfl
theorem own_someC {w : World} {base e size n : Nat} {v : Value} {xs : List Value} (h : w.ownsRow base e size v n xs) (hn : 0 < n) : ∃ g cap, v = .slice (some ⟨g, 0, none⟩) n cap := by
  rcases h.2 with ⟨_, h2⟩ | ⟨g, cap, cur, h1, _⟩
  · omega
  · exact ⟨g, cap, h1⟩
theorem Cells.left {w : World} {a : Option Addr} {xs ys : List Value} (h : Cells w a (xs ++ ys)) : Cells w a xs := fun hx => by
  obtain ⟨b, off, e, hb, hh⟩ := h (by intro h0; exact hx (List.append_eq_nil_iff.1 h0).1)
  exact ⟨b, off, e, hb, fun i v hv => hh i v (by rw [List.getElem?_append_left (List.getElem?_eq_some_iff.1 hv).1]; exact hv)⟩
theorem Cells.right {w : World} {b off : Nat} {xs ys : List Value} (h : Cells w (some ⟨b, off, none⟩) (xs ++ ys)) : Cells w (some ⟨b, off + xs.length, none⟩) ys := fun hy => by
  obtain ⟨b2, off2, e, hb, hh⟩ := h (by intro h0; exact hy (List.append_eq_nil_iff.1 h0).2)
  injection e with e
  injection e with e1 e2 _
  subst e1 e2
  refine ⟨b, off + xs.length, rfl, hb, fun i v hv => ?_⟩
  have := hh (xs.length + i) v (by rw [List.getElem?_append_right (by omega), show xs.length + i - xs.length = i from by omega]; exact hv)
  rw [Nat.add_assoc]; exact this
theorem Cells.pairs_take {w : World} {a : Option Addr} {l : List (Int × Int)} (h : Cells w a (l.flatMap pairCells)) (k : Nat) : Cells w a ((l.take k).flatMap pairCells) := by
  rw [← List.take_append_drop k l, List.flatMap_append] at h
  exact h.left
theorem Cells.pairs_drop {w : World} {b off : Nat} {l : List (Int × Int)} (h : Cells w (some ⟨b, off, none⟩) (l.flatMap pairCells)) {k : Nat} (hk : k ≤ l.length) : Cells w (some ⟨b, off + k * 2, none⟩) ((l.drop k).flatMap pairCells) := by
  rw [← List.take_append_drop k l, List.flatMap_append] at h
  have h2 := h.right
  rw [pairs_len, List.length_take, Nat.min_eq_left hk] at h2
  exact h2
set_option maxRecDepth 100000 in
set_option maxHeartbeats 25600000 in
theorem compRing_walk (w : World) (z : Int) (_zw : (Lit.int .i64 z).wf = true) (zg : Int) (_zgw : (Lit.int .i64 zg).wf = true) :
    Calls Try.prog 14 #[.int .i64 z, .int .i64 zg] w (FineC w) := by
  obtain ⟨Z, hz1, hz2⟩ := low10 z
  obtain ⟨G, hg1, hg2⟩ := low16 zg
  obtain ⟨j0, hj0, yz0, yz1, yz2⟩ := info_parts pair_info
  go_enter Try.func14, Try.ntmps14
  go_upto_if 20 with (fail)
  go_cut [5] (fun x wc => wc = w ∧ ∃ n : Nat, x = .int .i64 (n : Int) ∧ 2 ≤ n ∧ n ≤ 1024)
  case first =>
    by_cases h : 1024 < 2 + Z
    · go_wp2_with fail
      go_meet
      case rel => exact ⟨rfl, 1024, rfl, by omega, by omega⟩
    · go_wp2_with fail
      go_meet
      case rel => exact ⟨rfl, 2 + Z, by go_num, by omega, by omega⟩
  case rest =>
    obtain ⟨rfl, n, rfl, hn1, hn2⟩ := hcut
    clear hz1 hz2
    go_wp2_with fail
    go_loopg [6, 7] n (fun m y x wr => ∃ i : Nat, m + i = n ∧ x = .int .i64 (i : Int) ∧ Below wc.heap.size wc wr ∧ wr.ownsRow wc.heap.size 64 2 y i (((ringZ n).take i).flatMap pairCells))
    case atStart => exact ⟨0, rfl, rfl, Below.refl _ _, World.ownsRow_nil _ _ _ _⟩
    case round =>
      obtain ⟨i, hm2, rfl, hb, hrow⟩ := hrel
      have HM := Lib.hid hm2; have HB := Lib.hid hb; have HROW := Lib.hid hrow
      have hws : wc.heap.size ≤ wr.heap.size := hb.size
      clear hm2 hb hrow
      by_cases hi : i < n
      · have hn0 : ¬ n = 0 := by omega
        obtain ⟨r, hr⟩ : ∃ r, (i + 1) % n = r := ⟨_, rfl⟩
        have t0 : ((i : Int) + 1).tmod (n : Int) = (r : Int) := by rw [← hr]; rfl
        have HT := Lib.hid (ring_take hi hr)
        clear hr
        go_wp2_with (at_builtin; refine wpList_append_sep rfl (.tmp 26) (.tmp 33) 54 rfl wc.heap.size 64 j0 (.agg #[.int .i64 0, .int .i64 0]) 2 16 Try.underlying54 hj0 yz0 yz1 yz2 rfl (by decide) u6 i _ rfl (HROW.out.alloc _) wr.heap.size 0 1 1 [.int .i64 (i : Int), .int .i64 (r : Int)] rfl rfl (pair_lits0 _ _ _ _) (pair_ones _ _) (by unfold maxLen; omega) (by omega) (by simp; omega) ?_)
        intro y7 w7 hown hg7 hsep
        have HR7 : Hid (w7.ownsRow wc.heap.size 64 2 y7 (i + 1) (((ringZ n).take (i + 1)).flatMap pairCells)) := Lib.hid (by rw [HT.out]; exact hown)
        have HB7 : Hid (Below wc.heap.size wc w7) := Lib.hid ((HB.out.alloc hws (.cells #[.int .i64 (i : Int), .int .i64 (r : Int)] 64)).grown hg7 (Nat.le_trans hws (Nat.le_of_lt (by simp))) (fun j hj => (HROW.out.lt j hj).1))
        clear hown hg7 hsep HROW HB
        go_wp2_with fail
        go_roundg (n - (i + 1))
        case measure => have := HM.out; omega
        case rel => exact ⟨i + 1, by have := HM.out; omega, by go_num, HB7.out, HR7.out⟩
      · have hin : i = n := by have := HM.out; omega
        subst hin
        have hrow := HROW.out
        rw [List.take_of_length_le (by rw [ringZ_len]; exact Nat.le_refl _)] at hrow
        obtain ⟨lb, lc, rfl⟩ := own_someC hrow (by omega)
        obtain ⟨la', lc', hle, hlcn, hlcm, hlcells⟩ := Cells.of_own hrow
        injection hle with e1 _ e3
        subst e1 e3
        have HLC := Lib.hid hlcells
        have HB1 := Lib.hid HB.out
        have hMAY := ring_may (n := i) (by omega) hn2
        have hcs := comps_ok wr (i : Int) (some ⟨lb, 0, none⟩) (ringZ i) lc (by rw [ringZ_len]; unfold maxLen; omega) hlcells
        rw [ringZ_len] at hcs
        have HC := Lib.hid hcs; have HMAY := Lib.hid hMAY
        clear hrow hlcells hcs hMAY HB HROW
        go_wp2_with fail
        refine HC.out.mono ?_
        rintro e w2 ⟨hb2, h | h⟩
        · exact absurd h.1 (by rw [HMAY.out]; decide)
        obtain ⟨_, y2, rfl, hr2⟩ := h
        rw [Int.toNat_natCast, natE_ring] at hr2
        obtain ⟨ca, cc, rfl, _, _, hcc⟩ := Cells.of_own hr2
        have HZ : Hid (∀ v, v < i → cmp i (ringE i) v = 0) := Lib.hid (fun v hv => ring_cmp hv)
        obtain ⟨C, hC⟩ : ∃ C : Nat → Nat, cmp i (ringE i) = C := ⟨_, rfl⟩
        rw [hC] at HZ hcc
        have HCC := Lib.hid hcc
        have HLC2 := Lib.hid (HLC.out.below hb2)
        have HB2 := Lib.hid (HB1.out.trans (hb2.mono HB1.out.size))
        have hbl : lb < w2.heap.size := by
          obtain ⟨b, off, e, h, _⟩ := HLC2.out (by
            intro h0
            have := pairs_len (ringZ i)
            rw [h0, ringZ_len] at this
            simp at this; omega)
          injection e with e
          injection e with e _ _
          rw [e]; exact h
        clear hr2 hcc hC hb2 HB1 HLC HC
        go_wp2_with fail
        go_loopg [10] i (fun m x wr => ∃ k : Nat, m + k = i ∧ x = .int .i64 (k : Int) ∧ wr = w2)
        case atStart => exact ⟨0, rfl, rfl, rfl⟩
        case round =>
          obtain ⟨k, hm3, rfl, rfl⟩ := hrel
          have HM3 := Lib.hid hm3
          clear hm3
          by_cases hk : k < i
          · obtain ⟨b2, off2, hca, hbl2, q0⟩ := HCC.out.at_ (iVr_at C hk)
            rw [HZ.out k hk] at q0
            subst hca
            go_wp2_with fail
            go_roundg (i - (k + 1))
            case measure => have := HM3.out; omega
            case rel => exact ⟨k + 1, by have := HM3.out; omega, by go_num, rfl⟩
          · obtain ⟨g, hg⟩ : ∃ g, G % i = g := ⟨_, rfl⟩
            have hgi : g < i := by rw [← hg]; exact Nat.mod_lt _ (by omega)
            have t0 : (G : Int).tmod (i : Int) = (g : Int) := by rw [← hg]; rfl
            have hi0 : ¬ i = 0 := by omega
            have HZL := Lib.hid (lessZ_len hgi)
            have HLM := Lib.hid (less_may hgi hn2)
            have hc1 := HLC2.out.pairs_take g
            have hc2 := HLC2.out.pairs_drop (k := g + 1) (by rw [ringZ_len]; omega)
            rw [Nat.zero_add] at hc2
            have HC1 := Lib.hid hc1; have HC2 := Lib.hid hc2
            have hgl : g ≤ lc := by omega
            have hgl2 : g + 1 ≤ lc := by omega
            clear hg hc1 hc2
            go_wp2_with (at_builtin; refine wpList_append_src rfl (.tmp 63) (.tmp 66) 54 rfl wr.heap.size 64 j0 (.agg #[.int .i64 0, .int .i64 0]) 2 16 Try.underlying54 hj0 yz0 yz1 yz2 rfl (by decide) (.slice none 0 0) 0 [] rfl (World.ownsRow_nil _ _ _ _) (some ⟨lb, 0, none⟩) g _ (((ringZ i).take g).flatMap pairCells) rfl (by rw [pairs_len, List.length_take, ringZ_len]; omega) HC1.out (pairs_ones _) (by unfold maxLen; omega) (by omega) (Nat.le_refl _) ?_)
            intro y3 w3 hown3 hg3 hnil3
            have hown3' : w3.ownsRow wr.heap.size 64 2 y3 g (((ringZ i).take g).flatMap pairCells) := hown3
            have hb3 : Below wr.heap.size wr w3 := (Below.refl wr.heap.size wr).grown hg3 (Nat.le_refl _) (fun j hj => by cases hj)
            have HR3 := Lib.hid hown3'
            have HC3 := Lib.hid (HC2.out.below hb3)
            have HB3 := Lib.hid hb3
            have hsz3 : wr.heap.size ≤ w3.heap.size := hb3.size
            have hlen : ((ringZ i).drop (g + 1)).length = i - (g + 1) := by rw [List.length_drop, ringZ_len]
            have HLEN := Lib.hid hlen
            clear hown3 hown3' hg3 hnil3 hb3 hlen HC1 HC2
            by_cases hlc : lc = g + 1
            · have HC3' : Hid (Cells w3 (some ⟨lb, 0, none⟩) (((ringZ i).drop (g + 1)).flatMap pairCells)) := Lib.hid (by
                have e : (ringZ i).drop (g + 1) = [] := List.drop_eq_nil_of_le (by rw [ringZ_len]; omega)
                rw [e]; exact Cells.nil _ _)
              go_wp2_with (at_builtin; refine wpList_append_src rfl (.tmp 68) (.tmp 72) 54 rfl wr.heap.size 64 j0 (.agg #[.int .i64 0, .int .i64 0]) 2 16 Try.underlying54 hj0 yz0 yz1 yz2 rfl (by decide) y3 g _ rfl HR3.out (some ⟨lb, 0, none⟩) (i - (g + 1)) _ (((ringZ i).drop (g + 1)).flatMap pairCells) rfl (by rw [pairs_len, HLEN.out]) HC3'.out (pairs_ones _) (by unfold maxLen; omega) (by omega) hsz3 ?_)
              intro y4 w4 hown4 hg4 hnil4
              have hown5 : w4.ownsRow wr.heap.size 64 2 y4 (i - 1) ((lessZ i g).flatMap pairCells) := by
                unfold lessZ
                rw [List.flatMap_append, show i - 1 = g + (i - (g + 1)) from by omega]; exact hown4
              have hb4 : Below wr.heap.size wr w4 := HB3.out.trans ((Below.refl wr.heap.size w3).grown hg4 hsz3 (fun j hj => (HR3.out.lt j hj).1))
              have HB4 := Lib.hid (HB2.out.trans (hb4.mono HB2.out.size))
              obtain ⟨ya, yc, rfl, _, _, hyc⟩ := Cells.of_own hown5
              have hcs := comps_ok w4 (i : Int) ya (lessZ i g) yc (by rw [HZL.out]; unfold maxLen; omega) hyc
              rw [HZL.out] at hcs
              have HCS := Lib.hid hcs
              clear hown4 hown5 hg4 hnil4 hb4 hyc hcs HR3 HB3 HC3 HB2 HCC HLC2
              go_wp2_with fail
              refine HCS.out.mono ?_
              rintro e w5 ⟨hb5, h | h⟩
              · exact absurd h.1 (by rw [HLM.out]; decide)
              obtain ⟨_, y5, rfl, hr5⟩ := h
              rw [Int.toNat_natCast, natE_less] at hr5
              obtain ⟨da, dc, rfl, _, _, hdc⟩ := Cells.of_own hr5
              have HP : Hid (∀ v, v < i → cmp i (lessE i g) ((g + 1 + v) % i) = v) := Lib.hid (fun v hv => by rw [less_cmp hgi (Nat.mod_lt _ (by omega)), pos_at hgi hv])
              obtain ⟨D, hD⟩ : ∃ D : Nat → Nat, cmp i (lessE i g) = D := ⟨_, rfl⟩
              rw [hD] at HP hdc
              have HDC := Lib.hid hdc
              have HB5 := Lib.hid (HB4.out.trans (hb5.mono HB4.out.size))
              clear hr5 hdc hD hb5 HB4 HCS
              go_wp2_with fail
              go_loopg [15] i (fun m x wr => ∃ k : Nat, m + k = i ∧ x = .int .i64 (k : Int) ∧ wr = w5)
              case atStart => exact ⟨0, rfl, rfl, rfl⟩
              case round =>
                obtain ⟨v, hm5, rfl, rfl⟩ := hrel
                have HM5 := Lib.hid hm5
                clear hm5
                by_cases hv : v < i
                · obtain ⟨r, hr⟩ : ∃ r, (g + 1 + v) % i = r := ⟨_, rfl⟩
                  have hri : r < i := by rw [← hr]; exact Nat.mod_lt _ (by omega)
                  have t1 : ((g : Int) + 1 + (v : Int)).tmod (i : Int) = (r : Int) := by rw [← hr]; rfl
                  obtain ⟨b2, off2, hda, hbl2, q0⟩ := HDC.out.at_ (iVr_at D hri)
                  have hp := HP.out v hv
                  rw [hr] at hp
                  rw [hp] at q0
                  subst hda
                  clear hr hp
                  go_wp2_with fail
                  go_roundg (i - (v + 1))
                  case measure => have := HM5.out; omega
                  case rel => exact ⟨v + 1, by have := HM5.out; omega, by go_num, rfl⟩
                · rename_i w5'
                  go_wp2_with fail
                  refine (awake19 _).mono ?_
                  rintro e w9 ⟨rfl, hb9⟩
                  have HB9 := Lib.hid hb9
                  clear hb9
                  go_wp2_with fail
                  go_ret
                  exact ⟨rfl, HB5.out.trans (HB9.out.mono HB5.out.size)⟩
            · go_wp2_with (at_builtin; refine wpList_append_src rfl (.tmp 68) (.tmp 72) 54 rfl wr.heap.size 64 j0 (.agg #[.int .i64 0, .int .i64 0]) 2 16 Try.underlying54 hj0 yz0 yz1 yz2 rfl (by decide) y3 g _ rfl HR3.out (some ⟨lb, (g + 1) * 2, none⟩) (i - (g + 1)) _ (((ringZ i).drop (g + 1)).flatMap pairCells) rfl (by rw [pairs_len, HLEN.out]) HC3.out (pairs_ones _) (by unfold maxLen; omega) (by omega) hsz3 ?_)
              intro y4 w4 hown4 hg4 hnil4
              have hown5 : w4.ownsRow wr.heap.size 64 2 y4 (i - 1) ((lessZ i g).flatMap pairCells) := by
                unfold lessZ
                rw [List.flatMap_append, show i - 1 = g + (i - (g + 1)) from by omega]; exact hown4
              have hb4 : Below wr.heap.size wr w4 := HB3.out.trans ((Below.refl wr.heap.size w3).grown hg4 hsz3 (fun j hj => (HR3.out.lt j hj).1))
              have HB4 := Lib.hid (HB2.out.trans (hb4.mono HB2.out.size))
              obtain ⟨ya, yc, rfl, _, _, hyc⟩ := Cells.of_own hown5
              have hcs := comps_ok w4 (i : Int) ya (lessZ i g) yc (by rw [HZL.out]; unfold maxLen; omega) hyc
              rw [HZL.out] at hcs
              have HCS := Lib.hid hcs
              clear hown4 hown5 hg4 hnil4 hb4 hyc hcs HR3 HB3 HC3 HB2 HCC HLC2
              go_wp2_with fail
              refine HCS.out.mono ?_
              rintro e w5 ⟨hb5, h | h⟩
              · exact absurd h.1 (by rw [HLM.out]; decide)
              obtain ⟨_, y5, rfl, hr5⟩ := h
              rw [Int.toNat_natCast, natE_less] at hr5
              obtain ⟨da, dc, rfl, _, _, hdc⟩ := Cells.of_own hr5
              have HP : Hid (∀ v, v < i → cmp i (lessE i g) ((g + 1 + v) % i) = v) := Lib.hid (fun v hv => by rw [less_cmp hgi (Nat.mod_lt _ (by omega)), pos_at hgi hv])
              obtain ⟨D, hD⟩ : ∃ D : Nat → Nat, cmp i (lessE i g) = D := ⟨_, rfl⟩
              rw [hD] at HP hdc
              have HDC := Lib.hid hdc
              have HB5 := Lib.hid (HB4.out.trans (hb5.mono HB4.out.size))
              clear hr5 hdc hD hb5 HB4 HCS
              go_wp2_with fail
              go_loopg [15] i (fun m x wr => ∃ k : Nat, m + k = i ∧ x = .int .i64 (k : Int) ∧ wr = w5)
              case atStart => exact ⟨0, rfl, rfl, rfl⟩
              case round =>
                obtain ⟨v, hm5, rfl, rfl⟩ := hrel
                have HM5 := Lib.hid hm5
                clear hm5
                by_cases hv : v < i
                · obtain ⟨r, hr⟩ : ∃ r, (g + 1 + v) % i = r := ⟨_, rfl⟩
                  have hri : r < i := by rw [← hr]; exact Nat.mod_lt _ (by omega)
                  have t1 : ((g : Int) + 1 + (v : Int)).tmod (i : Int) = (r : Int) := by rw [← hr]; rfl
                  obtain ⟨b2, off2, hda, hbl2, q0⟩ := HDC.out.at_ (iVr_at D hri)
                  have hp := HP.out v hv
                  rw [hr] at hp
                  rw [hp] at q0
                  subst hda
                  clear hr hp
                  go_wp2_with fail
                  go_roundg (i - (v + 1))
                  case measure => have := HM5.out; omega
                  case rel => exact ⟨v + 1, by have := HM5.out; omega, by go_num, rfl⟩
                · rename_i w5'
                  go_wp2_with fail
                  refine (awake19 _).mono ?_
                  rintro e w9 ⟨rfl, hb9⟩
                  have HB9 := Lib.hid hb9
                  clear hb9
                  go_wp2_with fail
                  go_ret
                  exact ⟨rfl, HB5.out.trans (HB9.out.mono HB5.out.size)⟩
end Go.Proofs.Ytbancojknahdgaa
