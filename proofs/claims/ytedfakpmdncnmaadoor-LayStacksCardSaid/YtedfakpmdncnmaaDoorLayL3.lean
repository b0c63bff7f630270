/- LayStacks: the walk. -/
import Derived.Test.YtedfakpmdncnmaaDoorLayF
import Derived.Laws.BytesArg
import Derived.Deep.RegionLaw
namespace Go.Proofs.YtedfakpmdncnmaaDoor
open Go.RowKit LY
theorem low4 (z : Int) : ∃ a : Nat, bits .and .i64 z 15 = (a : Int) ∧ a < 16 := ⟨(z % 16).toNat, by rw [show bits .and .i64 z 15 = z % 16 from and_low z 4 (by decide)]; omega, by omega⟩
theorem st_str (i : Nat) : strOfNums [100, ((97 + i : Nat) : Int)] = stN i := rfl
theorem st_conv (w : World) (i : Nat) : (convert 40 9 (.slice (some ⟨w.heap.size, 0, none⟩) 2 2)).run Tryd.prog (w.alloc (.cells #[.int .u8 100, .int .u8 ((97 + i : Nat) : Int)] 5)).drew = .ok (.string (stN i)) (w.alloc (.cells #[.int .u8 100, .int .u8 ((97 + i : Nat) : Int)] 5)).drew := by
  have h := run_convert_bytes_arg (P := Tryd.prog) (w.alloc (.cells #[.int .u8 100, .int .u8 ((97 + i : Nat) : Int)] 5)).drew 40 5 Tryd.underlying40 Tryd.underlying5 w.heap.size 0 2 2 [100, ((97 + i : Nat) : Int)] rfl (fun k hk => by
    match k, hk with
    | 0, _ => exact World.cell?_alloc_new ..
    | 1, _ => exact World.cell?_alloc_new ..) 9 Tryd.underlying9
  rw [st_str] at h
  exact h
theorem shl16 {W : Nat} (h : W < 17) : wrap64 ((2 : Int) ^ W) = ((2 ^ W : Nat) : Int) := by
  have hp : 2 ^ W ≤ 2 ^ 16 := Nat.pow_le_pow_right (by decide) (by omega)
  have e : ((2 : Int) ^ W) = ((2 ^ W : Nat) : Int) := by simp
  rw [e]
  obtain ⟨pv, hpv⟩ : ∃ pv, 2 ^ W = pv := ⟨_, rfl⟩
  rw [hpv] at hp ⊢
  have h30 : (2 : Nat) ^ 16 = 65536 := by decide
  rw [h30] at hp
  unfold wrap64; omega
theorem shl16w {W : Nat} (h : W < 17) : IntKind.i64.wrap ((2 : Int) ^ W) = ((2 ^ W : Nat) : Int) := by
  have hp : 2 ^ W ≤ 2 ^ 16 := Nat.pow_le_pow_right (by decide) (by omega)
  have e : ((2 : Int) ^ W) = ((2 ^ W : Nat) : Int) := by simp
  rw [e]
  obtain ⟨pv, hpv⟩ : ∃ pv, 2 ^ W = pv := ⟨_, rfl⟩
  rw [hpv] at hp ⊢
  have h30 : (2 : Nat) ^ 16 = 65536 := by decide
  rw [h30] at hp
  rw [IntKind.wrap_i64]; omega
theorem dom_lits2 (w : World) (c : Obj) (s : ByteArray) (z : Int) (t : TypeId) : ∀ j u, [Value.string s, .int .i64 z][j]? = some u → ((w.alloc c).alloc (.cells #[.string s, .int .i64 z] t)).drew.cell? ((⟨w.heap.size + 1, 0, none⟩ : Addr).add j) = some u := fun j u hj => by
  have h := dom_lits (w.alloc c) s z t j u hj
  rw [show (w.alloc c).heap.size = w.heap.size + 1 from by simp] at h
  exact h
set_option maxRecDepth 100000 in
set_option maxHeartbeats 12800000 in
theorem layStacks_walk (w : World) (hML : MaxL w) (z : Int) (_zw : (Lit.int .i64 z).wf = true) (y : Int) (_yw : (Lit.int .i64 y).wf = true) :
    Calls Tryd.prog 5 #[.int .i64 z, .int .i64 y] w (Fine7 w) := by
  obtain ⟨za, hza, hza16⟩ := low4 z
  obtain ⟨ya, hya, hya16⟩ := low4 y
  obtain ⟨n, hn⟩ : ∃ n, 1 + za = n := ⟨_, rfl⟩
  obtain ⟨W, hW⟩ : ∃ W, 1 + ya = W := ⟨_, rfl⟩
  have hnz : (1 : Int) + (za : Int) = (n : Int) := by omega
  have hWz : (1 : Int) + (ya : Int) = (W : Int) := by omega
  have hn1 : 1 ≤ n := by omega
  have hn16 : n ≤ 16 := by omega
  have hW1 : 1 ≤ W := by omega
  have hW16 : W ≤ 16 := by omega
  clear hn hW hza16 hya16
  have HML := Lib.hid hML
  clear hML
  obtain ⟨P, hP⟩ : ∃ P, 2 ^ W = P := ⟨_, rfl⟩
  have hshl : wrap64 ((2 : Int) ^ W) = (P : Int) := by rw [← hP]; exact shl16 (by omega)
  have hPle : P ≤ 65536 := by rw [← hP]; exact (show 2 ^ W ≤ 2 ^ 16 from Nat.pow_le_pow_right (by decide) hW16)
  have HP := Lib.hid hP
  clear hP
  obtain ⟨j0, hj0, yz0, yz1, yz2⟩ := info_parts dom_info
  go_enter Tryd.func5, Tryd.ntmps5
  go_wp2_with fail
  go_loopg [7, 8] n (fun mm u x wr => ∃ i : Nat, mm + i = n ∧ x = .int .i64 (i : Int) ∧ Below w.heap.size w wr ∧ wr.ownsRow w.heap.size 26 2 u i (((stD W n).take i).flatMap domCells))
  case atStart => exact ⟨0, by omega, rfl, Below.refl _ _, World.ownsRow_nil _ _ _ _⟩
  case round =>
    obtain ⟨i, hm, rfl, hb, hr⟩ := hrel
    have HM := Lib.hid hm; have HB := Lib.hid hb; have HROW := Lib.hid hr
    have hws : w.heap.size ≤ wr.heap.size := hb.size
    clear hm hb hr
    by_cases hi : i < n
    · have hnx : ((stD W n).take (i + 1)).flatMap domCells = ((stD W n).take i).flatMap domCells ++ [.string (stN i), .int .i64 (P : Int)] := by
        have hd := at_get (doms := stD W n) (i := i) (by rw [stD_len]; exact hi)
        rw [stD_at hi, HP.out] at hd
        rw [List.take_add_one, hd, List.flatMap_append]; rfl
      have HNX := Lib.hid hnx
      have hcv := st_conv wr i
      obtain ⟨q, hq⟩ : ∃ q, 97 + i = q := ⟨_, rfl⟩
      have hqz : (97 : Int) + (i : Int) = (q : Int) := by omega
      have hq2 : q ≤ 112 := by omega
      have hw1 : IntKind.i64.wrap (q : Int) = (q : Int) := by rw [IntKind.wrap_i64]; omega
      have hw2 : IntKind.u8.wrap (q : Int) = (q : Int) := by rw [IntKind.wrap_u8]; omega
      have hw3 : IntKind.i64.wrap ((2 : Int) ^ W) = (P : Int) := by rw [shl16w (by omega), HP.out]
      rw [hq] at hcv
      clear hnx hq
      have HROW2 : Hid (((wr.alloc (.cells #[.int .u8 100, .int .u8 (q : Int)] 5)).alloc (.cells #[.string (stN i), .int .i64 (P : Int)] 26)).drew.ownsRow w.heap.size 26 2 u7 i (((stD W n).take i).flatMap domCells)) := Lib.hid (by
        exact World.ownsRow.alloc (w := wr.alloc (.cells #[.int .u8 100, .int .u8 (q : Int)] 5)) (World.ownsRow.alloc HROW.out _) _)
      go_upto_region 6 with (fail)
      go_region_law (refine step_append_sep rfl (.tmp 26) (.tmp 35) 22 rfl w.heap.size 26 j0 (.agg #[.string ByteArray.empty, .int .i64 0]) 2 24 Tryd.underlying22 hj0 yz0 yz1 yz2 rfl (by decide) u7 i _ (by simp [Act.eval]) HROW2.out ⟨wr.heap.size + 1, 0, none⟩ 1 1 [.string (stN i), .int .i64 (P : Int)] (by simp [Act.eval]) rfl (dom_lits2 wr _ _ _ _) (dom_ones _ _) (by unfold maxLen; omega) (by omega) (by simp; omega) ?_; intro v2 w2 hown2 hg2 hs2; have H2 := Lib.hid (And.intro hown2 hg2); clear hown2 hg2 hs2)
      have HR4 : Hid (w2.ownsRow w.heap.size 26 2 v2 (i + 1) (((stD W n).take (i + 1)).flatMap domCells)) := Lib.hid (by rw [HNX.out]; exact H2.out.1)
      have HB4 : Hid (Below w.heap.size w w2) := Lib.hid ((((HB.out.alloc hws (.cells #[.int .u8 100, .int .u8 (q : Int)] 5)).alloc (Nat.le_trans hws (Nat.le_of_lt (by simp))) (.cells #[.string (stN i), .int .i64 (P : Int)] 26)).drew).grown H2.out.2 (Nat.le_trans hws (by simp; omega)) (fun j hj => (HROW.out.lt j hj).1))
      clear H2 HROW2 HROW HB
      go_wp2_with fail
      go_roundg (n - (i + 1))
      case measure => have := HM.out; omega
      case rel => exact ⟨i + 1, by have := HM.out; omega, by go_num, HB4.out, HR4.out⟩
    · have hiN : i = n := by have := HM.out; omega
      subst hiN
      obtain ⟨W1, hren⟩ : ∃ x, x = wr := ⟨_, rfl⟩
      subst hren
      have hrw := HROW.out
      rw [List.take_of_length_le (by rw [stD_len]; exact Nat.le_refl _)] at hrw
      obtain ⟨ra, rc, rfl, _, _, hrc⟩ := Cells.of_own hrw
      obtain ⟨nw, hnw⟩ : ∃ nw, i * W = nw := ⟨_, rfl⟩
      have hnw256 : nw ≤ 256 := by rw [← hnw]; exact Nat.mul_le_mul hn16 hW16
      have hmul : (i : Int) * (W : Int) = (nw : Int) := by rw [← hnw]; simp
      have hmay : mayB (stD W i) = true := st_may (by omega) hn16 (by rw [hnw]; exact hnw256)
      have d256 : decide ((256 : Int) < (nw : Int)) = false := decide_eq_false (by omega)
      have d256' : decide (256 < nw) = false := decide_eq_false (by omega)
      have HRS : Hid (∀ k, k < i → ∀ j, j < W → (rowP (stD W i) (gsS i) k)[j]? = some (k * W + (W - 1 - j))) := Lib.hid (fun k hk j hj => rowS_at (by omega) hk hj)
      have HRW : Hid (∀ k, k < i → ∀ j, j < W → (rowP (stD W i) (gsW i) k)[j]? = some ((W - 1 - j) * i + k)) := Lib.hid (fun k hk j hj => rowW_at (by omega) hk hj)
      have HDL : Hid ((stD W i).length = i) := Lib.hid (stD_len W i)
      have HWF : Hid (∀ k, k < i → wF (stD W i) k = W) := Lib.hid (fun k hk => st_w (by omega) hk)
      obtain ⟨D, hD⟩ : ∃ D, stD W i = D := ⟨_, rfl⟩
      rw [hD] at hrc HRS HRW HDL hmay HWF
      have HMAY := Lib.hid hmay; have HRC := Lib.hid hrc
      have HNM : Hid (∀ d ∈ D, d.name.size ≤ maxLen) := Lib.hid (fun d hd => by
        have h := (may_iff.1 HMAY.out).1 d hd
        unfold okD at h
        rw [Bool.and_eq_true, Bool.and_eq_true] at h
        have h2 := h.2.2
        unfold nameB at h2
        rw [Bool.and_eq_true, Bool.and_eq_true, decide_eq_true_eq, decide_eq_true_eq] at h2
        have := h2.2.1
        unfold maxLen; omega)
      have HOS := Lib.hid (ordS HMAY.out (by rw [HDL.out]; omega)); have HOW := Lib.hid (ordW HMAY.out (by rw [HDL.out]; omega))
      have HLS : Hid (∀ k, k < i → (zN (rowP D (gsS i) k)).length = W) := Lib.hid (fun k hk => by
        have h := HOS.out
        rw [HDL.out] at h
        rw [zN_len, row_len HMAY.out h (by rw [HDL.out]; exact hk), HWF.out k hk])
      have HLW : Hid (∀ k, k < i → (zN (rowP D (gsW i) k)).length = W) := Lib.hid (fun k hk => by
        have h := HOW.out
        rw [HDL.out] at h
        rw [zN_len, row_len HMAY.out h (by rw [HDL.out]; exact hk), HWF.out k hk])
      have HJA := Lib.hid (stacked_ok W1 ra D rc HMAY.out (by rw [HDL.out]; omega) HRC.out)
      rw [HDL.out] at HJA
      clear hrw hrc HROW hmay hD hnw HP hshl hPle
      go_wp2_with fail
      refine HJA.out.mono ?_
      rintro e W2 ⟨hb2, o1, rfl, ho1, hs1⟩
      have HB2 := Lib.hid (HB.out.trans (hb2.mono HB.out.size)); have HRC2 := Lib.hid (HRC.out.below hb2); have HO1 := Lib.hid ho1
      have HPA := Lib.hid (place_ok W2 ra D rc o1 (by rw [HDL.out]; omega) HRC2.out HNM.out (by omega) (HML.out.below HB2.out))
      rw [HDL.out] at HPA
      clear hb2 ho1 hs1 HJA
      go_wp2_with fail
      refine HPA.out.mono ?_
      rintro e W3 ⟨hb3, ⟨h, _⟩ | ⟨_, h, _⟩ | ⟨_, gs, oba, ho, rfl, hra⟩⟩
      · rw [HMAY.out] at h; cases h
      · exact absurd (by rw [HO1.out]; exact HOS.out) (h _)
      have hg : gs = gsS i := by rw [← HDL.out]; exact ho.uniq HMAY.out (by rw [HO1.out]; exact HOS.out)
      subst hg
      rw [HDL.out] at hra ⊢
      have HB3 := Lib.hid (HB2.out.trans (hb3.mono HB2.out.size)); have HRC3 := Lib.hid (HRC2.out.below hb3); have HRA := Lib.hid hra
      have HJB := Lib.hid (woven_ok W3 ra D rc HMAY.out (by rw [HDL.out]; omega) HRC3.out)
      rw [HDL.out] at HJB
      clear hb3 ho hra HPA
      go_wp2_with fail
      refine HJB.out.mono ?_
      rintro e W4 ⟨hb4, o2, rfl, ho2, hs2⟩
      have HB4 := Lib.hid (HB3.out.trans (hb4.mono HB3.out.size)); have HRC4 := Lib.hid (HRC3.out.below hb4); have HO2 := Lib.hid ho2; have HRA4 := Lib.hid (HRA.out.below hb4)
      have HPB := Lib.hid (place_ok W4 ra D rc o2 (by rw [HDL.out]; omega) HRC4.out HNM.out (by omega) (HML.out.below HB4.out))
      rw [HDL.out] at HPB
      clear hb4 ho2 hs2 HJB HRA
      go_wp2_with fail
      refine HPB.out.mono ?_
      rintro e W5 ⟨hb5, ⟨h, _⟩ | ⟨_, h, _⟩ | ⟨_, gs, obb, ho, rfl, hrb⟩⟩
      · rw [HMAY.out] at h; cases h
      · exact absurd (by rw [HO2.out]; exact HOW.out) (h _)
      have hg : gs = gsW i := by rw [← HDL.out]; exact ho.uniq HMAY.out (by rw [HO2.out]; exact HOW.out)
      subst hg
      rw [HDL.out] at hrb ⊢
      have HB5 := Lib.hid (HB4.out.trans (hb5.mono HB4.out.size)); have HRA5 := Lib.hid (HRA4.out.below hb5); have HRB := Lib.hid hrb
      have hbe : ((i : Int) != (i : Int)) = false := by simp
      clear hb5 ho hrb HPB HRA4
      go_wp2_with fail
      go_loopg [13] i (fun mm x wr => ∃ k : Nat, mm + k = i ∧ x = .int .i64 (k : Int) ∧ W5 = wr)
      case atStart => exact ⟨0, by omega, rfl, rfl⟩
      case round =>
        obtain ⟨k, hm2, rfl, rfl⟩ := hrel
        have HM2 := Lib.hid hm2
        have hki : k ≤ i := by omega
        clear hm2
        by_cases hk : k < i
        · have hrowA : ((List.range i).map fun k => zN (rowP D (gsS i) k))[k]? = some (zN (rowP D (gsS i) k)) := by rw [List.getElem?_map, List.getElem?_range hk]; rfl
          have hrowB : ((List.range i).map fun k => zN (rowP D (gsW i) k))[k]? = some (zN (rowP D (gsW i) k)) := by rw [List.getElem?_map, List.getElem?_range hk]; rfl
          obtain ⟨ba, oa, ada, ca, hae, hba, ka, hca, _⟩ := HRA5.out.at_ hrowA
          injection hae with hae
          injection hae with q1 q2 _
          subst q1 q2
          obtain ⟨bb, ob, adb, cb, hae, hbb, kb, hcb, _⟩ := HRB.out.at_ hrowB
          injection hae with hae
          injection hae with q1 q2 _
          subst q1 q2
          rw [HLS.out k hk, Nat.zero_add] at ka
          rw [HLW.out k hk, Nat.zero_add] at kb
          have HCA := Lib.hid hca; have HCB := Lib.hid hcb
          have hww : ((W : Int) != (W : Int)) = false := by simp
          obtain ⟨kw, hkw⟩ : ∃ kw, k * W = kw := ⟨_, rfl⟩
          have hkw256 : kw ≤ 256 := by rw [← hkw]; exact Nat.mul_le_mul (show k ≤ 16 by omega) hW16
          have hmulk : (k : Int) * (W : Int) = (kw : Int) := by rw [← hkw]; simp
          have HKW := Lib.hid hkw
          clear hrowA hrowB hca hcb hkw
          go_wp2_with fail
          go_loopg [14] W (fun mm x wr => ∃ j : Nat, mm + j = W ∧ x = .int .i64 (j : Int) ∧ W5 = wr)
          case atStart => exact ⟨0, by omega, rfl, rfl⟩
          case round =>
            obtain ⟨j, hm3, rfl, rfl⟩ := hrel
            have HM3 := Lib.hid hm3
            have hjW : j ≤ W := by omega
            clear hm3
            by_cases hj : j < W
            · have hA : (zN (rowP D (gsS i) k))[j]? = some ((kw + (W - 1 - j) : Nat) : Int) := by unfold zN; rw [List.getElem?_map, HRS.out k hk j hj, HKW.out]; rfl
              obtain ⟨g, hg⟩ : ∃ g, W - 1 - j = g := ⟨_, rfl⟩
              obtain ⟨gn, hgn⟩ : ∃ gn, g * i = gn := ⟨_, rfl⟩
              have hB : (zN (rowP D (gsW i) k))[j]? = some ((gn + k : Nat) : Int) := by unfold zN; rw [List.getElem?_map, HRW.out k hk j hj, hg, hgn]; rfl
              rw [hg] at hA
              have hgn256 : gn ≤ 256 := by rw [← hgn]; exact Nat.mul_le_mul (show g ≤ 16 by omega) hn16
              have hmulg : (g : Int) * (i : Int) = (gn : Int) := by rw [← hgn]; simp
              obtain ⟨v, hv⟩ : ∃ v, kw + g = v := ⟨_, rfl⟩
              obtain ⟨u, hu⟩ : ∃ u, gn + k = u := ⟨_, rfl⟩
              obtain ⟨s, hs⟩ : ∃ s, kw + W = s := ⟨_, rfl⟩
              obtain ⟨s1, hs1⟩ : ∃ s1, s - 1 = s1 := ⟨_, rfl⟩
              obtain ⟨x1, hx1⟩ : ∃ x1, W - 1 = x1 := ⟨_, rfl⟩
              have i1 : (kw : Int) + (W : Int) = (s : Int) := by omega
              have i2 : (s : Int) - 1 = (s1 : Int) := by omega
              have i3 : (s1 : Int) - (j : Int) = (v : Int) := by omega
              have i4 : (W : Int) - 1 = (x1 : Int) := by omega
              have i5 : (x1 : Int) - (j : Int) = (g : Int) := by omega
              have i6 : (gn : Int) + (k : Int) = (u : Int) := by omega
              have b1 : s ≤ 300 := by omega
              have b2 : s1 ≤ 300 := by omega
              have b3 : v ≤ 300 := by omega
              have b4 : x1 ≤ 16 := by omega
              have b5 : g ≤ 16 := by omega
              have b6 : u ≤ 300 := by omega
              rw [hv] at hA
              rw [hu] at hB
              obtain ⟨b6', o6, rfl, hb6, k6⟩ := HCA.out.at_ (zV_at hA)
              obtain ⟨b7, o7, rfl, hb7, k7⟩ := HCB.out.at_ (zV_at hB)
              have hvv : ((v : Int) != (v : Int)) = false := by simp
              have huu : ((u : Int) != (u : Int)) = false := by simp
              clear hg hgn hv hu hs hs1 hx1 hA hB
              go_wp2_with fail
              go_roundg (W - (j + 1))
              case measure => have := HM3.out; omega
              case rel => exact ⟨j + 1, by have := HM3.out; omega, by go_num, rfl⟩
            · have hjw : j = W := by have := HM3.out; omega
              subst hjw
              go_wp2_with fail
              go_roundg (i - (k + 1))
              case measure => have := HM2.out; omega
              case rel => exact ⟨k + 1, by have := HM2.out; omega, by go_num, rfl⟩
        · have hki2 : k = i := by omega
          subst hki2
          go_wp2_with fail
          refine (awake7 W5 (HML.out.below HB5.out)).mono ?_
          rintro e W6 ⟨rfl, hb6⟩
          have HB6 := Lib.hid (HB5.out.trans (hb6.mono HB5.out.size))
          clear hb6
          go_wp2_with fail
          go_ret
          exact ⟨rfl, HB6.out⟩
end Go.Proofs.YtedfakpmdncnmaaDoor
