/- QuanNobody: the walk. -/
import Derived.Test.YtoegenacjhmicaaQuanN
namespace Go.Proofs.Ytoegenacjhmicaa
open Go.RowKit HP NP
def oddA (l : List Int) (i : Nat) : Bool := decide (256 < l.length) || (l.take i).any fun v => !varZ v
theorem oddA_succ {l : List Int} {i : Nat} {K : Int} (h : l[i]? = some K) : oddA l (i + 1) = (oddA l i || !varZ K) := by
  unfold oddA
  rw [List.take_add_one, h, List.any_append]
  simp [Bool.or_assoc]
theorem oddA_all (l : List Int) : oddA l l.length = oddZ l := by unfold oddA oddZ; rw [List.take_length]
theorem ints_flat (l : List Int) : l.flatMap intCells = l.map fun k => Value.int .i64 k := by
  induction l with
  | nil => rfl
  | cons x l ih => rw [List.flatMap_cons, ih]; rfl
/-- behind the slice of Quans that nobody made -/
structure NB5 (w : World) (s : Nat) (wr : World) : Prop where
  bel : Below w.heap.size w wr
  blk : Blk wr (s + 1) 23 #[.pointer none, .pointer (some ⟨s, 0, none⟩)]
  qu : Blk wr s 55 #[.pointer none, .pointer none]
theorem NB5.below {w w' wr : World} {s : Nat} (h : NB5 w s wr) (hb : Below wr.heap.size wr w') : NB5 w s w' := ⟨h.bel.trans (hb.mono h.bel.size), h.blk.below hb h.blk.lt, h.qu.below hb h.qu.lt⟩
theorem NB5.at_ {w wr : World} {s : Nat} (h : NB5 w s wr) {i : Nat} (hi : i < 2) : ∃ oa, NoQu wr oa ∧ wr.cell? ⟨s + 1, i, none⟩ = some (.pointer oa) := by
  rcases (by omega : i = 0 ∨ i = 1) with rfl | rfl
  · exact ⟨none, .inl rfl, h.blk.cell 0⟩
  · exact ⟨_, .inr ⟨_, rfl, h.qu⟩, h.blk.cell 1⟩
theorem NB5.start {w w2 : World} (h : Below w.heap.size w w2) : NB5 w w2.heap.size ((w2.alloc (.cells #[.pointer none, .pointer none] 55)).alloc (.cells #[.pointer none, .pointer (some ⟨w2.heap.size, 0, none⟩)] 23)) := by
  refine ⟨(h.alloc h.size _).alloc (by have := h.size; simp; omega) _, ?_, ?_⟩
  · have := Blk.new_ (w2.alloc (.cells #[.pointer none, .pointer none] 55)) 23 #[.pointer none, .pointer (some ⟨w2.heap.size, 0, none⟩)]
    simpa using this
  · have := (Blk.new_ w2 55 #[.pointer none, .pointer none]).alloc_ (.cells #[.pointer none, .pointer (some ⟨w2.heap.size, 0, none⟩)] 23)
    simpa using this
set_option maxRecDepth 100000 in
set_option maxHeartbeats 4000000 in
theorem qnob_0 (w : World) (k : Int) (v : Int) (va : Option Addr) (c : Nat) (l : List Int) (h300 : l.length ≤ 300) (hlc : l.length ≤ c) (hmc : c ≤ maxLen) (hc0 : Cells w va (l.map fun k => Value.int .i64 k)) (hwf : ∀ z ∈ l, (Lit.int .i64 z).wf = true) (h1 : v < 0) (h2 : k < 0) : Calls Try.prog 4 #[.int .i64 k, .int .i64 v, .slice va l.length c] w (Fine w) := by
  have HC0 := Lib.hid hc0; have HC0W := Lib.hid hc0; have HWF := Lib.hid hwf
  clear hwf
  clear hc0
  obtain ⟨N, hN⟩ : ∃ N, l.length = N := ⟨_, rfl⟩
  have HN := Lib.hid hN
  rw [hN] at h300 hlc ⊢
  clear hN
  have hvz : varZ v = false := by unfold varZ; simp; omega
  have hkz : leafZ k = false := by unfold leafZ; simp; omega
  have HVZ := Lib.hid hvz; have HKZ := Lib.hid hkz
  clear hvz hkz
  go_enter Try.func4, Try.ntmps4
  go_wp2_with fail
  refine (begun05 w w.heap.size 100 (Nat.le_refl _) (by decide) (by decide)).mono ?_
  rintro e w1 ⟨p, q, qn, rfl, hs, ho, hq, hb⟩
  have H1 := Lib.hid (QSt.begin (r := 98) hs ho hq hb (by decide))
  clear hs ho hq hb
  have HC := Lib.hid (rst_any H1.out k v)
  rw [show nobE v k = 1 from by unfold nobE; rw [HVZ.out, HKZ.out]; rfl] at HC
  go_wp2_with fail
  refine HC.out.mono ?_
  rintro e w2 ⟨nn, hnn, rfl, S2, hq2, hk2⟩
  simp at hnn
  try subst hnn
  have H2 := Lib.hid hq2; have HK2 := Lib.hid hk2
  have HC2 := Lib.hid (HC0.out.below H2.out.toOSt.fin)
  clear hq2 hk2
  have hb256 : ((256 : Int) < (N : Int)) = ((256 : Nat) < N) := by rw [eq_iff_iff]; omega
  go_wp2_with fail
  go_loopg [14, 15] N (fun m y u wr => ∃ i : Nat, m + i = N ∧ y = .bool (oddA l i) ∧ u = .int .i64 (i : Int) ∧ w2 = wr)
  case atStart => exact ⟨0, rfl, by unfold oddA; simp [HN.out], rfl, rfl⟩
  case round =>
    obtain ⟨i, hm, rfl, rfl, rfl⟩ := hrel
    have HM := Lib.hid hm
    clear hm
    by_cases hi : i < N
    · obtain ⟨K, hK⟩ : ∃ K, l[i]? = some K := ⟨_, List.getElem?_eq_getElem (by rw [HN.out]; exact hi)⟩
      obtain ⟨xb, xo, hxa, hxl, hxc⟩ := HC2.out.at_ (k := i) (v := .int .i64 K) (by rw [List.getElem?_map, hK]; rfl)
      subst hxa
      have HO := Lib.hid (oddA_succ hK)
      obtain ⟨o, ho⟩ : ∃ o, oddA l i = o := ⟨_, rfl⟩
      rw [ho] at HO ⊢
      clear ho hK
      cases o with
      | true =>
        go_wp2_with fail
        go_roundg (N - (i + 1))
        case measure => have := HM.out; omega
        case rel => exact ⟨i + 1, by have := HM.out; omega, by rw [HO.out]; rfl, by go_num, rfl⟩
      | false =>
        by_cases hk1 : K < 0
        · go_wp2_with fail
          go_roundg (N - (i + 1))
          case measure => have := HM.out; omega
          case rel => exact ⟨i + 1, by have := HM.out; omega, by rw [HO.out, show varZ K = false from by unfold varZ; simp; omega]; rfl, by go_num, rfl⟩
        · by_cases hk2 : 3 < K
          · go_wp2_with fail
            go_roundg (N - (i + 1))
            case measure => have := HM.out; omega
            case rel => exact ⟨i + 1, by have := HM.out; omega, by rw [HO.out, show varZ K = false from by unfold varZ; simp; omega]; rfl, by go_num, rfl⟩
          · go_wp2_with fail
            go_roundg (N - (i + 1))
            case measure => have := HM.out; omega
            case rel => exact ⟨i + 1, by have := HM.out; omega, by rw [HO.out, show varZ K = true from by unfold varZ; simp; omega]; rfl, by go_num, rfl⟩
    · have hiN : i = N := by have := HM.out; omega
      subst hiN
      have HX := Lib.hid (ex_any H2.out k HK2.out va l c (by rw [HN.out]; exact h300) HC2.out)
      unfold nobX at HX
      rw [HKZ.out, HN.out] at HX
      have hoz : oddA l i = oddZ l := by rw [← HN.out]; exact oddA_all l
      rw [hoz]
      clear hoz
      obtain ⟨o, ho⟩ : ∃ o, oddZ l = o := ⟨_, rfl⟩
      rw [ho] at HX ⊢
      clear ho
      obtain ⟨E2, hE2⟩ : ∃ E2 : Int, (if o then 1 else if false = true then 0 else 3) = E2 := ⟨_, rfl⟩
      rw [hE2] at HX
      clear HC HC0
      cases o
      all_goals
        simp at hE2
        subst hE2
        go_wp2_with fail
        refine HX.out.mono ?_
        rintro e w3 ⟨mm, hmm, rfl, hb3⟩
        simp at hmm
        try subst hmm
        have HB3 := Lib.hid (H2.out.toOSt.fin.trans hb3)
        clear hb3
        go_wp2_with fail
        refine (qnew_no w3 none (.inl rfl)).mono ?_
        rintro e w4 ⟨rfl, rfl⟩
        go_wp2_with fail
        refine (qnew_no _ (some ⟨w3.heap.size, 0, none⟩) (.inr ⟨w3.heap.size, rfl, Blk.new_ w3 _ _⟩)).mono ?_
        rintro e w4 ⟨rfl, rfl⟩
        have HB4 := Lib.hid (HB3.out.alloc HB3.out.size (.cells #[.pointer none, .int .u32 0, .int .i32 0, .int .u32 0, .slice none 0 0, .int .i64 0] 53))
        obtain ⟨w4, hw4⟩ : ∃ w4, w4 = w3.alloc (.cells #[.pointer none, .int .u32 0, .int .i32 0, .int .u32 0, .slice none 0 0, .int .i64 0] 53) := ⟨_, rfl⟩
        rw [← hw4] at HB4 ⊢
        clear hw4
        have HNB := Lib.hid (NB5.start HB4.out)
        go_wp2_with fail
        go_loopg [23] 2 (fun m u wr => ∃ i : Nat, m + i = 2 ∧ u = .int .i64 (i : Int) ∧ NB5 w w4.heap.size wr)
        case atStart => exact ⟨0, rfl, rfl, HNB.out⟩
        case round =>
          obtain ⟨j, hm, rfl, hnb⟩ := hrel
          have HM2 := Lib.hid hm; have HN2 := Lib.hid hnb
          clear hm hnb
          by_cases hj : j < 2
          · obtain ⟨oa, hoa, hca⟩ := HN2.out.at_ hj
            have hbl := HN2.out.blk.lt
            have HO := Lib.hid hoa
            clear hoa
            go_wp2_with fail
            refine (qex_nobody wr oa HO.out k va i c).mono ?_
            rintro e w5 ⟨rfl, hb5⟩
            have HN5 := Lib.hid (HN2.out.below hb5)
            have hca5 : w5.cell? ⟨w4.heap.size + 1, j, none⟩ = some (.pointer oa) := (hb5.cell (p := ⟨w4.heap.size + 1, j, none⟩) hbl).trans hca
            have hbl5 := HN5.out.blk.lt
            have HO5 := Lib.hid (HO.out.below hb5)
            clear hb5 hca hbl
            go_wp2_with fail
            refine (qrs_nobody w5 oa HO5.out k v true).mono ?_
            rintro e w6 ⟨rfl, hb6⟩
            have HN6 := Lib.hid (HN5.out.below hb6)
            have hca6 : w6.cell? ⟨w4.heap.size + 1, j, none⟩ = some (.pointer oa) := (hb6.cell (p := ⟨w4.heap.size + 1, j, none⟩) hbl5).trans hca5
            have hbl6 := HN6.out.blk.lt
            have HO6 := Lib.hid (HO5.out.below hb6)
            clear hb6 hca5 hbl5
            go_wp2_with fail
            refine (qprod_nobody w6 oa HO6.out k k va i c).mono ?_
            rintro e w7 ⟨rfl, hb7⟩
            have HN7 := Lib.hid (HN6.out.below hb7)
            have hca7 : w7.cell? ⟨w4.heap.size + 1, j, none⟩ = some (.pointer oa) := (hb7.cell (p := ⟨w4.heap.size + 1, j, none⟩) hbl6).trans hca6
            have hbl7 := HN7.out.blk.lt
            have HO7 := Lib.hid (HO6.out.below hb7)
            clear hb7 hca6 hbl6
            have HRN := Lib.hid (qrn_nobody w7 oa HO7.out k va l c (by rw [HN.out]; exact h300) (HC0W.out.below HN7.out.bel) HWF.out)
            rw [HN.out] at HRN
            go_wp2_with fail
            refine HRN.out.mono ?_
            rintro e w8 ⟨rfl, hb8⟩
            have HN8 := Lib.hid (HN7.out.below hb8)
            have hca8 : w8.cell? ⟨w4.heap.size + 1, j, none⟩ = some (.pointer oa) := (hb8.cell (p := ⟨w4.heap.size + 1, j, none⟩) hbl7).trans hca7
            have hbl8 := HN8.out.blk.lt
            have HO8 := Lib.hid (HO7.out.below hb8)
            clear hb8 hca7 hbl7 HRN
            go_wp2_with fail
            refine (qops_no w8 oa HO8.out).mono ?_
            rintro e w9 ⟨rfl, rfl⟩
            go_wp2_with fail
            go_roundg (2 - (j + 1))
            case measure => have := HM2.out; omega
            case rel => exact ⟨j + 1, by have := HM2.out; omega, by go_num, HN8.out⟩
          · have hj2 : j = 2 := by have := HM2.out; omega
            subst hj2
            go_wp2_with fail
            refine (awake05 wr).mono ?_
            rintro e w5 ⟨rfl, hb5⟩
            have HB5 := Lib.hid (HN2.out.bel.trans (hb5.mono HN2.out.bel.size))
            clear hb5
            go_wp2_with fail
            go_ret
            exact ⟨rfl, HB5.out⟩
set_option maxRecDepth 100000 in
set_option maxHeartbeats 4000000 in
theorem qnob_1 (w : World) (k : Int) (v : Int) (va : Option Addr) (c : Nat) (l : List Int) (h300 : l.length ≤ 300) (hlc : l.length ≤ c) (hmc : c ≤ maxLen) (hc0 : Cells w va (l.map fun k => Value.int .i64 k)) (hwf : ∀ z ∈ l, (Lit.int .i64 z).wf = true) (h1 : v < 0) (h2 : ¬ k < 0) (h3 : 1 < k) : Calls Try.prog 4 #[.int .i64 k, .int .i64 v, .slice va l.length c] w (Fine w) := by
  have HC0 := Lib.hid hc0; have HC0W := Lib.hid hc0; have HWF := Lib.hid hwf
  clear hwf
  clear hc0
  obtain ⟨N, hN⟩ : ∃ N, l.length = N := ⟨_, rfl⟩
  have HN := Lib.hid hN
  rw [hN] at h300 hlc ⊢
  clear hN
  have hvz : varZ v = false := by unfold varZ; simp; omega
  have hkz : leafZ k = false := by unfold leafZ; simp; omega
  have HVZ := Lib.hid hvz; have HKZ := Lib.hid hkz
  clear hvz hkz
  go_enter Try.func4, Try.ntmps4
  go_wp2_with fail
  refine (begun05 w w.heap.size 100 (Nat.le_refl _) (by decide) (by decide)).mono ?_
  rintro e w1 ⟨p, q, qn, rfl, hs, ho, hq, hb⟩
  have H1 := Lib.hid (QSt.begin (r := 98) hs ho hq hb (by decide))
  clear hs ho hq hb
  have HC := Lib.hid (rst_any H1.out k v)
  rw [show nobE v k = 1 from by unfold nobE; rw [HVZ.out, HKZ.out]; rfl] at HC
  go_wp2_with fail
  refine HC.out.mono ?_
  rintro e w2 ⟨nn, hnn, rfl, S2, hq2, hk2⟩
  simp at hnn
  try subst hnn
  have H2 := Lib.hid hq2; have HK2 := Lib.hid hk2
  have HC2 := Lib.hid (HC0.out.below H2.out.toOSt.fin)
  clear hq2 hk2
  have hb256 : ((256 : Int) < (N : Int)) = ((256 : Nat) < N) := by rw [eq_iff_iff]; omega
  go_wp2_with fail
  go_loopg [14, 15] N (fun m y u wr => ∃ i : Nat, m + i = N ∧ y = .bool (oddA l i) ∧ u = .int .i64 (i : Int) ∧ w2 = wr)
  case atStart => exact ⟨0, rfl, by unfold oddA; simp [HN.out], rfl, rfl⟩
  case round =>
    obtain ⟨i, hm, rfl, rfl, rfl⟩ := hrel
    have HM := Lib.hid hm
    clear hm
    by_cases hi : i < N
    · obtain ⟨K, hK⟩ : ∃ K, l[i]? = some K := ⟨_, List.getElem?_eq_getElem (by rw [HN.out]; exact hi)⟩
      obtain ⟨xb, xo, hxa, hxl, hxc⟩ := HC2.out.at_ (k := i) (v := .int .i64 K) (by rw [List.getElem?_map, hK]; rfl)
      subst hxa
      have HO := Lib.hid (oddA_succ hK)
      obtain ⟨o, ho⟩ : ∃ o, oddA l i = o := ⟨_, rfl⟩
      rw [ho] at HO ⊢
      clear ho hK
      cases o with
      | true =>
        go_wp2_with fail
        go_roundg (N - (i + 1))
        case measure => have := HM.out; omega
        case rel => exact ⟨i + 1, by have := HM.out; omega, by rw [HO.out]; rfl, by go_num, rfl⟩
      | false =>
        by_cases hk1 : K < 0
        · go_wp2_with fail
          go_roundg (N - (i + 1))
          case measure => have := HM.out; omega
          case rel => exact ⟨i + 1, by have := HM.out; omega, by rw [HO.out, show varZ K = false from by unfold varZ; simp; omega]; rfl, by go_num, rfl⟩
        · by_cases hk2 : 3 < K
          · go_wp2_with fail
            go_roundg (N - (i + 1))
            case measure => have := HM.out; omega
            case rel => exact ⟨i + 1, by have := HM.out; omega, by rw [HO.out, show varZ K = false from by unfold varZ; simp; omega]; rfl, by go_num, rfl⟩
          · go_wp2_with fail
            go_roundg (N - (i + 1))
            case measure => have := HM.out; omega
            case rel => exact ⟨i + 1, by have := HM.out; omega, by rw [HO.out, show varZ K = true from by unfold varZ; simp; omega]; rfl, by go_num, rfl⟩
    · have hiN : i = N := by have := HM.out; omega
      subst hiN
      have HX := Lib.hid (ex_any H2.out k HK2.out va l c (by rw [HN.out]; exact h300) HC2.out)
      unfold nobX at HX
      rw [HKZ.out, HN.out] at HX
      have hoz : oddA l i = oddZ l := by rw [← HN.out]; exact oddA_all l
      rw [hoz]
      clear hoz
      obtain ⟨o, ho⟩ : ∃ o, oddZ l = o := ⟨_, rfl⟩
      rw [ho] at HX ⊢
      clear ho
      obtain ⟨E2, hE2⟩ : ∃ E2 : Int, (if o then 1 else if false = true then 0 else 3) = E2 := ⟨_, rfl⟩
      rw [hE2] at HX
      clear HC HC0
      cases o
      all_goals
        simp at hE2
        subst hE2
        go_wp2_with fail
        refine HX.out.mono ?_
        rintro e w3 ⟨mm, hmm, rfl, hb3⟩
        simp at hmm
        try subst hmm
        have HB3 := Lib.hid (H2.out.toOSt.fin.trans hb3)
        clear hb3
        go_wp2_with fail
        refine (qnew_no w3 none (.inl rfl)).mono ?_
        rintro e w4 ⟨rfl, rfl⟩
        go_wp2_with fail
        refine (qnew_no _ (some ⟨w3.heap.size, 0, none⟩) (.inr ⟨w3.heap.size, rfl, Blk.new_ w3 _ _⟩)).mono ?_
        rintro e w4 ⟨rfl, rfl⟩
        have HB4 := Lib.hid (HB3.out.alloc HB3.out.size (.cells #[.pointer none, .int .u32 0, .int .i32 0, .int .u32 0, .slice none 0 0, .int .i64 0] 53))
        obtain ⟨w4, hw4⟩ : ∃ w4, w4 = w3.alloc (.cells #[.pointer none, .int .u32 0, .int .i32 0, .int .u32 0, .slice none 0 0, .int .i64 0] 53) := ⟨_, rfl⟩
        rw [← hw4] at HB4 ⊢
        clear hw4
        have HNB := Lib.hid (NB5.start HB4.out)
        go_wp2_with fail
        go_loopg [23] 2 (fun m u wr => ∃ i : Nat, m + i = 2 ∧ u = .int .i64 (i : Int) ∧ NB5 w w4.heap.size wr)
        case atStart => exact ⟨0, rfl, rfl, HNB.out⟩
        case round =>
          obtain ⟨j, hm, rfl, hnb⟩ := hrel
          have HM2 := Lib.hid hm; have HN2 := Lib.hid hnb
          clear hm hnb
          by_cases hj : j < 2
          · obtain ⟨oa, hoa, hca⟩ := HN2.out.at_ hj
            have hbl := HN2.out.blk.lt
            have HO := Lib.hid hoa
            clear hoa
            go_wp2_with fail
            refine (qex_nobody wr oa HO.out k va i c).mono ?_
            rintro e w5 ⟨rfl, hb5⟩
            have HN5 := Lib.hid (HN2.out.below hb5)
            have hca5 : w5.cell? ⟨w4.heap.size + 1, j, none⟩ = some (.pointer oa) := (hb5.cell (p := ⟨w4.heap.size + 1, j, none⟩) hbl).trans hca
            have hbl5 := HN5.out.blk.lt
            have HO5 := Lib.hid (HO.out.below hb5)
            clear hb5 hca hbl
            go_wp2_with fail
            refine (qrs_nobody w5 oa HO5.out k v true).mono ?_
            rintro e w6 ⟨rfl, hb6⟩
            have HN6 := Lib.hid (HN5.out.below hb6)
            have hca6 : w6.cell? ⟨w4.heap.size + 1, j, none⟩ = some (.pointer oa) := (hb6.cell (p := ⟨w4.heap.size + 1, j, none⟩) hbl5).trans hca5
            have hbl6 := HN6.out.blk.lt
            have HO6 := Lib.hid (HO5.out.below hb6)
            clear hb6 hca5 hbl5
            go_wp2_with fail
            refine (qprod_nobody w6 oa HO6.out k k va i c).mono ?_
            rintro e w7 ⟨rfl, hb7⟩
            have HN7 := Lib.hid (HN6.out.below hb7)
            have hca7 : w7.cell? ⟨w4.heap.size + 1, j, none⟩ = some (.pointer oa) := (hb7.cell (p := ⟨w4.heap.size + 1, j, none⟩) hbl6).trans hca6
            have hbl7 := HN7.out.blk.lt
            have HO7 := Lib.hid (HO6.out.below hb7)
            clear hb7 hca6 hbl6
            have HRN := Lib.hid (qrn_nobody w7 oa HO7.out k va l c (by rw [HN.out]; exact h300) (HC0W.out.below HN7.out.bel) HWF.out)
            rw [HN.out] at HRN
            go_wp2_with fail
            refine HRN.out.mono ?_
            rintro e w8 ⟨rfl, hb8⟩
            have HN8 := Lib.hid (HN7.out.below hb8)
            have hca8 : w8.cell? ⟨w4.heap.size + 1, j, none⟩ = some (.pointer oa) := (hb8.cell (p := ⟨w4.heap.size + 1, j, none⟩) hbl7).trans hca7
            have hbl8 := HN8.out.blk.lt
            have HO8 := Lib.hid (HO7.out.below hb8)
            clear hb8 hca7 hbl7 HRN
            go_wp2_with fail
            refine (qops_no w8 oa HO8.out).mono ?_
            rintro e w9 ⟨rfl, rfl⟩
            go_wp2_with fail
            go_roundg (2 - (j + 1))
            case measure => have := HM2.out; omega
            case rel => exact ⟨j + 1, by have := HM2.out; omega, by go_num, HN8.out⟩
          · have hj2 : j = 2 := by have := HM2.out; omega
            subst hj2
            go_wp2_with fail
            refine (awake05 wr).mono ?_
            rintro e w5 ⟨rfl, hb5⟩
            have HB5 := Lib.hid (HN2.out.bel.trans (hb5.mono HN2.out.bel.size))
            clear hb5
            go_wp2_with fail
            go_ret
            exact ⟨rfl, HB5.out⟩
set_option maxRecDepth 100000 in
set_option maxHeartbeats 4000000 in
theorem qnob_2 (w : World) (k : Int) (v : Int) (va : Option Addr) (c : Nat) (l : List Int) (h300 : l.length ≤ 300) (hlc : l.length ≤ c) (hmc : c ≤ maxLen) (hc0 : Cells w va (l.map fun k => Value.int .i64 k)) (hwf : ∀ z ∈ l, (Lit.int .i64 z).wf = true) (h1 : v < 0) (h2 : ¬ k < 0) (h3 : ¬ 1 < k) : Calls Try.prog 4 #[.int .i64 k, .int .i64 v, .slice va l.length c] w (Fine w) := by
  have HC0 := Lib.hid hc0; have HC0W := Lib.hid hc0; have HWF := Lib.hid hwf
  clear hwf
  clear hc0
  obtain ⟨N, hN⟩ : ∃ N, l.length = N := ⟨_, rfl⟩
  have HN := Lib.hid hN
  rw [hN] at h300 hlc ⊢
  clear hN
  have hvz : varZ v = false := by unfold varZ; simp; omega
  have hkz : leafZ k = true := by unfold leafZ; simp; omega
  have HVZ := Lib.hid hvz; have HKZ := Lib.hid hkz
  clear hvz hkz
  go_enter Try.func4, Try.ntmps4
  go_wp2_with fail
  refine (begun05 w w.heap.size 100 (Nat.le_refl _) (by decide) (by decide)).mono ?_
  rintro e w1 ⟨p, q, qn, rfl, hs, ho, hq, hb⟩
  have H1 := Lib.hid (QSt.begin (r := 98) hs ho hq hb (by decide))
  clear hs ho hq hb
  have HC := Lib.hid (rst_any H1.out k v)
  rw [show nobE v k = 1 from by unfold nobE; rw [HVZ.out, HKZ.out]; rfl] at HC
  go_wp2_with fail
  refine HC.out.mono ?_
  rintro e w2 ⟨nn, hnn, rfl, S2, hq2, hk2⟩
  simp at hnn
  try subst hnn
  have H2 := Lib.hid hq2; have HK2 := Lib.hid hk2
  have HC2 := Lib.hid (HC0.out.below H2.out.toOSt.fin)
  clear hq2 hk2
  have hb256 : ((256 : Int) < (N : Int)) = ((256 : Nat) < N) := by rw [eq_iff_iff]; omega
  go_wp2_with fail
  go_loopg [14, 15] N (fun m y u wr => ∃ i : Nat, m + i = N ∧ y = .bool (oddA l i) ∧ u = .int .i64 (i : Int) ∧ w2 = wr)
  case atStart => exact ⟨0, rfl, by unfold oddA; simp [HN.out], rfl, rfl⟩
  case round =>
    obtain ⟨i, hm, rfl, rfl, rfl⟩ := hrel
    have HM := Lib.hid hm
    clear hm
    by_cases hi : i < N
    · obtain ⟨K, hK⟩ : ∃ K, l[i]? = some K := ⟨_, List.getElem?_eq_getElem (by rw [HN.out]; exact hi)⟩
      obtain ⟨xb, xo, hxa, hxl, hxc⟩ := HC2.out.at_ (k := i) (v := .int .i64 K) (by rw [List.getElem?_map, hK]; rfl)
      subst hxa
      have HO := Lib.hid (oddA_succ hK)
      obtain ⟨o, ho⟩ : ∃ o, oddA l i = o := ⟨_, rfl⟩
      rw [ho] at HO ⊢
      clear ho hK
      cases o with
      | true =>
        go_wp2_with fail
        go_roundg (N - (i + 1))
        case measure => have := HM.out; omega
        case rel => exact ⟨i + 1, by have := HM.out; omega, by rw [HO.out]; rfl, by go_num, rfl⟩
      | false =>
        by_cases hk1 : K < 0
        · go_wp2_with fail
          go_roundg (N - (i + 1))
          case measure => have := HM.out; omega
          case rel => exact ⟨i + 1, by have := HM.out; omega, by rw [HO.out, show varZ K = false from by unfold varZ; simp; omega]; rfl, by go_num, rfl⟩
        · by_cases hk2 : 3 < K
          · go_wp2_with fail
            go_roundg (N - (i + 1))
            case measure => have := HM.out; omega
            case rel => exact ⟨i + 1, by have := HM.out; omega, by rw [HO.out, show varZ K = false from by unfold varZ; simp; omega]; rfl, by go_num, rfl⟩
          · go_wp2_with fail
            go_roundg (N - (i + 1))
            case measure => have := HM.out; omega
            case rel => exact ⟨i + 1, by have := HM.out; omega, by rw [HO.out, show varZ K = true from by unfold varZ; simp; omega]; rfl, by go_num, rfl⟩
    · have hiN : i = N := by have := HM.out; omega
      subst hiN
      have HX := Lib.hid (ex_any H2.out k HK2.out va l c (by rw [HN.out]; exact h300) HC2.out)
      unfold nobX at HX
      rw [HKZ.out, HN.out] at HX
      have hoz : oddA l i = oddZ l := by rw [← HN.out]; exact oddA_all l
      rw [hoz]
      clear hoz
      obtain ⟨o, ho⟩ : ∃ o, oddZ l = o := ⟨_, rfl⟩
      rw [ho] at HX ⊢
      clear ho
      obtain ⟨E2, hE2⟩ : ∃ E2 : Int, (if o then 1 else if true = true then 0 else 3) = E2 := ⟨_, rfl⟩
      rw [hE2] at HX
      clear HC HC0
      cases o
      all_goals
        simp at hE2
        subst hE2
        go_wp2_with fail
        refine HX.out.mono ?_
        rintro e w3 ⟨mm, hmm, rfl, hb3⟩
        simp at hmm
        try subst hmm
        have HB3 := Lib.hid (H2.out.toOSt.fin.trans hb3)
        clear hb3
        go_wp2_with fail
        refine (qnew_no w3 none (.inl rfl)).mono ?_
        rintro e w4 ⟨rfl, rfl⟩
        go_wp2_with fail
        refine (qnew_no _ (some ⟨w3.heap.size, 0, none⟩) (.inr ⟨w3.heap.size, rfl, Blk.new_ w3 _ _⟩)).mono ?_
        rintro e w4 ⟨rfl, rfl⟩
        have HB4 := Lib.hid (HB3.out.alloc HB3.out.size (.cells #[.pointer none, .int .u32 0, .int .i32 0, .int .u32 0, .slice none 0 0, .int .i64 0] 53))
        obtain ⟨w4, hw4⟩ : ∃ w4, w4 = w3.alloc (.cells #[.pointer none, .int .u32 0, .int .i32 0, .int .u32 0, .slice none 0 0, .int .i64 0] 53) := ⟨_, rfl⟩
        rw [← hw4] at HB4 ⊢
        clear hw4
        have HNB := Lib.hid (NB5.start HB4.out)
        go_wp2_with fail
        go_loopg [23] 2 (fun m u wr => ∃ i : Nat, m + i = 2 ∧ u = .int .i64 (i : Int) ∧ NB5 w w4.heap.size wr)
        case atStart => exact ⟨0, rfl, rfl, HNB.out⟩
        case round =>
          obtain ⟨j, hm, rfl, hnb⟩ := hrel
          have HM2 := Lib.hid hm; have HN2 := Lib.hid hnb
          clear hm hnb
          by_cases hj : j < 2
          · obtain ⟨oa, hoa, hca⟩ := HN2.out.at_ hj
            have hbl := HN2.out.blk.lt
            have HO := Lib.hid hoa
            clear hoa
            go_wp2_with fail
            refine (qex_nobody wr oa HO.out k va i c).mono ?_
            rintro e w5 ⟨rfl, hb5⟩
            have HN5 := Lib.hid (HN2.out.below hb5)
            have hca5 : w5.cell? ⟨w4.heap.size + 1, j, none⟩ = some (.pointer oa) := (hb5.cell (p := ⟨w4.heap.size + 1, j, none⟩) hbl).trans hca
            have hbl5 := HN5.out.blk.lt
            have HO5 := Lib.hid (HO.out.below hb5)
            clear hb5 hca hbl
            go_wp2_with fail
            refine (qrs_nobody w5 oa HO5.out k v true).mono ?_
            rintro e w6 ⟨rfl, hb6⟩
            have HN6 := Lib.hid (HN5.out.below hb6)
            have hca6 : w6.cell? ⟨w4.heap.size + 1, j, none⟩ = some (.pointer oa) := (hb6.cell (p := ⟨w4.heap.size + 1, j, none⟩) hbl5).trans hca5
            have hbl6 := HN6.out.blk.lt
            have HO6 := Lib.hid (HO5.out.below hb6)
            clear hb6 hca5 hbl5
            go_wp2_with fail
            refine (qprod_nobody w6 oa HO6.out k k va i c).mono ?_
            rintro e w7 ⟨rfl, hb7⟩
            have HN7 := Lib.hid (HN6.out.below hb7)
            have hca7 : w7.cell? ⟨w4.heap.size + 1, j, none⟩ = some (.pointer oa) := (hb7.cell (p := ⟨w4.heap.size + 1, j, none⟩) hbl6).trans hca6
            have hbl7 := HN7.out.blk.lt
            have HO7 := Lib.hid (HO6.out.below hb7)
            clear hb7 hca6 hbl6
            have HRN := Lib.hid (qrn_nobody w7 oa HO7.out k va l c (by rw [HN.out]; exact h300) (HC0W.out.below HN7.out.bel) HWF.out)
            rw [HN.out] at HRN
            go_wp2_with fail
            refine HRN.out.mono ?_
            rintro e w8 ⟨rfl, hb8⟩
            have HN8 := Lib.hid (HN7.out.below hb8)
            have hca8 : w8.cell? ⟨w4.heap.size + 1, j, none⟩ = some (.pointer oa) := (hb8.cell (p := ⟨w4.heap.size + 1, j, none⟩) hbl7).trans hca7
            have hbl8 := HN8.out.blk.lt
            have HO8 := Lib.hid (HO7.out.below hb8)
            clear hb8 hca7 hbl7 HRN
            go_wp2_with fail
            refine (qops_no w8 oa HO8.out).mono ?_
            rintro e w9 ⟨rfl, rfl⟩
            go_wp2_with fail
            go_roundg (2 - (j + 1))
            case measure => have := HM2.out; omega
            case rel => exact ⟨j + 1, by have := HM2.out; omega, by go_num, HN8.out⟩
          · have hj2 : j = 2 := by have := HM2.out; omega
            subst hj2
            go_wp2_with fail
            refine (awake05 wr).mono ?_
            rintro e w5 ⟨rfl, hb5⟩
            have HB5 := Lib.hid (HN2.out.bel.trans (hb5.mono HN2.out.bel.size))
            clear hb5
            go_wp2_with fail
            go_ret
            exact ⟨rfl, HB5.out⟩
set_option maxRecDepth 100000 in
set_option maxHeartbeats 4000000 in
theorem qnob_3 (w : World) (k : Int) (v : Int) (va : Option Addr) (c : Nat) (l : List Int) (h300 : l.length ≤ 300) (hlc : l.length ≤ c) (hmc : c ≤ maxLen) (hc0 : Cells w va (l.map fun k => Value.int .i64 k)) (hwf : ∀ z ∈ l, (Lit.int .i64 z).wf = true) (h1 : ¬ v < 0) (h2 : 3 < v) (h3 : k < 0) : Calls Try.prog 4 #[.int .i64 k, .int .i64 v, .slice va l.length c] w (Fine w) := by
  have HC0 := Lib.hid hc0; have HC0W := Lib.hid hc0; have HWF := Lib.hid hwf
  clear hwf
  clear hc0
  obtain ⟨N, hN⟩ : ∃ N, l.length = N := ⟨_, rfl⟩
  have HN := Lib.hid hN
  rw [hN] at h300 hlc ⊢
  clear hN
  have hvz : varZ v = false := by unfold varZ; simp; omega
  have hkz : leafZ k = false := by unfold leafZ; simp; omega
  have HVZ := Lib.hid hvz; have HKZ := Lib.hid hkz
  clear hvz hkz
  go_enter Try.func4, Try.ntmps4
  go_wp2_with fail
  refine (begun05 w w.heap.size 100 (Nat.le_refl _) (by decide) (by decide)).mono ?_
  rintro e w1 ⟨p, q, qn, rfl, hs, ho, hq, hb⟩
  have H1 := Lib.hid (QSt.begin (r := 98) hs ho hq hb (by decide))
  clear hs ho hq hb
  have HC := Lib.hid (rst_any H1.out k v)
  rw [show nobE v k = 1 from by unfold nobE; rw [HVZ.out, HKZ.out]; rfl] at HC
  go_wp2_with fail
  refine HC.out.mono ?_
  rintro e w2 ⟨nn, hnn, rfl, S2, hq2, hk2⟩
  simp at hnn
  try subst hnn
  have H2 := Lib.hid hq2; have HK2 := Lib.hid hk2
  have HC2 := Lib.hid (HC0.out.below H2.out.toOSt.fin)
  clear hq2 hk2
  have hb256 : ((256 : Int) < (N : Int)) = ((256 : Nat) < N) := by rw [eq_iff_iff]; omega
  go_wp2_with fail
  go_loopg [14, 15] N (fun m y u wr => ∃ i : Nat, m + i = N ∧ y = .bool (oddA l i) ∧ u = .int .i64 (i : Int) ∧ w2 = wr)
  case atStart => exact ⟨0, rfl, by unfold oddA; simp [HN.out], rfl, rfl⟩
  case round =>
    obtain ⟨i, hm, rfl, rfl, rfl⟩ := hrel
    have HM := Lib.hid hm
    clear hm
    by_cases hi : i < N
    · obtain ⟨K, hK⟩ : ∃ K, l[i]? = some K := ⟨_, List.getElem?_eq_getElem (by rw [HN.out]; exact hi)⟩
      obtain ⟨xb, xo, hxa, hxl, hxc⟩ := HC2.out.at_ (k := i) (v := .int .i64 K) (by rw [List.getElem?_map, hK]; rfl)
      subst hxa
      have HO := Lib.hid (oddA_succ hK)
      obtain ⟨o, ho⟩ : ∃ o, oddA l i = o := ⟨_, rfl⟩
      rw [ho] at HO ⊢
      clear ho hK
      cases o with
      | true =>
        go_wp2_with fail
        go_roundg (N - (i + 1))
        case measure => have := HM.out; omega
        case rel => exact ⟨i + 1, by have := HM.out; omega, by rw [HO.out]; rfl, by go_num, rfl⟩
      | false =>
        by_cases hk1 : K < 0
        · go_wp2_with fail
          go_roundg (N - (i + 1))
          case measure => have := HM.out; omega
          case rel => exact ⟨i + 1, by have := HM.out; omega, by rw [HO.out, show varZ K = false from by unfold varZ; simp; omega]; rfl, by go_num, rfl⟩
        · by_cases hk2 : 3 < K
          · go_wp2_with fail
            go_roundg (N - (i + 1))
            case measure => have := HM.out; omega
            case rel => exact ⟨i + 1, by have := HM.out; omega, by rw [HO.out, show varZ K = false from by unfold varZ; simp; omega]; rfl, by go_num, rfl⟩
          · go_wp2_with fail
            go_roundg (N - (i + 1))
            case measure => have := HM.out; omega
            case rel => exact ⟨i + 1, by have := HM.out; omega, by rw [HO.out, show varZ K = true from by unfold varZ; simp; omega]; rfl, by go_num, rfl⟩
    · have hiN : i = N := by have := HM.out; omega
      subst hiN
      have HX := Lib.hid (ex_any H2.out k HK2.out va l c (by rw [HN.out]; exact h300) HC2.out)
      unfold nobX at HX
      rw [HKZ.out, HN.out] at HX
      have hoz : oddA l i = oddZ l := by rw [← HN.out]; exact oddA_all l
      rw [hoz]
      clear hoz
      obtain ⟨o, ho⟩ : ∃ o, oddZ l = o := ⟨_, rfl⟩
      rw [ho] at HX ⊢
      clear ho
      obtain ⟨E2, hE2⟩ : ∃ E2 : Int, (if o then 1 else if false = true then 0 else 3) = E2 := ⟨_, rfl⟩
      rw [hE2] at HX
      clear HC HC0
      cases o
      all_goals
        simp at hE2
        subst hE2
        go_wp2_with fail
        refine HX.out.mono ?_
        rintro e w3 ⟨mm, hmm, rfl, hb3⟩
        simp at hmm
        try subst hmm
        have HB3 := Lib.hid (H2.out.toOSt.fin.trans hb3)
        clear hb3
        go_wp2_with fail
        refine (qnew_no w3 none (.inl rfl)).mono ?_
        rintro e w4 ⟨rfl, rfl⟩
        go_wp2_with fail
        refine (qnew_no _ (some ⟨w3.heap.size, 0, none⟩) (.inr ⟨w3.heap.size, rfl, Blk.new_ w3 _ _⟩)).mono ?_
        rintro e w4 ⟨rfl, rfl⟩
        have HB4 := Lib.hid (HB3.out.alloc HB3.out.size (.cells #[.pointer none, .int .u32 0, .int .i32 0, .int .u32 0, .slice none 0 0, .int .i64 0] 53))
        obtain ⟨w4, hw4⟩ : ∃ w4, w4 = w3.alloc (.cells #[.pointer none, .int .u32 0, .int .i32 0, .int .u32 0, .slice none 0 0, .int .i64 0] 53) := ⟨_, rfl⟩
        rw [← hw4] at HB4 ⊢
        clear hw4
        have HNB := Lib.hid (NB5.start HB4.out)
        go_wp2_with fail
        go_loopg [23] 2 (fun m u wr => ∃ i : Nat, m + i = 2 ∧ u = .int .i64 (i : Int) ∧ NB5 w w4.heap.size wr)
        case atStart => exact ⟨0, rfl, rfl, HNB.out⟩
        case round =>
          obtain ⟨j, hm, rfl, hnb⟩ := hrel
          have HM2 := Lib.hid hm; have HN2 := Lib.hid hnb
          clear hm hnb
          by_cases hj : j < 2
          · obtain ⟨oa, hoa, hca⟩ := HN2.out.at_ hj
            have hbl := HN2.out.blk.lt
            have HO := Lib.hid hoa
            clear hoa
            go_wp2_with fail
            refine (qex_nobody wr oa HO.out k va i c).mono ?_
            rintro e w5 ⟨rfl, hb5⟩
            have HN5 := Lib.hid (HN2.out.below hb5)
            have hca5 : w5.cell? ⟨w4.heap.size + 1, j, none⟩ = some (.pointer oa) := (hb5.cell (p := ⟨w4.heap.size + 1, j, none⟩) hbl).trans hca
            have hbl5 := HN5.out.blk.lt
            have HO5 := Lib.hid (HO.out.below hb5)
            clear hb5 hca hbl
            go_wp2_with fail
            refine (qrs_nobody w5 oa HO5.out k v true).mono ?_
            rintro e w6 ⟨rfl, hb6⟩
            have HN6 := Lib.hid (HN5.out.below hb6)
            have hca6 : w6.cell? ⟨w4.heap.size + 1, j, none⟩ = some (.pointer oa) := (hb6.cell (p := ⟨w4.heap.size + 1, j, none⟩) hbl5).trans hca5
            have hbl6 := HN6.out.blk.lt
            have HO6 := Lib.hid (HO5.out.below hb6)
            clear hb6 hca5 hbl5
            go_wp2_with fail
            refine (qprod_nobody w6 oa HO6.out k k va i c).mono ?_
            rintro e w7 ⟨rfl, hb7⟩
            have HN7 := Lib.hid (HN6.out.below hb7)
            have hca7 : w7.cell? ⟨w4.heap.size + 1, j, none⟩ = some (.pointer oa) := (hb7.cell (p := ⟨w4.heap.size + 1, j, none⟩) hbl6).trans hca6
            have hbl7 := HN7.out.blk.lt
            have HO7 := Lib.hid (HO6.out.below hb7)
            clear hb7 hca6 hbl6
            have HRN := Lib.hid (qrn_nobody w7 oa HO7.out k va l c (by rw [HN.out]; exact h300) (HC0W.out.below HN7.out.bel) HWF.out)
            rw [HN.out] at HRN
            go_wp2_with fail
            refine HRN.out.mono ?_
            rintro e w8 ⟨rfl, hb8⟩
            have HN8 := Lib.hid (HN7.out.below hb8)
            have hca8 : w8.cell? ⟨w4.heap.size + 1, j, none⟩ = some (.pointer oa) := (hb8.cell (p := ⟨w4.heap.size + 1, j, none⟩) hbl7).trans hca7
            have hbl8 := HN8.out.blk.lt
            have HO8 := Lib.hid (HO7.out.below hb8)
            clear hb8 hca7 hbl7 HRN
            go_wp2_with fail
            refine (qops_no w8 oa HO8.out).mono ?_
            rintro e w9 ⟨rfl, rfl⟩
            go_wp2_with fail
            go_roundg (2 - (j + 1))
            case measure => have := HM2.out; omega
            case rel => exact ⟨j + 1, by have := HM2.out; omega, by go_num, HN8.out⟩
          · have hj2 : j = 2 := by have := HM2.out; omega
            subst hj2
            go_wp2_with fail
            refine (awake05 wr).mono ?_
            rintro e w5 ⟨rfl, hb5⟩
            have HB5 := Lib.hid (HN2.out.bel.trans (hb5.mono HN2.out.bel.size))
            clear hb5
            go_wp2_with fail
            go_ret
            exact ⟨rfl, HB5.out⟩
set_option maxRecDepth 100000 in
set_option maxHeartbeats 4000000 in
theorem qnob_4 (w : World) (k : Int) (v : Int) (va : Option Addr) (c : Nat) (l : List Int) (h300 : l.length ≤ 300) (hlc : l.length ≤ c) (hmc : c ≤ maxLen) (hc0 : Cells w va (l.map fun k => Value.int .i64 k)) (hwf : ∀ z ∈ l, (Lit.int .i64 z).wf = true) (h1 : ¬ v < 0) (h2 : 3 < v) (h3 : ¬ k < 0) (h4 : 1 < k) : Calls Try.prog 4 #[.int .i64 k, .int .i64 v, .slice va l.length c] w (Fine w) := by
  have HC0 := Lib.hid hc0; have HC0W := Lib.hid hc0; have HWF := Lib.hid hwf
  clear hwf
  clear hc0
  obtain ⟨N, hN⟩ : ∃ N, l.length = N := ⟨_, rfl⟩
  have HN := Lib.hid hN
  rw [hN] at h300 hlc ⊢
  clear hN
  have hvz : varZ v = false := by unfold varZ; simp; omega
  have hkz : leafZ k = false := by unfold leafZ; simp; omega
  have HVZ := Lib.hid hvz; have HKZ := Lib.hid hkz
  clear hvz hkz
  go_enter Try.func4, Try.ntmps4
  go_wp2_with fail
  refine (begun05 w w.heap.size 100 (Nat.le_refl _) (by decide) (by decide)).mono ?_
  rintro e w1 ⟨p, q, qn, rfl, hs, ho, hq, hb⟩
  have H1 := Lib.hid (QSt.begin (r := 98) hs ho hq hb (by decide))
  clear hs ho hq hb
  have HC := Lib.hid (rst_any H1.out k v)
  rw [show nobE v k = 1 from by unfold nobE; rw [HVZ.out, HKZ.out]; rfl] at HC
  go_wp2_with fail
  refine HC.out.mono ?_
  rintro e w2 ⟨nn, hnn, rfl, S2, hq2, hk2⟩
  simp at hnn
  try subst hnn
  have H2 := Lib.hid hq2; have HK2 := Lib.hid hk2
  have HC2 := Lib.hid (HC0.out.below H2.out.toOSt.fin)
  clear hq2 hk2
  have hb256 : ((256 : Int) < (N : Int)) = ((256 : Nat) < N) := by rw [eq_iff_iff]; omega
  go_wp2_with fail
  go_loopg [14, 15] N (fun m y u wr => ∃ i : Nat, m + i = N ∧ y = .bool (oddA l i) ∧ u = .int .i64 (i : Int) ∧ w2 = wr)
  case atStart => exact ⟨0, rfl, by unfold oddA; simp [HN.out], rfl, rfl⟩
  case round =>
    obtain ⟨i, hm, rfl, rfl, rfl⟩ := hrel
    have HM := Lib.hid hm
    clear hm
    by_cases hi : i < N
    · obtain ⟨K, hK⟩ : ∃ K, l[i]? = some K := ⟨_, List.getElem?_eq_getElem (by rw [HN.out]; exact hi)⟩
      obtain ⟨xb, xo, hxa, hxl, hxc⟩ := HC2.out.at_ (k := i) (v := .int .i64 K) (by rw [List.getElem?_map, hK]; rfl)
      subst hxa
      have HO := Lib.hid (oddA_succ hK)
      obtain ⟨o, ho⟩ : ∃ o, oddA l i = o := ⟨_, rfl⟩
      rw [ho] at HO ⊢
      clear ho hK
      cases o with
      | true =>
        go_wp2_with fail
        go_roundg (N - (i + 1))
        case measure => have := HM.out; omega
        case rel => exact ⟨i + 1, by have := HM.out; omega, by rw [HO.out]; rfl, by go_num, rfl⟩
      | false =>
        by_cases hk1 : K < 0
        · go_wp2_with fail
          go_roundg (N - (i + 1))
          case measure => have := HM.out; omega
          case rel => exact ⟨i + 1, by have := HM.out; omega, by rw [HO.out, show varZ K = false from by unfold varZ; simp; omega]; rfl, by go_num, rfl⟩
        · by_cases hk2 : 3 < K
          · go_wp2_with fail
            go_roundg (N - (i + 1))
            case measure => have := HM.out; omega
            case rel => exact ⟨i + 1, by have := HM.out; omega, by rw [HO.out, show varZ K = false from by unfold varZ; simp; omega]; rfl, by go_num, rfl⟩
          · go_wp2_with fail
            go_roundg (N - (i + 1))
            case measure => have := HM.out; omega
            case rel => exact ⟨i + 1, by have := HM.out; omega, by rw [HO.out, show varZ K = true from by unfold varZ; simp; omega]; rfl, by go_num, rfl⟩
    · have hiN : i = N := by have := HM.out; omega
      subst hiN
      have HX := Lib.hid (ex_any H2.out k HK2.out va l c (by rw [HN.out]; exact h300) HC2.out)
      unfold nobX at HX
      rw [HKZ.out, HN.out] at HX
      have hoz : oddA l i = oddZ l := by rw [← HN.out]; exact oddA_all l
      rw [hoz]
      clear hoz
      obtain ⟨o, ho⟩ : ∃ o, oddZ l = o := ⟨_, rfl⟩
      rw [ho] at HX ⊢
      clear ho
      obtain ⟨E2, hE2⟩ : ∃ E2 : Int, (if o then 1 else if false = true then 0 else 3) = E2 := ⟨_, rfl⟩
      rw [hE2] at HX
      clear HC HC0
      cases o
      all_goals
        simp at hE2
        subst hE2
        go_wp2_with fail
        refine HX.out.mono ?_
        rintro e w3 ⟨mm, hmm, rfl, hb3⟩
        simp at hmm
        try subst hmm
        have HB3 := Lib.hid (H2.out.toOSt.fin.trans hb3)
        clear hb3
        go_wp2_with fail
        refine (qnew_no w3 none (.inl rfl)).mono ?_
        rintro e w4 ⟨rfl, rfl⟩
        go_wp2_with fail
        refine (qnew_no _ (some ⟨w3.heap.size, 0, none⟩) (.inr ⟨w3.heap.size, rfl, Blk.new_ w3 _ _⟩)).mono ?_
        rintro e w4 ⟨rfl, rfl⟩
        have HB4 := Lib.hid (HB3.out.alloc HB3.out.size (.cells #[.pointer none, .int .u32 0, .int .i32 0, .int .u32 0, .slice none 0 0, .int .i64 0] 53))
        obtain ⟨w4, hw4⟩ : ∃ w4, w4 = w3.alloc (.cells #[.pointer none, .int .u32 0, .int .i32 0, .int .u32 0, .slice none 0 0, .int .i64 0] 53) := ⟨_, rfl⟩
        rw [← hw4] at HB4 ⊢
        clear hw4
        have HNB := Lib.hid (NB5.start HB4.out)
        go_wp2_with fail
        go_loopg [23] 2 (fun m u wr => ∃ i : Nat, m + i = 2 ∧ u = .int .i64 (i : Int) ∧ NB5 w w4.heap.size wr)
        case atStart => exact ⟨0, rfl, rfl, HNB.out⟩
        case round =>
          obtain ⟨j, hm, rfl, hnb⟩ := hrel
          have HM2 := Lib.hid hm; have HN2 := Lib.hid hnb
          clear hm hnb
          by_cases hj : j < 2
          · obtain ⟨oa, hoa, hca⟩ := HN2.out.at_ hj
            have hbl := HN2.out.blk.lt
            have HO := Lib.hid hoa
            clear hoa
            go_wp2_with fail
            refine (qex_nobody wr oa HO.out k va i c).mono ?_
            rintro e w5 ⟨rfl, hb5⟩
            have HN5 := Lib.hid (HN2.out.below hb5)
            have hca5 : w5.cell? ⟨w4.heap.size + 1, j, none⟩ = some (.pointer oa) := (hb5.cell (p := ⟨w4.heap.size + 1, j, none⟩) hbl).trans hca
            have hbl5 := HN5.out.blk.lt
            have HO5 := Lib.hid (HO.out.below hb5)
            clear hb5 hca hbl
            go_wp2_with fail
            refine (qrs_nobody w5 oa HO5.out k v true).mono ?_
            rintro e w6 ⟨rfl, hb6⟩
            have HN6 := Lib.hid (HN5.out.below hb6)
            have hca6 : w6.cell? ⟨w4.heap.size + 1, j, none⟩ = some (.pointer oa) := (hb6.cell (p := ⟨w4.heap.size + 1, j, none⟩) hbl5).trans hca5
            have hbl6 := HN6.out.blk.lt
            have HO6 := Lib.hid (HO5.out.below hb6)
            clear hb6 hca5 hbl5
            go_wp2_with fail
            refine (qprod_nobody w6 oa HO6.out k k va i c).mono ?_
            rintro e w7 ⟨rfl, hb7⟩
            have HN7 := Lib.hid (HN6.out.below hb7)
            have hca7 : w7.cell? ⟨w4.heap.size + 1, j, none⟩ = some (.pointer oa) := (hb7.cell (p := ⟨w4.heap.size + 1, j, none⟩) hbl6).trans hca6
            have hbl7 := HN7.out.blk.lt
            have HO7 := Lib.hid (HO6.out.below hb7)
            clear hb7 hca6 hbl6
            have HRN := Lib.hid (qrn_nobody w7 oa HO7.out k va l c (by rw [HN.out]; exact h300) (HC0W.out.below HN7.out.bel) HWF.out)
            rw [HN.out] at HRN
            go_wp2_with fail
            refine HRN.out.mono ?_
            rintro e w8 ⟨rfl, hb8⟩
            have HN8 := Lib.hid (HN7.out.below hb8)
            have hca8 : w8.cell? ⟨w4.heap.size + 1, j, none⟩ = some (.pointer oa) := (hb8.cell (p := ⟨w4.heap.size + 1, j, none⟩) hbl7).trans hca7
            have hbl8 := HN8.out.blk.lt
            have HO8 := Lib.hid (HO7.out.below hb8)
            clear hb8 hca7 hbl7 HRN
            go_wp2_with fail
            refine (qops_no w8 oa HO8.out).mono ?_
            rintro e w9 ⟨rfl, rfl⟩
            go_wp2_with fail
            go_roundg (2 - (j + 1))
            case measure => have := HM2.out; omega
            case rel => exact ⟨j + 1, by have := HM2.out; omega, by go_num, HN8.out⟩
          · have hj2 : j = 2 := by have := HM2.out; omega
            subst hj2
            go_wp2_with fail
            refine (awake05 wr).mono ?_
            rintro e w5 ⟨rfl, hb5⟩
            have HB5 := Lib.hid (HN2.out.bel.trans (hb5.mono HN2.out.bel.size))
            clear hb5
            go_wp2_with fail
            go_ret
            exact ⟨rfl, HB5.out⟩
set_option maxRecDepth 100000 in
set_option maxHeartbeats 4000000 in
theorem qnob_5 (w : World) (k : Int) (v : Int) (va : Option Addr) (c : Nat) (l : List Int) (h300 : l.length ≤ 300) (hlc : l.length ≤ c) (hmc : c ≤ maxLen) (hc0 : Cells w va (l.map fun k => Value.int .i64 k)) (hwf : ∀ z ∈ l, (Lit.int .i64 z).wf = true) (h1 : ¬ v < 0) (h2 : 3 < v) (h3 : ¬ k < 0) (h4 : ¬ 1 < k) : Calls Try.prog 4 #[.int .i64 k, .int .i64 v, .slice va l.length c] w (Fine w) := by
  have HC0 := Lib.hid hc0; have HC0W := Lib.hid hc0; have HWF := Lib.hid hwf
  clear hwf
  clear hc0
  obtain ⟨N, hN⟩ : ∃ N, l.length = N := ⟨_, rfl⟩
  have HN := Lib.hid hN
  rw [hN] at h300 hlc ⊢
  clear hN
  have hvz : varZ v = false := by unfold varZ; simp; omega
  have hkz : leafZ k = true := by unfold leafZ; simp; omega
  have HVZ := Lib.hid hvz; have HKZ := Lib.hid hkz
  clear hvz hkz
  go_enter Try.func4, Try.ntmps4
  go_wp2_with fail
  refine (begun05 w w.heap.size 100 (Nat.le_refl _) (by decide) (by decide)).mono ?_
  rintro e w1 ⟨p, q, qn, rfl, hs, ho, hq, hb⟩
  have H1 := Lib.hid (QSt.begin (r := 98) hs ho hq hb (by decide))
  clear hs ho hq hb
  have HC := Lib.hid (rst_any H1.out k v)
  rw [show nobE v k = 1 from by unfold nobE; rw [HVZ.out, HKZ.out]; rfl] at HC
  go_wp2_with fail
  refine HC.out.mono ?_
  rintro e w2 ⟨nn, hnn, rfl, S2, hq2, hk2⟩
  simp at hnn
  try subst hnn
  have H2 := Lib.hid hq2; have HK2 := Lib.hid hk2
  have HC2 := Lib.hid (HC0.out.below H2.out.toOSt.fin)
  clear hq2 hk2
  have hb256 : ((256 : Int) < (N : Int)) = ((256 : Nat) < N) := by rw [eq_iff_iff]; omega
  go_wp2_with fail
  go_loopg [14, 15] N (fun m y u wr => ∃ i : Nat, m + i = N ∧ y = .bool (oddA l i) ∧ u = .int .i64 (i : Int) ∧ w2 = wr)
  case atStart => exact ⟨0, rfl, by unfold oddA; simp [HN.out], rfl, rfl⟩
  case round =>
    obtain ⟨i, hm, rfl, rfl, rfl⟩ := hrel
    have HM := Lib.hid hm
    clear hm
    by_cases hi : i < N
    · obtain ⟨K, hK⟩ : ∃ K, l[i]? = some K := ⟨_, List.getElem?_eq_getElem (by rw [HN.out]; exact hi)⟩
      obtain ⟨xb, xo, hxa, hxl, hxc⟩ := HC2.out.at_ (k := i) (v := .int .i64 K) (by rw [List.getElem?_map, hK]; rfl)
      subst hxa
      have HO := Lib.hid (oddA_succ hK)
      obtain ⟨o, ho⟩ : ∃ o, oddA l i = o := ⟨_, rfl⟩
      rw [ho] at HO ⊢
      clear ho hK
      cases o with
      | true =>
        go_wp2_with fail
        go_roundg (N - (i + 1))
        case measure => have := HM.out; omega
        case rel => exact ⟨i + 1, by have := HM.out; omega, by rw [HO.out]; rfl, by go_num, rfl⟩
      | false =>
        by_cases hk1 : K < 0
        · go_wp2_with fail
          go_roundg (N - (i + 1))
          case measure => have := HM.out; omega
          case rel => exact ⟨i + 1, by have := HM.out; omega, by rw [HO.out, show varZ K = false from by unfold varZ; simp; omega]; rfl, by go_num, rfl⟩
        · by_cases hk2 : 3 < K
          · go_wp2_with fail
            go_roundg (N - (i + 1))
            case measure => have := HM.out; omega
            case rel => exact ⟨i + 1, by have := HM.out; omega, by rw [HO.out, show varZ K = false from by unfold varZ; simp; omega]; rfl, by go_num, rfl⟩
          · go_wp2_with fail
            go_roundg (N - (i + 1))
            case measure => have := HM.out; omega
            case rel => exact ⟨i + 1, by have := HM.out; omega, by rw [HO.out, show varZ K = true from by unfold varZ; simp; omega]; rfl, by go_num, rfl⟩
    · have hiN : i = N := by have := HM.out; omega
      subst hiN
      have HX := Lib.hid (ex_any H2.out k HK2.out va l c (by rw [HN.out]; exact h300) HC2.out)
      unfold nobX at HX
      rw [HKZ.out, HN.out] at HX
      have hoz : oddA l i = oddZ l := by rw [← HN.out]; exact oddA_all l
      rw [hoz]
      clear hoz
      obtain ⟨o, ho⟩ : ∃ o, oddZ l = o := ⟨_, rfl⟩
      rw [ho] at HX ⊢
      clear ho
      obtain ⟨E2, hE2⟩ : ∃ E2 : Int, (if o then 1 else if true = true then 0 else 3) = E2 := ⟨_, rfl⟩
      rw [hE2] at HX
      clear HC HC0
      cases o
      all_goals
        simp at hE2
        subst hE2
        go_wp2_with fail
        refine HX.out.mono ?_
        rintro e w3 ⟨mm, hmm, rfl, hb3⟩
        simp at hmm
        try subst hmm
        have HB3 := Lib.hid (H2.out.toOSt.fin.trans hb3)
        clear hb3
        go_wp2_with fail
        refine (qnew_no w3 none (.inl rfl)).mono ?_
        rintro e w4 ⟨rfl, rfl⟩
        go_wp2_with fail
        refine (qnew_no _ (some ⟨w3.heap.size, 0, none⟩) (.inr ⟨w3.heap.size, rfl, Blk.new_ w3 _ _⟩)).mono ?_
        rintro e w4 ⟨rfl, rfl⟩
        have HB4 := Lib.hid (HB3.out.alloc HB3.out.size (.cells #[.pointer none, .int .u32 0, .int .i32 0, .int .u32 0, .slice none 0 0, .int .i64 0] 53))
        obtain ⟨w4, hw4⟩ : ∃ w4, w4 = w3.alloc (.cells #[.pointer none, .int .u32 0, .int .i32 0, .int .u32 0, .slice none 0 0, .int .i64 0] 53) := ⟨_, rfl⟩
        rw [← hw4] at HB4 ⊢
        clear hw4
        have HNB := Lib.hid (NB5.start HB4.out)
        go_wp2_with fail
        go_loopg [23] 2 (fun m u wr => ∃ i : Nat, m + i = 2 ∧ u = .int .i64 (i : Int) ∧ NB5 w w4.heap.size wr)
        case atStart => exact ⟨0, rfl, rfl, HNB.out⟩
        case round =>
          obtain ⟨j, hm, rfl, hnb⟩ := hrel
          have HM2 := Lib.hid hm; have HN2 := Lib.hid hnb
          clear hm hnb
          by_cases hj : j < 2
          · obtain ⟨oa, hoa, hca⟩ := HN2.out.at_ hj
            have hbl := HN2.out.blk.lt
            have HO := Lib.hid hoa
            clear hoa
            go_wp2_with fail
            refine (qex_nobody wr oa HO.out k va i c).mono ?_
            rintro e w5 ⟨rfl, hb5⟩
            have HN5 := Lib.hid (HN2.out.below hb5)
            have hca5 : w5.cell? ⟨w4.heap.size + 1, j, none⟩ = some (.pointer oa) := (hb5.cell (p := ⟨w4.heap.size + 1, j, none⟩) hbl).trans hca
            have hbl5 := HN5.out.blk.lt
            have HO5 := Lib.hid (HO.out.below hb5)
            clear hb5 hca hbl
            go_wp2_with fail
            refine (qrs_nobody w5 oa HO5.out k v true).mono ?_
            rintro e w6 ⟨rfl, hb6⟩
            have HN6 := Lib.hid (HN5.out.below hb6)
            have hca6 : w6.cell? ⟨w4.heap.size + 1, j, none⟩ = some (.pointer oa) := (hb6.cell (p := ⟨w4.heap.size + 1, j, none⟩) hbl5).trans hca5
            have hbl6 := HN6.out.blk.lt
            have HO6 := Lib.hid (HO5.out.below hb6)
            clear hb6 hca5 hbl5
            go_wp2_with fail
            refine (qprod_nobody w6 oa HO6.out k k va i c).mono ?_
            rintro e w7 ⟨rfl, hb7⟩
            have HN7 := Lib.hid (HN6.out.below hb7)
            have hca7 : w7.cell? ⟨w4.heap.size + 1, j, none⟩ = some (.pointer oa) := (hb7.cell (p := ⟨w4.heap.size + 1, j, none⟩) hbl6).trans hca6
            have hbl7 := HN7.out.blk.lt
            have HO7 := Lib.hid (HO6.out.below hb7)
            clear hb7 hca6 hbl6
            have HRN := Lib.hid (qrn_nobody w7 oa HO7.out k va l c (by rw [HN.out]; exact h300) (HC0W.out.below HN7.out.bel) HWF.out)
            rw [HN.out] at HRN
            go_wp2_with fail
            refine HRN.out.mono ?_
            rintro e w8 ⟨rfl, hb8⟩
            have HN8 := Lib.hid (HN7.out.below hb8)
            have hca8 : w8.cell? ⟨w4.heap.size + 1, j, none⟩ = some (.pointer oa) := (hb8.cell (p := ⟨w4.heap.size + 1, j, none⟩) hbl7).trans hca7
            have hbl8 := HN8.out.blk.lt
            have HO8 := Lib.hid (HO7.out.below hb8)
            clear hb8 hca7 hbl7 HRN
            go_wp2_with fail
            refine (qops_no w8 oa HO8.out).mono ?_
            rintro e w9 ⟨rfl, rfl⟩
            go_wp2_with fail
            go_roundg (2 - (j + 1))
            case measure => have := HM2.out; omega
            case rel => exact ⟨j + 1, by have := HM2.out; omega, by go_num, HN8.out⟩
          · have hj2 : j = 2 := by have := HM2.out; omega
            subst hj2
            go_wp2_with fail
            refine (awake05 wr).mono ?_
            rintro e w5 ⟨rfl, hb5⟩
            have HB5 := Lib.hid (HN2.out.bel.trans (hb5.mono HN2.out.bel.size))
            clear hb5
            go_wp2_with fail
            go_ret
            exact ⟨rfl, HB5.out⟩
set_option maxRecDepth 100000 in
set_option maxHeartbeats 4000000 in
theorem qnob_6 (w : World) (k : Int) (v : Int) (va : Option Addr) (c : Nat) (l : List Int) (h300 : l.length ≤ 300) (hlc : l.length ≤ c) (hmc : c ≤ maxLen) (hc0 : Cells w va (l.map fun k => Value.int .i64 k)) (hwf : ∀ z ∈ l, (Lit.int .i64 z).wf = true) (h1 : ¬ v < 0) (h2 : ¬ 3 < v) (h3 : k < 0) : Calls Try.prog 4 #[.int .i64 k, .int .i64 v, .slice va l.length c] w (Fine w) := by
  have HC0 := Lib.hid hc0; have HC0W := Lib.hid hc0; have HWF := Lib.hid hwf
  clear hwf
  clear hc0
  obtain ⟨N, hN⟩ : ∃ N, l.length = N := ⟨_, rfl⟩
  have HN := Lib.hid hN
  rw [hN] at h300 hlc ⊢
  clear hN
  have hvz : varZ v = true := by unfold varZ; simp; omega
  have hkz : leafZ k = false := by unfold leafZ; simp; omega
  have HVZ := Lib.hid hvz; have HKZ := Lib.hid hkz
  clear hvz hkz
  go_enter Try.func4, Try.ntmps4
  go_wp2_with fail
  refine (begun05 w w.heap.size 100 (Nat.le_refl _) (by decide) (by decide)).mono ?_
  rintro e w1 ⟨p, q, qn, rfl, hs, ho, hq, hb⟩
  have H1 := Lib.hid (QSt.begin (r := 98) hs ho hq hb (by decide))
  clear hs ho hq hb
  have HC := Lib.hid (rst_any H1.out k v)
  rw [show nobE v k = 3 from by unfold nobE; rw [HVZ.out, HKZ.out]; rfl] at HC
  go_wp2_with fail
  refine HC.out.mono ?_
  rintro e w2 ⟨nn, hnn, rfl, S2, hq2, hk2⟩
  simp at hnn
  try subst hnn
  have H2 := Lib.hid hq2; have HK2 := Lib.hid hk2
  have HC2 := Lib.hid (HC0.out.below H2.out.toOSt.fin)
  clear hq2 hk2
  have hb256 : ((256 : Int) < (N : Int)) = ((256 : Nat) < N) := by rw [eq_iff_iff]; omega
  go_wp2_with fail
  go_loopg [14, 15] N (fun m y u wr => ∃ i : Nat, m + i = N ∧ y = .bool (oddA l i) ∧ u = .int .i64 (i : Int) ∧ w2 = wr)
  case atStart => exact ⟨0, rfl, by unfold oddA; simp [HN.out], rfl, rfl⟩
  case round =>
    obtain ⟨i, hm, rfl, rfl, rfl⟩ := hrel
    have HM := Lib.hid hm
    clear hm
    by_cases hi : i < N
    · obtain ⟨K, hK⟩ : ∃ K, l[i]? = some K := ⟨_, List.getElem?_eq_getElem (by rw [HN.out]; exact hi)⟩
      obtain ⟨xb, xo, hxa, hxl, hxc⟩ := HC2.out.at_ (k := i) (v := .int .i64 K) (by rw [List.getElem?_map, hK]; rfl)
      subst hxa
      have HO := Lib.hid (oddA_succ hK)
      obtain ⟨o, ho⟩ : ∃ o, oddA l i = o := ⟨_, rfl⟩
      rw [ho] at HO ⊢
      clear ho hK
      cases o with
      | true =>
        go_wp2_with fail
        go_roundg (N - (i + 1))
        case measure => have := HM.out; omega
        case rel => exact ⟨i + 1, by have := HM.out; omega, by rw [HO.out]; rfl, by go_num, rfl⟩
      | false =>
        by_cases hk1 : K < 0
        · go_wp2_with fail
          go_roundg (N - (i + 1))
          case measure => have := HM.out; omega
          case rel => exact ⟨i + 1, by have := HM.out; omega, by rw [HO.out, show varZ K = false from by unfold varZ; simp; omega]; rfl, by go_num, rfl⟩
        · by_cases hk2 : 3 < K
          · go_wp2_with fail
            go_roundg (N - (i + 1))
            case measure => have := HM.out; omega
            case rel => exact ⟨i + 1, by have := HM.out; omega, by rw [HO.out, show varZ K = false from by unfold varZ; simp; omega]; rfl, by go_num, rfl⟩
          · go_wp2_with fail
            go_roundg (N - (i + 1))
            case measure => have := HM.out; omega
            case rel => exact ⟨i + 1, by have := HM.out; omega, by rw [HO.out, show varZ K = true from by unfold varZ; simp; omega]; rfl, by go_num, rfl⟩
    · have hiN : i = N := by have := HM.out; omega
      subst hiN
      have HX := Lib.hid (ex_any H2.out k HK2.out va l c (by rw [HN.out]; exact h300) HC2.out)
      unfold nobX at HX
      rw [HKZ.out, HN.out] at HX
      have hoz : oddA l i = oddZ l := by rw [← HN.out]; exact oddA_all l
      rw [hoz]
      clear hoz
      obtain ⟨o, ho⟩ : ∃ o, oddZ l = o := ⟨_, rfl⟩
      rw [ho] at HX ⊢
      clear ho
      obtain ⟨E2, hE2⟩ : ∃ E2 : Int, (if o then 1 else if false = true then 0 else 3) = E2 := ⟨_, rfl⟩
      rw [hE2] at HX
      clear HC HC0
      cases o
      all_goals
        simp at hE2
        subst hE2
        go_wp2_with fail
        refine HX.out.mono ?_
        rintro e w3 ⟨mm, hmm, rfl, hb3⟩
        simp at hmm
        try subst hmm
        have HB3 := Lib.hid (H2.out.toOSt.fin.trans hb3)
        clear hb3
        go_wp2_with fail
        refine (qnew_no w3 none (.inl rfl)).mono ?_
        rintro e w4 ⟨rfl, rfl⟩
        go_wp2_with fail
        refine (qnew_no _ (some ⟨w3.heap.size, 0, none⟩) (.inr ⟨w3.heap.size, rfl, Blk.new_ w3 _ _⟩)).mono ?_
        rintro e w4 ⟨rfl, rfl⟩
        have HB4 := Lib.hid (HB3.out.alloc HB3.out.size (.cells #[.pointer none, .int .u32 0, .int .i32 0, .int .u32 0, .slice none 0 0, .int .i64 0] 53))
        obtain ⟨w4, hw4⟩ : ∃ w4, w4 = w3.alloc (.cells #[.pointer none, .int .u32 0, .int .i32 0, .int .u32 0, .slice none 0 0, .int .i64 0] 53) := ⟨_, rfl⟩
        rw [← hw4] at HB4 ⊢
        clear hw4
        have HNB := Lib.hid (NB5.start HB4.out)
        go_wp2_with fail
        go_loopg [23] 2 (fun m u wr => ∃ i : Nat, m + i = 2 ∧ u = .int .i64 (i : Int) ∧ NB5 w w4.heap.size wr)
        case atStart => exact ⟨0, rfl, rfl, HNB.out⟩
        case round =>
          obtain ⟨j, hm, rfl, hnb⟩ := hrel
          have HM2 := Lib.hid hm; have HN2 := Lib.hid hnb
          clear hm hnb
          by_cases hj : j < 2
          · obtain ⟨oa, hoa, hca⟩ := HN2.out.at_ hj
            have hbl := HN2.out.blk.lt
            have HO := Lib.hid hoa
            clear hoa
            go_wp2_with fail
            refine (qex_nobody wr oa HO.out k va i c).mono ?_
            rintro e w5 ⟨rfl, hb5⟩
            have HN5 := Lib.hid (HN2.out.below hb5)
            have hca5 : w5.cell? ⟨w4.heap.size + 1, j, none⟩ = some (.pointer oa) := (hb5.cell (p := ⟨w4.heap.size + 1, j, none⟩) hbl).trans hca
            have hbl5 := HN5.out.blk.lt
            have HO5 := Lib.hid (HO.out.below hb5)
            clear hb5 hca hbl
            go_wp2_with fail
            refine (qrs_nobody w5 oa HO5.out k v true).mono ?_
            rintro e w6 ⟨rfl, hb6⟩
            have HN6 := Lib.hid (HN5.out.below hb6)
            have hca6 : w6.cell? ⟨w4.heap.size + 1, j, none⟩ = some (.pointer oa) := (hb6.cell (p := ⟨w4.heap.size + 1, j, none⟩) hbl5).trans hca5
            have hbl6 := HN6.out.blk.lt
            have HO6 := Lib.hid (HO5.out.below hb6)
            clear hb6 hca5 hbl5
            go_wp2_with fail
            refine (qprod_nobody w6 oa HO6.out k k va i c).mono ?_
            rintro e w7 ⟨rfl, hb7⟩
            have HN7 := Lib.hid (HN6.out.below hb7)
            have hca7 : w7.cell? ⟨w4.heap.size + 1, j, none⟩ = some (.pointer oa) := (hb7.cell (p := ⟨w4.heap.size + 1, j, none⟩) hbl6).trans hca6
            have hbl7 := HN7.out.blk.lt
            have HO7 := Lib.hid (HO6.out.below hb7)
            clear hb7 hca6 hbl6
            have HRN := Lib.hid (qrn_nobody w7 oa HO7.out k va l c (by rw [HN.out]; exact h300) (HC0W.out.below HN7.out.bel) HWF.out)
            rw [HN.out] at HRN
            go_wp2_with fail
            refine HRN.out.mono ?_
            rintro e w8 ⟨rfl, hb8⟩
            have HN8 := Lib.hid (HN7.out.below hb8)
            have hca8 : w8.cell? ⟨w4.heap.size + 1, j, none⟩ = some (.pointer oa) := (hb8.cell (p := ⟨w4.heap.size + 1, j, none⟩) hbl7).trans hca7
            have hbl8 := HN8.out.blk.lt
            have HO8 := Lib.hid (HO7.out.below hb8)
            clear hb8 hca7 hbl7 HRN
            go_wp2_with fail
            refine (qops_no w8 oa HO8.out).mono ?_
            rintro e w9 ⟨rfl, rfl⟩
            go_wp2_with fail
            go_roundg (2 - (j + 1))
            case measure => have := HM2.out; omega
            case rel => exact ⟨j + 1, by have := HM2.out; omega, by go_num, HN8.out⟩
          · have hj2 : j = 2 := by have := HM2.out; omega
            subst hj2
            go_wp2_with fail
            refine (awake05 wr).mono ?_
            rintro e w5 ⟨rfl, hb5⟩
            have HB5 := Lib.hid (HN2.out.bel.trans (hb5.mono HN2.out.bel.size))
            clear hb5
            go_wp2_with fail
            go_ret
            exact ⟨rfl, HB5.out⟩
set_option maxRecDepth 100000 in
set_option maxHeartbeats 4000000 in
theorem qnob_7 (w : World) (k : Int) (v : Int) (va : Option Addr) (c : Nat) (l : List Int) (h300 : l.length ≤ 300) (hlc : l.length ≤ c) (hmc : c ≤ maxLen) (hc0 : Cells w va (l.map fun k => Value.int .i64 k)) (hwf : ∀ z ∈ l, (Lit.int .i64 z).wf = true) (h1 : ¬ v < 0) (h2 : ¬ 3 < v) (h3 : ¬ k < 0) (h4 : 1 < k) : Calls Try.prog 4 #[.int .i64 k, .int .i64 v, .slice va l.length c] w (Fine w) := by
  have HC0 := Lib.hid hc0; have HC0W := Lib.hid hc0; have HWF := Lib.hid hwf
  clear hwf
  clear hc0
  obtain ⟨N, hN⟩ : ∃ N, l.length = N := ⟨_, rfl⟩
  have HN := Lib.hid hN
  rw [hN] at h300 hlc ⊢
  clear hN
  have hvz : varZ v = true := by unfold varZ; simp; omega
  have hkz : leafZ k = false := by unfold leafZ; simp; omega
  have HVZ := Lib.hid hvz; have HKZ := Lib.hid hkz
  clear hvz hkz
  go_enter Try.func4, Try.ntmps4
  go_wp2_with fail
  refine (begun05 w w.heap.size 100 (Nat.le_refl _) (by decide) (by decide)).mono ?_
  rintro e w1 ⟨p, q, qn, rfl, hs, ho, hq, hb⟩
  have H1 := Lib.hid (QSt.begin (r := 98) hs ho hq hb (by decide))
  clear hs ho hq hb
  have HC := Lib.hid (rst_any H1.out k v)
  rw [show nobE v k = 3 from by unfold nobE; rw [HVZ.out, HKZ.out]; rfl] at HC
  go_wp2_with fail
  refine HC.out.mono ?_
  rintro e w2 ⟨nn, hnn, rfl, S2, hq2, hk2⟩
  simp at hnn
  try subst hnn
  have H2 := Lib.hid hq2; have HK2 := Lib.hid hk2
  have HC2 := Lib.hid (HC0.out.below H2.out.toOSt.fin)
  clear hq2 hk2
  have hb256 : ((256 : Int) < (N : Int)) = ((256 : Nat) < N) := by rw [eq_iff_iff]; omega
  go_wp2_with fail
  go_loopg [14, 15] N (fun m y u wr => ∃ i : Nat, m + i = N ∧ y = .bool (oddA l i) ∧ u = .int .i64 (i : Int) ∧ w2 = wr)
  case atStart => exact ⟨0, rfl, by unfold oddA; simp [HN.out], rfl, rfl⟩
  case round =>
    obtain ⟨i, hm, rfl, rfl, rfl⟩ := hrel
    have HM := Lib.hid hm
    clear hm
    by_cases hi : i < N
    · obtain ⟨K, hK⟩ : ∃ K, l[i]? = some K := ⟨_, List.getElem?_eq_getElem (by rw [HN.out]; exact hi)⟩
      obtain ⟨xb, xo, hxa, hxl, hxc⟩ := HC2.out.at_ (k := i) (v := .int .i64 K) (by rw [List.getElem?_map, hK]; rfl)
      subst hxa
      have HO := Lib.hid (oddA_succ hK)
      obtain ⟨o, ho⟩ : ∃ o, oddA l i = o := ⟨_, rfl⟩
      rw [ho] at HO ⊢
      clear ho hK
      cases o with
      | true =>
        go_wp2_with fail
        go_roundg (N - (i + 1))
        case measure => have := HM.out; omega
        case rel => exact ⟨i + 1, by have := HM.out; omega, by rw [HO.out]; rfl, by go_num, rfl⟩
      | false =>
        by_cases hk1 : K < 0
        · go_wp2_with fail
          go_roundg (N - (i + 1))
          case measure => have := HM.out; omega
          case rel => exact ⟨i + 1, by have := HM.out; omega, by rw [HO.out, show varZ K = false from by unfold varZ; simp; omega]; rfl, by go_num, rfl⟩
        · by_cases hk2 : 3 < K
          · go_wp2_with fail
            go_roundg (N - (i + 1))
            case measure => have := HM.out; omega
            case rel => exact ⟨i + 1, by have := HM.out; omega, by rw [HO.out, show varZ K = false from by unfold varZ; simp; omega]; rfl, by go_num, rfl⟩
          · go_wp2_with fail
            go_roundg (N - (i + 1))
            case measure => have := HM.out; omega
            case rel => exact ⟨i + 1, by have := HM.out; omega, by rw [HO.out, show varZ K = true from by unfold varZ; simp; omega]; rfl, by go_num, rfl⟩
    · have hiN : i = N := by have := HM.out; omega
      subst hiN
      have HX := Lib.hid (ex_any H2.out k HK2.out va l c (by rw [HN.out]; exact h300) HC2.out)
      unfold nobX at HX
      rw [HKZ.out, HN.out] at HX
      have hoz : oddA l i = oddZ l := by rw [← HN.out]; exact oddA_all l
      rw [hoz]
      clear hoz
      obtain ⟨o, ho⟩ : ∃ o, oddZ l = o := ⟨_, rfl⟩
      rw [ho] at HX ⊢
      clear ho
      obtain ⟨E2, hE2⟩ : ∃ E2 : Int, (if o then 1 else if false = true then 0 else 3) = E2 := ⟨_, rfl⟩
      rw [hE2] at HX
      clear HC HC0
      cases o
      all_goals
        simp at hE2
        subst hE2
        go_wp2_with fail
        refine HX.out.mono ?_
        rintro e w3 ⟨mm, hmm, rfl, hb3⟩
        simp at hmm
        try subst hmm
        have HB3 := Lib.hid (H2.out.toOSt.fin.trans hb3)
        clear hb3
        go_wp2_with fail
        refine (qnew_no w3 none (.inl rfl)).mono ?_
        rintro e w4 ⟨rfl, rfl⟩
        go_wp2_with fail
        refine (qnew_no _ (some ⟨w3.heap.size, 0, none⟩) (.inr ⟨w3.heap.size, rfl, Blk.new_ w3 _ _⟩)).mono ?_
        rintro e w4 ⟨rfl, rfl⟩
        have HB4 := Lib.hid (HB3.out.alloc HB3.out.size (.cells #[.pointer none, .int .u32 0, .int .i32 0, .int .u32 0, .slice none 0 0, .int .i64 0] 53))
        obtain ⟨w4, hw4⟩ : ∃ w4, w4 = w3.alloc (.cells #[.pointer none, .int .u32 0, .int .i32 0, .int .u32 0, .slice none 0 0, .int .i64 0] 53) := ⟨_, rfl⟩
        rw [← hw4] at HB4 ⊢
        clear hw4
        have HNB := Lib.hid (NB5.start HB4.out)
        go_wp2_with fail
        go_loopg [23] 2 (fun m u wr => ∃ i : Nat, m + i = 2 ∧ u = .int .i64 (i : Int) ∧ NB5 w w4.heap.size wr)
        case atStart => exact ⟨0, rfl, rfl, HNB.out⟩
        case round =>
          obtain ⟨j, hm, rfl, hnb⟩ := hrel
          have HM2 := Lib.hid hm; have HN2 := Lib.hid hnb
          clear hm hnb
          by_cases hj : j < 2
          · obtain ⟨oa, hoa, hca⟩ := HN2.out.at_ hj
            have hbl := HN2.out.blk.lt
            have HO := Lib.hid hoa
            clear hoa
            go_wp2_with fail
            refine (qex_nobody wr oa HO.out k va i c).mono ?_
            rintro e w5 ⟨rfl, hb5⟩
            have HN5 := Lib.hid (HN2.out.below hb5)
            have hca5 : w5.cell? ⟨w4.heap.size + 1, j, none⟩ = some (.pointer oa) := (hb5.cell (p := ⟨w4.heap.size + 1, j, none⟩) hbl).trans hca
            have hbl5 := HN5.out.blk.lt
            have HO5 := Lib.hid (HO.out.below hb5)
            clear hb5 hca hbl
            go_wp2_with fail
            refine (qrs_nobody w5 oa HO5.out k v true).mono ?_
            rintro e w6 ⟨rfl, hb6⟩
            have HN6 := Lib.hid (HN5.out.below hb6)
            have hca6 : w6.cell? ⟨w4.heap.size + 1, j, none⟩ = some (.pointer oa) := (hb6.cell (p := ⟨w4.heap.size + 1, j, none⟩) hbl5).trans hca5
            have hbl6 := HN6.out.blk.lt
            have HO6 := Lib.hid (HO5.out.below hb6)
            clear hb6 hca5 hbl5
            go_wp2_with fail
            refine (qprod_nobody w6 oa HO6.out k k va i c).mono ?_
            rintro e w7 ⟨rfl, hb7⟩
            have HN7 := Lib.hid (HN6.out.below hb7)
            have hca7 : w7.cell? ⟨w4.heap.size + 1, j, none⟩ = some (.pointer oa) := (hb7.cell (p := ⟨w4.heap.size + 1, j, none⟩) hbl6).trans hca6
            have hbl7 := HN7.out.blk.lt
            have HO7 := Lib.hid (HO6.out.below hb7)
            clear hb7 hca6 hbl6
            have HRN := Lib.hid (qrn_nobody w7 oa HO7.out k va l c (by rw [HN.out]; exact h300) (HC0W.out.below HN7.out.bel) HWF.out)
            rw [HN.out] at HRN
            go_wp2_with fail
            refine HRN.out.mono ?_
            rintro e w8 ⟨rfl, hb8⟩
            have HN8 := Lib.hid (HN7.out.below hb8)
            have hca8 : w8.cell? ⟨w4.heap.size + 1, j, none⟩ = some (.pointer oa) := (hb8.cell (p := ⟨w4.heap.size + 1, j, none⟩) hbl7).trans hca7
            have hbl8 := HN8.out.blk.lt
            have HO8 := Lib.hid (HO7.out.below hb8)
            clear hb8 hca7 hbl7 HRN
            go_wp2_with fail
            refine (qops_no w8 oa HO8.out).mono ?_
            rintro e w9 ⟨rfl, rfl⟩
            go_wp2_with fail
            go_roundg (2 - (j + 1))
            case measure => have := HM2.out; omega
            case rel => exact ⟨j + 1, by have := HM2.out; omega, by go_num, HN8.out⟩
          · have hj2 : j = 2 := by have := HM2.out; omega
            subst hj2
            go_wp2_with fail
            refine (awake05 wr).mono ?_
            rintro e w5 ⟨rfl, hb5⟩
            have HB5 := Lib.hid (HN2.out.bel.trans (hb5.mono HN2.out.bel.size))
            clear hb5
            go_wp2_with fail
            go_ret
            exact ⟨rfl, HB5.out⟩
set_option maxRecDepth 100000 in
set_option maxHeartbeats 4000000 in
theorem qnob_8 (w : World) (k : Int) (v : Int) (va : Option Addr) (c : Nat) (l : List Int) (h300 : l.length ≤ 300) (hlc : l.length ≤ c) (hmc : c ≤ maxLen) (hc0 : Cells w va (l.map fun k => Value.int .i64 k)) (hwf : ∀ z ∈ l, (Lit.int .i64 z).wf = true) (h1 : ¬ v < 0) (h2 : ¬ 3 < v) (h3 : ¬ k < 0) (h4 : ¬ 1 < k) : Calls Try.prog 4 #[.int .i64 k, .int .i64 v, .slice va l.length c] w (Fine w) := by
  have HC0 := Lib.hid hc0; have HC0W := Lib.hid hc0; have HWF := Lib.hid hwf
  clear hwf
  clear hc0
  obtain ⟨N, hN⟩ : ∃ N, l.length = N := ⟨_, rfl⟩
  have HN := Lib.hid hN
  rw [hN] at h300 hlc ⊢
  clear hN
  have hvz : varZ v = true := by unfold varZ; simp; omega
  have hkz : leafZ k = true := by unfold leafZ; simp; omega
  have HVZ := Lib.hid hvz; have HKZ := Lib.hid hkz
  clear hvz hkz
  go_enter Try.func4, Try.ntmps4
  go_wp2_with fail
  refine (begun05 w w.heap.size 100 (Nat.le_refl _) (by decide) (by decide)).mono ?_
  rintro e w1 ⟨p, q, qn, rfl, hs, ho, hq, hb⟩
  have H1 := Lib.hid (QSt.begin (r := 98) hs ho hq hb (by decide))
  clear hs ho hq hb
  have HC := Lib.hid (rst_any H1.out k v)
  rw [show nobE v k = 0 from by unfold nobE; rw [HVZ.out, HKZ.out]; rfl] at HC
  go_wp2_with fail
  refine HC.out.mono ?_
  rintro e w2 ⟨nn, hnn, rfl, S2, hq2, hk2⟩
  simp at hnn
  try subst hnn
  have H2 := Lib.hid hq2; have HK2 := Lib.hid hk2
  have HC2 := Lib.hid (HC0.out.below H2.out.toOSt.fin)
  clear hq2 hk2
  have hb256 : ((256 : Int) < (N : Int)) = ((256 : Nat) < N) := by rw [eq_iff_iff]; omega
  go_wp2_with fail
  go_loopg [14, 15] N (fun m y u wr => ∃ i : Nat, m + i = N ∧ y = .bool (oddA l i) ∧ u = .int .i64 (i : Int) ∧ w2 = wr)
  case atStart => exact ⟨0, rfl, by unfold oddA; simp [HN.out], rfl, rfl⟩
  case round =>
    obtain ⟨i, hm, rfl, rfl, rfl⟩ := hrel
    have HM := Lib.hid hm
    clear hm
    by_cases hi : i < N
    · obtain ⟨K, hK⟩ : ∃ K, l[i]? = some K := ⟨_, List.getElem?_eq_getElem (by rw [HN.out]; exact hi)⟩
      obtain ⟨xb, xo, hxa, hxl, hxc⟩ := HC2.out.at_ (k := i) (v := .int .i64 K) (by rw [List.getElem?_map, hK]; rfl)
      subst hxa
      have HO := Lib.hid (oddA_succ hK)
      obtain ⟨o, ho⟩ : ∃ o, oddA l i = o := ⟨_, rfl⟩
      rw [ho] at HO ⊢
      clear ho hK
      cases o with
      | true =>
        go_wp2_with fail
        go_roundg (N - (i + 1))
        case measure => have := HM.out; omega
        case rel => exact ⟨i + 1, by have := HM.out; omega, by rw [HO.out]; rfl, by go_num, rfl⟩
      | false =>
        by_cases hk1 : K < 0
        · go_wp2_with fail
          go_roundg (N - (i + 1))
          case measure => have := HM.out; omega
          case rel => exact ⟨i + 1, by have := HM.out; omega, by rw [HO.out, show varZ K = false from by unfold varZ; simp; omega]; rfl, by go_num, rfl⟩
        · by_cases hk2 : 3 < K
          · go_wp2_with fail
            go_roundg (N - (i + 1))
            case measure => have := HM.out; omega
            case rel => exact ⟨i + 1, by have := HM.out; omega, by rw [HO.out, show varZ K = false from by unfold varZ; simp; omega]; rfl, by go_num, rfl⟩
          · go_wp2_with fail
            go_roundg (N - (i + 1))
            case measure => have := HM.out; omega
            case rel => exact ⟨i + 1, by have := HM.out; omega, by rw [HO.out, show varZ K = true from by unfold varZ; simp; omega]; rfl, by go_num, rfl⟩
    · have hiN : i = N := by have := HM.out; omega
      subst hiN
      have HX := Lib.hid (ex_any H2.out k HK2.out va l c (by rw [HN.out]; exact h300) HC2.out)
      unfold nobX at HX
      rw [HKZ.out, HN.out] at HX
      have hoz : oddA l i = oddZ l := by rw [← HN.out]; exact oddA_all l
      rw [hoz]
      clear hoz
      obtain ⟨o, ho⟩ : ∃ o, oddZ l = o := ⟨_, rfl⟩
      rw [ho] at HX ⊢
      clear ho
      obtain ⟨E2, hE2⟩ : ∃ E2 : Int, (if o then 1 else if true = true then 0 else 3) = E2 := ⟨_, rfl⟩
      rw [hE2] at HX
      clear HC HC0
      cases o
      all_goals
        simp at hE2
        subst hE2
        go_wp2_with fail
        refine HX.out.mono ?_
        rintro e w3 ⟨mm, hmm, rfl, hb3⟩
        simp at hmm
        try subst hmm
        have HB3 := Lib.hid (H2.out.toOSt.fin.trans hb3)
        clear hb3
        go_wp2_with fail
        refine (qnew_no w3 none (.inl rfl)).mono ?_
        rintro e w4 ⟨rfl, rfl⟩
        go_wp2_with fail
        refine (qnew_no _ (some ⟨w3.heap.size, 0, none⟩) (.inr ⟨w3.heap.size, rfl, Blk.new_ w3 _ _⟩)).mono ?_
        rintro e w4 ⟨rfl, rfl⟩
        have HB4 := Lib.hid (HB3.out.alloc HB3.out.size (.cells #[.pointer none, .int .u32 0, .int .i32 0, .int .u32 0, .slice none 0 0, .int .i64 0] 53))
        obtain ⟨w4, hw4⟩ : ∃ w4, w4 = w3.alloc (.cells #[.pointer none, .int .u32 0, .int .i32 0, .int .u32 0, .slice none 0 0, .int .i64 0] 53) := ⟨_, rfl⟩
        rw [← hw4] at HB4 ⊢
        clear hw4
        have HNB := Lib.hid (NB5.start HB4.out)
        go_wp2_with fail
        go_loopg [23] 2 (fun m u wr => ∃ i : Nat, m + i = 2 ∧ u = .int .i64 (i : Int) ∧ NB5 w w4.heap.size wr)
        case atStart => exact ⟨0, rfl, rfl, HNB.out⟩
        case round =>
          obtain ⟨j, hm, rfl, hnb⟩ := hrel
          have HM2 := Lib.hid hm; have HN2 := Lib.hid hnb
          clear hm hnb
          by_cases hj : j < 2
          · obtain ⟨oa, hoa, hca⟩ := HN2.out.at_ hj
            have hbl := HN2.out.blk.lt
            have HO := Lib.hid hoa
            clear hoa
            go_wp2_with fail
            refine (qex_nobody wr oa HO.out k va i c).mono ?_
            rintro e w5 ⟨rfl, hb5⟩
            have HN5 := Lib.hid (HN2.out.below hb5)
            have hca5 : w5.cell? ⟨w4.heap.size + 1, j, none⟩ = some (.pointer oa) := (hb5.cell (p := ⟨w4.heap.size + 1, j, none⟩) hbl).trans hca
            have hbl5 := HN5.out.blk.lt
            have HO5 := Lib.hid (HO.out.below hb5)
            clear hb5 hca hbl
            go_wp2_with fail
            refine (qrs_nobody w5 oa HO5.out k v true).mono ?_
            rintro e w6 ⟨rfl, hb6⟩
            have HN6 := Lib.hid (HN5.out.below hb6)
            have hca6 : w6.cell? ⟨w4.heap.size + 1, j, none⟩ = some (.pointer oa) := (hb6.cell (p := ⟨w4.heap.size + 1, j, none⟩) hbl5).trans hca5
            have hbl6 := HN6.out.blk.lt
            have HO6 := Lib.hid (HO5.out.below hb6)
            clear hb6 hca5 hbl5
            go_wp2_with fail
            refine (qprod_nobody w6 oa HO6.out k k va i c).mono ?_
            rintro e w7 ⟨rfl, hb7⟩
            have HN7 := Lib.hid (HN6.out.below hb7)
            have hca7 : w7.cell? ⟨w4.heap.size + 1, j, none⟩ = some (.pointer oa) := (hb7.cell (p := ⟨w4.heap.size + 1, j, none⟩) hbl6).trans hca6
            have hbl7 := HN7.out.blk.lt
            have HO7 := Lib.hid (HO6.out.below hb7)
            clear hb7 hca6 hbl6
            have HRN := Lib.hid (qrn_nobody w7 oa HO7.out k va l c (by rw [HN.out]; exact h300) (HC0W.out.below HN7.out.bel) HWF.out)
            rw [HN.out] at HRN
            go_wp2_with fail
            refine HRN.out.mono ?_
            rintro e w8 ⟨rfl, hb8⟩
            have HN8 := Lib.hid (HN7.out.below hb8)
            have hca8 : w8.cell? ⟨w4.heap.size + 1, j, none⟩ = some (.pointer oa) := (hb8.cell (p := ⟨w4.heap.size + 1, j, none⟩) hbl7).trans hca7
            have hbl8 := HN8.out.blk.lt
            have HO8 := Lib.hid (HO7.out.below hb8)
            clear hb8 hca7 hbl7 HRN
            go_wp2_with fail
            refine (qops_no w8 oa HO8.out).mono ?_
            rintro e w9 ⟨rfl, rfl⟩
            go_wp2_with fail
            go_roundg (2 - (j + 1))
            case measure => have := HM2.out; omega
            case rel => exact ⟨j + 1, by have := HM2.out; omega, by go_num, HN8.out⟩
          · have hj2 : j = 2 := by have := HM2.out; omega
            subst hj2
            go_wp2_with fail
            refine (awake05 wr).mono ?_
            rintro e w5 ⟨rfl, hb5⟩
            have HB5 := Lib.hid (HN2.out.bel.trans (hb5.mono HN2.out.bel.size))
            clear hb5
            go_wp2_with fail
            go_ret
            exact ⟨rfl, HB5.out⟩
theorem quanNobody_few (w : World) (k : Int) (v : Int) (va : Option Addr) (c : Nat) (l : List Int) (h300 : l.length ≤ 300) (hlc : l.length ≤ c) (hmc : c ≤ maxLen) (hc0 : Cells w va (l.map fun k => Value.int .i64 k)) (hwf : ∀ z ∈ l, (Lit.int .i64 z).wf = true) : Calls Try.prog 4 #[.int .i64 k, .int .i64 v, .slice va l.length c] w (Fine w) := by
  by_cases v1 : v < 0
  · by_cases k1 : k < 0
    · exact qnob_0 w k v va c l h300 hlc hmc hc0 hwf v1 k1
    · by_cases k2 : 1 < k
      · exact qnob_1 w k v va c l h300 hlc hmc hc0 hwf v1 k1 k2
      · exact qnob_2 w k v va c l h300 hlc hmc hc0 hwf v1 k1 k2
  · by_cases v2 : 3 < v
    · by_cases k1 : k < 0
      · exact qnob_3 w k v va c l h300 hlc hmc hc0 hwf v1 v2 k1
      · by_cases k2 : 1 < k
        · exact qnob_4 w k v va c l h300 hlc hmc hc0 hwf v1 v2 k1 k2
        · exact qnob_5 w k v va c l h300 hlc hmc hc0 hwf v1 v2 k1 k2
    · by_cases k1 : k < 0
      · exact qnob_6 w k v va c l h300 hlc hmc hc0 hwf v1 v2 k1
      · by_cases k2 : 1 < k
        · exact qnob_7 w k v va c l h300 hlc hmc hc0 hwf v1 v2 k1 k2
        · exact qnob_8 w k v va c l h300 hlc hmc hc0 hwf v1 v2 k1 k2
set_option maxRecDepth 100000 in
set_option maxHeartbeats 4000000 in
theorem quanNobody_walk (w : World) (k : Int) (_wk : (Lit.int .i64 k).wf = true) (v : Int) (_wv : (Lit.int .i64 v).wf = true) (va : Option Addr) (c : Nat) (l : List Int) (hlc : l.length ≤ c) (hmc : c ≤ maxLen) (hc0 : Cells w va (l.flatMap intCells)) (wf : ∀ y ∈ l, wfI y) : Calls Try.prog 4 #[.int .i64 k, .int .i64 v, .slice va l.length c] w (Fine w) := by
  rw [ints_flat] at hc0
  by_cases h300 : l.length ≤ 300
  · exact quanNobody_few w k v va c l h300 hlc hmc hc0 wf
  · obtain ⟨N, hN⟩ : ∃ N, l.length = N := ⟨_, rfl⟩
    rw [hN] at h300 hlc ⊢
    have h3 : 300 < N := by omega
    clear hc0 wf hN h300
    go_enter Try.func4, Try.ntmps4
    go_wp2_with fail
    refine (begun05 w w.heap.size 100 (Nat.le_refl _) (by decide) (by decide)).mono ?_
    rintro e w1 ⟨p, q, qn, rfl, hs, ho, hq, hb⟩
    have HB := Lib.hid hb
    clear hs ho hq hb
    go_wp2_with fail
    refine (awake05 w1).mono ?_
    rintro e w5 ⟨rfl, hb5⟩
    have HB5 := Lib.hid (HB.out.trans (hb5.mono HB.out.size))
    clear hb5
    go_wp2_with fail
    go_ret
    exact ⟨rfl, HB5.out⟩
end Go.Proofs.Ytoegenacjhmicaa
