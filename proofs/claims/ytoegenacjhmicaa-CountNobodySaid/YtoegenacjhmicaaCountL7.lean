/- CountNobody: the walk. -/
import Derived.Test.YtoegenacjhmicaaCountP2
namespace Go.Proofs.Ytoegenacjhmicaa
open Go.RowKit HP NP
set_option maxRecDepth 100000 in
set_option maxHeartbeats 6400000 in
theorem nobody_many (w : World) (zk zm : Int) (a : Option Addr) (c : Nat) (zs : List Int) (h : 100 < zs.length) : Calls Try.prog 11 #[.int .i64 zk, .int .i64 zm, .slice a zs.length c] w (Fine6 w) := by
  obtain ⟨N, hN⟩ : ∃ N, zs.length = N := ⟨_, rfl⟩
  rw [hN] at h ⊢
  have d1 : decide ((100 : Int) < (N : Int)) = true := decide_eq_true (by omega)
  have d2 : decide (100 < N) = true := decide_eq_true h
  clear hN h
  go_enter Try.func11, Try.ntmps11
  go_wp2_with fail
  refine (begun6 w).mono ?_
  rintro e w1 ⟨p, rfl, hs1⟩
  have HS1 := Lib.hid hs1
  clear hs1
  go_wp2_with fail
  refine (awake6 w1).mono ?_
  rintro e w2 ⟨rfl, hb2⟩
  have HS2 := Lib.hid (HS1.out.below hb2)
  clear hb2
  go_wp2_with fail
  go_ret
  exact ⟨rfl, HS2.out.bel⟩
theorem flat_ints (zs : List Int) : zs.flatMap intCells = zV zs := by
  unfold zV
  induction zs with
  | nil => rfl
  | cons z zs ih => rw [List.flatMap_cons, List.map_cons, ih]; rfl
/-- behind the slice of stores that nobody made -/
structure NB6 (w : World) (s : Nat) (wr : World) : Prop where
  bel : Below w.heap.size w wr
  blk : Blk wr (s + 1) 22 #[.pointer none, .pointer (some ⟨s, 0, none⟩)]
  sto : Blk wr s 88 #[.int .i64 0, .int .i64 0, .slice none 0 0, .slice none 0 0, .pointer none, .int .i64 0, .int .i64 0, .int .i64 0]
theorem NB6.below {w w' wr : World} {s : Nat} (h : NB6 w s wr) (hb : Below wr.heap.size wr w') : NB6 w s w' := ⟨h.bel.trans (hb.mono h.bel.size), h.blk.below hb h.blk.lt, h.sto.below hb h.sto.lt⟩
theorem NB6.at_ {w wr : World} {s : Nat} (h : NB6 w s wr) {i : Nat} (hi : i < 2) : ∃ oa, NoSt wr oa ∧ wr.cell? ⟨s + 1, i, none⟩ = some (.pointer oa) := by
  rcases (by omega : i = 0 ∨ i = 1) with rfl | rfl
  · exact ⟨none, .inl rfl, h.blk.cell 0⟩
  · exact ⟨_, .inr ⟨_, rfl, h.sto⟩, h.blk.cell 1⟩
set_option maxRecDepth 100000 in
set_option maxHeartbeats 6400000 in
theorem nobody_few1 (w : World) (zk zm : Int) (a : Option Addr) (c : Nat) (zs : List Int) (hc : Cells w a (zV zs)) (hwf : ∀ z ∈ zs, (Lit.int .i64 z).wf = true) (h : ¬ 100 < zs.length) (m0 : zm < 0) : Calls Try.prog 11 #[.int .i64 zk, .int .i64 zm, .slice a zs.length c] w (Fine6 w) := by
  have HM0 := Lib.hid m0
  clear m0
  obtain ⟨g, hg⟩ : ∃ g, (decide (zk < 0) || decide (1 < zk)) = g := ⟨_, rfl⟩
  have HG := Lib.hid hg
  obtain ⟨N, hN⟩ : ∃ N, zs.length = N := ⟨_, rfl⟩
  rw [hN] at h ⊢
  have d1 : decide ((100 : Int) < (N : Int)) = false := decide_eq_false (by omega)
  have d2 : decide (100 < N) = false := decide_eq_false h
  have HN := Lib.hid hN; have HC := Lib.hid hc; have HWF := Lib.hid hwf
  clear hN hc hwf hg
  go_enter Try.func11, Try.ntmps11
  go_wp2_with fail
  refine (begun6 w).mono ?_
  rintro e w1 ⟨p, rfl, hs1⟩
  have HS1 := Lib.hid hs1
  clear hs1
  go_upto_region 4 with (fail)
  go_cut [9] (fun x wc => w1 = wc ∧ x = .bool g)
  case first =>
    by_cases h1 : zk < 0
    · have e1 : decide (zk < 0) = true := decide_eq_true h1
      have HGT : Hid (g = true) := Lib.hid (by rw [← HG.out, e1]; rfl)
      clear h1
      go_wp2_with fail
      go_meet
      case rel => exact ⟨rfl, by rw [HGT.out]⟩
    · have e1 : decide (zk < 0) = false := decide_eq_false h1
      obtain ⟨g2, hg2⟩ : ∃ g2, decide (1 < zk) = g2 := ⟨_, rfl⟩
      have HGT : Hid (g = g2) := Lib.hid (by rw [← HG.out, e1, hg2]; rfl)
      clear h1
      go_wp2_with fail
      go_meet
      case rel => exact ⟨rfl, by rw [HGT.out]⟩
  case rest =>
    obtain ⟨rfl, rfl⟩ := hcut
    go_wp2_with fail
    go_loopg [10, 11] N (fun mm o x wr => ∃ i : Nat, mm + i = N ∧ o = .bool (oddN zs i) ∧ x = .int .i64 (i : Int) ∧ ∃ q, wr = w1.drewN q)
    case atStart => exact ⟨0, by omega, rfl, rfl, 0, rfl⟩
    case round =>
      obtain ⟨i, hm, rfl, rfl, q, rfl⟩ := hrel
      have HM := Lib.hid hm
      clear hm
      by_cases hi : i < N
      · obtain ⟨z, hz⟩ : ∃ z, zs[i]? = some z := ⟨_, List.getElem?_eq_getElem (by rw [HN.out]; exact hi)⟩
        have hzd : zs.getD i 0 = z := by rw [List.getD_eq_getElem?_getD, hz]; rfl
        have HCW := Lib.hid (HC.out.below HS1.out.bel)
        obtain ⟨b7, o7, rfl, hb7, k7⟩ := HCW.out.at_ (zV_at hz)
        obtain ⟨o, ho⟩ : ∃ o, oddN zs i = o := ⟨_, rfl⟩
        have HNX : Hid (oddN zs (i + 1) = ((o || outV z) || (zs.take i).any (fun x => z == x))) := Lib.hid (by
          show ((oddN zs i || outV (zs.getD i 0)) || (zs.take i).any (fun x => zs.getD i 0 == x)) = _
          rw [hzd, ho])
        have b0 : (0 : Int) ≤ (i : Int) := by omega
        have b1 : (i : Int) < (N : Int) := by omega
        rw [ho]
        clear hzd ho hz
        go_upto_region 9 with (fail)
        go_cut [10] (fun x wc => w1.drewN q = wc ∧ x = .bool (o || outV z))
        case first =>
          cases o with
          | true =>
            go_wp2_with fail
            go_meet
            case rel => exact ⟨rfl, rfl⟩
          | false =>
            by_cases h1 : z < 0
            · have e1 : decide (z < 0) = true := decide_eq_true h1
              have HGT : Hid (outV z = true) := Lib.hid (by unfold outV; rw [e1]; rfl)
              clear h1
              go_wp2_with fail
              go_meet
              case rel => exact ⟨rfl, by rw [HGT.out]; rfl⟩
            · have e1 : decide (z < 0) = false := decide_eq_false h1
              obtain ⟨g2, hg2⟩ : ∃ g2, decide (3 < z) = g2 := ⟨_, rfl⟩
              have HGT : Hid (outV z = g2) := Lib.hid (by unfold outV; rw [e1, hg2]; rfl)
              clear h1
              go_wp2_with fail
              go_meet
              case rel => exact ⟨rfl, by rw [HGT.out]; rfl⟩
        case rest =>
          obtain ⟨rfl, rfl⟩ := hcut
          obtain ⟨o2, ho2⟩ : ∃ o2, (o || outV z) = o2 := ⟨_, rfl⟩
          rw [ho2] at HNX ⊢
          clear ho2
          go_wp2_with fail
          go_loopg [10, 12] i (fun mm o x wr => ∃ j : Nat, mm + j = i ∧ o = .bool (o2 || (zs.take j).any (fun x => z == x)) ∧ x = .int .i64 (j : Int) ∧ ∃ q, wr = w1.drewN q)
          case atStart => exact ⟨0, by omega, by simp, rfl, q, rfl⟩
          case round =>
            obtain ⟨j, hm2, rfl, rfl, q2, rfl⟩ := hrel
            have HM2 := Lib.hid hm2
            clear hm2
            by_cases hj : j < i
            · obtain ⟨y, hy⟩ : ∃ y, zs[j]? = some y := ⟨_, List.getElem?_eq_getElem (by rw [HN.out]; omega)⟩
              obtain ⟨b8, o8, hae, hb8, k8⟩ := HCW.out.at_ (zV_at hy)
              injection hae with hae
              injection hae with he1 he2
              subst he1 he2
              obtain ⟨o3, ho3⟩ : ∃ o3, (o2 || (zs.take j).any (fun x => z == x)) = o3 := ⟨_, rfl⟩
              have HNY : Hid ((o2 || (zs.take (j + 1)).any (fun x => z == x)) = (o3 || (z == y))) := Lib.hid (by
                rw [List.take_add_one, hy, List.any_append, ← Bool.or_assoc, ho3]; simp)
              have b2 : (0 : Int) ≤ (j : Int) := by omega
              have b3 : (j : Int) < (N : Int) := by omega
              have b4 : (j : Int) < (i : Int) := by omega
              rw [ho3]
              clear ho3 hy
              cases o3 with
              | true =>
                go_upto_region 13 with (fail)
                go_quiet (fail)
                go_wp2_with fail
                go_roundg (i - (j + 1))
                case measure => have := HM2.out; omega
                case rel => exact ⟨j + 1, by have := HM2.out; omega, by rw [HNY.out]; rfl, by go_num, _, rfl⟩
              | false =>
                obtain ⟨t, ht⟩ : ∃ t, (z == y) = t := ⟨_, rfl⟩
                rw [ht] at HNY
                go_upto_region 13 with (fail)
                go_quiet (fail)
                go_wp2_with fail
                go_roundg (i - (j + 1))
                case measure => have := HM2.out; omega
                case rel => exact ⟨j + 1, by have := HM2.out; omega, by rw [HNY.out]; rfl, by go_num, _, rfl⟩
            · have hje : j = i := by have := HM2.out; omega
              subst hje
              rw [← HNX.out]
              go_wp2_with fail
              go_roundg (N - (j + 1))
              case measure => have := HM.out; omega
              case rel => exact ⟨j + 1, by have := HM.out; omega, rfl, by go_num, _, rfl⟩
      · have hie : i = N := by have := HM.out; omega
        subst hie
        have HOD : Hid (oddN zs zs.length = oddN zs i) := Lib.hid (by rw [HN.out])
        obtain ⟨ov, hov⟩ : ∃ ov, oddN zs i = ov := ⟨_, rfl⟩
        rw [hov] at HOD ⊢
        obtain ⟨es, hes⟩ : ∃ es, withE (newS 4 1000) zk zs = es := ⟨_, rfl⟩
        obtain ⟨fs, hfs⟩ : ∃ fs, askE (newS 4 1000) zk = fs := ⟨_, rfl⟩
        obtain ⟨gs, hgs⟩ : ∃ gs, cubE (newS 4 1000) zk zm = gs := ⟨_, rfl⟩
        have HES := Lib.hid hes; have HFS := Lib.hid hfs; have HGS := Lib.hid hgs
        obtain ⟨W1, hW1⟩ : ∃ W1, W1 = w1.drewN q := ⟨_, rfl⟩
        have HT1 : Hid (CSt w W1 p (newS 4 1000)) := Lib.hid (by rw [hW1]; exact HS1.out.below (bdN' _ _))
        have HCS := Lib.hid (sat_err HT1.out.sto zk a zs c (by rw [HN.out]; omega) (HC.out.below HT1.out.bel) HWF.out)
        rw [HN.out, hes] at HCS
        rw [← hW1]
        clear hov hes hfs hgs hW1
        go_wp2_with fail
        refine HCS.out.mono ?_
        rintro e W2 ⟨hb2, n2, rfl⟩
        have HT2 := Lib.hid (HT1.out.below hb2)
        have HCA := Lib.hid (asks_err HT2.out.sto zk)
        rw [HFS.out] at HCA
        clear hb2
        go_wp2_with fail
        refine HCA.out.mono ?_
        rintro e W3 ⟨hb3, v3, rfl⟩
        have HT3 := Lib.hid (HT2.out.below hb3)
        have HCC := Lib.hid (cubes_err HT3.out.sto (by decide) zk zm)
        rw [HGS.out] at HCC
        clear hb3
        go_wp2_with fail
        refine HCC.out.mono ?_
        rintro e W4 ⟨hb4, v4, rfl⟩
        have HT4 := Lib.hid (HT3.out.below hb4)
        clear hb4 HCC HCA HCS
        go_upto_region 17 with (fail)
        go_cut [140] (fun x wc => W4 = wc ∧ x = .bool false)
        case first =>
          have f1 : (es == 1) = ov := by
            rw [← HES.out]
            cases hov : ov with
            | true => rw [hov] at HOD; rw [err_odd HOD.out]; rfl
            | false =>
              rw [hov] at HOD
              cases hg : g with
              | true => rw [hg] at HG; rw [err_gone HOD.out HG.out]; rfl
              | false => rw [hg] at HG; rw [err_fine HOD.out HG.out]; rfl
          have f3 : ov = false → (es == 3) = g := fun hov => by
            rw [← HES.out]
            rw [hov] at HOD
            cases hg : g with
            | true => rw [hg] at HG; rw [err_gone HOD.out HG.out]; rfl
            | false => rw [hg] at HG; rw [err_fine HOD.out HG.out]; rfl
          have f4 : (fs == 3) = g := by
            rw [← HFS.out]
            unfold askE
            rw [isK_low, HG.out]
            cases g <;> rfl
          have e1 : decide (zm < 0) = true := decide_eq_true HM0.out
          have f5 : (gs == 1) = true := by rw [← HGS.out, cubE_bad (.inl HM0.out)]; rfl
          cases ov with
          | true =>
            clear f3
            go_wp2_with fail
            go_meet
            case rel => exact ⟨rfl, rfl⟩
          | false =>
            have f3 := f3 rfl
            go_wp2_with fail
            go_meet
            case rel => exact ⟨rfl, rfl⟩
        case rest =>
          obtain ⟨rfl, rfl⟩ := hcut
          go_wp2_with fail
          go_loopg [20] 2 (fun m u wr => ∃ i : Nat, m + i = 2 ∧ u = .int .i64 (i : Int) ∧ NB6 w W4.heap.size wr)
          case atStart =>
            refine ⟨0, rfl, rfl, ?_, ?_, ?_⟩
            · exact (HT4.out.bel.alloc HT4.out.bel.size _).alloc (by have := HT4.out.bel.size; simp; omega) _
            · have := Blk.new_ (W4.alloc (.cells #[.int .i64 0, .int .i64 0, .slice none 0 0, .slice none 0 0, .pointer none, .int .i64 0, .int .i64 0, .int .i64 0] 88)) 22 #[.pointer none, .pointer (some ⟨W4.heap.size, 0, none⟩)]
              simpa using this
            · exact (Blk.new_ W4 88 #[.int .i64 0, .int .i64 0, .slice none 0 0, .slice none 0 0, .pointer none, .int .i64 0, .int .i64 0, .int .i64 0]).alloc_ _
          case round =>
            obtain ⟨j, hm, rfl, hnb⟩ := hrel
            have HMJ := Lib.hid hm; have HNB := Lib.hid hnb
            clear hm hnb
            obtain ⟨V1, hren⟩ : ∃ x, x = wr := ⟨_, rfl⟩
            subst hren
            by_cases hj : j < 2
            · obtain ⟨oa, hoa, hca⟩ := HNB.out.at_ hj
              have hbl := HNB.out.blk.lt
              have HO := Lib.hid hoa
              clear hoa
              go_wp2_with fail
              refine (no_asks V1 oa HO.out zk).mono ?_
              rintro e V2 ⟨rfl, hb2⟩
              have hca2 : V2.cell? ⟨W4.heap.size + 1, j, none⟩ = some (.pointer oa) := (hb2.cell (p := ⟨W4.heap.size + 1, j, none⟩) hbl).trans hca
              have HN2 := Lib.hid (HNB.out.below hb2); have HO2 := Lib.hid (HO.out.below hb2)
              have hbl2 := HN2.out.blk.lt
              clear hb2 hca hbl
              go_wp2_with fail
              refine (no_sat V2 oa HO2.out zk a i c).mono ?_
              rintro e V3 ⟨rfl, hb3⟩
              have hca3 : V3.cell? ⟨W4.heap.size + 1, j, none⟩ = some (.pointer oa) := (hb3.cell (p := ⟨W4.heap.size + 1, j, none⟩) hbl2).trans hca2
              have HN3 := Lib.hid (HN2.out.below hb3); have HO3 := Lib.hid (HO2.out.below hb3)
              have hbl3 := HN3.out.blk.lt
              clear hb3 hca2 hbl2
              go_wp2_with fail
              refine (no_cubes V3 oa HO3.out zk zm).mono ?_
              rintro e V4 ⟨rfl, hb4⟩
              have hca4 : V4.cell? ⟨W4.heap.size + 1, j, none⟩ = some (.pointer oa) := (hb4.cell (p := ⟨W4.heap.size + 1, j, none⟩) hbl3).trans hca3
              have HN4 := Lib.hid (HN3.out.below hb4); have HO4 := Lib.hid (HO3.out.below hb4)
              have hbl4 := HN4.out.blk.lt
              clear hb4 hca3 hbl3
              go_wp2_with fail
              refine (no_each V4 oa HO4.out zk a i c zm).mono ?_
              rintro e V5 ⟨rfl, hb5⟩
              have hca5 : V5.cell? ⟨W4.heap.size + 1, j, none⟩ = some (.pointer oa) := (hb5.cell (p := ⟨W4.heap.size + 1, j, none⟩) hbl4).trans hca4
              have HN5 := Lib.hid (HN4.out.below hb5); have HO5 := Lib.hid (HO4.out.below hb5)
              have hbl5 := HN5.out.blk.lt
              clear hb5 hca4 hbl4
              go_wp2_with fail
              refine (no_first V5 oa HO5.out zk).mono ?_
              rintro e V6 ⟨rfl, hb6⟩
              have HN6 := Lib.hid (HN5.out.below hb6)
              clear hb6 hca5 hbl5
              go_wp2_with fail
              go_roundg (2 - (j + 1))
              case measure => have := HMJ.out; omega
              case rel => exact ⟨j + 1, by have := HMJ.out; omega, by go_num, HN6.out⟩
            · have hj2 : j = 2 := by have := HMJ.out; omega
              subst hj2
              go_wp2_with fail
              refine (awake6 V1).mono ?_
              rintro e V2 ⟨rfl, hb2⟩
              have HN2 := Lib.hid (HNB.out.below hb2)
              clear hb2
              go_wp2_with fail
              go_ret
              exact ⟨rfl, HN2.out.bel⟩
set_option maxRecDepth 100000 in
set_option maxHeartbeats 6400000 in
theorem nobody_few2 (w : World) (zk zm : Int) (a : Option Addr) (c : Nat) (zs : List Int) (hc : Cells w a (zV zs)) (hwf : ∀ z ∈ zs, (Lit.int .i64 z).wf = true) (h : ¬ 100 < zs.length) (m0 : ¬ zm < 0) (m1 : 16384 < zm) : Calls Try.prog 11 #[.int .i64 zk, .int .i64 zm, .slice a zs.length c] w (Fine6 w) := by
  have HM0 := Lib.hid m0; have HM1 := Lib.hid m1
  clear m0 m1
  obtain ⟨g, hg⟩ : ∃ g, (decide (zk < 0) || decide (1 < zk)) = g := ⟨_, rfl⟩
  have HG := Lib.hid hg
  obtain ⟨N, hN⟩ : ∃ N, zs.length = N := ⟨_, rfl⟩
  rw [hN] at h ⊢
  have d1 : decide ((100 : Int) < (N : Int)) = false := decide_eq_false (by omega)
  have d2 : decide (100 < N) = false := decide_eq_false h
  have HN := Lib.hid hN; have HC := Lib.hid hc; have HWF := Lib.hid hwf
  clear hN hc hwf hg
  go_enter Try.func11, Try.ntmps11
  go_wp2_with fail
  refine (begun6 w).mono ?_
  rintro e w1 ⟨p, rfl, hs1⟩
  have HS1 := Lib.hid hs1
  clear hs1
  go_upto_region 4 with (fail)
  go_cut [9] (fun x wc => w1 = wc ∧ x = .bool g)
  case first =>
    by_cases h1 : zk < 0
    · have e1 : decide (zk < 0) = true := decide_eq_true h1
      have HGT : Hid (g = true) := Lib.hid (by rw [← HG.out, e1]; rfl)
      clear h1
      go_wp2_with fail
      go_meet
      case rel => exact ⟨rfl, by rw [HGT.out]⟩
    · have e1 : decide (zk < 0) = false := decide_eq_false h1
      obtain ⟨g2, hg2⟩ : ∃ g2, decide (1 < zk) = g2 := ⟨_, rfl⟩
      have HGT : Hid (g = g2) := Lib.hid (by rw [← HG.out, e1, hg2]; rfl)
      clear h1
      go_wp2_with fail
      go_meet
      case rel => exact ⟨rfl, by rw [HGT.out]⟩
  case rest =>
    obtain ⟨rfl, rfl⟩ := hcut
    go_wp2_with fail
    go_loopg [10, 11] N (fun mm o x wr => ∃ i : Nat, mm + i = N ∧ o = .bool (oddN zs i) ∧ x = .int .i64 (i : Int) ∧ ∃ q, wr = w1.drewN q)
    case atStart => exact ⟨0, by omega, rfl, rfl, 0, rfl⟩
    case round =>
      obtain ⟨i, hm, rfl, rfl, q, rfl⟩ := hrel
      have HM := Lib.hid hm
      clear hm
      by_cases hi : i < N
      · obtain ⟨z, hz⟩ : ∃ z, zs[i]? = some z := ⟨_, List.getElem?_eq_getElem (by rw [HN.out]; exact hi)⟩
        have hzd : zs.getD i 0 = z := by rw [List.getD_eq_getElem?_getD, hz]; rfl
        have HCW := Lib.hid (HC.out.below HS1.out.bel)
        obtain ⟨b7, o7, rfl, hb7, k7⟩ := HCW.out.at_ (zV_at hz)
        obtain ⟨o, ho⟩ : ∃ o, oddN zs i = o := ⟨_, rfl⟩
        have HNX : Hid (oddN zs (i + 1) = ((o || outV z) || (zs.take i).any (fun x => z == x))) := Lib.hid (by
          show ((oddN zs i || outV (zs.getD i 0)) || (zs.take i).any (fun x => zs.getD i 0 == x)) = _
          rw [hzd, ho])
        have b0 : (0 : Int) ≤ (i : Int) := by omega
        have b1 : (i : Int) < (N : Int) := by omega
        rw [ho]
        clear hzd ho hz
        go_upto_region 9 with (fail)
        go_cut [10] (fun x wc => w1.drewN q = wc ∧ x = .bool (o || outV z))
        case first =>
          cases o with
          | true =>
            go_wp2_with fail
            go_meet
            case rel => exact ⟨rfl, rfl⟩
          | false =>
            by_cases h1 : z < 0
            · have e1 : decide (z < 0) = true := decide_eq_true h1
              have HGT : Hid (outV z = true) := Lib.hid (by unfold outV; rw [e1]; rfl)
              clear h1
              go_wp2_with fail
              go_meet
              case rel => exact ⟨rfl, by rw [HGT.out]; rfl⟩
            · have e1 : decide (z < 0) = false := decide_eq_false h1
              obtain ⟨g2, hg2⟩ : ∃ g2, decide (3 < z) = g2 := ⟨_, rfl⟩
              have HGT : Hid (outV z = g2) := Lib.hid (by unfold outV; rw [e1, hg2]; rfl)
              clear h1
              go_wp2_with fail
              go_meet
              case rel => exact ⟨rfl, by rw [HGT.out]; rfl⟩
        case rest =>
          obtain ⟨rfl, rfl⟩ := hcut
          obtain ⟨o2, ho2⟩ : ∃ o2, (o || outV z) = o2 := ⟨_, rfl⟩
          rw [ho2] at HNX ⊢
          clear ho2
          go_wp2_with fail
          go_loopg [10, 12] i (fun mm o x wr => ∃ j : Nat, mm + j = i ∧ o = .bool (o2 || (zs.take j).any (fun x => z == x)) ∧ x = .int .i64 (j : Int) ∧ ∃ q, wr = w1.drewN q)
          case atStart => exact ⟨0, by omega, by simp, rfl, q, rfl⟩
          case round =>
            obtain ⟨j, hm2, rfl, rfl, q2, rfl⟩ := hrel
            have HM2 := Lib.hid hm2
            clear hm2
            by_cases hj : j < i
            · obtain ⟨y, hy⟩ : ∃ y, zs[j]? = some y := ⟨_, List.getElem?_eq_getElem (by rw [HN.out]; omega)⟩
              obtain ⟨b8, o8, hae, hb8, k8⟩ := HCW.out.at_ (zV_at hy)
              injection hae with hae
              injection hae with he1 he2
              subst he1 he2
              obtain ⟨o3, ho3⟩ : ∃ o3, (o2 || (zs.take j).any (fun x => z == x)) = o3 := ⟨_, rfl⟩
              have HNY : Hid ((o2 || (zs.take (j + 1)).any (fun x => z == x)) = (o3 || (z == y))) := Lib.hid (by
                rw [List.take_add_one, hy, List.any_append, ← Bool.or_assoc, ho3]; simp)
              have b2 : (0 : Int) ≤ (j : Int) := by omega
              have b3 : (j : Int) < (N : Int) := by omega
              have b4 : (j : Int) < (i : Int) := by omega
              rw [ho3]
              clear ho3 hy
              cases o3 with
              | true =>
                go_upto_region 13 with (fail)
                go_quiet (fail)
                go_wp2_with fail
                go_roundg (i - (j + 1))
                case measure => have := HM2.out; omega
                case rel => exact ⟨j + 1, by have := HM2.out; omega, by rw [HNY.out]; rfl, by go_num, _, rfl⟩
              | false =>
                obtain ⟨t, ht⟩ : ∃ t, (z == y) = t := ⟨_, rfl⟩
                rw [ht] at HNY
                go_upto_region 13 with (fail)
                go_quiet (fail)
                go_wp2_with fail
                go_roundg (i - (j + 1))
                case measure => have := HM2.out; omega
                case rel => exact ⟨j + 1, by have := HM2.out; omega, by rw [HNY.out]; rfl, by go_num, _, rfl⟩
            · have hje : j = i := by have := HM2.out; omega
              subst hje
              rw [← HNX.out]
              go_wp2_with fail
              go_roundg (N - (j + 1))
              case measure => have := HM.out; omega
              case rel => exact ⟨j + 1, by have := HM.out; omega, rfl, by go_num, _, rfl⟩
      · have hie : i = N := by have := HM.out; omega
        subst hie
        have HOD : Hid (oddN zs zs.length = oddN zs i) := Lib.hid (by rw [HN.out])
        obtain ⟨ov, hov⟩ : ∃ ov, oddN zs i = ov := ⟨_, rfl⟩
        rw [hov] at HOD ⊢
        obtain ⟨es, hes⟩ : ∃ es, withE (newS 4 1000) zk zs = es := ⟨_, rfl⟩
        obtain ⟨fs, hfs⟩ : ∃ fs, askE (newS 4 1000) zk = fs := ⟨_, rfl⟩
        obtain ⟨gs, hgs⟩ : ∃ gs, cubE (newS 4 1000) zk zm = gs := ⟨_, rfl⟩
        have HES := Lib.hid hes; have HFS := Lib.hid hfs; have HGS := Lib.hid hgs
        obtain ⟨W1, hW1⟩ : ∃ W1, W1 = w1.drewN q := ⟨_, rfl⟩
        have HT1 : Hid (CSt w W1 p (newS 4 1000)) := Lib.hid (by rw [hW1]; exact HS1.out.below (bdN' _ _))
        have HCS := Lib.hid (sat_err HT1.out.sto zk a zs c (by rw [HN.out]; omega) (HC.out.below HT1.out.bel) HWF.out)
        rw [HN.out, hes] at HCS
        rw [← hW1]
        clear hov hes hfs hgs hW1
        go_wp2_with fail
        refine HCS.out.mono ?_
        rintro e W2 ⟨hb2, n2, rfl⟩
        have HT2 := Lib.hid (HT1.out.below hb2)
        have HCA := Lib.hid (asks_err HT2.out.sto zk)
        rw [HFS.out] at HCA
        clear hb2
        go_wp2_with fail
        refine HCA.out.mono ?_
        rintro e W3 ⟨hb3, v3, rfl⟩
        have HT3 := Lib.hid (HT2.out.below hb3)
        have HCC := Lib.hid (cubes_err HT3.out.sto (by decide) zk zm)
        rw [HGS.out] at HCC
        clear hb3
        go_wp2_with fail
        refine HCC.out.mono ?_
        rintro e W4 ⟨hb4, v4, rfl⟩
        have HT4 := Lib.hid (HT3.out.below hb4)
        clear hb4 HCC HCA HCS
        go_upto_region 17 with (fail)
        go_cut [140] (fun x wc => W4 = wc ∧ x = .bool false)
        case first =>
          have f1 : (es == 1) = ov := by
            rw [← HES.out]
            cases hov : ov with
            | true => rw [hov] at HOD; rw [err_odd HOD.out]; rfl
            | false =>
              rw [hov] at HOD
              cases hg : g with
              | true => rw [hg] at HG; rw [err_gone HOD.out HG.out]; rfl
              | false => rw [hg] at HG; rw [err_fine HOD.out HG.out]; rfl
          have f3 : ov = false → (es == 3) = g := fun hov => by
            rw [← HES.out]
            rw [hov] at HOD
            cases hg : g with
            | true => rw [hg] at HG; rw [err_gone HOD.out HG.out]; rfl
            | false => rw [hg] at HG; rw [err_fine HOD.out HG.out]; rfl
          have f4 : (fs == 3) = g := by
            rw [← HFS.out]
            unfold askE
            rw [isK_low, HG.out]
            cases g <;> rfl
          have e1 : decide (zm < 0) = false := decide_eq_false (by have := HM0.out; omega)
          have e2 : decide (16384 < zm) = true := decide_eq_true HM1.out
          have f5 : (gs == 1) = true := by rw [← HGS.out, cubE_bad (.inr HM1.out)]; rfl
          cases ov with
          | true =>
            clear f3
            go_wp2_with fail
            go_meet
            case rel => exact ⟨rfl, rfl⟩
          | false =>
            have f3 := f3 rfl
            go_wp2_with fail
            go_meet
            case rel => exact ⟨rfl, rfl⟩
        case rest =>
          obtain ⟨rfl, rfl⟩ := hcut
          go_wp2_with fail
          go_loopg [20] 2 (fun m u wr => ∃ i : Nat, m + i = 2 ∧ u = .int .i64 (i : Int) ∧ NB6 w W4.heap.size wr)
          case atStart =>
            refine ⟨0, rfl, rfl, ?_, ?_, ?_⟩
            · exact (HT4.out.bel.alloc HT4.out.bel.size _).alloc (by have := HT4.out.bel.size; simp; omega) _
            · have := Blk.new_ (W4.alloc (.cells #[.int .i64 0, .int .i64 0, .slice none 0 0, .slice none 0 0, .pointer none, .int .i64 0, .int .i64 0, .int .i64 0] 88)) 22 #[.pointer none, .pointer (some ⟨W4.heap.size, 0, none⟩)]
              simpa using this
            · exact (Blk.new_ W4 88 #[.int .i64 0, .int .i64 0, .slice none 0 0, .slice none 0 0, .pointer none, .int .i64 0, .int .i64 0, .int .i64 0]).alloc_ _
          case round =>
            obtain ⟨j, hm, rfl, hnb⟩ := hrel
            have HMJ := Lib.hid hm; have HNB := Lib.hid hnb
            clear hm hnb
            obtain ⟨V1, hren⟩ : ∃ x, x = wr := ⟨_, rfl⟩
            subst hren
            by_cases hj : j < 2
            · obtain ⟨oa, hoa, hca⟩ := HNB.out.at_ hj
              have hbl := HNB.out.blk.lt
              have HO := Lib.hid hoa
              clear hoa
              go_wp2_with fail
              refine (no_asks V1 oa HO.out zk).mono ?_
              rintro e V2 ⟨rfl, hb2⟩
              have hca2 : V2.cell? ⟨W4.heap.size + 1, j, none⟩ = some (.pointer oa) := (hb2.cell (p := ⟨W4.heap.size + 1, j, none⟩) hbl).trans hca
              have HN2 := Lib.hid (HNB.out.below hb2); have HO2 := Lib.hid (HO.out.below hb2)
              have hbl2 := HN2.out.blk.lt
              clear hb2 hca hbl
              go_wp2_with fail
              refine (no_sat V2 oa HO2.out zk a i c).mono ?_
              rintro e V3 ⟨rfl, hb3⟩
              have hca3 : V3.cell? ⟨W4.heap.size + 1, j, none⟩ = some (.pointer oa) := (hb3.cell (p := ⟨W4.heap.size + 1, j, none⟩) hbl2).trans hca2
              have HN3 := Lib.hid (HN2.out.below hb3); have HO3 := Lib.hid (HO2.out.below hb3)
              have hbl3 := HN3.out.blk.lt
              clear hb3 hca2 hbl2
              go_wp2_with fail
              refine (no_cubes V3 oa HO3.out zk zm).mono ?_
              rintro e V4 ⟨rfl, hb4⟩
              have hca4 : V4.cell? ⟨W4.heap.size + 1, j, none⟩ = some (.pointer oa) := (hb4.cell (p := ⟨W4.heap.size + 1, j, none⟩) hbl3).trans hca3
              have HN4 := Lib.hid (HN3.out.below hb4); have HO4 := Lib.hid (HO3.out.below hb4)
              have hbl4 := HN4.out.blk.lt
              clear hb4 hca3 hbl3
              go_wp2_with fail
              refine (no_each V4 oa HO4.out zk a i c zm).mono ?_
              rintro e V5 ⟨rfl, hb5⟩
              have hca5 : V5.cell? ⟨W4.heap.size + 1, j, none⟩ = some (.pointer oa) := (hb5.cell (p := ⟨W4.heap.size + 1, j, none⟩) hbl4).trans hca4
              have HN5 := Lib.hid (HN4.out.below hb5); have HO5 := Lib.hid (HO4.out.below hb5)
              have hbl5 := HN5.out.blk.lt
              clear hb5 hca4 hbl4
              go_wp2_with fail
              refine (no_first V5 oa HO5.out zk).mono ?_
              rintro e V6 ⟨rfl, hb6⟩
              have HN6 := Lib.hid (HN5.out.below hb6)
              clear hb6 hca5 hbl5
              go_wp2_with fail
              go_roundg (2 - (j + 1))
              case measure => have := HMJ.out; omega
              case rel => exact ⟨j + 1, by have := HMJ.out; omega, by go_num, HN6.out⟩
            · have hj2 : j = 2 := by have := HMJ.out; omega
              subst hj2
              go_wp2_with fail
              refine (awake6 V1).mono ?_
              rintro e V2 ⟨rfl, hb2⟩
              have HN2 := Lib.hid (HNB.out.below hb2)
              clear hb2
              go_wp2_with fail
              go_ret
              exact ⟨rfl, HN2.out.bel⟩
set_option maxRecDepth 100000 in
set_option maxHeartbeats 6400000 in
theorem nobody_few3 (w : World) (zk zm : Int) (a : Option Addr) (c : Nat) (zs : List Int) (hc : Cells w a (zV zs)) (hwf : ∀ z ∈ zs, (Lit.int .i64 z).wf = true) (h : ¬ 100 < zs.length) (m0 : ¬ zm < 0) (m1 : ¬ 16384 < zm) : Calls Try.prog 11 #[.int .i64 zk, .int .i64 zm, .slice a zs.length c] w (Fine6 w) := by
  have HM0 := Lib.hid m0; have HM1 := Lib.hid m1
  clear m0 m1
  obtain ⟨g, hg⟩ : ∃ g, (decide (zk < 0) || decide (1 < zk)) = g := ⟨_, rfl⟩
  have HG := Lib.hid hg
  obtain ⟨N, hN⟩ : ∃ N, zs.length = N := ⟨_, rfl⟩
  rw [hN] at h ⊢
  have d1 : decide ((100 : Int) < (N : Int)) = false := decide_eq_false (by omega)
  have d2 : decide (100 < N) = false := decide_eq_false h
  have HN := Lib.hid hN; have HC := Lib.hid hc; have HWF := Lib.hid hwf
  clear hN hc hwf hg
  go_enter Try.func11, Try.ntmps11
  go_wp2_with fail
  refine (begun6 w).mono ?_
  rintro e w1 ⟨p, rfl, hs1⟩
  have HS1 := Lib.hid hs1
  clear hs1
  go_upto_region 4 with (fail)
  go_cut [9] (fun x wc => w1 = wc ∧ x = .bool g)
  case first =>
    by_cases h1 : zk < 0
    · have e1 : decide (zk < 0) = true := decide_eq_true h1
      have HGT : Hid (g = true) := Lib.hid (by rw [← HG.out, e1]; rfl)
      clear h1
      go_wp2_with fail
      go_meet
      case rel => exact ⟨rfl, by rw [HGT.out]⟩
    · have e1 : decide (zk < 0) = false := decide_eq_false h1
      obtain ⟨g2, hg2⟩ : ∃ g2, decide (1 < zk) = g2 := ⟨_, rfl⟩
      have HGT : Hid (g = g2) := Lib.hid (by rw [← HG.out, e1, hg2]; rfl)
      clear h1
      go_wp2_with fail
      go_meet
      case rel => exact ⟨rfl, by rw [HGT.out]⟩
  case rest =>
    obtain ⟨rfl, rfl⟩ := hcut
    go_wp2_with fail
    go_loopg [10, 11] N (fun mm o x wr => ∃ i : Nat, mm + i = N ∧ o = .bool (oddN zs i) ∧ x = .int .i64 (i : Int) ∧ ∃ q, wr = w1.drewN q)
    case atStart => exact ⟨0, by omega, rfl, rfl, 0, rfl⟩
    case round =>
      obtain ⟨i, hm, rfl, rfl, q, rfl⟩ := hrel
      have HM := Lib.hid hm
      clear hm
      by_cases hi : i < N
      · obtain ⟨z, hz⟩ : ∃ z, zs[i]? = some z := ⟨_, List.getElem?_eq_getElem (by rw [HN.out]; exact hi)⟩
        have hzd : zs.getD i 0 = z := by rw [List.getD_eq_getElem?_getD, hz]; rfl
        have HCW := Lib.hid (HC.out.below HS1.out.bel)
        obtain ⟨b7, o7, rfl, hb7, k7⟩ := HCW.out.at_ (zV_at hz)
        obtain ⟨o, ho⟩ : ∃ o, oddN zs i = o := ⟨_, rfl⟩
        have HNX : Hid (oddN zs (i + 1) = ((o || outV z) || (zs.take i).any (fun x => z == x))) := Lib.hid (by
          show ((oddN zs i || outV (zs.getD i 0)) || (zs.take i).any (fun x => zs.getD i 0 == x)) = _
          rw [hzd, ho])
        have b0 : (0 : Int) ≤ (i : Int) := by omega
        have b1 : (i : Int) < (N : Int) := by omega
        rw [ho]
        clear hzd ho hz
        go_upto_region 9 with (fail)
        go_cut [10] (fun x wc => w1.drewN q = wc ∧ x = .bool (o || outV z))
        case first =>
          cases o with
          | true =>
            go_wp2_with fail
            go_meet
            case rel => exact ⟨rfl, rfl⟩
          | false =>
            by_cases h1 : z < 0
            · have e1 : decide (z < 0) = true := decide_eq_true h1
              have HGT : Hid (outV z = true) := Lib.hid (by unfold outV; rw [e1]; rfl)
              clear h1
              go_wp2_with fail
              go_meet
              case rel => exact ⟨rfl, by rw [HGT.out]; rfl⟩
            · have e1 : decide (z < 0) = false := decide_eq_false h1
              obtain ⟨g2, hg2⟩ : ∃ g2, decide (3 < z) = g2 := ⟨_, rfl⟩
              have HGT : Hid (outV z = g2) := Lib.hid (by unfold outV; rw [e1, hg2]; rfl)
              clear h1
              go_wp2_with fail
              go_meet
              case rel => exact ⟨rfl, by rw [HGT.out]; rfl⟩
        case rest =>
          obtain ⟨rfl, rfl⟩ := hcut
          obtain ⟨o2, ho2⟩ : ∃ o2, (o || outV z) = o2 := ⟨_, rfl⟩
          rw [ho2] at HNX ⊢
          clear ho2
          go_wp2_with fail
          go_loopg [10, 12] i (fun mm o x wr => ∃ j : Nat, mm + j = i ∧ o = .bool (o2 || (zs.take j).any (fun x => z == x)) ∧ x = .int .i64 (j : Int) ∧ ∃ q, wr = w1.drewN q)
          case atStart => exact ⟨0, by omega, by simp, rfl, q, rfl⟩
          case round =>
            obtain ⟨j, hm2, rfl, rfl, q2, rfl⟩ := hrel
            have HM2 := Lib.hid hm2
            clear hm2
            by_cases hj : j < i
            · obtain ⟨y, hy⟩ : ∃ y, zs[j]? = some y := ⟨_, List.getElem?_eq_getElem (by rw [HN.out]; omega)⟩
              obtain ⟨b8, o8, hae, hb8, k8⟩ := HCW.out.at_ (zV_at hy)
              injection hae with hae
              injection hae with he1 he2
              subst he1 he2
              obtain ⟨o3, ho3⟩ : ∃ o3, (o2 || (zs.take j).any (fun x => z == x)) = o3 := ⟨_, rfl⟩
              have HNY : Hid ((o2 || (zs.take (j + 1)).any (fun x => z == x)) = (o3 || (z == y))) := Lib.hid (by
                rw [List.take_add_one, hy, List.any_append, ← Bool.or_assoc, ho3]; simp)
              have b2 : (0 : Int) ≤ (j : Int) := by omega
              have b3 : (j : Int) < (N : Int) := by omega
              have b4 : (j : Int) < (i : Int) := by omega
              rw [ho3]
              clear ho3 hy
              cases o3 with
              | true =>
                go_upto_region 13 with (fail)
                go_quiet (fail)
                go_wp2_with fail
                go_roundg (i - (j + 1))
                case measure => have := HM2.out; omega
                case rel => exact ⟨j + 1, by have := HM2.out; omega, by rw [HNY.out]; rfl, by go_num, _, rfl⟩
              | false =>
                obtain ⟨t, ht⟩ : ∃ t, (z == y) = t := ⟨_, rfl⟩
                rw [ht] at HNY
                go_upto_region 13 with (fail)
                go_quiet (fail)
                go_wp2_with fail
                go_roundg (i - (j + 1))
                case measure => have := HM2.out; omega
                case rel => exact ⟨j + 1, by have := HM2.out; omega, by rw [HNY.out]; rfl, by go_num, _, rfl⟩
            · have hje : j = i := by have := HM2.out; omega
              subst hje
              rw [← HNX.out]
              go_wp2_with fail
              go_roundg (N - (j + 1))
              case measure => have := HM.out; omega
              case rel => exact ⟨j + 1, by have := HM.out; omega, rfl, by go_num, _, rfl⟩
      · have hie : i = N := by have := HM.out; omega
        subst hie
        have HOD : Hid (oddN zs zs.length = oddN zs i) := Lib.hid (by rw [HN.out])
        obtain ⟨ov, hov⟩ : ∃ ov, oddN zs i = ov := ⟨_, rfl⟩
        rw [hov] at HOD ⊢
        obtain ⟨es, hes⟩ : ∃ es, withE (newS 4 1000) zk zs = es := ⟨_, rfl⟩
        obtain ⟨fs, hfs⟩ : ∃ fs, askE (newS 4 1000) zk = fs := ⟨_, rfl⟩
        obtain ⟨gs, hgs⟩ : ∃ gs, cubE (newS 4 1000) zk zm = gs := ⟨_, rfl⟩
        have HES := Lib.hid hes; have HFS := Lib.hid hfs; have HGS := Lib.hid hgs
        obtain ⟨W1, hW1⟩ : ∃ W1, W1 = w1.drewN q := ⟨_, rfl⟩
        have HT1 : Hid (CSt w W1 p (newS 4 1000)) := Lib.hid (by rw [hW1]; exact HS1.out.below (bdN' _ _))
        have HCS := Lib.hid (sat_err HT1.out.sto zk a zs c (by rw [HN.out]; omega) (HC.out.below HT1.out.bel) HWF.out)
        rw [HN.out, hes] at HCS
        rw [← hW1]
        clear hov hes hfs hgs hW1
        go_wp2_with fail
        refine HCS.out.mono ?_
        rintro e W2 ⟨hb2, n2, rfl⟩
        have HT2 := Lib.hid (HT1.out.below hb2)
        have HCA := Lib.hid (asks_err HT2.out.sto zk)
        rw [HFS.out] at HCA
        clear hb2
        go_wp2_with fail
        refine HCA.out.mono ?_
        rintro e W3 ⟨hb3, v3, rfl⟩
        have HT3 := Lib.hid (HT2.out.below hb3)
        have HCC := Lib.hid (cubes_err HT3.out.sto (by decide) zk zm)
        rw [HGS.out] at HCC
        clear hb3
        go_wp2_with fail
        refine HCC.out.mono ?_
        rintro e W4 ⟨hb4, v4, rfl⟩
        have HT4 := Lib.hid (HT3.out.below hb4)
        clear hb4 HCC HCA HCS
        go_upto_region 17 with (fail)
        go_cut [140] (fun x wc => W4 = wc ∧ x = .bool false)
        case first =>
          have f1 : (es == 1) = ov := by
            rw [← HES.out]
            cases hov : ov with
            | true => rw [hov] at HOD; rw [err_odd HOD.out]; rfl
            | false =>
              rw [hov] at HOD
              cases hg : g with
              | true => rw [hg] at HG; rw [err_gone HOD.out HG.out]; rfl
              | false => rw [hg] at HG; rw [err_fine HOD.out HG.out]; rfl
          have f3 : ov = false → (es == 3) = g := fun hov => by
            rw [← HES.out]
            rw [hov] at HOD
            cases hg : g with
            | true => rw [hg] at HG; rw [err_gone HOD.out HG.out]; rfl
            | false => rw [hg] at HG; rw [err_fine HOD.out HG.out]; rfl
          have f4 : (fs == 3) = g := by
            rw [← HFS.out]
            unfold askE
            rw [isK_low, HG.out]
            cases g <;> rfl
          have e1 : decide (zm < 0) = false := decide_eq_false (by have := HM0.out; omega)
          have e2 : decide (16384 < zm) = false := decide_eq_false (by have := HM1.out; omega)
          have f5 : (gs == 1) = false := by rw [← HGS.out]; exact cubE_one (by have := HM0.out; omega) (by have := HM1.out; omega)
          cases ov with
          | true =>
            clear f3
            go_wp2_with fail
            go_meet
            case rel => exact ⟨rfl, rfl⟩
          | false =>
            have f3 := f3 rfl
            go_wp2_with fail
            go_meet
            case rel => exact ⟨rfl, rfl⟩
        case rest =>
          obtain ⟨rfl, rfl⟩ := hcut
          go_wp2_with fail
          go_loopg [20] 2 (fun m u wr => ∃ i : Nat, m + i = 2 ∧ u = .int .i64 (i : Int) ∧ NB6 w W4.heap.size wr)
          case atStart =>
            refine ⟨0, rfl, rfl, ?_, ?_, ?_⟩
            · exact (HT4.out.bel.alloc HT4.out.bel.size _).alloc (by have := HT4.out.bel.size; simp; omega) _
            · have := Blk.new_ (W4.alloc (.cells #[.int .i64 0, .int .i64 0, .slice none 0 0, .slice none 0 0, .pointer none, .int .i64 0, .int .i64 0, .int .i64 0] 88)) 22 #[.pointer none, .pointer (some ⟨W4.heap.size, 0, none⟩)]
              simpa using this
            · exact (Blk.new_ W4 88 #[.int .i64 0, .int .i64 0, .slice none 0 0, .slice none 0 0, .pointer none, .int .i64 0, .int .i64 0, .int .i64 0]).alloc_ _
          case round =>
            obtain ⟨j, hm, rfl, hnb⟩ := hrel
            have HMJ := Lib.hid hm; have HNB := Lib.hid hnb
            clear hm hnb
            obtain ⟨V1, hren⟩ : ∃ x, x = wr := ⟨_, rfl⟩
            subst hren
            by_cases hj : j < 2
            · obtain ⟨oa, hoa, hca⟩ := HNB.out.at_ hj
              have hbl := HNB.out.blk.lt
              have HO := Lib.hid hoa
              clear hoa
              go_wp2_with fail
              refine (no_asks V1 oa HO.out zk).mono ?_
              rintro e V2 ⟨rfl, hb2⟩
              have hca2 : V2.cell? ⟨W4.heap.size + 1, j, none⟩ = some (.pointer oa) := (hb2.cell (p := ⟨W4.heap.size + 1, j, none⟩) hbl).trans hca
              have HN2 := Lib.hid (HNB.out.below hb2); have HO2 := Lib.hid (HO.out.below hb2)
              have hbl2 := HN2.out.blk.lt
              clear hb2 hca hbl
              go_wp2_with fail
              refine (no_sat V2 oa HO2.out zk a i c).mono ?_
              rintro e V3 ⟨rfl, hb3⟩
              have hca3 : V3.cell? ⟨W4.heap.size + 1, j, none⟩ = some (.pointer oa) := (hb3.cell (p := ⟨W4.heap.size + 1, j, none⟩) hbl2).trans hca2
              have HN3 := Lib.hid (HN2.out.below hb3); have HO3 := Lib.hid (HO2.out.below hb3)
              have hbl3 := HN3.out.blk.lt
              clear hb3 hca2 hbl2
              go_wp2_with fail
              refine (no_cubes V3 oa HO3.out zk zm).mono ?_
              rintro e V4 ⟨rfl, hb4⟩
              have hca4 : V4.cell? ⟨W4.heap.size + 1, j, none⟩ = some (.pointer oa) := (hb4.cell (p := ⟨W4.heap.size + 1, j, none⟩) hbl3).trans hca3
              have HN4 := Lib.hid (HN3.out.below hb4); have HO4 := Lib.hid (HO3.out.below hb4)
              have hbl4 := HN4.out.blk.lt
              clear hb4 hca3 hbl3
              go_wp2_with fail
              refine (no_each V4 oa HO4.out zk a i c zm).mono ?_
              rintro e V5 ⟨rfl, hb5⟩
              have hca5 : V5.cell? ⟨W4.heap.size + 1, j, none⟩ = some (.pointer oa) := (hb5.cell (p := ⟨W4.heap.size + 1, j, none⟩) hbl4).trans hca4
              have HN5 := Lib.hid (HN4.out.below hb5); have HO5 := Lib.hid (HO4.out.below hb5)
              have hbl5 := HN5.out.blk.lt
              clear hb5 hca4 hbl4
              go_wp2_with fail
              refine (no_first V5 oa HO5.out zk).mono ?_
              rintro e V6 ⟨rfl, hb6⟩
              have HN6 := Lib.hid (HN5.out.below hb6)
              clear hb6 hca5 hbl5
              go_wp2_with fail
              go_roundg (2 - (j + 1))
              case measure => have := HMJ.out; omega
              case rel => exact ⟨j + 1, by have := HMJ.out; omega, by go_num, HN6.out⟩
            · have hj2 : j = 2 := by have := HMJ.out; omega
              subst hj2
              go_wp2_with fail
              refine (awake6 V1).mono ?_
              rintro e V2 ⟨rfl, hb2⟩
              have HN2 := Lib.hid (HNB.out.below hb2)
              clear hb2
              go_wp2_with fail
              go_ret
              exact ⟨rfl, HN2.out.bel⟩
theorem countNobody_walk (w : World) (zk : Int) (_wk : (Lit.int .i64 zk).wf = true) (zm : Int) (_wm : (Lit.int .i64 zm).wf = true) (a : Option Addr) (c : Nat) (zs : List Int) (_hlc : zs.length ≤ c) (_hm : c ≤ maxLen) (hc : Cells w a (zs.flatMap intCells)) (hwf : ∀ z ∈ zs, wfI z) : Calls Try.prog 11 #[.int .i64 zk, .int .i64 zm, .slice a zs.length c] w (Fine6 w) := by
  by_cases h : 100 < zs.length
  · exact nobody_many w zk zm a c zs h
  · have hc2 : Cells w a (zV zs) := by rw [← flat_ints]; exact hc
    by_cases m0 : zm < 0
    · exact nobody_few1 w zk zm a c zs hc2 hwf h m0
    · by_cases m1 : 16384 < zm
      · exact nobody_few2 w zk zm a c zs hc2 hwf h m0 m1
      · exact nobody_few3 w zk zm a c zs hc2 hwf h m0 m1
end Go.Proofs.Ytoegenacjhmicaa
