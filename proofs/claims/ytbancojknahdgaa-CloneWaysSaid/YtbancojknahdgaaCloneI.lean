/- osierlaw20.some: edges out of numbers; PutRow of any rows (putrow_ok). -/
import Derived.Test.YtbancojknahdgaaCloneK
import Derived.Deep.RegionHeld3
namespace Go.Proofs.Ytbancojknahdgaa
open Go.RowKit CP
theorem putrow_ok (w : World) (v : Value) (L : List (List Int)) (b : Option Addr) (cb : Nat) (r : List Int) (hv : RowsV w v L) (hl : L.length ≤ 1024) (hr : r.length ≤ 1024) (hd : Cells w b (zV r)) :
    Calls Try.prog 26 #[v, .slice b r.length cb] w fun e w' => Below w.heap.size w w' ∧ ∃ v, e = .returned v ∧ RowsV w' v (putL L r) := by
  rcases hv with ⟨rfl, rfl⟩ | ⟨lb, ca, rfl, h1, h2, h3, h4, h5⟩
  · exact putrow_nil w b cb r hr hd
  · exact putrow_some w lb ca L b cb r h1 hl h2 h3 h4 h5 hr hd
theorem and7 (a : Int) : bits .and .i64 a 7 = ((b8 a % 8 : Nat) : Int) := by
  have h2 : bits .and .i64 a 7 = a % 8 := and_low a 3 (by decide)
  unfold b8; omega
theorem RowsV.row {w : World} {v : Value} {L : List (List Int)} (h : RowsV w v L) {i : Nat} {r : List Int} (hr : L[i]? = some r) : ∃ lb ca ad cp, v = .slice (some ⟨lb, 0, none⟩) L.length ca ∧ lb < w.heap.size ∧ w.cell? ⟨lb, i, none⟩ = some (.slice ad r.length cp) ∧ Cells w ad (zV r) := by
  rcases h with ⟨_, rfl⟩ | ⟨lb, ca, rfl, _, _, _, h4, h5⟩
  · cases hr
  · obtain ⟨b, off, ad, cp, e, hb, hc, hr2, _⟩ := h5.at_ hr
    injection e with e
    injection e with e1 e2 _
    subst e1 e2
    rw [Nat.zero_add] at hc
    exact ⟨lb, ca, ad, cp, rfl, h4, hc, hr2⟩
theorem RowsV.len_ {w : World} {v : Value} {L : List (List Int)} (h : RowsV w v L) : ∃ a c, v = .slice a L.length c := by
  rcases h with ⟨rfl, rfl⟩ | ⟨lb, ca, rfl, _⟩
  · exact ⟨_, _, rfl⟩
  · exact ⟨_, _, rfl⟩
/-- what PutRow leaves -/
def PutP (w : World) (L : List (List Int)) (e : Ending) (w' : World) : Prop := Below w.heap.size w w' ∧ ∃ v, e = .returned v ∧ RowsV w' v L
def SoPost (w : World) (z : Int) (l : List (Int × Int × Int)) (e : Ending) (w' : World) : Prop :=
  Below w.heap.size w w' ∧ ∃ y, e = .returned (.tuple #[.int .i64 (soN z : Int), y]) ∧ w'.ownsRow w.heap.size 50 3 y (soE (soN z) l).length ((soE (soN z) l).flatMap keyCells)
set_option maxRecDepth 100000 in
set_option maxHeartbeats 6400000 in
theorem so_ok (w : World) (z : Int) (ea : Option Addr) (l : List (Int × Int × Int)) (c : Nat) (_hm : l.length ≤ maxLen) (hc : Cells w ea (l.flatMap keyCells)) :
    Calls Try.prog 20 #[.int .i64 z, .slice ea l.length c] w (SoPost w z l) := by
  have HC := Lib.hid hc
  obtain ⟨N, hN⟩ : ∃ N, l.length = N := ⟨_, rfl⟩
  have HN := Lib.hid hN
  rw [hN]
  clear hN hc
  obtain ⟨j0, hj0, yz0, yz1, yz2⟩ := info_parts edge_info
  have hz1 := b8_and z
  have hz2 := b8_lt z
  obtain ⟨Z, hZ⟩ : ∃ Z, b8 z = Z := ⟨_, rfl⟩
  obtain ⟨n, hn⟩ : ∃ n, 1 + Z % 12 = n := ⟨_, rfl⟩
  have HSN : Hid (soN z = n) := Lib.hid (by unfold soN; rw [hZ]; exact hn)
  rw [hZ] at hz1 hz2
  have hn1 : 1 ≤ n := by omega
  have hn2 : n ≤ 12 := by omega
  have hne : (1 : Int) + (Z : Int) % 12 = (n : Int) := by omega
  have hn0 : ¬ n = 0 := by omega
  clear hZ hn
  go_enter Try.func20, Try.ntmps20
  go_wp2_with fail
  go_loopg [7, 8] N (fun m y x wr => ∃ i : Nat, m + i = N ∧ i ≤ 30 ∧ x = .int .i64 (i : Int) ∧ Below w.heap.size w wr ∧ RowsV wr y (rowsF n (l.take i)))
  case atStart => exact ⟨0, rfl, Nat.zero_le _, rfl, Below.refl _ _, .inl ⟨rfl, rfl⟩⟩
  case round =>
    obtain ⟨i, hm2, hi30, rfl, hb, hrow⟩ := hrel
    have HM := Lib.hid hm2; have HB := Lib.hid hb; have HROW := Lib.hid hrow
    have hws : w.heap.size ≤ wr.heap.size := hb.size
    clear hm2 hb hrow
    by_cases hi : i < N
    · by_cases hi2 : i < 30
      · obtain ⟨x, hx⟩ : ∃ x, l[i]? = some x := ⟨_, List.getElem?_eq_getElem (by rw [HN.out]; exact hi)⟩
        obtain ⟨b, off, hea, hbl, k0, k1, k2⟩ := (HC.out.below HB.out).key hx
        subst hea
        have HT := Lib.hid (rowsF_next (n := n) hx)
        obtain ⟨x0, x1, x2⟩ := x
        clear hx
        simp only at k0 k1 k2
        unfold rowS at HT
        simp only at HT
        have a0 := b8_and x0; have a1 := and7 x1; have a2 := b8_and x2
        have l0 := b8_lt x0; have l2 := b8_lt x2
        obtain ⟨X0, hX0⟩ : ∃ X0, b8 x0 = X0 := ⟨_, rfl⟩
        obtain ⟨X2, hX2⟩ : ∃ X2, b8 x2 = X2 := ⟨_, rfl⟩
        obtain ⟨r1, hr1⟩ : ∃ r1, b8 x1 % 8 = r1 := ⟨_, rfl⟩
        rw [hX0] at a0 l0 HT
        rw [hX2] at a2 l2 HT
        rw [hr1] at a1 HT
        clear hX0 hX2 hr1
        obtain ⟨r0, hr0⟩ : ∃ r0, X0 % n = r0 := ⟨_, rfl⟩
        obtain ⟨r2, hr2⟩ : ∃ r2, X2 % n = r2 := ⟨_, rfl⟩
        have t0 : (X0 : Int).tmod (n : Int) = (r0 : Int) := by rw [← hr0]; rfl
        have t2 : (X2 : Int).tmod (n : Int) = (r2 : Int) := by rw [← hr2]; rfl
        rw [hr0, hr2] at HT
        clear hr0 hr2
        have hlen := (rowsF_all n l i).2.1
        obtain ⟨L, hL⟩ : ∃ L, rowsF n (l.take i) = L := ⟨_, rfl⟩
        rw [hL] at HT hlen
        have HROW2 := HROW
        rw [hL] at HROW2
        clear hL
        have hkb : ∀ W, Below wr.heap.size wr W → W.cell? ⟨b, off + i * 3, none⟩ = some (.int .i64 x0) ∧ W.cell? ⟨b, off + i * 3 + 1, none⟩ = some (.int .i64 x1) ∧ W.cell? ⟨b, off + i * 3 + 2, none⟩ = some (.int .i64 x2) := fun W hW => ⟨(hW.cell (p := ⟨b, off + i * 3, none⟩) hbl).trans k0, (hW.cell (p := ⟨b, off + i * 3 + 1, none⟩) hbl).trans k1, (hW.cell (p := ⟨b, off + i * 3 + 2, none⟩) hbl).trans k2⟩
        have HKB := Lib.hid hkb
        have HPR : Hid (Calls Try.prog 26 #[u7, .slice (some ⟨wr.heap.size, 0, none⟩) 3 3] (wr.alloc (.cells #[.int .i64 (r0 : Int), .int .i64 (r1 : Int), .int .i64 (r2 : Int)] 3)).drew (PutP (wr.alloc (.cells #[.int .i64 (r0 : Int), .int .i64 (r1 : Int), .int .i64 (r2 : Int)] 3)).drew (putL L [(r0 : Int), (r1 : Int), (r2 : Int)]))) := Lib.hid (putrow_ok _ _ L _ 3 [(r0 : Int), (r1 : Int), (r2 : Int)] (HROW2.out.below ((Below.refl _ _).alloc (Nat.le_refl _) _).drew) (by omega) (by simp) (Cells.lit wr _ _).drew_)
        have HBA : Hid (Below wr.heap.size wr (wr.alloc (.cells #[.int .i64 (r0 : Int), .int .i64 (r1 : Int), .int .i64 (r2 : Int)] 3)).drew) := Lib.hid ((Below.refl _ _).alloc (Nat.le_refl _) _).drew
        clear hkb k0 k1 k2 HROW HROW2
        go_upto_region 6 with (fail)
        go_region_held3 (fun w' => w'.cell? ⟨b, off + i * 3, none⟩ = some (.int .i64 x0) ∧ w'.cell? ⟨b, off + i * 3 + 1, none⟩ = some (.int .i64 x1) ∧ w'.cell? ⟨b, off + i * 3 + 2, none⟩ = some (.int .i64 x2))
          (first | with_reducible exact HKB.out _ HB3.out.1 | with_reducible exact HKB.out _ (Below.refl _ _).drew | with_reducible exact HKB.out _ HBA.out) ((go_at_call 26; ((with_reducible refine HPR.out.mono ?_); rintro e w3 ⟨hb3, v3, rfl, hr3⟩; have HB3 := Lib.hid (And.intro (HBA.out.trans (hb3.mono HBA.out.size)) hr3); clear hb3 hr3)))
        have HB4 := Lib.hid (HB.out.trans (HB3.out.1.mono HB.out.size))
        have HR3 : Hid (RowsV w3 v3 (rowsF n (l.take (i + 1)))) := Lib.hid (by rw [HT.out]; exact HB3.out.2)
        clear HPR HB3 HBA HKB a0 a1 a2 t0 t2 hbl
        go_wp2_with fail
        go_roundg (N - (i + 1))
        case measure => have := HM.out; omega
        case rel => exact ⟨i + 1, by have := HM.out; omega, by omega, by go_num, HB4.out, HR3.out⟩
      · have HROWS : Hid (RowsV wr u7 (rowsF n (l.take 30))) := Lib.hid (by
          have h := HROW.out
          rw [show i = 30 from by omega] at h; exact h)
        go_upto_region 7 with (fail)
        obtain ⟨L, hL⟩ : ∃ L, rowsF n (l.take 30) = L := ⟨_, rfl⟩
        have hlen := (rowsF_all n l 30).2.1
        have hform := (rowsF_all n l 30).2.2
        have hsoe : soE n l = L.map edgeR := by unfold soE; rw [hL]
        rw [hL] at HROWS hlen hform
        have HSOE := Lib.hid hsoe; have HFORM := Lib.hid hform
        obtain ⟨w1, hw1⟩ : ∃ w1, w1 = wr := ⟨_, rfl⟩
        rw [← hw1] at HROWS HB ⊢
        obtain ⟨M, hM⟩ : ∃ M, L.length = M := ⟨_, rfl⟩
        have HML := Lib.hid hM
        obtain ⟨ra, rc, rfl⟩ := HROWS.out.len_
        rw [hM] at hlen ⊢
        clear hL hw1 hM hform hsoe HROW hws
        go_wp2_with fail
        go_loopg [9, 10] M (fun mm y x wq => ∃ j : Nat, mm + j = M ∧ x = .int .i64 (j : Int) ∧ Below w1.heap.size w1 wq ∧ wq.ownsRow w1.heap.size 50 3 y j (((L.take j).map edgeR).flatMap keyCells))
        case atStart => exact ⟨0, by omega, rfl, Below.refl _ _, World.ownsRow_nil _ _ _ _⟩
        case round =>
          obtain ⟨j, hm3, rfl, hb3, hrow3⟩ := hrel
          have HM3 := Lib.hid hm3; have HB3 := Lib.hid hb3; have HROW3 := Lib.hid hrow3
          have hws3 := hb3.size
          clear hm3 hb3 hrow3
          by_cases hj : j < M
          · obtain ⟨r, hr⟩ : ∃ r, L[j]? = some r := ⟨_, List.getElem?_eq_getElem (by rw [HML.out]; exact hj)⟩
            obtain ⟨x, rfl⟩ := HFORM.out r (List.mem_of_getElem? hr)
            obtain ⟨lb, ca, ad, cp, e1, hlb, hc1, hcr⟩ := HROWS.out.row hr
            injection e1 with e1 _ e2
            subst e1 e2
            have HTK : Hid (((L.take (j + 1)).map edgeR).flatMap keyCells = ((L.take j).map edgeR).flatMap keyCells ++ [.int .i64 ((b8 x.1 % n : Nat) : Int), .int .i64 ((b8 x.2.1 % 8 : Nat) : Int), .int .i64 ((b8 x.2.2 % n : Nat) : Int)]) := Lib.hid (by
              rw [List.take_add_one, hr, List.map_append, List.flatMap_append]; rfl)
            rw [show (rowS n x).length = 3 from rfl] at hc1
            unfold rowS at hcr
            obtain ⟨r0, hr0⟩ : ∃ r0, b8 x.1 % n = r0 := ⟨_, rfl⟩
            obtain ⟨r1, hr1⟩ : ∃ r1, b8 x.2.1 % 8 = r1 := ⟨_, rfl⟩
            obtain ⟨r2, hr2⟩ : ∃ r2, b8 x.2.2 % n = r2 := ⟨_, rfl⟩
            rw [hr0, hr1, hr2] at hcr HTK
            obtain ⟨ab, ao, rfl, hab, hcl⟩ := hcr (by simp [zV])
            have c0 := hcl 0 _ rfl
            have c1 := hcl 1 _ rfl
            have c2 := hcl 2 _ rfl
            rw [Nat.add_zero] at c0
            have hkb : ∀ W, Below w1.heap.size w1 W → W.cell? ⟨lb, j, none⟩ = some (.slice (some ⟨ab, ao, none⟩) 3 cp) ∧ W.cell? ⟨ab, ao, none⟩ = some (.int .i64 (r0 : Int)) ∧ W.cell? ⟨ab, ao + 1, none⟩ = some (.int .i64 (r1 : Int)) ∧ W.cell? ⟨ab, ao + 2, none⟩ = some (.int .i64 (r2 : Int)) := fun W hW => ⟨(hW.cell (p := ⟨lb, j, none⟩) hlb).trans hc1, (hW.cell (p := ⟨ab, ao, none⟩) hab).trans c0, (hW.cell (p := ⟨ab, ao + 1, none⟩) hab).trans c1, (hW.cell (p := ⟨ab, ao + 2, none⟩) hab).trans c2⟩
            have HKB := Lib.hid hkb
            have HBA : Hid (Below w1.heap.size w1 (wr.alloc (.cells #[.int .i64 (r0 : Int), .int .i64 (r1 : Int), .int .i64 (r2 : Int)] 50)).drew) := Lib.hid (HB3.out.alloc hws3 _).drew
            clear hr hr0 hr1 hr2 hcl hkb c0 c1 c2 hc1
            go_upto_region 11 with (fail)
            go_region_held3 (fun w' => w'.cell? ⟨lb, j, none⟩ = some (.slice (some ⟨ab, ao, none⟩) 3 cp) ∧ w'.cell? ⟨ab, ao, none⟩ = some (.int .i64 (r0 : Int)) ∧ w'.cell? ⟨ab, ao + 1, none⟩ = some (.int .i64 (r1 : Int)) ∧ w'.cell? ⟨ab, ao + 2, none⟩ = some (.int .i64 (r2 : Int)))
              (first | with_reducible exact HKB.out _ H2.out.1 | with_reducible exact HKB.out _ HB3.out.drew | with_reducible exact HKB.out _ HBA.out) ((refine step_append_sep rfl (.tmp 56) (.tmp 76) 23 rfl w1.heap.size 50 j0 (.agg #[.int .i64 0, .int .i64 0, .int .i64 0]) 3 24 Try.underlying23 hj0 yz0 yz1 yz2 rfl (by decide) u9 j _ (by simp [Act.eval]) (World.ownsRow.alloc (w := wr.drew) HROW3.out _) ⟨wr.heap.size, 0, none⟩ 1 1 [.int .i64 (r0 : Int), .int .i64 (r1 : Int), .int .i64 (r2 : Int)] (by simp [Act.eval]) rfl (edge_lits wr.drew _ _ _ _) (edge_ones _ _ _) (by unfold maxLen; omega) (by omega) (by simp; omega) ?_; intro v2 w2 hown2 hg2 hs2; have hb2 : Below w1.heap.size w1 w2 := HBA.out.grown hg2 (by simp; omega) (fun q hq => (HROW3.out.lt q hq).1); have H2 := Lib.hid (And.intro hb2 hown2); clear hb2 hown2 hg2 hs2))
            all_goals
              have HB5 : Hid (Below w1.heap.size w1 w2) := Lib.hid H2.out.1
              have HR5 : Hid (w2.ownsRow w1.heap.size 50 3 v2 (j + 1) (((L.take (j + 1)).map edgeR).flatMap keyCells)) := Lib.hid (by rw [HTK.out]; exact H2.out.2)
              clear H2 HBA HKB HROW3
              go_wp2_with fail
              go_roundg (M - (j + 1))
              case measure => have := HM3.out; omega
              case rel => exact ⟨j + 1, by have := HM3.out; omega, by go_num, HB5.out, HR5.out⟩
          · have hjM : j = M := by have := HM3.out; omega
            have HR5 : Hid (wr.ownsRow w1.heap.size 50 3 u9 (soE n l).length ((soE n l).flatMap keyCells)) := Lib.hid (by
              have h := HROW3.out
              rw [hjM, ← HML.out, List.take_length, ← HSOE.out] at h
              have e : L.length = (soE n l).length := by rw [HSOE.out, List.length_map]
              rw [e] at h; exact h)
            have HSL : Hid ((soE n l).length = j) := Lib.hid (by rw [HSOE.out, List.length_map, HML.out, hjM])
            obtain ⟨oa, oc, rfl⟩ := own_shape HROW3.out
            have HBF := Lib.hid (HB.out.trans (HB3.out.mono HB.out.size))
            clear hjM
            go_wp2_with fail
            go_ret2
            refine ⟨HBF.out, .slice oa j oc, ?_, ?_⟩
            · rw [HSN.out]; rfl
            · rw [HSN.out]; exact own_base HR5.out HB.out.size
    · have HROWS : Hid (RowsV wr u7 (rowsF n (l.take 30))) := Lib.hid (by
        have h := HROW.out
        have hiN : i = N := by have := HM.out; omega
        have e : l.take i = l.take 30 := by rw [List.take_of_length_le (by rw [HN.out]; omega), List.take_of_length_le (by rw [HN.out]; omega)]
        rw [e] at h; exact h)
      go_upto_region 7 with (fail)
      obtain ⟨L, hL⟩ : ∃ L, rowsF n (l.take 30) = L := ⟨_, rfl⟩
      have hlen := (rowsF_all n l 30).2.1
      have hform := (rowsF_all n l 30).2.2
      have hsoe : soE n l = L.map edgeR := by unfold soE; rw [hL]
      rw [hL] at HROWS hlen hform
      have HSOE := Lib.hid hsoe; have HFORM := Lib.hid hform
      obtain ⟨w1, hw1⟩ : ∃ w1, w1 = wr := ⟨_, rfl⟩
      rw [← hw1] at HROWS HB ⊢
      obtain ⟨M, hM⟩ : ∃ M, L.length = M := ⟨_, rfl⟩
      have HML := Lib.hid hM
      obtain ⟨ra, rc, rfl⟩ := HROWS.out.len_
      rw [hM] at hlen ⊢
      clear hL hw1 hM hform hsoe HROW hws
      go_wp2_with fail
      go_loopg [9, 10] M (fun mm y x wq => ∃ j : Nat, mm + j = M ∧ x = .int .i64 (j : Int) ∧ Below w1.heap.size w1 wq ∧ wq.ownsRow w1.heap.size 50 3 y j (((L.take j).map edgeR).flatMap keyCells))
      case atStart => exact ⟨0, by omega, rfl, Below.refl _ _, World.ownsRow_nil _ _ _ _⟩
      case round =>
        obtain ⟨j, hm3, rfl, hb3, hrow3⟩ := hrel
        have HM3 := Lib.hid hm3; have HB3 := Lib.hid hb3; have HROW3 := Lib.hid hrow3
        have hws3 := hb3.size
        clear hm3 hb3 hrow3
        by_cases hj : j < M
        · obtain ⟨r, hr⟩ : ∃ r, L[j]? = some r := ⟨_, List.getElem?_eq_getElem (by rw [HML.out]; exact hj)⟩
          obtain ⟨x, rfl⟩ := HFORM.out r (List.mem_of_getElem? hr)
          obtain ⟨lb, ca, ad, cp, e1, hlb, hc1, hcr⟩ := HROWS.out.row hr
          injection e1 with e1 _ e2
          subst e1 e2
          have HTK : Hid (((L.take (j + 1)).map edgeR).flatMap keyCells = ((L.take j).map edgeR).flatMap keyCells ++ [.int .i64 ((b8 x.1 % n : Nat) : Int), .int .i64 ((b8 x.2.1 % 8 : Nat) : Int), .int .i64 ((b8 x.2.2 % n : Nat) : Int)]) := Lib.hid (by
            rw [List.take_add_one, hr, List.map_append, List.flatMap_append]; rfl)
          rw [show (rowS n x).length = 3 from rfl] at hc1
          unfold rowS at hcr
          obtain ⟨r0, hr0⟩ : ∃ r0, b8 x.1 % n = r0 := ⟨_, rfl⟩
          obtain ⟨r1, hr1⟩ : ∃ r1, b8 x.2.1 % 8 = r1 := ⟨_, rfl⟩
          obtain ⟨r2, hr2⟩ : ∃ r2, b8 x.2.2 % n = r2 := ⟨_, rfl⟩
          rw [hr0, hr1, hr2] at hcr HTK
          obtain ⟨ab, ao, rfl, hab, hcl⟩ := hcr (by simp [zV])
          have c0 := hcl 0 _ rfl
          have c1 := hcl 1 _ rfl
          have c2 := hcl 2 _ rfl
          rw [Nat.add_zero] at c0
          have hkb : ∀ W, Below w1.heap.size w1 W → W.cell? ⟨lb, j, none⟩ = some (.slice (some ⟨ab, ao, none⟩) 3 cp) ∧ W.cell? ⟨ab, ao, none⟩ = some (.int .i64 (r0 : Int)) ∧ W.cell? ⟨ab, ao + 1, none⟩ = some (.int .i64 (r1 : Int)) ∧ W.cell? ⟨ab, ao + 2, none⟩ = some (.int .i64 (r2 : Int)) := fun W hW => ⟨(hW.cell (p := ⟨lb, j, none⟩) hlb).trans hc1, (hW.cell (p := ⟨ab, ao, none⟩) hab).trans c0, (hW.cell (p := ⟨ab, ao + 1, none⟩) hab).trans c1, (hW.cell (p := ⟨ab, ao + 2, none⟩) hab).trans c2⟩
          have HKB := Lib.hid hkb
          have HBA : Hid (Below w1.heap.size w1 (wr.alloc (.cells #[.int .i64 (r0 : Int), .int .i64 (r1 : Int), .int .i64 (r2 : Int)] 50)).drew) := Lib.hid (HB3.out.alloc hws3 _).drew
          clear hr hr0 hr1 hr2 hcl hkb c0 c1 c2 hc1
          go_upto_region 11 with (fail)
          go_region_held3 (fun w' => w'.cell? ⟨lb, j, none⟩ = some (.slice (some ⟨ab, ao, none⟩) 3 cp) ∧ w'.cell? ⟨ab, ao, none⟩ = some (.int .i64 (r0 : Int)) ∧ w'.cell? ⟨ab, ao + 1, none⟩ = some (.int .i64 (r1 : Int)) ∧ w'.cell? ⟨ab, ao + 2, none⟩ = some (.int .i64 (r2 : Int)))
            (first | with_reducible exact HKB.out _ H2.out.1 | with_reducible exact HKB.out _ HB3.out.drew | with_reducible exact HKB.out _ HBA.out) ((refine step_append_sep rfl (.tmp 56) (.tmp 76) 23 rfl w1.heap.size 50 j0 (.agg #[.int .i64 0, .int .i64 0, .int .i64 0]) 3 24 Try.underlying23 hj0 yz0 yz1 yz2 rfl (by decide) u9 j _ (by simp [Act.eval]) (World.ownsRow.alloc (w := wr.drew) HROW3.out _) ⟨wr.heap.size, 0, none⟩ 1 1 [.int .i64 (r0 : Int), .int .i64 (r1 : Int), .int .i64 (r2 : Int)] (by simp [Act.eval]) rfl (edge_lits wr.drew _ _ _ _) (edge_ones _ _ _) (by unfold maxLen; omega) (by omega) (by simp; omega) ?_; intro v2 w2 hown2 hg2 hs2; have hb2 : Below w1.heap.size w1 w2 := HBA.out.grown hg2 (by simp; omega) (fun q hq => (HROW3.out.lt q hq).1); have H2 := Lib.hid (And.intro hb2 hown2); clear hb2 hown2 hg2 hs2))
          all_goals
            have HB5 : Hid (Below w1.heap.size w1 w2) := Lib.hid H2.out.1
            have HR5 : Hid (w2.ownsRow w1.heap.size 50 3 v2 (j + 1) (((L.take (j + 1)).map edgeR).flatMap keyCells)) := Lib.hid (by rw [HTK.out]; exact H2.out.2)
            clear H2 HBA HKB HROW3
            go_wp2_with fail
            go_roundg (M - (j + 1))
            case measure => have := HM3.out; omega
            case rel => exact ⟨j + 1, by have := HM3.out; omega, by go_num, HB5.out, HR5.out⟩
        · have hjM : j = M := by have := HM3.out; omega
          have HR5 : Hid (wr.ownsRow w1.heap.size 50 3 u9 (soE n l).length ((soE n l).flatMap keyCells)) := Lib.hid (by
            have h := HROW3.out
            rw [hjM, ← HML.out, List.take_length, ← HSOE.out] at h
            have e : L.length = (soE n l).length := by rw [HSOE.out, List.length_map]
            rw [e] at h; exact h)
          have HSL : Hid ((soE n l).length = j) := Lib.hid (by rw [HSOE.out, List.length_map, HML.out, hjM])
          obtain ⟨oa, oc, rfl⟩ := own_shape HROW3.out
          have HBF := Lib.hid (HB.out.trans (HB3.out.mono HB.out.size))
          clear hjM
          go_wp2_with fail
          go_ret2
          refine ⟨HBF.out, .slice oa j oc, ?_, ?_⟩
          · rw [HSN.out]; rfl
          · rw [HSN.out]; exact own_base HR5.out HB.out.size
end Go.Proofs.Ytbancojknahdgaa
