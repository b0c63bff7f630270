/- CloneFar's walk. -/
import Derived.Test.YtbancojknahdgaaCloneI
import Derived.Test.YtbancojknahdgaaCloneV
import Derived.Deep.RegionHeld3
namespace Go.Proofs.Ytbancojknahdgaa
open Go.RowKit CP
theorem below_tells {w wr wa : World} (h : Below w.heap.size w wr) (ht : ∃ n, wa = wr.drewN n) : Below w.heap.size w wa := by
  obtain ⟨n, rfl⟩ := ht
  exact h.trans ((drew_below wr n).mono h.size)
set_option maxRecDepth 100000 in
set_option maxHeartbeats 12800000 in
theorem cloneFar_walk (w : World) (z : Int) (_zw : (Lit.int .i64 z).wf = true) (la : Option Addr) (lc : Nat) (l : List (Int × Int × Int)) (_hlc : l.length ≤ lc) (_hmc : lc ≤ maxLen) (hc0 : Cells w la (l.flatMap keyCells)) (_wf : ∀ y ∈ l, wfI y.1 ∧ wfI y.2.1 ∧ wfI y.2.2) (zt : Int) (_ztw : (Lit.int .i64 zt).wf = true) :
    Calls Try.prog 9 #[.int .i64 z, .slice la l.length lc, .int .i64 zt] w (FineC w) := by
  have HS := Lib.hid (so_ok w z la l lc (by omega) hc0)
  obtain ⟨hn1, hn2⟩ := soN_lt z
  have hln := soE_len (soN z) l
  have ht1 := b8_and zt
  have ht2 := b8_lt zt
  obtain ⟨Z, hZ⟩ : ∃ Z, b8 zt = Z := ⟨_, rfl⟩
  rw [hZ] at ht1 ht2
  obtain ⟨N, hN⟩ : ∃ N, l.length = N := ⟨_, rfl⟩
  rw [hN] at HS ⊢
  have HMAY0 := soE_may (n := soN z) (wd := 62) (by omega) (by omega) (by decide) (by decide) l
  obtain ⟨n, hn⟩ : ∃ n, soN z = n := ⟨_, rfl⟩
  obtain ⟨es, hes⟩ : ∃ es, soE n l = es := ⟨_, rfl⟩
  obtain ⟨t, ht⟩ : ∃ t, Z % n = t := ⟨_, rfl⟩
  rw [hn] at hn1 hn2 hln HMAY0
  rw [hes] at hln HMAY0
  have htn : t < n := by rw [← ht]; exact Nat.mod_lt _ (by omega)
  have tm : (Z : Int).tmod (n : Int) = (t : Int) := by rw [← ht]; rfl
  have HMAY := Lib.hid HMAY0
  have HFM := Lib.hid (far_may (t := t) HMAY0 (by omega) (by omega) htn)
  have hn0 : ¬ n = 0 := by omega
  have HN := Lib.hid hn; have HES := Lib.hid hes
  clear hc0 hN hZ HMAY0 hn hes ht
  obtain ⟨j0, hj0, yz0, yz1, yz2⟩ := info_parts edge_info
  go_enter Try.func9, Try.ntmps9
  go_wp2_with fail
  refine HS.out.mono ?_
  rintro e w1 ⟨hb1, y, rfl, hr1⟩
  rw [HN.out, HES.out] at hr1
  rw [HN.out]
  obtain ⟨ea, ec, rfl, _, _, hec⟩ := Cells.of_own hr1
  have HEC := Lib.hid hec; have HB1 := Lib.hid hb1
  have HNU := Lib.hid (number_may w1 n 0 62 ea es ec HMAY.out hec)
  obtain ⟨L, hL⟩ : ∃ L, es.length = L := ⟨_, rfl⟩
  rw [hL] at HNU hln ⊢
  have HL := Lib.hid hL
  clear hb1 hr1 hec hL HS HN HES
  go_wp2_with fail
  refine HNU.out.mono ?_
  rintro e w2 ⟨hb2, h | h⟩
  · obtain ⟨_, rfl⟩ := h
    have HB2 := Lib.hid (HB1.out.trans (hb2.mono HB1.out.size))
    unfold clNil
    clear hb2 HNU
    go_wp2_with fail
    refine (awake20 _).mono ?_
    rintro e w9 ⟨rfl, hb9⟩
    have HB9 := Lib.hid ((HB2.out.alloc HB2.out.size _).trans (hb9.mono (HB2.out.alloc HB2.out.size _).size))
    clear hb9
    go_wp2_with fail
    go_ret
    exact ⟨rfl, HB9.out⟩
  · obtain ⟨hf, v, rfl, hcl⟩ := h
    have HF2 := Lib.hid (far_fit (t := t) HMAY.out (by omega) (by rw [HL.out]; omega) htn hf)
    have HCNT : Hid (∀ u, u < n → cnM (n + 1) 0 (farE es n t) u = cnM n 0 es u) := Lib.hid (far_cn HMAY.out (by omega) (by rw [HL.out]; omega) htn)
    have HCN0 := Lib.hid (far_none (t := t) HMAY.out (by omega) (by rw [HL.out]; omega) htn)
    have HAD : Hid (∀ i, i < L → adE (n + 1) 0 (farE es n t) i = adE n 0 es i) := Lib.hid (fun i hi => far_ad HMAY.out (by omega) (by rw [HL.out]; omega) htn (by rw [HL.out]; exact hi))
    have HADL := Lib.hid (far_adL (t := t) HMAY.out (by omega) (by rw [HL.out]; omega) htn)
    have HB2 := Lib.hid (HB1.out.trans (hb2.mono HB1.out.size))
    obtain ⟨a1, c1, a2, c2, a3, c3, a4, c4, rfl, h1, h2, h3, h4⟩ := hcl
    have e1 : (numC n 0 es).comp.length = n := cmpZ_len _ _
    have e2 : (numC n 0 es).count.length = n := by show ((List.range n).map _).length = n; rw [List.length_map, List.length_range]
    have e3 : (numC n 0 es).edges.length = L := HL.out
    have e4 : (numC n 0 es).add.length = L := by show ((List.range es.length).map _).length = L; rw [List.length_map, List.length_range, HL.out]
    rw [e1, e2, e3, e4]
    have HX2 : Hid (∀ u, u < n → (numC n 0 es).count[u]? = some (cnM n 0 es u : Int)) := Lib.hid (fun u hu => by
      show ((List.range n).map _)[u]? = _
      rw [List.getElem?_map, List.getElem?_range hu]; rfl)
    have HX4 : Hid ((numC n 0 es).add = (List.range L).map fun i => (adE n 0 es i : Int)) := Lib.hid (by show (List.range es.length).map _ = _; rw [HL.out])
    obtain ⟨w3, hw3⟩ : ∃ w3, w3 = w2.alloc (.cells #[.slice a1 n c1, .slice a2 n c2, .slice a3 L c3, .slice a4 L (L + c4)] 27) := ⟨_, rfl⟩
    obtain ⟨g, hg⟩ : ∃ g, g = w2.heap.size := ⟨_, rfl⟩
    have hb3 : Below w2.heap.size w2 w3 := by rw [hw3]; exact (Below.refl _ _).alloc (Nat.le_refl _) _
    have k3 : Blk w3 g 27 #[.slice a1 n c1, .slice a2 n c2, .slice a3 L c3, .slice a4 L (L + c4)] := by rw [hw3, hg]; exact Blk.new_ _ _ _
    have H2 := Lib.hid (h2.below hb3); have H4 := Lib.hid (h4.below hb3)
    have HK3 := Lib.hid k3; have HW3 := Lib.hid hw3; have HG := Lib.hid hg
    have HB3 := Lib.hid (HB2.out.trans (hb3.mono HB2.out.size))
    have HEC3 := Lib.hid (HEC.out.below (hb2.trans (hb3.mono hb2.size)))
    have hws3 := hb3.size
    clear hf hb2 HNU h1 h2 h3 h4 e1 e2 e3 e4 hw3 hg hb3 k3 HB2 HEC HB1
    go_upto_region 6 with (fail)
    rw [← HW3.out]
    try rw [← HG.out]
    have HLN : Hid ((es.flatMap keyCells).length = L * 3) := Lib.hid (by rw [edges_len, HL.out])
    go_wp2_with (at_builtin; refine wpList_append_src rfl (.tmp 34) (.tmp 35) 23 rfl w3.heap.size 50 j0 (.agg #[.int .i64 0, .int .i64 0, .int .i64 0]) 3 24 Try.underlying23 hj0 yz0 yz1 yz2 rfl (by decide) (.slice none 0 0) 0 [] rfl (World.ownsRow_nil _ _ _ _) ea L ec (es.flatMap keyCells) rfl HLN.out HEC3.out (edges_ones es) (by unfold maxLen; omega) (by omega) (Nat.le_refl _) ?_)
    intro y4 w4 hown4 hg4 hn4
    clear hn4
    have hb4 : Below w3.heap.size w3 w4 := (Below.refl _ _).grown hg4 (Nat.le_refl _) (fun j hj => by cases hj)
    have HR4 : Hid (w4.ownsRow w3.heap.size 50 3 y4 L (es.flatMap keyCells)) := Lib.hid (by simpa using hown4)
    have HB4 := Lib.hid hb4
    have hws4 := hb4.size
    clear hown4 hg4 hb4
    go_wp2_with (at_builtin; refine wpList_append_sep rfl (.tmp 37) (.tmp 44) 23 rfl w3.heap.size 50 j0 (.agg #[.int .i64 0, .int .i64 0, .int .i64 0]) 3 24 Try.underlying23 hj0 yz0 yz1 yz2 rfl (by decide) y4 L _ rfl (HR4.out.alloc _) w4.heap.size 0 1 1 [.int .i64 (n : Int), .int .i64 99, .int .i64 (t : Int)] rfl rfl (edge_lits _ _ _ _ _) (edge_ones _ _ _) (by unfold maxLen; omega) (by omega) (by simp; omega) ?_)
    intro y5 w5 hown5 hg5 hs5
    clear hs5
    have hb5 : Below w3.heap.size w3 w5 := (HB4.out.alloc hws4 (.cells #[.int .i64 (n : Int), .int .i64 99, .int .i64 (t : Int)] 50)).grown hg5 (by simp; omega) (fun j hj => (HR4.out.lt j hj).1)
    have hrow5 : w5.ownsRow w3.heap.size 50 3 y5 (farE es n t).length ((farE es n t).flatMap keyCells) := by
      rw [farE_len, HL.out]
      unfold farE
      rw [← edges_snoc]; exact hown5
    obtain ⟨fa, fc, rfl, _, _, hfc⟩ := Cells.of_own hrow5
    have HNU2 := Lib.hid (number_may w5 (n + 1) 0 62 fa (farE es n t) fc HFM.out hfc)
    obtain ⟨K, hK⟩ : ∃ K, n + 1 = K := ⟨_, rfl⟩
    obtain ⟨L1, hL1⟩ : ∃ L1, L + 1 = L1 := ⟨_, rfl⟩
    have hKi : (n : Int) + 1 = (K : Int) := by omega
    have hLi : (L : Int) + 1 = (L1 : Int) := by omega
    have hKb : K ≤ 13 := by omega
    have hnK : n < K := by omega
    have hLL : L < L1 := by omega
    have hLb : L1 ≤ 31 := by omega
    rw [hK] at HNU2 HF2 HCNT HCN0 HAD HADL
    rw [farE_len, HL.out, hL1] at HNU2
    rw [farE_len, HL.out, hL1]
    have hfl : (farE es n t).length = L1 := by rw [farE_len, HL.out, hL1]
    have HFL := Lib.hid hfl; have HKK := Lib.hid hK; have HLL1 := Lib.hid hL1
    have HB5 := Lib.hid hb5
    clear hown5 hg5 hb5 hrow5 hfc HR4 HB4 HEC3 hfl hK hL1
    go_wp2_with fail
    refine HNU2.out.mono ?_
    rintro e w6 ⟨hb6, h | h⟩
    · exact absurd h.1 (by rw [HF2.out]; decide)
    obtain ⟨_, v, rfl, hcl⟩ := h
    obtain ⟨b1, d1, b2, d2, b3, d3, b4, d4, rfl, h1, h2, h3, h4⟩ := hcl
    have e1 : (numC K 0 (farE es n t)).comp.length = K := cmpZ_len _ _
    have e2 : (numC K 0 (farE es n t)).count.length = K := by show ((List.range K).map _).length = K; rw [List.length_map, List.length_range]
    have e3 : (numC K 0 (farE es n t)).edges.length = L1 := HFL.out
    have e4 : (numC K 0 (farE es n t)).add.length = L1 := by show ((List.range (farE es n t).length).map _).length = L1; rw [List.length_map, List.length_range, HFL.out]
    rw [e1, e2, e3, e4]
    have HY2 : Hid (∀ u, u < K → (numC K 0 (farE es n t)).count[u]? = some (cnM K 0 (farE es n t) u : Int)) := Lib.hid (fun u hu => by
      show ((List.range K).map _)[u]? = _
      rw [List.getElem?_map, List.getElem?_range hu]; rfl)
    have HY4 : Hid ((numC K 0 (farE es n t)).add = (List.range L1).map fun i => (adE K 0 (farE es n t) i : Int)) := Lib.hid (by show (List.range (farE es n t).length).map _ = _; rw [HFL.out])
    have hcap : L ≤ L1 + d4 := by omega
    obtain ⟨d5, hd5⟩ : ∃ d5, L1 + d4 = d5 := ⟨_, rfl⟩
    obtain ⟨c5, hc5⟩ : ∃ c5, L + c4 = c5 := ⟨_, rfl⟩
    rw [hd5] at hcap ⊢
    rw [hc5] at HK3 HW3 ⊢
    obtain ⟨w7, hw7⟩ : ∃ w7, w7 = w6.alloc (.cells #[.slice b1 K d1, .slice b2 K d2, .slice b3 L1 d3, .slice b4 L1 d5] 27) := ⟨_, rfl⟩
    obtain ⟨gg, hgg⟩ : ∃ gg, gg = w6.heap.size := ⟨_, rfl⟩
    have hb7 : Below w6.heap.size w6 w7 := by rw [hw7]; exact (Below.refl _ _).alloc (Nat.le_refl _) _
    have k7 : Blk w7 gg 27 #[.slice b1 K d1, .slice b2 K d2, .slice b3 L1 d3, .slice b4 L1 d5] := by rw [hw7, hgg]; exact Blk.new_ _ _ _
    have hb37 : Below w3.heap.size w3 w7 := HB5.out.trans ((hb6.trans (hb7.mono hb6.size)).mono HB5.out.size)
    have k3 := HK3.out.below hb37 HK3.out.lt
    have HP2 := Lib.hid (H2.out.below hb37); have HP4 := Lib.hid (H4.out.below hb37)
    have HQ2 := Lib.hid (h2.below hb7); have HQ4 := Lib.hid (h4.below hb7)
    have HW7 := Lib.hid hw7; have HGG := Lib.hid hgg; have HKA := Lib.hid k3; have HKB := Lib.hid k7
    have HB7 := Lib.hid (HB3.out.trans (hb37.mono HB3.out.size))
    have p1 : w7.cell? ⟨g, 1, none⟩ = some (.slice a2 n c2) := k3.cell 1
    have p3 : w7.cell? ⟨g, 3, none⟩ = some (.slice a4 L c5) := k3.cell 3
    have pl := k3.lt
    have q1 : w7.cell? ⟨gg, 1, none⟩ = some (.slice b2 K d2) := k7.cell 1
    have q3 : w7.cell? ⟨gg, 3, none⟩ = some (.slice b4 L1 d5) := k7.cell 3
    have ql := k7.lt
    clear hb6 h1 h2 h3 h4 e1 e2 e3 e4 hd5 hc5 hw7 hgg hb7 k7 hb37 k3 HNU2 HB5 H2 H4 HK3 HB3
    go_upto_region 9 with (fail)
    rw [← HW7.out]
    try rw [← HGG.out]
    go_wp2_with fail
    clear p1 p3 pl q1 q3 ql
    go_loopg [14] n (fun mm x wr => ∃ i : Nat, mm + i = n ∧ x = .int .i64 (i : Int) ∧ Below w7.heap.size w7 wr)
    case atStart => exact ⟨0, by omega, rfl, Below.refl _ _⟩
    case round =>
      obtain ⟨i, hm3, rfl, hb8⟩ := hrel
      have HM3 := Lib.hid hm3; have HB8 := Lib.hid hb8
      clear hm3 hb8
      have k3 := HKA.out.below HB8.out HKA.out.lt
      have k7 := HKB.out.below HB8.out HKB.out.lt
      have p1 : wr.cell? ⟨g, 1, none⟩ = some (.slice a2 n c2) := k3.cell 1
      have pl := k3.lt
      have q1 : wr.cell? ⟨gg, 1, none⟩ = some (.slice b2 K d2) := k7.cell 1
      have ql := k7.lt
      by_cases hi : i < n
      · have hx := HX2.out i hi
        have hy := HY2.out i (by omega)
        rw [HCNT.out i hi] at hy
        obtain ⟨X, hX⟩ : ∃ X, cnM n 0 es i = X := ⟨_, rfl⟩
        rw [hX] at hx hy
        obtain ⟨ab, ao, rfl, hal, x1⟩ := (HP2.out.below HB8.out).at_ (zV_at hx)
        obtain ⟨bb, bo, rfl, hbl, x2⟩ := (HQ2.out.below HB8.out).at_ (zV_at hy)
        have z1 : ((X : Int) != (X : Int)) = false := by simp
        have hiK : i < K := by omega
        clear hx hy hX k3 k7
        go_wp2_with fail
        go_quiet (fail)
        go_wp2_with fail
        go_roundg (n - (i + 1))
        case measure => have := HM3.out; omega
        case rel => exact ⟨i + 1, by have := HM3.out; omega, by go_num, HB8.out.trans ((drew_below _ _).mono HB8.out.size)⟩
      · have hy := HY2.out n hnK
        rw [HCN0.out] at hy
        have hz : (numC K 0 (farE es n t)).add[L]? = some (0 : Int) := by
          rw [HY4.out, List.getElem?_map, List.getElem?_range hLL]
          have h := HADL.out
          rw [HL.out] at h
          show some ((adE K 0 (farE es n t) L : Nat) : Int) = _
          rw [h]; rfl
        obtain ⟨bb, bo, rfl, hbl, x2⟩ := HQ2.out.at_ (zV_at hy)
        obtain ⟨eb, eo, rfl, hel, x3⟩ := HQ4.out.at_ (zV_at hz)
        have hla : (numC n 0 es).add.length = L := by rw [HX4.out, List.length_map, List.length_range]
        have hsame : (numC K 0 (farE es n t)).add.take L = (numC n 0 es).add := by
          rw [HX4.out, HY4.out]
          apply List.ext_getElem?
          intro q
          rw [List.getElem?_take]
          by_cases hq : q < L
          · rw [if_pos hq, List.getElem?_map, List.getElem?_map, List.getElem?_range (by omega), List.getElem?_range hq]
            show some ((adE K 0 (farE es n t) q : Nat) : Int) = some ((adE n 0 es q : Nat) : Int)
            rw [HAD.out q hq]
          · rw [if_neg hq, List.getElem?_eq_none (by rw [List.length_map, List.length_range]; omega)]
        have hct : Cells wr (some ⟨eb, eo, none⟩) (zV (numC n 0 es).add) := by
          have h := ((HQ4.out.below HB8.out).take_ L)
          have e : (zV (numC K 0 (farE es n t)).add).take L = zV ((numC K 0 (farE es n t)).add.take L) := by unfold zV; rw [List.map_take]
          rw [e, hsame] at h
          exact h
        have HSI : Hid (Calls Try.prog 23 #[.slice a4 L c5, .slice (some ⟨eb, eo, none⟩) L d5] wr.drew (Tells true wr.drew)) := Lib.hid (by
          have h := sameInts_ok wr.drew a4 (some ⟨eb, eo, none⟩) c5 d5 (numC n 0 es).add (numC n 0 es).add (by rw [hla]; unfold maxLen; omega) (HP4.out.below HB8.out).drew_ hct.drew_
          rw [hla, beq_iff_eq.2 rfl] at h; exact h)
        have hkb : ∀ W, Below w7.heap.size w7 W → W.cell? ⟨g, 3, none⟩ = some (.slice a4 L c5) ∧ W.cell? ⟨gg, 3, none⟩ = some (.slice (some ⟨eb, eo, none⟩) L1 d5) ∧ W.cell? ⟨gg, 1, none⟩ = some (.slice (some ⟨bb, bo, none⟩) K d2) ∧ W.cell? ⟨bb, bo + n, none⟩ = some (.int .i64 ((0 : Nat) : Int)) ∧ W.cell? ⟨eb, eo + L, none⟩ = some (.int .i64 0) := fun W hW =>
          ⟨(HKA.out.below hW HKA.out.lt).cell 3, (HKB.out.below hW HKB.out.lt).cell 3, (HKB.out.below hW HKB.out.lt).cell 1, (hW.cell (p := ⟨bb, bo + n, none⟩) hbl).trans x2, (hW.cell (p := ⟨eb, eo + L, none⟩) hel).trans x3⟩
        have HKS := Lib.hid hkb
        have HBD := Lib.hid HB8.out.drew
        clear hy hz hla hsame hct hkb x2 x3 k3 k7 p1 pl q1 ql
        go_upto_region 16 with (fail)
        go_region_held3 (fun W => W.cell? ⟨g, 3, none⟩ = some (.slice a4 L c5) ∧ W.cell? ⟨gg, 3, none⟩ = some (.slice (some ⟨eb, eo, none⟩) L1 d5) ∧ W.cell? ⟨gg, 1, none⟩ = some (.slice (some ⟨bb, bo, none⟩) K d2) ∧ W.cell? ⟨bb, bo + n, none⟩ = some (.int .i64 ((0 : Nat) : Int)) ∧ W.cell? ⟨eb, eo + L, none⟩ = some (.int .i64 0))
          (first | with_reducible exact HKS.out _ HBb.out | with_reducible exact HKS.out _ HBa.out | with_reducible exact HKS.out _ HBD.out) (first | (go_at_call 23; ((with_reducible refine HSI.out.mono ?_); rintro e wa ⟨rfl, hwa⟩; have HBa : Hid (Below w7.heap.size w7 wa) := Lib.hid (below_tells HBD.out hwa); clear hwa)) | (go_at_call 16; ((with_reducible refine (awake20 _).mono ?_); rintro e wb ⟨rfl, hbb⟩; have HBb : Hid (Below w7.heap.size w7 wb) := Lib.hid (HBa.out.trans (hbb.mono HBa.out.size)); clear hbb)))
        all_goals
          go_wp2_with fail
          go_ret
          exact ⟨rfl, HB7.out.trans (HBb.out.mono HB7.out.size)⟩
end Go.Proofs.Ytbancojknahdgaa
