/- CloneCounts' walk. -/
import Derived.Test.YtbancojknahdgaaCloneO
namespace Go.Proofs.Ytbancojknahdgaa
open Go.RowKit CP
def BoxW (w3 : World) (n L : Nat) (v1 v2 v3 v4 : Value) (x : Value) (wc : World) : Prop := ∃ p bc, x = .pointer (some ⟨p, 0, none⟩) ∧ WK w3 wc n L p bc v1 v2 v3 v4 (fun _ => 0) 2000
theorem wk_made (w3 : World) (n L : Nat) (v1 v2 v3 v4 : Value) : BoxW w3 n L v1 v2 v3 v4 (.pointer (some ⟨w3.heap.size + 1, 0, none⟩)) ((w3.alloc (.cells (tabI n fun _ => 0) 3)).alloc (.cells #[v1, v2, v3, v4, .slice (some ⟨w3.heap.size, 0, none⟩) n n, .int .i64 2000] 47)).drew := by
  have k := Blk.new_ (w3.alloc (.cells (tabI n fun _ => 0) 3)) 47 #[v1, v2, v3, v4, .slice (some ⟨w3.heap.size, 0, none⟩) n n, .int .i64 2000]
  rw [al_size] at k
  exact ⟨_, _, rfl, (((Below.refl _ _).alloc (Nat.le_refl _) _).alloc (by rw [al_size]; omega) _).drew, k.drew_, ((Blk.new_ w3 _ _).alloc_ _).drew_, by omega, Nat.le_refl _, fun _ _ => by omega⟩
theorem num_countO {n m : Nat} {es : List (Int × Int × Int)} (hm : m < n) : (numC n 0 es).count[m]? = some (cnM n 0 es m : Int) := by
  show ((List.range n).map _)[m]? = _
  rw [List.getElem?_map, List.getElem?_range hm]; rfl
set_option maxRecDepth 100000 in
set_option maxHeartbeats 25600000 in
theorem cloneCounts_walk (w : World) (z : Int) (_zw : (Lit.int .i64 z).wf = true) (la : Option Addr) (lc : Nat) (l : List (Int × Int × Int)) (_hlc : l.length ≤ lc) (_hmc : lc ≤ maxLen) (hc0 : Cells w la (l.flatMap keyCells)) (_wf : ∀ y ∈ l, wfI y.1 ∧ wfI y.2.1 ∧ wfI y.2.2) :
    Calls Try.prog 6 #[.int .i64 z, .slice la l.length lc] w (FineC w) := by
  have HS := Lib.hid (so_ok w z la l lc (by omega) hc0)
  obtain ⟨hn1, hn2⟩ := soN_lt z
  have hln := soE_len (soN z) l
  obtain ⟨N, hN⟩ : ∃ N, l.length = N := ⟨_, rfl⟩
  rw [hN] at HS ⊢
  have HMAY0 := soE_may (n := soN z) (wd := 62) (by omega) (by omega) (by decide) (by decide) l
  obtain ⟨n, hn⟩ : ∃ n, soN z = n := ⟨_, rfl⟩
  obtain ⟨es, hes⟩ : ∃ es, soE n l = es := ⟨_, rfl⟩
  rw [hn] at hn1 hn2 hln HMAY0
  rw [hes] at hln HMAY0
  have HMAY := Lib.hid HMAY0
  have HN := Lib.hid hn; have HES := Lib.hid hes
  clear hc0 hN HMAY0 hn hes
  go_enter Try.func6, Try.ntmps6
  go_wp2_with fail
  refine HS.out.mono ?_
  rintro e w1 ⟨hb1, y, rfl, hr1⟩
  rw [HN.out, HES.out] at hr1
  rw [HN.out]
  obtain ⟨ea, ec, rfl, _, _, hec⟩ := Cells.of_own hr1
  have HB1 := Lib.hid hb1
  have HNU := Lib.hid (number_may w1 n 0 62 ea es ec HMAY.out hec)
  obtain ⟨L, hL⟩ : ∃ L, es.length = L := ⟨_, rfl⟩
  rw [hL] at HNU hln ⊢
  have HL := Lib.hid hL
  clear hb1 hr1 hec hL HS HN HES
  go_wp2_with fail
  refine HNU.out.mono ?_
  rintro e w2 ⟨hb2, h | h⟩
  · obtain ⟨_, rfl⟩ := h
    have HB2 := Lib.hid (HB1.out.trans (hb2.mono HB1.out.size))
    unfold clNil
    clear hb2 HNU
    go_wp2_with fail
    refine (awake20 _).mono ?_
    rintro e w9 ⟨rfl, hb9⟩
    have HB9 := Lib.hid ((HB2.out.alloc HB2.out.size _).trans (hb9.mono (HB2.out.alloc HB2.out.size _).size))
    clear hb9
    go_wp2_with fail
    go_ret
    exact ⟨rfl, HB9.out⟩
  · obtain ⟨hf, v, rfl, hcl⟩ := h
    have HFIT := Lib.hid hf
    have HB2 := Lib.hid (HB1.out.trans (hb2.mono HB1.out.size))
    obtain ⟨a1, c1, a2, c2, a3, c3, a4, c4, rfl, h1, h2, h3, h4⟩ := hcl
    have e1 : (numC n 0 es).comp.length = n := cmpZ_len _ _
    have e2 : (numC n 0 es).count.length = n := by show ((List.range n).map _).length = n; rw [List.length_map, List.length_range]
    have e3 : (numC n 0 es).edges.length = L := HL.out
    have e4 : (numC n 0 es).add.length = L := by show ((List.range es.length).map _).length = L; rw [List.length_map, List.length_range, HL.out]
    rw [e1, e2, e3, e4]
    obtain ⟨c5, hc5⟩ : ∃ c5, L + c4 = c5 := ⟨_, rfl⟩
    rw [hc5]
    obtain ⟨w3, hw3⟩ : ∃ w3, w3 = w2.alloc (.cells #[.slice a1 n c1, .slice a2 n c2, .slice a3 L c3, .slice a4 L c5] 27) := ⟨_, rfl⟩
    obtain ⟨g, hg⟩ : ∃ g, g = w2.heap.size := ⟨_, rfl⟩
    have hb3 : Below w2.heap.size w2 w3 := by rw [hw3]; exact (Below.refl _ _).alloc (Nat.le_refl _) _
    have k3 : Blk w3 g 27 #[.slice a1 n c1, .slice a2 n c2, .slice a3 L c3, .slice a4 L c5] := by rw [hw3, hg]; exact Blk.new_ _ _ _
    have H1 := Lib.hid (h1.below hb3); have H2 := Lib.hid (h2.below hb3); have H3 : Hid (Cells w3 a3 (es.flatMap keyCells)) := Lib.hid (h3.below hb3)
    have HK3 := Lib.hid k3; have HW3 := Lib.hid hw3; have HG := Lib.hid hg
    have HB3 := Lib.hid (HB2.out.trans (hb3.mono HB2.out.size))
    have p0 : w3.cell? ⟨g, 0, none⟩ = some (.slice a1 n c1) := k3.cell 0
    have p1 : w3.cell? ⟨g, 1, none⟩ = some (.slice a2 n c2) := k3.cell 1
    have p2 : w3.cell? ⟨g, 2, none⟩ = some (.slice a3 L c3) := k3.cell 2
    have p3 : w3.cell? ⟨g, 3, none⟩ = some (.slice a4 L c5) := k3.cell 3
    have pl := k3.lt
    clear hf hb2 HNU h1 h2 h3 h4 e1 e2 e3 e4 hc5 hw3 hg hb3 k3 HB2 HB1
    go_upto_region 5 with (fail)
    rw [← HW3.out]
    try rw [← HG.out]
    have hCA : ∀ v, v < n → (numC n 0 es).comp[v]? = some (cmp n (edE es) v : Int) := fun v hv => by
      show (cmpZ n (edE es))[v]? = _
      unfold cmpZ
      rw [List.getElem?_map, List.getElem?_range hv]; rfl
    have HCA := Lib.hid hCA
    have HCC : Hid (∀ v, v < n → cmp n (edE es) v < n) := Lib.hid (fun v hv => cmp_lt HMAY.out.ok hv)
    have HCT : Hid (∀ v, v < n → cmp n (edE es) v < edM n es) := Lib.hid (fun v hv => HMAY.out.top hv)
    have hed : ∀ i, i < L → ∃ a e d : Nat, es[i]? = some ((a : Int), (e : Int), (d : Int)) ∧ a < n ∧ d < n ∧ (numC n 0 es).comp[a]? = some (edF n es i : Int) ∧ (numC n 0 es).comp[d]? = some (edT n es i : Int) := fun i hi => by
      have hx : es[i]? = some (es[i]'(by rw [HL.out]; exact hi)) := List.getElem?_eq_getElem _
      obtain ⟨a, e, d, he, ha, hd, _⟩ := HMAY.out.at_ hx
      rw [he] at hx
      have h1 := edF_at n hx; have h2 := edT_at n hx
      simp only [Int.toNat_natCast] at h1 h2
      exact ⟨a, e, d, hx, ha, hd, by rw [h1]; exact hCA a ha, by rw [h2]; exact hCA d hd⟩
    have HED := Lib.hid hed
    have HUP : Hid (Up (edF n es) (edT n es) L (edM n es)) := Lib.hid (by have h := HMAY.out.up; rw [HL.out] at h; exact h)
    have HMk := Lib.hid HMAY.out.topk
    have HX2 : Hid (∀ v, v < n → (numC n 0 es).count[v]? = some (cntF (edF n es) (edT n es) L (cmp n (edE es) 0) (edM n es) (cmp n (edE es) v) : Int)) := Lib.hid (fun v hv => by
      rw [num_countO hv]
      unfold cnM cnE
      rw [HL.out])
    obtain ⟨l0, hl0, lz0, lz1, lz2⟩ := info_parts int_infoC
    clear hCA hed
    go_wp2_with fail
    go_loopg [9] n (fun mm x wr => ∃ m : Nat, mm + m = n ∧ x = .int .i64 (m : Int) ∧ wr = w3)
    case atStart => exact ⟨0, by omega, rfl, rfl⟩
    case round =>
      obtain ⟨m, hm2, rfl, rfl⟩ := hrel
      have HM := Lib.hid hm2
      clear hm2
      by_cases hm : m < n
      · obtain ⟨D, hD⟩ : ∃ D, cmp n (edE es) m = D := ⟨_, rfl⟩
        have hDn := HCA.out m hm
        have hDl := HCC.out m hm
        rw [hD] at hDn hDl
        obtain ⟨bb, bo, rfl, hbl, xd⟩ := H1.out.at_ (zV_at hDn)
        have z1 : decide ((D : Int) < 0) = false := decide_eq_false (by omega)
        have z2 : decide (n ≤ D) = false := decide_eq_false (by omega)
        clear hDn hD
        go_wp2_with fail
        go_roundg (n - (m + 1))
        case measure => have := HM.out; omega
        case rel => exact ⟨m + 1, by have := HM.out; omega, by go_num, rfl⟩
      · have hmk := run_make_n (P := Try.prog) 25 3 l0 (.int .i64 0) 1 8 Try.underlying25 hl0 lz0 lz1 lz2 .i64 .i64 n n (Nat.le_refl _) (by omega) (by omega)
        have e0 : madeCells (Value.int .i64 0).cells (n * 1) = tabI n fun _ => 0 := made_rep n _
        rw [e0] at hmk
        obtain ⟨mc, hmc⟩ : ∃ mc, cmp n (edE es) 0 = mc := ⟨_, rfl⟩
        have hDn := HCA.out 0 (by omega)
        have hmcM := HCT.out 0 (by omega)
        rw [hmc] at hDn hmcM
        have hX2 := HX2.out
        rw [hmc] at hX2
        have HX3 := Lib.hid hX2
        obtain ⟨bb, bo, rfl, hbl, xd⟩ := H1.out.at_ (zV_at hDn)
        rw [Nat.add_zero] at xd
        have k3 := HK3.out
        have p0 : wr.cell? ⟨g, 0, none⟩ = some (.slice (some ⟨bb, bo, none⟩) n c1) := k3.cell 0
        have p1 : wr.cell? ⟨g, 1, none⟩ = some (.slice a2 n c2) := k3.cell 1
        have p2 : wr.cell? ⟨g, 2, none⟩ = some (.slice a3 L c3) := k3.cell 2
        have p3 : wr.cell? ⟨g, 3, none⟩ = some (.slice a4 L c5) := k3.cell 3
        have pl := k3.lt
        have hn0 : 0 < n := by omega
        clear e0 hmc hDn hX2 k3
        go_upto_region 12 with (fail)
        go_cut [10] (fun x wc => BoxW wr n L (.slice (some ⟨bb, bo, none⟩) n c1) (.slice a2 n c2) (.slice a3 L c3) (.slice a4 L c5) x wc)
        case first =>
          go_region
          all_goals
            go_wp2_with fail
            go_meet
            case rel => exact wk_made _ _ _ _ _ _ _
        case rest =>
          obtain ⟨p, bc, rfl, hwk⟩ := hcut
          have HWC := Lib.hid (walk_okC HUP.out HMk.out (by omega) (by omega) H1.out H3.out HED.out (edM n es) wc p bc (fun _ => 0) 2000 mc (by omega) hmcM hwk)
          have k4 := HK3.out.below hwk.bel HK3.out.lt
          have q0 : wc.cell? ⟨g, 0, none⟩ = some (.slice (some ⟨bb, bo, none⟩) n c1) := k4.cell 0
          have ql := k4.lt
          have xd4 : wc.cell? ⟨bb, bo, none⟩ = some (.int .i64 (mc : Int)) := (hwk.bel.cell (p := ⟨bb, bo, none⟩) hbl).trans xd
          clear hmk hwk k4 p0 p1 p2 p3 pl xd
          go_wp2_with fail
          refine HWC.out.mono ?_
          rintro e w5 ⟨ok, f2, l2, rfl, hw5, _, hok⟩
          have HW5 := Lib.hid hw5; have HOK := Lib.hid hok
          clear hw5 hok HWC q0 ql xd4
          cases ok with
          | false =>
            go_wp2_with fail
            refine (awake20 _).mono ?_
            rintro e w9 ⟨rfl, hb9⟩
            have HB9 := Lib.hid (HB3.out.trans ((HW5.out.bel.trans (hb9.mono HW5.out.bel.size)).mono HB3.out.size))
            clear hb9
            go_wp2_with fail
            go_ret
            exact ⟨rfl, HB9.out⟩
          | true =>
            have HF := Lib.hid (HOK.out rfl)
            clear HOK
            go_wp2_with fail
            go_loopg [11] n (fun mm x wq => ∃ i : Nat, mm + i = n ∧ x = .int .i64 (i : Int) ∧ Below w5.heap.size w5 wq)
            case atStart => exact ⟨0, by omega, rfl, Below.refl _ _⟩
            case round =>
              obtain ⟨i, hm6, rfl, hb6⟩ := hrel
              have HM6 := Lib.hid hm6; have HB6 := Lib.hid hb6
              clear hm6 hb6
              by_cases hi : i < n
              · have hb36 := HW5.out.bel.trans (HB6.out.mono HW5.out.bel.size)
                obtain ⟨D, hD⟩ : ∃ D, cmp n (edE es) i = D := ⟨_, rfl⟩
                have hDn := HCA.out i hi
                have hDM := HCT.out i hi
                have hDl := HCC.out i hi
                have hX := HX3.out i hi
                rw [hD] at hDn hDM hDl hX
                have hf := HF.out D hDM
                rw [Nat.zero_add] at hf
                rw [← hf] at hX
                have hW6 := HW5.out.below HB6.out
                have xc := (hW6.cb.cell D).trans (tabI_get _ hDl)
                have xcl := hW6.cb.lt
                have xp : wr.cell? ⟨p, 4, none⟩ = some (.slice (some ⟨bc, 0, none⟩) n n) := hW6.pb.cell 4
                have xpl := hW6.pb.lt
                obtain ⟨X, hXe⟩ : ∃ X, f2 D = X := ⟨_, rfl⟩
                rw [hXe] at hX xc
                have k6 := HK3.out.below hb36 HK3.out.lt
                have r0 : wr.cell? ⟨g, 0, none⟩ = some (.slice (some ⟨bb, bo, none⟩) n c1) := k6.cell 0
                have r1 : wr.cell? ⟨g, 1, none⟩ = some (.slice a2 n c2) := k6.cell 1
                have rl := k6.lt
                obtain ⟨ab, ao, rfl, hal, xa⟩ := (H2.out.below hb36).at_ (zV_at hX)
                obtain ⟨b9, o9, e9, hl9, xd⟩ := (H1.out.below hb36).at_ (zV_at hDn)
                injection e9 with e9
                injection e9 with e9 e10 _
                subst e9 e10
                have z1 : ((X : Int) != (X : Int)) = false := by simp
                clear hb36 hD hDn hDM hX hf hW6 hXe k6
                go_wp2_with fail
                go_quiet (fail)
                go_wp2_with fail
                go_roundg (n - (i + 1))
                case measure => have := HM6.out; omega
                case rel => exact ⟨i + 1, by have := HM6.out; omega, by go_num, HB6.out.trans ((drew_below _ _).mono HB6.out.size)⟩
              · go_wp2_with fail
                refine (awake20 _).mono ?_
                rintro e w9 ⟨rfl, hb9⟩
                have HB9 := Lib.hid (HB3.out.trans ((HW5.out.bel.trans ((HB6.out.trans (hb9.mono HB6.out.size)).mono HW5.out.bel.size)).mono HB3.out.size))
                clear hb9
                go_wp2_with fail
                go_ret
                exact ⟨rfl, HB9.out⟩
end Go.Proofs.Ytbancojknahdgaa
