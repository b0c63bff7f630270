/- CloneDoubles' walk; clone.Number where all may be numbered (number_may). -/
import Derived.Test.YtbancojknahdgaaCloneJ
namespace Go.Proofs.Ytbancojknahdgaa
open Go.RowKit CP
def MayPost (w : World) (k mn : Nat) (es : List (Int × Int × Int)) (wn : Nat) (e : Ending) (w' : World) : Prop :=
  Below w.heap.size w w' ∧ ((fitC k mn es wn = false ∧ e = .returned (.tuple #[clNil, .int .i64 200])) ∨ (fitC k mn es wn = true ∧ ∃ v, e = .returned (.tuple #[v, .int .i64 0]) ∧ ClAt w' v (numC k mn es)))
theorem number_may (w : World) (k mn wn : Nat) (ea : Option Addr) (es : List (Int × Int × Int)) (c : Nat) (hM : MayN k mn es wn) (hc : Cells w ea (es.flatMap keyCells)) :
    Calls Try.prog 17 #[.int .i64 (k : Int), .int .i64 (mn : Int), .slice ea es.length c, .int .i64 (wn : Int)] w (MayPost w k mn es wn) := by
  refine (number_ok w (k : Int) (mn : Int) ea es c (wn : Int) (by have := hM.len; unfold maxLen; omega) hc).mono ?_
  rintro e w' ⟨hb, h⟩
  refine ⟨hb, ?_⟩
  rcases h with ⟨h, _⟩ | ⟨k2, mn2, wn2, e1, e2, e3, _, h⟩
  · rw [mayN_to hM] at h; cases h
  · obtain rfl : k = k2 := by omega
    obtain rfl : mn = mn2 := by omega
    obtain rfl : wn = wn2 := by omega
    exact h
theorem edge_lits (w : World) (a b d : Int) (t : TypeId) : ∀ (j : Nat) (u : Value), [Value.int .i64 a, Value.int .i64 b, Value.int .i64 d][j]? = some u → (w.alloc (.cells #[.int .i64 a, .int .i64 b, .int .i64 d] t)).cell? ((⟨w.heap.size, 0, none⟩ : Addr).add j) = some u := by
  intro j u hj
  match j, hj with
  | 0, hj => simp at hj; subst hj; exact World.cell?_alloc_new ..
  | 1, hj => simp at hj; subst hj; exact World.cell?_alloc_new ..
  | 2, hj => simp at hj; subst hj; exact World.cell?_alloc_new ..
theorem edge_ones (a b d : Int) : ∀ u ∈ [Value.int .i64 a, Value.int .i64 b, Value.int .i64 d], u.oneCell' = true := by intro u hu; simp at hu; rcases hu with rfl | rfl | rfl <;> rfl
theorem edges_snoc (l : List (Int × Int × Int)) (a b d : Int) : l.flatMap keyCells ++ [.int .i64 a, .int .i64 b, .int .i64 d] = (l ++ [(a, b, d)]).flatMap keyCells := by
  rw [List.flatMap_append]; rfl
theorem pow_p61 {k : Nat} (h : k ≤ 61) : 2 ^ k < 9223372036854775808 := by
  have h := Nat.pow_le_pow_right (show 0 < 2 by decide) h
  have e : (2 : Nat) ^ 61 = 2305843009213693952 := by decide
  omega
theorem wrap_p61 {k : Nat} (h : k ≤ 61) : IntKind.i64.wrap ((2 ^ k : Nat) : Int) = ((2 ^ k : Nat) : Int) := wrap_nat (pow_p61 h)
set_option maxRecDepth 100000 in
set_option maxHeartbeats 6400000 in
theorem cloneDoubles_walk (w : World) (z : Int) (_zw : (Lit.int .i64 z).wf = true) (y : Int) (_yw : (Lit.int .i64 y).wf = true) :
    Calls Try.prog 7 #[.int .i64 z, .int .i64 y] w (FineC w) := by
  have hz1 := b8_and z
  have hz2 := b8_lt z
  have hy1 := b8_and y
  have hy2 := b8_lt y
  obtain ⟨Z, hZ⟩ : ∃ Z, b8 z = Z := ⟨_, rfl⟩
  obtain ⟨Y, hY⟩ : ∃ Y, b8 y = Y := ⟨_, rfl⟩
  rw [hZ] at hz1 hz2
  rw [hY] at hy1 hy2
  obtain ⟨n, hn⟩ : ∃ n, 1 + Z % 66 = n := ⟨_, rfl⟩
  obtain ⟨wd, hwd⟩ : ∃ wd, 1 + Y % 62 = wd := ⟨_, rfl⟩
  have hn1 : 1 ≤ n := by omega
  have hn2 : n ≤ 66 := by omega
  have hw1 : 1 ≤ wd := by omega
  have hw2 : wd ≤ 62 := by omega
  have hne : (1 : Int) + (Z : Int) % 66 = (n : Int) := by omega
  have hwe : (1 : Int) + (Y : Int) % 62 = (wd : Int) := by omega
  clear hZ hY hn hwd
  have HMAY := Lib.hid (dbl_may (wd := wd) (n := n) (by omega) hn2 hw1 hw2)
  obtain ⟨j0, hj0, yz0, yz1, yz2⟩ := info_parts edge_info
  go_enter Try.func7, Try.ntmps7
  go_wp2_with fail
  go_loopg [7, 8] (n - 1) (fun mm x7 x8 wr => ∃ i : Nat, mm + i = n - 1 ∧ x8 = .int .i64 (i : Int) ∧ Below w.heap.size w wr ∧ wr.ownsRow w.heap.size 50 3 x7 (2 * i) ((dblL i).flatMap keyCells))
  case atStart => exact ⟨0, by omega, rfl, Below.refl _ _, World.ownsRow_nil _ _ _ _⟩
  case round =>
    obtain ⟨i, hm2, rfl, hb, hrow⟩ := hrel
    have HM := Lib.hid hm2; have HB := Lib.hid hb
    have hws := hb.size
    by_cases hi : i + 1 < n
    · obtain ⟨q, hq⟩ : ∃ q, 2 * i = q := ⟨_, rfl⟩
      rw [hq] at hrow
      have hqb : q ≤ 200 := by omega
      have HROW := Lib.hid hrow; have HQ := Lib.hid hq
      clear hm2 hb hrow hq
      go_wp2_with (at_builtin; refine wpList_append_sep rfl (.tmp 26) (.tmp 33) 23 rfl w.heap.size 50 j0 (.agg #[.int .i64 0, .int .i64 0, .int .i64 0]) 3 24 Try.underlying23 hj0 yz0 yz1 yz2 rfl (by decide) _ q _ rfl (HROW.out.alloc _) wr.heap.size 0 1 1 [.int .i64 (i : Int), .int .i64 (2 * (i : Int)), .int .i64 ((i : Int) + 1)] rfl rfl (edge_lits _ _ _ _ _) (edge_ones _ _ _) (by unfold maxLen; omega) (by omega) (by simp; omega) ?_)
      intro y3 w3 hown3 hg3 hs3
      clear hs3
      have hb3 : Below w.heap.size w w3 := (HB.out.alloc hws (.cells #[.int .i64 (i : Int), .int .i64 (2 * (i : Int)), .int .i64 ((i : Int) + 1)] 50)).grown hg3 (by simp; omega) (fun j hj => (HROW.out.lt j hj).1)
      have HR3 := Lib.hid hown3; have HB3 := Lib.hid hb3
      have hws3 := hb3.size
      clear hown3 hg3 hb3
      go_wp2_with (at_builtin; refine wpList_append_sep rfl (.tmp 35) (.tmp 43) 23 rfl w.heap.size 50 j0 (.agg #[.int .i64 0, .int .i64 0, .int .i64 0]) 3 24 Try.underlying23 hj0 yz0 yz1 yz2 rfl (by decide) y3 (q + 1) _ rfl (HR3.out.alloc _) w3.heap.size 0 1 1 [.int .i64 (i : Int), .int .i64 (2 * (i : Int) + 1), .int .i64 ((i : Int) + 1)] rfl rfl (edge_lits _ _ _ _ _) (edge_ones _ _ _) (by unfold maxLen; omega) (by omega) (by simp; omega) ?_)
      intro y4 w4 hown4 hg4 hs4
      clear hs4
      have hb4 : Below w.heap.size w w4 := (HB3.out.alloc hws3 (.cells #[.int .i64 (i : Int), .int .i64 (2 * (i : Int) + 1), .int .i64 ((i : Int) + 1)] 50)).grown hg4 (by simp; omega) (fun j hj => (HR3.out.lt j hj).1)
      have HR4 : Hid (w4.ownsRow w.heap.size 50 3 y4 (2 * (i + 1)) ((dblL (i + 1)).flatMap keyCells)) := Lib.hid (by
        have e : (dblL (i + 1)).flatMap keyCells = (dblL i).flatMap keyCells ++ [.int .i64 (i : Int), .int .i64 (2 * (i : Int)), .int .i64 ((i : Int) + 1), .int .i64 (i : Int), .int .i64 (2 * (i : Int) + 1), .int .i64 ((i : Int) + 1)] := by
          rw [dblL_next, List.flatMap_append]; simp [dblP, keyCells]
        rw [e, show 2 * (i + 1) = q + 1 + 1 from by have := HQ.out; omega]
        simpa using hown4)
      have HB4 := Lib.hid hb4
      clear hown4 hg4 hb4 HR3 HB3
      go_wp2_with fail
      go_roundg (n - 1 - (i + 1))
      case measure => have := HM.out; omega
      case rel => exact ⟨i + 1, by have := HM.out; omega, by go_num, HB4.out, HR4.out⟩
    · have hin : i = n - 1 := by omega
      have hrow2 := hrow
      rw [hin] at hrow2
      rw [show 2 * (n - 1) = (dblL (n - 1)).length from (dblL_len _).symm] at hrow2
      obtain ⟨ea, ec, rfl, _, _, hec⟩ := Cells.of_own hrow2
      have HEC := Lib.hid hec
      have hll := dblL_len (n - 1)
      obtain ⟨w1, hw1⟩ : ∃ w1, w1 = wr := ⟨_, rfl⟩
      rw [← hw1] at HEC HB ⊢
      have HNU := Lib.hid (number_may w1 n 0 wd ea (dblL (n - 1)) ec HMAY.out HEC.out)
      obtain ⟨ln, hln⟩ : ∃ ln, (dblL (n - 1)).length = ln := ⟨_, rfl⟩
      rw [hln] at HNU ⊢
      have hib : i ≤ 66 := by omega
      clear hm2 hb hrow hin hrow2 hec hll hw1 hln
      go_wp2_with fail
      refine HNU.out.mono ?_
      rintro e w2 ⟨hb2, h | h⟩
      · obtain ⟨hf, rfl⟩ := h
        have hnw : wd < n := by
          rcases Nat.lt_or_ge wd n with h | h
          · exact h
          · rw [dbl_fit (by omega) hn2 h] at hf; cases hf
        have HB2 := Lib.hid (HB.out.trans (hb2.mono HB.out.size))
        unfold clNil
        clear hf hb2 HNU
        go_wp2_with fail
        refine (awake20 _).mono ?_
        rintro e w9 ⟨rfl, hb9⟩
        have HB9 := Lib.hid ((HB2.out.alloc HB2.out.size _).trans (hb9.mono (HB2.out.alloc HB2.out.size _).size))
        clear hb9
        go_wp2_with fail
        go_ret
        exact ⟨rfl, HB9.out⟩
      · obtain ⟨hf, v, rfl, hcl⟩ := h
        have hnw : n ≤ wd := by
          rcases Nat.lt_or_ge wd n with h | h
          · rw [dbl_nofit (by omega) hn2 h] at hf; cases hf
          · exact h
        have HB2 := Lib.hid (HB.out.trans (hb2.mono HB.out.size))
        obtain ⟨a1, c1, a2, c2, a3, c3, a4, c4, rfl, h1, h2, _, _⟩ := hcl
        have e1 : (numC n 0 (dblL (n - 1))).comp.length = n := cmpZ_len _ _
        have e2 : (numC n 0 (dblL (n - 1))).count.length = n := by show ((List.range n).map _).length = n; rw [List.length_map, List.length_range]
        rw [e1, e2]
        obtain ⟨l3, hl3⟩ : ∃ l3, (numC n 0 (dblL (n - 1))).edges.length = l3 := ⟨_, rfl⟩
        obtain ⟨l4, hl4⟩ : ∃ l4, (numC n 0 (dblL (n - 1))).add.length = l4 := ⟨_, rfl⟩
        rw [hl3, hl4]
        obtain ⟨c4, hc4⟩ : ∃ k, l4 + c4 = k := ⟨_, rfl⟩
        rw [hc4]
        clear hc4
        have HC1 : Hid (∀ v, v < n → (numC n 0 (dblL (n - 1))).comp[v]? = some (v : Int)) := Lib.hid (fun v hv => by
          show (cmpZ n (edE (dblL (n - 1))))[v]? = _
          unfold cmpZ
          rw [List.getElem?_map, List.getElem?_range hv]
          show some ((cmp n (edE (dblL (n - 1))) v : Nat) : Int) = _
          rw [dbl_cmp (by omega) hv])
        have HC2 : Hid (∀ v, v < n → (numC n 0 (dblL (n - 1))).count[v]? = some ((2 ^ v : Nat) : Int)) := Lib.hid (fun v hv => by
          show ((List.range n).map _)[v]? = _
          rw [List.getElem?_map, List.getElem?_range hv]
          show some ((cnE n 0 (dblL (n - 1)) (cmp n (edE (dblL (n - 1))) v) : Nat) : Int) = _
          rw [dbl_cmp (by omega) hv, dbl_cn (by omega) hn2 v hv])
        obtain ⟨w3, hw3⟩ : ∃ w3, w3 = w2.alloc (.cells #[.slice a1 n c1, .slice a2 n c2, .slice a3 l3 c3, .slice a4 l4 c4] 27) := ⟨_, rfl⟩
        obtain ⟨g, hg⟩ : ∃ g, g = w2.heap.size := ⟨_, rfl⟩
        have hb3 : Below w2.heap.size w2 w3 := by rw [hw3]; exact (Below.refl _ _).alloc (Nat.le_refl _) _
        have k3 : Blk w3 g 27 #[.slice a1 n c1, .slice a2 n c2, .slice a3 l3 c3, .slice a4 l4 c4] := by rw [hw3, hg]; exact Blk.new_ _ _ _
        have p1 : w3.cell? ⟨g, 1, none⟩ = some (.slice a2 n c2) := k3.cell 1
        have pl := k3.lt
        have H1 := Lib.hid (h1.below hb3); have H2 := Lib.hid (h2.below hb3)
        have HK3 := Lib.hid k3; have HW3 := Lib.hid hw3; have HG := Lib.hid hg
        have HB3 := Lib.hid (HB2.out.trans (hb3.mono HB2.out.size))
        clear hf hb2 HNU h1 h2 e1 e2 hl3 hl4 hw3 hg hb3 k3 HB2
        go_upto_region 9 with (fail)
        rw [← HW3.out]
        try rw [← HG.out]
        go_wp2_with fail
        clear p1 pl
        go_loopg [11] n (fun mm x wr => ∃ k : Nat, mm + k = n ∧ x = .int .i64 (k : Int) ∧ Below w3.heap.size w3 wr)
        case atStart => exact ⟨0, by omega, rfl, Below.refl _ _⟩
        case round =>
          obtain ⟨k, hm3, rfl, hb4⟩ := hrel
          have HM3 := Lib.hid hm3; have HB4 := Lib.hid hb4
          clear hm3 hb4
          by_cases hk : k < n
          · obtain ⟨b1, o1, rfl, hl1, x1⟩ := (H1.out.below HB4.out).at_ (zV_at (HC1.out k hk))
            obtain ⟨b2, o2, rfl, hl2, x2⟩ := (H2.out.below HB4.out).at_ (zV_at (HC2.out k hk))
            have k4 := HK3.out.below HB4.out HK3.out.lt
            have p0 : wr.cell? ⟨g, 0, none⟩ = some (.slice (some ⟨b1, o1, none⟩) n c1) := k4.cell 0
            have p1 : wr.cell? ⟨g, 1, none⟩ = some (.slice (some ⟨b2, o2, none⟩) n c2) := k4.cell 1
            have pl := k4.lt
            have hk61 : (k : Int) ≤ 61 := by omega
            have hsh := wrap_pow (k : Int) (by omega) hk61
            rw [Int.toNat_natCast] at hsh
            have hpw : (2 : Int) ^ k = ((2 ^ k : Nat) : Int) := by simp
            rw [hpw] at hsh
            obtain ⟨P, hP⟩ : ∃ P, 2 ^ k = P := ⟨_, rfl⟩
            rw [hP] at hsh hpw x2
            have e1 : ((P : Int) != (P : Int)) = false := by simp
            have e2 : ((k : Int) != (k : Int)) = false := by simp
            have hsh2 : IntKind.i64.wrap (P : Int) = (P : Int) := by rw [← hP]; exact wrap_p61 (by omega)
            clear hP k4
            go_wp2_with fail
            go_quiet (fail)
            go_wp2_with fail
            go_roundg (n - (k + 1))
            case measure => have := HM3.out; omega
            case rel => exact ⟨k + 1, by have := HM3.out; omega, by go_num, HB4.out.trans ((drew_below _ _).mono HB4.out.size)⟩
          · go_wp2_with fail
            refine (awake20 _).mono ?_
            rintro e w9 ⟨rfl, hb9⟩
            have HB9 := Lib.hid (HB4.out.trans (hb9.mono HB4.out.size))
            clear hb9
            go_wp2_with fail
            go_ret
            exact ⟨rfl, HB3.out.trans (HB9.out.mono HB3.out.size)⟩
end Go.Proofs.Ytbancojknahdgaa
