/- QuanRenames: the walk. NOT CLEAN: under way. -/
import Derived.Test.YtoegenacjhmicaaQuanW
namespace Go.Proofs.Ytoegenacjhmicaa
open Go.RowKit HP NP
theorem one_intW (z : Int) : ∀ u ∈ [Value.int .i64 z], u.oneCell' = true := by intro u hu; simp at hu; subst hu; rfl
theorem lit1 (w : World) (z : Int) (t : TypeId) : ∀ j u, [Value.int .i64 z][j]? = some u → (w.alloc (.cells #[.int .i64 z] t)).cell? ((⟨w.heap.size, 0, none⟩ : Addr).add j) = some u := fun j u hj => by
  obtain ⟨b, off, he, _, hh⟩ := Cells.lit w #[.int .i64 z] t (by simp)
  injection he with he
  have e := hh j u hj
  injection he with e1 e2
  subst e1 e2
  rcases Nat.eq_zero_or_pos j with h | h
  · subst h; simpa [Addr.add] using e
  · rw [show (⟨w.heap.size, 0, none⟩ : Addr).add j = ⟨w.heap.size, 0 + j, none⟩ from by simp [Addr.add]; omega]; exact e
theorem fr4 (T : Nat) : ∀ j, j < (frN T 4).length → ((frL T 4).getD j 0).toNat < 4 ∧ ((toL T 4).getD j 0).toNat < 4 := fun j hj => by
  obtain ⟨f, hf⟩ : ∃ f, (frN T 4)[j]? = some f := ⟨_, List.getElem?_eq_getElem hj⟩
  have hf4 : f < 4 := frN_lt (List.mem_of_getElem? hf)
  have h1 : (frL T 4)[j]? = some (f : Int) := by unfold frL; rw [List.getElem?_map, hf]; rfl
  have h2 : (toL T 4)[j]? = some ((T / 4 ^ f % 4 : Nat) : Int) := by unfold toL; rw [List.getElem?_map, hf]; rfl
  rw [List.getD_eq_getElem?_getD, List.getD_eq_getElem?_getD, h1, h2]
  have := Nat.mod_lt (T / 4 ^ f) (show 0 < 4 by decide)
  refine ⟨by simpa using hf4, ?_⟩
  show ((T / 4 ^ f % 4 : Nat) : Int).toNat < 4
  rw [Int.toNat_natCast]; exact this
theorem or_mN (m f : Nat) (t : Bool) (hm : m < 16) (hf : f < 4) : bits .or .i64 (anN m (2 ^ f) : Int) (wrap64 ((t.toNat : Int) * 2 ^ f)) = (mN m f t : Int) := by
  have hpf : 2 ^ f ≤ 8 := by rcases (by omega : f = 0 ∨ f = 1 ∨ f = 2 ∨ f = 3) with rfl | rfl | rfl | rfl <;> decide
  have e : ((2 : Int) ^ f) = ((2 ^ f : Nat) : Int) := by simp
  rw [e]
  unfold mN
  generalize 2 ^ f = pv at hpf
  have ha : anN m pv < 65536 := anN_lt m _ (by omega)
  cases t with
  | false =>
    have e2 : wrap64 (((false : Bool).toNat : Int) * (pv : Int)) = ((0 : Nat) : Int) := by simp [wrap64]
    rw [e2, i64_or _ 0 ha (by omega)]
    simp
  | true =>
    have e2 : wrap64 (((true : Bool).toNat : Int) * (pv : Int)) = (pv : Int) := by
      show wrap64 (1 * _) = _
      rw [Int.one_mul, w64 _ (by omega) (by omega)]
    rw [e2, i64_or _ _ ha (by omega)]
    rfl
theorem frL_ok (T : Nat) : (frL T 4).length = (frN T 4).length ∧ (toL T 4).length = (frN T 4).length ∧ (frL T 4).Nodup ∧ (∀ z ∈ frL T 4, 0 ≤ z ∧ z < 4) ∧ (∀ z ∈ toL T 4, 0 ≤ z ∧ z < 4) := by
  refine ⟨by simp [frL], by simp [toL], ?_, ?_, ?_⟩
  · unfold frL
    have := frN_nodup T 4
    unfold List.Nodup at this ⊢
    rw [List.pairwise_map]
    exact this.imp fun h e => h (by omega)
  · intro z hz
    obtain ⟨f, h1, rfl⟩ := List.mem_map.1 hz
    have := frN_lt h1
    omega
  · intro z hz
    obtain ⟨f, h1, rfl⟩ := List.mem_map.1 hz
    have := Nat.mod_lt (T / 4 ^ f) (show 0 < 4 by decide)
    omega
set_option maxRecDepth 100000 in
set_option maxHeartbeats 6400000 in
theorem quanRenames_walk (w : World) (zb : Int) (_wb : (Lit.int .i64 zb).wf = true) (zt : Int) (_wt : (Lit.int .i64 zt).wf = true) : Calls Try.prog 3 #[.int .i64 zb, .int .i64 zt] w (Fine w) := by
  obtain ⟨X, hX, hX2⟩ := low16q zb
  obtain ⟨T, hT⟩ : ∃ T, T = lo16W zt := ⟨_, rfl⟩
  have HT := Lib.hid hT
  obtain ⟨j0, hj0, yz0, yz1, yz2⟩ := info_parts int_info
  clear hT
  go_enter Try.func3, Try.ntmps3
  go_wp2_with fail
  refine (begun05 w w.heap.size 2000 (Nat.le_refl _) (by decide) (by decide)).mono ?_
  rintro e w1 ⟨p, q, qn, rfl, hs, ho, hq, hb⟩
  have H1 := Lib.hid (QSt.begin (r := 1998) hs ho hq hb (by decide))
  clear hs ho hq hb
  go_wp2_with fail
  refine (make_ok w1 _ p _ X hX2 H1.out.sto H1.out.hB H1.out.v4).mono ?_
  intro e w2 hr
  obtain ⟨S2, x, rfl, ho, hg⟩ := H1.out.made hr (by decide)
  have H2 := Lib.hid ho; have Dx := Lib.hid hg.den
  clear hr ho hg
  go_wp2_with fail
  go_loopg [10, 11, 12] 4 (fun m y1 y2 u wr => ∃ v : Nat, m + v = 4 ∧ u = .int .i64 (v : Int) ∧ Rows2 wr w2.heap.size y1 (frN T v).length ((frL T v).map fun k => .int .i64 k) y2 (frN T v).length ((toL T v).map fun k => .int .i64 k) ∧ Below w2.heap.size w2 wr)
  case atStart =>
    exact ⟨0, rfl, rfl, ⟨World.ownsRow_nil _ _ _ _, World.ownsRow_nil _ _ _ _, fun b hb => by cases hb⟩, Below.refl _ _⟩
  case round =>
    obtain ⟨v, hm, rfl, hrow, hb⟩ := hrel
    have HM := Lib.hid hm; have HROW := Lib.hid hrow; have HB := Lib.hid hb
    have hsz := hb.size
    clear hm hrow hb
    by_cases hv : v < 4
    · have hbit : bits .and .i64 (zt / 2 ^ (8 + v)) 1 = ((T.testBit (8 + v)).toNat : Int) := by rw [HT.out]; exact btv_intW zt (8 + v) (by omega)
      have h4 : bits .and .i64 (zt / 2 ^ (2 * v)) 3 = ((T / 4 ^ v % 4 : Nat) : Int) := by rw [HT.out]; exact low_four zt v hv
      have hln := frN_len T v
      have hsu := frN_succ T v
      obtain ⟨n, hn⟩ : ∃ n, n = (frN T v).length := ⟨_, rfl⟩
      rw [← hn] at HROW hln
      have HN := Lib.hid hn; have HSU := Lib.hid hsu
      clear hn hsu
      obtain ⟨g4, hg4⟩ : ∃ g, g = T / 4 ^ v % 4 := ⟨_, rfl⟩
      rw [← hg4] at h4
      have HG4 := Lib.hid hg4
      clear hg4
      cases hb : T.testBit (8 + v) with
      | true =>
        rw [hb] at hbit
        have HBT := Lib.hid hb
        clear hb
        go_wp2_with (at_builtin; refine wpList_append_sep rfl (.tmp 47) (.tmp 49) 28 rfl w2.heap.size 3 j0 (.int .i64 0) 1 8 Try.underlying28 hj0 yz0 yz1 yz2 rfl (by decide) _ n _ rfl (HROW.out.alloc_ _).one wr.heap.size 0 1 1 [.int .i64 (v : Int)] rfl rfl (lit1 _ _ _) (one_intW _) (by unfold maxLen; omega) (by omega) (by simp; omega) ?_)
        intro y3 w6 hown hg hsep
        have HR6 := Lib.hid ((HROW.out.alloc_ _).grown1 hown hg (by simpa using hsep))
        have HB6 := Lib.hid ((HB.out.alloc hsz (.cells #[.int .i64 (v : Int)] 3)).grown hg (by simp; omega) (fun j hj => ((HROW.out.alloc_ (.cells #[.int .i64 (v : Int)] 3)).one.lt j hj).1))
        have hs6 := HB6.out.size
        clear hown hg hsep
        go_wp2_with (at_builtin; refine wpList_append_sep rfl (.tmp 51) (.tmp 57) 28 rfl w2.heap.size 3 j0 (.int .i64 0) 1 8 Try.underlying28 hj0 yz0 yz1 yz2 rfl (by decide) _ n _ rfl (HR6.out.alloc_ _).two w6.heap.size 0 1 1 [.int .i64 (g4 : Int)] rfl rfl (lit1 _ _ _) (one_intW _) (by unfold maxLen; omega) (by omega) (by simp; omega) ?_)
        intro y4 w8 hown hg hsep
        have HR8 := Lib.hid ((HR6.out.alloc_ _).grown2 hown hg (by simpa using hsep))
        have HB8 := Lib.hid ((HB6.out.alloc hs6 (.cells #[.int .i64 (g4 : Int)] 3)).grown hg (by simp; omega) (fun j hj => ((HR6.out.alloc_ (.cells #[.int .i64 (g4 : Int)] 3)).two.lt j hj).1))
        clear hown hg hsep
        go_wp2_with fail
        go_roundg (4 - (v + 1))
        case measure => have := HM.out; omega
        case rel =>
          refine ⟨v + 1, by have := HM.out; omega, by go_num, ?_, HB8.out⟩
          have h8 := HR8.out
          have e1 : frL T (v + 1) = frL T v ++ [(v : Int)] := by unfold frL; rw [HSU.out, HBT.out]; simp
          have e2 : toL T (v + 1) = toL T v ++ [(g4 : Int)] := by unfold toL; rw [HSU.out, HBT.out, HG4.out]; simp
          have e3 : (frN T (v + 1)).length = n + 1 := by rw [HSU.out, HBT.out, HN.out]; simp
          rw [e1, e2, e3, List.map_append, List.map_append]
          exact h8
      | false =>
        rw [hb] at hbit
        have HE : Hid (frN T (v + 1) = frN T v) := Lib.hid (by rw [HSU.out, hb]; simp)
        clear hb
        go_wp2_with fail
        go_roundg (4 - (v + 1))
        case measure => have := HM.out; omega
        case rel => exact ⟨v + 1, by have := HM.out; omega, by go_num, by unfold frL toL; rw [HE.out, ← HN.out]; exact HROW.out, HB.out⟩
    · have hv4 : v = 4 := by have := HM.out; omega
      subst hv4
      obtain ⟨a1, c1, hy1, _, _, hc1⟩ := Cells.of_own HROW.out.one
      obtain ⟨a2, c2, hy2, _, _, hc2⟩ := Cells.of_own HROW.out.two
      subst hy1 hy2
      have HC1 := Lib.hid hc1; have HC2 := Lib.hid hc2
      have HT1 := Lib.hid (own_tbV HROW.out.one); have HT2 := Lib.hid (own_tbV HROW.out.two)
      have hln := frN_len T 4
      obtain ⟨N, hN⟩ : ∃ N, (frN T 4).length = N := ⟨_, rfl⟩
      rw [hN] at hln ⊢
      have HN := Lib.hid hN
      have H3 := Lib.hid (H2.out.below HB.out)
      clear hN hc1 hc2 hv HM
      obtain ⟨wa, hwa⟩ : ∃ wa, wa = wr := ⟨_, rfl⟩
      subst hwa
      go_wp2_with fail
      go_loopg [13, 14] 16 (fun m y u wr2 => ∃ n : Nat, m + n = 16 ∧ y = .int .i64 (wantR X (frL T 4) (toL T 4) N n : Int) ∧ u = .int .i64 (n : Int) ∧ Below wa.heap.size wa wr2)
      case atStart => exact ⟨0, rfl, rfl, rfl, Below.refl _ _⟩
      case round =>
        obtain ⟨n, hm, rfl, rfl, hb2⟩ := hrel
        have HM2 := Lib.hid hm; have HB2 := Lib.hid hb2
        clear hm hb2
        by_cases hn : n < 16
        · go_wp2_with fail
          go_loopg [15, 16] N (fun m y u wr3 => ∃ i : Nat, m + i = N ∧ y = .int .i64 (mR (frL T 4) (toL T 4) n i : Int) ∧ u = .int .i64 (i : Int) ∧ Below wa.heap.size wa wr3)
          case atStart => exact ⟨0, rfl, rfl, rfl, HB2.out⟩
          case round =>
            obtain ⟨i, hm, rfl, rfl, hb3⟩ := hrel
            have HM3 := Lib.hid hm; have HB3 := Lib.hid hb3
            clear hm hb3
            by_cases hi : i < N
            · obtain ⟨f, hf⟩ : ∃ f, (frN T 4)[i]? = some f := ⟨_, List.getElem?_eq_getElem (by rw [HN.out]; exact hi)⟩
              have hf4 : f < 4 := frN_lt (List.mem_of_getElem? hf)
              obtain ⟨g, hg⟩ : ∃ g, g = T / 4 ^ f % 4 := ⟨_, rfl⟩
              have hg4 : g < 4 := by omega
              have hcf : (frL T 4)[i]? = some (f : Int) := by unfold frL; rw [List.getElem?_map, hf]; rfl
              have hcg : (toL T 4)[i]? = some (g : Int) := by unfold toL; rw [List.getElem?_map, hf, hg]; rfl
              have gF : (frL T 4).getD i 0 = (f : Int) := by rw [List.getD_eq_getElem?_getD, hcf]; rfl
              have gG : (toL T 4).getD i 0 = (g : Int) := by rw [List.getD_eq_getElem?_getD, hcg]; rfl
              obtain ⟨xb, xo, hxa, hxl, hxc⟩ := (HC1.out.below HB3.out).at_ (k := i) (v := .int .i64 (f : Int)) (by rw [List.getElem?_map, hcf]; rfl)
              obtain ⟨yb, yo, hya, hyl, hyc⟩ := (HC2.out.below HB3.out).at_ (k := i) (v := .int .i64 (g : Int)) (by rw [List.getElem?_map, hcg]; rfl)
              obtain ⟨m, hmm⟩ : ∃ m, m = mR (frL T 4) (toL T 4) n i := ⟨_, rfl⟩
              have hm16 : m < 16 := by rw [hmm]; exact mR_lt _ _ hn i fun j hj => fr4 T j (by rw [HN.out]; omega)
              have hnx : mR (frL T 4) (toL T 4) n (i + 1) = mN m f (n.testBit g) := by
                show mN (mR (frL T 4) (toL T 4) n i) ((frL T 4).getD i 0).toNat (n.testBit ((toL T 4).getD i 0).toNat) = _
                rw [gF, gG, ← hmm]; rfl
              rw [← hmm]
              have hpf : 2 ^ f ≤ 8 := by rcases (by omega : f = 0 ∨ f = 1 ∨ f = 2 ∨ f = 3) with h | h | h | h <;> rw [h] <;> decide
              obtain ⟨pv, hpv⟩ : ∃ pv, pv = 2 ^ f := ⟨_, rfl⟩
              have e1 : wrap64 ((2 : Int) ^ f) = (pv : Int) := by rw [hpv, show ((2 : Int) ^ f) = ((2 ^ f : Nat) : Int) from by simp, w64 _ (by omega) (by omega)]
              have an1 : bits .andNot .i64 (m : Int) (pv : Int) = (anN m pv : Int) := i64_andNot m pv (Nat.lt_trans hm16 (by decide)) (by rw [hpv]; exact Nat.lt_of_le_of_lt hpf (by decide))
              obtain ⟨a, ha⟩ : ∃ a, a = anN m pv := ⟨_, rfl⟩
              rw [← ha] at an1
              obtain ⟨t, ht⟩ : ∃ t, t = n.testBit g := ⟨_, rfl⟩
              have hbv : bits .and .i64 ((n : Int) / 2 ^ g) 1 = (t.toNat : Int) := by rw [ht]; exact bit_val n g
              have hor : bits .or .i64 (a : Int) (wrap64 ((t.toNat : Int) * 2 ^ f)) = (mN m f t : Int) := by rw [ha, hpv]; exact or_mN m f t hm16 hf4
              obtain ⟨m', hm'⟩ : ∃ m', m' = mN m f t := ⟨_, rfl⟩
              rw [← hm'] at hor
              have HX : Hid (mR (frL T 4) (toL T 4) n (i + 1) = m') := Lib.hid (by rw [hnx, hm', ht])
              subst hxa hya
              clear hf hg hcf hcg gF gG hmm hnx hpf hpv ha ht hm'
              go_wp2_with fail
              go_quiet (fail)
              go_wp2_with fail
              go_roundg (N - (i + 1))
              case measure => have := HM3.out; omega
              case rel => exact ⟨i + 1, by have := HM3.out; omega, by rw [HX.out], by go_num, ⟨HB3.out.os, HB3.out.tape, HB3.out.output, HB3.out.size, HB3.out.block⟩⟩
            · have hiN : i = N := by have := HM3.out; omega
              subst hiN
              obtain ⟨m, hmm⟩ : ∃ m, m = mR (frL T 4) (toL T 4) n i := ⟨_, rfl⟩
              have hm16 : m < 16 := by rw [hmm]; exact mR_lt _ _ hn i fun j hj => fr4 T j (by rw [HN.out]; omega)
              have hbv : bits .and .i64 (zb / 2 ^ m) 1 = ((X.testBit m).toNat : Int) := by
                have e : lo16W zb = X := by have := and_low zb 16 (by decide); unfold lo16W; have h2 : bits .and .i64 zb 65535 = zb % 65536 := this; omega
                rw [← e]; exact btv_intW zb m hm16
              obtain ⟨t, ht⟩ : ∃ t, t = X.testBit m := ⟨_, rfl⟩
              rw [← ht] at hbv
              obtain ⟨o, ho⟩ : ∃ o, o = wantR X (frL T 4) (toL T 4) i n := ⟨_, rfl⟩
              have hlt : o < 2 ^ n := by rw [ho]; exact ttF_lt _ n
              rw [← hmm, ← ho]
              have HO := Lib.hid ho; have HT := Lib.hid ht; have HMM := Lib.hid hmm
              have hpn : 2 ^ n ≤ 32768 := Nat.pow_le_pow_right (n := 2) (by decide) (show n ≤ 15 by omega)
              clear ho ht hmm
              go_wp2_with fail
              go_roundg (16 - (n + 1))
              case measure => have := HM2.out; omega
              case rel =>
                refine ⟨n + 1, by have := HM2.out; omega, ?_, by go_num, HB3.out⟩
                rw [or_bit o n t hlt hn]
                have : wantR X (frL T 4) (toL T 4) i (n + 1) = o + (if t then 2 ^ n else 0) := by
                  rw [HO.out, HT.out, HMM.out]; rfl
                rw [this]
        · have hn16 : n = 16 := by have := HM2.out; omega
          subst hn16
          have H4 := Lib.hid (H3.out.below HB2.out)
          obtain ⟨l1, l2, l3, l4, l5⟩ := frL_ok T
          rw [HN.out] at l1 l2
          have HL3 := Lib.hid l3; have HL4 := Lib.hid l4; have HL5 := Lib.hid l5; have HL1 := Lib.hid l1; have HL2 := Lib.hid l2
          have HC1' := Lib.hid (HC1.out.below HB2.out); have HC2' := Lib.hid (HC2.out.below HB2.out)
          have HT1' := Lib.hid (HT1.out.below HB2.out); have HT2' := Lib.hid (HT2.out.below HB2.out)
          clear l1 l2 l3 l4 l5
          go_wp2_with fail
          refine (make_ok wr _ p _ (wantR X (frL T 4) (toL T 4) N 16) (ttF_lt _ 16) H4.out.sto H4.out.hB H4.out.v4).mono ?_
          intro e w3 hr
          have hkp : Kp TN w.heap.size wr w3 := by obtain ⟨_, _, h3, _⟩ := hr; exact h3
          have HC1'' := Lib.hid (HC1'.out.kp HT1'.out hkp rfl); have HC2'' := Lib.hid (HC2'.out.kp HT2'.out hkp rfl)
          obtain ⟨S3, y, rfl, ho, hg⟩ := H4.out.made hr (by decide)
          have H5 := Lib.hid ho; have Dy := Lib.hid hg.den
          replace Dx := Lib.hid (hg.lift Dx.out)
          clear hr ho hg hkp
          have HRN := Lib.hid (qrn_ok w3 _ p q qn S3 H5.out.sto H5.out.ops H5.out.qu H5.out.hB x Dx.out.is a1 a2 (frL T 4) (toL T 4) c1 c2 (by rw [HL1.out]; omega) (by rw [HL1.out, HL2.out]) HC1''.out HC2''.out
            (by rw [List.all_eq_true]; intro z hz; have := HL4.out z hz; have := H5.out.v4; unfold vOk; simp; omega)
            (by rw [List.all_eq_true]; intro z hz; have := HL5.out z hz; have := H5.out.v4; unfold vOk; simp; omega) HL3.out 16 240 (by rw [H5.out.v4]; decide) (by rw [H5.out.v4]; decide))
          rw [HL1.out, HL2.out] at HRN
          go_wp2_with fail
          refine HRN.out.mono ?_
          intro e w4 hr
          obtain ⟨S4, nn, rfl, ho, hg⟩ := H5.out.got hr (by decide)
          have H6 := Lib.hid ho
          have Dn := Lib.hid (hg.den.cong (g' := tbl (wantR X (frL T 4) (toL T 4) N 16)) (fun ρ => rnT_tbl Dx.out (frL T 4) (toL T 4) N (fun j hj => fr4 T j (by rw [HN.out]; exact hj)) ρ))
          replace Dy := Lib.hid (hg.lift Dy.out)
          clear hr ho hg
          obtain rfl : y = nn := Den.same H6.out.wf Dy.out Dn.out
          go_wp2_with fail
          refine (awake05 w4).mono ?_
          rintro e w5 ⟨rfl, hb5⟩
          have H7 := Lib.hid (H6.out.below hb5)
          clear hb5
          go_wp2_with fail
          go_ret
          exact ⟨rfl, H7.out.toOSt.fin⟩
end Go.Proofs.Ytoegenacjhmicaa
