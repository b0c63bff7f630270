/- LayTurned: the walk. -/
import Derived.Test.YtedfakpmdncnmaaDoorLayD
namespace Go.Proofs.YtedfakpmdncnmaaDoor
open Go.RowKit LY
theorem dom_info : (Tryd.prog.info? 26).map (fun i => (i.zero, i.size, i.bytes)) = some (some (.agg #[.string ByteArray.empty, .int .i64 0]), 2, 24) := by kernel_rfl
theorem dom_lits (w : World) (s : ByteArray) (z : Int) (t : TypeId) : ∀ j u, [Value.string s, .int .i64 z][j]? = some u → (w.alloc (.cells #[.string s, .int .i64 z] t)).cell? ((⟨w.heap.size, 0, none⟩ : Addr).add j) = some u := fun j u hj => by
  obtain ⟨b, off, he, _, hh⟩ := Cells.lit w #[.string s, .int .i64 z] t (by simp)
  injection he with he
  have e := hh j u hj
  injection he with e1 e2
  subst e1 e2
  rcases Nat.eq_zero_or_pos j with h | h
  · subst h; simpa [Addr.add] using e
  · rw [show (⟨w.heap.size, 0, none⟩ : Addr).add j = ⟨w.heap.size, 0 + j, none⟩ from by simp [Addr.add]; omega]; exact e
theorem dom_ones (s : ByteArray) (z : Int) : ∀ u ∈ [Value.string s, .int .i64 z], u.oneCell' = true := by
  intro u hu
  rcases List.mem_cons.1 hu with rfl | hu
  · rfl
  · rw [List.mem_singleton.1 hu]; rfl
theorem and_low (x : Int) (j : Nat) (hj : j ≤ 62) : bits .and .i64 x ((2 ^ j - 1 : Nat) : Int) = x % ((2 ^ j : Nat) : Int) := by
  have hp : 0 < 2 ^ j := Nat.two_pow_pos j
  have hle : 2 ^ j ≤ 2 ^ 62 := Nat.pow_le_pow_right (by decide) hj
  have hlt : 2 ^ j - 1 < 2 ^ 64 := by
    have : (2 : Nat) ^ 62 < 2 ^ 64 := by decide
    omega
  show IntKind.i64.wrap ((BitVec.ofInt 64 x &&& BitVec.ofInt 64 ((2 ^ j - 1 : Nat) : Int)).toNat : Int) = _
  rw [BitVec.toNat_and, BitVec.ofInt_natCast, BitVec.toNat_ofNat, Nat.mod_eq_of_lt hlt, Nat.and_two_pow_sub_one_eq_mod, BitVec.toNat_ofInt]
  have e : (((x % ((2 ^ 64 : Nat) : Int)).toNat % 2 ^ j : Nat) : Int) = x % ((2 ^ j : Nat) : Int) := by
    have h0 : 0 ≤ x % ((2 ^ 64 : Nat) : Int) := Int.emod_nonneg _ (by decide)
    rw [Int.natCast_emod, Int.toNat_of_nonneg h0]
    apply Int.emod_emod_of_dvd
    have : (2 : Nat) ^ j ∣ 2 ^ 64 := Nat.pow_dvd_pow 2 (by omega)
    exact Int.natCast_dvd_natCast.2 this
  rw [e, IntKind.wrap_i64]
  have h1 : 0 ≤ x % ((2 ^ j : Nat) : Int) := Int.emod_nonneg _ (by omega)
  have h2 : x % ((2 ^ j : Nat) : Int) < ((2 ^ j : Nat) : Int) := Int.emod_lt_of_pos _ (by omega)
  have h3 : ((2 ^ j : Nat) : Int) ≤ ((2 ^ 62 : Nat) : Int) := by omega
  have h4 : ((2 ^ 62 : Nat) : Int) = 4611686018427387904 := rfl
  omega
theorem low7 (z : Int) : ∃ a : Nat, bits .and .i64 z 255 = (a : Int) ∧ a < 256 := ⟨(z % 256).toNat, by rw [show bits .and .i64 z 255 = z % 256 from and_low z 8 (by decide)]; omega, by omega⟩
theorem rot_take {doms : List Dm} {t i : Nat} (ht : t < doms.length) (hi : i < doms.length) : (rotL doms t).take (i + 1) = (rotL doms t).take i ++ [at_ doms (sg doms.length t i)] := by
  rw [List.take_add_one, rotL_at ht hi, at_get (sg_lt ht hi)]; rfl
theorem dom_len (l : List Dm) : (l.flatMap domCells).length = l.length * 2 := by
  induction l with
  | nil => rfl
  | cons x l ih => rw [List.flatMap_cons, List.length_append, ih, List.length_cons]; show 2 + _ = _; omega
set_option maxRecDepth 100000 in
set_option maxHeartbeats 12800000 in
theorem layTurned_walk (w : World) (hML : MaxL w) (a : Option Addr) (c : Nat) (doms : List Dm) (hlc : doms.length ≤ c) (hcm : c ≤ maxLen) (hc : Cells w a (doms.flatMap domCells)) (s : ByteArray) (hs : s.size ≤ maxLen) (z : Int) (_zw : (Lit.int .i64 z).wf = true) :
    Calls Tryd.prog 3 #[.slice a doms.length c, .string s, .int .i64 z] w (Fine7 w) := by
  obtain ⟨N, hN⟩ : ∃ N, doms.length = N := ⟨_, rfl⟩
  have HFW := Lib.hid (few_ok w a doms c (Nat.le_trans hlc hcm) hc)
  have HC := Lib.hid hc; have HN := Lib.hid hN; have HML := Lib.hid hML
  unfold maxLen at hcm hs
  obtain ⟨sz, hsz⟩ : ∃ sz, s.size = sz := ⟨_, rfl⟩
  have HSZ := Lib.hid hsz
  rw [hsz] at hs
  rw [hN] at hlc HFW ⊢
  clear hc hN hML
  obtain ⟨fb, hfb⟩ : ∃ fb, fewB doms = fb := ⟨_, rfl⟩
  rw [hfb] at HFW
  cases fb with
  | false =>
    clear hfb
    go_enter Tryd.func3, Tryd.ntmps3
    go_wp2_with fail
    refine HFW.out.mono ?_
    rintro e w' ⟨rfl, rfl⟩
    go_wp2_with fail
    refine (awake7 w HML.out).mono ?_
    rintro e w2 ⟨rfl, hb2⟩
    have HB2 := Lib.hid hb2
    clear hb2
    go_wp2_with fail
    go_ret
    exact ⟨rfl, HB2.out⟩
  | true =>
  obtain ⟨hN40, hnm⟩ := few_out hfb
  rw [HN.out] at hN40
  have HNM : Hid (∀ d ∈ doms, d.name.size ≤ maxLen) := Lib.hid (fun d hd => by have := hnm d hd; unfold maxLen; omega)
  clear hfb hnm
  by_cases hN0 : N = 0
  · have d0 : ((N : Int) == 0) = true := by rw [beq_iff_eq]; omega
    clear hN0
    go_enter Tryd.func3, Tryd.ntmps3
    go_wp2_with fail
    refine HFW.out.mono ?_
    rintro e w' ⟨rfl, rfl⟩
    go_wp2_with fail
    refine (awake7 w HML.out).mono ?_
    rintro e w2 ⟨rfl, hb2⟩
    have HB2 := Lib.hid hb2
    clear hb2
    go_wp2_with fail
    go_ret
    exact ⟨rfl, HB2.out⟩
  have d0 : ((N : Int) == 0) = false := by rw [beq_eq_false_iff_ne]; omega
  by_cases hs2 : 1024 < sz
  · have d1 : decide ((1024 : Int) < (sz : Int)) = true := decide_eq_true (by omega)
    have d1' : decide (1024 < sz) = true := decide_eq_true hs2
    clear hs2
    go_enter Tryd.func3, Tryd.ntmps3
    go_wp2_with fail
    refine HFW.out.mono ?_
    rintro e w' ⟨rfl, rfl⟩
    go_wp2_with fail
    refine (awake7 w HML.out).mono ?_
    rintro e w2 ⟨rfl, hb2⟩
    have HB2 := Lib.hid hb2
    clear hb2
    go_wp2_with fail
    go_ret
    exact ⟨rfl, HB2.out⟩
  have d1 : decide ((1024 : Int) < (sz : Int)) = false := decide_eq_false (by omega)
  have d1' : decide (1024 < sz) = false := decide_eq_false hs2
  obtain ⟨t0, ht0, ht1⟩ := low7 z
  obtain ⟨T, hT⟩ : ∃ T, t0 % N = T := ⟨_, rfl⟩
  have hTN : T < N := by rw [← hT]; exact Nat.mod_lt _ (by omega)
  have hmod : Hid (∀ i, i < N → (i + t0) % N = sg N T i) := Lib.hid (fun i hi => by rw [← hT]; exact sg_mod (by omega) hi)
  have HTN : Hid (T < doms.length) := Lib.hid (by rw [HN.out]; exact hTN)
  obtain ⟨R, hR⟩ : ∃ R, rotL doms T = R := ⟨_, rfl⟩
  have HR := Lib.hid hR
  have HRL : Hid (R.length = N) := Lib.hid (by rw [← hR, rotL_len doms (by rw [HN.out]; omega)]; exact HN.out)
  have HRNM : Hid (∀ d ∈ R, d.name.size ≤ maxLen) := Lib.hid (fun d hd => HNM.out d ((rotL_perm doms T).mem_iff.1 (by rw [hR]; exact hd)))
  have hN1 : 0 < N := by omega
  obtain ⟨j0, hj0, yz0, yz1, yz2⟩ := info_parts dom_info
  clear hT hR hs2 hN0
  go_enter Tryd.func3, Tryd.ntmps3
  go_wp2_with fail
  refine HFW.out.mono ?_
  rintro e w' ⟨rfl, rfl⟩
  clear HFW
  go_wp2_with fail
  go_loopg [8, 9] N (fun mm u x wr => ∃ i : Nat, mm + i = N ∧ x = .int .i64 (i : Int) ∧ Below w.heap.size w wr ∧ wr.ownsRow w.heap.size 26 2 u i ((R.take i).flatMap domCells))
  case atStart => exact ⟨0, by omega, rfl, Below.refl _ _, World.ownsRow_nil _ _ _ _⟩
  case round =>
    obtain ⟨i, hm, rfl, hb, hr⟩ := hrel
    have HM := Lib.hid hm; have HB := Lib.hid hb; have HRW := Lib.hid hr; have hs3 := hb.size
    clear hm hb hr
    by_cases hi : i < N
    · obtain ⟨q, hq⟩ : ∃ q, i + t0 = q := ⟨_, rfl⟩
      have hqi : (i : Int) + (t0 : Int) = (q : Int) := by omega
      have hq3 : q ≤ 296 := by omega
      obtain ⟨k, hk⟩ : ∃ k, q % N = k := ⟨_, rfl⟩
      have hkN : k < N := by rw [← hk]; exact Nat.mod_lt _ hN1
      have ht : (q : Int).tmod (N : Int) = (k : Int) := by rw [← hk]; rfl
      have hn0 : ¬ N = 0 := by omega
      have hks : k = sg N T i := by rw [← hk, ← hq]; exact hmod.out i hi
      have hd := at_get (doms := doms) (i := k) (by rw [HN.out]; exact hkN)
      obtain ⟨d, hde⟩ : ∃ d, at_ doms k = d := ⟨_, rfl⟩
      have HTK : Hid ((R.take (i + 1)).flatMap domCells = (R.take i).flatMap domCells ++ domCells d) := Lib.hid (by
        rw [← HR.out, rot_take HTN.out (by rw [HN.out]; exact hi), HN.out, ← hks, hde, List.flatMap_append]
        simp)
      rw [hde] at hd
      obtain ⟨nme, siz⟩ := d
      obtain ⟨b0, o0, rfl, hb0, k0, k1⟩ := (HC.out.below HB.out).dom hd
      clear hq hk hd hde hks
      go_wp2_with (at_builtin; refine wpList_append_sep rfl (.tmp 35) (.tmp 45) 22 rfl w.heap.size 26 j0 (.agg #[.string ByteArray.empty, .int .i64 0]) 2 24 Tryd.underlying22 hj0 yz0 yz1 yz2 rfl (by decide) u8 i _ rfl (HRW.out.alloc _) wr.heap.size 0 1 1 [.string nme, .int .i64 siz] rfl rfl (dom_lits _ _ _ _) (dom_ones _ _) (by unfold maxLen; omega) (by omega) (by simp; omega) ?_)
      intro y4 w4 hown4 hg4 hsep4
      have HR4 : Hid (w4.ownsRow w.heap.size 26 2 y4 (i + 1) ((R.take (i + 1)).flatMap domCells)) := Lib.hid (by rw [HTK.out]; exact hown4)
      have HB4 : Hid (Below w.heap.size w w4) := Lib.hid ((HB.out.alloc hs3 (.cells #[.string nme, .int .i64 siz] 26)).grown hg4 (Nat.le_trans hs3 (Nat.le_of_lt (by simp))) (fun j hj => (HRW.out.lt j hj).1))
      clear hown4 hg4 hsep4
      go_wp2_with fail
      go_roundg (N - (i + 1))
      case measure => have := HM.out; omega
      case rel => exact ⟨i + 1, by have := HM.out; omega, by go_num, HB4.out, HR4.out⟩
    · have hiN : i = N := by have := HM.out; omega
      subst hiN
      obtain ⟨W1, hren⟩ : ∃ x, x = wr := ⟨_, rfl⟩
      subst hren
      have hrw := HRW.out
      rw [List.take_of_length_le (by rw [HRL.out]; exact Nat.le_refl _)] at hrw
      obtain ⟨ra, rc, rfl, _, _, hrc⟩ := Cells.of_own hrw
      have HRC := Lib.hid hrc
      have HPA := Lib.hid (place_ok W1 a doms c s (by rw [HN.out]; exact hN40) (HC.out.below HB.out) HNM.out (by rw [HSZ.out]; have := of_decide_eq_false d1'; omega) (HML.out.below HB.out))
      rw [HN.out] at HPA
      clear hrw hrc HRW
      go_wp2_with fail
      refine HPA.out.mono ?_
      rintro e W2 ⟨hb2, h⟩
      have HB2 := Lib.hid (HB.out.trans (hb2.mono HB.out.size))
      have HPB := Lib.hid (place_ok W2 ra R rc s (by rw [HRL.out]; exact hN40) (HRC.out.below hb2) HRNM.out (by rw [HSZ.out]; have := of_decide_eq_false d1'; omega) (HML.out.below HB2.out))
      rw [HRL.out] at HPB
      have HPM : Hid (mayB R = mayB doms) := Lib.hid (by rw [← HR.out]; exact may_perm (rotL_perm doms T))
      clear HPA
      rcases h with ⟨hm, rfl⟩ | ⟨hm, hno, rfl⟩ | ⟨hm, gs, oba, ho, rfl, hra⟩
      · have HMAY : Hid (mayB R = false) := Lib.hid (by rw [HPM.out]; exact hm)
        clear hm hb2
        go_wp2_with fail
        refine HPB.out.mono ?_
        rintro e W3 ⟨hb3, ⟨_, rfl⟩ | ⟨h, _⟩ | ⟨h, _⟩⟩
        · have HB3 := Lib.hid (HB2.out.trans (hb3.mono HB2.out.size))
          clear hb3 HPB
          go_wp2_with fail
          go_loopg [14] 0 (fun mm x wr => x = .int .i64 0 ∧ W3 = wr)
          case atStart => exact ⟨rfl, rfl⟩
          case round =>
            obtain ⟨rfl, rfl⟩ := hrel
            go_wp2_with fail
            refine (awake7 W3 (HML.out.below HB3.out)).mono ?_
            rintro e W4 ⟨rfl, hb4⟩
            have HB4 := Lib.hid (HB3.out.trans (hb4.mono HB3.out.size))
            clear hb4
            go_wp2_with fail
            go_ret
            exact ⟨rfl, HB4.out⟩
        · rw [HMAY.out] at h; cases h
        · rw [HMAY.out] at h; cases h
      · have HMAY : Hid (mayB R = true) := Lib.hid (by rw [HPM.out]; exact hm)
        have HNO := Lib.hid hno
        clear hm hb2 hno
        go_wp2_with fail
        refine HPB.out.mono ?_
        rintro e W3 ⟨hb3, ⟨h, _⟩ | ⟨_, _, rfl⟩ | ⟨_, gs2, _, ho2, _⟩⟩
        · rw [HMAY.out] at h; cases h
        · have HB3 := Lib.hid (HB2.out.trans (hb3.mono HB2.out.size))
          clear hb3 HPB
          go_wp2_with fail
          go_loopg [14] 0 (fun mm x wr => x = .int .i64 0 ∧ W3 = wr)
          case atStart => exact ⟨rfl, rfl⟩
          case round =>
            obtain ⟨rfl, rfl⟩ := hrel
            go_wp2_with fail
            refine (awake7 W3 (HML.out.below HB3.out)).mono ?_
            rintro e W4 ⟨rfl, hb4⟩
            have HB4 := Lib.hid (HB3.out.trans (hb4.mono HB3.out.size))
            clear hb4
            go_wp2_with fail
            go_ret
            exact ⟨rfl, HB4.out⟩
        · rw [← HR.out] at ho2
          exact absurd (ho2.back HTN.out) (HNO.out _)
      · have HMAY : Hid (mayB R = true) := Lib.hid (by rw [HPM.out]; exact hm)
        have HO := Lib.hid ho; have HRA := Lib.hid hra
        rw [HN.out]
        rw [HN.out] at HRA
        clear hm hb2 ho hra
        go_wp2_with fail
        refine HPB.out.mono ?_
        rintro e W3 ⟨hb3, ⟨h, _⟩ | ⟨_, h, _⟩ | ⟨_, gs2, obb, ho2, rfl, hrb⟩⟩
        · rw [HMAY.out] at h; cases h
        · exact absurd (by rw [← HR.out]; exact HO.out.rot HTN.out) (h _)
        · have hg2 : gs2 = gs.map fun g => g.map (rh doms.length T) := ho2.uniq HMAY.out (by rw [← HR.out]; exact HO.out.rot HTN.out)
          have HROT : Hid (∀ j, j < i → rowP R gs2 j = rowP doms gs (sg i T j)) := Lib.hid (fun j hj => by
            have h := row_rot HTN.out HO.out (i := j) (by rw [HN.out]; exact hj)
            rw [HR.out, HN.out] at h
            rw [hg2, HN.out]; exact h)
          have HB3 := Lib.hid (HB2.out.trans (hb3.mono HB2.out.size)); have HRB := Lib.hid hrb; have HRA3 := Lib.hid (HRA.out.below hb3)
          rw [HRL.out]
          rw [HRL.out] at HRB
          have hbe : ((i : Int) != (i : Int)) = false := by simp
          clear hb3 hrb hg2 ho2 HPB HRA
          go_wp2_with fail
          go_loopg [14] i (fun mm x wr => ∃ j : Nat, mm + j = i ∧ x = .int .i64 (j : Int) ∧ ∃ n, wr = W3.drewN n)
          case atStart => exact ⟨0, by omega, rfl, 0, rfl⟩
          case round =>
            obtain ⟨j, hm, rfl, hwn⟩ := hrel
            have hbw : Below W3.heap.size W3 wr := by obtain ⟨n, rfl⟩ := hwn; exact drew_below W3 n
            have HMJ := Lib.hid hm; have HWN := Lib.hid hwn; have HBW := Lib.hid hbw
            clear hm hwn hbw
            by_cases hj : j < i
            · obtain ⟨q, hq⟩ : ∃ q, j + t0 = q := ⟨_, rfl⟩
              have hqi : (j : Int) + (t0 : Int) = (q : Int) := by omega
              have hq3 : q ≤ 296 := by omega
              obtain ⟨k, hk⟩ : ∃ k, q % i = k := ⟨_, rfl⟩
              have hkN : k < i := by rw [← hk]; exact Nat.mod_lt _ hN1
              have ht : (q : Int).tmod (i : Int) = (k : Int) := by rw [← hk]; rfl
              have hn0 : ¬ i = 0 := by omega
              have hks : k = sg i T j := by rw [← hk, ← hq]; exact hmod.out j hj
              have hxb : ((List.range i).map fun k => zN (rowP R gs2 k))[j]? = some (zN (rowP R gs2 j)) := by rw [List.getElem?_map, List.getElem?_range hj]; rfl
              have hxa : ((List.range i).map fun k => zN (rowP doms gs k))[k]? = some (zN (rowP doms gs k)) := by rw [List.getElem?_map, List.getElem?_range hkN]; rfl
              have hrot := HROT.out j hj
              rw [← hks] at hrot
              rw [hrot] at hxb
              obtain ⟨b1, o1, a1, c1, e1, hb1, hc1, hr1, hx1⟩ := (HRB.out.below HBW.out).at_ hxb
              obtain ⟨b2, o2, a2, c2, e2, hb2, hc2, hr2, hx2⟩ := (HRA3.out.below HBW.out).at_ hxa
              injection e1 with e1
              injection e1 with e1 e1' _
              injection e2 with e2
              injection e2 with e2 e2' _
              subst e1 e1' e2 e2'
              have HSI := Lib.hid (fun q => sameInts_ok (wr.drewN q) a1 a2 c1 c2 _ _ hx1 (hr1.below (drew_below wr q)) (hr2.below (drew_below wr q)))
              rw [beq_self_eq_true] at HSI
              obtain ⟨lx, hlx⟩ : ∃ lx, (zN (rowP doms gs k)).length = lx := ⟨_, rfl⟩
              rw [hlx] at HSI hc1 hc2
              rw [Nat.zero_add] at hc1 hc2
              clear hlx hr1 hr2 hx1 hx2 hxa hxb hrot hks hq hk
              go_upto_region 16 with (fail)
              go_quiet ((go_at_call 9; with_reducible exact Calls.quiet_of (HSI.out _)))
              go_wp2_with fail
              go_roundg (i - (j + 1))
              case measure => have := HMJ.out; omega
              case rel => exact ⟨j + 1, by have := HMJ.out; omega, by go_num, drew_more HWN.out _⟩
            · have hji : j = i := by have := HMJ.out; omega
              subst hji
              have HB4 := Lib.hid (HB3.out.trans (HBW.out.mono HB3.out.size))
              go_wp2_with fail
              refine (awake7 wr (HML.out.below HB4.out)).mono ?_
              rintro e W5 ⟨rfl, hb5⟩
              have HB5 := Lib.hid (HB4.out.trans (hb5.mono HB4.out.size))
              clear hb5
              go_wp2_with fail
              go_ret
              exact ⟨rfl, HB5.out⟩
end Go.Proofs.YtedfakpmdncnmaaDoor
