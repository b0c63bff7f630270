/- CountTurned: the walk. -/
import Derived.Test.YtoegenacjhmicaaCountTP
import Derived.Test.YtoegenacjhmicaaCountL3
namespace Go.Proofs.Ytoegenacjhmicaa
open Go.RowKit HP NP
theorem swap_cells (zs : List Int) (i k : Nat) : ((zV zs).toArray.setIfInBounds i (.int .i64 (zs.getD k 0))).setIfInBounds k (.int .i64 (zs.getD i 0)) = (zV (swapL zs i k)).toArray := by
  rw [zV_set, zV_set]; rfl
theorem ord_at {zs : List Int} (h : Ord4 zs) {i : Nat} (hi : i < 4) : zs[i]? = some (zs.getD i 0) ∧ 0 ≤ zs.getD i 0 ∧ zs.getD i 0 < 4 := by
  have e : zs[i]? = some (zs[i]'(by rw [h.len]; exact hi)) := List.getElem?_eq_getElem _
  have hd : zs.getD i 0 = zs[i]'(by rw [h.len]; exact hi) := by rw [List.getD_eq_getElem?_getD, e]; rfl
  rw [hd]
  exact ⟨e, h.ins _ (List.getElem_mem _)⟩
theorem toNs_at {zs : List Int} {i : Nat} {v : Nat} (h : zs[i]? = some (v : Int)) : (toNs zs).getD i 0 = v := by
  unfold toNs
  rw [List.getD_eq_getElem?_getD, List.getElem?_map, h]; simp
theorem zv_cell {w : World} {b : Nat} {t : TypeId} {zs : List Int} (h : Blk w b t (zV zs).toArray) {i : Nat} {x : Int} (hx : zs[i]? = some x) : w.cell? ⟨b, i, none⟩ = some (.int .i64 x) := by
  rw [h.cell, List.getElem?_toArray]; exact zV_at hx
theorem zv_cells {w : World} {b : Nat} {t : TypeId} {zs : List Int} (h : Blk w b t (zV zs).toArray) : Cells w (some ⟨b, 0, none⟩) (zV zs) := fun _ => ⟨b, 0, rfl, h.lt, fun i v hv => by
  rw [Nat.zero_add, h.cell, List.getElem?_toArray]; exact hv⟩
theorem made6k {w0 w : World} {p X : Nat} (h : CSt w0 w p (newS 4 1000)) (hX : X < 65536) :
    Calls Try.prog 13 #[.pointer (some ⟨p, 0, none⟩), .int .i64 (X : Int)] w fun e w' => ∃ S' k, e = .returned (.tuple #[.int .i64 ((k : Nat) : Int), .bool true]) ∧ CSt w0 w' p S' ∧ Den S' k (tbl X) ∧ Kp TN w0.heap.size w w' := by
  refine (make_ok w w0.heap.size p _ X hX h.sto h.bel.size rfl).mono ?_
  rintro e w' ⟨S', hs, hk, ⟨k, rfl, hg⟩ | ⟨_, hn⟩⟩
  · exact ⟨S', k, rfl, ⟨hs, hg.ext.vars.trans h.v4, h.bel.trans (hk.low h.bel.size)⟩, hg.den, hk⟩
  · have := hn.room
    rw [newS_cnt] at this
    exact absurd (show (newS 4 1000).budget < 2 + 15 from this) (by decide)
set_option maxRecDepth 100000 in
set_option maxHeartbeats 6400000 in
theorem countTurned_walk (w : World) (z : Int) (_zw : (Lit.int .i64 z).wf = true) (r : Int) (_rw : (Lit.int .i64 r).wf = true) : Calls Try.prog 9 #[.int .i64 z, .int .i64 r] w (Fine6 w) := by
  obtain ⟨X, hX, hX16⟩ := low6 z
  go_enter Try.func9, Try.ntmps9
  go_wp2_with fail
  refine (begun6 w).mono ?_
  rintro e w1 ⟨p, rfl, hs1⟩
  have HS1 := Lib.hid hs1
  clear hs1
  go_wp2_with fail
  refine (four6 w1).mono ?_
  rintro e w2 ⟨rfl, hw2⟩
  obtain ⟨fb, hfb⟩ : ∃ fb, w1.heap.size = fb := ⟨_, rfl⟩
  have hk2 : Blk w2 fb 3 (zV fourZ).toArray := by rw [hw2, ← hfb]; exact Blk.new_ _ _ _
  have hb2 : Below fb w1 w2 := by rw [hw2, ← hfb]; exact (Below.refl _ _).alloc (Nat.le_refl _) _
  rw [hfb]
  have HFB := Lib.hid hfb; have HK2 := Lib.hid hk2; have HB2 := Lib.hid hb2
  clear hw2 hk2 hb2 hfb
  go_wp2_with fail
  go_loopg [8] 3 (fun mm x wr => ∃ (i : Nat) (zs : List Int), mm = i ∧ i ≤ 3 ∧ x = .int .i64 (i : Int) ∧ Ord4 zs ∧ Blk wr fb 3 (zV zs).toArray ∧ Below fb w1 wr)
  case atStart => exact ⟨3, fourZ, rfl, Nat.le_refl _, rfl, four_ord, HK2.out, HB2.out⟩
  case round =>
    obtain ⟨i, zs, hm, hi3, rfl, hz, hk, hb⟩ := hrel
    have HM := Lib.hid hm; have HZ := Lib.hid hz; have HK := Lib.hid hk; have HB := Lib.hid hb
    clear hm hz hk hb
    by_cases hi : 0 < i
    · obtain ⟨s, hs⟩ : ∃ s, 3 * i = s := ⟨_, rfl⟩
      have hsi : (3 : Int) * (i : Int) = (s : Int) := by omega
      have hs9 : s ≤ 9 := by omega
      obtain ⟨kk, hkk⟩ : ∃ kk : Nat, (r / 2 ^ s) % 8 = (kk : Int) := ⟨((r / 2 ^ s) % 8).toNat, by omega⟩
      have h7 : bits .and .i64 (r / 2 ^ s) 7 = (kk : Int) := by rw [← hkk]; exact and_low _ 3 (by decide)
      obtain ⟨j, hj⟩ : ∃ j, i + 1 = j := ⟨_, rfl⟩
      have hij : (i : Int) + 1 = (j : Int) := by omega
      have hj0 : ¬ j = 0 := by omega
      obtain ⟨k, hkd⟩ : ∃ k, kk % j = k := ⟨_, rfl⟩
      have hk4 : k < 4 := by rw [← hkd]; exact Nat.lt_of_lt_of_le (Nat.mod_lt _ (by omega)) (by omega)
      have ht : (kk : Int).tmod (j : Int) = (k : Int) := by rw [← hkd]; rfl
      obtain ⟨hz1, hz2, hz3⟩ := ord_at HZ.out (i := i) (by omega)
      obtain ⟨hy1, hy2, hy3⟩ := ord_at HZ.out hk4
      obtain ⟨x, hx⟩ : ∃ x, zs.getD i 0 = x := ⟨_, rfl⟩
      obtain ⟨y, hy⟩ : ∃ y, zs.getD k 0 = y := ⟨_, rfl⟩
      rw [hx] at hz1
      rw [hy] at hy1
      have c1 := zv_cell HK.out hz1
      have c2 := zv_cell HK.out hy1
      have hfr := HK.out.frozen i
      have hfr2 : (wr.setCell ⟨fb, i, none⟩ (.int .i64 y)).frozen? ⟨fb, k, none⟩ = false := (HK.out.set_ i (.int .i64 y)).frozen k
      obtain ⟨y3, c3⟩ : ∃ y3, (wr.setCell ⟨fb, i, none⟩ (.int .i64 y)).cell? ⟨fb, k, none⟩ = some (.int .i64 y3) := by
        have h := HK.out.set_ i (.int .i64 y)
        rw [zV_set] at h
        have hl : k < (zs.set i y).length := by rw [List.length_set, HZ.out.len]; exact hk4
        exact ⟨_, zv_cell h (List.getElem?_eq_getElem hl)⟩
      have HK3 : Hid (Blk ((wr.setCell ⟨fb, i, none⟩ (.int .i64 y)).setCell ⟨fb, k, none⟩ (.int .i64 x)) fb 3 (zV (swapL zs i k)).toArray) := Lib.hid (by
        rw [← swap_cells, hx, hy]; exact (HK.out.set_ i _).set_ k _)
      have HB3 : Hid (Below fb w1 ((wr.setCell ⟨fb, i, none⟩ (.int .i64 y)).setCell ⟨fb, k, none⟩ (.int .i64 x))) := Lib.hid ((HB.out.setCell (Nat.le_refl _) _).setCell (Nat.le_refl _) _)
      have HZ3 : Hid (Ord4 (swapL zs i k)) := Lib.hid (HZ.out.swap (by omega) hk4)
      have hi3' : (i : Int) ≤ 3 := by omega
      clear hs hj hkd hz1 hz2 hz3 hy1 hy2 hy3 hx hy hkk
      go_wp2_with fail
      go_roundg (i - 1)
      case measure => have := HM.out; omega
      case rel => exact ⟨i - 1, _, rfl, by omega, by go_num, HZ3.out, HK3.out, HB3.out⟩
    · have hi0 : i = 0 := by omega
      subst hi0
      obtain ⟨W1, hren⟩ : ∃ x, x = wr := ⟨_, rfl⟩
      subst hren
      have HS2 : Hid (CSt w W1 p (newS 4 1000)) := Lib.hid (HS1.out.below (by rw [HFB.out]; exact HB.out))
      obtain ⟨l, hl⟩ : ∃ l, toNs zs = l := ⟨_, rfl⟩
      have HL := Lib.hid hl
      have HP : Hid (l ∈ perms4) := Lib.hid (by rw [← hl]; exact HZ.out.perm)
      clear hl
      go_wp2_with fail
      refine (trues6 W1 X hX16).mono ?_
      rintro e w3 ⟨u3, rfl, hr3, hb3⟩
      obtain ⟨ua, uc, rfl⟩ := own_shape hr3
      have HU3 := Lib.hid (own_iV hr3)
      have HS3 := Lib.hid (HS2.out.below hb3)
      have HK3 := Lib.hid (HK.out.below hb3 HK.out.lt)
      obtain ⟨T, hT⟩ : ∃ T, (truesL X).length = T := ⟨_, rfl⟩
      have hT16 : T ≤ 16 := by rw [← hT, truesL_len]; exact numT_le X
      have HT := Lib.hid hT
      rw [hT]
      clear hr3 hb3 hT
      go_wp2_with fail
      go_loopg [11, 59] T (fun mm u x wr => ∃ q : Nat, mm + q = T ∧ x = .int .i64 (q : Int) ∧ Below w3.heap.size w3 wr ∧ RowsV wr u (wantL l ((truesL X).take q)))
      case atStart => exact ⟨0, by omega, rfl, Below.refl _ _, .inl ⟨rfl, rfl⟩⟩
      case round =>
        obtain ⟨q, hm, rfl, hb, hrow⟩ := hrel
        have HMQ := Lib.hid hm; have HBQ := Lib.hid hb; have HROW := Lib.hid hrow
        have hws := hb.size
        clear hm hb hrow
        obtain ⟨W2, hren⟩ : ∃ x, x = wr := ⟨_, rfl⟩
        subst hren
        have HKQ : Hid (Blk W2 fb 3 (zV zs).toArray) := Lib.hid (HK3.out.below HBQ.out HK3.out.lt)
        by_cases hq : q < T
        · obtain ⟨n, hn⟩ : ∃ n, (truesL X)[q]? = some n := ⟨_, List.getElem?_eq_getElem (by rw [HT.out]; exact hq)⟩
          have hn16 : n < 16 := by
            have := List.mem_of_getElem? hn
            unfold truesL at this
            exact List.mem_range.1 (List.mem_filter.1 this).1
          obtain ⟨b7, o7, rfl, hb7, k7⟩ := (HU3.out.below HBQ.out).at_ (iV_at hn)
          have HNX : Hid (wantL l ((truesL X).take (q + 1)) = putL (wantL l ((truesL X).take q)) (rowT l n)) := Lib.hid (wantL_next hn)
          clear hn
          go_wp2_with fail
          go_loopg [14, 15] 4 (fun mm x y wr => ∃ i : Nat, mm + i = 4 ∧ x = .int .i64 (tN l n i : Int) ∧ y = .int .i64 (i : Int) ∧ W2 = wr)
          case atStart => exact ⟨0, rfl, rfl, rfl, rfl⟩
          case round =>
            obtain ⟨i, hm, rfl, rfl, rfl⟩ := hrel
            have HMI := Lib.hid hm
            clear hm
            by_cases hi4 : i < 4
            · obtain ⟨hz1, hz2, hz3⟩ := ord_at HZ.out hi4
              obtain ⟨x, hx⟩ : ∃ x, zs.getD i 0 = x := ⟨_, rfl⟩
              rw [hx] at hz1 hz2 hz3
              obtain ⟨v, rfl⟩ : ∃ v : Nat, x = (v : Int) := ⟨x.toNat, by omega⟩
              have hv4 : v < 4 := by omega
              have c1 := zv_cell HKQ.out hz1
              have hlv : l.getD i 0 = v := by rw [← HL.out]; exact toNs_at hz1
              obtain ⟨t, ht⟩ : ∃ t, n.testBit v = t := ⟨_, rfl⟩
              have hb1 : bits .and .i64 ((n : Int) / 2 ^ v) 1 = (t.toNat : Int) := by rw [← ht]; exact bit_val n v
              obtain ⟨tq, htq⟩ : ∃ tq, tN l n i = tq := ⟨_, rfl⟩
              obtain ⟨sq, hsq⟩ : ∃ sq, t.toNat * 2 ^ i = sq := ⟨_, rfl⟩
              have hsh : (t.toNat : Int) * 2 ^ i = (sq : Int) := by rw [← hsq]; simp
              have hor : tq ||| sq = tN l n (i + 1) := by
                have h := perms_or l HP.out n hn16 i hi4
                rw [hlv, ht, hsq, htq] at h
                exact h
              have hlt1 : tq < 16 := by rw [← htq]; exact perms_lt l HP.out n hn16 i (by omega)
              have hlt2 : sq < 16 := by
                have h := perms_lt2 l HP.out n hn16 i hi4
                rw [hlv, ht, hsq] at h; exact h
              have hw1 : wrap64 (sq : Int) = (sq : Int) := small_w sq hlt2
              have hw2 : IntKind.i64.wrap (sq : Int) = (sq : Int) := small_i sq hlt2
              have ho : bits .or .i64 (tq : Int) (sq : Int) = ((tN l n (i + 1) : Nat) : Int) := by rw [← hor]; exact small_or tq sq hlt1 hlt2
              obtain ⟨tr, htr⟩ : ∃ tr, tN l n (i + 1) = tr := ⟨_, rfl⟩
              rw [htr] at ho
              have HTR := Lib.hid htr
              rw [htq]
              clear hz1 hz2 hz3 hx hlv ht htq hsq hor hlt1 hlt2 htr
              go_wp2_with fail
              go_roundg (4 - (i + 1))
              case measure => have := HMI.out; omega
              case rel => exact ⟨i + 1, by have := HMI.out; omega, by rw [HTR.out], by go_num, rfl⟩
            · have hi4e : i = 4 := by have := HMI.out; omega
              subst hi4e
              obtain ⟨tq, htq⟩ : ∃ tq, tN l n 4 = tq := ⟨_, rfl⟩
              have HROW2 := HROW
              obtain ⟨Wq, hWq⟩ : ∃ Wq, Wq = W2.alloc (.cells #[.int .i64 (tq : Int)] 3) := ⟨_, rfl⟩
              have hbq : Below W2.heap.size W2 Wq := by rw [hWq]; exact (Below.refl _ _).alloc (Nat.le_refl _) _
              have HPR : Hid (Calls Try.prog 33 #[u11, .slice (some ⟨W2.heap.size, 0, none⟩) 1 1] Wq (PutP Wq (wantL l ((truesL X).take (q + 1))))) := Lib.hid (by
                rw [HNX.out]
                have hlen := want_len l ((truesL X).take q)
                have h := putrow_ok Wq u11 (wantL l ((truesL X).take q)) (some ⟨W2.heap.size, 0, none⟩) 1 (rowT l n) (HROW.out.below hbq) (by rw [List.length_take] at hlen; omega) (by unfold rowT; simp) (by unfold rowT; rw [htq, hWq]; exact ⟨Cells.lit W2 #[.int .i64 (tq : Int)] 3, tb_some ⟨_, Blk.new_ _ _ _⟩⟩)
                exact h)
              have HWQ := Lib.hid hWq
              have HBQ2 := Lib.hid (HBQ.out.trans (hbq.mono hws))
              rw [htq]
              clear hWq hbq htq HROW2
              go_wp2_with fail
              rw [← HWQ.out]
              refine HPR.out.mono ?_
              rintro e W4 ⟨hb4, v4, rfl, hr4⟩
              have HB4 := Lib.hid (HBQ2.out.trans (hb4.mono HBQ2.out.size)); have HR4 := Lib.hid hr4
              clear hb4 hr4
              go_wp2_with fail
              go_roundg (T - (q + 1))
              case measure => have := HMQ.out; omega
              case rel => exact ⟨q + 1, by have := HMQ.out; omega, by go_num, HB4.out, HR4.out⟩
        · have hqT : q = T := by have := HMQ.out; omega
          subst hqT
          have HROW2 : Hid (RowsV W2 u11 (wantL l (truesL X))) := Lib.hid (by
            have h := HROW.out
            rw [List.take_of_length_le (by rw [HT.out]; exact Nat.le_refl _)] at h
            exact h)
          have HS4 := Lib.hid (HS3.out.below HBQ.out)
          obtain ⟨La, Lc, rfl⟩ := HROW2.out.len_
          obtain ⟨M, hM⟩ : ∃ M, (wantL l (truesL X)).length = M := ⟨_, rfl⟩
          have hM16 : M ≤ 16 := by rw [← hM]; have := want_len l (truesL X); rw [HT.out] at this; omega
          have HMM := Lib.hid hM
          rw [hM] at HROW2 ⊢
          clear hM HROW
          go_wp2_with fail
          refine (made6k HS4.out hX16).mono ?_
          rintro e W5 ⟨S, kx, rfl, hs5, hd5, hk5⟩
          have HS5 := Lib.hid hs5; have HD5 := Lib.hid hd5
          have HR5 := Lib.hid (HROW2.out.kb hk5.kb hk5.size rfl rfl)
          have HK5 : Hid (Blk W5 fb 3 (zV zs).toArray) := Lib.hid (hk5.blk HKQ.out rfl)
          have HE5 := Lib.hid (each4_ok HS5.out HD5.out HZ.out (a := some ⟨fb, 0, none⟩) (c := 4) (zv_cells HK5.out) 16 (by decide) (by decide))
          rw [turned_each HS5.out HD5.out HZ.out, HL.out] at HE5
          obtain ⟨NW, hNW⟩ : ∃ NW, nZ (wantN l (truesL X)) = NW := ⟨_, rfl⟩
          have HNW := Lib.hid hNW
          have HNL : Hid (NW.length = M) := Lib.hid (by rw [← hNW, ← HMM.out, ← wantN_len]; simp [nZ])
          rw [hNW, HNL.out] at HE5
          clear hs5 hd5 hk5 hNW
          go_wp2_with fail
          refine HE5.out.mono ?_
          rintro e W6 ⟨hb6, ⟨h, _⟩ | ⟨_, y6, rfl, hr6⟩⟩
          · have := numT_le X; omega
          obtain ⟨ya, yc, rfl⟩ := own_shape hr6
          have HY6 := Lib.hid (own_zV hr6); have HS6 := Lib.hid (HS5.out.below hb6); have HR6 := Lib.hid (HR5.out.below hb6)
          have hbe : ((M : Int) != (M : Int)) = false := by simp
          clear hb6 hr6 HE5
          go_wp2_with fail
          go_loopg [20] M (fun mm x wr => ∃ i : Nat, mm + i = M ∧ x = .int .i64 (i : Int) ∧ ∃ q, wr = W6.drewN q)
          case atStart => exact ⟨0, by omega, rfl, 0, rfl⟩
          case round =>
            obtain ⟨i, hm, rfl, q, rfl⟩ := hrel
            have HMI := Lib.hid hm
            clear hm
            by_cases hi : i < M
            · obtain ⟨row, hrw⟩ : ∃ row, (wantL l (truesL X))[i]? = some row := ⟨_, List.getElem?_eq_getElem (by rw [HMM.out]; exact hi)⟩
              obtain ⟨m, rfl, hm2⟩ := want_at hrw
              rw [HNW.out] at hm2
              obtain ⟨lb, ca, ad, cp, e, hlb, k1, hcd⟩ := HR6.out.row hrw
              injection e with e1 e2 e3
              subst e1 e3
              obtain ⟨b2, o2, rfl, hb2, k2⟩ := hcd.c.at_ (k := 0) (v := .int .i64 (m : Int)) rfl
              obtain ⟨b1, o1, rfl, hb1, k3⟩ := HY6.out.at_ (zV_at hm2)
              have hmm : ((m : Int) != (m : Int)) = false := by simp
              change W6.cell? ⟨lb, i, none⟩ = some (.slice (some ⟨b2, o2, none⟩) 1 cp) at k1
              rw [Nat.add_zero] at k2
              clear hrw hm2 e2 hcd
              go_upto_region 30 with (fail)
              go_quiet (fail)
              go_wp2_with fail
              go_roundg (M - (i + 1))
              case measure => have := HMI.out; omega
              case rel => exact ⟨i + 1, by have := HMI.out; omega, by go_num, _, rfl⟩
            · have hiM : i = M := by have := HMI.out; omega
              subst hiM
              have HS7 := Lib.hid (HS6.out.below (show Below W6.heap.size W6 (W6.drewN q) from bdN' _ _))
              obtain ⟨W7, hW7⟩ : ∃ W7, W7 = W6.drewN q := ⟨_, rfl⟩
              rw [← hW7] at HS7 ⊢
              clear hW7
              go_wp2_with fail
              refine (awake6 W7).mono ?_
              rintro e W8 ⟨rfl, hb8⟩
              have HS8 := Lib.hid (HS7.out.below hb8)
              clear hb8
              go_wp2_with fail
              go_ret
              exact ⟨rfl, HS8.out.bel⟩
end Go.Proofs.Ytoegenacjhmicaa
