/- The reference of layer 19: Reach and Members. -/
import Derived.Test.YtbancojknahdgaaCompX
import Derived.Test.YtbancojknahdgaaCompL1
namespace Go.Proofs.Ytbancojknahdgaa
open Go.RowKit CP
def addIf (b : Bool) (i : Nat) : List Nat := if b then [i] else []
theorem reachL_next (E : Ed) (fr i : Nat) : reachL (i + 1) E fr = reachL i E fr ++ addIf (rcB E fr i) i := by
  unfold reachL addIf
  rw [List.range_succ, List.filter_append]
  congr 1
  cases h : rcB E fr i <;> simp [h]
set_option maxRecDepth 100000 in
set_option maxHeartbeats 6400000 in
theorem rreach_ok (w : World) (n : Int) (ea : Option Addr) (es : List (Int × Int)) (c : Nat) (fr : Int) (hm : es.length ≤ maxLen) (hc : Cells w ea (es.flatMap pairCells)) :
    Calls Try.prog 32 #[.int .i64 n, .slice ea es.length c, .int .i64 fr] w (ReachPost w n es fr) := by
  have HMY := Lib.hid (rmay_ok w n ea es c hm hc)
  have no : okR n es fr = false → Hid (ReachPost w n es fr (.returned (.tuple #[.slice none 0 0, .int .i64 1])) w) := fun h => Lib.hid ⟨Below.refl _ _, .inl ⟨h, rfl⟩⟩
  cases hmy : mayG n es with
  | false =>
    have NO := no (by unfold okR; rw [hmy]; rfl)
    rw [hmy] at HMY
    clear hm hc no
    go_enter Try.func32, Try.ntmps32
    go_wp2_with fail
    refine HMY.out.mono ?_
    rintro e w1 ⟨rfl, rfl⟩
    go_wp2_with fail
    go_ret2
    exact NO.out
  | true =>
    rw [hmy] at HMY
    by_cases hf1 : fr < 0
    · have NO := no (by unfold okR; simp; omega)
      clear hm hc no
      go_enter Try.func32, Try.ntmps32
      go_wp2_with fail
      refine HMY.out.mono ?_
      rintro e w1 ⟨rfl, rfl⟩
      go_wp2_with fail
      go_ret2
      exact NO.out
    by_cases hf2 : n ≤ fr
    · have NO := no (by unfold okR; simp; omega)
      clear hm hc no
      go_enter Try.func32, Try.ntmps32
      go_wp2_with fail
      refine HMY.out.mono ?_
      rintro e w1 ⟨rfl, rfl⟩
      go_wp2_with fail
      go_ret2
      exact NO.out
    have hok : okR n es fr = true := by unfold okR; rw [hmy]; simp; omega
    have hn : 0 ≤ n ∧ n ≤ 1024 := by unfold mayG at hmy; simp at hmy; omega
    obtain ⟨k, rfl⟩ : ∃ k : Nat, n = (k : Int) := ⟨n.toNat, by omega⟩
    obtain ⟨f, rfl⟩ : ∃ f : Nat, fr = (f : Int) := ⟨fr.toNat, by omega⟩
    have hall : es.all (edZ (k : Int)) = true := by unfold mayG at hmy; simp only [Bool.and_eq_true] at hmy; exact hmy.2
    have hN4 : es.length ≤ 16384 := by unfold mayG at hmy; simp only [Bool.and_eq_true, decide_eq_true_eq] at hmy; exact hmy.1.2
    have hk : k ≤ 1024 := by omega
    have hfk : f < k := by omega
    have HMK := Lib.hid (marks_ok w k f ea es c hk hfk hN4 hall hc)
    have YES : Hid (∀ y w', Below w.heap.size w w' → w'.ownsRow w.heap.size 3 1 y (reachL k (natE es) f).length (iV (reachL k (natE es) f)) → ReachPost w (k : Int) es (f : Int) (.returned (.tuple #[y, .int .i64 0])) w') := Lib.hid (fun y w' hb hr => ⟨hb, .inr ⟨hok, y, rfl, hr⟩⟩)
    obtain ⟨N, hN⟩ : ∃ N, es.length = N := ⟨_, rfl⟩
    rw [hN] at HMY HMK ⊢
    obtain ⟨E, hE⟩ : ∃ E, natE es = E := ⟨_, rfl⟩
    rw [hE] at HMK YES
    obtain ⟨j0, hj0, yz0, yz1, yz2⟩ := info_parts int_infoC
    have d1 : decide ((f : Int) < 0) = false := decide_eq_false (by omega)
    have d2 : decide (k ≤ f) = false := decide_eq_false (by omega)
    clear hm hc no hmy hok hn hall hN4 hN hE hf1 hf2
    go_enter Try.func32, Try.ntmps32
    go_wp2_with fail
    refine HMY.out.mono ?_
    rintro e w1 ⟨rfl, rfl⟩
    go_wp2_with fail
    refine HMK.out.mono ?_
    rintro e w1 ⟨hb1, bm, rfl, hbmB, hbm⟩
    have HB1 := Lib.hid hb1; have HBM := Lib.hid hbm
    clear hb1 hbmB hbm HMY HMK
    go_wp2_with fail
    go_loopg [9, 10] k (fun m y x wr => ∃ i, m + i = k ∧ x = .int .i64 (i : Int) ∧ Below w1.heap.size w1 wr ∧ wr.ownsRow w1.heap.size 3 1 y (reachL i E f).length (iV (reachL i E f)))
    case atStart => exact ⟨0, rfl, rfl, Below.refl _ _, World.ownsRow_nil _ _ _ _⟩
    case round =>
      obtain ⟨i, hm4, rfl, hb, hrow⟩ := hrel
      have HM4 := Lib.hid hm4; have HB := Lib.hid hb
      have hws : w1.heap.size ≤ wr.heap.size := hb.size
      by_cases hi : i < k
      · have p0 := ((HBM.out.below hb HBM.out.lt).cell i).trans (tabB_get _ hi)
        have hbl := (HBM.out.below hb HBM.out.lt).lt
        have hnx := reachL_next E f i
        have hlen := reachL_len i E f
        obtain ⟨q, hq⟩ : ∃ q, (reachL i E f).length = q := ⟨_, rfl⟩
        rw [hq] at hrow hlen
        have HQ := Lib.hid hq
        obtain ⟨X, hX⟩ : ∃ X, rcB E f i = X := ⟨_, rfl⟩
        rw [hX] at p0 hnx
        have HNX := Lib.hid hnx; have HROW := Lib.hid hrow
        clear hm4 hb hrow hnx hq hX
        cases X with
        | false =>
          go_wp2_with fail
          go_roundg (k - (i + 1))
          case measure => have := HM4.out; omega
          case rel => exact ⟨i + 1, by have := HM4.out; omega, by go_num, HB.out, by have h := HNX.out; rw [show addIf false i = [] from rfl, List.append_nil] at h; rw [h, HQ.out]; exact HROW.out⟩
        | true =>
          go_wp2_with (at_builtin; refine wpList_append_sep rfl (.tmp 37) (.tmp 39) 25 rfl w1.heap.size 3 j0 (.int .i64 0) 1 8 Try.underlying25 hj0 yz0 yz1 yz2 rfl (by decide) u9 q _ rfl (HROW.out.alloc _) wr.heap.size 0 1 1 [.int .i64 (i : Int)] rfl rfl (lit_one _ _ _) (ones_int _) (by unfold maxLen; omega) (by omega) (by simp; omega) ?_)
          intro y7 w7 hown hg7 hsep
          have HR7 : Hid (w7.ownsRow w1.heap.size 3 1 y7 (reachL (i + 1) E f).length (iV (reachL (i + 1) E f))) := Lib.hid (by
            have h := HNX.out
            rw [show addIf true i = [i] from rfl] at h
            rw [h, List.length_append, HQ.out, iV_app]; exact hown)
          have HB7 : Hid (Below w1.heap.size w1 w7) := Lib.hid ((HB.out.alloc hws (.cells #[.int .i64 (i : Int)] 3)).grown hg7 (Nat.le_trans hws (Nat.le_of_lt (by simp))) (fun j hj => (HROW.out.lt j hj).1))
          clear hown hg7 hsep HROW HB
          go_wp2_with fail
          go_roundg (k - (i + 1))
          case measure => have := HM4.out; omega
          case rel => exact ⟨i + 1, by have := HM4.out; omega, by go_num, HB7.out, HR7.out⟩
      · have hik : i = k := by omega
        subst hik
        have HROW := Lib.hid hrow
        have HB8 := Lib.hid (HB1.out.trans (HB.out.mono HB1.out.size))
        clear hm4 hb hrow
        go_wp2_with fail
        go_ret2
        exact YES.out _ _ HB8.out (own_base HROW.out HB1.out.size)
/-! ### Members -/
theorem inZ_at {cs : List Int} {i : Nat} {x : Int} (hx : cs[i]? = some x) (h : x < 0 ∨ (cs.length : Int) ≤ x) : okM cs = false := by
  unfold okM inZ
  have : (cs.all fun c => decide (0 ≤ c) && decide (c < cs.length)) = false := by
    rw [List.all_eq_false]
    exact ⟨x, List.mem_of_getElem? hx, by simp; omega⟩
  rw [this, Bool.false_and]
/-- the greatest of the first numbers, or -1 -/
def topI (cs : List Int) : Int := cs.foldl max (-1)
theorem topI_next {cs : List Int} {i : Nat} {x : Int} (hx : cs[i]? = some x) : topI (cs.take (i + 1)) = max (topI (cs.take i)) x := by
  unfold topI
  rw [List.take_add_one, hx, List.foldl_append]; rfl
theorem topI_ge (cs : List Int) : -1 ≤ topI cs := (foldl_max cs (-1)).1
theorem topI_top {cs : List Int} (h : inZ cs = true) : topI cs = (topN cs : Int) - 1 := by
  obtain ⟨h1, h2, h3⟩ := foldl_max cs (-1)
  unfold topI topN
  by_cases hn : cs = []
  · subst hn; rfl
  · rw [if_neg hn]
    obtain ⟨a1, a2⟩ := maxOf_spec hn
    have h4 := h2 _ a2
    have h5 : (0 : Int) ≤ Lib.maxOf cs := by
      have := List.all_eq_true.1 h _ a2
      simp at this; omega
    rcases h3 with h3 | h3
    · omega
    · have := a1 _ h3; omega
theorem mrow_step {cs : List Int} {i x : Nat} (h : cs[i]? = some (x : Int)) (c : Nat) : mrow cs (i + 1) c = mrow cs i c ++ (if x = c then [i] else []) := by
  rw [mrow_succ h]
  by_cases e : x = c
  · subst e; rw [fup_same, if_pos rfl]
  · rw [fup_ne _ _ (fun e2 => e e2.symm), if_neg e, List.append_nil]
theorem okM_no {cs : List Int} {c : Nat} (hc : c < topN cs) (h : mrow cs cs.length c = []) : okM cs = false := by
  unfold okM
  have : ((List.range (topN cs)).all fun c => !(mrow cs cs.length c).isEmpty) = false := by
    rw [List.all_eq_false]
    exact ⟨c, List.mem_range.2 hc, by rw [h]; simp⟩
  rw [this, Bool.and_false]
set_option maxRecDepth 100000 in
set_option maxHeartbeats 6400000 in
theorem rmembers_ok (w : World) (ca : Option Addr) (cs : List Int) (c : Nat) (hm : cs.length ≤ 1024) (hc : Cells w ca (zV cs)) :
    Calls Try.prog 34 #[.slice ca cs.length c] w (MemPost w cs) := by
  obtain ⟨N, hN⟩ : ∃ N, cs.length = N := ⟨_, rfl⟩
  have HN := Lib.hid hN; have HC := Lib.hid hc
  rw [hN] at hm ⊢
  have NO : Hid (∀ w', Below w.heap.size w w' → okM cs = false → MemPost w cs (.returned (.tuple #[.slice none 0 0, .int .i64 1])) w') := Lib.hid (fun w' hb h => ⟨hb, .inl ⟨h, rfl⟩⟩)
  have d0 : decide (1024 < N) = false := decide_eq_false (by omega)
  obtain ⟨j0, hj0, yz0, yz1, yz2⟩ := info_parts int_infoC
  obtain ⟨i0, hi0, xz0, xz1, xz2⟩ := info_parts rows_info
  clear hN hc
  go_enter Try.func34, Try.ntmps34
  go_wp2_with fail
  go_loopg [4, 5] N (fun m y x wr => ∃ i : Nat, m + i = N ∧ x = .int .i64 (i : Int) ∧ y = .int .i64 (topI (cs.take i)) ∧ (∀ x ∈ cs.take i, 0 ≤ x ∧ x < (N : Int)) ∧ w = wr)
  case atStart => exact ⟨0, rfl, rfl, rfl, fun x hx => (by simp at hx), rfl⟩
  case round =>
    obtain ⟨i, hm2, rfl, rfl, hin, rfl⟩ := hrel
    have HM := Lib.hid hm2; have HIN := Lib.hid hin
    clear hm2 hin
    by_cases hi : i < N
    · obtain ⟨x, hx⟩ : ∃ x, cs[i]? = some x := ⟨_, List.getElem?_eq_getElem (by rw [HN.out]; exact hi)⟩
      obtain ⟨b, off, hca, hbl, k0⟩ := HC.out.at_ (zV_at hx)
      subst hca
      have HX := Lib.hid hx
      have htn := topI_next hx
      clear hx
      by_cases hx0 : x < 0
      · have HB : Hid (okM cs = false) := Lib.hid (inZ_at HX.out (.inl hx0))
        go_wp2_with fail
        go_ret2
        exact NO.out _ (Below.refl _ _) HB.out
      by_cases hx1 : (N : Int) ≤ x
      · have HB : Hid (okM cs = false) := Lib.hid (inZ_at HX.out (.inr (by rw [HN.out]; exact hx1)))
        go_wp2_with fail
        go_ret2
        exact NO.out _ (Below.refl _ _) HB.out
      have HIN2 : Hid (∀ y ∈ cs.take (i + 1), 0 ≤ y ∧ y < (N : Int)) := Lib.hid (by
        rw [List.take_add_one, HX.out]
        intro y hy
        rcases List.mem_append.1 hy with hy | hy
        · exact HIN.out y hy
        · simp at hy; subst hy; omega)
      obtain ⟨T, hT⟩ : ∃ T, topI (cs.take i) = T := ⟨_, rfl⟩
      rw [hT] at htn ⊢
      have HTN := Lib.hid htn
      obtain ⟨xn, rfl⟩ : ∃ xn : Nat, x = (xn : Int) := ⟨x.toNat, by omega⟩
      clear hT htn
      go_wp2_with fail
      go_roundg (N - (i + 1))
      case measure => have := HM.out; omega
      case rel => exact ⟨i + 1, by have := HM.out; omega, by go_num, by rw [HTN.out], HIN2.out, rfl⟩
    · have htk : cs.take i = cs := List.take_of_length_le (by rw [HN.out]; omega)
      have hz : inZ cs = true := by
        have h := HIN.out
        rw [htk] at h
        unfold inZ
        rw [List.all_eq_true]
        intro x hx
        have := h x hx
        rw [HN.out]; simp; omega
      have htop := topI_top hz
      have hle : topN cs ≤ N := by
        by_cases hn : cs = []
        · subst hn; exact Nat.zero_le _
        · have := (topN_lt hz (maxOf_spec hn).2).2.2
          rw [HN.out] at this; exact this
      rw [htk, htop]
      obtain ⟨T, hT⟩ : ∃ T, topN cs = T := ⟨_, rfl⟩
      rw [hT] at hle ⊢
      have HT := Lib.hid hT; have HZ := Lib.hid hz
      clear hT htk hz htop HIN HM
      go_wp2_with fail
      go_loopg [6, 7] T (fun m y x wr => ∃ q : Nat, m + q = T ∧ x = .int .i64 (q : Int) ∧ (∃ sl, TM w wr q (mrow cs N) y sl) ∧ ∀ k, k < q → mrow cs N k ≠ [])
      case atStart => exact ⟨0, rfl, rfl, ⟨fun _ => undef, TM.start _ _ _⟩, fun k hk => absurd hk (Nat.not_lt_zero _)⟩
      case round =>
        obtain ⟨q, hm3, rfl, ⟨sl, htm⟩, hne⟩ := hrel
        have HM3 := Lib.hid hm3; have HTM := Lib.hid htm; have HNE := Lib.hid hne
        clear hm3 htm hne
        by_cases hq : q < T
        · have d1 : decide ((q : Int) ≤ (T : Int) - 1) = true := decide_eq_true (by omega)
          obtain ⟨w3, hw3⟩ : ∃ w3, w3 = wr := ⟨_, rfl⟩
          rw [← hw3] at HTM ⊢
          clear hw3
          go_wp2_with fail
          go_loopg [8, 9] N (fun m y x wr => ∃ i : Nat, m + i = N ∧ x = .int .i64 (i : Int) ∧ Below w3.heap.size w3 wr ∧ wr.ownsRow w3.heap.size 3 1 y (mrow cs i q).length (iV (mrow cs i q)))
          case atStart => exact ⟨0, rfl, rfl, Below.refl _ _, World.ownsRow_nil _ _ _ _⟩
          case round =>
            obtain ⟨i, hm4, rfl, hb, hrow⟩ := hrel
            have HM4 := Lib.hid hm4; have HB := Lib.hid hb
            have hws : w3.heap.size ≤ wr.heap.size := hb.size
            have hml := mrow_len cs i q
            by_cases hi : i < N
            · obtain ⟨x, hx⟩ : ∃ x, cs[i]? = some x := ⟨_, List.getElem?_eq_getElem (by rw [HN.out]; exact hi)⟩
              have hx0 : 0 ≤ x := by
                have := List.all_eq_true.1 HZ.out x (List.mem_of_getElem? hx)
                simp at this; omega
              obtain ⟨xn, rfl⟩ : ∃ xn : Nat, x = (xn : Int) := ⟨x.toNat, by omega⟩
              obtain ⟨b, off, hca, hbl, k0⟩ := (HC.out.below (HTM.out.bel.trans (hb.mono HTM.out.bel.size))).at_ (zV_at hx)
              subst hca
              have hnx := mrow_step hx q
              obtain ⟨l, hl⟩ : ∃ l, mrow cs i q = l := ⟨_, rfl⟩
              rw [hl] at hrow hnx hml
              obtain ⟨p, hp⟩ : ∃ p, l.length = p := ⟨_, rfl⟩
              rw [hp] at hrow hml
              have HNX := Lib.hid hnx; have HP := Lib.hid hp; have HROW := Lib.hid hrow; have HL := Lib.hid hl
              clear hm4 hb hrow hnx hp hx hx0 hl
              by_cases hxq : xn = q
              · subst hxq
                have HNX2 : Hid (mrow cs (i + 1) xn = l ++ [i]) := Lib.hid (by rw [HNX.out, if_pos rfl])
                go_wp2_with (at_builtin; refine wpList_append_sep rfl (.tmp 56) (.tmp 58) 25 rfl w3.heap.size 3 j0 (.int .i64 0) 1 8 Try.underlying25 hj0 yz0 yz1 yz2 rfl (by decide) u8 p _ rfl (HROW.out.alloc _) wr.heap.size 0 1 1 [.int .i64 (i : Int)] rfl rfl (lit_one _ _ _) (ones_int _) (by unfold maxLen; omega) (by omega) (by simp; omega) ?_)
                intro y7 w7 hown hg7 hsep
                have HR7 : Hid (w7.ownsRow w3.heap.size 3 1 y7 (mrow cs (i + 1) xn).length (iV (mrow cs (i + 1) xn))) := Lib.hid (by
                  rw [HNX2.out, List.length_append, HP.out, iV_app]; exact hown)
                have HB7 : Hid (Below w3.heap.size w3 w7) := Lib.hid ((HB.out.alloc hws (.cells #[.int .i64 (i : Int)] 3)).grown hg7 (Nat.le_trans hws (Nat.le_of_lt (by simp))) (fun j hj => (HROW.out.lt j hj).1))
                clear hown hg7 hsep HROW HB
                go_wp2_with fail
                go_roundg (N - (i + 1))
                case measure => have := HM4.out; omega
                case rel => exact ⟨i + 1, by have := HM4.out; omega, by go_num, HB7.out, HR7.out⟩
              · have e1 : (xn == q) = false := beq_eq_false_iff_ne.2 hxq
                have e2 : ((xn : Int) == (q : Int)) = false := by rw [beq_eq_false_iff_ne]; omega
                have HNX2 : Hid (mrow cs (i + 1) q = l) := Lib.hid (by rw [HNX.out, if_neg hxq, List.append_nil])
                clear hxq
                go_wp2_with fail
                go_roundg (N - (i + 1))
                case measure => have := HM4.out; omega
                case rel => exact ⟨i + 1, by have := HM4.out; omega, by go_num, HB.out, by rw [HNX2.out, HP.out]; exact HROW.out⟩
            · have hiN : i = N := by omega
              subst hiN
              have HTM5 := Lib.hid (HTM.out.below hb)
              have hr6 := own_base hrow HTM.out.bel.size
              obtain ⟨ad, cp, rfl⟩ := own_shape hr6
              have HR6 := Lib.hid hr6
              obtain ⟨p, hp⟩ : ∃ p, (mrow cs i q).length = p := ⟨_, rfl⟩
              rw [hp] at hml ⊢
              have HP := Lib.hid hp
              clear hm4 hb hrow hr6 hp
              by_cases hp0 : p = 0
              · subst hp0
                have HB9 : Hid (okM cs = false) := Lib.hid (okM_no (c := q) (by rw [HT.out]; exact hq) (by rw [HN.out]; exact List.eq_nil_of_length_eq_zero HP.out))
                go_wp2_with fail
                go_ret2
                exact NO.out _ HTM5.out.bel HB9.out
              · have e1 : (p == 0) = false := beq_eq_false_iff_ne.2 hp0
                have e2 : ((p : Int) == 0) = false := by rw [beq_eq_false_iff_ne]; omega
                have HNE2 : Hid (∀ k, k < q + 1 → mrow cs i k ≠ []) := Lib.hid (fun k hk => by
                  by_cases e : k = q
                  · rw [e]; intro h; have := HP.out; rw [h] at this; exact hp0 this.symm
                  · exact HNE.out k (by omega))
                have hws2 : w.heap.size ≤ wr.heap.size := HTM5.out.bel.size
                clear hp0
                go_wp2_with (at_builtin; refine wpList_append_sep rfl (.tmp 63) (.tmp 65) 42 rfl w.heap.size 25 i0 (.slice none 0 0) 1 24 Try.underlying42 hi0 xz0 xz1 xz2 rfl (by decide) u6 q _ rfl (HTM5.out.row.alloc _) wr.heap.size 0 1 1 [.slice ad p cp] rfl rfl (lit_val _ _ _) (ones_slice _ _ _) (by unfold maxLen; omega) (by omega) (by simp; omega) ?_)
                intro y7 w7 hown hg7 hsep
                have HTM7 := Lib.hid ((HTM5.out.below ((Below.refl wr.heap.size wr).alloc (Nat.le_refl _) (.cells #[.slice ad p cp] 25))).grow (by rw [HP.out]; exact World.ownsRow.alloc (by rw [← HP.out]; have h := HR6.out; rw [HP.out] at h ⊢; exact h) _) hg7 hown)
                clear hown hg7 hsep HTM5 HR6
                go_wp2_with fail
                go_roundg (T - (q + 1))
                case measure => have := HM3.out; omega
                case rel => exact ⟨q + 1, by have := HM3.out; omega, by go_num, ⟨_, HTM7.out⟩, HNE2.out⟩
        · have hqT : q = T := by have := HM3.out; omega
          have d1 : decide ((q : Int) ≤ (T : Int) - 1) = false := decide_eq_false (by omega)
          have hok : okM cs = true := by
            unfold okM
            rw [HZ.out, HT.out, HN.out, Bool.true_and, List.all_eq_true]
            intro k hk
            have := HNE.out k (by rw [hqT]; exact List.mem_range.1 hk)
            simpa using this
          obtain ⟨oa, oc, rfl⟩ := own_shape HTM.out.row
          have HRA := Lib.hid (HTM.out.rowsAt (fun k _ => by have h1 := mrow_len cs N k; unfold maxLen; omega))
          have HOK := Lib.hid hok
          clear hok hq
          subst hqT
          go_wp2_with fail
          go_ret2
          exact ⟨HTM.out.bel, .inr ⟨HOK.out, oa, oc, by rw [HT.out]; rfl, by rw [HT.out, HN.out]; exact HRA.out⟩⟩
end Go.Proofs.Ytbancojknahdgaa
