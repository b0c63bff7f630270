/- The reference of layer 19: the components (Comps). -/
import Derived.Test.YtbancojknahdgaaCompW
namespace Go.Proofs.Ytbancojknahdgaa
open Go.RowKit CP
/-- what the reference's Comps answers: as comp.Comps does -/
def RCompsPost (w : World) (n : Int) (es : List (Int × Int)) (e : Ending) (w' : World) : Prop :=
  Below w.heap.size w w' ∧ ((mayG n es = false ∧ e = .returned (.tuple #[.slice none 0 0, .int .i64 1])) ∨
    (mayG n es = true ∧ ∃ y, e = .returned (.tuple #[y, .int .i64 0]) ∧ w'.ownsRow w.heap.size 3 1 y n.toNat (iV ((List.range n.toNat).map (cmp n.toNat (natE es))))))
/-- the least nodes and the numbers in memory -/
structure RCM (w1 wr : World) (n bl bn : Nat) (E : Ed) (f : Nat → Nat) : Prop where
  bel : Below w1.heap.size w1 wr
  lst : Blk wr bl 3 (tabI n (ls E))
  num : Blk wr bn 3 (tabI n f)
  bnB : w1.heap.size ≤ bn
  ne : bl ≠ bn
theorem RCM.below {w1 wr w' : World} {n bl bn : Nat} {E : Ed} {f : Nat → Nat} (h : RCM w1 wr n bl bn E f) (hb : Below wr.heap.size wr w') : RCM w1 w' n bl bn E f :=
  ⟨h.bel.trans (hb.mono h.bel.size), h.lst.below hb h.lst.lt, h.num.below hb h.num.lt, h.bnB, h.ne⟩
theorem RCM.drew {w1 wr : World} {n bl bn : Nat} {E : Ed} {f : Nat → Nat} (h : RCM w1 wr n bl bn E f) (q : Nat) : RCM w1 (wr.drewN q) n bl bn E f := h.below (drew_below wr q)
theorem RCM.store {w1 wr : World} {n bl bn : Nat} {E : Ed} {f : Nat → Nat} (h : RCM w1 wr n bl bn E f) {i : Nat} (hi : i < n) (v : Nat) : RCM w1 (wr.setCell ⟨bn, i, none⟩ (.int .i64 (v : Int))) n bl bn E (fup f i v) :=
  ⟨h.bel.setCell h.bnB _, h.lst.far h.ne _, by have := h.num.set_ i (.int .i64 (v : Int)); rw [tabI_set _ hi] at this; exact this, h.bnB, h.ne⟩
/-- no node ahead of i is taken -/
def NoneYet (E : Ed) (f : Nat → Nat) (i : Nat) : Prop := ∀ k, k < i → skipR E f k ∨ (E.all fun e => frR E f k e) = false
theorem NoneYet.next {E : Ed} {f : Nat → Nat} {i : Nat} (h : NoneYet E f i) (hs : skipR E f i ∨ (E.all fun e => frR E f i e) = false) : NoneYet E f (i + 1) := fun k hk => by
  by_cases e : k = i
  · rw [e]; exact hs
  · exact h k (by omega)
theorem all_take {p : Nat × Nat → Bool} {es : List (Int × Int)} {i u v : Nat} {A : Bool} (h : natE (es.take (i + 1)) = natE (es.take i) ++ [(u, v)]) (h0 : ((natE (es.take i)).all p) = A) : (natE (es.take (i + 1))).all p = (A && p (u, v)) := by
  rw [h, List.all_append, h0]; simp
set_option maxRecDepth 100000 in
set_option maxHeartbeats 12800000 in
theorem rcomps_ok (w : World) (n : Int) (ea : Option Addr) (es : List (Int × Int)) (c : Nat) (hm : es.length ≤ maxLen) (hc : Cells w ea (es.flatMap pairCells)) :
    Calls Try.prog 30 #[.int .i64 n, .slice ea es.length c] w (RCompsPost w n es) := by
  have HMY := Lib.hid (rmay_ok w n ea es c hm hc)
  cases hmy : mayG n es with
  | false =>
    have NO : Hid (RCompsPost w n es (.returned (.tuple #[.slice none 0 0, .int .i64 1])) w) := Lib.hid ⟨Below.refl _ _, .inl ⟨hmy, rfl⟩⟩
    rw [hmy] at HMY
    clear hm hc
    go_enter Try.func30, Try.ntmps30
    go_wp2_with fail
    refine HMY.out.mono ?_
    rintro e w1 ⟨rfl, rfl⟩
    go_wp2_with fail
    go_ret2
    exact NO.out
  | true =>
    have hn : 0 ≤ n ∧ n ≤ 1024 := by unfold mayG at hmy; simp at hmy; omega
    obtain ⟨k, rfl⟩ : ∃ k : Nat, n = (k : Int) := ⟨n.toNat, by omega⟩
    have hall : es.all (edZ (k : Int)) = true := by unfold mayG at hmy; simp only [Bool.and_eq_true] at hmy; exact hmy.2
    have hN4 : es.length ≤ 16384 := by unfold mayG at hmy; simp only [Bool.and_eq_true, decide_eq_true_eq] at hmy; exact hmy.1.2
    have hE0 := edOk_of hall
    rw [Int.toNat_natCast] at hE0
    have hk : k ≤ 1024 := by omega
    have HLS := Lib.hid (least_ok w k ea es c hk hN4 hall hc)
    rw [hmy] at HMY
    have YES : Hid (∀ y w', Below w.heap.size w w' → w'.ownsRow w.heap.size 3 1 y k (iV ((List.range k).map (cmp k (natE es)))) → RCompsPost w (k : Int) es (.returned (.tuple #[y, .int .i64 0])) w') := Lib.hid (fun y w' hb hr => ⟨hb, .inr ⟨hmy, y, rfl, hr⟩⟩)
    obtain ⟨N, hN⟩ : ∃ N, es.length = N := ⟨_, rfl⟩
    have HN := Lib.hid hN; have HC := Lib.hid hc; have HALL := Lib.hid hall
    rw [hN] at HMY HLS hN4 ⊢
    obtain ⟨E, hE⟩ : ∃ E, natE es = E := ⟨_, rfl⟩
    rw [hE] at HLS hE0 YES
    have HE := Lib.hid hE; have HEO := Lib.hid hE0
    obtain ⟨j0, hj0, yz0, yz1, yz2⟩ := info_parts int_infoR
    have hm2 := run_make_n (P := Try.prog) 25 3 j0 (.int .i64 0) 1 8 Try.underlying25 hj0 yz0 yz1 yz2 .i64 .i64 k k (Nat.le_refl _) (by omega) (by omega)
    rw [show madeCells (Value.int .i64 0).cells (k * 1) = tabI k fun _ => 0 from made_rep k _] at hm2
    clear hm hc hmy hn hall hE0 hN hE
    go_enter Try.func30, Try.ntmps30
    go_wp2_with fail
    refine HMY.out.mono ?_
    rintro e w1 ⟨rfl, rfl⟩
    go_wp2_with fail
    refine HLS.out.mono ?_
    rintro e w1 ⟨hb1, bl, rfl, hblB, hbl⟩
    obtain ⟨bn, hbn⟩ : ∃ bn, bn = w1.heap.size := ⟨_, rfl⟩
    obtain ⟨w2, hw2⟩ : ∃ w2, w2 = w1.alloc (.cells (tabI k fun _ => 0) 3) := ⟨_, rfl⟩
    have hR : RCM w w2 k bl bn E (fun _ => 0) := by
      rw [hw2, hbn]
      exact ⟨hb1.alloc hb1.size _, hbl.alloc_ _, Blk.new_ _ _ _, hb1.size, Nat.ne_of_lt hbl.lt⟩
    have HR := Lib.hid hR
    clear hR hb1 hblB hbl HMY HLS
    go_upto_region 5 with (fail)
    rw [← hw2]
    try rw [← hbn]
    clear hw2 hbn hm2
    go_wp2_with fail
    go_loopg [8] k (fun m x wr => ∃ j f, m + j = k ∧ x = .int .i64 ((j + 1 : Nat) : Int) ∧ RCM w wr k bl bn E f ∧ RnI k E j f)
    case atStart => exact ⟨0, _, rfl, rfl, HR.out, RnI.zero k E⟩
    case round =>
      obtain ⟨j, f, hm3, rfl, hr, hri⟩ := hrel
      have HM := Lib.hid hm3; have HR2 := Lib.hid hr; have HI := Lib.hid hri
      clear hm3 hr hri HR
      obtain ⟨J, hJ⟩ : ∃ J, j + 1 = J := ⟨_, rfl⟩
      have HJ := Lib.hid hJ
      rw [hJ]
      by_cases hj : j < k
      · have hJk : J ≤ k := by omega
        have hJ0 : 0 < J := by omega
        clear hJ
        go_wp2_with fail
        go_loopg [9] k (fun m x wr => ∃ i, m + i = k ∧ x = .int .i64 (i : Int) ∧ RCM w wr k bl bn E f ∧ NoneYet E f i)
        case atStart => exact ⟨0, rfl, rfl, HR2.out, fun q hq => absurd hq (Nat.not_lt_zero _)⟩
        case round =>
          obtain ⟨i, hm4, rfl, hr, hno⟩ := hrel
          have HM4 := Lib.hid hm4; have HR3 := Lib.hid hr; have HNO := Lib.hid hno
          clear hm4 hr hno HR2
          by_cases hi : i < k
          · have p0 := (HR3.out.lst.cell i).trans (tabI_get _ hi)
            have p1 := (HR3.out.num.cell i).trans (tabI_get _ hi)
            have fo := HR3.out.num.frozen i
            have ol := HR3.out.num.lt
            obtain ⟨X, hX⟩ : ∃ X, ls E i = X := ⟨_, rfl⟩
            obtain ⟨Y, hY⟩ : ∃ Y, f i = Y := ⟨_, rfl⟩
            rw [hX] at p0
            rw [hY] at p1
            have HX := Lib.hid hX; have HY := Lib.hid hY
            clear hX hY
            by_cases hXi : X = i
            · subst hXi
              by_cases hY0 : 0 < Y
              · have HNO2 := Lib.hid (HNO.out.next (.inl (.inr (by rw [HY.out]; exact hY0))))
                go_wp2_with fail
                go_roundg (k - (X + 1))
                case measure => have := HM4.out; omega
                case rel => exact ⟨X + 1, by have := HM4.out; omega, by go_num, HR3.out, HNO2.out⟩
              · have hYz : Y = 0 := by omega
                subst hYz
                clear hY0
                obtain ⟨w3, hw3⟩ : ∃ w3, w3 = wr := ⟨_, rfl⟩
                rw [← hw3] at p0 p1 fo ol HR3 ⊢
                clear hw3
                go_wp2_with fail
                go_loopg [10, 11] N (fun m x y wr => ∃ q A, m + q = N ∧ y = .int .i64 (q : Int) ∧ x = .bool A ∧ (natE (es.take q)).all (frR E f X) = A ∧ ∃ d, wr = w3.drewN d)
                case atStart => exact ⟨0, true, rfl, rfl, rfl, rfl, 0, rfl⟩
                case round =>
                  obtain ⟨q, A, hm5, rfl, rfl, hA, hdr⟩ := hrel
                  have HM5 := Lib.hid hm5; have HA := Lib.hid hA; have HD := Lib.hid hdr
                  have hr4 : RCM w wr k bl bn E f := by obtain ⟨d, rfl⟩ := hdr; exact HR3.out.drew d
                  have HR4 := Lib.hid hr4
                  clear hm5 hA hdr p0 p1 fo ol hr4
                  by_cases hq : q < N
                  · obtain ⟨x, hx⟩ : ∃ x, es[q]? = some x := ⟨_, List.getElem?_eq_getElem (by rw [HN.out]; exact hq)⟩
                    obtain ⟨b, off, hea, hbl, k0, k1⟩ := (HC.out.below HR4.out.bel).pair hx
                    obtain ⟨u, v, rfl, hu, hv, huv⟩ := edge_at2 HALL.out hx
                    subst hea
                    simp only at k0 k1
                    have htk := natE_take hx
                    rw [Int.toNat_natCast, Int.toNat_natCast] at htk
                    have HTK := Lib.hid (all_take htk HA.out)
                    have hUl := ls_lt (E := E) hu
                    have q0 := (HR4.out.lst.cell u).trans (tabI_get _ hu)
                    have q1 := (HR4.out.lst.cell v).trans (tabI_get _ hv)
                    have hfr : frR E f X (u, v) = (ls E v != X || ls E u == X || decide (0 < f (ls E u))) := rfl
                    obtain ⟨U, hU⟩ : ∃ U, ls E u = U := ⟨_, rfl⟩
                    obtain ⟨V, hV⟩ : ∃ V, ls E v = V := ⟨_, rfl⟩
                    rw [hU] at q0 hfr hUl
                    rw [hV] at q1 hfr
                    have q2 := (HR4.out.num.cell U).trans (tabI_get _ hUl)
                    obtain ⟨G, hG⟩ : ∃ G, f U = G := ⟨_, rfl⟩
                    rw [hG] at q2 hfr
                    rw [hfr] at HTK
                    clear hx htk huv hfr hU hV hG
                    go_wp2_with fail
                    go_quiet (fail)
                    have HD5 := Lib.hid (drew_more HD.out nq)
                    obtain ⟨w5, hw5⟩ : ∃ w5, w5 = wr.drewN nq := ⟨_, rfl⟩
                    rw [← hw5] at HD5 ⊢
                    have q3 : w5.cell? ⟨bn, U, none⟩ = some (.int .i64 (G : Int)) := by rw [hw5]; exact q2
                    clear hw5 k0 k1 q0 q1 q2 HR4 HD
                    cases A with
                    | false =>
                      rw [Bool.false_and] at HTK
                      go_wp2_with fail
                      go_roundg (N - (q + 1))
                      case measure => have := HM5.out; omega
                      case rel => exact ⟨q + 1, false, by have := HM5.out; omega, by go_num, rfl, HTK.out, HD5.out⟩
                    | true =>
                      by_cases hVX : V = X
                      · subst hVX
                        by_cases hUX : U = V
                        · subst hUX
                          have HT2 : Hid ((natE (es.take (q + 1))).all (frR E f U) = true) := Lib.hid (by rw [HTK.out]; simp)
                          clear HTK
                          go_wp2_with fail
                          go_roundg (N - (q + 1))
                          case measure => have := HM5.out; omega
                          case rel => exact ⟨q + 1, true, by have := HM5.out; omega, by go_num, rfl, HT2.out, HD5.out⟩
                        · have d1 : (U == V) = false := beq_eq_false_iff_ne.2 hUX
                          have d2 : ((U : Int) == (V : Int)) = false := by rw [beq_eq_false_iff_ne]; omega
                          by_cases hG : 0 < G
                          · have HT2 : Hid ((natE (es.take (q + 1))).all (frR E f V) = true) := Lib.hid (by rw [HTK.out]; simp [hG])
                            clear HTK hUX
                            go_wp2_with fail
                            go_roundg (N - (q + 1))
                            case measure => have := HM5.out; omega
                            case rel => exact ⟨q + 1, true, by have := HM5.out; omega, by go_num, rfl, HT2.out, HD5.out⟩
                          · have HT2 : Hid ((natE (es.take (q + 1))).all (frR E f V) = false) := Lib.hid (by rw [HTK.out, d1]; simp [hG])
                            have hG0 : G = 0 := by omega
                            subst hG0
                            clear HTK hUX hG
                            go_wp2_with fail
                            go_roundg (N - (q + 1))
                            case measure => have := HM5.out; omega
                            case rel => exact ⟨q + 1, false, by have := HM5.out; omega, by go_num, rfl, HT2.out, HD5.out⟩
                      · have d1 : (V != X) = true := by simpa using hVX
                        have d2 : ((V : Int) != (X : Int)) = true := by rw [bne_iff_ne]; omega
                        have HT2 : Hid ((natE (es.take (q + 1))).all (frR E f X) = true) := Lib.hid (by rw [HTK.out, d1]; simp)
                        clear HTK hVX
                        go_wp2_with fail
                        go_roundg (N - (q + 1))
                        case measure => have := HM5.out; omega
                        case rel => exact ⟨q + 1, true, by have := HM5.out; omega, by go_num, rfl, HT2.out, HD5.out⟩
                  · have hA2 : (E.all fun e => frR E f X e) = A := by
                      have := HA.out
                      rw [List.take_of_length_le (by rw [HN.out]; omega), HE.out] at this; exact this
                    have HA2 := Lib.hid hA2
                    clear hA2 HA
                    cases A with
                    | false =>
                      have HNO2 := Lib.hid (HNO.out.next (.inr HA2.out))
                      go_wp2_with fail
                      go_roundg (k - (X + 1))
                      case measure => have := HM4.out; omega
                      case rel => exact ⟨X + 1, by have := HM4.out; omega, by go_num, HR4.out, HNO2.out⟩
                    | true =>
                      have fo := HR4.out.num.frozen X
                      have ol := HR4.out.num.lt
                      have p1 := (HR4.out.num.cell X).trans (tabI_get _ hi)
                      have HR5 := Lib.hid (HR4.out.store hi J)
                      have HI2 : Hid (RnI k E (j + 1) (fup f X J)) := Lib.hid (by
                        rw [← HJ.out]
                        exact RnI.next HEO.out HI.out hi HX.out HY.out HA2.out HNO.out)
                      go_wp2_with fail
                      go_roundg (k - (j + 1))
                      case measure => have := HM.out; omega
                      case rel => exact ⟨j + 1, _, by have := HM.out; omega, by rw [← HJ.out]; go_num, HR5.out, HI2.out⟩
            · have d1 : (X != i) = true := by simpa using hXi
              have d2 : ((X : Int) != (i : Int)) = true := by rw [bne_iff_ne]; omega
              have HNO2 := Lib.hid (HNO.out.next (.inl (.inl (by rw [HX.out]; exact hXi))))
              clear hXi
              go_wp2_with fail
              go_roundg (k - (i + 1))
              case measure => have := HM4.out; omega
              case rel => exact ⟨i + 1, by have := HM4.out; omega, by go_num, HR3.out, HNO2.out⟩
          · have hik : i = k := by have := HM4.out; omega
            have HI2 : Hid (RnI k E (j + 1) f) := Lib.hid (RnI.none HEO.out HI.out (by rw [← hik]; exact HNO.out))
            go_wp2_with fail
            go_roundg (k - (j + 1))
            case measure => have := HM.out; omega
            case rel => exact ⟨j + 1, f, by have := HM.out; omega, by rw [← HJ.out]; go_num, HR3.out, HI2.out⟩
      · have hjk : j = k := by have := HM.out; omega
        have hIk := HI.out
        rw [hjk] at hIk
        have HK := Lib.hid hIk
        have dJ : decide (J ≤ k) = false := decide_eq_false (by omega)
        clear hIk hJ hj
        obtain ⟨w5, hw5⟩ : ∃ w5, w5 = wr := ⟨_, rfl⟩
        rw [← hw5] at HR2 ⊢
        clear hw5
        go_wp2_with fail
        go_loopg [14, 15] k (fun m y x wr => ∃ i, m + i = k ∧ x = .int .i64 (i : Int) ∧ Below w5.heap.size w5 wr ∧ wr.ownsRow w5.heap.size 3 1 y i (iV ((List.range i).map (cmp k E))))
        case atStart => exact ⟨0, rfl, rfl, Below.refl _ _, World.ownsRow_nil _ _ _ _⟩
        case round =>
          obtain ⟨i, hm4, rfl, hb, hrow⟩ := hrel
          have HM4 := Lib.hid hm4; have HB := Lib.hid hb; have HROW := Lib.hid hrow
          have hws : w5.heap.size ≤ wr.heap.size := hb.size
          clear hm4 hb hrow
          by_cases hi : i < k
          · have hl := ls_lt (E := E) hi
            have hR6 := HR2.out.below HB.out
            have p0 := (hR6.lst.cell i).trans (tabI_get _ hi)
            have p1 := (hR6.num.cell (ls E i)).trans (tabI_get _ hl)
            obtain ⟨h1, h2⟩ := RnI.done HK.out HEO.out hi
            obtain ⟨X, hX⟩ : ∃ X, ls E i = X := ⟨_, rfl⟩
            rw [hX] at p0 p1 hl h1 h2
            obtain ⟨Z, hZ⟩ : ∃ Z, cmp k E i = Z := ⟨_, rfl⟩
            rw [hZ] at h2
            have e1 : f X = Z + 1 := by omega
            have hZk : Z < k := by rw [← hZ]; exact cmp_lt HEO.out hi
            rw [e1] at p1
            obtain ⟨Z1, hZ1⟩ : ∃ Z1, Z + 1 = Z1 := ⟨_, rfl⟩
            rw [hZ1] at p1
            have e2 : (Z1 : Int) - 1 = (Z : Int) := by omega
            have HZ : Hid (iV ((List.range (i + 1)).map (cmp k E)) = iV ((List.range i).map (cmp k E)) ++ [.int .i64 (Z : Int)]) := Lib.hid (by
              rw [List.range_succ, List.map_append, iV_app, ← hZ]; rfl)
            clear hX hZ hR6 e1 h1 h2 hZ1
            go_wp2_with (at_builtin; refine wpList_append_sep rfl (.tmp 98) (.tmp 107) 25 rfl w5.heap.size 3 j0 (.int .i64 0) 1 8 Try.underlying25 hj0 yz0 yz1 yz2 rfl (by decide) u14 i _ rfl (HROW.out.alloc _) wr.heap.size 0 1 1 [.int .i64 (Z : Int)] rfl rfl (lit_one _ _ _) (ones_int _) (by unfold maxLen; omega) (by omega) (by simp; omega) ?_)
            intro y7 w7 hown hg7 hsep
            have HR7 : Hid (w7.ownsRow w5.heap.size 3 1 y7 (i + 1) (iV ((List.range (i + 1)).map (cmp k E)))) := Lib.hid (by rw [HZ.out]; exact hown)
            have HB7 : Hid (Below w5.heap.size w5 w7) := Lib.hid ((HB.out.alloc hws (.cells #[.int .i64 (Z : Int)] 3)).grown hg7 (Nat.le_trans hws (Nat.le_of_lt (by simp))) (fun j hj => (HROW.out.lt j hj).1))
            clear hown hg7 hsep HROW HB
            go_wp2_with fail
            go_roundg (k - (i + 1))
            case measure => have := HM4.out; omega
            case rel => exact ⟨i + 1, by have := HM4.out; omega, by go_num, HB7.out, HR7.out⟩
          · have hik : i = k := by have := HM4.out; omega
            subst hik
            have HB8 := Lib.hid (HR2.out.bel.trans (HB.out.mono HR2.out.bel.size))
            go_wp2_with fail
            go_ret2
            exact YES.out _ _ HB8.out (own_base HROW.out HR2.out.bel.size)
end Go.Proofs.Ytbancojknahdgaa
