/- CompOrder's walk. -/
import Derived.Test.YtbancojknahdgaaCompR
namespace Go.Proofs.Ytbancojknahdgaa
open Go.RowKit CP
theorem may_at {n : Nat} {l : List (Int × Int)} (h : mayG (n : Int) l = true) {i : Nat} {x : Int × Int} (hx : l[i]? = some x) : ∃ u v : Nat, x = ((u : Int), (v : Int)) ∧ u < n ∧ v < n ∧ (u, v) ∈ natE l := by
  unfold mayG at h
  simp only [Bool.and_eq_true] at h
  have h1 := List.all_eq_true.1 h.2 x (List.mem_of_getElem? hx)
  unfold edZ at h1
  simp at h1
  obtain ⟨x0, x1⟩ := x
  simp at h1
  refine ⟨x0.toNat, x1.toNat, ?_, by omega, by omega, List.mem_map.2 ⟨(x0, x1), List.mem_of_getElem? hx, rfl⟩⟩
  rw [Int.toNat_of_nonneg (by omega), Int.toNat_of_nonneg (by omega)]
theorem may_ok {n : Nat} {l : List (Int × Int)} (h : mayG (n : Int) l = true) : EdOk (natE l) n := by
  unfold mayG at h
  simp only [Bool.and_eq_true] at h
  have := edOk_of h.2
  rw [Int.toNat_natCast] at this; exact this
theorem iVr_at {n : Nat} (f : Nat → Nat) {i : Nat} (h : i < n) : (iV ((List.range n).map f))[i]? = some (.int .i64 (f i : Int)) := by
  unfold iV
  rw [List.getElem?_map, List.getElem?_map, List.getElem?_range h]; rfl
theorem own_cellsC {w : World} {base e size n cap : Nat} {a : Option Addr} {xs : List Value} (h : w.ownsRow base e size (.slice a n cap) n xs) : Cells w a xs := by
  obtain ⟨a', cap', he, hc⟩ := Cells.of_own h
  injection he with h1 _ _
  subst h1; exact hc.2.2
/-- rows of numbers, one appended behind the other -/
structure TM (w0 wr : World) (i : Nat) (g : Nat → List Nat) (y : Value) (sl : Nat → Value) : Prop where
  bel : Below w0.heap.size w0 wr
  row : wr.ownsRow w0.heap.size 25 1 y i ((List.range i).map sl)
  rows : ∀ k, k < i → wr.ownsRow w0.heap.size 3 1 (sl k) (g k).length (iV (g k))
theorem TM.below {w0 wr w' : World} {i : Nat} {g : Nat → List Nat} {y : Value} {sl : Nat → Value} (h : TM w0 wr i g y sl) (hb : Below wr.heap.size wr w') : TM w0 w' i g y sl :=
  ⟨h.bel.trans (hb.mono h.bel.size), own_below h.row hb, fun k hk => own_below (h.rows k hk) hb⟩
theorem TM.start (w0 : World) (g : Nat → List Nat) (sl : Nat → Value) : TM w0 w0 0 g (.slice none 0 0) sl := ⟨Below.refl _ _, World.ownsRow_nil _ _ _ _, fun _ hk => absurd hk (Nat.not_lt_zero _)⟩
theorem TM.grow {w0 wr w' : World} {i : Nat} {g : Nat → List Nat} {y y' v : Value} {sl : Nat → Value} (h : TM w0 wr i g y sl) (hv : wr.ownsRow w0.heap.size 3 1 v (g i).length (iV (g i))) (hg : wr.grownBy w' y.ownBlock)
    (ho : w'.ownsRow w0.heap.size 25 1 y' (i + 1) ((List.range i).map sl ++ [v])) : TM w0 w' (i + 1) g y' (fup sl i v) := by
  have e : (List.range (i + 1)).map (fup sl i v) = (List.range i).map sl ++ [v] := by
    rw [List.range_succ, List.map_append]
    congr 1
    · exact List.map_congr_left fun k hk => by rw [fup_ne _ _ (by have := List.mem_range.1 hk; omega)]
    · simp [fup_same]
  refine ⟨h.bel.grown hg h.bel.size (fun j hj => (h.row.lt j hj).1), by rw [e]; exact ho, fun k hk => ?_⟩
  by_cases hki : k = i
  · subst hki
    rw [fup_same]
    exact hv.kept hg (own_ne_own hv h.row (by decide))
  · rw [fup_ne _ _ hki]
    have hr := h.rows k (by omega)
    exact hr.kept hg (own_ne_own hr h.row (by decide))
theorem TM.rowsAt {w0 wr : World} {i : Nat} {g : Nat → List Nat} {sl : Nat → Value} {a : Option Addr} {c : Nat} (h : TM w0 wr i g (.slice a i c) sl) (hl : ∀ k, k < i → (g k).length ≤ maxLen) : RowsAt wr a ((List.range i).map fun k => (g k).map fun z : Nat => (z : Int)) := by
  refine ⟨(List.range i).map sl, own_cellsC h.row, fun k l hk => ?_⟩
  rw [List.getElem?_map] at hk
  obtain ⟨k', hk', rfl⟩ := Option.map_eq_some_iff.1 hk
  have hlt : k < i := by have := (List.getElem?_eq_some_iff.1 hk').1; simpa using this
  rw [List.getElem?_range hlt] at hk'
  injection hk' with hk'
  subst hk'
  have hr := h.rows k hlt
  obtain ⟨ad, cp, e⟩ := own_shape hr
  rw [e] at hr
  refine ⟨by rw [List.length_map]; exact hl k hlt, ad, cp, ?_, ?_⟩
  · rw [List.getElem?_map, List.getElem?_range hlt, List.length_map, ← e]; rfl
  · rw [← iV_z]; exact own_cellsC hr
theorem mem_reach {n : Nat} {E : Ed} {i k : Nat} (hk : k < n) : decide ((k : Int) ∈ (reachL n E i).map fun z : Nat => (z : Int)) = rcB E i k := by
  refine Bool.eq_iff_iff.2 ?_
  rw [decide_eq_true_iff, List.mem_map]
  unfold reachL
  constructor
  · rintro ⟨z, hz, e⟩
    have : z = k := by omega
    subst this
    exact (List.mem_filter.1 hz).2
  · intro h
    exact ⟨k, List.mem_filter.2 ⟨List.mem_range.2 hk, h⟩, rfl⟩
theorem reachL_len (n : Nat) (E : Ed) (i : Nat) : (reachL n E i).length ≤ n := by
  unfold reachL
  exact Nat.le_trans (List.length_filter_le _ _) (by rw [List.length_range]; exact Nat.le_refl _)
theorem both_and (E : Ed) (a b : Nat) : both E a b = (rcB E a b && rcB E b a) := by
  refine Bool.eq_iff_iff.2 ?_
  rw [both_iff, Bool.and_eq_true, rcB_iff, rcB_iff]; rfl
theorem lit_val (w : World) (v : Value) (t : TypeId) : ∀ j u, [v][j]? = some u → (w.alloc (.cells #[v] t)).cell? ((⟨w.heap.size, 0, none⟩ : Addr).add j) = some u := by
  intro j u hj
  match j, hj with
  | 0, hj => simp at hj; subst hj; exact World.cell?_alloc_new ..
theorem ones_slice (a : Option Addr) (n c : Nat) : ∀ u ∈ [Value.slice a n c], u.oneCell' = true := by intro u hu; simp at hu; subst hu; rfl
theorem okR_true {n : Nat} {l : List (Int × Int)} (h : mayG (n : Int) l = true) {i : Nat} (hi : i < n) : okR (n : Int) l (i : Int) = true := by
  unfold okR; rw [h]; simp; omega
set_option maxRecDepth 100000 in
set_option maxHeartbeats 12800000 in
theorem compOrder_walk (w : World) (z : Int) (_zw : (Lit.int .i64 z).wf = true) (ea : Option Addr) (c : Nat) (es : List (Int × Int)) (hlc : es.length ≤ c) (hmc : c ≤ maxLen) (hc0 : Cells w ea (es.flatMap pairCells)) (_wf : ∀ y ∈ es, wfI y.1 ∧ wfI y.2) :
    Calls Try.prog 12 #[.int .i64 z, .slice ea es.length c] w (FineC w) := by
  have HS := Lib.hid (some_ok w z ea es c (by omega) hc0)
  have hln := sE_len (sN z) es
  have HMAY := Lib.hid (sE_may z es)
  obtain ⟨hn1, hn2⟩ := sN_lt z
  obtain ⟨N, hN⟩ : ∃ N, es.length = N := ⟨_, rfl⟩
  rw [hN] at HS ⊢
  clear hc0 hN hlc hmc
  go_enter Try.func12, Try.ntmps12
  go_wp2_with fail
  refine HS.out.mono ?_
  rintro e w1 ⟨hb1, y, rfl, hr1⟩
  obtain ⟨n, hn⟩ : ∃ n, sN z = n := ⟨_, rfl⟩
  rw [hn] at hr1 HMAY hln hn1 hn2 ⊢
  obtain ⟨l, hl⟩ : ∃ l, sE n es = l := ⟨_, rfl⟩
  rw [hl] at hr1 HMAY hln
  clear hn hl HS
  obtain ⟨L, hL⟩ : ∃ L, l.length = L := ⟨_, rfl⟩
  obtain ⟨la, lc, rfl, _, _, hlcells⟩ := Cells.of_own hr1
  have HLC := Lib.hid hlcells; have HB1 := Lib.hid hb1
  have HC := Lib.hid (comps_ok w1 (n : Int) la l lc (by unfold maxLen; omega) hlcells)
  have HLL := Lib.hid hL
  rw [hL] at hln HC ⊢
  clear hr1 hlcells hb1 hL
  go_wp2_with fail
  refine HC.out.mono ?_
  rintro e w2 ⟨hb2, h | h⟩
  · exact absurd h.1 (by rw [HMAY.out]; decide)
  obtain ⟨_, y, rfl, hr2⟩ := h
  rw [Int.toNat_natCast] at hr2
  obtain ⟨E, hE⟩ : ∃ E, natE l = E := ⟨_, rfl⟩
  have hEO := may_ok HMAY.out
  rw [hE] at hr2 hEO
  have HEO := Lib.hid hEO; have HE := Lib.hid hE
  obtain ⟨ca, cc, rfl, _, _, hcc⟩ := Cells.of_own hr2
  obtain ⟨C, hC⟩ : ∃ C : Nat → Nat, cmp n E = C := ⟨_, rfl⟩
  rw [hC] at hcc
  have HCC := Lib.hid hcc; have HCE := Lib.hid hC
  have HB2 := Lib.hid (HB1.out.trans (hb2.mono HB1.out.size))
  have HLC2 := Lib.hid (HLC.out.below hb2)
  clear hr2 hE hEO hcc hC hb2 HC HB1 HLC
  go_wp2_with fail
  go_loopg [9] L (fun m x wr => ∃ i : Nat, m + i = L ∧ x = .int .i64 (i : Int) ∧ ∃ q, wr = w2.drewN q)
  case atStart => exact ⟨0, rfl, rfl, 0, rfl⟩
  case round =>
    obtain ⟨i, hm2, rfl, hq⟩ := hrel
    have HM := Lib.hid hm2; have HQ := Lib.hid hq
    have HBW : Hid (Below w2.heap.size w2 wr) := Lib.hid (by obtain ⟨q, rfl⟩ := hq; exact drew_below w2 q)
    clear hm2 hq
    by_cases hi : i < L
    · obtain ⟨x, hx⟩ : ∃ x, l[i]? = some x := ⟨_, List.getElem?_eq_getElem (by rw [HLL.out]; exact hi)⟩
      obtain ⟨b, off, hla, hbl, k0, k1⟩ := (HLC2.out.below HBW.out).pair hx
      obtain ⟨u, v, rfl, hu, hv, huv⟩ := may_at HMAY.out hx
      subst hla
      simp only at k0 k1
      obtain ⟨b2, off2, hca, hbl2, q0⟩ := (HCC.out.below HBW.out).at_ (iVr_at C hu)
      subst hca
      obtain ⟨b3, off3, hca3, _, q1⟩ := (HCC.out.below HBW.out).at_ (iVr_at C hv)
      injection hca3 with hca3
      injection hca3 with e1 e2 _
      subst e1 e2
      have hle : C u ≤ C v := by rw [← HCE.out]; rw [HE.out] at huv; exact cmp_edge HEO.out huv
      obtain ⟨X, hX⟩ : ∃ X, C u = X := ⟨_, rfl⟩
      obtain ⟨Y, hY⟩ : ∃ Y, C v = Y := ⟨_, rfl⟩
      rw [hX] at q0 hle
      rw [hY] at q1 hle
      have d1 : decide (Y < X) = false := decide_eq_false (by omega)
      clear hx huv hX hY hle
      go_wp2_with fail
      go_quiet (fail)
      go_wp2_with fail
      go_roundg (L - (i + 1))
      case measure => have := HM.out; omega
      case rel => exact ⟨i + 1, by have := HM.out; omega, by go_num, drew_more HQ.out _⟩
    · have HB3 : Hid (Below w.heap.size w wr) := Lib.hid (HB2.out.trans (HBW.out.mono HB2.out.size))
      have HLC3 := Lib.hid (HLC2.out.below HBW.out)
      have HCC3 := Lib.hid (HCC.out.below HBW.out)
      clear HB2 HBW HLC2 HCC HQ
      obtain ⟨G, hG⟩ : ∃ G, reachL n E = G := ⟨_, rfl⟩
      have HGL : Hid (∀ i, (G i).length ≤ n) := Lib.hid (fun i => by rw [← hG]; exact reachL_len n E i)
      have HGE := Lib.hid hG
      clear hG
      obtain ⟨w3, hw3⟩ : ∃ w3, w3 = wr := ⟨_, rfl⟩
      subst hw3
      go_wp2_with fail
      go_loopg [10, 11] n (fun m y x wr => ∃ i : Nat, m + i = n ∧ x = .int .i64 (i : Int) ∧ ∃ sl, TM w3 wr i G y sl)
      case atStart => exact ⟨0, rfl, rfl, fun _ => undef, TM.start _ _ _⟩
      case round =>
        obtain ⟨i, hm3, rfl, sl, htm⟩ := hrel
        have HM3 := Lib.hid hm3; have HTM := Lib.hid htm
        clear hm3 htm
        by_cases hi3 : i < n
        · have hr := reach_ok wr (n : Int) la l lc (i : Int) (by rw [HLL.out]; unfold maxLen; omega) (HLC3.out.below HTM.out.bel)
          rw [HLL.out] at hr
          have HR := Lib.hid hr
          clear hr
          go_wp2_with fail
          refine HR.out.mono ?_
          rintro e w5 ⟨hb5, h | h⟩
          · exact absurd h.1 (by rw [okR_true HMAY.out hi3]; decide)
          obtain ⟨_, y5, rfl, hr5⟩ := h
          rw [Int.toNat_natCast, Int.toNat_natCast, HE.out, HGE.out] at hr5
          have HTM5 := Lib.hid (HTM.out.below hb5)
          have hgl := HGL.out i
          have hr6 := own_base hr5 HTM.out.bel.size
          obtain ⟨ad, cp, rfl⟩ := own_shape hr6
          have HR6 := Lib.hid hr6
          obtain ⟨gi, hgi⟩ : ∃ gi, (G i).length = gi := ⟨_, rfl⟩
          rw [hgi] at hgl
          have HGI := Lib.hid hgi
          rw [hgi] at hr6 ⊢
          have hsz5 : w3.heap.size ≤ w5.heap.size := HTM5.out.bel.size
          obtain ⟨j0, hj0, yz0, yz1, yz2⟩ := info_parts rows_info
          clear hr5 hr6 hb5 hgi HR HTM
          go_wp2_with (at_builtin; refine wpList_append_sep rfl (.tmp 73) (.tmp 75) 42 rfl w3.heap.size 25 j0 (.slice none 0 0) 1 24 Try.underlying42 hj0 yz0 yz1 yz2 rfl (by decide) u10 i _ rfl (HTM5.out.row.alloc _) w5.heap.size 0 1 1 [.slice ad gi cp] rfl rfl (lit_val _ _ _) (ones_slice _ _ _) (by unfold maxLen; omega) (by omega) (by simp; omega) ?_)
          intro y7 w7 hown hg7 hsep
          have HTM7 := Lib.hid ((HTM5.out.below ((Below.refl w5.heap.size w5).alloc (Nat.le_refl _) (.cells #[.slice ad gi cp] 25))).grow (by rw [HGI.out]; exact World.ownsRow.alloc (by rw [← HGI.out]; have h := HR6.out; rw [HGI.out] at h ⊢; exact h) _) hg7 hown)
          clear hown hg7 hsep HTM5 HR6
          go_wp2_with fail
          go_roundg (n - (i + 1))
          case measure => have := HM3.out; omega
          case rel => exact ⟨i + 1, by have := HM3.out; omega, by go_num, _, HTM7.out⟩
        · have hin : i = n := by have := HM3.out; omega
          subst hin
          obtain ⟨oa, oc, rfl⟩ := own_shape HTM.out.row
          have HRA := Lib.hid (HTM.out.rowsAt (fun k _ => by have h1 := HGL.out k; unfold maxLen; omega))
          have HB4 := Lib.hid (HB3.out.trans (HTM.out.bel.mono HB3.out.size))
          have HCC4 := Lib.hid (HCC3.out.below HTM.out.bel)
          obtain ⟨w4, hw4⟩ : ∃ w4, w4 = wr := ⟨_, rfl⟩
          rw [← hw4] at HRA HB4 HCC4 ⊢
          clear hw4 HTM HB3 HCC3 HLC3 hi3
          go_wp2_with fail
          go_loopg [14] i (fun m x wr => ∃ k : Nat, m + k = i ∧ x = .int .i64 (k : Int) ∧ ∃ q, wr = w4.drewN q)
          case atStart => exact ⟨0, rfl, rfl, 0, rfl⟩
          case round =>
            obtain ⟨k, hm4, rfl, hq4⟩ := hrel
            have HM4 := Lib.hid hm4; have HQ4 := Lib.hid hq4
            clear hm4 hq4
            by_cases hk : k < i
            · go_wp2_with fail
              go_loopg [15] i (fun m x wr => ∃ j : Nat, m + j = i ∧ x = .int .i64 (j : Int) ∧ ∃ q, wr = w4.drewN q)
              case atStart => exact ⟨0, rfl, rfl, HQ4.out⟩
              case round =>
                obtain ⟨j, hm5, rfl, hq5⟩ := hrel
                have HM5 := Lib.hid hm5; have HQ5 := Lib.hid hq5
                have HBW : Hid (Below w4.heap.size w4 wr) := Lib.hid (by obtain ⟨q, rfl⟩ := hq5; exact drew_below w4 q)
                clear hm5 hq5 HQ4
                by_cases hj : j < i
                · obtain ⟨b2, off2, hca, hbl2, q0⟩ := (HCC4.out.below HBW.out).at_ (iVr_at C hk)
                  obtain ⟨b3, off3, hca3, _, q1⟩ := (HCC4.out.below HBW.out).at_ (iVr_at C hj)
                  subst hca
                  injection hca3 with hca3
                  injection hca3 with e1 e2 _
                  subst e1 e2
                  have hat : ∀ z, z < i → ((List.range i).map fun k => (G k).map fun z : Nat => (z : Int))[z]? = some ((G z).map fun z : Nat => (z : Int)) := fun z hz => by rw [List.getElem?_map, List.getElem?_range hz]; rfl
                  obtain ⟨b4, off4, a4, c4, ea4, hb4, hc4, hr4, hx4⟩ := (HRA.out.below HBW.out).at_ (hat k hk)
                  obtain ⟨b5, off5, a5, c5, ea5, hb5, hc5, hr5, hx5⟩ := (HRA.out.below HBW.out).at_ (hat j hj)
                  subst ea4
                  injection ea5 with ea5
                  injection ea5 with e1 e2 _
                  subst e1 e2
                  have HI1 := Lib.hid (fun q => in_ok (wr.drewN q) a4 _ c4 (j : Int) hx4 (hr4.below (drew_below wr q)))
                  have HI2 := Lib.hid (fun q => in_ok (wr.drewN q) a5 _ c5 (k : Int) hx5 (hr5.below (drew_below wr q)))
                  have hb := cmp_same HEO.out hk hj
                  rw [both_and, HCE.out] at hb
                  have p1 := mem_reach (n := i) (E := E) (i := k) (k := j) hj
                  have p2 := mem_reach (n := i) (E := E) (i := j) (k := k) hk
                  rw [HGE.out] at p1 p2
                  rw [p1] at HI1
                  rw [p2] at HI2
                  rw [List.length_map] at HI1 HI2 hc4 hc5
                  obtain ⟨X, hX⟩ : ∃ X, C k = X := ⟨_, rfl⟩
                  obtain ⟨Y, hY⟩ : ∃ Y, C j = Y := ⟨_, rfl⟩
                  rw [hX] at q0 hb
                  rw [hY] at q1 hb
                  obtain ⟨l4, hl4⟩ : ∃ l4, (G k).length = l4 := ⟨_, rfl⟩
                  obtain ⟨l5, hl5⟩ : ∃ l5, (G j).length = l5 := ⟨_, rfl⟩
                  rw [hl4] at HI1 hc4
                  rw [hl5] at HI2 hc5
                  obtain ⟨r1, hr1⟩ : ∃ r, rcB E k j = r := ⟨_, rfl⟩
                  obtain ⟨r2, hr2⟩ : ∃ r, rcB E j k = r := ⟨_, rfl⟩
                  rw [hr1] at HI1 hb
                  rw [hr2] at HI2 hb
                  clear hX hY hl4 hl5 hat p1 p2 hr1 hr2 hx4 hx5 hr4 hr5
                  cases r1 with
                  | false =>
                    have d1 : (X == Y) = false := by simp only [Bool.false_and] at hb; simpa using fun e => absurd (hb.1 e) (by decide)
                    clear hb
                    go_wp2_with fail
                    go_quiet ((go_at_call 37; first | with_reducible exact Calls.quiet_of (HI1.out _) | with_reducible exact Calls.quiet_of (HI2.out _)))
                    go_wp2_with fail
                    go_roundg (i - (j + 1))
                    case measure => have := HM5.out; omega
                    case rel => exact ⟨j + 1, by have := HM5.out; omega, by go_num, drew_more HQ5.out _⟩
                  | true =>
                    cases r2 with
                    | false =>
                      have d1 : (X == Y) = false := by simpa using fun e => absurd (hb.1 e) (by decide)
                      clear hb
                      go_wp2_with fail
                      go_quiet ((go_at_call 37; first | with_reducible exact Calls.quiet_of (HI1.out _) | with_reducible exact Calls.quiet_of (HI2.out _)))
                      go_wp2_with fail
                      go_roundg (i - (j + 1))
                      case measure => have := HM5.out; omega
                      case rel => exact ⟨j + 1, by have := HM5.out; omega, by go_num, drew_more HQ5.out _⟩
                    | true =>
                      have e : X = Y := hb.2 rfl
                      subst e
                      clear hb
                      go_wp2_with fail
                      go_quiet ((go_at_call 37; first | with_reducible exact Calls.quiet_of (HI1.out _) | with_reducible exact Calls.quiet_of (HI2.out _)))
                      go_wp2_with fail
                      go_roundg (i - (j + 1))
                      case measure => have := HM5.out; omega
                      case rel => exact ⟨j + 1, by have := HM5.out; omega, by go_num, drew_more HQ5.out _⟩
                · go_wp2_with fail
                  go_roundg (i - (k + 1))
                  case measure => have := HM4.out; omega
                  case rel => exact ⟨k + 1, by have := HM4.out; omega, by go_num, HQ5.out⟩
            · have HB5 : Hid (Below w.heap.size w wr) := Lib.hid (by
                obtain ⟨q, rfl⟩ := HQ4.out
                exact HB4.out.trans ((drew_below w4 q).mono HB4.out.size))
              go_wp2_with fail
              refine (awake19 wr).mono ?_
              rintro e w9 ⟨rfl, hb9⟩
              have HB9 := Lib.hid hb9
              clear hb9
              go_wp2_with fail
              go_ret
              exact ⟨rfl, HB5.out.trans (HB9.out.mono HB5.out.size)⟩
end Go.Proofs.Ytbancojknahdgaa
