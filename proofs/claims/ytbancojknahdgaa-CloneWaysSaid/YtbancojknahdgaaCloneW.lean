/- The contract of osierref20.Number: it answers what clone.Number does. -/
import Derived.Test.YtbancojknahdgaaCloneC
import Derived.Test.YtbancojknahdgaaCompY
namespace Go.Proofs.Ytbancojknahdgaa
open Go.RowKit CP
/-- the reference's memory in its loops -/
structure RSt (w5 wr : World) (m N bc ba : Nat) (f g : Nat → Nat) : Prop where
  bel : Below w5.heap.size w5 wr
  cb : Blk wr bc 3 (tabI m f)
  ab : Blk wr ba 3 (tabI N g)
  lc : w5.heap.size ≤ bc
  la : w5.heap.size ≤ ba
  ne : bc ≠ ba
section
variable {w5 wr w' : World} {m N bc ba : Nat} {f g : Nat → Nat}
theorem RSt.below (h : RSt w5 wr m N bc ba f g) (hb : Below wr.heap.size wr w') : RSt w5 w' m N bc ba f g :=
  ⟨h.bel.trans (hb.mono h.bel.size), h.cb.below hb h.cb.lt, h.ab.below hb h.ab.lt, h.lc, h.la, h.ne⟩
theorem RSt.storeC (h : RSt w5 wr m N bc ba f g) {c : Nat} (hc : c < m) (v : Nat) : RSt w5 (wr.setCell ⟨bc, c, none⟩ (.int .i64 (v : Int))) m N bc ba (fup f c v) g := by
  refine ⟨h.bel.setCell h.lc _, ?_, h.ab.far h.ne.symm _, h.lc, h.la, h.ne⟩
  have := h.cb.set_ c (.int .i64 (v : Int)); rw [tabI_set _ hc] at this; exact this
theorem RSt.storeA (h : RSt w5 wr m N bc ba f g) {c : Nat} (hc : c < N) (v : Nat) : RSt w5 (wr.setCell ⟨ba, c, none⟩ (.int .i64 (v : Int))) m N bc ba f (fup g c v) := by
  refine ⟨h.bel.setCell h.la _, h.cb.far h.ne _, ?_, h.lc, h.la, h.ne⟩
  have := h.ab.set_ c (.int .i64 (v : Int)); rw [tabI_set _ hc] at this; exact this
theorem RSt.congr {f' g' : Nat → Nat} (h : RSt w5 wr m N bc ba f g) (hf : ∀ i, i < m → f i = f' i) (hg : ∀ i, i < N → g i = g' i) : RSt w5 wr m N bc ba f' g' :=
  ⟨h.bel, by rw [← tabI_congr hf]; exact h.cb, by rw [← tabI_congr hg]; exact h.ab, h.lc, h.la, h.ne⟩
theorem RSt.made (w5 : World) (m N : Nat) : RSt w5 ((w5.alloc (.cells (tabI m fun _ => 0) 3)).alloc (.cells (tabI N fun _ => 0) 3)) m N w5.heap.size (w5.heap.size + 1) (fun _ => 0) (fun _ => 0) := by
  have k := Blk.new_ (w5.alloc (.cells (tabI m fun _ => 0) 3)) 3 (tabI N fun _ => 0)
  rw [al_size] at k
  exact ⟨((Below.refl _ _).alloc (Nat.le_refl _) _).alloc (by rw [al_size]; omega) _, (Blk.new_ w5 _ _).alloc_ _, k, Nat.le_refl _, by omega, by omega⟩
end
/-- and with the answer's box -/
structure RSt3 (w5 wr : World) (m N bc ba p B : Nat) (v1 y v3 : Value) (ys : List Value) (f g : Nat → Nat) : Prop where
  st : RSt w5 wr m N bc ba f g
  pb : Blk wr p 27 #[v1, y, v3, .slice (some ⟨ba, 0, none⟩) N N]
  row : wr.ownsRow B 3 1 y ys.length ys
  lp : w5.heap.size ≤ p
  cB : bc < B
  aB : ba < B
  Bw : B ≤ wr.heap.size
section
variable {w5 wr w' : World} {m N bc ba p B : Nat} {v1 y v3 : Value} {ys : List Value} {f g : Nat → Nat}
theorem RSt3.below (h : RSt3 w5 wr m N bc ba p B v1 y v3 ys f g) (hb : Below wr.heap.size wr w') : RSt3 w5 w' m N bc ba p B v1 y v3 ys f g :=
  ⟨h.st.below hb, h.pb.below hb h.pb.lt, own_below h.row hb, h.lp, h.cB, h.aB, Nat.le_trans h.Bw hb.size⟩
theorem RSt3.grow (h : RSt3 w5 wr m N bc ba p B v1 y v3 ys f g) {y' x : Value} {ad : Addr} (hown : w'.ownsRow B 3 1 y' (ys.length + 1) (ys ++ [x])) (hg : wr.grownBy w' y.ownBlock) (hB : w5.heap.size ≤ B) (hap : ad = ⟨p, 1, none⟩) : RSt3 w5 (w'.setCell ad y') m N bc ba p B v1 y' v3 (ys ++ [x]) f g := by
  subst hap
  have kp := h.pb.grown hg (own_ne_blk h.row h.pb (by decide))
  have kc := h.st.cb.grown hg (own_low h.row h.cB)
  have ka := h.st.ab.grown hg (own_low h.row h.aB)
  refine ⟨⟨(h.st.bel.grown hg h.st.bel.size (fun b hb => Nat.le_trans hB (h.row.lt b hb).1)).setCell h.lp _, kc.far (Blk.ne kc kp (by decide)) _, ka.far (Blk.ne ka kp (by decide)) _, h.st.lc, h.st.la, h.st.ne⟩, kp.set_ 1 y', ?_, h.lp, h.cB, h.aB, by simpa using Nat.le_trans h.Bw hg.size⟩
  rw [List.length_append]
  exact own_far hown (fun e => own_ne_blk hown kp (by decide) e.symm) _
end
/-! ### plain -/
theorem rcnt_start {fc tc : Nat → Nat} {L mc k : Nat} : rcnt fc tc L mc k 0 = cntF fc tc L mc k := by
  unfold rcnt
  funext v
  by_cases e : v = k
  · subst e; rw [fup_same]; exact (cntF_zero (Nat.le_refl _)).symm
  · rw [fup_ne _ _ e]
theorem rcnt_end {fc tc : Nat → Nat} {L mc m k : Nat} (h : Up fc tc L m) (hk : k < m) : rcnt fc tc L mc k ((if k = mc then 1 else 0) + lsum fc (cntF fc tc L mc m) (inL fc tc k L)) = cntF fc tc L mc (k + 1) := by
  rw [lsum_old h (Nat.le_refl _) (by omega)]; rfl
theorem rcnt_old {fc tc : Nat → Nat} {L mc m k x v : Nat} (h : v < k) (hk : k ≤ m) : rcnt fc tc L mc k x v = cntF fc tc L mc m v := by
  unfold rcnt
  rw [fup_ne _ _ (by omega), cntF_keep h hk]
theorem rcnt_at {fc tc : Nat → Nat} {L mc k x : Nat} : rcnt fc tc L mc k x k = x := by unfold rcnt; rw [fup_same]
theorem rcnt_set {fc tc : Nat → Nat} {L mc k x y : Nat} : fup (rcnt fc tc L mc k x) k y = rcnt fc tc L mc k y := by
  unfold rcnt
  funext v
  by_cases e : v = k
  · subst e; rw [fup_same, fup_same]
  · rw [fup_ne _ _ e, fup_ne _ _ e, fup_ne _ _ e]
/-- a count on the way is not above the count -/
theorem rcnt_le {fc tc : Nat → Nat} {L mc m k i : Nat} (h : Up fc tc L m) (hk : k < m) (hi : i < L) (ht : tc i = k) (hf : fc i ≠ k) : (if k = mc then 1 else 0) + lsum fc (cntF fc tc L mc m) (inL fc tc k i) + cntF fc tc L mc m (fc i) ≤ cntF fc tc L mc m k := by
  rw [cnt_eq h hk]
  obtain ⟨p, hp⟩ := List.getElem?_of_mem (mem_inL.2 ⟨hi, ht, hf⟩)
  rw [inL_at hp]
  have h1 := lsum_step (fc := fc) (cn := cntF fc tc L mc m) hp
  have h2 := lsum_take fc (cntF fc tc L mc m) (inL fc tc k L) (p + 1)
  omega
theorem lsum_le {fc tc : Nat → Nat} {L mc m k i : Nat} (h : Up fc tc L m) (hk : k < m) (hi : i ≤ L) : (if k = mc then 1 else 0) + lsum fc (cntF fc tc L mc m) (inL fc tc k i) ≤ cntF fc tc L mc m k := by
  rw [cnt_eq h hk]
  have e : ∀ j, lsum fc (cntF fc tc L mc m) (inL fc tc k i) ≤ lsum fc (cntF fc tc L mc m) (inL fc tc k (i + j)) := fun j => by
    induction j with
    | zero => exact Nat.le_refl _
    | succ j ih =>
      rw [← Nat.add_assoc, inL_next, lsum_app]; omega
  have := e (L - i)
  rw [show i + (L - i) = L from by omega] at this
  omega
theorem ClAt.finalR {w5 wr : World} {k mn m N bc p ba B g0 cb co cc : Nat} {ya ea : Option Addr} {yc ec : Nat} {es : List (Int × Int × Int)} {f g : Nat → Nat} {z0 z1 z2 z3 : Value}
    (h : RSt3 w5 wr m N bc ba p B (.slice (some ⟨cb, co, none⟩) k cc) (.slice ya k yc) (.slice ea N ec) (iV ((List.range k).map fun v => f (cmp k (edE es) v))) f g)
    (hc : Cells wr (some ⟨cb, co, none⟩) (zV (cmpZ k (edE es)))) (hg : g0 < w5.heap.size) (hne : g0 < cb) (_hk : Blk wr g0 27 #[z0, z1, z2, z3]) (hB : w5.heap.size ≤ B) (hN : es.length = N)
    (hf : ∀ v, v < k → f (cmp k (edE es) v) = cnE k mn es (cmp k (edE es) v)) (hgg : ∀ i, i < N → g i = adE k mn es i) (x0 x1 x2 x3 : Value)
    (he : Cells ((((wr.setCell ⟨g0, 0, none⟩ x0).setCell ⟨g0, 1, none⟩ x1).setCell ⟨g0, 2, none⟩ x2).setCell ⟨g0, 3, none⟩ x3) ea (es.flatMap keyCells)) :
    ClAt ((((wr.setCell ⟨g0, 0, none⟩ x0).setCell ⟨g0, 1, none⟩ x1).setCell ⟨g0, 2, none⟩ x2).setCell ⟨g0, 3, none⟩ x3) (.agg #[.slice (some ⟨cb, co, none⟩) k cc, .slice ya k yc, .slice ea N ec, .slice (some ⟨ba, 0, none⟩) N N]) (numC k mn es) := by
  have hba : ba ≠ g0 := by have := h.st.la; omega
  have e1 : (numC k mn es).comp.length = k := cmpZ_len _ _
  have e2 : (numC k mn es).count.length = k := by show ((List.range k).map _).length = k; rw [List.length_map, List.length_range]
  have e3 : (numC k mn es).edges.length = N := hN
  have e4 : (numC k mn es).add.length = N := by show ((List.range es.length).map _).length = N; rw [List.length_map, List.length_range, hN]
  refine ⟨some ⟨cb, co, none⟩, cc, ya, yc, ea, ec, some ⟨ba, 0, none⟩, 0, by rw [e1, e2, e3, e4, Nat.add_zero], ?_, ?_, he, ?_⟩
  · have hn : cb ≠ g0 := by omega
    exact cells_far (cells_far (cells_far (cells_far hc (a := ⟨g0, 0, none⟩) hn _) (a := ⟨g0, 1, none⟩) hn _) (a := ⟨g0, 2, none⟩) hn _) (a := ⟨g0, 3, none⟩) hn _
  · have hn : (Value.slice ya k yc).ownBlock ≠ some g0 := fun e => own_low h.row (g := g0) (by omega) e.symm
    have h2 := own_far (own_far (own_far (own_far h.row (a := ⟨g0, 0, none⟩) hn x0) (a := ⟨g0, 1, none⟩) hn x1) (a := ⟨g0, 2, none⟩) hn x2) (a := ⟨g0, 3, none⟩) hn x3
    have elen : (iV ((List.range k).map fun v => f (cmp k (edE es) v))).length = k := by rw [iV_len, List.length_map, List.length_range]
    rw [elen] at h2
    have h3 := own_cellsC h2
    have e : zV (numC k mn es).count = iV ((List.range k).map fun v => f (cmp k (edE es) v)) := by
      rw [iV_z, List.map_map]
      show zV ((List.range k).map _) = _
      congr 1
      exact List.map_congr_left fun v hv => by
        show (cnE k mn es (cmp k (edE es) v) : Int) = (f (cmp k (edE es) v) : Int)
        rw [hf v (List.mem_range.1 hv)]
    rw [e]; exact h3
  · have h3 := ((((h.st.ab.far (p := ⟨g0, 0, none⟩) hba x0).far (p := ⟨g0, 1, none⟩) hba x1).far (p := ⟨g0, 2, none⟩) hba x2).far (p := ⟨g0, 3, none⟩) hba x3).cells
    rw [tabI_list] at h3
    have e : zV (numC k mn es).add = iV ((List.range N).map g) := by
      rw [iV_z, List.map_map, ← hN]
      show zV ((List.range es.length).map _) = _
      congr 1
      exact List.map_congr_left fun v hv => by
        show (adE k mn es v : Int) = (g v : Int)
        rw [hgg v (by rw [← hN]; exact List.mem_range.1 hv)]
    rw [e]; exact h3
theorem pow_p62 {k : Nat} (h : k ≤ 62) : 2 ^ k ≤ 4611686018427387904 := by
  have h := Nat.pow_le_pow_right (show 0 < 2 by decide) h
  have e : (2 : Nat) ^ 62 = 4611686018427387904 := by decide
  omega
theorem wrap_le {j : Nat} (h : j ≤ 4611686018427387904) : IntKind.i64.wrap (j : Int) = (j : Int) := wrap_nat (by omega)
theorem wrap64_le {j : Nat} (h : j ≤ 4611686018427387904) : wrap64 (j : Int) = (j : Int) := IntWalk.wrap64_in _ ⟨by omega, by omega⟩
theorem sub_wrap {MO nn df : Nat} (h : (MO : Int) - (nn : Int) = (df : Int)) (hb : MO ≤ 4611686018427387903) : IntKind.i64.wrap ((MO : Int) - (nn : Int)) = (df : Int) := by rw [h]; exact wrap_le (by omega)
theorem wrap64_df {MO nn df : Nat} (h : (MO : Int) - (nn : Int) = (df : Int)) (hb : MO ≤ 4611686018427387903) : wrap64 (df : Int) = (df : Int) := wrap64_le (by omega)
theorem v_eq {wn MO nn df : Nat} (hw : wn ≤ 62) (h2 : 2 ^ wn - 1 = MO) (hdf : (MO : Int) - (nn : Int) = (df : Int)) : wrap64 (wrap64 (wrap64 (2 ^ min wn 64) - 1) - (nn : Int)) = (df : Int) := by
  have hp := pow_p62 hw
  have h1 := Nat.two_pow_pos wn
  have e : (2 : Int) ^ wn = ((2 ^ wn : Nat) : Int) := by simp
  rw [Nat.min_eq_left (by omega), e, wrap64_le hp, show ((2 ^ wn : Nat) : Int) - 1 = (MO : Int) from by omega, wrap64_le (by omega), hdf, wrap64_le (by omega)]
theorem over_no {MO nn df pk C : Nat} (h : (MO : Int) - (nn : Int) = (df : Int)) (h2 : df < pk) (h3 : pk + nn ≤ C) : MO < C := by omega
theorem over_yes {MO nn df pk : Nat} (h : (MO : Int) - (nn : Int) = (df : Int)) (h2 : ¬ df < pk) : pk + nn ≤ MO := by omega
theorem sub_ex {MO nn : Nat} (h : nn ≤ MO) : ∃ df : Nat, (MO : Int) - (nn : Int) = (df : Int) := ⟨MO - nn, by omega⟩
theorem sum_int {a b r : Nat} (h : a + b = r) : (a : Int) + (b : Int) = (r : Int) := by omega
theorem wrap_z {z : Int} (h1 : 0 ≤ z) (h2 : z ≤ 4611686018427387904) : IntKind.i64.wrap z = z := by rw [IntKind.wrap_i64]; omega
set_option maxRecDepth 100000 in
set_option maxHeartbeats 25600000 in
theorem rnumber_ok (w : World) (n main : Int) (ea : Option Addr) (es : List (Int × Int × Int)) (c : Nat) (wd : Int) (hm : es.length ≤ maxLen) (hc : Cells w ea (es.flatMap keyCells)) :
    Calls Try.prog 18 #[.int .i64 n, .int .i64 main, .slice ea es.length c, .int .i64 wd] w (NumPost w n main es wd) := by
  obtain ⟨w0, hw0⟩ : ∃ w0, w0 = w.alloc (.cells #[.slice none 0 0, .slice none 0 0, .slice none 0 0, .slice none 0 0] 27) := ⟨_, rfl⟩
  have hb0 : Below w.heap.size w w0 := by rw [hw0]; exact (Below.refl _ _).alloc (Nat.le_refl _) _
  have hk0 : Blk w0 w.heap.size 27 #[.slice none 0 0, .slice none 0 0, .slice none 0 0, .slice none 0 0] := by rw [hw0]; exact Blk.new_ _ _ _
  have HR := Lib.hid (rcmay_ok w0 n main ea es c wd hm (hc.below hb0))
  obtain ⟨N, hN⟩ : ∃ N, es.length = N := ⟨_, rfl⟩
  have HN := Lib.hid hN; have HC := Lib.hid hc; have HB0 := Lib.hid hb0; have HK0 := Lib.hid hk0; have HW0 := Lib.hid hw0
  rw [hN] at hm HR ⊢
  clear hN hc hb0 hk0 hw0
  go_enter Try.func18, Try.ntmps18
  go_wp2_with fail
  rw [← HW0.out]
  refine HR.out.mono ?_
  rintro e w1 ⟨rfl, hb1⟩
  have HB1 := Lib.hid (HB0.out.trans (hb1.mono HB0.out.size))
  have HK1 := Lib.hid (HK0.out.below hb1 HK0.out.lt)
  clear hb1 HR HB0 HK0
  cases hmay : mayC n main es wd with
  | false =>
    have r0 : w1.cell? ⟨w.heap.size, 0, none⟩ = some (.slice none 0 0) := HK1.out.cell 0
    have r1 : w1.cell? ⟨w.heap.size, 1, none⟩ = some (.slice none 0 0) := HK1.out.cell 1
    have r2 : w1.cell? ⟨w.heap.size, 2, none⟩ = some (.slice none 0 0) := HK1.out.cell 2
    have r3 : w1.cell? ⟨w.heap.size, 3, none⟩ = some (.slice none 0 0) := HK1.out.cell 3
    have f0 := HK1.out.frozen 0; have f1 := HK1.out.frozen 1; have f2 := HK1.out.frozen 2; have f3 := HK1.out.frozen 3
    have rl := HK1.out.lt
    have HMAY := Lib.hid hmay
    clear hmay
    go_wp2_with fail
    refine bodyPost_ret (v := .tuple #[clNil, .int .i64 1]) ?_ rfl ⟨(HB1.out.setCell (Nat.le_refl _) _ |>.setCell (Nat.le_refl _) _ |>.setCell (Nat.le_refl _) _ |>.setCell (Nat.le_refl _) _), .inl ⟨HMAY.out, rfl⟩⟩
    rw [results_cell_tmp rfl]
    go_simp
    rfl
  | true =>
    obtain ⟨k, mn, wn, rfl, rfl, rfl, hMay⟩ := mayN_of hmay
    have hk1 := hMay.k1; have hk2 := hMay.k2; have hmn := hMay.mn1; have hN4 := hMay.len
    rw [HN.out] at hN4
    have HMAY := Lib.hid hMay
    have hpr := pairs_ok w1 ea es c (by rw [HN.out]; exact hN4) (HC.out.below HB1.out)
    rw [HN.out] at hpr
    have HPR := Lib.hid hpr
    clear hmay hMay hpr
    go_wp2_with fail
    refine HPR.out.mono ?_
    rintro e w2 ⟨hb2, y2, rfl, hr2⟩
    obtain ⟨pa, pc, rfl, _, _, hpc⟩ := Cells.of_own hr2
    obtain ⟨P, hP⟩ : ∃ P, pairsZ es = P := ⟨_, rfl⟩
    rw [hP] at hpc
    have HB2 := Lib.hid (HB1.out.trans (hb2.mono HB1.out.size))
    have HK2 := Lib.hid (HK1.out.below hb2 HK1.out.lt)
    have hPl : P.length = N := by rw [← hP, pairsZ_len, HN.out]
    have hcs := rcomps_ok w2 (k : Int) pa P pc (by rw [hPl]; unfold maxLen; omega) hpc
    rw [hPl] at hcs
    have HCS := Lib.hid hcs; have HP := Lib.hid hP
    clear hr2 hpc hP hPl hcs hb2 HPR HB1 HK1
    go_wp2_with fail
    refine HCS.out.mono ?_
    rintro e w3 ⟨hb3, h | h⟩
    · exact absurd h.1 (by rw [← HP.out, HMAY.out.mayG]; decide)
    obtain ⟨_, y3, rfl, hr3⟩ := h
    rw [Int.toNat_natCast] at hr3
    obtain ⟨ca, cc, rfl, _, _, hcc⟩ := Cells.of_own hr3
    have hcz : Cells w3 ca (zV (cmpZ k (edE es))) := by
      rw [iV_z, List.map_map, ← HP.out] at hcc; exact hcc
    have hcl := cmpZ_len k (edE es)
    have hme := rmembers_ok w3 ca (cmpZ k (edE es)) cc (by rw [hcl]; exact hk2) hcz
    have htop : topN (cmpZ k (edE es)) = edM k es := rfl
    have hokm : okM (cmpZ k (edE es)) = true := cmpZ_ok HMAY.out.ok (by omega)
    rw [hcl] at hme
    obtain ⟨zs, hzs⟩ : ∃ zs, cmpZ k (edE es) = zs := ⟨_, rfl⟩
    obtain ⟨m, hm0⟩ : ∃ m, edM k es = m := ⟨_, rfl⟩
    have hmk := HMAY.out.topk
    have hne : zs ≠ [] := by intro e; rw [hzs, e] at hcl; simp at hcl; omega
    rw [hzs] at hcz hcl htop hokm hme
    rw [hm0] at htop hmk
    obtain ⟨cb, co, hca, hcbl, _⟩ := hcz (by intro h; exact hne (by unfold zV at h; simpa using h))
    subst hca
    have hcge : w.heap.size < cb := by
      have h1 := (hr3.lt cb rfl).1
      have h2 := HK2.out.lt
      omega
    have HME := Lib.hid hme; have HCC := Lib.hid hcz; have HCL := Lib.hid hcl; have HZS := Lib.hid hzs; have HM0 := Lib.hid hm0; have HTOP := Lib.hid htop; have HOKM := Lib.hid hokm; have HCGE := Lib.hid hcge
    have HB3 := Lib.hid (HB2.out.trans (hb3.mono HB2.out.size))
    have HK3 := Lib.hid (HK2.out.below hb3 HK2.out.lt)
    clear hr3 hcc hcz hcl hme htop hokm hzs hm0 hne hcbl hcge hb3 HCS HB2 HK2
    obtain ⟨l0, hl0, lz0, lz1, lz2⟩ := info_parts int_infoC
    have hmk1 := run_make_n (P := Try.prog) 25 3 l0 (.int .i64 0) 1 8 Try.underlying25 hl0 lz0 lz1 lz2 .i64 .i64 m m (Nat.le_refl _) (by omega) (by omega)
    have e0 : madeCells (Value.int .i64 0).cells (m * 1) = tabI m fun _ => 0 := made_rep m _
    rw [e0] at hmk1
    have hmk2 := run_make_n (P := Try.prog) 25 3 l0 (.int .i64 0) 1 8 Try.underlying25 hl0 lz0 lz1 lz2 .i64 .i64 N N (Nat.le_refl _) (by omega) (by omega)
    have e1 : madeCells (Value.int .i64 0).cells (N * 1) = tabI N fun _ => 0 := made_rep N _
    rw [e1] at hmk2
    clear e0 e1
    go_wp2_with fail
    refine HME.out.mono ?_
    rintro e w4 ⟨hb4, h | h⟩
    · exact absurd h.1 (by rw [HOKM.out]; decide)
    obtain ⟨_, ma, mcap, rfl, _⟩ := h
    rw [HTOP.out]
    have HB4 := Lib.hid (HB3.out.trans (hb4.mono HB3.out.size))
    have HK4 := Lib.hid (HK3.out.below hb4 HK3.out.lt)
    have HC4 := Lib.hid (HC.out.below HB4.out)
    have HCC4 := Lib.hid (HCC.out.below hb4)
    have HS0 := Lib.hid (RSt.made w4 m N)
    clear hb4 HME HB3 HK3 HCC
    go_upto_region 7 with (fail)
    obtain ⟨w5, hw5⟩ : ∃ w5, w5 = (w4.alloc (.cells (tabI m fun _ => 0) 3)).alloc (.cells (tabI N fun _ => 0) 3) := ⟨_, rfl⟩
    rw [← hw5] at HS0 ⊢
    obtain ⟨bc, hbc⟩ : ∃ bc, w4.heap.size = bc := ⟨_, rfl⟩
    obtain ⟨ba, hba⟩ : ∃ ba, w4.heap.size + 1 = ba := ⟨_, rfl⟩
    rw [hba] at HS0
    try rw [hba]
    rw [hbc] at HS0
    try rw [hbc]
    clear hw5 hbc hba hmk1 hmk2
    obtain ⟨F, hF⟩ : ∃ F, edF k es = F := ⟨_, rfl⟩
    obtain ⟨T, hT⟩ : ∃ T, edT k es = T := ⟨_, rfl⟩
    have HFT : Hid (∀ i a b d : Nat, es[i]? = some ((a : Int), (b : Int), (d : Int)) → a < k → d < k → F i < m ∧ T i < m ∧ zs.getD a 0 = (F i : Int) ∧ zs.getD d 0 = (T i : Int)) := Lib.hid (fun i a b d hx ha hd => by
      have h1 := edF_at k hx; have h2 := edT_at k hx
      rw [hF] at h1; rw [hT] at h2
      simp only [Int.toNat_natCast] at h1 h2
      rw [h1, h2, ← HM0.out]
      refine ⟨HMAY.out.top ha, HMAY.out.top hd, ?_, ?_⟩
      · rw [← HZS.out]; exact compZ_get _ ha
      · rw [← HZS.out]; exact compZ_get _ hd)
    have HF := Lib.hid hF; have HT := Lib.hid hT
    obtain ⟨MO, hMO⟩ : ∃ MO : Nat, 2 ^ wn - 1 = MO := ⟨_, rfl⟩
    have hw1 := HMAY.out.wd1; have hw2 := HMAY.out.wd2
    have hPp := pow_p62 hw2
    have hMb : MO ≤ 4611686018427387903 := by omega
    have hMO1 : 1 ≤ MO := by
      have h := Nat.pow_le_pow_right (show 0 < 2 by decide) hw1
      omega
    have HMO := Lib.hid hMO; have HMB := Lib.hid hMb
    have hmcM := HMAY.out.top hmn
    rw [HM0.out] at hmcM
    obtain ⟨mc, hmce⟩ : ∃ mc, cmp k (edE es) mn = mc := ⟨_, rfl⟩
    have hmz : zs.getD mn 0 = (mc : Int) := by rw [← HZS.out, compZ_get _ hmn, hmce]
    rw [hmce] at hmcM
    have HMC := Lib.hid hmce; have HMZ := Lib.hid hmz
    have HUP : Hid (Up F T N m) := Lib.hid (by have h := HMAY.out.up; rw [hF, hT, HN.out, HM0.out] at h; exact h)
    have HNO : Hid (∀ v, v < m → MO < cntF F T N mc m v → fitC k mn es wn = false) := Lib.hid (fun v hv h => by
      unfold fitC
      rw [hF, hT, HN.out, HM0.out, hmce, hMO]
      exact fits_no hv h)
    clear hF hT hMO hMb hPp hmce hmz hw1 hw2
    go_wp2_with fail
    go_loopg [16] m (fun mm x wr => ∃ k0, mm + k0 = m ∧ x = .int .i64 (k0 : Int) ∧ RSt w4 wr m N bc ba (cntF F T N mc k0) (addT F T N mc m k0 0) ∧ ∀ v, v < k0 → cntF F T N mc m v ≤ MO)
    case atStart => exact ⟨0, by omega, rfl, by rw [addT_zero]; exact HS0.out, fun v hv => absurd hv (Nat.not_lt_zero _)⟩
    case round =>
      obtain ⟨k0, hm2, rfl, hst, hle⟩ := hrel
      have HM := Lib.hid hm2; have HS := Lib.hid hst; have HLE := Lib.hid hle
      clear hm2 hst hle HS0
      by_cases hk0 : k0 < m
      · have xm : wr.cell? ⟨cb, co + mn, none⟩ = some (.int .i64 (mc : Int)) := by
          rw [(HCC4.out.below HS.out.bel).getD mn (by rw [HCL.out]; exact hmn), HMZ.out]
        have b1 := (HS.out.cb.cell k0).trans (tabI_get _ hk0)
        have bf := HS.out.cb.frozen k0
        have bl := HS.out.cb.lt
        go_upto_if 57 with (fail)
        go_cut [16] (fun x wc => x = .int .i64 (k0 : Int) ∧ RSt w4 wc m N bc ba (rcnt F T N mc k0 (if k0 = mc then 1 else 0)) (addT F T N mc m k0 0))
        case first =>
          by_cases hmk0 : mc = k0
          · have d1 : ((mc : Int) == (k0 : Int)) = true := by rw [beq_iff_eq]; omega
            have d2 : (mc == k0) = true := by rw [beq_iff_eq]; exact hmk0
            have HS1 : Hid (RSt w4 (wr.setCell ⟨bc, k0, none⟩ (.int .i64 1)) m N bc ba (rcnt F T N mc k0 (if k0 = mc then 1 else 0)) (addT F T N mc m k0 0)) := Lib.hid (by
              have h := HS.out.storeC hk0 1
              have e : fup (cntF F T N mc k0) k0 1 = rcnt F T N mc k0 (if k0 = mc then 1 else 0) := by unfold rcnt; rw [if_pos hmk0.symm]
              rw [e] at h; exact h)
            clear hmk0
            go_wp2_with fail
            go_meet
            case rel => exact ⟨rfl, HS1.out⟩
          · have d1 : ((mc : Int) == (k0 : Int)) = false := by rw [beq_eq_false_iff_ne]; omega
            have d2 : (mc == k0) = false := by rw [beq_eq_false_iff_ne]; exact hmk0
            have HS1 : Hid (RSt w4 wr m N bc ba (rcnt F T N mc k0 (if k0 = mc then 1 else 0)) (addT F T N mc m k0 0)) := Lib.hid (by
              rw [if_neg (fun h => hmk0 h.symm), rcnt_start]; exact HS.out)
            clear hmk0
            go_wp2_with fail
            go_meet
            case rel => exact ⟨rfl, HS1.out⟩
        case rest =>
          obtain ⟨rfl, hst⟩ := hcut
          have HS1 := Lib.hid hst
          clear hst xm b1 bf bl HS
          go_wp2_with fail
          go_loopg [17] N (fun mm x wr => ∃ i, mm + i = N ∧ x = .int .i64 (i : Int) ∧ RSt w4 wr m N bc ba (rcnt F T N mc k0 ((if k0 = mc then 1 else 0) + lsum F (cntF F T N mc m) (inL F T k0 i))) (addT F T N mc m k0 i) ∧ (if k0 = mc then 1 else 0) + lsum F (cntF F T N mc m) (inL F T k0 i) ≤ MO)
          case atStart => exact ⟨0, by omega, rfl, by rw [show inL F T k0 0 = [] from rfl, lsum_nil, Nat.add_zero]; exact HS1.out, by rw [show inL F T k0 0 = [] from rfl, lsum_nil]; split <;> omega⟩
          case round =>
            obtain ⟨i, hm3, rfl, hst, hsum⟩ := hrel
            have HM3 := Lib.hid hm3; have HS2 := Lib.hid hst
            clear hm3 hst HS1
            by_cases hi : i < N
            · obtain ⟨x, hx⟩ : ∃ x, es[i]? = some x := ⟨_, List.getElem?_eq_getElem (by rw [HN.out]; exact hi)⟩
              obtain ⟨b, off, hla, hbl, t0, t1, t2⟩ := (HC4.out.below HS2.out.bel).key hx
              subst hla
              obtain ⟨a, e, d, rfl, hak, hdk, _⟩ := HMAY.out.at_ hx
              obtain ⟨hfm, htm, hfz, htz⟩ := HFT.out i a e d hx hak hdk
              simp only at t0 t1 t2
              have hcd := (HCC4.out.below HS2.out.bel).getD
              have c0 : wr.cell? ⟨cb, co + a, none⟩ = some (.int .i64 (F i : Int)) := by rw [hcd a (by rw [HCL.out]; exact hak), hfz]
              have c2 : wr.cell? ⟨cb, co + d, none⟩ = some (.int .i64 (T i : Int)) := by rw [hcd d (by rw [HCL.out]; exact hdk), htz]
              have hupi := (HUP.out i hi).1
              have HNL := Lib.hid (inL_next F T k0 i)
              have HAS : Hid (¬ (T i = k0 ∧ F i ≠ k0 ∧ cntF F T N mc m (F i) ≠ 0) → addT F T N mc m k0 (i + 1) = addT F T N mc m k0 i) := Lib.hid (fun h => addT_still h)
              by_cases g1 : T i = k0
              · by_cases g2 : F i = k0
                · have HA := Lib.hid (HAS.out (fun h => h.2.1 g2))
                  have HL2 : Hid (inL F T k0 (i + 1) = inL F T k0 i) := Lib.hid (by rw [HNL.out, if_neg (fun h => h.2 g2), List.append_nil])
                  obtain ⟨fi, hfi⟩ : ∃ fi, F i = fi := ⟨_, rfl⟩
                  obtain ⟨ti, hti⟩ : ∃ ti, T i = ti := ⟨_, rfl⟩
                  rw [hfi] at c0 g2
                  rw [hti] at c2 g1
                  have z1 : ((ti : Int) == (k0 : Int)) = true := by rw [beq_iff_eq]; omega
                  have z1' : (ti == k0) = true := by rw [beq_iff_eq]; exact g1
                  have z2 : ((fi : Int) != (k0 : Int)) = false := by rw [bne_eq_false_iff_eq]; omega
                  have z2' : (fi != k0) = false := by rw [bne_eq_false_iff_eq]; exact g2
                  clear hx hcd hfz htz hfm htm hupi hfi hti g1 g2 HNL HAS
                  go_wp2_with fail
                  go_roundg (N - (i + 1))
                  case measure => have := HM3.out; omega
                  case rel => exact ⟨i + 1, by have := HM3.out; omega, by go_num, by rw [HL2.out, HA.out]; exact HS2.out, by rw [HL2.out]; exact hsum⟩
                · have hfk : F i < k0 := by omega
                  have b0 : wr.cell? ⟨bc, F i, none⟩ = some (.int .i64 (cntF F T N mc m (F i) : Int)) := by
                    have h := (HS2.out.cb.cell (F i)).trans (tabI_get _ hfm)
                    rw [rcnt_old hfk (Nat.le_of_lt hk0)] at h; exact h
                  have b1 := (HS2.out.cb.cell k0).trans (tabI_get _ hk0)
                  rw [rcnt_at] at b1
                  have bl := HS2.out.cb.lt
                  have bf := HS2.out.cb.frozen k0
                  have HPLE := Lib.hid (rcnt_le (mc := mc) HUP.out hk0 hi g1 g2)
                  have HLS : Hid (lsum F (cntF F T N mc m) (inL F T k0 (i + 1)) = lsum F (cntF F T N mc m) (inL F T k0 i) + cntF F T N mc m (F i)) := Lib.hid (by rw [HNL.out, if_pos ⟨g1, g2⟩, lsum_app, lsum_one])
                  have HAP : Hid (cntF F T N mc m (F i) ≠ 0 → addT F T N mc m k0 (i + 1) = fup (addT F T N mc m k0 i) i ((if k0 = mc then 1 else 0) + lsum F (cntF F T N mc m) (inL F T k0 i))) := Lib.hid (fun h => addT_put g1 g2 h)
                  have hnle := HLE.out (F i) hfk
                  obtain ⟨fi, hfi⟩ : ∃ fi, F i = fi := ⟨_, rfl⟩
                  obtain ⟨ti, hti⟩ : ∃ ti, T i = ti := ⟨_, rfl⟩
                  have HA0 := HAS
                  rw [hfi] at c0 g2 b0 hnle HLS HAP HPLE HA0
                  rw [hti] at c2 g1
                  have hfm2 : fi < m := by omega
                  have HFK : Hid (fi < k0) := Lib.hid (by omega)
                  obtain ⟨nn, hnn⟩ : ∃ nn, cntF F T N mc m fi = nn := ⟨_, rfl⟩
                  have HNN := Lib.hid hnn
                  rw [hnn] at b0 hnle HLS HAP HPLE HA0
                  obtain ⟨pk, hpk⟩ : ∃ pk, (if k0 = mc then 1 else 0) + lsum F (cntF F T N mc m) (inL F T k0 i) = pk := ⟨_, rfl⟩
                  have HS2' := HS2
                  rw [hpk] at b1 hsum HAP HPLE HS2'
                  have HPK := Lib.hid hpk
                  have z1 : ((ti : Int) == (k0 : Int)) = true := by rw [beq_iff_eq]; omega
                  have z1' : (ti == k0) = true := by rw [beq_iff_eq]; exact g1
                  have z2 : ((fi : Int) != (k0 : Int)) = true := by rw [bne_iff_ne]; omega
                  have z2' : (fi != k0) = true := by rw [bne_iff_ne]; exact g2
                  by_cases h0 : nn = 0
                  · have HA := Lib.hid (HA0.out (fun h => h.2.2 h0))
                    have HL3 : Hid (lsum F (cntF F T N mc m) (inL F T k0 (i + 1)) = lsum F (cntF F T N mc m) (inL F T k0 i)) := Lib.hid (by rw [HLS.out, h0, Nat.add_zero])
                    have z3 : ¬ 0 < nn := by omega
                    have z3' : decide (0 < nn) = false := decide_eq_false z3
                    clear hx hcd hfz htz hfm htm hupi hfi hti g1 g2 hnn hpk h0
                    go_wp2_with fail
                    go_roundg (N - (i + 1))
                    case measure => have := HM3.out; omega
                    case rel => exact ⟨i + 1, by have := HM3.out; omega, by go_num, by rw [HL3.out, HA.out]; exact HS2.out, by rw [HL3.out, HPK.out]; exact hsum⟩
                  · have z3 : 0 < nn := by omega
                    have z3' : decide (0 < nn) = true := decide_eq_true z3
                    obtain ⟨df, hdf⟩ : ∃ df : Nat, (MO : Int) - (nn : Int) = (df : Int) := sub_ex hnle
                    have hv := v_eq HMAY.out.wd2 HMO.out hdf
                    have HDF := Lib.hid hdf
                    have hmb := HMB.out
                    clear hx hcd hfz htz hfm htm hupi hfi hti g1 g2 hnn hpk hdf
                    by_cases hov : df < pk
                    · have hnf := HNO.out k0 hk0 (over_no HDF.out hov HPLE.out)
                      have d4 : decide ((df : Int) < (pk : Int)) = true := decide_eq_true (Int.ofNat_lt.2 hov)
                      have HNF := Lib.hid hnf
                      have d3 : decide (df < pk) = true := decide_eq_true hov
                      have HKR := Lib.hid (HK4.out.below HS2.out.bel HK4.out.lt)
                      have y0 : wr.cell? ⟨w.heap.size, 0, none⟩ = some (.slice none 0 0) := HKR.out.cell 0
                      have y1 : wr.cell? ⟨w.heap.size, 1, none⟩ = some (.slice none 0 0) := HKR.out.cell 1
                      have y2 : wr.cell? ⟨w.heap.size, 2, none⟩ = some (.slice none 0 0) := HKR.out.cell 2
                      have y3 : wr.cell? ⟨w.heap.size, 3, none⟩ = some (.slice none 0 0) := HKR.out.cell 3
                      have f0 := HKR.out.frozen 0; have f1 := HKR.out.frozen 1; have f2 := HKR.out.frozen 2; have f3 := HKR.out.frozen 3
                      have tl := HKR.out.lt
                      have HBR := Lib.hid (HB4.out.trans (HS2.out.bel.mono HB4.out.size))
                      clear hnf hov h0
                      go_upto_region 17 with (fail)
                      go_quiet (fail)
                      have HBQ := Lib.hid (HBR.out.trans ((drew_below wr nq).mono HBR.out.size))
                      go_wp2_with fail
                      refine bodyPost_ret (v := .tuple #[clNil, .int .i64 200]) ?_ rfl ⟨(HBQ.out.setCell (Nat.le_refl _) _ |>.setCell (Nat.le_refl _) _ |>.setCell (Nat.le_refl _) _ |>.setCell (Nat.le_refl _) _), .inr ⟨k, mn, wn, rfl, rfl, rfl, HMAY.out, .inl ⟨HNF.out, rfl⟩⟩⟩
                      rw [results_cell_tmp rfl]
                      go_simp
                      rfl
                    · have d3 : decide (df < pk) = false := decide_eq_false hov
                      have d4 : decide ((df : Int) < (pk : Int)) = false := decide_eq_false (fun h => hov (Int.ofNat_lt.1 h))
                      have HR0 : Hid (pk + nn ≤ MO) := Lib.hid (over_yes HDF.out hov)
                      have HAP2 := Lib.hid (HAP.out h0)
                      clear hov h0
                      go_upto_region 17 with (fail)
                      go_quiet (fail)
                      obtain ⟨w6, hw6⟩ : ∃ w6, w6 = wr.drewN nq := ⟨_, rfl⟩
                      have hs6 : RSt w4 w6 m N bc ba (rcnt F T N mc k0 pk) (addT F T N mc m k0 i) := by rw [hw6]; exact HS2'.out.below (drew_below wr nq)
                      rw [← hw6]
                      clear hw6 b0 b1 bl bf c0 c2 t0 t1 t2 hbl
                      have b1 : w6.cell? ⟨bc, k0, none⟩ = some (.int .i64 (pk : Int)) := by
                        have h := (hs6.cb.cell k0).trans (tabI_get _ hk0)
                        rw [rcnt_at] at h; exact h
                      have bl := hs6.cb.lt
                      have a0 := (hs6.ab.cell i).trans (tabI_get _ hi)
                      have af := hs6.ab.frozen i
                      have al := hs6.ab.lt
                      go_upto_region 20 with (fail)
                      obtain ⟨w7, hw7⟩ : ∃ w7, w7 = w6.setCell ⟨ba, i, none⟩ (.int .i64 (pk : Int)) := ⟨_, rfl⟩
                      have hs7 : RSt w4 w7 m N bc ba (rcnt F T N mc k0 pk) (fup (addT F T N mc m k0 i) i pk) := by rw [hw7]; exact hs6.storeA hi pk
                      rw [← hw7]
                      clear hw7 hs6 b1 bl a0 af al
                      have b1 : w7.cell? ⟨bc, k0, none⟩ = some (.int .i64 (pk : Int)) := by
                        have h := (hs7.cb.cell k0).trans (tabI_get _ hk0)
                        rw [rcnt_at] at h; exact h
                      have b0 : w7.cell? ⟨bc, fi, none⟩ = some (.int .i64 (nn : Int)) := by
                        have h := (hs7.cb.cell fi).trans (tabI_get _ hfm2)
                        rw [rcnt_old HFK.out (Nat.le_of_lt hk0), HNN.out] at h; exact h
                      have bl := hs7.cb.lt
                      have bf := hs7.cb.frozen k0
                      obtain ⟨r, hr⟩ : ∃ r, pk + nn = r := ⟨_, rfl⟩
                      have hri : (pk : Int) + (nn : Int) = (r : Int) := sum_int hr
                      have hrb : r ≤ MO := by rw [← hr]; exact HR0.out
                      have HS8 : Hid (RSt w4 (w7.setCell ⟨bc, k0, none⟩ (.int .i64 (r : Int))) m N bc ba (rcnt F T N mc k0 ((if k0 = mc then 1 else 0) + lsum F (cntF F T N mc m) (inL F T k0 (i + 1)))) (addT F T N mc m k0 (i + 1))) := Lib.hid (by
                        rw [HAP2.out, HLS.out, ← Nat.add_assoc, HPK.out, hr, ← rcnt_set (x := pk)]
                        exact hs7.storeC hk0 r)
                      have HRB : Hid ((if k0 = mc then 1 else 0) + lsum F (cntF F T N mc m) (inL F T k0 (i + 1)) ≤ MO) := Lib.hid (by
                        rw [HLS.out, ← Nat.add_assoc, HPK.out, hr]; exact hrb)
                      clear hs7 hr
                      go_region
                      all_goals
                        go_wp2_with fail
                        go_roundg (N - (i + 1))
                        case measure => have := HM3.out; omega
                        case rel => exact ⟨i + 1, by have := HM3.out; omega, by go_num, HS8.out.below (drew_below _ 1), HRB.out⟩
              · have HA := Lib.hid (HAS.out (fun h => g1 h.1))
                have HL2 : Hid (inL F T k0 (i + 1) = inL F T k0 i) := Lib.hid (by rw [HNL.out, if_neg (fun h => g1 h.1), List.append_nil])
                obtain ⟨fi, hfi⟩ : ∃ fi, F i = fi := ⟨_, rfl⟩
                obtain ⟨ti, hti⟩ : ∃ ti, T i = ti := ⟨_, rfl⟩
                rw [hfi] at c0
                rw [hti] at c2 g1
                have z1 : ((ti : Int) == (k0 : Int)) = false := by rw [beq_eq_false_iff_ne]; omega
                have z1' : (ti == k0) = false := by rw [beq_eq_false_iff_ne]; exact g1
                clear hx hcd hfz htz hfm htm hupi hfi hti g1 HNL HAS
                go_wp2_with fail
                go_roundg (N - (i + 1))
                case measure => have := HM3.out; omega
                case rel => exact ⟨i + 1, by have := HM3.out; omega, by go_num, by rw [HL2.out, HA.out]; exact HS2.out, by rw [HL2.out]; exact hsum⟩
            · have hiN : i = N := by have := HM3.out; omega
              have HS3 : Hid (RSt w4 wr m N bc ba (cntF F T N mc (k0 + 1)) (addT F T N mc m (k0 + 1) 0)) := Lib.hid (HS2.out.congr (fun v _ => by rw [hiN, rcnt_end HUP.out hk0]) (fun v hv => by rw [hiN, addT_round _ _ _ _ _ _ hv]))
              have HLE3 : Hid (cntF F T N mc m k0 ≤ MO) := Lib.hid (by rw [cnt_eq HUP.out hk0]; rw [hiN] at hsum; exact hsum)
              clear hiN HS2 hsum
              go_wp2_with fail
              go_roundg (m - (k0 + 1))
              case measure => have := HM.out; omega
              case rel => exact ⟨k0 + 1, by have := HM.out; omega, by go_num, HS3.out, fun v hv => by
                by_cases e : v = k0
                · rw [e]; exact HLE3.out
                · exact HLE.out v (by omega)⟩
      · have hcm : k0 = m := by have := HM.out; omega
        have HFIT : Hid (fitC k mn es wn = true) := Lib.hid (by
          unfold fitC
          rw [HF.out, HT.out, HN.out, HM0.out, HMC.out, HMO.out]
          exact fits_yes fun v hv => HLE.out v (by omega))
        have HS3 : Hid (RSt w4 wr m N bc ba (cntF F T N mc m) (addF F T N mc m)) := Lib.hid (HS.out.congr (fun v _ => by rw [hcm]) (fun v hv => by rw [hcm, addT_all HUP.out hv]))
        obtain ⟨w9, hw9⟩ : ∃ w9, w9 = wr := ⟨_, rfl⟩
        rw [← hw9] at HS3 ⊢
        obtain ⟨wb, hwb⟩ : ∃ wb, wb = w9.alloc (.cells #[.slice (some ⟨cb, co, none⟩) k cc, .slice none 0 0, .slice ea N c, .slice (some ⟨ba, 0, none⟩) N N] 27) := ⟨_, rfl⟩
        obtain ⟨p, hp⟩ : ∃ p, p = w9.heap.size := ⟨_, rfl⟩
        have HS4 : Hid (RSt3 w4 wb m N bc ba p wb.heap.size (.slice (some ⟨cb, co, none⟩) k cc) (.slice none 0 0) (.slice ea N c) [] (cntF F T N mc m) (addF F T N mc m)) := Lib.hid (by
          have h := HS3.out.below (w' := wb) (by rw [hwb]; exact (Below.refl _ _).alloc (Nat.le_refl _) _)
          exact ⟨h, by rw [hwb, hp]; exact Blk.new_ _ _ _, World.ownsRow_nil _ _ _ _, by rw [hp]; exact HS3.out.bel.size, h.cb.lt, h.ab.lt, Nat.le_refl _⟩)
        have hB5 : w4.heap.size ≤ wb.heap.size := HS4.out.st.bel.size
        have HWB := Lib.hid hwb; have HPE := Lib.hid hp
        obtain ⟨B, hB⟩ : ∃ B, wb.heap.size = B := ⟨_, rfl⟩
        rw [hB] at HS4 hB5
        clear hcm HS HLE hw9 hwb hp hB HNO HMB HMO hMO1 HS3
        go_upto_region 22 with (fail)
        rw [← HWB.out]
        try rw [← HPE.out]
        go_wp2_with fail
        go_loopg [20] k (fun mm x wr => ∃ i y, mm + i = k ∧ x = .int .i64 (i : Int) ∧ RSt3 w4 wr m N bc ba p B (.slice (some ⟨cb, co, none⟩) k cc) y (.slice ea N c) (iV ((List.range i).map fun v => cntF F T N mc m (cmp k (edE es) v))) (cntF F T N mc m) (addF F T N mc m))
        case atStart => exact ⟨0, _, by omega, rfl, HS4.out⟩
        case round =>
          obtain ⟨i, y, hm2, rfl, hst⟩ := hrel
          have HM2 := Lib.hid hm2; have HS2 := Lib.hid hst
          clear hm2 hst HS4
          by_cases hik : i < k
          · have hcd := (HCC4.out.below HS2.out.st.bel).getD
            have hcz := hcd i (by rw [HCL.out]; exact hik)
            rw [← HZS.out, compZ_get _ hik] at hcz
            have hcm := HMAY.out.top hik
            rw [HM0.out] at hcm
            obtain ⟨ci, hci⟩ : ∃ ci, cmp k (edE es) i = ci := ⟨_, rfl⟩
            rw [hci] at hcz hcm
            have b1 := (HS2.out.st.cb.cell ci).trans (tabI_get _ hcm)
            have bl := HS2.out.st.cb.lt
            obtain ⟨nn, hnn⟩ : ∃ nn, cntF F T N mc m ci = nn := ⟨_, rfl⟩
            rw [hnn] at b1
            have HEQ : Hid (iV ((List.range (i + 1)).map fun v => cntF F T N mc m (cmp k (edE es) v)) = iV ((List.range i).map fun v => cntF F T N mc m (cmp k (edE es) v)) ++ [.int .i64 (nn : Int)]) := Lib.hid (by
              rw [List.range_succ, List.map_append, iV_app, List.map_cons, List.map_nil, hci, hnn]; rfl)
            have hrow := HS2.out.row
            have elen : (iV ((List.range i).map fun v => cntF F T N mc m (cmp k (edE es) v))).length = i := by rw [iV_len, List.length_map, List.length_range]
            rw [elen] at hrow
            obtain ⟨ya, yc, rfl⟩ := own_shape hrow
            have HROW := Lib.hid hrow; have HLN := Lib.hid elen
            have p1 : wr.cell? ⟨p, 1, none⟩ = some (.slice ya i yc) := HS2.out.pb.cell 1
            have pl := HS2.out.pb.lt
            have hBw : B ≤ wr.heap.size := HS2.out.Bw
            clear hci hnn hcd hrow elen
            go_upto_region 25 with (fail)
            go_region_law (refine step_append_sep rfl (.tmp 140) (.tmp 148) 25 rfl B 3 l0 (.int .i64 0) 1 8 Try.underlying25 hl0 lz0 lz1 lz2 rfl (by decide) (.slice ya i yc) i _ (by simp [Act.eval]) (World.ownsRow.alloc (w := wr.drew) HROW.out _) ⟨wr.heap.size, 0, none⟩ 1 1 [.int .i64 (nn : Int)] (by simp [Act.eval]) rfl (lit_drew wr _ _) (ones_int _) (by unfold maxLen; omega) (by omega) (by simp; omega) ?_; intro v2 w2 hown2 hg2 hs2; obtain ⟨oa, oc, rfl⟩ := own_shape hown2; have hp2 := ((HS2.out.pb.drew_.alloc_ (.cells #[.int .i64 (nn : Int)] 3)).grown hg2 (own_ne_blk HROW.out HS2.out.pb (by decide))); have f0 : w2.cell? ⟨p, 1, none⟩ = some (.slice ya i yc) := hp2.cell 1; have ff0 := hp2.frozen 1; have fl := hp2.lt; have H2 := Lib.hid (And.intro hown2 hg2); clear hown2 hg2 hs2 hp2)
            all_goals
              have HS4 : Hid (RSt3 w4 (w2.setCell ⟨p, 1, none⟩ (.slice oa (i + 1) oc)) m N bc ba p B (.slice (some ⟨cb, co, none⟩) k cc) (.slice oa (i + 1) oc) (.slice ea N c) (iV ((List.range (i + 1)).map fun v => cntF F T N mc m (cmp k (edE es) v))) (cntF F T N mc m) (addF F T N mc m)) := Lib.hid (by
                rw [HEQ.out]
                exact (HS2.out.below (((Below.refl _ _).drew).alloc (Nat.le_refl _) (.cells #[.int .i64 (nn : Int)] 3))).grow (by rw [HLN.out]; exact H2.out.1) H2.out.2 hB5 rfl)
              clear f0 ff0 fl p1 pl b1 bl H2 HS2
              go_wp2_with fail
              go_roundg (k - (i + 1))
              case measure => have := HM2.out; omega
              case rel => exact ⟨i + 1, _, by have := HM2.out; omega, by go_num, HS4.out⟩
          · have hik2 : i = k := by have := HM2.out; omega
            subst hik2
            have hrow := HS2.out.row
            have elen : (iV ((List.range i).map fun v => cntF F T N mc m (cmp i (edE es) v))).length = i := by rw [iV_len, List.length_map, List.length_range]
            rw [elen] at hrow
            obtain ⟨ya, yc, rfl⟩ := own_shape hrow
            have HKR := Lib.hid (HK4.out.below HS2.out.st.bel HK4.out.lt)
            have y0 : wr.cell? ⟨w.heap.size, 0, none⟩ = some (.slice none 0 0) := HKR.out.cell 0
            have y1 : wr.cell? ⟨w.heap.size, 1, none⟩ = some (.slice none 0 0) := HKR.out.cell 1
            have y2 : wr.cell? ⟨w.heap.size, 2, none⟩ = some (.slice none 0 0) := HKR.out.cell 2
            have y3 : wr.cell? ⟨w.heap.size, 3, none⟩ = some (.slice none 0 0) := HKR.out.cell 3
            have f0 := HKR.out.frozen 0; have f1 := HKR.out.frozen 1; have f2 := HKR.out.frozen 2; have f3 := HKR.out.frozen 3
            have tl := HKR.out.lt
            have g0 : wr.cell? ⟨p, 0, none⟩ = some (.slice (some ⟨cb, co, none⟩) i cc) := HS2.out.pb.cell 0
            have g1 : wr.cell? ⟨p, 1, none⟩ = some (.slice ya i yc) := HS2.out.pb.cell 1
            have g2 : wr.cell? ⟨p, 2, none⟩ = some (.slice ea N c) := HS2.out.pb.cell 2
            have g3 : wr.cell? ⟨p, 3, none⟩ = some (.slice (some ⟨ba, 0, none⟩) N N) := HS2.out.pb.cell 3
            have gl := HS2.out.pb.lt
            have HBR := Lib.hid (HB4.out.trans (HS2.out.st.bel.mono HB4.out.size))
            have hcc := HCC4.out.below HS2.out.st.bel
            rw [← HZS.out] at hcc
            have HFC := Lib.hid (fun x0 x1 x2 x3 => ClAt.finalR (mn := mn) HS2.out hcc HK4.out.lt HCGE.out HKR.out hB5 HN.out (fun v _ => by unfold cnE; rw [HF.out, HT.out, HN.out, HM0.out, HMC.out]) (fun v _ => by unfold adE; rw [HF.out, HT.out, HN.out, HM0.out, HMC.out]) x0 x1 x2 x3 (HC.out.below (HBR.out.setCell (Nat.le_refl _) _ |>.setCell (Nat.le_refl _) _ |>.setCell (Nat.le_refl _) _ |>.setCell (Nat.le_refl _) _)))
            clear hrow elen hcc
            go_wp2_with fail
            refine bodyPost_ret (v := .tuple #[.agg #[.slice (some ⟨cb, co, none⟩) i cc, .slice ya i yc, .slice ea N c, .slice (some ⟨ba, 0, none⟩) N N], .int .i64 0]) ?_ rfl ⟨(HBR.out.setCell (Nat.le_refl _) _ |>.setCell (Nat.le_refl _) _ |>.setCell (Nat.le_refl _) _ |>.setCell (Nat.le_refl _) _), .inr ⟨i, mn, wn, rfl, rfl, rfl, HMAY.out, .inr ⟨HFIT.out, _, rfl, HFC.out _ _ _ _⟩⟩⟩
            rw [results_cell_tmp rfl]
            go_simp
end Go.Proofs.Ytbancojknahdgaa
