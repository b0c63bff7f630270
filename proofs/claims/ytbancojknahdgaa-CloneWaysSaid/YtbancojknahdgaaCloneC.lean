/- The contract of clone.Number: how contexts are numbered, or why they are not. -/
import Derived.Test.YtbancojknahdgaaCloneR
namespace Go.Proofs.Ytbancojknahdgaa
open Go.RowKit CP
theorem edge_info : (Try.prog.info? 50).map (fun i => (i.zero, i.size, i.bytes)) = some (some (.agg #[.int .i64 0, .int .i64 0, .int .i64 0]), 3, 24) := by kernel_rfl
theorem edges_len (l : List (Int × Int × Int)) : (l.flatMap keyCells).length = l.length * 3 := by
  induction l with
  | nil => rfl
  | cons x l ih => rw [List.flatMap_cons, List.length_append, ih, List.length_cons, Nat.add_mul]; simp [keyCells]; omega
theorem edges_ones (l : List (Int × Int × Int)) : ∀ u ∈ l.flatMap keyCells, u.oneCell' = true := by
  intro u hu
  obtain ⟨x, _, h⟩ := List.mem_flatMap.1 hu
  simp [keyCells] at h
  rcases h with rfl | rfl | rfl <;> rfl
set_option maxRecDepth 100000 in
set_option maxHeartbeats 1600000 in
theorem sclone_ok (w : World) (a : Option Addr) (es : List (Int × Int × Int)) (c : Nat) (hl : es.length ≤ 16384) (hc : Cells w a (es.flatMap keyCells)) :
    Calls Try.prog 41 #[.slice a es.length c] w fun e w' => Below w.heap.size w w' ∧ ∃ y, e = .returned y ∧ w'.ownsRow w.heap.size 50 3 y es.length (es.flatMap keyCells) := by
  obtain ⟨N, hN⟩ : ∃ N, es.length = N := ⟨_, rfl⟩
  have HN := Lib.hid hN; have HC := Lib.hid hc
  rw [hN] at hl ⊢
  clear hN hc
  obtain ⟨j0, hj0, yz0, yz1, yz2⟩ := info_parts edge_info
  have hnil : ∀ (W : World) (a : Option Addr) (n c : Nat), (binOp .eql 23 (.slice a n c) (.slice none 0 0)).run Try.prog W = .ok (.bool a.isNone) W := fun W a n c => Lib.run_eql_slice_nil W _ _ a n c 0 0 Try.underlying23
  cases a with
  | none =>
    have he : es = [] := by
      cases es with
      | nil => rfl
      | cons x l => obtain ⟨b, off, e, _⟩ := HC.out (by simp [keyCells]); cases e
    subst he
    have hN0 : N = 0 := HN.out.symm
    subst hN0
    go_enter Try.func41, Try.ntmps41
    go_wp2_with fail
    go_ret
    exact ⟨Below.refl _ _, _, rfl, World.ownsRow_nil _ _ _ _⟩
  | some ad =>
    go_enter Try.func41, Try.ntmps41
    have HRW : Hid ((w.alloc (.cells #[] 50)).ownsRow w.heap.size 50 3 (.slice (some ⟨w.heap.size, 0, none⟩) 0 0) 0 []) := Lib.hid ((Blk.new_ w 50 #[]).own (size := 3) (n := 0) (cap := 0) (Nat.le_refl _) (Nat.le_refl _) (by unfold maxLen; omega) rfl)
    have HLN : Hid ((es.flatMap keyCells).length = N * 3) := Lib.hid (by rw [← HN.out, edges_len])
    go_wp2_with (at_builtin; refine wpList_append_src rfl (.tmp 5) (.tmp 6) 23 rfl w.heap.size 50 j0 (.agg #[.int .i64 0, .int .i64 0, .int .i64 0]) 3 24 Try.underlying23 hj0 yz0 yz1 yz2 rfl (by decide) _ 0 [] rfl HRW.out (some ad) N c (es.flatMap keyCells) rfl HLN.out (HC.out.below ((Below.refl _ _).alloc (Nat.le_refl _) _)) (edges_ones es) (by unfold maxLen; omega) (by omega) (by simp) ?_)
    intro y7 w7 hown hg7 _
    have HB7 : Hid (Below w.heap.size w w7) := Lib.hid (((Below.refl _ _).alloc (Nat.le_refl _) _).grown hg7 (by simp) (fun j hj => (HRW.out.lt j hj).1))
    have HR7 : Hid (w7.ownsRow w.heap.size 50 3 y7 N (es.flatMap keyCells)) := Lib.hid (by simpa using hown)
    clear hown hg7 HRW
    go_wp2_with fail
    go_ret
    exact ⟨HB7.out, _, rfl, HR7.out⟩
/-- numbers of contexts in memory, by value -/
def ClAt (w : World) (v : Value) (c : Cl) : Prop :=
  ∃ a1 c1 a2 c2 a3 c3 a4 c4, v = .agg #[.slice a1 c.comp.length c1, .slice a2 c.count.length c2, .slice a3 c.edges.length c3, .slice a4 c.add.length (c.add.length + c4)] ∧
    Cells w a1 (zV c.comp) ∧ Cells w a2 (zV c.count) ∧ Cells w a3 (c.edges.flatMap keyCells) ∧ Cells w a4 (zV c.add)
theorem ClAt.below {w w' : World} {v : Value} {c : Cl} (h : ClAt w v c) (hb : Below w.heap.size w w') : ClAt w' v c := by
  obtain ⟨a1, c1, a2, c2, a3, c3, a4, c4, e, h1, h2, h3, h4⟩ := h
  exact ⟨a1, c1, a2, c2, a3, c3, a4, c4, e, h1.below hb, h2.below hb, h3.below hb, h4.below hb⟩
def clNil : Value := .agg #[.slice none 0 0, .slice none 0 0, .slice none 0 0, .slice none 0 0]
theorem ClAt.nil_ (w : World) : ClAt w clNil Cl.none := ⟨none, 0, none, 0, none, 0, none, 0, rfl, Cells.nil _ _, Cells.nil _ _, Cells.nil _ _, Cells.nil _ _⟩
theorem inL_len (fc tc : Nat → Nat) (k i : Nat) : (inL fc tc k i).length ≤ i := by
  unfold inL
  exact Nat.le_trans (List.length_filter_le _ _) (by simp)
theorem inL_same (fc tc : Nat → Nat) {i : Nat} (h : fc i = tc i) : (fun v => inL fc tc v (i + 1)) = fun v => inL fc tc v i := by
  funext v
  rw [inL_next, if_neg (by omega), List.append_nil]
theorem inL_grow (fc tc : Nat → Nat) {i : Nat} (h : fc i ≠ tc i) : (fun v => inL fc tc v (i + 1)) = fup (fun v => inL fc tc v i) (tc i) (inL fc tc (tc i) i ++ [i]) := by
  funext v
  by_cases e : v = tc i
  · subst e
    rw [fup_same, inL_next, if_pos ⟨rfl, h⟩]
  · rw [fup_ne _ _ e, inL_next, if_neg (by omega), List.append_nil]
theorem bcell {W w1 : World} (hb : Below W.heap.size W w1) : (∀ b o, b < W.heap.size → w1.cell? ⟨b, o, none⟩ = W.cell? ⟨b, o, none⟩) ∧ (∀ b o, b < W.heap.size → w1.frozen? ⟨b, o, none⟩ = W.frozen? ⟨b, o, none⟩) :=
  ⟨fun b o h => hb.cell (p := ⟨b, o, none⟩) h, fun b o h => hb.frozen (p := ⟨b, o, none⟩) h⟩
theorem compZ_get {k v : Nat} (E : Ed) (h : v < k) : (cmpZ k E).getD v 0 = (cmp k E v : Int) := by
  unfold cmpZ
  rw [List.getD_eq_getElem?_getD, List.getElem?_map, List.getElem?_range h]; rfl
theorem ClAt.final {w5 wr : World} {k mn m N bc p ba B g0 cb co cc : Nat} {ya ea2 : Option Addr} {yc ec2 : Nat} {es : List (Int × Int × Int)} {f g : Nat → Nat} {z0 z1 z2 z3 : Value}
    (h : NSt w5 wr m N bc p ba B (.slice (some ⟨cb, co, none⟩) k cc) (.slice ya k yc) (.slice ea2 N ec2) (iV ((List.range k).map fun v => f (cmp k (edE es) v))) es f g)
    (hc : Cells wr (some ⟨cb, co, none⟩) (zV (cmpZ k (edE es)))) (hg : g0 < w5.heap.size) (hne : g0 < cb) (_hk : Blk wr g0 27 #[z0, z1, z2, z3]) (hB : w5.heap.size ≤ B) (hN : es.length = N)
    (hf : ∀ v, v < k → f (cmp k (edE es) v) = cnE k mn es (cmp k (edE es) v)) (hgg : ∀ i, i < N → g i = adE k mn es i) (x0 x1 x2 x3 : Value) :
    ClAt ((((wr.setCell ⟨g0, 0, none⟩ x0).setCell ⟨g0, 1, none⟩ x1).setCell ⟨g0, 2, none⟩ x2).setCell ⟨g0, 3, none⟩ x3) (.agg #[.slice (some ⟨cb, co, none⟩) k cc, .slice ya k yc, .slice ea2 N ec2, .slice (some ⟨ba, 0, none⟩) N N]) (numC k mn es) := by
  have hba : ba ≠ g0 := by have := h.la; omega
  have e1 : (numC k mn es).comp.length = k := cmpZ_len _ _
  have e2 : (numC k mn es).count.length = k := by show ((List.range k).map _).length = k; rw [List.length_map, List.length_range]
  have e3 : (numC k mn es).edges.length = N := hN
  have e4 : (numC k mn es).add.length = N := by show ((List.range es.length).map _).length = N; rw [List.length_map, List.length_range, hN]
  refine ⟨some ⟨cb, co, none⟩, cc, ya, yc, ea2, ec2, some ⟨ba, 0, none⟩, 0, by rw [e1, e2, e3, e4, Nat.add_zero], ?_, ?_, ?_, ?_⟩
  · have hn : cb ≠ g0 := by omega
    exact cells_far (cells_far (cells_far (cells_far hc (a := ⟨g0, 0, none⟩) hn _) (a := ⟨g0, 1, none⟩) hn _) (a := ⟨g0, 2, none⟩) hn _) (a := ⟨g0, 3, none⟩) hn _
  · have hn : (Value.slice ya k yc).ownBlock ≠ some g0 := fun e => own_low h.row (g := g0) (by omega) e.symm
    have h2 := own_far (own_far (own_far (own_far h.row (a := ⟨g0, 0, none⟩) hn x0) (a := ⟨g0, 1, none⟩) hn x1) (a := ⟨g0, 2, none⟩) hn x2) (a := ⟨g0, 3, none⟩) hn x3
    have elen : (iV ((List.range k).map fun v => f (cmp k (edE es) v))).length = k := by rw [iV_len, List.length_map, List.length_range]
    rw [elen] at h2
    have h3 := own_cellsC h2
    have e : zV (numC k mn es).count = iV ((List.range k).map fun v => f (cmp k (edE es) v)) := by
      rw [iV_z, List.map_map]
      show zV ((List.range k).map _) = _
      congr 1
      exact List.map_congr_left fun v hv => by
        show (cnE k mn es (cmp k (edE es) v) : Int) = (f (cmp k (edE es) v) : Int)
        rw [hf v (List.mem_range.1 hv)]
    rw [e]; exact h3
  · have hn : (Value.slice ea2 N ec2).ownBlock ≠ some g0 := fun e => own_low h.ed (g := g0) hg e.symm
    exact own_cellsC (own_far (own_far (own_far (own_far h.ed (a := ⟨g0, 0, none⟩) hn x0) (a := ⟨g0, 1, none⟩) hn x1) (a := ⟨g0, 2, none⟩) hn x2) (a := ⟨g0, 3, none⟩) hn x3)
  · have h3 := ((((h.ab.far (p := ⟨g0, 0, none⟩) hba x0).far (p := ⟨g0, 1, none⟩) hba x1).far (p := ⟨g0, 2, none⟩) hba x2).far (p := ⟨g0, 3, none⟩) hba x3).cells
    rw [tabI_list] at h3
    have e : zV (numC k mn es).add = iV ((List.range N).map g) := by
      rw [iV_z, List.map_map, ← hN]
      show zV ((List.range es.length).map _) = _
      congr 1
      exact List.map_congr_left fun v hv => by
        show (adE k mn es v : Int) = (g v : Int)
        rw [hgg v (by rw [← hN]; exact List.mem_range.1 hv)]
    rw [e]; exact h3
def NumPost (w : World) (n main : Int) (es : List (Int × Int × Int)) (wd : Int) (e : Ending) (w' : World) : Prop :=
  Below w.heap.size w w' ∧ ((mayC n main es wd = false ∧ e = .returned (.tuple #[clNil, .int .i64 1])) ∨
    ∃ k mn wn : Nat, n = (k : Int) ∧ main = (mn : Int) ∧ wd = (wn : Int) ∧ MayN k mn es wn ∧
      ((fitC k mn es wn = false ∧ e = .returned (.tuple #[clNil, .int .i64 200])) ∨
       (fitC k mn es wn = true ∧ ∃ v, e = .returned (.tuple #[v, .int .i64 0]) ∧ ClAt w' v (numC k mn es))))
set_option maxRecDepth 100000 in
set_option maxHeartbeats 25600000 in
theorem number_ok (w : World) (n main : Int) (ea : Option Addr) (es : List (Int × Int × Int)) (c : Nat) (wd : Int) (hm : es.length ≤ maxLen) (hc : Cells w ea (es.flatMap keyCells)) :
    Calls Try.prog 17 #[.int .i64 n, .int .i64 main, .slice ea es.length c, .int .i64 wd] w (NumPost w n main es wd) := by
  obtain ⟨w0, hw0⟩ : ∃ w0, w0 = w.alloc (.cells #[.slice none 0 0, .slice none 0 0, .slice none 0 0, .slice none 0 0] 27) := ⟨_, rfl⟩
  have hb0 : Below w.heap.size w w0 := by rw [hw0]; exact (Below.refl _ _).alloc (Nat.le_refl _) _
  have hk0 : Blk w0 w.heap.size 27 #[.slice none 0 0, .slice none 0 0, .slice none 0 0, .slice none 0 0] := by rw [hw0]; exact Blk.new_ _ _ _
  have HR := Lib.hid (cmay_ok w0 n main ea es c wd hm (hc.below hb0))
  obtain ⟨N, hN⟩ : ∃ N, es.length = N := ⟨_, rfl⟩
  have HN := Lib.hid hN; have HC := Lib.hid hc; have HB0 := Lib.hid hb0; have HK0 := Lib.hid hk0; have HW0 := Lib.hid hw0
  rw [hN] at hm HR ⊢
  clear hN hc hb0 hk0 hw0
  obtain ⟨j0, hj0, yz0, yz1, yz2⟩ := info_parts pair_info
  go_enter Try.func17, Try.ntmps17
  go_wp2_with fail
  rw [← HW0.out]
  refine HR.out.mono ?_
  rintro e w1 ⟨rfl, hb1⟩
  have HB1 := Lib.hid (HB0.out.trans (hb1.mono HB0.out.size))
  have HK1 := Lib.hid (HK0.out.below hb1 HK0.out.lt)
  clear hb1 HR HB0 HK0
  cases hmay : mayC n main es wd with
  | false =>
    have r0 : w1.cell? ⟨w.heap.size, 0, none⟩ = some (.slice none 0 0) := HK1.out.cell 0
    have r1 : w1.cell? ⟨w.heap.size, 1, none⟩ = some (.slice none 0 0) := HK1.out.cell 1
    have r2 : w1.cell? ⟨w.heap.size, 2, none⟩ = some (.slice none 0 0) := HK1.out.cell 2
    have r3 : w1.cell? ⟨w.heap.size, 3, none⟩ = some (.slice none 0 0) := HK1.out.cell 3
    have f0 := HK1.out.frozen 0; have f1 := HK1.out.frozen 1; have f2 := HK1.out.frozen 2; have f3 := HK1.out.frozen 3
    have rl := HK1.out.lt
    have HMAY := Lib.hid hmay
    clear hmay
    go_wp2_with fail
    refine bodyPost_ret (v := .tuple #[clNil, .int .i64 1]) ?_ rfl ⟨(HB1.out.setCell (Nat.le_refl _) _ |>.setCell (Nat.le_refl _) _ |>.setCell (Nat.le_refl _) _ |>.setCell (Nat.le_refl _) _), .inl ⟨HMAY.out, rfl⟩⟩
    rw [results_cell_tmp rfl]
    go_simp
    rfl
  | true =>
    obtain ⟨k, mn, wn, rfl, rfl, rfl, hMay⟩ := mayN_of hmay
    have hk1 := hMay.k1; have hk2 := hMay.k2; have hmn := hMay.mn1; have hN4 := hMay.len
    rw [HN.out] at hN4
    have HMAY := Lib.hid hMay
    clear hmay hMay
    go_wp2_with fail
    go_loopg [10, 38] N (fun m y x wr => ∃ i : Nat, m + i = N ∧ x = .int .i64 (i : Int) ∧ Below w1.heap.size w1 wr ∧ wr.ownsRow w1.heap.size 64 2 y i ((pairsZ (es.take i)).flatMap pairCells))
    case atStart => exact ⟨0, rfl, rfl, Below.refl _ _, World.ownsRow_nil _ _ _ _⟩
    case round =>
      obtain ⟨i, hm2, rfl, hb, hrow⟩ := hrel
      have HM := Lib.hid hm2; have HB := Lib.hid hb; have HROW := Lib.hid hrow
      have hws := hb.size
      clear hm2 hb hrow
      by_cases hi : i < N
      · obtain ⟨x, hx⟩ : ∃ x, es[i]? = some x := ⟨_, List.getElem?_eq_getElem (by rw [HN.out]; exact hi)⟩
        obtain ⟨b, off, hla, hbl, k0, k1, k2⟩ := (HC.out.below (HB1.out.trans (HB.out.mono HB1.out.size))).key hx
        subst hla
        have HNX := Lib.hid (pairsZ_next hx)
        obtain ⟨x0, x1, x2⟩ := x
        simp only at k0 k1 k2
        clear hx
        obtain ⟨w2, hw2⟩ : ∃ w2, w2 = wr.alloc (.cells #[.int .i64 x0, .int .i64 x1, .int .i64 x2] 50) := ⟨_, rfl⟩
        obtain ⟨gx, hgx⟩ : ∃ gx, gx = wr.heap.size := ⟨_, rfl⟩
        have hb2 : Below wr.heap.size wr w2 := by rw [hw2]; exact (Below.refl _ _).alloc (Nat.le_refl _) _
        have kx : Blk w2 gx 50 #[.int .i64 x0, .int .i64 x1, .int .i64 x2] := by rw [hw2, hgx]; exact Blk.new_ _ _ _
        have HB2 := Lib.hid (HB.out.trans (hb2.mono HB.out.size)); have HROW2 := Lib.hid (own_below HROW.out hb2)
        have p0 : w2.cell? ⟨gx, 0, none⟩ = some (.int .i64 x0) := kx.cell 0
        have p2 : w2.cell? ⟨gx, 2, none⟩ = some (.int .i64 x2) := kx.cell 2
        have pl := kx.lt
        have hws2 : w1.heap.size ≤ w2.heap.size := HB2.out.size
        have HW2 := Lib.hid hw2; have HGX := Lib.hid hgx
        clear hw2 hb2 kx hgx HB HROW
        go_upto_region 7 with (fail)
        rw [← HW2.out]
        try rw [← HGX.out]
        go_wp2_with (at_builtin; refine wpList_append_sep rfl (.tmp 42) (.tmp 48) 54 rfl w1.heap.size 64 j0 (.agg #[.int .i64 0, .int .i64 0]) 2 16 Try.underlying54 hj0 yz0 yz1 yz2 rfl (by decide) _ i _ rfl (HROW2.out.alloc _) w2.heap.size 0 1 1 [.int .i64 x0, .int .i64 x2] rfl rfl (pair_lits0 _ _ _ _) (pair_ones _ _) (by unfold maxLen; omega) (by omega) (by simp; omega) ?_)
        intro y7 w7 hown hg7 hsep
        have HR7 : Hid (w7.ownsRow w1.heap.size 64 2 y7 (i + 1) ((pairsZ (es.take (i + 1))).flatMap pairCells)) := Lib.hid (by rw [HNX.out, ← pairs_snoc]; exact hown)
        have HB7 : Hid (Below w1.heap.size w1 w7) := Lib.hid ((HB2.out.alloc hws2 (.cells #[.int .i64 x0, .int .i64 x2] 64)).grown hg7 (Nat.le_trans hws2 (Nat.le_of_lt (by simp))) (fun j hj => (HROW2.out.lt j hj).1))
        clear hown hg7 hsep HROW2 HB2 p0 p2 pl k0 k1 k2 hbl
        go_wp2_with fail
        go_roundg (N - (i + 1))
        case measure => have := HM.out; omega
        case rel => exact ⟨i + 1, by have := HM.out; omega, by go_num, HB7.out, HR7.out⟩
      · have hiN : i = N := by have := HM.out; omega
        have hrow2 := HROW.out
        rw [hiN, ← HN.out, List.take_length, HN.out] at hrow2
        obtain ⟨pa, pc, rfl, _, _, hpc⟩ := Cells.of_own hrow2
        obtain ⟨P, hP⟩ : ∃ P, pairsZ es = P := ⟨_, rfl⟩
        rw [hP] at hpc
        obtain ⟨w2, hw2⟩ : ∃ w2, w2 = wr := ⟨_, rfl⟩
        rw [← hw2] at hpc HB ⊢
        have HB2 := Lib.hid (HB1.out.trans (HB.out.mono HB1.out.size))
        have HK2 := Lib.hid (HK1.out.below HB.out HK1.out.lt)
        have hPl : P.length = N := by rw [← hP, pairsZ_len, HN.out]
        have hcs := comps_ok w2 (k : Int) pa P pc (by rw [hPl]; unfold maxLen; omega) hpc
        rw [hPl] at hcs
        have HCS := Lib.hid hcs; have HP := Lib.hid hP
        clear hiN hrow2 hpc hP hw2 hPl hcs HB HB1 HK1 HROW
        go_wp2_with fail
        refine HCS.out.mono ?_
        rintro e w3 ⟨hb3, h | h⟩
        · exact absurd h.1 (by rw [← HP.out, HMAY.out.mayG]; decide)
        obtain ⟨_, y3, rfl, hr3⟩ := h
        rw [Int.toNat_natCast] at hr3
        obtain ⟨ca, cc, rfl, _, _, hcc⟩ := Cells.of_own hr3
        have HCC : Hid (Cells w3 ca (zV (cmpZ k (edE es)))) := Lib.hid (by
          rw [iV_z, List.map_map, ← HP.out] at hcc; exact hcc)
        have hcge : ∀ b, ca.map (·.block) = some b → w.heap.size < b := fun b h => by
          have h1 := hr3.lt b (by
            cases ca with
            | none => cases h
            | some a => injection h with h; subst h; rfl)
          have h2 := HK2.out.lt
          omega
        have HCGE := Lib.hid hcge
        clear hcge
        have HB3 := Lib.hid (HB2.out.trans (hb3.mono HB2.out.size))
        have HK3 := Lib.hid (HK2.out.below hb3 HK2.out.lt)
        have hcl := cmpZ_len k (edE es)
        have hmax := HMAY.out.maxOf
        obtain ⟨zs, hzs⟩ : ∃ zs, cmpZ k (edE es) = zs := ⟨_, rfl⟩
        rw [hzs] at hcl hmax HCC
        obtain ⟨m, hm⟩ : ∃ m, edM k es = m := ⟨_, rfl⟩
        have hmk := HMAY.out.topk
        rw [hm] at hmax hmk
        have hmx0 : 0 < m := by have := HMAY.out.top hmn; omega
        obtain ⟨t, rfl⟩ : ∃ t, m = t + 1 := ⟨m - 1, by omega⟩
        have hne : zs ≠ [] := by intro e; rw [e] at hcl; simp at hcl; omega
        obtain ⟨cb, co, hca, hcbl, _⟩ := HCC.out (by intro h; exact hne (by unfold zV at h; simpa using h))
        subst hca
        have hcd := HCC.out.getD
        have hmax2 : Lib.maxOf zs = (t : Int) := by omega
        have HMAX := Lib.hid ((Try.slices_Max_int cb co zs.length cc zs w3 (by omega) (Nat.le_refl _) (by omega) hcd).mono fun e w' h => (⟨h.1, h.2.symm⟩ : e = _ ∧ w3 = w'))
        rw [List.take_length, hcl, hmax2] at HMAX
        have HZS := Lib.hid hzs; have HM0 := Lib.hid hm; have HCL := Lib.hid hcl
        obtain ⟨m, hm1⟩ : ∃ m, t + 1 = m := ⟨_, rfl⟩
        rw [hm1] at HM0 hmk hmx0
        have hmi : (t : Int) + 1 = (m : Int) := by omega
        have ht : t ≤ 1024 := by omega
        obtain ⟨i0, hi0, hz0, hz1, hz2⟩ := info_parts rows_info
        obtain ⟨l0, hl0, lz0, lz1, lz2⟩ := info_parts int_infoC
        have hmke := run_make_n (P := Try.prog) 42 25 i0 (.slice none 0 0) 1 24 Try.underlying42 hi0 hz0 hz1 hz2 .i64 .i64 m m (Nat.le_refl _) (by omega) (by omega)
        have e0 : madeCells (Value.slice none 0 0).cells (m * 1) = tabV m fun _ => .slice none 0 0 := made_rep m _
        rw [e0] at hmke
        clear hr3 hcc hb3 hzs hm hm1 hmax hmax2 hcd hne hcl HCS HB2 HK2 e0
        go_wp2_with fail
        refine HMAX.out.mono ?_
        rintro e w' ⟨rfl, rfl⟩
        go_upto_region 11 with (fail)
        have HG0 := Lib.hid (GrM.made w3 m)
        clear hmke hmi ht hmx0
        obtain ⟨F, hF⟩ : ∃ F, edF k es = F := ⟨_, rfl⟩
        obtain ⟨T, hT⟩ : ∃ T, edT k es = T := ⟨_, rfl⟩
        have HFT : Hid (∀ i a b d : Nat, es[i]? = some ((a : Int), (b : Int), (d : Int)) → a < k → d < k → F i < m ∧ T i < m ∧ zs.getD a 0 = (F i : Int) ∧ zs.getD d 0 = (T i : Int)) := Lib.hid (fun i a b d hx ha hd => by
          have h1 := edF_at k hx; have h2 := edT_at k hx
          rw [hF] at h1; rw [hT] at h2
          simp only [Int.toNat_natCast] at h1 h2
          rw [h1, h2, ← HM0.out]
          refine ⟨HMAY.out.top ha, HMAY.out.top hd, ?_, ?_⟩
          · rw [← HZS.out]; exact compZ_get _ ha
          · rw [← HZS.out]; exact compZ_get _ hd)
        have HF := Lib.hid hF; have HT := Lib.hid hT
        clear hF hT
        go_wp2_with fail
        go_loopg [63] N (fun mm x wr => ∃ i sl, mm + i = N ∧ x = .int .i64 (i : Int) ∧ GrM wr w3.heap.size w3.heap.size m (fun v => inL F T v i) sl ∧ Below w3.heap.size w3 wr)
        case atStart => exact ⟨0, fun _ => .slice none 0 0, rfl, rfl, HG0.out, (Below.refl _ _).alloc (Nat.le_refl _) _⟩
        case round =>
          obtain ⟨i, sl, hm2, rfl, hg, hb⟩ := hrel
          have HM := Lib.hid hm2; have HG := Lib.hid hg; have HB := Lib.hid hb
          have hws := hb.size
          clear hm2 hg hb HG0
          by_cases hi : i < N
          · obtain ⟨x, hx⟩ : ∃ x, es[i]? = some x := ⟨_, List.getElem?_eq_getElem (by rw [HN.out]; exact hi)⟩
            obtain ⟨b, off, hla, hbl, k0, k1, k2⟩ := (HC.out.below (HB3.out.trans (HB.out.mono HB3.out.size))).key hx
            subst hla
            obtain ⟨a, e, d, rfl, hak, hdk, _⟩ := HMAY.out.at_ hx
            obtain ⟨hfm, htm, hfz, htz⟩ := HFT.out i a e d hx hak hdk
            simp only at k0 k1 k2
            obtain ⟨w2, hw2⟩ : ∃ w2, w2 = wr.alloc (.cells #[.int .i64 (a : Int), .int .i64 (e : Int), .int .i64 (d : Int)] 50) := ⟨_, rfl⟩
            obtain ⟨gx, hgx⟩ : ∃ gx, gx = wr.heap.size := ⟨_, rfl⟩
            have hb2 : Below wr.heap.size wr w2 := by rw [hw2]; exact (Below.refl _ _).alloc (Nat.le_refl _) _
            have kx : Blk w2 gx 50 #[.int .i64 (a : Int), .int .i64 (e : Int), .int .i64 (d : Int)] := by rw [hw2, hgx]; exact Blk.new_ _ _ _
            have HB2 := Lib.hid (HB.out.trans (hb2.mono HB.out.size)); have HG2 := Lib.hid (HG.out.below hb2)
            have hcd := (HCC.out.below HB2.out).getD
            have c0 : w2.cell? ⟨cb, co + a, none⟩ = some (.int .i64 (F i : Int)) := by rw [hcd a (by rw [HCL.out]; exact hak), hfz]
            have c2 : w2.cell? ⟨cb, co + d, none⟩ = some (.int .i64 (T i : Int)) := by rw [hcd d (by rw [HCL.out]; exact hdk), htz]
            have p0 : w2.cell? ⟨gx, 0, none⟩ = some (.int .i64 (a : Int)) := kx.cell 0
            have p2 : w2.cell? ⟨gx, 2, none⟩ = some (.int .i64 (d : Int)) := kx.cell 2
            have pl := kx.lt
            have hws2 : w3.heap.size ≤ w2.heap.size := HB2.out.size
            obtain ⟨fi, hfi⟩ : ∃ fi, F i = fi := ⟨_, rfl⟩
            obtain ⟨ti, hti⟩ : ∃ ti, T i = ti := ⟨_, rfl⟩
            rw [hfi] at c0 hfm
            rw [hti] at c2 htm
            have HW2 := Lib.hid hw2; have HGX := Lib.hid hgx; have HFI := Lib.hid hfi; have HTI := Lib.hid hti
            clear hw2 hb2 kx hgx HB HG hcd hfz htz hfi hti hx
            go_upto_region 14 with (fail)
            rw [← HW2.out]
            try rw [← HGX.out]
            clear k0 k1 k2 hbl
            by_cases hne : fi = ti
            · subst hne
              have d1 : ((fi : Int) != (fi : Int)) = false := by simp
              have d2 : (fi != fi) = false := by simp
              have HST := Lib.hid (inL_same F T (show F i = T i by rw [HFI.out, HTI.out]))
              go_quiet (fail)
              obtain ⟨w4, hw4⟩ : ∃ w4, w4 = w2.drewN nq := ⟨_, rfl⟩
              have hb4 : Below w2.heap.size w2 w4 := by rw [hw4]; exact drew_below w2 nq
              have HB4 := Lib.hid (HB2.out.trans (hb4.mono HB2.out.size)); have HG4 := Lib.hid (HG2.out.below hb4)
              rw [← hw4]
              clear hw4 hb4 HB2 HG2 p0 p2 pl c0 c2
              go_wp2_with fail
              go_roundg (N - (i + 1))
              case measure => have := HM.out; omega
              case rel => exact ⟨i + 1, sl, by have := HM.out; omega, by go_num, by rw [HST.out]; exact HG4.out, HB4.out⟩
            · have d1 : ((fi : Int) != (ti : Int)) = true := by rw [bne_iff_ne]; omega
              have d2 : (fi != ti) = true := by rw [bne_iff_ne]; omega
              have HST := Lib.hid (inL_grow F T (show F i ≠ T i by rw [HFI.out, HTI.out]; exact hne))
              rw [HTI.out] at HST
              clear hne
              go_quiet (fail)
              obtain ⟨w4, hw4⟩ : ∃ w4, w4 = w2.drewN nq := ⟨_, rfl⟩
              have hb4 : Below w2.heap.size w2 w4 := by rw [hw4]; exact drew_below w2 nq
              have HB4 := Lib.hid (HB2.out.trans (hb4.mono HB2.out.size)); have HG4 := Lib.hid (HG2.out.below hb4)
              have hws4 : w3.heap.size ≤ w4.heap.size := HB4.out.size
              rw [← hw4]
              clear hw4 hb4 HB2 HG2 p0 p2 pl c0 c2
              have q0 : w4.cell? ⟨w3.heap.size, ti, none⟩ = some (sl ti) := (HG4.out.blk.cell ti).trans (tabV_get _ htm)
              have ql := HG4.out.blk.lt
              have hlen := inL_len F T ti i
              obtain ⟨na, hna⟩ : ∃ na, (inL F T ti i).length = na := ⟨_, rfl⟩
              have hrow := HG4.out.row ti htm
              rw [hna] at hrow hlen
              have HROW := Lib.hid hrow; have HNA := Lib.hid hna
              clear hrow hna
              go_upto_region 16 with (fail)
              go_wp2_with (at_builtin; refine wpList_append_sep rfl (.tmp 86) (.tmp 88) 25 rfl w3.heap.size 3 l0 (.int .i64 0) 1 8 Try.underlying25 hl0 lz0 lz1 lz2 rfl (by decide) (sl ti) na _ rfl (HROW.out.alloc _) w4.heap.size 0 1 1 [.int .i64 (i : Int)] rfl rfl (lit_one _ _ _) (ones_int _) (by unfold maxLen; omega) (by omega) (by simp; omega) ?_)
              intro y7 w7 hown hg7 hsep
              obtain ⟨oa, oc, rfl⟩ := own_shape hown
              have hal := (Below.refl w4.heap.size w4).alloc (Nat.le_refl _) (.cells #[.int .i64 (i : Int)] 3)
              have hG7 := (HG4.out.below hal).grow htm (x := i) (v := .slice oa (na + 1) oc) (by rw [HNA.out]; exact hown) hg7 (by simpa using hsep)
              rw [← HST.out] at hG7
              have HG7 := Lib.hid hG7
              have hb7 := (HG4.out.blk.alloc_ (.cells #[.int .i64 (i : Int)] 3)).grown hg7 (own_ne_blk HROW.out HG4.out.blk (by decide))
              have f0 : w7.cell? ⟨w3.heap.size, ti, none⟩ = some (sl ti) := (hb7.cell ti).trans (tabV_get _ htm)
              have ff := hb7.frozen ti
              have fl := hb7.lt
              have HB7 : Hid (Below w3.heap.size w3 (w7.setCell ⟨w3.heap.size, ti, none⟩ (.slice oa (na + 1) oc))) := Lib.hid (((HB4.out.trans (hal.mono hws4)).grown hg7 (by simp; omega) (fun b hb => (HROW.out.lt b hb).1)).setCell (Nat.le_refl _) _)
              clear hown hg7 hsep hal hG7 hb7 HROW q0 ql
              go_wp2_with fail
              go_roundg (N - (i + 1))
              case measure => have := HM.out; omega
              case rel => exact ⟨i + 1, _, by have := HM.out; omega, by go_num, HG7.out, HB7.out⟩
          · have hiN : i = N := by have := HM.out; omega
            have hgn := HG.out
            rw [hiN] at hgn
            obtain ⟨w5, hw5⟩ : ∃ w5, w5 = wr := ⟨_, rfl⟩
            rw [← hw5] at hgn HB ⊢
            have HG5 := Lib.hid hgn
            have HB35 := HB
            have HB5 := Lib.hid (HB3.out.trans (HB.out.mono HB3.out.size))
            have HK5 := Lib.hid (HK3.out.below HB.out HK3.out.lt)
            have HC5 := Lib.hid (HC.out.below HB5.out)
            have HCC5 := Lib.hid (HCC.out.below HB.out)
            clear hgn hw5 HG HB HB3 HK3 hiN
            go_upto_region 18 with (fail)
            obtain ⟨MO, hMO⟩ : ∃ MO : Nat, 2 ^ wn - 1 = MO := ⟨_, rfl⟩
            have hw1 := HMAY.out.wd1; have hw2 := HMAY.out.wd2
            have hMb : MO ≤ 4611686018427387903 := by
              have h := Nat.pow_le_pow_right (show 0 < 2 by decide) hw2
              have e : (2 : Nat) ^ 62 = 4611686018427387904 := by decide
              omega
            have HMO := Lib.hid hMO; have HMB := Lib.hid hMb
            clear hMO hMb
            have HP := Lib.hid (pow_ok (wn : Int) w5)
            obtain ⟨z, hz, hz0, hz1, hz2⟩ : ∃ z : Int, powS (wn : Int) = z + 1 ∧ 0 ≤ z ∧ z ≤ 4611686018427387903 ∧ (wn ≠ 62 → z = (MO : Int)) := by
              by_cases h62 : wn = 62
              · exact ⟨4611686018427387902, by unfold powS; rw [if_pos (by omega)]; rfl, by omega, by omega, fun h => absurd h62 h⟩
              · refine ⟨(MO : Int), ?_, by omega, by have := HMB.out; omega, fun _ => rfl⟩
                unfold powS
                rw [if_neg (by omega), show max (wn : Int) 0 = wn from by omega, Int.toNat_natCast]
                have h1 := Nat.two_pow_pos wn
                have h2 : ((2 ^ wn : Nat) : Int) = 2 ^ wn := by simp
                rw [← h2, ← HMO.out]; omega
            have HZ2 := Lib.hid hz2
            rw [hz] at HP
            clear hz hz2
            go_wp2_with fail
            refine HP.out.mono ?_
            rintro e w' ⟨rfl, rfl⟩
            go_upto_if 96 with (fail)
            go_cut [20] (fun x wc => x = .int .i64 (MO : Int) ∧ w5 = wc)
            case first =>
              by_cases h62 : wn = 62
              · have d1 : ((wn : Int) == 62) = true := by rw [beq_iff_eq]; omega
                have d2 : (wn == 62) = true := by rw [beq_iff_eq]; omega
                have HE : Hid ((MO : Int) = 4611686018427387903) := Lib.hid (by rw [← HMO.out, h62]; rfl)
                clear h62 hw1 hw2
                go_wp2_with fail
                go_meet
                case rel => exact ⟨by rw [HE.out], rfl⟩
              · have d1 : ((wn : Int) == 62) = false := by rw [beq_eq_false_iff_ne]; omega
                have d2 : (wn == 62) = false := by rw [beq_eq_false_iff_ne]; omega
                have HE : Hid (z = (MO : Int)) := Lib.hid (HZ2.out h62)
                clear h62 hw1 hw2
                go_wp2_with fail
                go_meet
                case rel => exact ⟨by rw [HE.out], rfl⟩
            case rest =>
              obtain ⟨rfl, rfl⟩ := hcut
              clear HP HZ2 hz0 hz1
              have hmc := HMAY.out.top hmn
              rw [HM0.out] at hmc
              obtain ⟨mc, hmce⟩ : ∃ mc, cmp k (edE es) mn = mc := ⟨_, rfl⟩
              have hmz : zs.getD mn 0 = (mc : Int) := by rw [← HZS.out, compZ_get _ hmn, hmce]
              rw [hmce] at hmc
              have HMC := Lib.hid hmce
              have hmk2 := run_make_n (P := Try.prog) 25 3 l0 (.int .i64 0) 1 8 Try.underlying25 hl0 lz0 lz1 lz2 .i64 .i64 m m (Nat.le_refl _) (by omega) (by omega)
              have e0 : madeCells (Value.int .i64 0).cells (m * 1) = tabI m fun _ => 0 := made_rep m _
              rw [e0] at hmk2
              have hmk3 := run_make_n (P := Try.prog) 25 3 l0 (.int .i64 0) 1 8 Try.underlying25 hl0 lz0 lz1 lz2 .i64 .i64 N N (Nat.le_refl _) (by omega) (by omega)
              have e1 : madeCells (Value.int .i64 0).cells (N * 1) = tabI N fun _ => 0 := made_rep N _
              rw [e1] at hmk3
              obtain ⟨w6, hw6⟩ : ∃ w6, w6 = w5.alloc (.cells (tabI m fun _ => 0) 3) := ⟨_, rfl⟩
              obtain ⟨bc, hbc⟩ : ∃ bc, bc = w5.heap.size := ⟨_, rfl⟩
              have hb6 : Below w5.heap.size w5 w6 := by rw [hw6]; exact (Below.refl _ _).alloc (Nat.le_refl _) _
              have kb6 : Blk w6 bc 3 (tabI m fun _ => 0) := by rw [hw6, hbc]; exact Blk.new_ _ _ _
              have c6 : w6.cell? ⟨cb, co + mn, none⟩ = some (.int .i64 (mc : Int)) := by rw [(HCC5.out.below hb6).getD mn (by rw [HCL.out]; exact hmn), hmz]
              have b6 : w6.cell? ⟨bc, mc, none⟩ = some (.int .i64 (0 : Nat)) := (kb6.cell mc).trans (tabI_get _ hmc)
              have f6 := kb6.frozen mc
              have l6 := kb6.lt
              have HB6 := Lib.hid hb6; have HW6 := Lib.hid hw6; have HBC := Lib.hid hbc; have HK6 := Lib.hid kb6
              clear hmce hmz e0 e1 hw6 hbc hb6 kb6
              go_upto_region 22 with (fail)
              rw [← HW6.out]
              try rw [← HBC.out]
              clear hmk2
              go_upto_region 23 with (fail)
              obtain ⟨w7, hw7⟩ : ∃ w7, w7 = w6.setCell ⟨bc, mc, none⟩ (.int .i64 1) := ⟨_, rfl⟩
              have hbce : bc = w5.heap.size := HBC.out
              have hb7 : Below w5.heap.size w5 w7 := by rw [hw7]; exact HB6.out.setCell (by rw [hbce]; exact Nat.le_refl _) _
              have kb7 : Blk w7 bc 3 (tabI m (fun v => if v = mc then 1 else 0)) := by
                rw [hw7]
                have h := HK6.out.set_ mc (.int .i64 ((1 : Nat) : Int))
                rw [tabI_set _ hmc] at h
                have e : fup (fun _ => 0) mc 1 = fun v => if v = mc then 1 else 0 := by
                  funext v
                  by_cases e : v = mc
                  · subst e; rw [fup_same, if_pos rfl]
                  · rw [fup_ne _ _ e, if_neg e]
                rw [e] at h
                exact h
              rw [← hw7]
              have HB7 := Lib.hid hb7; have HK7 := Lib.hid kb7
              have HC7 := Lib.hid (HC5.out.below hb7)
              have HSC : Hid (∀ W, Below w7.heap.size w7 W → Calls Try.prog 41 #[.slice ea N c] W fun e w' => Below W.heap.size W w' ∧ ∃ y, e = .returned y ∧ w'.ownsRow W.heap.size 50 3 y N (es.flatMap keyCells)) := Lib.hid (fun W hW => by
                have h := sclone_ok W ea es c (by rw [HN.out]; exact hN4) (HC7.out.below hW)
                rw [HN.out] at h; exact h)
              clear hw7 hbce hb7 kb7 c6 b6 f6 l6 HB6 HW6 HK6
              go_cut [22] (fun x wc => BoxPost w7 N (.slice (some ⟨cb, co, none⟩) k cc) es x wc)
              case first =>
                go_region_with ((go_at_call 41; refine (HSC.out _ (by first | exact (Below.refl _ _).drew | exact ((Below.refl _ _).alloc (Nat.le_refl _) _).drew | exact (((Below.refl _ _).alloc (Nat.le_refl _) _).alloc (by simp) _).drew)).mono ?_; rintro e w8 ⟨hb8, y8, rfl, hr8⟩; obtain ⟨oa8, oc8, rfl⟩ := own_shape hr8; have hz8 := hb8.size; simp at hz8; (first | (have hk8 := boxA3 hb8; have q0 := hk8.cell 0; have q1 := hk8.cell 1; have q2 := hk8.cell 2; have q3 := hk8.cell 3; have r0 := hk8.frozen 0; have r1 := hk8.frozen 1; have r2 := hk8.frozen 2; have r3 := hk8.frozen 3; have rl := hk8.lt; have HK8 := Lib.hid hk8; clear hk8) | (have hk8 := boxA2 hb8; have q0 := hk8.cell 0; have q1 := hk8.cell 1; have q2 := hk8.cell 2; have q3 := hk8.cell 3; have r0 := hk8.frozen 0; have r1 := hk8.frozen 1; have r2 := hk8.frozen 2; have r3 := hk8.frozen 3; have rl := hk8.lt; have HK8 := Lib.hid hk8; clear hk8) | (have hk8 := boxA1 hb8; have q0 := hk8.cell 0; have q1 := hk8.cell 1; have q2 := hk8.cell 2; have q3 := hk8.cell 3; have r0 := hk8.frozen 0; have r1 := hk8.frozen 1; have r2 := hk8.frozen 2; have r3 := hk8.frozen 3; have rl := hk8.lt; have HK8 := Lib.hid hk8; clear hk8) | skip); have HR8 := Lib.hid (And.intro hb8 hr8); clear hb8 hr8))
                all_goals
                  go_wp2_with fail
                  go_meet
                  case rel => first | with_reducible exact bp1 HR8.out | with_reducible exact bp2 HR8.out | with_reducible exact bp3 HR8.out | with_reducible exact bp4 HR8.out | with_reducible exact bp5 HR8.out | with_reducible exact bp6 HR8.out
              case rest =>
                obtain ⟨p, ba, ea2, ec2, rfl, kp, kba, hed, hb8, hp8, hba8⟩ := hcut
                obtain ⟨w8, hw8⟩ : ∃ w8, w8 = wc := ⟨_, rfl⟩
                rw [← hw8] at kp kba hed hb8 ⊢
                clear hw8
                have hs57 := HB7.out.size
                have HS0 : Hid (NSt w5 w8 m N bc p ba w8.heap.size (.slice (some ⟨cb, co, none⟩) k cc) (.slice none 0 0) (.slice ea2 N ec2) [] es (pcnt F T N mc m 0 0) (padd F T N mc m 0 0)) := Lib.hid (by
                  rw [pcnt_start]
                  have e : padd F T N mc m 0 0 = fun _ => 0 := by funext j; exact padd_start
                  rw [e]
                  have hbl := HK7.out.lt
                  exact ⟨HB7.out.trans (hb8.mono hs57), HK7.out.below hb8 hbl, kba, kp, own_base hed hs57, World.ownsRow_nil _ _ _ _, by rw [HBC.out]; exact Nat.le_refl _, by omega, by omega, by omega, (HK7.out.below hb8 hbl).lt, kba.lt, Nat.le_refl _⟩)
                have hB5 : w5.heap.size ≤ w8.heap.size := Nat.le_trans hs57 hb8.size
                obtain ⟨B, hB⟩ : ∃ B, w8.heap.size = B := ⟨_, rfl⟩
                rw [hB] at HS0 hB5
                have hMO1 : 1 ≤ MO := by
                  have h := Nat.pow_le_pow_right (show 0 < 2 by decide) HMAY.out.wd1
                  have h2 := HMO.out
                  omega
                have HUP : Hid (Up F T N m) := Lib.hid (by have h := HMAY.out.up; rw [HF.out, HT.out, HN.out, HM0.out] at h; exact h)
                have HNO : Hid (∀ v, v < m → MO < cntF F T N mc m v → fitC k mn es wn = false) := Lib.hid (fun v hv h => by
                  unfold fitC
                  rw [HF.out, HT.out, HN.out, HM0.out, HMC.out, HMO.out]
                  exact fits_no hv h)
                clear hed hb8 hp8 hba8 hs57 hB HSC HC7 hmk3 kp kba HB7 HK7
                go_wp2_with fail
                go_loopg [115] m (fun mm x wr => ∃ c0, mm + c0 = m ∧ x = .int .i64 (c0 : Int) ∧ NSt w5 wr m N bc p ba B (.slice (some ⟨cb, co, none⟩) k cc) (.slice none 0 0) (.slice ea2 N ec2) [] es (pcnt F T N mc m c0 0) (padd F T N mc m c0 0) ∧ ∀ v, v < c0 → cntF F T N mc m v ≤ MO)
                case atStart => exact ⟨0, rfl, rfl, HS0.out, fun v hv => absurd hv (Nat.not_lt_zero _)⟩
                case round =>
                  obtain ⟨c0, hm2, rfl, hst, hle⟩ := hrel
                  have HM := Lib.hid hm2; have HS := Lib.hid hst; have HLE := Lib.hid hle
                  clear hm2 hst hle HS0
                  by_cases hc0 : c0 < m
                  · obtain ⟨wo, hwo⟩ : ∃ wo, wo = wr := ⟨_, rfl⟩
                    rw [← hwo] at HS ⊢
                    clear hwo
                    have hG := HG5.out.below HS.out.bel
                    have q0 : wo.cell? ⟨w3.heap.size, c0, none⟩ = some (sl c0) := (hG.blk.cell c0).trans (tabV_get _ hc0)
                    have ql := hG.blk.lt
                    have hrow5 := HG5.out.row c0 hc0
                    obtain ⟨ra, rc, hsl⟩ := own_shape hrow5
                    rw [hsl] at q0 hrow5
                    have HRC := Lib.hid (own_cellsC hrow5)
                    have hll := inL_len F T c0 N
                    obtain ⟨Q, hQ⟩ : ∃ Q, (inL F T c0 N).length = Q := ⟨_, rfl⟩
                    rw [hQ] at q0 hll
                    have HQ := Lib.hid hQ
                    clear hG hrow5 hsl hQ
                    have hb00 : pcnt F T N mc m c0 0 c0 ≤ MO := by
                      rw [pcnt_at, List.take_zero, lsum_nil]
                      split <;> omega
                    have HB00 := Lib.hid hb00
                    clear hb00
                    go_wp2_with fail
                    go_loopg [123] Q (fun mm x wr => ∃ q, mm + q = Q ∧ x = .int .i64 (q : Int) ∧ NSt w5 wr m N bc p ba B (.slice (some ⟨cb, co, none⟩) k cc) (.slice none 0 0) (.slice ea2 N ec2) [] es (pcnt F T N mc m c0 q) (padd F T N mc m c0 q) ∧ pcnt F T N mc m c0 q c0 ≤ MO)
                    case atStart => exact ⟨0, rfl, rfl, HS.out, HB00.out⟩
                    case round =>
                      obtain ⟨q, hm2, rfl, hst, hle⟩ := hrel
                      have HM2 := Lib.hid hm2; have HS2 := Lib.hid hst
                      clear hm2 hst HS HB00
                      by_cases hq : q < Q
                      · obtain ⟨j, hj⟩ : ∃ j, (inL F T c0 N)[q]? = some j := ⟨_, List.getElem?_eq_getElem (by rw [HQ.out]; exact hq)⟩
                        obtain ⟨hjN, hjt, hjf⟩ := mem_inL.1 (List.mem_of_getElem? hj)
                        have hjlt : F j < c0 := by have := (HUP.out j hjN).1; omega
                        have hjm : F j < m := by omega
                        obtain ⟨x, hx⟩ : ∃ x, es[j]? = some x := ⟨_, List.getElem?_eq_getElem (by rw [HN.out]; exact hjN)⟩
                        obtain ⟨b, off, hla, hbl, k0, k1, k2⟩ := (HC5.out.below HS2.out.bel).key hx
                        subst hla
                        obtain ⟨a, e, d, rfl, hak, hdk, _⟩ := HMAY.out.at_ hx
                        obtain ⟨hfm, htm, hfz, htz⟩ := HFT.out j a e d hx hak hdk
                        simp only at k0 k1 k2
                        have hcd := (HCC5.out.below HS2.out.bel).getD
                        have cF : wr.cell? ⟨cb, co + a, none⟩ = some (.int .i64 (F j : Int)) := by rw [hcd a (by rw [HCL.out]; exact hak), hfz]
                        obtain ⟨rb, ro, hra, hrl, r0⟩ := (HRC.out.below HS2.out.bel).at_ (show (iV (inL F T c0 N))[q]? = some (.int .i64 (j : Int)) by unfold iV; rw [List.getElem?_map, hj]; rfl)
                        subst hra
                        have b0 : wr.cell? ⟨bc, F j, none⟩ = some (.int .i64 (cntF F T N mc m (F j) : Int)) := by
                          have h := (HS2.out.cb.cell (F j)).trans (tabI_get _ hjm)
                          rw [pcnt_old hjlt] at h; exact h
                        have b1 := (HS2.out.cb.cell c0).trans (tabI_get _ hc0)
                        have bl := HS2.out.cb.lt
                        have bf := HS2.out.cb.frozen c0
                        have hnle := HLE.out (F j) hjlt
                        have hple := pcnt_le HUP.out (mc := mc) hc0 hj
                        obtain ⟨nn, hnn⟩ : ∃ nn, cntF F T N mc m (F j) = nn := ⟨_, rfl⟩
                        obtain ⟨pc, hpc⟩ : ∃ pc, pcnt F T N mc m c0 q c0 = pc := ⟨_, rfl⟩
                        obtain ⟨fj, hfj⟩ : ∃ fj, F j = fj := ⟨_, rfl⟩
                        have HNN := Lib.hid hnn; have HPC := Lib.hid hpc; have HJ := Lib.hid hj; have HPLE := Lib.hid hple
                        rw [hnn] at b0 hnle
                        rw [hpc] at b1 hle
                        rw [hfj] at cF b0 hjm hjlt
                        clear hcd hnn hpc hple hfz htz hfm htm hjt hjf hfj hx hj hrl k1 k2
                        have hmb := HMB.out
                        by_cases h0 : nn = 0
                        · have d1 : ((nn : Int) == 0) = true := by rw [beq_iff_eq]; omega
                          have d2 : (nn == 0) = true := by rw [beq_iff_eq]; omega
                          have H1 := Lib.hid (pcnt_skip (m := m) (mc := mc) HJ.out (by rw [HNN.out]; exact h0))
                          have H2 := Lib.hid (padd_skip (m := m) (mc := mc) HJ.out (by rw [HNN.out]; exact h0))
                          clear h0 hmb
                          go_wp2_with fail
                          go_roundg (Q - (q + 1))
                          case measure => have := HM2.out; omega
                          case rel => exact ⟨q + 1, by have := HM2.out; omega, by go_num, by rw [H1.out, H2.out]; exact HS2.out, by rw [H1.out, HPC.out]; exact hle⟩
                        · have d1 : ((nn : Int) == 0) = false := by rw [beq_eq_false_iff_ne]; omega
                          have d2 : (nn == 0) = false := by rw [beq_eq_false_iff_ne]; exact h0
                          have H0 := Lib.hid h0
                          obtain ⟨df, hdf⟩ : ∃ df : Nat, (MO : Int) - (nn : Int) = (df : Int) := ⟨MO - nn, by omega⟩
                          have hdf2 : df ≤ 4611686018427387903 := by omega
                          by_cases hov : df < pc
                          · have hnf := HNO.out c0 hc0 (by have := HPLE.out; rw [HPC.out, HNN.out] at this; omega)
                            have HNF := Lib.hid hnf
                            have d3 : decide (df < pc) = true := decide_eq_true hov
                            have HKR := Lib.hid (HK5.out.below HS2.out.bel HK5.out.lt)
                            have t0 : wr.cell? ⟨w.heap.size, 0, none⟩ = some (.slice none 0 0) := HKR.out.cell 0
                            have t1 : wr.cell? ⟨w.heap.size, 1, none⟩ = some (.slice none 0 0) := HKR.out.cell 1
                            have t2 : wr.cell? ⟨w.heap.size, 2, none⟩ = some (.slice none 0 0) := HKR.out.cell 2
                            have t3 : wr.cell? ⟨w.heap.size, 3, none⟩ = some (.slice none 0 0) := HKR.out.cell 3
                            have f0 := HKR.out.frozen 0; have f1 := HKR.out.frozen 1; have f2 := HKR.out.frozen 2; have f3 := HKR.out.frozen 3
                            have tl := HKR.out.lt
                            have HBR := Lib.hid (HB5.out.trans (HS2.out.bel.mono HB5.out.size))
                            clear hnf hov
                            go_wp2_with fail
                            refine bodyPost_ret (v := .tuple #[clNil, .int .i64 200]) ?_ rfl ⟨(HBR.out.setCell (Nat.le_refl _) _ |>.setCell (Nat.le_refl _) _ |>.setCell (Nat.le_refl _) _ |>.setCell (Nat.le_refl _) _), .inr ⟨k, mn, wn, rfl, rfl, rfl, HMAY.out, .inl ⟨HNF.out, rfl⟩⟩⟩
                            rw [results_cell_tmp rfl]
                            go_simp
                            rfl
                          · have d3 : decide (df < pc) = false := decide_eq_false hov
                            have p3 : wr.cell? ⟨p, 3, none⟩ = some (.slice (some ⟨ba, 0, none⟩) N N) := HS2.out.pb.cell 3
                            have pl := HS2.out.pb.lt
                            have a0 := (HS2.out.ab.cell j).trans (tabI_get _ hjN)
                            have af := HS2.out.ab.frozen j
                            have al := HS2.out.ab.lt
                            have hbn := HS2.out.ne
                            have HSA := Lib.hid (HS2.out.storeA hjN pc)
                            have HR0 : Hid (pc + nn ≤ MO) := Lib.hid (by omega)
                            clear hov
                            go_upto_region 34 with (fail)
                            go_region
                            go_upto_region 35 with (fail)
                            obtain ⟨w10, hw10⟩ : ∃ w10, w10 = (wr.setCell ⟨ba, j, none⟩ (.int .i64 (pc : Int))).drew := ⟨_, rfl⟩
                            have hsA : NSt w5 w10 m N bc p ba B (.slice (some ⟨cb, co, none⟩) k cc) (.slice none 0 0) (.slice ea2 N ec2) [] es (pcnt F T N mc m c0 q) (fup (padd F T N mc m c0 q) j pc) := by
                              rw [hw10]; exact HSA.out.below (drew_below _ 1)
                            rw [← hw10]
                            clear hw10 HSA p3 pl a0 af al b1 bl bf b0 cF k0 hbl r0
                            have b1 : w10.cell? ⟨bc, c0, none⟩ = some (.int .i64 (pc : Int)) := by
                              rw [← HPC.out]; exact (hsA.cb.cell c0).trans (tabI_get _ hc0)
                            have bl := hsA.cb.lt
                            have bf := hsA.cb.frozen c0
                            obtain ⟨r, hr⟩ : ∃ r, pc + nn = r := ⟨_, rfl⟩
                            have hri : (pc : Int) + (nn : Int) = (r : Int) := by omega
                            have hrb : r ≤ MO := by rw [← hr]; exact HR0.out
                            have H1 := Lib.hid (pcnt_step (m := m) (mc := mc) HJ.out)
                            have H2 := Lib.hid (padd_step (m := m) (mc := mc) HJ.out (by rw [HNN.out]; exact H0.out))
                            have HS3 := Lib.hid (hsA.storeC hc0 r)
                            have HR := Lib.hid hr
                            have HRB := Lib.hid hrb
                            clear hsA hr h0
                            go_wp2_with fail
                            go_roundg (Q - (q + 1))
                            case measure => have := HM2.out; omega
                            case rel => exact ⟨q + 1, by have := HM2.out; omega, by go_num, by rw [H1.out, H2.out, HPC.out, HNN.out, HR.out]; exact HS3.out, by rw [H1.out, fup_same, HPC.out, HNN.out, HR.out]; exact HRB.out⟩
                      · have hqQ : q = Q := by have := HM2.out; omega
                        have HS3 : Hid (NSt w5 wr m N bc p ba B (.slice (some ⟨cb, co, none⟩) k cc) (.slice none 0 0) (.slice ea2 N ec2) [] es (pcnt F T N mc m (c0 + 1) 0) (padd F T N mc m (c0 + 1) 0)) := Lib.hid (HS2.out.congr (fun v _ => by rw [hqQ, ← HQ.out, pcnt_next HUP.out hc0]) (fun v hv => by rw [hqQ, ← HQ.out, padd_next hv]))
                        have HLE3 : Hid (cntF F T N mc m c0 ≤ MO) := Lib.hid (by
                          rw [hqQ, ← HQ.out, pcnt_next HUP.out hc0, pcnt_old (by omega)] at hle; exact hle)
                        clear hqQ HS2 hle
                        go_wp2_with fail
                        go_roundg (m - (c0 + 1))
                        case measure => have := HM.out; omega
                        case rel => exact ⟨c0 + 1, by have := HM.out; omega, by go_num, HS3.out, fun v hv => by
                          by_cases e : v = c0
                          · rw [e]; exact HLE3.out
                          · exact HLE.out v (by omega)⟩
                  · have hcm : c0 = m := by have := HM.out; omega
                    have HFIT : Hid (fitC k mn es wn = true) := Lib.hid (by
                      unfold fitC
                      rw [HF.out, HT.out, HN.out, HM0.out, HMC.out, HMO.out]
                      exact fits_yes fun v hv => HLE.out v (by omega))
                    have HS3 : Hid (NSt w5 wr m N bc p ba B (.slice (some ⟨cb, co, none⟩) k cc) (.slice none 0 0) (.slice ea2 N ec2) [] es (cntF F T N mc m) (addF F T N mc m)) := Lib.hid (HS.out.congr (fun v hv => by rw [hcm, pcnt_old hv]) (fun v hv => by rw [hcm, padd_all HUP.out hv]))
                    obtain ⟨w9, hw9⟩ : ∃ w9, w9 = wr := ⟨_, rfl⟩
                    rw [← hw9] at HS3 ⊢
                    clear hcm HS HLE hw9 HG5 HNO HMB HMO hMO1
                    go_wp2_with fail
                    go_loopg [170] k (fun mm x wr => ∃ i y, mm + i = k ∧ x = .int .i64 (i : Int) ∧ NSt w5 wr m N bc p ba B (.slice (some ⟨cb, co, none⟩) k cc) y (.slice ea2 N ec2) (iV ((List.range i).map fun v => cntF F T N mc m (cmp k (edE es) v))) es (cntF F T N mc m) (addF F T N mc m))
                    case atStart => exact ⟨0, _, rfl, rfl, HS3.out⟩
                    case round =>
                      obtain ⟨i, y, hm2, rfl, hst⟩ := hrel
                      have HM2 := Lib.hid hm2; have HS2 := Lib.hid hst
                      clear hm2 hst HS3
                      by_cases hik : i < k
                      · have hcd := (HCC5.out.below HS2.out.bel).getD
                        have hcz := hcd i (by rw [HCL.out]; exact hik)
                        rw [← HZS.out, compZ_get _ hik] at hcz
                        have hcm := HMAY.out.top hik
                        rw [HM0.out] at hcm
                        obtain ⟨ci, hci⟩ : ∃ ci, cmp k (edE es) i = ci := ⟨_, rfl⟩
                        rw [hci] at hcz hcm
                        have b1 := (HS2.out.cb.cell ci).trans (tabI_get _ hcm)
                        have bl := HS2.out.cb.lt
                        obtain ⟨nn, hnn⟩ : ∃ nn, cntF F T N mc m ci = nn := ⟨_, rfl⟩
                        rw [hnn] at b1
                        have HEQ : Hid (iV ((List.range (i + 1)).map fun v => cntF F T N mc m (cmp k (edE es) v)) = iV ((List.range i).map fun v => cntF F T N mc m (cmp k (edE es) v)) ++ [.int .i64 (nn : Int)]) := Lib.hid (by
                          rw [List.range_succ, List.map_append, iV_app, List.map_cons, List.map_nil, hci, hnn]; rfl)
                        have hrow := HS2.out.row
                        have elen : (iV ((List.range i).map fun v => cntF F T N mc m (cmp k (edE es) v))).length = i := by rw [iV_len, List.length_map, List.length_range]
                        rw [elen] at hrow
                        obtain ⟨ya, yc, rfl⟩ := own_shape hrow
                        have HROW := Lib.hid hrow; have HLN := Lib.hid elen
                        have p1 : wr.cell? ⟨p, 1, none⟩ = some (.slice ya i yc) := HS2.out.pb.cell 1
                        have pl := HS2.out.pb.lt
                        have hBw : B ≤ wr.heap.size := HS2.out.Bw
                        clear hci hnn hcd hrow elen
                        go_upto_region 41 with (fail)
                        go_region_law (refine step_append_sep rfl (.tmp 175) (.tmp 180) 25 rfl B 3 l0 (.int .i64 0) 1 8 Try.underlying25 hl0 lz0 lz1 lz2 rfl (by decide) (.slice ya i yc) i _ (by simp [Act.eval]) (World.ownsRow.alloc (w := wr.drew) HROW.out _) ⟨wr.heap.size, 0, none⟩ 1 1 [.int .i64 (nn : Int)] (by simp [Act.eval]) rfl (lit_drew wr _ _) (ones_int _) (by unfold maxLen; omega) (by omega) (by simp; omega) ?_; intro v2 w2 hown2 hg2 hs2; obtain ⟨oa, oc, rfl⟩ := own_shape hown2; have hp2 := ((HS2.out.pb.drew_.alloc_ (.cells #[.int .i64 (nn : Int)] 3)).grown hg2 (own_ne_blk HROW.out HS2.out.pb (by decide))); have f0 : w2.cell? ⟨p, 1, none⟩ = some (.slice ya i yc) := hp2.cell 1; have ff0 := hp2.frozen 1; have fl := hp2.lt; have H2 := Lib.hid (And.intro hown2 hg2); clear hown2 hg2 hs2 hp2)
                        all_goals
                          have HS4 : Hid (NSt w5 (w2.setCell ⟨p, 1, none⟩ (.slice oa (i + 1) oc)) m N bc p ba B (.slice (some ⟨cb, co, none⟩) k cc) (.slice oa (i + 1) oc) (.slice ea2 N ec2) (iV ((List.range (i + 1)).map fun v => cntF F T N mc m (cmp k (edE es) v))) es (cntF F T N mc m) (addF F T N mc m)) := Lib.hid (by
                            rw [HEQ.out]
                            exact (HS2.out.below (((Below.refl _ _).drew).alloc (Nat.le_refl _) (.cells #[.int .i64 (nn : Int)] 3))).grow (by rw [HLN.out]; exact H2.out.1) H2.out.2 hB5 rfl)
                          clear f0 ff0 fl p1 pl b1 bl H2 HS2
                          go_wp2_with fail
                          go_roundg (k - (i + 1))
                          case measure => have := HM2.out; omega
                          case rel => exact ⟨i + 1, _, by have := HM2.out; omega, by go_num, HS4.out⟩
                      · have hik2 : i = k := by have := HM2.out; omega
                        subst hik2
                        have hrow := HS2.out.row
                        have elen : (iV ((List.range i).map fun v => cntF F T N mc m (cmp i (edE es) v))).length = i := by rw [iV_len, List.length_map, List.length_range]
                        rw [elen] at hrow
                        obtain ⟨ya, yc, rfl⟩ := own_shape hrow
                        have HKR := Lib.hid (HK5.out.below HS2.out.bel HK5.out.lt)
                        have t0 : wr.cell? ⟨w.heap.size, 0, none⟩ = some (.slice none 0 0) := HKR.out.cell 0
                        have t1 : wr.cell? ⟨w.heap.size, 1, none⟩ = some (.slice none 0 0) := HKR.out.cell 1
                        have t2 : wr.cell? ⟨w.heap.size, 2, none⟩ = some (.slice none 0 0) := HKR.out.cell 2
                        have t3 : wr.cell? ⟨w.heap.size, 3, none⟩ = some (.slice none 0 0) := HKR.out.cell 3
                        have f0 := HKR.out.frozen 0; have f1 := HKR.out.frozen 1; have f2 := HKR.out.frozen 2; have f3 := HKR.out.frozen 3
                        have tl := HKR.out.lt
                        have g0 : wr.cell? ⟨p, 0, none⟩ = some (.slice (some ⟨cb, co, none⟩) i cc) := HS2.out.pb.cell 0
                        have g1 : wr.cell? ⟨p, 1, none⟩ = some (.slice ya i yc) := HS2.out.pb.cell 1
                        have g2 : wr.cell? ⟨p, 2, none⟩ = some (.slice ea2 N ec2) := HS2.out.pb.cell 2
                        have g3 : wr.cell? ⟨p, 3, none⟩ = some (.slice (some ⟨ba, 0, none⟩) N N) := HS2.out.pb.cell 3
                        have gl := HS2.out.pb.lt
                        have HBR := Lib.hid (HB5.out.trans (HS2.out.bel.mono HB5.out.size))
                        have hcc := HCC5.out.below HS2.out.bel
                        rw [← HZS.out] at hcc
                        have HFC := Lib.hid (fun x0 x1 x2 x3 => ClAt.final (mn := mn) HS2.out hcc HK5.out.lt (HCGE.out cb rfl) HKR.out hB5 HN.out (fun v _ => by unfold cnE; rw [HF.out, HT.out, HN.out, HM0.out, HMC.out]) (fun v _ => by unfold adE; rw [HF.out, HT.out, HN.out, HM0.out, HMC.out]) x0 x1 x2 x3)
                        clear hrow elen hcc
                        go_wp2_with fail
                        refine bodyPost_ret (v := .tuple #[.agg #[.slice (some ⟨cb, co, none⟩) i cc, .slice ya i yc, .slice ea2 N ec2, .slice (some ⟨ba, 0, none⟩) N N], .int .i64 0]) ?_ rfl ⟨(HBR.out.setCell (Nat.le_refl _) _ |>.setCell (Nat.le_refl _) _ |>.setCell (Nat.le_refl _) _ |>.setCell (Nat.le_refl _) _), .inr ⟨i, mn, wn, rfl, rfl, rfl, HMAY.out, .inr ⟨HFIT.out, _, rfl, HFC.out _ _ _ _⟩⟩⟩
                        rw [results_cell_tmp rfl]
                        go_simp
end Go.Proofs.Ytbancojknahdgaa
