/- The contract of comp.Reach: the walk. -/
import Derived.Test.YtbancojknahdgaaCompK
import Derived.Test.YtbancojknahdgaaCompG
namespace Go.Proofs.Ytbancojknahdgaa
open Go.RowKit CP
noncomputable def reachL (k : Nat) (E : Ed) (fr : Nat) : List Nat := (List.range k).filter (rcB E fr)
def okR (n : Int) (es : List (Int × Int)) (fr : Int) : Bool := mayG n es && decide (0 ≤ fr) && decide (fr < n)
def ReachPost (w : World) (n : Int) (es : List (Int × Int)) (fr : Int) (e : Ending) (w' : World) : Prop :=
  Below w.heap.size w w' ∧ ((okR n es fr = false ∧ e = .returned (.tuple #[.slice none 0 0, .int .i64 1])) ∨
    (okR n es fr = true ∧ ∃ y, e = .returned (.tuple #[y, .int .i64 0]) ∧ w'.ownsRow w.heap.size 3 1 y (reachL n.toNat (natE es) fr.toNat).length (iV (reachL n.toNat (natE es) fr.toNat))))
/-- the marks and the list of comp.Reach in memory -/
structure RM (w1 : World) (k bs : Nat) (seen : Nat → Bool) (y : Value) (out : List Nat) (wr : World) : Prop where
  bel : Below w1.heap.size w1 wr
  blk : Blk wr bs 4 (tabB k seen)
  row : wr.ownsRow w1.heap.size 3 1 y out.length (iV out)
  bsB : w1.heap.size ≤ bs
theorem RM.below {w1 wr w' : World} {k bs : Nat} {seen : Nat → Bool} {y : Value} {out : List Nat} (h : RM w1 k bs seen y out wr) (hb : Below wr.heap.size wr w') : RM w1 k bs seen y out w' :=
  ⟨h.bel.trans (hb.mono h.bel.size), h.blk.below hb h.blk.lt, own_below h.row hb, h.bsB⟩
theorem RM.see {w1 wr : World} {k bs : Nat} {seen : Nat → Bool} {y : Value} {out : List Nat} (h : RM w1 k bs seen y out wr) {x : Nat} (hx : x < k) : RM w1 k bs (fup seen x true) y out (wr.setCell ⟨bs, x, none⟩ (.bool true)) :=
  ⟨h.bel.setCell h.bsB _, by have := h.blk.set_ x (.bool true); rw [tabB_set _ hx] at this; exact this, own_far h.row (fun e => own_ne_blk h.row h.blk (by decide) e.symm) _, h.bsB⟩
theorem RM.grow {w1 wr w' : World} {k bs : Nat} {seen : Nat → Bool} {y y' : Value} {out out' : List Nat} (h : RM w1 k bs seen y out wr) (hg : wr.grownBy w' y.ownBlock) (hown : w'.ownsRow w1.heap.size 3 1 y' out'.length (iV out')) : RM w1 k bs seen y' out' w' :=
  ⟨h.bel.grown hg h.bel.size (fun b hb => (h.row.lt b hb).1), h.blk.grown hg (own_ne_blk h.row h.blk (by decide)), hown, h.bsB⟩
set_option maxRecDepth 100000 in
set_option maxHeartbeats 12800000 in
theorem reach_ok (w : World) (n : Int) (ea : Option Addr) (es : List (Int × Int)) (c : Nat) (fr : Int) (hm : es.length ≤ maxLen) (hc : Cells w ea (es.flatMap pairCells)) :
    Calls Try.prog 31 #[.int .i64 n, .slice ea es.length c, .int .i64 fr] w (ReachPost w n es fr) := by
  have HR := Lib.hid (read_ok w n ea es c hm hc)
  obtain ⟨N, hN⟩ : ∃ N, es.length = N := ⟨_, rfl⟩
  have HN := Lib.hid hN
  rw [hN] at hm HR ⊢
  clear hN hc
  have no : ∀ w', Below w.heap.size w w' → okR n es fr = false → ReachPost w n es fr (.returned (.tuple #[.slice none 0 0, .int .i64 1])) w' := fun w' hb h => ⟨hb, .inl ⟨h, rfl⟩⟩
  have NO := Lib.hid no
  clear no
  obtain ⟨j0, hj0, yz0, yz1, yz2⟩ := info_parts int_infoC
  obtain ⟨i0, hi0, hz0, hz1, hz2⟩ := info_parts bool_info
  go_enter Try.func31, Try.ntmps31
  go_wp2_with fail
  refine HR.out.mono ?_
  rintro e w1 ⟨hb1, h | h⟩
  · obtain ⟨h1, rfl⟩ := h
    have HB1 := Lib.hid hb1; have H1 : Hid (okR n es fr = false) := Lib.hid (by unfold okR; rw [h1]; rfl)
    clear hb1 h1
    go_wp2_with fail
    go_ret2
    exact NO.out _ HB1.out H1.out
  · obtain ⟨h1, ga, sl, rfl, hG⟩ := h
    have HB1 := Lib.hid hb1; have HMAY := Lib.hid h1
    have hn : 0 ≤ n ∧ n ≤ 1024 := by unfold mayG at h1; simp at h1; omega
    clear hb1
    by_cases hf1 : fr < 0
    · clear h1 hG
      have H1 : Hid (okR n es fr = false) := Lib.hid (by unfold okR; simp; omega)
      go_wp2_with fail
      go_ret2
      exact NO.out _ HB1.out H1.out
    by_cases hf2 : n ≤ fr
    · clear h1 hG
      have H1 : Hid (okR n es fr = false) := Lib.hid (by unfold okR; simp; omega)
      go_wp2_with fail
      go_ret2
      exact NO.out _ HB1.out H1.out
    have HOK : Hid (okR n es fr = true) := Lib.hid (by unfold okR; rw [h1]; simp; omega)
    obtain ⟨k, rfl⟩ : ∃ k : Nat, n = (k : Int) := ⟨n.toNat, by omega⟩
    obtain ⟨f, rfl⟩ : ∃ f : Nat, fr = (f : Int) := ⟨fr.toNat, by omega⟩
    have hfk : f < k := by omega
    have hall : es.all (edZ (k : Int)) = true := by unfold mayG at h1; simp only [Bool.and_eq_true] at h1; exact h1.2
    have hN4 : N ≤ 16384 := by unfold mayG at h1; simp only [Bool.and_eq_true, decide_eq_true_eq] at h1; rw [← HN.out]; exact h1.1.2
    have hE0 := edOk_of hall
    rw [Int.toNat_natCast] at hE0 hG ⊢
    have HE := Lib.hid hE0; have HG := Lib.hid hG
    have hgl : ∀ v, (gr (natE es) v).length ≤ 16384 := fun v => by
      unfold gr
      rw [List.length_map]
      refine Nat.le_trans (List.length_filter_le _ _) ?_
      unfold natE
      rw [List.length_map, HN.out]; exact hN4
    have HGL := Lib.hid hgl
    have hk : k ≤ 1024 := by omega
    have hmb := run_make_n (P := Try.prog) 79 4 i0 (.bool false) 1 1 Try.underlying79 hi0 hz0 hz1 hz2 .i64 .i64 k k (Nat.le_refl _) (by omega) (by omega)
    rw [show madeCells (Value.bool false).cells (k * 1) = tabB k fun _ => false from made_rep k _] at hmb
    clear h1 hall hE0 hG hgl hn hf1 hf2 hi0 hz0 hz1 hz2
    have d1 : decide ((f : Int) < 0) = false := decide_eq_false (by omega)
    have d2 : decide (k ≤ f) = false := decide_eq_false (by omega)
    go_upto_region 5 with (fail)
    obtain ⟨bs, hbs⟩ : ∃ bs, bs = w1.heap.size := ⟨_, rfl⟩
    obtain ⟨w2, hw2⟩ : ∃ w2, w2 = w1.alloc (.cells (tabB k fun _ => false) 4) := ⟨_, rfl⟩
    have hRM2 : RM w1 k bs (fun _ => false) (.slice none 0 0) [] w2 := by
      rw [hw2, hbs]; exact ⟨(Below.refl _ _).alloc (Nat.le_refl _) _, Blk.new_ _ _ _, World.ownsRow_nil _ _ _ _, Nat.le_refl _⟩
    rw [← hbs, ← hw2]
    have o1 := (hRM2.blk.cell f).trans (tabB_get _ hfk)
    have fo := hRM2.blk.frozen f
    have ol := hRM2.blk.lt
    have HRM3 := Lib.hid (hRM2.see hfk)
    clear hRM2 hw2 hmb hbs
    go_upto_region 6 with (fail)
    obtain ⟨w3, hw3⟩ : ∃ w3, w3 = w2.setCell ⟨bs, f, none⟩ (.bool true) := ⟨_, rfl⟩
    rw [← hw3] at HRM3 ⊢
    clear hw3 o1 fo ol
    have hs3 : w1.heap.size ≤ w3.heap.size := HRM3.out.bel.size
    have HRM4 : Hid (RM w1 k bs (fup (fun _ => false) f true) (.slice (some ⟨w3.heap.size, 0, none⟩) 1 1) [f] (w3.alloc (.cells #[.int .i64 (f : Int)] 3))) := Lib.hid (by
      have h := HRM3.out.below ((Below.refl w3.heap.size w3).alloc (Nat.le_refl _) (.cells #[.int .i64 (f : Int)] 3))
      exact ⟨h.bel, h.blk, (Blk.new_ w3 _ _).own (base := w1.heap.size) hs3 (Nat.le_refl _) (by unfold maxLen; omega) rfl, h.bsB⟩)
    clear HRM3
    go_wp2_with fail
    go_loopg [11, 12] k (fun m y x wr => ∃ i seen out, m + i = k ∧ x = .int .i64 (i : Int) ∧ RM w1 k bs seen y out wr ∧ RI (gr (natE es)) k f out seen i)
    case atStart => exact ⟨0, _, _, rfl, rfl, HRM4.out, RI.start _ hfk⟩
    case round =>
      obtain ⟨i, seen, out, hm2, rfl, hrm, hri⟩ := hrel
      have HM := Lib.hid hm2; have HRM := Lib.hid hrm; have HRI := Lib.hid hri
      clear hm2 hrm hri HRM4
      have hol := HRI.out.len
      obtain ⟨L, hL⟩ : ∃ L, out.length = L := ⟨_, rfl⟩
      have HL := Lib.hid hL
      rw [hL] at hol
      have hrow := HRM.out.row
      rw [hL] at hrow
      clear hL
      have hLpos : 0 < L := by rw [← HL.out]; exact List.length_pos_of_mem HRI.out.fr
      obtain ⟨b, cap, hy, hLc⟩ : ∃ b cap, u11 = .slice (some ⟨b, 0, none⟩) L cap ∧ L ≤ cap := by
        rcases hrow.2 with ⟨_, h0⟩ | ⟨b, cap, cur, e, _, _, h1, _⟩
        · omega
        · exact ⟨b, cap, e, h1⟩
      subst hy
      by_cases hi : i < L
      · obtain ⟨v, hv⟩ : ∃ v, out[i]? = some v := ⟨_, List.getElem?_eq_getElem (by rw [HL.out]; exact hi)⟩
        have hvk : v < k := HRI.out.lt v (List.mem_of_getElem? hv)
        have hcv : wr.cell? ⟨b, i, none⟩ = some (.int .i64 (v : Int)) := by
          obtain ⟨a', c', e, _, _, hcells⟩ := Cells.of_own hrow
          injection e with e _ _
          subst e
          obtain ⟨b2, o2, e2, _, h3⟩ := hcells.at_ (k := i) (v := .int .i64 (v : Int)) (by unfold iV; rw [List.getElem?_map, hv]; rfl)
          injection e2 with e2
          injection e2 with e2 e3 _
          subst e2 e3
          rw [Nat.zero_add] at h3; exact h3
        have hbl : b < wr.heap.size := (hrow.lt b rfl).2
        obtain ⟨ad, cp, hsk⟩ := own_shape (HG.out.row v hvk)
        have hGr := HG.out.belowB (B := w1.heap.size) HG.out.blk.lt (fun a ha q hq => ((HG.out.row a ha).lt q hq).2) (fun b hb _ => HRM.out.bel.block b hb)
        have ck : wr.cell? ⟨ga, v, none⟩ = some (.slice ad (gr (natE es) v).length cp) := by rw [← hsk]; exact (hGr.blk.cell v).trans (tabV_get _ hvk)
        have gl := hGr.blk.lt
        have hgv := HGL.out v
        have hcell := Cells.of_own (HG.out.row v hvk)
        rw [hsk] at hcell
        obtain ⟨D, hD⟩ : ∃ D, (gr (natE es) v).length = D := ⟨_, rfl⟩
        rw [hD] at ck hgv hcell
        have HD := Lib.hid hD; have HV := Lib.hid hv; have HCE := Lib.hid hcell
        clear hD hv hcell hGr hsk hrow
        go_wp2_with fail
        go_loopg [11, 53] D (fun mm y x wr => ∃ t seen2 out2, mm + t = D ∧ x = .int .i64 (t : Int) ∧ RM w1 k bs seen2 y out2 wr ∧ RI (gr (natE es)) k f out2 seen2 i ∧ out2[i]? = some v ∧ ∀ q, q < t → ∀ x, (gr (natE es) v)[q]? = some x → x ∈ out2)
        case atStart => exact ⟨0, seen, out, rfl, rfl, HRM.out, HRI.out, HV.out, fun q hq => absurd hq (Nat.not_lt_zero _)⟩
        case round =>
          obtain ⟨t, seen2, out2, hm3, rfl, hrm2, hri2, hv2, hq⟩ := hrel
          have HM3 := Lib.hid hm3; have HRM2 := Lib.hid hrm2; have HRI2 := Lib.hid hri2; have HV2 := Lib.hid hv2; have HQ := Lib.hid hq
          clear hm3 hrm2 hri2 hv2 hq HRM HRI
          by_cases ht : t < D
          · obtain ⟨x, hx⟩ : ∃ x, (gr (natE es) v)[t]? = some x := ⟨_, List.getElem?_eq_getElem (by rw [HD.out]; exact ht)⟩
            have hxm := List.mem_of_getElem? hx
            have hxk : x < k := gr_lt HE.out v x hxm
            have hat : ∃ xb xo, ad = some ⟨xb, xo, none⟩ ∧ xb < wr.heap.size ∧ wr.cell? ⟨xb, xo + t, none⟩ = some (.int .i64 (x : Int)) := by
              obtain ⟨a', c', e, _, _, hc⟩ := HCE.out
              injection e with e _ _
              subst e
              obtain ⟨xb, xo, h1, h2, h3⟩ := hc.at_ (k := t) (v := .int .i64 (x : Int)) (by unfold iV; rw [List.getElem?_map, hx]; rfl)
              exact ⟨xb, xo, h1, Nat.lt_of_lt_of_le h2 HRM2.out.bel.size, (HRM2.out.bel.cell (p := ⟨xb, xo + t, none⟩) h2).trans h3⟩
            obtain ⟨xb, xo, hxa, hxl, hxc⟩ := hat
            subst hxa
            have HX := Lib.hid hx; have HXM := Lib.hid hxm
            clear hx hxm
            have o1 := (HRM2.out.blk.cell x).trans (tabB_get _ hxk)
            have fo := HRM2.out.blk.frozen x
            have ol := HRM2.out.blk.lt
            cases hsn : seen2 x with
            | true =>
              rw [hsn] at o1
              have HSN := Lib.hid hsn
              clear hsn
              go_wp2_with fail
              go_roundg (D - (t + 1))
              case measure => have := HM3.out; omega
              case rel => exact ⟨t + 1, seen2, out2, by have := HM3.out; omega, by go_num, HRM2.out, HRI2.out, HV2.out, fun q hq z hz => by
                by_cases e : q = t
                · subst e
                  rw [HX.out] at hz; injection hz with hz; subst hz
                  exact (HRI2.out.sn _).1 HSN.out
                · exact HQ.out q (by omega) z hz⟩
            | false =>
              rw [hsn] at o1
              have HSN := Lib.hid hsn
              have HRM3 := Lib.hid (HRM2.out.see hxk)
              clear hsn
              go_upto_region 15 with (fail)
              obtain ⟨w5, hw5⟩ : ∃ w5, w5 = wr.setCell ⟨bs, x, none⟩ (.bool true) := ⟨_, rfl⟩
              rw [← hw5] at HRM3 ⊢
              clear hw5 o1 fo ol
              have hlen2 := HRI2.out.len
              obtain ⟨L2, hL2⟩ : ∃ L2, out2.length = L2 := ⟨_, rfl⟩
              have hrow2 := HRM3.out.row
              rw [hL2] at hrow2 hlen2
              have HR2 := Lib.hid hrow2; have HL2 := Lib.hid hL2
              have hsz5 := HRM3.out.bel.size
              clear hrow2 hL2
              go_wp2_with (at_builtin; refine wpList_append_sep rfl (.tmp 65) (.tmp 67) 25 rfl w1.heap.size 3 j0 (.int .i64 0) 1 8 Try.underlying25 hj0 yz0 yz1 yz2 rfl (by decide) _ L2 _ rfl (HR2.out.alloc _) w5.heap.size 0 1 1 [.int .i64 (x : Int)] rfl rfl (lit_one _ _ _) (ones_int _) (by unfold maxLen; omega) (by omega) (by simp; omega) ?_)
              intro y7 w7 hown hg7 hsep
              have HRM7 := Lib.hid ((HRM3.out.below ((Below.refl w5.heap.size w5).alloc (Nat.le_refl _) (.cells #[.int .i64 (x : Int)] 3))).grow (out' := out2 ++ [x]) hg7 (by rw [iV_app, List.length_append, HL2.out]; exact hown))
              clear hown hg7 hsep HRM3 HR2
              go_wp2_with fail
              go_roundg (D - (t + 1))
              case measure => have := HM3.out; omega
              case rel => exact ⟨t + 1, _, out2 ++ [x], by have := HM3.out; omega, by go_num, HRM7.out, HRI2.out.add (List.mem_of_getElem? HV2.out) HXM.out hxk HSN.out, by rw [List.getElem?_append_left (List.getElem?_eq_some_iff.1 HV2.out).1]; exact HV2.out, fun q hq z hz => by
                by_cases e : q = t
                · subst e
                  rw [HX.out] at hz; injection hz with hz; subst hz
                  simp
                · exact List.mem_append.2 (.inl (HQ.out q (by omega) z hz))⟩
          · have htD : t = D := by have := HM3.out; omega
            have HALL : Hid (∀ x ∈ gr (natE es) v, x ∈ out2) := Lib.hid (fun x hx => by
              obtain ⟨j, hj, hjx⟩ := List.getElem_of_mem hx
              exact HQ.out j (by rw [htD, ← HD.out]; exact hj) x (by rw [List.getElem?_eq_getElem hj, hjx]))
            clear htD
            go_wp2_with fail
            go_roundg (k - (i + 1))
            case measure => have h1 := HM.out; have h2 := HRI2.out.len; have h3 := (List.getElem?_eq_some_iff.1 HV2.out).1; omega
            case rel => exact ⟨i + 1, seen2, out2, by have h1 := HM.out; have h2 := HRI2.out.len; have h3 := (List.getElem?_eq_some_iff.1 HV2.out).1; omega, by go_num, HRM2.out, HRI2.out.next HV2.out HALL.out⟩
      · have hiL : i = out.length := by have h1 := HRI.out.il; have h2 := HL.out; omega
        have HEND := Lib.hid (HRI.out.end_ hiL)
        have hzl : (out.map fun k : Nat => (k : Int)).length = L := by rw [List.length_map]; exact HL.out
        have hsort := sort_own wr w1.heap.size b cap (out.map fun k : Nat => (k : Int)) (by rw [hzl]; omega) (by rw [hzl, ← iV_z]; exact hrow)
        rw [hzl] at hsort
        have hfil := sort_filter HRI.out.nd (n := k) (p := rcB (natE es) f) (fun v => by
          rw [HEND.out v, rcB_iff]
          exact ⟨fun h => ⟨HRI.out.lt v ((HEND.out v).2 h), h⟩, fun h => h.2⟩)
        have hlenf : ((List.range k).filter (rcB (natE es) f)).length = L := by
          have := congrArg List.length hfil
          rw [List.length_mergeSort, List.length_map, List.length_map, HL.out] at this
          exact this.symm
        rw [hfil, ← iV_z] at hsort
        have HS := Lib.hid hsort; have HLF := Lib.hid hlenf
        have HBR := Lib.hid HRM.out.bel
        have hbge : w1.heap.size ≤ b := (hrow.lt b rfl).1
        clear hsort hfil hlenf hzl hiL hrow
        go_wp2_with fail
        refine HS.out.mono ?_
        rintro e w6 ⟨rfl, hown, hg⟩
        have HOWN := Lib.hid hown
        have HB6 : Hid (Below w1.heap.size w1 w6) := Lib.hid (HBR.out.grown hg HBR.out.size (fun j hj => by injection hj with hj; omega))
        clear hown hg
        go_wp2_with fail
        go_ret2
        refine ⟨HB1.out.trans (HB6.out.mono HB1.out.size), .inr ⟨HOK.out, _, rfl, ?_⟩⟩
        rw [Int.toNat_natCast, Int.toNat_natCast]
        unfold reachL
        rw [HLF.out]
        exact own_base HOWN.out HB1.out.size
end Go.Proofs.Ytbancojknahdgaa
