/- Layer 6: the walk of count.Cubes (a closure that calls itself). -/
import Derived.Test.YtobhjkfkdkiigaaGreatDoorCountC
import Derived.Deep.RegionLaw
import Derived.Deep.RegionHeld3
namespace Go.Proofs.YtobhjkfkdkiigaaGreatDoor
open Go.RowKit HP NP
/-- the blocks that the walk writes: full, out, way -/
abbrev W3 (fb ob wy : Nat) (i : Nat) : Prop := i = fb ∨ i = ob ∨ i = wy
structure CubS (w0 w : World) (fb ob wy : Nat) (way : List Int) (O : List (List Int)) (b : Bool) (y : Value) (sls : List Value) : Prop where
  l1 : fb < w0.heap.size
  l2 : ob < w0.heap.size
  l3 : wy < w0.heap.size
  rel : Only (W3 fb ob wy) w0 w
  fl : Blk w fb 4 #[.bool b]
  ot : Blk w ob 42 #[y]
  wb : Blk w wy 3 (zV way).toArray
  ow : w.ownsRow w0.heap.size 45 1 y O.length sls
  ins : ∀ (i : Nat) (l : List Int), O[i]? = some l → ∃ u, sls[i]? = some u ∧ w.ownsRow w0.heap.size 3 1 u l.length (zV l)
section
variable {w0 w w' : World} {fb ob wy : Nat} {way : List Int} {O : List (List Int)} {b : Bool} {y : Value} {sls : List Value}
theorem own_far {w w' : World} {B e size n : Nat} {v : Value} {xs : List Value} (h : w.ownsRow B e size v n xs) (hk : ∀ g, B ≤ g → g < w.heap.size → w'.heap[g]? = w.heap[g]?) : w'.ownsRow B e size v n xs :=
  own_keep h fun g hg => hk g (h.lt g hg).1 (h.lt g hg).2
theorem CubS.below (h : CubS w0 w fb ob wy way O b y sls) (hb : Below w.heap.size w w') : CubS w0 w' fb ob wy way O b y sls :=
  ⟨h.l1, h.l2, h.l3, Only.trans h.rel (Only.of_below (F := W3 fb ob wy) hb fun k h1 h2 => by omega) fun _ _ hi => hi, h.fl.below hb h.fl.lt, h.ot.below hb h.ot.lt, h.wb.below hb h.wb.lt, own_below h.ow hb, fun i l hl => by
    obtain ⟨u, h1, h2⟩ := h.ins i l hl
    exact ⟨u, h1, own_below h2 hb⟩⟩
theorem CubS.ne12 (h : CubS w0 w fb ob wy way O b y sls) : fb ≠ ob := Blk.ne h.fl h.ot (by decide)
theorem CubS.ne13 (h : CubS w0 w fb ob wy way O b y sls) : fb ≠ wy := Blk.ne h.fl h.wb (by decide)
theorem CubS.ne23 (h : CubS w0 w fb ob wy way O b y sls) : ob ≠ wy := Blk.ne h.ot h.wb (by decide)
theorem heap_other {w : World} {g c o : Nat} (u : Value) (hne : g ≠ c) : (w.setCell ⟨c, o, none⟩ u).heap[g]? = w.heap[g]? := Below.heap_setCell _ _ _ g (fun e => hne e)
theorem CubS.full (h : CubS w0 w fb ob wy way O b y sls) (b' : Bool) : CubS w0 (w.setCell ⟨fb, 0, none⟩ (.bool b')) fb ob wy way O b' y sls :=
  ⟨h.l1, h.l2, h.l3, h.rel.setCell (fun _ => .inl rfl) _, h.fl.set_ 0 _, (heap_other _ (Ne.symm h.ne12)).trans h.ot, (heap_other _ (Ne.symm h.ne13)).trans h.wb,
   own_far h.ow fun g h1 _ => heap_other _ (by have := h.l1; omega), fun i l hl => by
    obtain ⟨u, h1, h2⟩ := h.ins i l hl
    exact ⟨u, h1, own_far h2 fun g h1 _ => heap_other _ (by have := h.l1; omega)⟩⟩
theorem zV_set (l : List Int) (j : Nat) (x : Int) : (zV l).toArray.setIfInBounds j (.int .i64 x) = (zV (l.set j x)).toArray := by
  unfold zV
  rw [List.setIfInBounds_toArray, List.map_set]
theorem CubS.put (h : CubS w0 w fb ob wy way O b y sls) (j : Nat) (x : Int) : CubS w0 (w.setCell ⟨wy, j, none⟩ (.int .i64 x)) fb ob wy (way.set j x) O b y sls :=
  ⟨h.l1, h.l2, h.l3, h.rel.setCell (fun _ => .inr (.inr rfl)) _, (heap_other _ h.ne13).trans h.fl, (heap_other _ h.ne23).trans h.ot, by rw [← zV_set]; exact h.wb.set_ j _,
   own_far h.ow fun g h1 _ => heap_other _ (by have := h.l3; omega), fun i l hl => by
    obtain ⟨u, h1, h2⟩ := h.ins i l hl
    exact ⟨u, h1, own_far h2 fun g h1 _ => heap_other _ (by have := h.l3; omega)⟩⟩
theorem CubS.wcell (h : CubS w0 w fb ob wy way O b y sls) {j : Nat} {x : Int} (hj : way[j]? = some x) : w.cell? ⟨wy, j, none⟩ = some (.int .i64 x) := (h.wb.cell j).trans (by
  rw [List.getElem?_toArray]; exact zV_at hj)
theorem CubS.rel_grown (h : CubS w0 w fb ob wy way O b y sls) (hg : w.grownBy w' y.ownBlock) : Only (W3 fb ob wy) w0 w' :=
  Only.trans h.rel (Only.of_grown (F := fun i => w0.heap.size ≤ i) hg fun k _ e => (h.ow.lt k e.symm).1) fun i hi hf => by omega
/-- one cube more -/
theorem CubS.add (h : CubS w0 w fb ob wy way O b y sls) {y' u : Value} {l : List Int} (hu : w.ownsRow w0.heap.size 3 1 u l.length (zV l)) (hown : w'.ownsRow w0.heap.size 45 1 y' (O.length + 1) (sls ++ [u])) (hg : w.grownBy w' y.ownBlock) :
    CubS w0 (w'.setCell ⟨ob, 0, none⟩ y') fb ob wy way (O ++ [l]) b y' (sls ++ [u]) := by
  have hy : ∀ g, y.ownBlock = some g → w0.heap.size ≤ g := fun g hg => (h.ow.lt g hg).1
  have hin : ∀ {u : Value} {l : List Int}, w.ownsRow w0.heap.size 3 1 u l.length (zV l) → w'.ownsRow w0.heap.size 3 1 u l.length (zV l) := fun {u l} hu => own_keep hu fun g hgu => hg.block g (hu.lt g hgu).2 (by
    intro e
    rcases own_ne_own hu h.ow (by decide) with h1 | h1
    · rw [h1] at hgu; cases hgu
    · exact h1 (by rw [hgu]; exact e))
  have hrel : Only (W3 fb ob wy) w0 w' := Only.trans h.rel (Only.of_grown (F := fun i => w0.heap.size ≤ i) hg fun k _ e => hy k e.symm) fun i hi hf => by omega
  have hsl : sls.length = O.length := by have := h.ow.1; omega
  refine ⟨h.l1, h.l2, h.l3, hrel.setCell (fun _ => .inr (.inl rfl)) _, (heap_other _ h.ne12).trans (h.fl.grown hg fun e => by have := hy _ e.symm; have := h.l1; omega), ?_, (heap_other _ (Ne.symm h.ne23)).trans (h.wb.grown hg fun e => by have := hy _ e.symm; have := h.l3; omega), ?_, fun i l' hl => ?_⟩
  · exact (h.ot.grown hg fun e => by have := hy _ e.symm; have := h.l2; omega).set_ 0 _
  · rw [List.length_append, List.length_singleton]
    exact own_far hown fun g h1 _ => heap_other _ (by have := h.l2; omega)
  · rw [List.getElem?_append] at hl
    split at hl
    · obtain ⟨u', h1, h2⟩ := h.ins i l' hl
      refine ⟨u', ?_, own_far (hin h2) fun g h1 _ => heap_other _ (by have := h.l2; omega)⟩
      rw [List.getElem?_append_left (by omega)]; exact h1
    · rename_i hi
      have hi0 : i - O.length = 0 := by
        rcases Nat.eq_zero_or_pos (i - O.length) with e | e
        · exact e
        · rw [List.getElem?_eq_none (by simp; omega)] at hl; cases hl
      rw [hi0] at hl
      injection hl with hl
      subst hl
      refine ⟨u, ?_, own_far (hin hu) fun g h1 _ => heap_other _ (by have := h.l2; omega)⟩
      rw [List.getElem?_append_right (by omega), show i - sls.length = 0 by omega]; rfl
end
theorem one_slice (a : Option Addr) (n c : Nat) : ∀ u ∈ [Value.slice a n c], u.oneCell' = true := by intro u hu; simp at hu; subst hu; rfl
theorem lit_sl (w : World) (a : Option Addr) (n c : Nat) (t : TypeId) : ∀ j u, [Value.slice a n c][j]? = some u → (w.alloc (.cells #[.slice a n c] t)).cell? ((⟨w.heap.size, 0, none⟩ : Addr).add j) = some u := fun j u hj => by
  match j, hj with
  | 0, hj => simp at hj; subst hj; exact World.cell?_alloc_new ..
theorem row_ne {w0 w : World} {fb ob wy : Nat} {way : List Int} {O : List (List Int)} {b : Bool} {y : Value} {sls : List Value} (h : CubS w0 w fb ob wy way O b y sls) : some ob ≠ y.ownBlock := fun e => by
  have := (h.ow.lt ob e.symm).1; have := h.l2; omega
def cubC (fb ob tb yb sb xb : Nat) : Value := .func (.func 129) #[] #[.pointer (some ⟨fb, 0, none⟩), .pointer (some ⟨ob, 0, none⟩), .pointer (some ⟨tb, 0, none⟩), .pointer (some ⟨yb, 0, none⟩), .pointer (some ⟨sb, 0, none⟩), .pointer (some ⟨xb, 0, none⟩)]
/-- what the walk reads and never writes -/
structure CubH (w : World) (B p tb yb sb xb fb ob wy V most : Nat) (S : NS) : Prop where
  sto : Sto w B p S
  c1 : w.cell? ⟨tb, 0, none⟩ = some (.int .i64 (most : Int))
  c2 : w.cell? ⟨yb, 0, none⟩ = some (.slice (some ⟨wy, 0, none⟩) V V)
  c3 : w.cell? ⟨sb, 0, none⟩ = some (.pointer (some ⟨p, 0, none⟩))
  c4 : w.cell? ⟨xb, 0, none⟩ = some (cubC fb ob tb yb sb xb)
def CubWalked (w0 : World) (fb ob wy most : Nat) (S : NS) (way : List Int) (O : List (List Int)) (b : Bool) (k : Nat) (e : Ending) (w' : World) : Prop :=
  e = .returned (.tuple #[]) ∧ ∃ y' sls', CubS w0 w' fb ob wy way (addC most (O, b) (cubB S.l k way)).1 (addC most (O, b) (cubB S.l k way)).2 y' sls'
theorem call_cub (args : Array Value) (w : World) : (callFunc 129 args).run Tryz.prog w = .ok (.enter 129 args) w := MuLone.run_callFunc_enter Tryz.func129 (by kernel_rfl) rfl args w
theorem info_rows : (Tryz.prog.info? 45).map (fun i => (i.zero, i.size, i.bytes)) = some (some (.slice none 0 0), 1, 24) := by kernel_rfl
theorem way_low {way : List Int} {V v l : Nat} (x : Int) (h : ∀ j, v ≤ j → j < V → way[j]? = some 2) (hl : v < l) : ∀ j, l ≤ j → j < V → (way.set v x)[j]? = some 2 := fun j h1 h2 => by
  rw [List.getElem?_set_ne (by omega)]; exact h j (by omega) h2
theorem way_back {way : List Int} {v : Nat} (x : Int) (h : way[v]? = some 2) : (way.set v x).set v 2 = way := by
  rw [List.set_set]
  refine List.ext_getElem? fun j => ?_
  rw [List.getElem?_set]
  split
  · rename_i e
    subst e
    split
    · exact h.symm
    · rw [List.getElem?_eq_none (by omega)]
  · rfl
theorem way_on (way : List Int) (v : Nat) (x y : Int) : (way.set v x).set v y = way.set v y := List.set_set ..
theorem CubH.apart {w w0 : World} {B p tb yb sb xb fb ob wy V most : Nat} {S : NS} {way : List Int} {O : List (List Int)} {b : Bool} {y : Value} {sls : List Value} {x : Int} (h : CubH w B p tb yb sb xb fb ob wy V most S) (hs : CubS w0 w fb ob wy way O b y sls) (hx : way[0]? = some x) : wy ≠ yb ∧ wy ≠ xb ∧ wy ≠ sb := by
  have hc := hs.wcell hx
  refine ⟨fun e => ?_, fun e => ?_, fun e => ?_⟩
  · rw [e, h.c2] at hc; cases hc
  · rw [e, h.c4] at hc; cases hc
  · rw [e, h.c3] at hc; cases hc
set_option maxRecDepth 100000 in
set_option maxHeartbeats 8000000 in
theorem cub_ok (w0 : World) (B p tb yb sb xb fb ob wy V most : Nat) (S : NS) (hW : Wf S) (hV : V = S.vars) (hV1 : 1 ≤ V) (hmost : most ≤ 16384) (hh : ∀ w, Only (W3 fb ob wy) w0 w → CubH w B p tb yb sb xb fb ob wy V most S) :
    ∀ (f : Nat) (w : World) (k : Nat) (way : List Int) (O : List (List Int)) (b : Bool) (y : Value) (sls : List Value), CubS w0 w fb ob wy way O b y sls → isB S.l k = true → S.vars - (nd S.l k).v < f → way.length = V → (∀ j, (nd S.l k).v ≤ j → j < V → way[j]? = some 2) → O.length ≤ most →
    Calls Tryz.prog 129 #[.int .i64 (k : Int), .pointer (some ⟨fb, 0, none⟩), .pointer (some ⟨ob, 0, none⟩), .pointer (some ⟨tb, 0, none⟩), .pointer (some ⟨yb, 0, none⟩), .pointer (some ⟨sb, 0, none⟩), .pointer (some ⟨xb, 0, none⟩)] w (CubWalked w0 fb ob wy most S way O b k) := by
  intro f
  induction f with
  | zero => intro w k way O b y sls _ _ hf; omega
  | succ f ih =>
    intro w k way O b y sls hs hk hf hwl hw2 hO
    have IH := Lib.hid ih
    clear ih
    have hlm := hW.lm
    have hkl := isB_lt hk
    have HS := Lib.hid hs; have HW := Lib.hid hW; have HK := Lib.hid hk; have HFU := Lib.hid hf; have HWL := Lib.hid hwl; have HW2 := Lib.hid hw2; have HH := Lib.hid hh; have HVV := Lib.hid hV
    have x1 : w.cell? ⟨fb, 0, none⟩ = some (.bool b) := hs.fl.cell 0
    have xl := hs.fl.lt
    clear hs hW hk hf hwl hw2 hh hV
    by_cases hk0 : k = 0
    · have d1 : ((k : Int) == 0) = true := by rw [beq_iff_eq]; omega
      have HP : Hid (cubB S.l k way = []) := Lib.hid (by rw [hk0]; exact cubB_zero _ _)
      clear hk0
      go_enter Tryz.func129, Tryz.ntmps129
      go_wp2_with fail
      refine bodyPost_ret (results_none rfl _ _ _) rfl ?_
      exact ⟨rfl, y, sls, by rw [HP.out]; exact HS.out⟩
    have d1 : ((k : Int) == 0) = false := by rw [beq_eq_false_iff_ne]; omega
    cases b with
    | true =>
      have HP : Hid (addC most (O, true) (cubB S.l k way) = (O, true)) := Lib.hid (addC_full _ _ _)
      clear hk0
      go_enter Tryz.func129, Tryz.ntmps129
      go_wp2_with fail
      refine bodyPost_ret (results_none rfl _ _ _) rfl ?_
      exact ⟨rfl, y, sls, by rw [HP.out]; exact HS.out⟩
    | false =>
      by_cases hk1 : k = 1
      · have d2 : ((k : Int) == 1) = true := by rw [beq_iff_eq]; omega
        obtain ⟨HA, HC, HN⟩ : Hid (cubB S.l k way = [way]) ∧ True ∧ True := ⟨Lib.hid (by rw [hk1]; exact cubB_one _ _), trivial, trivial⟩
        obtain ⟨ya, yc, rfl⟩ := own_shape HS.out.ow
        have x2 : w.cell? ⟨ob, 0, none⟩ = some (.slice ya O.length yc) := HS.out.ot.cell 0
        have xl2 := HS.out.ot.lt
        have f1 := HS.out.fl.frozen 0
        have hch := HH.out w HS.out.rel
        have x3 : w.cell? ⟨tb, 0, none⟩ = some (.int .i64 (most : Int)) := hch.c1
        obtain ⟨n, hn⟩ : ∃ n, O.length = n := ⟨_, rfl⟩
        have HNL := Lib.hid hn
        rw [hn] at x2
        clear hch hk1 hk0 HC HN
        by_cases hfull : most ≤ n
        · have d3 : decide ((most : Int) ≤ (n : Int)) = true := decide_eq_true (by omega)
          have d3' : decide (most ≤ n) = true := decide_eq_true hfull
          have HP : Hid (addC most (O, false) (cubB S.l k way) = (O, true)) := Lib.hid (by
            rw [HA.out]
            show stepC most (O, false) way = _
            unfold stepC
            rw [if_neg (by simp), if_pos (by show most ≤ O.length; rw [HNL.out]; exact hfull)])
          have HS2 := Lib.hid (HS.out.full true)
          clear hfull hn
          go_enter Tryz.func129, Tryz.ntmps129
          go_wp2_with fail
          refine bodyPost_ret (results_none rfl _ _ _) rfl ?_
          exact ⟨rfl, _, sls, by rw [HP.out]; exact HS2.out⟩
        · have d3 : decide ((most : Int) ≤ (n : Int)) = false := decide_eq_false (by omega)
          have d3' : decide (most ≤ n) = false := decide_eq_false hfull
          have HP : Hid (addC most (O, false) (cubB S.l k way) = (O ++ [way], false)) := Lib.hid (by
            rw [HA.out]
            show stepC most (O, false) way = _
            unfold stepC
            rw [if_neg (by simp), if_neg (by show ¬ most ≤ O.length; rw [HNL.out]; exact hfull)])
          have HS2 := Lib.hid (HS.out.full false)
          clear hn
          go_enter Tryz.func129, Tryz.ntmps129
          go_upto_region 4 with (fail)
          obtain ⟨w2, hw2⟩ : ∃ w2, w2 = w.setCell ⟨fb, 0, none⟩ (.bool false) := ⟨_, rfl⟩
          rw [← hw2] at HS2 ⊢
          have hs2 := HS2.out.below (Below.refl _ _).drew
          have hcl := Tryz.slices_Clone_int wy 0 V V way w2.drew (by rw [HWL.out]; exact Nat.le_refl _) (by have := HW.out.v256; have := HVV.out; omega) (fun j hj => by
            rw [Nat.zero_add]
            have h := List.getElem?_eq_getElem hj
            rw [hs2.wcell h, List.getD_eq_getElem?_getD, h]; rfl)
          rw [List.take_of_length_le (by rw [HWL.out]; exact Nat.le_refl _)] at hcl
          have HCL := Lib.hid hcl; have HSD := Lib.hid hs2
          have y1 : w2.cell? ⟨yb, 0, none⟩ = some (.slice (some ⟨wy, 0, none⟩) V V) := (HH.out w2 HS2.out.rel).c2
          have y2 : w2.cell? ⟨ob, 0, none⟩ = some (.slice ya n yc) := by rw [← HNL.out]; exact HS2.out.ot.cell 0
          have yl := HS2.out.ot.lt
          obtain ⟨j0, hj0, yz0, yz1, yz2⟩ := info_parts info_rows
          have hn16 : n < 16384 := by omega
          clear hs2 hcl hw2 x1 xl x2 xl2 f1 x3 hfull
          have HCUR : Hid (CubS w0 w2.drew fb ob wy way O false (.slice ya n yc) sls) := Lib.hid (by rw [← HNL.out]; exact HSD.out)
          go_region_law (first | (refine step_append_sep rfl (.tmp 25) (.tmp 28) 42 rfl w0.heap.size 45 j0 (.slice none 0 0) 1 24 Tryz.underlying42 hj0 yz0 yz1 yz2 rfl (by decide) (.slice ya n yc) n _ (by simp [Act.eval]) (World.ownsRow.alloc (w := w3) (by have h := HCUR.out.ow; rw [HNL.out] at h; exact h) _) ⟨w3.heap.size, 0, none⟩ 1 1 [.slice ua V uc] (by simp [Act.eval]) rfl (lit_sl w3 _ _ _ _) (one_slice _ _ _) (by unfold maxLen; omega) (by omega) (by have := HCUR.out.rel.size; simp; omega) ?_; intro y4 w4 hown4 hg4 hs4; obtain ⟨oa, oc, rfl⟩ := own_shape hown4; have hp4 := ((HCUR.out.ot.alloc_ (.cells #[.slice ua V uc] 45)).grown hg4 (row_ne HCUR.out)); have f0 : w4.cell? ⟨ob, 0, none⟩ = some (.slice ya n yc) := hp4.cell 0; have ff0 := hp4.frozen 0; have fl0 := hp4.lt; have hal := ((Below.refl w3.heap.size w3).alloc (Nat.le_refl _) (.cells #[.slice ua V uc] 45)); have HADD := Lib.hid ((HCUR.out.below hal).add (own_below (show w3.ownsRow w0.heap.size 3 1 (.slice ua V uc) way.length (zV way) by rw [HWL.out]; exact HU.out) hal) (by rw [HNL.out]; exact hown4) hg4); clear hown4 hg4 hs4 hp4 hal) | (go_simp; go_at_call 31; refine HCL.out.mono ?_; rintro e w3 ⟨u, rfl, hu, _, hb3⟩; have hs3 := HCUR.out.below hb3; have hu2 := own_base hu (show w0.heap.size ≤ w2.drew.heap.size from HSD.out.rel.size); obtain ⟨ua, uc, rfl⟩ := own_shape hu; have HCUR := Lib.hid hs3; have HU := Lib.hid hu2; have z2 : w3.cell? ⟨ob, 0, none⟩ = some (.slice ya n yc) := hs3.ot.cell 0; have zl := hs3.ot.lt; clear hs3 hu hu2 hb3; go_wp2_with fail))
          all_goals
            clear f0 ff0 fl0
            go_wp2_with fail
            refine bodyPost_ret (results_none rfl _ _ _) rfl ?_
            exact ⟨rfl, _, _, by rw [HP.out]; exact HADD.out⟩
      · have d2 : ((k : Int) == 1) = false := by rw [beq_eq_false_iff_ne]; omega
        have h2 : 2 ≤ k := by omega
        have hch := HH.out w HS.out.rel
        have HA := Lib.hid (nask_ok w B p S hch.sto (k : Int))
        rw [askV_yes (by rw [isK_nat]; exact HK.out), Int.toNat_natCast] at HA
        have x2 : w.cell? ⟨sb, 0, none⟩ = some (.pointer (some ⟨p, 0, none⟩)) := hch.c3
        obtain ⟨hv0, _, hlo, hhi, hvl, hvh⟩ := HW.out.kid k h2 HK.out
        have HST := Lib.hid (cubB_step HW.out way h2 HK.out)
        obtain ⟨v, hv⟩ : ∃ v, (nd S.l k).v = v := ⟨_, rfl⟩
        obtain ⟨lo, hl⟩ : ∃ lo, (nd S.l k).low = lo := ⟨_, rfl⟩
        obtain ⟨hi, hh⟩ : ∃ hi, (nd S.l k).high = hi := ⟨_, rfl⟩
        rw [hv, hl, hh] at HA HST
        rw [hv] at hv0 hvl hvh
        rw [hl] at hlo hvl
        rw [hh] at hhi hvh
        have HF2 : Hid (S.vars - v < f + 1) := by rw [← hv]; exact HFU
        have HWK : Hid (∀ j, v ≤ j → j < V → way[j]? = some 2) := by rw [← hv]; exact HW2
        have hv2 : way[v]? = some 2 := HWK.out v (Nat.le_refl _) (by rw [HVV.out]; exact hv0)
        have hvV : v < V := by rw [HVV.out]; exact hv0
        have hv256 : V ≤ 256 := by rw [HVV.out]; exact HW.out.v256
        obtain ⟨x0, hx0⟩ : ∃ x, way[0]? = some x := ⟨_, List.getElem?_eq_getElem (by rw [HWL.out]; omega)⟩
        obtain ⟨n1, n2, n3⟩ := hch.apart HS.out hx0
        have HKID := Lib.hid (And.intro hv0 (And.intro hlo (And.intro hhi (And.intro hvl hvh))))
        have HV2 := Lib.hid hv2
        have b1 : (0 : Int) ≤ (v : Int) := by omega
        have b2 : (v : Int) < (V : Int) := by omega
        clear hch hv0 hlo hhi hvl hvh hv hl hh hv2 hx0 hk0 hk1
        go_enter Tryz.func129, Tryz.ntmps129
        go_wp2_with fail
        refine HA.out.mono ?_
        rintro e w1 ⟨rfl, nq, hw1⟩
        have hb1 : Below w.heap.size w w1 := by rw [hw1]; exact bdN' _ _
        have HS1 := Lib.hid (HS.out.below hb1)
        clear hw1 hb1 x1 x2 xl
        have y1 : w1.cell? ⟨yb, 0, none⟩ = some (.slice (some ⟨wy, 0, none⟩) V V) := (HH.out w1 HS1.out.rel).c2
        have y2 : w1.cell? ⟨wy, v, none⟩ = some (.int .i64 2) := HS1.out.wcell HV2.out
        have y3 := HS1.out.wb.frozen v
        have y4 := HS1.out.wb.lt
        have x4 : w1.cell? ⟨xb, 0, none⟩ = some (cubC fb ob tb yb sb xb) := (HH.out w1 HS1.out.rel).c4
        unfold cubC at x4
        have hen := call_cub
        have HC1 := Lib.hid (IH.out (w1.setCell ⟨wy, v, none⟩ (.int .i64 0)) lo (way.set v 0) O false y sls (HS1.out.put v 0) HKID.out.2.1 (by have := HF2.out; have := HKID.out; omega) (by rw [List.length_set]; exact HWL.out) (way_low 0 HWK.out HKID.out.2.2.2.1) hO)
        go_wp2_with fail
        refine HC1.out.mono ?_
        rintro e w2 ⟨rfl, ya, sla, hs2⟩
        have HO2 := Lib.hid (addC_len most (O, false) hO (cubB S.l lo (way.set v 0)))
        obtain ⟨O2, hO2⟩ : ∃ O2, (addC most (O, false) (cubB S.l lo (way.set v 0))).1 = O2 := ⟨_, rfl⟩
        obtain ⟨c2, hc2⟩ : ∃ c2, (addC most (O, false) (cubB S.l lo (way.set v 0))).2 = c2 := ⟨_, rfl⟩
        rw [hO2, hc2] at hs2
        rw [hO2] at HO2
        have HP2 : Hid (addC most (O, false) (cubB S.l k way) = addC most (O2, c2) (cubB S.l hi (way.set v 1))) := Lib.hid (by rw [HST.out, addC_app, ← hO2, ← hc2])
        have HS2 := Lib.hid hs2
        clear hO2 hc2 hs2 y1 y2 y3 y4 x4 HC1 HA
        have y1 : w2.cell? ⟨yb, 0, none⟩ = some (.slice (some ⟨wy, 0, none⟩) V V) := (HH.out w2 HS2.out.rel).c2
        have y2 : w2.cell? ⟨wy, v, none⟩ = some (.int .i64 0) := HS2.out.wcell (List.getElem?_set_self (by rw [HWL.out]; exact hvV))
        have y3 := HS2.out.wb.frozen v
        have y4 := HS2.out.wb.lt
        have x4 : w2.cell? ⟨xb, 0, none⟩ = some (cubC fb ob tb yb sb xb) := (HH.out w2 HS2.out.rel).c4
        unfold cubC at x4
        have hput := HS2.out.put v 1
        rw [way_on] at hput
        have HC2 := Lib.hid (IH.out (w2.setCell ⟨wy, v, none⟩ (.int .i64 1)) hi (way.set v 1) O2 c2 ya sla hput HKID.out.2.2.1 (by have := HF2.out; have := HKID.out; omega) (by rw [List.length_set]; exact HWL.out) (way_low 1 HWK.out HKID.out.2.2.2.2) HO2.out)
        clear hput
        go_wp2_with fail
        refine HC2.out.mono ?_
        rintro e w3 ⟨rfl, yc, slc, hs3⟩
        rw [← HP2.out] at hs3
        have HS3 := Lib.hid hs3
        clear hs3 y1 y2 y3 y4 x4 HC2
        have y1 : w3.cell? ⟨yb, 0, none⟩ = some (.slice (some ⟨wy, 0, none⟩) V V) := (HH.out w3 HS3.out.rel).c2
        have y2 : w3.cell? ⟨wy, v, none⟩ = some (.int .i64 1) := HS3.out.wcell (List.getElem?_set_self (by rw [HWL.out]; exact hvV))
        have y3 := HS3.out.wb.frozen v
        have y4 := HS3.out.wb.lt
        have hput := HS3.out.put v 2
        rw [way_back 1 HV2.out] at hput
        have HS4 := Lib.hid hput
        clear hput
        go_wp2_with fail
        go_end0
        exact ⟨rfl, _, _, HS4.out⟩
end Go.Proofs.YtobhjkfkdkiigaaGreatDoor
