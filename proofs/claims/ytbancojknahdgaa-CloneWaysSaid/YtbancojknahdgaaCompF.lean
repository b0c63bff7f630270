/- The contract of walker.walk: begun. -/
import Derived.Test.YtbancojknahdgaaCompE
import Derived.WalkMore
namespace Go.Proofs.Ytbancojknahdgaa
open Go.RowKit CP
/-- the walker, the way (a row of this call's own) and the map of next edges -/
structure KP (W0 : Nat) (w : World) (G B : Nat) (A : WA) (n : Nat) (g : Nat → List Nat) (sl : Nat → Value) (stk : Value) (s : TS) (y : Value) (wl : List Nat) (mb : Nat) (nx : Nat → Nat) : Prop where
  wm : WM w G B A n g sl stk s
  row : w.ownsRow W0 3 1 y wl.length (iV wl)
  nm : NMap w mb n nx
  ap : ∀ b, y.ownBlock = some b → stk.ownBlock ≠ some b
  BW : B ≤ W0
  old : A.p < W0 ∧ A.bm < W0 ∧ A.bl < W0 ∧ A.bo < W0 ∧ A.bc < W0
  mbW : W0 ≤ mb
section
variable {W0 : Nat} {w : World} {G B : Nat} {A : WA} {n : Nat} {g : Nat → List Nat} {sl : Nat → Value} {stk : Value} {s : TS} {y : Value} {wl : List Nat} {mb : Nat} {nx : Nat → Nat}
theorem KP.below (h : KP W0 w G B A n g sl stk s y wl mb nx) {w' : World} (hb : Below w.heap.size w w') : KP W0 w' G B A n g sl stk s y wl mb nx :=
  ⟨h.wm.below hb, own_keep h.row fun k hk => hb.block _ (h.row.lt k hk).2, h.nm.keep (hb.block _ h.nm.lt), h.ap, h.BW, h.old, h.mbW⟩
theorem KP.notWF (h : KP W0 w G B A n g sl stk s y wl mb nx) {b : Nat} (hb : y.ownBlock = some b) : ¬ WF A stk b := by
  have h1 := (h.row.lt b hb).1
  obtain ⟨o1, o2, o3, o4, o5⟩ := h.old
  rintro (rfl | rfl | rfl | rfl | rfl | h2)
  · omega
  · omega
  · omega
  · omega
  · omega
  · exact h.ap b hb h2
theorem KP.mbWF (h : KP W0 w G B A n g sl stk s y wl mb nx) : ¬ WF A stk mb := by
  have h1 := h.mbW
  obtain ⟨o1, o2, o3, o4, o5⟩ := h.old
  rintro (e | e | e | e | e | h2)
  · omega
  · omega
  · omega
  · omega
  · omega
  · rcases h.wm.own.2 with ⟨e, _⟩ | ⟨b, cap, cur, e, _, hb, _⟩
    · rw [e] at h2; cases h2
    · rw [e] at h2
      injection h2 with h2
      subst h2
      exact h.nm.notcells (c := b) hb rfl
/-- the walker has changed -/
theorem KP.wf (h : KP W0 w G B A n g sl stk s y wl mb nx) {w' : World} {stk' : Value} {s' : TS} (ho : Only (WF A stk) w w') (hw : WM w' G B A n g sl stk' s') (hs : stk'.ownBlock = stk.ownBlock ∨ ∃ b, stk'.ownBlock = some b ∧ w.heap.size ≤ b) : KP W0 w' G B A n g sl stk' s' y wl mb nx := by
  refine ⟨hw, own_keep h.row fun k hk => ho.block k (h.row.lt k hk).2 (h.notWF hk), h.nm.keep (ho.block mb h.nm.lt h.mbWF), fun b hb e => ?_, h.BW, h.old, h.mbW⟩
  rcases hs with hs | ⟨c, hs, hc⟩
  · exact h.ap b hb (by rw [← hs]; exact e)
  · rw [hs] at e; injection e with e
    have := (h.row.lt b hb).2
    omega
/-- the way has grown -/
theorem KP.way (h : KP W0 w G B A n g sl stk s y wl mb nx) {w' : World} {y' : Value} {wl' : List Nat} (hg : w.grownBy w' y.ownBlock) (hown : w'.ownsRow W0 3 1 y' wl'.length (iV wl')) (hs : y'.ownBlock = y.ownBlock ∨ y'.ownBlock = some w.heap.size) : KP W0 w' G B A n g sl stk s y' wl' mb nx := by
  refine ⟨h.wm.keep fun b hb hh => hg.block b hb fun e => ?_, hown, h.nm.keep (hg.block mb h.nm.lt fun e => ?_), fun b hb e => ?_, h.BW, h.old, h.mbW⟩
  · rcases hh with hh | hh
    · have := (h.row.lt b e.symm).1; have := h.BW; omega
    · exact h.notWF e.symm hh
  · rcases h.row.2 with ⟨e2, _⟩ | ⟨b, cap, cur, e2, _, hb, _⟩
    · rw [e2] at e; cases e
    · rw [e2] at e
      injection e with e
      exact h.nm.notcells (c := b) hb e.symm
  · rcases hs with hs | hs
    · exact h.ap b (by rw [← hs]; exact hb) e
    · rw [hs] at hb; injection hb with hb
      have := (h.wm.own.lt b e).2
      omega
/-- the way's end is left -/
theorem KP.pop {b q cap k : Nat} {ws : List Nat} (h : KP W0 w G B A n g sl stk s (.slice (some ⟨b, 0, none⟩) (q + 1) cap) (ws ++ [k]) mb nx) (hq : ws.length = q) : KP W0 w G B A n g sl stk s (.slice (some ⟨b, 0, none⟩) q cap) ws mb nx := by
  refine ⟨h.wm, ?_, h.nm, h.ap, h.BW, h.old, h.mbW⟩
  have hr := h.row
  rw [List.length_append, hq, iV_app] at hr
  have := own_pop (m := q) hr
  rw [hq]; exact this
/-- the map has changed -/
theorem KP.map (h : KP W0 w G B A n g sl stk s y wl mb nx) {w' : World} {nx' : Nat → Nat} (hg : w.grownBy w' (some mb)) (hn : NMap w' mb n nx') : KP W0 w' G B A n g sl stk s y wl mb nx' := by
  refine ⟨h.wm.keep fun b hb hh => hg.block b hb fun e => ?_, own_keep h.row fun k hk => hg.block k (h.row.lt k hk).2 fun e => ?_, hn, h.ap, h.BW, h.old, h.mbW⟩
  · injection e with e
    subst e
    rcases hh with hh | hh
    · have := h.mbW; have := h.BW; omega
    · exact h.mbWF hh
  · injection e with e
    subst e
    rcases h.row.2 with ⟨e2, _⟩ | ⟨b, cap, cur, e2, _, hb, _⟩
    · rw [e2] at hk; cases hk
    · rw [e2] at hk
      injection hk with hk
      exact h.nm.notcells (c := b) hb hk
end
/-- the way goes on to a node that was not met -/
theorem CP.TI.meetNext {g : Gr} {n : Nat} {s : TS} {ws : List Nat} {k x j : Nat} {nx : Nat → Nat} (h : TI g n s (ws ++ [k]) nx) (hg : ∀ v, ∀ x ∈ g v, x < n) (hxn : x < n) (h0 : s.met x = 0) (hj : nx k = j) (hx : (g k)[j]? = some x) : TI g n (s.meet x) (ws ++ [k] ++ [x]) (fup nx k (j + 1)) := by
  have hks : k ∈ s.stack := h.wyI k (by simp)
  have hkm := (h.stI k hks).2
  have hxk : x ≠ k := fun e => hkm (by rw [← e]; exact h0)
  refine h.meet hg hxn h0 (fun v hv => (h.A v hv k hks (h.top v hv)).tail (List.mem_of_getElem? hx)) ?_ ?_ ?_ ?_
  · rw [fup_ne _ _ hxk]; exact h.nx x h0
  · intro v _ hv
    rw [fup_ne _ _ (fun e => hkm (by rw [← e]; exact hv))]; exact h.nx v hv
  · intro v _ hv
    rw [fup_ne _ _ (fun e => hv (by rw [e]; simp))]; exact Nat.le_refl _
  · intro v hv i hi y hy
    by_cases e : v = k
    · subst e
      rw [fup_same] at hi
      by_cases e2 : i = j
      · subst e2
        rw [hx] at hy; injection hy with hy
        exact .inl hy.symm
      · exact .inr (by omega)
    · rw [fup_ne _ _ e] at hi; exact .inr hi
theorem CP.TI.scanOff {g : Gr} {n : Nat} {s : TS} {way : List Nat} {k x j : Nat} {nx : Nat → Nat} (h : TI g n s way nx) (hk : k ∈ way) (hj : nx k = j) (hx : (g k)[j]? = some x) (hm : s.met x ≠ 0) (ho : s.on x = false) : TI g n s way (fup nx k (j + 1)) := by
  subst hj
  have h2 := h.scan hk hx hm
  rw [ho, if_neg (by decide)] at h2
  have e : s.lower k (s.low k) = s := by unfold TS.lower; rw [fup_id]
  rw [e] at h2; exact h2
theorem CP.TI.scanOn {g : Gr} {n : Nat} {s : TS} {way : List Nat} {k x j : Nat} {nx : Nat → Nat} (h : TI g n s way nx) (hk : k ∈ way) (hj : nx k = j) (hx : (g k)[j]? = some x) (hm : s.met x ≠ 0) (ho : s.on x = true) : TI g n (s.lower k (min (s.low k) (s.met x))) way (fup nx k (j + 1)) := by
  subst hj
  have h2 := h.scan hk hx hm
  rw [ho, if_pos rfl] at h2
  exact h2
theorem meet_mono {s : TS} {x v : Nat} (h : s.met v ≠ 0) : (s.meet x).met v ≠ 0 := by
  show fup s.met x _ v ≠ 0
  by_cases e : v = x
  · subst e; rw [fup_same]; omega
  · rw [fup_ne _ _ e]; exact h
theorem fup_le {g : Nat → List Nat} {nx : Nat → Nat} {k j : Nat} (h : ∀ v, nx v ≤ (g v).length) (hj : j < (g k).length) : ∀ v, fup nx k (j + 1) v ≤ (g v).length := fun v => by
  by_cases e : v = k
  · subst e; rw [fup_same]; omega
  · rw [fup_ne _ _ e]; exact h v
structure KT (w0 w : World) (B n : Nat) (g : Nat → List Nat) (s0 : TS) (fr : Nat) (s : TS) (way : List Nat) (nx : Nat → Nat) : Prop where
  ti : TI g n s way nx
  bel : Below B w0 w
  mono : ∀ v, s0.met v ≠ 0 → s.met v ≠ 0
  fr : s.met fr ≠ 0
  le : ∀ v, nx v ≤ (g v).length
def WalkPost (w : World) (G B : Nat) (A : WA) (n : Nat) (g : Nat → List Nat) (sl : Nat → Value) (s : TS) (fr : Nat) (e : Ending) (w' : World) : Prop :=
  e = .returned (.tuple #[]) ∧ Below B w w' ∧ ∃ stk' s' nx', WM w' G B A n g sl stk' s' ∧ TI g n s' [] nx' ∧ s'.met fr ≠ 0 ∧ ∀ v, s.met v ≠ 0 → s'.met v ≠ 0
theorem WF.below {w w' : World} {G B : Nat} {A : WA} {n : Nat} {g : Nat → List Nat} {sl : Nat → Value} {stk : Value} {s : TS} (h : WM w G B A n g sl stk s) (ho : Only (WF A stk) w w') (hB : B ≤ w.heap.size) : Below B w w' :=
  Only.below ho (fun k hk _ hf => by have := WF.ge h hf; omega) hB
/-- the end of a row -/
theorem own_top {w : World} {B b q cap : Nat} {xs : List Value} {x : Value} (h : w.ownsRow B 3 1 (.slice (some ⟨b, 0, none⟩) (q + 1) cap) (q + 1) (xs ++ [x])) (hl : xs.length = q) : w.cell? ⟨b, q, none⟩ = some x := by
  have := h.cells (g := b) rfl q x (by rw [List.getElem?_append_right (by omega), hl, Nat.sub_self]; rfl)
  simp [Addr.add] at this
  split at this
  · rename_i h0; subst h0; exact this
  · exact this
theorem own_new {W b n c : Nat} (hb : (Value.slice (some ⟨W + 1, 0, none⟩) n c).ownBlock = some b) (h : b < W) : False := by
  have hb2 : W + 1 = b := by injection hb
  omega
set_option maxRecDepth 100000 in
set_option maxHeartbeats 12800000 in
theorem walk_ok (w : World) (G B : Nat) (A : WA) (n : Nat) (g : Nat → List Nat) (sl : Nat → Value) (stk : Value) (s : TS) (h : WM w G B A n g sl stk s) (nx0 : Nat → Nat) (ti0 : TI g n s [] nx0) (fr : Nat) (hfr : fr < n) (h0 : s.met fr = 0) (hn : n ≤ 1024) (hg : ∀ v, ∀ x ∈ g v, x < n) (hgl : ∀ v, (g v).length ≤ 16384) (hB : B ≤ w.heap.size) :
    Calls Try.prog 49 #[.pointer (some ⟨A.p, 0, none⟩), .int .i64 (fr : Int)] w (WalkPost w G B A n g sl s fr) := by
  obtain ⟨j0, hj0, yz0, yz1, yz2⟩ := info_parts int_infoC
  have ti := ti0.start
  have hwl : w.heap.size ≤ ((w.alloc (.map #[] 0)).alloc (.cells #[.int .i64 (fr : Int)] 3)).heap.size := by simp; omega
  have hbl : Below w.heap.size w ((w.alloc (.map #[] 0)).alloc (.cells #[.int .i64 (fr : Int)] 3)) := ((Below.refl _ _).alloc (Nat.le_refl _) _).alloc (by simp) _
  have HM := Lib.hid (meet_ok _ G B A n g sl stk s (h.below hbl) fr hfr hn (ti.count_lt hfr h0) (ti.stack_lt hfr h0) (Nat.le_trans hB hwl))
  have hold : A.p < w.heap.size ∧ A.bm < w.heap.size ∧ A.bl < w.heap.size ∧ A.bo < w.heap.size ∧ A.bc < w.heap.size := ⟨h.blk.lt, h.met.lt, h.low.lt, h.on.lt, h.comp.lt⟩
  have hrow : ((w.alloc (.map #[] 0)).alloc (.cells #[.int .i64 (fr : Int)] 3)).ownsRow w.heap.size 3 1 (.slice (some ⟨w.heap.size + 1, 0, none⟩) 1 1) 1 (iV [fr]) := by
    have hb := Blk.new_ (w.alloc (.map #[] 0)) 3 #[.int .i64 (fr : Int)]
    have e : (w.alloc (.map #[] 0)).heap.size = w.heap.size + 1 := by simp
    rw [e] at hb
    exact hb.own (base := w.heap.size) (by omega) (Nat.le_refl _) (by unfold maxLen; omega) rfl
  have hnm : NMap ((w.alloc (.map #[] 0)).alloc (.cells #[.int .i64 (fr : Int)] 3)) w.heap.size n fun _ => 0 := (NMap.new w n).keep (Below.heap_alloc _ _ _ (by simp))
  have HK0 : Hid (KP w.heap.size ((w.alloc (.map #[] 0)).alloc (.cells #[.int .i64 (fr : Int)] 3)) G B A n g sl stk s (.slice (some ⟨w.heap.size + 1, 0, none⟩) 1 1) [fr] w.heap.size fun _ => 0) :=
    Lib.hid ⟨h.below hbl, hrow, hnm, fun b hb e => own_new hb (h.own.lt b e).2, hB, hold, Nat.le_refl _⟩
  have HT0 := Lib.hid (ti.meet hg hfr h0 (fun w hw => by cases hw) (next' := fun _ => 0) rfl (fun _ _ _ => rfl) (fun _ _ _ => Nat.le_refl _) (fun v _ j hj => absurd hj (Nat.not_lt_zero _)))
  have HMO : Hid (∀ v, s.met v ≠ 0 → (s.meet fr).met v ≠ 0) := Lib.hid (fun v hv => by
    have e : v ≠ fr := fun e => hv (by rw [e]; exact h0)
    show fup s.met fr _ v ≠ 0
    rw [fup_ne _ _ e]; exact hv)
  have HFR : Hid ((s.meet fr).met fr ≠ 0) := Lib.hid (by show fup s.met fr _ fr ≠ 0; rw [fup_same]; omega)
  have HG := Lib.hid hg; have HGL := Lib.hid hgl; have HBL := Lib.hid hbl; have HN0 := Lib.hid hn
  clear h ti ti0 hold hrow hnm hbl hg hgl h0
  have hmk := @run_makeMap Try.prog
  go_enter Try.func49, Try.ntmps49
  go_step3
  go_wp2_with fail
  refine HM.out.mono ?_
  rintro e w1 ⟨rfl, ho1, stk1, hw1, hs1⟩
  have HK1 := Lib.hid (HK0.out.wf ho1 hw1 hs1)
  have HB1 : Hid (Below B w w1) := Lib.hid ((HBL.out.mono hB).trans (WF.below HK0.out.wm ho1 (Nat.le_trans hB hwl)))
  have HT1 : Hid (KT w w1 B n g s fr (s.meet fr) [fr] fun _ => 0) := Lib.hid ⟨HT0.out, HB1.out, HMO.out, HFR.out, fun _ => Nat.zero_le _⟩
  clear ho1 hw1 hs1 HK0 HB1 HT0 HMO HFR HM hwl
  go_wp2_with fail
  go_step3
  go_wp2_with fail
  go_loopg [5, 6, 7, 8] (2 * (n - (s.meet fr).count) + 1) (fun m y x6 x7 x8 wr => ∃ way nx stk s', m = 2 * (n - s'.count) + way.length ∧ KP w.heap.size wr G B A n g sl stk s' y way w.heap.size nx ∧ KT w wr B n g s fr s' way nx)
  case atStart => exact ⟨[fr], _, stk1, s.meet fr, rfl, HK1.out, HT1.out⟩
  case round =>
    obtain ⟨way, nx, stk2, s2, hm, hk, ht⟩ := hrel
    have HM := Lib.hid hm; have HK := Lib.hid hk; have HT := Lib.hid ht
    clear hm hk ht HK1 HT1
    by_cases hway : way = []
    · subst hway
      have hy : u5 = .slice none 0 0 ∨ ∃ b c, u5 = .slice (some ⟨b, 0, none⟩) 0 c := by
        rcases HK.out.row.2 with ⟨e, _⟩ | ⟨b, c, _, e, _⟩
        · exact .inl e
        · exact .inr ⟨b, c, e⟩
      have fin : WalkPost w G B A n g sl s fr (.returned (.tuple #[])) wr := ⟨rfl, HT.out.bel, stk2, s2, nx, HK.out.wm, HT.out.ti, HT.out.fr, HT.out.mono⟩
      have FIN := Lib.hid fin
      clear fin
      rcases hy with hy | ⟨b, c, hy⟩
      all_goals
        subst hy
        go_wp2_with fail
        go_end0
        exact FIN.out
    · obtain ⟨ws, k, hwk⟩ : ∃ ws k, way = ws ++ [k] := ⟨way.dropLast, way.getLast hway, (List.dropLast_concat_getLast hway).symm⟩
      subst hwk
      clear hway
      obtain ⟨q, hq⟩ : ∃ q, ws.length = q := ⟨_, rfl⟩
      have hrow := HK.out.row
      have hl1 : (ws ++ [k]).length = q + 1 := by rw [List.length_append, hq]; rfl
      rw [hl1, iV_app] at hrow
      obtain ⟨b, cap, hy, hqc⟩ : ∃ b cap, u5 = .slice (some ⟨b, 0, none⟩) (q + 1) cap ∧ q + 1 ≤ cap := by
        rcases hrow.2 with ⟨_, h0⟩ | ⟨b, cap, cur, e, _, _, h1, _⟩
        · omega
        · exact ⟨b, cap, e, h1⟩
      subst hy
      have htop : wr.cell? ⟨b, q, none⟩ = some (.int .i64 (k : Int)) := own_top hrow (by rw [iV_len]; exact hq)
      have hbl : b < wr.heap.size := (hrow.lt b rfl).2
      have hkn : k < n := (HT.out.ti.stI k (HT.out.ti.wyI k (by simp))).1
      have hqn : q + 1 ≤ 1024 := by have := HT.out.ti.way_le; rw [hl1] at this; have := HN0.out; omega
      have HQ := Lib.hid hq
      clear hrow hq
      go_wp2_with fail
      obtain ⟨c0, hc0⟩ : ∃ c0, c0 = s2.count := ⟨_, rfl⟩
      have HC0 := Lib.hid hc0
      clear hc0 htop hbl
      go_loopg [5, 7] ((g k).length - nx k) (fun mm y' x7 wr2 => ∃ nx stk s', mm + nx k = (g k).length ∧ y' = .slice (some ⟨b, 0, none⟩) (q + 1) cap ∧ KP w.heap.size wr2 G B A n g sl stk s' (.slice (some ⟨b, 0, none⟩) (q + 1) cap) (ws ++ [k]) w.heap.size nx ∧ KT w wr2 B n g s fr s' (ws ++ [k]) nx ∧ s'.count = c0)
      case atStart => exact ⟨nx, stk2, s2, Nat.sub_add_cancel (HT.out.le k), rfl, HK.out, HT.out, HC0.out.symm⟩
      case round =>
        obtain ⟨nx2, stk3, s3, hm2, rfl, hk2, ht2, hc2⟩ := hrel
        have HM2 := Lib.hid hm2; have HK2 := Lib.hid hk2; have HT2 := Lib.hid ht2; have HC2 := Lib.hid hc2
        clear hm2 hk2 ht2 hc2 HK HT
        obtain ⟨ad, cp, hsk⟩ := own_shape (HK2.out.wm.gm.row k hkn)
        have p0 : wr.cell? ⟨A.p, 0, none⟩ = some (.slice (some ⟨A.ga, 0, none⟩) n n) := HK2.out.wm.blk.cell 0
        have pl := HK2.out.wm.blk.lt
        have ck : wr.cell? ⟨A.ga, k, none⟩ = some (.slice ad (g k).length cp) := by rw [← hsk]; exact (HK2.out.wm.gm.blk.cell k).trans (tabV_get _ hkn)
        have gl := HK2.out.wm.gm.blk.lt
        have hgk := HGL.out k
        have hlk := HK2.out.nm.look (k := k) (by omega)
        have hlkD : ∀ q, (Instr.lookup 91 (.map (some w.heap.size)) (.int .i64 (k : Int)) false).run Try.prog (wr.drewN q) = .ok (.int .i64 (nx2 k : Int)) (wr.drewN q) := fun q => NMap.look (w := wr.drewN q) (HK2.out.nm.keep rfl) (by omega)
        obtain ⟨j, hj⟩ : ∃ j, nx2 k = j := ⟨_, rfl⟩
        obtain ⟨L, hL⟩ : ∃ L, (g k).length = L := ⟨_, rfl⟩
        have hcell := Cells.of_own (HK2.out.wm.gm.row k hkn)
        rw [hsk] at hcell
        rw [hj, hL] at HM2
        rw [hL] at ck hgk hcell
        rw [hj] at hlk
        simp only [hj] at hlkD
        have HJ := Lib.hid hj; have HL := Lib.hid hL
        clear hj hL hsk
        by_cases hjL : j < L
        · obtain ⟨x, hx⟩ : ∃ x, (g k)[j]? = some x := ⟨_, List.getElem?_eq_getElem (by rw [HL.out]; exact hjL)⟩
          have hxn : x < n := HG.out k x (List.mem_of_getElem? hx)
          have hat : ∃ xb xo, ad = some ⟨xb, xo, none⟩ ∧ xb < wr.heap.size ∧ wr.cell? ⟨xb, xo + j, none⟩ = some (.int .i64 (x : Int)) := by
            obtain ⟨a', c', e, _, _, hc⟩ := hcell
            injection e with e _ _
            subst e
            exact hc.at_ (by unfold iV; rw [List.getElem?_map, hx]; rfl)
          obtain ⟨xb, xo, hxa, hxl, hxc⟩ := hat
          subst hxa
          have HX := Lib.hid hx
          clear hx hcell
          go_wp2_with fail
          go_quiet (fail)
          obtain ⟨nqa, hnqa⟩ : ∃ z, z = nq := ⟨_, rfl⟩
          rw [← hnqa]
          clear hnqa
          go_wp2_with fail
          go_quiet (fail)
          obtain ⟨w4, hw4⟩ : ∃ w4, w4 = (wr.drewN nqa).drewN nq := ⟨_, rfl⟩
          have hb4 : Below wr.heap.size wr w4 := by rw [hw4]; exact ⟨rfl, rfl, rfl, Nat.le_refl _, fun _ _ => rfl⟩
          have HK4 := Lib.hid (HK2.out.below hb4)
          have HB4 : Hid (Below B w w4) := Lib.hid (HT2.out.bel.trans (hb4.mono (by have := HK2.out.BW; have := HT2.out.bel.size; omega)))
          rw [← hw4]
          clear hw4 hb4 p0 pl ck gl hlk hlkD hxc hxl HK2
          obtain ⟨mc, mc', F, hF, hmc, hmc', hset⟩ := HK4.out.nm.set (k := k) hkn (by omega) (j + 1)
          have hlk := HK4.out.nm.look (k := k) (by omega)
          rw [HJ.out] at hlk
          have HSET := Lib.hid hset; have HF := Lib.hid hF
          rw [show ((j + 1 : Nat) : Int) = (j : Int) + 1 from by omega] at HSET
          clear hset hF
          go_wp2_with (at_mapUpdate; refine wpList_msetn rfl (.tmp 48) (.tmp 49) (.tmp 51) 91 rfl 3 (Maps.int_keyed Try.underlying3) Try.underlying91 rfl HF.out hmc _ (.int .i64 ((j : Int) + 1)) _ rfl rfl (keyN k (by omega)) _ hmc' ?_)
          intro w5 hm5 hg5
          have HK5 := Lib.hid (HK4.out.map hg5 (HSET.out w5 hm5))
          have HB5 : Hid (Below B w w5) := Lib.hid (HB4.out.grown hg5 (Nat.le_trans HK4.out.BW HB4.out.size) (fun b hb => by injection hb with hb; have := HK4.out.BW; omega))
          clear hm5 hg5 hlk HF HSET hmc hmc' HK4 HB4
          have p1 : w5.cell? ⟨A.p, 1, none⟩ = some (.slice (some ⟨A.bm, 0, none⟩) n n) := HK5.out.wm.blk.cell 1
          have p4 : w5.cell? ⟨A.p, 4, none⟩ = some (.slice (some ⟨A.bo, 0, none⟩) n n) := HK5.out.wm.blk.cell 4
          have pl := HK5.out.wm.blk.lt
          have m1 := (HK5.out.wm.met.cell x).trans (tabI_get _ hxn)
          have ml := HK5.out.wm.met.lt
          have o1 := (HK5.out.wm.on.cell x).trans (tabB_get _ hxn)
          have ol := HK5.out.wm.on.lt
          by_cases hmx : s3.met x = 0
          · rw [hmx] at m1
            have hcl := HT2.out.ti.count_lt hxn hmx
            have HME := Lib.hid (meet_ok w5 G B A n g sl stk3 s3 HK5.out.wm x hxn HN0.out hcl (HT2.out.ti.stack_lt hxn hmx) (Nat.le_trans HK5.out.BW HB5.out.size))
            have HMX := Lib.hid hmx
            clear hmx
            go_wp2_with fail
            refine HME.out.mono ?_
            rintro e w6 ⟨rfl, ho6, stk6, hw6, hs6⟩
            have HK6 := Lib.hid (HK5.out.wf ho6 hw6 hs6)
            have HB6 : Hid (Below B w w6) := Lib.hid (HB5.out.trans (WF.below HK5.out.wm ho6 (Nat.le_trans HK5.out.BW HB5.out.size)))
            have hrow6 := HK6.out.row
            rw [hl1] at hrow6
            have HR6 := Lib.hid hrow6
            have hsz6 := HB6.out.size
            clear ho6 hw6 hs6 HK5 HB5 HME p1 p4 pl m1 ml o1 ol hrow6
            go_wp2_with (at_builtin; refine wpList_append_sep rfl (.tmp 63) (.tmp 65) 25 rfl w.heap.size 3 j0 (.int .i64 0) 1 8 Try.underlying25 hj0 yz0 yz1 yz2 rfl (by decide) _ (q + 1) _ rfl (HR6.out.alloc _) w6.heap.size 0 1 1 [.int .i64 (x : Int)] rfl rfl (lit_one _ _ _) (ones_int _) (by unfold maxLen; omega) (by omega) (by simp; omega) ?_)
            intro y7 w7 hown hg7 hsep
            have hal := (Below.refl w6.heap.size w6).alloc (Nat.le_refl _) (.cells #[.int .i64 (x : Int)] 3)
            have HK7 := Lib.hid ((HK6.out.below hal).way (wl' := ws ++ [k] ++ [x]) hg7 (by rw [iV_app, List.length_append, hl1]; exact hown) (by simpa using hsep))
            have HB7 : Hid (Below B w w7) := Lib.hid (((HB6.out.trans (hal.mono (Nat.le_trans HK6.out.BW hsz6))).grown hg7 (by simp; have := HK6.out.BW; omega) (fun b hb => by have := (HR6.out.lt b hb).1; have := HK6.out.BW; omega)))
            clear hown hg7 hsep hal HK6 HB6 HR6
            go_wp2_with fail
            go_roundg (2 * (n - (s3.meet x).count) + (ws ++ [k] ++ [x]).length)
            case measure =>
              have h1 := HM.out
              rw [hl1] at h1
              have h2 : (s3.meet x).count = s3.count + 1 := rfl
              have h3 := HC2.out; have h4 := HC0.out
              rw [List.length_append, hl1, h1, h2, h3]
              rw [h3] at hcl
              simp; omega
            case rel =>
              refine ⟨_, _, stk6, s3.meet x, rfl, HK7.out, HT2.out.ti.meetNext HG.out hxn HMX.out HJ.out HX.out, HB7.out, fun v hv => meet_mono (HT2.out.mono v hv), meet_mono HT2.out.fr, fup_le HT2.out.le (by rw [HL.out]; exact hjL)⟩
          · have hmz : ((s3.met x : Int) == 0) = false := by rw [beq_eq_false_iff_ne]; omega
            have HMX := Lib.hid hmx
            clear hmx
            cases ho : s3.on x with
            | false =>
              rw [ho] at o1
              have HON := Lib.hid ho
              clear ho
              go_wp2_with fail
              go_roundg (L - (j + 1))
              case measure => have := HM2.out; omega
              case rel => exact ⟨_, stk3, s3, by rw [fup_same, HL.out]; omega, rfl, HK5.out, ⟨HT2.out.ti.scanOff (by simp) HJ.out HX.out HMX.out HON.out, HB5.out, HT2.out.mono, HT2.out.fr, fup_le HT2.out.le (by rw [HL.out]; exact hjL)⟩, HC2.out⟩
            | true =>
              rw [ho] at o1
              have HON := Lib.hid ho
              have p2 : w5.cell? ⟨A.p, 2, none⟩ = some (.slice (some ⟨A.bl, 0, none⟩) n n) := HK5.out.wm.blk.cell 2
              have l1 := (HK5.out.wm.low.cell k).trans (tabI_get _ hkn)
              have fl := HK5.out.wm.low.frozen k
              have ll := HK5.out.wm.low.lt
              obtain ⟨lk, hlk⟩ : ∃ lk, s3.low k = lk := ⟨_, rfl⟩
              obtain ⟨mx, hmx2⟩ : ∃ mx, s3.met x = mx := ⟨_, rfl⟩
              rw [hlk] at l1
              rw [hmx2] at m1 hmz
              obtain ⟨mn, hmn⟩ : ∃ mn : Nat, (if mx < lk then (mx : Int) else (lk : Int)) = (mn : Int) := ⟨if mx < lk then mx else lk, by split <;> rfl⟩
              have HMN : Hid (min (s3.low k) (s3.met x) = mn) := Lib.hid (by rw [hlk, hmx2]; split at hmn <;> omega)
              clear ho hlk hmx2
              go_wp2_with fail
              go_region
              obtain ⟨w6, hw6⟩ : ∃ w6, w6 = (w5.setCell ⟨A.bl, k, none⟩ (.int .i64 (mn : Int))).drew := ⟨_, rfl⟩
              have ho6 : Only (WF A stk3) w5 w6 := by rw [hw6]; exact ((Only.refl _ _).setCell (p := ⟨A.bl, k, none⟩) (fun _ => .inr (.inr (.inl rfl))) _).drew
              have hk6 : WM w6 G B A n g sl stk3 (s3.lower k mn) := by rw [hw6]; exact (HK5.out.wm.setLow hkn mn).below (Below.refl _ _).drew
              have HK6 := Lib.hid (HK5.out.wf ho6 hk6 (.inl rfl))
              have HB6 : Hid (Below B w w6) := Lib.hid (HB5.out.trans (WF.below HK5.out.wm ho6 (Nat.le_trans HK5.out.BW HB5.out.size)))
              rw [← hw6]
              clear hw6 ho6 hk6 p1 p2 p4 pl m1 ml o1 ol l1 fl ll hmn hmz HK5 HB5
              go_wp2_with fail
              go_roundg (L - (j + 1))
              case measure => have := HM2.out; omega
              case rel => exact ⟨_, stk3, s3.lower k mn, by rw [fup_same, HL.out]; omega, rfl, HK6.out, ⟨by rw [← HMN.out]; exact HT2.out.ti.scanOn (by simp) HJ.out HX.out HMX.out HON.out, HB6.out, HT2.out.mono, HT2.out.fr, fup_le HT2.out.le (by rw [HL.out]; exact hjL)⟩, HC2.out⟩
        · have hjn : ¬ j < L := hjL
          have hf : (g k).length ≤ nx2 k := by rw [HL.out, HJ.out]; omega
          obtain ⟨pre, post, hst⟩ := List.append_of_mem (HT2.out.ti.wyI k (by simp))
          have hdone := HT2.out.ti.done HG.out hf hst
          have hnds := sorted_nodup HT2.out.ti.stS
          rw [hst] at hnds
          have hnd2 : (k :: post).Nodup := (List.nodup_append.1 hnds).2.1
          have hltn : ∀ v ∈ k :: post, v < n := fun v hv => (HT2.out.ti.stI v (by rw [hst]; exact List.mem_append.2 (.inr hv))).1
          have hcm := HT2.out.ti.comps_le
          have hsl := HT2.out.ti.stack_le
          obtain ⟨s4, hs4⟩ : ∃ s4, s4 = (if s3.low k < s3.met k then s3 else s3.pop pre (k :: post)) := ⟨_, rfl⟩
          have e1 : s4.low = s3.low := by rw [hs4]; split <;> rfl
          have e2 : s4.met = s3.met := by rw [hs4]; split <;> rfl
          have e3 : s4.count = s3.count := by rw [hs4]; split <;> rfl
          have HLV := Lib.hid (fun (W : World) (hW : WM W G B A n g sl stk3 s3) => leave_ok W G B A n g sl stk3 s3 hW k hkn HN0.out pre post hst hnd2 hltn (Nat.le_trans hsl HN0.out) (Nat.le_trans hcm HN0.out))
          rw [← hs4] at HLV hdone
          have HE1 := Lib.hid e1; have HE2 := Lib.hid e2; have HE3 := Lib.hid e3; have HD := Lib.hid hdone
          clear hdone hnds hnd2 hltn hcm hsl hs4 e1 e2 e3 hst hcell hf
          go_wp2_with fail
          go_quiet (fail)
          obtain ⟨w5, hw5⟩ : ∃ w5, w5 = wr.drewN nq := ⟨_, rfl⟩
          have hb5 : Below wr.heap.size wr w5 := by rw [hw5]; exact ⟨rfl, rfl, rfl, Nat.le_refl _, fun _ _ => rfl⟩
          have HK5 := Lib.hid (HK2.out.below hb5)
          have HB5 : Hid (Below B w w5) := Lib.hid (HT2.out.bel.trans (hb5.mono (by have := HK2.out.BW; have := HT2.out.bel.size; omega)))
          rw [← hw5]
          clear hw5 hb5 p0 pl ck gl hlk hlkD HK2
          have HLV2 := Lib.hid (HLV.out w5 HK5.out.wm)
          clear HLV
          go_wp2_with fail
          refine HLV2.out.mono ?_
          rintro e w6 ⟨rfl, ho6, stk6, hw6, hs6⟩
          have HK6 := Lib.hid ((HK5.out.wf ho6 hw6 (.inl hs6)).pop HQ.out)
          have HB6 : Hid (Below B w w6) := Lib.hid (HB5.out.trans (WF.below HK5.out.wm ho6 (Nat.le_trans HK5.out.BW HB5.out.size)))
          clear ho6 hw6 hs6 HK5 HB5 HLV2
          by_cases hws : ws = []
          · subst hws
            have hq0 : q = 0 := HQ.out.symm
            subst hq0
            go_wp2_with fail
            go_roundg (2 * (n - s4.count))
            case measure =>
              have h1 := HM.out; have h3 := HC2.out; have h4 := HC0.out; have h5 := HE3.out
              rw [hl1] at h1
              rw [h5]; omega
            case rel => exact ⟨[], nx2, stk6, s4, by simp, HK6.out, ⟨HD.out, HB6.out, fun v hv => by rw [HE2.out]; exact HT2.out.mono v hv, by rw [HE2.out]; exact HT2.out.fr, HT2.out.le⟩⟩
          · obtain ⟨us, u, hwu⟩ : ∃ us u, ws = us ++ [u] := ⟨ws.dropLast, ws.getLast hws, (List.dropLast_concat_getLast hws).symm⟩
            subst hwu
            obtain ⟨q1, hq1⟩ : ∃ q1, us.length = q1 := ⟨_, rfl⟩
            have hqq : q = q1 + 1 := by have := HQ.out; rw [List.length_append, hq1] at this; exact this.symm
            subst hqq
            have hrow := HK6.out.row
            rw [List.length_append, hq1, iV_app] at hrow
            have htop : w6.cell? ⟨b, q1, none⟩ = some (.int .i64 (u : Int)) := own_top hrow (by rw [iV_len]; exact hq1)
            have hbl : b < w6.heap.size := (hrow.lt b rfl).2
            have hun : u < n := (HT2.out.ti.stI u (HT2.out.ti.wyI u (by simp))).1
            have p2 : w6.cell? ⟨A.p, 2, none⟩ = some (.slice (some ⟨A.bl, 0, none⟩) n n) := HK6.out.wm.blk.cell 2
            have pl := HK6.out.wm.blk.lt
            have lu1 := (HK6.out.wm.low.cell u).trans (tabI_get _ hun)
            have lk1 := (HK6.out.wm.low.cell k).trans (tabI_get _ hkn)
            have fl := HK6.out.wm.low.frozen u
            have ll := HK6.out.wm.low.lt
            obtain ⟨lk, hlk⟩ : ∃ lk, s4.low k = lk := ⟨_, rfl⟩
            obtain ⟨lu, hlu⟩ : ∃ lu, s4.low u = lu := ⟨_, rfl⟩
            rw [hlk] at lk1
            rw [hlu] at lu1
            obtain ⟨mn, hmn⟩ : ∃ mn : Nat, (if lk < lu then (lk : Int) else (lu : Int)) = (mn : Int) := ⟨if lk < lu then lk else lu, by split <;> rfl⟩
            have hmin : min (s4.low u) (s4.low k) = mn := by rw [hlk, hlu]; split at hmn <;> omega
            have HD2 : Hid (TI g n (s4.lower u mn) (us ++ [u]) nx2) := Lib.hid (by
              have h := HD.out
              unfold CP.TS.upd at h
              rw [List.getLast?_concat] at h
              simp only at h
              rw [hmin] at h
              exact h)
            clear hlk hlu hmin hq1 hrow hws
            go_wp2_with fail
            go_region
            obtain ⟨w7, hw7⟩ : ∃ w7, w7 = (w6.setCell ⟨A.bl, u, none⟩ (.int .i64 (mn : Int))).drew := ⟨_, rfl⟩
            have ho7 : Only (WF A stk6) w6 w7 := by rw [hw7]; exact ((Only.refl _ _).setCell (p := ⟨A.bl, u, none⟩) (fun _ => .inr (.inr (.inl rfl))) _).drew
            have hk7 : WM w7 G B A n g sl stk6 (s4.lower u mn) := by rw [hw7]; exact (HK6.out.wm.setLow hun mn).below (Below.refl _ _).drew
            have HK7 := Lib.hid (HK6.out.wf ho7 hk7 (.inl rfl))
            have HB7 : Hid (Below B w w7) := Lib.hid (HB6.out.trans (WF.below HK6.out.wm ho7 (Nat.le_trans HK6.out.BW HB6.out.size)))
            rw [← hw7]
            clear hw7 ho7 hk7 p2 pl lu1 lk1 fl ll hmn htop hbl HK6 HB6
            go_wp2_with fail
            go_roundg (2 * (n - s4.count) + (us ++ [u]).length)
            case measure =>
              have h1 := HM.out; have h3 := HC2.out; have h4 := HC0.out; have h5 := HE3.out; have h6 := HQ.out
              rw [hl1] at h1
              rw [h5]; omega
            case rel => exact ⟨us ++ [u], nx2, stk6, s4.lower u mn, rfl, HK7.out, ⟨HD2.out, HB7.out, fun v hv => by show s4.met v ≠ 0; rw [HE2.out]; exact HT2.out.mono v hv, by show s4.met fr ≠ 0; rw [HE2.out]; exact HT2.out.fr, HT2.out.le⟩⟩
end Go.Proofs.Ytbancojknahdgaa
