/- The table of layer 2 in memory (HashAt), and the contracts of New, given, Len, Get, Drop, Clear. -/
import Derived.Test.YtdalnhhenahcjaaHashA
namespace Go.Proofs.Ytdalnhhenahcjaa
open Go.RowKit HP

/-- block p is a table, its places lie in block g: it has the keys of M, n of them -/
structure HashIn (w : World) (p g j u : Nat) (L : Nat → Pl) (M : Key → Option Int) (n : Nat) : Prop where
  ne : p ≠ g
  lo : 4 ≤ j
  hi : j ≤ 22
  tab : Blk w p 54 #[.slice (some ⟨g, 0, none⟩) (2 ^ j) (2 ^ j), .int .i64 (n : Int), .int .i64 (u : Int)]
  pls : Places w g (2 ^ j) L
  inv : HP.Inv (st (2 ^ j)) L (2 ^ j)
  rep : Rep L (2 ^ j) M
  cf : cntB (full L) (2 ^ j) = n
  ct : cntB (taken L) (2 ^ j) = u
  lt : u < 2 ^ j
  most : n ≤ 1048576
def HashAt (w : World) (p g : Nat) (M : Key → Option Int) (n : Nat) : Prop := ∃ j u L, HashIn w p g j u L M n
theorem pow_lo (j : Nat) (h : 4 ≤ j) : 16 ≤ 2 ^ j := by have := Nat.pow_le_pow_right (n := 2) (by decide) h; simpa using this
theorem pow_hi (j : Nat) (h : j ≤ 22) : 2 ^ j ≤ 4194304 := by have := Nat.pow_le_pow_right (n := 2) (by decide) h; simpa using this
theorem HashIn.lts {w : World} {p g j u : Nat} {L : Nat → Pl} {M : Key → Option Int} {n : Nat} (h : HashIn w p g j u L M n) : p < w.heap.size ∧ g < w.heap.size := ⟨h.tab.lt, h.pls.lt⟩
theorem HashIn.keep {w w' : World} {p g j u : Nat} {L : Nat → Pl} {M : Key → Option Int} {n : Nat} (h : HashIn w p g j u L M n) (hp : w'.heap[p]? = w.heap[p]?) (hg : w'.heap[g]? = w.heap[g]?) : HashIn w' p g j u L M n :=
  { h with tab := hp.trans h.tab, pls := h.pls.keep hg }
theorem HashIn.below {w w' : World} {p g j u : Nat} {L : Nat → Pl} {M : Key → Option Int} {n : Nat} (h : HashIn w p g j u L M n) (hb : Below w.heap.size w w') : HashIn w' p g j u L M n :=
  h.keep (hb.block p h.lts.1) (hb.block g h.lts.2)
theorem HashAt.lts {w : World} {p g : Nat} {M : Key → Option Int} {n : Nat} (h : HashAt w p g M n) : p < w.heap.size ∧ g < w.heap.size := by obtain ⟨j, u, L, h⟩ := h; exact h.lts
theorem HashAt.ne {w : World} {p g : Nat} {M : Key → Option Int} {n : Nat} (h : HashAt w p g M n) : p ≠ g := by obtain ⟨j, u, L, h⟩ := h; exact h.ne
theorem HashAt.keep {w w' : World} {p g : Nat} {M : Key → Option Int} {n : Nat} (h : HashAt w p g M n) (hp : w'.heap[p]? = w.heap[p]?) (hg : w'.heap[g]? = w.heap[g]?) : HashAt w' p g M n := by
  obtain ⟨j, u, L, h⟩ := h; exact ⟨j, u, L, h.keep hp hg⟩
theorem HashAt.below {w w' : World} {p g : Nat} {M : Key → Option Int} {n : Nat} (h : HashAt w p g M n) (hb : Below w.heap.size w w') : HashAt w' p g M n := by
  obtain ⟨j, u, L, h⟩ := h; exact ⟨j, u, L, h.below hb⟩
theorem HashAt.only {w w' : World} {p g : Nat} {M : Key → Option Int} {n : Nat} {F : Nat → Prop} (h : HashAt w p g M n) (hb : Only F w w') (hp : ¬ F p) (hg : ¬ F g) : HashAt w' p g M n :=
  h.keep (hb.block p h.lts.1 hp) (hb.block g h.lts.2 hg)

/-! ### given, Len -/
theorem given_yes (w : World) (p g N : Nat) (x y : Value) (hN : 16 ≤ N) (hp : Blk w p 54 #[.slice (some ⟨g, 0, none⟩) N N, x, y]) :
    Calls Try.prog 44 #[.pointer (some ⟨p, 0, none⟩)] w fun e w' => e = .returned (.bool true) ∧ w = w' := by
  have hp0 := hp.cell 0
  have hplt := hp.lt
  have hpos : decide (0 < N) = true := decide_eq_true (by omega)
  simp only [List.getElem?_toArray, List.getElem?_cons_zero] at hp0
  go_enter Try.func44, Try.ntmps44
  go_wp2
  go_ret
  exact ⟨rfl, rfl⟩
theorem given_nil (w : World) : Calls Try.prog 44 #[.pointer none] w fun e w' => e = .returned (.bool false) ∧ w = w' := by
  go_enter Try.func44, Try.ntmps44
  go_wp2
  go_ret
  exact ⟨rfl, rfl⟩
theorem given_zero (w : World) (p : Nat) (x y : Value) (hp : Blk w p 54 #[.slice none 0 0, x, y]) :
    Calls Try.prog 44 #[.pointer (some ⟨p, 0, none⟩)] w fun e w' => e = .returned (.bool false) ∧ w = w' := by
  have hp0 := hp.cell 0
  have hplt := hp.lt
  simp only [List.getElem?_toArray, List.getElem?_cons_zero] at hp0
  go_enter Try.func44, Try.ntmps44
  go_wp2
  go_ret
  exact ⟨rfl, rfl⟩
theorem HashAt.given_ {w : World} {p g : Nat} {M : Key → Option Int} {n : Nat} (h : HashAt w p g M n) : Calls Try.prog 44 #[.pointer (some ⟨p, 0, none⟩)] w fun e w' => e = .returned (.bool true) ∧ w = w' := by
  obtain ⟨j, u, L, h⟩ := h
  exact given_yes w p g _ _ _ (pow_lo j h.lo) h.tab
theorem len_ok (w : World) (p g : Nat) (M : Key → Option Int) (n : Nat) (h : HashAt w p g M n) :
    Calls Try.prog 19 #[.pointer (some ⟨p, 0, none⟩)] w fun e w' => e = .returned (.int .i64 (n : Int)) ∧ w = w' := by
  obtain ⟨j, u, L, h'⟩ := h
  have hp1 := h'.tab.cell 1
  have hplt := h'.tab.lt
  have hg := given_yes w p g _ _ _ (pow_lo j h'.lo) h'.tab
  simp only [List.getElem?_toArray, List.getElem?_cons_zero, List.getElem?_cons_succ] at hp1
  have HG := Lib.hid hg; clear hg h'
  go_enter Try.func19, Try.ntmps19
  go_wp2_with (go_at_call 44; refine HG.out.mono ?_; rintro e w' ⟨rfl, rfl⟩)
  go_ret
  exact ⟨rfl, rfl⟩

/-! ### Get -/
def getV (M : Key → Option Int) (c : Key) : Int := (M c).getD 0
def getE (M : Key → Option Int) (c : Key) : Int := if (M c).isSome then 0 else 3
set_option maxHeartbeats 400000 in
theorem get_ok (w : World) (p g : Nat) (M : Key → Option Int) (n : Nat) (c : Key) (h : HashAt w p g M n) :
    Calls Try.prog 18 #[.pointer (some ⟨p, 0, none⟩), .agg #[.int .i64 c.1, .int .i64 c.2.1, .int .i64 c.2.2]] w fun e w' => e = .returned (.tuple #[.int .i64 (getV M c), .int .i64 (getE M c)]) ∧ Below w.heap.size w w' := by
  obtain ⟨j, u, L, h'⟩ := h
  have hN := pow_lo j h'.lo
  have hN2 := pow_hi j h'.hi
  have H := Lib.hid h'; clear h'
  go_enter Try.func18, Try.ntmps18
  go_wp2_with fail
  have hal : HashIn _ p g j u L M n := H.out.below ((Below.refl w.heap.size w).alloc (Nat.le_refl _) (.cells #[.int .i64 c.1, .int .i64 c.2.1, .int .i64 c.2.2] 26))
  refine (given_yes _ p g _ _ _ hN hal.tab).mono ?_
  rintro e w' ⟨rfl, rfl⟩
  have HA := Lib.hid hal; clear hal
  go_wp2_with fail
  refine (find_ok p g (2 ^ j) j _ _ L c _ rfl HA.out.hi hN HA.out.tab HA.out.pls HA.out.inv (empty_of (by rw [HA.out.ct]; exact HA.out.lt))).mono ?_
  rintro e w1 ⟨k, b, rfl, hf, hb1⟩
  have h1 := HA.out.below hb1
  have hbel : Below w.heap.size w w1 := ((Below.refl _ _).alloc (Nat.le_refl _) _).trans (hb1.mono (by simp))
  have hkl := hf.lt
  have hp0 := h1.tab.cell 0
  have hplt := h1.tab.lt
  have hglt := h1.pls.lt
  obtain ⟨q0, q1, q2, q3, q4⟩ := h1.pls.at_ hkl
  simp only [List.getElem?_toArray, List.getElem?_cons_zero] at hp0
  have HF := Lib.hid hf; have HR := Lib.hid h1.rep; clear hf h1 hb1
  cases b
  · have hv : getV M c = 0 ∧ getE M c = 3 := by unfold getV getE; rw [(HF.out.has HR.out).2 rfl]; exact ⟨rfl, rfl⟩
    have HV := Lib.hid hv; clear hv
    go_wp2
    go_ret2
    exact ⟨ret_int2 HV.out.1.symm HV.out.2.symm, hbel⟩
  · have hv : getV M c = (L k).v ∧ getE M c = 0 := by unfold getV getE; rw [(HF.out.has HR.out).1 rfl]; exact ⟨rfl, rfl⟩
    have HV := Lib.hid hv; clear hv
    go_wp2
    go_ret2
    exact ⟨ret_int2 HV.out.1.symm HV.out.2.symm, hbel⟩

/-! ### storing a place -/
def storePl (w : World) (g k : Nat) (x : Pl) : World := ((((w.setCell ⟨g, k * 5, none⟩ (.int .i64 x.how)).setCell ⟨g, k * 5 + 1, none⟩ (.int .i64 x.key.1)).setCell ⟨g, k * 5 + 2, none⟩ (.int .i64 x.key.2.1)).setCell ⟨g, k * 5 + 3, none⟩ (.int .i64 x.key.2.2)).setCell ⟨g, k * 5 + 4, none⟩ (.int .i64 x.v)
theorem Places.store {w : World} {g N : Nat} {L : Nat → Pl} (h : Places w g N L) {k : Nat} (hk : k < N) (x : Pl) : Places (storePl w g k x) g N (upd L k x) := by
  obtain ⟨cs, hb, hs, hc⟩ := h
  refine ⟨_, ((((hb.set_ (k * 5) _).set_ (k * 5 + 1) _).set_ (k * 5 + 2) _).set_ (k * 5 + 3) _).set_ (k * 5 + 4) _, by simpa using hs, fun i hi => ?_⟩
  by_cases e : i = k
  · subst e
    rw [upd_same]
    simp only [Array.getElem?_setIfInBounds, Array.size_setIfInBounds, hs]
    refine ⟨?_, ?_, ?_, ?_, ?_⟩
    · rw [if_neg (by omega), if_neg (by omega), if_neg (by omega), if_neg (by omega), if_pos trivial, if_pos (by omega)]
    · rw [if_neg (by omega), if_neg (by omega), if_neg (by omega), if_pos trivial, if_pos (by omega)]
    · rw [if_neg (by omega), if_neg (by omega), if_pos trivial, if_pos (by omega)]
    · rw [if_neg (by omega), if_pos trivial, if_pos (by omega)]
    · rw [if_pos trivial, if_pos (by omega)]
  · rw [upd_other _ _ _ _ e]
    obtain ⟨h0, h1, h2, h3, h4⟩ := hc i hi
    simp only [Array.getElem?_setIfInBounds]
    refine ⟨?_, ?_, ?_, ?_, ?_⟩ <;> rw [if_neg (by omega), if_neg (by omega), if_neg (by omega), if_neg (by omega), if_neg (by omega)] <;> assumption
theorem storePl_block (w : World) (g k : Nat) (x : Pl) (i : Nat) (hi : i ≠ g) : (storePl w g k x).heap[i]? = w.heap[i]? := by
  unfold storePl
  rw [Below.heap_setCell _ _ _ _ hi, Below.heap_setCell _ _ _ _ hi, Below.heap_setCell _ _ _ _ hi, Below.heap_setCell _ _ _ _ hi, Below.heap_setCell _ _ _ _ hi]
theorem storePl_only (w : World) (g k : Nat) (x : Pl) : Only (fun i => i = g) w (storePl w g k x) := by
  have h0 : ∀ (v : World) (h : Only (fun i => i = g) w v) (o : Nat) (u : Value), Only (fun i => i = g) w (v.setCell ⟨g, o, none⟩ u) := fun v h o u => h.setCell (p := ⟨g, o, none⟩) (fun _ => rfl) u
  exact h0 _ (h0 _ (h0 _ (h0 _ (h0 _ (Only.refl _ w) _ _) _ _) _ _) _ _) _ _
theorem Places.frozen {w : World} {g N : Nat} {L : Nat → Pl} (h : Places w g N L) (i : Nat) : w.frozen? ⟨g, i, none⟩ = false := by
  obtain ⟨cs, hb, _⟩ := h; exact hb.frozen i

/-! ### Drop -/
/-- what a call that changes the table leaves -/
def DropPost (p g : Nat) (M : Key → Option Int) (n : Nat) (c : Key) (w : World) (e : Ending) (w' : World) : Prop :=
  e = .returned (.bool (M c).isSome) ∧ HashAt w' p g (setK M c none) (if (M c).isSome then n - 1 else n) ∧ Only (fun i => i = p ∨ i = g) w w'
set_option maxHeartbeats 1000000 in
theorem drop_ok (w : World) (p g : Nat) (M : Key → Option Int) (n : Nat) (c : Key) (h : HashAt w p g M n) :
    Calls Try.prog 21 #[.pointer (some ⟨p, 0, none⟩), .agg #[.int .i64 c.1, .int .i64 c.2.1, .int .i64 c.2.2]] w (DropPost p g M n c w) := by
  obtain ⟨j, u, L, h'⟩ := h
  have hN := pow_lo j h'.lo
  have hN2 := pow_hi j h'.hi
  have H := Lib.hid h'; clear h'
  go_enter Try.func21, Try.ntmps21
  go_wp2_with fail
  have hal : HashIn _ p g j u L M n := H.out.below ((Below.refl w.heap.size w).alloc (Nat.le_refl _) (.cells #[.int .i64 c.1, .int .i64 c.2.1, .int .i64 c.2.2] 26))
  refine (given_yes _ p g _ _ _ hN hal.tab).mono ?_
  rintro e w' ⟨rfl, rfl⟩
  have HA := Lib.hid hal; clear hal
  go_wp2_with fail
  refine (find_ok p g (2 ^ j) j _ _ L c _ rfl HA.out.hi hN HA.out.tab HA.out.pls HA.out.inv (empty_of (by rw [HA.out.ct]; exact HA.out.lt))).mono ?_
  rintro e w1 ⟨k, b, rfl, hf, hb1⟩
  have h1 := HA.out.below hb1
  have hbel : Below w.heap.size w w1 := ((Below.refl _ _).alloc (Nat.le_refl _) _).trans (hb1.mono (by simp))
  have hkl := hf.lt
  have hplt := h1.tab.lt
  have hglt := h1.pls.lt
  have hne := h1.ne
  have HF := Lib.hid hf; have H1 := Lib.hid h1; clear hf h1 hb1
  cases b
  · have hv : M c = none := (HF.out.has H1.out.rep).2 rfl
    have HV := Lib.hid hv; clear hv
    go_wp2
    go_ret
    refine ⟨ret_bool (by rw [HV.out]; rfl), ?_, Only.of_below hbel (fun q hq hq2 => by omega)⟩
    rw [setK_same M c _ HV.out, HV.out]
    exact ⟨j, u, L, H1.out⟩
  · have hv : M c = some (L k).v := (HF.out.has H1.out.rep).1 rfl
    have HV := Lib.hid hv; clear hv
    have hp0 := H1.out.tab.cell 0
    have hp1 := H1.out.tab.cell 1
    have hfp := H1.out.tab.frozen 1
    obtain ⟨q0, q1, q2, q3, q4⟩ := H1.out.pls.at_ hkl
    have f0 := H1.out.pls.frozen (k * 5)
    have f1 := H1.out.pls.frozen (k * 5 + 1)
    have f2 := H1.out.pls.frozen (k * 5 + 2)
    have f3 := H1.out.pls.frozen (k * 5 + 3)
    have f4 := H1.out.pls.frozen (k * 5 + 4)
    have hn1 : 1 ≤ n ∧ n ≤ 1048576 := ⟨by have := cnt_full_drop HF.out ⟨2, (0, 0, 0), 0⟩ rfl; have := H1.out.cf; omega, H1.out.most⟩
    simp only [List.getElem?_toArray, List.getElem?_cons_zero, List.getElem?_cons_succ] at hp0 hp1
    go_wp2
    go_ret
    refine ⟨ret_bool (by rw [HV.out]; rfl), ?_, ?_⟩
    · rw [HV.out, if_pos (by rfl)]
      have t := (show Blk (storePl w1 g k ⟨2, (0, 0, 0), 0⟩) p _ _ from (storePl_block _ _ _ _ _ hne).trans H1.out.tab).set_ 1 (.int .i64 ((n : Int) - 1))
      have e : ((n - 1 : Nat) : Int) = (n : Int) - 1 := by omega
      refine ⟨j, u, upd L k ⟨2, (0, 0, 0), 0⟩, { ne := hne, lo := H1.out.lo, hi := H1.out.hi, tab := by rw [e]; simp at t; exact t, pls := (H1.out.pls.store hkl _).keep (Below.heap_setCell _ _ _ _ (fun h => hne h.symm)), inv := drop_inv H1.out.inv hkl _ rfl, rep := HF.out.rep_drop H1.out.inv H1.out.rep _ rfl, cf := ?_, ct := ?_, lt := H1.out.lt, most := by omega }⟩
      · have := cnt_full_drop HF.out ⟨2, (0, 0, 0), 0⟩ rfl; have := H1.out.cf; omega
      · rw [cnt_taken_drop HF.out ⟨2, (0, 0, 0), 0⟩ rfl]; exact H1.out.ct
    · refine Only.setCell (p := ⟨p, 1, none⟩) ?_ (fun _ => .inl rfl) _
      exact (Only.of_below (F := fun i => i = p ∨ i = g) hbel (fun q hq hq2 => by omega)).trans (storePl_only w1 g k ⟨2, (0, 0, 0), 0⟩) (fun i _ h => .inr h)

/-! ### a table of 16 empty places: New, Clear -/
def noPl : Pl := ⟨0, (0, 0, 0), 0⟩
def places0 : Array Value := #[.int .i64 0, .int .i64 0, .int .i64 0, .int .i64 0, .int .i64 0]
theorem place_info : (Try.prog.info? 96).map (fun i => (i.zero, i.size, i.bytes)) = some (some (.agg places0), 5, 40) := by kernel_rfl
theorem made_at (z : Array Value) (n i : Nat) (hz : 0 < z.size) (hi : i < n) : (madeCells z n)[i]? = z[i % z.size]? := by
  have h1 : i % z.size < z.size := Nat.mod_lt _ hz
  unfold madeCells
  rw [Array.getElem?_map, Array.getElem?_range, if_pos hi]
  simp [h1]
theorem Places.made {w : World} {g N : Nat} (h : Blk w g 96 (madeCells places0 (N * 5))) : Places w g N (fun _ => noPl) := by
  have hz : places0.size = 5 := rfl
  refine ⟨_, h, size_madeCells _ _, fun i hi => ?_⟩
  rw [made_at _ _ _ (by omega) (by omega), made_at _ _ _ (by omega) (by omega), made_at _ _ _ (by omega) (by omega), made_at _ _ _ (by omega) (by omega), made_at _ _ _ (by omega) (by omega), hz,
    show i * 5 % 5 = 0 by omega, show (i * 5 + 1) % 5 = 1 by omega, show (i * 5 + 2) % 5 = 2 by omega, show (i * 5 + 3) % 5 = 3 by omega, show (i * 5 + 4) % 5 = 4 by omega]
  exact ⟨rfl, rfl, rfl, rfl, rfl⟩
theorem made80 : ∀ w : World, (Instr.makeSlice 52 (.int .i64 16) (.int .i64 16)).run Try.prog w = .ok (.slice (some ⟨w.heap.size, 0, none⟩) 16 16) (w.alloc (.cells (madeCells places0 80) 96)) := fun w => by
  obtain ⟨i, hi, hz, h1, h2⟩ := info_parts place_info
  exact run_make_n (P := Try.prog) 52 96 i _ 5 40 Try.underlying52 hi hz h1 h2 .i64 .i64 16 16 (by omega) (by omega) (by omega) w
theorem HashAt.fresh {w : World} {p g : Nat} (hne : p ≠ g) (hp : Blk w p 54 #[.slice (some ⟨g, 0, none⟩) 16 16, .int .i64 0, .int .i64 0]) (hg : Blk w g 96 (madeCells places0 80)) : HashAt w p g (fun _ => none) 0 :=
  ⟨4, 0, fun _ => noPl, { ne := hne, lo := by omega, hi := by omega, tab := hp, pls := Places.made hg, inv := Inv.new _ (fun _ _ => rfl), rep := Rep.new (fun _ _ => rfl), cf := cntB_zero (fun _ _ => rfl), ct := cntB_zero (fun _ _ => rfl), lt := by decide, most := by omega }⟩

def NewPost (w : World) (e : Ending) (w' : World) : Prop := ∃ p g, e = .returned (.pointer (some ⟨p, 0, none⟩)) ∧ HashAt w' p g (fun _ => none) 0 ∧ Below w.heap.size w w' ∧ w.heap.size ≤ p ∧ w.heap.size ≤ g
set_option maxHeartbeats 400000 in
theorem new_ok (w : World) : Calls Try.prog 15 #[] w (NewPost w) := by
  have hmk := made80
  go_enter Try.func15, Try.ntmps15
  go_wp2
  go_ret
  have hg := (Blk.new_ w 96 (madeCells places0 80)).alloc_ (.cells #[.slice (some ⟨w.heap.size, 0, none⟩) 16 16, .int .i64 0, .int .i64 0] 54)
  have hp := Blk.new_ (w.alloc (.cells (madeCells places0 80) 96)) 54 #[.slice (some ⟨w.heap.size, 0, none⟩) 16 16, .int .i64 0, .int .i64 0]
  exact ⟨w.heap.size + 1, w.heap.size, rfl, HashAt.fresh (by omega) (by simpa using hp) hg, ((Below.refl _ _).alloc (Nat.le_refl _) _).alloc (by simp) _, by omega, Nat.le_refl _⟩

/-- what Clear leaves -/
def ClearPost (p g : Nat) (w : World) (e : Ending) (w' : World) : Prop := ∃ g', e = .returned (.int .i64 0) ∧ HashAt w' p g' (fun _ => none) 0 ∧ Only (fun i => i = p ∨ i = g) w w' ∧ (g' = g ∨ w.heap.size ≤ g')
set_option maxHeartbeats 400000 in
theorem clear_ok (w : World) (p g : Nat) (M : Key → Option Int) (n : Nat) (h : HashAt w p g M n) :
    Calls Try.prog 20 #[.pointer (some ⟨p, 0, none⟩)] w (ClearPost p g w) := by
  have hmk := made80
  have HG := Lib.hid h.given_
  obtain ⟨j, u, L, h'⟩ := h
  have hp0 := h'.tab.cell 0
  have hp1 := h'.tab.cell 1
  have hp2 := h'.tab.cell 2
  have hf0 := h'.tab.frozen 0
  have hf1 := h'.tab.frozen 1
  have hf2 := h'.tab.frozen 2
  have hplt := h'.tab.lt
  simp only [List.getElem?_toArray, List.getElem?_cons_zero, List.getElem?_cons_succ] at hp0 hp1 hp2
  have H := Lib.hid h'; clear h'
  go_enter Try.func20, Try.ntmps20
  go_wp2_with (go_at_call 44; refine HG.out.mono ?_; rintro e w' ⟨rfl, rfl⟩)
  go_ret
  have t := (((H.out.tab.set_ 0 (.slice (some ⟨w.heap.size, 0, none⟩) 16 16)).set_ 1 (.int .i64 0)).set_ 2 (.int .i64 0)).alloc_ (.cells (madeCells places0 80) 96)
  have hg := Blk.new_ (((w.setCell ⟨p, 0, none⟩ (.slice (some ⟨w.heap.size, 0, none⟩) 16 16)).setCell ⟨p, 1, none⟩ (.int .i64 0)).setCell ⟨p, 2, none⟩ (.int .i64 0)) 96 (madeCells places0 80)
  simp only [World.size_setCell] at hg
  simp at t
  refine ⟨w.heap.size, rfl, HashAt.fresh (by omega) t hg, ?_, .inr (Nat.le_refl _)⟩
  refine Only.alloc ?_ _
  refine Only.setCell (p := ⟨p, 2, none⟩) ?_ (fun _ => .inl rfl) _
  refine Only.setCell (p := ⟨p, 1, none⟩) ?_ (fun _ => .inl rfl) _
  exact Only.setCell (p := ⟨p, 0, none⟩) (Only.refl _ _) (fun _ => .inl rfl) _
end Go.Proofs.Ytdalnhhenahcjaa
