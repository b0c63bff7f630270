/- The reference's Put: its contract (under way). -/
import Derived.Test.YtdalnhhenahcjaaHashR
import Derived.Test.YtdalnhhenahcjaaApp
namespace Go.Proofs.Ytdalnhhenahcjaa
open Go.RowKit HP
theorem flat_length {α : Type} (f : α → List Value) (k : Nat) (hf : ∀ x, (f x).length = k) (l : List α) : (l.flatMap f).length = l.length * k := by
  induction l with
  | nil => simp
  | cons x t ih => rw [List.flatMap_cons, List.length_append, hf, ih, List.length_cons, Nat.add_mul]; omega
theorem keys_ones (l : List Key) : ∀ u ∈ l.flatMap keyCells, u.oneCell' = true := by
  intro u hu
  obtain ⟨x, _, hx⟩ := List.mem_flatMap.1 hu
  simp [keyCells] at hx
  rcases hx with rfl | rfl | rfl <;> rfl
theorem intV_ones (l : List (Key × Int)) : ∀ u ∈ intV l, u.oneCell' = true := by
  intro u hu
  obtain ⟨x, _, hx⟩ := List.mem_map.1 hu
  subst hx; rfl
def putLR (L : List (Key × Int)) (c : Key) (v : Int) : List (Key × Int) := dropL L c ++ [(c, v)]
def RPutPost (L : List (Key × Int)) (c : Key) (v : Int) (w : World) (e : Ending) (w' : World) : Prop :=
  (∃ ka va kc vc, e = .returned (.tuple #[.agg #[.slice ka (putLR L c v).length kc, .slice va (putLR L c v).length vc], .int .i64 0]) ∧ RT w' (putLR L c v) ka va) ∧ Below w.heap.size w w'
set_option maxRecDepth 100000 in
set_option maxHeartbeats 800000 in
theorem rput_ok (w : World) (L : List (Key × Int)) (hl : L.length ≤ 300) (ka va : Option Addr) (kc vc : Nat) (c : Key) (v : Int) (h : RT w L ka va) :
    Calls Try.prog 22 #[.agg #[.slice ka L.length kc, .slice va L.length vc], .agg #[.int .i64 c.1, .int .i64 c.2.1, .int .i64 c.2.2], .int .i64 v] w (RPutPost L c v w) := by
  have hB3 : ∀ o1 o2 o3, Below w.heap.size w (((w.alloc o1).alloc o2).alloc o3) := fun o1 o2 o3 => (((Below.refl _ _).alloc (Nat.le_refl _) _).alloc (by simp) _).alloc (by simp; omega) _
  have hal : ∀ o1 o2 o3, RT (((w.alloc o1).alloc o2).alloc o3) L ka va := fun o1 o2 o3 => h.below (hB3 o1 o2 o3)
  have HP0 := Lib.hid (fun W (hW : RT W L ka va) => place_ok W L hl ka va kc vc c hW)
  have HD0 := Lib.hid (fun W (hW : RT W L ka va) => rdrop_ok W L hl ka va kc vc c hW)
  have HAL := Lib.hid hal
  have HB3 := Lib.hid hB3
  have HR := Lib.hid h
  obtain ⟨N, hN⟩ : ∃ N, N = L.length := ⟨_, rfl⟩
  have HN := Lib.hid hN
  rw [← hN] at hl HP0 HD0 ⊢
  obtain ⟨q, hq⟩ : ∃ q, q = plc L c := ⟨_, rfl⟩
  have HQ := Lib.hid hq
  have d1 : decide (1048576 ≤ (N : Int)) = false := decide_eq_false (by omega)
  clear hN h hal hB3
  go_enter Try.func22, Try.ntmps22
  go_wp2_with fail
  refine (HP0.out _ (HAL.out _ _ _)).mono ?_
  rintro e w1 ⟨rfl, hb1⟩
  rw [← hq]
  have t0 : Blk w1 w.heap.size 43 #[.slice ka N kc, .slice va N vc] := (((Blk.new_ w 43 _).alloc_ _).alloc_ _).below hb1 (by simp; omega)
  have k0 : Blk w1 (w.heap.size + 1) 26 #[.int .i64 c.1, .int .i64 c.2.1, .int .i64 c.2.2] := by
    have hx := (Blk.new_ (w.alloc (.cells #[.slice ka N kc, .slice va N vc] 43)) 26 #[.int .i64 c.1, .int .i64 c.2.1, .int .i64 c.2.2]).alloc_ (.cells #[.slice none 0 0, .slice none 0 0] 43)
    have e2 : (w.alloc (.cells #[.slice ka N kc, .slice va N vc] 43)).heap.size = w.heap.size + 1 := by simp
    rw [e2] at hx
    exact hx.below hb1 (by simp)
  have r0 : Blk w1 (w.heap.size + 1 + 1) 43 #[.slice none 0 0, .slice none 0 0] := by
    have hx := Blk.new_ ((w.alloc (.cells #[.slice ka N kc, .slice va N vc] 43)).alloc (.cells #[.int .i64 c.1, .int .i64 c.2.1, .int .i64 c.2.2] 26)) 43 #[.slice none 0 0, .slice none 0 0]
    have e2 : ((w.alloc (.cells #[.slice ka N kc, .slice va N vc] 43)).alloc (.cells #[.int .i64 c.1, .int .i64 c.2.1, .int .i64 c.2.2] 26)).heap.size = w.heap.size + 1 + 1 := by simp
    rw [e2] at hx
    exact hx.below hb1 (by simp)
  have HB1 := Lib.hid ((HB3.out _ _ _).trans (hb1.mono (by simp; omega)))
  have HR1 := Lib.hid ((HAL.out _ _ _).below hb1)
  have q0 : w1.cell? ⟨w.heap.size, 0, none⟩ = some (.slice ka N kc) := t0.cell 0
  have q1 : w1.cell? ⟨w.heap.size, 1, none⟩ = some (.slice va N vc) := t0.cell 1
  have x0 : w1.cell? ⟨w.heap.size + 1, 0, none⟩ = some (.int .i64 c.1) := k0.cell 0
  have x1 : w1.cell? ⟨w.heap.size + 1, 1, none⟩ = some (.int .i64 c.2.1) := k0.cell 1
  have x2 : w1.cell? ⟨w.heap.size + 1, 2, none⟩ = some (.int .i64 c.2.2) := k0.cell 2
  have HT0 := Lib.hid t0; have HK0 := Lib.hid k0; have HR0 := Lib.hid r0
  have hsz1 : w.heap.size + 2 < w1.heap.size := by have := hb1.size; simp at this; omega
  obtain ⟨qb, hqb⟩ : ∃ qb : Bool, decide (q < 0) = qb := ⟨_, rfl⟩
  clear hb1 t0 k0 r0 hq
  cases qb
  all_goals
    go_wp2_with fail
    refine (HD0.out _ HR1.out).mono ?_
    rintro e w2 ⟨⟨ka', va', kc', vc', rfl, hrt⟩, hb2⟩
    have hx := HK0.out.below hb2 HK0.out.lt
    have y0 : w2.cell? ⟨w.heap.size + 1, 0, none⟩ = some (.int .i64 c.1) := hx.cell 0
    have y1 : w2.cell? ⟨w.heap.size + 1, 1, none⟩ = some (.int .i64 c.2.1) := hx.cell 1
    have y2 : w2.cell? ⟨w.heap.size + 1, 2, none⟩ = some (.int .i64 c.2.2) := hx.cell 2
    have hr := HR0.out.below hb2 HR0.out.lt
    have s0 : w2.cell? ⟨w.heap.size + 1 + 1, 0, none⟩ = some (.slice none 0 0) := hr.cell 0
    have s1 : w2.cell? ⟨w.heap.size + 1 + 1, 1, none⟩ = some (.slice none 0 0) := hr.cell 1
    have sf0 := hr.frozen 0
    have sf1 := hr.frozen 1
    have l2 : w.heap.size + 1 + 1 < w2.heap.size := hr.lt
    have HB2 := Lib.hid (HB1.out.trans (hb2.mono HB1.out.size))
    have HRT := Lib.hid hrt
    obtain ⟨M, hM⟩ : ∃ M, M = (dropL L c).length := ⟨_, rfl⟩
    have HM := Lib.hid hM
    rw [← hM]
    have hMl : M ≤ 300 := by
      rw [hM]; unfold dropL; have := List.length_eraseIdx_le L (fk L c); have := HN.out; omega
    have hx' := hx; have hr' := hr
    clear hb2 hx hr hrt hM x0 x1 x2 q0 q1
    obtain ⟨i0, hi0, hz0, hz1, hz2⟩ := info_parts info_key
    obtain ⟨j0, hj0, yz0, yz1, yz2⟩ := info_parts int_info
    have hwl : w.heap.size ≤ w2.heap.size := HB2.out.size
    have hkl : (((dropL L c).map (·.1)).flatMap keyCells).length = M * 3 := by rw [HM.out, flat_length _ 3 (fun _ => rfl), List.length_map]
    have hvl : (intV (dropL L c)).length = M * 1 := by unfold intV; rw [HM.out, List.length_map]; omega
    have HKL := Lib.hid hkl; have HVL := Lib.hid hvl
    have HX := Lib.hid hx'; have HRR := Lib.hid hr'
    clear hkl hvl hx' hr'
    go_wp2_with (at_builtin; refine wpList_append_src rfl (.tmp 29) (.tmp 31) 22 rfl w.heap.size 26 i0 (.agg #[.int .i64 0, .int .i64 0, .int .i64 0]) 3 24 Try.underlying22 hi0 hz0 hz1 hz2 rfl (by decide) (.slice none 0 0) 0 [] rfl (World.ownsRow_nil _ _ _ _) ka' M kc' (((dropL L c).map (·.1)).flatMap keyCells) rfl HKL.out (HRT.out.below ((Below.refl _ _).alloc (Nat.le_refl _) _)).keys (keys_ones _) (by unfold maxLen; omega) (by omega) (by simp; omega) ?_)
    intro v1 w4 hown hg _
    obtain ⟨oa1, oc1, rfl⟩ := own_shape hown
    have hnx : Blk w4 w2.heap.size 43 #[.slice ka' M kc', .slice va' M vc'] := (Blk.new_ _ _ _).grown hg (fun e => nomatch e)
    have hky := (HX.out.alloc_ (.cells #[.slice ka' M kc', .slice va' M vc'] 43)).grown hg (fun e => nomatch e)
    have hrr := (HRR.out.alloc_ (.cells #[.slice ka' M kc', .slice va' M vc'] 43)).grown hg (fun e => nomatch e)
    have HB4 := Lib.hid ((HB2.out.alloc hwl _).grown hg (by simp; omega) (fun j hj => nomatch hj))
    have HRT4 := Lib.hid ((HRT.out.below ((Below.refl _ _).alloc (Nat.le_refl _) (.cells #[.slice ka' M kc', .slice va' M vc'] 43))).below ((Below.refl _ _).grown hg (Nat.le_refl _) (fun j hj => nomatch hj)))
    have hw4 : w.heap.size ≤ w4.heap.size := HB4.out.size
    have n1 : w4.cell? ⟨w2.heap.size, 1, none⟩ = some (.slice va' M vc') := hnx.cell 1
    have HO1 := Lib.hid hown; have HKY := Lib.hid hky; have HR4 := Lib.hid hrr
    clear hown hg hnx hky hrr y0 y1 y2 s0 s1 sf0 sf1 hwl
    go_wp2_with (at_builtin; refine wpList_append_src rfl (.tmp 33) (.tmp 35) 41 rfl w.heap.size 3 j0 (.int .i64 0) 1 8 Try.underlying41 hj0 yz0 yz1 yz2 rfl (by decide) (.slice none 0 0) 0 [] rfl (World.ownsRow_nil _ _ _ _) va' M vc' (intV (dropL L c)) rfl HVL.out HRT4.out.vals (intV_ones _) (by unfold maxLen; omega) (by omega) (by omega) ?_)
    intro v2 w5 hown2 hg2 _
    obtain ⟨oa2, oc2, rfl⟩ := own_shape hown2
    have hky := HKY.out.grown hg2 (fun e => nomatch e)
    have hrr := HR4.out.grown hg2 (fun e => nomatch e)
    have HB5 := Lib.hid (HB4.out.grown hg2 hw4 (fun j hj => nomatch hj))
    have HO1b : Hid (w5.ownsRow w.heap.size 26 3 (.slice oa1 M oc1) M (((dropL L c).map (·.1)).flatMap keyCells)) := by
      refine Lib.hid ?_
      have := World.ownsRow.kept HO1.out hg2 (by by_cases h : (Value.slice oa1 M oc1).ownBlock = none; exact .inl h; exact .inr h)
      simpa using this
    have HO2 := Lib.hid hown2
    have hw5 : w.heap.size ≤ w5.heap.size := HB5.out.size
    have y0 : w5.cell? ⟨w.heap.size + 1, 0, none⟩ = some (.int .i64 c.1) := hky.cell 0
    have y1 : w5.cell? ⟨w.heap.size + 1, 1, none⟩ = some (.int .i64 c.2.1) := hky.cell 1
    have y2 : w5.cell? ⟨w.heap.size + 1, 2, none⟩ = some (.int .i64 c.2.2) := hky.cell 2
    have HR5 := Lib.hid hrr
    clear hown2 hg2 hky hrr n1 hw4
    go_wp2_with (at_builtin; refine wpList_append_src rfl (.tmp 37) (.tmp 39) 22 rfl w.heap.size 26 i0 (.agg #[.int .i64 0, .int .i64 0, .int .i64 0]) 3 24 Try.underlying22 hi0 hz0 hz1 hz2 rfl (by decide) (.slice oa1 M oc1) M _ rfl (HO1b.out.alloc _) (some ⟨w5.heap.size, 0, none⟩) 1 1 [.int .i64 c.1, .int .i64 c.2.1, .int .i64 c.2.2] rfl rfl (Cells.lit _ _ _) (key_ones _ _ _) (by unfold maxLen; omega) (by omega) (by simp; omega) ?_)
    intro v1' w6 hown3 hg3 _
    obtain ⟨oa3, oc3, rfl⟩ := own_shape hown3
    have hrr := (HR5.out.alloc_ (.cells #[.int .i64 c.1, .int .i64 c.2.1, .int .i64 c.2.2] 26)).grown hg3 (own_ne_blk HO1b.out HR5.out (by decide))
    have HB6 := Lib.hid ((HB5.out.alloc hw5 (.cells #[.int .i64 c.1, .int .i64 c.2.1, .int .i64 c.2.2] 26)).grown hg3 (by simp; omega) (fun j hj => (HO1b.out.lt j hj).1))
    have hO2 : w6.ownsRow w.heap.size 3 1 (.slice oa2 M oc2) M (intV (dropL L c)) := by simpa using World.ownsRow.kept (HO2.out.alloc (.cells #[.int .i64 c.1, .int .i64 c.2.1, .int .i64 c.2.2] 26)) hg3 (own_ne_own HO2.out HO1b.out (by decide))
    have HO2b := Lib.hid hO2
    have HO3 := Lib.hid hown3; have HR6 := Lib.hid hrr
    have hw6 : w.heap.size ≤ w6.heap.size := HB6.out.size
    clear hown3 hg3 hrr hO2 y0 y1 y2 hw5
    go_wp2_with (at_builtin; refine wpList_append_src rfl (.tmp 41) (.tmp 43) 41 rfl w.heap.size 3 j0 (.int .i64 0) 1 8 Try.underlying41 hj0 yz0 yz1 yz2 rfl (by decide) (.slice oa2 M oc2) M _ rfl (HO2b.out.alloc _) (some ⟨w6.heap.size, 0, none⟩) 1 1 [.int .i64 v] rfl rfl (Cells.lit _ _ _) (int_ones _) (by unfold maxLen; omega) (by omega) (by simp; omega) ?_)
    intro v2' w7 hown4 hg4 _
    obtain ⟨oa4, oc4, rfl⟩ := own_shape hown4
    have hrr := (HR6.out.alloc_ (.cells #[.int .i64 v] 3)).grown hg4 (own_ne_blk HO2b.out HR6.out (by decide))
    have HB7 := Lib.hid ((HB6.out.alloc hw6 (.cells #[.int .i64 v] 3)).grown hg4 (by simp; omega) (fun j hj => (HO2b.out.lt j hj).1))
    have hO3 : w7.ownsRow w.heap.size 26 3 (.slice oa3 (M + 1) oc3) (M + 1) ((((dropL L c).map (·.1)).flatMap keyCells) ++ [.int .i64 c.1, .int .i64 c.2.1, .int .i64 c.2.2]) := by simpa using World.ownsRow.kept (HO3.out.alloc (.cells #[.int .i64 v] 3)) hg4 (own_ne_own HO3.out HO2b.out (by decide))
    have r0 : w7.cell? ⟨w.heap.size + 1 + 1, 0, none⟩ = some (.slice none 0 0) := hrr.cell 0
    have r1 : w7.cell? ⟨w.heap.size + 1 + 1, 1, none⟩ = some (.slice none 0 0) := hrr.cell 1
    have rf0 := hrr.frozen 0
    have rf1 := hrr.frozen 1
    have l7 : w.heap.size + 1 + 1 < w7.heap.size := hrr.lt
    have HO4 := Lib.hid hown4; have HO3b := Lib.hid hO3; have HR7 := Lib.hid hrr
    clear hown4 hg4 hrr hO3 hw6
    go_wp2_with fail
    refine bodyPost_ret (v := .tuple #[.agg #[.slice oa3 (M + 1) oc3, .slice oa4 (M + 1) oc4], .int .i64 0]) ?_ rfl ⟨⟨oa3, oa4, oc3, oc4, ?_, ?_⟩, ?_⟩
    · rw [results_cell_tmp rfl]; go_simp
    · have e : (putLR L c v).length = M + 1 := by unfold putLR; rw [HM.out, List.length_append, List.length_singleton]
      rw [e]
    · have e1 := own_ne_blk HO3b.out HR7.out (by decide)
      have e2 := own_ne_blk HO4.out HR7.out (by decide)
      have c1 := (own_keep HO3b.out (w' := (w7.setCell ⟨w.heap.size + 1 + 1, 0, none⟩ (.slice oa3 (M + 1) oc3)).setCell ⟨w.heap.size + 1 + 1, 1, none⟩ (.slice oa4 (M + 1) oc4)) fun g hg => by
        have hne : g ≠ w.heap.size + 1 + 1 := fun he => e1 (by rw [hg, he])
        exact (Below.heap_setCell _ _ _ _ hne).trans (Below.heap_setCell _ _ _ _ hne))
      have c2 := (own_keep HO4.out (w' := (w7.setCell ⟨w.heap.size + 1 + 1, 0, none⟩ (.slice oa3 (M + 1) oc3)).setCell ⟨w.heap.size + 1 + 1, 1, none⟩ (.slice oa4 (M + 1) oc4)) fun g hg => by
        have hne : g ≠ w.heap.size + 1 + 1 := fun he => e2 (by rw [hg, he])
        exact (Below.heap_setCell _ _ _ _ hne).trans (Below.heap_setCell _ _ _ _ hne))
      refine ⟨own_tb c1, own_tb c2, ?_, ?_⟩
      · simpa [putLR, keyCells] using rt_cells c1
      · simpa [putLR, intV] using rt_cells c2
    · exact (HB7.out.setCell (by show w.heap.size ≤ w.heap.size + 1 + 1; omega) _).setCell (by show w.heap.size ≤ w.heap.size + 1 + 1; omega) _
end Go.Proofs.Ytdalnhhenahcjaa
