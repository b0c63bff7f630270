/- The reference's Drop: its contract. -/
import Derived.Test.YtdalnhhenahcjaaHashO
namespace Go.Proofs.Ytdalnhhenahcjaa
open Go.RowKit HP
def intV (l : List (Key × Int)) : List Value := l.map fun x => .int .i64 x.2
def RDropPost (L : List (Key × Int)) (c : Key) (w : World) (e : Ending) (w' : World) : Prop :=
  (∃ ka va kc vc, e = .returned (.tuple #[.agg #[.slice ka (dropL L c).length kc, .slice va (dropL L c).length vc], .bool (decide (fk L c < L.length))]) ∧ RT w' (dropL L c) ka va) ∧ Below w.heap.size w w'
theorem rt_cells {w : World} {base e size n cap : Nat} {a : Option Addr} {xs : List Value} (h : w.ownsRow base e size (.slice a n cap) n xs) : Cells w a xs := by
  obtain ⟨a', cap', he, hc⟩ := Cells.of_own h
  injection he with h1 _ _
  subst h1; exact hc.2.2
theorem own_tb {w : World} {base e size n : Nat} {a : Option Addr} {m cap : Nat} {xs : List Value} (h : w.ownsRow base e size (.slice a m cap) n xs) : TB w a e := fun b off s he => by
  rcases h.2 with ⟨h1, _⟩ | ⟨g, cap', cur, h1, _, hg, _⟩
  · injection h1 with h1 _ _; rw [h1] at he; cases he
  · injection h1 with h1 _ _; rw [h1] at he; injection he with he; injection he with he _ _; subst he; exact ⟨cur, hg⟩
theorem key_lits (w : World) (a b c : Int) : ∀ (j : Nat) (u : Value), [Value.int .i64 a, .int .i64 b, .int .i64 c][j]? = some u → (w.drew.alloc (.cells #[.int .i64 a, .int .i64 b, .int .i64 c] 26)).cell? ((⟨w.heap.size, 0, none⟩ : Addr).add j) = some u := by
  intro j u hj
  match j, hj with
  | 0, hj => simp at hj; subst hj; exact World.cell?_alloc_new ..
  | 1, hj => simp at hj; subst hj; exact World.cell?_alloc_new ..
  | 2, hj => simp at hj; subst hj; exact World.cell?_alloc_new ..
theorem key_ones (a b c : Int) : ∀ u ∈ [Value.int .i64 a, .int .i64 b, .int .i64 c], u.oneCell' = true := by
  intro u hu; simp at hu; rcases hu with rfl | rfl | rfl <;> rfl
theorem int_lits (w : World) (a : Int) : ∀ (j : Nat) (u : Value), [Value.int .i64 a][j]? = some u → (w.drew.alloc (.cells #[.int .i64 a] 3)).cell? ((⟨w.heap.size, 0, none⟩ : Addr).add j) = some u := by
  intro j u hj
  match j, hj with
  | 0, hj => simp at hj; subst hj; exact World.cell?_alloc_new ..
theorem int_ones (a : Int) : ∀ u ∈ [Value.int .i64 a], u.oneCell' = true := by
  intro u hu; simp at hu; subst hu; rfl
set_option maxRecDepth 100000 in
set_option maxHeartbeats 800000 in
theorem rdrop_ok (w : World) (L : List (Key × Int)) (hl : L.length ≤ 300) (ka va : Option Addr) (kc vc : Nat) (c : Key) (h : RT w L ka va) :
    Calls Try.prog 24 #[.agg #[.slice ka L.length kc, .slice va L.length vc], .agg #[.int .i64 c.1, .int .i64 c.2.1, .int .i64 c.2.2]] w (RDropPost L c w) := by
  have hB3 : ∀ o1 o2 o3, Below w.heap.size w (((w.alloc o1).alloc o2).alloc o3) := fun o1 o2 o3 => (((Below.refl _ _).alloc (Nat.le_refl _) _).alloc (by simp) _).alloc (by simp; omega) _
  have hal : ∀ o1 o2 o3, RT (((w.alloc o1).alloc o2).alloc o3) L ka va := fun o1 o2 o3 => h.below (hB3 o1 o2 o3)
  have HP0 := Lib.hid (fun W (hW : RT W L ka va) => place_ok W L hl ka va kc vc c hW)
  have HAL := Lib.hid hal
  have HB3 := Lib.hid hB3
  have HR := Lib.hid h
  obtain ⟨N, hN⟩ : ∃ N, N = L.length := ⟨_, rfl⟩
  have HN := Lib.hid hN
  rw [← hN] at hl HP0 ⊢
  obtain ⟨f, hf⟩ : ∃ f, f = fk L c := ⟨_, rfl⟩
  have HF := Lib.hid hf
  have hfl : f ≤ N := by rw [hf, hN]; exact fk_le L c
  clear hN h hal hf hB3
  by_cases hlt : f < N
  · have hpl : plc L c = (f : Int) := by unfold plc; rw [← HF.out, if_pos (by rw [← HN.out]; exact hlt)]
    have HPL := Lib.hid hpl
    clear hpl
    go_enter Try.func24, Try.ntmps24
    go_wp2_with fail
    refine (HP0.out _ (HAL.out _ _ _)).mono ?_
    rintro e w1 ⟨rfl, hb1⟩
    rw [HPL.out]
    have t0 : Blk w1 w.heap.size 43 #[.slice ka N kc, .slice va N vc] := (((Blk.new_ w 43 _).alloc_ _).alloc_ _).below hb1 (by simp; omega)
    have r0 : Blk w1 (w.heap.size + 1 + 1) 43 #[.slice none 0 0, .slice none 0 0] := by
      have hx := Blk.new_ ((w.alloc (.cells #[.slice ka N kc, .slice va N vc] 43)).alloc (.cells #[.int .i64 c.1, .int .i64 c.2.1, .int .i64 c.2.2] 26)) 43 #[.slice none 0 0, .slice none 0 0]
      have e2 : ((w.alloc (.cells #[.slice ka N kc, .slice va N vc] 43)).alloc (.cells #[.int .i64 c.1, .int .i64 c.2.1, .int .i64 c.2.2] 26)).heap.size = w.heap.size + 1 + 1 := by simp
      rw [e2] at hx
      exact hx.below hb1 (by simp)
    have HB1 := Lib.hid ((HB3.out _ _ _).trans (hb1.mono (by simp; omega)))
    have HT0 := Lib.hid t0; have HR0 := Lib.hid r0
    have hsz1 : w.heap.size + 2 < w1.heap.size := by have := hb1.size; simp at this; omega
    clear hb1 t0 r0
    go_wp2_with fail
    go_loopg [8] N (fun m x wr => ∃ (i : Nat) (v1 v2 : Value), m + i = N ∧ x = .int .i64 (i : Int) ∧ DR w w1 wr ka va N kc vc v1 v2 ((L.take i).eraseIdx f).length ((L.take i).eraseIdx f).length ((((L.take i).eraseIdx f).map (·.1)).flatMap keyCells) (intV ((L.take i).eraseIdx f)))
    case atStart =>
      refine ⟨0, .slice none 0 0, .slice none 0 0, rfl, rfl, hsz1, HT0.out.alloc_ _, HR0.out.alloc_ _, Blk.new_ _ _ _, ?_, ?_, HB1.out.alloc HB1.out.size _⟩
      · simpa using World.ownsRow_nil _ _ _ _
      · simpa [intV] using World.ownsRow_nil _ _ _ _
    case round =>
      obtain ⟨i, v1, v2, hmi, rfl, hD⟩ := hrel
      have HM := Lib.hid hmi; have HD := Lib.hid hD
      have q0 : wr.cell? ⟨w.heap.size, 0, none⟩ = some (.slice ka N kc) := hD.tab.cell 0
      have q1 : wr.cell? ⟨w.heap.size, 1, none⟩ = some (.slice va N vc) := hD.tab.cell 1
      have n0 : wr.cell? ⟨w1.heap.size, 0, none⟩ = some v1 := hD.new.cell 0
      have n1 : wr.cell? ⟨w1.heap.size, 1, none⟩ = some v2 := hD.new.cell 1
      have l1 : w1.heap.size < wr.heap.size := hD.new.lt
      have l0 : w.heap.size < wr.heap.size := hD.tab.lt
      by_cases hi : i < N
      · have hil : i < L.length := by rw [← HN.out]; exact hi
        have hstep := erase_take L f i hil
        obtain ⟨y, hy⟩ : ∃ y, y = L[i] := ⟨_, rfl⟩
        rw [← hy] at hstep
        obtain ⟨b, off, hka, hb, k0, k1, k2⟩ := HR.out.keys.key (i := i) (c := y.1) (by rw [List.getElem?_map, List.getElem?_eq_getElem hil, hy]; rfl)
        obtain ⟨b', off', hva, hb', u0⟩ := HR.out.vals.at_ (k := i) (v := .int .i64 y.2) (by rw [List.getElem?_map, List.getElem?_eq_getElem hil, hy]; rfl)
        subst hka hva
        have hB := hD.bel
        have m0 := (hB.cell (p := ⟨b, off + i * 3, none⟩) hb).trans k0
        have m1 := (hB.cell (p := ⟨b, off + i * 3 + 1, none⟩) hb).trans k1
        have m2 := (hB.cell (p := ⟨b, off + i * 3 + 2, none⟩) hb).trans k2
        have HU0 := Lib.hid u0
        have HB0' := Lib.hid hb'
        by_cases hif : i = f
        · rw [if_pos hif] at hstep
          have hd : ((i : Int) != (f : Int)) = false := by rw [bne_eq_false_iff_eq, hif]
          have HST := Lib.hid hstep
          clear k0 k1 k2 u0 hstep hy hif hmi hD hB hb hb' hil m0 m1 m2
          go_wp2_with fail
          go_roundg (N - (i + 1))
          case measure => have := HM.out; omega
          case rel => exact ⟨i + 1, v1, v2, by omega, by go_num, by rw [HST.out]; exact HD.out⟩
        · rw [if_neg hif] at hstep
          have hd : ((i : Int) != (f : Int)) = true := by rw [bne_iff_ne]; omega
          have HST := Lib.hid hstep
          have hgl : ((L.take i).eraseIdx f).length ≤ 300 := by
            have h1 := List.length_eraseIdx_le (L.take i) f
            rw [List.length_take] at h1; omega
          obtain ⟨i0, hi0, hz0, hz1, hz2⟩ := info_parts info_key
          obtain ⟨j0, hj0, yz0, yz1, yz2⟩ := info_parts int_info
          have hwsz : w.heap.size ≤ wr.heap.size := hB.size
          clear k0 k1 k2 u0 hstep hy hif hmi hD hB hb hb' hil
          go_wp2_with fail
          go_region_law (refine step_append_own rfl (.tmp 34) (.tmp 40) 22 rfl w.heap.size 26 i0 (.agg #[.int .i64 0, .int .i64 0, .int .i64 0]) 3 24 Try.underlying22 hi0 hz0 hz1 hz2 rfl (by decide) v1 _ _ (by simp [Act.eval]) (World.ownsRow.alloc (w := wr.drew) HD.out.own1 _) ⟨wr.heap.size, 0, none⟩ 1 1 [.int .i64 y.1.1, .int .i64 y.1.2.1, .int .i64 y.1.2.2] (by simp [Act.eval]) rfl (key_lits wr _ _ _) (key_ones _ _ _) (by unfold maxLen; omega) (by omega) (by simp; omega) ?_; intro v1' w2 hown2 hg2; obtain ⟨oa1, oc1, rfl⟩ := own_shape hown2; have hDD := HD.out.key _ hown2 hg2; have f0 : w2.cell? ⟨w1.heap.size, 0, none⟩ = some v1 := ((HD.out.new.drew_.alloc_ _).grown hg2 (own_ne_blk HD.out.own1 HD.out.new (by decide))).cell 0; have ff0 : w2.frozen? ⟨w1.heap.size, 0, none⟩ = false := ((HD.out.new.drew_.alloc_ _).grown hg2 (own_ne_blk HD.out.own1 HD.out.new (by decide))).frozen 0)
          all_goals
            have HDD := Lib.hid hDD
            generalize hw3 : (w2.setCell ⟨w1.heap.size, 0, none⟩ (.slice oa1 (((L.take i).eraseIdx f).length + 1) oc1)) = w3 at HDD ⊢
            clear hDD f0 ff0 hown2 hg2 q0 q1 n0 n1 l1 l0 m0 m1 m2 hw3
            have hDD := HDD.out
            have q0 : w3.cell? ⟨w.heap.size, 0, none⟩ = some (.slice (some ⟨b, off, none⟩) N kc) := hDD.tab.cell 0
            have q1 : w3.cell? ⟨w.heap.size, 1, none⟩ = some (.slice (some ⟨b', off', none⟩) N vc) := hDD.tab.cell 1
            have n1 : w3.cell? ⟨w1.heap.size, 1, none⟩ = some v2 := hDD.new.cell 1
            have l1 : w1.heap.size < w3.heap.size := hDD.new.lt
            have l0 : w.heap.size < w3.heap.size := hDD.tab.lt
            have hwsz3 : w.heap.size ≤ w3.heap.size := hDD.bel.size
            have m3 := (hDD.bel.cell (p := ⟨b', off' + i, none⟩) HB0'.out).trans HU0.out
            clear hDD
            go_wp2_with fail
            go_region_law (refine step_append_own rfl (.tmp 44) (.tmp 50) 41 rfl w.heap.size 3 j0 (.int .i64 0) 1 8 Try.underlying41 hj0 yz0 yz1 yz2 rfl (by decide) v2 _ _ (by simp [Act.eval]) (World.ownsRow.alloc (w := w3.drew) HDD.out.own2 _) ⟨w3.heap.size, 0, none⟩ 1 1 [.int .i64 y.2] (by simp [Act.eval]) rfl (int_lits w3 _) (int_ones _) (by unfold maxLen; omega) (by omega) (by simp; omega) ?_; intro v2' w4 hown4 hg4; obtain ⟨oa2, oc2, rfl⟩ := own_shape hown4; have hDE := HDD.out.val _ hown4 hg4; have f1 : w4.cell? ⟨w1.heap.size, 1, none⟩ = some v2 := ((HDD.out.new.drew_.alloc_ _).grown hg4 (own_ne_blk HDD.out.own2 HDD.out.new (by decide))).cell 1; have ff1 : w4.frozen? ⟨w1.heap.size, 1, none⟩ = false := ((HDD.out.new.drew_.alloc_ _).grown hg4 (own_ne_blk HDD.out.own2 HDD.out.new (by decide))).frozen 1)
            all_goals
              have HDE := Lib.hid hDE
              clear hDE f1 ff1 hown4 hg4 q0 q1 n1 l1 l0 m3
              go_wp2_with fail
              go_roundg (N - (i + 1))
              case measure => have := HM.out; omega
              case rel =>
                refine ⟨i + 1, .slice oa1 (((L.take i).eraseIdx f).length + 1) oc1, .slice oa2 (((L.take i).eraseIdx f).length + 1) oc2, by omega, by go_num, ?_⟩
                have h := HDE.out
                rw [HST.out]
                simpa [intV, keyCells] using h
      · have hie : i = N := by have := HM.out; omega
        have htk : (L.take i).eraseIdx f = dropL L c := by rw [List.take_of_length_le (by rw [← HN.out]; omega)]; unfold dropL; rw [← HF.out]
        have hge : N ≤ i := by omega
        rw [htk] at hD
        obtain ⟨oa1, oc1, rfl⟩ := own_shape hD.own1
        obtain ⟨oa2, oc2, rfl⟩ := own_shape hD.own2
        have r0 : wr.cell? ⟨w.heap.size + 1 + 1, 0, none⟩ = some (.slice none 0 0) := hD.res.cell 0
        have r1 : wr.cell? ⟨w.heap.size + 1 + 1, 1, none⟩ = some (.slice none 0 0) := hD.res.cell 1
        have rf0 := hD.res.frozen 0
        have rf1 := hD.res.frozen 1
        have l1 : w1.heap.size < wr.heap.size := hD.new.lt
        have l2 : w.heap.size + 1 + 1 < wr.heap.size := hD.res.lt
        have HD2 := Lib.hid hD
        clear htk hie hi hD hmi
        go_wp2_with fail
        refine bodyPost_ret (v := .tuple #[.agg #[.slice oa1 (dropL L c).length oc1, .slice oa2 (dropL L c).length oc2], .bool true]) ?_ rfl ⟨⟨oa1, oa2, oc1, oc2, ?_, ?_⟩, ?_⟩
        · rw [results_cell_tmp rfl]; go_simp
        · rw [← HF.out, ← HN.out, decide_eq_true hlt]
        · have e1 := own_ne_blk HD2.out.own1 HD2.out.res (by decide)
          have e2 := own_ne_blk HD2.out.own2 HD2.out.res (by decide)
          have k1 := own_keep HD2.out.own1 (w' := (wr.setCell ⟨w.heap.size + 1 + 1, 0, none⟩ (.slice oa1 (dropL L c).length oc1)).setCell ⟨w.heap.size + 1 + 1, 1, none⟩ (.slice oa2 (dropL L c).length oc2)) fun g hg => by
            have hne : g ≠ w.heap.size + 1 + 1 := fun he => e1 (by rw [hg, he])
            exact (Below.heap_setCell _ _ _ _ hne).trans (Below.heap_setCell _ _ _ _ hne)
          have k2 := own_keep HD2.out.own2 (w' := (wr.setCell ⟨w.heap.size + 1 + 1, 0, none⟩ (.slice oa1 (dropL L c).length oc1)).setCell ⟨w.heap.size + 1 + 1, 1, none⟩ (.slice oa2 (dropL L c).length oc2)) fun g hg => by
            have hne : g ≠ w.heap.size + 1 + 1 := fun he => e2 (by rw [hg, he])
            exact (Below.heap_setCell _ _ _ _ hne).trans (Below.heap_setCell _ _ _ _ hne)
          exact ⟨own_tb k1, own_tb k2, rt_cells k1, rt_cells k2⟩
        · exact (HD2.out.bel.setCell (by show w.heap.size ≤ w.heap.size + 1 + 1; omega) _).setCell (by show w.heap.size ≤ w.heap.size + 1 + 1; omega) _
  · have hpl : plc L c = -1 := by unfold plc; rw [← HF.out, if_neg (by rw [← HN.out]; exact hlt)]
    have HPL := Lib.hid hpl
    have hdl : dropL L c = L := by unfold dropL; rw [← HF.out]; exact List.eraseIdx_of_length_le (by rw [← HN.out]; omega)
    have HDL := Lib.hid hdl
    clear hpl hdl
    go_enter Try.func24, Try.ntmps24
    go_wp2_with fail
    refine (HP0.out _ (HAL.out _ _ _)).mono ?_
    rintro e w1 ⟨rfl, hb1⟩
    rw [HPL.out]
    have t0 : Blk w1 w.heap.size 43 #[.slice ka N kc, .slice va N vc] := (((Blk.new_ w 43 _).alloc_ _).alloc_ _).below hb1 (by simp; omega)
    have r0 : Blk w1 (w.heap.size + 1 + 1) 43 #[.slice none 0 0, .slice none 0 0] := by
      have hx := Blk.new_ ((w.alloc (.cells #[.slice ka N kc, .slice va N vc] 43)).alloc (.cells #[.int .i64 c.1, .int .i64 c.2.1, .int .i64 c.2.2] 26)) 43 #[.slice none 0 0, .slice none 0 0]
      have e2 : ((w.alloc (.cells #[.slice ka N kc, .slice va N vc] 43)).alloc (.cells #[.int .i64 c.1, .int .i64 c.2.1, .int .i64 c.2.2] 26)).heap.size = w.heap.size + 1 + 1 := by simp
      rw [e2] at hx
      exact hx.below hb1 (by simp)
    have HB1 := Lib.hid ((HB3.out _ _ _).trans (hb1.mono (by simp; omega)))
    have q0 : w1.cell? ⟨w.heap.size, 0, none⟩ = some (.slice ka N kc) := t0.cell 0
    have q1 : w1.cell? ⟨w.heap.size, 1, none⟩ = some (.slice va N vc) := t0.cell 1
    have s0 : w1.cell? ⟨w.heap.size + 1 + 1, 0, none⟩ = some (.slice none 0 0) := r0.cell 0
    have s1 : w1.cell? ⟨w.heap.size + 1 + 1, 1, none⟩ = some (.slice none 0 0) := r0.cell 1
    have sf0 := r0.frozen 0
    have sf1 := r0.frozen 1
    clear hb1 t0 r0
    go_wp2_with fail
    have hbel : Below w.heap.size w ((w1.setCell ⟨w.heap.size + 1 + 1, 0, none⟩ (.slice ka N kc)).setCell ⟨w.heap.size + 1 + 1, 1, none⟩ (.slice va N vc)) := (HB1.out.setCell (by show w.heap.size ≤ w.heap.size + 1 + 1; omega) _).setCell (by show w.heap.size ≤ w.heap.size + 1 + 1; omega) _
    refine bodyPost_ret (v := .tuple #[.agg #[.slice ka N kc, .slice va N vc], .bool false]) ?_ rfl ⟨⟨ka, va, kc, vc, ?_, ?_⟩, ?_⟩
    · rw [results_cell_tmp rfl]; go_simp
    · rw [HDL.out, ← HF.out, ← HN.out, decide_eq_false hlt]
    · rw [HDL.out]; exact HR.out.below hbel
    · exact hbel
end Go.Proofs.Ytdalnhhenahcjaa
