/- The reference's many, of and Size. The reference's Size. -/
import Derived.Test.YtdalnhhenahcjaaNodeRE
import Derived.Deep.RegionHeld3
namespace Go.Proofs.Ytdalnhhenahcjaa
open Go.RowKit HP NP
theorem info_rbool : (Try.prog.info? 4).map (fun i => (i.zero, i.size, i.bytes)) = some (some (.bool false), 1, 1) := by kernel_rfl
/-- marks as cells -/
def mkL (n : Nat) (s : Nat → Bool) : List Value := (List.range n).map fun j => .bool (s j)
theorem mkL_len (n : Nat) (s : Nat → Bool) : (mkL n s).length = n := by simp [mkL]
theorem mkL_at {n j : Nat} (s : Nat → Bool) (h : j < n) : (mkL n s)[j]? = some (.bool (s j)) := by unfold mkL; rw [List.getElem?_map, List.getElem?_range h]; rfl
theorem mkL_ones (n : Nat) (s : Nat → Bool) : ∀ u ∈ mkL n s, u.oneCell' = true := by
  intro u hu
  obtain ⟨j, _, rfl⟩ := List.mem_map.1 hu
  rfl
theorem mkL_set {n k : Nat} (s : Nat → Bool) (hk : k < n) : mkL n (setB s k) = (mkL n s).take k ++ ([.bool true] ++ (mkL n s).drop (k + 1)) := by
  apply List.ext_getElem?
  intro j
  rw [List.getElem?_append, List.length_take, mkL_len, show min k n = k by omega]
  by_cases h1 : j < k
  · rw [if_pos h1, mkL_at _ (by omega), List.getElem?_take, if_pos h1, mkL_at _ (by omega)]
    unfold setB; simp; omega
  · rw [if_neg h1]
    by_cases h2 : j = k
    · subst h2; rw [mkL_at _ hk, Nat.sub_self]; unfold setB; simp
    · rw [List.getElem?_append_right (by simp; omega), List.getElem?_drop, show k + 1 + (j - k - [Value.bool true].length) = j by simp; omega]
      by_cases h3 : j < n
      · rw [mkL_at _ h3, mkL_at _ h3]; unfold setB; simp; omega
      · rw [List.getElem?_eq_none (by rw [mkL_len]; omega), List.getElem?_eq_none (by rw [mkL_len]; omega)]
theorem mkL_set2 {n k : Nat} (s : Nat → Bool) (hk : k < n) : (mkL n s).take k ++ (Value.bool true :: (mkL n s).drop (k + 1)) = mkL n (setB s k) := (mkL_set s hk).symm
theorem cntS_step (s : Nat → Bool) (k : Nat) : cntS s (k + 1) = cntS s k + (s k).toNat := by
  unfold cntS
  rw [List.range_succ, List.countP_append]
  cases h : s k <;> simp [h]
set_option maxHeartbeats 1000000 in
theorem rmany_ok (w : World) (a : Option Addr) (n c : Nat) (s : Nat → Bool) (hn : n ≤ 1048576) (hc : Cells w a (mkL n s)) :
    Calls Try.prog 66 #[.slice a n c] w fun e w' => e = .returned (.int .i64 (cntS s n : Int)) ∧ w = w' := by
  have HC := Lib.hid hc
  clear hc
  go_enter Try.func66, Try.ntmps66
  go_wp2_with fail
  go_loopg [3, 4] n (fun m y x wr => ∃ k : Nat, m + k = n ∧ x = .int .i64 (k : Int) ∧ y = .int .i64 (cntS s k : Int) ∧ w = wr)
  case atStart => exact ⟨0, rfl, rfl, rfl, rfl⟩
  case round =>
    obtain ⟨k, hm, rfl, rfl, rfl⟩ := hrel
    have HM := Lib.hid hm
    clear hm
    by_cases hk : k < n
    · obtain ⟨b, off, rfl, hb, x0⟩ := HC.out.at_ (mkL_at s hk)
      have hct := cntS_step s k
      have hcb := cntS_le s k
      obtain ⟨q, hq⟩ : ∃ q, q = s k := ⟨_, rfl⟩
      rw [← hq] at x0 hct
      have HCT := Lib.hid hct
      clear hct hq
      cases q
      all_goals
        go_wp2_with fail
        go_roundg (n - (k + 1))
        case measure => have := HM.out; omega
        case rel => exact ⟨k + 1, by have := HM.out; omega, by go_num, by rw [HCT.out]; first | rfl | go_num, rfl⟩
    · have hkN : k = n := by have := HM.out; omega
      subst hkN
      go_wp2_with fail
      go_ret
      exact ⟨rfl, rfl⟩
def OfPost (S : NS) (k : Nat) (s : Nat → Bool) (w : World) (e : Ending) (w' : World) : Prop :=
  (∃ a c s', e = .returned (.slice a S.l.length c) ∧ Adds S.l k s s' ∧ Cells w' a (mkL S.l.length s') ∧ S.l.length ≤ c ∧ c ≤ maxLen) ∧ Below w.heap.size w w'
set_option maxRecDepth 100000 in
set_option maxHeartbeats 4000000 in
theorem rof_ok (S : NS) (hW : Wf S) : ∀ (f : Nat) (w : World) (ra : Option Addr) (rc : Nat) (a : Option Addr) (c k : Nat) (s : Nat → Bool), RSt w S ra rc → isB S.l k = true → S.vars - (nd S.l k).v < f → Cl S s (nd S.l k).v → Cells w a (mkL S.l.length s) → S.l.length ≤ c → c ≤ maxLen →
    Calls Try.prog 67 #[rsV S ra rc, .slice a S.l.length c, .int .i64 (k : Int)] w (OfPost S k s w) := by
  intro f
  induction f with
  | zero => intro w ra rc a c k s _ _ hf; omega
  | succ f ih =>
    intro w ra rc a c k s h hk hf hcl hc hn hcm
    have hlm := hW.lm
    have hkl := isB_lt hk
    have HR := Lib.hid h; have HW := Lib.hid hW; have HK := Lib.hid hk; have HF := Lib.hid hf; have HCL := Lib.hid hcl; have HC := Lib.hid hc; have HIH := Lib.hid ih; have HCC := Lib.hid (And.intro hn hcm)
    have hbel : Below w.heap.size w (w.alloc (.cells (rbox S ra rc) 75)) := (Below.refl _ _).alloc (Nat.le_refl _) _
    have HB2 := Lib.hid hbel; have HBX := Lib.hid (rbox_new w S ra rc)
    obtain ⟨b, off, hra, hbl, x0⟩ := hc.at_ (mkL_at s hkl)
    subst hra
    obtain ⟨N, hN⟩ : ∃ N, N = S.l.length := ⟨_, rfl⟩
    have HN := Lib.hid hN
    rw [← hN] at hkl hlm hn
    unfold maxLen at hcm
    clear h hW hk hf hcl hc ih hbel hN
    obtain ⟨q, hq⟩ : ∃ q, q = s k := ⟨_, rfl⟩
    rw [← hq] at x0
    have HQ := Lib.hid hq
    clear hq
    cases q with
    | true =>
      rw [← HN.out]
      go_enter Try.func67, Try.ntmps67
      go_wp2_with fail
      go_ret
      exact ⟨⟨some ⟨b, off, none⟩, c, s, by rw [← HN.out]; rfl, Adds.same HW.out HCL.out HQ.out.symm, HC.out.below HB2.out, HCC.out.1, HCC.out.2⟩, HB2.out⟩
    | false =>
      have hs0 : setB s k = setB s k := rfl
      have HLE : Hid (k + 1 + (N - (k + 1)) = N) := Lib.hid (by omega)
      obtain ⟨i0, hi0, hz0, hz1, hz2⟩ := info_parts info_rbool
      have HT1 : Hid (((mkL N s).take k).length = k * 1) := Lib.hid (by rw [List.length_take, mkL_len]; omega)
      have HT1C : Hid (Cells (w.alloc (.cells (rbox S ra rc) 75)) (some ⟨b, off, none⟩) ((mkL N s).take k)) := Lib.hid (by rw [HN.out]; exact (HC.out.below HB2.out).take_ k)
      have HE1 : Hid ((w.alloc (.cells (rbox S ra rc) 75)).heap.size = w.heap.size + 1) := Lib.hid (by simp)
      have HDL : Hid (((mkL N s).drop (k + 1)).length = (N - (k + 1)) * 1) := Lib.hid (by rw [List.length_drop, mkL_len]; omega)
      have HONE1 : Hid (∀ u ∈ (mkL N s).take k, u.oneCell' = true) := Lib.hid (fun u hu => mkL_ones N s u (List.mem_of_mem_take hu))
      have HONE2 : Hid (∀ u ∈ (mkL N s).drop (k + 1), u.oneCell' = true) := Lib.hid (fun u hu => mkL_ones N s u (List.mem_of_mem_drop hu))
      clear hs0
      rw [← HN.out]
      go_enter Try.func67, Try.ntmps67
      go_wp2_with (at_builtin; refine wpList_append_src rfl (.tmp 13) (.tmp 16) 60 rfl (w.heap.size + 1) 4 i0 (.bool false) 1 1 Try.underlying60 hi0 hz0 hz1 hz2 rfl (by decide) (.slice none 0 0) 0 _ rfl (World.ownsRow_nil _ _ _ _) (some ⟨b, off, none⟩) k c ((mkL N s).take k) rfl HT1.out HT1C.out HONE1.out (by unfold maxLen; omega) (by omega) (Nat.le_of_eq HE1.out.symm) ?_)
      intro v1 w4 hown hg _
      obtain ⟨oa1, oc1, rfl⟩ := own_shape hown
      have hbx := HBX.out.grown hg (fun e => nomatch e)
      have hb4 := HB2.out.grown hg HB2.out.size (fun j hj => nomatch hj)
      have hs4 : w.heap.size + 1 ≤ w4.heap.size := by have := hg.size; rw [HE1.out] at this; exact this
      have HO1 := Lib.hid hown; have HBX4 := Lib.hid hbx; have HB4 := Lib.hid hb4
      clear hown hg hbx hb4
      go_wp2_with (at_builtin; refine wpList_append_src rfl (.tmp 18) (.tmp 19) 60 rfl (w.heap.size + 1) 4 i0 (.bool false) 1 1 Try.underlying60 hi0 hz0 hz1 hz2 rfl (by decide) (.slice oa1 k oc1) k _ rfl (HO1.out.alloc _) (some ⟨w4.heap.size, 0, none⟩) 1 1 [.bool true] rfl rfl (Cells.lit _ #[.bool true] _) (by simp [Value.oneCell']) (by unfold maxLen; omega) (by omega) (by simp; omega) ?_)
      intro v2 w5 hown hg _
      obtain ⟨oa2, oc2, rfl⟩ := own_shape hown
      have hbx := (HBX4.out.alloc_ (.cells #[.bool true] 4)).grown hg (own_low HO1.out (by omega))
      have hb5 := (HB4.out.alloc HB4.out.size (.cells #[.bool true] 4)).grown hg (by simp; omega) (fun j hj => by have := (HO1.out.lt j hj).1; omega)
      have hs5 : w.heap.size + 1 ≤ w5.heap.size := by have := hg.size; simp at this; omega
      have HO2 := Lib.hid hown; have HBX5 := Lib.hid hbx; have HB5 := Lib.hid hb5
      clear hown hg hbx hb5 hs4
      by_cases hrc : c = k + 1
      · have HDC : Hid (Cells w5 (some ⟨b, off, none⟩) ((mkL N s).drop (k + 1))) := by
          rw [List.drop_of_length_le (by rw [mkL_len]; omega)]; exact Lib.hid (Cells.nil _ _)
        go_wp2_with (at_builtin;  refine wpList_append_src rfl (.tmp 21) (.tmp 25) 60 rfl (w.heap.size + 1) 4 i0 (.bool false) 1 1 Try.underlying60 hi0 hz0 hz1 hz2 rfl (by decide) (.slice oa2 (k + 1) oc2) (k + 1) _ rfl HO2.out (some ⟨b, off, none⟩) (N - (k + 1)) 0 ((mkL N s).drop (k + 1)) rfl HDL.out HDC.out HONE2.out (by unfold maxLen; omega) (by omega) hs5 ?_)
        intro v3 w6 hown hg _
        rw [HLE.out, mkL_set2 s hkl] at hown
        obtain ⟨oa3, oc3, rfl⟩ := own_shape hown
        have hbx := HBX5.out.grown hg (own_low HO2.out (by omega))
        have HB6 := Lib.hid (HB5.out.grown hg HB5.out.size (fun j hj => by have := (HO2.out.lt j hj).1; omega))
        have HBX6 := Lib.hid hbx
        have HOC : Hid (N ≤ oc3 ∧ oc3 ≤ maxLen) := by
          obtain ⟨a', c', he, h3, h4, _⟩ := Cells.of_own hown
          injection he with _ _ he; subst he; exact Lib.hid ⟨h3, h4⟩
        have HO3 : Hid (Cells w6 oa3 (mkL S.l.length (setB s k))) := Lib.hid (by rw [← HN.out]; exact own_cellsV hown)
        clear hown hg hbx hs5
        by_cases h2 : 2 ≤ k
        · obtain ⟨hv0, _, hlo, hhi, hvl, hvh⟩ := HW.out.kid k h2 HK.out
          obtain ⟨lo, hloe⟩ : ∃ lo, lo = (nd S.l k).low := ⟨_, rfl⟩
          obtain ⟨hi, hhie⟩ : ∃ hi, hi = (nd S.l k).high := ⟨_, rfl⟩
          obtain ⟨b', off', hra, hbl', x0', x1', x2, x3, x4'⟩ := (HR.out.below HB6.out).nd_ (by rw [← HN.out]; exact hkl)
          rw [← hloe] at x2 hlo hvl
          rw [← hhie] at x3 hhi hvh
          have HLO := Lib.hid hlo; have HHI := Lib.hid hhi; have HVL := Lib.hid hvl; have HVH := Lib.hid hvh; have HLOE := Lib.hid hloe; have HHIE := Lib.hid hhie
          subst hra
          have HCL1 : Hid (Cl S (setB s k) (nd S.l lo).v) := Lib.hid (HCL.out.mark HK.out HVL.out)
          have HCL2 : Hid (Cl S (setB s k) (nd S.l hi).v) := Lib.hid (HCL.out.mark HK.out HVH.out)
          have hbd : Below w6.heap.size w6 w6.drew := (Below.refl _ _).drew
          have HC1 : Hid (Calls Try.prog 67 #[.agg #[.int .i64 (S.vars : Int), .int .i64 (S.budget : Int), .int .i64 (wr64 S.made), .int .i64 (wr64 S.sweeps), .slice (some ⟨b', off', none⟩) N rc], .slice oa3 N oc3, .int .i64 (lo : Int)] w6.drew (OfPost S lo (setB s k) w6.drew)) := Lib.hid (by
            rw [HN.out]
            exact HIH.out w6.drew (some ⟨b', off', none⟩) rc oa3 oc3 lo (setB s k) ((HR.out.below HB6.out).below hbd) HLO.out (by have := HF.out; have := HVL.out; have := HW.out.vle HLO.out; omega) HCL1.out (HO3.out.below hbd) (by rw [← HN.out]; exact HOC.out.1) HOC.out.2)
          have HKP : Hid (∀ w', Below w6.heap.size w6 w' → (w'.cell? ⟨w.heap.size, 0, none⟩ = some (.int .i64 (S.vars : Int)) ∧ w'.cell? ⟨w.heap.size, 1, none⟩ = some (.int .i64 (S.budget : Int)) ∧ w'.cell? ⟨w.heap.size, 2, none⟩ = some (.int .i64 (wr64 S.made)) ∧ w'.cell? ⟨w.heap.size, 3, none⟩ = some (.int .i64 (wr64 S.sweeps)) ∧ w'.cell? ⟨w.heap.size, 4, none⟩ = some (.slice (some ⟨b', off', none⟩) N rc)) ∧ w'.cell? ⟨b', off' + k * 5 + 2, none⟩ = some (.int .i64 (lo : Int)) ∧ w'.cell? ⟨b', off' + k * 5 + 3, none⟩ = some (.int .i64 (hi : Int))) := by
            refine Lib.hid fun w' hb => ?_
            have h1 := HBX6.out.below hb HBX6.out.lt
            rw [HN.out]
            exact ⟨⟨h1.cell 0, h1.cell 1, h1.cell 2, h1.cell 3, h1.cell 4⟩, (hb.cell (p := ⟨b', _, none⟩) hbl').trans x2, (hb.cell (p := ⟨b', _, none⟩) hbl').trans x3⟩
          have HK0 := Lib.hid (HKP.out _ hbd)
          clear hv0 hlo hhi hvl hvh x0' x1' x2 x3 x4' hbd hloe hhie
          go_wp2_with fail
          go_region_held3 (fun w' => (w'.cell? ⟨w.heap.size, 0, none⟩ = some (.int .i64 (S.vars : Int)) ∧ w'.cell? ⟨w.heap.size, 1, none⟩ = some (.int .i64 (S.budget : Int)) ∧ w'.cell? ⟨w.heap.size, 2, none⟩ = some (.int .i64 (wr64 S.made)) ∧ w'.cell? ⟨w.heap.size, 3, none⟩ = some (.int .i64 (wr64 S.sweeps)) ∧ w'.cell? ⟨w.heap.size, 4, none⟩ = some (.slice (some ⟨b', off', none⟩) N rc)) ∧ w'.cell? ⟨b', off' + k * 5 + 2, none⟩ = some (.int .i64 (lo : Int)) ∧ w'.cell? ⟨b', off' + k * 5 + 3, none⟩ = some (.int .i64 (hi : Int)))
            (first | with_reducible exact HK0.out | with_reducible exact HK7.out) (first | (go_at_call 67; ((with_reducible refine HC1.out.mono ?_); rintro e w7 ⟨⟨a7, c7, s7, rfl, ha7, hc7, hn7, hm7⟩, hb7⟩; have HK7 := Lib.hid (HKP.out _ ((Below.refl w6.heap.size w6).drew.trans (hb7.mono (Nat.le_refl _)))); rw [← HN.out])))
          have HB7 : Hid (Below w6.heap.size w6 w7) := Lib.hid ((Below.refl w6.heap.size w6).drew.trans (hb7.mono (Nat.le_refl _)))
          have hbd7 : Below w7.heap.size w7 w7.drew := (Below.refl _ _).drew
          have HB8 : Hid (Below w.heap.size w w7) := Lib.hid (HB6.out.trans (HB7.out.mono HB6.out.size))
          have HA7 := Lib.hid ha7; have HC7 := Lib.hid hc7
          have HCL3 : Hid (Cl S s7 (nd S.l hi).v) := Lib.hid (HA7.out.cl HW.out HLO.out HCL2.out)
          have HC2 : Hid (Calls Try.prog 67 #[.agg #[.int .i64 (S.vars : Int), .int .i64 (S.budget : Int), .int .i64 (wr64 S.made), .int .i64 (wr64 S.sweeps), .slice (some ⟨b', off', none⟩) N rc], .slice a7 N c7, .int .i64 (hi : Int)] w7.drew (OfPost S hi s7 w7.drew)) := Lib.hid (by
            rw [HN.out]
            exact HIH.out w7.drew (some ⟨b', off', none⟩) rc a7 c7 hi s7 ((HR.out.below HB8.out).below hbd7) HHI.out (by have := HF.out; have := HVH.out; have := HW.out.vle HHI.out; omega) HCL3.out (HC7.out.below hbd7) hn7 hm7)
          have HK8 : Hid (∀ w', Below w7.heap.size w7 w' → _) := Lib.hid (fun w' hb => HKP.out w' (HB7.out.trans (hb.mono HB7.out.size)))
          have HK9 := Lib.hid (HK8.out _ hbd7)
          clear ha7 hc7 hb7 HC1 hbd7
          go_wp2_with fail
          go_region_held3 (fun w' => (w'.cell? ⟨w.heap.size, 0, none⟩ = some (.int .i64 (S.vars : Int)) ∧ w'.cell? ⟨w.heap.size, 1, none⟩ = some (.int .i64 (S.budget : Int)) ∧ w'.cell? ⟨w.heap.size, 2, none⟩ = some (.int .i64 (wr64 S.made)) ∧ w'.cell? ⟨w.heap.size, 3, none⟩ = some (.int .i64 (wr64 S.sweeps)) ∧ w'.cell? ⟨w.heap.size, 4, none⟩ = some (.slice (some ⟨b', off', none⟩) N rc)) ∧ w'.cell? ⟨b', off' + k * 5 + 2, none⟩ = some (.int .i64 (lo : Int)) ∧ w'.cell? ⟨b', off' + k * 5 + 3, none⟩ = some (.int .i64 (hi : Int)))
            (first | with_reducible exact HK9.out | with_reducible exact HK11.out) (first | (go_at_call 67; ((with_reducible refine HC2.out.mono ?_); rintro e w9 ⟨⟨a9, c9, s9, rfl, ha9, hc9, hn9, hm9⟩, hb9⟩; have HK11 := Lib.hid (HK8.out _ ((Below.refl w7.heap.size w7).drew.trans (hb9.mono (Nat.le_refl _)))); rw [← HN.out])))
          have HB9 : Hid (Below w7.heap.size w7 w9) := Lib.hid ((Below.refl w7.heap.size w7).drew.trans (hb9.mono (Nat.le_refl _)))
          have HB10 : Hid (Below w.heap.size w w9) := Lib.hid (HB8.out.trans (HB9.out.mono HB8.out.size))
          have HA9 := Lib.hid ha9; have HC9 := Lib.hid hc9
          clear ha9 hc9 hb9 HC2
          go_wp2_with fail
          go_ret
          exact ⟨⟨a9, c9, s9, by rw [← HN.out]; rfl, Adds.node h2 (by rw [← HLOE.out]; exact HA7.out) (by rw [← HHIE.out]; exact HA9.out), HC9.out, hn9, hm9⟩, HB10.out⟩
        · go_wp2_with fail
          go_ret
          exact ⟨⟨oa3, oc3, setB s k, by rw [← HN.out]; rfl, Adds.leaf (by omega), HO3.out, by rw [← HN.out]; exact HOC.out.1, HOC.out.2⟩, HB6.out⟩
      · have HDC : Hid (Cells w5 (some ⟨b, off + (k + 1), none⟩) ((mkL N s).drop (k + 1))) := by
          rw [HN.out]; exact Lib.hid ((HC.out.below HB5.out).drop_ _)
        go_wp2_with (at_builtin; refine wpList_append_src rfl (.tmp 21) (.tmp 25) 60 rfl (w.heap.size + 1) 4 i0 (.bool false) 1 1 Try.underlying60 hi0 hz0 hz1 hz2 rfl (by decide) (.slice oa2 (k + 1) oc2) (k + 1) _ rfl HO2.out (some ⟨b, off + (k + 1), none⟩) (N - (k + 1)) (c - (k + 1)) ((mkL N s).drop (k + 1)) rfl HDL.out HDC.out HONE2.out (by unfold maxLen; omega) (by omega) hs5 ?_)
        intro v3 w6 hown hg _
        rw [HLE.out, mkL_set2 s hkl] at hown
        obtain ⟨oa3, oc3, rfl⟩ := own_shape hown
        have hbx := HBX5.out.grown hg (own_low HO2.out (by omega))
        have HB6 := Lib.hid (HB5.out.grown hg HB5.out.size (fun j hj => by have := (HO2.out.lt j hj).1; omega))
        have HBX6 := Lib.hid hbx
        have HOC : Hid (N ≤ oc3 ∧ oc3 ≤ maxLen) := by
          obtain ⟨a', c', he, h3, h4, _⟩ := Cells.of_own hown
          injection he with _ _ he; subst he; exact Lib.hid ⟨h3, h4⟩
        have HO3 : Hid (Cells w6 oa3 (mkL S.l.length (setB s k))) := Lib.hid (by rw [← HN.out]; exact own_cellsV hown)
        clear hown hg hbx hs5
        by_cases h2 : 2 ≤ k
        · obtain ⟨hv0, _, hlo, hhi, hvl, hvh⟩ := HW.out.kid k h2 HK.out
          obtain ⟨lo, hloe⟩ : ∃ lo, lo = (nd S.l k).low := ⟨_, rfl⟩
          obtain ⟨hi, hhie⟩ : ∃ hi, hi = (nd S.l k).high := ⟨_, rfl⟩
          obtain ⟨b', off', hra, hbl', x0', x1', x2, x3, x4'⟩ := (HR.out.below HB6.out).nd_ (by rw [← HN.out]; exact hkl)
          rw [← hloe] at x2 hlo hvl
          rw [← hhie] at x3 hhi hvh
          have HLO := Lib.hid hlo; have HHI := Lib.hid hhi; have HVL := Lib.hid hvl; have HVH := Lib.hid hvh; have HLOE := Lib.hid hloe; have HHIE := Lib.hid hhie
          subst hra
          have HCL1 : Hid (Cl S (setB s k) (nd S.l lo).v) := Lib.hid (HCL.out.mark HK.out HVL.out)
          have HCL2 : Hid (Cl S (setB s k) (nd S.l hi).v) := Lib.hid (HCL.out.mark HK.out HVH.out)
          have hbd : Below w6.heap.size w6 w6.drew := (Below.refl _ _).drew
          have HC1 : Hid (Calls Try.prog 67 #[.agg #[.int .i64 (S.vars : Int), .int .i64 (S.budget : Int), .int .i64 (wr64 S.made), .int .i64 (wr64 S.sweeps), .slice (some ⟨b', off', none⟩) N rc], .slice oa3 N oc3, .int .i64 (lo : Int)] w6.drew (OfPost S lo (setB s k) w6.drew)) := Lib.hid (by
            rw [HN.out]
            exact HIH.out w6.drew (some ⟨b', off', none⟩) rc oa3 oc3 lo (setB s k) ((HR.out.below HB6.out).below hbd) HLO.out (by have := HF.out; have := HVL.out; have := HW.out.vle HLO.out; omega) HCL1.out (HO3.out.below hbd) (by rw [← HN.out]; exact HOC.out.1) HOC.out.2)
          have HKP : Hid (∀ w', Below w6.heap.size w6 w' → (w'.cell? ⟨w.heap.size, 0, none⟩ = some (.int .i64 (S.vars : Int)) ∧ w'.cell? ⟨w.heap.size, 1, none⟩ = some (.int .i64 (S.budget : Int)) ∧ w'.cell? ⟨w.heap.size, 2, none⟩ = some (.int .i64 (wr64 S.made)) ∧ w'.cell? ⟨w.heap.size, 3, none⟩ = some (.int .i64 (wr64 S.sweeps)) ∧ w'.cell? ⟨w.heap.size, 4, none⟩ = some (.slice (some ⟨b', off', none⟩) N rc)) ∧ w'.cell? ⟨b', off' + k * 5 + 2, none⟩ = some (.int .i64 (lo : Int)) ∧ w'.cell? ⟨b', off' + k * 5 + 3, none⟩ = some (.int .i64 (hi : Int))) := by
            refine Lib.hid fun w' hb => ?_
            have h1 := HBX6.out.below hb HBX6.out.lt
            rw [HN.out]
            exact ⟨⟨h1.cell 0, h1.cell 1, h1.cell 2, h1.cell 3, h1.cell 4⟩, (hb.cell (p := ⟨b', _, none⟩) hbl').trans x2, (hb.cell (p := ⟨b', _, none⟩) hbl').trans x3⟩
          have HK0 := Lib.hid (HKP.out _ hbd)
          clear hv0 hlo hhi hvl hvh x0' x1' x2 x3 x4' hbd hloe hhie
          go_wp2_with fail
          go_region_held3 (fun w' => (w'.cell? ⟨w.heap.size, 0, none⟩ = some (.int .i64 (S.vars : Int)) ∧ w'.cell? ⟨w.heap.size, 1, none⟩ = some (.int .i64 (S.budget : Int)) ∧ w'.cell? ⟨w.heap.size, 2, none⟩ = some (.int .i64 (wr64 S.made)) ∧ w'.cell? ⟨w.heap.size, 3, none⟩ = some (.int .i64 (wr64 S.sweeps)) ∧ w'.cell? ⟨w.heap.size, 4, none⟩ = some (.slice (some ⟨b', off', none⟩) N rc)) ∧ w'.cell? ⟨b', off' + k * 5 + 2, none⟩ = some (.int .i64 (lo : Int)) ∧ w'.cell? ⟨b', off' + k * 5 + 3, none⟩ = some (.int .i64 (hi : Int)))
            (first | with_reducible exact HK0.out | with_reducible exact HK7.out) (first | (go_at_call 67; ((with_reducible refine HC1.out.mono ?_); rintro e w7 ⟨⟨a7, c7, s7, rfl, ha7, hc7, hn7, hm7⟩, hb7⟩; have HK7 := Lib.hid (HKP.out _ ((Below.refl w6.heap.size w6).drew.trans (hb7.mono (Nat.le_refl _)))); rw [← HN.out])))
          have HB7 : Hid (Below w6.heap.size w6 w7) := Lib.hid ((Below.refl w6.heap.size w6).drew.trans (hb7.mono (Nat.le_refl _)))
          have hbd7 : Below w7.heap.size w7 w7.drew := (Below.refl _ _).drew
          have HB8 : Hid (Below w.heap.size w w7) := Lib.hid (HB6.out.trans (HB7.out.mono HB6.out.size))
          have HA7 := Lib.hid ha7; have HC7 := Lib.hid hc7
          have HCL3 : Hid (Cl S s7 (nd S.l hi).v) := Lib.hid (HA7.out.cl HW.out HLO.out HCL2.out)
          have HC2 : Hid (Calls Try.prog 67 #[.agg #[.int .i64 (S.vars : Int), .int .i64 (S.budget : Int), .int .i64 (wr64 S.made), .int .i64 (wr64 S.sweeps), .slice (some ⟨b', off', none⟩) N rc], .slice a7 N c7, .int .i64 (hi : Int)] w7.drew (OfPost S hi s7 w7.drew)) := Lib.hid (by
            rw [HN.out]
            exact HIH.out w7.drew (some ⟨b', off', none⟩) rc a7 c7 hi s7 ((HR.out.below HB8.out).below hbd7) HHI.out (by have := HF.out; have := HVH.out; have := HW.out.vle HHI.out; omega) HCL3.out (HC7.out.below hbd7) hn7 hm7)
          have HK8 : Hid (∀ w', Below w7.heap.size w7 w' → _) := Lib.hid (fun w' hb => HKP.out w' (HB7.out.trans (hb.mono HB7.out.size)))
          have HK9 := Lib.hid (HK8.out _ hbd7)
          clear ha7 hc7 hb7 HC1 hbd7
          go_wp2_with fail
          go_region_held3 (fun w' => (w'.cell? ⟨w.heap.size, 0, none⟩ = some (.int .i64 (S.vars : Int)) ∧ w'.cell? ⟨w.heap.size, 1, none⟩ = some (.int .i64 (S.budget : Int)) ∧ w'.cell? ⟨w.heap.size, 2, none⟩ = some (.int .i64 (wr64 S.made)) ∧ w'.cell? ⟨w.heap.size, 3, none⟩ = some (.int .i64 (wr64 S.sweeps)) ∧ w'.cell? ⟨w.heap.size, 4, none⟩ = some (.slice (some ⟨b', off', none⟩) N rc)) ∧ w'.cell? ⟨b', off' + k * 5 + 2, none⟩ = some (.int .i64 (lo : Int)) ∧ w'.cell? ⟨b', off' + k * 5 + 3, none⟩ = some (.int .i64 (hi : Int)))
            (first | with_reducible exact HK9.out | with_reducible exact HK11.out) (first | (go_at_call 67; ((with_reducible refine HC2.out.mono ?_); rintro e w9 ⟨⟨a9, c9, s9, rfl, ha9, hc9, hn9, hm9⟩, hb9⟩; have HK11 := Lib.hid (HK8.out _ ((Below.refl w7.heap.size w7).drew.trans (hb9.mono (Nat.le_refl _)))); rw [← HN.out])))
          have HB9 : Hid (Below w7.heap.size w7 w9) := Lib.hid ((Below.refl w7.heap.size w7).drew.trans (hb9.mono (Nat.le_refl _)))
          have HB10 : Hid (Below w.heap.size w w9) := Lib.hid (HB8.out.trans (HB9.out.mono HB8.out.size))
          have HA9 := Lib.hid ha9; have HC9 := Lib.hid hc9
          clear ha9 hc9 hb9 HC2
          go_wp2_with fail
          go_ret
          exact ⟨⟨a9, c9, s9, by rw [← HN.out]; rfl, Adds.node h2 (by rw [← HLOE.out]; exact HA7.out) (by rw [← HHIE.out]; exact HA9.out), HC9.out, hn9, hm9⟩, HB10.out⟩
        · go_wp2_with fail
          go_ret
          exact ⟨⟨oa3, oc3, setB s k, by rw [← HN.out]; rfl, Adds.leaf (by omega), HO3.out, by rw [← HN.out]; exact HOC.out.1, HOC.out.2⟩, HB6.out⟩
end Go.Proofs.Ytdalnhhenahcjaa
namespace Go.Proofs.Ytdalnhhenahcjaa
open Go.RowKit HP NP
theorem made_mk (w : World) (n : Nat) (hn : n ≤ 1048576) : Cells (w.alloc (.cells (madeCells #[.bool false] n) 4)) (some ⟨w.heap.size, 0, none⟩) (mkL n (fun _ => false)) := own_cellsV (SeenAt.made w n hn)
set_option maxRecDepth 100000 in
set_option maxHeartbeats 4000000 in
theorem rsize_ok (w : World) (S : NS) (hW : Wf S) (ra : Option Addr) (rc : Nat) (h : RSt w S ra rc) (k : Int) :
    Calls Try.prog 57 #[rsV S ra rc, .int .i64 k] w (SizePost S k w) := by
  have hlm := hW.lm
  have HR := Lib.hid h; have HW := Lib.hid hW
  have hbel : Below w.heap.size w (w.alloc (.cells (rbox S ra rc) 75)) := (Below.refl _ _).alloc (Nat.le_refl _) _
  have HB2 := Lib.hid hbel; have HBX := Lib.hid (rbox_new w S ra rc)
  clear h hbel
  cases hk : isK S.l k with
  | false =>
    have hf : findE S k = 3 := by unfold findE; rw [hk]; rfl
    have HFE := Lib.hid hf; have HK := Lib.hid hk
    clear hk hf hW
    go_enter Try.func57, Try.ntmps57
    go_wp2_with fail
    refine (ris_ok _ S hlm ra rc (HR.out.below HB2.out) k).mono ?_
    rintro e w3 ⟨rfl, hb⟩
    rw [HK.out]
    have HB3 := Lib.hid (HB2.out.trans (hb.mono HB2.out.size))
    clear hb
    go_wp2_with fail
    go_ret2
    exact ⟨⟨0, by rw [HFE.out]; rfl, fun _ => rfl, fun h => by rw [HK.out] at h; cases h⟩, HB3.out⟩
  | true =>
    obtain ⟨m, rfl, hb⟩ := isK_out hk
    have hf : findE S m = 0 := by unfold findE; rw [hk]; rfl
    have hvm := hW.vle hb
    have HFE := Lib.hid hf; have HBB := Lib.hid hb; have HK := Lib.hid hk; have HVM := Lib.hid hvm
    have hmk := made_bools S.l.length hlm
    clear hk hf hb hW hvm
    go_enter Try.func57, Try.ntmps57
    go_wp2_with fail
    refine (ris_ok _ S hlm ra rc (HR.out.below HB2.out) m).mono ?_
    rintro e w3 ⟨rfl, hb⟩
    rw [HK.out]
    have HB3 := Lib.hid (HB2.out.trans (hb.mono HB2.out.size))
    have HBX3 := Lib.hid (HBX.out.below hb HBX.out.lt)
    clear hb
    have hba : Below w3.heap.size w3 (w3.alloc (.cells (madeCells #[.bool false] S.l.length) 4)).drew := ((Below.refl w3.heap.size w3).alloc (Nat.le_refl _) _).drew
    have HBA := Lib.hid hba
    have HC1 := Lib.hid (rof_ok S HW.out (S.vars + 1) (w3.alloc (.cells (madeCells #[.bool false] S.l.length) 4)).drew ra rc (some ⟨w3.heap.size, 0, none⟩) S.l.length m (fun _ => false) ((HR.out.below HB3.out).below hba) HBB.out (by omega) ⟨(fun _ h => by cases h), (fun _ h => by cases h)⟩ ((made_mk w3 _ hlm).below (Below.refl _ _).drew) (Nat.le_refl _) (by unfold maxLen; omega))
    have HKP : Hid (∀ w', Below w3.heap.size w3 w' → (w'.cell? ⟨w.heap.size, 0, none⟩ = some (.int .i64 (S.vars : Int)) ∧ w'.cell? ⟨w.heap.size, 1, none⟩ = some (.int .i64 (S.budget : Int)) ∧ w'.cell? ⟨w.heap.size, 2, none⟩ = some (.int .i64 (wr64 S.made)) ∧ w'.cell? ⟨w.heap.size, 3, none⟩ = some (.int .i64 (wr64 S.sweeps)) ∧ w'.cell? ⟨w.heap.size, 4, none⟩ = some (.slice ra S.l.length rc))) := by
      refine Lib.hid fun w' hb => ?_
      have h1 := HBX3.out.below hb HBX3.out.lt
      exact ⟨h1.cell 0, h1.cell 1, h1.cell 2, h1.cell 3, h1.cell 4⟩
    have HK0 := Lib.hid (HKP.out _ (Below.refl w3.heap.size w3).drew); have HKA := Lib.hid (HKP.out _ hba)
    have bl : w.heap.size < w3.heap.size := HBX3.out.lt
    clear hba
    go_wp2_with fail
    go_region_held3 (fun w' => (w'.cell? ⟨w.heap.size, 0, none⟩ = some (.int .i64 (S.vars : Int)) ∧ w'.cell? ⟨w.heap.size, 1, none⟩ = some (.int .i64 (S.budget : Int)) ∧ w'.cell? ⟨w.heap.size, 2, none⟩ = some (.int .i64 (wr64 S.made)) ∧ w'.cell? ⟨w.heap.size, 3, none⟩ = some (.int .i64 (wr64 S.sweeps)) ∧ w'.cell? ⟨w.heap.size, 4, none⟩ = some (.slice ra S.l.length rc)))
      (first | with_reducible exact HK0.out | with_reducible exact HKA.out | with_reducible exact HK7.out) (first | (go_at_call 67; ((with_reducible refine HC1.out.mono ?_); rintro e w7 ⟨⟨a7, c7, s7, rfl, ha7, hc7, hn7, hm7⟩, hb7⟩; have HA7 := Lib.hid ha7; have HB7 := Lib.hid (HBA.out.trans (hb7.mono HBA.out.size)); have HK7 := Lib.hid (HKP.out _ HB7.out); have HM7 := Lib.hid (rmany_ok w7 a7 S.l.length c7 s7 hlm hc7); clear ha7 hb7)) | (go_at_call 66; ((with_reducible refine HM7.out.mono ?_); rintro e w8 ⟨rfl, rfl⟩)))
    go_wp2_with fail
    go_ret2
    exact ⟨⟨_, by rw [HFE.out]; rfl, (fun h => by rw [HK.out] at h; cases h), (fun _ => ⟨s7, HA7.out, rfl⟩)⟩, HB3.out.trans (HB7.out.mono HB3.out.size)⟩
end Go.Proofs.Ytdalnhhenahcjaa
