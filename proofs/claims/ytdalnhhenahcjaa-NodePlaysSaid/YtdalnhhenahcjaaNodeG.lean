/- marks and Size (layer 3): their contracts. -/
import Derived.Test.YtdalnhhenahcjaaNodeF
import Derived.Test.YtdalnhhenahcjaaNodeT
import Derived.Test.YtdalnhhenahcjaaMap
namespace Go.Proofs.Ytdalnhhenahcjaa
open Go.RowKit HP NP
/-- a set of numbers as a map of bools -/
def setM (s : Nat → Bool) : Lit → Option Value
  | .int .i64 z => if decide (0 ≤ z) && s z.toNat then some (.bool true) else none
  | _ => none
theorem setM_at (s : Nat → Bool) (k : Nat) : setM s (.int .i64 (k : Int)) = if s k then some (.bool true) else none := by simp [setM]
theorem setM_set (s : Nat → Bool) (k : Nat) : setF (setM s) (.int .i64 (k : Int)) (.bool true) = setM (setB s k) := by
  funext l
  unfold setF
  by_cases e : l = .int .i64 (k : Int)
  · subst e
    simp [setM, setB, Lit.sameKey]
  · rw [Maps.sameKey_ne e]
    simp only [Bool.false_eq_true, if_false]
    cases l with
    | int kd z =>
      cases kd
      case i64 =>
        simp only [setM]
        by_cases hz : 0 ≤ z
        · have : z.toNat ≠ k := by rintro rfl; exact e (by rw [Int.toNat_of_nonneg hz])
          simp [setB, this]
        · simp [hz]
      all_goals rfl
    | _ => rfl
theorem keyI (k : Nat) (h : k ≤ 1048576) : keyOf Try.prog 3 (.int .i64 (k : Int)) = some (.int .i64 (k : Int)) := Maps.keyOf_int_mk Try.underlying3 (by rw [← IntWalk.wrap64_in (k : Int) ⟨by omega, by omega⟩]; exact wrap64_wf _)
theorem zeroB (w : World) : (zeroValue 4).run Try.prog w = .ok (.bool false) w := by kernel_rfl
def SetAt (w : World) (b : Nat) (n : Nat) (s : Nat → Bool) : Prop := MapAt w Try.prog 3 b (cntS s n) (setM s)
set_option maxRecDepth 100000 in
set_option maxHeartbeats 2000000 in
theorem nmarks_ok (B p b : Nat) (S : NS) : ∀ (f : Nat) (w : World) (k : Nat) (s : Nat → Bool), Sto w B p S → isB S.l k = true → S.vars - (nd S.l k).v < f → Cl S s (nd S.l k).v → SetAt w b S.l.length s →
    Calls Try.prog 49 #[.pointer (some ⟨p, 0, none⟩), .map (some b), .int .i64 (k : Int)] w fun e w' => e = .returned (.tuple #[]) ∧ ∃ s', Adds S.l k s s' ∧ SetAt w' b S.l.length s' ∧ w.grownBy w' (some b) := by
  intro f
  induction f with
  | zero => intro w k s _ _ hf; omega
  | succ f ih =>
    intro w k s h hk hf hcl hs
    have IH := Lib.hid ih
    clear ih
    have hW := h.wf
    have HSTO := Lib.hid h
    obtain ⟨g, q, cap, fa, fc, M, h⟩ := h
    have hlm := hW.lm
    have hkl := isB_lt hk
    have H := Lib.hid h; have HW := Lib.hid hW; have HK := Lib.hid hk; have HCL := Lib.hid hcl; have HS := Lib.hid hs; have HFU := Lib.hid hf
    have HKEY := Lib.hid (keyI k (by omega))
    clear h hW hk hcl hs hf
    have hat := setM_at s k
    cases hsk : s k with
    | true =>
      have hat2 : atF (setM s) (.int .i64 (k : Int)) (.bool false) = .bool true := by unfold atF; rw [hat, hsk]; rfl
      have HAT := Lib.hid hat2
      have HSK := Lib.hid hsk
      clear hat hat2 hsk
      go_enter Try.func49, Try.ntmps49
      go_wp2_with (at_lookup; refine wpList_mlook rfl (.tmp 6) (.tmp 7) 101 rfl 4 (Maps.int_keyed Try.underlying3) Try.underlying101 (zeroB _) rfl HS.out _ _ rfl HKEY.out ?_; rw [HAT.out])
      go_simp
      refine bodyPost_ret (results_none rfl _ _ _) rfl ?_
      exact ⟨rfl, s, Adds.same HW.out HCL.out HSK.out, HS.out, World.grownBy.refl _ _⟩
    | false =>
      have hat2 : atF (setM s) (.int .i64 (k : Int)) (.bool false) = .bool false := by unfold atF; rw [hat, hsk]; rfl
      have hns : setM s (.int .i64 (k : Int)) = none := by rw [hat, hsk]; rfl
      have HAT := Lib.hid hat2
      have HSK := Lib.hid hsk
      have HNS := Lib.hid hns
      have hcm : cntS s S.l.length < maxLen := by have := cntS_le s S.l.length; unfold maxLen; omega
      have HCM := Lib.hid hcm
      clear hat hat2 hsk hns hcm
      by_cases h2 : k < 2
      · have d2 : decide ((2 : Int) ≤ (k : Int)) = false := decide_eq_false (by omega)
        have d2' : decide (2 ≤ k) = false := decide_eq_false (by omega)
        have H2 := Lib.hid h2
        clear h2
        go_enter Try.func49, Try.ntmps49
        go_wp2_with (first | (at_lookup; refine wpList_mlook rfl (.tmp 6) (.tmp 7) 101 rfl 4 (Maps.int_keyed Try.underlying3) Try.underlying101 (zeroB _) rfl HS.out _ _ rfl HKEY.out ?_; rw [HAT.out]) | (at_mapUpdate; refine wpList_msetn rfl (.tmp 9) (.tmp 10) (.const (.bool true)) 101 rfl 4 (Maps.int_keyed Try.underlying3) Try.underlying101 rfl HS.out HCM.out _ _ _ rfl rfl HKEY.out (cntS s S.l.length + 1) (by rw [HNS.out]; rfl) ?_))
        intro w1 hs1 hg1
        have HG1 := Lib.hid hg1
        have hs1' : SetAt w1 b S.l.length (setB s k) := by
          unfold SetAt
          rw [cntS_set hkl HSK.out, ← setM_set]
          exact hs1
        have HS1 := Lib.hid hs1'
        clear hs1 hs1' hg1
        go_wp2_with fail
        go_end0
        exact ⟨rfl, setB s k, Adds.leaf H2.out, HS1.out, HG1.out⟩
      · have d2 : decide ((2 : Int) ≤ (k : Int)) = true := decide_eq_true (by omega)
        have d2' : decide (2 ≤ k) = true := decide_eq_true (by omega)
        have h2' : 2 ≤ k := by omega
        have H2 := Lib.hid h2'
        clear h2 h2'
        go_enter Try.func49, Try.ntmps49
        go_wp2_with (first | (at_lookup; refine wpList_mlook rfl (.tmp 6) (.tmp 7) 101 rfl 4 (Maps.int_keyed Try.underlying3) Try.underlying101 (zeroB _) rfl HS.out _ _ rfl HKEY.out ?_; rw [HAT.out]) | (at_mapUpdate; refine wpList_msetn rfl (.tmp 9) (.tmp 10) (.const (.bool true)) 101 rfl 4 (Maps.int_keyed Try.underlying3) Try.underlying101 rfl HS.out HCM.out _ _ _ rfl rfl HKEY.out (cntS s S.l.length + 1) (by rw [HNS.out]; rfl) ?_))
        intro w1 hs1 hg1
        have HG1 := Lib.hid hg1
        have hs1' : SetAt w1 b S.l.length (setB s k) := by
          unfold SetAt
          rw [cntS_set hkl HSK.out, ← setM_set]
          exact hs1
        have HS1 := Lib.hid hs1'
        have HI1 := Lib.hid (H.out.kb (MapAt.kb HS.out hg1 (fun _ => false)) rfl rfl rfl rfl rfl)
        have c2 : w1.cell? ⟨p, 2, none⟩ = some (.slice (some ⟨g, 0, none⟩) S.l.length cap) := HI1.out.tab.cell 2
        obtain ⟨gl, _, _, x2, x3, _⟩ := HI1.out.nd_ hkl
        obtain ⟨hv0, _, hlo, hhi, hvl, hvh⟩ := HW.out.kid k H2.out HK.out
        have HLO := Lib.hid hlo; have HHI := Lib.hid hhi; have HVL := Lib.hid hvl; have HVH := Lib.hid hvh; have HV0 := Lib.hid hv0
        clear hs1 hs1' hg1 hlo hhi hvl hvh hv0
        go_wp2_with fail
        refine (IH.out w1 _ (setB s k) ⟨_, _, _, _, _, _, HI1.out⟩ HLO.out (by have := HFU.out; have := HVL.out; have := HV0.out; omega) (HCL.out.mark HK.out HVL.out) HS1.out).mono ?_
        rintro e w2 ⟨rfl, s2, ha2, hs2, hg2⟩
        have HA2 := Lib.hid ha2; have HS2 := Lib.hid hs2; have HG2 := Lib.hid hg2
        have HI2 := Lib.hid (HI1.out.kb (MapAt.kb HS1.out hg2 (fun _ => false)) rfl rfl rfl rfl rfl)
        clear ha2 hs2 hg2 c2 gl x2 x3
        have c2 : w2.cell? ⟨p, 2, none⟩ = some (.slice (some ⟨g, 0, none⟩) S.l.length cap) := HI2.out.tab.cell 2
        obtain ⟨gl, _, _, x2, x3, _⟩ := HI2.out.nd_ hkl
        go_wp2_with fail
        refine (IH.out w2 _ s2 ⟨_, _, _, _, _, _, HI2.out⟩ HHI.out (by have := HFU.out; have := HVH.out; have := HV0.out; omega) ((HCL.out.mark HK.out HVH.out |> HA2.out.cl HW.out HLO.out)) HS2.out).mono ?_
        rintro e w3 ⟨rfl, s3, ha3, hs3, hg3⟩
        have HA3 := Lib.hid ha3; have HS3 := Lib.hid hs3; have HG3 := Lib.hid hg3
        clear ha3 hs3 hg3 c2 gl x2 x3
        go_wp2_with fail
        go_end0
        exact ⟨rfl, s3, Adds.node H2.out HA2.out HA3.out, HS3.out, grown_trans (grown_trans HG1.out HG2.out) HG3.out⟩
/-- how many nodes one is of -/
def SizePost (S : NS) (k : Int) (w : World) (e : Ending) (w' : World) : Prop :=
  (∃ n : Nat, e = .returned (.tuple #[.int .i64 (n : Int), .int .i64 (findE S k)]) ∧ (isK S.l k = false → n = 0) ∧ (isK S.l k = true → ∃ s, Adds S.l k.toNat (fun _ => false) s ∧ n = cntS s S.l.length)) ∧ Below w.heap.size w w'
set_option maxRecDepth 100000 in
set_option maxHeartbeats 1000000 in
theorem nsize_ok (w : World) (B p : Nat) (S : NS) (h : Sto w B p S) (k : Int) : Calls Try.prog 32 #[.pointer (some ⟨p, 0, none⟩), .int .i64 k] w (SizePost S k w) := by
  have HF := Lib.hid (nfind_ok w B p S h k)
  have HS := Lib.hid h
  clear h
  cases hk : isK S.l k with
  | false =>
    have hf : findE S k = 3 := by unfold findE; rw [hk]; rfl
    have HFE := Lib.hid hf; have HK := Lib.hid hk
    clear hk hf
    go_enter Try.func32, Try.ntmps32
    go_wp2_with fail
    refine HF.out.mono ?_
    rintro e w' ⟨rfl, rfl⟩
    rw [HFE.out]
    go_wp2_with fail
    go_ret2
    exact ⟨⟨0, by rw [HFE.out]; rfl, fun _ => rfl, fun h => by rw [HK.out] at h; cases h⟩, Below.refl _ _⟩
  | true =>
    obtain ⟨m, rfl, hb⟩ := isK_out hk
    have hf : findE S m = 0 := by unfold findE; rw [hk]; rfl
    have HFE := Lib.hid hf; have HBB := Lib.hid hb; have HK := Lib.hid hk
    clear hk hf hb
    have hmk := @run_makeMap Try.prog
    go_enter Try.func32, Try.ntmps32
    go_wp2_with fail
    refine HF.out.mono ?_
    rintro e w' ⟨rfl, rfl⟩
    rw [HFE.out]
    go_wp2_with fail
    have hW := HS.out.wf
    have hb1 : Below w.heap.size w (w.alloc (.map #[] 0)) := (Below.refl _ _).alloc (Nat.le_refl _) _
    have hs0 : SetAt (w.alloc (.map #[] 0)) w.heap.size S.l.length (fun _ => false) := by
      have e1 : cntS (fun _ => false) S.l.length = 0 := by unfold cntS; simp
      have e2 : setM (fun _ => false) = fun _ => none := by funext l; unfold setM; split <;> simp
      unfold SetAt; rw [e1, e2]; exact MapAt.made _ _ _
    refine (nmarks_ok B p w.heap.size S 257 _ m (fun _ => false) (HS.out.below hb1) HBB.out (by have := hW.v256; omega) ⟨(fun _ h => by cases h), (fun _ h => by cases h)⟩ hs0).mono ?_
    rintro e w2 ⟨rfl, s, ha, hs, hg⟩
    have HA := Lib.hid ha; have HS2 := Lib.hid hs; have HG := Lib.hid hg
    have HB := Lib.hid (hb1.grown hg (by simp) (fun j hj => by injection hj with hj; omega))
    clear ha hs hg hs0 hb1 hW
    go_wp2_with (at_len; refine wpList_mlen rfl (.tmp 19) 101 rfl 4 Try.underlying101 rfl HS2.out ?_)
    go_ret2
    exact ⟨⟨_, by rw [HFE.out]; rfl, (fun h => by rw [HK.out] at h; cases h), (fun _ => ⟨s, HA.out, rfl⟩)⟩, HB.out⟩
end Go.Proofs.Ytdalnhhenahcjaa
