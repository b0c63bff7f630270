/- keeps (layer 3): its contract: a set of nodes marked in a slice of bools. -/
import Derived.Test.YtdalnhhenahcjaaNodeG
namespace Go.Proofs.Ytdalnhhenahcjaa
open Go.RowKit HP NP
/-- block sb is a row of n bools, made from R on: the set s -/
def SeenAt (w : World) (R sb cap n : Nat) (s : Nat → Bool) : Prop := w.ownsRow R 4 1 (.slice (some ⟨sb, 0, none⟩) n cap) n ((List.range n).map fun j => .bool (s j))
def TB1 (t : TypeId) : Bool := t == 4
theorem SeenAt.kb {w w' : World} {R sb cap n : Nat} {s : Nat → Bool} (h : SeenAt w R sb cap n s) (hg : w.grownBy w' (some sb)) : Kb TB1 w w' := by
  obtain ⟨cs, hc, _⟩ := own_blk h
  exact (Kp.grown (T := TB1) (B := 0) hg (fun k e _ => by injection e with e; subst e; exact ⟨Nat.zero_le _, cs, _, _, hc, by rfl⟩)).kb
theorem SeenAt.cell {w : World} {R sb cap n : Nat} {s : Nat → Bool} (h : SeenAt w R sb cap n s) {k : Nat} (hk : k < n) : sb < w.heap.size ∧ w.cell? ⟨sb, k, none⟩ = some (.bool (s k)) ∧ w.frozen? ⟨sb, k, none⟩ = false := by
  obtain ⟨cs, hc, _⟩ := own_blk h
  refine ⟨hc.lt, ?_, World.ownsRow.frozenAt h k⟩
  rw [World.ownsRow.cellAt h k (by omega)]
  simp [hk]
theorem SeenAt.set {w : World} {R sb cap n : Nat} {s : Nat → Bool} (h : SeenAt w R sb cap n s) (k : Nat) : SeenAt (w.setCell ⟨sb, k, none⟩ (.bool true)) R sb cap n (setB s k) ∧ w.grownBy (w.setCell ⟨sb, k, none⟩ (.bool true)) (some sb) := by
  obtain ⟨h1, h2⟩ := World.ownsRow.stored h k (.bool true)
  refine ⟨?_, h2⟩
  unfold SeenAt
  have e : ((List.range n).map fun j => Value.bool (s j)).set k (.bool true) = (List.range n).map fun j => Value.bool (setB s k j) := by
    apply List.ext_getElem?
    intro j
    rw [List.getElem?_set]
    by_cases hj : k = j
    · subst hj
      by_cases hkn : k < n
      · simp [hkn, setB]
      · simp [hkn]
    · rw [if_neg hj]
      by_cases hjn : j < n
      · simp [hjn, setB, Ne.symm hj]
      · simp [hjn]
  rw [← e]; exact h1
theorem SeenAt.keep {T : TypeId → Bool} {w w' : World} {R sb cap n : Nat} {s : Nat → Bool} (h : SeenAt w R sb cap n s) (hk : Kb T w w') (ht : T 4 = false) : SeenAt w' R sb cap n s := own_kb h hk ht
set_option maxRecDepth 100000 in
set_option maxHeartbeats 2000000 in
theorem nkeeps_ok (B p R sb scap : Nat) (S : NS) : ∀ (f : Nat) (w : World) (k : Nat) (s : Nat → Bool), Sto w B p S → isB S.l k = true → S.vars - (nd S.l k).v < f → Cl S s (nd S.l k).v → SeenAt w R sb scap S.l.length s →
    Calls Try.prog 52 #[.pointer (some ⟨p, 0, none⟩), .slice (some ⟨sb, 0, none⟩) S.l.length scap, .int .i64 (k : Int)] w fun e w' => e = .returned (.tuple #[]) ∧ ∃ s', Adds S.l k s s' ∧ SeenAt w' R sb scap S.l.length s' ∧ w.grownBy w' (some sb) := by
  intro f
  induction f with
  | zero => intro w k s _ _ hf; omega
  | succ f ih =>
    intro w k s h hk hf hcl hs
    have IH := Lib.hid ih
    clear ih
    have hW := h.wf
    obtain ⟨g, q, cap, fa, fc, M, h⟩ := h
    have hlm := hW.lm
    have hkl := isB_lt hk
    obtain ⟨sl, s0, sf⟩ := hs.cell hkl
    have H := Lib.hid h; have HW := Lib.hid hW; have HK := Lib.hid hk; have HCL := Lib.hid hcl; have HS := Lib.hid hs; have HFU := Lib.hid hf
    clear h hW hk hcl hs hf
    cases hsk : s k with
    | true =>
      rw [hsk] at s0
      have HSK := Lib.hid hsk
      clear hsk
      go_enter Try.func52, Try.ntmps52
      go_wp2_with fail
      refine bodyPost_ret (results_none rfl _ _ _) rfl ?_
      exact ⟨rfl, s, Adds.same HW.out HCL.out HSK.out, HS.out, World.grownBy.refl _ _⟩
    | false =>
      rw [hsk] at s0
      have HSK := Lib.hid hsk
      have HS1 := Lib.hid (HS.out.set k).1
      have HG1 := Lib.hid (HS.out.set k).2
      clear hsk
      by_cases h2 : k < 2
      · have d2 : decide ((2 : Int) ≤ (k : Int)) = false := decide_eq_false (by omega)
        have d2' : decide (2 ≤ k) = false := decide_eq_false (by omega)
        have H2 := Lib.hid h2
        clear h2
        go_enter Try.func52, Try.ntmps52
        go_wp2_with fail
        go_end0
        exact ⟨rfl, setB s k, Adds.leaf H2.out, HS1.out, HG1.out⟩
      · have d2 : decide ((2 : Int) ≤ (k : Int)) = true := decide_eq_true (by omega)
        have d2' : decide (2 ≤ k) = true := decide_eq_true (by omega)
        have h2' : 2 ≤ k := by omega
        have H2 := Lib.hid h2'
        have HI1 := Lib.hid (H.out.kb (HS.out.kb HG1.out) rfl rfl rfl rfl rfl)
        obtain ⟨w1, hw1⟩ : ∃ w1, w1 = w.setCell ⟨sb, k, none⟩ (.bool true) := ⟨_, rfl⟩
        have c2 : (w.setCell ⟨sb, k, none⟩ (.bool true)).cell? ⟨p, 2, none⟩ = some (.slice (some ⟨g, 0, none⟩) S.l.length cap) := HI1.out.tab.cell 2
        obtain ⟨gl, _, _, x2, x3, _⟩ := HI1.out.nd_ hkl
        obtain ⟨hv0, _, hlo, hhi, hvl, hvh⟩ := HW.out.kid k H2.out HK.out
        have HLO := Lib.hid hlo; have HHI := Lib.hid hhi; have HVL := Lib.hid hvl; have HVH := Lib.hid hvh; have HV0 := Lib.hid hv0
        clear h2 h2' hlo hhi hvl hvh hv0 hw1
        go_enter Try.func52, Try.ntmps52
        go_wp2_with fail
        refine (IH.out _ _ (setB s k) ⟨_, _, _, _, _, _, HI1.out⟩ HLO.out (by have := HFU.out; have := HVL.out; have := HV0.out; omega) (HCL.out.mark HK.out HVL.out) HS1.out).mono ?_
        rintro e w2 ⟨rfl, s2, ha2, hs2, hg2⟩
        have HA2 := Lib.hid ha2; have HS2 := Lib.hid hs2; have HG2 := Lib.hid hg2
        have HI2 := Lib.hid (HI1.out.kb (HS1.out.kb hg2) rfl rfl rfl rfl rfl)
        clear ha2 hs2 hg2 c2 gl x2 x3 sl s0 sf
        have c2 : w2.cell? ⟨p, 2, none⟩ = some (.slice (some ⟨g, 0, none⟩) S.l.length cap) := HI2.out.tab.cell 2
        obtain ⟨gl, _, _, x2, x3, _⟩ := HI2.out.nd_ hkl
        go_wp2_with fail
        refine (IH.out w2 _ s2 ⟨_, _, _, _, _, _, HI2.out⟩ HHI.out (by have := HFU.out; have := HVH.out; have := HV0.out; omega) ((HCL.out.mark HK.out HVH.out |> HA2.out.cl HW.out HLO.out)) HS2.out).mono ?_
        rintro e w3 ⟨rfl, s3, ha3, hs3, hg3⟩
        have HA3 := Lib.hid ha3; have HS3 := Lib.hid hs3; have HG3 := Lib.hid hg3
        clear ha3 hs3 hg3 c2 gl x2 x3
        go_wp2_with fail
        go_end0
        exact ⟨rfl, s3, Adds.node H2.out HA2.out HA3.out, HS3.out, grown_trans (grown_trans HG1.out HG2.out) HG3.out⟩
end Go.Proofs.Ytdalnhhenahcjaa
