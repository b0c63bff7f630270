/- The laws of layer 5: awake. -/
import Derived.Test.YtoegenacjhmicaaQuanF
namespace Go.Proofs.Ytoegenacjhmicaa
open Go.RowKit HP NP
theorem QSt.mkv {w0 w : World} {B p q qn : Nat} {S : NS} {r : Nat} (h : QSt w0 w B p q qn S r) (v lo hi : Nat) (gl gh : (Nat → Bool) → Bool) (hl : Den S lo gl) (hh : Den S hi gh) (fl : From gl (v + 1)) (fh : From gh (v + 1)) (hv : v < 4) :
    Calls Try.prog 35 #[.pointer (some ⟨p, 0, none⟩), .int .i64 (v : Int), .int .i64 (lo : Int), .int .i64 (hi : Int)] w (OpPost B p q S (fun ρ => if ρ v then gh ρ else gl ρ) 1 w) :=
  mk_step w B p q S h.sto h.ops h.hB v lo hi gl gh hl hh fl fh (h.toOSt.vf hv)
theorem from_const (b : Bool) (u : Nat) : From (fun _ => b) u := fun _ _ _ => rfl
theorem from_var (i u : Nat) (h : u ≤ i) : From (fun ρ => ρ i) u := fun _ _ he => he i h
set_option maxRecDepth 100000 in
set_option maxHeartbeats 3200000 in
theorem awake05 (w : World) : Calls Try.prog 15 #[] w (Fine w) := by
  go_enter Try.func15, Try.ntmps15
  go_wp2_with fail
  refine (begun05 w w.heap.size 100 (Nat.le_refl _) (by decide) (by decide)).mono ?_
  rintro e w1 ⟨p, q, qn, rfl, hs, ho, hq, hb⟩
  have H1 := Lib.hid (QSt.begin (r := 98) hs ho hq hb (by decide))
  clear hs ho hq hb
  go_wp2_with fail
  refine (H1.out.mkv 1 0 1 _ _ (Den.zero H1.out.wf) (Den.one H1.out.wf) (from_const _ _) (from_const _ _) (by decide)).mono ?_
  intro e w2 hr
  obtain ⟨S2, y, rfl, ho, hg⟩ := H1.out.got hr (by decide)
  have H2 := Lib.hid ho; have Dy := Lib.hid (hg.den.cong (g' := fun ρ => ρ 1) (fun ρ => by cases ρ 1 <;> rfl))
  clear hr ho hg
  go_wp2_with fail
  refine (H2.out.mkv 0 0 y _ _ (Den.zero H2.out.wf) Dy.out (from_const _ _) (from_var 1 1 (by decide)) (by decide)).mono ?_
  intro e w3 hr
  obtain ⟨S3, x, rfl, ho, hg⟩ := H2.out.got hr (by decide)
  have H3 := Lib.hid ho; have Dx := Lib.hid (hg.den.cong (g' := fun ρ => ρ 0 && ρ 1) (fun ρ => by cases ρ 0 <;> rfl))
  replace Dy := Lib.hid (hg.lift Dy.out)
  clear hr ho hg
  have hal := (Below.refl w3.heap.size w3).alloc (Nat.le_refl _) (.cells #[.int .i64 0] 3)
  have H4 := Lib.hid (H3.out.below hal)
  have HEX := Lib.hid (qex_ok (w3.alloc (.cells #[.int .i64 0] 3)) _ p q qn S3 H4.out.sto H4.out.ops H4.out.qu H4.out.hB x Dx.out.is (some ⟨w3.heap.size, 0, none⟩) [0] 1 (by decide) (Cells.lit w3 _ _) (by simp [vOk]; have := H4.out.v4; omega) 32 (by rw [H4.out.v4]; decide))
  clear hal
  go_wp2_with fail
  refine HEX.out.mono ?_
  intro e w5 hr
  obtain ⟨S5, n, rfl, ho, hg⟩ := H4.out.got hr (by decide)
  have H5 := Lib.hid ho
  have Dn := Lib.hid (hg.den.cong (g' := fun ρ => ρ 1) (fun ρ => by
    refine bool_iff ⟨fun h => ?_, fun h => ?_⟩
    · obtain ⟨σ, h1, h2⟩ := exQ_iff.1 h
      have h2' : den S3.l σ x = true := h2
      rw [Dx.out.says, Bool.and_eq_true] at h2'
      have e1 := h1 1 (by simp [inS])
      rw [← e1]; exact h2'.2
    · refine exQ_iff.2 ⟨upR ρ 0 true, fun i hi => ?_, ?_⟩
      · unfold upR
        rw [if_neg (by rintro rfl; simp [inS] at hi)]
      · show den S3.l _ x = true
        rw [Dx.out.says]
        unfold upR; simp; exact h))
  replace Dy := Lib.hid (hg.lift Dy.out)
  replace Dx := Lib.hid (hg.lift Dx.out)
  clear hr ho hg HEX
  obtain rfl : y = n := Den.same H5.out.wf Dy.out Dn.out
  go_wp2_with fail
  refine (qrs_ok w5 _ p q qn S5 H5.out.sto H5.out.ops H5.out.qu H5.out.hB x 1 true Dx.out.is (by have := H5.out.v4; omega) 15 (by rw [H5.out.v4]; decide)).mono ?_
  intro e w6 hr
  obtain ⟨S6, m, rfl, ho, hg⟩ := H5.out.got hr (by decide)
  have H6 := Lib.hid ho; have Dm := Lib.hid (hg.den.cong (g' := fun ρ => ρ 0) (fun ρ => by unfold rsT; rw [Dx.out.says]; unfold upR; simp))
  clear hr ho hg
  go_wp2_with fail
  refine (H6.out.mkv 0 0 1 _ _ (Den.zero H6.out.wf) (Den.one H6.out.wf) (from_const _ _) (from_const _ _) (by decide)).mono ?_
  intro e w7 hr
  obtain ⟨S7, z, rfl, ho, hg⟩ := H6.out.got hr (by decide)
  have H7 := Lib.hid ho; have Dz := Lib.hid (hg.den.cong (g' := fun ρ => ρ 0) (fun ρ => by cases ρ 0 <;> rfl))
  replace Dm := Lib.hid (hg.lift Dm.out)
  clear hr ho hg
  obtain rfl : m = z := Den.same H7.out.wf Dm.out Dz.out
  go_wp2_with fail
  go_ret
  exact ⟨rfl, H7.out.toOSt.fin⟩
/-! ### the laws of Restrict -/
theorem low2 (z : Int) : ∃ a : Nat, bits .and .i64 z 3 = (a : Int) ∧ a < 4 := ⟨(z % 4).toNat, by rw [show bits .and .i64 z 3 = z % 4 from and_low z 2 (by decide)]; omega, by omega⟩
theorem low16q (z : Int) : ∃ a : Nat, bits .and .i64 z 65535 = (a : Int) ∧ a < 65536 := ⟨(z % 65536).toNat, by rw [show bits .and .i64 z 65535 = z % 65536 from and_low z 16 (by decide)]; omega, by omega⟩
end Go.Proofs.Ytoegenacjhmicaa
