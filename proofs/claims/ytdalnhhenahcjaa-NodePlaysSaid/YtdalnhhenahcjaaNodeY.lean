/- osierlaw03.table: the node that says what sixteen bits say. -/
import Derived.Test.YtdalnhhenahcjaaNodeX
namespace Go.Proofs.Ytdalnhhenahcjaa
open Go.RowKit HP NP
/-- which bit the values tell, the variables from v on not yet asked: f of them -/
def idx (ρ : Nat → Bool) : Nat → Nat → Nat → Nat
  | 0, _, fr => fr
  | f + 1, v, fr => idx ρ f (v + 1) (if ρ v then fr + 2 ^ v else fr)
structure TabOk (S : NS) (x : List Bool) (f v fr : Nat) (S' : NS) (k : Nat) : Prop where
  wf : Wf S'
  ext : Ext S S'
  is : isB S'.l k = true
  ge : v ≤ (nd S'.l k).v
  says : ∀ ρ, den S'.l ρ k = x.getD (idx ρ f v fr) false
  cnt : cnt S'.l + 1 ≤ cnt S.l + 2 ^ f
  pin : ∀ j, (nd S'.l j).pins ≤ (nd S.l j).pins
theorem TabOk.leaf {S : NS} (hW : Wf S) (h4 : S.vars = 4) (x : List Bool) (fr : Nat) (b : Bool) (hb : x.getD fr false = b) : TabOk S x 0 4 fr S b.toNat := by
  refine ⟨hW, Ext.refl _, ?_, ?_, fun ρ => ?_, by simp, fun _ => Nat.le_refl _⟩
  · cases b
    · exact hW.is0
    · exact hW.is1
  · cases b
    · show 4 ≤ (nd S.l 0).v; rw [hW.v0, h4]; exact Nat.le_refl _
    · show 4 ≤ (nd S.l 1).v; rw [hW.v1, h4]; exact Nat.le_refl _
  · rw [den_leaf _ _ (by cases b <;> decide)]
    show _ = x.getD fr false
    rw [hb]; cases b <;> rfl
theorem TabOk.node {S S1 S2 S3 : NS} {x : List Bool} {f v fr lo hi k : Nat} (h1 : TabOk S x f (v + 1) fr S1 lo) (h2 : TabOk S1 x f (v + 1) (fr + 2 ^ v) S2 hi) (h3 : MkOk S2 v lo hi S3 k) : TabOk S x (f + 1) v fr S3 k := by
  refine ⟨h3.wf, (h1.ext.trans h2.ext).trans h3.ext, h3.is, h3.ge, fun ρ => ?_, ?_, fun j => Nat.le_trans (h3.pin j) (Nat.le_trans (h2.pin j) (h1.pin j))⟩
  · rw [h3.says ρ, h2.ext.den' h1.wf h2.wf ρ h1.is, h1.says, h2.says]
    show _ = x.getD (idx ρ f (v + 1) (if ρ v then fr + 2 ^ v else fr)) false
    cases ρ v <;> rfl
  · have a := h1.cnt; have b := h2.cnt; have c := h3.cnt
    rw [Nat.pow_succ]; omega
def TablePost (B p : Nat) (S : NS) (x : List Bool) (f v fr : Nat) (w : World) (e : Ending) (w' : World) : Prop :=
  ∃ (S' : NS) (k : Nat), e = .returned (.tuple #[.int .i64 (k : Int), .bool true]) ∧ Sto w' B p S' ∧ Kp TN B w w' ∧ TabOk S x f v fr S' k
theorem and15 : ∀ f : Nat, f < 16 → bits .and .i64 (f : Int) 15 = (f : Int) := by decide +kernel
set_option maxRecDepth 100000 in
set_option maxHeartbeats 2000000 in
theorem table_ok (B p : Nat) (xa : Option Addr) (xB xc : Nat) (x : List Bool) (hx : x.length = 16) : ∀ (f : Nat) (v : Nat) (w : World) (S : NS) (fr : Nat), f + v = 4 → fr < 2 ^ v → Sto w B p S → B ≤ w.heap.size → S.vars = 4 → cnt S.l + 2 ^ f ≤ S.budget + 1 → BoolsAt w xB xa x →
    Calls Try.prog 27 #[.pointer (some ⟨p, 0, none⟩), .int .i64 (v : Int), .int .i64 (fr : Int), .slice xa 16 xc] w (TablePost B p S x f v fr w) := by
  intro f
  induction f with
  | zero =>
    intro v w S fr hf hfr h hB h4 hb hxa
    have hv : v = 4 := by omega
    subst hv
    have hfr' : fr < 16 := hfr
    have ha := and15 fr hfr'
    obtain ⟨b, hbv⟩ : ∃ b, b = x.getD fr false := ⟨_, rfl⟩
    obtain ⟨xb, xo, rfl, hxl, hc⟩ := hxa.1.at_ (k := fr) (v := .bool b) (by rw [List.getElem?_map, List.getElem?_eq_getElem (by omega), hbv, List.getD_eq_getElem?_getD, List.getElem?_eq_getElem (by omega)]; rfl)
    have HT := Lib.hid (TabOk.leaf h.wf h4 x fr b hbv.symm)
    have HS := Lib.hid h
    clear hf hfr hb hxa hbv h h4 hx
    cases b with
    | false =>
      go_enter Try.func27, Try.ntmps27
      go_wp2_with fail
      go_ret2
      exact ⟨S, 0, rfl, HS.out, Kp.refl _ _ _, HT.out⟩
    | true =>
      go_enter Try.func27, Try.ntmps27
      go_wp2_with fail
      go_ret2
      exact ⟨S, 1, rfl, HS.out, Kp.refl _ _ _, HT.out⟩
  | succ f ih =>
    intro v w S fr hf hfr h hB h4 hb hxa
    have IH := Lib.hid ih
    have hv : v < 4 := by omega
    have hpw : 2 ^ v ≤ 8 := by
      have : v = 0 ∨ v = 1 ∨ v = 2 ∨ v = 3 := by omega
      rcases this with rfl | rfl | rfl | rfl <;> decide
    have hfr16 : fr < 8 := by omega
    have d4 : ((v : Int) == 4) = false := beq_eq_false_iff_ne.2 (by omega)
    have HFV := Lib.hid hf; have HFR := Lib.hid hfr; have HS := Lib.hid h; have H4 := Lib.hid h4; have HBU := Lib.hid hb; have HXA := Lib.hid hxa; have HX := Lib.hid hx
    obtain ⟨pw, hpe⟩ : ∃ pw, pw = 2 ^ v := ⟨_, rfl⟩
    have HPE := Lib.hid hpe
    clear ih hf hfr h h4 hb hxa hx
    rw [← hpe] at hpw
    clear hpe
    have hp2 : 2 ^ (f + 1) = 2 ^ f + 2 ^ f := by rw [Nat.pow_succ]; omega
    have hpf : 1 ≤ 2 ^ f := Nat.one_le_two_pow
    have HP2 := Lib.hid hp2; have HPF := Lib.hid hpf
    clear hp2 hpf
    go_enter Try.func27, Try.ntmps27
    go_wp2_with fail
    refine (IH.out (v + 1) w S fr (by have := HFV.out; omega) (by have := HFR.out; rw [Nat.pow_succ]; omega) HS.out hB H4.out (by have := HBU.out; have := HP2.out; have := HPF.out; omega) HXA.out).mono ?_
    rintro e w1 ⟨S1, lo, rfl, hs1, hk1, ht1⟩
    have HS1 := Lib.hid hs1; have HK1 := Lib.hid hk1; have HT1 := Lib.hid ht1
    have hB1 : B ≤ w1.heap.size := by have := hk1.size; omega
    clear hs1 hk1 ht1
    go_wp2_with fail
    have hwr : wrap64 ((fr : Int) + wrap64 (2 ^ v)) = ((fr + 2 ^ v : Nat) : Int) := by
      have hv4 : v = 0 ∨ v = 1 ∨ v = 2 ∨ v = 3 := by omega
      have e : ((2 : Int) ^ v) = ((2 ^ v : Nat) : Int) := by rcases hv4 with rfl | rfl | rfl | rfl <;> rfl
      rw [e, ← HPE.out, w64 (pw : Int) (by omega) (by omega), w64 _ (by omega) (by omega)]
      rfl
    rw [hwr]
    refine (IH.out (v + 1) w1 S1 (fr + 2 ^ v) (by have := HFV.out; omega) (by have := HFR.out; rw [Nat.pow_succ]; omega) HS1.out hB1 (by rw [HT1.out.ext.vars]; exact H4.out) (by rw [HT1.out.ext.budget]; have := HT1.out.cnt; have := HBU.out; have := HP2.out; have := HPF.out; omega) (HXA.out.kb HK1.out.kb rfl)).mono ?_
    rintro e w2 ⟨S2, hi, rfl, hs2, hk2, ht2⟩
    have HS2 := Lib.hid hs2; have HK2 := Lib.hid hk2; have HT2 := Lib.hid ht2
    have hB2 : B ≤ w2.heap.size := by have := hk2.size; omega
    obtain ⟨S3, k, hmk, hok⟩ := mkS_ok (S := S2) ht2.wf (v := v) (lo := lo) (hi := hi) (by rw [ht2.ext.vars, HT1.out.ext.vars, H4.out]; omega) (ht2.ext.isB HT1.out.is) ht2.is (by rw [ht2.ext.nds _ HT1.out.is]; have := HT1.out.ge; omega) (by have := ht2.ge; omega) (by rw [ht2.ext.budget, HT1.out.ext.budget]; have := ht2.cnt; have := HT1.out.cnt; have := HBU.out; have := HP2.out; have := HPF.out; omega)
    have HMK := Lib.hid hmk; have HOK := Lib.hid hok
    clear hs2 hk2 ht2 hmk hok hwr
    go_wp2_with fail
    refine (nmk_ok w2 B p S2 HS2.out hB2 (v : Int) (lo : Int) (hi : Int)).mono ?_
    rintro e w3 ⟨rfl, hs3, hk3⟩
    rw [HMK.out] at hs3 ⊢
    have HS3 := Lib.hid hs3; have HK3 := Lib.hid hk3
    clear hs3 hk3
    go_wp2_with fail
    go_ret2
    exact ⟨S3, k, rfl, HS3.out, (HK1.out.trans HK2.out).trans HK3.out, TabOk.node HT1.out HT2.out HOK.out⟩
end Go.Proofs.Ytdalnhhenahcjaa
