/- OperRoom: the walk. -/
import Derived.Test.YtffkehefkmdadaaOperL1
import Derived.Deep.RegionHeld3
namespace Go.Proofs.Ytffkehefkmdadaa
open Go.RowKit HP NP
theorem OSt.cntle {w0 w : World} {B p q : Nat} {S : NS} {r : Nat} (h : OSt w0 w B p q S r) : cnt S.l ≤ S.budget := by have := h.room; omega
/-- Make, with room or without -/
theorem OSt.madeAny {w0 w : World} {B p q : Nat} {S : NS} {r X : Nat} (h : OSt w0 w B p q S r) {e : Ending} {w' : World} (hr : MakePost B p S X w e w') :
    ∃ (S' : NS) (k : Nat) (b : Bool), e = .returned (.tuple #[.int .i64 (k : Int), .bool b]) ∧ OSt w0 w' B p q S' 0 ∧ Ext S S' ∧ (b = true → Den S' k (tbl X)) := by
  obtain ⟨S', h1, h3, h4⟩ := hr
  have hle : cnt S'.l ≤ S'.budget := Nat.le_trans (cnt_le _) h1.wf.len
  have hB' : B ≤ w'.heap.size := by have := h3.size; have := h.hB; omega
  rcases h4 with ⟨k, h5, h6⟩ | ⟨h5, h6⟩
  · exact ⟨S', k, true, h5, ⟨h1, (h.ops.kb h3.kb rfl rfl).ext h6.ext h.wf h1.wf h6.sw, h.kp.trans (h3.mono to_tn (Nat.le_refl _)), hB', h.h0, h6.ext.vars.trans h.v4, hle⟩, h6.ext, fun _ => h6.den⟩
  · exact ⟨S', 0, false, h5, ⟨h1, (h.ops.kb h3.kb rfl rfl).ext h6.ext h.wf h1.wf h6.sw, h.kp.trans (h3.mono to_tn (Nat.le_refl _)), hB', h.h0, h6.ext.vars.trans h.v4, hle⟩, h6.ext, fun hh => by cases hh⟩
theorem OSt.gotAny {w0 w : World} {B p q : Nat} {S : NS} {r : Nat} (h : OSt w0 w B p q S r) {g : (Nat → Bool) → Bool} {n : Nat} {e : Ending} {w' : World} (hr : OpPost B p q S g n w e w') :
    (∃ (S' : NS) (k : Nat), e = .returned (.tuple #[.int .i64 (k : Int), .int .i64 0]) ∧ OSt w0 w' B p q S' 0 ∧ Ext S S' ∧ Den S' k g) ∨ (∃ S' : NS, e = .returned (.tuple #[.int .i64 0, .int .i64 30]) ∧ OSt w0 w' B p q S' 0 ∧ Ext S S') := by
  obtain ⟨S', h1, h2, h3, h4⟩ := hr
  have hle : cnt S'.l ≤ S'.budget := Nat.le_trans (cnt_le _) h1.wf.len
  have hB' : B ≤ w'.heap.size := by have := h3.size; have := h.hB; omega
  rcases h4 with ⟨k, h5, h6⟩ | ⟨h5, h6⟩
  · exact .inl ⟨S', k, h5, ⟨h1, h2, h.kp.trans h3, hB', h.h0, h6.ext.vars.trans h.v4, hle⟩, h6.ext, h6.den⟩
  · exact .inr ⟨S', h5, ⟨h1, h2, h.kp.trans h3, hB', h.h0, h6.ext.vars.trans h.v4, hle⟩, h6.ext⟩
/-- the state with the array's block -/
structure RmS (w w' : World) (p q : Nat) (S : NS) (z0 z1 z2 : Int) : Prop where
  ost : OSt w w' w.heap.size p q S 0
  blk : Blk w' w.heap.size 22 #[.int .i64 z0, .int .i64 z1, .int .i64 z2]
theorem RmS.below {w w' w2 : World} {p q : Nat} {S : NS} {z0 z1 z2 : Int} (h : RmS w w' p q S z0 z1 z2) (hb : Below w'.heap.size w' w2) : RmS w w2 p q S z0 z1 z2 := ⟨h.ost.below hb, h.blk.below hb h.blk.lt⟩
theorem RmS.drew {w w' : World} {p q : Nat} {S : NS} {z0 z1 z2 : Int} (h : RmS w w' p q S z0 z1 z2) : RmS w w'.drew p q S z0 z1 z2 := h.below (bdN' w' 1)
theorem RmS.len {w w' : World} {p q : Nat} {S : NS} {z0 z1 z2 : Int} (h : RmS w w' p q S z0 z1 z2) (c : Nat) (hc : cnt S.l = c) : Calls Try.prog 35 #[.pointer (some ⟨p, 0, none⟩)] w' fun e w2 => e = .returned (.int .i64 (c : Int)) ∧ RmS w w2 p q S z0 z1 z2 := by
  refine (nlen_ok w' _ p S h.ost.sto).mono ?_
  rintro e w2 ⟨rfl, rfl⟩
  exact ⟨by rw [hc], h⟩
theorem RmS.says {w w' : World} {p q : Nat} {S : NS} {z0 z1 z2 : Int} (h : RmS w w' p q S z0 z1 z2) (k X : Nat) (hX : X < 65536) (hk : Den S k (tbl X)) : Calls Try.prog 32 #[.pointer (some ⟨p, 0, none⟩), .int .i64 (k : Int)] w' fun e w2 => e = .returned (.int .i64 (X : Int)) ∧ RmS w w2 p q S z0 z1 z2 := by
  refine (tsays_ok w' _ p S h.ost.sto k hk.is).mono ?_
  rintro e w2 ⟨rfl, hb⟩
  exact ⟨by rw [tt_den hk hX], h.below hb⟩
theorem RmS.awake {w w' : World} {p q : Nat} {S : NS} {z0 z1 z2 : Int} (h : RmS w w' p q S z0 z1 z2) : Calls Try.prog 29 #[] w' fun e w2 => e = .returned (.bool true) ∧ RmS w w2 p q S z0 z1 z2 := by
  refine (awake04 w').mono ?_
  rintro e w2 ⟨rfl, hb⟩
  exact ⟨rfl, h.below hb⟩
set_option maxRecDepth 100000 in
set_option maxHeartbeats 4000000 in
theorem operRoom_walk (w : World) (z0 z1 z2 : Int) (kd : Int) (_wk : (Lit.int .i64 kd).wf = true) (rm : Int) (_wr : (Lit.int .i64 rm).wf = true) : Calls Try.prog 6 #[.agg #[.int .i64 z0, .int .i64 z1, .int .i64 z2], .int .i64 kd, .int .i64 rm] w (Fine w) := by
  obtain ⟨a, ha, ha2⟩ := low16 z0
  obtain ⟨b, hb, hb2⟩ := low16 z1
  obtain ⟨c, hc, hc2⟩ := low16 z2
  obtain ⟨k0, hk, hk2⟩ := low8 kd
  have hk3 : k0 % 6 < 6 := Nat.mod_lt _ (by decide)
  have hkr : (k0 : Int) % 6 = ((k0 % 6 : Nat) : Int) := by omega
  obtain ⟨k, hkk⟩ : ∃ k, k = k0 % 6 := ⟨_, rfl⟩
  rw [← hkk] at hk3 hkr
  clear hkk
  obtain ⟨r5, hr5, hr52⟩ : ∃ r5 : Nat, bits .and .i64 rm 31 = (r5 : Int) ∧ r5 < 32 := ⟨(rm % 32).toNat, by rw [show bits .and .i64 rm 31 = rm % 32 from and_low rm 5 (by decide)]; omega, by omega⟩
  obtain ⟨N, hN⟩ : ∃ N, N = 20 + r5 := ⟨_, rfl⟩
  have hN2 : 20 ≤ N ∧ N ≤ 51 := by omega
  have HNN : Hid ((20 : Int) + (r5 : Int) = (N : Int)) := Lib.hid (by omega)
  have HNW : Hid (IntKind.i64.wrap ((20 : Int) + (r5 : Int)) = (N : Int)) := Lib.hid (by rw [HNN.out, wrapN _ (by omega)])
  obtain ⟨hN20, hN51⟩ := hN2
  clear hN
  go_enter Try.func6, Try.ntmps6
  go_wp2_with fail
  rw [HNN.out]
  refine (begun04 _ w.heap.size N (by simp) (by omega) (by omega)).mono ?_
  rintro e w1 ⟨p, q, rfl, hs, ho, hb1⟩
  have HKB := Lib.hid ((Blk.new_ w 22 #[.int .i64 z0, .int .i64 z1, .int .i64 z2]).below hb1 (by simp))
  have x0 : w1.cell? ⟨w.heap.size, 0, none⟩ = some (.int .i64 z0) := HKB.out.cell 0
  have xl : w.heap.size < w1.heap.size := HKB.out.lt
  have hbb : Below w.heap.size w w1 := ((Below.refl w.heap.size w).alloc (Nat.le_refl _) _).trans (hb1.mono (by simp))
  have H1 := Lib.hid (OSt.start (r := 0) (Nat.le_refl _) hs ho hbb (by omega))
  have HBU : Hid ((newS 4 N).budget = N) := Lib.hid rfl
  obtain ⟨S1, hS1⟩ : ∃ S1, S1 = newS 4 N := ⟨_, rfl⟩
  rw [← hS1] at H1 HBU
  clear hs ho hb1 hbb hS1
  go_wp2_with fail
  refine (make_ok w1 _ p _ a ha2 H1.out.sto H1.out.hB H1.out.v4).mono ?_
  intro e w2 hr
  have HKB2 := Lib.hid ((show Kp TN w.heap.size w1 w2 from by obtain ⟨_, _, h, _⟩ := hr; exact h).blk HKB.out rfl)
  obtain ⟨S2, x, px, rfl, ho, he, hd⟩ := H1.out.madeAny hr
  have H2 := Lib.hid ho; have E2 := Lib.hid he; have Dx := Lib.hid hd
  have y1 : w2.cell? ⟨w.heap.size, 1, none⟩ = some (.int .i64 z1) := HKB2.out.cell 1
  have xl2 : w.heap.size < w2.heap.size := HKB2.out.lt
  clear hr ho he hd x0 xl
  go_wp2_with fail
  refine (make_ok w2 _ p _ b hb2 H2.out.sto H2.out.hB H2.out.v4).mono ?_
  intro e w3 hr
  have HKB3 := Lib.hid ((show Kp TN w.heap.size w2 w3 from by obtain ⟨_, _, h, _⟩ := hr; exact h).blk HKB2.out rfl)
  obtain ⟨S3, y, py, rfl, ho, he, hd⟩ := H2.out.madeAny hr
  have H3 := Lib.hid ho; have E3 := Lib.hid he; have Dy := Lib.hid hd
  have y2 : w3.cell? ⟨w.heap.size, 2, none⟩ = some (.int .i64 z2) := HKB3.out.cell 2
  have xl3 : w.heap.size < w3.heap.size := HKB3.out.lt
  clear hr ho he hd y1 xl2
  go_wp2_with fail
  refine (make_ok w3 _ p _ c hc2 H3.out.sto H3.out.hB H3.out.v4).mono ?_
  intro e w4 hr
  have HKB4 := Lib.hid ((show Kp TN w.heap.size w3 w4 from by obtain ⟨_, _, h, _⟩ := hr; exact h).blk HKB3.out rfl)
  obtain ⟨S4, z, pz, rfl, ho, he, hd⟩ := H3.out.madeAny hr
  have H4 := Lib.hid ho; have E4 := Lib.hid he; have Dz := Lib.hid hd
  clear hr ho he hd y2 xl3
  by_cases hall : px = true ∧ py = true ∧ pz = true
  · obtain ⟨rfl, rfl, rfl⟩ := hall
    have Ex := Lib.hid ((Dx.out rfl).ext (E3.out.trans E4.out) H2.out.wf H4.out.wf)
    have Ey := Lib.hid ((Dy.out rfl).ext E4.out H3.out.wf H4.out.wf)
    have Ez := Lib.hid (Dz.out rfl)
    go_wp2_with fail
    refine (does_ok w4 _ p q _ H4.out.sto H4.out.ops H4.out.hB H4.out.v4 k hk3 x y z _ _ _ Ex.out Ey.out Ez.out).mono ?_
    intro e w5 hr
    have HKB5 := Lib.hid ((show Kp TO w.heap.size w4 w5 from by obtain ⟨_, _, _, h, _⟩ := hr; exact h).blk HKB4.out rfl)
    rcases H4.out.gotAny hr with ⟨S5, n, rfl, ho, he, hd⟩ | ⟨S5, rfl, ho, he⟩
    · have HR := Lib.hid (RmS.mk ho HKB5.out)
      have Dn := Lib.hid (show Den S5 n (tbl (mustN k a b c)) from hd.cong (fun ρ => (mustN_tbl k a b c ρ).symm))
      have HKK : Hid (∀ w', RmS w w' p q S5 z0 z1 z2 → w'.cell? ⟨w.heap.size, 0, none⟩ = some (.int .i64 z0) ∧ w'.cell? ⟨w.heap.size, 1, none⟩ = some (.int .i64 z1) ∧ w'.cell? ⟨w.heap.size, 2, none⟩ = some (.int .i64 z2)) := Lib.hid fun w' h => ⟨h.blk.cell 0, h.blk.cell 1, h.blk.cell 2⟩
      have xl5 : w.heap.size < w5.heap.size := HKB5.out.lt
      have hwl := mustN_lt k a b c
      obtain ⟨wt, hwt⟩ : ∃ wt, wt = mustN k a b c := ⟨_, rfl⟩
      have HMU := Lib.hid (fun (w' : World) (h : RmS w w' p q S5 z0 z1 z2) => (must_ok w' k a b c hk3 ha2 hb2 hc2).mono (fun e w2 (hh : e = .returned (.int .i64 (mustN k a b c : Int)) ∧ w' = w2) => (show e = .returned (.int .i64 (wt : Int)) ∧ RmS w w2 p q S5 z0 z1 z2 from ⟨by rw [hwt]; exact hh.1, hh.2 ▸ h⟩)))
      rw [← hwt] at hwl Dn
      clear hr ho he hd hwt
      have HR0 := Lib.hid HR.out.drew
      go_wp2_with fail
      go_region_held3 (fun w' => w'.cell? ⟨w.heap.size, 0, none⟩ = some (.int .i64 z0) ∧ w'.cell? ⟨w.heap.size, 1, none⟩ = some (.int .i64 z1) ∧ w'.cell? ⟨w.heap.size, 2, none⟩ = some (.int .i64 z2))
        (first | with_reducible exact HKK.out _ hN8 | with_reducible exact HKK.out _ hN7 | with_reducible exact HKK.out _ hN6 | with_reducible exact HKK.out _ HR0.out) (first | (go_at_call 32; ((with_reducible refine (HR0.out.says n wt hwl Dn.out).mono ?_); rintro e w6 ⟨rfl, hN6⟩)) | (go_at_call 30; ((with_reducible refine (HMU.out _ hN6).mono ?_); rintro e w7 ⟨rfl, hN7⟩)) | (go_at_call 29; ((with_reducible refine hN7.awake.mono ?_); rintro e w8 ⟨rfl, hN8⟩)))
      have HN8 := Lib.hid hN8
      clear hN6 hN7 hN8
      go_wp2_with fail
      go_ret
      exact ⟨rfl, HN8.out.ost.fin⟩
    · have HR := Lib.hid (RmS.mk ho HKB5.out)
      have Fx := Lib.hid (Ex.out.ext he H4.out.wf ho.wf); have Fy := Lib.hid (Ey.out.ext he H4.out.wf ho.wf)
      have hcl : cnt S5.l ≤ N := by have := ho.cntle; rw [he.budget, E4.out.budget, E3.out.budget, E2.out.budget, HBU.out] at this; exact this
      obtain ⟨c0, hc0⟩ : ∃ c0, cnt S5.l = c0 := ⟨_, rfl⟩
      rw [hc0] at hcl
      have HC0 := Lib.hid hc0
      have HKK : Hid (∀ w', RmS w w' p q S5 z0 z1 z2 → w'.cell? ⟨w.heap.size, 0, none⟩ = some (.int .i64 z0) ∧ w'.cell? ⟨w.heap.size, 1, none⟩ = some (.int .i64 z1)) := Lib.hid fun w' h => ⟨h.blk.cell 0, h.blk.cell 1⟩
      have xl5 : w.heap.size < w5.heap.size := HKB5.out.lt
      have HR0 := Lib.hid HR.out.drew
      have hnw := HNW.out
      have hle : decide (c0 ≤ N) = true := decide_eq_true hcl
      clear hr ho he hc0
      go_wp2_with fail
      go_region_held3 (fun w' => w'.cell? ⟨w.heap.size, 0, none⟩ = some (.int .i64 z0) ∧ w'.cell? ⟨w.heap.size, 1, none⟩ = some (.int .i64 z1))
        (first | with_reducible exact HKK.out _ hN9 | with_reducible exact HKK.out _ hN8 | with_reducible exact HKK.out _ hN7 | with_reducible exact HKK.out _ hN6 | with_reducible exact HKK.out _ HR0.out) (first | (go_at_call 35; ((with_reducible refine (HR0.out.len c0 HC0.out).mono ?_); rintro e w6 ⟨rfl, hN6⟩)) | (go_at_call 32; (first | ((with_reducible refine (hN6.says x a ha2 Fx.out).mono ?_); rintro e w7 ⟨rfl, hN7⟩) | ((with_reducible refine (hN7.says y b hb2 Fy.out).mono ?_); rintro e w8 ⟨rfl, hN8⟩))) | (go_at_call 29; ((with_reducible refine hN8.awake.mono ?_); rintro e w9 ⟨rfl, hN9⟩)))
      have HN9 := Lib.hid hN9
      clear hN6 hN7 hN8 hN9
      go_wp2_with fail
      go_ret
      exact ⟨rfl, HN9.out.ost.fin⟩
  · have hno : (px = false) ∨ (px = true ∧ py = false) ∨ (px = true ∧ py = true ∧ pz = false) := by cases px <;> cases py <;> cases pz <;> simp_all
    clear hall
    rcases hno with rfl | ⟨rfl, rfl⟩ | ⟨rfl, rfl, rfl⟩
    all_goals
      go_wp2_with fail
      refine (awake04 w4).mono ?_
      rintro e w5 ⟨rfl, hb5⟩
      have H5 := Lib.hid (H4.out.below hb5)
      clear hb5
      go_wp2_with fail
      go_ret
      exact ⟨rfl, H5.out.fin⟩
end Go.Proofs.Ytffkehefkmdadaa
