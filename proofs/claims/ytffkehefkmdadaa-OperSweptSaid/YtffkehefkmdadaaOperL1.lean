/- OperTables: the walk; numbers of sixteen bits out of any. -/
import Derived.Test.YtffkehefkmdadaaOperJ
namespace Go.Proofs.Ytffkehefkmdadaa
open Go.RowKit HP NP
theorem low16 (z : Int) : ∃ a : Nat, bits .and .i64 z 65535 = (a : Int) ∧ a < 65536 := ⟨(z % 65536).toNat, by rw [show bits .and .i64 z 65535 = z % 65536 from and_low z 16 (by decide)]; omega, by omega⟩
theorem low8 (z : Int) : ∃ a : Nat, bits .and .i64 z 255 = (a : Int) ∧ a < 256 := ⟨(z % 256).toNat, by rw [show bits .and .i64 z 255 = z % 256 from and_low z 8 (by decide)]; omega, by omega⟩
set_option maxRecDepth 100000 in
set_option maxHeartbeats 4000000 in
theorem operTables_walk (w : World) (z0 z1 z2 kd : Int) (_wk : (Lit.int .i64 kd).wf = true) : Calls Try.prog 4 #[.agg #[.int .i64 z0, .int .i64 z1, .int .i64 z2], .int .i64 kd] w (Fine w) := by
  obtain ⟨a, ha, ha2⟩ := low16 z0
  obtain ⟨b, hb, hb2⟩ := low16 z1
  obtain ⟨c, hc, hc2⟩ := low16 z2
  obtain ⟨k0, hk, hk2⟩ := low8 kd
  have hk3 : k0 % 6 < 6 := Nat.mod_lt _ (by decide)
  have hkr : (k0 : Int) % 6 = ((k0 % 6 : Nat) : Int) := by omega
  obtain ⟨k, hkk⟩ : ∃ k, k = k0 % 6 := ⟨_, rfl⟩
  rw [← hkk] at hk3 hkr
  clear hkk
  go_enter Try.func4, Try.ntmps4
  go_wp2_with fail
  refine (begun04 _ w.heap.size 1000 (by simp) (by decide) (by decide)).mono ?_
  rintro e w1 ⟨p, q, rfl, hs, ho, hb1⟩
  have HKB := Lib.hid ((Blk.new_ w 22 #[.int .i64 z0, .int .i64 z1, .int .i64 z2]).below hb1 (by simp))
  have x0 : w1.cell? ⟨w.heap.size, 0, none⟩ = some (.int .i64 z0) := HKB.out.cell 0
  have x1 : w1.cell? ⟨w.heap.size, 1, none⟩ = some (.int .i64 z1) := HKB.out.cell 1
  have x2 : w1.cell? ⟨w.heap.size, 2, none⟩ = some (.int .i64 z2) := HKB.out.cell 2
  have xl : w.heap.size < w1.heap.size := HKB.out.lt
  have hbb : Below w.heap.size w w1 := ((Below.refl w.heap.size w).alloc (Nat.le_refl _) _).trans (hb1.mono (by simp))
  have H1 := Lib.hid (OSt.start (r := 998) (Nat.le_refl _) hs ho hbb (by decide))
  clear hs ho hb1 hbb
  go_wp2_with fail
  go_quiet (fail)
  have H2 := Lib.hid (H1.out.below (bdN' w1 nq))
  generalize hw2 : w1.drewN nq = w2 at H2 ⊢
  clear hw2 x0 x1 x2 xl
  obtain ⟨S2, hS2⟩ : ∃ S2, S2 = newS 4 1000 := ⟨_, rfl⟩
  rw [← hS2] at H2
  clear hS2
  go_wp2_with fail
  refine (make_ok w2 _ p S2 a ha2 H2.out.sto H2.out.hB H2.out.v4).mono ?_
  intro e w3 hr
  obtain ⟨S3, x, rfl, ho, hg⟩ := H2.out.made hr (by decide)
  have H3 := Lib.hid ho; have Dx := Lib.hid hg.den
  clear hr ho hg
  go_wp2_with fail
  refine (make_ok w3 _ p S3 b hb2 H3.out.sto H3.out.hB H3.out.v4).mono ?_
  intro e w4 hr
  obtain ⟨S4, y, rfl, ho, hg⟩ := H3.out.made hr (by decide)
  have H4 := Lib.hid ho; have Dy := Lib.hid hg.den
  replace Dx := Lib.hid (hg.lift Dx.out)
  clear hr ho hg
  go_wp2_with fail
  refine (make_ok w4 _ p S4 c hc2 H4.out.sto H4.out.hB H4.out.v4).mono ?_
  intro e w5 hr
  obtain ⟨S5, z, rfl, ho, hg⟩ := H4.out.made hr (by decide)
  have H5 := Lib.hid ho; have Dz := Lib.hid hg.den
  replace Dx := Lib.hid (hg.lift Dx.out)
  replace Dy := Lib.hid (hg.lift Dy.out)
  clear hr ho hg
  go_wp2_with fail
  refine (must_ok w5 k a b c hk3 ha2 hb2 hc2).mono ?_
  rintro e w' ⟨rfl, rfl⟩
  have hwl := mustN_lt k a b c
  obtain ⟨wt, hwt⟩ : ∃ wt, wt = mustN k a b c := ⟨_, rfl⟩
  rw [← hwt] at hwl ⊢
  have HWT := Lib.hid hwt
  clear hwt
  go_wp2_with fail
  refine (make_ok w5 _ p S5 wt hwl H5.out.sto H5.out.hB H5.out.v4).mono ?_
  intro e w6 hr
  obtain ⟨S6, v, rfl, ho, hg⟩ := H5.out.made hr (by decide)
  have H6 := Lib.hid ho; have Dv := Lib.hid hg.den
  replace Dx := Lib.hid (hg.lift Dx.out)
  replace Dy := Lib.hid (hg.lift Dy.out)
  replace Dz := Lib.hid (hg.lift Dz.out)
  clear hr ho hg
  go_wp2_with fail
  refine (does_ok w6 _ p q _ H6.out.sto H6.out.ops H6.out.hB H6.out.v4 k hk3 x y z _ _ _ Dx.out Dy.out Dz.out).mono ?_
  intro e w7 hr
  obtain ⟨S7, n, rfl, ho, hg⟩ := H6.out.got hr (by decide)
  have H7 := Lib.hid ho; have Dn := Lib.hid hg.den
  replace Dx := Lib.hid (hg.lift Dx.out)
  replace Dy := Lib.hid (hg.lift Dy.out)
  replace Dz := Lib.hid (hg.lift Dz.out)
  replace Dv := Lib.hid (hg.lift Dv.out)
  clear hr ho hg
  obtain rfl : v = n := Den.same H7.out.wf Dv.out (Dn.out.cong (fun ρ => by rw [HWT.out]; exact (mustN_tbl k a b c ρ).symm))
  have htt := tt_den Dv.out hwl
  have HTT := Lib.hid htt
  clear htt
  go_wp2_with fail
  refine (tsays_ok w7 _ p _ H7.out.sto v Dv.out.is).mono ?_
  rintro e w8 ⟨rfl, hb⟩
  have H8 := Lib.hid (H7.out.below hb)
  clear hb
  rw [HTT.out]
  go_wp2_with fail
  refine (awake04 w8).mono ?_
  rintro e w9 ⟨rfl, hb⟩
  have H9 := Lib.hid (H8.out.below hb)
  clear hb
  go_wp2_with fail
  go_ret
  exact ⟨rfl, H9.out.fin⟩
end Go.Proofs.Ytffkehefkmdadaa
