/- OperParts: the walk. -/
import Derived.Test.YtffkehefkmdadaaOperL1
namespace Go.Proofs.Ytffkehefkmdadaa
open Go.RowKit HP NP
set_option maxRecDepth 100000 in
set_option maxHeartbeats 4000000 in
theorem operParts_walk (w : World) (z0 z1 z2 : Int) : Calls Try.prog 3 #[.agg #[.int .i64 z0, .int .i64 z1, .int .i64 z2]] w (Fine w) := by
  obtain ⟨a, ha, ha2⟩ := low16 z0
  obtain ⟨b, hb, hb2⟩ := low16 z1
  obtain ⟨c, hc, hc2⟩ := low16 z2
  go_enter Try.func3, Try.ntmps3
  go_wp2_with fail
  refine (begun04 _ w.heap.size 2000 (by simp) (by decide) (by decide)).mono ?_
  rintro e w1 ⟨p, q, rfl, hs, ho, hb1⟩
  have HKB := Lib.hid ((Blk.new_ w 22 #[.int .i64 z0, .int .i64 z1, .int .i64 z2]).below hb1 (by simp))
  have x0 : w1.cell? ⟨w.heap.size, 0, none⟩ = some (.int .i64 z0) := HKB.out.cell 0
  have x1 : w1.cell? ⟨w.heap.size, 1, none⟩ = some (.int .i64 z1) := HKB.out.cell 1
  have x2 : w1.cell? ⟨w.heap.size, 2, none⟩ = some (.int .i64 z2) := HKB.out.cell 2
  have xl : w.heap.size < w1.heap.size := HKB.out.lt
  have hbb : Below w.heap.size w w1 := ((Below.refl w.heap.size w).alloc (Nat.le_refl _) _).trans (hb1.mono (by simp))
  have H1 := Lib.hid (OSt.start (r := 1998) (Nat.le_refl _) hs ho hbb (by decide))
  clear hs ho hb1 hbb
  go_wp2_with fail
  refine (make_ok w1 _ p _ a ha2 H1.out.sto H1.out.hB H1.out.v4).mono ?_
  intro e w2 hr
  have HKB := Lib.hid ((show Kp TN w.heap.size w1 w2 from by obtain ⟨_, _, h, _⟩ := hr; exact h).blk HKB.out rfl)
  obtain ⟨S2, x, rfl, ho, hg⟩ := H1.out.made hr (by decide)
  have x0 : w2.cell? ⟨w.heap.size, 0, none⟩ = some (.int .i64 z0) := HKB.out.cell 0
  have x1 : w2.cell? ⟨w.heap.size, 1, none⟩ = some (.int .i64 z1) := HKB.out.cell 1
  have x2 : w2.cell? ⟨w.heap.size, 2, none⟩ = some (.int .i64 z2) := HKB.out.cell 2
  have xl : w.heap.size < w2.heap.size := HKB.out.lt
  have H2 := Lib.hid ho; have Dx := Lib.hid hg.den
  clear hr ho hg
  go_wp2_with fail
  refine (make_ok w2 _ p S2 b hb2 H2.out.sto H2.out.hB H2.out.v4).mono ?_
  intro e w3 hr
  have HKB := Lib.hid ((show Kp TN w.heap.size w2 w3 from by obtain ⟨_, _, h, _⟩ := hr; exact h).blk HKB.out rfl)
  obtain ⟨S3, y, rfl, ho, hg⟩ := H2.out.made hr (by decide)
  have x0 : w3.cell? ⟨w.heap.size, 0, none⟩ = some (.int .i64 z0) := HKB.out.cell 0
  have x1 : w3.cell? ⟨w.heap.size, 1, none⟩ = some (.int .i64 z1) := HKB.out.cell 1
  have x2 : w3.cell? ⟨w.heap.size, 2, none⟩ = some (.int .i64 z2) := HKB.out.cell 2
  have xl : w.heap.size < w3.heap.size := HKB.out.lt
  have H3 := Lib.hid ho; have Dy := Lib.hid hg.den
  replace Dx := Lib.hid (hg.lift Dx.out)
  clear hr ho hg
  go_wp2_with fail
  refine (make_ok w3 _ p S3 c hc2 H3.out.sto H3.out.hB H3.out.v4).mono ?_
  intro e w4 hr
  have HKB := Lib.hid ((show Kp TN w.heap.size w3 w4 from by obtain ⟨_, _, h, _⟩ := hr; exact h).blk HKB.out rfl)
  obtain ⟨S4, z, rfl, ho, hg⟩ := H3.out.made hr (by decide)
  have x0 : w4.cell? ⟨w.heap.size, 0, none⟩ = some (.int .i64 z0) := HKB.out.cell 0
  have x1 : w4.cell? ⟨w.heap.size, 1, none⟩ = some (.int .i64 z1) := HKB.out.cell 1
  have x2 : w4.cell? ⟨w.heap.size, 2, none⟩ = some (.int .i64 z2) := HKB.out.cell 2
  have xl : w.heap.size < w4.heap.size := HKB.out.lt
  have H4 := Lib.hid ho; have Dz := Lib.hid hg.den
  replace Dx := Lib.hid (hg.lift Dx.out)
  replace Dy := Lib.hid (hg.lift Dy.out)
  clear hr ho hg
  clear x0 x1 x2 xl ha hb hc ha2 hb2 hc2
  go_wp2_with fail
  refine (oor_ok w4 _ p q _ H4.out.sto H4.out.ops H4.out.hB y z _ _ Dy.out Dz.out 15 (by rw [H4.out.v4]; decide)).mono ?_
  intro e w5 hr
  obtain ⟨S5, bc, rfl, ho, hg⟩ := H4.out.got hr (by omega)
  have H5 := Lib.hid ho; have Dbc := Lib.hid hg.den
  replace Dx := Lib.hid (hg.lift Dx.out)
  replace Dy := Lib.hid (hg.lift Dy.out)
  replace Dz := Lib.hid (hg.lift Dz.out)
  clear hr ho hg
  go_wp2_with fail
  refine (oand_ok w5 _ p q _ H5.out.sto H5.out.ops H5.out.hB x bc _ _ Dx.out Dbc.out 15 (by rw [H5.out.v4]; decide)).mono ?_
  intro e w6 hr
  obtain ⟨S6, one, rfl, ho, hg⟩ := H5.out.got hr (by omega)
  have H6 := Lib.hid ho; have Done := Lib.hid hg.den
  replace Dx := Lib.hid (hg.lift Dx.out)
  replace Dy := Lib.hid (hg.lift Dy.out)
  replace Dz := Lib.hid (hg.lift Dz.out)
  replace Dbc := Lib.hid (hg.lift Dbc.out)
  clear hr ho hg
  go_wp2_with fail
  refine (oand_ok w6 _ p q _ H6.out.sto H6.out.ops H6.out.hB x y _ _ Dx.out Dy.out 15 (by rw [H6.out.v4]; decide)).mono ?_
  intro e w7 hr
  obtain ⟨S7, ab, rfl, ho, hg⟩ := H6.out.got hr (by omega)
  have H7 := Lib.hid ho; have Dab := Lib.hid hg.den
  replace Dx := Lib.hid (hg.lift Dx.out)
  replace Dy := Lib.hid (hg.lift Dy.out)
  replace Dz := Lib.hid (hg.lift Dz.out)
  replace Dbc := Lib.hid (hg.lift Dbc.out)
  replace Done := Lib.hid (hg.lift Done.out)
  clear hr ho hg
  go_wp2_with fail
  refine (oand_ok w7 _ p q _ H7.out.sto H7.out.ops H7.out.hB x z _ _ Dx.out Dz.out 15 (by rw [H7.out.v4]; decide)).mono ?_
  intro e w8 hr
  obtain ⟨S8, ac, rfl, ho, hg⟩ := H7.out.got hr (by omega)
  have H8 := Lib.hid ho; have Dac := Lib.hid hg.den
  replace Dx := Lib.hid (hg.lift Dx.out)
  replace Dy := Lib.hid (hg.lift Dy.out)
  replace Dz := Lib.hid (hg.lift Dz.out)
  replace Dbc := Lib.hid (hg.lift Dbc.out)
  replace Done := Lib.hid (hg.lift Done.out)
  replace Dab := Lib.hid (hg.lift Dab.out)
  clear hr ho hg
  go_wp2_with fail
  refine (oor_ok w8 _ p q _ H8.out.sto H8.out.ops H8.out.hB ab ac _ _ Dab.out Dac.out 15 (by rw [H8.out.v4]; decide)).mono ?_
  intro e w9 hr
  obtain ⟨S9, two, rfl, ho, hg⟩ := H8.out.got hr (by omega)
  have H9 := Lib.hid ho; have Dtwo := Lib.hid hg.den
  replace Dx := Lib.hid (hg.lift Dx.out)
  replace Dy := Lib.hid (hg.lift Dy.out)
  replace Dz := Lib.hid (hg.lift Dz.out)
  replace Dbc := Lib.hid (hg.lift Dbc.out)
  replace Done := Lib.hid (hg.lift Done.out)
  replace Dab := Lib.hid (hg.lift Dab.out)
  replace Dac := Lib.hid (hg.lift Dac.out)
  clear hr ho hg
  obtain rfl : one = two := Den.same H9.out.wf Done.out (Dtwo.out.cong (fun ρ => by cases tbl a ρ <;> cases tbl b ρ <;> cases tbl c ρ <;> rfl))
  clear Dtwo
  go_wp2_with fail
  refine (oor_ok w9 _ p q _ H9.out.sto H9.out.ops H9.out.hB x ab _ _ Dx.out Dab.out 15 (by rw [H9.out.v4]; decide)).mono ?_
  intro e w10 hr
  obtain ⟨S10, back, rfl, ho, hg⟩ := H9.out.got hr (by omega)
  have H10 := Lib.hid ho; have Dback := Lib.hid hg.den
  replace Dx := Lib.hid (hg.lift Dx.out)
  replace Dy := Lib.hid (hg.lift Dy.out)
  replace Dz := Lib.hid (hg.lift Dz.out)
  replace Dbc := Lib.hid (hg.lift Dbc.out)
  replace Done := Lib.hid (hg.lift Done.out)
  replace Dab := Lib.hid (hg.lift Dab.out)
  replace Dac := Lib.hid (hg.lift Dac.out)
  clear hr ho hg
  obtain rfl : x = back := Den.same H10.out.wf Dx.out (Dback.out.cong (fun ρ => by cases tbl a ρ <;> cases tbl b ρ <;> rfl))
  clear Dback
  go_wp2_with fail
  refine (onot_ok w10 _ p q _ H10.out.sto H10.out.ops H10.out.hB x _ Dx.out 15 (by rw [H10.out.v4]; decide)).mono ?_
  intro e w11 hr
  obtain ⟨S11, nt, rfl, ho, hg⟩ := H10.out.got hr (by omega)
  have H11 := Lib.hid ho; have Dnt := Lib.hid hg.den
  replace Dx := Lib.hid (hg.lift Dx.out)
  replace Dy := Lib.hid (hg.lift Dy.out)
  replace Dz := Lib.hid (hg.lift Dz.out)
  replace Dbc := Lib.hid (hg.lift Dbc.out)
  replace Done := Lib.hid (hg.lift Done.out)
  replace Dab := Lib.hid (hg.lift Dab.out)
  replace Dac := Lib.hid (hg.lift Dac.out)
  clear hr ho hg
  go_wp2_with fail
  refine (oand_ok w11 _ p q _ H11.out.sto H11.out.ops H11.out.hB nt z _ _ Dnt.out Dz.out 15 (by rw [H11.out.v4]; decide)).mono ?_
  intro e w12 hr
  obtain ⟨S12, rest, rfl, ho, hg⟩ := H11.out.got hr (by omega)
  have H12 := Lib.hid ho; have Drest := Lib.hid hg.den
  replace Dx := Lib.hid (hg.lift Dx.out)
  replace Dy := Lib.hid (hg.lift Dy.out)
  replace Dz := Lib.hid (hg.lift Dz.out)
  replace Dbc := Lib.hid (hg.lift Dbc.out)
  replace Done := Lib.hid (hg.lift Done.out)
  replace Dab := Lib.hid (hg.lift Dab.out)
  replace Dac := Lib.hid (hg.lift Dac.out)
  replace Dnt := Lib.hid (hg.lift Dnt.out)
  clear hr ho hg
  go_wp2_with fail
  refine (oor_ok w12 _ p q _ H12.out.sto H12.out.ops H12.out.hB ab rest _ _ Dab.out Drest.out 15 (by rw [H12.out.v4]; decide)).mono ?_
  intro e w13 hr
  obtain ⟨S13, told, rfl, ho, hg⟩ := H12.out.got hr (by omega)
  have H13 := Lib.hid ho; have Dtold := Lib.hid hg.den
  replace Dx := Lib.hid (hg.lift Dx.out)
  replace Dy := Lib.hid (hg.lift Dy.out)
  replace Dz := Lib.hid (hg.lift Dz.out)
  replace Dbc := Lib.hid (hg.lift Dbc.out)
  replace Done := Lib.hid (hg.lift Done.out)
  replace Dab := Lib.hid (hg.lift Dab.out)
  replace Dac := Lib.hid (hg.lift Dac.out)
  replace Dnt := Lib.hid (hg.lift Dnt.out)
  replace Drest := Lib.hid (hg.lift Drest.out)
  clear hr ho hg
  go_wp2_with fail
  refine (oite_ok w13 _ p q _ H13.out.sto H13.out.ops H13.out.hB x y z _ _ _ Dx.out Dy.out Dz.out 15 (by rw [H13.out.v4]; decide)).mono ?_
  intro e w14 hr
  obtain ⟨S14, it, rfl, ho, hg⟩ := H13.out.got hr (by omega)
  have H14 := Lib.hid ho; have Dit := Lib.hid hg.den
  replace Dx := Lib.hid (hg.lift Dx.out)
  replace Dy := Lib.hid (hg.lift Dy.out)
  replace Dz := Lib.hid (hg.lift Dz.out)
  replace Dbc := Lib.hid (hg.lift Dbc.out)
  replace Done := Lib.hid (hg.lift Done.out)
  replace Dab := Lib.hid (hg.lift Dab.out)
  replace Dac := Lib.hid (hg.lift Dac.out)
  replace Dnt := Lib.hid (hg.lift Dnt.out)
  replace Drest := Lib.hid (hg.lift Drest.out)
  replace Dtold := Lib.hid (hg.lift Dtold.out)
  clear hr ho hg
  obtain rfl : told = it := Den.same H14.out.wf Dtold.out (Dit.out.cong (fun ρ => by cases tbl a ρ <;> cases tbl b ρ <;> cases tbl c ρ <;> rfl))
  go_wp2_with fail
  refine (awake04 w14).mono ?_
  rintro e w15 ⟨rfl, hb⟩
  have H15 := Lib.hid (H14.out.below hb)
  clear hb
  go_wp2_with fail
  go_ret
  exact ⟨rfl, H15.out.fin⟩
end Go.Proofs.Ytffkehefkmdadaa
