/- osierlaw03.does: Pin, Unpin, Sweep. Printed by genrk.py. -/
import Derived.Test.YtdalnhhenahcjaaNodeRK
namespace Go.Proofs.Ytdalnhhenahcjaa
open Go.RowKit HP NP
theorem pinS_vars (S : NS) (a : Int) : (pinS S a).1.vars = S.vars := by
  unfold pinS
  split
  · split <;> rfl
  · rfl
theorem unpinS_vars (S : NS) (a : Int) : (unpinS S a).1.vars = S.vars := by
  unfold unpinS
  split
  · split <;> rfl
  · rfl
set_option maxRecDepth 100000 in
set_option maxHeartbeats 4000000 in
theorem does_pin (w : World) (B p : Nat) (S : NS) (hB : B ≤ w.heap.size) (hs : Sto w B p S) (ra : Option Addr) (rc : Nat) (h : RSt w S ra rc) (a b c : Int) (va : Option Addr) (vl vc : Nat) :
    Calls Try.prog 41 #[.pointer (some ⟨p, 0, none⟩), rsV S ra rc, .agg (opA 5 a b c va vl vc)] w (DoesPost B p S w) := by
  have hW := hs.wf
  have HW := Lib.hid hW
  obtain ⟨hbel, hbx, hob, hzb⟩ := dw3_all w S ra rc (opA 5 a b c va vl vc)
  have HS := Lib.hid (hs.below hbel); have HR := Lib.hid (h.below hbel); have HBX := Lib.hid hbx; have HOB := Lib.hid hob; have HZB := Lib.hid hzb
  have HB : Hid (Kp TN B w (dw3 w S ra rc (opA 5 a b c va vl vc))) := Lib.hid (Kp.of_below hbel)
  have HSZ := Lib.hid (show B ≤ (dw3 w S ra rc (opA 5 a b c va vl vc)).heap.size from Nat.le_trans hB hbel.size)
  obtain ⟨⟨S', x⟩, hm⟩ : ∃ R, pinS S a = R := ⟨_, rfl⟩
  have hv : S'.vars = S.vars := by have := pinS_vars S a; rw [hm] at this; exact this
  have HM := Lib.hid hm; have HV := Lib.hid hv
  clear hm hv
  clear hs h hbel hbx hob hzb hW
  go_enter Try.func41, Try.ntmps41
  go_wp2_with fail
  have HS0 := HS; have HR0 := HR; have HBX0 := HBX; have HOB0 := HOB; have HZB0 := HZB; have HSZ0 := HSZ; have HB0 := HB
  refine (rpin_ok _ S HW.out ra rc HR.out a).mono ?_
  rintro e w2 ⟨⟨ra2, rc2, rfl, hr2⟩, hb2⟩
  rw [HM.out] at hr2 ⊢
  have HR2 := Lib.hid hr2; have HS2 := Lib.hid (HS.out.below hb2); have HB2 := Lib.hid (Kp.trans HB.out (Kp.of_below hb2)); have HBX2 := Lib.hid (HBX.out.below hb2 HBX.out.lt); have HOB2 := Lib.hid (HOB.out.below hb2 HOB.out.lt); have HZB2 := Lib.hid (HZB.out.below hb2 HZB.out.lt)
  have HSZ2 := Lib.hid (Nat.le_trans HSZ.out hb2.size)
  clear hr2 hb2
  have h3 : Below w2.heap.size w2 (w2.alloc (.cells (rbox S' ra2 rc2) 75)).drew := ((Below.refl _ _).alloc (Nat.le_refl _) _).drew
  have HS3 := Lib.hid (HS2.out.below h3); have HR3 := Lib.hid (HR2.out.below h3); have HOB3 := Lib.hid (HOB2.out.below h3 HOB2.out.lt); have HZB3 := Lib.hid (HZB2.out.below h3 HZB2.out.lt); have HB3 := Lib.hid (Kp.trans HB2.out (Kp.of_below h3)); have HNB3 := Lib.hid ((rbox_new w2 S' ra2 rc2).drew_)
  have HSZ3 := Lib.hid (Nat.le_trans HSZ2.out h3.size)
  have HP := Lib.hid (npin_ok (w2.alloc (.cells (rbox S' ra2 rc2) 75)).drew B p S HS3.out a)
  clear h3
  obtain ⟨o0, o1, o2, o3, o4, ol⟩ := blk5 HOB2.out
  obtain ⟨n0, n1, n2, n3, n4, nl⟩ := blk5 HNB3.out
  go_wp2_with fail
  go_region_with (go_at_call 38; (with_reducible refine HP.out.mono ?_); rintro e w5 ⟨rfl, hs5, hk5⟩; rw [HM.out] at hs5 ⊢; have HS5 := Lib.hid hs5; have HR5 := Lib.hid (HR3.out.tn hk5); have HNB5 := Lib.hid (hk5.blk HNB3.out rfl); have HZB5 := Lib.hid (hk5.blk HZB3.out rfl); have HB5 := Lib.hid (Kp.trans HB3.out hk5); clear hs5 hk5; obtain ⟨m0, m1, m2, m3, m4, ml⟩ := blk5 HNB5.out; obtain ⟨z0, z1, z2, z3, z4, zl⟩ := blk5 HZB5.out; obtain ⟨zf0, zf1, zf2, zf3, zf4⟩ := blk5f HZB5.out)
  all_goals
    go_wp2_with fail
    refine bodyPost_ret (v := .tuple #[rsV S' ra2 rc2, .bool true]) ?_ rfl ?_
    · rw [results_cellT rfl]; go_simp
    · exact DoesPost.fin HV.out HS5.out HR5.out HB5.out HZB5.out (by omega)
set_option maxRecDepth 100000 in
set_option maxHeartbeats 4000000 in
theorem does_unpin (w : World) (B p : Nat) (S : NS) (hB : B ≤ w.heap.size) (hs : Sto w B p S) (ra : Option Addr) (rc : Nat) (h : RSt w S ra rc) (a b c : Int) (va : Option Addr) (vl vc : Nat) :
    Calls Try.prog 41 #[.pointer (some ⟨p, 0, none⟩), rsV S ra rc, .agg (opA 6 a b c va vl vc)] w (DoesPost B p S w) := by
  have hW := hs.wf
  have HW := Lib.hid hW
  obtain ⟨hbel, hbx, hob, hzb⟩ := dw3_all w S ra rc (opA 6 a b c va vl vc)
  have HS := Lib.hid (hs.below hbel); have HR := Lib.hid (h.below hbel); have HBX := Lib.hid hbx; have HOB := Lib.hid hob; have HZB := Lib.hid hzb
  have HB : Hid (Kp TN B w (dw3 w S ra rc (opA 6 a b c va vl vc))) := Lib.hid (Kp.of_below hbel)
  have HSZ := Lib.hid (show B ≤ (dw3 w S ra rc (opA 6 a b c va vl vc)).heap.size from Nat.le_trans hB hbel.size)
  obtain ⟨⟨S', x⟩, hm⟩ : ∃ R, unpinS S a = R := ⟨_, rfl⟩
  have hv : S'.vars = S.vars := by have := unpinS_vars S a; rw [hm] at this; exact this
  have HM := Lib.hid hm; have HV := Lib.hid hv
  clear hm hv
  clear hs h hbel hbx hob hzb hW
  go_enter Try.func41, Try.ntmps41
  go_wp2_with fail
  have HS0 := HS; have HR0 := HR; have HBX0 := HBX; have HOB0 := HOB; have HZB0 := HZB; have HSZ0 := HSZ; have HB0 := HB
  refine (runpin_ok _ S HW.out ra rc HR.out a).mono ?_
  rintro e w2 ⟨⟨ra2, rc2, rfl, hr2⟩, hb2⟩
  rw [HM.out] at hr2 ⊢
  have HR2 := Lib.hid hr2; have HS2 := Lib.hid (HS.out.below hb2); have HB2 := Lib.hid (Kp.trans HB.out (Kp.of_below hb2)); have HBX2 := Lib.hid (HBX.out.below hb2 HBX.out.lt); have HOB2 := Lib.hid (HOB.out.below hb2 HOB.out.lt); have HZB2 := Lib.hid (HZB.out.below hb2 HZB.out.lt)
  have HSZ2 := Lib.hid (Nat.le_trans HSZ.out hb2.size)
  clear hr2 hb2
  have h3 : Below w2.heap.size w2 (w2.alloc (.cells (rbox S' ra2 rc2) 75)).drew := ((Below.refl _ _).alloc (Nat.le_refl _) _).drew
  have HS3 := Lib.hid (HS2.out.below h3); have HR3 := Lib.hid (HR2.out.below h3); have HOB3 := Lib.hid (HOB2.out.below h3 HOB2.out.lt); have HZB3 := Lib.hid (HZB2.out.below h3 HZB2.out.lt); have HB3 := Lib.hid (Kp.trans HB2.out (Kp.of_below h3)); have HNB3 := Lib.hid ((rbox_new w2 S' ra2 rc2).drew_)
  have HSZ3 := Lib.hid (Nat.le_trans HSZ2.out h3.size)
  have HP := Lib.hid (nunpin_ok (w2.alloc (.cells (rbox S' ra2 rc2) 75)).drew B p S HS3.out a)
  clear h3
  obtain ⟨o0, o1, o2, o3, o4, ol⟩ := blk5 HOB2.out
  obtain ⟨n0, n1, n2, n3, n4, nl⟩ := blk5 HNB3.out
  go_wp2_with fail
  go_region_with (go_at_call 39; (with_reducible refine HP.out.mono ?_); rintro e w5 ⟨rfl, hs5, hk5⟩; rw [HM.out] at hs5 ⊢; have HS5 := Lib.hid hs5; have HR5 := Lib.hid (HR3.out.tn hk5); have HNB5 := Lib.hid (hk5.blk HNB3.out rfl); have HZB5 := Lib.hid (hk5.blk HZB3.out rfl); have HB5 := Lib.hid (Kp.trans HB3.out hk5); clear hs5 hk5; obtain ⟨m0, m1, m2, m3, m4, ml⟩ := blk5 HNB5.out; obtain ⟨z0, z1, z2, z3, z4, zl⟩ := blk5 HZB5.out; obtain ⟨zf0, zf1, zf2, zf3, zf4⟩ := blk5f HZB5.out)
  all_goals
    go_wp2_with fail
    refine bodyPost_ret (v := .tuple #[rsV S' ra2 rc2, .bool true]) ?_ rfl ?_
    · rw [results_cellT rfl]; go_simp
    · exact DoesPost.fin HV.out HS5.out HR5.out HB5.out HZB5.out (by omega)
set_option maxRecDepth 100000 in
set_option maxHeartbeats 4000000 in
theorem does_sweep (w : World) (B p : Nat) (S : NS) (hB : B ≤ w.heap.size) (hs : Sto w B p S) (ra : Option Addr) (rc : Nat) (h : RSt w S ra rc) (a b c : Int) (va : Option Addr) (k : Int) (vl vc : Nat) (q1 : (k == 1) = false) (q2 : (k == 2) = false) (q3 : (k == 3) = false) (q4 : (k == 4) = false) (q5 : (k == 5) = false) (q6 : (k == 6) = false) :
    Calls Try.prog 41 #[.pointer (some ⟨p, 0, none⟩), rsV S ra rc, .agg (opA k a b c va vl vc)] w (DoesPost B p S w) := by
  have hW := hs.wf
  have HW := Lib.hid hW
  obtain ⟨hbel, hbx, hob, hzb⟩ := dw3_all w S ra rc (opA k a b c va vl vc)
  have HS := Lib.hid (hs.below hbel); have HR := Lib.hid (h.below hbel); have HBX := Lib.hid hbx; have HOB := Lib.hid hob; have HZB := Lib.hid hzb
  have HB : Hid (Kp TN B w (dw3 w S ra rc (opA k a b c va vl vc))) := Lib.hid (Kp.of_below hbel)
  have HSZ := Lib.hid (show B ≤ (dw3 w S ra rc (opA k a b c va vl vc)).heap.size from Nat.le_trans hB hbel.size)
  clear hs h hbel hbx hob hzb hW
  go_enter Try.func41, Try.ntmps41
  go_wp2_with fail
  have HS0 := HS; have HR0 := HR; have HBX0 := HBX; have HOB0 := HOB; have HZB0 := HZB; have HSZ0 := HSZ; have HB0 := HB
  refine (rsweep_ok _ S HW.out ra rc HR.out).mono ?_
  rintro e w2 ⟨⟨s, ra2, rc2, hm, rfl, hr2⟩, hb2⟩
  obtain ⟨S', hS'⟩ : ∃ S' : NS, { S with l := swp S.l s 1, sweeps := S.sweeps + 1 } = S' := ⟨_, rfl⟩
  obtain ⟨x, hx⟩ : ∃ x : Nat, cnt S.l - cnt (swp S.l s 1) = x := ⟨_, rfl⟩
  rw [hS'] at hr2 ⊢
  rw [hx]
  have HV := Lib.hid (show S'.vars = S.vars by rw [← hS'])
  have HM := Lib.hid hm; have HS' := Lib.hid hS'; have HX := Lib.hid hx
  have HR2 := Lib.hid hr2; have HS2 := Lib.hid (HS.out.below hb2); have HB2 := Lib.hid (Kp.trans HB.out (Kp.of_below hb2)); have HZB2 := Lib.hid (HZB.out.below hb2 HZB.out.lt)
  have HSZ2 := Lib.hid (Nat.le_trans HSZ.out hb2.size)
  clear hr2 hb2 hm hS' hx
  have h3 : Below w2.heap.size w2 (w2.alloc (.cells (rbox S' ra2 rc2) 75)).drew := ((Below.refl _ _).alloc (Nat.le_refl _) _).drew
  have HS3 := Lib.hid (HS2.out.below h3); have HR3 := Lib.hid (HR2.out.below h3); have HZB3 := Lib.hid (HZB2.out.below h3 HZB2.out.lt); have HB3 := Lib.hid (Kp.trans HB2.out (Kp.of_below h3)); have HNB3 := Lib.hid ((rbox_new w2 S' ra2 rc2).drew_)
  have HSZ3 := Lib.hid (Nat.le_trans HSZ2.out h3.size)
  have HP : Hid (Calls Try.prog 35 #[.pointer (some ⟨p, 0, none⟩)] (w2.alloc (.cells (rbox S' ra2 rc2) 75)).drew fun e w' => e = .returned (.int .i64 (x : Int)) ∧ Sto w' B p S' ∧ Kp TN B (w2.alloc (.cells (rbox S' ra2 rc2) 75)).drew w') := Lib.hid ((nsweep_ok (w2.alloc (.cells (rbox S' ra2 rc2) 75)).drew B p S HS3.out HSZ3.out).mono fun e w' ⟨t, ht, he, hs, hk⟩ => by
    obtain rfl := HM.out.uniq ht
    rw [HX.out] at he
    rw [HS'.out] at hs
    exact ⟨he, hs, hk⟩)
  clear h3
  obtain ⟨n0, n1, n2, n3, n4, nl⟩ := blk5 HNB3.out
  go_wp2_with fail
  go_region_with (go_at_call 35; (with_reducible refine HP.out.mono ?_); rintro e w5 ⟨rfl, hs5, hk5⟩; have HS5 := Lib.hid hs5; have HR5 := Lib.hid (HR3.out.tn hk5); have HNB5 := Lib.hid (hk5.blk HNB3.out rfl); have HZB5 := Lib.hid (hk5.blk HZB3.out rfl); have HB5 := Lib.hid (Kp.trans HB3.out hk5); clear hs5 hk5; obtain ⟨m0, m1, m2, m3, m4, ml⟩ := blk5 HNB5.out; obtain ⟨z0, z1, z2, z3, z4, zl⟩ := blk5 HZB5.out; obtain ⟨zf0, zf1, zf2, zf3, zf4⟩ := blk5f HZB5.out)
  all_goals
    go_wp2_with fail
    refine bodyPost_ret (v := .tuple #[rsV S' ra2 rc2, .bool true]) ?_ rfl ?_
    · rw [results_cellT rfl]; go_simp
    · exact DoesPost.fin HV.out HS5.out HR5.out HB5.out HZB5.out (by omega)
theorem does_ok (w : World) (B p : Nat) (S : NS) (hB : B ≤ w.heap.size) (hs : Sto w B p S) (ra : Option Addr) (rc : Nat) (h : RSt w S ra rc) (k a b c : Int) (va : Option Addr) (vals : List Bool) (vc : Nat) (hvl : vals.length ≤ maxLen) (hva : ∀ W, Below B w W → Cells W va (vals.map Value.bool)) :
    Calls Try.prog 41 #[.pointer (some ⟨p, 0, none⟩), rsV S ra rc, .agg (opA k a b c va vals.length vc)] w (DoesPost B p S w) := by
  by_cases q1 : k = 1
  · rw [q1]; exact does_mk w B p S hB hs ra rc h a b c va _ vc
  by_cases q2 : k = 2
  · rw [q2]; exact does_ask w B p S hB hs ra rc h a b c va _ vc
  by_cases q3 : k = 3
  · rw [q3]; exact does_eval w B p S hB hs ra rc h a b c va vals vc hvl hva
  by_cases q4 : k = 4
  · rw [q4]; exact does_size w B p S hB hs ra rc h a b c va _ vc
  by_cases q5 : k = 5
  · rw [q5]; exact does_pin w B p S hB hs ra rc h a b c va _ vc
  by_cases q6 : k = 6
  · rw [q6]; exact does_unpin w B p S hB hs ra rc h a b c va _ vc
  exact does_sweep w B p S hB hs ra rc h a b c va k _ vc (beq_eq_false_iff_ne.2 q1) (beq_eq_false_iff_ne.2 q2) (beq_eq_false_iff_ne.2 q3) (beq_eq_false_iff_ne.2 q4) (beq_eq_false_iff_ne.2 q5) (beq_eq_false_iff_ne.2 q6)
end Go.Proofs.Ytdalnhhenahcjaa
