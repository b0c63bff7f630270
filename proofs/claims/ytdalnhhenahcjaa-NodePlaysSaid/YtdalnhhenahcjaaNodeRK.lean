/- osierlaw03.does: a call on both sides, Mk, Node, Eval, Size. Printed by genrk.py. -/
import Derived.Test.YtdalnhhenahcjaaNodeRJ
import Derived.Test.YtdalnhhenahcjaaNodeRD
namespace Go.Proofs.Ytdalnhhenahcjaa
open Go.RowKit HP NP
abbrev opA (k a b c : Int) (va : Option Addr) (vl vc : Nat) : Array Value := #[.int .i64 k, .int .i64 a, .int .i64 b, .int .i64 c, .slice va vl vc]
abbrev dw3 (w : World) (S : NS) (ra : Option Addr) (rc : Nat) (ov : Array Value) : World := ((w.alloc (.cells (rbox S ra rc) 75)).alloc (.cells ov 81)).alloc (.cells rzero 75)
theorem dw3_all (w : World) (S : NS) (ra : Option Addr) (rc : Nat) (ov : Array Value) : Below w.heap.size w (dw3 w S ra rc ov) ∧ Blk (dw3 w S ra rc ov) w.heap.size 75 (rbox S ra rc) ∧ Blk (dw3 w S ra rc ov) (w.heap.size + 1) 81 ov ∧ Blk (dw3 w S ra rc ov) (w.heap.size + 1 + 1) 75 rzero := by
  refine ⟨(((Below.refl _ _).alloc (Nat.le_refl _) _).alloc (by simp) _).alloc (by simp; omega) _, ((Blk.new_ w _ _).alloc_ _).alloc_ _, ?_, ?_⟩
  · have := (Blk.new_ (w.alloc (.cells (rbox S ra rc) 75)) 81 ov).alloc_ (.cells rzero 75)
    rw [show (w.alloc (.cells (rbox S ra rc) 75)).heap.size = w.heap.size + 1 by simp] at this; exact this
  · have := Blk.new_ ((w.alloc (.cells (rbox S ra rc) 75)).alloc (.cells ov 81)) 75 rzero
    rw [show ((w.alloc (.cells (rbox S ra rc) 75)).alloc (.cells ov 81)).heap.size = w.heap.size + 1 + 1 by simp] at this; exact this
def DoesPost (B p : Nat) (S : NS) (w : World) (e : Ending) (w' : World) : Prop :=
  ∃ S' ra rc, e = .returned (.tuple #[rsV S' ra rc, .bool true]) ∧ Sto w' B p S' ∧ RSt w' S' ra rc ∧ S'.vars = S.vars ∧ Kp TN B w w'
theorem RSt.tn {B : Nat} {w w' : World} {S : NS} {ra : Option Addr} {rc : Nat} (h : RSt w S ra rc) (hk : Kp TN B w w') : RSt w' S ra rc := h.kb hk.kb rfl
theorem Sto.st5 {w : World} {B p : Nat} {S S' : NS} {ra : Option Addr} {rc z : Nat} {cs : Array Value} (h : Sto w B p S) (hz : Blk w z 75 cs) : Sto (st5 w z S' ra rc) B p S := by
  have k1 := fun (w : World) (cs : Array Value) (hz : Blk w z 75 cs) i v => (Kp.set (T := fun t => t == 75) (B := 0) hz (by rfl) (Nat.zero_le _) i v)
  exact ((((h.kp (k1 _ _ hz 0 _) rfl rfl rfl rfl rfl).kp (k1 _ _ (hz.set_ 0 _) 1 _) rfl rfl rfl rfl rfl).kp (k1 _ _ ((hz.set_ 0 _).set_ 1 _) 2 _) rfl rfl rfl rfl rfl).kp (k1 _ _ (((hz.set_ 0 _).set_ 1 _).set_ 2 _) 3 _) rfl rfl rfl rfl rfl).kp (k1 _ _ ((((hz.set_ 0 _).set_ 1 _).set_ 2 _).set_ 3 _) 4 _) rfl rfl rfl rfl rfl
theorem mkS_vars (S : NS) (a b c : Int) : (mkS S a b c).1.vars = S.vars := by
  unfold mkS
  split
  · split
    · rfl
    · split
      · rfl
      · split <;> rfl
  · rfl
theorem DoesPost.fin {B p z : Nat} {S S' : NS} {w w2 : World} {ra : Option Addr} {rc : Nat} {cs : Array Value} (hv : S'.vars = S.vars) (hs : Sto w2 B p S') (hr : RSt w2 S' ra rc) (hb : Kp TN B w w2) (hz : Blk w2 z 75 cs) (hBz : w.heap.size ≤ z) :
    DoesPost B p S w (.returned (.tuple #[rsV S' ra rc, .bool true])) (st5 w2 z S' ra rc) :=
  ⟨S', ra, rc, rfl, hs.st5 hz, hr.st5 hz, hv, ((((hb.setCell (p := ⟨z, 0, none⟩) (fun h : z < w.heap.size => by omega) _).setCell (p := ⟨z, 1, none⟩) (fun h : z < w.heap.size => by omega) _).setCell (p := ⟨z, 2, none⟩) (fun h : z < w.heap.size => by omega) _).setCell (p := ⟨z, 3, none⟩) (fun h : z < w.heap.size => by omega) _).setCell (p := ⟨z, 4, none⟩) (fun h : z < w.heap.size => by omega) _⟩
theorem DoesPost.alloc {B p : Nat} {S : NS} {w w2 : World} {e : Ending} (h : DoesPost B p S w e w2) (o : Obj) : DoesPost B p S w e (w2.alloc o) := by
  obtain ⟨S', ra, rc, he, hs, hr, hv, hb⟩ := h
  have h1 : Below w2.heap.size w2 (w2.alloc o) := (Below.refl _ _).alloc (Nat.le_refl _) _
  exact ⟨S', ra, rc, he, hs.below h1, hr.below h1, hv, Kp.alloc hb o⟩
theorem askV_ex (S : NS) (k : Int) : ∃ a b c d : Int, askV S k = .tuple #[.int .i64 a, .int .i64 b, .int .i64 c, .int .i64 d] := by
  unfold askV
  split <;> exact ⟨_, _, _, _, rfl⟩
theorem size_uniq {S : NS} {k : Int} {n1 n2 : Nat} (h1 : isK S.l k = false → n1 = 0) (h2 : isK S.l k = true → ∃ s, Adds S.l k.toNat (fun _ => false) s ∧ n1 = cntS s S.l.length) (h3 : isK S.l k = false → n2 = 0) (h4 : isK S.l k = true → ∃ s, Adds S.l k.toNat (fun _ => false) s ∧ n2 = cntS s S.l.length) : n1 = n2 := by
  cases hk : isK S.l k with
  | false => rw [h1 hk, h3 hk]
  | true =>
    obtain ⟨s, ha, hs⟩ := h2 hk
    obtain ⟨t, hb, ht⟩ := h4 hk
    rw [hs, ht]
    exact cntS_congr _ fun j => (ha j).trans (hb j).symm
set_option maxRecDepth 100000 in
set_option maxHeartbeats 4000000 in
theorem does_mk (w : World) (B p : Nat) (S : NS) (hB : B ≤ w.heap.size) (hs : Sto w B p S) (ra : Option Addr) (rc : Nat) (h : RSt w S ra rc) (a b c : Int) (va : Option Addr) (vl vc : Nat) :
    Calls Try.prog 41 #[.pointer (some ⟨p, 0, none⟩), rsV S ra rc, .agg (opA 1 a b c va vl vc)] w (DoesPost B p S w) := by
  have hW := hs.wf
  have HW := Lib.hid hW
  obtain ⟨hbel, hbx, hob, hzb⟩ := dw3_all w S ra rc (opA 1 a b c va vl vc)
  have HS := Lib.hid (hs.below hbel); have HR := Lib.hid (h.below hbel); have HBX := Lib.hid hbx; have HOB := Lib.hid hob; have HZB := Lib.hid hzb
  have HB : Hid (Kp TN B w (dw3 w S ra rc (opA 1 a b c va vl vc))) := Lib.hid (Kp.of_below hbel)
  have HSZ := Lib.hid (show B ≤ (dw3 w S ra rc (opA 1 a b c va vl vc)).heap.size from Nat.le_trans hB hbel.size)
  obtain ⟨⟨S', r, x⟩, hm⟩ : ∃ R, mkS S a b c = R := ⟨_, rfl⟩
  have hv : S'.vars = S.vars := by have := mkS_vars S a b c; rw [hm] at this; exact this
  have HM := Lib.hid hm; have HV := Lib.hid hv
  clear hm hv
  clear hs h hbel hbx hob hzb hW
  go_enter Try.func41, Try.ntmps41
  go_wp2_with fail
  refine (nmk_ok _ B p S HS.out HSZ.out a b c).mono ?_
  rintro e w1 ⟨rfl, hs1, hk1⟩
  rw [HM.out] at hs1 ⊢
  have HS1 := Lib.hid hs1; have HR1 := Lib.hid (HR.out.tn hk1); have HBX1 := Lib.hid (hk1.blk HBX.out rfl); have HOB1 := Lib.hid (hk1.blk HOB.out rfl); have HZB1 := Lib.hid (hk1.blk HZB.out rfl)
  have HB1 := Lib.hid (Kp.trans HB.out hk1); have HSZ1 := Lib.hid (Nat.le_trans HSZ.out hk1.size)
  clear hs1 hk1
  obtain ⟨b0, b1, b2, b3, b4, bl⟩ := blk5 HBX1.out
  obtain ⟨o0, o1, o2, o3, o4, ol⟩ := blk5 HOB1.out
  go_wp2_with fail
  refine (rmk_ok w1 S HW.out ra rc HR1.out a b c).mono ?_
  rintro e w2 ⟨⟨ra2, rc2, rfl, hr2⟩, hb2⟩
  rw [HM.out] at hr2 ⊢
  have HR2 := Lib.hid hr2; have HS2 := Lib.hid (HS1.out.below hb2); have HB2 := Lib.hid (Kp.trans HB1.out (Kp.of_below hb2)); have HBX2 := Lib.hid (HBX1.out.below hb2 HBX1.out.lt); have HZB2 := Lib.hid (HZB1.out.below hb2 HZB1.out.lt)
  clear hr2 hb2 b0 b1 b2 b3 b4 bl o0 o1 o2 o3 o4 ol
  obtain ⟨b0, b1, b2, b3, b4, bl⟩ := blk5 HBX2.out
  obtain ⟨z0, z1, z2, z3, z4, zl⟩ := blk5 HZB2.out
  obtain ⟨zf0, zf1, zf2, zf3, zf4⟩ := blk5f HZB2.out
  go_wp2_with fail
  refine bodyPost_ret (v := .tuple #[rsV S' ra2 rc2, .bool true]) ?_ rfl ?_
  · rw [results_cellT rfl]; go_simp
  · exact (DoesPost.fin HV.out HS2.out HR2.out HB2.out HZB2.out (by omega)).alloc _
set_option maxRecDepth 100000 in
set_option maxHeartbeats 4000000 in
theorem does_ask (w : World) (B p : Nat) (S : NS) (hB : B ≤ w.heap.size) (hs : Sto w B p S) (ra : Option Addr) (rc : Nat) (h : RSt w S ra rc) (a b c : Int) (va : Option Addr) (vl vc : Nat) :
    Calls Try.prog 41 #[.pointer (some ⟨p, 0, none⟩), rsV S ra rc, .agg (opA 2 a b c va vl vc)] w (DoesPost B p S w) := by
  have hW := hs.wf
  have HW := Lib.hid hW
  obtain ⟨hbel, hbx, hob, hzb⟩ := dw3_all w S ra rc (opA 2 a b c va vl vc)
  have HS := Lib.hid (hs.below hbel); have HR := Lib.hid (h.below hbel); have HBX := Lib.hid hbx; have HOB := Lib.hid hob; have HZB := Lib.hid hzb
  have HB : Hid (Kp TN B w (dw3 w S ra rc (opA 2 a b c va vl vc))) := Lib.hid (Kp.of_below hbel)
  have HSZ := Lib.hid (show B ≤ (dw3 w S ra rc (opA 2 a b c va vl vc)).heap.size from Nat.le_trans hB hbel.size)
  obtain ⟨v0, v1, v2, v3, hv⟩ := askV_ex S a
  have HV := Lib.hid hv
  clear hv
  clear hs h hbel hbx hob hzb hW
  go_enter Try.func41, Try.ntmps41
  go_wp2_with fail
  have HS0 := HS; have HR0 := HR; have HBX0 := HBX; have HOB0 := HOB; have HZB0 := HZB; have HSZ0 := HSZ; have HB0 := HB
  refine (nask_ok _ B p S HS.out a).mono ?_
  rintro e w1 ⟨rfl, n, hn⟩
  rw [HV.out]
  have hb1 := hn ▸ bdN' (dw3 w S ra rc (opA 2 a b c va vl vc)) n
  clear hn
  have HS1 := Lib.hid (HS0.out.below hb1); have HR1 := Lib.hid (HR0.out.below hb1); have HBX1 := Lib.hid (HBX0.out.below hb1 HBX0.out.lt); have HOB1 := Lib.hid (HOB0.out.below hb1 HOB0.out.lt); have HZB1 := Lib.hid (HZB0.out.below hb1 HZB0.out.lt)
  have HSZ1 := Lib.hid (Nat.le_trans HSZ0.out hb1.size); have HB1 := Lib.hid (Kp.trans HB0.out (Kp.of_below hb1))
  clear hb1
  obtain ⟨b0, b1, b2, b3, b4, bl⟩ := blk5 HBX1.out
  obtain ⟨o0, o1, o2, o3, o4, ol⟩ := blk5 HOB1.out
  go_wp2_with fail
  refine (rask_ok w1 S HW.out ra rc HR1.out a).mono ?_
  rintro e w2 ⟨rfl, hb2⟩
  rw [HV.out]
  clear b0 b1 b2 b3 b4 bl o0 o1 o2 o3 o4 ol
  have HS2 := Lib.hid (HS1.out.below hb2); have HR2 := Lib.hid (HR1.out.below hb2); have HBX2 := Lib.hid (HBX1.out.below hb2 HBX1.out.lt); have HOB2 := Lib.hid (HOB1.out.below hb2 HOB1.out.lt); have HZB2 := Lib.hid (HZB1.out.below hb2 HZB1.out.lt)
  have HSZ2 := Lib.hid (Nat.le_trans HSZ1.out hb2.size); have HB2 := Lib.hid (Kp.trans HB1.out (Kp.of_below hb2))
  clear hb2
  obtain ⟨b0, b1, b2, b3, b4, bl⟩ := blk5 HBX2.out
  obtain ⟨z0, z1, z2, z3, z4, zl⟩ := blk5 HZB2.out
  obtain ⟨zf0, zf1, zf2, zf3, zf4⟩ := blk5f HZB2.out
  go_wp2_with fail
  refine bodyPost_ret (v := .tuple #[rsV S ra rc, .bool true]) ?_ rfl ?_
  · rw [results_cellT rfl]; go_simp
  · exact DoesPost.fin rfl HS2.out HR2.out HB2.out HZB2.out (by omega)
set_option maxRecDepth 100000 in
set_option maxHeartbeats 4000000 in
theorem does_eval (w : World) (B p : Nat) (S : NS) (hB : B ≤ w.heap.size) (hs : Sto w B p S) (ra : Option Addr) (rc : Nat) (h : RSt w S ra rc) (a b c : Int) (va : Option Addr) (vals : List Bool) (vc : Nat) (hvl : vals.length ≤ maxLen) (hva : ∀ W, Below B w W → Cells W va (vals.map Value.bool)) :
    Calls Try.prog 41 #[.pointer (some ⟨p, 0, none⟩), rsV S ra rc, .agg (opA 3 a b c va vals.length vc)] w (DoesPost B p S w) := by
  have hW := hs.wf
  have HW := Lib.hid hW
  obtain ⟨hbel, hbx, hob, hzb⟩ := dw3_all w S ra rc (opA 3 a b c va vals.length vc)
  have HS := Lib.hid (hs.below hbel); have HR := Lib.hid (h.below hbel); have HBX := Lib.hid hbx; have HOB := Lib.hid hob; have HZB := Lib.hid hzb
  have HB : Hid (Kp TN B w (dw3 w S ra rc (opA 3 a b c va vals.length vc))) := Lib.hid (Kp.of_below hbel)
  have HSZ := Lib.hid (show B ≤ (dw3 w S ra rc (opA 3 a b c va vals.length vc)).heap.size from Nat.le_trans hB hbel.size)
  have HVA := Lib.hid hva
  obtain ⟨t, ht⟩ : ∃ t, evB S vals a = t := ⟨_, rfl⟩
  obtain ⟨x, hx⟩ : ∃ x, findE S a = x := ⟨_, rfl⟩
  have HT := Lib.hid ht; have HX := Lib.hid hx; have HVL := Lib.hid hvl
  clear ht hx hva hvl
  clear hs h hbel hbx hob hzb hW
  go_enter Try.func41, Try.ntmps41
  go_wp2_with fail
  have HS0 := HS; have HR0 := HR; have HBX0 := HBX; have HOB0 := HOB; have HZB0 := HZB; have HSZ0 := HSZ; have HB0 := HB
  refine (neval_ok _ B p S HS.out a va vals vc HVL.out (HVA.out _ (Kp.low HB.out hB))).mono ?_
  rintro e w1 ⟨rfl, hb1⟩
  rw [HT.out, HX.out]
  have HS1 := Lib.hid (HS0.out.below hb1); have HR1 := Lib.hid (HR0.out.below hb1); have HBX1 := Lib.hid (HBX0.out.below hb1 HBX0.out.lt); have HOB1 := Lib.hid (HOB0.out.below hb1 HOB0.out.lt); have HZB1 := Lib.hid (HZB0.out.below hb1 HZB0.out.lt)
  have HSZ1 := Lib.hid (Nat.le_trans HSZ0.out hb1.size); have HB1 := Lib.hid (Kp.trans HB0.out (Kp.of_below hb1))
  clear hb1
  obtain ⟨b0, b1, b2, b3, b4, bl⟩ := blk5 HBX1.out
  obtain ⟨o0, o1, o2, o3, o4, ol⟩ := blk5 HOB1.out
  go_wp2_with fail
  refine (reval_ok w1 S HW.out ra rc HR1.out a va vals vc HVL.out (HVA.out _ (Kp.low HB1.out hB))).mono ?_
  rintro e w2 ⟨rfl, hb2⟩
  rw [HT.out, HX.out]
  clear b0 b1 b2 b3 b4 bl o0 o1 o2 o3 o4 ol
  have HS2 := Lib.hid (HS1.out.below hb2); have HR2 := Lib.hid (HR1.out.below hb2); have HBX2 := Lib.hid (HBX1.out.below hb2 HBX1.out.lt); have HOB2 := Lib.hid (HOB1.out.below hb2 HOB1.out.lt); have HZB2 := Lib.hid (HZB1.out.below hb2 HZB1.out.lt)
  have HSZ2 := Lib.hid (Nat.le_trans HSZ1.out hb2.size); have HB2 := Lib.hid (Kp.trans HB1.out (Kp.of_below hb2))
  clear hb2
  obtain ⟨b0, b1, b2, b3, b4, bl⟩ := blk5 HBX2.out
  obtain ⟨z0, z1, z2, z3, z4, zl⟩ := blk5 HZB2.out
  obtain ⟨zf0, zf1, zf2, zf3, zf4⟩ := blk5f HZB2.out
  go_wp2_with fail
  refine bodyPost_ret (v := .tuple #[rsV S ra rc, .bool true]) ?_ rfl ?_
  · rw [results_cellT rfl]; go_simp
  · exact DoesPost.fin rfl HS2.out HR2.out HB2.out HZB2.out (by omega)
set_option maxRecDepth 100000 in
set_option maxHeartbeats 4000000 in
theorem does_size (w : World) (B p : Nat) (S : NS) (hB : B ≤ w.heap.size) (hs : Sto w B p S) (ra : Option Addr) (rc : Nat) (h : RSt w S ra rc) (a b c : Int) (va : Option Addr) (vl vc : Nat) :
    Calls Try.prog 41 #[.pointer (some ⟨p, 0, none⟩), rsV S ra rc, .agg (opA 4 a b c va vl vc)] w (DoesPost B p S w) := by
  have hW := hs.wf
  have HW := Lib.hid hW
  obtain ⟨hbel, hbx, hob, hzb⟩ := dw3_all w S ra rc (opA 4 a b c va vl vc)
  have HS := Lib.hid (hs.below hbel); have HR := Lib.hid (h.below hbel); have HBX := Lib.hid hbx; have HOB := Lib.hid hob; have HZB := Lib.hid hzb
  have HB : Hid (Kp TN B w (dw3 w S ra rc (opA 4 a b c va vl vc))) := Lib.hid (Kp.of_below hbel)
  have HSZ := Lib.hid (show B ≤ (dw3 w S ra rc (opA 4 a b c va vl vc)).heap.size from Nat.le_trans hB hbel.size)
  obtain ⟨x, hx⟩ : ∃ x, findE S a = x := ⟨_, rfl⟩
  have HX := Lib.hid hx
  clear hx
  clear hs h hbel hbx hob hzb hW
  go_enter Try.func41, Try.ntmps41
  go_wp2_with fail
  have HS0 := HS; have HR0 := HR; have HBX0 := HBX; have HOB0 := HOB; have HZB0 := HZB; have HSZ0 := HSZ; have HB0 := HB
  refine (nsize_ok _ B p S HS.out a).mono ?_
  rintro e w1 ⟨⟨n1, rfl, h1a, h1b⟩, hb1⟩
  rw [HX.out]
  have HNA := Lib.hid (And.intro h1a h1b)
  clear h1a h1b
  have HS1 := Lib.hid (HS0.out.below hb1); have HR1 := Lib.hid (HR0.out.below hb1); have HBX1 := Lib.hid (HBX0.out.below hb1 HBX0.out.lt); have HOB1 := Lib.hid (HOB0.out.below hb1 HOB0.out.lt); have HZB1 := Lib.hid (HZB0.out.below hb1 HZB0.out.lt)
  have HSZ1 := Lib.hid (Nat.le_trans HSZ0.out hb1.size); have HB1 := Lib.hid (Kp.trans HB0.out (Kp.of_below hb1))
  clear hb1
  obtain ⟨b0, b1, b2, b3, b4, bl⟩ := blk5 HBX1.out
  obtain ⟨o0, o1, o2, o3, o4, ol⟩ := blk5 HOB1.out
  go_wp2_with fail
  refine (rsize_ok w1 S HW.out ra rc HR1.out a).mono ?_
  rintro e w2 ⟨⟨n2, rfl, h2a, h2b⟩, hb2⟩
  rw [HX.out]
  obtain rfl : n1 = n2 := size_uniq HNA.out.1 HNA.out.2 h2a h2b
  clear h2a h2b b0 b1 b2 b3 b4 bl o0 o1 o2 o3 o4 ol
  have HS2 := Lib.hid (HS1.out.below hb2); have HR2 := Lib.hid (HR1.out.below hb2); have HBX2 := Lib.hid (HBX1.out.below hb2 HBX1.out.lt); have HOB2 := Lib.hid (HOB1.out.below hb2 HOB1.out.lt); have HZB2 := Lib.hid (HZB1.out.below hb2 HZB1.out.lt)
  have HSZ2 := Lib.hid (Nat.le_trans HSZ1.out hb2.size); have HB2 := Lib.hid (Kp.trans HB1.out (Kp.of_below hb2))
  clear hb2
  obtain ⟨b0, b1, b2, b3, b4, bl⟩ := blk5 HBX2.out
  obtain ⟨z0, z1, z2, z3, z4, zl⟩ := blk5 HZB2.out
  obtain ⟨zf0, zf1, zf2, zf3, zf4⟩ := blk5f HZB2.out
  go_wp2_with fail
  refine bodyPost_ret (v := .tuple #[rsV S ra rc, .bool true]) ?_ rfl ?_
  · rw [results_cellT rfl]; go_simp
  · exact DoesPost.fin rfl HS2.out HR2.out HB2.out HZB2.out (by omega)
end Go.Proofs.Ytdalnhhenahcjaa
