/- Layer 4: the contracts of New, Store, fresh, may. 
 Layer 4: the contract of fresh. 
 Layer 4: the contracts of may, top, split. 
 Layer 4: the contract of ite. -/
import Derived.Test.YtobhjkfkdkiigaaGreatDoorOperM
import Derived.StillTailTactics
namespace Go.Proofs.YtobhjkfkdkiigaaGreatDoor
open Go.RowKit HP NP
set_option maxHeartbeats 400000 in
theorem onew_ok (w : World) (B p : Nat) (S : NS) (h : Sto w B p S) (hB : B ≤ w.heap.size) (hsw : S.sweeps < 4611686018427387904) :
    Calls Tryz.prog 5 #[.pointer (some ⟨p, 0, none⟩)] w fun e w' => ∃ q, e = .returned (.tuple #[.pointer (some ⟨q, 0, none⟩), .int .i64 0]) ∧ OpsM w' B p q S ∧ w.heap.size ≤ q ∧ Below w.heap.size w w' := by
  have HL := Lib.hid (nlen_ok w B p S h)
  have HS := Lib.hid h
  have hc2 := cnt_two h.wf
  obtain ⟨m, hm⟩ : ∃ m, cnt S.l = m := ⟨_, rfl⟩
  rw [hm] at HL hc2
  clear h hm
  have hne : ((m : Int) == 0) = false := beq_eq_false_iff_ne.2 (by omega)
  go_enter Tryz.func5, Tryz.ntmps5
  go_wp2_with fail
  refine HL.out.mono ?_
  rintro e w' ⟨rfl, rfl⟩
  go_wp2_with fail
  go_ret2
  refine ⟨w.heap.size, rfl, ⟨hB, hsw, .inl ?_⟩, Nat.le_refl _, (Below.refl _ _).alloc (Nat.le_refl _) _⟩
  exact Blk.new_ w 83 (opsCells p 0 (.slice none 0 0) 0)
theorem OpsM.ptr {w : World} {B p q : Nat} {S : NS} (h : OpsM w B p q S) : w.cell? ⟨q, 0, none⟩ = some (.pointer (some ⟨p, 0, none⟩)) := by
  obtain ⟨_, _, h⟩ := h
  rcases h with h | ⟨g, C, s0, _, h, _⟩
  · exact h.cell 0
  · exact h.cell 0
theorem ostore_ok (w : World) (B p q : Nat) (S : NS) (h : OpsM w B p q S) : Calls Tryz.prog 19 #[.pointer (some ⟨q, 0, none⟩)] w fun e w' => e = .returned (.pointer (some ⟨p, 0, none⟩)) ∧ w = w' := by
  have c0 := h.ptr
  clear h
  go_enter Tryz.func19, Tryz.ntmps19
  go_wp2
  go_ret
  exact ⟨rfl, rfl⟩
end Go.Proofs.YtobhjkfkdkiigaaGreatDoor

namespace Go.Proofs.YtobhjkfkdkiigaaGreatDoor
open Go.RowKit HP NP
/-- the world behind the closure of fresh -/
def fr1 (w : World) (q : Nat) : World := ((w.setCell ⟨q, 4, none⟩ (.slice (some ⟨w.heap.size, 0, none⟩) 4096 4096)).alloc (.cells (madeCells found0 20480) 196)).drew
set_option maxRecDepth 100000 in
set_option maxHeartbeats 800000 in
theorem fresh1_ok (w : World) (pl q : Nat) (x2 : Value) (hp : w.cell? ⟨pl, 0, none⟩ = some (.pointer (some ⟨q, 0, none⟩))) (hq : w.cell? ⟨q, 4, none⟩ = some x2) (hf : w.frozen? ⟨q, 4, none⟩ = false) (hql : q < w.heap.size) (hpl : pl < w.heap.size) :
    Calls Tryz.prog 151 #[.pointer (some ⟨pl, 0, none⟩)] w fun e w' => e = .returned (.tuple #[]) ∧ w' = fr1 w q := by
  have hmk := made_founds
  unfold fr1
  go_enter Tryz.func151, Tryz.ntmps151
  go_wp2
  go_region
  go_end0
  exact ⟨rfl, rfl⟩
/-- the world behind Do -/
def frD (w : World) (q : Nat) : World := ((fr1 (w.setCell ⟨q, 2, none⟩ (.int .i32 1)) q).drew.setCell ⟨q, 1, none⟩ (.int .u32 1)).setCell ⟨q, 2, none⟩ (.int .i32 0)
set_option maxRecDepth 100000 in
set_option maxHeartbeats 1600000 in
theorem slow_ok (w : World) (pl q : Nat) (_hne : pl ≠ q) (t : TypeId) (p : Nat) (hb : Blk w q t (opsCells p 0 (.slice none 0 0) 0)) (hpl : pl < w.heap.size) (hp : w.cell? ⟨pl, 0, none⟩ = some (.pointer (some ⟨q, 0, none⟩))) :
    Calls Tryz.prog 167 #[.pointer (some ⟨q, 1, none⟩), .func (.func 151) #[] #[.pointer (some ⟨pl, 0, none⟩)]] w fun e w' => e = .returned (.tuple #[]) ∧ w' = frD w q := by
  have hb1 := hb.set_ 2 (.int .i32 1)
  have HL := Lib.hid (lock_free ⟨q, 2, none⟩ w (hb.cell 2) (hb.frozen 2))
  have HLd := Lib.hid (bool_load ⟨q, 1, none⟩ 0 (w.setCell ⟨q, 2, none⟩ (.int .i32 1)) (hb1.cell 1))
  have HF1 := Lib.hid (fresh1_ok (w.setCell ⟨q, 2, none⟩ (.int .i32 1)) pl q (.slice none 0 0) ((World.cell?_setCell_other _ ⟨q, 2, none⟩ ⟨pl, 0, none⟩ _ (by intro e; exact _hne (congrArg Addr.block e).symm)).trans hp) (hb1.cell 4) (hb1.frozen 4) hb1.lt (by simpa [World.setCell] using hpl))
  have hb2 : Blk (fr1 (w.setCell ⟨q, 2, none⟩ (.int .i32 1)) q) q t _ := ((hb1.set_ 4 (.slice (some ⟨(w.setCell ⟨q, 2, none⟩ (.int .i32 1)).heap.size, 0, none⟩) 4096 4096)).alloc_ (.cells (madeCells found0 20480) 196)).drew_
  have HB2 := Lib.hid hb2
  have HB3 := Lib.hid (hb2.drew_.set_ 1 (.int .u32 1))
  have hql := hb.lt
  have hnot : ∀ (x : Bool) (w : World), (Op.unary .not (.bool x)).run Tryz.prog w = .ok (.bool (!x)) w := fun _ _ => rfl
  clear hb hb1 hb2 hp
  go_enter_defers Tryz.func167, Tryz.ntmps167
  go_wp2_with (first | (go_at_call 176; refine HL.out.mono ?_; rintro e w' ⟨rfl, rfl⟩) | (go_at_call 166; refine HLd.out.mono ?_; rintro e w' ⟨rfl, rfl⟩) | (go_at_call 151; refine HF1.out.mono ?_; rintro e w' ⟨rfl, rfl⟩))
  refine leaves_cons (f := 178) (args := #[.pointer (some ⟨q, 1, none⟩), .bool true]) (by simp) (by simp [go_sem]) ?_
  refine (store_deferred ⟨q, 1, none⟩ (.int .u32 0) .returning _ (HB2.out.cell 1) (HB2.out.frozen 1)).mono ?_
  rintro e u' w'' ⟨rfl, rfl, rfl⟩
  refine leaves_cons (f := 177) (args := #[.pointer (some ⟨q, 2, none⟩)]) (by simp [settle]) (by simp [go_sem]) ?_
  refine (unlock_deferred ⟨q, 2, none⟩ _ _ (HB3.out.cell 2) (HB3.out.frozen 2)).mono ?_
  rintro e u' w'' ⟨rfl, rfl, rfl⟩
  simp [Leaves, settle, results, Tryz.results167, frD]
set_option maxRecDepth 100000 in
set_option maxHeartbeats 1600000 in
theorem do_first (w : World) (pl q : Nat) (hne : pl ≠ q) (t : TypeId) (p : Nat) (hb : Blk w q t (opsCells p 0 (.slice none 0 0) 0)) (hpl : pl < w.heap.size) (hp : w.cell? ⟨pl, 0, none⟩ = some (.pointer (some ⟨q, 0, none⟩))) :
    Calls Tryz.prog 150 #[.pointer (some ⟨q, 1, none⟩), .func (.func 151) #[] #[.pointer (some ⟨pl, 0, none⟩)]] w fun e w' => e = .returned (.tuple #[]) ∧ w' = frD w q := by
  have HL := Lib.hid (bool_load ⟨q, 1, none⟩ 0 w (hb.cell 1))
  have HS := Lib.hid (slow_ok w pl q hne t p hb hpl hp)
  have hql := hb.lt
  have hnot : ∀ (x : Bool) (w : World), (Op.unary .not (.bool x)).run Tryz.prog w = .ok (.bool (!x)) w := fun _ _ => rfl
  clear hb hp
  go_enter Tryz.func150, Tryz.ntmps150
  go_wp2_with (first | (go_at_call 166; refine HL.out.mono ?_; rintro e w' ⟨rfl, rfl⟩) | (go_at_call 167; refine HS.out.mono ?_; rintro e w' ⟨rfl, rfl⟩))
  go_end0
  exact ⟨rfl, rfl⟩
theorem wr_small (n : Nat) (h : n < 4611686018427387904) : wr64 n = (n : Int) := w64 _ (by omega) (by omega)
/-- block q behind Do -/
structure DoneAt (w : World) (B p q g : Nat) (S : NS) (C : Nat → Fnd) (s0 : Nat) : Prop where
  hg : B ≤ g
  tab : Blk w q 83 (opsCells p 1 (.slice (some ⟨g, 0, none⟩) 4096 4096) (wr64 s0))
  cat : CAt w g C
  le : s0 ≤ S.sweeps
  ca : s0 = S.sweeps → CaF S C
theorem do_ok (w : World) (B p q pl : Nat) (S : NS) (h : OpsM w B p q S) (hB : B ≤ w.heap.size) (hne : pl ≠ q) (hpl : pl < w.heap.size) (hp : w.cell? ⟨pl, 0, none⟩ = some (.pointer (some ⟨q, 0, none⟩))) :
    Calls Tryz.prog 150 #[.pointer (some ⟨q, 1, none⟩), .func (.func 151) #[] #[.pointer (some ⟨pl, 0, none⟩)]] w fun e w' => e = .returned (.tuple #[]) ∧ ∃ g C s0, DoneAt w' B p q g S C s0 ∧ Kp TC B w w' := by
  obtain ⟨hq, hsw, h⟩ := h
  rcases h with h | ⟨g, C, s0, h1, h2, h3, h4, h5⟩
  · refine (do_first w pl q hne _ p h hpl hp).mono ?_
    rintro e w' ⟨rfl, rfl⟩
    have b1 := h.set_ 2 (.int .i32 1)
    obtain ⟨w1, hw1⟩ : ∃ w1, w1 = w.setCell ⟨q, 2, none⟩ (.int .i32 1) := ⟨_, rfl⟩
    have hsz : w1.heap.size = w.heap.size := by rw [hw1]; simp [World.setCell]
    have k1 : Kp TC B w w1 := by rw [hw1]; exact Kp.set h rfl hq _ _
    rw [← hw1] at b1
    have b2 := b1.set_ 4 (.slice (some ⟨w1.heap.size, 0, none⟩) 4096 4096)
    obtain ⟨w2, hw2⟩ : ∃ w2, w2 = w1.setCell ⟨q, 4, none⟩ (.slice (some ⟨w1.heap.size, 0, none⟩) 4096 4096) := ⟨_, rfl⟩
    have hsz2 : w2.heap.size = w1.heap.size := by rw [hw2]; simp [World.setCell]
    have k2 : Kp TC B w1 w2 := by rw [hw2]; exact Kp.set b1 rfl hq _ _
    rw [← hw2] at b2
    have b3 := (b2.alloc_ (.cells (madeCells found0 20480) 196)).drew_.drew_
    have n3 := (Blk.new_ w2 196 (madeCells found0 20480)).drew_.drew_
    have hqs : q < w1.heap.size := b1.lt
    have k3 : Kp TC B w2 ((w2.alloc (.cells (madeCells found0 20480) 196)).drew.drew) := ((Kp.refl TC B w2).alloc (.cells (madeCells found0 20480) 196)).drewN 2
    obtain ⟨w3, hw3⟩ : ∃ w3, w3 = (w2.alloc (.cells (madeCells found0 20480) 196)).drew.drew := ⟨_, rfl⟩
    rw [← hw3] at b3 n3 k3
    have b4 := b3.set_ 1 (.int .u32 1)
    have k4 : Kp TC B w3 (w3.setCell ⟨q, 1, none⟩ (.int .u32 1)) := Kp.set b3 rfl hq _ _
    have n4 := n3.far (p := ⟨q, 1, none⟩) (by show w2.heap.size ≠ q; omega) (.int .u32 1)
    have b5 := b4.set_ 2 (.int .i32 0)
    have k5 := Kp.set (T := TC) b4 rfl hq 2 (.int .i32 0)
    have n5 := n4.far (p := ⟨q, 2, none⟩) (by show w2.heap.size ≠ q; omega) (.int .i32 0)
    have e : frD w q = ((w3.setCell ⟨q, 1, none⟩ (.int .u32 1)).setCell ⟨q, 2, none⟩ (.int .i32 0)) := by rw [hw3, hw2, hw1]; rfl
    rw [e]
    refine ⟨rfl, w1.heap.size, fun _ => Fnd.no, 0, ⟨by omega, by rw [wr_small 0 (by omega)]; exact b5, ?_, Nat.zero_le _, fun _ => CaF.none S⟩, (((k1.trans k2).trans k3).trans k4).trans k5⟩
    rw [← hsz2]
    exact CAt.made n5
  · refine (do_done q 1 _ w (h2.cell 1)).mono ?_
    rintro e w' ⟨rfl, rfl⟩
    exact ⟨rfl, g, C, s0, ⟨h1, h2, h3, h4, h5⟩, Kp.refl _ _ _⟩
def FreshPost (B p q : Nat) (S : NS) (w : World) (e : Ending) (w' : World) : Prop := e = .returned (.tuple #[]) ∧ ∃ g C, OpsF w' B p q g S C ∧ Kp TC B w w'
set_option maxRecDepth 100000 in
set_option maxHeartbeats 1600000 in
theorem fresh_ok (w : World) (B p q : Nat) (S : NS) (h : Sto w B p S) (ho : OpsM w B p q S) (hB : B ≤ w.heap.size) :
    Calls Tryz.prog 117 #[.pointer (some ⟨q, 0, none⟩)] w (FreshPost B p q S w) := by
  have HS := Lib.hid h; have HO := Lib.hid ho
  have hql := ho.lt
  have hsw := ho.2.1
  have hmf : ∀ (fn : Fn) (first cap : Array Value) (w : World), (Instr.makeFunc fn first cap).run Tryz.prog w = .ok (.func fn first cap) w := fun _ _ _ _ => rfl
  clear h ho
  go_enter Tryz.func117, Tryz.ntmps117
  go_wp2_with fail
  refine (do_ok _ B p q w.heap.size S (HO.out.below ((Below.refl _ _).alloc (Nat.le_refl _) _)) (by simp; omega) (by omega) (by simp) (by go_simp)).mono ?_
  rintro e w1 ⟨rfl, g, C, s0, hd, hk⟩
  have HD := Lib.hid hd
  have HK := Lib.hid (((Kp.refl TC B w).alloc (.cells #[.pointer (some ⟨q, 0, none⟩)] 27)).trans hk)
  have HS1 := Lib.hid ((HS.out.below ((Below.refl _ _).alloc (Nat.le_refl _) _)).kp hk rfl rfl rfl rfl rfl)
  have HB1 := Lib.hid (hk.blk (Blk.new_ w 27 #[.pointer (some ⟨q, 0, none⟩)]) rfl)
  have x0 : w1.cell? ⟨w.heap.size, 0, none⟩ = some (.pointer (some ⟨q, 0, none⟩)) := HB1.out.cell 0
  have c0 : w1.cell? ⟨q, 0, none⟩ = some (.pointer (some ⟨p, 0, none⟩)) := hd.tab.cell 0
  have hle := hd.le
  have c5 : w1.cell? ⟨q, 5, none⟩ = some (.int .i64 (s0 : Int)) := by rw [← wr_small s0 (by omega)]; exact hd.tab.cell 5
  have c4 : w1.cell? ⟨q, 4, none⟩ = some (.slice (some ⟨g, 0, none⟩) 4096 4096) := hd.tab.cell 4
  have f5 : w1.frozen? ⟨q, 5, none⟩ = false := hd.tab.frozen 5
  have hql1 : q < w1.heap.size := hd.tab.lt
  obtain ⟨sw, hsv⟩ : ∃ sw, S.sweeps = sw := ⟨_, rfl⟩
  have HSV := Lib.hid hsv
  rw [hsv] at hle hsw
  have HCI := Lib.hid found_info
  clear hd hk hsv
  by_cases he : s0 = sw
  · subst he
    have hne : ((s0 : Int) != (s0 : Int)) = false := by simp
    go_wp2_with fail
    refine (nsweeps_ok _ B p S HS1.out).mono ?_
    rintro e w2 ⟨rfl, rfl⟩
    rw [HSV.out, wr_small s0 (by omega)]
    go_wp2_with fail
    go_end0
    refine ⟨rfl, g, C, ⟨HO.out.1, HD.out.hg, by rw [HSV.out]; exact HD.out.tab, HD.out.cat, HD.out.ca HSV.out.symm⟩, HK.out⟩
  · have hne : ((sw : Int) != (s0 : Int)) = true := by rw [bne_iff_ne]; omega
    clear he
    go_wp2_with fail
    refine (nsweeps_ok _ B p S HS1.out).mono ?_
    rintro e w2 ⟨rfl, rfl⟩
    rw [HSV.out, wr_small sw (by omega)]
    obtain ⟨cs, hgb, hsz, _⟩ := HD.out.cat
    have HGB := Lib.hid hgb
    obtain ⟨j0, hj0, yz0, yz1, yz2⟩ := info_parts HCI.out
    have hgq : q ≠ g := HD.out.tab.ne hgb (by decide)
    have HT1 := Lib.hid (show Blk (w1.setRow g (madeCells found0 20480)) q 83 _ from (setRow_other w1 g q _ hgq).trans HD.out.tab)
    have HG1 := Lib.hid (show Blk (w1.setRow g (madeCells found0 20480)) g 196 (madeCells found0 20480) from setRow_heap w1 g cs _ _ _ hgb)
    have HK1 := Lib.hid (Kp.setRow (T := TC) hgb HD.out.hg (madeCells found0 20480) rfl)
    have HX1 := Lib.hid (show Blk (w1.setRow g (madeCells found0 20480)) w.heap.size 27 #[.pointer (some ⟨q, 0, none⟩)] from HK1.out.blk HB1.out rfl)
    have x1 : (w1.setRow g (madeCells found0 20480)).cell? ⟨w.heap.size, 0, none⟩ = some (.pointer (some ⟨q, 0, none⟩)) := HX1.out.cell 0
    have c51 : (w1.setRow g (madeCells found0 20480)).cell? ⟨q, 5, none⟩ = some (.int .i64 (wr64 s0)) := HT1.out.cell 5
    have f51 := HT1.out.frozen 5
    have ql1 := HT1.out.lt
    clear hgb
    go_wp2_with (refine wpList_clear rfl (.tmp 22) 81 196 rfl j0 (.agg found0) g 4096 4096 cs Tryz.underlying81 hj0 yz0 yz1 (by omega) rfl HGB.out 20480 rfl hsz (by intro v hv; simp [Value.cells, found0] at hv; rcases hv with rfl | rfl | rfl | rfl | rfl <;> rfl) ?_)
    go_end0
    have k5 := Kp.set (T := TC) HT1.out rfl HO.out.1 5 (.int .i64 (sw : Int))
    have t5 := HT1.out.set_ 5 (.int .i64 (sw : Int))
    have g5 := HG1.out.far (p := ⟨q, 5, none⟩) (Ne.symm hgq) (.int .i64 (sw : Int))
    exact ⟨rfl, g, fun _ => Fnd.no, ⟨HO.out.1, HD.out.hg, by rw [HSV.out, wr_small sw (by omega)]; exact t5, CAt.made g5, CaF.none S⟩, (HK.out.trans HK1.out).trans k5⟩
end Go.Proofs.YtobhjkfkdkiigaaGreatDoor

namespace Go.Proofs.YtobhjkfkdkiigaaGreatDoor
open Go.RowKit HP NP
theorem askV_yes {S : NS} {k : Int} (h : isK S.l k = true) : askV S k = .tuple #[.int .i64 ((nd S.l k.toNat).v : Int), .int .i64 ((nd S.l k.toNat).low : Int), .int .i64 ((nd S.l k.toNat).high : Int), .int .i64 0] := by unfold askV; rw [h]; rfl
theorem askV_no {S : NS} {k : Int} (h : isK S.l k = false) : askV S k = .tuple #[.int .i64 0, .int .i64 0, .int .i64 0, .int .i64 3] := by unfold askV; rw [h]; rfl
theorem OpsM.drewN {w : World} {B p q : Nat} {S : NS} (h : OpsM w B p q S) (n : Nat) : OpsM (w.drewN n) B p q S := h.below (bdN' w n)
def MayPost (B p q : Nat) (S : NS) (w : World) (e : Ending) (w' : World) : Prop := e = .returned (.int .i64 0) ∧ ∃ g C, OpsF w' B p q g S C ∧ Kp TC B w w'
set_option maxRecDepth 100000 in
set_option maxHeartbeats 1600000 in
theorem may_ok (w : World) (B p q : Nat) (S : NS) (h : Sto w B p S) (ho : OpsM w B p q S) (hB : B ≤ w.heap.size) (la : Option Addr) (ks : List Int) (c : Nat) (hl : ks.length ≤ 4) (hc : Cells w la (ks.map fun k => .int .i64 k)) (hk : ∀ k ∈ ks, isK S.l k = true) :
    Calls Tryz.prog 88 #[.pointer (some ⟨q, 0, none⟩), .slice la ks.length c] w (MayPost B p q S w) := by
  have HS := Lib.hid h; have HO := Lib.hid ho; have HC := Lib.hid hc; have HK := Lib.hid hk
  have hql := ho.lt
  have c0 := ho.ptr
  obtain ⟨N, hN⟩ : ∃ N, ks.length = N := ⟨_, rfl⟩
  have HN := Lib.hid hN
  rw [hN] at hl ⊢
  clear h ho hc hk hN
  go_enter Tryz.func88, Tryz.ntmps88
  go_wp2_with fail
  go_loopg [22] N (fun m x wr => ∃ k n : Nat, m + k = N ∧ x = .int .i64 (k : Int) ∧ wr = w.drewN n)
  case atStart => exact ⟨0, 0, rfl, rfl, rfl⟩
  case round =>
    obtain ⟨k, n, hm, rfl, rfl⟩ := hrel
    have HM := Lib.hid hm
    clear hm
    by_cases hlt : k < N
    · obtain ⟨K, hK⟩ : ∃ K, ks[k]? = some K := ⟨_, List.getElem?_eq_getElem (by rw [HN.out]; exact hlt)⟩
      have hisK := HK.out K (List.mem_of_getElem? hK)
      obtain ⟨xb, xo, rfl, hxl, hxc⟩ := HC.out.at_ (k := k) (v := .int .i64 K) (by rw [List.getElem?_map, hK]; rfl)
      have HA := Lib.hid (nask_ok (w.drewN n) B p S (HS.out.below (bdN' w n)) K)
      rw [askV_yes hisK] at HA
      clear hK hisK
      go_wp2_with fail
      refine HA.out.mono ?_
      rintro e w' ⟨rfl, n2, rfl⟩
      go_wp2_with fail
      go_roundg (N - (k + 1))
      case measure => have := HM.out; omega
      case rel => exact ⟨k + 1, n + n2, by have := HM.out; omega, by go_num, rfl⟩
    · have hk2 : k = N := by have := HM.out; omega
      subst hk2
      have HF := Lib.hid (fresh_ok (w.drewN n) B p q S (HS.out.below (bdN' w n)) (HO.out.drewN n) hB)
      go_wp2_with fail
      refine HF.out.mono ?_
      rintro e w' ⟨rfl, g, C, h1, h2⟩
      have H1 := Lib.hid h1; have H2 := Lib.hid h2
      clear h1 h2
      go_wp2_with fail
      go_ret
      exact ⟨rfl, g, C, H1.out, ((Kp.refl TC B w).drewN n).trans H2.out⟩
def MayNo (w : World) (e : Ending) (w' : World) : Prop := e = .returned (.int .i64 3) ∧ ∃ n, w' = w.drewN n
set_option maxRecDepth 100000 in
set_option maxHeartbeats 1600000 in
theorem may_no (w : World) (B p q : Nat) (S : NS) (h : Sto w B p S) (ho : OpsM w B p q S) (la : Option Addr) (ks : List Int) (c : Nat) (hl : ks.length ≤ 4) (hc : Cells w la (ks.map fun k => .int .i64 k)) (j : Nat) (K : Int) (hj : ks[j]? = some K) (hjK : isK S.l K = false) (hbef : ∀ i x, i < j → ks[i]? = some x → isK S.l x = true) :
    Calls Tryz.prog 88 #[.pointer (some ⟨q, 0, none⟩), .slice la ks.length c] w (MayNo w) := by
  have HS := Lib.hid h; have HC := Lib.hid hc; have HB := Lib.hid hbef; have HJ := Lib.hid hj; have HJK := Lib.hid hjK
  have hjl : j < ks.length := by rcases Nat.lt_or_ge j ks.length with h1 | h1; exact h1; rw [List.getElem?_eq_none h1] at hj; cases hj
  have hql := ho.lt
  have c0 := ho.ptr
  obtain ⟨N, hN⟩ : ∃ N, ks.length = N := ⟨_, rfl⟩
  have HN := Lib.hid hN
  rw [hN] at hl hjl ⊢
  clear h ho hc hbef hN hj hjK
  go_enter Tryz.func88, Tryz.ntmps88
  go_wp2_with fail
  go_loopg [22] j (fun m x wr => ∃ k n : Nat, m + k = j ∧ x = .int .i64 (k : Int) ∧ wr = w.drewN n)
  case atStart => exact ⟨0, 0, by omega, rfl, rfl⟩
  case round =>
    obtain ⟨k, n, hm, rfl, rfl⟩ := hrel
    have HM := Lib.hid hm
    clear hm
    by_cases hlt : k < j
    · obtain ⟨K2, hK⟩ : ∃ K2, ks[k]? = some K2 := ⟨_, List.getElem?_eq_getElem (by rw [HN.out]; omega)⟩
      have hisK := HB.out k K2 hlt hK
      obtain ⟨xb, xo, rfl, hxl, hxc⟩ := HC.out.at_ (k := k) (v := .int .i64 K2) (by rw [List.getElem?_map, hK]; rfl)
      have HA := Lib.hid (nask_ok (w.drewN n) B p S (HS.out.below (bdN' w n)) K2)
      rw [askV_yes hisK] at HA
      have hkN : k < N := by omega
      clear hK hisK
      go_wp2_with fail
      refine HA.out.mono ?_
      rintro e w' ⟨rfl, n2, rfl⟩
      go_wp2_with fail
      go_roundg (j - (k + 1))
      case measure => have := HM.out; omega
      case rel => exact ⟨k + 1, n + n2, by have := HM.out; omega, by go_num, rfl⟩
    · have hk2 : k = j := by have := HM.out; omega
      subst hk2
      obtain ⟨xb, xo, rfl, hxl, hxc⟩ := HC.out.at_ (k := k) (v := .int .i64 K) (by rw [List.getElem?_map, HJ.out]; rfl)
      have HA := Lib.hid (nask_ok (w.drewN n) B p S (HS.out.below (bdN' w n)) K)
      rw [askV_no HJK.out] at HA
      clear hlt
      go_wp2_with fail
      refine HA.out.mono ?_
      rintro e w' ⟨rfl, n2, rfl⟩
      go_wp2_with fail
      go_ret
      exact ⟨rfl, _, rfl⟩
set_option maxHeartbeats 1600000 in
theorem osplit_ok (w : World) (B p q : Nat) (S : NS) (h : Sto w B p S) (ho : OpsM w B p q S) (v k : Nat) (hk : isB S.l k = true) :
    Calls Tryz.prog 119 #[.pointer (some ⟨q, 0, none⟩), .int .i64 (v : Int), .int .i64 (k : Int)] w fun e w' => e = .returned (.tuple #[.int .i64 (sLow S v k : Int), .int .i64 (sHigh S v k : Int)]) ∧ ∃ n, w' = w.drewN n := by
  have HA := Lib.hid (nask_ok w B p S h (k : Int))
  rw [askV_yes (by rw [isK_nat]; exact hk), Int.toNat_natCast] at HA
  have hql := ho.lt
  have c0 := ho.ptr
  clear h ho hk
  unfold sLow sHigh
  by_cases e : (nd S.l k).v = v
  · rw [if_pos e, if_pos e]
    have hne : (((nd S.l k).v : Int) != (v : Int)) = false := by rw [e]; simp
    clear e
    go_enter Tryz.func119, Tryz.ntmps119
    go_wp2_with fail
    refine HA.out.mono ?_
    rintro e w' ⟨rfl, n2, rfl⟩
    go_wp2_with fail
    go_ret2
    exact ⟨rfl, _, rfl⟩
  · rw [if_neg e, if_neg e]
    have hne : (((nd S.l k).v : Int) != (v : Int)) = true := by rw [bne_iff_ne]; omega
    clear e
    go_enter Tryz.func119, Tryz.ntmps119
    go_wp2_with fail
    refine HA.out.mono ?_
    rintro e w' ⟨rfl, n2, rfl⟩
    go_wp2_with fail
    go_ret2
    exact ⟨rfl, _, rfl⟩
def minV (S : NS) : List Nat → Nat → Nat
  | [], v => v
  | k :: t, v => minV S t (min v (nd S.l k).v)
theorem minV_snoc (S : NS) (l : List Nat) (k v : Nat) : minV S (l ++ [k]) v = min (minV S l v) (nd S.l k).v := by
  induction l generalizing v with
  | nil => rfl
  | cons x t ih => exact ih _
set_option maxRecDepth 100000 in
set_option maxHeartbeats 1600000 in
theorem top_ok (w : World) (B p q : Nat) (S : NS) (h : Sto w B p S) (ho : OpsM w B p q S) (la : Option Addr) (ks : List Nat) (c : Nat) (hl : ks.length ≤ 4) (hc : Cells w la (ks.map fun k : Nat => .int .i64 (k : Int))) (hk : ∀ k ∈ ks, isB S.l k = true) :
    Calls Tryz.prog 118 #[.pointer (some ⟨q, 0, none⟩), .slice la ks.length c] w fun e w' => e = .returned (.int .i64 (minV S ks S.vars : Int)) ∧ ∃ n, w' = w.drewN n := by
  have HS := Lib.hid h; have HC := Lib.hid hc; have HK := Lib.hid hk
  have HV := Lib.hid (nvars_ok w B p S h)
  have hql := ho.lt
  have c0 := ho.ptr
  obtain ⟨N, hN⟩ : ∃ N, ks.length = N := ⟨_, rfl⟩
  have HN := Lib.hid hN
  rw [hN] at hl ⊢
  clear h ho hc hk hN
  go_enter Tryz.func118, Tryz.ntmps118
  go_wp2_with fail
  refine HV.out.mono ?_
  rintro e w' ⟨rfl, rfl⟩
  go_wp2_with fail
  go_loopg [5, 19] N (fun m y x wr => ∃ k n v : Nat, m + k = N ∧ y = .int .i64 (v : Int) ∧ x = .int .i64 (k : Int) ∧ wr = w.drewN n ∧ v = minV S (ks.take k) S.vars)
  case atStart => exact ⟨0, 0, _, rfl, rfl, rfl, rfl, rfl⟩
  case round =>
    obtain ⟨k, n, v, hm, rfl, rfl, rfl, hv⟩ := hrel
    have HM := Lib.hid hm; have HVV := Lib.hid hv
    clear hm hv
    by_cases hlt : k < N
    · obtain ⟨K, hK⟩ : ∃ K, ks[k]? = some K := ⟨_, List.getElem?_eq_getElem (by rw [HN.out]; exact hlt)⟩
      have hisK := HK.out K (List.mem_of_getElem? hK)
      obtain ⟨xb, xo, rfl, hxl, hxc⟩ := HC.out.at_ (k := k) (v := .int .i64 (K : Int)) (by rw [List.getElem?_map, hK]; rfl)
      have HA := Lib.hid (nask_ok (w.drewN n) B p S (HS.out.below (bdN' w n)) (K : Int))
      rw [askV_yes (by rw [isK_nat]; exact hisK), Int.toNat_natCast] at HA
      have hnext : minV S (ks.take (k + 1)) S.vars = min v (nd S.l K).v := by
        have hkl : k < ks.length := by rw [HN.out]; exact hlt
        have hKe : ks[k] = K := by rw [List.getElem?_eq_getElem hkl] at hK; injection hK
        rw [List.take_succ_eq_append_getElem hkl, minV_snoc, hKe, ← HVV.out]
      obtain ⟨y, hy⟩ : ∃ y, (nd S.l K).v = y := ⟨_, rfl⟩
      rw [hy] at HA hnext
      have HNX := Lib.hid hnext
      clear hK hisK hy hnext
      rcases Nat.lt_or_ge y v with hyv | hyv
      · have hmin : min (v : Int) (y : Int) = (y : Int) := by omega
        have HMN : Hid (min v y = y) := Lib.hid (by omega)
        go_wp2_with fail
        refine HA.out.mono ?_
        rintro e w' ⟨rfl, n2, rfl⟩
        go_wp2_with fail
        go_roundg (N - (k + 1))
        case measure => have := HM.out; omega
        case rel => exact ⟨k + 1, n + n2, y, by have := HM.out; omega, rfl, by go_num, rfl, by rw [HNX.out, HMN.out]⟩
      · have hmin : min (v : Int) (y : Int) = (v : Int) := by omega
        have HMN : Hid (min v y = v) := Lib.hid (by omega)
        go_wp2_with fail
        refine HA.out.mono ?_
        rintro e w' ⟨rfl, n2, rfl⟩
        go_wp2_with fail
        go_roundg (N - (k + 1))
        case measure => have := HM.out; omega
        case rel => exact ⟨k + 1, n + n2, v, by have := HM.out; omega, rfl, by go_num, rfl, by rw [HNX.out, HMN.out]⟩
    · have hk2 : k = N := by have := HM.out; omega
      have HV2 : Hid (v = minV S ks S.vars) := Lib.hid (by rw [HVV.out, List.take_of_length_le (by rw [HN.out]; omega)])
      clear hlt
      subst hk2
      go_wp2_with fail
      go_ret
      exact ⟨ret_int (by rw [HV2.out]), _, rfl⟩
end Go.Proofs.YtobhjkfkdkiigaaGreatDoor

namespace Go.Proofs.YtobhjkfkdkiigaaGreatDoor
open Go.RowKit HP NP
theorem and_low (x : Int) (j : Nat) (hj : j ≤ 62) : bits .and .i64 x ((2 ^ j - 1 : Nat) : Int) = x % ((2 ^ j : Nat) : Int) := by
  have hp : 0 < 2 ^ j := Nat.two_pow_pos j
  have hle : 2 ^ j ≤ 2 ^ 62 := Nat.pow_le_pow_right (by decide) hj
  have hlt : 2 ^ j - 1 < 2 ^ 64 := by
    have : (2 : Nat) ^ 62 < 2 ^ 64 := by decide
    omega
  show IntKind.i64.wrap ((BitVec.ofInt 64 x &&& BitVec.ofInt 64 ((2 ^ j - 1 : Nat) : Int)).toNat : Int) = _
  rw [BitVec.toNat_and, BitVec.ofInt_natCast, BitVec.toNat_ofNat, Nat.mod_eq_of_lt hlt, Nat.and_two_pow_sub_one_eq_mod, BitVec.toNat_ofInt]
  have e : (((x % ((2 ^ 64 : Nat) : Int)).toNat % 2 ^ j : Nat) : Int) = x % ((2 ^ j : Nat) : Int) := by
    have h0 : 0 ≤ x % ((2 ^ 64 : Nat) : Int) := Int.emod_nonneg _ (by decide)
    rw [Int.natCast_emod, Int.toNat_of_nonneg h0]
    apply Int.emod_emod_of_dvd
    have : (2 : Nat) ^ j ∣ 2 ^ 64 := Nat.pow_dvd_pow 2 (by omega)
    exact Int.natCast_dvd_natCast.2 this
  rw [e, IntKind.wrap_i64]
  have h1 : 0 ≤ x % ((2 ^ j : Nat) : Int) := Int.emod_nonneg _ (by omega)
  have h2 : x % ((2 ^ j : Nat) : Int) < ((2 ^ j : Nat) : Int) := Int.emod_lt_of_pos _ (by omega)
  have h3 : ((2 ^ j : Nat) : Int) ≤ ((2 ^ 62 : Nat) : Int) := by omega
  have h4 : ((2 ^ 62 : Nat) : Int) = 4611686018427387904 := rfl
  omega
theorem and_lowN (x j : Nat) (hj : j ≤ 62) : bits .and .i64 (x : Int) ((2 ^ j - 1 : Nat) : Int) = ((x % 2 ^ j : Nat) : Int) := by
  rw [and_low _ j hj]; omega
theorem and_4095 (x : Nat) : bits .and .i64 (x : Int) 4095 = ((x % 4096 : Nat) : Int) := and_lowN x 12 (by decide)
def ItePost (B p q g : Nat) (S : NS) (a b c f : Nat) (w : World) (e : Ending) (w' : World) : Prop :=
  ∃ S' C', Sto w' B p S' ∧ OpsF w' B p q g S' C' ∧ Kp TO B w w' ∧ ((∃ k : Nat, e = .returned (.tuple #[.int .i64 (k : Int), .int .i64 0]) ∧ IteOk S a b c f S' k) ∨ (e = .returned (.tuple #[.int .i64 0, .int .i64 30]) ∧ IteNo S f S'))
theorem ItePost.same {B p q g : Nat} {S : NS} {C : Nat → Fnd} {a b c f k : Nat} {w : World} (h : Sto w B p S) (ho : OpsF w B p q g S C) (hi : IteIs S a b c k) {e : Ending} (he : e = .returned (.tuple #[.int .i64 (k : Int), .int .i64 0])) : ItePost B p q g S a b c f w e w :=
  ⟨S, C, h, ho, Kp.refl _ _ _, .inl ⟨k, he, IteOk.triv h.wf hi⟩⟩
set_option maxRecDepth 100000 in
set_option maxHeartbeats 1600000 in
theorem ite_early (w : World) (B p q g : Nat) (S : NS) (C : Nat → Fnd) (a b c f : Nat) (h : Sto w B p S) (ho : OpsF w B p q g S C) (ha : isB S.l a = true) (hb : isB S.l b = true) (hc : isB S.l c = true)
    (hx : a < 2 ∨ b = c ∨ (b = 1 ∧ c = 0)) :
    Calls Tryz.prog 89 #[.pointer (some ⟨q, 0, none⟩), .int .i64 (a : Int), .int .i64 (b : Int), .int .i64 (c : Int)] w (ItePost B p q g S a b c f w) := by
  have HS := Lib.hid h; have HO := Lib.hid ho
  by_cases h1 : a = 1 ∨ b = c
  · have HI := Lib.hid (iteIs_one ha hb hc h1)
    by_cases h2 : a = 1
    · have e1 : ((a : Int) == 1) = true := by rw [h2]; rfl
      clear h ho ha hb hc hx h1 h2
      go_enter Tryz.func89, Tryz.ntmps89
      go_wp2_with fail
      go_ret2
      exact ItePost.same HS.out HO.out HI.out rfl
    · have e1 : ((a : Int) == 1) = false := beq_eq_false_iff_ne.2 (by omega)
      have e2 : ((b : Int) == (c : Int)) = true := by rw [beq_iff_eq]; omega
      clear h ho ha hb hc hx h1 h2
      go_enter Tryz.func89, Tryz.ntmps89
      go_wp2_with fail
      go_ret2
      exact ItePost.same HS.out HO.out HI.out rfl
  · have e1 : ((a : Int) == 1) = false := beq_eq_false_iff_ne.2 (by omega)
    have e2 : ((b : Int) == (c : Int)) = false := beq_eq_false_iff_ne.2 (by omega)
    by_cases h0 : a = 0
    · subst h0
      have HI := Lib.hid (iteIs_zero h.wf hb hc)
      have e3 : (((0 : Nat) : Int) == 0) = true := rfl
      clear h ho ha hb hc hx h1
      go_enter Tryz.func89, Tryz.ntmps89
      go_wp2_with fail
      go_ret2
      exact ItePost.same HS.out HO.out HI.out rfl
    · obtain ⟨rfl, rfl⟩ : b = 1 ∧ c = 0 := by omega
      have HI := Lib.hid (iteIs_self h.wf ha)
      have e3 : ((a : Int) == 0) = false := beq_eq_false_iff_ne.2 (by omega)
      clear h ho ha hb hc hx h1 h0
      go_enter Tryz.func89, Tryz.ntmps89
      go_wp2_with fail
      go_ret2
      exact ItePost.same HS.out HO.out HI.out rfl
end Go.Proofs.YtobhjkfkdkiigaaGreatDoor
