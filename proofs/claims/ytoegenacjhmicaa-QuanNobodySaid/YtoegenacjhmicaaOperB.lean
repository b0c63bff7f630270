/- Layer 4: the contract of fresh. -/
import Derived.Test.YtoegenacjhmicaaOperA
import Derived.StillTailTactics
namespace Go.Proofs.Ytoegenacjhmicaa
open Go.RowKit HP NP
/-- the world behind the closure of fresh -/
def fr1 (w : World) (q : Nat) : World := ((w.setCell ⟨q, 4, none⟩ (.slice (some ⟨w.heap.size, 0, none⟩) 4096 4096)).alloc (.cells (madeCells found0 20480) 144)).drew
set_option maxRecDepth 100000 in
set_option maxHeartbeats 800000 in
theorem fresh1_ok (w : World) (pl q : Nat) (x2 : Value) (hp : w.cell? ⟨pl, 0, none⟩ = some (.pointer (some ⟨q, 0, none⟩))) (hq : w.cell? ⟨q, 4, none⟩ = some x2) (hf : w.frozen? ⟨q, 4, none⟩ = false) (hql : q < w.heap.size) (hpl : pl < w.heap.size) :
    Calls Try.prog 103 #[.pointer (some ⟨pl, 0, none⟩)] w fun e w' => e = .returned (.tuple #[]) ∧ w' = fr1 w q := by
  have hmk := made_founds
  unfold fr1
  go_enter Try.func103, Try.ntmps103
  go_wp2
  go_region
  go_end0
  exact ⟨rfl, rfl⟩
/-- the world behind Do -/
def frD (w : World) (q : Nat) : World := ((fr1 (w.setCell ⟨q, 2, none⟩ (.int .i32 1)) q).drew.setCell ⟨q, 1, none⟩ (.int .u32 1)).setCell ⟨q, 2, none⟩ (.int .i32 0)
set_option maxRecDepth 100000 in
set_option maxHeartbeats 1600000 in
theorem slow_ok (w : World) (pl q : Nat) (_hne : pl ≠ q) (t : TypeId) (p : Nat) (hb : Blk w q t (opsCells p 0 (.slice none 0 0) 0)) (hpl : pl < w.heap.size) (hp : w.cell? ⟨pl, 0, none⟩ = some (.pointer (some ⟨q, 0, none⟩))) :
    Calls Try.prog 112 #[.pointer (some ⟨q, 1, none⟩), .func (.func 103) #[] #[.pointer (some ⟨pl, 0, none⟩)]] w fun e w' => e = .returned (.tuple #[]) ∧ w' = frD w q := by
  have hb1 := hb.set_ 2 (.int .i32 1)
  have HL := Lib.hid (lock_free ⟨q, 2, none⟩ w (hb.cell 2) (hb.frozen 2))
  have HLd := Lib.hid (bool_load ⟨q, 1, none⟩ 0 (w.setCell ⟨q, 2, none⟩ (.int .i32 1)) (hb1.cell 1))
  have HF1 := Lib.hid (fresh1_ok (w.setCell ⟨q, 2, none⟩ (.int .i32 1)) pl q (.slice none 0 0) ((World.cell?_setCell_other _ ⟨q, 2, none⟩ ⟨pl, 0, none⟩ _ (by intro e; exact _hne (congrArg Addr.block e).symm)).trans hp) (hb1.cell 4) (hb1.frozen 4) hb1.lt (by simpa [World.setCell] using hpl))
  have hb2 : Blk (fr1 (w.setCell ⟨q, 2, none⟩ (.int .i32 1)) q) q t _ := ((hb1.set_ 4 (.slice (some ⟨(w.setCell ⟨q, 2, none⟩ (.int .i32 1)).heap.size, 0, none⟩) 4096 4096)).alloc_ (.cells (madeCells found0 20480) 144)).drew_
  have HB2 := Lib.hid hb2
  have HB3 := Lib.hid (hb2.drew_.set_ 1 (.int .u32 1))
  have hql := hb.lt
  have hnot : ∀ (x : Bool) (w : World), (Op.unary .not (.bool x)).run Try.prog w = .ok (.bool (!x)) w := fun _ _ => rfl
  clear hb hb1 hb2 hp
  go_enter_defers Try.func112, Try.ntmps112
  go_wp2_with (first | (go_at_call 116; refine HL.out.mono ?_; rintro e w' ⟨rfl, rfl⟩) | (go_at_call 111; refine HLd.out.mono ?_; rintro e w' ⟨rfl, rfl⟩) | (go_at_call 103; refine HF1.out.mono ?_; rintro e w' ⟨rfl, rfl⟩))
  refine leaves_cons (f := 118) (args := #[.pointer (some ⟨q, 1, none⟩), .bool true]) (by simp) (by simp [go_sem]) ?_
  refine (store_deferred ⟨q, 1, none⟩ (.int .u32 0) .returning _ (HB2.out.cell 1) (HB2.out.frozen 1)).mono ?_
  rintro e u' w'' ⟨rfl, rfl, rfl⟩
  refine leaves_cons (f := 117) (args := #[.pointer (some ⟨q, 2, none⟩)]) (by simp [settle]) (by simp [go_sem]) ?_
  refine (unlock_deferred ⟨q, 2, none⟩ _ _ (HB3.out.cell 2) (HB3.out.frozen 2)).mono ?_
  rintro e u' w'' ⟨rfl, rfl, rfl⟩
  simp [Leaves, settle, results, Try.results112, frD]
set_option maxRecDepth 100000 in
set_option maxHeartbeats 1600000 in
theorem do_first (w : World) (pl q : Nat) (hne : pl ≠ q) (t : TypeId) (p : Nat) (hb : Blk w q t (opsCells p 0 (.slice none 0 0) 0)) (hpl : pl < w.heap.size) (hp : w.cell? ⟨pl, 0, none⟩ = some (.pointer (some ⟨q, 0, none⟩))) :
    Calls Try.prog 102 #[.pointer (some ⟨q, 1, none⟩), .func (.func 103) #[] #[.pointer (some ⟨pl, 0, none⟩)]] w fun e w' => e = .returned (.tuple #[]) ∧ w' = frD w q := by
  have HL := Lib.hid (bool_load ⟨q, 1, none⟩ 0 w (hb.cell 1))
  have HS := Lib.hid (slow_ok w pl q hne t p hb hpl hp)
  have hql := hb.lt
  have hnot : ∀ (x : Bool) (w : World), (Op.unary .not (.bool x)).run Try.prog w = .ok (.bool (!x)) w := fun _ _ => rfl
  clear hb hp
  go_enter Try.func102, Try.ntmps102
  go_wp2_with (first | (go_at_call 111; refine HL.out.mono ?_; rintro e w' ⟨rfl, rfl⟩) | (go_at_call 112; refine HS.out.mono ?_; rintro e w' ⟨rfl, rfl⟩))
  go_end0
  exact ⟨rfl, rfl⟩
theorem wr_small (n : Nat) (h : n < 4611686018427387904) : wr64 n = (n : Int) := w64 _ (by omega) (by omega)
/-- block q behind Do -/
structure DoneAt (w : World) (B p q g : Nat) (S : NS) (C : Nat → Fnd) (s0 : Nat) : Prop where
  hg : B ≤ g
  tab : Blk w q 53 (opsCells p 1 (.slice (some ⟨g, 0, none⟩) 4096 4096) (wr64 s0))
  cat : CAt w g C
  le : s0 ≤ S.sweeps
  ca : s0 = S.sweeps → CaF S C
theorem do_ok (w : World) (B p q pl : Nat) (S : NS) (h : OpsM w B p q S) (hB : B ≤ w.heap.size) (hne : pl ≠ q) (hpl : pl < w.heap.size) (hp : w.cell? ⟨pl, 0, none⟩ = some (.pointer (some ⟨q, 0, none⟩))) :
    Calls Try.prog 102 #[.pointer (some ⟨q, 1, none⟩), .func (.func 103) #[] #[.pointer (some ⟨pl, 0, none⟩)]] w fun e w' => e = .returned (.tuple #[]) ∧ ∃ g C s0, DoneAt w' B p q g S C s0 ∧ Kp TC B w w' := by
  obtain ⟨hq, hsw, h⟩ := h
  rcases h with h | ⟨g, C, s0, h1, h2, h3, h4, h5⟩
  · refine (do_first w pl q hne _ p h hpl hp).mono ?_
    rintro e w' ⟨rfl, rfl⟩
    have b1 := h.set_ 2 (.int .i32 1)
    obtain ⟨w1, hw1⟩ : ∃ w1, w1 = w.setCell ⟨q, 2, none⟩ (.int .i32 1) := ⟨_, rfl⟩
    have hsz : w1.heap.size = w.heap.size := by rw [hw1]; simp [World.setCell]
    have k1 : Kp TC B w w1 := by rw [hw1]; exact Kp.set h rfl hq _ _
    rw [← hw1] at b1
    have b2 := b1.set_ 4 (.slice (some ⟨w1.heap.size, 0, none⟩) 4096 4096)
    obtain ⟨w2, hw2⟩ : ∃ w2, w2 = w1.setCell ⟨q, 4, none⟩ (.slice (some ⟨w1.heap.size, 0, none⟩) 4096 4096) := ⟨_, rfl⟩
    have hsz2 : w2.heap.size = w1.heap.size := by rw [hw2]; simp [World.setCell]
    have k2 : Kp TC B w1 w2 := by rw [hw2]; exact Kp.set b1 rfl hq _ _
    rw [← hw2] at b2
    have b3 := (b2.alloc_ (.cells (madeCells found0 20480) 144)).drew_.drew_
    have n3 := (Blk.new_ w2 144 (madeCells found0 20480)).drew_.drew_
    have hqs : q < w1.heap.size := b1.lt
    have k3 : Kp TC B w2 ((w2.alloc (.cells (madeCells found0 20480) 144)).drew.drew) := ((Kp.refl TC B w2).alloc (.cells (madeCells found0 20480) 144)).drewN 2
    obtain ⟨w3, hw3⟩ : ∃ w3, w3 = (w2.alloc (.cells (madeCells found0 20480) 144)).drew.drew := ⟨_, rfl⟩
    rw [← hw3] at b3 n3 k3
    have b4 := b3.set_ 1 (.int .u32 1)
    have k4 : Kp TC B w3 (w3.setCell ⟨q, 1, none⟩ (.int .u32 1)) := Kp.set b3 rfl hq _ _
    have n4 := n3.far (p := ⟨q, 1, none⟩) (by show w2.heap.size ≠ q; omega) (.int .u32 1)
    have b5 := b4.set_ 2 (.int .i32 0)
    have k5 := Kp.set (T := TC) b4 rfl hq 2 (.int .i32 0)
    have n5 := n4.far (p := ⟨q, 2, none⟩) (by show w2.heap.size ≠ q; omega) (.int .i32 0)
    have e : frD w q = ((w3.setCell ⟨q, 1, none⟩ (.int .u32 1)).setCell ⟨q, 2, none⟩ (.int .i32 0)) := by rw [hw3, hw2, hw1]; rfl
    rw [e]
    refine ⟨rfl, w1.heap.size, fun _ => Fnd.no, 0, ⟨by omega, by rw [wr_small 0 (by omega)]; exact b5, ?_, Nat.zero_le _, fun _ => CaF.none S⟩, (((k1.trans k2).trans k3).trans k4).trans k5⟩
    rw [← hsz2]
    exact CAt.made n5
  · refine (do_done q 1 _ w (h2.cell 1)).mono ?_
    rintro e w' ⟨rfl, rfl⟩
    exact ⟨rfl, g, C, s0, ⟨h1, h2, h3, h4, h5⟩, Kp.refl _ _ _⟩
def FreshPost (B p q : Nat) (S : NS) (w : World) (e : Ending) (w' : World) : Prop := e = .returned (.tuple #[]) ∧ ∃ g C, OpsF w' B p q g S C ∧ Kp TC B w w'
set_option maxRecDepth 100000 in
set_option maxHeartbeats 1600000 in
theorem fresh_ok (w : World) (B p q : Nat) (S : NS) (h : Sto w B p S) (ho : OpsM w B p q S) (hB : B ≤ w.heap.size) :
    Calls Try.prog 85 #[.pointer (some ⟨q, 0, none⟩)] w (FreshPost B p q S w) := by
  have HS := Lib.hid h; have HO := Lib.hid ho
  have hql := ho.lt
  have hsw := ho.2.1
  have hmf : ∀ (fn : Fn) (first cap : Array Value) (w : World), (Instr.makeFunc fn first cap).run Try.prog w = .ok (.func fn first cap) w := fun _ _ _ _ => rfl
  clear h ho
  go_enter Try.func85, Try.ntmps85
  go_wp2_with fail
  refine (do_ok _ B p q w.heap.size S (HO.out.below ((Below.refl _ _).alloc (Nat.le_refl _) _)) (by simp; omega) (by omega) (by simp) (by go_simp)).mono ?_
  rintro e w1 ⟨rfl, g, C, s0, hd, hk⟩
  have HD := Lib.hid hd
  have HK := Lib.hid (((Kp.refl TC B w).alloc (.cells #[.pointer (some ⟨q, 0, none⟩)] 38)).trans hk)
  have HS1 := Lib.hid ((HS.out.below ((Below.refl _ _).alloc (Nat.le_refl _) _)).kp hk rfl rfl rfl rfl rfl)
  have HB1 := Lib.hid (hk.blk (Blk.new_ w 38 #[.pointer (some ⟨q, 0, none⟩)]) rfl)
  have x0 : w1.cell? ⟨w.heap.size, 0, none⟩ = some (.pointer (some ⟨q, 0, none⟩)) := HB1.out.cell 0
  have c0 : w1.cell? ⟨q, 0, none⟩ = some (.pointer (some ⟨p, 0, none⟩)) := hd.tab.cell 0
  have hle := hd.le
  have c5 : w1.cell? ⟨q, 5, none⟩ = some (.int .i64 (s0 : Int)) := by rw [← wr_small s0 (by omega)]; exact hd.tab.cell 5
  have c4 : w1.cell? ⟨q, 4, none⟩ = some (.slice (some ⟨g, 0, none⟩) 4096 4096) := hd.tab.cell 4
  have f5 : w1.frozen? ⟨q, 5, none⟩ = false := hd.tab.frozen 5
  have hql1 : q < w1.heap.size := hd.tab.lt
  obtain ⟨sw, hsv⟩ : ∃ sw, S.sweeps = sw := ⟨_, rfl⟩
  have HSV := Lib.hid hsv
  rw [hsv] at hle hsw
  have HCI := Lib.hid found_info
  clear hd hk hsv
  by_cases he : s0 = sw
  · subst he
    have hne : ((s0 : Int) != (s0 : Int)) = false := by simp
    go_wp2_with fail
    refine (nsweeps_ok _ B p S HS1.out).mono ?_
    rintro e w2 ⟨rfl, rfl⟩
    rw [HSV.out, wr_small s0 (by omega)]
    go_wp2_with fail
    go_end0
    refine ⟨rfl, g, C, ⟨HO.out.1, HD.out.hg, by rw [HSV.out]; exact HD.out.tab, HD.out.cat, HD.out.ca HSV.out.symm⟩, HK.out⟩
  · have hne : ((sw : Int) != (s0 : Int)) = true := by rw [bne_iff_ne]; omega
    clear he
    go_wp2_with fail
    refine (nsweeps_ok _ B p S HS1.out).mono ?_
    rintro e w2 ⟨rfl, rfl⟩
    rw [HSV.out, wr_small sw (by omega)]
    obtain ⟨cs, hgb, hsz, _⟩ := HD.out.cat
    have HGB := Lib.hid hgb
    obtain ⟨j0, hj0, yz0, yz1, yz2⟩ := info_parts HCI.out
    have hgq : q ≠ g := HD.out.tab.ne hgb (by decide)
    have HT1 := Lib.hid (show Blk (w1.setRow g (madeCells found0 20480)) q 53 _ from (setRow_other w1 g q _ hgq).trans HD.out.tab)
    have HG1 := Lib.hid (show Blk (w1.setRow g (madeCells found0 20480)) g 144 (madeCells found0 20480) from setRow_heap w1 g cs _ _ _ hgb)
    have HK1 := Lib.hid (Kp.setRow (T := TC) hgb HD.out.hg (madeCells found0 20480) rfl)
    have HX1 := Lib.hid (show Blk (w1.setRow g (madeCells found0 20480)) w.heap.size 38 #[.pointer (some ⟨q, 0, none⟩)] from HK1.out.blk HB1.out rfl)
    have x1 : (w1.setRow g (madeCells found0 20480)).cell? ⟨w.heap.size, 0, none⟩ = some (.pointer (some ⟨q, 0, none⟩)) := HX1.out.cell 0
    have c51 : (w1.setRow g (madeCells found0 20480)).cell? ⟨q, 5, none⟩ = some (.int .i64 (wr64 s0)) := HT1.out.cell 5
    have f51 := HT1.out.frozen 5
    have ql1 := HT1.out.lt
    clear hgb
    go_wp2_with (refine wpList_clear rfl (.tmp 22) 51 144 rfl j0 (.agg found0) g 4096 4096 cs Try.underlying51 hj0 yz0 yz1 (by omega) rfl HGB.out 20480 rfl hsz (by intro v hv; simp [Value.cells, found0] at hv; rcases hv with rfl | rfl | rfl | rfl | rfl <;> rfl) ?_)
    go_end0
    have k5 := Kp.set (T := TC) HT1.out rfl HO.out.1 5 (.int .i64 (sw : Int))
    have t5 := HT1.out.set_ 5 (.int .i64 (sw : Int))
    have g5 := HG1.out.far (p := ⟨q, 5, none⟩) (Ne.symm hgq) (.int .i64 (sw : Int))
    exact ⟨rfl, g, fun _ => Fnd.no, ⟨HO.out.1, HD.out.hg, by rw [HSV.out, wr_small sw (by omega)]; exact t5, CAt.made g5, CaF.none S⟩, (HK.out.trans HK1.out).trans k5⟩
end Go.Proofs.Ytoegenacjhmicaa
