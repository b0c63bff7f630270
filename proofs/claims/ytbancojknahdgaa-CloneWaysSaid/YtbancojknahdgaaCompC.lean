/- The contract of walker.meet. -/
import Derived.Test.YtbancojknahdgaaCompB
import Derived.BigRegion
namespace Go.Proofs.Ytbancojknahdgaa
open Go.RowKit CP
def MeetPost (w : World) (G B : Nat) (A : WA) (n : Nat) (g : Nat → List Nat) (sl : Nat → Value) (stk : Value) (s' : TS) (e : Ending) (w' : World) : Prop :=
  e = .returned (.tuple #[]) ∧ Only (WF A stk) w w' ∧ ∃ stk', WM w' G B A n g sl stk' s' ∧ (stk'.ownBlock = stk.ownBlock ∨ ∃ b, stk'.ownBlock = some b ∧ w.heap.size ≤ b)
set_option maxRecDepth 100000 in
set_option maxHeartbeats 3200000 in
theorem meet_ok (w : World) (G B : Nat) (A : WA) (n : Nat) (g : Nat → List Nat) (sl : Nat → Value) (stk : Value) (s : TS) (h : WM w G B A n g sl stk s) (k : Nat) (hk : k < n) (hn : n ≤ 1024) (hc : s.count < n) (hsl : s.stack.length < n) (hB : B ≤ w.heap.size) :
    Calls Try.prog 65 #[.pointer (some ⟨A.p, 0, none⟩), .int .i64 (k : Int)] w (MeetPost w G B A n g sl stk (s.meet k)) := by
  obtain ⟨j0, hj0, yz0, yz1, yz2⟩ := info_parts int_infoC
  have H := Lib.hid h
  have c5 : w.cell? ⟨A.p, 5, none⟩ = some (.int .i64 (s.count : Int)) := h.blk.cell 5
  have f5 := h.blk.frozen 5
  have hpl := h.blk.lt
  have HW1 := Lib.hid (h.setCount (s.count + 1))
  have HO1 := Lib.hid ((Only.refl (WF A stk) w).setCell (p := ⟨A.p, 5, none⟩) (fun _ => .inl rfl) (.int .i64 ((s.count + 1 : Nat) : Int)))
  have he : ((s.count + 1 : Nat) : Int) = (s.count : Int) + 1 := by omega
  rw [he] at HW1 HO1
  have hcw : s.count < 1024 := by omega
  clear h he
  go_enter Try.func65, Try.ntmps65
  go_upto_region 1 with (fail)
  obtain ⟨w1, hw1⟩ : ∃ w1, w1 = w.setCell ⟨A.p, 5, none⟩ (.int .i64 ((s.count : Int) + 1)) := ⟨_, rfl⟩
  rw [← hw1] at HW1 HO1
  try rw [← hw1]
  obtain ⟨c1, hc1⟩ : ∃ c1, c1 = s.count + 1 := ⟨_, rfl⟩
  have e1 : (s.count : Int) + 1 = (c1 : Int) := by omega
  rw [e1]
  rw [← hc1] at HW1
  have HC1 := Lib.hid hc1
  clear hw1 e1 hc1 c5 f5 hpl
  have p1 : w1.cell? ⟨A.p, 1, none⟩ = some (.slice (some ⟨A.bm, 0, none⟩) n n) := HW1.out.blk.cell 1
  have p2 : w1.cell? ⟨A.p, 2, none⟩ = some (.slice (some ⟨A.bl, 0, none⟩) n n) := HW1.out.blk.cell 2
  have p5 : w1.cell? ⟨A.p, 5, none⟩ = some (.int .i64 (c1 : Int)) := HW1.out.blk.cell 5
  have pl := HW1.out.blk.lt
  have m1 := (HW1.out.met.cell k).trans (tabI_get _ hk)
  have l1 := (HW1.out.low.cell k).trans (tabI_get _ hk)
  have fm := HW1.out.met.frozen k
  have fl := HW1.out.low.frozen k
  have ml := HW1.out.met.lt
  have ll := HW1.out.low.lt
  have nml := HW1.out.ml
  have npm := HW1.out.pm
  have npl := HW1.out.pl
  go_region
  obtain ⟨w2, hw2⟩ : ∃ w2, w2 = ((w1.setCell ⟨A.bm, k, none⟩ (.int .i64 (c1 : Int))).setCell ⟨A.bl, k, none⟩ (.int .i64 (c1 : Int))).drew := ⟨_, rfl⟩
  have HW2 := Lib.hid (((HW1.out.setMet hk c1).setLow hk c1).below (Below.refl _ _).drew)
  have HO2 := Lib.hid (((HO1.out.setCell (p := ⟨A.bm, k, none⟩) (fun _ => .inr (.inl rfl)) (.int .i64 (c1 : Int))).setCell (p := ⟨A.bl, k, none⟩) (fun _ => .inr (.inr (.inl rfl))) (.int .i64 (c1 : Int))).drew)
  rw [← hw2] at HW2 HO2 ⊢
  clear hw2 p1 p2 p5 pl m1 l1 fm fl ml ll nml npm npl HW1 HO1
  have p3 : w2.cell? ⟨A.p, 3, none⟩ = some stk := HW2.out.blk.cell 3
  have pl := HW2.out.blk.lt
  have hsz := HO2.out.size
  obtain ⟨L, hL⟩ : ∃ L, s.stack.length = L := ⟨_, rfl⟩
  have HOW := Lib.hid HW2.out.own
  have hst : ∀ m l c, ({ ({ ({ s with count := c } : TS) with met := m } : TS) with low := l } : TS).stack.length = L := fun _ _ _ => hL
  have HLL := Lib.hid hL
  rw [show (TS.lower { ({ s with count := c1 } : TS) with met := fup s.met k c1 } k c1).stack = s.stack from rfl, hL] at HOW
  rw [hL] at hsl
  clear hst hL
  go_wp2_with (at_builtin; refine wpList_append_sep rfl (.tmp 35) (.tmp 37) 25 rfl B 3 j0 (.int .i64 0) 1 8 Try.underlying25 hj0 yz0 yz1 yz2 rfl (by decide) stk L _ rfl (HOW.out.alloc _) w2.heap.size 0 1 1 [.int .i64 (k : Int)] rfl rfl (lit_one _ _ _) (ones_int _) (by unfold maxLen; omega) (by omega) (by simp; omega) ?_)
  intro v3 w3 hown hg hsep
  obtain ⟨oa, oc, rfl⟩ := own_shape hown
  have HW3 := Lib.hid ((HW2.out.below ((Below.refl _ _).alloc (Nat.le_refl _) (.cells #[.int .i64 (k : Int)] 3))).push (l := s.stack ++ [k]) hg (by rw [iV_app, List.length_append, HLL.out]; exact hown) (by simpa using hsep))
  have hb3 := (HW2.out.blk.alloc_ (.cells #[.int .i64 (k : Int)] 3)).grown hg (fun e => HW2.out.sp e.symm)
  have q3 : w3.cell? ⟨A.p, 3, none⟩ = some stk := hb3.cell 3
  have fq3 := hb3.frozen 3
  have ql := hb3.lt
  have HO3 := Lib.hid ((HO2.out.alloc (.cells #[.int .i64 (k : Int)] 3)).trans (Only.of_grown (F := WF A stk) hg fun b _ e => .inr (.inr (.inr (.inr (.inr e.symm))))) (fun _ _ hf => hf))
  have HSEP : Hid ((Value.slice oa (L + 1) oc).ownBlock = stk.ownBlock ∨ ∃ b, (Value.slice oa (L + 1) oc).ownBlock = some b ∧ w.heap.size ≤ b) := Lib.hid (by
    rcases hsep with e | e
    · exact .inl e
    · exact .inr ⟨_, e, by omega⟩)
  have HO4 := Lib.hid (HO3.out.setCell (p := ⟨A.p, 3, none⟩) (fun _ => .inl rfl) (Value.slice oa (L + 1) oc))
  clear hown hg hsep hb3 HOW
  go_upto_region 3 with (fail)
  obtain ⟨w4, hw4⟩ : ∃ w4, w4 = w3.setCell ⟨A.p, 3, none⟩ (Value.slice oa (L + 1) oc) := ⟨_, rfl⟩
  rw [← hw4] at HW3 HO4 ⊢
  clear hw4 q3 fq3 ql p3 pl HO3
  have p4 : w4.cell? ⟨A.p, 4, none⟩ = some (.slice (some ⟨A.bo, 0, none⟩) n n) := HW3.out.blk.cell 4
  have pl := HW3.out.blk.lt
  have o1 := (HW3.out.on.cell k).trans (tabB_get _ hk)
  have fo := HW3.out.on.frozen k
  have ol := HW3.out.on.lt
  have HW5 := Lib.hid (HW3.out.setOn hk true)
  have HO5 := Lib.hid (HO4.out.setCell (p := ⟨A.bo, k, none⟩) (fun _ => .inr (.inr (.inr (.inl rfl)))) (.bool true))
  go_wp2_with fail
  go_end0
  refine ⟨rfl, HO5.out, _, ?_, HSEP.out⟩
  have h5 := HW5.out
  rw [HC1.out] at h5
  exact h5
end Go.Proofs.Ytbancojknahdgaa
