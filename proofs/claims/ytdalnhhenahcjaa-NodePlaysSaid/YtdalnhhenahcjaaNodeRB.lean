/- The reference's store: with (another node under a number). -/
import Derived.Test.YtdalnhhenahcjaaNodeRA
import Derived.Laws.ResultCell
namespace Go.Proofs.Ytdalnhhenahcjaa
open Go.RowKit HP NP
theorem Cells.take_ {w : World} {a : Option Addr} {xs : List Value} (h : Cells w a xs) (n : Nat) : Cells w a (xs.take n) := fun hx => by
  obtain ⟨b, off, e, hb, hh⟩ := h (by rintro rfl; simp at hx)
  refine ⟨b, off, e, hb, fun i v hv => hh i v ?_⟩
  rw [List.getElem?_take] at hv
  split at hv
  · exact hv
  · cases hv
theorem Cells.drop_ {w : World} {b off : Nat} {xs : List Value} (h : Cells w (some ⟨b, off, none⟩) xs) (n : Nat) : Cells w (some ⟨b, off + n, none⟩) (xs.drop n) := fun hx => by
  obtain ⟨b', off', e, hb, hh⟩ := h (by rintro rfl; simp at hx)
  injection e with e
  injection e with e1 e2 _
  subst e1 e2
  exact ⟨b, off + n, rfl, hb, fun i v hv => by rw [List.getElem?_drop] at hv; rw [Nat.add_assoc]; exact hh _ v hv⟩
theorem flat_take {α : Type} (f : α → List Value) (k : Nat) (hf : ∀ x, (f x).length = k) (l : List α) (n : Nat) : (l.flatMap f).take (n * k) = (l.take n).flatMap f := by
  induction l generalizing n with
  | nil => simp
  | cons x t ih =>
    cases n with
    | zero => simp
    | succ n => rw [List.flatMap_cons, List.take_succ_cons, List.flatMap_cons, ← ih n, List.take_append, hf, List.take_of_length_le (by rw [hf, Nat.succ_mul]; omega), show (n + 1) * k - k = n * k by rw [Nat.succ_mul]; omega]
theorem flat_drop {α : Type} (f : α → List Value) (k : Nat) (hf : ∀ x, (f x).length = k) (l : List α) (n : Nat) : (l.flatMap f).drop (n * k) = (l.drop n).flatMap f := by
  induction l generalizing n with
  | nil => simp
  | cons x t ih =>
    cases n with
    | zero => simp
    | succ n => rw [List.flatMap_cons, List.drop_succ_cons, ← ih n, List.drop_append, hf, List.drop_of_length_le (by rw [hf, Nat.succ_mul]; omega), show (n + 1) * k - k = n * k by rw [Nat.succ_mul]; omega]; rfl
theorem flat_length' {α : Type} (f : α → List Value) (k : Nat) (hf : ∀ x, (f x).length = k) (l : List α) : (l.flatMap f).length = l.length * k := by
  induction l with
  | nil => simp
  | cons x t ih => rw [List.flatMap_cons, List.length_append, hf, ih, List.length_cons, Nat.add_mul]; omega
theorem nds_ones (l : List Nd) : ∀ u ∈ l.flatMap ndCells, u.oneCell' = true := by
  intro u hu
  obtain ⟨x, _, hx⟩ := List.mem_flatMap.1 hu
  exact nd_ones x u hx
theorem info_rnode : (Try.prog.info? 107).map (fun i => (i.zero, i.size, i.bytes)) = some (some (.agg #[.bool false, .int .i64 0, .int .i64 0, .int .i64 0, .int .i64 0]), 5, 40) := by kernel_rfl
theorem own_low {w : World} {base e size n g : Nat} {v : Value} {xs : List Value} (h : w.ownsRow base e size v n xs) (hg : g < base) : some g ≠ v.ownBlock := fun he => by have := (h.lt g he.symm).1; omega
theorem results_cell1 {fn : Func} {p : Tmp} {ty : TypeId} (h : fn.results = #[.cell p ty]) (tmps : Array Value) (P : Program) (w : World) : (results fn tmps).run P w = ((asAddr (tmps.getD p undef)).run P w).andThen fun a w₁ => (loadVar ty a).run P w₁ := by
  simp only [results, h]
  simp [Sem.run_bind, Result.andThen]
def RWithPost (S : NS) (k : Nat) (x : Nd) (w : World) (e : Ending) (w' : World) : Prop :=
  (∃ ra rc, e = .returned (rsV { S with l := putN S.l k x } ra rc) ∧ RSt w' { S with l := putN S.l k x } ra rc) ∧ Below w.heap.size w w'
theorem put_split {l : List Nd} {k : Nat} (hk : k < l.length) (x : Nd) : putN l k x = l.take k ++ [x] ++ l.drop (k + 1) := by
  unfold putN
  rw [if_pos hk, List.set_eq_take_append_cons_drop, if_pos hk]; simp
theorem put_end {l : List Nd} (x : Nd) : putN l l.length x = l.take l.length ++ [x] := by
  unfold putN
  rw [if_neg (Nat.lt_irrefl _), List.take_length]
set_option maxRecDepth 100000 in
set_option maxHeartbeats 2000000 in
theorem rwith_ok (w : World) (S : NS) (hl0 : 0 < S.l.length) (hlm : S.l.length ≤ 1048576) (ra : Option Addr) (rc : Nat) (h : RSt w S ra rc) (k : Nat) (hk : k ≤ S.l.length) (x : Nd) :
    Calls Try.prog 65 #[rsV S ra rc, .int .i64 (k : Int), .agg #[.bool x.is, .int .i64 (x.v : Int), .int .i64 (x.low : Int), .int .i64 (x.high : Int), .int .i64 (x.pins : Int)]] w (RWithPost S k x w) := by
  obtain ⟨b, off, rfl, hb, _⟩ := h.nd_ hl0
  have hcap := h.cap
  have hcap1 := hcap.1
  have hcapm : rc ≤ 9223372036854775807 := by have := hcap.2; unfold maxLen at this; omega
  have HR := Lib.hid h
  obtain ⟨i0, hi0, hz0, hz1, hz2⟩ := info_parts info_rnode
  clear h hcap
  obtain ⟨W, hW⟩ : ∃ W, W = (((w.alloc (.cells #[.int .i64 (S.vars : Int), .int .i64 (S.budget : Int), .int .i64 (wr64 S.made), .int .i64 (wr64 S.sweeps), .slice (some ⟨b, off, none⟩) S.l.length rc] 75)).alloc (.cells #[.bool x.is, .int .i64 (x.v : Int), .int .i64 (x.low : Int), .int .i64 (x.high : Int), .int .i64 (x.pins : Int)] 107)).alloc (.cells #[.int .i64 0, .int .i64 0, .int .i64 0, .int .i64 0, .slice none 0 0] 75)) := ⟨_, rfl⟩
  have e1 : (w.alloc (.cells #[.int .i64 (S.vars : Int), .int .i64 (S.budget : Int), .int .i64 (wr64 S.made), .int .i64 (wr64 S.sweeps), .slice (some ⟨b, off, none⟩) S.l.length rc] 75)).heap.size = w.heap.size + 1 := by simp
  have e2 : ((w.alloc (.cells #[.int .i64 (S.vars : Int), .int .i64 (S.budget : Int), .int .i64 (wr64 S.made), .int .i64 (wr64 S.sweeps), .slice (some ⟨b, off, none⟩) S.l.length rc] 75)).alloc (.cells #[.bool x.is, .int .i64 (x.v : Int), .int .i64 (x.low : Int), .int .i64 (x.high : Int), .int .i64 (x.pins : Int)] 107)).heap.size = w.heap.size + 2 := by simp
  have e3 : (((w.alloc (.cells #[.int .i64 (S.vars : Int), .int .i64 (S.budget : Int), .int .i64 (wr64 S.made), .int .i64 (wr64 S.sweeps), .slice (some ⟨b, off, none⟩) S.l.length rc] 75)).alloc (.cells #[.bool x.is, .int .i64 (x.v : Int), .int .i64 (x.low : Int), .int .i64 (x.high : Int), .int .i64 (x.pins : Int)] 107)).alloc (.cells #[.int .i64 0, .int .i64 0, .int .i64 0, .int .i64 0, .slice none 0 0] 75)).heap.size = w.heap.size + 3 := by simp
  have hbx : Blk (((w.alloc (.cells #[.int .i64 (S.vars : Int), .int .i64 (S.budget : Int), .int .i64 (wr64 S.made), .int .i64 (wr64 S.sweeps), .slice (some ⟨b, off, none⟩) S.l.length rc] 75)).alloc (.cells #[.bool x.is, .int .i64 (x.v : Int), .int .i64 (x.low : Int), .int .i64 (x.high : Int), .int .i64 (x.pins : Int)] 107)).alloc (.cells #[.int .i64 0, .int .i64 0, .int .i64 0, .int .i64 0, .slice none 0 0] 75)) w.heap.size 75 #[.int .i64 (S.vars : Int), .int .i64 (S.budget : Int), .int .i64 (wr64 S.made), .int .i64 (wr64 S.sweeps), .slice (some ⟨b, off, none⟩) S.l.length rc] := ((Blk.new_ w _ _).alloc_ _).alloc_ _
  have hnb : Blk (((w.alloc (.cells #[.int .i64 (S.vars : Int), .int .i64 (S.budget : Int), .int .i64 (wr64 S.made), .int .i64 (wr64 S.sweeps), .slice (some ⟨b, off, none⟩) S.l.length rc] 75)).alloc (.cells #[.bool x.is, .int .i64 (x.v : Int), .int .i64 (x.low : Int), .int .i64 (x.high : Int), .int .i64 (x.pins : Int)] 107)).alloc (.cells #[.int .i64 0, .int .i64 0, .int .i64 0, .int .i64 0, .slice none 0 0] 75)) (w.heap.size + 1) 107 #[.bool x.is, .int .i64 (x.v : Int), .int .i64 (x.low : Int), .int .i64 (x.high : Int), .int .i64 (x.pins : Int)] := by
    have := (Blk.new_ (w.alloc (.cells #[.int .i64 (S.vars : Int), .int .i64 (S.budget : Int), .int .i64 (wr64 S.made), .int .i64 (wr64 S.sweeps), .slice (some ⟨b, off, none⟩) S.l.length rc] 75)) 107 #[.bool x.is, .int .i64 (x.v : Int), .int .i64 (x.low : Int), .int .i64 (x.high : Int), .int .i64 (x.pins : Int)]).alloc_ (.cells #[.int .i64 0, .int .i64 0, .int .i64 0, .int .i64 0, .slice none 0 0] 75)
    rw [e1] at this; exact this
  have hzb : Blk (((w.alloc (.cells #[.int .i64 (S.vars : Int), .int .i64 (S.budget : Int), .int .i64 (wr64 S.made), .int .i64 (wr64 S.sweeps), .slice (some ⟨b, off, none⟩) S.l.length rc] 75)).alloc (.cells #[.bool x.is, .int .i64 (x.v : Int), .int .i64 (x.low : Int), .int .i64 (x.high : Int), .int .i64 (x.pins : Int)] 107)).alloc (.cells #[.int .i64 0, .int .i64 0, .int .i64 0, .int .i64 0, .slice none 0 0] 75)) (w.heap.size + 2) 75 #[.int .i64 0, .int .i64 0, .int .i64 0, .int .i64 0, .slice none 0 0] := by
    have := Blk.new_ ((w.alloc (.cells #[.int .i64 (S.vars : Int), .int .i64 (S.budget : Int), .int .i64 (wr64 S.made), .int .i64 (wr64 S.sweeps), .slice (some ⟨b, off, none⟩) S.l.length rc] 75)).alloc (.cells #[.bool x.is, .int .i64 (x.v : Int), .int .i64 (x.low : Int), .int .i64 (x.high : Int), .int .i64 (x.pins : Int)] 107)) 75 #[.int .i64 0, .int .i64 0, .int .i64 0, .int .i64 0, .slice none 0 0]
    rw [e2] at this; exact this
  have hbel : Below w.heap.size w (((w.alloc (.cells #[.int .i64 (S.vars : Int), .int .i64 (S.budget : Int), .int .i64 (wr64 S.made), .int .i64 (wr64 S.sweeps), .slice (some ⟨b, off, none⟩) S.l.length rc] 75)).alloc (.cells #[.bool x.is, .int .i64 (x.v : Int), .int .i64 (x.low : Int), .int .i64 (x.high : Int), .int .i64 (x.pins : Int)] 107)).alloc (.cells #[.int .i64 0, .int .i64 0, .int .i64 0, .int .i64 0, .slice none 0 0] 75)) := (((Below.refl _ _).alloc (Nat.le_refl _) _).alloc (by simp) _).alloc (by simp; omega) _
  have HBX := Lib.hid hbx; have HNB := Lib.hid hnb; have HZB := Lib.hid hzb; have HBEL := Lib.hid hbel; have HE3 := Lib.hid e3
  have HT1 := Lib.hid (show ((S.l.take k).flatMap ndCells).length = k * 5 by rw [← flat_take ndCells 5 (fun _ => rfl), List.length_take, flat_length' ndCells 5 (fun _ => rfl)]; omega)
  have HT1C := Lib.hid (show Cells (((w.alloc (.cells #[.int .i64 (S.vars : Int), .int .i64 (S.budget : Int), .int .i64 (wr64 S.made), .int .i64 (wr64 S.sweeps), .slice (some ⟨b, off, none⟩) S.l.length rc] 75)).alloc (.cells #[.bool x.is, .int .i64 (x.v : Int), .int .i64 (x.low : Int), .int .i64 (x.high : Int), .int .i64 (x.pins : Int)] 107)).alloc (.cells #[.int .i64 0, .int .i64 0, .int .i64 0, .int .i64 0, .slice none 0 0] 75)) (some ⟨b, off, none⟩) ((S.l.take k).flatMap ndCells) by rw [← flat_take ndCells 5 (fun _ => rfl)]; exact (HR.out.below hbel).cells.take_ _)
  clear hW e1 e2 e3 hbx hnb hzb hbel W
  rcases Nat.lt_or_ge k S.l.length with hlt | hge
  · go_enter Try.func65, Try.ntmps65
    go_wp2_with (at_builtin; refine wpList_append_src rfl (.tmp 8) (.tmp 12) 73 rfl (w.heap.size + 3) 107 i0 (.agg #[.bool false, .int .i64 0, .int .i64 0, .int .i64 0, .int .i64 0]) 5 40 Try.underlying73 hi0 hz0 hz1 hz2 rfl (by decide) (.slice none 0 0) 0 _ rfl (World.ownsRow_nil _ _ _ _) (some ⟨b, off, none⟩) k rc ((S.l.take k).flatMap ndCells) rfl HT1.out HT1C.out (nds_ones _) (by unfold maxLen; omega) (by omega) (Nat.le_of_eq HE3.out.symm) ?_)
    intro v1 w4 hown hg _
    obtain ⟨oa1, oc1, rfl⟩ := own_shape hown
    have hbx := HBX.out.grown hg (fun e => nomatch e)
    have hnb := HNB.out.grown hg (fun e => nomatch e)
    have hzb := HZB.out.grown hg (fun e => nomatch e)
    have hb4 := HBEL.out.grown hg HBEL.out.size (fun j hj => nomatch hj)
    have hs4 : w.heap.size + 3 ≤ w4.heap.size := by have := hg.size; rw [HE3.out] at this; exact this
    have n0 : w4.cell? ⟨w.heap.size + 1, 0, none⟩ = some (.bool x.is) := hnb.cell 0
    have n1 : w4.cell? ⟨w.heap.size + 1, 1, none⟩ = some (.int .i64 (x.v : Int)) := hnb.cell 1
    have n2 : w4.cell? ⟨w.heap.size + 1, 2, none⟩ = some (.int .i64 (x.low : Int)) := hnb.cell 2
    have n3 : w4.cell? ⟨w.heap.size + 1, 3, none⟩ = some (.int .i64 (x.high : Int)) := hnb.cell 3
    have n4 : w4.cell? ⟨w.heap.size + 1, 4, none⟩ = some (.int .i64 (x.pins : Int)) := hnb.cell 4
    have HO1 := Lib.hid hown; have HBX4 := Lib.hid hbx; have HZB4 := Lib.hid hzb; have HB4 := Lib.hid hb4
    clear hown hg hbx hnb hzb hb4
    go_wp2_with (at_builtin; refine wpList_append_src rfl (.tmp 14) (.tmp 16) 73 rfl (w.heap.size + 3) 107 i0 (.agg #[.bool false, .int .i64 0, .int .i64 0, .int .i64 0, .int .i64 0]) 5 40 Try.underlying73 hi0 hz0 hz1 hz2 rfl (by decide) (.slice oa1 k oc1) k _ rfl (HO1.out.alloc _) (some ⟨w4.heap.size, 0, none⟩) 1 1 (ndCells x) rfl rfl (Cells.lit _ _ _) (nd_ones _) (by unfold maxLen; omega) (by omega) (by simp; omega) ?_)
    intro v2 w5 hown hg _
    obtain ⟨oa2, oc2, rfl⟩ := own_shape hown
    have hbx := (HBX4.out.alloc_ (.cells #[.bool x.is, .int .i64 (x.v : Int), .int .i64 (x.low : Int), .int .i64 (x.high : Int), .int .i64 (x.pins : Int)] 107)).grown hg (own_low HO1.out (by omega))
    have hzb := (HZB4.out.alloc_ (.cells #[.bool x.is, .int .i64 (x.v : Int), .int .i64 (x.low : Int), .int .i64 (x.high : Int), .int .i64 (x.pins : Int)] 107)).grown hg (own_low HO1.out (by omega))
    have hb5 := (HB4.out.alloc HB4.out.size (.cells #[.bool x.is, .int .i64 (x.v : Int), .int .i64 (x.low : Int), .int .i64 (x.high : Int), .int .i64 (x.pins : Int)] 107)).grown hg (by simp; omega) (fun j hj => by have := (HO1.out.lt j hj).1; omega)
    have hs5 : w.heap.size + 3 ≤ w5.heap.size := by have := hg.size; simp at this; omega
    have b4 : w5.cell? ⟨w.heap.size, 4, none⟩ = some (.slice (some ⟨b, off, none⟩) S.l.length rc) := hbx.cell 4
    have bl : w.heap.size < w5.heap.size := hbx.lt
    have HO2 := Lib.hid hown; have HBX5 := Lib.hid hbx; have HZB5 := Lib.hid hzb; have HB5 := Lib.hid hb5
    clear hown hg hbx hzb hb5 n0 n1 n2 n3 n4 hs4
    have HDL := Lib.hid (show ((S.l.drop (k + 1)).flatMap ndCells).length = (S.l.length - (k + 1)) * 5 by rw [flat_length' ndCells 5 (fun _ => rfl), List.length_drop])
    by_cases hrc : rc = k + 1
    · have HDC : Hid (Cells w5 (some ⟨b, off, none⟩) ((S.l.drop (k + 1)).flatMap ndCells)) := by
        rw [List.drop_of_length_le (by omega)]; exact Lib.hid (Cells.nil _ _)
      go_wp2_with (at_builtin; refine wpList_append_src rfl (.tmp 23) (.tmp 28) 73 rfl (w.heap.size + 3) 107 i0 (.agg #[.bool false, .int .i64 0, .int .i64 0, .int .i64 0, .int .i64 0]) 5 40 Try.underlying73 hi0 hz0 hz1 hz2 rfl (by decide) (.slice oa2 (k + 1) oc2) (k + 1) _ rfl HO2.out (some ⟨b, off, none⟩) (S.l.length - (k + 1)) 0 ((S.l.drop (k + 1)).flatMap ndCells) rfl HDL.out HDC.out (nds_ones _) (by unfold maxLen; omega) (by omega) hs5 ?_)
      intro v3 w6 hown hg _
      obtain ⟨oa3, oc3, rfl⟩ := own_shape hown
      have hbx := HBX5.out.grown hg (own_low HO2.out (by omega))
      have hzb := HZB5.out.grown hg (own_low HO2.out (by omega))
      have HO3 := Lib.hid hown; have HBX6 := Lib.hid hbx; have HZB6 := Lib.hid hzb
      have HB6 := Lib.hid (HB5.out.grown hg HB5.out.size (fun j hj => by have := (HO2.out.lt j hj).1; omega))
      have x0 : w6.cell? ⟨w.heap.size, 0, none⟩ = some (.int .i64 (S.vars : Int)) := hbx.cell 0
      have x1 : w6.cell? ⟨w.heap.size, 1, none⟩ = some (.int .i64 (S.budget : Int)) := hbx.cell 1
      have x2 : w6.cell? ⟨w.heap.size, 2, none⟩ = some (.int .i64 (wr64 S.made)) := hbx.cell 2
      have x3 : w6.cell? ⟨w.heap.size, 3, none⟩ = some (.int .i64 (wr64 S.sweeps)) := hbx.cell 3
      have x4 : w6.cell? ⟨w.heap.size, 4, none⟩ = some (.slice (some ⟨b, off, none⟩) S.l.length rc) := hbx.cell 4
      have xf4 := hbx.frozen 4
      have xl : w.heap.size < w6.heap.size := hbx.lt
      have y0 : w6.cell? ⟨w.heap.size + 1 + 1, 0, none⟩ = some (.int .i64 0) := hzb.cell 0
      have y1 : w6.cell? ⟨w.heap.size + 1 + 1, 1, none⟩ = some (.int .i64 0) := hzb.cell 1
      have y2 : w6.cell? ⟨w.heap.size + 1 + 1, 2, none⟩ = some (.int .i64 0) := hzb.cell 2
      have y3 : w6.cell? ⟨w.heap.size + 1 + 1, 3, none⟩ = some (.int .i64 0) := hzb.cell 3
      have y4 : w6.cell? ⟨w.heap.size + 1 + 1, 4, none⟩ = some (.slice none 0 0) := hzb.cell 4
      have yf0 : w6.frozen? ⟨w.heap.size + 1 + 1, 0, none⟩ = false := hzb.frozen 0
      have yf1 : w6.frozen? ⟨w.heap.size + 1 + 1, 1, none⟩ = false := hzb.frozen 1
      have yf2 : w6.frozen? ⟨w.heap.size + 1 + 1, 2, none⟩ = false := hzb.frozen 2
      have yf3 : w6.frozen? ⟨w.heap.size + 1 + 1, 3, none⟩ = false := hzb.frozen 3
      have yf4 : w6.frozen? ⟨w.heap.size + 1 + 1, 4, none⟩ = false := hzb.frozen 4
      have yl : w.heap.size + 1 + 1 < w6.heap.size := hzb.lt
      clear hown hg hbx hzb b4 bl hs5
      go_wp2_with fail
      obtain ⟨wz, hwz⟩ : ∃ wz, wz = ((((((w6.setCell ⟨w.heap.size, 4, none⟩ (.slice oa3 (k + 1 + (S.l.length - (k + 1))) oc3)).setCell ⟨w.heap.size + 1 + 1, 0, none⟩ (.int .i64 (S.vars : Int))).setCell ⟨w.heap.size + 1 + 1, 1, none⟩ (.int .i64 (S.budget : Int))).setCell ⟨w.heap.size + 1 + 1, 2, none⟩ (.int .i64 (wr64 S.made))).setCell ⟨w.heap.size + 1 + 1, 3, none⟩ (.int .i64 (wr64 S.sweeps))).setCell ⟨w.heap.size + 1 + 1, 4, none⟩ (.slice oa3 (k + 1 + (S.l.length - (k + 1))) oc3)) := ⟨_, rfl⟩
      have hkeep : wz.ownsRow (w.heap.size + 3) 107 5 (.slice oa3 (k + 1 + (S.l.length - (k + 1))) oc3) (k + 1 + (S.l.length - (k + 1))) _ := own_keep HO3.out (fun gg hgg => by
        have h3 := (HO3.out.lt gg hgg).1
        have n1 : gg ≠ w.heap.size := by omega
        have n2 : gg ≠ w.heap.size + 1 + 1 := by omega
        rw [hwz, Below.heap_setCell _ _ _ _ n2, Below.heap_setCell _ _ _ _ n2, Below.heap_setCell _ _ _ _ n2, Below.heap_setCell _ _ _ _ n2, Below.heap_setCell _ _ _ _ n2, Below.heap_setCell _ _ _ _ n1])
      have hbz : Below w.heap.size w wz := by
        rw [hwz]
        have q1 : w.heap.size ≤ w.heap.size := Nat.le_refl _
        have q2 : w.heap.size ≤ w.heap.size + 1 + 1 := by omega
        exact ((((((HB6.out.setCell (p := ⟨w.heap.size, 4, none⟩) q1 _).setCell (p := ⟨w.heap.size + 1 + 1, 0, none⟩) q2 _).setCell (p := ⟨w.heap.size + 1 + 1, 1, none⟩) q2 _).setCell (p := ⟨w.heap.size + 1 + 1, 2, none⟩) q2 _).setCell (p := ⟨w.heap.size + 1 + 1, 3, none⟩) q2 _).setCell (p := ⟨w.heap.size + 1 + 1, 4, none⟩) q2 _)
      have hcp : (k + 1 + (S.l.length - (k + 1))) ≤ oc3 ∧ oc3 ≤ maxLen := by
        obtain ⟨a', c', he, h3, h4, _⟩ := Cells.of_own hkeep
        injection he with _ _ he; subst he; exact ⟨h3, h4⟩
      have hlen : (putN S.l k x).length = (k + 1 + (S.l.length - (k + 1))) := by rw [len_put hk, if_pos hlt]; omega
      have hls : (putN S.l k x).flatMap ndCells = _ := (by rw [put_split hlt, List.flatMap_append, List.flatMap_append, List.flatMap_singleton, List.append_assoc] : (putN S.l k x).flatMap ndCells = (S.l.take k).flatMap ndCells ++ (ndCells x ++ (S.l.drop (k + 1)).flatMap ndCells))
      have HKP := Lib.hid hkeep; have HBZ := Lib.hid hbz; have HCP := Lib.hid hcp; have HLN := Lib.hid hlen; have HLS := Lib.hid hls; have HWZ := Lib.hid hwz
      clear hkeep hbz hcp hlen hls
      refine bodyPost_ret (v := .agg #[.int .i64 (S.vars : Int), .int .i64 (S.budget : Int), .int .i64 (wr64 S.made), .int .i64 (wr64 S.sweeps), .slice oa3 (k + 1 + (S.l.length - (k + 1))) oc3]) ?_ rfl ?_
      · rw [results_cell1 rfl]; go_simp
      · rw [← hwz]
        refine ⟨⟨oa3, oc3, ?_, ?_, ?_, ?_⟩, HBZ.out⟩
        · show _ = Ending.returned (.agg #[_, _, _, _, .slice oa3 (putN S.l k x).length oc3])
          rw [HLN.out]
        · show Cells wz oa3 ((putN S.l k x).flatMap ndCells)
          rw [HLS.out]; exact own_cellsV HKP.out
        · exact own_tbV HKP.out
        · show (putN S.l k x).length ≤ oc3 ∧ oc3 ≤ maxLen
          rw [HLN.out]; exact HCP.out
    · have HDC : Hid (Cells w5 (some ⟨b, off + (k + 1) * 5, none⟩) ((S.l.drop (k + 1)).flatMap ndCells)) := by
        rw [← flat_drop ndCells 5 (fun _ => rfl)]
        exact Lib.hid ((HR.out.below HB5.out).cells.drop_ _)
      go_wp2_with (at_builtin; refine wpList_append_src rfl (.tmp 23) (.tmp 28) 73 rfl (w.heap.size + 3) 107 i0 (.agg #[.bool false, .int .i64 0, .int .i64 0, .int .i64 0, .int .i64 0]) 5 40 Try.underlying73 hi0 hz0 hz1 hz2 rfl (by decide) (.slice oa2 (k + 1) oc2) (k + 1) _ rfl HO2.out (some ⟨b, off + (k + 1) * 5, none⟩) (S.l.length - (k + 1)) (rc - (k + 1)) ((S.l.drop (k + 1)).flatMap ndCells) rfl HDL.out HDC.out (nds_ones _) (by unfold maxLen; omega) (by omega) hs5 ?_)
      intro v3 w6 hown hg _
      obtain ⟨oa3, oc3, rfl⟩ := own_shape hown
      have hbx := HBX5.out.grown hg (own_low HO2.out (by omega))
      have hzb := HZB5.out.grown hg (own_low HO2.out (by omega))
      have HO3 := Lib.hid hown; have HBX6 := Lib.hid hbx; have HZB6 := Lib.hid hzb
      have HB6 := Lib.hid (HB5.out.grown hg HB5.out.size (fun j hj => by have := (HO2.out.lt j hj).1; omega))
      have x0 : w6.cell? ⟨w.heap.size, 0, none⟩ = some (.int .i64 (S.vars : Int)) := hbx.cell 0
      have x1 : w6.cell? ⟨w.heap.size, 1, none⟩ = some (.int .i64 (S.budget : Int)) := hbx.cell 1
      have x2 : w6.cell? ⟨w.heap.size, 2, none⟩ = some (.int .i64 (wr64 S.made)) := hbx.cell 2
      have x3 : w6.cell? ⟨w.heap.size, 3, none⟩ = some (.int .i64 (wr64 S.sweeps)) := hbx.cell 3
      have x4 : w6.cell? ⟨w.heap.size, 4, none⟩ = some (.slice (some ⟨b, off, none⟩) S.l.length rc) := hbx.cell 4
      have xf4 := hbx.frozen 4
      have xl : w.heap.size < w6.heap.size := hbx.lt
      have y0 : w6.cell? ⟨w.heap.size + 1 + 1, 0, none⟩ = some (.int .i64 0) := hzb.cell 0
      have y1 : w6.cell? ⟨w.heap.size + 1 + 1, 1, none⟩ = some (.int .i64 0) := hzb.cell 1
      have y2 : w6.cell? ⟨w.heap.size + 1 + 1, 2, none⟩ = some (.int .i64 0) := hzb.cell 2
      have y3 : w6.cell? ⟨w.heap.size + 1 + 1, 3, none⟩ = some (.int .i64 0) := hzb.cell 3
      have y4 : w6.cell? ⟨w.heap.size + 1 + 1, 4, none⟩ = some (.slice none 0 0) := hzb.cell 4
      have yf0 : w6.frozen? ⟨w.heap.size + 1 + 1, 0, none⟩ = false := hzb.frozen 0
      have yf1 : w6.frozen? ⟨w.heap.size + 1 + 1, 1, none⟩ = false := hzb.frozen 1
      have yf2 : w6.frozen? ⟨w.heap.size + 1 + 1, 2, none⟩ = false := hzb.frozen 2
      have yf3 : w6.frozen? ⟨w.heap.size + 1 + 1, 3, none⟩ = false := hzb.frozen 3
      have yf4 : w6.frozen? ⟨w.heap.size + 1 + 1, 4, none⟩ = false := hzb.frozen 4
      have yl : w.heap.size + 1 + 1 < w6.heap.size := hzb.lt
      clear hown hg hbx hzb b4 bl hs5
      go_wp2_with fail
      obtain ⟨wz, hwz⟩ : ∃ wz, wz = ((((((w6.setCell ⟨w.heap.size, 4, none⟩ (.slice oa3 (k + 1 + (S.l.length - (k + 1))) oc3)).setCell ⟨w.heap.size + 1 + 1, 0, none⟩ (.int .i64 (S.vars : Int))).setCell ⟨w.heap.size + 1 + 1, 1, none⟩ (.int .i64 (S.budget : Int))).setCell ⟨w.heap.size + 1 + 1, 2, none⟩ (.int .i64 (wr64 S.made))).setCell ⟨w.heap.size + 1 + 1, 3, none⟩ (.int .i64 (wr64 S.sweeps))).setCell ⟨w.heap.size + 1 + 1, 4, none⟩ (.slice oa3 (k + 1 + (S.l.length - (k + 1))) oc3)) := ⟨_, rfl⟩
      have hkeep : wz.ownsRow (w.heap.size + 3) 107 5 (.slice oa3 (k + 1 + (S.l.length - (k + 1))) oc3) (k + 1 + (S.l.length - (k + 1))) _ := own_keep HO3.out (fun gg hgg => by
        have h3 := (HO3.out.lt gg hgg).1
        have n1 : gg ≠ w.heap.size := by omega
        have n2 : gg ≠ w.heap.size + 1 + 1 := by omega
        rw [hwz, Below.heap_setCell _ _ _ _ n2, Below.heap_setCell _ _ _ _ n2, Below.heap_setCell _ _ _ _ n2, Below.heap_setCell _ _ _ _ n2, Below.heap_setCell _ _ _ _ n2, Below.heap_setCell _ _ _ _ n1])
      have hbz : Below w.heap.size w wz := by
        rw [hwz]
        have q1 : w.heap.size ≤ w.heap.size := Nat.le_refl _
        have q2 : w.heap.size ≤ w.heap.size + 1 + 1 := by omega
        exact ((((((HB6.out.setCell (p := ⟨w.heap.size, 4, none⟩) q1 _).setCell (p := ⟨w.heap.size + 1 + 1, 0, none⟩) q2 _).setCell (p := ⟨w.heap.size + 1 + 1, 1, none⟩) q2 _).setCell (p := ⟨w.heap.size + 1 + 1, 2, none⟩) q2 _).setCell (p := ⟨w.heap.size + 1 + 1, 3, none⟩) q2 _).setCell (p := ⟨w.heap.size + 1 + 1, 4, none⟩) q2 _)
      have hcp : (k + 1 + (S.l.length - (k + 1))) ≤ oc3 ∧ oc3 ≤ maxLen := by
        obtain ⟨a', c', he, h3, h4, _⟩ := Cells.of_own hkeep
        injection he with _ _ he; subst he; exact ⟨h3, h4⟩
      have hlen : (putN S.l k x).length = (k + 1 + (S.l.length - (k + 1))) := by rw [len_put hk, if_pos hlt]; omega
      have hls : (putN S.l k x).flatMap ndCells = _ := (by rw [put_split hlt, List.flatMap_append, List.flatMap_append, List.flatMap_singleton, List.append_assoc] : (putN S.l k x).flatMap ndCells = (S.l.take k).flatMap ndCells ++ (ndCells x ++ (S.l.drop (k + 1)).flatMap ndCells))
      have HKP := Lib.hid hkeep; have HBZ := Lib.hid hbz; have HCP := Lib.hid hcp; have HLN := Lib.hid hlen; have HLS := Lib.hid hls; have HWZ := Lib.hid hwz
      clear hkeep hbz hcp hlen hls
      refine bodyPost_ret (v := .agg #[.int .i64 (S.vars : Int), .int .i64 (S.budget : Int), .int .i64 (wr64 S.made), .int .i64 (wr64 S.sweeps), .slice oa3 (k + 1 + (S.l.length - (k + 1))) oc3]) ?_ rfl ?_
      · rw [results_cell1 rfl]; go_simp
      · rw [← hwz]
        refine ⟨⟨oa3, oc3, ?_, ?_, ?_, ?_⟩, HBZ.out⟩
        · show _ = Ending.returned (.agg #[_, _, _, _, .slice oa3 (putN S.l k x).length oc3])
          rw [HLN.out]
        · show Cells wz oa3 ((putN S.l k x).flatMap ndCells)
          rw [HLS.out]; exact own_cellsV HKP.out
        · exact own_tbV HKP.out
        · show (putN S.l k x).length ≤ oc3 ∧ oc3 ≤ maxLen
          rw [HLN.out]; exact HCP.out
  · go_enter Try.func65, Try.ntmps65
    go_wp2_with (at_builtin; refine wpList_append_src rfl (.tmp 8) (.tmp 12) 73 rfl (w.heap.size + 3) 107 i0 (.agg #[.bool false, .int .i64 0, .int .i64 0, .int .i64 0, .int .i64 0]) 5 40 Try.underlying73 hi0 hz0 hz1 hz2 rfl (by decide) (.slice none 0 0) 0 _ rfl (World.ownsRow_nil _ _ _ _) (some ⟨b, off, none⟩) k rc ((S.l.take k).flatMap ndCells) rfl HT1.out HT1C.out (nds_ones _) (by unfold maxLen; omega) (by omega) (Nat.le_of_eq HE3.out.symm) ?_)
    intro v1 w4 hown hg _
    obtain ⟨oa1, oc1, rfl⟩ := own_shape hown
    have hbx := HBX.out.grown hg (fun e => nomatch e)
    have hnb := HNB.out.grown hg (fun e => nomatch e)
    have hzb := HZB.out.grown hg (fun e => nomatch e)
    have hb4 := HBEL.out.grown hg HBEL.out.size (fun j hj => nomatch hj)
    have hs4 : w.heap.size + 3 ≤ w4.heap.size := by have := hg.size; rw [HE3.out] at this; exact this
    have n0 : w4.cell? ⟨w.heap.size + 1, 0, none⟩ = some (.bool x.is) := hnb.cell 0
    have n1 : w4.cell? ⟨w.heap.size + 1, 1, none⟩ = some (.int .i64 (x.v : Int)) := hnb.cell 1
    have n2 : w4.cell? ⟨w.heap.size + 1, 2, none⟩ = some (.int .i64 (x.low : Int)) := hnb.cell 2
    have n3 : w4.cell? ⟨w.heap.size + 1, 3, none⟩ = some (.int .i64 (x.high : Int)) := hnb.cell 3
    have n4 : w4.cell? ⟨w.heap.size + 1, 4, none⟩ = some (.int .i64 (x.pins : Int)) := hnb.cell 4
    have HO1 := Lib.hid hown; have HBX4 := Lib.hid hbx; have HZB4 := Lib.hid hzb; have HB4 := Lib.hid hb4
    clear hown hg hbx hnb hzb hb4
    go_wp2_with (at_builtin; refine wpList_append_src rfl (.tmp 14) (.tmp 16) 73 rfl (w.heap.size + 3) 107 i0 (.agg #[.bool false, .int .i64 0, .int .i64 0, .int .i64 0, .int .i64 0]) 5 40 Try.underlying73 hi0 hz0 hz1 hz2 rfl (by decide) (.slice oa1 k oc1) k _ rfl (HO1.out.alloc _) (some ⟨w4.heap.size, 0, none⟩) 1 1 (ndCells x) rfl rfl (Cells.lit _ _ _) (nd_ones _) (by unfold maxLen; omega) (by omega) (by simp; omega) ?_)
    intro v2 w5 hown hg _
    obtain ⟨oa2, oc2, rfl⟩ := own_shape hown
    have hbx := (HBX4.out.alloc_ (.cells #[.bool x.is, .int .i64 (x.v : Int), .int .i64 (x.low : Int), .int .i64 (x.high : Int), .int .i64 (x.pins : Int)] 107)).grown hg (own_low HO1.out (by omega))
    have hzb := (HZB4.out.alloc_ (.cells #[.bool x.is, .int .i64 (x.v : Int), .int .i64 (x.low : Int), .int .i64 (x.high : Int), .int .i64 (x.pins : Int)] 107)).grown hg (own_low HO1.out (by omega))
    have hb5 := (HB4.out.alloc HB4.out.size (.cells #[.bool x.is, .int .i64 (x.v : Int), .int .i64 (x.low : Int), .int .i64 (x.high : Int), .int .i64 (x.pins : Int)] 107)).grown hg (by simp; omega) (fun j hj => by have := (HO1.out.lt j hj).1; omega)
    have hs5 : w.heap.size + 3 ≤ w5.heap.size := by have := hg.size; simp at this; omega
    have b4 : w5.cell? ⟨w.heap.size, 4, none⟩ = some (.slice (some ⟨b, off, none⟩) S.l.length rc) := hbx.cell 4
    have bl : w.heap.size < w5.heap.size := hbx.lt
    have HO2 := Lib.hid hown; have HBX5 := Lib.hid hbx; have HZB5 := Lib.hid hzb; have HB5 := Lib.hid hb5
    clear hown hg hbx hzb hb5 n0 n1 n2 n3 n4 hs4
    have hkN : k = S.l.length := by omega
    have HKN := Lib.hid hkN
    have x0 : w5.cell? ⟨w.heap.size, 0, none⟩ = some (.int .i64 (S.vars : Int)) := HBX5.out.cell 0
    have x1 : w5.cell? ⟨w.heap.size, 1, none⟩ = some (.int .i64 (S.budget : Int)) := HBX5.out.cell 1
    have x2 : w5.cell? ⟨w.heap.size, 2, none⟩ = some (.int .i64 (wr64 S.made)) := HBX5.out.cell 2
    have x3 : w5.cell? ⟨w.heap.size, 3, none⟩ = some (.int .i64 (wr64 S.sweeps)) := HBX5.out.cell 3
    have xf4 : w5.frozen? ⟨w.heap.size, 4, none⟩ = false := HBX5.out.frozen 4
    have y0 : w5.cell? ⟨w.heap.size + 1 + 1, 0, none⟩ = some (.int .i64 0) := HZB5.out.cell 0
    have y1 : w5.cell? ⟨w.heap.size + 1 + 1, 1, none⟩ = some (.int .i64 0) := HZB5.out.cell 1
    have y2 : w5.cell? ⟨w.heap.size + 1 + 1, 2, none⟩ = some (.int .i64 0) := HZB5.out.cell 2
    have y3 : w5.cell? ⟨w.heap.size + 1 + 1, 3, none⟩ = some (.int .i64 0) := HZB5.out.cell 3
    have y4 : w5.cell? ⟨w.heap.size + 1 + 1, 4, none⟩ = some (.slice none 0 0) := HZB5.out.cell 4
    have yf0 : w5.frozen? ⟨w.heap.size + 1 + 1, 0, none⟩ = false := HZB5.out.frozen 0
    have yf1 : w5.frozen? ⟨w.heap.size + 1 + 1, 1, none⟩ = false := HZB5.out.frozen 1
    have yf2 : w5.frozen? ⟨w.heap.size + 1 + 1, 2, none⟩ = false := HZB5.out.frozen 2
    have yf3 : w5.frozen? ⟨w.heap.size + 1 + 1, 3, none⟩ = false := HZB5.out.frozen 3
    have yf4 : w5.frozen? ⟨w.heap.size + 1 + 1, 4, none⟩ = false := HZB5.out.frozen 4
    have yl : w.heap.size + 1 + 1 < w5.heap.size := HZB5.out.lt
    clear hkN
    go_wp2_with fail
    obtain ⟨wz, hwz⟩ : ∃ wz, wz = ((((((w5.setCell ⟨w.heap.size, 4, none⟩ (.slice oa2 (k + 1) oc2)).setCell ⟨w.heap.size + 1 + 1, 0, none⟩ (.int .i64 (S.vars : Int))).setCell ⟨w.heap.size + 1 + 1, 1, none⟩ (.int .i64 (S.budget : Int))).setCell ⟨w.heap.size + 1 + 1, 2, none⟩ (.int .i64 (wr64 S.made))).setCell ⟨w.heap.size + 1 + 1, 3, none⟩ (.int .i64 (wr64 S.sweeps))).setCell ⟨w.heap.size + 1 + 1, 4, none⟩ (.slice oa2 (k + 1) oc2)) := ⟨_, rfl⟩
    have hkeep : wz.ownsRow (w.heap.size + 3) 107 5 (.slice oa2 (k + 1) oc2) (k + 1) _ := own_keep HO2.out (fun gg hgg => by
      have h3 := (HO2.out.lt gg hgg).1
      have n1 : gg ≠ w.heap.size := by omega
      have n2 : gg ≠ w.heap.size + 1 + 1 := by omega
      rw [hwz, Below.heap_setCell _ _ _ _ n2, Below.heap_setCell _ _ _ _ n2, Below.heap_setCell _ _ _ _ n2, Below.heap_setCell _ _ _ _ n2, Below.heap_setCell _ _ _ _ n2, Below.heap_setCell _ _ _ _ n1])
    have hbz : Below w.heap.size w wz := by
      rw [hwz]
      have q1 : w.heap.size ≤ w.heap.size := Nat.le_refl _
      have q2 : w.heap.size ≤ w.heap.size + 1 + 1 := by omega
      exact ((((((HB5.out.setCell (p := ⟨w.heap.size, 4, none⟩) q1 _).setCell (p := ⟨w.heap.size + 1 + 1, 0, none⟩) q2 _).setCell (p := ⟨w.heap.size + 1 + 1, 1, none⟩) q2 _).setCell (p := ⟨w.heap.size + 1 + 1, 2, none⟩) q2 _).setCell (p := ⟨w.heap.size + 1 + 1, 3, none⟩) q2 _).setCell (p := ⟨w.heap.size + 1 + 1, 4, none⟩) q2 _)
    have hcp : (k + 1) ≤ oc2 ∧ oc2 ≤ maxLen := by
      obtain ⟨a', c', he, h3, h4, _⟩ := Cells.of_own hkeep
      injection he with _ _ he; subst he; exact ⟨h3, h4⟩
    have hlen : (putN S.l k x).length = (k + 1) := by rw [len_put hk, if_neg (by omega)]; omega
    have hls : (putN S.l k x).flatMap ndCells = (S.l.take k).flatMap ndCells ++ ndCells x := by rw [show k = S.l.length by omega, put_end, List.flatMap_append, List.flatMap_singleton]
    have HKP := Lib.hid hkeep; have HBZ := Lib.hid hbz; have HCP := Lib.hid hcp; have HLN := Lib.hid hlen; have HLS := Lib.hid hls; have HWZ := Lib.hid hwz
    clear hkeep hbz hcp hlen hls
    refine bodyPost_ret (v := .agg #[.int .i64 (S.vars : Int), .int .i64 (S.budget : Int), .int .i64 (wr64 S.made), .int .i64 (wr64 S.sweeps), .slice oa2 (k + 1) oc2]) ?_ rfl ?_
    · rw [results_cell1 rfl]; go_simp
    · rw [← hwz]
      refine ⟨⟨oa2, oc2, ?_, ?_, ?_, ?_⟩, HBZ.out⟩
      · show _ = Ending.returned (.agg #[_, _, _, _, .slice oa2 (putN S.l k x).length oc2])
        rw [HLN.out]
      · show Cells wz oa2 ((putN S.l k x).flatMap ndCells)
        rw [HLS.out]; exact own_cellsV HKP.out
      · exact own_tbV HKP.out
      · show (putN S.l k x).length ≤ oc2 ∧ oc2 ≤ maxLen
        rw [HLN.out]; exact HCP.out

end Go.Proofs.Ytdalnhhenahcjaa
