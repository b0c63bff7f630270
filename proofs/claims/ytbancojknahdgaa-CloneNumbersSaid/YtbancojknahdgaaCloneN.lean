/- CloneNumbers' walk: clone.Number and the reference answer the same. -/
import Derived.Test.YtbancojknahdgaaCloneX
import Derived.Test.YtbancojknahdgaaCloneJ
import Derived.Test.YtbancojknahdgaaOpen
import Derived.Deep.Strs
import Derived.BigQuiet
namespace Go.Proofs.Ytbancojknahdgaa
open Go.RowKit CP
section
variable {n main wd : Int} {es : List (Int × Int × Int)}
/-- the error of Number, and its answer -/
noncomputable def numE (n main : Int) (es : List (Int × Int × Int)) (wd : Int) : Int := if mayC n main es wd = false then 1 else if fitC n.toNat main.toNat es wd.toNat = false then 200 else 0
noncomputable def numR (n main : Int) (es : List (Int × Int × Int)) (wd : Int) : Cl := if mayC n main es wd = false then Cl.none else if fitC n.toNat main.toNat es wd.toNat = false then Cl.none else numC n.toNat main.toNat es
theorem num_shape {w w' : World} {e : Ending} (h : NumPost w n main es wd e w') : Below w.heap.size w w' ∧ ∃ v, e = .returned (.tuple #[v, .int .i64 (numE n main es wd)]) ∧ ClAt w' v (numR n main es wd) := by
  obtain ⟨hb, h⟩ := h
  refine ⟨hb, ?_⟩
  unfold numE numR
  rcases h with ⟨hm, rfl⟩ | ⟨k, mn, wn, rfl, rfl, rfl, hM, h⟩
  · rw [if_pos hm, if_pos hm]
    exact ⟨_, rfl, ClAt.nil_ _⟩
  · have hm := mayN_to hM
    rw [hm, if_neg (show ¬ true = false by decide), if_neg (show ¬ true = false by decide)]
    simp only [Int.toNat_natCast]
    rcases h with ⟨hf, rfl⟩ | ⟨hf, v, rfl, hcl⟩
    · rw [if_pos hf, if_pos hf]; exact ⟨_, rfl, ClAt.nil_ _⟩
    · have hn : ¬ fitC k mn es wn = false := by rw [hf]; decide
      rw [if_neg hn, if_neg hn]; exact ⟨v, rfl, hcl⟩
/-- a number of contexts and an error -/
def ShPost (w : World) (er : Int) (R : Cl) (e : Ending) (w' : World) : Prop := Below w.heap.size w w' ∧ ∃ v, e = .returned (.tuple #[v, .int .i64 er]) ∧ ClAt w' v R
theorem numC_lens {k mn : Nat} (hk : k ≤ 1024) (hl : es.length ≤ 16384) : ClLen (numC k mn es) :=
  ⟨by show (cmpZ k (edE es)).length ≤ 16384; rw [cmpZ_len]; omega, by show ((List.range k).map _).length ≤ 16384; rw [List.length_map, List.length_range]; omega, hl, by show ((List.range es.length).map _).length ≤ 16384; rw [List.length_map, List.length_range]; exact hl⟩
theorem num_lens (hl : es.length ≤ 16384) : ClLen (numR n main es wd) := by
  have hnone : ClLen Cl.none := ⟨Nat.zero_le _, Nat.zero_le _, Nat.zero_le _, Nat.zero_le _⟩
  unfold numR
  cases hm : mayC n main es wd with
  | false => rw [if_pos rfl]; exact hnone
  | true =>
    rw [if_neg (by decide)]
    split
    · exact hnone
    · obtain ⟨k, mn, wn, rfl, rfl, rfl, hM⟩ := mayN_of hm
      simp only [Int.toNat_natCast]
      exact numC_lens hM.k2 hl
theorem sameB_refl (c : Cl) : sameB c c = true := by unfold sameB; simp
end
set_option maxRecDepth 100000 in
set_option maxHeartbeats 12800000 in
theorem cloneNumbers_walk (w : World) (z0 z1 z2 : Int) (ea : Option Addr) (lc : Nat) (es : List (Int × Int × Int)) (_hlc : es.length ≤ lc) (_hmc : lc ≤ maxLen) (hc0 : Cells w ea (es.flatMap keyCells)) (_wf : ∀ y ∈ es, wfI y.1 ∧ wfI y.2.1 ∧ wfI y.2.2) :
    Calls Try.prog 3 #[.agg #[.int .i64 z0, .int .i64 z1, .int .i64 z2], .slice ea es.length lc] w (FineC w) := by
  have hml : es.length ≤ maxLen := by omega
  obtain ⟨w1, hw1⟩ : ∃ w1, w1 = w.alloc (.cells #[.int .i64 z0, .int .i64 z1, .int .i64 z2] 22) := ⟨_, rfl⟩
  have hb1 : Below w.heap.size w w1 := by rw [hw1]; exact (Below.refl _ _).alloc (Nat.le_refl _) _
  obtain ⟨g, hg⟩ : ∃ g, g = w.heap.size := ⟨_, rfl⟩
  have k1 : Blk w1 g 22 #[.int .i64 z0, .int .i64 z1, .int .i64 z2] := by rw [hw1, hg]; exact Blk.new_ _ _ _
  have p0 : w1.cell? ⟨g, 0, none⟩ = some (.int .i64 z0) := k1.cell 0
  have p1 : w1.cell? ⟨g, 1, none⟩ = some (.int .i64 z1) := k1.cell 1
  have p2 : w1.cell? ⟨g, 2, none⟩ = some (.int .i64 z2) := k1.cell 2
  have pl := k1.lt
  obtain ⟨er, her⟩ : ∃ er, numE z0 z1 es z2 = er := ⟨_, rfl⟩
  obtain ⟨R, hR⟩ : ∃ R, numR z0 z1 es z2 = R := ⟨_, rfl⟩
  have HNA : Hid (Calls Try.prog 17 #[.int .i64 z0, .int .i64 z1, .slice ea es.length lc, .int .i64 z2] w1 (ShPost w1 er R)) := Lib.hid ((number_ok w1 z0 z1 ea es lc z2 hml (hc0.below hb1)).mono fun e w' h => by rw [← her, ← hR]; exact num_shape h)
  have HNB : Hid (∀ W, Below w1.heap.size w1 W → Calls Try.prog 18 #[.int .i64 z0, .int .i64 z1, .slice ea es.length lc, .int .i64 z2] W (ShPost W er R)) := Lib.hid (fun W hW => (rnumber_ok W z0 z1 ea es lc z2 hml ((hc0.below hb1).below hW)).mono fun e w' h => by rw [← her, ← hR]; exact num_shape h)
  obtain ⟨L, hL⟩ : ∃ L, es.length = L := ⟨_, rfl⟩
  have HCN : Hid (L ≤ 100 → ClLen R) := Lib.hid (fun h => by rw [← hR]; exact num_lens (by rw [hL]; omega))
  rw [hL] at HNA HNB hml ⊢
  have HW1 := Lib.hid hw1; have HG := Lib.hid hg; have HB1 := Lib.hid hb1; have HK1 := Lib.hid k1
  unfold maxLen at hml
  clear hw1 hg hb1 k1 hc0 hL _hlc _hmc _wf her hR
  go_enter Try.func3, Try.ntmps3
  go_upto_region 1 with (fail)
  rw [← HW1.out]
  try rw [← HG.out]
  by_cases h100 : 100 < L
  · have d1 : decide ((100 : Int) < (L : Int)) = true := decide_eq_true (by omega)
    go_wp2_with fail
    refine (awake20 _).mono ?_
    rintro e w9 ⟨rfl, hb9⟩
    have HB9 := Lib.hid (HB1.out.trans (hb9.mono HB1.out.size))
    clear hb9
    go_wp2_with fail
    go_ret
    exact ⟨rfl, HB9.out⟩
  have d1 : decide ((100 : Int) < (L : Int)) = false := decide_eq_false (by omega)
  have HCL := Lib.hid (HCN.out (by omega))
  clear h100 HCN
  have hca : (decide (30 < z0) = true ∧ decide (z0 ≤ 1024) = true) ∨ ((decide (30 < z0) = true ∧ decide (z0 ≤ 1024) = false) ∨ decide (30 < z0) = false) := by
    simp only [decide_eq_true_eq, decide_eq_false_iff_not]; omega
  rcases hca with ⟨d2, d3⟩ | hca
  · go_wp2_with fail
    refine (awake20 _).mono ?_
    rintro e w9 ⟨rfl, hb9⟩
    have HB9 := Lib.hid (HB1.out.trans (hb9.mono HB1.out.size))
    clear hb9
    go_wp2_with fail
    go_ret
    exact ⟨rfl, HB9.out⟩
  rcases hca with ⟨d2, d3⟩ | d2
  all_goals
    go_wp2_with fail
    refine HNA.out.mono ?_
    rintro e w2 ⟨hb2, v, rfl, hcl⟩
    have HCA := Lib.hid hcl
    obtain ⟨a1, c1, a2, c2, a3, c3, a4, c4, rfl, _, _, _, _⟩ := hcl
    obtain ⟨n1, hn1⟩ : ∃ n1, R.comp.length = n1 := ⟨_, rfl⟩
    obtain ⟨n2, hn2⟩ : ∃ n2, R.count.length = n2 := ⟨_, rfl⟩
    obtain ⟨n3, hn3⟩ : ∃ n3, R.edges.length = n3 := ⟨_, rfl⟩
    obtain ⟨n4, hn4⟩ : ∃ n4, R.add.length = n4 := ⟨_, rfl⟩
    have HNN : Hid (R.comp.length = n1 ∧ R.count.length = n2 ∧ R.edges.length = n3 ∧ R.add.length = n4) := Lib.hid ⟨hn1, hn2, hn3, hn4⟩
    rw [hn1, hn2, hn3, hn4] at HCA ⊢
    obtain ⟨x4, hx4⟩ : ∃ k, n4 + c4 = k := ⟨_, rfl⟩
    rw [hx4] at HCA ⊢
    obtain ⟨w3, hw3⟩ : ∃ w3, w3 = w2.alloc (.cells #[.slice a1 n1 c1, .slice a2 n2 c2, .slice a3 n3 c3, .slice a4 n4 x4] 27) := ⟨_, rfl⟩
    obtain ⟨g3, hg3⟩ : ∃ g3, g3 = w2.heap.size := ⟨_, rfl⟩
    have hb3 : Below w2.heap.size w2 w3 := by rw [hw3]; exact (Below.refl _ _).alloc (Nat.le_refl _) _
    have k3 : Blk w3 g3 27 #[.slice a1 n1 c1, .slice a2 n2 c2, .slice a3 n3 c3, .slice a4 n4 x4] := by rw [hw3, hg3]; exact Blk.new_ _ _ _
    have hb13 : Below w1.heap.size w1 w3 := hb2.trans (hb3.mono hb2.size)
    have kc := HK1.out.below hb13 HK1.out.lt
    have q0 : w3.cell? ⟨g, 0, none⟩ = some (.int .i64 z0) := kc.cell 0
    have q1 : w3.cell? ⟨g, 1, none⟩ = some (.int .i64 z1) := kc.cell 1
    have q2 : w3.cell? ⟨g, 2, none⟩ = some (.int .i64 z2) := kc.cell 2
    have ql := kc.lt
    have HNC := Lib.hid (HNB.out w3 hb13)
    have HB3 := Lib.hid (HB1.out.trans (hb13.mono HB1.out.size))
    have HCA3 := Lib.hid (HCA.out.below hb3)
    have HK3 := Lib.hid k3; have HW3 := Lib.hid hw3; have HG3 := Lib.hid hg3
    clear hn1 hn2 hn3 hn4 hx4 hw3 hg3 hb3 k3 hb13 kc hb2 p0 p1 p2 pl HNA HNB HCA
    go_upto_region 4 with (fail)
    rw [← HW3.out]
    try rw [← HG3.out]
    go_wp2_with fail
    refine HNC.out.mono ?_
    rintro e w4 ⟨hb4, v, rfl, hcl⟩
    have HCB := Lib.hid hcl
    obtain ⟨b1, e1, b2, e2, b3, e3, b4, e4, rfl, _, _, _, _⟩ := hcl
    rw [HNN.out.1, HNN.out.2.1, HNN.out.2.2.1, HNN.out.2.2.2] at HCB ⊢
    obtain ⟨x5, hx5⟩ : ∃ k, n4 + e4 = k := ⟨_, rfl⟩
    rw [hx5] at HCB ⊢
    obtain ⟨w5, hw5⟩ : ∃ w5, w5 = w4.alloc (.cells #[.slice b1 n1 e1, .slice b2 n2 e2, .slice b3 n3 e3, .slice b4 n4 x5] 27) := ⟨_, rfl⟩
    obtain ⟨g5, hg5⟩ : ∃ g5, g5 = w4.heap.size := ⟨_, rfl⟩
    have hb5 : Below w4.heap.size w4 w5 := by rw [hw5]; exact (Below.refl _ _).alloc (Nat.le_refl _) _
    have k5 : Blk w5 g5 27 #[.slice b1 n1 e1, .slice b2 n2 e2, .slice b3 n3 e3, .slice b4 n4 x5] := by rw [hw5, hg5]; exact Blk.new_ _ _ _
    have hb35 : Below w3.heap.size w3 w5 := hb4.trans (hb5.mono hb4.size)
    have kc := HK3.out.below hb35 HK3.out.lt
    have r0 : w5.cell? ⟨g3, 0, none⟩ = some (.slice a1 n1 c1) := kc.cell 0
    have r1 : w5.cell? ⟨g3, 1, none⟩ = some (.slice a2 n2 c2) := kc.cell 1
    have r2 : w5.cell? ⟨g3, 2, none⟩ = some (.slice a3 n3 c3) := kc.cell 2
    have r3 : w5.cell? ⟨g3, 3, none⟩ = some (.slice a4 n4 x4) := kc.cell 3
    have rl := kc.lt
    have s0 : w5.cell? ⟨g5, 0, none⟩ = some (.slice b1 n1 e1) := k5.cell 0
    have s1 : w5.cell? ⟨g5, 1, none⟩ = some (.slice b2 n2 e2) := k5.cell 1
    have s2 : w5.cell? ⟨g5, 2, none⟩ = some (.slice b3 n3 e3) := k5.cell 2
    have s3 : w5.cell? ⟨g5, 3, none⟩ = some (.slice b4 n4 x5) := k5.cell 3
    have sl := k5.lt
    have hsa := sameC_ok w5 _ _ R R (HCA3.out.below hb35) (HCB.out.below hb5) rfl HCL.out HCL.out
    rw [sameB_refl] at hsa
    have HSA := Lib.hid hsa
    have HB5 := Lib.hid (HB3.out.trans (hb35.mono HB3.out.size))
    have HW5 := Lib.hid hw5; have HG5 := Lib.hid hg5
    have ee : (er == er) = true := by simp
    clear hx5 hw5 hg5 hb5 k5 hb35 kc hb4 q0 q1 q2 ql HNC HCA3 HCB hsa
    go_upto_region 5 with (fail)
    rw [← HW5.out]
    try rw [← HG5.out]
    go_wp2_with fail
    refine HSA.out.mono ?_
    rintro e w6 ⟨rfl, hb6⟩
    have HB6 := Lib.hid (HB5.out.trans (hb6.mono HB5.out.size))
    clear hb6 r0 r1 r2 r3 rl s0 s1 s2 s3 sl HSA
    go_wp2_with fail
    refine (awake20 _).mono ?_
    rintro e w9 ⟨rfl, hb9⟩
    have HB9 := Lib.hid (HB6.out.trans (hb9.mono HB6.out.size))
    clear hb9
    go_wp2_with fail
    go_ret
    exact ⟨rfl, HB9.out⟩
section
open Go.ChangeShapes Go.WideShapes Go.ChangeAt Go.Deep
variable {H : Type} {enc : TypeId × Value → H} {w : World} {base : Nat} {held : Bool}
theorem list3v (cs : List Value) (h : cs.length = 3) : ∃ a b c, cs = [a, b, c] := by
  match cs, h with
  | [a, b, c], _ => exact ⟨a, b, c, rfl⟩
theorem read_edge : ∀ n cs x, DataW.trod enc Try.prog w base (fun _ => true) held n 50 cs = some x → ∃ y, cs = keyCells y ∧ (wfI y.1 ∧ wfI y.2.1 ∧ wfI y.2.2) := fun n cs x h => by
  obtain ⟨y0, y1, y2, m, _, hl, h0, h1, h2⟩ := trod_struct3 Try.underlying50 h
  have hc : Try.prog.cellsOf 50 = 3 := by kernel_rfl
  have hi : Try.prog.cellsOf 3 = 1 := by kernel_rfl
  rw [hc] at hl
  obtain ⟨a, b, c, rfl⟩ := list3v cs hl
  simp only [hi] at h0 h1 h2
  obtain ⟨z0, e0, _, w0⟩ := DataW.trod_int Try.underlying3 h0
  obtain ⟨z1, e1, _, w1⟩ := DataW.trod_int Try.underlying3 h1
  obtain ⟨z2, e2, _, w2⟩ := DataW.trod_int Try.underlying3 h2
  simp at e0 e1 e2
  exact ⟨(z0, z1, z2), by rw [e0, e1, e2]; rfl, w0, w1, w2⟩
end
end Go.Proofs.Ytbancojknahdgaa
