/- comp.read: a graph out of edges. -/
import Derived.Test.YtbancojknahdgaaCompM
namespace Go.Proofs.Ytbancojknahdgaa
open Go.RowKit CP
def edZ (n : Int) (e : Int × Int) : Bool := decide (0 ≤ e.1) && decide (0 ≤ e.2) && decide (e.1 < n) && decide (e.2 < n)
def mayG (n : Int) (es : List (Int × Int)) : Bool := decide (0 ≤ n) && decide (n ≤ 1024) && decide (es.length ≤ 16384) && es.all (edZ n)
def natE (es : List (Int × Int)) : Ed := es.map fun e => (e.1.toNat, e.2.toNat)
theorem edOk_of {n : Int} {es : List (Int × Int)} (h : es.all (edZ n) = true) : EdOk (natE es) n.toNat := fun e he => by
  obtain ⟨x, h1, rfl⟩ := List.mem_map.1 he
  have := List.all_eq_true.1 h x h1
  unfold edZ at this
  simp at this
  exact ⟨by simp; omega, by simp; omega⟩
theorem gr_snoc (E : Ed) (a b : Nat) : gr (E ++ [(a, b)]) = fup (gr E) a (gr E a ++ [b]) := by
  funext c
  unfold gr
  rw [List.filter_append, List.map_append]
  by_cases e : c = a
  · subst e; rw [fup_same]; simp
  · rw [fup_ne _ _ e]
    have : ((a, b).1 == c) = false := by simp; exact fun h => e h.symm
    simp [this]
theorem natE_take {es : List (Int × Int)} {i : Nat} {x : Int × Int} (h : es[i]? = some x) : natE (es.take (i + 1)) = natE (es.take i) ++ [(x.1.toNat, x.2.toNat)] := by
  unfold natE
  rw [List.take_add_one, h, List.map_append]; rfl
def ReadPost (w : World) (n : Int) (es : List (Int × Int)) (e : Ending) (w' : World) : Prop :=
  Below w.heap.size w w' ∧ ((mayG n es = false ∧ e = .returned (.tuple #[.slice none 0 0, .bool false])) ∨
    (mayG n es = true ∧ ∃ ga sl, e = .returned (.tuple #[.slice (some ⟨ga, 0, none⟩) n.toNat n.toNat, .bool true]) ∧ GrM w' w.heap.size ga n.toNat (gr (natE es)) sl))
theorem rows_info : (Try.prog.info? 25).map (fun i => (i.zero, i.size, i.bytes)) = some (some (.slice none 0 0), 1, 24) := by kernel_rfl
theorem made_rep (n : Nat) (v : Value) : madeCells #[v] (n * 1) = tabV n fun _ => v := by
  apply Array.ext_getElem?
  intro j
  unfold madeCells
  by_cases hj : j < n
  · rw [tabV_get _ hj]; simp [hj, Nat.mod_one]
  · rw [Array.getElem?_eq_none (by simp; omega), Array.getElem?_eq_none (by rw [tabV_size]; omega)]
theorem Cells.pair {w : World} {a : Option Addr} {es : List (Int × Int)} (h : Cells w a (es.flatMap pairCells)) {i : Nat} {x : Int × Int} (hx : es[i]? = some x) :
    ∃ b off, a = some ⟨b, off, none⟩ ∧ b < w.heap.size ∧ w.cell? ⟨b, off + i * 2, none⟩ = some (.int .i64 x.1) ∧ w.cell? ⟨b, off + i * 2 + 1, none⟩ = some (.int .i64 x.2) := by
  have g0 := flat_get pairCells 2 (fun _ => rfl) es i 0 x _ hx rfl
  have g1 := flat_get pairCells 2 (fun _ => rfl) es i 1 x _ hx rfl
  obtain ⟨b, off, e, hb, hh⟩ := h (by intro h0; rw [h0] at g0; simp at g0)
  exact ⟨b, off, e, hb, hh _ _ g0, hh _ _ g1⟩
/-- a round of read: the row of one node has grown -/
theorem GrM.round {w0 w1 w2 : World} {ga k : Nat} {es : List (Int × Int)} {i a d na : Nat} {sl : Nat → Value} {v : Value} (h : GrM w1 w0.heap.size ga k (gr (natE (es.take i))) sl) (hb : Below w0.heap.size w0 w1) (hx : es[i]? = some ((a : Int), (d : Int))) (ha : a < k) (hna : (gr (natE (es.take i)) a).length = na)
    (h2 : w2.ownsRow w0.heap.size 3 1 v (na + 1) (iV (gr (natE (es.take i)) a) ++ [.int .i64 (d : Int)]) ∧ (w1.drew.alloc (.cells #[.int .i64 (d : Int)] 3)).grownBy w2 (sl a).ownBlock ∧ (v.ownBlock = (sl a).ownBlock ∨ v.ownBlock = some (w1.drew.alloc (.cells #[.int .i64 (d : Int)] 3)).heap.size)) :
    Below w0.heap.size w0 (w2.setCell ⟨ga, a, none⟩ v) ∧ GrM (w2.setCell ⟨ga, a, none⟩ v) w0.heap.size ga k (gr (natE (es.take (i + 1)))) (fup sl a v) := by
  obtain ⟨h3, h4, h5⟩ := h2
  have hw : Below w1.heap.size w1 (w1.drew.alloc (.cells #[.int .i64 (d : Int)] 3)) := (Below.refl _ _).drew.alloc (Nat.le_refl _) _
  have h6 := h.below hw
  subst hna
  have h7 := h6.grow ha h3 h4 h5
  refine ⟨?_, ?_⟩
  · have hb2 : Below w0.heap.size w0 (w1.drew.alloc (.cells #[.int .i64 (d : Int)] 3)) := hb.trans (hw.mono hb.size)
    have hb3 := hb2.grown h4 hb2.size (fun j hj => ((h6.row a ha).lt j hj).1)
    exact hb3.setCell h.low _
  · rw [natE_take hx, gr_snoc]; exact h7
set_option maxRecDepth 100000 in
set_option maxHeartbeats 6400000 in
theorem read_ok (w : World) (n : Int) (ea : Option Addr) (es : List (Int × Int)) (c : Nat) (hm : es.length ≤ maxLen) (hc : Cells w ea (es.flatMap pairCells)) :
    Calls Try.prog 48 #[.int .i64 n, .slice ea es.length c] w (ReadPost w n es) := by
  obtain ⟨N, hN⟩ : ∃ N, es.length = N := ⟨_, rfl⟩
  have HN := Lib.hid hN; have HC := Lib.hid hc
  rw [hN] at hm ⊢
  clear hN hc
  have no : ∀ (w' : World), Below w.heap.size w w' → mayG n es = false → ReadPost w n es (.returned (.tuple #[.slice none 0 0, .bool false])) w' := fun w' hb h => ⟨hb, .inl ⟨h, rfl⟩⟩
  have NO := Lib.hid no
  clear no
  by_cases h1 : n < 0
  · go_enter Try.func48, Try.ntmps48
    go_wp2_with fail
    go_ret2
    exact NO.out _ (Below.refl _ _) (by unfold mayG; simp; omega)
  by_cases h2 : 1024 < n
  · go_enter Try.func48, Try.ntmps48
    go_wp2_with fail
    go_ret2
    exact NO.out _ (Below.refl _ _) (by unfold mayG; simp; omega)
  by_cases h3 : (16384 : Int) < (N : Int)
  · go_enter Try.func48, Try.ntmps48
    go_wp2_with fail
    go_ret2
    exact NO.out _ (Below.refl _ _) (by unfold mayG; rw [HN.out]; simp; omega)
  obtain ⟨k, rfl⟩ : ∃ k : Nat, n = (k : Int) := ⟨n.toNat, by omega⟩
  obtain ⟨i0, hi0, hz0, hz1, hz2⟩ := info_parts rows_info
  obtain ⟨j0, hj0, yz0, yz1, yz2⟩ := info_parts int_infoC
  have hmk := run_make_n (P := Try.prog) 75 25 i0 (.slice none 0 0) 1 24 Try.underlying75 hi0 hz0 hz1 hz2 .i64 .i64 k k (Nat.le_refl _) (by omega) (by omega)
  have e0 : madeCells (Value.slice none 0 0).cells (k * 1) = tabV k fun _ => .slice none 0 0 := made_rep k _
  rw [e0] at hmk
  clear e0
  go_enter Try.func48, Try.ntmps48
  go_wp2_with fail
  go_loopg [24] N (fun m x wr => ∃ (i : Nat) (sl : Nat → Value), m + i = N ∧ x = .int .i64 (i : Int) ∧ (es.take i).all (edZ k) = true ∧ Below w.heap.size w wr ∧ GrM wr w.heap.size w.heap.size k (gr (natE (es.take i))) sl)
  case atStart => exact ⟨0, _, rfl, rfl, rfl, (Below.refl _ _).alloc (Nat.le_refl _) _, GrM.made w k⟩
  case round =>
    obtain ⟨i, sl, hm2, rfl, hall, hb, hG⟩ := hrel
    have HM := Lib.hid hm2; have HALL := Lib.hid hall; have HB := Lib.hid hb; have HG := Lib.hid hG
    clear hm2 hall hb hG
    by_cases hi : i < N
    · obtain ⟨x, hx⟩ : ∃ x, es[i]? = some x := ⟨_, List.getElem?_eq_getElem (by rw [HN.out]; exact hi)⟩
      obtain ⟨b, off, hea, hbl, k0, k1⟩ := (HC.out.below HB.out).pair hx
      subst hea
      obtain ⟨x0, x1⟩ := x
      have HX := Lib.hid hx
      clear hx
      simp only at k0 k1
      have hbd : edZ (k : Int) (x0, x1) = false → mayG (k : Int) es = false := fun h => by
        unfold mayG
        have : es.all (edZ (k : Int)) = false := by
          rw [List.all_eq_false]
          exact ⟨(x0, x1), List.mem_of_getElem? HX.out, by rw [h]; decide⟩
        rw [this, Bool.and_false]
      have HBD := Lib.hid hbd
      have HB1 := Lib.hid (HB.out.alloc HB.out.size (.cells #[.int .i64 x0, .int .i64 x1] 64))
      clear hbd
      by_cases hx0 : x0 < 0
      · have HE : Hid (edZ (k : Int) (x0, x1) = false) := Lib.hid (by unfold edZ; simp; omega)
        go_wp2_with fail
        all_goals
          go_ret2
          exact NO.out _ HB1.out (HBD.out HE.out)
      by_cases hx1 : x1 < 0
      · have HE : Hid (edZ (k : Int) (x0, x1) = false) := Lib.hid (by unfold edZ; simp; omega)
        go_wp2_with fail
        all_goals
          go_ret2
          exact NO.out _ HB1.out (HBD.out HE.out)
      by_cases hx2 : (k : Int) ≤ x0
      · have HE : Hid (edZ (k : Int) (x0, x1) = false) := Lib.hid (by unfold edZ; simp; omega)
        go_wp2_with fail
        all_goals
          go_ret2
          exact NO.out _ HB1.out (HBD.out HE.out)
      by_cases hx3 : (k : Int) ≤ x1
      · have HE : Hid (edZ (k : Int) (x0, x1) = false) := Lib.hid (by unfold edZ; simp; omega)
        go_wp2_with fail
        all_goals
          go_ret2
          exact NO.out _ HB1.out (HBD.out HE.out)
      obtain ⟨a, rfl⟩ : ∃ a : Nat, x0 = (a : Int) := ⟨x0.toNat, by omega⟩
      obtain ⟨d, rfl⟩ : ∃ d : Nat, x1 = (d : Int) := ⟨x1.toNat, by omega⟩
      have HED : Hid (edZ (k : Int) ((a : Int), (d : Int)) = true) := Lib.hid (by unfold edZ; simp; omega)
      have hak : a < k := by omega
      have hdk : d < k := by omega
      obtain ⟨mn, hmn⟩ : ∃ mn : Nat, (if d < a then (d : Int) else (a : Int)) = (mn : Int) := ⟨if d < a then d else a, by split <;> rfl⟩
      obtain ⟨mx, hmx⟩ : ∃ mx : Nat, (if a < d then (d : Int) else (a : Int)) = (mx : Int) := ⟨if a < d then d else a, by split <;> rfl⟩
      have hmk2 : mx < k := by split at hmx <;> omega
      clear hx0 hx1 hx2 hx3
      have q0 : wr.cell? ⟨w.heap.size, a, none⟩ = some (sl a) := (HG.out.blk.cell a).trans (tabV_get _ hak)
      have ql := HG.out.blk.lt
      obtain ⟨w1, hw1⟩ : ∃ w1, w1 = wr.alloc (.cells #[.int .i64 (a : Int), .int .i64 (d : Int)] 64) := ⟨_, rfl⟩
      go_upto_region 9 with (fail)
      have hwg : wr.heap.size < w1.heap.size := by rw [hw1]; simp
      have g0 : w1.cell? ⟨wr.heap.size, 0, none⟩ = some (.int .i64 (a : Int)) := by rw [hw1]; exact (Blk.new_ wr _ _).cell 0
      have g1 : w1.cell? ⟨wr.heap.size, 1, none⟩ = some (.int .i64 (d : Int)) := by rw [hw1]; exact (Blk.new_ wr _ _).cell 1
      have HBX : Hid (Blk w1 wr.heap.size 64 #[.int .i64 (a : Int), .int .i64 (d : Int)]) := Lib.hid (by rw [hw1]; exact Blk.new_ wr _ _)
      have hG1 : GrM w1 w.heap.size w.heap.size k (gr (natE (es.take i))) sl := by rw [hw1]; exact HG.out.below ((Below.refl _ _).alloc (Nat.le_refl _) _)
      have q1 : w1.cell? ⟨w.heap.size, a, none⟩ = some (sl a) := (hG1.blk.cell a).trans (tabV_get _ hak)
      have ql1 := hG1.blk.lt
      have hws : w.heap.size ≤ w1.heap.size := by omega
      have HG1 := Lib.hid hG1; have HB1' : Hid (Below w.heap.size w w1) := Lib.hid (by rw [hw1]; exact HB1.out)
      have hlen : (gr (natE (es.take i)) a).length ≤ 16384 := by
        unfold gr natE
        rw [List.length_map]
        refine Nat.le_trans (List.length_filter_le _ _) ?_
        rw [List.length_map, List.length_take, HN.out]; omega
      obtain ⟨na, hna⟩ : ∃ na, (gr (natE (es.take i)) a).length = na := ⟨_, rfl⟩
      have HROW := Lib.hid (HG1.out.row a hak)
      rw [hna] at hlen HROW
      have HNA := Lib.hid hna
      rw [← hw1]
      clear hw1 hG1 HG HB HB1 q0 ql k0 k1 hbl hmn hmx hmk2 hna HBD
      go_region_law (refine step_append_sep rfl (.tmp 50) (.tmp 53) 25 rfl w.heap.size 3 j0 (.int .i64 0) 1 8 Try.underlying25 hj0 yz0 yz1 yz2 rfl (by decide) (sl a) na _ (by simp [Act.eval]) (World.ownsRow.alloc (w := w1.drew) HROW.out _) ⟨w1.heap.size, 0, none⟩ 1 1 [.int .i64 (d : Int)] (by simp [Act.eval]) rfl (lit_drew w1 _ _) (ones_int _) (by unfold maxLen; omega) (by omega) (by simp; omega) ?_; intro v2 w2 hown2 hg2 hs2; obtain ⟨oa, oc, rfl⟩ := own_shape hown2; have hblk2 : Blk w2 w.heap.size 25 (tabV k sl) := ((HG1.out.blk.drew_.alloc_ _).grown hg2 (own_ne_blk HROW.out HG1.out.blk (by decide))); have f0 : w2.cell? ⟨w.heap.size, a, none⟩ = some (sl a) := (hblk2.cell a).trans (tabV_get _ hak); have ff0 : w2.frozen? ⟨w.heap.size, a, none⟩ = false := hblk2.frozen a; have fl := hblk2.lt; have hx2 : Blk w2 wr.heap.size 64 #[.int .i64 (a : Int), .int .i64 (d : Int)] := ((HBX.out.drew_.alloc_ _).grown hg2 (own_ne_blk HROW.out HBX.out (by decide))); have e0 : w2.cell? ⟨wr.heap.size, 0, none⟩ = some (.int .i64 (a : Int)) := hx2.cell 0; have e1 : w2.cell? ⟨wr.heap.size, 1, none⟩ = some (.int .i64 (d : Int)) := hx2.cell 1; have el := hx2.lt; clear hx2; have H2 := Lib.hid (And.intro hown2 (And.intro hg2 hs2)); clear hown2 hg2 hs2 hblk2)
      all_goals
        have HF := Lib.hid (GrM.round HG1.out HB1'.out HX.out hak HNA.out H2.out)
        clear f0 ff0 fl e0 e1 el g0 g1 q1 ql1 H2
        go_wp2_with fail
        go_roundg (N - (i + 1))
        case measure => have := HM.out; omega
        case rel => exact ⟨i + 1, _, by have := HM.out; omega, by go_num, by rw [List.take_add_one, HX.out, List.all_append, HALL.out]; simpa using HED.out, HF.out.1, HF.out.2⟩
    · have hiN : i = N := by have := HM.out; omega
      subst hiN
      have HAL := HALL.out
      rw [List.take_of_length_le (by rw [HN.out]; exact Nat.le_refl _)] at HAL
      have HGG := HG.out
      rw [List.take_of_length_le (by rw [HN.out]; exact Nat.le_refl _)] at HGG
      have HAL := Lib.hid HAL; have HGG := Lib.hid HGG
      go_wp2_with fail
      go_ret2
      refine ⟨HB.out, .inr ⟨?_, w.heap.size, sl, rfl, HGG.out⟩⟩
      unfold mayG
      rw [HAL.out, HN.out]
      simp; omega
end Go.Proofs.Ytbancojknahdgaa
