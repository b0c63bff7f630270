/- CloneNobody's walk: whatever the numbers of contexts are, Way and Context answer as the reference does; numbers of contexts as an argument (open_clone). -/
import Derived.Test.YtbancojknahdgaaCloneZ
import Derived.Test.YtbancojknahdgaaCloneJ
import Derived.Test.YtbancojknahdgaaOpen
import Derived.Lib.SmallJoins
import Derived.BigQuiet
namespace Go.Proofs.Ytbancojknahdgaa
open Go.RowKit CP
section
open Go.ChangeShapes Go.WideShapes Go.ChangeAt Go.Deep
variable {H : Type} {enc : TypeId × Value → H} {w : World} {base : Nat} {held : Bool}
theorem list3v (cs : List Value) (h : cs.length = 3) : ∃ a b c, cs = [a, b, c] := by
  match cs, h with
  | [a, b, c], _ => exact ⟨a, b, c, rfl⟩
theorem read_edge : ∀ n cs x, DataW.trod enc Try.prog w base (fun _ => true) held n 50 cs = some x → ∃ y, cs = keyCells y ∧ (wfI y.1 ∧ wfI y.2.1 ∧ wfI y.2.2) := fun n cs x h => by
  obtain ⟨y0, y1, y2, m, _, hl, h0, h1, h2⟩ := trod_struct3 Try.underlying50 h
  have hc : Try.prog.cellsOf 50 = 3 := by kernel_rfl
  have hi : Try.prog.cellsOf 3 = 1 := by kernel_rfl
  rw [hc] at hl
  obtain ⟨a, b, c, rfl⟩ := list3v cs hl
  simp only [hi] at h0 h1 h2
  obtain ⟨z0, e0, _, w0⟩ := DataW.trod_int Try.underlying3 h0
  obtain ⟨z1, e1, _, w1⟩ := DataW.trod_int Try.underlying3 h1
  obtain ⟨z2, e2, _, w2⟩ := DataW.trod_int Try.underlying3 h2
  simp at e0 e1 e2
  exact ⟨(z0, z1, z2), by rw [e0, e1, e2]; rfl, w0, w1, w2⟩
end
section
open Go.ChangeShapes Go.WideShapes Go.ChangeAt Go.Deep
variable {H : Type} {enc : TypeId × Value → H} {P : Program} {w : World} {base b0 : Nat} {held : Bool}
/-- a field that is a slice of elements of k cells each -/
theorem field_slice {α : Type} [Inhabited α] (f : α → List Value) (Q : α → Prop) (k : Nat) (hk0 : 0 < k) {t e : TypeId} {m : Nat} {v : Value} {x : DataW H × List MemPlace} (ht : P.underlying t = some (.slice e)) (hk : P.cellsOf e = k) (hf : ∀ x, (f x).length = k)
    (hread : ∀ n cs x, DataW.trod enc P w base (fun _ => true) held n e cs = some x → ∃ y, cs = f y ∧ Q y)
    (hf0 : DataW.trod enc P w base (fun _ => true) held m t [v] = some x) : ∃ a cap l, v = .slice a (List.length l) cap ∧ l.length ≤ cap ∧ cap ≤ maxLen ∧ Cells w a (l.flatMap f) ∧ ∀ y ∈ l, Q y := by
  rcases open_slice ht hf0 with ⟨hcs, _⟩ | ⟨a, len, cap, m, n, D, Pl, hcs, _, hl, hm, hmm, _, hi⟩
  · injection hcs with hcs
    subst hcs
    exact ⟨none, 0, [], rfl, by simp, by simp [maxLen], Cells.nil _ _, by simp⟩
  · injection hcs with hcs
    subst hcs
    simp at hmm
    rw [hmm] at hi
    obtain ⟨g, hg⟩ := choose_lt (n := len) (p := fun i y => w.cells? base (a.add (i * P.cellsOf e)) (P.cellsOf e) = some (f y) ∧ Q y) (fun i hil => by
      obtain ⟨cs', h1, h2⟩ := hi i (by omega)
      obtain ⟨y, rfl, hq⟩ := hread _ _ _ h2
      exact ⟨y, h1, hq⟩)
    refine ⟨some a, cap, (List.range len).map g, by simp, by simpa using hl, hm, cells_of_all fun q v hv => ?_, ?_⟩
    · obtain ⟨x, h1, h2⟩ := flat_at f k hk0 hf _ _ _ hv
      rw [List.getElem?_map] at h1
      have hql : q / k < len := by
        rcases Nat.lt_or_ge (q / k) len with h | h
        · exact h
        · rw [List.getElem?_eq_none (by simpa using h)] at h1; simp at h1
      rw [List.getElem?_range hql] at h1
      simp at h1
      subst h1
      obtain ⟨_, _, hat⟩ := World.cells?_some (hg _ hql).1
      have hqk : q % k < k := Nat.mod_lt _ hk0
      have := hat (q % k) (by rw [hk]; exact hqk)
      rw [h2, Go.Deep.add_add, hk, show q / k * k + q % k = q by rw [Nat.mul_comm]; exact Nat.div_add_mod q k] at this
      exact this
    · intro y hy
      obtain ⟨i, hi1, rfl⟩ := List.mem_map.1 hy
      exact (hg i (List.mem_range.1 hi1)).2
theorem flat_int (l : List Int) : l.flatMap intCells = zV l := by
  induction l with
  | nil => rfl
  | cons a l ih => rw [List.flatMap_cons, ih]; rfl
set_option maxRecDepth 100000 in
/-- numbers of contexts by value -/
theorem open_clone {r : Reach} {v : Value} {d : DataW H} {p : List MemPlace} (hv : Value.okWide Try.prog w r b0 27 v) (h : DataW.Trod enc Try.prog w base (fun _ => true) held 27 v d p) : ∃ c : Cl, ClAt w v c := by
  obtain ⟨v0, v1, v2, v3, y0, y1, y2, y3, n, rfl, _, _, h0, h1, h2, h3⟩ := Go.Joins.open_agg4 Try.underlying27 (by kernel_rfl) (by kernel_rfl) hv h
  obtain ⟨a0, c0, l0, rfl, _, _, m0, _⟩ := field_slice intCells wfI 1 (by decide) Try.underlying25 (by kernel_rfl) (fun _ => rfl) (read_int Try.underlying3) h0
  obtain ⟨a1, c1, l1, rfl, _, _, m1, _⟩ := field_slice intCells wfI 1 (by decide) Try.underlying25 (by kernel_rfl) (fun _ => rfl) (read_int Try.underlying3) h1
  obtain ⟨a2, c2, l2, rfl, _, _, m2, _⟩ := field_slice keyCells (fun y => wfI y.1 ∧ wfI y.2.1 ∧ wfI y.2.2) 3 (by decide) Try.underlying23 (by kernel_rfl) (fun _ => rfl) read_edge h2
  obtain ⟨a3, c3, l3, rfl, hc3, _, m3, _⟩ := field_slice intCells wfI 1 (by decide) Try.underlying25 (by kernel_rfl) (fun _ => rfl) (read_int Try.underlying3) h3
  rw [flat_int] at m0 m1 m3
  exact ⟨⟨l0, l1, l2, l3⟩, a0, c0, a1, c1, a2, c2, a3, c3 - l3.length, by rw [show l3.length + (c3 - l3.length) = c3 by omega], m0, m1, m2, m3⟩
end
set_option maxRecDepth 100000 in
set_option maxHeartbeats 12800000 in
theorem cloneNobody_walk (w : World) (v : Value) (c : Cl) (hv : ClAt w v c) (main : Int) (_mw : (Lit.int .i64 main).wf = true) (wa : Option Addr) (wc : Nat) (wl : List Int) (_hlc : wl.length ≤ wc) (_hmc : wc ≤ maxLen) (hw0 : Cells w wa (wl.flatMap intCells)) (_wf : ∀ y ∈ wl, wfI y) :
    Calls Try.prog 8 #[v, .int .i64 main, .slice wa wl.length wc] w (FineC w) := by
  have hml : wl.length ≤ maxLen := by omega
  have hwz : Cells w wa (zV wl) := by rw [flat_int] at hw0; exact hw0
  have HCA : Hid (∀ W, Below w.heap.size w W → ClAt W v c) := Lib.hid (fun W hW => hv.below hW)
  obtain ⟨a1, c1, a2, c2, a3, c3, a4, c4, rfl, _, _, _, _⟩ := hv
  have hlen : c.comp.length ≤ 40 → c.edges.length ≤ 60 → c.count.length ≤ 100 → c.add.length ≤ 100 → ClLen c := fun h1 h2 h3 h4 => ⟨by omega, by omega, by omega, by omega⟩
  obtain ⟨rl, hrl⟩ : ∃ rl, (wayR c main 0 0).1 = rl := ⟨_, rfl⟩
  obtain ⟨rn, hrn⟩ : ∃ rn, rl.length = rn := ⟨_, rfl⟩
  obtain ⟨re, hre⟩ : ∃ re, (wayR c main 0 0).2 = re := ⟨_, rfl⟩
  have hrlen : rn ≤ 1024 := by rw [← hrn, ← hrl]; exact wayR_len _ _ _ _
  obtain ⟨x0, hx0⟩ : ∃ x, (ctxR c main wl).1 = x := ⟨_, rfl⟩
  obtain ⟨x1, hx1⟩ : ∃ x, (ctxR c main wl).2.1 = x := ⟨_, rfl⟩
  obtain ⟨x2, hx2⟩ : ∃ x, (ctxR c main wl).2.2 = x := ⟨_, rfl⟩
  have HWA : Hid (ClLen c → ∀ W v, ClAt W v c → Calls Try.prog 21 #[v, .int .i64 main, .int .i64 0, .int .i64 0] W (RwPost W rl rn re)) := Lib.hid (fun hl W v h => (way_ok W v c main 0 0 h hl).mono fun e w' h => by
    have h := rw_of h; rw [hrl, hrn, hre] at h; exact h)
  have HWB : Hid (ClLen c → ∀ W v, ClAt W v c → Calls Try.prog 22 #[v, .int .i64 main, .int .i64 0, .int .i64 0] W (RwPost W rl rn re)) := Lib.hid (fun hl W v h => (rway_ok W v c main 0 0 h hl).mono fun e w' h => by
    have h := rw_of h; rw [hrl, hrn, hre] at h; exact h)
  have HXA : Hid (ClLen c → ∀ W v, ClAt W v c → Below w.heap.size w W → Calls Try.prog 24 #[v, .int .i64 main, .slice wa wl.length wc] W fun e w' => e = .returned (.tuple #[.int .i64 x0, .int .i64 x1, .int .i64 x2]) ∧ Below W.heap.size W w') := Lib.hid (fun hl W v h hb => (ctx_ok W v c main wa wl wc h hl hml (hwz.below hb)).mono fun e w' h => by
    obtain ⟨h1, h2⟩ := h; rw [hx0, hx1, hx2] at h1; exact ⟨h1, h2⟩)
  have HXB : Hid (ClLen c → ∀ W v, ClAt W v c → Below w.heap.size w W → Calls Try.prog 25 #[v, .int .i64 main, .slice wa wl.length wc] W fun e w' => e = .returned (.tuple #[.int .i64 x0, .int .i64 x1, .int .i64 x2]) ∧ Below W.heap.size W w') := Lib.hid (fun hl W v h hb => (rctx_ok W v c main wa wl wc h hl hml (hwz.below hb)).mono fun e w' h => by
    obtain ⟨h1, h2⟩ := h; rw [hx0, hx1, hx2] at h1; exact ⟨h1, h2⟩)
  obtain ⟨n1, hn1⟩ : ∃ n1, c.comp.length = n1 := ⟨_, rfl⟩
  obtain ⟨n2, hn2⟩ : ∃ n2, c.count.length = n2 := ⟨_, rfl⟩
  obtain ⟨n3, hn3⟩ : ∃ n3, c.edges.length = n3 := ⟨_, rfl⟩
  obtain ⟨n4, hn4⟩ : ∃ n4, c.add.length = n4 := ⟨_, rfl⟩
  obtain ⟨N, hN⟩ : ∃ N, wl.length = N := ⟨_, rfl⟩
  rw [hn1, hn2, hn3, hn4] at HCA hlen ⊢
  rw [hN] at HXA HXB hml ⊢
  have HLEN := Lib.hid hlen; have HRN := Lib.hid hrn
  obtain ⟨x4, hx4⟩ : ∃ k, n4 + c4 = k := ⟨_, rfl⟩
  rw [hx4] at HCA ⊢
  obtain ⟨w1, hw1⟩ : ∃ w1, w1 = w.alloc (.cells #[.slice a1 n1 c1, .slice a2 n2 c2, .slice a3 n3 c3, .slice a4 n4 x4] 27) := ⟨_, rfl⟩
  obtain ⟨g, hg⟩ : ∃ g, g = w.heap.size := ⟨_, rfl⟩
  have hb1 : Below w.heap.size w w1 := by rw [hw1]; exact (Below.refl _ _).alloc (Nat.le_refl _) _
  have k1 : Blk w1 g 27 #[.slice a1 n1 c1, .slice a2 n2 c2, .slice a3 n3 c3, .slice a4 n4 x4] := by rw [hw1, hg]; exact Blk.new_ _ _ _
  have p0 : w1.cell? ⟨g, 0, none⟩ = some (.slice a1 n1 c1) := k1.cell 0
  have p1 : w1.cell? ⟨g, 1, none⟩ = some (.slice a2 n2 c2) := k1.cell 1
  have p2 : w1.cell? ⟨g, 2, none⟩ = some (.slice a3 n3 c3) := k1.cell 2
  have p3 : w1.cell? ⟨g, 3, none⟩ = some (.slice a4 n4 x4) := k1.cell 3
  have pl := k1.lt
  have HW1 := Lib.hid hw1; have HG := Lib.hid hg; have HB1 := Lib.hid hb1; have HK1 := Lib.hid k1
  unfold maxLen at hml
  clear hw1 hg hb1 k1 hn1 hn2 hn3 hn4 hN hx4 hrl hrn hre hx0 hx1 hx2 hlen hw0 hwz _hlc _hmc _wf
  go_enter Try.func8, Try.ntmps8
  go_upto_region 1 with (fail)
  rw [← HW1.out]
  try rw [← HG.out]
  have hca : (decide ((40 : Int) < (n1 : Int)) = true ∨ (decide ((40 : Int) < (n1 : Int)) = false ∧ decide ((60 : Int) < (n3 : Int)) = true) ∨ (decide ((40 : Int) < (n1 : Int)) = false ∧ decide ((60 : Int) < (n3 : Int)) = false ∧ decide ((100 : Int) < (n2 : Int)) = true) ∨ (decide ((40 : Int) < (n1 : Int)) = false ∧ decide ((60 : Int) < (n3 : Int)) = false ∧ decide ((100 : Int) < (n2 : Int)) = false ∧ decide ((100 : Int) < (n4 : Int)) = true) ∨ (decide ((40 : Int) < (n1 : Int)) = false ∧ decide ((60 : Int) < (n3 : Int)) = false ∧ decide ((100 : Int) < (n2 : Int)) = false ∧ decide ((100 : Int) < (n4 : Int)) = false ∧ decide ((100 : Int) < (N : Int)) = true)) ∨ (decide ((40 : Int) < (n1 : Int)) = false ∧ decide ((60 : Int) < (n3 : Int)) = false ∧ decide ((100 : Int) < (n2 : Int)) = false ∧ decide ((100 : Int) < (n4 : Int)) = false ∧ decide ((100 : Int) < (N : Int)) = false) := by
    simp only [decide_eq_true_eq, decide_eq_false_iff_not]; omega
  rcases hca with hca | ⟨d1, d2, d3, d4, d5⟩
  · rcases hca with d1 | ⟨d1, d2⟩ | ⟨d1, d2, d3⟩ | ⟨d1, d2, d3, d4⟩ | ⟨d1, d2, d3, d4, d5⟩
    all_goals
      go_wp2_with fail
      refine (awake20 _).mono ?_
      rintro e w9 ⟨rfl, hb9⟩
      have HB9 := Lib.hid (HB1.out.trans (hb9.mono HB1.out.size))
      clear hb9
      go_wp2_with fail
      go_ret
      exact ⟨rfl, HB9.out⟩
  have hlc : ClLen c := HLEN.out (by have := of_decide_eq_false d1; omega) (by have := of_decide_eq_false d2; omega) (by have := of_decide_eq_false d3; omega) (by have := of_decide_eq_false d4; omega)
  have HWA2 := Lib.hid (HWA.out hlc w1 _ (HCA.out w1 HB1.out))
  have HWB2 := Lib.hid (HWB.out hlc); have HXA2 := Lib.hid (HXA.out hlc); have HXB2 := Lib.hid (HXB.out hlc)
  clear hlc HWA HWB HXA HXB HLEN
  go_wp2_with fail
  refine HWA2.out.mono ?_
  rintro e w2 ⟨hb2, ya, yc, rfl, hya⟩
  have HB2 := Lib.hid (HB1.out.trans (hb2.mono HB1.out.size))
  have kc := HK1.out.below hb2 HK1.out.lt
  have HK2 := Lib.hid kc
  have HYA := Lib.hid hya
  have q0 : w2.cell? ⟨g, 0, none⟩ = some (.slice a1 n1 c1) := kc.cell 0
  have q1 : w2.cell? ⟨g, 1, none⟩ = some (.slice a2 n2 c2) := kc.cell 1
  have q2 : w2.cell? ⟨g, 2, none⟩ = some (.slice a3 n3 c3) := kc.cell 2
  have q3 : w2.cell? ⟨g, 3, none⟩ = some (.slice a4 n4 x4) := kc.cell 3
  have ql := kc.lt
  have HC2 := Lib.hid (HWB2.out w2 _ (HCA.out w2 HB2.out))
  clear kc hb2 hya p0 p1 p2 p3 pl HWA2 HWB2
  go_wp2_with fail
  refine HC2.out.mono ?_
  rintro e w3 ⟨hb3, za, zc, rfl, hza⟩
  have HB3 := Lib.hid (HB2.out.trans (hb3.mono HB2.out.size))
  have kc := HK2.out.below hb3 HK2.out.lt
  have HK3 := Lib.hid kc
  have HYA3 := Lib.hid (HYA.out.below hb3)
  have HZA3 := Lib.hid hza
  have r0 : w3.cell? ⟨g, 0, none⟩ = some (.slice a1 n1 c1) := kc.cell 0
  have r1 : w3.cell? ⟨g, 1, none⟩ = some (.slice a2 n2 c2) := kc.cell 1
  have r2 : w3.cell? ⟨g, 2, none⟩ = some (.slice a3 n3 c3) := kc.cell 2
  have r3 : w3.cell? ⟨g, 3, none⟩ = some (.slice a4 n4 x4) := kc.cell 3
  have rl0 := kc.lt
  have HC3 := Lib.hid (HXA2.out w3 _ (HCA.out w3 HB3.out) HB3.out)
  clear kc hb3 hza q0 q1 q2 q3 ql HC2 HYA
  go_wp2_with fail
  refine HC3.out.mono ?_
  rintro e w4 ⟨rfl, hb4⟩
  have HB4 := Lib.hid (HB3.out.trans (hb4.mono HB3.out.size))
  have kc := HK3.out.below hb4 HK3.out.lt
  have HYA4 := Lib.hid (HYA3.out.below hb4)
  have HZA4 := Lib.hid (HZA3.out.below hb4)
  have s0 : w4.cell? ⟨g, 0, none⟩ = some (.slice a1 n1 c1) := kc.cell 0
  have s1 : w4.cell? ⟨g, 1, none⟩ = some (.slice a2 n2 c2) := kc.cell 1
  have s2 : w4.cell? ⟨g, 2, none⟩ = some (.slice a3 n3 c3) := kc.cell 2
  have s3 : w4.cell? ⟨g, 3, none⟩ = some (.slice a4 n4 x4) := kc.cell 3
  have sl := kc.lt
  have HC4 := Lib.hid (HXB2.out w4 _ (HCA.out w4 HB4.out) HB4.out)
  clear kc hb4 r0 r1 r2 r3 rl0 HC3 HYA3 HZA3
  go_wp2_with fail
  refine HC4.out.mono ?_
  rintro e w5 ⟨rfl, hb5⟩
  have HB5 := Lib.hid (HB4.out.trans (hb5.mono HB4.out.size))
  have HSM := Lib.hid (rw_same (ca := yc) (cb := zc) HRN.out hrlen (HYA4.out.below hb5) (HZA4.out.below hb5))
  have e0 : (re == re) = true := by simp
  have e1 : (x0 == x0) = true := by simp
  have e2 : (x1 == x1) = true := by simp
  have e3 : (x2 == x2) = true := by simp
  clear hb5 s0 s1 s2 s3 sl HC4 HYA4 HZA4
  go_wp2_with fail
  refine HSM.out.mono ?_
  rintro e w6 ⟨rfl, nq, hw6⟩
  have HB6 : Hid (Below w.heap.size w w6) := Lib.hid (by rw [hw6]; exact HB5.out.trans ((drew_below _ _).mono HB5.out.size))
  clear hw6 HSM
  go_wp2_with fail
  refine (awake20 _).mono ?_
  rintro e w9 ⟨rfl, hb9⟩
  have HB9 := Lib.hid (HB6.out.trans (hb9.mono HB6.out.size))
  clear hb9
  go_wp2_with fail
  go_ret
  exact ⟨rfl, HB9.out⟩
end Go.Proofs.Ytbancojknahdgaa
