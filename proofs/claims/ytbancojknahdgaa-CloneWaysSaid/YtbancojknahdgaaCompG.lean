/- The contract of comp.Comps: the components of a graph, numbered from above. -/
import Derived.Test.YtbancojknahdgaaCompH
import Derived.Test.YtbancojknahdgaaCompI
namespace Go.Proofs.Ytbancojknahdgaa
open Go.RowKit CP
theorem bool_info : (Try.prog.info? 4).map (fun i => (i.zero, i.size, i.bytes)) = some (some (.bool false), 1, 1) := by kernel_rfl
theorem al5 (w : World) (a b c d e : Obj) : let W := ((((((w.alloc a).alloc b).alloc c).alloc d).alloc e).drew)
    Below w.heap.size w W ∧ W.heap[w.heap.size]? = some a ∧ W.heap[w.heap.size + 1]? = some b ∧ W.heap[w.heap.size + 1 + 1]? = some c ∧ W.heap[w.heap.size + 1 + 1 + 1]? = some d ∧ W.heap[w.heap.size + 1 + 1 + 1 + 1]? = some e := by
  have s1 : (w.alloc a).heap.size = w.heap.size + 1 := by simp
  have s2 : ((w.alloc a).alloc b).heap.size = w.heap.size + 1 + 1 := by simp
  have s3 : (((w.alloc a).alloc b).alloc c).heap.size = w.heap.size + 1 + 1 + 1 := by simp
  have s4 : ((((w.alloc a).alloc b).alloc c).alloc d).heap.size = w.heap.size + 1 + 1 + 1 + 1 := by simp
  have n1 := heap_alloc_new w a
  have n2 := heap_alloc_new (w.alloc a) b
  have n3 := heap_alloc_new ((w.alloc a).alloc b) c
  have n4 := heap_alloc_new (((w.alloc a).alloc b).alloc c) d
  have n5 := heap_alloc_new ((((w.alloc a).alloc b).alloc c).alloc d) e
  rw [s1] at n2
  rw [s2] at n3
  rw [s3] at n4
  rw [s4] at n5
  refine ⟨((((((Below.refl _ _).alloc (Nat.le_refl _) _).alloc (by simp) _).alloc (by simp <;> omega) _).alloc (by simp <;> omega) _).alloc (by simp <;> omega) _).drew, ?_, ?_, ?_, ?_, n5⟩
  · exact (Below.heap_alloc _ e _ (by simp <;> omega)).trans ((Below.heap_alloc _ d _ (by simp <;> omega)).trans ((Below.heap_alloc _ c _ (by simp <;> omega)).trans ((Below.heap_alloc _ b _ (by simp)).trans n1)))
  · exact (Below.heap_alloc _ e _ (by simp <;> omega)).trans ((Below.heap_alloc _ d _ (by simp <;> omega)).trans ((Below.heap_alloc _ c _ (by simp)).trans n2))
  · exact (Below.heap_alloc _ e _ (by simp <;> omega)).trans ((Below.heap_alloc _ d _ (by simp)).trans n3)
  · exact (Below.heap_alloc _ e _ (by simp)).trans n4
theorem WM.made {w1 wc : World} {G n ga : Nat} {g : Nat → List Nat} {sl : Nat → Value} (hG : GrM w1 G ga n g sl) (hb : Below w1.heap.size w1 wc) {p bm bl bo bc : Nat}
    (hp : wc.heap[p]? = some (.cells #[.slice (some ⟨ga, 0, none⟩) n n, .slice (some ⟨bm, 0, none⟩) n n, .slice (some ⟨bl, 0, none⟩) n n, .slice none 0 0, .slice (some ⟨bo, 0, none⟩) n n, .int .i64 0, .slice (some ⟨bc, 0, none⟩) n n, .int .i64 0] 81))
    (h1 : wc.heap[bm]? = some (.cells (tabI n fun _ => 0) 3)) (h2 : wc.heap[bl]? = some (.cells (tabI n fun _ => 0) 3)) (h3 : wc.heap[bo]? = some (.cells (tabB n fun _ => false) 4)) (h4 : wc.heap[bc]? = some (.cells (tabI n fun _ => 0) 3))
    (g0 : w1.heap.size ≤ p ∧ w1.heap.size ≤ bm ∧ w1.heap.size ≤ bl ∧ w1.heap.size ≤ bo ∧ w1.heap.size ≤ bc) (ne : bm ≠ bl ∧ bm ≠ bc ∧ bl ≠ bc) :
    WM wc G w1.heap.size ⟨p, ga, bm, bl, bo, bc⟩ n g sl (.slice none 0 0) TS.init :=
  ⟨hp, h1, h2, h3, h4, World.ownsRow_nil _ _ _ _, hG.below hb, hG.blk.lt, fun a ha k hk => ((hG.row a ha).lt k hk).2, g0.1, g0.2.1, g0.2.2.1, g0.2.2.2.1, g0.2.2.2.2, ne.1, ne.2.1, ne.2.2, fun h => (by cases h), fun h => (by cases h), fun h => (by cases h)⟩
/-- the cells of a block that is known whole -/
theorem Blk.cells {w : World} {b : Nat} {t : TypeId} {cs : Array Value} (h : Blk w b t cs) : Cells w (some ⟨b, 0, none⟩) cs.toList := fun _ => ⟨b, 0, rfl, h.lt, fun i v hv => by
  rw [Nat.zero_add, h.cell i]; simpa using hv⟩
theorem tabI_list (n : Nat) (f : Nat → Nat) : (tabI n f).toList = iV ((List.range n).map f) := by
  unfold tabI tabV iV
  simp
theorem call_cc (args : Array Value) (w : World) : (callFunc 52 args).run Try.prog w = .ok (.enter 52 args) w := MuLone.run_callFunc_enter Try.func52 (by kernel_rfl) rfl args w
def numV (nu : Nat → Nat) (c : Nat) : Value := .int .i64 ((nu c : Int) - 1)
/-- what Comps' function asks -/
def ccP (E : Ed) (cm nu : Nat → Nat) (c : Nat) : Bool := (nu c == 0) && (inF E cm nu c == 0)
set_option maxHeartbeats 800000 in
theorem cc_ok (w : World) (pn pb bn bi m : Nat) (f nu : Nat → Nat) (c : Nat) (hc : c < m) (h1 : Blk w pn 25 #[.slice (some ⟨bn, 0, none⟩) m m]) (h2 : Blk w pb 25 #[.slice (some ⟨bi, 0, none⟩) m m]) (h3 : Blk w bn 3 (tabV m (numV nu))) (h4 : Blk w bi 3 (tabI m f)) :
    Calls Try.prog 52 #[.int .i64 (c : Int), .pointer (some ⟨pn, 0, none⟩), .pointer (some ⟨pb, 0, none⟩)] w fun e w' => e = .returned (.bool ((nu c == 0) && (f c == 0))) ∧ w = w' := by
  have c1 : w.cell? ⟨pn, 0, none⟩ = some (.slice (some ⟨bn, 0, none⟩) m m) := h1.cell 0
  have c2 : w.cell? ⟨pb, 0, none⟩ = some (.slice (some ⟨bi, 0, none⟩) m m) := h2.cell 0
  have l1 := h1.lt; have l2 := h2.lt; have l3 := h3.lt; have l4 := h4.lt
  have c3 : w.cell? ⟨bn, c, none⟩ = some (.int .i64 ((nu c : Int) - 1)) := (h3.cell c).trans (tabV_get _ hc)
  have c4 : w.cell? ⟨bi, c, none⟩ = some (.int .i64 (f c : Int)) := (h4.cell c).trans (tabI_get _ hc)
  clear h1 h2 h3 h4
  obtain ⟨z, hz⟩ : ∃ z : Int, z = (nu c : Int) - 1 := ⟨_, rfl⟩
  rw [← hz] at c3
  obtain ⟨fc, hfc⟩ : ∃ fc, fc = f c := ⟨_, rfl⟩
  rw [← hfc] at c4 ⊢
  by_cases h0 : nu c = 0
  · have hn : (nu c == 0) = true := by rw [h0]; rfl
    have hz0 : z < 0 := by omega
    rw [hn, Bool.true_and]
    clear hz h0 hn hfc
    go_enter Try.func52, Try.ntmps52
    go_wp2_with fail
    go_ret
    refine ⟨?_, rfl⟩
    have e : ((fc : Int) == 0) = (fc == 0) := by
      refine Bool.eq_iff_iff.2 ?_
      rw [beq_iff_eq, beq_iff_eq]; omega
    rw [← e]; rfl
  · have hn : (nu c == 0) = false := by simp [h0]
    have hz0 : ¬ z < 0 := by omega
    rw [hn, Bool.false_and]
    clear hz h0 hn hfc
    go_enter Try.func52, Try.ntmps52
    go_wp2_with fail
    go_ret
    exact ⟨rfl, rfl⟩
/-- Comps' counts of edges, in memory -/
structure C1 (w5 : World) (m pb bi : Nat) (f : Nat → Nat) (wr : World) : Prop where
  bel : Below w5.heap.size w5 wr
  fpb : Blk wr pb 25 #[.slice (some ⟨bi, 0, none⟩) m m]
  fbi : Blk wr bi 3 (tabI m f)
  lb : w5.heap.size ≤ bi
section
variable {w5 wr w' : World} {m pb bi pn bn : Nat} {f nu : Nat → Nat}
theorem C1.below (h : C1 w5 m pb bi f wr) (hb : Below wr.heap.size wr w') : C1 w5 m pb bi f w' := ⟨h.bel.trans (hb.mono h.bel.size), h.fpb.below hb h.fpb.lt, h.fbi.below hb h.fbi.lt, h.lb⟩
theorem C1.store (h : C1 w5 m pb bi f wr) {c : Nat} (hc : c < m) (v : Nat) : C1 w5 m pb bi (fup f c v) (wr.setCell ⟨bi, c, none⟩ (.int .i64 (v : Int))) :=
  ⟨h.bel.setCell h.lb _, h.fpb.far (Blk.ne h.fpb h.fbi (by decide)) _, by have := h.fbi.set_ c (.int .i64 (v : Int)); rw [tabI_set _ hc] at this; exact this, h.lb⟩
theorem C1.start (w5 : World) (m : Nat) : C1 w5 m (w5.heap.size + 1) w5.heap.size (fun _ => 0) ((w5.alloc (.cells (tabI m fun _ => 0) 3)).alloc (.cells #[.slice (some ⟨w5.heap.size, 0, none⟩) m m] 25)) := by
  refine ⟨((Below.refl _ _).alloc (Nat.le_refl _) _).alloc (by simp) _, ?_, (Blk.new_ w5 _ _).alloc_ _, Nat.le_refl _⟩
  have := Blk.new_ (w5.alloc (.cells (tabI m fun _ => 0) 3)) 25 #[.slice (some ⟨w5.heap.size, 0, none⟩) m m]
  simpa using this
/-- and its numbers -/
structure C2 (w5 : World) (m pb bi pn bn : Nat) (f nu : Nat → Nat) (wr : World) : Prop where
  one : C1 w5 m pb bi f wr
  fpn : Blk wr pn 25 #[.slice (some ⟨bn, 0, none⟩) m m]
  fbn : Blk wr bn 3 (tabV m (numV nu))
  lbn : w5.heap.size ≤ bn
  ne : bi ≠ bn
theorem C2.below (h : C2 w5 m pb bi pn bn f nu wr) (hb : Below wr.heap.size wr w') : C2 w5 m pb bi pn bn f nu w' := ⟨h.one.below hb, h.fpn.below hb h.fpn.lt, h.fbn.below hb h.fbn.lt, h.lbn, h.ne⟩
theorem C2.storeI (h : C2 w5 m pb bi pn bn f nu wr) {c : Nat} (hc : c < m) (v : Nat) : C2 w5 m pb bi pn bn (fup f c v) nu (wr.setCell ⟨bi, c, none⟩ (.int .i64 (v : Int))) :=
  ⟨h.one.store hc v, h.fpn.far (Blk.ne h.fpn h.one.fbi (by decide)) _, h.fbn.far h.ne.symm _, h.lbn, h.ne⟩
theorem C2.storeN (h : C2 w5 m pb bi pn bn f nu wr) {c : Nat} (hc : c < m) (v : Nat) : C2 w5 m pb bi pn bn f (fup nu c (v + 1)) (wr.setCell ⟨bn, c, none⟩ (.int .i64 (v : Int))) := by
  refine ⟨⟨h.one.bel.setCell h.lbn _, h.one.fpb.far (Blk.ne h.one.fpb h.fbn (by decide)) _, h.one.fbi.far h.ne _, h.one.lb⟩, h.fpn.far (Blk.ne h.fpn h.fbn (by decide)) _, ?_, h.lbn, h.ne⟩
  have := h.fbn.set_ c (.int .i64 (v : Int))
  rw [tabV_set _ hc] at this
  have e : fup (numV nu) c (.int .i64 (v : Int)) = numV (fup nu c (v + 1)) := by
    funext d
    unfold numV
    by_cases e : d = c
    · subst e; rw [fup_same, fup_same]; congr 1; omega
    · rw [fup_ne _ _ e, fup_ne _ _ e]
  rw [e] at this
  exact this
end
theorem natE_drop {es : List (Int × Int)} {i : Nat} {x : Int × Int} (h : es[i]? = some x) : natE (es.drop i) = (x.1.toNat, x.2.toNat) :: natE (es.drop (i + 1)) := by
  have hi := (List.getElem?_eq_some_iff.1 h).1
  have h2 := (List.getElem?_eq_some_iff.1 h).2
  rw [List.drop_eq_getElem_cons hi, h2]
  rfl
theorem edge_at {k : Nat} {es : List (Int × Int)} (h : es.all (edZ (k : Int)) = true) {i : Nat} {x : Int × Int} (hx : es[i]? = some x) : ∃ a b : Nat, x = ((a : Int), (b : Int)) ∧ a < k ∧ b < k := by
  have h1 := List.all_eq_true.1 h x (List.mem_of_getElem? hx)
  obtain ⟨x0, x1⟩ := x
  unfold edZ at h1
  simp at h1
  exact ⟨x0.toNat, x1.toNat, by rw [Int.toNat_of_nonneg (by omega), Int.toNat_of_nonneg (by omega)], by omega, by omega⟩
theorem find_cc {E : Ed} {cm nu : Nat → Nat} {k k0 : Nat} (h1 : k0 < k) (h2 : nu (cm k0) = 0) (h3 : inF E cm nu (cm k0) = 0) : ∃ kk, ((List.range k).map cm).findIdx? (ccP E cm nu) = some kk ∧ kk < k ∧ nu (cm kk) = 0 ∧ inF E cm nu (cm kk) = 0 ∧ ∀ i, i < kk → ¬ (nu (cm i) = 0 ∧ inF E cm nu (cm i) = 0) := by
  have hcc : ∀ c, ccP E cm nu c = true ↔ (nu c = 0 ∧ inF E cm nu c = 0) := fun c => by unfold ccP; simp
  cases e : ((List.range k).map cm).findIdx? (ccP E cm nu) with
  | none =>
    rw [List.findIdx?_eq_none_iff] at e
    have := e (cm k0) (List.mem_map.2 ⟨k0, List.mem_range.2 h1, rfl⟩)
    rw [(hcc _).2 ⟨h2, h3⟩] at this; cases this
  | some kk =>
    obtain ⟨hlt, hp, hno⟩ := List.findIdx?_eq_some_iff_getElem.1 e
    simp at hlt
    refine ⟨kk, rfl, hlt, ?_, ?_, fun i hi hh => ?_⟩
    · simp at hp; exact ((hcc _).1 hp).1
    · simp at hp; exact ((hcc _).1 hp).2
    · have := hno i hi
      simp at this
      rw [(hcc _).2 hh] at this; cases this
def CompsPost (w : World) (n : Int) (es : List (Int × Int)) (e : Ending) (w' : World) : Prop :=
  Below w.heap.size w w' ∧ ((mayG n es = false ∧ e = .returned (.tuple #[.slice none 0 0, .int .i64 1])) ∨
    (mayG n es = true ∧ ∃ y, e = .returned (.tuple #[y, .int .i64 0]) ∧ w'.ownsRow w.heap.size 3 1 y n.toNat (iV ((List.range n.toNat).map (cmp n.toNat (natE es))))))
set_option maxRecDepth 100000 in
set_option maxHeartbeats 25600000 in
theorem comps_ok (w : World) (n : Int) (ea : Option Addr) (es : List (Int × Int)) (c : Nat) (hm : es.length ≤ maxLen) (hc : Cells w ea (es.flatMap pairCells)) :
    Calls Try.prog 29 #[.int .i64 n, .slice ea es.length c] w (CompsPost w n es) := by
  have HR := Lib.hid (read_ok w n ea es c hm hc)
  obtain ⟨N, hN⟩ : ∃ N, es.length = N := ⟨_, rfl⟩
  have HN := Lib.hid hN; have HC := Lib.hid hc
  rw [hN] at hm HR ⊢
  clear hN hc
  obtain ⟨j0, hj0, yz0, yz1, yz2⟩ := info_parts int_infoC
  obtain ⟨i0, hi0, hz0, hz1, hz2⟩ := info_parts bool_info
  go_enter Try.func29, Try.ntmps29
  go_wp2_with fail
  refine HR.out.mono ?_
  rintro e w1 ⟨hb1, h | h⟩
  · obtain ⟨h1, rfl⟩ := h
    have HB1 := Lib.hid hb1; have H1 := Lib.hid h1
    go_wp2_with fail
    go_ret2
    exact ⟨HB1.out, .inl ⟨H1.out, rfl⟩⟩
  · obtain ⟨h1, ga, sl, rfl, hG⟩ := h
    have hn : 0 ≤ n ∧ n ≤ 1024 := by unfold mayG at h1; simp at h1; omega
    obtain ⟨k, rfl⟩ : ∃ k : Nat, n = (k : Int) := ⟨n.toNat, by omega⟩
    rw [Int.toNat_natCast] at hG ⊢
    have hmk := run_make_n (P := Try.prog) 25 3 j0 (.int .i64 0) 1 8 Try.underlying25 hj0 yz0 yz1 yz2 .i64 .i64 k k (Nat.le_refl _) (by omega) (by omega)
    have e0 : madeCells (Value.int .i64 0).cells (k * 1) = tabI k fun _ => 0 := made_rep k _
    rw [e0] at hmk
    have hmb := run_make_n (P := Try.prog) 79 4 i0 (.bool false) 1 1 Try.underlying79 hi0 hz0 hz1 hz2 .i64 .i64 k k (Nat.le_refl _) (by omega) (by omega)
    have e1 : madeCells (Value.bool false).cells (k * 1) = tabB k fun _ => false := made_rep k _
    rw [e1] at hmb
    clear e0 e1
    have HG := Lib.hid hG
    clear hG
    go_upto_region 4 with (fail)
    go_cut [8] (fun x wc => ∃ A : WA, x = .pointer (some ⟨A.p, 0, none⟩) ∧ WM wc w.heap.size w1.heap.size A k (gr (natE es)) sl (.slice none 0 0) TS.init ∧ Below w1.heap.size w1 wc)
    case first =>
      go_region
      all_goals
        obtain ⟨hb5, a1, a2, a3, a4, a5⟩ := al5 w1 _ _ _ _ _
        go_wp2_with fail
        go_meet
        case rel => exact ⟨⟨_, _, _, _, _, _⟩, rfl, WM.made HG.out hb5 a5 (by first | exact a1 | exact a2 | exact a3 | exact a4) (by first | exact a1 | exact a2 | exact a3 | exact a4) (by first | exact a1 | exact a2 | exact a3 | exact a4) (by first | exact a1 | exact a2 | exact a3 | exact a4) (by omega) (by omega), hb5⟩
    case rest =>
      obtain ⟨A, rfl, hW, hbc⟩ := hcut
      have HW := Lib.hid hW; have HBC := Lib.hid hbc; have HB1 := Lib.hid hb1; have HMAY := Lib.hid h1
      have hall : es.all (edZ (k : Int)) = true := by unfold mayG at h1; simp only [Bool.and_eq_true] at h1; exact h1.2
      have hN4 : N ≤ 16384 := by unfold mayG at h1; simp only [Bool.and_eq_true, decide_eq_true_eq] at h1; rw [← HN.out]; exact h1.1.2
      have hE0 := edOk_of hall
      rw [Int.toNat_natCast] at hE0
      have HE := Lib.hid hE0; have HALL := Lib.hid hall
      have hgl : ∀ v, (gr (natE es) v).length ≤ 16384 := fun v => by
        unfold gr
        rw [List.length_map]
        refine Nat.le_trans (List.length_filter_le _ _) ?_
        unfold natE
        rw [List.length_map, HN.out]; exact hN4
      have HGL := Lib.hid hgl
      obtain ⟨B, hB⟩ : ∃ B, B = w1.heap.size := ⟨_, rfl⟩
      rw [← hB] at HW HBC
      have hk : k ≤ 1024 := by omega
      clear hmb hW hbc hb1 h1 hall hE0 hgl HG hn
      go_wp2_with fail
      go_loopg [9, 44] k (fun mm y x wr => ∃ i stk s nx, mm + i = k ∧ x = .int .i64 (i : Int) ∧ WM wr w.heap.size B A k (gr (natE es)) sl stk s ∧ TI (gr (natE es)) k s [] nx ∧ (∀ v, v < i → s.met v ≠ 0) ∧ Below B w1 wr)
      case atStart => exact ⟨0, _, _, _, rfl, rfl, HW.out, TI.init _ _, fun v hv => absurd hv (Nat.not_lt_zero _), HBC.out⟩
      case round =>
        obtain ⟨i, stk, s, nx, hm2, rfl, hw, ht, hmet, hb⟩ := hrel
        have HM := Lib.hid hm2; have HWR := Lib.hid hw; have HT := Lib.hid ht; have HME := Lib.hid hmet; have HB := Lib.hid hb
        clear hm2 hw ht hmet hb HW HBC
        by_cases hi : i < k
        · have p1 : wr.cell? ⟨A.p, 1, none⟩ = some (.slice (some ⟨A.bm, 0, none⟩) k k) := HWR.out.blk.cell 1
          have pl := HWR.out.blk.lt
          have m1 := (HWR.out.met.cell i).trans (tabI_get _ hi)
          have ml := HWR.out.met.lt
          by_cases hmi : s.met i = 0
          · rw [hmi] at m1
            have HWK := Lib.hid (walk_ok wr w.heap.size B A k (gr (natE es)) sl stk s HWR.out nx HT.out i hi hmi hk (gr_lt HE.out) HGL.out (by rw [hB]; exact HB.out.size))
            clear hmi
            go_wp2_with fail
            refine HWK.out.mono ?_
            rintro e w2 ⟨rfl, hb2, stk2, s2, nx2, hw2, ht2, hf2, hmo⟩
            have HW2 := Lib.hid hw2; have HT2 := Lib.hid ht2; have HB2 := Lib.hid (HB.out.trans hb2)
            have HM2 : Hid (∀ v, v < i + 1 → s2.met v ≠ 0) := Lib.hid (fun v hv => by
              by_cases e : v = i
              · subst e; exact hf2
              · exact hmo v (HME.out v (by omega)))
            clear hb2 hw2 ht2 hf2 hmo
            go_wp2_with fail
            go_roundg (k - (i + 1))
            case measure => have := HM.out; omega
            case rel => exact ⟨i + 1, stk2, s2, nx2, by have := HM.out; omega, by go_num, HW2.out, HT2.out, HM2.out, HB2.out⟩
          · have hmz : ((s.met i : Int) == 0) = false := by rw [beq_eq_false_iff_ne]; omega
            have HM2 : Hid (∀ v, v < i + 1 → s.met v ≠ 0) := Lib.hid (fun v hv => by
              by_cases e : v = i
              · subst e; exact hmi
              · exact HME.out v (by omega))
            clear hmi
            go_wp2_with fail
            go_roundg (k - (i + 1))
            case measure => have := HM.out; omega
            case rel => exact ⟨i + 1, stk, s, nx, by have := HM.out; omega, by go_num, HWR.out, HT.out, HM2.out, HB.out⟩
        · have hik : i = k := by have := HM.out; omega
          have hse := HT.out.empty
          have HMET : Hid (∀ v, v < k → s.met v ≠ 0) := Lib.hid (by rw [← hik]; exact HME.out)
          have HCM : Hid (CmOk k (natE es) s.comp s.comps) := Lib.hid ⟨fun v hv => HT.out.dcm v hv (HMET.out v hv) (by rw [hse]; simp), fun u v hu hv => by
            rw [HT.out.ker u v hu hv (HMET.out u hu) (HMET.out v hv) (by rw [hse]; simp) (by rw [hse]; simp)]
            exact both_iff.symm, fun c hc => by
            obtain ⟨v, h1, _, _, h4⟩ := HT.out.hit c hc
            exact ⟨v, h1, h4⟩⟩
          have hmk2 : s.comps ≤ k := HT.out.comps_le
          obtain ⟨m, hmm⟩ : ∃ m, s.comps = m := ⟨_, rfl⟩
          obtain ⟨cm, hcm⟩ : ∃ cm, s.comp = cm := ⟨_, rfl⟩
          rw [hmm, hcm] at HCM
          rw [hmm] at hmk2
          have p6 : wr.cell? ⟨A.p, 6, none⟩ = some (.slice (some ⟨A.bc, 0, none⟩) k k) := HWR.out.blk.cell 6
          have p7 : wr.cell? ⟨A.p, 7, none⟩ = some (.int .i64 (s.comps : Int)) := HWR.out.blk.cell 7
          rw [hmm] at p7
          have pl := HWR.out.blk.lt
          have HPB : Hid (Blk wr A.p 81 (walkCells A k stk s)) := Lib.hid HWR.out.blk
          have HCB : Hid (Blk wr A.bc 3 (tabI k cm)) := Lib.hid (by rw [← hcm]; exact HWR.out.comp)
          have HS := Lib.hid hmm
          have hmkm := run_make_n (P := Try.prog) 25 3 j0 (.int .i64 0) 1 8 Try.underlying25 hj0 yz0 yz1 yz2 .i64 .i64 m m (Nat.le_refl _) (by omega) (by omega)
          rw [show madeCells (Value.int .i64 0).cells (m * 1) = tabI m fun _ => 0 from made_rep m _] at hmkm
          have hmf : ∀ (fn : Fn) (first cap : Array Value) (w : World), (Instr.makeFunc fn first cap).run Try.prog w = .ok (.func fn first cap) w := fun _ _ _ _ => rfl
          clear hse hmm hcm HWR HT HME HM hi hmk
          have hki := hik.symm
          clear hik
          subst hki
          go_upto_region 12 with (fail)
          have HC1 := Lib.hid (C1.start wr m)
          obtain ⟨w6, hw6⟩ : ∃ w6, w6 = ((wr.alloc (.cells (tabI m fun _ => 0) 3)).alloc (.cells #[.slice (some ⟨wr.heap.size, 0, none⟩) m m] 25)) := ⟨_, rfl⟩
          rw [← hw6] at HC1 ⊢
          obtain ⟨w5, hw5⟩ : ∃ w5, w5 = wr := ⟨_, rfl⟩
          rw [← hw5] at HC1 HPB HCB HB ⊢
          obtain ⟨bi, hbi⟩ : ∃ bi, bi = w5.heap.size := ⟨_, rfl⟩
          obtain ⟨pb, hpb⟩ : ∃ pb, pb = bi + 1 := ⟨_, rfl⟩
          have HC1 : Hid (C1 w5 m pb bi (fun _ => 0) w6) := Lib.hid (by rw [hpb, hbi]; exact HC1.out)
          rw [← hbi, ← hpb]
          have HBI : Hid (w5.heap.size = bi) := Lib.hid hbi.symm
          have HW05 : Hid (Below w.heap.size w w5) := Lib.hid (HB1.out.trans (HB.out.mono (by rw [hB]; exact HB1.out.size)))
          clear hw6 hw5 hbi hpb p6 p7 pl
          go_wp2_with fail
          go_loopg [66] N (fun mm x wr => ∃ i, mm + i = N ∧ x = .int .i64 (i : Int) ∧ C1 w5 m pb bi (fun b => inF (natE (es.take i)) cm (fun _ => 0) b) wr)
          case atStart => exact ⟨0, rfl, rfl, HC1.out⟩
          case round =>
            obtain ⟨i, hm2, rfl, hc1⟩ := hrel
            have HM := Lib.hid hm2; have HX1 := Lib.hid hc1
            clear hm2 hc1 HC1
            by_cases hi : i < N
            · obtain ⟨x, hx⟩ : ∃ x, es[i]? = some x := ⟨_, List.getElem?_eq_getElem (by rw [HN.out]; exact hi)⟩
              obtain ⟨a, b, rfl, hak, hbk⟩ := edge_at HALL.out hx
              obtain ⟨b0, off, hea, hbl, k0, k1⟩ := (HC.out.below (HW05.out.trans (HX1.out.bel.mono HW05.out.size))).pair hx
              subst hea
              have HNX := Lib.hid (natE_take hx)
              clear hx
              simp only [Int.toNat_natCast] at HNX k0 k1
              have hpw := HPB.out.below HX1.out.bel HPB.out.lt
              have hcw := HCB.out.below HX1.out.bel HCB.out.lt
              have p6 : wr.cell? ⟨A.p, 6, none⟩ = some (.slice (some ⟨A.bc, 0, none⟩) k k) := hpw.cell 6
              have pl := hpw.lt
              have ca := (hcw.cell a).trans (tabI_get _ hak)
              have cb := (hcw.cell b).trans (tabI_get _ hbk)
              have cl := hcw.lt
              clear hpw hcw
              by_cases heq : cm a = cm b
              · have hd : ((cm a : Int) != (cm b : Int)) = false := by rw [bne_eq_false_iff_eq, heq]
                have HXN : Hid (C1 w5 m pb bi (fun b => inF (natE (es.take (i + 1))) cm (fun _ => 0) b) (wr.alloc (.cells #[.int .i64 (a : Int), .int .i64 (b : Int)] 64))) := Lib.hid (by
                  rw [HNX.out]
                  have e := inF_first (natE (es.take i)) cm (a, b) m
                  rw [if_pos heq] at e
                  rw [e]; exact HX1.out.below ((Below.refl _ _).alloc (Nat.le_refl _) _))
                clear heq
                go_wp2_with fail
                go_quiet (fail)
                go_wp2_with fail
                go_roundg (N - (i + 1))
                case measure => have := HM.out; omega
                case rel => exact ⟨i + 1, by have := HM.out; omega, by go_num, HXN.out.below ⟨rfl, rfl, rfl, Nat.le_refl _, fun _ _ => rfl⟩⟩
              · have hd : ((cm a : Int) != (cm b : Int)) = true := by rw [bne_iff_ne]; omega
                have hcb : cm b < m := HCM.out.lt b hbk
                obtain ⟨fv, hfv⟩ : ∃ fv, inF (natE (es.take i)) cm (fun _ => 0) (cm b) = fv := ⟨_, rfl⟩
                have q0 : wr.cell? ⟨pb, 0, none⟩ = some (.slice (some ⟨bi, 0, none⟩) m m) := HX1.out.fpb.cell 0
                have ql := HX1.out.fpb.lt
                have f0 := (HX1.out.fbi.cell (cm b)).trans (tabI_get _ hcb)
                simp only [hfv] at f0
                have ff := HX1.out.fbi.frozen (cm b)
                have fl := HX1.out.fbi.lt
                have HXN : Hid (C1 w5 m pb bi (fun b => inF (natE (es.take (i + 1))) cm (fun _ => 0) b) ((wr.alloc (.cells #[.int .i64 (a : Int), .int .i64 (b : Int)] 64)).setCell ⟨bi, cm b, none⟩ (.int .i64 ((fv : Int) + 1)))) := Lib.hid (by
                  rw [HNX.out]
                  have e := inF_first (natE (es.take i)) cm (a, b) m
                  rw [if_neg heq] at e
                  rw [e, show ((fv : Int) + 1) = ((fv + 1 : Nat) : Int) from by omega]
                  simp only [hfv]
                  exact (HX1.out.below ((Below.refl _ _).alloc (Nat.le_refl _) _)).store hcb (fv + 1))
                have hfle : fv ≤ 16384 := by
                  rw [← hfv]
                  refine Nat.le_trans (inF_le _ _ _ _) ?_
                  unfold natE
                  rw [List.length_map, List.length_take, HN.out]; omega
                clear heq hfv
                go_wp2_with fail
                go_quiet (fail)
                go_wp2_with fail
                go_roundg (N - (i + 1))
                case measure => have := HM.out; omega
                case rel => exact ⟨i + 1, by have := HM.out; omega, by go_num, HXN.out.below ⟨rfl, rfl, rfl, Nat.le_refl _, fun _ _ => rfl⟩⟩
            · have hiN : i = N := by have := HM.out; omega
              have HX2 : Hid (C1 w5 m pb bi (inF (natE es) cm fun _ => 0) wr) := Lib.hid (by
                have h := HX1.out
                rw [List.take_of_length_le (by rw [HN.out]; omega)] at h
                exact h)
              clear HX1 HM hi hmkm
              obtain ⟨w7, hw7⟩ : ∃ w7, w7 = wr.alloc (.cells #[.int .i64 (-1)] 3) := ⟨_, rfl⟩
              have HX3 : Hid (C1 w5 m pb bi (inF (natE es) cm fun _ => 0) w7) := Lib.hid (by rw [hw7]; exact HX2.out.below ((Below.refl _ _).alloc (Nat.le_refl _) _))
              have HRP : Hid (Calls Try.prog 50 #[.slice (some ⟨wr.heap.size, 0, none⟩) 1 1, .int .i64 (m : Int)] w7 (RepPost w7 (.int .i64 (-1)) m)) := Lib.hid (repeat_ok w7 _ 1 (-1) (by rw [hw7]; exact Cells.lit wr _ _) m (by omega))
              have p7 : wr.cell? ⟨A.p, 7, none⟩ = some (.int .i64 (s.comps : Int)) := (HPB.out.below HX2.out.bel HPB.out.lt).cell 7
              rw [HS.out] at p7
              have pl := (HPB.out.below HX2.out.bel HPB.out.lt).lt
              have HW7 := Lib.hid hw7
              clear hw7
              go_wp2_with fail
              rw [← HW7.out]
              refine HRP.out.mono ?_
              rintro e w8 ⟨bn, rfl, hbn, hbs, hb8⟩
              have hw58 : w5.heap.size ≤ w8.heap.size := Nat.le_trans HX3.out.bel.size hb8.size
              obtain ⟨pn, hpn⟩ : ∃ pn, pn = w8.heap.size := ⟨_, rfl⟩
              obtain ⟨w9, hw9⟩ : ∃ w9, w9 = w8.alloc (.cells #[.slice (some ⟨bn, 0, none⟩) m m] 25) := ⟨_, rfl⟩
              have HC2 : Hid (C2 w5 m pb bi pn bn (inF (natE es) cm fun _ => 0) (fun _ => 0) w9) := Lib.hid (by
                rw [hw9, hpn]
                refine ⟨(HX3.out.below hb8).below ((Below.refl _ _).alloc (Nat.le_refl _) _), Blk.new_ w8 _ _, hbn.alloc_ _, Nat.le_trans HX3.out.bel.size hbs, ?_⟩
                have := HX3.out.fbi.lt
                omega)
              have HW9 := Lib.hid hw9; have HPN := Lib.hid hpn
              clear hw9 hpn hbn hbs hb8 hw58 p7 pl HRP HX3 HX2 HW7
              have p7 : w9.cell? ⟨A.p, 7, none⟩ = some (.int .i64 (s.comps : Int)) := (HPB.out.below HC2.out.one.bel HPB.out.lt).cell 7
              rw [HS.out] at p7
              have pl := (HPB.out.below HC2.out.one.bel HPB.out.lt).lt
              go_upto_region 20 with (fail)
              rw [← HPN.out, ← HW9.out]
              go_wp2_with fail
              go_loopg [106] m (fun mm x wr => ∃ j nu, mm + j = m ∧ x = .int .i64 (j : Int) ∧ NuOk k (natE es) cm m j nu ∧ C2 w5 m pb bi pn bn (inF (natE es) cm nu) nu wr)
              case atStart => exact ⟨0, _, rfl, rfl, NuOk.zero _ _ _ _, HC2.out⟩
              case round =>
                obtain ⟨j, nu, hm3, rfl, hnu, hc2⟩ := hrel
                have HM3 := Lib.hid hm3; have HNU := Lib.hid hnu; have HX := Lib.hid hc2
                clear hm3 hnu hc2 HC2 p7 pl
                by_cases hj : j < m
                · obtain ⟨k0, h1, h2, h3⟩ := some_in HCM.out HE.out HNU.out hj
                  have hpw := HPB.out.below HX.out.one.bel HPB.out.lt
                  have hcw := HCB.out.below HX.out.one.bel HCB.out.lt
                  have hidx : ∃ kk, ((List.range k).map cm).findIdx? (ccP (natE es) cm nu) = some kk ∧ kk < k ∧ nu (cm kk) = 0 ∧ inF (natE es) cm nu (cm kk) = 0 ∧ ∀ i, i < kk → ¬ (nu (cm i) = 0 ∧ inF (natE es) cm nu (cm i) = 0) := find_cc h1 h2 h3
                  obtain ⟨kk, hkk, hkk2, hkk3, hkk4, hkk5⟩ := hidx
                  have HPK := Lib.hid (pick_in HCM.out HE.out HNU.out hkk2 hkk3 hkk4 hkk5)
                  have HIX : Hid (Calls Try.prog 51 #[.slice (some ⟨A.bc, 0, none⟩) k k, .func (.func 52) #[] #[.pointer (some ⟨pn, 0, none⟩), .pointer (some ⟨pb, 0, none⟩)]] wr fun e w' => e = .returned (.int .i64 (kk : Int)) ∧ wr = w') := Lib.hid (by
                    have h := index_ok wr (some ⟨A.bc, 0, none⟩) ((List.range k).map cm) k (by simp; omega) (by rw [← tabI_list]; exact hcw.cells) 52 #[.pointer (some ⟨pn, 0, none⟩), .pointer (some ⟨pb, 0, none⟩)] call_cc (ccP (natE es) cm nu) (fun x hx => by
                      obtain ⟨v, hv, rfl⟩ := List.mem_map.1 hx
                      exact cc_ok wr pn pb bn bi m _ nu (cm v) (HCM.out.lt v (List.mem_range.1 hv)) HX.out.fpn HX.out.one.fpb HX.out.fbn HX.out.one.fbi)
                    rw [List.length_map, List.length_range] at h
                    unfold idxZ at h
                    rw [hkk] at h
                    exact h)
                  have HK3 := Lib.hid hkk3; have HK4 := Lib.hid hkk4
                  have p6 : wr.cell? ⟨A.p, 6, none⟩ = some (.slice (some ⟨A.bc, 0, none⟩) k k) := hpw.cell 6
                  have pl := hpw.lt
                  have ck := (hcw.cell kk).trans (tabI_get _ hkk2)
                  have cl := hcw.lt
                  have hcm := HCM.out.lt kk hkk2
                  obtain ⟨cc, hcc⟩ : ∃ cc, cm kk = cc := ⟨_, rfl⟩
                  rw [hcc] at ck hcm HK3 HK4
                  have HCC := Lib.hid hcc
                  have q0 : wr.cell? ⟨pn, 0, none⟩ = some (.slice (some ⟨bn, 0, none⟩) m m) := HX.out.fpn.cell 0
                  have ql := HX.out.fpn.lt
                  have f0 := (HX.out.fbn.cell cc).trans (tabV_get _ hcm)
                  have ff := HX.out.fbn.frozen cc
                  have fl := HX.out.fbn.lt
                  have HX2 := Lib.hid (HX.out.storeN hcm j)
                  clear h1 h2 h3 hpw hcw hkk hkk3 hkk4 hkk5 hcc
                  go_wp2_with fail
                  refine HIX.out.mono ?_
                  rintro e w' ⟨rfl, rfl⟩
                  go_upto_region 26 with (fail)
                  obtain ⟨w10, hw10⟩ : ∃ w10, w10 = wr.setCell ⟨bn, cc, none⟩ (.int .i64 (j : Int)) := ⟨_, rfl⟩
                  rw [← hw10] at HX2 ⊢
                  clear hw10 q0 ql f0 ff fl p6 pl ck cl HIX HX
                  go_wp2_with fail
                  obtain ⟨nu', hnu'⟩ : ∃ nu', nu' = fup nu cc (j + 1) := ⟨_, rfl⟩
                  rw [← hnu'] at HX2
                  have HN2 := Lib.hid hnu'
                  clear hnu'
                  go_loopg [128] N (fun mm x wr => ∃ i, mm + i = N ∧ x = .int .i64 (i : Int) ∧ C2 w5 m pb bi pn bn (mid (natE (es.take i)) (natE (es.drop i)) cm nu nu') nu' wr)
                  case atStart => exact ⟨0, rfl, rfl, by rw [show natE (es.take 0) = [] from rfl, List.drop_zero, mid_start]; exact HX2.out⟩
                  case round =>
                    obtain ⟨i, hm2, rfl, hc2⟩ := hrel
                    have HM := Lib.hid hm2; have HX := Lib.hid hc2
                    clear hm2 hc2 HX2
                    by_cases hi : i < N
                    · obtain ⟨x, hx⟩ : ∃ x, es[i]? = some x := ⟨_, List.getElem?_eq_getElem (by rw [HN.out]; exact hi)⟩
                      obtain ⟨a, b, rfl, hak, hbk⟩ := edge_at HALL.out hx
                      obtain ⟨b0, off, hea, hbl, e0, e1⟩ := (HC.out.below (HW05.out.trans (HX.out.one.bel.mono HW05.out.size))).pair hx
                      subst hea
                      have hnx := natE_take hx
                      have hdx := natE_drop hx
                      simp only [Int.toNat_natCast] at hnx hdx e0 e1
                      have hstep := mid_step (natE (es.take i)) (natE (es.drop (i + 1))) cm nu cc (j + 1) (a, b) HK3.out (by omega)
                      rw [← hnx, ← hdx, ← HN2.out] at hstep
                      have HST := Lib.hid hstep
                      have hpos : cm a = cc → cm b ≠ cc → 1 ≤ mid (natE (es.take i)) (natE (es.drop i)) cm nu nu' (cm b) := fun h1 h2 => by
                        rw [hdx]
                        exact mid_pos _ _ _ _ _ (a, b) (by unfold inB; simp [h1, HK3.out]; exact fun h => h2 h.symm)
                      have HPOS := Lib.hid hpos
                      clear hx hnx hdx hstep hpos
                      have hpw := HPB.out.below HX.out.one.bel HPB.out.lt
                      have hcw := HCB.out.below HX.out.one.bel HCB.out.lt
                      have p6 : wr.cell? ⟨A.p, 6, none⟩ = some (.slice (some ⟨A.bc, 0, none⟩) k k) := hpw.cell 6
                      have pl := hpw.lt
                      have ca := (hcw.cell a).trans (tabI_get _ hak)
                      have cb := (hcw.cell b).trans (tabI_get _ hbk)
                      have cl := hcw.lt
                      have HXA := Lib.hid (HX.out.below ((Below.refl wr.heap.size wr).alloc (Nat.le_refl _) (.cells #[.int .i64 (a : Int), .int .i64 (b : Int)] 64)))
                      clear hpw hcw
                      by_cases hac : cm a = cc
                      · have hd1 : ((cm a : Int) == (cc : Int)) = true := by rw [beq_iff_eq, hac]
                        by_cases hbc : cm b = cc
                        · have hd2 : ((cm b : Int) != (cc : Int)) = false := by rw [bne_eq_false_iff_eq, hbc]
                          have HF : Hid (mid (natE (es.take (i + 1))) (natE (es.drop (i + 1))) cm nu nu' = mid (natE (es.take i)) (natE (es.drop i)) cm nu nu') := Lib.hid (by rw [HST.out, if_neg (fun h => h.2 hbc)])
                          clear hac hbc
                          go_wp2_with fail
                          go_quiet (fail)
                          go_wp2_with fail
                          go_roundg (N - (i + 1))
                          case measure => have := HM.out; omega
                          case rel => exact ⟨i + 1, by have := HM.out; omega, by go_num, by rw [HF.out]; exact HXA.out.below ⟨rfl, rfl, rfl, Nat.le_refl _, fun _ _ => rfl⟩⟩
                        · have hd2 : ((cm b : Int) != (cc : Int)) = true := by rw [bne_iff_ne]; omega
                          have hcb : cm b < m := HCM.out.lt b hbk
                          obtain ⟨fv, hfv⟩ : ∃ fv, mid (natE (es.take i)) (natE (es.drop i)) cm nu nu' (cm b) = fv + 1 := ⟨_, (Nat.sub_add_cancel (HPOS.out hac hbc)).symm⟩
                          have HF : Hid (mid (natE (es.take (i + 1))) (natE (es.drop (i + 1))) cm nu nu' = fup (mid (natE (es.take i)) (natE (es.drop i)) cm nu nu') (cm b) fv) := Lib.hid (by rw [HST.out, if_pos ⟨hac, hbc⟩, hfv]; rfl)
                          have q0 : wr.cell? ⟨pb, 0, none⟩ = some (.slice (some ⟨bi, 0, none⟩) m m) := HX.out.one.fpb.cell 0
                          have ql := HX.out.one.fpb.lt
                          have f0 := (HX.out.one.fbi.cell (cm b)).trans (tabI_get _ hcb)
                          rw [hfv, show ((fv + 1 : Nat) : Int) = (fv : Int) + 1 from by omega] at f0
                          have ff := HX.out.one.fbi.frozen (cm b)
                          have fl := HX.out.one.fbi.lt
                          have hfle : fv ≤ 32768 := by
                            have h1 := inF_le (natE (es.take i)) cm nu' (cm b)
                            have h2 := inF_le (natE (es.drop i)) cm nu (cm b)
                            unfold mid at hfv
                            unfold natE at h1 h2
                            rw [List.length_map, List.length_take, HN.out] at h1
                            rw [List.length_map, List.length_drop, HN.out] at h2
                            have e3 : inF (natE (es.take i)) cm nu' (cm b) ≤ i := Nat.le_trans h1 (Nat.min_le_left _ _)
                            have e4 : inF (natE (es.drop i)) cm nu (cm b) ≤ N - i := h2
                            omega
                          have HXS := Lib.hid (HXA.out.storeI hcb fv)
                          clear hac hbc hfv
                          go_wp2_with fail
                          go_quiet (fail)
                          go_wp2_with fail
                          go_region
                          go_wp2_with fail
                          go_roundg (N - (i + 1))
                          case measure => have := HM.out; omega
                          case rel => exact ⟨i + 1, by have := HM.out; omega, by go_num, by rw [HF.out]; exact HXS.out.below ⟨rfl, rfl, rfl, Nat.le_refl _, fun _ _ => rfl⟩⟩
                      · have hd1 : ((cm a : Int) == (cc : Int)) = false := by rw [beq_eq_false_iff_ne]; omega
                        have HF : Hid (mid (natE (es.take (i + 1))) (natE (es.drop (i + 1))) cm nu nu' = mid (natE (es.take i)) (natE (es.drop i)) cm nu nu') := Lib.hid (by rw [HST.out, if_neg (fun h => hac h.1)])
                        clear hac
                        go_wp2_with fail
                        go_quiet (fail)
                        go_wp2_with fail
                        go_roundg (N - (i + 1))
                        case measure => have := HM.out; omega
                        case rel => exact ⟨i + 1, by have := HM.out; omega, by go_num, by rw [HF.out]; exact HXA.out.below ⟨rfl, rfl, rfl, Nat.le_refl _, fun _ _ => rfl⟩⟩
                    · have hiN : i = N := by have := HM.out; omega
                      have HX3 : Hid (C2 w5 m pb bi pn bn (inF (natE es) cm nu') nu' wr) := Lib.hid (by
                        have h := HX.out
                        rw [List.take_of_length_le (by rw [HN.out]; omega), List.drop_eq_nil_of_le (by rw [HN.out]; omega), show natE [] = [] from rfl, mid_end] at h
                        exact h)
                      have HNN : Hid (NuOk k (natE es) cm m (j + 1) nu') := Lib.hid (by
                        rw [HN2.out, ← HCC.out]
                        exact HNU.out.next HCM.out hkk2 (by rw [HCC.out]; exact HK3.out) HPK.out)
                      clear HX
                      go_wp2_with fail
                      go_roundg (m - (j + 1))
                      case measure => have := HM3.out; omega
                      case rel => exact ⟨j + 1, nu', by have := HM3.out; omega, by go_num, HNN.out, HX3.out⟩
                · have hjm : j = m := by have := HM3.out; omega
                  have HNN : Hid (NuOk k (natE es) cm m m nu) := Lib.hid (by have h := HNU.out; rw [hjm] at h; exact h)
                  clear hjm HNU HM3
                  have p6 : wr.cell? ⟨A.p, 6, none⟩ = some (.slice (some ⟨A.bc, 0, none⟩) k k) := (HPB.out.below HX.out.one.bel HPB.out.lt).cell 6
                  have pl := (HPB.out.below HX.out.one.bel HPB.out.lt).lt
                  obtain ⟨w11, hw11⟩ : ∃ w11, w11 = wr := ⟨_, rfl⟩
                  rw [← hw11] at HX p6 pl ⊢
                  clear hw11
                  have HW11 : Hid (Below w.heap.size w w11) := Lib.hid (HW05.out.trans (HX.out.one.bel.mono HW05.out.size))
                  go_wp2_with fail
                  go_loopg [21, 174] k (fun mm y x wr => ∃ i, mm + i = k ∧ x = .int .i64 (i : Int) ∧ wr.ownsRow w11.heap.size 3 1 y i (iV ((List.range i).map (cmp k (natE es)))) ∧ Below w11.heap.size w11 wr)
                  case atStart => exact ⟨0, rfl, rfl, World.ownsRow_nil _ _ _ _, Below.refl _ _⟩
                  case round =>
                    obtain ⟨i, hm2, rfl, hrow, hb⟩ := hrel
                    have HM := Lib.hid hm2; have HROW := Lib.hid hrow; have HB5 := Lib.hid hb
                    have hsz5 := hb.size
                    clear hm2 hrow hb
                    by_cases hi : i < k
                    · have hcw := (HCB.out.below HX.out.one.bel HCB.out.lt).below HB5.out (HCB.out.below HX.out.one.bel HCB.out.lt).lt
                      have hX5 := HX.out.below HB5.out
                      have ci := (hcw.cell i).trans (tabI_get _ hi)
                      have cl := hcw.lt
                      have hcm := HCM.out.lt i hi
                      have hdn := HNN.out.done HE.out HCM.out hi
                      have q0 : wr.cell? ⟨pn, 0, none⟩ = some (.slice (some ⟨bn, 0, none⟩) m m) := hX5.fpn.cell 0
                      have ql := hX5.fpn.lt
                      have f0 := (hX5.fbn.cell (cm i)).trans (tabV_get _ hcm)
                      have fl := hX5.fbn.lt
                      unfold numV at f0
                      obtain ⟨cv, hcv⟩ : ∃ cv, cmp k (natE es) i = cv := ⟨_, rfl⟩
                      have ev : ((nu (cm i) : Int) - 1) = (cv : Int) := by have h1 := hdn.1; have h2 := hdn.2; omega
                      rw [ev] at f0
                      have HCV := Lib.hid hcv
                      clear hcw hX5 hdn hcv ev
                      go_wp2_with (at_builtin; refine wpList_append_sep rfl (.tmp 178) (.tmp 183) 25 rfl w11.heap.size 3 j0 (.int .i64 0) 1 8 Try.underlying25 hj0 yz0 yz1 yz2 rfl (by decide) _ i _ rfl (HROW.out.alloc _) wr.heap.size 0 1 1 [.int .i64 (cv : Int)] rfl rfl (lit_one _ _ _) (ones_int _) (by unfold maxLen; omega) (by omega) (by simp; omega) ?_)
                      intro y7 w7 hown hg7 hsep
                      have HB7 : Hid (Below w11.heap.size w11 w7) := Lib.hid ((HB5.out.alloc hsz5 (.cells #[.int .i64 (cv : Int)] 3)).grown hg7 (by simp; omega) (fun b hb => (HROW.out.lt b hb).1))
                      have HR7 := Lib.hid hown
                      clear hown hg7 hsep
                      go_wp2_with fail
                      go_roundg (k - (i + 1))
                      case measure => have := HM.out; omega
                      case rel => exact ⟨i + 1, by have := HM.out; omega, by go_num, by rw [List.range_succ, List.map_append, iV_app, List.map_cons, List.map_nil, HCV.out]; exact HR7.out, HB7.out⟩
                    · have hik : i = k := by have := HM.out; omega
                      subst hik
                      go_wp2_with fail
                      go_ret2
                      refine ⟨HW11.out.trans (HB5.out.mono HW11.out.size), .inr ⟨HMAY.out, _, rfl, ?_⟩⟩
                      rw [Int.toNat_natCast]
                      exact own_base HROW.out HW11.out.size
end Go.Proofs.Ytbancojknahdgaa
