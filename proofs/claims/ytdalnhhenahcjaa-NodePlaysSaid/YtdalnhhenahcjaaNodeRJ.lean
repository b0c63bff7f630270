/- The reference's Sweep. -/
import Derived.Test.YtdalnhhenahcjaaNodeRG
namespace Go.Proofs.Ytdalnhhenahcjaa.NP
/-- what is not marked is cleared, below a number -/
def swq (l : List Nd) (s : Nat → Bool) (k : Nat) : List Nd := (List.range l.length).map fun j => if decide (j < k) && !s j then Nd.no else nd l j
theorem len_swq (l : List Nd) (s : Nat → Bool) (k : Nat) : (swq l s k).length = l.length := by simp [swq]
theorem nd_swq (l : List Nd) (s : Nat → Bool) (k j : Nat) : nd (swq l s k) j = if decide (j < k) && !s j then Nd.no else nd l j := by
  rcases Nat.lt_or_ge j l.length with h | h
  · exact nd_eq (by simp [swq, h])
  · rw [nd_ge (by rw [len_swq]; exact h), nd_ge h]; split <;> rfl
theorem swq_zero (l : List Nd) (s : Nat → Bool) : swq l s 0 = l := list_nd (len_swq _ _ _) fun j => by rw [nd_swq]; simp
theorem nd_swq_k (l : List Nd) (s : Nat → Bool) (k : Nat) : nd (swq l s k) k = nd l k := by rw [nd_swq]; simp
theorem swq_keep {l : List Nd} {s : Nat → Bool} {k : Nat} (h : s k = true ∨ nd l k = Nd.no) : swq l s (k + 1) = swq l s k := list_nd (by rw [len_swq, len_swq]) fun j => by
  rw [nd_swq, nd_swq]
  by_cases e : j = k
  · subst e
    rcases h with h | h
    · simp [h]
    · rw [h]; split <;> split <;> rfl
  · have : decide (j < k + 1) = decide (j < k) := by
      rcases Nat.lt_or_ge j k with h | h
      · rw [decide_eq_true h, decide_eq_true (by omega)]
      · rw [decide_eq_false (by omega), decide_eq_false (by omega)]
    rw [this]
theorem swq_clear {l : List Nd} {s : Nat → Bool} {k : Nat} (hk : k < l.length) (h : s k = false) : putN (swq l s k) k Nd.no = swq l s (k + 1) := by
  have hk' : k < (swq l s k).length := by rw [len_swq]; exact hk
  refine list_nd (by rw [len_put (Nat.le_of_lt hk'), if_pos hk', len_swq, len_swq]) fun j => ?_
  rw [nd_put (Nat.le_of_lt hk'), nd_swq, nd_swq]
  by_cases e : j = k
  · subst e; simp [h]
  · rw [if_neg e]
    have : decide (j < k + 1) = decide (j < k) := by
      rcases Nat.lt_or_ge j k with h | h
      · rw [decide_eq_true h, decide_eq_true (by omega)]
      · rw [decide_eq_false (by omega), decide_eq_false (by omega)]
    rw [this]
theorem swq_cnt {l : List Nd} {s : Nat → Bool} {k : Nat} (hk : k < l.length) (hb : (nd l k).is = true) : cnt (putN (swq l s k) k Nd.no) + 1 = cnt (swq l s k) := by
  have hk' : k < (swq l s k).length := by rw [len_swq]; exact hk
  have := cnt_set hk' Nd.no
  rw [nd_swq_k, hb] at this
  unfold putN
  rw [if_pos hk']
  simp [Nd.no] at this ⊢
  omega
theorem swq_end {S : NS} (hW : Wf S) {s : Nat → Bool} (hm : MarkedTo S.l S.l.length s) : swq S.l s S.l.length = swp S.l s 1 := list_nd (by rw [len_swq, len_swp]) fun j => by
  rw [nd_swq, nd_swp]
  cases hs : s j with
  | true => simp
  | false =>
    have h1 : 1 < j := by
      rcases Nat.lt_or_ge 1 j with h | h
      · exact h
      · have := Marked.low hW hm (show j < 2 by omega); rw [hs] at this; cases this
    rcases Nat.lt_or_ge j S.l.length with h | h
    · simp [h, h1]
    · rw [nd_ge h]; split <;> split <;> rfl
theorem MarkedTo.uniq {l : List Nd} {n : Nat} {s t : Nat → Bool} (h1 : MarkedTo l n s) (h2 : MarkedTo l n t) : s = t := by
  funext j
  have := (h1 j).trans (h2 j).symm
  cases hs : s j <;> cases ht : t j <;> simp_all
end Go.Proofs.Ytdalnhhenahcjaa.NP
namespace Go.Proofs.Ytdalnhhenahcjaa
open Go.RowKit HP NP
theorem Blk.st5_far {w : World} {z b : Nat} {S : NS} {ra : Option Addr} {rc : Nat} {t : TypeId} {cs : Array Value} (h : Blk w b t cs) (hne : b ≠ z) : Blk (st5 w z S ra rc) b t cs :=
  ((((h.far (p := ⟨z, 0, none⟩) hne _).far (p := ⟨z, 1, none⟩) hne _).far (p := ⟨z, 2, none⟩) hne _).far (p := ⟨z, 3, none⟩) hne _).far (p := ⟨z, 4, none⟩) hne _
theorem Blk.st5_ {w : World} {z : Nat} {S S0 : NS} {ra ra0 : Option Addr} {rc rc0 : Nat} (h : Blk w z 75 (rbox S0 ra0 rc0)) : Blk (st5 w z S ra rc) z 75 (rbox S ra rc) :=
  ((((h.set_ 0 _).set_ 1 _).set_ 2 _).set_ 3 _).set_ 4 _
theorem rep_st5 {w : World} {z N : Nat} {S S' : NS} {ra : Option Addr} {rc : Nat} (hv : S'.vars = S.vars) (hb : S'.budget = S.budget) (hm : S'.made = S.made) (hs : S'.sweeps = S.sweeps) (hl : S'.l.length = N) :
    ((((w.setCell ⟨z, 0, none⟩ (.int .i64 (S.vars : Int))).setCell ⟨z, 1, none⟩ (.int .i64 (S.budget : Int))).setCell ⟨z, 2, none⟩ (.int .i64 (wr64 S.made))).setCell ⟨z, 3, none⟩ (.int .i64 (wr64 S.sweeps))).setCell ⟨z, 4, none⟩ (.slice ra N rc) = st5 w z S' ra rc := by
  unfold st5; rw [hv, hb, hm, hs, hl]
theorem cell_far {w : World} {b z i j : Nat} {u v : Value} (h : w.cell? ⟨b, i, none⟩ = some u) (hne : b ≠ z) : (w.setCell ⟨z, j, none⟩ v).cell? ⟨b, i, none⟩ = some u := by
  have : (w.setCell ⟨z, j, none⟩ v).heap[b]? = w.heap[b]? := Below.heap_setCell w ⟨z, j, none⟩ v b hne
  simp only [World.cell?, this] at h ⊢
  exact h
theorem marks_far {w : World} {z n : Nat} {s : Nat → Bool} {a ra0 ra : Option Addr} {rc0 rc : Nat} {S0 S : NS} (hb : Blk w z 75 (rbox S0 ra0 rc0)) (h : Cells w a (mkL n s)) : Cells (st5 w z S ra rc) a (mkL n s) := fun hne => by
  obtain ⟨b, off, e, hlt, hh⟩ := h hne
  have hn : 0 < n := by
    rcases Nat.eq_zero_or_pos n with h0 | h0
    · subst h0; exact (hne rfl).elim
    · exact h0
  have h0 := hh 0 _ (mkL_at s hn)
  have hbz : b ≠ z := by
    rintro rfl
    rw [hb.cell] at h0
    generalize off + 0 = i at h0
    match i, h0 with
    | 0, h0 => cases h0
    | 1, h0 => cases h0
    | 2, h0 => cases h0
    | 3, h0 => cases h0
    | 4, h0 => cases h0
    | i + 5, h0 => simp at h0
  have hb5 : Below 0 w (st5 w z S ra rc) := below5 (Below.refl 0 _) (Nat.zero_le _)
  exact ⟨b, off, e, Nat.lt_of_lt_of_le hlt hb5.size, fun i v hv => cell_far (cell_far (cell_far (cell_far (cell_far (hh i v hv) hbz) hbz) hbz) hbz) hbz⟩
def RSweepPost (S : NS) (w : World) (e : Ending) (w' : World) : Prop :=
  (∃ s ra rc, MarkedTo S.l S.l.length s ∧ e = .returned (.tuple #[rsV { S with l := swp S.l s 1, sweeps := S.sweeps + 1 } ra rc, .int .i64 ((cnt S.l - cnt (swp S.l s 1) : Nat) : Int)]) ∧ RSt w' { S with l := swp S.l s 1, sweeps := S.sweeps + 1 } ra rc) ∧ Below w.heap.size w w'
/-- the first loop: behind k rounds -/
def RswA (w wr : World) (S : NS) (ra : Option Addr) (rc : Nat) (k : Nat) (x : Value) : Prop :=
  ∃ s a c, MarkedTo S.l k s ∧ x = .slice a S.l.length c ∧ Cells wr a (mkL S.l.length s) ∧ S.l.length ≤ c ∧ c ≤ maxLen ∧ Below w.heap.size w wr ∧ Blk wr w.heap.size 75 (rbox S ra rc) ∧ Blk wr (w.heap.size + 1) 75 rzero
/-- the second loop -/
def RswB (w wr : World) (S : NS) (s : Nat → Bool) (a : Option Addr) (k : Nat) (gone : Nat) : Prop :=
  ∃ ra rc, RSt wr { S with l := swq S.l s k } ra rc ∧ gone + cnt (swq S.l s k) = cnt S.l ∧ Cells wr a (mkL S.l.length s) ∧ Below w.heap.size w wr ∧ Blk wr w.heap.size 75 (rbox { S with l := swq S.l s k } ra rc) ∧ Blk wr (w.heap.size + 1) 75 rzero
set_option maxRecDepth 100000 in
set_option maxHeartbeats 4000000 in
theorem rsweep_ok (w : World) (S : NS) (hW : Wf S) (ra : Option Addr) (rc : Nat) (h : RSt w S ra rc) :
    Calls Try.prog 60 #[rsV S ra rc] w (RSweepPost S w) := by
  have hlm := hW.lm
  have hl2 := hW.two
  have HR := Lib.hid h; have HW := Lib.hid hW
  obtain ⟨hbel, hbx, hzb⟩ := rw2_all w S ra rc
  have HB2 := Lib.hid hbel; have HBX := Lib.hid hbx; have HZB := Lib.hid hzb
  obtain ⟨b0, b1, b2, b3, b4, bl⟩ := blk5 hbx
  have hmk := made_bools S.l.length hlm
  clear h hbel hbx hzb hW
  go_enter Try.func60, Try.ntmps60
  go_wp2_with fail
  clear hmk b0 b1 b2 b3 b4 bl
  go_loopg [4, 5] S.l.length (fun m y x wr => ∃ k : Nat, m + k = S.l.length ∧ x = .int .i64 (k : Int) ∧ RswA w wr S ra rc k y)
  case atStart =>
    have hba : Below w.heap.size w ((rw2 w S ra rc).alloc (.cells (madeCells #[.bool false] S.l.length) 4)) := HB2.out.alloc HB2.out.size _
    have hmd := made_mk (rw2 w S ra rc) _ hlm
    rw [show (rw2 w S ra rc).heap.size = w.heap.size + 1 + 1 by simp] at hmd
    refine ⟨0, rfl, rfl, fun _ => false, _, _, MarkedTo.zero _, rfl, hmd, Nat.le_refl _, by unfold maxLen; omega, hba, HBX.out.alloc_ _, HZB.out.alloc_ _⟩
  case round =>
    obtain ⟨k, hm, rfl, s, a, c, hmt, rfl, hc, hnc, hcm, hb, hbx, hzb⟩ := hrel
    have HM := Lib.hid hm; have HMT := Lib.hid hmt; have HC := Lib.hid hc; have HNC := Lib.hid (And.intro hnc hcm); have HB := Lib.hid hb; have HBX2 := Lib.hid hbx; have HZB2 := Lib.hid hzb
    obtain ⟨b0, b1, b2, b3, b4, bl⟩ := blk5 hbx
    clear hm hmt hc hnc hcm hb hbx hzb
    by_cases hk : k < S.l.length
    · obtain ⟨b, off, hra, hbl, x0, x1, x2, x3, x4⟩ := (HR.out.below HB.out).nd_ hk
      subst hra
      obtain ⟨q, hq⟩ : ∃ q, q = (nd S.l k).is := ⟨_, rfl⟩
      obtain ⟨pn, hpn⟩ : ∃ n, n = (nd S.l k).pins := ⟨_, rfl⟩
      rw [← hq] at x0
      rw [← hpn] at x4
      have HBB := Lib.hid hq; have HPN := Lib.hid hpn
      clear hq hpn
      cases hr : rootB S.l k with
      | true =>
        have HRT := Lib.hid hr
        have hfacts : (k < 2 ∧ True) ∨ (¬ k < 2 ∧ q = true ∧ 0 < pn) := by
          unfold rootB isB at hr
          rw [← HBB.out, ← HPN.out] at hr
          simp at hr
          rcases Nat.lt_or_ge k 2 with h | h
          · exact .inl ⟨h, trivial⟩
          · rcases hr with hr | hr
            · omega
            · exact .inr ⟨by omega, hr⟩
        have hisk : isB S.l k = true := by
          rcases hfacts with ⟨h1, _⟩ | ⟨_, h1, _⟩
          · have : k = 0 ∨ k = 1 := by omega
            rcases this with rfl | rfl
            · exact HW.out.is0
            · exact HW.out.is1
          · unfold isB; rw [← HBB.out]; exact h1
        have hvk := HW.out.vle hisk
        have HOF := Lib.hid (rof_ok S HW.out (S.vars + 1) wr (some ⟨b, off, none⟩) rc a c k s (HR.out.below HB.out) hisk (by omega) (have hc := HMT.out.cl HW.out; ⟨hc.is, fun j h1 h2 _ => hc.kids j h1 h2 (Nat.zero_le _)⟩) HC.out HNC.out.1 HNC.out.2)
        clear hr hisk hvk
        rcases hfacts with ⟨h1, _⟩ | ⟨h1, rfl, h3⟩
        all_goals
          go_wp2_with fail
          refine HOF.out.mono ?_
          rintro e w3 ⟨⟨a3, c3, s3, rfl, ha3, hc3, hn3, hm3⟩, hb3⟩
          have HA3 := Lib.hid ha3; have HC3 := Lib.hid hc3; have HB3 := Lib.hid hb3; have HN3 := Lib.hid (And.intro hn3 hm3)
          clear ha3 hc3 hb3 hn3 hm3 x0 x1 x2 x3 x4 hbl b0 b1 b2 b3 b4 bl
          go_wp2_with fail
          go_roundg (S.l.length - (k + 1))
          case measure => have := HM.out; omega
          case rel =>
            exact ⟨k + 1, by have := HM.out; omega, by go_num, s3, a3, c3, HMT.out.next HRT.out HA3.out, rfl, HC3.out, HN3.out.1, HN3.out.2, HB.out.trans (HB3.out.mono HB.out.size), HBX2.out.below HB3.out HBX2.out.lt, HZB2.out.below HB3.out HZB2.out.lt⟩
      | false =>
        have HRT := Lib.hid hr
        have hfacts : ¬ k < 2 ∧ (q = false ∨ (q = true ∧ pn = 0)) := by
          unfold rootB isB at hr
          rw [← HBB.out, ← HPN.out] at hr
          simp at hr
          refine ⟨by omega, ?_⟩
          cases q
          · exact .inl rfl
          · exact .inr ⟨rfl, by have := hr.2 rfl; omega⟩
        obtain ⟨h1, h2⟩ := hfacts
        clear hr
        rcases h2 with rfl | ⟨rfl, rfl⟩
        all_goals
          go_wp2_with fail
          go_roundg (S.l.length - (k + 1))
          case measure => have := HM.out; omega
          case rel =>
            exact ⟨k + 1, by have := HM.out; omega, by go_num, s, a, c, HMT.out.skip HRT.out, rfl, HC.out, HNC.out.1, HNC.out.2, HB.out, HBX2.out, HZB2.out⟩
    · have hkN : k = S.l.length := by have := HM.out; omega
      have hmt2 : MarkedTo S.l S.l.length s := by rw [← hkN]; exact HMT.out
      have HMA := Lib.hid hmt2
      have hcm : c ≤ 9223372036854775807 := by have := HNC.out.2; unfold maxLen at this; omega
      clear hmt2 hk HM
      subst hkN
      go_wp2_with fail
      obtain ⟨N, hN⟩ : ∃ N, N = S.l.length := ⟨_, rfl⟩
      have HN := Lib.hid hN
      rw [← hN] at hlm hl2
      clear b0 b1 b2 b3 b4 bl hN
      go_loopg [6, 7] N (fun m y x wr' => ∃ k gone : Nat, m + k = N ∧ x = .int .i64 (k : Int) ∧ y = .int .i64 (gone : Int) ∧ RswB w wr' S s a k gone)
      case atStart =>
        refine ⟨0, 0, rfl, rfl, rfl, ra, rc, ?_, ?_, HC.out, HB.out, ?_, HZB2.out⟩
        · rw [swq_zero]; exact HR.out.below HB.out
        · rw [swq_zero]; exact Nat.zero_add _
        · rw [swq_zero]; exact HBX2.out
      case round =>
        obtain ⟨j, gone, hm, rfl, rfl, qa, qc, hr, hg, hc, hb, hbx, hzb⟩ := hrel
        have HM2 := Lib.hid hm; have HR2 := Lib.hid hr; have HG2 := Lib.hid hg; have HC2 := Lib.hid hc; have HB4 := Lib.hid hb; have HBX4 := Lib.hid hbx; have HZB4 := Lib.hid hzb
        obtain ⟨b0, b1, b2, b3, b4, bl⟩ := blk5 hbx
        have bf3 : wr.frozen? ⟨w.heap.size, 3, none⟩ = false := hbx.frozen 3
        obtain ⟨bf0, bf1, bf2, bf3, bf4⟩ := blk5f hbx
        rw [show ({ S with l := swq S.l s j } : NS).l.length = N by rw [HN.out]; exact len_swq _ _ _] at b4
        clear hm hr hg hc hb hbx hzb
        by_cases hj : j < N
        · have hjl : j < S.l.length := by rw [← HN.out]; exact hj
          obtain ⟨b, off, hra, hbl, x0, x1, x2, x3, x4⟩ := HR2.out.nd_ (k := j) (by show j < (swq S.l s j).length; rw [len_swq]; exact hjl)
          subst hra
          have hnk := nd_swq_k S.l s j
          have x0' : wr.cell? ⟨b, off + j * 5, none⟩ = some (.bool (nd S.l j).is) := by rw [← hnk]; exact x0
          obtain ⟨q, hq⟩ : ∃ q, q = (nd S.l j).is := ⟨_, rfl⟩
          rw [← hq] at x0'
          have HQ := Lib.hid hq
          obtain ⟨mb, mo, rfl, hmb, m0⟩ := HC2.out.at_ (mkL_at s hjl)
          obtain ⟨t, ht⟩ : ∃ t, t = s j := ⟨_, rfl⟩
          rw [← ht] at m0
          have HT := Lib.hid ht
          have HJL := Lib.hid hjl
          clear hq ht x0 x1 x2 x3 x4 hnk hjl
          have hcase : (q = false) ∨ (q = true ∧ t = true) ∨ (q = true ∧ t = false) := by cases q <;> cases t <;> simp
          rcases hcase with rfl | ⟨rfl, rfl⟩ | ⟨rfl, rfl⟩
          · have hkeep : swq S.l s (j + 1) = swq S.l s j := swq_keep (.inr (HW.out.gone j (by unfold isB; exact HQ.out.symm)))
            have HKE := Lib.hid hkeep
            clear hkeep
            go_wp2_with fail
            go_roundg (N - (j + 1))
            case measure => have := HM2.out; omega
            case rel =>
              exact ⟨j + 1, gone, by have := HM2.out; omega, by go_num, rfl, some ⟨b, off, none⟩, qc, by rw [HKE.out]; exact HR2.out, by rw [HKE.out]; exact HG2.out, HC2.out, HB4.out, by rw [HKE.out]; exact HBX4.out, HZB4.out⟩
          · have hkeep : swq S.l s (j + 1) = swq S.l s j := swq_keep (.inl HT.out.symm)
            have HKE := Lib.hid hkeep
            clear hkeep
            go_wp2_with fail
            go_roundg (N - (j + 1))
            case measure => have := HM2.out; omega
            case rel =>
              exact ⟨j + 1, gone, by have := HM2.out; omega, by go_num, rfl, some ⟨b, off, none⟩, qc, by rw [HKE.out]; exact HR2.out, by rw [HKE.out]; exact HG2.out, HC2.out, HB4.out, by rw [HKE.out]; exact HBX4.out, HZB4.out⟩
          · have hcl := swq_clear HJL.out HT.out.symm
            have hcn := swq_cnt (s := s) HJL.out HQ.out.symm
            rw [hcl] at hcn
            have HCN := Lib.hid hcn
            have hlen5 : (putN (swq S.l s j) j Nd.no).length = N := by rw [hcl, len_swq, HN.out]
            have HWI : Hid (Calls Try.prog 65 #[.agg #[.int .i64 (S.vars : Int), .int .i64 (S.budget : Int), .int .i64 (wr64 S.made), .int .i64 (wr64 S.sweeps), .slice (some ⟨b, off, none⟩) N qc], .int .i64 (j : Int), .agg #[.bool false, .int .i64 0, .int .i64 0, .int .i64 0, .int .i64 0]] wr fun e w' =>
                ∃ ra' rc', e = .returned (.agg #[.int .i64 (S.vars : Int), .int .i64 (S.budget : Int), .int .i64 (wr64 S.made), .int .i64 (wr64 S.sweeps), .slice ra' N rc']) ∧ RSt w' { S with l := swq S.l s (j + 1) } ra' rc' ∧ Below wr.heap.size wr w') := Lib.hid (by
              have h := rwith_ok wr { S with l := swq S.l s j } (by show 0 < (swq _ _ _).length; rw [len_swq]; have := HJL.out; omega) (by show (swq _ _ _).length ≤ _; rw [len_swq, ← HN.out]; exact hlm) _ _ HR2.out j (by show _ ≤ (swq _ _ _).length; rw [len_swq]; exact Nat.le_of_lt HJL.out) Nd.no
              have e : (rsV { S with l := swq S.l s j } (some ⟨b, off, none⟩) qc) = .agg #[.int .i64 (S.vars : Int), .int .i64 (S.budget : Int), .int .i64 (wr64 S.made), .int .i64 (wr64 S.sweeps), .slice (some ⟨b, off, none⟩) N qc] := by
                unfold rsV
                rw [show ({ S with l := swq S.l s j } : NS).l.length = N by rw [HN.out]; exact len_swq _ _ _]
              rw [e] at h
              refine (show Calls Try.prog 65 #[.agg #[.int .i64 (S.vars : Int), .int .i64 (S.budget : Int), .int .i64 (wr64 S.made), .int .i64 (wr64 S.sweeps), .slice (some ⟨b, off, none⟩) N qc], .int .i64 (j : Int), .agg #[.bool false, .int .i64 0, .int .i64 0, .int .i64 0, .int .i64 0]] wr (RWithPost { S with l := swq S.l s j } j Nd.no wr) from h).mono ?_
              rintro e w' ⟨⟨ra', rc', rfl, hr'⟩, hb'⟩
              refine ⟨ra', rc', ?_, ?_, hb'⟩
              · show Ending.returned (.agg #[.int .i64 (S.vars : Int), .int .i64 (S.budget : Int), .int .i64 (wr64 S.made), .int .i64 (wr64 S.sweeps), .slice ra' (putN (swq S.l s j) j Nd.no).length rc']) = _
                rw [hlen5]
              · rw [← hcl]; exact hr')
            have HCL := Lib.hid hcl
            have hgm : gone ≤ 1048576 := by have := HG2.out; have := cnt_le S.l; have := HN.out; omega
            clear hcl hcn hlen5
            go_wp2_with fail
            with_reducible refine HWI.out.mono ?_
            rintro e w5 ⟨ra5, rc5, rfl, hr5, hb5⟩
            have HR5 := Lib.hid hr5; have HB5 := Lib.hid hb5; have HBX5 := Lib.hid (HBX4.out.below hb5 HBX4.out.lt); have HZB5 := Lib.hid (HZB4.out.below hb5 HZB4.out.lt)
            clear hr5 hb5 b0 b1 b2 b3 b4 bl bf0 bf1 bf2 bf3 bf4 x0' hbl m0 hmb HWI
            obtain ⟨b0, b1, b2, b3, b4, bl⟩ := blk5 HBX5.out
            obtain ⟨bf0, bf1, bf2, bf3, bf4⟩ := blk5f HBX5.out
            go_wp2_with fail
            go_roundg (N - (j + 1))
            case measure => have := HM2.out; omega
            case rel =>
              have hlq : (swq S.l s (j + 1)).length = N := by rw [len_swq, HN.out]
              rw [rep_st5 (S' := { S with l := swq S.l s (j + 1) }) rfl rfl rfl rfl hlq]
              have hB5 : Below w.heap.size w w5 := HB4.out.trans (HB5.out.mono HB4.out.size)
              exact ⟨j + 1, gone + 1, by have := HM2.out; omega, by go_num, by go_num, ra5, rc5, HR5.out.st5 HBX5.out, by have := HCN.out; have := HG2.out; omega, marks_far HBX5.out (HC2.out.below HB5.out), below5 hB5 (Nat.le_refl _), Blk.st5_ HBX5.out, HZB5.out.st5_far (by omega)⟩
        · have hjN : j = S.l.length := by have := HM2.out; have := HN.out; omega
          have hjN2 : j = N := by rw [HN.out]; exact hjN
          have HE := Lib.hid (swq_end HW.out HMA.out)
          have hms : wrap64 (wr64 S.sweeps + 1) = wr64 (S.sweeps + 1) := wr_succ _
          have HJN := Lib.hid hjN
          clear hjN hj HM2
          subst hjN2
          obtain ⟨z0, z1, z2, z3, z4, zl⟩ := blk5 HZB4.out
          obtain ⟨zf0, zf1, zf2, zf3, zf4⟩ := blk5f HZB4.out
          go_wp2_with fail
          obtain ⟨S', hS'⟩ : ∃ S' : NS, S' = { S with l := swp S.l s 1, sweeps := S.sweeps + 1 } := ⟨_, rfl⟩
          have hlq : S'.l.length = j := by rw [hS', HN.out]; exact len_swp _ _ _
          have hgc : cnt S.l - cnt (swp S.l s 1) = gone := by rw [← HE.out, ← HJN.out]; have := HG2.out; omega
          have hr' : RSt wr S' qa qc := by
            have := HR2.out
            rw [hS', ← HE.out, ← HJN.out]
            exact ⟨this.cells, this.tb, this.cap⟩
          have hB3 : Below w.heap.size w (wr.setCell ⟨w.heap.size, 3, none⟩ (.int .i64 (wr64 (S.sweeps + 1)))) := HB4.out.setCell (p := ⟨w.heap.size, 3, none⟩) (Nat.le_refl _) _
          have hz3 := HZB4.out.far (p := ⟨w.heap.size, 3, none⟩) (show w.heap.size + 1 ≠ w.heap.size by omega) (.int .i64 (wr64 (S.sweeps + 1)))
          have hr3 := hr'.set_ HBX4.out 3 (.int .i64 (wr64 (S.sweeps + 1)))
          have hrep := rep_st5 (w := wr.setCell ⟨w.heap.size, 3, none⟩ (.int .i64 (wr64 (S.sweeps + 1)))) (z := w.heap.size + 1) (N := j) (S := { S with sweeps := S.sweeps + 1 }) (S' := S') (ra := qa) (rc := qc) (by rw [hS']) (by rw [hS']) (by rw [hS']) (by rw [hS']) hlq
          refine bodyPost_ret (v := .tuple #[.agg #[.int .i64 (S.vars : Int), .int .i64 (S.budget : Int), .int .i64 (wr64 S.made), .int .i64 (wr64 (S.sweeps + 1)), .slice qa j qc], .int .i64 (gone : Int)]) ?_ rfl ?_
          · rw [results_cellT rfl]; go_simp
            rw [len_swp, HN.out]
          · refine ⟨⟨s, qa, qc, HMA.out, ?_, ?_⟩, ?_⟩
            · rw [hgc]
              rw [show ({ S with l := swp S.l s 1, sweeps := S.sweeps + 1 } : NS) = S' from hS'.symm]
              unfold rsV
              rw [hlq, hS']
            · rw [show ({ S with l := swp S.l s 1, sweeps := S.sweeps + 1 } : NS) = S' from hS'.symm]
              exact hrep ▸ hr3.st5 hz3
            · exact hrep ▸ below5 hB3 (by omega)
end Go.Proofs.Ytdalnhhenahcjaa
