/- The reference's Ask and Eval. The reference's Pin and Unpin. The reference's New. -/
import Derived.Test.YtdalnhhenahcjaaNodeRC
namespace Go.Proofs.Ytdalnhhenahcjaa
open Go.RowKit HP NP
/-- a reference's store in its box -/
abbrev rbox (S : NS) (ra : Option Addr) (rc : Nat) : Array Value := #[.int .i64 (S.vars : Int), .int .i64 (S.budget : Int), .int .i64 (wr64 S.made), .int .i64 (wr64 S.sweeps), .slice ra S.l.length rc]
theorem rbox_new (w : World) (S : NS) (ra : Option Addr) (rc : Nat) : Blk (w.alloc (.cells (rbox S ra rc) 75)) w.heap.size 75 (rbox S ra rc) := Blk.new_ _ _ _
abbrev rzero : Array Value := #[.int .i64 0, .int .i64 0, .int .i64 0, .int .i64 0, .slice none 0 0]
theorem results_cellT {fn : Func} {p u : Tmp} {ty : TypeId} (h : fn.results = #[.cell p ty, .tmp u]) (tmps : Array Value) (P : Program) (w : World) :
    (results fn tmps).run P w = ((asAddr (tmps.getD p undef)).run P w).andThen fun a w₁ => ((loadVar ty a).run P w₁).andThen fun x w₂ => .ok (.tuple #[x, tmps.getD u undef]) w₂ := by
  simp only [results, h]
  simp [Sem.run_bind, Result.andThen]
/-- the world behind a box and an empty one -/
abbrev rw2 (w : World) (S : NS) (ra : Option Addr) (rc : Nat) : World := (w.alloc (.cells (rbox S ra rc) 75)).alloc (.cells rzero 75)
theorem rw2_all (w : World) (S : NS) (ra : Option Addr) (rc : Nat) : Below w.heap.size w (rw2 w S ra rc) ∧ Blk (rw2 w S ra rc) w.heap.size 75 (rbox S ra rc) ∧ Blk (rw2 w S ra rc) (w.heap.size + 1) 75 rzero := by
  refine ⟨((Below.refl _ _).alloc (Nat.le_refl _) _).alloc (by simp) _, (Blk.new_ w _ _).alloc_ _, ?_⟩
  have := Blk.new_ (w.alloc (.cells (rbox S ra rc) 75)) 75 rzero
  rw [show (w.alloc (.cells (rbox S ra rc) 75)).heap.size = w.heap.size + 1 by simp] at this; exact this
theorem blk5 {w : World} {b : Nat} {t : TypeId} {a0 a1 a2 a3 a4 : Value} (h : Blk w b t #[a0, a1, a2, a3, a4]) :
    w.cell? ⟨b, 0, none⟩ = some a0 ∧ w.cell? ⟨b, 1, none⟩ = some a1 ∧ w.cell? ⟨b, 2, none⟩ = some a2 ∧ w.cell? ⟨b, 3, none⟩ = some a3 ∧ w.cell? ⟨b, 4, none⟩ = some a4 ∧ b < w.heap.size := ⟨h.cell 0, h.cell 1, h.cell 2, h.cell 3, h.cell 4, h.lt⟩
theorem blk5f {w : World} {b : Nat} {t : TypeId} {cs : Array Value} (h : Blk w b t cs) :
    w.frozen? ⟨b, 0, none⟩ = false ∧ w.frozen? ⟨b, 1, none⟩ = false ∧ w.frozen? ⟨b, 2, none⟩ = false ∧ w.frozen? ⟨b, 3, none⟩ = false ∧ w.frozen? ⟨b, 4, none⟩ = false := ⟨h.frozen 0, h.frozen 1, h.frozen 2, h.frozen 3, h.frozen 4⟩
/-- a store written into a box -/
abbrev st5 (w : World) (z : Nat) (S : NS) (ra : Option Addr) (rc : Nat) : World := ((((w.setCell ⟨z, 0, none⟩ (.int .i64 (S.vars : Int))).setCell ⟨z, 1, none⟩ (.int .i64 (S.budget : Int))).setCell ⟨z, 2, none⟩ (.int .i64 (wr64 S.made))).setCell ⟨z, 3, none⟩ (.int .i64 (wr64 S.sweeps))).setCell ⟨z, 4, none⟩ (.slice ra S.l.length rc)
theorem RSt.set_ {w : World} {S : NS} {ra : Option Addr} {rc z : Nat} {cs : Array Value} (h : RSt w S ra rc) (hz : Blk w z 75 cs) (i : Nat) (v : Value) : RSt (w.setCell ⟨z, i, none⟩ v) S ra rc :=
  h.kb (T := fun t => t == 75) (Kp.set (B := 0) hz (by rfl) (Nat.zero_le _) i v).kb (by rfl)
theorem RSt.st5 {w : World} {S S' : NS} {ra ra' : Option Addr} {rc rc' z : Nat} {cs : Array Value} (h : RSt w S ra rc) (hz : Blk w z 75 cs) : RSt (st5 w z S' ra' rc') S ra rc :=
  ((((h.set_ hz 0 _).set_ (hz.set_ 0 _) 1 _).set_ ((hz.set_ 0 _).set_ 1 _) 2 _).set_ (((hz.set_ 0 _).set_ 1 _).set_ 2 _) 3 _).set_ ((((hz.set_ 0 _).set_ 1 _).set_ 2 _).set_ 3 _) 4 _
theorem below5 {B z : Nat} {w0 w : World} {S : NS} {ra : Option Addr} {rc : Nat} (h : Below B w0 w) (q : B ≤ z) : Below B w0 (st5 w z S ra rc) :=
  ((((h.setCell (p := ⟨z, 0, none⟩) q _).setCell (p := ⟨z, 1, none⟩) q _).setCell (p := ⟨z, 2, none⟩) q _).setCell (p := ⟨z, 3, none⟩) q _).setCell (p := ⟨z, 4, none⟩) q _
def RPost (R : NS × Int) (w : World) (e : Ending) (w' : World) : Prop :=
  (∃ ra rc, e = .returned (.tuple #[rsV R.1 ra rc, .int .i64 R.2]) ∧ RSt w' R.1 ra rc) ∧ Below w.heap.size w w'
theorem RPost.of {R : NS × Int} {S : NS} {x : Int} {w w' : World} {ra : Option Addr} {rc : Nat} (hm : R = (S, x)) (h : RSt w' S ra rc) (hb : Below w.heap.size w w') : RPost R w (.returned (.tuple #[rsV S ra rc, .int .i64 x])) w' := by
  subst hm; exact ⟨⟨ra, rc, rfl, h⟩, hb⟩
theorem pin_put {l : List Nd} {m n : Nat} (h : m < l.length) : putN l m { nd l m with pins := n } = pinN l m n := by unfold putN pinN; rw [if_pos h]
set_option maxRecDepth 100000 in
set_option maxHeartbeats 2000000 in
theorem rask_ok (w : World) (S : NS) (hW : Wf S) (ra : Option Addr) (rc : Nat) (h : RSt w S ra rc) (k : Int) :
    Calls Try.prog 55 #[rsV S ra rc, .int .i64 k] w fun e w' => e = .returned (askV S k) ∧ Below w.heap.size w w' := by
  have hlm := hW.lm
  have HR := Lib.hid h
  have hbel : Below w.heap.size w (w.alloc (.cells (rbox S ra rc) 75)) := (Below.refl _ _).alloc (Nat.le_refl _) _
  have HB2 := Lib.hid hbel; have HBX := Lib.hid (rbox_new w S ra rc)
  clear h hbel hW
  cases hk : isK S.l k with
  | false =>
    have hv : askV S k = .tuple #[.int .i64 0, .int .i64 0, .int .i64 0, .int .i64 3] := by unfold askV; rw [hk]; rfl
    have HV := Lib.hid hv; have HK := Lib.hid hk
    clear hv hk
    go_enter Try.func55, Try.ntmps55
    go_wp2_with fail
    refine (ris_ok _ S hlm ra rc (HR.out.below HB2.out) k).mono ?_
    rintro e w3 ⟨rfl, hb⟩
    rw [HK.out]
    have HB3 := Lib.hid (HB2.out.trans (hb.mono HB2.out.size))
    clear hb
    go_wp2_with fail
    refine bodyPost_ret (v := .tuple #[.int .i64 0, .int .i64 0, .int .i64 0, .int .i64 3]) (by simp [results, Try.results55, go_sem]) rfl ⟨by rw [HV.out], HB3.out⟩
  | true =>
    obtain ⟨m, rfl, hbm⟩ := isK_out hk
    have hm := isB_lt hbm
    have hv : askV S m = .tuple #[.int .i64 ((nd S.l m).v : Int), .int .i64 ((nd S.l m).low : Int), .int .i64 ((nd S.l m).high : Int), .int .i64 0] := by unfold askV; rw [hk]; rfl
    have HV := Lib.hid hv; have HK := Lib.hid hk
    clear hv hk hbm
    go_enter Try.func55, Try.ntmps55
    go_wp2_with fail
    refine (ris_ok _ S hlm ra rc (HR.out.below HB2.out) m).mono ?_
    rintro e w3 ⟨rfl, hb⟩
    rw [HK.out]
    have HB3 := Lib.hid (HB2.out.trans (hb.mono HB2.out.size))
    have HBX3 := Lib.hid (HBX.out.below hb HBX.out.lt)
    clear hb
    obtain ⟨b, off, hra, hbl, x0, x1, x2, x3, x4⟩ := (HR.out.below HB3.out).nd_ hm
    subst hra
    have b4 : w3.cell? ⟨w.heap.size, 4, none⟩ = some (.slice (some ⟨b, off, none⟩) S.l.length rc) := HBX3.out.cell 4
    have bl : w.heap.size < w3.heap.size := HBX3.out.lt
    go_wp2_with fail
    go_quiet (fail)
    go_wp2_with fail
    refine bodyPost_ret (v := .tuple #[.int .i64 ((nd S.l m).v : Int), .int .i64 ((nd S.l m).low : Int), .int .i64 ((nd S.l m).high : Int), .int .i64 0]) (by simp [results, Try.results55, go_sem]) rfl ⟨by rw [HV.out], ?_⟩
    have H := HB3.out.alloc HB3.out.size (.cells #[.bool (nd S.l m).is, .int .i64 ((nd S.l m).v : Int), .int .i64 ((nd S.l m).low : Int), .int .i64 ((nd S.l m).high : Int), .int .i64 ((nd S.l m).pins : Int)] 107)
    exact H.trans ((bdN' _ _).mono H.size)
set_option maxRecDepth 100000 in
set_option maxHeartbeats 2000000 in
theorem reval_ok (w : World) (S : NS) (hW : Wf S) (ra : Option Addr) (rc : Nat) (h : RSt w S ra rc) (k : Int) (va : Option Addr) (vals : List Bool) (vc : Nat) (hvl : vals.length ≤ maxLen) (hvs : Cells w va (vals.map Value.bool)) :
    Calls Try.prog 56 #[rsV S ra rc, .int .i64 k, .slice va vals.length vc] w fun e w' => e = .returned (.tuple #[.bool (evB S vals k), .int .i64 (findE S k)]) ∧ Below w.heap.size w w' := by
  have hvl' : vals.length ≤ 9223372036854775807 := by unfold maxLen at hvl; omega
  have hlm := hW.lm
  have HR := Lib.hid h; have HW := Lib.hid hW
  have hbel : Below w.heap.size w (w.alloc (.cells (rbox S ra rc) 75)) := (Below.refl _ _).alloc (Nat.le_refl _) _
  have HB2 := Lib.hid hbel; have HBX := Lib.hid (rbox_new w S ra rc)
  clear h hbel hW hvl
  cases hk : isK S.l k with
  | false =>
    have hv : evB S vals k = false := by unfold evB; rw [hk]; rfl
    have hf : findE S k = 3 := by unfold findE; rw [hk]; rfl
    have HV := Lib.hid hv; have HFE := Lib.hid hf; have HK := Lib.hid hk
    clear hv hk hf
    go_enter Try.func56, Try.ntmps56
    go_wp2_with fail
    refine (ris_ok _ S hlm ra rc (HR.out.below HB2.out) k).mono ?_
    rintro e w3 ⟨rfl, hb⟩
    rw [HK.out]
    have HB3 := Lib.hid (HB2.out.trans (hb.mono HB2.out.size))
    clear hb
    go_wp2_with fail
    go_ret2
    exact ⟨ret_bi HV.out.symm HFE.out.symm, HB3.out⟩
  | true =>
    obtain ⟨m, rfl, hbm⟩ := isK_out hk
    have hf : findE S m = 0 := by unfold findE; rw [hk]; rfl
    have hv : evB S vals m = den S.l (rho vals) m := by unfold evB; rw [hk]; rfl
    have HV := Lib.hid hv; have HFE := Lib.hid hf; have HBB := Lib.hid hbm; have HK := Lib.hid hk
    clear hv hk hf hbm
    go_enter Try.func56, Try.ntmps56
    go_wp2_with fail
    refine (ris_ok _ S hlm ra rc (HR.out.below HB2.out) m).mono ?_
    rintro e w3 ⟨rfl, hb⟩
    rw [HK.out]
    have HB3 := Lib.hid (HB2.out.trans (hb.mono HB2.out.size))
    have HBX3 := Lib.hid (HBX.out.below hb HBX.out.lt)
    clear hb
    go_wp2_with fail
    go_loopg [1] (S.vars - (nd S.l m).v) (fun f x wr => ∃ j : Nat, x = .int .i64 (j : Int) ∧ isB S.l j = true ∧ f + (nd S.l j).v = S.vars ∧ den S.l (rho vals) m = den S.l (rho vals) j ∧ Below w.heap.size w wr ∧ Blk wr w.heap.size 75 (rbox S ra rc))
    case atStart => exact ⟨m, rfl, HBB.out, by have := HW.out.vle HBB.out; omega, rfl, HB3.out, HBX3.out⟩
    case round =>
      rename_i f
      obtain ⟨j, rfl, hj, hf, hden, hB, hbx⟩ := hrel
      have HJ := Lib.hid hj; have HFF := Lib.hid hf; have HDEN := Lib.hid hden; have HB := Lib.hid hB; have HBX := Lib.hid hbx
      clear hj hf hden hB hbx
      by_cases h2 : 2 ≤ j
      · have hjl := isB_lt HJ.out
        obtain ⟨b, off, hra, hbl, x0, x1, x2, x3, x4⟩ := (HR.out.below HB.out).nd_ hjl
        subst hra
        have b4 : wr.cell? ⟨w.heap.size, 4, none⟩ = some (.slice (some ⟨b, off, none⟩) S.l.length rc) := HBX.out.cell 4
        have bl : w.heap.size < wr.heap.size := HBX.out.lt
        have hn := HW.out.nxt h2 HJ.out (rho vals)
        have hds := den_step HW.out (rho vals) h2 HJ.out
        have HN := Lib.hid hn; have HDS := Lib.hid hds
        clear hn hds
        obtain ⟨v, hv⟩ : ∃ v, v = (nd S.l j).v := ⟨_, rfl⟩
        rw [← hv] at x1
        have HVV := Lib.hid hv
        clear hv
        by_cases hvl : v < vals.length
        · obtain ⟨q, hq⟩ : ∃ b, b = vals[v] := ⟨_, rfl⟩
          obtain ⟨vb, vo, rfl, hvb, vx⟩ := hvs.at_ (k := v) (v := .bool q) (by rw [List.getElem?_map, List.getElem?_eq_getElem hvl, hq]; rfl)
          rw [← HB.out.cell (p := ⟨vb, _, none⟩) hvb] at vx
          have hvb' : vb < wr.heap.size := by have := HB.out.size; omega
          have hr : rho vals v = q := by unfold rho; rw [List.getD_eq_getElem?_getD, List.getElem?_eq_getElem hvl, hq]; rfl
          have HRR := Lib.hid hr
          clear hr hq
          cases q with
          | false =>
            go_wp2_with fail
            go_roundg (S.vars - (nd S.l (nxt S.l (rho vals) j)).v)
            case measure => have := HN.out.2; have := HFF.out; have := HW.out.vle HN.out.1; omega
            case rel =>
              have e : nxt S.l (rho vals) j = (nd S.l j).low := by unfold nxt; rw [← HVV.out, HRR.out]; rfl
              rw [← e]
              exact ⟨_, rfl, HN.out.1, by have := HW.out.vle HN.out.1; omega, HDEN.out.trans HDS.out, HB.out.alloc HB.out.size _, HBX.out.alloc_ _⟩
          | true =>
            go_wp2_with fail
            go_roundg (S.vars - (nd S.l (nxt S.l (rho vals) j)).v)
            case measure => have := HN.out.2; have := HFF.out; have := HW.out.vle HN.out.1; omega
            case rel =>
              have e : nxt S.l (rho vals) j = (nd S.l j).high := by unfold nxt; rw [← HVV.out, HRR.out]; rfl
              rw [← e]
              exact ⟨_, rfl, HN.out.1, by have := HW.out.vle HN.out.1; omega, HDEN.out.trans HDS.out, HB.out.alloc HB.out.size _, HBX.out.alloc_ _⟩
        · have hr : rho vals v = false := by unfold rho; rw [List.getD_eq_getElem?_getD, List.getElem?_eq_none (by omega)]; rfl
          have HRR := Lib.hid hr
          have hge : vals.length ≤ v := by omega
          clear hr hvl
          go_wp2_with fail
          go_roundg (S.vars - (nd S.l (nxt S.l (rho vals) j)).v)
          case measure => have := HN.out.2; have := HFF.out; have := HW.out.vle HN.out.1; omega
          case rel =>
            have e : nxt S.l (rho vals) j = (nd S.l j).low := by unfold nxt; rw [← HVV.out, HRR.out]; rfl
            rw [← e]
            exact ⟨_, rfl, HN.out.1, by have := HW.out.vle HN.out.1; omega, HDEN.out.trans HDS.out, HB.out.alloc HB.out.size _, HBX.out.alloc_ _⟩
      · have hlf := den_leaf S.l (rho vals) (k := j) (by omega)
        have hlt : j < 2 := by omega
        have HLF := Lib.hid hlf
        clear h2 hlf
        have hj01 : j = 0 ∨ j = 1 := by omega
        rcases hj01 with rfl | rfl
        all_goals
          go_wp2_with fail
          go_ret2
          exact ⟨ret_bi (by rw [HV.out, HDEN.out, HLF.out]; rfl) (by rw [HFE.out]), HB.out⟩
end Go.Proofs.Ytdalnhhenahcjaa
namespace Go.Proofs.Ytdalnhhenahcjaa
open Go.RowKit HP NP
set_option maxRecDepth 100000 in
set_option maxHeartbeats 4000000 in
theorem rpin_ok (w : World) (S : NS) (hW : Wf S) (ra : Option Addr) (rc : Nat) (h : RSt w S ra rc) (k : Int) :
    Calls Try.prog 58 #[rsV S ra rc, .int .i64 k] w (RPost (pinS S k) w) := by
  have hlm := hW.lm
  have hl0 : 0 < S.l.length := by have := hW.two; omega
  have HR := Lib.hid h
  obtain ⟨hbel, hbx, hzb⟩ := rw2_all w S ra rc
  have HB2 := Lib.hid hbel; have HBX := Lib.hid hbx; have HZB := Lib.hid hzb
  clear h hbel hbx hzb
  cases hk : isK S.l k with
  | false =>
    have HM : Hid (pinS S k = (S, 3)) := Lib.hid (by unfold pinS; rw [hk]; rfl)
    have HK := Lib.hid hk
    clear hk hW
    go_enter Try.func58, Try.ntmps58
    go_wp2_with fail
    refine (ris_ok _ S hlm ra rc (HR.out.below HB2.out) k).mono ?_
    rintro e w3 ⟨rfl, hb⟩
    rw [HK.out]
    have HB3 := Lib.hid (HB2.out.trans (hb.mono HB2.out.size)); have HBX3 := Lib.hid (HBX.out.below hb HBX.out.lt); have HZB3 := Lib.hid (HZB.out.below hb HZB.out.lt)
    clear hb
    obtain ⟨b0, b1, b2, b3, b4, bl⟩ := blk5 HBX3.out
    obtain ⟨z0, z1, z2, z3, z4, zl⟩ := blk5 HZB3.out
    obtain ⟨zf0, zf1, zf2, zf3, zf4⟩ := blk5f HZB3.out
    go_wp2_with fail
    refine bodyPost_ret (v := .tuple #[rsV S ra rc, .int .i64 3]) ?_ rfl ?_
    · rw [results_cellT rfl]; go_simp
    · exact RPost.of HM.out ((HR.out.below HB3.out).st5 HZB3.out) (below5 HB3.out (by omega))
  | true =>
    obtain ⟨m, rfl, hbm⟩ := isK_out hk
    have hm := isB_lt hbm
    obtain ⟨p, hp⟩ : ∃ p, p = (nd S.l m).pins := ⟨_, rfl⟩
    have hp30 : p ≤ 1073741824 := by rw [hp]; exact hW.pins m
    have HP := Lib.hid hp; have HK := Lib.hid hk
    by_cases hpf : 1073741824 ≤ p
    · have HM : Hid (pinS S m = (S, 2)) := Lib.hid (by unfold pinS; rw [hk, if_pos rfl, if_pos (by rw [Int.toNat_natCast, ← hp]; exact hpf)])
      have d1 : decide ((1073741824 : Int) ≤ (p : Int)) = true := decide_eq_true (by omega)
      have d1' : decide (1073741824 ≤ p) = true := decide_eq_true hpf
      clear hk hbm hp hW
      go_enter Try.func58, Try.ntmps58
      go_wp2_with fail
      refine (ris_ok _ S hlm ra rc (HR.out.below HB2.out) m).mono ?_
      rintro e w3 ⟨rfl, hb⟩
      rw [HK.out]
      have HB3 := Lib.hid (HB2.out.trans (hb.mono HB2.out.size)); have HBX3 := Lib.hid (HBX.out.below hb HBX.out.lt); have HZB3 := Lib.hid (HZB.out.below hb HZB.out.lt)
      clear hb
      obtain ⟨b, off, hra, hbl, x0, x1, x2, x3, x4⟩ := (HR.out.below HB3.out).nd_ hm
      subst hra
      rw [← HP.out] at x4
      obtain ⟨b0, b1, b2, b3, b4, bl⟩ := blk5 HBX3.out
      obtain ⟨z0, z1, z2, z3, z4, zl⟩ := blk5 HZB3.out
      obtain ⟨zf0, zf1, zf2, zf3, zf4⟩ := blk5f HZB3.out
      go_wp2_with fail
      refine bodyPost_ret (v := .tuple #[rsV S (some ⟨b, off, none⟩) rc, .int .i64 2]) ?_ rfl ?_
      · rw [results_cellT rfl]; go_simp
      · have hB5 := below5 (S := S) (ra := some ⟨b, off, none⟩) (rc := rc) HB3.out (show w.heap.size ≤ w.heap.size + 1 by omega)
        have hR5 := (HR.out.below HB3.out).st5 (S' := S) (ra' := some ⟨b, off, none⟩) (rc' := rc) HZB3.out
        exact RPost.of HM.out (hR5.below ((Below.refl _ _).alloc (Nat.le_refl _) _)) (hB5.alloc hB5.size _)
    · obtain ⟨p1, hp1⟩ : ∃ p1, p + 1 = p1 := ⟨_, rfl⟩
      have hpz : (p : Int) + 1 = (p1 : Int) := by omega
      obtain ⟨S2, hS2⟩ : ∃ S2 : NS, S2 = { S with l := putN S.l m { nd S.l m with pins := p1 } } := ⟨_, rfl⟩
      have HM : Hid (pinS S m = (S2, 0)) := Lib.hid (by unfold pinS; rw [hk, if_pos rfl, if_neg (by rw [Int.toNat_natCast, ← hp]; exact hpf), Int.toNat_natCast, ← hp, hp1, hS2, pin_put hm])
      have HS2 := Lib.hid hS2
      have d1 : decide ((1073741824 : Int) ≤ (p : Int)) = false := decide_eq_false (by omega)
      have d1' : decide (1073741824 ≤ p) = false := decide_eq_false hpf
      clear hk hbm hp hW hpf hp1 hS2
      go_enter Try.func58, Try.ntmps58
      go_wp2_with fail
      refine (ris_ok _ S hlm ra rc (HR.out.below HB2.out) m).mono ?_
      rintro e w3 ⟨rfl, hb⟩
      rw [HK.out]
      have HB3 := Lib.hid (HB2.out.trans (hb.mono HB2.out.size)); have HBX3 := Lib.hid (HBX.out.below hb HBX.out.lt); have HZB3 := Lib.hid (HZB.out.below hb HZB.out.lt)
      clear hb
      obtain ⟨b, off, hra, hbl, x0, x1, x2, x3, x4⟩ := (HR.out.below HB3.out).nd_ hm
      subst hra
      rw [← HP.out] at x4
      obtain ⟨b0, b1, b2, b3, b4, bl⟩ := blk5 HBX3.out
      go_wp2_with fail
      have HB5 : Hid (Below w.heap.size w (w3.alloc (.cells #[.bool (nd S.l m).is, .int .i64 ((nd S.l m).v : Int), .int .i64 ((nd S.l m).low : Int), .int .i64 ((nd S.l m).high : Int), .int .i64 (p1 : Int)] 107))) := Lib.hid (HB3.out.alloc HB3.out.size _)
      have HZB5 := Lib.hid (HZB3.out.alloc_ (.cells #[.bool (nd S.l m).is, .int .i64 ((nd S.l m).v : Int), .int .i64 ((nd S.l m).low : Int), .int .i64 ((nd S.l m).high : Int), .int .i64 (p1 : Int)] 107))
      have HWI := Lib.hid (rwith_ok _ S hl0 hlm (some ⟨b, off, none⟩) rc (HR.out.below HB5.out) m (Nat.le_of_lt hm) { nd S.l m with pins := p1 })
      refine HWI.out.mono ?_
      rintro e w9 ⟨⟨ra', rc', rfl, hr9⟩, hb9⟩
      rw [← HS2.out] at hr9 ⊢
      have HR9 := Lib.hid hr9; have HB9 := Lib.hid (HB5.out.trans (hb9.mono HB5.out.size)); have HZB9 := Lib.hid (HZB5.out.below hb9 HZB5.out.lt)
      clear hr9 hb9 x0 x1 x2 x3 x4 b0 b1 b2 b3 b4 HWI
      obtain ⟨z0, z1, z2, z3, z4, zl⟩ := blk5 HZB9.out
      obtain ⟨zf0, zf1, zf2, zf3, zf4⟩ := blk5f HZB9.out
      go_wp2_with fail
      refine bodyPost_ret (v := .tuple #[rsV S2 ra' rc', .int .i64 0]) ?_ rfl ?_
      · rw [results_cellT rfl]; go_simp
      · exact RPost.of HM.out (HR9.out.st5 HZB9.out) (below5 HB9.out (by omega))
set_option maxRecDepth 100000 in
set_option maxHeartbeats 4000000 in
theorem runpin_ok (w : World) (S : NS) (hW : Wf S) (ra : Option Addr) (rc : Nat) (h : RSt w S ra rc) (k : Int) :
    Calls Try.prog 59 #[rsV S ra rc, .int .i64 k] w (RPost (unpinS S k) w) := by
  have hlm := hW.lm
  have hl0 : 0 < S.l.length := by have := hW.two; omega
  have HR := Lib.hid h
  obtain ⟨hbel, hbx, hzb⟩ := rw2_all w S ra rc
  have HB2 := Lib.hid hbel; have HBX := Lib.hid hbx; have HZB := Lib.hid hzb
  clear h hbel hbx hzb
  cases hk : isK S.l k with
  | false =>
    have HM : Hid (unpinS S k = (S, 3)) := Lib.hid (by unfold unpinS; rw [hk]; rfl)
    have HK := Lib.hid hk
    clear hk hW
    go_enter Try.func59, Try.ntmps59
    go_wp2_with fail
    refine (ris_ok _ S hlm ra rc (HR.out.below HB2.out) k).mono ?_
    rintro e w3 ⟨rfl, hb⟩
    rw [HK.out]
    have HB3 := Lib.hid (HB2.out.trans (hb.mono HB2.out.size)); have HBX3 := Lib.hid (HBX.out.below hb HBX.out.lt); have HZB3 := Lib.hid (HZB.out.below hb HZB.out.lt)
    clear hb
    obtain ⟨b0, b1, b2, b3, b4, bl⟩ := blk5 HBX3.out
    obtain ⟨z0, z1, z2, z3, z4, zl⟩ := blk5 HZB3.out
    obtain ⟨zf0, zf1, zf2, zf3, zf4⟩ := blk5f HZB3.out
    go_wp2_with fail
    refine bodyPost_ret (v := .tuple #[rsV S ra rc, .int .i64 3]) ?_ rfl ?_
    · rw [results_cellT rfl]; go_simp
    · exact RPost.of HM.out ((HR.out.below HB3.out).st5 HZB3.out) (below5 HB3.out (by omega))
  | true =>
    obtain ⟨m, rfl, hbm⟩ := isK_out hk
    have hm := isB_lt hbm
    obtain ⟨p, hp⟩ : ∃ p, p = (nd S.l m).pins := ⟨_, rfl⟩
    have hp30 : p ≤ 1073741824 := by rw [hp]; exact hW.pins m
    have HP := Lib.hid hp; have HK := Lib.hid hk
    by_cases hpf : p = 0
    · have HM : Hid (unpinS S m = (S, 3)) := Lib.hid (by unfold unpinS; rw [hk, if_pos rfl, if_pos (by rw [Int.toNat_natCast, ← hp]; exact hpf)])
      have d1 : ((p : Int) == 0) = true := beq_iff_eq.2 (by omega)
      have d1' : (p == 0) = true := beq_iff_eq.2 hpf
      clear hk hbm hp hW
      go_enter Try.func59, Try.ntmps59
      go_wp2_with fail
      refine (ris_ok _ S hlm ra rc (HR.out.below HB2.out) m).mono ?_
      rintro e w3 ⟨rfl, hb⟩
      rw [HK.out]
      have HB3 := Lib.hid (HB2.out.trans (hb.mono HB2.out.size)); have HBX3 := Lib.hid (HBX.out.below hb HBX.out.lt); have HZB3 := Lib.hid (HZB.out.below hb HZB.out.lt)
      clear hb
      obtain ⟨b, off, hra, hbl, x0, x1, x2, x3, x4⟩ := (HR.out.below HB3.out).nd_ hm
      subst hra
      rw [← HP.out] at x4
      obtain ⟨b0, b1, b2, b3, b4, bl⟩ := blk5 HBX3.out
      obtain ⟨z0, z1, z2, z3, z4, zl⟩ := blk5 HZB3.out
      obtain ⟨zf0, zf1, zf2, zf3, zf4⟩ := blk5f HZB3.out
      go_wp2_with fail
      refine bodyPost_ret (v := .tuple #[rsV S (some ⟨b, off, none⟩) rc, .int .i64 3]) ?_ rfl ?_
      · rw [results_cellT rfl]; go_simp
      · exact RPost.of HM.out ((HR.out.below HB3.out).st5 HZB3.out) (below5 HB3.out (by omega))
    · obtain ⟨p1, hp1⟩ : ∃ p1, p - 1 = p1 := ⟨_, rfl⟩
      have hpz : (p : Int) - 1 = (p1 : Int) := by omega
      obtain ⟨S2, hS2⟩ : ∃ S2 : NS, S2 = { S with l := putN S.l m { nd S.l m with pins := p1 } } := ⟨_, rfl⟩
      have HM : Hid (unpinS S m = (S2, 0)) := Lib.hid (by unfold unpinS; rw [hk, if_pos rfl, if_neg (by rw [Int.toNat_natCast, ← hp]; exact hpf), Int.toNat_natCast, ← hp, hp1, hS2, pin_put hm])
      have HS2 := Lib.hid hS2
      have d1 : ((p : Int) == 0) = false := beq_eq_false_iff_ne.2 (by omega)
      have d1' : (p == 0) = false := beq_eq_false_iff_ne.2 hpf
      clear hk hbm hp hW hpf hp1 hS2
      go_enter Try.func59, Try.ntmps59
      go_wp2_with fail
      refine (ris_ok _ S hlm ra rc (HR.out.below HB2.out) m).mono ?_
      rintro e w3 ⟨rfl, hb⟩
      rw [HK.out]
      have HB3 := Lib.hid (HB2.out.trans (hb.mono HB2.out.size)); have HBX3 := Lib.hid (HBX.out.below hb HBX.out.lt); have HZB3 := Lib.hid (HZB.out.below hb HZB.out.lt)
      clear hb
      obtain ⟨b, off, hra, hbl, x0, x1, x2, x3, x4⟩ := (HR.out.below HB3.out).nd_ hm
      subst hra
      rw [← HP.out] at x4
      obtain ⟨b0, b1, b2, b3, b4, bl⟩ := blk5 HBX3.out
      go_wp2_with fail
      have HB5 : Hid (Below w.heap.size w (w3.alloc (.cells #[.bool (nd S.l m).is, .int .i64 ((nd S.l m).v : Int), .int .i64 ((nd S.l m).low : Int), .int .i64 ((nd S.l m).high : Int), .int .i64 (p1 : Int)] 107))) := Lib.hid (HB3.out.alloc HB3.out.size _)
      have HZB5 := Lib.hid (HZB3.out.alloc_ (.cells #[.bool (nd S.l m).is, .int .i64 ((nd S.l m).v : Int), .int .i64 ((nd S.l m).low : Int), .int .i64 ((nd S.l m).high : Int), .int .i64 (p1 : Int)] 107))
      have HWI := Lib.hid (rwith_ok _ S hl0 hlm (some ⟨b, off, none⟩) rc (HR.out.below HB5.out) m (Nat.le_of_lt hm) { nd S.l m with pins := p1 })
      refine HWI.out.mono ?_
      rintro e w9 ⟨⟨ra', rc', rfl, hr9⟩, hb9⟩
      rw [← HS2.out] at hr9 ⊢
      have HR9 := Lib.hid hr9; have HB9 := Lib.hid (HB5.out.trans (hb9.mono HB5.out.size)); have HZB9 := Lib.hid (HZB5.out.below hb9 HZB5.out.lt)
      clear hr9 hb9 x0 x1 x2 x3 x4 b0 b1 b2 b3 b4 HWI
      obtain ⟨z0, z1, z2, z3, z4, zl⟩ := blk5 HZB9.out
      obtain ⟨zf0, zf1, zf2, zf3, zf4⟩ := blk5f HZB9.out
      go_wp2_with fail
      refine bodyPost_ret (v := .tuple #[rsV S2 ra' rc', .int .i64 0]) ?_ rfl ?_
      · rw [results_cellT rfl]; go_simp
      · exact RPost.of HM.out (HR9.out.st5 HZB9.out) (below5 HB9.out (by omega))
end Go.Proofs.Ytdalnhhenahcjaa
namespace Go.Proofs.Ytdalnhhenahcjaa
open Go.RowKit HP NP
def RNewPost (vars budget : Int) (w : World) (e : Ending) (w' : World) : Prop :=
  ((okNew vars budget = true ∧ ∃ ra rc, e = .returned (.tuple #[rsV (newS vars.toNat budget.toNat) ra rc, .int .i64 0]) ∧ RSt w' (newS vars.toNat budget.toNat) ra rc) ∨ (okNew vars budget = false ∧ e = .returned (.tuple #[.agg rzero, .int .i64 1]))) ∧ Below w.heap.size w w'
theorem base2_cells (v : Nat) : (base2 v).flatMap ndCells = [.bool true, .int .i64 (v : Int), .int .i64 0, .int .i64 0, .int .i64 0, .bool true, .int .i64 (v : Int), .int .i64 1, .int .i64 1, .int .i64 0] := rfl
set_option maxRecDepth 100000 in
set_option maxHeartbeats 2000000 in
theorem rnew_yes (w : World) (vars budget : Nat) (h1 : vars ≤ 256) (h2 : 2 ≤ budget) (h3 : budget ≤ 1048576) :
    Calls Try.prog 40 #[.int .i64 (vars : Int), .int .i64 (budget : Int)] w fun e w' => (∃ ra rc, e = .returned (.tuple #[rsV (newS vars budget) ra rc, .int .i64 0]) ∧ RSt w' (newS vars budget) ra rc) ∧ Below w.heap.size w w' := by
  have d0 : decide ((vars : Int) < 0) = false := decide_eq_false (by omega)
  have d1 : decide ((256 : Int) < (vars : Int)) = false := decide_eq_false (by omega)
  have d1' : decide (256 < vars) = false := decide_eq_false (by omega)
  have d2 : decide ((budget : Int) < 2) = false := decide_eq_false (by omega)
  have d2' : decide (budget < 2) = false := decide_eq_false (by omega)
  have d3 : decide ((1048576 : Int) < (budget : Int)) = false := decide_eq_false (by omega)
  have d3' : decide (1048576 < budget) = false := decide_eq_false (by omega)
  have e0 : wr64 0 = 0 := by simp [wr64, wrap64]
  have HE0 := Lib.hid e0
  clear h1 h2 h3 e0
  go_enter Try.func40, Try.ntmps40
  go_wp2_with fail
  refine bodyPost_ret (v := .tuple #[rsV (newS vars budget) (some ⟨w.heap.size + 1, 0, none⟩) 2, .int .i64 0]) ?_ rfl ?_
  · rw [results_cellT rfl]; go_simp
    exact ⟨rfl, rfl, HE0.out.symm, HE0.out.symm, rfl⟩
  · refine ⟨⟨_, _, rfl, ?_, ?_, ?_⟩, ?_⟩
    · have h := Cells.lit (w.alloc (.cells #[.int .i64 (vars : Int), .int .i64 (budget : Int), .int .i64 0, .int .i64 0, .slice (some ⟨w.heap.size + 1, 0, none⟩) 2 2] 75)) (#[.bool true, .int .i64 (vars : Int), .int .i64 0, .int .i64 0, .int .i64 0, .bool true, .int .i64 (vars : Int), .int .i64 1, .int .i64 1, .int .i64 0]) 107
      rw [show (w.alloc (.cells #[.int .i64 (vars : Int), .int .i64 (budget : Int), .int .i64 0, .int .i64 0, .slice (some ⟨w.heap.size + 1, 0, none⟩) 2 2] 75)).heap.size = w.heap.size + 1 by simp] at h
      exact h
    · intro b off s he
      injection he with he
      injection he with e1 _ _
      subst e1
      have hb := Blk.new_ (w.alloc (.cells #[.int .i64 (vars : Int), .int .i64 (budget : Int), .int .i64 0, .int .i64 0, .slice (some ⟨w.heap.size + 1, 0, none⟩) 2 2] 75)) 107 (#[.bool true, .int .i64 (vars : Int), .int .i64 0, .int .i64 0, .int .i64 0, .bool true, .int .i64 (vars : Int), .int .i64 1, .int .i64 1, .int .i64 0])
      rw [show (w.alloc (.cells #[.int .i64 (vars : Int), .int .i64 (budget : Int), .int .i64 0, .int .i64 0, .slice (some ⟨w.heap.size + 1, 0, none⟩) 2 2] 75)).heap.size = w.heap.size + 1 by simp] at hb
      exact ⟨_, hb⟩
    · exact ⟨Nat.le_refl _, by unfold maxLen; omega⟩
    · exact ((Below.refl _ _).alloc (Nat.le_refl _) _).alloc (by simp) _
theorem rnew_ok (w : World) (vars budget : Int) : Calls Try.prog 40 #[.int .i64 vars, .int .i64 budget] w (RNewPost vars budget w) := by
  cases hok : okNew vars budget with
  | true =>
    have hok' := hok
    unfold okNew at hok'
    simp only [Bool.and_eq_true, decide_eq_true_eq] at hok'
    obtain ⟨v, rfl⟩ : ∃ v : Nat, vars = (v : Int) := ⟨vars.toNat, by omega⟩
    obtain ⟨b, rfl⟩ : ∃ b : Nat, budget = (b : Int) := ⟨budget.toNat, by omega⟩
    exact (rnew_yes w v b (by omega) (by omega) (by omega)).mono fun _ _ h => ⟨.inl ⟨hok, h.1⟩, h.2⟩
  | false =>
    have hok' := hok
    unfold okNew at hok'
    simp only [Bool.and_eq_false_iff, decide_eq_false_iff_not] at hok'
    have HOK := Lib.hid hok
    clear hok
    have fin : ∀ w', Below w.heap.size w w' → RNewPost vars budget w (.returned (.tuple #[.agg rzero, .int .i64 1])) w' := fun w' h => ⟨.inr ⟨HOK.out, rfl⟩, h⟩
    have FIN := Lib.hid fin
    clear fin
    have hc : (vars < 0) ∨ (¬ vars < 0 ∧ 256 < vars) ∨ (¬ vars < 0 ∧ ¬ 256 < vars ∧ budget < 2) ∨ (¬ vars < 0 ∧ ¬ 256 < vars ∧ ¬ budget < 2 ∧ 1048576 < budget) := by omega
    clear hok'
    rcases hc with h1 | ⟨h1, h2⟩ | ⟨h1, h2, h3⟩ | ⟨h1, h2, h3, h4⟩
    · have d1 := decide_eq_true h1
      clear h1
      go_enter Try.func40, Try.ntmps40
      go_wp2_with fail
      refine bodyPost_ret (v := .tuple #[.agg rzero, .int .i64 1]) ?_ rfl ?_
      · rw [results_cellT rfl]; go_simp
      · exact FIN.out _ ((Below.refl _ _).alloc (Nat.le_refl _) _)
    · have d1 := decide_eq_false h1; have d2 := decide_eq_true h2
      clear h1 h2
      go_enter Try.func40, Try.ntmps40
      go_wp2_with fail
      refine bodyPost_ret (v := .tuple #[.agg rzero, .int .i64 1]) ?_ rfl ?_
      · rw [results_cellT rfl]; go_simp
      · exact FIN.out _ ((Below.refl _ _).alloc (Nat.le_refl _) _)
    · have d1 := decide_eq_false h1; have d2 := decide_eq_false h2; have d3 := decide_eq_true h3
      clear h1 h2 h3
      go_enter Try.func40, Try.ntmps40
      go_wp2_with fail
      refine bodyPost_ret (v := .tuple #[.agg rzero, .int .i64 1]) ?_ rfl ?_
      · rw [results_cellT rfl]; go_simp
      · exact FIN.out _ ((Below.refl _ _).alloc (Nat.le_refl _) _)
    · have d1 := decide_eq_false h1; have d2 := decide_eq_false h2; have d3 := decide_eq_false h3; have d4 := decide_eq_true h4
      clear h1 h2 h3 h4
      go_enter Try.func40, Try.ntmps40
      go_wp2_with fail
      refine bodyPost_ret (v := .tuple #[.agg rzero, .int .i64 1]) ?_ rfl ?_
      · rw [results_cellT rfl]; go_simp
      · exact FIN.out _ ((Below.refl _ _).alloc (Nat.le_refl _) _)
end Go.Proofs.Ytdalnhhenahcjaa
