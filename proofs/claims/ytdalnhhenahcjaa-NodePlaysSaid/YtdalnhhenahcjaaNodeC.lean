/- The contracts of Node, Eval, Pin, Unpin (layer 3). -/
import Derived.Test.YtdalnhhenahcjaaNodeB
import Derived.Test.YtdalnhhenahcjaaNodeQ
import Derived.BigQuiet
import Derived.Deep.LoopGhost
namespace Go.Proofs.Ytdalnhhenahcjaa
open Go.RowKit HP NP
theorem w64 (x : Int) (h1 : -9223372036854775808 ≤ x) (h2 : x ≤ 9223372036854775807) : wrap64 x = x := by unfold wrap64; omega
theorem ret_bi {k : IntKind} {a b : Bool} {c d : Int} (h : a = b) (h2 : c = d) : Ending.returned (.tuple #[.bool a, .int k c]) = .returned (.tuple #[.bool b, .int k d]) := by rw [h, h2]
def askV (S : NS) (k : Int) : Value := if isK S.l k then .tuple #[.int .i64 ((nd S.l k.toNat).v : Int), .int .i64 ((nd S.l k.toNat).low : Int), .int .i64 ((nd S.l k.toNat).high : Int), .int .i64 0] else .tuple #[.int .i64 0, .int .i64 0, .int .i64 0, .int .i64 3]
set_option maxHeartbeats 1000000 in
theorem nask_ok (w : World) (B p : Nat) (S : NS) (h : Sto w B p S) (k : Int) : Calls Try.prog 31 #[.pointer (some ⟨p, 0, none⟩), .int .i64 k] w fun e w' => e = .returned (askV S k) ∧ ∃ n, w' = w.drewN n := by
  have HF := Lib.hid (nfind_ok w B p S h k)
  obtain ⟨g, q, cap, fa, fc, M, h⟩ := h
  have c2 : w.cell? ⟨p, 2, none⟩ = some (.slice (some ⟨g, 0, none⟩) S.l.length cap) := h.tab.cell 2
  have hlm := h.wf.lm
  have H := Lib.hid h
  clear h
  cases hk : isK S.l k with
  | false =>
    have hv : askV S k = .tuple #[.int .i64 0, .int .i64 0, .int .i64 0, .int .i64 3] := by unfold askV; rw [hk]; rfl
    have hf : findE S k = 3 := by unfold findE; rw [hk]; rfl
    have HV := Lib.hid hv; have HFE := Lib.hid hf
    clear hv hk hf
    go_enter Try.func31, Try.ntmps31
    go_wp2_with fail
    refine HF.out.mono ?_
    rintro e w' ⟨rfl, rfl⟩
    rw [HFE.out]
    go_wp2_with fail
    refine bodyPost_ret (v := .tuple #[.int .i64 0, .int .i64 0, .int .i64 0, .int .i64 3]) (by simp [results, Try.results31, go_sem]) rfl ⟨by rw [HV.out], 0, rfl⟩
  | true =>
    obtain ⟨m, rfl, hb⟩ := isK_out hk
    have hm := isB_lt hb
    have hv : askV S m = .tuple #[.int .i64 ((nd S.l m).v : Int), .int .i64 ((nd S.l m).low : Int), .int .i64 ((nd S.l m).high : Int), .int .i64 0] := by unfold askV; rw [hk]; rfl
    have hf : findE S m = 0 := by unfold findE; rw [hk]; rfl
    have HV := Lib.hid hv; have HFE := Lib.hid hf
    obtain ⟨gl, _, x1, x2, x3, _⟩ := H.out.nd_ hm
    clear hv hk hf hb
    go_enter Try.func31, Try.ntmps31
    go_wp2_with fail
    refine HF.out.mono ?_
    rintro e w' ⟨rfl, rfl⟩
    rw [HFE.out]
    go_wp2_with fail
    go_quiet (fail)
    go_wp2_with fail
    refine bodyPost_ret (v := .tuple #[.int .i64 ((nd S.l m).v : Int), .int .i64 ((nd S.l m).low : Int), .int .i64 ((nd S.l m).high : Int), .int .i64 0]) (by simp [results, Try.results31, go_sem]) rfl ⟨by rw [HV.out], _, rfl⟩
theorem Says.alk {l l' : List Nd} {M : Key → Option Int} (h : Says l M) (ha : Alk l l') : Says l' M := fun c v => by
  rw [h c v]
  constructor
  · rintro ⟨k, ⟨h2, hb, hc⟩, e⟩; exact ⟨k, ⟨h2, by rw [ha.is]; exact hb, by rw [ha.ky]; exact hc⟩, e⟩
  · rintro ⟨k, ⟨h2, hb, hc⟩, e⟩; exact ⟨k, ⟨h2, by rw [ha.is] at hb; exact hb, by rw [ha.ky] at hc; exact hc⟩, e⟩
/-- pins stored -/
theorem StIn.pin {w : World} {B p g q cap : Nat} {fa : Option Addr} {fc : Nat} {M : Key → Option Int} {S : NS} (h : StIn w B p g q cap fa fc M S) {m n : Nat} (hm : isB S.l m = true) (hn : n ≤ 1073741824) :
    StIn (w.setCell ⟨g, m * 5 + 4, none⟩ (.int .i64 (n : Int))) B p g q cap fa fc M { S with l := pinN S.l m n } ∧ Kp TN B w (w.setCell ⟨g, m * 5 + 4, none⟩ (.int .i64 (n : Int))) := by
  have hl := isB_lt hm
  have ha := Alk.pin hl n
  obtain ⟨cs, hc, hB⟩ := own_blk h.row
  have hk : Kp (fun t => t == 99) B w (w.setCell ⟨g, m * 5 + 4, none⟩ (.int .i64 (n : Int))) := Kp.set hc (by rfl) hB _ _
  refine ⟨{ wf := h.wf.pin hm hn, hp := h.hp, tab := ?_, row := ?_, fre := ?_, frt := h.frt.kp hk rfl, frc := ?_, has := ?_, rep := h.rep.alk ha }, hk.mono (fun t ht => ?_) (Nat.le_refl _)⟩
  · show Blk _ p _ #[_, _, .slice (some ⟨g, 0, none⟩) (pinN S.l m n).length cap, .slice fa (frees (pinN S.l m n)).length fc, _, .int .i64 (cnt (pinN S.l m n) : Int), _, _]
    rw [len_pin, ha.frees, ha.cnt]
    exact hk.blk h.tab rfl
  · show World.ownsRow _ B _ 5 (.slice _ (pinN S.l m n).length cap) (pinN S.l m n).length ((pinN S.l m n).flatMap ndCells)
    rw [len_pin]
    have hs := (World.ownsRow.stored h.row (m * 5 + 4) (.int .i64 (n : Int))).1
    rw [flat_setj ndCells 5 (fun _ => rfl) S.l m 4 (nd S.l m) { nd S.l m with pins := n } (nd_lt hl) _ (by decide) rfl] at hs
    exact hs
  · show Cells _ fa ((frees (pinN S.l m n)).reverse.map _)
    rw [ha.frees]
    exact h.fre.kp h.frt hk rfl
  · show (frees (pinN S.l m n)).length ≤ fc ∧ fc ≤ maxLen
    rw [ha.frees]; exact h.frc
  · show HB _ B q M (cnt (pinN S.l m n) - 2)
    rw [ha.cnt]
    exact h.has.kp hk rfl rfl
  · have : t = 99 := by simpa using ht
    subst this; rfl
def pinS (S : NS) (k : Int) : NS × Int := if isK S.l k then (if 1073741824 ≤ (nd S.l k.toNat).pins then (S, 2) else ({ S with l := pinN S.l k.toNat ((nd S.l k.toNat).pins + 1) }, 0)) else (S, 3)
def unpinS (S : NS) (k : Int) : NS × Int := if isK S.l k then (if (nd S.l k.toNat).pins = 0 then (S, 3) else ({ S with l := pinN S.l k.toNat ((nd S.l k.toNat).pins - 1) }, 0)) else (S, 3)
set_option maxHeartbeats 1000000 in
theorem npin_ok (w : World) (B p : Nat) (S : NS) (h : Sto w B p S) (k : Int) : Calls Try.prog 38 #[.pointer (some ⟨p, 0, none⟩), .int .i64 k] w fun e w' => e = .returned (.int .i64 (pinS S k).2) ∧ Sto w' B p (pinS S k).1 ∧ Kp TN B w w' := by
  have HF := Lib.hid (nfind_ok w B p S h k)
  have HS := Lib.hid h
  obtain ⟨g, q, cap, fa, fc, M, h⟩ := h
  have c2 : w.cell? ⟨p, 2, none⟩ = some (.slice (some ⟨g, 0, none⟩) S.l.length cap) := h.tab.cell 2
  have hlm := h.wf.lm
  have H := Lib.hid h
  clear h
  cases hk : isK S.l k with
  | false =>
    have hv : pinS S k = (S, 3) := by unfold pinS; rw [hk]; rfl
    have hf : findE S k = 3 := by unfold findE; rw [hk]; rfl
    have HV := Lib.hid hv; have HFE := Lib.hid hf
    clear hv hk hf
    go_enter Try.func38, Try.ntmps38
    go_wp2_with fail
    refine HF.out.mono ?_
    rintro e w' ⟨rfl, rfl⟩
    rw [HFE.out]
    go_wp2_with fail
    go_ret
    exact ⟨ret_int (by rw [HV.out]), by rw [HV.out]; exact HS.out, Kp.refl _ _ _⟩
  | true =>
    obtain ⟨m, rfl, hb⟩ := isK_out hk
    have hm := isB_lt hb
    have hf : findE S m = 0 := by unfold findE; rw [hk]; rfl
    have HFE := Lib.hid hf; have HK := Lib.hid hk; have HBB := Lib.hid hb
    obtain ⟨gl, _, _, _, _, x4⟩ := H.out.nd_ hm
    have hpm := H.out.wf.pins m
    have gf := World.ownsRow.frozenAt H.out.row (m * 5 + 4)
    obtain ⟨n, hn⟩ : ∃ n, n = (nd S.l m).pins := ⟨_, rfl⟩
    rw [← hn] at x4 hpm
    have HN := Lib.hid hn
    clear hk hf hb hn
    by_cases hp : 1073741824 ≤ n
    · have hv : pinS S m = (S, 2) := by unfold pinS; rw [HK.out]; simp [← HN.out, hp]
      have HV := Lib.hid hv
      have d1 : decide ((1073741824 : Int) ≤ (n : Int)) = true := decide_eq_true (by omega)
      clear hv hp hpm
      go_enter Try.func38, Try.ntmps38
      go_wp2_with fail
      refine HF.out.mono ?_
      rintro e w' ⟨rfl, rfl⟩
      rw [HFE.out]
      go_wp2_with fail
      go_ret
      exact ⟨ret_int (by rw [HV.out]), by rw [HV.out]; exact HS.out, Kp.refl _ _ _⟩
    · have hv : pinS S m = ({ S with l := pinN S.l m (n + 1) }, 0) := by unfold pinS; rw [HK.out]; simp [← HN.out, hp]
      have HV := Lib.hid hv
      have d1 : decide ((1073741824 : Int) ≤ (n : Int)) = false := decide_eq_false (by omega)
      have hn2 : n + 1 ≤ 1073741824 := by omega
      have HN2 := Lib.hid hn2
      clear hv hp hpm hn2
      go_enter Try.func38, Try.ntmps38
      go_wp2_with fail
      refine HF.out.mono ?_
      rintro e w' ⟨rfl, rfl⟩
      rw [HFE.out]
      go_wp2_with fail
      have e : wrap64 ((n : Int) + 1) = ((n + 1 : Nat) : Int) := by rw [w64 _ (by omega) (by have := HN2.out; omega)]; rfl
      rw [e]
      go_ret
      obtain ⟨r1, r2⟩ := H.out.pin HBB.out HN2.out
      exact ⟨ret_int (by rw [HV.out]), by rw [HV.out]; exact ⟨_, _, _, _, _, _, r1⟩, r2⟩
set_option maxHeartbeats 1000000 in
theorem nunpin_ok (w : World) (B p : Nat) (S : NS) (h : Sto w B p S) (k : Int) : Calls Try.prog 39 #[.pointer (some ⟨p, 0, none⟩), .int .i64 k] w fun e w' => e = .returned (.int .i64 (unpinS S k).2) ∧ Sto w' B p (unpinS S k).1 ∧ Kp TN B w w' := by
  have HF := Lib.hid (nfind_ok w B p S h k)
  have HS := Lib.hid h
  obtain ⟨g, q, cap, fa, fc, M, h⟩ := h
  have c2 : w.cell? ⟨p, 2, none⟩ = some (.slice (some ⟨g, 0, none⟩) S.l.length cap) := h.tab.cell 2
  have hlm := h.wf.lm
  have H := Lib.hid h
  clear h
  cases hk : isK S.l k with
  | false =>
    have hv : unpinS S k = (S, 3) := by unfold unpinS; rw [hk]; rfl
    have hf : findE S k = 3 := by unfold findE; rw [hk]; rfl
    have HV := Lib.hid hv; have HFE := Lib.hid hf
    clear hv hk hf
    go_enter Try.func39, Try.ntmps39
    go_wp2_with fail
    refine HF.out.mono ?_
    rintro e w' ⟨rfl, rfl⟩
    rw [HFE.out]
    go_wp2_with fail
    go_ret
    exact ⟨ret_int (by rw [HV.out]), by rw [HV.out]; exact HS.out, Kp.refl _ _ _⟩
  | true =>
    obtain ⟨m, rfl, hb⟩ := isK_out hk
    have hm := isB_lt hb
    have hf : findE S m = 0 := by unfold findE; rw [hk]; rfl
    have HFE := Lib.hid hf; have HK := Lib.hid hk; have HBB := Lib.hid hb
    obtain ⟨gl, _, _, _, _, x4⟩ := H.out.nd_ hm
    have hpm := H.out.wf.pins m
    have gf := World.ownsRow.frozenAt H.out.row (m * 5 + 4)
    obtain ⟨n, hn⟩ : ∃ n, n = (nd S.l m).pins := ⟨_, rfl⟩
    rw [← hn] at x4 hpm
    have HN := Lib.hid hn
    clear hk hf hb hn
    by_cases hp : n = 0
    · have hv : unpinS S m = (S, 3) := by unfold unpinS; rw [HK.out]; simp [← HN.out, hp]
      have HV := Lib.hid hv
      have d1 : ((n : Int) == 0) = true := by simpa using hp
      clear hv hp hpm
      go_enter Try.func39, Try.ntmps39
      go_wp2_with fail
      refine HF.out.mono ?_
      rintro e w' ⟨rfl, rfl⟩
      rw [HFE.out]
      go_wp2_with fail
      go_ret
      exact ⟨ret_int (by rw [HV.out]), by rw [HV.out]; exact HS.out, Kp.refl _ _ _⟩
    · have hv : unpinS S m = ({ S with l := pinN S.l m (n - 1) }, 0) := by unfold unpinS; rw [HK.out]; simp [← HN.out, hp]
      have HV := Lib.hid hv
      have d1 : ((n : Int) == 0) = false := by simpa using hp
      have hn2 : 0 < n ∧ n - 1 ≤ 1073741824 := by omega
      have HN2 := Lib.hid hn2
      clear hv hp hpm hn2
      go_enter Try.func39, Try.ntmps39
      go_wp2_with fail
      refine HF.out.mono ?_
      rintro e w' ⟨rfl, rfl⟩
      rw [HFE.out]
      go_wp2_with fail
      have e : wrap64 ((n : Int) - 1) = ((n - 1 : Nat) : Int) := by have := HN2.out; rw [w64 _ (by omega) (by omega)]; omega
      rw [e]
      go_ret
      obtain ⟨r1, r2⟩ := H.out.pin HBB.out HN2.out.2
      exact ⟨ret_int (by rw [HV.out]), by rw [HV.out]; exact ⟨_, _, _, _, _, _, r1⟩, r2⟩
/-- what Eval answers -/
def evB (S : NS) (vals : List Bool) (k : Int) : Bool := if isK S.l k then den S.l (rho vals) k.toNat else false
set_option maxHeartbeats 1000000 in
theorem neval_ok (w : World) (B p : Nat) (S : NS) (h : Sto w B p S) (k : Int) (va : Option Addr) (vals : List Bool) (vc : Nat) (hvl : vals.length ≤ maxLen) (hvs : Cells w va (vals.map Value.bool)) :
    Calls Try.prog 28 #[.pointer (some ⟨p, 0, none⟩), .int .i64 k, .slice va vals.length vc] w fun e w' => e = .returned (.tuple #[.bool (evB S vals k), .int .i64 (findE S k)]) ∧ Below w.heap.size w w' := by
  have hvl' : vals.length ≤ 9223372036854775807 := by unfold maxLen at hvl; omega
  have HF := Lib.hid (nfind_ok w B p S h k)
  have HS := Lib.hid h
  obtain ⟨g, q, cap, fa, fc, M, h⟩ := h
  have c2 : w.cell? ⟨p, 2, none⟩ = some (.slice (some ⟨g, 0, none⟩) S.l.length cap) := h.tab.cell 2
  have hpl : p < w.heap.size := h.tab.lt
  have hlm := h.wf.lm
  have H := Lib.hid h
  clear h hvl
  cases hk : isK S.l k with
  | false =>
    have hv : evB S vals k = false := by unfold evB; rw [hk]; rfl
    have hf : findE S k = 3 := by unfold findE; rw [hk]; rfl
    have HV := Lib.hid hv; have HFE := Lib.hid hf
    clear hv hk hf
    go_enter Try.func28, Try.ntmps28
    go_wp2_with fail
    refine HF.out.mono ?_
    rintro e w' ⟨rfl, rfl⟩
    rw [HFE.out]
    go_wp2_with fail
    go_ret2
    exact ⟨ret_bi HV.out.symm HFE.out.symm, Below.refl _ _⟩
  | true =>
    obtain ⟨m, rfl, hb⟩ := isK_out hk
    have hf : findE S m = 0 := by unfold findE; rw [hk]; rfl
    have hv : evB S vals m = den S.l (rho vals) m := by unfold evB; rw [hk]; rfl
    have HV := Lib.hid hv; have HFE := Lib.hid hf; have HBB := Lib.hid hb
    clear hv hk hf hb
    go_enter Try.func28, Try.ntmps28
    go_wp2_with fail
    refine HF.out.mono ?_
    rintro e w' ⟨rfl, rfl⟩
    rw [HFE.out]
    go_wp2_with fail
    go_loopg [1] (S.vars - (nd S.l m).v) (fun f x wr => ∃ j : Nat, x = .int .i64 (j : Int) ∧ isB S.l j = true ∧ f + (nd S.l j).v = S.vars ∧ den S.l (rho vals) m = den S.l (rho vals) j ∧ Below w.heap.size w wr)
    case atStart => exact ⟨m, rfl, HBB.out, by have := H.out.wf.vle HBB.out; omega, rfl, Below.refl _ _⟩
    case round =>
      rename_i f
      obtain ⟨j, rfl, hj, hf, hden, hB⟩ := hrel
      have HJ := Lib.hid hj; have HFF := Lib.hid hf; have HDEN := Lib.hid hden; have HB := Lib.hid hB
      have c2' : wr.cell? ⟨p, 2, none⟩ = some (.slice (some ⟨g, 0, none⟩) S.l.length cap) := (hB.cell (p := ⟨p, 2, none⟩) hpl).trans c2
      clear hj hf hden hB
      by_cases h2 : 2 ≤ j
      · have hjl := isB_lt HJ.out
        obtain ⟨gl, x0, x1, x2, x3, x4⟩ := H.out.nd_ hjl
        rw [← HB.out.cell (p := ⟨g, _, none⟩) gl] at x0 x1 x2 x3 x4
        have hn := H.out.wf.nxt h2 HJ.out (rho vals)
        have hds := den_step H.out.wf (rho vals) h2 HJ.out
        have HN := Lib.hid hn; have HDS := Lib.hid hds
        clear hn hds
        obtain ⟨v, hv⟩ : ∃ v, v = (nd S.l j).v := ⟨_, rfl⟩
        rw [← hv] at x1
        have HVV := Lib.hid hv
        clear hv
        by_cases hvl : v < vals.length
        · obtain ⟨b, hb⟩ : ∃ b, b = vals[v] := ⟨_, rfl⟩
          obtain ⟨vb, vo, rfl, hvb, vx⟩ := hvs.at_ (k := v) (v := .bool b) (by rw [List.getElem?_map, List.getElem?_eq_getElem hvl, hb]; rfl)
          rw [← HB.out.cell (p := ⟨vb, _, none⟩) hvb] at vx
          have hvb' : vb < wr.heap.size := by have := HB.out.size; omega
          have hr : rho vals v = b := by unfold rho; rw [List.getD_eq_getElem?_getD, List.getElem?_eq_getElem hvl, hb]; rfl
          have HRR := Lib.hid hr
          clear hr hb
          cases b with
          | false =>
            go_wp2_with fail
            go_roundg (S.vars - (nd S.l (nxt S.l (rho vals) j)).v)
            case measure => have := HN.out.2; have := HFF.out; have := H.out.wf.vle HN.out.1; omega
            case rel =>
              have e : nxt S.l (rho vals) j = (nd S.l j).low := by unfold nxt; rw [← HVV.out, HRR.out]; rfl
              rw [← e]
              exact ⟨_, rfl, HN.out.1, by have := H.out.wf.vle HN.out.1; omega, HDEN.out.trans HDS.out, HB.out.alloc HB.out.size _⟩
          | true =>
            go_wp2_with fail
            go_roundg (S.vars - (nd S.l (nxt S.l (rho vals) j)).v)
            case measure => have := HN.out.2; have := HFF.out; have := H.out.wf.vle HN.out.1; omega
            case rel =>
              have e : nxt S.l (rho vals) j = (nd S.l j).high := by unfold nxt; rw [← HVV.out, HRR.out]; rfl
              rw [← e]
              exact ⟨_, rfl, HN.out.1, by have := H.out.wf.vle HN.out.1; omega, HDEN.out.trans HDS.out, HB.out.alloc HB.out.size _⟩
        · have hr : rho vals v = false := by unfold rho; rw [List.getD_eq_getElem?_getD, List.getElem?_eq_none (by omega)]; rfl
          have HRR := Lib.hid hr
          have hge : vals.length ≤ v := by omega
          clear hr hvl
          go_wp2_with fail
          go_roundg (S.vars - (nd S.l (nxt S.l (rho vals) j)).v)
          case measure => have := HN.out.2; have := HFF.out; have := H.out.wf.vle HN.out.1; omega
          case rel =>
            have e : nxt S.l (rho vals) j = (nd S.l j).low := by unfold nxt; rw [← HVV.out, HRR.out]; rfl
            rw [← e]
            exact ⟨_, rfl, HN.out.1, by have := H.out.wf.vle HN.out.1; omega, HDEN.out.trans HDS.out, HB.out.alloc HB.out.size _⟩
      · have hlf := den_leaf S.l (rho vals) (k := j) (by omega)
        have hlt : j < 2 := by omega
        have HLF := Lib.hid hlf
        clear h2 hlf
        have hj01 : j = 0 ∨ j = 1 := by omega
        rcases hj01 with rfl | rfl
        all_goals
          go_wp2_with fail
          go_ret2
          exact ⟨ret_bi (by rw [HV.out, HDEN.out, HLF.out]; rfl) (by rw [HFE.out]), HB.out⟩
end Go.Proofs.Ytdalnhhenahcjaa
