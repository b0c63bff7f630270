/- The contracts of Node, Eval, Pin, Unpin (layer 3). -/
import Derived.Test.YtoegenacjhmicaaNodeB
import Derived.Test.YtoegenacjhmicaaNodeQ
import Derived.BigQuiet
import Derived.Deep.LoopGhost
namespace Go.Proofs.Ytoegenacjhmicaa
open Go.RowKit HP NP
theorem w64 (x : Int) (h1 : -9223372036854775808 ≤ x) (h2 : x ≤ 9223372036854775807) : wrap64 x = x := by unfold wrap64; omega
theorem ret_bi {k : IntKind} {a b : Bool} {c d : Int} (h : a = b) (h2 : c = d) : Ending.returned (.tuple #[.bool a, .int k c]) = .returned (.tuple #[.bool b, .int k d]) := by rw [h, h2]
def askV (S : NS) (k : Int) : Value := if isK S.l k then .tuple #[.int .i64 ((nd S.l k.toNat).v : Int), .int .i64 ((nd S.l k.toNat).low : Int), .int .i64 ((nd S.l k.toNat).high : Int), .int .i64 0] else .tuple #[.int .i64 0, .int .i64 0, .int .i64 0, .int .i64 3]
set_option maxHeartbeats 1000000 in
theorem nask_ok (w : World) (B p : Nat) (S : NS) (h : Sto w B p S) (k : Int) : Calls Try.prog 51 #[.pointer (some ⟨p, 0, none⟩), .int .i64 k] w fun e w' => e = .returned (askV S k) ∧ ∃ n, w' = w.drewN n := by
  have HF := Lib.hid (nfind_ok w B p S h k)
  obtain ⟨g, q, cap, fa, fc, M, h⟩ := h
  have c2 : w.cell? ⟨p, 2, none⟩ = some (.slice (some ⟨g, 0, none⟩) S.l.length cap) := h.tab.cell 2
  have hlm := h.wf.lm
  have H := Lib.hid h
  clear h
  cases hk : isK S.l k with
  | false =>
    have hv : askV S k = .tuple #[.int .i64 0, .int .i64 0, .int .i64 0, .int .i64 3] := by unfold askV; rw [hk]; rfl
    have hf : findE S k = 3 := by unfold findE; rw [hk]; rfl
    have HV := Lib.hid hv; have HFE := Lib.hid hf
    clear hv hk hf
    go_enter Try.func51, Try.ntmps51
    go_wp2_with fail
    refine HF.out.mono ?_
    rintro e w' ⟨rfl, rfl⟩
    rw [HFE.out]
    go_wp2_with fail
    refine bodyPost_ret (v := .tuple #[.int .i64 0, .int .i64 0, .int .i64 0, .int .i64 3]) (by simp [results, Try.results51, go_sem]) rfl ⟨by rw [HV.out], 0, rfl⟩
  | true =>
    obtain ⟨m, rfl, hb⟩ := isK_out hk
    have hm := isB_lt hb
    have hv : askV S m = .tuple #[.int .i64 ((nd S.l m).v : Int), .int .i64 ((nd S.l m).low : Int), .int .i64 ((nd S.l m).high : Int), .int .i64 0] := by unfold askV; rw [hk]; rfl
    have hf : findE S m = 0 := by unfold findE; rw [hk]; rfl
    have HV := Lib.hid hv; have HFE := Lib.hid hf
    obtain ⟨gl, _, x1, x2, x3, _⟩ := H.out.nd_ hm
    clear hv hk hf hb
    go_enter Try.func51, Try.ntmps51
    go_wp2_with fail
    refine HF.out.mono ?_
    rintro e w' ⟨rfl, rfl⟩
    rw [HFE.out]
    go_wp2_with fail
    go_quiet (fail)
    go_wp2_with fail
    refine bodyPost_ret (v := .tuple #[.int .i64 ((nd S.l m).v : Int), .int .i64 ((nd S.l m).low : Int), .int .i64 ((nd S.l m).high : Int), .int .i64 0]) (by simp [results, Try.results51, go_sem]) rfl ⟨by rw [HV.out], _, rfl⟩
theorem Says.alk {l l' : List Nd} {M : Key → Option Int} (h : Says l M) (ha : Alk l l') : Says l' M := fun c v => by
  rw [h c v]
  constructor
  · rintro ⟨k, ⟨h2, hb, hc⟩, e⟩; exact ⟨k, ⟨h2, by rw [ha.is]; exact hb, by rw [ha.ky]; exact hc⟩, e⟩
  · rintro ⟨k, ⟨h2, hb, hc⟩, e⟩; exact ⟨k, ⟨h2, by rw [ha.is] at hb; exact hb, by rw [ha.ky] at hc; exact hc⟩, e⟩
/-- pins stored -/
theorem StIn.pin {w : World} {B p g q cap : Nat} {fa : Option Addr} {fc : Nat} {M : Key → Option Int} {S : NS} (h : StIn w B p g q cap fa fc M S) {m n : Nat} (hm : isB S.l m = true) (hn : n ≤ 1073741824) :
    StIn (w.setCell ⟨g, m * 5 + 4, none⟩ (.int .i64 (n : Int))) B p g q cap fa fc M { S with l := pinN S.l m n } ∧ Kp TN B w (w.setCell ⟨g, m * 5 + 4, none⟩ (.int .i64 (n : Int))) := by
  have hl := isB_lt hm
  have ha := Alk.pin hl n
  obtain ⟨cs, hc, hB⟩ := own_blk h.row
  have hk : Kp (fun t => t == 120) B w (w.setCell ⟨g, m * 5 + 4, none⟩ (.int .i64 (n : Int))) := Kp.set hc (by rfl) hB _ _
  refine ⟨{ wf := h.wf.pin hm hn, hp := h.hp, tab := ?_, row := ?_, fre := ?_, frt := h.frt.kp hk rfl, frc := ?_, has := ?_, rep := h.rep.alk ha }, hk.mono (fun t ht => ?_) (Nat.le_refl _)⟩
  · show Blk _ p _ #[_, _, .slice (some ⟨g, 0, none⟩) (pinN S.l m n).length cap, .slice fa (frees (pinN S.l m n)).length fc, _, .int .i64 (cnt (pinN S.l m n) : Int), _, _]
    rw [len_pin, ha.frees, ha.cnt]
    exact hk.blk h.tab rfl
  · show World.ownsRow _ B _ 5 (.slice _ (pinN S.l m n).length cap) (pinN S.l m n).length ((pinN S.l m n).flatMap ndCells)
    rw [len_pin]
    have hs := (World.ownsRow.stored h.row (m * 5 + 4) (.int .i64 (n : Int))).1
    rw [flat_setj ndCells 5 (fun _ => rfl) S.l m 4 (nd S.l m) { nd S.l m with pins := n } (nd_lt hl) _ (by decide) rfl] at hs
    exact hs
  · show Cells _ fa ((frees (pinN S.l m n)).reverse.map _)
    rw [ha.frees]
    exact h.fre.kp h.frt hk rfl
  · show (frees (pinN S.l m n)).length ≤ fc ∧ fc ≤ maxLen
    rw [ha.frees]; exact h.frc
  · show HB _ B q M (cnt (pinN S.l m n) - 2)
    rw [ha.cnt]
    exact h.has.kp hk rfl rfl
  · have : t = 120 := by simpa using ht
    subst this; rfl
def pinS (S : NS) (k : Int) : NS × Int := if isK S.l k then (if 1073741824 ≤ (nd S.l k.toNat).pins then (S, 2) else ({ S with l := pinN S.l k.toNat ((nd S.l k.toNat).pins + 1) }, 0)) else (S, 3)
def unpinS (S : NS) (k : Int) : NS × Int := if isK S.l k then (if (nd S.l k.toNat).pins = 0 then (S, 3) else ({ S with l := pinN S.l k.toNat ((nd S.l k.toNat).pins - 1) }, 0)) else (S, 3)
/-- what Eval answers -/
def evB (S : NS) (vals : List Bool) (k : Int) : Bool := if isK S.l k then den S.l (rho vals) k.toNat else false
end Go.Proofs.Ytoegenacjhmicaa
