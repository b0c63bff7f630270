/- The store of layer 3 in memory (Sto), and the contracts of given, find, Len, Vars, Made, Sweeps, Node. 
 The contracts of Node, Eval, Pin, Unpin (layer 3). -/
import Derived.Test.YtobhjkfkdkiigaaGreatDoorHashZ
import Derived.Test.YtobhjkfkdkiigaaGreatDoorRow
import Derived.Test.YtobhjkfkdkiigaaGreatDoorNodePZ
import Derived.Laws.LoneSync
import Derived.BigQuiet
import Derived.Deep.LoopGhost
namespace Go.Proofs.YtobhjkfkdkiigaaGreatDoor
open Go.RowKit HP NP
def ndCells (x : Nd) : List Value := [.bool x.is, .int .i64 (x.v : Int), .int .i64 (x.low : Int), .int .i64 (x.high : Int), .int .i64 (x.pins : Int)]
def TN (t : TypeId) : Bool := TH t || (t == 68 || t == 70)
def wr64 (n : Nat) : Int := wrap64 (n : Int)
/-- what a table of the nodes says -/
def Says (l : List Nd) (M : Key → Option Int) : Prop := ∀ (c : Key) (v : Int), M c = some v ↔ ∃ k : Nat, (2 ≤ k ∧ isB l k = true ∧ kyOf (nd l k) = c) ∧ v = (k : Int)
structure StIn (w : World) (B p g q cap : Nat) (fa : Option Addr) (fc : Nat) (M : Key → Option Int) (S : NS) : Prop where
  wf : Wf S
  hp : B ≤ p
  tab : Blk w p 68 #[.int .i64 (S.vars : Int), .int .i64 (S.budget : Int), .slice (some ⟨g, 0, none⟩) S.l.length cap, .slice fa (frees S.l).length fc, .pointer (some ⟨q, 0, none⟩), .int .i64 (cnt S.l : Int), .int .i64 (wr64 S.made), .int .i64 (wr64 S.sweeps)]
  row : w.ownsRow B 70 5 (.slice (some ⟨g, 0, none⟩) S.l.length cap) S.l.length (S.l.flatMap ndCells)
  fre : Cells w fa ((frees S.l).reverse.map fun k : Nat => .int .i64 (k : Int))
  frt : TB w fa 3
  frc : (frees S.l).length ≤ fc ∧ fc ≤ maxLen
  has : HB w B q M (cnt S.l - 2)
  rep : Says S.l M
/-- block p, made from B on, is a store -/
def Sto (w : World) (B p : Nat) (S : NS) : Prop := ∃ g q cap fa fc M, StIn w B p g q cap fa fc M S
theorem Cells.kb {T : TypeId → Bool} {w w' : World} {a : Option Addr} {t : TypeId} {xs : List Value} (h : Cells w a xs) (hT : TB w a t) (hk : Kb T w w') (ht : T t = false) : Cells w' a xs := fun hx => by
  obtain ⟨b, off, e, hb, hh⟩ := h hx
  obtain ⟨cs, hc⟩ := hT b off none e
  have hc' := hk _ _ _ hc ht
  exact ⟨b, off, e, hc'.lt, fun i v hv => by rw [hc'.cell, ← hc.cell]; exact hh i v hv⟩
theorem Cells.kp {T : TypeId → Bool} {B : Nat} {w w' : World} {a : Option Addr} {t : TypeId} {xs : List Value} (h : Cells w a xs) (hT : TB w a t) (hk : Kp T B w w') (ht : T t = false) : Cells w' a xs := h.kb hT hk.kb ht
theorem TB.kb {T : TypeId → Bool} {w w' : World} {a : Option Addr} {t : TypeId} (hT : TB w a t) (hk : Kb T w w') (ht : T t = false) : TB w' a t := fun b off s e => by
  obtain ⟨cs, hc⟩ := hT b off s e; exact ⟨cs, hk _ _ _ hc ht⟩
theorem TB.kp {T : TypeId → Bool} {B : Nat} {w w' : World} {a : Option Addr} {t : TypeId} (hT : TB w a t) (hk : Kp T B w w') (ht : T t = false) : TB w' a t := hT.kb hk.kb ht
theorem StIn.kb {T : TypeId → Bool} {w w' : World} {B p g q cap : Nat} {fa : Option Addr} {fc : Nat} {M : Key → Option Int} {S : NS} (h : StIn w B p g q cap fa fc M S) (hk : Kb T w w')
    (h1 : T 128 = false) (h2 : T 150 = false) (h3 : T 68 = false) (h4 : T 70 = false) (h5 : T 3 = false) : StIn w' B p g q cap fa fc M S :=
  { h with tab := hk _ _ _ h.tab h3, row := own_kb h.row hk h4, fre := h.fre.kb h.frt hk h5, frt := h.frt.kb hk h5, has := h.has.kb hk h1 h2 }
theorem StIn.kp {T : TypeId → Bool} {B' : Nat} {w w' : World} {B p g q cap : Nat} {fa : Option Addr} {fc : Nat} {M : Key → Option Int} {S : NS} (h : StIn w B p g q cap fa fc M S) (hk : Kp T B' w w')
    (h1 : T 128 = false) (h2 : T 150 = false) (h3 : T 68 = false) (h4 : T 70 = false) (h5 : T 3 = false) : StIn w' B p g q cap fa fc M S := h.kb hk.kb h1 h2 h3 h4 h5
theorem StIn.below {w w' : World} {B p g q cap : Nat} {fa : Option Addr} {fc : Nat} {M : Key → Option Int} {S : NS} (h : StIn w B p g q cap fa fc M S) (hb : Below w.heap.size w w') : StIn w' B p g q cap fa fc M S :=
  h.kp (T := fun _ => false) (B' := 0) (Kp.of_below hb) rfl rfl rfl rfl rfl
theorem Sto.kb {T : TypeId → Bool} {w w' : World} {B p : Nat} {S : NS} (h : Sto w B p S) (hk : Kb T w w')
    (h1 : T 128 = false) (h2 : T 150 = false) (h3 : T 68 = false) (h4 : T 70 = false) (h5 : T 3 = false) : Sto w' B p S := by
  obtain ⟨g, q, cap, fa, fc, M, h⟩ := h; exact ⟨g, q, cap, fa, fc, M, h.kb hk h1 h2 h3 h4 h5⟩
theorem Sto.kp {T : TypeId → Bool} {B' : Nat} {w w' : World} {B p : Nat} {S : NS} (h : Sto w B p S) (hk : Kp T B' w w')
    (h1 : T 128 = false) (h2 : T 150 = false) (h3 : T 68 = false) (h4 : T 70 = false) (h5 : T 3 = false) : Sto w' B p S := by
  obtain ⟨g, q, cap, fa, fc, M, h⟩ := h; exact ⟨g, q, cap, fa, fc, M, h.kp hk h1 h2 h3 h4 h5⟩
theorem Sto.below {w w' : World} {B p : Nat} {S : NS} (h : Sto w B p S) (hb : Below w.heap.size w w') : Sto w' B p S := h.kp (T := fun _ => false) (B' := 0) (Kp.of_below hb) rfl rfl rfl rfl rfl
theorem Sto.wf {w : World} {B p : Nat} {S : NS} (h : Sto w B p S) : Wf S := by obtain ⟨g, q, cap, fa, fc, M, h⟩ := h; exact h.wf
theorem Sto.ge {w : World} {B p : Nat} {S : NS} (h : Sto w B p S) : B ≤ p := by obtain ⟨g, q, cap, fa, fc, M, h⟩ := h; exact h.hp
theorem Sto.lt {w : World} {B p : Nat} {S : NS} (h : Sto w B p S) : p < w.heap.size := by obtain ⟨g, q, cap, fa, fc, M, h⟩ := h; exact h.tab.lt
/-- a node's cells -/
theorem StIn.nd_ {w : World} {B p g q cap : Nat} {fa : Option Addr} {fc : Nat} {M : Key → Option Int} {S : NS} (h : StIn w B p g q cap fa fc M S) {k : Nat} (hk : k < S.l.length) :
    g < w.heap.size ∧ w.cell? ⟨g, k * 5, none⟩ = some (.bool (nd S.l k).is) ∧ w.cell? ⟨g, k * 5 + 1, none⟩ = some (.int .i64 ((nd S.l k).v : Int)) ∧ w.cell? ⟨g, k * 5 + 2, none⟩ = some (.int .i64 ((nd S.l k).low : Int)) ∧ w.cell? ⟨g, k * 5 + 3, none⟩ = some (.int .i64 ((nd S.l k).high : Int)) ∧ w.cell? ⟨g, k * 5 + 4, none⟩ = some (.int .i64 ((nd S.l k).pins : Int)) := by
  obtain ⟨cs, hc, _⟩ := own_blk h.row
  have at_ := fun j v hj => own_at ndCells 5 (fun _ => rfl) h.row (i := k) (j := j) (v := v) (nd_lt hk) hj
  exact ⟨hc.lt, by simpa using at_ 0 _ rfl, at_ 1 _ rfl, at_ 2 _ rfl, at_ 3 _ rfl, at_ 4 _ rfl⟩

set_option maxHeartbeats 400000 in
theorem ngiven_ok (w : World) (B p : Nat) (S : NS) (h : Sto w B p S) : Calls Tryz.prog 46 #[.pointer (some ⟨p, 0, none⟩)] w fun e w' => e = .returned (.bool true) ∧ w = w' := by
  obtain ⟨g, q, cap, fa, fc, M, h⟩ := h
  have c4 : w.cell? ⟨p, 4, none⟩ = some (.pointer (some ⟨q, 0, none⟩)) := h.tab.cell 4
  clear h
  go_enter Tryz.func46, Tryz.ntmps46
  go_wp2
  go_ret
  exact ⟨rfl, rfl⟩
def findE (S : NS) (k : Int) : Int := if isK S.l k then 0 else 3
set_option maxHeartbeats 400000 in
theorem nfind_ok (w : World) (B p : Nat) (S : NS) (h : Sto w B p S) (k : Int) : Calls Tryz.prog 35 #[.pointer (some ⟨p, 0, none⟩), .int .i64 k] w fun e w' => e = .returned (.int .i64 (findE S k)) ∧ w = w' := by
  have HG := Lib.hid (ngiven_ok w B p S h)
  obtain ⟨g, q, cap, fa, fc, M, h⟩ := h
  have c2 : w.cell? ⟨p, 2, none⟩ = some (.slice (some ⟨g, 0, none⟩) S.l.length cap) := h.tab.cell 2
  have hlm := h.wf.lm
  have H := Lib.hid h
  clear h
  by_cases h0 : k < 0
  · have hf : findE S k = 3 := by unfold findE; rw [isK_neg h0]; rfl
    have HF := Lib.hid hf
    clear hf
    go_enter Tryz.func35, Tryz.ntmps35
    go_wp2_with fail
    refine HG.out.mono ?_
    rintro e w' ⟨rfl, rfl⟩
    go_wp2_with fail
    go_ret
    exact ⟨ret_int HF.out.symm, rfl⟩
  · obtain ⟨m, rfl⟩ : ∃ m : Nat, k = (m : Int) := ⟨k.toNat, by omega⟩
    have hf : findE S m = if isB S.l m then 0 else 3 := by unfold findE; rw [isK_nat]
    have HF := Lib.hid hf
    clear hf h0
    by_cases hm : m < S.l.length
    · obtain ⟨gl, b0, _⟩ := H.out.nd_ hm
      obtain ⟨b, hb⟩ : ∃ b, b = (nd S.l m).is := ⟨_, rfl⟩
      rw [← hb] at b0
      have HBB := Lib.hid hb
      clear hb
      cases b
      all_goals
        go_enter Tryz.func35, Tryz.ntmps35
        go_wp2_with fail
        refine HG.out.mono ?_
        rintro e w' ⟨rfl, rfl⟩
        go_wp2_with fail
        go_ret
        exact ⟨ret_int (by rw [HF.out]; unfold isB; rw [← HBB.out]; rfl), rfl⟩
    · have hge : S.l.length ≤ m := by omega
      clear hm
      go_enter Tryz.func35, Tryz.ntmps35
      go_wp2_with fail
      refine HG.out.mono ?_
      rintro e w' ⟨rfl, rfl⟩
      go_wp2_with fail
      go_ret
      exact ⟨ret_int (by rw [HF.out]; unfold isB; rw [nd_ge hge]; rfl), rfl⟩
set_option maxHeartbeats 400000 in
theorem nlen_ok (w : World) (B p : Nat) (S : NS) (h : Sto w B p S) : Calls Tryz.prog 18 #[.pointer (some ⟨p, 0, none⟩)] w fun e w' => e = .returned (.int .i64 (cnt S.l : Int)) ∧ w = w' := by
  have HG := Lib.hid (ngiven_ok w B p S h)
  obtain ⟨g, q, cap, fa, fc, M, h⟩ := h
  have c5 : w.cell? ⟨p, 5, none⟩ = some (.int .i64 (cnt S.l : Int)) := h.tab.cell 5
  clear h
  go_enter Tryz.func18, Tryz.ntmps18
  go_wp2_with fail
  refine HG.out.mono ?_
  rintro e w' ⟨rfl, rfl⟩
  go_wp2_with fail
  go_ret
  exact ⟨rfl, rfl⟩
set_option maxHeartbeats 400000 in
theorem nvars_ok (w : World) (B p : Nat) (S : NS) (h : Sto w B p S) : Calls Tryz.prog 23 #[.pointer (some ⟨p, 0, none⟩)] w fun e w' => e = .returned (.int .i64 (S.vars : Int)) ∧ w = w' := by
  have HG := Lib.hid (ngiven_ok w B p S h)
  obtain ⟨g, q, cap, fa, fc, M, h⟩ := h
  have c0 : w.cell? ⟨p, 0, none⟩ = some (.int .i64 (S.vars : Int)) := h.tab.cell 0
  clear h
  go_enter Tryz.func23, Tryz.ntmps23
  go_wp2_with fail
  refine HG.out.mono ?_
  rintro e w' ⟨rfl, rfl⟩
  go_wp2_with fail
  go_ret
  exact ⟨rfl, rfl⟩
set_option maxHeartbeats 400000 in
theorem aload_ok (w : World) (b o : Nat) (x : Int) (hc : w.cell? ⟨b, o, none⟩ = some (.int .i64 x)) : Calls Tryz.prog 104 #[.pointer (some ⟨b, o, none⟩)] w fun e w' => e = .returned (.int .i64 x) ∧ w = w' := by
  have hl := run_call_load (P := Tryz.prog) Tryz.func144 (by kernel_rfl) (by kernel_rfl) (by kernel_rfl) .i64 (by kernel_rfl) hc
  go_enter Tryz.func104, Tryz.ntmps104
  go_wp2
  go_ret
  exact ⟨rfl, rfl⟩
set_option maxHeartbeats 400000 in
theorem aadd_ok (w : World) (b o : Nat) (x : Int) (hc : w.cell? ⟨b, o, none⟩ = some (.int .i64 x)) (hz : w.frozen? ⟨b, o, none⟩ = false) : Calls Tryz.prog 49 #[.pointer (some ⟨b, o, none⟩), .int .i64 1] w fun e w' => e = .returned (.int .i64 (wrap64 (x + 1))) ∧ w' = w.setCell ⟨b, o, none⟩ (.int .i64 (wrap64 (x + 1))) := by
  have hl := run_call_add (P := Tryz.prog) Tryz.func74 (by kernel_rfl) (by kernel_rfl) (by kernel_rfl) .i64 (by kernel_rfl) (y := 1) (s := wrap64 (x + 1)) hc hz (by simp [go_sem, IntKind.wrap_i64, wrap64])
  go_enter Tryz.func49, Tryz.ntmps49
  go_wp2
  go_ret
  exact ⟨rfl, rfl⟩
set_option maxHeartbeats 400000 in
theorem nsweeps_ok (w : World) (B p : Nat) (S : NS) (h : Sto w B p S) : Calls Tryz.prog 82 #[.pointer (some ⟨p, 0, none⟩)] w fun e w' => e = .returned (.int .i64 (wr64 S.sweeps)) ∧ w = w' := by
  have HG := Lib.hid (ngiven_ok w B p S h)
  obtain ⟨g, q, cap, fa, fc, M, h⟩ := h
  have HL := Lib.hid (aload_ok w p 7 _ (h.tab.cell 7))
  clear h
  go_enter Tryz.func82, Tryz.ntmps82
  go_wp2_with fail
  refine HG.out.mono ?_
  rintro e w' ⟨rfl, rfl⟩
  go_wp2_with fail
  refine HL.out.mono ?_
  rintro e w' ⟨rfl, rfl⟩
  go_wp2_with fail
  go_ret
  exact ⟨rfl, rfl⟩
end Go.Proofs.YtobhjkfkdkiigaaGreatDoor

namespace Go.Proofs.YtobhjkfkdkiigaaGreatDoor
open Go.RowKit HP NP
theorem w64 (x : Int) (h1 : -9223372036854775808 ≤ x) (h2 : x ≤ 9223372036854775807) : wrap64 x = x := by unfold wrap64; omega
theorem ret_bi {k : IntKind} {a b : Bool} {c d : Int} (h : a = b) (h2 : c = d) : Ending.returned (.tuple #[.bool a, .int k c]) = .returned (.tuple #[.bool b, .int k d]) := by rw [h, h2]
def askV (S : NS) (k : Int) : Value := if isK S.l k then .tuple #[.int .i64 ((nd S.l k.toNat).v : Int), .int .i64 ((nd S.l k.toNat).low : Int), .int .i64 ((nd S.l k.toNat).high : Int), .int .i64 0] else .tuple #[.int .i64 0, .int .i64 0, .int .i64 0, .int .i64 3]
set_option maxHeartbeats 1000000 in
theorem nask_ok (w : World) (B p : Nat) (S : NS) (h : Sto w B p S) (k : Int) : Calls Tryz.prog 81 #[.pointer (some ⟨p, 0, none⟩), .int .i64 k] w fun e w' => e = .returned (askV S k) ∧ ∃ n, w' = w.drewN n := by
  have HF := Lib.hid (nfind_ok w B p S h k)
  obtain ⟨g, q, cap, fa, fc, M, h⟩ := h
  have c2 : w.cell? ⟨p, 2, none⟩ = some (.slice (some ⟨g, 0, none⟩) S.l.length cap) := h.tab.cell 2
  have hlm := h.wf.lm
  have H := Lib.hid h
  clear h
  cases hk : isK S.l k with
  | false =>
    have hv : askV S k = .tuple #[.int .i64 0, .int .i64 0, .int .i64 0, .int .i64 3] := by unfold askV; rw [hk]; rfl
    have hf : findE S k = 3 := by unfold findE; rw [hk]; rfl
    have HV := Lib.hid hv; have HFE := Lib.hid hf
    clear hv hk hf
    go_enter Tryz.func81, Tryz.ntmps81
    go_wp2_with fail
    refine HF.out.mono ?_
    rintro e w' ⟨rfl, rfl⟩
    rw [HFE.out]
    go_wp2_with fail
    refine bodyPost_ret (v := .tuple #[.int .i64 0, .int .i64 0, .int .i64 0, .int .i64 3]) (by simp [results, Tryz.results81, go_sem]) rfl ⟨by rw [HV.out], 0, rfl⟩
  | true =>
    obtain ⟨m, rfl, hb⟩ := isK_out hk
    have hm := isB_lt hb
    have hv : askV S m = .tuple #[.int .i64 ((nd S.l m).v : Int), .int .i64 ((nd S.l m).low : Int), .int .i64 ((nd S.l m).high : Int), .int .i64 0] := by unfold askV; rw [hk]; rfl
    have hf : findE S m = 0 := by unfold findE; rw [hk]; rfl
    have HV := Lib.hid hv; have HFE := Lib.hid hf
    obtain ⟨gl, _, x1, x2, x3, _⟩ := H.out.nd_ hm
    clear hv hk hf hb
    go_enter Tryz.func81, Tryz.ntmps81
    go_wp2_with fail
    refine HF.out.mono ?_
    rintro e w' ⟨rfl, rfl⟩
    rw [HFE.out]
    go_wp2_with fail
    go_quiet (fail)
    go_wp2_with fail
    refine bodyPost_ret (v := .tuple #[.int .i64 ((nd S.l m).v : Int), .int .i64 ((nd S.l m).low : Int), .int .i64 ((nd S.l m).high : Int), .int .i64 0]) (by simp [results, Tryz.results81, go_sem]) rfl ⟨by rw [HV.out], _, rfl⟩
theorem Says.alk {l l' : List Nd} {M : Key → Option Int} (h : Says l M) (ha : Alk l l') : Says l' M := fun c v => by
  rw [h c v]
  constructor
  · rintro ⟨k, ⟨h2, hb, hc⟩, e⟩; exact ⟨k, ⟨h2, by rw [ha.is]; exact hb, by rw [ha.ky]; exact hc⟩, e⟩
  · rintro ⟨k, ⟨h2, hb, hc⟩, e⟩; exact ⟨k, ⟨h2, by rw [ha.is] at hb; exact hb, by rw [ha.ky] at hc; exact hc⟩, e⟩
/-- pins stored -/
theorem StIn.pin {w : World} {B p g q cap : Nat} {fa : Option Addr} {fc : Nat} {M : Key → Option Int} {S : NS} (h : StIn w B p g q cap fa fc M S) {m n : Nat} (hm : isB S.l m = true) (hn : n ≤ 1073741824) :
    StIn (w.setCell ⟨g, m * 5 + 4, none⟩ (.int .i64 (n : Int))) B p g q cap fa fc M { S with l := pinN S.l m n } ∧ Kp TN B w (w.setCell ⟨g, m * 5 + 4, none⟩ (.int .i64 (n : Int))) := by
  have hl := isB_lt hm
  have ha := Alk.pin hl n
  obtain ⟨cs, hc, hB⟩ := own_blk h.row
  have hk : Kp (fun t => t == 70) B w (w.setCell ⟨g, m * 5 + 4, none⟩ (.int .i64 (n : Int))) := Kp.set hc (by rfl) hB _ _
  refine ⟨{ wf := h.wf.pin hm hn, hp := h.hp, tab := ?_, row := ?_, fre := ?_, frt := h.frt.kp hk rfl, frc := ?_, has := ?_, rep := h.rep.alk ha }, hk.mono (fun t ht => ?_) (Nat.le_refl _)⟩
  · show Blk _ p _ #[_, _, .slice (some ⟨g, 0, none⟩) (pinN S.l m n).length cap, .slice fa (frees (pinN S.l m n)).length fc, _, .int .i64 (cnt (pinN S.l m n) : Int), _, _]
    rw [len_pin, ha.frees, ha.cnt]
    exact hk.blk h.tab rfl
  · show World.ownsRow _ B _ 5 (.slice _ (pinN S.l m n).length cap) (pinN S.l m n).length ((pinN S.l m n).flatMap ndCells)
    rw [len_pin]
    have hs := (World.ownsRow.stored h.row (m * 5 + 4) (.int .i64 (n : Int))).1
    rw [flat_setj ndCells 5 (fun _ => rfl) S.l m 4 (nd S.l m) { nd S.l m with pins := n } (nd_lt hl) _ (by decide) rfl] at hs
    exact hs
  · show Cells _ fa ((frees (pinN S.l m n)).reverse.map _)
    rw [ha.frees]
    exact h.fre.kp h.frt hk rfl
  · show (frees (pinN S.l m n)).length ≤ fc ∧ fc ≤ maxLen
    rw [ha.frees]; exact h.frc
  · show HB _ B q M (cnt (pinN S.l m n) - 2)
    rw [ha.cnt]
    exact h.has.kp hk rfl rfl
  · have : t = 70 := by simpa using ht
    subst this; rfl
def pinS (S : NS) (k : Int) : NS × Int := if isK S.l k then (if 1073741824 ≤ (nd S.l k.toNat).pins then (S, 2) else ({ S with l := pinN S.l k.toNat ((nd S.l k.toNat).pins + 1) }, 0)) else (S, 3)
def unpinS (S : NS) (k : Int) : NS × Int := if isK S.l k then (if (nd S.l k.toNat).pins = 0 then (S, 3) else ({ S with l := pinN S.l k.toNat ((nd S.l k.toNat).pins - 1) }, 0)) else (S, 3)
set_option maxHeartbeats 1000000 in
theorem npin_ok (w : World) (B p : Nat) (S : NS) (h : Sto w B p S) (k : Int) : Calls Tryz.prog 11 #[.pointer (some ⟨p, 0, none⟩), .int .i64 k] w fun e w' => e = .returned (.int .i64 (pinS S k).2) ∧ Sto w' B p (pinS S k).1 ∧ Kp TN B w w' := by
  have HF := Lib.hid (nfind_ok w B p S h k)
  have HS := Lib.hid h
  obtain ⟨g, q, cap, fa, fc, M, h⟩ := h
  have c2 : w.cell? ⟨p, 2, none⟩ = some (.slice (some ⟨g, 0, none⟩) S.l.length cap) := h.tab.cell 2
  have hlm := h.wf.lm
  have H := Lib.hid h
  clear h
  cases hk : isK S.l k with
  | false =>
    have hv : pinS S k = (S, 3) := by unfold pinS; rw [hk]; rfl
    have hf : findE S k = 3 := by unfold findE; rw [hk]; rfl
    have HV := Lib.hid hv; have HFE := Lib.hid hf
    clear hv hk hf
    go_enter Tryz.func11, Tryz.ntmps11
    go_wp2_with fail
    refine HF.out.mono ?_
    rintro e w' ⟨rfl, rfl⟩
    rw [HFE.out]
    go_wp2_with fail
    go_ret
    exact ⟨ret_int (by rw [HV.out]), by rw [HV.out]; exact HS.out, Kp.refl _ _ _⟩
  | true =>
    obtain ⟨m, rfl, hb⟩ := isK_out hk
    have hm := isB_lt hb
    have hf : findE S m = 0 := by unfold findE; rw [hk]; rfl
    have HFE := Lib.hid hf; have HK := Lib.hid hk; have HBB := Lib.hid hb
    obtain ⟨gl, _, _, _, _, x4⟩ := H.out.nd_ hm
    have hpm := H.out.wf.pins m
    have gf := World.ownsRow.frozenAt H.out.row (m * 5 + 4)
    obtain ⟨n, hn⟩ : ∃ n, n = (nd S.l m).pins := ⟨_, rfl⟩
    rw [← hn] at x4 hpm
    have HN := Lib.hid hn
    clear hk hf hb hn
    by_cases hp : 1073741824 ≤ n
    · have hv : pinS S m = (S, 2) := by unfold pinS; rw [HK.out]; simp [← HN.out, hp]
      have HV := Lib.hid hv
      have d1 : decide ((1073741824 : Int) ≤ (n : Int)) = true := decide_eq_true (by omega)
      clear hv hp hpm
      go_enter Tryz.func11, Tryz.ntmps11
      go_wp2_with fail
      refine HF.out.mono ?_
      rintro e w' ⟨rfl, rfl⟩
      rw [HFE.out]
      go_wp2_with fail
      go_ret
      exact ⟨ret_int (by rw [HV.out]), by rw [HV.out]; exact HS.out, Kp.refl _ _ _⟩
    · have hv : pinS S m = ({ S with l := pinN S.l m (n + 1) }, 0) := by unfold pinS; rw [HK.out]; simp [← HN.out, hp]
      have HV := Lib.hid hv
      have d1 : decide ((1073741824 : Int) ≤ (n : Int)) = false := decide_eq_false (by omega)
      have hn2 : n + 1 ≤ 1073741824 := by omega
      have HN2 := Lib.hid hn2
      clear hv hp hpm hn2
      go_enter Tryz.func11, Tryz.ntmps11
      go_wp2_with fail
      refine HF.out.mono ?_
      rintro e w' ⟨rfl, rfl⟩
      rw [HFE.out]
      go_wp2_with fail
      have e : wrap64 ((n : Int) + 1) = ((n + 1 : Nat) : Int) := by rw [w64 _ (by omega) (by have := HN2.out; omega)]; rfl
      rw [e]
      go_ret
      obtain ⟨r1, r2⟩ := H.out.pin HBB.out HN2.out
      exact ⟨ret_int (by rw [HV.out]), by rw [HV.out]; exact ⟨_, _, _, _, _, _, r1⟩, r2⟩
/-- what Eval answers -/
def evB (S : NS) (vals : List Bool) (k : Int) : Bool := if isK S.l k then den S.l (rho vals) k.toNat else false
end Go.Proofs.YtobhjkfkdkiigaaGreatDoor
