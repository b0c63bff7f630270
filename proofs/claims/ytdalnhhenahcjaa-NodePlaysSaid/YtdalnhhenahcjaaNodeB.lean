/- The store of layer 3 in memory (Sto), and the contracts of given, find, Len, Vars, Made, Sweeps, Node. -/
import Derived.Test.YtdalnhhenahcjaaHB
import Derived.Test.YtdalnhhenahcjaaRow
import Derived.Test.YtdalnhhenahcjaaNodeP
import Derived.Laws.LoneSync
namespace Go.Proofs.Ytdalnhhenahcjaa
open Go.RowKit HP NP
def ndCells (x : Nd) : List Value := [.bool x.is, .int .i64 (x.v : Int), .int .i64 (x.low : Int), .int .i64 (x.high : Int), .int .i64 (x.pins : Int)]
def TN (t : TypeId) : Bool := TH t || (t == 91 || t == 99)
def wr64 (n : Nat) : Int := wrap64 (n : Int)
/-- what a table of the nodes says -/
def Says (l : List Nd) (M : Key → Option Int) : Prop := ∀ (c : Key) (v : Int), M c = some v ↔ ∃ k : Nat, (2 ≤ k ∧ isB l k = true ∧ kyOf (nd l k) = c) ∧ v = (k : Int)
structure StIn (w : World) (B p g q cap : Nat) (fa : Option Addr) (fc : Nat) (M : Key → Option Int) (S : NS) : Prop where
  wf : Wf S
  hp : B ≤ p
  tab : Blk w p 91 #[.int .i64 (S.vars : Int), .int .i64 (S.budget : Int), .slice (some ⟨g, 0, none⟩) S.l.length cap, .slice fa (frees S.l).length fc, .pointer (some ⟨q, 0, none⟩), .int .i64 (cnt S.l : Int), .int .i64 (wr64 S.made), .int .i64 (wr64 S.sweeps)]
  row : w.ownsRow B 99 5 (.slice (some ⟨g, 0, none⟩) S.l.length cap) S.l.length (S.l.flatMap ndCells)
  fre : Cells w fa ((frees S.l).reverse.map fun k : Nat => .int .i64 (k : Int))
  frt : TB w fa 3
  frc : (frees S.l).length ≤ fc ∧ fc ≤ maxLen
  has : HB w B q M (cnt S.l - 2)
  rep : Says S.l M
/-- block p, made from B on, is a store -/
def Sto (w : World) (B p : Nat) (S : NS) : Prop := ∃ g q cap fa fc M, StIn w B p g q cap fa fc M S
theorem Cells.kb {T : TypeId → Bool} {w w' : World} {a : Option Addr} {t : TypeId} {xs : List Value} (h : Cells w a xs) (hT : TB w a t) (hk : Kb T w w') (ht : T t = false) : Cells w' a xs := fun hx => by
  obtain ⟨b, off, e, hb, hh⟩ := h hx
  obtain ⟨cs, hc⟩ := hT b off none e
  have hc' := hk _ _ _ hc ht
  exact ⟨b, off, e, hc'.lt, fun i v hv => by rw [hc'.cell, ← hc.cell]; exact hh i v hv⟩
theorem Cells.kp {T : TypeId → Bool} {B : Nat} {w w' : World} {a : Option Addr} {t : TypeId} {xs : List Value} (h : Cells w a xs) (hT : TB w a t) (hk : Kp T B w w') (ht : T t = false) : Cells w' a xs := h.kb hT hk.kb ht
theorem TB.kb {T : TypeId → Bool} {w w' : World} {a : Option Addr} {t : TypeId} (hT : TB w a t) (hk : Kb T w w') (ht : T t = false) : TB w' a t := fun b off s e => by
  obtain ⟨cs, hc⟩ := hT b off s e; exact ⟨cs, hk _ _ _ hc ht⟩
theorem TB.kp {T : TypeId → Bool} {B : Nat} {w w' : World} {a : Option Addr} {t : TypeId} (hT : TB w a t) (hk : Kp T B w w') (ht : T t = false) : TB w' a t := hT.kb hk.kb ht
theorem StIn.kb {T : TypeId → Bool} {w w' : World} {B p g q cap : Nat} {fa : Option Addr} {fc : Nat} {M : Key → Option Int} {S : NS} (h : StIn w B p g q cap fa fc M S) (hk : Kb T w w')
    (h1 : T 54 = false) (h2 : T 96 = false) (h3 : T 91 = false) (h4 : T 99 = false) (h5 : T 3 = false) : StIn w' B p g q cap fa fc M S :=
  { h with tab := hk _ _ _ h.tab h3, row := own_kb h.row hk h4, fre := h.fre.kb h.frt hk h5, frt := h.frt.kb hk h5, has := h.has.kb hk h1 h2 }
theorem StIn.kp {T : TypeId → Bool} {B' : Nat} {w w' : World} {B p g q cap : Nat} {fa : Option Addr} {fc : Nat} {M : Key → Option Int} {S : NS} (h : StIn w B p g q cap fa fc M S) (hk : Kp T B' w w')
    (h1 : T 54 = false) (h2 : T 96 = false) (h3 : T 91 = false) (h4 : T 99 = false) (h5 : T 3 = false) : StIn w' B p g q cap fa fc M S := h.kb hk.kb h1 h2 h3 h4 h5
theorem StIn.below {w w' : World} {B p g q cap : Nat} {fa : Option Addr} {fc : Nat} {M : Key → Option Int} {S : NS} (h : StIn w B p g q cap fa fc M S) (hb : Below w.heap.size w w') : StIn w' B p g q cap fa fc M S :=
  h.kp (T := fun _ => false) (B' := 0) (Kp.of_below hb) rfl rfl rfl rfl rfl
theorem Sto.kb {T : TypeId → Bool} {w w' : World} {B p : Nat} {S : NS} (h : Sto w B p S) (hk : Kb T w w')
    (h1 : T 54 = false) (h2 : T 96 = false) (h3 : T 91 = false) (h4 : T 99 = false) (h5 : T 3 = false) : Sto w' B p S := by
  obtain ⟨g, q, cap, fa, fc, M, h⟩ := h; exact ⟨g, q, cap, fa, fc, M, h.kb hk h1 h2 h3 h4 h5⟩
theorem Sto.kp {T : TypeId → Bool} {B' : Nat} {w w' : World} {B p : Nat} {S : NS} (h : Sto w B p S) (hk : Kp T B' w w')
    (h1 : T 54 = false) (h2 : T 96 = false) (h3 : T 91 = false) (h4 : T 99 = false) (h5 : T 3 = false) : Sto w' B p S := by
  obtain ⟨g, q, cap, fa, fc, M, h⟩ := h; exact ⟨g, q, cap, fa, fc, M, h.kp hk h1 h2 h3 h4 h5⟩
theorem Sto.below {w w' : World} {B p : Nat} {S : NS} (h : Sto w B p S) (hb : Below w.heap.size w w') : Sto w' B p S := h.kp (T := fun _ => false) (B' := 0) (Kp.of_below hb) rfl rfl rfl rfl rfl
theorem Sto.wf {w : World} {B p : Nat} {S : NS} (h : Sto w B p S) : Wf S := by obtain ⟨g, q, cap, fa, fc, M, h⟩ := h; exact h.wf
theorem Sto.ge {w : World} {B p : Nat} {S : NS} (h : Sto w B p S) : B ≤ p := by obtain ⟨g, q, cap, fa, fc, M, h⟩ := h; exact h.hp
theorem Sto.lt {w : World} {B p : Nat} {S : NS} (h : Sto w B p S) : p < w.heap.size := by obtain ⟨g, q, cap, fa, fc, M, h⟩ := h; exact h.tab.lt
/-- a node's cells -/
theorem StIn.nd_ {w : World} {B p g q cap : Nat} {fa : Option Addr} {fc : Nat} {M : Key → Option Int} {S : NS} (h : StIn w B p g q cap fa fc M S) {k : Nat} (hk : k < S.l.length) :
    g < w.heap.size ∧ w.cell? ⟨g, k * 5, none⟩ = some (.bool (nd S.l k).is) ∧ w.cell? ⟨g, k * 5 + 1, none⟩ = some (.int .i64 ((nd S.l k).v : Int)) ∧ w.cell? ⟨g, k * 5 + 2, none⟩ = some (.int .i64 ((nd S.l k).low : Int)) ∧ w.cell? ⟨g, k * 5 + 3, none⟩ = some (.int .i64 ((nd S.l k).high : Int)) ∧ w.cell? ⟨g, k * 5 + 4, none⟩ = some (.int .i64 ((nd S.l k).pins : Int)) := by
  obtain ⟨cs, hc, _⟩ := own_blk h.row
  have at_ := fun j v hj => own_at ndCells 5 (fun _ => rfl) h.row (i := k) (j := j) (v := v) (nd_lt hk) hj
  exact ⟨hc.lt, by simpa using at_ 0 _ rfl, at_ 1 _ rfl, at_ 2 _ rfl, at_ 3 _ rfl, at_ 4 _ rfl⟩

set_option maxHeartbeats 400000 in
theorem ngiven_ok (w : World) (B p : Nat) (S : NS) (h : Sto w B p S) : Calls Try.prog 50 #[.pointer (some ⟨p, 0, none⟩)] w fun e w' => e = .returned (.bool true) ∧ w = w' := by
  obtain ⟨g, q, cap, fa, fc, M, h⟩ := h
  have c4 : w.cell? ⟨p, 4, none⟩ = some (.pointer (some ⟨q, 0, none⟩)) := h.tab.cell 4
  clear h
  go_enter Try.func50, Try.ntmps50
  go_wp2
  go_ret
  exact ⟨rfl, rfl⟩
def findE (S : NS) (k : Int) : Int := if isK S.l k then 0 else 3
set_option maxHeartbeats 400000 in
theorem nfind_ok (w : World) (B p : Nat) (S : NS) (h : Sto w B p S) (k : Int) : Calls Try.prog 48 #[.pointer (some ⟨p, 0, none⟩), .int .i64 k] w fun e w' => e = .returned (.int .i64 (findE S k)) ∧ w = w' := by
  have HG := Lib.hid (ngiven_ok w B p S h)
  obtain ⟨g, q, cap, fa, fc, M, h⟩ := h
  have c2 : w.cell? ⟨p, 2, none⟩ = some (.slice (some ⟨g, 0, none⟩) S.l.length cap) := h.tab.cell 2
  have hlm := h.wf.lm
  have H := Lib.hid h
  clear h
  by_cases h0 : k < 0
  · have hf : findE S k = 3 := by unfold findE; rw [isK_neg h0]; rfl
    have HF := Lib.hid hf
    clear hf
    go_enter Try.func48, Try.ntmps48
    go_wp2_with fail
    refine HG.out.mono ?_
    rintro e w' ⟨rfl, rfl⟩
    go_wp2_with fail
    go_ret
    exact ⟨ret_int HF.out.symm, rfl⟩
  · obtain ⟨m, rfl⟩ : ∃ m : Nat, k = (m : Int) := ⟨k.toNat, by omega⟩
    have hf : findE S m = if isB S.l m then 0 else 3 := by unfold findE; rw [isK_nat]
    have HF := Lib.hid hf
    clear hf h0
    by_cases hm : m < S.l.length
    · obtain ⟨gl, b0, _⟩ := H.out.nd_ hm
      obtain ⟨b, hb⟩ : ∃ b, b = (nd S.l m).is := ⟨_, rfl⟩
      rw [← hb] at b0
      have HBB := Lib.hid hb
      clear hb
      cases b
      all_goals
        go_enter Try.func48, Try.ntmps48
        go_wp2_with fail
        refine HG.out.mono ?_
        rintro e w' ⟨rfl, rfl⟩
        go_wp2_with fail
        go_ret
        exact ⟨ret_int (by rw [HF.out]; unfold isB; rw [← HBB.out]; rfl), rfl⟩
    · have hge : S.l.length ≤ m := by omega
      clear hm
      go_enter Try.func48, Try.ntmps48
      go_wp2_with fail
      refine HG.out.mono ?_
      rintro e w' ⟨rfl, rfl⟩
      go_wp2_with fail
      go_ret
      exact ⟨ret_int (by rw [HF.out]; unfold isB; rw [nd_ge hge]; rfl), rfl⟩
set_option maxHeartbeats 400000 in
theorem nlen_ok (w : World) (B p : Nat) (S : NS) (h : Sto w B p S) : Calls Try.prog 34 #[.pointer (some ⟨p, 0, none⟩)] w fun e w' => e = .returned (.int .i64 (cnt S.l : Int)) ∧ w = w' := by
  have HG := Lib.hid (ngiven_ok w B p S h)
  obtain ⟨g, q, cap, fa, fc, M, h⟩ := h
  have c5 : w.cell? ⟨p, 5, none⟩ = some (.int .i64 (cnt S.l : Int)) := h.tab.cell 5
  clear h
  go_enter Try.func34, Try.ntmps34
  go_wp2_with fail
  refine HG.out.mono ?_
  rintro e w' ⟨rfl, rfl⟩
  go_wp2_with fail
  go_ret
  exact ⟨rfl, rfl⟩
set_option maxHeartbeats 400000 in
theorem nvars_ok (w : World) (B p : Nat) (S : NS) (h : Sto w B p S) : Calls Try.prog 43 #[.pointer (some ⟨p, 0, none⟩)] w fun e w' => e = .returned (.int .i64 (S.vars : Int)) ∧ w = w' := by
  have HG := Lib.hid (ngiven_ok w B p S h)
  obtain ⟨g, q, cap, fa, fc, M, h⟩ := h
  have c0 : w.cell? ⟨p, 0, none⟩ = some (.int .i64 (S.vars : Int)) := h.tab.cell 0
  clear h
  go_enter Try.func43, Try.ntmps43
  go_wp2_with fail
  refine HG.out.mono ?_
  rintro e w' ⟨rfl, rfl⟩
  go_wp2_with fail
  go_ret
  exact ⟨rfl, rfl⟩
set_option maxHeartbeats 400000 in
theorem aload_ok (w : World) (b o : Nat) (x : Int) (hc : w.cell? ⟨b, o, none⟩ = some (.int .i64 x)) : Calls Try.prog 53 #[.pointer (some ⟨b, o, none⟩)] w fun e w' => e = .returned (.int .i64 x) ∧ w = w' := by
  have hl := run_call_load (P := Try.prog) Try.func63 (by kernel_rfl) (by kernel_rfl) (by kernel_rfl) .i64 (by kernel_rfl) hc
  go_enter Try.func53, Try.ntmps53
  go_wp2
  go_ret
  exact ⟨rfl, rfl⟩
set_option maxHeartbeats 400000 in
theorem aadd_ok (w : World) (b o : Nat) (x : Int) (hc : w.cell? ⟨b, o, none⟩ = some (.int .i64 x)) (hz : w.frozen? ⟨b, o, none⟩ = false) : Calls Try.prog 51 #[.pointer (some ⟨b, o, none⟩), .int .i64 1] w fun e w' => e = .returned (.int .i64 (wrap64 (x + 1))) ∧ w' = w.setCell ⟨b, o, none⟩ (.int .i64 (wrap64 (x + 1))) := by
  have hl := run_call_add (P := Try.prog) Try.func62 (by kernel_rfl) (by kernel_rfl) (by kernel_rfl) .i64 (by kernel_rfl) (y := 1) (s := wrap64 (x + 1)) hc hz (by simp [go_sem, IntKind.wrap_i64, wrap64])
  go_enter Try.func51, Try.ntmps51
  go_wp2
  go_ret
  exact ⟨rfl, rfl⟩
set_option maxHeartbeats 400000 in
theorem nmade_ok (w : World) (B p : Nat) (S : NS) (h : Sto w B p S) : Calls Try.prog 36 #[.pointer (some ⟨p, 0, none⟩)] w fun e w' => e = .returned (.int .i64 (wr64 S.made)) ∧ w = w' := by
  have HG := Lib.hid (ngiven_ok w B p S h)
  obtain ⟨g, q, cap, fa, fc, M, h⟩ := h
  have HL := Lib.hid (aload_ok w p 6 _ (h.tab.cell 6))
  clear h
  go_enter Try.func36, Try.ntmps36
  go_wp2_with fail
  refine HG.out.mono ?_
  rintro e w' ⟨rfl, rfl⟩
  go_wp2_with fail
  refine HL.out.mono ?_
  rintro e w' ⟨rfl, rfl⟩
  go_wp2_with fail
  go_ret
  exact ⟨rfl, rfl⟩
set_option maxHeartbeats 400000 in
theorem nsweeps_ok (w : World) (B p : Nat) (S : NS) (h : Sto w B p S) : Calls Try.prog 37 #[.pointer (some ⟨p, 0, none⟩)] w fun e w' => e = .returned (.int .i64 (wr64 S.sweeps)) ∧ w = w' := by
  have HG := Lib.hid (ngiven_ok w B p S h)
  obtain ⟨g, q, cap, fa, fc, M, h⟩ := h
  have HL := Lib.hid (aload_ok w p 7 _ (h.tab.cell 7))
  clear h
  go_enter Try.func37, Try.ntmps37
  go_wp2_with fail
  refine HG.out.mono ?_
  rintro e w' ⟨rfl, rfl⟩
  go_wp2_with fail
  refine HL.out.mono ?_
  rintro e w' ⟨rfl, rfl⟩
  go_wp2_with fail
  go_ret
  exact ⟨rfl, rfl⟩
end Go.Proofs.Ytdalnhhenahcjaa
