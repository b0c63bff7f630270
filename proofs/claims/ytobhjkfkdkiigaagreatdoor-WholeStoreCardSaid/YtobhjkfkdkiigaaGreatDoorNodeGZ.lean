/- marks and Size (layer 3): their contracts. 
 keeps (layer 3): its contract: a set of nodes marked in a slice of bools. 
 Sweep (layer 3): its contract. -/
import Derived.Test.YtobhjkfkdkiigaaGreatDoorNodeDZ
import Derived.Test.YtobhjkfkdkiigaaGreatDoorNodePZ
import Derived.Test.YtobhjkfkdkiigaaGreatDoorMap
namespace Go.Proofs.YtobhjkfkdkiigaaGreatDoor
open Go.RowKit HP NP
/-- a set of numbers as a map of bools -/
def setM (s : Nat → Bool) : Lit → Option Value
  | .int .i64 z => if decide (0 ≤ z) && s z.toNat then some (.bool true) else none
  | _ => none
theorem setM_at (s : Nat → Bool) (k : Nat) : setM s (.int .i64 (k : Int)) = if s k then some (.bool true) else none := by simp [setM]
theorem setM_set (s : Nat → Bool) (k : Nat) : setF (setM s) (.int .i64 (k : Int)) (.bool true) = setM (setB s k) := by
  funext l
  unfold setF
  by_cases e : l = .int .i64 (k : Int)
  · subst e
    simp [setM, setB, Lit.sameKey]
  · rw [Maps.sameKey_ne e]
    simp only [Bool.false_eq_true, if_false]
    cases l with
    | int kd z =>
      cases kd
      case i64 =>
        simp only [setM]
        by_cases hz : 0 ≤ z
        · have : z.toNat ≠ k := by rintro rfl; exact e (by rw [Int.toNat_of_nonneg hz])
          simp [setB, this]
        · simp [hz]
      all_goals rfl
    | _ => rfl
theorem keyI (k : Nat) (h : k ≤ 1048576) : keyOf Tryz.prog 3 (.int .i64 (k : Int)) = some (.int .i64 (k : Int)) := Maps.keyOf_int_mk Tryz.underlying3 (by rw [← IntWalk.wrap64_in (k : Int) ⟨by omega, by omega⟩]; exact wrap64_wf _)
theorem zeroB (w : World) : (zeroValue 4).run Tryz.prog w = .ok (.bool false) w := by kernel_rfl
def SetAt (w : World) (b : Nat) (n : Nat) (s : Nat → Bool) : Prop := MapAt w Tryz.prog 3 b (cntS s n) (setM s)
/-- how many nodes one is of -/
def SizePost (S : NS) (k : Int) (w : World) (e : Ending) (w' : World) : Prop :=
  (∃ n : Nat, e = .returned (.tuple #[.int .i64 (n : Int), .int .i64 (findE S k)]) ∧ (isK S.l k = false → n = 0) ∧ (isK S.l k = true → ∃ s, Adds S.l k.toNat (fun _ => false) s ∧ n = cntS s S.l.length)) ∧ Below w.heap.size w w'
end Go.Proofs.YtobhjkfkdkiigaaGreatDoor

namespace Go.Proofs.YtobhjkfkdkiigaaGreatDoor
open Go.RowKit HP NP
/-- block sb is a row of n bools, made from R on: the set s -/
def SeenAt (w : World) (R sb cap n : Nat) (s : Nat → Bool) : Prop := w.ownsRow R 4 1 (.slice (some ⟨sb, 0, none⟩) n cap) n ((List.range n).map fun j => .bool (s j))
def TB1 (t : TypeId) : Bool := t == 4
theorem SeenAt.kb {w w' : World} {R sb cap n : Nat} {s : Nat → Bool} (h : SeenAt w R sb cap n s) (hg : w.grownBy w' (some sb)) : Kb TB1 w w' := by
  obtain ⟨cs, hc, _⟩ := own_blk h
  exact (Kp.grown (T := TB1) (B := 0) hg (fun k e _ => by injection e with e; subst e; exact ⟨Nat.zero_le _, cs, _, _, hc, by rfl⟩)).kb
theorem SeenAt.cell {w : World} {R sb cap n : Nat} {s : Nat → Bool} (h : SeenAt w R sb cap n s) {k : Nat} (hk : k < n) : sb < w.heap.size ∧ w.cell? ⟨sb, k, none⟩ = some (.bool (s k)) ∧ w.frozen? ⟨sb, k, none⟩ = false := by
  obtain ⟨cs, hc, _⟩ := own_blk h
  refine ⟨hc.lt, ?_, World.ownsRow.frozenAt h k⟩
  rw [World.ownsRow.cellAt h k (by omega)]
  simp [hk]
theorem SeenAt.set {w : World} {R sb cap n : Nat} {s : Nat → Bool} (h : SeenAt w R sb cap n s) (k : Nat) : SeenAt (w.setCell ⟨sb, k, none⟩ (.bool true)) R sb cap n (setB s k) ∧ w.grownBy (w.setCell ⟨sb, k, none⟩ (.bool true)) (some sb) := by
  obtain ⟨h1, h2⟩ := World.ownsRow.stored h k (.bool true)
  refine ⟨?_, h2⟩
  unfold SeenAt
  have e : ((List.range n).map fun j => Value.bool (s j)).set k (.bool true) = (List.range n).map fun j => Value.bool (setB s k j) := by
    apply List.ext_getElem?
    intro j
    rw [List.getElem?_set]
    by_cases hj : k = j
    · subst hj
      by_cases hkn : k < n
      · simp [hkn, setB]
      · simp [hkn]
    · rw [if_neg hj]
      by_cases hjn : j < n
      · simp [hjn, setB, Ne.symm hj]
      · simp [hjn]
  rw [← e]; exact h1
theorem SeenAt.keep {T : TypeId → Bool} {w w' : World} {R sb cap n : Nat} {s : Nat → Bool} (h : SeenAt w R sb cap n s) (hk : Kb T w w') (ht : T 4 = false) : SeenAt w' R sb cap n s := own_kb h hk ht
set_option maxRecDepth 100000 in
set_option maxHeartbeats 2000000 in
theorem nkeeps_ok (B p R sb scap : Nat) (S : NS) : ∀ (f : Nat) (w : World) (k : Nat) (s : Nat → Bool), Sto w B p S → isB S.l k = true → S.vars - (nd S.l k).v < f → Cl S s (nd S.l k).v → SeenAt w R sb scap S.l.length s →
    Calls Tryz.prog 47 #[.pointer (some ⟨p, 0, none⟩), .slice (some ⟨sb, 0, none⟩) S.l.length scap, .int .i64 (k : Int)] w fun e w' => e = .returned (.tuple #[]) ∧ ∃ s', Adds S.l k s s' ∧ SeenAt w' R sb scap S.l.length s' ∧ w.grownBy w' (some sb) := by
  intro f
  induction f with
  | zero => intro w k s _ _ hf; omega
  | succ f ih =>
    intro w k s h hk hf hcl hs
    have IH := Lib.hid ih
    clear ih
    have hW := h.wf
    obtain ⟨g, q, cap, fa, fc, M, h⟩ := h
    have hlm := hW.lm
    have hkl := isB_lt hk
    obtain ⟨sl, s0, sf⟩ := hs.cell hkl
    have H := Lib.hid h; have HW := Lib.hid hW; have HK := Lib.hid hk; have HCL := Lib.hid hcl; have HS := Lib.hid hs; have HFU := Lib.hid hf
    clear h hW hk hcl hs hf
    cases hsk : s k with
    | true =>
      rw [hsk] at s0
      have HSK := Lib.hid hsk
      clear hsk
      go_enter Tryz.func47, Tryz.ntmps47
      go_wp2_with fail
      refine bodyPost_ret (results_none rfl _ _ _) rfl ?_
      exact ⟨rfl, s, Adds.same HW.out HCL.out HSK.out, HS.out, World.grownBy.refl _ _⟩
    | false =>
      rw [hsk] at s0
      have HSK := Lib.hid hsk
      have HS1 := Lib.hid (HS.out.set k).1
      have HG1 := Lib.hid (HS.out.set k).2
      clear hsk
      by_cases h2 : k < 2
      · have d2 : decide ((2 : Int) ≤ (k : Int)) = false := decide_eq_false (by omega)
        have d2' : decide (2 ≤ k) = false := decide_eq_false (by omega)
        have H2 := Lib.hid h2
        clear h2
        go_enter Tryz.func47, Tryz.ntmps47
        go_wp2_with fail
        go_end0
        exact ⟨rfl, setB s k, Adds.leaf H2.out, HS1.out, HG1.out⟩
      · have d2 : decide ((2 : Int) ≤ (k : Int)) = true := decide_eq_true (by omega)
        have d2' : decide (2 ≤ k) = true := decide_eq_true (by omega)
        have h2' : 2 ≤ k := by omega
        have H2 := Lib.hid h2'
        have HI1 := Lib.hid (H.out.kb (HS.out.kb HG1.out) rfl rfl rfl rfl rfl)
        obtain ⟨w1, hw1⟩ : ∃ w1, w1 = w.setCell ⟨sb, k, none⟩ (.bool true) := ⟨_, rfl⟩
        have c2 : (w.setCell ⟨sb, k, none⟩ (.bool true)).cell? ⟨p, 2, none⟩ = some (.slice (some ⟨g, 0, none⟩) S.l.length cap) := HI1.out.tab.cell 2
        obtain ⟨gl, _, _, x2, x3, _⟩ := HI1.out.nd_ hkl
        obtain ⟨hv0, _, hlo, hhi, hvl, hvh⟩ := HW.out.kid k H2.out HK.out
        have HLO := Lib.hid hlo; have HHI := Lib.hid hhi; have HVL := Lib.hid hvl; have HVH := Lib.hid hvh; have HV0 := Lib.hid hv0
        clear h2 h2' hlo hhi hvl hvh hv0 hw1
        go_enter Tryz.func47, Tryz.ntmps47
        go_wp2_with fail
        refine (IH.out _ _ (setB s k) ⟨_, _, _, _, _, _, HI1.out⟩ HLO.out (by have := HFU.out; have := HVL.out; have := HV0.out; omega) (HCL.out.mark HK.out HVL.out) HS1.out).mono ?_
        rintro e w2 ⟨rfl, s2, ha2, hs2, hg2⟩
        have HA2 := Lib.hid ha2; have HS2 := Lib.hid hs2; have HG2 := Lib.hid hg2
        have HI2 := Lib.hid (HI1.out.kb (HS1.out.kb hg2) rfl rfl rfl rfl rfl)
        clear ha2 hs2 hg2 c2 gl x2 x3 sl s0 sf
        have c2 : w2.cell? ⟨p, 2, none⟩ = some (.slice (some ⟨g, 0, none⟩) S.l.length cap) := HI2.out.tab.cell 2
        obtain ⟨gl, _, _, x2, x3, _⟩ := HI2.out.nd_ hkl
        go_wp2_with fail
        refine (IH.out w2 _ s2 ⟨_, _, _, _, _, _, HI2.out⟩ HHI.out (by have := HFU.out; have := HVH.out; have := HV0.out; omega) ((HCL.out.mark HK.out HVH.out |> HA2.out.cl HW.out HLO.out)) HS2.out).mono ?_
        rintro e w3 ⟨rfl, s3, ha3, hs3, hg3⟩
        have HA3 := Lib.hid ha3; have HS3 := Lib.hid hs3; have HG3 := Lib.hid hg3
        clear ha3 hs3 hg3 c2 gl x2 x3
        go_wp2_with fail
        go_end0
        exact ⟨rfl, s3, Adds.node H2.out HA2.out HA3.out, HS3.out, grown_trans (grown_trans HG1.out HG2.out) HG3.out⟩
end Go.Proofs.YtobhjkfkdkiigaaGreatDoor

namespace Go.Proofs.YtobhjkfkdkiigaaGreatDoor
open Go.RowKit HP NP
theorem Only.grown_new {F : Nat → Prop} {a w w' : World} {row : Option Nat} (h : Only F a w) (hg : w.grownBy w' row) (hr : ∀ k, row = some k → a.heap.size ≤ k) : Only F a w' :=
  ⟨hg.os.trans h.os, hg.tape.trans h.tape, hg.output.trans h.output, Nat.le_trans h.size hg.size, fun i hi hn => (hg.block i (Nat.lt_of_lt_of_le hi h.size) (fun e => by have := hr i e.symm; omega)).trans (h.block i hi hn)⟩
theorem made_bools (n : Nat) (hn : n ≤ 1048576) (w : World) : (Instr.makeSlice 120 (.int .i64 (n : Int)) (.int .i64 (n : Int))).run Tryz.prog w = .ok (.slice (some ⟨w.heap.size, 0, none⟩) n n) (w.alloc (.cells (madeCells #[.bool false] n) 4)) := by
  have hi : (Tryz.prog.info? 4).map (fun i => (i.zero, i.size, i.bytes)) = some (some (.bool false), 1, 1) := by kernel_rfl
  obtain ⟨i, h1, h2, h3, h4⟩ := info_parts hi
  have := run_make_n (P := Tryz.prog) 120 4 i (.bool false) 1 1 Tryz.underlying120 h1 h2 h3 h4 .i64 .i64 n n (Nat.le_refl _) (by omega) (by omega) w
  rw [show (Value.bool false).cells = #[.bool false] from rfl, Nat.mul_one] at this
  exact this
theorem SeenAt.made (w : World) (n : Nat) (hn : n ≤ 1048576) : SeenAt (w.alloc (.cells (madeCells #[.bool false] n) 4)) w.heap.size w.heap.size n n (fun _ => false) := by
  have h := World.ownsRow_lit (base := w.heap.size) (e := 4) (size := 1) w (madeCells #[.bool false] n) n (Nat.le_refl _) (by unfold maxLen; omega) (by rw [Nat.mul_one]; exact size_madeCells _ _)
  rw [toList_madeCells_one] at h
  unfold SeenAt
  have e : ((List.range n).map fun _ => Value.bool false) = List.replicate n (.bool false) := by
    apply List.ext_getElem?
    intro j
    by_cases hj : j < n <;> simp [hj]
  rw [e]; exact h
def SweepPost (B p : Nat) (S : NS) (w : World) (e : Ending) (w' : World) : Prop :=
  ∃ s, MarkedTo S.l S.l.length s ∧ e = .returned (.int .i64 ((cnt S.l - cnt (swp S.l s 1) : Nat) : Int)) ∧ Sto w' B p { S with l := swp S.l s 1, sweeps := S.sweeps + 1 } ∧ Kp TN B w w'
/-- the first loop: behind k rounds -/
def SwA (w wr : World) (B p g q cap : Nat) (fa : Option Addr) (fc : Nat) (M : Key → Option Int) (S : NS) (k : Nat) : Prop :=
  ∃ s, MarkedTo S.l k s ∧ SeenAt wr w.heap.size w.heap.size S.l.length S.l.length s ∧ StIn wr B p g q cap fa fc M S ∧ Only (TF TN B w) w wr
/-- the second loop: L the nodes, F the free numbers so far, rising -/
structure SwM (w wr : World) (B p g q cap : Nat) (S : NS) (s : Nat → Bool) (L : List Nd) (F : List Nat) (fa : Option Addr) (fc : Nat) (M : Key → Option Int) (gone : Nat) : Prop where
  raw : StRaw wr B p g q cap fa fc S.vars S.budget L F (cnt S.l) (wr64 S.made) (wr64 S.sweeps)
  own : wr.ownsRow w.heap.size 3 1 (.slice fa F.length fc) F.length (F.reverse.map fun k : Nat => .int .i64 (k : Int))
  seen : SeenAt wr w.heap.size w.heap.size S.l.length S.l.length s
  has : HB wr B q M (cnt L - 2)
  rep : Says L M
  gon : gone + cnt L = cnt S.l
  only : Only (TF TN B w) w wr
theorem own_cellsV {w : World} {base e size n cap : Nat} {a : Option Addr} {xs : List Value} (h : w.ownsRow base e size (.slice a n cap) n xs) : Cells w a xs := by
  obtain ⟨a', cap', he, hc⟩ := Cells.of_own h
  injection he with h1 _ _
  subst h1; exact hc.2.2
theorem own_tbV {w : World} {base e size n : Nat} {a : Option Addr} {m cap : Nat} {xs : List Value} (h : w.ownsRow base e size (.slice a m cap) n xs) : TB w a e := fun b off s he => by
  rcases h.2 with ⟨h1, _⟩ | ⟨g, cap', cur, h1, _, hg, _⟩
  · injection h1 with h1 _ _; rw [h1] at he; cases he
  · injection h1 with h1 _ _; rw [h1] at he; injection he with he; injection he with he _ _; subst he; exact ⟨cur, hg⟩
theorem own_grown_kb {w w' : World} {base e size n : Nat} {v : Value} {xs : List Value} (h : w.ownsRow base e size v n xs) (hg : w.grownBy w' v.ownBlock) : Kb (fun t => t == e) w w' := by
  refine (Kp.grown (B := 0) hg (fun k hk _ => ?_)).kb
  rcases h.2 with ⟨rfl, _⟩ | ⟨g, cap, cur, rfl, _, hgg, _⟩
  · cases hk
  · injection hk with hk; subst hk; exact ⟨Nat.zero_le _, cur, _, _, hgg, by simp⟩
theorem StRaw.nd_ {w : World} {B p g q cap : Nat} {fa : Option Addr} {fc vars budget : Nat} {l : List Nd} {F : List Nat} {c : Nat} {made sweeps : Int} (h : StRaw w B p g q cap fa fc vars budget l F c made sweeps) {k : Nat} (hk : k < l.length) :
    g < w.heap.size ∧ w.cell? ⟨g, k * 5, none⟩ = some (.bool (nd l k).is) ∧ w.cell? ⟨g, k * 5 + 1, none⟩ = some (.int .i64 ((nd l k).v : Int)) ∧ w.cell? ⟨g, k * 5 + 2, none⟩ = some (.int .i64 ((nd l k).low : Int)) ∧ w.cell? ⟨g, k * 5 + 3, none⟩ = some (.int .i64 ((nd l k).high : Int)) ∧ w.cell? ⟨g, k * 5 + 4, none⟩ = some (.int .i64 ((nd l k).pins : Int)) := by
  obtain ⟨cs, hc, _⟩ := own_blk h.row
  have at_ := fun j v hj => own_at ndCells 5 (fun _ => rfl) h.row (i := k) (j := j) (v := v) (nd_lt hk) hj
  exact ⟨hc.lt, by simpa using at_ 0 _ rfl, at_ 1 _ rfl, at_ 2 _ rfl, at_ 3 _ rfl, at_ 4 _ rfl⟩
section
variable {w wr : World} {B p g q cap : Nat} {S : NS} {s : Nat → Bool} {L : List Nd} {F : List Nat} {fa : Option Addr} {fc : Nat} {M : Key → Option Int} {gone : Nat}
theorem SwM.below {w' : World} (h : SwM w wr B p g q cap S s L F fa fc M gone) (hb : Below wr.heap.size wr w') : SwM w w' B p g q cap S s L F fa fc M gone :=
  ⟨h.raw.below hb, own_below h.own hb, own_below h.seen hb, h.has.below hb, h.rep, h.gon, Kp.trans h.only (Kp.of_below hb)⟩
/-- a node taken out of the table, and cleared -/
theorem SwM.drop {w4 : World} (h : SwM w wr B p g q cap S s L F fa fc M gone) (hk4 : Kp TH B wr w4) {k : Nat} (hl : k < L.length) (hb : isB L k = true) (h2 : 2 ≤ k) (ho : ∀ j, 2 ≤ j → isB L j = true → kyOf (nd L j) = kyOf (nd L k) → j = k) 
    (hh : HB w4 B q (setK M (kyOf (nd L k)) none) (if (M (kyOf (nd L k))).isSome then cnt L - 2 - 1 else cnt L - 2)) :
    SwM w (((((w4.setCell ⟨g, k * 5, none⟩ (.bool false)).setCell ⟨g, k * 5 + 1, none⟩ (.int .i64 0)).setCell ⟨g, k * 5 + 2, none⟩ (.int .i64 0)).setCell ⟨g, k * 5 + 3, none⟩ (.int .i64 0)).setCell ⟨g, k * 5 + 4, none⟩ (.int .i64 0)) B p g q cap S s (L.set k Nd.no) F fa fc (setK M (kyOf (nd L k)) none) (gone + 1) := by
  obtain ⟨r1, r2⟩ := (h.raw.kp hk4 rfl rfl rfl).node hl Nd.no
  have hm : M (kyOf (nd L k)) = some (k : Int) := (h.rep _ _).2 ⟨k, ⟨h2, hb, rfl⟩, rfl⟩
  have hc := cnt_set hl Nd.no
  have hb' := hb
  unfold isB at hb'
  rw [hb'] at hc
  simp [Nd.no] at hc
  have hn : ∀ j, nd (L.set k Nd.no) j = if j = k then Nd.no else nd L j := fun j => by
    have := nd_put (Nat.le_of_lt hl) Nd.no j
    unfold putN at this
    rwa [if_pos hl] at this
  have hks := r2.kb
  refine ⟨r1, own_kb (own_kp h.own hk4 rfl) hks rfl, own_kb (own_kp h.seen hk4 rfl) hks rfl, ?_, fun c v => ?_, ?_, ?_⟩
  · rw [hm] at hh
    simp only [Option.isSome_some, if_true] at hh
    have e : cnt L - 2 - 1 = cnt (L.set k Nd.no) - 2 := by
      have : cnt (L.set k Nd.no) + 1 = cnt L := hc
      omega
    rw [e] at hh
    exact hh.kb hks rfl rfl
  · unfold setK
    constructor
    · intro hcv
      by_cases e : c = kyOf (nd L k)
      · rw [if_pos e] at hcv; cases hcv
      · rw [if_neg e] at hcv
        obtain ⟨j, ⟨j2, jb, jc⟩, jv⟩ := (h.rep c v).1 hcv
        have hj : j ≠ k := by rintro rfl; exact e jc.symm
        exact ⟨j, ⟨j2, by unfold isB; rw [hn, if_neg hj]; exact jb, by rw [hn, if_neg hj]; exact jc⟩, jv⟩
    · rintro ⟨j, ⟨j2, jb, jc⟩, jv⟩
      have hj : j ≠ k := by rintro rfl; unfold isB at jb; rw [hn, if_pos rfl] at jb; cases jb
      unfold isB at jb
      rw [hn, if_neg hj] at jb jc
      rw [if_neg (fun e => hj (ho j j2 jb (by rw [jc, e])))]
      exact (h.rep c v).2 ⟨j, ⟨j2, jb, jc⟩, jv⟩
  · have := h.gon
    have : cnt (L.set k Nd.no) + 1 = cnt L := hc
    omega
  · exact Kp.trans (Kp.trans h.only (hk4.mono tn_hash (Nat.le_refl _))) (r2.mono tn_one (Nat.le_refl _))
/-- a free number more -/
theorem SwM.push {w6 : World} (h : SwM w wr B p g q cap S s L F fa fc M gone) (k : Nat) (o : Obj) {fa' : Option Addr} {fc' : Nat} 
    (hown : w6.ownsRow w.heap.size 3 1 (.slice fa' (F.length + 1) fc') (F.length + 1) ((F.reverse.map fun k : Nat => .int .i64 (k : Int)) ++ [.int .i64 (k : Int)])) (hg : (wr.alloc o).grownBy w6 (Value.slice fa F.length fc).ownBlock) :
    SwM w (w6.setCell ⟨p, 3, none⟩ (.slice fa' (F.length + 1) fc')) B p g q cap S s L (k :: F) fa' fc' M gone ∧ Blk w6 p 68 #[.int .i64 (S.vars : Int), .int .i64 (S.budget : Int), .slice (some ⟨g, 0, none⟩) L.length cap, .slice fa F.length fc, .pointer (some ⟨q, 0, none⟩), .int .i64 (cnt S.l : Int), .int .i64 (wr64 S.made), .int .i64 (wr64 S.sweeps)] := by
  have ha : Below wr.heap.size wr (wr.alloc o) := (Below.refl _ _).alloc (Nat.le_refl _) _
  have h1 := h.below ha
  have kb := own_grown_kb h1.own hg
  have ht := kb _ _ _ h1.raw.tab rfl
  have k2 : Kp (fun t => t == 68) B w6 (w6.setCell ⟨p, 3, none⟩ (.slice fa' (F.length + 1) fc')) := Kp.set ht (by rfl) h.raw.hp _ _
  have e : ((F.reverse.map fun k : Nat => Value.int .i64 (k : Int)) ++ [.int .i64 (k : Int)]) = ((k :: F).reverse.map fun k : Nat => .int .i64 (k : Int)) := by simp
  rw [e] at hown
  have hown2 := own_kp hown k2 rfl
  have hcap : F.length + 1 ≤ fc' ∧ fc' ≤ maxLen := by
    obtain ⟨a', c', he, h3, h4, _⟩ := Cells.of_own hown
    injection he with _ _ he; subst he; exact ⟨h3, h4⟩
  refine ⟨⟨⟨h.raw.hp, ?_, own_kp (own_kb h1.raw.row kb rfl) k2 rfl, own_cellsV hown2, own_tbV hown2, hcap⟩, hown2, own_kp (own_kb h1.seen kb rfl) k2 rfl, (h1.has.kb kb rfl rfl).kp k2 rfl rfl, h.rep, h.gon, ?_⟩, ht⟩
  · have := ht.set_ 3 (.slice fa' (F.length + 1) fc')
    simpa using this
  · exact Kp.trans (Only.grown_new h1.only hg (fun j hj => (h1.own.lt j hj).1)) (k2.mono tn_store (Nat.le_refl _))
end
set_option maxRecDepth 100000 in
set_option maxHeartbeats 8000000 in
theorem nsweep_ok (w : World) (B p : Nat) (S : NS) (h : Sto w B p S) (_hB : B ≤ w.heap.size) : Calls Tryz.prog 14 #[.pointer (some ⟨p, 0, none⟩)] w (SweepPost B p S w) := by
  have HG := Lib.hid (ngiven_ok w B p S h)
  have HW := Lib.hid h.wf
  have hlm := h.wf.lm
  have hl2 := h.wf.two
  obtain ⟨g, q, cap, fa, fc, M, h⟩ := h
  have H := Lib.hid h
  have c2 : w.cell? ⟨p, 2, none⟩ = some (.slice (some ⟨g, 0, none⟩) S.l.length cap) := h.tab.cell 2
  have hpl := h.tab.lt
  obtain ⟨N, hN⟩ : ∃ N, N = S.l.length := ⟨_, rfl⟩
  have HN := Lib.hid hN
  rw [← hN] at c2 hlm hl2
  have hmk := made_bools N hlm
  clear h hN
  go_enter Tryz.func14, Tryz.ntmps14
  go_wp2_with fail
  refine HG.out.mono ?_
  rintro e w' ⟨rfl, rfl⟩
  go_wp2_with fail
  clear hmk
  go_loopg [23] N (fun m x wr => ∃ k : Nat, m + k = N ∧ x = .int .i64 (k : Int) ∧ SwA w wr B p g q cap fa fc M S k)
  case atStart =>
    refine ⟨0, rfl, rfl, fun _ => false, MarkedTo.zero _, ?_, H.out.below ((Below.refl _ _).alloc (Nat.le_refl _) _), (Kp.refl _ _ _).alloc _⟩
    rw [← HN.out]; exact SeenAt.made w N hlm
  case round =>
    obtain ⟨k, hm, rfl, s, hmt, hsn, hst, ho⟩ := hrel
    have HM := Lib.hid hm; have HMT := Lib.hid hmt; have HSN := Lib.hid hsn; have HST := Lib.hid hst; have HO := Lib.hid ho
    clear hm hmt hsn hst ho c2
    by_cases hk : k < N
    · have hkl : k < S.l.length := by rw [← HN.out]; exact hk
      obtain ⟨gl, x0, x1, x2, x3, x4⟩ := HST.out.nd_ hkl
      have hsize : w.heap.size ≤ wr.heap.size := HO.out.size
      obtain ⟨b, hb⟩ : ∃ b, b = (nd S.l k).is := ⟨_, rfl⟩
      obtain ⟨pn, hpn⟩ : ∃ n, n = (nd S.l k).pins := ⟨_, rfl⟩
      rw [← hb] at x0
      rw [← hpn] at x4
      have HBB := Lib.hid hb; have HPN := Lib.hid hpn
      have hal : Below wr.heap.size wr (wr.alloc (.cells #[.bool b, .int .i64 ((nd S.l k).v : Int), .int .i64 ((nd S.l k).low : Int), .int .i64 ((nd S.l k).high : Int), .int .i64 (pn : Int)] 70)) := (Below.refl _ _).alloc (Nat.le_refl _) _
      have HAL := Lib.hid hal
      clear hb hpn hal hkl
      cases hr : rootB S.l k with
      | true =>
        have HR := Lib.hid hr
        have hfacts : (k < 2 ∧ True) ∨ (¬ k < 2 ∧ b = true ∧ 0 < pn) := by
          unfold rootB isB at hr
          rw [← HBB.out, ← HPN.out] at hr
          simp at hr
          rcases Nat.lt_or_ge k 2 with h | h
          · exact .inl ⟨h, trivial⟩
          · rcases hr with hr | hr
            · omega
            · exact .inr ⟨by omega, hr⟩
        have hisk : isB S.l k = true := by
          rcases hfacts with ⟨h1, _⟩ | ⟨_, h1, _⟩
          · have : k = 0 ∨ k = 1 := by omega
            rcases this with rfl | rfl
            · exact HW.out.is0
            · exact HW.out.is1
          · unfold isB; rw [← HBB.out]; exact h1
        have hwv := HW.out.v256
        have HKC := Lib.hid (nkeeps_ok B p w.heap.size w.heap.size S.l.length S 257 _ k s ⟨_, _, _, _, _, _, HST.out.below HAL.out⟩ hisk (by omega) (have hc := HMT.out.cl HW.out; ⟨hc.is, fun j h1 h2 _ => hc.kids j h1 h2 (Nat.zero_le _)⟩) (HSN.out.keep (Kp.of_below HAL.out : Kp (fun _ => false) 0 _ _).kb rfl))
        rw [← HN.out] at HKC
        clear hr hisk hwv
        rcases hfacts with ⟨h1, _⟩ | ⟨h1, rfl, h3⟩
        all_goals
          go_wp2_with fail
          refine HKC.out.mono ?_
          rintro e w3 ⟨rfl, s', ha, hs', hg⟩
          have HA := Lib.hid ha; have HS' := Lib.hid hs'; have HGG := Lib.hid hg
          clear ha hs' hg x0 x1 x2 x3 x4 gl
          go_wp2_with fail
          go_roundg (N - (k + 1))
          case measure => have := HM.out; omega
          case rel =>
            refine ⟨k + 1, by have := HM.out; omega, by go_num, s', HMT.out.next HR.out HA.out, by rw [← HN.out]; exact HS'.out, ?_, (HO.out.alloc _).grown_new HGG.out (fun j e => by injection e with e; omega)⟩
            exact (HST.out.below HAL.out).kb (SeenAt.kb (HSN.out.keep (Kp.of_below HAL.out : Kp (fun _ => false) 0 _ _).kb rfl) HGG.out) rfl rfl rfl rfl rfl
      | false =>
        have HR := Lib.hid hr
        have hfacts : 2 ≤ k ∧ (b = false ∨ (b = true ∧ pn = 0)) := by
          unfold rootB isB at hr
          rw [← HBB.out, ← HPN.out] at hr
          simp at hr
          refine ⟨hr.1, ?_⟩
          cases b with
          | false => exact .inl rfl
          | true => exact .inr ⟨rfl, hr.2 rfl⟩
        clear hr
        obtain ⟨h2, hb2⟩ := hfacts
        rcases hb2 with rfl | ⟨rfl, rfl⟩
        all_goals
          go_wp2_with fail
          go_roundg (N - (k + 1))
          case measure => have := HM.out; omega
          case rel => exact ⟨k + 1, by have := HM.out; omega, by go_num, s, HMT.out.skip HR.out, HSN.out.keep (Kp.of_below HAL.out : Kp (fun _ => false) 0 _ _).kb rfl, HST.out.below HAL.out, HO.out.alloc _⟩
    · have hkN : k = N := by have := HM.out; omega
      subst hkN
      have hmt : MarkedTo S.l S.l.length s := by rw [← HN.out]; exact HMT.out
      have HMA := Lib.hid hmt
      have c2 : wr.cell? ⟨p, 2, none⟩ = some (.slice (some ⟨g, 0, none⟩) S.l.length cap) := HST.out.tab.cell 2
      have c3 : wr.cell? ⟨p, 3, none⟩ = some (.slice fa (frees S.l).length fc) := HST.out.tab.cell 3
      have f3 : wr.frozen? ⟨p, 3, none⟩ = false := HST.out.tab.frozen 3
      have hplr : p < wr.heap.size := HST.out.tab.lt
      rw [← HN.out] at c2
      clear hmt
      have hcnt := cnt_le S.l
      go_wp2_with fail
      go_loopg [6, 7] (k - 1) (fun m y x wr => ∃ (gone : Nat) (fa : Option Addr) (fc : Nat) (M : Key → Option Int), 1 ≤ m ∧ m < k ∧ y = .int .i64 (gone : Int) ∧ x = .int .i64 (m : Int) ∧ SwM w wr B p g q cap S s (swp S.l s m) (fr S.l s m) fa fc M gone)
      case atStart =>
        refine ⟨0, none, 0, M, by omega, by omega, rfl, ?_, ?_⟩
        · show Value.int _ _ = _
          rw [show ((k : Int) - 1) = ((k - 1 : Nat) : Int) by omega]
        · have e1 : swp S.l s (k - 1) = S.l := swp_all s (by have := HN.out; omega)
          have e2 : fr S.l s (k - 1) = [] := fr_all s (by have := HN.out; omega)
          rw [e1, e2]
          have kk := HST.out.raw.kpp 3 (.slice none 0 0)
          exact ⟨HST.out.raw.free_ (F' := []) (Cells.nil _ _) (TB.nil _ _) ⟨Nat.le_refl _, by unfold maxLen; omega⟩, World.ownsRow_nil _ _ _ _, own_kp HSN.out kk rfl, HST.out.has.kp kk rfl rfl, HST.out.rep, by simp, Kp.trans HO.out (kk.mono tn_store (Nat.le_refl _))⟩
      case round =>
        obtain ⟨gone, fa', fc', M', hm1, hmk, rfl, rfl, hw⟩ := hrel
        have HW2 := Lib.hid hw
        clear hw c2 c3 f3 hplr
        have c2 : wr.cell? ⟨p, 2, none⟩ = some (.slice (some ⟨g, 0, none⟩) (swp S.l s gk).length cap) := HW2.out.raw.tab.cell 2
        rw [len_swp, ← HN.out] at c2
        have hplr : p < wr.heap.size := HW2.out.raw.tab.lt
        have hgn : gone ≤ 1048576 := by have := HW2.out.gon; have := HN.out; omega
        by_cases hg2 : 2 ≤ gk
        · have hkl : gk < S.l.length := by rw [← HN.out]; exact hmk
          obtain ⟨gl, x0, x1, x2, x3, x4⟩ := HW2.out.raw.nd_ (k := gk) (by rw [len_swp]; exact hkl)
          have hndk : nd (swp S.l s gk) gk = nd S.l gk := by rw [nd_swp, if_neg (by simp)]
          rw [hndk] at x0 x1 x2 x3 x4
          obtain ⟨sl, s0, _⟩ := HW2.out.seen.cell hkl
          obtain ⟨b, hb⟩ : ∃ b, b = (nd S.l gk).is := ⟨_, rfl⟩
          obtain ⟨sb, hsb⟩ : ∃ b, b = s gk := ⟨_, rfl⟩
          rw [← hb] at x0
          rw [← hsb] at s0
          have HB0 := Lib.hid hb; have HSB := Lib.hid hsb; have HND := Lib.hid hndk
          have hfrl : (fr S.l s gk).length ≤ 1048576 := by unfold fr; exact Nat.le_trans (List.length_filter_le _ _) (by simp; have := HN.out; omega)
          obtain ⟨j0, hj0, yz0, yz1, yz2⟩ := info_parts int_info
          have hfs := fr_step (l := S.l) (s := s) hm1 hkl
          have hal : Below wr.heap.size wr (wr.alloc (.cells #[.bool b, .int .i64 ((nd S.l gk).v : Int), .int .i64 ((nd S.l gk).low : Int), .int .i64 ((nd S.l gk).high : Int), .int .i64 ((nd S.l gk).pins : Int)] 70)) := (Below.refl _ _).alloc (Nat.le_refl _) _
          have HAL := Lib.hid hal
          clear hb hsb hndk hal
          cases b with
          | false =>
            have hno : nd S.l gk = Nd.no := HW.out.gone gk (by unfold isB; rw [← HB0.out])
            have hls := swp_stay (l := S.l) (s := s) hm1 (.inr hno)
            have hbf : isB S.l gk = false := by unfold isB; rw [← HB0.out]
            rw [hbf] at hfs
            simp only [Bool.false_and, Bool.not_false, if_true] at hfs
            have HFS := Lib.hid hfs; have HLS := Lib.hid hls
            have HMID := Lib.hid (HW2.out.below HAL.out)
            clear hno hls hbf hfs
            have c3 : wr.cell? ⟨p, 3, none⟩ = some (.slice fa' (fr S.l s gk).length fc') := HW2.out.raw.tab.cell 3
            have f3 : wr.frozen? ⟨p, 3, none⟩ = false := HW2.out.raw.tab.frozen 3
            have hwx : w.heap.size ≤ wr.heap.size := HW2.out.only.size
            have HCL : Hid (Cells ((wr.alloc (.cells #[.bool false, .int .i64 ((nd S.l gk).v : Int), .int .i64 ((nd S.l gk).low : Int), .int .i64 ((nd S.l gk).high : Int), .int .i64 ((nd S.l gk).pins : Int)] 70)).alloc (.cells #[.int .i64 (gk : Int)] 3)) (some ⟨wr.heap.size + 1, 0, none⟩) [.int .i64 (gk : Int)]) := by
              have hc := Cells.lit (wr.alloc (.cells #[.bool false, .int .i64 ((nd S.l gk).v : Int), .int .i64 ((nd S.l gk).low : Int), .int .i64 ((nd S.l gk).high : Int), .int .i64 ((nd S.l gk).pins : Int)] 70)) #[.int .i64 (gk : Int)] 3
              rw [show (wr.alloc (.cells #[.bool false, .int .i64 ((nd S.l gk).v : Int), .int .i64 ((nd S.l gk).low : Int), .int .i64 ((nd S.l gk).high : Int), .int .i64 ((nd S.l gk).pins : Int)] 70)).heap.size = wr.heap.size + 1 by simp] at hc
              exact Lib.hid hc
            go_wp2_with (at_builtin; refine wpList_append_src rfl (.tmp 107) (.tmp 109) 45 rfl w.heap.size 3 j0 (.int .i64 0) 1 8 Tryz.underlying45 hj0 yz0 yz1 yz2 rfl (by decide) (.slice fa' (fr S.l s gk).length fc') (fr S.l s gk).length _ rfl (HMID.out.own.alloc _) (some ⟨wr.heap.size + 1, 0, none⟩) 1 1 [.int .i64 (gk : Int)] rfl rfl HCL.out (by intro u hu; simp at hu; subst hu; rfl) (by unfold maxLen; omega) (by omega) (by simp; omega) ?_)
            intro v' w6 hown hg _
            obtain ⟨fa2, fc2, rfl⟩ := own_shape hown
            have hP := HMID.out.push gk _ (by rw [List.map_reverse]; exact hown) hg
            have HP := Lib.hid hP.1
            have c3' : w6.cell? ⟨p, 3, none⟩ = some (.slice fa' (fr S.l s gk).length fc') := hP.2.cell 3
            have f3' : w6.frozen? ⟨p, 3, none⟩ = false := hP.2.frozen 3
            have hpl6 : p < w6.heap.size := hP.2.lt
            clear hown hg hP c3 f3 c2
            go_wp2_with fail
            go_roundg (gk - 1)
            case measure => omega
            case rel =>
              refine ⟨gone, fa2, fc2, M', by omega, by omega, by go_num, ?_, ?_⟩
              · show Value.int _ _ = _
                rw [show ((gk : Int) - 1) = ((gk - 1 : Nat) : Int) by omega]
              · rw [HFS.out, HLS.out]; exact HP.out
          | true =>
            have hbf : isB S.l gk = true := by unfold isB; rw [← HB0.out]
            rw [hbf] at hfs
            cases sb with
            | true =>
              have hls := swp_stay (l := S.l) (s := s) hm1 (.inl HSB.out.symm)
              rw [← HSB.out] at hfs
              simp only [Bool.and_self, Bool.not_true, Bool.false_eq_true, if_false] at hfs
              have HFS := Lib.hid hfs; have HLS := Lib.hid hls
              have HMID := Lib.hid (HW2.out.below HAL.out)
              clear hls hbf hfs
              go_wp2_with fail
              go_roundg (gk - 1)
              case measure => omega
              case rel =>
                refine ⟨gone, fa', fc', M', by omega, by omega, rfl, ?_, ?_⟩
                · show Value.int _ _ = _
                  rw [show ((gk : Int) - 1) = ((gk - 1 : Nat) : Int) by omega]
                · rw [HFS.out, HLS.out]; exact HMID.out
            | false =>
              have hls := swp_clear (l := S.l) (s := s) hm1 hkl HSB.out.symm
              rw [← HSB.out] at hfs
              simp only [Bool.and_false, Bool.not_false, if_true] at hfs
              have hb2 : isB (swp S.l s gk) gk = true := by unfold isB; rw [HND.out]; exact hbf
              have HFS := Lib.hid hfs; have HLS := Lib.hid hls; have HBF := Lib.hid hb2
              have HMID := Lib.hid ((HW2.out.below HAL.out).below ((Below.refl _ _).drew : Below _ (wr.alloc (.cells #[.bool true, .int .i64 ((nd S.l gk).v : Int), .int .i64 ((nd S.l gk).low : Int), .int .i64 ((nd S.l gk).high : Int), .int .i64 ((nd S.l gk).pins : Int)] 70)) (wr.alloc (.cells #[.bool true, .int .i64 ((nd S.l gk).v : Int), .int .i64 ((nd S.l gk).low : Int), .int .i64 ((nd S.l gk).high : Int), .int .i64 ((nd S.l gk).pins : Int)] 70)).drew))
              have HCP := Lib.hid ((Blk.new_ wr 70 #[.bool true, .int .i64 ((nd S.l gk).v : Int), .int .i64 ((nd S.l gk).low : Int), .int .i64 ((nd S.l gk).high : Int), .int .i64 ((nd S.l gk).pins : Int)]).drew_)
              have HDR := Lib.hid (hb_drop (wr.alloc (.cells #[.bool true, .int .i64 ((nd S.l gk).v : Int), .int .i64 ((nd S.l gk).low : Int), .int .i64 ((nd S.l gk).high : Int), .int .i64 ((nd S.l gk).pins : Int)] 70)).drew B q M' _ (((nd S.l gk).v : Int), ((nd S.l gk).low : Int), ((nd S.l gk).high : Int)) HMID.out.has)
              have HKP : Hid (∀ w', Kp TH B (wr.alloc (.cells #[.bool true, .int .i64 ((nd S.l gk).v : Int), .int .i64 ((nd S.l gk).low : Int), .int .i64 ((nd S.l gk).high : Int), .int .i64 ((nd S.l gk).pins : Int)] 70)).drew w' → w'.cell? ⟨p, 4, none⟩ = some (.pointer (some ⟨q, 0, none⟩)) ∧ w'.cell? ⟨wr.heap.size, 1, none⟩ = some (.int .i64 ((nd S.l gk).v : Int)) ∧ w'.cell? ⟨wr.heap.size, 2, none⟩ = some (.int .i64 ((nd S.l gk).low : Int)) ∧ w'.cell? ⟨wr.heap.size, 3, none⟩ = some (.int .i64 ((nd S.l gk).high : Int))) := by
                refine Lib.hid fun w' hk => ?_
                have h1 := hk.blk HCP.out rfl
                have h2 := hk.blk HMID.out.raw.tab rfl
                exact ⟨h2.cell 4, h1.cell 1, h1.cell 2, h1.cell 3⟩
              have HKP0 := Lib.hid (HKP.out _ (Kp.refl _ _ _))
              have c4 : wr.cell? ⟨p, 4, none⟩ = some (.pointer (some ⟨q, 0, none⟩)) := HW2.out.raw.tab.cell 4
              clear hls hbf hfs hb2
              go_wp2_with fail
              go_region_held3 (fun w' => w'.cell? ⟨p, 4, none⟩ = some (.pointer (some ⟨q, 0, none⟩)) ∧ w'.cell? ⟨wr.heap.size, 1, none⟩ = some (.int .i64 ((nd S.l gk).v : Int)) ∧ w'.cell? ⟨wr.heap.size, 2, none⟩ = some (.int .i64 ((nd S.l gk).low : Int)) ∧ w'.cell? ⟨wr.heap.size, 3, none⟩ = some (.int .i64 ((nd S.l gk).high : Int)))
                (first | with_reducible exact HKP.out _ hk4 | with_reducible exact HKP0.out) (first | (go_at_call 48; ((with_reducible refine HDR.out.mono ?_); rintro e w4 ⟨rfl, hb4, hk4⟩)))
              have HB4 := Lib.hid hb4; have HK4 := Lib.hid hk4
              have HR4 := Lib.hid (HMID.out.raw.kp hk4 rfl rfl rfl)
              clear hb4 hk4 HKP HKP0 c4 c2 x0 x1 x2 x3 x4 gl sl s0
              have c2 : w4.cell? ⟨p, 2, none⟩ = some (.slice (some ⟨g, 0, none⟩) (swp S.l s gk).length cap) := HR4.out.tab.cell 2
              rw [len_swp, ← HN.out] at c2
              have hpl4 : p < w4.heap.size := HR4.out.tab.lt
              obtain ⟨gl, x0, x1, x2, x3, x4⟩ := HR4.out.nd_ (k := gk) (by rw [len_swp]; exact hkl)
              rw [HND.out] at x0 x1 x2 x3 x4
              rw [← HB0.out] at x0
              have z0 := World.ownsRow.frozenAt HR4.out.row (gk * 5)
              have z1 := World.ownsRow.frozenAt HR4.out.row (gk * 5 + 1)
              have z2 := World.ownsRow.frozenAt HR4.out.row (gk * 5 + 2)
              have z3 := World.ownsRow.frozenAt HR4.out.row (gk * 5 + 3)
              have z4 := World.ownsRow.frozenAt HR4.out.row (gk * 5 + 4)
              have hgp : p ≠ g := by obtain ⟨cs, hc, _⟩ := own_blk HR4.out.row; exact (hc.ne HR4.out.tab (by decide)).symm
              have HMD := Lib.hid (HMID.out.drop HK4.out (k := gk) (by rw [len_swp]; exact hkl) HBF.out hg2 (fun j h2 hj he => by
                rw [isB_swp] at hj
                by_cases hx : (decide (gk < j) && !s j) = true
                · rw [if_pos hx] at hj; cases hj
                · rw [if_neg hx] at hj
                  rw [nd_swp, if_neg hx, HND.out] at he
                  exact HW.out.once j gk h2 hg2 hj (by unfold isB; rw [← HB0.out]) he) (by rw [HND.out]; exact HB4.out))
              go_upto_region 20 with (fail)
              generalize hw5 : (((((w4.setCell ⟨g, gk * 5, none⟩ (.bool false)).setCell ⟨g, gk * 5 + 1, none⟩ (.int .i64 0)).setCell ⟨g, gk * 5 + 2, none⟩ (.int .i64 0)).setCell ⟨g, gk * 5 + 3, none⟩ (.int .i64 0)).setCell ⟨g, gk * 5 + 4, none⟩ (.int .i64 0)) = w5
              rw [hw5] at HMD
              clear hw5 c2 x0 x1 x2 x3 x4 z0 z1 z2 z3 z4 gl hpl4 hgp
              have c2 : w5.cell? ⟨p, 2, none⟩ = some (.slice (some ⟨g, 0, none⟩) ((swp S.l s gk).set gk Nd.no).length cap) := HMD.out.raw.tab.cell 2
              rw [List.length_set, len_swp, ← HN.out] at c2
              obtain ⟨gl, x0, _⟩ := HMD.out.raw.nd_ (k := gk) (by rw [List.length_set, len_swp]; exact hkl)
              rw [show nd ((swp S.l s gk).set gk Nd.no) gk = Nd.no from nd_eq (by simp [len_swp, hkl])] at x0
              have x0' : w5.cell? ⟨g, gk * 5, none⟩ = some (.bool false) := x0
              clear x0
              have c3 : w5.cell? ⟨p, 3, none⟩ = some (.slice fa' (fr S.l s gk).length fc') := HMD.out.raw.tab.cell 3
              have f3 : w5.frozen? ⟨p, 3, none⟩ = false := HMD.out.raw.tab.frozen 3
              have hplx : p < w5.heap.size := HMD.out.raw.tab.lt
              have hwx : w.heap.size ≤ w5.heap.size := HMD.out.only.size
              go_wp2_with (at_builtin; refine wpList_append_src rfl (.tmp 107) (.tmp 109) 45 rfl w.heap.size 3 j0 (.int .i64 0) 1 8 Tryz.underlying45 hj0 yz0 yz1 yz2 rfl (by decide) (.slice fa' (fr S.l s gk).length fc') (fr S.l s gk).length _ rfl (HMD.out.own.alloc _) (some ⟨w5.heap.size, 0, none⟩) 1 1 [.int .i64 (gk : Int)] rfl rfl (Cells.lit _ _ _) (by intro u hu; simp at hu; subst hu; rfl) (by unfold maxLen; omega) (by omega) (by simp; omega) ?_)
              intro v' w6 hown hg _
              obtain ⟨fa2, fc2, rfl⟩ := own_shape hown
              have hP := HMD.out.push gk _ (by rw [List.map_reverse]; exact hown) hg
              have HP := Lib.hid hP.1
              have c3' : w6.cell? ⟨p, 3, none⟩ = some (.slice fa' (fr S.l s gk).length fc') := hP.2.cell 3
              have f3' : w6.frozen? ⟨p, 3, none⟩ = false := hP.2.frozen 3
              have hpl6 : p < w6.heap.size := hP.2.lt
              clear hown hg hP c3 f3 c2
              go_wp2_with fail
              go_roundg (gk - 1)
              case measure => omega
              case rel =>
                refine ⟨gone + 1, fa2, fc2, setK M' (kyOf (nd (swp S.l s gk) gk)) none, by omega, by omega, by go_num, ?_, ?_⟩
                · show Value.int _ _ = _
                  rw [show ((gk : Int) - 1) = ((gk - 1 : Nat) : Int) by omega]
                · rw [HFS.out, HLS.out]; exact HP.out
        · have hg1 : gk = 1 := by omega
          have HEQ := Lib.hid hg1
          have c5 : wr.cell? ⟨p, 5, none⟩ = some (.int .i64 (cnt S.l : Int)) := HW2.out.raw.tab.cell 5
          have f5 : wr.frozen? ⟨p, 5, none⟩ = false := HW2.out.raw.tab.frozen 5
          have d2 : decide ((2 : Int) ≤ (gk : Int)) = false := decide_eq_false (by omega)
          have d2' : decide (2 ≤ gk) = false := decide_eq_false (by omega)
          have hgc : gone ≤ cnt S.l := by have := HW2.out.gon; omega
          have hcm : cnt S.l ≤ 1048576 := by have := HN.out; omega
          clear hg1 hg2
          go_wp2_with fail
          have hgon := HW2.out.gon
          have HR1 := Lib.hid (HW2.out.raw.len_ ((cnt S.l : Int) - (gone : Int)) (cnt (swp S.l s gk)) (by omega))
          refine (aadd_ok _ p 7 (wr64 S.sweeps) (HR1.out.tab.cell 7) (HR1.out.tab.frozen 7)).mono ?_
          rintro e w8 ⟨rfl, rfl⟩
          go_wp2_with fail
          go_ret
          have hR2 := HR1.out.sweeps_ (wrap64 (wr64 S.sweeps + 1))
          have k1 := HW2.out.raw.kpp 5 (.int .i64 ((cnt S.l : Int) - (gone : Int)))
          have k2 := HR1.out.kpp 7 (.int .i64 (wrap64 (wr64 S.sweeps + 1)))
          have hhas := (HW2.out.has.kp k1 rfl rfl).kp k2 rfl rfl
          have hrep := HW2.out.rep
          have hwf := HW.out.sweep HMA.out (S.sweeps + 1)
          have honly := Kp.trans (Kp.trans HW2.out.only (k1.mono tn_store (Nat.le_refl _))) (k2.mono tn_store (Nat.le_refl _))
          rw [HEQ.out] at hR2 hhas hrep hgon
          rw [fr_end] at hR2
          rw [wr_succ] at hR2 hhas honly ⊢
          refine ⟨s, HMA.out, ret_int (by omega), ⟨_, _, _, _, _, _, StRaw.stin hR2 hwf hhas hrep⟩, honly⟩
end Go.Proofs.YtobhjkfkdkiigaaGreatDoor
