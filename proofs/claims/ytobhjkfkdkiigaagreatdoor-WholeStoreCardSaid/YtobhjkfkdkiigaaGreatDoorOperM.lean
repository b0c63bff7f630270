/- Layer 4: the operations and their cache in memory (OpsM, OpsF), and the contracts of New, Store, fresh. -/
import Derived.Test.YtobhjkfkdkiigaaGreatDoorNodeGZ
import Derived.Test.YtobhjkfkdkiigaaGreatDoorOnce
import Derived.Test.YtobhjkfkdkiigaaGreatDoorOperP
namespace Go.Proofs.YtobhjkfkdkiigaaGreatDoor
open Go.RowKit HP NP
def TC (t : TypeId) : Bool := t == 83 || t == 196
def TO (t : TypeId) : Bool := TN t || TC t
theorem to_tc (t : TypeId) (h : TC t = true) : TO t = true := by unfold TO; rw [h]; simp
theorem to_tn (t : TypeId) (h : TN t = true) : TO t = true := by unfold TO; rw [h]; rfl
/-! ### the cache in memory -/
def CAt (w : World) (g : Nat) (C : Nat → Fnd) : Prop := ∃ cs : Array Value, Blk w g 196 cs ∧ cs.size = 20480 ∧
  ∀ i, i < 4096 → cs[i * 5]? = some (.bool (C i).is) ∧ cs[i * 5 + 1]? = some (.int .i64 (C i).a) ∧ cs[i * 5 + 2]? = some (.int .i64 (C i).b) ∧ cs[i * 5 + 3]? = some (.int .i64 (C i).c) ∧ cs[i * 5 + 4]? = some (.int .i64 (C i).n)
theorem CAt.lt {w : World} {g : Nat} {C : Nat → Fnd} (h : CAt w g C) : g < w.heap.size := by obtain ⟨cs, hb, _⟩ := h; exact hb.lt
theorem CAt.at_ {w : World} {g : Nat} {C : Nat → Fnd} (h : CAt w g C) {i : Nat} (hi : i < 4096) :
    w.cell? ⟨g, i * 5, none⟩ = some (.bool (C i).is) ∧ w.cell? ⟨g, i * 5 + 1, none⟩ = some (.int .i64 (C i).a) ∧ w.cell? ⟨g, i * 5 + 2, none⟩ = some (.int .i64 (C i).b) ∧
      w.cell? ⟨g, i * 5 + 3, none⟩ = some (.int .i64 (C i).c) ∧ w.cell? ⟨g, i * 5 + 4, none⟩ = some (.int .i64 (C i).n) := by
  obtain ⟨cs, hb, _, hc⟩ := h
  obtain ⟨h0, h1, h2, h3, h4⟩ := hc i hi
  exact ⟨(hb.cell _).trans h0, (hb.cell _).trans h1, (hb.cell _).trans h2, (hb.cell _).trans h3, (hb.cell _).trans h4⟩
theorem CAt.frozen {w : World} {g : Nat} {C : Nat → Fnd} (h : CAt w g C) (i : Nat) : w.frozen? ⟨g, i, none⟩ = false := by
  obtain ⟨cs, hb, _⟩ := h; exact hb.frozen i
theorem CAt.kb {T : TypeId → Bool} {w w' : World} {g : Nat} {C : Nat → Fnd} (h : CAt w g C) (hk : Kb T w w') (ht : T 196 = false) : CAt w' g C := by
  obtain ⟨cs, hb, r⟩ := h; exact ⟨cs, hk _ _ _ hb ht, r⟩
def updC (C : Nat → Fnd) (k : Nat) (x : Fnd) : Nat → Fnd := fun i => if i = k then x else C i
def storeFd (w : World) (g k : Nat) (x : Fnd) : World := ((((w.setCell ⟨g, k * 5, none⟩ (.bool x.is)).setCell ⟨g, k * 5 + 1, none⟩ (.int .i64 x.a)).setCell ⟨g, k * 5 + 2, none⟩ (.int .i64 x.b)).setCell ⟨g, k * 5 + 3, none⟩ (.int .i64 x.c)).setCell ⟨g, k * 5 + 4, none⟩ (.int .i64 x.n)
theorem CAt.store {w : World} {g : Nat} {C : Nat → Fnd} (h : CAt w g C) {k : Nat} (hk : k < 4096) (x : Fnd) : CAt (storeFd w g k x) g (updC C k x) := by
  obtain ⟨cs, hb, hs, hc⟩ := h
  refine ⟨_, ((((hb.set_ (k * 5) _).set_ (k * 5 + 1) _).set_ (k * 5 + 2) _).set_ (k * 5 + 3) _).set_ (k * 5 + 4) _, by simpa using hs, fun i hi => ?_⟩
  by_cases e : i = k
  · subst e
    unfold updC
    rw [if_pos rfl]
    simp only [Array.getElem?_setIfInBounds, Array.size_setIfInBounds, hs]
    refine ⟨?_, ?_, ?_, ?_, ?_⟩
    · rw [if_neg (by omega), if_neg (by omega), if_neg (by omega), if_neg (by omega), if_pos trivial, if_pos (by omega)]
    · rw [if_neg (by omega), if_neg (by omega), if_neg (by omega), if_pos trivial, if_pos (by omega)]
    · rw [if_neg (by omega), if_neg (by omega), if_pos trivial, if_pos (by omega)]
    · rw [if_neg (by omega), if_pos trivial, if_pos (by omega)]
    · rw [if_pos trivial, if_pos (by omega)]
  · unfold updC
    rw [if_neg e]
    obtain ⟨h0, h1, h2, h3, h4⟩ := hc i hi
    simp only [Array.getElem?_setIfInBounds]
    refine ⟨?_, ?_, ?_, ?_, ?_⟩ <;> rw [if_neg (by omega), if_neg (by omega), if_neg (by omega), if_neg (by omega), if_neg (by omega)] <;> assumption
theorem CAt.kpStore {w : World} {g B : Nat} {C : Nat → Fnd} (h : CAt w g C) (hB : B ≤ g) (k : Nat) (x : Fnd) : Kp TC B w (storeFd w g k x) := by
  obtain ⟨cs, hb, _⟩ := h
  have h0 : ∀ (v : World) (cs : Array Value) (hv : Blk v g 196 cs) (i : Nat) (u : Value), Kp TC B v (v.setCell ⟨g, i, none⟩ u) := fun v cs hv i u => Kp.set hv rfl hB i u
  have b1 := hb.set_ (k * 5) (.bool x.is)
  have b2 := b1.set_ (k * 5 + 1) (.int .i64 x.a)
  have b3 := b2.set_ (k * 5 + 2) (.int .i64 x.b)
  have b4 := b3.set_ (k * 5 + 3) (.int .i64 x.c)
  exact (((((h0 _ _ hb _ _).trans (h0 _ _ b1 _ _)).trans (h0 _ _ b2 _ _)).trans (h0 _ _ b3 _ _)).trans (h0 _ _ b4 _ _))
def CaF (S : NS) (C : Nat → Fnd) : Prop := ∀ i, i < 4096 → FndOk S (C i)
theorem CaF.ext {S S' : NS} {C : Nat → Fnd} (h : CaF S C) (he : Ext S S') (hW : Wf S) (hW' : Wf S') : CaF S' C := fun i hi => (h i hi).ext he hW hW'
theorem CaF.none (S : NS) : CaF S (fun _ => Fnd.no) := fun _ _ h => by cases h
theorem CaF.upd {S : NS} {C : Nat → Fnd} (h : CaF S C) (k : Nat) {x : Fnd} (hx : FndOk S x) : CaF S (updC C k x) := fun i hi => by
  unfold updC
  split
  · exact hx
  · exact h i hi
def found0 : Array Value := #[.bool false, .int .i64 0, .int .i64 0, .int .i64 0, .int .i64 0]
theorem found_info : (Tryz.prog.info? 196).map (fun i => (i.zero, i.size, i.bytes)) = some (some (.agg found0), 5, 40) := by kernel_rfl
theorem madef_at (z : Array Value) (n i : Nat) (hz : 0 < z.size) (hi : i < n) : (madeCells z n)[i]? = z[i % z.size]? := by
  have h1 : i % z.size < z.size := Nat.mod_lt _ hz
  unfold madeCells
  rw [Array.getElem?_map, Array.getElem?_range, if_pos hi]
  simp [h1]
theorem CAt.made {w : World} {g : Nat} (h : Blk w g 196 (madeCells found0 20480)) : CAt w g (fun _ => Fnd.no) := by
  have hz : found0.size = 5 := rfl
  refine ⟨_, h, size_madeCells _ _, fun i hi => ?_⟩
  rw [madef_at _ _ _ (by omega) (by omega), madef_at _ _ _ (by omega) (by omega), madef_at _ _ _ (by omega) (by omega), madef_at _ _ _ (by omega) (by omega), madef_at _ _ _ (by omega) (by omega), hz,
    show i * 5 % 5 = 0 by omega, show (i * 5 + 1) % 5 = 1 by omega, show (i * 5 + 2) % 5 = 2 by omega, show (i * 5 + 3) % 5 = 3 by omega, show (i * 5 + 4) % 5 = 4 by omega]
  exact ⟨rfl, rfl, rfl, rfl, rfl⟩
theorem made_founds : ∀ w : World, (Instr.makeSlice 81 (.int .i64 4096) (.int .i64 4096)).run Tryz.prog w = .ok (.slice (some ⟨w.heap.size, 0, none⟩) 4096 4096) (w.alloc (.cells (madeCells found0 20480) 196)) := fun w => by
  obtain ⟨i, hi, hz, h1, h2⟩ := info_parts found_info
  exact run_make_n (P := Tryz.prog) 81 196 i _ 5 40 Tryz.underlying81 hi hz h1 h2 .i64 .i64 4096 4096 (by omega) (by omega) (by omega) w
/-! ### the operations in memory -/
abbrev opsCells (p : Nat) (d : Int) (l : Value) (sw : Int) : Array Value := #[.pointer (some ⟨p, 0, none⟩), .int .u32 d, .int .i32 0, .int .u32 0, l, .int .i64 sw]
/-- block q is operations of the store p; what they found lies in block g, and holds in S -/
structure OpsF (w : World) (B p q g : Nat) (S : NS) (C : Nat → Fnd) : Prop where
  hq : B ≤ q
  hg : B ≤ g
  tab : Blk w q 83 (opsCells p 1 (.slice (some ⟨g, 0, none⟩) 4096 4096) (wr64 S.sweeps))
  cat : CAt w g C
  ca : CaF S C
/-- block q is operations of the store p -/
def OpsM (w : World) (B p q : Nat) (S : NS) : Prop := B ≤ q ∧ S.sweeps < 4611686018427387904 ∧
  (Blk w q 83 (opsCells p 0 (.slice none 0 0) 0) ∨
    ∃ g C s0, B ≤ g ∧ Blk w q 83 (opsCells p 1 (.slice (some ⟨g, 0, none⟩) 4096 4096) (wr64 s0)) ∧ CAt w g C ∧ s0 ≤ S.sweeps ∧ (s0 = S.sweeps → CaF S C))
theorem OpsF.m {w : World} {B p q g : Nat} {S : NS} {C : Nat → Fnd} (h : OpsF w B p q g S C) (hs : S.sweeps < 4611686018427387904) : OpsM w B p q S := ⟨h.hq, hs, .inr ⟨g, C, S.sweeps, h.hg, h.tab, h.cat, Nat.le_refl _, fun _ => h.ca⟩⟩
theorem OpsF.kb {T : TypeId → Bool} {w w' : World} {B p q g : Nat} {S : NS} {C : Nat → Fnd} (h : OpsF w B p q g S C) (hk : Kb T w w') (h1 : T 83 = false) (h2 : T 196 = false) : OpsF w' B p q g S C :=
  ⟨h.hq, h.hg, hk _ _ _ h.tab h1, h.cat.kb hk h2, h.ca⟩
theorem OpsM.kb {T : TypeId → Bool} {w w' : World} {B p q : Nat} {S : NS} (h : OpsM w B p q S) (hk : Kb T w w') (h1 : T 83 = false) (h2 : T 196 = false) : OpsM w' B p q S := by
  obtain ⟨a, b, h⟩ := h
  refine ⟨a, b, ?_⟩
  rcases h with h | ⟨g, C, s0, c1, c2, c3, c4, c5⟩
  · exact .inl (hk _ _ _ h h1)
  · exact .inr ⟨g, C, s0, c1, hk _ _ _ c2 h1, c3.kb hk h2, c4, c5⟩
theorem OpsM.below {w w' : World} {B p q : Nat} {S : NS} (h : OpsM w B p q S) (hb : Below w.heap.size w w') : OpsM w' B p q S := h.kb (T := fun _ => false) (Kp.of_below (B := 0) hb).kb rfl rfl
theorem OpsF.below {w w' : World} {B p q g : Nat} {S : NS} {C : Nat → Fnd} (h : OpsF w B p q g S C) (hb : Below w.heap.size w w') : OpsF w' B p q g S C := h.kb (T := fun _ => false) (Kp.of_below (B := 0) hb).kb rfl rfl
theorem OpsF.ext {w : World} {B p q g : Nat} {S S' : NS} {C : Nat → Fnd} (h : OpsF w B p q g S C) (he : Ext S S') (hW : Wf S) (hW' : Wf S') (hs : S'.sweeps = S.sweeps) : OpsF w B p q g S' C :=
  ⟨h.hq, h.hg, by rw [hs]; exact h.tab, h.cat, h.ca.ext he hW hW'⟩
theorem OpsM.ext {w : World} {B p q : Nat} {S S' : NS} (h : OpsM w B p q S) (he : Ext S S') (hW : Wf S) (hW' : Wf S') (hs : S'.sweeps = S.sweeps) : OpsM w B p q S' := by
  obtain ⟨a, b, h⟩ := h
  refine ⟨a, by omega, ?_⟩
  rcases h with h | ⟨g, C, s0, c1, c2, c3, c4, c5⟩
  · exact .inl h
  · exact .inr ⟨g, C, s0, c1, c2, c3, by omega, fun e => (c5 (by omega)).ext he hW hW'⟩
/-- behind a sweep -/
theorem OpsM.sweep {w : World} {B p q : Nat} {S S' : NS} (h : OpsM w B p q S) (hs : S.sweeps < S'.sweeps) (hl : S'.sweeps < 4611686018427387904) : OpsM w B p q S' := by
  obtain ⟨a, b, h⟩ := h
  refine ⟨a, hl, ?_⟩
  rcases h with h | ⟨g, C, s0, c1, c2, c3, c4, c5⟩
  · exact .inl h
  · exact .inr ⟨g, C, s0, c1, c2, c3, by omega, fun e => by omega⟩
theorem OpsM.lt {w : World} {B p q : Nat} {S : NS} (h : OpsM w B p q S) : q < w.heap.size := by
  obtain ⟨_, _, h⟩ := h
  rcases h with h | ⟨g, C, s0, _, h, _⟩
  · exact h.lt
  · exact h.lt
theorem Kb.setRow {w : World} {g : Nat} {t : TypeId} {cs : Array Value} (hg : Blk w g t cs) (cs' : Array Value) (T : TypeId → Bool) (hT : T t = true) : Kb T w (w.setRow g cs') := fun b u ds hb hu => by
  have hne : b ≠ g := by
    rintro rfl
    unfold Blk at hb hg
    rw [hg] at hb
    injection hb with hb
    injection hb with _ hb _
    rw [← hb, hT] at hu; cases hu
  unfold Blk
  rw [setRow_other w g b cs' hne]
  exact hb
theorem Kp.setRow {w : World} {B g : Nat} {t : TypeId} {cs : Array Value} (hg : Blk w g t cs) (hB : B ≤ g) (cs' : Array Value) (T : TypeId → Bool) (hT : T t = true) : Kp T B w (w.setRow g cs') := by
  refine ⟨rfl, rfl, rfl, by simp [World.setRow], fun k hk hn => setRow_other w g k cs' ?_⟩
  rintro rfl
  exact hn ⟨hB, cs, t, _, hg, hT⟩
/-! ### clear of a slice that is its block's whole -/
theorem run_clear_whole {P : Program} (w : World) (t e ty : TypeId) (i : TypeInfo) (z : Value) (g n c : Nat) (cs : Array Value) (ht : P.underlying t = some (.slice e)) (hi : P.info? e = some i) (hz : i.zero = some z) (hzs : i.size = z.cells.size) (hn : 0 < n)
    (hg : Blk w g e cs) (hs : cs.size = n * z.cells.size) (h1 : ∀ v ∈ z.cells.toList, v.oneCell' = true) :
    (Builtin.clear_ #[t] ty #[.slice (some ⟨g, 0, none⟩) n c]).run P w = .ok (.tuple #[]) (w.setRow g (madeCells z.cells (n * z.cells.size))) := by
  obtain ⟨m, rfl⟩ : ∃ m, n = m + 1 := ⟨n - 1, by omega⟩
  have hzv : (zeroValue e).run P w = .ok z w := by
    simp [zeroValue, typeInfo, hi, hz]
  have hall : ∀ v ∈ (Builtin.zeroCells z.cells (m + 1)).toList, v.oneCell' = true := by
    intro v hv
    unfold Builtin.zeroCells at hv
    simp only [Array.toList_map, List.mem_map] at hv
    obtain ⟨j, hj, rfl⟩ := hv
    by_cases hz0 : 0 < z.cells.size
    · have hlt : j % z.cells.size < z.cells.size := Nat.mod_lt _ hz0
      rw [getElem!_pos z.cells _ hlt]
      exact h1 _ (by simp)
    · have : z.cells.size = 0 := by omega
      simp [this] at hj
  have hst := run_storeCells_from (P := P) g e (Builtin.zeroCells z.cells (m + 1)).toList 0 cs w hg (by simp [Builtin.zeroCells, hs]) hall
  have hm : (Builtin.zeroCells z.cells (m + 1)).toList.toArray = madeCells z.cells ((m + 1) * z.cells.size) := by rw [Array.toArray_toList]; rfl
  simp only [List.take_zero, List.nil_append] at hst
  rw [hm] at hst
  unfold Builtin.clear_
  simp [run_underlying ht, hzv, hst, Result.andThen]
theorem wpList_clear {P : Program} {w : World} {ops : Array Oper} {rest : List Oper} {o : Oper} {a : Act} {Q : Exit → Act → World → Prop} (hgd : o.guard = none) (s : Operand) (t e : TypeId)
    (hop : o.op = .call { callee := .builtin .clear, args := #[s], argTypes := #[t] }) (i : TypeInfo) (z : Value) (g n c : Nat) (cs : Array Value) (ht : P.underlying t = some (.slice e)) (hi : P.info? e = some i) (hz : i.zero = some z) (hzs : i.size = z.cells.size) (hn : 0 < n)
    (hs : a.eval s = .slice (some ⟨g, 0, none⟩) n c) (hg : Blk w g e cs) (N : Nat) (hN : n * z.cells.size = N) (hsz : cs.size = N) (h1 : ∀ v ∈ z.cells.toList, v.oneCell' = true)
    (h : wpList P ops Q rest (a.put o.dst (.tuple #[])) (w.setRow g (madeCells z.cells N))) : wpList P ops Q (o :: rest) a w := by
  subst hN
  refine wpList_plain hgd fun K hK => ?_
  have hrun := run_clear_whole (P := P) w t e o.type i z g n c cs ht hi hz hzs hn hg hsz h1
  unfold Oper.wp
  simp [execOp, hop, resolve, invoke, builtin, hs, hrun, Result.andThen]
  exact hK _ _ h
end Go.Proofs.YtobhjkfkdkiigaaGreatDoor
