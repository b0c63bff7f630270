/- The store of layer 3 between two of its stores to memory (StRaw). -/
import Derived.Test.YtdalnhhenahcjaaNodeD
import Derived.Test.YtdalnhhenahcjaaNodeR
namespace Go.Proofs.Ytdalnhhenahcjaa
open Go.RowKit HP NP
theorem wr_gen (n H M : Int) : ((n + H) % M - H + 1 + H) % M - H = (n + 1 + H) % M - H := by
  have e : (n + H) % M - H + 1 + H = (n + H) % M + 1 := by generalize (n + H) % M = x; omega
  rw [e, Int.emod_add_emod]
  congr 2
  omega
theorem wr_succ (n : Nat) : wrap64 (wr64 n + 1) = wr64 (n + 1) := by
  unfold wr64 wrap64
  rw [wr_gen, Int.natCast_add]
  rfl
structure StRaw (w : World) (B p g q cap : Nat) (fa : Option Addr) (fc : Nat) (vars budget : Nat) (l : List Nd) (F : List Nat) (c : Nat) (made sweeps : Int) : Prop where
  hp : B ≤ p
  tab : Blk w p 91 #[.int .i64 (vars : Int), .int .i64 (budget : Int), .slice (some ⟨g, 0, none⟩) l.length cap, .slice fa F.length fc, .pointer (some ⟨q, 0, none⟩), .int .i64 (c : Int), .int .i64 made, .int .i64 sweeps]
  row : w.ownsRow B 99 5 (.slice (some ⟨g, 0, none⟩) l.length cap) l.length (l.flatMap ndCells)
  fre : Cells w fa (F.reverse.map fun k : Nat => .int .i64 (k : Int))
  frt : TB w fa 3
  frc : F.length ≤ fc ∧ fc ≤ maxLen
theorem StIn.raw {w : World} {B p g q cap : Nat} {fa : Option Addr} {fc : Nat} {M : Key → Option Int} {S : NS} (h : StIn w B p g q cap fa fc M S) : StRaw w B p g q cap fa fc S.vars S.budget S.l (frees S.l) (cnt S.l) (wr64 S.made) (wr64 S.sweeps) :=
  ⟨h.hp, h.tab, h.row, h.fre, h.frt, h.frc⟩
theorem StRaw.stin {w : World} {B p g q cap : Nat} {fa : Option Addr} {fc : Nat} {M : Key → Option Int} {S : NS} (h : StRaw w B p g q cap fa fc S.vars S.budget S.l (frees S.l) (cnt S.l) (wr64 S.made) (wr64 S.sweeps)) (hw : Wf S) (hb : HB w B q M (cnt S.l - 2)) (hs : Says S.l M) : StIn w B p g q cap fa fc M S :=
  ⟨hw, h.hp, h.tab, h.row, h.fre, h.frt, h.frc, hb, hs⟩
section
variable {w w' : World} {B p g q cap : Nat} {fa : Option Addr} {fc vars budget : Nat} {l : List Nd} {F : List Nat} {c : Nat} {made sweeps : Int}
theorem StRaw.kp {T : TypeId → Bool} {B' : Nat} (h : StRaw w B p g q cap fa fc vars budget l F c made sweeps) (hk : Kp T B' w w') (h3 : T 91 = false) (h4 : T 99 = false) (h5 : T 3 = false) : StRaw w' B p g q cap fa fc vars budget l F c made sweeps :=
  { h with tab := hk.blk h.tab h3, row := own_kp h.row hk h4, fre := h.fre.kp h.frt hk h5, frt := h.frt.kp hk h5 }
theorem StRaw.below (h : StRaw w B p g q cap fa fc vars budget l F c made sweeps) (hb : Below w.heap.size w w') : StRaw w' B p g q cap fa fc vars budget l F c made sweeps :=
  h.kp (T := fun _ => false) (B' := 0) (Kp.of_below hb) rfl rfl rfl
/-- a store to the struct -/
theorem StRaw.kpp (h : StRaw w B p g q cap fa fc vars budget l F c made sweeps) (i : Nat) (u : Value) : Kp (fun t => t == 91) B w (w.setCell ⟨p, i, none⟩ u) := Kp.set h.tab (by rfl) h.hp _ _
theorem tn_store (t : TypeId) (h : (t == 91) = true) : TN t = true := by
  have : t = 91 := by simpa using h
  subst this; rfl
theorem tn_one (t : TypeId) (h : (t == 99) = true) : TN t = true := by
  have : t = 99 := by simpa using h
  subst this; rfl
def TS (t : TypeId) : Bool := t == 91 || t == 99
theorem ts_store (t : TypeId) (h : (t == 91) = true) : TS t = true := by unfold TS; rw [h]; rfl
theorem ts_one (t : TypeId) (h : (t == 99) = true) : TS t = true := by unfold TS; rw [h]; simp
theorem tn_ts (t : TypeId) (h : TS t = true) : TN t = true := by unfold TN; unfold TS at h; rw [h]; simp
theorem tn_hash (t : TypeId) (h : TH t = true) : TN t = true := by unfold TN; rw [h]; rfl
theorem StRaw.kpn (h : StRaw w B p g q cap fa fc vars budget l F c made sweeps) (i : Nat) (u : Value) : Kp TS B w (w.setCell ⟨p, i, none⟩ u) := (h.kpp i u).mono ts_store (Nat.le_refl _)
theorem StRaw.len_ (h : StRaw w B p g q cap fa fc vars budget l F c made sweeps) (x : Int) (c' : Nat) (hx : x = (c' : Int)) : StRaw (w.setCell ⟨p, 5, none⟩ (.int .i64 x)) B p g q cap fa fc vars budget l F c' made sweeps :=
  have hk := h.kpp 5 (.int .i64 x)
  ⟨h.hp, by rw [hx]; exact h.tab.set_ 5 _, own_kp h.row hk rfl, h.fre.kp h.frt hk rfl, h.frt.kp hk rfl, h.frc⟩
theorem StRaw.made_ (h : StRaw w B p g q cap fa fc vars budget l F c made sweeps) (m : Int) : StRaw (w.setCell ⟨p, 6, none⟩ (.int .i64 m)) B p g q cap fa fc vars budget l F c m sweeps :=
  have hk := h.kpp 6 (.int .i64 m)
  ⟨h.hp, h.tab.set_ 6 _, own_kp h.row hk rfl, h.fre.kp h.frt hk rfl, h.frt.kp hk rfl, h.frc⟩
theorem StRaw.sweeps_ (h : StRaw w B p g q cap fa fc vars budget l F c made sweeps) (m : Int) : StRaw (w.setCell ⟨p, 7, none⟩ (.int .i64 m)) B p g q cap fa fc vars budget l F c made m :=
  have hk := h.kpp 7 (.int .i64 m)
  ⟨h.hp, h.tab.set_ 7 _, own_kp h.row hk rfl, h.fre.kp h.frt hk rfl, h.frt.kp hk rfl, h.frc⟩
/-- the free numbers are others -/
theorem StRaw.free_ (h : StRaw w B p g q cap fa fc vars budget l F c made sweeps) {fa' : Option Addr} {fc' : Nat} {F' : List Nat} (h1 : Cells w fa' (F'.reverse.map fun k : Nat => .int .i64 (k : Int))) (h2 : TB w fa' 3) (h3 : F'.length ≤ fc' ∧ fc' ≤ maxLen) :
    StRaw (w.setCell ⟨p, 3, none⟩ (.slice fa' F'.length fc')) B p g q cap fa' fc' vars budget l F' c made sweeps :=
  have hk := h.kpp 3 (.slice fa' F'.length fc')
  ⟨h.hp, h.tab.set_ 3 _, own_kp h.row hk rfl, h1.kp h2 hk rfl, h2.kp hk rfl, h3⟩
/-- the first free number taken -/
theorem StRaw.pop {f : Nat} {t : List Nat} (h : StRaw w B p g q cap fa fc vars budget l (f :: t) c made sweeps) : StRaw (w.setCell ⟨p, 3, none⟩ (.slice fa t.length fc)) B p g q cap fa fc vars budget l t c made sweeps := by
  refine h.free_ (fun hx => ?_) h.frt ⟨by have := h.frc.1; simp at this; omega, h.frc.2⟩
  have hf := h.fre
  rw [List.reverse_cons, List.map_append] at hf
  obtain ⟨b, off, e, hb, hh⟩ := hf (by simp)
  exact ⟨b, off, e, hb, fun i v hv => hh i v (by rw [List.getElem?_append_left (List.getElem?_eq_some_iff.1 hv).1]; exact hv)⟩
/-- the first free number's cell -/
theorem StRaw.top {f : Nat} {t : List Nat} (h : StRaw w B p g q cap fa fc vars budget l (f :: t) c made sweeps) : ∃ b off, fa = some ⟨b, off, none⟩ ∧ b < w.heap.size ∧ w.cell? ⟨b, off + t.length, none⟩ = some (.int .i64 (f : Int)) := by
  have hf := h.fre
  rw [List.reverse_cons, List.map_append] at hf
  obtain ⟨b, off, e, hb, hh⟩ := hf (by simp)
  exact ⟨b, off, e, hb, hh t.length _ (by rw [List.getElem?_append_right (by simp)]; simp)⟩
/-- a node stored -/
theorem StRaw.node (h : StRaw w B p g q cap fa fc vars budget l F c made sweeps) {k : Nat} (hk : k < l.length) (x : Nd) :
    StRaw (((((w.setCell ⟨g, k * 5, none⟩ (.bool x.is)).setCell ⟨g, k * 5 + 1, none⟩ (.int .i64 (x.v : Int))).setCell ⟨g, k * 5 + 2, none⟩ (.int .i64 (x.low : Int))).setCell ⟨g, k * 5 + 3, none⟩ (.int .i64 (x.high : Int))).setCell ⟨g, k * 5 + 4, none⟩ (.int .i64 (x.pins : Int))) B p g q cap fa fc vars budget (l.set k x) F c made sweeps ∧
    Kp (fun t => t == 99) B w (((((w.setCell ⟨g, k * 5, none⟩ (.bool x.is)).setCell ⟨g, k * 5 + 1, none⟩ (.int .i64 (x.v : Int))).setCell ⟨g, k * 5 + 2, none⟩ (.int .i64 (x.low : Int))).setCell ⟨g, k * 5 + 3, none⟩ (.int .i64 (x.high : Int))).setCell ⟨g, k * 5 + 4, none⟩ (.int .i64 (x.pins : Int))) := by
  have r1 := (World.ownsRow.stored h.row (k * 5) (.bool x.is)).1
  have r2 := (World.ownsRow.stored r1 (k * 5 + 1) (.int .i64 (x.v : Int))).1
  have r3 := (World.ownsRow.stored r2 (k * 5 + 2) (.int .i64 (x.low : Int))).1
  have r4 := (World.ownsRow.stored r3 (k * 5 + 3) (.int .i64 (x.high : Int))).1
  have r5 := (World.ownsRow.stored r4 (k * 5 + 4) (.int .i64 (x.pins : Int))).1
  rw [flat_set5 ndCells (fun _ => rfl) l k hk x _ _ _ _ _ rfl] at r5
  obtain ⟨c0, h0, hB⟩ := own_blk h.row
  obtain ⟨c1, h1, _⟩ := own_blk r1
  obtain ⟨c2, h2, _⟩ := own_blk r2
  obtain ⟨c3, h3, _⟩ := own_blk r3
  obtain ⟨c4, h4, _⟩ := own_blk r4
  have kk : Kp (fun t => t == 99) B w (((((w.setCell ⟨g, k * 5, none⟩ (.bool x.is)).setCell ⟨g, k * 5 + 1, none⟩ (.int .i64 (x.v : Int))).setCell ⟨g, k * 5 + 2, none⟩ (.int .i64 (x.low : Int))).setCell ⟨g, k * 5 + 3, none⟩ (.int .i64 (x.high : Int))).setCell ⟨g, k * 5 + 4, none⟩ (.int .i64 (x.pins : Int))) :=
    ((((Kp.set h0 (by rfl) hB _ _).trans (Kp.set h1 (by rfl) hB _ _)).trans (Kp.set h2 (by rfl) hB _ _)).trans (Kp.set h3 (by rfl) hB _ _)).trans (Kp.set h4 (by rfl) hB _ _)
  refine ⟨⟨h.hp, ?_, ?_, h.fre.kp h.frt kk rfl, h.frt.kp kk rfl, h.frc⟩, kk⟩
  · rw [List.length_set]; exact kk.blk h.tab rfl
  · rw [List.length_set]; exact r5
/-- a place more -/
theorem StRaw.more (h : StRaw w B p g q cap fa fc vars budget l F c made sweeps) {g' cap' : Nat} {w' : World} (hg : w.grownBy w' (some g)) (hown : w'.ownsRow B 99 5 (.slice (some ⟨g', 0, none⟩) (l.length + 1) cap') (l.length + 1) (l.flatMap ndCells ++ ndCells Nd.no)) :
    StRaw (w'.setCell ⟨p, 2, none⟩ (.slice (some ⟨g', 0, none⟩) (l.length + 1) cap')) B p g' q cap' fa fc vars budget (l ++ [Nd.no]) F c made sweeps ∧ Kp TS B w (w'.setCell ⟨p, 2, none⟩ (.slice (some ⟨g', 0, none⟩) (l.length + 1) cap')) ∧ Blk w' p 91 #[.int .i64 (vars : Int), .int .i64 (budget : Int), .slice (some ⟨g, 0, none⟩) l.length cap, .slice fa F.length fc, .pointer (some ⟨q, 0, none⟩), .int .i64 (c : Int), .int .i64 made, .int .i64 sweeps] := by
  obtain ⟨cs, hc, hBg⟩ := own_blk h.row
  have k1 : Kp (fun t => t == 99) B w w' := Kp.grown hg (fun k e _ => by injection e with e; subst e; exact ⟨hBg, cs, _, _, hc, by rfl⟩)
  have ht : Blk w' p 91 _ := k1.blk h.tab rfl
  have k2 : Kp (fun t => t == 91) B w' (w'.setCell ⟨p, 2, none⟩ (.slice (some ⟨g', 0, none⟩) (l.length + 1) cap')) := Kp.set ht (by rfl) h.hp _ _
  refine ⟨⟨h.hp, ?_, ?_, (h.fre.kp h.frt k1 rfl).kp (h.frt.kp k1 rfl) k2 rfl, (h.frt.kp k1 rfl).kp k2 rfl, h.frc⟩, (k1.mono ts_one (Nat.le_refl _)).trans (k2.mono ts_store (Nat.le_refl _)), ht⟩
  · have := ht.set_ 2 (.slice (some ⟨g', 0, none⟩) (l.length + 1) cap')
    simpa using this
  · have := own_kp hown k2 rfl
    simpa using this
end
theorem own_some {w : World} {base e size n : Nat} {v : Value} {xs : List Value} (h : w.ownsRow base e size v n xs) (hn : 0 < n) : ∃ g cap, v = .slice (some ⟨g, 0, none⟩) n cap := by
  rcases h.2 with ⟨_, h2⟩ | ⟨g, cap, cur, h1, _⟩
  · omega
  · exact ⟨g, cap, h1⟩
theorem info_one : (Try.prog.info? 99).map (fun i => (i.zero, i.size, i.bytes)) = some (some (.agg #[.bool false, .int .i64 0, .int .i64 0, .int .i64 0, .int .i64 0]), 5, 40) := by kernel_rfl
theorem no_ones : ∀ u ∈ ndCells Nd.no, u.oneCell' = true := by
  intro u hu; simp [ndCells, Nd.no] at hu; rcases hu with rfl | rfl <;> rfl
theorem Says.put {l : List Nd} {M : Key → Option Int} (h : Says l M) {k : Nat} (hk : k ≤ l.length) (h2 : 2 ≤ k) (h0 : isB l k = false) (x : Nd) (hx : x.is = true) (hno : findK l (kyOf x) = none) : Says (putN l k x) (setK M (kyOf x) (some (k : Int))) := fun c v => by
  unfold setK
  constructor
  · intro hm
    by_cases e : c = kyOf x
    · rw [if_pos e] at hm
      injection hm with hm
      exact ⟨k, ⟨h2, by unfold isB; rw [nd_put hk, if_pos rfl]; exact hx, by rw [nd_put hk, if_pos rfl, e]⟩, hm.symm⟩
    · rw [if_neg e] at hm
      obtain ⟨j, ⟨j2, jb, jc⟩, jv⟩ := (h c v).1 hm
      have hj : j ≠ k := by rintro rfl; rw [h0] at jb; cases jb
      exact ⟨j, ⟨j2, by unfold isB; rw [nd_put hk, if_neg hj]; exact jb, by rw [nd_put hk, if_neg hj]; exact jc⟩, jv⟩
  · rintro ⟨j, ⟨j2, jb, jc⟩, jv⟩
    by_cases hj : j = k
    · subst hj
      rw [nd_put hk, if_pos rfl] at jc
      rw [if_pos jc.symm, jv]
    · unfold isB at jb
      rw [nd_put hk, if_neg hj] at jb jc
      rw [if_neg (by rintro rfl; exact findK_none hno j ⟨j2, jb, jc⟩)]
      exact (h c v).2 ⟨j, ⟨j2, jb, jc⟩, jv⟩
theorem Says.some_ {S : NS} {M : Key → Option Int} (h : Says S.l M) {c : Key} {k : Nat} (hf : findK S.l c = some k) : M c = some (k : Int) := (h c _).2 ⟨k, findK_some hf, rfl⟩
theorem Says.none_ {S : NS} {M : Key → Option Int} (h : Says S.l M) {c : Key} (hf : findK S.l c = none) : M c = none := by
  cases hm : M c with
  | none => rfl
  | some v => obtain ⟨k, hk, _⟩ := (h c v).1 hm; exact absurd hk (findK_none hf k)
end Go.Proofs.Ytdalnhhenahcjaa
