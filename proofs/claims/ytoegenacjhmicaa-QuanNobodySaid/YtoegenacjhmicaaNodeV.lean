/- Sweep (layer 3): its contract. -/
import Derived.Test.YtoegenacjhmicaaNodeH
import Derived.Test.YtoegenacjhmicaaNodeU
namespace Go.Proofs.Ytoegenacjhmicaa
open Go.RowKit HP NP
theorem Only.grown_new {F : Nat → Prop} {a w w' : World} {row : Option Nat} (h : Only F a w) (hg : w.grownBy w' row) (hr : ∀ k, row = some k → a.heap.size ≤ k) : Only F a w' :=
  ⟨hg.os.trans h.os, hg.tape.trans h.tape, hg.output.trans h.output, Nat.le_trans h.size hg.size, fun i hi hn => (hg.block i (Nat.lt_of_lt_of_le hi h.size) (fun e => by have := hr i e.symm; omega)).trans (h.block i hi hn)⟩
theorem made_bools (n : Nat) (hn : n ≤ 1048576) (w : World) : (Instr.makeSlice 69 (.int .i64 (n : Int)) (.int .i64 (n : Int))).run Try.prog w = .ok (.slice (some ⟨w.heap.size, 0, none⟩) n n) (w.alloc (.cells (madeCells #[.bool false] n) 4)) := by
  have hi : (Try.prog.info? 4).map (fun i => (i.zero, i.size, i.bytes)) = some (some (.bool false), 1, 1) := by kernel_rfl
  obtain ⟨i, h1, h2, h3, h4⟩ := info_parts hi
  have := run_make_n (P := Try.prog) 69 4 i (.bool false) 1 1 Try.underlying69 h1 h2 h3 h4 .i64 .i64 n n (Nat.le_refl _) (by omega) (by omega) w
  rw [show (Value.bool false).cells = #[.bool false] from rfl, Nat.mul_one] at this
  exact this
theorem SeenAt.made (w : World) (n : Nat) (hn : n ≤ 1048576) : SeenAt (w.alloc (.cells (madeCells #[.bool false] n) 4)) w.heap.size w.heap.size n n (fun _ => false) := by
  have h := World.ownsRow_lit (base := w.heap.size) (e := 4) (size := 1) w (madeCells #[.bool false] n) n (Nat.le_refl _) (by unfold maxLen; omega) (by rw [Nat.mul_one]; exact size_madeCells _ _)
  rw [toList_madeCells_one] at h
  unfold SeenAt
  have e : ((List.range n).map fun _ => Value.bool false) = List.replicate n (.bool false) := by
    apply List.ext_getElem?
    intro j
    by_cases hj : j < n <;> simp [hj]
  rw [e]; exact h
def SweepPost (B p : Nat) (S : NS) (w : World) (e : Ending) (w' : World) : Prop :=
  ∃ s, MarkedTo S.l S.l.length s ∧ e = .returned (.int .i64 ((cnt S.l - cnt (swp S.l s 1) : Nat) : Int)) ∧ Sto w' B p { S with l := swp S.l s 1, sweeps := S.sweeps + 1 } ∧ Kp TN B w w'
/-- the first loop: behind k rounds -/
def SwA (w wr : World) (B p g q cap : Nat) (fa : Option Addr) (fc : Nat) (M : Key → Option Int) (S : NS) (k : Nat) : Prop :=
  ∃ s, MarkedTo S.l k s ∧ SeenAt wr w.heap.size w.heap.size S.l.length S.l.length s ∧ StIn wr B p g q cap fa fc M S ∧ Only (TF TN B w) w wr
/-- the second loop: L the nodes, F the free numbers so far, rising -/
structure SwM (w wr : World) (B p g q cap : Nat) (S : NS) (s : Nat → Bool) (L : List Nd) (F : List Nat) (fa : Option Addr) (fc : Nat) (M : Key → Option Int) (gone : Nat) : Prop where
  raw : StRaw wr B p g q cap fa fc S.vars S.budget L F (cnt S.l) (wr64 S.made) (wr64 S.sweeps)
  own : wr.ownsRow w.heap.size 3 1 (.slice fa F.length fc) F.length (F.reverse.map fun k : Nat => .int .i64 (k : Int))
  seen : SeenAt wr w.heap.size w.heap.size S.l.length S.l.length s
  has : HB wr B q M (cnt L - 2)
  rep : Says L M
  gon : gone + cnt L = cnt S.l
  only : Only (TF TN B w) w wr
theorem own_cellsV {w : World} {base e size n cap : Nat} {a : Option Addr} {xs : List Value} (h : w.ownsRow base e size (.slice a n cap) n xs) : Cells w a xs := by
  obtain ⟨a', cap', he, hc⟩ := Cells.of_own h
  injection he with h1 _ _
  subst h1; exact hc.2.2
theorem own_tbV {w : World} {base e size n : Nat} {a : Option Addr} {m cap : Nat} {xs : List Value} (h : w.ownsRow base e size (.slice a m cap) n xs) : TB w a e := fun b off s he => by
  rcases h.2 with ⟨h1, _⟩ | ⟨g, cap', cur, h1, _, hg, _⟩
  · injection h1 with h1 _ _; rw [h1] at he; cases he
  · injection h1 with h1 _ _; rw [h1] at he; injection he with he; injection he with he _ _; subst he; exact ⟨cur, hg⟩
theorem own_grown_kb {w w' : World} {base e size n : Nat} {v : Value} {xs : List Value} (h : w.ownsRow base e size v n xs) (hg : w.grownBy w' v.ownBlock) : Kb (fun t => t == e) w w' := by
  refine (Kp.grown (B := 0) hg (fun k hk _ => ?_)).kb
  rcases h.2 with ⟨rfl, _⟩ | ⟨g, cap, cur, rfl, _, hgg, _⟩
  · cases hk
  · injection hk with hk; subst hk; exact ⟨Nat.zero_le _, cur, _, _, hgg, by simp⟩
theorem StRaw.nd_ {w : World} {B p g q cap : Nat} {fa : Option Addr} {fc vars budget : Nat} {l : List Nd} {F : List Nat} {c : Nat} {made sweeps : Int} (h : StRaw w B p g q cap fa fc vars budget l F c made sweeps) {k : Nat} (hk : k < l.length) :
    g < w.heap.size ∧ w.cell? ⟨g, k * 5, none⟩ = some (.bool (nd l k).is) ∧ w.cell? ⟨g, k * 5 + 1, none⟩ = some (.int .i64 ((nd l k).v : Int)) ∧ w.cell? ⟨g, k * 5 + 2, none⟩ = some (.int .i64 ((nd l k).low : Int)) ∧ w.cell? ⟨g, k * 5 + 3, none⟩ = some (.int .i64 ((nd l k).high : Int)) ∧ w.cell? ⟨g, k * 5 + 4, none⟩ = some (.int .i64 ((nd l k).pins : Int)) := by
  obtain ⟨cs, hc, _⟩ := own_blk h.row
  have at_ := fun j v hj => own_at ndCells 5 (fun _ => rfl) h.row (i := k) (j := j) (v := v) (nd_lt hk) hj
  exact ⟨hc.lt, by simpa using at_ 0 _ rfl, at_ 1 _ rfl, at_ 2 _ rfl, at_ 3 _ rfl, at_ 4 _ rfl⟩
section
variable {w wr : World} {B p g q cap : Nat} {S : NS} {s : Nat → Bool} {L : List Nd} {F : List Nat} {fa : Option Addr} {fc : Nat} {M : Key → Option Int} {gone : Nat}
theorem SwM.below {w' : World} (h : SwM w wr B p g q cap S s L F fa fc M gone) (hb : Below wr.heap.size wr w') : SwM w w' B p g q cap S s L F fa fc M gone :=
  ⟨h.raw.below hb, own_below h.own hb, own_below h.seen hb, h.has.below hb, h.rep, h.gon, Kp.trans h.only (Kp.of_below hb)⟩
/-- a node taken out of the table, and cleared -/
theorem SwM.drop {w4 : World} (h : SwM w wr B p g q cap S s L F fa fc M gone) (hk4 : Kp TH B wr w4) {k : Nat} (hl : k < L.length) (hb : isB L k = true) (h2 : 2 ≤ k) (ho : ∀ j, 2 ≤ j → isB L j = true → kyOf (nd L j) = kyOf (nd L k) → j = k) 
    (hh : HB w4 B q (setK M (kyOf (nd L k)) none) (if (M (kyOf (nd L k))).isSome then cnt L - 2 - 1 else cnt L - 2)) :
    SwM w (((((w4.setCell ⟨g, k * 5, none⟩ (.bool false)).setCell ⟨g, k * 5 + 1, none⟩ (.int .i64 0)).setCell ⟨g, k * 5 + 2, none⟩ (.int .i64 0)).setCell ⟨g, k * 5 + 3, none⟩ (.int .i64 0)).setCell ⟨g, k * 5 + 4, none⟩ (.int .i64 0)) B p g q cap S s (L.set k Nd.no) F fa fc (setK M (kyOf (nd L k)) none) (gone + 1) := by
  obtain ⟨r1, r2⟩ := (h.raw.kp hk4 rfl rfl rfl).node hl Nd.no
  have hm : M (kyOf (nd L k)) = some (k : Int) := (h.rep _ _).2 ⟨k, ⟨h2, hb, rfl⟩, rfl⟩
  have hc := cnt_set hl Nd.no
  have hb' := hb
  unfold isB at hb'
  rw [hb'] at hc
  simp [Nd.no] at hc
  have hn : ∀ j, nd (L.set k Nd.no) j = if j = k then Nd.no else nd L j := fun j => by
    have := nd_put (Nat.le_of_lt hl) Nd.no j
    unfold putN at this
    rwa [if_pos hl] at this
  have hks := r2.kb
  refine ⟨r1, own_kb (own_kp h.own hk4 rfl) hks rfl, own_kb (own_kp h.seen hk4 rfl) hks rfl, ?_, fun c v => ?_, ?_, ?_⟩
  · rw [hm] at hh
    simp only [Option.isSome_some, if_true] at hh
    have e : cnt L - 2 - 1 = cnt (L.set k Nd.no) - 2 := by
      have : cnt (L.set k Nd.no) + 1 = cnt L := hc
      omega
    rw [e] at hh
    exact hh.kb hks rfl rfl
  · unfold setK
    constructor
    · intro hcv
      by_cases e : c = kyOf (nd L k)
      · rw [if_pos e] at hcv; cases hcv
      · rw [if_neg e] at hcv
        obtain ⟨j, ⟨j2, jb, jc⟩, jv⟩ := (h.rep c v).1 hcv
        have hj : j ≠ k := by rintro rfl; exact e jc.symm
        exact ⟨j, ⟨j2, by unfold isB; rw [hn, if_neg hj]; exact jb, by rw [hn, if_neg hj]; exact jc⟩, jv⟩
    · rintro ⟨j, ⟨j2, jb, jc⟩, jv⟩
      have hj : j ≠ k := by rintro rfl; unfold isB at jb; rw [hn, if_pos rfl] at jb; cases jb
      unfold isB at jb
      rw [hn, if_neg hj] at jb jc
      rw [if_neg (fun e => hj (ho j j2 jb (by rw [jc, e])))]
      exact (h.rep c v).2 ⟨j, ⟨j2, jb, jc⟩, jv⟩
  · have := h.gon
    have : cnt (L.set k Nd.no) + 1 = cnt L := hc
    omega
  · exact Kp.trans (Kp.trans h.only (hk4.mono tn_hash (Nat.le_refl _))) (r2.mono tn_one (Nat.le_refl _))
/-- a free number more -/
theorem SwM.push {w6 : World} (h : SwM w wr B p g q cap S s L F fa fc M gone) (k : Nat) (o : Obj) {fa' : Option Addr} {fc' : Nat} 
    (hown : w6.ownsRow w.heap.size 3 1 (.slice fa' (F.length + 1) fc') (F.length + 1) ((F.reverse.map fun k : Nat => .int .i64 (k : Int)) ++ [.int .i64 (k : Int)])) (hg : (wr.alloc o).grownBy w6 (Value.slice fa F.length fc).ownBlock) :
    SwM w (w6.setCell ⟨p, 3, none⟩ (.slice fa' (F.length + 1) fc')) B p g q cap S s L (k :: F) fa' fc' M gone ∧ Blk w6 p 88 #[.int .i64 (S.vars : Int), .int .i64 (S.budget : Int), .slice (some ⟨g, 0, none⟩) L.length cap, .slice fa F.length fc, .pointer (some ⟨q, 0, none⟩), .int .i64 (cnt S.l : Int), .int .i64 (wr64 S.made), .int .i64 (wr64 S.sweeps)] := by
  have ha : Below wr.heap.size wr (wr.alloc o) := (Below.refl _ _).alloc (Nat.le_refl _) _
  have h1 := h.below ha
  have kb := own_grown_kb h1.own hg
  have ht := kb _ _ _ h1.raw.tab rfl
  have k2 : Kp (fun t => t == 88) B w6 (w6.setCell ⟨p, 3, none⟩ (.slice fa' (F.length + 1) fc')) := Kp.set ht (by rfl) h.raw.hp _ _
  have e : ((F.reverse.map fun k : Nat => Value.int .i64 (k : Int)) ++ [.int .i64 (k : Int)]) = ((k :: F).reverse.map fun k : Nat => .int .i64 (k : Int)) := by simp
  rw [e] at hown
  have hown2 := own_kp hown k2 rfl
  have hcap : F.length + 1 ≤ fc' ∧ fc' ≤ maxLen := by
    obtain ⟨a', c', he, h3, h4, _⟩ := Cells.of_own hown
    injection he with _ _ he; subst he; exact ⟨h3, h4⟩
  refine ⟨⟨⟨h.raw.hp, ?_, own_kp (own_kb h1.raw.row kb rfl) k2 rfl, own_cellsV hown2, own_tbV hown2, hcap⟩, hown2, own_kp (own_kb h1.seen kb rfl) k2 rfl, (h1.has.kb kb rfl rfl).kp k2 rfl rfl, h.rep, h.gon, ?_⟩, ht⟩
  · have := ht.set_ 3 (.slice fa' (F.length + 1) fc')
    simpa using this
  · exact Kp.trans (Only.grown_new h1.only hg (fun j hj => (h1.own.lt j hj).1)) (k2.mono tn_store (Nat.le_refl _))
end
end Go.Proofs.Ytoegenacjhmicaa
