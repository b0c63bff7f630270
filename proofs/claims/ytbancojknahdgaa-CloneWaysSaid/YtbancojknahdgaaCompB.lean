/- The walker of comp in memory (WM), and the contracts of meet and leave. -/
import Derived.Test.YtbancojknahdgaaCompA
namespace Go.Proofs.Ytbancojknahdgaa
open Go.RowKit CP
/-- where a walker's parts lie -/
structure WA where
  p : Nat
  ga : Nat
  bm : Nat
  bl : Nat
  bo : Nat
  bc : Nat
def walkCells (A : WA) (n : Nat) (stk : Value) (s : TS) : Array Value := #[.slice (some ⟨A.ga, 0, none⟩) n n, .slice (some ⟨A.bm, 0, none⟩) n n, .slice (some ⟨A.bl, 0, none⟩) n n, stk, .slice (some ⟨A.bo, 0, none⟩) n n, .int .i64 (s.count : Int), .slice (some ⟨A.bc, 0, none⟩) n n, .int .i64 (s.comps : Int)]
def WF (A : WA) (stk : Value) (b : Nat) : Prop := b = A.p ∨ b = A.bm ∨ b = A.bl ∨ b = A.bo ∨ b = A.bc ∨ stk.ownBlock = some b
structure WM (w : World) (G B : Nat) (A : WA) (n : Nat) (g : Nat → List Nat) (sl : Nat → Value) (stk : Value) (s : TS) : Prop where
  blk : Blk w A.p 81 (walkCells A n stk s)
  met : Blk w A.bm 3 (tabI n s.met)
  low : Blk w A.bl 3 (tabI n s.low)
  on : Blk w A.bo 4 (tabB n s.on)
  comp : Blk w A.bc 3 (tabI n s.comp)
  own : w.ownsRow B 3 1 stk s.stack.length (iV s.stack)
  gm : GrM w G A.ga n g sl
  gaB : A.ga < B
  slB : ∀ a, a < n → ∀ k, (sl a).ownBlock = some k → k < B
  hp : B ≤ A.p
  hm : B ≤ A.bm
  hl : B ≤ A.bl
  ho : B ≤ A.bo
  hc : B ≤ A.bc
  ml : A.bm ≠ A.bl
  mc : A.bm ≠ A.bc
  lc : A.bl ≠ A.bc
  sm : stk.ownBlock ≠ some A.bm
  sw : stk.ownBlock ≠ some A.bl
  sc : stk.ownBlock ≠ some A.bc
section
variable {w : World} {G B : Nat} {A : WA} {n : Nat} {g : Nat → List Nat} {sl : Nat → Value} {stk : Value} {s : TS}
theorem GrM.belowB {w w' : World} {G B ga n : Nat} {g : Nat → List Nat} {sl : Nat → Value} (h : GrM w G ga n g sl) (h1 : ga < B) (h2 : ∀ a, a < n → ∀ k, (sl a).ownBlock = some k → k < B) (hb : ∀ b, b < B → b < w.heap.size → w'.heap[b]? = w.heap[b]?) : GrM w' G ga n g sl :=
  h.keep (hb _ h1 h.blk.lt) fun a ha k hk => hb _ (h2 a ha k hk) ((h.row a ha).lt k hk).2
theorem WM.keep (h : WM w G B A n g sl stk s) {w' : World} (hb : ∀ b, b < w.heap.size → (b < B ∨ WF A stk b) → w'.heap[b]? = w.heap[b]?) : WM w' G B A n g sl stk s :=
  ⟨(hb _ h.blk.lt (.inr (.inl rfl))).trans h.blk, (hb _ h.met.lt (.inr (.inr (.inl rfl)))).trans h.met, (hb _ h.low.lt (.inr (.inr (.inr (.inl rfl))))).trans h.low, (hb _ h.on.lt (.inr (.inr (.inr (.inr (.inl rfl)))))).trans h.on,
    (hb _ h.comp.lt (.inr (.inr (.inr (.inr (.inr (.inl rfl))))))).trans h.comp, own_keep h.own fun k hk => hb k (h.own.lt k hk).2 (.inr (.inr (.inr (.inr (.inr (.inr hk)))))), h.gm.belowB h.gaB h.slB fun b hb1 hb2 => hb b hb2 (.inl hb1),
    h.gaB, h.slB, h.hp, h.hm, h.hl, h.ho, h.hc, h.ml, h.mc, h.lc, h.sm, h.sw, h.sc⟩
theorem WM.below (h : WM w G B A n g sl stk s) {w' : World} (hb : Below w.heap.size w w') : WM w' G B A n g sl stk s := h.keep fun b hb1 _ => hb.block b hb1
theorem WM.pm (h : WM w G B A n g sl stk s) : A.p ≠ A.bm := Blk.ne h.blk h.met (by decide)
theorem WM.pl (h : WM w G B A n g sl stk s) : A.p ≠ A.bl := Blk.ne h.blk h.low (by decide)
theorem WM.po (h : WM w G B A n g sl stk s) : A.p ≠ A.bo := Blk.ne h.blk h.on (by decide)
theorem WM.pc (h : WM w G B A n g sl stk s) : A.p ≠ A.bc := Blk.ne h.blk h.comp (by decide)
theorem WM.om (h : WM w G B A n g sl stk s) : A.bo ≠ A.bm := Blk.ne h.on h.met (by decide)
theorem WM.ol (h : WM w G B A n g sl stk s) : A.bo ≠ A.bl := Blk.ne h.on h.low (by decide)
theorem WM.oc (h : WM w G B A n g sl stk s) : A.bo ≠ A.bc := Blk.ne h.on h.comp (by decide)
theorem WM.sp (h : WM w G B A n g sl stk s) : stk.ownBlock ≠ some A.p := fun e => own_ne_blk h.own h.blk (by decide) e.symm
theorem WM.so (h : WM w G B A n g sl stk s) : stk.ownBlock ≠ some A.bo := fun e => own_ne_blk h.own h.on (by decide) e.symm
theorem WF.ge (h : WM w G B A n g sl stk s) {b : Nat} (hb : WF A stk b) : B ≤ b := by
  rcases hb with rfl | rfl | rfl | rfl | rfl | hb
  · exact h.hp
  · exact h.hm
  · exact h.hl
  · exact h.ho
  · exact h.hc
  · exact (h.own.lt b hb).1
theorem WM.gmSet (h : WM w G B A n g sl stk s) {a : Addr} (ha : B ≤ a.block) (u : Value) : GrM (w.setCell a u) G A.ga n g sl := h.gm.belowB h.gaB h.slB fun b hb _ => Below.heap_setCell w a u b (by omega)
theorem own_far {w : World} {B e size n : Nat} {v : Value} {xs : List Value} (h : w.ownsRow B e size v n xs) {a : Addr} (hne : v.ownBlock ≠ some a.block) (u : Value) : (w.setCell a u).ownsRow B e size v n xs :=
  own_keep h fun k hk => Below.heap_setCell w a u k (fun e => hne (by rw [hk, e]))
theorem WM.setMet (h : WM w G B A n g sl stk s) {k : Nat} (hk : k < n) (v : Nat) : WM (w.setCell ⟨A.bm, k, none⟩ (.int .i64 (v : Int))) G B A n g sl stk { s with met := fup s.met k v } :=
  ⟨h.blk.far h.pm _, by have := h.met.set_ k (.int .i64 (v : Int)); rw [tabI_set _ hk] at this; exact this, h.low.far h.ml.symm _, h.on.far h.om _, h.comp.far h.mc.symm _, own_far h.own h.sm _, h.gmSet h.hm _, h.gaB, h.slB, h.hp, h.hm, h.hl, h.ho, h.hc, h.ml, h.mc, h.lc, h.sm, h.sw, h.sc⟩
theorem WM.setLow (h : WM w G B A n g sl stk s) {k : Nat} (hk : k < n) (v : Nat) : WM (w.setCell ⟨A.bl, k, none⟩ (.int .i64 (v : Int))) G B A n g sl stk (s.lower k v) :=
  ⟨h.blk.far h.pl _, h.met.far h.ml _, by have := h.low.set_ k (.int .i64 (v : Int)); rw [tabI_set _ hk] at this; exact this, h.on.far h.ol _, h.comp.far h.lc.symm _, own_far h.own h.sw _, h.gmSet h.hl _, h.gaB, h.slB, h.hp, h.hm, h.hl, h.ho, h.hc, h.ml, h.mc, h.lc, h.sm, h.sw, h.sc⟩
theorem WM.setOn (h : WM w G B A n g sl stk s) {k : Nat} (hk : k < n) (v : Bool) : WM (w.setCell ⟨A.bo, k, none⟩ (.bool v)) G B A n g sl stk { s with on := fup s.on k v } :=
  ⟨h.blk.far h.po _, h.met.far h.om.symm _, h.low.far h.ol.symm _, by have := h.on.set_ k (.bool v); rw [tabB_set _ hk] at this; exact this, h.comp.far h.oc.symm _, own_far h.own h.so _, h.gmSet h.ho _, h.gaB, h.slB, h.hp, h.hm, h.hl, h.ho, h.hc, h.ml, h.mc, h.lc, h.sm, h.sw, h.sc⟩
theorem WM.setComp (h : WM w G B A n g sl stk s) {k : Nat} (hk : k < n) (v : Nat) : WM (w.setCell ⟨A.bc, k, none⟩ (.int .i64 (v : Int))) G B A n g sl stk { s with comp := fup s.comp k v } :=
  ⟨h.blk.far h.pc _, h.met.far h.mc _, h.low.far h.lc _, h.on.far h.oc _, by have := h.comp.set_ k (.int .i64 (v : Int)); rw [tabI_set _ hk] at this; exact this, own_far h.own h.sc _, h.gmSet h.hc _, h.gaB, h.slB, h.hp, h.hm, h.hl, h.ho, h.hc, h.ml, h.mc, h.lc, h.sm, h.sw, h.sc⟩
theorem WM.setCount (h : WM w G B A n g sl stk s) (v : Nat) : WM (w.setCell ⟨A.p, 5, none⟩ (.int .i64 (v : Int))) G B A n g sl stk { s with count := v } :=
  ⟨h.blk.set_ 5 _, h.met.far h.pm.symm _, h.low.far h.pl.symm _, h.on.far h.po.symm _, h.comp.far h.pc.symm _, own_far h.own h.sp _, h.gmSet h.hp _, h.gaB, h.slB, h.hp, h.hm, h.hl, h.ho, h.hc, h.ml, h.mc, h.lc, h.sm, h.sw, h.sc⟩
theorem WM.setComps (h : WM w G B A n g sl stk s) (v : Nat) : WM (w.setCell ⟨A.p, 7, none⟩ (.int .i64 (v : Int))) G B A n g sl stk { s with comps := v } :=
  ⟨h.blk.set_ 7 _, h.met.far h.pm.symm _, h.low.far h.pl.symm _, h.on.far h.po.symm _, h.comp.far h.pc.symm _, own_far h.own h.sp _, h.gmSet h.hp _, h.gaB, h.slB, h.hp, h.hm, h.hl, h.ho, h.hc, h.ml, h.mc, h.lc, h.sm, h.sw, h.sc⟩
/-- another stack, once it is stored -/
theorem WM.setStk (h : WM w G B A n g sl stk s) {stk' : Value} {l : List Nat} (hown : w.ownsRow B 3 1 stk' l.length (iV l)) (h1 : stk'.ownBlock ≠ some A.bm) (h2 : stk'.ownBlock ≠ some A.bl) (h3 : stk'.ownBlock ≠ some A.bc) : WM (w.setCell ⟨A.p, 3, none⟩ stk') G B A n g sl stk' { s with stack := l } :=
  ⟨h.blk.set_ 3 _, h.met.far h.pm.symm _, h.low.far h.pl.symm _, h.on.far h.po.symm _, h.comp.far h.pc.symm _, own_far hown (fun e => own_ne_blk hown h.blk (by decide) e.symm) _, h.gmSet h.hp _, h.gaB, h.slB, h.hp, h.hm, h.hl, h.ho, h.hc, h.ml, h.mc, h.lc, h1, h2, h3⟩
/-- the stack has grown, and is stored -/
theorem WM.push (h : WM w G B A n g sl stk s) {w' : World} {stk' : Value} {l : List Nat} (hg : w.grownBy w' stk.ownBlock) (hown : w'.ownsRow B 3 1 stk' l.length (iV l)) (hs : stk'.ownBlock = stk.ownBlock ∨ stk'.ownBlock = some w.heap.size) : WM (w'.setCell ⟨A.p, 3, none⟩ stk') G B A n g sl stk' { s with stack := l } := by
  have hne : ∀ b, b < w.heap.size → stk.ownBlock ≠ some b → stk'.ownBlock ≠ some b := fun b hb h1 e => by
    rcases hs with hs | hs
    · exact h1 (by rw [← hs]; exact e)
    · rw [hs] at e; injection e with e; omega
  have hgn : ∀ b, stk.ownBlock ≠ some b → some b ≠ stk.ownBlock := fun b h1 e => h1 e.symm
  have hb1 := h.blk.grown hg (hgn _ h.sp)
  refine ⟨hb1.set_ 3 _, (h.met.grown hg (hgn _ h.sm)).far h.pm.symm _, (h.low.grown hg (hgn _ h.sw)).far h.pl.symm _, (h.on.grown hg (hgn _ h.so)).far h.po.symm _, (h.comp.grown hg (hgn _ h.sc)).far h.pc.symm _, own_far hown (fun e => own_ne_blk hown hb1 (by decide) e.symm) _, ?_, h.gaB, h.slB, h.hp, h.hm, h.hl, h.ho, h.hc, h.ml, h.mc, h.lc, hne _ h.met.lt h.sm, hne _ h.low.lt h.sw, hne _ h.comp.lt h.sc⟩
  refine h.gm.belowB h.gaB h.slB fun b hb hbl => ?_
  rw [Below.heap_setCell w' ⟨A.p, 3, none⟩ stk' b (by have := h.hp; show b ≠ A.p; omega)]
  exact hg.block b hbl (fun e => by have := (h.own.lt b e.symm).1; omega)
/-- the row without its end -/
theorem own_pop {w : World} {B e m cap b : Nat} {xs : List Value} {x : Value} (h : w.ownsRow B e 1 (.slice (some ⟨b, 0, none⟩) (m + 1) cap) (m + 1) (xs ++ [x])) : w.ownsRow B e 1 (.slice (some ⟨b, 0, none⟩) m cap) m xs := by
  obtain ⟨hl, hh⟩ := h
  rcases hh with ⟨h1, _⟩ | ⟨g, cap', cur, h1, h2, h3, h4, h5, h6, h7⟩
  · cases h1
  · injection h1 with h1 _ h8
    injection h1 with h1
    injection h1 with h1
    subst h1 h8
    have hxl : xs.length = m := by simp at hl; omega
    refine ⟨by simp [hxl], .inr ⟨b, cap, cur, rfl, h2, h3, by omega, h5, h6, ?_⟩⟩
    have := congrArg (List.take m) h7
    rw [List.take_take, List.take_append_of_le_length (by omega), List.take_of_length_le (l := xs) (by omega)] at this
    rw [Nat.mul_one]
    rw [← this]
    congr 1
    omega
end
end Go.Proofs.Ytbancojknahdgaa
