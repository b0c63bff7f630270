/- Layer 7: what Place has in memory between its steps. -/
import Derived.Test.YtedfakpmdncnmaaDoorLayM
namespace Go.Proofs.YtedfakpmdncnmaaDoor
open Go.RowKit LY
def zN (l : List Nat) : List Int := l.map fun k : Nat => (k : Int)
theorem zN_len (l : List Nat) : (zN l).length = l.length := List.length_map ..
theorem iV_zN (l : List Nat) : iV l = zV (zN l) := iV_z l
/-- internal/bytealg's bound holds an int -/
def MaxL (w : World) : Prop := ∃ m, w.cell? ⟨0, 0, none⟩ = some (.int .i64 m)
theorem MaxL.below {w w' : World} (h : MaxL w) (hb : Below w.heap.size w w') : MaxL w' := by
  obtain ⟨m, h⟩ := h
  exact ⟨m, (hb.cell (p := ⟨0, 0, none⟩) (World.block_lt_of_cell? _ _ h)).trans h⟩
theorem piece_le {sep : ByteArray} : ∀ (k : Nat) (s x : ByteArray), x ∈ Lib.splitB sep 0 k s → x.size ≤ s.size
  | 0, s, x, h => by rw [List.mem_singleton.1 h]; exact Nat.le_refl _
  | k + 1, s, x, h => by
    unfold Lib.splitB at h
    split at h
    · rw [List.mem_singleton.1 h]; exact Nat.le_refl _
    · rcases List.mem_cons.1 h with rfl | h
      · rw [ByteArray.size_extract]; omega
      · have := piece_le k _ x h
        rw [ByteArray.size_extract] at this
        omega
/-- the texts between a byte -/
def pcs (c : UInt8) (s : ByteArray) : List ByteArray := Lib.splitB ⟨#[c]⟩ 0 (Lib.countB s ⟨#[c]⟩) s
theorem pcs_len (c : UInt8) (s : ByteArray) : (pcs c s).length = Lib.countB s ⟨#[c]⟩ + 1 := Lib.splitB_all _ (by simp [ByteArray.size]) 0 _ s rfl
theorem pcs_txt (c : UInt8) (s : ByteArray) : (pcs c s).map (fun x => x.data.toList) = Lib.split s.data.toList [c] := Lib.splitB_data _ 0 _ s
theorem pcs_le {c : UInt8} {s x : ByteArray} (h : x ∈ pcs c s) : x.size ≤ s.size := piece_le _ s x h
theorem groups_at {s x : ByteArray} {i : Nat} (h0 : s.data.toList ≠ []) (h : (pcs 95 s)[i]? = some x) : (groupsT s.data.toList)[i]? = some ((pcs 42 x).map fun y => y.data.toList) := by
  unfold groupsT
  rw [if_neg h0, List.getElem?_map, ← pcs_txt, List.getElem?_map, h, pcs_txt]; rfl
theorem groups_len {s : ByteArray} (h0 : s.data.toList ≠ []) : (groupsT s.data.toList).length = (pcs 95 s).length := by
  unfold groupsT
  rw [if_neg h0, List.length_map, ← pcs_txt, List.length_map]
def strV (l : List ByteArray) : Array Value := (l.map Value.string).toArray
theorem strV_cell {w : World} {b : Nat} {l : List ByteArray} (h : Blk w b 9 (strV l)) {i : Nat} {x : ByteArray} (hx : l[i]? = some x) : w.cell? ⟨b, i, none⟩ = some (.string x) := by
  rw [h.cell]; unfold strV
  rw [List.getElem?_toArray, List.getElem?_map, hx]; rfl
theorem put1_yes {w : Nat → Nat} {L k : Nat} {st : St} (h : L < w k) : put1 w L st k = (st.1 + 1, fup st.2 k (st.2 k ++ [st.1])) := by
  unfold put1
  rw [if_pos h]
  congr 1
  funext j
  unfold fup
  by_cases e : j = k
  · subst e; simp
  · rw [if_neg e, if_neg e]
theorem put1_no {w : Nat → Nat} {L k : Nat} {st : St} (h : ¬ L < w k) : put1 w L st k = st := by unfold put1; rw [if_neg h]
/-- map am may have changed, and what lies from B on -/
abbrev OM (am B : Nat) (w w' : World) : Prop := Only (fun i => i = am ∨ B ≤ i) w w'
theorem OM.trans {am B : Nat} {a b c : World} (h : OM am B a b) (k : OM am B b c) : OM am B a c := Only.trans h k fun _ _ hi => hi
theorem OM.of_below {am B : Nat} {w w' : World} (h : Below w.heap.size w w') : OM am B w w' := Only.of_below h fun k h1 h2 => by omega
theorem OM.map {am B : Nat} {w w' : World} (h : w.grownBy w' (some am)) : OM am B w w' := Only.of_grown h fun k _ e => by injection e with e; exact .inl e
theorem OM.row {am B e size n : Nat} {w w' : World} {v : Value} {xs : List Value} (h : w.ownsRow B e size v n xs) (hg : w.grownBy w' v.ownBlock) : OM am B w w' := Only.of_grown hg fun k _ e => .inr (h.lt k e.symm).1
theorem Blk.om {am B g : Nat} {w w' : World} {t : TypeId} {cs : Array Value} {es : Array MapEntry} {c : Nat} (h : Blk w g t cs) (ho : OM am B w w') (hm : w.heap[am]? = some (.map es c)) (hg : g < B) : Blk w' g t cs := h.only ho (by
  rintro (e | e)
  · subst e
    unfold Blk at h
    rw [hm] at h; cases h
  · omega)
theorem GrM.om {am B B0 ga n : Nat} {w w' : World} {g : Nat → List Nat} {sl : Nat → Value} {es : Array MapEntry} {c : Nat} (h : GrM w B0 ga n g sl) (ho : OM am B w w') (hm : w.heap[am]? = some (.map es c)) (hB : w.heap.size ≤ B) : GrM w' B0 ga n g sl :=
  h.keep (ho.block ga h.blk.lt (by
    rintro (e | e)
    · subst e
      have hb := h.blk
      unfold Blk at hb
      rw [hm] at hb; cases hb
    · have := h.blk.lt; omega)) fun a ha k hk => ho.block k ((h.row a ha).lt k hk).2 (by
    rintro (e | e)
    · subst e; exact own_not_map (h.row a ha) hm hk
    · have := ((h.row a ha).lt k hk).2; omega)
/-- between the steps of the levels -/
structure LvM (w1 : World) (B2 ob am gb lb J lc N : Nat) (pc : Array Value) (lst done : List Nat) (g : Nat → List Nat) (sl : Nat → Value) (W : World) : Prop where
  bel : Below w1.heap.size w1 W
  gr : GrM W w1.heap.size ob N g sl
  ap : ∀ a, a < N → (sl a).ownBlock ≠ some lb
  l : W.ownsRow B2 3 1 (.slice (some ⟨lb, 0, none⟩) J lc) J (iV lst)
  mp : MapAt W Tryd.prog 3 am done.length (setM fun k => decide (k ∈ done))
  gb : Blk W gb 9 pc
theorem LvM.below {w1 W W' : World} {B2 ob am gb lb J lc N : Nat} {pc : Array Value} {lst done : List Nat} {g : Nat → List Nat} {sl : Nat → Value} (h : LvM w1 B2 ob am gb lb J lc N pc lst done g sl W) (hb : Below W.heap.size W W') : LvM w1 B2 ob am gb lb J lc N pc lst done g sl W' :=
  ⟨h.bel.trans (hb.mono h.bel.size), h.gr.below hb, h.ap, own_below h.l hb, h.mp.below hb, h.gb.below hb h.gb.lt⟩
theorem LvM.put {w1 W W2 : World} {B2 ob am gb lb J lc N : Nat} {pc : Array Value} {lst done : List Nat} {g : Nat → List Nat} {sl : Nat → Value} (h : LvM w1 B2 ob am gb lb J lc N pc lst done g sl W) {k na x : Nat} {v : Value} (hk : k < N) (hna : (g k).length = na)
    (hown : W2.ownsRow w1.heap.size 3 1 v (na + 1) (iV (g k) ++ [.int .i64 (x : Int)])) (hg : W.grownBy W2 (sl k).ownBlock) (hs : v.ownBlock = (sl k).ownBlock ∨ v.ownBlock = some W.heap.size) :
    LvM w1 B2 ob am gb lb J lc N pc lst done (fup g k (g k ++ [x])) (fup sl k v) (W2.setCell ⟨ob, k, none⟩ v) := by
  subst hna
  have hrow := h.gr.row k hk
  have hG := h.gr.grow hk hown hg hs
  obtain ⟨es, cc, hm⟩ := h.mp.block
  have hlb : lb < W.heap.size := (h.l.lt lb rfl).2
  have hobl : ob ≠ lb := fun e => by
    subst e
    exact own_ne_blk h.l h.gr.blk (by decide) rfl
  have hl2 : W2.ownsRow B2 3 1 (.slice (some ⟨lb, 0, none⟩) J lc) J (iV lst) := h.l.kept hg (.inr fun e => h.ap k hk e.symm)
  have hm2 := h.mp.grown hg (own_not_map hrow hm).symm
  obtain ⟨es2, cc2, hmb2⟩ := hm2.block
  have hgb2 : Blk W2 gb 9 pc := h.gb.grown hg (own_ne_blk hrow h.gb (by decide))
  have hob2 : Blk W2 ob 32 (tabV N sl) := h.gr.blk.grown hg (own_ne_blk hrow h.gr.blk (by decide))
  refine ⟨?_, hG, fun a ha => ?_, ?_, ?_, ?_⟩
  · exact (h.bel.grown hg h.bel.size (fun j hj => (hrow.lt j hj).1)).setCell h.gr.low _
  · by_cases e : a = k
    · subst e
      rw [fup_same]
      rcases hs with hs | hs
      · rw [hs]; exact h.ap a ha
      · rw [hs]; intro e2; injection e2 with e2; omega
    · rw [fup_ne _ _ e]; exact h.ap a ha
  · exact own_keep hl2 fun j hj => Below.heap_setCell _ _ _ _ (fun e => by
      injection hj with hj
      exact hobl (e.symm.trans hj.symm))
  · exact hm2.keep (Below.heap_setCell _ _ _ _ (fun e => by
      have e : am = ob := e
      subst e
      unfold Blk at hob2
      rw [hmb2] at hob2; cases hob2))
  · exact hgb2.far (hgb2.ne hob2 (by decide)) _
end Go.Proofs.YtedfakpmdncnmaaDoor
