/- The arguments of laws, opened: a slice of bools as a list. -/
import Derived.Test.YtobhjkfkdkiigaaGreatDoorBase
import Derived.ProofKit
import Derived.OpenShut
import Derived.ShutString
import Derived.ChangeOld
import Derived.Below
import Derived.Deep.Slices
import Derived.Deep.Grids
namespace Go.Proofs.YtobhjkfkdkiigaaGreatDoor
open Go.ChangeShapes Go.WideShapes Go.ChangeAt Go.RowKit Go.Deep

theorem own : ownKnob Tryz.prog.godebug = none := by kernel_rfl
theorem laidOut : laidOutB Tryz.prog = true := by kernel_rfl

section
variable {H : Type} {enc : TypeId × Value → H} {P : Program} {w : World} {base : Nat} {held : Bool}
theorem spot_none {w : World} {a : Addr} {v : Value} (h : w.cell? a = some v) : a.spot = none := by
  obtain ⟨b, o, s⟩ := a
  cases s with
  | none => rfl
  | some x => simp [World.cell?] at h; split at h <;> simp_all
theorem cells_of_all {w : World} {a : Addr} {xs : List Value} (h : ∀ i v, xs[i]? = some v → w.cell? (a.add i) = some v) : Cells w (some a) xs := fun hx => by
  have hl : 0 < xs.length := List.length_pos_iff.2 hx
  have h0 := h 0 xs[0] (List.getElem?_eq_getElem hl)
  rw [show a.add 0 = a from by simp [Addr.add]] at h0
  have hs := spot_none h0
  obtain ⟨b, o, s⟩ := a
  simp only at hs
  subst hs
  refine ⟨b, o, rfl, World.block_lt_of_cell? w _ h0, fun i v hv => ?_⟩
  have hi := h i v hv
  rcases Nat.eq_zero_or_pos i with e | e
  · subst e; simpa [Addr.add] using hi
  · rwa [show (⟨b, o, none⟩ : Addr).add i = ⟨b, o + i, none⟩ from by simp [Addr.add]; omega] at hi
theorem open_boolsC {r : Reach} {b0 : Nat} {t e : TypeId} {v : Value} {d : DataW H} {ps : List MemPlace} (ht : P.underlying t = some (.slice e)) (he : P.underlying e = some .bool) (hc : P.cellsOf e = 1)
    (hval : Value.okWide P w r b0 t v) (hd : DataW.Trod enc P w base (fun _ => true) held t v d ps) :
    ∃ a cap l, v = .slice a (List.length l) cap ∧ l.length ≤ maxLen ∧ Cells w a (l.map Value.bool) := by
  obtain ⟨a0, len, cap, rfl⟩ := okWide_slice ht hval
  obtain ⟨fuel, hf⟩ := hd
  rcases open_bools ht he hc hf with ⟨hcs, _⟩ | ⟨x, l, c, B, hcs, _, hl, hm, _, hcell⟩
  · simp [Value.cells] at hcs
    obtain ⟨rfl, rfl, rfl⟩ := hcs
    exact ⟨none, 0, [], rfl, by simp, Cells.nil _ _⟩
  · simp [Value.cells] at hcs
    obtain ⟨rfl, rfl, rfl⟩ := hcs
    refine ⟨some x, cap, (List.range len).map B, by simp, by simp; omega, cells_of_all fun i v hv => ?_⟩
    simp only [List.map_map, List.getElem?_map] at hv
    have hi : i < len := by
      rcases Nat.lt_or_ge i len with h | h
      · exact h
      · rw [List.getElem?_eq_none (by simpa using h)] at hv; simp at hv
    simp [List.getElem?_range hi] at hv
    rw [hcell i (by omega), ← hv]

/-! ### a slice of elements of k cells each -/
theorem flat_at {α : Type} (f : α → List Value) (k : Nat) (hk : 0 < k) (hf : ∀ x, (f x).length = k) : ∀ (l : List α) (q : Nat) (v : Value), (l.flatMap f)[q]? = some v → ∃ x, l[q / k]? = some x ∧ (f x)[q % k]? = some v
  | [], q, v, h => by simp at h
  | x :: t, q, v, h => by
    rw [List.flatMap_cons, List.getElem?_append, hf] at h
    split at h
    · rename_i hq
      exact ⟨x, by rw [Nat.div_eq_of_lt hq]; rfl, by rw [Nat.mod_eq_of_lt hq]; exact h⟩
    · rename_i hq
      obtain ⟨y, h1, h2⟩ := flat_at f k hk hf t (q - k) v h
      have e1 : q / k = (q - k) / k + 1 := by rw [Nat.div_eq_sub_div hk (by omega)]
      have e2 : q % k = (q - k) % k := by rw [Nat.mod_eq_sub_mod (by omega)]
      exact ⟨y, by rw [e1]; exact h1, by rw [e2]; exact h2⟩
theorem flat_get {α : Type} (f : α → List Value) (k : Nat) (hf : ∀ x, (f x).length = k) : ∀ (l : List α) (i j : Nat) (x : α) (v : Value), l[i]? = some x → (f x)[j]? = some v → (l.flatMap f)[i * k + j]? = some v
  | [], i, j, x, v, h, _ => by simp at h
  | y :: t, 0, j, x, v, h, h2 => by
    simp at h
    subst h
    have hj : j < k := by rw [← hf y]; exact (List.getElem?_eq_some_iff.1 h2).1
    rw [List.flatMap_cons, List.getElem?_append, hf, if_pos (by omega), Nat.zero_mul, Nat.zero_add]; exact h2
  | y :: t, i + 1, j, x, v, h, h2 => by
    rw [List.flatMap_cons, List.getElem?_append, hf, if_neg (by rw [Nat.succ_mul]; omega), show (i + 1) * k + j - k = i * k + j by rw [Nat.succ_mul]; omega]
    exact flat_get f k hf t i j x v (by simpa using h) h2
theorem open_slice_as {α : Type} [Inhabited α] (f : α → List Value) (Q : α → Prop) (k : Nat) (hk0 : 0 < k) {r : Reach} {b0 : Nat} {t e : TypeId} {v : Value} {d : DataW H} {ps : List MemPlace} (ht : P.underlying t = some (.slice e)) (hk : P.cellsOf e = k) (hf : ∀ x, (f x).length = k)
    (hread : ∀ n cs x, DataW.trod enc P w base (fun _ => true) held n e cs = some x → ∃ y, cs = f y ∧ Q y)
    (hval : Value.okWide P w r b0 t v) (hd : DataW.Trod enc P w base (fun _ => true) held t v d ps) :
    ∃ a cap l, v = .slice a (List.length l) cap ∧ l.length ≤ cap ∧ cap ≤ maxLen ∧ Cells w a (l.flatMap f) ∧ ∀ y ∈ l, Q y := by
  obtain ⟨a0, len, cap, rfl⟩ := okWide_slice ht hval
  obtain ⟨fuel, hf0⟩ := hd
  rcases open_slice ht hf0 with ⟨hcs, _⟩ | ⟨a, len', cap', m, n, D, Pl, hcs, _, hl, hm, hmm, _, hi⟩
  · simp [Value.cells] at hcs
    obtain ⟨rfl, rfl, rfl⟩ := hcs
    exact ⟨none, 0, [], rfl, by simp, by simp [maxLen], Cells.nil _ _, by simp⟩
  · simp [Value.cells] at hcs
    obtain ⟨rfl, rfl, rfl⟩ := hcs
    simp at hmm
    rw [hmm] at hi
    obtain ⟨g, hg⟩ := choose_lt (n := len) (p := fun i y => w.cells? base (a.add (i * P.cellsOf e)) (P.cellsOf e) = some (f y) ∧ Q y) (fun i hil => by
      obtain ⟨cs', h1, h2⟩ := hi i (by omega)
      obtain ⟨y, rfl, hq⟩ := hread _ _ _ h2
      exact ⟨y, h1, hq⟩)
    refine ⟨some a, cap, (List.range len).map g, by simp, by simpa using hl, hm, cells_of_all fun q v hv => ?_, ?_⟩
    · obtain ⟨x, h1, h2⟩ := flat_at f k hk0 hf _ _ _ hv
      rw [List.getElem?_map] at h1
      have hql : q / k < len := by
        rcases Nat.lt_or_ge (q / k) len with h | h
        · exact h
        · rw [List.getElem?_eq_none (by simpa using h)] at h1; simp at h1
      rw [List.getElem?_range hql] at h1
      simp at h1
      subst h1
      obtain ⟨_, _, hat⟩ := World.cells?_some (hg _ hql).1
      have hqk : q % k < k := Nat.mod_lt _ hk0
      have := hat (q % k) (by rw [hk]; exact hqk)
      rw [h2, Go.Deep.add_add, hk, show q / k * k + q % k = q by rw [Nat.mul_comm]; exact Nat.div_add_mod q k] at this
      exact this
    · intro y hy
      obtain ⟨i, hi1, rfl⟩ := List.mem_map.1 hy
      exact (hg i (List.mem_range.1 hi1)).2

/-- an aggregate of ints by value -/
theorem open_aggInts {r : Reach} {b0 : Nat} {t u : TypeId} {v : Value} {k : IntKind} (n : Nat) (hs : ∀ v, Value.okWide P w r b0 t v → ∃ cs, v = .agg cs ∧ cs.size = P.cellsOf t ∧ Row.okWide P w r b0 t cs) (hC : P.cellsOf t = n) (hT : P.cellTypes P.depth t = some (List.replicate n u)) (hu : P.underlying u = some (.int k))
    (hv : Value.okWide P w r b0 t v) : ∃ zs : List Int, zs.length = n ∧ v = .agg (zs.map (Value.int k)).toArray := by
  obtain ⟨cs, rfl, hsz, ts, hts, _, hall⟩ := hs v hv
  rw [hT] at hts
  injection hts with hts
  subst hts
  have hz : ∀ i, i < cs.size → ∃ z, cs[i]? = some (.int k z) := fun i hi => by
    obtain ⟨u', h1, h2⟩ := hall i _ (Array.getElem?_eq_getElem hi)
    have : u' = u := (List.mem_replicate.1 (List.mem_of_getElem? h1)).2
    subst this
    simp only [Cell.okWide, hu] at h2
    have h3 := Array.getElem?_eq_getElem hi
    generalize cs[i] = c at h2 h3
    cases c <;> simp_all [Cell.ok]
  obtain ⟨g, hg⟩ := choose_lt hz
  refine ⟨(List.range n).map g, by simp, ?_⟩
  congr 1
  apply Array.ext_getElem?
  intro i
  rcases Nat.lt_or_ge i n with h | h
  · rw [hg i (by omega)]; simp [h]
  · rw [Array.getElem?_eq_none (by omega), Array.getElem?_eq_none (by simpa using h)]
theorem list2 {α : Type} (l : List α) (h : l.length = 2) : ∃ a b, l = [a, b] := by
  match l, h with
  | [a, b], _ => exact ⟨a, b, rfl⟩
theorem list3 {α : Type} (l : List α) (h : l.length = 3) : ∃ a b c, l = [a, b, c] := by
  match l, h with
  | [a, b, c], _ => exact ⟨a, b, c, rfl⟩
theorem list6 {α : Type} (l : List α) (h : l.length = 6) : ∃ a b c d e f, l = [a, b, c, d, e, f] := by
  match l, h with
  | [a, b, c, d, e, f], _ => exact ⟨a, b, c, d, e, f, rfl⟩

/-- an element that is an int; an array of two, of three ints -/
def intCells (z : Int) : List Value := [.int .i64 z]
def pairCells (c : Int × Int) : List Value := [.int .i64 c.1, .int .i64 c.2]
def keyCells (c : Int × Int × Int) : List Value := [.int .i64 c.1, .int .i64 c.2.1, .int .i64 c.2.2]
def wfI (z : Int) : Prop := (Lit.int .i64 z).wf = true
theorem read_int {e : TypeId} (he : P.underlying e = some (.int .i64)) : ∀ n cs x, DataW.trod enc P w base (fun _ => true) held n e cs = some x → ∃ y, cs = intCells y ∧ wfI y := fun n cs x h => by
  obtain ⟨z, h1, _, h2⟩ := DataW.trod_int he h
  exact ⟨z, h1, h2⟩
theorem read_arr {e i : TypeId} {m : Nat} (he : P.underlying e = some (.array m i)) (hi : P.underlying i = some (.int .i64)) (hc : P.cellsOf i = 1) (hce : P.cellsOf e = m) (n : Nat) (cs : List Value) (x : DataW H × List MemPlace) (h : DataW.trod enc P w base (fun _ => true) held n e cs = some x) :
    ∃ zs : List Int, zs.length = m ∧ cs = zs.map (Value.int .i64) ∧ ∀ z ∈ zs, wfI z := by
  obtain ⟨xs, q, _, _, hl, hxl, hx⟩ := DataW.trod_array he h
  rw [hce] at hl
  have hz : ∀ j, j < m → ∃ z, cs[j]? = some (.int .i64 z) ∧ wfI z := fun j hj => by
    have h1 := hx j hj
    rw [hc, Nat.mul_one, List.drop_eq_getElem_cons (by omega), List.take_succ_cons, List.take_zero, List.getElem?_eq_getElem (by omega)] at h1
    obtain ⟨z, h2, _, h3⟩ := DataW.trod_int hi h1
    injection h2 with h2
    exact ⟨z, by rw [List.getElem?_eq_getElem (by omega), h2], h3⟩
  obtain ⟨g, hg⟩ := choose_lt hz
  refine ⟨(List.range m).map g, by simp, ?_, ?_⟩
  · apply List.ext_getElem?
    intro j
    rcases Nat.lt_or_ge j m with h | h
    · rw [(hg j h).1]; simp [h]
    · rw [List.getElem?_eq_none (by omega), List.getElem?_eq_none (by simpa using h)]
  · intro z hz
    obtain ⟨j, hj, rfl⟩ := List.mem_map.1 hz
    exact (hg j (List.mem_range.1 hj)).2
theorem read_pair {e i : TypeId} (he : P.underlying e = some (.array 2 i)) (hi : P.underlying i = some (.int .i64)) (hc : P.cellsOf i = 1) (hce : P.cellsOf e = 2) : ∀ n cs x, DataW.trod enc P w base (fun _ => true) held n e cs = some x → ∃ y, cs = pairCells y ∧ (wfI y.1 ∧ wfI y.2) := fun n cs x h => by
  obtain ⟨zs, h1, h2, h3⟩ := read_arr he hi hc hce n cs x h
  obtain ⟨a, b, rfl⟩ := list2 zs h1
  exact ⟨(a, b), h2, h3 a (by simp), h3 b (by simp)⟩
theorem read_key {e i : TypeId} (he : P.underlying e = some (.array 3 i)) (hi : P.underlying i = some (.int .i64)) (hc : P.cellsOf i = 1) (hce : P.cellsOf e = 3) : ∀ n cs x, DataW.trod enc P w base (fun _ => true) held n e cs = some x → ∃ y, cs = keyCells y ∧ (wfI y.1 ∧ wfI y.2.1 ∧ wfI y.2.2) := fun n cs x h => by
  obtain ⟨zs, h1, h2, h3⟩ := read_arr he hi hc hce n cs x h
  obtain ⟨a, b, c, rfl⟩ := list3 zs h1
  exact ⟨(a, b, c), h2, h3 a (by simp), h3 b (by simp), h3 c (by simp)⟩
end
end Go.Proofs.YtobhjkfkdkiigaaGreatDoor
