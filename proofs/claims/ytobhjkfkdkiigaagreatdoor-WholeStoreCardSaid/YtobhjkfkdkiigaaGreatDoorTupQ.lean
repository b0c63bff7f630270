/- slices.SortFunc of rows of two numbers by slices.Compare. 
 Layer 6 and 8: what count.Each tells of a node that asks of the domains A and B alone: the numbers of the rows that it says. 
 Layer 8: code.Tuples of the domains A and B. 
 Layer 9: Tuples, of the law's relation alone. -/
import Derived.Test.YtobhjkfkdkiigaaGreatDoorTupP
import Derived.Test.YtobhjkfkdkiigaaGreatDoorShelfE
import Derived.Test.YtobhjkfkdkiigaaGreatDoorCountH
import Derived.Test.YtobhjkfkdkiigaaGreatDoorCountK
import Derived.Test.YtobhjkfkdkiigaaGreatDoorRelH
namespace Go.Proofs.YtobhjkfkdkiigaaGreatDoor
open Go.RowKit HP NP Go.Sort
theorem holds_enc {α : Type} [Inhabited α] {enc : α → Value} {w : World} {g : Nat} {cur : Array Value} {e : TypeId} {ss : List α} (hb : w.heap[g]? = some (.cells cur e (0, 0))) (ht : cur.toList.take ss.length = ss.map enc) : Holds enc w g 0 ss.toArray := by
  intro j hj
  have hj' : j < ss.length := by simpa using hj
  refine ⟨?_, by simp [World.frozen?, hb]⟩
  have h1 : (cur.toList.take ss.length)[j]? = (ss.map enc)[j]? := by rw [ht]
  rw [List.getElem?_take_of_lt hj'] at h1
  simp only [World.cell?, hb, Nat.zero_add]
  simp only [Option.isSome_none, Bool.false_eq_true, if_false]
  rw [← Array.getElem?_toList, h1]
  simp [hj']
theorem heap_enc {α : Type} [Inhabited α] {enc : α → Value} {w : World} {g n : Nat} {os : Array Obj} {cur : Array Value} {e : TypeId} {fr : Nat × Nat} (d : Array α) (hb : w.heap[g]? = some (.cells cur e fr)) :
    (grow (putRow enc (Sort.ahead w n) g 0 d) os).heap[g]? = some (.cells (putCells enc 0 d cur) e fr) := by
  have hg : g < w.heap.size := (Array.getElem?_eq_some_iff.1 hb).1
  rw [heap_grow_old _ _ (by simpa using hg)]
  simp [putRow, mapBlock, Sort.ahead, Array.getElem?_modify, hb, onCells]
theorem grown_enc {α : Type} [Inhabited α] {enc : α → Value} {w : World} {g n : Nat} {os : Array Obj} (d : Array α) : w.grownBy (grow (putRow enc (Sort.ahead w n) g 0 d) os) (some g) := by
  refine ⟨rfl, rfl, rfl, by simp, fun k hk hne => ?_⟩
  rw [heap_grow_old _ _ (by simpa using hk)]
  have : g ≠ k := fun e => hne (by rw [e])
  simp [putRow, mapBlock, Sort.ahead, Array.getElem?_modify, this]
theorem take_enc {α : Type} [Inhabited α] {enc : α → Value} (cur : Array Value) (ts : List α) (h : ts.length ≤ cur.size) : (putCells enc 0 ts.toArray cur).toList.take ts.length = ts.map enc := by
  apply List.ext_getElem?
  intro j
  by_cases hj : j < ts.length
  · rw [List.getElem?_take_of_lt hj, Array.getElem?_toList]
    simp [putCells, hj, show j < cur.size by omega]
  · rw [List.getElem?_take_eq_none (by omega), List.getElem?_eq_none (by simp; omega)]
theorem owns_enc {α : Type} [Inhabited α] {enc : α → Value} {w : World} {base g cap n N : Nat} {e : TypeId} {os : Array Obj} {cur : Array Value} {ts : List α} (hl : ts.length = N) (hbase : base ≤ g) (hb : w.heap[g]? = some (.cells cur e (0, 0)))
    (h1 : N ≤ cap) (h2 : cap ≤ maxLen) (h3 : cur.size = cap * 1) :
    (grow (putRow enc (Sort.ahead w n) g 0 ts.toArray) os).ownsRow base e 1 (.slice (some ⟨g, 0, none⟩) N cap) N (ts.map enc) :=
  ⟨by simp [hl], .inr ⟨g, cap, _, rfl, hbase, heap_enc _ hb, h1, h2, by simp [putCells, h3], by rw [Nat.mul_one, ← hl]; exact take_enc cur ts (by omega)⟩⟩
/-- rows of two numbers each, as slices of them lie -/
def Rows2T (w : World) (sls : List Value) (R : List (List Int)) : Prop := ∀ (i : Nat) (l : List Int), R[i]? = some l → l.length = 2 ∧ ∃ ad c, sls[i]? = some (.slice ad 2 c) ∧ CellsT w ad (zV l)
def rowAt (R : List (List Int)) (N i : Nat) : List Int := R.getD (i % N) []
def slAt (sls : List Value) (N i : Nat) : Value := sls.getD (i % N) (.slice none 0 0)
theorem rowAt_ok {w : World} {sls : List Value} {R : List (List Int)} {N : Nat} (hR : R.length = N) (h0 : 0 < N) (h : Rows2T w sls R) (i : Nat) : (rowAt R N i).length = 2 ∧ ∃ ad c, slAt sls N i = .slice ad 2 c ∧ CellsT w ad (zV (rowAt R N i)) := by
  have hi : i % N < R.length := by rw [hR]; exact Nat.mod_lt _ h0
  obtain ⟨h2, ad, c, hs, hc⟩ := h (i % N) (R[i % N]'hi) (List.getElem?_eq_getElem hi)
  have e1 : rowAt R N i = R[i % N]'hi := by unfold rowAt; rw [List.getD_eq_getElem?_getD, List.getElem?_eq_getElem hi]; rfl
  have e2 : slAt sls N i = .slice ad 2 c := by unfold slAt; rw [List.getD_eq_getElem?_getD, hs]; rfl
  rw [e1]
  exact ⟨h2, ad, c, e2, hc⟩
def cfR (R : List (List Int)) (N i j : Nat) : Int := cmpL (rowAt R N i) (rowAt R N j)
theorem ltOf_less {w : World} {sls : List Value} {R : List (List Int)} {N : Nat} (hR : R.length = N) (h0 : 0 < N) (h : Rows2T w sls R) (i j : Nat) : ltOf (cfR R N) i j = lessL (rowAt R N i) (rowAt R N j) := by
  unfold ltOf cfR
  have e := cmpL_less (rowAt R N i) (rowAt R N j) (by rw [(rowAt_ok hR h0 h i).1, (rowAt_ok hR h0 h j).1])
  cases hh : lessL (rowAt R N i) (rowAt R N j) with
  | true => exact decide_eq_true (e.2 hh)
  | false => exact decide_eq_false fun h => by rw [e.1 h] at hh; cases hh
theorem less_ntrans {l m r : List Int} (h1 : lessL l m = false) (h2 : lessL m r = false) : lessL l r = false := by
  cases hh : lessL l r with
  | false => rfl
  | true =>
    rcases lessL_tri l m h1 with rfl | e1
    · rw [h2] at hh; cases hh
    · rw [lessL_trans _ _ _ e1 hh] at h2; cases h2
theorem swo_rows {w : World} {sls : List Value} {R : List (List Int)} {N : Nat} (hR : R.length = N) (h0 : 0 < N) (h : Rows2T w sls R) : SWO (ltOf (cfR R N)) := by
  have e := ltOf_less hR h0 h
  refine ⟨fun x => by rw [e]; exact lessL_irr _, fun x y z h1 h2 => ?_, fun x y z h1 h2 => ?_⟩
  · rw [e] at h1 h2 ⊢; exact lessL_trans _ _ _ h1 h2
  · rw [e] at h1 h2 ⊢; exact less_ntrans h1 h2
theorem slAt_one {w : World} {sls : List Value} {R : List (List Int)} {N : Nat} (hR : R.length = N) (h0 : 0 < N) (h : Rows2T w sls R) : OneCell (slAt sls N) := fun i => by
  obtain ⟨_, ad, c, e, _⟩ := rowAt_ok hR h0 h i
  rw [e]; rfl
theorem slAt_range {sls : List Value} {N : Nat} (hs : sls.length = N) : (List.range N).map (slAt sls N) = sls := by
  apply List.ext_getElem?
  intro i
  by_cases hi : i < N
  · rw [List.getElem?_map, List.getElem?_range hi]
    show some (slAt sls N i) = _
    unfold slAt
    rw [Nat.mod_eq_of_lt hi, List.getD_eq_getElem?_getD, List.getElem?_eq_getElem (by omega)]
    rfl
  · rw [List.getElem?_eq_none (by simp; omega), List.getElem?_eq_none (by omega)]
theorem getBang {ts : List Nat} {i : Nat} (h : i < ts.length) : ts.toArray[i]! = ts[i] := by
  rw [getElem!_pos _ i (by simpa using h)]; simp
/-- the rows of a sorted list of places -/
theorem sorted_rows {w : World} {sls : List Value} {R : List (List Int)} {N : Nat} (hR : R.length = N) (h0 : 0 < N) (h : Rows2T w sls R) {ts : List Nat} (hts : ts.Perm (List.range N)) (hs : SortedIn (ltOf (cfR R N)) 0 N ts.toArray) :
    (ts.map (rowAt R N)).Perm R ∧ (ts.map (rowAt R N)).Pairwise (fun a b => lessL b a = false) ∧ ts.length = N := by
  have hl : ts.length = N := by rw [hts.length_eq, List.length_range]
  refine ⟨?_, ?_, hl⟩
  · have e : (List.range N).map (rowAt R N) = R := by
      apply List.ext_getElem?
      intro i
      by_cases hi : i < N
      · rw [List.getElem?_map, List.getElem?_range hi]
        show some (rowAt R N i) = _
        unfold rowAt
        rw [Nat.mod_eq_of_lt hi, List.getD_eq_getElem?_getD, List.getElem?_eq_getElem (by omega)]
        rfl
      · rw [List.getElem?_eq_none (by simp; omega), List.getElem?_eq_none (by omega)]
    have := hts.map (rowAt R N)
    rwa [e] at this
  · rw [List.pairwise_map, List.pairwise_iff_getElem]
    intro i j hi hj hij
    have := hs i j (Nat.zero_le _) hij (by omega)
    rw [getBang hi, getBang hj, ltOf_less hR h0 h] at this
    exact this
set_option maxRecDepth 100000 in
/-- SortFunc by slices.Compare, of rows of two numbers -/
theorem sortF_ok (w : World) (B cap N : Nat) (a : Option Addr) (sls : List Value) (R : List (List Int)) (hsl : sls.length = N) (hR : R.length = N) (hN : N ≤ 1000) (h0 : 0 < N) (hB : B ≤ w.heap.size) (h : w.ownsRow B 45 1 (.slice a N cap) N sls) (hrow : Rows2T w sls R) :
    Calls Tryz.prog 76 #[.slice a N cap, .func (.func 77) #[] #[]] w fun e w' => e = .returned (.tuple #[]) ∧ ∃ R' sls', R'.Perm R ∧ R'.Pairwise (fun x y => lessL y x = false) ∧ w'.ownsRow B 45 1 (.slice a N cap) N sls' ∧ Rows2T w' sls' R' ∧ Below B w w' := by
  rcases h.2 with ⟨h1, _⟩ | ⟨blk, cap', cur, hv, hbase, hgb, r1, r2, r3, r4⟩
  · injection h1 with _ h1 _; omega
  injection hv with hv1 _ hv3
  subst hv1 hv3
  have hbk : Blk w blk 45 cur := hgb
  have hone := slAt_one hR h0 hrow
  have hHo : Holds (slAt sls N) w blk 0 (List.range N).toArray := holds_enc hgb (by rw [slAt_range hsl, List.length_range]; rw [Nat.mul_one] at r4; exact r4)
  have hds : (List.range N).toArray.size = N := by simp
  have hkb : ∀ (m : Nat) (dk : Array Nat) (os : Array Obj), Kb (fun t => t == 45) w (grow (putRow (slAt sls N) (Sort.ahead w m) blk 0 dk) os) := fun m dk os => by
    intro c t cs hb ht
    have hne : c ≠ blk := by
      rintro rfl
      have := hb.symm.trans hbk
      injection this with this
      injection this with _ this _
      rw [this] at ht
      simp at ht
    exact ((grown_enc (enc := slAt sls N) (w := w) (g := blk) (n := m) (os := os) dk).block c hb.lt (fun e => hne (by injection e))).trans hb
  have hcmp : CmpLays1 Tryz.prog 77 #[] (slAt sls N) (cfR R N) blk 0 (List.range N).toArray.size w := fun m os dk _ x y => by
    obtain ⟨hx2, ax, cx, ex, hx⟩ := rowAt_ok hR h0 hrow x
    obtain ⟨hy2, ay, cy, ey, hy⟩ := rowAt_ok hR h0 hrow y
    have hk := hkb m dk os
    rw [ex, ey]
    refine (cmpS_ok (grow (putRow (slAt sls N) (Sort.ahead w m) blk 0 dk) os) ax ay cx cy 2 (by decide) (rowAt R N x) (rowAt R N y) hx2 hy2 (hx.kb hk rfl).c (hy.kb hk rfl).c).mono ?_
    rintro e w' ⟨rfl, rfl⟩
    exact ⟨rfl, 0, #[], by rw [grow_empty]; rfl⟩
  have hsf := Tryz.slices_SortFunc (slAt sls N) hone (cfR R N) (swo_rows hR h0 hrow) 77 #[] blk 0 cap (List.range N).toArray w (fun args w => rfl) hcmp hHo hbk.lt (by rw [hds]; omega)
  rw [hds] at hsf
  refine hsf.mono ?_
  rintro e w' ⟨rfl, d', n, os, hp, hs, rfl⟩
  obtain ⟨p1, _, p3⟩ := hp
  obtain ⟨ts⟩ := d'
  have hl : ts.length = N := by simpa using p1
  have hpm : ts.Perm (List.range N) := by
    have e1 : (Array.extract ⟨ts⟩ 0 N : Array Nat).toList = ts := by simp [← hl]
    have e2 : (Array.extract (List.range N).toArray 0 N : Array Nat).toList = List.range N := by simp
    rw [e1, e2] at p3; exact p3
  obtain ⟨s1, s2, s3⟩ := sorted_rows hR h0 hrow hpm hs
  have hk := hkb n ts.toArray os
  refine ⟨rfl, ts.map (rowAt R N), ts.map (slAt sls N), s1, s2, owns_enc s3 hbase hgb r1 r2 r3, fun i l hi => ?_, ?_⟩
  · rw [List.getElem?_map] at hi
    cases ht : ts[i]? with
    | none => rw [ht] at hi; cases hi
    | some x =>
      rw [ht] at hi
      injection hi with hi
      subst hi
      obtain ⟨hx2, ax, cx, ex, hx⟩ := rowAt_ok hR h0 hrow x
      exact ⟨hx2, ax, cx, by rw [List.getElem?_map, ht]; exact congrArg some ex, hx.kb hk rfl⟩
  · exact (Below.refl _ _).grown (grown_enc ts.toArray) hB (fun j hj => by injection hj with hj; omega)
theorem sortF_none (w : World) (a : Option Addr) (cap : Nat) : Calls Tryz.prog 76 #[.slice a 0 cap, .func (.func 77) #[] #[]] w fun e w' => e = .returned (.tuple #[]) ∧ w = w' :=
  (Tryz.slices_SortFunc_none (α := Nat) a cap _ w).mono fun _ _ h => ⟨h.1, h.2.symm⟩
end Go.Proofs.YtobhjkfkdkiigaaGreatDoor

namespace Go.Proofs.YtobhjkfkdkiigaaGreatDoor
open Go.RowKit HP NP LY
theorem addS_low (a b : Nat) (ha : a ≤ 16) (hb : b ≤ 16) : addS a b = ((a + b : Nat) : Int) := by unfold addS Go.Proofs.YtobhjkfkdkiigaaGreatDoor.cnt; omega
theorem mulS_low (a b : Nat) (ha : a ≤ 16) (hb : b ≤ 16) : mulS a b = ((a * b : Nat) : Int) := by
  have h : a * b ≤ 16 * 16 := Nat.mul_le_mul ha hb
  unfold mulS
  rw [cnt_in (a : Int) (by omega) (by omega), cnt_in (b : Int) (by omega) (by omega), ← Int.natCast_mul]
  omega
theorem powS_low (n : Nat) (hn : n ≤ 4) : powS n = ((2 ^ n : Nat) : Int) := by
  rw [powS_in _ (by omega), show (max (n : Int) 0).toNat = n by omega, Int.natCast_pow]; rfl
/-- the variables of A and B, the lowest bit first -/
def vAB : List Int := [2, 0, 3, 1]
theorem vAB_srt : srt vAB = [0, 1, 2, 3] := by
  have h : (vAB).Perm [0, 1, 2, 3] := by unfold vAB; decide
  show vAB.mergeSort _ = _
  exact (mergeSort_of_perm_i h).trans (srt_self (by decide))
theorem vAB_lv {m : Nat → Option Nat} (hm : PosOf (srt vAB) m) : ∀ v, v < 4 → lvO m v = v := fun v hv => by
  rw [vAB_srt] at hm
  unfold lvO
  rw [(hm v v).2 (by
    rcases (by omega : v = 0 ∨ v = 1 ∨ v = 2 ∨ v = 3) with rfl | rfl | rfl | rfl <;> rfl)]
  rfl
/-- the values of the variables by a number -/
def asgR (r v : Nat) : Bool := if v = 2 then r.testBit 0 else if v = 0 then r.testBit 1 else if v = 3 then r.testBit 2 else if v = 1 then r.testBit 3 else false
theorem asgR_ok (r i v : Nat) (h : (toNs vAB)[i]? = some v) : asgR r v = r.testBit i := by
  match i, h with
  | 0, h => injection h with h; subst h; rfl
  | 1, h => injection h with h; subst h; rfl
  | 2, h => injection h with h; subst h; rfl
  | 3, h => injection h with h; subst h; rfl
  | i + 4, h => simp [toNs, vAB] at h
/-- the numbers of the values for which a node says true -/
def numR (S : NS) (k : Nat) : List Nat := (List.range 16).filter fun r => den S.l (asgR r) k
theorem each_AB {S : NS} (h : Wf S) (h8 : S.vars = 8) {k : Nat} (hk : isB S.l k = true) (hl : Low4 S k) : eachL S (k : Int) vAB = nZ (numR S k) := by
  unfold eachL
  rw [Int.toNat_natCast]
  obtain ⟨l, hl'⟩ : ∃ l, numsL (cubes S k) (toNs vAB) = l := ⟨_, rfl⟩
  have hs := nums_rise h hk hl (l := toNs vAB) rfl (by rw [h8]; decide) (by decide) (f := asgR) (fun r _ i v hi => asgR_ok r i v hi) (s := l.mergeSort fun a b => decide (a ≤ b)) (by rw [hl']; exact List.mergeSort_perm l _) (by
    have := List.pairwise_mergeSort (le := fun a b : Nat => decide (a ≤ b)) (fun a b c => by simpa using Nat.le_trans) (fun a b => by simpa using Nat.le_total a b) l
    exact this.imp fun h => by simpa using h)
  have hp : (nZ l).Perm (nZ (numR S k)) := by
    unfold numR
    rw [← hs]
    exact ((List.mergeSort_perm l _).symm).map _
  rw [hl']
  show (nZ l).mergeSort _ = _
  exact (mergeSort_of_perm_i hp).trans (srt_self ((nZ_rise (List.Pairwise.filter _ List.pairwise_lt_range)).imp fun h => by omega))
theorem numR_len (S : NS) (k : Nat) : (numR S k).length ≤ 16 := by
  have := List.length_filter_le (fun r => den S.l (asgR r) k) (List.range 16)
  rw [List.length_range] at this
  exact this
theorem nZ_len (l : List Nat) : (nZ l).length = l.length := List.length_map ..
/-- count.Each of such a node -/
theorem each_yes {S : NS} (h : Wf S) (h8 : S.vars = 8) {k : Nat} (hk : isB S.l k = true) (hl : Low4 S k) {w : World} {e : Ending} {w' : World} (hp : EachPost S (k : Int) vAB 16 w e w') :
    Below w.heap.size w w' ∧ ∃ y, e = .returned (.tuple #[y, .int .i64 0]) ∧ w'.ownsRow w.heap.size 3 1 y (numR S k).length (zV (nZ (numR S k))) := by
  obtain ⟨hb, hp⟩ := hp
  have hw : withE S (k : Int) vAB = 0 := withE_ok ⟨fun z hz => by
    rw [inV_iff, h8]
    unfold vAB at hz
    simp at hz
    omega, by unfold vAB; decide⟩ (by rw [isK_nat]; exact hk) (fun v hv => by
    rw [Int.toNat_natCast] at hv
    have := hl v ((mem_asksL h hk).1 hv)
    unfold vAB
    rcases (by omega : v = 0 ∨ v = 1 ∨ v = 2 ∨ v = 3) with rfl | rfl | rfl | rfl <;> decide)
  have hnb : ¬ eachBad 16 vAB.length := by unfold eachBad vAB; simp
  refine ⟨hb, ?_⟩
  rcases hp with ⟨h1, _⟩ | ⟨_, h1, _⟩ | ⟨_, _, m, hm, h1⟩
  · exact absurd h1 hnb
  · exact absurd hw h1
  · have hs : satT m vAB.length S ((k : Int)).toNat ≤ 16 := by
      rw [Int.toNat_natCast]
      exact satA_low h addS_low mulS_low powS_low (vAB_lv hm) hk hl
    have hc : cubE S (k : Int) 16384 = 0 := cubE_ok (by decide) (by rw [isK_nat]; exact hk) (by
      rw [Int.toNat_natCast]
      have := cubes_low h hk hl
      omega)
    rcases h1 with ⟨h1, _⟩ | ⟨_, h1, _⟩ | ⟨_, _, y, h1, h2⟩
    · omega
    · exact absurd hc h1
    · rw [each_AB h h8 hk hl, nZ_len] at h2
      exact ⟨y, h1, h2⟩
/-- a number's row -/
def rowN (r : Nat) : List Nat := [r % 4, r / 4]
theorem tup_at : ∀ r : Fin 16, ∀ a b : Fin 4, tupG [0, 1] [a.val, b.val] (asgR r.val) = decide (r.val % 4 = a.val ∧ r.val / 4 = b.val) := by decide +kernel
theorem rows_at {L : List (List Nat)} (hL : ∀ t ∈ L, t.length = 2 ∧ ∀ v ∈ t, v < 4) {r : Nat} (hr : r < 16) : rowsG [0, 1] L (asgR r) = true ↔ rowN r ∈ L := by
  unfold rowsG
  rw [List.any_eq_true]
  have key : ∀ t ∈ L, tupG [0, 1] t (asgR r) = true ↔ t = rowN r := fun t ht => by
    obtain ⟨h2, h4⟩ := hL t ht
    match t, h2 with
    | [a, b], _ =>
      have ha := h4 a (by simp)
      have hb := h4 b (by simp)
      have := tup_at ⟨r, hr⟩ ⟨a, ha⟩ ⟨b, hb⟩
      simp only at this
      rw [this, decide_eq_true_iff]
      unfold rowN
      constructor
      · rintro ⟨h1, h2⟩; rw [h1, h2]
      · intro h; injection h with h1 h2; injection h2 with h2 _; omega
  constructor
  · rintro ⟨t, ht, h⟩
    rw [← (key t ht).1 h]; exact ht
  · intro h; exact ⟨_, h, (key _ h).2 rfl⟩
theorem VD_ab : ∀ v, VD [0, 1] v = true → v < 4 := by
  intro v hv
  have h8 : v < 8 := by
    refine vs8 (ds := [0, 1]) (by decide) v ?_
    unfold VD at hv; simpa using hv
  have key : ∀ u : Fin 8, VD [0, 1] u.val = true → u.val < 4 := by decide
  exact key ⟨v, h8⟩ hv
/-- the rows of the numbers are those that are said -/
theorem rowsR_mem {S : NS} {k : Nat} {L : List (List Nat)} (hL : ∀ t ∈ L, t.length = 2 ∧ ∀ v ∈ t, v < 4) (hd : ∀ ρ, den S.l ρ k = rowsG [0, 1] L ρ) (t : List Nat) : t ∈ (numR S k).map rowN ↔ t ∈ L := by
  rw [List.mem_map]
  unfold numR
  constructor
  · rintro ⟨r, hr, rfl⟩
    rw [List.mem_filter, List.mem_range, hd] at hr
    exact (rows_at hL hr.1).1 hr.2
  · intro ht
    obtain ⟨h2, h4⟩ := hL t ht
    match t, h2, ht, h4 with
    | [a, b], _, ht, h4 =>
      have ha := h4 a (by simp)
      have hb := h4 b (by simp)
      have hr : rowN (a + 4 * b) = [a, b] := by unfold rowN; rw [show (a + 4 * b) % 4 = a by omega, show (a + 4 * b) / 4 = b by omega]
      refine ⟨a + 4 * b, ?_, hr⟩
      rw [List.mem_filter, List.mem_range, hd]
      exact ⟨by omega, (rows_at hL (by omega)).2 (by rw [hr]; exact ht)⟩
/-- sorted, they are the rows themselves -/
theorem rows_sorted {R L : List (List Int)} (hL : L.Pairwise fun a b => lessL a b = true) (hn : R.Nodup) (hR : R.Pairwise fun a b => lessL b a = false) (hm : ∀ t, t ∈ R ↔ t ∈ L) : R = L := by
  have hs : R.Pairwise fun a b => lessL a b = true := (hR.and hn).imp fun {a b} ⟨h1, h2⟩ => by
    rcases lessL_tri b a h1 with e | e
    · exact absurd e.symm h2
    · exact e
  have key : ∀ {A B : List (List Int)}, A.Pairwise (fun a b => lessL a b = true) → B.Pairwise (fun a b => lessL a b = true) → (∀ t, t ∈ A ↔ t ∈ B) → A = B := by
    intro A
    induction A with
    | nil => intro B _ _ h; cases B with
      | nil => rfl
      | cons y B => have := (h y).2 (by simp); simp at this
    | cons x A ih =>
      intro B hA hB h
      cases B with
      | nil => have := (h x).1 (by simp); simp at this
      | cons y B =>
        rw [List.pairwise_cons] at hA hB
        have irr : ∀ {a b : List Int}, lessL a b = true → lessL b a = true → False := fun {a b} h1 h2 => by
          have := lessL_trans _ _ _ h1 h2
          rw [lessL_irr] at this; cases this
        have hxy : x = y := by
          have h1 := (h x).1 (by simp)
          have h2 := (h y).2 (by simp)
          rw [List.mem_cons] at h1 h2
          rcases h1 with e | h1
          · exact e
          · rcases h2 with e | h2
            · exact e.symm
            · exact (irr (hA.1 _ h2) (hB.1 _ h1)).elim
        subst hxy
        rw [ih hA.2 hB.2 fun z => ?_]
        have hz := h z
        rw [List.mem_cons, List.mem_cons] at hz
        constructor
        · intro hzl
          rcases hz.1 (.inr hzl) with e | e
          · subst e; have := hA.1 z hzl; rw [lessL_irr] at this; cases this
          · exact e
        · intro hzm
          rcases hz.2 (.inr hzm) with e | e
          · subst e; have := hB.1 z hzm; rw [lessL_irr] at this; cases this
          · exact e
  exact key hs hL hm
theorem rowsR_nodup (S : NS) (k : Nat) : ((numR S k).map fun r => zN (rowN r)).Nodup := by
  have hr : (numR S k).Pairwise (· < ·) := List.Pairwise.filter _ List.pairwise_lt_range
  unfold List.Nodup
  rw [List.pairwise_map]
  refine hr.imp_of_mem fun {a b} ha hb h e => ?_
  have e1 : ((a % 4 : Nat) : Int) = ((b % 4 : Nat) : Int) := (List.cons.inj e).1
  have e2 : ((a / 4 : Nat) : Int) = ((b / 4 : Nat) : Int) := (List.cons.inj (List.cons.inj e).2).1
  omega
end Go.Proofs.YtobhjkfkdkiigaaGreatDoor

namespace Go.Proofs.YtobhjkfkdkiigaaGreatDoor
open Go.RowKit HP NP LY
def CtupPost (S : NS) (k : Nat) (w : World) (e : Ending) (w' : World) : Prop :=
  Below w.heap.size w w' ∧ ∃ (ya : Option Addr) (yc N : Nat) (sls : List Value) (R : List (List Int)), e = .returned (.tuple #[.slice ya N yc, .int .i64 0]) ∧ sls.length = N ∧ R.length = N ∧ w'.ownsRow w.heap.size 45 1 (.slice ya N yc) N sls ∧ Rows2T w' sls R ∧ R.Perm ((numR S k).map fun r => zN (rowN r)) ∧ R.Pairwise fun a b => lessL b a = false
theorem numR_lt {S : NS} {k r : Nat} (h : r ∈ numR S k) : r < 16 := by
  unfold numR at h
  exact List.mem_range.1 (List.mem_filter.1 h).1
theorem Rows2T.kb {T : TypeId → Bool} {w w' : World} {sls : List Value} {R : List (List Int)} (h : Rows2T w sls R) (hk : Kb T w w') (ht : T 3 = false) : Rows2T w' sls R := fun i l hi => by
  obtain ⟨h2, ad, c, hs, hc⟩ := h i l hi
  exact ⟨h2, ad, c, hs, hc.kb hk ht⟩
theorem Rows2T.below {w w' : World} {sls : List Value} {R : List (List Int)} (h : Rows2T w sls R) (hb : Below w.heap.size w w') : Rows2T w' sls R := fun i l hi => by
  obtain ⟨h2, ad, c, hs, hc⟩ := h i l hi
  exact ⟨h2, ad, c, hs, hc.below hb⟩
theorem Rows2T.snoc {w : World} {sls : List Value} {R : List (List Int)} (h : Rows2T w sls R) (hl : sls.length = R.length) {l : List Int} {ad : Option Addr} {c : Nat} (h2 : l.length = 2) (hc : CellsT w ad (zV l)) : Rows2T w (sls ++ [.slice ad 2 c]) (R ++ [l]) := fun i m hi => by
  rcases Nat.lt_or_ge i R.length with hlt | hge
  · rw [List.getElem?_append_left hlt] at hi
    obtain ⟨a1, ad', c', a2, a3⟩ := h i m hi
    exact ⟨a1, ad', c', by rw [List.getElem?_append_left (by omega)]; exact a2, a3⟩
  · rw [List.getElem?_append_right hge] at hi
    have h0 : i - R.length = 0 := by
      have := (List.getElem?_eq_some_iff.1 hi).1
      simpa using this
    rw [h0] at hi
    injection hi with hi
    subst hi
    exact ⟨h2, ad, c, by rw [List.getElem?_append_right (by omega), hl, h0]; rfl, hc⟩
theorem rowN_take {n j : Nat} (hn : n < 16) (hj : j < 2) : zV (zN ((rowN n).take (j + 1))) = zV (zN ((rowN n).take j)) ++ [.int .i64 (((n / 4 ^ j) % 4 : Nat) : Int)] := by
  rcases (by omega : j = 0 ∨ j = 1) with rfl | rfl
  · simp [rowN, zV, zN]
  · have : n / 4 % 4 = n / 4 := by omega
    simp [rowN, zV, zN, this]
theorem and3F : ∀ m : Fin 16, bits .and .i64 ((m.val : Nat) : Int) 3 = ((m.val % 4 : Nat) : Int) := by decide +kernel
theorem and3 (m : Nat) (h : m < 16) : bits .and .i64 ((m : Nat) : Int) 3 = ((m % 4 : Nat) : Int) := and3F ⟨m, h⟩
set_option maxRecDepth 100000 in
set_option maxHeartbeats 6400000 in
theorem ctup_ok (w : World) (B p q qn cb : Nat) (S : NS) (h : Cd w B p q qn cb S) (k : Nat) (hk : isB S.l k = true) (hl : Low4 S k) (da : Option Addr) (dc : Nat) (hd : Cells w da (zV (zN [0, 1]))) :
    Calls Tryz.prog 50 #[.pointer (some ⟨cb, 0, none⟩), .int .i64 (k : Int), .slice da 2 dc, .int .i64 16] w (CtupPost S k w) := by
  have H := Lib.hid h; have HK := Lib.hid hk; have HL := Lib.hid hl; have HD := Lib.hid hd
  have HVR : Hid (Calls Tryz.prog 42 #[.pointer (some ⟨cb, 0, none⟩), .slice da 2 dc] w fun e w' => Below w.heap.size w w' ∧ ∃ va vc, e = .returned (.tuple #[.slice va 4 vc, .int .i64 0]) ∧ Cells w' va (zV vAB)) := Lib.hid ((vars_ok w cb qn h.code da [0, 1] dc (by decide) (by decide) (by decide) hd).mono fun e w' h => ⟨h.1, by obtain ⟨_, va, vc, h1, h2, _⟩ := h; exact ⟨va, vc, h1, h2.c⟩⟩)
  clear h hk hl hd
  go_enter Tryz.func50, Tryz.ntmps50
  go_wp2_with fail
  refine HVR.out.mono ?_
  rintro e w1 ⟨hb1, va, vc, rfl, hva⟩
  have HB1 := Lib.hid hb1; have HC1 := Lib.hid (H.out.below hb1)
  have HQ := Lib.hid (qops_ok w1 qn p q HC1.out.qu); have HST := Lib.hid (ostore_ok w1 B p q S HC1.out.ops)
  have HEA : Hid (Calls Tryz.prog 75 #[.pointer (some ⟨p, 0, none⟩), .int .i64 (k : Int), .slice va 4 vc, .int .i64 16] w1 (EachPost S (k : Int) vAB 16 w1)) := Lib.hid (each_ok w1 B p S HC1.out.sto (by rw [HC1.out.v8]; decide) (k : Int) va vAB vc (by decide) hva (fun z hz => WalkArith.wf_i64 (by
    unfold vAB at hz
    simp at hz
    omega)) 16 (fun _ _ _ => by decide))
  obtain ⟨xda, xdc, xaa, xac, c0, c1, c2, cl⟩ := HC1.out.code.cell
  clear hb1 hva HVR c1 c2
  go_wp2_with fail
  refine HQ.out.mono ?_
  rintro e w2 ⟨rfl, rfl⟩
  go_wp2_with fail
  refine HST.out.mono ?_
  rintro e w2 ⟨rfl, rfl⟩
  go_wp2_with fail
  refine HEA.out.mono ?_
  intro e w2 hp
  obtain ⟨hb2, y, rfl, hown⟩ := each_yes HC1.out.sto.wf HC1.out.v8 HK.out HL.out hp
  obtain ⟨ea, ec, rfl⟩ := own_shape hown
  obtain ⟨L, hL⟩ : ∃ L, numR S k = L := ⟨_, rfl⟩
  obtain ⟨N, hN⟩ : ∃ N, L.length = N := ⟨_, rfl⟩
  have hN16 : N ≤ 16 := by rw [← hN, ← hL]; exact numR_len S k
  rw [hL, hN] at hown
  rw [hL, hN]
  have HLL := Lib.hid hL; have HNN := Lib.hid hN; have HOW := Lib.hid hown; have HB2 := Lib.hid (HB1.out.trans (hb2.mono HB1.out.size)); have HC2 := Lib.hid (HC1.out.below hb2)
  have HD2 := Lib.hid ((HD.out.below HB1.out).below hb2)
  have HLT : Hid (∀ r ∈ L, r < 16) := Lib.hid fun r hr => by rw [← hL] at hr; exact numR_lt hr
  clear hL hN hown hb2 hp HEA HQ HST c0 cl
  obtain ⟨j0, hj0, yz0, yz1, yz2⟩ := info_parts int_infoL
  obtain ⟨k0, hk0, kz0, kz1, kz2⟩ := info_parts rows_info6
  have hN0 : (0 : Int) ≤ ((N : Nat) : Int) := by omega
  go_wp2_with fail
  go_loopg [13, 59] N (fun mm y x wr => ∃ (i : Nat) (ya : Option Addr) (yc : Nat) (sls : List Value), mm + i = N ∧ x = .int .i64 (i : Int) ∧ y = .slice ya i yc ∧ sls.length = i ∧ wr.ownsRow w2.heap.size 45 1 (.slice ya i yc) i sls ∧ Rows2T wr sls ((L.take i).map fun r => zN (rowN r)) ∧ Below w2.heap.size w2 wr)
  case atStart => exact ⟨0, none, 0, [], by omega, rfl, rfl, rfl, World.ownsRow_nil _ _ _ _, (fun i l h => by simp at h), Below.refl _ _⟩
  case round =>
    obtain ⟨i, ya, yc, sls, hm, rfl, rfl, hsl, ho, hrw, hb⟩ := hrel
    have HM := Lib.hid hm; have HSL := Lib.hid hsl; have HO := Lib.hid ho; have HRW := Lib.hid hrw; have HB := Lib.hid hb
    clear hm hsl ho hrw hb
    by_cases hi : i < N
    · obtain ⟨n, hn⟩ : ∃ n, L[i]? = some n := ⟨_, List.getElem?_eq_getElem (by rw [HNN.out]; exact hi)⟩
      have hn16 : n < 16 := HLT.out n (List.mem_of_getElem? hn)
      obtain ⟨eb, eoff, rfl, ebl, e0⟩ := ((own_cellsV HOW.out).below HB.out).at_ (show (zV (nZ L))[i]? = some (.int .i64 (n : Int)) by unfold zV nZ; rw [List.getElem?_map, List.getElem?_map, hn]; rfl)
      have hid : decide (((i : Nat) : Int) < ((N : Nat) : Int)) = true := decide_eq_true (by omega)
      have hip : ((i : Nat) : Int) < ((N : Nat) : Int) := by omega
      have hip0 : (0 : Int) ≤ ((i : Nat) : Int) := by omega
      obtain ⟨w3, rfl⟩ : ∃ w3, w3 = wr := ⟨_, rfl⟩
      have HI := Lib.hid hi; have HN' := Lib.hid hn; have HN16 := Lib.hid hn16
      clear hi hn hn16
      go_wp2_with fail
      go_loopg [15, 16, 65] 2 (fun mm m v x wr => ∃ (j : Nat) (va : Option Addr) (vc : Nat), mm + j = 2 ∧ x = .int .i64 (j : Int) ∧ m = .int .i64 ((n / 4 ^ j : Nat) : Int) ∧ v = .slice va j vc ∧ wr.ownsRow w3.heap.size 3 1 (.slice va j vc) j (zV (zN ((rowN n).take j))) ∧ Below w3.heap.size w3 wr)
      case atStart => exact ⟨0, none, 0, rfl, rfl, by simp, rfl, World.ownsRow_nil _ _ _ _, Below.refl _ _⟩
      case round =>
        obtain ⟨j, xa, xc, hmj, rfl, rfl, rfl, hov, hbv⟩ := hrel
        have HMJ := Lib.hid hmj; have HOV := Lib.hid hov; have HBV := Lib.hid hbv
        clear hmj hov hbv
        by_cases hj : j < 2
        · have HC9 := Lib.hid ((HC2.out.below HB.out).below HBV.out)
          obtain ⟨db, doff, dc', ab, aoff, ac', ad, cap, c0, c1, c2, cl, dbl, d0, abl, a0, hrow⟩ := HC9.out.code.dom (show j < 4 by omega)
          obtain ⟨zb, zoff, rfl, zbl, z0⟩ := ((HD2.out.below HB.out).below HBV.out).at_ (show (zV (zN [0, 1]))[j]? = some (.int .i64 (j : Int)) by
            rcases (by omega : j = 0 ∨ j = 1) with rfl | rfl <;> rfl)
          have hjd : decide (((j : Nat) : Int) < 2) = true := decide_eq_true (by omega)
          have hjp : ((j : Nat) : Int) < 2 := by omega
          have hjp0 : (0 : Int) ≤ ((j : Nat) : Int) := by omega
          have hjp4 : ((j : Nat) : Int) < 4 := by omega
          obtain ⟨m, hm⟩ : ∃ m, n / 4 ^ j = m := ⟨_, rfl⟩
          have hm16 : m < 16 := by rw [← hm]; exact Nat.lt_of_le_of_lt (Nat.div_le_self _ _) HN16.out
          rw [hm]
          have HJ := Lib.hid hj; have HMM := Lib.hid hm
          clear c1 dbl d0 hrow hj hm
          have hand := and3 m hm16
          have HSZ9 := Lib.hid HBV.out.size
          go_wp2_with (at_builtin; refine wpList_append_src rfl (.tmp 77) (.tmp 83) 45 rfl w3.heap.size 3 j0 (.int .i64 0) 1 8 Tryz.underlying45 hj0 yz0 yz1 yz2 rfl (by decide) (.slice xa j xc) j _ rfl (HOV.out.alloc _) (some ⟨wr.heap.size, 0, none⟩) 1 1 [.int .i64 ((m % 4 : Nat) : Int)] rfl rfl (Cells.lit wr _ _) (by simp [Value.oneCell']) (by have := HJ.out; unfold maxLen; omega) (by have := HJ.out; omega) (Nat.le_trans HSZ9.out (by simp)) ?_)
          intro v5 w5 hown5 hg5 _
          obtain ⟨xa5, xc5, rfl⟩ := own_shape hown5
          have HO5 := Lib.hid hown5; have HB5 := Lib.hid ((HBV.out.alloc HBV.out.size (.cells #[.int .i64 ((m % 4 : Nat) : Int)] 3)).grown hg5 (Nat.le_trans HBV.out.size (by simp)) (fun g hg => (HOV.out.lt g hg).1))
          clear hown5 hg5 c0 c2 cl abl a0 z0 zbl hand
          go_wp2_with fail
          go_roundg (2 - (j + 1))
          case measure => have := HMJ.out; have := HJ.out; omega
          case rel =>
            refine ⟨j + 1, xa5, xc5, by have := HMJ.out; have := HJ.out; omega, by go_num, ?_, rfl, ?_, HB5.out⟩
            · rw [show n / 4 ^ (j + 1) = m / 4 by rw [Nat.pow_succ, ← Nat.div_div_eq_div_mul, HMM.out]]
              rfl
            · rw [rowN_take HN16.out HJ.out, HMM.out]
              exact HO5.out
        · have hj2 : j = 2 := by have := HMJ.out; omega
          subst hj2
          have HR9 : Hid (CellsT wr xa (zV (zN (rowN n)))) := Lib.hid ⟨own_cellsV HOV.out, own_tbV HOV.out⟩
          have HB9 := Lib.hid (HB.out.trans (HBV.out.mono HB.out.size)); have HO9 := Lib.hid (own_below HO.out HBV.out); have HRW9 := Lib.hid (HRW.out.below HBV.out)
          have hjd : decide (((2 : Nat) : Int) < 2) = false := by decide
          clear hj HOV HMJ
          go_wp2_with (at_builtin; refine wpList_append_src rfl (.tmp 89) (.tmp 91) 42 rfl w2.heap.size 45 k0 (.slice none 0 0) 1 24 Tryz.underlying42 hk0 kz0 kz1 kz2 rfl (by decide) (.slice ya i yc) i _ rfl (HO9.out.alloc _) (some ⟨wr.heap.size, 0, none⟩) 1 1 [.slice xa 2 xc] rfl rfl (Cells.lit wr _ _) (by simp [Value.oneCell']) (by have := HI.out; unfold maxLen; omega) (by have := HI.out; omega) (Nat.le_trans HB9.out.size (by simp)) ?_)
          intro v5 w5 hown5 hg5 _
          obtain ⟨ya5, yc5, rfl⟩ := own_shape hown5
          have hal : Below wr.heap.size wr (wr.alloc (.cells #[.slice xa 2 xc] 45)) := (Below.refl _ _).alloc (Nat.le_refl _) _
          have hkb : Kb (fun t => t == 45) wr w5 := ((Kp.of_below (T := fun t => t == 45) (B := 0) hal).kb).trans (own_grown_kb (HO9.out.alloc _) hg5)
          have HO5 := Lib.hid hown5; have HB5 := Lib.hid ((HB9.out.alloc HB9.out.size (.cells #[.slice xa 2 xc] 45)).grown hg5 (Nat.le_trans HB9.out.size (by simp)) (fun g hg => (HO9.out.lt g hg).1))
          have HRW5 : Hid (Rows2T w5 (sls ++ [.slice xa 2 xc]) ((L.take (i + 1)).map fun r => zN (rowN r))) := Lib.hid (by
            rw [List.take_add_one, HN'.out, List.map_append]
            exact (HRW9.out.kb hkb rfl).snoc (by rw [HSL.out, List.length_map, List.length_take, Nat.min_eq_left (by have := HI.out; have := HNN.out; omega)]) rfl (HR9.out.kb hkb rfl))
          clear hown5 hg5 hal hkb
          go_wp2_with fail
          go_roundg (N - (i + 1))
          case measure => have := HM.out; have := HI.out; omega
          case rel => exact ⟨i + 1, ya5, yc5, _, by have := HM.out; have := HI.out; omega, by go_num, rfl, by rw [List.length_append, HSL.out]; rfl, HO5.out, HRW5.out, HB5.out⟩
    · have hi2 : i = N := by have := HM.out; omega
      subst hi2
      have etk : L.take i = L := by rw [← HNN.out, List.take_length]
      have HRL : Hid (Rows2T wr sls (L.map fun r => zN (rowN r))) := Lib.hid (by have := HRW.out; rwa [etk] at this)
      have HRN : Hid ((L.map fun r => zN (rowN r)).length = i) := Lib.hid (by rw [List.length_map, HNN.out])
      clear etk HRW HM
      by_cases h0 : i = 0
      · have HSF := Lib.hid (sortF_none wr ya yc)
        have HZ := Lib.hid h0
        rw [h0] at HO hi ⊢
        have hL0 : L = [] := List.length_eq_zero_iff.1 (by rw [HNN.out]; exact h0)
        have HL0 := Lib.hid hL0
        clear h0 hL0
        go_wp2_with fail
        refine HSF.out.mono ?_
        rintro e w9 ⟨rfl, rfl⟩
        go_wp2_with fail
        go_ret2
        refine ⟨HB2.out.trans (HB.out.mono HB2.out.size), ya, yc, 0, [], [], rfl, rfl, rfl, ?_, (fun i l h => by simp at h), ?_, List.Pairwise.nil⟩
        · have hs0 : sls = [] := List.length_eq_zero_iff.1 (by rw [HSL.out]; exact HZ.out)
          have := HO.out
          rw [hs0] at this
          exact own_base this HB2.out.size
        · rw [HLL.out, HL0.out]; exact List.Perm.refl _
      · have HSF := Lib.hid (sortF_ok wr w2.heap.size yc i ya sls _ HSL.out HRN.out (by omega) (by omega) HB.out.size HO.out HRL.out)
        clear h0
        go_wp2_with fail
        refine HSF.out.mono ?_
        rintro e w9 ⟨rfl, R', sls', hp, hs, ho9, hr9, hb9⟩
        have H9 := Lib.hid (And.intro hp (And.intro hs (And.intro ho9 (And.intro hr9 hb9))))
        clear hp hs ho9 hr9 hb9
        go_wp2_with fail
        go_ret2
        obtain ⟨hp, hs, ho9, hr9, hb9⟩ := H9.out
        refine ⟨HB2.out.trans ((HB.out.mono (Nat.le_refl _)).trans hb9 |>.mono HB2.out.size), ya, yc, i, sls', R', rfl, ?_, ?_, own_base ho9 HB2.out.size, hr9, by rw [HLL.out]; exact hp, hs⟩
        · have := ho9.1; simpa using this
        · rw [hp.length_eq, HRN.out]
end Go.Proofs.YtobhjkfkdkiigaaGreatDoor

namespace Go.Proofs.YtobhjkfkdkiigaaGreatDoor
open Go.RowKit HP NP LY
def RtupPost (B : Nat) (S : NS) (k : Nat) (w : World) (e : Ending) (w' : World) : Prop :=
  Ks TX' B w w' ∧ ∃ (ya : Option Addr) (yc N : Nat) (sls : List Value) (R : List (List Int)), e = .returned (.tuple #[.slice ya N yc, .int .i64 0]) ∧ R.length = N ∧ Cells w' ya sls ∧ Rows2T w' sls R ∧ R.Perm ((numR S k).map fun r => zN (rowN r)) ∧ R.Pairwise fun a b => lessL b a = false
set_option maxRecDepth 100000 in
set_option maxHeartbeats 6400000 in
theorem rtup_ok (w : World) (B p q qn cb xb : Nat) (S : NS) (h : Rl w B p q qn cb xb S) (ra rda : Option Addr) (rac rdc kr : Nat) (hr : RelOk w S ⟨ra, rac, rda, rdc, 2, [sX, sY], [0, 1], kr⟩) (hroom : NP.cnt S.l + 134 ≤ S.budget) :
    Calls Tryz.prog 15 #[.pointer (some ⟨xb, 0, none⟩), rdV ⟨ra, rac, rda, rdc, 2, [sX, sY], [0, 1], kr⟩, .int .i64 16] w (RtupPost B S kr w) := by
  have H := Lib.hid h; have HR := Lib.hid hr; have HRM := Lib.hid hroom
  clear h hr hroom
  go_enter Tryz.func15, Tryz.ntmps15
  go_wp2_with fail
  obtain ⟨W0, hW0⟩ : ∃ W0, W0 = ((w.alloc (.cells #[.slice ra 2 rac, .slice rda 2 rdc, .int .i64 (kr : Int)] 48)).alloc (.cells #[.slice ra 2 rac, .slice rda 2 rdc, .int .i64 (kr : Int)] 48)) := ⟨_, rfl⟩
  have hb0 : Below w.heap.size w W0 := by rw [hW0]; exact ((Below.refl _ _).alloc (Nat.le_refl _) _).alloc (by simp) _
  have hr0 : Blk W0 w.heap.size 48 #[.slice ra 2 rac, .slice rda 2 rdc, .int .i64 (kr : Int)] := by rw [hW0]; exact (Blk.new_ _ _ _).alloc_ _
  have hz0 : Blk W0 (w.heap.size + 1) 48 #[.slice ra 2 rac, .slice rda 2 rdc, .int .i64 (kr : Int)] := by
    rw [hW0]
    have := Blk.new_ (w.alloc (.cells #[.slice ra 2 rac, .slice rda 2 rdc, .int .i64 (kr : Int)] 48)) 48 #[.slice ra 2 rac, .slice rda 2 rdc, .int .i64 (kr : Int)]
    simpa using this
  rw [← hW0]
  obtain ⟨g, hg⟩ : ∃ g, g = w.heap.size := ⟨_, rfl⟩
  rw [← hg] at hr0 hz0 ⊢
  have HG := Lib.hid hg
  have hmay := rmay_ok W0 B p q qn cb xb S (H.out.below hb0) (some ⟨g + 1, 0, none⟩) 1 [⟨ra, rac, rda, rdc, 2, [sX, sY], [0, 1], kr⟩] (by simp) (fun _ => ⟨g + 1, 0, rfl, hz0.lt, fun i v hv => by
      rw [Nat.zero_add, hz0.cell]
      rw [← Array.getElem?_toList]; exact hv⟩) (tb_some ⟨_, hz0⟩) (fun r hr => by
      rw [List.mem_singleton] at hr; subst hr
      exact HR.out.below hb0)
  have HMAY := Lib.hid hmay
  have HB0 := Lib.hid hb0; have HR0 := Lib.hid hr0
  clear hb0 hr0 hz0 hW0 hg hmay
  refine HMAY.out.mono ?_
  rintro e w1 ⟨rfl, hrl, hks⟩
  have HRL := Lib.hid hrl; have HKS : Hid (Ks TX' B w w1) := Lib.hid ((Ks.below HB0.out H.out.cd.low).trans (hks.mono fun t ht => by
    show (TO t || t == 97) = true
    rw [Bool.or_eq_true]; exact .inr ht))
  have HR1 := Lib.hid (hks.kb _ _ _ HR0.out rfl)
  clear hrl hks HMAY HR0 HB0
  have HRR1 := Lib.hid (HR.out.kb HKS.out.kb rfl rfl)
  have g0 : w1.cell? ⟨g, 0, none⟩ = some (.slice ra 2 rac) := HR1.out.cell 0
  have g1 : w1.cell? ⟨g, 1, none⟩ = some (.slice rda 2 rdc) := HR1.out.cell 1
  have g2 : w1.cell? ⟨g, 2, none⟩ = some (.int .i64 (kr : Int)) := HR1.out.cell 2
  have gl := HR1.out.lt
  have HCL := Lib.hid (clean_ok w1 B p q qn cb xb S HRL.out ⟨ra, rac, rda, rdc, 2, [sX, sY], [0, 1], kr⟩ HRR1.out (show 2 ≤ 3 by decide) (show NP.cnt S.l + 2 * 67 ≤ S.budget by have := HRM.out; omega))
  go_wp2_with fail
  refine HCL.out.mono ?_
  rintro e w9 ⟨S1, k1, rfl, hrl9, hkp9, hgo9⟩
  have HRL9 := Lib.hid hrl9; have HKP9 := Lib.hid hkp9; have HGO9 := Lib.hid hgo9
  have HR9 := Lib.hid (hkp9.blk HR1.out rfl)
  clear hrl9 hkp9 hgo9 g0 g1 g2 gl HCL
  have f0 := HR9.out.frozen 0
  have f1 := HR9.out.frozen 1
  have f2 := HR9.out.frozen 2
  have g0 := HR9.out.cell 0
  have g1 := HR9.out.cell 1
  have g2 := HR9.out.cell 2
  have gl := HR9.out.lt
  obtain ⟨k1s, k2s⟩ := setbox HR9.out (.slice ra 2 rac) (.slice rda 2 rdc) (.int .i64 (k1 : Int))
  obtain ⟨w10, hw10⟩ : ∃ w10, w10 = (((w9.setCell ⟨g, 0, none⟩ (.slice ra 2 rac)).setCell ⟨g, 1, none⟩ (.slice rda 2 rdc)).setCell ⟨g, 2, none⟩ (.int .i64 (k1 : Int))) := ⟨_, rfl⟩
  rw [← hw10] at k1s k2s
  have HK10 := Lib.hid k1s; have HR10 := Lib.hid k2s
  clear k1s k2s
  go_upto_region 6 with (fail)
  rw [← hw10]
  have HW10 := Lib.hid hw10
  clear hw10 f0 f1 f2 g0 g1 g2 gl
  have HRL10 := Lib.hid (HRL9.out.kpr HK10.out)
  have HRD10 := Lib.hid ((HRR1.out.kb HKP9.out.kb rfl rfl).kb HK10.out.kb rfl rfl)
  have HKS10 : Hid (Ks TX' B w w10) := Lib.hid (by
    have h1 := HKS.out.trans (HKP9.out.kx HRL.out.cd.low)
    have hlow := H.out.cd.low
    have hir : w.heap.size ≤ g := by rw [HG.out]; exact Nat.le_refl _
    have h2 := ((h1.new hlow (p := ⟨g, 0, none⟩) hir (.slice ra 2 rac)).new hlow (p := ⟨g, 1, none⟩) hir (.slice rda 2 rdc)).new hlow (p := ⟨g, 2, none⟩) hir (.int .i64 (k1 : Int))
    rwa [← HW10.out] at h2)
  obtain ⟨hcd, hxB, hsw, za8, zc8, ma8, swp8, hsp, hrow, hle, hask⟩ := HRL10.out
  have c0 : w10.cell? ⟨xb, 0, none⟩ = some (.pointer (some ⟨cb, 0, none⟩)) := hsp.cell 0
  have xl := hsp.lt
  have g1 : w10.cell? ⟨g, 1, none⟩ = some (.slice rda 2 rdc) := HR10.out.cell 1
  have g2 : w10.cell? ⟨g, 2, none⟩ = some (.int .i64 (k1 : Int)) := HR10.out.cell 2
  have gl := HR10.out.lt
  have hden : ∀ ρ, den S1.l ρ k1 = den S.l ρ kr := HGO9.out.den.says
  have hdep : Dep (VD [0, 1]) (fun ρ => den S1.l ρ k1) := HR.out.dep.cong fun ρ => (hden ρ).symm
  have hnum : numR S1 k1 = numR S kr := by unfold numR; simp only [hden]
  have hbd : Below w10.heap.size w10 w10.drew := (Below.refl w10.heap.size w10).drew
  have HCT := Lib.hid (ctup_ok w10.drew B p q qn cb S1 (hcd.below hbd) k1 HGO9.out.den.is (Low4.of_dep hcd.sto.wf HGO9.out.den.is hdep VD_ab) rda rdc (HRD10.out.dc.below hbd).c)
  have HBD := Lib.hid hbd; have HNUM := Lib.hid hnum
  clear hcd hxB hsw hsp hrow hle hask hden hdep hnum hbd
  go_region_law (go_simp; go_at_call 50; (with_reducible refine HCT.out.mono ?_); rintro e w11 ⟨hb11, ya, yc, N, sls, R, rfl, hl1, hl2, ho, hr, hp, hs⟩; have H11 := Lib.hid (And.intro hb11 (And.intro hl2 (And.intro ho (And.intro hr (And.intro hp hs))))); clear hb11 hl1 hl2 ho hr hp hs)
  all_goals
    obtain ⟨hb11, hl2, ho, hr, hp, hs⟩ := H11.out
    have HH := Lib.hid (show RtupPost B S kr w (.returned (.tuple #[.slice ya N yc, .int .i64 0])) w11 from ⟨HKS10.out.trans (Ks.below (HBD.out.trans hb11) HRL10.out.cd.low), ya, yc, N, sls, R, rfl, hl2, own_cellsV ho, hr, by rw [← HNUM.out]; exact hp, hs⟩)
    clear hb11 hl2 ho hr hp hs c0 xl g1 g2 gl H11
    go_wp2_with fail
    go_ret2
    exact HH.out
end Go.Proofs.YtobhjkfkdkiigaaGreatDoor
