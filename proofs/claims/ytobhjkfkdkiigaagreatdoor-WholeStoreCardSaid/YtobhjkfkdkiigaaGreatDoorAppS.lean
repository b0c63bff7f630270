/- append to a row of the call's own, and where the new row lies; two rows of numbers apart (Rows2). -/
import Derived.Test.YtobhjkfkdkiigaaGreatDoorApp
import Derived.Test.YtobhjkfkdkiigaaGreatDoorRow
namespace Go.Proofs.YtobhjkfkdkiigaaGreatDoor
open Go.RowKit
theorem run_append_sep {P : Program} {w : World} (base : Nat) (t ty e : TypeId) (i : TypeInfo) (z : Value) (size bytes : Nat) (ht : P.underlying t = some (.slice e)) (hi : P.info? e = some i) (hz : i.zero = some z)
    (hsize : i.size = size) (hby : i.bytes = bytes) (hzs : z.cells.size = size) (hsz : 0 < size)
    (v : Value) (n : Nat) (xs : List Value) (hown : w.ownsRow base e size v n xs)
    (a : Addr) (m c : Nat) (news : List Value) (hl : news.length = m * size) (hnews : ∀ j u, news[j]? = some u → w.cell? (a.add j) = some u) (h1 : ∀ u ∈ news, u.oneCell' = true)
    (h63 : n + m ≤ maxLen) (hbytes : (n + m) * bytes ≤ 140737488355328) (hbase : base ≤ w.heap.size) :
    ∃ v' w', (Builtin.append_ #[t, t] ty #[v, .slice (some a) m c]).run P w = .ok v' w' ∧ w'.ownsRow base e size v' (n + m) (xs ++ news) ∧ w.grownBy w' v.ownBlock ∧
      (v'.ownBlock = v.ownBlock ∨ v'.ownBlock = some w.heap.size) := by
  obtain ⟨v', w', hr, r1, r2, r3⟩ := run_append_own (P := P) w base t ty e i z size bytes ht hi hz hsize hby hzs hsz v n xs hown a m c news hl hnews h1 h63 hbytes hbase
  refine ⟨v', w', hr, r1, r2, ?_⟩
  subst hsize
  subst hby
  have hsmall : n + m ≤ 9223372036854775807 := by simp only [maxLen] at h63; omega
  rcases hown.2 with ⟨rfl, rfl⟩ | ⟨g, cap, cur, rfl, hbg, hg, hnc, hcm, hcs, htake⟩
  · by_cases hm : m = 0
    · left; rw [r3.2 ⟨rfl, hm⟩]
    · have hr2 := run_append_nil (P := P) w t ty e i z ht hi hz a m c news hl hnews (by omega) (by omega) (by have hb := hbytes; simp only [Nat.zero_add] at hb; omega)
      rw [hr2] at hr
      injection hr with hv _
      right; rw [← hv]; rfl
  · by_cases hroom : n + m ≤ cap
    · have hfit : n * i.size + news.length ≤ cur.size := by rw [hl, hcs, ← Nat.add_mul]; exact Nat.mul_le_mul_right _ hroom
      have hr2 := run_append_room (P := P) w t ty e i ht hi g n cap cur hg a m c news hl hnews h1 hroom hfit
      rw [hr2] at hr
      injection hr with hv _
      left; rw [← hv]; rfl
    · have holds : ∀ j u, xs[j]? = some u → w.cell? ((⟨g, 0, none⟩ : Addr).add j) = some u := hown.cells (g := g) rfl
      have hr2 := run_append_grow (P := P) w t ty e i z ht hi hz ⟨g, 0, none⟩ n cap xs hown.1 holds a m c news hl hnews (by omega) (by omega) (growslice_fits (by omega) hbytes)
      rw [hr2] at hr
      injection hr with hv _
      right; rw [← hv]; rfl
theorem wpList_append_sep {P : Program} {w : World} {ops : Array Oper} {rest : List Oper} {o : Oper} {a : Act} {Q : Exit → Act → World → Prop} (hgd : o.guard = none) (s x : Operand) (t : TypeId)
    (hop : o.op = .call { callee := .builtin .append, args := #[s, x], argTypes := #[t, t] })
    (base : Nat) (e : TypeId) (i : TypeInfo) (z : Value) (size bytes : Nat) (ht : P.underlying t = some (.slice e)) (hi : P.info? e = some i) (hz : i.zero = some z)
    (hsize : i.size = size) (hby : i.bytes = bytes) (hzs : z.cells.size = size) (hsz : 0 < size)
    (v : Value) (n : Nat) (xs : List Value) (hs : a.eval s = v) (hown : w.ownsRow base e size v n xs)
    (xb xo m c : Nat) (news : List Value) (hx : a.eval x = .slice (some ⟨xb, xo, none⟩) m c) (hl : news.length = m * size) (hc : ∀ j u, news[j]? = some u → w.cell? ((⟨xb, xo, none⟩ : Addr).add j) = some u) (h1 : ∀ u ∈ news, u.oneCell' = true)
    (h63 : n + m ≤ maxLen) (hbytes : (n + m) * bytes ≤ 140737488355328) (hbase : base ≤ w.heap.size)
    (h : ∀ v' w', w'.ownsRow base e size v' (n + m) (xs ++ news) → w.grownBy w' v.ownBlock → (v'.ownBlock = v.ownBlock ∨ v'.ownBlock = some w.heap.size) → wpList P ops Q rest (a.put o.dst v') w') : wpList P ops Q (o :: rest) a w := by
  refine wpList_plain hgd fun K hK => ?_
  obtain ⟨v', w', hrun, r1, r2, r3⟩ := run_append_sep (P := P) (w := w) base t o.type e i z size bytes ht hi hz hsize hby hzs hsz v n xs hown ⟨xb, xo, none⟩ m c news hl hc h1 h63 hbytes hbase
  unfold Oper.wp
  simp [execOp, hop, resolve, invoke, builtin, hs, hx, hrun, Result.andThen]
  exact hK _ _ (h v' w' r1 r2 r3)
/-- two rows of one call, of one kind, that lie apart -/
structure Rows2 (w : World) (B : Nat) (y1 : Value) (n1 : Nat) (xs : List Value) (y2 : Value) (n2 : Nat) (ys : List Value) : Prop where
  one : w.ownsRow B 3 1 y1 n1 xs
  two : w.ownsRow B 3 1 y2 n2 ys
  apart : ∀ b, y1.ownBlock = some b → y2.ownBlock ≠ some b
theorem Rows2.grown1 {w w' : World} {B : Nat} {y1 : Value} {n1 : Nat} {xs : List Value} {y2 : Value} {n2 : Nat} {ys : List Value} (h : Rows2 w B y1 n1 xs y2 n2 ys) {y1' : Value} {n1' : Nat} {xs' : List Value}
    (hown : w'.ownsRow B 3 1 y1' n1' xs') (hg : w.grownBy w' y1.ownBlock) (hs : y1'.ownBlock = y1.ownBlock ∨ y1'.ownBlock = some w.heap.size) : Rows2 w' B y1' n1' xs' y2 n2 ys := by
  refine ⟨hown, h.two.kept hg ?_, fun b hb => ?_⟩
  · cases e : y2.ownBlock with
    | none => exact .inl rfl
    | some b =>
      right
      intro e2
      exact h.apart b e2.symm e
  · rcases hs with hs | hs
    · exact h.apart b (by rw [← hs]; exact hb)
    · intro e
      have h1 := (h.two.lt b e).2
      rw [hs] at hb
      injection hb with hb
      omega
theorem Rows2.grown2 {w w' : World} {B : Nat} {y1 : Value} {n1 : Nat} {xs : List Value} {y2 : Value} {n2 : Nat} {ys : List Value} (h : Rows2 w B y1 n1 xs y2 n2 ys) {y2' : Value} {n2' : Nat} {ys' : List Value}
    (hown : w'.ownsRow B 3 1 y2' n2' ys') (hg : w.grownBy w' y2.ownBlock) (hs : y2'.ownBlock = y2.ownBlock ∨ y2'.ownBlock = some w.heap.size) : Rows2 w' B y1 n1 xs y2' n2' ys' := by
  refine ⟨h.one.kept hg ?_, hown, fun b hb e => ?_⟩
  · cases e : y1.ownBlock with
    | none => exact .inl rfl
    | some b =>
      right
      intro e2
      exact h.apart b e e2.symm
  · rcases hs with hs | hs
    · exact h.apart b hb (by rw [← hs]; exact e)
    · have h1 := (h.one.lt b hb).2
      rw [hs] at e
      injection e with e
      omega
theorem Rows2.alloc_ {w : World} {B : Nat} {y1 : Value} {n1 : Nat} {xs : List Value} {y2 : Value} {n2 : Nat} {ys : List Value} (h : Rows2 w B y1 n1 xs y2 n2 ys) (o : Obj) : Rows2 (w.alloc o) B y1 n1 xs y2 n2 ys := ⟨h.one.alloc o, h.two.alloc o, h.apart⟩
theorem step_append_sep {P : Program} {ops : Array Oper} {o : Oper} {a : Act} {w : World} {K : Act → World → Prop} {Q : Exit → Act → World → Prop} {E : Prop}
    (hg : o.guard = none) (s x : Operand) (t : TypeId) (hop : o.op = Op.call { callee := Callee.builtin Builtin.append, args := #[s, x], argTypes := #[t, t] })
    (base : Nat) (e : TypeId) (i : TypeInfo) (z : Value) (size bytes : Nat) (ht : P.underlying t = some (.slice e)) (hi : P.info? e = some i) (hz : i.zero = some z)
    (hsize : i.size = size) (hby : i.bytes = bytes) (hzs : z.cells.size = size) (hsz : 0 < size)
    (v : Value) (n : Nat) (xs : List Value) (hs : a.eval s = v) (hown : w.ownsRow base e size v n xs)
    (ad : Addr) (m c : Nat) (news : List Value) (hx : a.eval x = .slice (some ad) m c) (hl : news.length = m * size) (hnews : ∀ j u, news[j]? = some u → w.cell? (ad.add j) = some u) (h1 : ∀ u ∈ news, u.oneCell' = true)
    (h63 : n + m ≤ maxLen) (hbytes : (n + m) * bytes ≤ 140737488355328) (hbase : base ≤ w.heap.size)
    (h : ∀ v' w', w'.ownsRow base e size v' (n + m) (xs ++ news) → w.grownBy w' v.ownBlock → (v'.ownBlock = v.ownBlock ∨ v'.ownBlock = some w.heap.size) → K (a.put o.dst v') w') :
    if Region.wanted o (yielded ops a.tmps) = true then Oper.wp P o a w K Q else E := by
  have hw : Region.wanted o (yielded ops a.tmps) = true := by simp [Region.wanted, hg]
  rw [if_pos hw]
  obtain ⟨v', w', hrun, r1, r2, r3⟩ := run_append_sep (P := P) (w := w) base t o.type e i z size bytes ht hi hz hsize hby hzs hsz v n xs hown ad m c news hl hnews h1 h63 hbytes hbase
  unfold Oper.wp
  simp [execOp, hop, resolve, invoke, builtin, hs, hx, hrun, Result.andThen]
  exact h v' w' r1 r2 r3
theorem lit_drew (w : World) (a : Int) (t : TypeId) : ∀ (j : Nat) (u : Value), [Value.int .i64 a][j]? = some u → (w.drew.alloc (.cells #[.int .i64 a] t)).cell? ((⟨w.heap.size, 0, none⟩ : Addr).add j) = some u := by
  intro j u hj
  match j, hj with
  | 0, hj => simp at hj; subst hj; exact World.cell?_alloc_new ..
theorem lit_one (w : World) (z : Int) (t : TypeId) : ∀ j u, [Value.int .i64 z][j]? = some u → (w.alloc (.cells #[.int .i64 z] t)).cell? ((⟨w.heap.size, 0, none⟩ : Addr).add j) = some u := fun j u hj => by
  obtain ⟨b, off, he, _, hh⟩ := Cells.lit w #[.int .i64 z] t (by simp)
  injection he with he
  have e := hh j u hj
  injection he with e1 e2
  subst e1 e2
  rcases Nat.eq_zero_or_pos j with h | h
  · subst h; simpa [Addr.add] using e
  · rw [show (⟨w.heap.size, 0, none⟩ : Addr).add j = ⟨w.heap.size, 0 + j, none⟩ from by simp [Addr.add]; omega]; exact e
theorem ones_int (a : Int) : ∀ u ∈ [Value.int .i64 a], u.oneCell' = true := by intro u hu; simp at hu; subst hu; rfl
end Go.Proofs.YtobhjkfkdkiigaaGreatDoor
