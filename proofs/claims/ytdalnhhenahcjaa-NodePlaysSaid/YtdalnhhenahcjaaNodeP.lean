/- Layer 3 in plain Lean: the nodes of a store (NS), what makes them well formed (Wf), Mk (mkS). -/
namespace Go.Proofs.Ytdalnhhenahcjaa.NP
/-- a node, or a place without one -/
structure Nd where
  is : Bool
  v : Nat
  low : Nat
  high : Nat
  pins : Nat
def Nd.no : Nd := ⟨false, 0, 0, 0, 0⟩
structure NS where
  vars : Nat
  budget : Nat
  l : List Nd
  made : Nat
  sweeps : Nat
abbrev Ky := Int × Int × Int
def nd (l : List Nd) (k : Nat) : Nd := l.getD k Nd.no
def isB (l : List Nd) (k : Nat) : Bool := (nd l k).is
def isK (l : List Nd) (k : Int) : Bool := decide (0 ≤ k) && isB l k.toNat
def cnt (l : List Nd) : Nat := l.countP (·.is)
def kyOf (x : Nd) : Ky := ((x.v : Int), (x.low : Int), (x.high : Int))
theorem nd_eq {l : List Nd} {k : Nat} {x : Nd} (h : l[k]? = some x) : nd l k = x := by simp [nd, h]
theorem nd_lt {l : List Nd} {k : Nat} (h : k < l.length) : l[k]? = some (nd l k) := by simp [nd, h]
theorem nd_ge {l : List Nd} {k : Nat} (h : l.length ≤ k) : nd l k = Nd.no := by simp [nd, h]
theorem isB_lt {l : List Nd} {k : Nat} (h : isB l k = true) : k < l.length := by
  rcases Nat.lt_or_ge k l.length with h1 | h1
  · exact h1
  · unfold isB at h; rw [nd_ge h1] at h; cases h
theorem isK_nat {l : List Nd} {k : Nat} : isK l (k : Int) = isB l k := by simp [isK]
theorem isK_out {l : List Nd} {k : Int} (h : isK l k = true) : ∃ n : Nat, k = (n : Int) ∧ isB l n = true := by
  unfold isK at h
  simp at h
  exact ⟨k.toNat, by omega, h.2⟩
theorem isK_neg {l : List Nd} {k : Int} (h : k < 0) : isK l k = false := by unfold isK; simp; omega

structure Wf (S : NS) : Prop where
  two : 2 ≤ S.l.length
  v256 : S.vars ≤ 256
  b2 : 2 ≤ S.budget
  bm : S.budget ≤ 1048576
  len : S.l.length ≤ S.budget
  z : ∃ p, nd S.l 0 = ⟨true, S.vars, 0, 0, p⟩
  o : ∃ p, nd S.l 1 = ⟨true, S.vars, 1, 1, p⟩
  kid : ∀ k, 2 ≤ k → isB S.l k = true → (nd S.l k).v < S.vars ∧ (nd S.l k).low ≠ (nd S.l k).high ∧ isB S.l (nd S.l k).low = true ∧ isB S.l (nd S.l k).high = true ∧ (nd S.l k).v < (nd S.l (nd S.l k).low).v ∧ (nd S.l k).v < (nd S.l (nd S.l k).high).v
  once : ∀ j k, 2 ≤ j → 2 ≤ k → isB S.l j = true → isB S.l k = true → kyOf (nd S.l j) = kyOf (nd S.l k) → j = k
  gone : ∀ k, isB S.l k = false → nd S.l k = Nd.no
  pins : ∀ k, (nd S.l k).pins ≤ 1073741824
theorem Wf.is0 {S : NS} (h : Wf S) : isB S.l 0 = true := by obtain ⟨p, h⟩ := h.z; unfold isB; rw [h]
theorem Wf.is1 {S : NS} (h : Wf S) : isB S.l 1 = true := by obtain ⟨p, h⟩ := h.o; unfold isB; rw [h]
theorem Wf.v0 {S : NS} (h : Wf S) : (nd S.l 0).v = S.vars := by obtain ⟨p, h⟩ := h.z; rw [h]
theorem Wf.v1 {S : NS} (h : Wf S) : (nd S.l 1).v = S.vars := by obtain ⟨p, h⟩ := h.o; rw [h]
theorem Wf.vle {S : NS} (h : Wf S) {k : Nat} (hk : isB S.l k = true) : (nd S.l k).v ≤ S.vars := by
  by_cases h2 : 2 ≤ k
  · exact Nat.le_of_lt (h.kid k h2 hk).1
  · have : k = 0 ∨ k = 1 := by omega
    rcases this with rfl | rfl
    · exact Nat.le_of_eq h.v0
    · exact Nat.le_of_eq h.v1
theorem Wf.lm {S : NS} (h : Wf S) : S.l.length ≤ 1048576 := Nat.le_trans h.len h.bm
theorem cnt_le (l : List Nd) : cnt l ≤ l.length := List.countP_le_length

/-! ### the first free number -/
def freeB (l : List Nd) (k : Nat) : Bool := decide (2 ≤ k) && !(nd l k).is
/-- the free numbers, rising -/
def frees (l : List Nd) : List Nat := (List.range l.length).filter (freeB l)
def ff (l : List Nd) : Nat := (frees l).headD l.length
theorem frees_mem (l : List Nd) (k : Nat) : k ∈ frees l ↔ 2 ≤ k ∧ k < l.length ∧ isB l k = false := by
  simp only [frees, freeB, isB, List.mem_filter, List.mem_range, Bool.and_eq_true, decide_eq_true_eq, Bool.not_eq_true']
  constructor
  · rintro ⟨a, b, c⟩; exact ⟨b, a, c⟩
  · rintro ⟨a, b, c⟩; exact ⟨b, a, c⟩
theorem ff_le (l : List Nd) : ff l ≤ l.length := by
  unfold ff
  cases h : frees l with
  | nil => simp
  | cons x t =>
    have : x ∈ frees l := by rw [h]; simp
    simp; have := (frees_mem l x).1 this; omega
theorem ff_free {l : List Nd} (h : ff l < l.length) : 2 ≤ ff l ∧ isB l (ff l) = false := by
  unfold ff at h ⊢
  cases hf : frees l with
  | nil => rw [hf] at h; simp at h
  | cons x t =>
    have : x ∈ frees l := by rw [hf]; simp
    have := (frees_mem l x).1 this
    simpa using ⟨this.1, this.2.2⟩
theorem ff_ge {l : List Nd} (h2 : 2 ≤ l.length) : 2 ≤ ff l := by
  rcases Nat.lt_or_ge (ff l) l.length with h | h
  · exact (ff_free h).1
  · omega
theorem ff_notB (l : List Nd) : isB l (ff l) = false ∨ ff l = l.length := by
  rcases Nat.lt_or_ge (ff l) l.length with h | h
  · exact .inl (ff_free h).2
  · exact .inr (by have := ff_le l; omega)
theorem ff_is (l : List Nd) : isB l (ff l) = false := by
  rcases ff_notB l with h | h
  · exact h
  · cases hb : isB l (ff l) with
    | false => rfl
    | true => have := isB_lt hb; omega
/-- l with another node under a number, or with one more -/
def putN (l : List Nd) (k : Nat) (x : Nd) : List Nd := if k < l.length then l.set k x else l ++ [x]
theorem nd_put {l : List Nd} {k : Nat} (hk : k ≤ l.length) (x : Nd) (j : Nat) : nd (putN l k x) j = if j = k then x else nd l j := by
  unfold putN nd
  by_cases h : k < l.length
  · rw [if_pos h]
    by_cases e : j = k
    · subst e; simp [h]
    · simp [e, List.getD_eq_getElem?_getD, List.getElem?_set_ne (Ne.symm e)]
  · rw [if_neg h]
    have hk' : k = l.length := by omega
    subst hk'
    by_cases e : j = l.length
    · subst e; simp
    · rw [if_neg e, List.getD_eq_getElem?_getD, List.getD_eq_getElem?_getD]
      rcases Nat.lt_or_ge j l.length with h1 | h1
      · rw [List.getElem?_append_left h1]
      · rw [List.getElem?_eq_none (by simp; omega), List.getElem?_eq_none h1]
theorem len_put {l : List Nd} {k : Nat} (_hk : k ≤ l.length) (x : Nd) : (putN l k x).length = if k < l.length then l.length else l.length + 1 := by
  unfold putN; split <;> simp
theorem cnt_set {l : List Nd} {k : Nat} (h : k < l.length) (x : Nd) : cnt (l.set k x) + (nd l k).is.toNat = cnt l + x.is.toNat := by
  unfold cnt
  induction l generalizing k with
  | nil => simp at h
  | cons y t ih =>
    cases k with
    | zero =>
      simp [nd, List.countP_cons]
      cases y.is <;> cases x.is <;> simp <;> omega
    | succ k =>
      have := ih (k := k) (by simpa using h)
      simp [List.countP_cons, nd] at this ⊢
      omega
theorem cnt_put {l : List Nd} {k : Nat} (_hk : k ≤ l.length) (h0 : isB l k = false) (x : Nd) (hx : x.is = true) : cnt (putN l k x) = cnt l + 1 := by
  unfold putN
  by_cases h : k < l.length
  · rw [if_pos h]
    have := cnt_set h x
    unfold isB at h0
    rw [h0, hx] at this; simpa using this
  · rw [if_neg h]; unfold cnt; rw [List.countP_append]; simp [hx]

/-! ### Mk -/
def findK (l : List Nd) (c : Ky) : Option Nat := (List.range l.length).find? fun k => decide (2 ≤ k) && (isB l k && decide (kyOf (nd l k) = c))
theorem findK_some {l : List Nd} {c : Ky} {k : Nat} (h : findK l c = some k) : 2 ≤ k ∧ isB l k = true ∧ kyOf (nd l k) = c := by
  have := List.find?_some h
  simpa using this
theorem findK_none {l : List Nd} {c : Ky} (h : findK l c = none) (k : Nat) : ¬ (2 ≤ k ∧ isB l k = true ∧ kyOf (nd l k) = c) := by
  rintro ⟨h1, h2, h3⟩
  have := List.find?_eq_none.1 h k (List.mem_range.2 (isB_lt h2))
  simp [h1, h2, h3] at this
theorem findK_of {S : NS} (hW : Wf S) {c : Ky} {k : Nat} (h : 2 ≤ k ∧ isB S.l k = true ∧ kyOf (nd S.l k) = c) : findK S.l c = some k := by
  cases hf : findK S.l c with
  | none => exact absurd h (findK_none hf k)
  | some j =>
    obtain ⟨h1, h2, h3⟩ := findK_some hf
    rw [hW.once j k h1 h.1 h2 h.2.1 (by rw [h3, h.2.2])]
def okMk (S : NS) (v low high : Int) : Bool := decide (0 ≤ v) && (decide (v < S.vars) && (isK S.l low && (isK S.l high && (decide (v < (nd S.l low.toNat).v) && decide (v < (nd S.l high.toNat).v)))))
def mkS (S : NS) (v low high : Int) : NS × Int × Int :=
  if okMk S v low high then
    if low = high then (S, low, 0) else
    match findK S.l (v, low, high) with
    | some k => (S, (k : Int), 0)
    | none =>
      if S.budget ≤ cnt S.l then (S, 0, 30) else
      ({ S with l := putN S.l (ff S.l) ⟨true, v.toNat, low.toNat, high.toNat, 0⟩, made := S.made + 1 }, (ff S.l : Int), 0)
  else (S, 0, 1)
theorem cnt_full {l : List Nd} (_h2 : 2 ≤ l.length) (h0 : isB l 0 = true) (h1 : isB l 1 = true) (hf : ff l = l.length) : cnt l = l.length := by
  unfold cnt
  rw [List.countP_eq_length]
  intro x hx
  obtain ⟨k, hk, rfl⟩ := List.getElem_of_mem hx
  have e : nd l k = l[k] := nd_eq (List.getElem?_eq_getElem hk)
  show l[k].is = true
  rw [← e]
  show isB l k = true
  rcases Nat.lt_or_ge k 2 with h | h
  · have : k = 0 ∨ k = 1 := by omega
    rcases this with rfl | rfl
    · exact h0
    · exact h1
  · cases hb : isB l k with
    | true => rfl
    | false =>
      have hm : k ∈ frees l := (frees_mem l k).2 ⟨h, hk, hb⟩
      unfold ff at hf
      cases hfr : frees l with
      | nil => rw [hfr] at hm; simp at hm
      | cons y t =>
        rw [hfr] at hf
        have : y ∈ frees l := by rw [hfr]; simp
        have := (frees_mem l y).1 this
        simp at hf; omega
/-- a new node put under the first free number -/
theorem Wf.put {S : NS} (h : Wf S) {v low high : Nat} (hv : v < S.vars) (hne : low ≠ high) (hl : isB S.l low = true) (hh : isB S.l high = true) (hvl : v < (nd S.l low).v) (hvh : v < (nd S.l high).v)
    (hno : findK S.l ((v : Int), (low : Int), (high : Int)) = none) (hb : cnt S.l < S.budget) (m : Nat) : Wf { S with l := putN S.l (ff S.l) ⟨true, v, low, high, 0⟩, made := m } := by
  have hk := ff_le S.l
  have hk2 := ff_ge h.two
  have hn := ff_is S.l
  have hlen := len_put hk ⟨true, v, low, high, 0⟩
  have hnd := nd_put hk ⟨true, v, low, high, 0⟩
  obtain ⟨f, hf⟩ : ∃ f, f = ff S.l := ⟨_, rfl⟩
  rw [← hf] at hk hk2 hn hlen hnd ⊢
  have e0 : nd (putN S.l f ⟨true, v, low, high, 0⟩) 0 = nd S.l 0 := by rw [hnd, if_neg (by omega)]
  have e1 : nd (putN S.l f ⟨true, v, low, high, 0⟩) 1 = nd S.l 1 := by rw [hnd, if_neg (by omega)]
  have keep : ∀ k, isB S.l k = true → nd (putN S.l f ⟨true, v, low, high, 0⟩) k = nd S.l k ∧ k ≠ f := fun k hb' => by
    have : k ≠ f := by intro e; rw [e, hn] at hb'; cases hb'
    exact ⟨by rw [hnd, if_neg this], this⟩
  have keepB : ∀ k, isB S.l k = true → isB (putN S.l f ⟨true, v, low, high, 0⟩) k = true := fun k hb' => by unfold isB; rw [(keep k hb').1]; exact hb'
  have back : ∀ k, k ≠ f → isB (putN S.l f ⟨true, v, low, high, 0⟩) k = true → isB S.l k = true := fun k hk hb => by unfold isB at hb ⊢; rwa [hnd, if_neg hk] at hb
  refine ⟨?_, h.v256, h.b2, h.bm, ?_, ?_, ?_, ?_, ?_, ?_, ?_⟩
  · show 2 ≤ (putN _ _ _).length
    rw [hlen]; have := h.two; split <;> omega
  · show (putN _ _ _).length ≤ S.budget
    rw [hlen]
    split
    · exact h.len
    · have hff : ff S.l = S.l.length := by rw [← hf]; omega
      have := cnt_full h.two h.is0 h.is1 hff
      omega
  · rw [e0]; exact h.z
  · rw [e1]; exact h.o
  · intro k h2 hb'
    by_cases e : k = f
    · subst e
      rw [hnd, if_pos rfl]
      refine ⟨hv, hne, keepB _ hl, keepB _ hh, ?_, ?_⟩
      · rw [(keep _ hl).1]; exact hvl
      · rw [(keep _ hh).1]; exact hvh
    · have hb0 := back k e hb'
      obtain ⟨a1, a2, a3, a4, a5, a6⟩ := h.kid k h2 hb0
      rw [hnd, if_neg e]
      exact ⟨a1, a2, keepB _ a3, keepB _ a4, by rw [(keep _ a3).1]; exact a5, by rw [(keep _ a4).1]; exact a6⟩
  · intro j k hj hk' bj bk he
    have hnew : ∀ i, 2 ≤ i → i ≠ f → isB (putN S.l f ⟨true, v, low, high, 0⟩) i = true → kyOf (nd (putN S.l f ⟨true, v, low, high, 0⟩) i) = ((v : Int), (low : Int), (high : Int)) → False := fun i h2 hi hb' he => by
      rw [hnd, if_neg hi] at he
      exact findK_none hno i ⟨h2, back i hi hb', he⟩
    by_cases ej : j = f
    · by_cases ek : k = f
      · rw [ej, ek]
      · exact (hnew k hk' ek bk (by rw [← he, ej, hnd, if_pos rfl]; rfl)).elim
    · by_cases ek : k = f
      · exact (hnew j hj ej bj (by rw [he, ek, hnd, if_pos rfl]; rfl)).elim
      · rw [hnd, hnd, if_neg ej, if_neg ek] at he
        exact h.once j k hj hk' (back j ej bj) (back k ek bk) he
  · intro k hb'
    by_cases e : k = f
    · subst e; unfold isB at hb'; rw [hnd, if_pos rfl] at hb'; cases hb'
    · unfold isB at hb'
      rw [hnd, if_neg e] at hb'
      show nd (putN S.l f _) k = _
      rw [hnd, if_neg e]
      exact h.gone k hb'
  · intro k
    show (nd (putN S.l f _) k).pins ≤ _
    rw [hnd]
    split
    · simp
    · exact h.pins k
end Go.Proofs.Ytdalnhhenahcjaa.NP
