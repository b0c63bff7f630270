/- Layer 3 in plain Lean: the nodes of a store (NS), what makes them well formed (Wf), Mk (mkS). 
 Layer 3 in plain Lean: pins (pinN), what a node says of values (den). 
 Layer 3 in plain Lean: what Mk puts: the free numbers behind it, the count. 
 Layer 3 in plain Lean: what a node is of (Rc), marked sets (Mk3). 
 Layer 3 in plain Lean: the sweep: what is swept behind a number (swp), the free numbers behind it (fr). 
 Layer 3 in plain Lean: what is kept (Ext), what Mk's node says, what says the same is one node (canon). -/

namespace Go.Proofs.YtobhjkfkdkiigaaGreatDoor.NP
/-- a node, or a place without one -/
structure Nd where
  is : Bool
  v : Nat
  low : Nat
  high : Nat
  pins : Nat
def Nd.no : Nd := ⟨false, 0, 0, 0, 0⟩
structure NS where
  vars : Nat
  budget : Nat
  l : List Nd
  made : Nat
  sweeps : Nat
abbrev Ky := Int × Int × Int
def nd (l : List Nd) (k : Nat) : Nd := l.getD k Nd.no
def isB (l : List Nd) (k : Nat) : Bool := (nd l k).is
def isK (l : List Nd) (k : Int) : Bool := decide (0 ≤ k) && isB l k.toNat
def cnt (l : List Nd) : Nat := l.countP (·.is)
def kyOf (x : Nd) : Ky := ((x.v : Int), (x.low : Int), (x.high : Int))
theorem nd_eq {l : List Nd} {k : Nat} {x : Nd} (h : l[k]? = some x) : nd l k = x := by simp [nd, h]
theorem nd_lt {l : List Nd} {k : Nat} (h : k < l.length) : l[k]? = some (nd l k) := by simp [nd, h]
theorem nd_ge {l : List Nd} {k : Nat} (h : l.length ≤ k) : nd l k = Nd.no := by simp [nd, h]
theorem isB_lt {l : List Nd} {k : Nat} (h : isB l k = true) : k < l.length := by
  rcases Nat.lt_or_ge k l.length with h1 | h1
  · exact h1
  · unfold isB at h; rw [nd_ge h1] at h; cases h
theorem isK_nat {l : List Nd} {k : Nat} : isK l (k : Int) = isB l k := by simp [isK]
theorem isK_out {l : List Nd} {k : Int} (h : isK l k = true) : ∃ n : Nat, k = (n : Int) ∧ isB l n = true := by
  unfold isK at h
  simp at h
  exact ⟨k.toNat, by omega, h.2⟩
theorem isK_neg {l : List Nd} {k : Int} (h : k < 0) : isK l k = false := by unfold isK; simp; omega

structure Wf (S : NS) : Prop where
  two : 2 ≤ S.l.length
  v256 : S.vars ≤ 256
  b2 : 2 ≤ S.budget
  bm : S.budget ≤ 1048576
  len : S.l.length ≤ S.budget
  z : ∃ p, nd S.l 0 = ⟨true, S.vars, 0, 0, p⟩
  o : ∃ p, nd S.l 1 = ⟨true, S.vars, 1, 1, p⟩
  kid : ∀ k, 2 ≤ k → isB S.l k = true → (nd S.l k).v < S.vars ∧ (nd S.l k).low ≠ (nd S.l k).high ∧ isB S.l (nd S.l k).low = true ∧ isB S.l (nd S.l k).high = true ∧ (nd S.l k).v < (nd S.l (nd S.l k).low).v ∧ (nd S.l k).v < (nd S.l (nd S.l k).high).v
  once : ∀ j k, 2 ≤ j → 2 ≤ k → isB S.l j = true → isB S.l k = true → kyOf (nd S.l j) = kyOf (nd S.l k) → j = k
  gone : ∀ k, isB S.l k = false → nd S.l k = Nd.no
  pins : ∀ k, (nd S.l k).pins ≤ 1073741824
theorem Wf.is0 {S : NS} (h : Wf S) : isB S.l 0 = true := by obtain ⟨p, h⟩ := h.z; unfold isB; rw [h]
theorem Wf.is1 {S : NS} (h : Wf S) : isB S.l 1 = true := by obtain ⟨p, h⟩ := h.o; unfold isB; rw [h]
theorem Wf.v0 {S : NS} (h : Wf S) : (nd S.l 0).v = S.vars := by obtain ⟨p, h⟩ := h.z; rw [h]
theorem Wf.v1 {S : NS} (h : Wf S) : (nd S.l 1).v = S.vars := by obtain ⟨p, h⟩ := h.o; rw [h]
theorem Wf.vle {S : NS} (h : Wf S) {k : Nat} (hk : isB S.l k = true) : (nd S.l k).v ≤ S.vars := by
  by_cases h2 : 2 ≤ k
  · exact Nat.le_of_lt (h.kid k h2 hk).1
  · have : k = 0 ∨ k = 1 := by omega
    rcases this with rfl | rfl
    · exact Nat.le_of_eq h.v0
    · exact Nat.le_of_eq h.v1
theorem Wf.lm {S : NS} (h : Wf S) : S.l.length ≤ 1048576 := Nat.le_trans h.len h.bm
theorem cnt_le (l : List Nd) : cnt l ≤ l.length := List.countP_le_length

/-! ### the first free number -/
def freeB (l : List Nd) (k : Nat) : Bool := decide (2 ≤ k) && !(nd l k).is
/-- the free numbers, rising -/
def frees (l : List Nd) : List Nat := (List.range l.length).filter (freeB l)
def ff (l : List Nd) : Nat := (frees l).headD l.length
theorem frees_mem (l : List Nd) (k : Nat) : k ∈ frees l ↔ 2 ≤ k ∧ k < l.length ∧ isB l k = false := by
  simp only [frees, freeB, isB, List.mem_filter, List.mem_range, Bool.and_eq_true, decide_eq_true_eq, Bool.not_eq_true']
  constructor
  · rintro ⟨a, b, c⟩; exact ⟨b, a, c⟩
  · rintro ⟨a, b, c⟩; exact ⟨b, a, c⟩
theorem ff_le (l : List Nd) : ff l ≤ l.length := by
  unfold ff
  cases h : frees l with
  | nil => simp
  | cons x t =>
    have : x ∈ frees l := by rw [h]; simp
    simp; have := (frees_mem l x).1 this; omega
theorem ff_free {l : List Nd} (h : ff l < l.length) : 2 ≤ ff l ∧ isB l (ff l) = false := by
  unfold ff at h ⊢
  cases hf : frees l with
  | nil => rw [hf] at h; simp at h
  | cons x t =>
    have : x ∈ frees l := by rw [hf]; simp
    have := (frees_mem l x).1 this
    simpa using ⟨this.1, this.2.2⟩
theorem ff_ge {l : List Nd} (h2 : 2 ≤ l.length) : 2 ≤ ff l := by
  rcases Nat.lt_or_ge (ff l) l.length with h | h
  · exact (ff_free h).1
  · omega
theorem ff_notB (l : List Nd) : isB l (ff l) = false ∨ ff l = l.length := by
  rcases Nat.lt_or_ge (ff l) l.length with h | h
  · exact .inl (ff_free h).2
  · exact .inr (by have := ff_le l; omega)
theorem ff_is (l : List Nd) : isB l (ff l) = false := by
  rcases ff_notB l with h | h
  · exact h
  · cases hb : isB l (ff l) with
    | false => rfl
    | true => have := isB_lt hb; omega
/-- l with another node under a number, or with one more -/
def putN (l : List Nd) (k : Nat) (x : Nd) : List Nd := if k < l.length then l.set k x else l ++ [x]
theorem nd_put {l : List Nd} {k : Nat} (hk : k ≤ l.length) (x : Nd) (j : Nat) : nd (putN l k x) j = if j = k then x else nd l j := by
  unfold putN nd
  by_cases h : k < l.length
  · rw [if_pos h]
    by_cases e : j = k
    · subst e; simp [h]
    · simp [e, List.getD_eq_getElem?_getD, List.getElem?_set_ne (Ne.symm e)]
  · rw [if_neg h]
    have hk' : k = l.length := by omega
    subst hk'
    by_cases e : j = l.length
    · subst e; simp
    · rw [if_neg e, List.getD_eq_getElem?_getD, List.getD_eq_getElem?_getD]
      rcases Nat.lt_or_ge j l.length with h1 | h1
      · rw [List.getElem?_append_left h1]
      · rw [List.getElem?_eq_none (by simp; omega), List.getElem?_eq_none h1]
theorem len_put {l : List Nd} {k : Nat} (_hk : k ≤ l.length) (x : Nd) : (putN l k x).length = if k < l.length then l.length else l.length + 1 := by
  unfold putN; split <;> simp
theorem cnt_set {l : List Nd} {k : Nat} (h : k < l.length) (x : Nd) : cnt (l.set k x) + (nd l k).is.toNat = cnt l + x.is.toNat := by
  unfold cnt
  induction l generalizing k with
  | nil => simp at h
  | cons y t ih =>
    cases k with
    | zero =>
      simp [nd, List.countP_cons]
      cases y.is <;> cases x.is <;> simp <;> omega
    | succ k =>
      have := ih (k := k) (by simpa using h)
      simp [List.countP_cons, nd] at this ⊢
      omega
theorem cnt_put {l : List Nd} {k : Nat} (_hk : k ≤ l.length) (h0 : isB l k = false) (x : Nd) (hx : x.is = true) : cnt (putN l k x) = cnt l + 1 := by
  unfold putN
  by_cases h : k < l.length
  · rw [if_pos h]
    have := cnt_set h x
    unfold isB at h0
    rw [h0, hx] at this; simpa using this
  · rw [if_neg h]; unfold cnt; rw [List.countP_append]; simp [hx]

/-! ### Mk -/
def findK (l : List Nd) (c : Ky) : Option Nat := (List.range l.length).find? fun k => decide (2 ≤ k) && (isB l k && decide (kyOf (nd l k) = c))
theorem findK_some {l : List Nd} {c : Ky} {k : Nat} (h : findK l c = some k) : 2 ≤ k ∧ isB l k = true ∧ kyOf (nd l k) = c := by
  have := List.find?_some h
  simpa using this
theorem findK_none {l : List Nd} {c : Ky} (h : findK l c = none) (k : Nat) : ¬ (2 ≤ k ∧ isB l k = true ∧ kyOf (nd l k) = c) := by
  rintro ⟨h1, h2, h3⟩
  have := List.find?_eq_none.1 h k (List.mem_range.2 (isB_lt h2))
  simp [h1, h2, h3] at this
theorem findK_of {S : NS} (hW : Wf S) {c : Ky} {k : Nat} (h : 2 ≤ k ∧ isB S.l k = true ∧ kyOf (nd S.l k) = c) : findK S.l c = some k := by
  cases hf : findK S.l c with
  | none => exact absurd h (findK_none hf k)
  | some j =>
    obtain ⟨h1, h2, h3⟩ := findK_some hf
    rw [hW.once j k h1 h.1 h2 h.2.1 (by rw [h3, h.2.2])]
def okMk (S : NS) (v low high : Int) : Bool := decide (0 ≤ v) && (decide (v < S.vars) && (isK S.l low && (isK S.l high && (decide (v < (nd S.l low.toNat).v) && decide (v < (nd S.l high.toNat).v)))))
def mkS (S : NS) (v low high : Int) : NS × Int × Int :=
  if okMk S v low high then
    if low = high then (S, low, 0) else
    match findK S.l (v, low, high) with
    | some k => (S, (k : Int), 0)
    | none =>
      if S.budget ≤ cnt S.l then (S, 0, 30) else
      ({ S with l := putN S.l (ff S.l) ⟨true, v.toNat, low.toNat, high.toNat, 0⟩, made := S.made + 1 }, (ff S.l : Int), 0)
  else (S, 0, 1)
theorem cnt_full {l : List Nd} (_h2 : 2 ≤ l.length) (h0 : isB l 0 = true) (h1 : isB l 1 = true) (hf : ff l = l.length) : cnt l = l.length := by
  unfold cnt
  rw [List.countP_eq_length]
  intro x hx
  obtain ⟨k, hk, rfl⟩ := List.getElem_of_mem hx
  have e : nd l k = l[k] := nd_eq (List.getElem?_eq_getElem hk)
  show l[k].is = true
  rw [← e]
  show isB l k = true
  rcases Nat.lt_or_ge k 2 with h | h
  · have : k = 0 ∨ k = 1 := by omega
    rcases this with rfl | rfl
    · exact h0
    · exact h1
  · cases hb : isB l k with
    | true => rfl
    | false =>
      have hm : k ∈ frees l := (frees_mem l k).2 ⟨h, hk, hb⟩
      unfold ff at hf
      cases hfr : frees l with
      | nil => rw [hfr] at hm; simp at hm
      | cons y t =>
        rw [hfr] at hf
        have : y ∈ frees l := by rw [hfr]; simp
        have := (frees_mem l y).1 this
        simp at hf; omega
/-- a new node put under the first free number -/
theorem Wf.put {S : NS} (h : Wf S) {v low high : Nat} (hv : v < S.vars) (hne : low ≠ high) (hl : isB S.l low = true) (hh : isB S.l high = true) (hvl : v < (nd S.l low).v) (hvh : v < (nd S.l high).v)
    (hno : findK S.l ((v : Int), (low : Int), (high : Int)) = none) (hb : cnt S.l < S.budget) (m : Nat) : Wf { S with l := putN S.l (ff S.l) ⟨true, v, low, high, 0⟩, made := m } := by
  have hk := ff_le S.l
  have hk2 := ff_ge h.two
  have hn := ff_is S.l
  have hlen := len_put hk ⟨true, v, low, high, 0⟩
  have hnd := nd_put hk ⟨true, v, low, high, 0⟩
  obtain ⟨f, hf⟩ : ∃ f, f = ff S.l := ⟨_, rfl⟩
  rw [← hf] at hk hk2 hn hlen hnd ⊢
  have e0 : nd (putN S.l f ⟨true, v, low, high, 0⟩) 0 = nd S.l 0 := by rw [hnd, if_neg (by omega)]
  have e1 : nd (putN S.l f ⟨true, v, low, high, 0⟩) 1 = nd S.l 1 := by rw [hnd, if_neg (by omega)]
  have keep : ∀ k, isB S.l k = true → nd (putN S.l f ⟨true, v, low, high, 0⟩) k = nd S.l k ∧ k ≠ f := fun k hb' => by
    have : k ≠ f := by intro e; rw [e, hn] at hb'; cases hb'
    exact ⟨by rw [hnd, if_neg this], this⟩
  have keepB : ∀ k, isB S.l k = true → isB (putN S.l f ⟨true, v, low, high, 0⟩) k = true := fun k hb' => by unfold isB; rw [(keep k hb').1]; exact hb'
  have back : ∀ k, k ≠ f → isB (putN S.l f ⟨true, v, low, high, 0⟩) k = true → isB S.l k = true := fun k hk hb => by unfold isB at hb ⊢; rwa [hnd, if_neg hk] at hb
  refine ⟨?_, h.v256, h.b2, h.bm, ?_, ?_, ?_, ?_, ?_, ?_, ?_⟩
  · show 2 ≤ (putN _ _ _).length
    rw [hlen]; have := h.two; split <;> omega
  · show (putN _ _ _).length ≤ S.budget
    rw [hlen]
    split
    · exact h.len
    · have hff : ff S.l = S.l.length := by rw [← hf]; omega
      have := cnt_full h.two h.is0 h.is1 hff
      omega
  · rw [e0]; exact h.z
  · rw [e1]; exact h.o
  · intro k h2 hb'
    by_cases e : k = f
    · subst e
      rw [hnd, if_pos rfl]
      refine ⟨hv, hne, keepB _ hl, keepB _ hh, ?_, ?_⟩
      · rw [(keep _ hl).1]; exact hvl
      · rw [(keep _ hh).1]; exact hvh
    · have hb0 := back k e hb'
      obtain ⟨a1, a2, a3, a4, a5, a6⟩ := h.kid k h2 hb0
      rw [hnd, if_neg e]
      exact ⟨a1, a2, keepB _ a3, keepB _ a4, by rw [(keep _ a3).1]; exact a5, by rw [(keep _ a4).1]; exact a6⟩
  · intro j k hj hk' bj bk he
    have hnew : ∀ i, 2 ≤ i → i ≠ f → isB (putN S.l f ⟨true, v, low, high, 0⟩) i = true → kyOf (nd (putN S.l f ⟨true, v, low, high, 0⟩) i) = ((v : Int), (low : Int), (high : Int)) → False := fun i h2 hi hb' he => by
      rw [hnd, if_neg hi] at he
      exact findK_none hno i ⟨h2, back i hi hb', he⟩
    by_cases ej : j = f
    · by_cases ek : k = f
      · rw [ej, ek]
      · exact (hnew k hk' ek bk (by rw [← he, ej, hnd, if_pos rfl]; rfl)).elim
    · by_cases ek : k = f
      · exact (hnew j hj ej bj (by rw [he, ek, hnd, if_pos rfl]; rfl)).elim
      · rw [hnd, hnd, if_neg ej, if_neg ek] at he
        exact h.once j k hj hk' (back j ej bj) (back k ek bk) he
  · intro k hb'
    by_cases e : k = f
    · subst e; unfold isB at hb'; rw [hnd, if_pos rfl] at hb'; cases hb'
    · unfold isB at hb'
      rw [hnd, if_neg e] at hb'
      show nd (putN S.l f _) k = _
      rw [hnd, if_neg e]
      exact h.gone k hb'
  · intro k
    show (nd (putN S.l f _) k).pins ≤ _
    rw [hnd]
    split
    · simp
    · exact h.pins k
end Go.Proofs.YtobhjkfkdkiigaaGreatDoor.NP

namespace Go.Proofs.YtobhjkfkdkiigaaGreatDoor.NP
/-- l with other pins under a number -/
def pinN (l : List Nd) (m n : Nat) : List Nd := l.set m { nd l m with pins := n }
theorem len_pin (l : List Nd) (m n : Nat) : (pinN l m n).length = l.length := by simp [pinN]
theorem nd_pin {l : List Nd} {m : Nat} (h : m < l.length) (n j : Nat) : nd (pinN l m n) j = if j = m then { nd l m with pins := n } else nd l j := by
  have := nd_put (Nat.le_of_lt h) { nd l m with pins := n } j
  unfold putN at this
  rwa [if_pos h] at this
/-- two lists of nodes that are alike but for pins -/
structure Alk (l l' : List Nd) : Prop where
  len : l'.length = l.length
  is : ∀ k, isB l' k = isB l k
  v : ∀ k, (nd l' k).v = (nd l k).v
  low : ∀ k, (nd l' k).low = (nd l k).low
  high : ∀ k, (nd l' k).high = (nd l k).high
theorem Alk.pin {l : List Nd} {m : Nat} (h : m < l.length) (n : Nat) : Alk l (pinN l m n) := by
  refine ⟨len_pin _ _ _, fun k => ?_, fun k => ?_, fun k => ?_, fun k => ?_⟩
  all_goals
    try unfold isB
    rw [nd_pin h]
    split
    · subst_vars; rfl
    · rfl
theorem Alk.ky {l l' : List Nd} (h : Alk l l') (k : Nat) : kyOf (nd l' k) = kyOf (nd l k) := by unfold kyOf; rw [h.v, h.low, h.high]
theorem Alk.frees {l l' : List Nd} (h : Alk l l') : frees l' = frees l := by
  unfold NP.frees
  rw [h.len]
  congr 1
  funext k
  unfold freeB
  have := h.is k
  unfold isB at this
  rw [this]
theorem Alk.cnt {l l' : List Nd} (h : Alk l l') : cnt l' = cnt l := by
  have e : ∀ l : List Nd, NP.cnt l = (List.range l.length).countP (isB l) := fun l => by
    unfold NP.cnt
    induction l with
    | nil => rfl
    | cons x t ih =>
      rw [List.countP_cons, ih, List.length_cons, List.range_succ_eq_map, List.countP_cons, List.countP_map]
      rfl
  rw [e, e, h.len]
  congr 1
  funext k
  exact h.is k
theorem Wf.alk {S : NS} (hW : Wf S) {l' : List Nd} (h : Alk S.l l') (hp : ∀ k, (nd l' k).pins ≤ 1073741824) (hno : ∀ k, isB S.l k = false → nd l' k = Nd.no) : Wf { S with l := l' } := by
  refine ⟨by show 2 ≤ l'.length; rw [h.len]; exact hW.two, hW.v256, hW.b2, hW.bm, by show l'.length ≤ _; rw [h.len]; exact hW.len, ?_, ?_, fun k h2 hk => ?_, fun j k hj hk bj bk he => ?_, fun k hk => ?_, hp⟩
  · obtain ⟨p, hz⟩ := hW.z
    refine ⟨(nd l' 0).pins, ?_⟩
    show nd l' 0 = _
    have a := h.is 0; have b := h.v 0; have c := h.low 0; have d := h.high 0
    unfold isB at a
    rw [hz] at a b c d
    cases hx : nd l' 0; rw [hx] at a b c d; simp_all
  · obtain ⟨p, hz⟩ := hW.o
    refine ⟨(nd l' 1).pins, ?_⟩
    show nd l' 1 = _
    have a := h.is 1; have b := h.v 1; have c := h.low 1; have d := h.high 1
    unfold isB at a
    rw [hz] at a b c d
    cases hx : nd l' 1; rw [hx] at a b c d; simp_all
  · rw [h.is] at hk
    rw [h.v, h.low, h.high, h.is, h.is, h.v, h.v]
    exact hW.kid k h2 hk
  · rw [h.is] at bj bk
    rw [h.ky, h.ky] at he
    exact hW.once j k hj hk bj bk he
  · rw [h.is] at hk; exact hno k hk
theorem Wf.pin {S : NS} (hW : Wf S) {m : Nat} (hm : isB S.l m = true) {n : Nat} (hn : n ≤ 1073741824) : Wf { S with l := pinN S.l m n } := by
  have hl := isB_lt hm
  refine hW.alk (Alk.pin hl n) (fun k => ?_) (fun k hk => ?_)
  · rw [nd_pin hl]; split
    · exact hn
    · exact hW.pins k
  · rw [nd_pin hl, if_neg (by rintro rfl; rw [hm] at hk; cases hk)]; exact hW.gone k hk

/-! ### what a node says of values -/
def denF (l : List Nd) (ρ : Nat → Bool) : Nat → Nat → Bool
  | 0, k => k == 1
  | f + 1, k => if k < 2 then k == 1 else denF l ρ f (if ρ (nd l k).v then (nd l k).high else (nd l k).low)
def den (l : List Nd) (ρ : Nat → Bool) (k : Nat) : Bool := denF l ρ 257 k
/-- where a node goes on -/
def nxt (l : List Nd) (ρ : Nat → Bool) (k : Nat) : Nat := if ρ (nd l k).v then (nd l k).high else (nd l k).low
theorem Wf.nxt {S : NS} (h : Wf S) {k : Nat} (h2 : 2 ≤ k) (hk : isB S.l k = true) (ρ : Nat → Bool) : isB S.l (nxt S.l ρ k) = true ∧ (nd S.l k).v < (nd S.l (nxt S.l ρ k)).v := by
  obtain ⟨_, _, a, b, c, d⟩ := h.kid k h2 hk
  unfold NP.nxt
  split
  · exact ⟨b, d⟩
  · exact ⟨a, c⟩
theorem denF_fuel {S : NS} (h : Wf S) (ρ : Nat → Bool) : ∀ (f g k : Nat), isB S.l k = true → S.vars - (nd S.l k).v ≤ f → S.vars - (nd S.l k).v ≤ g → denF S.l ρ f k = denF S.l ρ g k := by
  have leaf : ∀ f k, k < 2 → denF S.l ρ f k = (k == 1) := fun f k hk => by
    cases f with
    | zero => rfl
    | succ f => rw [denF, if_pos hk]
  intro f
  induction f with
  | zero =>
    intro g k hk hf _
    have : k < 2 := by
      rcases Nat.lt_or_ge k 2 with h2 | h2
      · exact h2
      · have := (h.kid k h2 hk).1; omega
    rw [leaf _ _ this, leaf _ _ this]
  | succ f ih =>
    intro g k hk hf hg
    rcases Nat.lt_or_ge k 2 with h2 | h2
    · rw [leaf _ _ h2, leaf _ _ h2]
    · have hv := (h.kid k h2 hk).1
      cases g with
      | zero => omega
      | succ g =>
        have h2' : ¬ k < 2 := by omega
        rw [denF, denF, if_neg h2', if_neg h2']
        obtain ⟨a, b⟩ := h.nxt h2 hk ρ
        exact ih g (NP.nxt S.l ρ k) a (by omega) (by omega)
theorem den_leaf (l : List Nd) (ρ : Nat → Bool) {k : Nat} (hk : k < 2) : den l ρ k = (k == 1) := by unfold den; rw [denF, if_pos hk]
theorem den_step {S : NS} (h : Wf S) (ρ : Nat → Bool) {k : Nat} (h2 : 2 ≤ k) (hk : isB S.l k = true) : den S.l ρ k = den S.l ρ (nxt S.l ρ k) := by
  have e : den S.l ρ k = denF S.l ρ 256 (nxt S.l ρ k) := by unfold den; rw [denF, if_neg (by omega)]; rfl
  obtain ⟨a, _⟩ := h.nxt h2 hk ρ
  have := h.v256
  rw [e]
  exact denF_fuel h ρ _ _ _ a (by omega) (by omega)
def rho (vals : List Bool) (i : Nat) : Bool := vals.getD i false
end Go.Proofs.YtobhjkfkdkiigaaGreatDoor.NP

namespace Go.Proofs.YtobhjkfkdkiigaaGreatDoor.NP
theorem frees_put {l : List Nd} (x : Nd) (hx : x.is = true) : frees (putN l (ff l) x) = (frees l).tail := by
  cases hf : frees l with
  | nil =>
    have e : ff l = l.length := by unfold ff; rw [hf]; rfl
    rw [e]
    apply List.eq_nil_iff_forall_not_mem.2
    intro k hk
    obtain ⟨h2, hlt, hb⟩ := (frees_mem _ k).1 hk
    unfold isB at hb
    rw [nd_put (Nat.le_refl _)] at hb
    by_cases ek : k = l.length
    · rw [if_pos ek, hx] at hb; cases hb
    · rw [if_neg ek] at hb
      rw [len_put (Nat.le_refl _), if_neg (Nat.lt_irrefl _)] at hlt
      have : k ∈ frees l := (frees_mem _ k).2 ⟨h2, by omega, hb⟩
      rw [hf] at this; cases this
  | cons f t =>
    have e : ff l = f := by unfold ff; rw [hf]; rfl
    have hm : f ∈ frees l := by rw [hf]; simp
    obtain ⟨h2, hlt, hb⟩ := (frees_mem _ f).1 hm
    rw [e]
    have hnd : (frees l).Nodup := List.Pairwise.filter _ List.nodup_range
    have h3 : frees (putN l f x) = (frees l).filter (fun k => decide (k ≠ f)) := by
      unfold frees
      rw [len_put (Nat.le_of_lt hlt), if_pos hlt, List.filter_filter]
      apply List.filter_congr
      intro k _
      unfold freeB
      rw [nd_put (Nat.le_of_lt hlt)]
      by_cases ek : k = f
      · rw [if_pos ek, hx]; simp [ek]
      · rw [if_neg ek]; simp [ek]
    rw [h3, hf]
    rw [hf, List.nodup_cons] at hnd
    rw [List.filter_cons, if_neg (by simp)]
    show t.filter _ = t
    apply List.filter_eq_self.2
    intro k hk
    have : k ≠ f := by rintro rfl; exact hnd.1 hk
    simpa using this
theorem cnt_two {S : NS} (h : Wf S) : 2 ≤ cnt S.l := by
  have h0 := h.is0
  have h1 := h.is1
  have h2 := h.two
  match hl : S.l with
  | [] => rw [hl] at h2; simp at h2
  | [_] => rw [hl] at h2; simp at h2
  | a :: b :: t =>
    rw [hl] at h0 h1
    simp [isB, nd] at h0 h1
    simp [cnt, h0, h1]
end Go.Proofs.YtobhjkfkdkiigaaGreatDoor.NP

namespace Go.Proofs.YtobhjkfkdkiigaaGreatDoor.NP
/-- node j is of node k -/
inductive Rc (l : List Nd) : Nat → Nat → Prop
  | here (k : Nat) : Rc l k k
  | low {k j : Nat} : 2 ≤ k → Rc l (nd l k).low j → Rc l k j
  | high {k j : Nat} : 2 ≤ k → Rc l (nd l k).high j → Rc l k j
/-- a set of nodes that has, of each that asks a variable from v on, what it goes on to -/
structure Cl (S : NS) (s : Nat → Bool) (v : Nat) : Prop where
  is : ∀ j, s j = true → isB S.l j = true
  kids : ∀ j, s j = true → 2 ≤ j → v ≤ (nd S.l j).v → s (nd S.l j).low = true ∧ s (nd S.l j).high = true
theorem Rc.isB {S : NS} (h : Wf S) {k j : Nat} (hr : Rc S.l k j) : isB S.l k = true → isB S.l j = true := by
  induction hr with
  | here => exact id
  | low h2 _ ih => exact fun hk => ih (h.kid _ h2 hk).2.2.1
  | high h2 _ ih => exact fun hk => ih (h.kid _ h2 hk).2.2.2.1
theorem Rc.trans {l : List Nd} {a b c : Nat} (h : Rc l a b) (k : Rc l b c) : Rc l a c := by
  induction h with
  | here => exact k
  | low h2 _ ih => exact .low h2 (ih k)
  | high h2 _ ih => exact .high h2 (ih k)
/-- what is of a marked node is marked -/
theorem Cl.rc {S : NS} (hW : Wf S) {s : Nat → Bool} {v : Nat} (h : Cl S s v) {k j : Nat} (hr : Rc S.l k j) : s k = true → v ≤ (nd S.l k).v → s j = true := by
  induction hr with
  | here => exact fun a _ => a
  | low h2 _ ih =>
    intro hs hv
    obtain ⟨a, _⟩ := h.kids _ hs h2 hv
    have := (hW.kid _ h2 (h.is _ hs)).2.2.2.2.1
    exact ih a (by omega)
  | high h2 _ ih =>
    intro hs hv
    obtain ⟨_, a⟩ := h.kids _ hs h2 hv
    have := (hW.kid _ h2 (h.is _ hs)).2.2.2.2.2
    exact ih a (by omega)
/-- s' is s with all that k is of -/
def Adds (l : List Nd) (k : Nat) (s s' : Nat → Bool) : Prop := ∀ j, s' j = true ↔ s j = true ∨ Rc l k j
def setB (s : Nat → Bool) (k : Nat) : Nat → Bool := fun j => s j || j == k
theorem Adds.cl {S : NS} (hW : Wf S) {k v : Nat} {s s' : Nat → Bool} (ha : Adds S.l k s s') (hk : NP.isB S.l k = true) (h : Cl S s v) : Cl S s' v := by
  refine ⟨fun j hj => ?_, fun j hj h2 hv => ?_⟩
  · rcases (ha j).1 hj with h1 | h1
    · exact h.is j h1
    · exact h1.isB hW hk
  · rcases (ha j).1 hj with h1 | h1
    · obtain ⟨a, b⟩ := h.kids j h1 h2 hv
      exact ⟨(ha _).2 (.inl a), (ha _).2 (.inl b)⟩
    · exact ⟨(ha _).2 (.inr (h1.trans (.low h2 (.here _)))), (ha _).2 (.inr (h1.trans (.high h2 (.here _))))⟩
/-- k marked already -/
theorem Adds.same {S : NS} (hW : Wf S) {k : Nat} {s : Nat → Bool} (h : Cl S s (nd S.l k).v) (hk : s k = true) : Adds S.l k s s := fun _ =>
  ⟨fun a => .inl a, fun a => a.elim id fun b => h.rc hW b hk (Nat.le_refl _)⟩
/-- a leaf -/
theorem Adds.leaf {S : NS} {k : Nat} {s : Nat → Bool} (hk : k < 2) : Adds S.l k s (setB s k) := fun j => by
  unfold setB
  constructor
  · intro h
    simp at h
    rcases h with h | h
    · exact .inl h
    · subst h; exact .inr (.here _)
  · rintro (h | h)
    · simp [h]
    · cases h with
      | here => simp
      | low h2 _ => omega
      | high h2 _ => omega
theorem Cl.mark {S : NS} {k v : Nat} {s : Nat → Bool} (h : Cl S s (nd S.l k).v) (hk : NP.isB S.l k = true) (hv : (nd S.l k).v < v) : Cl S (setB s k) v := by
  refine ⟨fun j hj => ?_, fun j hj h2 hvj => ?_⟩
  · unfold setB at hj
    simp at hj
    rcases hj with hj | rfl
    · exact h.is j hj
    · exact hk
  · have hne : j ≠ k := by rintro rfl; omega
    unfold setB at hj ⊢
    simp [hne] at hj
    obtain ⟨a, b⟩ := h.kids j hj h2 (by omega)
    simp [a, b]
/-- k, then its low, then its high -/
theorem Adds.node {S : NS} {k : Nat} {s s2 s3 : Nat → Bool} (h2 : 2 ≤ k) (ha : Adds S.l (nd S.l k).low (setB s k) s2) (hb : Adds S.l (nd S.l k).high s2 s3) : Adds S.l k s s3 := fun j => by
  rw [hb j, ha j]
  unfold setB
  constructor
  · rintro ((h | h) | h)
    · simp at h
      rcases h with h | rfl
      · exact .inl h
      · exact .inr (.here _)
    · exact .inr (.low h2 h)
    · exact .inr (.high h2 h)
  · rintro (h | h)
    · exact .inl (.inl (by simp [h]))
    · cases h with
      | here => exact .inl (.inl (by simp))
      | low _ h => exact .inl (.inr h)
      | high _ h => exact .inr h
/-- how many are marked -/
def cntS (s : Nat → Bool) (n : Nat) : Nat := (List.range n).countP s
theorem cntS_set {s : Nat → Bool} {n k : Nat} (hk : k < n) (h0 : s k = false) : cntS (setB s k) n = cntS s n + 1 := by
  unfold cntS
  induction n with
  | zero => omega
  | succ n ih =>
    rw [List.range_succ, List.countP_append, List.countP_append]
    by_cases e : k = n
    · subst e
      have : (List.range k).countP (setB s k) = (List.range k).countP s := by
        apply List.countP_congr
        intro j hj
        have : j ≠ k := by have := List.mem_range.1 hj; omega
        simp [setB, this]
      rw [this]
      simp [setB, h0]
    · rw [ih (by omega)]
      have : setB s k n = s n := by simp [setB, Ne.symm e]
      simp [List.countP_cons, this]; omega
theorem cntS_le (s : Nat → Bool) (n : Nat) : cntS s n ≤ n := by unfold cntS; exact Nat.le_trans List.countP_le_length (by simp)
theorem cntS_congr {s s' : Nat → Bool} (n : Nat) (h : ∀ j, s j = true ↔ s' j = true) : cntS s n = cntS s' n := by
  unfold cntS
  apply List.countP_congr
  intro j _
  exact h j
end Go.Proofs.YtobhjkfkdkiigaaGreatDoor.NP

namespace Go.Proofs.YtobhjkfkdkiigaaGreatDoor.NP
def rootB (l : List Nd) (k : Nat) : Bool := decide (k < 2) || (isB l k && decide (0 < (nd l k).pins))
/-- s are the nodes that the roots below n are of -/
def MarkedTo (l : List Nd) (n : Nat) (s : Nat → Bool) : Prop := ∀ j, s j = true ↔ ∃ i, i < n ∧ rootB l i = true ∧ Rc l i j
def swp (l : List Nd) (s : Nat → Bool) (k : Nat) : List Nd := (List.range l.length).map fun j => if decide (k < j) && !s j then Nd.no else nd l j
theorem len_swp (l : List Nd) (s : Nat → Bool) (k : Nat) : (swp l s k).length = l.length := by simp [swp]
theorem nd_swp (l : List Nd) (s : Nat → Bool) (k j : Nat) : nd (swp l s k) j = if decide (k < j) && !s j then Nd.no else nd l j := by
  rcases Nat.lt_or_ge j l.length with h | h
  · exact nd_eq (by simp [swp, h])
  · rw [nd_ge (by rw [len_swp]; exact h), nd_ge h]; split <;> rfl
theorem list_nd {l l' : List Nd} (h : l.length = l'.length) (hn : ∀ j, nd l j = nd l' j) : l = l' := by
  apply List.ext_getElem?
  intro j
  rcases Nat.lt_or_ge j l.length with h1 | h1
  · rw [nd_lt h1, nd_lt (by omega), hn]
  · rw [List.getElem?_eq_none h1, List.getElem?_eq_none (by omega)]
theorem swp_all {l : List Nd} (s : Nat → Bool) {k : Nat} (hk : l.length ≤ k + 1) : swp l s k = l := by
  apply list_nd (len_swp _ _ _)
  intro j
  rw [nd_swp]
  rcases Nat.lt_or_ge k j with h | h
  · rw [nd_ge (show l.length ≤ j by omega)]; split <;> rfl
  · rw [if_neg (by simp; omega)]
theorem swp_clear {l : List Nd} {s : Nat → Bool} {k : Nat} (hk : 1 ≤ k) (hl : k < l.length) (hs : s k = false) : swp l s (k - 1) = (swp l s k).set k Nd.no := by
  apply list_nd (by rw [len_swp, List.length_set, len_swp])
  intro j
  have h1 := nd_put (l := swp l s k) (k := k) (by rw [len_swp]; omega) Nd.no j
  unfold putN at h1
  rw [if_pos (by rw [len_swp]; exact hl)] at h1
  rw [h1, nd_swp, nd_swp]
  by_cases e : j = k
  · subst e; rw [if_pos rfl, if_pos (by simp [hs]; omega)]
  · rw [if_neg e]
    have : decide (k - 1 < j) = decide (k < j) := by
      rcases Nat.lt_or_ge k j with h | h
      · rw [decide_eq_true h, decide_eq_true (by omega)]
      · rw [decide_eq_false (by omega), decide_eq_false (by omega)]
    rw [this]
theorem swp_stay {l : List Nd} {s : Nat → Bool} {k : Nat} (hk : 1 ≤ k) (h : s k = true ∨ nd l k = Nd.no) : swp l s (k - 1) = swp l s k := by
  apply list_nd (by rw [len_swp, len_swp])
  intro j
  rw [nd_swp, nd_swp]
  by_cases e : j = k
  · subst e
    rcases h with h | h
    · rw [if_neg (by simp [h]), if_neg (by simp [h])]
    · rw [h]; split <;> split <;> rfl
  · have : decide (k - 1 < j) = decide (k < j) := by
      rcases Nat.lt_or_ge k j with h | h
      · rw [decide_eq_true h, decide_eq_true (by omega)]
      · rw [decide_eq_false (by omega), decide_eq_false (by omega)]
    rw [this]
def fr (l : List Nd) (s : Nat → Bool) (k : Nat) : List Nat := (List.range l.length).filter fun j => decide (k < j) && !(isB l j && s j)
theorem filter_range_cons (P Q : Nat → Bool) (k : Nat) (hP : ∀ j, P j = (Q j || (decide (j = k) && P k))) (hQ : ∀ j, Q j = true → k < j) : ∀ n, (List.range n).filter P = if decide (k < n) && P k then k :: (List.range n).filter Q else (List.range n).filter Q
  | 0 => by simp
  | n + 1 => by
    have ih := filter_range_cons P Q k hP hQ n
    have hQe : n ≤ k → (List.range n).filter Q = [] := fun h => List.filter_eq_nil_iff.2 fun j hj => by
      have := List.mem_range.1 hj
      intro hq
      have := hQ j hq; omega
    rw [List.range_succ, List.filter_append, List.filter_append, ih]
    rcases Nat.lt_trichotomy n k with h | h | h
    · rw [if_neg (by simp; omega), if_neg (by simp; omega)]
      have hp : P n = Q n := by rw [hP n, decide_eq_false (by omega)]; simp
      simp [List.filter_cons, hp]
    · subst h
      have hq : Q n = false := by
        cases hx : Q n with
        | false => rfl
        | true => have := hQ n hx; omega
      rw [if_neg (by simp), hQe (Nat.le_refl _)]
      simp [List.filter_cons, hq]
    · have hp : P n = Q n := by rw [hP n, decide_eq_false (by omega)]; simp
      have : decide (k < n + 1) = decide (k < n) := by rw [decide_eq_true (by omega), decide_eq_true h]
      rw [this]
      simp only [List.filter_cons, hp, List.filter_nil]
      split <;> simp
theorem fr_step {l : List Nd} {s : Nat → Bool} {k : Nat} (hk : 1 ≤ k) (hl : k < l.length) : fr l s (k - 1) = if !(isB l k && s k) then k :: fr l s k else fr l s k := by
  have := filter_range_cons (fun j => decide (k - 1 < j) && !(isB l j && s j)) (fun j => decide (k < j) && !(isB l j && s j)) k (fun j => by
    by_cases e : j = k
    · subst e
      simp
    · have : decide (k - 1 < j) = decide (k < j) := by
        rcases Nat.lt_or_ge k j with h | h
        · rw [decide_eq_true h, decide_eq_true (by omega)]
        · rw [decide_eq_false (by omega), decide_eq_false (by omega)]
      simp [this, e]) (fun j hj => by simp at hj; exact hj.1) l.length
  unfold fr
  rw [this]
  have e1 : decide (k < l.length) = true := decide_eq_true hl
  have e2 : decide (k - 1 < k) = true := decide_eq_true (by omega)
  simp [e1, e2]
theorem fr_all {l : List Nd} (s : Nat → Bool) {k : Nat} (hk : l.length ≤ k + 1) : fr l s k = [] := List.filter_eq_nil_iff.2 fun j hj => by
  have := List.mem_range.1 hj
  simp; omega
theorem isB_swp (l : List Nd) (s : Nat → Bool) (k j : Nat) : isB (swp l s k) j = if decide (k < j) && !s j then false else isB l j := by
  unfold isB; rw [nd_swp]; split <;> rfl
theorem fr_end (l : List Nd) (s : Nat → Bool) : fr l s 1 = frees (swp l s 1) := by
  unfold fr frees
  rw [len_swp]
  apply List.filter_congr
  intro j _
  unfold freeB
  have := isB_swp l s 1 j
  unfold isB at this ⊢
  rw [this]
  by_cases h : 1 < j
  · have h2 : 2 ≤ j := h
    cases hs : s j <;> simp [h, h2]
  · have h2 : ¬ 2 ≤ j := h
    simp [h, h2]
theorem cnt_clear {l : List Nd} {s : Nat → Bool} {k : Nat} (hl : k < l.length) (hb : isB (swp l s k) k = true) : cnt ((swp l s k).set k Nd.no) + 1 = cnt (swp l s k) := by
  have := cnt_set (l := swp l s k) (k := k) (by rw [len_swp]; exact hl) Nd.no
  unfold isB at hb
  rw [hb] at this
  simp [Nd.no] at this ⊢
  omega
theorem MarkedTo.cl {S : NS} (h : Wf S) {n : Nat} {s : Nat → Bool} (hm : MarkedTo S.l n s) : Cl S s 0 := by
  have hroot : ∀ i, rootB S.l i = true → isB S.l i = true := fun i hi => by
    unfold rootB at hi
    simp at hi
    rcases hi with hi | hi
    · have : i = 0 ∨ i = 1 := by omega
      rcases this with rfl | rfl
      · exact h.is0
      · exact h.is1
    · exact hi.1
  refine ⟨fun j hj => ?_, fun j hj h2 _ => ?_⟩
  · obtain ⟨i, _, hi, hr⟩ := (hm j).1 hj
    exact hr.isB h (hroot i hi)
  · obtain ⟨i, hl, hi, hr⟩ := (hm j).1 hj
    exact ⟨(hm _).2 ⟨i, hl, hi, hr.trans (.low h2 (.here _))⟩, (hm _).2 ⟨i, hl, hi, hr.trans (.high h2 (.here _))⟩⟩
theorem MarkedTo.zero (l : List Nd) : MarkedTo l 0 (fun _ => false) := fun j => ⟨(fun h => by cases h), (fun ⟨i, h, _⟩ => by omega)⟩
theorem MarkedTo.next {l : List Nd} {n : Nat} {s s' : Nat → Bool} (h : MarkedTo l n s) (hr : rootB l n = true) (ha : Adds l n s s') : MarkedTo l (n + 1) s' := fun j => by
  rw [ha j, h j]
  constructor
  · rintro (⟨i, h1, h2⟩ | h1)
    · exact ⟨i, by omega, h2⟩
    · exact ⟨n, by omega, hr, h1⟩
  · rintro ⟨i, h1, h2, h3⟩
    by_cases e : i = n
    · subst e; exact .inr h3
    · exact .inl ⟨i, by omega, h2, h3⟩
theorem MarkedTo.skip {l : List Nd} {n : Nat} {s : Nat → Bool} (h : MarkedTo l n s) (hr : rootB l n = false) : MarkedTo l (n + 1) s := fun j => by
  rw [h j]
  constructor
  · rintro ⟨i, h1, h2⟩; exact ⟨i, by omega, h2⟩
  · rintro ⟨i, h1, h2, h3⟩
    by_cases e : i = n
    · subst e; rw [hr] at h2; cases h2
    · exact ⟨i, by omega, h2, h3⟩
theorem Marked.low {S : NS} (h : Wf S) {s : Nat → Bool} (hm : MarkedTo S.l S.l.length s) {k : Nat} (hk : k < 2) : s k = true :=
  (hm k).2 ⟨k, by have := h.two; omega, by unfold rootB; simp [hk], .here _⟩
/-- a swept store -/
theorem Wf.sweep {S : NS} (h : Wf S) {s : Nat → Bool} (hm : MarkedTo S.l S.l.length s) (n : Nat) : Wf { S with l := swp S.l s 1, sweeps := n } := by
  have hc := hm.cl h
  have hkeep : ∀ j, s j = true → nd (swp S.l s 1) j = nd S.l j := fun j hj => by rw [nd_swp, if_neg (by simp [hj])]
  have hback : ∀ j, isB (swp S.l s 1) j = true → s j = true ∧ isB S.l j = true := fun j hj => by
    rw [isB_swp] at hj
    split at hj
    · cases hj
    · rename_i hx
      refine ⟨?_, hj⟩
      simp at hx
      rcases Nat.lt_or_ge 1 j with h1 | h1
      · exact hx h1
      · exact Marked.low h hm (by omega)
  refine ⟨by show 2 ≤ (swp _ _ _).length; rw [len_swp]; exact h.two, h.v256, h.b2, h.bm, by show (swp _ _ _).length ≤ _; rw [len_swp]; exact h.len, ?_, ?_, fun k h2 hk => ?_, fun j k hj hk bj bk he => ?_, fun k hk => ?_, fun k => ?_⟩
  · rw [hkeep 0 (Marked.low h hm (by omega))]; exact h.z
  · rw [hkeep 1 (Marked.low h hm (by omega))]; exact h.o
  · obtain ⟨hs, hb⟩ := hback k hk
    obtain ⟨s1, s2⟩ := hc.kids k hs h2 (Nat.zero_le _)
    obtain ⟨a1, a2, a3, a4, a5, a6⟩ := h.kid k h2 hb
    show (nd (swp S.l s 1) k).v < _ ∧ _
    rw [hkeep k hs]
    refine ⟨a1, a2, ?_, ?_, ?_, ?_⟩
    · show isB (swp S.l s 1) _ = true
      unfold isB; rw [hkeep _ s1]; exact a3
    · show isB (swp S.l s 1) _ = true
      unfold isB; rw [hkeep _ s2]; exact a4
    · show _ < (nd (swp S.l s 1) _).v
      rw [hkeep _ s1]; exact a5
    · show _ < (nd (swp S.l s 1) _).v
      rw [hkeep _ s2]; exact a6
  · obtain ⟨sj, bj'⟩ := hback j bj
    obtain ⟨sk, bk'⟩ := hback k bk
    have he' : kyOf (nd (swp S.l s 1) j) = kyOf (nd (swp S.l s 1) k) := he
    rw [hkeep j sj, hkeep k sk] at he'
    exact h.once j k hj hk bj' bk' he'
  · show nd (swp S.l s 1) k = Nd.no
    have hk' : isB (swp S.l s 1) k = false := hk
    rw [isB_swp] at hk'
    rw [nd_swp]
    split
    · rfl
    · rename_i hx
      rw [if_neg hx] at hk'
      exact h.gone k hk'
  · show (nd (swp S.l s 1) k).pins ≤ _
    rw [nd_swp]
    split
    · exact Nat.zero_le _
    · exact h.pins k
end Go.Proofs.YtobhjkfkdkiigaaGreatDoor.NP

namespace Go.Proofs.YtobhjkfkdkiigaaGreatDoor.NP
/-- S' has all nodes of S as they were -/
structure Ext (S S' : NS) : Prop where
  vars : S'.vars = S.vars
  budget : S'.budget = S.budget
  nds : ∀ k, isB S.l k = true → nd S'.l k = nd S.l k
theorem Ext.refl (S : NS) : Ext S S := ⟨rfl, rfl, fun _ _ => rfl⟩
theorem Ext.isB {S S' : NS} (h : Ext S S') {k : Nat} (hk : isB S.l k = true) : NP.isB S'.l k = true := by unfold NP.isB; rw [h.nds k hk]; exact hk
theorem Ext.trans {A B C : NS} (h : Ext A B) (k : Ext B C) : Ext A C := ⟨k.vars.trans h.vars, k.budget.trans h.budget, fun j hj => (k.nds j (h.isB hj)).trans (h.nds j hj)⟩
theorem Ext.den {S S' : NS} (h : Ext S S') (hW : Wf S) (hW' : Wf S') (ρ : Nat → Bool) : ∀ (f k : Nat), NP.isB S.l k = true → S.vars - (nd S.l k).v < f → NP.den S'.l ρ k = NP.den S.l ρ k
  | 0, k, _, hf => by omega
  | f + 1, k, hk, hf => by
    rcases Nat.lt_or_ge k 2 with h2 | h2
    · rw [den_leaf _ _ h2, den_leaf _ _ h2]
    · obtain ⟨a, b⟩ := hW.nxt h2 hk ρ
      have hv := (hW.kid k h2 hk).1
      rw [den_step hW ρ h2 hk, den_step hW' ρ h2 (h.isB hk)]
      have e : nxt S'.l ρ k = nxt S.l ρ k := by unfold nxt; rw [h.nds k hk]
      rw [e]
      exact Ext.den h hW hW' ρ f _ a (by omega)
theorem Ext.den' {S S' : NS} (h : Ext S S') (hW : Wf S) (hW' : Wf S') (ρ : Nat → Bool) {k : Nat} (hk : NP.isB S.l k = true) : NP.den S'.l ρ k = NP.den S.l ρ k := h.den hW hW' ρ 257 k hk (by have := hW.v256; omega)
/-- Mk where it may be: what comes -/
structure MkOk (S : NS) (v lo hi : Nat) (S' : NS) (k : Nat) : Prop where
  wf : Wf S'
  ext : Ext S S'
  is : isB S'.l k = true
  ge : v ≤ (nd S'.l k).v
  says : ∀ ρ, den S'.l ρ k = if ρ v then den S.l ρ hi else den S.l ρ lo
  cnt : cnt S'.l ≤ cnt S.l + 1
  pin : ∀ j, (nd S'.l j).pins ≤ (nd S.l j).pins
theorem mkS_ok {S : NS} (hW : Wf S) {v lo hi : Nat} (hv : v < S.vars) (hl : isB S.l lo = true) (hh : isB S.l hi = true) (hvl : v < (nd S.l lo).v) (hvh : v < (nd S.l hi).v) (hb : cnt S.l < S.budget) :
    ∃ S' : NS, ∃ k : Nat, mkS S v lo hi = (S', (k : Int), 0) ∧ MkOk S v lo hi S' k := by
  have hok : okMk S v lo hi = true := by
    unfold okMk
    simp only [isK_nat, hl, hh, Int.toNat_natCast, Bool.true_and, Bool.and_eq_true, decide_eq_true_eq]
    omega
  unfold mkS
  rw [if_pos hok]
  by_cases he : lo = hi
  · subst he
    rw [if_pos rfl]
    exact ⟨S, lo, rfl, hW, Ext.refl _, hl, by omega, (fun ρ => by simp), by omega, fun _ => Nat.le_refl _⟩
  · rw [if_neg (by omega)]
    cases hf : findK S.l ((v : Int), (lo : Int), (hi : Int)) with
    | some k =>
      obtain ⟨h2, hk, hc⟩ := findK_some hf
      unfold kyOf at hc
      simp only [Prod.mk.injEq, Int.ofNat_inj] at hc
      obtain ⟨e1, e2, e3⟩ := hc
      refine ⟨S, k, rfl, hW, Ext.refl _, hk, by omega, fun ρ => ?_, by omega, fun _ => Nat.le_refl _⟩
      rw [den_step hW ρ h2 hk]
      unfold nxt
      rw [e1, e2, e3]
      split <;> rfl
    | none =>
      simp only []
      rw [if_neg (by omega)]
      simp only [Int.toNat_natCast]
      have hw := hW.put hv he hl hh hvl hvh hf hb (S.made + 1)
      have hff := ff_is S.l
      have hle := ff_le S.l
      have hnd := nd_put hle ⟨true, v, lo, hi, 0⟩
      have hext : Ext S { S with l := putN S.l (ff S.l) ⟨true, v, lo, hi, 0⟩, made := S.made + 1 } := ⟨rfl, rfl, fun k hk => by
        show nd (putN _ _ _) k = _
        rw [hnd, if_neg (by rintro rfl; rw [hff] at hk; cases hk)]⟩
      have hk : isB (putN S.l (ff S.l) ⟨true, v, lo, hi, 0⟩) (ff S.l) = true := by unfold isB; rw [hnd, if_pos rfl]
      refine ⟨_, ff S.l, rfl, hw, hext, hk, ?_, fun ρ => ?_, ?_, fun j => ?_⟩
      · show v ≤ (nd (putN _ _ _) _).v
        rw [hnd, if_pos rfl]; exact Nat.le_refl _
      · rw [den_step hw ρ (ff_ge hW.two) hk]
        have e : nxt (putN S.l (ff S.l) ⟨true, v, lo, hi, 0⟩) ρ (ff S.l) = if ρ v then hi else lo := by unfold nxt; rw [hnd, if_pos rfl]
        show den (putN _ _ _) ρ (nxt (putN _ _ _) ρ (ff S.l)) = _
        rw [e]
        cases ρ v
        · exact hext.den' hW hw ρ hl
        · exact hext.den' hW hw ρ hh
      · show cnt (putN _ _ _) ≤ _
        rw [cnt_put hle hff _ rfl]; exact Nat.le_refl _
      · show (nd (putN _ _ _) j).pins ≤ _
        rw [hnd]
        split
        · exact Nat.zero_le _
        · exact Nat.le_refl _
/-! ### what says the same is one node -/
theorem den_dep {S : NS} (hW : Wf S) (ρ σ : Nat → Bool) : ∀ (f k : Nat), isB S.l k = true → S.vars - (nd S.l k).v < f → (∀ i, (nd S.l k).v ≤ i → ρ i = σ i) → den S.l ρ k = den S.l σ k
  | 0, k, _, hf, _ => by omega
  | f + 1, k, hk, hf, he => by
    rcases Nat.lt_or_ge k 2 with h2 | h2
    · rw [den_leaf _ _ h2, den_leaf _ _ h2]
    · obtain ⟨a, b⟩ := hW.nxt h2 hk ρ
      have hv := (hW.kid k h2 hk).1
      rw [den_step hW ρ h2 hk, den_step hW σ h2 hk]
      have e : nxt S.l σ k = nxt S.l ρ k := by unfold nxt; rw [he _ (Nat.le_refl _)]
      rw [e]
      exact den_dep hW ρ σ f _ a (by omega) (fun i hi => he i (by omega))
def upR (ρ : Nat → Bool) (v : Nat) (b : Bool) : Nat → Bool := fun i => if i = v then b else ρ i
theorem den_low {S : NS} (hW : Wf S) {k : Nat} (h2 : 2 ≤ k) (hk : isB S.l k = true) (ρ : Nat → Bool) : den S.l ρ (nd S.l k).low = den S.l (upR ρ (nd S.l k).v false) k := by
  obtain ⟨h1, _, h3, h4, h5, h6⟩ := hW.kid k h2 hk
  rw [den_step hW _ h2 hk]
  have e : nxt S.l (upR ρ (nd S.l k).v false) k = (nd S.l k).low := by unfold nxt upR; simp
  rw [e]
  exact den_dep hW _ _ 257 _ h3 (by have := hW.v256; omega) (fun i hi => by unfold upR; rw [if_neg (by omega)])
theorem den_high {S : NS} (hW : Wf S) {k : Nat} (h2 : 2 ≤ k) (hk : isB S.l k = true) (ρ : Nat → Bool) : den S.l ρ (nd S.l k).high = den S.l (upR ρ (nd S.l k).v true) k := by
  obtain ⟨h1, _, h3, h4, h5, h6⟩ := hW.kid k h2 hk
  rw [den_step hW _ h2 hk]
  have e : nxt S.l (upR ρ (nd S.l k).v true) k = (nd S.l k).high := by unfold nxt upR; simp
  rw [e]
  exact den_dep hW _ _ 257 _ h4 (by have := hW.v256; omega) (fun i hi => by unfold upR; rw [if_neg (by omega)])
theorem den_up {S : NS} (hW : Wf S) {k v : Nat} (hk : isB S.l k = true) (hv : v < (nd S.l k).v) (ρ : Nat → Bool) (b : Bool) : den S.l (upR ρ v b) k = den S.l ρ k :=
  den_dep hW _ _ 257 _ hk (by have := hW.v256; omega) (fun i hi => by unfold upR; rw [if_neg (by omega)])
theorem canon {S : NS} (hW : Wf S) : ∀ (f j k : Nat), isB S.l j = true → isB S.l k = true → (S.vars - (nd S.l j).v) + (S.vars - (nd S.l k).v) < f → (∀ ρ, den S.l ρ j = den S.l ρ k) → j = k
  | 0, j, k, _, _, hf, _ => by omega
  | f + 1, j, k, hj, hk, hf, he => by
    have leafv : ∀ i, i < 2 → (nd S.l i).v = S.vars := fun i hi => by
      have : i = 0 ∨ i = 1 := by omega
      rcases this with rfl | rfl
      · exact hW.v0
      · exact hW.v1
    have key : ∀ a b, isB S.l a = true → isB S.l b = true → 2 ≤ a → (nd S.l a).v < (nd S.l b).v → (S.vars - (nd S.l a).v) + (S.vars - (nd S.l b).v) < f + 1 → (∀ ρ, den S.l ρ a = den S.l ρ b) → False := fun a b ha hb h2 hv hff hab => by
      obtain ⟨h1, hne, h3, h4, h5, h6⟩ := hW.kid a h2 ha
      have l1 : (nd S.l a).low = (nd S.l a).high := canon hW f _ _ h3 h4 (by
        have := hW.vle hb
        have c1 := hW.vle h3
        have c2 := hW.vle h4
        have hbv := hW.vle hb
        rcases Nat.lt_or_ge b 2 with hb2 | hb2
        · have := leafv b hb2
          -- low and high both reach to leaves
          have e1 : (nd S.l a).low = b := canon hW f _ _ h3 hb (by omega) (fun ρ => by rw [den_low hW h2 ha, hab, den_up hW hb hv])
          have e2 : (nd S.l a).high = b := canon hW f _ _ h4 hb (by omega) (fun ρ => by rw [den_high hW h2 ha, hab, den_up hW hb hv])
          exact absurd (e1.trans e2.symm) hne
        · have e1 : (nd S.l a).low = b := canon hW f _ _ h3 hb (by omega) (fun ρ => by rw [den_low hW h2 ha, hab, den_up hW hb hv])
          have e2 : (nd S.l a).high = b := canon hW f _ _ h4 hb (by omega) (fun ρ => by rw [den_high hW h2 ha, hab, den_up hW hb hv])
          exact absurd (e1.trans e2.symm) hne) (fun ρ => by rw [den_low hW h2 ha, den_high hW h2 ha, hab, hab, den_up hW hb hv, den_up hW hb hv])
      exact hne l1
    rcases Nat.lt_trichotomy (nd S.l j).v (nd S.l k).v with h | h | h
    · have h2 : 2 ≤ j := by
        rcases Nat.lt_or_ge j 2 with h2 | h2
        · have := leafv j h2; have := hW.vle hk; omega
        · exact h2
      exact (key j k hj hk h2 h hf he).elim
    · rcases Nat.lt_or_ge j 2 with hj2 | hj2
      · have hk2 : k < 2 := by
          rcases Nat.lt_or_ge k 2 with hk2 | hk2
          · exact hk2
          · have := (hW.kid k hk2 hk).1; have := leafv j hj2; omega
        have := he (fun _ => false)
        rw [den_leaf _ _ hj2, den_leaf _ _ hk2] at this
        rcases (by omega : j = 0 ∨ j = 1) with rfl | rfl <;> rcases (by omega : k = 0 ∨ k = 1) with rfl | rfl <;> simp_all
      · have hk2 : 2 ≤ k := by
          rcases Nat.lt_or_ge k 2 with hk2 | hk2
          · have := (hW.kid j hj2 hj).1; have := leafv k hk2; omega
          · exact hk2
        obtain ⟨a1, a2, a3, a4, a5, a6⟩ := hW.kid j hj2 hj
        obtain ⟨b1, b2, b3, b4, b5, b6⟩ := hW.kid k hk2 hk
        have e1 : (nd S.l j).low = (nd S.l k).low := canon hW f _ _ a3 b3 (by omega) (fun ρ => by rw [den_low hW hj2 hj, den_low hW hk2 hk, he, h])
        have e2 : (nd S.l j).high = (nd S.l k).high := canon hW f _ _ a4 b4 (by omega) (fun ρ => by rw [den_high hW hj2 hj, den_high hW hk2 hk, he, h])
        exact hW.once j k hj2 hk2 hj hk (by unfold kyOf; rw [e1, e2, h])
    · have h2 : 2 ≤ k := by
        rcases Nat.lt_or_ge k 2 with h2 | h2
        · have := leafv k h2; have := hW.vle hj; omega
        · exact h2
      exact (key k j hk hj h2 h (by omega) (fun ρ => (he ρ).symm)).elim
theorem one_node {S : NS} (hW : Wf S) {j k : Nat} (hj : isB S.l j = true) (hk : isB S.l k = true) (he : ∀ ρ, den S.l ρ j = den S.l ρ k) : j = k := canon hW _ j k hj hk (Nat.lt_succ_self _) he
end Go.Proofs.YtobhjkfkdkiigaaGreatDoor.NP
