/- Pins and sweeps upon the operations' cache in plain Lean: what is alike but for pins says the same; a swept store's nodes are the store's. 
 Layer 6 in plain Lean: a node that asks of the first four variables alone: for how many values it says true, its cubes, their numbers. 
 slices.Compare of two rows of numbers of one length. -/
import Derived.Test.YtobhjkfkdkiigaaGreatDoorOperP
import Derived.Test.YtobhjkfkdkiigaaGreatDoorCount0
import Derived.Test.YtobhjkfkdkiigaaGreatDoorShelfD
import Derived.Test.YtobhjkfkdkiigaaGreatDoorCountPR
namespace Go.Proofs.YtobhjkfkdkiigaaGreatDoor.NP
theorem denF_alk {l l' : List Nd} (h : Alk l l') (ρ : Nat → Bool) : ∀ (f k : Nat), denF l' ρ f k = denF l ρ f k
  | 0, _ => rfl
  | f + 1, k => by
    rw [denF, denF, h.v, h.low, h.high]
    split
    · rfl
    · exact denF_alk h ρ f _
theorem den_alk' {l l' : List Nd} (h : Alk l l') (ρ : Nat → Bool) (k : Nat) : den l' ρ k = den l ρ k := denF_alk h ρ 257 k
theorem IteIs.alk {S S' : NS} (h : Alk S.l S'.l) {a b c k : Nat} (hi : IteIs S a b c k) : IteIs S' a b c k :=
  ⟨by rw [h.is]; exact hi.ia, by rw [h.is]; exact hi.ib, by rw [h.is]; exact hi.ic, by rw [h.is]; exact hi.ik, fun ρ => by rw [den_alk' h, den_alk' h, den_alk' h, den_alk' h]; exact hi.says ρ, fun v => by rw [h.v, h.v, h.v, h.v]; exact hi.ge v⟩
theorem FndOk.alk {S S' : NS} (h : Alk S.l S'.l) {x : Fnd} (hx : FndOk S x) : FndOk S' x := fun hh => by
  obtain ⟨a, b, c, k, e1, e2, e3, e4, hi⟩ := hx hh
  exact ⟨a, b, c, k, e1, e2, e3, e4, hi.alk h⟩
theorem Den.alk {S S' : NS} (h : Alk S.l S'.l) {k : Nat} {g : (Nat → Bool) → Bool} (hd : Den S k g) : Den S' k g := ⟨by rw [h.is]; exact hd.is, fun ρ => by rw [den_alk' h]; exact hd.says ρ⟩
theorem cnt_isB (l : List Nd) : cnt l = (List.range l.length).countP (isB l) := by
  unfold cnt
  induction l with
  | nil => rfl
  | cons x t ih =>
    rw [List.countP_cons, ih, List.length_cons, List.range_succ_eq_map, List.countP_cons, List.countP_map]
    rfl
theorem cnt_swp_le (l : List Nd) (s : Nat → Bool) (k : Nat) : cnt (swp l s k) ≤ cnt l := by
  rw [cnt_isB, cnt_isB, len_swp]
  refine List.countP_mono_left fun j _ h => ?_
  rw [isB_swp] at h
  split at h
  · cases h
  · exact h
/-- the swept store -/
def swS (S : NS) (s : Nat → Bool) : NS := { S with l := swp S.l s 1, sweeps := S.sweeps + 1 }
theorem swS_ext (S : NS) (s : Nat → Bool) : Ext (swS S s) S := ⟨rfl, rfl, fun k hk => by
  have hk' : isB (swp S.l s 1) k = true := hk
  show nd S.l k = nd (swp S.l s 1) k
  rw [isB_swp] at hk'
  split at hk'
  · cases hk'
  · rename_i hx
    rw [nd_swp, if_neg hx]⟩
/-- a node with a pin stays, and says what it said -/
theorem swS_den {S : NS} (hW : Wf S) {s : Nat → Bool} (hW' : Wf (swS S s)) (hm : MarkedTo S.l S.l.length s) {k : Nat} {g : (Nat → Bool) → Bool} (hd : Den S k g) (hp : 0 < (nd S.l k).pins) : Den (swS S s) k g ∧ 0 < (nd (swS S s).l k).pins := by
  have hs : s k = true := (hm k).2 ⟨k, isB_lt hd.is, by unfold rootB; simp [hd.is, hp], .here _⟩
  have hn : nd (swS S s).l k = nd S.l k := by show nd (swp S.l s 1) k = _; rw [nd_swp, if_neg (by simp [hs])]
  have hb : isB (swS S s).l k = true := by unfold isB; rw [hn]; exact hd.is
  exact ⟨⟨hb, fun ρ => by rw [← (swS_ext S s).den' hW' hW ρ hb]; exact hd.says ρ⟩, by rw [hn]; exact hp⟩
theorem swS_pins (S : NS) (s : Nat → Bool) (j : Nat) : (nd (swS S s).l j).pins ≤ (nd S.l j).pins := by
  show (nd (swp S.l s 1) j).pins ≤ _
  rw [nd_swp]
  split
  · exact Nat.zero_le _
  · exact Nat.le_refl _
end Go.Proofs.YtobhjkfkdkiigaaGreatDoor.NP

namespace Go.Proofs.YtobhjkfkdkiigaaGreatDoor.NP
/-- it asks of the first four variables alone -/
def Low4 (S : NS) (k : Nat) : Prop := ∀ v, askB S.l k v = true → v < 4
theorem Low4.kids {S : NS} (h : Wf S) {k : Nat} (h2 : 2 ≤ k) (hk : isB S.l k = true) (hl : Low4 S k) : (nd S.l k).v < 4 ∧ Low4 S (nd S.l k).low ∧ Low4 S (nd S.l k).high := by
  have e := fun v => askB_step h v h2 hk
  refine ⟨hl _ (by rw [e]; simp), fun v hv => hl v (by rw [e, hv]; simp), fun v hv => hl v (by rw [e, hv]; simp)⟩
theorem Low4.of_dep {S : NS} (h : Wf S) {V : Nat → Bool} {k : Nat} (hk : isB S.l k = true) (hd : Dep V (fun ρ => den S.l ρ k)) (hV : ∀ v, V v = true → v < 4) : Low4 S k := fun v hv => by
  obtain ⟨ρ, hne⟩ := ask_hangs h v k hk hv
  cases hVv : V v with
  | true => exact hV v hVv
  | false =>
    exact absurd (hd (upR ρ v true) (upR ρ v false) fun i hi => by
      have : i ≠ v := by rintro rfl; rw [hVv] at hi; cases hi
      unfold upR; rw [if_neg this, if_neg this]) hne
/-- the level, of four -/
def lv4 (l : List Nd) (k : Nat) : Nat := if k < 2 then 4 else (nd l k).v
theorem lv4_up {S : NS} (h : Wf S) {k j : Nat} (hk : (nd S.l k).v < 4) (hj : isB S.l j = true) (hv : (nd S.l k).v < (nd S.l j).v) (hl : Low4 S j) : (nd S.l k).v < lv4 S.l j ∧ lv4 S.l j ≤ 4 := by
  unfold lv4
  rcases Nat.lt_or_ge j 2 with h2 | h2
  · rw [if_pos h2]; omega
  · rw [if_neg (by omega)]
    have := (hl.kids h h2 hj).1
    omega
theorem pow_low {z : Nat} (hz : z ≤ 4) : 2 ^ z ≤ 16 := Nat.pow_le_pow_right (show 0 < 2 by decide) hz
/-- the number that is told is at most sixteen -/
theorem sat_low {S : NS} (h : Wf S) {add mul : Int → Int → Int} {pow : Int → Int} (hA : ∀ a b : Nat, a ≤ 16 → b ≤ 16 → add a b = ((a + b : Nat) : Int)) (hM : ∀ a b : Nat, a ≤ 16 → b ≤ 16 → mul a b = ((a * b : Nat) : Int)) (hP : ∀ n : Nat, n ≤ 4 → pow n = ((2 ^ n : Nat) : Int))
    {lv : Nat → Nat} (hlv : ∀ v, v < 4 → lv v = v) : ∀ k, isB S.l k = true → Low4 S k → ∃ C : Nat, satB add mul pow lv 4 S.l k = (C : Int) ∧ C ≤ 2 ^ (4 - lv4 S.l k) ∧ levK lv 4 S.l k = lv4 S.l k := by
  refine node_ind h (fun k hk _ => ?_) fun k h2 hk il ih hlow => ?_
  · have e4 : lv4 S.l k = 4 := by unfold lv4; rw [if_pos hk]
    exact ⟨k, satB_leaf _ _ _ _ _ _ hk, by rw [e4]; omega, by unfold levK; rw [if_pos hk, e4]⟩
  · obtain ⟨hv, _, h3, h4', h5, h6⟩ := h.kid k h2 hk
    obtain ⟨v4, l0, l1⟩ := hlow.kids h h2 hk
    obtain ⟨C0, a1, a2, a3⟩ := il l0
    obtain ⟨C1, b1, b2, b3⟩ := ih l1
    obtain ⟨u0, w0⟩ := lv4_up h v4 h3 h5 l0
    obtain ⟨u1, w1⟩ := lv4_up h v4 h4' h6 l1
    obtain ⟨v, hvv⟩ : ∃ v, (nd S.l k).v = v := ⟨_, rfl⟩
    obtain ⟨x, hx⟩ : ∃ x, lv4 S.l (nd S.l k).low = x := ⟨_, rfl⟩
    obtain ⟨y, hy⟩ : ∃ y, lv4 S.l (nd S.l k).high = y := ⟨_, rfl⟩
    have hlk : levK lv 4 S.l k = v := by unfold levK; rw [if_neg (by omega), hvv]; exact hlv v (by omega)
    have hl4 : lv4 S.l k = v := by unfold lv4; rw [if_neg (by omega), hvv]
    rw [hvv] at v4 u0 u1
    rw [hx] at a2 a3 u0 w0
    rw [hy] at b2 b3 u1 w1
    have e0 : ∀ C z : Nat, v < z → z ≤ 4 → C ≤ 2 ^ (4 - z) → C * 2 ^ (z - (v + 1)) ≤ 2 ^ (3 - v) := fun C z hz hz4 hC => by
      have : 2 ^ (4 - z) * 2 ^ (z - (v + 1)) = 2 ^ (3 - v) := by rw [← Nat.pow_add]; congr 1; omega
      rw [← this]
      exact Nat.mul_le_mul_right _ hC
    have p0 := e0 C0 x u0 w0 a2
    have p1 := e0 C1 y u1 w1 b2
    have hpv : 2 ^ (3 - v) ≤ 8 := Nat.pow_le_pow_right (show 0 < 2 by decide) (by omega : 3 - v ≤ 3)
    have hpv2 : 2 ^ (4 - v) = 2 ^ (3 - v) + 2 ^ (3 - v) := by rw [show 4 - v = (3 - v) + 1 by omega, Nat.pow_succ]; omega
    have hC0 : C0 ≤ 16 := Nat.le_trans a2 (pow_low (by omega))
    have hC1 : C1 ≤ 16 := Nat.le_trans b2 (pow_low (by omega))
    have ex : ((x : Int) - ((v : Int) + 1)) = ((x - (v + 1) : Nat) : Int) := by omega
    have ey : ((y : Int) - ((v : Int) + 1)) = ((y - (v + 1) : Nat) : Int) := by omega
    refine ⟨C0 * 2 ^ (x - (v + 1)) + C1 * 2 ^ (y - (v + 1)), ?_, by rw [hl4]; omega, by rw [hlk, hl4]⟩
    rw [satB_step _ _ _ _ _ h h2 hk, a1, b1, a3, b3, hlk, ex, ey, hP _ (by omega), hP _ (by omega), hM _ _ hC0 (pow_low (by omega)), hM _ _ hC1 (pow_low (by omega)), hA _ _ (by omega) (by omega)]
theorem satA_low {S : NS} (h : Wf S) {add mul : Int → Int → Int} {pow : Int → Int} (hA : ∀ a b : Nat, a ≤ 16 → b ≤ 16 → add a b = ((a + b : Nat) : Int)) (hM : ∀ a b : Nat, a ≤ 16 → b ≤ 16 → mul a b = ((a * b : Nat) : Int)) (hP : ∀ n : Nat, n ≤ 4 → pow n = ((2 ^ n : Nat) : Int))
    {lv : Nat → Nat} (hlv : ∀ v, v < 4 → lv v = v) {k : Nat} (hk : isB S.l k = true) (hl : Low4 S k) : satA add mul pow lv 4 S.l k ≤ 16 := by
  obtain ⟨C, h1, h2, h3⟩ := sat_low h hA hM hP hlv k hk hl
  have h4 : lv4 S.l k ≤ 4 := by
    unfold lv4
    split
    · omega
    · have := (hl.kids h (by omega) hk).1; omega
  have hc : C ≤ 16 := Nat.le_trans h2 (pow_low (by omega))
  unfold satA
  rw [h1, h3, hP _ (by omega), hM _ _ hc (pow_low (by omega))]
  have : C * 2 ^ lv4 S.l k ≤ 2 ^ (4 - lv4 S.l k) * 2 ^ lv4 S.l k := Nat.mul_le_mul_right _ h2
  rw [← Nat.pow_add, show 4 - lv4 S.l k + lv4 S.l k = 4 by omega] at this
  omega
/-- its cubes are few -/
theorem cub_low {S : NS} (h : Wf S) : ∀ k, isB S.l k = true → ∀ way : List Int, Low4 S k → (cubB S.l k way).length ≤ 2 ^ (4 - lv4 S.l k) := by
  refine cub_ind h (fun k way hk _ => ?_) fun k way h2 hk il ih hlow => ?_
  · rcases (by omega : k = 0 ∨ k = 1) with rfl | rfl
    · rw [cubB_zero]; exact Nat.zero_le _
    · rw [cubB_one]; exact Nat.pow_pos (by decide)
  · obtain ⟨hv, _, h3, h4', h5, h6⟩ := h.kid k h2 hk
    obtain ⟨v4, l0, l1⟩ := hlow.kids h h2 hk
    obtain ⟨u0, w0⟩ := lv4_up h v4 h3 h5 l0
    obtain ⟨u1, w1⟩ := lv4_up h v4 h4' h6 l1
    have hl4 : lv4 S.l k = (nd S.l k).v := by unfold lv4; rw [if_neg (by omega)]
    have e0 := il (way.set (nd S.l k).v 0) l0
    have e1 := ih (way.set (nd S.l k).v 1) l1
    have p0 : 2 ^ (4 - lv4 S.l (nd S.l k).low) ≤ 2 ^ (3 - (nd S.l k).v) := Nat.pow_le_pow_right (by decide) (by omega)
    have p1 : 2 ^ (4 - lv4 S.l (nd S.l k).high) ≤ 2 ^ (3 - (nd S.l k).v) := Nat.pow_le_pow_right (by decide) (by omega)
    rw [cubB_step h way h2 hk, List.length_append, hl4, show 4 - (nd S.l k).v = (3 - (nd S.l k).v) + 1 by omega, Nat.pow_succ]
    omega
theorem cubes_low {S : NS} (h : Wf S) {k : Nat} (hk : isB S.l k = true) (hl : Low4 S k) : (cubes S k).length ≤ 16 := by
  have := cub_low h k hk (way2 S.vars) hl
  have h2 : 2 ^ (4 - lv4 S.l k) ≤ 16 := pow_low (by omega)
  unfold cubes
  omega
/-- what is not asked has both values -/
theorem cub_idle {S : NS} (h : Wf S) {v : Nat} : ∀ k, isB S.l k = true → ∀ way : List Int, askB S.l k v = false → ∀ c ∈ cubB S.l k way, c[v]? = way[v]? := by
  refine cub_ind h (fun k way hk _ c hc => ?_) fun k way h2 hk il ih ha c hc => ?_
  · rcases (by omega : k = 0 ∨ k = 1) with rfl | rfl
    · rw [cubB_zero] at hc; cases hc
    · rw [cubB_one] at hc; rw [List.mem_singleton.1 hc]
  · rw [askB_step h v h2 hk] at ha
    simp only [Bool.or_eq_false_iff, beq_eq_false_iff_ne] at ha
    obtain ⟨e, e1, e2⟩ := ha
    rw [cubB_step h way h2 hk, List.mem_append] at hc
    rcases hc with hc | hc
    · rw [il _ e1 c hc, List.getElem?_set_ne e]
    · rw [ih _ e2 c hc, List.getElem?_set_ne e]
/-- of a number, its answer -/
theorem nums_low {S : NS} (h : Wf S) {k : Nat} (hk : isB S.l k = true) (hl : Low4 S k) {l : List Nat} (h4 : l.length = 4) (hlt : ∀ v ∈ l, v < S.vars) (hcov : ∀ v, v < 4 → v ∈ l) {r : Nat} (hr : r < 16) {ρ : Nat → Bool} (ht : ∀ i v, l[i]? = some v → ρ v = r.testBit i) :
    (numsL (cubes S k) l).count r = (den S.l ρ k).toNat := by
  rw [numsL_count (cubes_getD h hk)]
  have e : (cubes S k).countP (fun c => mtF c l r) = (cubes S k).countP (inB S.vars ρ) := by
    refine List.countP_congr fun c hc => ?_
    have hcl := cubes_len h hk c hc
    rw [mtF_iff, inB_iff, h4]
    have hg : ∀ v, v < S.vars → c[v]? = some (c.getD v 0) := fun v hv => by
      rw [List.getD_eq_getElem?_getD, List.getElem?_eq_getElem (by omega)]; rfl
    constructor
    · rintro ⟨_, hh⟩ v hv
      by_cases v4 : v < 4
      · obtain ⟨i, hi⟩ := List.getElem?_of_mem (hcov v v4)
        rw [hg v hv, ht i v hi]
        rcases hh i v hi with e | e
        · left; rw [e]
        · right; rw [e]
      · left
        have hna : askB S.l k v = false := by
          cases e : askB S.l k v with
          | false => rfl
          | true => exact absurd (hl v e) v4
        rw [cub_idle h k hk _ hna c hc, way2_get hv]
    · intro hh
      refine ⟨hr, fun i v hi => ?_⟩
      have hv := hlt v (List.mem_of_getElem? hi)
      have := hh v hv
      rw [hg v hv, ht i v hi] at this
      rcases this with e | e
      · left; injection e
      · right; injection e
  rw [e, cubes_count h hk]
/-- the numbers, sorted: those of the values for which the node says true -/
theorem nums_rise {S : NS} (h : Wf S) {k : Nat} (hk : isB S.l k = true) (hl : Low4 S k) {l : List Nat} (h4 : l.length = 4) (hlt : ∀ v ∈ l, v < S.vars) (hcov : ∀ v, v < 4 → v ∈ l) {f : Nat → Nat → Bool} (ht : ∀ r, r < 16 → ∀ i v, l[i]? = some v → f r v = r.testBit i) {s : List Nat} (hp : s.Perm (numsL (cubes S k) l)) (hs : s.Pairwise (· ≤ ·)) :
    s = (List.range 16).filter fun r => den S.l (f r) k := by
  have hlow : ∀ r ∈ numsL (cubes S k) l, r < 16 := fun r hr => nums_lt h hk h4 r hr
  have hcnt : ∀ r, (numsL (cubes S k) l).count r ≤ 1 := fun r => by
    rcases Nat.lt_or_ge r 16 with hr | hr
    · rw [nums_low h hk hl h4 hlt hcov hr (ht r hr)]
      cases den S.l (f r) k <;> decide
    · rw [List.count_eq_zero.2 fun hin => by have := hlow r hin; omega]; omega
  refine rise_eq (rise_of hp hs hcnt) (List.Pairwise.filter _ List.pairwise_lt_range) fun x => ?_
  rw [hp.mem_iff, List.mem_filter, List.mem_range]
  constructor
  · intro hx
    have h16 := hlow x hx
    have := List.count_pos_iff.2 hx
    rw [nums_low h hk hl h4 hlt hcov h16 (ht x h16)] at this
    refine ⟨h16, ?_⟩
    cases e : den S.l (f x) k with
    | true => rfl
    | false => rw [e] at this; simp at this
  · rintro ⟨h16, hx⟩
    refine List.count_pos_iff.1 ?_
    rw [nums_low h hk hl h4 hlt hcov h16 (ht x h16), hx]
    decide
end Go.Proofs.YtobhjkfkdkiigaaGreatDoor.NP

namespace Go.Proofs.YtobhjkfkdkiigaaGreatDoor
open Go.RowKit HP NP
/-- which of two rows of one length is ahead -/
def cmpL : List Int → List Int → Int
  | a :: l, b :: m => if Lib.compareInt a b = 0 then cmpL l m else Lib.compareInt a b
  | _, _ => 0
theorem cmpInt_cases (a b : Int) : (a < b ∧ Lib.compareInt a b = -1) ∨ (a = b ∧ Lib.compareInt a b = 0) ∨ (b < a ∧ Lib.compareInt a b = 1) := by
  unfold Lib.compareInt
  by_cases h1 : a < b
  · exact .inl ⟨h1, by simp [h1]⟩
  · by_cases h2 : b < a
    · exact .inr (.inr ⟨h2, by simp [h1, h2]⟩)
    · exact .inr (.inl ⟨by omega, by simp [h1, h2]⟩)
theorem cmpL_less : ∀ l m : List Int, l.length = m.length → (cmpL l m < 0 ↔ lessL l m = true)
  | [], [], _ => by unfold cmpL lessL; simp
  | [], _ :: _, h => by simp at h
  | _ :: _, [], h => by simp at h
  | a :: l, b :: m, h => by
    have ih := cmpL_less l m (by simpa using h)
    unfold cmpL lessL
    rcases cmpInt_cases a b with ⟨h1, h2⟩ | ⟨h1, h2⟩ | ⟨h1, h2⟩
    · rw [h2, if_neg (by decide), if_neg (by omega)]; simp [h1]
    · rw [h2, if_pos rfl, if_pos h1]; exact ih
    · rw [h2, if_neg (by decide), if_neg (by omega)]
      constructor
      · intro h; omega
      · intro h; have := of_decide_eq_true h; omega
theorem cmpL_drop {l m : List Int} {i : Nat} {x y : Int} (hx : l[i]? = some x) (hy : m[i]? = some y) : cmpL (l.drop i) (m.drop i) = if Lib.compareInt x y = 0 then cmpL (l.drop (i + 1)) (m.drop (i + 1)) else Lib.compareInt x y := by
  have e1 : l.drop i = x :: l.drop (i + 1) := by
    obtain ⟨h, e⟩ := List.getElem?_eq_some_iff.1 hx
    rw [← e]; exact List.drop_eq_getElem_cons h
  have e2 : m.drop i = y :: m.drop (i + 1) := by
    obtain ⟨h, e⟩ := List.getElem?_eq_some_iff.1 hy
    rw [← e]; exact List.drop_eq_getElem_cons h
  rw [e1, e2]; rfl
set_option maxRecDepth 100000 in
set_option maxHeartbeats 3200000 in
theorem cmpS_ok (w : World) (a b : Option Addr) (ca cb n : Nat) (hnb : n ≤ 1000) (l m : List Int) (hl : l.length = n) (hm : m.length = n) (ha : Cells w a (zV l)) (hb : Cells w b (zV m)) :
    Calls Tryz.prog 77 #[.slice a n ca, .slice b n cb] w fun e w' => e = .returned (.int .i64 (cmpL l m)) ∧ w = w' := by
  have HA := Lib.hid ha; have HB := Lib.hid hb; have HL := Lib.hid hl; have HM := Lib.hid hm
  clear ha hb hl hm
  have hn0 : (0 : Int) ≤ ((n : Nat) : Int) := by omega
  go_enter Tryz.func77, Tryz.ntmps77
  go_wp2_with fail
  go_loopg [11] n (fun mm x wr => ∃ i : Nat, mm + i = n ∧ x = .int .i64 (i : Int) ∧ w = wr ∧ cmpL l m = cmpL (l.drop i) (m.drop i))
  case atStart => exact ⟨0, by omega, rfl, rfl, rfl⟩
  case round =>
    obtain ⟨i, hmm, rfl, rfl, hc⟩ := hrel
    have HI := Lib.hid hmm; have HC := Lib.hid hc
    clear hmm hc
    by_cases hi : i < n
    · obtain ⟨x, hx⟩ : ∃ x, l[i]? = some x := ⟨_, List.getElem?_eq_getElem (by rw [HL.out]; exact hi)⟩
      obtain ⟨y, hy⟩ : ∃ y, m[i]? = some y := ⟨_, List.getElem?_eq_getElem (by rw [HM.out]; exact hi)⟩
      obtain ⟨ab, ao, rfl, abl, a0⟩ := HA.out.at_ (show (zV l)[i]? = some (.int .i64 x) by unfold zV; rw [List.getElem?_map, hx]; rfl)
      obtain ⟨bb, bo, rfl, bbl, b0⟩ := HB.out.at_ (show (zV m)[i]? = some (.int .i64 y) by unfold zV; rw [List.getElem?_map, hy]; rfl)
      have HC2 := Lib.hid (HC.out.trans (cmpL_drop hx hy))
      have hid : decide (((i : Nat) : Int) < ((n : Nat) : Int)) = true := decide_eq_true (by omega)
      have hge : decide (((n : Nat) : Int) ≤ ((i : Nat) : Int)) = false := decide_eq_false (by omega)
      have hip : ((i : Nat) : Int) < ((n : Nat) : Int) := by omega
      have hip0 : (0 : Int) ≤ ((i : Nat) : Int) := by omega
      have HII := Lib.hid hi
      clear hx hy hi
      have HCI := Lib.hid (Tryz.cmp_Compare_int x y w)
      obtain ⟨z, hz⟩ : ∃ z, Lib.compareInt x y = z := ⟨_, rfl⟩
      rw [hz] at HCI HC2
      clear hz
      by_cases h0 : z = 0
      · subst h0
        go_wp2_with fail
        refine HCI.out.mono ?_
        rintro e w1 ⟨rfl, rfl⟩
        go_wp2_with fail
        go_roundg (n - (i + 1))
        case measure => have := HI.out; have := HII.out; omega
        case rel => exact ⟨i + 1, by have := HI.out; have := HII.out; omega, by go_num, rfl, by have := HC2.out; rwa [if_pos (by decide)] at this⟩
      · have hz : (z != 0) = true := by simp [h0]
        have HZ := Lib.hid h0
        clear h0
        go_wp2_with fail
        refine HCI.out.mono ?_
        rintro e w1 ⟨rfl, rfl⟩
        go_wp2_with fail
        go_ret
        exact ⟨by have := HC2.out; rw [if_neg HZ.out] at this; rw [this]; rfl, rfl⟩
    · have hin : i = n := by have := HI.out; omega
      have hid : decide (((i : Nat) : Int) < ((n : Nat) : Int)) = false := decide_eq_false (by omega)
      have hnn : decide (((n : Nat) : Int) < ((n : Nat) : Int)) = false := decide_eq_false (by omega)
      have HE : Hid (cmpL l m = 0) := Lib.hid (by rw [HC.out, hin, ← HL.out, List.drop_length]; rfl)
      clear hin
      go_wp2_with fail
      go_ret
      exact ⟨by rw [HE.out]; rfl, rfl⟩
end Go.Proofs.YtobhjkfkdkiigaaGreatDoor
