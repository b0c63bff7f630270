/- The plain law of layer 2 (hash): places in a ring, looked for from a key's start on. No Go in sight. 
 Arrays of ints compared: what '==' on [3]int says (the library has structs alone). 
 The contracts of layer 2's inner functions: (*hash.Table).start and find. 
 The table of layer 2 in memory (HashAt), and the contracts of New, given, Len, Get, Drop, Clear. 
 The contract of grows (layer 2): there is room for one more; the keys are as they were. 
 The contract of Put (layer 2). 
 The table of layer 2 as a part of something greater (HB): the calls, with what they may change (Kp). -/
import Derived.Test.YtobhjkfkdkiigaaGreatDoorBase
import Derived.Deep.RegionHeld3
import Derived.StillTailTactics
import Derived.Test.YtobhjkfkdkiigaaGreatDoorKp
namespace Go.Proofs.YtobhjkfkdkiigaaGreatDoor.HP

abbrev Key := Int × Int × Int
structure Pl where
  how : Int
  key : Key
  v : Int

def cntB (p : Nat → Bool) : Nat → Nat
  | 0 => 0
  | n + 1 => cntB p n + (p n).toNat
theorem cntB_congr {p q : Nat → Bool} {N : Nat} (h : ∀ i, i < N → p i = q i) : cntB p N = cntB q N := by
  induction N with
  | zero => rfl
  | succ n ih => simp only [cntB]; rw [ih (fun i hi => h i (by omega)), h n (by omega)]
theorem cntB_le (p : Nat → Bool) (N : Nat) : cntB p N ≤ N := by
  induction N with
  | zero => simp [cntB]
  | succ n ih => simp only [cntB]; have := Bool.toNat_le (p n); omega
theorem cntB_upd {p q : Nat → Bool} {N k : Nat} (hk : k < N) (h : ∀ i, i < N → i ≠ k → q i = p i) : cntB q N + (p k).toNat = cntB p N + (q k).toNat := by
  induction N with
  | zero => omega
  | succ n ih =>
    simp only [cntB]
    by_cases e : k = n
    · subst e
      rw [cntB_congr (p := q) (q := p) (fun i hi => h i (by omega) (by omega))]; omega
    · have := ih (by omega) (fun i hi hn => h i (by omega) hn)
      rw [h n (by omega) (fun e' => e e'.symm)]; omega
theorem cntB_lt {p : Nat → Bool} {N : Nat} (h : cntB p N < N) : ∃ i, i < N ∧ p i = false := by
  induction N with
  | zero => omega
  | succ n ih =>
    simp only [cntB] at h
    cases e : p n with
    | false => exact ⟨n, by omega, e⟩
    | true =>
      rw [e] at h
      obtain ⟨i, hi, hp⟩ := ih (by simp at h; omega)
      exact ⟨i, by omega, hp⟩
theorem cntB_mono {p q : Nat → Bool} {N : Nat} (h : ∀ i, i < N → p i = true → q i = true) : cntB p N ≤ cntB q N := by
  induction N with
  | zero => simp [cntB]
  | succ n ih =>
    simp only [cntB]
    have h1 := ih (fun i hi => h i (by omega))
    have h2 := h n (by omega)
    cases e : p n <;> cases e2 : q n <;> simp_all <;> omega
theorem cntB_le_le {p : Nat → Bool} {a b : Nat} (h : a ≤ b) : cntB p a ≤ cntB p b := by
  induction b with
  | zero => have : a = 0 := by omega
            subst this; exact Nat.le_refl _
  | succ n ih =>
    by_cases e : a = n + 1
    · subst e; exact Nat.le_refl _
    · have := ih (by omega); simp only [cntB]; omega
theorem cntB_zero {p : Nat → Bool} {N : Nat} (h : ∀ i, i < N → p i = false) : cntB p N = 0 := by
  induction N with
  | zero => rfl
  | succ n ih => simp only [cntB]; rw [ih (fun i hi => h i (by omega)), h n (by omega)]; rfl

/-- how many are full; how many are not empty -/
def full (L : Nat → Pl) (i : Nat) : Bool := (L i).how == 1
def taken (L : Nat → Pl) (i : Nat) : Bool := (L i).how != 0
def upd (L : Nat → Pl) (k : Nat) (x : Pl) : Nat → Pl := fun i => if i = k then x else L i
theorem upd_same (L : Nat → Pl) (k : Nat) (x : Pl) : upd L k x k = x := by simp [upd]
theorem upd_other (L : Nat → Pl) (k : Nat) (x : Pl) (i : Nat) (h : i ≠ k) : upd L k x i = L i := by simp [upd, h]

/-- the way of a key to a place -/
def Way (st : Key → Nat) (L : Nat → Pl) (N : Nat) (c : Key) (k : Nat) : Prop := ∃ d, d < N ∧ k = (st c + d) % N ∧ ∀ d', d' < d → (L ((st c + d') % N)).how ≠ 0
structure Inv (st : Key → Nat) (L : Nat → Pl) (N : Nat) : Prop where
  kinds : ∀ i, i < N → (L i).how = 0 ∨ (L i).how = 1 ∨ (L i).how = 2
  way : ∀ i, i < N → (L i).how = 1 → Way st L N (L i).key i
  once : ∀ i j, i < N → j < N → (L i).how = 1 → (L j).how = 1 → (L i).key = (L j).key → i = j
def Rep (L : Nat → Pl) (N : Nat) (M : Key → Option Int) : Prop := ∀ c v, M c = some v ↔ ∃ i, i < N ∧ (L i).how = 1 ∧ (L i).key = c ∧ (L i).v = v

/-- what find gives -/
structure Found (st : Key → Nat) (L : Nat → Pl) (N : Nat) (c : Key) (k : Nat) (b : Bool) : Prop where
  lt : k < N
  yes : b = true → (L k).how = 1 ∧ (L k).key = c
  no : b = false → (∀ i, i < N → (L i).how = 1 → (L i).key ≠ c) ∧ (L k).how ≠ 1 ∧ Way st L N c k

/-- behind d places of the way, none of which was the key's, nor empty: free is the first that is gone -/
structure Seek (st : Key → Nat) (L : Nat → Pl) (N : Nat) (c : Key) (d : Nat) (free : Int) : Prop where
  le : d < N
  past : ∀ d', d' < d → (L ((st c + d') % N)).how ≠ 0 ∧ ¬ ((L ((st c + d') % N)).how = 1 ∧ (L ((st c + d') % N)).key = c)
  free : free = -1 ∨ ∃ d', d' < d ∧ free = (((st c + d') % N : Nat) : Int) ∧ (L ((st c + d') % N)).how = 2

theorem ring_onto {N s i : Nat} (hi : i < N) : ∃ d, d < N ∧ (s + d) % N = i := by
  refine ⟨(i + (N - s % N)) % N, Nat.mod_lt _ (by omega), ?_⟩
  have hs : s % N < N := Nat.mod_lt _ (by omega)
  rw [Nat.add_mod, Nat.mod_mod, ← Nat.add_mod]
  have e : s + (i + (N - s % N)) = i + N * (s / N + 1) := by
    have := Nat.div_add_mod s N
    rw [Nat.mul_add, Nat.mul_one]; omega
  rw [e, Nat.add_mul_mod_self_left, Nat.mod_eq_of_lt hi]
theorem Seek.start {st : Key → Nat} {L : Nat → Pl} {N : Nat} {c : Key} (h : 0 < N) : Seek st L N c 0 (-1) := ⟨h, fun d' hd => by omega, .inl rfl⟩
theorem Seek.yes {st : Key → Nat} {L : Nat → Pl} {N : Nat} {c : Key} {d : Nat} {free : Int} (h : Seek st L N c d free) (h1 : (L ((st c + d) % N)).how = 1) (h2 : (L ((st c + d) % N)).key = c) :
    Found st L N c ((st c + d) % N) true :=
  ⟨Nat.mod_lt _ (by have := h.le; omega), fun _ => ⟨h1, h2⟩, (fun e => nomatch e)⟩
theorem Seek.none {st : Key → Nat} {L : Nat → Pl} {N : Nat} {c : Key} {d : Nat} {free : Int} (hI : Inv st L N) (h : Seek st L N c d free) (h0 : (L ((st c + d) % N)).how = 0) :
    ∀ i, i < N → (L i).how = 1 → (L i).key ≠ c := by
  intro i hi h1 hc
  obtain ⟨d0, hd0, e, hw⟩ := hI.way i hi h1
  rw [hc] at e hw
  rcases Nat.lt_trichotomy d0 d with hlt | heq | hgt
  · have := (h.past d0 hlt).2
    rw [← e] at this
    exact this ⟨h1, hc⟩
  · subst heq; rw [← e] at h0; omega
  · exact hw d hgt h0
theorem Seek.free_ {st : Key → Nat} {L : Nat → Pl} {N : Nat} {c : Key} {d : Nat} {k : Nat} (hI : Inv st L N) (h : Seek st L N c d (k : Int)) (h0 : (L ((st c + d) % N)).how = 0) : Found st L N c k false := by
  rcases h.free with hf | ⟨d', hd', hf, h2⟩
  · omega
  · have e : k = (st c + d') % N := by omega
    refine ⟨by rw [e]; exact Nat.mod_lt _ (by have := h.le; omega), (fun e => nomatch e), fun _ => ⟨h.none hI h0, by rw [e]; omega, d', by have := h.le; omega, e, fun d'' hd'' => (h.past d'' (by omega)).1⟩⟩
theorem Seek.here {st : Key → Nat} {L : Nat → Pl} {N : Nat} {c : Key} {d : Nat} {free : Int} (hI : Inv st L N) (h : Seek st L N c d free) (h0 : (L ((st c + d) % N)).how = 0) : Found st L N c ((st c + d) % N) false :=
  ⟨Nat.mod_lt _ (by have := h.le; omega), (fun e => nomatch e), fun _ => ⟨h.none hI h0, by omega, d, h.le, rfl, fun d' hd' => (h.past d' hd').1⟩⟩
/-- one step on; there is an empty place, so the way does not close -/
theorem Seek.lt {st : Key → Nat} {L : Nat → Pl} {N : Nat} {c : Key} {d : Nat} {free : Int} (hE : ∃ i, i < N ∧ (L i).how = 0) (h : Seek st L N c d free) (h0 : (L ((st c + d) % N)).how ≠ 0) : d + 1 < N := by
  obtain ⟨i, hi, he⟩ := hE
  obtain ⟨de, hde, e⟩ := ring_onto (s := st c) hi
  rw [← e] at he
  rcases Nat.lt_trichotomy de d with hlt | heq | hgt
  · exact absurd he (h.past de hlt).1
  · subst heq; exact absurd he h0
  · omega
theorem Seek.next {st : Key → Nat} {L : Nat → Pl} {N : Nat} {c : Key} {d : Nat} {free : Int} (hE : ∃ i, i < N ∧ (L i).how = 0) (h : Seek st L N c d free) (h0 : (L ((st c + d) % N)).how ≠ 0)
    (h1 : ¬ ((L ((st c + d) % N)).how = 1 ∧ (L ((st c + d) % N)).key = c)) (f' : Int) (hf : f' = free ∨ (f' = (((st c + d) % N : Nat) : Int) ∧ (L ((st c + d) % N)).how = 2)) : Seek st L N c (d + 1) f' := by
  refine ⟨h.lt hE h0, fun d' hd' => ?_, ?_⟩
  · by_cases e : d' = d
    · subst e; exact ⟨h0, h1⟩
    · exact h.past d' (by omega)
  · rcases hf with hf | ⟨hf, h2⟩
    · rw [hf]
      rcases h.free with h3 | ⟨d', hd', h4, h5⟩
      · exact .inl h3
      · exact .inr ⟨d', by omega, h4, h5⟩
    · exact .inr ⟨d, by omega, hf, h2⟩
theorem ring_next {s d N : Nat} : ((s + d) % N + 1) % N = (s + (d + 1)) % N := by
  rw [Nat.mod_add_mod, Nat.add_assoc]

/-! ### storing -/
theorem Found.put {st : Key → Nat} {L : Nat → Pl} {N : Nat} {c : Key} {k : Nat} {b : Bool} (hI : Inv st L N) (h : Found st L N c k b) (v : Int) : Inv st (upd L k ⟨1, c, v⟩) N := by
  have hk := h.lt
  have hne : ∀ i, (L i).how ≠ 0 → (upd L k ⟨1, c, v⟩ i).how ≠ 0 := by
    intro i hi
    by_cases e : i = k
    · subst e; rw [upd_same]; simp
    · rw [upd_other _ _ _ _ e]; exact hi
  have hway : ∀ c' i, Way st L N c' i → Way st (upd L k ⟨1, c, v⟩) N c' i := fun c' i ⟨d, hd, e, hw⟩ => ⟨d, hd, e, fun d' hd' => hne _ (hw d' hd')⟩
  have hwk : Way st L N c k := by
    cases b with
    | true => obtain ⟨h1, h2⟩ := h.yes rfl; have := hI.way k hk h1; rwa [h2] at this
    | false => exact (h.no rfl).2.2
  refine ⟨fun i hi => ?_, fun i hi h1 => ?_, fun i j hi hj h1 h2 he => ?_⟩
  · by_cases e : i = k
    · subst e; rw [upd_same]; simp
    · rw [upd_other _ _ _ _ e]; exact hI.kinds i hi
  · by_cases e : i = k
    · subst e; rw [upd_same]; exact hway _ _ hwk
    · rw [upd_other _ _ _ _ e] at h1 ⊢; exact hway _ _ (hI.way i hi h1)
  · have hother : ∀ j, j < N → j ≠ k → (L j).how = 1 → (L j).key ≠ c := by
      intro j hj hjk h1 hc
      cases b with
      | true => obtain ⟨h3, h4⟩ := h.yes rfl; exact hjk (hI.once j k hj hk h1 h3 (by rw [hc, h4]))
      | false => exact (h.no rfl).1 j hj h1 hc
    by_cases e : i = k
    · by_cases e' : j = k
      · rw [e, e']
      · subst e
        rw [upd_same, upd_other _ _ _ _ e'] at he
        rw [upd_other _ _ _ _ e'] at h2
        exact absurd he.symm (hother j hj e' h2)
    · by_cases e' : j = k
      · subst e'
        rw [upd_same, upd_other _ _ _ _ e] at he
        rw [upd_other _ _ _ _ e] at h1
        exact absurd he (hother i hi e h1)
      · rw [upd_other _ _ _ _ e] at h1 he
        rw [upd_other _ _ _ _ e'] at h2 he
        exact hI.once i j hi hj h1 h2 he
def setK (M : Key → Option Int) (c : Key) (o : Option Int) : Key → Option Int := fun c' => if c' = c then o else M c'
theorem Found.others {st : Key → Nat} {L : Nat → Pl} {N : Nat} {c : Key} {k : Nat} {b : Bool} (hI : Inv st L N) (h : Found st L N c k b) : ∀ j, j < N → j ≠ k → (L j).how = 1 → (L j).key ≠ c := by
  intro j hj hjk h1 hc
  cases b with
  | true => obtain ⟨h3, h4⟩ := h.yes rfl; exact hjk (hI.once j k hj h.lt h1 h3 (by rw [hc, h4]))
  | false => exact (h.no rfl).1 j hj h1 hc
theorem Found.has {st : Key → Nat} {L : Nat → Pl} {N : Nat} {c : Key} {k : Nat} {b : Bool} (h : Found st L N c k b) {M : Key → Option Int} (hR : Rep L N M) : (b = true → M c = some (L k).v) ∧ (b = false → M c = none) := by
  constructor
  · intro e
    obtain ⟨h1, h2⟩ := h.yes e
    exact (hR c _).2 ⟨k, h.lt, h1, h2, rfl⟩
  · intro e
    cases hM : M c with
    | none => rfl
    | some v =>
      obtain ⟨i, hi, h1, h2, _⟩ := (hR c v).1 hM
      exact absurd h2 ((h.no e).1 i hi h1)
theorem Found.rep {st : Key → Nat} {L : Nat → Pl} {N : Nat} {c : Key} {k : Nat} {b : Bool} (hI : Inv st L N) (h : Found st L N c k b) {M : Key → Option Int} (hR : Rep L N M) (v : Int) :
    Rep (upd L k ⟨1, c, v⟩) N (setK M c (some v)) := by
  intro c' v'
  unfold setK
  by_cases e : c' = c
  · subst e
    rw [if_pos rfl]
    constructor
    · intro e; injection e with e; subst e; exact ⟨k, h.lt, by rw [upd_same], by rw [upd_same], by rw [upd_same]⟩
    · rintro ⟨i, hi, h1, h2, h3⟩
      by_cases e : i = k
      · subst e; rw [upd_same] at h3; rw [← h3]
      · rw [upd_other _ _ _ _ e] at h1 h2
        exact absurd h2 (h.others hI i hi e h1)
  · rw [if_neg e, hR c' v']
    constructor
    · rintro ⟨i, hi, h1, h2, h3⟩
      have hik : i ≠ k := by
        rintro rfl
        cases b with
        | true => exact e (by rw [← h2, (h.yes rfl).2])
        | false => exact absurd h1 (h.no rfl).2.1
      exact ⟨i, hi, by rw [upd_other _ _ _ _ hik]; exact h1, by rw [upd_other _ _ _ _ hik]; exact h2, by rw [upd_other _ _ _ _ hik]; exact h3⟩
    · rintro ⟨i, hi, h1, h2, h3⟩
      have hik : i ≠ k := by rintro rfl; rw [upd_same] at h2; exact e h2.symm
      rw [upd_other _ _ _ _ hik] at h1 h2 h3
      exact ⟨i, hi, h1, h2, h3⟩
theorem drop_inv {st : Key → Nat} {L : Nat → Pl} {N k : Nat} (hI : Inv st L N) (_hk : k < N) (x : Pl) (hx : x.how = 2) : Inv st (upd L k x) N := by
  have hne : ∀ i, (L i).how ≠ 0 → (upd L k x i).how ≠ 0 := by
    intro i hi
    by_cases e : i = k
    · subst e; rw [upd_same]; omega
    · rw [upd_other _ _ _ _ e]; exact hi
  refine ⟨fun i hi => ?_, fun i hi h1 => ?_, fun i j hi hj h1 h2 he => ?_⟩
  · by_cases e : i = k
    · subst e; rw [upd_same]; omega
    · rw [upd_other _ _ _ _ e]; exact hI.kinds i hi
  · have e : i ≠ k := by rintro rfl; rw [upd_same] at h1; omega
    rw [upd_other _ _ _ _ e] at h1 ⊢
    obtain ⟨d, hd, e1, hw⟩ := hI.way i hi h1
    exact ⟨d, hd, e1, fun d' hd' => hne _ (hw d' hd')⟩
  · have e : i ≠ k := by rintro rfl; rw [upd_same] at h1; omega
    have e' : j ≠ k := by rintro rfl; rw [upd_same] at h2; omega
    rw [upd_other _ _ _ _ e] at h1 he
    rw [upd_other _ _ _ _ e'] at h2 he
    exact hI.once i j hi hj h1 h2 he
theorem Found.rep_drop {st : Key → Nat} {L : Nat → Pl} {N : Nat} {c : Key} {k : Nat} (hI : Inv st L N) (h : Found st L N c k true) {M : Key → Option Int} (hR : Rep L N M) (x : Pl) (hx : x.how = 2) :
    Rep (upd L k x) N (setK M c none) := by
  intro c' v'
  unfold setK
  constructor
  · intro hM
    by_cases e : c' = c
    · rw [if_pos e] at hM; cases hM
    · rw [if_neg e] at hM
      obtain ⟨i, hi, h1, h2, h3⟩ := (hR c' v').1 hM
      have hik : i ≠ k := by rintro rfl; exact e (by rw [← h2, (h.yes rfl).2])
      exact ⟨i, hi, by rw [upd_other _ _ _ _ hik]; exact h1, by rw [upd_other _ _ _ _ hik]; exact h2, by rw [upd_other _ _ _ _ hik]; exact h3⟩
  · rintro ⟨i, hi, h1, h2, h3⟩
    have hik : i ≠ k := by rintro rfl; rw [upd_same] at h1; omega
    rw [upd_other _ _ _ _ hik] at h1 h2 h3
    rw [if_neg (fun e => h.others hI i hi hik h1 (by rw [h2, e]))]
    exact (hR c' v').2 ⟨i, hi, h1, h2, h3⟩
theorem setK_same (M : Key → Option Int) (c : Key) (o : Option Int) (h : M c = o) : setK M c o = M := by
  funext c'
  unfold setK
  by_cases e : c' = c
  · rw [if_pos e, e, h]
  · rw [if_neg e]

/-! ### counts -/
theorem cnt_full_put {st : Key → Nat} {L : Nat → Pl} {N : Nat} {c : Key} {k : Nat} {b : Bool} (h : Found st L N c k b) (v : Int) :
    cntB (full (upd L k ⟨1, c, v⟩)) N = cntB (full L) N + (!b).toNat := by
  have hu := cntB_upd (p := full L) (q := full (upd L k ⟨1, c, v⟩)) h.lt (fun i _ hn => by unfold full; rw [upd_other _ _ _ _ hn])
  have e1 : full (upd L k ⟨1, c, v⟩) k = true := by unfold full; rw [upd_same]; rfl
  rw [e1] at hu
  cases b with
  | true =>
    have e2 : full L k = true := by unfold full; rw [(h.yes rfl).1]; rfl
    rw [e2] at hu; simp at hu ⊢; omega
  | false =>
    have e2 : full L k = false := by unfold full; simpa using (h.no rfl).2.1
    rw [e2] at hu; simp at hu ⊢; omega
theorem cnt_taken_put {st : Key → Nat} {L : Nat → Pl} {N : Nat} {c : Key} {k : Nat} {b : Bool} (h : Found st L N c k b) (v : Int) :
    cntB (taken (upd L k ⟨1, c, v⟩)) N = cntB (taken L) N + (if (L k).how = 0 then 1 else 0) := by
  have hu := cntB_upd (p := taken L) (q := taken (upd L k ⟨1, c, v⟩)) h.lt (fun i _ hn => by unfold taken; rw [upd_other _ _ _ _ hn])
  have e1 : taken (upd L k ⟨1, c, v⟩) k = true := by unfold taken; rw [upd_same]; rfl
  rw [e1] at hu
  by_cases h0 : (L k).how = 0
  · have e2 : taken L k = false := by unfold taken; rw [h0]; rfl
    rw [e2] at hu; rw [if_pos h0]; simp at hu ⊢; omega
  · have e2 : taken L k = true := by unfold taken; simpa using h0
    rw [e2] at hu; rw [if_neg h0]; simp at hu ⊢; omega
theorem cnt_full_drop {st : Key → Nat} {L : Nat → Pl} {N : Nat} {c : Key} {k : Nat} (h : Found st L N c k true) (x : Pl) (hx : x.how = 2) :
    cntB (full (upd L k x)) N + 1 = cntB (full L) N := by
  have hu := cntB_upd (p := full L) (q := full (upd L k x)) h.lt (fun i _ hn => by unfold full; rw [upd_other _ _ _ _ hn])
  have e1 : full (upd L k x) k = false := by unfold full; rw [upd_same, hx]; rfl
  have e2 : full L k = true := by unfold full; rw [(h.yes rfl).1]; rfl
  rw [e1, e2] at hu; simp at hu; omega
theorem cnt_taken_drop {st : Key → Nat} {L : Nat → Pl} {N : Nat} {c : Key} {k : Nat} (h : Found st L N c k true) (x : Pl) (hx : x.how = 2) :
    cntB (taken (upd L k x)) N = cntB (taken L) N := by
  have hu := cntB_upd (p := taken L) (q := taken (upd L k x)) h.lt (fun i _ hn => by unfold taken; rw [upd_other _ _ _ _ hn])
  have e1 : taken (upd L k x) k = true := by unfold taken; rw [upd_same, hx]; rfl
  have e2 : taken L k = true := by unfold taken; rw [(h.yes rfl).1]; rfl
  rw [e1, e2] at hu; simp at hu; omega
theorem full_le_taken (L : Nat → Pl) (N : Nat) : cntB (full L) N ≤ cntB (taken L) N := cntB_mono fun i _ h => by
  unfold full at h; unfold taken; simp at h ⊢; omega
theorem empty_of {L : Nat → Pl} {N : Nat} (h : cntB (taken L) N < N) : ∃ i, i < N ∧ (L i).how = 0 := by
  obtain ⟨i, hi, h1⟩ := cntB_lt h
  exact ⟨i, hi, by unfold taken at h1; simpa using h1⟩

/-! ### a table whose places are all empty; a part of another table put in -/
theorem Inv.new (st : Key → Nat) {L : Nat → Pl} {N : Nat} (h : ∀ i, i < N → (L i).how = 0) : Inv st L N :=
  ⟨fun i hi => .inl (h i hi), fun i hi h1 => by have := h i hi; omega, fun i j hi _ h1 => by have := h i hi; omega⟩
theorem Rep.new {L : Nat → Pl} {N : Nat} (h : ∀ i, i < N → (L i).how = 0) : Rep L N (fun _ => none) := fun c v => by
  constructor
  · intro e; cases e
  · rintro ⟨i, hi, h1, _⟩; have := h i hi; omega
/-- the content of the first j places -/
def Part (L : Nat → Pl) (j : Nat) (M : Key → Option Int) : Prop := Rep L j M
theorem Part.skip {L : Nat → Pl} {j : Nat} {M : Key → Option Int} (h : Rep L j M) (h1 : (L j).how ≠ 1) : Rep L (j + 1) M := fun c v => by
  rw [h c v]
  constructor
  · rintro ⟨i, hi, r⟩; exact ⟨i, by omega, r⟩
  · rintro ⟨i, hi, r⟩
    exact ⟨i, by
      rcases Nat.lt_or_ge i j with h2 | h2
      · exact h2
      · have : i = j := by omega
        subst this; exact absurd r.1 h1, r⟩
theorem Part.fresh {st : Key → Nat} {L : Nat → Pl} {N j : Nat} {M : Key → Option Int} (hI : Inv st L N) (hj : j < N) (h : Rep L j M) (h1 : (L j).how = 1) : M (L j).key = none := by
  cases hM : M (L j).key with
  | none => rfl
  | some v =>
    obtain ⟨i, hi, h2, h3, _⟩ := (h _ v).1 hM
    have := hI.once i j (by omega) hj h2 h1 h3
    omega
theorem Part.more {st : Key → Nat} {L : Nat → Pl} {N j : Nat} {M : Key → Option Int} (hI : Inv st L N) (hj : j < N) (h : Rep L j M) (h1 : (L j).how = 1) : Rep L (j + 1) (setK M (L j).key (some (L j).v)) := fun c v => by
  unfold setK
  by_cases e : c = (L j).key
  · rw [if_pos e]
    constructor
    · intro e2; injection e2 with e2; exact ⟨j, by omega, h1, e.symm, e2⟩
    · rintro ⟨i, hi, h2, h3, h4⟩
      have := hI.once i j (by omega) hj h2 h1 (by rw [h3, e])
      subst this; rw [h4]
  · rw [if_neg e, h c v]
    constructor
    · rintro ⟨i, hi, r⟩; exact ⟨i, by omega, r⟩
    · rintro ⟨i, hi, r⟩
      exact ⟨i, by
        rcases Nat.lt_or_ge i j with h2 | h2
        · exact h2
        · have : i = j := by omega
          subst this; exact absurd r.2.1.symm e, r⟩
end Go.Proofs.YtobhjkfkdkiigaaGreatDoor.HP

namespace Go.Proofs.YtobhjkfkdkiigaaGreatDoor
open Go.RowKit

theorem run_part_int {P : Program} {E : TypeId} {k : IntKind} (hE : P.underlying E = some (.int k)) (cs : Array Value) (off : Nat) (v : Value) (h : cs[off]? = some v) (w : World) : (part E cs off).run P w = .ok v w := by
  simp [part, isAgg, run_underlying hE, h]
theorem run_eq_arr3 {P : Program} {T E : TypeId} {i : TypeInfo} (hT : P.underlying T = some (.array 3 E)) (hE : P.underlying E = some (.int .i64)) (hi : P.info? E = some i) (hs : i.size = 1)
    (a b c a' b' c' : Int) (w : World) :
    (Op.equalIn 10000 T (.agg #[.int .i64 a, .int .i64 b, .int .i64 c]) (.agg #[.int .i64 a', .int .i64 b', .int .i64 c'])).run P w = .ok (a == a' && (b == b' && c == c')) w := by
  have h : ∀ x y w, (Op.equalIn 9999 E (.int .i64 x) (.int .i64 y)).run P w = .ok (x == y) w := fun x y w => run_equalIn_int w 9998 E .i64 .i64 x y hE
  have p0 : ∀ (u v x : Value) w, (part E #[u, v, x] 0).run P w = .ok u w := fun u v x w => run_part_int hE _ _ _ rfl w
  have p1 : ∀ (u v x : Value) w, (part E #[u, v, x] 1).run P w = .ok v w := fun u v x w => run_part_int hE _ _ _ rfl w
  have p2 : ∀ (u v x : Value) w, (part E #[u, v, x] 2).run P w = .ok x w := fun u v x w => run_part_int hE _ _ _ rfl w
  rw [Op.equalIn]
  simp [run_underlying hT, sizeOf, typeInfo, hi, hs, Std.Legacy.Range.forIn_eq_forIn_range', List.range', h, p0, p1, p2]
  by_cases e1 : a = a' <;> by_cases e2 : b = b' <;> by_cases e3 : c = c' <;> simp [e1, e2, e3]
theorem int_info : (Tryz.prog.info? 3).map (fun i => (i.zero, i.size, i.bytes)) = some (some (.int .i64 0), 1, 8) := by kernel_rfl
theorem eq_arr3 (a b c a' b' c' : Int) (w : World) : (Op.equalIn 10000 123 (.agg #[.int .i64 a, .int .i64 b, .int .i64 c]) (.agg #[.int .i64 a', .int .i64 b', .int .i64 c'])).run Tryz.prog w = .ok (a == a' && (b == b' && c == c')) w := by
  obtain ⟨i, hi, _, h1, _⟩ := info_parts int_info
  exact run_eq_arr3 Tryz.underlying123 Tryz.underlying3 hi h1 a b c a' b' c' w
theorem guard_arr3 (x y : Operand) (xs ys : Array Value) (w : World) : (eqGuard .eql 123 x y (.agg xs) (.agg ys)).run Tryz.prog w = .ok () w := run_eqGuard_agg w .eql _ x y xs ys (by kernel_rfl)
end Go.Proofs.YtobhjkfkdkiigaaGreatDoor

namespace Go.Proofs.YtobhjkfkdkiigaaGreatDoor
open Go.RowKit HP

/-! ### the first place of a key -/
def hmix (x a : Int) : Int := IntKind.u64.wrap (bits .xor .u64 x (IntKind.u64.wrap a) * 11400714819323198485)
def hstep (x a : Int) : Int := bits .xor .u64 (hmix x a) (hmix x a / 536870912)
theorem hstep_eq (x a : Int) : hstep x a = bits .xor .u64 (IntKind.u64.wrap (bits .xor .u64 x (IntKind.u64.wrap a) * 11400714819323198485)) (IntKind.u64.wrap (bits .xor .u64 x (IntKind.u64.wrap a) * 11400714819323198485) / 536870912) := by unfold hstep hmix; rfl
def hsum (c : Key) : Int := hstep (hstep (hstep 0 c.1) c.2.1) c.2.2
def hpart (c : Key) : Nat → Int
  | 0 => 0
  | 1 => hstep 0 c.1
  | 2 => hstep (hstep 0 c.1) c.2.1
  | _ => hsum c
theorem hpart_z (a b d : Int) : Hid ((0 : Int) = hpart (a, b, d) 0) := by unfold hpart; rfl
theorem hpart_0 (a b d x : Int) (h : x = hpart (a, b, d) 0) : Hid (hstep x a = hpart (a, b, d) 1) := by rw [h]; rfl
theorem hpart_1 (a b d x : Int) (h : x = hpart (a, b, d) 1) : Hid (hstep x b = hpart (a, b, d) 2) := by rw [h]; rfl
theorem hpart_2 (a b d x : Int) (h : x = hpart (a, b, d) 2) : Hid (hstep x d = hpart (a, b, d) 3) := by rw [h]; rfl
def st (N : Nat) (c : Key) : Nat := (bits .and .u64 (hsum c) ((N : Int) - 1)).toNat
theorem u64_and_le (x : Int) (b : Nat) (hb : b < 18446744073709551616) : ∃ k : Nat, bits .and .u64 x (b : Int) = (k : Int) ∧ k ≤ b := by
  refine ⟨(BitVec.ofInt 64 x).toNat &&& b, ?_, Nat.and_le_right⟩
  show IntKind.u64.wrap ((BitVec.ofInt 64 x &&& BitVec.ofInt 64 (b : Int)).toNat : Int) = _
  rw [BitVec.toNat_and, BitVec.ofInt_natCast, BitVec.toNat_ofNat, Nat.mod_eq_of_lt (by simpa using hb)]
  have h : (BitVec.ofInt 64 x).toNat &&& b ≤ b := Nat.and_le_right
  show (((BitVec.ofInt 64 x).toNat &&& b : Nat) : Int) % 18446744073709551616 = _
  omega
theorem st_lt (N : Nat) (c : Key) (h : 0 < N) (h2 : N ≤ 4194304) : st N c < N ∧ wrap64 (bits .and .u64 (hsum c) ((N : Int) - 1)) = (st N c : Nat) := by
  obtain ⟨k, e, hk⟩ := u64_and_le (hsum c) (N - 1) (by omega)
  rw [show ((N - 1 : Nat) : Int) = (N : Int) - 1 by omega] at e
  unfold st
  rw [e, Int.toNat_natCast]
  exact ⟨by omega, IntWalk.wrap64_in _ ⟨by omega, by omega⟩⟩

/-- the value of a key -/
def kv (c : Key) : Value := .agg #[.int .i64 c.1, .int .i64 c.2.1, .int .i64 c.2.2]
theorem run_index3 (a b c : Value) (i : Nat) (v : Value) (h : #[a, b, c][i]? = some v) (hi : i < 3) (w : World) : (Instr.index 123 (.agg #[a, b, c]) (.int .i64 (i : Int))).run Tryz.prog w = .ok v w := by
  rcases (by omega : i = 0 ∨ i = 1 ∨ i = 2) with rfl | rfl | rfl <;> (simp at h; subst h; kernel_rfl)

set_option maxHeartbeats 400000 in
theorem start_ok (p g N : Nat) (u n : Value) (c : Key) (w : World) (hN : N ≤ 4194304) (hN0 : 16 ≤ N) (hp : Blk w p 128 #[.slice (some ⟨g, 0, none⟩) N N, n, u]) :
    Calls Tryz.prog 94 #[.pointer (some ⟨p, 0, none⟩), .agg #[.int .i64 c.1, .int .i64 c.2.1, .int .i64 c.2.2]] w fun e w' => e = .returned (.int .i64 (st N c : Nat)) ∧ Below w.heap.size w w' := by
  have hp0 := hp.cell 0
  have hplt := hp.lt
  simp only [List.getElem?_toArray, List.getElem?_cons_zero] at hp0
  have hst := Lib.hid (st_lt N c (by omega) hN)
  obtain ⟨a, b, d⟩ := c
  have i0 : ∀ w, (Instr.index 123 (.agg #[.int .i64 a, .int .i64 b, .int .i64 d]) (.int .i64 0)).run Tryz.prog w = .ok (.int .i64 a) w := fun w => run_index3 (.int .i64 a) (.int .i64 b) (.int .i64 d) 0 _ rfl (by omega) w
  have i1 : ∀ w, (Instr.index 123 (.agg #[.int .i64 a, .int .i64 b, .int .i64 d]) (.int .i64 1)).run Tryz.prog w = .ok (.int .i64 b) w := fun w => run_index3 (.int .i64 a) (.int .i64 b) (.int .i64 d) 1 _ rfl (by omega) w
  have i2 : ∀ w, (Instr.index 123 (.agg #[.int .i64 a, .int .i64 b, .int .i64 d]) (.int .i64 2)).run Tryz.prog w = .ok (.int .i64 d) w := fun w => run_index3 (.int .i64 a) (.int .i64 b) (.int .i64 d) 2 _ rfl (by omega) w
  go_enter Tryz.func94, Tryz.ntmps94
  go_wp2
  go_loop [5, 9] (fun n i => ∃ k : Nat, k ≤ 3 ∧ i = .int .i64 k ∧ ∃ x : Int, n = .int .u64 x ∧ Hid (x = hpart (a, b, d) k)) (fun _ i => 3 - (intOf i).toNat)
  case atStart => exact ⟨0, by omega, rfl, 0, rfl, hpart_z a b d⟩
  case round =>
    obtain ⟨k, hk, rfl, x, rfl, hx⟩ := hrel
    rcases (by omega : k = 0 ∨ k = 1 ∨ k = 2 ∨ k = 3) with rfl | rfl | rfl | rfl
    · go_wp2
      go_round
      case rel => exact ⟨1, by omega, rfl, hstep x a, congrArg (Value.int .u64) (hstep_eq x a).symm, hpart_0 _ _ _ _ hx.out⟩
      case measure => simp [intOf]
    · go_wp2
      go_round
      case rel => exact ⟨2, by omega, rfl, hstep x b, congrArg (Value.int .u64) (hstep_eq x b).symm, hpart_1 _ _ _ _ hx.out⟩
      case measure => simp [intOf]
    · go_wp2
      go_round
      case rel => exact ⟨3, by omega, rfl, hstep x d, congrArg (Value.int .u64) (hstep_eq x d).symm, hpart_2 _ _ _ _ hx.out⟩
      case measure => simp [intOf]
    · go_wp2
      go_ret
      exact ⟨ret_int (by rw [hx.out]; exact hst.out.2), (Below.refl _ _).alloc (Nat.le_refl _) _⟩

/-! ### the places in memory -/
def Places (w : World) (g N : Nat) (L : Nat → Pl) : Prop := ∃ cs : Array Value, Blk w g 150 cs ∧ cs.size = N * 5 ∧
  ∀ i, i < N → cs[i * 5]? = some (.int .i64 (L i).how) ∧ cs[i * 5 + 1]? = some (.int .i64 (L i).key.1) ∧ cs[i * 5 + 2]? = some (.int .i64 (L i).key.2.1) ∧ cs[i * 5 + 3]? = some (.int .i64 (L i).key.2.2) ∧ cs[i * 5 + 4]? = some (.int .i64 (L i).v)
theorem Places.lt {w : World} {g N : Nat} {L : Nat → Pl} (h : Places w g N L) : g < w.heap.size := by obtain ⟨cs, hb, _⟩ := h; exact hb.lt
theorem Places.at_ {w : World} {g N : Nat} {L : Nat → Pl} (h : Places w g N L) {i : Nat} (hi : i < N) :
    w.cell? ⟨g, i * 5, none⟩ = some (.int .i64 (L i).how) ∧ w.cell? ⟨g, i * 5 + 1, none⟩ = some (.int .i64 (L i).key.1) ∧ w.cell? ⟨g, i * 5 + 2, none⟩ = some (.int .i64 (L i).key.2.1) ∧
      w.cell? ⟨g, i * 5 + 3, none⟩ = some (.int .i64 (L i).key.2.2) ∧ w.cell? ⟨g, i * 5 + 4, none⟩ = some (.int .i64 (L i).v) := by
  obtain ⟨cs, hb, _, hc⟩ := h
  obtain ⟨h0, h1, h2, h3, h4⟩ := hc i hi
  exact ⟨(hb.cell _).trans h0, (hb.cell _).trans h1, (hb.cell _).trans h2, (hb.cell _).trans h3, (hb.cell _).trans h4⟩
theorem Places.keep {w w' : World} {g N : Nat} {L : Nat → Pl} (h : Places w g N L) (hk : w'.heap[g]? = w.heap[g]?) : Places w' g N L := by
  obtain ⟨cs, hb, r⟩ := h
  exact ⟨cs, hk.trans hb, r⟩
theorem Places.below {w w' : World} {g N B : Nat} {L : Nat → Pl} (h : Places w g N L) (hb : Below B w w') (hg : g < B) : Places w' g N L := h.keep (hb.block g hg)

/-- what find leaves -/
def FindPost (N : Nat) (L : Nat → Pl) (c : Key) (w : World) (e : Ending) (w' : World) : Prop :=
  ∃ k b, e = .returned (.tuple #[.int .i64 ((k : Nat) : Int), .bool b]) ∧ HP.Found (st N) L N c k b ∧ Below w.heap.size w w'

theorem and_ring (j k : Nat) (hj : j ≤ 22) (hk : k < 2 ^ j) : bits .and .i64 ((k : Int) + 1) (((2 ^ j : Nat) : Int) - 1) = (((k + 1) % 2 ^ j : Nat) : Int) := by
  have hp : 2 ^ j ≤ 2 ^ 22 := Nat.pow_le_pow_right (by decide) hj
  have h0 := Nat.one_le_two_pow (n := j)
  have e22 : (2 : Nat) ^ 22 = 4194304 := by decide
  have hx : (k + 1) &&& (2 ^ j - 1) = (k + 1) % 2 ^ j := Nat.and_two_pow_sub_one_eq_mod _ _
  have hlt : (k + 1) % 2 ^ j < 2 ^ j := Nat.mod_lt _ (by omega)
  rw [show ((k : Int) + 1) = ((k + 1 : Nat) : Int) by omega, show (((2 ^ j : Nat) : Int) - 1) = ((2 ^ j - 1 : Nat) : Int) by omega]
  show IntKind.i64.wrap ((BitVec.ofInt 64 ((k + 1 : Nat) : Int) &&& BitVec.ofInt 64 ((2 ^ j - 1 : Nat) : Int)).toNat : Int) = _
  rw [BitVec.toNat_and, BitVec.ofInt_natCast, BitVec.toNat_ofNat, BitVec.ofInt_natCast, BitVec.toNat_ofNat, Nat.mod_eq_of_lt (a := k + 1) (by omega), Nat.mod_eq_of_lt (a := 2 ^ j - 1) (by omega), hx, IntKind.wrap_i64]
  omega

theorem eq_keys (x c : Key) (w : World) : (Op.equalIn 10000 123 (.agg #[.int .i64 x.1, .int .i64 x.2.1, .int .i64 x.2.2]) (.agg #[.int .i64 c.1, .int .i64 c.2.1, .int .i64 c.2.2])).run Tryz.prog w = .ok (decide (x = c)) w := by
  rw [eq_arr3]
  obtain ⟨a, b, d⟩ := x
  obtain ⟨a', b', d'⟩ := c
  congr 1
  rw [Bool.eq_iff_iff]
  simp

set_option maxHeartbeats 1000000 in
set_option maxRecDepth 100000 in
theorem find_ok (p g N j : Nat) (u n : Value) (L : Nat → Pl) (c : Key) (w : World) (hj : N = 2 ^ j) (hj2 : j ≤ 22) (hN0 : 16 ≤ N) (hp : Blk w p 128 #[.slice (some ⟨g, 0, none⟩) N N, n, u])
    (hg : Places w g N L) (hI : Inv (st N) L N) (hE : ∃ i, i < N ∧ (L i).how = 0) :
    Calls Tryz.prog 73 #[.pointer (some ⟨p, 0, none⟩), .agg #[.int .i64 c.1, .int .i64 c.2.1, .int .i64 c.2.2]] w (FindPost N L c w) := by
  have hN : N ≤ 4194304 := by rw [hj]; exact Nat.pow_le_pow_right (by decide) hj2
  have HJ := Lib.hid hj; clear hj
  have hp0 := hp.cell 0
  have hplt := hp.lt
  have hglt := hg.lt
  have hst := (st_lt N c (by omega) hN).1
  simp only [List.getElem?_toArray, List.getElem?_cons_zero] at hp0
  go_enter Tryz.func73, Tryz.ntmps73
  go_wp2_with (go_at_call 94; refine (start_ok p g N u n c _ hN hN0 (hp.alloc_ _)).mono ?_; rintro e w1 ⟨rfl, hb1⟩)
  have hbk : Blk w1 w.heap.size 123 #[.int .i64 c.1, .int .i64 c.2.1, .int .i64 c.2.2] := (Blk.new_ w _ _).below hb1 (by simp)
  have hbel : Below w.heap.size w w1 := ((Below.refl _ _).alloc (Nat.le_refl _) _).trans (hb1.mono (by simp))
  clear hb1 hp0
  go_loopg [6, 7] N (fun m f i wr => ∃ (d : Nat) (f' : Int), m + d = N ∧ Seek (st N) L N c d f' ∧ i = .int .i64 (((st N c + d) % N : Nat) : Int) ∧ f = .int .i64 f' ∧ Below w.heap.size w wr ∧ Blk wr w.heap.size 123 #[.int .i64 c.1, .int .i64 c.2.1, .int .i64 c.2.2])
  case atStart => exact ⟨0, -1, rfl, Seek.start (by omega), by rw [Nat.add_zero, Nat.mod_eq_of_lt hst], rfl, hbel, hbk⟩
  case round =>
    obtain ⟨d, f', hmd, hs, rfl, rfl, hbr, hkr⟩ := hrel
    have HM := Lib.hid hmd; clear hmd
    have hk0 := hkr.cell 0
    have hk1 := hkr.cell 1
    have hk2 := hkr.cell 2
    simp only [List.getElem?_toArray, List.getElem?_cons_zero, List.getElem?_cons_succ] at hk0 hk1 hk2
    have hpr := hp.below hbr hplt
    have hp0 := hpr.cell 0
    simp only [List.getElem?_toArray, List.getElem?_cons_zero] at hp0
    have hil : (st N c + d) % N < N := Nat.mod_lt _ (by omega)
    have hgr := hg.below hbr hglt
    obtain ⟨i, hi⟩ : ∃ i, i = (st N c + d) % N := ⟨_, rfl⟩
    rw [← hi] at hil
    have Hi := Lib.hid hi
    rw [← hi]
    clear hi
    obtain ⟨q0, q1, q2, q3, q4⟩ := hgr.at_ hil
    have hglr : g < wr.heap.size := by have := hbr.size; omega
    have hplr : p < wr.heap.size := by have := hbr.size; omega
    have hklr : w.heap.size < wr.heap.size := hkr.lt
    have hkn := hI.kinds i hil
    have hkey := eq_keys (L i).key c
    have hgd : ∀ (x y : Operand) (a b d a' b' d' : Value) (w : World), (eqGuard .eql 123 x y (.agg #[a, b, d]) (.agg #[a', b', d'])).run Tryz.prog w = .ok () w := fun x y a b d a' b' d' w => guard_arr3 x y _ _ w
    have hnb : Below w.heap.size w wr → ∀ o, Below w.heap.size w (wr.alloc o) := fun h o => h.alloc (by omega) o
    have HB := Lib.hid (hbr.alloc (o := Obj.cells #[.int .i64 (L i).how, .int .i64 (L i).key.1, .int .i64 (L i).key.2.1, .int .i64 (L i).key.2.2, .int .i64 (L i).v] 150) (by omega))
    have HK := Lib.hid (hkr.alloc_ (Obj.cells #[.int .i64 (L i).how, .int .i64 (L i).key.1, .int .i64 (L i).key.2.1, .int .i64 (L i).key.2.2, .int .i64 (L i).v] 150))
    have HE := Lib.hid hE
    have HI := Lib.hid hI
    have HA : Hid (bits .and .i64 ((i : Int) + 1) ((N : Int) - 1) = (((st N c + (d + 1)) % N : Nat) : Int)) := by
      have h1 := and_ring j i hj2 (by rw [← HJ.out]; exact hil)
      rw [← HJ.out, Hi.out, ring_next] at h1
      rw [Hi.out]; exact h1
    have HS := Lib.hid hs
    clear hp hg hgr hpr hbk hbel hkr hE hI hbr hs hnb
    rcases hkn with h0 | h1 | h2
    · by_cases hf : f' < 0
      · have HH := Lib.hid h0
        go_wp2
        go_ret2
        exact ⟨i, false, rfl, by have hx := HS.out.here HI.out (by rw [← Hi.out]; exact HH.out); rwa [← Hi.out] at hx, by rw [HH.out] at HB; exact HB.out⟩
      · obtain ⟨k', rfl⟩ := Int.eq_ofNat_of_zero_le (show 0 ≤ f' by omega)
        have HH := Lib.hid h0
        go_wp2
        go_ret2
        exact ⟨k', false, rfl, HS.out.free_ HI.out (by rw [← Hi.out]; exact HH.out), by rw [HH.out] at HB; exact HB.out⟩
    · by_cases hk : (L i).key = c
      · have hkd : decide ((L i).key = c) = true := decide_eq_true hk
        have HK2 := Lib.hid hk; have HH := Lib.hid h1; clear hk
        go_wp2
        go_ret2
        exact ⟨i, true, rfl, by have hx := HS.out.yes (by rw [← Hi.out]; exact HH.out) (by rw [← Hi.out]; exact HK2.out); rwa [← Hi.out] at hx, by rw [HH.out] at HB; exact HB.out⟩
      · have hkd : decide ((L i).key = c) = false := decide_eq_false hk
        have HK2 := Lib.hid hk; have HH := Lib.hid h1; clear hk
        have HL := Lib.hid (HS.out.lt HE.out (by rw [← Hi.out, HH.out]; decide))
        have HN := Lib.hid (HS.out.next HE.out (by rw [← Hi.out, HH.out]; decide) (by rw [← Hi.out]; exact fun h => HK2.out h.2) f' (.inl rfl))
        go_wp2
        go_roundg (N - (d + 1))
        case measure => have := HM.out; have := HL.out; omega
        case rel => exact ⟨d + 1, f', by have := HL.out; omega, HN.out, by rw [HA.out], rfl, by rw [HH.out] at HB; exact HB.out, by rw [HH.out] at HK; exact HK.out⟩
    · by_cases hf : f' < 0
      · have HH := Lib.hid h2
        have HL := Lib.hid (HS.out.lt HE.out (by rw [← Hi.out, HH.out]; decide))
        have HN := Lib.hid (HS.out.next HE.out (by rw [← Hi.out, HH.out]; decide) (by rw [← Hi.out, HH.out]; exact fun h => by omega) (((st N c + d) % N : Nat) : Int) (.inr ⟨rfl, by rw [← Hi.out]; exact HH.out⟩))
        go_wp2
        go_roundg (N - (d + 1))
        case measure => have := HM.out; have := HL.out; omega
        case rel => exact ⟨d + 1, _, by have := HL.out; omega, HN.out, by rw [HA.out], by rw [Hi.out], by rw [HH.out] at HB; exact HB.out, by rw [HH.out] at HK; exact HK.out⟩
      · have HH := Lib.hid h2
        have HL := Lib.hid (HS.out.lt HE.out (by rw [← Hi.out, HH.out]; decide))
        have HN := Lib.hid (HS.out.next HE.out (by rw [← Hi.out, HH.out]; decide) (by rw [← Hi.out, HH.out]; exact fun h => by omega) f' (.inl rfl))
        go_wp2
        go_roundg (N - (d + 1))
        case measure => have := HM.out; have := HL.out; omega
        case rel => exact ⟨d + 1, f', by have := HL.out; omega, HN.out, by rw [HA.out], rfl, by rw [HH.out] at HB; exact HB.out, by rw [HH.out] at HK; exact HK.out⟩
end Go.Proofs.YtobhjkfkdkiigaaGreatDoor

namespace Go.Proofs.YtobhjkfkdkiigaaGreatDoor
open Go.RowKit HP

/-- block p is a table, its places lie in block g: it has the keys of M, n of them -/
structure HashIn (w : World) (p g j u : Nat) (L : Nat → Pl) (M : Key → Option Int) (n : Nat) : Prop where
  ne : p ≠ g
  lo : 4 ≤ j
  hi : j ≤ 22
  tab : Blk w p 128 #[.slice (some ⟨g, 0, none⟩) (2 ^ j) (2 ^ j), .int .i64 (n : Int), .int .i64 (u : Int)]
  pls : Places w g (2 ^ j) L
  inv : HP.Inv (st (2 ^ j)) L (2 ^ j)
  rep : Rep L (2 ^ j) M
  cf : cntB (full L) (2 ^ j) = n
  ct : cntB (taken L) (2 ^ j) = u
  lt : u < 2 ^ j
  most : n ≤ 1048576
def HashAt (w : World) (p g : Nat) (M : Key → Option Int) (n : Nat) : Prop := ∃ j u L, HashIn w p g j u L M n
theorem pow_lo (j : Nat) (h : 4 ≤ j) : 16 ≤ 2 ^ j := by have := Nat.pow_le_pow_right (n := 2) (by decide) h; simpa using this
theorem pow_hi (j : Nat) (h : j ≤ 22) : 2 ^ j ≤ 4194304 := by have := Nat.pow_le_pow_right (n := 2) (by decide) h; simpa using this
theorem HashIn.lts {w : World} {p g j u : Nat} {L : Nat → Pl} {M : Key → Option Int} {n : Nat} (h : HashIn w p g j u L M n) : p < w.heap.size ∧ g < w.heap.size := ⟨h.tab.lt, h.pls.lt⟩
theorem HashIn.keep {w w' : World} {p g j u : Nat} {L : Nat → Pl} {M : Key → Option Int} {n : Nat} (h : HashIn w p g j u L M n) (hp : w'.heap[p]? = w.heap[p]?) (hg : w'.heap[g]? = w.heap[g]?) : HashIn w' p g j u L M n :=
  { h with tab := hp.trans h.tab, pls := h.pls.keep hg }
theorem HashIn.below {w w' : World} {p g j u : Nat} {L : Nat → Pl} {M : Key → Option Int} {n : Nat} (h : HashIn w p g j u L M n) (hb : Below w.heap.size w w') : HashIn w' p g j u L M n :=
  h.keep (hb.block p h.lts.1) (hb.block g h.lts.2)
theorem HashAt.lts {w : World} {p g : Nat} {M : Key → Option Int} {n : Nat} (h : HashAt w p g M n) : p < w.heap.size ∧ g < w.heap.size := by obtain ⟨j, u, L, h⟩ := h; exact h.lts
theorem HashAt.ne {w : World} {p g : Nat} {M : Key → Option Int} {n : Nat} (h : HashAt w p g M n) : p ≠ g := by obtain ⟨j, u, L, h⟩ := h; exact h.ne
theorem HashAt.keep {w w' : World} {p g : Nat} {M : Key → Option Int} {n : Nat} (h : HashAt w p g M n) (hp : w'.heap[p]? = w.heap[p]?) (hg : w'.heap[g]? = w.heap[g]?) : HashAt w' p g M n := by
  obtain ⟨j, u, L, h⟩ := h; exact ⟨j, u, L, h.keep hp hg⟩
theorem HashAt.below {w w' : World} {p g : Nat} {M : Key → Option Int} {n : Nat} (h : HashAt w p g M n) (hb : Below w.heap.size w w') : HashAt w' p g M n := by
  obtain ⟨j, u, L, h⟩ := h; exact ⟨j, u, L, h.below hb⟩
theorem HashAt.only {w w' : World} {p g : Nat} {M : Key → Option Int} {n : Nat} {F : Nat → Prop} (h : HashAt w p g M n) (hb : Only F w w') (hp : ¬ F p) (hg : ¬ F g) : HashAt w' p g M n :=
  h.keep (hb.block p h.lts.1 hp) (hb.block g h.lts.2 hg)

/-! ### given, Len -/
theorem given_yes (w : World) (p g N : Nat) (x y : Value) (hN : 16 ≤ N) (hp : Blk w p 128 #[.slice (some ⟨g, 0, none⟩) N N, x, y]) :
    Calls Tryz.prog 72 #[.pointer (some ⟨p, 0, none⟩)] w fun e w' => e = .returned (.bool true) ∧ w = w' := by
  have hp0 := hp.cell 0
  have hplt := hp.lt
  have hpos : decide (0 < N) = true := decide_eq_true (by omega)
  simp only [List.getElem?_toArray, List.getElem?_cons_zero] at hp0
  go_enter Tryz.func72, Tryz.ntmps72
  go_wp2
  go_ret
  exact ⟨rfl, rfl⟩
theorem given_nil (w : World) : Calls Tryz.prog 72 #[.pointer none] w fun e w' => e = .returned (.bool false) ∧ w = w' := by
  go_enter Tryz.func72, Tryz.ntmps72
  go_wp2
  go_ret
  exact ⟨rfl, rfl⟩
theorem given_zero (w : World) (p : Nat) (x y : Value) (hp : Blk w p 128 #[.slice none 0 0, x, y]) :
    Calls Tryz.prog 72 #[.pointer (some ⟨p, 0, none⟩)] w fun e w' => e = .returned (.bool false) ∧ w = w' := by
  have hp0 := hp.cell 0
  have hplt := hp.lt
  simp only [List.getElem?_toArray, List.getElem?_cons_zero] at hp0
  go_enter Tryz.func72, Tryz.ntmps72
  go_wp2
  go_ret
  exact ⟨rfl, rfl⟩
theorem HashAt.given_ {w : World} {p g : Nat} {M : Key → Option Int} {n : Nat} (h : HashAt w p g M n) : Calls Tryz.prog 72 #[.pointer (some ⟨p, 0, none⟩)] w fun e w' => e = .returned (.bool true) ∧ w = w' := by
  obtain ⟨j, u, L, h⟩ := h
  exact given_yes w p g _ _ _ (pow_lo j h.lo) h.tab
def getV (M : Key → Option Int) (c : Key) : Int := (M c).getD 0
def getE (M : Key → Option Int) (c : Key) : Int := if (M c).isSome then 0 else 3
set_option maxHeartbeats 400000 in
theorem get_ok (w : World) (p g : Nat) (M : Key → Option Int) (n : Nat) (c : Key) (h : HashAt w p g M n) :
    Calls Tryz.prog 86 #[.pointer (some ⟨p, 0, none⟩), .agg #[.int .i64 c.1, .int .i64 c.2.1, .int .i64 c.2.2]] w fun e w' => e = .returned (.tuple #[.int .i64 (getV M c), .int .i64 (getE M c)]) ∧ Below w.heap.size w w' := by
  obtain ⟨j, u, L, h'⟩ := h
  have hN := pow_lo j h'.lo
  have hN2 := pow_hi j h'.hi
  have H := Lib.hid h'; clear h'
  go_enter Tryz.func86, Tryz.ntmps86
  go_wp2_with fail
  have hal : HashIn _ p g j u L M n := H.out.below ((Below.refl w.heap.size w).alloc (Nat.le_refl _) (.cells #[.int .i64 c.1, .int .i64 c.2.1, .int .i64 c.2.2] 123))
  refine (given_yes _ p g _ _ _ hN hal.tab).mono ?_
  rintro e w' ⟨rfl, rfl⟩
  have HA := Lib.hid hal; clear hal
  go_wp2_with fail
  refine (find_ok p g (2 ^ j) j _ _ L c _ rfl HA.out.hi hN HA.out.tab HA.out.pls HA.out.inv (empty_of (by rw [HA.out.ct]; exact HA.out.lt))).mono ?_
  rintro e w1 ⟨k, b, rfl, hf, hb1⟩
  have h1 := HA.out.below hb1
  have hbel : Below w.heap.size w w1 := ((Below.refl _ _).alloc (Nat.le_refl _) _).trans (hb1.mono (by simp))
  have hkl := hf.lt
  have hp0 := h1.tab.cell 0
  have hplt := h1.tab.lt
  have hglt := h1.pls.lt
  obtain ⟨q0, q1, q2, q3, q4⟩ := h1.pls.at_ hkl
  simp only [List.getElem?_toArray, List.getElem?_cons_zero] at hp0
  have HF := Lib.hid hf; have HR := Lib.hid h1.rep; clear hf h1 hb1
  cases b
  · have hv : getV M c = 0 ∧ getE M c = 3 := by unfold getV getE; rw [(HF.out.has HR.out).2 rfl]; exact ⟨rfl, rfl⟩
    have HV := Lib.hid hv; clear hv
    go_wp2
    go_ret2
    exact ⟨ret_int2 HV.out.1.symm HV.out.2.symm, hbel⟩
  · have hv : getV M c = (L k).v ∧ getE M c = 0 := by unfold getV getE; rw [(HF.out.has HR.out).1 rfl]; exact ⟨rfl, rfl⟩
    have HV := Lib.hid hv; clear hv
    go_wp2
    go_ret2
    exact ⟨ret_int2 HV.out.1.symm HV.out.2.symm, hbel⟩

/-! ### storing a place -/
def storePl (w : World) (g k : Nat) (x : Pl) : World := ((((w.setCell ⟨g, k * 5, none⟩ (.int .i64 x.how)).setCell ⟨g, k * 5 + 1, none⟩ (.int .i64 x.key.1)).setCell ⟨g, k * 5 + 2, none⟩ (.int .i64 x.key.2.1)).setCell ⟨g, k * 5 + 3, none⟩ (.int .i64 x.key.2.2)).setCell ⟨g, k * 5 + 4, none⟩ (.int .i64 x.v)
theorem Places.store {w : World} {g N : Nat} {L : Nat → Pl} (h : Places w g N L) {k : Nat} (hk : k < N) (x : Pl) : Places (storePl w g k x) g N (upd L k x) := by
  obtain ⟨cs, hb, hs, hc⟩ := h
  refine ⟨_, ((((hb.set_ (k * 5) _).set_ (k * 5 + 1) _).set_ (k * 5 + 2) _).set_ (k * 5 + 3) _).set_ (k * 5 + 4) _, by simpa using hs, fun i hi => ?_⟩
  by_cases e : i = k
  · subst e
    rw [upd_same]
    simp only [Array.getElem?_setIfInBounds, Array.size_setIfInBounds, hs]
    refine ⟨?_, ?_, ?_, ?_, ?_⟩
    · rw [if_neg (by omega), if_neg (by omega), if_neg (by omega), if_neg (by omega), if_pos trivial, if_pos (by omega)]
    · rw [if_neg (by omega), if_neg (by omega), if_neg (by omega), if_pos trivial, if_pos (by omega)]
    · rw [if_neg (by omega), if_neg (by omega), if_pos trivial, if_pos (by omega)]
    · rw [if_neg (by omega), if_pos trivial, if_pos (by omega)]
    · rw [if_pos trivial, if_pos (by omega)]
  · rw [upd_other _ _ _ _ e]
    obtain ⟨h0, h1, h2, h3, h4⟩ := hc i hi
    simp only [Array.getElem?_setIfInBounds]
    refine ⟨?_, ?_, ?_, ?_, ?_⟩ <;> rw [if_neg (by omega), if_neg (by omega), if_neg (by omega), if_neg (by omega), if_neg (by omega)] <;> assumption
theorem storePl_block (w : World) (g k : Nat) (x : Pl) (i : Nat) (hi : i ≠ g) : (storePl w g k x).heap[i]? = w.heap[i]? := by
  unfold storePl
  rw [Below.heap_setCell _ _ _ _ hi, Below.heap_setCell _ _ _ _ hi, Below.heap_setCell _ _ _ _ hi, Below.heap_setCell _ _ _ _ hi, Below.heap_setCell _ _ _ _ hi]
theorem storePl_only (w : World) (g k : Nat) (x : Pl) : Only (fun i => i = g) w (storePl w g k x) := by
  have h0 : ∀ (v : World) (h : Only (fun i => i = g) w v) (o : Nat) (u : Value), Only (fun i => i = g) w (v.setCell ⟨g, o, none⟩ u) := fun v h o u => h.setCell (p := ⟨g, o, none⟩) (fun _ => rfl) u
  exact h0 _ (h0 _ (h0 _ (h0 _ (h0 _ (Only.refl _ w) _ _) _ _) _ _) _ _) _ _
theorem Places.frozen {w : World} {g N : Nat} {L : Nat → Pl} (h : Places w g N L) (i : Nat) : w.frozen? ⟨g, i, none⟩ = false := by
  obtain ⟨cs, hb, _⟩ := h; exact hb.frozen i

/-! ### Drop -/
/-- what a call that changes the table leaves -/
def DropPost (p g : Nat) (M : Key → Option Int) (n : Nat) (c : Key) (w : World) (e : Ending) (w' : World) : Prop :=
  e = .returned (.bool (M c).isSome) ∧ HashAt w' p g (setK M c none) (if (M c).isSome then n - 1 else n) ∧ Only (fun i => i = p ∨ i = g) w w'
set_option maxHeartbeats 1000000 in
theorem drop_ok (w : World) (p g : Nat) (M : Key → Option Int) (n : Nat) (c : Key) (h : HashAt w p g M n) :
    Calls Tryz.prog 48 #[.pointer (some ⟨p, 0, none⟩), .agg #[.int .i64 c.1, .int .i64 c.2.1, .int .i64 c.2.2]] w (DropPost p g M n c w) := by
  obtain ⟨j, u, L, h'⟩ := h
  have hN := pow_lo j h'.lo
  have hN2 := pow_hi j h'.hi
  have H := Lib.hid h'; clear h'
  go_enter Tryz.func48, Tryz.ntmps48
  go_wp2_with fail
  have hal : HashIn _ p g j u L M n := H.out.below ((Below.refl w.heap.size w).alloc (Nat.le_refl _) (.cells #[.int .i64 c.1, .int .i64 c.2.1, .int .i64 c.2.2] 123))
  refine (given_yes _ p g _ _ _ hN hal.tab).mono ?_
  rintro e w' ⟨rfl, rfl⟩
  have HA := Lib.hid hal; clear hal
  go_wp2_with fail
  refine (find_ok p g (2 ^ j) j _ _ L c _ rfl HA.out.hi hN HA.out.tab HA.out.pls HA.out.inv (empty_of (by rw [HA.out.ct]; exact HA.out.lt))).mono ?_
  rintro e w1 ⟨k, b, rfl, hf, hb1⟩
  have h1 := HA.out.below hb1
  have hbel : Below w.heap.size w w1 := ((Below.refl _ _).alloc (Nat.le_refl _) _).trans (hb1.mono (by simp))
  have hkl := hf.lt
  have hplt := h1.tab.lt
  have hglt := h1.pls.lt
  have hne := h1.ne
  have HF := Lib.hid hf; have H1 := Lib.hid h1; clear hf h1 hb1
  cases b
  · have hv : M c = none := (HF.out.has H1.out.rep).2 rfl
    have HV := Lib.hid hv; clear hv
    go_wp2
    go_ret
    refine ⟨ret_bool (by rw [HV.out]; rfl), ?_, Only.of_below hbel (fun q hq hq2 => by omega)⟩
    rw [setK_same M c _ HV.out, HV.out]
    exact ⟨j, u, L, H1.out⟩
  · have hv : M c = some (L k).v := (HF.out.has H1.out.rep).1 rfl
    have HV := Lib.hid hv; clear hv
    have hp0 := H1.out.tab.cell 0
    have hp1 := H1.out.tab.cell 1
    have hfp := H1.out.tab.frozen 1
    obtain ⟨q0, q1, q2, q3, q4⟩ := H1.out.pls.at_ hkl
    have f0 := H1.out.pls.frozen (k * 5)
    have f1 := H1.out.pls.frozen (k * 5 + 1)
    have f2 := H1.out.pls.frozen (k * 5 + 2)
    have f3 := H1.out.pls.frozen (k * 5 + 3)
    have f4 := H1.out.pls.frozen (k * 5 + 4)
    have hn1 : 1 ≤ n ∧ n ≤ 1048576 := ⟨by have := cnt_full_drop HF.out ⟨2, (0, 0, 0), 0⟩ rfl; have := H1.out.cf; omega, H1.out.most⟩
    simp only [List.getElem?_toArray, List.getElem?_cons_zero, List.getElem?_cons_succ] at hp0 hp1
    go_wp2
    go_ret
    refine ⟨ret_bool (by rw [HV.out]; rfl), ?_, ?_⟩
    · rw [HV.out, if_pos (by rfl)]
      have t := (show Blk (storePl w1 g k ⟨2, (0, 0, 0), 0⟩) p _ _ from (storePl_block _ _ _ _ _ hne).trans H1.out.tab).set_ 1 (.int .i64 ((n : Int) - 1))
      have e : ((n - 1 : Nat) : Int) = (n : Int) - 1 := by omega
      refine ⟨j, u, upd L k ⟨2, (0, 0, 0), 0⟩, { ne := hne, lo := H1.out.lo, hi := H1.out.hi, tab := by rw [e]; simp at t; exact t, pls := (H1.out.pls.store hkl _).keep (Below.heap_setCell _ _ _ _ (fun h => hne h.symm)), inv := drop_inv H1.out.inv hkl _ rfl, rep := HF.out.rep_drop H1.out.inv H1.out.rep _ rfl, cf := ?_, ct := ?_, lt := H1.out.lt, most := by omega }⟩
      · have := cnt_full_drop HF.out ⟨2, (0, 0, 0), 0⟩ rfl; have := H1.out.cf; omega
      · rw [cnt_taken_drop HF.out ⟨2, (0, 0, 0), 0⟩ rfl]; exact H1.out.ct
    · refine Only.setCell (p := ⟨p, 1, none⟩) ?_ (fun _ => .inl rfl) _
      exact (Only.of_below (F := fun i => i = p ∨ i = g) hbel (fun q hq hq2 => by omega)).trans (storePl_only w1 g k ⟨2, (0, 0, 0), 0⟩) (fun i _ h => .inr h)

/-! ### a table of 16 empty places: New, Clear -/
def noPl : Pl := ⟨0, (0, 0, 0), 0⟩
def places0 : Array Value := #[.int .i64 0, .int .i64 0, .int .i64 0, .int .i64 0, .int .i64 0]
theorem place_info : (Tryz.prog.info? 150).map (fun i => (i.zero, i.size, i.bytes)) = some (some (.agg places0), 5, 40) := by kernel_rfl
theorem made_at (z : Array Value) (n i : Nat) (hz : 0 < z.size) (hi : i < n) : (madeCells z n)[i]? = z[i % z.size]? := by
  have h1 : i % z.size < z.size := Nat.mod_lt _ hz
  unfold madeCells
  rw [Array.getElem?_map, Array.getElem?_range, if_pos hi]
  simp [h1]
theorem Places.made {w : World} {g N : Nat} (h : Blk w g 150 (madeCells places0 (N * 5))) : Places w g N (fun _ => noPl) := by
  have hz : places0.size = 5 := rfl
  refine ⟨_, h, size_madeCells _ _, fun i hi => ?_⟩
  rw [made_at _ _ _ (by omega) (by omega), made_at _ _ _ (by omega) (by omega), made_at _ _ _ (by omega) (by omega), made_at _ _ _ (by omega) (by omega), made_at _ _ _ (by omega) (by omega), hz,
    show i * 5 % 5 = 0 by omega, show (i * 5 + 1) % 5 = 1 by omega, show (i * 5 + 2) % 5 = 2 by omega, show (i * 5 + 3) % 5 = 3 by omega, show (i * 5 + 4) % 5 = 4 by omega]
  exact ⟨rfl, rfl, rfl, rfl, rfl⟩
theorem made80 : ∀ w : World, (Instr.makeSlice 126 (.int .i64 16) (.int .i64 16)).run Tryz.prog w = .ok (.slice (some ⟨w.heap.size, 0, none⟩) 16 16) (w.alloc (.cells (madeCells places0 80) 150)) := fun w => by
  obtain ⟨i, hi, hz, h1, h2⟩ := info_parts place_info
  exact run_make_n (P := Tryz.prog) 126 150 i _ 5 40 Tryz.underlying126 hi hz h1 h2 .i64 .i64 16 16 (by omega) (by omega) (by omega) w
theorem HashAt.fresh {w : World} {p g : Nat} (hne : p ≠ g) (hp : Blk w p 128 #[.slice (some ⟨g, 0, none⟩) 16 16, .int .i64 0, .int .i64 0]) (hg : Blk w g 150 (madeCells places0 80)) : HashAt w p g (fun _ => none) 0 :=
  ⟨4, 0, fun _ => noPl, { ne := hne, lo := by omega, hi := by omega, tab := hp, pls := Places.made hg, inv := Inv.new _ (fun _ _ => rfl), rep := Rep.new (fun _ _ => rfl), cf := cntB_zero (fun _ _ => rfl), ct := cntB_zero (fun _ _ => rfl), lt := by decide, most := by omega }⟩

def NewPost (w : World) (e : Ending) (w' : World) : Prop := ∃ p g, e = .returned (.pointer (some ⟨p, 0, none⟩)) ∧ HashAt w' p g (fun _ => none) 0 ∧ Below w.heap.size w w' ∧ w.heap.size ≤ p ∧ w.heap.size ≤ g
set_option maxHeartbeats 400000 in
theorem new_ok (w : World) : Calls Tryz.prog 17 #[] w (NewPost w) := by
  have hmk := made80
  go_enter Tryz.func17, Tryz.ntmps17
  go_wp2
  go_ret
  have hg := (Blk.new_ w 150 (madeCells places0 80)).alloc_ (.cells #[.slice (some ⟨w.heap.size, 0, none⟩) 16 16, .int .i64 0, .int .i64 0] 128)
  have hp := Blk.new_ (w.alloc (.cells (madeCells places0 80) 150)) 128 #[.slice (some ⟨w.heap.size, 0, none⟩) 16 16, .int .i64 0, .int .i64 0]
  exact ⟨w.heap.size + 1, w.heap.size, rfl, HashAt.fresh (by omega) (by simpa using hp) hg, ((Below.refl _ _).alloc (Nat.le_refl _) _).alloc (by simp) _, by omega, Nat.le_refl _⟩

/-- what Clear leaves -/
def ClearPost (p g : Nat) (w : World) (e : Ending) (w' : World) : Prop := ∃ g', e = .returned (.int .i64 0) ∧ HashAt w' p g' (fun _ => none) 0 ∧ Only (fun i => i = p ∨ i = g) w w' ∧ (g' = g ∨ w.heap.size ≤ g')
end Go.Proofs.YtobhjkfkdkiigaaGreatDoor

namespace Go.Proofs.YtobhjkfkdkiigaaGreatDoor
open Go.RowKit HP

def GrowPost (p g : Nat) (M : Key → Option Int) (n : Nat) (w : World) (e : Ending) (w' : World) : Prop :=
  ∃ g', e = .returned (.tuple #[]) ∧ (∃ j u L, HashIn w' p g' j u L M n ∧ u + 1 < 2 ^ j) ∧ Only (fun i => i = p) w w' ∧ (g' = g ∨ w.heap.size ≤ g')

set_option maxRecDepth 100000 in
set_option maxHeartbeats 1000000 in
theorem grows_stay (w : World) (p g j u : Nat) (L : Nat → Pl) (M : Key → Option Int) (n : Nat) (h : HashIn w p g j u L M n) (hlt : 4 * u < 3 * 2 ^ j) :
    Calls Tryz.prog 116 #[.pointer (some ⟨p, 0, none⟩)] w (GrowPost p g M n w) := by
  have hN := pow_lo j h.lo
  have hN2 := pow_hi j h.hi
  have hp0 := h.tab.cell 0
  have hp2 := h.tab.cell 2
  have hplt := h.tab.lt
  simp only [List.getElem?_toArray, List.getElem?_cons_zero, List.getElem?_cons_succ] at hp0 hp2
  have H := Lib.hid h; clear h
  obtain ⟨N, hNe⟩ : ∃ N, N = 2 ^ j := ⟨_, rfl⟩
  rw [← hNe] at hp0 hlt hN hN2
  have HNe := Lib.hid hNe; clear hNe
  have hu : u ≤ 4194304 := by omega
  have ht : (4 : Int) * (u : Int) < 3 * (N : Int) := by omega
  go_enter Tryz.func116, Tryz.ntmps116
  go_wp2
  go_quiet (fail)
  go_wp2
  refine bodyPost_ret (results_none rfl _ _ _) rfl ?_
  refine ⟨g, rfl, ⟨j, u, L, H.out.keep rfl rfl, ?_⟩, (Only.refl _ _).drewN _, .inl rfl⟩
  rw [← HNe.out]; omega

theorem size_pow (j n N N' : Nat) (h4 : 4 ≤ j) (h22 : j ≤ 22) (hn : n ≤ 1048576) (hN : N = 2 ^ j) (hN' : N' = if N ≤ 2 * n then 2 * N else N) : ∃ j', 4 ≤ j' ∧ j' ≤ 22 ∧ N' = 2 ^ j' := by
  by_cases h : N ≤ 2 * n
  · rw [if_pos h] at hN'
    refine ⟨j + 1, by omega, ?_, by rw [hN', hN, Nat.pow_succ, Nat.mul_comm]⟩
    rcases Nat.lt_or_ge j 22 with h1 | h1
    · omega
    · have := Nat.pow_le_pow_right (n := 2) (by decide) h1
      have e : (2 : Nat) ^ 22 = 4194304 := by decide
      omega
  · rw [if_neg h] at hN'
    exact ⟨j, h4, h22, by rw [hN', hN]⟩
theorem rep_one {L : Nat → Pl} {N : Nat} {M M' : Key → Option Int} (h : Rep L N M) (h' : Rep L N M') : M = M' := by
  funext c
  cases e : M c with
  | none =>
    cases e' : M' c with
    | none => rfl
    | some v => have := (h c v).2 ((h' c v).1 e'); rw [e] at this; cases this
  | some v => exact ((h' c v).2 ((h c v).1 e)).symm

/-- the first i places of the old table have been put into the new one -/
structure Moving (w : World) (p g g' N N' n : Nat) (L : Nat → Pl) (w0 : World) (i : Nat) (L' : Nat → Pl) (Mi : Key → Option Int) : Prop where
  tab : Blk w p 128 #[.slice (some ⟨g', 0, none⟩) N' N', .int .i64 (n : Int), .int .i64 (n : Int)]
  pls : Places w g' N' L'
  old : Places w g N L
  inv : HP.Inv (st N') L' N'
  rep : Rep L' N' Mi
  part : Rep L i Mi
  two : ∀ k, k < N' → (L' k).how ≠ 2
  cf : cntB (full L') N' = cntB (full L) i
  ct : cntB (taken L') N' = cntB (full L) i
  only : Only (fun q => q = p) w0 w
theorem Moving.below {w w' : World} {p g g' N N' n : Nat} {L : Nat → Pl} {w0 : World} {i : Nat} {L' : Nat → Pl} {Mi : Key → Option Int} (h : Moving w p g g' N N' n L w0 i L' Mi) (hb : Below w.heap.size w w') : Moving w' p g g' N N' n L w0 i L' Mi :=
  { h with tab := h.tab.below hb h.tab.lt, pls := h.pls.below hb h.pls.lt, old := h.old.below hb h.old.lt, only := h.only.trans (Only.of_below (F := fun q => q = p) hb (fun q hq hq2 => by omega)) (fun _ _ h => h) }
theorem Moving.skip {w : World} {p g g' N N' n : Nat} {L : Nat → Pl} {w0 : World} {i : Nat} {L' : Nat → Pl} {Mi : Key → Option Int} (h : Moving w p g g' N N' n L w0 i L' Mi) (h1 : (L i).how ≠ 1) : Moving w p g g' N N' n L w0 (i + 1) L' Mi :=
  { h with part := Part.skip h.part h1, cf := by rw [h.cf]; simp [cntB, full, h1], ct := by rw [h.ct]; simp [cntB, full, h1] }
theorem Moving.more {w : World} {p g g' N N' n : Nat} {L : Nat → Pl} {w0 : World} {i : Nat} {L' : Nat → Pl} {Mi : Key → Option Int} (h : Moving w p g g' N N' n L w0 i L' Mi) (hI : ∀ a b, a < N → b < N → (L a).how = 1 → (L b).how = 1 → (L a).key = (L b).key → a = b)
    (hi : i < N) (h1 : (L i).how = 1) {k : Nat} {b : Bool} (hf : HP.Found (st N') L' N' (L i).key k b) (hpg : p ≠ g') (hgg : g ≠ g') (hg0 : w0.heap.size ≤ g') (x : Pl) (hx : x = ⟨1, (L i).key, (L i).v⟩) :
    Moving (storePl w g' k x) p g g' N N' n L w0 (i + 1) (upd L' k x) (setK Mi (L i).key (some (L i).v)) := by
  have hfresh : Mi (L i).key = none := by
    cases hM : Mi (L i).key with
    | none => rfl
    | some v =>
      obtain ⟨a, ha, h2, h3, _⟩ := (h.part _ v).1 hM
      have := hI a i (by omega) hi h2 h1 h3
      omega
  have hb : b = false := by
    cases b with
    | false => rfl
    | true => have := (hf.has h.rep).1 rfl; rw [hfresh] at this; cases this
  subst hb hx
  have h0 : (L' k).how = 0 := by
    have h2 := h.inv.kinds k hf.lt
    have h3 := h.two k hf.lt
    have h4 := (hf.no rfl).2.1
    omega
  refine { tab := (storePl_block _ _ _ _ _ hpg).trans h.tab, pls := h.pls.store hf.lt _, old := h.old.keep (storePl_block _ _ _ _ _ hgg), inv := hf.put h.inv _, rep := hf.rep h.inv h.rep _, part := ?_, two := ?_, cf := ?_, ct := ?_, only := h.only.trans (storePl_only w g' k _) (fun q hq hq2 => by omega) }
  · intro c v
    unfold setK
    by_cases e : c = (L i).key
    · rw [if_pos e]
      constructor
      · intro e2; injection e2 with e2; exact ⟨i, by omega, h1, e.symm, e2⟩
      · rintro ⟨a, ha, h2, h3, h4⟩
        have := hI a i (by omega) hi h2 h1 (by rw [h3, e])
        subst this; rw [h4]
    · rw [if_neg e, h.part c v]
      constructor
      · rintro ⟨a, ha, r⟩; exact ⟨a, by omega, r⟩
      · rintro ⟨a, ha, r⟩
        exact ⟨a, by
          rcases Nat.lt_or_ge a i with h2 | h2
          · exact h2
          · have : a = i := by omega
            subst this; exact absurd r.2.1.symm e, r⟩
  · intro q hq
    by_cases e : q = k
    · subst e; rw [upd_same]; show (1 : Int) ≠ 2; decide
    · rw [upd_other _ _ _ _ e]; exact h.two q hq
  · rw [cnt_full_put hf, h.cf]; simp [cntB, full, h1]
  · rw [cnt_taken_put hf, h.ct, if_pos h0]; simp [cntB, full, h1]

set_option maxRecDepth 100000 in
set_option maxHeartbeats 1000000 in
theorem grows_move (w : World) (p g j u : Nat) (L : Nat → Pl) (M : Key → Option Int) (n : Nat) (h : HashIn w p g j u L M n) (hlt : ¬ 4 * u < 3 * 2 ^ j) :
    Calls Tryz.prog 116 #[.pointer (some ⟨p, 0, none⟩)] w (GrowPost p g M n w) := by
  have hN := pow_lo j h.lo
  have hN2 := pow_hi j h.hi
  have hp0 := h.tab.cell 0
  have hp1 := h.tab.cell 1
  have hp2 := h.tab.cell 2
  have hf0 := h.tab.frozen 0
  have hf1 := h.tab.frozen 1
  have hf2 := h.tab.frozen 2
  have hplt := h.tab.lt
  simp only [List.getElem?_toArray, List.getElem?_cons_zero, List.getElem?_cons_succ] at hp0 hp1 hp2
  have hnu : n ≤ u := by have := full_le_taken L (2 ^ j); have := h.cf; have := h.ct; omega
  have hul := h.lt
  have H := Lib.hid h; clear h
  obtain ⟨N, hNe⟩ : ∃ N, N = 2 ^ j := ⟨_, rfl⟩
  rw [← hNe] at hp0 hlt hN hN2 hul
  have HNe := Lib.hid hNe; clear hNe
  have ht : ¬ (4 : Int) * (u : Int) < 3 * (N : Int) := by omega
  obtain ⟨i0, hi, hz, h1, h2⟩ := info_parts place_info
  have hmk := fun (n : Nat) (hn : n ≤ 4194304) (w : World) => run_make_n (P := Tryz.prog) 126 150 i0 _ 5 40 Tryz.underlying126 hi hz h1 h2 .i64 .i64 n n (by omega) (by omega) (by omega) w
  have HMK := Lib.hid hmk; clear hmk hi hz h1 h2
  go_enter Tryz.func116, Tryz.ntmps116
  go_wp2
  go_quiet (fail)
  go_upto_if 32 with (fail)
  go_cut [3] (fun s3 wc => wc = w.drewN nq ∧ ∃ N' : Nat, s3 = .int .i64 (N' : Int) ∧ N' ≤ 4194304 ∧ 16 ≤ N' ∧ n + 1 < N' ∧ Hid (N' = if N ≤ 2 * n then 2 * N else N))
  case first =>
    go_wp2
    · go_meet
      case rel => exact ⟨rfl, 2 * N, by go_num, by have := H.out.most; omega, by omega, by omega, by unfold Hid; rw [if_pos (by omega)]⟩
    · go_meet
      case rel => exact ⟨rfl, N, rfl, by omega, by omega, by omega, by unfold Hid; rw [if_neg (by omega)]⟩
  case rest =>
    obtain ⟨rfl, N', rfl, hN'1, hN'2, hnN', HN'⟩ := hcut
    have hmk := HMK.out N' hN'1
    clear ht
    generalize hw2 : w.drewN nq = w2
    have HP : Hid (HashIn w2 p g j u L M n) := by rw [← hw2]; exact H.out.keep rfl rfl
    have HO : Hid (Only (fun i => i = p) w w2) := by rw [← hw2]; exact (Only.refl _ _).drewN _
    have hsz : w2.heap.size = w.heap.size := by rw [← hw2]; rfl
    have HSZ := Lib.hid hsz
    have hp0 := HP.out.tab.cell 0
    have hp1 := HP.out.tab.cell 1
    have hp2 := HP.out.tab.cell 2
    have hf0 := HP.out.tab.frozen 0
    have hf1 := HP.out.tab.frozen 1
    have hf2 := HP.out.tab.frozen 2
    have hplt := HP.out.tab.lt
    simp only [List.getElem?_toArray, List.getElem?_cons_zero, List.getElem?_cons_succ] at hp0 hp1 hp2
    rw [← HNe.out] at hp0
    clear hw2 hsz
    obtain ⟨j', hj1, hj2, hj3⟩ := size_pow j n N N' H.out.lo H.out.hi H.out.most HNe.out HN'.out
    have HJ := Lib.hid hj3; clear hj3
    have hpg : p ≠ w2.heap.size := by omega
    have hgg : g ≠ w2.heap.size := by have := HP.out.pls.lt; omega
    have HM0 : Hid (Moving ((((w2.setCell ⟨p, 0, none⟩ (.slice (some ⟨w2.heap.size, 0, none⟩) N' N')).setCell ⟨p, 2, none⟩ (.int .i64 (n : Int))).alloc (.cells (madeCells places0 (N' * 5)) 150)).drew) p g w2.heap.size N N' n L w 0 (fun _ => noPl) (fun _ => none)) := by
      have t := ((HP.out.tab.set_ 0 (.slice (some ⟨w2.heap.size, 0, none⟩) N' N')).set_ 2 (.int .i64 (n : Int))).alloc_ (.cells (madeCells places0 (N' * 5)) 150)
      have hg := Blk.new_ ((w2.setCell ⟨p, 0, none⟩ (.slice (some ⟨w2.heap.size, 0, none⟩) N' N')).setCell ⟨p, 2, none⟩ (.int .i64 (n : Int))) 150 (madeCells places0 (N' * 5))
      simp only [World.size_setCell] at hg
      simp at t
      have hgl := HP.out.pls.lt
      have hpn := HP.out.ne
      refine { tab := t.drew_, pls := Places.made hg.drew_, old := ?_, inv := Inv.new _ (fun _ _ => rfl), rep := Rep.new (fun _ _ => rfl), part := Rep.new (fun _ h => by omega), two := fun _ _ => by decide, cf := cntB_zero (fun _ _ => rfl), ct := cntB_zero (fun _ _ => rfl), only := ?_ }
      · have ho := HP.out.pls
        rw [← HNe.out] at ho
        refine ho.keep ?_
        refine (Below.heap_alloc _ _ _ (by simpa using hgl)).trans ?_
        rw [Below.heap_setCell _ _ _ _ (fun h => hpn h.symm), Below.heap_setCell _ _ _ _ (fun h => hpn h.symm)]
      · refine HO.out.trans (Only.drew (Only.alloc ?_ _)) (fun _ _ h => h)
        exact Only.setCell (F := fun q => q = p) (p := ⟨p, 2, none⟩) (Only.setCell (F := fun q => q = p) (p := ⟨p, 0, none⟩) (Only.refl _ _) (fun _ => rfl) _) (fun _ => rfl) _
    go_wp2_with fail
    go_region
    go_wp2_with fail
    go_loopg [49] N (fun m x wr => ∃ i : Nat, m + i = N ∧ x = .int .i64 (i : Int) ∧ ∃ L' Mi, Moving wr p g w2.heap.size N N' n L w i L' Mi)
    case atStart => exact ⟨0, rfl, rfl, _, _, HM0.out⟩
    case round =>
      obtain ⟨i, hmi, rfl, L', Mi, hM⟩ := hrel
      have HMI := Lib.hid hmi; clear hmi
      have HM := Lib.hid hM; clear hM
      by_cases hiN : i < N
      · obtain ⟨q0, q1, q2, q3, q4⟩ := HM.out.old.at_ hiN
        by_cases h1 : (L i).how = 1
        · have H1 := Lib.hid h1
          go_wp2_with fail
          have hal := HM.out.below ((Below.refl wr.heap.size wr).alloc (Nat.le_refl _) (.cells #[.int .i64 1, .int .i64 (L i).key.1, .int .i64 (L i).key.2.1, .int .i64 (L i).key.2.2, .int .i64 (L i).v] 150))
          have hlb := Blk.new_ wr 150 #[.int .i64 1, .int .i64 (L i).key.1, .int .i64 (L i).key.2.1, .int .i64 (L i).key.2.2, .int .i64 (L i).v]
          have HA := Lib.hid hal; clear hal
          have HLB := Lib.hid hlb; clear hlb
          refine (find_ok p w2.heap.size N' j' _ _ L' (L i).key _ HJ.out hj2 hN'2 HA.out.tab HA.out.pls HA.out.inv (empty_of ?_)).mono ?_
          · rw [HA.out.ct]
            have h5 : cntB (full L) i ≤ cntB (full L) N := cntB_le_le (by omega)
            have h6 := H.out.cf
            rw [← HNe.out] at h6
            omega
          rintro e w3 ⟨k, b, rfl, hf, hb3⟩
          have hkl := hf.lt
          have h3 := HA.out.below hb3
          have hlb := HLB.out.below hb3 (by simp)
          have hp0 := h3.tab.cell 0
          have hplt := h3.tab.lt
          have hglt := h3.pls.lt
          have hl0 := hlb.cell 0
          have hl1 := hlb.cell 1
          have hl2 := hlb.cell 2
          have hl3 := hlb.cell 3
          have hl4 := hlb.cell 4
          have hllt := hlb.lt
          obtain ⟨x0, x1, x2, x3, x4⟩ := h3.pls.at_ hkl
          have f0 := h3.pls.frozen (k * 5)
          have f1 := h3.pls.frozen (k * 5 + 1)
          have f2 := h3.pls.frozen (k * 5 + 2)
          have f3 := h3.pls.frozen (k * 5 + 3)
          have f4 := h3.pls.frozen (k * 5 + 4)
          simp only [List.getElem?_toArray, List.getElem?_cons_zero, List.getElem?_cons_succ] at hp0 hl0 hl1 hl2 hl3 hl4
          have hmr := Lib.hid (h3.more (fun a b ha hb => H.out.inv.once a b (by rw [← HNe.out]; exact ha) (by rw [← HNe.out]; exact hb)) hiN H1.out hf hpg hgg (by rw [HSZ.out]; exact Nat.le_refl _) ⟨1, (L i).key, (L i).v⟩ rfl)
          clear hf h3 hlb hb3 q0 q1 q2 q3 q4
          clear hp1 hp2 hf0 hf1 hf2 hmk h1
          go_wp2_with fail
          go_region
          go_wp2_with fail
          go_roundg (N - (i + 1))
          case measure => have := HMI.out; omega
          case rel => exact ⟨i + 1, by omega, by go_num, _, _, hmr.out.below ((Below.refl _ _).drew)⟩
        · have hal := Lib.hid ((HM.out.skip h1).below ((Below.refl wr.heap.size wr).alloc (Nat.le_refl _) (.cells #[.int .i64 (L i).how, .int .i64 (L i).key.1, .int .i64 (L i).key.2.1, .int .i64 (L i).key.2.2, .int .i64 (L i).v] 150)))
          clear hp1 hp2 hf0 hf1 hf2 hmk
          go_wp2_with fail
          go_roundg (N - (i + 1))
          case measure => have := HMI.out; omega
          case rel => exact ⟨i + 1, by omega, by go_num, _, _, hal.out⟩
      · have hiN' : N ≤ i := by have := HMI.out; omega
        have HIN : Hid (i = N) := by have := HMI.out; unfold Hid; omega
        clear hp1 hp2 hf0 hf1 hf2 hmk
        go_wp2_with fail
        refine bodyPost_ret (results_none rfl _ _ _) rfl ?_
        have hM := HM.out
        rw [HIN.out] at hM
        have hrl := H.out.rep
        have hcf := H.out.cf
        rw [← HNe.out] at hrl hcf
        have hMe := rep_one hM.part hrl
        have hr2 := hM.rep
        rw [hMe] at hr2
        have e2 : n < N' := by omega
        refine ⟨w2.heap.size, rfl, ⟨j', n, L', ?_, by rw [← HJ.out]; omega⟩, hM.only, .inr (by rw [HSZ.out]; exact Nat.le_refl _)⟩
        have hJ := HJ.out
        subst hJ
        exact { ne := hpg, lo := hj1, hi := hj2, tab := hM.tab, pls := hM.pls, inv := hM.inv, rep := hr2, cf := hM.cf.trans hcf, ct := hM.ct.trans hcf, lt := e2, most := H.out.most }

theorem grows_ok (w : World) (p g : Nat) (M : Key → Option Int) (n : Nat) (h : HashAt w p g M n) : Calls Tryz.prog 116 #[.pointer (some ⟨p, 0, none⟩)] w (GrowPost p g M n w) := by
  obtain ⟨j, u, L, h⟩ := h
  by_cases hlt : 4 * u < 3 * 2 ^ j
  · exact grows_stay w p g j u L M n h hlt
  · exact grows_move w p g j u L M n h hlt
end Go.Proofs.YtobhjkfkdkiigaaGreatDoor

namespace Go.Proofs.YtobhjkfkdkiigaaGreatDoor
open Go.RowKit HP

def PutFull (M : Key → Option Int) (n : Nat) (c : Key) : Prop := M c = none ∧ 1048576 ≤ n
def PutPost (p g : Nat) (M : Key → Option Int) (n : Nat) (c : Key) (v : Int) (w : World) (e : Ending) (w' : World) : Prop :=
  ∃ g', Only (fun i => i = p ∨ i = g) w w' ∧ (g' = g ∨ w.heap.size ≤ g') ∧
    ((PutFull M n c ∧ e = .returned (.int .i64 2) ∧ HashAt w' p g' M n) ∨
     (¬ PutFull M n c ∧ e = .returned (.int .i64 0) ∧ HashAt w' p g' (setK M c (some v)) (if (M c).isSome then n else n + 1)))

/-- the world behind Put's stores of len and used -/
theorem HashIn.put {w : World} {p g j u : Nat} {L : Nat → Pl} {M : Key → Option Int} {n : Nat} (h : HashIn w p g j u L M n) (hr : u + 1 < 2 ^ j) {c : Key} {k : Nat} {b : Bool} (hf : HP.Found (st (2 ^ j)) L (2 ^ j) c k b) (v : Int) (n' u' : Nat)
    (hn' : n' = n + (!b).toNat) (hu' : u' = u + (if (L k).how = 0 then 1 else 0)) (hm : n' ≤ 1048576) {w' : World} (ht : Blk w' p 128 #[.slice (some ⟨g, 0, none⟩) (2 ^ j) (2 ^ j), .int .i64 (n' : Int), .int .i64 (u' : Int)])
    (hg : w'.heap[g]? = w.heap[g]?) : HashIn (storePl w' g k ⟨1, c, v⟩) p g j u' (upd L k ⟨1, c, v⟩) (setK M c (some v)) n' := by
  refine { ne := h.ne, lo := h.lo, hi := h.hi, tab := (storePl_block _ _ _ _ _ h.ne).trans ht, pls := (h.pls.keep hg).store hf.lt _, inv := hf.put h.inv v, rep := hf.rep h.inv h.rep v, cf := ?_, ct := ?_, lt := ?_, most := hm }
  · rw [cnt_full_put hf, h.cf, hn']
  · rw [cnt_taken_put hf, h.ct, hu']
  · rw [hu']; split <;> omega

theorem HashIn.drew_ {w : World} {p g j u : Nat} {L : Nat → Pl} {M : Key → Option Int} {n : Nat} (h : HashIn w p g j u L M n) : HashIn w.drew p g j u L M n := h.keep rfl rfl

set_option maxRecDepth 100000 in
set_option maxHeartbeats 4000000 in
theorem put_ok (w : World) (p g : Nat) (M : Key → Option Int) (n : Nat) (c : Key) (v : Int) (h : HashAt w p g M n) :
    Calls Tryz.prog 87 #[.pointer (some ⟨p, 0, none⟩), .agg #[.int .i64 c.1, .int .i64 c.2.1, .int .i64 c.2.2], .int .i64 v] w (PutPost p g M n c v w) := by
  have hplt0 := h.lts.1
  have hglt0 := h.lts.2
  have hpg0 := h.ne
  have H := Lib.hid h; clear h
  go_enter Tryz.func87, Tryz.ntmps87
  go_wp2_with fail
  have hal : HashAt _ p g M n := H.out.below ((Below.refl w.heap.size w).alloc (Nat.le_refl _) (.cells #[.int .i64 c.1, .int .i64 c.2.1, .int .i64 c.2.2] 123))
  refine hal.given_.mono ?_
  rintro e w' ⟨rfl, rfl⟩
  have HA := Lib.hid hal; clear hal
  go_wp2_with fail
  refine (grows_ok _ p g M n HA.out).mono ?_
  rintro e w1 ⟨g', rfl, ⟨j, u, L, h1, hr⟩, ho1, hg'⟩
  have hbk : Blk w1 w.heap.size 123 #[.int .i64 c.1, .int .i64 c.2.1, .int .i64 c.2.2] := (Blk.new_ w _ _).only ho1 (by omega)
  have hk0 := hbk.cell 0
  have hk1 := hbk.cell 1
  have hk2 := hbk.cell 2
  simp only [List.getElem?_toArray, List.getElem?_cons_zero, List.getElem?_cons_succ] at hk0 hk1 hk2
  have hklt := hbk.lt
  have hN := pow_lo j h1.lo
  have hN2 := pow_hi j h1.hi
  have H1 := Lib.hid h1; have HB := Lib.hid hbk; have HO := Lib.hid ho1; have HR := Lib.hid hr; have HG := Lib.hid hg'
  clear h1 hbk ho1 hr hg'
  go_wp2_with fail
  refine (find_ok p g' (2 ^ j) j _ _ L c _ rfl H1.out.hi hN H1.out.tab H1.out.pls H1.out.inv (empty_of (by rw [H1.out.ct]; exact H1.out.lt))).mono ?_
  rintro e w2 ⟨k, b, rfl, hf, hb2⟩
  have h2 := H1.out.below hb2
  have hbk := HB.out.below hb2 hklt
  have hk0 := hbk.cell 0
  have hk1 := hbk.cell 1
  have hk2 := hbk.cell 2
  have hp0 := h2.tab.cell 0
  have hp1 := h2.tab.cell 1
  have hp2 := h2.tab.cell 2
  have hf1 := h2.tab.frozen 1
  have hf2 := h2.tab.frozen 2
  have hplt := h2.tab.lt
  have hglt := h2.pls.lt
  have hne := h2.ne
  have hkl := hf.lt
  have hklt := hbk.lt
  obtain ⟨x0, x1, x2, x3, x4⟩ := h2.pls.at_ hkl
  have f0 := h2.pls.frozen (k * 5)
  have f1 := h2.pls.frozen (k * 5 + 1)
  have f2 := h2.pls.frozen (k * 5 + 2)
  have f3 := h2.pls.frozen (k * 5 + 3)
  have f4 := h2.pls.frozen (k * 5 + 4)
  have hnm := h2.most
  have hum := h2.lt
  simp only [List.getElem?_toArray, List.getElem?_cons_zero, List.getElem?_cons_succ] at hk0 hk1 hk2 hp0 hp1 hp2
  have hO2 : Only (fun i => i = p ∨ i = g) w w2 := by
    refine ((Only.refl _ w).alloc _).trans ((HO.out.trans (Only.of_below (F := fun _ => False) hb2 (fun q hq hq2 => by omega)) (fun _ _ h => h.elim))) (fun i _ h => .inl h)
  have HF := Lib.hid hf; have H2 := Lib.hid h2; have HO2 := Lib.hid hO2
  clear hf h2 hbk hb2 hO2
  have hgne : w.heap.size ≠ g' := by
    intro e
    have h5 := HB.out
    obtain ⟨cs, h6, _⟩ := H1.out.pls
    rw [← e] at h6
    unfold Blk at h5 h6
    rw [h5] at h6
    injection h6 with h6
    injection h6 with _ h6
    exact absurd h6 (by decide)
  have HG' : Hid (g' = g ∨ w.heap.size ≤ g') := by
    rcases HG.out with h | h
    · exact .inl h
    · refine .inr ?_
      simp at h; omega
  clear hnm
  cases b
  · by_cases hfull : 1048576 ≤ n
    · have HP1 : Hid (PutFull M n c) := ⟨(HF.out.has H2.out.rep).2 rfl, hfull⟩
      have hfI : decide ((1048576 : Int) ≤ (n : Int)) = true := decide_eq_true (by omega)
      clear hfull
      go_wp2
      go_ret
      exact ⟨g', HO2.out, HG'.out, .inl ⟨HP1.out, rfl, j, u, L, H2.out⟩⟩
    · have HP1 : Hid (¬ PutFull M n c) := fun h => hfull h.2
      have hne1 := (HF.out.no rfl).2.1
      have hfI : decide ((1048576 : Int) ≤ (n : Int)) = false := decide_eq_false (by omega)
      have hnB : n ≤ 1048576 := by omega
      have HNF : Hid (n + 1 ≤ 1048576) := by unfold Hid; omega
      clear hfull
      have hMn := Lib.hid ((HF.out.has H2.out.rep).2 rfl)
      have e1 : (((n + 1 : Nat)) : Int) = (n : Int) + 1 := by omega
      have E1 := Lib.hid e1; clear e1
      have HgP : Hid (∀ (w' : World), Only (fun i => i = p) w2 w' → Only (fun i => i = p ∨ i = g) w (storePl w' g' k ⟨1, c, v⟩)) := by
        intro w' h
        refine (HO2.out.trans (h.mono (G := fun i => i = p) (fun _ _ h => h)) (fun i _ h => .inl h)).trans (storePl_only w' g' k _) (fun i hi h => ?_)
        subst h
        rcases HG'.out with h5 | h5
        · exact .inr h5
        · omega
      by_cases h0 : (L k).how = 0
      · have HH := Lib.hid h0
        go_wp2
        go_region
        go_wp2
        go_ret
        have t := (H2.out.tab.set_ 1 (.int .i64 ((n : Int) + 1))).set_ 2 (.int .i64 ((u : Int) + 1))
        simp at t
        refine ⟨g', Only.drew (HgP.out _ ?_), HG'.out, .inr ⟨HP1.out, rfl, j, u + 1, upd L k ⟨1, c, v⟩, ?_⟩⟩
        · exact Only.setCell (F := fun q => q = p) (p := ⟨p, 2, none⟩) (Only.setCell (F := fun q => q = p) (p := ⟨p, 1, none⟩) (Only.refl _ _) (fun _ => rfl) _) (fun _ => rfl) _
        · rw [hMn.out]
          refine HashIn.drew_ (H2.out.put HR.out HF.out v (n + 1) (u + 1) rfl (by rw [if_pos HH.out]) HNF.out (by rw [E1.out, show (((u + 1 : Nat)) : Int) = (u : Int) + 1 by omega]; exact t) ?_)
          rw [Below.heap_setCell _ _ _ _ (fun h => hne h.symm), Below.heap_setCell _ _ _ _ (fun h => hne h.symm)]
      · have HH := Lib.hid h0
        go_wp2
        go_region
        go_wp2
        go_ret
        have t := H2.out.tab.set_ 1 (.int .i64 ((n : Int) + 1))
        simp at t
        refine ⟨g', Only.drew (HgP.out _ ?_), HG'.out, .inr ⟨HP1.out, rfl, j, u, upd L k ⟨1, c, v⟩, ?_⟩⟩
        · exact Only.setCell (F := fun q => q = p) (p := ⟨p, 1, none⟩) (Only.refl _ _) (fun _ => rfl) _
        · rw [hMn.out]
          refine HashIn.drew_ (H2.out.put HR.out HF.out v (n + 1) u rfl (by rw [if_neg HH.out]; rfl) HNF.out (by rw [E1.out]; exact t) ?_)
          rw [Below.heap_setCell _ _ _ _ (fun h => hne h.symm)]
  · have hMn := Lib.hid ((HF.out.has H2.out.rep).1 rfl)
    have HP1 : Hid (¬ PutFull M n c) := fun h => by rw [h.1] at hMn; exact nomatch hMn.out
    have hh1 := Lib.hid (HF.out.yes rfl).1
    have hnm := Lib.hid H2.out.most
    go_wp2
    go_region
    go_wp2
    go_ret
    refine ⟨g', Only.drew ?_, HG'.out, .inr ⟨HP1.out, rfl, j, u, upd L k ⟨1, c, v⟩, ?_⟩⟩
    · refine HO2.out.trans (storePl_only w2 g' k ⟨1, c, v⟩) (fun i hi h => ?_)
      subst h
      rcases HG'.out with h5 | h5
      · exact .inr h5
      · omega
    · rw [hMn.out]
      exact HashIn.drew_ (H2.out.put HR.out HF.out v n u rfl (by rw [hh1.out]; rfl) hnm.out H2.out.tab rfl)
end Go.Proofs.YtobhjkfkdkiigaaGreatDoor

namespace Go.Proofs.YtobhjkfkdkiigaaGreatDoor
open Go.RowKit HP
def TH (t : TypeId) : Bool := t == 128 || t == 150
/-- block p is a table, made from B on: the keys of M, n of them -/
def HB (w : World) (B p : Nat) (M : Key → Option Int) (n : Nat) : Prop := ∃ g, HashAt w p g M n ∧ B ≤ p ∧ B ≤ g
theorem HashAt.blks {w : World} {p g : Nat} {M : Key → Option Int} {n : Nat} (h : HashAt w p g M n) : (∃ cs, Blk w p 128 cs) ∧ ∃ cs, Blk w g 150 cs := by
  obtain ⟨j, u, L, h⟩ := h
  obtain ⟨cs, hc, _⟩ := h.pls
  exact ⟨⟨_, h.tab⟩, cs, hc⟩
theorem HB.lt {w : World} {B p : Nat} {M : Key → Option Int} {n : Nat} (h : HB w B p M n) : p < w.heap.size := by obtain ⟨g, h, _⟩ := h; exact h.lts.1
theorem HB.most {w : World} {B p : Nat} {M : Key → Option Int} {n : Nat} (h : HB w B p M n) : n ≤ 1048576 := by obtain ⟨g, ⟨j, u, L, h⟩, _⟩ := h; exact h.most
theorem HB.kb {T : TypeId → Bool} {w w' : World} {B p : Nat} {M : Key → Option Int} {n : Nat} (h : HB w B p M n) (hk : Kb T w w') (h1 : T 128 = false) (h2 : T 150 = false) : HB w' B p M n := by
  obtain ⟨g, ha, hp, hg⟩ := h
  obtain ⟨⟨cs, hc⟩, ds, hd⟩ := ha.blks
  refine ⟨g, ha.keep ?_ ?_, hp, hg⟩
  · rw [hc]; exact hk _ _ _ hc h1
  · rw [hd]; exact hk _ _ _ hd h2
theorem HB.kp {T : TypeId → Bool} {B' : Nat} {w w' : World} {B p : Nat} {M : Key → Option Int} {n : Nat} (h : HB w B p M n) (hk : Kp T B' w w') (h1 : T 128 = false) (h2 : T 150 = false) : HB w' B p M n := h.kb hk.kb h1 h2
theorem HB.below {w w' : World} {B p : Nat} {M : Key → Option Int} {n : Nat} (h : HB w B p M n) (hb : Below w.heap.size w w') : HB w' B p M n := h.kp (T := fun _ => false) (B' := 0) (Kp.of_below hb) rfl rfl
theorem HashAt.kp {w w' : World} {B p g : Nat} {M : Key → Option Int} {n : Nat} (h : HashAt w p g M n) (hp : B ≤ p) (hg : B ≤ g) (ho : Only (fun i => i = p ∨ i = g) w w') : Kp TH B w w' := by
  obtain ⟨⟨cs, hc⟩, ds, hd⟩ := h.blks
  refine Only.mono ho ?_
  rintro i _ (rfl | rfl)
  · exact ⟨hp, cs, _, _, hc, rfl⟩
  · exact ⟨hg, ds, _, _, hd, rfl⟩
theorem hb_new (w : World) (B : Nat) (hB : B ≤ w.heap.size) : Calls Tryz.prog 17 #[] w fun e w' => ∃ p, e = .returned (.pointer (some ⟨p, 0, none⟩)) ∧ HB w' B p (fun _ => none) 0 ∧ Below w.heap.size w w' :=
  (new_ok w).mono fun _ _ ⟨p, g, he, ha, hb2, hp, hg⟩ => ⟨p, he, ⟨g, ha, by omega, by omega⟩, hb2⟩
theorem hb_put (w : World) (B p : Nat) (M : Key → Option Int) (n : Nat) (c : Key) (v : Int) (h : HB w B p M n) (hB : B ≤ w.heap.size) (hn : n < 1048576) :
    Calls Tryz.prog 87 #[.pointer (some ⟨p, 0, none⟩), .agg #[.int .i64 c.1, .int .i64 c.2.1, .int .i64 c.2.2], .int .i64 v] w fun e w' => e = .returned (.int .i64 0) ∧ HB w' B p (setK M c (some v)) (if (M c).isSome then n else n + 1) ∧ Kp TH B w w' := by
  obtain ⟨g, h1, h3, h4⟩ := h
  refine (put_ok w p g M n c v h1).mono fun e w' ⟨g', ho, hg, hh⟩ => ?_
  rcases hh with ⟨hf, _⟩ | ⟨_, he, ha⟩
  · exact absurd hf.2 (by omega)
  · refine ⟨he, ⟨g', ha, h3, ?_⟩, h1.kp h3 h4 ho⟩
    rcases hg with rfl | hg <;> omega
theorem hb_get (w : World) (B p : Nat) (M : Key → Option Int) (n : Nat) (c : Key) (h : HB w B p M n) :
    Calls Tryz.prog 86 #[.pointer (some ⟨p, 0, none⟩), .agg #[.int .i64 c.1, .int .i64 c.2.1, .int .i64 c.2.2]] w fun e w' => e = .returned (.tuple #[.int .i64 (getV M c), .int .i64 (getE M c)]) ∧ Below w.heap.size w w' := by
  obtain ⟨g, h1, _⟩ := h
  exact get_ok w p g M n c h1
theorem hb_drop (w : World) (B p : Nat) (M : Key → Option Int) (n : Nat) (c : Key) (h : HB w B p M n) :
    Calls Tryz.prog 48 #[.pointer (some ⟨p, 0, none⟩), .agg #[.int .i64 c.1, .int .i64 c.2.1, .int .i64 c.2.2]] w fun e w' => e = .returned (.bool (M c).isSome) ∧ HB w' B p (setK M c none) (if (M c).isSome then n - 1 else n) ∧ Kp TH B w w' := by
  obtain ⟨g, h1, h3, h4⟩ := h
  exact (drop_ok w p g M n c h1).mono fun e w' ⟨he, ha, ho⟩ => ⟨he, ⟨g, ha, h3, h4⟩, h1.kp h3 h4 ho⟩
end Go.Proofs.YtobhjkfkdkiigaaGreatDoor
