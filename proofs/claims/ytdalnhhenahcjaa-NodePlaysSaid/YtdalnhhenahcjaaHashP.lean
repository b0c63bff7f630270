/- The plain law of layer 2 (hash): places in a ring, looked for from a key's start on. No Go in sight. -/
namespace Go.Proofs.Ytdalnhhenahcjaa.HP

abbrev Key := Int × Int × Int
structure Pl where
  how : Int
  key : Key
  v : Int

def cntB (p : Nat → Bool) : Nat → Nat
  | 0 => 0
  | n + 1 => cntB p n + (p n).toNat
theorem cntB_congr {p q : Nat → Bool} {N : Nat} (h : ∀ i, i < N → p i = q i) : cntB p N = cntB q N := by
  induction N with
  | zero => rfl
  | succ n ih => simp only [cntB]; rw [ih (fun i hi => h i (by omega)), h n (by omega)]
theorem cntB_le (p : Nat → Bool) (N : Nat) : cntB p N ≤ N := by
  induction N with
  | zero => simp [cntB]
  | succ n ih => simp only [cntB]; have := Bool.toNat_le (p n); omega
theorem cntB_upd {p q : Nat → Bool} {N k : Nat} (hk : k < N) (h : ∀ i, i < N → i ≠ k → q i = p i) : cntB q N + (p k).toNat = cntB p N + (q k).toNat := by
  induction N with
  | zero => omega
  | succ n ih =>
    simp only [cntB]
    by_cases e : k = n
    · subst e
      rw [cntB_congr (p := q) (q := p) (fun i hi => h i (by omega) (by omega))]; omega
    · have := ih (by omega) (fun i hi hn => h i (by omega) hn)
      rw [h n (by omega) (fun e' => e e'.symm)]; omega
theorem cntB_lt {p : Nat → Bool} {N : Nat} (h : cntB p N < N) : ∃ i, i < N ∧ p i = false := by
  induction N with
  | zero => omega
  | succ n ih =>
    simp only [cntB] at h
    cases e : p n with
    | false => exact ⟨n, by omega, e⟩
    | true =>
      rw [e] at h
      obtain ⟨i, hi, hp⟩ := ih (by simp at h; omega)
      exact ⟨i, by omega, hp⟩
theorem cntB_mono {p q : Nat → Bool} {N : Nat} (h : ∀ i, i < N → p i = true → q i = true) : cntB p N ≤ cntB q N := by
  induction N with
  | zero => simp [cntB]
  | succ n ih =>
    simp only [cntB]
    have h1 := ih (fun i hi => h i (by omega))
    have h2 := h n (by omega)
    cases e : p n <;> cases e2 : q n <;> simp_all <;> omega
theorem cntB_le_le {p : Nat → Bool} {a b : Nat} (h : a ≤ b) : cntB p a ≤ cntB p b := by
  induction b with
  | zero => have : a = 0 := by omega
            subst this; exact Nat.le_refl _
  | succ n ih =>
    by_cases e : a = n + 1
    · subst e; exact Nat.le_refl _
    · have := ih (by omega); simp only [cntB]; omega
theorem cntB_zero {p : Nat → Bool} {N : Nat} (h : ∀ i, i < N → p i = false) : cntB p N = 0 := by
  induction N with
  | zero => rfl
  | succ n ih => simp only [cntB]; rw [ih (fun i hi => h i (by omega)), h n (by omega)]; rfl

/-- how many are full; how many are not empty -/
def full (L : Nat → Pl) (i : Nat) : Bool := (L i).how == 1
def taken (L : Nat → Pl) (i : Nat) : Bool := (L i).how != 0
def upd (L : Nat → Pl) (k : Nat) (x : Pl) : Nat → Pl := fun i => if i = k then x else L i
theorem upd_same (L : Nat → Pl) (k : Nat) (x : Pl) : upd L k x k = x := by simp [upd]
theorem upd_other (L : Nat → Pl) (k : Nat) (x : Pl) (i : Nat) (h : i ≠ k) : upd L k x i = L i := by simp [upd, h]

/-- the way of a key to a place -/
def Way (st : Key → Nat) (L : Nat → Pl) (N : Nat) (c : Key) (k : Nat) : Prop := ∃ d, d < N ∧ k = (st c + d) % N ∧ ∀ d', d' < d → (L ((st c + d') % N)).how ≠ 0
structure Inv (st : Key → Nat) (L : Nat → Pl) (N : Nat) : Prop where
  kinds : ∀ i, i < N → (L i).how = 0 ∨ (L i).how = 1 ∨ (L i).how = 2
  way : ∀ i, i < N → (L i).how = 1 → Way st L N (L i).key i
  once : ∀ i j, i < N → j < N → (L i).how = 1 → (L j).how = 1 → (L i).key = (L j).key → i = j
def Rep (L : Nat → Pl) (N : Nat) (M : Key → Option Int) : Prop := ∀ c v, M c = some v ↔ ∃ i, i < N ∧ (L i).how = 1 ∧ (L i).key = c ∧ (L i).v = v

/-- what find gives -/
structure Found (st : Key → Nat) (L : Nat → Pl) (N : Nat) (c : Key) (k : Nat) (b : Bool) : Prop where
  lt : k < N
  yes : b = true → (L k).how = 1 ∧ (L k).key = c
  no : b = false → (∀ i, i < N → (L i).how = 1 → (L i).key ≠ c) ∧ (L k).how ≠ 1 ∧ Way st L N c k

/-- behind d places of the way, none of which was the key's, nor empty: free is the first that is gone -/
structure Seek (st : Key → Nat) (L : Nat → Pl) (N : Nat) (c : Key) (d : Nat) (free : Int) : Prop where
  le : d < N
  past : ∀ d', d' < d → (L ((st c + d') % N)).how ≠ 0 ∧ ¬ ((L ((st c + d') % N)).how = 1 ∧ (L ((st c + d') % N)).key = c)
  free : free = -1 ∨ ∃ d', d' < d ∧ free = (((st c + d') % N : Nat) : Int) ∧ (L ((st c + d') % N)).how = 2

theorem ring_onto {N s i : Nat} (hi : i < N) : ∃ d, d < N ∧ (s + d) % N = i := by
  refine ⟨(i + (N - s % N)) % N, Nat.mod_lt _ (by omega), ?_⟩
  have hs : s % N < N := Nat.mod_lt _ (by omega)
  rw [Nat.add_mod, Nat.mod_mod, ← Nat.add_mod]
  have e : s + (i + (N - s % N)) = i + N * (s / N + 1) := by
    have := Nat.div_add_mod s N
    rw [Nat.mul_add, Nat.mul_one]; omega
  rw [e, Nat.add_mul_mod_self_left, Nat.mod_eq_of_lt hi]
theorem Seek.start {st : Key → Nat} {L : Nat → Pl} {N : Nat} {c : Key} (h : 0 < N) : Seek st L N c 0 (-1) := ⟨h, fun d' hd => by omega, .inl rfl⟩
theorem Seek.yes {st : Key → Nat} {L : Nat → Pl} {N : Nat} {c : Key} {d : Nat} {free : Int} (h : Seek st L N c d free) (h1 : (L ((st c + d) % N)).how = 1) (h2 : (L ((st c + d) % N)).key = c) :
    Found st L N c ((st c + d) % N) true :=
  ⟨Nat.mod_lt _ (by have := h.le; omega), fun _ => ⟨h1, h2⟩, (fun e => nomatch e)⟩
theorem Seek.none {st : Key → Nat} {L : Nat → Pl} {N : Nat} {c : Key} {d : Nat} {free : Int} (hI : Inv st L N) (h : Seek st L N c d free) (h0 : (L ((st c + d) % N)).how = 0) :
    ∀ i, i < N → (L i).how = 1 → (L i).key ≠ c := by
  intro i hi h1 hc
  obtain ⟨d0, hd0, e, hw⟩ := hI.way i hi h1
  rw [hc] at e hw
  rcases Nat.lt_trichotomy d0 d with hlt | heq | hgt
  · have := (h.past d0 hlt).2
    rw [← e] at this
    exact this ⟨h1, hc⟩
  · subst heq; rw [← e] at h0; omega
  · exact hw d hgt h0
theorem Seek.free_ {st : Key → Nat} {L : Nat → Pl} {N : Nat} {c : Key} {d : Nat} {k : Nat} (hI : Inv st L N) (h : Seek st L N c d (k : Int)) (h0 : (L ((st c + d) % N)).how = 0) : Found st L N c k false := by
  rcases h.free with hf | ⟨d', hd', hf, h2⟩
  · omega
  · have e : k = (st c + d') % N := by omega
    refine ⟨by rw [e]; exact Nat.mod_lt _ (by have := h.le; omega), (fun e => nomatch e), fun _ => ⟨h.none hI h0, by rw [e]; omega, d', by have := h.le; omega, e, fun d'' hd'' => (h.past d'' (by omega)).1⟩⟩
theorem Seek.here {st : Key → Nat} {L : Nat → Pl} {N : Nat} {c : Key} {d : Nat} {free : Int} (hI : Inv st L N) (h : Seek st L N c d free) (h0 : (L ((st c + d) % N)).how = 0) : Found st L N c ((st c + d) % N) false :=
  ⟨Nat.mod_lt _ (by have := h.le; omega), (fun e => nomatch e), fun _ => ⟨h.none hI h0, by omega, d, h.le, rfl, fun d' hd' => (h.past d' hd').1⟩⟩
/-- one step on; there is an empty place, so the way does not close -/
theorem Seek.lt {st : Key → Nat} {L : Nat → Pl} {N : Nat} {c : Key} {d : Nat} {free : Int} (hE : ∃ i, i < N ∧ (L i).how = 0) (h : Seek st L N c d free) (h0 : (L ((st c + d) % N)).how ≠ 0) : d + 1 < N := by
  obtain ⟨i, hi, he⟩ := hE
  obtain ⟨de, hde, e⟩ := ring_onto (s := st c) hi
  rw [← e] at he
  rcases Nat.lt_trichotomy de d with hlt | heq | hgt
  · exact absurd he (h.past de hlt).1
  · subst heq; exact absurd he h0
  · omega
theorem Seek.next {st : Key → Nat} {L : Nat → Pl} {N : Nat} {c : Key} {d : Nat} {free : Int} (hE : ∃ i, i < N ∧ (L i).how = 0) (h : Seek st L N c d free) (h0 : (L ((st c + d) % N)).how ≠ 0)
    (h1 : ¬ ((L ((st c + d) % N)).how = 1 ∧ (L ((st c + d) % N)).key = c)) (f' : Int) (hf : f' = free ∨ (f' = (((st c + d) % N : Nat) : Int) ∧ (L ((st c + d) % N)).how = 2)) : Seek st L N c (d + 1) f' := by
  refine ⟨h.lt hE h0, fun d' hd' => ?_, ?_⟩
  · by_cases e : d' = d
    · subst e; exact ⟨h0, h1⟩
    · exact h.past d' (by omega)
  · rcases hf with hf | ⟨hf, h2⟩
    · rw [hf]
      rcases h.free with h3 | ⟨d', hd', h4, h5⟩
      · exact .inl h3
      · exact .inr ⟨d', by omega, h4, h5⟩
    · exact .inr ⟨d, by omega, hf, h2⟩
theorem ring_next {s d N : Nat} : ((s + d) % N + 1) % N = (s + (d + 1)) % N := by
  rw [Nat.mod_add_mod, Nat.add_assoc]

/-! ### storing -/
theorem Found.put {st : Key → Nat} {L : Nat → Pl} {N : Nat} {c : Key} {k : Nat} {b : Bool} (hI : Inv st L N) (h : Found st L N c k b) (v : Int) : Inv st (upd L k ⟨1, c, v⟩) N := by
  have hk := h.lt
  have hne : ∀ i, (L i).how ≠ 0 → (upd L k ⟨1, c, v⟩ i).how ≠ 0 := by
    intro i hi
    by_cases e : i = k
    · subst e; rw [upd_same]; simp
    · rw [upd_other _ _ _ _ e]; exact hi
  have hway : ∀ c' i, Way st L N c' i → Way st (upd L k ⟨1, c, v⟩) N c' i := fun c' i ⟨d, hd, e, hw⟩ => ⟨d, hd, e, fun d' hd' => hne _ (hw d' hd')⟩
  have hwk : Way st L N c k := by
    cases b with
    | true => obtain ⟨h1, h2⟩ := h.yes rfl; have := hI.way k hk h1; rwa [h2] at this
    | false => exact (h.no rfl).2.2
  refine ⟨fun i hi => ?_, fun i hi h1 => ?_, fun i j hi hj h1 h2 he => ?_⟩
  · by_cases e : i = k
    · subst e; rw [upd_same]; simp
    · rw [upd_other _ _ _ _ e]; exact hI.kinds i hi
  · by_cases e : i = k
    · subst e; rw [upd_same]; exact hway _ _ hwk
    · rw [upd_other _ _ _ _ e] at h1 ⊢; exact hway _ _ (hI.way i hi h1)
  · have hother : ∀ j, j < N → j ≠ k → (L j).how = 1 → (L j).key ≠ c := by
      intro j hj hjk h1 hc
      cases b with
      | true => obtain ⟨h3, h4⟩ := h.yes rfl; exact hjk (hI.once j k hj hk h1 h3 (by rw [hc, h4]))
      | false => exact (h.no rfl).1 j hj h1 hc
    by_cases e : i = k
    · by_cases e' : j = k
      · rw [e, e']
      · subst e
        rw [upd_same, upd_other _ _ _ _ e'] at he
        rw [upd_other _ _ _ _ e'] at h2
        exact absurd he.symm (hother j hj e' h2)
    · by_cases e' : j = k
      · subst e'
        rw [upd_same, upd_other _ _ _ _ e] at he
        rw [upd_other _ _ _ _ e] at h1
        exact absurd he (hother i hi e h1)
      · rw [upd_other _ _ _ _ e] at h1 he
        rw [upd_other _ _ _ _ e'] at h2 he
        exact hI.once i j hi hj h1 h2 he
def setK (M : Key → Option Int) (c : Key) (o : Option Int) : Key → Option Int := fun c' => if c' = c then o else M c'
theorem Found.others {st : Key → Nat} {L : Nat → Pl} {N : Nat} {c : Key} {k : Nat} {b : Bool} (hI : Inv st L N) (h : Found st L N c k b) : ∀ j, j < N → j ≠ k → (L j).how = 1 → (L j).key ≠ c := by
  intro j hj hjk h1 hc
  cases b with
  | true => obtain ⟨h3, h4⟩ := h.yes rfl; exact hjk (hI.once j k hj h.lt h1 h3 (by rw [hc, h4]))
  | false => exact (h.no rfl).1 j hj h1 hc
theorem Found.has {st : Key → Nat} {L : Nat → Pl} {N : Nat} {c : Key} {k : Nat} {b : Bool} (h : Found st L N c k b) {M : Key → Option Int} (hR : Rep L N M) : (b = true → M c = some (L k).v) ∧ (b = false → M c = none) := by
  constructor
  · intro e
    obtain ⟨h1, h2⟩ := h.yes e
    exact (hR c _).2 ⟨k, h.lt, h1, h2, rfl⟩
  · intro e
    cases hM : M c with
    | none => rfl
    | some v =>
      obtain ⟨i, hi, h1, h2, _⟩ := (hR c v).1 hM
      exact absurd h2 ((h.no e).1 i hi h1)
theorem Found.rep {st : Key → Nat} {L : Nat → Pl} {N : Nat} {c : Key} {k : Nat} {b : Bool} (hI : Inv st L N) (h : Found st L N c k b) {M : Key → Option Int} (hR : Rep L N M) (v : Int) :
    Rep (upd L k ⟨1, c, v⟩) N (setK M c (some v)) := by
  intro c' v'
  unfold setK
  by_cases e : c' = c
  · subst e
    rw [if_pos rfl]
    constructor
    · intro e; injection e with e; subst e; exact ⟨k, h.lt, by rw [upd_same], by rw [upd_same], by rw [upd_same]⟩
    · rintro ⟨i, hi, h1, h2, h3⟩
      by_cases e : i = k
      · subst e; rw [upd_same] at h3; rw [← h3]
      · rw [upd_other _ _ _ _ e] at h1 h2
        exact absurd h2 (h.others hI i hi e h1)
  · rw [if_neg e, hR c' v']
    constructor
    · rintro ⟨i, hi, h1, h2, h3⟩
      have hik : i ≠ k := by
        rintro rfl
        cases b with
        | true => exact e (by rw [← h2, (h.yes rfl).2])
        | false => exact absurd h1 (h.no rfl).2.1
      exact ⟨i, hi, by rw [upd_other _ _ _ _ hik]; exact h1, by rw [upd_other _ _ _ _ hik]; exact h2, by rw [upd_other _ _ _ _ hik]; exact h3⟩
    · rintro ⟨i, hi, h1, h2, h3⟩
      have hik : i ≠ k := by rintro rfl; rw [upd_same] at h2; exact e h2.symm
      rw [upd_other _ _ _ _ hik] at h1 h2 h3
      exact ⟨i, hi, h1, h2, h3⟩
theorem drop_inv {st : Key → Nat} {L : Nat → Pl} {N k : Nat} (hI : Inv st L N) (_hk : k < N) (x : Pl) (hx : x.how = 2) : Inv st (upd L k x) N := by
  have hne : ∀ i, (L i).how ≠ 0 → (upd L k x i).how ≠ 0 := by
    intro i hi
    by_cases e : i = k
    · subst e; rw [upd_same]; omega
    · rw [upd_other _ _ _ _ e]; exact hi
  refine ⟨fun i hi => ?_, fun i hi h1 => ?_, fun i j hi hj h1 h2 he => ?_⟩
  · by_cases e : i = k
    · subst e; rw [upd_same]; omega
    · rw [upd_other _ _ _ _ e]; exact hI.kinds i hi
  · have e : i ≠ k := by rintro rfl; rw [upd_same] at h1; omega
    rw [upd_other _ _ _ _ e] at h1 ⊢
    obtain ⟨d, hd, e1, hw⟩ := hI.way i hi h1
    exact ⟨d, hd, e1, fun d' hd' => hne _ (hw d' hd')⟩
  · have e : i ≠ k := by rintro rfl; rw [upd_same] at h1; omega
    have e' : j ≠ k := by rintro rfl; rw [upd_same] at h2; omega
    rw [upd_other _ _ _ _ e] at h1 he
    rw [upd_other _ _ _ _ e'] at h2 he
    exact hI.once i j hi hj h1 h2 he
theorem Found.rep_drop {st : Key → Nat} {L : Nat → Pl} {N : Nat} {c : Key} {k : Nat} (hI : Inv st L N) (h : Found st L N c k true) {M : Key → Option Int} (hR : Rep L N M) (x : Pl) (hx : x.how = 2) :
    Rep (upd L k x) N (setK M c none) := by
  intro c' v'
  unfold setK
  constructor
  · intro hM
    by_cases e : c' = c
    · rw [if_pos e] at hM; cases hM
    · rw [if_neg e] at hM
      obtain ⟨i, hi, h1, h2, h3⟩ := (hR c' v').1 hM
      have hik : i ≠ k := by rintro rfl; exact e (by rw [← h2, (h.yes rfl).2])
      exact ⟨i, hi, by rw [upd_other _ _ _ _ hik]; exact h1, by rw [upd_other _ _ _ _ hik]; exact h2, by rw [upd_other _ _ _ _ hik]; exact h3⟩
  · rintro ⟨i, hi, h1, h2, h3⟩
    have hik : i ≠ k := by rintro rfl; rw [upd_same] at h1; omega
    rw [upd_other _ _ _ _ hik] at h1 h2 h3
    rw [if_neg (fun e => h.others hI i hi hik h1 (by rw [h2, e]))]
    exact (hR c' v').2 ⟨i, hi, h1, h2, h3⟩
theorem setK_same (M : Key → Option Int) (c : Key) (o : Option Int) (h : M c = o) : setK M c o = M := by
  funext c'
  unfold setK
  by_cases e : c' = c
  · rw [if_pos e, e, h]
  · rw [if_neg e]

/-! ### counts -/
theorem cnt_full_put {st : Key → Nat} {L : Nat → Pl} {N : Nat} {c : Key} {k : Nat} {b : Bool} (h : Found st L N c k b) (v : Int) :
    cntB (full (upd L k ⟨1, c, v⟩)) N = cntB (full L) N + (!b).toNat := by
  have hu := cntB_upd (p := full L) (q := full (upd L k ⟨1, c, v⟩)) h.lt (fun i _ hn => by unfold full; rw [upd_other _ _ _ _ hn])
  have e1 : full (upd L k ⟨1, c, v⟩) k = true := by unfold full; rw [upd_same]; rfl
  rw [e1] at hu
  cases b with
  | true =>
    have e2 : full L k = true := by unfold full; rw [(h.yes rfl).1]; rfl
    rw [e2] at hu; simp at hu ⊢; omega
  | false =>
    have e2 : full L k = false := by unfold full; simpa using (h.no rfl).2.1
    rw [e2] at hu; simp at hu ⊢; omega
theorem cnt_taken_put {st : Key → Nat} {L : Nat → Pl} {N : Nat} {c : Key} {k : Nat} {b : Bool} (h : Found st L N c k b) (v : Int) :
    cntB (taken (upd L k ⟨1, c, v⟩)) N = cntB (taken L) N + (if (L k).how = 0 then 1 else 0) := by
  have hu := cntB_upd (p := taken L) (q := taken (upd L k ⟨1, c, v⟩)) h.lt (fun i _ hn => by unfold taken; rw [upd_other _ _ _ _ hn])
  have e1 : taken (upd L k ⟨1, c, v⟩) k = true := by unfold taken; rw [upd_same]; rfl
  rw [e1] at hu
  by_cases h0 : (L k).how = 0
  · have e2 : taken L k = false := by unfold taken; rw [h0]; rfl
    rw [e2] at hu; rw [if_pos h0]; simp at hu ⊢; omega
  · have e2 : taken L k = true := by unfold taken; simpa using h0
    rw [e2] at hu; rw [if_neg h0]; simp at hu ⊢; omega
theorem cnt_full_drop {st : Key → Nat} {L : Nat → Pl} {N : Nat} {c : Key} {k : Nat} (h : Found st L N c k true) (x : Pl) (hx : x.how = 2) :
    cntB (full (upd L k x)) N + 1 = cntB (full L) N := by
  have hu := cntB_upd (p := full L) (q := full (upd L k x)) h.lt (fun i _ hn => by unfold full; rw [upd_other _ _ _ _ hn])
  have e1 : full (upd L k x) k = false := by unfold full; rw [upd_same, hx]; rfl
  have e2 : full L k = true := by unfold full; rw [(h.yes rfl).1]; rfl
  rw [e1, e2] at hu; simp at hu; omega
theorem cnt_taken_drop {st : Key → Nat} {L : Nat → Pl} {N : Nat} {c : Key} {k : Nat} (h : Found st L N c k true) (x : Pl) (hx : x.how = 2) :
    cntB (taken (upd L k x)) N = cntB (taken L) N := by
  have hu := cntB_upd (p := taken L) (q := taken (upd L k x)) h.lt (fun i _ hn => by unfold taken; rw [upd_other _ _ _ _ hn])
  have e1 : taken (upd L k x) k = true := by unfold taken; rw [upd_same, hx]; rfl
  have e2 : taken L k = true := by unfold taken; rw [(h.yes rfl).1]; rfl
  rw [e1, e2] at hu; simp at hu; omega
theorem full_le_taken (L : Nat → Pl) (N : Nat) : cntB (full L) N ≤ cntB (taken L) N := cntB_mono fun i _ h => by
  unfold full at h; unfold taken; simp at h ⊢; omega
theorem empty_of {L : Nat → Pl} {N : Nat} (h : cntB (taken L) N < N) : ∃ i, i < N ∧ (L i).how = 0 := by
  obtain ⟨i, hi, h1⟩ := cntB_lt h
  exact ⟨i, hi, by unfold taken at h1; simpa using h1⟩

/-! ### a table whose places are all empty; a part of another table put in -/
theorem Inv.new (st : Key → Nat) {L : Nat → Pl} {N : Nat} (h : ∀ i, i < N → (L i).how = 0) : Inv st L N :=
  ⟨fun i hi => .inl (h i hi), fun i hi h1 => by have := h i hi; omega, fun i j hi _ h1 => by have := h i hi; omega⟩
theorem Rep.new {L : Nat → Pl} {N : Nat} (h : ∀ i, i < N → (L i).how = 0) : Rep L N (fun _ => none) := fun c v => by
  constructor
  · intro e; cases e
  · rintro ⟨i, hi, h1, _⟩; have := h i hi; omega
/-- the content of the first j places -/
def Part (L : Nat → Pl) (j : Nat) (M : Key → Option Int) : Prop := Rep L j M
theorem Part.skip {L : Nat → Pl} {j : Nat} {M : Key → Option Int} (h : Rep L j M) (h1 : (L j).how ≠ 1) : Rep L (j + 1) M := fun c v => by
  rw [h c v]
  constructor
  · rintro ⟨i, hi, r⟩; exact ⟨i, by omega, r⟩
  · rintro ⟨i, hi, r⟩
    exact ⟨i, by
      rcases Nat.lt_or_ge i j with h2 | h2
      · exact h2
      · have : i = j := by omega
        subst this; exact absurd r.1 h1, r⟩
theorem Part.fresh {st : Key → Nat} {L : Nat → Pl} {N j : Nat} {M : Key → Option Int} (hI : Inv st L N) (hj : j < N) (h : Rep L j M) (h1 : (L j).how = 1) : M (L j).key = none := by
  cases hM : M (L j).key with
  | none => rfl
  | some v =>
    obtain ⟨i, hi, h2, h3, _⟩ := (h _ v).1 hM
    have := hI.once i j (by omega) hj h2 h1 h3
    omega
theorem Part.more {st : Key → Nat} {L : Nat → Pl} {N j : Nat} {M : Key → Option Int} (hI : Inv st L N) (hj : j < N) (h : Rep L j M) (h1 : (L j).how = 1) : Rep L (j + 1) (setK M (L j).key (some (L j).v)) := fun c v => by
  unfold setK
  by_cases e : c = (L j).key
  · rw [if_pos e]
    constructor
    · intro e2; injection e2 with e2; exact ⟨j, by omega, h1, e.symm, e2⟩
    · rintro ⟨i, hi, h2, h3, h4⟩
      have := hI.once i j (by omega) hj h2 h1 (by rw [h3, e])
      subst this; rw [h4]
  · rw [if_neg e, h c v]
    constructor
    · rintro ⟨i, hi, r⟩; exact ⟨i, by omega, r⟩
    · rintro ⟨i, hi, r⟩
      exact ⟨i, by
        rcases Nat.lt_or_ge i j with h2 | h2
        · exact h2
        · have : i = j := by omega
          subst this; exact absurd r.2.1.symm e, r⟩
end Go.Proofs.Ytdalnhhenahcjaa.HP
