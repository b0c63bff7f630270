/- Layer 19 in plain Lean: to which nodes one comes (Rc), Tarjan's walk and what holds in it (TS, TI). No Go in sight. -/
namespace Go.Proofs.Ytbancojknahdgaa.CP
/-- a graph: where each node's edges lead -/
abbrev Gr := Nat → List Nat
/-- one comes from a to b -/
inductive Rc (g : Gr) (a : Nat) : Nat → Prop
  | refl : Rc g a a
  | tail {b c : Nat} : Rc g a b → c ∈ g b → Rc g a c
theorem Rc.trans {g : Gr} {a b c : Nat} (h : Rc g a b) (k : Rc g b c) : Rc g a c := by
  induction k with
  | refl => exact h
  | tail _ hm ih => exact ih.tail hm
theorem Rc.one {g : Gr} {a b : Nat} (h : b ∈ g a) : Rc g a b := Rc.refl.tail h
theorem Rc.closed {g : Gr} {a b : Nat} (D : Nat → Prop) (hD : ∀ v, D v → ∀ x ∈ g v, D x) (h : Rc g a b) (ha : D a) : D b := by
  induction h with
  | refl => exact ha
  | tail _ hm ih => exact hD _ ih _ hm
def fup {α : Type} (f : Nat → α) (k : Nat) (v : α) : Nat → α := fun i => if i = k then v else f i
theorem fup_same {α : Type} (f : Nat → α) (k : Nat) (v : α) : fup f k v k = v := by simp [fup]
theorem fup_ne {α : Type} (f : Nat → α) {k i : Nat} (v : α) (h : i ≠ k) : fup f k v i = f i := by simp [fup, h]
theorem fup_id {α : Type} (f : Nat → α) (k : Nat) : fup f k (f k) = f := by
  funext i
  by_cases h : i = k
  · subst h; exact fup_same _ _ _
  · exact fup_ne _ _ h
/-! ### how many there are -/
def cn (p : Nat → Bool) : Nat → Nat
  | 0 => 0
  | n + 1 => cn p n + (p n).toNat
theorem cn_le (p : Nat → Bool) : ∀ n, cn p n ≤ n
  | 0 => Nat.le_refl _
  | n + 1 => by have := cn_le p n; have : (p n).toNat ≤ 1 := Bool.toNat_le _; unfold cn; omega
theorem cn_congr {p q : Nat → Bool} : ∀ {n : Nat}, (∀ i, i < n → p i = q i) → cn p n = cn q n
  | 0, _ => rfl
  | n + 1, h => by unfold cn; rw [cn_congr fun i hi => h i (by omega), h n (by omega)]
theorem cn_fup {p : Nat → Bool} {k : Nat} (hp : p k = false) : ∀ {n : Nat}, k < n → cn (fup p k true) n = cn p n + 1
  | n + 1, h => by
    unfold cn
    by_cases e : k = n
    · subst e
      rw [fup_same, hp, cn_congr (q := p) fun i hi => fup_ne _ _ (by omega)]
      simp
    · rw [cn_fup hp (n := n) (by omega), fup_ne _ _ (by omega : n ≠ k)]
      omega
theorem cn_lt {p : Nat → Bool} {k : Nat} (hp : p k = false) : ∀ {n : Nat}, k < n → cn p n < n
  | n + 1, h => by
    unfold cn
    by_cases e : k = n
    · subst e; rw [hp]; have := cn_le p k; simp; omega
    · have := cn_lt hp (n := n) (by omega)
      have : (p n).toNat ≤ 1 := Bool.toNat_le _
      omega
theorem cn_full {p : Nat → Bool} {n : Nat} (h : cn p n = n) : ∀ i, i < n → p i = true := fun i hi => by
  cases e : p i with
  | true => rfl
  | false => have := cn_lt e hi; omega
theorem cn_gap {p : Nat → Bool} : ∀ {n : Nat}, cn p n < n → ∃ i, i < n ∧ p i = false
  | 0, h => by omega
  | n + 1, h => by
    unfold cn at h
    cases e : p n with
    | false => exact ⟨n, by omega, e⟩
    | true =>
      rw [e] at h
      simp at h
      obtain ⟨i, h1, h2⟩ := cn_gap h
      exact ⟨i, by omega, h2⟩
theorem cn_mono {p q : Nat → Bool} : ∀ {n : Nat}, (∀ i, i < n → p i = true → q i = true) → cn p n ≤ cn q n
  | 0, _ => Nat.le_refl _
  | n + 1, h => by
    unfold cn
    have h1 := cn_mono (p := p) (q := q) (n := n) fun i hi => h i (by omega)
    have h2 := h n (by omega)
    cases e : p n with
    | false => simp; omega
    | true => rw [h2 e]; omega
theorem cn_less {p q : Nat → Bool} {k n : Nat} (h : ∀ i, i < n → p i = true → q i = true) (hk : k < n) (hp : p k = false) (hq : q k = true) : cn p n < cn q n := by
  have h1 := cn_fup hp hk
  have h2 : cn (fup p k true) n ≤ cn q n := cn_mono fun i hi hh => by
    by_cases e : i = k
    · subst e; exact hq
    · rw [fup_ne _ _ e] at hh; exact h i hi hh
  omega
/-! ### Tarjan's walk -/
structure TS where
  met : Nat → Nat
  low : Nat → Nat
  stack : List Nat
  on : Nat → Bool
  count : Nat
  comp : Nat → Nat
  comps : Nat
def TS.meet (s : TS) (k : Nat) : TS := { s with count := s.count + 1, met := fup s.met k (s.count + 1), low := fup s.low k (s.count + 1), stack := s.stack ++ [k], on := fup s.on k true }
def TS.lower (s : TS) (k m : Nat) : TS := { s with low := fup s.low k m }
/-- the stack's end is a component -/
def TS.pop (s : TS) (pre l : List Nat) : TS := { s with stack := pre, on := fun v => if v ∈ l then false else s.on v, comp := fun v => if v ∈ l then s.comps else s.comp v, comps := s.comps + 1 }
structure TI (g : Gr) (n : Nat) (s : TS) (way : List Nat) (next : Nat → Nat) : Prop where
  mle : ∀ v, v < n → s.met v ≤ s.count
  inj : ∀ u v, u < n → v < n → s.met u = s.met v → s.met u ≠ 0 → u = v
  cnt : cn (fun v => s.met v != 0) n = s.count
  onI : ∀ v, s.on v = true ↔ v ∈ s.stack
  stI : ∀ v ∈ s.stack, v < n ∧ s.met v ≠ 0
  stS : s.stack.Pairwise fun a b => s.met a < s.met b
  wyS : way.Pairwise fun a b => s.met a < s.met b
  wyI : ∀ v ∈ way, v ∈ s.stack
  A : ∀ w ∈ way, ∀ v ∈ s.stack, s.met w ≤ s.met v → Rc g w v
  lle : ∀ v ∈ s.stack, s.low v ≤ s.met v
  wit : ∀ v ∈ s.stack, ∃ u ∈ s.stack, s.met u = s.low v ∧ Rc g v u
  E : ∀ v ∈ s.stack, ∀ j, j < next v → ∀ x, (g v)[j]? = some x → s.met x ≠ 0 ∧ (x ∈ s.stack → s.low v ≤ s.met x)
  nx : ∀ v, s.met v = 0 → next v = 0
  fin : ∀ v ∈ s.stack, v ∉ way → (g v).length ≤ next v ∧ s.low v < s.met v
  L : ∀ w ∈ way, ∀ v ∈ s.stack, v ∉ way → s.met w < s.met v → (∀ w' ∈ way, s.met w' < s.met v → s.met w' ≤ s.met w) → s.low w ≤ s.low v
  dcl : ∀ v, v < n → s.met v ≠ 0 → v ∉ s.stack → ∀ x ∈ g v, s.met x ≠ 0 ∧ x ∉ s.stack
  dcm : ∀ v, v < n → s.met v ≠ 0 → v ∉ s.stack → s.comp v < s.comps
  ker : ∀ u v, u < n → v < n → s.met u ≠ 0 → s.met v ≠ 0 → u ∉ s.stack → v ∉ s.stack → (s.comp u = s.comp v ↔ Rc g u v ∧ Rc g v u)
  hit : ∀ c, c < s.comps → ∃ v, v < n ∧ s.met v ≠ 0 ∧ v ∉ s.stack ∧ s.comp v = c
section
variable {g : Gr} {n : Nat} {s : TS} {way : List Nat} {next : Nat → Nat}
theorem TI.count_le (h : TI g n s way next) : s.count ≤ n := by rw [← h.cnt]; exact cn_le _ _
theorem TI.count_lt (h : TI g n s way next) {k : Nat} (hk : k < n) (h0 : s.met k = 0) : s.count < n := by rw [← h.cnt]; exact cn_lt (k := k) (by simp [h0]) hk
theorem TI.fresh (h : TI g n s way next) {k : Nat} (h0 : s.met k = 0) : k ∉ s.stack := fun hm => (h.stI k hm).2 h0
/-- what is met is below the new number -/
theorem TI.old (h : TI g n s way next) {v : Nat} (hv : v ∈ s.stack) : s.met v < s.count + 1 := by have := h.mle v (h.stI v hv).1; omega
theorem TI.meet (h : TI g n s way next) (_hg : ∀ v, ∀ x ∈ g v, x < n) {k : Nat} (hk : k < n) (h0 : s.met k = 0) (hr : ∀ w ∈ way, Rc g w k) {next' : Nat → Nat} (hn0 : next' k = 0)
    (hnz : ∀ v, v ≠ k → s.met v = 0 → next' v = 0) (hnf : ∀ v ∈ s.stack, v ∉ way → next v ≤ next' v) (hE : ∀ v ∈ s.stack, ∀ j, j < next' v → ∀ x, (g v)[j]? = some x → x = k ∨ j < next v) :
    TI g n (s.meet k) (way ++ [k]) next' := by
  have hks := h.fresh h0
  have hkw : k ∉ way := fun hm => hks (h.wyI k hm)
  have hne : ∀ v ∈ s.stack, v ≠ k := fun v hv e => hks (e ▸ hv)
  have hmo : ∀ v, v ≠ k → (s.meet k).met v = s.met v := fun v hv => fup_ne _ _ hv
  have hmk : (s.meet k).met k = s.count + 1 := fup_same _ _ _
  have hlo : ∀ v, v ≠ k → (s.meet k).low v = s.low v := fun v hv => fup_ne _ _ hv
  have hlk : (s.meet k).low k = s.count + 1 := fup_same _ _ _
  have hst : ∀ v, v ∈ (s.meet k).stack ↔ v ∈ s.stack ∨ v = k := fun v => by show v ∈ s.stack ++ [k] ↔ _; simp
  have hwy : ∀ v, v ∈ way ++ [k] ↔ v ∈ way ∨ v = k := fun v => by simp
  have hnz' : ∀ v, (s.meet k).met v ≠ 0 → v ≠ k → s.met v ≠ 0 := fun v hv e => by rw [hmo v e] at hv; exact hv
  refine ⟨?_, ?_, ?_, ?_, ?_, ?_, ?_, ?_, ?_, ?_, ?_, ?_, ?_, ?_, ?_, ?_, ?_, ?_, ?_⟩
  · intro v hv
    by_cases e : v = k
    · subst e; rw [hmk]; exact Nat.le_refl _
    · rw [hmo v e]; have := h.mle v hv; show _ ≤ s.count + 1; omega
  · intro u v hu hv he hz
    by_cases e1 : u = k
    · by_cases e2 : v = k
      · rw [e1, e2]
      · rw [e1, hmk, hmo v e2] at he; have := h.mle v hv; omega
    · by_cases e2 : v = k
      · rw [e2, hmk, hmo u e1] at he; have := h.mle u hu; omega
      · rw [hmo u e1, hmo v e2] at he; rw [hmo u e1] at hz; exact h.inj u v hu hv he hz
  · have e : (fun v => (s.meet k).met v != 0) = fup (fun v => s.met v != 0) k true := by
      funext v
      by_cases e : v = k
      · subst e; rw [fup_same]; show ((s.meet v).met v != 0) = true; rw [hmk]; simp
      · rw [fup_ne _ _ e]; show ((s.meet k).met v != 0) = _; rw [hmo v e]
    rw [e, cn_fup (by simp [h0]) hk, h.cnt]
    rfl
  · intro v
    rw [hst]
    show fup s.on k true v = true ↔ _
    by_cases e : v = k
    · subst e; rw [fup_same]; simp
    · rw [fup_ne _ _ e, h.onI]; simp [e]
  · intro v hv0
    rcases (hst v).1 hv0 with hv | rfl
    · exact ⟨(h.stI v hv).1, by rw [hmo v (hne v hv)]; exact (h.stI v hv).2⟩
    · exact ⟨hk, by rw [hmk]; omega⟩
  · show (s.stack ++ [k]).Pairwise _
    refine List.pairwise_append.2 ⟨?_, List.pairwise_singleton _ _, ?_⟩
    · refine List.Pairwise.imp_of_mem ?_ h.stS
      intro a b ha hb hab
      rw [hmo a (hne a ha), hmo b (hne b hb)]; exact hab
    · intro a ha b hb
      rw [List.mem_singleton.1 hb, hmk, hmo a (hne a ha)]
      exact h.old ha
  · refine List.pairwise_append.2 ⟨?_, List.pairwise_singleton _ _, ?_⟩
    · refine List.Pairwise.imp_of_mem ?_ h.wyS
      intro a b ha hb hab
      rw [hmo a (hne a (h.wyI a ha)), hmo b (hne b (h.wyI b hb))]; exact hab
    · intro a ha b hb
      rw [List.mem_singleton.1 hb, hmk, hmo a (hne a (h.wyI a ha))]
      exact h.old (h.wyI a ha)
  · intro v hv0
    rw [hst]
    rcases (hwy v).1 hv0 with hv | rfl
    · exact .inl (h.wyI v hv)
    · exact .inr rfl
  · intro w hw0 v hv0 hle
    rcases (hwy w).1 hw0 with hw | rfl
    · rcases (hst v).1 hv0 with hv | rfl
      · rw [hmo w (hne w (h.wyI w hw)), hmo v (hne v hv)] at hle
        exact h.A w hw v hv hle
      · exact hr w hw
    · rcases (hst v).1 hv0 with hv | rfl
      · rw [hmk, hmo v (hne v hv)] at hle
        have := h.old hv
        omega
      · exact Rc.refl
  · intro v hv0
    rcases (hst v).1 hv0 with hv | rfl
    · rw [hmo v (hne v hv), hlo v (hne v hv)]; exact h.lle v hv
    · rw [hmk, hlk]; exact Nat.le_refl _
  · intro v hv0
    rcases (hst v).1 hv0 with hv | rfl
    · obtain ⟨u, h1, h2, h3⟩ := h.wit v hv
      exact ⟨u, (hst u).2 (.inl h1), by rw [hmo u (hne u h1), hlo v (hne v hv)]; exact h2, h3⟩
    · exact ⟨v, (hst v).2 (.inr rfl), by rw [hmk, hlk], Rc.refl⟩
  · intro v hv0 j hj x hx
    rcases (hst v).1 hv0 with hv | rfl
    · rcases hE v hv j hj x hx with rfl | hj
      · refine ⟨by rw [hmk]; omega, fun _ => ?_⟩
        rw [hmk, hlo v (hne v hv)]
        have := h.lle v hv; have := h.old hv; omega
      · obtain ⟨h1, h2⟩ := h.E v hv j hj x hx
        have hxk : x ≠ k := fun e => h1 (by rw [e]; exact h0)
        refine ⟨by rw [hmo x hxk]; exact h1, fun hxs => ?_⟩
        rw [hmo x hxk, hlo v (hne v hv)]
        rcases (hst x).1 hxs with hxs | e
        · exact h2 hxs
        · exact absurd e hxk
    · rw [hn0] at hj; omega
  · intro v hv
    by_cases e : v = k
    · rw [e, hmk] at hv; omega
    · rw [hmo v e] at hv; exact hnz v e hv
  · intro v hv0 hvw
    rcases (hst v).1 hv0 with hv | rfl
    · have hvw' : v ∉ way := fun hm => hvw ((hwy v).2 (.inl hm))
      obtain ⟨h1, h2⟩ := h.fin v hv hvw'
      have h3 := hnf v hv hvw'
      exact ⟨Nat.le_trans h1 h3, by rw [hmo v (hne v hv), hlo v (hne v hv)]; exact h2⟩
    · exact absurd ((hwy v).2 (.inr rfl)) hvw
  · intro w hw0 v hv0 hvw hlt hall
    have hvw' : v ∉ way := fun hm => hvw ((hwy v).2 (.inl hm))
    rcases (hst v).1 hv0 with hv | rfl
    · rcases (hwy w).1 hw0 with hw | rfl
      · have hw' := hne w (h.wyI w hw)
        rw [hmo w hw', hmo v (hne v hv)] at hlt
        rw [hlo w hw', hlo v (hne v hv)]
        refine h.L w hw v hv hvw' hlt fun w' hw'' hl => ?_
        have hw3 := hne w' (h.wyI w' hw'')
        have := hall w' ((hwy w').2 (.inl hw'')) (by rw [hmo w' hw3, hmo v (hne v hv)]; exact hl)
        rw [hmo w' hw3, hmo w hw'] at this
        exact this
      · rw [hmk, hmo v (hne v hv)] at hlt
        have := h.old hv
        omega
    · exact absurd ((hwy v).2 (.inr rfl)) hvw
  · intro v hv hm hs x hx
    have hvk : v ≠ k := fun e => hs ((hst v).2 (.inr e))
    obtain ⟨h1, h2⟩ := h.dcl v hv (hnz' v hm hvk) (fun hh => hs ((hst v).2 (.inl hh))) x hx
    have hxk : x ≠ k := fun e => h1 (by rw [e]; exact h0)
    refine ⟨by rw [hmo x hxk]; exact h1, fun hh => ?_⟩
    rcases (hst x).1 hh with hh | e
    · exact h2 hh
    · exact hxk e
  · intro v hv hm hs
    have hvk : v ≠ k := fun e => hs ((hst v).2 (.inr e))
    exact h.dcm v hv (hnz' v hm hvk) (fun hh => hs ((hst v).2 (.inl hh)))
  · intro u v hu hv hmu hmv hsu hsv
    have hvk : v ≠ k := fun e => hsv ((hst v).2 (.inr e))
    have huk : u ≠ k := fun e => hsu ((hst u).2 (.inr e))
    exact h.ker u v hu hv (hnz' u hmu huk) (hnz' v hmv hvk) (fun hh => hsu ((hst u).2 (.inl hh))) (fun hh => hsv ((hst v).2 (.inl hh)))
  · intro c hc
    obtain ⟨v, h1, h2, h3, h4⟩ := h.hit c hc
    have hvk : v ≠ k := fun e => h2 (by rw [e]; exact h0)
    refine ⟨v, h1, by rw [hmo v hvk]; exact h2, fun hh => ?_, h4⟩
    rcases (hst v).1 hh with hh | e
    · exact h3 hh
    · exact hvk e
theorem TI.lower (h : TI g n s way next) {t m : Nat} (ht : t ∈ way) (hm : m ≤ s.low t) (hw : ∃ u ∈ s.stack, s.met u = m ∧ Rc g t u) : TI g n (s.lower t m) way next := by
  have hle : ∀ v, (s.lower t m).low v ≤ s.low v := fun v => by
    show fup s.low t m v ≤ _
    by_cases e : v = t
    · subst e; rw [fup_same]; exact hm
    · rw [fup_ne _ _ e]; exact Nat.le_refl _
  have hlo : ∀ v, v ≠ t → (s.lower t m).low v = s.low v := fun v e => fup_ne _ _ e
  refine ⟨h.mle, h.inj, h.cnt, h.onI, h.stI, h.stS, h.wyS, h.wyI, h.A, fun v hv => Nat.le_trans (hle v) (h.lle v hv), ?_, ?_, h.nx, ?_, ?_, h.dcl, h.dcm, h.ker, h.hit⟩
  · intro v hv
    by_cases e : v = t
    · subst e
      obtain ⟨u, h1, h2, h3⟩ := hw
      exact ⟨u, h1, by show s.met u = fup s.low v m v; rw [fup_same]; exact h2, h3⟩
    · obtain ⟨u, h1, h2, h3⟩ := h.wit v hv
      exact ⟨u, h1, by rw [hlo v e]; exact h2, h3⟩
  · intro v hv j hj x hx
    obtain ⟨h1, h2⟩ := h.E v hv j hj x hx
    exact ⟨h1, fun hs => Nat.le_trans (hle v) (h2 hs)⟩
  · intro v hv hvw
    obtain ⟨h1, h2⟩ := h.fin v hv hvw
    exact ⟨h1, Nat.lt_of_le_of_lt (hle v) h2⟩
  · intro w hw v hv hvw hlt hall
    have e : v ≠ t := fun e => hvw (e ▸ ht)
    rw [hlo v e]
    exact Nat.le_trans (hle w) (h.L w hw v hv hvw hlt hall)
theorem TI.goon (h : TI g n s way next) {t x : Nat} (hx : (g t)[next t]? = some x) (hm : s.met x ≠ 0) (hl : x ∈ s.stack → s.low t ≤ s.met x) (ht : t ∈ way) : TI g n s way (fup next t (next t + 1)) := by
  refine ⟨h.mle, h.inj, h.cnt, h.onI, h.stI, h.stS, h.wyS, h.wyI, h.A, h.lle, h.wit, ?_, ?_, ?_, h.L, h.dcl, h.dcm, h.ker, h.hit⟩
  · intro v hv j hj y hy
    by_cases e : v = t
    · subst e
      rw [fup_same] at hj
      by_cases e2 : j = next v
      · subst e2
        rw [hx] at hy
        injection hy with hy
        subst hy
        exact ⟨hm, hl⟩
      · exact h.E v hv j (by omega) y hy
    · rw [fup_ne _ _ e] at hj
      exact h.E v hv j hj y hy
  · intro v hv
    have e : v ≠ t := fun e => (h.stI t (h.wyI t ht)).2 (e ▸ hv)
    rw [fup_ne _ _ e]
    exact h.nx v hv
  · intro v hv hvw
    have e : v ≠ t := fun e => hvw (e ▸ ht)
    rw [fup_ne _ _ e]
    exact h.fin v hv hvw
/-- the way's end goes on at an edge to what was met -/
theorem TI.scan (h : TI g n s way next) {t x : Nat} (ht : t ∈ way) (hx : (g t)[next t]? = some x) (hm : s.met x ≠ 0) : TI g n (s.lower t (if s.on x then min (s.low t) (s.met x) else s.low t)) way (fup next t (next t + 1)) := by
  have hts := h.wyI t ht
  cases e : s.on x with
  | false =>
    have hxs : x ∉ s.stack := fun hh => by rw [(h.onI x).2 hh] at e; cases e
    have hid : s.lower t (s.low t) = s := by unfold TS.lower; rw [fup_id]
    rw [if_neg (by decide), hid]
    exact h.goon hx hm (fun hh => absurd hh hxs) ht
  | true =>
    rw [if_pos rfl]
    have hxs := (h.onI x).1 e
    have h2 := h.lower (t := t) (m := min (s.low t) (s.met x)) ht (Nat.min_le_left _ _) (by
      rcases Nat.le_total (s.low t) (s.met x) with hle | hle
      · rw [Nat.min_eq_left hle]; exact h.wit t hts
      · rw [Nat.min_eq_right hle]; exact ⟨x, hxs, rfl, Rc.one (List.mem_of_getElem? hx)⟩)
    refine h2.goon hx hm (fun _ => ?_) ht
    show fup s.low t _ t ≤ s.met x
    rw [fup_same]; exact Nat.min_le_right _ _
/-- the way's end is met last -/
theorem TI.top {ws : List Nat} {t : Nat} (h : TI g n s (ws ++ [t]) next) : ∀ w ∈ ws ++ [t], s.met w ≤ s.met t := fun w hw => by
  rcases List.mem_append.1 hw with hw | hw
  · exact Nat.le_of_lt ((List.pairwise_append.1 h.wyS).2.2 w hw t (by simp))
  · rw [List.mem_singleton.1 hw]; exact Nat.le_refl _
theorem TI.top_lt {ws : List Nat} {t : Nat} (h : TI g n s (ws ++ [t]) next) : ∀ w ∈ ws, s.met w < s.met t := fun w hw => (List.pairwise_append.1 h.wyS).2.2 w hw t (by simp)
/-- the way's end is left, and stays on the stack -/
theorem TI.leave {ws : List Nat} {t : Nat} (h : TI g n s (ws ++ [t]) next) (hf : (g t).length ≤ next t) (hlt : s.low t < s.met t) (hu : ∀ u, ws.getLast? = some u → s.low u ≤ s.low t) : TI g n s ws next := by
  have hin : ∀ v, v ∈ ws → v ∈ ws ++ [t] := fun v hv => List.mem_append.2 (.inl hv)
  have hts : t ∈ s.stack := h.wyI t (by simp)
  have hall0 : ∀ v, v ∉ ws → v ≠ t → v ∉ ws ++ [t] := fun v h1 h2 h3 => by
    rcases List.mem_append.1 h3 with h3 | h3
    · exact h1 h3
    · exact h2 (List.mem_singleton.1 h3)
  -- the last of ws
  have hlast : ∀ w ∈ ws, (∀ w' ∈ ws, s.met w' ≤ s.met w) → s.low w ≤ s.low t := fun w hw hmx => by
    cases e : ws.getLast? with
    | none => rw [List.getLast?_eq_none_iff] at e; rw [e] at hw; cases hw
    | some u =>
      obtain ⟨ys, hys⟩ := List.getLast?_eq_some_iff.1 e
      have hum : u ∈ ws := by rw [hys]; simp
      have h1 : s.met w ≤ s.met u := by
        have hp := (List.pairwise_append.1 h.wyS).1
        rw [hys] at hp hw
        rcases List.mem_append.1 hw with hw | hw
        · exact Nat.le_of_lt ((List.pairwise_append.1 hp).2.2 w hw u (by simp))
        · rw [List.mem_singleton.1 hw]; exact Nat.le_refl _
      have h2 := hmx u hum
      have hws := h.stI w (h.wyI w (hin w hw))
      have hus := h.stI u (h.wyI u (hin u hum))
      obtain rfl := h.inj w u hws.1 hus.1 (by omega) hws.2
      exact hu w e
  refine ⟨h.mle, h.inj, h.cnt, h.onI, h.stI, h.stS, (List.pairwise_append.1 h.wyS).1, fun v hv => h.wyI v (hin v hv), fun w hw => h.A w (hin w hw), h.lle, h.wit, h.E, h.nx, ?_, ?_, h.dcl, h.dcm, h.ker, h.hit⟩
  · intro v hv hvw
    by_cases e : v = t
    · subst e; exact ⟨hf, hlt⟩
    · exact h.fin v hv (hall0 v hvw e)
  · intro w hw v hv hvw hwv hall
    by_cases e : v = t
    · subst e
      exact hlast w hw fun w' hw' => hall w' hw' (h.top_lt w' hw')
    · have hv2 := hall0 v hvw e
      rcases Nat.lt_or_ge (s.met t) (s.met v) with hlt2 | hge
      · have h1 := h.L t (by simp) v hv hv2 hlt2 fun w' hw' _ => h.top w' hw'
        have h2 := hlast w hw fun w' hw' => hall w' hw' (by have := h.top_lt w' hw'; omega)
        omega
      · refine h.L w (hin w hw) v hv hv2 hwv fun w' hw' hl => ?_
        rcases List.mem_append.1 hw' with hw' | hw'
        · exact hall w' hw' hl
        · rw [List.mem_singleton.1 hw'] at hl; omega
/-- a way without an end: nothing stands on the stack -/
theorem TI.empty (h : TI g n s [] next) : s.stack = [] := by
  have key : ∀ m v, v ∈ s.stack → s.met v = m → False := by
    intro m
    induction m using Nat.strongRecOn with
    | ind m ih =>
      intro v hv hm
      obtain ⟨u, h1, h2, _⟩ := h.wit v hv
      have := (h.fin v hv (by simp)).2
      exact ih (s.met u) (by omega) u h1 rfl
  cases e : s.stack with
  | nil => rfl
  | cons v l => exact (key _ v (by rw [e]; simp) rfl).elim
/-- all that stands on the stack from the way's end on comes to it -/
theorem TI.back {ws : List Nat} {t : Nat} (h : TI g n s (ws ++ [t]) next) (hlt : ¬ s.low t < s.met t) : ∀ m v, v ∈ s.stack → s.met v = m → s.met t ≤ s.met v → Rc g v t ∧ s.met t ≤ s.low v := by
  have hts : t ∈ s.stack := h.wyI t (by simp)
  intro m
  induction m using Nat.strongRecOn with
  | ind m ih =>
    intro v hv hm hle
    by_cases e : v = t
    · subst e; exact ⟨Rc.refl, by omega⟩
    · have hne : s.met t ≠ s.met v := fun hh => e (h.inj v t (h.stI v hv).1 (h.stI t hts).1 hh.symm (h.stI v hv).2)
      have hvw : v ∉ ws ++ [t] := fun hh => by have := h.top v hh; omega
      have h1 := h.L t (by simp) v hv hvw (by omega) fun w' hw' _ => h.top w' hw'
      have h2 := (h.fin v hv hvw).2
      obtain ⟨u, h3, h4, h5⟩ := h.wit v hv
      have hlt' := h.lle t hts
      obtain ⟨h6, _⟩ := ih (s.met u) (by omega) u h3 rfl (by omega)
      exact ⟨h5.trans h6, by omega⟩
theorem TI.done_closed (h : TI g n s way next) (hg : ∀ v, ∀ x ∈ g v, x < n) {a b : Nat} (hr : Rc g a b) (ha : a < n ∧ s.met a ≠ 0 ∧ a ∉ s.stack) : b < n ∧ s.met b ≠ 0 ∧ b ∉ s.stack :=
  hr.closed (fun v => v < n ∧ s.met v ≠ 0 ∧ v ∉ s.stack) (fun v hv x hx => ⟨hg v x hx, h.dcl v hv.1 hv.2.1 hv.2.2 x hx⟩) ha
/-- the way's end is left, and all on the stack from it on is a component -/
theorem TI.pop {ws pre post : List Nat} {t : Nat} (h : TI g n s (ws ++ [t]) next) (hg : ∀ v, ∀ x ∈ g v, x < n) (hf : (g t).length ≤ next t) (hlt : ¬ s.low t < s.met t) (hst : s.stack = pre ++ t :: post) : TI g n (s.pop pre (t :: post)) ws next := by
  have hin : ∀ v, v ∈ ws → v ∈ ws ++ [t] := fun v hv => List.mem_append.2 (.inl hv)
  have hts : t ∈ s.stack := h.wyI t (by simp)
  have hS := h.stS
  rw [hst] at hS
  obtain ⟨hS1, hS2, hS3⟩ := List.pairwise_append.1 hS
  have hpre : ∀ v, v ∈ pre → v ∈ s.stack ∧ s.met v < s.met t := fun v hv => ⟨by rw [hst]; exact List.mem_append.2 (.inl hv), hS3 v hv t (by simp)⟩
  have hpst : ∀ v, v ∈ t :: post → v ∈ s.stack ∧ s.met t ≤ s.met v := fun v hv => ⟨by rw [hst]; exact List.mem_append.2 (.inr hv), by
    rcases List.mem_cons.1 hv with rfl | hv
    · exact Nat.le_refl _
    · exact Nat.le_of_lt ((List.pairwise_cons.1 hS2).1 v hv)⟩
  have hcase : ∀ v, v ∈ s.stack → v ∈ pre ∨ v ∈ t :: post := fun v hv => by rw [hst] at hv; exact List.mem_append.1 hv
  have hpre' : ∀ v, v ∈ s.stack → s.met v < s.met t → v ∈ pre := fun v hv hl => by
    rcases hcase v hv with hv | hv
    · exact hv
    · have := (hpst v hv).2; omega
  have hpst' : ∀ v, v ∈ s.stack → s.met t ≤ s.met v → v ∈ t :: post := fun v hv hl => by
    rcases hcase v hv with hv | hv
    · have := (hpre v hv).2; omega
    · exact hv
  have hnpp : ∀ v, v ∈ t :: post → v ∉ pre := fun v h1 h2 => by have := (hpst v h1).2; have := (hpre v h2).2; omega
  have hwp : ∀ w, w ∈ ws → w ∈ pre := fun w hw => hpre' w (h.wyI w (hin w hw)) (h.top_lt w hw)
  have hback := fun v hv => h.back hlt (s.met v) v hv rfl
  -- how popped nodes stand
  have hpw : ∀ v, v ∈ t :: post → v ∉ ws := fun v hv hw => hnpp v hv (hwp v hw)
  have hnext : ∀ v, v ∈ t :: post → (g v).length ≤ next v := fun v hv => by
    by_cases e : v = t
    · subst e; exact hf
    · exact (h.fin v (hpst v hv).1 (fun hh => by
        rcases List.mem_append.1 hh with hh | hh
        · exact hpw v hv hh
        · exact e (List.mem_singleton.1 hh))).1
  have hnotin : ∀ v, v ∉ pre → v ∈ s.stack → v ∈ t :: post := fun v h1 h2 => (hcase v h2).resolve_left h1
  have hcm : ∀ v, v ∉ t :: post → (s.pop pre (t :: post)).comp v = s.comp v := fun v hv => by show (if v ∈ t :: post then _ else _) = _; rw [if_neg hv]
  have hcp : ∀ v, v ∈ t :: post → (s.pop pre (t :: post)).comp v = s.comps := fun v hv => by show (if v ∈ t :: post then _ else _) = _; rw [if_pos hv]
  refine ⟨h.mle, h.inj, h.cnt, ?_, fun v hv => h.stI v (hpre v hv).1, hS1, (List.pairwise_append.1 h.wyS).1, hwp, ?_, fun v hv => h.lle v (hpre v hv).1, ?_, ?_, h.nx, ?_, ?_, ?_, ?_, ?_, ?_⟩
  · intro v
    show (if v ∈ t :: post then false else s.on v) = true ↔ v ∈ pre
    by_cases e : v ∈ t :: post
    · rw [if_pos e]
      exact ⟨fun hh => (by cases hh), fun hh => absurd hh (hnpp v e)⟩
    · rw [if_neg e, h.onI]
      exact ⟨fun hh => (hcase v hh).resolve_right e, fun hh => (hpre v hh).1⟩
  · intro w hw v hv hle
    exact h.A w (hin w hw) v (hpre v hv).1 hle
  · intro v hv
    obtain ⟨u, h1, h2, h3⟩ := h.wit v (hpre v hv).1
    have := h.lle v (hpre v hv).1
    have := (hpre v hv).2
    exact ⟨u, hpre' u h1 (by omega), h2, h3⟩
  · intro v hv j hj x hx
    obtain ⟨h1, h2⟩ := h.E v (hpre v hv).1 j hj x hx
    exact ⟨h1, fun hs => h2 (hpre x hs).1⟩
  · intro v hv hvw
    refine h.fin v (hpre v hv).1 fun hh => ?_
    rcases List.mem_append.1 hh with hh | hh
    · exact hvw hh
    · have := (hpre v hv).2; rw [List.mem_singleton.1 hh] at this; omega
  · intro w hw v hv hvw hwv hall
    refine h.L w (hin w hw) v (hpre v hv).1 (fun hh => ?_) hwv fun w' hw' hl => ?_
    · rcases List.mem_append.1 hh with hh | hh
      · exact hvw hh
      · have := (hpre v hv).2; rw [List.mem_singleton.1 hh] at this; omega
    · rcases List.mem_append.1 hw' with hw' | hw'
      · exact hall w' hw' hl
      · have h3 := (hpre v hv).2; rw [List.mem_singleton.1 hw'] at hl; omega
  · intro v hv hm hs x hx
    by_cases hvs : v ∈ s.stack
    · have hvp := hnotin v hs hvs
      obtain ⟨j, hj, hjx⟩ := List.getElem_of_mem hx
      have hlen := hnext v hvp
      obtain ⟨h1, h2⟩ := h.E v hvs j (by omega) x (by rw [List.getElem?_eq_getElem hj, hjx])
      refine ⟨h1, fun hxp => ?_⟩
      have h3 := h2 (hpre x hxp).1
      have h4 := (hback v hvs (hpst v hvp).2).2
      have h5 := (hpre x hxp).2
      omega
    · obtain ⟨h1, h2⟩ := h.dcl v hv hm hvs x hx
      exact ⟨h1, fun hxp => h2 (hpre x hxp).1⟩
  · intro v hv hm hs
    show (s.pop pre (t :: post)).comp v < s.comps + 1
    by_cases hvs : v ∈ s.stack
    · rw [hcp v (hnotin v hs hvs)]; omega
    · rw [hcm v (fun hh => hvs (hpst v hh).1)]; have := h.dcm v hv hm hvs; omega
  · intro u v hu hv hmu hmv hsu hsv
    by_cases h1 : u ∈ s.stack
    · have hup := hnotin u hsu h1
      have hu1 := hback u h1 (hpst u hup).2
      by_cases h2 : v ∈ s.stack
      · have hvp := hnotin v hsv h2
        have hv1 := hback v h2 (hpst v hvp).2
        rw [hcp u hup, hcp v hvp]
        exact ⟨fun _ => ⟨hu1.1.trans (h.A t (by simp) v h2 (hpst v hvp).2), hv1.1.trans (h.A t (by simp) u h1 (hpst u hup).2)⟩, fun _ => rfl⟩
      · rw [hcp u hup, hcm v (fun hh => h2 (hpst v hh).1)]
        have h3 := h.dcm v hv hmv h2
        exact ⟨fun hh => by omega, fun hh => absurd h1 (h.done_closed hg hh.2 ⟨hv, hmv, h2⟩).2.2⟩
    · by_cases h2 : v ∈ s.stack
      · have hvp := hnotin v hsv h2
        rw [hcp v hvp, hcm u (fun hh => h1 (hpst u hh).1)]
        have h3 := h.dcm u hu hmu h1
        exact ⟨fun hh => by omega, fun hh => absurd h2 (h.done_closed hg hh.1 ⟨hu, hmu, h1⟩).2.2⟩
      · rw [hcm u (fun hh => h1 (hpst u hh).1), hcm v (fun hh => h2 (hpst v hh).1)]
        exact h.ker u v hu hv hmu hmv h1 h2
  · intro c hc
    have hc : c < s.comps + 1 := hc
    by_cases e : c = s.comps
    · subst e
      exact ⟨t, (h.stI t hts).1, (h.stI t hts).2, hnpp t (by simp), hcp t (by simp)⟩
    · obtain ⟨v, h1, h2, h3, h4⟩ := h.hit c (by omega)
      exact ⟨v, h1, h2, fun hh => h3 (hpre v hh).1, by rw [hcm v (fun hh => h3 (hpst v hh).1)]; exact h4⟩
end
/-- a walk begins where all that was met is done -/
theorem TI.start {g : Gr} {n : Nat} {s : TS} {next : Nat → Nat} (h : TI g n s [] next) : TI g n s [] fun _ => 0 := by
  have he := h.empty
  refine ⟨h.mle, h.inj, h.cnt, h.onI, h.stI, h.stS, h.wyS, h.wyI, h.A, h.lle, h.wit, ?_, fun _ _ => rfl, ?_, h.L, h.dcl, h.dcm, h.ker, h.hit⟩
  · intro v hv j hj; omega
  · intro v hv; rw [he] at hv; cases hv
/-- nothing is met yet -/
def TS.init : TS := ⟨fun _ => 0, fun _ => 0, [], fun _ => false, 0, fun _ => 0, 0⟩
theorem TI.init (g : Gr) (n : Nat) : TI g n TS.init [] fun _ => 0 := by
  have no : ∀ {p : Nat → Prop}, ∀ v, v ∈ TS.init.stack → p v := fun v h => by cases h
  have no2 : ∀ {p : Nat → Prop}, ∀ v, v ∈ ([] : List Nat) → p v := fun v h => by cases h
  refine ⟨fun _ _ => Nat.le_refl _, fun _ _ _ _ _ h => absurd rfl h, ?_, fun _ => ⟨fun h => (by cases h), fun h => (by cases h)⟩, no, List.Pairwise.nil, List.Pairwise.nil, no2, no2, no, no, no, fun _ _ => rfl, no, no2, fun _ _ h => absurd rfl h, fun _ _ h => absurd rfl h, fun _ _ _ _ h => absurd rfl h, fun _ h => absurd h (Nat.not_lt_zero _)⟩
  show cn (fun _ => false) n = 0
  induction n with
  | zero => rfl
  | succ n ih => unfold cn; rw [ih]; rfl
end Go.Proofs.Ytbancojknahdgaa.CP
