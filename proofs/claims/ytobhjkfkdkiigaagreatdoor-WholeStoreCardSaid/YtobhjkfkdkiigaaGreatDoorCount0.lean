/- Layer 6 in plain Lean: the variables that a node asks (askB), its cubes (cubB), for how many values it says true (satB), their numbers (expF, numsL), the first ones (firB), the walk that gathers the variables (AskPost). -/
import Derived.Test.YtobhjkfkdkiigaaGreatDoorOperP
namespace Go.Proofs.YtobhjkfkdkiigaaGreatDoor.NP
/-- does a node ask a variable, itself or below? -/
def askF (l : List Nd) (v : Nat) : Nat → Nat → Bool
  | 0, _ => false
  | f + 1, k => if k < 2 then false else ((nd l k).v == v || (askF l v f (nd l k).low || askF l v f (nd l k).high))
def askB (l : List Nd) (k v : Nat) : Bool := askF l v 257 k
theorem askF_fuel {S : NS} (h : Wf S) (v : Nat) : ∀ (f g k : Nat), isB S.l k = true → S.vars - (nd S.l k).v ≤ f → S.vars - (nd S.l k).v ≤ g → askF S.l v f k = askF S.l v g k := by
  have leaf : ∀ f k, k < 2 → askF S.l v f k = false := fun f k hk => by
    cases f with
    | zero => rfl
    | succ f => rw [askF, if_pos hk]
  intro f
  induction f with
  | zero =>
    intro g k hk hf _
    have : k < 2 := by
      rcases Nat.lt_or_ge k 2 with h2 | h2
      · exact h2
      · have := (h.kid k h2 hk).1; omega
    rw [leaf _ _ this, leaf _ _ this]
  | succ f ih =>
    intro g k hk hf hg
    rcases Nat.lt_or_ge k 2 with h2 | h2
    · rw [leaf _ _ h2, leaf _ _ h2]
    · obtain ⟨hv, _, h3, h4, h5, h6⟩ := h.kid k h2 hk
      cases g with
      | zero => omega
      | succ g =>
        have h2' : ¬ k < 2 := by omega
        rw [askF, askF, if_neg h2', if_neg h2', ih g _ h3 (by omega) (by omega), ih g _ h4 (by omega) (by omega)]
theorem askB_leaf (l : List Nd) (v : Nat) {k : Nat} (hk : k < 2) : askB l k v = false := by unfold askB; rw [askF, if_pos hk]
theorem askB_step {S : NS} (h : Wf S) (v : Nat) {k : Nat} (h2 : 2 ≤ k) (hk : isB S.l k = true) : askB S.l k v = ((nd S.l k).v == v || (askB S.l (nd S.l k).low v || askB S.l (nd S.l k).high v)) := by
  obtain ⟨hv, _, h3, h4, h5, h6⟩ := h.kid k h2 hk
  have h256 := h.v256
  have e : askB S.l k v = ((nd S.l k).v == v || (askF S.l v 256 (nd S.l k).low || askF S.l v 256 (nd S.l k).high)) := by unfold askB; rw [askF, if_neg (by omega)]
  rw [e, askF_fuel h v 256 257 _ h3 (by omega) (by omega), askF_fuel h v 256 257 _ h4 (by omega) (by omega)]
  rfl
/-- an induction down a node -/
theorem node_ind {S : NS} (h : Wf S) {P : Nat → Prop} (hl : ∀ k, k < 2 → P k) (hs : ∀ k, 2 ≤ k → isB S.l k = true → P (nd S.l k).low → P (nd S.l k).high → P k) : ∀ k, isB S.l k = true → P k := by
  have key : ∀ (f k : Nat), isB S.l k = true → S.vars - (nd S.l k).v < f → P k := by
    intro f
    induction f with
    | zero => intro k _ hf; omega
    | succ f ih =>
      intro k hk hf
      rcases Nat.lt_or_ge k 2 with h2 | h2
      · exact hl k h2
      · obtain ⟨hv, _, h3, h4, h5, h6⟩ := h.kid k h2 hk
        exact hs k h2 hk (ih _ h3 (by omega)) (ih _ h4 (by omega))
  exact fun k hk => key _ k hk (Nat.lt_succ_self _)
theorem askB_ge {S : NS} (h : Wf S) (v : Nat) : ∀ k, isB S.l k = true → askB S.l k v = true → (nd S.l k).v ≤ v ∧ v < S.vars := by
  refine node_ind h (fun k hk ha => by rw [askB_leaf _ _ hk] at ha; cases ha) fun k h2 hk il ih ha => ?_
  obtain ⟨hv, _, h3, h4, h5, h6⟩ := h.kid k h2 hk
  rw [askB_step h v h2 hk] at ha
  simp only [Bool.or_eq_true, beq_iff_eq] at ha
  rcases ha with e | e | e
  · omega
  · have := il e; omega
  · have := ih e; omega
theorem ask_idle {S : NS} (h : Wf S) (v : Nat) (b : Bool) (ρ : Nat → Bool) : ∀ k, isB S.l k = true → askB S.l k v = false → den S.l (upR ρ v b) k = den S.l ρ k := by
  refine node_ind h (fun k hk _ => by rw [den_leaf _ _ hk, den_leaf _ _ hk]) fun k h2 hk il ih ha => ?_
  rw [askB_step h v h2 hk] at ha
  simp only [Bool.or_eq_false_iff, beq_eq_false_iff_ne] at ha
  obtain ⟨e, e1, e2⟩ := ha
  rw [den_kid h h2 hk, den_kid h h2 hk, il e1, ih e2]
  have : upR ρ v b (nd S.l k).v = ρ (nd S.l k).v := by unfold upR; rw [if_neg e]
  rw [this]
theorem ask_hangs {S : NS} (h : Wf S) (v : Nat) : ∀ k, isB S.l k = true → askB S.l k v = true → ∃ ρ, den S.l (upR ρ v true) k ≠ den S.l (upR ρ v false) k := by
  refine node_ind h (fun k hk ha => by rw [askB_leaf _ _ hk] at ha; cases ha) fun k h2 hk il ih ha => ?_
  obtain ⟨hv, hne, h3, h4, h5, h6⟩ := h.kid k h2 hk
  rw [askB_step h v h2 hk] at ha
  simp only [Bool.or_eq_true, beq_iff_eq] at ha
  by_cases e : (nd S.l k).v = v
  · have hx : ∃ ρ, den S.l ρ (nd S.l k).low ≠ den S.l ρ (nd S.l k).high := by
      refine Classical.byContradiction fun hn => hne (one_node h h3 h4 fun ρ => ?_)
      exact Classical.byContradiction fun hh => hn ⟨ρ, hh⟩
    obtain ⟨ρ, hx⟩ := hx
    refine ⟨ρ, fun he => hx ?_⟩
    rw [den_kid h h2 hk, den_kid h h2 hk] at he
    have u1 : upR ρ v true (nd S.l k).v = true := by unfold upR; rw [if_pos e]
    have u2 : upR ρ v false (nd S.l k).v = false := by unfold upR; rw [if_pos e]
    rw [u1, u2, if_pos rfl, if_neg (by decide)] at he
    have a1 : den S.l (upR ρ v true) (nd S.l k).high = den S.l ρ (nd S.l k).high := den_from h h4 _ _ fun i hi => by unfold upR; rw [if_neg (by omega)]
    have a2 : den S.l (upR ρ v false) (nd S.l k).low = den S.l ρ (nd S.l k).low := den_from h h3 _ _ fun i hi => by unfold upR; rw [if_neg (by omega)]
    rw [a1, a2] at he
    exact he.symm
  · have go : ∀ (c : Nat) (b : Bool), isB S.l c = true → (nd S.l k).v < (nd S.l c).v → (∀ ρ, ρ (nd S.l k).v = b → den S.l ρ k = den S.l ρ c) → (∃ ρ, den S.l (upR ρ v true) c ≠ den S.l (upR ρ v false) c) → ∃ ρ, den S.l (upR ρ v true) k ≠ den S.l (upR ρ v false) k := fun c b hc hcv hd hx => by
      obtain ⟨ρ, hx⟩ := hx
      have key : ∀ x : Bool, den S.l (upR (upR ρ (nd S.l k).v b) v x) k = den S.l (upR ρ v x) c := fun x => by
        rw [hd _ (by unfold upR; rw [if_neg e, if_pos rfl])]
        refine den_from h hc _ _ fun i hi => ?_
        unfold upR
        by_cases e2 : i = v
        · rw [if_pos e2, if_pos e2]
        · rw [if_neg e2, if_neg e2, if_neg (by omega)]
      exact ⟨upR ρ (nd S.l k).v b, by rw [key, key]; exact hx⟩
    rcases ha with e1 | e1 | e1
    · exact absurd e1 e
    · exact go _ false h3 h5 (fun ρ hr => by rw [den_kid h h2 hk, hr, if_neg (by decide)]) (il e1)
    · exact go _ true h4 h6 (fun ρ hr => by rw [den_kid h h2 hk, hr, if_pos rfl]) (ih e1)
/-- the variables that a node asks, rising -/
def asksL (S : NS) (k : Nat) : List Nat := (List.range S.vars).filter (askB S.l k)
theorem mem_asksL {S : NS} (h : Wf S) {k v : Nat} (hk : isB S.l k = true) : v ∈ asksL S k ↔ askB S.l k v = true := by
  unfold asksL
  rw [List.mem_filter, List.mem_range]
  exact ⟨fun hh => hh.2, fun hh => ⟨(askB_ge h v k hk hh).2, hh⟩⟩
/-! ### sixteen answers -/
/-- do sixteen answers hang on a variable? -/
def hangB (X v : Nat) : Bool := (List.range 16).any fun n => X.testBit n != X.testBit (n ^^^ 2 ^ v)
theorem ix_up : ∀ n : Nat, n < 16 → ∀ v : Nat, v < 4 → ∀ b : Bool, ix (upR (rho (valsN n)) v b) = if n.testBit v = b then n else n ^^^ 2 ^ v := by decide +kernel
theorem xor_lt : ∀ n : Nat, n < 16 → ∀ v : Nat, v < 4 → n ^^^ 2 ^ v < 16 := by decide +kernel
theorem ix_congr {ρ σ : Nat → Bool} (h : ∀ i, i < 4 → ρ i = σ i) : ix ρ = ix σ := by
  simp only [ix, idx]
  rw [h 0 (by decide), h 1 (by decide), h 2 (by decide), h 3 (by decide)]
theorem asks_tbl {S : NS} (h : Wf S) {k X v : Nat} (hd : Den S k (tbl X)) (hv : v < 4) : askB S.l k v = hangB X v := by
  refine bool_iff ⟨fun ha => ?_, fun hh => ?_⟩
  · obtain ⟨ρ, hx⟩ := ask_hangs h v k hd.is ha
    rw [hd.says, hd.says] at hx
    unfold tbl at hx
    obtain ⟨n, hn⟩ : ∃ n, ix ρ = n := ⟨_, rfl⟩
    have hn16 : n < 16 := by rw [← hn]; exact ix_lt ρ
    have e : ∀ b, ix (upR ρ v b) = ix (upR (rho (valsN n)) v b) := fun b => ix_congr fun i hi => by
      unfold upR
      split
      · rfl
      · rw [← hn, vals_ix ρ i hi]
    rw [e, e, ix_up n hn16 v hv, ix_up n hn16 v hv] at hx
    unfold hangB
    rw [List.any_eq_true]
    refine ⟨n, List.mem_range.2 hn16, ?_⟩
    rw [bne_iff_ne]
    intro he
    apply hx
    cases hb : n.testBit v <;> simp [he]
  · unfold hangB at hh
    rw [List.any_eq_true] at hh
    obtain ⟨n, hn, hx⟩ := hh
    have hn16 := List.mem_range.1 hn
    rw [bne_iff_ne] at hx
    cases ha : askB S.l k v with
    | true => rfl
    | false =>
      exfalso
      apply hx
      have e : ∀ b, X.testBit (ix (upR (rho (valsN n)) v b)) = X.testBit n := fun b => by
        have := ask_idle h v b (rho (valsN n)) k hd.is ha
        rw [hd.says, hd.says] at this
        unfold tbl at this
        rw [this, ix_vals n hn16]
      have e1 := e (!n.testBit v)
      rw [ix_up n hn16 v hv, if_neg (by cases n.testBit v <;> decide)] at e1
      exact e1.symm
theorem asksL_tbl {S : NS} (h : Wf S) (h4 : S.vars = 4) {k X : Nat} (hd : Den S k (tbl X)) : asksL S k = (List.range 4).filter (hangB X) := by
  unfold asksL
  rw [h4]
  exact List.filter_congr fun v hv => asks_tbl h hd (List.mem_range.1 hv)
def cubF (l : List Nd) : Nat → Nat → List Int → List (List Int)
  | 0, k, way => if k = 1 then [way] else []
  | f + 1, k, way => if k = 0 then [] else if k = 1 then [way] else cubF l f (nd l k).low (way.set (nd l k).v 0) ++ cubF l f (nd l k).high (way.set (nd l k).v 1)
/-- the ways through a node that end at 1, the values of the variables above it given -/
def cubB (l : List Nd) (k : Nat) (way : List Int) : List (List Int) := cubF l 257 k way
theorem cubF_zero (l : List Nd) (f : Nat) (way : List Int) : cubF l f 0 way = [] := by cases f <;> rfl
theorem cubF_one (l : List Nd) (f : Nat) (way : List Int) : cubF l f 1 way = [way] := by cases f <;> rfl
theorem cubF_fuel {S : NS} (h : Wf S) : ∀ (f g k : Nat) (way : List Int), isB S.l k = true → S.vars - (nd S.l k).v ≤ f → S.vars - (nd S.l k).v ≤ g → cubF S.l f k way = cubF S.l g k way := by
  have leaf : ∀ f g k way, k < 2 → cubF S.l f k way = cubF S.l g k way := fun f g k way hk => by
    rcases (by omega : k = 0 ∨ k = 1) with rfl | rfl
    · rw [cubF_zero, cubF_zero]
    · rw [cubF_one, cubF_one]
  intro f
  induction f with
  | zero =>
    intro g k way hk hf _
    refine leaf _ _ _ _ ?_
    rcases Nat.lt_or_ge k 2 with h2 | h2
    · exact h2
    · have := (h.kid k h2 hk).1; omega
  | succ f ih =>
    intro g k way hk hf hg
    rcases Nat.lt_or_ge k 2 with h2 | h2
    · exact leaf _ _ _ _ h2
    · obtain ⟨hv, _, h3, h4, h5, h6⟩ := h.kid k h2 hk
      cases g with
      | zero => omega
      | succ g =>
        rw [cubF, cubF, if_neg (by omega), if_neg (by omega), if_neg (by omega), if_neg (by omega), ih g _ _ h3 (by omega) (by omega), ih g _ _ h4 (by omega) (by omega)]
theorem cubB_zero (l : List Nd) (way : List Int) : cubB l 0 way = [] := cubF_zero _ _ _
theorem cubB_one (l : List Nd) (way : List Int) : cubB l 1 way = [way] := cubF_one _ _ _
theorem cubB_step {S : NS} (h : Wf S) {k : Nat} (way : List Int) (h2 : 2 ≤ k) (hk : isB S.l k = true) : cubB S.l k way = cubB S.l (nd S.l k).low (way.set (nd S.l k).v 0) ++ cubB S.l (nd S.l k).high (way.set (nd S.l k).v 1) := by
  obtain ⟨hv, _, h3, h4, h5, h6⟩ := h.kid k h2 hk
  have h256 := h.v256
  have e : cubB S.l k way = cubF S.l 256 (nd S.l k).low (way.set (nd S.l k).v 0) ++ cubF S.l 256 (nd S.l k).high (way.set (nd S.l k).v 1) := by unfold cubB; rw [cubF, if_neg (by omega), if_neg (by omega)]
  rw [e, cubF_fuel h 256 257 _ _ h3 (by omega) (by omega), cubF_fuel h 256 257 _ _ h4 (by omega) (by omega)]
  rfl
/-- an induction down a node, the way with it -/
theorem cub_ind {S : NS} (h : Wf S) {P : Nat → List Int → Prop} (hl : ∀ k way, k < 2 → P k way) (hs : ∀ k way, 2 ≤ k → isB S.l k = true → (∀ way, P (nd S.l k).low way) → (∀ way, P (nd S.l k).high way) → P k way) : ∀ k, isB S.l k = true → ∀ way, P k way :=
  node_ind h (P := fun k => ∀ way, P k way) (fun k hk way => hl k way hk) (fun k h2 hk il ih way => hs k way h2 hk il ih)
theorem cub_len {S : NS} (h : Wf S) : ∀ k, isB S.l k = true → ∀ way, ∀ c ∈ cubB S.l k way, c.length = way.length := by
  refine cub_ind h (fun k way hk c hc => ?_) fun k way h2 hk il ih c hc => ?_
  · rcases (by omega : k = 0 ∨ k = 1) with rfl | rfl
    · rw [cubB_zero] at hc; cases hc
    · rw [cubB_one] at hc; rw [List.mem_singleton.1 hc]
  · rw [cubB_step h way h2 hk, List.mem_append] at hc
    rcases hc with hc | hc
    · rw [il _ c hc, List.length_set]
    · rw [ih _ c hc, List.length_set]
/-- a cube has the values of the way above -/
theorem cub_old {S : NS} (h : Wf S) : ∀ k, isB S.l k = true → ∀ way, ∀ c ∈ cubB S.l k way, ∀ j, j < (nd S.l k).v → c[j]? = way[j]? := by
  refine cub_ind h (fun k way hk c hc j hj => ?_) fun k way h2 hk il ih c hc j hj => ?_
  · rcases (by omega : k = 0 ∨ k = 1) with rfl | rfl
    · rw [cubB_zero] at hc; cases hc
    · rw [cubB_one] at hc; rw [List.mem_singleton.1 hc]
  · obtain ⟨hv, _, h3, h4, h5, h6⟩ := h.kid k h2 hk
    rw [cubB_step h way h2 hk, List.mem_append] at hc
    rcases hc with hc | hc
    · rw [il _ c hc j (by omega), List.getElem?_set_ne (by omega)]
    · rw [ih _ c hc j (by omega), List.getElem?_set_ne (by omega)]
def bZ (b : Bool) : Int := if b then 1 else 0
/-- is it one of a cube's values? -/
def inB (n : Nat) (ρ : Nat → Bool) (c : List Int) : Bool := (List.range n).all fun v => c[v]? == some 2 || c[v]? == some (bZ (ρ v))
theorem inB_iff {n : Nat} {ρ : Nat → Bool} {c : List Int} : inB n ρ c = true ↔ ∀ v, v < n → c[v]? = some 2 ∨ c[v]? = some (bZ (ρ v)) := by
  unfold inB
  rw [List.all_eq_true]
  constructor
  · intro h v hv
    have := h v (List.mem_range.2 hv)
    simpa using this
  · intro h v hv
    have := h v (List.mem_range.1 hv)
    simpa using this
theorem inB_set {n : Nat} {ρ : Nat → Bool} {c : List Int} {v : Nat} (hn : v < n) (hl : n ≤ c.length) (h2 : c[v]? = some 2) (b : Bool) : inB n ρ (c.set v (bZ b)) = (inB n ρ c && (ρ v == b)) := by
  refine bool_iff ⟨fun h => ?_, fun h => ?_⟩
  · rw [inB_iff] at h
    rw [Bool.and_eq_true, inB_iff, beq_iff_eq]
    refine ⟨fun j hj => ?_, ?_⟩
    · by_cases e : j = v
      · subst e; exact .inl h2
      · have := h j hj
        rwa [List.getElem?_set_ne (Ne.symm e)] at this
    · have := h v hn
      rw [List.getElem?_set_self (by omega)] at this
      rcases this with e | e
      · injection e with e; cases b <;> cases e
      · injection e with e
        cases b <;> cases hr : ρ v <;> rw [hr] at e <;> first | rfl | cases e
  · rw [Bool.and_eq_true, inB_iff, beq_iff_eq] at h
    obtain ⟨h, hb⟩ := h
    rw [inB_iff]
    intro j hj
    by_cases e : j = v
    · subst e; rw [List.getElem?_set_self (by omega), hb]; exact .inr rfl
    · rw [List.getElem?_set_ne (Ne.symm e)]; exact h j hj
/-- each values for which a node says true has just one cube -/
theorem cub_count {S : NS} (h : Wf S) (ρ : Nat → Bool) : ∀ k, isB S.l k = true → ∀ way : List Int, way.length = S.vars → (∀ j, (nd S.l k).v ≤ j → j < S.vars → way[j]? = some 2) →
    (cubB S.l k way).countP (inB S.vars ρ) = if inB S.vars ρ way then (den S.l ρ k).toNat else 0 := by
  refine cub_ind h (fun k way hk _ _ => ?_) fun k way h2 hk il ih hl hw => ?_
  · rcases (by omega : k = 0 ∨ k = 1) with rfl | rfl
    · rw [cubB_zero, den_leaf S.l ρ (k := 0) (by decide)]; split <;> rfl
    · rw [cubB_one, den_leaf S.l ρ (k := 1) (by decide), List.countP_singleton]; rfl
  · obtain ⟨hv, _, h3, h4, h5, h6⟩ := h.kid k h2 hk
    have hset : ∀ (b : Bool) (c : Nat), (nd S.l k).v < (nd S.l c).v → ∀ j, (nd S.l c).v ≤ j → j < S.vars → (way.set (nd S.l k).v (bZ b))[j]? = some 2 := fun b c hc j hj hj2 => by
      rw [List.getElem?_set_ne (by omega)]; exact hw j (by omega) hj2
    have h2v := hw _ (Nat.le_refl _) hv
    rw [cubB_step h way h2 hk, List.countP_append]
    have a0 := il (way.set (nd S.l k).v 0) (by rw [List.length_set, hl]) (hset false _ h5)
    have a1 := ih (way.set (nd S.l k).v 1) (by rw [List.length_set, hl]) (hset true _ h6)
    have e0 := inB_set (ρ := ρ) hv (by omega) h2v false
    have e1 := inB_set (ρ := ρ) hv (by omega) h2v true
    rw [show bZ false = 0 from rfl] at e0
    rw [show bZ true = 1 from rfl] at e1
    rw [a0, a1, e0, e1, den_kid h h2 hk]
    cases inB S.vars ρ way <;> cases ρ (nd S.l k).v <;> simp
/-- a cube ahead of another one: at the first variable where they part, 0 ahead of 1 -/
def Ahd (a b : List Int) : Prop := ∃ k : Nat, (∀ j : Nat, j < k → a[j]? = b[j]?) ∧ a[k]? = some 0 ∧ b[k]? = some 1
theorem cub_order {S : NS} (h : Wf S) : ∀ k, isB S.l k = true → ∀ way : List Int, way.length = S.vars → (cubB S.l k way).Pairwise Ahd := by
  refine cub_ind h (fun k way hk _ => ?_) fun k way h2 hk il ih hl => ?_
  · rcases (by omega : k = 0 ∨ k = 1) with rfl | rfl
    · rw [cubB_zero]; exact List.Pairwise.nil
    · rw [cubB_one]; exact List.pairwise_singleton _ _
  · obtain ⟨hv, _, h3, h4, h5, h6⟩ := h.kid k h2 hk
    rw [cubB_step h way h2 hk, List.pairwise_append]
    refine ⟨il _ (by rw [List.length_set, hl]), ih _ (by rw [List.length_set, hl]), fun a ha b hb => ⟨(nd S.l k).v, fun j hj => ?_, ?_, ?_⟩⟩
    · rw [cub_old h _ h3 _ a ha j (by omega), cub_old h _ h4 _ b hb j (by omega), List.getElem?_set_ne (by omega), List.getElem?_set_ne (by omega)]
    · rw [cub_old h _ h3 _ a ha _ h5, List.getElem?_set_self (by omega)]
    · rw [cub_old h _ h4 _ b hb _ h6, List.getElem?_set_self (by omega)]
/-- a cube's values are 0, 1 and 2 -/
theorem cub_vals {S : NS} (h : Wf S) : ∀ k, isB S.l k = true → ∀ way : List Int, (∀ x ∈ way, x = 0 ∨ x = 1 ∨ x = 2) → ∀ c ∈ cubB S.l k way, ∀ x ∈ c, x = 0 ∨ x = 1 ∨ x = 2 := by
  refine cub_ind h (fun k way hk hw c hc => ?_) fun k way h2 hk il ih hw c hc => ?_
  · rcases (by omega : k = 0 ∨ k = 1) with rfl | rfl
    · rw [cubB_zero] at hc; cases hc
    · rw [cubB_one] at hc; rw [List.mem_singleton.1 hc]; exact hw
  · rw [cubB_step h way h2 hk, List.mem_append] at hc
    rcases hc with hc | hc
    · refine il _ (fun x hx => ?_) c hc
      rcases List.mem_or_eq_of_mem_set hx with hx | hx
      · exact hw x hx
      · exact .inl hx
    · refine ih _ (fun x hx => ?_) c hc
      rcases List.mem_or_eq_of_mem_set hx with hx | hx
      · exact hw x hx
      · exact .inr (.inl hx)
/-! ### no more than so many -/
def stepC (most : Nat) (p : List (List Int) × Bool) (c : List Int) : List (List Int) × Bool := if p.2 then p else if most ≤ p.1.length then (p.1, true) else (p.1 ++ [c], false)
def addC (most : Nat) (p : List (List Int) × Bool) (L : List (List Int)) : List (List Int) × Bool := L.foldl (stepC most) p
theorem addC_nil (most : Nat) (p : List (List Int) × Bool) : addC most p [] = p := rfl
theorem addC_app (most : Nat) (p : List (List Int) × Bool) (L M : List (List Int)) : addC most p (L ++ M) = addC most (addC most p L) M := List.foldl_append
theorem addC_full (most : Nat) (O : List (List Int)) : ∀ L, addC most (O, true) L = (O, true)
  | [] => rfl
  | c :: L => by
    show addC most (stepC most (O, true) c) L = _
    exact addC_full most O L
theorem addC_is (most : Nat) : ∀ (L O : List (List Int)), O.length ≤ most → addC most (O, false) L = if O.length + L.length ≤ most then (O ++ L, false) else ((O ++ L).take most, true)
  | [], O, h => by
    rw [addC_nil, if_pos (by simpa using h), List.append_nil]
  | c :: L, O, h => by
    show addC most (stepC most (O, false) c) L = _
    unfold stepC
    rw [if_neg (show ¬ (false = true) by decide)]
    by_cases e : most ≤ O.length
    · rw [if_pos e, addC_full, if_neg (by rw [List.length_cons]; omega)]
      have : O.length = most := by omega
      rw [List.take_left' this]
    · rw [if_neg e, addC_is most L (O ++ [c]) (by rw [List.length_append, List.length_singleton]; omega)]
      rw [List.length_append, List.length_singleton, List.length_cons, List.append_assoc, List.singleton_append, show O.length + 1 + L.length = O.length + (L.length + 1) by omega]
theorem addC_len (most : Nat) (p : List (List Int) × Bool) (hp : p.1.length ≤ most) (L : List (List Int)) : (addC most p L).1.length ≤ most := by
  obtain ⟨O, b⟩ := p
  cases b with
  | true => rw [addC_full]; exact hp
  | false =>
    rw [addC_is most L O hp]
    split
    · rename_i h; show (O ++ L).length ≤ most; rw [List.length_append]; exact h
    · show ((O ++ L).take most).length ≤ most; rw [List.length_take]; omega
section
variable (add mul : Int → Int → Int) (pow : Int → Int) (lv : Nat → Nat) (m : Nat)
/-- where a node stands among the variables -/
def levK (l : List Nd) (k : Nat) : Nat := if k < 2 then m else lv (nd l k).v
def satF (l : List Nd) : Nat → Nat → Int
  | 0, k => (k : Int)
  | f + 1, k => if k < 2 then (k : Int) else
    add (mul (satF l f (nd l k).low) (pow ((levK lv m l (nd l k).low : Int) - ((levK lv m l k : Int) + 1)))) (mul (satF l f (nd l k).high) (pow ((levK lv m l (nd l k).high : Int) - ((levK lv m l k : Int) + 1))))
/-- for how many values of the variables from the one on that it asks a node says true -/
def satB (l : List Nd) (k : Nat) : Int := satF add mul pow lv m l 257 k
/-- .. of all variables -/
def satA (l : List Nd) (k : Nat) : Int := mul (satB add mul pow lv m l k) (pow (levK lv m l k : Int))
theorem satF_fuel {S : NS} (h : Wf S) : ∀ (f g k : Nat), isB S.l k = true → S.vars - (nd S.l k).v ≤ f → S.vars - (nd S.l k).v ≤ g → satF add mul pow lv m S.l f k = satF add mul pow lv m S.l g k := by
  have leaf : ∀ f k, k < 2 → satF add mul pow lv m S.l f k = (k : Int) := fun f k hk => by
    cases f with
    | zero => rfl
    | succ f => rw [satF, if_pos hk]
  intro f
  induction f with
  | zero =>
    intro g k hk hf _
    have : k < 2 := by
      rcases Nat.lt_or_ge k 2 with h2 | h2
      · exact h2
      · have := (h.kid k h2 hk).1; omega
    rw [leaf _ _ this, leaf _ _ this]
  | succ f ih =>
    intro g k hk hf hg
    rcases Nat.lt_or_ge k 2 with h2 | h2
    · rw [leaf _ _ h2, leaf _ _ h2]
    · obtain ⟨hv, _, h3, h4, h5, h6⟩ := h.kid k h2 hk
      cases g with
      | zero => omega
      | succ g =>
        have h2' : ¬ k < 2 := by omega
        rw [satF, satF, if_neg h2', if_neg h2', ih g _ h3 (by omega) (by omega), ih g _ h4 (by omega) (by omega)]
theorem satB_leaf (l : List Nd) {k : Nat} (hk : k < 2) : satB add mul pow lv m l k = (k : Int) := by unfold satB; rw [satF, if_pos hk]
theorem satB_step {S : NS} (h : Wf S) {k : Nat} (h2 : 2 ≤ k) (hk : isB S.l k = true) : satB add mul pow lv m S.l k =
    add (mul (satB add mul pow lv m S.l (nd S.l k).low) (pow ((levK lv m S.l (nd S.l k).low : Int) - ((levK lv m S.l k : Int) + 1)))) (mul (satB add mul pow lv m S.l (nd S.l k).high) (pow ((levK lv m S.l (nd S.l k).high : Int) - ((levK lv m S.l k : Int) + 1)))) := by
  obtain ⟨hv, _, h3, h4, h5, h6⟩ := h.kid k h2 hk
  have h256 := h.v256
  have e : satB add mul pow lv m S.l k = add (mul (satF add mul pow lv m S.l 256 (nd S.l k).low) (pow ((levK lv m S.l (nd S.l k).low : Int) - ((levK lv m S.l k : Int) + 1)))) (mul (satF add mul pow lv m S.l 256 (nd S.l k).high) (pow ((levK lv m S.l (nd S.l k).high : Int) - ((levK lv m S.l k : Int) + 1)))) := by unfold satB; rw [satF, if_neg (by omega)]
  rw [e, satF_fuel add mul pow lv m h 256 257 _ h3 (by omega) (by omega), satF_fuel add mul pow lv m h 256 257 _ h4 (by omega) (by omega)]
  rfl
theorem levK_congr {lv' : Nat → Nat} (l : List Nd) (k : Nat) (h : lv (nd l k).v = lv' (nd l k).v) : levK lv m l k = levK lv' m l k := by unfold levK; rw [h]
/-- it hangs on the places of the variables that are asked alone -/
theorem satB_congr {S : NS} (h : Wf S) (lv' : Nat → Nat) : ∀ k, isB S.l k = true → (∀ v, askB S.l k v = true → lv v = lv' v) → satB add mul pow lv m S.l k = satB add mul pow lv' m S.l k ∧ levK lv m S.l k = levK lv' m S.l k := by
  refine node_ind h (fun k hk _ => ⟨by rw [satB_leaf _ _ _ _ _ _ hk, satB_leaf _ _ _ _ _ _ hk], by unfold levK; rw [if_pos hk, if_pos hk]⟩) fun k h2 hk il ih ha => ?_
  have h0 := ha (nd S.l k).v (by rw [askB_step h _ h2 hk]; simp)
  obtain ⟨a1, a2⟩ := il fun v hv => ha v (by rw [askB_step h v h2 hk, hv]; simp)
  obtain ⟨b1, b2⟩ := ih fun v hv => ha v (by rw [askB_step h v h2 hk, hv]; simp)
  have hl := levK_congr lv m (lv' := lv') S.l k h0
  exact ⟨by rw [satB_step _ _ _ _ _ h h2 hk, satB_step _ _ _ _ _ h h2 hk, a1, a2, b1, b2, hl], hl⟩
end
/-! ### exact numbers -/
/-- of how many values of f variables from u on g is true -/
def cntG (g : (Nat → Bool) → Bool) : Nat → Nat → (Nat → Bool) → Nat
  | _, 0, ρ => (g ρ).toNat
  | u, f + 1, ρ => cntG g (u + 1) f (upR ρ u false) + cntG g (u + 1) f (upR ρ u true)
theorem cntG_ext {g g' : (Nat → Bool) → Bool} : ∀ (f u : Nat) (ρ : Nat → Bool), (∀ σ : Nat → Bool, (∀ i, i < u → σ i = ρ i) → g σ = g' σ) → cntG g u f ρ = cntG g' u f ρ
  | 0, u, ρ, h => by
    show (g ρ).toNat = (g' ρ).toNat
    rw [h ρ fun _ _ => rfl]
  | f + 1, u, ρ, h => by
    have key : ∀ b, cntG g (u + 1) f (upR ρ u b) = cntG g' (u + 1) f (upR ρ u b) := fun b => cntG_ext f (u + 1) (upR ρ u b) fun σ hs => h σ fun i hi => by
      rw [hs i (by omega)]; unfold upR; rw [if_neg (by omega)]
    show cntG g (u + 1) f (upR ρ u false) + cntG g (u + 1) f (upR ρ u true) = cntG g' (u + 1) f (upR ρ u false) + cntG g' (u + 1) f (upR ρ u true)
    rw [key, key]
theorem cntG_const (b : Bool) : ∀ (f u : Nat) (ρ : Nat → Bool), cntG (fun _ => b) u f ρ = 2 ^ f * b.toNat
  | 0, u, ρ => by show b.toNat = _; rw [Nat.pow_zero, Nat.one_mul]
  | f + 1, u, ρ => by
    show cntG (fun _ => b) (u + 1) f (upR ρ u false) + cntG (fun _ => b) (u + 1) f (upR ρ u true) = _
    rw [cntG_const b f, cntG_const b f, Nat.pow_succ, Nat.mul_comm (2 ^ f) 2, Nat.mul_assoc]
    omega
/-- a node of four variables: the number that is told is the number of values -/
theorem sat_exact {S : NS} (h : Wf S) (h4 : S.vars = 4) {add mul : Int → Int → Int} {pow : Int → Int} (hA : ∀ a b : Nat, a ≤ 16 → b ≤ 16 → add a b = ((a + b : Nat) : Int)) (hM : ∀ a b : Nat, a ≤ 16 → b ≤ 16 → mul a b = ((a * b : Nat) : Int)) (hP : ∀ n : Nat, n ≤ 4 → pow n = ((2 ^ n : Nat) : Int))
    {lv : Nat → Nat} (hlv : ∀ v, v < 4 → lv v = v) : ∀ k, isB S.l k = true → ∃ C : Nat, satB add mul pow lv 4 S.l k = (C : Int) ∧ C ≤ 2 ^ (4 - (nd S.l k).v) ∧ levK lv 4 S.l k = (nd S.l k).v ∧ ∀ d u ρ, u + d = (nd S.l k).v → cntG (fun ρ => den S.l ρ k) u (4 - u) ρ = 2 ^ d * C := by
  have hp16 : ∀ n : Nat, n ≤ 4 → 2 ^ n ≤ 16 := fun n hn => Nat.pow_le_pow_right (show 0 < 2 by decide) hn
  refine node_ind h (fun k hk => ?_) fun k h2 hk il ih => ?_
  · have hv : (nd S.l k).v = 4 := by rw [leaf_v h hk, h4]
    refine ⟨k, satB_leaf _ _ _ _ _ _ hk, by rw [hv]; omega, by unfold levK; rw [if_pos hk, hv], fun d u ρ hd => ?_⟩
    rw [hv] at hd
    rw [cntG_ext (g' := fun _ => (k == 1)) _ _ _ fun σ _ => den_leaf _ _ hk, cntG_const, show 4 - u = d by omega]
    rcases (by omega : k = 0 ∨ k = 1) with rfl | rfl <;> rfl
  · obtain ⟨hv, _, h3, h4', h5, h6⟩ := h.kid k h2 hk
    have v0 := h.vle h3
    have v1 := h.vle h4'
    obtain ⟨C0, a1, a2, a3, a4⟩ := il
    obtain ⟨C1, b1, b2, b3, b4⟩ := ih
    obtain ⟨v, hvv⟩ : ∃ v, (nd S.l k).v = v := ⟨_, rfl⟩
    obtain ⟨x, hx⟩ : ∃ x, (nd S.l (nd S.l k).low).v = x := ⟨_, rfl⟩
    obtain ⟨y, hy⟩ : ∃ y, (nd S.l (nd S.l k).high).v = y := ⟨_, rfl⟩
    have hlk : levK lv 4 S.l k = v := by unfold levK; rw [if_neg (by omega), hvv]; exact hlv v (by omega)
    rw [hvv, hx] at h5
    rw [hvv, hy] at h6
    rw [hvv] at hv
    rw [hx] at v0 a2 a3
    rw [hy] at v1 b2 b3
    have e0 : ∀ C z : Nat, v < z → z ≤ 4 → C ≤ 2 ^ (4 - z) → C * 2 ^ (z - (v + 1)) ≤ 2 ^ (3 - v) := fun C z hz hz4 hC => by
      have : 2 ^ (4 - z) * 2 ^ (z - (v + 1)) = 2 ^ (3 - v) := by rw [← Nat.pow_add]; congr 1; omega
      rw [← this]
      exact Nat.mul_le_mul_right _ hC
    have p0 := e0 C0 x h5 (by omega) a2
    have p1 := e0 C1 y h6 (by omega) b2
    have hpv : 2 ^ (3 - v) ≤ 8 := Nat.pow_le_pow_right (show 0 < 2 by decide) (by omega : 3 - v ≤ 3)
    have hpv2 : 2 ^ (4 - v) = 2 ^ (3 - v) + 2 ^ (3 - v) := by rw [show 4 - v = (3 - v) + 1 by omega, Nat.pow_succ]; omega
    have hC0 : C0 ≤ 16 := Nat.le_trans a2 (hp16 _ (by omega))
    have hC1 : C1 ≤ 16 := Nat.le_trans b2 (hp16 _ (by omega))
    have ex : ((x : Int) - ((v : Int) + 1)) = ((x - (v + 1) : Nat) : Int) := by omega
    have ey : ((y : Int) - ((v : Int) + 1)) = ((y - (v + 1) : Nat) : Int) := by omega
    refine ⟨C0 * 2 ^ (x - (v + 1)) + C1 * 2 ^ (y - (v + 1)), ?_, by rw [hvv]; omega, by rw [hlk, hvv], ?_⟩
    · rw [satB_step _ _ _ _ _ h h2 hk, a1, b1, a3, b3, hlk, ex, ey, hP _ (by omega), hP _ (by omega), hM _ _ hC0 (hp16 _ (by omega)), hM _ _ hC1 (hp16 _ (by omega)), hA _ _ (by omega) (by omega)]
    · intro d
      induction d with
      | zero =>
        intro u ρ hd
        have hu : u = v := by omega
        subst hu
        rw [Nat.pow_zero, Nat.one_mul, show 4 - u = (4 - (u + 1)) + 1 by omega]
        show cntG _ (u + 1) (4 - (u + 1)) (upR ρ u false) + cntG _ (u + 1) (4 - (u + 1)) (upR ρ u true) = _
        have key : ∀ (b : Bool) (c : Nat), (∀ σ : Nat → Bool, σ u = b → den S.l σ k = den S.l σ c) → cntG (fun ρ => den S.l ρ k) (u + 1) (4 - (u + 1)) (upR ρ u b) = cntG (fun ρ => den S.l ρ c) (u + 1) (4 - (u + 1)) (upR ρ u b) := fun b c hc => cntG_ext _ _ _ fun σ hs => hc σ (by rw [hs u (by omega)]; unfold upR; rw [if_pos rfl])
        rw [key false (nd S.l k).low fun σ hs => by rw [den_kid h h2 hk, hvv, hs, if_neg (by decide)], key true (nd S.l k).high fun σ hs => by rw [den_kid h h2 hk, hvv, hs, if_pos rfl]]
        rw [a4 (x - (u + 1)) (u + 1) _ (by omega), b4 (y - (u + 1)) (u + 1) _ (by omega), Nat.mul_comm, Nat.mul_comm (2 ^ (y - (u + 1)))]
      | succ d ihd =>
        intro u ρ hd
        rw [show 4 - u = (4 - (u + 1)) + 1 by omega]
        show cntG _ (u + 1) (4 - (u + 1)) (upR ρ u false) + cntG _ (u + 1) (4 - (u + 1)) (upR ρ u true) = _
        rw [ihd (u + 1) _ (by omega), ihd (u + 1) _ (by omega), Nat.pow_succ, Nat.mul_comm (2 ^ d) 2, Nat.mul_assoc]
        omega
theorem ix_up4 (ρ : Nat → Bool) (a b c d : Bool) : ix (upR (upR (upR (upR ρ 0 a) 1 b) 2 c) 3 d) = a.toNat + 2 * b.toNat + 4 * c.toNat + 8 * d.toNat := by
  simp only [ix, idx, upR]
  cases a <;> cases b <;> cases c <;> cases d <;> rfl
/-- how many of sixteen answers are true -/
def numT (X : Nat) : Nat := (List.range 16).countP fun n => X.testBit n
theorem cntG_tbl (X : Nat) (ρ : Nat → Bool) : cntG (tbl X) 0 4 ρ = numT X := by
  have e : ∀ b : Bool, (if b = true then 1 else 0) = b.toNat := fun b => by cases b <;> rfl
  have hr : List.range 16 = [0, 1, 2, 3, 4, 5, 6, 7, 8, 9, 10, 11, 12, 13, 14, 15] := rfl
  unfold numT
  rw [hr]
  simp only [cntG, tbl, List.countP_cons, List.countP_nil, e]
  simp only [Nat.zero_add, Nat.reduceAdd]
  simp only [ix_up4, Bool.toNat_true, Bool.toNat_false, Nat.mul_one, Nat.mul_zero, Nat.add_zero, Nat.zero_add, Nat.reduceAdd]
  omega
theorem numT_le (X : Nat) : numT X ≤ 16 := by
  have h := List.countP_le_length (p := fun n => X.testBit n) (l := List.range 16)
  rw [List.length_range] at h
  exact h
theorem satA_tbl {S : NS} (h : Wf S) (h4 : S.vars = 4) {add mul : Int → Int → Int} {pow : Int → Int} (hA : ∀ a b : Nat, a ≤ 16 → b ≤ 16 → add a b = ((a + b : Nat) : Int)) (hM : ∀ a b : Nat, a ≤ 16 → b ≤ 16 → mul a b = ((a * b : Nat) : Int)) (hP : ∀ n : Nat, n ≤ 4 → pow n = ((2 ^ n : Nat) : Int))
    {lv : Nat → Nat} (hlv : ∀ v, v < 4 → lv v = v) {k X : Nat} (hd : Den S k (tbl X)) : satA add mul pow lv 4 S.l k = (numT X : Int) := by
  obtain ⟨C, h1, h2, h3, h5⟩ := sat_exact h h4 hA hM hP hlv k hd.is
  have hv := h.vle hd.is
  have hc : C ≤ 16 := Nat.le_trans h2 (Nat.pow_le_pow_right (show 0 < 2 by decide) (by omega : 4 - (nd S.l k).v ≤ 4))
  have hp : 2 ^ (nd S.l k).v ≤ 16 := Nat.pow_le_pow_right (show 0 < 2 by decide) (by omega : (nd S.l k).v ≤ 4)
  unfold satA
  rw [h1, h3, hP _ (by omega), hM _ _ hc hp]
  have h6 := h5 (nd S.l k).v 0 (fun _ => false) (by omega)
  rw [cntG_ext (g' := tbl X) _ _ _ fun σ _ => hd.says σ, cntG_tbl] at h6
  rw [h6, Nat.mul_comm]
/-- one variable more: both values, or the one that the cube tells -/
def expS (x : Int) (i : Nat) (all : List Nat) : List Nat := all.flatMap fun m => (if x ≠ 1 then [m] else []) ++ (if x ≠ 0 then [m + 2 ^ i] else [])
/-- the numbers of a cube's values, by variables -/
def expF (c : List Int) : List Nat → Nat → List Nat → List Nat
  | [], _, all => all
  | v :: vs, i, all => expF c vs (i + 1) (expS (c.getD v 0) i all)
theorem expF_snoc (c : List Int) : ∀ (vs : List Nat) (v i : Nat) (all : List Nat), expF c (vs ++ [v]) i all = expS (c.getD v 0) (i + vs.length) (expF c vs i all)
  | [], v, i, all => rfl
  | u :: vs, v, i, all => by
    show expF c (vs ++ [v]) (i + 1) (expS (c.getD u 0) i all) = expS (c.getD v 0) (i + (vs.length + 1)) (expF c vs (i + 1) (expS (c.getD u 0) i all))
    rw [expF_snoc c vs v (i + 1), show i + 1 + vs.length = i + (vs.length + 1) by omega]
theorem expS_lt {x : Int} {i : Nat} {all : List Nat} (h : ∀ m ∈ all, m < 2 ^ i) : ∀ m ∈ expS x i all, m < 2 ^ (i + 1) := fun m hm => by
  unfold expS at hm
  obtain ⟨y, hy, hm⟩ := List.mem_flatMap.1 hm
  have := h y hy
  rw [Nat.pow_succ]
  rw [List.mem_append] at hm
  rcases hm with hm | hm
  · split at hm
    · rw [List.mem_singleton.1 hm]; omega
    · cases hm
  · split at hm
    · rw [List.mem_singleton.1 hm]; omega
    · cases hm
theorem expS_len {x : Int} {i : Nat} : ∀ {all : List Nat}, (expS x i all).length ≤ 2 * all.length
  | [] => by simp [expS]
  | m :: all => by
    have h := expS_len (x := x) (i := i) (all := all)
    unfold expS at h ⊢
    rw [List.flatMap_cons, List.length_append, List.length_append, List.length_cons]
    have h1 : (if x ≠ 1 then [m] else []).length ≤ 1 := by split <;> simp
    have h2 : (if x ≠ 0 then [m + 2 ^ i] else []).length ≤ 1 := by split <;> simp
    omega
theorem expF_len (c : List Int) : ∀ (vs : List Nat) (i : Nat) (all : List Nat), (expF c vs i all).length ≤ 2 ^ vs.length * all.length
  | [], i, all => by simp [expF]
  | v :: vs, i, all => by
    have h := expF_len c vs (i + 1) (expS (c.getD v 0) i all)
    have h2 := expS_len (x := c.getD v 0) (i := i) (all := all)
    show (expF c vs (i + 1) (expS (c.getD v 0) i all)).length ≤ _
    rw [List.length_cons, Nat.pow_succ, Nat.mul_assoc]
    exact Nat.le_trans h (Nat.mul_le_mul_left _ h2)
/-- does a cube tell a number's values? -/
def mtF (c : List Int) : List Nat → Nat → Bool
  | [], r => r == 0
  | v :: vs, r => (c.getD v 0 == 2 || c.getD v 0 == bZ (decide (r % 2 = 1))) && mtF c vs (r / 2)
theorem expS_count {x : Int} (hx : x = 0 ∨ x = 1 ∨ x = 2) {i m b : Nat} (hm : m < 2 ^ i) (hb : b < 2) : ∀ {all : List Nat}, (∀ m ∈ all, m < 2 ^ i) → (expS x i all).count (m + 2 ^ i * b) = if (x == 2 || x == bZ (decide (b = 1))) = true then all.count m else 0
  | [], _ => by unfold expS; simp
  | y :: all, h => by
    have hy := h y (by simp)
    have ih := expS_count hx hm hb (all := all) fun m hm => h m (by simp [hm])
    unfold expS at ih ⊢
    rw [List.flatMap_cons, List.count_append, ih, List.count_append]
    have hp : 0 < 2 ^ i := Nat.two_pow_pos i
    rcases (by omega : b = 0 ∨ b = 1) with rfl | rfl
    · rw [Nat.mul_zero, Nat.add_zero]
      have n1 : y + 2 ^ i ≠ m := by omega
      rcases hx with rfl | rfl | rfl
      · simp [bZ, List.count_cons]; omega
      · simp [bZ, n1]
      · simp [bZ, List.count_cons, n1]; omega
    · rw [Nat.mul_one]
      have n1 : y ≠ m + 2 ^ i := by omega
      have n2 : (y + 2 ^ i == m + 2 ^ i) = (y == m) := by
        rw [Bool.eq_iff_iff, beq_iff_eq, beq_iff_eq]; omega
      rcases hx with rfl | rfl | rfl
      · simp [bZ, n1]
      · simp [bZ, List.count_cons]; omega
      · simp [bZ, List.count_cons, n1]; omega
theorem expF_count {c : List Int} (hc : ∀ v, c.getD v 0 = 0 ∨ c.getD v 0 = 1 ∨ c.getD v 0 = 2) : ∀ (vs : List Nat) (i : Nat) (all : List Nat), (∀ m ∈ all, m < 2 ^ i) → ∀ m r, m < 2 ^ i → (expF c vs i all).count (m + 2 ^ i * r) = if mtF c vs r = true then all.count m else 0
  | [], i, all, h, m, r, hm => by
    show all.count (m + 2 ^ i * r) = if (r == 0) = true then all.count m else 0
    by_cases e : r = 0
    · subst e; simp
    · rw [if_neg (by simpa using e), List.count_eq_zero]
      intro hin
      have := h _ hin
      have : 2 ^ i ≤ 2 ^ i * r := Nat.le_mul_of_pos_right _ (by omega)
      omega
  | v :: vs, i, all, h, m, r, hm => by
    have hd : m + 2 ^ i * r = (m + 2 ^ i * (r % 2)) + 2 ^ (i + 1) * (r / 2) := by
      have := Nat.div_add_mod r 2
      rw [Nat.pow_succ, Nat.mul_assoc, Nat.add_assoc, ← Nat.mul_add, Nat.add_comm (r % 2), this]
    have hb : r % 2 < 2 := Nat.mod_lt _ (by decide)
    have hlt : m + 2 ^ i * (r % 2) < 2 ^ (i + 1) := by
      rw [Nat.pow_succ]
      rcases (by omega : r % 2 = 0 ∨ r % 2 = 1) with e | e <;> rw [e] <;> omega
    show (expF c vs (i + 1) (expS (c.getD v 0) i all)).count (m + 2 ^ i * r) = if ((c.getD v 0 == 2 || c.getD v 0 == bZ (decide (r % 2 = 1))) && mtF c vs (r / 2)) = true then all.count m else 0
    rw [hd, expF_count hc vs (i + 1) _ (expS_lt h) _ _ hlt, expS_count (hc v) hm hb h]
    cases mtF c vs (r / 2) <;> cases (c.getD v 0 == 2 || c.getD v 0 == bZ (decide (r % 2 = 1))) <;> simp
/-- .. whose bits are the values -/
theorem mtF_iff (c : List Int) : ∀ (vs : List Nat) (r : Nat), mtF c vs r = true ↔ r < 2 ^ vs.length ∧ ∀ i v, vs[i]? = some v → c.getD v 0 = 2 ∨ c.getD v 0 = bZ (r.testBit i)
  | [], r => by
    show (r == 0) = true ↔ _
    rw [beq_iff_eq]
    constructor
    · rintro rfl; exact ⟨by decide, fun i v h => by simp at h⟩
    · rintro ⟨h, _⟩; simp at h; exact h
  | v :: vs, r => by
    show ((c.getD v 0 == 2 || c.getD v 0 == bZ (decide (r % 2 = 1))) && mtF c vs (r / 2)) = true ↔ _
    rw [Bool.and_eq_true, mtF_iff c vs (r / 2), Bool.or_eq_true, beq_iff_eq, beq_iff_eq, List.length_cons, Nat.pow_succ]
    have h0 : decide (r % 2 = 1) = r.testBit 0 := by rw [Nat.testBit_zero]
    have hs : ∀ i, (r / 2).testBit i = r.testBit (i + 1) := fun i => by rw [Nat.testBit_succ]
    rw [h0]
    constructor
    · rintro ⟨h1, h2, h3⟩
      refine ⟨by omega, fun i u hu => ?_⟩
      cases i with
      | zero => simp at hu; subst hu; exact h1
      | succ i => rw [← hs]; exact h3 i u (by simpa using hu)
    · rintro ⟨h2, h3⟩
      exact ⟨h3 0 v rfl, by omega, fun i u hu => by rw [hs]; exact h3 (i + 1) u (by simpa using hu)⟩
/-- the numbers of all cubes' values -/
def numsL (L : List (List Int)) (vs : List Nat) : List Nat := L.flatMap fun c => expF c vs 0 [0]
theorem numsL_count {L : List (List Int)} (hL : ∀ c ∈ L, ∀ v, c.getD v 0 = 0 ∨ c.getD v 0 = 1 ∨ c.getD v 0 = 2) (vs : List Nat) (r : Nat) : (numsL L vs).count r = L.countP fun c => mtF c vs r := by
  induction L with
  | nil => rfl
  | cons c L ih =>
    have h := expF_count (hL c (by simp)) vs 0 [0] (by simp) 0 r (by decide)
    rw [Nat.zero_add, Nat.pow_zero, Nat.one_mul] at h
    unfold numsL at ih ⊢
    rw [List.flatMap_cons, List.count_append, h, ih fun c hc => hL c (by simp [hc]), List.countP_cons]
    simp only [List.count_singleton_self]
    omega
theorem numsL_lt {L : List (List Int)} (hL : ∀ c ∈ L, ∀ v, c.getD v 0 = 0 ∨ c.getD v 0 = 1 ∨ c.getD v 0 = 2) (vs : List Nat) : ∀ r ∈ numsL L vs, r < 2 ^ vs.length := fun r hr => by
  have h1 := List.count_pos_iff.2 hr
  rw [numsL_count hL] at h1
  obtain ⟨c, _, hc⟩ := List.countP_pos_iff.1 h1
  exact ((mtF_iff c vs r).1 hc).1
/-- no variable asked yet -/
def way2 (n : Nat) : List Int := List.replicate n 2
theorem way2_get {n j : Nat} (h : j < n) : (way2 n)[j]? = some 2 := by unfold way2; rw [List.getElem?_replicate, if_pos h]
theorem way2_len (n : Nat) : (way2 n).length = n := List.length_replicate
theorem way2_in (n : Nat) (ρ : Nat → Bool) : inB n ρ (way2 n) = true := inB_iff.2 fun _ hv => .inl (way2_get hv)
/-- all cubes of a node -/
def cubes (S : NS) (k : Nat) : List (List Int) := cubB S.l k (way2 S.vars)
theorem cubes_len {S : NS} (h : Wf S) {k : Nat} (hk : isB S.l k = true) : ∀ c ∈ cubes S k, c.length = S.vars := fun c hc => by rw [cub_len h k hk _ c hc, way2_len]
theorem cubes_val {S : NS} (h : Wf S) {k : Nat} (hk : isB S.l k = true) : ∀ c ∈ cubes S k, ∀ x ∈ c, x = 0 ∨ x = 1 ∨ x = 2 := cub_vals h k hk _ fun x hx => by
  unfold way2 at hx
  rw [(List.mem_replicate.1 hx).2]; exact .inr (.inr rfl)
theorem cubes_getD {S : NS} (h : Wf S) {k : Nat} (hk : isB S.l k = true) : ∀ c ∈ cubes S k, ∀ v, c.getD v 0 = 0 ∨ c.getD v 0 = 1 ∨ c.getD v 0 = 2 := fun c hc v => by
  rw [List.getD_eq_getElem?_getD]
  rcases Nat.lt_or_ge v c.length with hl | hl
  · rw [List.getElem?_eq_getElem hl]
    exact cubes_val h hk c hc _ (List.getElem_mem hl)
  · rw [List.getElem?_eq_none hl]; exact .inl rfl
theorem cubes_count {S : NS} (h : Wf S) {k : Nat} (hk : isB S.l k = true) (ρ : Nat → Bool) : (cubes S k).countP (inB S.vars ρ) = (den S.l ρ k).toNat := by
  unfold cubes
  rw [cub_count h ρ k hk _ (way2_len _) fun j _ hj => way2_get hj, way2_in, if_pos rfl]
theorem cubes_order {S : NS} (h : Wf S) {k : Nat} (hk : isB S.l k = true) : (cubes S k).Pairwise Ahd := cub_order h k hk _ (way2_len _)
/-- a number by variables in an order, and the one by the variables themselves -/
def TurnsTo (l : List Nat) (n r : Nat) : Prop := ∀ i v, l[i]? = some v → n.testBit v = r.testBit i
theorem nums_at {S : NS} (h : Wf S) (h4 : S.vars = 4) {k X : Nat} (hd : Den S k (tbl X)) {l : List Nat} (hl : l.length = 4) (hlt : ∀ v ∈ l, v < 4) (hcov : ∀ v, v < 4 → v ∈ l) {n r : Nat} (hn : n < 16) (hr : r < 16) (ht : TurnsTo l n r) :
    (numsL (cubes S k) l).count r = (X.testBit n).toNat := by
  rw [numsL_count (cubes_getD h hd.is)]
  have e : (cubes S k).countP (fun c => mtF c l r) = (cubes S k).countP (inB S.vars (rho (valsN n))) := by
    refine List.countP_congr fun c hc => ?_
    have hcl := cubes_len h hd.is c hc
    rw [mtF_iff, inB_iff, h4, hl]
    have hg : ∀ v, v < 4 → c[v]? = some (c.getD v 0) := fun v hv => by
      rw [List.getD_eq_getElem?_getD, List.getElem?_eq_getElem (by omega)]; rfl
    have hrho : ∀ v, v < 4 → rho (valsN n) v = n.testBit v := fun v hv => by
      rcases (by omega : v = 0 ∨ v = 1 ∨ v = 2 ∨ v = 3) with rfl | rfl | rfl | rfl <;> rfl
    constructor
    · rintro ⟨_, hh⟩ v hv
      obtain ⟨i, hi⟩ := List.getElem?_of_mem (hcov v hv)
      rw [hg v hv, hrho v hv, ht i v hi]
      rcases hh i v hi with e | e
      · left; rw [e]
      · right; rw [e]
    · intro hh
      refine ⟨hr, fun i v hi => ?_⟩
      have hv := hlt v (List.mem_of_getElem? hi)
      have := hh v hv
      rw [hg v hv, hrho v hv, ht i v hi] at this
      rcases this with e | e
      · left; injection e
      · right; injection e
  rw [e, cubes_count h hd.is, hd.says]
  unfold tbl
  rw [ix_vals n hn]
theorem nums_lt {S : NS} (h : Wf S) {k : Nat} (hk : isB S.l k = true) {l : List Nat} (hl : l.length = 4) : ∀ r ∈ numsL (cubes S k) l, r < 16 := fun r hr => by
  have := numsL_lt (cubes_getD h hk) l r hr
  rw [hl] at this
  exact this
/-! ### rising lists -/
theorem rise_eq : ∀ {l m : List Nat}, l.Pairwise (· < ·) → m.Pairwise (· < ·) → (∀ x, x ∈ l ↔ x ∈ m) → l = m
  | [], [], _, _, _ => rfl
  | [], y :: m, _, _, h => by have := (h y).2 (by simp); simp at this
  | x :: l, [], _, _, h => by have := (h x).1 (by simp); simp at this
  | x :: l, y :: m, hl, hm, h => by
    rw [List.pairwise_cons] at hl hm
    have hxy : x = y := by
      have h1 := (h x).1 (by simp)
      have h2 := (h y).2 (by simp)
      rw [List.mem_cons] at h1 h2
      rcases h1 with e | h1
      · exact e
      · rcases h2 with e | h2
        · exact e.symm
        · have := hl.1 _ h2; have := hm.1 _ h1; omega
    subst hxy
    rw [rise_eq hl.2 hm.2 fun z => ?_]
    have hz := h z
    rw [List.mem_cons, List.mem_cons] at hz
    constructor
    · intro hzl
      rcases hz.1 (.inr hzl) with e | e
      · have := hl.1 z hzl; omega
      · exact e
    · intro hzm
      rcases hz.2 (.inr hzm) with e | e
      · have := hm.1 z hzm; omega
      · exact e
theorem rise_of {l m : List Nat} (hp : l.Perm m) (hs : l.Pairwise (· ≤ ·)) (hc : ∀ x, m.count x ≤ 1) : l.Pairwise (· < ·) := by
  have hn : l.Nodup := List.nodup_iff_count.2 fun x => by rw [hp.count_eq]; exact hc x
  exact (hs.and hn).imp fun ⟨h1, h2⟩ => by omega
/-- the numbers for which sixteen answers say true -/
def truesL (X : Nat) : List Nat := (List.range 16).filter fun n => X.testBit n
theorem truesL_len (X : Nat) : (truesL X).length = numT X := by unfold truesL numT; rw [List.countP_eq_length_filter]
theorem truesL_rise (X : Nat) : (truesL X).Pairwise (· < ·) := List.Pairwise.filter _ List.pairwise_lt_range
def four : List Nat := [0, 1, 2, 3]
theorem four_turns (n : Nat) : TurnsTo four n n := fun i v h => by
  match i, h with
  | 0, h => simp [four] at h; rw [← h]
  | 1, h => simp [four] at h; rw [← h]
  | 2, h => simp [four] at h; rw [← h]
  | 3, h => simp [four] at h; rw [← h]
  | i + 4, h => simp [four] at h
theorem nums_count_le {S : NS} (h : Wf S) (h4 : S.vars = 4) {k X : Nat} (hd : Den S k (tbl X)) {l : List Nat} (hl : l.length = 4) (hlt : ∀ v ∈ l, v < 4) (hcov : ∀ v, v < 4 → v ∈ l) (hex : ∀ r, r < 16 → ∃ n, n < 16 ∧ TurnsTo l n r) (r : Nat) : (numsL (cubes S k) l).count r ≤ 1 := by
  rcases Nat.lt_or_ge r 16 with hr | hr
  · obtain ⟨n, hn, ht⟩ := hex r hr
    rw [nums_at h h4 hd hl hlt hcov hn hr ht]
    cases X.testBit n <;> decide
  · rw [List.count_eq_zero.2 fun hin => by have := nums_lt h hd.is hl r hin; omega]; omega
/-- sorted, by the variables as they are -/
theorem nums_four {S : NS} (h : Wf S) (h4 : S.vars = 4) {k X : Nat} (hd : Den S k (tbl X)) {s : List Nat} (hp : s.Perm (numsL (cubes S k) four)) (hs : s.Pairwise (· ≤ ·)) : s = truesL X := by
  have hcov : ∀ v, v < 4 → v ∈ four := fun v hv => by
    rcases (by omega : v = 0 ∨ v = 1 ∨ v = 2 ∨ v = 3) with rfl | rfl | rfl | rfl <;> simp [four]
  have hlt : ∀ v ∈ four, v < 4 := by decide
  refine rise_eq (rise_of hp hs (nums_count_le h h4 hd rfl hlt hcov fun r hr => ⟨r, hr, four_turns r⟩)) (truesL_rise X) fun x => ?_
  rw [hp.mem_iff]
  unfold truesL
  rw [List.mem_filter, List.mem_range]
  constructor
  · intro hx
    have hx16 := nums_lt h hd.is (l := four) rfl x hx
    refine ⟨hx16, ?_⟩
    have := List.count_pos_iff.2 hx
    rw [nums_at h h4 hd rfl hlt hcov hx16 hx16 (four_turns x)] at this
    cases hb : X.testBit x with
    | true => rfl
    | false => rw [hb] at this; exact absurd this (by decide)
  · rintro ⟨hx16, hb⟩
    refine List.count_pos_iff.1 ?_
    rw [nums_at h h4 hd rfl hlt hcov hx16 hx16 (four_turns x), hb]
    decide
/-- sorted, by the variables in any order -/
theorem nums_turned {S : NS} (h : Wf S) (h4 : S.vars = 4) {k X : Nat} (hd : Den S k (tbl X)) {l : List Nat} (hl : l.length = 4) (hlt : ∀ v ∈ l, v < 4) (hcov : ∀ v, v < 4 → v ∈ l) (f : Nat → Nat) (hf : ∀ n, n < 16 → f n < 16 ∧ TurnsTo l n (f n)) (hex : ∀ r, r < 16 → ∃ n, n < 16 ∧ f n = r)
    {s t : List Nat} (hp : s.Perm (numsL (cubes S k) l)) (hs : s.Pairwise (· ≤ ·)) (ht : t.Pairwise (· < ·)) (hm : ∀ r, r ∈ t ↔ ∃ n, n ∈ truesL X ∧ f n = r) : s = t := by
  have hex2 : ∀ r, r < 16 → ∃ n, n < 16 ∧ TurnsTo l n r := fun r hr => by
    obtain ⟨n, hn, e⟩ := hex r hr
    exact ⟨n, hn, by rw [← e]; exact (hf n hn).2⟩
  refine rise_eq (rise_of hp hs (nums_count_le h h4 hd hl hlt hcov hex2)) ht fun x => ?_
  rw [hp.mem_iff, hm]
  unfold truesL
  constructor
  · intro hx
    have hx16 := nums_lt h hd.is hl x hx
    obtain ⟨n, hn, e⟩ := hex x hx16
    refine ⟨n, ?_, e⟩
    rw [List.mem_filter, List.mem_range]
    refine ⟨hn, ?_⟩
    have := List.count_pos_iff.2 hx
    rw [nums_at h h4 hd hl hlt hcov hn hx16 (by rw [← e]; exact (hf n hn).2)] at this
    cases hb : X.testBit n with
    | true => rfl
    | false => rw [hb] at this; exact absurd this (by decide)
  · rintro ⟨n, hn, e⟩
    rw [List.mem_filter, List.mem_range] at hn
    have hx16 : x < 16 := by rw [← e]; exact (hf n hn.1).1
    refine List.count_pos_iff.1 ?_
    rw [nums_at h h4 hd hl hlt hcov hn.1 hx16 (by rw [← e]; exact (hf n hn.1).2), hn.2]
    decide
/-- where the first values lead -/
def fnx (l : List Nd) (k : Nat) : Nat := if (nd l k).low = 0 then (nd l k).high else (nd l k).low
def firF (l : List Nd) (v : Nat) : Nat → Nat → Bool
  | 0, _ => false
  | f + 1, k => if k < 2 then false else if (nd l k).v = v then decide ((nd l k).low = 0) else firF l v f (fnx l k)
/-- the first values for which a node says true -/
def firB (l : List Nd) (k v : Nat) : Bool := firF l v 257 k
theorem fnx_ok {S : NS} (h : Wf S) {k : Nat} (h2 : 2 ≤ k) (hk : isB S.l k = true) : isB S.l (fnx S.l k) = true ∧ (nd S.l k).v < (nd S.l (fnx S.l k)).v ∧ fnx S.l k ≠ 0 := by
  obtain ⟨hv, hne, h3, h4, h5, h6⟩ := h.kid k h2 hk
  unfold fnx
  split
  · exact ⟨h4, h6, by omega⟩
  · exact ⟨h3, h5, by assumption⟩
theorem firF_fuel {S : NS} (h : Wf S) (v : Nat) : ∀ (f g k : Nat), isB S.l k = true → S.vars - (nd S.l k).v ≤ f → S.vars - (nd S.l k).v ≤ g → firF S.l v f k = firF S.l v g k := by
  have leaf : ∀ f k, k < 2 → firF S.l v f k = false := fun f k hk => by
    cases f with
    | zero => rfl
    | succ f => rw [firF, if_pos hk]
  intro f
  induction f with
  | zero =>
    intro g k hk hf _
    have : k < 2 := by
      rcases Nat.lt_or_ge k 2 with h2 | h2
      · exact h2
      · have := (h.kid k h2 hk).1; omega
    rw [leaf _ _ this, leaf _ _ this]
  | succ f ih =>
    intro g k hk hf hg
    rcases Nat.lt_or_ge k 2 with h2 | h2
    · rw [leaf _ _ h2, leaf _ _ h2]
    · have hv := (h.kid k h2 hk).1
      obtain ⟨a, b, _⟩ := fnx_ok h h2 hk
      cases g with
      | zero => omega
      | succ g =>
        have h2' : ¬ k < 2 := by omega
        rw [firF, firF, if_neg h2', if_neg h2', ih g _ a (by omega) (by omega)]
theorem firB_leaf (l : List Nd) (v : Nat) {k : Nat} (hk : k < 2) : firB l k v = false := by unfold firB; rw [firF, if_pos hk]
theorem firB_step {S : NS} (h : Wf S) (v : Nat) {k : Nat} (h2 : 2 ≤ k) (hk : isB S.l k = true) : firB S.l k v = if (nd S.l k).v = v then decide ((nd S.l k).low = 0) else firB S.l (fnx S.l k) v := by
  have h256 := h.v256
  obtain ⟨a, b, _⟩ := fnx_ok h h2 hk
  have e : firB S.l k v = if (nd S.l k).v = v then decide ((nd S.l k).low = 0) else firF S.l v 256 (fnx S.l k) := by unfold firB; rw [firF, if_neg (by omega)]
  rw [e, firF_fuel h v 256 257 _ a (by omega) (by omega)]
  rfl
/-- an induction down the first values' way -/
theorem fir_ind {S : NS} (h : Wf S) {P : Nat → Prop} (hl : P 1) (hs : ∀ k, 2 ≤ k → isB S.l k = true → P (fnx S.l k) → P k) : ∀ k, isB S.l k = true → k ≠ 0 → P k := by
  have key : ∀ (f k : Nat), isB S.l k = true → k ≠ 0 → S.vars - (nd S.l k).v < f → P k := by
    intro f
    induction f with
    | zero => intro k _ _ hf; omega
    | succ f ih =>
      intro k hk h0 hf
      rcases Nat.lt_or_ge k 2 with h2 | h2
      · obtain rfl : k = 1 := by omega
        exact hl
      · have hv := (h.kid k h2 hk).1
        obtain ⟨a, b, c⟩ := fnx_ok h h2 hk
        exact hs k h2 hk (ih _ a c (by omega))
  exact fun k hk h0 => key _ k hk h0 (Nat.lt_succ_self _)
theorem fir_low {S : NS} (h : Wf S) (v : Nat) : ∀ k, isB S.l k = true → k ≠ 0 → v < (nd S.l k).v → firB S.l k v = false :=
  fir_ind h (fun _ => firB_leaf _ _ (by decide)) fun k h2 hk ih hv => by
    obtain ⟨a, b, c⟩ := fnx_ok h h2 hk
    rw [firB_step h v h2 hk, if_neg (by omega)]
    exact ih (by omega)
theorem den_fnx {S : NS} (h : Wf S) {k : Nat} (h2 : 2 ≤ k) (hk : isB S.l k = true) (ρ : Nat → Bool) (hr : ρ (nd S.l k).v = decide ((nd S.l k).low = 0)) : den S.l ρ k = den S.l ρ (fnx S.l k) := by
  rw [den_kid h h2 hk, hr]
  unfold fnx
  by_cases e : (nd S.l k).low = 0
  · rw [if_pos (by simpa using e), if_pos e]
  · rw [if_neg (by simpa using e), if_neg e]
theorem fir_true {S : NS} (h : Wf S) : ∀ k, isB S.l k = true → k ≠ 0 → den S.l (firB S.l k) k = true :=
  fir_ind h (by rw [den_leaf S.l _ (k := 1) (by decide)]; rfl) fun k h2 hk ih => by
    obtain ⟨a, b, c⟩ := fnx_ok h h2 hk
    rw [den_fnx h h2 hk _ (by rw [firB_step h _ h2 hk, if_pos rfl]), ← ih]
    exact den_from h a _ _ fun i hi => by rw [firB_step h i h2 hk, if_neg (by omega)]
/-- no values ahead of them are true -/
theorem fir_first {S : NS} (h : Wf S) (ρ : Nat → Bool) (v : Nat) : ∀ k, isB S.l k = true → k ≠ 0 → den S.l ρ k = true → (∀ j, j < v → ρ j = firB S.l k j) → firB S.l k v = true → ρ v = true := by
  have key : ∀ k, isB S.l k = true → k ≠ 0 → den S.l ρ k = true → (∀ j, (nd S.l k).v ≤ j → j < v → ρ j = firB S.l k j) → firB S.l k v = true → ρ v = true :=
    fir_ind h (fun _ _ hf => by rw [firB_leaf _ _ (by decide)] at hf; cases hf) fun k h2 hk ih hd hj hf => by
      obtain ⟨a, b, c⟩ := fnx_ok h h2 hk
      rw [firB_step h v h2 hk] at hf
      by_cases e : (nd S.l k).v = v
      · rw [if_pos e] at hf
        have hl : (nd S.l k).low = 0 := by simpa using hf
        rw [den_kid h h2 hk, hl, den_leaf S.l ρ (k := 0) (by decide), e] at hd
        cases hr : ρ v with
        | true => rfl
        | false => rw [hr] at hd; simp at hd
      · rw [if_neg e] at hf
        have hv : (nd S.l k).v < v := by
          rcases Nat.lt_or_ge (nd S.l k).v v with hlt | hge
          · exact hlt
          · rw [fir_low h v _ a c (by omega)] at hf; cases hf
        have hr := hj _ (Nat.le_refl _) hv
        rw [firB_step h _ h2 hk, if_pos rfl] at hr
        rw [den_fnx h h2 hk ρ hr] at hd
        exact ih hd (fun j h1 h3 => by rw [hj j (by omega) h3, firB_step h j h2 hk, if_neg (by omega)]) hf
  exact fun k hk h0 hd hj hf => key k hk h0 hd (fun j _ hjv => hj j hjv) hf
/-! ### of four variables -/
/-- four bits turned about -/
def rev4 (k : Nat) : Nat := (k.testBit 3).toNat + 2 * (k.testBit 2).toNat + 4 * (k.testBit 1).toNat + 8 * (k.testBit 0).toNat
theorem rev4_bit : ∀ k, k < 16 → ∀ v, v < 4 → (rev4 k).testBit v = k.testBit (3 - v) := by decide +kernel
theorem rev4_lt : ∀ k, k < 16 → rev4 k < 16 := by decide +kernel
theorem rev4_back : ∀ k, k < 16 → rev4 (rev4 k) = k := by decide +kernel
theorem lex4 : ∀ a, a < 16 → ∀ b, b < 16 → a < b → ∃ v, v < 4 ∧ (∀ j, j < v → (rev4 a).testBit j = (rev4 b).testBit j) ∧ (rev4 a).testBit v = false ∧ (rev4 b).testBit v = true := by decide +kernel
theorem rho_bit {n v : Nat} (h : v < 4) : rho (valsN n) v = n.testBit v := by
  rcases (by omega : v = 0 ∨ v = 1 ∨ v = 2 ∨ v = 3) with rfl | rfl | rfl | rfl <;> rfl
/-- the least of the numbers, the first variable highest, for which sixteen answers say true -/
theorem fir_tbl {S : NS} (h : Wf S) (h4 : S.vars = 4) {k X : Nat} (hd : Den S k (tbl X)) (hk0 : k ≠ 0) {m : Nat} (hm : m < 16) (hx : X.testBit (rev4 m) = true) (hno : ∀ j, j < m → X.testBit (rev4 j) = false) : ∀ v, v < 4 → firB S.l k v = (rev4 m).testBit v := by
  have hfin : ∀ v, firB S.l k v = true → v < 4 := fun v hv => by
    rcases Nat.lt_or_ge v 4 with hlt | hge
    · exact hlt
    · exfalso
      have hb : ∀ k, isB S.l k = true → k ≠ 0 → firB S.l k v = false := fir_ind h (firB_leaf _ _ (by decide)) fun k h2 hk ih => by
        rw [firB_step h v h2 hk, if_neg (by have := (h.kid k h2 hk).1; omega)]; exact ih
      rw [hb k hd.is hk0] at hv; cases hv
  -- the number of the first values
  have hn : ix (firB S.l k) < 16 := ix_lt _
  have hbit : ∀ v, v < 4 → (ix (firB S.l k)).testBit v = firB S.l k v := fun v hv => by rw [← rho_bit hv, vals_ix _ v hv]
  have ht : X.testBit (ix (firB S.l k)) = true := by
    have := fir_true h k hd.is hk0
    rw [hd.says] at this
    exact this
  have hr := rev4_lt _ hn
  have hrr := rev4_back _ hn
  have e : rev4 (ix (firB S.l k)) = m := by
    rcases Nat.lt_trichotomy (rev4 (ix (firB S.l k))) m with hlt | he | hgt
    · have := hno _ hlt
      rw [hrr, ht] at this; cases this
    · exact he
    · exfalso
      obtain ⟨v, hv, hj, h0, h1⟩ := lex4 m hm _ hr hgt
      rw [hrr, hbit v hv] at h1
      have hdm : den S.l (rho (valsN (rev4 m))) k = true := by rw [hd.says]; unfold tbl; rw [ix_vals _ (rev4_lt m hm)]; exact hx
      have := fir_first h (rho (valsN (rev4 m))) v k hd.is hk0 hdm (fun j hjv => by
        have := hj j hjv
        rw [hrr, hbit j (by omega)] at this
        rw [rho_bit (by omega)]; exact this) h1
      rw [rho_bit hv, h0] at this
      cases this
  intro v hv
  rw [← e, hrr, hbit v hv]
/-! ### one or both of two -/
theorem countP_or {α : Type} (p q : α → Bool) : ∀ l : List α, l.countP (fun x => p x || q x) + l.countP (fun x => p x && q x) = l.countP p + l.countP q
  | [] => rfl
  | x :: l => by
    have := countP_or p q l
    simp only [List.countP_cons]
    cases p x <;> cases q x <;> simp <;> omega
theorem numT_or (X Y : Nat) : numT (X ||| Y) + numT (X &&& Y) = numT X + numT Y := by
  unfold numT
  simp only [Nat.testBit_or, Nat.testBit_and]
  exact countP_or _ _ _
theorem countP_not {α : Type} (p : α → Bool) : ∀ l : List α, l.countP p + l.countP (fun x => !p x) = l.length
  | [] => rfl
  | x :: l => by
    have := countP_not p l
    simp only [List.countP_cons, List.length_cons]
    cases p x <;> simp <;> omega
theorem numT_not {X Y : Nat} (h : ∀ n, n < 16 → Y.testBit n = !X.testBit n) : numT X + numT Y = 16 := by
  have e : numT Y = (List.range 16).countP fun n => !X.testBit n := by
    unfold numT
    exact List.countP_congr fun n hn => by rw [h n (List.mem_range.1 hn)]
  rw [e]
  exact countP_not _ _
/-- cubes of sixteen answers: each number for which they say true has just one -/
theorem cubes_tbl {S : NS} (h : Wf S) (h4 : S.vars = 4) {k X : Nat} (hd : Den S k (tbl X)) {n : Nat} (hn : n < 16) : (cubes S k).countP (fun c => (List.range 4).all fun v => c[v]? == some 2 || c[v]? == some (bZ (n.testBit v))) = (X.testBit n).toNat := by
  have e := cubes_count h hd.is (rho (valsN n))
  rw [hd.says, h4] at e
  unfold tbl at e
  rw [ix_vals n hn] at e
  rw [← e]
  refine List.countP_congr fun c _ => ?_
  unfold inB
  rw [List.all_eq_true, List.all_eq_true]
  constructor
  · intro hh v hv
    have := hh v hv
    rwa [← rho_bit (List.mem_range.1 hv)] at this
  · intro hh v hv
    have := hh v hv
    rwa [rho_bit (List.mem_range.1 hv)] at this
/-- whatever was met from u on has been told -/
def AskInv (S : NS) (s t : Nat → Bool) (u : Nat) : Prop := ∀ j, s j = true → u ≤ (nd S.l j).v → ∀ v, askB S.l j v = true → t v = true
structure AskPost (S : NS) (k : Nat) (s t s' t' : Nat → Bool) : Prop where
  tv : ∀ v, t' v = (t v || askB S.l k v)
  up : ∀ j, s j = true → s' j = true
  nw : ∀ j, s' j = true → s j = true ∨ (isB S.l j = true ∧ (nd S.l k).v ≤ (nd S.l j).v)
  inv : AskInv S s' t' (nd S.l k).v
theorem AskPost.leaf {S : NS} {k : Nat} {s t : Nat → Bool} (hk : k < 2) (hi : AskInv S s t (nd S.l k).v) : AskPost S k s t s t :=
  ⟨fun v => by rw [askB_leaf _ _ hk, Bool.or_false], fun _ h => h, fun _ h => .inl h, hi⟩
theorem AskPost.seen {S : NS} {k : Nat} {s t : Nat → Bool} (hk : s k = true) (hi : AskInv S s t (nd S.l k).v) : AskPost S k s t s t :=
  ⟨fun v => by
    cases ha : askB S.l k v with
    | false => rw [Bool.or_false]
    | true => rw [hi k hk (Nat.le_refl _) v ha]; rfl, fun _ h => h, fun _ h => .inl h, hi⟩
theorem setB_iff {s : Nat → Bool} {k j : Nat} : setB s k j = true ↔ s j = true ∨ j = k := by unfold setB; rw [Bool.or_eq_true, beq_iff_eq]
theorem AskInv.low {S : NS} (h : Wf S) {k : Nat} {s t : Nat → Bool} (h2 : 2 ≤ k) (hk : isB S.l k = true) (hi : AskInv S s t (nd S.l k).v) : AskInv S (setB s k) (setB t (nd S.l k).v) (nd S.l (nd S.l k).low).v := fun j hj hv v ha => by
  obtain ⟨_, _, _, _, h5, _⟩ := h.kid k h2 hk
  rw [setB_iff] at hj ⊢
  rcases hj with hj | rfl
  · exact .inl (hi j hj (by omega) v ha)
  · omega
theorem AskInv.high {S : NS} (h : Wf S) {k : Nat} {s t s2 t2 : Nat → Bool} (h2 : 2 ≤ k) (hk : isB S.l k = true) (hi : AskInv S s t (nd S.l k).v) (hp : AskPost S (nd S.l k).low (setB s k) (setB t (nd S.l k).v) s2 t2) : AskInv S s2 t2 (nd S.l (nd S.l k).high).v := fun j hj hv v ha => by
  obtain ⟨_, _, _, _, h5, h6⟩ := h.kid k h2 hk
  rcases hp.nw j hj with hj | ⟨_, hj2⟩
  · rw [setB_iff] at hj
    rcases hj with hj | rfl
    · rw [hp.tv, Bool.or_eq_true, setB_iff]; exact .inl (.inl (hi j hj (by omega) v ha))
    · omega
  · exact hp.inv j hj hj2 v ha
theorem AskPost.node {S : NS} (h : Wf S) {k : Nat} {s t s2 t2 s3 t3 : Nat → Bool} (h2 : 2 ≤ k) (hk : isB S.l k = true) (hi : AskInv S s t (nd S.l k).v)
    (hp : AskPost S (nd S.l k).low (setB s k) (setB t (nd S.l k).v) s2 t2) (hq : AskPost S (nd S.l k).high s2 t2 s3 t3) : AskPost S k s t s3 t3 := by
  obtain ⟨hv, _, h3, h4, h5, h6⟩ := h.kid k h2 hk
  have htv : ∀ v, t3 v = (t v || askB S.l k v) := fun v => by
    rw [hq.tv, hp.tv, askB_step h v h2 hk]
    unfold setB
    rw [show (v == (nd S.l k).v) = ((nd S.l k).v == v) from Bool.eq_iff_iff.2 (by rw [beq_iff_eq, beq_iff_eq]; exact eq_comm), Bool.or_assoc, Bool.or_assoc]
  refine ⟨htv, fun j hj => hq.up j (hp.up j (setB_iff.2 (.inl hj))), fun j hj => ?_, fun j hj hjv v ha => ?_⟩
  · rcases hq.nw j hj with hj | ⟨a, b⟩
    · rcases hp.nw j hj with hj | ⟨a, b⟩
      · rcases setB_iff.1 hj with hj | rfl
        · exact .inl hj
        · exact .inr ⟨hk, Nat.le_refl _⟩
      · exact .inr ⟨a, by omega⟩
    · exact .inr ⟨a, by omega⟩
  · rcases hq.nw j hj with hj2 | ⟨a, b⟩
    · rcases hp.nw j hj2 with hj3 | ⟨a, b⟩
      · rcases setB_iff.1 hj3 with hj4 | rfl
        · rw [htv, hi j hj4 hjv v ha]; rfl
        · rw [htv, ha, Bool.or_true]
      · have := hp.inv j hj2 b v ha
        rw [hq.tv, this]; rfl
    · exact hq.inv j hj b v ha
theorem AskInv.start (S : NS) (t : Nat → Bool) (u : Nat) : AskInv S (fun _ => false) t u := fun j hj => by cases hj
end Go.Proofs.YtobhjkfkdkiigaaGreatDoor.NP
