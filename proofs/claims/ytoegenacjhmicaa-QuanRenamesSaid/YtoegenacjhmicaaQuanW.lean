/- QuanRenames: the plain laws (the walk is to come). -/
import Derived.Test.YtoegenacjhmicaaQuanG
import Derived.Test.YtoegenacjhmicaaQuanV
namespace Go.Proofs.Ytoegenacjhmicaa
open Go.RowKit HP NP
theorem run_append_sep {P : Program} {w : World} (base : Nat) (t ty e : TypeId) (i : TypeInfo) (z : Value) (size bytes : Nat) (ht : P.underlying t = some (.slice e)) (hi : P.info? e = some i) (hz : i.zero = some z)
    (hsize : i.size = size) (hby : i.bytes = bytes) (hzs : z.cells.size = size) (hsz : 0 < size)
    (v : Value) (n : Nat) (xs : List Value) (hown : w.ownsRow base e size v n xs)
    (a : Addr) (m c : Nat) (news : List Value) (hl : news.length = m * size) (hnews : ∀ j u, news[j]? = some u → w.cell? (a.add j) = some u) (h1 : ∀ u ∈ news, u.oneCell' = true)
    (h63 : n + m ≤ maxLen) (hbytes : (n + m) * bytes ≤ 140737488355328) (hbase : base ≤ w.heap.size) :
    ∃ v' w', (Builtin.append_ #[t, t] ty #[v, .slice (some a) m c]).run P w = .ok v' w' ∧ w'.ownsRow base e size v' (n + m) (xs ++ news) ∧ w.grownBy w' v.ownBlock ∧
      (v'.ownBlock = v.ownBlock ∨ v'.ownBlock = some w.heap.size) := by
  obtain ⟨v', w', hr, r1, r2, r3⟩ := run_append_own (P := P) w base t ty e i z size bytes ht hi hz hsize hby hzs hsz v n xs hown a m c news hl hnews h1 h63 hbytes hbase
  refine ⟨v', w', hr, r1, r2, ?_⟩
  subst hsize
  subst hby
  have hsmall : n + m ≤ 9223372036854775807 := by simp only [maxLen] at h63; omega
  rcases hown.2 with ⟨rfl, rfl⟩ | ⟨g, cap, cur, rfl, hbg, hg, hnc, hcm, hcs, htake⟩
  · by_cases hm : m = 0
    · left; rw [r3.2 ⟨rfl, hm⟩]
    · have hr2 := run_append_nil (P := P) w t ty e i z ht hi hz a m c news hl hnews (by omega) (by omega) (by have hb := hbytes; simp only [Nat.zero_add] at hb; omega)
      rw [hr2] at hr
      injection hr with hv _
      right; rw [← hv]; rfl
  · by_cases hroom : n + m ≤ cap
    · have hfit : n * i.size + news.length ≤ cur.size := by rw [hl, hcs, ← Nat.add_mul]; exact Nat.mul_le_mul_right _ hroom
      have hr2 := run_append_room (P := P) w t ty e i ht hi g n cap cur hg a m c news hl hnews h1 hroom hfit
      rw [hr2] at hr
      injection hr with hv _
      left; rw [← hv]; rfl
    · have holds : ∀ j u, xs[j]? = some u → w.cell? ((⟨g, 0, none⟩ : Addr).add j) = some u := hown.cells (g := g) rfl
      have hr2 := run_append_grow (P := P) w t ty e i z ht hi hz ⟨g, 0, none⟩ n cap xs hown.1 holds a m c news hl hnews (by omega) (by omega) (growslice_fits (by omega) hbytes)
      rw [hr2] at hr
      injection hr with hv _
      right; rw [← hv]; rfl
theorem wpList_append_sep {P : Program} {w : World} {ops : Array Oper} {rest : List Oper} {o : Oper} {a : Act} {Q : Exit → Act → World → Prop} (hgd : o.guard = none) (s x : Operand) (t : TypeId)
    (hop : o.op = .call { callee := .builtin .append, args := #[s, x], argTypes := #[t, t] })
    (base : Nat) (e : TypeId) (i : TypeInfo) (z : Value) (size bytes : Nat) (ht : P.underlying t = some (.slice e)) (hi : P.info? e = some i) (hz : i.zero = some z)
    (hsize : i.size = size) (hby : i.bytes = bytes) (hzs : z.cells.size = size) (hsz : 0 < size)
    (v : Value) (n : Nat) (xs : List Value) (hs : a.eval s = v) (hown : w.ownsRow base e size v n xs)
    (xb xo m c : Nat) (news : List Value) (hx : a.eval x = .slice (some ⟨xb, xo, none⟩) m c) (hl : news.length = m * size) (hc : ∀ j u, news[j]? = some u → w.cell? ((⟨xb, xo, none⟩ : Addr).add j) = some u) (h1 : ∀ u ∈ news, u.oneCell' = true)
    (h63 : n + m ≤ maxLen) (hbytes : (n + m) * bytes ≤ 140737488355328) (hbase : base ≤ w.heap.size)
    (h : ∀ v' w', w'.ownsRow base e size v' (n + m) (xs ++ news) → w.grownBy w' v.ownBlock → (v'.ownBlock = v.ownBlock ∨ v'.ownBlock = some w.heap.size) → wpList P ops Q rest (a.put o.dst v') w') : wpList P ops Q (o :: rest) a w := by
  refine wpList_plain hgd fun K hK => ?_
  obtain ⟨v', w', hrun, r1, r2, r3⟩ := run_append_sep (P := P) (w := w) base t o.type e i z size bytes ht hi hz hsize hby hzs hsz v n xs hown ⟨xb, xo, none⟩ m c news hl hc h1 h63 hbytes hbase
  unfold Oper.wp
  simp [execOp, hop, resolve, invoke, builtin, hs, hx, hrun, Result.andThen]
  exact hK _ _ (h v' w' r1 r2 r3)
/-- two rows of one call, of one kind, that lie apart -/
structure Rows2 (w : World) (B : Nat) (y1 : Value) (n1 : Nat) (xs : List Value) (y2 : Value) (n2 : Nat) (ys : List Value) : Prop where
  one : w.ownsRow B 3 1 y1 n1 xs
  two : w.ownsRow B 3 1 y2 n2 ys
  apart : ∀ b, y1.ownBlock = some b → y2.ownBlock ≠ some b
theorem Rows2.grown1 {w w' : World} {B : Nat} {y1 : Value} {n1 : Nat} {xs : List Value} {y2 : Value} {n2 : Nat} {ys : List Value} (h : Rows2 w B y1 n1 xs y2 n2 ys) {y1' : Value} {n1' : Nat} {xs' : List Value}
    (hown : w'.ownsRow B 3 1 y1' n1' xs') (hg : w.grownBy w' y1.ownBlock) (hs : y1'.ownBlock = y1.ownBlock ∨ y1'.ownBlock = some w.heap.size) : Rows2 w' B y1' n1' xs' y2 n2 ys := by
  refine ⟨hown, h.two.kept hg ?_, fun b hb => ?_⟩
  · cases e : y2.ownBlock with
    | none => exact .inl rfl
    | some b =>
      right
      intro e2
      exact h.apart b e2.symm e
  · rcases hs with hs | hs
    · exact h.apart b (by rw [← hs]; exact hb)
    · intro e
      have h1 := (h.two.lt b e).2
      rw [hs] at hb
      injection hb with hb
      omega
theorem Rows2.grown2 {w w' : World} {B : Nat} {y1 : Value} {n1 : Nat} {xs : List Value} {y2 : Value} {n2 : Nat} {ys : List Value} (h : Rows2 w B y1 n1 xs y2 n2 ys) {y2' : Value} {n2' : Nat} {ys' : List Value}
    (hown : w'.ownsRow B 3 1 y2' n2' ys') (hg : w.grownBy w' y2.ownBlock) (hs : y2'.ownBlock = y2.ownBlock ∨ y2'.ownBlock = some w.heap.size) : Rows2 w' B y1 n1 xs y2' n2' ys' := by
  refine ⟨h.one.kept hg ?_, hown, fun b hb e => ?_⟩
  · cases e : y1.ownBlock with
    | none => exact .inl rfl
    | some b =>
      right
      intro e2
      exact h.apart b e e2.symm
  · rcases hs with hs | hs
    · exact h.apart b hb (by rw [← hs]; exact e)
    · have h1 := (h.one.lt b hb).2
      rw [hs] at e
      injection e with e
      omega
theorem Rows2.alloc_ {w : World} {B : Nat} {y1 : Value} {n1 : Nat} {xs : List Value} {y2 : Value} {n2 : Nat} {ys : List Value} (h : Rows2 w B y1 n1 xs y2 n2 ys) (o : Obj) : Rows2 (w.alloc o) B y1 n1 xs y2 n2 ys := ⟨h.one.alloc o, h.two.alloc o, h.apart⟩
/-- the number n with the variables of the first k of two lists put in place -/
def mR (vs us : List Int) (n : Nat) : Nat → Nat
  | 0 => n
  | k + 1 => mN (mR vs us n k) (vs.getD k 0).toNat (n.testBit (us.getD k 0).toNat)
theorem ix_bit (ρ : Nat → Bool) (b : Nat) (hb : b < 4) : (ix ρ).testBit b = ρ b := by
  have h := vals_ix ρ b hb
  rw [← h]
  rcases (by omega : b = 0 ∨ b = 1 ∨ b = 2 ∨ b = 3) with rfl | rfl | rfl | rfl <;> rfl
theorem byM_upd (m : Nat → Option Nat) (f b i : Nat) : byM (updM m f b) i = if i = f then b else byM m i := by
  unfold byM updM
  by_cases e : i = f <;> simp [e]
theorem mR_ix (vs us : List Int) (ρ : Nat → Bool) : ∀ k, (∀ j, j < k → (vs.getD j 0).toNat < 4 ∧ (us.getD j 0).toNat < 4) → mR vs us (ix ρ) k = ix (fun i => ρ (byM (bm vs us k) i))
  | 0, _ => rfl
  | k + 1, h => by
    have ih := mR_ix vs us ρ k fun j hj => h j (by omega)
    obtain ⟨h1, h2⟩ := h k (by omega)
    show mN (mR vs us (ix ρ) k) (vs.getD k 0).toNat ((ix ρ).testBit (us.getD k 0).toNat) = _
    rw [ih, ix_bit ρ _ h2, mN_ix _ _ _ h1]
    refine ix_congr fun i _ => ?_
    show upR (fun i => ρ (byM (bm vs us k) i)) (vs.getD k 0).toNat (ρ (us.getD k 0).toNat) i = ρ (byM (updM (bm vs us k) (vs.getD k 0).toNat (us.getD k 0).toNat) i)
    rw [byM_upd]
    unfold upR
    by_cases e : i = (vs.getD k 0).toNat
    · rw [if_pos e, if_pos e]
    · rw [if_neg e, if_neg e]
theorem mR_lt (vs us : List Int) {n : Nat} (hn : n < 16) : ∀ k, (∀ j, j < k → (vs.getD j 0).toNat < 4 ∧ (us.getD j 0).toNat < 4) → mR vs us n k < 16
  | 0, _ => hn
  | k + 1, h => mN_lt _ _ _ (mR_lt vs us hn k fun j hj => h j (by omega)) (h k (by omega)).1
/-- the sixteen answers asked for -/
def wantR (X : Nat) (vs us : List Int) (N : Nat) : Nat → Nat := ttF (fun n => X.testBit (mR vs us n N))
theorem wantR_tbl (X : Nat) (vs us : List Int) (N : Nat) (h : ∀ j, j < N → (vs.getD j 0).toNat < 4 ∧ (us.getD j 0).toNat < 4) (ρ : Nat → Bool) : tbl (wantR X vs us N 16) ρ = tbl X (fun i => ρ (byM (bm vs us N) i)) := by
  unfold tbl wantR
  rw [ttF_testBit _ 16 _ (ix_lt ρ), mR_ix vs us ρ N h]
theorem rnT_tbl {S : NS} {x X : Nat} (hd : Den S x (tbl X)) (vs us : List Int) (N : Nat) (h : ∀ j, j < N → (vs.getD j 0).toNat < 4 ∧ (us.getD j 0).toNat < 4) (ρ : Nat → Bool) : rnT S (byM (bm vs us N)) x ρ = tbl (wantR X vs us N 16) ρ := by
  unfold rnT
  rw [hd.says, wantR_tbl X vs us N h]
def btvW (n : Int) (k : Nat) : Bool := bits .and .i64 (n / 2 ^ k) 1 == 1
theorem and_oneZW (x : Int) : bits .and .i64 x 1 = x % 2 := and_low x 1 (by decide)
theorem btv_eqW (n : Int) (k : Nat) : btvW n k = decide (n / 2 ^ k % 2 = 1) := by
  unfold btvW; rw [and_oneZW]; rfl
def lo16W (n : Int) : Nat := (n % 65536).toNat
theorem lo16_intW (n : Int) : (lo16W n : Int) = n % 65536 := by unfold lo16W; omega
theorem lo16_ltW (n : Int) : lo16W n < 65536 := by unfold lo16W; omega
theorem btv_loW (n : Int) (k : Nat) (hk : k < 16) : btvW n k = (lo16W n).testBit k := by
  rw [btv_eqW, Nat.testBit_eq_decide_div_mod_eq]
  have h := lo16_intW n
  have hd : n = 65536 * (n / 65536) + (lo16W n : Int) := by rw [h]; omega
  have hk16 : (65536 : Int) = 2 ^ k * 2 * 2 ^ (15 - k) := by
    have : k = 0 ∨ k = 1 ∨ k = 2 ∨ k = 3 ∨ k = 4 ∨ k = 5 ∨ k = 6 ∨ k = 7 ∨ k = 8 ∨ k = 9 ∨ k = 10 ∨ k = 11 ∨ k = 12 ∨ k = 13 ∨ k = 14 ∨ k = 15 := by omega
    rcases this with rfl | rfl | rfl | rfl | rfl | rfl | rfl | rfl | rfl | rfl | rfl | rfl | rfl | rfl | rfl | rfl <;> rfl
  have hpk : (0 : Int) < 2 ^ k := Int.pow_pos (by decide)
  have e : n / 2 ^ k = (lo16W n : Int) / 2 ^ k + 2 * (2 ^ (15 - k) * (n / 65536)) := by
    have e1 : n = (lo16W n : Int) + 2 ^ k * (2 * (2 ^ (15 - k) * (n / 65536))) := by
      have : (65536 : Int) * (n / 65536) = 2 ^ k * (2 * (2 ^ (15 - k) * (n / 65536))) := by
        generalize n / 65536 = z
        rw [hk16, Int.mul_assoc, Int.mul_assoc]
      omega
    generalize hz : 2 * (2 ^ (15 - k) * (n / 65536)) = z at e1
    exact (congrArg (fun t : Int => t / 2 ^ k) e1).trans (Int.add_mul_ediv_left _ _ (by omega))
  rw [e]
  have e2 : ((lo16W n : Int) / 2 ^ k) = ((lo16W n / 2 ^ k : Nat) : Int) := by
    rw [Int.natCast_ediv, Int.natCast_pow]; rfl
  rw [e2]
  generalize 2 ^ (15 - k) * (n / 65536) = y
  generalize lo16W n / 2 ^ k = m
  by_cases h1 : m % 2 = 1
  · rw [decide_eq_true h1, decide_eq_true (by omega)]
  · rw [decide_eq_false h1, decide_eq_false (by omega)]
theorem btv_intW (n : Int) (k : Nat) (hk : k < 16) : bits .and .i64 (n / 2 ^ k) 1 = (((lo16W n).testBit k).toNat : Int) := by
  have h := btv_loW n k hk
  unfold btvW at h
  have hx := and_oneZW (n / 2 ^ k)
  rcases (by omega : (n / 2 ^ k) % 2 = 0 ∨ (n / 2 ^ k) % 2 = 1) with e | e
  · rw [hx, e] at h ⊢; rw [← h]; rfl
  · rw [hx, e] at h ⊢; rw [← h]; rfl
/-- the variables below v that are put in place, and those in their place -/
def frN (T v : Nat) : List Nat := (List.range v).filter fun i => T.testBit (8 + i)
def frL (T v : Nat) : List Int := (frN T v).map fun i : Nat => (i : Int)
def toL (T v : Nat) : List Int := (frN T v).map fun i : Nat => ((T / 4 ^ i % 4 : Nat) : Int)
theorem frN_succ (T v : Nat) : frN T (v + 1) = frN T v ++ (if T.testBit (8 + v) then [v] else []) := by
  unfold frN
  rw [List.range_succ, List.filter_append]
  cases h : T.testBit (8 + v) <;> simp [h]
theorem frN_len (T v : Nat) : (frN T v).length ≤ v := by
  unfold frN
  have := List.length_filter_le (fun i => T.testBit (8 + i)) (List.range v)
  simpa using this
theorem frN_lt {T v i : Nat} (h : i ∈ frN T v) : i < v := by
  unfold frN at h
  exact List.mem_range.1 (List.mem_filter.1 h).1
theorem frN_nodup (T v : Nat) : (frN T v).Nodup := by
  unfold frN
  exact List.nodup_range.sublist List.filter_sublist
theorem low_four (z : Int) (v : Nat) (hv : v < 4) : bits .and .i64 (z / 2 ^ (2 * v)) 3 = ((lo16W z / 4 ^ v % 4 : Nat) : Int) := by
  rw [show bits .and .i64 (z / 2 ^ (2 * v)) 3 = (z / 2 ^ (2 * v)) % 4 from and_low _ 2 (by decide)]
  have h := lo16_intW z
  rcases (by omega : v = 0 ∨ v = 1 ∨ v = 2 ∨ v = 3) with rfl | rfl | rfl | rfl <;> simp <;> omega
end Go.Proofs.Ytoegenacjhmicaa
