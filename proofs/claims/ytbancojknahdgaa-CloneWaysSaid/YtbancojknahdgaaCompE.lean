/- Maps of numbers for comp's walk (NMap), the state of the walk (KS), what bounds it. -/
import Derived.Test.YtbancojknahdgaaCompD
namespace Go.Proofs.Ytbancojknahdgaa
open Go.RowKit CP
/-! ### plain -/
theorem pig : ∀ (n m : Nat) (f : Nat → Nat), (∀ c, c < m → ∃ v, v < n ∧ f v = c) → m ≤ n
  | 0, m, f, h => by
    rcases Nat.eq_zero_or_pos m with h0 | h0
    · omega
    · obtain ⟨v, hv, _⟩ := h 0 h0; omega
  | n + 1, m, f, h => by
    rcases Nat.eq_zero_or_pos m with h0 | h0
    · omega
    have := pig n (m - 1) (fun v => if f v = m - 1 then f n else f v) (fun c hc => by
      by_cases e : c = f n
      · obtain ⟨v, h1, h2⟩ := h (m - 1) (by omega)
        have : v ≠ n := fun e2 => by subst e2; omega
        exact ⟨v, by omega, by show (if f v = m - 1 then _ else _) = _; rw [if_pos h2, e]⟩
      · obtain ⟨v, h1, h2⟩ := h c (by omega)
        have : v ≠ n := fun e2 => by subst e2; exact e h2.symm
        exact ⟨v, by omega, by show (if f v = m - 1 then _ else _) = _; rw [if_neg (by omega), h2]⟩)
    omega
theorem cn_mem : ∀ (l : List Nat) (n : Nat), l.Nodup → (∀ v ∈ l, v < n) → cn (fun v => decide (v ∈ l)) n = l.length
  | [], n, _, _ => by
    induction n with
    | zero => rfl
    | succ n ih => unfold cn; rw [ih (by simp)]; rfl
  | x :: l, n, hd, hl => by
    have h1 := List.nodup_cons.1 hd
    have e : (fun v => decide (v ∈ x :: l)) = fup (fun v => decide (v ∈ l)) x true := by
      funext v
      by_cases e : v = x
      · subst e; rw [fup_same]; simp
      · rw [fup_ne _ _ e]; simp [e]
    rw [e, cn_fup (by simp [h1.1]) (hl x (by simp)), cn_mem l n h1.2 fun v hv => hl v (by simp [hv])]
    rfl
theorem nodup_le {l : List Nat} {n : Nat} (hd : l.Nodup) (hl : ∀ v ∈ l, v < n) : l.length ≤ n := by rw [← cn_mem l n hd hl]; exact cn_le _ _
theorem nodup_lt {l : List Nat} {n k : Nat} (hd : l.Nodup) (hl : ∀ v ∈ l, v < n) (hk : k < n) (h : k ∉ l) : l.length < n := by rw [← cn_mem l n hd hl]; exact cn_lt (k := k) (by simp [h]) hk
theorem sorted_nodup {l : List Nat} {f : Nat → Nat} (h : l.Pairwise fun a b => f a < f b) : l.Nodup := h.imp fun h e => by subst e; omega
section
variable {g : Gr} {n : Nat} {s : TS} {way : List Nat} {next : Nat → Nat}
theorem CP.TI.comps_le (h : TI g n s way next) : s.comps ≤ n := pig n s.comps s.comp fun c hc => by
  obtain ⟨v, h1, _, _, h4⟩ := h.hit c hc
  exact ⟨v, h1, h4⟩
theorem CP.TI.stack_le (h : TI g n s way next) : s.stack.length ≤ n := nodup_le (sorted_nodup h.stS) fun v hv => (h.stI v hv).1
theorem CP.TI.stack_lt (h : TI g n s way next) {k : Nat} (hk : k < n) (h0 : s.met k = 0) : s.stack.length < n := nodup_lt (sorted_nodup h.stS) (fun v hv => (h.stI v hv).1) hk (h.fresh h0)
theorem CP.TI.way_le (h : TI g n s way next) : way.length ≤ n := nodup_le (sorted_nodup h.wyS) fun v hv => (h.stI v (h.wyI v hv)).1
end
/-- the end of a way is left: its lower number goes on to the one ahead -/
def CP.TS.upd (s : TS) (ws : List Nat) (t : Nat) : TS :=
  match ws.getLast? with
  | none => s
  | some u => s.lower u (min (s.low u) (s.low t))
theorem CP.TI.done {g : Gr} {n : Nat} {s : TS} {ws : List Nat} {t : Nat} {next : Nat → Nat} (h : TI g n s (ws ++ [t]) next) (hg : ∀ v, ∀ x ∈ g v, x < n) (hf : (g t).length ≤ next t) {pre post : List Nat} (hst : s.stack = pre ++ t :: post) :
    TI g n ((if s.low t < s.met t then s else s.pop pre (t :: post)).upd ws t) ws next := by
  by_cases hlt : s.low t < s.met t
  · rw [if_pos hlt]
    unfold TS.upd
    cases e : ws.getLast? with
    | none => exact h.leave hf hlt fun u hu => by rw [e] at hu; cases hu
    | some u =>
      obtain ⟨us, hus⟩ := List.getLast?_eq_some_iff.1 e
      have huw : u ∈ ws ++ [t] := by rw [hus]; simp
      have hut : u ≠ t := fun e2 => by
        have := h.top_lt u (by rw [hus]; simp)
        rw [e2] at this; omega
      have hts : t ∈ s.stack := h.wyI t (by simp)
      have h2 := h.lower (t := u) (m := min (s.low u) (s.low t)) huw (Nat.min_le_left _ _) (by
        rcases Nat.le_total (s.low u) (s.low t) with hle | hle
        · rw [Nat.min_eq_left hle]; exact h.wit u (h.wyI u huw)
        · rw [Nat.min_eq_right hle]
          obtain ⟨x, h1, h2, h3⟩ := h.wit t hts
          exact ⟨x, h1, h2, (h.A u huw t hts (Nat.le_of_lt (h.top_lt u (by rw [hus]; simp)))).trans h3⟩)
      have e1 : (s.lower u (min (s.low u) (s.low t))).low t = s.low t := fup_ne _ _ (fun e2 => hut e2.symm)
      refine h2.leave hf (by rw [e1]; exact hlt) fun x hx => ?_
      rw [e] at hx
      injection hx with hx
      subst hx
      rw [e1]
      show fup s.low u _ u ≤ _
      rw [fup_same]; exact Nat.min_le_right _ _
  · rw [if_neg hlt]
    have h2 := h.pop hg hf hlt hst
    unfold TS.upd
    cases e : ws.getLast? with
    | none => exact h2
    | some u =>
      obtain ⟨us, hus⟩ := List.getLast?_eq_some_iff.1 e
      have h3 := h.top_lt u (by rw [hus]; simp)
      have h4 := h.lle u (h.wyI u (by rw [hus]; simp))
      have e1 : min ((s.pop pre (t :: post)).low u) ((s.pop pre (t :: post)).low t) = (s.pop pre (t :: post)).low u := by
        show min (s.low u) (s.low t) = s.low u
        exact Nat.min_eq_left (by omega)
      show TI g n ((s.pop pre (t :: post)).lower u (min ((s.pop pre (t :: post)).low u) ((s.pop pre (t :: post)).low t))) ws next
      rw [e1]
      have : (s.pop pre (t :: post)).lower u ((s.pop pre (t :: post)).low u) = s.pop pre (t :: post) := by unfold TS.lower; rw [fup_id]
      rw [this]; exact h2
/-! ### a map of numbers -/
def intM (m : Nat → Option Nat) : Lit → Option Value
  | .int .i64 z => if decide (0 ≤ z) then (m z.toNat).map fun n : Nat => .int .i64 (n : Int) else none
  | _ => none
theorem intM_at (m : Nat → Option Nat) (k : Nat) : intM m (.int .i64 (k : Int)) = (m k).map fun n : Nat => .int .i64 (n : Int) := by
  show (if decide ((0 : Int) ≤ (k : Int)) then (m (k : Int).toNat).map (fun n : Nat => Value.int .i64 (n : Int)) else none) = _
  rw [decide_eq_true (by omega), if_pos rfl, Int.toNat_natCast]
theorem intM_set (m : Nat → Option Nat) (k n : Nat) : setF (intM m) (.int .i64 (k : Int)) (.int .i64 (n : Int)) = intM (fup m k (some n)) := by
  funext l
  unfold setF
  by_cases e : l = .int .i64 (k : Int)
  · subst e
    simp [intM, fup, Lit.sameKey]
  · rw [Maps.sameKey_ne e]
    simp only [Bool.false_eq_true, if_false]
    cases l with
    | int kd z =>
      cases kd
      case i64 =>
        simp only [intM]
        by_cases hz : 0 ≤ z
        · have : z.toNat ≠ k := by rintro rfl; exact e (by rw [Int.toNat_of_nonneg hz])
          simp [fup, this]
        · simp [hz]
      all_goals rfl
    | _ => rfl
theorem zeroI (w : World) : (zeroValue 3).run Try.prog w = .ok (.int .i64 0) w := by kernel_rfl
theorem keyN (k : Nat) (h : k < 9223372036854775808) : keyOf Try.prog 3 (.int .i64 (k : Int)) = some (.int .i64 (k : Int)) := Maps.keyOf_int_mk Try.underlying3 (by rw [← IntWalk.wrap64_in (k : Int) ⟨by omega, by omega⟩]; exact wrap64_wf _)
def NMapO (w : World) (b L : Nat) (m : Nat → Option Nat) : Prop := MapAt w Try.prog 3 b (cn (fun k => (m k).isSome) L) (intM m)
/-- a map from numbers to numbers, 0 where nothing stands -/
def NMap (w : World) (b L : Nat) (f : Nat → Nat) : Prop := ∃ m, NMapO w b L m ∧ ∀ v, (m v).getD 0 = f v
theorem NMap.new (w : World) (L : Nat) : NMap (w.alloc (.map #[] 0)) w.heap.size L (fun _ => 0) := by
  refine ⟨fun _ => none, ?_, fun _ => rfl⟩
  have h := MapAt.made w Try.prog 3
  have e : intM (fun _ => none) = fun _ => none := by
    funext l
    cases l with
    | int kd z => cases kd <;> simp [intM]
    | _ => rfl
  unfold NMapO
  rw [e]
  have c : cn (fun k => ((fun _ => none : Nat → Option Nat) k).isSome) L = 0 := by
    induction L with
    | zero => rfl
    | succ n ih => unfold cn; rw [ih]; rfl
  rw [c]
  exact h
theorem NMap.keep {w w' : World} {b L : Nat} {f : Nat → Nat} (h : NMap w b L f) (hb : w'.heap[b]? = w.heap[b]?) : NMap w' b L f := by
  obtain ⟨m, h1, h2⟩ := h
  exact ⟨m, MapAt.keep h1 hb, h2⟩
theorem NMap.lt {w : World} {b L : Nat} {f : Nat → Nat} (h : NMap w b L f) : b < w.heap.size := by obtain ⟨m, h1, _⟩ := h; exact MapAt.lt h1
theorem NMap.notcells {w : World} {b L : Nat} {f : Nat → Nat} (h : NMap w b L f) {c : Nat} {t : TypeId} {cs : Array Value} (hc : Blk w c t cs) : c ≠ b := by
  obtain ⟨m, h1, _⟩ := h
  obtain ⟨es, k, hb⟩ := MapAt.block h1
  rintro rfl
  unfold Blk at hc
  rw [hb] at hc; cases hc
theorem NMap.look {w : World} {b L : Nat} {f : Nat → Nat} (h : NMap w b L f) {k : Nat} (hk : k < 9223372036854775808) : (Instr.lookup 91 (.map (some b)) (.int .i64 (k : Int)) false).run Try.prog w = .ok (.int .i64 (f k : Int)) w := by
  obtain ⟨m, ⟨D, hown, hs, hv⟩, h2⟩ := h
  obtain ⟨v, ps, hrun, hr⟩ := hown.lookup (Maps.int_keyed Try.underlying3) Try.underlying91 (zeroI w) (zd := .held (.int .i64 0)) (zp := []) rfl (keyN k hk)
  rw [(hv _).2] at hr
  have := hR_inv hr
  subst this
  have e : atF (intM m) (.int .i64 (k : Int)) (.int .i64 0) = .int .i64 (f k : Int) := by
    unfold atF
    rw [intM_at, ← h2 k]
    cases m k <;> rfl
  rw [hrun, e]
theorem NMap.set {w : World} {b L : Nat} {f : Nat → Nat} (h : NMap w b L f) {k : Nat} (hk : k < L) (hL : L ≤ 4096) (v : Nat) : ∃ (n n' : Nat) (F : Lit → Option Value), MapAt w Try.prog 3 b n F ∧ n < maxLen ∧ (if (F (.int .i64 (k : Int))).isSome then n else n + 1) = n' ∧
    ∀ w', MapAt w' Try.prog 3 b n' (setF F (.int .i64 (k : Int)) (.int .i64 (v : Int))) → NMap w' b L (fup f k v) := by
  obtain ⟨m, h1, h2⟩ := h
  refine ⟨_, _, _, h1, by have := cn_le (fun k => (m k).isSome) L; unfold maxLen; omega, rfl, fun w' h3 => ⟨fup m k (some v), ?_, fun j => ?_⟩⟩
  · rw [intM_set] at h3
    unfold NMapO
    have e : (if (intM m (.int .i64 (k : Int))).isSome then cn (fun k => (m k).isSome) L else cn (fun k => (m k).isSome) L + 1) = cn (fun j => (fup m k (some v) j).isSome) L := by
      rw [intM_at]
      have e2 : (fun j => (fup m k (some v) j).isSome) = fup (fun j => (m j).isSome) k true := by
        funext j
        by_cases e : j = k
        · subst e; rw [fup_same, fup_same]; rfl
        · rw [fup_ne _ _ e, fup_ne _ _ e]
      rw [e2]
      cases hm : m k with
      | none => rw [cn_fup (by simp [hm]) hk]; rfl
      | some x =>
        have e3 : fup (fun j => (m j).isSome) k true = fun j => (m j).isSome := by
          have := fup_id (fun j => (m j).isSome) k
          simp only [hm, Option.isSome_some] at this
          exact this
        rw [e3]; rfl
    rw [← e]; exact h3
  · by_cases e : j = k
    · subst e; rw [fup_same, fup_same]; rfl
    · rw [fup_ne _ _ e, fup_ne _ _ e]; exact h2 j
end Go.Proofs.Ytbancojknahdgaa
