/- The table and the document's table side by side: what the list of keys and values says (mp), the calls with what they leave alone (Side). -/
import Derived.Test.YtdalnhhenahcjaaHashS
namespace Go.Proofs.Ytdalnhhenahcjaa
open Go.RowKit HP
def mp : List (Key × Int) → Key → Option Int
  | [], _ => none
  | x :: t, c => if x.1 = c then some x.2 else mp t c
theorem mp_fk (L : List (Key × Int)) (c : Key) : mp L c = if fk L c < L.length then some (L.getD (fk L c) ((0, 0, 0), 0)).2 else none := by
  induction L with
  | nil => rfl
  | cons x t ih =>
    by_cases e : x.1 = c
    · simp [mp, fk, e]
    · rw [mp, fk, if_neg e, if_neg e, ih]
      by_cases h : fk t c < t.length
      · rw [if_pos h, if_pos (by simpa using h)]; simp
      · rw [if_neg h, if_neg (by simpa using h)]
theorem mp_some (L : List (Key × Int)) (c : Key) : (mp L c).isSome = decide (fk L c < L.length) := by
  rw [mp_fk]; by_cases h : fk L c < L.length <;> simp [h]
theorem rg_mp (L : List (Key × Int)) (c : Key) : rgV L c = getV (mp L) c ∧ rgE L c = getE (mp L) c := by
  unfold rgV rgE getV getE
  rw [mp_fk]
  by_cases h : fk L c < L.length <;> simp [h]
theorem mp_mem (L : List (Key × Int)) (c : Key) : (mp L c).isSome = true ↔ c ∈ L.map (·.1) := by
  induction L with
  | nil => simp [mp]
  | cons x t ih =>
    rw [mp]
    by_cases e : x.1 = c
    · simp [e]
    · rw [if_neg e, ih]; simp [Ne.symm e]
theorem drop_cons (x : Key × Int) (t : List (Key × Int)) (c : Key) : dropL (x :: t) c = if x.1 = c then t else x :: dropL t c := by
  unfold dropL
  rw [fk]
  by_cases e : x.1 = c <;> simp [e]
theorem drop_sub (L : List (Key × Int)) (c : Key) : (dropL L c).Sublist L := List.eraseIdx_sublist ..
theorem drop_nd {L : List (Key × Int)} (h : (L.map (·.1)).Nodup) (c : Key) : ((dropL L c).map (·.1)).Nodup := h.sublist ((drop_sub L c).map _)
theorem mp_drop {L : List (Key × Int)} (h : (L.map (·.1)).Nodup) (c : Key) : mp (dropL L c) = setK (mp L) c none := by
  funext c'
  induction L with
  | nil => simp [dropL, mp, setK]
  | cons x t ih =>
    rw [List.map_cons, List.nodup_cons] at h
    rw [drop_cons]
    by_cases e : x.1 = c
    · rw [if_pos e]
      unfold setK
      by_cases e' : c' = c
      · rw [if_pos e']
        cases hm : mp t c' with
        | none => rfl
        | some v => exact absurd ((mp_mem t c').1 (by rw [hm]; rfl)) (by rw [e', ← e]; exact h.1)
      · rw [if_neg e', mp, if_neg (by rw [e]; exact Ne.symm e')]
    · rw [if_neg e, mp, ih h.2]
      unfold setK
      by_cases e' : c' = c
      · rw [if_pos e', if_pos e', if_neg (by rw [e']; exact e)]
      · rw [if_neg e', if_neg e', mp]
theorem mp_append (L : List (Key × Int)) (c : Key) (v : Int) (c' : Key) : mp (L ++ [(c, v)]) c' = match mp L c' with | some u => some u | none => if c = c' then some v else none := by
  induction L with
  | nil => simp [mp]
  | cons x t ih =>
    rw [List.cons_append, mp, ih, mp]
    by_cases e : x.1 = c' <;> simp [e]
theorem mp_put {L : List (Key × Int)} (h : (L.map (·.1)).Nodup) (c : Key) (v : Int) : mp (putLR L c v) = setK (mp L) c (some v) := by
  funext c'
  unfold putLR
  rw [mp_append, mp_drop h]
  unfold setK
  by_cases e : c' = c
  · subst e; simp
  · simp only [if_neg e]
    cases mp L c' with
    | none => simp [Ne.symm e]
    | some u => rfl
theorem drop_len (L : List (Key × Int)) (c : Key) : (dropL L c).length = if (mp L c).isSome then L.length - 1 else L.length := by
  rw [mp_some]
  unfold dropL
  rw [List.length_eraseIdx]
  by_cases h : fk L c < L.length <;> simp [h]
theorem put_len (L : List (Key × Int)) (c : Key) (v : Int) : (putLR L c v).length = if (mp L c).isSome then L.length else L.length + 1 := by
  unfold putLR
  rw [List.length_append, drop_len, List.length_singleton]
  by_cases h : (mp L c).isSome = true
  · rw [if_pos h, if_pos h]
    have : fk L c < L.length := by rw [mp_some] at h; simpa using h
    omega
  · rw [if_neg h, if_neg h]
theorem put_nd {L : List (Key × Int)} (h : (L.map (·.1)).Nodup) (c : Key) (v : Int) : ((putLR L c v).map (·.1)).Nodup := by
  unfold putLR
  rw [List.map_append, List.nodup_append]
  refine ⟨drop_nd h c, by simp, ?_⟩
  intro a ha b hb
  simp at hb
  subst hb
  rintro rfl
  have := (mp_mem (dropL L a) a).2 ha
  rw [mp_drop h] at this
  simp [setK] at this
/-! ### the calls, and what they leave alone -/
theorem Side.below {w w' : World} (hb : Below w.heap.size w w') : Side w w' := fun _ _ _ h _ _ => h.below hb h.lt
theorem RT.side {w w' : World} {L : List (Key × Int)} {ka va : Option Addr} (h : RT w L ka va) (hs : Side w w') : RT w' L ka va := by
  have key : ∀ (a : Option Addr) (t : TypeId) (xs : List Value), t ≠ 54 → t ≠ 96 → TB w a t → Cells w a xs → TB w' a t ∧ Cells w' a xs := by
    intro a t xs h1 h2 hT hC
    refine ⟨fun b off s e => ?_, fun hx => ?_⟩
    · obtain ⟨cs, hc⟩ := hT b off s e; exact ⟨cs, hs _ _ _ hc h1 h2⟩
    · obtain ⟨b, off, e, hb, hh⟩ := hC hx
      obtain ⟨cs, hc⟩ := hT b off none e
      have hc' := hs _ _ _ hc h1 h2
      exact ⟨b, off, e, hc'.lt, fun i v hv => by rw [hc'.cell, ← hc.cell]; exact hh i v hv⟩
  obtain ⟨a1, a2⟩ := key ka 26 _ (by decide) (by decide) h.kt h.keys
  obtain ⟨b1, b2⟩ := key va 3 _ (by decide) (by decide) h.vt h.vals
  exact ⟨a1, b1, a2, b2⟩
theorem sput (w0 w : World) (p : Nat) (M : Key → Option Int) (n : Nat) (c : Key) (v : Int) (h : Tab w0 w p M n) (hn : n < 1048576) :
    Calls Try.prog 17 #[.pointer (some ⟨p, 0, none⟩), .agg #[.int .i64 c.1, .int .i64 c.2.1, .int .i64 c.2.2], .int .i64 v] w fun e w' => e = .returned (.int .i64 0) ∧ Tab w0 w' p (setK M c (some v)) (if (M c).isSome then n else n + 1) ∧ Side w w' := by
  obtain ⟨g, h1, h2, h3, h4⟩ := h
  refine (put_ok w p g M n c v h1).mono fun e w' ⟨g', ho, hg, hh⟩ => ?_
  rcases hh with ⟨hf, _⟩ | ⟨_, he, ha⟩
  · exact absurd hf.2 (by omega)
  · refine ⟨he, ⟨g', ha, ho.tab h2 h3 h4, h3, ?_⟩, Side.of_only h1 ho⟩
    rcases hg with rfl | hg
    · exact h4
    · exact Nat.le_trans h2.size hg
theorem sget (w0 w : World) (p : Nat) (M : Key → Option Int) (n : Nat) (c : Key) (h : Tab w0 w p M n) :
    Calls Try.prog 18 #[.pointer (some ⟨p, 0, none⟩), .agg #[.int .i64 c.1, .int .i64 c.2.1, .int .i64 c.2.2]] w fun e w' => e = .returned (.tuple #[.int .i64 (getV M c), .int .i64 (getE M c)]) ∧ Tab w0 w' p M n ∧ Side w w' := by
  obtain ⟨g, h1, h2, h3, h4⟩ := h
  exact (get_ok w p g M n c h1).mono fun e w' ⟨he, hb⟩ => ⟨he, ⟨g, h1.below hb, h2.trans (hb.mono h2.size), h3, h4⟩, Side.below hb⟩
theorem sdrop (w0 w : World) (p : Nat) (M : Key → Option Int) (n : Nat) (c : Key) (h : Tab w0 w p M n) :
    Calls Try.prog 21 #[.pointer (some ⟨p, 0, none⟩), .agg #[.int .i64 c.1, .int .i64 c.2.1, .int .i64 c.2.2]] w fun e w' => e = .returned (.bool (M c).isSome) ∧ Tab w0 w' p (setK M c none) (if (M c).isSome then n - 1 else n) ∧ Side w w' := by
  obtain ⟨g, h1, h2, h3, h4⟩ := h
  exact (drop_ok w p g M n c h1).mono fun e w' ⟨he, ha, ho⟩ => ⟨he, ⟨g, ha, ho.tab h2 h3 h4, h3, h4⟩, Side.of_only h1 ho⟩
theorem sclear (w0 w : World) (p : Nat) (M : Key → Option Int) (n : Nat) (h : Tab w0 w p M n) :
    Calls Try.prog 20 #[.pointer (some ⟨p, 0, none⟩)] w fun e w' => e = .returned (.int .i64 0) ∧ Tab w0 w' p (fun _ => none) 0 ∧ Side w w' := by
  obtain ⟨g, h1, h2, h3, h4⟩ := h
  refine (clear_ok w p g M n h1).mono fun e w' ⟨g', he, ha, ho, hg⟩ => ⟨he, ⟨g', ha, ho.tab h2 h3 h4, h3, ?_⟩, Side.of_only h1 ho⟩
  rcases hg with rfl | hg
  · exact h4
  · exact Nat.le_trans h2.size hg
theorem Tab.far {w0 w : World} {p : Nat} {M : Key → Option Int} {n b : Nat} {t : TypeId} {cs : Array Value} (h : Tab w0 w p M n) (hb : Blk w b t cs) (h1 : t ≠ 54) (h2 : t ≠ 96) (hl : w0.heap.size ≤ b) (i : Nat) (u : Value) : Tab w0 (w.setCell ⟨b, i, none⟩ u) p M n := by
  obtain ⟨g, ha, hB, hp, hg⟩ := h
  have ha' := ha
  obtain ⟨j, u', L, hh⟩ := ha'
  obtain ⟨cs', hpl, _⟩ := hh.pls
  have ht := hh.tab
  unfold Blk at hb ht hpl
  have np : p ≠ b := by rintro rfl; rw [hb] at ht; injection ht with ht; injection ht with _ ht; exact h1 ht
  have ng : g ≠ b := by rintro rfl; rw [hb] at hpl; injection hpl with hpl; injection hpl with _ hpl; exact h2 hpl
  exact ⟨g, ha.keep (Below.heap_setCell _ _ _ _ np) (Below.heap_setCell _ _ _ _ ng), hB.setCell (by exact hl) _, hp, hg⟩
theorem tlenQ (w0 w : World) (p : Nat) (M : Key → Option Int) (n : Nat) (h : Tab w0 w p M n) (k : Nat) :
    Calls Try.prog 19 #[.pointer (some ⟨p, 0, none⟩)] (w.drewN k) fun e w' => e = .returned (.int .i64 (n : Int)) ∧ w' = w.drewN k := by
  obtain ⟨g, h1, _⟩ := h
  exact (len_ok (w.drewN k) p g M n (h1.keep rfl rfl)).mono fun _ _ ⟨he, hw⟩ => ⟨he, hw.symm⟩
theorem RT.far {w : World} {L : List (Key × Int)} {ka va : Option Addr} {b : Nat} {t : TypeId} {cs : Array Value} (h : RT w L ka va) (hb : Blk w b t cs) (h1 : t ≠ 26) (h2 : t ≠ 3) (i : Nat) (u : Value) : RT (w.setCell ⟨b, i, none⟩ u) L ka va := by
  have key : ∀ (a : Option Addr) (t' : TypeId) (xs : List Value), t ≠ t' → TB w a t' → Cells w a xs → TB (w.setCell ⟨b, i, none⟩ u) a t' ∧ Cells (w.setCell ⟨b, i, none⟩ u) a xs := by
    intro a t' xs hne hT hC
    have far : ∀ b' cs', Blk w b' t' cs' → Blk (w.setCell ⟨b, i, none⟩ u) b' t' cs' := fun b' cs' hc => hc.far (by
      rintro rfl
      unfold Blk at hb hc
      rw [hb] at hc; injection hc with hc; injection hc with _ hc; exact hne hc) u
    refine ⟨fun b' off s e => ?_, fun hx => ?_⟩
    · obtain ⟨cs', hc⟩ := hT b' off s e; exact ⟨cs', far _ _ hc⟩
    · obtain ⟨b', off, e, hb', hh⟩ := hC hx
      obtain ⟨cs', hc⟩ := hT b' off none e
      exact ⟨b', off, e, (far _ _ hc).lt, fun j v hv => by rw [(far _ _ hc).cell, ← hc.cell]; exact hh j v hv⟩
  obtain ⟨a1, a2⟩ := key ka 26 _ h1 h.kt h.keys
  obtain ⟨b1, b2⟩ := key va 3 _ h2 h.vt h.vals
  exact ⟨a1, b1, a2, b2⟩
theorem bdN (w : World) (n : Nat) : Below w.heap.size w (w.drewN n) := ⟨rfl, rfl, rfl, Nat.le_refl _, fun _ _ => rfl⟩
/-- both tables, with the box of the document's -/
def Both (w0 w : World) (p b : Nat) (i : Nat) : Prop := ∃ L ka va kc vc, Tab w0 w p (mp L) L.length ∧ Blk w b 43 #[.slice ka L.length kc, .slice va L.length vc] ∧ RT w L ka va ∧ (L.map (·.1)).Nodup ∧ L.length ≤ i
end Go.Proofs.Ytdalnhhenahcjaa
