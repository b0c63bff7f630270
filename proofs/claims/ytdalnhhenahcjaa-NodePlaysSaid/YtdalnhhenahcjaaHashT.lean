/- Two tables made by a law itself (Tab2); how many keys a table has (Card); keys put one behind the other (putAll). -/
import Derived.Test.YtdalnhhenahcjaaHashL1
import Derived.Test.YtdalnhhenahcjaaOpen
namespace Go.Proofs.Ytdalnhhenahcjaa
open Go.RowKit HP

/-- what is no table and no places is as it was -/
def Side (w w' : World) : Prop := ∀ b t cs, Blk w b t cs → t ≠ 54 → t ≠ 96 → Blk w' b t cs
theorem Side.of_only {w w' : World} {p g : Nat} {M : Key → Option Int} {n : Nat} (h : HashAt w p g M n) (ho : Only (fun i => i = p ∨ i = g) w w') : Side w w' := fun b t cs hb h1 h2 => by
  obtain ⟨j, u, L, h⟩ := h
  obtain ⟨cs', hp, _⟩ := h.pls
  have ht := h.tab
  refine hb.only ho ?_
  unfold Blk at hb ht hp
  rintro (e | e)
  · subst e; rw [hb] at ht; injection ht with ht; injection ht with _ ht; exact h1 ht
  · subst e; rw [hb] at hp; injection hp with hp; injection hp with _ hp; exact h2 hp

structure Tab2In (w0 w : World) (p q g h : Nat) (M : Key → Option Int) (n : Nat) (M' : Key → Option Int) (n' : Nat) : Prop where
  a : HashAt w p g M n
  b : HashAt w q h M' n'
  bel : Below w0.heap.size w0 w
  hp : w0.heap.size ≤ p
  hq : w0.heap.size ≤ q
  hg : w0.heap.size ≤ g
  hh : w0.heap.size ≤ h
  pq : p ≠ q
  gh : g ≠ h
  ph : p ≠ h
  qg : q ≠ g
def Tab2 (w0 w : World) (p q : Nat) (M : Key → Option Int) (n : Nat) (M' : Key → Option Int) (n' : Nat) : Prop := ∃ g h, Tab2In w0 w p q g h M n M' n'
theorem Tab2.bel {w0 w : World} {p q : Nat} {M : Key → Option Int} {n : Nat} {M' : Key → Option Int} {n' : Nat} (h : Tab2 w0 w p q M n M' n') : Below w0.heap.size w0 w := by obtain ⟨g, h, hh⟩ := h; exact hh.bel
theorem Tab2.below {w0 w w' : World} {p q : Nat} {M : Key → Option Int} {n : Nat} {M' : Key → Option Int} {n' : Nat} (h : Tab2 w0 w p q M n M' n') (hb : Below w.heap.size w w') : Tab2 w0 w' p q M n M' n' := by
  obtain ⟨g, k, hh⟩ := h
  exact ⟨g, k, { hh with a := hh.a.below hb, b := hh.b.below hb, bel := hh.bel.trans (hb.mono hh.bel.size) }⟩
theorem Tab2.swap {w0 w : World} {p q : Nat} {M : Key → Option Int} {n : Nat} {M' : Key → Option Int} {n' : Nat} (h : Tab2 w0 w p q M n M' n') : Tab2 w0 w q p M' n' M n := by
  obtain ⟨g, k, hh⟩ := h
  exact ⟨k, g, { a := hh.b, b := hh.a, bel := hh.bel, hp := hh.hq, hq := hh.hp, hg := hh.hh, hh := hh.hg, pq := hh.pq.symm, gh := hh.gh.symm, ph := hh.qg, qg := hh.ph }⟩
theorem t2new (w0 w : World) (p : Nat) (M : Key → Option Int) (n : Nat) (h : Tab w0 w p M n) :
    Calls Try.prog 15 #[] w fun e w' => ∃ q, e = .returned (.pointer (some ⟨q, 0, none⟩)) ∧ Tab2 w0 w' p q M n (fun _ => none) 0 := by
  obtain ⟨g, h1, h2, h3, h4⟩ := h
  refine (new_ok w).mono fun e w' ⟨q, k, he, ha, hb, hq, hk⟩ => ⟨q, he, g, k, { a := h1.below hb, b := ha, bel := h2.trans (hb.mono h2.size), hp := h3, hq := Nat.le_trans h2.size hq, hg := h4, hh := Nat.le_trans h2.size hk, pq := ?_, gh := ?_, ph := ?_, qg := ?_ }⟩ <;> have := h1.lts <;> omega
theorem t2put (w0 w : World) (p q : Nat) (M : Key → Option Int) (n : Nat) (M' : Key → Option Int) (n' : Nat) (c : Key) (v : Int) (h : Tab2 w0 w p q M n M' n') (hn : n < 1048576) :
    Calls Try.prog 17 #[.pointer (some ⟨p, 0, none⟩), .agg #[.int .i64 c.1, .int .i64 c.2.1, .int .i64 c.2.2], .int .i64 v] w fun e w' => e = .returned (.int .i64 0) ∧ Tab2 w0 w' p q (setK M c (some v)) (if (M c).isSome then n else n + 1) M' n' ∧ Side w w' := by
  obtain ⟨g, k, hh⟩ := h
  refine (put_ok w p g M n c v hh.a).mono fun e w' ⟨g', ho, hg, hr⟩ => ?_
  rcases hr with ⟨hf, _⟩ | ⟨_, he, ha⟩
  · exact absurd hf.2 (by omega)
  · have l1 := hh.b.lts
    have l0 := hh.bel.size
    refine ⟨he, ⟨g', k, { a := ha, b := hh.b.only ho ?_ ?_, bel := ho.tab hh.bel hh.hp hh.hg, hp := hh.hp, hq := hh.hq, hg := ?_, hh := hh.hh, pq := hh.pq, gh := ?_, ph := hh.ph, qg := ?_ }⟩, Side.of_only hh.a ho⟩
    · rintro (e | e)
      · exact hh.pq e.symm
      · exact hh.qg e
    · rintro (e | e)
      · exact hh.ph e.symm
      · exact hh.gh e.symm
    · rcases hg with rfl | hg
      · exact hh.hg
      · omega
    · rcases hg with rfl | hg
      · exact hh.gh
      · omega
    · rcases hg with rfl | hg
      · exact hh.qg
      · omega
theorem t2putB (w0 w : World) (p q : Nat) (M : Key → Option Int) (n : Nat) (M' : Key → Option Int) (n' : Nat) (c : Key) (v : Int) (h : Tab2 w0 w p q M n M' n') (hn : n' < 1048576) :
    Calls Try.prog 17 #[.pointer (some ⟨q, 0, none⟩), .agg #[.int .i64 c.1, .int .i64 c.2.1, .int .i64 c.2.2], .int .i64 v] w fun e w' => e = .returned (.int .i64 0) ∧ Tab2 w0 w' p q M n (setK M' c (some v)) (if (M' c).isSome then n' else n' + 1) ∧ Side w w' :=
  (t2put w0 w q p M' n' M n c v h.swap hn).mono fun _ _ ⟨he, hh, hs⟩ => ⟨he, hh.swap, hs⟩
theorem t2get (w0 w : World) (p q : Nat) (M : Key → Option Int) (n : Nat) (M' : Key → Option Int) (n' : Nat) (c : Key) (h : Tab2 w0 w p q M n M' n') :
    Calls Try.prog 18 #[.pointer (some ⟨p, 0, none⟩), .agg #[.int .i64 c.1, .int .i64 c.2.1, .int .i64 c.2.2]] w fun e w' => e = .returned (.tuple #[.int .i64 (getV M c), .int .i64 (getE M c)]) ∧ Tab2 w0 w' p q M n M' n' ∧ Below w.heap.size w w' := by
  obtain ⟨g, k, hh⟩ := h
  exact (get_ok w p g M n c hh.a).mono fun e w' ⟨he, hb⟩ => ⟨he, Tab2.below ⟨g, k, hh⟩ hb, hb⟩
theorem t2getB (w0 w : World) (p q : Nat) (M : Key → Option Int) (n : Nat) (M' : Key → Option Int) (n' : Nat) (c : Key) (h : Tab2 w0 w p q M n M' n') :
    Calls Try.prog 18 #[.pointer (some ⟨q, 0, none⟩), .agg #[.int .i64 c.1, .int .i64 c.2.1, .int .i64 c.2.2]] w fun e w' => e = .returned (.tuple #[.int .i64 (getV M' c), .int .i64 (getE M' c)]) ∧ Tab2 w0 w' p q M n M' n' ∧ Below w.heap.size w w' :=
  (t2get w0 w q p M' n' M n c h.swap).mono fun _ _ ⟨he, hh, hb⟩ => ⟨he, hh.swap, hb⟩
theorem t2len (w0 w : World) (p q : Nat) (M : Key → Option Int) (n : Nat) (M' : Key → Option Int) (n' : Nat) (h : Tab2 w0 w p q M n M' n') :
    Calls Try.prog 19 #[.pointer (some ⟨p, 0, none⟩)] w fun e w' => e = .returned (.int .i64 (n : Int)) ∧ w = w' := by
  obtain ⟨g, k, hh⟩ := h
  exact len_ok w p g M n hh.a
theorem t2lenB (w0 w : World) (p q : Nat) (M : Key → Option Int) (n : Nat) (M' : Key → Option Int) (n' : Nat) (h : Tab2 w0 w p q M n M' n') :
    Calls Try.prog 19 #[.pointer (some ⟨q, 0, none⟩)] w fun e w' => e = .returned (.int .i64 (n' : Int)) ∧ w = w' := t2len w0 w q p M' n' M n h.swap
theorem t2clear (w0 w : World) (p q : Nat) (M : Key → Option Int) (n : Nat) (M' : Key → Option Int) (n' : Nat) (h : Tab2 w0 w p q M n M' n') :
    Calls Try.prog 20 #[.pointer (some ⟨p, 0, none⟩)] w fun e w' => e = .returned (.int .i64 0) ∧ Tab2 w0 w' p q (fun _ => none) 0 M' n' := by
  obtain ⟨g, k, hh⟩ := h
  refine (clear_ok w p g M n hh.a).mono fun e w' ⟨g', he, ha, ho, hg⟩ => ?_
  have l1 := hh.b.lts
  have l0 := hh.bel.size
  refine ⟨he, g', k, { a := ha, b := hh.b.only ho ?_ ?_, bel := ho.tab hh.bel hh.hp hh.hg, hp := hh.hp, hq := hh.hq, hg := ?_, hh := hh.hh, pq := hh.pq, gh := ?_, ph := hh.ph, qg := ?_ }⟩
  · rintro (e | e)
    · exact hh.pq e.symm
    · exact hh.qg e
  · rintro (e | e)
    · exact hh.ph e.symm
    · exact hh.gh e.symm
  · rcases hg with rfl | hg
    · exact hh.hg
    · omega
  · rcases hg with rfl | hg
    · exact hh.gh
    · omega
  · rcases hg with rfl | hg
    · exact hh.qg
    · omega

/-! ### how many keys there are -/
def Card (M : Key → Option Int) (n : Nat) : Prop := ∃ l : List Key, l.Nodup ∧ l.length = n ∧ ∀ c, (M c).isSome = true ↔ c ∈ l
theorem Card.nil : Card (fun _ => none) 0 := ⟨[], by simp, rfl, fun c => by simp⟩
theorem Card.one {M M' : Key → Option Int} {n n' : Nat} (h : Card M n) (h' : Card M' n') (hM : ∀ c, (M c).isSome = (M' c).isSome) : n = n' := by
  obtain ⟨l, h1, h2, h3⟩ := h
  obtain ⟨l', h1', h2', h3'⟩ := h'
  rw [← h2, ← h2']
  exact ((List.perm_ext_iff_of_nodup h1 h1').2 fun c => by rw [← h3, ← h3', hM]).length_eq
theorem Card.put {M : Key → Option Int} {n : Nat} (h : Card M n) (c : Key) (v : Int) : Card (setK M c (some v)) (if (M c).isSome then n else n + 1) := by
  obtain ⟨l, h1, h2, h3⟩ := h
  by_cases hs : (M c).isSome = true
  · rw [if_pos hs]
    refine ⟨l, h1, h2, fun c' => ?_⟩
    by_cases e : c' = c
    · subst e; rw [setK_some, ← h3]; simp [hs]
    · rw [setK_isSome _ _ _ _ e, h3]
  · rw [if_neg hs]
    refine ⟨c :: l, List.nodup_cons.2 ⟨fun hc => hs ((h3 c).2 hc), h1⟩, by simp [h2], fun c' => ?_⟩
    by_cases e : c' = c
    · subst e; rw [setK_some]; simp
    · rw [setK_isSome _ _ _ _ e, h3]; simp [e]
theorem Card.drop {M : Key → Option Int} {n : Nat} (h : Card M n) (c : Key) : Card (setK M c none) (if (M c).isSome then n - 1 else n) := by
  obtain ⟨l, h1, h2, h3⟩ := h
  by_cases hs : (M c).isSome = true
  · rw [if_pos hs]
    have hc : c ∈ l := (h3 c).1 hs
    refine ⟨l.erase c, h1.erase c, by rw [List.length_erase_of_mem hc, h2], fun c' => ?_⟩
    by_cases e : c' = c
    · subst e; rw [setK_none]; simp [h1.mem_erase_iff]
    · rw [setK_isSome _ _ _ _ e, h3, h1.mem_erase_iff]; simp [e]
  · rw [if_neg hs]
    refine ⟨l, h1, h2, fun c' => ?_⟩
    by_cases e : c' = c
    · subst e; rw [setK_none, ← h3]; simp [hs]
    · rw [setK_isSome _ _ _ _ e, h3]

/-- keys put one behind the other, each with its value -/
def putAll (f : Key → Int) (ks : List Key) : Key → Option Int := ks.foldl (fun M c => setK M c (some (f c))) (fun _ => none)
theorem putAll_snoc (f : Key → Int) (ks : List Key) (c : Key) : putAll f (ks ++ [c]) = setK (putAll f ks) c (some (f c)) := by simp [putAll]
theorem foldl_put (f : Key → Int) (ks : List Key) (c : Key) : ∀ M : Key → Option Int, (ks.foldl (fun M c => setK M c (some (f c))) M) c = if c ∈ ks then some (f c) else M c := by
  induction ks with
  | nil => intro M; simp
  | cons k ks ih =>
    intro M
    rw [List.foldl_cons, ih]
    by_cases h : c ∈ ks
    · rw [if_pos h, if_pos (List.mem_cons_of_mem _ h)]
    · rw [if_neg h]
      unfold setK
      by_cases e : c = k
      · subst e; simp
      · simp [e, h]
theorem putAll_eq (f : Key → Int) (ks : List Key) (c : Key) : putAll f ks c = if c ∈ ks then some (f c) else none := foldl_put f ks c _
theorem putAll_get (f : Key → Int) (ks : List Key) (c : Key) (h : c ∈ ks) : getV (putAll f ks) c = f c ∧ getE (putAll f ks) c = 0 := by
  unfold getV getE; rw [putAll_eq, if_pos h]; exact ⟨rfl, rfl⟩
theorem putAll_some (f : Key → Int) (ks : List Key) (c : Key) : (putAll f ks c).isSome = true ↔ c ∈ ks := by
  rw [putAll_eq]; by_cases h : c ∈ ks <;> simp [h]
end Go.Proofs.Ytdalnhhenahcjaa
