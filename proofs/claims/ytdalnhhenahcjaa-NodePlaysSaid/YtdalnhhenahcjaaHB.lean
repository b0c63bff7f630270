/- The table of layer 2 as a part of something greater (HB): the calls, with what they may change (Kp). -/
import Derived.Test.YtdalnhhenahcjaaHashD
import Derived.Test.YtdalnhhenahcjaaKp
namespace Go.Proofs.Ytdalnhhenahcjaa
open Go.RowKit HP
def TH (t : TypeId) : Bool := t == 54 || t == 96
/-- block p is a table, made from B on: the keys of M, n of them -/
def HB (w : World) (B p : Nat) (M : Key → Option Int) (n : Nat) : Prop := ∃ g, HashAt w p g M n ∧ B ≤ p ∧ B ≤ g
theorem HashAt.blks {w : World} {p g : Nat} {M : Key → Option Int} {n : Nat} (h : HashAt w p g M n) : (∃ cs, Blk w p 54 cs) ∧ ∃ cs, Blk w g 96 cs := by
  obtain ⟨j, u, L, h⟩ := h
  obtain ⟨cs, hc, _⟩ := h.pls
  exact ⟨⟨_, h.tab⟩, cs, hc⟩
theorem HB.lt {w : World} {B p : Nat} {M : Key → Option Int} {n : Nat} (h : HB w B p M n) : p < w.heap.size := by obtain ⟨g, h, _⟩ := h; exact h.lts.1
theorem HB.most {w : World} {B p : Nat} {M : Key → Option Int} {n : Nat} (h : HB w B p M n) : n ≤ 1048576 := by obtain ⟨g, ⟨j, u, L, h⟩, _⟩ := h; exact h.most
theorem HB.kb {T : TypeId → Bool} {w w' : World} {B p : Nat} {M : Key → Option Int} {n : Nat} (h : HB w B p M n) (hk : Kb T w w') (h1 : T 54 = false) (h2 : T 96 = false) : HB w' B p M n := by
  obtain ⟨g, ha, hp, hg⟩ := h
  obtain ⟨⟨cs, hc⟩, ds, hd⟩ := ha.blks
  refine ⟨g, ha.keep ?_ ?_, hp, hg⟩
  · rw [hc]; exact hk _ _ _ hc h1
  · rw [hd]; exact hk _ _ _ hd h2
theorem HB.kp {T : TypeId → Bool} {B' : Nat} {w w' : World} {B p : Nat} {M : Key → Option Int} {n : Nat} (h : HB w B p M n) (hk : Kp T B' w w') (h1 : T 54 = false) (h2 : T 96 = false) : HB w' B p M n := h.kb hk.kb h1 h2
theorem HB.below {w w' : World} {B p : Nat} {M : Key → Option Int} {n : Nat} (h : HB w B p M n) (hb : Below w.heap.size w w') : HB w' B p M n := h.kp (T := fun _ => false) (B' := 0) (Kp.of_below hb) rfl rfl
theorem HashAt.kp {w w' : World} {B p g : Nat} {M : Key → Option Int} {n : Nat} (h : HashAt w p g M n) (hp : B ≤ p) (hg : B ≤ g) (ho : Only (fun i => i = p ∨ i = g) w w') : Kp TH B w w' := by
  obtain ⟨⟨cs, hc⟩, ds, hd⟩ := h.blks
  refine Only.mono ho ?_
  rintro i _ (rfl | rfl)
  · exact ⟨hp, cs, _, _, hc, rfl⟩
  · exact ⟨hg, ds, _, _, hd, rfl⟩
theorem hb_new (w : World) (B : Nat) (hB : B ≤ w.heap.size) : Calls Try.prog 15 #[] w fun e w' => ∃ p, e = .returned (.pointer (some ⟨p, 0, none⟩)) ∧ HB w' B p (fun _ => none) 0 ∧ Below w.heap.size w w' :=
  (new_ok w).mono fun _ _ ⟨p, g, he, ha, hb2, hp, hg⟩ => ⟨p, he, ⟨g, ha, by omega, by omega⟩, hb2⟩
theorem hb_put (w : World) (B p : Nat) (M : Key → Option Int) (n : Nat) (c : Key) (v : Int) (h : HB w B p M n) (hB : B ≤ w.heap.size) (hn : n < 1048576) :
    Calls Try.prog 17 #[.pointer (some ⟨p, 0, none⟩), .agg #[.int .i64 c.1, .int .i64 c.2.1, .int .i64 c.2.2], .int .i64 v] w fun e w' => e = .returned (.int .i64 0) ∧ HB w' B p (setK M c (some v)) (if (M c).isSome then n else n + 1) ∧ Kp TH B w w' := by
  obtain ⟨g, h1, h3, h4⟩ := h
  refine (put_ok w p g M n c v h1).mono fun e w' ⟨g', ho, hg, hh⟩ => ?_
  rcases hh with ⟨hf, _⟩ | ⟨_, he, ha⟩
  · exact absurd hf.2 (by omega)
  · refine ⟨he, ⟨g', ha, h3, ?_⟩, h1.kp h3 h4 ho⟩
    rcases hg with rfl | hg <;> omega
theorem hb_get (w : World) (B p : Nat) (M : Key → Option Int) (n : Nat) (c : Key) (h : HB w B p M n) :
    Calls Try.prog 18 #[.pointer (some ⟨p, 0, none⟩), .agg #[.int .i64 c.1, .int .i64 c.2.1, .int .i64 c.2.2]] w fun e w' => e = .returned (.tuple #[.int .i64 (getV M c), .int .i64 (getE M c)]) ∧ Below w.heap.size w w' := by
  obtain ⟨g, h1, _⟩ := h
  exact get_ok w p g M n c h1
theorem hb_drop (w : World) (B p : Nat) (M : Key → Option Int) (n : Nat) (c : Key) (h : HB w B p M n) :
    Calls Try.prog 21 #[.pointer (some ⟨p, 0, none⟩), .agg #[.int .i64 c.1, .int .i64 c.2.1, .int .i64 c.2.2]] w fun e w' => e = .returned (.bool (M c).isSome) ∧ HB w' B p (setK M c none) (if (M c).isSome then n - 1 else n) ∧ Kp TH B w w' := by
  obtain ⟨g, h1, h3, h4⟩ := h
  exact (drop_ok w p g M n c h1).mono fun e w' ⟨he, ha, ho⟩ => ⟨he, ⟨g, ha, h3, h4⟩, h1.kp h3 h4 ho⟩
end Go.Proofs.Ytdalnhhenahcjaa
