/- Tables made by a law itself (Tab): the calls of layer 2 in the form in which the laws use them; awake of osierlaw02. -/
import Derived.Test.YtdalnhhenahcjaaHashD
namespace Go.Proofs.Ytdalnhhenahcjaa
open Go.RowKit HP

/-- of what was there in w0 nothing has turned; block p, made since, is a table with the keys of M, n of them -/
def Tab (w0 w : World) (p : Nat) (M : Key → Option Int) (n : Nat) : Prop := ∃ g, HashAt w p g M n ∧ Below w0.heap.size w0 w ∧ w0.heap.size ≤ p ∧ w0.heap.size ≤ g
theorem Tab.below {w0 w w' : World} {p : Nat} {M : Key → Option Int} {n : Nat} (h : Tab w0 w p M n) (hb : Below w.heap.size w w') : Tab w0 w' p M n := by
  obtain ⟨g, h1, h2, h3, h4⟩ := h
  exact ⟨g, h1.below hb, h2.trans (hb.mono h2.size), h3, h4⟩
theorem Tab.bel {w0 w : World} {p : Nat} {M : Key → Option Int} {n : Nat} (h : Tab w0 w p M n) : Below w0.heap.size w0 w := by obtain ⟨g, h1, h2, h3, h4⟩ := h; exact h2
theorem Tab.lt {w0 w : World} {p : Nat} {M : Key → Option Int} {n : Nat} (h : Tab w0 w p M n) : p < w.heap.size := by obtain ⟨g, h1, h2, h3, h4⟩ := h; exact h1.lts.1
theorem Only.tab {w0 w w' : World} {p g : Nat} (h : Only (fun i => i = p ∨ i = g) w w') (hb : Below w0.heap.size w0 w) (hp : w0.heap.size ≤ p) (hg : w0.heap.size ≤ g) : Below w0.heap.size w0 w' :=
  hb.trans (h.below (fun k hk _ h => by rcases h with h | h <;> omega) hb.size)
theorem tnew (w0 w : World) (hb : Below w0.heap.size w0 w) : Calls Try.prog 15 #[] w fun e w' => ∃ p, e = .returned (.pointer (some ⟨p, 0, none⟩)) ∧ Tab w0 w' p (fun _ => none) 0 ∧ w.heap.size ≤ p ∧ Below w.heap.size w w' :=
  (new_ok w).mono fun _ _ ⟨p, g, he, ha, hb2, hp, hg⟩ => ⟨p, he, ⟨g, ha, hb.trans (hb2.mono hb.size), Nat.le_trans hb.size hp, Nat.le_trans hb.size hg⟩, hp, hb2⟩
theorem tput (w0 w : World) (p : Nat) (M : Key → Option Int) (n : Nat) (c : Key) (v : Int) (h : Tab w0 w p M n) (hn : n < 1048576) :
    Calls Try.prog 17 #[.pointer (some ⟨p, 0, none⟩), .agg #[.int .i64 c.1, .int .i64 c.2.1, .int .i64 c.2.2], .int .i64 v] w fun e w' => e = .returned (.int .i64 0) ∧ Tab w0 w' p (setK M c (some v)) (if (M c).isSome then n else n + 1) := by
  obtain ⟨g, h1, h2, h3, h4⟩ := h
  refine (put_ok w p g M n c v h1).mono fun e w' ⟨g', ho, hg, hh⟩ => ?_
  rcases hh with ⟨hf, _⟩ | ⟨_, he, ha⟩
  · exact absurd hf.2 (by omega)
  · refine ⟨he, g', ha, ho.tab h2 h3 h4, h3, ?_⟩
    rcases hg with rfl | hg
    · exact h4
    · exact Nat.le_trans h2.size hg
theorem tget (w0 w : World) (p : Nat) (M : Key → Option Int) (n : Nat) (c : Key) (h : Tab w0 w p M n) :
    Calls Try.prog 18 #[.pointer (some ⟨p, 0, none⟩), .agg #[.int .i64 c.1, .int .i64 c.2.1, .int .i64 c.2.2]] w fun e w' => e = .returned (.tuple #[.int .i64 (getV M c), .int .i64 (getE M c)]) ∧ Tab w0 w' p M n := by
  obtain ⟨g, h1, h2, h3, h4⟩ := h
  exact (get_ok w p g M n c h1).mono fun e w' ⟨he, hb⟩ => ⟨he, g, h1.below hb, h2.trans (hb.mono h2.size), h3, h4⟩
theorem tdrop (w0 w : World) (p : Nat) (M : Key → Option Int) (n : Nat) (c : Key) (h : Tab w0 w p M n) :
    Calls Try.prog 21 #[.pointer (some ⟨p, 0, none⟩), .agg #[.int .i64 c.1, .int .i64 c.2.1, .int .i64 c.2.2]] w fun e w' => e = .returned (.bool (M c).isSome) ∧ Tab w0 w' p (setK M c none) (if (M c).isSome then n - 1 else n) := by
  obtain ⟨g, h1, h2, h3, h4⟩ := h
  exact (drop_ok w p g M n c h1).mono fun e w' ⟨he, ha, ho⟩ => ⟨he, g, ha, ho.tab h2 h3 h4, h3, h4⟩
theorem tclear (w0 w : World) (p : Nat) (M : Key → Option Int) (n : Nat) (h : Tab w0 w p M n) :
    Calls Try.prog 20 #[.pointer (some ⟨p, 0, none⟩)] w fun e w' => e = .returned (.int .i64 0) ∧ Tab w0 w' p (fun _ => none) 0 := by
  obtain ⟨g, h1, h2, h3, h4⟩ := h
  refine (clear_ok w p g M n h1).mono fun e w' ⟨g', he, ha, ho, hg⟩ => ⟨he, g', ha, ho.tab h2 h3 h4, h3, ?_⟩
  rcases hg with rfl | hg
  · exact h4
  · exact Nat.le_trans h2.size hg
theorem tlen (w0 w : World) (p : Nat) (M : Key → Option Int) (n : Nat) (h : Tab w0 w p M n) :
    Calls Try.prog 19 #[.pointer (some ⟨p, 0, none⟩)] w fun e w' => e = .returned (.int .i64 (n : Int)) ∧ w = w' := by
  obtain ⟨g, h1, _⟩ := h
  exact len_ok w p g M n h1

/-- a law's end -/
def Fine (w : World) (e : Ending) (w' : World) : Prop := e = .returned (.bool true) ∧ Below w.heap.size w w'

def k123 : Key := (1, 2, 3)
def k321 : Key := (3, 2, 1)
theorem get123 : getV (setK (fun _ => none) k123 (some 7)) k123 = 7 ∧ getE (setK (fun _ => none) k123 (some 7)) k123 = 0 ∧ getE (setK (fun _ => none) k123 (some 7)) k321 = 3 := by decide +kernel
set_option maxRecDepth 100000 in
set_option maxHeartbeats 1000000 in
theorem awake02 (w : World) : Calls Try.prog 16 #[] w (Fine w) := by
  obtain ⟨g1, g2, g3⟩ := get123
  have G1 := Lib.hid g1; have G2 := Lib.hid g2; have G3 := Lib.hid g3; clear g1 g2 g3
  go_enter Try.func16, Try.ntmps16
  go_wp2_with fail
  refine (tnew w w (Below.refl _ _)).mono ?_
  rintro e w1 ⟨p, rfl, h1, _, _⟩
  go_wp2_with fail
  refine (tput w w1 p _ _ k123 7 h1 (by decide)).mono ?_
  rintro e w2 ⟨rfl, h2⟩
  go_wp2_with fail
  refine (tget w w2 p _ _ k123 h2).mono ?_
  rintro e w3 ⟨rfl, h3⟩
  rw [G1.out, G2.out]
  go_wp2_with fail
  refine (tget w w3 p _ _ k321 h3).mono ?_
  rintro e w4 ⟨rfl, h4⟩
  rw [G3.out]
  go_wp2_with fail
  refine (tlen w w4 p _ _ h4).mono ?_
  rintro e w5 ⟨rfl, rfl⟩
  go_wp2_with fail
  go_ret
  exact ⟨rfl, h4.bel⟩
end Go.Proofs.Ytdalnhhenahcjaa
