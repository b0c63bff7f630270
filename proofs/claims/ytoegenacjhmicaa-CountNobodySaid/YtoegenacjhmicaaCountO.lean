/- Layer 6: the package count with nobody's store: everything is refused. -/
import Derived.Test.YtoegenacjhmicaaCountX
import Derived.Test.YtoegenacjhmicaaNodeK
namespace Go.Proofs.Ytoegenacjhmicaa
open Go.RowKit HP NP
/-- a refusal: no result, no list -/
abbrev No6 (w : World) (v : Value) (e : Ending) (w' : World) : Prop := e = .returned (.tuple #[v, .int .i64 1]) ∧ Below w.heap.size w w'
theorem no_may (w : World) (a : Option Addr) (h : NoSt w a) (k : Int) : Calls Try.prog 49 #[.pointer a, .int .i64 k] w fun e w' => e = .returned (.int .i64 1) ∧ w = w' := by
  have HA := Lib.hid (ng_node w a h k)
  clear h
  go_enter Try.func49, Try.ntmps49
  go_wp2_with fail
  refine HA.out.mono ?_
  rintro e w1 ⟨rfl, rfl⟩
  go_wp2_with fail
  go_ret
  exact ⟨rfl, rfl⟩
theorem no_asks (w : World) (a : Option Addr) (h : NoSt w a) (k : Int) : Calls Try.prog 23 #[.pointer a, .int .i64 k] w (No6 w (.slice none 0 0)) := by
  have hb1 : Below w.heap.size w (w.alloc (.cells #[.pointer a] 22)) := (Below.refl _ _).alloc (Nat.le_refl _) _
  have HMY := Lib.hid (no_may _ a (h.below hb1) k)
  have HB1 := Lib.hid hb1
  clear h hb1
  go_enter Try.func23, Try.ntmps23
  go_wp2_with fail
  refine HMY.out.mono ?_
  rintro e w1 ⟨rfl, rfl⟩
  go_wp2_with fail
  go_ret2
  exact ⟨rfl, HB1.out⟩
theorem no_within (w : World) (a : Option Addr) (h : NoSt w a) (k : Int) (va : Option Addr) (n c : Nat) : Calls Try.prog 58 #[.pointer a, .int .i64 k, .slice va n c] w fun e w' => e = .returned (.tuple #[.map none, .int .i64 1]) ∧ w = w' := by
  have HA := Lib.hid (ng_len w a h)
  clear h
  go_enter Try.func58, Try.ntmps58
  go_wp2_with fail
  refine HA.out.mono ?_
  rintro e w1 ⟨rfl, rfl⟩
  go_wp2_with fail
  go_ret2
  exact ⟨rfl, rfl⟩
theorem no_sat (w : World) (a : Option Addr) (h : NoSt w a) (k : Int) (va : Option Addr) (n c : Nat) : Calls Try.prog 30 #[.pointer a, .int .i64 k, .slice va n c] w (No6 w (.int .i64 0)) := by
  obtain ⟨w1, hw1⟩ : ∃ w1, w1 = (w.alloc (.cells #[.pointer a] 22)).alloc (.cells #[.slice va n c] 28) := ⟨_, rfl⟩
  have hb1 : Below w.heap.size w w1 := by rw [hw1]; exact ((Below.refl _ _).alloc (Nat.le_refl _) _).alloc (by simp) _
  obtain ⟨sb, hsb⟩ : ∃ sb, sb = w.heap.size := ⟨_, rfl⟩
  obtain ⟨vb, hvb⟩ : ∃ vb, vb = sb + 1 := ⟨_, rfl⟩
  have k1 : Box1 w1 sb (.pointer a) := ⟨_, by rw [hw1, hsb]; exact (Blk.new_ _ _ _).alloc_ _⟩
  have k2 : Box1 w1 vb (.slice va n c) := ⟨28, by
    have h := Blk.new_ (w.alloc (.cells #[.pointer a] 22)) 28 #[.slice va n c]
    rw [World.size_alloc] at h
    rw [hw1, hvb, hsb]; exact h⟩
  have HA := Lib.hid (no_within w1 a (h.below hb1) k va n c)
  have x1 := k1.cell; have x2 := k2.cell
  have HW1 := Lib.hid hw1; have HSB := Lib.hid hsb; have HVB := Lib.hid hvb; have HB1 := Lib.hid hb1
  clear h hw1 hsb hvb hb1 k1 k2
  go_enter Try.func30, Try.ntmps30
  go_upto_region 1 with (fail)
  rw [← HW1.out]
  rw [← HSB.out, ← HVB.out]
  go_wp2_with fail
  refine HA.out.mono ?_
  rintro e w2 ⟨rfl, rfl⟩
  go_wp2_with fail
  go_ret2
  exact ⟨rfl, HB1.out.alloc HB1.out.size _⟩
theorem no_cubes (w : World) (a : Option Addr) (h : NoSt w a) (k most : Int) : Calls Try.prog 26 #[.pointer a, .int .i64 k, .int .i64 most] w (No6 w (.slice none 0 0)) := by
  obtain ⟨w1, hw1⟩ : ∃ w1, w1 = (w.alloc (.cells #[.pointer a] 22)).alloc (.cells #[.int .i64 most] 3) := ⟨_, rfl⟩
  have hb1 : Below w.heap.size w w1 := by rw [hw1]; exact ((Below.refl _ _).alloc (Nat.le_refl _) _).alloc (by simp) _
  obtain ⟨sb, hsb⟩ : ∃ sb, sb = w.heap.size := ⟨_, rfl⟩
  have k1 : Box1 w1 sb (.pointer a) := ⟨_, by rw [hw1, hsb]; exact (Blk.new_ _ _ _).alloc_ _⟩
  have HA := Lib.hid (ng_len w1 a (h.below hb1))
  have x1 := k1.cell
  have HW1 := Lib.hid hw1; have HSB := Lib.hid hsb; have HB1 := Lib.hid hb1
  clear h hw1 hsb hb1 k1
  go_enter Try.func26, Try.ntmps26
  go_upto_region 1 with (fail)
  rw [← HW1.out]
  rw [← HSB.out]
  go_wp2_with fail
  refine HA.out.mono ?_
  rintro e w2 ⟨rfl, rfl⟩
  go_wp2_with fail
  go_ret2
  exact ⟨rfl, HB1.out⟩
theorem no_first (w : World) (a : Option Addr) (h : NoSt w a) (k : Int) : Calls Try.prog 27 #[.pointer a, .int .i64 k] w (No6 w (.slice none 0 0)) := by
  have HMY := Lib.hid (no_may w a h k)
  clear h
  go_enter Try.func27, Try.ntmps27
  go_wp2_with fail
  refine HMY.out.mono ?_
  rintro e w1 ⟨rfl, rfl⟩
  go_wp2_with fail
  go_ret2
  exact ⟨rfl, Below.refl _ _⟩
theorem no_each (w : World) (a : Option Addr) (h : NoSt w a) (k : Int) (va : Option Addr) (n c : Nat) (most : Int) : Calls Try.prog 32 #[.pointer a, .int .i64 k, .slice va n c, .int .i64 most] w (No6 w (.slice none 0 0)) := by
  have HA := Lib.hid (no_sat w a h k va n c)
  clear h
  by_cases h1 : most < 0
  · have d1 : decide (most < 0) = true := decide_eq_true h1
    clear h1
    go_enter Try.func32, Try.ntmps32
    go_wp2_with fail
    go_ret2
    exact ⟨rfl, Below.refl _ _⟩
  have d1 : decide (most < 0) = false := decide_eq_false h1
  by_cases h2 : 16384 < most
  · have d2 : decide (16384 < most) = true := decide_eq_true h2
    clear h1 h2
    go_enter Try.func32, Try.ntmps32
    go_wp2_with fail
    go_ret2
    exact ⟨rfl, Below.refl _ _⟩
  have d2 : decide (16384 < most) = false := decide_eq_false h2
  by_cases h3 : 62 < n
  · have d3 : decide ((62 : Int) < (n : Int)) = true := decide_eq_true (by omega)
    have d3' : decide (62 < n) = true := decide_eq_true h3
    clear h1 h2 h3
    go_enter Try.func32, Try.ntmps32
    go_wp2_with fail
    go_ret2
    exact ⟨rfl, Below.refl _ _⟩
  have d3 : decide ((62 : Int) < (n : Int)) = false := decide_eq_false (by omega)
  have d3' : decide (62 < n) = false := decide_eq_false h3
  clear h1 h2 h3
  go_enter Try.func32, Try.ntmps32
  go_wp2_with fail
  refine HA.out.mono ?_
  rintro e w2 ⟨rfl, hb2⟩
  have HB2 := Lib.hid hb2
  clear hb2
  go_wp2_with fail
  go_ret2
  exact ⟨rfl, HB2.out⟩
end Go.Proofs.Ytoegenacjhmicaa
