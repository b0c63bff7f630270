/- Layer 3: a store that nobody made (nil, or zero): what each call answers. -/
import Derived.Test.YtffkehefkmdadaaNodeV
namespace Go.Proofs.Ytffkehefkmdadaa
open Go.RowKit HP NP
/-- nobody's store -/
def NoSt (w : World) (a : Option Addr) : Prop := a = none ∨ ∃ p, a = some ⟨p, 0, none⟩ ∧ Blk w p 54 #[.int .i64 0, .int .i64 0, .slice none 0 0, .slice none 0 0, .pointer none, .int .i64 0, .int .i64 0, .int .i64 0]
theorem NoSt.below {w w' : World} {a : Option Addr} (h : NoSt w a) (hb : Below w.heap.size w w') : NoSt w' a := by
  rcases h with h | ⟨p, e, h⟩
  · exact .inl h
  · exact .inr ⟨p, e, h.below hb h.lt⟩
theorem ng_given (w : World) (a : Option Addr) (h : NoSt w a) : Calls Try.prog 70 #[.pointer a] w fun e w' => e = .returned (.bool false) ∧ w' = w := by
  rcases h with rfl | ⟨p, rfl, h⟩
  · go_enter Try.func70, Try.ntmps70
    go_wp2
    go_ret
    exact ⟨rfl, rfl⟩
  · have c4 : w.cell? ⟨p, 4, none⟩ = some (.pointer none) := h.cell 4
    clear h
    go_enter Try.func70, Try.ntmps70
    go_wp2
    go_ret
    exact ⟨rfl, rfl⟩
theorem ng_find (w : World) (a : Option Addr) (h : NoSt w a) (k : Int) : Calls Try.prog 77 #[.pointer a, .int .i64 k] w fun e w' => e = .returned (.int .i64 1) ∧ w = w' := by
  have HG := Lib.hid (ng_given w a h)
  clear h
  go_enter Try.func77, Try.ntmps77
  go_wp2_with fail
  refine HG.out.mono ?_
  rintro e w' ⟨rfl, rfl⟩
  go_wp2_with fail
  go_ret
  exact ⟨rfl, rfl⟩
set_option maxRecDepth 100000 in
set_option maxHeartbeats 1000000 in
theorem ng_mk (w : World) (a : Option Addr) (h : NoSt w a) (x y z : Int) : Calls Try.prog 65 #[.pointer a, .int .i64 x, .int .i64 y, .int .i64 z] w fun e w' => e = .returned (.tuple #[.int .i64 0, .int .i64 1]) ∧ Below w.heap.size w w' := by
  have HG := Lib.hid (fun n => ng_given (w.drewN n) a (h.below (bdN' w n)))
  clear h
  go_enter Try.func65, Try.ntmps65
  go_wp2_with fail
  go_quiet ((go_at_call 70; with_reducible exact Calls.quiet_of_same (HG.out _)))
  go_wp2_with fail
  go_ret2
  exact ⟨rfl, bdN' _ _⟩
set_option maxHeartbeats 1000000 in
theorem ng_node (w : World) (a : Option Addr) (h : NoSt w a) (k : Int) : Calls Try.prog 85 #[.pointer a, .int .i64 k] w fun e w' => e = .returned (.tuple #[.int .i64 0, .int .i64 0, .int .i64 0, .int .i64 1]) ∧ w = w' := by
  have HG := Lib.hid (ng_find w a h k)
  clear h
  go_enter Try.func85, Try.ntmps85
  go_wp2_with fail
  refine HG.out.mono ?_
  rintro e w' ⟨rfl, rfl⟩
  go_wp2_with fail
  refine bodyPost_ret (v := .tuple #[.int .i64 0, .int .i64 0, .int .i64 0, .int .i64 1]) (by simp [results, Try.results85, go_sem]) rfl ?_
  exact ⟨rfl, rfl⟩
set_option maxHeartbeats 1000000 in
theorem ng_eval (w : World) (a : Option Addr) (h : NoSt w a) (k : Int) (va : Option Addr) (n c : Nat) : Calls Try.prog 69 #[.pointer a, .int .i64 k, .slice va n c] w fun e w' => e = .returned (.tuple #[.bool false, .int .i64 1]) ∧ w = w' := by
  have HG := Lib.hid (ng_find w a h k)
  clear h
  go_enter Try.func69, Try.ntmps69
  go_wp2_with fail
  refine HG.out.mono ?_
  rintro e w' ⟨rfl, rfl⟩
  go_wp2_with fail
  go_ret2
  exact ⟨rfl, rfl⟩
set_option maxHeartbeats 1000000 in
theorem ng_pin (w : World) (a : Option Addr) (h : NoSt w a) (k : Int) : Calls Try.prog 45 #[.pointer a, .int .i64 k] w fun e w' => e = .returned (.int .i64 1) ∧ w = w' := by
  have HG := Lib.hid (ng_find w a h k)
  clear h
  go_enter Try.func45, Try.ntmps45
  go_wp2_with fail
  refine HG.out.mono ?_
  rintro e w' ⟨rfl, rfl⟩
  go_wp2_with fail
  go_ret
  exact ⟨rfl, rfl⟩
set_option maxHeartbeats 1000000 in
theorem ng_sweep (w : World) (a : Option Addr) (h : NoSt w a) : Calls Try.prog 46 #[.pointer a] w fun e w' => e = .returned (.int .i64 0) ∧ w = w' := by
  have HG := Lib.hid (ng_given w a h)
  clear h
  go_enter Try.func46, Try.ntmps46
  go_wp2_with fail
  refine HG.out.mono ?_
  rintro e w' ⟨rfl, rfl⟩
  go_wp2_with fail
  go_ret
  exact ⟨rfl, rfl⟩
set_option maxHeartbeats 1000000 in
theorem ng_len (w : World) (a : Option Addr) (h : NoSt w a) : Calls Try.prog 35 #[.pointer a] w fun e w' => e = .returned (.int .i64 0) ∧ w = w' := by
  have HG := Lib.hid (ng_given w a h)
  clear h
  go_enter Try.func35, Try.ntmps35
  go_wp2_with fail
  refine HG.out.mono ?_
  rintro e w' ⟨rfl, rfl⟩
  go_wp2_with fail
  go_ret
  exact ⟨rfl, rfl⟩
set_option maxHeartbeats 1000000 in
theorem ng_sweeps (w : World) (a : Option Addr) (h : NoSt w a) : Calls Try.prog 118 #[.pointer a] w fun e w' => e = .returned (.int .i64 0) ∧ w = w' := by
  have HG := Lib.hid (ng_given w a h)
  clear h
  go_enter Try.func118, Try.ntmps118
  go_wp2_with fail
  refine HG.out.mono ?_
  rintro e w' ⟨rfl, rfl⟩
  go_wp2_with fail
  go_ret
  exact ⟨rfl, rfl⟩
set_option maxHeartbeats 1000000 in
theorem ng_vars (w : World) (a : Option Addr) (h : NoSt w a) : Calls Try.prog 71 #[.pointer a] w fun e w' => e = .returned (.int .i64 0) ∧ w = w' := by
  have HG := Lib.hid (ng_given w a h)
  clear h
  go_enter Try.func71, Try.ntmps71
  go_wp2_with fail
  refine HG.out.mono ?_
  rintro e w' ⟨rfl, rfl⟩
  go_wp2_with fail
  go_ret
  exact ⟨rfl, rfl⟩
end Go.Proofs.Ytffkehefkmdadaa
