/- A store of nobody's: what count asks of it (a part of the text NodeO, with fewer imports: NodeG's setM would clash with CountM's). -/
import Derived.Test.YtoegenacjhmicaaNodeC
namespace Go.Proofs.Ytoegenacjhmicaa
open Go.RowKit HP NP
/-- nobody's store -/
def NoSt (w : World) (a : Option Addr) : Prop := a = none ∨ ∃ p, a = some ⟨p, 0, none⟩ ∧ Blk w p 88 #[.int .i64 0, .int .i64 0, .slice none 0 0, .slice none 0 0, .pointer none, .int .i64 0, .int .i64 0, .int .i64 0]
theorem NoSt.below {w w' : World} {a : Option Addr} (h : NoSt w a) (hb : Below w.heap.size w w') : NoSt w' a := by
  rcases h with h | ⟨p, e, h⟩
  · exact .inl h
  · exact .inr ⟨p, e, h.below hb h.lt⟩
theorem ng_given (w : World) (a : Option Addr) (h : NoSt w a) : Calls Try.prog 67 #[.pointer a] w fun e w' => e = .returned (.bool false) ∧ w' = w := by
  rcases h with rfl | ⟨p, rfl, h⟩
  · go_enter Try.func67, Try.ntmps67
    go_wp2
    go_ret
    exact ⟨rfl, rfl⟩
  · have c4 : w.cell? ⟨p, 4, none⟩ = some (.pointer none) := h.cell 4
    clear h
    go_enter Try.func67, Try.ntmps67
    go_wp2
    go_ret
    exact ⟨rfl, rfl⟩
theorem ng_find (w : World) (a : Option Addr) (h : NoSt w a) (k : Int) : Calls Try.prog 68 #[.pointer a, .int .i64 k] w fun e w' => e = .returned (.int .i64 1) ∧ w = w' := by
  have HG := Lib.hid (ng_given w a h)
  clear h
  go_enter Try.func68, Try.ntmps68
  go_wp2_with fail
  refine HG.out.mono ?_
  rintro e w' ⟨rfl, rfl⟩
  go_wp2_with fail
  go_ret
  exact ⟨rfl, rfl⟩
set_option maxRecDepth 100000 in
set_option maxHeartbeats 1000000 in
theorem ng_node (w : World) (a : Option Addr) (h : NoSt w a) (k : Int) : Calls Try.prog 51 #[.pointer a, .int .i64 k] w fun e w' => e = .returned (.tuple #[.int .i64 0, .int .i64 0, .int .i64 0, .int .i64 1]) ∧ w = w' := by
  have HG := Lib.hid (ng_find w a h k)
  clear h
  go_enter Try.func51, Try.ntmps51
  go_wp2_with fail
  refine HG.out.mono ?_
  rintro e w' ⟨rfl, rfl⟩
  go_wp2_with fail
  refine bodyPost_ret (v := .tuple #[.int .i64 0, .int .i64 0, .int .i64 0, .int .i64 1]) (by simp [results, Try.results51, go_sem]) rfl ?_
  exact ⟨rfl, rfl⟩
set_option maxHeartbeats 1000000 in
theorem ng_len (w : World) (a : Option Addr) (h : NoSt w a) : Calls Try.prog 55 #[.pointer a] w fun e w' => e = .returned (.int .i64 0) ∧ w = w' := by
  have HG := Lib.hid (ng_given w a h)
  clear h
  go_enter Try.func55, Try.ntmps55
  go_wp2_with fail
  refine HG.out.mono ?_
  rintro e w' ⟨rfl, rfl⟩
  go_wp2_with fail
  go_ret
  exact ⟨rfl, rfl⟩
end Go.Proofs.Ytoegenacjhmicaa
