/- Arrays of ints compared: what '==' on [3]int says (the library has structs alone). -/
import Derived.Test.YtdalnhhenahcjaaBase
namespace Go.Proofs.Ytdalnhhenahcjaa
open Go.RowKit

theorem run_part_int {P : Program} {E : TypeId} {k : IntKind} (hE : P.underlying E = some (.int k)) (cs : Array Value) (off : Nat) (v : Value) (h : cs[off]? = some v) (w : World) : (part E cs off).run P w = .ok v w := by
  simp [part, isAgg, run_underlying hE, h]
theorem run_eq_arr3 {P : Program} {T E : TypeId} {i : TypeInfo} (hT : P.underlying T = some (.array 3 E)) (hE : P.underlying E = some (.int .i64)) (hi : P.info? E = some i) (hs : i.size = 1)
    (a b c a' b' c' : Int) (w : World) :
    (Op.equalIn 10000 T (.agg #[.int .i64 a, .int .i64 b, .int .i64 c]) (.agg #[.int .i64 a', .int .i64 b', .int .i64 c'])).run P w = .ok (a == a' && (b == b' && c == c')) w := by
  have h : ∀ x y w, (Op.equalIn 9999 E (.int .i64 x) (.int .i64 y)).run P w = .ok (x == y) w := fun x y w => run_equalIn_int w 9998 E .i64 .i64 x y hE
  have p0 : ∀ (u v x : Value) w, (part E #[u, v, x] 0).run P w = .ok u w := fun u v x w => run_part_int hE _ _ _ rfl w
  have p1 : ∀ (u v x : Value) w, (part E #[u, v, x] 1).run P w = .ok v w := fun u v x w => run_part_int hE _ _ _ rfl w
  have p2 : ∀ (u v x : Value) w, (part E #[u, v, x] 2).run P w = .ok x w := fun u v x w => run_part_int hE _ _ _ rfl w
  rw [Op.equalIn]
  simp [run_underlying hT, sizeOf, typeInfo, hi, hs, Std.Legacy.Range.forIn_eq_forIn_range', List.range', h, p0, p1, p2]
  by_cases e1 : a = a' <;> by_cases e2 : b = b' <;> by_cases e3 : c = c' <;> simp [e1, e2, e3]
theorem int_info : (Try.prog.info? 3).map (fun i => (i.zero, i.size, i.bytes)) = some (some (.int .i64 0), 1, 8) := by kernel_rfl
theorem eq_arr3 (a b c a' b' c' : Int) (w : World) : (Op.equalIn 10000 26 (.agg #[.int .i64 a, .int .i64 b, .int .i64 c]) (.agg #[.int .i64 a', .int .i64 b', .int .i64 c'])).run Try.prog w = .ok (a == a' && (b == b' && c == c')) w := by
  obtain ⟨i, hi, _, h1, _⟩ := info_parts int_info
  exact run_eq_arr3 Try.underlying26 Try.underlying3 hi h1 a b c a' b' c' w
theorem guard_arr3 (x y : Operand) (xs ys : Array Value) (w : World) : (eqGuard .eql 26 x y (.agg xs) (.agg ys)).run Try.prog w = .ok () w := run_eqGuard_agg w .eql _ x y xs ys (by kernel_rfl)
end Go.Proofs.Ytdalnhhenahcjaa
