/- Layer 4: the contract of Xor; operations that nobody made. -/
import Derived.Test.YtoegenacjhmicaaGreatOperF
namespace Go.Proofs.YtoegenacjhmicaaGreat
open Go.RowKit HP NP
/-- nil, or operations of no store -/
def NoOps (w : World) (a : Option Addr) : Prop := a = none ∨ ∃ q, a = some ⟨q, 0, none⟩ ∧ Blk w q 56 #[.pointer none, .int .u32 0, .int .i32 0, .int .u32 0, .slice none 0 0, .int .i64 0]
theorem NoOps.below {w w' : World} {a : Option Addr} (h : NoOps w a) (hb : Below w.heap.size w w') : NoOps w' a := by
  rcases h with h | ⟨q, h, hq⟩
  · exact .inl h
  · exact .inr ⟨q, h, hq.below hb hq.lt⟩
def ArgPost (w : World) (e : Ending) (w' : World) : Prop := e = .returned (.tuple #[.int .i64 0, .int .i64 1]) ∧ Below w.heap.size w w'
set_option maxHeartbeats 800000 in
theorem nomay (w : World) (a : Option Addr) (h : NoOps w a) (la : Option Addr) (n c : Nat) : Calls Tryz.prog 31 #[.pointer a, .slice la n c] w fun e w' => e = .returned (.int .i64 1) ∧ w = w' := by
  rcases h with rfl | ⟨q, rfl, hq⟩
  · go_enter Tryz.func31, Tryz.ntmps31
    go_wp2
    go_ret
    exact ⟨rfl, rfl⟩
  · have c0 : w.cell? ⟨q, 0, none⟩ = some (.pointer none) := hq.cell 0
    have hql := hq.lt
    clear hq
    go_enter Tryz.func31, Tryz.ntmps31
    go_wp2
    go_ret
    exact ⟨rfl, rfl⟩
set_option maxHeartbeats 800000 in
theorem noite (w : World) (o : Option Addr) (h : NoOps w o) (a b c : Int) : Calls Tryz.prog 16 #[.pointer o, .int .i64 a, .int .i64 b, .int .i64 c] w (ArgPost w) := by
  have hbl := (Below.refl w.heap.size w).alloc (Nat.le_refl _) (.cells #[.int .i64 a, .int .i64 b, .int .i64 c] 3)
  have HM := Lib.hid (nomay _ o (h.below hbl) (some ⟨w.heap.size, 0, none⟩) 3 3)
  have HBL := Lib.hid hbl
  clear h hbl
  go_enter Tryz.func16, Tryz.ntmps16
  go_wp2_with fail
  refine HM.out.mono ?_
  rintro e w1 ⟨rfl, rfl⟩
  go_wp2_with fail
  go_ret2
  exact ⟨rfl, HBL.out⟩
set_option maxHeartbeats 800000 in
theorem nonot (w : World) (o : Option Addr) (h : NoOps w o) (a : Int) : Calls Tryz.prog 9 #[.pointer o, .int .i64 a] w (ArgPost w) := by
  have HI := Lib.hid (noite w o h a 0 1)
  clear h
  go_enter Tryz.func9, Tryz.ntmps9
  go_wp2_with fail
  refine HI.out.mono ?_
  rintro e w1 ⟨rfl, hb1⟩
  have HR := Lib.hid hb1
  clear hb1
  go_wp2_with fail
  go_ret2
  exact ⟨rfl, HR.out⟩
set_option maxHeartbeats 800000 in
theorem noand (w : World) (o : Option Addr) (h : NoOps w o) (a b : Int) : Calls Tryz.prog 8 #[.pointer o, .int .i64 a, .int .i64 b] w (ArgPost w) := by
  have HI := Lib.hid (noite w o h a b 0)
  clear h
  go_enter Tryz.func8, Tryz.ntmps8
  go_wp2_with fail
  refine HI.out.mono ?_
  rintro e w1 ⟨rfl, hb1⟩
  have HR := Lib.hid hb1
  clear hb1
  go_wp2_with fail
  go_ret2
  exact ⟨rfl, HR.out⟩
set_option maxHeartbeats 800000 in
theorem noor (w : World) (o : Option Addr) (h : NoOps w o) (a b : Int) : Calls Tryz.prog 7 #[.pointer o, .int .i64 a, .int .i64 b] w (ArgPost w) := by
  have HI := Lib.hid (noite w o h a 1 b)
  clear h
  go_enter Tryz.func7, Tryz.ntmps7
  go_wp2_with fail
  refine HI.out.mono ?_
  rintro e w1 ⟨rfl, hb1⟩
  have HR := Lib.hid hb1
  clear hb1
  go_wp2_with fail
  go_ret2
  exact ⟨rfl, HR.out⟩
end Go.Proofs.YtoegenacjhmicaaGreat
