/-
  No cell of these rows narrows 'for every input' (looked for: loops, veiled, ifaces, maps, wideKeys, modest, calm, conditions, laid).
  DERIVED. THE GIVEN ROWS OF THIS SEAT. 9 by the template 'for every input the law returns true; each argument reads behind the call as it read before'; 0 by the template 'total and deterministic' (their statements: YtoegenacjhmicaaTotals.lean).
  GIVEN WITH THE SEED: the statements are not yours to turn. If you find one false, say at which input.
  Laid BY PROGRAM, IN A SANDBOX (cutbox-rows.mjs): the forced cells as the released guide's own fill.sh prints them over the translation 659097901440e3fc… (all of the seat's roots in one cut). By AI agents, Wed Nov 11 2026. No macro, syntax, notation, axiom, sorry.
-/
import Derived.Test.YtoegenacjhmicaaChecked
import GoSem.Claim
import GoSem.ClaimJoined
import GoSem.ClaimMapViews
import Derived.JoinedTies
import Derived.KernelRfl
namespace Go.Proofs.Ytoegenacjhmicaa
/- THE CELL 'sum', in the pinned program and in every row, IS THE sha256 OF THE DUMP (.gsa) THAT YtoegenacjhmicaaProg.lean LOADS. Nothing in Lean hashes anything: it is a label: what it is worth is what the hold of that sum in a sandbox is worth. -/
noncomputable def Try.pinned : Pinned := { name := "ytoegenacjhmicaa", sum := "659097901440e3fc9656672fedf5795ddd41111f54cb26b10be8784a996bd1be", checked := Try.checked }
namespace Rows
def none {H : Type} : Left H := { results := [], args := [] }

/-- 'osierlaw05.QuanRenames': WHATEVER THE INPUT: true; the input reads as it did. -/
def quanRenamesSpec : ChangeSpec := { name := "quanRenames", fn := fun _ => fun
  | [d1, d2] => { results := [.lit (.bool true)], args := [d1, d2] }
  | _ => none }
def quanRenamesRow : OpenClaim := { program := "ytoegenacjhmicaa", sum := "659097901440e3fc9656672fedf5795ddd41111f54cb26b10be8784a996bd1be", func := "osier/osierlaw05.QuanRenames", spec := "quanRenames", inPlace := ["sync/atomic.AddInt64", "sync/atomic.LoadUint32", "(*internal/sync.Mutex).Lock", "internal/race.Disable", "sync/atomic.CompareAndSwapInt32", "internal/race.Enable", "internal/race.Acquire", "(*internal/sync.Mutex).lockSlow", "internal/sync.runtime_canSpin", "internal/sync.runtime_doSpin", "internal/sync.throw", "internal/sync.runtime_nanotime", "internal/sync.runtime_SemacquireMutex", "sync/atomic.AddInt32", "(*internal/sync.Mutex).Unlock", "internal/race.ReleaseMerge", "(*internal/sync.Mutex).unlockSlow", "internal/sync.fatal", "internal/sync.runtime_Semrelease", "sync/atomic.StoreUint32", "sync/atomic.LoadInt64"], unfollowed := true, recurses := true, plainKeys := false, apart := false }
def QuanRenamesSaid : Prop := quanRenamesRow.holds Try.pinned (OpenSpec.ofChange quanRenamesSpec)

/-- ITS FALSE NEIGHBOUR: 'it returns false'. Refute it at one input. -/
def quanRenamesWrong : ChangeSpec := { name := "quanRenames", fn := fun _ => fun
  | [d1, d2] => { results := [.lit (.bool false)], args := [d1, d2] }
  | _ => none }
def QuanRenamesWrongFalsely : Prop := quanRenamesRow.holds Try.pinned (OpenSpec.ofChange quanRenamesWrong)

/-- 'osierlaw05.QuanNobody': WHATEVER THE INPUT: true; the input reads as it did. -/
def quanNobodySpec : ChangeSpec := { name := "quanNobody", fn := fun _ => fun
  | [d1, d2, d3] => { results := [.lit (.bool true)], args := [d1, d2, d3] }
  | _ => none }
def quanNobodyRow : OpenClaim := { program := "ytoegenacjhmicaa", sum := "659097901440e3fc9656672fedf5795ddd41111f54cb26b10be8784a996bd1be", func := "osier/osierlaw05.QuanNobody", spec := "quanNobody", inPlace := ["sync/atomic.AddInt64", "sync/atomic.LoadUint32", "(*internal/sync.Mutex).Lock", "internal/race.Disable", "sync/atomic.CompareAndSwapInt32", "internal/race.Enable", "internal/race.Acquire", "(*internal/sync.Mutex).lockSlow", "internal/sync.runtime_canSpin", "internal/sync.runtime_doSpin", "internal/sync.throw", "internal/sync.runtime_nanotime", "internal/sync.runtime_SemacquireMutex", "sync/atomic.AddInt32", "(*internal/sync.Mutex).Unlock", "internal/race.ReleaseMerge", "(*internal/sync.Mutex).unlockSlow", "internal/sync.fatal", "internal/sync.runtime_Semrelease", "sync/atomic.StoreUint32", "sync/atomic.LoadInt64"], unfollowed := true, recurses := true, plainKeys := false, apart := false }
def QuanNobodySaid : Prop := quanNobodyRow.holds Try.pinned (OpenSpec.ofChange quanNobodySpec)

/-- ITS FALSE NEIGHBOUR: 'it returns false'. Refute it at one input. -/
def quanNobodyWrong : ChangeSpec := { name := "quanNobody", fn := fun _ => fun
  | [d1, d2, d3] => { results := [.lit (.bool false)], args := [d1, d2, d3] }
  | _ => none }
def QuanNobodyWrongFalsely : Prop := quanNobodyRow.holds Try.pinned (OpenSpec.ofChange quanNobodyWrong)

/-- 'osierlaw06.CountAsks': WHATEVER THE INPUT: true; the input reads as it did. -/
def countAsksSpec : ChangeSpec := { name := "countAsks", fn := fun _ => fun
  | [d] => { results := [.lit (.bool true)], args := [d] }
  | _ => none }
def countAsksRow : OpenClaim := { program := "ytoegenacjhmicaa", sum := "659097901440e3fc9656672fedf5795ddd41111f54cb26b10be8784a996bd1be", func := "osier/osierlaw06.CountAsks", spec := "countAsks", inPlace := ["sync/atomic.AddInt64"], unfollowed := true, recurses := true, plainKeys := false, apart := false }
def CountAsksSaid : Prop := countAsksRow.holds Try.pinned (OpenSpec.ofChange countAsksSpec)

/-- ITS FALSE NEIGHBOUR: 'it returns false'. Refute it at one input. -/
def countAsksWrong : ChangeSpec := { name := "countAsks", fn := fun _ => fun
  | [d] => { results := [.lit (.bool false)], args := [d] }
  | _ => none }
def CountAsksWrongFalsely : Prop := countAsksRow.holds Try.pinned (OpenSpec.ofChange countAsksWrong)

/-- 'osierlaw06.CountCubes': WHATEVER THE INPUT: true; the input reads as it did. -/
def countCubesSpec : ChangeSpec := { name := "countCubes", fn := fun _ => fun
  | [d] => { results := [.lit (.bool true)], args := [d] }
  | _ => none }
def countCubesRow : OpenClaim := { program := "ytoegenacjhmicaa", sum := "659097901440e3fc9656672fedf5795ddd41111f54cb26b10be8784a996bd1be", func := "osier/osierlaw06.CountCubes", spec := "countCubes", inPlace := ["sync/atomic.AddInt64"], unfollowed := true, recurses := true, plainKeys := false, apart := false }
def CountCubesSaid : Prop := countCubesRow.holds Try.pinned (OpenSpec.ofChange countCubesSpec)

/-- ITS FALSE NEIGHBOUR: 'it returns false'. Refute it at one input. -/
def countCubesWrong : ChangeSpec := { name := "countCubes", fn := fun _ => fun
  | [d] => { results := [.lit (.bool false)], args := [d] }
  | _ => none }
def CountCubesWrongFalsely : Prop := countCubesRow.holds Try.pinned (OpenSpec.ofChange countCubesWrong)

/-- 'osierlaw06.CountFirst': WHATEVER THE INPUT: true; the input reads as it did. -/
def countFirstSpec : ChangeSpec := { name := "countFirst", fn := fun _ => fun
  | [d] => { results := [.lit (.bool true)], args := [d] }
  | _ => none }
def countFirstRow : OpenClaim := { program := "ytoegenacjhmicaa", sum := "659097901440e3fc9656672fedf5795ddd41111f54cb26b10be8784a996bd1be", func := "osier/osierlaw06.CountFirst", spec := "countFirst", inPlace := ["sync/atomic.AddInt64"], unfollowed := true, recurses := true, plainKeys := false, apart := false }
def CountFirstSaid : Prop := countFirstRow.holds Try.pinned (OpenSpec.ofChange countFirstSpec)

/-- ITS FALSE NEIGHBOUR: 'it returns false'. Refute it at one input. -/
def countFirstWrong : ChangeSpec := { name := "countFirst", fn := fun _ => fun
  | [d] => { results := [.lit (.bool false)], args := [d] }
  | _ => none }
def CountFirstWrongFalsely : Prop := countFirstRow.holds Try.pinned (OpenSpec.ofChange countFirstWrong)

/-- 'osierlaw06.CountSat': WHATEVER THE INPUT: true; the input reads as it did. -/
def countSatSpec : ChangeSpec := { name := "countSat", fn := fun _ => fun
  | [d] => { results := [.lit (.bool true)], args := [d] }
  | _ => none }
def countSatRow : OpenClaim := { program := "ytoegenacjhmicaa", sum := "659097901440e3fc9656672fedf5795ddd41111f54cb26b10be8784a996bd1be", func := "osier/osierlaw06.CountSat", spec := "countSat", inPlace := ["sync/atomic.AddInt64"], unfollowed := true, recurses := true, plainKeys := false, apart := false }
def CountSatSaid : Prop := countSatRow.holds Try.pinned (OpenSpec.ofChange countSatSpec)

/-- ITS FALSE NEIGHBOUR: 'it returns false'. Refute it at one input. -/
def countSatWrong : ChangeSpec := { name := "countSat", fn := fun _ => fun
  | [d] => { results := [.lit (.bool false)], args := [d] }
  | _ => none }
def CountSatWrongFalsely : Prop := countSatRow.holds Try.pinned (OpenSpec.ofChange countSatWrong)

/-- 'osierlaw06.CountTurned': WHATEVER THE INPUT: true; the input reads as it did. -/
def countTurnedSpec : ChangeSpec := { name := "countTurned", fn := fun _ => fun
  | [d1, d2] => { results := [.lit (.bool true)], args := [d1, d2] }
  | _ => none }
def countTurnedRow : OpenClaim := { program := "ytoegenacjhmicaa", sum := "659097901440e3fc9656672fedf5795ddd41111f54cb26b10be8784a996bd1be", func := "osier/osierlaw06.CountTurned", spec := "countTurned", inPlace := ["sync/atomic.AddInt64"], unfollowed := true, recurses := true, plainKeys := false, apart := false }
def CountTurnedSaid : Prop := countTurnedRow.holds Try.pinned (OpenSpec.ofChange countTurnedSpec)

/-- ITS FALSE NEIGHBOUR: 'it returns false'. Refute it at one input. -/
def countTurnedWrong : ChangeSpec := { name := "countTurned", fn := fun _ => fun
  | [d1, d2] => { results := [.lit (.bool false)], args := [d1, d2] }
  | _ => none }
def CountTurnedWrongFalsely : Prop := countTurnedRow.holds Try.pinned (OpenSpec.ofChange countTurnedWrong)

/-- 'osierlaw06.CountMany': WHATEVER THE INPUT: true; the input reads as it did. -/
def countManySpec : ChangeSpec := { name := "countMany", fn := fun _ => fun
  | [d] => { results := [.lit (.bool true)], args := [d] }
  | _ => none }
def countManyRow : OpenClaim := { program := "ytoegenacjhmicaa", sum := "659097901440e3fc9656672fedf5795ddd41111f54cb26b10be8784a996bd1be", func := "osier/osierlaw06.CountMany", spec := "countMany", inPlace := ["sync/atomic.AddInt64"], unfollowed := true, recurses := true, plainKeys := false, apart := false }
def CountManySaid : Prop := countManyRow.holds Try.pinned (OpenSpec.ofChange countManySpec)

/-- ITS FALSE NEIGHBOUR: 'it returns false'. Refute it at one input. -/
def countManyWrong : ChangeSpec := { name := "countMany", fn := fun _ => fun
  | [d] => { results := [.lit (.bool false)], args := [d] }
  | _ => none }
def CountManyWrongFalsely : Prop := countManyRow.holds Try.pinned (OpenSpec.ofChange countManyWrong)

/-- 'osierlaw06.CountNobody': WHATEVER THE INPUT: true; the input reads as it did. -/
def countNobodySpec : ChangeSpec := { name := "countNobody", fn := fun _ => fun
  | [d1, d2, d3] => { results := [.lit (.bool true)], args := [d1, d2, d3] }
  | _ => none }
def countNobodyRow : OpenClaim := { program := "ytoegenacjhmicaa", sum := "659097901440e3fc9656672fedf5795ddd41111f54cb26b10be8784a996bd1be", func := "osier/osierlaw06.CountNobody", spec := "countNobody", inPlace := ["sync/atomic.AddInt64"], unfollowed := true, recurses := true, plainKeys := false, apart := false }
def CountNobodySaid : Prop := countNobodyRow.holds Try.pinned (OpenSpec.ofChange countNobodySpec)

/-- ITS FALSE NEIGHBOUR: 'it returns false'. Refute it at one input. -/
def countNobodyWrong : ChangeSpec := { name := "countNobody", fn := fun _ => fun
  | [d1, d2, d3] => { results := [.lit (.bool false)], args := [d1, d2, d3] }
  | _ => none }
def CountNobodyWrongFalsely : Prop := countNobodyRow.holds Try.pinned (OpenSpec.ofChange countNobodyWrong)

/- THE SECOND FORM. 'bulk': how many values and letters a reading holds, each counted each time it is reached (what is shared counts as often as it is met; a slice's spare places count too). A statement '..UptoSaid' is the law's where the arguments, and the package variables that the reading takes, are together of bulk at most 1048576: NARROWER than '..Said'. Prove '..Said' where nothing that the law and all that it calls make is longer than what came in: it says more and counts as full. Else prove '..UptoSaid'. A law counts once. -/
mutual
def uptoBulk {H : Type} : DataW H → Nat
  | .lit (.string bytes) => bytes.length + 1
  | .lit _ => 1
  | .nil => 1
  | .ptr d => uptoBulk d + 1
  | .slice elems spare => uptoBulkAll elems + uptoBulkAll spare + 1
  | .agg parts => uptoBulkAll parts + 1
  | .iface _ d => uptoBulk d + 1
  | .map entries => uptoBulkEntries entries + 1
  | .held _ => 1
def uptoBulkAll {H : Type} : List (DataW H) → Nat
  | [] => 0
  | d :: r => uptoBulk d + uptoBulkAll r
def uptoBulkEntries {H : Type} : List (Lit × DataW H) → Nat
  | [] => 0
  | x :: r => uptoBulkEntry x + uptoBulkEntries r
def uptoBulkEntry {H : Type} : Lit × DataW H → Nat
  | (.string bytes, d) => bytes.length + uptoBulk d + 1
  | (_, d) => uptoBulk d + 1
 end
def uptoSmall : (H : Type) → List (DataW H) → Bool := fun _ ds => decide (uptoBulkAll ds ≤ 1048576)
def OpenSpec.upto (s : _root_.Go.ChangeSpec) : _root_.Go.OpenSpec := { _root_.Go.OpenSpec.ofChange s with cond := some uptoSmall }

/-- 'osierlaw05.QuanRenames', WHERE WHAT IT READS IS OF BULK AT MOST 1048576: true; the input reads as it did. -/
def quanRenamesUptoRow : OpenClaim := { program := "ytoegenacjhmicaa", sum := "659097901440e3fc9656672fedf5795ddd41111f54cb26b10be8784a996bd1be", func := "osier/osierlaw05.QuanRenames", spec := "quanRenames", inPlace := ["sync/atomic.AddInt64", "sync/atomic.LoadUint32", "(*internal/sync.Mutex).Lock", "internal/race.Disable", "sync/atomic.CompareAndSwapInt32", "internal/race.Enable", "internal/race.Acquire", "(*internal/sync.Mutex).lockSlow", "internal/sync.runtime_canSpin", "internal/sync.runtime_doSpin", "internal/sync.throw", "internal/sync.runtime_nanotime", "internal/sync.runtime_SemacquireMutex", "sync/atomic.AddInt32", "(*internal/sync.Mutex).Unlock", "internal/race.ReleaseMerge", "(*internal/sync.Mutex).unlockSlow", "internal/sync.fatal", "internal/sync.runtime_Semrelease", "sync/atomic.StoreUint32", "sync/atomic.LoadInt64"], unfollowed := true, recurses := true, plainKeys := false, apart := false, narrowed := true }
def QuanRenamesUptoSaid : Prop := quanRenamesUptoRow.holds Try.pinned (OpenSpec.upto quanRenamesSpec)

/-- 'osierlaw05.QuanNobody', WHERE WHAT IT READS IS OF BULK AT MOST 1048576: true; the input reads as it did. -/
def quanNobodyUptoRow : OpenClaim := { program := "ytoegenacjhmicaa", sum := "659097901440e3fc9656672fedf5795ddd41111f54cb26b10be8784a996bd1be", func := "osier/osierlaw05.QuanNobody", spec := "quanNobody", inPlace := ["sync/atomic.AddInt64", "sync/atomic.LoadUint32", "(*internal/sync.Mutex).Lock", "internal/race.Disable", "sync/atomic.CompareAndSwapInt32", "internal/race.Enable", "internal/race.Acquire", "(*internal/sync.Mutex).lockSlow", "internal/sync.runtime_canSpin", "internal/sync.runtime_doSpin", "internal/sync.throw", "internal/sync.runtime_nanotime", "internal/sync.runtime_SemacquireMutex", "sync/atomic.AddInt32", "(*internal/sync.Mutex).Unlock", "internal/race.ReleaseMerge", "(*internal/sync.Mutex).unlockSlow", "internal/sync.fatal", "internal/sync.runtime_Semrelease", "sync/atomic.StoreUint32", "sync/atomic.LoadInt64"], unfollowed := true, recurses := true, plainKeys := false, apart := false, narrowed := true }
def QuanNobodyUptoSaid : Prop := quanNobodyUptoRow.holds Try.pinned (OpenSpec.upto quanNobodySpec)

/-- 'osierlaw06.CountAsks', WHERE WHAT IT READS IS OF BULK AT MOST 1048576: true; the input reads as it did. -/
def countAsksUptoRow : OpenClaim := { program := "ytoegenacjhmicaa", sum := "659097901440e3fc9656672fedf5795ddd41111f54cb26b10be8784a996bd1be", func := "osier/osierlaw06.CountAsks", spec := "countAsks", inPlace := ["sync/atomic.AddInt64"], unfollowed := true, recurses := true, plainKeys := false, apart := false, narrowed := true }
def CountAsksUptoSaid : Prop := countAsksUptoRow.holds Try.pinned (OpenSpec.upto countAsksSpec)

/-- 'osierlaw06.CountCubes', WHERE WHAT IT READS IS OF BULK AT MOST 1048576: true; the input reads as it did. -/
def countCubesUptoRow : OpenClaim := { program := "ytoegenacjhmicaa", sum := "659097901440e3fc9656672fedf5795ddd41111f54cb26b10be8784a996bd1be", func := "osier/osierlaw06.CountCubes", spec := "countCubes", inPlace := ["sync/atomic.AddInt64"], unfollowed := true, recurses := true, plainKeys := false, apart := false, narrowed := true }
def CountCubesUptoSaid : Prop := countCubesUptoRow.holds Try.pinned (OpenSpec.upto countCubesSpec)

/-- 'osierlaw06.CountFirst', WHERE WHAT IT READS IS OF BULK AT MOST 1048576: true; the input reads as it did. -/
def countFirstUptoRow : OpenClaim := { program := "ytoegenacjhmicaa", sum := "659097901440e3fc9656672fedf5795ddd41111f54cb26b10be8784a996bd1be", func := "osier/osierlaw06.CountFirst", spec := "countFirst", inPlace := ["sync/atomic.AddInt64"], unfollowed := true, recurses := true, plainKeys := false, apart := false, narrowed := true }
def CountFirstUptoSaid : Prop := countFirstUptoRow.holds Try.pinned (OpenSpec.upto countFirstSpec)

/-- 'osierlaw06.CountSat', WHERE WHAT IT READS IS OF BULK AT MOST 1048576: true; the input reads as it did. -/
def countSatUptoRow : OpenClaim := { program := "ytoegenacjhmicaa", sum := "659097901440e3fc9656672fedf5795ddd41111f54cb26b10be8784a996bd1be", func := "osier/osierlaw06.CountSat", spec := "countSat", inPlace := ["sync/atomic.AddInt64"], unfollowed := true, recurses := true, plainKeys := false, apart := false, narrowed := true }
def CountSatUptoSaid : Prop := countSatUptoRow.holds Try.pinned (OpenSpec.upto countSatSpec)

/-- 'osierlaw06.CountTurned', WHERE WHAT IT READS IS OF BULK AT MOST 1048576: true; the input reads as it did. -/
def countTurnedUptoRow : OpenClaim := { program := "ytoegenacjhmicaa", sum := "659097901440e3fc9656672fedf5795ddd41111f54cb26b10be8784a996bd1be", func := "osier/osierlaw06.CountTurned", spec := "countTurned", inPlace := ["sync/atomic.AddInt64"], unfollowed := true, recurses := true, plainKeys := false, apart := false, narrowed := true }
def CountTurnedUptoSaid : Prop := countTurnedUptoRow.holds Try.pinned (OpenSpec.upto countTurnedSpec)

/-- 'osierlaw06.CountMany', WHERE WHAT IT READS IS OF BULK AT MOST 1048576: true; the input reads as it did. -/
def countManyUptoRow : OpenClaim := { program := "ytoegenacjhmicaa", sum := "659097901440e3fc9656672fedf5795ddd41111f54cb26b10be8784a996bd1be", func := "osier/osierlaw06.CountMany", spec := "countMany", inPlace := ["sync/atomic.AddInt64"], unfollowed := true, recurses := true, plainKeys := false, apart := false, narrowed := true }
def CountManyUptoSaid : Prop := countManyUptoRow.holds Try.pinned (OpenSpec.upto countManySpec)

/-- 'osierlaw06.CountNobody', WHERE WHAT IT READS IS OF BULK AT MOST 1048576: true; the input reads as it did. -/
def countNobodyUptoRow : OpenClaim := { program := "ytoegenacjhmicaa", sum := "659097901440e3fc9656672fedf5795ddd41111f54cb26b10be8784a996bd1be", func := "osier/osierlaw06.CountNobody", spec := "countNobody", inPlace := ["sync/atomic.AddInt64"], unfollowed := true, recurses := true, plainKeys := false, apart := false, narrowed := true }
def CountNobodyUptoSaid : Prop := countNobodyUptoRow.holds Try.pinned (OpenSpec.upto countNobodySpec)

end Rows
end Go.Proofs.Ytoegenacjhmicaa
