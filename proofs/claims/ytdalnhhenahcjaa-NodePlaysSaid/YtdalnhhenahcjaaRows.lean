/-
  No cell of these rows narrows 'for every input' (looked for: loops, veiled, ifaces, maps, wideKeys, modest, calm, conditions, laid).
  DERIVED. THE GIVEN ROWS OF THIS SEAT. 12 by the template 'for every input the law returns true; each argument reads behind the call as it read before'; 0 by the template 'total and deterministic' (their statements: YtdalnhhenahcjaaTotals.lean).
  GIVEN WITH THE SEED: the statements are not yours to turn. If you find one false, say at which input.
  Laid BY PROGRAM, IN A SANDBOX (cutbox-rows.mjs): the forced cells as the released guide's own fill.sh prints them over the translation c9ee9cfb8ead55f4… (all of the seat's roots in one cut). By AI agents, Wed Nov 11 2026. No macro, syntax, notation, axiom, sorry.
-/
import Derived.Test.YtdalnhhenahcjaaChecked
import GoSem.Claim
import GoSem.ClaimJoined
import GoSem.ClaimMapViews
import Derived.JoinedTies
import Derived.KernelRfl
namespace Go.Proofs.Ytdalnhhenahcjaa
/- THE CELL 'sum', in the pinned program and in every row, IS THE sha256 OF THE DUMP (.gsa) THAT YtdalnhhenahcjaaProg.lean LOADS. Nothing in Lean hashes anything: it is a label: what it is worth is what the hold of that sum in a sandbox is worth. -/
noncomputable def Try.pinned : Pinned := { name := "ytdalnhhenahcjaa", sum := "c9ee9cfb8ead55f4a90a56596f4d6af5033a4e80c29fec1cda1a8f7fadef7f1b", checked := Try.checked }
namespace Rows
def none {H : Type} : Left H := { results := [], args := [] }

/-- 'osierlaw02.HashTurns': WHATEVER THE INPUT: true; the input reads as it did. -/
def hashTurnsSpec : ChangeSpec := { name := "hashTurns", fn := fun _ => fun
  | [d1, d2] => { results := [.lit (.bool true)], args := [d1, d2] }
  | _ => none }
def hashTurnsRow : OpenClaim := { program := "ytdalnhhenahcjaa", sum := "c9ee9cfb8ead55f4a90a56596f4d6af5033a4e80c29fec1cda1a8f7fadef7f1b", func := "osier/osierlaw02.HashTurns", spec := "hashTurns", apart := false }
def HashTurnsSaid : Prop := hashTurnsRow.holds Try.pinned (OpenSpec.ofChange hashTurnsSpec)

/-- ITS FALSE NEIGHBOUR: 'it returns false'. Refute it at one input. -/
def hashTurnsWrong : ChangeSpec := { name := "hashTurns", fn := fun _ => fun
  | [d1, d2] => { results := [.lit (.bool false)], args := [d1, d2] }
  | _ => none }
def HashTurnsWrongFalsely : Prop := hashTurnsRow.holds Try.pinned (OpenSpec.ofChange hashTurnsWrong)

/-- 'osierlaw02.HashClears': WHATEVER THE INPUT: true; the input reads as it did. -/
def hashClearsSpec : ChangeSpec := { name := "hashClears", fn := fun _ => fun
  | [d1, d2] => { results := [.lit (.bool true)], args := [d1, d2] }
  | _ => none }
def hashClearsRow : OpenClaim := { program := "ytdalnhhenahcjaa", sum := "c9ee9cfb8ead55f4a90a56596f4d6af5033a4e80c29fec1cda1a8f7fadef7f1b", func := "osier/osierlaw02.HashClears", spec := "hashClears", apart := false }
def HashClearsSaid : Prop := hashClearsRow.holds Try.pinned (OpenSpec.ofChange hashClearsSpec)

/-- ITS FALSE NEIGHBOUR: 'it returns false'. Refute it at one input. -/
def hashClearsWrong : ChangeSpec := { name := "hashClears", fn := fun _ => fun
  | [d1, d2] => { results := [.lit (.bool false)], args := [d1, d2] }
  | _ => none }
def HashClearsWrongFalsely : Prop := hashClearsRow.holds Try.pinned (OpenSpec.ofChange hashClearsWrong)

/-- 'osierlaw02.HashMany': WHATEVER THE INPUT: true; the input reads as it did. -/
def hashManySpec : ChangeSpec := { name := "hashMany", fn := fun _ => fun
  | [d1, d2, d3] => { results := [.lit (.bool true)], args := [d1, d2, d3] }
  | _ => none }
def hashManyRow : OpenClaim := { program := "ytdalnhhenahcjaa", sum := "c9ee9cfb8ead55f4a90a56596f4d6af5033a4e80c29fec1cda1a8f7fadef7f1b", func := "osier/osierlaw02.HashMany", spec := "hashMany", apart := false }
def HashManySaid : Prop := hashManyRow.holds Try.pinned (OpenSpec.ofChange hashManySpec)

/-- ITS FALSE NEIGHBOUR: 'it returns false'. Refute it at one input. -/
def hashManyWrong : ChangeSpec := { name := "hashMany", fn := fun _ => fun
  | [d1, d2, d3] => { results := [.lit (.bool false)], args := [d1, d2, d3] }
  | _ => none }
def HashManyWrongFalsely : Prop := hashManyRow.holds Try.pinned (OpenSpec.ofChange hashManyWrong)

/-- 'osierlaw02.HashApart': WHATEVER THE INPUT: true; the input reads as it did. -/
def hashApartSpec : ChangeSpec := { name := "hashApart", fn := fun _ => fun
  | [d1, d2] => { results := [.lit (.bool true)], args := [d1, d2] }
  | _ => none }
def hashApartRow : OpenClaim := { program := "ytdalnhhenahcjaa", sum := "c9ee9cfb8ead55f4a90a56596f4d6af5033a4e80c29fec1cda1a8f7fadef7f1b", func := "osier/osierlaw02.HashApart", spec := "hashApart", apart := false }
def HashApartSaid : Prop := hashApartRow.holds Try.pinned (OpenSpec.ofChange hashApartSpec)

/-- ITS FALSE NEIGHBOUR: 'it returns false'. Refute it at one input. -/
def hashApartWrong : ChangeSpec := { name := "hashApart", fn := fun _ => fun
  | [d1, d2] => { results := [.lit (.bool false)], args := [d1, d2] }
  | _ => none }
def HashApartWrongFalsely : Prop := hashApartRow.holds Try.pinned (OpenSpec.ofChange hashApartWrong)

/-- 'osierlaw02.HashPlays': WHATEVER THE INPUT: true; the input reads as it did. -/
def hashPlaysSpec : ChangeSpec := { name := "hashPlays", fn := fun _ => fun
  | [d] => { results := [.lit (.bool true)], args := [d] }
  | _ => none }
def hashPlaysRow : OpenClaim := { program := "ytdalnhhenahcjaa", sum := "c9ee9cfb8ead55f4a90a56596f4d6af5033a4e80c29fec1cda1a8f7fadef7f1b", func := "osier/osierlaw02.HashPlays", spec := "hashPlays", apart := false }
def HashPlaysSaid : Prop := hashPlaysRow.holds Try.pinned (OpenSpec.ofChange hashPlaysSpec)

/-- ITS FALSE NEIGHBOUR: 'it returns false'. Refute it at one input. -/
def hashPlaysWrong : ChangeSpec := { name := "hashPlays", fn := fun _ => fun
  | [d] => { results := [.lit (.bool false)], args := [d] }
  | _ => none }
def HashPlaysWrongFalsely : Prop := hashPlaysRow.holds Try.pinned (OpenSpec.ofChange hashPlaysWrong)

/-- 'osierlaw02.HashNobody': WHATEVER THE INPUT: true; the input reads as it did. -/
def hashNobodySpec : ChangeSpec := { name := "hashNobody", fn := fun _ => fun
  | [d1, d2] => { results := [.lit (.bool true)], args := [d1, d2] }
  | _ => none }
def hashNobodyRow : OpenClaim := { program := "ytdalnhhenahcjaa", sum := "c9ee9cfb8ead55f4a90a56596f4d6af5033a4e80c29fec1cda1a8f7fadef7f1b", func := "osier/osierlaw02.HashNobody", spec := "hashNobody", apart := false }
def HashNobodySaid : Prop := hashNobodyRow.holds Try.pinned (OpenSpec.ofChange hashNobodySpec)

/-- ITS FALSE NEIGHBOUR: 'it returns false'. Refute it at one input. -/
def hashNobodyWrong : ChangeSpec := { name := "hashNobody", fn := fun _ => fun
  | [d1, d2] => { results := [.lit (.bool false)], args := [d1, d2] }
  | _ => none }
def HashNobodyWrongFalsely : Prop := hashNobodyRow.holds Try.pinned (OpenSpec.ofChange hashNobodyWrong)

/-- 'osierlaw03.NodeOnce': WHATEVER THE INPUT: true; the input reads as it did. -/
def nodeOnceSpec : ChangeSpec := { name := "nodeOnce", fn := fun _ => fun
  | [d1, d2] => { results := [.lit (.bool true)], args := [d1, d2] }
  | _ => none }
def nodeOnceRow : OpenClaim := { program := "ytdalnhhenahcjaa", sum := "c9ee9cfb8ead55f4a90a56596f4d6af5033a4e80c29fec1cda1a8f7fadef7f1b", func := "osier/osierlaw03.NodeOnce", spec := "nodeOnce", inPlace := ["sync/atomic.AddInt64"], recurses := true, apart := false }
def NodeOnceSaid : Prop := nodeOnceRow.holds Try.pinned (OpenSpec.ofChange nodeOnceSpec)

/-- ITS FALSE NEIGHBOUR: 'it returns false'. Refute it at one input. -/
def nodeOnceWrong : ChangeSpec := { name := "nodeOnce", fn := fun _ => fun
  | [d1, d2] => { results := [.lit (.bool false)], args := [d1, d2] }
  | _ => none }
def NodeOnceWrongFalsely : Prop := nodeOnceRow.holds Try.pinned (OpenSpec.ofChange nodeOnceWrong)

/-- 'osierlaw03.NodeSplits': WHATEVER THE INPUT: true; the input reads as it did. -/
def nodeSplitsSpec : ChangeSpec := { name := "nodeSplits", fn := fun _ => fun
  | [d1, d2] => { results := [.lit (.bool true)], args := [d1, d2] }
  | _ => none }
def nodeSplitsRow : OpenClaim := { program := "ytdalnhhenahcjaa", sum := "c9ee9cfb8ead55f4a90a56596f4d6af5033a4e80c29fec1cda1a8f7fadef7f1b", func := "osier/osierlaw03.NodeSplits", spec := "nodeSplits", inPlace := ["sync/atomic.AddInt64"], recurses := true, apart := false }
def NodeSplitsSaid : Prop := nodeSplitsRow.holds Try.pinned (OpenSpec.ofChange nodeSplitsSpec)

/-- ITS FALSE NEIGHBOUR: 'it returns false'. Refute it at one input. -/
def nodeSplitsWrong : ChangeSpec := { name := "nodeSplits", fn := fun _ => fun
  | [d1, d2] => { results := [.lit (.bool false)], args := [d1, d2] }
  | _ => none }
def NodeSplitsWrongFalsely : Prop := nodeSplitsRow.holds Try.pinned (OpenSpec.ofChange nodeSplitsWrong)

/-- 'osierlaw03.NodeBudget': WHATEVER THE INPUT: true; the input reads as it did. -/
def nodeBudgetSpec : ChangeSpec := { name := "nodeBudget", fn := fun _ => fun
  | [d1, d2] => { results := [.lit (.bool true)], args := [d1, d2] }
  | _ => none }
def nodeBudgetRow : OpenClaim := { program := "ytdalnhhenahcjaa", sum := "c9ee9cfb8ead55f4a90a56596f4d6af5033a4e80c29fec1cda1a8f7fadef7f1b", func := "osier/osierlaw03.NodeBudget", spec := "nodeBudget", inPlace := ["sync/atomic.AddInt64", "sync/atomic.LoadInt64"], recurses := true, apart := false }
def NodeBudgetSaid : Prop := nodeBudgetRow.holds Try.pinned (OpenSpec.ofChange nodeBudgetSpec)

/-- ITS FALSE NEIGHBOUR: 'it returns false'. Refute it at one input. -/
def nodeBudgetWrong : ChangeSpec := { name := "nodeBudget", fn := fun _ => fun
  | [d1, d2] => { results := [.lit (.bool false)], args := [d1, d2] }
  | _ => none }
def NodeBudgetWrongFalsely : Prop := nodeBudgetRow.holds Try.pinned (OpenSpec.ofChange nodeBudgetWrong)

/-- 'osierlaw03.NodeStays': WHATEVER THE INPUT: true; the input reads as it did. -/
def nodeStaysSpec : ChangeSpec := { name := "nodeStays", fn := fun _ => fun
  | [d1, d2] => { results := [.lit (.bool true)], args := [d1, d2] }
  | _ => none }
def nodeStaysRow : OpenClaim := { program := "ytdalnhhenahcjaa", sum := "c9ee9cfb8ead55f4a90a56596f4d6af5033a4e80c29fec1cda1a8f7fadef7f1b", func := "osier/osierlaw03.NodeStays", spec := "nodeStays", inPlace := ["sync/atomic.AddInt64"], recurses := true, apart := false }
def NodeStaysSaid : Prop := nodeStaysRow.holds Try.pinned (OpenSpec.ofChange nodeStaysSpec)

/-- ITS FALSE NEIGHBOUR: 'it returns false'. Refute it at one input. -/
def nodeStaysWrong : ChangeSpec := { name := "nodeStays", fn := fun _ => fun
  | [d1, d2] => { results := [.lit (.bool false)], args := [d1, d2] }
  | _ => none }
def NodeStaysWrongFalsely : Prop := nodeStaysRow.holds Try.pinned (OpenSpec.ofChange nodeStaysWrong)

/-- 'osierlaw03.NodePlays': WHATEVER THE INPUT: true; the input reads as it did. -/
def nodePlaysSpec : ChangeSpec := { name := "nodePlays", fn := fun _ => fun
  | [d1, d2, d3] => { results := [.lit (.bool true)], args := [d1, d2, d3] }
  | _ => none }
def nodePlaysRow : OpenClaim := { program := "ytdalnhhenahcjaa", sum := "c9ee9cfb8ead55f4a90a56596f4d6af5033a4e80c29fec1cda1a8f7fadef7f1b", func := "osier/osierlaw03.NodePlays", spec := "nodePlays", inPlace := ["sync/atomic.AddInt64", "sync/atomic.LoadInt64"], recurses := true, apart := false }
def NodePlaysSaid : Prop := nodePlaysRow.holds Try.pinned (OpenSpec.ofChange nodePlaysSpec)

/-- ITS FALSE NEIGHBOUR: 'it returns false'. Refute it at one input. -/
def nodePlaysWrong : ChangeSpec := { name := "nodePlays", fn := fun _ => fun
  | [d1, d2, d3] => { results := [.lit (.bool false)], args := [d1, d2, d3] }
  | _ => none }
def NodePlaysWrongFalsely : Prop := nodePlaysRow.holds Try.pinned (OpenSpec.ofChange nodePlaysWrong)

/-- 'osierlaw03.NodeNobody': WHATEVER THE INPUT: true; the input reads as it did. -/
def nodeNobodySpec : ChangeSpec := { name := "nodeNobody", fn := fun _ => fun
  | [d1, d2] => { results := [.lit (.bool true)], args := [d1, d2] }
  | _ => none }
def nodeNobodyRow : OpenClaim := { program := "ytdalnhhenahcjaa", sum := "c9ee9cfb8ead55f4a90a56596f4d6af5033a4e80c29fec1cda1a8f7fadef7f1b", func := "osier/osierlaw03.NodeNobody", spec := "nodeNobody", inPlace := ["sync/atomic.AddInt64", "sync/atomic.LoadInt64"], recurses := true, apart := false }
def NodeNobodySaid : Prop := nodeNobodyRow.holds Try.pinned (OpenSpec.ofChange nodeNobodySpec)

/-- ITS FALSE NEIGHBOUR: 'it returns false'. Refute it at one input. -/
def nodeNobodyWrong : ChangeSpec := { name := "nodeNobody", fn := fun _ => fun
  | [d1, d2] => { results := [.lit (.bool false)], args := [d1, d2] }
  | _ => none }
def NodeNobodyWrongFalsely : Prop := nodeNobodyRow.holds Try.pinned (OpenSpec.ofChange nodeNobodyWrong)

/- THE SECOND FORM. 'bulk': how many values and letters a reading holds, each counted each time it is reached (what is shared counts as often as it is met; a slice's spare places count too). A statement '..UptoSaid' is the law's where the arguments, and the package variables that the reading takes, are together of bulk at most 1048576: NARROWER than '..Said'. Prove '..Said' where nothing that the law and all that it calls make is longer than what came in: it says more and counts as full. Else prove '..UptoSaid'. A law counts once. -/
mutual
def uptoBulk {H : Type} : DataW H → Nat
  | .lit (.string bytes) => bytes.length + 1
  | .lit _ => 1
  | .nil => 1
  | .ptr d => uptoBulk d + 1
  | .slice elems spare => uptoBulkAll elems + uptoBulkAll spare + 1
  | .agg parts => uptoBulkAll parts + 1
  | .iface _ d => uptoBulk d + 1
  | .map entries => uptoBulkEntries entries + 1
  | .held _ => 1
def uptoBulkAll {H : Type} : List (DataW H) → Nat
  | [] => 0
  | d :: r => uptoBulk d + uptoBulkAll r
def uptoBulkEntries {H : Type} : List (Lit × DataW H) → Nat
  | [] => 0
  | x :: r => uptoBulkEntry x + uptoBulkEntries r
def uptoBulkEntry {H : Type} : Lit × DataW H → Nat
  | (.string bytes, d) => bytes.length + uptoBulk d + 1
  | (_, d) => uptoBulk d + 1
 end
def uptoSmall : (H : Type) → List (DataW H) → Bool := fun _ ds => decide (uptoBulkAll ds ≤ 1048576)
def OpenSpec.upto (s : _root_.Go.ChangeSpec) : _root_.Go.OpenSpec := { _root_.Go.OpenSpec.ofChange s with cond := some uptoSmall }

/-- 'osierlaw02.HashTurns', WHERE WHAT IT READS IS OF BULK AT MOST 1048576: true; the input reads as it did. -/
def hashTurnsUptoRow : OpenClaim := { program := "ytdalnhhenahcjaa", sum := "c9ee9cfb8ead55f4a90a56596f4d6af5033a4e80c29fec1cda1a8f7fadef7f1b", func := "osier/osierlaw02.HashTurns", spec := "hashTurns", apart := false, narrowed := true }
def HashTurnsUptoSaid : Prop := hashTurnsUptoRow.holds Try.pinned (OpenSpec.upto hashTurnsSpec)

/-- 'osierlaw02.HashClears', WHERE WHAT IT READS IS OF BULK AT MOST 1048576: true; the input reads as it did. -/
def hashClearsUptoRow : OpenClaim := { program := "ytdalnhhenahcjaa", sum := "c9ee9cfb8ead55f4a90a56596f4d6af5033a4e80c29fec1cda1a8f7fadef7f1b", func := "osier/osierlaw02.HashClears", spec := "hashClears", apart := false, narrowed := true }
def HashClearsUptoSaid : Prop := hashClearsUptoRow.holds Try.pinned (OpenSpec.upto hashClearsSpec)

/-- 'osierlaw02.HashMany', WHERE WHAT IT READS IS OF BULK AT MOST 1048576: true; the input reads as it did. -/
def hashManyUptoRow : OpenClaim := { program := "ytdalnhhenahcjaa", sum := "c9ee9cfb8ead55f4a90a56596f4d6af5033a4e80c29fec1cda1a8f7fadef7f1b", func := "osier/osierlaw02.HashMany", spec := "hashMany", apart := false, narrowed := true }
def HashManyUptoSaid : Prop := hashManyUptoRow.holds Try.pinned (OpenSpec.upto hashManySpec)

/-- 'osierlaw02.HashApart', WHERE WHAT IT READS IS OF BULK AT MOST 1048576: true; the input reads as it did. -/
def hashApartUptoRow : OpenClaim := { program := "ytdalnhhenahcjaa", sum := "c9ee9cfb8ead55f4a90a56596f4d6af5033a4e80c29fec1cda1a8f7fadef7f1b", func := "osier/osierlaw02.HashApart", spec := "hashApart", apart := false, narrowed := true }
def HashApartUptoSaid : Prop := hashApartUptoRow.holds Try.pinned (OpenSpec.upto hashApartSpec)

/-- 'osierlaw02.HashPlays', WHERE WHAT IT READS IS OF BULK AT MOST 1048576: true; the input reads as it did. -/
def hashPlaysUptoRow : OpenClaim := { program := "ytdalnhhenahcjaa", sum := "c9ee9cfb8ead55f4a90a56596f4d6af5033a4e80c29fec1cda1a8f7fadef7f1b", func := "osier/osierlaw02.HashPlays", spec := "hashPlays", apart := false, narrowed := true }
def HashPlaysUptoSaid : Prop := hashPlaysUptoRow.holds Try.pinned (OpenSpec.upto hashPlaysSpec)

/-- 'osierlaw02.HashNobody', WHERE WHAT IT READS IS OF BULK AT MOST 1048576: true; the input reads as it did. -/
def hashNobodyUptoRow : OpenClaim := { program := "ytdalnhhenahcjaa", sum := "c9ee9cfb8ead55f4a90a56596f4d6af5033a4e80c29fec1cda1a8f7fadef7f1b", func := "osier/osierlaw02.HashNobody", spec := "hashNobody", apart := false, narrowed := true }
def HashNobodyUptoSaid : Prop := hashNobodyUptoRow.holds Try.pinned (OpenSpec.upto hashNobodySpec)

/-- 'osierlaw03.NodeOnce', WHERE WHAT IT READS IS OF BULK AT MOST 1048576: true; the input reads as it did. -/
def nodeOnceUptoRow : OpenClaim := { program := "ytdalnhhenahcjaa", sum := "c9ee9cfb8ead55f4a90a56596f4d6af5033a4e80c29fec1cda1a8f7fadef7f1b", func := "osier/osierlaw03.NodeOnce", spec := "nodeOnce", inPlace := ["sync/atomic.AddInt64"], recurses := true, apart := false, narrowed := true }
def NodeOnceUptoSaid : Prop := nodeOnceUptoRow.holds Try.pinned (OpenSpec.upto nodeOnceSpec)

/-- 'osierlaw03.NodeSplits', WHERE WHAT IT READS IS OF BULK AT MOST 1048576: true; the input reads as it did. -/
def nodeSplitsUptoRow : OpenClaim := { program := "ytdalnhhenahcjaa", sum := "c9ee9cfb8ead55f4a90a56596f4d6af5033a4e80c29fec1cda1a8f7fadef7f1b", func := "osier/osierlaw03.NodeSplits", spec := "nodeSplits", inPlace := ["sync/atomic.AddInt64"], recurses := true, apart := false, narrowed := true }
def NodeSplitsUptoSaid : Prop := nodeSplitsUptoRow.holds Try.pinned (OpenSpec.upto nodeSplitsSpec)

/-- 'osierlaw03.NodeBudget', WHERE WHAT IT READS IS OF BULK AT MOST 1048576: true; the input reads as it did. -/
def nodeBudgetUptoRow : OpenClaim := { program := "ytdalnhhenahcjaa", sum := "c9ee9cfb8ead55f4a90a56596f4d6af5033a4e80c29fec1cda1a8f7fadef7f1b", func := "osier/osierlaw03.NodeBudget", spec := "nodeBudget", inPlace := ["sync/atomic.AddInt64", "sync/atomic.LoadInt64"], recurses := true, apart := false, narrowed := true }
def NodeBudgetUptoSaid : Prop := nodeBudgetUptoRow.holds Try.pinned (OpenSpec.upto nodeBudgetSpec)

/-- 'osierlaw03.NodeStays', WHERE WHAT IT READS IS OF BULK AT MOST 1048576: true; the input reads as it did. -/
def nodeStaysUptoRow : OpenClaim := { program := "ytdalnhhenahcjaa", sum := "c9ee9cfb8ead55f4a90a56596f4d6af5033a4e80c29fec1cda1a8f7fadef7f1b", func := "osier/osierlaw03.NodeStays", spec := "nodeStays", inPlace := ["sync/atomic.AddInt64"], recurses := true, apart := false, narrowed := true }
def NodeStaysUptoSaid : Prop := nodeStaysUptoRow.holds Try.pinned (OpenSpec.upto nodeStaysSpec)

/-- 'osierlaw03.NodePlays', WHERE WHAT IT READS IS OF BULK AT MOST 1048576: true; the input reads as it did. -/
def nodePlaysUptoRow : OpenClaim := { program := "ytdalnhhenahcjaa", sum := "c9ee9cfb8ead55f4a90a56596f4d6af5033a4e80c29fec1cda1a8f7fadef7f1b", func := "osier/osierlaw03.NodePlays", spec := "nodePlays", inPlace := ["sync/atomic.AddInt64", "sync/atomic.LoadInt64"], recurses := true, apart := false, narrowed := true }
def NodePlaysUptoSaid : Prop := nodePlaysUptoRow.holds Try.pinned (OpenSpec.upto nodePlaysSpec)

/-- 'osierlaw03.NodeNobody', WHERE WHAT IT READS IS OF BULK AT MOST 1048576: true; the input reads as it did. -/
def nodeNobodyUptoRow : OpenClaim := { program := "ytdalnhhenahcjaa", sum := "c9ee9cfb8ead55f4a90a56596f4d6af5033a4e80c29fec1cda1a8f7fadef7f1b", func := "osier/osierlaw03.NodeNobody", spec := "nodeNobody", inPlace := ["sync/atomic.AddInt64", "sync/atomic.LoadInt64"], recurses := true, apart := false, narrowed := true }
def NodeNobodyUptoSaid : Prop := nodeNobodyUptoRow.holds Try.pinned (OpenSpec.upto nodeNobodySpec)

end Rows
end Go.Proofs.Ytdalnhhenahcjaa
