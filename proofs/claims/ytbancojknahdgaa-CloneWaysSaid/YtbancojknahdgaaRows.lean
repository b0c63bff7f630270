/-
  No cell of these rows narrows 'for every input' (looked for: loops, veiled, ifaces, maps, wideKeys, modest, calm, conditions, laid).
  DERIVED. THE GIVEN ROWS OF THIS SEAT. 13 by the template 'for every input the law returns true; each argument reads behind the call as it read before'; 0 by the template 'total and deterministic' (their statements: YtbancojknahdgaaTotals.lean).
  GIVEN WITH THE SEED: the statements are not yours to turn. If you find one false, say at which input.
  Laid BY PROGRAM, IN A SANDBOX (cutbox-rows.mjs): the forced cells as the released guide's own fill.sh prints them over the translation 05e8ae51ff55f8d3… (all of the seat's roots in one cut). By AI agents, Wed Nov 11 2026. No macro, syntax, notation, axiom, sorry.
-/
import Derived.Test.YtbancojknahdgaaChecked
import GoSem.Claim
import GoSem.ClaimJoined
import GoSem.ClaimMapViews
import Derived.JoinedTies
import Derived.KernelRfl
namespace Go.Proofs.Ytbancojknahdgaa
/- THE CELL 'sum', in the pinned program and in every row, IS THE sha256 OF THE DUMP (.gsa) THAT YtbancojknahdgaaProg.lean LOADS. Nothing in Lean hashes anything: it is a label: what it is worth is what the hold of that sum in a sandbox is worth. -/
noncomputable def Try.pinned : Pinned := { name := "ytbancojknahdgaa", sum := "05e8ae51ff55f8d31949d01f8069004d4e6006fba82d4c253848be240ae38f8b", checked := Try.checked }
namespace Rows
def none {H : Type} : Left H := { results := [], args := [] }

/-- 'osierlaw20.CloneNumbers': WHATEVER THE INPUT: true; the input reads as it did. -/
def cloneNumbersSpec : ChangeSpec := { name := "cloneNumbers", fn := fun _ => fun
  | [d1, d2] => { results := [.lit (.bool true)], args := [d1, d2] }
  | _ => none }
def cloneNumbersRow : OpenClaim := { program := "ytbancojknahdgaa", sum := "05e8ae51ff55f8d31949d01f8069004d4e6006fba82d4c253848be240ae38f8b", func := "osier/osierlaw20.CloneNumbers", spec := "cloneNumbers", unfollowed := true, recurses := true, apart := false }
def CloneNumbersSaid : Prop := cloneNumbersRow.holds Try.pinned (OpenSpec.ofChange cloneNumbersSpec)

/-- ITS FALSE NEIGHBOUR: 'it returns false'. Refute it at one input. -/
def cloneNumbersWrong : ChangeSpec := { name := "cloneNumbers", fn := fun _ => fun
  | [d1, d2] => { results := [.lit (.bool false)], args := [d1, d2] }
  | _ => none }
def CloneNumbersWrongFalsely : Prop := cloneNumbersRow.holds Try.pinned (OpenSpec.ofChange cloneNumbersWrong)

/-- 'osierlaw20.CloneWays': WHATEVER THE INPUT: true; the input reads as it did. -/
def cloneWaysSpec : ChangeSpec := { name := "cloneWays", fn := fun _ => fun
  | [d1, d2, d3] => { results := [.lit (.bool true)], args := [d1, d2, d3] }
  | _ => none }
def cloneWaysRow : OpenClaim := { program := "ytbancojknahdgaa", sum := "05e8ae51ff55f8d31949d01f8069004d4e6006fba82d4c253848be240ae38f8b", func := "osier/osierlaw20.CloneWays", spec := "cloneWays", unfollowed := true, recurses := true, apart := false }
def CloneWaysSaid : Prop := cloneWaysRow.holds Try.pinned (OpenSpec.ofChange cloneWaysSpec)

/-- ITS FALSE NEIGHBOUR: 'it returns false'. Refute it at one input. -/
def cloneWaysWrong : ChangeSpec := { name := "cloneWays", fn := fun _ => fun
  | [d1, d2, d3] => { results := [.lit (.bool false)], args := [d1, d2, d3] }
  | _ => none }
def CloneWaysWrongFalsely : Prop := cloneWaysRow.holds Try.pinned (OpenSpec.ofChange cloneWaysWrong)

/-- 'osierlaw20.CloneEach': WHATEVER THE INPUT: true; the input reads as it did. -/
def cloneEachSpec : ChangeSpec := { name := "cloneEach", fn := fun _ => fun
  | [d1, d2] => { results := [.lit (.bool true)], args := [d1, d2] }
  | _ => none }
def cloneEachRow : OpenClaim := { program := "ytbancojknahdgaa", sum := "05e8ae51ff55f8d31949d01f8069004d4e6006fba82d4c253848be240ae38f8b", func := "osier/osierlaw20.CloneEach", spec := "cloneEach", unfollowed := true, recurses := true, apart := false }
def CloneEachSaid : Prop := cloneEachRow.holds Try.pinned (OpenSpec.ofChange cloneEachSpec)

/-- ITS FALSE NEIGHBOUR: 'it returns false'. Refute it at one input. -/
def cloneEachWrong : ChangeSpec := { name := "cloneEach", fn := fun _ => fun
  | [d1, d2] => { results := [.lit (.bool false)], args := [d1, d2] }
  | _ => none }
def CloneEachWrongFalsely : Prop := cloneEachRow.holds Try.pinned (OpenSpec.ofChange cloneEachWrong)

/-- 'osierlaw20.CloneCounts': WHATEVER THE INPUT: true; the input reads as it did. -/
def cloneCountsSpec : ChangeSpec := { name := "cloneCounts", fn := fun _ => fun
  | [d1, d2] => { results := [.lit (.bool true)], args := [d1, d2] }
  | _ => none }
def cloneCountsRow : OpenClaim := { program := "ytbancojknahdgaa", sum := "05e8ae51ff55f8d31949d01f8069004d4e6006fba82d4c253848be240ae38f8b", func := "osier/osierlaw20.CloneCounts", spec := "cloneCounts", unfollowed := true, recurses := true, apart := false }
def CloneCountsSaid : Prop := cloneCountsRow.holds Try.pinned (OpenSpec.ofChange cloneCountsSpec)

/-- ITS FALSE NEIGHBOUR: 'it returns false'. Refute it at one input. -/
def cloneCountsWrong : ChangeSpec := { name := "cloneCounts", fn := fun _ => fun
  | [d1, d2] => { results := [.lit (.bool false)], args := [d1, d2] }
  | _ => none }
def CloneCountsWrongFalsely : Prop := cloneCountsRow.holds Try.pinned (OpenSpec.ofChange cloneCountsWrong)

/-- 'osierlaw20.CloneDoubles': WHATEVER THE INPUT: true; the input reads as it did. -/
def cloneDoublesSpec : ChangeSpec := { name := "cloneDoubles", fn := fun _ => fun
  | [d1, d2] => { results := [.lit (.bool true)], args := [d1, d2] }
  | _ => none }
def cloneDoublesRow : OpenClaim := { program := "ytbancojknahdgaa", sum := "05e8ae51ff55f8d31949d01f8069004d4e6006fba82d4c253848be240ae38f8b", func := "osier/osierlaw20.CloneDoubles", spec := "cloneDoubles", unfollowed := true, recurses := true, apart := false }
def CloneDoublesSaid : Prop := cloneDoublesRow.holds Try.pinned (OpenSpec.ofChange cloneDoublesSpec)

/-- ITS FALSE NEIGHBOUR: 'it returns false'. Refute it at one input. -/
def cloneDoublesWrong : ChangeSpec := { name := "cloneDoubles", fn := fun _ => fun
  | [d1, d2] => { results := [.lit (.bool false)], args := [d1, d2] }
  | _ => none }
def CloneDoublesWrongFalsely : Prop := cloneDoublesRow.holds Try.pinned (OpenSpec.ofChange cloneDoublesWrong)

/-- 'osierlaw20.CloneNobody': WHATEVER THE INPUT: true; the input reads as it did. -/
def cloneNobodySpec : ChangeSpec := { name := "cloneNobody", fn := fun _ => fun
  | [d1, d2, d3] => { results := [.lit (.bool true)], args := [d1, d2, d3] }
  | _ => none }
def cloneNobodyRow : OpenClaim := { program := "ytbancojknahdgaa", sum := "05e8ae51ff55f8d31949d01f8069004d4e6006fba82d4c253848be240ae38f8b", func := "osier/osierlaw20.CloneNobody", spec := "cloneNobody", unfollowed := true, recurses := true, apart := false }
def CloneNobodySaid : Prop := cloneNobodyRow.holds Try.pinned (OpenSpec.ofChange cloneNobodySpec)

/-- ITS FALSE NEIGHBOUR: 'it returns false'. Refute it at one input. -/
def cloneNobodyWrong : ChangeSpec := { name := "cloneNobody", fn := fun _ => fun
  | [d1, d2, d3] => { results := [.lit (.bool false)], args := [d1, d2, d3] }
  | _ => none }
def CloneNobodyWrongFalsely : Prop := cloneNobodyRow.holds Try.pinned (OpenSpec.ofChange cloneNobodyWrong)

/-- 'osierlaw20.CloneFar': WHATEVER THE INPUT: true; the input reads as it did. -/
def cloneFarSpec : ChangeSpec := { name := "cloneFar", fn := fun _ => fun
  | [d1, d2, d3] => { results := [.lit (.bool true)], args := [d1, d2, d3] }
  | _ => none }
def cloneFarRow : OpenClaim := { program := "ytbancojknahdgaa", sum := "05e8ae51ff55f8d31949d01f8069004d4e6006fba82d4c253848be240ae38f8b", func := "osier/osierlaw20.CloneFar", spec := "cloneFar", unfollowed := true, recurses := true, apart := false }
def CloneFarSaid : Prop := cloneFarRow.holds Try.pinned (OpenSpec.ofChange cloneFarSpec)

/-- ITS FALSE NEIGHBOUR: 'it returns false'. Refute it at one input. -/
def cloneFarWrong : ChangeSpec := { name := "cloneFar", fn := fun _ => fun
  | [d1, d2, d3] => { results := [.lit (.bool false)], args := [d1, d2, d3] }
  | _ => none }
def CloneFarWrongFalsely : Prop := cloneFarRow.holds Try.pinned (OpenSpec.ofChange cloneFarWrong)

/-- 'osierlaw19.CompComps': WHATEVER THE INPUT: true; the input reads as it did. -/
def compCompsSpec : ChangeSpec := { name := "compComps", fn := fun _ => fun
  | [d1, d2, d3] => { results := [.lit (.bool true)], args := [d1, d2, d3] }
  | _ => none }
def compCompsRow : OpenClaim := { program := "ytbancojknahdgaa", sum := "05e8ae51ff55f8d31949d01f8069004d4e6006fba82d4c253848be240ae38f8b", func := "osier/osierlaw19.CompComps", spec := "compComps", unfollowed := true, recurses := true, apart := false }
def CompCompsSaid : Prop := compCompsRow.holds Try.pinned (OpenSpec.ofChange compCompsSpec)

/-- ITS FALSE NEIGHBOUR: 'it returns false'. Refute it at one input. -/
def compCompsWrong : ChangeSpec := { name := "compComps", fn := fun _ => fun
  | [d1, d2, d3] => { results := [.lit (.bool false)], args := [d1, d2, d3] }
  | _ => none }
def CompCompsWrongFalsely : Prop := compCompsRow.holds Try.pinned (OpenSpec.ofChange compCompsWrong)

/-- 'osierlaw19.CompMembers': WHATEVER THE INPUT: true; the input reads as it did. -/
def compMembersSpec : ChangeSpec := { name := "compMembers", fn := fun _ => fun
  | [d] => { results := [.lit (.bool true)], args := [d] }
  | _ => none }
def compMembersRow : OpenClaim := { program := "ytbancojknahdgaa", sum := "05e8ae51ff55f8d31949d01f8069004d4e6006fba82d4c253848be240ae38f8b", func := "osier/osierlaw19.CompMembers", spec := "compMembers", unfollowed := true, recurses := true, apart := false }
def CompMembersSaid : Prop := compMembersRow.holds Try.pinned (OpenSpec.ofChange compMembersSpec)

/-- ITS FALSE NEIGHBOUR: 'it returns false'. Refute it at one input. -/
def compMembersWrong : ChangeSpec := { name := "compMembers", fn := fun _ => fun
  | [d] => { results := [.lit (.bool false)], args := [d] }
  | _ => none }
def CompMembersWrongFalsely : Prop := compMembersRow.holds Try.pinned (OpenSpec.ofChange compMembersWrong)

/-- 'osierlaw19.CompOrder': WHATEVER THE INPUT: true; the input reads as it did. -/
def compOrderSpec : ChangeSpec := { name := "compOrder", fn := fun _ => fun
  | [d1, d2] => { results := [.lit (.bool true)], args := [d1, d2] }
  | _ => none }
def compOrderRow : OpenClaim := { program := "ytbancojknahdgaa", sum := "05e8ae51ff55f8d31949d01f8069004d4e6006fba82d4c253848be240ae38f8b", func := "osier/osierlaw19.CompOrder", spec := "compOrder", unfollowed := true, recurses := true, apart := false }
def CompOrderSaid : Prop := compOrderRow.holds Try.pinned (OpenSpec.ofChange compOrderSpec)

/-- ITS FALSE NEIGHBOUR: 'it returns false'. Refute it at one input. -/
def compOrderWrong : ChangeSpec := { name := "compOrder", fn := fun _ => fun
  | [d1, d2] => { results := [.lit (.bool false)], args := [d1, d2] }
  | _ => none }
def CompOrderWrongFalsely : Prop := compOrderRow.holds Try.pinned (OpenSpec.ofChange compOrderWrong)

/-- 'osierlaw19.CompTwice': WHATEVER THE INPUT: true; the input reads as it did. -/
def compTwiceSpec : ChangeSpec := { name := "compTwice", fn := fun _ => fun
  | [d1, d2, d3] => { results := [.lit (.bool true)], args := [d1, d2, d3] }
  | _ => none }
def compTwiceRow : OpenClaim := { program := "ytbancojknahdgaa", sum := "05e8ae51ff55f8d31949d01f8069004d4e6006fba82d4c253848be240ae38f8b", func := "osier/osierlaw19.CompTwice", spec := "compTwice", unfollowed := true, recurses := true, apart := false }
def CompTwiceSaid : Prop := compTwiceRow.holds Try.pinned (OpenSpec.ofChange compTwiceSpec)

/-- ITS FALSE NEIGHBOUR: 'it returns false'. Refute it at one input. -/
def compTwiceWrong : ChangeSpec := { name := "compTwice", fn := fun _ => fun
  | [d1, d2, d3] => { results := [.lit (.bool false)], args := [d1, d2, d3] }
  | _ => none }
def CompTwiceWrongFalsely : Prop := compTwiceRow.holds Try.pinned (OpenSpec.ofChange compTwiceWrong)

/-- 'osierlaw19.CompRing': WHATEVER THE INPUT: true; the input reads as it did. -/
def compRingSpec : ChangeSpec := { name := "compRing", fn := fun _ => fun
  | [d1, d2] => { results := [.lit (.bool true)], args := [d1, d2] }
  | _ => none }
def compRingRow : OpenClaim := { program := "ytbancojknahdgaa", sum := "05e8ae51ff55f8d31949d01f8069004d4e6006fba82d4c253848be240ae38f8b", func := "osier/osierlaw19.CompRing", spec := "compRing", unfollowed := true, recurses := true, apart := false }
def CompRingSaid : Prop := compRingRow.holds Try.pinned (OpenSpec.ofChange compRingSpec)

/-- ITS FALSE NEIGHBOUR: 'it returns false'. Refute it at one input. -/
def compRingWrong : ChangeSpec := { name := "compRing", fn := fun _ => fun
  | [d1, d2] => { results := [.lit (.bool false)], args := [d1, d2] }
  | _ => none }
def CompRingWrongFalsely : Prop := compRingRow.holds Try.pinned (OpenSpec.ofChange compRingWrong)

/-- 'osierlaw19.CompMore': WHATEVER THE INPUT: true; the input reads as it did. -/
def compMoreSpec : ChangeSpec := { name := "compMore", fn := fun _ => fun
  | [d1, d2, d3] => { results := [.lit (.bool true)], args := [d1, d2, d3] }
  | _ => none }
def compMoreRow : OpenClaim := { program := "ytbancojknahdgaa", sum := "05e8ae51ff55f8d31949d01f8069004d4e6006fba82d4c253848be240ae38f8b", func := "osier/osierlaw19.CompMore", spec := "compMore", unfollowed := true, recurses := true, apart := false }
def CompMoreSaid : Prop := compMoreRow.holds Try.pinned (OpenSpec.ofChange compMoreSpec)

/-- ITS FALSE NEIGHBOUR: 'it returns false'. Refute it at one input. -/
def compMoreWrong : ChangeSpec := { name := "compMore", fn := fun _ => fun
  | [d1, d2, d3] => { results := [.lit (.bool false)], args := [d1, d2, d3] }
  | _ => none }
def CompMoreWrongFalsely : Prop := compMoreRow.holds Try.pinned (OpenSpec.ofChange compMoreWrong)

/- THE SECOND FORM. 'bulk': how many values and letters a reading holds, each counted each time it is reached (what is shared counts as often as it is met; a slice's spare places count too). A statement '..UptoSaid' is the law's where the arguments, and the package variables that the reading takes, are together of bulk at most 1048576: NARROWER than '..Said'. Prove '..Said' where nothing that the law and all that it calls make is longer than what came in: it says more and counts as full. Else prove '..UptoSaid'. A law counts once. -/
mutual
def uptoBulk {H : Type} : DataW H → Nat
  | .lit (.string bytes) => bytes.length + 1
  | .lit _ => 1
  | .nil => 1
  | .ptr d => uptoBulk d + 1
  | .slice elems spare => uptoBulkAll elems + uptoBulkAll spare + 1
  | .agg parts => uptoBulkAll parts + 1
  | .iface _ d => uptoBulk d + 1
  | .map entries => uptoBulkEntries entries + 1
  | .held _ => 1
def uptoBulkAll {H : Type} : List (DataW H) → Nat
  | [] => 0
  | d :: r => uptoBulk d + uptoBulkAll r
def uptoBulkEntries {H : Type} : List (Lit × DataW H) → Nat
  | [] => 0
  | x :: r => uptoBulkEntry x + uptoBulkEntries r
def uptoBulkEntry {H : Type} : Lit × DataW H → Nat
  | (.string bytes, d) => bytes.length + uptoBulk d + 1
  | (_, d) => uptoBulk d + 1
 end
def uptoSmall : (H : Type) → List (DataW H) → Bool := fun _ ds => decide (uptoBulkAll ds ≤ 1048576)
def OpenSpec.upto (s : _root_.Go.ChangeSpec) : _root_.Go.OpenSpec := { _root_.Go.OpenSpec.ofChange s with cond := some uptoSmall }

/-- 'osierlaw20.CloneNumbers', WHERE WHAT IT READS IS OF BULK AT MOST 1048576: true; the input reads as it did. -/
def cloneNumbersUptoRow : OpenClaim := { program := "ytbancojknahdgaa", sum := "05e8ae51ff55f8d31949d01f8069004d4e6006fba82d4c253848be240ae38f8b", func := "osier/osierlaw20.CloneNumbers", spec := "cloneNumbers", unfollowed := true, recurses := true, apart := false, narrowed := true }
def CloneNumbersUptoSaid : Prop := cloneNumbersUptoRow.holds Try.pinned (OpenSpec.upto cloneNumbersSpec)

/-- 'osierlaw20.CloneWays', WHERE WHAT IT READS IS OF BULK AT MOST 1048576: true; the input reads as it did. -/
def cloneWaysUptoRow : OpenClaim := { program := "ytbancojknahdgaa", sum := "05e8ae51ff55f8d31949d01f8069004d4e6006fba82d4c253848be240ae38f8b", func := "osier/osierlaw20.CloneWays", spec := "cloneWays", unfollowed := true, recurses := true, apart := false, narrowed := true }
def CloneWaysUptoSaid : Prop := cloneWaysUptoRow.holds Try.pinned (OpenSpec.upto cloneWaysSpec)

/-- 'osierlaw20.CloneEach', WHERE WHAT IT READS IS OF BULK AT MOST 1048576: true; the input reads as it did. -/
def cloneEachUptoRow : OpenClaim := { program := "ytbancojknahdgaa", sum := "05e8ae51ff55f8d31949d01f8069004d4e6006fba82d4c253848be240ae38f8b", func := "osier/osierlaw20.CloneEach", spec := "cloneEach", unfollowed := true, recurses := true, apart := false, narrowed := true }
def CloneEachUptoSaid : Prop := cloneEachUptoRow.holds Try.pinned (OpenSpec.upto cloneEachSpec)

/-- 'osierlaw20.CloneCounts', WHERE WHAT IT READS IS OF BULK AT MOST 1048576: true; the input reads as it did. -/
def cloneCountsUptoRow : OpenClaim := { program := "ytbancojknahdgaa", sum := "05e8ae51ff55f8d31949d01f8069004d4e6006fba82d4c253848be240ae38f8b", func := "osier/osierlaw20.CloneCounts", spec := "cloneCounts", unfollowed := true, recurses := true, apart := false, narrowed := true }
def CloneCountsUptoSaid : Prop := cloneCountsUptoRow.holds Try.pinned (OpenSpec.upto cloneCountsSpec)

/-- 'osierlaw20.CloneDoubles', WHERE WHAT IT READS IS OF BULK AT MOST 1048576: true; the input reads as it did. -/
def cloneDoublesUptoRow : OpenClaim := { program := "ytbancojknahdgaa", sum := "05e8ae51ff55f8d31949d01f8069004d4e6006fba82d4c253848be240ae38f8b", func := "osier/osierlaw20.CloneDoubles", spec := "cloneDoubles", unfollowed := true, recurses := true, apart := false, narrowed := true }
def CloneDoublesUptoSaid : Prop := cloneDoublesUptoRow.holds Try.pinned (OpenSpec.upto cloneDoublesSpec)

/-- 'osierlaw20.CloneNobody', WHERE WHAT IT READS IS OF BULK AT MOST 1048576: true; the input reads as it did. -/
def cloneNobodyUptoRow : OpenClaim := { program := "ytbancojknahdgaa", sum := "05e8ae51ff55f8d31949d01f8069004d4e6006fba82d4c253848be240ae38f8b", func := "osier/osierlaw20.CloneNobody", spec := "cloneNobody", unfollowed := true, recurses := true, apart := false, narrowed := true }
def CloneNobodyUptoSaid : Prop := cloneNobodyUptoRow.holds Try.pinned (OpenSpec.upto cloneNobodySpec)

/-- 'osierlaw20.CloneFar', WHERE WHAT IT READS IS OF BULK AT MOST 1048576: true; the input reads as it did. -/
def cloneFarUptoRow : OpenClaim := { program := "ytbancojknahdgaa", sum := "05e8ae51ff55f8d31949d01f8069004d4e6006fba82d4c253848be240ae38f8b", func := "osier/osierlaw20.CloneFar", spec := "cloneFar", unfollowed := true, recurses := true, apart := false, narrowed := true }
def CloneFarUptoSaid : Prop := cloneFarUptoRow.holds Try.pinned (OpenSpec.upto cloneFarSpec)

/-- 'osierlaw19.CompComps', WHERE WHAT IT READS IS OF BULK AT MOST 1048576: true; the input reads as it did. -/
def compCompsUptoRow : OpenClaim := { program := "ytbancojknahdgaa", sum := "05e8ae51ff55f8d31949d01f8069004d4e6006fba82d4c253848be240ae38f8b", func := "osier/osierlaw19.CompComps", spec := "compComps", unfollowed := true, recurses := true, apart := false, narrowed := true }
def CompCompsUptoSaid : Prop := compCompsUptoRow.holds Try.pinned (OpenSpec.upto compCompsSpec)

/-- 'osierlaw19.CompMembers', WHERE WHAT IT READS IS OF BULK AT MOST 1048576: true; the input reads as it did. -/
def compMembersUptoRow : OpenClaim := { program := "ytbancojknahdgaa", sum := "05e8ae51ff55f8d31949d01f8069004d4e6006fba82d4c253848be240ae38f8b", func := "osier/osierlaw19.CompMembers", spec := "compMembers", unfollowed := true, recurses := true, apart := false, narrowed := true }
def CompMembersUptoSaid : Prop := compMembersUptoRow.holds Try.pinned (OpenSpec.upto compMembersSpec)

/-- 'osierlaw19.CompOrder', WHERE WHAT IT READS IS OF BULK AT MOST 1048576: true; the input reads as it did. -/
def compOrderUptoRow : OpenClaim := { program := "ytbancojknahdgaa", sum := "05e8ae51ff55f8d31949d01f8069004d4e6006fba82d4c253848be240ae38f8b", func := "osier/osierlaw19.CompOrder", spec := "compOrder", unfollowed := true, recurses := true, apart := false, narrowed := true }
def CompOrderUptoSaid : Prop := compOrderUptoRow.holds Try.pinned (OpenSpec.upto compOrderSpec)

/-- 'osierlaw19.CompTwice', WHERE WHAT IT READS IS OF BULK AT MOST 1048576: true; the input reads as it did. -/
def compTwiceUptoRow : OpenClaim := { program := "ytbancojknahdgaa", sum := "05e8ae51ff55f8d31949d01f8069004d4e6006fba82d4c253848be240ae38f8b", func := "osier/osierlaw19.CompTwice", spec := "compTwice", unfollowed := true, recurses := true, apart := false, narrowed := true }
def CompTwiceUptoSaid : Prop := compTwiceUptoRow.holds Try.pinned (OpenSpec.upto compTwiceSpec)

/-- 'osierlaw19.CompRing', WHERE WHAT IT READS IS OF BULK AT MOST 1048576: true; the input reads as it did. -/
def compRingUptoRow : OpenClaim := { program := "ytbancojknahdgaa", sum := "05e8ae51ff55f8d31949d01f8069004d4e6006fba82d4c253848be240ae38f8b", func := "osier/osierlaw19.CompRing", spec := "compRing", unfollowed := true, recurses := true, apart := false, narrowed := true }
def CompRingUptoSaid : Prop := compRingUptoRow.holds Try.pinned (OpenSpec.upto compRingSpec)

/-- 'osierlaw19.CompMore', WHERE WHAT IT READS IS OF BULK AT MOST 1048576: true; the input reads as it did. -/
def compMoreUptoRow : OpenClaim := { program := "ytbancojknahdgaa", sum := "05e8ae51ff55f8d31949d01f8069004d4e6006fba82d4c253848be240ae38f8b", func := "osier/osierlaw19.CompMore", spec := "compMore", unfollowed := true, recurses := true, apart := false, narrowed := true }
def CompMoreUptoSaid : Prop := compMoreUptoRow.holds Try.pinned (OpenSpec.upto compMoreSpec)

end Rows
end Go.Proofs.Ytbancojknahdgaa
