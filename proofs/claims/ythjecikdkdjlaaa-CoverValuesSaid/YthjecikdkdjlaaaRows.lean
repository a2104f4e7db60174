/-
  NARROWER THAN 'FOR EVERY INPUT', by the rows' own cells (each row's printed sentence says how): CoverNames: loops · CoverWild: loops · CoverLess: loops.
  DERIVED. THE GIVEN ROWS OF THIS SEAT. 6 by the template 'for every input the law returns true; each argument reads behind the call as it read before'; 0 by the template 'total and deterministic' (their statements: YthjecikdkdjlaaaTotals.lean).
  GIVEN WITH THE SEED: the statements are not yours to turn. If you find one false, say at which input.
  Laid BY PROGRAM, IN A SANDBOX (cutbox-rows.mjs): the forced cells as the released guide's own fill.sh prints them over the translation a138016560056162… (all of the seat's roots in one cut). By AI agents, Wed Nov 11 2026. No macro, syntax, notation, axiom, sorry.
-/
import Derived.Test.YthjecikdkdjlaaaChecked
import GoSem.Claim
import GoSem.ClaimJoined
import GoSem.ClaimMapViews
import Derived.JoinedTies
import Derived.KernelRfl
namespace Go.Proofs.Ythjecikdkdjlaaa
/- THE CELL 'sum', in the pinned program and in every row, IS THE sha256 OF THE DUMP (.gsa) THAT YthjecikdkdjlaaaProg.lean LOADS. Nothing in Lean hashes anything: it is a label: what it is worth is what the hold of that sum in a sandbox is worth. -/
noncomputable def Try.pinned : Pinned := { name := "ythjecikdkdjlaaa", sum := "a13801656005616210574b144b95d33fdad6f917a3b52880f724c72b241282db", checked := Try.checked }
namespace Rows
def none {H : Type} : Left H := { results := [], args := [] }

/-- 'aumbrylaw18.CoverNames': WHATEVER THE INPUT: true; the input reads as it did. -/
def coverNamesSpec : ChangeSpec := { name := "coverNames", fn := fun _ => fun
  | [d1, d2, d3] => { results := [.lit (.bool true)], args := [d1, d2, d3] }
  | _ => none }
def coverNamesRow : OpenClaim := { program := "ythjecikdkdjlaaa", sum := "a13801656005616210574b144b95d33fdad6f917a3b52880f724c72b241282db", func := "aumbry/aumbrylaw18.CoverNames", spec := "coverNames", unfollowed := true, recurses := true, loops := true, plainKeys := false, apart := false }
def CoverNamesSaid : Prop := coverNamesRow.holds Try.pinned (OpenSpec.ofChange coverNamesSpec)

/-- ITS FALSE NEIGHBOUR: 'it returns false'. Refute it at one input. -/
def coverNamesWrong : ChangeSpec := { name := "coverNames", fn := fun _ => fun
  | [d1, d2, d3] => { results := [.lit (.bool false)], args := [d1, d2, d3] }
  | _ => none }
def CoverNamesWrongFalsely : Prop := coverNamesRow.holds Try.pinned (OpenSpec.ofChange coverNamesWrong)

/-- 'aumbrylaw18.CoverValues': WHATEVER THE INPUT: true; the input reads as it did. -/
def coverValuesSpec : ChangeSpec := { name := "coverValues", fn := fun _ => fun
  | [d1, d2] => { results := [.lit (.bool true)], args := [d1, d2] }
  | _ => none }
def coverValuesRow : OpenClaim := { program := "ythjecikdkdjlaaa", sum := "a13801656005616210574b144b95d33fdad6f917a3b52880f724c72b241282db", func := "aumbry/aumbrylaw18.CoverValues", spec := "coverValues", unfollowed := true, recurses := true, plainKeys := false, apart := false }
def CoverValuesSaid : Prop := coverValuesRow.holds Try.pinned (OpenSpec.ofChange coverValuesSpec)

/-- ITS FALSE NEIGHBOUR: 'it returns false'. Refute it at one input. -/
def coverValuesWrong : ChangeSpec := { name := "coverValues", fn := fun _ => fun
  | [d1, d2] => { results := [.lit (.bool false)], args := [d1, d2] }
  | _ => none }
def CoverValuesWrongFalsely : Prop := coverValuesRow.holds Try.pinned (OpenSpec.ofChange coverValuesWrong)

/-- 'aumbrylaw18.CoverWild': WHATEVER THE INPUT: true; the input reads as it did. -/
def coverWildSpec : ChangeSpec := { name := "coverWild", fn := fun _ => fun
  | [d] => { results := [.lit (.bool true)], args := [d] }
  | _ => none }
def coverWildRow : OpenClaim := { program := "ythjecikdkdjlaaa", sum := "a13801656005616210574b144b95d33fdad6f917a3b52880f724c72b241282db", func := "aumbry/aumbrylaw18.CoverWild", spec := "coverWild", unfollowed := true, recurses := true, loops := true, plainKeys := false, apart := false }
def CoverWildSaid : Prop := coverWildRow.holds Try.pinned (OpenSpec.ofChange coverWildSpec)

/-- ITS FALSE NEIGHBOUR: 'it returns false'. Refute it at one input. -/
def coverWildWrong : ChangeSpec := { name := "coverWild", fn := fun _ => fun
  | [d] => { results := [.lit (.bool false)], args := [d] }
  | _ => none }
def CoverWildWrongFalsely : Prop := coverWildRow.holds Try.pinned (OpenSpec.ofChange coverWildWrong)

/-- 'aumbrylaw18.CoverLess': WHATEVER THE INPUT: true; the input reads as it did. -/
def coverLessSpec : ChangeSpec := { name := "coverLess", fn := fun _ => fun
  | [d1, d2] => { results := [.lit (.bool true)], args := [d1, d2] }
  | _ => none }
def coverLessRow : OpenClaim := { program := "ythjecikdkdjlaaa", sum := "a13801656005616210574b144b95d33fdad6f917a3b52880f724c72b241282db", func := "aumbry/aumbrylaw18.CoverLess", spec := "coverLess", unfollowed := true, recurses := true, loops := true, plainKeys := false, apart := false }
def CoverLessSaid : Prop := coverLessRow.holds Try.pinned (OpenSpec.ofChange coverLessSpec)

/-- ITS FALSE NEIGHBOUR: 'it returns false'. Refute it at one input. -/
def coverLessWrong : ChangeSpec := { name := "coverLess", fn := fun _ => fun
  | [d1, d2] => { results := [.lit (.bool false)], args := [d1, d2] }
  | _ => none }
def CoverLessWrongFalsely : Prop := coverLessRow.holds Try.pinned (OpenSpec.ofChange coverLessWrong)

/-- 'aumbrylaw18.CoverMany': WHATEVER THE INPUT: true; the input reads as it did. -/
def coverManySpec : ChangeSpec := { name := "coverMany", fn := fun _ => fun
  | [d1, d2] => { results := [.lit (.bool true)], args := [d1, d2] }
  | _ => none }
def coverManyRow : OpenClaim := { program := "ythjecikdkdjlaaa", sum := "a13801656005616210574b144b95d33fdad6f917a3b52880f724c72b241282db", func := "aumbry/aumbrylaw18.CoverMany", spec := "coverMany", unfollowed := true, recurses := true, plainKeys := false, apart := false }
def CoverManySaid : Prop := coverManyRow.holds Try.pinned (OpenSpec.ofChange coverManySpec)

/-- ITS FALSE NEIGHBOUR: 'it returns false'. Refute it at one input. -/
def coverManyWrong : ChangeSpec := { name := "coverMany", fn := fun _ => fun
  | [d1, d2] => { results := [.lit (.bool false)], args := [d1, d2] }
  | _ => none }
def CoverManyWrongFalsely : Prop := coverManyRow.holds Try.pinned (OpenSpec.ofChange coverManyWrong)

/-- 'aumbrylaw18.CoverFits': WHATEVER THE INPUT: true; the input reads as it did. -/
def coverFitsSpec : ChangeSpec := { name := "coverFits", fn := fun _ => fun
  | [d1, d2, d3] => { results := [.lit (.bool true)], args := [d1, d2, d3] }
  | _ => none }
def coverFitsRow : OpenClaim := { program := "ythjecikdkdjlaaa", sum := "a13801656005616210574b144b95d33fdad6f917a3b52880f724c72b241282db", func := "aumbry/aumbrylaw18.CoverFits", spec := "coverFits", unfollowed := true, recurses := true, plainKeys := false, apart := false }
def CoverFitsSaid : Prop := coverFitsRow.holds Try.pinned (OpenSpec.ofChange coverFitsSpec)

/-- ITS FALSE NEIGHBOUR: 'it returns false'. Refute it at one input. -/
def coverFitsWrong : ChangeSpec := { name := "coverFits", fn := fun _ => fun
  | [d1, d2, d3] => { results := [.lit (.bool false)], args := [d1, d2, d3] }
  | _ => none }
def CoverFitsWrongFalsely : Prop := coverFitsRow.holds Try.pinned (OpenSpec.ofChange coverFitsWrong)

/- THE SECOND FORM. 'bulk': how many values and letters a reading holds, each counted each time it is reached (what is shared counts as often as it is met; a slice's spare places count too). A statement '..UptoSaid' is the law's where the arguments, and the package variables that the reading takes, are together of bulk at most 1048576: NARROWER than '..Said'. Prove '..Said' where nothing that the law and all that it calls make is longer than what came in: it says more and counts as full. Else prove '..UptoSaid'. A law counts once. -/
mutual
def uptoBulk {H : Type} : DataW H → Nat
  | .lit (.string bytes) => bytes.length + 1
  | .lit _ => 1
  | .nil => 1
  | .ptr d => uptoBulk d + 1
  | .slice elems spare => uptoBulkAll elems + uptoBulkAll spare + 1
  | .agg parts => uptoBulkAll parts + 1
  | .iface _ d => uptoBulk d + 1
  | .map entries => uptoBulkEntries entries + 1
  | .held _ => 1
def uptoBulkAll {H : Type} : List (DataW H) → Nat
  | [] => 0
  | d :: r => uptoBulk d + uptoBulkAll r
def uptoBulkEntries {H : Type} : List (Lit × DataW H) → Nat
  | [] => 0
  | x :: r => uptoBulkEntry x + uptoBulkEntries r
def uptoBulkEntry {H : Type} : Lit × DataW H → Nat
  | (.string bytes, d) => bytes.length + uptoBulk d + 1
  | (_, d) => uptoBulk d + 1
 end
def uptoSmall : (H : Type) → List (DataW H) → Bool := fun _ ds => decide (uptoBulkAll ds ≤ 1048576)
def OpenSpec.upto (s : _root_.Go.ChangeSpec) : _root_.Go.OpenSpec := { _root_.Go.OpenSpec.ofChange s with cond := some uptoSmall }

/-- 'aumbrylaw18.CoverNames', WHERE WHAT IT READS IS OF BULK AT MOST 1048576: true; the input reads as it did. -/
def coverNamesUptoRow : OpenClaim := { program := "ythjecikdkdjlaaa", sum := "a13801656005616210574b144b95d33fdad6f917a3b52880f724c72b241282db", func := "aumbry/aumbrylaw18.CoverNames", spec := "coverNames", unfollowed := true, recurses := true, loops := true, plainKeys := false, apart := false, narrowed := true }
def CoverNamesUptoSaid : Prop := coverNamesUptoRow.holds Try.pinned (OpenSpec.upto coverNamesSpec)

/-- 'aumbrylaw18.CoverValues', WHERE WHAT IT READS IS OF BULK AT MOST 1048576: true; the input reads as it did. -/
def coverValuesUptoRow : OpenClaim := { program := "ythjecikdkdjlaaa", sum := "a13801656005616210574b144b95d33fdad6f917a3b52880f724c72b241282db", func := "aumbry/aumbrylaw18.CoverValues", spec := "coverValues", unfollowed := true, recurses := true, plainKeys := false, apart := false, narrowed := true }
def CoverValuesUptoSaid : Prop := coverValuesUptoRow.holds Try.pinned (OpenSpec.upto coverValuesSpec)

/-- 'aumbrylaw18.CoverWild', WHERE WHAT IT READS IS OF BULK AT MOST 1048576: true; the input reads as it did. -/
def coverWildUptoRow : OpenClaim := { program := "ythjecikdkdjlaaa", sum := "a13801656005616210574b144b95d33fdad6f917a3b52880f724c72b241282db", func := "aumbry/aumbrylaw18.CoverWild", spec := "coverWild", unfollowed := true, recurses := true, loops := true, plainKeys := false, apart := false, narrowed := true }
def CoverWildUptoSaid : Prop := coverWildUptoRow.holds Try.pinned (OpenSpec.upto coverWildSpec)

/-- 'aumbrylaw18.CoverLess', WHERE WHAT IT READS IS OF BULK AT MOST 1048576: true; the input reads as it did. -/
def coverLessUptoRow : OpenClaim := { program := "ythjecikdkdjlaaa", sum := "a13801656005616210574b144b95d33fdad6f917a3b52880f724c72b241282db", func := "aumbry/aumbrylaw18.CoverLess", spec := "coverLess", unfollowed := true, recurses := true, loops := true, plainKeys := false, apart := false, narrowed := true }
def CoverLessUptoSaid : Prop := coverLessUptoRow.holds Try.pinned (OpenSpec.upto coverLessSpec)

/-- 'aumbrylaw18.CoverMany', WHERE WHAT IT READS IS OF BULK AT MOST 1048576: true; the input reads as it did. -/
def coverManyUptoRow : OpenClaim := { program := "ythjecikdkdjlaaa", sum := "a13801656005616210574b144b95d33fdad6f917a3b52880f724c72b241282db", func := "aumbry/aumbrylaw18.CoverMany", spec := "coverMany", unfollowed := true, recurses := true, plainKeys := false, apart := false, narrowed := true }
def CoverManyUptoSaid : Prop := coverManyUptoRow.holds Try.pinned (OpenSpec.upto coverManySpec)

/-- 'aumbrylaw18.CoverFits', WHERE WHAT IT READS IS OF BULK AT MOST 1048576: true; the input reads as it did. -/
def coverFitsUptoRow : OpenClaim := { program := "ythjecikdkdjlaaa", sum := "a13801656005616210574b144b95d33fdad6f917a3b52880f724c72b241282db", func := "aumbry/aumbrylaw18.CoverFits", spec := "coverFits", unfollowed := true, recurses := true, plainKeys := false, apart := false, narrowed := true }
def CoverFitsUptoSaid : Prop := coverFitsUptoRow.holds Try.pinned (OpenSpec.upto coverFitsSpec)

end Rows
end Go.Proofs.Ythjecikdkdjlaaa
