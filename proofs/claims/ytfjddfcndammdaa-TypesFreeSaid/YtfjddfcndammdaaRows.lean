/-
  NARROWER THAN 'FOR EVERY INPUT', by the rows' own cells (each row's printed sentence says how): TypesMeet: loops · TypesBest: loops · TypesFree: loops · TypesNil: loops · TypesOne: loops.
  DERIVED. THE GIVEN ROWS OF THIS SEAT. 5 by the template 'for every input the law returns true; each argument reads behind the call as it read before'; 0 by the template 'total and deterministic' (their statements: YtfjddfcndammdaaTotals.lean).
  GIVEN WITH THE SEED: the statements are not yours to turn. If you find one false, say at which input.
  Laid BY PROGRAM, IN A SANDBOX (cutbox-rows.mjs): the forced cells as the released guide's own fill.sh prints them over the translation fc7963682057e6bb… (all of the seat's roots in one cut). By AI agents, Wed Nov 11 2026. No macro, syntax, notation, axiom, sorry.
-/
import Derived.Test.YtfjddfcndammdaaChecked
import GoSem.Claim
import GoSem.ClaimJoined
import GoSem.ClaimMapViews
import Derived.JoinedTies
import Derived.KernelRfl
namespace Go.Proofs.Ytfjddfcndammdaa
/- THE CELL 'sum', in the pinned program and in every row, IS THE sha256 OF THE DUMP (.gsa) THAT YtfjddfcndammdaaProg.lean LOADS. Nothing in Lean hashes anything: it is a label: what it is worth is what the hold of that sum in a sandbox is worth. -/
noncomputable def Try.pinned : Pinned := { name := "ytfjddfcndammdaa", sum := "fc7963682057e6bb0ba3b0500eb89ab47e3635eeaa80cc46c439d897eb8a0fe5", checked := Try.checked }
namespace Rows
def none {H : Type} : Left H := { results := [], args := [] }

/-- 'aumbrylaw17.TypesMeet': WHATEVER THE INPUT: true; the input reads as it did. -/
def typesMeetSpec : ChangeSpec := { name := "typesMeet", fn := fun _ => fun
  | [d1, d2, d3, d4] => { results := [.lit (.bool true)], args := [d1, d2, d3, d4] }
  | _ => none }
def typesMeetRow : OpenClaim := { program := "ytfjddfcndammdaa", sum := "fc7963682057e6bb0ba3b0500eb89ab47e3635eeaa80cc46c439d897eb8a0fe5", func := "aumbry/aumbrylaw17.TypesMeet", spec := "typesMeet", unfollowed := true, recurses := true, loops := true, apart := false }
def TypesMeetSaid : Prop := typesMeetRow.holds Try.pinned (OpenSpec.ofChange typesMeetSpec)

/-- ITS FALSE NEIGHBOUR: 'it returns false'. Refute it at one input. -/
def typesMeetWrong : ChangeSpec := { name := "typesMeet", fn := fun _ => fun
  | [d1, d2, d3, d4] => { results := [.lit (.bool false)], args := [d1, d2, d3, d4] }
  | _ => none }
def TypesMeetWrongFalsely : Prop := typesMeetRow.holds Try.pinned (OpenSpec.ofChange typesMeetWrong)

/-- 'aumbrylaw17.TypesBest': WHATEVER THE INPUT: true; the input reads as it did. -/
def typesBestSpec : ChangeSpec := { name := "typesBest", fn := fun _ => fun
  | [d1, d2, d3, d4] => { results := [.lit (.bool true)], args := [d1, d2, d3, d4] }
  | _ => none }
def typesBestRow : OpenClaim := { program := "ytfjddfcndammdaa", sum := "fc7963682057e6bb0ba3b0500eb89ab47e3635eeaa80cc46c439d897eb8a0fe5", func := "aumbry/aumbrylaw17.TypesBest", spec := "typesBest", unfollowed := true, recurses := true, loops := true, apart := false }
def TypesBestSaid : Prop := typesBestRow.holds Try.pinned (OpenSpec.ofChange typesBestSpec)

/-- ITS FALSE NEIGHBOUR: 'it returns false'. Refute it at one input. -/
def typesBestWrong : ChangeSpec := { name := "typesBest", fn := fun _ => fun
  | [d1, d2, d3, d4] => { results := [.lit (.bool false)], args := [d1, d2, d3, d4] }
  | _ => none }
def TypesBestWrongFalsely : Prop := typesBestRow.holds Try.pinned (OpenSpec.ofChange typesBestWrong)

/-- 'aumbrylaw17.TypesFree': WHATEVER THE INPUT: true; the input reads as it did. -/
def typesFreeSpec : ChangeSpec := { name := "typesFree", fn := fun _ => fun
  | [d1, d2, d3] => { results := [.lit (.bool true)], args := [d1, d2, d3] }
  | _ => none }
def typesFreeRow : OpenClaim := { program := "ytfjddfcndammdaa", sum := "fc7963682057e6bb0ba3b0500eb89ab47e3635eeaa80cc46c439d897eb8a0fe5", func := "aumbry/aumbrylaw17.TypesFree", spec := "typesFree", unfollowed := true, recurses := true, loops := true, apart := false }
def TypesFreeSaid : Prop := typesFreeRow.holds Try.pinned (OpenSpec.ofChange typesFreeSpec)

/-- ITS FALSE NEIGHBOUR: 'it returns false'. Refute it at one input. -/
def typesFreeWrong : ChangeSpec := { name := "typesFree", fn := fun _ => fun
  | [d1, d2, d3] => { results := [.lit (.bool false)], args := [d1, d2, d3] }
  | _ => none }
def TypesFreeWrongFalsely : Prop := typesFreeRow.holds Try.pinned (OpenSpec.ofChange typesFreeWrong)

/-- 'aumbrylaw17.TypesNil': WHATEVER THE INPUT: true; the input reads as it did. -/
def typesNilSpec : ChangeSpec := { name := "typesNil", fn := fun _ => fun
  | [d1, d2] => { results := [.lit (.bool true)], args := [d1, d2] }
  | _ => none }
def typesNilRow : OpenClaim := { program := "ytfjddfcndammdaa", sum := "fc7963682057e6bb0ba3b0500eb89ab47e3635eeaa80cc46c439d897eb8a0fe5", func := "aumbry/aumbrylaw17.TypesNil", spec := "typesNil", unfollowed := true, recurses := true, loops := true, apart := false }
def TypesNilSaid : Prop := typesNilRow.holds Try.pinned (OpenSpec.ofChange typesNilSpec)

/-- ITS FALSE NEIGHBOUR: 'it returns false'. Refute it at one input. -/
def typesNilWrong : ChangeSpec := { name := "typesNil", fn := fun _ => fun
  | [d1, d2] => { results := [.lit (.bool false)], args := [d1, d2] }
  | _ => none }
def TypesNilWrongFalsely : Prop := typesNilRow.holds Try.pinned (OpenSpec.ofChange typesNilWrong)

/-- 'aumbrylaw17.TypesOne': WHATEVER THE INPUT: true; the input reads as it did. -/
def typesOneSpec : ChangeSpec := { name := "typesOne", fn := fun _ => fun
  | [d1, d2, d3] => { results := [.lit (.bool true)], args := [d1, d2, d3] }
  | _ => none }
def typesOneRow : OpenClaim := { program := "ytfjddfcndammdaa", sum := "fc7963682057e6bb0ba3b0500eb89ab47e3635eeaa80cc46c439d897eb8a0fe5", func := "aumbry/aumbrylaw17.TypesOne", spec := "typesOne", unfollowed := true, recurses := true, loops := true, apart := false }
def TypesOneSaid : Prop := typesOneRow.holds Try.pinned (OpenSpec.ofChange typesOneSpec)

/-- ITS FALSE NEIGHBOUR: 'it returns false'. Refute it at one input. -/
def typesOneWrong : ChangeSpec := { name := "typesOne", fn := fun _ => fun
  | [d1, d2, d3] => { results := [.lit (.bool false)], args := [d1, d2, d3] }
  | _ => none }
def TypesOneWrongFalsely : Prop := typesOneRow.holds Try.pinned (OpenSpec.ofChange typesOneWrong)

/- THE SECOND FORM. 'bulk': how many values and letters a reading holds, each counted each time it is reached (what is shared counts as often as it is met; a slice's spare places count too). A statement '..UptoSaid' is the law's where the arguments, and the package variables that the reading takes, are together of bulk at most 1048576: NARROWER than '..Said'. Prove '..Said' where nothing that the law and all that it calls make is longer than what came in: it says more and counts as full. Else prove '..UptoSaid'. A law counts once. -/
mutual
def uptoBulk {H : Type} : DataW H → Nat
  | .lit (.string bytes) => bytes.length + 1
  | .lit _ => 1
  | .nil => 1
  | .ptr d => uptoBulk d + 1
  | .slice elems spare => uptoBulkAll elems + uptoBulkAll spare + 1
  | .agg parts => uptoBulkAll parts + 1
  | .iface _ d => uptoBulk d + 1
  | .map entries => uptoBulkEntries entries + 1
  | .held _ => 1
def uptoBulkAll {H : Type} : List (DataW H) → Nat
  | [] => 0
  | d :: r => uptoBulk d + uptoBulkAll r
def uptoBulkEntries {H : Type} : List (Lit × DataW H) → Nat
  | [] => 0
  | x :: r => uptoBulkEntry x + uptoBulkEntries r
def uptoBulkEntry {H : Type} : Lit × DataW H → Nat
  | (.string bytes, d) => bytes.length + uptoBulk d + 1
  | (_, d) => uptoBulk d + 1
 end
def uptoSmall : (H : Type) → List (DataW H) → Bool := fun _ ds => decide (uptoBulkAll ds ≤ 1048576)
def OpenSpec.upto (s : _root_.Go.ChangeSpec) : _root_.Go.OpenSpec := { _root_.Go.OpenSpec.ofChange s with cond := some uptoSmall }

/-- 'aumbrylaw17.TypesMeet', WHERE WHAT IT READS IS OF BULK AT MOST 1048576: true; the input reads as it did. -/
def typesMeetUptoRow : OpenClaim := { program := "ytfjddfcndammdaa", sum := "fc7963682057e6bb0ba3b0500eb89ab47e3635eeaa80cc46c439d897eb8a0fe5", func := "aumbry/aumbrylaw17.TypesMeet", spec := "typesMeet", unfollowed := true, recurses := true, loops := true, apart := false, narrowed := true }
def TypesMeetUptoSaid : Prop := typesMeetUptoRow.holds Try.pinned (OpenSpec.upto typesMeetSpec)

/-- 'aumbrylaw17.TypesBest', WHERE WHAT IT READS IS OF BULK AT MOST 1048576: true; the input reads as it did. -/
def typesBestUptoRow : OpenClaim := { program := "ytfjddfcndammdaa", sum := "fc7963682057e6bb0ba3b0500eb89ab47e3635eeaa80cc46c439d897eb8a0fe5", func := "aumbry/aumbrylaw17.TypesBest", spec := "typesBest", unfollowed := true, recurses := true, loops := true, apart := false, narrowed := true }
def TypesBestUptoSaid : Prop := typesBestUptoRow.holds Try.pinned (OpenSpec.upto typesBestSpec)

/-- 'aumbrylaw17.TypesFree', WHERE WHAT IT READS IS OF BULK AT MOST 1048576: true; the input reads as it did. -/
def typesFreeUptoRow : OpenClaim := { program := "ytfjddfcndammdaa", sum := "fc7963682057e6bb0ba3b0500eb89ab47e3635eeaa80cc46c439d897eb8a0fe5", func := "aumbry/aumbrylaw17.TypesFree", spec := "typesFree", unfollowed := true, recurses := true, loops := true, apart := false, narrowed := true }
def TypesFreeUptoSaid : Prop := typesFreeUptoRow.holds Try.pinned (OpenSpec.upto typesFreeSpec)

/-- 'aumbrylaw17.TypesNil', WHERE WHAT IT READS IS OF BULK AT MOST 1048576: true; the input reads as it did. -/
def typesNilUptoRow : OpenClaim := { program := "ytfjddfcndammdaa", sum := "fc7963682057e6bb0ba3b0500eb89ab47e3635eeaa80cc46c439d897eb8a0fe5", func := "aumbry/aumbrylaw17.TypesNil", spec := "typesNil", unfollowed := true, recurses := true, loops := true, apart := false, narrowed := true }
def TypesNilUptoSaid : Prop := typesNilUptoRow.holds Try.pinned (OpenSpec.upto typesNilSpec)

/-- 'aumbrylaw17.TypesOne', WHERE WHAT IT READS IS OF BULK AT MOST 1048576: true; the input reads as it did. -/
def typesOneUptoRow : OpenClaim := { program := "ytfjddfcndammdaa", sum := "fc7963682057e6bb0ba3b0500eb89ab47e3635eeaa80cc46c439d897eb8a0fe5", func := "aumbry/aumbrylaw17.TypesOne", spec := "typesOne", unfollowed := true, recurses := true, loops := true, apart := false, narrowed := true }
def TypesOneUptoSaid : Prop := typesOneUptoRow.holds Try.pinned (OpenSpec.upto typesOneSpec)

end Rows
end Go.Proofs.Ytfjddfcndammdaa
