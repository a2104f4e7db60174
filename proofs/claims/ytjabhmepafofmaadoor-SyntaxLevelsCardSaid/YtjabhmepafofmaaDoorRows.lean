/-
  NARROWER THAN 'FOR EVERY INPUT', by the rows' own cells (each row's printed sentence says how): SyntaxRows: laid · SyntaxDeep: laid · SyntaxDepth: loops, laid · SyntaxAhead: laid · SyntaxJoins: laid · SyntaxLevels: laid.
  DERIVED. THE GIVEN ROWS OF THIS SEAT. 6 by the template 'for every input the law returns true; each argument reads behind the call as it read before'; 0 by the template 'total and deterministic' (their statements: YtjabhmepafofmaaDoorTotals.lean).
  GIVEN WITH THE SEED: the statements are not yours to turn. If you find one false, say at which input.
  Laid BY PROGRAM, IN A SANDBOX (cutbox-rows.mjs): the forced cells as the released guide's own fill.sh prints them over the translation f0c23cf5b56c607d… (all of the seat's roots in one cut). By AI agents, Wed Nov 11 2026. No macro, syntax, notation, axiom, sorry.
-/
import Derived.Test.YtjabhmepafofmaaDoorChecked
import GoSem.Claim
import GoSem.ClaimJoined
import GoSem.ClaimMapViews
import Derived.JoinedTies
import Derived.KernelRfl
namespace Go.Proofs.YtjabhmepafofmaaDoor
/- THE CELL 'sum', in the pinned program and in every row, IS THE sha256 OF THE DUMP (.gsa) THAT YtjabhmepafofmaaDoorProg.lean LOADS. Nothing in Lean hashes anything: it is a label: what it is worth is what the hold of that sum in a sandbox is worth. -/
noncomputable def Tryd.pinned : Pinned := { name := "ytjabhmepafofmaadoor", sum := "f0c23cf5b56c607d182e0393b1bc7757de5efb631497e6b13e98d70b6774e099", checked := Tryd.checked }
namespace Rows
def none {H : Type} : Left H := { results := [], args := [] }

/- WHAT THE LISTED PACKAGE-LEVEL VARIABLES READ AS WHEN THE CALL BEGINS. Each datum BY PROGRAM (the guide's laid-datum.mjs) off the statement by which the dump's own 'gosem.cut.vars' lays the variable. In a bare row this is a premise. The card (YtjabhmepafofmaaDoorCards.lean) ties it to the program's text. -/
def laid_aumbry_syntax_levels {H : Type} : DataW H := .slice [.agg [.lit (.int .i64 0), .slice [.lit (.string [58, 61])] []], .agg [.lit (.int .i64 0), .slice [.lit (.string [60]), .lit (.string [60, 61]), .lit (.string [62]), .lit (.string [62, 61]), .lit (.string [61]), .lit (.string [60, 62])] []], .agg [.lit (.int .i64 1), .slice [.lit (.string [94])] []], .agg [.lit (.int .i64 2), .slice [.lit (.string [43]), .lit (.string [45])] []], .agg [.lit (.int .i64 2), .slice [.lit (.string [42]), .lit (.string [100, 105, 118]), .lit (.string [109, 111, 100])] []]] []

/-- 'aumbrylaw15.SyntaxRows': WHATEVER THE INPUT: true; the input reads as it did. -/
def syntaxRowsSpec : ChangeSpec := { name := "syntaxRows", fn := fun _ => fun
  | [d1, d2, d3] => { results := [.lit (.bool true)], args := [d1, d2, d3] }
  | _ => none }
def syntaxRowsRow : OpenClaim := { program := "ytjabhmepafofmaadoor", sum := "f0c23cf5b56c607d182e0393b1bc7757de5efb631497e6b13e98d70b6774e099", func := "aumbry/aumbrylaw15.SyntaxRows", spec := "syntaxRows", unfollowed := true, recurses := true, named := ["aumbry/syntax.levels"], apart := false, laid := [("aumbry/syntax.levels", laid_aumbry_syntax_levels)] }
def SyntaxRowsSaid : Prop := syntaxRowsRow.holds Tryd.pinned (OpenSpec.ofChange syntaxRowsSpec)

/-- ITS FALSE NEIGHBOUR: 'it returns false'. Refute it at one input. -/
def syntaxRowsWrong : ChangeSpec := { name := "syntaxRows", fn := fun _ => fun
  | [d1, d2, d3] => { results := [.lit (.bool false)], args := [d1, d2, d3] }
  | _ => none }
def SyntaxRowsWrongFalsely : Prop := syntaxRowsRow.holds Tryd.pinned (OpenSpec.ofChange syntaxRowsWrong)

/-- 'aumbrylaw15.SyntaxDeep': WHATEVER THE INPUT: true; the input reads as it did. -/
def syntaxDeepSpec : ChangeSpec := { name := "syntaxDeep", fn := fun _ => fun
  | [d1, d2] => { results := [.lit (.bool true)], args := [d1, d2] }
  | _ => none }
def syntaxDeepRow : OpenClaim := { program := "ytjabhmepafofmaadoor", sum := "f0c23cf5b56c607d182e0393b1bc7757de5efb631497e6b13e98d70b6774e099", func := "aumbry/aumbrylaw15.SyntaxDeep", spec := "syntaxDeep", unfollowed := true, recurses := true, named := ["aumbry/syntax.levels"], apart := false, laid := [("aumbry/syntax.levels", laid_aumbry_syntax_levels)] }
def SyntaxDeepSaid : Prop := syntaxDeepRow.holds Tryd.pinned (OpenSpec.ofChange syntaxDeepSpec)

/-- ITS FALSE NEIGHBOUR: 'it returns false'. Refute it at one input. -/
def syntaxDeepWrong : ChangeSpec := { name := "syntaxDeep", fn := fun _ => fun
  | [d1, d2] => { results := [.lit (.bool false)], args := [d1, d2] }
  | _ => none }
def SyntaxDeepWrongFalsely : Prop := syntaxDeepRow.holds Tryd.pinned (OpenSpec.ofChange syntaxDeepWrong)

/-- 'aumbrylaw15.SyntaxDepth': WHATEVER THE INPUT: true; the input reads as it did. -/
def syntaxDepthSpec : ChangeSpec := { name := "syntaxDepth", fn := fun _ => fun
  | [d] => { results := [.lit (.bool true)], args := [d] }
  | _ => none }
def syntaxDepthRow : OpenClaim := { program := "ytjabhmepafofmaadoor", sum := "f0c23cf5b56c607d182e0393b1bc7757de5efb631497e6b13e98d70b6774e099", func := "aumbry/aumbrylaw15.SyntaxDepth", spec := "syntaxDepth", unfollowed := true, recurses := true, named := ["aumbry/syntax.levels"], loops := true, apart := false, laid := [("aumbry/syntax.levels", laid_aumbry_syntax_levels)] }
def SyntaxDepthSaid : Prop := syntaxDepthRow.holds Tryd.pinned (OpenSpec.ofChange syntaxDepthSpec)

/-- ITS FALSE NEIGHBOUR: 'it returns false'. Refute it at one input. -/
def syntaxDepthWrong : ChangeSpec := { name := "syntaxDepth", fn := fun _ => fun
  | [d] => { results := [.lit (.bool false)], args := [d] }
  | _ => none }
def SyntaxDepthWrongFalsely : Prop := syntaxDepthRow.holds Tryd.pinned (OpenSpec.ofChange syntaxDepthWrong)

/-- 'aumbrylaw15.SyntaxAhead': WHATEVER THE INPUT: true; the input reads as it did. -/
def syntaxAheadSpec : ChangeSpec := { name := "syntaxAhead", fn := fun _ => fun
  | [d1, d2, d3] => { results := [.lit (.bool true)], args := [d1, d2, d3] }
  | _ => none }
def syntaxAheadRow : OpenClaim := { program := "ytjabhmepafofmaadoor", sum := "f0c23cf5b56c607d182e0393b1bc7757de5efb631497e6b13e98d70b6774e099", func := "aumbry/aumbrylaw15.SyntaxAhead", spec := "syntaxAhead", unfollowed := true, recurses := true, named := ["aumbry/syntax.levels"], apart := false, laid := [("aumbry/syntax.levels", laid_aumbry_syntax_levels)] }
def SyntaxAheadSaid : Prop := syntaxAheadRow.holds Tryd.pinned (OpenSpec.ofChange syntaxAheadSpec)

/-- ITS FALSE NEIGHBOUR: 'it returns false'. Refute it at one input. -/
def syntaxAheadWrong : ChangeSpec := { name := "syntaxAhead", fn := fun _ => fun
  | [d1, d2, d3] => { results := [.lit (.bool false)], args := [d1, d2, d3] }
  | _ => none }
def SyntaxAheadWrongFalsely : Prop := syntaxAheadRow.holds Tryd.pinned (OpenSpec.ofChange syntaxAheadWrong)

/-- 'aumbrylaw15.SyntaxJoins': WHATEVER THE INPUT: true; the input reads as it did. -/
def syntaxJoinsSpec : ChangeSpec := { name := "syntaxJoins", fn := fun _ => fun
  | [d1, d2, d3] => { results := [.lit (.bool true)], args := [d1, d2, d3] }
  | _ => none }
def syntaxJoinsRow : OpenClaim := { program := "ytjabhmepafofmaadoor", sum := "f0c23cf5b56c607d182e0393b1bc7757de5efb631497e6b13e98d70b6774e099", func := "aumbry/aumbrylaw15.SyntaxJoins", spec := "syntaxJoins", unfollowed := true, recurses := true, named := ["aumbry/syntax.levels"], apart := false, laid := [("aumbry/syntax.levels", laid_aumbry_syntax_levels)] }
def SyntaxJoinsSaid : Prop := syntaxJoinsRow.holds Tryd.pinned (OpenSpec.ofChange syntaxJoinsSpec)

/-- ITS FALSE NEIGHBOUR: 'it returns false'. Refute it at one input. -/
def syntaxJoinsWrong : ChangeSpec := { name := "syntaxJoins", fn := fun _ => fun
  | [d1, d2, d3] => { results := [.lit (.bool false)], args := [d1, d2, d3] }
  | _ => none }
def SyntaxJoinsWrongFalsely : Prop := syntaxJoinsRow.holds Tryd.pinned (OpenSpec.ofChange syntaxJoinsWrong)

/-- 'aumbrylaw15.SyntaxLevels': WHATEVER THE INPUT: true; the input reads as it did. -/
def syntaxLevelsSpec : ChangeSpec := { name := "syntaxLevels", fn := fun _ => fun
  | [d] => { results := [.lit (.bool true)], args := [d] }
  | _ => none }
def syntaxLevelsRow : OpenClaim := { program := "ytjabhmepafofmaadoor", sum := "f0c23cf5b56c607d182e0393b1bc7757de5efb631497e6b13e98d70b6774e099", func := "aumbry/aumbrylaw15.SyntaxLevels", spec := "syntaxLevels", unfollowed := true, recurses := true, named := ["aumbry/syntax.levels"], apart := false, laid := [("aumbry/syntax.levels", laid_aumbry_syntax_levels)] }
def SyntaxLevelsSaid : Prop := syntaxLevelsRow.holds Tryd.pinned (OpenSpec.ofChange syntaxLevelsSpec)

/-- ITS FALSE NEIGHBOUR: 'it returns false'. Refute it at one input. -/
def syntaxLevelsWrong : ChangeSpec := { name := "syntaxLevels", fn := fun _ => fun
  | [d] => { results := [.lit (.bool false)], args := [d] }
  | _ => none }
def SyntaxLevelsWrongFalsely : Prop := syntaxLevelsRow.holds Tryd.pinned (OpenSpec.ofChange syntaxLevelsWrong)

/- THE SECOND FORM. 'bulk': how many values and letters a reading holds, each counted each time it is reached (what is shared counts as often as it is met; a slice's spare places count too). A statement '..UptoSaid' is the law's where the arguments, and the package variables that the reading takes, are together of bulk at most 1048576: NARROWER than '..Said'. Prove '..Said' where nothing that the law and all that it calls make is longer than what came in: it says more and counts as full. Else prove '..UptoSaid'. A law counts once. -/
mutual
def uptoBulk {H : Type} : DataW H → Nat
  | .lit (.string bytes) => bytes.length + 1
  | .lit _ => 1
  | .nil => 1
  | .ptr d => uptoBulk d + 1
  | .slice elems spare => uptoBulkAll elems + uptoBulkAll spare + 1
  | .agg parts => uptoBulkAll parts + 1
  | .iface _ d => uptoBulk d + 1
  | .map entries => uptoBulkEntries entries + 1
  | .held _ => 1
def uptoBulkAll {H : Type} : List (DataW H) → Nat
  | [] => 0
  | d :: r => uptoBulk d + uptoBulkAll r
def uptoBulkEntries {H : Type} : List (Lit × DataW H) → Nat
  | [] => 0
  | x :: r => uptoBulkEntry x + uptoBulkEntries r
def uptoBulkEntry {H : Type} : Lit × DataW H → Nat
  | (.string bytes, d) => bytes.length + uptoBulk d + 1
  | (_, d) => uptoBulk d + 1
 end
def uptoSmall : (H : Type) → List (DataW H) → Bool := fun _ ds => decide (uptoBulkAll ds ≤ 1048576)
def OpenSpec.upto (s : _root_.Go.ChangeSpec) : _root_.Go.OpenSpec := { _root_.Go.OpenSpec.ofChange s with cond := some uptoSmall }

/-- 'aumbrylaw15.SyntaxRows', WHERE WHAT IT READS IS OF BULK AT MOST 1048576: true; the input reads as it did. -/
def syntaxRowsUptoRow : OpenClaim := { program := "ytjabhmepafofmaadoor", sum := "f0c23cf5b56c607d182e0393b1bc7757de5efb631497e6b13e98d70b6774e099", func := "aumbry/aumbrylaw15.SyntaxRows", spec := "syntaxRows", unfollowed := true, recurses := true, named := ["aumbry/syntax.levels"], apart := false, laid := [("aumbry/syntax.levels", laid_aumbry_syntax_levels)], narrowed := true }
def SyntaxRowsUptoSaid : Prop := syntaxRowsUptoRow.holds Tryd.pinned (OpenSpec.upto syntaxRowsSpec)

/-- 'aumbrylaw15.SyntaxDeep', WHERE WHAT IT READS IS OF BULK AT MOST 1048576: true; the input reads as it did. -/
def syntaxDeepUptoRow : OpenClaim := { program := "ytjabhmepafofmaadoor", sum := "f0c23cf5b56c607d182e0393b1bc7757de5efb631497e6b13e98d70b6774e099", func := "aumbry/aumbrylaw15.SyntaxDeep", spec := "syntaxDeep", unfollowed := true, recurses := true, named := ["aumbry/syntax.levels"], apart := false, laid := [("aumbry/syntax.levels", laid_aumbry_syntax_levels)], narrowed := true }
def SyntaxDeepUptoSaid : Prop := syntaxDeepUptoRow.holds Tryd.pinned (OpenSpec.upto syntaxDeepSpec)

/-- 'aumbrylaw15.SyntaxDepth', WHERE WHAT IT READS IS OF BULK AT MOST 1048576: true; the input reads as it did. -/
def syntaxDepthUptoRow : OpenClaim := { program := "ytjabhmepafofmaadoor", sum := "f0c23cf5b56c607d182e0393b1bc7757de5efb631497e6b13e98d70b6774e099", func := "aumbry/aumbrylaw15.SyntaxDepth", spec := "syntaxDepth", unfollowed := true, recurses := true, named := ["aumbry/syntax.levels"], loops := true, apart := false, laid := [("aumbry/syntax.levels", laid_aumbry_syntax_levels)], narrowed := true }
def SyntaxDepthUptoSaid : Prop := syntaxDepthUptoRow.holds Tryd.pinned (OpenSpec.upto syntaxDepthSpec)

/-- 'aumbrylaw15.SyntaxAhead', WHERE WHAT IT READS IS OF BULK AT MOST 1048576: true; the input reads as it did. -/
def syntaxAheadUptoRow : OpenClaim := { program := "ytjabhmepafofmaadoor", sum := "f0c23cf5b56c607d182e0393b1bc7757de5efb631497e6b13e98d70b6774e099", func := "aumbry/aumbrylaw15.SyntaxAhead", spec := "syntaxAhead", unfollowed := true, recurses := true, named := ["aumbry/syntax.levels"], apart := false, laid := [("aumbry/syntax.levels", laid_aumbry_syntax_levels)], narrowed := true }
def SyntaxAheadUptoSaid : Prop := syntaxAheadUptoRow.holds Tryd.pinned (OpenSpec.upto syntaxAheadSpec)

/-- 'aumbrylaw15.SyntaxJoins', WHERE WHAT IT READS IS OF BULK AT MOST 1048576: true; the input reads as it did. -/
def syntaxJoinsUptoRow : OpenClaim := { program := "ytjabhmepafofmaadoor", sum := "f0c23cf5b56c607d182e0393b1bc7757de5efb631497e6b13e98d70b6774e099", func := "aumbry/aumbrylaw15.SyntaxJoins", spec := "syntaxJoins", unfollowed := true, recurses := true, named := ["aumbry/syntax.levels"], apart := false, laid := [("aumbry/syntax.levels", laid_aumbry_syntax_levels)], narrowed := true }
def SyntaxJoinsUptoSaid : Prop := syntaxJoinsUptoRow.holds Tryd.pinned (OpenSpec.upto syntaxJoinsSpec)

/-- 'aumbrylaw15.SyntaxLevels', WHERE WHAT IT READS IS OF BULK AT MOST 1048576: true; the input reads as it did. -/
def syntaxLevelsUptoRow : OpenClaim := { program := "ytjabhmepafofmaadoor", sum := "f0c23cf5b56c607d182e0393b1bc7757de5efb631497e6b13e98d70b6774e099", func := "aumbry/aumbrylaw15.SyntaxLevels", spec := "syntaxLevels", unfollowed := true, recurses := true, named := ["aumbry/syntax.levels"], apart := false, laid := [("aumbry/syntax.levels", laid_aumbry_syntax_levels)], narrowed := true }
def SyntaxLevelsUptoSaid : Prop := syntaxLevelsUptoRow.holds Tryd.pinned (OpenSpec.upto syntaxLevelsSpec)

end Rows
end Go.Proofs.YtjabhmepafofmaaDoor
