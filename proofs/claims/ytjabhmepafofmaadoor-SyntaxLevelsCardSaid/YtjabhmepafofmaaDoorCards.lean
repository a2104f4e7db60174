/-
  DERIVED. GIVEN WITH THE SEED: THE CARDS: each row of YtjabhmepafofmaaDoorRows.lean that lists a variable, with what it lists TIED to the program's text (the seventh form; the later family's looks); each row that meets fmt, with fmt's text TOLD by the authors' own Lean function (tested against real Go, not proved from fmt's source: count such statements apart). THE CARD IS WHAT COUNTS. Prove the row's statement (the work); the ties are given (YtjabhmepafofmaaDoorTie.lean); close each card by the builder's one call (the guide's Derived/Test/ToyasCard.lean, 'card_holds'). Laid BY PROGRAM, IN A SANDBOX (cutbox-door.mjs). By AI agents, Wed Nov 11 2026. No macro, syntax, notation, axiom, sorry.
-/
import Derived.Test.YtjabhmepafofmaaDoorRows
import GoSem.ClaimSeven
namespace Go.Proofs.YtjabhmepafofmaaDoor
namespace Rows

/-- THE TIED CARD OF 'aumbrylaw15.SyntaxRows'. -/
def syntaxRowsCard : Claim7 := { stood := { row := syntaxRowsRow, standIns := [], harness := (true, "99ee2b391283c3a3b167d34f3e94d01f7ee4c8660b19dee2cec27520e411163f"), looks := true }, kinds := [], alts := [], laidByText := true, laidKinds := [.widerDeep], laidTests := true, laidLooks := .later }
def SyntaxRowsCardSaid : Prop := Claim7.holds Tryd.pinned (.plain (OpenSpec.ofChange syntaxRowsSpec)) syntaxRowsCard

/-- THE TIED CARD OF 'aumbrylaw15.SyntaxDeep'. -/
def syntaxDeepCard : Claim7 := { stood := { row := syntaxDeepRow, standIns := [], harness := (true, "99ee2b391283c3a3b167d34f3e94d01f7ee4c8660b19dee2cec27520e411163f"), looks := true }, kinds := [], alts := [], laidByText := true, laidKinds := [.widerDeep], laidTests := true, laidLooks := .later }
def SyntaxDeepCardSaid : Prop := Claim7.holds Tryd.pinned (.plain (OpenSpec.ofChange syntaxDeepSpec)) syntaxDeepCard

/-- THE TIED CARD OF 'aumbrylaw15.SyntaxDepth'. -/
def syntaxDepthCard : Claim7 := { stood := { row := syntaxDepthRow, standIns := [], harness := (true, "99ee2b391283c3a3b167d34f3e94d01f7ee4c8660b19dee2cec27520e411163f"), looks := true }, kinds := [], alts := [], laidByText := true, laidKinds := [.widerDeep], laidTests := true, laidLooks := .later }
def SyntaxDepthCardSaid : Prop := Claim7.holds Tryd.pinned (.plain (OpenSpec.ofChange syntaxDepthSpec)) syntaxDepthCard

/-- THE TIED CARD OF 'aumbrylaw15.SyntaxAhead'. -/
def syntaxAheadCard : Claim7 := { stood := { row := syntaxAheadRow, standIns := [], harness := (true, "99ee2b391283c3a3b167d34f3e94d01f7ee4c8660b19dee2cec27520e411163f"), looks := true }, kinds := [], alts := [], laidByText := true, laidKinds := [.widerDeep], laidTests := true, laidLooks := .later }
def SyntaxAheadCardSaid : Prop := Claim7.holds Tryd.pinned (.plain (OpenSpec.ofChange syntaxAheadSpec)) syntaxAheadCard

/-- THE TIED CARD OF 'aumbrylaw15.SyntaxJoins'. -/
def syntaxJoinsCard : Claim7 := { stood := { row := syntaxJoinsRow, standIns := [], harness := (true, "99ee2b391283c3a3b167d34f3e94d01f7ee4c8660b19dee2cec27520e411163f"), looks := true }, kinds := [], alts := [], laidByText := true, laidKinds := [.widerDeep], laidTests := true, laidLooks := .later }
def SyntaxJoinsCardSaid : Prop := Claim7.holds Tryd.pinned (.plain (OpenSpec.ofChange syntaxJoinsSpec)) syntaxJoinsCard

/-- THE TIED CARD OF 'aumbrylaw15.SyntaxLevels'. -/
def syntaxLevelsCard : Claim7 := { stood := { row := syntaxLevelsRow, standIns := [], harness := (true, "99ee2b391283c3a3b167d34f3e94d01f7ee4c8660b19dee2cec27520e411163f"), looks := true }, kinds := [], alts := [], laidByText := true, laidKinds := [.widerDeep], laidTests := true, laidLooks := .later }
def SyntaxLevelsCardSaid : Prop := Claim7.holds Tryd.pinned (.plain (OpenSpec.ofChange syntaxLevelsSpec)) syntaxLevelsCard

/-- THE SECOND FORM's CARD OF 'aumbrylaw15.SyntaxRows'. -/
def syntaxRowsUptoCard : Claim7 := { stood := { row := syntaxRowsUptoRow, standIns := [], harness := (true, "99ee2b391283c3a3b167d34f3e94d01f7ee4c8660b19dee2cec27520e411163f"), looks := true }, kinds := [], alts := [], laidByText := true, laidKinds := [.widerDeep], laidTests := true, laidLooks := .later }
def SyntaxRowsUptoCardSaid : Prop := Claim7.holds Tryd.pinned (.plain (OpenSpec.upto syntaxRowsSpec)) syntaxRowsUptoCard

/-- THE SECOND FORM's CARD OF 'aumbrylaw15.SyntaxDeep'. -/
def syntaxDeepUptoCard : Claim7 := { stood := { row := syntaxDeepUptoRow, standIns := [], harness := (true, "99ee2b391283c3a3b167d34f3e94d01f7ee4c8660b19dee2cec27520e411163f"), looks := true }, kinds := [], alts := [], laidByText := true, laidKinds := [.widerDeep], laidTests := true, laidLooks := .later }
def SyntaxDeepUptoCardSaid : Prop := Claim7.holds Tryd.pinned (.plain (OpenSpec.upto syntaxDeepSpec)) syntaxDeepUptoCard

/-- THE SECOND FORM's CARD OF 'aumbrylaw15.SyntaxDepth'. -/
def syntaxDepthUptoCard : Claim7 := { stood := { row := syntaxDepthUptoRow, standIns := [], harness := (true, "99ee2b391283c3a3b167d34f3e94d01f7ee4c8660b19dee2cec27520e411163f"), looks := true }, kinds := [], alts := [], laidByText := true, laidKinds := [.widerDeep], laidTests := true, laidLooks := .later }
def SyntaxDepthUptoCardSaid : Prop := Claim7.holds Tryd.pinned (.plain (OpenSpec.upto syntaxDepthSpec)) syntaxDepthUptoCard

/-- THE SECOND FORM's CARD OF 'aumbrylaw15.SyntaxAhead'. -/
def syntaxAheadUptoCard : Claim7 := { stood := { row := syntaxAheadUptoRow, standIns := [], harness := (true, "99ee2b391283c3a3b167d34f3e94d01f7ee4c8660b19dee2cec27520e411163f"), looks := true }, kinds := [], alts := [], laidByText := true, laidKinds := [.widerDeep], laidTests := true, laidLooks := .later }
def SyntaxAheadUptoCardSaid : Prop := Claim7.holds Tryd.pinned (.plain (OpenSpec.upto syntaxAheadSpec)) syntaxAheadUptoCard

/-- THE SECOND FORM's CARD OF 'aumbrylaw15.SyntaxJoins'. -/
def syntaxJoinsUptoCard : Claim7 := { stood := { row := syntaxJoinsUptoRow, standIns := [], harness := (true, "99ee2b391283c3a3b167d34f3e94d01f7ee4c8660b19dee2cec27520e411163f"), looks := true }, kinds := [], alts := [], laidByText := true, laidKinds := [.widerDeep], laidTests := true, laidLooks := .later }
def SyntaxJoinsUptoCardSaid : Prop := Claim7.holds Tryd.pinned (.plain (OpenSpec.upto syntaxJoinsSpec)) syntaxJoinsUptoCard

/-- THE SECOND FORM's CARD OF 'aumbrylaw15.SyntaxLevels'. -/
def syntaxLevelsUptoCard : Claim7 := { stood := { row := syntaxLevelsUptoRow, standIns := [], harness := (true, "99ee2b391283c3a3b167d34f3e94d01f7ee4c8660b19dee2cec27520e411163f"), looks := true }, kinds := [], alts := [], laidByText := true, laidKinds := [.widerDeep], laidTests := true, laidLooks := .later }
def SyntaxLevelsUptoCardSaid : Prop := Claim7.holds Tryd.pinned (.plain (OpenSpec.upto syntaxLevelsSpec)) syntaxLevelsUptoCard
end Rows
end Go.Proofs.YtjabhmepafofmaaDoor
