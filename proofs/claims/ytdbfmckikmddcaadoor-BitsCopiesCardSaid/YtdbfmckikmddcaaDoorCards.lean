/-
  DERIVED. GIVEN WITH THE SEED: THE CARDS: each row of YtdbfmckikmddcaaDoorRows.lean that lists a variable, with what it lists TIED to the program's text (the seventh form; the later family's looks); each row that meets fmt, with fmt's text TOLD by the authors' own Lean function (tested against real Go, not proved from fmt's source: count such statements apart). THE CARD IS WHAT COUNTS. Prove the row's statement (the work); the ties are given (YtdbfmckikmddcaaDoorTie.lean); close each card by the builder's one call (the guide's Derived/Test/ToyasCard.lean, 'card_holds'). Laid BY PROGRAM, IN A SANDBOX (cutbox-door.mjs). By AI agents, Wed Nov 11 2026. No macro, syntax, notation, axiom, sorry.
-/
import Derived.Test.YtdbfmckikmddcaaDoorRows
import GoSem.ClaimSeven
namespace Go.Proofs.YtdbfmckikmddcaaDoor
namespace Rows

/-- THE TIED CARD OF 'aumbrylaw06.BitsPlays'. -/
def bitsPlaysCard : Claim7 := { stood := { row := bitsPlaysRow, standIns := [], harness := (true, "e07a6499b10e42cf17e86e29039c19862268b02b1ea6bbcae19b891f1c8528d1"), looks := false }, kinds := [], alts := [], laidByText := true, laidKinds := [.data], laidTests := true, laidLooks := .later }
def BitsPlaysCardSaid : Prop := Claim7.holds Tryd.pinned (.plain (OpenSpec.ofChange bitsPlaysSpec)) bitsPlaysCard

/-- THE TIED CARD OF 'aumbrylaw06.BitsIn'. -/
def bitsInCard : Claim7 := { stood := { row := bitsInRow, standIns := [], harness := (true, "e07a6499b10e42cf17e86e29039c19862268b02b1ea6bbcae19b891f1c8528d1"), looks := false }, kinds := [], alts := [], laidByText := true, laidKinds := [.data], laidTests := true, laidLooks := .later }
def BitsInCardSaid : Prop := Claim7.holds Tryd.pinned (.plain (OpenSpec.ofChange bitsInSpec)) bitsInCard

/-- THE TIED CARD OF 'aumbrylaw06.BitsLow'. -/
def bitsLowCard : Claim7 := { stood := { row := bitsLowRow, standIns := [], harness := (true, "e07a6499b10e42cf17e86e29039c19862268b02b1ea6bbcae19b891f1c8528d1"), looks := false }, kinds := [], alts := [], laidByText := true, laidKinds := [.data], laidTests := true, laidLooks := .later }
def BitsLowCardSaid : Prop := Claim7.holds Tryd.pinned (.plain (OpenSpec.ofChange bitsLowSpec)) bitsLowCard

/-- THE TIED CARD OF 'aumbrylaw06.BitsFull'. -/
def bitsFullCard : Claim7 := { stood := { row := bitsFullRow, standIns := [], harness := (true, "e07a6499b10e42cf17e86e29039c19862268b02b1ea6bbcae19b891f1c8528d1"), looks := false }, kinds := [], alts := [], laidByText := true, laidKinds := [.data], laidTests := true, laidLooks := .later }
def BitsFullCardSaid : Prop := Claim7.holds Tryd.pinned (.plain (OpenSpec.ofChange bitsFullSpec)) bitsFullCard

/-- THE TIED CARD OF 'aumbrylaw06.BitsCopies'. -/
def bitsCopiesCard : Claim7 := { stood := { row := bitsCopiesRow, standIns := [], harness := (true, "e07a6499b10e42cf17e86e29039c19862268b02b1ea6bbcae19b891f1c8528d1"), looks := false }, kinds := [], alts := [], laidByText := true, laidKinds := [.data], laidTests := true, laidLooks := .later }
def BitsCopiesCardSaid : Prop := Claim7.holds Tryd.pinned (.plain (OpenSpec.ofChange bitsCopiesSpec)) bitsCopiesCard

/-- THE TIED CARD OF 'aumbrylaw06.BitsNil'. -/
def bitsNilCard : Claim7 := { stood := { row := bitsNilRow, standIns := [], harness := (true, "e07a6499b10e42cf17e86e29039c19862268b02b1ea6bbcae19b891f1c8528d1"), looks := false }, kinds := [], alts := [], laidByText := true, laidKinds := [.data], laidTests := true, laidLooks := .later }
def BitsNilCardSaid : Prop := Claim7.holds Tryd.pinned (.plain (OpenSpec.ofChange bitsNilSpec)) bitsNilCard

/-- THE SECOND FORM's CARD OF 'aumbrylaw06.BitsPlays'. -/
def bitsPlaysUptoCard : Claim7 := { stood := { row := bitsPlaysUptoRow, standIns := [], harness := (true, "e07a6499b10e42cf17e86e29039c19862268b02b1ea6bbcae19b891f1c8528d1"), looks := false }, kinds := [], alts := [], laidByText := true, laidKinds := [.data], laidTests := true, laidLooks := .later }
def BitsPlaysUptoCardSaid : Prop := Claim7.holds Tryd.pinned (.plain (OpenSpec.upto bitsPlaysSpec)) bitsPlaysUptoCard

/-- THE SECOND FORM's CARD OF 'aumbrylaw06.BitsIn'. -/
def bitsInUptoCard : Claim7 := { stood := { row := bitsInUptoRow, standIns := [], harness := (true, "e07a6499b10e42cf17e86e29039c19862268b02b1ea6bbcae19b891f1c8528d1"), looks := false }, kinds := [], alts := [], laidByText := true, laidKinds := [.data], laidTests := true, laidLooks := .later }
def BitsInUptoCardSaid : Prop := Claim7.holds Tryd.pinned (.plain (OpenSpec.upto bitsInSpec)) bitsInUptoCard

/-- THE SECOND FORM's CARD OF 'aumbrylaw06.BitsLow'. -/
def bitsLowUptoCard : Claim7 := { stood := { row := bitsLowUptoRow, standIns := [], harness := (true, "e07a6499b10e42cf17e86e29039c19862268b02b1ea6bbcae19b891f1c8528d1"), looks := false }, kinds := [], alts := [], laidByText := true, laidKinds := [.data], laidTests := true, laidLooks := .later }
def BitsLowUptoCardSaid : Prop := Claim7.holds Tryd.pinned (.plain (OpenSpec.upto bitsLowSpec)) bitsLowUptoCard

/-- THE SECOND FORM's CARD OF 'aumbrylaw06.BitsFull'. -/
def bitsFullUptoCard : Claim7 := { stood := { row := bitsFullUptoRow, standIns := [], harness := (true, "e07a6499b10e42cf17e86e29039c19862268b02b1ea6bbcae19b891f1c8528d1"), looks := false }, kinds := [], alts := [], laidByText := true, laidKinds := [.data], laidTests := true, laidLooks := .later }
def BitsFullUptoCardSaid : Prop := Claim7.holds Tryd.pinned (.plain (OpenSpec.upto bitsFullSpec)) bitsFullUptoCard

/-- THE SECOND FORM's CARD OF 'aumbrylaw06.BitsCopies'. -/
def bitsCopiesUptoCard : Claim7 := { stood := { row := bitsCopiesUptoRow, standIns := [], harness := (true, "e07a6499b10e42cf17e86e29039c19862268b02b1ea6bbcae19b891f1c8528d1"), looks := false }, kinds := [], alts := [], laidByText := true, laidKinds := [.data], laidTests := true, laidLooks := .later }
def BitsCopiesUptoCardSaid : Prop := Claim7.holds Tryd.pinned (.plain (OpenSpec.upto bitsCopiesSpec)) bitsCopiesUptoCard

/-- THE SECOND FORM's CARD OF 'aumbrylaw06.BitsNil'. -/
def bitsNilUptoCard : Claim7 := { stood := { row := bitsNilUptoRow, standIns := [], harness := (true, "e07a6499b10e42cf17e86e29039c19862268b02b1ea6bbcae19b891f1c8528d1"), looks := false }, kinds := [], alts := [], laidByText := true, laidKinds := [.data], laidTests := true, laidLooks := .later }
def BitsNilUptoCardSaid : Prop := Claim7.holds Tryd.pinned (.plain (OpenSpec.upto bitsNilSpec)) bitsNilUptoCard
end Rows
end Go.Proofs.YtdbfmckikmddcaaDoor
