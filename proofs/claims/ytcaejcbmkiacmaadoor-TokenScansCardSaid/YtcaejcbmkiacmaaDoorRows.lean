/-
  NARROWER THAN 'FOR EVERY INPUT', by the rows' own cells (each row's printed sentence says how): TokenScans: laid · TokenWords: laid · TokenBack: laid · TokenPlaces: laid · TokenAhead: laid · TokenSigns: laid.
  DERIVED. THE GIVEN ROWS OF THIS SEAT. 6 by the template 'for every input the law returns true; each argument reads behind the call as it read before'; 0 by the template 'total and deterministic' (their statements: YtcaejcbmkiacmaaDoorTotals.lean).
  GIVEN WITH THE SEED: the statements are not yours to turn. If you find one false, say at which input.
  Laid BY PROGRAM, IN A SANDBOX (cutbox-rows.mjs): the forced cells as the released guide's own fill.sh prints them over the translation f5774c078ee9c15e… (all of the seat's roots in one cut). By AI agents, Wed Nov 11 2026. No macro, syntax, notation, axiom, sorry.
-/
import Derived.Test.YtcaejcbmkiacmaaDoorChecked
import GoSem.Claim
import GoSem.ClaimJoined
import GoSem.ClaimMapViews
import Derived.JoinedTies
import Derived.KernelRfl
namespace Go.Proofs.YtcaejcbmkiacmaaDoor
/- THE CELL 'sum', in the pinned program and in every row, IS THE sha256 OF THE DUMP (.gsa) THAT YtcaejcbmkiacmaaDoorProg.lean LOADS. Nothing in Lean hashes anything: it is a label: what it is worth is what the hold of that sum in a sandbox is worth. -/
noncomputable def Tryd.pinned : Pinned := { name := "ytcaejcbmkiacmaadoor", sum := "f5774c078ee9c15eceacadd5e353eb98178738a44c4f7333a342956c847dc51a", checked := Tryd.checked }
namespace Rows
def none {H : Type} : Left H := { results := [], args := [] }

/- WHAT THE LISTED PACKAGE-LEVEL VARIABLES READ AS WHEN THE CALL BEGINS. Each datum BY PROGRAM (the guide's laid-datum.mjs) off the statement by which the dump's own 'gosem.cut.vars' lays the variable. In a bare row this is a premise. The card (YtcaejcbmkiacmaaDoorCards.lean) ties it to the program's text. -/
def laid_aumbry_token_words {H : Type} : DataW H := .slice [.lit (.string [100, 97, 116, 97, 116, 121, 112, 101]), .lit (.string [111, 102]), .lit (.string [101, 120, 99, 101, 112, 116, 105, 111, 110]), .lit (.string [118, 97, 108]), .lit (.string [102, 117, 110]), .lit (.string [97, 110, 100]), .lit (.string [102, 110]), .lit (.string [108, 101, 116]), .lit (.string [105, 110]), .lit (.string [101, 110, 100]), .lit (.string [105, 102]), .lit (.string [116, 104, 101, 110]), .lit (.string [101, 108, 115, 101]), .lit (.string [99, 97, 115, 101]), .lit (.string [104, 97, 110, 100, 108, 101]), .lit (.string [114, 97, 105, 115, 101]), .lit (.string [114, 111, 111, 116]), .lit (.string [100, 111]), .lit (.string [116, 114, 117, 101]), .lit (.string [102, 97, 108, 115, 101]), .lit (.string [100, 105, 118]), .lit (.string [109, 111, 100])] []
def laid_aumbry_token_signs {H : Type} : DataW H := .slice [.lit (.string [61, 62]), .lit (.string [45, 62]), .lit (.string [58, 61]), .lit (.string [60, 61]), .lit (.string [62, 61]), .lit (.string [60, 62]), .lit (.string [40]), .lit (.string [41]), .lit (.string [44]), .lit (.string [59]), .lit (.string [61]), .lit (.string [42]), .lit (.string [124]), .lit (.string [58]), .lit (.string [33]), .lit (.string [43]), .lit (.string [45]), .lit (.string [126]), .lit (.string [60]), .lit (.string [62]), .lit (.string [94]), .lit (.string [95])] []

/-- 'aumbrylaw14.TokenScans': WHATEVER THE INPUT: true; the input reads as it did. -/
def tokenScansSpec : ChangeSpec := { name := "tokenScans", fn := fun _ => fun
  | [d] => { results := [.lit (.bool true)], args := [d] }
  | _ => none }
def tokenScansRow : OpenClaim := { program := "ytcaejcbmkiacmaadoor", sum := "f5774c078ee9c15eceacadd5e353eb98178738a44c4f7333a342956c847dc51a", func := "aumbry/aumbrylaw14.TokenScans", spec := "tokenScans", inPlace := ["internal/bytealg.IndexByteString", "internal/abi.NoEscape"], unfollowed := true, recurses := true, named := ["aumbry/token.words", "aumbry/token.signs"], apart := false, laid := [("aumbry/token.words", laid_aumbry_token_words), ("aumbry/token.signs", laid_aumbry_token_signs)] }
def TokenScansSaid : Prop := tokenScansRow.holds Tryd.pinned (OpenSpec.ofChange tokenScansSpec)

/-- ITS FALSE NEIGHBOUR: 'it returns false'. Refute it at one input. -/
def tokenScansWrong : ChangeSpec := { name := "tokenScans", fn := fun _ => fun
  | [d] => { results := [.lit (.bool false)], args := [d] }
  | _ => none }
def TokenScansWrongFalsely : Prop := tokenScansRow.holds Tryd.pinned (OpenSpec.ofChange tokenScansWrong)

/-- 'aumbrylaw14.TokenWords': WHATEVER THE INPUT: true; the input reads as it did. -/
def tokenWordsSpec : ChangeSpec := { name := "tokenWords", fn := fun _ => fun
  | [d] => { results := [.lit (.bool true)], args := [d] }
  | _ => none }
def tokenWordsRow : OpenClaim := { program := "ytcaejcbmkiacmaadoor", sum := "f5774c078ee9c15eceacadd5e353eb98178738a44c4f7333a342956c847dc51a", func := "aumbry/aumbrylaw14.TokenWords", spec := "tokenWords", inPlace := ["internal/bytealg.IndexByteString", "internal/abi.NoEscape"], unfollowed := true, recurses := true, named := ["aumbry/token.words", "aumbry/token.signs"], apart := false, laid := [("aumbry/token.words", laid_aumbry_token_words), ("aumbry/token.signs", laid_aumbry_token_signs)] }
def TokenWordsSaid : Prop := tokenWordsRow.holds Tryd.pinned (OpenSpec.ofChange tokenWordsSpec)

/-- ITS FALSE NEIGHBOUR: 'it returns false'. Refute it at one input. -/
def tokenWordsWrong : ChangeSpec := { name := "tokenWords", fn := fun _ => fun
  | [d] => { results := [.lit (.bool false)], args := [d] }
  | _ => none }
def TokenWordsWrongFalsely : Prop := tokenWordsRow.holds Tryd.pinned (OpenSpec.ofChange tokenWordsWrong)

/-- 'aumbrylaw14.TokenBack': WHATEVER THE INPUT: true; the input reads as it did. -/
def tokenBackSpec : ChangeSpec := { name := "tokenBack", fn := fun _ => fun
  | [d1, d2] => { results := [.lit (.bool true)], args := [d1, d2] }
  | _ => none }
def tokenBackRow : OpenClaim := { program := "ytcaejcbmkiacmaadoor", sum := "f5774c078ee9c15eceacadd5e353eb98178738a44c4f7333a342956c847dc51a", func := "aumbry/aumbrylaw14.TokenBack", spec := "tokenBack", inPlace := ["internal/bytealg.IndexByteString", "internal/abi.NoEscape"], unfollowed := true, recurses := true, named := ["aumbry/token.words", "aumbry/token.signs"], apart := false, laid := [("aumbry/token.words", laid_aumbry_token_words), ("aumbry/token.signs", laid_aumbry_token_signs)] }
def TokenBackSaid : Prop := tokenBackRow.holds Tryd.pinned (OpenSpec.ofChange tokenBackSpec)

/-- ITS FALSE NEIGHBOUR: 'it returns false'. Refute it at one input. -/
def tokenBackWrong : ChangeSpec := { name := "tokenBack", fn := fun _ => fun
  | [d1, d2] => { results := [.lit (.bool false)], args := [d1, d2] }
  | _ => none }
def TokenBackWrongFalsely : Prop := tokenBackRow.holds Tryd.pinned (OpenSpec.ofChange tokenBackWrong)

/-- 'aumbrylaw14.TokenPlaces': WHATEVER THE INPUT: true; the input reads as it did. -/
def tokenPlacesSpec : ChangeSpec := { name := "tokenPlaces", fn := fun _ => fun
  | [d] => { results := [.lit (.bool true)], args := [d] }
  | _ => none }
def tokenPlacesRow : OpenClaim := { program := "ytcaejcbmkiacmaadoor", sum := "f5774c078ee9c15eceacadd5e353eb98178738a44c4f7333a342956c847dc51a", func := "aumbry/aumbrylaw14.TokenPlaces", spec := "tokenPlaces", inPlace := ["internal/bytealg.IndexByteString", "internal/abi.NoEscape"], unfollowed := true, recurses := true, named := ["aumbry/token.words", "aumbry/token.signs"], apart := false, laid := [("aumbry/token.words", laid_aumbry_token_words), ("aumbry/token.signs", laid_aumbry_token_signs)] }
def TokenPlacesSaid : Prop := tokenPlacesRow.holds Tryd.pinned (OpenSpec.ofChange tokenPlacesSpec)

/-- ITS FALSE NEIGHBOUR: 'it returns false'. Refute it at one input. -/
def tokenPlacesWrong : ChangeSpec := { name := "tokenPlaces", fn := fun _ => fun
  | [d] => { results := [.lit (.bool false)], args := [d] }
  | _ => none }
def TokenPlacesWrongFalsely : Prop := tokenPlacesRow.holds Tryd.pinned (OpenSpec.ofChange tokenPlacesWrong)

/-- 'aumbrylaw14.TokenAhead': WHATEVER THE INPUT: true; the input reads as it did. -/
def tokenAheadSpec : ChangeSpec := { name := "tokenAhead", fn := fun _ => fun
  | [d1, d2] => { results := [.lit (.bool true)], args := [d1, d2] }
  | _ => none }
def tokenAheadRow : OpenClaim := { program := "ytcaejcbmkiacmaadoor", sum := "f5774c078ee9c15eceacadd5e353eb98178738a44c4f7333a342956c847dc51a", func := "aumbry/aumbrylaw14.TokenAhead", spec := "tokenAhead", inPlace := ["internal/bytealg.IndexByteString", "internal/abi.NoEscape"], unfollowed := true, recurses := true, named := ["aumbry/token.words", "aumbry/token.signs"], apart := false, laid := [("aumbry/token.words", laid_aumbry_token_words), ("aumbry/token.signs", laid_aumbry_token_signs)] }
def TokenAheadSaid : Prop := tokenAheadRow.holds Tryd.pinned (OpenSpec.ofChange tokenAheadSpec)

/-- ITS FALSE NEIGHBOUR: 'it returns false'. Refute it at one input. -/
def tokenAheadWrong : ChangeSpec := { name := "tokenAhead", fn := fun _ => fun
  | [d1, d2] => { results := [.lit (.bool false)], args := [d1, d2] }
  | _ => none }
def TokenAheadWrongFalsely : Prop := tokenAheadRow.holds Tryd.pinned (OpenSpec.ofChange tokenAheadWrong)

/-- 'aumbrylaw14.TokenSigns': WHATEVER THE INPUT: true; the input reads as it did. -/
def tokenSignsSpec : ChangeSpec := { name := "tokenSigns", fn := fun _ => fun
  | [d] => { results := [.lit (.bool true)], args := [d] }
  | _ => none }
def tokenSignsRow : OpenClaim := { program := "ytcaejcbmkiacmaadoor", sum := "f5774c078ee9c15eceacadd5e353eb98178738a44c4f7333a342956c847dc51a", func := "aumbry/aumbrylaw14.TokenSigns", spec := "tokenSigns", inPlace := ["internal/bytealg.IndexByteString", "internal/abi.NoEscape"], unfollowed := true, recurses := true, named := ["aumbry/token.words", "aumbry/token.signs"], apart := false, laid := [("aumbry/token.words", laid_aumbry_token_words), ("aumbry/token.signs", laid_aumbry_token_signs)] }
def TokenSignsSaid : Prop := tokenSignsRow.holds Tryd.pinned (OpenSpec.ofChange tokenSignsSpec)

/-- ITS FALSE NEIGHBOUR: 'it returns false'. Refute it at one input. -/
def tokenSignsWrong : ChangeSpec := { name := "tokenSigns", fn := fun _ => fun
  | [d] => { results := [.lit (.bool false)], args := [d] }
  | _ => none }
def TokenSignsWrongFalsely : Prop := tokenSignsRow.holds Tryd.pinned (OpenSpec.ofChange tokenSignsWrong)

/- THE SECOND FORM. 'bulk': how many values and letters a reading holds, each counted each time it is reached (what is shared counts as often as it is met; a slice's spare places count too). A statement '..UptoSaid' is the law's where the arguments, and the package variables that the reading takes, are together of bulk at most 1048576: NARROWER than '..Said'. Prove '..Said' where nothing that the law and all that it calls make is longer than what came in: it says more and counts as full. Else prove '..UptoSaid'. A law counts once. -/
mutual
def uptoBulk {H : Type} : DataW H → Nat
  | .lit (.string bytes) => bytes.length + 1
  | .lit _ => 1
  | .nil => 1
  | .ptr d => uptoBulk d + 1
  | .slice elems spare => uptoBulkAll elems + uptoBulkAll spare + 1
  | .agg parts => uptoBulkAll parts + 1
  | .iface _ d => uptoBulk d + 1
  | .map entries => uptoBulkEntries entries + 1
  | .held _ => 1
def uptoBulkAll {H : Type} : List (DataW H) → Nat
  | [] => 0
  | d :: r => uptoBulk d + uptoBulkAll r
def uptoBulkEntries {H : Type} : List (Lit × DataW H) → Nat
  | [] => 0
  | x :: r => uptoBulkEntry x + uptoBulkEntries r
def uptoBulkEntry {H : Type} : Lit × DataW H → Nat
  | (.string bytes, d) => bytes.length + uptoBulk d + 1
  | (_, d) => uptoBulk d + 1
 end
def uptoSmall : (H : Type) → List (DataW H) → Bool := fun _ ds => decide (uptoBulkAll ds ≤ 1048576)
def OpenSpec.upto (s : _root_.Go.ChangeSpec) : _root_.Go.OpenSpec := { _root_.Go.OpenSpec.ofChange s with cond := some uptoSmall }

/-- 'aumbrylaw14.TokenScans', WHERE WHAT IT READS IS OF BULK AT MOST 1048576: true; the input reads as it did. -/
def tokenScansUptoRow : OpenClaim := { program := "ytcaejcbmkiacmaadoor", sum := "f5774c078ee9c15eceacadd5e353eb98178738a44c4f7333a342956c847dc51a", func := "aumbry/aumbrylaw14.TokenScans", spec := "tokenScans", inPlace := ["internal/bytealg.IndexByteString", "internal/abi.NoEscape"], unfollowed := true, recurses := true, named := ["aumbry/token.words", "aumbry/token.signs"], apart := false, laid := [("aumbry/token.words", laid_aumbry_token_words), ("aumbry/token.signs", laid_aumbry_token_signs)], narrowed := true }
def TokenScansUptoSaid : Prop := tokenScansUptoRow.holds Tryd.pinned (OpenSpec.upto tokenScansSpec)

/-- 'aumbrylaw14.TokenWords', WHERE WHAT IT READS IS OF BULK AT MOST 1048576: true; the input reads as it did. -/
def tokenWordsUptoRow : OpenClaim := { program := "ytcaejcbmkiacmaadoor", sum := "f5774c078ee9c15eceacadd5e353eb98178738a44c4f7333a342956c847dc51a", func := "aumbry/aumbrylaw14.TokenWords", spec := "tokenWords", inPlace := ["internal/bytealg.IndexByteString", "internal/abi.NoEscape"], unfollowed := true, recurses := true, named := ["aumbry/token.words", "aumbry/token.signs"], apart := false, laid := [("aumbry/token.words", laid_aumbry_token_words), ("aumbry/token.signs", laid_aumbry_token_signs)], narrowed := true }
def TokenWordsUptoSaid : Prop := tokenWordsUptoRow.holds Tryd.pinned (OpenSpec.upto tokenWordsSpec)

/-- 'aumbrylaw14.TokenBack', WHERE WHAT IT READS IS OF BULK AT MOST 1048576: true; the input reads as it did. -/
def tokenBackUptoRow : OpenClaim := { program := "ytcaejcbmkiacmaadoor", sum := "f5774c078ee9c15eceacadd5e353eb98178738a44c4f7333a342956c847dc51a", func := "aumbry/aumbrylaw14.TokenBack", spec := "tokenBack", inPlace := ["internal/bytealg.IndexByteString", "internal/abi.NoEscape"], unfollowed := true, recurses := true, named := ["aumbry/token.words", "aumbry/token.signs"], apart := false, laid := [("aumbry/token.words", laid_aumbry_token_words), ("aumbry/token.signs", laid_aumbry_token_signs)], narrowed := true }
def TokenBackUptoSaid : Prop := tokenBackUptoRow.holds Tryd.pinned (OpenSpec.upto tokenBackSpec)

/-- 'aumbrylaw14.TokenPlaces', WHERE WHAT IT READS IS OF BULK AT MOST 1048576: true; the input reads as it did. -/
def tokenPlacesUptoRow : OpenClaim := { program := "ytcaejcbmkiacmaadoor", sum := "f5774c078ee9c15eceacadd5e353eb98178738a44c4f7333a342956c847dc51a", func := "aumbry/aumbrylaw14.TokenPlaces", spec := "tokenPlaces", inPlace := ["internal/bytealg.IndexByteString", "internal/abi.NoEscape"], unfollowed := true, recurses := true, named := ["aumbry/token.words", "aumbry/token.signs"], apart := false, laid := [("aumbry/token.words", laid_aumbry_token_words), ("aumbry/token.signs", laid_aumbry_token_signs)], narrowed := true }
def TokenPlacesUptoSaid : Prop := tokenPlacesUptoRow.holds Tryd.pinned (OpenSpec.upto tokenPlacesSpec)

/-- 'aumbrylaw14.TokenAhead', WHERE WHAT IT READS IS OF BULK AT MOST 1048576: true; the input reads as it did. -/
def tokenAheadUptoRow : OpenClaim := { program := "ytcaejcbmkiacmaadoor", sum := "f5774c078ee9c15eceacadd5e353eb98178738a44c4f7333a342956c847dc51a", func := "aumbry/aumbrylaw14.TokenAhead", spec := "tokenAhead", inPlace := ["internal/bytealg.IndexByteString", "internal/abi.NoEscape"], unfollowed := true, recurses := true, named := ["aumbry/token.words", "aumbry/token.signs"], apart := false, laid := [("aumbry/token.words", laid_aumbry_token_words), ("aumbry/token.signs", laid_aumbry_token_signs)], narrowed := true }
def TokenAheadUptoSaid : Prop := tokenAheadUptoRow.holds Tryd.pinned (OpenSpec.upto tokenAheadSpec)

/-- 'aumbrylaw14.TokenSigns', WHERE WHAT IT READS IS OF BULK AT MOST 1048576: true; the input reads as it did. -/
def tokenSignsUptoRow : OpenClaim := { program := "ytcaejcbmkiacmaadoor", sum := "f5774c078ee9c15eceacadd5e353eb98178738a44c4f7333a342956c847dc51a", func := "aumbry/aumbrylaw14.TokenSigns", spec := "tokenSigns", inPlace := ["internal/bytealg.IndexByteString", "internal/abi.NoEscape"], unfollowed := true, recurses := true, named := ["aumbry/token.words", "aumbry/token.signs"], apart := false, laid := [("aumbry/token.words", laid_aumbry_token_words), ("aumbry/token.signs", laid_aumbry_token_signs)], narrowed := true }
def TokenSignsUptoSaid : Prop := tokenSignsUptoRow.holds Tryd.pinned (OpenSpec.upto tokenSignsSpec)

end Rows
end Go.Proofs.YtcaejcbmkiacmaaDoor
