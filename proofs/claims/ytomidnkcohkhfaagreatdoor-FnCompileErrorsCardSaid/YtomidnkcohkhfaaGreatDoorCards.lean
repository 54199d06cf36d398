/-
  DERIVED. GIVEN WITH THE SEED: THE CARDS: each row of YtomidnkcohkhfaaGreatDoorRows.lean that lists a variable, with what it lists TIED to the program's text (the seventh form; the later family's looks); each row that meets fmt, with fmt's text TOLD by the authors' own Lean function (tested against real Go, not proved from fmt's source: count such statements apart). THE CARD IS WHAT COUNTS. Prove the row's statement (the work); the ties are given (YtomidnkcohkhfaaGreatDoorTie.lean); close each card by the builder's one call (the guide's Derived/Test/ToyasCard.lean, 'card_holds'). Laid BY PROGRAM, IN A SANDBOX (cutbox-door.mjs). By AI agents, Wed Nov 11 2026. No macro, syntax, notation, axiom, sorry.
-/
import Derived.Test.YtomidnkcohkhfaaGreatDoorRows
import GoSem.ClaimSeven
namespace Go.Proofs.YtomidnkcohkhfaaGreatDoor
namespace Rows

/-- THE TIED CARD OF 'laws.FnPipeTexts'. -/
def fnPipeTextsCard : Claim7 := { stood := { row := fnPipeTextsRow, standIns := [], harness := (true, "0f18489b46fec1e4c2949df5c6ab6e9ef52d0d1593a6189658338f365653e5a2"), looks := true }, kinds := [], alts := [], laidByText := true, laidKinds := [.data, .data, .data, .data, .sentinel, .sentinel, .pinned], laidTests := true, laidLooks := .later }
def FnPipeTextsCardSaid : Prop := Claim7.holds Tryz.pinned (.plain (OpenSpec.ofChange fnPipeTextsSpec)) fnPipeTextsCard

/-- THE TIED CARD OF 'laws.FnCompileErrors'. -/
def fnCompileErrorsCard : Claim7 := { stood := { row := fnCompileErrorsRow, standIns := [], harness := (true, "0f18489b46fec1e4c2949df5c6ab6e9ef52d0d1593a6189658338f365653e5a2"), looks := true }, kinds := [], alts := [], laidByText := true, laidKinds := [.data, .data, .data, .data, .sentinel, .sentinel, .pinned], laidTests := true, laidLooks := .later }
def FnCompileErrorsCardSaid : Prop := Claim7.holds Tryz.pinned (.plain (OpenSpec.ofChange fnCompileErrorsSpec)) fnCompileErrorsCard

/-- THE SECOND FORM's CARD OF 'laws.FnPipeTexts'. -/
def fnPipeTextsUptoCard : Claim7 := { stood := { row := fnPipeTextsUptoRow, standIns := [], harness := (true, "0f18489b46fec1e4c2949df5c6ab6e9ef52d0d1593a6189658338f365653e5a2"), looks := true }, kinds := [], alts := [], laidByText := true, laidKinds := [.data, .data, .data, .data, .sentinel, .sentinel, .pinned], laidTests := true, laidLooks := .later }
def FnPipeTextsUptoCardSaid : Prop := Claim7.holds Tryz.pinned (.plain (OpenSpec.upto fnPipeTextsSpec)) fnPipeTextsUptoCard

/-- THE SECOND FORM's CARD OF 'laws.FnCompileErrors'. -/
def fnCompileErrorsUptoCard : Claim7 := { stood := { row := fnCompileErrorsUptoRow, standIns := [], harness := (true, "0f18489b46fec1e4c2949df5c6ab6e9ef52d0d1593a6189658338f365653e5a2"), looks := true }, kinds := [], alts := [], laidByText := true, laidKinds := [.data, .data, .data, .data, .sentinel, .sentinel, .pinned], laidTests := true, laidLooks := .later }
def FnCompileErrorsUptoCardSaid : Prop := Claim7.holds Tryz.pinned (.plain (OpenSpec.upto fnCompileErrorsSpec)) fnCompileErrorsUptoCard
end Rows
end Go.Proofs.YtomidnkcohkhfaaGreatDoor
