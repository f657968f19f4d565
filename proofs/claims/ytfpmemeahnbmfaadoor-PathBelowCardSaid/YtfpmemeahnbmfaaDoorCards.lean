/-
  DERIVED. GIVEN WITH THE SEED: THE CARDS: each row of YtfpmemeahnbmfaaDoorRows.lean that lists a variable, with what it lists TIED to the program's text (the seventh form; the later family's looks); each row that meets fmt, with fmt's text TOLD by the authors' own Lean function (tested against real Go, not proved from fmt's source: count such statements apart). THE CARD IS WHAT COUNTS. Prove the row's statement (the work); the ties are given (YtfpmemeahnbmfaaDoorTie.lean); close each card by the builder's one call (the guide's Derived/Test/ToyasCard.lean, 'card_holds'). Laid BY PROGRAM, IN A SANDBOX (cutbox-door.mjs). By AI agents, Wed Nov 11 2026. No macro, syntax, notation, axiom, sorry.
-/
import Derived.Test.YtfpmemeahnbmfaaDoorRows
import GoSem.ClaimSeven
namespace Go.Proofs.YtfpmemeahnbmfaaDoor
namespace Rows

/-- THE TIED CARD OF 'backwaterlaw02.PathSplits'. -/
def pathSplitsCard : Claim7 := { stood := { row := pathSplitsRow, standIns := [], harness := (true, "e678091b45d38b8a4aaaaa860a134daeb73706e52e5fdc00470af620959a6129"), looks := false }, kinds := [], alts := [], laidByText := true, laidKinds := [.data, .pinned], laidTests := true, laidLooks := .later }
def PathSplitsCardSaid : Prop := Claim7.holds Tryd.pinned (.plain (OpenSpec.ofChange pathSplitsSpec)) pathSplitsCard

/-- THE TIED CARD OF 'backwaterlaw02.PathBelow'. -/
def pathBelowCard : Claim7 := { stood := { row := pathBelowRow, standIns := [], harness := (true, "e678091b45d38b8a4aaaaa860a134daeb73706e52e5fdc00470af620959a6129"), looks := false }, kinds := [], alts := [], laidByText := true, laidKinds := [.data, .pinned], laidTests := true, laidLooks := .later }
def PathBelowCardSaid : Prop := Claim7.holds Tryd.pinned (.plain (OpenSpec.ofChange pathBelowSpec)) pathBelowCard

/-- THE TIED CARD OF 'backwaterlaw02.PathForms'. -/
def pathFormsCard : Claim7 := { stood := { row := pathFormsRow, standIns := [], harness := (true, "e678091b45d38b8a4aaaaa860a134daeb73706e52e5fdc00470af620959a6129"), looks := false }, kinds := [], alts := [], laidByText := true, laidKinds := [.data, .pinned], laidTests := true, laidLooks := .later }
def PathFormsCardSaid : Prop := Claim7.holds Tryd.pinned (.plain (OpenSpec.ofChange pathFormsSpec)) pathFormsCard

/-- THE SECOND FORM's CARD OF 'backwaterlaw02.PathSplits'. -/
def pathSplitsUptoCard : Claim7 := { stood := { row := pathSplitsUptoRow, standIns := [], harness := (true, "e678091b45d38b8a4aaaaa860a134daeb73706e52e5fdc00470af620959a6129"), looks := false }, kinds := [], alts := [], laidByText := true, laidKinds := [.data, .pinned], laidTests := true, laidLooks := .later }
def PathSplitsUptoCardSaid : Prop := Claim7.holds Tryd.pinned (.plain (OpenSpec.upto pathSplitsSpec)) pathSplitsUptoCard

/-- THE SECOND FORM's CARD OF 'backwaterlaw02.PathBelow'. -/
def pathBelowUptoCard : Claim7 := { stood := { row := pathBelowUptoRow, standIns := [], harness := (true, "e678091b45d38b8a4aaaaa860a134daeb73706e52e5fdc00470af620959a6129"), looks := false }, kinds := [], alts := [], laidByText := true, laidKinds := [.data, .pinned], laidTests := true, laidLooks := .later }
def PathBelowUptoCardSaid : Prop := Claim7.holds Tryd.pinned (.plain (OpenSpec.upto pathBelowSpec)) pathBelowUptoCard

/-- THE SECOND FORM's CARD OF 'backwaterlaw02.PathForms'. -/
def pathFormsUptoCard : Claim7 := { stood := { row := pathFormsUptoRow, standIns := [], harness := (true, "e678091b45d38b8a4aaaaa860a134daeb73706e52e5fdc00470af620959a6129"), looks := false }, kinds := [], alts := [], laidByText := true, laidKinds := [.data, .pinned], laidTests := true, laidLooks := .later }
def PathFormsUptoCardSaid : Prop := Claim7.holds Tryd.pinned (.plain (OpenSpec.upto pathFormsSpec)) pathFormsUptoCard
end Rows
end Go.Proofs.YtfpmemeahnbmfaaDoor
