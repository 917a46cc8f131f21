/-
  DERIVED. GIVEN WITH THE SEED: THE CARDS: each row of YtnhjcjnjpciifaaDoorRows.lean that lists a variable, with what it lists TIED to the program's text (the seventh form; the later family's looks); each row that meets fmt, with fmt's text TOLD by the authors' own Lean function (tested against real Go, not proved from fmt's source: count such statements apart). THE CARD IS WHAT COUNTS. Prove the row's statement (the work); the ties are given (YtnhjcjnjpciifaaDoorTie.lean); close each card by the builder's one call (the guide's Derived/Test/ToyasCard.lean, 'card_holds'). Laid BY PROGRAM, IN A SANDBOX (cutbox-door.mjs). By AI agents, Wed Nov 11 2026. No macro, syntax, notation, axiom, sorry.
-/
import Derived.Test.YtnhjcjnjpciifaaDoorRows
import GoSem.ClaimSeven
namespace Go.Proofs.YtnhjcjnjpciifaaDoor
namespace Rows

/-- THE TIED CARD OF 'glacierlaw8.ManifestSteps'. -/
def manifestStepsCard : Claim7 := { stood := { row := manifestStepsRow, standIns := [], harness := (true, "a7a6754e2399178b0f38f9483e1166561e51de0a1cabb49d69b325a42c13453a"), looks := true }, kinds := [], alts := [], laidByText := true, laidKinds := [.data, .data, .data], laidTests := true, laidLooks := .later }
def ManifestStepsCardSaid : Prop := Claim7.holds Tryd.pinned (.plain (OpenSpec.ofChange manifestStepsSpec)) manifestStepsCard

/-- THE TIED CARD OF 'glacierlaw4.WalTorn'. -/
def walTornCard : Claim7 := { stood := { row := walTornRow, standIns := [], harness := (true, "a7a6754e2399178b0f38f9483e1166561e51de0a1cabb49d69b325a42c13453a"), looks := true }, kinds := [], alts := [], laidByText := true, laidKinds := [.data, .data, .data, .sentinel, .sentinel], laidTests := true, laidLooks := .later }
def WalTornCardSaid : Prop := Claim7.holds Tryd.pinned (.plain (OpenSpec.ofChange walTornSpec)) walTornCard

/-- THE TIED CARD OF 'glacierlaw4.WalKeeps'. -/
def walKeepsCard : Claim7 := { stood := { row := walKeepsRow, standIns := [], harness := (true, "a7a6754e2399178b0f38f9483e1166561e51de0a1cabb49d69b325a42c13453a"), looks := true }, kinds := [], alts := [], laidByText := true, laidKinds := [.data, .data, .data, .sentinel, .sentinel], laidTests := true, laidLooks := .later }
def WalKeepsCardSaid : Prop := Claim7.holds Tryd.pinned (.plain (OpenSpec.ofChange walKeepsSpec)) walKeepsCard

/-- THE TIED CARD OF 'glacierlaw4.WalSpans'. -/
def walSpansCard : Claim7 := { stood := { row := walSpansRow, standIns := [], harness := (true, "a7a6754e2399178b0f38f9483e1166561e51de0a1cabb49d69b325a42c13453a"), looks := true }, kinds := [], alts := [], laidByText := true, laidKinds := [.data, .data, .data, .sentinel, .sentinel], laidTests := true, laidLooks := .later }
def WalSpansCardSaid : Prop := Claim7.holds Tryd.pinned (.plain (OpenSpec.ofChange walSpansSpec)) walSpansCard

/-- THE SECOND FORM's CARD OF 'glacierlaw8.ManifestSteps'. -/
def manifestStepsUptoCard : Claim7 := { stood := { row := manifestStepsUptoRow, standIns := [], harness := (true, "a7a6754e2399178b0f38f9483e1166561e51de0a1cabb49d69b325a42c13453a"), looks := true }, kinds := [], alts := [], laidByText := true, laidKinds := [.data, .data, .data], laidTests := true, laidLooks := .later }
def ManifestStepsUptoCardSaid : Prop := Claim7.holds Tryd.pinned (.plain (OpenSpec.upto manifestStepsSpec)) manifestStepsUptoCard

/-- THE SECOND FORM's CARD OF 'glacierlaw4.WalTorn'. -/
def walTornUptoCard : Claim7 := { stood := { row := walTornUptoRow, standIns := [], harness := (true, "a7a6754e2399178b0f38f9483e1166561e51de0a1cabb49d69b325a42c13453a"), looks := true }, kinds := [], alts := [], laidByText := true, laidKinds := [.data, .data, .data, .sentinel, .sentinel], laidTests := true, laidLooks := .later }
def WalTornUptoCardSaid : Prop := Claim7.holds Tryd.pinned (.plain (OpenSpec.upto walTornSpec)) walTornUptoCard

/-- THE SECOND FORM's CARD OF 'glacierlaw4.WalKeeps'. -/
def walKeepsUptoCard : Claim7 := { stood := { row := walKeepsUptoRow, standIns := [], harness := (true, "a7a6754e2399178b0f38f9483e1166561e51de0a1cabb49d69b325a42c13453a"), looks := true }, kinds := [], alts := [], laidByText := true, laidKinds := [.data, .data, .data, .sentinel, .sentinel], laidTests := true, laidLooks := .later }
def WalKeepsUptoCardSaid : Prop := Claim7.holds Tryd.pinned (.plain (OpenSpec.upto walKeepsSpec)) walKeepsUptoCard

/-- THE SECOND FORM's CARD OF 'glacierlaw4.WalSpans'. -/
def walSpansUptoCard : Claim7 := { stood := { row := walSpansUptoRow, standIns := [], harness := (true, "a7a6754e2399178b0f38f9483e1166561e51de0a1cabb49d69b325a42c13453a"), looks := true }, kinds := [], alts := [], laidByText := true, laidKinds := [.data, .data, .data, .sentinel, .sentinel], laidTests := true, laidLooks := .later }
def WalSpansUptoCardSaid : Prop := Claim7.holds Tryd.pinned (.plain (OpenSpec.upto walSpansSpec)) walSpansUptoCard
end Rows
end Go.Proofs.YtnhjcjnjpciifaaDoor
