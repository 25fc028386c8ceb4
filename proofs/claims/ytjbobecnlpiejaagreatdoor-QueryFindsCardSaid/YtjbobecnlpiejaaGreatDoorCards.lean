/-
  DERIVED. GIVEN WITH THE SEED: THE CARDS: each row of YtjbobecnlpiejaaGreatDoorRows.lean that lists a variable, with what it lists TIED to the program's text (the seventh form; the later family's looks); each row that meets fmt, with fmt's text TOLD by the authors' own Lean function (tested against real Go, not proved from fmt's source: count such statements apart). THE CARD IS WHAT COUNTS. Prove the row's statement (the work); the ties are given (YtjbobecnlpiejaaGreatDoorTie.lean); close each card by the builder's one call (the guide's Derived/Test/ToyasCard.lean, 'card_holds'). Laid BY PROGRAM, IN A SANDBOX (cutbox-door.mjs). By AI agents, Wed Nov 11 2026. No macro, syntax, notation, axiom, sorry.
-/
import Derived.Test.YtjbobecnlpiejaaGreatDoorRows
import GoSem.ClaimSeven
namespace Go.Proofs.YtjbobecnlpiejaaGreatDoor
namespace Rows

/-- THE TIED CARD OF 'tendrillaw22.QueryBack'. -/
def queryBackCard : Claim7 := { stood := { row := queryBackRow, standIns := [], harness := (true, "66a03df8c974483608f90e1b93fc84a6ea81e40fa6bde88cbb4952b51c503434"), looks := true }, kinds := [], alts := [], laidByText := true, laidKinds := [.data, .data, .data, .sentinel, .sentinel], laidTests := true, laidLooks := .later }
def QueryBackCardSaid : Prop := Claim7.holds Tryz.pinned (.plain (OpenSpec.ofChange queryBackSpec)) queryBackCard

/-- THE TIED CARD OF 'tendrillaw22.QueryFinds'. -/
def queryFindsCard : Claim7 := { stood := { row := queryFindsRow, standIns := [], harness := (true, "66a03df8c974483608f90e1b93fc84a6ea81e40fa6bde88cbb4952b51c503434"), looks := true }, kinds := [], alts := [], laidByText := true, laidKinds := [.data, .data, .data, .sentinel, .sentinel], laidTests := true, laidLooks := .later }
def QueryFindsCardSaid : Prop := Claim7.holds Tryz.pinned (.plain (OpenSpec.ofChange queryFindsSpec)) queryFindsCard

/-- THE SECOND FORM's CARD OF 'tendrillaw22.QueryBack'. -/
def queryBackUptoCard : Claim7 := { stood := { row := queryBackUptoRow, standIns := [], harness := (true, "66a03df8c974483608f90e1b93fc84a6ea81e40fa6bde88cbb4952b51c503434"), looks := true }, kinds := [], alts := [], laidByText := true, laidKinds := [.data, .data, .data, .sentinel, .sentinel], laidTests := true, laidLooks := .later }
def QueryBackUptoCardSaid : Prop := Claim7.holds Tryz.pinned (.plain (OpenSpec.upto queryBackSpec)) queryBackUptoCard

/-- THE SECOND FORM's CARD OF 'tendrillaw22.QueryFinds'. -/
def queryFindsUptoCard : Claim7 := { stood := { row := queryFindsUptoRow, standIns := [], harness := (true, "66a03df8c974483608f90e1b93fc84a6ea81e40fa6bde88cbb4952b51c503434"), looks := true }, kinds := [], alts := [], laidByText := true, laidKinds := [.data, .data, .data, .sentinel, .sentinel], laidTests := true, laidLooks := .later }
def QueryFindsUptoCardSaid : Prop := Claim7.holds Tryz.pinned (.plain (OpenSpec.upto queryFindsSpec)) queryFindsUptoCard
end Rows
end Go.Proofs.YtjbobecnlpiejaaGreatDoor
