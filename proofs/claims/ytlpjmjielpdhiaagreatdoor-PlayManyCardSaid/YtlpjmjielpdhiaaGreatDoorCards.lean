/-
  DERIVED. GIVEN WITH THE SEED: THE CARDS: each row of YtlpjmjielpdhiaaGreatDoorRows.lean that lists a variable, with what it lists TIED to the program's text (the seventh form; the later family's looks); each row that meets fmt, with fmt's text TOLD by the authors' own Lean function (tested against real Go, not proved from fmt's source: count such statements apart). THE CARD IS WHAT COUNTS. Prove the row's statement (the work); the ties are given (YtlpjmjielpdhiaaGreatDoorTie.lean); close each card by the builder's one call (the guide's Derived/Test/ToyasCard.lean, 'card_holds'). Laid BY PROGRAM, IN A SANDBOX (cutbox-door.mjs). By AI agents, Wed Nov 11 2026. No macro, syntax, notation, axiom, sorry.
-/
import Derived.Test.YtlpjmjielpdhiaaGreatDoorRows
import GoSem.ClaimSeven
namespace Go.Proofs.YtlpjmjielpdhiaaGreatDoor
namespace Rows

/-- THE TIED CARD OF 'tendrillaw45.PlayMany'. -/
def playManyCard : Claim7 := { stood := { row := playManyRow, standIns := [], harness := (true, "14f324ab25c5d6e519c0714bba25e07948a18e4918b3c88d148a1cedd7ecf156"), looks := true }, kinds := [], alts := [], laidByText := true, laidKinds := [.data, .data, .data, .sentinel, .sentinel], laidTests := true, laidLooks := .later }
def PlayManyCardSaid : Prop := Claim7.holds Tryz.pinned (.plain (OpenSpec.ofChange playManySpec)) playManyCard

/-- THE SECOND FORM's CARD OF 'tendrillaw45.PlayMany'. -/
def playManyUptoCard : Claim7 := { stood := { row := playManyUptoRow, standIns := [], harness := (true, "14f324ab25c5d6e519c0714bba25e07948a18e4918b3c88d148a1cedd7ecf156"), looks := true }, kinds := [], alts := [], laidByText := true, laidKinds := [.data, .data, .data, .sentinel, .sentinel], laidTests := true, laidLooks := .later }
def PlayManyUptoCardSaid : Prop := Claim7.holds Tryz.pinned (.plain (OpenSpec.upto playManySpec)) playManyUptoCard
end Rows
end Go.Proofs.YtlpjmjielpdhiaaGreatDoor
