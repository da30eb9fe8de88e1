/-
  DERIVED. GIVEN WITH THE SEED: THE CARDS: each row of YtlfongfoddlhjaaDoorRows.lean that lists a variable, with what it lists TIED to the program's text (the seventh form; the later family's looks); each row that meets fmt, with fmt's text TOLD by the authors' own Lean function (tested against real Go, not proved from fmt's source: count such statements apart). THE CARD IS WHAT COUNTS. Prove the row's statement (the work); the ties are given (YtlfongfoddlhjaaDoorTie.lean); close each card by the builder's one call (the guide's Derived/Test/ToyasCard.lean, 'card_holds'). Laid BY PROGRAM, IN A SANDBOX (cutbox-door.mjs). By AI agents, Wed Nov 11 2026. No macro, syntax, notation, axiom, sorry.
-/
import Derived.Test.YtlfongfoddlhjaaDoorRows
import GoSem.ClaimSeven
namespace Go.Proofs.YtlfongfoddlhjaaDoor
namespace Rows

/-- THE TIED CARD OF 'lodgerlaw14.StoreLately'. -/
def storeLatelyCard : Claim7 := { stood := { row := storeLatelyRow, standIns := [], harness := (true, "f0735fb2d95bbdd331cb858f8b60664da0350c0c346b83bfa321823b4976851e"), looks := false }, kinds := [], alts := [], laidByText := true, laidKinds := [.data, .pinned], laidTests := true, laidLooks := .later }
def StoreLatelyCardSaid : Prop := Claim7.holds Tryd.pinned (.plain (OpenSpec.ofChange storeLatelySpec)) storeLatelyCard

/-- THE SECOND FORM's CARD OF 'lodgerlaw14.StoreLately'. -/
def storeLatelyUptoCard : Claim7 := { stood := { row := storeLatelyUptoRow, standIns := [], harness := (true, "f0735fb2d95bbdd331cb858f8b60664da0350c0c346b83bfa321823b4976851e"), looks := false }, kinds := [], alts := [], laidByText := true, laidKinds := [.data, .pinned], laidTests := true, laidLooks := .later }
def StoreLatelyUptoCardSaid : Prop := Claim7.holds Tryd.pinned (.plain (OpenSpec.upto storeLatelySpec)) storeLatelyUptoCard
end Rows
end Go.Proofs.YtlfongfoddlhjaaDoor
