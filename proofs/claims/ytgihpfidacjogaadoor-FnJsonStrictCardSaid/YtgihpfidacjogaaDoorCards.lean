/-
  DERIVED. GIVEN WITH THE SEED: THE CARDS: each row of YtgihpfidacjogaaDoorRows.lean that lists a variable, with what it lists TIED to the program's text (the seventh form; the later family's looks); each row that meets fmt, with fmt's text TOLD by the authors' own Lean function (tested against real Go, not proved from fmt's source: count such statements apart). THE CARD IS WHAT COUNTS. Prove the row's statement (the work); the ties are given (YtgihpfidacjogaaDoorTie.lean); close each card by the builder's one call (the guide's Derived/Test/ToyasCard.lean, 'card_holds'). Laid BY PROGRAM, IN A SANDBOX (cutbox-door.mjs). By AI agents, Wed Nov 11 2026. No macro, syntax, notation, axiom, sorry.
-/
import Derived.Test.YtgihpfidacjogaaDoorRows
import GoSem.ClaimSeven
namespace Go.Proofs.YtgihpfidacjogaaDoor
namespace Rows

/-- THE TIED CARD OF 'laws.FnJsonStrict'. -/
def fnJsonStrictCard : Claim7 := { stood := { row := fnJsonStrictRow, standIns := [], harness := (true, "b1c4328919ea8b6de3f7cd2267af679feb3ee447ba334ce795b6329c88993b1f"), looks := false }, kinds := [], alts := [], laidByText := true, laidKinds := [.data, .pinned], laidTests := true, laidLooks := .later }
def FnJsonStrictCardSaid : Prop := Claim7.holds Tryd.pinned (.plain (OpenSpec.ofChange fnJsonStrictSpec)) fnJsonStrictCard

/-- THE SECOND FORM's CARD OF 'laws.FnJsonStrict'. -/
def fnJsonStrictUptoCard : Claim7 := { stood := { row := fnJsonStrictUptoRow, standIns := [], harness := (true, "b1c4328919ea8b6de3f7cd2267af679feb3ee447ba334ce795b6329c88993b1f"), looks := false }, kinds := [], alts := [], laidByText := true, laidKinds := [.data, .pinned], laidTests := true, laidLooks := .later }
def FnJsonStrictUptoCardSaid : Prop := Claim7.holds Tryd.pinned (.plain (OpenSpec.upto fnJsonStrictSpec)) fnJsonStrictUptoCard
end Rows
end Go.Proofs.YtgihpfidacjogaaDoor
