/-
  DERIVED. GIVEN WITH THE SEED: THE CARDS: each row of YtkcbmkoafmffoaaDoorRows.lean that lists a variable, with what it lists TIED to the program's text (the seventh form; the later family's looks); each row that meets fmt, with fmt's text TOLD by the authors' own Lean function (tested against real Go, not proved from fmt's source: count such statements apart). THE CARD IS WHAT COUNTS. Prove the row's statement (the work); the ties are given (YtkcbmkoafmffoaaDoorTie.lean); close each card by the builder's one call (the guide's Derived/Test/ToyasCard.lean, 'card_holds'). Laid BY PROGRAM, IN A SANDBOX (cutbox-door.mjs). By AI agents, Wed Nov 11 2026. No macro, syntax, notation, axiom, sorry.
-/
import Derived.Test.YtkcbmkoafmffoaaDoorRows
import GoSem.ClaimSeven
namespace Go.Proofs.YtkcbmkoafmffoaaDoor
namespace Rows

/-- THE TIED CARD OF 'geodelaw04.KindWriting'. -/
def kindWritingCard : Claim7 := { stood := { row := kindWritingRow, standIns := [], harness := (true, "2cae2a0767a63fe9bd9b9d6b95322cc714da26f669599c9bac5a2de315c4fcfe"), looks := false }, kinds := [], alts := [], laidByText := true, laidKinds := [.data, .data, .data], laidTests := true, laidLooks := .later }
def KindWritingCardSaid : Prop := Claim7.holds Tryd.pinned (.plain (OpenSpec.ofChange kindWritingSpec)) kindWritingCard

/-- THE TIED CARD OF 'geodelaw09.RollOnce'. -/
def rollOnceCard : Claim7 := { stood := { row := rollOnceRow, standIns := [], harness := (true, "2cae2a0767a63fe9bd9b9d6b95322cc714da26f669599c9bac5a2de315c4fcfe"), looks := false }, kinds := [], alts := [], laidByText := true, laidKinds := [.data, .data, .data], laidTests := true, laidLooks := .later }
def RollOnceCardSaid : Prop := Claim7.holds Tryd.pinned (.plain (OpenSpec.ofChange rollOnceSpec)) rollOnceCard

/-- THE TIED CARD OF 'geodelaw09.RollClose'. -/
def rollCloseCard : Claim7 := { stood := { row := rollCloseRow, standIns := [], harness := (true, "2cae2a0767a63fe9bd9b9d6b95322cc714da26f669599c9bac5a2de315c4fcfe"), looks := false }, kinds := [], alts := [], laidByText := true, laidKinds := [.data, .data, .data], laidTests := true, laidLooks := .later }
def RollCloseCardSaid : Prop := Claim7.holds Tryd.pinned (.plain (OpenSpec.ofChange rollCloseSpec)) rollCloseCard

/-- THE TIED CARD OF 'geodelaw09.RollGets'. -/
def rollGetsCard : Claim7 := { stood := { row := rollGetsRow, standIns := [], harness := (true, "2cae2a0767a63fe9bd9b9d6b95322cc714da26f669599c9bac5a2de315c4fcfe"), looks := false }, kinds := [], alts := [], laidByText := true, laidKinds := [.data, .data, .data], laidTests := true, laidLooks := .later }
def RollGetsCardSaid : Prop := Claim7.holds Tryd.pinned (.plain (OpenSpec.ofChange rollGetsSpec)) rollGetsCard

/-- THE TIED CARD OF 'geodelaw09.RollPlays'. -/
def rollPlaysCard : Claim7 := { stood := { row := rollPlaysRow, standIns := [], harness := (true, "2cae2a0767a63fe9bd9b9d6b95322cc714da26f669599c9bac5a2de315c4fcfe"), looks := false }, kinds := [], alts := [], laidByText := true, laidKinds := [.data, .data, .data], laidTests := true, laidLooks := .later }
def RollPlaysCardSaid : Prop := Claim7.holds Tryd.pinned (.plain (OpenSpec.ofChange rollPlaysSpec)) rollPlaysCard

/-- THE TIED CARD OF 'geodelaw09.RollNone'. -/
def rollNoneCard : Claim7 := { stood := { row := rollNoneRow, standIns := [], harness := (true, "2cae2a0767a63fe9bd9b9d6b95322cc714da26f669599c9bac5a2de315c4fcfe"), looks := false }, kinds := [], alts := [], laidByText := true, laidKinds := [.data, .data, .data], laidTests := true, laidLooks := .later }
def RollNoneCardSaid : Prop := Claim7.holds Tryd.pinned (.plain (OpenSpec.ofChange rollNoneSpec)) rollNoneCard

/-- THE SECOND FORM's CARD OF 'geodelaw04.KindWriting'. -/
def kindWritingUptoCard : Claim7 := { stood := { row := kindWritingUptoRow, standIns := [], harness := (true, "2cae2a0767a63fe9bd9b9d6b95322cc714da26f669599c9bac5a2de315c4fcfe"), looks := false }, kinds := [], alts := [], laidByText := true, laidKinds := [.data, .data, .data], laidTests := true, laidLooks := .later }
def KindWritingUptoCardSaid : Prop := Claim7.holds Tryd.pinned (.plain (OpenSpec.upto kindWritingSpec)) kindWritingUptoCard

/-- THE SECOND FORM's CARD OF 'geodelaw09.RollOnce'. -/
def rollOnceUptoCard : Claim7 := { stood := { row := rollOnceUptoRow, standIns := [], harness := (true, "2cae2a0767a63fe9bd9b9d6b95322cc714da26f669599c9bac5a2de315c4fcfe"), looks := false }, kinds := [], alts := [], laidByText := true, laidKinds := [.data, .data, .data], laidTests := true, laidLooks := .later }
def RollOnceUptoCardSaid : Prop := Claim7.holds Tryd.pinned (.plain (OpenSpec.upto rollOnceSpec)) rollOnceUptoCard

/-- THE SECOND FORM's CARD OF 'geodelaw09.RollClose'. -/
def rollCloseUptoCard : Claim7 := { stood := { row := rollCloseUptoRow, standIns := [], harness := (true, "2cae2a0767a63fe9bd9b9d6b95322cc714da26f669599c9bac5a2de315c4fcfe"), looks := false }, kinds := [], alts := [], laidByText := true, laidKinds := [.data, .data, .data], laidTests := true, laidLooks := .later }
def RollCloseUptoCardSaid : Prop := Claim7.holds Tryd.pinned (.plain (OpenSpec.upto rollCloseSpec)) rollCloseUptoCard

/-- THE SECOND FORM's CARD OF 'geodelaw09.RollGets'. -/
def rollGetsUptoCard : Claim7 := { stood := { row := rollGetsUptoRow, standIns := [], harness := (true, "2cae2a0767a63fe9bd9b9d6b95322cc714da26f669599c9bac5a2de315c4fcfe"), looks := false }, kinds := [], alts := [], laidByText := true, laidKinds := [.data, .data, .data], laidTests := true, laidLooks := .later }
def RollGetsUptoCardSaid : Prop := Claim7.holds Tryd.pinned (.plain (OpenSpec.upto rollGetsSpec)) rollGetsUptoCard

/-- THE SECOND FORM's CARD OF 'geodelaw09.RollPlays'. -/
def rollPlaysUptoCard : Claim7 := { stood := { row := rollPlaysUptoRow, standIns := [], harness := (true, "2cae2a0767a63fe9bd9b9d6b95322cc714da26f669599c9bac5a2de315c4fcfe"), looks := false }, kinds := [], alts := [], laidByText := true, laidKinds := [.data, .data, .data], laidTests := true, laidLooks := .later }
def RollPlaysUptoCardSaid : Prop := Claim7.holds Tryd.pinned (.plain (OpenSpec.upto rollPlaysSpec)) rollPlaysUptoCard

/-- THE SECOND FORM's CARD OF 'geodelaw09.RollNone'. -/
def rollNoneUptoCard : Claim7 := { stood := { row := rollNoneUptoRow, standIns := [], harness := (true, "2cae2a0767a63fe9bd9b9d6b95322cc714da26f669599c9bac5a2de315c4fcfe"), looks := false }, kinds := [], alts := [], laidByText := true, laidKinds := [.data, .data, .data], laidTests := true, laidLooks := .later }
def RollNoneUptoCardSaid : Prop := Claim7.holds Tryd.pinned (.plain (OpenSpec.upto rollNoneSpec)) rollNoneUptoCard
end Rows
end Go.Proofs.YtkcbmkoafmffoaaDoor
