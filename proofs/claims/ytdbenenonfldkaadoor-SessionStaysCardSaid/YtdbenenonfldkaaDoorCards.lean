/-
  DERIVED. GIVEN WITH THE SEED: THE CARDS: each row of YtdbenenonfldkaaDoorRows.lean that lists a variable, with what it lists TIED to the program's text (the seventh form; the later family's looks); each row that meets fmt, with fmt's text TOLD by the authors' own Lean function (tested against real Go, not proved from fmt's source: count such statements apart). THE CARD IS WHAT COUNTS. Prove the row's statement (the work); the ties are given (YtdbenenonfldkaaDoorTie.lean); close each card by the builder's one call (the guide's Derived/Test/ToyasCard.lean, 'card_holds'). Laid BY PROGRAM, IN A SANDBOX (cutbox-door.mjs). By AI agents, Wed Nov 11 2026. No macro, syntax, notation, axiom, sorry.
-/
import Derived.Test.YtdbenenonfldkaaDoorRows
import GoSem.ClaimSeven
namespace Go.Proofs.YtdbenenonfldkaaDoor
namespace Rows

/-- THE TIED CARD OF 'funicularlaw29.SessionNumbers'. -/
def sessionNumbersCard : Claim7 := { stood := { row := sessionNumbersRow, standIns := [], harness := (true, "655802043e6848f00c4a31f278b0a459324e2274c12fcd7bda2207e4c85f0db5"), looks := false }, kinds := [], alts := [], laidByText := true, laidKinds := [.data, .data, .data], laidTests := true, laidLooks := .later }
def SessionNumbersCardSaid : Prop := Claim7.holds Tryd.pinned (.plain (OpenSpec.ofChange sessionNumbersSpec)) sessionNumbersCard

/-- THE TIED CARD OF 'funicularlaw29.SessionOpens'. -/
def sessionOpensCard : Claim7 := { stood := { row := sessionOpensRow, standIns := [], harness := (true, "655802043e6848f00c4a31f278b0a459324e2274c12fcd7bda2207e4c85f0db5"), looks := false }, kinds := [], alts := [], laidByText := true, laidKinds := [.data, .data, .data], laidTests := true, laidLooks := .later }
def SessionOpensCardSaid : Prop := Claim7.holds Tryd.pinned (.plain (OpenSpec.ofChange sessionOpensSpec)) sessionOpensCard

/-- THE TIED CARD OF 'funicularlaw29.SessionStays'. -/
def sessionStaysCard : Claim7 := { stood := { row := sessionStaysRow, standIns := [], harness := (true, "655802043e6848f00c4a31f278b0a459324e2274c12fcd7bda2207e4c85f0db5"), looks := false }, kinds := [], alts := [], laidByText := true, laidKinds := [.data, .data, .data], laidTests := true, laidLooks := .later }
def SessionStaysCardSaid : Prop := Claim7.holds Tryd.pinned (.plain (OpenSpec.ofChange sessionStaysSpec)) sessionStaysCard

/-- THE TIED CARD OF 'funicularlaw29.SessionMessages'. -/
def sessionMessagesCard : Claim7 := { stood := { row := sessionMessagesRow, standIns := [], harness := (true, "655802043e6848f00c4a31f278b0a459324e2274c12fcd7bda2207e4c85f0db5"), looks := false }, kinds := [], alts := [], laidByText := true, laidKinds := [.data, .data, .data], laidTests := true, laidLooks := .later }
def SessionMessagesCardSaid : Prop := Claim7.holds Tryd.pinned (.plain (OpenSpec.ofChange sessionMessagesSpec)) sessionMessagesCard

/-- THE SECOND FORM's CARD OF 'funicularlaw29.SessionNumbers'. -/
def sessionNumbersUptoCard : Claim7 := { stood := { row := sessionNumbersUptoRow, standIns := [], harness := (true, "655802043e6848f00c4a31f278b0a459324e2274c12fcd7bda2207e4c85f0db5"), looks := false }, kinds := [], alts := [], laidByText := true, laidKinds := [.data, .data, .data], laidTests := true, laidLooks := .later }
def SessionNumbersUptoCardSaid : Prop := Claim7.holds Tryd.pinned (.plain (OpenSpec.upto sessionNumbersSpec)) sessionNumbersUptoCard

/-- THE SECOND FORM's CARD OF 'funicularlaw29.SessionOpens'. -/
def sessionOpensUptoCard : Claim7 := { stood := { row := sessionOpensUptoRow, standIns := [], harness := (true, "655802043e6848f00c4a31f278b0a459324e2274c12fcd7bda2207e4c85f0db5"), looks := false }, kinds := [], alts := [], laidByText := true, laidKinds := [.data, .data, .data], laidTests := true, laidLooks := .later }
def SessionOpensUptoCardSaid : Prop := Claim7.holds Tryd.pinned (.plain (OpenSpec.upto sessionOpensSpec)) sessionOpensUptoCard

/-- THE SECOND FORM's CARD OF 'funicularlaw29.SessionStays'. -/
def sessionStaysUptoCard : Claim7 := { stood := { row := sessionStaysUptoRow, standIns := [], harness := (true, "655802043e6848f00c4a31f278b0a459324e2274c12fcd7bda2207e4c85f0db5"), looks := false }, kinds := [], alts := [], laidByText := true, laidKinds := [.data, .data, .data], laidTests := true, laidLooks := .later }
def SessionStaysUptoCardSaid : Prop := Claim7.holds Tryd.pinned (.plain (OpenSpec.upto sessionStaysSpec)) sessionStaysUptoCard

/-- THE SECOND FORM's CARD OF 'funicularlaw29.SessionMessages'. -/
def sessionMessagesUptoCard : Claim7 := { stood := { row := sessionMessagesUptoRow, standIns := [], harness := (true, "655802043e6848f00c4a31f278b0a459324e2274c12fcd7bda2207e4c85f0db5"), looks := false }, kinds := [], alts := [], laidByText := true, laidKinds := [.data, .data, .data], laidTests := true, laidLooks := .later }
def SessionMessagesUptoCardSaid : Prop := Claim7.holds Tryd.pinned (.plain (OpenSpec.upto sessionMessagesSpec)) sessionMessagesUptoCard
end Rows
end Go.Proofs.YtdbenenonfldkaaDoor
