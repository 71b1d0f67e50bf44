/-
  DERIVED. GIVEN WITH THE SEED: THE CARDS: each row of YtbhndnjlplibmaaDoorRows.lean that lists a variable, with what it lists TIED to the program's text (the seventh form; the later family's looks); each row that meets fmt, with fmt's text TOLD by the authors' own Lean function (tested against real Go, not proved from fmt's source: count such statements apart). THE CARD IS WHAT COUNTS. Prove the row's statement (the work); the ties are given (YtbhndnjlplibmaaDoorTie.lean); close each card by the builder's one call (the guide's Derived/Test/ToyasCard.lean, 'card_holds'). Laid BY PROGRAM, IN A SANDBOX (cutbox-door.mjs). By AI agents, Wed Nov 11 2026. No macro, syntax, notation, axiom, sorry.
-/
import Derived.Test.YtbhndnjlplibmaaDoorRows
import GoSem.ClaimSeven
namespace Go.Proofs.YtbhndnjlplibmaaDoor
namespace Rows

/-- THE TIED CARD OF 'daylaw4.GroupParts'. -/
def groupPartsCard : Claim7 := { stood := { row := groupPartsRow, standIns := [], harness := (true, "da4685124483791719f8730d3360b194841a984bb97891ba397eb074222627c7"), looks := true }, kinds := [], alts := [], laidByText := true, laidKinds := [.handle], laidTests := true, laidLooks := .later }
def GroupPartsCardSaid : Prop := Claim7.holds Tryd.pinned (.plain (OpenSpec.ofChange groupPartsSpec)) groupPartsCard

/-- THE TIED CARD OF 'daylaw5.MatchTurns'. -/
def matchTurnsCard : Claim7 := { stood := { row := matchTurnsRow, standIns := [], harness := (true, "da4685124483791719f8730d3360b194841a984bb97891ba397eb074222627c7"), looks := true }, kinds := [], alts := [], laidByText := true, laidKinds := [.data, .pinned], laidTests := true, laidLooks := .later }
def MatchTurnsCardSaid : Prop := Claim7.holds Tryd.pinned (.plain (OpenSpec.ofChange matchTurnsSpec)) matchTurnsCard

/-- THE TIED CARD OF 'daylaw4.MatchRests'. -/
def matchRestsCard : Claim7 := { stood := { row := matchRestsRow, standIns := [], harness := (true, "da4685124483791719f8730d3360b194841a984bb97891ba397eb074222627c7"), looks := true }, kinds := [], alts := [], laidByText := true, laidKinds := [.data, .pinned], laidTests := true, laidLooks := .later }
def MatchRestsCardSaid : Prop := Claim7.holds Tryd.pinned (.plain (OpenSpec.ofChange matchRestsSpec)) matchRestsCard

/-- THE TIED CARD OF 'daylaw4.MatchFifo'. -/
def matchFifoCard : Claim7 := { stood := { row := matchFifoRow, standIns := [], harness := (true, "da4685124483791719f8730d3360b194841a984bb97891ba397eb074222627c7"), looks := true }, kinds := [], alts := [], laidByText := true, laidKinds := [.data, .handle, .pinned], laidTests := true, laidLooks := .later }
def MatchFifoCardSaid : Prop := Claim7.holds Tryd.pinned (.plain (OpenSpec.ofChange matchFifoSpec)) matchFifoCard

/-- THE TIED CARD OF 'daylaw4.MatchFinds'. -/
def matchFindsCard : Claim7 := { stood := { row := matchFindsRow, standIns := [], harness := (true, "da4685124483791719f8730d3360b194841a984bb97891ba397eb074222627c7"), looks := true }, kinds := [], alts := [], laidByText := true, laidKinds := [.data, .pinned], laidTests := true, laidLooks := .later }
def MatchFindsCardSaid : Prop := Claim7.holds Tryd.pinned (.plain (OpenSpec.ofChange matchFindsSpec)) matchFindsCard

/-- THE TIED CARD OF 'daylaw4.MatchExact'. -/
def matchExactCard : Claim7 := { stood := { row := matchExactRow, standIns := [], harness := (true, "da4685124483791719f8730d3360b194841a984bb97891ba397eb074222627c7"), looks := true }, kinds := [], alts := [], laidByText := true, laidKinds := [.data, .handle, .pinned], laidTests := true, laidLooks := .later }
def MatchExactCardSaid : Prop := Claim7.holds Tryd.pinned (.plain (OpenSpec.ofChange matchExactSpec)) matchExactCard

/-- THE TIED CARD OF 'daylaw3.LedgerSums'. -/
def ledgerSumsCard : Claim7 := { stood := { row := ledgerSumsRow, standIns := [], harness := (true, "da4685124483791719f8730d3360b194841a984bb97891ba397eb074222627c7"), looks := true }, kinds := [], alts := [], laidByText := true, laidKinds := [.handle], laidTests := true, laidLooks := .later }
def LedgerSumsCardSaid : Prop := Claim7.holds Tryd.pinned (.plain (OpenSpec.ofChange ledgerSumsSpec)) ledgerSumsCard

/-- THE TIED CARD OF 'daylaw5.RateBases'. -/
def rateBasesCard : Claim7 := { stood := { row := rateBasesRow, standIns := [], harness := (true, "da4685124483791719f8730d3360b194841a984bb97891ba397eb074222627c7"), looks := true }, kinds := [], alts := [], laidByText := true, laidKinds := [.data, .handle, .pinned], laidTests := true, laidLooks := .later }
def RateBasesCardSaid : Prop := Claim7.holds Tryd.pinned (.plain (OpenSpec.ofChange rateBasesSpec)) rateBasesCard

/-- THE TIED CARD OF 'daylaw5.PairTurns'. -/
def pairTurnsCard : Claim7 := { stood := { row := pairTurnsRow, standIns := [], harness := (true, "da4685124483791719f8730d3360b194841a984bb97891ba397eb074222627c7"), looks := true }, kinds := [], alts := [], laidByText := true, laidKinds := [.data, .pinned], laidTests := true, laidLooks := .later }
def PairTurnsCardSaid : Prop := Claim7.holds Tryd.pinned (.plain (OpenSpec.ofChange pairTurnsSpec)) pairTurnsCard

/-- THE TIED CARD OF 'daylaw1.EntryTurns'. -/
def entryTurnsCard : Claim7 := { stood := { row := entryTurnsRow, standIns := [], harness := (true, "da4685124483791719f8730d3360b194841a984bb97891ba397eb074222627c7"), looks := true }, kinds := [], alts := [], laidByText := true, laidKinds := [.data, .handle, .pinned], laidTests := true, laidLooks := .later }
def EntryTurnsCardSaid : Prop := Claim7.holds Tryd.pinned (.plain (OpenSpec.ofChange entryTurnsSpec)) entryTurnsCard

/-- THE SECOND FORM's CARD OF 'daylaw4.GroupParts'. -/
def groupPartsUptoCard : Claim7 := { stood := { row := groupPartsUptoRow, standIns := [], harness := (true, "da4685124483791719f8730d3360b194841a984bb97891ba397eb074222627c7"), looks := true }, kinds := [], alts := [], laidByText := true, laidKinds := [.handle], laidTests := true, laidLooks := .later }
def GroupPartsUptoCardSaid : Prop := Claim7.holds Tryd.pinned (.plain (OpenSpec.upto groupPartsSpec)) groupPartsUptoCard

/-- THE SECOND FORM's CARD OF 'daylaw5.MatchTurns'. -/
def matchTurnsUptoCard : Claim7 := { stood := { row := matchTurnsUptoRow, standIns := [], harness := (true, "da4685124483791719f8730d3360b194841a984bb97891ba397eb074222627c7"), looks := true }, kinds := [], alts := [], laidByText := true, laidKinds := [.data, .pinned], laidTests := true, laidLooks := .later }
def MatchTurnsUptoCardSaid : Prop := Claim7.holds Tryd.pinned (.plain (OpenSpec.upto matchTurnsSpec)) matchTurnsUptoCard

/-- THE SECOND FORM's CARD OF 'daylaw4.MatchRests'. -/
def matchRestsUptoCard : Claim7 := { stood := { row := matchRestsUptoRow, standIns := [], harness := (true, "da4685124483791719f8730d3360b194841a984bb97891ba397eb074222627c7"), looks := true }, kinds := [], alts := [], laidByText := true, laidKinds := [.data, .pinned], laidTests := true, laidLooks := .later }
def MatchRestsUptoCardSaid : Prop := Claim7.holds Tryd.pinned (.plain (OpenSpec.upto matchRestsSpec)) matchRestsUptoCard

/-- THE SECOND FORM's CARD OF 'daylaw4.MatchFifo'. -/
def matchFifoUptoCard : Claim7 := { stood := { row := matchFifoUptoRow, standIns := [], harness := (true, "da4685124483791719f8730d3360b194841a984bb97891ba397eb074222627c7"), looks := true }, kinds := [], alts := [], laidByText := true, laidKinds := [.data, .handle, .pinned], laidTests := true, laidLooks := .later }
def MatchFifoUptoCardSaid : Prop := Claim7.holds Tryd.pinned (.plain (OpenSpec.upto matchFifoSpec)) matchFifoUptoCard

/-- THE SECOND FORM's CARD OF 'daylaw4.MatchFinds'. -/
def matchFindsUptoCard : Claim7 := { stood := { row := matchFindsUptoRow, standIns := [], harness := (true, "da4685124483791719f8730d3360b194841a984bb97891ba397eb074222627c7"), looks := true }, kinds := [], alts := [], laidByText := true, laidKinds := [.data, .pinned], laidTests := true, laidLooks := .later }
def MatchFindsUptoCardSaid : Prop := Claim7.holds Tryd.pinned (.plain (OpenSpec.upto matchFindsSpec)) matchFindsUptoCard

/-- THE SECOND FORM's CARD OF 'daylaw4.MatchExact'. -/
def matchExactUptoCard : Claim7 := { stood := { row := matchExactUptoRow, standIns := [], harness := (true, "da4685124483791719f8730d3360b194841a984bb97891ba397eb074222627c7"), looks := true }, kinds := [], alts := [], laidByText := true, laidKinds := [.data, .handle, .pinned], laidTests := true, laidLooks := .later }
def MatchExactUptoCardSaid : Prop := Claim7.holds Tryd.pinned (.plain (OpenSpec.upto matchExactSpec)) matchExactUptoCard

/-- THE SECOND FORM's CARD OF 'daylaw3.LedgerSums'. -/
def ledgerSumsUptoCard : Claim7 := { stood := { row := ledgerSumsUptoRow, standIns := [], harness := (true, "da4685124483791719f8730d3360b194841a984bb97891ba397eb074222627c7"), looks := true }, kinds := [], alts := [], laidByText := true, laidKinds := [.handle], laidTests := true, laidLooks := .later }
def LedgerSumsUptoCardSaid : Prop := Claim7.holds Tryd.pinned (.plain (OpenSpec.upto ledgerSumsSpec)) ledgerSumsUptoCard

/-- THE SECOND FORM's CARD OF 'daylaw5.RateBases'. -/
def rateBasesUptoCard : Claim7 := { stood := { row := rateBasesUptoRow, standIns := [], harness := (true, "da4685124483791719f8730d3360b194841a984bb97891ba397eb074222627c7"), looks := true }, kinds := [], alts := [], laidByText := true, laidKinds := [.data, .handle, .pinned], laidTests := true, laidLooks := .later }
def RateBasesUptoCardSaid : Prop := Claim7.holds Tryd.pinned (.plain (OpenSpec.upto rateBasesSpec)) rateBasesUptoCard

/-- THE SECOND FORM's CARD OF 'daylaw5.PairTurns'. -/
def pairTurnsUptoCard : Claim7 := { stood := { row := pairTurnsUptoRow, standIns := [], harness := (true, "da4685124483791719f8730d3360b194841a984bb97891ba397eb074222627c7"), looks := true }, kinds := [], alts := [], laidByText := true, laidKinds := [.data, .pinned], laidTests := true, laidLooks := .later }
def PairTurnsUptoCardSaid : Prop := Claim7.holds Tryd.pinned (.plain (OpenSpec.upto pairTurnsSpec)) pairTurnsUptoCard

/-- THE SECOND FORM's CARD OF 'daylaw1.EntryTurns'. -/
def entryTurnsUptoCard : Claim7 := { stood := { row := entryTurnsUptoRow, standIns := [], harness := (true, "da4685124483791719f8730d3360b194841a984bb97891ba397eb074222627c7"), looks := true }, kinds := [], alts := [], laidByText := true, laidKinds := [.data, .handle, .pinned], laidTests := true, laidLooks := .later }
def EntryTurnsUptoCardSaid : Prop := Claim7.holds Tryd.pinned (.plain (OpenSpec.upto entryTurnsSpec)) entryTurnsUptoCard
end Rows
end Go.Proofs.YtbhndnjlplibmaaDoor
