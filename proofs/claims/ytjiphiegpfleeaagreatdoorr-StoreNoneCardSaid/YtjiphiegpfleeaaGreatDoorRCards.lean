/-
  DERIVED. GIVEN WITH THE SEED: THE CARDS: each row of YtjiphiegpfleeaaGreatDoorRRows.lean that lists a variable, with what it lists TIED to the program's text (the seventh form; the later family's looks); each row that meets fmt, with fmt's text TOLD by the authors' own Lean function (tested against real Go, not proved from fmt's source: count such statements apart). THE CARD IS WHAT COUNTS. Prove the row's statement (the work); the ties are given (YtjiphiegpfleeaaGreatDoorRTie.lean); close each card by the builder's one call (the guide's Derived/Test/ToyasCard.lean, 'card_holds'). Laid BY PROGRAM, IN A SANDBOX (cutbox-door.mjs). By AI agents, Wed Nov 11 2026. No macro, syntax, notation, axiom, sorry.
-/
import Derived.Test.YtjiphiegpfleeaaGreatDoorRRows
import GoSem.ClaimSeven
namespace Go.Proofs.YtjiphiegpfleeaaGreatDoorR
namespace Rows

/-- THE TIED CARD OF 'foliolaw24.StoreNone'. -/
def storeNoneCard : Claim7 := { stood := { row := storeNoneRow, standIns := [], harness := (true, "c58679ebd1a8c1ad4353889e0b4e24697574586c8184793f0634d620dae37b6a"), looks := true }, kinds := [], alts := [], laidByText := true, laidKinds := [.data, .data, .data], laidTests := true, laidLooks := .later }
def StoreNoneCardSaid : Prop := Claim7.holds Tryz.pinned (.plain (OpenSpec.ofChange storeNoneSpec)) storeNoneCard

/-- THE TIED CARD OF 'foliolaw28.ConsoleNone'. -/
def consoleNoneCard : Claim7 := { stood := { row := consoleNoneRow, standIns := [], harness := (true, "c58679ebd1a8c1ad4353889e0b4e24697574586c8184793f0634d620dae37b6a"), looks := true }, kinds := [], alts := [], laidByText := true, laidKinds := [.data, .data, .data, .data, .sentinel, .sentinel, .pinned], laidTests := true, laidLooks := .later }
def ConsoleNoneCardSaid : Prop := Claim7.holds Tryz.pinned (.plain (OpenSpec.ofChange consoleNoneSpec)) consoleNoneCard

/-- THE TIED CARD OF 'foliotop.TopBad'. -/
def topBadCard : Claim7 := { stood := { row := topBadRow, standIns := [], harness := (true, "c58679ebd1a8c1ad4353889e0b4e24697574586c8184793f0634d620dae37b6a"), looks := true }, kinds := [], alts := [], laidByText := true, laidKinds := [.data, .data, .data], laidTests := true, laidLooks := .later }
def TopBadCardSaid : Prop := Claim7.holds Tryz.pinned (.plain (OpenSpec.ofChange topBadSpec)) topBadCard

/-- THE SECOND FORM's CARD OF 'foliolaw24.StoreNone'. -/
def storeNoneUptoCard : Claim7 := { stood := { row := storeNoneUptoRow, standIns := [], harness := (true, "c58679ebd1a8c1ad4353889e0b4e24697574586c8184793f0634d620dae37b6a"), looks := true }, kinds := [], alts := [], laidByText := true, laidKinds := [.data, .data, .data], laidTests := true, laidLooks := .later }
def StoreNoneUptoCardSaid : Prop := Claim7.holds Tryz.pinned (.plain (OpenSpec.upto storeNoneSpec)) storeNoneUptoCard

/-- THE SECOND FORM's CARD OF 'foliolaw28.ConsoleNone'. -/
def consoleNoneUptoCard : Claim7 := { stood := { row := consoleNoneUptoRow, standIns := [], harness := (true, "c58679ebd1a8c1ad4353889e0b4e24697574586c8184793f0634d620dae37b6a"), looks := true }, kinds := [], alts := [], laidByText := true, laidKinds := [.data, .data, .data, .data, .sentinel, .sentinel, .pinned], laidTests := true, laidLooks := .later }
def ConsoleNoneUptoCardSaid : Prop := Claim7.holds Tryz.pinned (.plain (OpenSpec.upto consoleNoneSpec)) consoleNoneUptoCard

/-- THE SECOND FORM's CARD OF 'foliotop.TopBad'. -/
def topBadUptoCard : Claim7 := { stood := { row := topBadUptoRow, standIns := [], harness := (true, "c58679ebd1a8c1ad4353889e0b4e24697574586c8184793f0634d620dae37b6a"), looks := true }, kinds := [], alts := [], laidByText := true, laidKinds := [.data, .data, .data], laidTests := true, laidLooks := .later }
def TopBadUptoCardSaid : Prop := Claim7.holds Tryz.pinned (.plain (OpenSpec.upto topBadSpec)) topBadUptoCard
end Rows
end Go.Proofs.YtjiphiegpfleeaaGreatDoorR
