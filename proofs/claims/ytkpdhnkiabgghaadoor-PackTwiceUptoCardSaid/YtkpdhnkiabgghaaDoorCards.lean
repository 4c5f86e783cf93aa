/-
  DERIVED. GIVEN WITH THE SEED: THE CARDS: each row of YtkpdhnkiabgghaaDoorRows.lean that lists a variable, with what it lists TIED to the program's text (the seventh form; the later family's looks); each row that meets fmt, with fmt's text TOLD by the authors' own Lean function (tested against real Go, not proved from fmt's source: count such statements apart). THE CARD IS WHAT COUNTS. Prove the row's statement (the work); the ties are given (YtkpdhnkiabgghaaDoorTie.lean); close each card by the builder's one call (the guide's Derived/Test/ToyasCard.lean, 'card_holds'). Laid BY PROGRAM, IN A SANDBOX (cutbox-door.mjs). By AI agents, Wed Nov 11 2026. No macro, syntax, notation, axiom, sorry.
-/
import Derived.Test.YtkpdhnkiabgghaaDoorRows
import GoSem.ClaimSeven
namespace Go.Proofs.YtkpdhnkiabgghaaDoor
namespace Rows

/-- THE TIED CARD OF 'heraldlaw05.PackTwice'. -/
def packTwiceCard : Claim7 := { stood := { row := packTwiceRow, standIns := [], harness := (true, "d64807c2a71df7df9ba689882583dc5f1db5f2ddbbaa426eeaa035751a7441f2"), looks := true }, kinds := [], alts := [], laidByText := true, laidKinds := [.data, .data, .data, .sentinel, .sentinel, .listed, .data, .data, .data], laidTests := true, laidLooks := .later }
def PackTwiceCardSaid : Prop := Claim7.holds Tryd.pinned (.plain (OpenSpec.ofChange packTwiceSpec)) packTwiceCard

/-- THE TIED CARD OF 'heraldlaw05.PackNever'. -/
def packNeverCard : Claim7 := { stood := { row := packNeverRow, standIns := [], harness := (true, "d64807c2a71df7df9ba689882583dc5f1db5f2ddbbaa426eeaa035751a7441f2"), looks := true }, kinds := [], alts := [], laidByText := true, laidKinds := [.data, .data, .data, .sentinel, .sentinel, .listed, .data, .data, .data], laidTests := true, laidLooks := .later }
def PackNeverCardSaid : Prop := Claim7.holds Tryd.pinned (.plain (OpenSpec.ofChange packNeverSpec)) packNeverCard

/-- THE SECOND FORM's CARD OF 'heraldlaw05.PackTwice'. -/
def packTwiceUptoCard : Claim7 := { stood := { row := packTwiceUptoRow, standIns := [], harness := (true, "d64807c2a71df7df9ba689882583dc5f1db5f2ddbbaa426eeaa035751a7441f2"), looks := true }, kinds := [], alts := [], laidByText := true, laidKinds := [.data, .data, .data, .sentinel, .sentinel, .listed, .data, .data, .data], laidTests := true, laidLooks := .later }
def PackTwiceUptoCardSaid : Prop := Claim7.holds Tryd.pinned (.plain (OpenSpec.upto packTwiceSpec)) packTwiceUptoCard

/-- THE SECOND FORM's CARD OF 'heraldlaw05.PackNever'. -/
def packNeverUptoCard : Claim7 := { stood := { row := packNeverUptoRow, standIns := [], harness := (true, "d64807c2a71df7df9ba689882583dc5f1db5f2ddbbaa426eeaa035751a7441f2"), looks := true }, kinds := [], alts := [], laidByText := true, laidKinds := [.data, .data, .data, .sentinel, .sentinel, .listed, .data, .data, .data], laidTests := true, laidLooks := .later }
def PackNeverUptoCardSaid : Prop := Claim7.holds Tryd.pinned (.plain (OpenSpec.upto packNeverSpec)) packNeverUptoCard
end Rows
end Go.Proofs.YtkpdhnkiabgghaaDoor
