/-
  DERIVED. GIVEN WITH THE SEED: THE CARDS: each row of YtbmlgnmilolamaaDoorRows.lean that lists a variable, with what it lists TIED to the program's text (the seventh form; the later family's looks); each row that meets fmt, with fmt's text TOLD by the authors' own Lean function (tested against real Go, not proved from fmt's source: count such statements apart). THE CARD IS WHAT COUNTS. Prove the row's statement (the work); the ties are given (YtbmlgnmilolamaaDoorTie.lean); close each card by the builder's one call (the guide's Derived/Test/ToyasCard.lean, 'card_holds'). Laid BY PROGRAM, IN A SANDBOX (cutbox-door.mjs). By AI agents, Wed Nov 11 2026. No macro, syntax, notation, axiom, sorry.
-/
import Derived.Test.YtbmlgnmilolamaaDoorRows
import GoSem.ClaimSeven
namespace Go.Proofs.YtbmlgnmilolamaaDoor
namespace Rows

/-- THE TIED CARD OF 'yanklinelaw24.NetMany'. -/
def netManyCard : Claim7 := { stood := { row := netManyRow, standIns := [], harness := (true, "c9e9026112b0e563895195469289954661269d95d2a0c1491e7182d0267f3916"), looks := true }, kinds := [], alts := [], laidByText := true, laidKinds := [.handle], laidTests := true, laidLooks := .later }
def NetManyCardSaid : Prop := Claim7.holds Tryd.pinned (.plain (OpenSpec.ofChange netManySpec)) netManyCard

/-- THE TIED CARD OF 'yanklinelaw24.NetPlays'. -/
def netPlaysCard : Claim7 := { stood := { row := netPlaysRow, standIns := [], harness := (true, "c9e9026112b0e563895195469289954661269d95d2a0c1491e7182d0267f3916"), looks := true }, kinds := [], alts := [], laidByText := true, laidKinds := [.handle], laidTests := true, laidLooks := .later }
def NetPlaysCardSaid : Prop := Claim7.holds Tryd.pinned (.plain (OpenSpec.ofChange netPlaysSpec)) netPlaysCard

/-- THE TIED CARD OF 'yanklinelaw24.NetNone'. -/
def netNoneCard : Claim7 := { stood := { row := netNoneRow, standIns := [], harness := (true, "c9e9026112b0e563895195469289954661269d95d2a0c1491e7182d0267f3916"), looks := true }, kinds := [], alts := [], laidByText := true, laidKinds := [.handle], laidTests := true, laidLooks := .later }
def NetNoneCardSaid : Prop := Claim7.holds Tryd.pinned (.plain (OpenSpec.ofChange netNoneSpec)) netNoneCard

/-- THE SECOND FORM's CARD OF 'yanklinelaw24.NetMany'. -/
def netManyUptoCard : Claim7 := { stood := { row := netManyUptoRow, standIns := [], harness := (true, "c9e9026112b0e563895195469289954661269d95d2a0c1491e7182d0267f3916"), looks := true }, kinds := [], alts := [], laidByText := true, laidKinds := [.handle], laidTests := true, laidLooks := .later }
def NetManyUptoCardSaid : Prop := Claim7.holds Tryd.pinned (.plain (OpenSpec.upto netManySpec)) netManyUptoCard

/-- THE SECOND FORM's CARD OF 'yanklinelaw24.NetPlays'. -/
def netPlaysUptoCard : Claim7 := { stood := { row := netPlaysUptoRow, standIns := [], harness := (true, "c9e9026112b0e563895195469289954661269d95d2a0c1491e7182d0267f3916"), looks := true }, kinds := [], alts := [], laidByText := true, laidKinds := [.handle], laidTests := true, laidLooks := .later }
def NetPlaysUptoCardSaid : Prop := Claim7.holds Tryd.pinned (.plain (OpenSpec.upto netPlaysSpec)) netPlaysUptoCard

/-- THE SECOND FORM's CARD OF 'yanklinelaw24.NetNone'. -/
def netNoneUptoCard : Claim7 := { stood := { row := netNoneUptoRow, standIns := [], harness := (true, "c9e9026112b0e563895195469289954661269d95d2a0c1491e7182d0267f3916"), looks := true }, kinds := [], alts := [], laidByText := true, laidKinds := [.handle], laidTests := true, laidLooks := .later }
def NetNoneUptoCardSaid : Prop := Claim7.holds Tryd.pinned (.plain (OpenSpec.upto netNoneSpec)) netNoneUptoCard
end Rows
end Go.Proofs.YtbmlgnmilolamaaDoor
