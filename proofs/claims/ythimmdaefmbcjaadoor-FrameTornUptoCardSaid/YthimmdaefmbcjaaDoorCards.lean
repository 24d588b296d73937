/-
  DERIVED. GIVEN WITH THE SEED: THE CARDS: each row of YthimmdaefmbcjaaDoorRows.lean that lists a variable, with what it lists TIED to the program's text (the seventh form; the later family's looks); each row that meets fmt, with fmt's text TOLD by the authors' own Lean function (tested against real Go, not proved from fmt's source: count such statements apart). THE CARD IS WHAT COUNTS. Prove the row's statement (the work); the ties are given (YthimmdaefmbcjaaDoorTie.lean); close each card by the builder's one call (the guide's Derived/Test/ToyasCard.lean, 'card_holds'). Laid BY PROGRAM, IN A SANDBOX (cutbox-door.mjs). By AI agents, Wed Nov 11 2026. No macro, syntax, notation, axiom, sorry.
-/
import Derived.Test.YthimmdaefmbcjaaDoorRows
import GoSem.ClaimSeven
namespace Go.Proofs.YthimmdaefmbcjaaDoor
namespace Rows

/-- THE TIED CARD OF 'yanklinelaw04.FrameOfs'. -/
def frameOfsCard : Claim7 := { stood := { row := frameOfsRow, standIns := [], harness := (true, "461b03f86886539fe15d68fded705ed7efbc6219dd9413579d2b93935f0dd5d3"), looks := true }, kinds := [], alts := [], laidByText := true, laidKinds := [.handle], laidTests := true, laidLooks := .later }
def FrameOfsCardSaid : Prop := Claim7.holds Tryd.pinned (.plain (OpenSpec.ofChange frameOfsSpec)) frameOfsCard

/-- THE TIED CARD OF 'yanklinelaw04.FrameLong'. -/
def frameLongCard : Claim7 := { stood := { row := frameLongRow, standIns := [], harness := (true, "461b03f86886539fe15d68fded705ed7efbc6219dd9413579d2b93935f0dd5d3"), looks := true }, kinds := [], alts := [], laidByText := true, laidKinds := [.handle], laidTests := true, laidLooks := .later }
def FrameLongCardSaid : Prop := Claim7.holds Tryd.pinned (.plain (OpenSpec.ofChange frameLongSpec)) frameLongCard

/-- THE TIED CARD OF 'yanklinelaw04.FrameSpoilt'. -/
def frameSpoiltCard : Claim7 := { stood := { row := frameSpoiltRow, standIns := [], harness := (true, "461b03f86886539fe15d68fded705ed7efbc6219dd9413579d2b93935f0dd5d3"), looks := true }, kinds := [], alts := [], laidByText := true, laidKinds := [.handle], laidTests := true, laidLooks := .later }
def FrameSpoiltCardSaid : Prop := Claim7.holds Tryd.pinned (.plain (OpenSpec.ofChange frameSpoiltSpec)) frameSpoiltCard

/-- THE TIED CARD OF 'yanklinelaw04.FrameFronts'. -/
def frameFrontsCard : Claim7 := { stood := { row := frameFrontsRow, standIns := [], harness := (true, "461b03f86886539fe15d68fded705ed7efbc6219dd9413579d2b93935f0dd5d3"), looks := true }, kinds := [], alts := [], laidByText := true, laidKinds := [.handle], laidTests := true, laidLooks := .later }
def FrameFrontsCardSaid : Prop := Claim7.holds Tryd.pinned (.plain (OpenSpec.ofChange frameFrontsSpec)) frameFrontsCard

/-- THE TIED CARD OF 'yanklinelaw04.FrameTorn'. -/
def frameTornCard : Claim7 := { stood := { row := frameTornRow, standIns := [], harness := (true, "461b03f86886539fe15d68fded705ed7efbc6219dd9413579d2b93935f0dd5d3"), looks := true }, kinds := [], alts := [], laidByText := true, laidKinds := [.handle], laidTests := true, laidLooks := .later }
def FrameTornCardSaid : Prop := Claim7.holds Tryd.pinned (.plain (OpenSpec.ofChange frameTornSpec)) frameTornCard

/-- THE SECOND FORM's CARD OF 'yanklinelaw04.FrameOfs'. -/
def frameOfsUptoCard : Claim7 := { stood := { row := frameOfsUptoRow, standIns := [], harness := (true, "461b03f86886539fe15d68fded705ed7efbc6219dd9413579d2b93935f0dd5d3"), looks := true }, kinds := [], alts := [], laidByText := true, laidKinds := [.handle], laidTests := true, laidLooks := .later }
def FrameOfsUptoCardSaid : Prop := Claim7.holds Tryd.pinned (.plain (OpenSpec.upto frameOfsSpec)) frameOfsUptoCard

/-- THE SECOND FORM's CARD OF 'yanklinelaw04.FrameLong'. -/
def frameLongUptoCard : Claim7 := { stood := { row := frameLongUptoRow, standIns := [], harness := (true, "461b03f86886539fe15d68fded705ed7efbc6219dd9413579d2b93935f0dd5d3"), looks := true }, kinds := [], alts := [], laidByText := true, laidKinds := [.handle], laidTests := true, laidLooks := .later }
def FrameLongUptoCardSaid : Prop := Claim7.holds Tryd.pinned (.plain (OpenSpec.upto frameLongSpec)) frameLongUptoCard

/-- THE SECOND FORM's CARD OF 'yanklinelaw04.FrameSpoilt'. -/
def frameSpoiltUptoCard : Claim7 := { stood := { row := frameSpoiltUptoRow, standIns := [], harness := (true, "461b03f86886539fe15d68fded705ed7efbc6219dd9413579d2b93935f0dd5d3"), looks := true }, kinds := [], alts := [], laidByText := true, laidKinds := [.handle], laidTests := true, laidLooks := .later }
def FrameSpoiltUptoCardSaid : Prop := Claim7.holds Tryd.pinned (.plain (OpenSpec.upto frameSpoiltSpec)) frameSpoiltUptoCard

/-- THE SECOND FORM's CARD OF 'yanklinelaw04.FrameFronts'. -/
def frameFrontsUptoCard : Claim7 := { stood := { row := frameFrontsUptoRow, standIns := [], harness := (true, "461b03f86886539fe15d68fded705ed7efbc6219dd9413579d2b93935f0dd5d3"), looks := true }, kinds := [], alts := [], laidByText := true, laidKinds := [.handle], laidTests := true, laidLooks := .later }
def FrameFrontsUptoCardSaid : Prop := Claim7.holds Tryd.pinned (.plain (OpenSpec.upto frameFrontsSpec)) frameFrontsUptoCard

/-- THE SECOND FORM's CARD OF 'yanklinelaw04.FrameTorn'. -/
def frameTornUptoCard : Claim7 := { stood := { row := frameTornUptoRow, standIns := [], harness := (true, "461b03f86886539fe15d68fded705ed7efbc6219dd9413579d2b93935f0dd5d3"), looks := true }, kinds := [], alts := [], laidByText := true, laidKinds := [.handle], laidTests := true, laidLooks := .later }
def FrameTornUptoCardSaid : Prop := Claim7.holds Tryd.pinned (.plain (OpenSpec.upto frameTornSpec)) frameTornUptoCard
end Rows
end Go.Proofs.YthimmdaefmbcjaaDoor
