/-
  DERIVED. GIVEN WITH THE SEED: THE CARDS: each row of YtcmnnggpeloanaaGreatDoorRows.lean that lists a variable, with what it lists TIED to the program's text (the seventh form; the later family's looks); each row that meets fmt, with fmt's text TOLD by the authors' own Lean function (tested against real Go, not proved from fmt's source: count such statements apart). THE CARD IS WHAT COUNTS. Prove the row's statement (the work); the ties are given (YtcmnnggpeloanaaGreatDoorTie.lean); close each card by the builder's one call (the guide's Derived/Test/ToyasCard.lean, 'card_holds'). Laid BY PROGRAM, IN A SANDBOX (cutbox-door.mjs). By AI agents, Wed Nov 11 2026. No macro, syntax, notation, axiom, sorry.
-/
import Derived.Test.YtcmnnggpeloanaaGreatDoorRows
import GoSem.ClaimSeven
namespace Go.Proofs.YtcmnnggpeloanaaGreatDoor
namespace Rows

/-- THE TIED CARD OF 'intrusionlaw38.GzipFeeds'. -/
def gzipFeedsCard : Claim7 := { stood := { row := gzipFeedsRow, standIns := [], harness := (true, "c5549c411fbc6c2f717a671fb1d1e46b9a1ada8c1f253f820d7d72029dd0b38b"), looks := false }, kinds := [], alts := [], laidByText := true, laidKinds := [.sentinel, .widerDeep], laidTests := true, laidLooks := .later }
def GzipFeedsCardSaid : Prop := Claim7.holds Tryz.pinned (.plain (OpenSpec.ofChange gzipFeedsSpec)) gzipFeedsCard

/-- THE TIED CARD OF 'intrusionlaw38.GzipAlls'. -/
def gzipAllsCard : Claim7 := { stood := { row := gzipAllsRow, standIns := [], harness := (true, "c5549c411fbc6c2f717a671fb1d1e46b9a1ada8c1f253f820d7d72029dd0b38b"), looks := false }, kinds := [], alts := [], laidByText := true, laidKinds := [.sentinel, .widerDeep], laidTests := true, laidLooks := .later }
def GzipAllsCardSaid : Prop := Claim7.holds Tryz.pinned (.plain (OpenSpec.ofChange gzipAllsSpec)) gzipAllsCard

/-- THE TIED CARD OF 'intrusionlaw39.FileTypes'. -/
def fileTypesCard : Claim7 := { stood := { row := fileTypesRow, standIns := [], harness := (true, "c5549c411fbc6c2f717a671fb1d1e46b9a1ada8c1f253f820d7d72029dd0b38b"), looks := false }, kinds := [], alts := [], laidByText := true, laidKinds := [.data], laidTests := true, laidLooks := .later }
def FileTypesCardSaid : Prop := Claim7.holds Tryz.pinned (.plain (OpenSpec.ofChange fileTypesSpec)) fileTypesCard

/-- THE TIED CARD OF 'intrusionlaw39.FileLong'. -/
def fileLongCard : Claim7 := { stood := { row := fileLongRow, standIns := [], harness := (true, "c5549c411fbc6c2f717a671fb1d1e46b9a1ada8c1f253f820d7d72029dd0b38b"), looks := false }, kinds := [], alts := [], laidByText := true, laidKinds := [.data], laidTests := true, laidLooks := .later }
def FileLongCardSaid : Prop := Claim7.holds Tryz.pinned (.plain (OpenSpec.ofChange fileLongSpec)) fileLongCard

/-- THE TIED CARD OF 'intrusionlaw39.FileExtracts'. -/
def fileExtractsCard : Claim7 := { stood := { row := fileExtractsRow, standIns := [], harness := (true, "c5549c411fbc6c2f717a671fb1d1e46b9a1ada8c1f253f820d7d72029dd0b38b"), looks := false }, kinds := [], alts := [], laidByText := true, laidKinds := [.data], laidTests := true, laidLooks := .later }
def FileExtractsCardSaid : Prop := Claim7.holds Tryz.pinned (.plain (OpenSpec.ofChange fileExtractsSpec)) fileExtractsCard

/-- THE TIED CARD OF 'intrusionlaw39.FileNested'. -/
def fileNestedCard : Claim7 := { stood := { row := fileNestedRow, standIns := [], harness := (true, "c5549c411fbc6c2f717a671fb1d1e46b9a1ada8c1f253f820d7d72029dd0b38b"), looks := false }, kinds := [], alts := [], laidByText := true, laidKinds := [.data], laidTests := true, laidLooks := .later }
def FileNestedCardSaid : Prop := Claim7.holds Tryz.pinned (.plain (OpenSpec.ofChange fileNestedSpec)) fileNestedCard

/-- THE SECOND FORM's CARD OF 'intrusionlaw38.GzipFeeds'. -/
def gzipFeedsUptoCard : Claim7 := { stood := { row := gzipFeedsUptoRow, standIns := [], harness := (true, "c5549c411fbc6c2f717a671fb1d1e46b9a1ada8c1f253f820d7d72029dd0b38b"), looks := false }, kinds := [], alts := [], laidByText := true, laidKinds := [.sentinel, .widerDeep], laidTests := true, laidLooks := .later }
def GzipFeedsUptoCardSaid : Prop := Claim7.holds Tryz.pinned (.plain (OpenSpec.upto gzipFeedsSpec)) gzipFeedsUptoCard

/-- THE SECOND FORM's CARD OF 'intrusionlaw38.GzipAlls'. -/
def gzipAllsUptoCard : Claim7 := { stood := { row := gzipAllsUptoRow, standIns := [], harness := (true, "c5549c411fbc6c2f717a671fb1d1e46b9a1ada8c1f253f820d7d72029dd0b38b"), looks := false }, kinds := [], alts := [], laidByText := true, laidKinds := [.sentinel, .widerDeep], laidTests := true, laidLooks := .later }
def GzipAllsUptoCardSaid : Prop := Claim7.holds Tryz.pinned (.plain (OpenSpec.upto gzipAllsSpec)) gzipAllsUptoCard

/-- THE SECOND FORM's CARD OF 'intrusionlaw39.FileTypes'. -/
def fileTypesUptoCard : Claim7 := { stood := { row := fileTypesUptoRow, standIns := [], harness := (true, "c5549c411fbc6c2f717a671fb1d1e46b9a1ada8c1f253f820d7d72029dd0b38b"), looks := false }, kinds := [], alts := [], laidByText := true, laidKinds := [.data], laidTests := true, laidLooks := .later }
def FileTypesUptoCardSaid : Prop := Claim7.holds Tryz.pinned (.plain (OpenSpec.upto fileTypesSpec)) fileTypesUptoCard

/-- THE SECOND FORM's CARD OF 'intrusionlaw39.FileLong'. -/
def fileLongUptoCard : Claim7 := { stood := { row := fileLongUptoRow, standIns := [], harness := (true, "c5549c411fbc6c2f717a671fb1d1e46b9a1ada8c1f253f820d7d72029dd0b38b"), looks := false }, kinds := [], alts := [], laidByText := true, laidKinds := [.data], laidTests := true, laidLooks := .later }
def FileLongUptoCardSaid : Prop := Claim7.holds Tryz.pinned (.plain (OpenSpec.upto fileLongSpec)) fileLongUptoCard

/-- THE SECOND FORM's CARD OF 'intrusionlaw39.FileExtracts'. -/
def fileExtractsUptoCard : Claim7 := { stood := { row := fileExtractsUptoRow, standIns := [], harness := (true, "c5549c411fbc6c2f717a671fb1d1e46b9a1ada8c1f253f820d7d72029dd0b38b"), looks := false }, kinds := [], alts := [], laidByText := true, laidKinds := [.data], laidTests := true, laidLooks := .later }
def FileExtractsUptoCardSaid : Prop := Claim7.holds Tryz.pinned (.plain (OpenSpec.upto fileExtractsSpec)) fileExtractsUptoCard

/-- THE SECOND FORM's CARD OF 'intrusionlaw39.FileNested'. -/
def fileNestedUptoCard : Claim7 := { stood := { row := fileNestedUptoRow, standIns := [], harness := (true, "c5549c411fbc6c2f717a671fb1d1e46b9a1ada8c1f253f820d7d72029dd0b38b"), looks := false }, kinds := [], alts := [], laidByText := true, laidKinds := [.data], laidTests := true, laidLooks := .later }
def FileNestedUptoCardSaid : Prop := Claim7.holds Tryz.pinned (.plain (OpenSpec.upto fileNestedSpec)) fileNestedUptoCard
end Rows
end Go.Proofs.YtcmnnggpeloanaaGreatDoor
