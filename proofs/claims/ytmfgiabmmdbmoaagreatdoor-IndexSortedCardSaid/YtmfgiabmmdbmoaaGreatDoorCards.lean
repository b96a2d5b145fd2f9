/-
  DERIVED. GIVEN WITH THE SEED: THE CARDS: each row of YtmfgiabmmdbmoaaGreatDoorRows.lean that lists a variable, with what it lists TIED to the program's text (the seventh form; the later family's looks); each row that meets fmt, with fmt's text TOLD by the authors' own Lean function (tested against real Go, not proved from fmt's source: count such statements apart). THE CARD IS WHAT COUNTS. Prove the row's statement (the work); the ties are given (YtmfgiabmmdbmoaaGreatDoorTie.lean); close each card by the builder's one call (the guide's Derived/Test/ToyasCard.lean, 'card_holds'). Laid BY PROGRAM, IN A SANDBOX (cutbox-door.mjs). By AI agents, Wed Nov 11 2026. No macro, syntax, notation, axiom, sorry.
-/
import Derived.Test.YtmfgiabmmdbmoaaGreatDoorRows
import GoSem.ClaimSeven
namespace Go.Proofs.YtmfgiabmmdbmoaaGreatDoor
namespace Rows

/-- THE TIED CARD OF 'burinlaw11.IndexTold'. -/
def indexToldCard : Claim7 := { stood := { row := indexToldRow, standIns := [], harness := (true, "748881706e36a6e4d829920e51a0725555ee2710a91a77af45f7a26287266b6a"), looks := false }, kinds := [], alts := [], laidByText := true, laidKinds := [.data, .pinned], laidTests := true, laidLooks := .later }
def IndexToldCardSaid : Prop := Claim7.holds Tryz.pinned (.plain (OpenSpec.ofChange indexToldSpec)) indexToldCard

/-- THE TIED CARD OF 'burinlaw11.IndexNear'. -/
def indexNearCard : Claim7 := { stood := { row := indexNearRow, standIns := [], harness := (true, "748881706e36a6e4d829920e51a0725555ee2710a91a77af45f7a26287266b6a"), looks := false }, kinds := [], alts := [], laidByText := true, laidKinds := [.data, .pinned], laidTests := true, laidLooks := .later }
def IndexNearCardSaid : Prop := Claim7.holds Tryz.pinned (.plain (OpenSpec.ofChange indexNearSpec)) indexNearCard

/-- THE TIED CARD OF 'burinlaw11.IndexJoined'. -/
def indexJoinedCard : Claim7 := { stood := { row := indexJoinedRow, standIns := [], harness := (true, "748881706e36a6e4d829920e51a0725555ee2710a91a77af45f7a26287266b6a"), looks := false }, kinds := [], alts := [], laidByText := true, laidKinds := [.data, .pinned], laidTests := true, laidLooks := .later }
def IndexJoinedCardSaid : Prop := Claim7.holds Tryz.pinned (.plain (OpenSpec.ofChange indexJoinedSpec)) indexJoinedCard

/-- THE TIED CARD OF 'burinlaw11.IndexLonger'. -/
def indexLongerCard : Claim7 := { stood := { row := indexLongerRow, standIns := [], harness := (true, "748881706e36a6e4d829920e51a0725555ee2710a91a77af45f7a26287266b6a"), looks := false }, kinds := [], alts := [], laidByText := true, laidKinds := [.data, .pinned], laidTests := true, laidLooks := .later }
def IndexLongerCardSaid : Prop := Claim7.holds Tryz.pinned (.plain (OpenSpec.ofChange indexLongerSpec)) indexLongerCard

/-- THE TIED CARD OF 'burinlaw11.IndexSorted'. -/
def indexSortedCard : Claim7 := { stood := { row := indexSortedRow, standIns := [], harness := (true, "748881706e36a6e4d829920e51a0725555ee2710a91a77af45f7a26287266b6a"), looks := false }, kinds := [], alts := [], laidByText := true, laidKinds := [.data, .pinned], laidTests := true, laidLooks := .later }
def IndexSortedCardSaid : Prop := Claim7.holds Tryz.pinned (.plain (OpenSpec.ofChange indexSortedSpec)) indexSortedCard

/-- THE TIED CARD OF 'burinlaw11.IndexMore'. -/
def indexMoreCard : Claim7 := { stood := { row := indexMoreRow, standIns := [], harness := (true, "748881706e36a6e4d829920e51a0725555ee2710a91a77af45f7a26287266b6a"), looks := false }, kinds := [], alts := [], laidByText := true, laidKinds := [.data, .pinned], laidTests := true, laidLooks := .later }
def IndexMoreCardSaid : Prop := Claim7.holds Tryz.pinned (.plain (OpenSpec.ofChange indexMoreSpec)) indexMoreCard

/-- THE TIED CARD OF 'burinlaw11.IndexKnown'. -/
def indexKnownCard : Claim7 := { stood := { row := indexKnownRow, standIns := [], harness := (true, "748881706e36a6e4d829920e51a0725555ee2710a91a77af45f7a26287266b6a"), looks := false }, kinds := [], alts := [], laidByText := true, laidKinds := [.data, .pinned], laidTests := true, laidLooks := .later }
def IndexKnownCardSaid : Prop := Claim7.holds Tryz.pinned (.plain (OpenSpec.ofChange indexKnownSpec)) indexKnownCard

/-- THE SECOND FORM's CARD OF 'burinlaw11.IndexTold'. -/
def indexToldUptoCard : Claim7 := { stood := { row := indexToldUptoRow, standIns := [], harness := (true, "748881706e36a6e4d829920e51a0725555ee2710a91a77af45f7a26287266b6a"), looks := false }, kinds := [], alts := [], laidByText := true, laidKinds := [.data, .pinned], laidTests := true, laidLooks := .later }
def IndexToldUptoCardSaid : Prop := Claim7.holds Tryz.pinned (.plain (OpenSpec.upto indexToldSpec)) indexToldUptoCard

/-- THE SECOND FORM's CARD OF 'burinlaw11.IndexNear'. -/
def indexNearUptoCard : Claim7 := { stood := { row := indexNearUptoRow, standIns := [], harness := (true, "748881706e36a6e4d829920e51a0725555ee2710a91a77af45f7a26287266b6a"), looks := false }, kinds := [], alts := [], laidByText := true, laidKinds := [.data, .pinned], laidTests := true, laidLooks := .later }
def IndexNearUptoCardSaid : Prop := Claim7.holds Tryz.pinned (.plain (OpenSpec.upto indexNearSpec)) indexNearUptoCard

/-- THE SECOND FORM's CARD OF 'burinlaw11.IndexJoined'. -/
def indexJoinedUptoCard : Claim7 := { stood := { row := indexJoinedUptoRow, standIns := [], harness := (true, "748881706e36a6e4d829920e51a0725555ee2710a91a77af45f7a26287266b6a"), looks := false }, kinds := [], alts := [], laidByText := true, laidKinds := [.data, .pinned], laidTests := true, laidLooks := .later }
def IndexJoinedUptoCardSaid : Prop := Claim7.holds Tryz.pinned (.plain (OpenSpec.upto indexJoinedSpec)) indexJoinedUptoCard

/-- THE SECOND FORM's CARD OF 'burinlaw11.IndexLonger'. -/
def indexLongerUptoCard : Claim7 := { stood := { row := indexLongerUptoRow, standIns := [], harness := (true, "748881706e36a6e4d829920e51a0725555ee2710a91a77af45f7a26287266b6a"), looks := false }, kinds := [], alts := [], laidByText := true, laidKinds := [.data, .pinned], laidTests := true, laidLooks := .later }
def IndexLongerUptoCardSaid : Prop := Claim7.holds Tryz.pinned (.plain (OpenSpec.upto indexLongerSpec)) indexLongerUptoCard

/-- THE SECOND FORM's CARD OF 'burinlaw11.IndexSorted'. -/
def indexSortedUptoCard : Claim7 := { stood := { row := indexSortedUptoRow, standIns := [], harness := (true, "748881706e36a6e4d829920e51a0725555ee2710a91a77af45f7a26287266b6a"), looks := false }, kinds := [], alts := [], laidByText := true, laidKinds := [.data, .pinned], laidTests := true, laidLooks := .later }
def IndexSortedUptoCardSaid : Prop := Claim7.holds Tryz.pinned (.plain (OpenSpec.upto indexSortedSpec)) indexSortedUptoCard

/-- THE SECOND FORM's CARD OF 'burinlaw11.IndexMore'. -/
def indexMoreUptoCard : Claim7 := { stood := { row := indexMoreUptoRow, standIns := [], harness := (true, "748881706e36a6e4d829920e51a0725555ee2710a91a77af45f7a26287266b6a"), looks := false }, kinds := [], alts := [], laidByText := true, laidKinds := [.data, .pinned], laidTests := true, laidLooks := .later }
def IndexMoreUptoCardSaid : Prop := Claim7.holds Tryz.pinned (.plain (OpenSpec.upto indexMoreSpec)) indexMoreUptoCard

/-- THE SECOND FORM's CARD OF 'burinlaw11.IndexKnown'. -/
def indexKnownUptoCard : Claim7 := { stood := { row := indexKnownUptoRow, standIns := [], harness := (true, "748881706e36a6e4d829920e51a0725555ee2710a91a77af45f7a26287266b6a"), looks := false }, kinds := [], alts := [], laidByText := true, laidKinds := [.data, .pinned], laidTests := true, laidLooks := .later }
def IndexKnownUptoCardSaid : Prop := Claim7.holds Tryz.pinned (.plain (OpenSpec.upto indexKnownSpec)) indexKnownUptoCard
end Rows
end Go.Proofs.YtmfgiabmmdbmoaaGreatDoor
