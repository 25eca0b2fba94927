/-
  DERIVED. GIVEN WITH THE SEED: THE CARDS: each row of YtcmpaebogekdcaaDoorRows.lean that lists a variable, with what it lists TIED to the program's text (the seventh form; the later family's looks); each row that meets fmt, with fmt's text TOLD by the authors' own Lean function (tested against real Go, not proved from fmt's source: count such statements apart). THE CARD IS WHAT COUNTS. Prove the row's statement (the work); the ties are given (YtcmpaebogekdcaaDoorTie.lean); close each card by the builder's one call (the guide's Derived/Test/ToyasCard.lean, 'card_holds'). Laid BY PROGRAM, IN A SANDBOX (cutbox-door.mjs). By AI agents, Wed Nov 11 2026. No macro, syntax, notation, axiom, sorry.
-/
import Derived.Test.YtcmpaebogekdcaaDoorRows
import GoSem.ClaimSeven
namespace Go.Proofs.YtcmpaebogekdcaaDoor
namespace Rows

/-- THE TIED CARD OF 'thatchlaw02.CrcSums'. -/
def crcSumsCard : Claim7 := { stood := { row := crcSumsRow, standIns := [], harness := (true, "acb0f931da57d18485702f660f2d4768ee76b7faee150d1a8aeea457efec23eb"), looks := false }, kinds := [], alts := [], laidByText := true, laidKinds := [.data], laidTests := true, laidLooks := .later }
def CrcSumsCardSaid : Prop := Claim7.holds Tryd.pinned (.plain (OpenSpec.ofChange crcSumsSpec)) crcSumsCard

/-- THE TIED CARD OF 'thatchlaw02.CrcNibbles'. -/
def crcNibblesCard : Claim7 := { stood := { row := crcNibblesRow, standIns := [], harness := (true, "acb0f931da57d18485702f660f2d4768ee76b7faee150d1a8aeea457efec23eb"), looks := false }, kinds := [], alts := [], laidByText := true, laidKinds := [.data], laidTests := true, laidLooks := .later }
def CrcNibblesCardSaid : Prop := Claim7.holds Tryd.pinned (.plain (OpenSpec.ofChange crcNibblesSpec)) crcNibblesCard

/-- THE TIED CARD OF 'thatchlaw02.CrcJoins'. -/
def crcJoinsCard : Claim7 := { stood := { row := crcJoinsRow, standIns := [], harness := (true, "acb0f931da57d18485702f660f2d4768ee76b7faee150d1a8aeea457efec23eb"), looks := false }, kinds := [], alts := [], laidByText := true, laidKinds := [.data], laidTests := true, laidLooks := .later }
def CrcJoinsCardSaid : Prop := Claim7.holds Tryd.pinned (.plain (OpenSpec.ofChange crcJoinsSpec)) crcJoinsCard

/-- THE TIED CARD OF 'thatchlaw02.CrcParts'. -/
def crcPartsCard : Claim7 := { stood := { row := crcPartsRow, standIns := [], harness := (true, "acb0f931da57d18485702f660f2d4768ee76b7faee150d1a8aeea457efec23eb"), looks := false }, kinds := [], alts := [], laidByText := true, laidKinds := [.data], laidTests := true, laidLooks := .later }
def CrcPartsCardSaid : Prop := Claim7.holds Tryd.pinned (.plain (OpenSpec.ofChange crcPartsSpec)) crcPartsCard

/-- THE TIED CARD OF 'thatchlaw02.CrcSeals'. -/
def crcSealsCard : Claim7 := { stood := { row := crcSealsRow, standIns := [], harness := (true, "acb0f931da57d18485702f660f2d4768ee76b7faee150d1a8aeea457efec23eb"), looks := false }, kinds := [], alts := [], laidByText := true, laidKinds := [.data], laidTests := true, laidLooks := .later }
def CrcSealsCardSaid : Prop := Claim7.holds Tryd.pinned (.plain (OpenSpec.ofChange crcSealsSpec)) crcSealsCard

/-- THE TIED CARD OF 'thatchlaw02.CrcChecks'. -/
def crcChecksCard : Claim7 := { stood := { row := crcChecksRow, standIns := [], harness := (true, "acb0f931da57d18485702f660f2d4768ee76b7faee150d1a8aeea457efec23eb"), looks := false }, kinds := [], alts := [], laidByText := true, laidKinds := [.data], laidTests := true, laidLooks := .later }
def CrcChecksCardSaid : Prop := Claim7.holds Tryd.pinned (.plain (OpenSpec.ofChange crcChecksSpec)) crcChecksCard

/-- THE TIED CARD OF 'thatchlaw02.CrcBroken'. -/
def crcBrokenCard : Claim7 := { stood := { row := crcBrokenRow, standIns := [], harness := (true, "acb0f931da57d18485702f660f2d4768ee76b7faee150d1a8aeea457efec23eb"), looks := false }, kinds := [], alts := [], laidByText := true, laidKinds := [.data], laidTests := true, laidLooks := .later }
def CrcBrokenCardSaid : Prop := Claim7.holds Tryd.pinned (.plain (OpenSpec.ofChange crcBrokenSpec)) crcBrokenCard

/-- THE TIED CARD OF 'thatchlaw02.CrcZeros'. -/
def crcZerosCard : Claim7 := { stood := { row := crcZerosRow, standIns := [], harness := (true, "acb0f931da57d18485702f660f2d4768ee76b7faee150d1a8aeea457efec23eb"), looks := false }, kinds := [], alts := [], laidByText := true, laidKinds := [.data], laidTests := true, laidLooks := .later }
def CrcZerosCardSaid : Prop := Claim7.holds Tryd.pinned (.plain (OpenSpec.ofChange crcZerosSpec)) crcZerosCard

/-- THE SECOND FORM's CARD OF 'thatchlaw02.CrcSums'. -/
def crcSumsUptoCard : Claim7 := { stood := { row := crcSumsUptoRow, standIns := [], harness := (true, "acb0f931da57d18485702f660f2d4768ee76b7faee150d1a8aeea457efec23eb"), looks := false }, kinds := [], alts := [], laidByText := true, laidKinds := [.data], laidTests := true, laidLooks := .later }
def CrcSumsUptoCardSaid : Prop := Claim7.holds Tryd.pinned (.plain (OpenSpec.upto crcSumsSpec)) crcSumsUptoCard

/-- THE SECOND FORM's CARD OF 'thatchlaw02.CrcNibbles'. -/
def crcNibblesUptoCard : Claim7 := { stood := { row := crcNibblesUptoRow, standIns := [], harness := (true, "acb0f931da57d18485702f660f2d4768ee76b7faee150d1a8aeea457efec23eb"), looks := false }, kinds := [], alts := [], laidByText := true, laidKinds := [.data], laidTests := true, laidLooks := .later }
def CrcNibblesUptoCardSaid : Prop := Claim7.holds Tryd.pinned (.plain (OpenSpec.upto crcNibblesSpec)) crcNibblesUptoCard

/-- THE SECOND FORM's CARD OF 'thatchlaw02.CrcJoins'. -/
def crcJoinsUptoCard : Claim7 := { stood := { row := crcJoinsUptoRow, standIns := [], harness := (true, "acb0f931da57d18485702f660f2d4768ee76b7faee150d1a8aeea457efec23eb"), looks := false }, kinds := [], alts := [], laidByText := true, laidKinds := [.data], laidTests := true, laidLooks := .later }
def CrcJoinsUptoCardSaid : Prop := Claim7.holds Tryd.pinned (.plain (OpenSpec.upto crcJoinsSpec)) crcJoinsUptoCard

/-- THE SECOND FORM's CARD OF 'thatchlaw02.CrcParts'. -/
def crcPartsUptoCard : Claim7 := { stood := { row := crcPartsUptoRow, standIns := [], harness := (true, "acb0f931da57d18485702f660f2d4768ee76b7faee150d1a8aeea457efec23eb"), looks := false }, kinds := [], alts := [], laidByText := true, laidKinds := [.data], laidTests := true, laidLooks := .later }
def CrcPartsUptoCardSaid : Prop := Claim7.holds Tryd.pinned (.plain (OpenSpec.upto crcPartsSpec)) crcPartsUptoCard

/-- THE SECOND FORM's CARD OF 'thatchlaw02.CrcSeals'. -/
def crcSealsUptoCard : Claim7 := { stood := { row := crcSealsUptoRow, standIns := [], harness := (true, "acb0f931da57d18485702f660f2d4768ee76b7faee150d1a8aeea457efec23eb"), looks := false }, kinds := [], alts := [], laidByText := true, laidKinds := [.data], laidTests := true, laidLooks := .later }
def CrcSealsUptoCardSaid : Prop := Claim7.holds Tryd.pinned (.plain (OpenSpec.upto crcSealsSpec)) crcSealsUptoCard

/-- THE SECOND FORM's CARD OF 'thatchlaw02.CrcChecks'. -/
def crcChecksUptoCard : Claim7 := { stood := { row := crcChecksUptoRow, standIns := [], harness := (true, "acb0f931da57d18485702f660f2d4768ee76b7faee150d1a8aeea457efec23eb"), looks := false }, kinds := [], alts := [], laidByText := true, laidKinds := [.data], laidTests := true, laidLooks := .later }
def CrcChecksUptoCardSaid : Prop := Claim7.holds Tryd.pinned (.plain (OpenSpec.upto crcChecksSpec)) crcChecksUptoCard

/-- THE SECOND FORM's CARD OF 'thatchlaw02.CrcBroken'. -/
def crcBrokenUptoCard : Claim7 := { stood := { row := crcBrokenUptoRow, standIns := [], harness := (true, "acb0f931da57d18485702f660f2d4768ee76b7faee150d1a8aeea457efec23eb"), looks := false }, kinds := [], alts := [], laidByText := true, laidKinds := [.data], laidTests := true, laidLooks := .later }
def CrcBrokenUptoCardSaid : Prop := Claim7.holds Tryd.pinned (.plain (OpenSpec.upto crcBrokenSpec)) crcBrokenUptoCard

/-- THE SECOND FORM's CARD OF 'thatchlaw02.CrcZeros'. -/
def crcZerosUptoCard : Claim7 := { stood := { row := crcZerosUptoRow, standIns := [], harness := (true, "acb0f931da57d18485702f660f2d4768ee76b7faee150d1a8aeea457efec23eb"), looks := false }, kinds := [], alts := [], laidByText := true, laidKinds := [.data], laidTests := true, laidLooks := .later }
def CrcZerosUptoCardSaid : Prop := Claim7.holds Tryd.pinned (.plain (OpenSpec.upto crcZerosSpec)) crcZerosUptoCard
end Rows
end Go.Proofs.YtcmpaebogekdcaaDoor
