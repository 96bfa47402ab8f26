/-
  DERIVED. GIVEN WITH THE SEED: THE CARDS: each row of YtcojhmllnhkbnaaDoorRows.lean that lists a variable, with what it lists TIED to the program's text (the seventh form; the later family's looks); each row that meets fmt, with fmt's text TOLD by the authors' own Lean function (tested against real Go, not proved from fmt's source: count such statements apart). THE CARD IS WHAT COUNTS. Prove the row's statement (the work); the ties are given (YtcojhmllnhkbnaaDoorTie.lean); close each card by the builder's one call (the guide's Derived/Test/ToyasCard.lean, 'card_holds'). Laid BY PROGRAM, IN A SANDBOX (cutbox-door.mjs). By AI agents, Wed Nov 11 2026. No macro, syntax, notation, axiom, sorry.
-/
import Derived.Test.YtcojhmllnhkbnaaDoorRows
import GoSem.ClaimSeven
namespace Go.Proofs.YtcojhmllnhkbnaaDoor
namespace Rows

/-- THE TIED CARD OF 'hypogeumlaw23.ManifestMakes'. -/
def manifestMakesCard : Claim7 := { stood := { row := manifestMakesRow, standIns := [], harness := (true, "9518bc105dd9e3ef4849c99bcf20bb2ee404ff477cdd4dd54cfa6bb01b7c0585"), looks := false }, kinds := [], alts := [], laidByText := true, laidKinds := [.data], laidTests := true, laidLooks := .later }
def ManifestMakesCardSaid : Prop := Claim7.holds Tryd.pinned (.plain (OpenSpec.ofChange manifestMakesSpec)) manifestMakesCard

/-- THE TIED CARD OF 'hypogeumlaw19.PackSizes'. -/
def packSizesCard : Claim7 := { stood := { row := packSizesRow, standIns := [], harness := (true, "9518bc105dd9e3ef4849c99bcf20bb2ee404ff477cdd4dd54cfa6bb01b7c0585"), looks := false }, kinds := [], alts := [], laidByText := true, laidKinds := [.data], laidTests := true, laidLooks := .later }
def PackSizesCardSaid : Prop := Claim7.holds Tryd.pinned (.plain (OpenSpec.ofChange packSizesSpec)) packSizesCard

/-- THE TIED CARD OF 'hypogeumlaw19.PackSlices'. -/
def packSlicesCard : Claim7 := { stood := { row := packSlicesRow, standIns := [], harness := (true, "9518bc105dd9e3ef4849c99bcf20bb2ee404ff477cdd4dd54cfa6bb01b7c0585"), looks := false }, kinds := [], alts := [], laidByText := true, laidKinds := [.data], laidTests := true, laidLooks := .later }
def PackSlicesCardSaid : Prop := Claim7.holds Tryd.pinned (.plain (OpenSpec.ofChange packSlicesSpec)) packSlicesCard

/-- THE TIED CARD OF 'hypogeumlaw18.BlobNames'. -/
def blobNamesCard : Claim7 := { stood := { row := blobNamesRow, standIns := [], harness := (true, "9518bc105dd9e3ef4849c99bcf20bb2ee404ff477cdd4dd54cfa6bb01b7c0585"), looks := false }, kinds := [], alts := [], laidByText := true, laidKinds := [.data], laidTests := true, laidLooks := .later }
def BlobNamesCardSaid : Prop := Claim7.holds Tryd.pinned (.plain (OpenSpec.ofChange blobNamesSpec)) blobNamesCard

/-- THE TIED CARD OF 'hypogeumlaw18.BlobBack'. -/
def blobBackCard : Claim7 := { stood := { row := blobBackRow, standIns := [], harness := (true, "9518bc105dd9e3ef4849c99bcf20bb2ee404ff477cdd4dd54cfa6bb01b7c0585"), looks := false }, kinds := [], alts := [], laidByText := true, laidKinds := [.data], laidTests := true, laidLooks := .later }
def BlobBackCardSaid : Prop := Claim7.holds Tryd.pinned (.plain (OpenSpec.ofChange blobBackSpec)) blobBackCard

/-- THE TIED CARD OF 'hypogeumlaw18.BlobForm'. -/
def blobFormCard : Claim7 := { stood := { row := blobFormRow, standIns := [], harness := (true, "9518bc105dd9e3ef4849c99bcf20bb2ee404ff477cdd4dd54cfa6bb01b7c0585"), looks := false }, kinds := [], alts := [], laidByText := true, laidKinds := [.data], laidTests := true, laidLooks := .later }
def BlobFormCardSaid : Prop := Claim7.holds Tryd.pinned (.plain (OpenSpec.ofChange blobFormSpec)) blobFormCard

/-- THE TIED CARD OF 'hypogeumlaw11.KeyfileBack'. -/
def keyfileBackCard : Claim7 := { stood := { row := keyfileBackRow, standIns := [], harness := (true, "9518bc105dd9e3ef4849c99bcf20bb2ee404ff477cdd4dd54cfa6bb01b7c0585"), looks := false }, kinds := [], alts := [], laidByText := true, laidKinds := [.data], laidTests := true, laidLooks := .later }
def KeyfileBackCardSaid : Prop := Claim7.holds Tryd.pinned (.plain (OpenSpec.ofChange keyfileBackSpec)) keyfileBackCard

/-- THE TIED CARD OF 'hypogeumlaw11.KeyfileReads'. -/
def keyfileReadsCard : Claim7 := { stood := { row := keyfileReadsRow, standIns := [], harness := (true, "9518bc105dd9e3ef4849c99bcf20bb2ee404ff477cdd4dd54cfa6bb01b7c0585"), looks := false }, kinds := [], alts := [], laidByText := true, laidKinds := [.data], laidTests := true, laidLooks := .later }
def KeyfileReadsCardSaid : Prop := Claim7.holds Tryd.pinned (.plain (OpenSpec.ofChange keyfileReadsSpec)) keyfileReadsCard

/-- THE TIED CARD OF 'hypogeumlaw11.KeyfileForm'. -/
def keyfileFormCard : Claim7 := { stood := { row := keyfileFormRow, standIns := [], harness := (true, "9518bc105dd9e3ef4849c99bcf20bb2ee404ff477cdd4dd54cfa6bb01b7c0585"), looks := false }, kinds := [], alts := [], laidByText := true, laidKinds := [.data], laidTests := true, laidLooks := .later }
def KeyfileFormCardSaid : Prop := Claim7.holds Tryd.pinned (.plain (OpenSpec.ofChange keyfileFormSpec)) keyfileFormCard

/-- THE TIED CARD OF 'hypogeumlaw19.PackBack'. -/
def packBackCard : Claim7 := { stood := { row := packBackRow, standIns := [], harness := (true, "9518bc105dd9e3ef4849c99bcf20bb2ee404ff477cdd4dd54cfa6bb01b7c0585"), looks := false }, kinds := [], alts := [], laidByText := true, laidKinds := [.data], laidTests := true, laidLooks := .later }
def PackBackCardSaid : Prop := Claim7.holds Tryd.pinned (.plain (OpenSpec.ofChange packBackSpec)) packBackCard

/-- THE SECOND FORM's CARD OF 'hypogeumlaw23.ManifestMakes'. -/
def manifestMakesUptoCard : Claim7 := { stood := { row := manifestMakesUptoRow, standIns := [], harness := (true, "9518bc105dd9e3ef4849c99bcf20bb2ee404ff477cdd4dd54cfa6bb01b7c0585"), looks := false }, kinds := [], alts := [], laidByText := true, laidKinds := [.data], laidTests := true, laidLooks := .later }
def ManifestMakesUptoCardSaid : Prop := Claim7.holds Tryd.pinned (.plain (OpenSpec.upto manifestMakesSpec)) manifestMakesUptoCard

/-- THE SECOND FORM's CARD OF 'hypogeumlaw19.PackSizes'. -/
def packSizesUptoCard : Claim7 := { stood := { row := packSizesUptoRow, standIns := [], harness := (true, "9518bc105dd9e3ef4849c99bcf20bb2ee404ff477cdd4dd54cfa6bb01b7c0585"), looks := false }, kinds := [], alts := [], laidByText := true, laidKinds := [.data], laidTests := true, laidLooks := .later }
def PackSizesUptoCardSaid : Prop := Claim7.holds Tryd.pinned (.plain (OpenSpec.upto packSizesSpec)) packSizesUptoCard

/-- THE SECOND FORM's CARD OF 'hypogeumlaw19.PackSlices'. -/
def packSlicesUptoCard : Claim7 := { stood := { row := packSlicesUptoRow, standIns := [], harness := (true, "9518bc105dd9e3ef4849c99bcf20bb2ee404ff477cdd4dd54cfa6bb01b7c0585"), looks := false }, kinds := [], alts := [], laidByText := true, laidKinds := [.data], laidTests := true, laidLooks := .later }
def PackSlicesUptoCardSaid : Prop := Claim7.holds Tryd.pinned (.plain (OpenSpec.upto packSlicesSpec)) packSlicesUptoCard

/-- THE SECOND FORM's CARD OF 'hypogeumlaw18.BlobNames'. -/
def blobNamesUptoCard : Claim7 := { stood := { row := blobNamesUptoRow, standIns := [], harness := (true, "9518bc105dd9e3ef4849c99bcf20bb2ee404ff477cdd4dd54cfa6bb01b7c0585"), looks := false }, kinds := [], alts := [], laidByText := true, laidKinds := [.data], laidTests := true, laidLooks := .later }
def BlobNamesUptoCardSaid : Prop := Claim7.holds Tryd.pinned (.plain (OpenSpec.upto blobNamesSpec)) blobNamesUptoCard

/-- THE SECOND FORM's CARD OF 'hypogeumlaw18.BlobBack'. -/
def blobBackUptoCard : Claim7 := { stood := { row := blobBackUptoRow, standIns := [], harness := (true, "9518bc105dd9e3ef4849c99bcf20bb2ee404ff477cdd4dd54cfa6bb01b7c0585"), looks := false }, kinds := [], alts := [], laidByText := true, laidKinds := [.data], laidTests := true, laidLooks := .later }
def BlobBackUptoCardSaid : Prop := Claim7.holds Tryd.pinned (.plain (OpenSpec.upto blobBackSpec)) blobBackUptoCard

/-- THE SECOND FORM's CARD OF 'hypogeumlaw18.BlobForm'. -/
def blobFormUptoCard : Claim7 := { stood := { row := blobFormUptoRow, standIns := [], harness := (true, "9518bc105dd9e3ef4849c99bcf20bb2ee404ff477cdd4dd54cfa6bb01b7c0585"), looks := false }, kinds := [], alts := [], laidByText := true, laidKinds := [.data], laidTests := true, laidLooks := .later }
def BlobFormUptoCardSaid : Prop := Claim7.holds Tryd.pinned (.plain (OpenSpec.upto blobFormSpec)) blobFormUptoCard

/-- THE SECOND FORM's CARD OF 'hypogeumlaw11.KeyfileBack'. -/
def keyfileBackUptoCard : Claim7 := { stood := { row := keyfileBackUptoRow, standIns := [], harness := (true, "9518bc105dd9e3ef4849c99bcf20bb2ee404ff477cdd4dd54cfa6bb01b7c0585"), looks := false }, kinds := [], alts := [], laidByText := true, laidKinds := [.data], laidTests := true, laidLooks := .later }
def KeyfileBackUptoCardSaid : Prop := Claim7.holds Tryd.pinned (.plain (OpenSpec.upto keyfileBackSpec)) keyfileBackUptoCard

/-- THE SECOND FORM's CARD OF 'hypogeumlaw11.KeyfileReads'. -/
def keyfileReadsUptoCard : Claim7 := { stood := { row := keyfileReadsUptoRow, standIns := [], harness := (true, "9518bc105dd9e3ef4849c99bcf20bb2ee404ff477cdd4dd54cfa6bb01b7c0585"), looks := false }, kinds := [], alts := [], laidByText := true, laidKinds := [.data], laidTests := true, laidLooks := .later }
def KeyfileReadsUptoCardSaid : Prop := Claim7.holds Tryd.pinned (.plain (OpenSpec.upto keyfileReadsSpec)) keyfileReadsUptoCard

/-- THE SECOND FORM's CARD OF 'hypogeumlaw11.KeyfileForm'. -/
def keyfileFormUptoCard : Claim7 := { stood := { row := keyfileFormUptoRow, standIns := [], harness := (true, "9518bc105dd9e3ef4849c99bcf20bb2ee404ff477cdd4dd54cfa6bb01b7c0585"), looks := false }, kinds := [], alts := [], laidByText := true, laidKinds := [.data], laidTests := true, laidLooks := .later }
def KeyfileFormUptoCardSaid : Prop := Claim7.holds Tryd.pinned (.plain (OpenSpec.upto keyfileFormSpec)) keyfileFormUptoCard

/-- THE SECOND FORM's CARD OF 'hypogeumlaw19.PackBack'. -/
def packBackUptoCard : Claim7 := { stood := { row := packBackUptoRow, standIns := [], harness := (true, "9518bc105dd9e3ef4849c99bcf20bb2ee404ff477cdd4dd54cfa6bb01b7c0585"), looks := false }, kinds := [], alts := [], laidByText := true, laidKinds := [.data], laidTests := true, laidLooks := .later }
def PackBackUptoCardSaid : Prop := Claim7.holds Tryd.pinned (.plain (OpenSpec.upto packBackSpec)) packBackUptoCard
end Rows
end Go.Proofs.YtcojhmllnhkbnaaDoor
