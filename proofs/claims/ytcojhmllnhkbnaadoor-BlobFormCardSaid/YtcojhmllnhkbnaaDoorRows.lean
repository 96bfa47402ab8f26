/-
  NARROWER THAN 'FOR EVERY INPUT', by the rows' own cells (each row's printed sentence says how): ManifestMakes: laid · PackSizes: laid · PackSlices: laid · BlobNames: laid · BlobBack: laid · BlobForm: laid · KeyfileBack: laid · KeyfileReads: laid · KeyfileForm: laid · PackBack: laid.
  DERIVED. THE GIVEN ROWS OF THIS SEAT. 10 by the template 'for every input the law returns true; each argument reads behind the call as it read before'; 0 by the template 'total and deterministic' (their statements: YtcojhmllnhkbnaaDoorTotals.lean).
  GIVEN WITH THE SEED: the statements are not yours to turn. If you find one false, say at which input.
  Laid BY PROGRAM, IN A SANDBOX (cutbox-rows.mjs): the forced cells as the released guide's own fill.sh prints them over the translation 1ce3474b164dcbe8… (all of the seat's roots in one cut). By AI agents, Wed Nov 11 2026. No macro, syntax, notation, axiom, sorry.
-/
import Derived.Test.YtcojhmllnhkbnaaDoorChecked
import GoSem.Claim
import GoSem.ClaimJoined
import GoSem.ClaimMapViews
import Derived.JoinedTies
import Derived.KernelRfl
namespace Go.Proofs.YtcojhmllnhkbnaaDoor
/- THE CELL 'sum', in the pinned program and in every row, IS THE sha256 OF THE DUMP (.gsa) THAT YtcojhmllnhkbnaaDoorProg.lean LOADS. Nothing in Lean hashes anything: it is a label: what it is worth is what the hold of that sum in a sandbox is worth. -/
noncomputable def Tryd.pinned : Pinned := { name := "ytcojhmllnhkbnaadoor", sum := "1ce3474b164dcbe80a6d27e3d4f0e93514a4866c09d125ce67fedb2b3f6564b4", checked := Tryd.checked }
namespace Rows
def none {H : Type} : Left H := { results := [], args := [] }

/- WHAT THE LISTED PACKAGE-LEVEL VARIABLES READ AS WHEN THE CALL BEGINS. Each datum BY PROGRAM (the guide's laid-datum.mjs) off the statement by which the dump's own 'gosem.cut.vars' lays the variable. In a bare row this is a premise. The card (YtcojhmllnhkbnaaDoorCards.lean) ties it to the program's text. -/
def laid_hypogeum_digest_rounds {H : Type} : DataW H := .agg [.lit (.int .u32 1116352408), .lit (.int .u32 1899447441), .lit (.int .u32 3049323471), .lit (.int .u32 3921009573), .lit (.int .u32 961987163), .lit (.int .u32 1508970993), .lit (.int .u32 2453635748), .lit (.int .u32 2870763221), .lit (.int .u32 3624381080), .lit (.int .u32 310598401), .lit (.int .u32 607225278), .lit (.int .u32 1426881987), .lit (.int .u32 1925078388), .lit (.int .u32 2162078206), .lit (.int .u32 2614888103), .lit (.int .u32 3248222580), .lit (.int .u32 3835390401), .lit (.int .u32 4022224774), .lit (.int .u32 264347078), .lit (.int .u32 604807628), .lit (.int .u32 770255983), .lit (.int .u32 1249150122), .lit (.int .u32 1555081692), .lit (.int .u32 1996064986), .lit (.int .u32 2554220882), .lit (.int .u32 2821834349), .lit (.int .u32 2952996808), .lit (.int .u32 3210313671), .lit (.int .u32 3336571891), .lit (.int .u32 3584528711), .lit (.int .u32 113926993), .lit (.int .u32 338241895), .lit (.int .u32 666307205), .lit (.int .u32 773529912), .lit (.int .u32 1294757372), .lit (.int .u32 1396182291), .lit (.int .u32 1695183700), .lit (.int .u32 1986661051), .lit (.int .u32 2177026350), .lit (.int .u32 2456956037), .lit (.int .u32 2730485921), .lit (.int .u32 2820302411), .lit (.int .u32 3259730800), .lit (.int .u32 3345764771), .lit (.int .u32 3516065817), .lit (.int .u32 3600352804), .lit (.int .u32 4094571909), .lit (.int .u32 275423344), .lit (.int .u32 430227734), .lit (.int .u32 506948616), .lit (.int .u32 659060556), .lit (.int .u32 883997877), .lit (.int .u32 958139571), .lit (.int .u32 1322822218), .lit (.int .u32 1537002063), .lit (.int .u32 1747873779), .lit (.int .u32 1955562222), .lit (.int .u32 2024104815), .lit (.int .u32 2227730452), .lit (.int .u32 2361852424), .lit (.int .u32 2428436474), .lit (.int .u32 2756734187), .lit (.int .u32 3204031479), .lit (.int .u32 3329325298)]

/-- 'hypogeumlaw23.ManifestMakes': WHATEVER THE INPUT: true; the input reads as it did. -/
def manifestMakesSpec : ChangeSpec := { name := "manifestMakes", fn := fun _ => fun
  | [d] => { results := [.lit (.bool true)], args := [d] }
  | _ => none }
def manifestMakesRow : OpenClaim := { program := "ytcojhmllnhkbnaadoor", sum := "1ce3474b164dcbe80a6d27e3d4f0e93514a4866c09d125ce67fedb2b3f6564b4", func := "hypogeum/hypogeumlaw23.ManifestMakes", spec := "manifestMakes", recurses := true, named := ["hypogeum/digest.rounds"], apart := false, laid := [("hypogeum/digest.rounds", laid_hypogeum_digest_rounds)] }
def ManifestMakesSaid : Prop := manifestMakesRow.holds Tryd.pinned (OpenSpec.ofChange manifestMakesSpec)

/-- ITS FALSE NEIGHBOUR: 'it returns false'. Refute it at one input. -/
def manifestMakesWrong : ChangeSpec := { name := "manifestMakes", fn := fun _ => fun
  | [d] => { results := [.lit (.bool false)], args := [d] }
  | _ => none }
def ManifestMakesWrongFalsely : Prop := manifestMakesRow.holds Tryd.pinned (OpenSpec.ofChange manifestMakesWrong)

/-- 'hypogeumlaw19.PackSizes': WHATEVER THE INPUT: true; the input reads as it did. -/
def packSizesSpec : ChangeSpec := { name := "packSizes", fn := fun _ => fun
  | [d] => { results := [.lit (.bool true)], args := [d] }
  | _ => none }
def packSizesRow : OpenClaim := { program := "ytcojhmllnhkbnaadoor", sum := "1ce3474b164dcbe80a6d27e3d4f0e93514a4866c09d125ce67fedb2b3f6564b4", func := "hypogeum/hypogeumlaw19.PackSizes", spec := "packSizes", unfollowed := true, recurses := true, named := ["hypogeum/digest.rounds"], apart := false, laid := [("hypogeum/digest.rounds", laid_hypogeum_digest_rounds)] }
def PackSizesSaid : Prop := packSizesRow.holds Tryd.pinned (OpenSpec.ofChange packSizesSpec)

/-- ITS FALSE NEIGHBOUR: 'it returns false'. Refute it at one input. -/
def packSizesWrong : ChangeSpec := { name := "packSizes", fn := fun _ => fun
  | [d] => { results := [.lit (.bool false)], args := [d] }
  | _ => none }
def PackSizesWrongFalsely : Prop := packSizesRow.holds Tryd.pinned (OpenSpec.ofChange packSizesWrong)

/-- 'hypogeumlaw19.PackSlices': WHATEVER THE INPUT: true; the input reads as it did. -/
def packSlicesSpec : ChangeSpec := { name := "packSlices", fn := fun _ => fun
  | [d1, d2, d3] => { results := [.lit (.bool true)], args := [d1, d2, d3] }
  | _ => none }
def packSlicesRow : OpenClaim := { program := "ytcojhmllnhkbnaadoor", sum := "1ce3474b164dcbe80a6d27e3d4f0e93514a4866c09d125ce67fedb2b3f6564b4", func := "hypogeum/hypogeumlaw19.PackSlices", spec := "packSlices", unfollowed := true, recurses := true, named := ["hypogeum/digest.rounds"], apart := false, laid := [("hypogeum/digest.rounds", laid_hypogeum_digest_rounds)] }
def PackSlicesSaid : Prop := packSlicesRow.holds Tryd.pinned (OpenSpec.ofChange packSlicesSpec)

/-- ITS FALSE NEIGHBOUR: 'it returns false'. Refute it at one input. -/
def packSlicesWrong : ChangeSpec := { name := "packSlices", fn := fun _ => fun
  | [d1, d2, d3] => { results := [.lit (.bool false)], args := [d1, d2, d3] }
  | _ => none }
def PackSlicesWrongFalsely : Prop := packSlicesRow.holds Tryd.pinned (OpenSpec.ofChange packSlicesWrong)

/-- 'hypogeumlaw18.BlobNames': WHATEVER THE INPUT: true; the input reads as it did. -/
def blobNamesSpec : ChangeSpec := { name := "blobNames", fn := fun _ => fun
  | [d] => { results := [.lit (.bool true)], args := [d] }
  | _ => none }
def blobNamesRow : OpenClaim := { program := "ytcojhmllnhkbnaadoor", sum := "1ce3474b164dcbe80a6d27e3d4f0e93514a4866c09d125ce67fedb2b3f6564b4", func := "hypogeum/hypogeumlaw18.BlobNames", spec := "blobNames", unfollowed := true, recurses := true, named := ["hypogeum/digest.rounds"], apart := false, laid := [("hypogeum/digest.rounds", laid_hypogeum_digest_rounds)] }
def BlobNamesSaid : Prop := blobNamesRow.holds Tryd.pinned (OpenSpec.ofChange blobNamesSpec)

/-- ITS FALSE NEIGHBOUR: 'it returns false'. Refute it at one input. -/
def blobNamesWrong : ChangeSpec := { name := "blobNames", fn := fun _ => fun
  | [d] => { results := [.lit (.bool false)], args := [d] }
  | _ => none }
def BlobNamesWrongFalsely : Prop := blobNamesRow.holds Tryd.pinned (OpenSpec.ofChange blobNamesWrong)

/-- 'hypogeumlaw18.BlobBack': WHATEVER THE INPUT: true; the input reads as it did. -/
def blobBackSpec : ChangeSpec := { name := "blobBack", fn := fun _ => fun
  | [d1, d2] => { results := [.lit (.bool true)], args := [d1, d2] }
  | _ => none }
def blobBackRow : OpenClaim := { program := "ytcojhmllnhkbnaadoor", sum := "1ce3474b164dcbe80a6d27e3d4f0e93514a4866c09d125ce67fedb2b3f6564b4", func := "hypogeum/hypogeumlaw18.BlobBack", spec := "blobBack", unfollowed := true, recurses := true, named := ["hypogeum/digest.rounds"], apart := false, laid := [("hypogeum/digest.rounds", laid_hypogeum_digest_rounds)] }
def BlobBackSaid : Prop := blobBackRow.holds Tryd.pinned (OpenSpec.ofChange blobBackSpec)

/-- ITS FALSE NEIGHBOUR: 'it returns false'. Refute it at one input. -/
def blobBackWrong : ChangeSpec := { name := "blobBack", fn := fun _ => fun
  | [d1, d2] => { results := [.lit (.bool false)], args := [d1, d2] }
  | _ => none }
def BlobBackWrongFalsely : Prop := blobBackRow.holds Tryd.pinned (OpenSpec.ofChange blobBackWrong)

/-- 'hypogeumlaw18.BlobForm': WHATEVER THE INPUT: true; the input reads as it did. -/
def blobFormSpec : ChangeSpec := { name := "blobForm", fn := fun _ => fun
  | [d1, d2, d3, d4] => { results := [.lit (.bool true)], args := [d1, d2, d3, d4] }
  | _ => none }
def blobFormRow : OpenClaim := { program := "ytcojhmllnhkbnaadoor", sum := "1ce3474b164dcbe80a6d27e3d4f0e93514a4866c09d125ce67fedb2b3f6564b4", func := "hypogeum/hypogeumlaw18.BlobForm", spec := "blobForm", unfollowed := true, recurses := true, named := ["hypogeum/digest.rounds"], apart := false, laid := [("hypogeum/digest.rounds", laid_hypogeum_digest_rounds)] }
def BlobFormSaid : Prop := blobFormRow.holds Tryd.pinned (OpenSpec.ofChange blobFormSpec)

/-- ITS FALSE NEIGHBOUR: 'it returns false'. Refute it at one input. -/
def blobFormWrong : ChangeSpec := { name := "blobForm", fn := fun _ => fun
  | [d1, d2, d3, d4] => { results := [.lit (.bool false)], args := [d1, d2, d3, d4] }
  | _ => none }
def BlobFormWrongFalsely : Prop := blobFormRow.holds Tryd.pinned (OpenSpec.ofChange blobFormWrong)

/-- 'hypogeumlaw11.KeyfileBack': WHATEVER THE INPUT: true; the input reads as it did. -/
def keyfileBackSpec : ChangeSpec := { name := "keyfileBack", fn := fun _ => fun
  | [d] => { results := [.lit (.bool true)], args := [d] }
  | _ => none }
def keyfileBackRow : OpenClaim := { program := "ytcojhmllnhkbnaadoor", sum := "1ce3474b164dcbe80a6d27e3d4f0e93514a4866c09d125ce67fedb2b3f6564b4", func := "hypogeum/hypogeumlaw11.KeyfileBack", spec := "keyfileBack", unfollowed := true, recurses := true, named := ["hypogeum/digest.rounds"], apart := false, laid := [("hypogeum/digest.rounds", laid_hypogeum_digest_rounds)] }
def KeyfileBackSaid : Prop := keyfileBackRow.holds Tryd.pinned (OpenSpec.ofChange keyfileBackSpec)

/-- ITS FALSE NEIGHBOUR: 'it returns false'. Refute it at one input. -/
def keyfileBackWrong : ChangeSpec := { name := "keyfileBack", fn := fun _ => fun
  | [d] => { results := [.lit (.bool false)], args := [d] }
  | _ => none }
def KeyfileBackWrongFalsely : Prop := keyfileBackRow.holds Tryd.pinned (OpenSpec.ofChange keyfileBackWrong)

/-- 'hypogeumlaw11.KeyfileReads': WHATEVER THE INPUT: true; the input reads as it did. -/
def keyfileReadsSpec : ChangeSpec := { name := "keyfileReads", fn := fun _ => fun
  | [d] => { results := [.lit (.bool true)], args := [d] }
  | _ => none }
def keyfileReadsRow : OpenClaim := { program := "ytcojhmllnhkbnaadoor", sum := "1ce3474b164dcbe80a6d27e3d4f0e93514a4866c09d125ce67fedb2b3f6564b4", func := "hypogeum/hypogeumlaw11.KeyfileReads", spec := "keyfileReads", unfollowed := true, recurses := true, named := ["hypogeum/digest.rounds"], apart := false, laid := [("hypogeum/digest.rounds", laid_hypogeum_digest_rounds)] }
def KeyfileReadsSaid : Prop := keyfileReadsRow.holds Tryd.pinned (OpenSpec.ofChange keyfileReadsSpec)

/-- ITS FALSE NEIGHBOUR: 'it returns false'. Refute it at one input. -/
def keyfileReadsWrong : ChangeSpec := { name := "keyfileReads", fn := fun _ => fun
  | [d] => { results := [.lit (.bool false)], args := [d] }
  | _ => none }
def KeyfileReadsWrongFalsely : Prop := keyfileReadsRow.holds Tryd.pinned (OpenSpec.ofChange keyfileReadsWrong)

/-- 'hypogeumlaw11.KeyfileForm': WHATEVER THE INPUT: true; the input reads as it did. -/
def keyfileFormSpec : ChangeSpec := { name := "keyfileForm", fn := fun _ => fun
  | [d1, d2] => { results := [.lit (.bool true)], args := [d1, d2] }
  | _ => none }
def keyfileFormRow : OpenClaim := { program := "ytcojhmllnhkbnaadoor", sum := "1ce3474b164dcbe80a6d27e3d4f0e93514a4866c09d125ce67fedb2b3f6564b4", func := "hypogeum/hypogeumlaw11.KeyfileForm", spec := "keyfileForm", unfollowed := true, recurses := true, named := ["hypogeum/digest.rounds"], apart := false, laid := [("hypogeum/digest.rounds", laid_hypogeum_digest_rounds)] }
def KeyfileFormSaid : Prop := keyfileFormRow.holds Tryd.pinned (OpenSpec.ofChange keyfileFormSpec)

/-- ITS FALSE NEIGHBOUR: 'it returns false'. Refute it at one input. -/
def keyfileFormWrong : ChangeSpec := { name := "keyfileForm", fn := fun _ => fun
  | [d1, d2] => { results := [.lit (.bool false)], args := [d1, d2] }
  | _ => none }
def KeyfileFormWrongFalsely : Prop := keyfileFormRow.holds Tryd.pinned (OpenSpec.ofChange keyfileFormWrong)

/-- 'hypogeumlaw19.PackBack': WHATEVER THE INPUT: true; the input reads as it did. -/
def packBackSpec : ChangeSpec := { name := "packBack", fn := fun _ => fun
  | [d1, d2, d3] => { results := [.lit (.bool true)], args := [d1, d2, d3] }
  | _ => none }
def packBackRow : OpenClaim := { program := "ytcojhmllnhkbnaadoor", sum := "1ce3474b164dcbe80a6d27e3d4f0e93514a4866c09d125ce67fedb2b3f6564b4", func := "hypogeum/hypogeumlaw19.PackBack", spec := "packBack", unfollowed := true, recurses := true, named := ["hypogeum/digest.rounds"], apart := false, laid := [("hypogeum/digest.rounds", laid_hypogeum_digest_rounds)] }
def PackBackSaid : Prop := packBackRow.holds Tryd.pinned (OpenSpec.ofChange packBackSpec)

/-- ITS FALSE NEIGHBOUR: 'it returns false'. Refute it at one input. -/
def packBackWrong : ChangeSpec := { name := "packBack", fn := fun _ => fun
  | [d1, d2, d3] => { results := [.lit (.bool false)], args := [d1, d2, d3] }
  | _ => none }
def PackBackWrongFalsely : Prop := packBackRow.holds Tryd.pinned (OpenSpec.ofChange packBackWrong)

/- THE SECOND FORM. 'bulk': how many values and letters a reading holds, each counted each time it is reached (what is shared counts as often as it is met; a slice's spare places count too). A statement '..UptoSaid' is the law's where the arguments, and the package variables that the reading takes, are together of bulk at most 1048576: NARROWER than '..Said'. Prove '..Said' where nothing that the law and all that it calls make is longer than what came in: it says more and counts as full. Else prove '..UptoSaid'. A law counts once. -/
mutual
def uptoBulk {H : Type} : DataW H → Nat
  | .lit (.string bytes) => bytes.length + 1
  | .lit _ => 1
  | .nil => 1
  | .ptr d => uptoBulk d + 1
  | .slice elems spare => uptoBulkAll elems + uptoBulkAll spare + 1
  | .agg parts => uptoBulkAll parts + 1
  | .iface _ d => uptoBulk d + 1
  | .map entries => uptoBulkEntries entries + 1
  | .held _ => 1
def uptoBulkAll {H : Type} : List (DataW H) → Nat
  | [] => 0
  | d :: r => uptoBulk d + uptoBulkAll r
def uptoBulkEntries {H : Type} : List (Lit × DataW H) → Nat
  | [] => 0
  | x :: r => uptoBulkEntry x + uptoBulkEntries r
def uptoBulkEntry {H : Type} : Lit × DataW H → Nat
  | (.string bytes, d) => bytes.length + uptoBulk d + 1
  | (_, d) => uptoBulk d + 1
 end
def uptoSmall : (H : Type) → List (DataW H) → Bool := fun _ ds => decide (uptoBulkAll ds ≤ 1048576)
def OpenSpec.upto (s : _root_.Go.ChangeSpec) : _root_.Go.OpenSpec := { _root_.Go.OpenSpec.ofChange s with cond := some uptoSmall }

/-- 'hypogeumlaw23.ManifestMakes', WHERE WHAT IT READS IS OF BULK AT MOST 1048576: true; the input reads as it did. -/
def manifestMakesUptoRow : OpenClaim := { program := "ytcojhmllnhkbnaadoor", sum := "1ce3474b164dcbe80a6d27e3d4f0e93514a4866c09d125ce67fedb2b3f6564b4", func := "hypogeum/hypogeumlaw23.ManifestMakes", spec := "manifestMakes", recurses := true, named := ["hypogeum/digest.rounds"], apart := false, laid := [("hypogeum/digest.rounds", laid_hypogeum_digest_rounds)], narrowed := true }
def ManifestMakesUptoSaid : Prop := manifestMakesUptoRow.holds Tryd.pinned (OpenSpec.upto manifestMakesSpec)

/-- 'hypogeumlaw19.PackSizes', WHERE WHAT IT READS IS OF BULK AT MOST 1048576: true; the input reads as it did. -/
def packSizesUptoRow : OpenClaim := { program := "ytcojhmllnhkbnaadoor", sum := "1ce3474b164dcbe80a6d27e3d4f0e93514a4866c09d125ce67fedb2b3f6564b4", func := "hypogeum/hypogeumlaw19.PackSizes", spec := "packSizes", unfollowed := true, recurses := true, named := ["hypogeum/digest.rounds"], apart := false, laid := [("hypogeum/digest.rounds", laid_hypogeum_digest_rounds)], narrowed := true }
def PackSizesUptoSaid : Prop := packSizesUptoRow.holds Tryd.pinned (OpenSpec.upto packSizesSpec)

/-- 'hypogeumlaw19.PackSlices', WHERE WHAT IT READS IS OF BULK AT MOST 1048576: true; the input reads as it did. -/
def packSlicesUptoRow : OpenClaim := { program := "ytcojhmllnhkbnaadoor", sum := "1ce3474b164dcbe80a6d27e3d4f0e93514a4866c09d125ce67fedb2b3f6564b4", func := "hypogeum/hypogeumlaw19.PackSlices", spec := "packSlices", unfollowed := true, recurses := true, named := ["hypogeum/digest.rounds"], apart := false, laid := [("hypogeum/digest.rounds", laid_hypogeum_digest_rounds)], narrowed := true }
def PackSlicesUptoSaid : Prop := packSlicesUptoRow.holds Tryd.pinned (OpenSpec.upto packSlicesSpec)

/-- 'hypogeumlaw18.BlobNames', WHERE WHAT IT READS IS OF BULK AT MOST 1048576: true; the input reads as it did. -/
def blobNamesUptoRow : OpenClaim := { program := "ytcojhmllnhkbnaadoor", sum := "1ce3474b164dcbe80a6d27e3d4f0e93514a4866c09d125ce67fedb2b3f6564b4", func := "hypogeum/hypogeumlaw18.BlobNames", spec := "blobNames", unfollowed := true, recurses := true, named := ["hypogeum/digest.rounds"], apart := false, laid := [("hypogeum/digest.rounds", laid_hypogeum_digest_rounds)], narrowed := true }
def BlobNamesUptoSaid : Prop := blobNamesUptoRow.holds Tryd.pinned (OpenSpec.upto blobNamesSpec)

/-- 'hypogeumlaw18.BlobBack', WHERE WHAT IT READS IS OF BULK AT MOST 1048576: true; the input reads as it did. -/
def blobBackUptoRow : OpenClaim := { program := "ytcojhmllnhkbnaadoor", sum := "1ce3474b164dcbe80a6d27e3d4f0e93514a4866c09d125ce67fedb2b3f6564b4", func := "hypogeum/hypogeumlaw18.BlobBack", spec := "blobBack", unfollowed := true, recurses := true, named := ["hypogeum/digest.rounds"], apart := false, laid := [("hypogeum/digest.rounds", laid_hypogeum_digest_rounds)], narrowed := true }
def BlobBackUptoSaid : Prop := blobBackUptoRow.holds Tryd.pinned (OpenSpec.upto blobBackSpec)

/-- 'hypogeumlaw18.BlobForm', WHERE WHAT IT READS IS OF BULK AT MOST 1048576: true; the input reads as it did. -/
def blobFormUptoRow : OpenClaim := { program := "ytcojhmllnhkbnaadoor", sum := "1ce3474b164dcbe80a6d27e3d4f0e93514a4866c09d125ce67fedb2b3f6564b4", func := "hypogeum/hypogeumlaw18.BlobForm", spec := "blobForm", unfollowed := true, recurses := true, named := ["hypogeum/digest.rounds"], apart := false, laid := [("hypogeum/digest.rounds", laid_hypogeum_digest_rounds)], narrowed := true }
def BlobFormUptoSaid : Prop := blobFormUptoRow.holds Tryd.pinned (OpenSpec.upto blobFormSpec)

/-- 'hypogeumlaw11.KeyfileBack', WHERE WHAT IT READS IS OF BULK AT MOST 1048576: true; the input reads as it did. -/
def keyfileBackUptoRow : OpenClaim := { program := "ytcojhmllnhkbnaadoor", sum := "1ce3474b164dcbe80a6d27e3d4f0e93514a4866c09d125ce67fedb2b3f6564b4", func := "hypogeum/hypogeumlaw11.KeyfileBack", spec := "keyfileBack", unfollowed := true, recurses := true, named := ["hypogeum/digest.rounds"], apart := false, laid := [("hypogeum/digest.rounds", laid_hypogeum_digest_rounds)], narrowed := true }
def KeyfileBackUptoSaid : Prop := keyfileBackUptoRow.holds Tryd.pinned (OpenSpec.upto keyfileBackSpec)

/-- 'hypogeumlaw11.KeyfileReads', WHERE WHAT IT READS IS OF BULK AT MOST 1048576: true; the input reads as it did. -/
def keyfileReadsUptoRow : OpenClaim := { program := "ytcojhmllnhkbnaadoor", sum := "1ce3474b164dcbe80a6d27e3d4f0e93514a4866c09d125ce67fedb2b3f6564b4", func := "hypogeum/hypogeumlaw11.KeyfileReads", spec := "keyfileReads", unfollowed := true, recurses := true, named := ["hypogeum/digest.rounds"], apart := false, laid := [("hypogeum/digest.rounds", laid_hypogeum_digest_rounds)], narrowed := true }
def KeyfileReadsUptoSaid : Prop := keyfileReadsUptoRow.holds Tryd.pinned (OpenSpec.upto keyfileReadsSpec)

/-- 'hypogeumlaw11.KeyfileForm', WHERE WHAT IT READS IS OF BULK AT MOST 1048576: true; the input reads as it did. -/
def keyfileFormUptoRow : OpenClaim := { program := "ytcojhmllnhkbnaadoor", sum := "1ce3474b164dcbe80a6d27e3d4f0e93514a4866c09d125ce67fedb2b3f6564b4", func := "hypogeum/hypogeumlaw11.KeyfileForm", spec := "keyfileForm", unfollowed := true, recurses := true, named := ["hypogeum/digest.rounds"], apart := false, laid := [("hypogeum/digest.rounds", laid_hypogeum_digest_rounds)], narrowed := true }
def KeyfileFormUptoSaid : Prop := keyfileFormUptoRow.holds Tryd.pinned (OpenSpec.upto keyfileFormSpec)

/-- 'hypogeumlaw19.PackBack', WHERE WHAT IT READS IS OF BULK AT MOST 1048576: true; the input reads as it did. -/
def packBackUptoRow : OpenClaim := { program := "ytcojhmllnhkbnaadoor", sum := "1ce3474b164dcbe80a6d27e3d4f0e93514a4866c09d125ce67fedb2b3f6564b4", func := "hypogeum/hypogeumlaw19.PackBack", spec := "packBack", unfollowed := true, recurses := true, named := ["hypogeum/digest.rounds"], apart := false, laid := [("hypogeum/digest.rounds", laid_hypogeum_digest_rounds)], narrowed := true }
def PackBackUptoSaid : Prop := packBackUptoRow.holds Tryd.pinned (OpenSpec.upto packBackSpec)

end Rows
end Go.Proofs.YtcojhmllnhkbnaaDoor
