/-
  No cell of these rows narrows 'for every input' (looked for: loops, veiled, ifaces, maps, wideKeys, modest, calm, conditions, laid).
  DERIVED. THE GIVEN ROWS OF THIS SEAT. 12 by the template 'for every input the law returns true; each argument reads behind the call as it read before'; 0 by the template 'total and deterministic' (their statements: YtdlbmjbbnplpjaaTotals.lean).
  GIVEN WITH THE SEED: the statements are not yours to turn. If you find one false, say at which input.
  Laid BY PROGRAM, IN A SANDBOX (cutbox-rows.mjs): the forced cells as the released guide's own fill.sh prints them over the translation 2d5cff7a7ff600cb… (all of the seat's roots in one cut). By AI agents, Wed Nov 11 2026. No macro, syntax, notation, axiom, sorry.
-/
import Derived.Test.YtdlbmjbbnplpjaaChecked
import GoSem.Claim
import GoSem.ClaimJoined
import GoSem.ClaimMapViews
import Derived.JoinedTies
import Derived.KernelRfl
namespace Go.Proofs.Ytdlbmjbbnplpjaa
/- THE CELL 'sum', in the pinned program and in every row, IS THE sha256 OF THE DUMP (.gsa) THAT YtdlbmjbbnplpjaaProg.lean LOADS. Nothing in Lean hashes anything: it is a label: what it is worth is what the hold of that sum in a sandbox is worth. -/
noncomputable def Try.pinned : Pinned := { name := "ytdlbmjbbnplpjaa", sum := "2d5cff7a7ff600cbd2dfb6e29ce8980f346c8674d40ea2cc6f1d2a4dfb1d5d36", checked := Try.checked }
namespace Rows
def none {H : Type} : Left H := { results := [], args := [] }

/-- 'hypogeumlaw16.StoreNames': WHATEVER THE INPUT: true; the input reads as it did. -/
def storeNamesSpec : ChangeSpec := { name := "storeNames", fn := fun _ => fun
  | [d] => { results := [.lit (.bool true)], args := [d] }
  | _ => none }
def storeNamesRow : OpenClaim := { program := "ytdlbmjbbnplpjaa", sum := "2d5cff7a7ff600cbd2dfb6e29ce8980f346c8674d40ea2cc6f1d2a4dfb1d5d36", func := "hypogeum/hypogeumlaw16.StoreNames", spec := "storeNames", plainKeys := false, apart := false }
def StoreNamesSaid : Prop := storeNamesRow.holds Try.pinned (OpenSpec.ofChange storeNamesSpec)

/-- ITS FALSE NEIGHBOUR: 'it returns false'. Refute it at one input. -/
def storeNamesWrong : ChangeSpec := { name := "storeNames", fn := fun _ => fun
  | [d] => { results := [.lit (.bool false)], args := [d] }
  | _ => none }
def StoreNamesWrongFalsely : Prop := storeNamesRow.holds Try.pinned (OpenSpec.ofChange storeNamesWrong)

/-- 'hypogeumlaw23.ManifestTexts': WHATEVER THE INPUT: true; the input reads as it did. -/
def manifestTextsSpec : ChangeSpec := { name := "manifestTexts", fn := fun _ => fun
  | [d1, d2] => { results := [.lit (.bool true)], args := [d1, d2] }
  | _ => none }
def manifestTextsRow : OpenClaim := { program := "ytdlbmjbbnplpjaa", sum := "2d5cff7a7ff600cbd2dfb6e29ce8980f346c8674d40ea2cc6f1d2a4dfb1d5d36", func := "hypogeum/hypogeumlaw23.ManifestTexts", spec := "manifestTexts", recurses := true, plainKeys := false, apart := false }
def ManifestTextsSaid : Prop := manifestTextsRow.holds Try.pinned (OpenSpec.ofChange manifestTextsSpec)

/-- ITS FALSE NEIGHBOUR: 'it returns false'. Refute it at one input. -/
def manifestTextsWrong : ChangeSpec := { name := "manifestTexts", fn := fun _ => fun
  | [d1, d2] => { results := [.lit (.bool false)], args := [d1, d2] }
  | _ => none }
def ManifestTextsWrongFalsely : Prop := manifestTextsRow.holds Try.pinned (OpenSpec.ofChange manifestTextsWrong)

/-- 'hypogeumlaw23.ManifestBack': WHATEVER THE INPUT: true; the input reads as it did. -/
def manifestBackSpec : ChangeSpec := { name := "manifestBack", fn := fun _ => fun
  | [d1, d2] => { results := [.lit (.bool true)], args := [d1, d2] }
  | _ => none }
def manifestBackRow : OpenClaim := { program := "ytdlbmjbbnplpjaa", sum := "2d5cff7a7ff600cbd2dfb6e29ce8980f346c8674d40ea2cc6f1d2a4dfb1d5d36", func := "hypogeum/hypogeumlaw23.ManifestBack", spec := "manifestBack", plainKeys := false, apart := false }
def ManifestBackSaid : Prop := manifestBackRow.holds Try.pinned (OpenSpec.ofChange manifestBackSpec)

/-- ITS FALSE NEIGHBOUR: 'it returns false'. Refute it at one input. -/
def manifestBackWrong : ChangeSpec := { name := "manifestBack", fn := fun _ => fun
  | [d1, d2] => { results := [.lit (.bool false)], args := [d1, d2] }
  | _ => none }
def ManifestBackWrongFalsely : Prop := manifestBackRow.holds Try.pinned (OpenSpec.ofChange manifestBackWrong)

/-- 'hypogeumlaw20.IndexBytes': WHATEVER THE INPUT: true; the input reads as it did. -/
def indexBytesSpec : ChangeSpec := { name := "indexBytes", fn := fun _ => fun
  | [d1, d2] => { results := [.lit (.bool true)], args := [d1, d2] }
  | _ => none }
def indexBytesRow : OpenClaim := { program := "ytdlbmjbbnplpjaa", sum := "2d5cff7a7ff600cbd2dfb6e29ce8980f346c8674d40ea2cc6f1d2a4dfb1d5d36", func := "hypogeum/hypogeumlaw20.IndexBytes", spec := "indexBytes", inPlace := ["internal/bytealg.Compare"], recurses := true, plainKeys := false, apart := false }
def IndexBytesSaid : Prop := indexBytesRow.holds Try.pinned (OpenSpec.ofChange indexBytesSpec)

/-- ITS FALSE NEIGHBOUR: 'it returns false'. Refute it at one input. -/
def indexBytesWrong : ChangeSpec := { name := "indexBytes", fn := fun _ => fun
  | [d1, d2] => { results := [.lit (.bool false)], args := [d1, d2] }
  | _ => none }
def IndexBytesWrongFalsely : Prop := indexBytesRow.holds Try.pinned (OpenSpec.ofChange indexBytesWrong)

/-- 'hypogeumlaw20.IndexAdds': WHATEVER THE INPUT: true; the input reads as it did. -/
def indexAddsSpec : ChangeSpec := { name := "indexAdds", fn := fun _ => fun
  | [d1, d2, d3] => { results := [.lit (.bool true)], args := [d1, d2, d3] }
  | _ => none }
def indexAddsRow : OpenClaim := { program := "ytdlbmjbbnplpjaa", sum := "2d5cff7a7ff600cbd2dfb6e29ce8980f346c8674d40ea2cc6f1d2a4dfb1d5d36", func := "hypogeum/hypogeumlaw20.IndexAdds", spec := "indexAdds", inPlace := ["internal/bytealg.Compare"], unfollowed := true, recurses := true, plainKeys := false, apart := false }
def IndexAddsSaid : Prop := indexAddsRow.holds Try.pinned (OpenSpec.ofChange indexAddsSpec)

/-- ITS FALSE NEIGHBOUR: 'it returns false'. Refute it at one input. -/
def indexAddsWrong : ChangeSpec := { name := "indexAdds", fn := fun _ => fun
  | [d1, d2, d3] => { results := [.lit (.bool false)], args := [d1, d2, d3] }
  | _ => none }
def IndexAddsWrongFalsely : Prop := indexAddsRow.holds Try.pinned (OpenSpec.ofChange indexAddsWrong)

/-- 'hypogeumlaw20.IndexMerges': WHATEVER THE INPUT: true; the input reads as it did. -/
def indexMergesSpec : ChangeSpec := { name := "indexMerges", fn := fun _ => fun
  | [d1, d2] => { results := [.lit (.bool true)], args := [d1, d2] }
  | _ => none }
def indexMergesRow : OpenClaim := { program := "ytdlbmjbbnplpjaa", sum := "2d5cff7a7ff600cbd2dfb6e29ce8980f346c8674d40ea2cc6f1d2a4dfb1d5d36", func := "hypogeum/hypogeumlaw20.IndexMerges", spec := "indexMerges", inPlace := ["internal/bytealg.Compare"], unfollowed := true, recurses := true, plainKeys := false, apart := false }
def IndexMergesSaid : Prop := indexMergesRow.holds Try.pinned (OpenSpec.ofChange indexMergesSpec)

/-- ITS FALSE NEIGHBOUR: 'it returns false'. Refute it at one input. -/
def indexMergesWrong : ChangeSpec := { name := "indexMerges", fn := fun _ => fun
  | [d1, d2] => { results := [.lit (.bool false)], args := [d1, d2] }
  | _ => none }
def IndexMergesWrongFalsely : Prop := indexMergesRow.holds Try.pinned (OpenSpec.ofChange indexMergesWrong)

/-- 'hypogeumlaw16.StoreHonest': WHATEVER THE INPUT: true; the input reads as it did. -/
def storeHonestSpec : ChangeSpec := { name := "storeHonest", fn := fun _ => fun
  | [d] => { results := [.lit (.bool true)], args := [d] }
  | _ => none }
def storeHonestRow : OpenClaim := { program := "ytdlbmjbbnplpjaa", sum := "2d5cff7a7ff600cbd2dfb6e29ce8980f346c8674d40ea2cc6f1d2a4dfb1d5d36", func := "hypogeum/hypogeumlaw16.StoreHonest", spec := "storeHonest", recurses := true, plainKeys := false, apart := false }
def StoreHonestSaid : Prop := storeHonestRow.holds Try.pinned (OpenSpec.ofChange storeHonestSpec)

/-- ITS FALSE NEIGHBOUR: 'it returns false'. Refute it at one input. -/
def storeHonestWrong : ChangeSpec := { name := "storeHonest", fn := fun _ => fun
  | [d] => { results := [.lit (.bool false)], args := [d] }
  | _ => none }
def StoreHonestWrongFalsely : Prop := storeHonestRow.holds Try.pinned (OpenSpec.ofChange storeHonestWrong)

/-- 'hypogeumlaw16.StorePlays': WHATEVER THE INPUT: true; the input reads as it did. -/
def storePlaysSpec : ChangeSpec := { name := "storePlays", fn := fun _ => fun
  | [d] => { results := [.lit (.bool true)], args := [d] }
  | _ => none }
def storePlaysRow : OpenClaim := { program := "ytdlbmjbbnplpjaa", sum := "2d5cff7a7ff600cbd2dfb6e29ce8980f346c8674d40ea2cc6f1d2a4dfb1d5d36", func := "hypogeum/hypogeumlaw16.StorePlays", spec := "storePlays", recurses := true, plainKeys := false, apart := false }
def StorePlaysSaid : Prop := storePlaysRow.holds Try.pinned (OpenSpec.ofChange storePlaysSpec)

/-- ITS FALSE NEIGHBOUR: 'it returns false'. Refute it at one input. -/
def storePlaysWrong : ChangeSpec := { name := "storePlays", fn := fun _ => fun
  | [d] => { results := [.lit (.bool false)], args := [d] }
  | _ => none }
def StorePlaysWrongFalsely : Prop := storePlaysRow.holds Try.pinned (OpenSpec.ofChange storePlaysWrong)

/-- 'hypogeumlaw16.StoreRises': WHATEVER THE INPUT: true; the input reads as it did. -/
def storeRisesSpec : ChangeSpec := { name := "storeRises", fn := fun _ => fun
  | [d] => { results := [.lit (.bool true)], args := [d] }
  | _ => none }
def storeRisesRow : OpenClaim := { program := "ytdlbmjbbnplpjaa", sum := "2d5cff7a7ff600cbd2dfb6e29ce8980f346c8674d40ea2cc6f1d2a4dfb1d5d36", func := "hypogeum/hypogeumlaw16.StoreRises", spec := "storeRises", recurses := true, plainKeys := false, apart := false }
def StoreRisesSaid : Prop := storeRisesRow.holds Try.pinned (OpenSpec.ofChange storeRisesSpec)

/-- ITS FALSE NEIGHBOUR: 'it returns false'. Refute it at one input. -/
def storeRisesWrong : ChangeSpec := { name := "storeRises", fn := fun _ => fun
  | [d] => { results := [.lit (.bool false)], args := [d] }
  | _ => none }
def StoreRisesWrongFalsely : Prop := storeRisesRow.holds Try.pinned (OpenSpec.ofChange storeRisesWrong)

/-- 'hypogeumlaw16.StoreCopies': WHATEVER THE INPUT: true; the input reads as it did. -/
def storeCopiesSpec : ChangeSpec := { name := "storeCopies", fn := fun _ => fun
  | [d1, d2] => { results := [.lit (.bool true)], args := [d1, d2] }
  | _ => none }
def storeCopiesRow : OpenClaim := { program := "ytdlbmjbbnplpjaa", sum := "2d5cff7a7ff600cbd2dfb6e29ce8980f346c8674d40ea2cc6f1d2a4dfb1d5d36", func := "hypogeum/hypogeumlaw16.StoreCopies", spec := "storeCopies", recurses := true, plainKeys := false, apart := false }
def StoreCopiesSaid : Prop := storeCopiesRow.holds Try.pinned (OpenSpec.ofChange storeCopiesSpec)

/-- ITS FALSE NEIGHBOUR: 'it returns false'. Refute it at one input. -/
def storeCopiesWrong : ChangeSpec := { name := "storeCopies", fn := fun _ => fun
  | [d1, d2] => { results := [.lit (.bool false)], args := [d1, d2] }
  | _ => none }
def StoreCopiesWrongFalsely : Prop := storeCopiesRow.holds Try.pinned (OpenSpec.ofChange storeCopiesWrong)

/-- 'hypogeumlaw16.StoreNobody': WHATEVER THE INPUT: true; the input reads as it did. -/
def storeNobodySpec : ChangeSpec := { name := "storeNobody", fn := fun _ => fun
  | [d] => { results := [.lit (.bool true)], args := [d] }
  | _ => none }
def storeNobodyRow : OpenClaim := { program := "ytdlbmjbbnplpjaa", sum := "2d5cff7a7ff600cbd2dfb6e29ce8980f346c8674d40ea2cc6f1d2a4dfb1d5d36", func := "hypogeum/hypogeumlaw16.StoreNobody", spec := "storeNobody", recurses := true, plainKeys := false, apart := false }
def StoreNobodySaid : Prop := storeNobodyRow.holds Try.pinned (OpenSpec.ofChange storeNobodySpec)

/-- ITS FALSE NEIGHBOUR: 'it returns false'. Refute it at one input. -/
def storeNobodyWrong : ChangeSpec := { name := "storeNobody", fn := fun _ => fun
  | [d] => { results := [.lit (.bool false)], args := [d] }
  | _ => none }
def StoreNobodyWrongFalsely : Prop := storeNobodyRow.holds Try.pinned (OpenSpec.ofChange storeNobodyWrong)

/-- 'hypogeumlaw20.IndexNobody': WHATEVER THE INPUT: true; the input reads as it did. -/
def indexNobodySpec : ChangeSpec := { name := "indexNobody", fn := fun _ => fun
  | [d1, d2] => { results := [.lit (.bool true)], args := [d1, d2] }
  | _ => none }
def indexNobodyRow : OpenClaim := { program := "ytdlbmjbbnplpjaa", sum := "2d5cff7a7ff600cbd2dfb6e29ce8980f346c8674d40ea2cc6f1d2a4dfb1d5d36", func := "hypogeum/hypogeumlaw20.IndexNobody", spec := "indexNobody", inPlace := ["internal/bytealg.Compare"], unfollowed := true, recurses := true, plainKeys := false, apart := false }
def IndexNobodySaid : Prop := indexNobodyRow.holds Try.pinned (OpenSpec.ofChange indexNobodySpec)

/-- ITS FALSE NEIGHBOUR: 'it returns false'. Refute it at one input. -/
def indexNobodyWrong : ChangeSpec := { name := "indexNobody", fn := fun _ => fun
  | [d1, d2] => { results := [.lit (.bool false)], args := [d1, d2] }
  | _ => none }
def IndexNobodyWrongFalsely : Prop := indexNobodyRow.holds Try.pinned (OpenSpec.ofChange indexNobodyWrong)

/- THE SECOND FORM. 'bulk': how many values and letters a reading holds, each counted each time it is reached (what is shared counts as often as it is met; a slice's spare places count too). A statement '..UptoSaid' is the law's where the arguments, and the package variables that the reading takes, are together of bulk at most 1048576: NARROWER than '..Said'. Prove '..Said' where nothing that the law and all that it calls make is longer than what came in: it says more and counts as full. Else prove '..UptoSaid'. A law counts once. -/
mutual
def uptoBulk {H : Type} : DataW H → Nat
  | .lit (.string bytes) => bytes.length + 1
  | .lit _ => 1
  | .nil => 1
  | .ptr d => uptoBulk d + 1
  | .slice elems spare => uptoBulkAll elems + uptoBulkAll spare + 1
  | .agg parts => uptoBulkAll parts + 1
  | .iface _ d => uptoBulk d + 1
  | .map entries => uptoBulkEntries entries + 1
  | .held _ => 1
def uptoBulkAll {H : Type} : List (DataW H) → Nat
  | [] => 0
  | d :: r => uptoBulk d + uptoBulkAll r
def uptoBulkEntries {H : Type} : List (Lit × DataW H) → Nat
  | [] => 0
  | x :: r => uptoBulkEntry x + uptoBulkEntries r
def uptoBulkEntry {H : Type} : Lit × DataW H → Nat
  | (.string bytes, d) => bytes.length + uptoBulk d + 1
  | (_, d) => uptoBulk d + 1
 end
def uptoSmall : (H : Type) → List (DataW H) → Bool := fun _ ds => decide (uptoBulkAll ds ≤ 1048576)
def OpenSpec.upto (s : _root_.Go.ChangeSpec) : _root_.Go.OpenSpec := { _root_.Go.OpenSpec.ofChange s with cond := some uptoSmall }

/-- 'hypogeumlaw16.StoreNames', WHERE WHAT IT READS IS OF BULK AT MOST 1048576: true; the input reads as it did. -/
def storeNamesUptoRow : OpenClaim := { program := "ytdlbmjbbnplpjaa", sum := "2d5cff7a7ff600cbd2dfb6e29ce8980f346c8674d40ea2cc6f1d2a4dfb1d5d36", func := "hypogeum/hypogeumlaw16.StoreNames", spec := "storeNames", plainKeys := false, apart := false, narrowed := true }
def StoreNamesUptoSaid : Prop := storeNamesUptoRow.holds Try.pinned (OpenSpec.upto storeNamesSpec)

/-- 'hypogeumlaw23.ManifestTexts', WHERE WHAT IT READS IS OF BULK AT MOST 1048576: true; the input reads as it did. -/
def manifestTextsUptoRow : OpenClaim := { program := "ytdlbmjbbnplpjaa", sum := "2d5cff7a7ff600cbd2dfb6e29ce8980f346c8674d40ea2cc6f1d2a4dfb1d5d36", func := "hypogeum/hypogeumlaw23.ManifestTexts", spec := "manifestTexts", recurses := true, plainKeys := false, apart := false, narrowed := true }
def ManifestTextsUptoSaid : Prop := manifestTextsUptoRow.holds Try.pinned (OpenSpec.upto manifestTextsSpec)

/-- 'hypogeumlaw23.ManifestBack', WHERE WHAT IT READS IS OF BULK AT MOST 1048576: true; the input reads as it did. -/
def manifestBackUptoRow : OpenClaim := { program := "ytdlbmjbbnplpjaa", sum := "2d5cff7a7ff600cbd2dfb6e29ce8980f346c8674d40ea2cc6f1d2a4dfb1d5d36", func := "hypogeum/hypogeumlaw23.ManifestBack", spec := "manifestBack", plainKeys := false, apart := false, narrowed := true }
def ManifestBackUptoSaid : Prop := manifestBackUptoRow.holds Try.pinned (OpenSpec.upto manifestBackSpec)

/-- 'hypogeumlaw20.IndexBytes', WHERE WHAT IT READS IS OF BULK AT MOST 1048576: true; the input reads as it did. -/
def indexBytesUptoRow : OpenClaim := { program := "ytdlbmjbbnplpjaa", sum := "2d5cff7a7ff600cbd2dfb6e29ce8980f346c8674d40ea2cc6f1d2a4dfb1d5d36", func := "hypogeum/hypogeumlaw20.IndexBytes", spec := "indexBytes", inPlace := ["internal/bytealg.Compare"], recurses := true, plainKeys := false, apart := false, narrowed := true }
def IndexBytesUptoSaid : Prop := indexBytesUptoRow.holds Try.pinned (OpenSpec.upto indexBytesSpec)

/-- 'hypogeumlaw20.IndexAdds', WHERE WHAT IT READS IS OF BULK AT MOST 1048576: true; the input reads as it did. -/
def indexAddsUptoRow : OpenClaim := { program := "ytdlbmjbbnplpjaa", sum := "2d5cff7a7ff600cbd2dfb6e29ce8980f346c8674d40ea2cc6f1d2a4dfb1d5d36", func := "hypogeum/hypogeumlaw20.IndexAdds", spec := "indexAdds", inPlace := ["internal/bytealg.Compare"], unfollowed := true, recurses := true, plainKeys := false, apart := false, narrowed := true }
def IndexAddsUptoSaid : Prop := indexAddsUptoRow.holds Try.pinned (OpenSpec.upto indexAddsSpec)

/-- 'hypogeumlaw20.IndexMerges', WHERE WHAT IT READS IS OF BULK AT MOST 1048576: true; the input reads as it did. -/
def indexMergesUptoRow : OpenClaim := { program := "ytdlbmjbbnplpjaa", sum := "2d5cff7a7ff600cbd2dfb6e29ce8980f346c8674d40ea2cc6f1d2a4dfb1d5d36", func := "hypogeum/hypogeumlaw20.IndexMerges", spec := "indexMerges", inPlace := ["internal/bytealg.Compare"], unfollowed := true, recurses := true, plainKeys := false, apart := false, narrowed := true }
def IndexMergesUptoSaid : Prop := indexMergesUptoRow.holds Try.pinned (OpenSpec.upto indexMergesSpec)

/-- 'hypogeumlaw16.StoreHonest', WHERE WHAT IT READS IS OF BULK AT MOST 1048576: true; the input reads as it did. -/
def storeHonestUptoRow : OpenClaim := { program := "ytdlbmjbbnplpjaa", sum := "2d5cff7a7ff600cbd2dfb6e29ce8980f346c8674d40ea2cc6f1d2a4dfb1d5d36", func := "hypogeum/hypogeumlaw16.StoreHonest", spec := "storeHonest", recurses := true, plainKeys := false, apart := false, narrowed := true }
def StoreHonestUptoSaid : Prop := storeHonestUptoRow.holds Try.pinned (OpenSpec.upto storeHonestSpec)

/-- 'hypogeumlaw16.StorePlays', WHERE WHAT IT READS IS OF BULK AT MOST 1048576: true; the input reads as it did. -/
def storePlaysUptoRow : OpenClaim := { program := "ytdlbmjbbnplpjaa", sum := "2d5cff7a7ff600cbd2dfb6e29ce8980f346c8674d40ea2cc6f1d2a4dfb1d5d36", func := "hypogeum/hypogeumlaw16.StorePlays", spec := "storePlays", recurses := true, plainKeys := false, apart := false, narrowed := true }
def StorePlaysUptoSaid : Prop := storePlaysUptoRow.holds Try.pinned (OpenSpec.upto storePlaysSpec)

/-- 'hypogeumlaw16.StoreRises', WHERE WHAT IT READS IS OF BULK AT MOST 1048576: true; the input reads as it did. -/
def storeRisesUptoRow : OpenClaim := { program := "ytdlbmjbbnplpjaa", sum := "2d5cff7a7ff600cbd2dfb6e29ce8980f346c8674d40ea2cc6f1d2a4dfb1d5d36", func := "hypogeum/hypogeumlaw16.StoreRises", spec := "storeRises", recurses := true, plainKeys := false, apart := false, narrowed := true }
def StoreRisesUptoSaid : Prop := storeRisesUptoRow.holds Try.pinned (OpenSpec.upto storeRisesSpec)

/-- 'hypogeumlaw16.StoreCopies', WHERE WHAT IT READS IS OF BULK AT MOST 1048576: true; the input reads as it did. -/
def storeCopiesUptoRow : OpenClaim := { program := "ytdlbmjbbnplpjaa", sum := "2d5cff7a7ff600cbd2dfb6e29ce8980f346c8674d40ea2cc6f1d2a4dfb1d5d36", func := "hypogeum/hypogeumlaw16.StoreCopies", spec := "storeCopies", recurses := true, plainKeys := false, apart := false, narrowed := true }
def StoreCopiesUptoSaid : Prop := storeCopiesUptoRow.holds Try.pinned (OpenSpec.upto storeCopiesSpec)

/-- 'hypogeumlaw16.StoreNobody', WHERE WHAT IT READS IS OF BULK AT MOST 1048576: true; the input reads as it did. -/
def storeNobodyUptoRow : OpenClaim := { program := "ytdlbmjbbnplpjaa", sum := "2d5cff7a7ff600cbd2dfb6e29ce8980f346c8674d40ea2cc6f1d2a4dfb1d5d36", func := "hypogeum/hypogeumlaw16.StoreNobody", spec := "storeNobody", recurses := true, plainKeys := false, apart := false, narrowed := true }
def StoreNobodyUptoSaid : Prop := storeNobodyUptoRow.holds Try.pinned (OpenSpec.upto storeNobodySpec)

/-- 'hypogeumlaw20.IndexNobody', WHERE WHAT IT READS IS OF BULK AT MOST 1048576: true; the input reads as it did. -/
def indexNobodyUptoRow : OpenClaim := { program := "ytdlbmjbbnplpjaa", sum := "2d5cff7a7ff600cbd2dfb6e29ce8980f346c8674d40ea2cc6f1d2a4dfb1d5d36", func := "hypogeum/hypogeumlaw20.IndexNobody", spec := "indexNobody", inPlace := ["internal/bytealg.Compare"], unfollowed := true, recurses := true, plainKeys := false, apart := false, narrowed := true }
def IndexNobodyUptoSaid : Prop := indexNobodyUptoRow.holds Try.pinned (OpenSpec.upto indexNobodySpec)

end Rows
end Go.Proofs.Ytdlbmjbbnplpjaa
