/-
  No cell of these rows narrows 'for every input' (looked for: loops, veiled, ifaces, maps, wideKeys, modest, calm, conditions, laid).
  DERIVED. THE GIVEN ROWS OF THIS SEAT. 4 by the template 'for every input the law returns true; each argument reads behind the call as it read before'; 0 by the template 'total and deterministic' (their statements: YtcipfbabjbcfkaaTotals.lean).
  GIVEN WITH THE SEED: the statements are not yours to turn. If you find one false, say at which input.
  Laid BY PROGRAM, IN A SANDBOX (cutbox-rows.mjs): the forced cells as the released guide's own fill.sh prints them over the translation 569be650d0832a9a… (all of the seat's roots in one cut). By AI agents, Wed Nov 11 2026. No macro, syntax, notation, axiom, sorry.
-/
import Derived.Test.YtcipfbabjbcfkaaChecked
import GoSem.Claim
import GoSem.ClaimJoined
import GoSem.ClaimMapViews
import Derived.JoinedTies
import Derived.KernelRfl
namespace Go.Proofs.Ytcipfbabjbcfkaa
/- THE CELL 'sum', in the pinned program and in every row, IS THE sha256 OF THE DUMP (.gsa) THAT YtcipfbabjbcfkaaProg.lean LOADS. Nothing in Lean hashes anything: it is a label: what it is worth is what the hold of that sum in a sandbox is worth. -/
noncomputable def Try.pinned : Pinned := { name := "ytcipfbabjbcfkaa", sum := "569be650d0832a9aabdd2104d6514ebb3eb67ecd368e65e767fb68b6c1e114de", checked := Try.checked }
namespace Rows
def none {H : Type} : Left H := { results := [], args := [] }

/-- 'hypogeumlaw20.IndexOrder': WHATEVER THE INPUT: true; the input reads as it did. -/
def indexOrderSpec : ChangeSpec := { name := "indexOrder", fn := fun _ => fun
  | [d1, d2, d3] => { results := [.lit (.bool true)], args := [d1, d2, d3] }
  | _ => none }
def indexOrderRow : OpenClaim := { program := "ytcipfbabjbcfkaa", sum := "569be650d0832a9aabdd2104d6514ebb3eb67ecd368e65e767fb68b6c1e114de", func := "hypogeum/hypogeumlaw20.IndexOrder", spec := "indexOrder", inPlace := ["internal/bytealg.Compare"], unfollowed := true, recurses := true, plainKeys := false, apart := false }
def IndexOrderSaid : Prop := indexOrderRow.holds Try.pinned (OpenSpec.ofChange indexOrderSpec)

/-- ITS FALSE NEIGHBOUR: 'it returns false'. Refute it at one input. -/
def indexOrderWrong : ChangeSpec := { name := "indexOrder", fn := fun _ => fun
  | [d1, d2, d3] => { results := [.lit (.bool false)], args := [d1, d2, d3] }
  | _ => none }
def IndexOrderWrongFalsely : Prop := indexOrderRow.holds Try.pinned (OpenSpec.ofChange indexOrderWrong)

/-- 'hypogeumlaw20.IndexBack': WHATEVER THE INPUT: true; the input reads as it did. -/
def indexBackSpec : ChangeSpec := { name := "indexBack", fn := fun _ => fun
  | [d1, d2] => { results := [.lit (.bool true)], args := [d1, d2] }
  | _ => none }
def indexBackRow : OpenClaim := { program := "ytcipfbabjbcfkaa", sum := "569be650d0832a9aabdd2104d6514ebb3eb67ecd368e65e767fb68b6c1e114de", func := "hypogeum/hypogeumlaw20.IndexBack", spec := "indexBack", inPlace := ["internal/bytealg.Compare"], unfollowed := true, recurses := true, plainKeys := false, apart := false }
def IndexBackSaid : Prop := indexBackRow.holds Try.pinned (OpenSpec.ofChange indexBackSpec)

/-- ITS FALSE NEIGHBOUR: 'it returns false'. Refute it at one input. -/
def indexBackWrong : ChangeSpec := { name := "indexBack", fn := fun _ => fun
  | [d1, d2] => { results := [.lit (.bool false)], args := [d1, d2] }
  | _ => none }
def IndexBackWrongFalsely : Prop := indexBackRow.holds Try.pinned (OpenSpec.ofChange indexBackWrong)

/-- 'hypogeumlaw20.IndexPacks': WHATEVER THE INPUT: true; the input reads as it did. -/
def indexPacksSpec : ChangeSpec := { name := "indexPacks", fn := fun _ => fun
  | [d1, d2] => { results := [.lit (.bool true)], args := [d1, d2] }
  | _ => none }
def indexPacksRow : OpenClaim := { program := "ytcipfbabjbcfkaa", sum := "569be650d0832a9aabdd2104d6514ebb3eb67ecd368e65e767fb68b6c1e114de", func := "hypogeum/hypogeumlaw20.IndexPacks", spec := "indexPacks", inPlace := ["internal/bytealg.Compare"], unfollowed := true, recurses := true, plainKeys := false, apart := false }
def IndexPacksSaid : Prop := indexPacksRow.holds Try.pinned (OpenSpec.ofChange indexPacksSpec)

/-- ITS FALSE NEIGHBOUR: 'it returns false'. Refute it at one input. -/
def indexPacksWrong : ChangeSpec := { name := "indexPacks", fn := fun _ => fun
  | [d1, d2] => { results := [.lit (.bool false)], args := [d1, d2] }
  | _ => none }
def IndexPacksWrongFalsely : Prop := indexPacksRow.holds Try.pinned (OpenSpec.ofChange indexPacksWrong)

/-- 'hypogeumlaw20.IndexCopies': WHATEVER THE INPUT: true; the input reads as it did. -/
def indexCopiesSpec : ChangeSpec := { name := "indexCopies", fn := fun _ => fun
  | [d1, d2, d3, d4] => { results := [.lit (.bool true)], args := [d1, d2, d3, d4] }
  | _ => none }
def indexCopiesRow : OpenClaim := { program := "ytcipfbabjbcfkaa", sum := "569be650d0832a9aabdd2104d6514ebb3eb67ecd368e65e767fb68b6c1e114de", func := "hypogeum/hypogeumlaw20.IndexCopies", spec := "indexCopies", inPlace := ["internal/bytealg.Compare"], unfollowed := true, recurses := true, plainKeys := false, apart := false }
def IndexCopiesSaid : Prop := indexCopiesRow.holds Try.pinned (OpenSpec.ofChange indexCopiesSpec)

/-- ITS FALSE NEIGHBOUR: 'it returns false'. Refute it at one input. -/
def indexCopiesWrong : ChangeSpec := { name := "indexCopies", fn := fun _ => fun
  | [d1, d2, d3, d4] => { results := [.lit (.bool false)], args := [d1, d2, d3, d4] }
  | _ => none }
def IndexCopiesWrongFalsely : Prop := indexCopiesRow.holds Try.pinned (OpenSpec.ofChange indexCopiesWrong)

/- THE SECOND FORM. 'bulk': how many values and letters a reading holds, each counted each time it is reached (what is shared counts as often as it is met; a slice's spare places count too). A statement '..UptoSaid' is the law's where the arguments, and the package variables that the reading takes, are together of bulk at most 1048576: NARROWER than '..Said'. Prove '..Said' where nothing that the law and all that it calls make is longer than what came in: it says more and counts as full. Else prove '..UptoSaid'. A law counts once. -/
mutual
def uptoBulk {H : Type} : DataW H → Nat
  | .lit (.string bytes) => bytes.length + 1
  | .lit _ => 1
  | .nil => 1
  | .ptr d => uptoBulk d + 1
  | .slice elems spare => uptoBulkAll elems + uptoBulkAll spare + 1
  | .agg parts => uptoBulkAll parts + 1
  | .iface _ d => uptoBulk d + 1
  | .map entries => uptoBulkEntries entries + 1
  | .held _ => 1
def uptoBulkAll {H : Type} : List (DataW H) → Nat
  | [] => 0
  | d :: r => uptoBulk d + uptoBulkAll r
def uptoBulkEntries {H : Type} : List (Lit × DataW H) → Nat
  | [] => 0
  | x :: r => uptoBulkEntry x + uptoBulkEntries r
def uptoBulkEntry {H : Type} : Lit × DataW H → Nat
  | (.string bytes, d) => bytes.length + uptoBulk d + 1
  | (_, d) => uptoBulk d + 1
 end
def uptoSmall : (H : Type) → List (DataW H) → Bool := fun _ ds => decide (uptoBulkAll ds ≤ 1048576)
def OpenSpec.upto (s : _root_.Go.ChangeSpec) : _root_.Go.OpenSpec := { _root_.Go.OpenSpec.ofChange s with cond := some uptoSmall }

/-- 'hypogeumlaw20.IndexOrder', WHERE WHAT IT READS IS OF BULK AT MOST 1048576: true; the input reads as it did. -/
def indexOrderUptoRow : OpenClaim := { program := "ytcipfbabjbcfkaa", sum := "569be650d0832a9aabdd2104d6514ebb3eb67ecd368e65e767fb68b6c1e114de", func := "hypogeum/hypogeumlaw20.IndexOrder", spec := "indexOrder", inPlace := ["internal/bytealg.Compare"], unfollowed := true, recurses := true, plainKeys := false, apart := false, narrowed := true }
def IndexOrderUptoSaid : Prop := indexOrderUptoRow.holds Try.pinned (OpenSpec.upto indexOrderSpec)

/-- 'hypogeumlaw20.IndexBack', WHERE WHAT IT READS IS OF BULK AT MOST 1048576: true; the input reads as it did. -/
def indexBackUptoRow : OpenClaim := { program := "ytcipfbabjbcfkaa", sum := "569be650d0832a9aabdd2104d6514ebb3eb67ecd368e65e767fb68b6c1e114de", func := "hypogeum/hypogeumlaw20.IndexBack", spec := "indexBack", inPlace := ["internal/bytealg.Compare"], unfollowed := true, recurses := true, plainKeys := false, apart := false, narrowed := true }
def IndexBackUptoSaid : Prop := indexBackUptoRow.holds Try.pinned (OpenSpec.upto indexBackSpec)

/-- 'hypogeumlaw20.IndexPacks', WHERE WHAT IT READS IS OF BULK AT MOST 1048576: true; the input reads as it did. -/
def indexPacksUptoRow : OpenClaim := { program := "ytcipfbabjbcfkaa", sum := "569be650d0832a9aabdd2104d6514ebb3eb67ecd368e65e767fb68b6c1e114de", func := "hypogeum/hypogeumlaw20.IndexPacks", spec := "indexPacks", inPlace := ["internal/bytealg.Compare"], unfollowed := true, recurses := true, plainKeys := false, apart := false, narrowed := true }
def IndexPacksUptoSaid : Prop := indexPacksUptoRow.holds Try.pinned (OpenSpec.upto indexPacksSpec)

/-- 'hypogeumlaw20.IndexCopies', WHERE WHAT IT READS IS OF BULK AT MOST 1048576: true; the input reads as it did. -/
def indexCopiesUptoRow : OpenClaim := { program := "ytcipfbabjbcfkaa", sum := "569be650d0832a9aabdd2104d6514ebb3eb67ecd368e65e767fb68b6c1e114de", func := "hypogeum/hypogeumlaw20.IndexCopies", spec := "indexCopies", inPlace := ["internal/bytealg.Compare"], unfollowed := true, recurses := true, plainKeys := false, apart := false, narrowed := true }
def IndexCopiesUptoSaid : Prop := indexCopiesUptoRow.holds Try.pinned (OpenSpec.upto indexCopiesSpec)

end Rows
end Go.Proofs.Ytcipfbabjbcfkaa
