/-
  No cell of these rows narrows 'for every input' (looked for: loops, veiled, ifaces, maps, wideKeys, modest, calm, conditions, laid).
  DERIVED. THE GIVEN ROWS OF THIS SEAT. 6 by the template 'for every input the law returns true; each argument reads behind the call as it read before'; 0 by the template 'total and deterministic' (their statements: YtkpbpjmbkhkmnaaTotals.lean).
  GIVEN WITH THE SEED: the statements are not yours to turn. If you find one false, say at which input.
  Laid BY PROGRAM, IN A SANDBOX (cutbox-rows.mjs): the forced cells as the released guide's own fill.sh prints them over the translation d079bf606347e4c8… (all of the seat's roots in one cut). By AI agents, Wed Nov 11 2026. No macro, syntax, notation, axiom, sorry.
-/
import Derived.Test.YtkpbpjmbkhkmnaaChecked
import GoSem.Claim
import GoSem.ClaimJoined
import GoSem.ClaimMapViews
import Derived.JoinedTies
import Derived.KernelRfl
namespace Go.Proofs.Ytkpbpjmbkhkmnaa
/- THE CELL 'sum', in the pinned program and in every row, IS THE sha256 OF THE DUMP (.gsa) THAT YtkpbpjmbkhkmnaaProg.lean LOADS. Nothing in Lean hashes anything: it is a label: what it is worth is what the hold of that sum in a sandbox is worth. -/
noncomputable def Try.pinned : Pinned := { name := "ytkpbpjmbkhkmnaa", sum := "d079bf606347e4c8cb01d35478bbf48d903723e6ee8910e7eb89a99b6beb6b33", checked := Try.checked }
namespace Rows
def none {H : Type} : Left H := { results := [], args := [] }

/-- 'hypogeumlaw08.EntropyDraws': WHATEVER THE INPUT: true; the input reads as it did. -/
def entropyDrawsSpec : ChangeSpec := { name := "entropyDraws", fn := fun _ => fun
  | [d1, d2] => { results := [.lit (.bool true)], args := [d1, d2] }
  | _ => none }
def entropyDrawsRow : OpenClaim := { program := "ytkpbpjmbkhkmnaa", sum := "d079bf606347e4c8cb01d35478bbf48d903723e6ee8910e7eb89a99b6beb6b33", func := "hypogeum/hypogeumlaw08.EntropyDraws", spec := "entropyDraws", apart := false }
def EntropyDrawsSaid : Prop := entropyDrawsRow.holds Try.pinned (OpenSpec.ofChange entropyDrawsSpec)

/-- ITS FALSE NEIGHBOUR: 'it returns false'. Refute it at one input. -/
def entropyDrawsWrong : ChangeSpec := { name := "entropyDraws", fn := fun _ => fun
  | [d1, d2] => { results := [.lit (.bool false)], args := [d1, d2] }
  | _ => none }
def EntropyDrawsWrongFalsely : Prop := entropyDrawsRow.holds Try.pinned (OpenSpec.ofChange entropyDrawsWrong)

/-- 'hypogeumlaw08.EntropyOnce': WHATEVER THE INPUT: true; the input reads as it did. -/
def entropyOnceSpec : ChangeSpec := { name := "entropyOnce", fn := fun _ => fun
  | [d1, d2] => { results := [.lit (.bool true)], args := [d1, d2] }
  | _ => none }
def entropyOnceRow : OpenClaim := { program := "ytkpbpjmbkhkmnaa", sum := "d079bf606347e4c8cb01d35478bbf48d903723e6ee8910e7eb89a99b6beb6b33", func := "hypogeum/hypogeumlaw08.EntropyOnce", spec := "entropyOnce", apart := false }
def EntropyOnceSaid : Prop := entropyOnceRow.holds Try.pinned (OpenSpec.ofChange entropyOnceSpec)

/-- ITS FALSE NEIGHBOUR: 'it returns false'. Refute it at one input. -/
def entropyOnceWrong : ChangeSpec := { name := "entropyOnce", fn := fun _ => fun
  | [d1, d2] => { results := [.lit (.bool false)], args := [d1, d2] }
  | _ => none }
def EntropyOnceWrongFalsely : Prop := entropyOnceRow.holds Try.pinned (OpenSpec.ofChange entropyOnceWrong)

/-- 'hypogeumlaw08.EntropyCopies': WHATEVER THE INPUT: true; the input reads as it did. -/
def entropyCopiesSpec : ChangeSpec := { name := "entropyCopies", fn := fun _ => fun
  | [d1, d2, d3] => { results := [.lit (.bool true)], args := [d1, d2, d3] }
  | _ => none }
def entropyCopiesRow : OpenClaim := { program := "ytkpbpjmbkhkmnaa", sum := "d079bf606347e4c8cb01d35478bbf48d903723e6ee8910e7eb89a99b6beb6b33", func := "hypogeum/hypogeumlaw08.EntropyCopies", spec := "entropyCopies", apart := false }
def EntropyCopiesSaid : Prop := entropyCopiesRow.holds Try.pinned (OpenSpec.ofChange entropyCopiesSpec)

/-- ITS FALSE NEIGHBOUR: 'it returns false'. Refute it at one input. -/
def entropyCopiesWrong : ChangeSpec := { name := "entropyCopies", fn := fun _ => fun
  | [d1, d2, d3] => { results := [.lit (.bool false)], args := [d1, d2, d3] }
  | _ => none }
def EntropyCopiesWrongFalsely : Prop := entropyCopiesRow.holds Try.pinned (OpenSpec.ofChange entropyCopiesWrong)

/-- 'hypogeumlaw08.EntropyNobody': WHATEVER THE INPUT: true; the input reads as it did. -/
def entropyNobodySpec : ChangeSpec := { name := "entropyNobody", fn := fun _ => fun
  | [d1, d2] => { results := [.lit (.bool true)], args := [d1, d2] }
  | _ => none }
def entropyNobodyRow : OpenClaim := { program := "ytkpbpjmbkhkmnaa", sum := "d079bf606347e4c8cb01d35478bbf48d903723e6ee8910e7eb89a99b6beb6b33", func := "hypogeum/hypogeumlaw08.EntropyNobody", spec := "entropyNobody", apart := false }
def EntropyNobodySaid : Prop := entropyNobodyRow.holds Try.pinned (OpenSpec.ofChange entropyNobodySpec)

/-- ITS FALSE NEIGHBOUR: 'it returns false'. Refute it at one input. -/
def entropyNobodyWrong : ChangeSpec := { name := "entropyNobody", fn := fun _ => fun
  | [d1, d2] => { results := [.lit (.bool false)], args := [d1, d2] }
  | _ => none }
def EntropyNobodyWrongFalsely : Prop := entropyNobodyRow.holds Try.pinned (OpenSpec.ofChange entropyNobodyWrong)

/-- 'hypogeumlaw23.ManifestAccepts': WHATEVER THE INPUT: true; the input reads as it did. -/
def manifestAcceptsSpec : ChangeSpec := { name := "manifestAccepts", fn := fun _ => fun
  | [d1, d2, d3] => { results := [.lit (.bool true)], args := [d1, d2, d3] }
  | _ => none }
def manifestAcceptsRow : OpenClaim := { program := "ytkpbpjmbkhkmnaa", sum := "d079bf606347e4c8cb01d35478bbf48d903723e6ee8910e7eb89a99b6beb6b33", func := "hypogeum/hypogeumlaw23.ManifestAccepts", spec := "manifestAccepts", apart := false }
def ManifestAcceptsSaid : Prop := manifestAcceptsRow.holds Try.pinned (OpenSpec.ofChange manifestAcceptsSpec)

/-- ITS FALSE NEIGHBOUR: 'it returns false'. Refute it at one input. -/
def manifestAcceptsWrong : ChangeSpec := { name := "manifestAccepts", fn := fun _ => fun
  | [d1, d2, d3] => { results := [.lit (.bool false)], args := [d1, d2, d3] }
  | _ => none }
def ManifestAcceptsWrongFalsely : Prop := manifestAcceptsRow.holds Try.pinned (OpenSpec.ofChange manifestAcceptsWrong)

/-- 'hypogeumlaw23.ManifestRises': WHATEVER THE INPUT: true; the input reads as it did. -/
def manifestRisesSpec : ChangeSpec := { name := "manifestRises", fn := fun _ => fun
  | [d1, d2, d3, d4, d5] => { results := [.lit (.bool true)], args := [d1, d2, d3, d4, d5] }
  | _ => none }
def manifestRisesRow : OpenClaim := { program := "ytkpbpjmbkhkmnaa", sum := "d079bf606347e4c8cb01d35478bbf48d903723e6ee8910e7eb89a99b6beb6b33", func := "hypogeum/hypogeumlaw23.ManifestRises", spec := "manifestRises", apart := false }
def ManifestRisesSaid : Prop := manifestRisesRow.holds Try.pinned (OpenSpec.ofChange manifestRisesSpec)

/-- ITS FALSE NEIGHBOUR: 'it returns false'. Refute it at one input. -/
def manifestRisesWrong : ChangeSpec := { name := "manifestRises", fn := fun _ => fun
  | [d1, d2, d3, d4, d5] => { results := [.lit (.bool false)], args := [d1, d2, d3, d4, d5] }
  | _ => none }
def ManifestRisesWrongFalsely : Prop := manifestRisesRow.holds Try.pinned (OpenSpec.ofChange manifestRisesWrong)

/- THE SECOND FORM. 'bulk': how many values and letters a reading holds, each counted each time it is reached (what is shared counts as often as it is met; a slice's spare places count too). A statement '..UptoSaid' is the law's where the arguments, and the package variables that the reading takes, are together of bulk at most 1048576: NARROWER than '..Said'. Prove '..Said' where nothing that the law and all that it calls make is longer than what came in: it says more and counts as full. Else prove '..UptoSaid'. A law counts once. -/
mutual
def uptoBulk {H : Type} : DataW H → Nat
  | .lit (.string bytes) => bytes.length + 1
  | .lit _ => 1
  | .nil => 1
  | .ptr d => uptoBulk d + 1
  | .slice elems spare => uptoBulkAll elems + uptoBulkAll spare + 1
  | .agg parts => uptoBulkAll parts + 1
  | .iface _ d => uptoBulk d + 1
  | .map entries => uptoBulkEntries entries + 1
  | .held _ => 1
def uptoBulkAll {H : Type} : List (DataW H) → Nat
  | [] => 0
  | d :: r => uptoBulk d + uptoBulkAll r
def uptoBulkEntries {H : Type} : List (Lit × DataW H) → Nat
  | [] => 0
  | x :: r => uptoBulkEntry x + uptoBulkEntries r
def uptoBulkEntry {H : Type} : Lit × DataW H → Nat
  | (.string bytes, d) => bytes.length + uptoBulk d + 1
  | (_, d) => uptoBulk d + 1
 end
def uptoSmall : (H : Type) → List (DataW H) → Bool := fun _ ds => decide (uptoBulkAll ds ≤ 1048576)
def OpenSpec.upto (s : _root_.Go.ChangeSpec) : _root_.Go.OpenSpec := { _root_.Go.OpenSpec.ofChange s with cond := some uptoSmall }

/-- 'hypogeumlaw08.EntropyDraws', WHERE WHAT IT READS IS OF BULK AT MOST 1048576: true; the input reads as it did. -/
def entropyDrawsUptoRow : OpenClaim := { program := "ytkpbpjmbkhkmnaa", sum := "d079bf606347e4c8cb01d35478bbf48d903723e6ee8910e7eb89a99b6beb6b33", func := "hypogeum/hypogeumlaw08.EntropyDraws", spec := "entropyDraws", apart := false, narrowed := true }
def EntropyDrawsUptoSaid : Prop := entropyDrawsUptoRow.holds Try.pinned (OpenSpec.upto entropyDrawsSpec)

/-- 'hypogeumlaw08.EntropyOnce', WHERE WHAT IT READS IS OF BULK AT MOST 1048576: true; the input reads as it did. -/
def entropyOnceUptoRow : OpenClaim := { program := "ytkpbpjmbkhkmnaa", sum := "d079bf606347e4c8cb01d35478bbf48d903723e6ee8910e7eb89a99b6beb6b33", func := "hypogeum/hypogeumlaw08.EntropyOnce", spec := "entropyOnce", apart := false, narrowed := true }
def EntropyOnceUptoSaid : Prop := entropyOnceUptoRow.holds Try.pinned (OpenSpec.upto entropyOnceSpec)

/-- 'hypogeumlaw08.EntropyCopies', WHERE WHAT IT READS IS OF BULK AT MOST 1048576: true; the input reads as it did. -/
def entropyCopiesUptoRow : OpenClaim := { program := "ytkpbpjmbkhkmnaa", sum := "d079bf606347e4c8cb01d35478bbf48d903723e6ee8910e7eb89a99b6beb6b33", func := "hypogeum/hypogeumlaw08.EntropyCopies", spec := "entropyCopies", apart := false, narrowed := true }
def EntropyCopiesUptoSaid : Prop := entropyCopiesUptoRow.holds Try.pinned (OpenSpec.upto entropyCopiesSpec)

/-- 'hypogeumlaw08.EntropyNobody', WHERE WHAT IT READS IS OF BULK AT MOST 1048576: true; the input reads as it did. -/
def entropyNobodyUptoRow : OpenClaim := { program := "ytkpbpjmbkhkmnaa", sum := "d079bf606347e4c8cb01d35478bbf48d903723e6ee8910e7eb89a99b6beb6b33", func := "hypogeum/hypogeumlaw08.EntropyNobody", spec := "entropyNobody", apart := false, narrowed := true }
def EntropyNobodyUptoSaid : Prop := entropyNobodyUptoRow.holds Try.pinned (OpenSpec.upto entropyNobodySpec)

/-- 'hypogeumlaw23.ManifestAccepts', WHERE WHAT IT READS IS OF BULK AT MOST 1048576: true; the input reads as it did. -/
def manifestAcceptsUptoRow : OpenClaim := { program := "ytkpbpjmbkhkmnaa", sum := "d079bf606347e4c8cb01d35478bbf48d903723e6ee8910e7eb89a99b6beb6b33", func := "hypogeum/hypogeumlaw23.ManifestAccepts", spec := "manifestAccepts", apart := false, narrowed := true }
def ManifestAcceptsUptoSaid : Prop := manifestAcceptsUptoRow.holds Try.pinned (OpenSpec.upto manifestAcceptsSpec)

/-- 'hypogeumlaw23.ManifestRises', WHERE WHAT IT READS IS OF BULK AT MOST 1048576: true; the input reads as it did. -/
def manifestRisesUptoRow : OpenClaim := { program := "ytkpbpjmbkhkmnaa", sum := "d079bf606347e4c8cb01d35478bbf48d903723e6ee8910e7eb89a99b6beb6b33", func := "hypogeum/hypogeumlaw23.ManifestRises", spec := "manifestRises", apart := false, narrowed := true }
def ManifestRisesUptoSaid : Prop := manifestRisesUptoRow.holds Try.pinned (OpenSpec.upto manifestRisesSpec)

end Rows
end Go.Proofs.Ytkpbpjmbkhkmnaa
