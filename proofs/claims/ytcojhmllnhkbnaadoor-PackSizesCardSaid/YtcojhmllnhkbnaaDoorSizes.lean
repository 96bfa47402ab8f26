/- PackSizes: how many bytes the pack of blobs of any sizes has is what the document says, or why there is none; for every input. Conditions: the table hypogeum/digest.rounds reads as the row lists it (tied to the program by the given card); arguments of at most reachBytes bytes. -/
import Derived.Test.YtcojhmllnhkbnaaDoorRows
import Derived.Test.YtcojhmllnhkbnaaDoorZD
import Derived.Test.YtcojhmllnhkbnaaDoorNz
import Derived.Test.YtcojhmllnhkbnaaDoorLa
import Derived.Test.YtcojhmllnhkbnaaDoorCards
import Derived.Test.YtcojhmllnhkbnaaDoorTie
import Derived.Test.YtcojhmllnhkbnaaDoorLZ
import Derived.WalkKit
import Derived.ProofKit
import Derived.OpenShut
import Derived.ChangeOld
import Derived.Below
import Derived.SizedLaws
import Derived.Handed
import Derived.LaidLaws
import Derived.LaidHandle
import Derived.SevenTiedAt
namespace Go.Proofs.YtcojhmllnhkbnaaDoor
open Go.ChangeShapes Go.WideShapes Go.ChangeAt Go.RowKit
set_option linter.unusedVariables false
theorem own : ownKnob Tryd.prog.godebug = none := by kernel_rfl
theorem laidOut : laidOutB Tryd.prog = true := by kernel_rfl
theorem law_sound (n : Nat) : Hyp.SoundF Tryd.prog 4 (Hyp.S_w19_PackSizes n) := Hyp.ok_w19_PackSizes n
theorem law_runs (x0 : ((.list (.sint .i64)) : Hyp.Ty).den) (g0 : ((.list (.sint .i64)) : Hyp.Ty).okW x0) : (Hyp.S_w19_PackSizes (1 + 600) [Hyp.explode (.list (.sint .i64)) x0] [] 0).Runs fun r => r.1 = .val .bool true ∧ r.2.1 = [] :=
  Hyp.law_of (t := Hyp.F_w19_PackSizes (1 + 600) false x0) ((.of (sizes_law _))) (by kernel_rfl)
set_option maxHeartbeats 2000000 in
set_option maxRecDepth 100000 in
theorem lifted (os : Os) (started : os.Started) (H : Type) (enc : TypeId × Value → H) :
    ReturnsInHanded {} Tryd.checked os 4 .any (fun w args => (Rows.packSizesSpec.pre enc Tryd.prog Tryd.f4 Rows.packSizesRow.domain false w args ∧ laidMetH Tryd.prog laidL w) ∧ sizedMet enc Tryd.prog Tryd.f4 (OpenSpec.ofChange Rows.packSizesSpec) false w args)
      (Rows.packSizesSpec.post enc Tryd.prog Tryd.f4 false true false false) := by
  refine returnsInHanded_of_change_and (C := Tryd.checked) (X := fun w _ => laidMetH Tryd.prog laidL w) (fun _ _ _ hh h => h.of_heap hh) own started (by kernel_rfl) Tryd.func4
    (ChangeSpec.witness_at (enc := enc) (C := Tryd.checked) (os := os) (X := fun w _ => laidMetH Tryd.prog laidL w) false ({ World.holding Tryd.prog os ⟨#[], #[], []⟩ with heap := (World.holding Tryd.prog os ⟨#[], #[], []⟩).heap.modify 0 fun
        | .cells _ t frozen => .cells (roundsZ.map fun z => Value.int .u32 z).toArray t frozen
        | o => o } : World) #[.slice none 0 0] 8 rfl (by kernel_rfl) (by kernel_rfl) (by kernel_rfl) (by kernel_rfl) (by kernel_rfl)
      (show laidMet Tryd.prog laidL _ from laidMet_of_run' 8 (by kernel_rfl) (by kernel_rfl))) ?_
  intro W base args ds gs before hval0 hW hcnd hsz hL _
  have hval : ∀ (j : Nat) t v, Tryd.f4.params[j]? = some t → args[j]? = some v → Value.okWide Tryd.prog W .any base t v := hval0
  have hW' := hW
  obtain ⟨p, q, hA0, hV, rfl, hfz, hnd⟩ := hW
  have hA : DataW.TrodAll enc Tryd.prog W 0 (fun _ => true) true Tryd.f4.params.toList args.toList ds p := hA0
  rw [Tryd.params4] at hA hval
  obtain ⟨v0, vs0, d0, ds0, p0, q0, hargs, rfl, rfl, h0, r0⟩ := trodAll_cons hA
  obtain ⟨rfl, rfl, rfl⟩ := trodAll_nil r0
  obtain rfl : args = #[v0] := by cases args; simp_all
  obtain ⟨rfl, rfl⟩ := trodVars_none hV
  have lt0 : ∀ x ∈ p0, x.block < W.heap.size := by have k := h0; obtain ⟨m, hm⟩ := k; exact DataW.trod_lt m _ _ _ hm
  have w0 : Hyp.Small (d0.weights Tryd.prog 45) := fun n hn => of_decide_eq_true (List.all_eq_true.1 hsz n (DataW.weights_mem_each (j := 0) (t := 45) (d := d0) (by kernel_rfl) rfl n hn))
  obtain ⟨x0, g0, s0⟩ := Hyp.arg_okW (t := (.list (.sint .i64))) (by kernel_rfl) (by kernel_rfl) h0 w0 (hval 0 45 v0 rfl rfl)
  have hl := law_runs x0 g0
  refine (Hyp.top_call (law_sound _) hl (vs := [v0]) ⟨s0, trivial⟩ (glb_of_laid hL)).mono fun e W' he => ?_
  cases e with
  | returned v =>
    obtain ⟨rfl, ho⟩ := he
    have bel : Below W.heap.size W W' := Hyp.Own.below (o := fun _ => True) ho
    exact ⟨_, rfl, _, _, _, [], _, [], hW', trodAll_mk1 (shut_bool Tryd.underlying4 _), (trodAll_cons_mk (Below.trod laidOut (by kernel_rfl) (of_decide_eq_true (by kernel_rfl)) h0 bel lt0) trodAll_mk0), rfl, bel.frame _, fun h => by cases h⟩
  | panicked _ => exact he.elim
  | outgrown => exact he.elim
theorem over : Rows.packSizesRow.holds Tryd.pinned (OpenSpec.ofChange Rows.packSizesSpec) :=
  OpenClaim.holds_of_wide 4 Tryd.f4 rfl rfl rfl rfl rfl rfl rfl ⟨rfl, rfl, rfl, rfl, rfl⟩ rfl rfl rfl rfl rfl (by kernel_rfl) Tryd.func4 (by kernel_rfl)
    (of_decide_eq_true (by kernel_rfl)) (by unfold Func.isWrapper; first | (rw [if_pos (by decide +kernel)]; kernel_rfl) | (rw [if_neg (by decide +kernel)]; exact ⟨rfl, rfl⟩))
    (fun os started H enc _ => lifted os started H enc)
theorem proved : Rows.PackSizesCardSaid :=
  Claim7.holds_tied_plain_at .later [] [.data] true _ false
    over (fun _ h => by cases h) (by kernel_rfl) (fun _ h => by cases h) packSizes_row_tie rfl ⟨rfl, rfl⟩ (by kernel_rfl) rfl
    (fun f fn hf hfn => by
      obtain rfl : f = 4 := Option.some.inj ((show Tryd.prog.funcNamed "hypogeum/hypogeumlaw19.PackSizes" = some 4 by kernel_rfl).symm.trans hf) |>.symm
      obtain rfl : fn = Tryd.f4 := (Option.some.inj (Tryd.func4.symm.trans hfn)).symm
      exact ⟨by kernel_rfl, fun j t ht => by
        have h := List.all_eq_true.1 (show (Tryd.f4.params.toList.all fun t => !(Tryd.prog.wantsStandIn t)) = true by kernel_rfl) t (Array.mem_toList_iff.2 (Array.mem_of_getElem? ht))
        have h2 : Tryd.prog.wantsStandIn t = false := by simpa using h
        exact h2⟩)
    (by kernel_rfl)
end Go.Proofs.YtcojhmllnhkbnaaDoor
