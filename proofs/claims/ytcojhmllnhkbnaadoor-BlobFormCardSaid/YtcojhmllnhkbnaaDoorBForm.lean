/- BlobForm: what is opened has, sealed again with its nonce's epoch and number, the same bytes; for every input whose sizes a machine can hold, where the digest's table is as it is laid. -/
import Derived.Test.YtcojhmllnhkbnaaDoorRows
import Derived.Test.YtcojhmllnhkbnaaDoorZD
import Derived.Test.YtcojhmllnhkbnaaDoorNz
import Derived.Test.YtcojhmllnhkbnaaDoorLa
import Derived.Test.YtcojhmllnhkbnaaDoorCards
import Derived.Test.YtcojhmllnhkbnaaDoorTie
import Derived.Test.YtcojhmllnhkbnaaDoorKy
import Derived.WalkKit
import Derived.ProofKit
import Derived.OpenShut
import Derived.ChangeOld
import Derived.Below
import Derived.SizedLaws
import Derived.Handed
import Derived.LaidLaws
import Derived.LaidHandle
import Derived.SevenTiedAt
namespace Go.Proofs.YtcojhmllnhkbnaaDoor
open Go.ChangeShapes Go.WideShapes Go.ChangeAt Go.RowKit
set_option linter.unusedVariables false
theorem own : ownKnob Tryd.prog.godebug = none := by kernel_rfl
theorem laidOut : laidOutB Tryd.prog = true := by kernel_rfl
theorem law_sound (n : Nat) : Hyp.SoundF Tryd.prog 8 (Hyp.S_w18_BlobForm n) := Hyp.ok_w18_BlobForm n
theorem law_runs (x0 : ((.list (.rcd (.pair (.sint .i64) (.list .u8)))) : Hyp.Ty).den) (g0 : ((.list (.rcd (.pair (.sint .i64) (.list .u8)))) : Hyp.Ty).okW x0) (x1 : ((.sint .i64) : Hyp.Ty).den) (g1 : ((.sint .i64) : Hyp.Ty).okW x1) (x2 : ((.arr 32 .u8) : Hyp.Ty).den) (g2 : ((.arr 32 .u8) : Hyp.Ty).okW x2) (x3 : ((.list .u8) : Hyp.Ty).den) (g3 : ((.list .u8) : Hyp.Ty).okW x3) : (Hyp.S_w18_BlobForm (0 + 10000) [Hyp.explode (.list (.rcd (.pair (.sint .i64) (.list .u8)))) x0, Hyp.explode (.sint .i64) x1, Hyp.explode (.arr 32 .u8) x2, Hyp.explode (.list .u8) x3] [] 0).Runs fun r => r.1 = .val .bool true ∧ r.2.1 = [] :=
  Hyp.law_of (t := Hyp.F_w18_BlobForm (0 + 10000) false x0 x1 x2 x3) ((.of (Hyp.form_law (by omega) (Hyp.masters_len g0) g2.1))) (by kernel_rfl)
set_option maxHeartbeats 2000000 in
set_option maxRecDepth 100000 in
theorem lifted (os : Os) (started : os.Started) (H : Type) (enc : TypeId × Value → H) :
    ReturnsInHanded {} Tryd.checked os 8 .any (fun w args => (Rows.blobFormSpec.pre enc Tryd.prog Tryd.f8 Rows.blobFormRow.domain false w args ∧ laidMetH Tryd.prog laidL w) ∧ sizedMet enc Tryd.prog Tryd.f8 (OpenSpec.ofChange Rows.blobFormSpec) false w args)
      (Rows.blobFormSpec.post enc Tryd.prog Tryd.f8 false true false false) := by
  refine returnsInHanded_of_change_and (C := Tryd.checked) (X := fun w _ => laidMetH Tryd.prog laidL w) (fun _ _ _ hh h => h.of_heap hh) own started (by kernel_rfl) Tryd.func8
    (ChangeSpec.witness_at (enc := enc) (C := Tryd.checked) (os := os) (X := fun w _ => laidMetH Tryd.prog laidL w) false ({ World.holding Tryd.prog os ⟨#[], #[], []⟩ with heap := (World.holding Tryd.prog os ⟨#[], #[], []⟩).heap.modify 0 fun
        | .cells _ t frozen => .cells (roundsZ.map fun z => Value.int .u32 z).toArray t frozen
        | o => o } : World) #[.slice none 0 0, .int .i64 0, .agg #[.int .u8 0, .int .u8 0, .int .u8 0, .int .u8 0, .int .u8 0, .int .u8 0, .int .u8 0, .int .u8 0, .int .u8 0, .int .u8 0, .int .u8 0, .int .u8 0, .int .u8 0, .int .u8 0, .int .u8 0, .int .u8 0, .int .u8 0, .int .u8 0, .int .u8 0, .int .u8 0, .int .u8 0, .int .u8 0, .int .u8 0, .int .u8 0, .int .u8 0, .int .u8 0, .int .u8 0, .int .u8 0, .int .u8 0, .int .u8 0, .int .u8 0, .int .u8 0], .slice none 0 0] 8 rfl (by kernel_rfl) (by kernel_rfl) (by kernel_rfl) (by kernel_rfl) (by kernel_rfl)
      (show laidMet Tryd.prog laidL _ from laidMet_of_run' 8 (by kernel_rfl) (by kernel_rfl))) ?_
  intro W base args ds gs before hval0 hW hcnd hsz hL _
  have hval : ∀ (j : Nat) t v, Tryd.f8.params[j]? = some t → args[j]? = some v → Value.okWide Tryd.prog W .any base t v := hval0
  have hW' := hW
  obtain ⟨p, q, hA0, hV, rfl, hfz, hnd⟩ := hW
  have hA : DataW.TrodAll enc Tryd.prog W 0 (fun _ => true) true Tryd.f8.params.toList args.toList ds p := hA0
  rw [Tryd.params8] at hA hval
  obtain ⟨v0, vs0, d0, ds0, p0, q0, hargs, rfl, rfl, h0, r0⟩ := trodAll_cons hA
  obtain ⟨v1, vs1, d1, ds1, p1, q1, rfl, rfl, rfl, h1, r1⟩ := trodAll_cons r0
  obtain ⟨v2, vs2, d2, ds2, p2, q2, rfl, rfl, rfl, h2, r2⟩ := trodAll_cons r1
  obtain ⟨v3, vs3, d3, ds3, p3, q3, rfl, rfl, rfl, h3, r3⟩ := trodAll_cons r2
  obtain ⟨rfl, rfl, rfl⟩ := trodAll_nil r3
  obtain rfl : args = #[v0, v1, v2, v3] := by cases args; simp_all
  obtain ⟨rfl, rfl⟩ := trodVars_none hV
  have lt0 : ∀ x ∈ p0, x.block < W.heap.size := by have k := h0; obtain ⟨m, hm⟩ := k; exact DataW.trod_lt m _ _ _ hm
  have w0 : Hyp.Small (d0.weights Tryd.prog 23) := fun n hn => of_decide_eq_true (List.all_eq_true.1 hsz n (DataW.weights_mem_each (j := 0) (t := 23) (d := d0) (by kernel_rfl) rfl n hn))
  obtain ⟨x0, g0, s0⟩ := Hyp.arg_okW (t := (.list (.rcd (.pair (.sint .i64) (.list .u8))))) (by kernel_rfl) (by kernel_rfl) h0 w0 (hval 0 23 v0 rfl rfl)
  have lt1 : ∀ x ∈ p1, x.block < W.heap.size := by have k := h1; obtain ⟨m, hm⟩ := k; exact DataW.trod_lt m _ _ _ hm
  have w1 : Hyp.Small (d1.weights Tryd.prog 3) := fun n hn => of_decide_eq_true (List.all_eq_true.1 hsz n (DataW.weights_mem_each (j := 1) (t := 3) (d := d1) (by kernel_rfl) rfl n hn))
  obtain ⟨x1, g1, s1⟩ := Hyp.arg_okW (t := (.sint .i64)) (by kernel_rfl) (by kernel_rfl) h1 w1 (hval 1 3 v1 rfl rfl)
  have lt2 : ∀ x ∈ p2, x.block < W.heap.size := by have k := h2; obtain ⟨m, hm⟩ := k; exact DataW.trod_lt m _ _ _ hm
  have w2 : Hyp.Small (d2.weights Tryd.prog 54) := fun n hn => of_decide_eq_true (List.all_eq_true.1 hsz n (DataW.weights_mem_each (j := 2) (t := 54) (d := d2) (by kernel_rfl) rfl n hn))
  obtain ⟨x2, g2, s2⟩ := Hyp.arg_okW (t := (.arr 32 .u8)) (by kernel_rfl) (by kernel_rfl) h2 w2 (hval 2 54 v2 rfl rfl)
  have lt3 : ∀ x ∈ p3, x.block < W.heap.size := by have k := h3; obtain ⟨m, hm⟩ := k; exact DataW.trod_lt m _ _ _ hm
  have w3 : Hyp.Small (d3.weights Tryd.prog 22) := fun n hn => of_decide_eq_true (List.all_eq_true.1 hsz n (DataW.weights_mem_each (j := 3) (t := 22) (d := d3) (by kernel_rfl) rfl n hn))
  obtain ⟨x3, g3, s3⟩ := Hyp.arg_okW (t := (.list .u8)) (by kernel_rfl) (by kernel_rfl) h3 w3 (hval 3 22 v3 rfl rfl)
  have hl := law_runs x0 g0 x1 g1 x2 g2 x3 g3
  refine (Hyp.top_call (law_sound _) hl (vs := [v0, v1, v2, v3]) ⟨s0, ⟨s1, ⟨s2, ⟨s3, trivial⟩⟩⟩⟩ (glb_of_laid hL)).mono fun e W' he => ?_
  cases e with
  | returned v =>
    obtain ⟨rfl, ho⟩ := he
    have bel : Below W.heap.size W W' := Hyp.Own.below (o := fun _ => True) ho
    exact ⟨_, rfl, _, _, _, [], _, [], hW', trodAll_mk1 (shut_bool Tryd.underlying4 _), (trodAll_cons_mk (Below.trod laidOut (by kernel_rfl) (of_decide_eq_true (by kernel_rfl)) h0 bel lt0) (trodAll_cons_mk (Below.trod laidOut (by kernel_rfl) (of_decide_eq_true (by kernel_rfl)) h1 bel lt1) (trodAll_cons_mk (Below.trod laidOut (by kernel_rfl) (of_decide_eq_true (by kernel_rfl)) h2 bel lt2) (trodAll_cons_mk (Below.trod laidOut (by kernel_rfl) (of_decide_eq_true (by kernel_rfl)) h3 bel lt3) trodAll_mk0)))), rfl, bel.frame _, fun h => by cases h⟩
  | panicked _ => exact he.elim
  | outgrown => exact he.elim
theorem over : Rows.blobFormRow.holds Tryd.pinned (OpenSpec.ofChange Rows.blobFormSpec) :=
  OpenClaim.holds_of_wide 8 Tryd.f8 rfl rfl rfl rfl rfl rfl rfl ⟨rfl, rfl, rfl, rfl, rfl⟩ rfl rfl rfl rfl rfl (by kernel_rfl) Tryd.func8 (by kernel_rfl)
    (of_decide_eq_true (by kernel_rfl)) (by unfold Func.isWrapper; first | (rw [if_pos (by decide +kernel)]; kernel_rfl) | (rw [if_neg (by decide +kernel)]; exact ⟨rfl, rfl⟩))
    (fun os started H enc _ => lifted os started H enc)
theorem proved : Rows.BlobFormCardSaid :=
  Claim7.holds_tied_plain_at .later [] [.data] true _ false
    over (fun _ h => by cases h) (by kernel_rfl) (fun _ h => by cases h) blobForm_row_tie rfl ⟨rfl, rfl⟩ (by kernel_rfl) rfl
    (fun f fn hf hfn => by
      obtain rfl : f = 8 := Option.some.inj ((show Tryd.prog.funcNamed "hypogeum/hypogeumlaw18.BlobForm" = some 8 by kernel_rfl).symm.trans hf) |>.symm
      obtain rfl : fn = Tryd.f8 := (Option.some.inj (Tryd.func8.symm.trans hfn)).symm
      exact ⟨by kernel_rfl, fun j t ht => by
        have h := List.all_eq_true.1 (show (Tryd.f8.params.toList.all fun t => !(Tryd.prog.wantsStandIn t)) = true by kernel_rfl) t (Array.mem_toList_iff.2 (Array.mem_of_getElem? ht))
        have h2 : Tryd.prog.wantsStandIn t = false := by simpa using h
        exact h2⟩)
    (by kernel_rfl)
end Go.Proofs.YtcojhmllnhkbnaaDoor
