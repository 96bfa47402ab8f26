/- BlobBack: what is sealed under its own id is checked: the same text, and as many bytes as is told; for every input whose sizes a machine can hold, where the digest's table is as it is laid. -/
import Derived.Test.YtcojhmllnhkbnaaDoorRows
import Derived.Test.YtcojhmllnhkbnaaDoorZD
import Derived.Test.YtcojhmllnhkbnaaDoorNz
import Derived.Test.YtcojhmllnhkbnaaDoorLa
import Derived.Test.YtcojhmllnhkbnaaDoorCards
import Derived.Test.YtcojhmllnhkbnaaDoorTie
import Derived.Test.YtcojhmllnhkbnaaDoorKy
import Derived.WalkKit
import Derived.ProofKit
import Derived.OpenShut
import Derived.ChangeOld
import Derived.Below
import Derived.SizedLaws
import Derived.Handed
import Derived.LaidLaws
import Derived.LaidHandle
import Derived.SevenTiedAt
namespace Go.Proofs.YtcojhmllnhkbnaaDoor
open Go.ChangeShapes Go.WideShapes Go.ChangeAt Go.RowKit
set_option linter.unusedVariables false
theorem own : ownKnob Tryd.prog.godebug = none := by kernel_rfl
theorem laidOut : laidOutB Tryd.prog = true := by kernel_rfl
theorem law_sound (n : Nat) : Hyp.SoundF Tryd.prog 7 (Hyp.S_w18_BlobBack n) := Hyp.ok_w18_BlobBack n
theorem law_runs (x0 : ((.rcd (.pair (.list (.rcd (.pair (.sint .i64) (.list .u8)))) (.pair (.sint .i64) (.pair (.sint .i64) (.pair (.sint .i64) (.pair (.arr 32 .u8) (.pair (.list .u8) (.pair .u16 .u8)))))))) : Hyp.Ty).den) (g0 : ((.rcd (.pair (.list (.rcd (.pair (.sint .i64) (.list .u8)))) (.pair (.sint .i64) (.pair (.sint .i64) (.pair (.sint .i64) (.pair (.arr 32 .u8) (.pair (.list .u8) (.pair .u16 .u8)))))))) : Hyp.Ty).okW x0) (x1 : ((.sint .i64) : Hyp.Ty).den) (g1 : ((.sint .i64) : Hyp.Ty).okW x1) : (Hyp.S_w18_BlobBack (0 + 10000) [Hyp.explode (.rcd (.pair (.list (.rcd (.pair (.sint .i64) (.list .u8)))) (.pair (.sint .i64) (.pair (.sint .i64) (.pair (.sint .i64) (.pair (.arr 32 .u8) (.pair (.list .u8) (.pair .u16 .u8)))))))) x0, Hyp.explode (.sint .i64) x1] [] 0).Runs fun r => r.1 = .val .bool true ∧ r.2.1 = [] :=
  Hyp.law_of (t := Hyp.F_w18_BlobBack (0 + 10000) false x0.1 x0.2.1 x0.2.2.1 x0.2.2.2.1 x0.2.2.2.2.2.1 x1) ((.of (Hyp.back_law (by omega) (Hyp.masters_len g0.1)))) (by kernel_rfl)
set_option maxHeartbeats 2000000 in
set_option maxRecDepth 100000 in
theorem lifted (os : Os) (started : os.Started) (H : Type) (enc : TypeId × Value → H) :
    ReturnsInHanded {} Tryd.checked os 7 .any (fun w args => (Rows.blobBackSpec.pre enc Tryd.prog Tryd.f7 Rows.blobBackRow.domain false w args ∧ laidMetH Tryd.prog laidL w) ∧ sizedMet enc Tryd.prog Tryd.f7 (OpenSpec.ofChange Rows.blobBackSpec) false w args)
      (Rows.blobBackSpec.post enc Tryd.prog Tryd.f7 false true false false) := by
  refine returnsInHanded_of_change_and (C := Tryd.checked) (X := fun w _ => laidMetH Tryd.prog laidL w) (fun _ _ _ hh h => h.of_heap hh) own started (by kernel_rfl) Tryd.func7
    (ChangeSpec.witness_at (enc := enc) (C := Tryd.checked) (os := os) (X := fun w _ => laidMetH Tryd.prog laidL w) false ({ World.holding Tryd.prog os ⟨#[], #[], []⟩ with heap := (World.holding Tryd.prog os ⟨#[], #[], []⟩).heap.modify 0 fun
        | .cells _ t frozen => .cells (roundsZ.map fun z => Value.int .u32 z).toArray t frozen
        | o => o } : World) #[.agg #[.slice none 0 0, .int .i64 0, .int .i64 0, .int .i64 0, .int .u8 0, .int .u8 0, .int .u8 0, .int .u8 0, .int .u8 0, .int .u8 0, .int .u8 0, .int .u8 0, .int .u8 0, .int .u8 0, .int .u8 0, .int .u8 0, .int .u8 0, .int .u8 0, .int .u8 0, .int .u8 0, .int .u8 0, .int .u8 0, .int .u8 0, .int .u8 0, .int .u8 0, .int .u8 0, .int .u8 0, .int .u8 0, .int .u8 0, .int .u8 0, .int .u8 0, .int .u8 0, .int .u8 0, .int .u8 0, .int .u8 0, .int .u8 0, .slice none 0 0, .int .u16 0, .int .u8 0], .int .i64 0] 8 rfl (by kernel_rfl) (by kernel_rfl) (by kernel_rfl) (by kernel_rfl) (by kernel_rfl)
      (show laidMet Tryd.prog laidL _ from laidMet_of_run' 8 (by kernel_rfl) (by kernel_rfl))) ?_
  intro W base args ds gs before hval0 hW hcnd hsz hL _
  have hval : ∀ (j : Nat) t v, Tryd.f7.params[j]? = some t → args[j]? = some v → Value.okWide Tryd.prog W .any base t v := hval0
  have hW' := hW
  obtain ⟨p, q, hA0, hV, rfl, hfz, hnd⟩ := hW
  have hA : DataW.TrodAll enc Tryd.prog W 0 (fun _ => true) true Tryd.f7.params.toList args.toList ds p := hA0
  rw [Tryd.params7] at hA hval
  obtain ⟨v0, vs0, d0, ds0, p0, q0, hargs, rfl, rfl, h0, r0⟩ := trodAll_cons hA
  obtain ⟨v1, vs1, d1, ds1, p1, q1, rfl, rfl, rfl, h1, r1⟩ := trodAll_cons r0
  obtain ⟨rfl, rfl, rfl⟩ := trodAll_nil r1
  obtain rfl : args = #[v0, v1] := by cases args; simp_all
  obtain ⟨rfl, rfl⟩ := trodVars_none hV
  have lt0 : ∀ x ∈ p0, x.block < W.heap.size := by have k := h0; obtain ⟨m, hm⟩ := k; exact DataW.trod_lt m _ _ _ hm
  have w0 : Hyp.Small (d0.weights Tryd.prog 56) := fun n hn => of_decide_eq_true (List.all_eq_true.1 hsz n (DataW.weights_mem_each (j := 0) (t := 56) (d := d0) (by kernel_rfl) rfl n hn))
  obtain ⟨x0, g0, s0⟩ := Hyp.arg_okW (t := (.rcd (.pair (.list (.rcd (.pair (.sint .i64) (.list .u8)))) (.pair (.sint .i64) (.pair (.sint .i64) (.pair (.sint .i64) (.pair (.arr 32 .u8) (.pair (.list .u8) (.pair .u16 .u8))))))))) (by kernel_rfl) (by kernel_rfl) h0 w0 (hval 0 56 v0 rfl rfl)
  have lt1 : ∀ x ∈ p1, x.block < W.heap.size := by have k := h1; obtain ⟨m, hm⟩ := k; exact DataW.trod_lt m _ _ _ hm
  have w1 : Hyp.Small (d1.weights Tryd.prog 3) := fun n hn => of_decide_eq_true (List.all_eq_true.1 hsz n (DataW.weights_mem_each (j := 1) (t := 3) (d := d1) (by kernel_rfl) rfl n hn))
  obtain ⟨x1, g1, s1⟩ := Hyp.arg_okW (t := (.sint .i64)) (by kernel_rfl) (by kernel_rfl) h1 w1 (hval 1 3 v1 rfl rfl)
  have hl := law_runs x0 g0 x1 g1
  refine (Hyp.top_call (law_sound _) hl (vs := [v0, v1]) ⟨s0, ⟨s1, trivial⟩⟩ (glb_of_laid hL)).mono fun e W' he => ?_
  cases e with
  | returned v =>
    obtain ⟨rfl, ho⟩ := he
    have bel : Below W.heap.size W W' := Hyp.Own.below (o := fun _ => True) ho
    exact ⟨_, rfl, _, _, _, [], _, [], hW', trodAll_mk1 (shut_bool Tryd.underlying4 _), (trodAll_cons_mk (Below.trod laidOut (by kernel_rfl) (of_decide_eq_true (by kernel_rfl)) h0 bel lt0) (trodAll_cons_mk (Below.trod laidOut (by kernel_rfl) (of_decide_eq_true (by kernel_rfl)) h1 bel lt1) trodAll_mk0)), rfl, bel.frame _, fun h => by cases h⟩
  | panicked _ => exact he.elim
  | outgrown => exact he.elim
theorem over : Rows.blobBackRow.holds Tryd.pinned (OpenSpec.ofChange Rows.blobBackSpec) :=
  OpenClaim.holds_of_wide 7 Tryd.f7 rfl rfl rfl rfl rfl rfl rfl ⟨rfl, rfl, rfl, rfl, rfl⟩ rfl rfl rfl rfl rfl (by kernel_rfl) Tryd.func7 (by kernel_rfl)
    (of_decide_eq_true (by kernel_rfl)) (by unfold Func.isWrapper; first | (rw [if_pos (by decide +kernel)]; kernel_rfl) | (rw [if_neg (by decide +kernel)]; exact ⟨rfl, rfl⟩))
    (fun os started H enc _ => lifted os started H enc)
theorem proved : Rows.BlobBackCardSaid :=
  Claim7.holds_tied_plain_at .later [] [.data] true _ false
    over (fun _ h => by cases h) (by kernel_rfl) (fun _ h => by cases h) blobBack_row_tie rfl ⟨rfl, rfl⟩ (by kernel_rfl) rfl
    (fun f fn hf hfn => by
      obtain rfl : f = 7 := Option.some.inj ((show Tryd.prog.funcNamed "hypogeum/hypogeumlaw18.BlobBack" = some 7 by kernel_rfl).symm.trans hf) |>.symm
      obtain rfl : fn = Tryd.f7 := (Option.some.inj (Tryd.func7.symm.trans hfn)).symm
      exact ⟨by kernel_rfl, fun j t ht => by
        have h := List.all_eq_true.1 (show (Tryd.f7.params.toList.all fun t => !(Tryd.prog.wantsStandIn t)) = true by kernel_rfl) t (Array.mem_toList_iff.2 (Array.mem_of_getElem? ht))
        have h2 : Tryd.prog.wantsStandIn t = false := by simpa using h
        exact h2⟩)
    (by kernel_rfl)
end Go.Proofs.YtcojhmllnhkbnaaDoor
