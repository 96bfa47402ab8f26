/- IndexBack: a list of what is known is read as it was told; what is read is told as it stood; for every input. -/
import Derived.Test.YtcipfbabjbcfkaaRows
import Derived.Test.YtcipfbabjbcfkaaZD
import Derived.Test.YtcipfbabjbcfkaaKQ
import Derived.WalkKit
import Derived.ProofKit
import Derived.OpenShut
import Derived.ChangeOld
import Derived.Below
import Derived.SizedLaws
namespace Go.Proofs.Ytcipfbabjbcfkaa
open Go.ChangeShapes Go.WideShapes Go.ChangeAt Go.RowKit
set_option linter.unusedVariables false
theorem own : ownKnob Try.prog.godebug = none := by kernel_rfl
theorem laidOut : laidOutB Try.prog = true := by kernel_rfl
theorem law_sound (n : Nat) : Hyp.SoundF Try.prog 4 (Hyp.S_w20_IndexBack n) := Hyp.ok_w20_IndexBack n
theorem law_runs (x0 : ((.list (.rcd (.pair (.sint .i64) (.pair (.arr 32 .u8) (.rcd (.pair .str (.pair (.sint .i64) (.sint .i64)))))))) : Hyp.Ty).den) (g0 : ((.list (.rcd (.pair (.sint .i64) (.pair (.arr 32 .u8) (.rcd (.pair .str (.pair (.sint .i64) (.sint .i64)))))))) : Hyp.Ty).ok x0) (x1 : ((.list .u8) : Hyp.Ty).den) (g1 : ((.list .u8) : Hyp.Ty).ok x1) : (Hyp.S_w20_IndexBack (fuel x0 + 5000 + 1000) [Hyp.explode (.list (.rcd (.pair (.sint .i64) (.pair (.arr 32 .u8) (.rcd (.pair .str (.pair (.sint .i64) (.sint .i64)))))))) x0, Hyp.explode (.list .u8) x1] [] 0).Runs fun r => r.1 = .val .bool true ∧ r.2.1 = [] :=
  Hyp.law_of (t := Hyp.F_w20_IndexBack (fuel x0 + 5000 + 1000) false x0 x1) ((back_law _ _ _ g0)) (by kernel_rfl)
set_option maxHeartbeats 2000000 in
set_option maxRecDepth 100000 in
theorem lifted (os : Os) (started : os.Started) (H : Type) (enc : TypeId × Value → H) :
    ReturnsInHanded {} Try.checked os 4 .any (Rows.indexBackSpec.pre6 enc Try.prog Try.f4 Rows.indexBackRow.domain false) (Rows.indexBackSpec.post enc Try.prog Try.f4 false true false false) := by
  refine returnsInHanded_of_change (C := Try.checked) own started (by kernel_rfl) Try.func4
    (ChangeSpec.witness6 (enc := enc) (C := Try.checked) false ⟨#[], #[.slice none 0 0, .slice none 0 0], []⟩ 8 (by kernel_rfl) (by kernel_rfl) (by kernel_rfl) (by kernel_rfl)) ?_
  intro W base args ds gs before hval0 hW hcnd _
  have hval : ∀ (j : Nat) t v, Try.f4.params[j]? = some t → args[j]? = some v → Value.okWide Try.prog W .any base t v := hval0
  have hW' := hW
  obtain ⟨p, q, hA0, hV, rfl, hfz, hnd⟩ := hW
  have hA : DataW.TrodAll enc Try.prog W 0 (fun _ => true) true Try.f4.params.toList args.toList ds p := hA0
  rw [Try.params4] at hA hval
  obtain ⟨v0, vs0, d0, ds0, p0, q0, hargs, rfl, rfl, h0, r0⟩ := trodAll_cons hA
  obtain ⟨v1, vs1, d1, ds1, p1, q1, rfl, rfl, rfl, h1, r1⟩ := trodAll_cons r0
  obtain ⟨rfl, rfl, rfl⟩ := trodAll_nil r1
  obtain rfl : args = #[v0, v1] := by cases args; simp_all
  obtain ⟨rfl, rfl⟩ := trodVars_none hV
  have lt0 : ∀ x ∈ p0, x.block < W.heap.size := by have k := h0; obtain ⟨m, hm⟩ := k; exact DataW.trod_lt m _ _ _ hm
  obtain ⟨x0, g0, s0⟩ := Hyp.arg_ok (t := (.list (.rcd (.pair (.sint .i64) (.pair (.arr 32 .u8) (.rcd (.pair .str (.pair (.sint .i64) (.sint .i64))))))))) (by kernel_rfl) (by kernel_rfl) h0 (hval 0 22 v0 rfl rfl)
  have lt1 : ∀ x ∈ p1, x.block < W.heap.size := by have k := h1; obtain ⟨m, hm⟩ := k; exact DataW.trod_lt m _ _ _ hm
  obtain ⟨x1, g1, s1⟩ := Hyp.arg_ok (t := (.list .u8)) (by kernel_rfl) (by kernel_rfl) h1 (hval 1 35 v1 rfl rfl)
  have hl := law_runs x0 g0 x1 g1
  refine (Hyp.top_call (law_sound _) hl (vs := [v0, v1]) ⟨s0, ⟨s1, trivial⟩⟩).mono fun e W' he => ?_
  cases e with
  | returned v =>
    obtain ⟨rfl, ho⟩ := he
    have bel : Below W.heap.size W W' := Hyp.Own.below (o := fun _ => True) ho
    exact ⟨_, rfl, _, _, _, [], _, [], hW', trodAll_mk1 (shut_bool Try.underlying4 _), (trodAll_cons_mk (Below.trod laidOut (by kernel_rfl) (of_decide_eq_true (by kernel_rfl)) h0 bel lt0) (trodAll_cons_mk (Below.trod laidOut (by kernel_rfl) (of_decide_eq_true (by kernel_rfl)) h1 bel lt1) trodAll_mk0)), rfl, bel.frame _, fun h => by cases h⟩
  | panicked _ => exact he.elim
  | outgrown => exact he.elim
theorem over : Rows.indexBackRow.holds Try.pinned (OpenSpec.ofChange Rows.indexBackSpec) :=
  OpenClaim.holds_of_wide 4 Try.f4 rfl rfl rfl rfl rfl rfl rfl ⟨rfl, rfl, rfl, rfl, rfl⟩ rfl rfl rfl rfl rfl (by kernel_rfl) Try.func4 (by kernel_rfl)
    (of_decide_eq_true (by kernel_rfl)) (by unfold Func.isWrapper; first | (rw [if_pos (by decide +kernel)]; kernel_rfl) | (rw [if_neg (by decide +kernel)]; exact ⟨rfl, rfl⟩))
    (fun os started H enc _ => lifted os started H enc)
theorem proved : Rows.IndexBackSaid := over
end Go.Proofs.Ytcipfbabjbcfkaa
