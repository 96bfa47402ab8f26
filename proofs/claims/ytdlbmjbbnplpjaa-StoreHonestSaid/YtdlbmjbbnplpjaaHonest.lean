/- StoreHonest: by honest choices alone what is put is got, until it is put anew or deleted; for every input. -/
import Derived.Test.YtdlbmjbbnplpjaaRows
import Derived.Test.YtdlbmjbbnplpjaaZD
import Derived.Test.YtdlbmjbbnplpjaaHH
import Derived.WalkKit
import Derived.ProofKit
import Derived.OpenShut
import Derived.ChangeOld
import Derived.Below
import Derived.SizedLaws
namespace Go.Proofs.Ytdlbmjbbnplpjaa
open Go.ChangeShapes Go.WideShapes Go.ChangeAt Go.RowKit
set_option linter.unusedVariables false
theorem own : ownKnob Try.prog.godebug = none := by kernel_rfl
theorem laidOut : laidOutB Try.prog = true := by kernel_rfl
theorem law_sound (n : Nat) : Hyp.SoundF Try.prog 9 (Hyp.S_w16_StoreHonest n) := Hyp.ok_w16_StoreHonest n
theorem law_runs (x0 : ((.list (.rcd (.pair (.sint .i64) (.pair .str (.pair (.list .u8) (.pair (.rcd (.pair (.sint .i64) (.pair (.sint .i64) (.sint .i64)))) (.list (.rcd (.pair (.sint .i64) (.pair (.sint .i64) (.pair .str (.list .u8)))))))))))) : Hyp.Ty).den) (g0 : ((.list (.rcd (.pair (.sint .i64) (.pair .str (.pair (.list .u8) (.pair (.rcd (.pair (.sint .i64) (.pair (.sint .i64) (.sint .i64)))) (.list (.rcd (.pair (.sint .i64) (.pair (.sint .i64) (.pair .str (.list .u8)))))))))))) : Hyp.Ty).ok x0) : (Hyp.S_w16_StoreHonest (0 + 1000) [Hyp.explode (.list (.rcd (.pair (.sint .i64) (.pair .str (.pair (.list .u8) (.pair (.rcd (.pair (.sint .i64) (.pair (.sint .i64) (.sint .i64)))) (.list (.rcd (.pair (.sint .i64) (.pair (.sint .i64) (.pair .str (.list .u8)))))))))))) x0] [] 0).Runs fun r => r.1 = .val .bool true ∧ r.2.1 = [] :=
  Hyp.law_of (t := Hyp.F_w16_StoreHonest (0 + 1000) false x0) ((honest_run (awake_run 0) (by omega) _ _ (Nat.le_trans g0.1 (by decide)))) (by kernel_rfl)
set_option maxHeartbeats 2000000 in
set_option maxRecDepth 100000 in
theorem lifted (os : Os) (started : os.Started) (H : Type) (enc : TypeId × Value → H) :
    ReturnsInHanded {} Try.checked os 9 .any (Rows.storeHonestSpec.pre6 enc Try.prog Try.f9 Rows.storeHonestRow.domain false) (Rows.storeHonestSpec.post enc Try.prog Try.f9 false true false false) := by
  refine returnsInHanded_of_change (C := Try.checked) own started (by kernel_rfl) Try.func9
    (ChangeSpec.witness6 (enc := enc) (C := Try.checked) false ⟨#[], #[.slice none 0 0], []⟩ 8 (by kernel_rfl) (by kernel_rfl) (by kernel_rfl) (by kernel_rfl)) ?_
  intro W base args ds gs before hval0 hW hcnd _
  have hval : ∀ (j : Nat) t v, Try.f9.params[j]? = some t → args[j]? = some v → Value.okWide Try.prog W .any base t v := hval0
  have hW' := hW
  obtain ⟨p, q, hA0, hV, rfl, hfz, hnd⟩ := hW
  have hA : DataW.TrodAll enc Try.prog W 0 (fun _ => true) true Try.f9.params.toList args.toList ds p := hA0
  rw [Try.params9] at hA hval
  obtain ⟨v0, vs0, d0, ds0, p0, q0, hargs, rfl, rfl, h0, r0⟩ := trodAll_cons hA
  obtain ⟨rfl, rfl, rfl⟩ := trodAll_nil r0
  obtain rfl : args = #[v0] := by cases args; simp_all
  obtain ⟨rfl, rfl⟩ := trodVars_none hV
  have lt0 : ∀ x ∈ p0, x.block < W.heap.size := by have k := h0; obtain ⟨m, hm⟩ := k; exact DataW.trod_lt m _ _ _ hm
  obtain ⟨x0, g0, s0⟩ := Hyp.arg_ok (t := (.list (.rcd (.pair (.sint .i64) (.pair .str (.pair (.list .u8) (.pair (.rcd (.pair (.sint .i64) (.pair (.sint .i64) (.sint .i64)))) (.list (.rcd (.pair (.sint .i64) (.pair (.sint .i64) (.pair .str (.list .u8))))))))))))) (by kernel_rfl) (by kernel_rfl) h0 (hval 0 63 v0 rfl rfl)
  have hl := law_runs x0 g0
  refine (Hyp.top_call (law_sound _) hl (vs := [v0]) ⟨s0, trivial⟩).mono fun e W' he => ?_
  cases e with
  | returned v =>
    obtain ⟨rfl, ho⟩ := he
    have bel : Below W.heap.size W W' := Hyp.Own.below (o := fun _ => True) ho
    exact ⟨_, rfl, _, _, _, [], _, [], hW', trodAll_mk1 (shut_bool Try.underlying4 _), (trodAll_cons_mk (Below.trod laidOut (by kernel_rfl) (of_decide_eq_true (by kernel_rfl)) h0 bel lt0) trodAll_mk0), rfl, bel.frame _, fun h => by cases h⟩
  | panicked _ => exact he.elim
  | outgrown => exact he.elim
theorem over : Rows.storeHonestRow.holds Try.pinned (OpenSpec.ofChange Rows.storeHonestSpec) :=
  OpenClaim.holds_of_wide 9 Try.f9 rfl rfl rfl rfl rfl rfl rfl ⟨rfl, rfl, rfl, rfl, rfl⟩ rfl rfl rfl rfl rfl (by kernel_rfl) Try.func9 (by kernel_rfl)
    (of_decide_eq_true (by kernel_rfl)) (by unfold Func.isWrapper; first | (rw [if_pos (by decide +kernel)]; kernel_rfl) | (rw [if_neg (by decide +kernel)]; exact ⟨rfl, rfl⟩))
    (fun os started H enc _ => lifted os started H enc)
theorem proved : Rows.StoreHonestSaid := over
end Go.Proofs.Ytdlbmjbbnplpjaa
