/- EntropyOnce: whatever bytes a source is made of, and whatever steps are done, all that is drawn is, one behind the other, a beginning of all that was given; for every input. -/
import Derived.Test.YtkpbpjmbkhkmnaaRows
import Derived.Test.YtkpbpjmbkhkmnaaXj
import Derived.Test.YtkpbpjmbkhkmnaaL0
import Derived.WalkKit
import Derived.ProofKit
import Derived.OpenShut
import Derived.ChangeOld
import Derived.Below
import Derived.SizedLaws
namespace Go.Proofs.Ytkpbpjmbkhkmnaa
open Go.ChangeShapes Go.WideShapes Go.ChangeAt Go.RowKit
set_option linter.unusedVariables false
theorem own : ownKnob Try.prog.godebug = none := by kernel_rfl
theorem laidOut : laidOutB Try.prog = true := by kernel_rfl
theorem rd22 : Hyp.Reads Try.prog 22 (Hyp.RS (.ofEnc Hyp.E8)) (Hyp.QL Hyp.QT) := .slice Try.underlying22 (by kernel_rfl) (.u8 Try.underlying5 (by kernel_rfl))
theorem rd31 : Hyp.Reads Try.prog 31 (Hyp.RP (.ofEnc Hyp.EI) (Hyp.RS (.ofEnc Hyp.E8))) (Hyp.QP Hyp.I64 (Hyp.QL Hyp.QT)) := .struct Try.underlying31 (by kernel_rfl) (l := [_, _]) (Hyp.ReadsT.cons rfl (.i64 Try.underlying3 (by kernel_rfl)) (Hyp.ReadsT.one rfl rd22))
theorem rd23 : Hyp.Reads Try.prog 23 (Hyp.RS (Hyp.RP (.ofEnc Hyp.EI) (Hyp.RS (.ofEnc Hyp.E8)))) (Hyp.QL (Hyp.QP Hyp.I64 (Hyp.QL Hyp.QT))) := .slice Try.underlying23 (by kernel_rfl) rd31
theorem walk (v0 v1 : Value) (xs : List UInt8) (ys : List (Int × List UInt8)) (w : World) (h0 : Hyp.RSl (.ofEnc Hyp.E8) (Hyp.Old w) w v0 xs) (h1 : Hyp.RSl (Hyp.RP (.ofEnc Hyp.EI) (Hyp.RS (.ofEnc Hyp.E8))) (Hyp.Old w) w v1 ys) :
    Calls Try.prog 4 #[v0, v1] w fun e w' => e = .returned (.bool true) ∧ Below w.heap.size w w' := by
  obtain ⟨k, hk⟩ := entropyOnce_true xs ys
  refine (Hyp.hypogeumlaw08_EntropyOnce_ok k (S := Hyp.Old w) v0 xs v1 ys w (Hyp.Own.start w _) (by simp) (Hyp.rsl_enc h0) h1 true hk).mono fun e w' he => ?_
  cases e with
  | returned v => obtain ⟨rfl, ho⟩ := he; exact ⟨rfl, Hyp.Own.below (o := fun _ => True) ho⟩
  | panicked _ => exact he.elim
  | outgrown => exact he.elim
set_option maxRecDepth 100000 in
theorem lifted (os : Os) (started : os.Started) (H : Type) (enc : TypeId × Value → H) :
    ReturnsInHanded {} Try.checked os 4 .any (Rows.entropyOnceSpec.pre6 enc Try.prog Try.f4 Rows.entropyOnceRow.domain false) (Rows.entropyOnceSpec.post enc Try.prog Try.f4 false true false false) := by
  refine returnsInHanded_of_change (C := Try.checked) own started (by kernel_rfl) Try.func4
    (ChangeSpec.witness6 (enc := enc) (C := Try.checked) false ⟨#[], #[.slice none 0 0, .slice none 0 0], []⟩ 8 (by kernel_rfl) (by kernel_rfl) (by kernel_rfl) (by kernel_rfl)) ?_
  intro W base args ds gs before hval0 hW hcnd _
  have hval : ∀ (j : Nat) t v, Try.f4.params[j]? = some t → args[j]? = some v → Value.okWide Try.prog W .any base t v := hval0
  have hW' := hW
  obtain ⟨p, q, hA0, hV, rfl, hfz, hnd⟩ := hW
  have hA : DataW.TrodAll enc Try.prog W 0 (fun _ => true) true Try.f4.params.toList args.toList ds p := hA0
  rw [Try.params4] at hA hval
  obtain ⟨v0, vs0, d0, ds0, p0, q0, hargs, rfl, rfl, h0, r0⟩ := trodAll_cons hA
  obtain ⟨v1, vs1, d1, ds1, p1, q1, rfl, rfl, rfl, h1, r1⟩ := trodAll_cons r0
  obtain ⟨rfl, rfl, rfl⟩ := trodAll_nil r1
  obtain rfl : args = #[v0, v1] := by cases args; simp_all
  obtain ⟨rfl, rfl⟩ := trodVars_none hV
  obtain ⟨a0, len0, cap0, rfl⟩ := okWide_slice Try.underlying22 (hval 0 22 v0 rfl rfl)
  obtain ⟨a1, len1, cap1, rfl⟩ := okWide_slice Try.underlying23 (hval 1 23 v1 rfl rfl)
  have k0 := h0
  have k1 := h1
  have lt0 : ∀ x ∈ p0, x.block < W.heap.size := by obtain ⟨m, hm⟩ := k0; exact DataW.trod_lt m _ _ _ hm
  have lt1 : ∀ x ∈ p1, x.block < W.heap.size := by obtain ⟨m, hm⟩ := k1; exact DataW.trod_lt m _ _ _ hm
  obtain ⟨fuel0, hf0⟩ := h0
  obtain ⟨fuel1, hf1⟩ := h1
  obtain ⟨xs, hq0, _, he0, hr0⟩ := rd22.read hf0
  obtain ⟨ys, hq1, _, he1, hr1⟩ := rd23.read hf1
  simp [Value.cells] at he0 he1
  subst he0; subst he1
  clear hA0 hval0
  refine (walk _ _ xs ys W hr0 hr1).mono fun e W' ⟨he, bel⟩ => ?_
  subst he
  exact ⟨_, rfl, _, _, _, [], _, [], hW', trodAll_mk1 (shut_bool Try.underlying4 _), (trodAll_cons_mk (Below.trod laidOut (by kernel_rfl) (of_decide_eq_true (by kernel_rfl)) k0 bel lt0) (trodAll_cons_mk (Below.trod laidOut (by kernel_rfl) (of_decide_eq_true (by kernel_rfl)) k1 bel lt1) trodAll_mk0)), rfl, bel.frame _, fun h => by cases h⟩
theorem over : Rows.entropyOnceRow.holds Try.pinned (OpenSpec.ofChange Rows.entropyOnceSpec) :=
  OpenClaim.holds_of_wide 4 Try.f4 rfl rfl rfl rfl rfl rfl rfl ⟨rfl, rfl, rfl, rfl, rfl⟩ rfl rfl rfl rfl rfl (by kernel_rfl) Try.func4 (by kernel_rfl)
    (of_decide_eq_true (by kernel_rfl)) (by unfold Func.isWrapper; first | (rw [if_pos (by decide +kernel)]; kernel_rfl) | (rw [if_neg (by decide +kernel)]; exact ⟨rfl, rfl⟩))
    (fun os started H enc _ => lifted os started H enc)
theorem proved : Rows.EntropyOnceSaid := over
end Go.Proofs.Ytkpbpjmbkhkmnaa
