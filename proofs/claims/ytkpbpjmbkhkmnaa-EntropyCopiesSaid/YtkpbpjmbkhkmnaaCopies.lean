/- EntropyCopies: whatever bytes a source is made of, and whatever steps are done, a copy is just so, and what is drawn of one of the two the other one still has; for every input. -/
import Derived.Test.YtkpbpjmbkhkmnaaRows
import Derived.Test.YtkpbpjmbkhkmnaaXj
import Derived.Test.YtkpbpjmbkhkmnaaECL
import Derived.Test.YtkpbpjmbkhkmnaaNc
import Derived.WalkKit
import Derived.ProofKit
import Derived.OpenShut
import Derived.ChangeOld
import Derived.Below
import Derived.SizedLaws
namespace Go.Proofs.Ytkpbpjmbkhkmnaa
open Go.ChangeShapes Go.WideShapes Go.ChangeAt Go.RowKit
set_option linter.unusedVariables false
theorem own : ownKnob Try.prog.godebug = none := by kernel_rfl
theorem laidOut : laidOutB Try.prog = true := by kernel_rfl
theorem rd22 : Hyp.Reads Try.prog 22 (Hyp.RS (.ofEnc Hyp.E8)) (Hyp.QL Hyp.QT) := .slice Try.underlying22 (by kernel_rfl) (.u8 Try.underlying5 (by kernel_rfl))
theorem rd31 : Hyp.Reads Try.prog 31 (Hyp.RP (.ofEnc Hyp.EI) (Hyp.RS (.ofEnc Hyp.E8))) (Hyp.QP Hyp.I64 (Hyp.QL Hyp.QT)) := .struct Try.underlying31 (by kernel_rfl) (l := [_, _]) (Hyp.ReadsT.cons rfl (.i64 Try.underlying3 (by kernel_rfl)) (Hyp.ReadsT.one rfl rd22))
theorem rd23 : Hyp.Reads Try.prog 23 (Hyp.RS (Hyp.RP (.ofEnc Hyp.EI) (Hyp.RS (.ofEnc Hyp.E8)))) (Hyp.QL (Hyp.QP Hyp.I64 (Hyp.QL Hyp.QT))) := .slice Try.underlying23 (by kernel_rfl) rd31
theorem walk (v0 v1 : Value) (xs : List UInt8) (ys : List (Int × List UInt8)) (a : UInt8) (w : World) (h0 : Hyp.RSl (.ofEnc Hyp.E8) (Hyp.Old w) w v0 xs) (h1 : Hyp.RSl (Hyp.RP (.ofEnc Hyp.EI) (Hyp.RS (.ofEnc Hyp.E8))) (Hyp.Old w) w v1 ys) :
    Calls Try.prog 5 #[v0, v1, Hyp.u8 a] w fun e w' => e = .returned (.bool true) ∧ Below w.heap.size w w' := by
  have hl := law_true 100000 (Nat.le_refl _) false xs false ys a
  have hrun : (Hyp.S_hypogeumlaw08_EntropyCopies 100000 [.ro false .u8 xs, .ro false (.rcd (.pair (.sint .i64) (.list .u8))) ys, .val .u8 a] [] 0).run = some (.val .bool true, [], 0) := by
    have : (Hyp.S_hypogeumlaw08_EntropyCopies 100000 [.ro false .u8 xs, .ro false (.rcd (.pair (.sint .i64) (.list .u8))) ys, .val .u8 a] [] 0) = .sub (Hyp.F_hypogeumlaw08_EntropyCopies 100000 false xs false ys a) fun r => .ret (.val .bool r, [], 0) := by kernel_rfl
    rw [this, r_sub, hl]; rfl
  refine (Hyp.top_call (Hyp.ok_hypogeumlaw08_EntropyCopies 100000) hrun (vs := [v0, v1, Hyp.u8 a]) ⟨Hyp.top_ro (e := .u8) h0, Hyp.top_ro (e := .rcd (.pair (.sint .i64) (.list .u8))) h1, Hyp.top_val rfl rfl rfl, trivial⟩).mono fun e w' he => ?_
  cases e with
  | returned v => obtain ⟨rfl, ho⟩ := he; exact ⟨rfl, Hyp.Own.below (o := fun _ => True) ho⟩
  | panicked _ => exact he.elim
  | outgrown => exact he.elim
set_option maxHeartbeats 2000000 in
set_option maxRecDepth 100000 in
theorem lifted (os : Os) (started : os.Started) (H : Type) (enc : TypeId × Value → H) :
    ReturnsInHanded {} Try.checked os 5 .any (Rows.entropyCopiesSpec.pre6 enc Try.prog Try.f5 Rows.entropyCopiesRow.domain false) (Rows.entropyCopiesSpec.post enc Try.prog Try.f5 false true false false) := by
  refine returnsInHanded_of_change (C := Try.checked) own started (by kernel_rfl) Try.func5
    (ChangeSpec.witness6 (enc := enc) (C := Try.checked) false ⟨#[], #[.slice none 0 0, .slice none 0 0, .int .u8 0], []⟩ 8 (by kernel_rfl) (by kernel_rfl) (by kernel_rfl) (by kernel_rfl)) ?_
  intro W base args ds gs before hval0 hW hcnd _
  have hval : ∀ (j : Nat) t v, Try.f5.params[j]? = some t → args[j]? = some v → Value.okWide Try.prog W .any base t v := hval0
  have hW' := hW
  obtain ⟨p, q, hA0, hV, rfl, hfz, hnd⟩ := hW
  have hA : DataW.TrodAll enc Try.prog W 0 (fun _ => true) true Try.f5.params.toList args.toList ds p := hA0
  rw [Try.params5] at hA hval
  obtain ⟨v0, vs0, d0, ds0, p0, q0, hargs, rfl, rfl, h0, r0⟩ := trodAll_cons hA
  obtain ⟨v1, vs1, d1, ds1, p1, q1, rfl, rfl, rfl, h1, r1⟩ := trodAll_cons r0
  obtain ⟨v2, vs2, d2, ds2, p2, q2, rfl, rfl, rfl, h2, r2⟩ := trodAll_cons r1
  obtain ⟨rfl, rfl, rfl⟩ := trodAll_nil r2
  obtain rfl : args = #[v0, v1, v2] := by cases args; simp_all
  obtain ⟨rfl, rfl⟩ := trodVars_none hV
  obtain ⟨a0, len0, cap0, rfl⟩ := okWide_slice Try.underlying22 (hval 0 22 v0 rfl rfl)
  obtain ⟨a1, len1, cap1, rfl⟩ := okWide_slice Try.underlying23 (hval 1 23 v1 rfl rfl)
  have k0 := h0
  have k1 := h1
  have k2 := h2
  have lt2 : ∀ x ∈ p2, x.block < W.heap.size := by obtain ⟨m, hm⟩ := k2; exact DataW.trod_lt m _ _ _ hm
  obtain ⟨n, rfl, hn⟩ := okWide_int Try.underlying5 (hval 2 5 v2 rfl rfl)
  obtain ⟨b8, hb8⟩ : ∃ b8 : UInt8, Value.int .u8 n = Hyp.u8 b8 := by
    obtain ⟨m, hm⟩ := k2
    obtain ⟨b8, _, hr2⟩ := (Hyp.Reads.u8 Try.underlying5 (by kernel_rfl)).read hm
    exact ⟨b8, List.head_eq_of_cons_eq (show [Value.int .u8 n] = [Hyp.u8 b8] from hr2)⟩
  have lt0 : ∀ x ∈ p0, x.block < W.heap.size := by obtain ⟨m, hm⟩ := k0; exact DataW.trod_lt m _ _ _ hm
  have lt1 : ∀ x ∈ p1, x.block < W.heap.size := by obtain ⟨m, hm⟩ := k1; exact DataW.trod_lt m _ _ _ hm
  obtain ⟨fuel0, hf0⟩ := h0
  obtain ⟨fuel1, hf1⟩ := h1
  obtain ⟨xs, hq0, _, he0, hr0⟩ := rd22.read hf0
  obtain ⟨ys, hq1, _, he1, hr1⟩ := rd23.read hf1
  simp [Value.cells] at he0 he1
  subst he0; subst he1
  clear hA0 hval0
  rw [hb8] at hW' k2 ⊢
  refine (walk _ _ xs ys b8 W hr0 hr1).mono fun e W' ⟨he, bel⟩ => ?_
  subst he
  exact ⟨_, rfl, _, _, _, [], _, [], hW', trodAll_mk1 (shut_bool Try.underlying4 _), (trodAll_cons_mk (Below.trod laidOut (by kernel_rfl) (of_decide_eq_true (by kernel_rfl)) k0 bel lt0) (trodAll_cons_mk (Below.trod laidOut (by kernel_rfl) (of_decide_eq_true (by kernel_rfl)) k1 bel lt1) (trodAll_cons_mk (Below.trod laidOut (by kernel_rfl) (of_decide_eq_true (by kernel_rfl)) k2 bel lt2) trodAll_mk0))), rfl, bel.frame _, fun h => by cases h⟩
theorem over : Rows.entropyCopiesRow.holds Try.pinned (OpenSpec.ofChange Rows.entropyCopiesSpec) :=
  OpenClaim.holds_of_wide 5 Try.f5 rfl rfl rfl rfl rfl rfl rfl ⟨rfl, rfl, rfl, rfl, rfl⟩ rfl rfl rfl rfl rfl (by kernel_rfl) Try.func5 (by kernel_rfl)
    (of_decide_eq_true (by kernel_rfl)) (by unfold Func.isWrapper; first | (rw [if_pos (by decide +kernel)]; kernel_rfl) | (rw [if_neg (by decide +kernel)]; exact ⟨rfl, rfl⟩))
    (fun os started H enc _ => lifted os started H enc)
theorem proved : Rows.EntropyCopiesSaid := over
end Go.Proofs.Ytkpbpjmbkhkmnaa
