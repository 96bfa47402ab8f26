/- PackSlices: any bytes of any pack are told, in memory of their own, or there are not so many. -/
import Derived.Test.YtcojhmllnhkbnaaDoorAW
import Derived.Test.YtcojhmllnhkbnaaDoorNz
set_option linter.unusedVariables false
set_option linter.unusedSimpArgs false
set_option maxRecDepth 100000
namespace Go.Proofs.YtcojhmllnhkbnaaDoor
open Hyp
theorem up_l0 (n : Nat) : ∀ (k j : Nat) (l : List UInt8) (z : Int), z = l.length → l.length ≤ 9223372036854775807 → j ≤ l.length → l.length < j + k → ∃ r, (F_w19_PackSlices_l0 n k z (j : Int) l).run = some r
  | 0, j, l, z, _, _, h1, h2 => by omega
  | k + 1, j, l, z, hz, hm, h1, h2 => by
    unfold F_w19_PackSlices_l0
    by_cases hj : j < l.length
    · have e1 : decide ((j : Int) < z) = true := by simp; omega
      have e2 : inI l.length (j : Int) = some j := inI_nat hj
      have e3 : gt l (0 + j) = some l[j] := by rw [Nat.zero_add]; exact gt_lt hj
      have e4 : w64 ((j : Int) + 1) = ((j + 1 : Nat) : Int) := w64_succ (by omega)
      obtain ⟨r, hr⟩ := up_l0 n k (j + 1) (List.set l (0 + j) (l[j] + 1)) z (by rw [List.length_set]; exact hz) (by rw [List.length_set]; exact hm) (by rw [List.length_set]; omega) (by rw [List.length_set]; omega)
      refine ⟨r, ?_⟩
      simp only [Tree.run, e1, cond_true, e2, e3, e4, Option.bind_some, hr]
    · have e1 : decide ((j : Int) < z) = false := by simp; omega
      exact ⟨l, by simp only [Tree.run, e1, cond_false]⟩
theorem slices_law (m : Nat) (x0 : List UInt8) (x1 x2 : Int) (g0 : (Ty.list .u8).okW x0) (g1 : (Ty.sint .i64).okW x1) (g2 : (Ty.sint .i64).okW x2) (hm : x0.length < m) :
    (F_w19_PackSlices (m + 600) x0 x1 x2).run = some true := by
  have hl : x0.length ≤ 140737488351232 := by
    have := g0.1.2
    have h2 : x0.length * 1 ≤ 140737488351232 := this
    omega
  have b1 : -9223372036854775808 ≤ x1 ∧ x1 ≤ 9223372036854775807 := g1
  have b2 : -9223372036854775808 ≤ x2 ∧ x2 ≤ 9223372036854775807 := g2
  have e0 : appI 140737488355328 ([] : List UInt8) x0 = some x0 := appI_le (by simp; omega)
  unfold F_w19_PackSlices F_w19_own F_pack_Slice
  by_cases hc : x1 < 0 ∨ x2 < 0 ∨ (x0.length : Int) < x1 ∨ w64 ((x0.length : Int) - x1) < x2
  · have ec : ((decide (x1 < (0 : Int))) || ((decide (x2 < (0 : Int))) || ((decide ((ln x0) < x1)) || (decide ((w64 ((ln x0) - x1)) < x2))))) = true := by
      simp only [Bool.or_eq_true, decide_eq_true_eq]; exact hc
    simp only [Tree.run, e0, Option.bind_some, ec, cond_true, awake19]
    rfl
  · have ec : ((decide (x1 < (0 : Int))) || ((decide (x2 < (0 : Int))) || ((decide ((ln x0) < x1)) || (decide ((w64 ((ln x0) - x1)) < x2))))) = false := by
      rw [Bool.eq_false_iff]
      intro h
      simp only [Bool.or_eq_true, decide_eq_true_eq] at h
      exact hc h
    have h1 : 0 ≤ x1 := by omega
    have h2 : 0 ≤ x2 := by omega
    have h3 : x1 ≤ x0.length := by omega
    have e3 : w64 ((x0.length : Int) - x1) = x0.length - x1 := w64_id (by omega) (by omega)
    have h4 : x2 ≤ x0.length - x1 := by rw [e3] at hc; omega
    have e4 : w64 (x1 + x2) = x1 + x2 := w64_id (by omega) (by omega)
    obtain ⟨z, hz⟩ : ∃ z, subI x0 x1 (x1 + x2) = some z := ⟨_, subI_int h1 (by omega) (by omega)⟩
    obtain ⟨a, b, ha, hb, hab, hbl, hzl⟩ := subI_some hz
    have hlen : z.length ≤ x0.length := by rw [hzl]; simp; omega
    have e5 : appI 140737488355328 ([] : List UInt8) z = some z := appI_le (by simp; omega)
    obtain ⟨r, hr⟩ := up_l0 (m + 600) (m + 600) 0 z (z.length : Int) rfl (by omega) (by omega) (by omega)
    have hr : (F_w19_PackSlices_l0 (m + 600) (m + 600) (ln z) (0 : Int) z).run = some r := hr
    simp only [Tree.run, e0, Option.bind_some, ec, cond_false, e4, hz, e5, hr, awake19]
    simp
end Go.Proofs.YtcojhmllnhkbnaaDoor
