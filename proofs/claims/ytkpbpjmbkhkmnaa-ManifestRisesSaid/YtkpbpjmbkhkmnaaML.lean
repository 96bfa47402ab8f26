/- ManifestAccepts and ManifestRises in plain words: what the printed functions come to. -/
import Derived.Test.YtkpbpjmbkhkmnaaMA
import Derived.Test.YtkpbpjmbkhkmnaaNd
set_option linter.unusedVariables false
set_option linter.unusedSimpArgs false
namespace Go.Proofs.Ytkpbpjmbkhkmnaa
open Hyp
theorem wrap_id {n : Int} (h1 : -9223372036854775808 ≤ n) (h2 : n ≤ 9223372036854775807) : Go.IntKind.wrap Go.IntKind.i64 n = n := Hyp.wrapSelf ⟨h1, h2⟩
theorem awake_run : (F_hypogeumlaw23_awake 1000).run = some true := by kernel_rfl
/-- May these be a generation and a stamp? -/
def mayBe (g s : Int) : Prop := 1 ≤ g ∧ g ≤ 1099511627776 ∧ 1 ≤ s ∧ s ≤ 1099511627776
instance (g s : Int) : Decidable (mayBe g s) := by unfold mayBe; infer_instance
theorem right_run (g s : Int) : (F_hypogeumref23_Right 1000 g s 1 1).run = some (decide (mayBe g s)) := by
  have h0 : (F_hypogeumref23_Right_l0 1000 1000 0 g s 1 1 [] []).run = some (.inr ()) := by kernel_rfl
  have h2 : (F_hypogeumref23_Right_l2 1000 1000 0 g s 1 1 [] []).run = some (.inr ()) := by kernel_rfl
  unfold F_hypogeumref23_Right mayBe
  simp only [Tree.run, h0, h2, Option.bind_some]
  have hc : (decide (g < 1) || (decide ((1099511627776 : Int) < g) || (decide (s < 1) || (decide ((1099511627776 : Int) < s) || (decide ((1 : Int) < 1) || (decide ((64 : Int) < 1) || (decide ((1 : Int) < 1) || decide ((1099511627776 : Int) < 1)))))))) = !decide (1 ≤ g ∧ g ≤ 1099511627776 ∧ 1 ≤ s ∧ s ≤ 1099511627776) := by
    rw [Bool.eq_iff_iff]
    simp only [Bool.or_eq_true, decide_eq_true_eq, Bool.not_eq_true', decide_eq_false_iff_not]
    omega
  rw [hc]
  cases decide (1 ≤ g ∧ g ≤ 1099511627776 ∧ 1 ≤ s ∧ s ≤ 1099511627776) <;> rfl
/-- Whether a cell accepts, and the cell behind. -/
def acc (g s u g' s' : Int) : Int × Int × Int × Int :=
  if g' = g ∧ s' = s then (g, s, u, 0) else if g < 1099511627776 ∧ g' = g + 1 ∧ s < s' ∧ s' ≤ u then (g', s', u, 0) else (0, 0, 0, 15)
theorem accept_run {g s u g' s' : Int} (h1 : 0 ≤ g) (h2 : g ≤ 1099511627776) : (F_manifest_Accept 1000 g s u g' s').run = some (acc g s u g' s') := by
  unfold F_manifest_Accept acc
  rw [wrap_id (by omega) (by omega)]
  simp only [Tree.run, Bool.cond_eq_ite, eqV_iff, Prod.mk.injEq, and_true, Bool.and_eq_true, decide_eq_true_eq]
  by_cases ha : g' = g ∧ s' = s
  · rw [if_pos ha, if_pos ha]
  · rw [if_neg ha, if_neg ha]
    by_cases hb : g < 1099511627776 ∧ g' = g + 1 ∧ s < s' ∧ s' ≤ u
    · rw [if_pos hb, if_pos hb]
    · rw [if_neg hb, if_neg hb]
theorem accept_ref {g s u g' s' : Int} (h1 : 0 ≤ g) (h2 : g ≤ 1099511627776) (h3 : 1 ≤ g') (h4 : g' ≤ 1099511627776) : (F_hypogeumref23_Accept 1000 g s u g' s').run = some (acc g s u g' s') := by
  unfold F_hypogeumref23_Accept acc
  rw [wrap_id (by omega) (by omega)]
  simp only [Tree.run, Bool.cond_eq_ite, Bool.and_eq_true, decide_eq_true_eq]
  by_cases ha : g' = g ∧ s' = s
  · rw [if_pos ha, if_pos ha]
  · rw [if_neg ha, if_neg ha]
    by_cases hb : g < 1099511627776 ∧ g' = g + 1 ∧ s < s' ∧ s' ≤ u
    · rw [if_pos hb, if_pos (by omega)]
    · rw [if_neg hb, if_neg (by omega)]
theorem accepts_run (g s u g' s' : Int) : (F_hypogeumlaw23_ManifestAccepts 1000 g s u g' s').run = some true := by
  unfold F_hypogeumlaw23_ManifestAccepts
  simp only [Tree.run, right_run, Option.bind_some, awake_run]
  by_cases hm : mayBe g' s'
  · by_cases hc : 0 ≤ g ∧ g ≤ 1099511627776 ∧ 0 ≤ s ∧ 0 ≤ u
    · have hm' := hm
      unfold mayBe at hm'
      simp only [accept_run hc.1 hc.2.1, accept_ref hc.1 hc.2.1 hm'.1 hm'.2.1, Option.bind_some]
      have he : eqV (.rcd (.pair (.sint .i64) (.pair (.sint .i64) (.sint .i64)))) ((acc g s u g' s').1, ((acc g s u g' s').2.1, (acc g s u g' s').2.2.1)) ((acc g s u g' s').1, ((acc g s u g' s').2.1, (acc g s u g' s').2.2.1)) = true := (eqV_iff _ _ _).2 rfl
      rw [he]
      cases (!decide (mayBe g' s') || (decide (g < 0) || (decide ((1099511627776 : Int) < g) || (decide (s < 0) || decide (u < 0))))) <;> simp
    · have : (!decide (mayBe g' s') || (decide (g < 0) || (decide ((1099511627776 : Int) < g) || (decide (s < 0) || decide (u < 0))))) = true := by
        simp only [Bool.or_eq_true, decide_eq_true_eq]; omega
      rw [this]; rfl
  · have : (!decide (mayBe g' s') || (decide (g < 0) || (decide ((1099511627776 : Int) < g) || (decide (s < 0) || decide (u < 0))))) = true := by simp [hm]
    rw [this]; rfl
theorem rises_run (g s u g' s' o l : Int) : (F_hypogeumlaw23_ManifestRises 1000 g s u g' s' o l).run = some true := by
  unfold F_hypogeumlaw23_ManifestRises
  simp only [Tree.run, right_run, Option.bind_some, awake_run]
  by_cases hm : mayBe g' s'
  · have hm' := hm
    unfold mayBe at hm'
    rw [show (!decide (mayBe g' s')) = false by simp [hm], cond_false]
    by_cases hc : mayBe o l ∧ 0 ≤ g ∧ g ≤ 1099511627776 ∧ 0 ≤ s ∧ 0 ≤ u
    · obtain ⟨ho0, hg1, hg2, hs0, hu0⟩ := hc
      have hb : (!decide (mayBe o l) || (decide (g < 0) || (decide ((1099511627776 : Int) < g) || (decide (s < 0) || decide (u < 0))))) = false := by
        simp only [Bool.or_eq_false_iff, decide_eq_false_iff_not, Bool.not_eq_false', decide_eq_true_eq]
        refine ⟨ho0, ?_⟩
        omega
      have ho := ho0
      unfold mayBe at ho
      simp only [hb, cond_false, accept_run hg1 hg2, Option.bind_some]
      have key : ∀ a : Int × Int × Int × Int, acc g s u g' s' = a → (a = (0, 0, 0, 15) ∧ True) ∨ (a.2.2.2 = 0 ∧ 0 ≤ a.1 ∧ a.1 ≤ 1099511627776 ∧ g ≤ a.1 ∧ s ≤ a.2.1 ∧ a.2.2.1 = u ∧ a.1 = g' ∧ a.2.1 = s') := by
        rintro a rfl
        unfold acc
        by_cases h1 : g' = g ∧ s' = s
        · rw [if_pos h1]
          exact .inr ⟨rfl, hg1, hg2, Int.le_refl _, Int.le_refl _, rfl, h1.1.symm, h1.2.symm⟩
        · rw [if_neg h1]
          by_cases h2 : g < 1099511627776 ∧ g' = g + 1 ∧ s < s' ∧ s' ≤ u
          · rw [if_pos h2]
            exact .inr ⟨rfl, by show 0 ≤ g'; omega, by show g' ≤ _; omega, by show g ≤ g'; omega, by show s ≤ s'; omega, rfl, rfl, rfl⟩
          · rw [if_neg h2]
            exact .inl ⟨rfl, trivial⟩
      rcases key _ rfl with ⟨ha, _⟩ | ⟨h0, h1, h2, h3, h4, h5, h6, h7⟩
      · rw [ha]; rfl
      · generalize acc g s u g' s' = a at *
        obtain ⟨ag, ast, au, ae⟩ := a
        simp only at h0 h1 h2 h3 h4 h5 h6 h7
        subst h0; subst h5; subst h6; subst h7
        have e1 : acc ag ast au ag ast = (ag, ast, au, 0) := by unfold acc; rw [if_pos ⟨rfl, rfl⟩]
        simp only [accept_run h1 h2, Option.bind_some, e1]
        have e2 : eqV (.rcd (.pair (.sint .i64) (.pair (.sint .i64) (.sint .i64)))) (ag, (ast, au)) (ag, (ast, au)) = true := (eqV_iff _ _ _).2 rfl
        simp only [e2]
        have e3 : decide (ag < g) = false := by simp; omega
        have e4 : decide (ast < s) = false := by simp; omega
        simp only [e3, e4, decide_true, Bool.not_true, Bool.or_false, cond_false]
        by_cases h8 : ag < o
        · simp [h8]
        · simp only [h8, decide_false, cond_false]
          by_cases h9 : o = ag ∧ l = ast
          · have e5 : acc ag ast au o l = (ag, ast, au, 0) := by unfold acc; rw [if_pos h9]
            simp [e5, h9.1, h9.2]
          · have e5 : acc ag ast au o l = (0, 0, 0, 15) := by
              unfold acc
              rw [if_neg h9, if_neg (by omega)]
            simp [e5]
    · have hb : (!decide (mayBe o l) || (decide (g < 0) || (decide ((1099511627776 : Int) < g) || (decide (s < 0) || decide (u < 0))))) = true := by
        simp only [Bool.or_eq_true, decide_eq_true_eq, Bool.not_eq_true', decide_eq_false_iff_not]
        by_cases hq : mayBe o l
        · have : ¬ (0 ≤ g ∧ g ≤ 1099511627776 ∧ 0 ≤ s ∧ 0 ≤ u) := fun h => hc ⟨hq, h⟩
          omega
        · exact .inl hq
      simp [hb]
  · rw [show (!decide (mayBe g' s')) = true by simp [hm]]
    rfl
end Go.Proofs.Ytkpbpjmbkhkmnaa
