/- IndexPacks in plain words. -/
import Derived.Test.YtcipfbabjbcfkaaXR
set_option linter.unusedVariables false
set_option linter.unusedSimpArgs false
namespace Go.Proofs.Ytcipfbabjbcfkaa
open Hyp
theorem packs_run {n : Nat} (haw : (F_w20_awake n).run = some true) (hn : 1000 ≤ n) (ca cb : Bool) (a : List Ent) (l : List St) (ha : a.length ≤ 9223372036854775807 ∧ (∀ e ∈ a, e.2.2.1.length < n) ∧ (∀ e ∈ a, e.2.2.1.length ≤ 9223372036854775807) ∧ (∀ e ∈ a, e.2.1.length = 32)) : (F_w20_IndexPacks n ca a cb l).Runs (· = true) := by
  unfold F_w20_IndexPacks
  by_cases hl : 60 < l.length
  · refine R_ite_t (by rw [decide_eq_true_eq]; show (60 : Int) < (l.length : Int); omega) ?_
    refine R_run haw ?_
    exact rfl
  · refine R_ite_f (by rw [decide_eq_false_iff_not]; show ¬ (60 : Int) < (l.length : Int); omega) ?_
    obtain ⟨m, c, g1, g2, g3⟩ := both_run hn ca a ha.1 ha.2.1 ha.2.2.1 ha.2.2.2
    refine R_run g1 ?_
    refine R_sub (keep_run (n := n) (m := m) cb l g3 (by omega) (by omega) (by omega)) fun w hw => ?_
    have hw : w.Perm (m.filter (inP l)) := hw
    have hwl : w.length ≤ 60 := by rw [hw.length_eq]; exact Nat.le_trans (List.length_filter_le _ _) g2
    have hwI := g3.keep hw
    refine R_get _ (ppacks_run (n := n) (m := m) (by omega) g2) ?_
    refine R_get _ (rpacks_run (n := n) c (flat m) (by rw [flat_len]; omega) (by rw [flat_len]; omega) (flat_names g3)) ?_
    have hpl := packs_len ((flat m).map fun e => e.2.2.1)
    rw [List.length_map, flat_len] at hpl
    refine R_get _ (names_run (n := n) (packs ((flat m).map fun e => e.2.2.1)) (by omega) (by omega)) ?_
    refine R_ite_t rfl ?_
    refine R_get _ (plist_run (m := w) hn hwI (by omega)) ?_
    refine R_get _ (rkeep_run c cb l (flat m) (by omega) (by omega) (by rw [flat_len]; omega) (by rw [flat_len]; omega)) ?_
    refine R_get _ (lists_same (m := w) hn false hwI (flat_keep hw) (by omega)) ?_
    refine R_get _ (same_run (srt (flat w)) (by rw [srt_len, flat_len]; omega) (by rw [srt_len, flat_len]; omega)) ?_
    refine R_ite_t rfl ?_
    refine R_get _ (plist_run (m := m) hn g3 (by omega)) ?_
    refine R_get _ (lists_same (m := m) hn c g3 (.refl _) (by omega)) ?_
    refine R_get _ (same_run (srt (flat m)) (by rw [srt_len, flat_len]; omega) (by rw [srt_len, flat_len]; omega)) ?_
    refine R_ite_t rfl ?_
    refine R_get _ haw ?_
    exact rfl
theorem packs_law (ca cb : Bool) (a : List Ent) (l : List St) (ga : KTL.ok a) : (F_w20_IndexPacks (fuel a + 1000) ca a cb l).Runs (· = true) :=
  packs_run (awake_run _) (by omega) ca cb a l (arg_facts ga (by omega))
end Go.Proofs.Ytcipfbabjbcfkaa
