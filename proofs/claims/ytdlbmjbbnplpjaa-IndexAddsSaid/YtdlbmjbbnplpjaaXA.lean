/- IndexAdds in plain words. -/
import Derived.Test.YtdlbmjbbnplpjaaXL
set_option linter.unusedVariables false
set_option linter.unusedSimpArgs false
namespace Go.Proofs.Ytdlbmjbbnplpjaa
open Hyp
theorem adds_run {n : Nat} (hA : (F_w20_awake n).run = some true) (hn : 1000 ≤ n) (c : Bool) (xs : List Ent) (kd : Int) (id : List UInt8) (hxs : xs.length ≤ 9223372036854775807) (hx1 : ∀ e ∈ xs, e.2.2.1.length < n) (hx2 : ∀ e ∈ xs, e.2.2.1.length ≤ 9223372036854775807) (hx3 : ∀ e ∈ xs, e.2.1.length = 32) :
    (F_w20_IndexAdds n c xs kd id).run = some true := by
  obtain ⟨m, c', g1, g2, g3⟩ := both_run hn c xs hxs hx1 hx2 hx3
  have f1 := find_run (n := n) kd c' (flat m) id (by rw [flat_len]; omega) (by rw [flat_len]; omega)
  have f2 : mget KT VT m (kd, id) = look kd id (flat m) := mget_look kd id m
  have l1 := plist_run hn g3 (by omega)
  have l2 := lists_same hn c' g3 (List.Perm.refl _) (by omega)
  have l3 := same_run (n := n) (srt (flat m)) (by rw [srt_len, flat_len]; omega) (by rw [srt_len, flat_len]; omega)
  have l4 : (F_index_Index_Len n m).run = some (m.length : Int) := rfl
  have l5 : decide (((m.length : Nat) : Int) = ((flat m).length : Int)) = true := by rw [flat_len]; simp
  obtain ⟨q, p1, p2, p3⟩ : ∃ q : List UInt8 × Int × Int × Bool, (F_index_Index_Find n kd id m).run = some q ∧ (F_r20_Index_Find n c' (flat m) kd id).run = some q ∧ True := by
    refine ⟨_, ?_, f1, trivial⟩
    unfold F_index_Index_Find mgetD
    rw [show (mget T1 T2 m (kd, id)) = look kd id (flat m) from f2]
    cases look kd id (flat m) <;> rfl
  have e3 : ∀ t : Ty, ∀ x : t.den, eqV t x x = true := fun t x => eqV_self
  have e4 : (q.2.2.2 == q.2.2.2) = true := beq_self_eq_true _
  unfold F_w20_IndexAdds
  by_cases h0 : 0 < xs.length
  · have e1 : decide ((0 : Int) < (xs.length : Int)) = true := by simp; omega
    have e2 : getI xs (0 : Int) = some xs[0] := getI_at' (j := 0) h0
    have r1 := right_run (n := n) (by omega) xs[0].1 xs[0].2.2.1 xs[0].2.2.2.1 xs[0].2.2.2.2
    have r2 := right_ref (n := n) xs[0].1 xs[0].2.2.1 xs[0].2.2.2.1 xs[0].2.2.2.2 (hx1 _ (List.getElem_mem h0)) (hx2 _ (List.getElem_mem h0))
    have e5 : (!(right xs[0].1 xs[0].2.2.1 xs[0].2.2.2.1 xs[0].2.2.2.2 == right xs[0].1 xs[0].2.2.1 xs[0].2.2.2.1 xs[0].2.2.2.2)) = false := by rw [beq_self_eq_true]; rfl
    simp only [Tree.run, g1, Option.bind_some, p1, p2, e1, cond_true, e2, r1, r2]
    simp only [e5, cond_false, l1, l2, l3, Option.bind_some, cond_true, l4, l5, e3, e4, hA]
  · have e1 : decide ((0 : Int) < (xs.length : Int)) = false := decide_eq_false (by omega)
    simp only [Tree.run, g1, Option.bind_some, p1, p2, e1, cond_false]
    simp only [cond_false, l1, l2, l3, Option.bind_some, cond_true, l4, l5, e3, e4, hA]
theorem adds_law (c : Bool) (xs : List Ent) (kd : Int) (id : List UInt8) (g : KTL.ok xs) : (F_w20_IndexAdds (fuel xs + 1000) c xs kd id).run = some true := by
  obtain ⟨h1, h2, h3, h4⟩ := arg_facts g (Nat.le_refl _)
  exact adds_run (awake_run _) (by omega) c xs kd id h1 h2 h3 h4
end Go.Proofs.Ytdlbmjbbnplpjaa
