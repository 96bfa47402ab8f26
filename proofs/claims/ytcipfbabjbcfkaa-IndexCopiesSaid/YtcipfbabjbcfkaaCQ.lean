/- IndexCopies in plain words. -/
import Derived.Test.YtcipfbabjbcfkaaCR
set_option linter.unusedVariables false
set_option linter.unusedSimpArgs false
namespace Go.Proofs.Ytcipfbabjbcfkaa
open Hyp
abbrev It := Int × List UInt8 × Int × Int
/-- What a pack's items are known as. -/
def ofI (nm : List UInt8) (e : It) : Ent := (e.1, e.2.1, nm, e.2.2.1, e.2.2.2)
theorem of_loop (n : Nat) (nm : List UInt8) (c : Bool) (l : List It) (hl : l.length ≤ 1000) : ∀ (k i : Nat) (acc : List Ent), acc.length ≤ i → l.length < i + k → i ≤ l.length →
    ∃ r, (F_index_Of_l0 n k nm c l (ln l) (i : Int) acc).run = some r ∧ (match r with | .inl _ => acc | .inr q => q) = acc ++ (l.drop i).map (ofI nm)
  | 0, i, acc, ha, h, h' => by omega
  | k + 1, i, acc, ha, h, h' => by
    unfold F_index_Of_l0
    by_cases hi : i < l.length
    · have e1 : decide ((i : Int) < ln l) = true := by rw [decide_eq_true_eq]; show (i : Int) < (l.length : Int); omega
      simp only [Tree.run, e1, cond_true, getI_at' hi, Option.bind_some, List.set_cons_zero]
      rw [kap (by simp; omega), Option.bind_some, wrap_succ hi (by omega)]
      obtain ⟨r, g1, g2⟩ := of_loop n nm c l hl k (i + 1) (acc ++ [(l[i].1, l[i].2.1, nm, l[i].2.2.1, l[i].2.2.2)]) (by simp; omega) (by omega) hi
      rw [g1]
      have e3 : acc ++ [(l[i].1, l[i].2.1, nm, l[i].2.2.1, l[i].2.2.2)] ++ (l.drop (i + 1)).map (ofI nm) = acc ++ (l.drop i).map (ofI nm) := by
        rw [List.drop_eq_getElem_cons hi, List.map_cons, List.append_assoc]; rfl
      rw [e3] at g2
      cases r with
      | inl u => exact ⟨.inr _, rfl, g2⟩
      | inr q => exact ⟨.inr q, rfl, g2⟩
    · have e1 : decide ((i : Int) < ln l) = false := by rw [decide_eq_false_iff_not]; show ¬ (i : Int) < (l.length : Int); omega
      refine ⟨.inl (), by simp only [Tree.run, e1, cond_false], ?_⟩
      rw [List.drop_eq_nil_iff.2 (by omega), List.map_nil, List.append_nil]
theorem of_run {n : Nat} (nm : List UInt8) (c : Bool) (l : List It) (hl : l.length ≤ 1000) (hn : l.length < n) : (F_index_Of n nm c l).run = some (l.map (ofI nm)) := by
  unfold F_index_Of
  obtain ⟨r, g1, g2⟩ := of_loop n nm c l hl n 0 [] (Nat.le_refl _) (by omega) (by omega)
  rw [List.drop_zero, List.nil_append] at g2
  have g1 : (F_index_Of_l0 n n nm c l (ln l) (0 : Int) []).run = some r := g1
  simp only [Tree.run, g1, Option.bind_some]
  cases r with
  | inl u => exact congrArg some g2
  | inr q => exact congrArg some g2
theorem rof_loop (n : Nat) (nm : List UInt8) (c : Bool) (l : List It) (hl : l.length ≤ 1000) : ∀ (k i : Nat) (acc : List Ent), acc.length ≤ i → l.length < i + k → i ≤ l.length →
    ∃ r, (F_r20_Of_l0 n k nm c l (i : Int) acc).run = some r ∧ (match r with | .inl _ => acc | .inr q => q) = acc ++ (l.drop i).map (ofI nm)
  | 0, i, acc, ha, h, h' => by omega
  | k + 1, i, acc, ha, h, h' => by
    unfold F_r20_Of_l0
    by_cases hi : i < l.length
    · have e1 : decide ((i : Int) < ln l) = true := by rw [decide_eq_true_eq]; show (i : Int) < (l.length : Int); omega
      simp only [Tree.run, e1, cond_true, getI_at' hi, Option.bind_some, List.set_cons_zero]
      rw [kap (by simp; omega), Option.bind_some, wrap_succ hi (by omega)]
      obtain ⟨r, g1, g2⟩ := rof_loop n nm c l hl k (i + 1) (acc ++ [(l[i].1, l[i].2.1, nm, l[i].2.2.1, l[i].2.2.2)]) (by simp; omega) (by omega) hi
      rw [g1]
      have e3 : acc ++ [(l[i].1, l[i].2.1, nm, l[i].2.2.1, l[i].2.2.2)] ++ (l.drop (i + 1)).map (ofI nm) = acc ++ (l.drop i).map (ofI nm) := by
        rw [List.drop_eq_getElem_cons hi, List.map_cons, List.append_assoc]; rfl
      rw [e3] at g2
      cases r with
      | inl u => exact ⟨.inr _, rfl, g2⟩
      | inr q => exact ⟨.inr q, rfl, g2⟩
    · have e1 : decide ((i : Int) < ln l) = false := by rw [decide_eq_false_iff_not]; show ¬ (i : Int) < (l.length : Int); omega
      refine ⟨.inl (), by simp only [Tree.run, e1, cond_false], ?_⟩
      rw [List.drop_eq_nil_iff.2 (by omega), List.map_nil, List.append_nil]
theorem rof_run {n : Nat} (nm : List UInt8) (c : Bool) (l : List It) (hl : l.length ≤ 1000) (hn : l.length < n) : (F_r20_Of n nm c l).run = some (l.map (ofI nm)) := by
  unfold F_r20_Of
  obtain ⟨r, g1, g2⟩ := rof_loop n nm c l hl n 0 [] (Nat.le_refl _) (by omega) (by omega)
  rw [List.drop_zero, List.nil_append] at g2
  have g1 : (F_r20_Of_l0 n n nm c l (0 : Int) []).run = some r := g1
  simp only [Tree.run, g1, Option.bind_some]
  cases r with
  | inl u => exact congrArg some g2
  | inr q => exact congrArg some g2
theorem copy_run {n : Nat} (hn : 1000 ≤ n) {m : Mp} (h : InvM m) (hm : m.length ≤ 60) : (F_index_Index_Copy n m).Runs fun w => w.Perm m := by
  unfold F_index_Index_Copy
  refine R_run (ppacks_run (n := n) (m := m) (by omega) hm) ?_
  have hpl := packs_len ((flat m).map fun e => e.2.2.1)
  rw [List.length_map, flat_len] at hpl
  refine R_sub (keep_run (n := n) (m := m) true (packs ((flat m).map fun e => e.2.2.1)) h (by omega) (by omega) (by omega)) fun w hw => ?_
  have hw : w.Perm (m.filter (inP (packs ((flat m).map fun e => e.2.2.1)))) := hw
  have e : m.filter (inP (packs ((flat m).map fun e => e.2.2.1))) = m := by
    rw [List.filter_eq_self]
    intro p hp
    unfold inP
    rw [decide_eq_true_eq, (packs_ok _).2]
    exact List.mem_map.2 ⟨_, List.mem_map_of_mem hp, rfl⟩
  rw [e] at hw
  exact hw
theorem look_none {k : Int} {id : List UInt8} {l : List Ent} : look k id l = none ↔ ∀ e ∈ l, ¬ (e.1 = k ∧ e.2.1 = id) := by
  unfold look
  rw [Option.map_eq_none_iff, List.find?_eq_none]
  simp
/-- The rest of the law. -/
def rest (n : Nat) (c : Bool) (m : Mp) (lm : List Ent) (w : Mp) (q : Bool × List Ent × Int) (nm : List UInt8) (ci : Bool) (its : List It) : Tree Bool :=
  .get (Tree.run (F_index_Index_List n m)) fun y28 =>
  .get (Tree.run (F_r20_Index_List n c lm)) fun y29 =>
  .get (Tree.run (F_r20_Same n y28 y29)) fun y30 =>
  .ite y30
  (.get (Tree.run (F_index_Index_List n w)) fun y31 =>
  .get (Tree.run (F_r20_Index_List n q.1 q.2.1)) fun y32 =>
  .get (Tree.run (F_r20_Same n y31 y32)) fun y33 =>
  .ite y33
  (.get (Tree.run (F_index_Of n nm ci its)) fun y34 =>
  .get (Tree.run (F_r20_Of n nm ci its)) fun y35 =>
  .get (Tree.run (F_r20_Same n y34 y35)) fun y36 =>
  .ite y36
  (.get (Tree.run (F_w20_awake n)) fun y37 =>
  .ret y37)
  (.ret false))
  (.ret false))
  (.ret false)
theorem rest_run {n : Nat} (haw : (F_w20_awake n).run = some true) (hn : 1000 ≤ n) (c : Bool) {m w : Mp} (hm : InvM m) (hml : m.length ≤ 60) (hw : InvM w) (hwl : w.length ≤ 61) (c2 : Bool) (l2 : List Ent) (e : Int) (hl : l2.Perm (flat w)) (nm : List UInt8) (ci : Bool) (its : List It) (hi : its.length ≤ 60) : (rest n c m (flat m) w (c2, l2, e) nm ci its).Runs (· = true) := by
  unfold rest
  refine R_get _ (plist_run (m := m) hn hm (by omega)) ?_
  refine R_get _ (lists_same (m := m) hn c hm (.refl _) (by omega)) ?_
  refine R_get _ (same_run (srt (flat m)) (by rw [srt_len, flat_len]; omega) (by rw [srt_len, flat_len]; omega)) ?_
  refine R_ite_t rfl ?_
  refine R_get _ (plist_run (m := w) hn hw (by omega)) ?_
  refine R_get _ (lists_same (m := w) hn c2 hw hl (by omega)) ?_
  refine R_get _ (same_run (srt (flat w)) (by rw [srt_len, flat_len]; omega) (by rw [srt_len, flat_len]; omega)) ?_
  refine R_ite_t rfl ?_
  refine R_get _ (of_run nm ci its (by omega) (by omega)) ?_
  refine R_get _ (rof_run nm ci its (by omega) (by omega)) ?_
  refine R_get _ (same_run (its.map (ofI nm)) (by rw [List.length_map]; omega) (by rw [List.length_map]; omega)) ?_
  refine R_ite_t rfl ?_
  refine R_get _ haw ?_
  exact rfl
theorem copies_run {n : Nat} (haw : (F_w20_awake n).run = some true) (hn : 1000 ≤ n) (ca ci : Bool) (a : List Ent) (x : Ent) (nm : List UInt8) (its : List It) (ha : a.length ≤ 9223372036854775807 ∧ (∀ e ∈ a, e.2.2.1.length < n) ∧ (∀ e ∈ a, e.2.2.1.length ≤ 9223372036854775807) ∧ (∀ e ∈ a, e.2.1.length = 32))
    (hx1 : x.2.2.1.length < n) (hx2 : x.2.2.1.length ≤ 9223372036854775807) (hx3 : x.2.1.length = 32) : (F_w20_IndexCopies n ca a x.1 x.2.1 x.2.2.1 x.2.2.2.1 x.2.2.2.2 nm ci its).Runs (· = true) := by
  unfold F_w20_IndexCopies
  by_cases hl : 60 < its.length
  · refine R_ite_t (by rw [decide_eq_true_eq]; show (60 : Int) < (its.length : Int); omega) ?_
    refine R_run haw ?_
    exact rfl
  · refine R_ite_f (by rw [decide_eq_false_iff_not]; show ¬ (60 : Int) < (its.length : Int); omega) ?_
    obtain ⟨m, c, g1, g2, g3⟩ := both_run hn ca a ha.1 ha.2.1 ha.2.2.1 ha.2.2.2
    refine R_run g1 ?_
    refine R_sub (copy_run (n := n) (m := m) hn g3 g2) fun w hw => ?_
    have hw : w.Perm m := hw
    have hwI : InvM w := g3.keep (f := fun _ => true) (by rw [List.filter_eq_self.2 (fun _ _ => rfl)]; exact hw)
    have hwl : w.length ≤ 60 := by rw [hw.length_eq]; exact g2
    have hwf : (flat m).Perm (flat w) := hw.symm.map _
    have e1 := add_run (n := n) (by omega) x.1 x.2.1 x.2.2.1 x.2.2.2.1 x.2.2.2.2 w
    obtain ⟨c', e2⟩ := addr_run (n := n) c (flat m) x.1 x.2.1 x.2.2.1 x.2.2.2.1 x.2.2.2.2 (by rw [flat_len]; exact g2) (by omega) hx1 hx2
    have hln : look x.1 x.2.1 (flat w) = none ↔ look x.1 x.2.1 (flat m) = none := by
      rw [look_none, look_none]
      exact ⟨fun h e he => h e (hwf.mem_iff.1 he), fun h e he => h e (hwf.mem_iff.2 he)⟩
    cases hr : right x.1 x.2.2.1 x.2.2.2.1 x.2.2.2.2 with
    | false =>
      rw [hr] at e1 e2
      refine R_run e1 ?_
      refine R_run e2 ?_
      exact rest_run haw hn c g3 g2 hwI (by omega) c' (flat m) 1 hwf nm ci its (by omega)
    | true =>
      rw [hr] at e1 e2
      cases hlk : look x.1 x.2.1 (flat m) with
      | none =>
        rw [hln.2 hlk] at e1
        rw [hlk] at e2
        refine R_run e1 ?_
        refine R_run e2 ?_
        refine rest_run haw hn c g3 g2 (hwI.add hr hx3 (hln.2 hlk)) (by simp; omega) c' (flat m ++ [(x.1, x.2.1, x.2.2.1, x.2.2.2.1, x.2.2.2.2)]) 0 ?_ nm ci its (by omega)
        rw [flat_add]
        exact hwf.append_right _
      | some v =>
        cases hlw : look x.1 x.2.1 (flat w) with
        | none => rw [hln.1 hlw] at hlk; cases hlk
        | some v2 =>
          rw [hlw] at e1
          rw [hlk] at e2
          refine R_run e1 ?_
          refine R_run e2 ?_
          exact rest_run haw hn c g3 g2 hwI (by omega) c' (flat m) 19 hwf nm ci its (by omega)
abbrev KTE : Ty := .rcd (.pair (.sint .i64) (.pair (.arr 32 .u8) (.rcd (.pair .str (.pair (.sint .i64) (.sint .i64))))))
theorem copies_law (ca ci : Bool) (a : List Ent) (x : Ent) (nm : List UInt8) (its : List It) (ga : KTL.ok a) (gx : KTE.ok x) : (F_w20_IndexCopies (fuel a + x.2.2.1.length + 1000) ca a x.1 x.2.1 x.2.2.1 x.2.2.2.1 x.2.2.2.2 nm ci its).Runs (· = true) :=
  copies_run (awake_run _) (by omega) ca ci a x nm its (arg_facts ga (by omega)) (by omega) (Nat.le_trans gx.2.2.1 (by decide)) gx.2.1.1
end Go.Proofs.Ytcipfbabjbcfkaa
