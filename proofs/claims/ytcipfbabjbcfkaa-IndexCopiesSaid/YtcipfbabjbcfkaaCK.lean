/- The laws of the index in plain words: in which packs blobs lie, and what is known of some. -/
import Derived.Test.YtcipfbabjbcfkaaCP
set_option linter.unusedVariables false
set_option linter.unusedSimpArgs false
namespace Go.Proofs.Ytcipfbabjbcfkaa
open Hyp
theorem idx_loop (n : Nat) (c : Bool) (l : List St) (x : St) (hl : l.length ≤ 100000) : ∀ (k i : Nat), l.length < i + k → i ≤ l.length →
    ∃ r, (F_slices_Index___string_string__l0 n k x (ln l) (i : Int) l).run = some r ∧ (match r with | .inl j => 0 ≤ j ∧ x ∈ l.drop i | .inr _ => x ∉ l.drop i)
  | 0, i, h, h' => by omega
  | k + 1, i, h, h' => by
    unfold F_slices_Index___string_string__l0
    by_cases hi : i < l.length
    · have e1 : decide ((i : Int) < ln l) = true := by rw [decide_eq_true_eq]; show (i : Int) < (l.length : Int); omega
      rw [List.drop_eq_getElem_cons hi]
      have e2 : l[0 + i]? = some l[i] := by rw [Nat.zero_add]; exact List.getElem?_eq_getElem hi
      simp only [Tree.run, e1, cond_true, inI_nat hi, e2, Option.bind_some]
      by_cases hx : x = l[i]
      · rw [decide_eq_true hx, cond_true]
        exact ⟨.inl (i : Int), rfl, by omega, by rw [hx]; exact .head _⟩
      · rw [decide_eq_false hx, cond_false, wrap_succ hi (by omega)]
        obtain ⟨r, g1, g2⟩ := idx_loop n c l x hl k (i + 1) (by omega) hi
        rw [g1]
        cases r with
        | inl j => exact ⟨.inl j, rfl, g2.1, .tail _ g2.2⟩
        | inr u => exact ⟨.inr (), rfl, fun h => by
            rcases List.mem_cons.1 h with h | h
            · exact hx h
            · exact g2 h⟩
    · have e1 : decide ((i : Int) < ln l) = false := by rw [decide_eq_false_iff_not]; show ¬ (i : Int) < (l.length : Int); omega
      refine ⟨.inr (), by simp only [Tree.run, e1, cond_false], ?_⟩
      rw [List.drop_eq_nil_iff.2 (by omega)]
      exact List.not_mem_nil
theorem contains_run {n : Nat} (c : Bool) (l : List St) (x : St) (hn : l.length < n) (hl : l.length ≤ 100000) : (F_slices_Contains___string_string_ n x l).run = some (decide (x ∈ l)) := by
  unfold F_slices_Contains___string_string_ F_slices_Index___string_string_
  obtain ⟨r, g1, g2⟩ := idx_loop n c l x hl n 0 (by omega) (by omega)
  rw [show ((0 : Nat) : Int) = (0 : Int) from rfl] at g1
  simp only [Tree.run, g1, Option.bind_some]
  rw [List.drop_zero] at g2
  cases r with
  | inl j =>
    rw [decide_eq_true g2.2]
    show some (decide ((0 : Int) ≤ j)) = _
    rw [decide_eq_true g2.1]
  | inr u =>
    rw [decide_eq_false g2]
    rfl
/-- Whether it lies in one of them. -/
def inP (l : List St) (p : (Int × List UInt8) × List UInt8 × Int × Int) : Bool := decide (p.2.1 ∈ l)
theorem keep_loop {n : Nat} (c : Bool) (l : List St) (z : Mp) (hn : l.length < n) (hl : l.length ≤ 100000) : ∀ (k : Nat) (acc rest : Mp), rest.length < k → ((acc ++ rest).map (·.1)).Nodup →
    (F_index_Index_Keep_l0 n k l acc rest z).Runs fun r => ∃ w : Mp, (match r with | .inl _ => acc | .inr q => q.1) = acc ++ w ∧ w.Perm (rest.filter (inP l))
  | 0, acc, rest, h, h2 => by omega
  | k + 1, acc, [], h, h2 => ⟨fun _ => ⟨[], (List.append_nil _).symm, .nil⟩, fun h => by cases h⟩
  | k + 1, acc, p0 :: rest0, h, h2 => by
    refine ⟨fun h => (Bool.false_ne_true h).elim, fun _ => ?_⟩
    rintro ⟨p, rest⟩ hp
    have hp : (p :: rest).Perm (p0 :: rest0) := hp
    have hlen : rest.length = rest0.length := by have := hp.length_eq; simpa using this
    simp only [List.length_cons] at h
    have hnd : ((acc ++ p :: rest).map (·.1)).Nodup := ((hp.append_left acc).map _).nodup_iff.2 h2
    refine R_run (contains_run c l p.2.1 hn hl) ?_
    by_cases hc : p.2.1 ∈ l
    · have hnew : mget KT VT acc p.1 = none := by
        rw [mget_none]
        intro q hq e
        rw [List.map_append, List.nodup_append] at hnd
        exact hnd.2.2 p.1 (by rw [← e]; exact List.mem_map_of_mem hq) p.1 (by simp) rfl
      have hput : mput KT VT acc (p.1.1, p.1.2) (p.2.1, (p.2.2.1, p.2.2.2)) = acc ++ [p] := mput_new (kt := KT) (vt := VT) (v := p.2) hnew
      refine R_ite_t (decide_eq_true hc) ?_
      refine R_sub (P := fun r => ∃ w : Mp, (match r with | .inl _ => acc ++ [p] | .inr q => q.1) = acc ++ [p] ++ w ∧ w.Perm (rest.filter (inP l))) ?_ ?_
      · show (F_index_Index_Keep_l0 n k l (mput KT VT acc (p.1.1, p.1.2) (p.2.1, (p.2.2.1, p.2.2.2))) rest z).Runs _
        rw [hput]
        exact keep_loop c l z hn hl k (acc ++ [p]) rest (by omega) (by rw [List.append_assoc]; exact hnd)
      · intro r hr
        obtain ⟨w, g1, g2⟩ := hr
        have hw : (p :: w).Perm ((p0 :: rest0).filter (inP l)) := by
          refine List.Perm.trans ?_ (hp.filter _)
          rw [List.filter_cons_of_pos (by exact decide_eq_true hc)]
          exact g2.cons p
        cases r with
        | inl u => exact ⟨p :: w, hput.trans ((show acc ++ [p] = acc ++ [p] ++ w from g1).trans (by rw [List.append_assoc]; rfl)), hw⟩
        | inr q => exact ⟨p :: w, (show q.1 = acc ++ [p] ++ w from g1).trans (by rw [List.append_assoc]; rfl), hw⟩
    · refine R_ite_f (decide_eq_false hc) ?_
      refine R_sub (keep_loop c l z hn hl k acc rest (by omega) ?_) ?_
      · refine hnd.sublist (List.Sublist.map _ ?_)
        exact List.Sublist.append (List.Sublist.refl _) (List.sublist_cons_self _ _)
      · intro r hr
        obtain ⟨w, g1, g2⟩ := hr
        have hw : w.Perm ((p0 :: rest0).filter (inP l)) := by
          refine List.Perm.trans ?_ (hp.filter _)
          rw [List.filter_cons_of_neg (by unfold inP; rw [decide_eq_false hc]; decide)]
          exact g2
        cases r with
        | inl u => exact ⟨w, g1, hw⟩
        | inr q => exact ⟨w, g1, hw⟩
theorem keep_run {n : Nat} (c : Bool) (l : List St) {m : Mp} (h : InvM m) (hm : m.length < n) (hn : l.length < n) (hl : l.length ≤ 100000) : (F_index_Index_Keep n m l).Runs fun w => w.Perm (m.filter (inP l)) := by
  unfold F_index_Index_Keep
  refine R_run (a := ()) rfl ?_
  refine R_sub (keep_loop c l m hn hl n [] m hm h.nd) fun r hr => ?_
  obtain ⟨w, g1, g2⟩ := hr
  cases r with
  | inl u =>
    show List.Perm _ _
    rw [show ([] : Mp) = w from g1]; exact g2
  | inr q =>
    show List.Perm _ _
    rw [show q.1 = w from g1]; exact g2
theorem InvM.keep {m w : Mp} (h : InvM m) {f : (Int × List UInt8) × List UInt8 × Int × Int → Bool} (hw : w.Perm (m.filter f)) : InvM w where
  nd := (hw.map _).nodup_iff.2 (h.nd.sublist (List.filter_sublist.map _))
  ok p hp := h.ok p (List.mem_filter.1 (hw.mem_iff.1 hp)).1
end Go.Proofs.Ytcipfbabjbcfkaa
