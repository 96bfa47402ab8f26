/- The laws of the index in plain words: the packs, once each, in order. -/
import Derived.Test.YtcipfbabjbcfkaaXK
set_option linter.unusedVariables false
set_option linter.unusedSimpArgs false
namespace Go.Proofs.Ytcipfbabjbcfkaa
open Hyp
theorem cAux_len : ∀ (l : List St) (p : St), (cAux p l).length ≤ l.length
  | [], p => Nat.le_refl _
  | x :: l, p => by
    rw [cAux_cons]
    have := cAux_len l x
    split
    · exact Nat.le_succ_of_le this
    · exact Nat.succ_le_succ this
theorem compact_len (l : List St) : (Go.Lib.compact l).length ≤ l.length := by
  cases l with
  | nil => exact Nat.le_refl _
  | cons a l => rw [compact_eq]; exact Nat.succ_le_succ (cAux_len l a)
/-- The packs of what is listed. -/
def packs (l : List St) : List St := Go.Lib.compact (l.mergeSort fun x y => decide (x ≤ y))
theorem packs_len (l : List St) : (packs l).length ≤ l.length := Nat.le_trans (compact_len _) (Nat.le_of_eq (List.length_mergeSort _))
theorem packs_ok (l : List St) : Str (packs l) ∧ ∀ y, y ∈ packs l ↔ y ∈ l := by
  have h := List.pairwise_mergeSort (le := fun x y : List UInt8 => decide (x ≤ y)) (fun a b c h1 h2 => by
    simp only [decide_eq_true_eq] at h1 h2 ⊢; exact List.le_trans h1 h2) (fun a b => by
    simp only [Bool.or_eq_true, decide_eq_true_eq]; exact List.le_total a b) l
  have ha : Asc (l.mergeSort fun x y => decide (x ≤ y)) := h.imp fun {a b} h => by simpa using h
  obtain ⟨h1, h2⟩ := compact_ok ha
  exact ⟨h1, fun y => (h2 y).trans (List.mergeSort_perm _ _).mem_iff⟩
theorem ppacks_run {n : Nat} {m : Mp} (hm : m.length < n) (h : m.length ≤ 60) : (F_index_Index_Packs n m).run = some (packs ((flat m).map fun e => e.2.2.1)) := by
  unfold F_index_Index_Packs D_packs
  rw [if_pos ⟨hm, by omega⟩]
  have e : ((flat m).map fun e => e.2.2.1) = m.map fun p => p.2.1 := by unfold flat; rw [List.map_map]; rfl
  rw [e]
  unfold sortI compactI
  rw [if_pos (by rw [List.length_map]; omega)]
  simp only [Tree.run, Option.bind_some, Option.bind]
  rw [if_pos (by rw [List.length_mergeSort, List.length_map]; omega)]
  rfl
/-- The least behind one. -/
def mn (last : St) : St → List Ent → St
  | best, [] => best
  | best, e :: l => if last < e.2.2.1 ∧ (best = [] ∨ e.2.2.1 < best) then mn last e.2.2.1 l else mn last best l
theorem mn_cons (last best : St) (e : Ent) (l : List Ent) : mn last best (e :: l) = if last < e.2.2.1 ∧ (best = [] ∨ e.2.2.1 < best) then mn last e.2.2.1 l else mn last best l := rfl
theorem strLt_eq (x y : St) : strLt x y = decide (x < y) := Go.Proofs.bytesLess_eq x y
theorem min_loop {n : Nat} (c : Bool) (l : List Ent) (hl : l.length ≤ 100000) (last : St) : ∀ (k i : Nat) (best : St), l.length < i + k → i ≤ l.length →
    (F_r20_Index_Packs_l2 n k last best (i : Int) c l).run = some (mn last best (l.drop i))
  | 0, i, best, h, h' => by omega
  | k + 1, i, best, h, h' => by
    unfold F_r20_Index_Packs_l2
    by_cases hi : i < l.length
    · have e1 : decide ((i : Int) < ln l) = true := by rw [decide_eq_true_eq]; show (i : Int) < (l.length : Int); omega
      have e2 : ((!((strLt l[i].2.2.1 last) || (decide (l[i].2.2.1 = last)))) && ((decide (best = ([] : List UInt8))) || (strLt l[i].2.2.1 best))) = decide (last < l[i].2.2.1 ∧ (best = [] ∨ l[i].2.2.1 < best)) := by
        rw [strLt_eq, strLt_eq, Bool.eq_iff_iff]
        simp only [Bool.and_eq_true, Bool.or_eq_true, Bool.not_eq_true', Bool.or_eq_false_iff, decide_eq_true_eq, decide_eq_false_iff_not]
        refine and_congr ⟨fun ⟨h1, h2⟩ => ?_, fun h => ⟨fun h2 => List.lt_irrefl _ (List.lt_trans h h2), fun h2 => by rw [h2] at h; exact List.lt_irrefl _ h⟩⟩ Iff.rfl
        exact lt_of_le_ne h1 (fun e => h2 e.symm)
      simp only [Tree.run, e1, cond_true, getI_at' hi, Option.bind_some, e2]
      rw [List.drop_eq_getElem_cons hi, mn_cons, wrap_succ hi (by omega)]
      by_cases hc : last < l[i].2.2.1 ∧ (best = [] ∨ l[i].2.2.1 < best)
      · rw [decide_eq_true hc, cond_true, if_pos hc, min_loop c l hl last k (i + 1) _ (by omega) hi]; rfl
      · rw [decide_eq_false hc, cond_false, if_neg hc, min_loop c l hl last k (i + 1) _ (by omega) hi]; rfl
    · have e1 : decide ((i : Int) < ln l) = false := by rw [decide_eq_false_iff_not]; show ¬ (i : Int) < (l.length : Int); omega
      simp only [Tree.run, e1, cond_false]
      rw [List.drop_eq_nil_iff.2 (by omega)]
      rfl
theorem mn_spec (last : St) : ∀ (l : List Ent) (best : St), (∀ e ∈ l, e.2.2.1 ≠ []) → (best = [] ∨ last < best) →
    (mn last best l = [] → best = [] ∧ ∀ e ∈ l, ¬ last < e.2.2.1) ∧ (mn last best l ≠ [] → last < mn last best l ∧ (mn last best l = best ∨ ∃ e ∈ l, e.2.2.1 = mn last best l) ∧ (best ≠ [] → mn last best l ≤ best) ∧ ∀ e ∈ l, last < e.2.2.1 → mn last best l ≤ e.2.2.1)
  | [], best, hne, hb => ⟨fun h => ⟨h, fun e he => (List.not_mem_nil he).elim⟩, fun h => ⟨hb.resolve_left h, .inl rfl, fun _ => List.le_refl _, fun e he => (List.not_mem_nil he).elim⟩⟩
  | x :: l, best, hne, hb => by
    rw [mn_cons]
    have hx := hne x (.head _)
    have hne' : ∀ e ∈ l, e.2.2.1 ≠ [] := fun e he => hne e (.tail _ he)
    by_cases hc : last < x.2.2.1 ∧ (best = [] ∨ x.2.2.1 < best)
    · rw [if_pos hc]
      obtain ⟨g1, g2⟩ := mn_spec last l x.2.2.1 hne' (.inr hc.1)
      refine ⟨fun h => absurd (g1 h).1 hx, fun h => ?_⟩
      obtain ⟨q1, q2, q3, q4⟩ := g2 h
      refine ⟨q1, .inr ?_, fun hb => ?_, fun e he hl => ?_⟩
      · rcases q2 with q2 | ⟨e, he, q2⟩
        · exact ⟨x, .head _, q2.symm⟩
        · exact ⟨e, .tail _ he, q2⟩
      · exact List.le_trans (q3 hx) (List.le_of_lt (hc.2.resolve_left hb))
      · rcases List.mem_cons.1 he with rfl | he
        · exact q3 hx
        · exact q4 e he hl
    · rw [if_neg hc]
      obtain ⟨g1, g2⟩ := mn_spec last l best hne' hb
      refine ⟨fun h => ?_, fun h => ?_⟩
      · obtain ⟨q1, q2⟩ := g1 h
        refine ⟨q1, fun e he => ?_⟩
        rcases List.mem_cons.1 he with rfl | he
        · exact fun hl => hc ⟨hl, .inl q1⟩
        · exact q2 e he
      · obtain ⟨q1, q2, q3, q4⟩ := g2 h
        refine ⟨q1, ?_, q3, fun e he hl => ?_⟩
        · rcases q2 with q2 | ⟨e, he, q2⟩
          · exact .inl q2
          · exact .inr ⟨e, .tail _ he, q2⟩
        · rcases List.mem_cons.1 he with rfl | he
          · have hbn : best ≠ [] := fun hb => hc ⟨hl, .inl hb⟩
            have : ¬ e.2.2.1 < best := fun h => hc ⟨hl, .inr h⟩
            exact List.le_trans (q3 hbn) this
          · exact q4 e he hl
def decP (acc : List St) : Unit ⊕ (Unit ⊕ (List St ⊕ List St)) → List St
  | .inl _ => acc
  | .inr (.inl _) => acc
  | .inr (.inr (.inl q)) => q
  | .inr (.inr (.inr q)) => q
theorem rpacks_loop {n : Nat} (c : Bool) (l : List Ent) (hl : l.length ≤ 1000) (hn : l.length < n) (hne : ∀ e ∈ l, e.2.2.1 ≠ []) {T : List St} (hT : Str T) (hm : ∀ y, y ∈ T ↔ y ∈ l.map fun e => e.2.2.1) (hTl : T.length ≤ l.length) :
    ∀ (rest : List St) (k : Nat) (last : St) (out : List St), out ++ rest = T → l.length < out.length + k → (∀ y ∈ out, ¬ last < y) → (∀ y ∈ rest, last < y) → ∃ r, (F_r20_Index_Packs_l0 n k last (out.length : Int) c l out).run = some r ∧ decP out r = T
  | rest, 0, last, out, ho, h, _, _ => by
    have := congrArg List.length ho
    rw [List.length_append] at this
    omega
  | rest, k + 1, last, out, ho, h, h1, h2 => by
    unfold F_r20_Index_Packs_l0
    have hlen := congrArg List.length ho
    rw [List.length_append] at hlen
    by_cases hi : out.length < l.length
    · have e1 : decide ((out.length : Int) < ln l) = true := by rw [decide_eq_true_eq]; show (out.length : Int) < (l.length : Int); omega
      have e2 := min_loop (n := n) c l (by omega) last n 0 [] (by omega) (by omega)
      rw [List.drop_zero, show ((0 : Nat) : Int) = (0 : Int) from rfl] at e2
      obtain ⟨g1, g2⟩ := mn_spec last l [] hne (.inl rfl)
      simp only [Tree.run, e1, cond_true, e2, Option.bind_some]
      by_cases hz : mn last [] l = []
      · rw [decide_eq_true hz, cond_true]
        refine ⟨.inl (), rfl, ?_⟩
        cases rest with
        | nil => rw [List.append_nil] at ho; exact ho
        | cons t rest =>
          exfalso
          have ht : t ∈ T := by rw [← ho]; simp
          obtain ⟨e, he, e3⟩ := List.mem_map.1 ((hm t).1 ht)
          have e3 : e.2.2.1 = t := e3
          exact (g1 hz).2 e he (by rw [e3]; exact h2 t (.head _))
      · rw [decide_eq_false hz, cond_false]
        obtain ⟨q1, q2, q3, q4⟩ := g2 hz
        have hmem : mn last [] l ∈ T := by
          rcases q2 with q2 | ⟨e, he, q2⟩
          · exact absurd q2 hz
          · rw [hm]; exact List.mem_map.2 ⟨e, he, q2⟩
        have hmem2 : mn last [] l ∈ rest := by
          rw [← ho] at hmem
          rcases List.mem_append.1 hmem with h | h
          · exact absurd q1 (h1 _ h)
          · exact h
        cases rest with
        | nil => exact (List.not_mem_nil hmem2).elim
        | cons t rest =>
          have hs : Str (t :: rest) := by
            rw [← ho] at hT
            exact (List.pairwise_append.1 hT).2.1
          have hcr : ∀ y ∈ out, ∀ z ∈ t :: rest, y < z := by
            rw [← ho] at hT
            exact (List.pairwise_append.1 hT).2.2
          have ht : mn last [] l = t := by
            rcases List.mem_cons.1 hmem2 with h | h
            · exact h
            · exfalso
              have hlt := (List.pairwise_cons.1 hs).1 _ h
              have htT : t ∈ T := by rw [← ho]; simp
              obtain ⟨e, he, e3⟩ := List.mem_map.1 ((hm t).1 htT)
              have e3 : e.2.2.1 = t := e3
              have := q4 e he (by rw [e3]; exact h2 t (.head _))
              rw [e3] at this
              exact this hlt
          rw [ht, List.set_cons_zero, sapp (by omega), Option.bind_some, wrap_succ hi (by omega)]
          obtain ⟨r, r1, r2⟩ := rpacks_loop c l hl hn hne hT hm hTl rest k t (out ++ [t]) (by rw [List.append_assoc]; exact ho) (by simp; omega) (fun y hy => by
            rcases List.mem_append.1 hy with hy | hy
            · exact fun h => List.lt_irrefl _ (List.lt_trans h (hcr y hy t (.head _)))
            · rw [List.mem_singleton.1 hy]; exact List.lt_irrefl _) (fun y hy => (List.pairwise_cons.1 hs).1 y hy)
          rw [show ((out ++ [t]).length : Int) = ((out.length + 1 : Nat) : Int) by simp] at r1
          rw [r1]
          rcases r with u | u | q | q
          · exact ⟨_, rfl, r2⟩
          · exact ⟨_, rfl, r2⟩
          · exact ⟨_, rfl, r2⟩
          · exact ⟨_, rfl, r2⟩
    · have e1 : decide ((out.length : Int) < ln l) = false := by rw [decide_eq_false_iff_not]; show ¬ (out.length : Int) < (l.length : Int); omega
      refine ⟨.inr (.inl ()), by simp only [Tree.run, e1, cond_false], ?_⟩
      have : rest = [] := List.eq_nil_of_length_eq_zero (by omega)
      rw [this, List.append_nil] at ho
      exact ho
theorem rpacks_run {n : Nat} (c : Bool) (l : List Ent) (hl : l.length ≤ 1000) (hn : l.length < n) (hne : ∀ e ∈ l, e.2.2.1 ≠ []) : (F_r20_Index_Packs n c l).run = some (packs (l.map fun e => e.2.2.1)) := by
  unfold F_r20_Index_Packs
  obtain ⟨p1, p2⟩ := packs_ok (l.map fun e => e.2.2.1)
  obtain ⟨r, g1, g2⟩ := rpacks_loop c l hl hn hne p1 p2 (by have := packs_len (l.map fun e => e.2.2.1); rwa [List.length_map] at this) _ n [] [] rfl (by simpa using hn) (fun y hy => (List.not_mem_nil hy).elim) (fun y hy => by
    obtain ⟨e, he, e3⟩ := List.mem_map.1 ((p2 y).1 hy)
    have e3 : e.2.2.1 = y := e3
    have := hne e he
    rw [e3] at this
    cases y with
    | nil => exact absurd rfl this
    | cons a y => exact List.nil_lt_cons a y)
  have g1 : (F_r20_Index_Packs_l0 n n [] (0 : Int) c l []).run = some r := g1
  simp only [Tree.run, g1, Option.bind_some]
  rcases r with u | u | q | q
  · exact congrArg some g2
  · exact congrArg some g2
  · exact congrArg some g2
  · exact congrArg some g2
theorem names_loop (n : Nat) (l : List St) (hl : l.length ≤ 100000) : ∀ (k i : Nat), l.length < i + k → i ≤ l.length → (F_r20_SameNames_l0 n k (i : Int) l l).run = some (.inr ())
  | 0, i, h, h' => by omega
  | k + 1, i, h, h' => by
    unfold F_r20_SameNames_l0
    by_cases hi : i < l.length
    · have e1 : decide ((i : Int) < ln l) = true := by rw [decide_eq_true_eq]; show (i : Int) < (l.length : Int); omega
      have e2 : l[0 + i]? = some l[i] := by rw [Nat.zero_add]; exact List.getElem?_eq_getElem hi
      simp only [Tree.run, e1, cond_true, inI_nat hi, Option.bind_some, e2, decide_true, Bool.not_true, cond_false]
      rw [wrap_succ hi (by omega), names_loop n l hl k (i + 1) (by omega) hi]
      rfl
    · have e1 : decide ((i : Int) < ln l) = false := by rw [decide_eq_false_iff_not]; show ¬ (i : Int) < (l.length : Int); omega
      simp only [Tree.run, e1, cond_false]
theorem names_run {n : Nat} (l : List St) (hn : l.length < n) (hl : l.length ≤ 100000) : (F_r20_SameNames n l l).run = some true := by
  unfold F_r20_SameNames
  have e := names_loop n l hl n 0 (by omega) (by omega)
  rw [show ((0 : Nat) : Int) = (0 : Int) from rfl] at e
  simp only [Tree.run, decide_true, Bool.not_true, cond_false, e, Option.bind_some]
theorem flat_names {m : Mp} (h : InvM m) : ∀ e ∈ flat m, e.2.2.1 ≠ [] := by
  intro e he
  obtain ⟨p, hp, rfl⟩ := List.mem_map.1 he
  have := (h.ok p hp).1
  unfold right named at this
  simp only [Bool.and_eq_true, decide_eq_true_eq] at this
  intro h0
  have h0 : p.2.1 = [] := h0
  rw [h0] at this
  simp at this
end Go.Proofs.Ytcipfbabjbcfkaa
