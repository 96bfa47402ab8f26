/- What walks through maps come to, whatever their order: for functions that sort behind them. -/
import Derived.Test.YtcipfbabjbcfkaaSo
import Derived.Test.YtcipfbabjbcfkaaSc
set_option linter.unusedVariables false
set_option linter.unusedSimpArgs false
namespace Hyp
open Go Go.Proofs
abbrev KnM := List ((Int × List UInt8) × List UInt8 × Int × Int)
def kflat (p : (Int × List UInt8) × List UInt8 × Int × Int) : KnD := (p.1.1, p.1.2, p.2.1, p.2.2.1, p.2.2.2)
/-- index.List -/
def D_list (n : Nat) (O : KnM) : Option (List KnD) := if O.length < n ∧ O.length ≤ 1000000 then sortF goodK ordK (O.map kflat) else none
theorem goodK_iff : ∀ {l : List KnD}, goodK l = true ↔ (∀ x ∈ l, 0 ≤ x.1 ∧ x.1 ≤ 255) ∧ l.Pairwise fun a b => ¬ (a.1 = b.1 ∧ a.2.1 = b.2.1)
  | [] => by simp [goodK]
  | a :: l => by
    simp only [goodK, Bool.and_eq_true, decide_eq_true_eq, List.all_eq_true, Bool.not_eq_true', decide_eq_false_iff_not, goodK_iff (l := l), List.mem_cons, List.pairwise_cons]
    constructor
    · rintro ⟨⟨h1, h2⟩, h3, h4⟩
      exact ⟨fun x hx => hx.elim (fun e => e ▸ h1) (h3 x), h2, h4⟩
    · rintro ⟨h1, h2, h3⟩
      exact ⟨⟨h1 a (.inl rfl), h2⟩, fun x hx => h1 x (.inr hx), h3⟩
theorem goodK_perm {l m : List KnD} (h : l.Perm m) (hg : goodK l = true) : goodK m = true := by
  rw [goodK_iff] at hg ⊢
  exact ⟨fun x hx => hg.1 x (h.mem_iff.2 hx), h.pairwise hg.2 fun hab => fun hba => hab ⟨hba.1.symm, hba.2.symm⟩⟩
/-- Sorted. -/
def SrtK (l : List KnD) : Prop := l.Pairwise fun a b => ordK a b ≤ 0
theorem ordK_le_trans {a b c : KnD} (h1 : ordK a b ≤ 0) (h2 : ordK b c ≤ 0) : ordK a c ≤ 0 := by
  unfold ordK at *
  by_cases e1 : a.1 = b.1
  · rw [if_pos e1] at h1
    by_cases e2 : b.1 = c.1
    · rw [if_pos e2] at h2
      rw [if_pos (e1.trans e2)]
      rcases Int.lt_or_eq_of_le h1 with q1 | q1
      · rcases Int.lt_or_eq_of_le h2 with q2 | q2
        · exact Int.le_of_lt (cb_trans q1 q2)
        · rw [← cb_zero q2]; exact h1
      · rw [cb_zero q1]; exact h2
    · rw [if_neg e2] at h2
      rw [if_neg (by omega)]; omega
  · rw [if_neg e1] at h1
    by_cases e2 : b.1 = c.1
    · rw [if_neg (by omega)]; omega
    · rw [if_neg e2] at h2
      rw [if_neg (by omega)]; omega
theorem msort_srt (l : List KnD) : SrtK (l.mergeSort fun x y => !decide (ordK y x < 0)) := by
  have := List.pairwise_mergeSort (le := fun x y : KnD => !decide (ordK y x < 0)) (fun a b c h1 h2 => by
    simp only [Bool.not_eq_true', decide_eq_false_iff_not] at h1 h2 ⊢
    have := ordK_neg a b; have := ordK_neg b c; have := ordK_neg a c
    have := ordK_le_trans (a := a) (b := b) (c := c) (by omega) (by omega)
    omega) (fun a b => by
    have := ordK_neg a b
    simp only [Bool.or_eq_true, Bool.not_eq_true', decide_eq_false_iff_not]; omega) l
  refine this.imp fun {a b} h => ?_
  simp only [Bool.not_eq_true', decide_eq_false_iff_not] at h
  have := ordK_neg a b
  omega
theorem srt_uniq : ∀ {l m : List KnD}, goodK l = true → SrtK l → SrtK m → l.Perm m → l = m
  | [], m, _, _, _, h => (List.nil_perm.1 h).symm
  | a :: l, [], _, _, _, h => (List.cons_ne_nil _ _ (List.perm_nil.1 h)).elim
  | a :: l, b :: m, hg, h1, h2, h => by
    have hab : a = b := by
      have ha : a ∈ b :: m := h.mem_iff.1 (.head _)
      have hb : b ∈ a :: l := h.mem_iff.2 (.head _)
      rcases List.mem_cons.1 ha with e | ha
      · exact e
      · rcases List.mem_cons.1 hb with e | hb
        · exact e.symm
        · have q1 := (List.pairwise_cons.1 h1).1 b hb
          have q2 := (List.pairwise_cons.1 h2).1 a ha
          have q3 := ordK_neg a b
          obtain ⟨e1, e2⟩ := ordK_zero (a := a) (b := b) (by omega)
          exact goodK_eq hg a (.head _) b (.tail _ hb) e1 e2
    subst hab
    rw [srt_uniq (by
      simp only [goodK, Bool.and_eq_true] at hg; exact hg.2) (List.pairwise_cons.1 h1).2 (List.pairwise_cons.1 h2).2 (List.perm_cons _ |>.1 h)]
theorem sortF_perm {l m : List KnD} (h : l.Perm m) {ys : List KnD} (hs : sortF goodK ordK l = some ys) : sortF goodK ordK m = some ys := by
  unfold sortF at hs ⊢
  split at hs
  · rename_i hc
    cases hs
    have hg := goodK_perm h hc.1
    rw [if_pos ⟨hg, by rw [← h.length_eq]; exact hc.2⟩]
    have hp : (m.mergeSort fun x y => !decide (ordK y x < 0)).Perm (l.mergeSort fun x y => !decide (ordK y x < 0)) := ((List.mergeSort_perm _ _).trans h.symm).trans (List.mergeSort_perm _ _).symm
    rw [srt_uniq (goodK_perm (List.mergeSort_perm _ _).symm hg) (msort_srt m) (msort_srt l) hp]
  · cases hs
theorem kapp {acc : List KnD} {x : KnD} (h : acc.length ≤ 1000000) : appI 1954687338268 acc [x] = some (acc ++ [x]) := by unfold appI; rw [if_pos (by simp; omega)]
/-- index.Packs -/
def D_packs (n : Nat) (O : KnM) : Option (List (List UInt8)) := if O.length < n ∧ O.length ≤ 1000000 then (sortI (O.map fun p => p.2.1)).bind compactI else none
theorem sortI_perm {l m : List (List UInt8)} (h : l.Perm m) : sortI l = sortI m := by
  unfold sortI
  rw [h.length_eq]
  split
  · congr 1
    have srt : ∀ l : List (List UInt8), (l.mergeSort fun x y => decide (x ≤ y)).Pairwise fun a b => a ≤ b := fun l => by
      have := List.pairwise_mergeSort (le := fun x y : List UInt8 => decide (x ≤ y)) (fun a b c h1 h2 => by
        simp only [decide_eq_true_eq] at h1 h2 ⊢; exact List.le_trans h1 h2) (fun a b => by
        simp only [Bool.or_eq_true, decide_eq_true_eq]; exact List.le_total a b) l
      exact this.imp fun {a b} h => by simpa using h
    exact List.Perm.eq_of_pairwise (le := fun a b : List UInt8 => a ≤ b) (fun a b _ _ h1 h2 => List.le_antisymm h1 h2) (srt l) (srt m) (((List.mergeSort_perm _ _).trans h).trans (List.mergeSort_perm _ _).symm)
  · rfl
theorem sapp {acc : List (List UInt8)} {x : List UInt8} (h : acc.length ≤ 1000000) : appI 8796093022208 acc [x] = some (acc ++ [x]) := by unfold appI; rw [if_pos (by simp; omega)]
end Hyp
