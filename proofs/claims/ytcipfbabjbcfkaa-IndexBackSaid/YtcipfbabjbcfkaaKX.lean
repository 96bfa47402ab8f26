/- A shard of the index in plain words: in order. -/
import Derived.Test.YtcipfbabjbcfkaaKS
import Derived.Test.YtcipfbabjbcfkaaKL
set_option linter.unusedVariables false
set_option linter.unusedSimpArgs false
namespace Go.Proofs.Ytcipfbabjbcfkaa
open Hyp
abbrev Kn := Int × List UInt8 × List UInt8 × Int × Int
/-! ### The order -/
def before (x y : Kn) : Bool := if x.1 ≠ y.1 then decide (x.1 < y.1) else strLt x.2.1 y.2.1
theorem strLt_self : ∀ a : List UInt8, strLt a a = false
  | [] => rfl
  | x :: a => by
    have ih := strLt_self a
    unfold strLt at ih ⊢
    unfold Op.bytesLess
    simp [ih]
theorem strLt_cons (x y : UInt8) (a b : List UInt8) : strLt (x :: a) (y :: b) = (decide (x < y) || (decide (x = y) && strLt a b)) := by
  unfold strLt
  conv => lhs; unfold Op.bytesLess
  congr 1
theorem cmp_neg : ∀ a b : List UInt8, decide (0 ≤ Go.Lib.compareBytes a b) = !strLt a b
  | [], [] => rfl
  | [], _ :: _ => rfl
  | _ :: _, [] => rfl
  | x :: a, y :: b => by
    rw [strLt_cons]
    unfold Go.Lib.compareBytes
    by_cases h1 : x < y
    · rw [if_pos h1, decide_eq_true h1]; rfl
    · rw [if_neg h1, decide_eq_false h1]
      by_cases h2 : y < x
      · have : x ≠ y := by rintro rfl; exact h1 h2
        rw [if_pos h2, decide_eq_false this]; rfl
      · have : x = y := by
          rw [UInt8.lt_iff_toNat_lt] at h1 h2
          exact UInt8.toNat_inj.1 (by omega)
        rw [if_neg h2, decide_eq_true this, cmp_neg a b]
        rfl
theorem order_run {n : Nat} {x y : Kn} (hx : 0 ≤ x.1 ∧ x.1 ≤ 3) (hy : 0 ≤ y.1 ∧ y.1 ≤ 3) (lx : x.2.1.length = 32) (ly : y.2.1.length = 32) : ∃ r, (F_index_order n x.1 x.2.1 y.1 y.2.1).run = some r ∧ decide (0 ≤ r) = !before x y := by
  unfold F_index_order F_bytes_Compare before
  by_cases h : x.1 = y.1
  · refine ⟨Go.Lib.compareBytes x.2.1 y.2.1, ?_, by rw [cmp_neg, if_neg (by simp [h])]⟩
    simp only [Tree.run, decide_eq_true h, Bool.not_true, cond_false, Option.bind_some, List.drop_zero]
    rw [List.take_of_length_le (by omega), List.take_of_length_le (by omega)]
  · refine ⟨x.1 - y.1, ?_, ?_⟩
    · simp only [Tree.run, decide_eq_false h, Bool.not_false, cond_true]
      rw [w64_id (by omega) (by omega)]
    · rw [if_pos h, Bool.eq_iff_iff]; simp
/-! ### In order, and each right -/
def okK : Option Kn → List Kn → Bool
  | _, [] => true
  | o, x :: l => right x.1 x.2.2.1 x.2.2.2.1 x.2.2.2.2 && ((match o with | none => true | some p => before p x) && okK (some x) l)
theorem okK_cons (o : Option Kn) (x : Kn) (l : List Kn) : okK o (x :: l) = (right x.1 x.2.2.1 x.2.2.2.1 x.2.2.2.2 && ((match o with | none => true | some p => before p x) && okK (some x) l)) := by conv => lhs; unfold okK
theorem okK_nil (o : Option Kn) : okK o [] = true := by conv => lhs; unfold okK
def prevK (l : List Kn) (i : Nat) : Option Kn := if i = 0 then none else l[i - 1]?
theorem prevK_succ {l : List Kn} {i : Nat} (h : i < l.length) : prevK l (i + 1) = some l[i] := by
  unfold prevK; simp [h]
def Fine (x : Kn) : Prop := (0 ≤ x.1 ∧ x.1 ≤ 3) ∧ x.2.1.length = 32 ∧ x.2.2.1.length ≤ 32
theorem cok {n : Nat} (hn : 40 ≤ n) {l : List Kn} (hf : ∀ x ∈ l, Fine x) (hl : l.length ≤ 5000) : ∀ (k i : Nat), i ≤ l.length → l.length < i + k →
    (F_index_Get_l2 n k (l.length : Int) (i : Int) l).run = some (bif okK (prevK l i) (l.drop i) then .inr () else .inl ())
  | 0, i, h, h2 => by omega
  | k + 1, i, h, h2 => by
    unfold F_index_Get_l2
    by_cases hi : i < l.length
    · have e1 : decide ((i : Int) < (l.length : Int)) = true := by simp; omega
      have e2 : inI (List.length l) (i : Int) = some i := inI_nat hi
      have e2' : gt l (0 + i) = some l[i] := by rw [Nat.zero_add]; exact gt_lt hi
      have e3 := cok hn hf hl k (i + 1) (by omega) (by omega)
      rw [← w64_succ (by omega), prevK_succ hi] at e3
      simp only [Tree.run, e1, cond_true, e2, e2', Option.bind_some, right_run (n := n) (by omega), e3]
      rw [List.drop_eq_getElem_cons hi, okK_cons]
      cases right l[i].1 l[i].2.2.1 l[i].2.2.2.1 l[i].2.2.2.2
      · rfl
      · simp only [Bool.not_true, cond_false, Bool.true_and]
        by_cases h0 : i = 0
        · subst h0
          have e4 : decide ((0 : Int) < ((0 : Nat) : Int)) = false := rfl
          simp only [e4, cond_false, prevK, if_true, Bool.true_and]
          cases okK (some l[0]) (l.drop (0 + 1)) <;> rfl
        · have e4 : decide ((0 : Int) < (i : Int)) = true := by simp; omega
          have e5 : w64 ((i : Int) - 1) = ((i - 1 : Nat) : Int) := by rw [w64_id (by omega) (by omega)]; omega
          have e6 : inI (List.length l) ((i - 1 : Nat) : Int) = some (i - 1) := inI_nat (by omega)
          have e6' : gt l (0 + (i - 1)) = some l[i - 1] := by rw [Nat.zero_add]; exact gt_lt (by omega)
          have e7 : prevK l i = some l[i - 1] := by
            have := prevK_succ (l := l) (i := i - 1) (by omega)
            rw [← this]; congr 1; omega
          obtain ⟨fx, lx, _⟩ := hf l[i - 1] (List.getElem_mem (by omega))
          obtain ⟨fy, ly, _⟩ := hf l[i] (List.getElem_mem hi)
          obtain ⟨r, o1, o2⟩ := order_run (n := n) fx fy lx ly
          simp only [e4, cond_true, e5, e6, e6', e7, Option.bind_some, o1, o2]
          cases before l[i - 1] l[i]
          · rfl
          · simp only [Bool.not_true, cond_false, Bool.true_and]
            cases okK (some l[i]) (l.drop (i + 1)) <;> rfl
    · have e1 : decide ((i : Int) < (l.length : Int)) = false := by simp; omega
      have e2 : l.drop i = [] := List.drop_eq_nil_iff.2 (by omega)
      simp only [Tree.run, e1, cond_false, e2, okK_nil, cond_true]
end Go.Proofs.Ytcipfbabjbcfkaa
