/- A shard of the index in plain words: read, told, compared; IndexBytes. -/
import Derived.Test.YtdlbmjbbnplpjaaIS
import Derived.Test.YtdlbmjbbnplpjaaIL
set_option linter.unusedVariables false
set_option linter.unusedSimpArgs false
namespace Go.Proofs.Ytdlbmjbbnplpjaa
open Hyp
abbrev Kn := Int × List UInt8 × List UInt8 × Int × Int
/-- An entry's right form. -/
def right (k : Int) (nm : List UInt8) (a b : Int) : Bool := decide (1 ≤ k) && (decide (k ≤ 3) && (named nm && (decide (8 ≤ a) && (decide (a ≤ 65536) && (decide (28 ≤ b) && decide (a + b ≤ 65536))))))
theorem right_run {n : Nat} (hn : 33 ≤ n) (k : Int) (nm : List UInt8) (a b : Int) : (F_index_Right n k nm a b).run = some (right k nm a b) := by
  unfold F_index_Right right
  simp only [Tree.run, named_run hn, Option.bind_some]
  by_cases h1 : 1 ≤ k
  · rw [decide_eq_false (p := k < 1) (by omega), decide_eq_true h1]
    by_cases h2 : k ≤ 3
    · rw [decide_eq_false (p := 3 < k) (by omega), decide_eq_true h2]
      cases named nm
      · rfl
      · simp only [cond_false, Bool.not_true, Bool.true_and, Option.some.injEq]
        by_cases h3 : 8 ≤ a ∧ a ≤ 65536
        · rw [wrap_id (by omega) (by omega), Bool.eq_iff_iff]
          simp only [Bool.and_eq_true, decide_eq_true_eq]; omega
        · by_cases h4 : 8 ≤ a
          · rw [decide_eq_false (p := a ≤ 65536) (by omega)]; simp
          · rw [decide_eq_false h4]; simp
    · rw [decide_eq_true (p := 3 < k) (by omega), decide_eq_false h2]; simp
  · rw [decide_eq_true (p := k < 1) (by omega), decide_eq_false h1]; simp
theorem right_ref {n : Nat} (k : Int) (nm : List UInt8) (a b : Int) (hn : nm.length < n) (hx : nm.length ≤ 9223372036854775807) : (F_r20_Right n k nm a b).run = some (right k nm a b) := by
  unfold F_r20_Right right
  simp only [Tree.run, named_ref nm hn hx, Option.bind_some]
  by_cases h1 : 1 ≤ k
  · rw [decide_eq_false (p := k < 1) (by omega), decide_eq_true h1]
    by_cases h2 : k ≤ 3
    · rw [decide_eq_false (p := 3 < k) (by omega), decide_eq_true h2]
      cases named nm
      · rfl
      · simp only [cond_false, Bool.not_true, Bool.true_and]
        by_cases h3 : 8 ≤ a ∧ a ≤ 65536 ∧ 28 ≤ b ∧ b ≤ 65536
        · have e : (decide (a < 8) || (decide ((65536 : Int) < a) || (decide (b < 28) || decide ((65536 : Int) < b)))) = false := by
            simp only [Bool.or_eq_false_iff, decide_eq_false_iff_not]; omega
          rw [e, cond_false, wrap_id (by omega) (by omega), Option.some.injEq, Bool.eq_iff_iff]
          simp only [Bool.and_eq_true, decide_eq_true_eq]; omega
        · have e : (decide (a < 8) || (decide ((65536 : Int) < a) || (decide (b < 28) || decide ((65536 : Int) < b)))) = true := by
            simp only [Bool.or_eq_true, decide_eq_true_eq]; omega
          rw [e, cond_true, Option.some.injEq, Bool.eq_iff_iff]
          simp only [Bool.and_eq_true, decide_eq_true_eq, Bool.false_eq_true, false_iff]; omega
    · rw [decide_eq_true (p := 3 < k) (by omega), decide_eq_false h2]; simp
  · rw [decide_eq_true (p := k < 1) (by omega), decide_eq_false h1]; simp
/-! ### The order -/
def before (x y : Kn) : Bool := if x.1 ≠ y.1 then decide (x.1 < y.1) else strLt x.2.1 y.2.1
theorem strLt_self : ∀ a : List UInt8, strLt a a = false
  | [] => rfl
  | x :: a => by
    have ih := strLt_self a
    unfold strLt at ih ⊢
    unfold Op.bytesLess
    simp [ih]
theorem strLt_cons (x y : UInt8) (a b : List UInt8) : strLt (x :: a) (y :: b) = (decide (x < y) || (decide (x = y) && strLt a b)) := by
  unfold strLt
  conv => lhs; unfold Op.bytesLess
  congr 1
theorem cmp_neg : ∀ a b : List UInt8, decide (0 ≤ Go.Lib.compareBytes a b) = !strLt a b
  | [], [] => rfl
  | [], _ :: _ => rfl
  | _ :: _, [] => rfl
  | x :: a, y :: b => by
    rw [strLt_cons]
    unfold Go.Lib.compareBytes
    by_cases h1 : x < y
    · rw [if_pos h1, decide_eq_true h1]; rfl
    · rw [if_neg h1, decide_eq_false h1]
      by_cases h2 : y < x
      · have : x ≠ y := by rintro rfl; exact h1 h2
        rw [if_pos h2, decide_eq_false this]; rfl
      · have : x = y := by
          rw [UInt8.lt_iff_toNat_lt] at h1 h2
          exact UInt8.toNat_inj.1 (by omega)
        rw [if_neg h2, decide_eq_true this, cmp_neg a b]
        rfl
theorem order_run {n : Nat} {x y : Kn} (hx : 0 ≤ x.1 ∧ x.1 ≤ 3) (hy : 0 ≤ y.1 ∧ y.1 ≤ 3) (lx : x.2.1.length = 32) (ly : y.2.1.length = 32) : ∃ r, (F_index_order n x.1 x.2.1 y.1 y.2.1).run = some r ∧ decide (0 ≤ r) = !before x y := by
  unfold F_index_order F_bytes_Compare before
  by_cases h : x.1 = y.1
  · refine ⟨Go.Lib.compareBytes x.2.1 y.2.1, ?_, by rw [cmp_neg, if_neg (by simp [h])]⟩
    simp only [Tree.run, decide_eq_true h, Bool.not_true, cond_false, Option.bind_some, List.drop_zero]
    rw [List.take_of_length_le (by omega), List.take_of_length_le (by omega)]
  · refine ⟨x.1 - y.1, ?_, ?_⟩
    · simp only [Tree.run, decide_eq_false h, Bool.not_false, cond_true]
      rw [w64_id (by omega) (by omega)]
    · rw [if_pos h, Bool.eq_iff_iff]; simp
theorem before_l0 (n : Nat) (k1 k2 o1 z1 o2 z2 : Int) (p1 p2 : List UInt8) {a b : List UInt8} (ha : a.length = 32) (hb : b.length = 32) : ∀ (k i : Nat), i ≤ 32 → 32 < i + k →
    ∃ r, (F_r20_Before_l0 n k (i : Int) k1 a p1 o1 z1 k2 b p2 o2 z2).run = some r ∧ (match r with | .inl t => t | .inr _ => false) = strLt (a.drop i) (b.drop i)
  | 0, i, h, h2 => by omega
  | k + 1, i, h, h2 => by
    unfold F_r20_Before_l0
    by_cases hi : i < 32
    · have e1 : decide ((i : Int) < 32) = true := by simp; omega
      have e2 : inI 32 (i : Int) = some i := inI_nat hi
      have e3 : gt a i = some a[i] := gt_lt (by omega)
      have e4 : gt b i = some b[i] := gt_lt (by omega)
      rw [List.drop_eq_getElem_cons (by omega : i < a.length), List.drop_eq_getElem_cons (by omega : i < b.length), strLt_cons]
      simp only [Tree.run, e1, cond_true, e2, e3, e4, Option.bind_some]
      by_cases hab : a[i] = b[i]
      · obtain ⟨r, e5, e6⟩ := before_l0 n k1 k2 o1 z1 o2 z2 p1 p2 ha hb k (i + 1) (by omega) (by omega)
        rw [← w64_succ (by omega)] at e5
        have hlt : ¬ a[i] < b[i] := by rw [hab]; exact UInt8.lt_irrefl _
        simp only [decide_eq_true hab, Bool.not_true, cond_false, e5, Option.bind_some, decide_eq_false hlt, Bool.false_or, Bool.true_and, ← e6]
        cases r with
        | inl t => exact ⟨.inl t, rfl, rfl⟩
        | inr t => exact ⟨.inr (), rfl, rfl⟩
      · refine ⟨.inl (decide (a[i] < b[i])), ?_, ?_⟩
        · simp only [decide_eq_false hab, Bool.not_false, cond_true]
        · simp [hab]
    · have e1 : decide ((i : Int) < 32) = false := by simp; omega
      refine ⟨.inr (), by simp only [Tree.run, e1, cond_false], ?_⟩
      rw [List.drop_eq_nil_iff.2 (by omega), List.drop_eq_nil_iff.2 (by omega)]
      rfl
theorem before_run {n : Nat} (hn : 40 ≤ n) {x y : Kn} (lx : x.2.1.length = 32) (ly : y.2.1.length = 32) : (F_r20_Before n x.1 x.2.1 x.2.2.1 x.2.2.2.1 x.2.2.2.2 y.1 y.2.1 y.2.2.1 y.2.2.2.1 y.2.2.2.2).run = some (before x y) := by
  unfold F_r20_Before before
  by_cases h : x.1 = y.1
  · obtain ⟨r, e1, e2⟩ := before_l0 n x.1 y.1 x.2.2.2.1 x.2.2.2.2 y.2.2.2.1 y.2.2.2.2 x.2.2.1 y.2.2.1 lx ly n 0 (by omega) (by omega)
    have e1' : (F_r20_Before_l0 n n 0 x.1 x.2.1 x.2.2.1 x.2.2.2.1 x.2.2.2.2 y.1 y.2.1 y.2.2.1 y.2.2.2.1 y.2.2.2.2).run = some r := e1
    rw [if_neg (by simp [h])]
    simp only [List.drop_zero] at e2
    simp only [Tree.run, decide_eq_true h, Bool.not_true, cond_false, e1', Option.bind_some, ← e2]
    cases r <;> rfl
  · rw [if_pos h]
    simp only [Tree.run, decide_eq_false h, Bool.not_false, cond_true]
/-! ### In order, and each right -/
def okK : Option Kn → List Kn → Bool
  | _, [] => true
  | o, x :: l => right x.1 x.2.2.1 x.2.2.2.1 x.2.2.2.2 && ((match o with | none => true | some p => before p x) && okK (some x) l)
theorem okK_cons (o : Option Kn) (x : Kn) (l : List Kn) : okK o (x :: l) = (right x.1 x.2.2.1 x.2.2.2.1 x.2.2.2.2 && ((match o with | none => true | some p => before p x) && okK (some x) l)) := by conv => lhs; unfold okK
theorem okK_nil (o : Option Kn) : okK o [] = true := by conv => lhs; unfold okK
def prevK (l : List Kn) (i : Nat) : Option Kn := if i = 0 then none else l[i - 1]?
theorem prevK_succ {l : List Kn} {i : Nat} (h : i < l.length) : prevK l (i + 1) = some l[i] := by
  unfold prevK; simp [h]
def Fine (x : Kn) : Prop := (0 ≤ x.1 ∧ x.1 ≤ 3) ∧ x.2.1.length = 32 ∧ x.2.2.1.length ≤ 32
theorem cok {n : Nat} (hn : 40 ≤ n) {l : List Kn} (hf : ∀ x ∈ l, Fine x) (hl : l.length ≤ 5000) : ∀ (k i : Nat), i ≤ l.length → l.length < i + k →
    (F_index_Get_l2 n k (l.length : Int) (i : Int) l).run = some (bif okK (prevK l i) (l.drop i) then .inr () else .inl ())
  | 0, i, h, h2 => by omega
  | k + 1, i, h, h2 => by
    unfold F_index_Get_l2
    by_cases hi : i < l.length
    · have e1 : decide ((i : Int) < (l.length : Int)) = true := by simp; omega
      have e2 : inI (List.length l) (i : Int) = some i := inI_nat hi
      have e2' : gt l (0 + i) = some l[i] := by rw [Nat.zero_add]; exact gt_lt hi
      have e3 := cok hn hf hl k (i + 1) (by omega) (by omega)
      rw [← w64_succ (by omega), prevK_succ hi] at e3
      simp only [Tree.run, e1, cond_true, e2, e2', Option.bind_some, right_run (n := n) (by omega), e3]
      rw [List.drop_eq_getElem_cons hi, okK_cons]
      cases right l[i].1 l[i].2.2.1 l[i].2.2.2.1 l[i].2.2.2.2
      · rfl
      · simp only [Bool.not_true, cond_false, Bool.true_and]
        by_cases h0 : i = 0
        · subst h0
          have e4 : decide ((0 : Int) < ((0 : Nat) : Int)) = false := rfl
          simp only [e4, cond_false, prevK, if_true, Bool.true_and]
          cases okK (some l[0]) (l.drop (0 + 1)) <;> rfl
        · have e4 : decide ((0 : Int) < (i : Int)) = true := by simp; omega
          have e5 : w64 ((i : Int) - 1) = ((i - 1 : Nat) : Int) := by rw [w64_id (by omega) (by omega)]; omega
          have e6 : inI (List.length l) ((i - 1 : Nat) : Int) = some (i - 1) := inI_nat (by omega)
          have e6' : gt l (0 + (i - 1)) = some l[i - 1] := by rw [Nat.zero_add]; exact gt_lt (by omega)
          have e7 : prevK l i = some l[i - 1] := by
            have := prevK_succ (l := l) (i := i - 1) (by omega)
            rw [← this]; congr 1; omega
          obtain ⟨fx, lx, _⟩ := hf l[i - 1] (List.getElem_mem (by omega))
          obtain ⟨fy, ly, _⟩ := hf l[i] (List.getElem_mem hi)
          obtain ⟨r, o1, o2⟩ := order_run (n := n) fx fy lx ly
          simp only [e4, cond_true, e5, e6, e6', e7, Option.bind_some, o1, o2]
          cases before l[i - 1] l[i]
          · rfl
          · simp only [Bool.not_true, cond_false, Bool.true_and]
            cases okK (some l[i]) (l.drop (i + 1)) <;> rfl
    · have e1 : decide ((i : Int) < (l.length : Int)) = false := by simp; omega
      have e2 : l.drop i = [] := List.drop_eq_nil_iff.2 (by omega)
      simp only [Tree.run, e1, cond_false, e2, okK_nil, cond_true]
theorem rok {n : Nat} (hn : 40 ≤ n) {l : List Kn} (hf : ∀ x ∈ l, Fine x) (hl : l.length ≤ 5000) : ∀ (k i : Nat), i ≤ l.length → l.length < i + k →
    (F_r20_Get_l2 n k (i : Int) l).run = some (bif okK (prevK l i) (l.drop i) then .inr () else .inl ())
  | 0, i, h, h2 => by omega
  | k + 1, i, h, h2 => by
    unfold F_r20_Get_l2
    by_cases hi : i < l.length
    · have e1 : decide ((i : Int) < ln l) = true := by simp [ln]; omega
      have e2 : inI (List.length l) (i : Int) = some i := inI_nat hi
      have e2' : gt l (0 + i) = some l[i] := by rw [Nat.zero_add]; exact gt_lt hi
      have e3 := rok hn hf hl k (i + 1) (by omega) (by omega)
      rw [← w64_succ (by omega), prevK_succ hi] at e3
      obtain ⟨fy, ly, ny⟩ := hf l[i] (List.getElem_mem hi)
      simp only [Tree.run, e1, cond_true, e2, e2', Option.bind_some, right_ref (n := n) l[i].1 l[i].2.2.1 l[i].2.2.2.1 l[i].2.2.2.2 (by omega) (by omega), e3]
      rw [List.drop_eq_getElem_cons hi, okK_cons]
      cases right l[i].1 l[i].2.2.1 l[i].2.2.2.1 l[i].2.2.2.2
      · rfl
      · simp only [Bool.not_true, cond_false, Bool.true_and]
        by_cases h0 : i = 0
        · subst h0
          have e4 : decide ((0 : Int) < ((0 : Nat) : Int)) = false := rfl
          simp only [e4, cond_false, prevK, if_true, Bool.true_and]
          cases okK (some l[0]) (l.drop (0 + 1)) <;> rfl
        · have e4 : decide ((0 : Int) < (i : Int)) = true := by simp; omega
          have e5 : w64 ((i : Int) - 1) = ((i - 1 : Nat) : Int) := by rw [w64_id (by omega) (by omega)]; omega
          have e6 : inI (List.length l) ((i - 1 : Nat) : Int) = some (i - 1) := inI_nat (by omega)
          have e6' : gt l (0 + (i - 1)) = some l[i - 1] := by rw [Nat.zero_add]; exact gt_lt (by omega)
          have e7 : prevK l i = some l[i - 1] := by
            have := prevK_succ (l := l) (i := i - 1) (by omega)
            rw [← this]; congr 1; omega
          obtain ⟨fx, lx, _⟩ := hf l[i - 1] (List.getElem_mem (by omega))
          have o1 := before_run hn lx ly
          simp only [e4, cond_true, e5, e6, e6', e7, Option.bind_some, o1]
          cases before l[i - 1] l[i]
          · rfl
          · simp only [Bool.not_true, cond_false, Bool.true_and]
            cases okK (some l[i]) (l.drop (i + 1)) <;> rfl
    · have e1 : decide ((i : Int) < ln l) = false := by simp [ln]; omega
      have e2 : l.drop i = [] := List.drop_eq_nil_iff.2 (by omega)
      simp only [Tree.run, e1, cond_false, e2, okK_nil, cond_true]
end Go.Proofs.Ytdlbmjbbnplpjaa
