/- Manifests in plain words: which may be, how they are read and told; the program's and the document's. -/
import Derived.Test.YtdlbmjbbnplpjaaMS
import Derived.Test.YtdlbmjbbnplpjaaNL
set_option linter.unusedVariables false
set_option linter.unusedSimpArgs false
namespace Go.Proofs.Ytdlbmjbbnplpjaa
open Hyp
abbrev Sh := List (List UInt8 × List UInt8)
abbrev Sn := List (Int × List UInt8)
def okS : Option (List UInt8) → Sh → Bool
  | _, [] => true
  | o, x :: l => named x.1 && ((match o with | none => true | some p => strLt p x.1) && okS (some x.1) l)
theorem okS_cons (o : Option (List UInt8)) (x : List UInt8 × List UInt8) (l : Sh) : okS o (x :: l) = (named x.1 && ((match o with | none => true | some p => strLt p x.1) && okS (some x.1) l)) := by conv => lhs; unfold okS
theorem okS_nil (o : Option (List UInt8)) : okS o [] = true := by conv => lhs; unfold okS
def prevS (l : Sh) (i : Nat) : Option (List UInt8) := if i = 0 then none else (l[i - 1]?).map (·.1)
theorem prevS_succ {l : Sh} {i : Nat} (h : i < l.length) : prevS l (i + 1) = some l[i].1 := by
  unfold prevS; simp [h]
theorem cright_l0 {n : Nat} (hn : 33 ≤ n) (b b' b'' : Bool) (g st ep nx : Int) (sn : Sn) {sh : Sh} (hs : sh.length ≤ 1000) : ∀ (k i : Nat), i ≤ sh.length → sh.length < i + k →
    (F_manifest_Right_l0_1 n k b sh (sh.length : Int) (i : Int) g st ep nx b' sh b'' sn).run = some (bif okS (prevS sh i) (sh.drop i) then .inr () else .inl ())
  | 0, i, h, h2 => by omega
  | k + 1, i, h, h2 => by
    unfold F_manifest_Right_l0_1
    by_cases hi : i < sh.length
    · have e1 : decide ((i : Int) < (sh.length : Int)) = true := by simp; omega
      have e2 : getI sh (i : Int) = some sh[i] := getI_lt hi
      have e3 := cright_l0 hn b b' b'' g st ep nx sn hs k (i + 1) (by omega) (by omega)
      rw [← w64_succ (by omega), prevS_succ hi] at e3
      simp only [Tree.run, e1, cond_true, e2, Option.bind_some, named_run hn, e3]
      rw [List.drop_eq_getElem_cons hi, okS_cons]
      cases hnm : named sh[i].1
      · rfl
      · simp only [Bool.not_true, cond_false, Bool.true_and]
        by_cases h0 : i = 0
        · subst h0
          have e4 : decide ((0 : Int) < ((0 : Nat) : Int)) = false := rfl
          simp only [e4, cond_false, prevS, if_true, Bool.true_and]
          cases okS (some sh[0].1) (sh.drop (0 + 1)) <;> rfl
        · have e4 : decide ((0 : Int) < (i : Int)) = true := by simp; omega
          have e5 : w64 ((i : Int) - 1) = ((i - 1 : Nat) : Int) := by rw [w64_id (by omega) (by omega)]; omega
          have e6 : getI sh ((i - 1 : Nat) : Int) = some sh[i - 1] := getI_lt (by omega)
          have e7 : prevS sh i = some sh[i - 1].1 := by
            have := prevS_succ (l := sh) (i := i - 1) (by omega)
            rw [← this]; congr 1; omega
          simp only [e4, cond_true, e5, e6, e7, Option.bind_some]
          cases strLt sh[i - 1].1 sh[i].1
          · rfl
          · simp only [Bool.not_true, cond_false, Bool.true_and]
            cases okS (some sh[i].1) (sh.drop (i + 1)) <;> rfl
    · have e1 : decide ((i : Int) < (sh.length : Int)) = false := by simp; omega
      have e2 : sh.drop i = [] := List.drop_eq_nil_iff.2 (by omega)
      simp only [Tree.run, e1, cond_false, e2, okS_nil, cond_true]
theorem rright_l0 {n : Nat} (b b' : Bool) (g st ep nx : Int) (sn : Sn) {sh : Sh} (hnm : ∀ x ∈ sh, x.1.length < n ∧ x.1.length ≤ 9223372036854775807) (hs : sh.length ≤ 1000) : ∀ (k i : Nat), i ≤ sh.length → sh.length < i + k →
    (F_r23_Right_l0 n k (i : Int) g st ep nx b sh b' sn).run = some (bif okS (prevS sh i) (sh.drop i) then .inr () else .inl ())
  | 0, i, h, h2 => by omega
  | k + 1, i, h, h2 => by
    unfold F_r23_Right_l0
    by_cases hi : i < sh.length
    · have e1 : decide ((i : Int) < ln sh) = true := by simp [ln]; omega
      have e2 : getI sh (i : Int) = some sh[i] := getI_lt hi
      have e3 := rright_l0 b b' g st ep nx sn hnm hs k (i + 1) (by omega) (by omega)
      rw [← w64_succ (by omega), prevS_succ hi] at e3
      obtain ⟨q1, q2⟩ := hnm sh[i] (List.getElem_mem hi)
      simp only [Tree.run, e1, cond_true, e2, Option.bind_some, named_ref sh[i].1 q1 q2, e3]
      rw [List.drop_eq_getElem_cons hi, okS_cons]
      cases hnm : named sh[i].1
      · rfl
      · simp only [Bool.not_true, cond_false, Bool.true_and]
        by_cases h0 : i = 0
        · subst h0
          have e4 : decide ((0 : Int) < ((0 : Nat) : Int)) = false := rfl
          simp only [e4, cond_false, prevS, if_true, Bool.true_and]
          cases okS (some sh[0].1) (sh.drop (0 + 1)) <;> rfl
        · have e4 : decide ((0 : Int) < (i : Int)) = true := by simp; omega
          have e5 : w64 ((i : Int) - 1) = ((i - 1 : Nat) : Int) := by rw [w64_id (by omega) (by omega)]; omega
          have e6 : getI sh ((i - 1 : Nat) : Int) = some sh[i - 1] := getI_lt (by omega)
          have e7 : prevS sh i = some sh[i - 1].1 := by
            have := prevS_succ (l := sh) (i := i - 1) (by omega)
            rw [← this]; congr 1; omega
          simp only [e4, cond_true, e5, e6, e7, Option.bind_some, strLt_tri sh[i - 1].1 sh[i].1]
          cases (strLt sh[i].1 sh[i - 1].1 || decide (sh[i].1 = sh[i - 1].1))
          · simp only [Bool.not_false, cond_false, Bool.true_and]
            cases okS (some sh[i].1) (sh.drop (i + 1)) <;> rfl
          · rfl
    · have e1 : decide ((i : Int) < ln sh) = false := by simp [ln]; omega
      have e2 : sh.drop i = [] := List.drop_eq_nil_iff.2 (by omega)
      simp only [Tree.run, e1, cond_false, e2, okS_nil, cond_true]
def okN (nx : Int) : Int → Sn → Bool
  | _, [] => true
  | last, x :: l => (!(decide (x.1 ≤ last) || decide (nx ≤ x.1))) && okN nx x.1 l
theorem okN_cons (nx last : Int) (x : Int × List UInt8) (l : Sn) : okN nx last (x :: l) = ((!(decide (x.1 ≤ last) || decide (nx ≤ x.1))) && okN nx x.1 l) := by conv => lhs; unfold okN
theorem okN_nil (nx last : Int) : okN nx last [] = true := by conv => lhs; unfold okN
theorem cright_l2 {n : Nat} (b b' b'' : Bool) (g st ep nx : Int) (sh : Sh) {sn : Sn} (hs : sn.length ≤ 1000) : ∀ (k i : Nat) (last : Int), i ≤ sn.length → sn.length < i + k →
    (F_manifest_Right_l2_1 n k last b sn (sn.length : Int) (i : Int) g st ep nx b' sh b'' sn).run = some (bif okN nx last (sn.drop i) then .inr () else .inl ())
  | 0, i, _, h, h2 => by omega
  | k + 1, i, last, h, h2 => by
    unfold F_manifest_Right_l2_1
    by_cases hi : i < sn.length
    · have e1 : decide ((i : Int) < (sn.length : Int)) = true := by simp; omega
      have e2 : getI sn (i : Int) = some sn[i] := getI_lt hi
      have e3 := cright_l2 (n := n) b b' b'' g st ep nx sh hs k (i + 1) sn[i].1 (by omega) (by omega)
      rw [← w64_succ (by omega)] at e3
      simp only [Tree.run, e1, cond_true, e2, Option.bind_some, e3]
      rw [List.drop_eq_getElem_cons hi, okN_cons]
      cases (decide (sn[i].1 ≤ last) || decide (nx ≤ sn[i].1))
      · simp only [Bool.not_false, cond_false, Bool.true_and]
        cases okN nx sn[i].1 (sn.drop (i + 1)) <;> rfl
      · rfl
    · have e1 : decide ((i : Int) < (sn.length : Int)) = false := by simp; omega
      have e2 : sn.drop i = [] := List.drop_eq_nil_iff.2 (by omega)
      simp only [Tree.run, e1, cond_false, e2, okN_nil, cond_true]
def okR (nx : Int) : Option Int → Sn → Bool
  | _, [] => true
  | o, x :: l => (!(decide (x.1 < 1))) && ((!(decide (nx ≤ x.1))) && ((match o with | none => true | some p => !(decide (x.1 ≤ p))) && okR nx (some x.1) l))
theorem okR_cons (nx : Int) (o : Option Int) (x : Int × List UInt8) (l : Sn) : okR nx o (x :: l) = ((!(decide (x.1 < 1))) && ((!(decide (nx ≤ x.1))) && ((match o with | none => true | some p => !(decide (x.1 ≤ p))) && okR nx (some x.1) l))) := by conv => lhs; unfold okR
theorem okR_nil (nx : Int) (o : Option Int) : okR nx o [] = true := by conv => lhs; unfold okR
theorem okR_some (nx : Int) : ∀ (l : Sn) (p : Int), 0 ≤ p → okR nx (some p) l = okN nx p l
  | [], _, _ => by rw [okR_nil, okN_nil]
  | x :: l, p, h => by
    rw [okR_cons, okN_cons]
    dsimp only
    by_cases h1 : x.1 ≤ p
    · simp [h1]
    · rw [okR_some nx l x.1 (by omega), decide_eq_false (p := x.1 < 1) (by omega), decide_eq_false h1]
      cases decide (nx ≤ x.1) <;> cases okN nx x.1 l <;> rfl
theorem okR_none (nx : Int) (l : Sn) : okR nx none l = okN nx 0 l := by
  cases l with
  | nil => rw [okR_nil, okN_nil]
  | cons x l =>
    rw [okR_cons, okN_cons]
    by_cases h1 : x.1 < 1
    · rw [decide_eq_true h1, decide_eq_true (p := x.1 ≤ 0) (by omega)]; simp
    · rw [decide_eq_false h1, decide_eq_false (p := x.1 ≤ 0) (by omega), okR_some nx l x.1 (by omega)]
      cases decide (nx ≤ x.1) <;> cases okN nx x.1 l <;> rfl
def prevN (l : Sn) (i : Nat) : Option Int := if i = 0 then none else (l[i - 1]?).map (·.1)
theorem prevN_succ {l : Sn} {i : Nat} (h : i < l.length) : prevN l (i + 1) = some l[i].1 := by
  unfold prevN; simp [h]
theorem rright_l2 {n : Nat} (b b' : Bool) (g st ep nx : Int) (sh : Sh) {sn : Sn} (hs : sn.length ≤ 1000) : ∀ (k i : Nat), i ≤ sn.length → sn.length < i + k →
    (F_r23_Right_l2 n k (i : Int) g st ep nx b sh b' sn).run = some (bif okR nx (prevN sn i) (sn.drop i) then .inr () else .inl ())
  | 0, i, h, h2 => by omega
  | k + 1, i, h, h2 => by
    unfold F_r23_Right_l2
    by_cases hi : i < sn.length
    · have e1 : decide ((i : Int) < ln sn) = true := by simp [ln]; omega
      have e2 : getI sn (i : Int) = some sn[i] := getI_lt hi
      have e3 := rright_l2 (n := n) b b' g st ep nx sh hs k (i + 1) (by omega) (by omega)
      rw [← w64_succ (by omega), prevN_succ hi] at e3
      simp only [Tree.run, e1, cond_true, e2, Option.bind_some, e3]
      rw [List.drop_eq_getElem_cons hi, okR_cons]
      cases decide (sn[i].1 < 1)
      · simp only [Bool.not_false, cond_false, Bool.true_and]
        cases decide (nx ≤ sn[i].1)
        · simp only [Bool.not_false, cond_false, Bool.true_and]
          by_cases h0 : i = 0
          · subst h0
            have e4 : decide ((0 : Int) < ((0 : Nat) : Int)) = false := rfl
            simp only [e4, cond_false, prevN, if_true, Bool.true_and]
            cases okR nx (some sn[0].1) (sn.drop (0 + 1)) <;> rfl
          · have e4 : decide ((0 : Int) < (i : Int)) = true := by simp; omega
            have e5 : w64 ((i : Int) - 1) = ((i - 1 : Nat) : Int) := by rw [w64_id (by omega) (by omega)]; omega
            have e6 : getI sn ((i - 1 : Nat) : Int) = some sn[i - 1] := getI_lt (by omega)
            have e7 : prevN sn i = some sn[i - 1].1 := by
              have := prevN_succ (l := sn) (i := i - 1) (by omega)
              rw [← this]; congr 1; omega
            simp only [e4, cond_true, e5, e6, e7, Option.bind_some]
            cases decide (sn[i].1 ≤ sn[i - 1].1)
            · simp only [Bool.not_false, cond_false, Bool.true_and]
              cases okR nx (some sn[i].1) (sn.drop (i + 1)) <;> rfl
            · rfl
        · rfl
      · rfl
    · have e1 : decide ((i : Int) < ln sn) = false := by simp [ln]; omega
      have e2 : sn.drop i = [] := List.drop_eq_nil_iff.2 (by omega)
      simp only [Tree.run, e1, cond_false, e2, okR_nil, cond_true]
def inM (x : Int) : Bool := decide (1 ≤ x) && decide (x ≤ 1099511627776)
/-- May it be? -/
def rightM (g st ep nx : Int) (sh : Sh) (sn : Sn) : Bool := inM g && (inM st && (inM nx && (decide (1 ≤ ep) && (decide (ep ≤ 64) && (decide (sh.length ≤ 64) && (decide (sn.length ≤ 32) && (okS none sh && okN nx 0 sn)))))))
theorem cright {n : Nat} (hn : 100 ≤ n) (b b' : Bool) (g st ep nx : Int) (sh : Sh) (sn : Sn) : (F_manifest_Right_1 n g st ep nx b sh b' sn).run = some (rightM g st ep nx sh sn) := by
  unfold F_manifest_Right_1 F_manifest_in rightM
  simp only [Tree.run, Option.bind_some]
  rw [show (decide (1 ≤ g) && decide (g ≤ 1099511627776)) = inM g from rfl, show (decide (1 ≤ st) && decide (st ≤ 1099511627776)) = inM st from rfl, show (decide (1 ≤ nx) && decide (nx ≤ 1099511627776)) = inM nx from rfl]
  cases inM g
  · rfl
  cases inM st
  · rfl
  cases inM nx
  · rfl
  simp only [Bool.not_true, cond_false, Bool.true_and, Bool.false_or, ln]
  by_cases h : 1 ≤ ep ∧ ep ≤ 64 ∧ sh.length ≤ 64 ∧ sn.length ≤ 32
  · have e1 : (decide (ep < 1) || (decide (64 < ep) || (decide ((64 : Int) < (sh.length : Int)) || decide ((32 : Int) < (sn.length : Int))))) = false := by
      simp only [Bool.or_eq_false_iff, decide_eq_false_iff_not]; omega
    have e2 := cright_l0 (n := n) (by omega) b b b' g st ep nx sn (sh := sh) (by omega) n 0 (by omega) (by omega)
    have e3 := cright_l2 (n := n) b' b b' g st ep nx sh (sn := sn) (by omega) n 0 0 (by omega) (by omega)
    rw [List.drop_zero] at e2 e3
    rw [show prevS sh 0 = none from rfl] at e2
    simp only [Int.natCast_zero, show ((0 : Nat) : Int) = 0 from rfl] at e2 e3
    simp only [e1, cond_false, e2, e3, decide_eq_true h.1, decide_eq_true h.2.1, decide_eq_true h.2.2.1, decide_eq_true h.2.2.2, Bool.true_and, Option.bind_some]
    cases okS none sh
    · rfl
    · simp only [cond_true, run_r, Tree.run, e3, Option.bind_some]
      cases okN nx 0 sn <;> rfl
  · have e1 : (decide (ep < 1) || (decide (64 < ep) || (decide ((64 : Int) < (sh.length : Int)) || decide ((32 : Int) < (sn.length : Int))))) = true := by
      simp only [Bool.or_eq_true, decide_eq_true_eq]; omega
    have e2 : (decide (1 ≤ ep) && (decide (ep ≤ 64) && (decide (sh.length ≤ 64) && (decide (sn.length ≤ 32) && (okS none sh && okN nx 0 sn))))) = false := by
      cases hb : (decide (1 ≤ ep) && (decide (ep ≤ 64) && (decide (sh.length ≤ 64) && (decide (sn.length ≤ 32) && (okS none sh && okN nx 0 sn)))))
      · rfl
      · simp only [Bool.and_eq_true, decide_eq_true_eq] at hb
        exact absurd ⟨hb.1, hb.2.1, hb.2.2.1, hb.2.2.2.1⟩ h
    simp only [e1, cond_true, e2]
theorem rright {n : Nat} (hn : 100 ≤ n) (b b' : Bool) (g st ep nx : Int) (sh : Sh) (sn : Sn) (hnm : ∀ x ∈ sh, x.1.length < n ∧ x.1.length ≤ 9223372036854775807) : (F_r23_Right n g st ep nx b sh b' sn).run = some (rightM g st ep nx sh sn) := by
  unfold F_r23_Right rightM
  simp only [Tree.run, ln]
  by_cases h0 : inM g = true ∧ inM st = true ∧ inM nx = true ∧ 1 ≤ ep ∧ ep ≤ 64
  · obtain ⟨h1, h2, h3, h4, h5⟩ := h0
    have e0 : (decide (g < 1) || (decide ((1099511627776 : Int) < g) || (decide (st < 1) || (decide ((1099511627776 : Int) < st) || (decide (ep < 1) || (decide ((64 : Int) < ep) || (decide (nx < 1) || decide ((1099511627776 : Int) < nx)))))))) = false := by
      simp only [inM, Bool.and_eq_true, decide_eq_true_eq] at h1 h2 h3
      simp only [Bool.or_eq_false_iff, decide_eq_false_iff_not]; omega
    simp only [e0, cond_false, h1, h2, h3, decide_eq_true h4, decide_eq_true h5, Bool.true_and]
    by_cases h : sh.length ≤ 64 ∧ sn.length ≤ 32
    · have e1 : (decide ((64 : Int) < (sh.length : Int)) || decide ((32 : Int) < (sn.length : Int))) = false := by
        simp only [Bool.or_eq_false_iff, decide_eq_false_iff_not]; omega
      have e2 := rright_l0 (n := n) b b' g st ep nx sn (sh := sh) hnm (by omega) n 0 (by omega) (by omega)
      have e3 := rright_l2 (n := n) b b' g st ep nx sh (sn := sn) (by omega) n 0 (by omega) (by omega)
      rw [List.drop_zero] at e2 e3
      rw [show prevS sh 0 = none from rfl] at e2
      rw [show prevN sn 0 = none from rfl, okR_none] at e3
      simp only [Int.natCast_zero, show ((0 : Nat) : Int) = 0 from rfl] at e2 e3
      simp only [e1, cond_false, e2, e3, decide_eq_true h.1, decide_eq_true h.2, Bool.true_and, Option.bind_some]
      cases okS none sh
      · rfl
      · simp only [cond_true, run_r, Tree.run, e3, Option.bind_some]
        cases okN nx 0 sn <;> rfl
    · have e1 : (decide ((64 : Int) < (sh.length : Int)) || decide ((32 : Int) < (sn.length : Int))) = true := by
        simp only [Bool.or_eq_true, decide_eq_true_eq]; omega
      have e2 : (decide (sh.length ≤ 64) && (decide (sn.length ≤ 32) && (okS none sh && okN nx 0 sn))) = false := by
        cases hb : (decide (sh.length ≤ 64) && (decide (sn.length ≤ 32) && (okS none sh && okN nx 0 sn)))
        · rfl
        · simp only [Bool.and_eq_true, decide_eq_true_eq] at hb
          exact absurd ⟨hb.1, hb.2.1⟩ h
      simp only [e1, cond_true, e2]
  · have e0 : (decide (g < 1) || (decide ((1099511627776 : Int) < g) || (decide (st < 1) || (decide ((1099511627776 : Int) < st) || (decide (ep < 1) || (decide ((64 : Int) < ep) || (decide (nx < 1) || decide ((1099511627776 : Int) < nx)))))))) = true := by
      simp only [inM, Bool.and_eq_true, decide_eq_true_eq] at h0
      simp only [Bool.or_eq_true, decide_eq_true_eq]; omega
    have e2 : (inM g && (inM st && (inM nx && (decide (1 ≤ ep) && (decide (ep ≤ 64) && (decide (sh.length ≤ 64) && (decide (sn.length ≤ 32) && (okS none sh && okN nx 0 sn)))))))) = false := by
      cases hb : (inM g && (inM st && (inM nx && (decide (1 ≤ ep) && (decide (ep ≤ 64) && (decide (sh.length ≤ 64) && (decide (sn.length ≤ 32) && (okS none sh && okN nx 0 sn))))))))
      · rfl
      · simp only [Bool.and_eq_true, decide_eq_true_eq] at hb
        exact absurd ⟨hb.1, hb.2.1, hb.2.2.1, hb.2.2.2.1, hb.2.2.2.2.1⟩ h0
    simp only [e0, cond_true, e2]
end Go.Proofs.Ytdlbmjbbnplpjaa
