/- Scans in plain words: bytes, texts, names of 32 bytes; the program's and the document's. -/
import Derived.Test.YtcipfbabjbcfkaaKC
set_option linter.unusedVariables false
set_option linter.unusedSimpArgs false
namespace Go.Proofs.Ytcipfbabjbcfkaa
open Hyp
theorem own_app {x : List UInt8} (h : x.length ≤ 140737488355328) : appI 140737488355328 ([] : List UInt8) x = some x := appI_le (by simpa using h)
theorem maxI_eq (a b : Int) : maxI a b = max a b := by unfold maxI; split <;> omega
theorem scanF_len {s a r : List UInt8} {e z : Int} (h : scanF s e z = .inr (a, r)) : (a.length : Int) = z ∧ r.length ≤ s.length ∧ 1 ≤ z := by
  unfold scanF at h
  split at h
  · cases h
  · split at h
    · cases h
    · cases h
      refine ⟨?_, by simp, by omega⟩
      rw [List.length_take]; omega
theorem scanI_len (s : List UInt8) (e : Int) : (scanI s e).1.length = 32 ∧ (scanI s e).2.1.length ≤ s.length := by
  unfold scanI
  split
  · exact ⟨rfl, Nat.le_refl _⟩
  · rename_i a r h
    have := scanF_len h
    exact ⟨by show a.length = 32; omega, this.2.1⟩
theorem scanT_len {s : List UInt8} {e most : Int} : (∀ r e', scanT s e most = .inl (r, e') → r.length ≤ s.length) ∧ (∀ a r, scanT s e most = .inr (a, r) → r.length ≤ s.length ∧ (a.length : Int) ≤ max most 0) := by
  have hl := scanN_len s e 0 9007199254740992
  unfold scanT
  generalize scanN s e 0 9007199254740992 = p at *
  obtain ⟨v, r, e'⟩ := p
  simp only at hl ⊢
  constructor
  · intro r' e'' h
    split at h
    · cases h; exact hl
    · split at h
      · cases h; exact Nat.le_refl _
      · split at h
        · cases h; exact Nat.le_refl _
        · split at h
          · cases h; exact hl
          · cases h
  · intro a r' h
    split at h
    · cases h
    · split at h
      · cases h
      · rename_i h3
        split at h
        · cases h
        · split at h
          · cases h
          · rename_i p hf
            cases h
            have := scanF_len hf
            exact ⟨by omega, by omega⟩
/-- A scan's end. -/
def scanE (s : List UInt8) (e : Int) : Int := if e = 0 ∧ 0 < s.length then 4 else e
theorem cend (n : Nat) (s : List UInt8) (e : Int) : (F_codec_Scan_End n s e).run = some (scanE s e) := by
  unfold F_codec_Scan_End scanE
  by_cases h : e = 0 ∧ 0 < s.length
  · have : (decide (e = 0) && decide ((0 : Int) < ln s)) = true := by simp [ln, h.1]; exact h.2
    simp only [Tree.run, this, cond_true, if_pos h]
  · have : (decide (e = 0) && decide ((0 : Int) < ln s)) = false := by
      cases hb : (decide (e = 0) && decide ((0 : Int) < ln s))
      · rfl
      · simp only [ln, Bool.and_eq_true, decide_eq_true_eq] at hb; exact absurd ⟨hb.1, by omega⟩ h
    simp only [Tree.run, this, cond_false, if_neg h]
theorem strLt_tri : ∀ a b : List UInt8, strLt a b = !(strLt b a || decide (b = a))
  | [], [] => rfl
  | [], _ :: _ => by simp [strLt, Op.bytesLess]
  | _ :: _, [] => by simp [strLt, Op.bytesLess]
  | x :: a, y :: b => by
    have ih := strLt_tri a b
    unfold strLt at ih ⊢
    unfold Op.bytesLess
    by_cases h : x = y
    · subst h
      have : ¬ x < x := UInt8.lt_irrefl x
      simp only [this, decide_false, Bool.false_or, beq_self_eq_true, Bool.true_and, ih, List.cons.injEq, true_and]
    · have h1 : (x == y) = false := by simpa using h
      have h2 : (y == x) = false := by simpa using fun h' => h h'.symm
      simp only [h1, h2, Bool.false_and, Bool.or_false, List.cons.injEq]
      have : (x < y) ↔ ¬ (y < x) := by
        rw [UInt8.lt_iff_toNat_lt, UInt8.lt_iff_toNat_lt]
        have : x.toNat ≠ y.toNat := fun h' => h (UInt8.toNat_inj.1 h')
        omega
      rw [Bool.eq_iff_iff]
      simp only [decide_eq_true_eq, Bool.not_eq_true', decide_eq_false_iff_not, Bool.or_eq_false_iff]
      simp only [this]
      constructor
      · exact fun h' => ⟨h', fun h'' => h h''.1.symm⟩
      · exact fun h' => h'.1
theorem cfixed {n : Nat} (b : Bool) {s : List UInt8} (hs : s.length ≤ 140737488355328) (e z : Int) : (F_codec_Scan_Fixed n b s e z).run = some (match scanF s e z with | .inl e' => ([], b, s, e') | .inr (a, r) => (a, false, r, 0)) := by
  unfold F_codec_Scan_Fixed F_codec_Scan_Fail scanF
  by_cases h1 : e ≠ 0 ∨ z < 1
  · have : (!(decide (e = 0)) || decide (z < 1)) = true := by simpa using h1
    simp only [Tree.run, this, cond_true, if_pos h1]
  · have h1' : (!(decide (e = 0)) || decide (z < 1)) = false := by
      simp only [Bool.or_eq_false_iff, Bool.not_eq_false', decide_eq_true_eq, decide_eq_false_iff_not]; omega
    have he : e = 0 := by omega
    simp only [Tree.run, h1', cond_false, if_neg h1, ln]
    by_cases h2 : (s.length : Int) < z
    · simp only [decide_eq_true h2, cond_true, if_pos h2, he, decide_true, Option.bind_some]
    · have e3 : subI s 0 z = some (s.take z.toNat) := by
        rw [subI_int (by omega) (by omega) (by omega)]; simp
      have e4 : subI s z (s.length : Int) = some (s.drop z.toNat) := by
        rw [subI_int (by omega) (by omega) (by omega)]
        rw [List.take_of_length_le (by simp)]
      have e5 := own_app (x := s.take z.toNat) (by rw [List.length_take]; omega)
      simp only [decide_eq_false h2, cond_false, if_neg h2, e3, e4, e5, Option.bind_some]
/-- A text of a scan, told in one shape. -/
def tT (s : List UInt8) (e most : Int) : List UInt8 × List UInt8 × Int := match scanT s e most with
  | .inl p => ([], p.1, p.2)
  | .inr p => (p.1, p.2, 0)
theorem ctextS {n : Nat} (hn : 9 < n) (b : Bool) {s : List UInt8} (hs : s.length ≤ 140737488355328) (e most : Int) : ∃ b', (F_codec_Scan_Text n b s e most).run = some ((tT s e most).1, b', (tT s e most).2) := by
  obtain ⟨b1, h1⟩ := cnumber (n := n) (by omega) b (s := s) (by omega) e 0 9007199254740992
  have hl := scanN_len s e 0 9007199254740992
  have hE : e ≠ 0 → (scanN s e 0 9007199254740992).2.2 ≠ 0 := by intro h; unfold scanN; rw [if_neg h]; exact h
  unfold F_codec_Scan_Text F_codec_Scan_Fail tT scanT
  generalize hp : scanN s e 0 9007199254740992 = p at *
  obtain ⟨v, r, e'⟩ := p
  simp only at hl hE h1
  simp only [Tree.run, h1, Option.bind_some, maxI_eq, ln]
  by_cases he : e' ≠ 0
  · exact ⟨b1, by simp only [decide_eq_false he, Bool.not_false, cond_true, if_pos he]⟩
  · have he0 : e' = 0 := by omega
    have hee : e = 0 := by
      rcases Decidable.em (e = 0) with h | h
      · exact h
      · exact absurd he0 (hE h)
    subst he0
    simp only [decide_true, Bool.not_true, cond_false, if_neg he, hee, Option.bind_some, cond_true]
    by_cases h2 : max most 0 < v
    · exact ⟨b, by simp only [decide_eq_true h2, cond_true, if_pos h2]⟩
    · simp only [decide_eq_false h2, cond_false, if_neg h2]
      by_cases h3 : (r.length : Int) < v
      · exact ⟨b, by simp only [decide_eq_true h3, cond_true, if_pos h3]⟩
      · simp only [decide_eq_false h3, cond_false, if_neg h3, cfixed (n := n) b1 (s := r) (by omega), Option.bind_some]
        cases hf : scanF r 0 v with
        | inl x => exact ⟨b1, rfl⟩
        | inr x => exact ⟨false, rfl⟩
theorem cid {n : Nat} (b : Bool) {s : List UInt8} (hs : s.length ≤ 140737488355328) (e : Int) : ∃ b', (F_codec_Scan_ID n b s e).run = some ((scanI s e).1, b', (scanI s e).2) := by
  unfold F_codec_Scan_ID scanI
  simp only [Tree.run, cfixed (n := n) b hs, Option.bind_some]
  cases h : scanF s e 32 with
  | inl x => exact ⟨b, rfl⟩
  | inr x =>
    obtain ⟨a, r⟩ := x
    have hl := (scanF_len h).1
    have h32 : a.length = 32 := by omega
    have e1 : decide (ln a = 32) = true := by simp [ln, h32]
    have e2 : takeI 32 a = some a := by unfold takeI; rw [if_pos (by omega), List.take_of_length_le (by omega)]
    exact ⟨false, by simp only [e1, Bool.not_true, cond_false, e2, Option.bind_some]⟩
end Go.Proofs.Ytcipfbabjbcfkaa
