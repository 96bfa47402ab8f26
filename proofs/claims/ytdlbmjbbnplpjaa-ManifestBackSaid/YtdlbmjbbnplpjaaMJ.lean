/- Manifests in plain words: told and compared; ManifestTexts. -/
import Derived.Test.YtdlbmjbbnplpjaaMI
import Derived.Test.YtdlbmjbbnplpjaaZD
set_option linter.unusedVariables false
set_option linter.unusedSimpArgs false
namespace Go.Proofs.Ytdlbmjbbnplpjaa
open Hyp
def putS : List UInt8 → Sh → List UInt8
  | b, [] => b
  | b, x :: l => putS (num b x.1.length ++ x.1 ++ x.2.take 32) l
def putN : List UInt8 → Sn → List UInt8
  | b, [] => b
  | b, x :: l => putN (num b x.1 ++ x.2.take 32) l
def numsM : List UInt8 → List Int → List UInt8
  | b, [] => b
  | b, x :: l => numsM (num b x) l
/-- A manifest's text. -/
def putM (g st ep nx : Int) (sh : Sh) (sn : Sn) : List UInt8 := putN (num (putS (num (numsM [] [g, st, ep, nx]) sh.length) sh) sn.length) sn
theorem putS_len : ∀ (l : Sh) (b : List UInt8), (∀ x ∈ l, x.1.length ≤ 100) → (putS b l).length ≤ b.length + 140 * l.length
  | [], b, _ => by simp [putS]
  | x :: l, b, h => by
    have h1 := h x (.head _)
    have h2 := putS_len l (num b x.1.length ++ x.1 ++ x.2.take 32) fun y hy => h y (.tail _ hy)
    have h3 := num_len b x.1.length
    unfold putS
    simp only [List.length_append, List.length_take, List.length_cons] at h2 ⊢
    omega
theorem cput_l0 {n : Nat} (hn : 9 < n) {arr : List Int} (h4 : arr.length = 4) : ∀ (k i : Nat) (b : List UInt8), i ≤ 4 → 4 < i + k → b.length + 10 * (5 - i) ≤ 140737488355328 → (F_manifest_Put_l0_1 n k arr (i : Int) b).run = some (if i < 4 then .inr (numsM b (arr.drop i)) else .inl ())
  | 0, i, b, h, h2, _ => by omega
  | k + 1, i, b, h, h2, hb => by
    unfold F_manifest_Put_l0_1
    by_cases hi : i < 4
    · have e1 : decide ((i : Int) < 4) = true := by simp; omega
      have e2 : getI arr (i : Int) = some arr[i] := getI_lt (by omega)
      have hl := num_len b arr[i]
      have e3 := cput_l0 hn h4 k (i + 1) (num b arr[i]) (by omega) (by omega) (by omega)
      rw [← w64_succ (by omega)] at e3
      simp only [Tree.run, e1, cond_true, e2, cnum1 hn b (by omega), e3, Option.bind_some, if_pos hi]
      rw [List.drop_eq_getElem_cons (by omega : i < arr.length)]
      by_cases h3 : i + 1 < 4
      · simp only [if_pos h3, run_r, Tree.run, numsM]
      · simp only [if_neg h3, run_l, Tree.run, numsM]
        rw [List.drop_eq_nil_iff.2 (by omega)]; rfl
    · have e1 : decide ((i : Int) < 4) = false := by simp; omega
      simp only [Tree.run, e1, cond_false, if_neg hi]
theorem cput_l0' {n : Nat} (hn : 9 < n) (g st ep nx : Int) : (F_manifest_Put_l0 n n (List.set (List.set (List.set (List.set ([(0 : Int), (0 : Int), (0 : Int), (0 : Int)] : List Int) 0 g) 1 st) 2 ep) 3 nx) 0).run = some (.inl (numsM [] [g, st, ep, nx])) := by
  obtain ⟨m, rfl⟩ : ∃ m, n = m + 1 := ⟨n - 1, by omega⟩
  show (F_manifest_Put_l0 (m + 1) (m + 1) [g, st, ep, nx] 0).run = _
  rw [F_manifest_Put_l0]
  have hl := num_len [] g
  have e3 := cput_l0 hn (arr := [g, st, ep, nx]) rfl m 1 (num [] g) (by omega) (by omega) (by simp at hl; omega)
  have e1 : decide ((0 : Int) < 4) = true := rfl
  have e2 : getI [g, st, ep, nx] (0 : Int) = some g := rfl
  have e4 : w64 ((0 : Int) + 1) = ((1 : Nat) : Int) := by decide
  simp only [Tree.run, e1, cond_true, e2, cnum0 hn, e4, e3, Option.bind_some, if_pos (show 1 < 4 by decide), run_r]
  rfl
theorem cput_l2 {n : Nat} (hn : 9 < n) (c : Bool) {sh : Sh} (hnm : ∀ x ∈ sh, x.1.length ≤ 100) (hs : sh.length ≤ 1000) : ∀ (k i : Nat) (b : List UInt8), i ≤ sh.length → sh.length < i + k → b.length + 200 * (sh.length - i) ≤ 10000000 →
    (F_manifest_Put_l2 n k c sh (sh.length : Int) (i : Int) b).run = some (if i < sh.length then .inr (putS b (sh.drop i)) else .inl ())
  | 0, i, b, h, h2, _ => by omega
  | k + 1, i, b, h, h2, hb => by
    unfold F_manifest_Put_l2
    by_cases hi : i < sh.length
    · have e1 : decide ((i : Int) < (sh.length : Int)) = true := by simp; omega
      have e2 : getI sh (i : Int) = some sh[i] := getI_lt hi
      have h3 := hnm sh[i] (List.getElem_mem hi)
      have e3 : bytesI sh[i].1 = some sh[i].1 := by unfold bytesI; rw [if_pos (by omega)]
      have e4 := ctext (n := n) hn b sh[i].1 (by omega)
      have hl := num_len b sh[i].1.length
      have e5 : appI 140737488355328 (num b sh[i].1.length ++ sh[i].1) (List.take 32 (List.drop 0 sh[i].2)) = some (num b sh[i].1.length ++ sh[i].1 ++ sh[i].2.take 32) := by
        rw [List.drop_zero]; exact appI_le (by simp only [List.length_append, List.length_take]; omega)
      have e6 := cput_l2 hn c hnm hs k (i + 1) (num b sh[i].1.length ++ sh[i].1 ++ sh[i].2.take 32) (by omega) (by omega) (by simp only [List.length_append, List.length_take]; omega)
      rw [← w64_succ (by omega)] at e6
      simp only [Tree.run, e1, cond_true, e2, e3, e4, e5, e6, Option.bind_some, if_pos hi]
      rw [List.drop_eq_getElem_cons hi]
      by_cases h3 : i + 1 < sh.length
      · simp only [if_pos h3, run_r, Tree.run, putS]
      · simp only [if_neg h3, run_l, Tree.run, putS]
        rw [List.drop_eq_nil_iff.2 (by omega)]; rfl
    · have e1 : decide ((i : Int) < (sh.length : Int)) = false := by simp; omega
      simp only [Tree.run, e1, cond_false, if_neg hi]
theorem cput_l4 {n : Nat} (hn : 9 < n) (c : Bool) {sn : Sn} (hs : sn.length ≤ 1000) : ∀ (k i : Nat) (b : List UInt8), i ≤ sn.length → sn.length < i + k → b.length + 200 * (sn.length - i) ≤ 10000000 →
    (F_manifest_Put_l4 n k c sn (sn.length : Int) (i : Int) b).run = some (if i < sn.length then .inr (putN b (sn.drop i)) else .inl ())
  | 0, i, b, h, h2, _ => by omega
  | k + 1, i, b, h, h2, hb => by
    unfold F_manifest_Put_l4
    by_cases hi : i < sn.length
    · have e1 : decide ((i : Int) < (sn.length : Int)) = true := by simp; omega
      have e2 : getI sn (i : Int) = some sn[i] := getI_lt hi
      have e4 := cnum1 (n := n) hn b (by omega) sn[i].1
      have hl := num_len b sn[i].1
      have e5 : appI 140737488355328 (num b sn[i].1) (List.take 32 (List.drop 0 sn[i].2)) = some (num b sn[i].1 ++ sn[i].2.take 32) := by
        rw [List.drop_zero]; exact appI_le (by simp only [List.length_take]; omega)
      have e6 := cput_l4 hn c hs k (i + 1) (num b sn[i].1 ++ sn[i].2.take 32) (by omega) (by omega) (by simp only [List.length_append, List.length_take]; omega)
      rw [← w64_succ (by omega)] at e6
      simp only [Tree.run, e1, cond_true, e2, e4, e5, e6, Option.bind_some, if_pos hi]
      rw [List.drop_eq_getElem_cons hi]
      by_cases h3 : i + 1 < sn.length
      · simp only [if_pos h3, run_r, Tree.run, putN]
      · simp only [if_neg h3, run_l, Tree.run, putN]
        rw [List.drop_eq_nil_iff.2 (by omega)]; rfl
    · have e1 : decide ((i : Int) < (sn.length : Int)) = false := by simp; omega
      simp only [Tree.run, e1, cond_false, if_neg hi]
theorem numsM_len (g st ep nx : Int) : (numsM [] [g, st, ep, nx]).length ≤ 32 := by
  unfold numsM numsM numsM numsM numsM
  have h1 := num_len [] g
  have h2 := num_len (num [] g) st
  have h3 := num_len (num (num [] g) st) ep
  have h4 := num_len (num (num (num [] g) st) ep) nx
  simp only [List.length_nil] at h1
  omega
theorem putS_none {b : List UInt8} {sh : Sh} (h : ¬ 0 < sh.length) : putS b sh = b := by
  have : sh = [] := List.length_eq_zero_iff.1 (by omega)
  rw [this]; rfl
theorem putN_none {b : List UInt8} {sn : Sn} (h : ¬ 0 < sn.length) : putN b sn = b := by
  have : sn = [] := List.length_eq_zero_iff.1 (by omega)
  rw [this]; rfl
theorem cput {n : Nat} (hn : 1000 ≤ n) (c c' : Bool) (g st ep nx : Int) {sh : Sh} {sn : Sn} (hnm : ∀ x ∈ sh, x.1.length ≤ 100) (hs : sh.length ≤ 100) (hs' : sn.length ≤ 100) : (F_manifest_Put n g st ep nx c sh c' sn).run = some (putM g st ep nx sh sn) := by
  unfold F_manifest_Put putM
  have h0 := numsM_len g st ep nx
  have e0 := cput_l0' (n := n) (by omega) g st ep nx
  generalize numsM [] [g, st, ep, nx] = b0 at *
  have h1 := num_len b0 sh.length
  have e1 := cnum1 (n := n) (by omega) b0 (by omega) sh.length
  generalize num b0 sh.length = b1 at *
  have e2 := cput_l2 (n := n) (by omega) c hnm (by omega) n 0 b1 (by omega) (by omega) (by omega)
  have h2 := putS_len sh b1 hnm
  simp only [Int.natCast_zero, show ((0 : Nat) : Int) = 0 from rfl, List.drop_zero] at e2
  have key : ∀ b2 : List UInt8, b2 = putS b1 sh → ∃ b3, (F_codec_Number_1 n (ln sn) b2).run = some b3 ∧ b3 = num (putS b1 sh) sn.length ∧ (F_manifest_Put_l4 n n c' sn (ln sn) 0 b3).run = some (if 0 < sn.length then .inr (putN b3 sn) else .inl ()) := by
    intro b2 hb2
    subst hb2
    have e3 := cnum1 (n := n) (by omega) (putS b1 sh) (by omega) sn.length
    have h3 := num_len (putS b1 sh) sn.length
    have e4 := cput_l4 (n := n) (by omega) c' (sn := sn) (by omega) n 0 (num (putS b1 sh) sn.length) (by omega) (by omega) (by omega)
    simp only [Int.natCast_zero, show ((0 : Nat) : Int) = 0 from rfl, List.drop_zero] at e4
    exact ⟨_, e3, rfl, e4⟩
  have e1' : (F_codec_Number_1 n (ln sh) b0).run = some b1 := e1
  have e2' : (F_manifest_Put_l2 n n c sh (ln sh) 0 b1).run = _ := e2
  simp only [Tree.run, e0, run_l, e1', e2', Option.bind_some]
  by_cases hsh : 0 < sh.length
  · obtain ⟨b3, q1, q2, q3⟩ := key _ rfl
    simp only [if_pos hsh, run_r, Tree.run, q1, q3, Option.bind_some, ← q2]
    by_cases hsn : 0 < sn.length
    · simp only [if_pos hsn, run_r, Tree.run]
    · simp only [if_neg hsn, run_l, Tree.run, putN_none hsn]
  · obtain ⟨b3, q1, q2, q3⟩ := key b1 (putS_none hsh).symm
    simp only [if_neg hsh, run_l, Tree.run, q1, q3, Option.bind_some, ← q2]
    by_cases hsn : 0 < sn.length
    · simp only [if_pos hsn, run_r, Tree.run]
    · simp only [if_neg hsn, run_l, Tree.run, putN_none hsn]
/-! ### The document's -/
theorem rid_put (n : Nat) {x : List UInt8} (hx : x.length = 32) : ∀ (k i : Nat) (b : List UInt8), i ≤ 32 → 32 < i + k → b.length + 32 ≤ 140737488355328 + i → (F_r23_id_l0 n k (i : Int) b x).run = some (if i < 32 then .inr (b ++ x.drop i) else .inl ())
  | 0, i, b, h, h2, _ => by omega
  | k + 1, i, b, h, h2, hb => by
    unfold F_r23_id_l0
    by_cases hi : i < 32
    · have e1 : decide ((i : Int) < 32) = true := by simp; omega
      have e2 : inI 32 (i : Int) = some i := inI_nat hi
      have e3 : gt x i = some x[i] := gt_lt (by omega)
      have e4 : appI 140737488355328 b (List.set ([0] : List UInt8) 0 x[i]) = some (b ++ [x[i]]) := appI_le (by simp; omega)
      have e5 := rid_put n hx k (i + 1) (b ++ [x[i]]) (by omega) (by omega) (by simp; omega)
      rw [← w64_succ (by omega)] at e5
      simp only [Tree.run, e1, cond_true, e2, e3, e4, e5, Option.bind_some, if_pos hi]
      rw [List.drop_eq_getElem_cons (by omega : i < x.length)]
      by_cases h3 : i + 1 < 32
      · simp only [if_pos h3, run_r, Tree.run, List.append_assoc, List.singleton_append]
      · simp only [if_neg h3, run_l, Tree.run]
        rw [List.drop_eq_nil_iff.2 (by omega)]
    · have e1 : decide ((i : Int) < 32) = false := by simp; omega
      simp only [Tree.run, e1, cond_false, if_neg hi]
theorem ridp {n : Nat} (hn : 32 < n) {x : List UInt8} (hx : x.length = 32) (b : List UInt8) (hb : b.length + 32 ≤ 140737488355328) : (F_r23_id n x b).run = some (.inr (b ++ x.take 32)) := by
  unfold F_r23_id
  have e := rid_put n hx n 0 b (by omega) (by omega) (by omega)
  simp only [Int.natCast_zero, show ((0 : Nat) : Int) = 0 from rfl, List.drop_zero, if_pos (show 0 < 32 by decide)] at e
  rw [List.take_of_length_le (by omega)]
  simp only [Tree.run, e, Option.bind_some, run_r]
theorem rput_l0 {n : Nat} (hn : 40 < n) (c c' : Bool) (g st ep nx : Int) (sn : Sn) {sh : Sh} (hnm : ∀ x ∈ sh, x.1.length ≤ 100 ∧ x.2.length = 32) (hs : sh.length ≤ 1000) : ∀ (k i : Nat) (b : List UInt8), i ≤ sh.length → sh.length < i + k → b.length + 200 * (sh.length - i) ≤ 10000000 →
    (F_r23_Put_l0 n k (i : Int) g st ep nx c sh c' sn b).run = some (if i < sh.length then .inr (putS b (sh.drop i)) else .inl ())
  | 0, i, b, h, h2, _ => by omega
  | k + 1, i, b, h, h2, hb => by
    unfold F_r23_Put_l0
    by_cases hi : i < sh.length
    · have e1 : decide ((i : Int) < ln sh) = true := by simp [ln]; omega
      have e2 : getI sh (i : Int) = some sh[i] := getI_lt hi
      obtain ⟨h3, h3'⟩ := hnm sh[i] (List.getElem_mem hi)
      have e3 : bytesI sh[i].1 = some sh[i].1 := by unfold bytesI; rw [if_pos (by omega)]
      have e4 := rtext (n := n) (by omega) b sh[i].1 (by omega)
      have hl := num_len b sh[i].1.length
      have e5 := ridp (n := n) (by omega) h3' (num b sh[i].1.length ++ sh[i].1) (by simp only [List.length_append]; omega)
      have e6 := rput_l0 hn c c' g st ep nx sn hnm hs k (i + 1) (num b sh[i].1.length ++ sh[i].1 ++ sh[i].2.take 32) (by omega) (by omega) (by simp only [List.length_append, List.length_take]; omega)
      rw [← w64_succ (by omega)] at e6
      simp only [Tree.run, e1, cond_true, e2, e3, e4, e5, e6, Option.bind_some, if_pos hi, run_r]
      rw [List.drop_eq_getElem_cons hi]
      by_cases h3 : i + 1 < sh.length
      · simp only [if_pos h3, run_r, Tree.run, putS]
      · simp only [if_neg h3, run_l, Tree.run, putS]
        rw [List.drop_eq_nil_iff.2 (by omega)]; rfl
    · have e1 : decide ((i : Int) < ln sh) = false := by simp [ln]; omega
      simp only [Tree.run, e1, cond_false, if_neg hi]
theorem rput_l2 {n : Nat} (hn : 40 < n) (c c' : Bool) (g st ep nx : Int) (sh : Sh) {sn : Sn} (hnm : ∀ x ∈ sn, x.2.length = 32) (hs : sn.length ≤ 1000) : ∀ (k i : Nat) (b : List UInt8), i ≤ sn.length → sn.length < i + k → b.length + 200 * (sn.length - i) ≤ 10000000 →
    (F_r23_Put_l2 n k (i : Int) g st ep nx c sh c' sn b).run = some (if i < sn.length then .inr (putN b (sn.drop i)) else .inl ())
  | 0, i, b, h, h2, _ => by omega
  | k + 1, i, b, h, h2, hb => by
    unfold F_r23_Put_l2
    by_cases hi : i < sn.length
    · have e1 : decide ((i : Int) < ln sn) = true := by simp [ln]; omega
      have e2 : getI sn (i : Int) = some sn[i] := getI_lt hi
      have h3' := hnm sn[i] (List.getElem_mem hi)
      have e4 := rnum1 (n := n) (by omega) b (by omega) sn[i].1
      have hl := num_len b sn[i].1
      have e5 := ridp (n := n) (by omega) h3' (num b sn[i].1) (by omega)
      have e6 := rput_l2 hn c c' g st ep nx sh hnm hs k (i + 1) (num b sn[i].1 ++ sn[i].2.take 32) (by omega) (by omega) (by simp only [List.length_append, List.length_take]; omega)
      rw [← w64_succ (by omega)] at e6
      simp only [Tree.run, e1, cond_true, e2, e4, e5, e6, Option.bind_some, if_pos hi, run_r]
      rw [List.drop_eq_getElem_cons hi]
      by_cases h3 : i + 1 < sn.length
      · simp only [if_pos h3, run_r, Tree.run, putN]
      · simp only [if_neg h3, run_l, Tree.run, putN]
        rw [List.drop_eq_nil_iff.2 (by omega)]; rfl
    · have e1 : decide ((i : Int) < ln sn) = false := by simp [ln]; omega
      simp only [Tree.run, e1, cond_false, if_neg hi]
theorem rput {n : Nat} (hn : 1000 ≤ n) (c c' : Bool) (g st ep nx : Int) {sh : Sh} {sn : Sn} (hnm : ∀ x ∈ sh, x.1.length ≤ 100 ∧ x.2.length = 32) (hnm' : ∀ x ∈ sn, x.2.length = 32) (hs : sh.length ≤ 100) (hs' : sn.length ≤ 100) : (F_r23_Put n g st ep nx c sh c' sn).run = some (putM g st ep nx sh sn) := by
  unfold F_r23_Put putM
  have h0 := numsM_len g st ep nx
  have hg := num_len [] g
  have hg2 := num_len (num [] g) st
  have hg3 := num_len (num (num [] g) st) ep
  simp only [List.length_nil] at hg
  have a0 := rnum0 (n := n) (by omega) g
  have a1 := rnum1 (n := n) (by omega) (num [] g) (by omega) st
  have a2 := rnum1 (n := n) (by omega) (num (num [] g) st) (by omega) ep
  have a3 := rnum1 (n := n) (by omega) (num (num (num [] g) st) ep) (by omega) nx
  have hb0 : num (num (num (num [] g) st) ep) nx = numsM [] [g, st, ep, nx] := rfl
  rw [hb0] at a3
  generalize numsM [] [g, st, ep, nx] = b0 at *
  have h1 := num_len b0 sh.length
  have e1 := rnum1 (n := n) (by omega) b0 (by omega) sh.length
  generalize num b0 sh.length = b1 at *
  have e2 := rput_l0 (n := n) (by omega) c c' g st ep nx sn hnm (by omega) n 0 b1 (by omega) (by omega) (by omega)
  have h2 := putS_len sh b1 fun x hx => (hnm x hx).1
  simp only [Int.natCast_zero, show ((0 : Nat) : Int) = 0 from rfl, List.drop_zero] at e2
  have key : ∀ b2 : List UInt8, b2 = putS b1 sh → ∃ b3, (F_r17_Number_1 n (ln sn) b2).run = some b3 ∧ b3 = num (putS b1 sh) sn.length ∧ (F_r23_Put_l2 n n 0 g st ep nx c sh c' sn b3).run = some (if 0 < sn.length then .inr (putN b3 sn) else .inl ()) := by
    intro b2 hb2
    subst hb2
    have e3 := rnum1 (n := n) (by omega) (putS b1 sh) (by omega) sn.length
    have h3 := num_len (putS b1 sh) sn.length
    have e4 := rput_l2 (n := n) (by omega) c c' g st ep nx sh (sn := sn) hnm' (by omega) n 0 (num (putS b1 sh) sn.length) (by omega) (by omega) (by omega)
    simp only [Int.natCast_zero, show ((0 : Nat) : Int) = 0 from rfl, List.drop_zero] at e4
    exact ⟨_, e3, rfl, e4⟩
  have e1' : (F_r17_Number_1 n (ln sh) b0).run = some b1 := e1
  simp only [Tree.run, a0, a1, a2, a3, run_l, e1', e2, Option.bind_some]
  by_cases hsh : 0 < sh.length
  · obtain ⟨b3, q1, q2, q3⟩ := key _ rfl
    simp only [if_pos hsh, run_r, Tree.run, q1, q3, Option.bind_some, ← q2]
    by_cases hsn : 0 < sn.length
    · simp only [if_pos hsn, run_r, Tree.run]
    · simp only [if_neg hsn, run_l, Tree.run, putN_none hsn]
  · obtain ⟨b3, q1, q2, q3⟩ := key b1 (putS_none hsh).symm
    simp only [if_neg hsh, run_l, Tree.run, q1, q3, Option.bind_some, ← q2]
    by_cases hsn : 0 < sn.length
    · simp only [if_pos hsn, run_r, Tree.run]
    · simp only [if_neg hsn, run_l, Tree.run, putN_none hsn]
end Go.Proofs.Ytdlbmjbbnplpjaa
