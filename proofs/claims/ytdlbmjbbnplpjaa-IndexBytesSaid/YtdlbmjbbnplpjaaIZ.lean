/- A shard of the index in plain words: told, compared; IndexBytes. -/
import Derived.Test.YtdlbmjbbnplpjaaIE
set_option linter.unusedVariables false
set_option linter.unusedSimpArgs false
set_option maxRecDepth 100000
namespace Go.Proofs.Ytdlbmjbbnplpjaa
open Hyp
def putK : List UInt8 → List Kn → List UInt8
  | b, [] => b
  | b, x :: l => putK (num (num (num (num b x.1 ++ x.2.1.take 32) x.2.2.1.length ++ x.2.2.1) x.2.2.2.1) x.2.2.2.2) l
theorem cputK {n : Nat} (hn : 9 < n) (c : Bool) {l : List Kn} (hnm : ∀ x ∈ l, x.2.2.1.length ≤ 100) (hs : l.length ≤ 1000) : ∀ (k i : Nat) (b : List UInt8), i ≤ l.length → l.length < i + k → b.length + 200 * (l.length - i) ≤ 10000000 →
    (F_index_Put_l0 n k c l (l.length : Int) (i : Int) b).run = some (if i < l.length then .inr (putK b (l.drop i)) else .inl ())
  | 0, i, b, h, h2, _ => by omega
  | k + 1, i, b, h, h2, hb => by
    unfold F_index_Put_l0
    by_cases hi : i < l.length
    · have e1 : decide ((i : Int) < (l.length : Int)) = true := by simp; omega
      have e2 : getI l (i : Int) = some l[i] := getI_lt hi
      have h3 := hnm l[i] (List.getElem_mem hi)
      have e3 : bytesI l[i].2.2.1 = some l[i].2.2.1 := by unfold bytesI; rw [if_pos (by omega)]
      have a1 := cnum1 (n := n) hn b (by omega) l[i].1
      have l1 := num_len b l[i].1
      have a2 : appI 140737488355328 (num b l[i].1) (List.take 32 (List.drop 0 l[i].2.1)) = some (num b l[i].1 ++ l[i].2.1.take 32) := by
        rw [List.drop_zero]; exact appI_le (by simp only [List.length_take]; omega)
      generalize hb1 : num b l[i].1 ++ l[i].2.1.take 32 = b1 at *
      have l2 : b1.length ≤ b.length + 40 := by rw [← hb1]; simp only [List.length_append, List.length_take]; omega
      have a3 := ctext (n := n) hn b1 l[i].2.2.1 (by omega)
      have l3 := num_len b1 l[i].2.2.1.length
      generalize hb2 : num b1 l[i].2.2.1.length ++ l[i].2.2.1 = b2 at *
      have l4 : b2.length ≤ b1.length + 108 := by rw [← hb2]; simp only [List.length_append]; omega
      have a4 := cnum1 (n := n) hn b2 (by omega) l[i].2.2.2.1
      have l5 := num_len b2 l[i].2.2.2.1
      have a5 := cnum1 (n := n) hn (num b2 l[i].2.2.2.1) (by omega) l[i].2.2.2.2
      have l6 := num_len (num b2 l[i].2.2.2.1) l[i].2.2.2.2
      have e6 := cputK hn c hnm hs k (i + 1) (num (num b2 l[i].2.2.2.1) l[i].2.2.2.2) (by omega) (by omega) (by omega)
      rw [← w64_succ (by omega)] at e6
      simp only [Tree.run, e1, cond_true, e2, e3, a1, a2, a3, a4, a5, e6, Option.bind_some, if_pos hi]
      rw [List.drop_eq_getElem_cons hi]
      by_cases h3 : i + 1 < l.length
      · simp only [if_pos h3, run_r, Tree.run, putK, hb1, hb2]
      · simp only [if_neg h3, run_l, Tree.run, putK, hb1, hb2]
        rw [List.drop_eq_nil_iff.2 (by omega)]; rfl
    · have e1 : decide ((i : Int) < (l.length : Int)) = false := by simp; omega
      simp only [Tree.run, e1, cond_false, if_neg hi]
theorem ridK (n : Nat) (c : Bool) {l : List Kn} {j : Nat} (hj : j < l.length) (hx : l[j].2.1.length = 32) : ∀ (k i : Nat) (b : List UInt8), i ≤ 32 → 32 < i + k → b.length + 32 ≤ 140737488355328 + i → (F_r20_Put_l2 n k c l (j : Int) (i : Int) b).run = some (if i < 32 then .inr (b ++ l[j].2.1.drop i) else .inl ())
  | 0, i, b, h, h2, _ => by omega
  | k + 1, i, b, h, h2, hb => by
    unfold F_r20_Put_l2
    by_cases hi : i < 32
    · have e1 : decide ((i : Int) < 32) = true := by simp; omega
      have e2 : getI l (j : Int) = some l[j] := getI_lt hj
      have e3 : getI l[j].2.1 (i : Int) = some l[j].2.1[i] := getI_lt (by omega)
      have e4 : appI 140737488355328 b (List.set ([0] : List UInt8) 0 l[j].2.1[i]) = some (b ++ [l[j].2.1[i]]) := appI_le (by simp; omega)
      have e5 := ridK n c hj hx k (i + 1) (b ++ [l[j].2.1[i]]) (by omega) (by omega) (by simp; omega)
      rw [← w64_succ (by omega)] at e5
      simp only [Tree.run, e1, cond_true, e2, e3, e4, e5, Option.bind_some, if_pos hi]
      rw [List.drop_eq_getElem_cons (by omega : i < l[j].2.1.length)]
      by_cases h3 : i + 1 < 32
      · simp only [if_pos h3, run_r, Tree.run, List.append_assoc, List.singleton_append]
      · simp only [if_neg h3, run_l, Tree.run]
        rw [List.drop_eq_nil_iff.2 (by omega)]
    · have e1 : decide ((i : Int) < 32) = false := by simp; omega
      simp only [Tree.run, e1, cond_false, if_neg hi]
theorem rputK {n : Nat} (hn : 40 < n) (c : Bool) {l : List Kn} (hnm : ∀ x ∈ l, x.2.2.1.length ≤ 100 ∧ x.2.1.length = 32) (hs : l.length ≤ 1000) : ∀ (k i : Nat) (b : List UInt8), i ≤ l.length → l.length < i + k → b.length + 200 * (l.length - i) ≤ 10000000 →
    (F_r20_Put_l0 n k c l (i : Int) b).run = some (if i < l.length then .inr (putK b (l.drop i)) else .inl ())
  | 0, i, b, h, h2, _ => by omega
  | k + 1, i, b, h, h2, hb => by
    unfold F_r20_Put_l0
    by_cases hi : i < l.length
    · have e1 : decide ((i : Int) < ln l) = true := by simp [ln]; omega
      have e2 : getI l (i : Int) = some l[i] := getI_lt hi
      obtain ⟨h3, h32⟩ := hnm l[i] (List.getElem_mem hi)
      have e3 : bytesI l[i].2.2.1 = some l[i].2.2.1 := by unfold bytesI; rw [if_pos (by omega)]
      have a1 := rnum1 (n := n) (by omega) b (by omega) l[i].1
      have l1 := num_len b l[i].1
      have a2 := ridK n c hi h32 n 0 (num b l[i].1) (by omega) (by omega) (by omega)
      rw [if_pos (by decide), List.drop_zero] at a2
      have a2' : (F_r20_Put_l2 n n c l (i : Int) 0 (num b l[i].1)).run = some (.inr (num b l[i].1 ++ l[i].2.1.take 32)) := by
        rw [List.take_of_length_le (by omega)]; exact a2
      generalize hb1 : num b l[i].1 ++ l[i].2.1.take 32 = b1 at *
      have l2 : b1.length ≤ b.length + 40 := by rw [← hb1]; simp only [List.length_append, List.length_take]; omega
      have a3 := rtext (n := n) (by omega) b1 l[i].2.2.1 (by omega)
      have l3 := num_len b1 l[i].2.2.1.length
      generalize hb2 : num b1 l[i].2.2.1.length ++ l[i].2.2.1 = b2 at *
      have l4 : b2.length ≤ b1.length + 108 := by rw [← hb2]; simp only [List.length_append]; omega
      have a4 := rnum1 (n := n) (by omega) b2 (by omega) l[i].2.2.2.1
      have l5 := num_len b2 l[i].2.2.2.1
      have a5 := rnum1 (n := n) (by omega) (num b2 l[i].2.2.2.1) (by omega) l[i].2.2.2.2
      have l6 := num_len (num b2 l[i].2.2.2.1) l[i].2.2.2.2
      have e6 := rputK hn c hnm hs k (i + 1) (num (num b2 l[i].2.2.2.1) l[i].2.2.2.2) (by omega) (by omega) (by omega)
      rw [← w64_succ (by omega)] at e6
      simp only [Tree.run, e1, cond_true, e2, e3, a1, a2', run_r, a3, a4, a5, e6, Option.bind_some, if_pos hi]
      rw [List.drop_eq_getElem_cons hi]
      by_cases h3 : i + 1 < l.length
      · simp only [if_pos h3, run_r, Tree.run, putK, hb1, hb2]
      · simp only [if_neg h3, run_l, Tree.run, putK, hb1, hb2]
        rw [List.drop_eq_nil_iff.2 (by omega)]; rfl
    · have e1 : decide ((i : Int) < ln l) = false := by simp [ln]; omega
      simp only [Tree.run, e1, cond_false, if_neg hi]
theorem cputK' {n : Nat} (hn : 2000 ≤ n) (c : Bool) {l : List Kn} (hnm : ∀ x ∈ l, x.2.2.1.length ≤ 100) (hs : l.length ≤ 1000) : (F_index_Put n c l).run = some (putK (num [] l.length) l) := by
  unfold F_index_Put
  have h1 := num_len [] l.length
  simp only [List.length_nil] at h1
  have e1 : (F_codec_Number n (ln l)).run = some (num [] l.length) := cnum0 (by omega) _
  have e2 := cputK (n := n) (by omega) c hnm hs n 0 (num [] l.length) (by omega) (by omega) (by omega)
  have e2' : (F_index_Put_l0 n n c l (ln l) 0 (num [] l.length)).run = _ := e2
  simp only [Tree.run, e1, e2', Option.bind_some, List.drop_zero]
  by_cases h : 0 < l.length
  · simp only [if_pos h, run_r, Tree.run]
  · simp only [if_neg h, run_l, Tree.run]
    have : l = [] := List.length_eq_zero_iff.1 (by omega)
    subst this; rfl
theorem rputK' {n : Nat} (hn : 2000 ≤ n) (c : Bool) {l : List Kn} (hnm : ∀ x ∈ l, x.2.2.1.length ≤ 100 ∧ x.2.1.length = 32) (hs : l.length ≤ 1000) : (F_r20_Put n c l).run = some (putK (num [] l.length) l) := by
  unfold F_r20_Put
  have h1 := num_len [] l.length
  simp only [List.length_nil] at h1
  have e1 : (F_r17_Number n (ln l)).run = some (num [] l.length) := rnum0 (by omega) _
  have e2 := rputK (n := n) (by omega) c hnm hs n 0 (num [] l.length) (by omega) (by omega) (by omega)
  have e2' : (F_r20_Put_l0 n n c l 0 (num [] l.length)).run = _ := e2
  simp only [Tree.run, e1, e2', Option.bind_some, List.drop_zero]
  by_cases h : 0 < l.length
  · simp only [if_pos h, run_r, Tree.run]
  · simp only [if_neg h, run_l, Tree.run]
    have : l = [] := List.length_eq_zero_iff.1 (by omega)
    subst this; rfl
theorem sameK_l0 (n : Nat) (c : Bool) {l : List Kn} (hs : l.length ≤ 9223372036854775806) : ∀ (k i : Nat), i ≤ l.length → l.length < i + k → (F_r20_Same_l0_3 n k c l (i : Int) l).run = some (.inr ())
  | 0, i, h, h2 => by omega
  | k + 1, i, h, h2 => by
    unfold F_r20_Same_l0_3
    by_cases hi : i < l.length
    · have e1 : decide ((i : Int) < ln l) = true := by simp [ln]; omega
      have e2 : inI (List.length l) (i : Int) = some i := inI_nat hi
      have e2' : gt l (0 + i) = some l[i] := by rw [Nat.zero_add]; exact gt_lt hi
      have e2'' : getI l (i : Int) = some l[i] := getI_lt hi
      have e3 : eqV T5 (l[i].1, (l[i].2.1, (l[i].2.2.1, (l[i].2.2.2.1, l[i].2.2.2.2)))) (l[i].1, (l[i].2.1, (l[i].2.2.1, (l[i].2.2.2.1, l[i].2.2.2.2)))) = true := (eqV_iff T5 _ _).2 rfl
      have e4 := sameK_l0 n c hs k (i + 1) (by omega) (by omega)
      rw [← w64_succ (by omega)] at e4
      simp only [Tree.run, e1, cond_true, e2, e2', e2'', e3, e4, Option.bind_some, Bool.not_true, cond_false, run_r]
    · have e1 : decide ((i : Int) < ln l) = false := by simp [ln]; omega
      simp only [Tree.run, e1, cond_false]
theorem sameK {n : Nat} (c : Bool) {l : List Kn} (h1 : l.length < n) (h2 : l.length ≤ 5000) : (F_r20_Same_3 n c l l).run = some true := by
  unfold F_r20_Same_3
  have e0 := sameK_l0 n c (l := l) (by omega) n 0 (by omega) (by omega)
  have e0' : (F_r20_Same_l0_3 n n c l 0 l).run = some (.inr ()) := e0
  simp only [Tree.run, decide_true, Bool.not_true, cond_false, e0', Option.bind_some, run_r]
theorem sameN {n : Nat} (hn : 0 < n) : (F_r20_Same n).run = some true := by
  obtain ⟨m, rfl⟩ : ∃ m, n = m + 1 := ⟨n - 1, by omega⟩
  rfl
theorem awake20 (n : Nat) : (F_w20_awake (n + 5000)).run = some true := by kernel_rfl
theorem few20 {n : Nat} (aw : (F_w20_awake n).run = some true) (c : Bool) {l : List Kn} (hl : l.length ≤ 100) : ∀ (k i : Nat), i ≤ l.length → l.length < i + k →
    (F_w20_IndexBytes_l0 n k c l (l.length : Int) (i : Int)).run = some (.inl true) ∨ ((F_w20_IndexBytes_l0 n k c l (l.length : Int) (i : Int)).run = some (.inr ()) ∧ ∀ x ∈ l.drop i, x.2.2.1.length ≤ 100)
  | 0, i, h, h2 => by omega
  | k + 1, i, h, h2 => by
    unfold F_w20_IndexBytes_l0
    by_cases hi : i < l.length
    · have e1 : decide ((i : Int) < (l.length : Int)) = true := by simp; omega
      have e2 : getI l (i : Int) = some l[i] := getI_lt hi
      by_cases hlen : 100 < l[i].2.2.1.length
      · have e3 : decide ((100 : Int) < ln l[i].2.2.1) = true := by simp [ln]; omega
        exact .inl (by simp only [Tree.run, e1, cond_true, e2, e3, aw, Option.bind_some])
      · have e3 : decide ((100 : Int) < ln l[i].2.2.1) = false := by simp [ln]; omega
        have e4 := few20 aw c hl k (i + 1) (by omega) (by omega)
        rw [← w64_succ (by omega)] at e4
        rcases e4 with e4 | ⟨e4, e5⟩
        · exact .inl (by simp only [Tree.run, e1, cond_true, e2, e3, e4, cond_false, Option.bind_some, run_l])
        · refine .inr ⟨by simp only [Tree.run, e1, cond_true, e2, e3, e4, cond_false, Option.bind_some, run_r], ?_⟩
          rw [List.drop_eq_getElem_cons hi]
          intro x hx
          rcases List.mem_cons.1 hx with rfl | hx
          · omega
          · exact e5 x hx
    · have e1 : decide ((i : Int) < (l.length : Int)) = false := by simp; omega
      refine .inr ⟨by simp only [Tree.run, e1, cond_false], ?_⟩
      rw [List.drop_eq_nil_iff.2 (by omega)]
      simp
theorem getK_len {s : List UInt8} {l : List Kn} (h : getK s = .inr l) : l.length ≤ 4096 := by
  unfold getK at h
  simp only at h
  split at h
  · cases h
  · split at h
    · cases h
    · split at h
      · cases h
        have l1 := scanN_len' s 0 0 4096 (by decide) (by decide)
        have := (knM_fine (scanN s 0 0 4096).1.toNat (scanN s 0 0 4096).2.1 (scanN s 0 0 4096).2.2 [] (by simp)).2.1
        simp only [List.length_nil] at this
        omega
      · cases h
abbrev KnT : Ty := .list (.rcd (.pair (.sint .i64) (.pair (.arr 32 .u8) (.rcd (.pair .str (.pair (.sint .i64) (.sint .i64)))))))
theorem bytes_run (m : Nat) (b c : Bool) {l : KnT.den} (hx : KnT.ok l) (y : List UInt8) : (F_w20_IndexBytes (m + 5000) b l c y).run = some true := by
  have hid : ∀ x ∈ l, x.2.1.length = 32 := fun x hx' => ((hx.2 x hx').2.1).1
  generalize hn : m + 5000 = n
  have aw : (F_w20_awake n).run = some true := by rw [← hn]; exact awake20 m
  have sn := sameN (n := n) (by omega)
  unfold F_w20_IndexBytes
  simp only [Tree.run, aw, Option.bind_some]
  cases hd : (decide ((60 : Int) < ln l) || decide ((4000 : Int) < ln y))
  · simp only [Bool.or_eq_false_iff, decide_eq_false_iff_not, ln] at hd
    have hll : List.length l ≤ 60 := by omega
    have hy : y.length ≤ 140737488355328 := by omega
    have hf := few20 aw b (l := l) (by omega) n 0 (by omega) (by omega)
    rw [List.drop_zero] at hf
    have g2 := rgetK (n := n) (by omega) c hy
    rcases hf with hf | ⟨hf, hnm⟩
    · have hf' : (F_w20_IndexBytes_l0 n n b l (ln l) 0).run = some (.inl true) := hf
      simp only [cond_false, hf', run_l, Tree.run, Option.bind_some]
    · have hf' : (F_w20_IndexBytes_l0 n n b l (ln l) 0).run = some (.inr ()) := hf
      have p1 := cputK' (n := n) (by omega) b hnm (by omega)
      have p2 := rputK' (n := n) (by omega) b (l := l) (fun x hx' => ⟨hnm x hx', hid x hx'⟩) (by omega)
      simp only [cond_false, hf', run_r, Tree.run, own_app hy, cgetK (n := n) (by omega) hy, Option.bind_some]
      cases hg : getK y with
      | inl er =>
        rw [hg] at g2
        simp only [run_l, Tree.run, g2, p1, p2, sn, aw, Option.bind_some, decide_true, cond_true]
      | inr v =>
        rw [hg] at g2
        have s1 := sameK (n := n) false (l := v) (by have := getK_len hg; omega) (by have := getK_len hg; omega)
        simp only [run_r, Tree.run, g2, p1, p2, s1, aw, Option.bind_some, decide_true, cond_true]
  · simp only [cond_true]
end Go.Proofs.Ytdlbmjbbnplpjaa
