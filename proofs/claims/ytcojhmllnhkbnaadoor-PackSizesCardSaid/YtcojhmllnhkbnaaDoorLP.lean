/- How blobs lie in a pack, the program's and the document's. -/
import Derived.Test.YtcojhmllnhkbnaaDoorLN
set_option linter.unusedVariables false
set_option linter.unusedSimpArgs false
set_option maxRecDepth 100000
namespace Go.Proofs.YtcojhmllnhkbnaaDoor
open Hyp
abbrev It := Int × (List UInt8 × (Int × Int))
def badI (x : It) : Bool := decide (x.1 < 1) || (decide (3 < x.1) || decide (x.2.2.2 < 28))
def place : Int → List It → List It
  | _, [] => []
  | at_, x :: l => (x.1, (x.2.1, (at_, x.2.2.2))) :: place (at_ + x.2.2.2) l
def sumI : List It → Int
  | [] => 0
  | x :: l => x.2.2.2 + sumI l
theorem place_len : ∀ (l : List It) (a : Int), (place a l).length = l.length
  | [], _ => rfl
  | x :: l, a => congrArg (· + 1) (place_len l _)
theorem sumI_pos : ∀ {l : List It}, l.any badI = false → 0 ≤ sumI l
  | [], _ => by simp [sumI]
  | x :: l, h => by
    rw [List.any_cons, Bool.or_eq_false_iff] at h
    have h1 := h.1
    unfold badI at h1
    simp only [Bool.or_eq_false_iff, decide_eq_false_iff_not] at h1
    have := sumI_pos h.2
    simp only [sumI]
    omega
theorem blob28 (n : Nat) : (F_blob_Size n 0).run = some 28 := by kernel_rfl
theorem blobSize (n m : Nat) (h : m ≤ 4611686018427387904) : (F_blob_Size n (m : Int)).run = some ((m : Int) + 28) := by
  unfold F_blob_Size F_box_Size
  have e1 : maxI (m : Int) 0 = m := by unfold maxI; split <;> omega
  have e2 : w64 ((m : Int) + 16) = m + 16 := w64_id (by omega) (by omega)
  have e3 : w64 (12 + ((m : Int) + 16)) = m + 28 := by rw [w64_id (by omega) (by omega)]; omega
  simp only [Tree.run, e1, e2, e3, Option.bind_some]
theorem laid_l0 (n : Nat) : ∀ (k : Nat) (rest done : List It) (a z : Int) , 1 ≤ a → a ≤ 65537 → rest.length < k → z = ((done.length + rest.length : Nat) : Int) → done.length + rest.length ≤ 64 →
    (rest.any badI = true → ∃ y, (F_pack_laid_l0 n k a z (done.length : Int) (done ++ rest)).run = some (.inl y)) ∧
    (rest.any badI = false → ∃ l', (F_pack_laid_l0 n k a z (done.length : Int) (done ++ rest)).run = some (.inr (min (a + sumI rest) 65537, l')) ∧ (a + sumI rest ≤ 65536 → l' = done ++ place a rest))
  | 0, _, _, _, _, _, _, h, _, _ => by omega
  | k + 1, [], done, a, z, h1, h2, h3, hz, h4 => by
    have e1 : decide ((done.length : Int) < z) = false := by simp [hz]
    refine ⟨fun h => (by cases h), fun _ => ⟨done ++ [], ?_, fun _ => rfl⟩⟩
    unfold F_pack_laid_l0
    have : min (a + sumI []) 65537 = a := by simp only [sumI]; omega
    simp only [Tree.run, e1, cond_false, this]
  | k + 1, x :: rest, done, a, z, h1, h2, h3, hz, h4 => by
    rw [List.length_cons] at h3 h4 hz
    have e1 : decide ((done.length : Int) < z) = true := by simp; omega
    have hl : done.length < (done ++ x :: rest).length := by simp
    have e2 : inI (done ++ x :: rest).length (done.length : Int) = some done.length := inI_nat hl
    have e3 : gt (done ++ x :: rest) (0 + done.length) = some x := by
      rw [Nat.zero_add, gt_lt hl]; simp
    have e4 : w64 ((done.length : Int) + 1) = ((done.length + 1 : Nat) : Int) := w64_succ (by omega)
    unfold F_pack_laid_l0
    simp only [Tree.run, e1, cond_true, e2, e3, e4, Option.bind_some, blob28]
    rw [List.any_cons]
    by_cases c1 : x.1 < 1
    · have b1 : decide (x.1 < (1 : Int)) = true := by simp [c1]
      simp only [b1, cond_true, badI, Bool.true_or]
      exact ⟨fun _ => ⟨_, rfl⟩, fun h => by cases h⟩
    have b1 : decide (x.1 < (1 : Int)) = false := by simp [c1]
    simp only [b1, cond_false]
    by_cases c2 : 3 < x.1
    · have b2 : decide ((3 : Int) < x.1) = true := by simp [c2]
      simp only [b2, cond_true, badI, Bool.true_or, Bool.or_true]
      exact ⟨fun _ => ⟨_, rfl⟩, fun h => by cases h⟩
    have b2 : decide ((3 : Int) < x.1) = false := by simp [c2]
    simp only [b2, cond_false]
    by_cases c3 : x.2.2.2 < 28
    · have b3 : decide (x.2.2.2 < 28) = true := by simp [c3]
      simp only [b3, cond_true, badI, Bool.true_or, Bool.or_true]
      exact ⟨fun _ => ⟨_, rfl⟩, fun h => by cases h⟩
    have b3 : decide (x.2.2.2 < 28) = false := by simp [c3]
    have hbx : badI x = false := by simp [badI, c1, c2, c3]
    simp only [b3, cond_false, hbx, Bool.false_or]
    by_cases c4 : 65536 < x.2.2.2
    · have b4 : decide ((65536 : Int) < x.2.2.2) = true := by simp [c4]
      simp only [b4, cond_true]
      obtain ⟨r1, r2⟩ := laid_l0 n k rest (done ++ [x]) 65537 z (by omega) (by omega) (by omega) (by rw [hz]; simp; omega) (by simp; omega)
      rw [List.length_append, List.length_singleton, List.append_assoc, List.singleton_append] at r1 r2
      refine ⟨fun h => ?_, fun h => ?_⟩
      · obtain ⟨y, hy⟩ := r1 h
        exact ⟨y, by simp only [hy, Option.bind_some, run_l, Tree.run]⟩
      · obtain ⟨l', hy, _⟩ := r2 h
        have hp := sumI_pos h
        refine ⟨l', ?_, fun hh => ?_⟩
        · have : min (65537 + sumI rest) 65537 = min (a + sumI (x :: rest)) 65537 := by simp only [sumI]; omega
          simp only [hy, Option.bind_some, run_r, Tree.run, this]
        · simp only [sumI] at hh; omega
    · have b4 : decide ((65536 : Int) < x.2.2.2) = false := by simp; omega
      have e5 : w64 (a + x.2.2.2) = a + x.2.2.2 := w64_id (by omega) (by omega)
      have e6 : minI (a + x.2.2.2) 65537 = min (a + x.2.2.2) 65537 := by unfold minI; split <;> omega
      have e7 : List.set (done ++ x :: rest) (0 + done.length) (x.1, (x.2.1, (a, x.2.2.2))) = (done ++ [(x.1, (x.2.1, (a, x.2.2.2)))]) ++ rest := by
        rw [Nat.zero_add, List.set_append_right _ _ (Nat.le_refl _), Nat.sub_self, List.set_cons_zero, List.append_assoc]; rfl
      simp only [b4, cond_false, e5, e6, e7]
      obtain ⟨r1, r2⟩ := laid_l0 n k rest (done ++ [(x.1, (x.2.1, (a, x.2.2.2)))]) (min (a + x.2.2.2) 65537) z (by omega) (by omega) (by omega) (by rw [hz]; simp; omega) (by simp; omega)
      rw [List.length_append, List.length_singleton] at r1 r2
      refine ⟨fun h => ?_, fun h => ?_⟩
      · obtain ⟨y, hy⟩ := r1 h
        exact ⟨y, by simp only [hy, Option.bind_some, run_l, Tree.run]⟩
      · obtain ⟨l', hy, hl'⟩ := r2 h
        have hp := sumI_pos h
        refine ⟨l', ?_, fun hh => ?_⟩
        · have : min (min (a + x.2.2.2) 65537 + sumI rest) 65537 = min (a + sumI (x :: rest)) 65537 := by simp only [sumI]; omega
          simp only [hy, Option.bind_some, run_r, Tree.run, this]
        · simp only [sumI] at hh
          have hm : min (a + x.2.2.2) 65537 = a + x.2.2.2 := by omega
          rw [hl' (by omega), hm, List.append_assoc]
          rfl
/-! ### The header's text -/
def txt : List UInt8 → List It → List UInt8
  | b, [] => b
  | b, x :: l => txt (num (num (num b x.1 ++ x.2.1.take 32) x.2.2.1) x.2.2.2) l
theorem txt_len : ∀ (l : List It) (b : List UInt8), (txt b l).length ≤ b.length + 56 * l.length
  | [], b => by simp [txt]
  | x :: l, b => by
    have h := txt_len l (num (num (num b x.1 ++ x.2.1.take 32) x.2.2.1) x.2.2.2)
    have h1 := num_len b x.1
    have h2 := num_len (num b x.1 ++ x.2.1.take 32) x.2.2.1
    have h3 := num_len (num (num b x.1 ++ x.2.1.take 32) x.2.2.1) x.2.2.2
    rw [List.length_append, List.length_take] at h2
    simp only [txt, List.length_cons]
    omega
theorem text_l0 {n : Nat} (hn : 9 < n) (b0 : Bool) (l : List It) (z : Int) (hz : z = l.length) (hl : l.length ≤ 64) : ∀ (k i : Nat) (b : List UInt8), i ≤ l.length → l.length < i + k → b.length + 56 * (l.length - i) ≤ 100000 →
    (F_pack_text_l0 n k b0 l z (i : Int) b).run = some (if i = l.length then .inl () else .inr (txt b (l.drop i)))
  | 0, i, b, h1, h2, _ => by omega
  | k + 1, i, b, h1, h2, h3 => by
    unfold F_pack_text_l0
    by_cases hi : i = l.length
    · have e1 : decide ((i : Int) < z) = false := by simp; omega
      simp only [Tree.run, e1, cond_false, if_pos hi]
    · have hlt : i < l.length := by omega
      have e1 : decide ((i : Int) < z) = true := by simp; omega
      have e2 : getI l (i : Int) = some l[i] := getI_lt hlt
      have e4 : w64 ((i : Int) + 1) = ((i + 1 : Nat) : Int) := w64_succ (by omega)
      have n1 := num_len b l[i].1
      have ht : (l[i].2.1.take 32).length ≤ 32 := by simp; omega
      have e5 : appI 140737488355328 (num b l[i].1) (List.take 32 (List.drop 0 l[i].2.1)) = some (num b l[i].1 ++ l[i].2.1.take 32) := appI_le (by rw [List.drop_zero]; omega)
      have n2 := num_len (num b l[i].1 ++ l[i].2.1.take 32) l[i].2.2.1
      rw [List.length_append] at n2
      have n3 := num_len (num (num b l[i].1 ++ l[i].2.1.take 32) l[i].2.2.1) l[i].2.2.2
      have e6 := cnum1 hn b (by omega) l[i].1
      have e7 := cnum1 hn (num b l[i].1 ++ l[i].2.1.take 32) (by rw [List.length_append]; omega) l[i].2.2.1
      have e8 := cnum1 hn (num (num b l[i].1 ++ l[i].2.1.take 32) l[i].2.2.1) (by omega) l[i].2.2.2
      have e9 := text_l0 hn b0 l z hz hl k (i + 1) (num (num (num b l[i].1 ++ l[i].2.1.take 32) l[i].2.2.1) l[i].2.2.2) (by omega) (by omega) (by omega)
      simp only [Tree.run, e1, cond_true, e2, e4, e5, e6, e7, e8, e9, Option.bind_some, if_neg hi]
      have hd : l.drop i = l[i] :: l.drop (i + 1) := List.drop_eq_getElem_cons hlt
      by_cases h9 : i + 1 = l.length
      · simp only [if_pos h9, run_l, Tree.run, hd, txt]
        rw [List.drop_eq_nil_of_le (by omega)]
        rfl
      · simp only [if_neg h9, run_r, Tree.run, hd, txt]
theorem pack_text {n : Nat} (hn : 64 < n) (b0 : Bool) (l : List It) (hl : l.length ≤ 64) : (F_pack_text n b0 l).run = some (txt (num [] l.length) l) := by
  unfold F_pack_text
  have n1 := num_len [] (l.length : Int)
  have e := text_l0 (n := n) (by omega) b0 l (ln l) rfl hl n 0 (num [] l.length) (by omega) (by omega) (by simp at n1; omega)
  have e0 := cnum0 (n := n) (by omega) (ln l)
  have e : (F_pack_text_l0 n n b0 l (ln l) (0 : Int) (num [] (ln l))).run = _ := e
  simp only [Tree.run, e0, e, Option.bind_some]
  by_cases h0 : 0 = l.length
  · have : l = [] := List.length_eq_zero_iff.1 h0.symm
    subst this
    rfl
  · simp only [if_neg h0, run_r, Tree.run]
    rfl
/-! ### The document's -/
theorem rlay_l0 (n : Nat) (b0 : Bool) (l : List It) (hl : l.length ≤ 64) : ∀ (k i : Nat), i ≤ l.length → l.length < i + k →
    (F_r19_Lay_l0 n k b0 l (i : Int)).run = some (if (l.drop i).any badI then .inl () else .inr ())
  | 0, i, h1, h2 => by omega
  | k + 1, i, h1, h2 => by
    unfold F_r19_Lay_l0
    by_cases hi : i < l.length
    · have e1 : decide ((i : Int) < (ln l)) = true := by simp; omega
      have e2 : getI l (i : Int) = some l[i] := getI_lt hi
      have e4 : w64 ((i : Int) + 1) = ((i + 1 : Nat) : Int) := w64_succ (by omega)
      have e5 := rlay_l0 n b0 l hl k (i + 1) (by omega) (by omega)
      rw [List.drop_eq_getElem_cons hi, List.any_cons]
      simp only [Tree.run, e1, cond_true, e2, e4, e5, Option.bind_some]
      by_cases c1 : l[i].1 < 1
      · have b1 : decide (l[i].1 < (1 : Int)) = true := by simp [c1]
        simp only [b1, cond_true, badI, Bool.true_or, if_true]
      have b1 : decide (l[i].1 < (1 : Int)) = false := by simp [c1]
      by_cases c2 : 3 < l[i].1
      · have b2 : decide ((3 : Int) < l[i].1) = true := by simp [c2]
        simp only [b1, b2, cond_true, cond_false, badI, Bool.true_or, Bool.or_true, if_true]
      have b2 : decide ((3 : Int) < l[i].1) = false := by simp [c2]
      by_cases c3 : l[i].2.2.2 < 28
      · have b3 : decide (l[i].2.2.2 < 28) = true := by simp [c3]
        simp only [b1, b2, b3, cond_true, cond_false, badI, Bool.true_or, Bool.or_true, if_true]
      have b3 : decide (l[i].2.2.2 < 28) = false := by simp [c3]
      simp only [b1, b2, b3, cond_false, badI, Bool.false_or]
      cases h : (l.drop (i + 1)).any badI with
      | true => simp only [if_true, run_l, Tree.run]
      | false => simp only [Bool.false_eq_true, if_false, run_r, Tree.run]
    · have e1 : decide ((i : Int) < (ln l)) = false := by simp; omega
      have : l.drop i = [] := List.drop_eq_nil_of_le (by omega)
      simp only [Tree.run, e1, cond_false, this, List.any_nil, Bool.false_eq_true, if_false]
theorem rlay_l2 (n : Nat) (b0 : Bool) (l : List It) (hl : l.length ≤ 64) (hb : l.any badI = false) : ∀ (k i : Nat) (a : Int) (acc : List It), i ≤ l.length → l.length < i + k → 1 ≤ a → a ≤ 65536 → acc.length ≤ i →
    ∃ r, (F_r19_Lay_l2 n k b0 l a (i : Int) acc).run = some r ∧
      (i = l.length → r = .inr (.inl ())) ∧ (i < l.length → 65536 < a + sumI (l.drop i) → r = .inl () ∨ r = .inr (.inr (.inl ()))) ∧ (i < l.length → a + sumI (l.drop i) ≤ 65536 → r = .inr (.inr (.inr (a + sumI (l.drop i), acc ++ place a (l.drop i)))))
  | 0, i, a, acc, h1, h2, _, _, _ => by omega
  | k + 1, i, a, acc, h1, h2, ha1, ha2, hacc => by
    unfold F_r19_Lay_l2
    by_cases hi : i < l.length
    · have e1 : decide ((i : Int) < (ln l)) = true := by simp; omega
      have e2 : getI l (i : Int) = some l[i] := getI_lt hi
      have e4 : w64 ((i : Int) + 1) = ((i + 1 : Nat) : Int) := w64_succ (by omega)
      have hd := List.drop_eq_getElem_cons hi
      have hbi : badI l[i] = false := by
        rw [List.any_eq_false] at hb
        simpa using hb l[i] (List.getElem_mem hi)
      have hs : 28 ≤ l[i].2.2.2 := by
        unfold badI at hbi
        simp only [Bool.or_eq_false_iff, decide_eq_false_iff_not] at hbi
        omega
      have hrest : (l.drop (i + 1)).any badI = false := by
        rw [List.any_eq_false] at hb ⊢
        exact fun x hx => hb x (List.mem_of_mem_drop hx)
      have hp := sumI_pos hrest
      have e5 : w64 (65536 - a) = 65536 - a := w64_id (by omega) (by omega)
      rw [hd]
      simp only [Tree.run, e1, cond_true, e2, e4, e5, Option.bind_some]
      by_cases c : 65536 - a < l[i].2.2.2
      · have b1 : decide ((65536 : Int) - a < l[i].2.2.2) = true := by simp [c]
        simp only [b1, cond_true]
        refine ⟨_, rfl, fun h => (by omega), fun _ _ => .inl rfl, fun _ h => ?_⟩
        simp only [sumI] at h
        omega
      · have b1 : decide ((65536 : Int) - a < l[i].2.2.2) = false := by simp; omega
        have e6 : appI 2513169434916 acc (List.set ([((0 : Int), ((zs 32), ((0 : Int), (0 : Int))))] : List (Int × ((List UInt8) × (Int × Int)))) 0 (l[i].1, (l[i].2.1, (a, l[i].2.2.2)))) = some (acc ++ [(l[i].1, (l[i].2.1, (a, l[i].2.2.2)))]) := appI_le (by simp; omega)
        have e7 : w64 (a + l[i].2.2.2) = a + l[i].2.2.2 := w64_id (by omega) (by omega)
        obtain ⟨r, hr, r1, r2, r3⟩ := rlay_l2 n b0 l hl hb k (i + 1) (a + l[i].2.2.2) (acc ++ [(l[i].1, (l[i].2.1, (a, l[i].2.2.2)))]) (by omega) (by omega) (by omega) (by omega) (by simp; omega)
        simp only [b1, cond_false, e6, e7, hr, Option.bind_some]
        by_cases h9 : i + 1 = l.length
        · rw [r1 h9]
          have hn : l.drop (i + 1) = [] := List.drop_eq_nil_of_le (by omega)
          rw [hn]
          refine ⟨_, rfl, fun h => (by omega), fun _ h => ?_, fun _ h => ?_⟩
          · simp only [sumI] at h; omega
          · simp only [sumI, place, Int.add_zero]
        · by_cases hov : 65536 < a + l[i].2.2.2 + sumI (l.drop (i + 1))
          · refine ⟨.inr (.inr (.inl ())), ?_, fun h => (by omega), fun _ _ => .inr rfl, fun _ h => ?_⟩
            · rcases r2 (by omega) hov with h | h <;> rw [h] <;> rfl
            · simp only [sumI] at h; omega
          · rw [r3 (by omega) (by omega)]
            refine ⟨_, rfl, fun h => (by omega), fun _ h => ?_, fun _ h => ?_⟩
            · simp only [sumI] at h; omega
            · simp only [sumI, place, List.append_assoc, List.singleton_append, Int.add_assoc]
    · have e1 : decide ((i : Int) < (ln l)) = false := by simp; omega
      simp only [Tree.run, e1, cond_false]
      exact ⟨_, rfl, fun _ => rfl, fun h => by omega, fun h => by omega⟩
theorem rtext_l2 (n : Nat) (b0 : Bool) (l : List It) {i : Nat} (hi : i < l.length) (h32 : l[i].2.1.length = 32) : ∀ (k j : Nat) (b : List UInt8), j ≤ 32 → 32 < j + k → b.length + 32 ≤ 200000 + j →
    (F_r19_Text_l2 n k b0 l (i : Int) (j : Int) b).run = some (if j = 32 then .inl () else .inr (b ++ (l[i].2.1).drop j))
  | 0, j, b, h1, h2, _ => by omega
  | k + 1, j, b, h1, h2, hb => by
    unfold F_r19_Text_l2
    by_cases hj : j = 32
    · have e1 : decide ((j : Int) < 32) = false := by simp; omega
      simp only [Tree.run, e1, cond_false, if_pos hj]
    · have e1 : decide ((j : Int) < 32) = true := by simp; omega
      have e2 : getI l (i : Int) = some l[i] := getI_lt hi
      have e3 : getI l[i].2.1 (j : Int) = some l[i].2.1[j] := getI_lt (by omega)
      have e4 : w64 ((j : Int) + 1) = ((j + 1 : Nat) : Int) := w64_succ (by omega)
      have e5 : appI 140737488355328 b (List.set ([0] : List UInt8) 0 l[i].2.1[j]) = some (b ++ [l[i].2.1[j]]) := appI_le (by simp; omega)
      have hd := List.drop_eq_getElem_cons (l := l[i].2.1) (i := j) (by omega)
      by_cases h9 : j + 1 = 32
      · have hn : l[i].2.1.drop (j + 1) = [] := List.drop_eq_nil_of_le (by omega)
        obtain ⟨k', rfl⟩ : ∃ k', k = k' + 1 := ⟨k - 1, by omega⟩
        have e6 := rtext_l2 n b0 l hi h32 (k' + 1) (j + 1) (b ++ [l[i].2.1[j]]) (by omega) (by omega) (by simp; omega)
        simp only [Tree.run, e1, cond_true, e2, e3, e4, e5, e6, Option.bind_some, if_neg hj, if_pos h9, run_l, Tree.run, hd, hn]
      · have e6 := rtext_l2 n b0 l hi h32 k (j + 1) (b ++ [l[i].2.1[j]]) (by omega) (by omega) (by simp; omega)
        simp only [Tree.run, e1, cond_true, e2, e3, e4, e5, e6, Option.bind_some, if_neg hj, if_neg h9, run_r, Tree.run, hd, List.append_assoc, List.singleton_append]
theorem rtext_l0 {n : Nat} (hn : 32 < n) (b0 : Bool) (l : List It) (hl : l.length ≤ 64) (h32 : ∀ x ∈ l, x.2.1.length = 32) : ∀ (k i : Nat) (b : List UInt8), i ≤ l.length → l.length < i + k → b.length + 56 * (l.length - i) ≤ 100000 →
    (F_r19_Text_l0 n k b0 l (i : Int) b).run = some (if i = l.length then .inl () else .inr (txt b (l.drop i)))
  | 0, i, b, h1, h2, _ => by omega
  | k + 1, i, b, h1, h2, h3 => by
    unfold F_r19_Text_l0
    by_cases hi : i = l.length
    · have e1 : decide ((i : Int) < (ln l)) = false := by simp; omega
      simp only [Tree.run, e1, cond_false, if_pos hi]
    · have hlt : i < l.length := by omega
      have hi32 := h32 l[i] (List.getElem_mem hlt)
      have ht : l[i].2.1.take 32 = l[i].2.1 := List.take_of_length_le (by omega)
      have e1 : decide ((i : Int) < (ln l)) = true := by simp; omega
      have e2 : getI l (i : Int) = some l[i] := getI_lt hlt
      have e4 : w64 ((i : Int) + 1) = ((i + 1 : Nat) : Int) := w64_succ (by omega)
      have n1 := num_len b l[i].1
      have n2 := num_len (num b l[i].1 ++ l[i].2.1) l[i].2.2.1
      rw [List.length_append] at n2
      have n3 := num_len (num (num b l[i].1 ++ l[i].2.1) l[i].2.2.1) l[i].2.2.2
      have e6 := rnum1 (n := n) (by omega) b (by omega) l[i].1
      have e5 : (F_r19_Text_l2 n n b0 l (i : Int) (0 : Int) (num b l[i].1)).run = some (.inr (num b l[i].1 ++ l[i].2.1)) := by
        have := rtext_l2 n b0 l hlt hi32 n 0 (num b l[i].1) (by omega) (by omega) (by omega)
        rw [if_neg (by decide), List.drop_zero] at this
        exact this
      have e7 := rnum1 (n := n) (by omega) (num b l[i].1 ++ l[i].2.1) (by rw [List.length_append]; omega) l[i].2.2.1
      have e8 := rnum1 (n := n) (by omega) (num (num b l[i].1 ++ l[i].2.1) l[i].2.2.1) (by omega) l[i].2.2.2
      have e9 := rtext_l0 hn b0 l hl h32 k (i + 1) (num (num (num b l[i].1 ++ l[i].2.1) l[i].2.2.1) l[i].2.2.2) (by omega) (by omega) (by omega)
      simp only [Tree.run, e1, cond_true, e2, e4, e5, e6, e7, e8, e9, Option.bind_some, if_neg hi, run_r]
      have hd : l.drop i = l[i] :: l.drop (i + 1) := List.drop_eq_getElem_cons hlt
      by_cases h9 : i + 1 = l.length
      · simp only [if_pos h9, run_l, Tree.run, hd, txt, ht]
        rw [List.drop_eq_nil_of_le (by omega)]
        rfl
      · simp only [if_neg h9, run_r, Tree.run, hd, txt, ht]
theorem rpack_text {n : Nat} (hn : 64 < n) (b0 : Bool) (l : List It) (hl : l.length ≤ 64) (h32 : ∀ x ∈ l, x.2.1.length = 32) : (F_r19_Text n b0 l).run = some (txt (num [] l.length) l) := by
  unfold F_r19_Text
  have n1 := num_len [] (l.length : Int)
  have e := rtext_l0 (n := n) (by omega) b0 l hl h32 n 0 (num [] l.length) (by omega) (by omega) (by simp at n1; omega)
  have e0 := rnum0 (n := n) (by omega) (ln l)
  have e : (F_r19_Text_l0 n n b0 l (0 : Int) (num [] (ln l))).run = _ := e
  simp only [Tree.run, e0, e, Option.bind_some]
  by_cases h0 : 0 = l.length
  · have : l = [] := List.length_eq_zero_iff.1 h0.symm
    subst this
    rfl
  · simp only [if_neg h0, run_r, Tree.run]
    rfl
/-! ### All together -/
/-- Rounded up to whole blocks. -/
def rup (t : Nat) : Nat := t + (512 - t % 512) % 512
theorem lay_l4 (n : Nat) : ∀ (k t : Nat), (512 - t % 512) % 512 < k → t + k ≤ 9223372036854775807 → (F_r19_Lay_l4 n k (t : Int)).run = some ((rup t : Nat) : Int)
  | 0, t, h, _ => by omega
  | k + 1, t, h, ht => by
    unfold F_r19_Lay_l4
    by_cases h0 : t % 512 = 0
    · have e1 : (!(decide ((Int.tmod (t : Int) 512) = (0 : Int)))) = false := by
        have : Int.tmod (t : Int) 512 = ((t % 512 : Nat) : Int) := rfl
        rw [this, h0]; rfl
      have : rup t = t := by unfold rup; omega
      simp only [Tree.run, e1, cond_false, this]
    · have e1 : (!(decide ((Int.tmod (t : Int) 512) = (0 : Int)))) = true := by
        have : Int.tmod (t : Int) 512 = ((t % 512 : Nat) : Int) := rfl
        rw [this]; simp; omega
      have e2 : w64 ((t : Int) + 1) = ((t + 1 : Nat) : Int) := w64_succ (by omega)
      by_cases hk : k = 0
      · omega
      have e3 := lay_l4 n k (t + 1) (by omega) (by omega)
      have : rup (t + 1) = rup t := by unfold rup; omega
      simp only [Tree.run, e1, cond_true, e2, e3, Option.bind_some, this]
/-- How many bytes a pack of such blobs has, or why there is none. -/
def tot (l : List It) : Nat := rup ((8 + sumI l + 28).toNat + (txt (num [] l.length) (place 8 l)).length)
def laidS (l : List It) : Option (Int × (Int × List It)) ⊕ Unit :=
  if l.length < 1 ∨ 64 < l.length then .inl none else if l.any badI = true then .inl none else if 65536 < 8 + sumI l then .inr () else
  if 65536 < (tot l : Int) then .inr () else .inl (some (8 + sumI l, ((tot l : Nat) : Int), place 8 l))
def errS (l : List It) : Int := match laidS l with | .inl none => 1 | .inr () => 2 | .inl (some _) => 0
def endS (l : List It) : Int := match laidS l with | .inl (some x) => x.1 | _ => 0
def sizS (l : List It) : Int := match laidS l with | .inl (some x) => x.2.1 | _ => 0
theorem pack_laid {n : Nat} (hn : 64 < n) (l : List It) : ∃ l', (F_pack_laid n l).run = some (endS l, sizS l, errS l, l') ∧ (errS l = 0 → l' = place 8 l) := by
  unfold F_pack_laid endS sizS errS laidS
  by_cases c1 : l.length < 1 ∨ 64 < l.length
  · have e1 : ((decide ((ln l) < (1 : Int))) || (decide ((64 : Int) < (ln l)))) = true := by rw [show ln l = ((l.length : Nat) : Int) from rfl]; simp; omega
    simp only [Tree.run, e1, cond_true, if_pos c1]
    exact ⟨l, rfl, fun h => by cases h⟩
  · have e1 : ((decide ((ln l) < (1 : Int))) || (decide ((64 : Int) < (ln l)))) = false := by rw [show ln l = ((l.length : Nat) : Int) from rfl]; simp; omega
    obtain ⟨r1, r2⟩ := laid_l0 n n l [] 8 (ln l) (by omega) (by omega) (by omega) (by simp) (by simp; omega)
    have r1 : l.any badI = true → ∃ y, (F_pack_laid_l0 n n 8 (ln l) (0 : Int) l).run = some (.inl y) := r1
    have r2 : l.any badI = false → ∃ l', (F_pack_laid_l0 n n 8 (ln l) (0 : Int) l).run = some (.inr (min (8 + sumI l) 65537, l')) ∧ (8 + sumI l ≤ 65536 → l' = [] ++ place 8 l) := r2
    cases hb : l.any badI with
    | true =>
      obtain ⟨y, hy⟩ := r1 hb
      simp only [Tree.run, e1, cond_false, hy, Option.bind_some, run_l, if_neg c1, if_true]
      exact ⟨y, rfl, fun h => by cases h⟩
    | false =>
      obtain ⟨l', hy, hl'⟩ := r2 hb
      have hp := sumI_pos hb
      by_cases c2 : 65536 < 8 + sumI l
      · have hm : min (8 + sumI l) 65537 = 65537 := by omega
        simp only [Tree.run, e1, cond_false, hy, Option.bind_some, run_r, if_neg c1, Bool.false_eq_true, if_false, if_pos c2, hm]
        exact ⟨l', rfl, fun h => by cases h⟩
      · have hm : min (8 + sumI l) 65537 = 8 + sumI l := by omega
        have hl2 : l' = place 8 l := hl' (by omega)
        subst hl2
        have e2 : decide ((65536 : Int) < 8 + sumI l) = false := by simp; omega
        have e3 := pack_text hn false (place 8 l) (by rw [place_len]; omega)
        rw [place_len] at e3
        have n0 := num_len [] (l.length : Int)
        have n1 := txt_len (place 8 l) (num [] l.length)
        rw [place_len] at n1
        simp only [List.length_nil] at n0
        have e4 := blobSize n (txt (num [] l.length) (place 8 l)).length (by omega)
        have e5 : w64 (8 + sumI l + (((txt (num [] l.length) (place 8 l)).length : Int) + 28)) = (((8 + sumI l + 28).toNat + (txt (num [] l.length) (place 8 l)).length : Nat) : Int) := by rw [w64_id (by omega) (by omega)]; omega
        obtain ⟨t, ht⟩ : ∃ t, (8 + sumI l + 28).toNat + (txt (num [] l.length) (place 8 l)).length = t := ⟨_, rfl⟩
        have htot : tot l = rup t := by unfold tot; rw [ht]
        rw [ht] at e5
        have e6 : Int.tmod (t : Int) 512 = ((t % 512 : Nat) : Int) := rfl
        have e7 : w64 (512 - ((t % 512 : Nat) : Int)) = ((512 - t % 512 : Nat) : Int) := by rw [w64_id (by omega) (by omega)]; omega
        have e8 : Int.tmod ((512 - t % 512 : Nat) : Int) 512 = (((512 - t % 512) % 512 : Nat) : Int) := rfl
        have e9 : w64 ((t : Int) + (((512 - t % 512) % 512 : Nat) : Int)) = ((rup t : Nat) : Int) := by rw [w64_id (by omega) (by omega)]; unfold rup; omega
        simp only [Tree.run, e1, cond_false, hy, Option.bind_some, run_r, if_neg c1, Bool.false_eq_true, if_false, if_neg c2, hm, e2, e3, e4, e5, e6, e7, e8, e9, htot]
        by_cases c3 : 65536 < ((rup t : Nat) : Int)
        · have b3 : decide ((65536 : Int) < ((rup t : Nat) : Int)) = true := by simp only [decide_eq_true_eq]; exact c3
          simp only [b3, cond_true, if_pos c3]
          exact ⟨_, rfl, fun h => by cases h⟩
        · have b3 : decide ((65536 : Int) < ((rup t : Nat) : Int)) = false := by simp only [decide_eq_false_iff_not]; exact c3
          simp only [b3, cond_false, if_neg c3]
          exact ⟨_, rfl, fun _ => rfl⟩
theorem place32 : ∀ (l : List It) (a : Int), (∀ x ∈ l, x.2.1.length = 32) → ∀ x ∈ place a l, x.2.1.length = 32
  | [], _, _, x, hx => by simp [place] at hx
  | y :: l, a, h, x, hx => by
    simp only [place, List.mem_cons] at hx
    rcases hx with rfl | hx
    · exact h y (by simp)
    · exact place32 l _ (fun z hz => h z (by simp [hz])) x hx
/-- Behind a way out there is nothing. -/
def listS (l : List It) : List It := match laidS l with | .inl (some x) => x.2.2 | _ => []
theorem rpack_laid {n : Nat} (hn : 600 < n) (hn2 : n ≤ 4611686018427387904) (b0 : Bool) (l : List It) (h32 : ∀ x ∈ l, x.2.1.length = 32) : (F_r19_Lay n b0 l).run = some (endS l, sizS l, errS l, listS l) := by
  unfold F_r19_Lay endS sizS errS listS laidS
  by_cases c1 : l.length < 1 ∨ 64 < l.length
  · have e1 : ((decide ((ln l) = (0 : Int))) || (decide ((64 : Int) < (ln l)))) = true := by rw [show ln l = ((l.length : Nat) : Int) from rfl]; simp only [Bool.or_eq_true, decide_eq_true_eq]; omega
    simp only [Tree.run, e1, cond_true, if_pos c1]
  · have e1 : ((decide ((ln l) = (0 : Int))) || (decide ((64 : Int) < (ln l)))) = false := by rw [show ln l = ((l.length : Nat) : Int) from rfl]; simp only [Bool.or_eq_false_iff, decide_eq_false_iff_not]; omega
    have r1 : (F_r19_Lay_l0 n n b0 l (0 : Int)).run = some (if (l.drop 0).any badI then .inl () else .inr ()) := rlay_l0 n b0 l (by omega) n 0 (by omega) (by omega)
    rw [List.drop_zero] at r1
    cases hb : l.any badI with
    | true =>
      simp only [Tree.run, e1, cond_false, r1, hb, Option.bind_some, if_true, run_l, if_neg c1]
    | false =>
      have hp := sumI_pos hb
      obtain ⟨r, hr, q1, q2, q3⟩ := rlay_l2 n b0 l (by omega) hb n 0 8 [] (by omega) (by omega) (by omega) (by omega) (by simp)
      have hr : (F_r19_Lay_l2 n n b0 l 8 (0 : Int) []).run = some r := hr
      rw [List.drop_zero] at q2 q3
      by_cases c2 : 65536 < 8 + sumI l
      · simp only [Tree.run, e1, cond_false, r1, hb, hr, Option.bind_some, Bool.false_eq_true, if_false, run_r, if_neg c1, if_pos c2]
        rcases q2 (by omega) c2 with h | h <;> rw [h] <;> rfl
      · have hq := q3 (by omega) (by omega)
        subst hq
        have e3 := rpack_text (n := n) (by omega) false (place 8 l) (by rw [place_len]; omega) (place32 l 8 h32)
        rw [place_len] at e3
        have n0 := num_len [] (l.length : Int)
        have n1 := txt_len (place 8 l) (num [] l.length)
        rw [place_len] at n1
        simp only [List.length_nil] at n0
        obtain ⟨t, ht⟩ : ∃ t, (8 + sumI l + 28).toNat + (txt (num [] l.length) (place 8 l)).length = t := ⟨_, rfl⟩
        have htot : tot l = rup t := by unfold tot; rw [ht]
        have e4 : w64 (8 + sumI l + 28) = 8 + sumI l + 28 := w64_id (by omega) (by omega)
        have e5 : w64 (8 + sumI l + 28 + (ln (txt (num [] l.length) (place 8 l)))) = (t : Int) := by
          rw [show ln (txt (num [] l.length) (place 8 l)) = (((txt (num [] l.length) (place 8 l)).length : Nat) : Int) from rfl, w64_id (by omega) (by omega)]; omega
        have e6 := lay_l4 n n t (by omega) (by omega)
        simp only [Tree.run, e1, cond_false, r1, hb, hr, Option.bind_some, Bool.false_eq_true, if_false, run_r, if_neg c1, if_neg c2, List.nil_append, e3, e4, e5, e6, htot]
        by_cases c3 : 65536 < ((rup t : Nat) : Int)
        · have b3 : decide ((65536 : Int) < ((rup t : Nat) : Int)) = true := by simp only [decide_eq_true_eq]; exact c3
          simp only [b3, cond_true, if_pos c3]
        · have b3 : decide ((65536 : Int) < ((rup t : Nat) : Int)) = false := by simp only [decide_eq_false_iff_not]; exact c3
          simp only [b3, cond_false, if_neg c3]
end Go.Proofs.YtcojhmllnhkbnaaDoor
