/- Numbers in plain words, the program's and the document's. -/
import Derived.Test.YtcojhmllnhkbnaaDoorPB
set_option linter.unusedVariables false
set_option linter.unusedSimpArgs false
namespace Go.Proofs.YtcojhmllnhkbnaaDoor
open Hyp
theorem clamp_far (x : Int) : clamp far x ≤ 9007199254740992 := clamp_le far x
theorem cnum_l0 (n : Nat) {arr : List UInt8} (h8 : arr.length = 8) : ∀ (j k : Nat) (b : List UInt8), j ≤ 8 → j < k → b.length + j ≤ 140737488355328 → (F_codec_Number_l0 n k ((j : Int) - 1) arr b).run = some (if j = 0 then .inl () else .inr (b ++ (arr.take j).reverse))
  | _, 0, _, _, h, _ => by omega
  | 0, k + 1, b, _, _, _ => by
    unfold F_codec_Number_l0
    rfl
  | i + 1, k + 1, b, hj, hk, hb => by
    unfold F_codec_Number_l0
    have e0 : ((i + 1 : Nat) : Int) - 1 = (i : Int) := by omega
    have e1 : decide ((0 : Int) ≤ (i : Int)) = true := by simp
    have e2 : inI 8 (i : Int) = some i := inI_nat (by omega)
    have hi : i < arr.length := by omega
    have e3 : gt arr i = some arr[i] := gt_lt hi
    have e4 : appI 140737488355328 b (List.set ([0] : List UInt8) 0 arr[i]) = some (b ++ [arr[i]]) := appI_le (by simp; omega)
    have e5 : w64 ((i : Int) - 1) = (i : Int) - 1 := w64_id (by omega) (by omega)
    have e6 := cnum_l0 n h8 i k (b ++ [arr[i]]) (by omega) (by omega) (by simp; omega)
    rw [e0]
    simp only [Tree.run, e1, cond_true, e2, e3, e4, e5, Option.bind_some, e6]
    rw [List.take_succ_eq_append_getElem hi, List.reverse_append]
    by_cases h0 : i = 0
    · subst h0; simp [run_l, Tree.run]
    · simp [h0, run_r, Tree.run]
theorem set_done (done : List UInt8) (j r : Nat) (x : UInt8) (h : done.length = j) : (done ++ zs (r + 1)).set j x = done ++ [x] ++ zs r := by
  subst h
  rw [List.set_append_right _ _ (Nat.le_refl _), Nat.sub_self, List.append_assoc]
  rfl
theorem cnum_l1 (n : Nat) (hn : 9 < n) (b : List UInt8) (hb : b.length + 9 ≤ 140737488355328) : ∀ (k m j r : Nat) (done : List UInt8), done.length = j → j + r = 8 → (leB m).length ≤ r → (leB m).length < k →
    ∃ z, (F_codec_Number_l100000 n k (m : Int) (j : Int) b (done ++ zs r)).run = some (b ++ (UInt8.ofNat (j + (leB m).length) :: (done ++ leB m).reverse), z)
  | 0, m, j, r, done, hd, hr, hl, hk => by omega
  | k + 1, m, j, r, done, hd, hr, hl, hk => by
    unfold F_codec_Number_l100000
    by_cases hm : m = 0
    · subst hm
      have e1 : decide ((0 : Int) < ((0 : Nat) : Int)) = false := by simp
      have e2 : appI 140737488355328 ([] : List UInt8) b = some b := appI_le (by simp; omega)
      have e3 : appI 140737488355328 b (List.set ([0] : List UInt8) 0 (int8 (j : Int))) = some (b ++ [UInt8.ofNat j]) := by
        rw [int8_nat, ofNat_mod]; exact appI_le (by simp; omega)
      have e4 : w64 ((j : Int) - 1) = (j : Int) - 1 := w64_id (by omega) (by omega)
      have e5 := cnum_l0 n (arr := done ++ zs r) (by simp [zs]; omega) j n (b ++ [UInt8.ofNat j]) (by omega) (by omega) (by simp; omega)
      simp only [Tree.run, e1, cond_false, e2, e3, e4, e5, Option.bind_some, leB_zero]
      have e6 : (done ++ zs r).take j = done := by rw [← hd, List.take_left']; rfl
      rw [e6]
      by_cases h0 : j = 0
      · have : done = [] := List.length_eq_zero_iff.1 (by omega)
        subst this
        refine ⟨[] ++ zs r, ?_⟩
        simp only [h0, if_true, run_l, Tree.run]
        simp
      · refine ⟨done ++ zs r, ?_⟩
        simp only [h0, if_false, run_r, Tree.run]
        simp
    · have e1 : decide ((0 : Int) < (m : Int)) = true := by simp; omega
      rw [leB_pos hm, List.length_cons] at hl hk
      obtain ⟨r', rfl⟩ : ∃ r', r = r' + 1 := ⟨r - 1, by omega⟩
      have hj : j < (done ++ zs (r' + 1)).length := by simp [zs]; omega
      have e2 : inI 8 (j : Int) = some j := inI_nat (by omega)
      have e3 : gt (done ++ zs (r' + 1)) j = some _ := gt_lt hj
      have e4 : w64 ((j : Int) + 1) = ((j + 1 : Nat) : Int) := w64_succ (by omega)
      have e5 : List.set (done ++ zs (r' + 1)) j (int8 (m : Int)) = (done ++ [UInt8.ofNat (m % 256)]) ++ zs r' := by rw [int8_nat, set_done _ _ _ _ hd]
      obtain ⟨z, e6⟩ := cnum_l1 n hn b hb k (m / 256) (j + 1) r' (done ++ [UInt8.ofNat (m % 256)]) (by simp; omega) (by omega) (by omega) (by omega)
      simp only [Tree.run, e1, cond_true, e2, e3, e4, e5, shr8_nat, Option.bind_some, e6]
      refine ⟨z, ?_⟩
      rw [leB_pos hm]
      simp only [List.append_assoc, List.singleton_append, List.length_cons]
      rw [show j + 1 + (leB (m / 256)).length = j + ((leB (m / 256)).length + 1) by omega]
theorem cnum1 {n : Nat} (hn : 9 < n) (b : List UInt8) (hb : b.length + 9 ≤ 140737488355328) (x : Int) : (F_codec_Number_1 n x b).run = some (num b x) := by
  have h7 : (leB (clamp far x)).length ≤ 7 := by have := dig_clamp x; unfold dig at this; simpa using this
  obtain ⟨z, h⟩ := cnum_l1 n hn b hb (n + 1) (clamp far x) 0 8 [] rfl rfl (by omega) (by omega)
  unfold F_codec_Number_l100000 at h
  unfold F_codec_Number_1
  simp only [show (9007199254740992 : Int) = ((far : Nat) : Int) from rfl, clamp_eq]
  simp only [List.nil_append, Nat.zero_add, Int.natCast_zero, show ((0 : Nat) : Int) = 0 from rfl] at h
  by_cases hc : clamp far x = 0
  · rw [hc] at h ⊢
    simp only [Tree.run, show decide ((0 : Int) < ((0 : Nat) : Int)) = false from rfl, cond_false] at h ⊢
    unfold num
    rw [hc, dig_zero]
    rw [leB_zero] at h
    cases hA : appI 140737488355328 ([] : List UInt8) b with
    | none => rw [hA] at h; cases h
    | some y =>
      rw [hA] at h
      simp only [Option.bind_some] at h ⊢
      have hset : List.set ([0] : List UInt8) 0 (int8 0) = [0] := by decide
      rw [hset] at h
      cases hB : appI 140737488355328 y ([0] : List UInt8) with
      | none => rw [hB] at h; cases h
      | some y2 =>
        rw [hB] at h
        simp only [Option.bind_some] at h ⊢
        have hw : w64 ((0 : Int) - 1) = -1 := by decide
        rw [hw] at h
        cases hC : (F_codec_Number_l0 n n (-1) (zs 8) y2).run with
        | none => rw [hC] at h; cases h
        | some y3 =>
          rw [hC] at h
          simp only [Option.bind_some] at h ⊢
          cases y3 with
          | inl u => simp only [run_l, Tree.run, Option.some.injEq, Prod.mk.injEq] at h ⊢; exact h.1
          | inr u => simp only [run_r, Tree.run, Option.some.injEq, Prod.mk.injEq] at h ⊢; exact h.1
  · have e1 : decide ((0 : Int) < (clamp far x : Int)) = true := by simp; omega
    simp only [Tree.run, e1, cond_true] at h ⊢
    have e2 : inI 8 (0 : Int) = some 0 := by decide
    have e3 : gt (zs 8) 0 = some 0 := rfl
    have e4 : w64 ((0 : Int) + 1) = 1 := by decide
    simp only [e2, e3, e4, Option.bind_some] at h ⊢
    cases hC : (F_codec_Number_l100000 n n (shrI .i64 (clamp far x : Int) 8) 1 b (List.set (zs 8) 0 (int8 (clamp far x : Int)))).run with
    | none => rw [hC] at h; cases h
    | some y =>
      rw [hC] at h
      simp only [Option.bind_some, Option.some.injEq, Prod.mk.injEq] at h ⊢
      rw [h.1]
      unfold num dig
      rw [List.length_reverse]
theorem cnum0 {n : Nat} (hn : 9 < n) (x : Int) : (F_codec_Number n x).run = some (num [] x) := by
  rw [← cnum1 hn [] (by decide) x]
  rfl
theorem rdig (n : Nat) : ∀ (k m : Nat), (leB m).length < k → (leB m).length ≤ 7 → m ≤ 9223372036854775807 → (F_r17_digits_r n k (m : Int)).run = some (dig m)
  | 0, m, h, _, _ => by omega
  | k + 1, m, hk, h7, hm => by
    unfold F_r17_digits_r
    by_cases h0 : m = 0
    · subst h0
      rw [dig_zero]
      rfl
    · have e1 : decide ((m : Int) = 0) = false := by simp; omega
      rw [leB_pos h0, List.length_cons] at hk h7
      have e2 := rdig n k (m / 256) (by omega) (by omega) (by omega)
      have : appI 140737488355328 (dig (m / 256)) (List.set ([0] : List UInt8) 0 (UInt8.ofNat (m % 256))) = some (dig (m / 256) ++ [UInt8.ofNat (m % 256)]) := appI_le (by
        unfold dig
        simp only [List.length_reverse, List.length_set, List.length_singleton]
        omega)
      simp only [Tree.run, e1, cond_false, quo256_nat hm, e2, Option.bind_some, rem256_nat, int8_nat, Nat.mod_mod, this, dig_pos h0]
theorem rnum1 {n : Nat} (hn : 9 < n) (b : List UInt8) (hb : b.length + 9 ≤ 140737488355328) (x : Int) : (F_r17_Number_1 n b x).run = some (num b x) := by
  have hd := dig_clamp x
  have h7 : (leB (clamp far x)).length ≤ 7 := by unfold dig at hd; simpa using hd
  have h := rdig n n (clamp far x) (by omega) h7 (by have := clamp_far x; omega)
  unfold F_r17_Number_1 F_r17_digits num
  simp only [show (9007199254740992 : Int) = ((far : Nat) : Int) from rfl, clamp_eq, Tree.run, h, Option.bind_some]
  have e1 : appI 140737488355328 ([] : List UInt8) b = some b := appI_le (by simp; omega)
  have e2 : appI 140737488355328 b (List.set ([0] : List UInt8) 0 (int8 (ln (dig (clamp far x))))) = some (b ++ [UInt8.ofNat (dig (clamp far x)).length]) := by
    show appI 140737488355328 b [int8 ((dig (clamp far x)).length : Int)] = _
    rw [int8_nat, ofNat_mod]
    exact appI_le (by simp; omega)
  have e3 : appI 140737488355328 (b ++ [UInt8.ofNat (dig (clamp far x)).length]) (dig (clamp far x)) = some (b ++ [UInt8.ofNat (dig (clamp far x)).length] ++ dig (clamp far x)) := appI_le (by simp; omega)
  simp only [e1, e2, e3, Option.bind_some, List.append_assoc, List.singleton_append]
theorem rnum0 {n : Nat} (hn : 9 < n) (x : Int) : (F_r17_Number n x).run = some (num [] x) := by
  rw [← rnum1 hn [] (by decide) x]
  rfl
end Go.Proofs.YtcojhmllnhkbnaaDoor
