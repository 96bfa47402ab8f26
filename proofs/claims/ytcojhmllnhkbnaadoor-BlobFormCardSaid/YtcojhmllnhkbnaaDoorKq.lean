/- Blobs: what the printed functions come to. -/
import Derived.Test.YtcojhmllnhkbnaaDoorPB
import Derived.Test.YtcojhmllnhkbnaaDoorKi
set_option linter.unusedVariables false
set_option linter.unusedSimpArgs false
set_option maxRecDepth 100000
namespace Hyp
open Go Go.Proofs
theorem kind_run {n : Nat} {k : Int} : (F_blob_kind n k).run = some (decide (1 ≤ k ∧ k ≤ 4)) := by
  unfold F_blob_kind
  simp only [Tree.run]
  congr 1
  by_cases h1 : 1 ≤ k <;> by_cases h2 : k ≤ 4 <;> simp [h1, h2]
theorem bound_run {n : Nat} {k : Int} {id : List UInt8} (h : id.length = 32) : (F_blob_bound n k id).run = some (boundB k id) := by
  have e1 : List.take 32 (List.drop 0 id) = id := by rw [List.drop_zero]; exact List.take_of_length_le (by omega)
  have e2 : appI 140737488355328 (List.set ([0] : List UInt8) 0 (int8 k)) id = some (boundB k id) := appI_le (by simp; omega)
  rw [F_blob_bound]
  refine rG rfl ?_
  rw [e1]
  exact rG e2 rfl
theorem bseal_13 {n : Nat} (hn : 10000 ≤ n) {key nc id text : List UInt8} {k : Int} (hk : key.length = 32) (hc : nc.length = 12) (hi : id.length = 32) (ht : text.length ≤ 8192) :
    (F_blob_Seal_1_3 n 0 32 0 12 key nc k id text).run = some (0, nc ++ sealS key nc (boundB k id) text) := by
  have e1 : List.take 32 (List.drop 0 key) = key := by rw [List.drop_zero]; exact List.take_of_length_le (by omega)
  have e2 : List.take 12 (List.drop 0 nc) = nc := by rw [List.drop_zero]; exact List.take_of_length_le (by omega)
  have e3 := seal_run (n := n) (by omega) (b0 := false) (b1 := false) (other := boundB k id) (text := text) hk hc (by simp [boundB]; omega) (by omega) (by simp [boundB]; omega) (by omega)
  have a1 : appI 140737488355328 ([] : List UInt8) nc = some nc := appI_le (by simp; omega)
  have a2 : appI 140737488355328 nc (sealS key nc (boundB k id) text) = some (nc ++ sealS key nc (boundB k id) text) := appI_le (by rw [sealS_len]; omega)
  rw [F_blob_Seal_1_3, e1, e2]
  exact rG (bound_run hi) (rG e3 (rE rfl (rG a1 (rG a2 rfl))))
theorem bwith_run {n : Nat} (hn : 10000 ≤ n) {r : Rg} (hr : okR r) {e m k : Int} {id text : List UInt8} (hi : id.length = 32) (ht : text.length ≤ 8192) (hm : 1 ≤ m ∧ m ≤ 1099511627776) :
    (F_blob_with n e m r k id text).run = some (match rkS r sealP e with | .inl er => (er, []) | .inr key => (0, nonceS e.toNat m.toNat ++ sealS key (nonceS e.toNat m.toNat) (boundB k id) text)) := by
  have e1 := ringkey_run (n := n) (by omega) hr (p := sealP) (by decide) (right_seal e)
  rw [F_blob_with]
  refine rS e1 ?_
  cases hk : rkS r sealP e with
  | inl er =>
    have hne : (!(decide (er = (0 : Int)))) = true := by
      unfold rkS at hk
      split at hk
      · cases hk; rfl
      · split at hk
        · cases hk; rfl
        · cases hk
    rw [run_l]
    exact rI hne rfl
  | inr key =>
    unfold rkS at hk
    split at hk
    · cases hk
    rename_i h3
    split at hk
    · cases hk
    rename_i m0 hl0
    cases hk
    obtain ⟨en, rfl⟩ : ∃ q : Nat, e = (q : Int) := ⟨e.toNat, by omega⟩
    obtain ⟨mn, rfl⟩ : ∃ q : Nat, m = (q : Int) := ⟨m.toNat, by omega⟩
    have e2 := nonce_run (n := n) (by omega) (e := en) (m := mn) (by omega) (by omega)
    rw [run_r]
    refine rE rfl (rS e2 ?_)
    rw [run_r]
    refine rE rfl (rS (bseal_13 hn (keyL_len _ _ _) (nonceS_len _ _) hi ht) ?_)
    rfl
theorem bseal_run {n : Nat} (hn : 10000 ≤ n) {r : Rg} (hr : okR r) {e m k : Int} {id text : List UInt8} (hi : id.length = 32) (hc : text.length ≤ 1000000) : (F_blob_Seal n e k id m text r).run = some (sealB r e k id m text) := by
  rw [F_blob_Seal]
  refine rS kind_run ?_
  unfold sealB
  by_cases h : k < 1 ∨ 4 < k ∨ m < 1 ∨ 1099511627776 < m
  · rw [if_pos h]
    refine rI ?_ rfl
    simp only [Bool.or_eq_true, Bool.not_eq_true', decide_eq_false_iff_not, decide_eq_true_eq]; omega
  · rw [if_neg h]
    refine rE ?_ ?_
    · simp only [Bool.or_eq_false_iff, Bool.not_eq_false', decide_eq_false_iff_not, decide_eq_true_eq]; omega
    · by_cases h2 : 8192 < text.length
      · rw [if_pos h2]
        exact rI (decide_eq_true (by unfold ln; omega)) rfl
      · rw [if_neg h2]
        refine rE (decide_eq_false (by unfold ln; omega)) (rS (bwith_run hn hr hi (by omega) (by omega)) ?_)
        rfl
theorem right_name (e : Int) : rightI nameP e = some (decide (1 ≤ e ∧ e ≤ 64)) := by
  unfold rightI
  rw [if_pos (by decide)]
  congr 1
  by_cases h : 1 ≤ e ∧ e ≤ 64 <;> simp [h, lower]
end Hyp
