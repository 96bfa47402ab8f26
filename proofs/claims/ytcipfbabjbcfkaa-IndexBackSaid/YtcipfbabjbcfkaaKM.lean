/- ManifestBack in plain words: what is told is read as it was, what is read was told so. -/
import Derived.Test.YtcipfbabjbcfkaaKG
set_option linter.unusedVariables false
set_option linter.unusedSimpArgs false
namespace Go.Proofs.Ytcipfbabjbcfkaa
open Hyp
theorem num_split (b : List UInt8) (x : Int) : num b x = b ++ num [] x := by unfold num; rw [List.nil_append]
theorem num_nat {v : Nat} (h : v ≤ far) : num [] (v : Int) = UInt8.ofNat (dig v).length :: dig v := by
  unfold num
  have : clamp far (v : Int) = v := by unfold clamp; rw [Int.toNat_natCast]; exact Nat.min_eq_left h
  rw [this]; rfl
theorem nxt_num {v : Nat} (h : v ≤ far) (r : List UInt8) : nxt (num [] (v : Int) ++ r) = .inr (v, r) := by
  rw [num_nat h]
  have h7 : (dig v).length ≤ 7 := dig_len (Nat.lt_of_le_of_lt h (by decide))
  have hc : (UInt8.ofNat (dig v).length).toNat = (dig v).length := by rw [UInt8.toNat_ofNat']; omega
  show nxt (UInt8.ofNat (dig v).length :: (dig v ++ r)) = _
  unfold nxt
  simp only [hc]
  rw [if_neg (by omega), if_neg (by simp)]
  have hh : ¬ (0 < (dig v).length ∧ (dig v ++ r).head? = some 0) := by
    rintro ⟨h1, h2⟩
    cases hd : dig v with
    | nil => rw [hd] at h1; simp at h1
    | cons a t =>
      have := dig_head (m := v)
      rw [hd] at this h2
      simp at this h2
      exact this h2
  rw [if_neg hh, List.take_left' rfl, be_dig, if_neg (by omega), List.drop_left' rfl]
theorem nxt_inv {s r : List UInt8} {v : Nat} (h : nxt s = .inr (v, r)) : v ≤ far ∧ s = num [] (v : Int) ++ r := by
  unfold nxt at h
  split at h
  · cases h
  · rename_i c t
    split at h
    · cases h
    · rename_i h7
      split at h
      · cases h
      · rename_i hl
        split at h
        · cases h
        · rename_i hz
          split at h
          · cases h
          · rename_i hf
            cases h
            have hv : be (t.take c.toNat) ≤ far := by omega
            refine ⟨hv, ?_⟩
            rw [num_nat hv]
            have hd : dig (be (t.take c.toNat)) = t.take c.toNat := by
              apply dig_be
              intro h0
              apply hz
              cases t with
              | nil => simp at h0
              | cons a u =>
                by_cases hc : c.toNat = 0
                · rw [hc] at h0; simp at h0
                · obtain ⟨k, hk⟩ : ∃ k, c.toNat = k + 1 := ⟨c.toNat - 1, by omega⟩
                  rw [hk] at h0
                  exact ⟨by omega, by simpa using h0⟩
            rw [hd, List.length_take, Nat.min_eq_left (by omega), UInt8.ofNat_toNat]
            simp
theorem nxt_err {s : List UInt8} {er : Int} (hx : nxt s = .inl er) : er ≠ 0 := by
  unfold nxt at hx
  repeat' (first | (split at hx) | (cases hx; decide) | cases hx)
theorem scanN_fwd {v : Nat} (r : List UInt8) {lo hi : Int} (h : v ≤ far) (h1 : lo ≤ v) (h2 : v ≤ hi) : scanN (num [] (v : Int) ++ r) 0 lo hi = ((v : Int), r, 0) := by
  unfold scanN
  rw [if_pos rfl, nxt_num h]
  simp only
  rw [if_neg (by omega)]
theorem scanN_inv {s : List UInt8} {e lo hi : Int} (h : (scanN s e lo hi).2.2 = 0) : e = 0 ∧ ∃ v : Nat, v ≤ far ∧ (scanN s e lo hi).1 = v ∧ s = num [] (v : Int) ++ (scanN s e lo hi).2.1 := by
  unfold scanN at h ⊢
  by_cases he : e = 0
  · rw [if_pos he] at h ⊢
    cases hx : nxt s with
    | inl er =>
      rw [hx] at h
      exact absurd h (nxt_err hx)
    | inr p =>
      obtain ⟨v, r⟩ := p
      rw [hx] at h
      simp only at h ⊢
      split at h
      · cases h
      · rename_i hb
        rw [if_neg hb]
        obtain ⟨h1, h2⟩ := nxt_inv hx
        exact ⟨he, v, h1, rfl, h2⟩
  · rw [if_neg he] at h
    exact absurd h he
theorem scanI_fwd {x : List UInt8} (h : x.length = 32) (r : List UInt8) : scanI (x ++ r) 0 = (x, r, 0) := by
  unfold scanI scanF
  rw [if_neg (by decide), if_neg (by simp; omega)]
  have h32 : (32 : Int).toNat = x.length := by rw [h]; rfl
  rw [h32, List.take_left' rfl, List.drop_left' rfl]
theorem scanI_inv {s : List UInt8} {e : Int} (h : (scanI s e).2.2 = 0) : e = 0 ∧ s = (scanI s e).1 ++ (scanI s e).2.1 := by
  unfold scanI at h ⊢
  cases hf : scanF s e 32 with
  | inl x =>
    rw [hf] at h
    unfold scanF at hf
    split at hf
    · cases hf
      rename_i h1
      have h : e = 0 := h
      omega
    · split at hf
      · cases hf; cases h
      · cases hf
  | inr p =>
    unfold scanF at hf
    split at hf
    · cases hf
    · rename_i h1
      split at hf
      · cases hf
      · cases hf
        exact ⟨by omega, (List.take_append_drop _ _).symm⟩
theorem scanT_fwd {t : List UInt8} (h1 : 1 ≤ t.length) (h2 : t.length ≤ 32) (r : List UInt8) : scanT (num [] (t.length : Int) ++ (t ++ r)) 0 32 = .inr (t, r) := by
  unfold scanT
  rw [scanN_fwd (t ++ r) (by show t.length ≤ 9007199254740992; omega) (by omega) (by omega)]
  simp only
  rw [if_neg (by decide), if_neg (by omega), if_neg (by simp only [List.length_append]; omega)]
  have : scanF (t ++ r) 0 (t.length : Int) = .inr (t, r) := by
    unfold scanF
    rw [if_neg (by omega), if_neg (by simp only [List.length_append]; omega), Int.toNat_natCast, List.take_left' rfl, List.drop_left' rfl]
  rw [this]
theorem scanT_err {s : List UInt8} {e most : Int} (he : e ≠ 0) : ∃ r e', scanT s e most = .inl (r, e') ∧ e' ≠ 0 := by
  unfold scanT scanN
  rw [if_neg he]
  simp only
  rw [if_pos he]
  exact ⟨_, _, rfl, he⟩
theorem scanT_inv {s t r : List UInt8} {e most : Int} (h : scanT s e most = .inr (t, r)) : e = 0 ∧ s = num [] (t.length : Int) ++ (t ++ r) := by
  unfold scanT at h
  have hi := scanN_inv (s := s) (e := e) (lo := 0) (hi := 9007199254740992)
  generalize scanN s e 0 9007199254740992 = p at *
  obtain ⟨v, q, e'⟩ := p
  simp only at h hi
  split at h
  · cases h
  · rename_i he
    obtain ⟨h1, n, h2, h3, h4⟩ := hi (by omega)
    split at h
    · cases h
    · split at h
      · cases h
      · split at h
        · cases h
        · rename_i hlen _ p hf
          cases h
          have hl := scanF_len hf
          have hl1 := hl.2.2
          unfold scanF at hf
          rw [if_neg (by omega), if_neg (by omega)] at hf
          cases hf
          refine ⟨h1, ?_⟩
          rw [hl.1, h3, List.take_append_drop]
          exact h4
end Go.Proofs.Ytcipfbabjbcfkaa
