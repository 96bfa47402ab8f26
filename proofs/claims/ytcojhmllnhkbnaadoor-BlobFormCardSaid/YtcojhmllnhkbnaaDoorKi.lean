/- Nonces read, the program's and the document's; what a blob is. -/
import Derived.Test.YtcojhmllnhkbnaaDoorPB
import Derived.Test.YtcojhmllnhkbnaaDoorKr
set_option linter.unusedVariables false
set_option linter.unusedSimpArgs false
set_option maxRecDepth 100000
namespace Hyp
open Go Go.Proofs
theorem beN_be : ∀ (k : Nat) (l : List UInt8), l.length = k → beN k (be l) = l
  | 0, l, h => by rw [List.length_eq_zero_iff.1 h]; rfl
  | k + 1, l, h => by
    obtain ⟨c, hc⟩ : ∃ c, l = l.dropLast ++ [c] := ⟨l.getLast (by intro h0; rw [h0] at h; simp at h), (List.dropLast_concat_getLast _).symm⟩
    have hl : l.dropLast.length = k := by rw [List.length_dropLast]; omega
    have hc2 := c.toNat_lt
    have e : be l = be l.dropLast * 256 + c.toNat := by conv => lhs; rw [hc, be_append]
    rw [e, beN, show (be l.dropLast * 256 + c.toNat) / 256 = be l.dropLast by omega, beN_be k _ hl]
    have h2 : UInt8.ofNat (be l.dropLast * 256 + c.toNat) = c := by
      rw [← ofNat_mod, show (be l.dropLast * 256 + c.toNat) % 256 = c.toNat by omega, UInt8.ofNat_toNat]
    rw [h2]; exact hc.symm
theorem be_beN : ∀ (k m : Nat), m < 256 ^ k → be (beN k m) = m
  | 0, m, h => by
    have : m = 0 := by simpa using h
    subst this; rfl
  | k + 1, m, h => by
    rw [Nat.pow_succ] at h
    rw [beN, be_append, be_beN k (m / 256) (by omega), UInt8.toNat_ofNat']; omega
theorem be8_or {a b c d e f g h : UInt8} : (shl64 (shl64 (shl64 (shl64 (shl64 (shl64 (shl64 (shl64 (0 : UInt64) 8 ||| UInt64.ofNat a.toNat) 8 ||| UInt64.ofNat b.toNat) 8 ||| UInt64.ofNat c.toNat) 8 ||| UInt64.ofNat d.toNat) 8 ||| UInt64.ofNat e.toNat) 8 ||| UInt64.ofNat f.toNat) 8 ||| UInt64.ofNat g.toNat) 8 ||| UInt64.ofNat h.toNat) = UInt64.ofNat (be [a, b, c, d, e, f, g, h]) := by
  have ha := a.toNat_lt
  have hb := b.toNat_lt
  have hc := c.toNat_lt
  have hd := d.toNat_lt
  have he := e.toNat_lt
  have hf := f.toNat_lt
  have hg := g.toNat_lt
  have hh := h.toNat_lt
  rw [show (0 : UInt64) = UInt64.ofNat 0 from rfl, shl8_or64 (by omega), shl8_or64 (by omega), shl8_or64 (by omega), shl8_or64 (by omega), shl8_or64 (by omega), shl8_or64 (by omega), shl8_or64 (by omega), shl8_or64 (by omega)]
  rfl
theorem long_run {n : Nat} (hn : 9 ≤ n) {f : Bool} {b : List UInt8} (h : b.length = 8) : (F_word_Long n f b).run = some (UInt64.ofNat (be b), 0) := by
  obtain ⟨a, b, c, d, e, f', g, i, rfl⟩ := len8 h
  obtain ⟨m, rfl⟩ : ∃ m, n = m + 9 := ⟨n - 9, by omega⟩
  rw [← be8_or]
  kernel_rfl
theorem rlong_run {n : Nat} (hn : 9 ≤ n) {f : Bool} {b : List UInt8} (h : b.length = 8) : (F_r01_Long n f b).run = some (UInt64.ofNat (be b), 0) := by
  have e1 : (!(decide ((ln b) = (8 : Int)))) = false := by rw [lnEq h]; rfl
  unfold F_r01_Long
  simp only [Tree.run, e1, cond_false, worth_run (n := n) (b0 := f) (b := b) (by omega) (by omega), Option.bind_some]
def readS (b : List UInt8) : Int × (Int × Int) := if 64 < be (b.take 4) ∨ 1099511627776 < be (b.drop 4) then (0, 0, 5) else ((be (b.take 4) : Int), (be (b.drop 4) : Int), 0)
theorem nread_run {n : Nat} (hn : 9 ≤ n) {b : List UInt8} (h : b.length = 12) : (F_nonce_Read n b).run = some (readS b) := by
  have e0 : (!(decide ((ln b) = (12 : Int)))) = false := by rw [lnEq h]; rfl
  have s1 : subI b (0 : Int) (4 : Int) = some (b.take 4) := by
    have := subI_nat (l := b) (a := 0) (b := 4) (by omega) (by omega)
    rw [List.drop_zero] at this
    exact this
  have s2 : subI b (4 : Int) (ln b) = some (b.drop 4) := by
    have := subI_nat (l := b) (a := 4) (b := b.length) (by omega) (by omega)
    rw [List.take_of_length_le (by simp)] at this
    exact this
  have e1 := load_be (n := n) (by omega) (b0 := false) (b := b.take 4) (by simp [h])
  have e2 := long_run (n := n) hn (f := false) (b := b.drop 4) (by simp [h])
  have h1 := be_lt (b.take 4)
  have h2 := be_lt (b.drop 4)
  rw [show (b.take 4).length = 4 by simp [h]] at h1
  rw [show (b.drop 4).length = 8 by simp [h]] at h2
  have k1 : (UInt32.ofNat (be (b.take 4))).toNat = be (b.take 4) := by rw [UInt32.toNat_ofNat']; omega
  have k2 : (UInt64.ofNat (be (b.drop 4))).toNat = be (b.drop 4) := by rw [UInt64.toNat_ofNat']; omega
  have c1 : decide ((64 : UInt32) < UInt32.ofNat (be (b.take 4))) = decide (64 < be (b.take 4)) := by
    apply decide_eq_decide.2; rw [UInt32.lt_iff_toNat_lt, k1]; rfl
  have c2 : decide ((1099511627776 : UInt64) < UInt64.ofNat (be (b.drop 4))) = decide (1099511627776 < be (b.drop 4)) := by
    apply decide_eq_decide.2; rw [UInt64.lt_iff_toNat_lt, k2]; rfl
  rw [F_nonce_Read]
  refine rE e0 (rG s1 (rS e1 (rG s2 (rS e2 ?_))))
  show (Tree.ite (decide ((64 : UInt32) < UInt32.ofNat (be (b.take 4))) || decide ((1099511627776 : UInt64) < UInt64.ofNat (be (b.drop 4)))) _ _).run = _
  rw [c1, c2]
  unfold readS
  by_cases hc : 64 < be (b.take 4) ∨ 1099511627776 < be (b.drop 4)
  · rw [if_pos hc]
    exact rI (by simpa using hc) rfl
  · rw [if_neg hc]
    refine rE (by simpa using hc) ?_
    show some ((Nat.cast (UInt32.ofNat (be (b.take 4))).toNat : Int), w64 (Nat.cast (UInt64.ofNat (be (b.drop 4))).toNat : Int), (0 : Int)) = _
    rw [k1, k2, w64_nat (by omega)]
theorem rnread_run {n : Nat} (hn : 9 ≤ n) {b : List UInt8} (h : b.length = 12) : (F_r10_Read n b).run = some (readS b) := by
  have e0 : (!(decide ((ln b) = (12 : Int)))) = false := by rw [lnEq h]; rfl
  have s1 : subI b (0 : Int) (4 : Int) = some (b.take 4) := by
    have := subI_nat (l := b) (a := 0) (b := 4) (by omega) (by omega)
    rw [List.drop_zero] at this
    exact this
  have s2 : subI b (4 : Int) (ln b) = some (b.drop 4) := by
    have := subI_nat (l := b) (a := 4) (b := b.length) (by omega) (by omega)
    rw [List.take_of_length_le (by simp)] at this
    exact this
  have e1 := rload_be (n := n) (by omega) (b0 := false) (b := b.take 4) (by simp [h])
  have e2 := rlong_run (n := n) hn (f := false) (b := b.drop 4) (by simp [h])
  have h1 := be_lt (b.take 4)
  have h2 := be_lt (b.drop 4)
  rw [show (b.take 4).length = 4 by simp [h]] at h1
  rw [show (b.drop 4).length = 8 by simp [h]] at h2
  have k1 : (UInt32.ofNat (be (b.take 4))).toNat = be (b.take 4) := by rw [UInt32.toNat_ofNat']; omega
  have k2 : (UInt64.ofNat (be (b.drop 4))).toNat = be (b.drop 4) := by rw [UInt64.toNat_ofNat']; omega
  have c1 : decide ((64 : UInt32) < UInt32.ofNat (be (b.take 4))) = decide (64 < be (b.take 4)) := by
    apply decide_eq_decide.2; rw [UInt32.lt_iff_toNat_lt, k1]; rfl
  have c2 : decide ((1099511627776 : UInt64) < UInt64.ofNat (be (b.drop 4))) = decide (1099511627776 < be (b.drop 4)) := by
    apply decide_eq_decide.2; rw [UInt64.lt_iff_toNat_lt, k2]; rfl
  rw [F_r10_Read]
  refine rE e0 (rG s1 (rS e1 (rG s2 (rS e2 ?_))))
  show (Tree.ite (decide ((64 : UInt32) < UInt32.ofNat (be (b.take 4))) || decide ((1099511627776 : UInt64) < UInt64.ofNat (be (b.drop 4)))) _ _).run = _
  rw [c1, c2]
  unfold readS
  by_cases hc : 64 < be (b.take 4) ∨ 1099511627776 < be (b.drop 4)
  · rw [if_pos hc]
    exact rI (by simpa using hc) rfl
  · rw [if_neg hc]
    refine rE (by simpa using hc) ?_
    show some ((Nat.cast (UInt32.ofNat (be (b.take 4))).toNat : Int), w64 (Nat.cast (UInt64.ofNat (be (b.drop 4))).toNat : Int), (0 : Int)) = _
    rw [k1, k2, w64_nat (by omega)]
theorem nonce_read {b : List UInt8} (h : b.length = 12) : nonceS (be (b.take 4)) (be (b.drop 4)) = b := by
  unfold nonceS
  rw [beN_be 4 _ (by simp [h]), beN_be 8 _ (by simp [h]), List.take_append_drop]
abbrev sealP : List UInt8 := [115, 101, 97, 108]
abbrev nameP : List UInt8 := [110, 97, 109, 101]
def boundB (k : Int) (id : List UInt8) : List UInt8 := int8 k :: id
def sealB (r : Rg) (e k : Int) (id : List UInt8) (m : Int) (text : List UInt8) : Int × List UInt8 :=
  if k < 1 ∨ 4 < k ∨ m < 1 ∨ 1099511627776 < m then (1, []) else if 8192 < text.length then (2, []) else match rkS r sealP e with
  | .inl er => (er, [])
  | .inr key => (0, nonceS e.toNat m.toNat ++ sealS key (nonceS e.toNat m.toNat) (boundB k id) text)
def openB (r : Rg) (k : Int) (id b : List UInt8) : Int ⊕ (List UInt8 × Nat) :=
  if k < 1 ∨ 4 < k then .inl 1 else if b.length < 28 then .inl 3 else if 8220 < b.length then .inl 2 else
  if 64 < be ((b.take 12).take 4) ∨ 1099511627776 < be ((b.take 12).drop 4) then .inl 5 else if be ((b.take 12).take 4) = 0 then .inl 1 else match lookS r (be ((b.take 12).take 4)) with
  | none => .inl 24
  | some m => match openS (keyL m sealP (be ((b.take 12).take 4))) (b.take 12) (boundB k id) (b.drop 12) with
    | none => .inl 7
    | some t => .inr (t, be ((b.take 12).take 4))
theorem sealB_len {r : Rg} {e k m : Int} {id text b : List UInt8} (h : sealB r e k id m text = (0, b)) : b.length = text.length + 28 ∧ text.length ≤ 8192 := by
  unfold sealB at h
  split at h
  · cases h
  · split at h
    · cases h
    · split at h
      · rename_i er hk
        exfalso
        unfold rkS at hk
        split at hk
        · cases hk; cases h
        · split at hk
          · cases hk; cases h
          · cases hk
      · cases h
        rw [List.length_append, nonceS_len, sealS_len]; omega
theorem seal_openB {r : Rg} {e k m : Int} {id text b : List UInt8} (h : sealB r e k id m text = (0, b)) : openB r k id b = .inr (text, e.toNat) := by
  have hl := sealB_len h
  unfold sealB at h
  split at h
  · cases h
  rename_i h1
  split at h
  · cases h
  rename_i h2
  split at h
  · rename_i er hk
    exfalso
    unfold rkS at hk
    split at hk
    · cases hk; cases h
    · split at hk
      · cases hk; cases h
      · cases hk
  rename_i key hk
  unfold rkS at hk
  split at hk
  · cases hk
  rename_i h3
  split at hk
  · cases hk
  rename_i m0 hl0
  cases hk
  have hb : nonceS e.toNat m.toNat ++ sealS (keyL m0 sealP e.toNat) (nonceS e.toNat m.toNat) (boundB k id) text = b := by
    have := congrArg Prod.snd h; exact this
  have t12 : b.take 12 = nonceS e.toNat m.toNat := by rw [← hb, List.take_left' (nonceS_len _ _)]
  have d12 : b.drop 12 = sealS (keyL m0 sealP e.toNat) (nonceS e.toNat m.toNat) (boundB k id) text := by rw [← hb, List.drop_left' (nonceS_len _ _)]
  have n1 : (nonceS e.toNat m.toNat).take 4 = beN 4 e.toNat := by rw [nonceS, List.take_left' (beN_len _ _)]
  have n2 : (nonceS e.toNat m.toNat).drop 4 = beN 8 m.toNat := by rw [nonceS, List.drop_left' (beN_len _ _)]
  have he : ((e.toNat : Nat) : Int) = e := by omega
  unfold openB
  rw [if_neg (by omega), if_neg (by omega), if_neg (by omega), t12, d12, n1, n2, be_beN 4 e.toNat (by omega), be_beN 8 m.toNat (by omega), if_neg (by omega), if_neg (by omega), he, hl0]
  simp only [open_seal]
theorem openB_seal {r : Rg} (hr : okR r) {k : Int} {id text b : List UInt8} {e : Nat} (h : openB r k id b = .inr (text, e)) (h0 : be ((b.take 12).drop 4) ≠ 0) : sealB r e k id (be ((b.take 12).drop 4)) text = (0, b) ∧ e = be ((b.take 12).take 4) ∧ 28 ≤ b.length ∧ b.length ≤ 8220 ∧ e ≤ 64 ∧ be ((b.take 12).drop 4) ≤ 1099511627776 := by
  unfold openB at h
  split at h
  · cases h
  rename_i h1
  split at h
  · cases h
  rename_i h2
  split at h
  · cases h
  rename_i h3
  split at h
  · cases h
  rename_i h4
  split at h
  · cases h
  rename_i h5
  split at h
  · cases h
  rename_i m0 hl0
  split at h
  · cases h
  rename_i t ht
  simp only [Sum.inr.injEq, Prod.mk.injEq] at h
  obtain ⟨rfl, rfl⟩ := h
  have hs := seal_open (by simp; omega) ht
  have hlen : t.length = b.length - 28 := by
    have := congrArg List.length hs
    rw [sealS_len] at this
    simp at this; omega
  refine ⟨?_, rfl, by omega, by omega, by omega, by omega⟩
  unfold sealB
  rw [if_neg (by omega), if_neg (by omega)]
  have hk : rkS r sealP (be ((b.take 12).take 4) : Int) = .inr (keyL m0 sealP (be ((b.take 12).take 4))) := by
    unfold rkS
    rw [if_neg (by omega), hl0]; rfl
  rw [hk]
  simp only [Int.toNat_natCast]
  have hn : nonceS (be ((b.take 12).take 4)) (be ((b.take 12).drop 4)) = b.take 12 := nonce_read (by simp; omega)
  rw [hn, hs, List.take_append_drop]
end Hyp
