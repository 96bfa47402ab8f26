/- The codec in plain words: numbers, texts and scans, the program's and the document's. -/
import Derived.Test.YtcipfbabjbcfkaaIK
import Derived.Test.YtcipfbabjbcfkaaZD
set_option linter.unusedVariables false
set_option linter.unusedSimpArgs false
namespace Go.Proofs.Ytcipfbabjbcfkaa
open Hyp
theorem clamp_far (x : Int) : clamp far x ≤ 9007199254740992 := clamp_le far x
theorem cnum_l0 (n : Nat) {arr : List UInt8} (h8 : arr.length = 8) : ∀ (j k : Nat) (b : List UInt8), j ≤ 8 → j < k → b.length + j ≤ 140737488355328 → (F_codec_Number_l0 n k ((j : Int) - 1) arr b).run = some (if j = 0 then .inl () else .inr (b ++ (arr.take j).reverse))
  | _, 0, _, _, h, _ => by omega
  | 0, k + 1, b, _, _, _ => by
    unfold F_codec_Number_l0
    rfl
  | i + 1, k + 1, b, hj, hk, hb => by
    unfold F_codec_Number_l0
    have e0 : ((i + 1 : Nat) : Int) - 1 = (i : Int) := by omega
    have e1 : decide ((0 : Int) ≤ (i : Int)) = true := by simp
    have e2 : inI 8 (i : Int) = some i := inI_nat (by omega)
    have hi : i < arr.length := by omega
    have e3 : gt arr i = some arr[i] := gt_lt hi
    have e4 : appI 140737488355328 b (List.set ([0] : List UInt8) 0 arr[i]) = some (b ++ [arr[i]]) := appI_le (by simp; omega)
    have e5 : w64 ((i : Int) - 1) = (i : Int) - 1 := w64_id (by omega) (by omega)
    have e6 := cnum_l0 n h8 i k (b ++ [arr[i]]) (by omega) (by omega) (by simp; omega)
    rw [e0]
    simp only [Tree.run, e1, cond_true, e2, e3, e4, e5, Option.bind_some, e6]
    rw [List.take_succ_eq_append_getElem hi, List.reverse_append]
    by_cases h0 : i = 0
    · subst h0; simp [run_l, Tree.run]
    · simp [h0, run_r, Tree.run]
theorem set_done (done : List UInt8) (j r : Nat) (x : UInt8) (h : done.length = j) : (done ++ zs (r + 1)).set j x = done ++ [x] ++ zs r := by
  subst h
  rw [List.set_append_right _ _ (Nat.le_refl _), Nat.sub_self, List.append_assoc]
  rfl
theorem cnum_l1 (n : Nat) (hn : 9 < n) (b : List UInt8) (hb : b.length + 9 ≤ 140737488355328) : ∀ (k m j r : Nat) (done : List UInt8), done.length = j → j + r = 8 → (leB m).length ≤ r → (leB m).length < k →
    ∃ z, (F_codec_Number_l100000 n k (m : Int) (j : Int) b (done ++ zs r)).run = some (b ++ (UInt8.ofNat (j + (leB m).length) :: (done ++ leB m).reverse), z)
  | 0, m, j, r, done, hd, hr, hl, hk => by omega
  | k + 1, m, j, r, done, hd, hr, hl, hk => by
    unfold F_codec_Number_l100000
    by_cases hm : m = 0
    · subst hm
      have e1 : decide ((0 : Int) < ((0 : Nat) : Int)) = false := by simp
      have e2 : appI 140737488355328 ([] : List UInt8) b = some b := appI_le (by simp; omega)
      have e3 : appI 140737488355328 b (List.set ([0] : List UInt8) 0 (int8 (j : Int))) = some (b ++ [UInt8.ofNat j]) := by
        rw [int8_nat, ofNat_mod]; exact appI_le (by simp; omega)
      have e4 : w64 ((j : Int) - 1) = (j : Int) - 1 := w64_id (by omega) (by omega)
      have e5 := cnum_l0 n (arr := done ++ zs r) (by simp [zs]; omega) j n (b ++ [UInt8.ofNat j]) (by omega) (by omega) (by simp; omega)
      simp only [Tree.run, e1, cond_false, e2, e3, e4, e5, Option.bind_some, leB_zero]
      have e6 : (done ++ zs r).take j = done := by rw [← hd, List.take_left']; rfl
      rw [e6]
      by_cases h0 : j = 0
      · have : done = [] := List.length_eq_zero_iff.1 (by omega)
        subst this
        refine ⟨[] ++ zs r, ?_⟩
        simp only [h0, if_true, run_l, Tree.run]
        simp
      · refine ⟨done ++ zs r, ?_⟩
        simp only [h0, if_false, run_r, Tree.run]
        simp
    · have e1 : decide ((0 : Int) < (m : Int)) = true := by simp; omega
      rw [leB_pos hm, List.length_cons] at hl hk
      obtain ⟨r', rfl⟩ : ∃ r', r = r' + 1 := ⟨r - 1, by omega⟩
      have hj : j < (done ++ zs (r' + 1)).length := by simp [zs]; omega
      have e2 : inI 8 (j : Int) = some j := inI_nat (by omega)
      have e3 : gt (done ++ zs (r' + 1)) j = some _ := gt_lt hj
      have e4 : w64 ((j : Int) + 1) = ((j + 1 : Nat) : Int) := w64_succ (by omega)
      have e5 : List.set (done ++ zs (r' + 1)) j (int8 (m : Int)) = (done ++ [UInt8.ofNat (m % 256)]) ++ zs r' := by rw [int8_nat, set_done _ _ _ _ hd]
      obtain ⟨z, e6⟩ := cnum_l1 n hn b hb k (m / 256) (j + 1) r' (done ++ [UInt8.ofNat (m % 256)]) (by simp; omega) (by omega) (by omega) (by omega)
      simp only [Tree.run, e1, cond_true, e2, e3, e4, e5, shr8_nat, Option.bind_some, e6]
      refine ⟨z, ?_⟩
      rw [leB_pos hm]
      simp only [List.append_assoc, List.singleton_append, List.length_cons]
      rw [show j + 1 + (leB (m / 256)).length = j + ((leB (m / 256)).length + 1) by omega]
theorem cnum1 {n : Nat} (hn : 9 < n) (b : List UInt8) (hb : b.length + 9 ≤ 140737488355328) (x : Int) : (F_codec_Number_1 n x b).run = some (num b x) := by
  have h7 : (leB (clamp far x)).length ≤ 7 := by have := dig_clamp x; unfold dig at this; simpa using this
  obtain ⟨z, h⟩ := cnum_l1 n hn b hb (n + 1) (clamp far x) 0 8 [] rfl rfl (by omega) (by omega)
  unfold F_codec_Number_l100000 at h
  unfold F_codec_Number_1
  simp only [show (9007199254740992 : Int) = ((far : Nat) : Int) from rfl, clamp_eq]
  simp only [List.nil_append, Nat.zero_add, Int.natCast_zero, show ((0 : Nat) : Int) = 0 from rfl] at h
  by_cases hc : clamp far x = 0
  · rw [hc] at h ⊢
    simp only [Tree.run, show decide ((0 : Int) < ((0 : Nat) : Int)) = false from rfl, cond_false] at h ⊢
    unfold num
    rw [hc, dig_zero]
    rw [leB_zero] at h
    cases hA : appI 140737488355328 ([] : List UInt8) b with
    | none => rw [hA] at h; cases h
    | some y =>
      rw [hA] at h
      simp only [Option.bind_some] at h ⊢
      have hset : List.set ([0] : List UInt8) 0 (int8 0) = [0] := by decide
      rw [hset] at h
      cases hB : appI 140737488355328 y ([0] : List UInt8) with
      | none => rw [hB] at h; cases h
      | some y2 =>
        rw [hB] at h
        simp only [Option.bind_some] at h ⊢
        have hw : w64 ((0 : Int) - 1) = -1 := by decide
        rw [hw] at h
        cases hC : (F_codec_Number_l0 n n (-1) (zs 8) y2).run with
        | none => rw [hC] at h; cases h
        | some y3 =>
          rw [hC] at h
          simp only [Option.bind_some] at h ⊢
          cases y3 with
          | inl u => simp only [run_l, Tree.run, Option.some.injEq, Prod.mk.injEq] at h ⊢; exact h.1
          | inr u => simp only [run_r, Tree.run, Option.some.injEq, Prod.mk.injEq] at h ⊢; exact h.1
  · have e1 : decide ((0 : Int) < (clamp far x : Int)) = true := by simp; omega
    simp only [Tree.run, e1, cond_true] at h ⊢
    have e2 : inI 8 (0 : Int) = some 0 := by decide
    have e3 : gt (zs 8) 0 = some 0 := rfl
    have e4 : w64 ((0 : Int) + 1) = 1 := by decide
    simp only [e2, e3, e4, Option.bind_some] at h ⊢
    cases hC : (F_codec_Number_l100000 n n (shrI .i64 (clamp far x : Int) 8) 1 b (List.set (zs 8) 0 (int8 (clamp far x : Int)))).run with
    | none => rw [hC] at h; cases h
    | some y =>
      rw [hC] at h
      simp only [Option.bind_some, Option.some.injEq, Prod.mk.injEq] at h ⊢
      rw [h.1]
      unfold num dig
      rw [List.length_reverse]
theorem cnum0 {n : Nat} (hn : 9 < n) (x : Int) : (F_codec_Number n x).run = some (num [] x) := by
  have := cnum1 hn [] (by decide) x
  rw [← this]
  rfl
theorem ctext {n : Nat} (hn : 9 < n) (b s : List UInt8) (hb : b.length + s.length + 9 ≤ 140737488355328) : (F_codec_Text n b s).run = some (num b s.length ++ s) := by
  unfold F_codec_Text
  have h2 := num_len b s.length
  have e2 : appI 140737488355328 (num b s.length) s = some (num b s.length ++ s) := appI_le (by omega)
  simp only [Tree.run, cnum1 hn b (by omega), Option.bind_some, e2]
/-! ### Scans -/
abbrev mx : Nat := 9223372036854775807
theorem pow_le7 {i : Nat} (h : i ≤ 6) : 256 ^ i ≤ 281474976710656 := Nat.pow_le_pow_right (by decide) h
theorem cnext_l0 (n : Nat) (c : Bool) {s : List UInt8} (h7 : s.length ≤ 7) : ∀ (k i a : Nat), i ≤ s.length → a < 256 ^ i → s.length < i + k → (F_codec_Scan_next_l0 n k (a : Int) c s (s.length : Int) (i : Int)).run = some ((beF a (s.drop i) : Nat) : Int)
  | 0, i, a, _, _, h => by omega
  | k + 1, i, a, hi, ha, hk => by
    unfold F_codec_Scan_next_l0
    by_cases h : i < s.length
    · have e1 : decide ((i : Int) < (s.length : Int)) = true := by simp; omega
      have e2 : getI s (i : Int) = some s[i] := getI_lt h
      have hp := pow_le7 (i := i) (by omega)
      have hc := (s[i]).toNat_lt
      have e3 := shl_or (a := a) (c := s[i].toNat) (by omega) hc
      have e4 := cnext_l0 n c h7 k (i + 1) (a * 256 + s[i].toNat) (by omega) (by rw [Nat.pow_succ]; omega) (by omega)
      rw [← w64_succ (by omega)] at e4
      simp only [Tree.run, e1, cond_true, e2, e3, e4, Option.bind_some]
      rw [List.drop_eq_getElem_cons h]
      rfl
    · have e1 : decide ((i : Int) < (s.length : Int)) = false := by simp; omega
      have e2 : s.drop i = [] := List.drop_eq_nil_iff.2 (by omega)
      simp only [Tree.run, e1, cond_false, e2]
      rfl
theorem cnext {n : Nat} (hn : 8 < n) {s : List UInt8} (hs : s.length ≤ 9223372036854775807) : (F_codec_Scan_next n s).run = some (match nxt s with | .inl er => (0, 0, er) | .inr (v, r) => ((v : Int), ((s.length - r.length : Nat) : Int), 0)) := by
  unfold F_codec_Scan_next nxt
  cases s with
  | nil => rfl
  | cons c t =>
    have hc := c.toNat_lt
    have e0 : decide ((ln (c :: t)) = 0) = false := by simp [ln]; omega
    have e1 : getI (c :: t) (0 : Int) = some c := rfl
    simp only [Tree.run, e0, cond_false, e1, Option.bind_some]
    by_cases h7 : 7 < c.toNat
    · rw [if_pos h7, show decide ((7 : Int) < (c.toNat : Int)) = true by simp; omega]; rfl
    rw [if_neg h7, show decide ((7 : Int) < (c.toNat : Int)) = false by simp; omega]
    have e2 : w64 ((1 : Int) + (c.toNat : Int)) = ((c.toNat + 1 : Nat) : Int) := by rw [w64_id (by omega) (by omega)]; omega
    simp only [cond_false, e2]
    rw [List.length_cons] at hs
    by_cases hl : t.length < c.toNat
    · rw [if_pos hl, show decide ((ln (c :: t)) < ((c.toNat + 1 : Nat) : Int)) = true by simp [ln]; omega]; rfl
    rw [if_neg hl, show decide ((ln (c :: t)) < ((c.toNat + 1 : Nat) : Int)) = false by simp [ln]; omega]
    have e3 : subI (c :: t) 1 ((c.toNat + 1 : Nat) : Int) = some (t.take c.toNat) := by
      rw [subI_int (by omega) (by omega) (by rw [List.length_cons]; omega)]
      simp
    have e4 := cnext_l0 n false (s := t.take c.toNat) (by simp; omega) n 0 0 (by omega) (by decide) (by simp; omega)
    rw [List.drop_zero] at e4
    have e4' : (F_codec_Scan_next_l0 n n 0 false (t.take c.toNat) ((t.take c.toNat).length : Int) 0).run = some ((beF 0 (t.take c.toNat) : Nat) : Int) := e4
    have e5 : ln (t.take c.toNat) = ((t.take c.toNat).length : Int) := rfl
    have e6 : (t.length + 1) - (t.drop c.toNat).length = c.toNat + 1 := by rw [List.length_drop]; omega
    have tail : ∀ r : Option (Int × Int × Int), (if far < be (t.take c.toNat) then r = some (0, 0, 6) else r = some ((be (t.take c.toNat) : Int), ((c.toNat + 1 : Nat) : Int), 0)) →
        r = some (match (if far < be (t.take c.toNat) then (Sum.inl 6 : Int ⊕ (Nat × List UInt8)) else .inr (be (t.take c.toNat), t.drop c.toNat)) with | .inl er => (0, 0, er) | .inr (v, r) => ((v : Int), (((c :: t).length - r.length : Nat) : Int), 0)) := by
      intro r hr
      by_cases hf : far < be (t.take c.toNat)
      · rw [if_pos hf] at hr ⊢; exact hr
      · rw [if_neg hf] at hr ⊢
        simp only [List.length_cons, e6]; exact hr
    have last : ∀ d : Bool, (d = decide ((9007199254740992 : Int) < ((beF 0 (t.take c.toNat) : Nat) : Int))) → (if far < be (t.take c.toNat) then d = true else d = false) := by
      intro d hd
      have : beF 0 (t.take c.toNat) = be (t.take c.toNat) := rfl
      rw [this] at hd
      subst hd
      by_cases hf : far < be (t.take c.toNat)
      · rw [if_pos hf]; simp only [far] at hf; simp; omega
      · rw [if_neg hf]; simp only [far] at hf; simp; omega
    have hlast := last _ rfl
    simp only [cond_false]
    by_cases h0 : 0 < c.toNat
    · rw [show decide ((0 : Int) < (c.toNat : Int)) = true by simp; omega]
      obtain ⟨d, u, rfl⟩ : ∃ d u, t = d :: u := by
        cases t with
        | nil => simp at hl; omega
        | cons d u => exact ⟨d, u, rfl⟩
      have e7 : getI (c :: d :: u) (1 : Int) = some d := rfl
      simp only [cond_true, e7, Option.bind_some]
      by_cases hd : d = 0
      · subst hd
        have hcnd : 0 < c.toNat ∧ ((0 : UInt8) :: u).head? = some 0 := ⟨h0, rfl⟩
        rw [if_pos hcnd]; rfl
      · have hcnd : ¬ (0 < c.toNat ∧ (d :: u).head? = some 0) := by rintro ⟨_, h⟩; exact hd (by simpa using h)
        rw [if_neg hcnd, decide_eq_false hd]
        simp only [cond_false, e3, e5, Option.bind_some, e4']
        refine tail _ ?_
        by_cases hf : far < be ((d :: u).take c.toNat)
        · rw [if_pos hf] at hlast ⊢
          simp only [Option.bind_some, hlast, cond_true]
        · rw [if_neg hf] at hlast ⊢
          simp only [Option.bind_some, hlast, cond_false]; rfl
    · rw [show decide ((0 : Int) < (c.toNat : Int)) = false by simp; omega]
      have hcnd : ¬ (0 < c.toNat ∧ t.head? = some 0) := fun h => h0 h.1
      rw [if_neg hcnd]
      simp only [cond_false, e3, e5, Option.bind_some, e4']
      refine tail _ ?_
      by_cases hf : far < be (t.take c.toNat)
      · rw [if_pos hf] at hlast ⊢
        simp only [Option.bind_some, hlast, cond_true]
      · rw [if_neg hf] at hlast ⊢
        simp only [Option.bind_some, hlast, cond_false]; rfl
theorem nxt_len {s r : List UInt8} {v : Nat} (h : nxt s = .inr (v, r)) : r.length < s.length ∧ r = s.drop (s.length - r.length) := by
  unfold nxt at h
  split at h
  · cases h
  · rename_i c t
    split at h
    · cases h
    · split at h
      · cases h
      · rename_i h2
        split at h
        · cases h
        · split at h
          · cases h
          · cases h
            refine ⟨by simp; omega, ?_⟩
            have : (c :: t).length - (t.drop c.toNat).length = c.toNat + 1 := by simp; omega
            rw [this]; rfl
theorem scanN_len (s : List UInt8) (e lo hi : Int) : (scanN s e lo hi).2.1.length ≤ s.length := by
  unfold scanN
  split
  · split
    · exact Nat.le_refl _
    · rename_i v r h
      have := (nxt_len h).1
      split
      · exact Nat.le_refl _
      · exact Nat.le_of_lt this
  · exact Nat.le_refl _
theorem cnumber {n : Nat} (hn : 8 < n) (b : Bool) {s : List UInt8} (hs : s.length ≤ 9223372036854775807) (e lo hi : Int) : ∃ b', (F_codec_Scan_Number n b s e lo hi).run = some ((scanN s e lo hi).1, b', (scanN s e lo hi).2) := by
  unfold F_codec_Scan_Number scanN
  by_cases he : e = 0
  · subst he
    rw [if_pos rfl]
    simp only [Tree.run, decide_true, Bool.not_true, cond_false, cnext hn hs, Option.bind_some]
    cases hx : nxt s with
    | inl er =>
      have her : er ≠ 0 := by
        unfold nxt at hx
        repeat' (first | (split at hx) | (cases hx; decide) | cases hx)
      refine ⟨b, ?_⟩
      simp only [decide_eq_false her, Bool.false_and, Bool.not_false, cond_false, cond_true]
      rfl
    | inr p =>
      obtain ⟨v, r⟩ := p
      obtain ⟨h1, h2⟩ := nxt_len hx
      by_cases hb : (v : Int) < lo ∨ hi < (v : Int)
      · refine ⟨b, ?_⟩
        have : (decide ((v : Int) < lo) || decide (hi < (v : Int))) = true := by simpa using hb
        simp only [if_pos hb, decide_true, Bool.true_and, this, cond_true]
        rfl
      · refine ⟨false, ?_⟩
        have : (decide ((v : Int) < lo) || decide (hi < (v : Int))) = false := by
          simp only [Bool.or_eq_false_iff, decide_eq_false_iff_not]; omega
        have e3 : subI s ((s.length - r.length : Nat) : Int) (ln s) = some r := by
          rw [subI_int (by omega) (by simp only [ln]; omega) (by simp only [ln]; omega)]
          rw [show (ln s).toNat = s.length from by simp [ln], Int.toNat_natCast, List.take_of_length_le (by simp), ← h2]
        simp only [if_neg hb, decide_true, Bool.true_and, this, cond_false, Bool.not_true, e3, Option.bind_some]
  · rw [if_neg he]
    refine ⟨b, ?_⟩
    simp only [Tree.run, decide_eq_false he, Bool.not_false, cond_true]
end Go.Proofs.Ytcipfbabjbcfkaa
