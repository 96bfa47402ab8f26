/- Blobs opened and checked, ids, rings of masters: what the printed functions come to. -/
import Derived.Test.YtcojhmllnhkbnaaDoorBL
import Derived.Test.YtcojhmllnhkbnaaDoorKq
set_option linter.unusedVariables false
set_option linter.unusedSimpArgs false
set_option maxRecDepth 100000
namespace Hyp
open Go Go.Proofs
theorem bopen_13 {n : Nat} (hn : 10000 ≤ n) {key nc id b : List UInt8} {k : Int} (hk : key.length = 32) (hc : nc.length = 12) (hi : id.length = 32) (hb : 28 ≤ b.length) (hb2 : b.length ≤ 8220) :
    (F_blob_opened_1_3 n 0 32 0 12 key nc k id b).run = some (match openS key nc (boundB k id) (b.drop 12) with | some t => .inr (t, 0) | none => .inl 7) := by
  have e1 : List.take 32 (List.drop 0 key) = key := by rw [List.drop_zero]; exact List.take_of_length_le (by omega)
  have e2 : List.take 12 (List.drop 0 nc) = nc := by rw [List.drop_zero]; exact List.take_of_length_le (by omega)
  have e4 : subI b (12 : Int) (ln b) = some (b.drop 12) := by
    have := subI_nat (l := b) (a := 12) (b := b.length) (by omega) (by omega)
    rw [List.take_of_length_le (by simp)] at this
    exact this
  have e3 := open_run (n := n) (by omega) (b0 := false) (b1 := false) (other := boundB k id) (b := b.drop 12) hk hc (by simp [boundB]; omega) (by simp; omega) (by simp; omega) (by simp [boundB]; omega) (by simp; omega)
  rw [F_blob_opened_1_3, e1, e2]
  refine rG (bound_run hi) (rG e4 (rG e3 ?_))
  cases openS key nc (boundB k id) (b.drop 12) <;> rfl
theorem bwith2_run {n : Nat} (hn : 10000 ≤ n) {r : Rg} (hr : okR r) {e m : Nat} {k : Int} {id b : List UInt8} (hi : id.length = 32) (hb : 28 ≤ b.length) (hb2 : b.length ≤ 8220) (he : e ≤ 64) (h0 : e ≠ 0) (hm : m ≤ 1099511627776) :
    (F_blob_with_2 n (e : Int) (m : Int) r k id b).run = some (match lookS r (e : Int) with | none => .inl 24 | some m0 => match openS (keyL m0 sealP e) (nonceS e m) (boundB k id) (b.drop 12) with | none => .inl 7 | some t => .inr (t, 0)) := by
  have e1 := ringkey_run (n := n) (by omega) hr (p := sealP) (by decide) (right_seal (e : Int))
  rw [F_blob_with_2]
  refine rS e1 ?_
  unfold rkS
  rw [if_neg (by omega)]
  cases hl : lookS r (e : Int) with
  | none => simp only [run_l]; exact rI rfl rfl
  | some m0 =>
    have e2 := nonce_run (n := n) (by omega) (e := e) (m := m) he hm
    have e3 := bopen_13 hn (key := keyL m0 sealP e) (nc := nonceS e m) (id := id) (b := b) (k := k) (keyL_len _ _ _) (nonceS_len _ _) hi hb hb2
    simp only [run_r, Int.toNat_natCast]
    refine rE rfl (rS e2 ?_)
    rw [run_r]
    refine rE rfl (rS e3 ?_)
    cases openS (keyL m0 sealP e) (nonceS e m) (boundB k id) (b.drop 12) <;> rfl
theorem bsize_run {n m : Nat} (h : m ≤ 900000) : (F_blob_Size n (m : Int)).run = some ((m + 28 : Nat) : Int) := by
  have e1 := size_run (n := n) (m := m) (by omega)
  have e2 : w64 ((12 : Int) + ((m + 16 : Nat) : Int)) = ((m + 28 : Nat) : Int) := by rw [w64_id (by omega) (by omega)]; omega
  rw [F_blob_Size]
  refine rS e1 ?_
  rw [e2]; rfl
theorem bopened_run {n : Nat} (hn : 10000 ≤ n) {r : Rg} (hr : okR r) {k : Int} {id b : List UInt8} (hi : id.length = 32) (hb : b.length ≤ 1000000) :
    ∃ y, (F_blob_opened n k id b r).run = some y ∧ match openB r k id b with | .inl er => ∃ ep, y = .inl (ep, er) | .inr (t, e) => y = .inr (t, ((e : Int), 0)) := by
  rw [F_blob_opened]
  unfold openB
  by_cases h1 : k < 1 ∨ 4 < k
  · refine ⟨_, rS kind_run (rI ?_ rfl), ?_⟩
    · simp only [Bool.not_eq_true', decide_eq_false_iff_not]; omega
    · rw [if_pos h1]; exact ⟨_, rfl⟩
  rw [if_neg h1]
  have k1 : (!decide (1 ≤ k ∧ k ≤ 4)) = false := by simp only [Bool.not_eq_false', decide_eq_true_eq]; omega
  have z1 : (F_blob_Size n (0 : Int)).run = some (28 : Int) := bsize_run (m := 0) (by omega)
  have z2 : (F_blob_Size n (8192 : Int)).run = some (8220 : Int) := bsize_run (m := 8192) (by omega)
  by_cases h2 : b.length < 28
  · refine ⟨_, rS kind_run (rE k1 (rG z1 (rI (decide_eq_true (by unfold ln; omega)) rfl))), ?_⟩
    rw [if_pos h2]; exact ⟨_, rfl⟩
  rw [if_neg h2]
  by_cases h3 : 8220 < b.length
  · refine ⟨_, rS kind_run (rE k1 (rG z1 (rE (decide_eq_false (by unfold ln; omega)) (rG z2 (rI (decide_eq_true (by unfold ln; omega)) rfl))))), ?_⟩
    rw [if_pos h3]; exact ⟨_, rfl⟩
  rw [if_neg h3]
  have s1 : subI b (0 : Int) (12 : Int) = some (b.take 12) := by
    have := subI_nat (l := b) (a := 0) (b := 12) (by omega) (by omega)
    rw [List.drop_zero] at this
    exact this
  have e1 := nread_run (n := n) (by omega) (b := b.take 12) (by simp; omega)
  unfold readS at e1
  by_cases h4 : 64 < be ((b.take 12).take 4) ∨ 1099511627776 < be ((b.take 12).drop 4)
  · rw [if_pos h4] at e1
    refine ⟨_, rS kind_run (rE k1 (rG z1 (rE (decide_eq_false (by unfold ln; omega)) (rG z2 (rE (decide_eq_false (by unfold ln; omega)) (rG s1 (rS e1 (rI rfl rfl)))))))), ?_⟩
    rw [if_pos h4]; exact ⟨_, rfl⟩
  rw [if_neg h4] at e1 ⊢
  by_cases h5 : be ((b.take 12).take 4) = 0
  · refine ⟨_, rS kind_run (rE k1 (rG z1 (rE (decide_eq_false (by unfold ln; omega)) (rG z2 (rE (decide_eq_false (by unfold ln; omega)) (rG s1 (rS e1 (rE rfl (rI (decide_eq_true (by simp only; omega)) rfl))))))))), ?_⟩
    rw [if_pos h5]; exact ⟨_, rfl⟩
  rw [if_neg h5]
  have e2 := bwith2_run hn hr (e := be ((b.take 12).take 4)) (m := be ((b.take 12).drop 4)) (k := k) (id := id) (b := b) hi (by omega) (by omega) (by omega) h5 (by omega)
  rw [nonce_read (by simp; omega)] at e2
  cases hl : lookS r (be ((b.take 12).take 4) : Int) with
  | none =>
    rw [hl] at e2
    refine ⟨_, rS kind_run (rE k1 (rG z1 (rE (decide_eq_false (by unfold ln; omega)) (rG z2 (rE (decide_eq_false (by unfold ln; omega)) (rG s1 (rS e1 (rE rfl (rE (decide_eq_false (by simp only; omega)) (rS e2 rfl)))))))))), ?_⟩
    exact ⟨_, rfl⟩
  | some m0 =>
    rw [hl] at e2
    simp only at e2 ⊢
    cases ho : openS (keyL m0 sealP (be ((b.take 12).take 4))) (b.take 12) (boundB k id) (b.drop 12) with
    | none =>
      rw [ho] at e2
      simp only at e2
      refine ⟨.inl ((be ((b.take 12).take 4) : Int), 7), rS kind_run (rE k1 (rG z1 (rE (decide_eq_false (by unfold ln; omega)) (rG z2 (rE (decide_eq_false (by unfold ln; omega)) (rG s1 (rS e1 (rE rfl (rE (decide_eq_false (by simp only; omega)) (rS e2 rfl)))))))))), ?_⟩
      exact ⟨_, rfl⟩
    | some t =>
      rw [ho] at e2
      simp only at e2
      refine ⟨.inr (t, ((be ((b.take 12).take 4) : Int), 0)), rS kind_run (rE k1 (rG z1 (rE (decide_eq_false (by unfold ln; omega)) (rG z2 (rE (decide_eq_false (by unfold ln; omega)) (rG s1 (rS e1 (rE rfl (rE (decide_eq_false (by simp only; omega)) (rS e2 rfl)))))))))), ?_⟩
      rfl
theorem openB_ne {r : Rg} {k : Int} {id b : List UInt8} {er : Int} (h : openB r k id b = .inl er) : er ≠ 0 := by
  unfold openB at h
  split at h
  · cases h; decide
  · split at h
    · cases h; decide
    · split at h
      · cases h; decide
      · split at h
        · cases h; decide
        · split at h
          · cases h; decide
          · split at h
            · cases h; decide
            · split at h
              · cases h; decide
              · cases h
theorem bOpen_run {n : Nat} (hn : 10000 ≤ n) {r : Rg} (hr : okR r) {k : Int} {id b : List UInt8} (hi : id.length = 32) (hb : b.length ≤ 1000000) :
    (F_blob_Open n k id b r).run = some (match openB r k id b with | .inl er => .inl er | .inr (t, e) => .inr (t, 0)) := by
  obtain ⟨y, h1, h2⟩ := bopened_run hn hr (k := k) hi hb
  rw [F_blob_Open]
  refine rS h1 ?_
  cases ho : openB r k id b with
  | inl er => rw [ho] at h2; obtain ⟨ep, rfl⟩ := h2; rfl
  | inr p => obtain ⟨t, e⟩ := p; rw [ho] at h2; simp only at h2; subst h2; rfl
def idB (r : Rg) (e k : Int) (text : List UInt8) : List UInt8 × Int :=
  if k < 1 ∨ 4 < k then (zs 32, 1) else if 8192 < text.length then (zs 32, 2) else match rkS r nameP e with
  | .inl er => (zs 32, er)
  | .inr key => (idS key k.toNat text, 0)
theorem rkS_ne {r : Rg} {p : List UInt8} {e er : Int} (h : rkS r p e = .inl er) : er ≠ 0 := by
  unfold rkS at h
  split at h
  · cases h; decide
  · split at h
    · cases h; decide
    · cases h
theorem rkS_len {r : Rg} {p : List UInt8} {e : Int} {key : List UInt8} (h : rkS r p e = .inr key) : key.length = 32 := by
  unfold rkS at h
  split at h
  · cases h
  · split at h
    · cases h
    · cases h; exact keyL_len _ _ _
theorem bID_run {n : Nat} (hn : 10000 ≤ n) {r : Rg} (hr : okR r) {e k : Int} {text : List UInt8} (hc : text.length ≤ 1000000) : (F_blob_ID n e k text r).run = some (idB r e k text) := by
  have e1 := ringkey_run (n := n) (by omega) hr (p := nameP) (by decide) (right_name e)
  rw [F_blob_ID]
  refine rS kind_run ?_
  unfold idB
  by_cases h : k < 1 ∨ 4 < k
  · rw [if_pos h]
    exact rI (by simp only [Bool.not_eq_true', decide_eq_false_iff_not]; omega) rfl
  · rw [if_neg h]
    refine rE (by simp only [Bool.not_eq_false', decide_eq_true_eq]; omega) ?_
    by_cases h2 : 8192 < text.length
    · rw [if_pos h2]
      exact rI (decide_eq_true (by unfold ln; omega)) rfl
    · rw [if_neg h2]
      refine rE (decide_eq_false (by unfold ln; omega)) (rS e1 ?_)
      cases hk : rkS r nameP e with
      | inl er =>
        have := rkS_ne hk
        rw [run_l]
        exact rI (by simp [this]) rfl
      | inr key =>
        have hkl := rkS_len hk
        obtain ⟨kn, rfl⟩ : ∃ q : Nat, k = (q : Int) := ⟨k.toNat, by omega⟩
        have e2 := lid_run (n := n) (by omega) (key := key) (text := text) (k := kn) hkl (by omega) (by omega) hc
        rw [run_r, List.drop_zero, List.take_of_length_le (by omega)]
        exact rE rfl (rS e2 rfl)
theorem bCheck_run {n : Nat} (hn : 10000 ≤ n) {r : Rg} (hr : okR r) {k : Int} {id b : List UInt8} (hi : id.length = 32) (hb : b.length ≤ 1000000) {t : List UInt8} {e : Nat} (ho : openB r k id b = .inr (t, e)) (ht : t.length ≤ 8192) :
    (F_blob_Check n k id b r).run = some (if (idB r e k t).2 = 0 ∧ (idB r e k t).1 = id then .inr t else .inl 23) := by
  obtain ⟨y, h1, h2⟩ := bopened_run hn hr (k := k) hi hb
  rw [ho] at h2
  simp only at h2
  subst h2
  have e2 := bID_run hn hr (e := (e : Int)) (k := k) (text := t) (by omega)
  rw [F_blob_Check]
  refine rS h1 ?_
  rw [run_r]
  refine rE rfl (rS e2 ?_)
  by_cases h : (idB r e k t).2 = 0 ∧ (idB r e k t).1 = id
  · rw [if_pos h]
    refine rE ?_ rfl
    have : eqV (.arr 32 .u8) (idB r e k t).1 id = true := (eqV_iff (.arr 32 .u8) _ _).2 h.2
    simp only [h.1, this]; rfl
  · rw [if_neg h]
    refine rI ?_ rfl
    by_cases h0 : (idB r e k t).2 = 0
    · have : eqV (.arr 32 .u8) (idB r e k t).1 id = false := eqV_ne (kt := .arr 32 .u8) (fun hh => h ⟨h0, hh⟩)
      simp [this]
    · simp [h0]
def ringF : Rg → List (Int × List UInt8) → Rg
  | r, [] => r
  | r, m :: l => ringF (putS r m.1 m.2) l
theorem ringF_ok : ∀ (l : List (Int × List UInt8)) (r : Rg), okR r → okR (ringF r l)
  | [], r, h => h
  | m :: l, r, h => ringF_ok l _ (okR_put h m.1 m.2)
theorem ringF_len : ∀ (l : List (Int × List UInt8)) (r : Rg), (ringF r l).length ≤ r.length + l.length
  | [], r => by simp [ringF]
  | m :: l, r => by
    have h1 := ringF_len l (putS r m.1 m.2)
    have h2 := putS_len r m.1 m.2
    rw [ringF, List.length_cons]; omega
theorem own_run {n : Nat} {x : List UInt8} (h : x.length ≤ 140737488355328) : (F_w18_own n x).run = some x := by
  rw [F_w18_own]
  exact rG (appI_le (by simpa using h)) rfl
theorem put1_run {n : Nat} {r : Rg} {e : Int} {k : List UInt8} (hk : k.length ≤ 140737488355328) : (F_label_Ring_Put_1 n e r k).run = some (if putE r e k = 0 then .inr (putS r e k) else .inl (putE r e k)) := by
  rw [F_label_Ring_Put_1]
  unfold putE putS
  by_cases hb : e < 1 ∨ 64 < e ∨ k.length ≠ 32
  · have e1 : ((decide (e < (1 : Int))) || ((decide ((64 : Int) < e)) || (!(decide ((ln k) = (32 : Int)))))) = true := by
      simp only [Bool.or_eq_true, decide_eq_true_eq, Bool.not_eq_true', decide_eq_false_iff_not]
      unfold ln; omega
    rw [if_pos hb, if_neg (by decide)]
    exact rI e1 rfl
  · have e1 : ((decide (e < (1 : Int))) || ((decide ((64 : Int) < e)) || (!(decide ((ln k) = (32 : Int)))))) = false := by
      simp only [Bool.or_eq_false_iff, decide_eq_false_iff_not, Bool.not_eq_false', decide_eq_true_eq]
      unfold ln; omega
    rw [if_neg hb, if_neg hb, mget_lookS]
    refine rE e1 ?_
    cases hl : lookS r e with
    | some x => exact rI rfl rfl
    | none =>
      refine rE rfl (rG (y := k) ?_ ?_)
      · rw [F_slices_Clone___byte_byte__1]
        exact rG (appI_le (by simpa using hk)) rfl
      · rw [mput_new (by rw [mget_lookS]; exact hl)]
        rfl
theorem rings_l3 {n : Nat} {f : Bool} {l : List (Int × List UInt8)} (hl : ∀ p ∈ l, p.2.length ≤ 140737488355328) (hn : 100 ≤ n) : ∀ (k i : Nat) (g : Bool) (r : Rg), i ≤ 10 → 10 < i + k → r.length ≤ i →
    ∃ y, (F_w18_rings_l0_3 n k f l (i : Int) r g r).run = some y ∧ match y with | .inl (_, q) => q = ringF r ((l.take 10).drop i) ∧ r = ringF r ((l.take 10).drop i) | .inr (p, _, q) => p = ringF r ((l.take 10).drop i) ∧ q = ringF r ((l.take 10).drop i)
  | 0, _, _, _, _, h, _ => by omega
  | k + 1, i, g, r, h1, h2, h3 => by
    rw [F_w18_rings_l0_3]
    by_cases hi : i < l.length ∧ i < 10
    · have hd : (l.take 10).drop i = l[i] :: (l.take 10).drop (i + 1) := by
        have : i < (l.take 10).length := by simp; omega
        rw [List.drop_eq_getElem_cons this, List.getElem_take]
      have e1 : ((decide ((i : Int) < (ln l))) && (decide ((i : Int) < (10 : Int)))) = true := by
        simp only [Bool.and_eq_true, decide_eq_true_eq]; unfold ln; omega
      have e2 : getI l (i : Int) = some l[i] := getI_lt hi.1
      have e8 : w64 ((i : Int) + 1) = ((i + 1 : Nat) : Int) := w64_succ (by omega)
      have hm := hl l[i] (List.getElem_mem hi.1)
      have e3 := own_run (n := n) hm
      have e4 := put1_run (n := n) (r := r) (e := l[i].1) hm
      obtain ⟨g', e5⟩ := rput_run (n := n) (f := g) (r := r) (e := l[i].1) (k := l[i].2) (by omega) (by omega)
      have hpl := putS_len r l[i].1 l[i].2
      obtain ⟨y, q1, q2⟩ := rings_l3 (f := f) hl hn k (i + 1) g' (putS r l[i].1 l[i].2) (by omega) (by omega) (by omega)
      rw [hd, ringF]
      by_cases h0 : putE r l[i].1 l[i].2 = 0
      · rw [if_pos h0] at e4
        cases y with
        | inl z =>
          refine ⟨.inr (putS r l[i].1 l[i].2, z.1, z.2), rI e1 (rG e2 (rG e2 (rG e3 (rG e4 ?_)))), ?_⟩
          · rw [run_r]
            refine rG e2 (rG e2 (rG e5 ?_))
            rw [e8]
            exact rS q1 rfl
          · exact ⟨q2.2, q2.1⟩
        | inr z =>
          refine ⟨.inr (z.1, z.2.1, z.2.2), rI e1 (rG e2 (rG e2 (rG e3 (rG e4 ?_)))), ?_⟩
          · rw [run_r]
            refine rG e2 (rG e2 (rG e5 ?_))
            rw [e8]
            exact rS q1 rfl
          · exact q2
      · rw [if_neg h0] at e4
        have hsame : putS r l[i].1 l[i].2 = r := by
          unfold putE at h0
          unfold putS
          split
          · rfl
          · rename_i hb
            rw [if_neg hb] at h0
            split
            · rfl
            · rename_i hb2
              rw [if_neg hb2] at h0
              exact absurd rfl h0
        rw [hsame] at e5 q1 q2 ⊢
        cases y with
        | inl z =>
          refine ⟨.inl (z.1, z.2), rI e1 (rG e2 (rG e2 (rG e3 (rG e4 ?_)))), ?_⟩
          · rw [run_l]
            refine rG e2 (rG e2 (rG e5 ?_))
            rw [e8]
            exact rS q1 rfl
          · exact q2
        | inr z =>
          refine ⟨.inr (z.1, z.2.1, z.2.2), rI e1 (rG e2 (rG e2 (rG e3 (rG e4 ?_)))), ?_⟩
          · rw [run_l]
            refine rG e2 (rG e2 (rG e5 ?_))
            rw [e8]
            exact rS q1 rfl
          · exact q2
    · have e1 : ((decide ((i : Int) < (ln l))) && (decide ((i : Int) < (10 : Int)))) = false := by
        rw [Bool.eq_false_iff]; intro h
        simp only [Bool.and_eq_true, decide_eq_true_eq] at h
        unfold ln at h; omega
      refine ⟨_, rE e1 rfl, ?_⟩
      rw [List.drop_of_length_le (by simp; omega)]
      exact ⟨rfl, rfl⟩
theorem rings_l2 {n : Nat} {f : Bool} {l : List (Int × List UInt8)} (hl : ∀ p ∈ l, p.2.length ≤ 140737488355328) (hn : 100 ≤ n) :
    ∃ y, (F_w18_rings_l0_2 n n f l (0 : Int) [] []).run = some y ∧ match y with | .inl (_, q) => q = ringF [] (l.take 10) ∧ [] = ringF [] (l.take 10) | .inr (.inl (p, _, q)) => p = ringF [] (l.take 10) ∧ q = ringF [] (l.take 10) | .inr (.inr _) => [] = ringF [] (l.take 10) := by
  obtain ⟨k, hN⟩ : ∃ k, n = k + 1 := ⟨n - 1, by omega⟩
  have hu : ∀ m, n = m → F_w18_rings_l0_2 n m = F_w18_rings_l0_2 n n := by rintro m rfl; rfl
  rw [← hu _ hN, F_w18_rings_l0_2]
  by_cases hi : 0 < l.length
  · have hd : l.take 10 = l[0] :: (l.take 10).drop 1 := by
      have : 0 < (l.take 10).length := by simp; omega
      have h := List.drop_eq_getElem_cons this
      rw [List.drop_zero, List.getElem_take] at h
      exact h
    have e1 : ((decide ((0 : Int) < (ln l))) && (decide ((0 : Int) < (10 : Int)))) = true := by
      simp only [Bool.and_eq_true, decide_eq_true_eq]; unfold ln; omega
    have e2 : getI l (0 : Int) = some l[0] := getI_lt (j := 0) hi
    have e8 : w64 ((0 : Int) + 1) = ((1 : Nat) : Int) := rfl
    have hm := hl l[0] (List.getElem_mem hi)
    have e3 := own_run (n := n) hm
    have e4 := put1_run (n := n) (r := []) (e := l[0].1) hm
    obtain ⟨g', e5⟩ := rput_run (n := n) (f := false) (r := []) (e := l[0].1) (k := l[0].2) (by simp) (by simp; omega)
    have hpl := putS_len [] l[0].1 l[0].2
    obtain ⟨y, q1, q2⟩ := rings_l3 (f := f) hl hn k 1 g' (putS [] l[0].1 l[0].2) (by omega) (by omega) (by simpa using hpl)
    have hr : ringF [] (l.take 10) = ringF (putS [] l[0].1 l[0].2) ((l.take 10).drop 1) := by conv => lhs; rw [hd, ringF]
    rw [hr]
    by_cases h0 : putE [] l[0].1 l[0].2 = 0
    · rw [if_pos h0] at e4
      cases y with
      | inl z =>
        refine ⟨.inr (.inl (putS [] l[0].1 l[0].2, z.1, z.2)), rI e1 (rG e2 (rG e2 (rG e3 (rG e4 ?_)))), ?_⟩
        · rw [run_r]
          refine rG e2 (rG e2 (rG e5 ?_))
          rw [e8]
          exact rS q1 rfl
        · exact ⟨q2.2, q2.1⟩
      | inr z =>
        refine ⟨.inr (.inl (z.1, z.2.1, z.2.2)), rI e1 (rG e2 (rG e2 (rG e3 (rG e4 ?_)))), ?_⟩
        · rw [run_r]
          refine rG e2 (rG e2 (rG e5 ?_))
          rw [e8]
          exact rS q1 rfl
        · exact q2
    · rw [if_neg h0] at e4
      have hsame : putS [] l[0].1 l[0].2 = [] := by
        unfold putE at h0
        unfold putS
        split
        · rfl
        · rename_i hb
          rw [if_neg hb] at h0
          split
          · rfl
          · rename_i hb2
            rw [if_neg hb2] at h0
            exact absurd rfl h0
      rw [hsame] at e5 q1 q2 ⊢
      cases y with
      | inl z =>
        refine ⟨.inl (z.1, z.2), rI e1 (rG e2 (rG e2 (rG e3 (rG e4 ?_)))), ?_⟩
        · rw [run_l]
          refine rG e2 (rG e2 (rG e5 ?_))
          rw [e8]
          exact rS q1 rfl
        · exact q2
      | inr z =>
        refine ⟨.inr (.inl (z.1, z.2.1, z.2.2)), rI e1 (rG e2 (rG e2 (rG e3 (rG e4 ?_)))), ?_⟩
        · rw [run_l]
          refine rG e2 (rG e2 (rG e5 ?_))
          rw [e8]
          exact rS q1 rfl
        · exact q2
  · have e1 : ((decide ((0 : Int) < (ln l))) && (decide ((0 : Int) < (10 : Int)))) = false := by
      rw [Bool.eq_false_iff]; intro h
      simp only [Bool.and_eq_true, decide_eq_true_eq] at h
      unfold ln at h; omega
    have : l = [] := List.length_eq_zero_iff.1 (by omega)
    subst this
    exact ⟨_, rE e1 rfl, rfl⟩
theorem rings_run {n : Nat} {f : Bool} {l : List (Int × List UInt8)} (hl : ∀ p ∈ l, p.2.length ≤ 140737488355328) (hn : 100 ≤ n) : ∃ b, (F_w18_rings_1 n f l).run = some (b, ringF [] (l.take 10), ringF [] (l.take 10)) := by
  obtain ⟨y, q1, q2⟩ := rings_l2 (f := f) hl hn
  rw [F_w18_rings_1]
  cases y with
  | inl z =>
    obtain ⟨h1, h2⟩ := q2
    refine ⟨z.1, rS rfl (rS q1 ?_)⟩
    rw [run_l]
    show some (z.1, z.2, ([] : Rg)) = _
    rw [h1, ← h2]
  | inr z =>
    cases z with
    | inl w =>
      obtain ⟨h1, h2⟩ := q2
      refine ⟨w.2.1, rS rfl (rS q1 ?_)⟩
      rw [run_r, run_l]
      show some (w.2.1, w.2.2, w.1) = _
      rw [h1, h2]
    | inr w =>
      refine ⟨false, rS rfl (rS q1 ?_)⟩
      have h : ([] : Rg) = ringF [] (l.take 10) := q2
      rw [run_r, run_r, ← h]; rfl
theorem ring10_ok (l : List (Int × List UInt8)) : okR (ringF [] (l.take 10)) := ringF_ok _ _ okR_nil
theorem ring10_len (l : List (Int × List UInt8)) : (ringF [] (l.take 10)).length ≤ 10 := by
  have := ringF_len (l.take 10) []
  simp at this; omega
end Hyp
