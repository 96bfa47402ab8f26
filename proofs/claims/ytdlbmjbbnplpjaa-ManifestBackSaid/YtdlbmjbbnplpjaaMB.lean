/- ManifestBack in plain words: what is told is read as it was, what is read was told so. -/
import Derived.Test.YtdlbmjbbnplpjaaML
set_option linter.unusedVariables false
set_option linter.unusedSimpArgs false
namespace Go.Proofs.Ytdlbmjbbnplpjaa
open Hyp
theorem num_split (b : List UInt8) (x : Int) : num b x = b ++ num [] x := by unfold num; rw [List.nil_append]
theorem num_nat {v : Nat} (h : v ≤ far) : num [] (v : Int) = UInt8.ofNat (dig v).length :: dig v := by
  unfold num
  have : clamp far (v : Int) = v := by unfold clamp; rw [Int.toNat_natCast]; exact Nat.min_eq_left h
  rw [this]; rfl
theorem nxt_num {v : Nat} (h : v ≤ far) (r : List UInt8) : nxt (num [] (v : Int) ++ r) = .inr (v, r) := by
  rw [num_nat h]
  have h7 : (dig v).length ≤ 7 := dig_len (Nat.lt_of_le_of_lt h (by decide))
  have hc : (UInt8.ofNat (dig v).length).toNat = (dig v).length := by rw [UInt8.toNat_ofNat']; omega
  show nxt (UInt8.ofNat (dig v).length :: (dig v ++ r)) = _
  unfold nxt
  simp only [hc]
  rw [if_neg (by omega), if_neg (by simp)]
  have hh : ¬ (0 < (dig v).length ∧ (dig v ++ r).head? = some 0) := by
    rintro ⟨h1, h2⟩
    cases hd : dig v with
    | nil => rw [hd] at h1; simp at h1
    | cons a t =>
      have := dig_head (m := v)
      rw [hd] at this h2
      simp at this h2
      exact this h2
  rw [if_neg hh, List.take_left' rfl, be_dig, if_neg (by omega), List.drop_left' rfl]
theorem nxt_inv {s r : List UInt8} {v : Nat} (h : nxt s = .inr (v, r)) : v ≤ far ∧ s = num [] (v : Int) ++ r := by
  unfold nxt at h
  split at h
  · cases h
  · rename_i c t
    split at h
    · cases h
    · rename_i h7
      split at h
      · cases h
      · rename_i hl
        split at h
        · cases h
        · rename_i hz
          split at h
          · cases h
          · rename_i hf
            cases h
            have hv : be (t.take c.toNat) ≤ far := by omega
            refine ⟨hv, ?_⟩
            rw [num_nat hv]
            have hd : dig (be (t.take c.toNat)) = t.take c.toNat := by
              apply dig_be
              intro h0
              apply hz
              cases t with
              | nil => simp at h0
              | cons a u =>
                by_cases hc : c.toNat = 0
                · rw [hc] at h0; simp at h0
                · obtain ⟨k, hk⟩ : ∃ k, c.toNat = k + 1 := ⟨c.toNat - 1, by omega⟩
                  rw [hk] at h0
                  exact ⟨by omega, by simpa using h0⟩
            rw [hd, List.length_take, Nat.min_eq_left (by omega), UInt8.ofNat_toNat]
            simp
theorem nxt_err {s : List UInt8} {er : Int} (hx : nxt s = .inl er) : er ≠ 0 := by
  unfold nxt at hx
  repeat' (first | (split at hx) | (cases hx; decide) | cases hx)
theorem scanN_fwd {v : Nat} (r : List UInt8) {lo hi : Int} (h : v ≤ far) (h1 : lo ≤ v) (h2 : v ≤ hi) : scanN (num [] (v : Int) ++ r) 0 lo hi = ((v : Int), r, 0) := by
  unfold scanN
  rw [if_pos rfl, nxt_num h]
  simp only
  rw [if_neg (by omega)]
theorem scanN_inv {s : List UInt8} {e lo hi : Int} (h : (scanN s e lo hi).2.2 = 0) : e = 0 ∧ ∃ v : Nat, v ≤ far ∧ (scanN s e lo hi).1 = v ∧ s = num [] (v : Int) ++ (scanN s e lo hi).2.1 := by
  unfold scanN at h ⊢
  by_cases he : e = 0
  · rw [if_pos he] at h ⊢
    cases hx : nxt s with
    | inl er =>
      rw [hx] at h
      exact absurd h (nxt_err hx)
    | inr p =>
      obtain ⟨v, r⟩ := p
      rw [hx] at h
      simp only at h ⊢
      split at h
      · cases h
      · rename_i hb
        rw [if_neg hb]
        obtain ⟨h1, h2⟩ := nxt_inv hx
        exact ⟨he, v, h1, rfl, h2⟩
  · rw [if_neg he] at h
    exact absurd h he
theorem scanI_fwd {x : List UInt8} (h : x.length = 32) (r : List UInt8) : scanI (x ++ r) 0 = (x, r, 0) := by
  unfold scanI scanF
  rw [if_neg (by decide), if_neg (by simp; omega)]
  have h32 : (32 : Int).toNat = x.length := by rw [h]; rfl
  rw [h32, List.take_left' rfl, List.drop_left' rfl]
theorem scanI_inv {s : List UInt8} {e : Int} (h : (scanI s e).2.2 = 0) : e = 0 ∧ s = (scanI s e).1 ++ (scanI s e).2.1 := by
  unfold scanI at h ⊢
  cases hf : scanF s e 32 with
  | inl x =>
    rw [hf] at h
    unfold scanF at hf
    split at hf
    · cases hf
      rename_i h1
      have h : e = 0 := h
      omega
    · split at hf
      · cases hf; cases h
      · cases hf
  | inr p =>
    unfold scanF at hf
    split at hf
    · cases hf
    · rename_i h1
      split at hf
      · cases hf
      · cases hf
        exact ⟨by omega, (List.take_append_drop _ _).symm⟩
theorem scanT_fwd {t : List UInt8} (h1 : 1 ≤ t.length) (h2 : t.length ≤ 32) (r : List UInt8) : scanT (num [] (t.length : Int) ++ (t ++ r)) 0 32 = .inr (t, r) := by
  unfold scanT
  rw [scanN_fwd (t ++ r) (by show t.length ≤ 9007199254740992; omega) (by omega) (by omega)]
  simp only
  rw [if_neg (by decide), if_neg (by omega), if_neg (by simp only [List.length_append]; omega)]
  have : scanF (t ++ r) 0 (t.length : Int) = .inr (t, r) := by
    unfold scanF
    rw [if_neg (by omega), if_neg (by simp only [List.length_append]; omega), Int.toNat_natCast, List.take_left' rfl, List.drop_left' rfl]
  rw [this]
theorem scanT_err {s : List UInt8} {e most : Int} (he : e ≠ 0) : ∃ r e', scanT s e most = .inl (r, e') ∧ e' ≠ 0 := by
  unfold scanT scanN
  rw [if_neg he]
  simp only
  rw [if_pos he]
  exact ⟨_, _, rfl, he⟩
theorem scanT_inv {s t r : List UInt8} {e most : Int} (h : scanT s e most = .inr (t, r)) : e = 0 ∧ s = num [] (t.length : Int) ++ (t ++ r) := by
  unfold scanT at h
  have hi := scanN_inv (s := s) (e := e) (lo := 0) (hi := 9007199254740992)
  generalize scanN s e 0 9007199254740992 = p at *
  obtain ⟨v, q, e'⟩ := p
  simp only at h hi
  split at h
  · cases h
  · rename_i he
    obtain ⟨h1, n, h2, h3, h4⟩ := hi (by omega)
    split at h
    · cases h
    · split at h
      · cases h
      · split at h
        · cases h
        · rename_i hlen _ p hf
          cases h
          have hl := scanF_len hf
          have hl1 := hl.2.2
          unfold scanF at hf
          rw [if_neg (by omega), if_neg (by omega)] at hf
          cases hf
          refine ⟨h1, ?_⟩
          rw [hl.1, h3, List.take_append_drop]
          exact h4
theorem putS_split : ∀ (l : Sh) (b : List UInt8), putS b l = b ++ putS [] l
  | [], b => by simp [putS]
  | x :: l, b => by
    unfold putS
    rw [putS_split l, putS_split l (num [] _ ++ _ ++ _), num_split b]
    simp only [List.append_assoc]
theorem putN_split : ∀ (l : Sn) (b : List UInt8), putN b l = b ++ putN [] l
  | [], b => by simp [putN]
  | x :: l, b => by
    unfold putN
    rw [putN_split l, putN_split l (num [] _ ++ _), num_split b]
    simp only [List.append_assoc]
theorem putS_cons (x : List UInt8 × List UInt8) (l : Sh) (h : x.2.length = 32) (r : List UInt8) : putS [] (x :: l) ++ r = num [] (x.1.length : Int) ++ (x.1 ++ (x.2 ++ (putS [] l ++ r))) := by
  conv => lhs; unfold putS
  rw [putS_split l, List.take_of_length_le (by omega)]
  simp only [List.append_assoc]
theorem putN_cons (x : Int × List UInt8) (l : Sn) (h : x.2.length = 32) (r : List UInt8) : putN [] (x :: l) ++ r = num [] x.1 ++ (x.2 ++ (putN [] l ++ r)) := by
  conv => lhs; unfold putN
  rw [putN_split l, List.take_of_length_le (by omega)]
  simp only [List.append_assoc]
theorem shardsM_fwd : ∀ (l : Sh) (r : List UInt8) (acc : Sh), (∀ x ∈ l, 1 ≤ x.1.length ∧ x.1.length ≤ 32 ∧ x.2.length = 32) → shardsM l.length (putS [] l ++ r) 0 acc = (acc ++ l, r, 0)
  | [], r, acc, _ => by simp [shardsM, putS]
  | x :: l, r, acc, h => by
    obtain ⟨h1, h2, h3⟩ := h x (.head _)
    rw [putS_cons x l h3, List.length_cons]
    unfold shardsM
    rw [scanT_fwd h1 h2]
    simp only
    rw [scanI_fwd h3]
    simp only
    rw [shardsM_fwd l r _ fun y hy => h y (.tail _ hy)]
    simp
theorem snapsM_fwd : ∀ (l : Sn) (r : List UInt8) (acc : Sn), (∀ x ∈ l, 1 ≤ x.1 ∧ x.1 ≤ 1099511627776 ∧ x.2.length = 32) → snapsM l.length (putN [] l ++ r) 0 acc = (acc ++ l, r, 0)
  | [], r, acc, _ => by simp [snapsM, putN]
  | x :: l, r, acc, h => by
    obtain ⟨h1, h2, h3⟩ := h x (.head _)
    rw [putN_cons x l h3, List.length_cons]
    unfold snapsM
    obtain ⟨v, hv⟩ : ∃ v : Nat, x.1 = v := ⟨x.1.toNat, by omega⟩
    rw [hv, scanN_fwd _ (by show v ≤ 9007199254740992; omega) (by omega) (by omega)]
    simp only
    rw [scanI_fwd h3]
    simp only
    rw [snapsM_fwd l r _ fun y hy => h y (.tail _ hy), ← hv]
    simp
theorem shardsM_err : ∀ (m : Nat) (s : List UInt8) (e : Int) (acc : Sh), (shardsM m s e acc).2.2 = 0 → e = 0
  | 0, s, e, acc, h => h
  | m + 1, s, e, acc, h => by
    by_cases he : e = 0
    · exact he
    · exfalso
      unfold shardsM at h
      obtain ⟨r, e', h1, h2⟩ := scanT_err (s := s) (most := 32) he
      rw [h1] at h
      exact h2 (scanI_inv (shardsM_err m _ _ _ h)).1
theorem snapsM_err : ∀ (m : Nat) (s : List UInt8) (e : Int) (acc : Sn), (snapsM m s e acc).2.2 = 0 → e = 0
  | 0, s, e, acc, h => h
  | m + 1, s, e, acc, h => by
    unfold snapsM at h
    exact (scanN_inv (scanI_inv (snapsM_err m _ _ _ h)).1).1
theorem shardsM_pre : ∀ (m : Nat) (s : List UInt8) (e : Int) (acc : Sh), ∃ new, (shardsM m s e acc).1 = acc ++ new
  | 0, s, e, acc => ⟨[], by simp [shardsM]⟩
  | m + 1, s, e, acc => by
    unfold shardsM
    cases ht : scanT s e 32 with
    | inl p =>
      obtain ⟨new, h⟩ := shardsM_pre m (scanI p.1 p.2).2.1 (scanI p.1 p.2).2.2 (acc ++ [([], (scanI p.1 p.2).1)])
      exact ⟨_, by rw [List.append_assoc] at h; exact h⟩
    | inr p =>
      obtain ⟨new, h⟩ := shardsM_pre m (scanI p.2 0).2.1 (scanI p.2 0).2.2 (acc ++ [(p.1, (scanI p.2 0).1)])
      exact ⟨_, by rw [List.append_assoc] at h; exact h⟩
theorem shardsM_inv : ∀ (m : Nat) (s : List UInt8) (e : Int) (acc : Sh), (shardsM m s e acc).2.2 = 0 → (∀ x ∈ (shardsM m s e acc).1, x.1 ≠ []) →
    ∃ new : Sh, (shardsM m s e acc).1 = acc ++ new ∧ new.length = m ∧ s = putS [] new ++ (shardsM m s e acc).2.1
  | 0, s, e, acc, _, _ => ⟨[], by simp [shardsM], rfl, by simp [shardsM, putS]⟩
  | m + 1, s, e, acc, h, hne => by
    unfold shardsM at h hne ⊢
    cases ht : scanT s e 32 with
    | inl p =>
      obtain ⟨r, e'⟩ := p
      rw [ht] at h hne
      obtain ⟨new, hp⟩ := shardsM_pre m (scanI r e').2.1 (scanI r e').2.2 (acc ++ [([], (scanI r e').1)])
      simp only [hp] at hne
      exact absurd rfl (hne ([], (scanI r e').1) (by simp))
    | inr p =>
      obtain ⟨t, r⟩ := p
      rw [ht] at h hne
      simp only at h hne ⊢
      obtain ⟨new, h1, h2, h3⟩ := shardsM_inv m _ _ _ h hne
      obtain ⟨h4, h5⟩ := scanI_inv (shardsM_err m _ _ _ h)
      obtain ⟨h6, h7⟩ := scanT_inv ht
      refine ⟨(t, (scanI r 0).1) :: new, by rw [h1]; simp, by rw [List.length_cons, h2], ?_⟩
      rw [putS_cons _ _ (scanI_len r 0).1, ← h3, ← h5]
      exact h7
theorem snapsM_inv : ∀ (m : Nat) (s : List UInt8) (e : Int) (acc : Sn), (snapsM m s e acc).2.2 = 0 →
    ∃ new : Sn, (snapsM m s e acc).1 = acc ++ new ∧ new.length = m ∧ s = putN [] new ++ (snapsM m s e acc).2.1
  | 0, s, e, acc, _ => ⟨[], by simp [snapsM], rfl, by simp [snapsM, putN]⟩
  | m + 1, s, e, acc, h => by
    unfold snapsM at h ⊢
    simp only at h ⊢
    obtain ⟨new, h1, h2, h3⟩ := snapsM_inv m _ _ _ h
    obtain ⟨h4, h5⟩ := scanI_inv (snapsM_err m _ _ _ h)
    obtain ⟨h6, v, h7, h8, h9⟩ := scanN_inv h4
    refine ⟨((scanN s e 1 1099511627776).1, (scanI (scanN s e 1 1099511627776).2.1 (scanN s e 1 1099511627776).2.2).1) :: new, by rw [h1]; simp, by rw [List.length_cons, h2], ?_⟩
    rw [putN_cons _ _ (scanI_len _ _).1, ← h3, ← h5, h8]
    exact h9
theorem okS_all : ∀ {l : Sh} {o : Option (List UInt8)}, okS o l = true → ∀ x ∈ l, named x.1 = true
  | [], o, _, x, hx => by cases hx
  | y :: l, o, h, x, hx => by
    rw [okS_cons, Bool.and_eq_true, Bool.and_eq_true] at h
    rcases List.mem_cons.1 hx with rfl | hx
    · exact h.1
    · exact okS_all h.2.2 x hx
theorem okN_all {nx : Int} : ∀ {l : Sn} {last : Int}, 0 ≤ last → okN nx last l = true → ∀ x ∈ l, 1 ≤ x.1 ∧ x.1 < nx
  | [], _, _, _, x, hx => by cases hx
  | y :: l, last, h0, h, x, hx => by
    rw [okN_cons, Bool.and_eq_true] at h
    have h1 : last < y.1 ∧ y.1 < nx := by
      have := h.1
      simp only [Bool.not_eq_true', Bool.or_eq_false_iff, decide_eq_false_iff_not] at this
      omega
    rcases List.mem_cons.1 hx with rfl | hx
    · omega
    · exact okN_all (by omega) h.2 x hx
theorem named_len {x : List UInt8} (h : named x = true) : 1 ≤ x.length ∧ x.length ≤ 32 := by
  unfold named at h
  simp only [Bool.and_eq_true, decide_eq_true_eq] at h
  exact ⟨h.1, h.2.1⟩
theorem right_facts {g st ep nx : Int} {sh : Sh} {sn : Sn} (h : rightM g st ep nx sh sn = true) : (1 ≤ g ∧ g ≤ 1099511627776) ∧ (1 ≤ st ∧ st ≤ 1099511627776) ∧ (1 ≤ nx ∧ nx ≤ 1099511627776) ∧ (1 ≤ ep ∧ ep ≤ 64) ∧ sh.length ≤ 64 ∧ sn.length ≤ 32 ∧ okS none sh = true ∧ okN nx 0 sn = true := by
  unfold rightM inM at h
  simp only [Bool.and_eq_true, decide_eq_true_eq] at h
  obtain ⟨h1, h2, h3, h4, h5, h6, h7, h8, h9⟩ := h
  exact ⟨h1, h2, h3, ⟨h4, h5⟩, h6, h7, h8, h9⟩
theorem putM_eq (g st ep nx : Int) (sh : Sh) (sn : Sn) : putM g st ep nx sh sn = num [] g ++ (num [] st ++ (num [] ep ++ (num [] nx ++ (num [] (sh.length : Int) ++ (putS [] sh ++ (num [] (sn.length : Int) ++ (putN [] sn ++ []))))))) := by
  unfold putM
  rw [putN_split, num_split (putS _ _), putS_split, num_split (numsM _ _)]
  show (((num (num (num (num [] g) st) ep) nx ++ _) ++ _) ++ _) ++ _ = _
  rw [num_split (num (num (num [] g) st) ep), num_split (num (num [] g) st), num_split (num [] g)]
  simp only [List.append_assoc, List.append_nil]
/-- What is told is read as it was. -/
theorem get_put {g st ep nx : Int} {sh : Sh} {sn : Sn} (h : rightM g st ep nx sh sn = true) (k1 : ∀ y ∈ sh, y.2.length = 32) (k2 : ∀ y ∈ sn, y.2.length = 32) : getM (putM g st ep nx sh sn) = .inr (g, st, ep, nx, sh, sn) := by
  obtain ⟨⟨g1, g2⟩, ⟨s1, s2⟩, ⟨n1, n2⟩, ⟨p1, p2⟩, l1, l2, o1, o2⟩ := right_facts h
  obtain ⟨g', rfl⟩ : ∃ v : Nat, g = v := ⟨g.toNat, by omega⟩
  obtain ⟨st', rfl⟩ : ∃ v : Nat, st = v := ⟨st.toNat, by omega⟩
  obtain ⟨nx', rfl⟩ : ∃ v : Nat, nx = v := ⟨nx.toNat, by omega⟩
  obtain ⟨ep', rfl⟩ : ∃ v : Nat, ep = v := ⟨ep.toNat, by omega⟩
  have fr : ∀ v : Nat, v ≤ 1099511627776 → v ≤ far := fun v hv => by show v ≤ 9007199254740992; omega
  rw [putM_eq]
  generalize hrest : putS [] sh ++ (num [] (sn.length : Int) ++ (putN [] sn ++ [])) = rest
  have hh : headM (num [] (g' : Int) ++ (num [] (st' : Int) ++ (num [] (ep' : Int) ++ (num [] (nx' : Int) ++ (num [] (sh.length : Int) ++ rest))))) = ⟨g', st', ep', nx', sh.length, rest, 0⟩ := by
    unfold headM
    simp only [scanN_fwd _ (fr g' (by omega)) g1 g2, scanN_fwd _ (fr st' (by omega)) s1 s2, scanN_fwd _ (fr ep' (by omega)) p1 p2, scanN_fwd _ (fr nx' (by omega)) n1 n2, scanN_fwd (hi := 64) rest (fr sh.length (by omega)) (by omega : (0 : Int) ≤ (sh.length : Int)) (by omega)]
  unfold getM
  simp only [hh, Int.toNat_natCast]
  rw [← hrest, shardsM_fwd sh _ [] fun x hx => by
    have := named_len (okS_all o1 x hx)
    exact ⟨this.1, this.2, k1 x hx⟩]
  simp only
  rw [scanN_fwd (putN [] sn ++ []) (fr sn.length (by omega)) (by omega : (0 : Int) ≤ (sn.length : Int)) (by omega)]
  simp only [Int.toNat_natCast]
  rw [snapsM_fwd sn [] [] fun x hx => by
    have := okN_all (by omega) o2 x hx
    exact ⟨this.1, by omega, k2 x hx⟩]
  simp only [List.nil_append]
  rw [if_neg (by decide), if_pos h]
theorem headM_inv {s : List UInt8} (h : (headM s).e = 0) : s = num [] (headM s).g ++ (num [] (headM s).st ++ (num [] (headM s).ep ++ (num [] (headM s).nx ++ (num [] (headM s).z ++ (headM s).s)))) := by
  unfold headM at h ⊢
  simp only at h ⊢
  obtain ⟨z0, z, z1, z2, z3⟩ := scanN_inv h
  obtain ⟨d0, d, d1, d2, d3⟩ := scanN_inv z0
  obtain ⟨c0, c, c1, c2, c3⟩ := scanN_inv d0
  obtain ⟨b0, b, b1, b2, b3⟩ := scanN_inv c0
  obtain ⟨a0, a, a1, a2, a3⟩ := scanN_inv b0
  rw [z2, d2, c2, b2, a2, ← z3, ← d3, ← c3, ← b3]
  exact a3
/-- What is read was told so. -/
theorem put_get {s : List UInt8} {g st ep nx : Int} {sh : Sh} {sn : Sn} (h : getM s = .inr (g, st, ep, nx, sh, sn)) : putM g st ep nx sh sn = s := by
  unfold getM at h
  simp only at h
  split at h
  · cases h
  · rename_i he
    split at h
    · rename_i hr
      cases h
      generalize hq : shardsM (headM s).z.toNat (headM s).s (headM s).e [] = q at *
      generalize hy : scanN q.2.1 q.2.2 0 32 = y at *
      generalize hw : snapsM y.1.toNat y.2.1 y.2.2 [] = w at *
      have hE : w.2.2 = 0 ∧ w.2.1 = [] := by
        unfold scanE at he
        split at he
        · exact absurd (show (4 : Int) ≠ 0 by decide) he
        · rename_i hn
          have h0 : w.2.2 = 0 := by omega
          exact ⟨h0, List.length_eq_zero_iff.1 (by omega)⟩
      obtain ⟨_, _, _, _, _, _, o1, o2⟩ := right_facts hr
      obtain ⟨new2, n1, n2, n3⟩ := snapsM_inv y.1.toNat y.2.1 y.2.2 [] (by rw [hw]; exact hE.1)
      have hy0 := snapsM_err y.1.toNat y.2.1 y.2.2 [] (by rw [hw]; exact hE.1)
      have hyi := scanN_inv (s := q.2.1) (e := q.2.2) (lo := 0) (hi := 32) (by rw [hy]; exact hy0)
      obtain ⟨hq0, v, v1, v2, v3⟩ := hyi
      rw [hy] at v2 v3
      obtain ⟨new1, m1, m2, m3⟩ := shardsM_inv (headM s).z.toNat (headM s).s (headM s).e [] (by rw [hq]; exact hq0) (by
        rw [hq]
        intro x hx h0
        have := (named_len (okS_all o1 x hx)).1
        rw [h0] at this
        simp at this)
      have hs0 := shardsM_err (headM s).z.toNat (headM s).s (headM s).e [] (by rw [hq]; exact hq0)
      have hinv := headM_inv hs0
      rw [hq] at m1 m3
      rw [hw] at n1 n3
      rw [List.nil_append] at m1 n1
      rw [putM_eq, m1, n1, m2, n2]
      have hz := headM_len s
      have e1 : (((headM s).z.toNat : Nat) : Int) = (headM s).z := by omega
      have e2 : ((y.1.toNat : Nat) : Int) = y.1 := by rw [v2]; rfl
      rw [e1, e2, v2]
      conv => rhs; rw [hinv, m3, v3, n3, hE.2]
    · cases h
theorem getM_err {s : List UInt8} {er : Int} (h : getM s = .inl er) : er ≠ 0 := by
  unfold getM at h
  simp only at h
  split at h
  · rename_i he
    cases h
    exact he
  · split at h
    · cases h
    · cases h; decide
theorem putN_len : ∀ (l : Sn) (b : List UInt8), (putN b l).length ≤ b.length + 40 * l.length
  | [], b => by simp [putN]
  | x :: l, b => by
    have h2 := putN_len l (num b x.1 ++ x.2.take 32)
    have h3 := num_len b x.1
    unfold putN
    simp only [List.length_append, List.length_take, List.length_cons] at h2 ⊢
    omega
theorem putM_len {g st ep nx : Int} {sh : Sh} {sn : Sn} (hnm : ∀ x ∈ sh, x.1.length ≤ 100) (hs : sh.length ≤ 100) (hs' : sn.length ≤ 100) : (putM g st ep nx sh sn).length ≤ 100000 := by
  unfold putM
  have h0 := numsM_len g st ep nx
  generalize numsM [] [g, st, ep, nx] = b0 at *
  have h1 := num_len b0 sh.length
  have h2 := putS_len sh (num b0 sh.length) hnm
  have h3 := num_len (putS (num b0 sh.length) sh) sn.length
  have h4 := putN_len sn (num (putS (num b0 sh.length) sh) sn.length)
  omega
set_option maxRecDepth 100000
theorem same1_zero {n : Nat} (hn : 0 < n) : (F_r23_Same_1 n 0 0 0 0 false [] false [] 0 0 0 0).run = some true := by
  obtain ⟨m, rfl⟩ : ∃ m, n = m + 1 := ⟨n - 1, by omega⟩
  rfl
theorem back_run (m : Nat) (b c : Bool) {x : MfT.den} (hx : MfT.ok x) (y : List UInt8) : (F_w23_ManifestBack (m + 1000) x.1 x.2.1 x.2.2.1 x.2.2.2.1 b x.2.2.2.2.1 c x.2.2.2.2.2 y).run = some true := by
  obtain ⟨g, st, ep, nx, sh, sn⟩ := x
  obtain ⟨k1, k2⟩ := mf_ok hx
  simp only at k1 k2 ⊢
  generalize hn : m + 1000 = n
  have aw : (F_w23_awake n).run = some true := by rw [← hn]; exact awake23 m
  have sz := same1_zero (n := n) (by omega)
  unfold F_w23_ManifestBack
  obtain ⟨d, e1, e2⟩ := few_run (n := n) (by omega) g st ep nx b c sh sn
  simp only [Tree.run, e1, Option.bind_some, aw]
  cases hd : (!d || decide ((8000 : Int) < ln y))
  · simp only [Bool.or_eq_false_iff, Bool.not_eq_false', decide_eq_false_iff_not, ln] at hd
    obtain ⟨f1, f2, f3⟩ := e2 hd.1
    have hy : y.length ≤ 140737488355328 := by omega
    have r2 := rright (n := n) (by omega) b c g st ep nx sh sn fun x hx => by have := f3 x hx; exact ⟨by omega, by omega⟩
    have p1 := cput (n := n) (by omega) b c g st ep nx (sh := sh) (sn := sn) f3 (by omega) (by omega)
    have pl := putM_len (g := g) (st := st) (ep := ep) (nx := nx) (sh := sh) (sn := sn) f3 (by omega) (by omega)
    have g1 := cget (n := n) (by omega) (s := putM g st ep nx sh sn) (by omega)
    have g2 := cget (n := n) (by omega) (s := y) hy
    have o2 := own23 n hy
    simp only [cond_false, p1, g1, Option.bind_some]
    -- the second half
    have half : ∀ t : Option Bool, (t = match getM y with
        | .inl er => (bif !(decide (er = 0)) then some true else none)
        | .inr v => some true) → t = some true := by
      intro t ht
      cases hg : getM y with
      | inl er => rw [hg] at ht; simp only [decide_eq_false (getM_err hg), Bool.not_false, cond_true] at ht; exact ht
      | inr v => rw [hg] at ht; exact ht
    cases hgp : getM (putM g st ep nx sh sn) with
    | inl er =>
      have hr : rightM g st ep nx sh sn = false := by
        cases hb : rightM g st ep nx sh sn
        · rfl
        · rw [get_put hb k1 k2] at hgp; cases hgp
      simp only [run_l, Tree.run, r2, hr, cond_false, o2, g2, Option.bind_some]
      cases hg : getM y with
      | inl er' => simp only [run_l, Tree.run, decide_eq_false (getM_err hg), Bool.not_false, cond_true, sz, aw, Option.bind_some]
      | inr v =>
        obtain ⟨g', st', ep', nx', sh', sn'⟩ := v
        have hv := getM_all hg
        have p2 := cput (n := n) (by omega) false false g' st' ep' nx' (sh := sh') (sn := sn') (fun x hx => by have := (hv.2.2.2.1 x hx).1; omega) (by omega) (by omega)
        rw [put_get hg] at p2
        simp only [run_r, Tree.run, cond_false, p2, decide_true, cond_true, aw, Option.bind_some]
    | inr v =>
      have hv0 : v = (g, st, ep, nx, sh, sn) ∨ rightM g st ep nx sh sn = false := by
        cases hb : rightM g st ep nx sh sn
        · exact .inr rfl
        · rw [get_put hb k1 k2] at hgp; cases hgp; exact .inl rfl
      have s1 := same_self (n := n) false false b c g st ep nx sh sn (by omega) (by omega) (by omega) (by omega)
      have key : ∀ r : Bool, rightM g st ep nx sh sn = r → (r = true → v = (g, st, ep, nx, sh, sn)) := by
        intro r h1 h2
        rcases hv0 with h | h
        · exact h
        · rw [h] at h1; rw [← h1] at h2; cases h2
      simp only [run_r, Tree.run, r2, Option.bind_some]
      cases hb : rightM g st ep nx sh sn
      · simp only [cond_false, o2, g2, Option.bind_some]
        cases hg : getM y with
        | inl er' => simp only [run_l, Tree.run, decide_eq_false (getM_err hg), Bool.not_false, cond_true, sz, aw, Option.bind_some]
        | inr v' =>
          obtain ⟨g', st', ep', nx', sh', sn'⟩ := v'
          have hv := getM_all hg
          have p2 := cput (n := n) (by omega) false false g' st' ep' nx' (sh := sh') (sn := sn') (fun x hx => by have := (hv.2.2.2.1 x hx).1; omega) (by omega) (by omega)
          rw [put_get hg] at p2
          simp only [run_r, Tree.run, cond_false, p2, decide_true, cond_true, aw, Option.bind_some]
      · have hvv := key true hb rfl
        subst hvv
        simp only [cond_true, cond_false, s1, Bool.not_true, o2, g2, Option.bind_some]
        cases hg : getM y with
        | inl er' => simp only [run_l, Tree.run, decide_eq_false (getM_err hg), Bool.not_false, cond_true, sz, aw, Option.bind_some]
        | inr v' =>
          obtain ⟨g', st', ep', nx', sh', sn'⟩ := v'
          have hv := getM_all hg
          have p2 := cput (n := n) (by omega) false false g' st' ep' nx' (sh := sh') (sn := sn') (fun x hx => by have := (hv.2.2.2.1 x hx).1; omega) (by omega) (by omega)
          rw [put_get hg] at p2
          simp only [run_r, Tree.run, cond_false, p2, decide_true, cond_true, aw, Option.bind_some]
  · simp only [cond_true]
end Go.Proofs.Ytdlbmjbbnplpjaa
