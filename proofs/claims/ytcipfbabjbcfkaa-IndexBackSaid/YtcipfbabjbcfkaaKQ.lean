/- IndexBack in plain words: what is told is read as it was, what is read was told so. -/
import Derived.Test.YtcipfbabjbcfkaaKM
set_option linter.unusedVariables false
set_option linter.unusedSimpArgs false
set_option maxRecDepth 100000
namespace Go.Proofs.Ytcipfbabjbcfkaa
open Hyp
def putK : List UInt8 → List Kn → List UInt8
  | b, [] => b
  | b, x :: l => putK (num (num (num (num b x.1 ++ x.2.1.take 32) x.2.2.1.length ++ x.2.2.1) x.2.2.2.1) x.2.2.2.2) l
theorem putK_cons' (b : List UInt8) (x : Kn) (l : List Kn) : putK b (x :: l) = putK (num (num (num (num b x.1 ++ x.2.1.take 32) x.2.2.1.length ++ x.2.2.1) x.2.2.2.1) x.2.2.2.2) l := rfl
theorem cputK {n : Nat} (hn : 9 < n) {l : List Kn} (hnm : ∀ x ∈ l, x.2.2.1.length ≤ 100) (hs : l.length ≤ 5000) : ∀ (k i : Nat) (b : List UInt8), i ≤ l.length → l.length < i + k → b.length + 200 * (l.length - i) ≤ 10000000 →
    (F_index_Put_l0 n k (l.length : Int) (i : Int) b l).run = some (if i < l.length then .inr (putK b (l.drop i)) else .inl ())
  | 0, i, b, h, h2, _ => by omega
  | k + 1, i, b, h, h2, hb => by
    unfold F_index_Put_l0
    by_cases hi : i < l.length
    · have e1 : decide ((i : Int) < (l.length : Int)) = true := by simp; omega
      have e2 : inI (List.length l) (i : Int) = some i := inI_nat hi
      have e2' : gt l (0 + i) = some l[i] := by rw [Nat.zero_add]; exact gt_lt hi
      have h3 := hnm l[i] (List.getElem_mem hi)
      have e3 : bytesI l[i].2.2.1 = some l[i].2.2.1 := by unfold bytesI; rw [if_pos (by omega)]
      have a1 := cnum1 (n := n) hn b (by omega) l[i].1
      have l1 := num_len b l[i].1
      have a2 : appI 140737488355328 (num b l[i].1) (List.take 32 (List.drop 0 l[i].2.1)) = some (num b l[i].1 ++ l[i].2.1.take 32) := by
        rw [List.drop_zero]; exact appI_le (by simp only [List.length_take]; omega)
      generalize hb1 : num b l[i].1 ++ l[i].2.1.take 32 = b1 at *
      have l2 : b1.length ≤ b.length + 40 := by rw [← hb1]; simp only [List.length_append, List.length_take]; omega
      have a3 := ctext (n := n) hn b1 l[i].2.2.1 (by omega)
      have l3 := num_len b1 l[i].2.2.1.length
      generalize hb2 : num b1 l[i].2.2.1.length ++ l[i].2.2.1 = b2 at *
      have l4 : b2.length ≤ b1.length + 108 := by rw [← hb2]; simp only [List.length_append]; omega
      have a4 := cnum1 (n := n) hn b2 (by omega) l[i].2.2.2.1
      have l5 := num_len b2 l[i].2.2.2.1
      have a5 := cnum1 (n := n) hn (num b2 l[i].2.2.2.1) (by omega) l[i].2.2.2.2
      have l6 := num_len (num b2 l[i].2.2.2.1) l[i].2.2.2.2
      have e6 := cputK hn hnm hs k (i + 1) (num (num b2 l[i].2.2.2.1) l[i].2.2.2.2) (by omega) (by omega) (by omega)
      rw [← w64_succ (by omega)] at e6
      simp only [Tree.run, e1, cond_true, e2, e2', e3, a1, a2, a3, a4, a5, e6, Option.bind_some, if_pos hi]
      rw [List.drop_eq_getElem_cons hi]
      by_cases h3 : i + 1 < l.length
      · simp only [if_pos h3, run_r, Tree.run, putK, hb1, hb2]
      · simp only [if_neg h3, run_l, Tree.run, putK, hb1, hb2]
        rw [List.drop_eq_nil_iff.2 (by omega)]; rfl
    · have e1 : decide ((i : Int) < (l.length : Int)) = false := by simp; omega
      simp only [Tree.run, e1, cond_false, if_neg hi]
theorem cputK' {n : Nat} (hn : 5001 ≤ n) {l : List Kn} (hnm : ∀ x ∈ l, x.2.2.1.length ≤ 100) (hs : l.length ≤ 5000) : (F_index_Put n l).run = some (putK (num [] l.length) l) := by
  unfold F_index_Put
  have h1 := num_len [] l.length
  simp only [List.length_nil] at h1
  have e1 : (F_codec_Number n (ln l)).run = some (num [] l.length) := cnum0 (by omega) _
  have e2 := cputK (n := n) (by omega) hnm hs n 0 (num [] l.length) (by omega) (by omega) (by omega)
  have e2' : (F_index_Put_l0 n n (ln l) 0 (num [] l.length) l).run = _ := e2
  simp only [Tree.run, e1, e2', Option.bind_some, List.drop_zero]
  by_cases h : 0 < l.length
  · simp only [if_pos h, run_r, Tree.run]
  · simp only [if_neg h, run_l, Tree.run]
    have : l = [] := List.length_eq_zero_iff.1 (by omega)
    subst this; rfl
theorem putK_len : ∀ (l : List Kn) (b : List UInt8), (∀ x ∈ l, x.2.2.1.length ≤ 100) → (putK b l).length ≤ b.length + 200 * l.length
  | [], b, _ => by simp [putK]
  | x :: l, b, h => by
    have h1 := num_len b x.1
    have hx := h x (.head _)
    rw [putK_cons']
    generalize hb1 : num b x.1 ++ x.2.1.take 32 = b1
    have l2 : b1.length ≤ b.length + 40 := by rw [← hb1]; simp only [List.length_append, List.length_take]; omega
    have l3 := num_len b1 x.2.2.1.length
    generalize hb2 : num b1 x.2.2.1.length ++ x.2.2.1 = b2
    have l4 : b2.length ≤ b1.length + 108 := by rw [← hb2]; simp only [List.length_append]; omega
    have l5 := num_len b2 x.2.2.2.1
    have l6 := num_len (num b2 x.2.2.2.1) x.2.2.2.2
    have l7 := putK_len l (num (num b2 x.2.2.2.1) x.2.2.2.2) fun y hy => h y (.tail _ hy)
    simp only [List.length_cons]
    omega
theorem putK_split : ∀ (l : List Kn) (b : List UInt8), putK b l = b ++ putK [] l
  | [], b => by simp [putK]
  | x :: l, b => by
    rw [putK_cons', putK_cons', putK_split l, putK_split l (num (num (num (num [] x.1 ++ x.2.1.take 32) x.2.2.1.length ++ x.2.2.1) x.2.2.2.1) x.2.2.2.2)]
    rw [num_split (num (num (num b _ ++ _) _ ++ _) _), num_split (num (num b _ ++ _) _ ++ _), num_split (num b _ ++ _), num_split b]
    rw [num_split (num (num (num [] _ ++ _) _ ++ _) _), num_split (num (num [] _ ++ _) _ ++ _), num_split (num [] _ ++ _)]
    simp only [List.append_assoc]
theorem putK_cons (x : Kn) (l : List Kn) (h : x.2.1.length = 32) (r : List UInt8) : putK [] (x :: l) ++ r = num [] x.1 ++ (x.2.1 ++ (num [] (x.2.2.1.length : Int) ++ (x.2.2.1 ++ (num [] x.2.2.2.1 ++ (num [] x.2.2.2.2 ++ (putK [] l ++ r)))))) := by
  rw [putK_cons', putK_split l, List.take_of_length_le (by omega)]
  rw [num_split (num (num (num [] _ ++ _) _ ++ _) _), num_split (num (num [] _ ++ _) _ ++ _), num_split (num [] _ ++ _)]
  simp only [List.append_assoc]
theorem right_facts {k : Int} {nm : List UInt8} {a b : Int} (h : right k nm a b = true) : (1 ≤ k ∧ k ≤ 3) ∧ (1 ≤ nm.length ∧ nm.length ≤ 32) ∧ (8 ≤ a ∧ a ≤ 65536) ∧ 28 ≤ b ∧ b ≤ 65536 := by
  unfold right named at h
  simp only [Bool.and_eq_true, decide_eq_true_eq] at h
  obtain ⟨h1, h2, ⟨h3, h4, _⟩, h5, h6, h7, h8⟩ := h
  exact ⟨⟨h1, h2⟩, ⟨h3, h4⟩, ⟨h5, h6⟩, h7, by omega⟩
/-- One entry, told and read. -/
theorem elem_fwd {x : Kn} (h : right x.1 x.2.2.1 x.2.2.2.1 x.2.2.2.2 = true) (hi : x.2.1.length = 32) (r : List UInt8) : elemM (num [] x.1 ++ (x.2.1 ++ (num [] (x.2.2.1.length : Int) ++ (x.2.2.1 ++ (num [] x.2.2.2.1 ++ (num [] x.2.2.2.2 ++ r)))))) 0 = (x, r, 0) := by
  obtain ⟨k, id, nm, a, b⟩ := x
  obtain ⟨⟨k1, k2⟩, ⟨n1, n2⟩, ⟨a1, a2⟩, b1, b2⟩ := right_facts h
  simp only at k1 k2 n1 n2 a1 a2 b1 b2 hi ⊢
  obtain ⟨k', rfl⟩ : ∃ v : Nat, k = v := ⟨k.toNat, by omega⟩
  obtain ⟨a', rfl⟩ : ∃ v : Nat, a = v := ⟨a.toNat, by omega⟩
  obtain ⟨b', rfl⟩ : ∃ v : Nat, b = v := ⟨b.toNat, by omega⟩
  have fr : ∀ v : Nat, v ≤ 1099511627776 → v ≤ far := fun v hv => by show v ≤ 9007199254740992; omega
  unfold elemM
  simp only [scanN_fwd _ (fr k' (by omega)) k1 k2, scanI_fwd hi, scanT_fwd n1 n2, scanN_fwd _ (fr a' (by omega)) a1 a2, scanN_fwd _ (fr b' (by omega)) b1 b2]
theorem knM_fwd : ∀ (l : List Kn) (r : List UInt8) (acc : List Kn), (∀ x ∈ l, right x.1 x.2.2.1 x.2.2.2.1 x.2.2.2.2 = true ∧ x.2.1.length = 32) → knM l.length (putK [] l ++ r) 0 acc = (acc ++ l, r, 0)
  | [], r, acc, _ => by simp [knM, putK]
  | x :: l, r, acc, h => by
    obtain ⟨h1, h2⟩ := h x (.head _)
    rw [putK_cons x l h2, List.length_cons]
    unfold knM
    rw [if_neg (by decide), elem_fwd h1 h2]
    simp only
    rw [knM_fwd l r _ fun y hy => h y (.tail _ hy)]
    simp
/-- What is told is read as it was. -/
theorem get_put {l : List Kn} (h : okK none l = true) (hr : ∀ x ∈ l, right x.1 x.2.2.1 x.2.2.2.1 x.2.2.2.2 = true ∧ x.2.1.length = 32) (hl : l.length ≤ 4096) : getK (putK (num [] (l.length : Int)) l) = (0, l) := by
  rw [putK_split, ← List.append_nil (putK [] l)]
  unfold getK
  rw [scanN_fwd (putK [] l ++ []) (show l.length ≤ 9007199254740992 by omega) (by omega : (0 : Int) ≤ (l.length : Int)) (by omega)]
  simp only [Int.toNat_natCast]
  rw [knM_fwd l [] [] hr]
  simp only [List.nil_append]
  rw [if_neg (by decide), if_pos h]
/-- One entry that was read. -/
theorem elem_inv {s : List UInt8} {e : Int} (h : (elemM s e).2.2 = 0) (hn : (elemM s e).1.2.2.1 ≠ []) : e = 0 ∧ s = num [] (elemM s e).1.1 ++ ((elemM s e).1.2.1 ++ (num [] ((elemM s e).1.2.2.1.length : Int) ++ ((elemM s e).1.2.2.1 ++ (num [] (elemM s e).1.2.2.2.1 ++ (num [] (elemM s e).1.2.2.2.2 ++ (elemM s e).2.1))))) := by
  rw [elemM_eq] at h hn ⊢
  simp only at h hn ⊢
  have hz := scanN_inv (s := (eO s e).2.1) (e := (eO s e).2.2) (lo := 28) (hi := 65536) h
  obtain ⟨z0, z, z1, z2, z3⟩ := hz
  have ho := scanN_inv (s := (eT s e).2.1) (e := (eT s e).2.2) (lo := 8) (hi := 65536) z0
  obtain ⟨o0, o, o1, o2, o3⟩ := ho
  have ht : ∃ t r, scanT (eD s e).2.1 (eD s e).2.2 32 = .inr (t, r) ∧ eT s e = (t, r, 0) := by
    unfold eT tT at hn ⊢
    cases hq : scanT (eD s e).2.1 (eD s e).2.2 32 with
    | inl p => rw [hq] at hn; exact absurd rfl hn
    | inr p => exact ⟨p.1, p.2, rfl, rfl⟩
  obtain ⟨t, r, t1, t2⟩ := ht
  obtain ⟨t3, t4⟩ := scanT_inv t1
  obtain ⟨d1, d2⟩ := scanI_inv (s := (eA s e).2.1) (e := (eA s e).2.2) t3
  obtain ⟨a0, a, a1, a2, a3⟩ := scanN_inv (s := s) (e := e) (lo := 1) (hi := 3) d1
  refine ⟨a0, ?_⟩
  have z2' : (eZ s e).1 = (z : Int) := z2
  have o2' : (eO s e).1 = (o : Int) := o2
  have a2' : (eA s e).1 = (a : Int) := a2
  have z3' : (eO s e).2.1 = num [] (z : Int) ++ (eZ s e).2.1 := z3
  have o3' : (eT s e).2.1 = num [] (o : Int) ++ (eO s e).2.1 := o3
  have a3' : s = num [] (a : Int) ++ (eA s e).2.1 := a3
  have d2' : (eA s e).2.1 = (eD s e).1 ++ (eD s e).2.1 := d2
  rw [z2', o2', a2', ← z3', ← o3', t2]
  simp only
  rw [← t4, ← d2']
  exact a3'
theorem knM_pre : ∀ (m : Nat) (s : List UInt8) (e : Int) (acc : List Kn), ∃ new, (knM m s e acc).1 = acc ++ new
  | 0, s, e, acc => ⟨[], by simp [knM]⟩
  | m + 1, s, e, acc => by
    unfold knM
    split
    · exact ⟨[], by simp⟩
    · obtain ⟨new, h⟩ := knM_pre m (elemM s e).2.1 (elemM s e).2.2 (acc ++ [(elemM s e).1])
      exact ⟨_, by rw [List.append_assoc] at h; exact h⟩
theorem knM_zero : ∀ (m : Nat) (s : List UInt8) (e : Int) (acc : List Kn), (knM m s e acc).2.2 = 0 → e = 0
  | m, s, e, acc, h => by
    by_cases he : e = 0
    · exact he
    · rw [knM_err m he] at h; exact absurd h he
theorem knM_inv : ∀ (m : Nat) (s : List UInt8) (e : Int) (acc : List Kn), (knM m s e acc).2.2 = 0 → (∀ x ∈ (knM m s e acc).1, x.2.2.1 ≠ []) →
    ∃ new : List Kn, (knM m s e acc).1 = acc ++ new ∧ new.length = m ∧ s = putK [] new ++ (knM m s e acc).2.1
  | 0, s, e, acc, _, _ => ⟨[], by simp [knM], rfl, by simp [knM, putK]⟩
  | m + 1, s, e, acc, h, hne => by
    have he := knM_zero _ _ _ _ h
    subst he
    unfold knM at h hne ⊢
    rw [if_neg (by decide)] at h hne ⊢
    obtain ⟨pre, hp⟩ := knM_pre m (elemM s 0).2.1 (elemM s 0).2.2 (acc ++ [(elemM s 0).1])
    obtain ⟨new, h1, h2, h3⟩ := knM_inv m _ _ _ h hne
    obtain ⟨h4, h5⟩ := elem_inv (s := s) (e := 0) (knM_zero _ _ _ _ h) (hne _ (by rw [hp]; simp))
    refine ⟨(elemM s 0).1 :: new, by rw [h1]; simp, by rw [List.length_cons, h2], ?_⟩
    rw [putK_cons _ _ (elemM_fine s 0).1.2.1, ← h3]
    exact h5
theorem okK_right : ∀ {l : List Kn} {o : Option Kn}, okK o l = true → ∀ x ∈ l, right x.1 x.2.2.1 x.2.2.2.1 x.2.2.2.2 = true
  | [], o, _, x, hx => by cases hx
  | y :: l, o, h, x, hx => by
    rw [okK_cons, Bool.and_eq_true, Bool.and_eq_true] at h
    rcases List.mem_cons.1 hx with rfl | hx
    · exact h.1
    · exact okK_right h.2.2 x hx
/-- What is read was told so; and it is right. -/
theorem put_get {s : List UInt8} (h : (getK s).1 = 0) : putK (num [] ((getK s).2.length : Int)) (getK s).2 = s ∧ (getK s).2.length ≤ 4096 ∧ ∀ x ∈ (getK s).2, x.2.2.1.length ≤ 100 := by
  unfold getK at h ⊢
  simp only at h ⊢
  have l1 := scanN_len' s 0 0 4096 (by decide) (by decide)
  have hz := scanN_inv (s := s) (e := 0) (lo := 0) (hi := 4096)
  generalize scanN s 0 0 4096 = z at *
  have hf := knM_fine z.1.toNat z.2.1 z.2.2 [] (by simp)
  have hw0 := knM_zero z.1.toNat z.2.1 z.2.2 []
  have hin := knM_inv z.1.toNat z.2.1 z.2.2 []
  generalize knM z.1.toNat z.2.1 z.2.2 [] = w at *
  by_cases he : scanE w.2.1 w.2.2 ≠ 0
  · rw [if_pos he] at h
    exact absurd h he
  · rw [if_neg he] at h ⊢
    by_cases hr : okK none w.1 = true
    · rw [if_pos hr] at h ⊢
      have hE : w.2.2 = 0 ∧ w.2.1 = [] := by
        unfold scanE at he
        split at he
        · exact absurd (show (4 : Int) ≠ 0 by decide) he
        · rename_i hn
          have h0 : w.2.2 = 0 := by omega
          exact ⟨h0, List.length_eq_zero_iff.1 (by omega)⟩
      obtain ⟨_, v, v1, v2, v3⟩ := hz (hw0 hE.1)
      obtain ⟨new, n1, n2, n3⟩ := hin hE.1 fun x hx h0 => by
        have := (right_facts (okK_right hr x hx)).2.1.1
        rw [h0] at this
        simp at this
      rw [List.nil_append] at n1
      refine ⟨?_, ?_, fun x hx => ?_⟩
      · simp only
        rw [putK_split, n1, n2, show ((z.1.toNat : Nat) : Int) = z.1 by omega, v2]
        rw [hE.2, List.append_nil] at n3
        rw [← n3]
        exact v3.symm
      · simp only
        rw [n1, n2]; omega
      · have := (right_facts (okK_right hr x hx)).2.1.2
        omega
    · rw [if_neg hr] at h
      exact absurd h (by show ¬ (5 : Int) = 0; decide)
theorem getK_err {s : List UInt8} (h : (getK s).1 ≠ 0) : (getK s).2 = [] := by
  unfold getK at h ⊢
  simp only at h ⊢
  split
  · rfl
  · rename_i he
    rw [if_neg he] at h
    split
    · rename_i hr
      rw [if_pos hr] at h
      exact absurd rfl h
    · rfl
theorem okK_of : ∀ (l : List Kn) (o : Option Kn), (∀ x ∈ l, right x.1 x.2.2.1 x.2.2.2.1 x.2.2.2.2 = true) → (o.toList ++ l).Pairwise (fun a b => before a b = true) → okK o l = true
  | [], o, _, _ => okK_nil o
  | x :: l, none, h, hp => by
    rw [okK_cons, h x (.head _), okK_of l (some x) (fun y hy => h y (.tail _ hy)) hp]; rfl
  | x :: l, some p, h, hp => by
    have hp : (p :: x :: l).Pairwise (fun a b => before a b = true) := hp
    obtain ⟨h1, h2⟩ := List.pairwise_cons.1 hp
    rw [okK_cons, h x (.head _), okK_of l (some x) (fun y hy => h y (.tail _ hy)) h2]
    simp [h1 x (.head _)]
theorem before_ord (x y : Kn) : before x y = decide (ordK x y < 0) := by
  unfold before ordK
  by_cases h : x.1 = y.1
  · rw [if_neg (by simp [h]), if_pos h]
    have := cmp_neg x.2.1 y.2.1
    rw [Bool.eq_iff_iff] at this ⊢
    simp only [decide_eq_true_eq, Bool.not_eq_true', Bool.not_eq_true] at this ⊢
    constructor
    · intro h1
      have : ¬ 0 ≤ Go.Lib.compareBytes x.2.1 y.2.1 := fun h2 => by rw [this.1 h2] at h1; cases h1
      omega
    · intro h1
      cases hb : strLt x.2.1 y.2.1 with
      | true => rfl
      | false => have := this.2 hb; omega
  · rw [if_pos h, if_neg h]
    rw [Bool.eq_iff_iff, decide_eq_true_eq, decide_eq_true_eq]; omega
theorem srt_ok {m : Mp} (h : InvM m) : okK none (srt (flat m)) = true ∧ ∀ x ∈ srt (flat m), right x.1 x.2.2.1 x.2.2.2.1 x.2.2.2.2 = true ∧ x.2.1.length = 32 := by
  have hp : (srt (flat m)).Perm (flat m) := List.mergeSort_perm _ _
  have hr : ∀ x ∈ srt (flat m), right x.1 x.2.2.1 x.2.2.2.1 x.2.2.2.2 = true ∧ x.2.1.length = 32 := by
    intro x hx
    obtain ⟨p, hpm, rfl⟩ := List.mem_map.1 (hp.mem_iff.1 hx)
    exact h.ok p hpm
  refine ⟨okK_of _ none (fun x hx => (hr x hx).1) ?_, hr⟩
  have hs : SrtK (srt (flat m)) := msort_srt _
  have hg := (goodK_iff.1 (goodK_perm hp.symm (flat_good h))).2
  show (srt (flat m)).Pairwise _
  refine (List.Pairwise.and hs hg).imp fun {a b} hab => ?_
  rw [before_ord, decide_eq_true_eq]
  have := hab.1
  have : ordK a b ≠ 0 := fun h => hab.2 (ordK_zero h)
  omega
theorem back_run {n : Nat} (haw : (F_w20_awake n).run = some true) (hn : 5001 ≤ n) (ca : Bool) (a : List Ent) (y : List UInt8) (ha : a.length ≤ 9223372036854775807 ∧ (∀ e ∈ a, e.2.2.1.length < n) ∧ (∀ e ∈ a, e.2.2.1.length ≤ 9223372036854775807) ∧ (∀ e ∈ a, e.2.1.length = 32)) : (F_w20_IndexBack n ca a y).Runs (· = true) := by
  unfold F_w20_IndexBack
  by_cases hl : 4000 < y.length
  · refine R_ite_t (by rw [decide_eq_true_eq]; show (4000 : Int) < (y.length : Int); omega) ?_
    refine R_run haw ?_
    exact rfl
  · refine R_ite_f (by rw [decide_eq_false_iff_not]; show ¬ (4000 : Int) < (y.length : Int); omega) ?_
    obtain ⟨m, c, g1, g2, g3⟩ := both_run (by omega) ca a ha.1 ha.2.1 ha.2.2.1 ha.2.2.2
    refine R_run g1 ?_
    refine R_run (plist_run (m := m) (by omega) g3 (by omega)) ?_
    obtain ⟨k1, k2⟩ := srt_ok g3
    have hsl : (srt (flat m)).length ≤ 60 := by rw [srt_len, flat_len]; exact g2
    have hnm : ∀ x ∈ srt (flat m), x.2.2.1.length ≤ 100 := fun x hx => by
      have := (right_facts (k2 x hx).1).2.1.2
      omega
    refine R_run (cputK' (n := n) (by omega) hnm (by omega)) ?_
    have hpl := putK_len (srt (flat m)) (num [] ((srt (flat m)).length : Int)) hnm
    have hnl := num_len [] ((srt (flat m)).length : Int)
    simp only [List.length_nil] at hnl
    have e1 := cgetK (n := n) (by omega) (s := putK (num [] ((srt (flat m)).length : Int)) (srt (flat m))) (by omega)
    rw [get_put k1 k2 (by omega)] at e1
    refine R_run e1 ?_
    refine R_ite_f rfl ?_
    refine R_run (plist_run (m := m) (by omega) g3 (by omega)) ?_
    refine R_run (same_run (n := n) (srt (flat m)) (by omega) (by omega)) ?_
    refine R_ite_f rfl ?_
    refine R_get y (own_app (by omega)) ?_
    refine R_run (cgetK (n := n) (by omega) (s := y) (by omega)) ?_
    by_cases he : (getK y).1 = 0
    · refine R_ite_f (by rw [he]; rfl) ?_
      obtain ⟨p1, p2, p3⟩ := put_get he
      refine R_get _ (cputK' (n := n) (by omega) p3 (by omega)) ?_
      refine R_ite_t (by rw [p1]; exact decide_eq_true rfl) ?_
      refine R_get _ haw ?_
      exact rfl
    · refine R_ite_t (by rw [decide_eq_false he]; rfl) ?_
      refine R_ite_t (by rw [getK_err he]; rfl) ?_
      refine R_run haw ?_
      exact rfl
theorem back_law (ca : Bool) (a : List Ent) (y : List UInt8) (ga : KTL.ok a) : (F_w20_IndexBack (fuel a + 5000 + 1000) ca a y).Runs (· = true) := by
  have hf := arg_facts ga (n := fuel a + 5000) (by omega)
  exact back_run (awake_run _) (by omega) ca a y hf
end Go.Proofs.Ytcipfbabjbcfkaa
