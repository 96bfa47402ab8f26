/- IndexNobody in plain words: an index that is not there. -/
import Derived.Test.YtdlbmjbbnplpjaaIX
import Derived.Test.YtdlbmjbbnplpjaaZD
set_option linter.unusedVariables false
set_option linter.unusedSimpArgs false
namespace Go.Proofs.Ytdlbmjbbnplpjaa
open Hyp
theorem wrap_id {n : Int} (h1 : -9223372036854775808 ≤ n) (h2 : n ≤ 9223372036854775807) : w64 n = n := Hyp.wrapSelf ⟨h1, h2⟩
theorem wrap_succ {i m : Nat} (h : i < m) (hm : m ≤ 9223372036854775807) : w64 ((i : Int) + 1) = ((i + 1 : Nat) : Int) := by
  rw [wrap_id (by omega) (by omega)]; omega
theorem getI_at' {α : Type} {l : List α} {j : Nat} (h : j < l.length) : getI l (j : Int) = some l[j] := getI_lt h
abbrev IT : Ty := .arr 32 .u8
theorem eqId (x y : List UInt8) : eqV IT x y = decide (x = y) := by
  rw [Bool.eq_iff_iff, decide_eq_true_eq]; exact eqV_iff IT x y
def no (_ : List UInt8) : Bool := false
/-- What is needed of the rest, over what is out. -/
def need (f : List UInt8 → Bool) : List (List UInt8) → List (List UInt8) → List (List UInt8)
  | [], out => out
  | y :: l, out => if f y = true ∨ y ∈ out then need f l out else need f l (out ++ [y])
abbrev Sn := List (List UInt8 × Int)
/-- What has been seen is what is out. -/
def Seen (s : Sn) (out : List (List UInt8)) : Prop := ∀ y, 0 < mgetD IT (.sint .i64) s y (0 : Int) ↔ y ∈ out
theorem mget_put (s : Sn) (y z : List UInt8) (v : Int) : mget IT (.sint .i64) (mput IT (.sint .i64) s y v) z = if z = y then some v else mget IT (.sint .i64) s z := by
  induction s with
  | nil =>
    simp only [mput, mget, eqId]
    by_cases h : z = y <;> simp [h]
  | cons p s ih =>
    simp only [mput, mget, eqId]
    by_cases h : y = p.1
    · simp only [decide_eq_true h, cond_true, mget, eqId]
      by_cases h2 : z = y
      · simp [h2]
      · have : z ≠ p.1 := fun e => h2 (e.trans h.symm)
        simp [h2, this]
    · simp only [decide_eq_false h, cond_false, mget, eqId, ih]
      by_cases h2 : z = p.1
      · have : z ≠ y := fun e => h (e.symm.trans h2)
        simp [h2, this]
        intro h3; exact absurd h3.symm h
      · simp [h2]
theorem Seen.put {s : Sn} {out : List (List UInt8)} (h : Seen s out) (y : List UInt8) : Seen (mput IT (.sint .i64) s y 1) (out ++ [y]) := by
  intro z
  unfold mgetD
  rw [mget_put]
  by_cases hz : z = y
  · simp [hz]
  · have := h z
    unfold mgetD at this
    simp only [if_neg hz, List.mem_append, List.mem_singleton, hz, or_false]
    exact this
theorem Seen.nil : Seen [] [] := by intro y; simp [mgetD, mget]
theorem need_cons (f : List UInt8 → Bool) (ids : List (List UInt8)) {i : Nat} (h : i < ids.length) (out : List (List UInt8)) : need f (ids.drop i) out = if f ids[i] = true ∨ ids[i] ∈ out then need f (ids.drop (i + 1)) out else need f (ids.drop (i + 1)) (out ++ [ids[i]]) := by
  rw [List.drop_eq_getElem_cons h]; rfl
theorem app1 {out : List (List UInt8)} {y : List UInt8} (h : out.length ≤ 60) : appI 4398046511104 out [y] = some (out ++ [y]) := by unfold appI; rw [if_pos (by simp; omega)]
theorem rfind {n : Nat} (hn : 0 < n) (kd : Int) (c : Bool) (id : List UInt8) : (F_r20_Index_Find n c [] kd id).run = some ([], 0, 0, false) := by
  obtain ⟨m, rfl⟩ : ∃ m, n = m + 1 := ⟨n - 1, by omega⟩
  rfl
section
variable (n : Nat) (kd : Int) (ids : List (List UInt8)) (hl : ids.length ≤ 60)
include hl
theorem pneed1 (c : Bool) : ∀ (k i : Nat) (s : Sn) (out : List (List UInt8)), Seen s out → ids.length < i + k → i ≤ ids.length → out.length ≤ i →
    ∃ r, (F_index_Index_Need_l0_1 n k kd c ids (ids.length : Int) (i : Int) s out).run = some r ∧ (match r with | .inl _ => need (no) (ids.drop i) out = out | .inr q => need (no) (ids.drop i) out = q.1)
  | 0, i, s, out, hs, h, h', ho => by omega
  | k + 1, i, s, out, hs, h, h', ho => by
    unfold F_index_Index_Need_l0_1
    by_cases hi : i < ids.length
    · have e1 : decide ((i : Int) < (ids.length : Int)) = true := by simp; omega
      have e2 := getI_at' hi
      have e3 : (F_index_Index_Find_1 n).run = some () := rfl
      rw [need_cons _ _ hi]
      simp only [Tree.run, e1, cond_true, Option.bind_some, e2, e3]
      rw [wrap_succ hi (by omega)]
      have hsn := hs ids[i]
      by_cases hc : no ids[i] = true ∨ ids[i] ∈ out
      · obtain ⟨r, g1, g2⟩ := pneed1 c k (i + 1) s out hs (by omega) hi (by omega)
        have hb : (false || decide (0 < mgetD IT (.sint .i64) s ids[i] (0 : Int))) = true := by
          rw [Bool.false_or, decide_eq_true_eq, hsn]; exact hc.resolve_left Bool.false_ne_true
        rw [if_pos hc, hb, cond_true, g1]
        refine ⟨r, ?_, g2⟩
        cases r <;> rfl
      · obtain ⟨r, g1, g2⟩ := pneed1 c k (i + 1) _ _ (hs.put ids[i]) (by omega) hi (by simp; omega)
        have hb : (false || decide (0 < mgetD IT (.sint .i64) s ids[i] (0 : Int))) = false := by
          rw [Bool.false_or, Bool.eq_false_iff, ne_eq, decide_eq_true_eq, hsn]; exact fun h => hc (.inr h)
        rw [if_neg hc, hb, cond_false, List.set_cons_zero, app1 (by omega), Option.bind_some, g1]
        cases r with
        | inl u => exact ⟨_, rfl, g2⟩
        | inr q => exact ⟨_, rfl, g2⟩
    · have e1 : decide ((i : Int) < (ids.length : Int)) = false := by simp; omega
      have e2 : ids.drop i = [] := List.drop_eq_nil_iff.2 (by omega)
      refine ⟨.inl (), ?_, ?_⟩
      · simp only [Tree.run, e1, cond_false]
      · simp only [e2]; rfl
theorem pneed (c : Bool) (hn : 61 ≤ n) : (F_index_Index_Need_1 n kd c ids).run = some (need no ids []) := by
  unfold F_index_Index_Need_1
  obtain ⟨r, g1, g2⟩ := pneed1 n kd ids hl c n 0 [] [] Seen.nil (by omega) (by omega) (by simp)
  simp only [Tree.run]
  rw [show ((0 : Int)) = ((0 : Nat) : Int) from rfl, g1]
  rw [List.drop_zero] at g2
  cases r with
  | inl q => rw [show need no ids [] = [] from g2]; rfl
  | inr q => rw [show need no ids [] = q.1 from g2]; rfl
theorem rdup (c : Bool) {i : Nat} (hi : i < ids.length) : ∀ (k j : Nat) (h0 : Bool), i < j + k → j ≤ i →
    (F_r20_Index_Need_l2 n k c ids (i : Int) h0 (j : Int)).run = some (h0 || ((ids.take i).drop j).any fun y => decide (y = ids[i]))
  | 0, j, h0, h, h' => by omega
  | k + 1, j, h0, h, h' => by
    unfold F_r20_Index_Need_l2
    by_cases hj : j < i
    · have e1 : decide ((j : Int) < (i : Int)) = true := by simp; omega
      have hlt : j < (ids.take i).length := by simp; omega
      have e2 : (ids.take i).drop j = ids[j] :: (ids.take i).drop (j + 1) := by
        rw [List.drop_eq_getElem_cons hlt]; simp
      rw [e2]
      simp only [Tree.run, e1, cond_true]
      rw [wrap_succ hj (by omega)]
      cases h0
      · rw [cond_false, getI_at' (l := ids) (j := j) (by omega), Option.bind_some, getI_at' hi, Option.bind_some, rdup c hi k (j + 1) _ (by omega) hj, eqId]
        simp
      · rw [cond_true, rdup c hi k (j + 1) _ (by omega) hj]
        simp
    · have e1 : decide ((j : Int) < (i : Int)) = false := by simp; omega
      have e2 : (ids.take i).drop j = [] := List.drop_eq_nil_iff.2 (by simp; omega)
      simp only [Tree.run, e1, cond_false, e2]; simp
theorem rneed1 (hn : 61 ≤ n) (c c' : Bool) : ∀ (k i : Nat) (out : List (List UInt8)), (∀ y, no y = false → (y ∈ ids.take i ↔ y ∈ out)) → ids.length < i + k → i ≤ ids.length → out.length ≤ i →
    ∃ r, (F_r20_Index_Need_l0 n k kd c ids (i : Int) c' [] out).run = some r ∧ (match r with | .inl _ => need (no) (ids.drop i) out = out | .inr q => need (no) (ids.drop i) out = q)
  | 0, i, out, hs, h, h', ho => by omega
  | k + 1, i, out, hs, h, h', ho => by
    unfold F_r20_Index_Need_l0
    by_cases hi : i < ids.length
    · have e1 : decide ((i : Int) < (Nat.cast ids.length : Int)) = true := by simp; omega
      have e3 := rfind (n := n) (by omega) kd c' ids[i]
      have e4 := rdup n ids hl c hi n 0 false (by omega) (by omega)
      rw [need_cons _ _ hi]
      simp only [Tree.run, e1, cond_true, getI_at' hi, Option.bind_some, e3]
      rw [show ((0 : Int)) = ((0 : Nat) : Int) from rfl, e4, wrap_succ hi (by omega)]
      rw [Option.bind_some, List.drop_zero]
      have hsn := hs ids[i]
      have htk : ids.take (i + 1) = ids.take i ++ [ids[i]] := by rw [List.take_succ_eq_append_getElem hi]
      by_cases hc : no ids[i] = true ∨ ids[i] ∈ out
      · have hb : (false || (ids.take i).any fun y => decide (y = ids[i])) = true := by
          rw [Bool.or_eq_true, List.any_eq_true]
          rcases hc with hc | hc
          · exact .inl hc
          · cases hh : no ids[i]
            · exact .inr ⟨_, (hsn hh).2 hc, by simp⟩
            · exact absurd hh Bool.false_ne_true
        obtain ⟨r, g1, g2⟩ := rneed1 hn c c' k (i + 1) out (fun y hy => by
          rw [htk, List.mem_append, List.mem_singleton, hs y hy]
          refine ⟨fun h => ?_, .inl⟩
          rcases h with h | rfl
          · exact h
          · rcases hc with hc | hc
            · rw [hc] at hy; cases hy
            · exact hc) (by omega) hi (by omega)
        rw [if_pos hc, hb, Bool.not_true, cond_false, g1]
        refine ⟨r, ?_, g2⟩
        cases r <;> rfl
      · have hf : no ids[i] = false := by
          cases hh : no ids[i]
          · rfl
          · exact absurd (.inl hh) hc
        have hb : (false || (ids.take i).any fun y => decide (y = ids[i])) = false := by
          rw [Bool.false_or, Bool.eq_false_iff, ne_eq, List.any_eq_true]
          rintro ⟨y, h1, h2⟩
          rw [decide_eq_true_eq] at h2
          subst h2
          exact hc (.inr ((hsn hf).1 h1))
        obtain ⟨r, g1, g2⟩ := rneed1 hn c c' k (i + 1) (out ++ [ids[i]]) (fun y hy => by
          rw [htk, List.mem_append, List.mem_append, hs y hy]) (by omega) hi (by simp; omega)
        rw [if_neg hc, hb, Bool.not_false, cond_true, List.set_cons_zero, app1 (by omega), Option.bind_some, g1]
        cases r with
        | inl u => exact ⟨_, rfl, g2⟩
        | inr q => exact ⟨_, rfl, g2⟩
    · have e1 : decide ((i : Int) < (Nat.cast ids.length : Int)) = false := by simp; omega
      have e2 : ids.drop i = [] := List.drop_eq_nil_iff.2 (by omega)
      refine ⟨.inl (), ?_, ?_⟩
      · simp only [Tree.run, e1, cond_false]
      · simp only [e2]; rfl
theorem rneed (hn : 61 ≤ n) (c c' : Bool) : (F_r20_Index_Need n c' [] kd c ids).run = some (need no ids []) := by
  unfold F_r20_Index_Need
  obtain ⟨r, g1, g2⟩ := rneed1 n kd ids hl hn c c' n 0 [] (fun y _ => by simp) (by omega) (by omega) (by simp)
  simp only [Tree.run]
  rw [show ((0 : Int)) = ((0 : Nat) : Int) from rfl, g1]
  rw [List.drop_zero] at g2
  cases r with
  | inl q => rw [show need no ids [] = [] from g2]; rfl
  | inr q => rw [show need no ids [] = q from g2]; rfl
end
theorem same_loop (n : Nat) (ids : List (List UInt8)) (hl : ids.length ≤ 60) : ∀ (k i : Nat), ids.length < i + k → i ≤ ids.length → (F_r20_SameIDs_l0 n k (i : Int) ids ids).run = some (.inr ())
  | 0, i, h, h' => by omega
  | k + 1, i, h, h' => by
    unfold F_r20_SameIDs_l0
    by_cases hi : i < ids.length
    · have e1 : decide ((i : Int) < (Nat.cast ids.length : Int)) = true := by simp; omega
      have e2 : ids[0 + i]? = some ids[i] := by rw [Nat.zero_add]; exact List.getElem?_eq_getElem hi
      have e3 : inI ids.length (i : Int) = some i := by unfold inI; rw [if_pos (by omega)]; simp
      simp only [Tree.run, e1, cond_true, e3, Option.bind_some, e2, eqId, decide_true, Bool.not_true, cond_false]
      rw [wrap_succ hi (by omega), same_loop n ids hl k (i + 1) (by omega) hi]; rfl
    · have e1 : decide ((i : Int) < (Nat.cast ids.length : Int)) = false := by simp; omega
      simp only [Tree.run, e1, cond_false]
theorem same_run (n : Nat) (ids : List (List UInt8)) (hl : ids.length ≤ 60) (hn : 61 ≤ n) : (F_r20_SameIDs n ids ids).run = some true := by
  unfold F_r20_SameIDs
  simp only [Tree.run, decide_true, Bool.not_true, cond_false]
  rw [show ((0 : Int)) = ((0 : Nat) : Int) from rfl, same_loop n ids hl n 0 (by omega) (by omega)]; rfl
theorem awake_run (n : Nat) : (F_w20_awake (n + 1000)).run = some true := by kernel_rfl
theorem need_len (f : List UInt8 → Bool) : ∀ (l out : List (List UInt8)), (need f l out).length ≤ l.length + out.length
  | [], out => by simp [need]
  | y :: l, out => by
    unfold need
    split
    · have := need_len f l out; simp; omega
    · have := need_len f l (out ++ [y]); simp at this ⊢; omega
theorem nobody_run {n : Nat} (hA : (F_w20_awake n).run = some true) (hn : 1000 ≤ n) (kd : Int) (c : Bool) (ids : List (List UInt8)) : (F_w20_IndexNobody n kd c ids).run = some true := by
  unfold F_w20_IndexNobody
  by_cases hl : ids.length ≤ 60
  · have e1 : decide ((60 : Int) < (ids.length : Int)) = false := decide_eq_false (by omega)
    have hlen := need_len no ids []
    have u : ∀ t : Tree Unit, t = .ret () → t.run = some () := fun t h => by rw [h]; rfl
    have p := pneed n kd ids hl c (by omega)
    have r := rneed n kd ids hl (by omega) c false
    have s := same_run n (need no ids []) (by simp at hlen; omega) (by omega)
    simp only [Tree.run, e1, cond_false, cond_true, u (F_index_Index_Find_1 n) rfl, u (F_index_Index_Add_1 n) rfl, u (F_index_New n) rfl, u (F_index_Index_Merge n) rfl, u (F_index_Index_Len_1 n) rfl, u (F_index_Index_List n) rfl, u (F_index_Index_Packs n) rfl, u (F_index_Index_Keep n) rfl, u (F_index_Index_Copy n) rfl, Option.bind_some, p, r, s, hA]
  · have e1 : decide ((60 : Int) < (ids.length : Int)) = true := decide_eq_true (by omega)
    simp only [Tree.run, e1, cond_true, hA, Option.bind_some]
end Go.Proofs.Ytdlbmjbbnplpjaa
