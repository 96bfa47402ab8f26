/- The laws of the index in plain words: what both indices are. -/
import Derived.Test.YtcipfbabjbcfkaaKN
set_option linter.unusedVariables false
set_option linter.unusedSimpArgs false
namespace Go.Proofs.Ytcipfbabjbcfkaa
open Hyp
abbrev KT : Ty := .rcd (.pair (.sint .i64) (.arr 32 .u8))
abbrev VT : Ty := .rcd (.pair .str (.pair (.sint .i64) (.sint .i64)))
abbrev IT : Ty := .arr 32 .u8
abbrev Ent := Int × List UInt8 × List UInt8 × Int × Int
abbrev Mp := List ((Int × List UInt8) × List UInt8 × Int × Int)
theorem eqId (x y : List UInt8) : eqV IT x y = decide (x = y) := by
  rw [Bool.eq_iff_iff, decide_eq_true_eq]; exact eqV_iff IT x y
/-- An entry's right form. -/
def right (k : Int) (nm : List UInt8) (a b : Int) : Bool := decide (1 ≤ k) && (decide (k ≤ 3) && (named nm && (decide (8 ≤ a) && (decide (a ≤ 65536) && (decide (28 ≤ b) && decide (a + b ≤ 65536))))))
theorem right_run {n : Nat} (hn : 33 ≤ n) (k : Int) (nm : List UInt8) (a b : Int) : (F_index_Right n k nm a b).run = some (right k nm a b) := by
  unfold F_index_Right right
  simp only [Tree.run, named_run hn, Option.bind_some]
  by_cases h1 : 1 ≤ k
  · rw [decide_eq_false (p := k < 1) (by omega), decide_eq_true h1]
    by_cases h2 : k ≤ 3
    · rw [decide_eq_false (p := 3 < k) (by omega), decide_eq_true h2]
      cases named nm
      · rfl
      · simp only [cond_false, Bool.not_true, Bool.true_and, Option.some.injEq]
        by_cases h3 : 8 ≤ a ∧ a ≤ 65536
        · rw [wrap_id (by omega) (by omega), Bool.eq_iff_iff]
          simp only [Bool.and_eq_true, decide_eq_true_eq]; omega
        · by_cases h4 : 8 ≤ a
          · rw [decide_eq_false (p := a ≤ 65536) (by omega)]; simp
          · rw [decide_eq_false h4]; simp
    · rw [decide_eq_true (p := 3 < k) (by omega), decide_eq_false h2]; simp
  · rw [decide_eq_true (p := k < 1) (by omega), decide_eq_false h1]; simp
theorem right_ref {n : Nat} (k : Int) (nm : List UInt8) (a b : Int) (hn : nm.length < n) (hx : nm.length ≤ 9223372036854775807) : (F_r20_Right n k nm a b).run = some (right k nm a b) := by
  unfold F_r20_Right right
  simp only [Tree.run, named_ref nm hn hx, Option.bind_some]
  by_cases h1 : 1 ≤ k
  · rw [decide_eq_false (p := k < 1) (by omega), decide_eq_true h1]
    by_cases h2 : k ≤ 3
    · rw [decide_eq_false (p := 3 < k) (by omega), decide_eq_true h2]
      cases named nm
      · rfl
      · simp only [cond_false, Bool.not_true, Bool.true_and]
        by_cases h3 : 8 ≤ a ∧ a ≤ 65536 ∧ 28 ≤ b ∧ b ≤ 65536
        · have e : (decide (a < 8) || (decide ((65536 : Int) < a) || (decide (b < 28) || decide ((65536 : Int) < b)))) = false := by
            simp only [Bool.or_eq_false_iff, decide_eq_false_iff_not]; omega
          rw [e, cond_false, wrap_id (by omega) (by omega), Option.some.injEq, Bool.eq_iff_iff]
          simp only [Bool.and_eq_true, decide_eq_true_eq]; omega
        · have e : (decide (a < 8) || (decide ((65536 : Int) < a) || (decide (b < 28) || decide ((65536 : Int) < b)))) = true := by
            simp only [Bool.or_eq_true, decide_eq_true_eq]; omega
          rw [e, cond_true, Option.some.injEq, Bool.eq_iff_iff]
          simp only [Bool.and_eq_true, decide_eq_true_eq, Bool.false_eq_true, false_iff]; omega
    · rw [decide_eq_true (p := 3 < k) (by omega), decide_eq_false h2]; simp
  · rw [decide_eq_true (p := k < 1) (by omega), decide_eq_false h1]; simp
/-- The map's pairs, as entries. -/
def flat (m : Mp) : List Ent := m.map fun p => (p.1.1, p.1.2, p.2)
/-- The first entry of that kind and name. -/
def look (k : Int) (id : List UInt8) (l : List Ent) : Option (List UInt8 × Int × Int) := (l.find? fun e => decide (e.1 = k) && decide (e.2.1 = id)).map fun e => e.2.2
theorem mget_look (k : Int) (id : List UInt8) : ∀ m : Mp, mget KT VT m (k, id) = look k id (flat m)
  | [] => rfl
  | p :: m => by
    have e : eqV KT (k, id) p.1 = (decide (p.1.1 = k) && decide (p.1.2 = id)) := by
      rw [Bool.eq_iff_iff, Bool.and_eq_true, decide_eq_true_eq, decide_eq_true_eq]
      refine (eqV_iff KT (k, id) p.1).trans ⟨fun h => ?_, fun h => ?_⟩
      · rw [← h]; exact ⟨rfl, rfl⟩
      · obtain ⟨h1, h2⟩ := h
        rw [← h1, ← h2]
    unfold mget
    rw [e]
    have ih := mget_look k id m
    unfold look flat at ih ⊢
    rw [List.map_cons, List.find?_cons]
    cases decide (p.1.1 = k) && decide (p.1.2 = id)
    · exact ih
    · rfl
theorem add_run {n : Nat} (hn : 33 ≤ n) (k : Int) (id nm : List UInt8) (a b : Int) (m : Mp) : (F_index_Index_Add n k id nm a b m).run = some (bif right k nm a b then (bif (look k id (flat m)).isSome then .inl (19 : Int) else .inr (m ++ [((k, id), (nm, a, b))])) else .inl 1) := by
  unfold F_index_Index_Add
  simp only [Tree.run, right_run hn, Option.bind_some]
  cases right k nm a b
  · rfl
  · have e := mget_look k id m
    cases hl : look k id (flat m) with
    | none =>
      rw [hl] at e
      have e2 := mput_new (kt := KT) (vt := VT) (v := (nm, a, b)) e
      simp only [Bool.not_true, cond_false, cond_true]
      rw [e, e2]; rfl
    | some v =>
      rw [hl] at e
      simp only [Bool.not_true, cond_false, cond_true]
      rw [e]; rfl
theorem find_loop (n : Nat) (k : Int) (c : Bool) (l : List Ent) (id nm : List UInt8) (a b : Int) (hl : l.length ≤ 9223372036854775807) : ∀ (j i : Nat), l.length < i + j → i ≤ l.length →
    (F_r20_Index_Find_l0 n j k (i : Int) c l id nm a b).run = some (match look k id (l.drop i) with | some v => .inl v | none => .inr ())
  | 0, i, h, h' => by omega
  | j + 1, i, h, h' => by
    unfold F_r20_Index_Find_l0
    by_cases hi : i < l.length
    · have e1 : decide ((i : Int) < (Nat.cast l.length : Int)) = true := by simp; omega
      have e2 : getI l (i : Int) = some l[i] := getI_at' hi
      have e3 : (F_r20_Index_Find_l0 n j k (w64 ((i : Int) + 1)) c l id nm a b).run = some (match look k id (l.drop (i + 1)) with | some v => .inl v | none => .inr ()) := by
        rw [wrap_succ hi hl]; exact find_loop n k c l id nm a b hl j (i + 1) (by omega) hi
      have e4 : look k id (l.drop i) = bif (decide (l[i].1 = k) && decide (l[i].2.1 = id)) then some l[i].2.2 else look k id (l.drop (i + 1)) := by
        unfold look
        rw [List.drop_eq_getElem_cons hi, List.find?_cons]
        cases (decide (l[i].1 = k) && decide (l[i].2.1 = id)) <;> rfl
      have e5 : ∀ o : Option (List UInt8 × Int × Int), (Option.bind (some (match o with | some v => (Sum.inl v : (List UInt8 × Int × Int) ⊕ Unit) | none => .inr ())) fun y => (Tree.alt y (fun y => Tree.ret (Sum.inl (y.1, y.2.1, y.2.2))) fun y => Tree.ret (Sum.inr () : (List UInt8 × Int × Int) ⊕ Unit)).run) = some (match o with | some v => .inl v | none => .inr ()) := by
        intro o; cases o <;> rfl
      rw [e4]
      simp only [Tree.run, e1, cond_true, e2, e3, Option.bind_some, eqId]
      cases decide (l[i].1 = k)
      · exact e5 _
      · cases decide (l[i].2.1 = id)
        · exact e5 _
        · rfl
    · have e1 : decide ((i : Int) < (Nat.cast l.length : Int)) = false := by simp; omega
      have e2 : l.drop i = [] := List.drop_eq_nil_iff.2 (by omega)
      simp only [Tree.run, e1, cond_false, e2]; rfl
theorem find_run {n : Nat} (k : Int) (c : Bool) (l : List Ent) (id : List UInt8) (hl : l.length ≤ 9223372036854775807) (hn : l.length < n) :
    (F_r20_Index_Find n c l k id).run = some (match look k id l with | some v => (v.1, v.2.1, v.2.2, true) | none => ([], 0, 0, false)) := by
  unfold F_r20_Index_Find
  have e := find_loop n k c l id [] 0 0 hl n 0 (by omega) (by omega)
  rw [List.drop_zero] at e
  simp only [Tree.run]
  rw [show ((0 : Int)) = ((0 : Nat) : Int) from rfl] at e ⊢
  rw [e]
  cases look k id l <;> rfl
theorem addr_run {n : Nat} (c : Bool) (l : List Ent) (k : Int) (id nm : List UInt8) (a b : Int) (hl : l.length ≤ 60) (hn : 60 < n) (hm : nm.length < n) (hx : nm.length ≤ 9223372036854775807) :
    ∃ c', (F_r20_Index_Add n c l k id nm a b).run = some (c', bif right k nm a b then (bif (look k id l).isSome then (l, (19 : Int)) else (l ++ [(k, id, nm, a, b)], 0)) else (l, 1)) := by
  unfold F_r20_Index_Add
  simp only [Tree.run, right_ref k nm a b hm hx, Option.bind_some]
  cases right k nm a b
  · exact ⟨c, rfl⟩
  · simp only [Bool.not_true, cond_false, cond_true, find_run (n := n) k c l id (by omega) (by omega), Option.bind_some]
    cases hlk : look k id l with
    | some v => exact ⟨c, rfl⟩
    | none =>
      refine ⟨false, ?_⟩
      have a1 : appI 1954687338268 ([] : List Ent) l = some l := by unfold appI; rw [if_pos (by simp; omega)]; rfl
      have a2 : appI 1954687338268 l [(k, id, nm, a, b)] = some (l ++ [(k, id, nm, a, b)]) := by unfold appI; rw [if_pos (by simp; omega)]
      rw [cond_false, a1, Option.bind_some]
      rw [List.set_cons_zero, a2]
      rfl
theorem flat_add (m : Mp) (k : Int) (id nm : List UInt8) (a b : Int) : flat (m ++ [((k, id), (nm, a, b))]) = flat m ++ [(k, id, nm, a, b)] := by simp [flat]
theorem flat_len (m : Mp) : (flat m).length = m.length := by simp [flat]
/-- What is so of an index. -/
structure InvM (m : Mp) : Prop where
  nd : (m.map (·.1)).Nodup
  ok : ∀ p ∈ m, right p.1.1 p.2.1 p.2.2.1 p.2.2.2 = true ∧ p.1.2.length = 32
theorem InvM.nil : InvM [] := ⟨.nil, fun _ h => by cases h⟩
theorem look_key {k : Int} {id : List UInt8} {m : Mp} (h : look k id (flat m) = none) : (k, id) ∉ m.map (·.1) := by
  intro hm
  obtain ⟨p, hp, e⟩ := List.mem_map.1 hm
  unfold look at h
  rw [Option.map_eq_none_iff, List.find?_eq_none] at h
  have := h (p.1.1, p.1.2, p.2) (List.mem_map_of_mem hp)
  have e1 : p.1.1 = k := congrArg Prod.fst e
  have e2 : p.1.2 = id := congrArg Prod.snd e
  simp [e1, e2] at this
theorem InvM.add {m : Mp} (h : InvM m) {k : Int} {id nm : List UInt8} {a b : Int} (hr : right k nm a b = true) (hi : id.length = 32) (hl : look k id (flat m) = none) : InvM (m ++ [((k, id), (nm, a, b))]) where
  nd := by
    rw [List.map_append, List.nodup_append]
    refine ⟨h.nd, List.pairwise_singleton _ _, fun x hx y hy e => ?_⟩
    simp at hy
    subst hy; subst e
    exact look_key hl hx
  ok p hp := by
    rcases List.mem_append.1 hp with hp | hp
    · exact h.ok p hp
    · simp at hp
      subst hp
      exact ⟨hr, hi⟩
/-- What Add comes to: an error, or the map. -/
def decA (m : Mp) : Int ⊕ Mp → Int × Mp
  | .inl e => (e, m)
  | .inr m' => (0, m')
theorem both_step {n : Nat} (hn : 61 ≤ n) (m : Mp) (e : Ent) (hm : m.length ≤ 60) (hI : InvM m) (h1 : e.2.2.1.length < n) (h2 : e.2.2.1.length ≤ 9223372036854775807) (h3 : e.2.1.length = 32) (c : Bool) : ∃ (q : Int ⊕ Mp) (c' : Bool), (F_index_Index_Add n e.1 e.2.1 e.2.2.1 e.2.2.2.1 e.2.2.2.2 m).run = some q ∧
    (F_r20_Index_Add n c (flat m) e.1 e.2.1 e.2.2.1 e.2.2.2.1 e.2.2.2.2).run = some (c', flat (decA m q).2, (decA m q).1) ∧ (decA m q).2.length ≤ m.length + 1 ∧ InvM (decA m q).2 := by
  obtain ⟨c', g⟩ := addr_run (n := n) c (flat m) e.1 e.2.1 e.2.2.1 e.2.2.2.1 e.2.2.2.2 (by rw [flat_len]; exact hm) (by omega) h1 h2
  rw [add_run (by omega), g]
  cases hr : right e.1 e.2.2.1 e.2.2.2.1 e.2.2.2.2
  · exact ⟨.inl 1, c', rfl, rfl, Nat.le_succ _, hI⟩
  · cases hl : look e.1 e.2.1 (flat m) with
    | none =>
      refine ⟨.inr _, c', rfl, ?_, by simp [decA], hI.add hr h3 hl⟩
      show some (c', flat m ++ [(e.1, e.2.1, e.2.2.1, e.2.2.2.1, e.2.2.2.2)], (0 : Int)) = _
      rw [← flat_add]; rfl
    | some v => exact ⟨.inl 19, c', rfl, rfl, Nat.le_succ _, hI⟩
/-- What the loop comes to, told whole. -/
def decB (m : Mp) : (Bool × Bool × List Ent) ⊕ (Bool × Mp × Bool × List Ent) → Bool × Mp × Bool × List Ent
  | .inl q => (q.1, m, q.2.1, q.2.2)
  | .inr q => q
def decN : (Bool × Bool × List Ent) ⊕ (Bool × Mp × Bool × List Ent) → (Bool × Bool × List Ent) ⊕ ((Bool × Mp × Bool × List Ent) ⊕ Unit)
  | .inl q => .inl q
  | .inr q => .inr (.inl q)
section
variable {n : Nat} (hn : 1000 ≤ n) (x : Bool) (xs : List Ent) (hxs : xs.length ≤ 9223372036854775807) (hx1 : ∀ e ∈ xs, e.2.2.1.length < n) (hx2 : ∀ e ∈ xs, e.2.2.1.length ≤ 9223372036854775807) (hx3 : ∀ e ∈ xs, e.2.1.length = 32)
include hn hxs hx1 hx2 hx3
theorem both_loop1 : ∀ (k i : Nat) (ok : Bool) (m : Mp) (c : Bool), m.length ≤ i → InvM m → 60 < i + k → i ≤ 60 → ∃ (r : (Bool × Bool × List Ent) ⊕ (Bool × Mp × Bool × List Ent)) (m' : Mp) (c' : Bool), (F_w20_both_l0_1 n k x xs ok (i : Int) m c (flat m)).run = some r ∧ decB m r = (ok, m', c', flat m') ∧ m'.length ≤ 60 ∧ InvM m'
  | 0, i, ok, m, c, h, hI, h', h'' => by omega
  | k + 1, i, ok, m, c, h, hI, h', h'' => by
    unfold F_w20_both_l0_1
    by_cases hi : i < xs.length ∧ i < 60
    · have e1 : (decide ((i : Int) < (Nat.cast xs.length : Int)) && decide ((i : Int) < 60)) = true := by simp; omega
      have e2 : getI xs (i : Int) = some xs[i] := getI_at' hi.1
      obtain ⟨q, c', g1, g2, g3, g4⟩ := both_step (n := n) (by omega) m xs[i] (by omega) hI (hx1 _ (List.getElem_mem _)) (hx2 _ (List.getElem_mem _)) (hx3 _ (List.getElem_mem _)) c
      obtain ⟨r, m2, c2, g5, g6, g7, g8⟩ := both_loop1 k (i + 1) ok (decA m q).2 c' (by omega) g4 (by omega) (by omega)
      simp only [Tree.run, e1, cond_true, e2, g1, g2, Option.bind_some, decide_true, Bool.true_and]
      rw [wrap_succ hi.1 hxs]
      cases q with
      | inl e =>
        refine ⟨r, m2, c2, ?_, g6, g7, g8⟩
        simp only [Tree.run, decA, decide_true, Bool.true_and] at g5 ⊢
        rw [g5]
        cases r <;> rfl
      | inr m1 =>
        refine ⟨.inr (decB m1 r), m2, c2, ?_, g6, g7, g8⟩
        simp only [Tree.run, decA, decide_true, Bool.true_and] at g5 ⊢
        rw [g5]
        cases r <;> rfl
    · have e1 : (decide ((i : Int) < (Nat.cast xs.length : Int)) && decide ((i : Int) < 60)) = false := by
        simp only [Bool.and_eq_false_iff, decide_eq_false_iff_not]; omega
      refine ⟨.inl (ok, c, flat m), m, c, ?_, rfl, by omega, hI⟩
      simp only [Tree.run, e1, cond_false]
/-- Both indices after the same additions hold the same. -/
theorem both_run : ∃ (m : Mp) (c : Bool), (F_w20_both n x xs).run = some (c, flat m, true, m) ∧ m.length ≤ 60 ∧ InvM m := by
  unfold F_w20_both
  simp only [Tree.run, F_index_New, Option.bind_some]
  obtain ⟨k, hk⟩ : ∃ k, n = k + 1 := ⟨n - 1, by omega⟩
  have hl : ∃ r : (Bool × Bool × List Ent) ⊕ ((Bool × Mp × Bool × List Ent) ⊕ Unit), (F_w20_both_l0 n n x xs true 0 [] []).run = some r ∧ ∃ (m' : Mp) (c' : Bool), (match r with | .inl q => (q.1, ([] : Mp), q.2.1, q.2.2) | .inr (.inl q) => q | .inr (.inr _) => (true, [], false, [])) = (true, m', c', flat m') ∧ m'.length ≤ 60 ∧ InvM m' := by
    conv => enter [1, r, 1, 1, 1]; rw [show F_w20_both_l0 n n = F_w20_both_l0 n (k + 1) by rw [hk]]
    unfold F_w20_both_l0
    by_cases hi : 0 < xs.length
    · have e1 : (decide ((0 : Int) < (Nat.cast xs.length : Int)) && decide ((0 : Int) < 60)) = true := by simp; omega
      have e2 : getI xs (0 : Int) = some xs[0] := getI_at' hi
      obtain ⟨q, c', g1, g2, g3, g4⟩ := both_step (n := n) (by omega) [] xs[0] (by simp) InvM.nil (hx1 _ (List.getElem_mem _)) (hx2 _ (List.getElem_mem _)) (hx3 _ (List.getElem_mem _)) false
      obtain ⟨r, m2, c2, g5, g6, g7, g8⟩ := both_loop1 hn x xs hxs hx1 hx2 hx3 k 1 true (decA [] q).2 c' (by simpa using g3) g4 (by omega) (by omega)
      have g2' : (F_r20_Index_Add n false [] xs[0].1 xs[0].2.1 xs[0].2.2.1 xs[0].2.2.2.1 xs[0].2.2.2.2).run = some (c', flat (decA [] q).2, (decA [] q).1) := g2
      simp only [Tree.run, e1, cond_true, e2, g1, g2', Option.bind_some, decide_true, Bool.true_and]
      rw [show (w64 ((0 : Int) + 1)) = ((1 : Nat) : Int) from rfl]
      cases q with
      | inl e =>
        refine ⟨decN r, ?_, m2, c2, ?_, g7, g8⟩
        · simp only [Tree.run, decA, decide_true, Bool.true_and] at g5 ⊢
          rw [g5]
          cases r <;> rfl
        · cases r <;> exact g6
      | inr m1 =>
        refine ⟨.inr (.inl (decB m1 r)), ?_, m2, c2, g6, g7, g8⟩
        simp only [Tree.run, decA, decide_true, Bool.true_and] at g5 ⊢
        rw [g5]
        cases r <;> rfl
    · have e1 : (decide ((0 : Int) < (Nat.cast xs.length : Int)) && decide ((0 : Int) < 60)) = false := by
        simp only [Bool.and_eq_false_iff, decide_eq_false_iff_not]; omega
      refine ⟨.inr (.inr ()), ?_, [], false, rfl, by simp, InvM.nil⟩
      simp only [Tree.run, e1, cond_false]
  obtain ⟨r, g1, m', c', g2, g3, g4⟩ := hl
  refine ⟨m', c', ?_, g3, g4⟩
  rw [g1]
  rcases r with ⟨a, b, d⟩ | ⟨a, m, b, d⟩ | u
  · simp only [Prod.mk.injEq] at g2
    obtain ⟨rfl, rfl, rfl, rfl⟩ := g2
    rfl
  · simp only [Prod.mk.injEq] at g2
    obtain ⟨rfl, rfl, rfl, rfl⟩ := g2
    rfl
  · simp only [Prod.mk.injEq] at g2
    obtain ⟨_, rfl, rfl, _⟩ := g2
    rfl
end
end Go.Proofs.Ytcipfbabjbcfkaa
