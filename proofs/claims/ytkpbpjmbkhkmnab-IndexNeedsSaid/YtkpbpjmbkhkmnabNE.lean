/- IndexNeeds in plain words: what the printed functions come to. -/
import Derived.Test.YtkpbpjmbkhkmnabNL
set_option linter.unusedVariables false
set_option linter.unusedSimpArgs false
namespace Go.Proofs.Ytkpbpjmbkhkmnab
open Hyp
abbrev KT : Ty := .rcd (.pair (.sint .i64) (.arr 32 .u8))
abbrev VT : Ty := .rcd (.pair .str (.pair (.sint .i64) (.sint .i64)))
abbrev IT : Ty := .arr 32 .u8
abbrev Ent := Int × List UInt8 × List UInt8 × Int × Int
abbrev Mp := List ((Int × List UInt8) × List UInt8 × Int × Int)
theorem eqId (x y : List UInt8) : eqV IT x y = decide (x = y) := by
  rw [Bool.eq_iff_iff, decide_eq_true_eq]; exact eqV_iff IT x y
/-- An entry's right form. -/
def right (k : Int) (nm : List UInt8) (a b : Int) : Bool := decide (1 ≤ k) && (decide (k ≤ 3) && (named nm && (decide (8 ≤ a) && (decide (a ≤ 65536) && (decide (28 ≤ b) && decide (a + b ≤ 65536))))))
theorem right_run {n : Nat} (hn : 33 ≤ n) (k : Int) (nm : List UInt8) (a b : Int) : (F_index_Right n k nm a b).run = some (right k nm a b) := by
  unfold F_index_Right right
  simp only [Tree.run, named_run hn, Option.bind_some]
  by_cases h1 : 1 ≤ k
  · rw [decide_eq_false (p := k < 1) (by omega), decide_eq_true h1]
    by_cases h2 : k ≤ 3
    · rw [decide_eq_false (p := 3 < k) (by omega), decide_eq_true h2]
      cases named nm
      · rfl
      · simp only [cond_false, Bool.not_true, Bool.true_and, Option.some.injEq]
        by_cases h3 : 8 ≤ a ∧ a ≤ 65536
        · rw [wrap_id (by omega) (by omega), Bool.eq_iff_iff]
          simp only [Bool.and_eq_true, decide_eq_true_eq]; omega
        · by_cases h4 : 8 ≤ a
          · rw [decide_eq_false (p := a ≤ 65536) (by omega)]; simp
          · rw [decide_eq_false h4]; simp
    · rw [decide_eq_true (p := 3 < k) (by omega), decide_eq_false h2]; simp
  · rw [decide_eq_true (p := k < 1) (by omega), decide_eq_false h1]; simp
theorem right_ref {n : Nat} (k : Int) (nm : List UInt8) (a b : Int) (hn : nm.length < n) (hx : nm.length ≤ 9223372036854775807) : (F_hypogeumref20_Right n k nm a b).run = some (right k nm a b) := by
  unfold F_hypogeumref20_Right right
  simp only [Tree.run, named_ref nm hn hx, Option.bind_some]
  by_cases h1 : 1 ≤ k
  · rw [decide_eq_false (p := k < 1) (by omega), decide_eq_true h1]
    by_cases h2 : k ≤ 3
    · rw [decide_eq_false (p := 3 < k) (by omega), decide_eq_true h2]
      cases named nm
      · rfl
      · simp only [cond_false, Bool.not_true, Bool.true_and]
        by_cases h3 : 8 ≤ a ∧ a ≤ 65536 ∧ 28 ≤ b ∧ b ≤ 65536
        · have e : (decide (a < 8) || (decide ((65536 : Int) < a) || (decide (b < 28) || decide ((65536 : Int) < b)))) = false := by
            simp only [Bool.or_eq_false_iff, decide_eq_false_iff_not]; omega
          rw [e, cond_false, wrap_id (by omega) (by omega), Option.some.injEq, Bool.eq_iff_iff]
          simp only [Bool.and_eq_true, decide_eq_true_eq]; omega
        · have e : (decide (a < 8) || (decide ((65536 : Int) < a) || (decide (b < 28) || decide ((65536 : Int) < b)))) = true := by
            simp only [Bool.or_eq_true, decide_eq_true_eq]; omega
          rw [e, cond_true, Option.some.injEq, Bool.eq_iff_iff]
          simp only [Bool.and_eq_true, decide_eq_true_eq, Bool.false_eq_true, false_iff]; omega
    · rw [decide_eq_true (p := 3 < k) (by omega), decide_eq_false h2]; simp
  · rw [decide_eq_true (p := k < 1) (by omega), decide_eq_false h1]; simp
/-- The map's pairs, as entries. -/
def flat (m : Mp) : List Ent := m.map fun p => (p.1.1, p.1.2, p.2)
/-- The first entry of that kind and name. -/
def look (k : Int) (id : List UInt8) (l : List Ent) : Option (List UInt8 × Int × Int) := (l.find? fun e => decide (e.1 = k) && decide (e.2.1 = id)).map fun e => e.2.2
theorem mget_look (k : Int) (id : List UInt8) : ∀ m : Mp, mget KT VT m (k, id) = look k id (flat m)
  | [] => rfl
  | p :: m => by
    have e : eqV KT (k, id) p.1 = (decide (p.1.1 = k) && decide (p.1.2 = id)) := by
      rw [Bool.eq_iff_iff, Bool.and_eq_true, decide_eq_true_eq, decide_eq_true_eq]
      refine (eqV_iff KT (k, id) p.1).trans ⟨fun h => ?_, fun h => ?_⟩
      · rw [← h]; exact ⟨rfl, rfl⟩
      · obtain ⟨h1, h2⟩ := h
        rw [← h1, ← h2]
    unfold mget
    rw [e]
    have ih := mget_look k id m
    unfold look flat at ih ⊢
    rw [List.map_cons, List.find?_cons]
    cases decide (p.1.1 = k) && decide (p.1.2 = id)
    · exact ih
    · rfl
theorem add_run {n : Nat} (hn : 33 ≤ n) (k : Int) (id nm : List UInt8) (a b : Int) (m : Mp) : (F_index_Index_Add n k id nm a b m).run = some (bif right k nm a b then (bif (look k id (flat m)).isSome then ((19 : Int), m) else (0, m ++ [((k, id), (nm, a, b))])) else (1, m)) := by
  unfold F_index_Index_Add
  simp only [Tree.run, right_run hn, Option.bind_some]
  cases right k nm a b
  · rfl
  · have e := mget_look k id m
    cases hl : look k id (flat m) with
    | none =>
      rw [hl] at e
      have e2 := mput_new (kt := KT) (vt := VT) (v := (nm, a, b)) e
      simp only [Bool.not_true, cond_false, cond_true]
      rw [e, e2]; rfl
    | some v =>
      rw [hl] at e
      simp only [Bool.not_true, cond_false, cond_true]
      rw [e]; rfl
theorem find_loop (n : Nat) (k : Int) (c : Bool) (l : List Ent) (id nm : List UInt8) (a b : Int) (hl : l.length ≤ 9223372036854775807) : ∀ (j i : Nat), l.length < i + j → i ≤ l.length →
    (F_hypogeumref20_Index_Find_l0 n j k (i : Int) c l id nm a b).run = some (match look k id (l.drop i) with | some v => .inl v | none => .inr ())
  | 0, i, h, h' => by omega
  | j + 1, i, h, h' => by
    unfold F_hypogeumref20_Index_Find_l0
    by_cases hi : i < l.length
    · have e1 : decide ((i : Int) < (Nat.cast l.length : Int)) = true := by simp; omega
      have e2 : getI l (i : Int) = some l[i] := getI_at' hi
      have e3 : (F_hypogeumref20_Index_Find_l0 n j k (Go.IntKind.wrap Go.IntKind.i64 ((i : Int) + 1)) c l id nm a b).run = some (match look k id (l.drop (i + 1)) with | some v => .inl v | none => .inr ()) := by
        rw [wrap_succ hi hl]; exact find_loop n k c l id nm a b hl j (i + 1) (by omega) hi
      have e4 : look k id (l.drop i) = bif (decide (l[i].1 = k) && decide (l[i].2.1 = id)) then some l[i].2.2 else look k id (l.drop (i + 1)) := by
        unfold look
        rw [List.drop_eq_getElem_cons hi, List.find?_cons]
        cases (decide (l[i].1 = k) && decide (l[i].2.1 = id)) <;> rfl
      have e5 : ∀ o : Option (List UInt8 × Int × Int), (Option.bind (some (match o with | some v => (Sum.inl v : (List UInt8 × Int × Int) ⊕ Unit) | none => .inr ())) fun y => (Tree.alt y (fun y => Tree.ret (Sum.inl (y.1, y.2.1, y.2.2))) fun y => Tree.ret (Sum.inr () : (List UInt8 × Int × Int) ⊕ Unit)).run) = some (match o with | some v => .inl v | none => .inr ()) := by
        intro o; cases o <;> rfl
      rw [e4]
      simp only [Tree.run, e1, cond_true, e2, e3, Option.bind_some, eqId]
      cases decide (l[i].1 = k)
      · exact e5 _
      · cases decide (l[i].2.1 = id)
        · exact e5 _
        · rfl
    · have e1 : decide ((i : Int) < (Nat.cast l.length : Int)) = false := by simp; omega
      have e2 : l.drop i = [] := List.drop_eq_nil_iff.2 (by omega)
      simp only [Tree.run, e1, cond_false, e2]; rfl
theorem find_run {n : Nat} (k : Int) (c : Bool) (l : List Ent) (id : List UInt8) (hl : l.length ≤ 9223372036854775807) (hn : l.length < n) :
    (F_hypogeumref20_Index_Find n c l k id).run = some (match look k id l with | some v => (v.1, v.2.1, v.2.2, true) | none => ([], 0, 0, false)) := by
  unfold F_hypogeumref20_Index_Find
  have e := find_loop n k c l id [] 0 0 hl n 0 (by omega) (by omega)
  rw [List.drop_zero] at e
  simp only [Tree.run]
  rw [show ((0 : Int)) = ((0 : Nat) : Int) from rfl] at e ⊢
  rw [e]
  cases look k id l <;> rfl
theorem addr_run {n : Nat} (c : Bool) (l : List Ent) (k : Int) (id nm : List UInt8) (a b : Int) (hl : l.length ≤ 60) (hn : 60 < n) (hm : nm.length < n) (hx : nm.length ≤ 9223372036854775807) :
    ∃ c', (F_hypogeumref20_Index_Add n c l k id nm a b).run = some (c', bif right k nm a b then (bif (look k id l).isSome then (l, (19 : Int)) else (l ++ [(k, id, nm, a, b)], 0)) else (l, 1)) := by
  unfold F_hypogeumref20_Index_Add
  simp only [Tree.run, right_ref k nm a b hm hx, Option.bind_some]
  cases right k nm a b
  · exact ⟨c, rfl⟩
  · simp only [Bool.not_true, cond_false, cond_true, find_run (n := n) k c l id (by omega) (by omega), Option.bind_some]
    cases hlk : look k id l with
    | some v => exact ⟨c, rfl⟩
    | none =>
      refine ⟨false, ?_⟩
      have a1 : appI 1954687338268 ([] : List Ent) l = some l := by unfold appI; rw [if_pos (by simp; omega)]; rfl
      have a2 : appI 1954687338268 l [(k, id, nm, a, b)] = some (l ++ [(k, id, nm, a, b)]) := by unfold appI; rw [if_pos (by simp; omega)]
      rw [cond_false, a1, Option.bind_some]
      rw [show (List.set ([((0 : Int), (([0, 0, 0, 0, 0, 0, 0, 0, 0, 0, 0, 0, 0, 0, 0, 0, 0, 0, 0, 0, 0, 0, 0, 0, 0, 0, 0, 0, 0, 0, 0, 0] : List UInt8), (([] : List UInt8), ((0 : Int), (0 : Int)))))] : List Ent) 0 (k, id, nm, a, b)) = [(k, id, nm, a, b)] from rfl, a2]
      rfl
theorem flat_add (m : Mp) (k : Int) (id nm : List UInt8) (a b : Int) : flat (m ++ [((k, id), (nm, a, b))]) = flat m ++ [(k, id, nm, a, b)] := by simp [flat]
theorem flat_len (m : Mp) : (flat m).length = m.length := by simp [flat]
theorem both_step {n : Nat} (hn : 61 ≤ n) (m : Mp) (e : Ent) (hm : m.length ≤ 60) (h1 : e.2.2.1.length < n) (h2 : e.2.2.1.length ≤ 9223372036854775807) (c : Bool) : ∃ (r : Int) (m' : Mp) (c' : Bool), (F_index_Index_Add n e.1 e.2.1 e.2.2.1 e.2.2.2.1 e.2.2.2.2 m).run = some (r, m') ∧
    (F_hypogeumref20_Index_Add n c (flat m) e.1 e.2.1 e.2.2.1 e.2.2.2.1 e.2.2.2.2).run = some (c', flat m', r) ∧ m'.length ≤ m.length + 1 := by
  obtain ⟨c', g⟩ := addr_run (n := n) c (flat m) e.1 e.2.1 e.2.2.1 e.2.2.2.1 e.2.2.2.2 (by rw [flat_len]; exact hm) (by omega) h1 h2
  rw [add_run (by omega), g]
  cases right e.1 e.2.2.1 e.2.2.2.1 e.2.2.2.2
  · exact ⟨1, m, c', rfl, rfl, by omega⟩
  · cases (look e.1 e.2.1 (flat m)).isSome
    · refine ⟨0, _, c', rfl, ?_, by simp⟩
      rw [flat_add]; rfl
    · exact ⟨19, m, c', rfl, rfl, by omega⟩
section
variable {n : Nat} (hn : 1000 ≤ n) (x : Bool) (xs : List Ent) (hxs : xs.length ≤ 9223372036854775807) (hx1 : ∀ e ∈ xs, e.2.2.1.length < n) (hx2 : ∀ e ∈ xs, e.2.2.1.length ≤ 9223372036854775807)
include hn hxs hx1 hx2
theorem both_loop1 : ∀ (k i : Nat) (ok : Bool) (m : Mp) (c : Bool), m.length ≤ i → 60 < i + k → i ≤ 60 → ∃ (m' : Mp) (c' : Bool), (F_hypogeumlaw20_both_l0_1 n k x xs ok (i : Int) m c (flat m)).run = some (ok, m', c', flat m') ∧ m'.length ≤ 60
  | 0, i, ok, m, c, h, h', h'' => by omega
  | k + 1, i, ok, m, c, h, h', h'' => by
    unfold F_hypogeumlaw20_both_l0_1
    by_cases hi : i < xs.length ∧ i < 60
    · have e1 : (decide ((i : Int) < (Nat.cast xs.length : Int)) && decide ((i : Int) < 60)) = true := by simp; omega
      have e2 : getI xs (i : Int) = some xs[i] := getI_at' hi.1
      obtain ⟨r, m', c', g1, g2, g3⟩ := both_step (n := n) (by omega) m xs[i] (by omega) (hx1 _ (List.getElem_mem _)) (hx2 _ (List.getElem_mem _)) c
      obtain ⟨m2, c2, g4, g5⟩ := both_loop1 k (i + 1) ok m' c' (by omega) (by omega) (by omega)
      refine ⟨m2, c2, ?_, g5⟩
      simp only [Tree.run, e1, cond_true, e2, g1, g2, Option.bind_some, decide_true, Bool.true_and]
      rw [wrap_succ hi.1 hxs, g4]; rfl
    · have e1 : (decide ((i : Int) < (Nat.cast xs.length : Int)) && decide ((i : Int) < 60)) = false := by
        simp only [Bool.and_eq_false_iff, decide_eq_false_iff_not]; omega
      refine ⟨m, c, ?_, by omega⟩
      simp only [Tree.run, e1, cond_false]
/-- Both indices after the same additions hold the same. -/
theorem both_run : ∃ (m : Mp) (c ok : Bool), (F_hypogeumlaw20_both n x xs).run = some (c, flat m, ok, m) ∧ m.length ≤ 60 := by
  unfold F_hypogeumlaw20_both
  simp only [Tree.run, F_index_New, Option.bind_some]
  obtain ⟨k, rfl⟩ : ∃ k, n = k + 1 := ⟨n - 1, by omega⟩
  unfold F_hypogeumlaw20_both_l0
  by_cases hi : 0 < xs.length
  · have e1 : (decide ((0 : Int) < (Nat.cast xs.length : Int)) && decide ((0 : Int) < 60)) = true := by simp; omega
    have e2 : getI xs (0 : Int) = some xs[0] := getI_at' hi
    obtain ⟨r, m', c', g1, g2, g3⟩ := both_step (n := k + 1) (by omega) [] xs[0] (by simp) (hx1 _ (List.getElem_mem _)) (hx2 _ (List.getElem_mem _)) false
    obtain ⟨m2, c2, g4, g5⟩ := both_loop1 hn x xs hxs hx1 hx2 k 1 true m' c' (by simpa using g3) (by omega) (by omega)
    refine ⟨m2, c2, true, ?_, g5⟩
    have g2' : (F_hypogeumref20_Index_Add (k + 1) false [] xs[0].1 xs[0].2.1 xs[0].2.2.1 xs[0].2.2.2.1 xs[0].2.2.2.2).run = some (c', flat m', r) := g2
    simp only [Tree.run, e1, cond_true, e2, g1, g2', Option.bind_some, decide_true, Bool.true_and]
    rw [show (Go.IntKind.wrap Go.IntKind.i64 ((0 : Int) + 1)) = ((1 : Nat) : Int) from rfl, g4]; rfl
  · have e1 : (decide ((0 : Int) < (Nat.cast xs.length : Int)) && decide ((0 : Int) < 60)) = false := by
      simp only [Bool.and_eq_false_iff, decide_eq_false_iff_not]; omega
    refine ⟨[], false, true, ?_, by simp⟩
    simp only [Tree.run, e1, cond_false, Option.bind_some]; rfl
end
/-- What is needed of the rest, over what is out. -/
def need (f : List UInt8 → Bool) : List (List UInt8) → List (List UInt8) → List (List UInt8)
  | [], out => out
  | y :: l, out => if f y = true ∨ y ∈ out then need f l out else need f l (out ++ [y])
def has (k : Int) (m : Mp) (id : List UInt8) : Bool := (look k id (flat m)).isSome
theorem pfind_run (n : Nat) (k : Int) (id : List UInt8) (m : Mp) : ∃ a b c, (F_index_Index_Find n k id m).run = some (a, b, c, has k m id) := by
  have e : has k m id = (mget KT VT m (k, id)).isSome := by unfold has; rw [mget_look]
  rw [e]
  exact ⟨_, _, _, rfl⟩
theorem rfind_run {n : Nat} (k : Int) (c : Bool) (m : Mp) (id : List UInt8) (hl : m.length ≤ 60) (hn : 60 < n) : ∃ a b d, (F_hypogeumref20_Index_Find n c (flat m) k id).run = some (a, b, d, has k m id) := by
  rw [find_run k c (flat m) id (by rw [flat_len]; omega) (by rw [flat_len]; omega)]
  unfold has
  cases look k id (flat m) <;> exact ⟨_, _, _, rfl⟩
abbrev Sn := List (List UInt8 × Int)
/-- What has been seen is what is out. -/
def Seen (s : Sn) (out : List (List UInt8)) : Prop := ∀ y, 0 < mgetD IT (.sint .i64) s y (0 : Int) ↔ y ∈ out
theorem mget_put (s : Sn) (y z : List UInt8) (v : Int) : mget IT (.sint .i64) (mput IT (.sint .i64) s y v) z = if z = y then some v else mget IT (.sint .i64) s z := by
  induction s with
  | nil =>
    simp only [mput, mget, eqId]
    by_cases h : z = y <;> simp [h]
  | cons p s ih =>
    simp only [mput, mget, eqId]
    by_cases h : y = p.1
    · simp only [decide_eq_true h, cond_true, mget, eqId]
      by_cases h2 : z = y
      · simp [h2]
      · have : z ≠ p.1 := fun e => h2 (e.trans h.symm)
        simp [h2, this]
    · simp only [decide_eq_false h, cond_false, mget, eqId, ih]
      by_cases h2 : z = p.1
      · have : z ≠ y := fun e => h (e.symm.trans h2)
        simp [h2, this]
        intro h3; exact absurd h3.symm h
      · simp [h2]
theorem Seen.put {s : Sn} {out : List (List UInt8)} (h : Seen s out) (y : List UInt8) : Seen (mput IT (.sint .i64) s y 1) (out ++ [y]) := by
  intro z
  unfold mgetD
  rw [mget_put]
  by_cases hz : z = y
  · simp [hz]
  · have := h z
    unfold mgetD at this
    simp only [if_neg hz, List.mem_append, List.mem_singleton, hz, or_false]
    exact this
theorem Seen.nil : Seen [] [] := by intro y; simp [mgetD, mget]
theorem need_cons (f : List UInt8 → Bool) (ids : List (List UInt8)) {i : Nat} (h : i < ids.length) (out : List (List UInt8)) : need f (ids.drop i) out = if f ids[i] = true ∨ ids[i] ∈ out then need f (ids.drop (i + 1)) out else need f (ids.drop (i + 1)) (out ++ [ids[i]]) := by
  rw [List.drop_eq_getElem_cons h]; rfl
theorem app1 {out : List (List UInt8)} {y : List UInt8} (h : out.length ≤ 60) : appI 4398046511104 out [y] = some (out ++ [y]) := by unfold appI; rw [if_pos (by simp; omega)]
section
variable (n : Nat) (kd : Int) (m : Mp) (ids : List (List UInt8)) (hl : ids.length ≤ 60)
include hl
theorem pneed1 : ∀ (k i : Nat) (s : Sn) (out : List (List UInt8)), Seen s out → ids.length < i + k → i ≤ ids.length → out.length ≤ i →
    ∃ r, (F_index_Index_Need_l0_1 n k kd (ids.length : Int) (i : Int) m s out ids).run = some r ∧ (match r with | .inl _ => need (has kd m) (ids.drop i) out = out | .inr q => need (has kd m) (ids.drop i) out = q.1)
  | 0, i, s, out, hs, h, h', ho => by omega
  | k + 1, i, s, out, hs, h, h', ho => by
    unfold F_index_Index_Need_l0_1
    by_cases hi : i < ids.length
    · have e1 : decide ((i : Int) < (ids.length : Int)) = true := by simp; omega
      have e2 : ids[0 + i]? = some ids[i] := by rw [Nat.zero_add]; exact List.getElem?_eq_getElem hi
      obtain ⟨a, b, c, e3⟩ := pfind_run n kd ids[i] m
      rw [need_cons _ _ hi]
      simp only [Tree.run, e1, cond_true, inI_nat hi, Option.bind_some, e2, e3]
      rw [wrap_succ hi (by omega)]
      have hsn := hs ids[i]
      by_cases hc : has kd m ids[i] = true ∨ ids[i] ∈ out
      · obtain ⟨r, g1, g2⟩ := pneed1 k (i + 1) s out hs (by omega) hi (by omega)
        have hb : (has kd m ids[i] || decide (0 < mgetD IT (.sint .i64) s ids[i] (0 : Int))) = true := by
          rw [Bool.or_eq_true, decide_eq_true_eq, hsn]; exact hc
        rw [if_pos hc, hb, cond_true, g1]
        refine ⟨r, ?_, g2⟩
        cases r <;> rfl
      · obtain ⟨r, g1, g2⟩ := pneed1 k (i + 1) _ _ (hs.put ids[i]) (by omega) hi (by simp; omega)
        have hb : (has kd m ids[i] || decide (0 < mgetD IT (.sint .i64) s ids[i] (0 : Int))) = false := by
          rw [Bool.eq_false_iff, ne_eq, Bool.or_eq_true, decide_eq_true_eq, hsn]; exact hc
        rw [if_neg hc, hb, cond_false, List.set_cons_zero, app1 (by omega), Option.bind_some, g1]
        cases r with
        | inl u => exact ⟨_, rfl, g2⟩
        | inr q => exact ⟨_, rfl, g2⟩
    · have e1 : decide ((i : Int) < (ids.length : Int)) = false := by simp; omega
      have e2 : ids.drop i = [] := List.drop_eq_nil_iff.2 (by omega)
      refine ⟨.inl (), ?_, ?_⟩
      · simp only [Tree.run, e1, cond_false]
      · simp only [e2]; rfl
theorem pneed0 : ∀ (k i : Nat) (s : Sn), Seen s [] → ids.length < i + k → i ≤ ids.length →
    ∃ r, (F_index_Index_Need_l0 n k kd (ids.length : Int) (i : Int) m s ids).run = some r ∧ (match r with | .inl q => need (has kd m) (ids.drop i) [] = q.1 | .inr _ => need (has kd m) (ids.drop i) [] = [])
  | 0, i, s, hs, h, h' => by omega
  | k + 1, i, s, hs, h, h' => by
    unfold F_index_Index_Need_l0
    by_cases hi : i < ids.length
    · have e1 : decide ((i : Int) < (ids.length : Int)) = true := by simp; omega
      have e2 : ids[0 + i]? = some ids[i] := by rw [Nat.zero_add]; exact List.getElem?_eq_getElem hi
      obtain ⟨a, b, c, e3⟩ := pfind_run n kd ids[i] m
      rw [need_cons _ _ hi]
      simp only [Tree.run, e1, cond_true, inI_nat hi, Option.bind_some, e2, e3]
      rw [wrap_succ hi (by omega)]
      have hsn := hs ids[i]
      by_cases hc : has kd m ids[i] = true ∨ ids[i] ∈ ([] : List (List UInt8))
      · obtain ⟨r, g1, g2⟩ := pneed0 k (i + 1) s hs (by omega) hi
        have hb : (has kd m ids[i] || decide (0 < mgetD IT (.sint .i64) s ids[i] (0 : Int))) = true := by
          rw [Bool.or_eq_true, decide_eq_true_eq, hsn]; exact hc
        rw [if_pos hc, hb, cond_true, g1]
        refine ⟨r, ?_, g2⟩
        cases r <;> rfl
      · obtain ⟨r, g1, g2⟩ := pneed1 n kd m ids hl k (i + 1) _ _ (hs.put ids[i]) (by omega) hi (by simp)
        have hb : (has kd m ids[i] || decide (0 < mgetD IT (.sint .i64) s ids[i] (0 : Int))) = false := by
          rw [Bool.eq_false_iff, ne_eq, Bool.or_eq_true, decide_eq_true_eq, hsn]; exact hc
        rw [if_neg hc, hb, cond_false, List.set_cons_zero, app1 (out := []) (by simp), Option.bind_some, g1]
        cases r with
        | inl u => exact ⟨_, rfl, g2⟩
        | inr q => exact ⟨_, rfl, g2⟩
    · have e1 : decide ((i : Int) < (ids.length : Int)) = false := by simp; omega
      have e2 : ids.drop i = [] := List.drop_eq_nil_iff.2 (by omega)
      refine ⟨.inr (), ?_, ?_⟩
      · simp only [Tree.run, e1, cond_false]
      · simp only [e2]; rfl
theorem pneed (hn : 61 ≤ n) : ∃ r, (F_index_Index_Need n kd m ids).run = some r ∧ (match r with | .inl q => need (has kd m) ids [] = q | .inr _ => need (has kd m) ids [] = []) := by
  unfold F_index_Index_Need
  obtain ⟨r, g1, g2⟩ := pneed0 n kd m ids hl n 0 [] Seen.nil (by omega) (by omega)
  simp only [Tree.run]
  rw [show ((0 : Int)) = ((0 : Nat) : Int) from rfl, g1]
  rw [List.drop_zero] at g2
  cases r with
  | inl q => exact ⟨_, rfl, g2⟩
  | inr q => exact ⟨_, rfl, g2⟩
theorem rdup (c : Bool) {i : Nat} (hi : i < ids.length) : ∀ (k j : Nat) (h0 : Bool), i < j + k → j ≤ i →
    (F_hypogeumref20_Index_Need_l2 n k c ids (i : Int) h0 (j : Int)).run = some (h0 || ((ids.take i).drop j).any fun y => decide (y = ids[i]))
  | 0, j, h0, h, h' => by omega
  | k + 1, j, h0, h, h' => by
    unfold F_hypogeumref20_Index_Need_l2
    by_cases hj : j < i
    · have e1 : decide ((j : Int) < (i : Int)) = true := by simp; omega
      have hlt : j < (ids.take i).length := by simp; omega
      have e2 : (ids.take i).drop j = ids[j] :: (ids.take i).drop (j + 1) := by
        rw [List.drop_eq_getElem_cons hlt]; simp
      rw [e2]
      simp only [Tree.run, e1, cond_true]
      rw [wrap_succ hj (by omega)]
      cases h0
      · rw [cond_false, getI_at' (l := ids) (j := j) (by omega), Option.bind_some, getI_at' hi, Option.bind_some, rdup c hi k (j + 1) _ (by omega) hj, eqId]
        simp
      · rw [cond_true, rdup c hi k (j + 1) _ (by omega) hj]
        simp
    · have e1 : decide ((j : Int) < (i : Int)) = false := by simp; omega
      have e2 : (ids.take i).drop j = [] := List.drop_eq_nil_iff.2 (by simp; omega)
      simp only [Tree.run, e1, cond_false, e2]; simp
theorem rneed1 (hn : 61 ≤ n) (hm : m.length ≤ 60) (c c' : Bool) : ∀ (k i : Nat) (out : List (List UInt8)), (∀ y, has kd m y = false → (y ∈ ids.take i ↔ y ∈ out)) → ids.length < i + k → i ≤ ids.length → out.length ≤ i →
    ∃ r, (F_hypogeumref20_Index_Need_l0_1 n k kd c ids (i : Int) c' (flat m) out).run = some r ∧ (match r with | .inl _ => need (has kd m) (ids.drop i) out = out | .inr q => need (has kd m) (ids.drop i) out = q)
  | 0, i, out, hs, h, h', ho => by omega
  | k + 1, i, out, hs, h, h', ho => by
    unfold F_hypogeumref20_Index_Need_l0_1
    by_cases hi : i < ids.length
    · have e1 : decide ((i : Int) < (Nat.cast ids.length : Int)) = true := by simp; omega
      obtain ⟨a, b, d, e3⟩ := rfind_run (n := n) kd c' m ids[i] hm (by omega)
      have e4 := rdup n ids hl c hi n 0 (has kd m ids[i]) (by omega) (by omega)
      rw [need_cons _ _ hi]
      simp only [Tree.run, e1, cond_true, getI_at' hi, Option.bind_some, e3]
      rw [show ((0 : Int)) = ((0 : Nat) : Int) from rfl, e4, wrap_succ hi (by omega)]
      rw [Option.bind_some, List.drop_zero]
      have hsn := hs ids[i]
      have htk : ids.take (i + 1) = ids.take i ++ [ids[i]] := by rw [List.take_succ_eq_append_getElem hi]
      by_cases hc : has kd m ids[i] = true ∨ ids[i] ∈ out
      · have hb : (has kd m ids[i] || (ids.take i).any fun y => decide (y = ids[i])) = true := by
          rw [Bool.or_eq_true, List.any_eq_true]
          rcases hc with hc | hc
          · exact .inl hc
          · cases hh : has kd m ids[i]
            · exact .inr ⟨_, (hsn hh).2 hc, by simp⟩
            · exact .inl rfl
        obtain ⟨r, g1, g2⟩ := rneed1 hn hm c c' k (i + 1) out (fun y hy => by
          rw [htk, List.mem_append, List.mem_singleton, hs y hy]
          refine ⟨fun h => ?_, .inl⟩
          rcases h with h | rfl
          · exact h
          · rcases hc with hc | hc
            · rw [hc] at hy; cases hy
            · exact hc) (by omega) hi (by omega)
        rw [if_pos hc, hb, Bool.not_true, cond_false, g1]
        refine ⟨r, ?_, g2⟩
        cases r <;> rfl
      · have hf : has kd m ids[i] = false := by
          cases hh : has kd m ids[i]
          · rfl
          · exact absurd (.inl hh) hc
        have hb : (has kd m ids[i] || (ids.take i).any fun y => decide (y = ids[i])) = false := by
          rw [hf, Bool.false_or, Bool.eq_false_iff, ne_eq, List.any_eq_true]
          rintro ⟨y, h1, h2⟩
          rw [decide_eq_true_eq] at h2
          subst h2
          exact hc (.inr ((hsn hf).1 h1))
        obtain ⟨r, g1, g2⟩ := rneed1 hn hm c c' k (i + 1) (out ++ [ids[i]]) (fun y hy => by
          rw [htk, List.mem_append, List.mem_append, hs y hy]) (by omega) hi (by simp; omega)
        rw [if_neg hc, hb, Bool.not_false, cond_true, List.set_cons_zero, app1 (by omega), Option.bind_some, g1]
        cases r with
        | inl u => exact ⟨_, rfl, g2⟩
        | inr q => exact ⟨_, rfl, g2⟩
    · have e1 : decide ((i : Int) < (Nat.cast ids.length : Int)) = false := by simp; omega
      have e2 : ids.drop i = [] := List.drop_eq_nil_iff.2 (by omega)
      refine ⟨.inl (), ?_, ?_⟩
      · simp only [Tree.run, e1, cond_false]
      · simp only [e2]; rfl
theorem rneed0 (hn : 61 ≤ n) (hm : m.length ≤ 60) (c c' : Bool) : ∀ (k i : Nat), (∀ y, has kd m y = false → (y ∈ ids.take i ↔ y ∈ ([] : List (List UInt8)))) → ids.length < i + k → i ≤ ids.length →
    ∃ r, (F_hypogeumref20_Index_Need_l0 n k kd c ids (i : Int) c' (flat m)).run = some r ∧ (match r with | .inl q => need (has kd m) (ids.drop i) [] = q | .inr _ => need (has kd m) (ids.drop i) [] = [])
  | 0, i, hs, h, h' => by omega
  | k + 1, i, hs, h, h' => by
    unfold F_hypogeumref20_Index_Need_l0
    by_cases hi : i < ids.length
    · have e1 : decide ((i : Int) < (Nat.cast ids.length : Int)) = true := by simp; omega
      obtain ⟨a, b, d, e3⟩ := rfind_run (n := n) kd c' m ids[i] hm (by omega)
      have e4 := rdup n ids hl c hi n 0 (has kd m ids[i]) (by omega) (by omega)
      rw [need_cons _ _ hi]
      simp only [Tree.run, e1, cond_true, getI_at' hi, Option.bind_some, e3]
      rw [show ((0 : Int)) = ((0 : Nat) : Int) from rfl, e4, wrap_succ hi (by omega)]
      rw [Option.bind_some, List.drop_zero]
      have hsn := hs ids[i]
      have htk : ids.take (i + 1) = ids.take i ++ [ids[i]] := by rw [List.take_succ_eq_append_getElem hi]
      by_cases hc : has kd m ids[i] = true ∨ ids[i] ∈ ([] : List (List UInt8))
      · have hb : (has kd m ids[i] || (ids.take i).any fun y => decide (y = ids[i])) = true := by
          rw [Bool.or_eq_true]
          rcases hc with hc | hc
          · exact .inl hc
          · cases hc
        obtain ⟨r, g1, g2⟩ := rneed0 hn hm c c' k (i + 1) (fun y hy => by
          rw [htk, List.mem_append, List.mem_singleton, hs y hy]
          refine ⟨fun h => ?_, .inl⟩
          rcases h with h | rfl
          · exact h
          · rcases hc with hc | hc
            · rw [hc] at hy; cases hy
            · exact hc) (by omega) hi
        rw [if_pos hc, hb, Bool.not_true, cond_false, g1]
        refine ⟨r, ?_, g2⟩
        cases r <;> rfl
      · have hf : has kd m ids[i] = false := by
          cases hh : has kd m ids[i]
          · rfl
          · exact absurd (.inl hh) hc
        have hb : (has kd m ids[i] || (ids.take i).any fun y => decide (y = ids[i])) = false := by
          rw [hf, Bool.false_or, Bool.eq_false_iff, ne_eq, List.any_eq_true]
          rintro ⟨y, h1, h2⟩
          rw [decide_eq_true_eq] at h2
          subst h2
          exact hc (.inr ((hsn hf).1 h1))
        obtain ⟨r, g1, g2⟩ := rneed1 n kd m ids hl hn hm c c' k (i + 1) ([] ++ [ids[i]]) (fun y hy => by
          rw [htk, List.mem_append, List.mem_append, hs y hy]) (by omega) hi (by simp)
        rw [if_neg hc, hb, Bool.not_false, cond_true, List.set_cons_zero, app1 (out := []) (by simp), Option.bind_some, g1]
        cases r with
        | inl u => exact ⟨_, rfl, g2⟩
        | inr q => exact ⟨_, rfl, g2⟩
    · have e1 : decide ((i : Int) < (Nat.cast ids.length : Int)) = false := by simp; omega
      have e2 : ids.drop i = [] := List.drop_eq_nil_iff.2 (by omega)
      refine ⟨.inr (), ?_, ?_⟩
      · simp only [Tree.run, e1, cond_false]
      · simp only [e2]; rfl
theorem rneed (hn : 61 ≤ n) (hm : m.length ≤ 60) (c c' : Bool) : ∃ r, (F_hypogeumref20_Index_Need n c' (flat m) kd c ids).run = some r ∧ (match r with | .inl q => need (has kd m) ids [] = q | .inr _ => need (has kd m) ids [] = []) := by
  unfold F_hypogeumref20_Index_Need
  obtain ⟨r, g1, g2⟩ := rneed0 n kd m ids hl hn hm c c' n 0 (fun y _ => by simp) (by omega) (by omega)
  simp only [Tree.run]
  rw [show ((0 : Int)) = ((0 : Nat) : Int) from rfl, g1]
  rw [List.drop_zero] at g2
  cases r with
  | inl q => exact ⟨_, rfl, g2⟩
  | inr q => exact ⟨_, rfl, g2⟩
theorem same_loop (c : Bool) : ∀ (k i : Nat), ids.length < i + k → i ≤ ids.length → (F_hypogeumref20_SameIDs_l0 n k c ids (i : Int) ids).run = some (.inr ())
  | 0, i, h, h' => by omega
  | k + 1, i, h, h' => by
    unfold F_hypogeumref20_SameIDs_l0
    by_cases hi : i < ids.length
    · have e1 : decide ((i : Int) < (Nat.cast ids.length : Int)) = true := by simp; omega
      have e2 : ids[0 + i]? = some ids[i] := by rw [Nat.zero_add]; exact List.getElem?_eq_getElem hi
      simp only [Tree.run, e1, cond_true, inI_nat hi, Option.bind_some, e2, getI_at' hi, eqId, decide_true, Bool.not_true, cond_false]
      rw [wrap_succ hi (by omega), same_loop c k (i + 1) (by omega) hi]; rfl
    · have e1 : decide ((i : Int) < (Nat.cast ids.length : Int)) = false := by simp; omega
      simp only [Tree.run, e1, cond_false]
theorem same_run (hn : 61 ≤ n) (c : Bool) : (F_hypogeumref20_SameIDs n c ids ids).run = some true := by
  unfold F_hypogeumref20_SameIDs
  simp only [Tree.run, decide_true, Bool.not_true, cond_false]
  rw [show ((0 : Int)) = ((0 : Nat) : Int) from rfl, same_loop n ids hl c n 0 (by omega) (by omega)]; rfl
end
theorem same1 (n : Nat) : (F_hypogeumref20_SameIDs_1 (n + 1) []).run = some true := rfl
theorem same2 (n : Nat) (c : Bool) : (F_hypogeumref20_SameIDs_2 (n + 1) c []).run = some true := rfl
theorem same3 (n : Nat) : (F_hypogeumref20_SameIDs_3 (n + 1)).run = some true := rfl
theorem awake_run (n : Nat) : (F_hypogeumlaw20_awake (n + 1000)).run = some true := by kernel_rfl
theorem need_len (f : List UInt8 → Bool) : ∀ (l out : List (List UInt8)), (need f l out).length ≤ l.length + out.length
  | [], out => by simp [need]
  | y :: l, out => by
    unfold need
    split
    · have := need_len f l out; simp; omega
    · have := need_len f l (out ++ [y]); simp at this ⊢; omega
theorem needs_run (n : Nat) (x0 : Bool) (x1 : List Ent) (kd : Int) (x3 : Bool) (ids : List (List UInt8)) (h1 : x1.length ≤ 9223372036854775807) (h2 : ∀ e ∈ x1, e.2.2.1.length < n + 1000) (h3 : ∀ e ∈ x1, e.2.2.1.length ≤ 9223372036854775807) :
    (F_hypogeumlaw20_IndexNeeds (n + 1000) x0 x1 kd x3 ids).run = some true := by
  unfold F_hypogeumlaw20_IndexNeeds
  by_cases hi : 60 < ids.length
  · have e1 : decide ((60 : Int) < (Nat.cast ids.length : Int)) = true := by simp; omega
    simp only [Tree.run, e1, cond_true, awake_run, Option.bind_some]
  · have e1 : decide ((60 : Int) < (Nat.cast ids.length : Int)) = false := by simp; omega
    obtain ⟨m, c, ok, g1, g2⟩ := both_run (n := n + 1000) (by omega) x0 x1 h1 h2 h3
    have a1 : appI 4398046511104 ([] : List (List UInt8)) ids = some ids := by unfold appI; rw [if_pos (by simp; omega)]; rfl
    obtain ⟨r, p1, p2⟩ := pneed (n + 1000) kd m ids (by omega) (by omega)
    obtain ⟨q, q1, q2⟩ := rneed (n + 1000) kd m ids (by omega) (by omega) g2 x3 c
    have hs := same_run (n + 1000) ids (by omega) (by omega) x3
    simp only [Tree.run, e1, cond_false, g1, a1, Option.bind_some, p1, q1]
    have hlen : (need (has kd m) ids []).length ≤ 60 := by have := need_len (has kd m) ids []; simp at this; omega
    cases r with
    | inl out =>
      dsimp only at p2
      subst p2
      cases q with
      | inl out' =>
        dsimp only at q2
        subst q2
        have hs2 := same_run (n + 1000) (need (has kd m) ids []) hlen (by omega) false
        simp only [Tree.run, q1, hs2, hs, awake_run, Option.bind_some, cond_true]
      | inr u =>
        dsimp only at q2
        rw [q2]
        simp only [Tree.run, q1, same1, hs, awake_run, Option.bind_some, cond_true]
    | inr u =>
      dsimp only at p2
      cases q with
      | inl out' =>
        dsimp only at q2
        subst q2
        rw [p2] at q1
        simp only [Tree.run, q1, same2, hs, awake_run, Option.bind_some, cond_true]
      | inr u' =>
        simp only [Tree.run, q1, same3, hs, awake_run, Option.bind_some, cond_true]
/-- Enough rounds for all names. -/
def fuel : List Ent → Nat
  | [] => 0
  | e :: l => e.2.2.1.length + fuel l
theorem fuel_le : ∀ {l : List Ent} {e : Ent}, e ∈ l → e.2.2.1.length ≤ fuel l
  | x :: l, e, h => by
    unfold fuel
    rcases List.mem_cons.1 h with rfl | h
    · omega
    · have := fuel_le h; omega
theorem needs_law (x0 : Bool) (x1 : List Ent) (kd : Int) (x3 : Bool) (ids : List (List UInt8)) (g : (Ty.list (.rcd (.pair (.sint .i64) (.pair (.arr 32 .u8) (.rcd (.pair .str (.pair (.sint .i64) (.sint .i64)))))))).ok x1) :
    (F_hypogeumlaw20_IndexNeeds (fuel x1 + 1000) x0 x1 kd x3 ids).run = some true := by
  obtain ⟨g1, g2⟩ := g
  have hm : Go.maxLen ≤ 9223372036854775807 := by decide
  refine needs_run _ _ _ _ _ _ (Nat.le_trans g1 hm) (fun e he => ?_) (fun e he => ?_)
  · have := fuel_le he; omega
  · exact Nat.le_trans (g2 e he).2.2.1 hm
end Go.Proofs.Ytkpbpjmbkhkmnab
