/- Rings: masters by epochs, the program's (a map) and the document's (a list): the same pairs in the same order. -/
import Derived.Test.YtcojhmllnhkbnaaDoorPB
import Derived.Test.YtcojhmllnhkbnaaDoorKh
set_option linter.unusedVariables false
set_option linter.unusedSimpArgs false
set_option maxRecDepth 100000
namespace Hyp
open Go Go.Proofs
abbrev Rg := List (Int × List UInt8)
def lookS : Rg → Int → Option (List UInt8)
  | [], _ => none
  | p :: l, e => if p.1 = e then some p.2 else lookS l e
theorem mget_lookS (e : Int) : ∀ r : Rg, mget (.sint .i64) (.list .u8) r e = lookS r e
  | [] => rfl
  | p :: l => by
    have h : eqV (.sint .i64) e p.1 = decide (p.1 = e) := by
      rw [Bool.eq_iff_iff, eqV_iff, decide_eq_true_eq]; exact ⟨fun h => h.symm, fun h => h.symm⟩
    unfold mget lookS
    rw [h, mget_lookS e l]
    by_cases hp : p.1 = e
    · rw [decide_eq_true hp, if_pos hp]; rfl
    · rw [decide_eq_false hp, if_neg hp]; rfl
def okR (r : Rg) : Prop := (∀ p ∈ r, p.2.length = 32 ∧ 1 ≤ p.1 ∧ p.1 ≤ 64) ∧ (r.map (·.1)).Nodup
theorem okR_nil : okR [] := ⟨by simp, by simp⟩
theorem lookS_mem : ∀ {r : Rg} {e : Int} {k : List UInt8}, lookS r e = some k → (e, k) ∈ r
  | [], _, _, h => by cases h
  | p :: l, e, k, h => by
    unfold lookS at h
    split at h
    · rename_i hp
      cases h; subst hp; simp
    · exact List.mem_cons_of_mem _ (lookS_mem h)
theorem lookS_none : ∀ {r : Rg} {e : Int}, lookS r e = none → ∀ p ∈ r, p.1 ≠ e
  | [], _, _ => by simp
  | p :: l, e, h => by
    unfold lookS at h
    split at h
    · cases h
    · rename_i hp
      intro q hq
      rcases List.mem_cons.1 hq with rfl | hq
      · exact hp
      · exact lookS_none h q hq
def putS (r : Rg) (e : Int) (k : List UInt8) : Rg := if e < 1 ∨ 64 < e ∨ k.length ≠ 32 then r else if (lookS r e).isSome then r else r ++ [(e, k)]
def putE (r : Rg) (e : Int) (k : List UInt8) : Int := if e < 1 ∨ 64 < e ∨ k.length ≠ 32 then 1 else if (lookS r e).isSome then 19 else 0
theorem okR_put {r : Rg} (h : okR r) (e : Int) (k : List UInt8) : okR (putS r e k) := by
  unfold putS
  split
  · exact h
  · split
    · exact h
    · rename_i h1 h2
      have hn : lookS r e = none := by cases hx : lookS r e <;> simp_all
      refine ⟨?_, ?_⟩
      · intro p hp
        rcases List.mem_append.1 hp with hp | hp
        · exact h.1 p hp
        · rw [List.mem_singleton] at hp; subst hp
          refine ⟨?_, ?_, ?_⟩ <;> simp only <;> omega
      · rw [List.map_append, List.nodup_append]
        refine ⟨h.2, by simp, fun a ha b hb => ?_⟩
        obtain ⟨p, hp, rfl⟩ := List.mem_map.1 ha
        simp only [List.map_cons, List.map_nil, List.mem_singleton] at hb
        subst hb
        exact lookS_none hn p hp
theorem putS_len (r : Rg) (e : Int) (k : List UInt8) : (putS r e k).length ≤ r.length + 1 := by
  unfold putS
  split
  · omega
  · split
    · omega
    · simp
theorem rfind_l0 {n : Nat} {f : Bool} {r : Rg} {e : Int} (hr : r.length ≤ 1000000) : ∀ (k i : Nat), i ≤ r.length → r.length < i + k → (F_r09_Ring_find_l0 n k e (i : Int) f r).run = some (match lookS (r.drop i) e with | some x => .inl x | none => .inr ())
  | 0, _, _, h => by omega
  | k + 1, i, h1, h2 => by
    unfold F_r09_Ring_find_l0
    by_cases hi : i = r.length
    · have e1 : decide ((i : Int) < ln r) = false := decide_eq_false (by unfold ln; omega)
      simp only [Tree.run, e1, cond_false]
      rw [List.drop_of_length_le (by omega)]; rfl
    · have hl : i < r.length := by omega
      have e1 : decide ((i : Int) < ln r) = true := decide_eq_true (by unfold ln; omega)
      have e2 : getI r (i : Int) = some r[i] := getI_lt hl
      have e8 : w64 ((i : Int) + 1) = ((i + 1 : Nat) : Int) := w64_succ (by omega)
      have ih := rfind_l0 (n := n) (f := f) (e := e) hr k (i + 1) (by omega) (by omega)
      simp only [Tree.run, e1, cond_true, e2, e8, Option.bind_some, ih]
      rw [List.drop_eq_getElem_cons hl, lookS]
      by_cases hp : r[i].1 = e
      · simp only [hp, decide_true, cond_true, if_true]
      · simp only [hp, decide_false, cond_false, if_false]
        cases lookS (r.drop (i + 1)) e <;> rfl
theorem rfind_run {n : Nat} {f : Bool} {r : Rg} {e : Int} (hr : r.length ≤ 1000000) (hn : r.length < n) : (F_r09_Ring_find n f r e).run = some ((lookS r e).getD [], (lookS r e).isSome) := by
  have e1 := rfind_l0 (n := n) (f := f) (e := e) hr n 0 (by omega) (by omega)
  unfold F_r09_Ring_find
  simp only [Tree.run]
  refine bndO e1 ?_
  rw [List.drop_zero]
  cases lookS r e <;> rfl
theorem rput_run {n : Nat} {f : Bool} {r : Rg} {e : Int} {k : List UInt8} (hr : r.length ≤ 1000) (hn : r.length < n) : ∃ f', (F_r09_Ring_Put n f r e k).run = some (f', putS r e k, putE r e k) := by
  unfold F_r09_Ring_Put putS putE
  by_cases hb : e < 1 ∨ 64 < e ∨ k.length ≠ 32
  · have e1 : ((decide (e < (1 : Int))) || ((decide ((64 : Int) < e)) || (!(decide ((ln k) = (32 : Int)))))) = true := by
      simp only [Bool.or_eq_true, decide_eq_true_eq, Bool.not_eq_true', decide_eq_false_iff_not]
      unfold ln; omega
    exact ⟨f, by simp only [Tree.run, e1, cond_true, if_pos hb]⟩
  · have e1 : ((decide (e < (1 : Int))) || ((decide ((64 : Int) < e)) || (!(decide ((ln k) = (32 : Int)))))) = false := by
      simp only [Bool.or_eq_false_iff, decide_eq_false_iff_not, Bool.not_eq_false', decide_eq_true_eq]
      unfold ln; omega
    simp only [Tree.run, e1, cond_false, rfind_run (n := n) (f := f) (e := e) (show r.length ≤ 1000000 by omega) hn, Option.bind_some, if_neg hb]
    cases hl : (lookS r e).isSome
    · have a1 : appI 4398046511104 ([] : Rg) r = some r := appI_le (by simp; omega)
      have a2 : appI 4398046511104 r (List.set ([((0 : Int), ([] : List UInt8))] : Rg) 0 (e, k)) = some (r ++ [(e, k)]) := appI_le (by simp; omega)
      refine ⟨false, ?_⟩
      simp only [cond_false, a1, a2, Option.bind_some, Bool.false_eq_true, if_false]
    · refine ⟨f, ?_⟩
      simp only [cond_true, if_true]
def rkS (r : Rg) (purpose : List UInt8) (e : Int) : Int ⊕ List UInt8 := if e < 1 ∨ 64 < e then .inl 1 else match lookS r e with | none => .inl 24 | some m => .inr (keyL m purpose e.toNat)
theorem right_seal (e : Int) : rightI ([115, 101, 97, 108] : List UInt8) e = some (decide (1 ≤ e ∧ e ≤ 64)) := by
  unfold rightI
  rw [if_pos (by decide)]
  congr 1
  by_cases h : 1 ≤ e ∧ e ≤ 64 <;> simp [h, lower]
theorem ringkey_run {n : Nat} (hn : 65 ≤ n) {r : Rg} (hr : okR r) {p : List UInt8} (hp : p.length ≤ 16) {e : Int} (hR : rightI p e = some (decide (1 ≤ e ∧ e ≤ 64))) : (F_label_Ring_Key n p e r).run = some (rkS r p e) := by
  unfold F_label_Ring_Key rkS
  by_cases h : 1 ≤ e ∧ e ≤ 64
  · rw [if_neg (by omega)]
    obtain ⟨m, rfl⟩ : ∃ m : Nat, e = (m : Int) := ⟨e.toNat, by omega⟩
    simp only [Tree.run, hR, h, and_self, decide_true, Bool.not_true, cond_false, Option.bind_some, mgetD, mget_lookS]
    cases hl : lookS r (m : Int) with
    | none => simp
    | some k =>
      have hk := hr.1 _ (lookS_mem hl)
      have e1 := lkey_run (n := n) hn (master := k) (p := p) (e := m) hk.1 hp (by rw [hR]; simp [h]) (by omega)
      simp only [Option.isSome_some, Bool.not_true, cond_false, Option.getD_some, e1, Option.bind_some, run_r, Tree.run, Int.toNat_natCast]
  · rw [if_pos (by omega)]
    simp only [Tree.run, hR, h, decide_false, Bool.not_false, cond_true, Option.bind_some]
end Hyp
