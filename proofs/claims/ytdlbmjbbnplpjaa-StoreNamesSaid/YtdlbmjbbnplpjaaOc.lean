/- Maps. -/
import Derived.Test.YtdlbmjbbnplpjaaNb
import Derived.ChangeMaps4
set_option linter.unusedVariables false
set_option linter.unusedSimpArgs false
namespace Hyp
open Go
/-! ### 1. Pairs -/
def mget (kt vt : Ty) : List (kt.den × vt.den) → kt.den → Option vt.den
  | [], _ => none
  | p :: l, k => bif eqV kt k p.1 then some p.2 else mget kt vt l k
def mput (kt vt : Ty) : List (kt.den × vt.den) → kt.den → vt.den → List (kt.den × vt.den)
  | [], k, v => [(k, v)]
  | p :: l, k, v => bif eqV kt k p.1 then (k, v) :: l else p :: mput kt vt l k v
/-- What stands there, or z. -/
def mgetD (kt vt : Ty) (xs : List (kt.den × vt.den)) (x : kt.den) (z : vt.den) : vt.den := (mget kt vt xs x).getD z
def mdel (kt vt : Ty) : List (kt.den × vt.den) → kt.den → List (kt.den × vt.den)
  | [], _ => []
  | p :: l, k => bif eqV kt k p.1 then l else p :: mdel kt vt l k
section
variable {kt vt : Ty} {xs ys : List (kt.den × vt.den)} {x : kt.den} {y v : vt.den}
theorem eqV_self : eqV kt x x = true := (eqV_iff kt x x).2 rfl
theorem eqV_ne {z : kt.den} (h : x ≠ z) : eqV kt x z = false := by
  cases hc : eqV kt x z
  · rfl
  · exact absurd ((eqV_iff kt x z).1 hc) h
theorem mget_none : ∀ {xs : List (kt.den × vt.den)}, mget kt vt xs x = none ↔ ∀ p ∈ xs, p.1 ≠ x
  | [] => by simp [mget]
  | p :: l => by
    unfold mget
    cases hc : eqV kt x p.1
    · have hne : p.1 ≠ x := fun h => by rw [h, eqV_self] at hc; cases hc
      simp only [cond_false, mget_none (xs := l), List.mem_cons, forall_eq_or_imp]
      exact ⟨fun h => ⟨hne, h⟩, fun h => h.2⟩
    · have he := (eqV_iff kt x p.1).1 hc
      simp only [cond_true, List.mem_cons, forall_eq_or_imp, reduceCtorEq, false_iff]
      exact fun h => h.1 he.symm
theorem mget_perm : ∀ {xs : List (kt.den × vt.den)}, mget kt vt xs x = some y → xs.Perm ((x, y) :: mdel kt vt xs x)
  | [], h => by cases h
  | p :: l, h => by
    unfold mget at h
    unfold mdel
    cases hc : eqV kt x p.1 <;> rw [hc] at h
    · simp only [cond_false] at h ⊢
      exact ((mget_perm h).cons p).trans (List.Perm.swap _ _ _)
    · have he := (eqV_iff kt x p.1).1 hc
      simp only [cond_true, Option.some.injEq] at h ⊢
      subst h; subst he
      exact List.Perm.refl _
theorem mput_perm : ∀ {xs : List (kt.den × vt.den)}, mget kt vt xs x = some y → (mput kt vt xs x v).Perm ((x, v) :: mdel kt vt xs x)
  | [], h => by cases h
  | p :: l, h => by
    unfold mget at h
    unfold mput mdel
    cases hc : eqV kt x p.1 <;> rw [hc] at h
    · simp only [cond_false] at h ⊢
      exact ((mput_perm h).cons p).trans (List.Perm.swap _ _ _)
    · simp only [cond_true]
      exact List.Perm.refl _
theorem mput_new : ∀ {xs : List (kt.den × vt.den)}, mget kt vt xs x = none → mput kt vt xs x v = xs ++ [(x, v)]
  | [], _ => rfl
  | p :: l, h => by
    unfold mget at h
    unfold mput
    cases hc : eqV kt x p.1 <;> rw [hc] at h
    · simp only [cond_false] at h ⊢
      rw [mput_new h]; rfl
    · cases h
theorem mdel_none : ∀ {xs : List (kt.den × vt.den)}, mget kt vt xs x = none → mdel kt vt xs x = xs
  | [], _ => rfl
  | p :: l, h => by
    unfold mget at h
    unfold mdel
    cases hc : eqV kt x p.1 <;> rw [hc] at h
    · simp only [cond_false] at h ⊢
      rw [mdel_none h]
    · cases h
theorem mget_mem (hn : (xs.map (·.1)).Nodup) (h : (x, y) ∈ xs) : mget kt vt xs x = some y := by
  induction xs with
  | nil => simp at h
  | cons p l ih =>
    simp only [List.map_cons, List.nodup_cons] at hn
    unfold mget
    rcases List.mem_cons.1 h with rfl | h
    · rw [eqV_self]; rfl
    · have hne : x ≠ p.1 := fun he => hn.1 (by rw [← he]; exact List.mem_map_of_mem (f := (·.1)) h)
      rw [eqV_ne hne]
      exact ih hn.2 h
theorem mput_keys (hn : (xs.map (·.1)).Nodup) : ((mput kt vt xs x v).map (·.1)).Nodup := by
  cases hg : mget kt vt xs x with
  | none =>
    rw [mput_new hg, List.map_append, List.nodup_append]
    refine ⟨hn, by simp, fun a ha b hb => ?_⟩
    obtain ⟨p, hp, rfl⟩ := List.mem_map.1 ha
    simp only [List.map_cons, List.map_nil, List.mem_singleton] at hb
    subst hb
    exact mget_none.1 hg p hp
  | some y0 =>
    have h1 := ((mget_perm hg).map (·.1)).nodup_iff.1 hn
    exact ((mput_perm (v := v) hg).map (·.1)).nodup_iff.2 h1
theorem mdel_keys (hn : (xs.map (·.1)).Nodup) : ((mdel kt vt xs x).map (·.1)).Nodup := by
  cases hg : mget kt vt xs x with
  | none => rw [mdel_none hg]; exact hn
  | some y0 =>
    have h1 := ((mget_perm hg).map (·.1)).nodup_iff.1 hn
    simp only [List.map_cons, List.nodup_cons] at h1
    exact h1.2
theorem perm_none (hp : ys.Perm xs) (h : ∀ p ∈ ys, p.1 ≠ x) : mget kt vt xs x = none := mget_none.2 fun p hp' => h p (hp.mem_iff.2 hp')
theorem perm_some {j : Nat} (hp : ys.Perm xs) (hn : (xs.map (·.1)).Nodup) (h : ys[j]? = some (x, y)) : mget kt vt xs x = some y := mget_mem hn (hp.mem_iff.1 (List.mem_of_getElem? h))
theorem erase_perm {j : Nat} (hp : ys.Perm xs) (hn : (xs.map (·.1)).Nodup) (h : ys[j]? = some (x, y)) : (ys.eraseIdx j).Perm (mdel kt vt xs x) := by
  obtain ⟨hj, he⟩ := List.getElem?_eq_some_iff.1 h
  have h1 : ys.Perm ((x, y) :: ys.eraseIdx j) := by
    have := ChangeMaps.set_perm ys j hj (x, y)
    rwa [← he, List.set_getElem_self, he] at this
  exact List.Perm.cons_inv ((h1.symm.trans hp).trans (mget_perm (perm_some hp hn h)))
theorem set_perm' {j : Nat} (hp : ys.Perm xs) (hn : (xs.map (·.1)).Nodup) (h : ys[j]? = some (x, y)) : (ys.set j (x, v)).Perm (mput kt vt xs x v) := by
  obtain ⟨hj, he⟩ := List.getElem?_eq_some_iff.1 h
  exact ((ChangeMaps.set_perm ys j hj (x, v)).trans ((erase_perm hp hn h).cons _)).trans (mput_perm (perm_some hp hn h)).symm
end
end Hyp
