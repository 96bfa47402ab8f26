/- A region that draws its order: what the evaluation tells is so. -/
import Derived.Test.YtdlbmjbbnplpjaaMv
set_option linter.unusedVariables false
set_option linter.unusedSimpArgs false
namespace Hyp
open Go
/-! ### 1. What is checked -/
def rangeOK : Recs → Nat → Nat → Nat → Bool
  | [], top, _, b0 => Nat.ble b0 top
  | (j, r) :: l, top, idx, b0 => Nat.blt j idx && (Nat.ble r.hi top && (Nat.ble r.lo r.hi && rangeOK l r.lo j b0))
theorem rangeOK_le : ∀ {R : Recs} {top idx b0 : Nat}, rangeOK R top idx b0 = true → b0 ≤ top
  | [], _, _, _, h => Nat.le_of_ble_eq_true h
  | (j, r) :: l, top, idx, b0, h => by
    simp only [rangeOK, Bool.and_eq_true] at h
    have h1 := rangeOK_le h.2.2.2
    have h2 := Nat.le_of_ble_eq_true h.2.1
    have h3 := Nat.le_of_ble_eq_true h.2.2.1
    omega
theorem rangeOK_at : ∀ {R : Recs} {top idx b0 : Nat}, rangeOK R top idx b0 = true → ∀ {j : Nat} {r : Rec}, lookR R j = some r → j < idx ∧ r.hi ≤ top ∧ b0 ≤ r.lo ∧ r.lo ≤ r.hi
  | [], _, _, _, _, _, _, h => by cases h
  | (i, r) :: l, top, idx, b0, h, j, r', hj => by
    simp only [rangeOK, Bool.and_eq_true] at h
    have h0 : i + 1 ≤ idx := Nat.le_of_ble_eq_true h.1
    have h2 := Nat.le_of_ble_eq_true h.2.1
    have h3 := Nat.le_of_ble_eq_true h.2.2.1
    simp only [lookR] at hj
    cases hb : Nat.beq j i <;> rw [hb] at hj
    · obtain ⟨g1, g2, g3, g4⟩ := rangeOK_at h.2.2.2 hj
      exact ⟨by omega, by omega, g3, g4⟩
    · cases hj
      obtain rfl := Nat.eq_of_beq_eq_true hb
      exact ⟨by omega, h2, rangeOK_le h.2.2.2, h3⟩
theorem rangeOK_two : ∀ {R : Recs} {top idx b0 : Nat}, rangeOK R top idx b0 = true → ∀ {j k : Nat} {rj rk : Rec}, lookR R j = some rj → lookR R k = some rk → j < k → rj.hi ≤ rk.lo
  | [], _, _, _, _, _, _, _, _, h, _, _ => by cases h
  | (i, r) :: l, top, idx, b0, h, j, k, rj, rk, hj, hk, hjk => by
    simp only [rangeOK, Bool.and_eq_true] at h
    simp only [lookR] at hj hk
    cases hb : Nat.beq k i <;> rw [hb] at hk
    · cases hb2 : Nat.beq j i <;> rw [hb2] at hj
      · exact rangeOK_two h.2.2.2 hj hk hjk
      · obtain rfl := Nat.eq_of_beq_eq_true hb2
        have := (rangeOK_at h.2.2.2 hk).1
        omega
    · cases hk
      obtain rfl := Nat.eq_of_beq_eq_true hb
      cases hb2 : Nat.beq j k <;> rw [hb2] at hj
      · exact (rangeOK_at h.2.2.2 hj).2.1
      · have := Nat.eq_of_beq_eq_true hb2; omega
theorem ownr_at : ∀ {R : Recs} {top idx b0 : Nat}, rangeOK R top idx b0 = true → ∀ {key j : Nat}, ownr R key = some j → ∃ r, lookR R j = some r ∧ r.lo ≤ key ∧ key < r.hi
  | [], _, _, _, _, _, _, h => by cases h
  | (i, r) :: l, top, idx, b0, h, key, j, hj => by
    simp only [rangeOK, Bool.and_eq_true] at h
    simp only [ownr] at hj
    cases hb : (Nat.ble r.lo key && Nat.blt key r.hi) <;> rw [hb] at hj
    · obtain ⟨r', g1, g2⟩ := ownr_at h.2.2.2 hj
      refine ⟨r', ?_, g2⟩
      have := (rangeOK_at h.2.2.2 g1).1
      have hne : Nat.beq j i = false := by
        cases hb : Nat.beq j i
        · rfl
        · have := Nat.eq_of_beq_eq_true hb; omega
      simp only [lookR, hne, cond_false, g1]
    · cases hj
      simp only [Bool.and_eq_true] at hb
      exact ⟨r, by simp [lookR], Nat.le_of_ble_eq_true hb.1, Nat.le_of_ble_eq_true hb.2⟩
def idsL (p : Nat → Bool) : List En → Bool
  | [] => true
  | e :: l => e.ids p && idsL p l
theorem idsL_at {p : Nat → Bool} : ∀ {L : List En}, idsL p L = true → ∀ e ∈ L, e.ids p = true
  | x :: l, h, e, he => by
    simp only [idsL, Bool.and_eq_true] at h
    rcases List.mem_cons.1 he with rfl | he
    · exact h.1
    · exact idsL_at h.2 e he
/-- Each record: its names are its own, or of those ahead of it; what it waits for is done with all that it waits for. -/
def recOK (R : Recs) (b0 nb m : Nat) (j : Nat) (r : Rec) : Bool :=
  r.a.ids (mayN R b0 r.tp j) && (idsL (mayN R b0 r.tp j) r.out && (r.tp.all (fun i => Nat.blt i j && (recAt R i).tp.all fun i' => memN r.tp i') && r.src.all fun i => Nat.blt i nb))
def recsOK (R0 : Recs) (b0 nb m : Nat) : Recs → Bool
  | [] => true
  | (j, r) :: l => recOK R0 b0 nb m j r && recsOK R0 b0 nb m l
theorem recsOK_at {R0 : Recs} {b0 nb m : Nat} : ∀ {R : Recs}, recsOK R0 b0 nb m R = true → ∀ {j : Nat} {r : Rec}, lookR R j = some r → recOK R0 b0 nb m j r = true
  | [], _, _, _, h => by cases h
  | (i, r) :: l, h, j, r', hj => by
    simp only [recsOK, Bool.and_eq_true] at h
    simp only [lookR] at hj
    cases hb : Nat.beq j i <;> rw [hb] at hj
    · exact recsOK_at h.2 hj
    · cases hj
      obtain rfl := Nat.eq_of_beq_eq_true hb
      exact h.1
def nu0 : Nms := fun _ => ⟨0, undef, []⟩
def checkD (n : Nat) (ops : Array Oper) (R : Recs) (L0 : List En) (b0 bE m : Nat) : Bool :=
  D.checkAny n m (L0.length + 1) ops (specs R nu0 b0 bE m) && (rangeOK R bE m b0 && recsOK R b0 (m + L0.length) m R)
theorem specs_same (R : Recs) (ν ν' : Nms) (b0 bE m : Nat) : D.sameSk (specs R ν b0 bE m) (specs R ν' b0 bE m) := by
  refine ⟨by simp [specs], fun k => ?_⟩
  by_cases hk : k < m
  · rw [specs_get hk, specs_get hk]; rfl
  · rw [specs_none (by omega), specs_none (by omega)]
/-! ### 2. Slots -/
theorem tps_at : ∀ {l : List Oper} {k : Nat} {acc : List (List Nat)} {j : Nat} {p : Nat × List Nat}, (tpsOf l k acc)[j]? = some p → ∃ o, l[j]? = some o ∧ p.1 = (o.dst).getD (1000000 + (k + j))
  | [], _, _, _, _, h => by simp [tpsOf] at h
  | o :: l, k, acc, 0, p, h => by
    simp only [tpsOf, List.getElem?_cons_zero, Option.some.injEq] at h
    exact ⟨o, rfl, by rw [← h]; rfl⟩
  | o :: l, k, acc, j + 1, p, h => by
    simp only [tpsOf, List.getElem?_cons_succ] at h
    obtain ⟨o', h1, h2⟩ := tps_at h
    exact ⟨o', by simpa using h1, by rw [h2]; congr 2; omega⟩
theorem tps_len : ∀ (l : List Oper) (k : Nat) (acc : List (List Nat)), (tpsOf l k acc).length = l.length
  | [], _, _ => rfl
  | o :: l, k, acc => by simp [tpsOf, tps_len l]
theorem findD_at : ∀ {I : List (Nat × List Nat)} {i k t j : Nat}, findD I i k t = some j → ∃ p, I[j - i]? = some p ∧ p.1 = t ∧ i ≤ j
  | [], _, _, _, _, h => by cases h
  | (d, tp) :: I, i, k, t, j, h => by
    unfold findD at h
    cases hc : (Nat.beq d t && Nat.blt i k) <;> rw [hc] at h
    · obtain ⟨p, h1, h2, h3⟩ := findD_at h
      refine ⟨p, ?_, h2, by omega⟩
      rw [show j - i = (j - (i + 1)) + 1 by omega]
      simpa using h1
    · cases h
      simp only [Bool.and_eq_true] at hc
      exact ⟨(d, tp), by simp, Nat.eq_of_beq_eq_true hc.1, Nat.le_refl _⟩
theorem findD_none : ∀ {I : List (Nat × List Nat)} {i k t : Nat}, findD I i k t = none → ∀ j p, I[j]? = some p → i + j < k → p.1 ≠ t
  | [], _, _, _, _, j, p, h, _ => by simp at h
  | (d, tp) :: I, i, k, t, h, j, p, hj, hk => by
    unfold findD at h
    cases hc : (Nat.beq d t && Nat.blt i k) <;> rw [hc] at h
    · cases j with
      | zero =>
        simp only [List.getElem?_cons_zero, Option.some.injEq] at hj
        subst hj
        rintro rfl
        have : Nat.blt i k = true := Nat.ble_eq_true_of_le (by show i + 1 ≤ k; omega)
        rw [this, Nat.beq_refl] at hc
        cases hc
      | succ j =>
        simp only [List.getElem?_cons_succ] at hj
        exact findD_none h j p hj (by omega)
    · cases h
theorem baseT_at : ∀ {I : List (Nat × List Nat)} {i k t : Nat}, baseT I i k t = true → ∀ j p, I[j]? = some p → p.1 ≠ t ∨ i + j = k ∨ memN p.2 k = true
  | [], _, _, _, _, j, p, h => by simp at h
  | (d, tp) :: I, i, k, t, h, j, p, hj => by
    simp only [baseT, Bool.and_eq_true, Bool.or_eq_true, Bool.not_eq_true'] at h
    cases j with
    | zero =>
      simp only [List.getElem?_cons_zero, Option.some.injEq] at hj
      subst hj
      rcases h.1 with h1 | h1 | h1
      · left
        rintro rfl
        simp at h1
      · exact .inr (.inl (Nat.eq_of_beq_eq_true h1))
      · exact .inr (.inr h1)
    | succ j =>
      simp only [List.getElem?_cons_succ] at hj
      have := baseT_at h.2 j p hj
      rwa [show i + 1 + j = i + (j + 1) by omega] at this
/-! ### 3. Pure operations -/
theorem pure_same {P : Program} {tab : Tab} {op : Op} {r : Operand → AV} {L : List En} {b : Nat} {a : AV} {L' : List En} {b' : Nat} (hp : pureOp P op = true) (h : (opF P tab op r L b).run = some (a, L', b')) : L' = L ∧ b' = b := by
  have key : ∀ {t : Tree AV}, (withLB L b t).run = some (a, L', b') → L' = L ∧ b' = b := by
    intro t h
    obtain ⟨x, _, h2⟩ := Tree.bind_some h
    cases h2
    exact ⟨rfl, rfl⟩
  have hF : opF P tab op r L b = opT P tab op r L b := by
    have : frzKeysT tab r L op = [] := by
      unfold pureOp at hp
      split at hp <;> first | rfl | cases hp
    unfold opF
    rw [this]
  rw [hF] at h
  unfold pureOp at hp
  split at hp <;> simp only [opT] at h
  · cases h; exact ⟨rfl, rfl⟩
  · cases h; exact ⟨rfl, rfl⟩
  · split at h
    · cases h; exact ⟨rfl, rfl⟩
    · cases h; exact ⟨rfl, rfl⟩
    · cases h; exact ⟨rfl, rfl⟩
    · cases h
  · exact key h
  · exact key h
  · rename_i o t x y u
    cases hn : isNilSl y <;> rw [hn] at h
    · exact key h
    · exact key h
  · exact key h
  · exact key h
  · exact key h
  · exact key h
  · exact key h
  · exact key h
  · exact key h
  · exact key h
  · exact key h
  · exact key h
  · rename_i s t x
    have hn : isStrSl P s t = false := by simpa using hp
    rw [hn] at h
    cases hc : isSlStr P s t <;> rw [hc] at h
    · exact key h
    · exact key h
  · split at h
    · rename_i x t h1 h2
      cases hm : isMpv (r x) <;> rw [hm] at h
      · exact key h
      · exact key h
    · cases h
  · split at h
    · exact key h
    · cases h
  · split at h
    · exact key h
    · cases h
  · cases hp
end Hyp
