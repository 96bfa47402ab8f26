/- Summaries made weaker: a row given up, a nil slice as data, more names. -/
import Derived.Test.YtdlbmjbbnplpjaaNd
set_option linter.unusedVariables false
set_option linter.unusedSimpArgs false
namespace Hyp
open Go
/-- Whatever is r, is r' as well. -/
def Weak (r r' : MR) : Prop := ∀ (B : Base) (ν : Nms) (b : Nat) (w : World) (L : List En) (F : List Ent) (ν' : Nms) (w' : World) (v : Value), Left B ν b w L F ν' r.2.2 w' r.2.1 → slotR ν' r.2.2 (B.Z (ents ν' r.2.1 ++ F)) w' r.1 v →
  Left B ν b w L F ν' r'.2.2 w' r'.2.1 ∧ slotR ν' r'.2.2 (B.Z (ents ν' r'.2.1 ++ F)) w' r'.1 v
theorem Weak.trans {r r' r'' : MR} (h : Weak r r') (h2 : Weak r' r'') : Weak r r'' := fun _ _ _ _ _ _ _ _ _ q1 q2 => let ⟨p1, p2⟩ := h _ _ _ _ _ _ _ _ _ q1 q2; h2 _ _ _ _ _ _ _ _ _ p1 p2
theorem Weak.refl (r : MR) : Weak r r := fun _ _ _ _ _ _ _ _ _ q1 q2 => ⟨q1, q2⟩
theorem Weak.nil (e : Ty) (L : List En) (b : Nat) : Weak (.snil none, L, b) (.ro false e [], L, b) := fun _ _ _ _ _ _ _ _ _ q1 q2 =>
  ⟨q1, ⟨.slice none 0 0, by subst_eqs; exact q2, ⟨[], Sl.nil _ _, by simp, rfl, by simp⟩, fun h => by cases h⟩⟩
theorem Weak.row {a a' : AV} {k v b : Nat} {e : Ty} {xs : List e.den} {L L' L'' : List En} (ht : takeE L k = some (⟨k, v, .row e xs⟩, L')) (hf : frzL k e xs L' = some L'') (ha : a.frz k e xs = some a') : Weak (a, L, b) (a', L'', b) := fun _ _ _ _ _ _ _ _ u q1 q2 => by
  obtain ⟨h1, h2⟩ := freeze_ok (rs := [a]) (vs := [u]) (rs' := [a']) q1 ht hf ⟨q2, trivial⟩ (by simp [frzs, ha])
  exact ⟨h1, h2.1⟩
theorem Weak.more {a : AV} {L : List En} {b b' : Nat} (h : b ≤ b') : Weak (a, L, b) (a, L, b') := fun B ν b0 w L0 F ν' w' u q1 q2 => by
  have hl : Later ν' ν' b b' (B.Z (ents ν' L ++ F)) (B.Z (ents ν' L ++ F)) w' w' := ⟨fun _ _ => rfl, h, fun _ _ hz => ⟨hz, rfl⟩⟩
  exact ⟨⟨q1.nms, Nat.le_trans q1.le h, q1.own, fun e he => (q1.fact e he).later hl⟩, q2.later hl⟩
theorem SoundF.weak {P : Program} {g : FuncId} {S D : Summ} (hS : SoundF P g S) (h : ∀ avs L b R, (D avs L b).Runs R → (S avs L b).Runs fun r => ∃ r', R r' ∧ Weak r r') : SoundF P g D := by
  intro avs L b R hr B ν w F vs H hs
  refine (hS avs L b _ (h avs L b R hr) B ν w F vs H hs).mono fun e w' he => ?_
  cases e with
  | returned v =>
    obtain ⟨r, ⟨r', h1, h2⟩, ν', h3, h4⟩ := he
    obtain ⟨p1, p2⟩ := h2 _ _ _ _ _ _ _ _ _ h3 h4
    exact ⟨r', h1, ν', p1, p2⟩
  | panicked _ => exact he
  | outgrown => exact he
/-- What slices.Clone comes to on a list that is only read. -/
def cloneT {α : Type} (N : Nat) (x : List α) : Tree (Unit ⊕ List α) := .ite (decide ((Nat.cast x.length : Int) = (0 : Int)))
  (.all (fun (_ : Bool) => True) fun y => .ite y (.ret (.inl ())) (.get (appI N [] x) fun z => .ret (.inr z))) (.get (appI N [] x) fun z => .ret (.inr z))
theorem clone_weak {S : Tree MR} {e : Ty} {s N : Nat} {x : List e.den} {R : MR → Prop} (hse : s = e.sz) (q : (Tree.sub (.get (appI N [] x) fun z => .ret z) fun r => .ret (.ro false e r, [], 2) : Tree MR).Runs R)
    (hS : S = .sub (cloneT N x) fun r => .alt r (fun _ => .ret (.snil none, [], 0)) (fun r => .ret (.whole 0 s, [⟨0, 1, .row e r⟩], 2))) : S.Runs fun r => ∃ r', R r' ∧ Weak r r' := by
  subst hS
  cases ho : appI N [] x with
  | none =>
    rw [ho] at q
    obtain ⟨y, h, _⟩ := q
    cases h
  | some z =>
    rw [ho] at q
    have hR : R (.ro false e z, [], 2) := by
      obtain ⟨y, h, q⟩ := q
      cases h
      exact q
    have hz : z = x := by have := (appI_some ho).2; simpa using this
    have hrow : Weak (.whole 0 s, [⟨0, 1, .row e z⟩], 2) (.ro false e z, [], 2) := Weak.row (k := 0) (v := 1) rfl rfl (by simp [AV.frz, hse])
    have hget : ∀ t : Tree (Unit ⊕ List e.den), t = (.get (some z) fun z => .ret (.inr z)) → (Tree.sub t fun r => .alt r (fun _ => .ret (.snil none, [], 0)) (fun r => .ret (.whole 0 s, [⟨0, 1, .row e r⟩], 2)) : Tree MR).Runs fun r => ∃ r', R r' ∧ Weak r r' := by
      rintro _ rfl
      exact ⟨z, rfl, _, hR, hrow⟩
    unfold cloneT
    rw [ho]
    refine ⟨fun he => ?_, fun _ => hget _ rfl⟩
    have hx : x = [] := by
      rw [decide_eq_true_eq] at he
      exact List.length_eq_zero_iff.1 (by omega)
    rintro y -
    refine ⟨fun _ => ?_, fun _ => hget _ rfl⟩
    refine ⟨_, hR, ?_⟩
    rw [hz, hx]
    exact (Weak.nil e [] 0).trans (Weak.more (by omega))
end Hyp
