/- Tables of what is called, and of loops; outcomes of several shapes. -/
import Derived.Test.YtdlbmjbbnplpjaaMr
set_option linter.unusedVariables false
set_option linter.unusedSimpArgs false
namespace Hyp
open Go
/-- What is told of a tree by another one and what is packed up. -/
theorem run_subs {α β : Type} {t : Tree β} {k k' : β → Tree α} {u : Tree α} {R : α → Prop} (h : (Tree.sub t k).Wp R) (hk : ∀ y, (k y).Wp R → (k' y).Wp R) (e : u = t.bind k') : u.Wp R := by
  refine ⟨?_⟩
  rw [e, Tree.runs_bind]
  exact Tree.Runs.mono (t := t) h.h fun y hy => (hk y ⟨hy⟩).h
/-- Some datum. -/
def dfl : (t : Ty) → t.den
  | .sint _ => (0 : Int) | .u8 => (0 : UInt8) | .u16 => (0 : UInt16) | .u32 => (0 : UInt32) | .u64 => (0 : UInt64)
  | .bool => false | .str => [] | .unit => () | .arr _ _ => [] | .pair a b => (dfl a, dfl b) | .rcd t => dfl t | .list _ => []
def mkTab : List (Nat × CallE) → Tab
  | [], _ => none
  | (g, e) :: l, h => bif Nat.beq h g then some e else mkTab l h
theorem TabOK.nil {P : Program} : TabOK P (mkTab []) := fun _ _ h => by cases h
theorem TabOK.cons {P : Program} {g : Nat} {e : CallE} {l : List (Nat × CallE)} (h : SoundF P g e.S) (hf : ∃ fn, P.funcs[g]? = some fn ∧ callable fn = true) (hl : TabOK P (mkTab l)) : TabOK P (mkTab ((g, e) :: l)) := by
  intro g' e' he
  unfold mkTab at he
  cases hb : Nat.beq g' g <;> rw [hb] at he
  · exact hl g' e' he
  · cases he
    obtain rfl := Nat.eq_of_beq_eq_true hb
    exact ⟨h, hf⟩
/-- One summary or another one. -/
def orT {α : Type} : Tree α → Tree α → Tree α
  | .fail, t => t
  | t, _ => t
theorem orT_ok {α : Type} {t u : Tree α} {R : α → Prop} (h : (orT t u).Runs R) : t.Runs R ∨ u.Runs R := by
  cases t <;> first | exact .inl h | exact .inr h
def orS (S T : Summ) : Summ := fun avs L b => orT (S avs L b) (T avs L b)
theorem SoundF.or {P : Program} {g : Nat} {S T : Summ} (hS : SoundF P g S) (hT : SoundF P g T) : SoundF P g (orS S T) := by
  intro avs L b R h
  rcases orT_ok h with h | h
  · exact hS _ _ _ _ h
  · exact hT _ _ _ _ h
def orC (S T : CutF) : CutF := fun avs L b => orT (S avs L b) (T avs L b)
/-- One of several, the first that does not fail. -/
def orCL (a : CutF) : List CutF → CutF
  | [] => a
  | c :: l => orC a (orCL c l)
theorem orCL_mem : ∀ {l : List CutF} {a : CutF} (avs : List AV) (L : List En) (b : Nat) (R : Ex × List AV × List En × Nat → Prop), (orCL a l avs L b).Wp R → ∃ κ ∈ a :: l, (κ avs L b).Wp R
  | [], a, _, _, _, _, h => ⟨a, .head _, h⟩
  | c :: l, a, avs, L, b, R, h => by
    rcases orT_ok h.h with h | h
    · exact ⟨a, .head _, ⟨h⟩⟩
    · obtain ⟨κ, q1, q2⟩ := orCL_mem avs L b R ⟨h⟩
      exact ⟨κ, .tail _ q1, q2⟩
def mkCuts : List (Nat × Cut) → Nat → Option Cut
  | [], _ => none
  | (g, e) :: l, h => bif Nat.beq h g then some e else mkCuts l h
/-- A loop; or what stands behind a label. -/
inductive Lp
  | lp (body : Code)
  | jp (l : Nat) (rest : Code)
def Lp.X (P : Program) (n : Nat) : Lp → Post → Fr → World → Prop
  | .lp body => C P n (.loop body)
  | .jp l rest => JX P n l rest
def Lp.ws : Lp → List Nat
  | .lp body => wr body
  | .jp _ rest => wr rest
/-- The loops of code, those within loops left out. -/
def loopsOf : Code → List (Nat × Lp)
  | .seq a c | .cond _ a c => loopsOf a ++ loopsOf c
  | .block id c => match c with
    | .loop body => [(id, .lp body)]
    | c => loopsOf c
  | .scope c => loopsOf c ++ (match labelOf c with
    | some l => match findLabel c l with
      | some rest => [(labKey l, .jp l rest)]
      | none => []
    | none => [])
  | _ => []
theorem CutsOK.of {P : Program} {n : Nat} {cuts : Nat → Option Cut} : ∀ {c : Code}, (∀ p ∈ loopsOf c, ∀ k, cuts p.1 = some k → SoundX (p.2.X P n) p.2.ws k) → CutsOK P n cuts c
  | .seq a c, h => ⟨CutsOK.of fun p hp => h p (List.mem_append_left _ hp), CutsOK.of fun p hp => h p (List.mem_append_right _ hp)⟩
  | .cond _ a c, h => ⟨CutsOK.of fun p hp => h p (List.mem_append_left _ hp), CutsOK.of fun p hp => h p (List.mem_append_right _ hp)⟩
  | .block id c, h => by
    by_cases hl : ∃ body, c = .loop body
    · obtain ⟨body, rfl⟩ := hl
      exact h (id, .lp body) (by simp [loopsOf])
    · have hne : ∀ body, c ≠ .loop body := fun body he => hl ⟨body, he⟩
      have h2 : loopsOf (.block id c) = loopsOf c := by
        cases c <;> first | rfl | exact absurd rfl (hne _)
      have := CutsOK.of (P := P) (n := n) (cuts := cuts) (c := c) fun p hp => h p (by rw [h2]; exact hp)
      cases c <;> first | exact this | exact absurd rfl (hne _)
  | .scope c, h => ⟨CutsOK.of fun p hp => h p (List.mem_append_left _ hp), fun l rest hl hr k hk => h (labKey l, .jp l rest) (List.mem_append_right _ (by rw [hl]; dsimp only; rw [hr]; exact .head _)) k hk⟩
  | .skip, _ | .exit _, _ | .ret, _ | .region _ _ _, _ | .loop _, _ | .rangeFunc _ _ _ _, _ | .label _, _ | .goto _, _ | .refuse _, _ => trivial
/-- The body of the loop of that name. -/
def loopIn : Nat → Code → Option Code
  | i, .seq a c | i, .cond _ a c => (loopIn i a).orElse fun _ => loopIn i c
  | i, .block id c => match c with
    | .loop body => bif Nat.beq i id then some body else loopIn i body
    | c => loopIn i c
  | i, .scope c => loopIn i c
  | _, _ => none
/-- What stands behind a label. -/
def labelIn : Nat → Code → Option Code
  | i, .seq a c | i, .cond _ a c => (labelIn i a).orElse fun _ => labelIn i c
  | i, .block _ c | i, .loop c => labelIn i c
  | i, .scope c => (findLabel c i).orElse fun _ => labelIn i c
  | _, _ => none
def bodyOf (fn : Func) (i : Nat) : Code := match fn.body with
  | some c => (loopIn i c).getD .skip
  | none => .skip
def restOf (fn : Func) (l : Nat) : Code := match fn.body with
  | some c => (labelIn l c).getD .skip
  | none => .skip
def codeOf (fn : Func) : Code := fn.body.getD .skip
/-- The loops' cuts are sound, one by one. -/
theorem CutsOK.list {P : Program} {n : Nat} {cuts : Nat → Option Cut} {c : Code} {l : List (Nat × Lp)} (e : loopsOf c = l) (h : ∀ p ∈ l, ∀ k, cuts p.1 = some k → SoundX (p.2.X P n) p.2.ws k) : CutsOK P n cuts c := .of (by rw [e]; exact h)
theorem CutsOK.none {P : Program} {n : Nat} {c : Code} : CutsOK P n (fun _ => none) c := .of fun _ _ _ h => by cases h
/-- One loop after the other. -/
def LoopsOK (P : Program) (n : Nat) (cuts : Nat → Option Cut) : List (Nat × Lp) → Prop
  | [] => True
  | (i, body) :: l => (cuts i = none ∨ ∃ k, cuts i = some k ∧ SoundX (body.X P n) body.ws k) ∧ LoopsOK P n cuts l
theorem LoopsOK.all {P : Program} {n : Nat} {cuts : Nat → Option Cut} : ∀ {l : List (Nat × Lp)}, LoopsOK P n cuts l → ∀ p ∈ l, ∀ k, cuts p.1 = some k → SoundX (p.2.X P n) p.2.ws k
  | [], _, _, h, _, _ => by cases h
  | (i, body) :: l, ⟨h1, h2⟩, p, hp, k, hk => by
    rcases List.mem_cons.1 hp with rfl | hp
    · rcases h1 with h1 | ⟨k0, h0, h1⟩
      · rw [h1] at hk; cases hk
      · rw [h0] at hk; cases hk; exact h1
    · exact LoopsOK.all h2 p hp k hk
theorem SoundX.or {X : Post → Fr → World → Prop} {ws : List Nat} {ins : List Nat} {outs : Ex → List Nat} {S T : CutF} (hS : SoundX X ws ⟨ins, outs, S⟩) (hT : SoundX X ws ⟨ins, outs, T⟩) : SoundX X ws ⟨ins, outs, orC S T⟩ := by
  intro avs L b B ν w F f Q h
  rcases orT_ok h with h | h
  · exact hS _ _ _ _ _ _ _ _ _ h
  · exact hT _ _ _ _ _ _ _ _ _ h
end Hyp
