/- From a summary to a call at the top. -/
import Derived.Test.YtdlbmjbbnplpjaaMs
set_option linter.unusedVariables false
namespace Hyp
open Go
def topB (w : World) : Base := ⟨fun _ => True, fun _ => True, w, fun _ => trivial⟩
theorem topZ (w : World) (x : Nat) : (topB w).Z [] x := ⟨fun ⟨_, he, _⟩ => by simp at he, .inl trivial⟩
theorem top_call {P : Program} {g : FuncId} {S : Summ} {avs : List AV} {w : World} {vs : List Value} (hS : SoundF P g S) (hrun : (S avs [] 0).Runs fun r => r.1 = .val .bool true ∧ r.2.1 = []) (hs : slotsR nu0 0 ((topB w).Z []) w avs vs) :
    Calls P g vs.toArray w (Ret fun v w' => v = .bool true ∧ Own w (footU []) w' []) := by
  have H : Here (topB w) nu0 0 w [] [] := ⟨Own.start w _, fun e he => by cases he⟩
  refine (hS _ _ _ _ hrun (topB w) nu0 w [] vs H hs).mono fun e w' he => ?_
  cases e with
  | returned v =>
    obtain ⟨⟨a, L', b'⟩, ⟨h1, h2⟩, ν', hl, hv⟩ := he
    simp only at h1 h2
    subst h1; subst h2
    exact ⟨sl_bool hv, hl.own⟩
  | panicked _ => exact he
  | outgrown => exact he
theorem top_ro {e : Ty} {xs : List e.den} {w : World} {v : Value} {Z : Nat → Prop} (h : RSl e.rty Z w v xs) : slotR nu0 0 ((topB w).Z []) w (.ro false e xs) v := by
  show avV nu0 0 _ w (.ro false e xs) v
  unfold avV
  rw [if_neg (by simp [AV.isAgg])]
  exact ⟨v, rfl, h.go fun b _ _ => ⟨topZ w b, rfl⟩, fun h => by cases h⟩
theorem top_val {t : Ty} {x : t.den} {w : World} {v : Value} (ha : t.isAgg = false) (h : [v] = t.enc x) (hr : ∀ {S : Nat → Prop} {w : World}, t.rty.rel S w x (t.enc x)) : slotR nu0 0 ((topB w).Z []) w (.val t x) v := by
  show avV nu0 0 _ w (.val t x) v
  unfold avV
  rw [if_neg (by simp [AV.isAgg, ha])]
  show t.rty.rel _ _ _ _
  rw [h]
  exact hr
end Hyp
