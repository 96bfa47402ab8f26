/- The laws of the index in plain words: what is listed, in order. -/
import Derived.Test.YtcipfbabjbcfkaaKB
import Derived.Test.YtcipfbabjbcfkaaSd
set_option linter.unusedVariables false
set_option linter.unusedSimpArgs false
namespace Go.Proofs.Ytcipfbabjbcfkaa
open Hyp
theorem R_ite_t {α : Type} {b : Bool} {x y : Tree α} {Q : α → Prop} (h : b = true) (hx : x.Runs Q) : (Tree.ite b x y).Runs Q := ⟨fun _ => hx, fun h2 => absurd (h.symm.trans h2) (by decide)⟩
theorem R_ite_f {α : Type} {b : Bool} {x y : Tree α} {Q : α → Prop} (h : b = false) (hx : y.Runs Q) : (Tree.ite b x y).Runs Q := ⟨fun h2 => absurd (h.symm.trans h2) (by decide), fun _ => hx⟩
theorem R_get {α β : Type} {o : Option β} {k : β → Tree α} {Q : α → Prop} (y : β) (h : o = some y) (hk : (k y).Runs Q) : (Tree.get o k).Runs Q := Exists.intro y (And.intro h hk)
theorem R_sub {α β : Type} {t : Tree β} {k : β → Tree α} {P : β → Prop} {Q : α → Prop} (h : t.Runs P) (hk : ∀ y, P y → (k y).Runs Q) : (Tree.sub t k).Runs Q := Tree.Runs.mono (t := t) h hk
theorem R_run {α β : Type} {t : Tree β} {k : β → Tree α} {a : β} {Q : α → Prop} (h : t.run = some a) (hk : (k a).Runs Q) : (Tree.sub t k).Runs Q := (Tree.runs_run (t := t) h).2 hk
theorem run_l {α β γ : Type} {y : β} {k : β → Tree α} {l : γ → Tree α} : (Tree.alt (.inl y) k l).run = (k y).run := rfl
theorem run_r {α β γ : Type} {y : γ} {k : β → Tree α} {l : γ → Tree α} : (Tree.alt (.inr y) k l).run = (l y).run := rfl
theorem flat_good {m : Mp} (h : InvM m) : goodK (flat m) = true := by
  rw [goodK_iff]
  refine ⟨fun x hx => ?_, ?_⟩
  · obtain ⟨p, hp, rfl⟩ := List.mem_map.1 hx
    have := (h.ok p hp).1
    unfold right at this
    simp only [Bool.and_eq_true, decide_eq_true_eq] at this
    exact ⟨by omega, by omega⟩
  · unfold flat
    rw [List.pairwise_map]
    have := h.nd
    rw [List.Nodup, List.pairwise_map] at this
    exact this.imp fun {a b} hab hh => hab (Prod.ext hh.1 hh.2)
theorem flat_id {m : Mp} (h : InvM m) : ∀ e ∈ flat m, e.2.1.length = 32 := by
  intro e he
  obtain ⟨p, hp, rfl⟩ := List.mem_map.1 he
  exact (h.ok p hp).2
/-- What the index lists. -/
def srt (l : List Ent) : List Ent := l.mergeSort fun x y => !decide (ordK y x < 0)
theorem plist_run {n : Nat} (hn : 1000 ≤ n) {m : Mp} (h : InvM m) (hm : m.length ≤ 900) : (F_index_Index_List n m).run = some (srt (flat m)) := by
  unfold F_index_Index_List D_list
  rw [if_pos ⟨by omega, by omega⟩]
  unfold sortF
  have e : m.map kflat = flat m := rfl
  rw [e, if_pos ⟨flat_good h, by rw [flat_len]; omega⟩]
  rfl
theorem same_loop (n : Nat) (l : List Ent) (hl : l.length ≤ 100000) : ∀ (k i : Nat), l.length < i + k → i ≤ l.length → (F_r20_Same_l0 n k (i : Int) l l).run = some (.inr ())
  | 0, i, h, h' => by omega
  | k + 1, i, h, h' => by
    unfold F_r20_Same_l0
    by_cases hi : i < l.length
    · have e1 : decide ((i : Int) < (l.length : Int)) = true := by simp; omega
      have e2 : l[0 + i]? = some l[i] := by rw [Nat.zero_add]; exact List.getElem?_eq_getElem hi
      have e3 : ∀ t : Ty, ∀ x : t.den, eqV t x x = true := fun t x => eqV_self
      simp only [Tree.run, e1, cond_true, inI_nat hi, Option.bind_some, e2, e3, Bool.not_true, cond_false]
      rw [wrap_succ hi (by omega), same_loop n l hl k (i + 1) (by omega) hi]
      rfl
    · have e1 : decide ((i : Int) < (l.length : Int)) = false := by simp; omega
      simp only [Tree.run, e1, cond_false]
theorem same_run {n : Nat} (l : List Ent) (hn : l.length < n) (hl : l.length ≤ 100000) : (F_r20_Same n l l).run = some true := by
  unfold F_r20_Same
  have e := same_loop n l hl n 0 (by omega) (by omega)
  rw [show ((0 : Nat) : Int) = (0 : Int) from rfl] at e
  simp only [Tree.run, decide_true, Bool.not_true, cond_false, e, Option.bind_some]
theorem srt_len (l : List Ent) : (srt l).length = l.length := List.length_mergeSort _
def fuel : List Ent → Nat
  | [] => 0
  | e :: l => e.2.2.1.length + fuel l
theorem fuel_le : ∀ {l : List Ent} {e : Ent}, e ∈ l → e.2.2.1.length ≤ fuel l
  | x :: l, e, h => by
    rcases List.mem_cons.1 h with rfl | h
    · exact Nat.le_add_right _ _
    · exact Nat.le_trans (fuel_le h) (Nat.le_add_left _ _)
theorem awake_run (n : Nat) : (F_w20_awake (n + 1000)).run = some true := by kernel_rfl
abbrev KTL : Ty := .list (.rcd (.pair (.sint .i64) (.pair (.arr 32 .u8) (.rcd (.pair .str (.pair (.sint .i64) (.sint .i64)))))))
theorem arg_facts {xs : List Ent} (g : KTL.ok xs) {n : Nat} (hf : fuel xs ≤ n) : xs.length ≤ 9223372036854775807 ∧ (∀ e ∈ xs, e.2.2.1.length < n + 1000) ∧ (∀ e ∈ xs, e.2.2.1.length ≤ 9223372036854775807) ∧ (∀ e ∈ xs, e.2.1.length = 32) := by
  refine ⟨Nat.le_trans g.1 (by decide), fun e he => by have := fuel_le he; omega, fun e he => Nat.le_trans (g.2 e he).2.2.1 (by decide), fun e he => (g.2 e he).2.1.1⟩
end Go.Proofs.Ytcipfbabjbcfkaa
