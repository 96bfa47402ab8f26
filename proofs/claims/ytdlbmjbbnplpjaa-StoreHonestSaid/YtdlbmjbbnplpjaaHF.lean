/- The laws of the store in plain words: what they share. -/
import Derived.Test.YtdlbmjbbnplpjaaSH
import Derived.Test.YtdlbmjbbnplpjaaZD
import Derived.Test.YtdlbmjbbnplpjaaHN
set_option linter.unusedVariables false
set_option linter.unusedSimpArgs false
namespace Go.Proofs.Ytdlbmjbbnplpjaa
open Hyp
abbrev Ch := Int × Int × List UInt8 × List UInt8
abbrev Cl := List UInt8 × List UInt8 × Int
abbrev Vr := List UInt8 × Bool
abbrev Dst := Int × List UInt8 × List UInt8 × (Int × Int × Int) × List Ch
abbrev Ob := List (List UInt8 × List Vr)
abbrev VT : Ty := .list (.rcd (.pair (.list .u8) .bool))
/-! ### Steps -/
theorem R_ite_t {α : Type} {b : Bool} {x y : Tree α} {Q : α → Prop} (h : b = true) (hx : x.Runs Q) : (Tree.ite b x y).Runs Q := ⟨fun _ => hx, fun h2 => absurd (h.symm.trans h2) (by decide)⟩
theorem R_ite_f {α : Type} {b : Bool} {x y : Tree α} {Q : α → Prop} (h : b = false) (hx : y.Runs Q) : (Tree.ite b x y).Runs Q := ⟨fun h2 => absurd (h.symm.trans h2) (by decide), fun _ => hx⟩
theorem R_get {α β : Type} {o : Option β} {k : β → Tree α} {Q : α → Prop} (y : β) (h : o = some y) (hk : (k y).Runs Q) : (Tree.get o k).Runs Q := Exists.intro y (And.intro h hk)
theorem R_sub {α β : Type} {t : Tree β} {k : β → Tree α} {P : β → Prop} {Q : α → Prop} (h : t.Runs P) (hk : ∀ y, P y → (k y).Runs Q) : (Tree.sub t k).Runs Q := Tree.Runs.mono (t := t) h hk
theorem R_run {α β : Type} {t : Tree β} {k : β → Tree α} {a : β} {Q : α → Prop} (h : t.run = some a) (hk : (k a).Runs Q) : (Tree.sub t k).Runs Q := (Tree.runs_run (t := t) h).2 hk
theorem run_l {α β γ : Type} {y : β} {k : β → Tree α} {l : γ → Tree α} : (Tree.alt (.inl y) k l).run = (k y).run := rfl
theorem run_r {α β γ : Type} {y : γ} {k : β → Tree α} {l : γ → Tree α} : (Tree.alt (.inr y) k l).run = (l y).run := rfl
/-! ### Maps -/
section
variable {kt vt : Ty}
theorem eqV_d (x y : kt.den) [Decidable (x = y)] : eqV kt x y = decide (x = y) := by
  rw [Bool.eq_iff_iff, decide_eq_true_eq]; exact eqV_iff kt x y
theorem mget_put (s : List (kt.den × vt.den)) (y z : kt.den) (v : vt.den) [DecidableEq kt.den] : mget kt vt (mput kt vt s y v) z = if z = y then some v else mget kt vt s z := by
  induction s with
  | nil =>
    simp only [mput, mget, eqV_d]
    by_cases h : z = y <;> simp [h]
  | cons p s ih =>
    simp only [mput, mget, eqV_d]
    by_cases h : y = p.1
    · simp only [decide_eq_true h, cond_true, mget, eqV_d]
      by_cases h2 : z = y
      · simp [h2]
      · have : z ≠ p.1 := fun e => h2 (e.trans h.symm)
        simp [h2, this]
    · simp only [decide_eq_false h, cond_false, mget, eqV_d, ih]
      by_cases h2 : z = p.1
      · have : z ≠ y := fun e => h (e.symm.trans h2)
        simp [h2, this]
        intro h3; exact absurd h3.symm h
      · simp [h2]
theorem mget_mem {s : List (kt.den × vt.den)} {z : kt.den} [DecidableEq kt.den] : (mget kt vt s z).isSome = true ↔ z ∈ s.map (·.1) := by
  induction s with
  | nil => simp [mget]
  | cons p s ih =>
    simp only [mget, eqV_d, List.map_cons, List.mem_cons]
    by_cases h : z = p.1
    · simp [h]
    · simp only [decide_eq_false h, cond_false, ih]
      simp [h]
theorem mput_keys (s : List (kt.den × vt.den)) (y : kt.den) (v : vt.den) [DecidableEq kt.den] : (mput kt vt s y v).map (·.1) = if y ∈ s.map (·.1) then s.map (·.1) else s.map (·.1) ++ [y] := by
  induction s with
  | nil => simp [mput]
  | cons p s ih =>
    simp only [mput, eqV_d, List.map_cons, List.mem_cons]
    by_cases h : y = p.1
    · simp [h]
    · rw [decide_eq_false h, cond_false, List.map_cons, ih]
      simp only [h, false_or]
      split <;> simp
theorem mput_nodup {s : List (kt.den × vt.den)} {y : kt.den} {v : vt.den} [DecidableEq kt.den] (h : (s.map (·.1)).Nodup) : ((mput kt vt s y v).map (·.1)).Nodup := by
  rw [mput_keys]
  split
  · exact h
  · rename_i hy
    rw [List.nodup_append]
    exact ⟨h, List.pairwise_singleton _ _, fun a ha b hb e => by simp at hb; subst hb; subst e; exact hy ha⟩
theorem mput_len (s : List (kt.den × vt.den)) (y : kt.den) (v : vt.den) [DecidableEq kt.den] : (mput kt vt s y v).length ≤ s.length + 1 := by
  have := congrArg List.length (mput_keys s y v)
  simp only [List.length_map] at this
  rw [this]
  split <;> simp
theorem mdel_sub (s : List (kt.den × vt.den)) (y : kt.den) : (mdel kt vt s y).Sublist s := by
  induction s with
  | nil => exact List.Sublist.refl _
  | cons p s ih =>
    simp only [mdel]
    cases eqV kt y p.1
    · exact ih.cons_cons p
    · exact List.sublist_cons_self _ _
theorem mdel_nodup {s : List (kt.den × vt.den)} {y : kt.den} (h : (s.map (·.1)).Nodup) : ((mdel kt vt s y).map (·.1)).Nodup := h.sublist ((mdel_sub s y).map _)
theorem mget_del {s : List (kt.den × vt.den)} {y z : kt.den} [DecidableEq kt.den] (h : (s.map (·.1)).Nodup) : mget kt vt (mdel kt vt s y) z = if z = y then none else mget kt vt s z := by
  induction s with
  | nil => simp [mdel, mget]
  | cons p s ih =>
    rw [List.map_cons, List.nodup_cons] at h
    simp only [mdel, mget, eqV_d]
    by_cases h1 : y = p.1
    · simp only [decide_eq_true h1, cond_true]
      by_cases h2 : z = y
      · rw [if_pos h2]
        cases hm : mget kt vt s z with
        | none => rfl
        | some v =>
          have := mget_mem.1 (show (mget kt vt s z).isSome = true by rw [hm]; rfl)
          rw [h2, h1] at this
          exact absurd this h.1
      · have : z ≠ p.1 := fun e => h2 (e.trans h1.symm)
        simp [h2, this]
    · simp only [decide_eq_false h1, cond_false, mget, eqV_d, ih h.2]
      by_cases h2 : z = p.1
      · have : z ≠ y := fun e => h1 (e.symm.trans h2)
        simp [h2]
        intro e; exact absurd e.symm h1
      · simp [h2]
end
/-! ### Few -/
/-- A step that may be gone through. -/
def Fewd (d : Dst) : Prop := d.2.2.1.length ≤ 70000 ∧ d.2.2.2.2.length ≤ 20 ∧ ∀ c ∈ d.2.2.2.2, c.2.2.2.length ≤ 70000
theorem few2 (n : Nat) (b : Bool) (l : List Ch) (hl : l.length ≤ 20) : ∀ (k i : Nat) (s : Int), l.length < i + k → i ≤ l.length →
    (F_w16_few_l2 n k s b l (l.length : Int) (i : Int)).run = some (.inl ()) ∨ ∃ v, (F_w16_few_l2 n k s b l (l.length : Int) (i : Int)).run = some (.inr v) ∧ ∀ c ∈ l.drop i, c.2.2.2.length ≤ 70000
  | 0, i, s, h, h' => by omega
  | k + 1, i, s, h, h' => by
    unfold F_w16_few_l2
    by_cases hi : i < l.length
    · have e1 : decide ((i : Int) < (l.length : Int)) = true := by simp; omega
      simp only [Tree.run, e1, cond_true, getI_at' hi, Option.bind_some]
      by_cases hb : l[i].2.2.2.length ≤ 70000
      · have e2 : decide ((70000 : Int) < (l[i].2.2.2.length : Int)) = false := by simp; omega
        simp only [e2, cond_false]
        rw [wrap_succ hi (by omega)]
        rcases few2 n b l hl k (i + 1) (w64 (s + minI (l[i].2.2.2.length : Int) (200 : Int))) (by omega) hi with g | ⟨v, g, g2⟩
        · left; rw [g]; rfl
        · right
          refine ⟨v, by rw [g]; rfl, fun c hc => ?_⟩
          rw [List.drop_eq_getElem_cons hi] at hc
          rcases List.mem_cons.1 hc with rfl | hc
          · exact hb
          · exact g2 c hc
      · have e2 : decide ((70000 : Int) < (l[i].2.2.2.length : Int)) = true := by simp; omega
        left
        simp only [e2, cond_true]
    · have e1 : decide ((i : Int) < (l.length : Int)) = false := by simp; omega
      right
      refine ⟨s, by simp only [Tree.run, e1, cond_false], fun c hc => ?_⟩
      rw [List.drop_eq_nil_iff.2 (by omega)] at hc
      cases hc
theorem few0 (n : Nat) (hn : 60 ≤ n) (b : Bool) (l : List Dst) (hlen : l.length ≤ 9223372036854775807) : ∀ (k i : Nat) (s : Int), 41 < i + k → i ≤ l.length → i ≤ 41 →
    (F_w16_few_l0 n k b l s (i : Int)).run = some (.inl ()) ∨ ∃ v, (F_w16_few_l0 n k b l s (i : Int)).run = some (.inr v) ∧ (v ≤ 4000 → l.length ≤ 40 → ∀ d ∈ l.drop i, Fewd d)
  | 0, i, s, h, h', h2 => by omega
  | k + 1, i, s, h, h', h2 => by
    unfold F_w16_few_l0
    by_cases hc : i < l.length ∧ i ≤ 40 ∧ s ≤ 4000
    · obtain ⟨hi, hi2, hs⟩ := hc
      have e1 : (decide ((i : Int) < (l.length : Int)) && (decide ((i : Int) ≤ (40 : Int)) && decide (s ≤ (4000 : Int)))) = true := by simp; omega
      simp only [Tree.run, e1, cond_true, getI_at' hi, Option.bind_some]
      by_cases hb : l[i].2.2.2.2.length ≤ 20
      · have e2 : decide ((20 : Int) < (l[i].2.2.2.2.length : Int)) = false := by simp; omega
        simp only [e2, cond_false]
        by_cases hb2 : l[i].2.2.1.length ≤ 70000
        · have e3 : decide ((70000 : Int) < (l[i].2.2.1.length : Int)) = false := by simp; omega
          simp only [e3, cond_false]
          rcases few2 n false l[i].2.2.2.2 hb n 0 (w64 (s + minI (l[i].2.2.1.length : Int) (200 : Int))) (by omega) (by omega) with g | ⟨v, g, g2⟩
          · left
            rw [show ((0 : Nat) : Int) = (0 : Int) from rfl] at g
            rw [g]; rfl
          · rw [show ((0 : Nat) : Int) = (0 : Int) from rfl] at g
            rw [g]
            simp only [Option.bind_some, Tree.run]
            rw [wrap_succ hi hlen]
            rcases few0 n hn b l hlen k (i + 1) v (by omega) hi (by omega) with q | ⟨v2, q, q2⟩
            · left; rw [q]; rfl
            · right
              refine ⟨v2, by rw [q]; rfl, fun hv hl d hd => ?_⟩
              rw [List.drop_eq_getElem_cons hi] at hd
              rcases List.mem_cons.1 hd with rfl | hd
              · exact ⟨hb2, hb, fun c hc => g2 c (by rw [List.drop_zero]; exact hc)⟩
              · exact q2 hv hl d hd
        · have e3 : decide ((70000 : Int) < (l[i].2.2.1.length : Int)) = true := by simp; omega
          left
          simp only [e3, cond_true]
      · have e2 : decide ((20 : Int) < (l[i].2.2.2.2.length : Int)) = true := by simp; omega
        left
        simp only [e2, cond_true]
    · have e1 : (decide ((i : Int) < (l.length : Int)) && (decide ((i : Int) ≤ (40 : Int)) && decide (s ≤ (4000 : Int)))) = false := by
        simp only [Bool.and_eq_false_iff, decide_eq_false_iff_not]; omega
      right
      refine ⟨s, by simp only [Tree.run, e1, cond_false], fun hv hl d hd => ?_⟩
      rw [List.drop_eq_nil_iff.2 (by omega)] at hd
      cases hd
theorem few_run {n : Nat} (hn : 60 ≤ n) (b : Bool) (l : List Dst) (hlen : l.length ≤ 9223372036854775807) : ∃ r, (F_w16_few n b l).run = some r ∧ (r = true → l.length ≤ 40 ∧ ∀ d ∈ l, Fewd d) := by
  unfold F_w16_few
  rcases few0 n hn b l hlen n 0 0 (by omega) (by omega) (by omega) with g | ⟨v, g, g2⟩
  · rw [show ((0 : Nat) : Int) = (0 : Int) from rfl] at g
    refine ⟨false, ?_, by simp⟩
    simp only [Tree.run, g, Option.bind_some]
  · rw [show ((0 : Nat) : Int) = (0 : Int) from rfl] at g
    refine ⟨decide ((l.length : Int) ≤ 40) && decide (v ≤ 4000), by simp only [Tree.run, g, Option.bind_some], fun h => ?_⟩
    simp only [Bool.and_eq_true, decide_eq_true_eq] at h
    have hl : l.length ≤ 40 := by have := h.1; omega
    refine ⟨hl, fun d hd => g2 h.2 hl d (by rw [List.drop_zero]; exact hd)⟩
end Go.Proofs.Ytdlbmjbbnplpjaa
