/- The laws of entropy in plain words: what the printed functions come to. -/
import Derived.Test.YtkpbpjmbkhkmnaaP0
import Derived.Test.YtkpbpjmbkhkmnaaXk
set_option linter.unusedVariables false
set_option linter.unusedSimpArgs false
namespace Go.Proofs.Ytkpbpjmbkhkmnaa
open Hyp
theorem evNow {α : Type} {f : Nat → Option α} {r : α} (h : ∀ k, f (k + 1) = some r) : Ev f r := by
  refine ⟨1, fun k hk => ?_⟩
  obtain ⟨j, rfl⟩ : ∃ j, k = j + 1 := ⟨k - 1, by omega⟩
  exact h j
/-- A loop that adds one to each byte ends. -/
theorem turns (g : Nat → List UInt8 → Int → Option Unit) (n : Nat) (hn : n ≤ 1000000)
    (h0 : ∀ k x i, g (k + 1) x i = if decide (i < (n : Int)) = true then (getI x i).bind fun y => (getI x i).bind fun z => g k (x.set (Int.toNat i) (y + 1)) (w64 (i + 1)) else some ()) :
    ∀ (d i : Nat) (x : List UInt8), x.length = n → n - i = d → Ev (fun k => g k x (i : Int)) () := by
  intro d
  induction d with
  | zero =>
    intro i x hx hd
    refine evNow fun k => ?_
    show g (k + 1) x i = _
    rw [h0, if_neg (by simp; omega)]
  | succ d ih =>
    intro i x hx hd
    have hi : i < x.length := by omega
    refine (ih (i + 1) (x.set i (x[i] + 1)) (by simp [hx]) (by omega)).succ fun k => ?_
    rw [h0, if_pos (by simp; omega), getI_lt hi]
    simp only [Option.bind_some, Int.toNat_natCast]
    rw [w64_id (by omega) (by omega)]
    rfl
theorem does_l0 (y : List UInt8) (hy : y.length ≤ 1000000) : Ev (fun k => F_hypogeumlaw08_does_l0 y k y 0) () :=
  turns (F_hypogeumlaw08_does_l0 y) y.length hy (fun k x i => by rw [F_hypogeumlaw08_does_l0]) y.length 0 y rfl rfl
theorem does_l1 (r : List UInt8 × Int × List UInt8 × Int) (hy : r.1.length ≤ 1000000) : Ev (fun k => F_hypogeumlaw08_does_l1 r k r.1 0) () :=
  turns (F_hypogeumlaw08_does_l1 r) r.1.length hy (fun k x i => by rw [F_hypogeumlaw08_does_l1]) r.1.length 0 r.1 rfl rfl
theorem draws_l0 (y : List UInt8) (hy : y.length ≤ 1000000) : Ev (fun k => F_hypogeumlaw08_EntropyDraws_l0 y k y 0) () :=
  turns (F_hypogeumlaw08_EntropyDraws_l0 y) y.length hy (fun k x i => by rw [F_hypogeumlaw08_EntropyDraws_l0]) y.length 0 y rfl rfl
theorem awake_true : F_hypogeumlaw08_awake = some true := by decide
theorem app_some {α : Type} {N : Nat} {l m : List α} (h : l.length + m.length ≤ N) : appI N l m = some (l ++ m) := appI_le h
/-- What stands behind a step: the bytes, and how many are used. -/
def stepS (b : List UInt8) (u : Nat) (N : Int) (more : List UInt8) : List UInt8 × Nat :=
  if N < -9 then (b ++ more, u) else if N < 0 ∨ 4096 < N ∨ (b.length : Int) - u < N then (b, u) else (b, u + N.toNat)
theorem stepS_ok (b : List UInt8) (u : Nat) (N : Int) (more : List UInt8) (hu : u ≤ b.length) : (stepS b u N more).2 ≤ (stepS b u N more).1.length ∧ (stepS b u N more).1.length ≤ b.length + more.length := by
  unfold stepS
  split
  · simp; omega
  · split
    · exact ⟨hu, by simp⟩
    · simp; omega
theorem rest_is (b : List UInt8) (u : Nat) (hb : b.length ≤ 1000000) (hu : u ≤ b.length) : F_entropy_heap_rest b u = some ((b.length : Int) - u) := by
  rw [F_entropy_heap_rest]
  rw [w64_id (by omega) (by omega)]
/-- What is drawn. -/
theorem draw_is (b : List UInt8) (u : Nat) (N : Int) (hb : b.length ≤ 1000000) (hu : u ≤ b.length) :
    F_entropy_Source_Draw b u N = some (if N < 0 ∨ 4096 < N then ([], 1, b, (u : Int)) else if (b.length : Int) - u < N then ([], 9, b, (u : Int)) else ((b.drop u).take N.toNat, 0, b, ((u + N.toNat : Nat) : Int))) := by
  rw [F_entropy_Source_Draw]
  by_cases h1 : N < 0 ∨ 4096 < N
  · rw [if_pos (by simpa using h1), if_pos h1]
  · rw [if_neg (by simpa using h1), if_neg h1, rest_is b u hb hu]
    simp only [Option.bind_some]
    by_cases h2 : (b.length : Int) - u < N
    · rw [if_pos (by simpa using h2), if_pos h2]
    · rw [if_neg (by simpa using h2), if_neg h2]
      obtain ⟨n, rfl⟩ : ∃ n : Nat, N = n := ⟨N.toNat, by omega⟩
      rw [w64_id (by omega) (by omega)]
      have : (u : Int) + n = ((u + n : Nat) : Int) := by omega
      rw [this, subI_nat (by omega) (by omega)]
      simp only [Option.bind_some]
      rw [appI_le (by simp; omega)]
      simp
theorem rdraw_is (r : List UInt8) (u : Nat) (N : Int) (hb : r.length ≤ 1000000) (hu : u ≤ 1000000) :
    F_hypogeumref08_Source_Draw r u N = some (if N < 0 ∨ 4096 < N then (r, (u : Int), [], 1) else if (r.length : Int) < N then (r, (u : Int), [], 9) else (r.drop N.toNat, ((u + N.toNat : Nat) : Int), r.take N.toNat, 0)) := by
  rw [F_hypogeumref08_Source_Draw]
  by_cases h1 : N < 0 ∨ 4096 < N
  · rw [if_pos (by simpa using h1), if_pos h1]
  · rw [if_neg (by simpa using h1), if_neg h1]
    by_cases h2 : (r.length : Int) < N
    · rw [if_pos (by simpa using h2), if_pos h2]
    · rw [if_neg (by simpa using h2), if_neg h2]
      obtain ⟨n, rfl⟩ : ∃ n : Nat, N = n := ⟨N.toNat, by omega⟩
      rw [w64_id (by omega) (by omega), subI_nat (by omega) (by omega)]
      have : subI r 0 (n : Int) = some ((r.drop 0).take (n - 0)) := subI_nat (a := 0) (by omega) (by omega)
      rw [this]
      have h3 : (r.drop n).take (r.length - n) = r.drop n := List.take_of_length_le (by simp)
      simp [h3]
theorem does_is (b : List UInt8) (u : Nat) (N : Int) (more : List UInt8) (hb : b.length ≤ 100000) (hu : u ≤ b.length) (hm : more.length ≤ 400) :
    Ev (fun k => F_hypogeumlaw08_does k b u (b.drop u) u N more) ((stepS b u N more).1.drop (stepS b u N more).2, ((stepS b u N more).2 : Int), true, (stepS b u N more).1, ((stepS b u N more).2 : Int)) := by
  by_cases h1 : N < -9
  · have hs : stepS b u N more = (b ++ more, u) := by rw [stepS, if_pos h1]
    rw [hs]
    refine (Ev.bind (does_l0 more (by omega)) (g := fun k _ => some ((b ++ more).drop u, (u : Int), true, b ++ more, (u : Int))) (Ev.of fun _ => rfl)).congr fun k => ?_
    rw [F_hypogeumlaw08_does, if_pos (by simpa using h1), appI_le (by simp; omega)]
    simp only [List.nil_append, Option.bind_some, F_entropy_Source_More, F_hypogeumref08_Source_More]
    rw [appI_le (by omega)]
    simp only [Option.bind_some]
    congr 1
    funext _
    rw [appI_le (by simp; omega)]
    simp only [List.nil_append, Option.bind_some]
    rw [appI_le (by simp; omega)]
    simp only [Option.bind_some]
    rw [List.drop_append_of_le_length hu]
  · have hd := draw_is b u N (by omega) hu
    have hr := rdraw_is (b.drop u) u N (by simp; omega) (by omega)
    have hl : ((b.drop u).length : Int) = (b.length : Int) - u := by simp; omega
    rw [hl] at hr
    generalize hx : (if N < 0 ∨ 4096 < N then ([], 1, b, (u : Int)) else if (b.length : Int) - u < N then ([], 9, b, (u : Int)) else ((b.drop u).take N.toNat, 0, b, ((u + N.toNat : Nat) : Int)) : List UInt8 × Int × List UInt8 × Int) = x at hd
    have hxl : x.1.length ≤ 1000000 := by
      rw [← hx]
      split
      · simp
      · split
        · simp
        · simp; omega
    refine (Ev.bind (does_l1 x hxl) (g := fun k _ => some ((stepS b u N more).1.drop (stepS b u N more).2, ((stepS b u N more).2 : Int), true, (stepS b u N more).1, ((stepS b u N more).2 : Int))) (Ev.of fun _ => rfl)).congr fun k => ?_
    rw [F_hypogeumlaw08_does, if_neg (by simpa using h1), hd]
    simp only [Option.bind_some]
    rw [hr]
    simp only [Option.bind_some]
    congr 1
    funext _
    rw [← hx]
    unfold stepS
    rw [if_neg h1]
    by_cases h2 : N < 0 ∨ 4096 < N
    · rw [if_pos h2, if_pos h2, if_pos (by rcases h2 with h | h <;> simp [h])]
      simp
    · rw [if_neg h2, if_neg h2]
      by_cases h3 : (b.length : Int) - u < N
      · rw [if_pos h3, if_pos h3, if_pos (.inr (.inr h3))]
        simp
      · rw [if_neg h3, if_neg h3, if_neg (by omega)]
        simp [Nat.add_comm]
theorem few_is (b : List UInt8) (l : List (Int × List UInt8)) : Ev (fun k => F_hypogeumlaw08_few k b l) (decide (l.length ≤ 30 ∧ b.length ≤ 4000 ∧ ∀ d ∈ l, d.2.length ≤ 400)) := by
  by_cases h0 : 30 < l.length ∨ 4000 < b.length
  · refine Ev.of fun k => ?_
    rw [F_hypogeumlaw08_few, if_pos (by simp; omega)]
    congr 1
    symm
    rw [decide_eq_false_iff_not]
    omega
  · have key : ∀ (d i : Nat), l.length - i = d → Ev (fun k => F_hypogeumlaw08_few_l0 l k (i : Int)) (if (l.drop i).all (fun x => decide (x.2.length ≤ 400)) = true then .inl () else .inr false) := by
      intro d
      induction d with
      | zero =>
        intro i hd
        refine evNow fun k => ?_
        show F_hypogeumlaw08_few_l0 l (k + 1) (i : Int) = _
        rw [F_hypogeumlaw08_few_l0, if_neg (by simp; omega), List.drop_of_length_le (by omega), if_pos (by simp)]
      | succ d ih =>
        intro i hd
        have hi : i < l.length := by omega
        by_cases h1 : l[i].2.length ≤ 400
        · have : (l.drop i).all (fun x => decide (x.2.length ≤ 400)) = (l.drop (i + 1)).all (fun x => decide (x.2.length ≤ 400)) := by
            rw [List.drop_eq_getElem_cons hi, List.all_cons, decide_eq_true h1, Bool.true_and]
          rw [this]
          refine (ih (i + 1) (by omega)).succ fun k => ?_
          · show F_hypogeumlaw08_few_l0 l (k + 1) (i : Int) = F_hypogeumlaw08_few_l0 l k ((i + 1 : Nat) : Int)
            rw [F_hypogeumlaw08_few_l0, if_pos (by simp; omega), getI_lt hi]
            simp only [Option.bind_some]
            rw [if_neg (by simp; omega), w64_id (by omega) (by omega)]
            rfl
        · refine evNow fun k => ?_
          show F_hypogeumlaw08_few_l0 l (k + 1) (i : Int) = _
          rw [F_hypogeumlaw08_few_l0, if_pos (by simp; omega), getI_lt hi]
          simp only [Option.bind_some]
          rw [if_pos (by simp; omega), if_neg]
          rw [List.drop_eq_getElem_cons hi, List.all_cons, decide_eq_false h1, Bool.false_and]; decide
    have h1 := key l.length 0 rfl
    refine (Ev.bind h1 (g := fun k o => match o with | .inr r => some r | .inl _ => some true) (b := decide (l.length ≤ 30 ∧ b.length ≤ 4000 ∧ ∀ d ∈ l, d.2.length ≤ 400)) (Ev.of fun k => ?_)).congr fun k => ?_
    · simp only [List.drop_zero]
      by_cases h2 : ∀ x ∈ l, x.2.length ≤ 400
      · rw [if_pos (by simpa using h2)]
        simp only
        congr 1; symm; rw [decide_eq_true_iff]
        exact ⟨by omega, by omega, h2⟩
      · rw [if_neg (by simpa using h2)]
        simp only
        congr 1; symm; rw [decide_eq_false_iff_not]
        exact fun h => h2 h.2.2
    · rw [F_hypogeumlaw08_few, if_neg (by simp; omega)]
      rfl
theorem entropyDraws_true (b : List UInt8) (l : List (Int × List UInt8)) : ∃ k, F_hypogeumlaw08_EntropyDraws k b l = some true := by
  apply Ev.get
  by_cases hf : l.length ≤ 30 ∧ b.length ≤ 4000 ∧ ∀ d ∈ l, d.2.length ≤ 400
  · have hfew := few_is b l
    rw [decide_eq_true hf] at hfew
    have key : ∀ (d i : Nat) (c : List UInt8) (u : Nat), l.length - i = d → u ≤ c.length → c.length ≤ 4000 + 400 * i → Ev (fun k => F_hypogeumlaw08_EntropyDraws_l1 l k c u (c.drop u) u (i : Int)) (.inl ()) := by
      intro d
      induction d with
      | zero =>
        intro i c u hd hu hc
        refine evNow fun k => ?_
        show F_hypogeumlaw08_EntropyDraws_l1 l (k + 1) c u (c.drop u) u (i : Int) = _
        rw [F_hypogeumlaw08_EntropyDraws_l1, if_neg (by simp; omega)]
      | succ d ih =>
        intro i c u hd hu hc
        have hi : i < l.length := by omega
        have hm := hf.2.2 l[i] (List.getElem_mem hi)
        have h2 := does_is c u l[i].1 l[i].2 (by omega) hu hm
        have h3 := stepS_ok c u l[i].1 l[i].2 hu
        refine ((Ev.bind h2 (g := fun k r => if (!r.2.2.1) = true then some (.inr false) else (F_entropy_Source_Left r.2.2.2.1 r.2.2.2.2).bind fun r508 => if (!decide (r508 = (((r.1).length : Int)))) = true then some (.inr false) else (F_entropy_Source_Drawn r.2.2.2.1 r.2.2.2.2).bind fun r519 => if (!decide (r519 = r.2.1)) = true then some (.inr false) else F_hypogeumlaw08_EntropyDraws_l1 l k r.2.2.2.1 r.2.2.2.2 r.1 r.2.1 (w64 (i + 1))) (b := .inl ()) ?_)).succ fun k => ?_
        · refine (ih (i + 1) (stepS c u l[i].1 l[i].2).1 (stepS c u l[i].1 l[i].2).2 (by omega) h3.1 (by omega)).congr fun k => ?_
          simp only [Bool.not_true, Bool.false_eq_true, if_false, F_entropy_Source_Left, F_entropy_Source_Drawn]
          rw [rest_is _ _ (by omega) h3.1]
          simp only [Option.bind_some]
          rw [if_neg (by simp; omega), if_neg (by simp), w64_id (by omega) (by omega)]
          rfl
        · show F_hypogeumlaw08_EntropyDraws_l1 l (k + 1) c u (c.drop u) u (i : Int) = _
          rw [F_hypogeumlaw08_EntropyDraws_l1, if_pos (by simp; omega), getI_lt hi]
          rfl
    have h1 := key l.length 0 b 0 rfl (by omega) (by omega)
    have h2 : Ev (fun k => (F_hypogeumlaw08_EntropyDraws_l1 l k b 0 b 0 0).bind fun o => match o with | .inr r => some r | .inl _ => (F_hypogeumlaw08_awake).bind fun r => some r) true :=
      Ev.bind h1 (Ev.of fun k => by rw [awake_true]; rfl)
    have h3 := Ev.bind (draws_l0 b (by omega)) (g := fun k _ => (F_hypogeumlaw08_EntropyDraws_l1 l k b 0 b 0 0).bind fun o => match o with | .inr r => some r | .inl _ => (F_hypogeumlaw08_awake).bind fun r => some r) h2
    obtain ⟨k1, h4⟩ := hfew
    obtain ⟨k2, h5⟩ := h3
    refine ⟨max k1 k2, fun k hk => ?_⟩
    show F_hypogeumlaw08_EntropyDraws k b l = _
    have h4 : F_hypogeumlaw08_few k b l = some true := h4 k (by omega)
    rw [F_hypogeumlaw08_EntropyDraws, h4, Option.bind_some, if_neg (by decide), appI_le (by simp; omega), List.nil_append, Option.bind_some, F_entropy_New, appI_le (by simp; omega), List.nil_append, Option.bind_some, Option.bind_some]
    exact h5 k (by omega)
  · have hfew := few_is b l
    rw [decide_eq_false hf] at hfew
    obtain ⟨k1, h4⟩ := hfew
    refine ⟨k1, fun k hk => ?_⟩
    show F_hypogeumlaw08_EntropyDraws k b l = _
    have h4 : F_hypogeumlaw08_few k b l = some false := h4 k (by omega)
    rw [F_hypogeumlaw08_EntropyDraws, h4, Option.bind_some, if_pos (by decide), awake_true]
    rfl

/-- One step of the walk through EntropyOnce: drawn is always a beginning of all. -/
theorem once_l0 (l : List (Int × List UInt8)) (hl : l.length ≤ 30) (hm : ∀ d ∈ l, d.2.length ≤ 400) : ∀ (d i : Nat) (c : List UInt8) (u : Nat), l.length - i = d → u ≤ c.length → c.length ≤ 4000 + 400 * i →
    ∃ (c' : List UInt8) (u' : Nat), u' ≤ c'.length ∧ c'.length ≤ 4000 + 400 * max i l.length ∧ Ev (fun k => F_hypogeumlaw08_EntropyOnce_l0 l k c u c (c.take u) (i : Int)) (.inl (c', (u' : Int), c', c'.take u')) := by
  intro d
  induction d with
  | zero =>
    intro i c u hd hu hc
    refine ⟨c, u, hu, by omega, evNow fun k => ?_⟩
    show F_hypogeumlaw08_EntropyOnce_l0 l (k + 1) c u c (c.take u) (i : Int) = _
    rw [F_hypogeumlaw08_EntropyOnce_l0, if_neg (by simp; omega)]
  | succ d ih =>
    intro i c u hd hu hc
    have hi : i < l.length := by omega
    have hmi := hm l[i] (List.getElem_mem hi)
    by_cases h1 : l[i].1 < -9
    · obtain ⟨c', u', h2, h3, h4⟩ := ih (i + 1) (c ++ l[i].2) u (by omega) (by simp; omega) (by simp; omega)
      refine ⟨c', u', h2, by omega, h4.succ fun k => ?_⟩
      show F_hypogeumlaw08_EntropyOnce_l0 l (k + 1) c u c (c.take u) (i : Int) = _
      rw [F_hypogeumlaw08_EntropyOnce_l0, if_pos (by simp; omega), getI_lt hi, Option.bind_some, if_pos (by simpa using h1), appI_le (by simp; omega), List.nil_append, Option.bind_some, F_entropy_Source_More,
        appI_le (by omega), Option.bind_some, Option.bind_some, Option.bind_some, w64_id (by omega) (by omega), List.take_append_of_le_length hu]
      rfl
    · have hd := draw_is c u l[i].1 (by omega) hu
      by_cases h2 : l[i].1 < 0 ∨ 4096 < l[i].1
      · rw [if_pos h2] at hd
        obtain ⟨c', u', h2, h3, h4⟩ := ih (i + 1) c u (by omega) hu (by omega)
        refine ⟨c', u', h2, by omega, h4.succ fun k => ?_⟩
        show F_hypogeumlaw08_EntropyOnce_l0 l (k + 1) c u c (c.take u) (i : Int) = _
        rw [F_hypogeumlaw08_EntropyOnce_l0, if_pos (by simp; omega), getI_lt hi, Option.bind_some, if_neg (by simpa using h1), F_entropy_Source_Left, rest_is c u (by omega) hu, Option.bind_some, Option.bind_some, hd, Option.bind_some,
          appI_le (by simp; omega), Option.bind_some, if_pos (by simp), if_neg (by simp), F_entropy_Source_Left, rest_is c u (by omega) hu, Option.bind_some, Option.bind_some, if_neg (by simp), if_neg (by simp), w64_id (by omega) (by omega), List.append_nil]
        rfl
      · rw [if_neg h2] at hd
        by_cases h3 : (c.length : Int) - u < l[i].1
        · rw [if_pos h3] at hd
          obtain ⟨c', u', h2, h3, h4⟩ := ih (i + 1) c u (by omega) hu (by omega)
          refine ⟨c', u', h2, by omega, h4.succ fun k => ?_⟩
          show F_hypogeumlaw08_EntropyOnce_l0 l (k + 1) c u c (c.take u) (i : Int) = _
          rw [F_hypogeumlaw08_EntropyOnce_l0, if_pos (by simp; omega), getI_lt hi, Option.bind_some, if_neg (by simpa using h1), F_entropy_Source_Left, rest_is c u (by omega) hu, Option.bind_some, Option.bind_some, hd, Option.bind_some,
            appI_le (by simp; omega), Option.bind_some, if_pos (by simp), if_neg (by simp), F_entropy_Source_Left, rest_is c u (by omega) hu, Option.bind_some, Option.bind_some, if_neg (by simp), if_neg (by simp), w64_id (by omega) (by omega), List.append_nil]
          rfl
        · rw [if_neg h3] at hd
          obtain ⟨n, hn⟩ : ∃ n : Nat, l[i].1 = n := ⟨l[i].1.toNat, by omega⟩
          obtain ⟨c', u', h4, h5, h6⟩ := ih (i + 1) c (u + n) (by omega) (by omega) (by omega)
          refine ⟨c', u', h4, by omega, h6.succ fun k => ?_⟩
          show F_hypogeumlaw08_EntropyOnce_l0 l (k + 1) c u c (c.take u) (i : Int) = _
          rw [F_hypogeumlaw08_EntropyOnce_l0, if_pos (by simp; omega), getI_lt hi, Option.bind_some, if_neg (by simpa using h1), F_entropy_Source_Left, rest_is c u (by omega) hu, Option.bind_some, Option.bind_some, hd, Option.bind_some,
            appI_le (by simp; omega), Option.bind_some, if_neg (by simp), if_pos (by simp), if_neg (by simp; omega), w64_id (by omega) (by omega)]
          rw [hn, Int.toNat_natCast, ← List.take_add]
          rfl
theorem entropyOnce_true (b : List UInt8) (l : List (Int × List UInt8)) : ∃ k, F_hypogeumlaw08_EntropyOnce k b l = some true := by
  apply Ev.get
  by_cases hf : l.length ≤ 30 ∧ b.length ≤ 4000 ∧ ∀ d ∈ l, d.2.length ≤ 400
  · have hfew := few_is b l
    rw [decide_eq_true hf] at hfew
    obtain ⟨c, u, hu, hc, h1⟩ := once_l0 l hf.1 hf.2.2 l.length 0 b 0 rfl (by omega) (by omega)
    obtain ⟨k1, h4⟩ := hfew
    obtain ⟨k2, h5⟩ := h1
    refine ⟨max k1 k2, fun k hk => ?_⟩
    show F_hypogeumlaw08_EntropyOnce k b l = _
    have h4 : F_hypogeumlaw08_few k b l = some true := h4 k (by omega)
    have h5 : F_hypogeumlaw08_EntropyOnce_l0 l k b 0 b [] 0 = _ := h5 k (by omega)
    have hlen : (c.take u).length = u := by simp; omega
    rw [F_hypogeumlaw08_EntropyOnce, h4, Option.bind_some, if_neg (by decide), appI_le (by simp; omega), List.nil_append, Option.bind_some, F_entropy_New, appI_le (by simp; omega), List.nil_append, Option.bind_some, Option.bind_some, Option.bind_some, h5, Option.bind_some]
    have hs : subI c 0 (u : Int) = some ((c.drop 0).take (u - 0)) := subI_nat (a := 0) (by omega) (by omega)
    simp only [hlen]
    rw [if_pos (by simp; omega), hs, Option.bind_some, if_pos (by simp), F_entropy_Source_Left, rest_is c u (by omega) hu, Option.bind_some, Option.bind_some, if_pos (by rw [w64_id (by omega) (by omega)]; simp), F_entropy_Source_Drawn, Option.bind_some, if_pos (by simp), awake_true]
    rfl
  · have hfew := few_is b l
    rw [decide_eq_false hf] at hfew
    obtain ⟨k1, h4⟩ := hfew
    refine ⟨k1, fun k hk => ?_⟩
    show F_hypogeumlaw08_EntropyOnce k b l = _
    have h4 : F_hypogeumlaw08_few k b l = some false := h4 k (by omega)
    rw [F_hypogeumlaw08_EntropyOnce, h4, Option.bind_some, if_pos (by decide), awake_true]
    rfl
theorem entropyNobody_true (n : Int) (b : List UInt8) (hb : b.length ≤ 140737488355328) : F_hypogeumlaw08_EntropyNobody n b = some true := by
  rw [F_hypogeumlaw08_EntropyNobody, appI_le (by simpa using hb), Option.bind_some, F_entropy_Source_More_nil, Option.bind_some, F_entropy_Source_Draw_nil]
  by_cases h : n < 0 ∨ 4096 < n
  · rw [if_pos (by simpa using h), Option.bind_some, if_pos (by simpa using h), if_pos (by decide), if_pos (by decide), F_entropy_Source_Left_nil, Option.bind_some, if_pos (by decide), F_entropy_Source_Drawn_nil, Option.bind_some, if_pos (by decide), F_entropy_Source_Copy_nil, Option.bind_some, awake_true]
    rfl
  · rw [if_neg (by simpa using h), Option.bind_some, if_neg (by simpa using h), if_pos (by decide), if_pos (by decide), F_entropy_Source_Left_nil, Option.bind_some, if_pos (by decide), F_entropy_Source_Drawn_nil, Option.bind_some, if_pos (by decide), F_entropy_Source_Copy_nil, Option.bind_some, awake_true]
    rfl
end Go.Proofs.Ytkpbpjmbkhkmnaa
