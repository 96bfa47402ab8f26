/- EntropyCopies in plain words: what the printed functions come to. -/
import Derived.Test.YtkpbpjmbkhkmnaaEC
import Derived.Test.YtkpbpjmbkhkmnaaXk
set_option linter.unusedVariables false
set_option linter.unusedSimpArgs false
namespace Go.Proofs.Ytkpbpjmbkhkmnaa
open Hyp
section
variable {α β γ : Type}
theorem r_ret (a : α) : (Tree.ret a).run = some a := rfl
theorem r_ite (b : Bool) (x y : Tree α) : (Tree.ite b x y).run = bif b then x.run else y.run := rfl
theorem r_get (o : Option β) (k : β → Tree α) : (Tree.get o k).run = o.bind fun y => (k y).run := rfl
theorem r_sub (t : Tree β) (k : β → Tree α) : (Tree.sub t k).run = t.run.bind fun y => (k y).run := rfl
theorem r_inl (y : β) (k : β → Tree α) (l : γ → Tree α) : (Tree.alt (.inl y) k l).run = (k y).run := rfl
theorem r_inr (y : γ) (k : β → Tree α) (l : γ → Tree α) : (Tree.alt (.inr y) k l).run = (l y).run := rfl
end
/-- A place of a list. -/
theorem inI_lt {n i : Nat} (h : i < n) : inI n (i : Int) = some i := by
  unfold inI
  rw [if_pos ⟨by omega, by omega⟩]
  simp
theorem turns (g : Nat → Int → Int → List UInt8 → Tree (List UInt8)) (N : Nat) (hN : N ≤ 1000000)
    (h0 : ∀ k (m : Int) (i : Int) x, (g (k + 1) m i x).run = bif decide (i < m) then (inI x.length i).bind fun a => (x[0 + a]?).bind fun y => (inI x.length i).bind fun c => (x[0 + c]?).bind fun _ => (g k m (w64 (i + 1)) (x.set (0 + c) (y + 1))).run.bind fun z => some z else some x) :
    ∀ (d k i : Nat) (x : List UInt8), x.length = N → i + d = N → d < k → ∃ z, (g k (N : Int) (i : Int) x).run = some z := by
  intro d
  induction d with
  | zero =>
    intro k i x hx hd hk
    obtain ⟨j, rfl⟩ : ∃ j, k = j + 1 := ⟨k - 1, by omega⟩
    rw [h0]
    have : decide ((i : Int) < (N : Int)) = false := by simp; omega
    rw [this]
    exact ⟨x, rfl⟩
  | succ d ih =>
    intro k i x hx hd hk
    obtain ⟨j, rfl⟩ : ∃ j, k = j + 1 := ⟨k - 1, by omega⟩
    rw [h0]
    have : decide ((i : Int) < (N : Int)) = true := by simp; omega
    have hi : i < x.length := by omega
    rw [this, inI_lt hi]
    simp only [cond_true, Option.bind_some, Nat.zero_add, List.getElem?_eq_getElem hi]
    rw [show w64 ((i : Int) + 1) = ((i + 1 : Nat) : Int) from (w64_id (by omega) (by omega)).trans (by omega)]
    obtain ⟨z, hz⟩ := ih j (i + 1) (x.set i (x[i] + 1)) (by simp [hx]) (by omega) (by omega)
    exact ⟨z, by rw [hz]; rfl⟩
theorem does_l0 (n k : Nat) (x : List UInt8) (hx : x.length ≤ 1000000) (hk : x.length < k) : ∃ z, (F_hypogeumlaw08_does_l0 n k (x.length : Int) 0 x).run = some z :=
  turns (F_hypogeumlaw08_does_l0 n) x.length hx (fun k m i x => rfl) x.length k 0 x rfl (by omega) hk
theorem does_l2 (n k : Nat) (x : List UInt8) (hx : x.length ≤ 1000000) (hk : x.length < k) : ∃ z, (F_hypogeumlaw08_does_l2_1 n k (x.length : Int) 0 x).run = some z :=
  turns (F_hypogeumlaw08_does_l2_1 n) x.length hx (fun k m i x => rfl) x.length k 0 x rfl (by omega) hk
theorem does_l2e (n k : Nat) : (F_hypogeumlaw08_does_l2 n (k + 1) 0 0).run = some () := rfl
theorem w64_nat (n : Nat) (h : n ≤ 9223372036854775807) : Go.IntKind.wrap Go.IntKind.i64 (n : Int) = n := w64_id (by omega) (by omega)
/-- What stands behind a step: the bytes, and how many are used. -/
def stepS (b : List UInt8) (u : Nat) (N : Int) (more : List UInt8) : List UInt8 × Nat :=
  if N < -9 then (b ++ more, u) else if N < 0 ∨ 4096 < N ∨ (b.length : Int) - u < N then (b, u) else (b, u + N.toNat)
theorem stepS_ok (b : List UInt8) (u : Nat) (N : Int) (more : List UInt8) (hu : u ≤ b.length) : (stepS b u N more).2 ≤ (stepS b u N more).1.length ∧ (stepS b u N more).1.length ≤ b.length + more.length := by
  unfold stepS
  split
  · simp; omega
  · split
    · exact ⟨hu, by simp⟩
    · simp; omega
theorem rest_is (n : Nat) (b : List UInt8) (u : Nat) (hb : b.length ≤ 1000000) (hu : u ≤ b.length) : (F_entropy_heap_rest n (u : Int) b).run = some ((b.length : Int) - u) := by
  show some (w64 _) = _
  rw [w64_id (by omega) (by omega)]
theorem draw_is (n : Nat) (b : List UInt8) (u : Nat) (N : Int) (hb : b.length ≤ 1000000) (hu : u ≤ b.length) :
    (F_entropy_Source_Draw n N (u : Int) b).run = some (if N < 0 ∨ 4096 < N then .inl 1 else if (b.length : Int) - u < N then .inl 9 else .inr ((b.drop u).take N.toNat, ((u + N.toNat : Nat) : Int))) := by
  unfold F_entropy_Source_Draw
  simp only [r_ite, r_ret, r_sub, r_get, rest_is n b u hb hu, Option.bind_some]
  by_cases h1 : N < 0 ∨ 4096 < N
  · rw [if_pos h1]
    have : (decide (N < 0) || decide ((4096 : Int) < N)) = true := by simpa using h1
    rw [this]; rfl
  · rw [if_neg h1]
    have : (decide (N < 0) || decide ((4096 : Int) < N)) = false := by simp; omega
    rw [this]
    by_cases h2 : (b.length : Int) - u < N
    · rw [if_pos h2]; simp [h2]
    · rw [if_neg h2]
      simp only [cond_false, decide_eq_false h2]
      obtain ⟨m, rfl⟩ : ∃ m : Nat, N = m := ⟨N.toNat, by omega⟩
      rw [show Go.IntKind.wrap Go.IntKind.i64 ((u : Int) + m) = ((u + m : Nat) : Int) from (w64_id (by omega) (by omega)).trans (by omega)]
      rw [if_pos ⟨by omega, by omega, by omega⟩]
      simp only [Option.bind_some, Int.toNat_natCast, Nat.zero_add]
      rw [appI_le (by simp; omega)]
      simp
theorem rdraw_is (n : Nat) (r : List UInt8) (u : Int) (N : Int) (hb : r.length ≤ 1000000) :
    (F_hypogeumref08_Source_Draw n r u N).run = some (if N < 0 ∨ 4096 < N then .inl 1 else if (r.length : Int) < N then .inl 9 else .inr (r.drop N.toNat, w64 (u + N), r.take N.toNat)) := by
  unfold F_hypogeumref08_Source_Draw
  simp only [r_ite, r_ret, r_get]
  by_cases h1 : N < 0 ∨ 4096 < N
  · rw [if_pos h1]
    have : (decide (N < 0) || decide ((4096 : Int) < N)) = true := by simpa using h1
    rw [this]; rfl
  · rw [if_neg h1]
    have : (decide (N < 0) || decide ((4096 : Int) < N)) = false := by simp; omega
    rw [this]
    by_cases h2 : (r.length : Int) < N
    · rw [if_pos h2]; simp [h2]
    · rw [if_neg h2]
      simp only [cond_false, decide_eq_false h2]
      obtain ⟨m, rfl⟩ : ∃ m : Nat, N = m := ⟨N.toNat, by omega⟩
      rw [subI_nat (by omega) (by omega)]
      have : subI r 0 (m : Int) = some ((r.drop 0).take (m - 0)) := subI_nat (a := 0) (by omega) (by omega)
      rw [this]
      have h3 : (r.drop m).take (r.length - m) = r.drop m := List.take_of_length_le (by simp)
      simp [h3]
/-- A step: whatever stands as the third of what is handed on. -/
theorem does_is (n : Nat) (hn : 100000 ≤ n) (c : Bool) (b : List UInt8) (u : Nat) (q : Int) (N : Int) (more : List UInt8) (hb : b.length ≤ 100000) (hu : u ≤ b.length) (hm : more.length ≤ 400) :
    ∃ c' q', (F_hypogeumlaw08_does n c (b.drop u) q N more (u : Int) b).run = some (c', (stepS b u N more).1.drop (stepS b u N more).2, q', true, ((stepS b u N more).2 : Int), (stepS b u N more).1) := by
  unfold F_hypogeumlaw08_does
  simp only [r_ite, r_ret, r_sub, r_get]
  by_cases h1 : N < -9
  · have hs : stepS b u N more = (b ++ more, u) := by rw [stepS, if_pos h1]
    rw [hs, decide_eq_true h1]
    simp only [cond_true]
    rw [appI_le (by simp; omega)]
    simp only [List.nil_append, Option.bind_some]
    have hmore : (F_entropy_Source_More n b more).run = some (b ++ more) := by
      unfold F_entropy_Source_More
      rw [r_get, appI_le (by omega)]; rfl
    obtain ⟨z, hz⟩ := does_l0 n n more (by omega) (by omega)
    have hrm : (F_hypogeumref08_Source_More n (b.drop u) more).run = some (b.drop u ++ more) := by
      unfold F_hypogeumref08_Source_More
      rw [r_get, appI_le (by simp; omega)]
      simp only [List.nil_append, Option.bind_some]
      rw [r_get, appI_le (by simp; omega)]; rfl
    rw [hmore, Option.bind_some, hz, Option.bind_some, hrm, Option.bind_some]
    exact ⟨_, _, by rw [List.drop_append_of_le_length hu]⟩
  · rw [decide_eq_false h1]
    simp only [cond_false]
    have hd := draw_is n b u N (by omega) hu
    have hr := rdraw_is n (b.drop u) q N (by simp; omega)
    have hl : ((b.drop u).length : Int) = (b.length : Int) - u := by simp; omega
    rw [hl] at hr
    rw [hd, Option.bind_some]
    unfold stepS
    rw [if_neg h1]
    have hl2 : (F_hypogeumlaw08_does_l2 n n 0 0).run = some () := by
      obtain ⟨j, rfl⟩ : ∃ j, n = j + 1 := ⟨n - 1, by omega⟩
      rfl
    by_cases h2 : N < 0 ∨ 4096 < N
    · rw [if_pos h2] at hr ⊢
      rw [if_pos (by rcases h2 with h | h <;> simp [h])]
      simp only [r_inl, r_inr, r_sub, r_ret, hr, hl2, Option.bind_some]
      exact ⟨_, _, rfl⟩
    · rw [if_neg h2] at hr ⊢
      by_cases h3 : (b.length : Int) - u < N
      · rw [if_pos h3] at hr ⊢
        rw [if_pos (.inr (.inr h3))]
        simp only [r_inl, r_inr, r_sub, r_ret, hr, hl2, Option.bind_some]
        exact ⟨_, _, rfl⟩
      · rw [if_neg h3] at hr ⊢
        rw [if_neg (by omega)]
        obtain ⟨z, hz⟩ := does_l2 n n ((b.drop u).take N.toNat) (by simp; omega) (by simp; omega)
        simp only [r_inl, r_inr, r_sub, r_ret, hr, hz, Option.bind_some]
        exact ⟨false, w64 (q + N), by simp [Nat.add_comm]⟩
theorem few_loop (n : Nat) (c : Bool) (l : List (Int × List UInt8)) (hl : l.length ≤ 1000) : ∀ (d k i : Nat), i + d = l.length → d < k →
    (F_hypogeumlaw08_few_l0 n k c l (l.length : Int) (i : Int)).run = some (if ∀ x ∈ l.drop i, x.2.length ≤ 400 then .inr () else .inl ()) := by
  intro d
  induction d with
  | zero =>
    intro k i hi hk
    obtain ⟨j, rfl⟩ : ∃ j, k = j + 1 := ⟨k - 1, by omega⟩
    have hd : l.drop i = [] := List.drop_eq_nil_of_le (by omega)
    rw [hd, if_pos (by simp)]
    unfold F_hypogeumlaw08_few_l0
    simp only [r_ite]
    rw [decide_eq_false (by omega)]; rfl
  | succ d ih =>
    intro k i hi hk
    obtain ⟨j, rfl⟩ : ∃ j, k = j + 1 := ⟨k - 1, by omega⟩
    have hil : i < l.length := by omega
    unfold F_hypogeumlaw08_few_l0
    simp only [r_ite, r_get, r_sub, r_ret]
    rw [decide_eq_true (by omega), getI_lt hil]
    simp only [cond_true, Option.bind_some]
    rw [show Go.IntKind.wrap Go.IntKind.i64 ((i : Int) + 1) = ((i + 1 : Nat) : Int) from (w64_id (by omega) (by omega)).trans (by omega)]
    rw [ih j (i + 1) (by omega) (by omega)]
    by_cases h1 : l[i].2.length ≤ 400
    · rw [decide_eq_false (by omega)]
      simp only [cond_false, Option.bind_some]
      by_cases h2 : ∀ x ∈ l.drop (i + 1), x.2.length ≤ 400
      · rw [if_pos h2, if_pos (by intro x hx; rw [List.drop_eq_getElem_cons hil] at hx; rcases List.mem_cons.1 hx with rfl | hx; exact h1; exact h2 x hx)]; rfl
      · rw [if_neg h2, if_neg (fun h => h2 fun x hx => h x (by rw [List.drop_eq_getElem_cons hil]; exact List.mem_cons_of_mem _ hx))]; rfl
    · have hneg : ¬ ∀ x ∈ l.drop i, x.2.length ≤ 400 := fun h => h1 (h l[i] (by rw [List.drop_eq_getElem_cons hil]; exact List.mem_cons_self))
      rw [decide_eq_true (by omega), if_neg hneg]
      simp only [cond_true]
theorem few_is (n : Nat) (hn : 1000 ≤ n) (b : List UInt8) (c : Bool) (l : List (Int × List UInt8)) : ∃ y, (F_hypogeumlaw08_few n b c l).run = some y ∧ (y = true → l.length ≤ 30 ∧ b.length ≤ 4000 ∧ ∀ d ∈ l, d.2.length ≤ 400) := by
  unfold F_hypogeumlaw08_few
  simp only [r_ite, r_ret, r_sub]
  by_cases h0 : 30 < l.length ∨ 4000 < b.length
  · refine ⟨false, ?_, fun h => by cases h⟩
    have : (decide ((30 : Int) < (l.length : Int)) || decide ((4000 : Int) < (b.length : Int))) = true := by simp; omega
    rw [this]; rfl
  · have : (decide ((30 : Int) < (l.length : Int)) || decide ((4000 : Int) < (b.length : Int))) = false := by simp; omega
    rw [this]
    have := few_loop n c l (by omega) l.length n 0 (by omega) (by omega)
    simp only [cond_false, show ((0 : Nat) : Int) = 0 from rfl, List.drop_zero] at this ⊢
    rw [this, Option.bind_some]
    by_cases h2 : ∀ x ∈ l, x.2.length ≤ 400
    · rw [if_pos h2]
      exact ⟨true, rfl, fun _ => ⟨by omega, by omega, h2⟩⟩
    · rw [if_neg h2]
      exact ⟨false, rfl, fun h => by cases h⟩
/-- The steps ahead of the copy. -/
theorem loop0 (n : Nat) (hn : 100000 ≤ n) (c0 : Bool) (l : List (Int × List UInt8)) (hl : l.length ≤ 1000) (hm : ∀ d ∈ l, d.2.length ≤ 400) : ∀ (d k i : Nat) (b : List UInt8) (u : Nat) (c : Bool) (q : Int), i + d = l.length → d < k → b.length + 400 * d ≤ 100000 → u ≤ b.length →
    ∃ (b' : List UInt8) (u' : Nat) (c' : Bool) (q' : Int), (F_hypogeumlaw08_EntropyCopies_l0 n k c0 l (l.length : Int) (i : Int) (u : Int) b c (b.drop u) q).run = some ((u' : Int), b', c', b'.drop u', q') ∧ u' ≤ b'.length ∧ b'.length ≤ b.length + 400 * d := by
  intro d
  induction d with
  | zero =>
    intro k i b u c q hi hk hb hu
    obtain ⟨j, rfl⟩ : ∃ j, k = j + 1 := ⟨k - 1, by omega⟩
    unfold F_hypogeumlaw08_EntropyCopies_l0
    simp only [r_ite]
    rw [decide_eq_false (by omega)]
    exact ⟨b, u, c, q, rfl, hu, by omega⟩
  | succ d ih =>
    intro k i b u c q hi hk hb hu
    obtain ⟨j, rfl⟩ : ∃ j, k = j + 1 := ⟨k - 1, by omega⟩
    have hil : i < l.length := by omega
    unfold F_hypogeumlaw08_EntropyCopies_l0
    simp only [r_ite, r_get, r_sub, r_ret]
    rw [decide_eq_true (by omega), getI_lt hil]
    simp only [cond_true, Option.bind_some]
    have hm2 := hm l[i] (List.getElem_mem hil)
    obtain ⟨c', q', h1⟩ := does_is n hn c b u q l[i].1 l[i].2 (by omega) hu hm2
    obtain ⟨k1, k2⟩ := stepS_ok b u l[i].1 l[i].2 hu
    rw [h1, Option.bind_some]
    rw [show Go.IntKind.wrap Go.IntKind.i64 ((i : Int) + 1) = ((i + 1 : Nat) : Int) from (w64_id (by omega) (by omega)).trans (by omega)]
    obtain ⟨b2, u2, c2, q2, g1, g2, g3⟩ := ih j (i + 1) (stepS b u l[i].1 l[i].2).1 (stepS b u l[i].1 l[i].2).2 c' q' (by omega) (by omega) (by omega) k1
    exact ⟨b2, u2, c2, q2, by rw [g1]; rfl, g2, by omega⟩
theorem loop2 (n : Nat) (hn : 100000 ≤ n) (c0 : Bool) (l : List (Int × List UInt8)) (hl : l.length ≤ 1000) (hm : ∀ d ∈ l, d.2.length ≤ 400) : ∀ (d k i : Nat) (b : List UInt8) (u : Nat) (c : Bool) (q : Int), i + d = l.length → d < k → b.length + 400 * d ≤ 100000 → u ≤ b.length →
    ∃ (b' : List UInt8) (u' : Nat) (c' : Bool) (q' : Int), (F_hypogeumlaw08_EntropyCopies_l2 n k c0 l (l.length : Int) (i : Int) (u : Int) b c (b.drop u) q).run = some (.inr ((u' : Int), b', c', b'.drop u', q')) ∧ u' ≤ b'.length ∧ b'.length ≤ b.length + 400 * d := by
  intro d
  induction d with
  | zero =>
    intro k i b u c q hi hk hb hu
    obtain ⟨j, rfl⟩ : ∃ j, k = j + 1 := ⟨k - 1, by omega⟩
    unfold F_hypogeumlaw08_EntropyCopies_l2
    simp only [r_ite]
    rw [decide_eq_false (by omega)]
    exact ⟨b, u, c, q, rfl, hu, by omega⟩
  | succ d ih =>
    intro k i b u c q hi hk hb hu
    obtain ⟨j, rfl⟩ : ∃ j, k = j + 1 := ⟨k - 1, by omega⟩
    have hil : i < l.length := by omega
    unfold F_hypogeumlaw08_EntropyCopies_l2
    simp only [r_ite, r_get, r_sub, r_ret]
    rw [decide_eq_true (by omega), getI_lt hil]
    simp only [cond_true, Option.bind_some]
    have hm2 := hm l[i] (List.getElem_mem hil)
    obtain ⟨c', q', h1⟩ := does_is n hn c b u q l[i].1 l[i].2 (by omega) hu hm2
    obtain ⟨k1, k2⟩ := stepS_ok b u l[i].1 l[i].2 hu
    rw [h1, Option.bind_some]
    rw [show Go.IntKind.wrap Go.IntKind.i64 ((i : Int) + 1) = ((i + 1 : Nat) : Int) from (w64_id (by omega) (by omega)).trans (by omega)]
    obtain ⟨b2, u2, c2, q2, g1, g2, g3⟩ := ih j (i + 1) (stepS b u l[i].1 l[i].2).1 (stepS b u l[i].1 l[i].2).2 c' q' (by omega) (by omega) (by omega) k1
    exact ⟨b2, u2, c2, q2, by simp only [Bool.not_true, cond_false]; rw [g1]; rfl, g2, by omega⟩
theorem loop4 (n : Nat) (hn : 100000 ≤ n) (c0 : Bool) (l : List (Int × List UInt8)) (hl : l.length ≤ 1000) (hm : ∀ d ∈ l, d.2.length ≤ 400) (lo : Nat) : ∀ (d k : Nat) (b : List UInt8) (u : Nat) (c : Bool) (q : Int), lo + d ≤ l.length → d < k → b.length + 400 * d ≤ 100000 → u ≤ b.length →
    ∃ (b' : List UInt8) (u' : Nat) (c' : Bool) (q' : Int), (F_hypogeumlaw08_EntropyCopies_l4 n k c0 l (lo : Int) (((lo + d : Nat) : Int) - 1) (u : Int) b c (b.drop u) q).run = some (.inr ((u' : Int), b', c', b'.drop u', q')) ∧ u' ≤ b'.length ∧ b'.length ≤ b.length + 400 * d := by
  intro d
  induction d with
  | zero =>
    intro k b u c q hi hk hb hu
    obtain ⟨j, rfl⟩ : ∃ j, k = j + 1 := ⟨k - 1, by omega⟩
    unfold F_hypogeumlaw08_EntropyCopies_l4
    simp only [r_ite]
    rw [decide_eq_false (by omega)]
    exact ⟨b, u, c, q, rfl, hu, by omega⟩
  | succ d ih =>
    intro k b u c q hi hk hb hu
    obtain ⟨j, rfl⟩ : ∃ j, k = j + 1 := ⟨k - 1, by omega⟩
    have hil : lo + d < l.length := by omega
    unfold F_hypogeumlaw08_EntropyCopies_l4
    simp only [r_ite, r_get, r_sub, r_ret]
    rw [show ((lo + (d + 1) : Nat) : Int) - 1 = ((lo + d : Nat) : Int) by omega]
    rw [decide_eq_true (by omega), getI_lt hil]
    simp only [cond_true, Option.bind_some]
    have hm2 := hm l[lo + d] (List.getElem_mem hil)
    obtain ⟨c', q', h1⟩ := does_is n hn c b u q l[lo + d].1 l[lo + d].2 (by omega) hu hm2
    obtain ⟨k1, k2⟩ := stepS_ok b u l[lo + d].1 l[lo + d].2 hu
    rw [h1, Option.bind_some]
    rw [show Go.IntKind.wrap Go.IntKind.i64 (((lo + d : Nat) : Int) - 1) = ((lo + d : Nat) : Int) - 1 from w64_id (by omega) (by omega)]
    obtain ⟨b2, u2, c2, q2, g1, g2, g3⟩ := ih j (stepS b u l[lo + d].1 l[lo + d].2).1 (stepS b u l[lo + d].1 l[lo + d].2).2 c' q' (by omega) (by omega) (by omega) k1
    exact ⟨b2, u2, c2, q2, by simp only [Bool.not_true, cond_false]; rw [g1]; rfl, g2, by omega⟩
theorem awake_true (n : Nat) : (F_hypogeumlaw08_awake n).run = some true := by rfl
theorem left_is (n : Nat) (b : List UInt8) (u : Nat) (hb : b.length ≤ 1000000) (hu : u ≤ b.length) : (F_entropy_Source_Left n (u : Int) b).run = some ((b.length : Int) - u) := by
  unfold F_entropy_Source_Left
  rw [r_sub, rest_is n b u hb hu]; rfl
/-- For every input. -/
theorem law_true (n : Nat) (hn : 100000 ≤ n) (c0 : Bool) (b : List UInt8) (c1 : Bool) (l : List (Int × List UInt8)) (a : UInt8) : (F_hypogeumlaw08_EntropyCopies n c0 b c1 l a).run = some true := by
  unfold F_hypogeumlaw08_EntropyCopies
  rw [r_sub]
  obtain ⟨y, hy, hf⟩ := few_is n (by omega) b c1 l
  rw [hy, Option.bind_some, r_ite]
  cases y with
  | false =>
    simp only [Bool.not_false, cond_true, r_sub, r_ret, awake_true, Option.bind_some]
  | true =>
    obtain ⟨hl, hb, hm⟩ := hf rfl
    simp only [Bool.not_true, cond_false, r_get, r_sub]
    rw [appI_le (by simp; omega)]
    simp only [List.nil_append, Option.bind_some]
    have hnew : (F_entropy_New n b).run = some b := by
      unfold F_entropy_New
      rw [r_get, appI_le (by simp; omega)]; rfl
    rw [hnew, Option.bind_some]
    rw [show Go.IntKind.wrap Go.IntKind.i64 ((l.length : Int) + 1) = ((l.length + 1 : Nat) : Int) from (w64_id (by omega) (by omega)).trans (by omega)]
    rw [show nz (decide (((l.length + 1 : Nat) : Int) = 0)) = some () by rw [decide_eq_false (by omega)]; rfl]
    rw [Option.bind_some]
    have hmod : Int.tmod (a.toNat : Int) ((l.length + 1 : Nat) : Int) = ((a.toNat % (l.length + 1) : Nat) : Int) := by
      rw [Int.tmod_eq_emod_of_nonneg (by omega)]; omega
    rw [hmod]
    generalize hs : a.toNat % (l.length + 1) = s
    have hsl : s ≤ l.length := by have := Nat.mod_lt a.toNat (show l.length + 1 > 0 by omega); omega
    rw [show subI l 0 (s : Int) = some ((l.drop 0).take (s - 0)) from subI_nat (a := 0) (by omega) hsl]
    simp only [Option.bind_some, List.drop_zero, Nat.sub_zero]
    obtain ⟨b1, u1, c2, q1, h1, h1u, h1b⟩ := loop0 n hn false (l.take s) (by simp; omega) (fun d hd => hm d (List.mem_of_mem_take hd)) (l.take s).length n 0 b 0 c0 0 (by omega) (by simp; omega) (by simp; omega) (by omega)
    have h1' : (F_hypogeumlaw08_EntropyCopies_l0 n n false (l.take s) ((l.take s).length : Int) 0 0 b c0 b 0).run = some ((u1 : Int), b1, c2, b1.drop u1, q1) := h1
    rw [h1', Option.bind_some]
    have hcopy : (F_entropy_Source_Copy n b1).run = some b1 := by
      unfold F_entropy_Source_Copy
      rw [r_get, appI_le (by simp at h1b ⊢; omega)]; rfl
    simp only [hcopy, Option.bind_some]
    rw [subI_nat hsl (Nat.le_refl _)]
    simp only [Option.bind_some]
    have htk : (l.drop s).take (l.length - s) = l.drop s := List.take_of_length_le (by simp)
    rw [htk]
    have hb1 : b1.length ≤ 4000 + 400 * 30 := by simp at h1b; omega
    obtain ⟨b2, u2, c3, q2, h2, h2u, h2b⟩ := loop2 n hn false (l.drop s) (by simp; omega) (fun d hd => hm d (List.mem_of_mem_drop hd)) (l.drop s).length n 0 b1 u1 c2 q1 (by omega) (by simp; omega) (by simp; omega) h1u
    have h2' : (F_hypogeumlaw08_EntropyCopies_l2 n n false (l.drop s) ((l.drop s).length : Int) 0 (u1 : Int) b1 c2 (b1.drop u1) q1).run = some (.inr ((u2 : Int), b2, c3, b2.drop u2, q2)) := h2
    rw [h2', Option.bind_some, r_inr, r_sub]
    obtain ⟨b3, u3, c4, q3, h3, h3u, h3b⟩ := loop4 n hn c1 l (by omega) hm s (l.length - s) n b1 u1 c2 q1 (by omega) (by omega) (by omega) h1u
    rw [show s + (l.length - s) = l.length by omega] at h3
    rw [show Go.IntKind.wrap Go.IntKind.i64 ((l.length : Int) - 1) = (l.length : Int) - 1 from w64_id (by omega) (by omega)]
    rw [h3, Option.bind_some, r_inr, r_sub, left_is n b2 u2 (by simp at h2b; omega) h2u]
    simp only [Option.bind_some, r_ite]
    rw [decide_eq_true (by simp; omega)]
    simp only [cond_true, r_sub]
    rw [left_is n b3 u3 (by omega) h3u]
    simp only [Option.bind_some, r_ite]
    rw [decide_eq_true (by simp; omega)]
    simp only [cond_true, r_sub, awake_true, Option.bind_some, r_ret]
end Go.Proofs.Ytkpbpjmbkhkmnaa
