/- A shard of the index in plain words: read and told by both; IndexBytes. -/
import Derived.Test.YtdlbmjbbnplpjaaIG
set_option linter.unusedVariables false
set_option linter.unusedSimpArgs false
namespace Go.Proofs.Ytdlbmjbbnplpjaa
open Hyp
def RestC0 (m : Nat) (w : List Kn × List UInt8 × Int) (r : ((Int) × ((Bool) × ((List UInt8) × Int))) ⊕ (((List Kn) × ((Bool) × ((List UInt8) × Int))) ⊕ Unit)) : Prop :=
  (w.2.2 = 0 ∧ m = 0 ∧ r = .inr (.inr ())) ∨ (w.2.2 = 0 ∧ m ≠ 0 ∧ ∃ c, r = .inr (.inl (w.1, c, w.2))) ∨ (w.2.2 ≠ 0 ∧ ∃ x, r = .inl (w.2.2, x))
theorem cget_l0 {n : Nat} (hn : 9 < n) {z : Nat} (hz : z ≤ 4096) : ∀ (m k : Nat) (b : Bool) (s : List UInt8), m = z → m < k → s.length ≤ 140737488355328 →
    ∃ r, (F_index_Get_l0 n k (z : Int) 0 b s 0).run = some r ∧ RestC0 m (knM m s 0 []) r
  | m, 0, _, _, _, h, _ => by omega
  | 0, k + 1, b, s, hi, _, _ => by
    unfold F_index_Get_l0
    have e1 : decide ((0 : Int) < (z : Int)) = false := by simp; omega
    exact ⟨.inr (.inr ()), by simp only [Tree.run, e1, cond_false], .inl ⟨rfl, rfl, rfl⟩⟩
  | m + 1, k + 1, b, s, hi, hk, hs => by
    unfold F_index_Get_l0 knM F_codec_Scan_Err
    have e1 : decide ((0 : Int) < (z : Int)) = true := by simp; omega
    obtain ⟨b1, b2, t, h1, h2, h3, h4, h5⟩ := celem hn b hs 0
    have hf := (elemM_fine s 0).2
    have ha : ∀ x : Kn, appI 1954687338268 ([] : List Kn) (List.set ([zeroK] : List Kn) 0 x) = some [x] := fun x => appI_le (by simp)
    rw [if_neg (by decide)]
    simp only [Tree.run, e1, cond_true, h1, h2, h3, Option.bind_some]
    have tail : ∀ (b5 : Bool) (o : Option (((Int) × ((Bool) × ((List UInt8) × Int))) ⊕ (((List Kn) × ((Bool) × ((List UInt8) × Int))) ⊕ Unit))),
        ((elemM s 0).2.2 ≠ 0 → ∃ x, o = some (.inl ((elemM s 0).2.2, x))) →
        ((elemM s 0).2.2 = 0 → ∀ q, (F_index_Get_l0_1 n k (z : Int) (w64 ((0 : Int) + 1)) b5 (elemM s 0).2.1 0 [(elemM s 0).1]).run = some q →
          o = some (match q with
            | .inl y => .inl y
            | .inr (.inl _) => .inr (.inl ([(elemM s 0).1], b5, (elemM s 0).2.1, 0))
            | .inr (.inr (.inl y)) => .inl y
            | .inr (.inr (.inr y)) => .inr (.inl y))) →
        ∃ r, o = some r ∧ RestC0 (m + 1) (knM m (elemM s 0).2.1 (elemM s 0).2.2 [(elemM s 0).1]) r := by
      intro b5 o q1 q2
      by_cases he : (elemM s 0).2.2 = 0
      · obtain ⟨q, e4, hq⟩ := cget_l01 hn hz m k 1 b5 (elemM s 0).2.1 [(elemM s 0).1] (by omega) (by omega) rfl (by omega)
        have := q2 he q e4
        refine ⟨_, this, ?_⟩
        rw [he]
        rcases hq with ⟨g1, g2, rfl⟩ | ⟨g1, g2, c, rfl⟩ | ⟨g1, x, rfl | rfl⟩
        · subst g2
          exact .inr (.inl ⟨rfl, by omega, b5, rfl⟩)
        · exact .inr (.inl ⟨g1, by omega, c, rfl⟩)
        · exact .inr (.inr ⟨g1, x, rfl⟩)
        · exact .inr (.inr ⟨g1, x, rfl⟩)
      · obtain ⟨x, hx⟩ := q1 he
        refine ⟨_, hx, ?_⟩
        rw [knM_err m he]
        exact .inr (.inr ⟨he, x, rfl⟩)
    rcases t with ⟨c, r, e'⟩ | ⟨x, r⟩
    · obtain ⟨b4, b5, g1, g2, g3, g4, g5⟩ := h4 c r e' rfl
      refine tail b5 _ (fun he => ?_) (fun he q hq => ?_)
      · exact ⟨(b5, (elemM s 0).2.1, (elemM s 0).2.2), by simp only [run_l, Tree.run, g1, g2, Option.bind_some, decide_eq_false he, Bool.not_false, cond_true]⟩
      · have hE : (elemM s 0).2 = ((elemM s 0).2.1, 0) := Prod.ext rfl he
        rw [hE] at g2
        have hx : ((scanN s 0 1 3).1, (scanI (scanN s 0 1 3).2.1 (scanN s 0 1 3).2.2).1, ([] : List UInt8), (elemM s 0).1.2.2.2.1, (elemM s 0).1.2.2.2.2) = (elemM s 0).1 := by rw [← g3, ← g4, ← g5]
        simp only [run_l, Tree.run, g1, g2, Option.bind_some, he, decide_true, Bool.not_true, cond_false, ha, hx, hq]
        rcases q with y | _ | y | y <;> rfl
    · obtain ⟨b4, b5, g1, g2, g3, g4, g5⟩ := h5 x r rfl
      refine tail b5 _ (fun he => ?_) (fun he q hq => ?_)
      · exact ⟨(b5, (elemM s 0).2.1, (elemM s 0).2.2), by simp only [run_r, Tree.run, g1, g2, Option.bind_some, decide_eq_false he, Bool.not_false, cond_true]⟩
      · have hE : (elemM s 0).2 = ((elemM s 0).2.1, 0) := Prod.ext rfl he
        rw [hE] at g2
        have hx : ((scanN s 0 1 3).1, (scanI (scanN s 0 1 3).2.1 (scanN s 0 1 3).2.2).1, x, (elemM s 0).1.2.2.2.1, (elemM s 0).1.2.2.2.2) = (elemM s 0).1 := by rw [← g3, ← g4, ← g5]
        simp only [run_r, Tree.run, g1, g2, Option.bind_some, he, decide_true, Bool.not_true, cond_false, ha, hx, hq]
        rcases q with y | _ | y | y <;> rfl
/-! ### The document's -/
theorem relem {n : Nat} (hn : 40 < n) (b : Bool) {s : List UInt8} (hs : s.length ≤ 140737488355328) (e : Int) : ∃ (b1 b2 : Bool) (t : (Bool × List UInt8 × Int) ⊕ (List UInt8 × List UInt8)),
    (F_r17_Scan_Number n b s e 1 3).run = some ((scanN s e 1 3).1, b1, (scanN s e 1 3).2) ∧
    (F_r17_Scan_ID n b1 (scanN s e 1 3).2.1 (scanN s e 1 3).2.2).run = some ((scanI (scanN s e 1 3).2.1 (scanN s e 1 3).2.2).1, b2, (scanI (scanN s e 1 3).2.1 (scanN s e 1 3).2.2).2) ∧
    (F_r17_Scan_Text n b2 (scanI (scanN s e 1 3).2.1 (scanN s e 1 3).2.2).2.1 (scanI (scanN s e 1 3).2.1 (scanN s e 1 3).2.2).2.2 32).run = some t ∧
    (∀ c r e', t = .inl (c, r, e') → ∃ b4 b5, (F_r17_Scan_Number n c r e' 8 65536).run = some ((elemM s e).1.2.2.2.1, b4, (scanN r e' 8 65536).2) ∧
      (F_r17_Scan_Number n b4 (scanN r e' 8 65536).2.1 (scanN r e' 8 65536).2.2 28 65536).run = some ((elemM s e).1.2.2.2.2, b5, (elemM s e).2) ∧ (elemM s e).1.1 = (scanN s e 1 3).1 ∧ (elemM s e).1.2.1 = (scanI (scanN s e 1 3).2.1 (scanN s e 1 3).2.2).1 ∧ (elemM s e).1.2.2.1 = []) ∧
    (∀ x r, t = .inr (x, r) → ∃ b4 b5, (F_r17_Scan_Number n false r 0 8 65536).run = some ((elemM s e).1.2.2.2.1, b4, (scanN r 0 8 65536).2) ∧
      (F_r17_Scan_Number n b4 (scanN r 0 8 65536).2.1 (scanN r 0 8 65536).2.2 28 65536).run = some ((elemM s e).1.2.2.2.2, b5, (elemM s e).2) ∧ (elemM s e).1.1 = (scanN s e 1 3).1 ∧ (elemM s e).1.2.1 = (scanI (scanN s e 1 3).2.1 (scanN s e 1 3).2.2).1 ∧ (elemM s e).1.2.2.1 = x) := by
  obtain ⟨b1, h1⟩ := rnumber (n := n) (by omega) b (s := s) (by omega) e 1 3
  have l1 := scanN_len s e 1 3
  obtain ⟨b2, h2⟩ := rid (n := n) (by omega) b1 (s := (scanN s e 1 3).2.1) (scanN s e 1 3).2.2
  have l2 := (scanI_len (scanN s e 1 3).2.1 (scanN s e 1 3).2.2).2
  obtain ⟨b3, h3⟩ := rtextS (n := n) (by omega) b2 (s := (scanI (scanN s e 1 3).2.1 (scanN s e 1 3).2.2).2.1) (by omega) (scanI (scanN s e 1 3).2.1 (scanN s e 1 3).2.2).2.2 32
  obtain ⟨m1, m2⟩ := scanT_len (s := (scanI (scanN s e 1 3).2.1 (scanN s e 1 3).2.2).2.1) (e := (scanI (scanN s e 1 3).2.1 (scanN s e 1 3).2.2).2.2) (most := 32)
  refine ⟨b1, b2, _, h1, h2, h3, ?_, ?_⟩
  · intro c r e' ht
    have ht' : scanT (scanI (scanN s e 1 3).2.1 (scanN s e 1 3).2.2).2.1 (scanI (scanN s e 1 3).2.1 (scanN s e 1 3).2.2).2.2 32 = .inl (r, e') := by
      cases hq : scanT (scanI (scanN s e 1 3).2.1 (scanN s e 1 3).2.2).2.1 (scanI (scanN s e 1 3).2.1 (scanN s e 1 3).2.2).2.2 32 with
      | inl p => rw [hq] at ht; cases ht; rfl
      | inr p => rw [hq] at ht; cases ht
    have m1 := m1 _ _ ht'
    obtain ⟨b4, h4⟩ := rnumber (n := n) (by omega) c (s := r) (by omega) e' 8 65536
    have l4 := scanN_len r e' 8 65536
    obtain ⟨b5, h5⟩ := rnumber (n := n) (by omega) b4 (s := (scanN r e' 8 65536).2.1) (by omega) (scanN r e' 8 65536).2.2 28 65536
    refine ⟨b4, b5, ?_, ?_, rfl, rfl, ?_⟩
    · unfold elemM; simp only [ht']; exact h4
    · unfold elemM; simp only [ht']; exact h5
    · unfold elemM; simp only [ht']
  · intro x r ht
    have ht' : scanT (scanI (scanN s e 1 3).2.1 (scanN s e 1 3).2.2).2.1 (scanI (scanN s e 1 3).2.1 (scanN s e 1 3).2.2).2.2 32 = .inr (x, r) := by
      cases hq : scanT (scanI (scanN s e 1 3).2.1 (scanN s e 1 3).2.2).2.1 (scanI (scanN s e 1 3).2.1 (scanN s e 1 3).2.2).2.2 32 with
      | inl p => rw [hq] at ht; cases ht
      | inr p => rw [hq] at ht; cases ht; rfl
    have m2 := (m2 _ _ ht').1
    obtain ⟨b4, h4⟩ := rnumber (n := n) (by omega) false (s := r) (by omega) 0 8 65536
    have l4 := scanN_len r 0 8 65536
    obtain ⟨b5, h5⟩ := rnumber (n := n) (by omega) b4 (s := (scanN r 0 8 65536).2.1) (by omega) (scanN r 0 8 65536).2.2 28 65536
    refine ⟨b4, b5, ?_, ?_, rfl, rfl, ?_⟩
    · unfold elemM; simp only [ht']; exact h4
    · unfold elemM; simp only [ht']; exact h5
    · unfold elemM; simp only [ht']
theorem rget_l01 {n : Nat} (hn : 40 < n) {z : Nat} (hz : z ≤ 4096) : ∀ (m k i : Nat) (b : Bool) (s : List UInt8) (e : Int) (acc : List Kn), i + m = z → m < k → acc.length = i → s.length ≤ 140737488355328 →
    ∃ r, (F_r20_Get_l0_1 n k (z : Int) (i : Int) b s e acc).run = some r ∧ (if m = 0 ∨ e ≠ 0 then r = .inl () else ∃ c, r = .inr ((knM m s e acc).1, c, (knM m s e acc).2))
  | m, 0, _, _, _, _, _, _, h, _, _ => by omega
  | 0, k + 1, i, b, s, e, acc, hi, _, _, _ => by
    unfold F_r20_Get_l0_1
    have e1 : (decide ((i : Int) < (z : Int)) && decide (e = 0)) = false := by
      rw [decide_eq_false (by omega)]; rfl
    exact ⟨.inl (), by simp only [Tree.run, e1, cond_false], by simp⟩
  | m + 1, k + 1, i, b, s, e, acc, hi, hk, hl, hs => by
    unfold F_r20_Get_l0_1
    by_cases he0 : e = 0
    · subst he0
      have e1 : decide ((i : Int) < (z : Int)) = true := decide_eq_true (by omega)
      obtain ⟨b1, b2, t, h1, h2, h3, h4, h5⟩ := relem hn b hs 0
      have hf := (elemM_fine s 0).2
      have ha : ∀ x : Kn, appI 1954687338268 acc (List.set ([zeroK] : List Kn) 0 x) = some (acc ++ [x]) := fun x => appI_le (by simp; omega)
      simp only [if_neg (show ¬ (m + 1 = 0 ∨ (0 : Int) ≠ 0) by simp)]
      unfold knM
      rw [if_neg (by decide)]
      simp only [Tree.run, e1, decide_true, Bool.and_self, cond_true, h1, h2, h3, Option.bind_some]
      have tail : ∀ (b5 : Bool) (o : Option (Unit ⊕ ((List Kn) × ((Bool) × ((List UInt8) × Int))))),
          (∀ q, (F_r20_Get_l0_1 n k (z : Int) (w64 ((i : Int) + 1)) b5 (elemM s 0).2.1 (elemM s 0).2.2 (acc ++ [(elemM s 0).1])).run = some q →
            o = some (match q with
              | .inl _ => .inr (acc ++ [(elemM s 0).1], b5, (elemM s 0).2.1, (elemM s 0).2.2)
              | .inr y => .inr y)) →
          ∃ r, o = some r ∧ ∃ c, r = .inr ((knM m (elemM s 0).2.1 (elemM s 0).2.2 (acc ++ [(elemM s 0).1])).1, c, (knM m (elemM s 0).2.1 (elemM s 0).2.2 (acc ++ [(elemM s 0).1])).2) := by
        intro b5 o q2
        obtain ⟨q, e4, hq⟩ := rget_l01 hn hz m k (i + 1) b5 (elemM s 0).2.1 (elemM s 0).2.2 (acc ++ [(elemM s 0).1]) (by omega) (by omega) (by simp; omega) (by omega)
        rw [← w64_succ (by omega)] at e4
        refine ⟨_, q2 q e4, ?_⟩
        by_cases hc : m = 0 ∨ (elemM s 0).2.2 ≠ 0
        · rw [if_pos hc] at hq
          subst hq
          have : knM m (elemM s 0).2.1 (elemM s 0).2.2 (acc ++ [(elemM s 0).1]) = (acc ++ [(elemM s 0).1], (elemM s 0).2.1, (elemM s 0).2.2) := by
            rcases hc with rfl | hc
            · rfl
            · exact knM_err m hc
          rw [this]
          exact ⟨b5, rfl⟩
        · rw [if_neg hc] at hq
          obtain ⟨c, rfl⟩ := hq
          exact ⟨c, rfl⟩
      rcases t with ⟨c, r, e'⟩ | ⟨x, r⟩
      · obtain ⟨b4, b5, g1, g2, g3, g4, g5⟩ := h4 c r e' rfl
        refine tail b5 _ (fun q hq => ?_)
        have hx : ((scanN s 0 1 3).1, (scanI (scanN s 0 1 3).2.1 (scanN s 0 1 3).2.2).1, ([] : List UInt8), (elemM s 0).1.2.2.2.1, (elemM s 0).1.2.2.2.2) = (elemM s 0).1 := by rw [← g3, ← g4, ← g5]
        simp only [run_l, Tree.run, g1, g2, Option.bind_some, ha, hx, hq]
        rcases q with y | y <;> rfl
      · obtain ⟨b4, b5, g1, g2, g3, g4, g5⟩ := h5 x r rfl
        refine tail b5 _ (fun q hq => ?_)
        have hx : ((scanN s 0 1 3).1, (scanI (scanN s 0 1 3).2.1 (scanN s 0 1 3).2.2).1, x, (elemM s 0).1.2.2.2.1, (elemM s 0).1.2.2.2.2) = (elemM s 0).1 := by rw [← g3, ← g4, ← g5]
        simp only [run_r, Tree.run, g1, g2, Option.bind_some, ha, hx, hq]
        rcases q with y | y <;> rfl
    · have e1 : (decide ((i : Int) < (z : Int)) && decide (e = 0)) = false := by
        rw [decide_eq_false he0]; simp
      refine ⟨.inl (), by simp only [Tree.run, e1, cond_false], ?_⟩
      rw [if_pos (.inr he0)]
theorem rget_l0 {n : Nat} (hn : 40 < n) {z : Nat} (hz : z ≤ 4096) (m k : Nat) (b : Bool) (s : List UInt8) (e : Int) (hm : m = z) (hk : m < k) (hs : s.length ≤ 140737488355328) :
    ∃ r, (F_r20_Get_l0 n k (z : Int) 0 b s e).run = some r ∧ (if m = 0 ∨ e ≠ 0 then r = .inr () else ∃ c, r = .inl ((knM m s e []).1, c, (knM m s e []).2)) := by
  obtain ⟨k, rfl⟩ : ∃ k', k = k' + 1 := ⟨k - 1, by omega⟩
  unfold F_r20_Get_l0
  by_cases hc : m = 0 ∨ e ≠ 0
  · have e1 : (decide ((0 : Int) < (z : Int)) && decide (e = 0)) = false := by
      rcases hc with h | h
      · rw [decide_eq_false (by omega)]; rfl
      · rw [decide_eq_false h]; simp
    refine ⟨.inr (), by simp only [Tree.run, e1, cond_false], ?_⟩
    rw [if_pos hc]
  · simp only [if_neg hc]
    obtain ⟨m, rfl⟩ : ∃ m', m = m' + 1 := ⟨m - 1, by omega⟩
    have he0 : e = 0 := by omega
    subst he0
    have e1 : decide ((0 : Int) < (z : Int)) = true := decide_eq_true (by omega)
    obtain ⟨b1, b2, t, h1, h2, h3, h4, h5⟩ := relem hn b hs 0
    have hf := (elemM_fine s 0).2
    have ha : ∀ x : Kn, appI 1954687338268 ([] : List Kn) (List.set ([zeroK] : List Kn) 0 x) = some [x] := fun x => appI_le (by simp)
    unfold knM
    rw [if_neg (by decide)]
    simp only [Tree.run, e1, decide_true, Bool.and_self, cond_true, h1, h2, h3, Option.bind_some, List.nil_append]
    have tail : ∀ (b5 : Bool) (o : Option (((List Kn) × ((Bool) × ((List UInt8) × Int))) ⊕ Unit)),
        (∀ q, (F_r20_Get_l0_1 n k (z : Int) (w64 ((0 : Int) + 1)) b5 (elemM s 0).2.1 (elemM s 0).2.2 [(elemM s 0).1]).run = some q →
          o = some (match q with
            | .inl _ => .inl ([(elemM s 0).1], b5, (elemM s 0).2.1, (elemM s 0).2.2)
            | .inr y => .inl y)) →
        ∃ r, o = some r ∧ ∃ c, r = .inl ((knM m (elemM s 0).2.1 (elemM s 0).2.2 [(elemM s 0).1]).1, c, (knM m (elemM s 0).2.1 (elemM s 0).2.2 [(elemM s 0).1]).2) := by
      intro b5 o q2
      obtain ⟨q, e4, hq⟩ := rget_l01 hn hz m k 1 b5 (elemM s 0).2.1 (elemM s 0).2.2 [(elemM s 0).1] (by omega) (by omega) rfl (by omega)
      refine ⟨_, q2 q e4, ?_⟩
      by_cases hc : m = 0 ∨ (elemM s 0).2.2 ≠ 0
      · rw [if_pos hc] at hq
        subst hq
        have : knM m (elemM s 0).2.1 (elemM s 0).2.2 [(elemM s 0).1] = ([(elemM s 0).1], (elemM s 0).2.1, (elemM s 0).2.2) := by
          rcases hc with rfl | hc
          · rfl
          · exact knM_err m hc
        rw [this]
        exact ⟨b5, rfl⟩
      · rw [if_neg hc] at hq
        obtain ⟨c, rfl⟩ := hq
        exact ⟨c, rfl⟩
    rcases t with ⟨c, r, e'⟩ | ⟨x, r⟩
    · obtain ⟨b4, b5, g1, g2, g3, g4, g5⟩ := h4 c r e' rfl
      refine tail b5 _ (fun q hq => ?_)
      have hx : ((scanN s 0 1 3).1, (scanI (scanN s 0 1 3).2.1 (scanN s 0 1 3).2.2).1, ([] : List UInt8), (elemM s 0).1.2.2.2.1, (elemM s 0).1.2.2.2.2) = (elemM s 0).1 := by rw [← g3, ← g4, ← g5]
      simp only [run_l, Tree.run, g1, g2, Option.bind_some, ha, hx, hq]
      rcases q with y | y <;> rfl
    · obtain ⟨b4, b5, g1, g2, g3, g4, g5⟩ := h5 x r rfl
      refine tail b5 _ (fun q hq => ?_)
      have hx : ((scanN s 0 1 3).1, (scanI (scanN s 0 1 3).2.1 (scanN s 0 1 3).2.2).1, x, (elemM s 0).1.2.2.2.1, (elemM s 0).1.2.2.2.2) = (elemM s 0).1 := by rw [← g3, ← g4, ← g5]
      simp only [run_r, Tree.run, g1, g2, Option.bind_some, ha, hx, hq]
      rcases q with y | y <;> rfl
/-! ### The whole of it -/
/-- Bytes read as a shard. (Nothing known: no error, and no list.) -/
def getK (s : List UInt8) : Int ⊕ List Kn :=
  let z := scanN s 0 0 4096
  let w := knM z.1.toNat z.2.1 z.2.2 []
  if scanE w.2.1 w.2.2 ≠ 0 then .inl (scanE w.2.1 w.2.2) else if z.1 = 0 then .inl 0 else if okK none w.1 = true then .inr w.1 else .inl 5
theorem scanE_ne {s : List UInt8} {e : Int} (h : e ≠ 0) : scanE s e = e := by
  unfold scanE; rw [if_neg (fun h' => h h'.1)]
theorem cgetK {n : Nat} (hn : 5000 ≤ n) {s : List UInt8} (hs : s.length ≤ 140737488355328) : (F_index_Get n s).run = some (getK s) := by
  unfold F_index_Get F_codec_From getK
  simp only [Tree.run, own_app hs, Option.bind_some]
  obtain ⟨b1, e1⟩ := cnumber (n := n) (by omega) false (s := s) (by omega) 0 0 4096
  have l1 := scanN_len' s 0 0 4096 (by decide) (by decide)
  have hz0 : (scanN s 0 0 4096).2.2 ≠ 0 → (scanN s 0 0 4096).1 = 0 := by
    intro h
    unfold scanN at h ⊢
    rw [if_pos rfl] at h ⊢
    split
    · rfl
    · rename_i v r hx
      rw [hx] at h
      simp only at h ⊢
      split
      · rfl
      · rename_i hb
        rw [if_neg hb] at h
        exact absurd rfl h
  simp only [e1, Option.bind_some]
  generalize scanN s 0 0 4096 = z at *
  have hzz : ((z.1.toNat : Nat) : Int) = z.1 := by omega
  by_cases h0 : z.1 = 0
  · obtain ⟨k, rfl⟩ : ∃ k, n = k + 1 := ⟨n - 1, by omega⟩
    have e2 : (F_index_Get_l0 (k + 1) (k + 1) z.1 0 b1 z.2.1 z.2.2).run = some (.inr (.inr ())) := by
      unfold F_index_Get_l0
      rw [h0]
      simp only [Tree.run, show decide ((0 : Int) < 0) = false from rfl, cond_false]
    have e3 : (F_index_Get_l2_1 (k + 1) (k + 1) 0 0).run = some () := rfl
    have hk : knM z.1.toNat z.2.1 z.2.2 [] = ([], z.2.1, z.2.2) := by rw [h0]; rfl
    rw [hk]
    simp only [e2, run_r, Tree.run, cend, Option.bind_some]
    by_cases he : scanE z.2.1 z.2.2 = 0
    · simp only [he, decide_true, Bool.not_true, cond_false, e3, Option.bind_some, ne_eq, not_true, if_false, h0, if_true]
    · simp only [he, decide_false, Bool.not_false, cond_true, ne_eq, not_false_eq_true, if_true]
  · have hz1 : z.2.2 = 0 := by
      rcases Decidable.em (z.2.2 = 0) with h | h
      · exact h
      · exact absurd (hz0 h) h0
    obtain ⟨r, e2, hr⟩ := cget_l0 (n := n) (by omega) (z := z.1.toNat) (by omega) z.1.toNat n b1 z.2.1 rfl (by omega) (by omega)
    rw [hzz] at e2
    rw [hz1]
    have hf := knM_fine z.1.toNat z.2.1 0 [] (by simp)
    simp only [e2, Option.bind_some]
    generalize knM z.1.toNat z.2.1 0 [] = w at *
    rcases hr with ⟨g1, g2, rfl⟩ | ⟨g1, g2, c, rfl⟩ | ⟨g1, x, rfl⟩
    · omega
    · have hok := cok (n := n) (by omega) (l := w.1) hf.1 (by have := hf.2.1; simp at this; omega) n 0 (by omega) (by have := hf.2.1; simp at this; omega)
      have hok' : (F_index_Get_l2 n n (ln w.1) 0 w.1).run = some (bif okK none w.1 then .inr () else .inl ()) := hok
      simp only [run_r, run_l, Tree.run, cend, hok', Option.bind_some]
      by_cases he : scanE w.2.1 w.2.2 = 0
      · simp only [he, decide_true, Bool.not_true, cond_false, ne_eq, not_true, if_false, h0]
        cases okK none w.1 <;> rfl
      · simp only [he, decide_false, Bool.not_false, cond_true, ne_eq, not_false_eq_true, if_true]
    · simp only [run_l, Tree.run, scanE_ne g1, ne_eq, g1, not_false_eq_true, if_true]
theorem rgetK {n : Nat} (hn : 5000 ≤ n) (b0 : Bool) {s : List UInt8} (hs : s.length ≤ 140737488355328) : (F_r20_Get n b0 s).run = some (getK s) := by
  unfold F_r20_Get getK
  simp only [Tree.run, Option.bind_some]
  obtain ⟨b1, e1⟩ := rnumber (n := n) (by omega) b0 (s := s) (by omega) 0 0 4096
  have l1 := scanN_len' s 0 0 4096 (by decide) (by decide)
  have hz0 : (scanN s 0 0 4096).2.2 ≠ 0 → (scanN s 0 0 4096).1 = 0 := by
    intro h
    unfold scanN at h ⊢
    rw [if_pos rfl] at h ⊢
    split
    · rfl
    · rename_i v r hx
      rw [hx] at h
      simp only at h ⊢
      split
      · rfl
      · rename_i hb
        rw [if_neg hb] at h
        exact absurd rfl h
  simp only [e1, Option.bind_some]
  generalize scanN s 0 0 4096 = z at *
  have hzz : ((z.1.toNat : Nat) : Int) = z.1 := by omega
  obtain ⟨r, e2, hr⟩ := rget_l0 (n := n) (by omega) (z := z.1.toNat) (by omega) z.1.toNat n b1 z.2.1 z.2.2 rfl (by omega) (by omega)
  rw [hzz] at e2
  have hf := knM_fine z.1.toNat z.2.1 z.2.2 [] (by simp)
  simp only [e2, Option.bind_some]
  by_cases h0 : z.1 = 0
  · rw [if_pos (.inl (by omega))] at hr
    subst hr
    obtain ⟨k, rfl⟩ : ∃ k, n = k + 1 := ⟨n - 1, by omega⟩
    have e3 : (F_r20_Get_l2_1 (k + 1) (k + 1) 0).run = some () := rfl
    have hk : knM z.1.toNat z.2.1 z.2.2 [] = ([], z.2.1, z.2.2) := by rw [h0]; rfl
    rw [hk]
    simp only [run_r, Tree.run, rend, Option.bind_some]
    by_cases he : scanE z.2.1 z.2.2 = 0
    · simp only [he, decide_true, Bool.not_true, cond_false, e3, Option.bind_some, ne_eq, not_true, if_false, h0, if_true]
    · simp only [he, decide_false, Bool.not_false, cond_true, ne_eq, not_false_eq_true, if_true]
  · have hz1 : z.2.2 = 0 := by
      rcases Decidable.em (z.2.2 = 0) with h | h
      · exact h
      · exact absurd (hz0 h) h0
    rw [if_neg (by omega)] at hr
    obtain ⟨c, rfl⟩ := hr
    generalize knM z.1.toNat z.2.1 z.2.2 [] = w at *
    have hok := rok (n := n) (by omega) (l := w.1) hf.1 (by have := hf.2.1; simp at this; omega) n 0 (by omega) (by have := hf.2.1; simp at this; omega)
    have hok' : (F_r20_Get_l2 n n 0 w.1).run = some (bif okK none w.1 then .inr () else .inl ()) := hok
    simp only [run_r, run_l, Tree.run, rend, hok', Option.bind_some]
    by_cases he : scanE w.2.1 w.2.2 = 0
    · simp only [he, decide_true, Bool.not_true, cond_false, ne_eq, not_true, if_false, h0]
      cases okK none w.1 <;> rfl
    · simp only [he, decide_false, Bool.not_false, cond_true, ne_eq, not_false_eq_true, if_true]
end Go.Proofs.Ytdlbmjbbnplpjaa
