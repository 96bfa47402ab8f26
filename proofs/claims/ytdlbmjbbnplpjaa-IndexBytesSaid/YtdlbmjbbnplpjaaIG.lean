/- A shard of the index in plain words: read. -/
import Derived.Test.YtdlbmjbbnplpjaaIX
set_option linter.unusedVariables false
set_option linter.unusedSimpArgs false
namespace Go.Proofs.Ytdlbmjbbnplpjaa
open Hyp
/-- An entry that stands next, and the scan behind it. -/
def elemM (s : List UInt8) (e : Int) : Kn × List UInt8 × Int :=
  let a := scanN s e 1 3
  let d := scanI a.2.1 a.2.2
  let t : List UInt8 × List UInt8 × Int := match scanT d.2.1 d.2.2 32 with
    | .inl p => ([], p.1, p.2)
    | .inr p => (p.1, p.2, 0)
  let o := scanN t.2.1 t.2.2 8 65536
  let z := scanN o.2.1 o.2.2 28 65536
  ((a.1, d.1, t.1, o.1, z.1), z.2.1, z.2.2)
theorem scanN_len' (s : List UInt8) (e lo hi : Int) (h : lo ≤ hi) (h2 : 0 ≤ lo) : (0 ≤ (scanN s e lo hi).1 ∧ (scanN s e lo hi).1 ≤ hi) ∧ (scanN s e lo hi).2.1.length ≤ s.length := by
  refine ⟨?_, scanN_len _ _ _ _⟩
  unfold scanN
  split
  · split
    · exact ⟨Int.le_refl 0, by show (0 : Int) ≤ hi; omega⟩
    · split
      · exact ⟨Int.le_refl 0, by show (0 : Int) ≤ hi; omega⟩
      · rename_i v r _ hb
        exact ⟨by show (0 : Int) ≤ (v : Int); omega, by show (v : Int) ≤ hi; omega⟩
  · exact ⟨Int.le_refl 0, by show (0 : Int) ≤ hi; omega⟩
theorem elemM_fine (s : List UInt8) (e : Int) : Fine (elemM s e).1 ∧ (elemM s e).2.1.length ≤ s.length := by
  unfold elemM Fine
  simp only
  have h1 := scanN_len' s e 1 3 (by decide) (by decide)
  have h2 := scanI_len (scanN s e 1 3).2.1 (scanN s e 1 3).2.2
  generalize scanI (scanN s e 1 3).2.1 (scanN s e 1 3).2.2 = d at *
  obtain ⟨l1, l2⟩ := scanT_len (s := d.2.1) (e := d.2.2) (most := 32)
  cases ht : scanT d.2.1 d.2.2 32 with
  | inl p =>
    have l1 := l1 _ _ ht
    have h3 := scanN_len p.1 p.2 8 65536
    have h4 := scanN_len (scanN p.1 p.2 8 65536).2.1 (scanN p.1 p.2 8 65536).2.2 28 65536
    exact ⟨⟨h1.1, h2.1, by simp⟩, by simp only; omega⟩
  | inr p =>
    have l2 := l2 _ _ ht
    have h3 := scanN_len p.2 0 8 65536
    have h4 := scanN_len (scanN p.2 0 8 65536).2.1 (scanN p.2 0 8 65536).2.2 28 65536
    exact ⟨⟨h1.1, h2.1, by simp only; omega⟩, by simp only; omega⟩
def knM : Nat → List UInt8 → Int → List Kn → List Kn × List UInt8 × Int
  | 0, s, e, acc => (acc, s, e)
  | k + 1, s, e, acc => if e ≠ 0 then (acc, s, e) else knM k (elemM s e).2.1 (elemM s e).2.2 (acc ++ [(elemM s e).1])
theorem knM_err (m : Nat) {s : List UInt8} {e : Int} {acc : List Kn} (h : e ≠ 0) : knM m s e acc = (acc, s, e) := by
  cases m with
  | zero => rfl
  | succ m => unfold knM; rw [if_pos h]
theorem knM_fine (m : Nat) : ∀ (s : List UInt8) (e : Int) (acc : List Kn), (∀ x ∈ acc, Fine x) → (∀ x ∈ (knM m s e acc).1, Fine x) ∧ (knM m s e acc).1.length ≤ acc.length + m ∧ (knM m s e acc).2.1.length ≤ s.length ∧ acc.length ≤ (knM m s e acc).1.length := by
  induction m with
  | zero => intro s e acc h; exact ⟨h, Nat.le_refl _, Nat.le_refl _, Nat.le_refl _⟩
  | succ m ih =>
    intro s e acc h
    unfold knM
    split
    · exact ⟨h, by simp only; omega, Nat.le_refl _, Nat.le_refl _⟩
    · have hf := elemM_fine s e
      obtain ⟨q1, q2, q3, q4⟩ := ih (elemM s e).2.1 (elemM s e).2.2 (acc ++ [(elemM s e).1]) (by
        intro x hx
        rcases List.mem_append.1 hx with hx | hx
        · exact h x hx
        · rw [List.mem_singleton.1 hx]; exact hf.1)
      simp only [List.length_append, List.length_singleton] at q2 q4
      exact ⟨q1, by omega, by omega, by omega⟩
/-- One entry, read by the program. -/
theorem celem {n : Nat} (hn : 9 < n) (b : Bool) {s : List UInt8} (hs : s.length ≤ 140737488355328) (e : Int) : ∃ (b1 b2 : Bool) (t : (Bool × List UInt8 × Int) ⊕ (List UInt8 × List UInt8)),
    (F_codec_Scan_Number n b s e 1 3).run = some ((scanN s e 1 3).1, b1, (scanN s e 1 3).2) ∧
    (F_codec_Scan_ID n b1 (scanN s e 1 3).2.1 (scanN s e 1 3).2.2).run = some ((scanI (scanN s e 1 3).2.1 (scanN s e 1 3).2.2).1, b2, (scanI (scanN s e 1 3).2.1 (scanN s e 1 3).2.2).2) ∧
    (F_codec_Scan_Text n b2 (scanI (scanN s e 1 3).2.1 (scanN s e 1 3).2.2).2.1 (scanI (scanN s e 1 3).2.1 (scanN s e 1 3).2.2).2.2 32).run = some t ∧
    (∀ c r e', t = .inl (c, r, e') → ∃ b4 b5, (F_codec_Scan_Number n c r e' 8 65536).run = some ((elemM s e).1.2.2.2.1, b4, (scanN r e' 8 65536).2) ∧
      (F_codec_Scan_Number n b4 (scanN r e' 8 65536).2.1 (scanN r e' 8 65536).2.2 28 65536).run = some ((elemM s e).1.2.2.2.2, b5, (elemM s e).2) ∧ (elemM s e).1.1 = (scanN s e 1 3).1 ∧ (elemM s e).1.2.1 = (scanI (scanN s e 1 3).2.1 (scanN s e 1 3).2.2).1 ∧ (elemM s e).1.2.2.1 = []) ∧
    (∀ x r, t = .inr (x, r) → ∃ b4 b5, (F_codec_Scan_Number n false r 0 8 65536).run = some ((elemM s e).1.2.2.2.1, b4, (scanN r 0 8 65536).2) ∧
      (F_codec_Scan_Number n b4 (scanN r 0 8 65536).2.1 (scanN r 0 8 65536).2.2 28 65536).run = some ((elemM s e).1.2.2.2.2, b5, (elemM s e).2) ∧ (elemM s e).1.1 = (scanN s e 1 3).1 ∧ (elemM s e).1.2.1 = (scanI (scanN s e 1 3).2.1 (scanN s e 1 3).2.2).1 ∧ (elemM s e).1.2.2.1 = x) := by
  obtain ⟨b1, h1⟩ := cnumber (n := n) (by omega) b (s := s) (by omega) e 1 3
  have l1 := scanN_len s e 1 3
  obtain ⟨b2, h2⟩ := cid (n := n) b1 (s := (scanN s e 1 3).2.1) (by omega) (scanN s e 1 3).2.2
  have l2 := (scanI_len (scanN s e 1 3).2.1 (scanN s e 1 3).2.2).2
  obtain ⟨b3, h3⟩ := ctextS hn b2 (s := (scanI (scanN s e 1 3).2.1 (scanN s e 1 3).2.2).2.1) (by omega) (scanI (scanN s e 1 3).2.1 (scanN s e 1 3).2.2).2.2 32
  obtain ⟨m1, m2⟩ := scanT_len (s := (scanI (scanN s e 1 3).2.1 (scanN s e 1 3).2.2).2.1) (e := (scanI (scanN s e 1 3).2.1 (scanN s e 1 3).2.2).2.2) (most := 32)
  refine ⟨b1, b2, _, h1, h2, h3, ?_, ?_⟩
  · intro c r e' ht
    have ht' : scanT (scanI (scanN s e 1 3).2.1 (scanN s e 1 3).2.2).2.1 (scanI (scanN s e 1 3).2.1 (scanN s e 1 3).2.2).2.2 32 = .inl (r, e') := by
      cases hq : scanT (scanI (scanN s e 1 3).2.1 (scanN s e 1 3).2.2).2.1 (scanI (scanN s e 1 3).2.1 (scanN s e 1 3).2.2).2.2 32 with
      | inl p => rw [hq] at ht; cases ht; rfl
      | inr p => rw [hq] at ht; cases ht
    have m1 := m1 _ _ ht'
    obtain ⟨b4, h4⟩ := cnumber (n := n) (by omega) c (s := r) (by omega) e' 8 65536
    have l4 := scanN_len r e' 8 65536
    obtain ⟨b5, h5⟩ := cnumber (n := n) (by omega) b4 (s := (scanN r e' 8 65536).2.1) (by omega) (scanN r e' 8 65536).2.2 28 65536
    refine ⟨b4, b5, ?_, ?_, rfl, rfl, ?_⟩
    · unfold elemM; simp only [ht']; exact h4
    · unfold elemM; simp only [ht']; exact h5
    · unfold elemM; simp only [ht']
  · intro x r ht
    have ht' : scanT (scanI (scanN s e 1 3).2.1 (scanN s e 1 3).2.2).2.1 (scanI (scanN s e 1 3).2.1 (scanN s e 1 3).2.2).2.2 32 = .inr (x, r) := by
      cases hq : scanT (scanI (scanN s e 1 3).2.1 (scanN s e 1 3).2.2).2.1 (scanI (scanN s e 1 3).2.1 (scanN s e 1 3).2.2).2.2 32 with
      | inl p => rw [hq] at ht; cases ht
      | inr p => rw [hq] at ht; cases ht; rfl
    have m2 := (m2 _ _ ht').1
    obtain ⟨b4, h4⟩ := cnumber (n := n) (by omega) false (s := r) (by omega) 0 8 65536
    have l4 := scanN_len r 0 8 65536
    obtain ⟨b5, h5⟩ := cnumber (n := n) (by omega) b4 (s := (scanN r 0 8 65536).2.1) (by omega) (scanN r 0 8 65536).2.2 28 65536
    refine ⟨b4, b5, ?_, ?_, rfl, rfl, ?_⟩
    · unfold elemM; simp only [ht']; exact h4
    · unfold elemM; simp only [ht']; exact h5
    · unfold elemM; simp only [ht']
abbrev zeroK : Kn := ((0 : Int), ((zs 32), (([] : List UInt8), ((0 : Int), (0 : Int)))))
/-- What the rest of the reading comes to, in the program's words. -/
def RestC (m : Nat) (w : List Kn × List UInt8 × Int) (r : ((Int) × ((Bool) × ((List UInt8) × Int))) ⊕ (Unit ⊕ (((Int) × ((Bool) × ((List UInt8) × Int))) ⊕ ((List Kn) × ((Bool) × ((List UInt8) × Int)))))) : Prop :=
  (w.2.2 = 0 ∧ m = 0 ∧ r = .inr (.inl ())) ∨ (w.2.2 = 0 ∧ m ≠ 0 ∧ ∃ c, r = .inr (.inr (.inr (w.1, c, w.2)))) ∨ (w.2.2 ≠ 0 ∧ ∃ x, r = .inl (w.2.2, x) ∨ r = .inr (.inr (.inl (w.2.2, x))))
theorem cget_l01 {n : Nat} (hn : 9 < n) {z : Nat} (hz : z ≤ 4096) : ∀ (m k i : Nat) (b : Bool) (s : List UInt8) (acc : List Kn), i + m = z → m < k → acc.length = i → s.length ≤ 140737488355328 →
    ∃ r, (F_index_Get_l0_1 n k (z : Int) (i : Int) b s 0 acc).run = some r ∧ RestC m (knM m s 0 acc) r
  | m, 0, _, _, _, _, _, h, _, _ => by omega
  | 0, k + 1, i, b, s, acc, hi, _, _, _ => by
    unfold F_index_Get_l0_1
    have e1 : decide ((i : Int) < (z : Int)) = false := by simp; omega
    exact ⟨.inr (.inl ()), by simp only [Tree.run, e1, cond_false], .inl ⟨rfl, rfl, rfl⟩⟩
  | m + 1, k + 1, i, b, s, acc, hi, hk, hl, hs => by
    unfold F_index_Get_l0_1 knM F_codec_Scan_Err
    have e1 : decide ((i : Int) < (z : Int)) = true := by simp; omega
    obtain ⟨b1, b2, t, h1, h2, h3, h4, h5⟩ := celem hn b hs 0
    have hf := (elemM_fine s 0).2
    have ha : ∀ x : Kn, appI 1954687338268 acc (List.set ([zeroK] : List Kn) 0 x) = some (acc ++ [x]) := fun x => appI_le (by simp; omega)
    rw [if_neg (by decide)]
    simp only [Tree.run, e1, cond_true, h1, h2, h3, Option.bind_some]
    -- the last part
    have tail : ∀ (b5 : Bool) (o : Option (((Int) × ((Bool) × ((List UInt8) × Int))) ⊕ (Unit ⊕ (((Int) × ((Bool) × ((List UInt8) × Int))) ⊕ ((List Kn) × ((Bool) × ((List UInt8) × Int))))))),
        ((elemM s 0).2.2 ≠ 0 → ∃ x, o = some (.inl ((elemM s 0).2.2, x))) →
        ((elemM s 0).2.2 = 0 → ∀ q, (F_index_Get_l0_1 n k (z : Int) (w64 ((i : Int) + 1)) b5 (elemM s 0).2.1 0 (acc ++ [(elemM s 0).1])).run = some q →
          o = some (match q with
            | .inl y => .inr (.inr (.inl y))
            | .inr (.inl _) => .inr (.inr (.inr (acc ++ [(elemM s 0).1], b5, (elemM s 0).2.1, 0)))
            | .inr (.inr (.inl y)) => .inr (.inr (.inl y))
            | .inr (.inr (.inr y)) => .inr (.inr (.inr y)))) →
        ∃ r, o = some r ∧ RestC (m + 1) (knM m (elemM s 0).2.1 (elemM s 0).2.2 (acc ++ [(elemM s 0).1])) r := by
      intro b5 o q1 q2
      by_cases he : (elemM s 0).2.2 = 0
      · obtain ⟨q, e4, hq⟩ := cget_l01 hn hz m k (i + 1) b5 (elemM s 0).2.1 (acc ++ [(elemM s 0).1]) (by omega) (by omega) (by simp; omega) (by omega)
        rw [← w64_succ (by omega)] at e4
        have := q2 he q e4
        refine ⟨_, this, ?_⟩
        rw [he]
        rcases hq with ⟨g1, g2, rfl⟩ | ⟨g1, g2, c, rfl⟩ | ⟨g1, x, rfl | rfl⟩
        · subst g2
          exact .inr (.inl ⟨rfl, by omega, b5, rfl⟩)
        · exact .inr (.inl ⟨g1, by omega, c, rfl⟩)
        · exact .inr (.inr ⟨g1, x, .inr rfl⟩)
        · exact .inr (.inr ⟨g1, x, .inr rfl⟩)
      · obtain ⟨x, hx⟩ := q1 he
        refine ⟨_, hx, ?_⟩
        rw [knM_err m he]
        exact .inr (.inr ⟨he, x, .inl rfl⟩)
    rcases t with ⟨c, r, e'⟩ | ⟨x, r⟩
    · obtain ⟨b4, b5, g1, g2, g3, g4, g5⟩ := h4 c r e' rfl
      refine tail b5 _ (fun he => ?_) (fun he q hq => ?_)
      · exact ⟨(b5, (elemM s 0).2.1, (elemM s 0).2.2), by simp only [run_l, Tree.run, g1, g2, Option.bind_some, decide_eq_false he, Bool.not_false, cond_true]⟩
      · have hE : (elemM s 0).2 = ((elemM s 0).2.1, 0) := Prod.ext rfl he
        rw [hE] at g2
        have hx : ((scanN s 0 1 3).1, (scanI (scanN s 0 1 3).2.1 (scanN s 0 1 3).2.2).1, ([] : List UInt8), (elemM s 0).1.2.2.2.1, (elemM s 0).1.2.2.2.2) = (elemM s 0).1 := by rw [← g3, ← g4, ← g5]
        simp only [run_l, Tree.run, g1, g2, Option.bind_some, he, decide_true, Bool.not_true, cond_false, ha, hx, hq]
        rcases q with y | _ | y | y <;> rfl
    · obtain ⟨b4, b5, g1, g2, g3, g4, g5⟩ := h5 x r rfl
      refine tail b5 _ (fun he => ?_) (fun he q hq => ?_)
      · exact ⟨(b5, (elemM s 0).2.1, (elemM s 0).2.2), by simp only [run_r, Tree.run, g1, g2, Option.bind_some, decide_eq_false he, Bool.not_false, cond_true]⟩
      · have hE : (elemM s 0).2 = ((elemM s 0).2.1, 0) := Prod.ext rfl he
        rw [hE] at g2
        have hx : ((scanN s 0 1 3).1, (scanI (scanN s 0 1 3).2.1 (scanN s 0 1 3).2.2).1, x, (elemM s 0).1.2.2.2.1, (elemM s 0).1.2.2.2.2) = (elemM s 0).1 := by rw [← g3, ← g4, ← g5]
        simp only [run_r, Tree.run, g1, g2, Option.bind_some, he, decide_true, Bool.not_true, cond_false, ha, hx, hq]
        rcases q with y | _ | y | y <;> rfl
end Go.Proofs.Ytdlbmjbbnplpjaa
