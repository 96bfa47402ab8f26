/- A shard of the index in plain words: read. -/
import Derived.Test.YtcipfbabjbcfkaaKX
set_option linter.unusedVariables false
set_option linter.unusedSimpArgs false
namespace Go.Proofs.Ytcipfbabjbcfkaa
open Hyp
/-- An entry that stands next, and the scan behind it. -/
def elemM (s : List UInt8) (e : Int) : Kn × List UInt8 × Int :=
  let a := scanN s e 1 3
  let d := scanI a.2.1 a.2.2
  let t : List UInt8 × List UInt8 × Int := match scanT d.2.1 d.2.2 32 with
    | .inl p => ([], p.1, p.2)
    | .inr p => (p.1, p.2, 0)
  let o := scanN t.2.1 t.2.2 8 65536
  let z := scanN o.2.1 o.2.2 28 65536
  ((a.1, d.1, t.1, o.1, z.1), z.2.1, z.2.2)
theorem scanN_len' (s : List UInt8) (e lo hi : Int) (h : lo ≤ hi) (h2 : 0 ≤ lo) : (0 ≤ (scanN s e lo hi).1 ∧ (scanN s e lo hi).1 ≤ hi) ∧ (scanN s e lo hi).2.1.length ≤ s.length := by
  refine ⟨?_, scanN_len _ _ _ _⟩
  unfold scanN
  split
  · split
    · exact ⟨Int.le_refl 0, by show (0 : Int) ≤ hi; omega⟩
    · split
      · exact ⟨Int.le_refl 0, by show (0 : Int) ≤ hi; omega⟩
      · rename_i v r _ hb
        exact ⟨by show (0 : Int) ≤ (v : Int); omega, by show (v : Int) ≤ hi; omega⟩
  · exact ⟨Int.le_refl 0, by show (0 : Int) ≤ hi; omega⟩
theorem elemM_fine (s : List UInt8) (e : Int) : Fine (elemM s e).1 ∧ (elemM s e).2.1.length ≤ s.length := by
  unfold elemM Fine
  simp only
  have h1 := scanN_len' s e 1 3 (by decide) (by decide)
  have h2 := scanI_len (scanN s e 1 3).2.1 (scanN s e 1 3).2.2
  generalize scanI (scanN s e 1 3).2.1 (scanN s e 1 3).2.2 = d at *
  obtain ⟨l1, l2⟩ := scanT_len (s := d.2.1) (e := d.2.2) (most := 32)
  cases ht : scanT d.2.1 d.2.2 32 with
  | inl p =>
    have l1 := l1 _ _ ht
    have h3 := scanN_len p.1 p.2 8 65536
    have h4 := scanN_len (scanN p.1 p.2 8 65536).2.1 (scanN p.1 p.2 8 65536).2.2 28 65536
    exact ⟨⟨h1.1, h2.1, by simp⟩, by simp only; omega⟩
  | inr p =>
    have l2 := l2 _ _ ht
    have h3 := scanN_len p.2 0 8 65536
    have h4 := scanN_len (scanN p.2 0 8 65536).2.1 (scanN p.2 0 8 65536).2.2 28 65536
    exact ⟨⟨h1.1, h2.1, by simp only; omega⟩, by simp only; omega⟩
def knM : Nat → List UInt8 → Int → List Kn → List Kn × List UInt8 × Int
  | 0, s, e, acc => (acc, s, e)
  | k + 1, s, e, acc => if e ≠ 0 then (acc, s, e) else knM k (elemM s e).2.1 (elemM s e).2.2 (acc ++ [(elemM s e).1])
theorem knM_err (m : Nat) {s : List UInt8} {e : Int} {acc : List Kn} (h : e ≠ 0) : knM m s e acc = (acc, s, e) := by
  cases m with
  | zero => rfl
  | succ m => unfold knM; rw [if_pos h]
theorem knM_fine (m : Nat) : ∀ (s : List UInt8) (e : Int) (acc : List Kn), (∀ x ∈ acc, Fine x) → (∀ x ∈ (knM m s e acc).1, Fine x) ∧ (knM m s e acc).1.length ≤ acc.length + m ∧ (knM m s e acc).2.1.length ≤ s.length ∧ acc.length ≤ (knM m s e acc).1.length := by
  induction m with
  | zero => intro s e acc h; exact ⟨h, Nat.le_refl _, Nat.le_refl _, Nat.le_refl _⟩
  | succ m ih =>
    intro s e acc h
    unfold knM
    split
    · exact ⟨h, by simp only; omega, Nat.le_refl _, Nat.le_refl _⟩
    · have hf := elemM_fine s e
      obtain ⟨q1, q2, q3, q4⟩ := ih (elemM s e).2.1 (elemM s e).2.2 (acc ++ [(elemM s e).1]) (by
        intro x hx
        rcases List.mem_append.1 hx with hx | hx
        · exact h x hx
        · rw [List.mem_singleton.1 hx]; exact hf.1)
      simp only [List.length_append, List.length_singleton] at q2 q4
      exact ⟨q1, by omega, by omega, by omega⟩
def eA (s : List UInt8) (e : Int) : Int × List UInt8 × Int := scanN s e 1 3
def eD (s : List UInt8) (e : Int) : List UInt8 × List UInt8 × Int := scanI (eA s e).2.1 (eA s e).2.2
def eT (s : List UInt8) (e : Int) : List UInt8 × List UInt8 × Int := tT (eD s e).2.1 (eD s e).2.2 32
def eO (s : List UInt8) (e : Int) : Int × List UInt8 × Int := scanN (eT s e).2.1 (eT s e).2.2 8 65536
def eZ (s : List UInt8) (e : Int) : Int × List UInt8 × Int := scanN (eO s e).2.1 (eO s e).2.2 28 65536
theorem elemM_eq (s : List UInt8) (e : Int) : elemM s e = (((eA s e).1, (eD s e).1, (eT s e).1, (eO s e).1, (eZ s e).1), (eZ s e).2) := rfl
theorem tT_len (s : List UInt8) (e most : Int) : (tT s e most).2.1.length ≤ s.length := by
  obtain ⟨l1, l2⟩ := scanT_len (s := s) (e := e) (most := most)
  unfold tT
  cases ht : scanT s e most with
  | inl p => exact l1 _ _ ht
  | inr p => exact (l2 _ _ ht).1
/-- One entry, read by the program. -/
theorem celem {n : Nat} (hn : 9 < n) (b : Bool) {s : List UInt8} (hs : s.length ≤ 140737488355328) (e : Int) : ∃ b1 b2 b3 b4 b5 : Bool,
    (F_codec_Scan_Number n b s e 1 3).run = some ((eA s e).1, b1, (eA s e).2) ∧
    (F_codec_Scan_ID n b1 (eA s e).2.1 (eA s e).2.2).run = some ((eD s e).1, b2, (eD s e).2) ∧
    (F_codec_Scan_Text n b2 (eD s e).2.1 (eD s e).2.2 32).run = some ((eT s e).1, b3, (eT s e).2) ∧
    (F_codec_Scan_Number n b3 (eT s e).2.1 (eT s e).2.2 8 65536).run = some ((eO s e).1, b4, (eO s e).2) ∧
    (F_codec_Scan_Number n b4 (eO s e).2.1 (eO s e).2.2 28 65536).run = some ((eZ s e).1, b5, (eZ s e).2) := by
  obtain ⟨b1, h1⟩ := cnumber (n := n) (by omega) b (s := s) (by omega) e 1 3
  have l1 : (eA s e).2.1.length ≤ s.length := scanN_len s e 1 3
  obtain ⟨b2, h2⟩ := cid (n := n) b1 (s := (eA s e).2.1) (by omega) (eA s e).2.2
  have l2 : (eD s e).2.1.length ≤ (eA s e).2.1.length := (scanI_len (eA s e).2.1 (eA s e).2.2).2
  obtain ⟨b3, h3⟩ := ctextS hn b2 (s := (eD s e).2.1) (by omega) (eD s e).2.2 32
  have l3 : (eT s e).2.1.length ≤ (eD s e).2.1.length := tT_len _ _ _
  obtain ⟨b4, h4⟩ := cnumber (n := n) (by omega) b3 (s := (eT s e).2.1) (by omega) (eT s e).2.2 8 65536
  have l4 : (eO s e).2.1.length ≤ (eT s e).2.1.length := scanN_len _ _ _ _
  obtain ⟨b5, h5⟩ := cnumber (n := n) (by omega) b4 (s := (eO s e).2.1) (by omega) (eO s e).2.2 28 65536
  exact ⟨b1, b2, b3, b4, b5, h1, h2, h3, h4, h5⟩
abbrev zeroK : Kn := ((0 : Int), ((zs 32), (([] : List UInt8), ((0 : Int), (0 : Int)))))
/-- What the rest of the reading comes to, in the program's words. -/
def RestC (m : Nat) (w : List Kn × List UInt8 × Int) (r : ((Int) × ((Bool) × ((List UInt8) × Int))) ⊕ (Unit ⊕ (((Int) × ((Bool) × ((List UInt8) × Int))) ⊕ ((List Kn) × ((Bool) × ((List UInt8) × Int)))))) : Prop :=
  (w.2.2 = 0 ∧ m = 0 ∧ r = .inr (.inl ())) ∨ (w.2.2 = 0 ∧ m ≠ 0 ∧ ∃ c, r = .inr (.inr (.inr (w.1, c, w.2)))) ∨ (w.2.2 ≠ 0 ∧ ∃ x, r = .inl (w.2.2, x) ∨ r = .inr (.inr (.inl (w.2.2, x))))
theorem cget_l0 {n : Nat} (hn : 9 < n) {z : Nat} (hz : z ≤ 4096) : ∀ (m k i : Nat) (b : Bool) (s : List UInt8) (acc : List Kn), i + m = z → m < k → acc.length = i → s.length ≤ 140737488355328 →
    ∃ r, (F_index_Get_l0 n k (z : Int) (i : Int) b s 0 acc).run = some r ∧ RestC m (knM m s 0 acc) r
  | m, 0, _, _, _, _, _, h, _, _ => by omega
  | 0, k + 1, i, b, s, acc, hi, _, _, _ => by
    unfold F_index_Get_l0
    have e1 : decide ((i : Int) < (z : Int)) = false := by simp; omega
    exact ⟨.inr (.inl ()), by simp only [Tree.run, e1, cond_false], .inl ⟨rfl, rfl, rfl⟩⟩
  | m + 1, k + 1, i, b, s, acc, hi, hk, hl, hs => by
    unfold F_index_Get_l0 knM F_codec_Scan_Err
    have e1 : decide ((i : Int) < (z : Int)) = true := by simp; omega
    obtain ⟨b1, b2, b3, b4, b5, h1, h2, h3, h4, h5⟩ := celem hn b hs 0
    have hf := (elemM_fine s 0).2
    have ha : ∀ x : Kn, appI 1954687338268 acc (List.set ([zeroK] : List Kn) 0 x) = some (acc ++ [x]) := fun x => appI_le (by simp; omega)
    rw [if_neg (by decide)]
    simp only [Tree.run, e1, cond_true, h1, h2, h3, h4, h5, Option.bind_some]
    have hx : ((eA s 0).1, (eD s 0).1, (eT s 0).1, (eO s 0).1, (eZ s 0).1) = (elemM s 0).1 := rfl
    by_cases he : (elemM s 0).2.2 = 0
    · have he' : (eZ s 0).2.2 = 0 := he
      obtain ⟨q, e4, hq⟩ := cget_l0 hn hz m k (i + 1) b5 (elemM s 0).2.1 (acc ++ [(elemM s 0).1]) (by omega) (by omega) (by simp; omega) (by omega)
      rw [← w64_succ (by omega)] at e4
      have e4' : (F_index_Get_l0 n k (z : Int) (w64 ((i : Int) + 1)) b5 (eZ s 0).2.1 0 (acc ++ [(elemM s 0).1])).run = some q := e4
      simp only [he', decide_true, Bool.not_true, cond_false, ha, hx, e4', Option.bind_some]
      rw [he]
      rcases hq with ⟨g1, g2, rfl⟩ | ⟨g1, g2, c, rfl⟩ | ⟨g1, x, rfl | rfl⟩
      · subst g2
        exact ⟨_, rfl, .inr (.inl ⟨rfl, by omega, b5, rfl⟩)⟩
      · exact ⟨_, rfl, .inr (.inl ⟨g1, by omega, c, rfl⟩)⟩
      · exact ⟨_, rfl, .inr (.inr ⟨g1, x, .inr rfl⟩)⟩
      · exact ⟨_, rfl, .inr (.inr ⟨g1, x, .inr rfl⟩)⟩
    · have he' : ¬ (eZ s 0).2.2 = 0 := he
      simp only [decide_eq_false he', Bool.not_false, cond_true]
      refine ⟨_, rfl, ?_⟩
      rw [knM_err m he]
      exact .inr (.inr ⟨he, _, .inl rfl⟩)
/-- Bytes read as a shard. -/
def getK (s : List UInt8) : Int × List Kn :=
  let z := scanN s 0 0 4096
  let w := knM z.1.toNat z.2.1 z.2.2 []
  if scanE w.2.1 w.2.2 ≠ 0 then (scanE w.2.1 w.2.2, []) else if okK none w.1 = true then (0, w.1) else (5, [])
theorem scanE_ne {s : List UInt8} {e : Int} (h : e ≠ 0) : scanE s e = e := by
  unfold scanE; rw [if_neg (fun h' => h h'.1)]
theorem cgetK {n : Nat} (hn : 5000 ≤ n) {s : List UInt8} (hs : s.length ≤ 140737488355328) : (F_index_Get n s).run = some (getK s) := by
  unfold F_index_Get F_codec_From getK
  simp only [Tree.run, own_app hs, Option.bind_some]
  obtain ⟨b1, e1⟩ := cnumber (n := n) (by omega) false (s := s) (by omega) 0 0 4096
  have l1 := scanN_len' s 0 0 4096 (by decide) (by decide)
  have hz0 : (scanN s 0 0 4096).2.2 ≠ 0 → (scanN s 0 0 4096).1 = 0 := by
    intro h
    unfold scanN at h ⊢
    rw [if_pos rfl] at h ⊢
    split
    · rfl
    · rename_i v r hx
      rw [hx] at h
      simp only at h ⊢
      split
      · rfl
      · rename_i hb
        rw [if_neg hb] at h
        exact absurd rfl h
  simp only [e1, Option.bind_some]
  generalize scanN s 0 0 4096 = z at *
  have hzz : ((z.1.toNat : Nat) : Int) = z.1 := by omega
  by_cases h0 : z.1 = 0
  · obtain ⟨k, rfl⟩ : ∃ k, n = k + 1 := ⟨n - 1, by omega⟩
    have e2 : (F_index_Get_l0 (k + 1) (k + 1) z.1 0 b1 z.2.1 z.2.2 []).run = some (.inr (.inl ())) := by
      unfold F_index_Get_l0
      rw [h0]
      simp only [Tree.run, show decide ((0 : Int) < 0) = false from rfl, cond_false]
    have e3 : (F_index_Get_l2 (k + 1) (k + 1) 0 0 []).run = some (.inr ()) := rfl
    have hk : knM z.1.toNat z.2.1 z.2.2 [] = ([], z.2.1, z.2.2) := by rw [h0]; rfl
    rw [hk]
    simp only [e2, run_r, run_l, Tree.run, cend, Option.bind_some]
    by_cases he : scanE z.2.1 z.2.2 = 0
    · simp only [he, decide_true, Bool.not_true, cond_false, e3, Option.bind_some, ne_eq, not_true, if_false, okK_nil, if_true, run_r, Tree.run]
    · simp only [he, decide_false, Bool.not_false, cond_true, ne_eq, not_false_eq_true, if_true]
  · have hz1 : z.2.2 = 0 := by
      rcases Decidable.em (z.2.2 = 0) with h | h
      · exact h
      · exact absurd (hz0 h) h0
    obtain ⟨r, e2, hr⟩ := cget_l0 (n := n) (by omega) (z := z.1.toNat) (by omega) z.1.toNat n 0 b1 z.2.1 [] (by omega) (by omega) rfl (by omega)
    rw [hzz] at e2
    rw [hz1]
    have e2' : (F_index_Get_l0 n n z.1 0 b1 z.2.1 0 []).run = some r := e2
    have hf := knM_fine z.1.toNat z.2.1 0 [] (by simp)
    simp only [e2', Option.bind_some]
    generalize knM z.1.toNat z.2.1 0 [] = w at *
    rcases hr with ⟨g1, g2, rfl⟩ | ⟨g1, g2, c, rfl⟩ | ⟨g1, x, rfl | rfl⟩
    · omega
    · have hok := cok (n := n) (by omega) (l := w.1) hf.1 (by have := hf.2.1; simp at this; omega) n 0 (by omega) (by have := hf.2.1; simp at this; omega)
      have hok' : (F_index_Get_l2 n n (ln w.1) 0 w.1).run = some (bif okK none w.1 then .inr () else .inl ()) := hok
      simp only [run_r, run_l, Tree.run, cend, hok', Option.bind_some]
      by_cases he : scanE w.2.1 w.2.2 = 0
      · simp only [he, decide_true, Bool.not_true, cond_false, ne_eq, not_true, if_false]
        cases okK none w.1 <;> rfl
      · simp only [he, decide_false, Bool.not_false, cond_true, ne_eq, not_false_eq_true, if_true]
    · simp only [run_l, run_r, Tree.run, scanE_ne g1, ne_eq, g1, not_false_eq_true, if_true]
    · simp only [run_l, run_r, Tree.run, scanE_ne g1, ne_eq, g1, not_false_eq_true, if_true]
end Go.Proofs.Ytcipfbabjbcfkaa
