/- Manifests in plain words: read, told, compared; the program's and the document's. -/
import Derived.Test.YtdlbmjbbnplpjaaMG
set_option linter.unusedVariables false
set_option linter.unusedSimpArgs false
namespace Go.Proofs.Ytdlbmjbbnplpjaa
open Hyp
/-! ### Reading -/
def shardsM : Nat → List UInt8 → Int → Sh → Sh × List UInt8 × Int
  | 0, s, e, acc => (acc, s, e)
  | k + 1, s, e, acc => match scanT s e 32 with
    | .inl (r, e') => shardsM k (scanI r e').2.1 (scanI r e').2.2 (acc ++ [([], (scanI r e').1)])
    | .inr (t, r) => shardsM k (scanI r 0).2.1 (scanI r 0).2.2 (acc ++ [(t, (scanI r 0).1)])
theorem cget_l0 {n : Nat} (hn : 9 < n) (g st ep nx : Int) (sn : Sn) {z : Nat} (hz : z ≤ 64) : ∀ (m k i : Nat) (b : Bool) (s : List UInt8) (e : Int) (acc : Sh), i + m = z → m < k → acc.length = i → s.length ≤ 140737488355328 →
    ∃ b', (F_manifest_Get_l0 n k (z : Int) (i : Int) g st ep nx acc sn b s e).run = some ((shardsM m s e acc).1, b', (shardsM m s e acc).2)
  | m, 0, _, _, _, _, _, _, h, _, _ => by omega
  | 0, k + 1, i, b, s, e, acc, hi, _, _, _ => by
    unfold F_manifest_Get_l0
    have e1 : decide ((i : Int) < (z : Int)) = false := by simp; omega
    exact ⟨b, by simp only [Tree.run, e1, cond_false, shardsM]⟩
  | m + 1, k + 1, i, b, s, e, acc, hi, hk, hl, hs => by
    unfold F_manifest_Get_l0 shardsM
    have e1 : decide ((i : Int) < (z : Int)) = true := by simp; omega
    obtain ⟨b1, e2⟩ := ctextS hn b hs e 32
    obtain ⟨l1, l2⟩ := scanT_len (s := s) (e := e) (most := 32)
    simp only [Tree.run, e1, cond_true, e2, Option.bind_some]
    have ha : ∀ x : List UInt8 × List UInt8, appI 2932031007402 acc (List.set ([(([] : List UInt8), (zs 32))] : List ((List UInt8) × (List UInt8))) 0 x) = some (acc ++ [x]) := fun x => appI_le (by simp; omega)
    cases ht : scanT s e 32 with
    | inl p =>
      obtain ⟨r, e'⟩ := p
      have hr := l1 r e' ht
      obtain ⟨b2, e3⟩ := cid (n := n) b1 (s := r) (by omega) e'
      have hq := (scanI_len r e').2
      obtain ⟨b3, e4⟩ := cget_l0 hn g st ep nx sn hz m k (i + 1) b2 (scanI r e').2.1 (scanI r e').2.2 (acc ++ [([], (scanI r e').1)]) (by omega) (by omega) (by simp; omega) (by omega)
      rw [← w64_succ (by omega)] at e4
      exact ⟨b3, by simp only [tagT, run_l, Tree.run, e3, ha, e4, Option.bind_some]⟩
    | inr p =>
      obtain ⟨t, r⟩ := p
      have hr := (l2 t r ht).1
      obtain ⟨b2, e3⟩ := cid (n := n) false (s := r) (by omega) 0
      have hq := (scanI_len r 0).2
      obtain ⟨b3, e4⟩ := cget_l0 hn g st ep nx sn hz m k (i + 1) b2 (scanI r 0).2.1 (scanI r 0).2.2 (acc ++ [(t, (scanI r 0).1)]) (by omega) (by omega) (by simp; omega) (by omega)
      rw [← w64_succ (by omega)] at e4
      exact ⟨b3, by simp only [tagT, run_r, Tree.run, e3, ha, e4, Option.bind_some]⟩
theorem rget_l0 {n : Nat} (hn : 40 < n) (g st ep nx : Int) (sn : Sn) {z : Nat} (hz : z ≤ 64) : ∀ (m k i : Nat) (b : Bool) (s : List UInt8) (e : Int) (acc : Sh), i + m = z → m < k → acc.length = i → s.length ≤ 140737488355328 →
    ∃ b', (F_r23_Get_l0 n k (z : Int) (i : Int) g st ep nx acc sn b s e).run = some ((shardsM m s e acc).1, b', (shardsM m s e acc).2)
  | m, 0, _, _, _, _, _, _, h, _, _ => by omega
  | 0, k + 1, i, b, s, e, acc, hi, _, _, _ => by
    unfold F_r23_Get_l0
    have e1 : decide ((i : Int) < (z : Int)) = false := by simp; omega
    exact ⟨b, by simp only [Tree.run, e1, cond_false, shardsM]⟩
  | m + 1, k + 1, i, b, s, e, acc, hi, hk, hl, hs => by
    unfold F_r23_Get_l0 shardsM
    have e1 : decide ((i : Int) < (z : Int)) = true := by simp; omega
    obtain ⟨b1, e2⟩ := rtextS (n := n) (by omega) b hs e 32
    obtain ⟨l1, l2⟩ := scanT_len (s := s) (e := e) (most := 32)
    simp only [Tree.run, e1, cond_true, e2, Option.bind_some]
    have ha : ∀ x : List UInt8 × List UInt8, appI 2932031007402 acc (List.set ([(([] : List UInt8), (zs 32))] : List ((List UInt8) × (List UInt8))) 0 x) = some (acc ++ [x]) := fun x => appI_le (by simp; omega)
    cases ht : scanT s e 32 with
    | inl p =>
      obtain ⟨r, e'⟩ := p
      have hr := l1 r e' ht
      obtain ⟨b2, e3⟩ := rid (n := n) (by omega) b1 (s := r) e'
      have hq := (scanI_len r e').2
      obtain ⟨b3, e4⟩ := rget_l0 hn g st ep nx sn hz m k (i + 1) b2 (scanI r e').2.1 (scanI r e').2.2 (acc ++ [([], (scanI r e').1)]) (by omega) (by omega) (by simp; omega) (by omega)
      rw [← w64_succ (by omega)] at e4
      exact ⟨b3, by simp only [tagT, run_l, Tree.run, e3, ha, e4, Option.bind_some]⟩
    | inr p =>
      obtain ⟨t, r⟩ := p
      have hr := (l2 t r ht).1
      obtain ⟨b2, e3⟩ := rid (n := n) (by omega) false (s := r) 0
      have hq := (scanI_len r 0).2
      obtain ⟨b3, e4⟩ := rget_l0 hn g st ep nx sn hz m k (i + 1) b2 (scanI r 0).2.1 (scanI r 0).2.2 (acc ++ [(t, (scanI r 0).1)]) (by omega) (by omega) (by simp; omega) (by omega)
      rw [← w64_succ (by omega)] at e4
      exact ⟨b3, by simp only [tagT, run_r, Tree.run, e3, ha, e4, Option.bind_some]⟩
theorem shardsM_len : ∀ (m : Nat) (s : List UInt8) (e : Int) (acc : Sh), (shardsM m s e acc).2.1.length ≤ s.length
  | 0, s, e, acc => Nat.le_refl _
  | m + 1, s, e, acc => by
    obtain ⟨l1, l2⟩ := scanT_len (s := s) (e := e) (most := 32)
    unfold shardsM
    cases ht : scanT s e 32 with
    | inl p => exact Nat.le_trans (shardsM_len m _ _ _) (Nat.le_trans (scanI_len _ _).2 (l1 _ _ ht))
    | inr p => exact Nat.le_trans (shardsM_len m _ _ _) (Nat.le_trans (scanI_len _ _).2 (l2 _ _ ht).1)
theorem shardsM_all (m : Nat) : ∀ (s : List UInt8) (e : Int) (acc : Sh), (∀ x ∈ acc, x.1.length ≤ 32 ∧ x.2.length = 32) → (∀ x ∈ (shardsM m s e acc).1, x.1.length ≤ 32 ∧ x.2.length = 32) ∧ (shardsM m s e acc).1.length = acc.length + m := by
  induction m with
  | zero => intro s e acc h; exact ⟨h, rfl⟩
  | succ m ih =>
    intro s e acc h
    obtain ⟨l1, l2⟩ := scanT_len (s := s) (e := e) (most := 32)
    unfold shardsM
    cases ht : scanT s e 32 with
    | inl p =>
      obtain ⟨r, e'⟩ := p
      have := ih (scanI r e').2.1 (scanI r e').2.2 (acc ++ [([], (scanI r e').1)]) (by
        intro x hx
        rcases List.mem_append.1 hx with hx | hx
        · exact h x hx
        · rw [List.mem_singleton.1 hx]; exact ⟨by simp, (scanI_len _ _).1⟩)
      exact ⟨this.1, by rw [this.2]; simp; omega⟩
    | inr p =>
      obtain ⟨t, r⟩ := p
      have hl := (l2 t r ht).2
      have := ih (scanI r 0).2.1 (scanI r 0).2.2 (acc ++ [(t, (scanI r 0).1)]) (by
        intro x hx
        rcases List.mem_append.1 hx with hx | hx
        · exact h x hx
        · rw [List.mem_singleton.1 hx]; exact ⟨by show t.length ≤ 32; omega, (scanI_len _ _).1⟩)
      exact ⟨this.1, by rw [this.2]; simp; omega⟩
def snapsM : Nat → List UInt8 → Int → Sn → Sn × List UInt8 × Int
  | 0, s, e, acc => (acc, s, e)
  | k + 1, s, e, acc => let p := scanN s e 1 1099511627776; let q := scanI p.2.1 p.2.2; snapsM k q.2.1 q.2.2 (acc ++ [(p.1, q.1)])
theorem cget_l2 {n : Nat} (hn : 9 < n) (g st ep nx : Int) (sh : Sh) {z : Nat} (hz : z ≤ 64) : ∀ (m k i : Nat) (b : Bool) (s : List UInt8) (e : Int) (acc : Sn), i + m = z → m < k → acc.length = i → s.length ≤ 140737488355328 →
    ∃ b', (F_manifest_Get_l2 n k (z : Int) (i : Int) g st ep nx sh acc b s e).run = some ((snapsM m s e acc).1, b', (snapsM m s e acc).2)
  | m, 0, _, _, _, _, _, _, h, _, _ => by omega
  | 0, k + 1, i, b, s, e, acc, hi, _, _, _ => by
    unfold F_manifest_Get_l2
    have e1 : decide ((i : Int) < (z : Int)) = false := by simp; omega
    exact ⟨b, by simp only [Tree.run, e1, cond_false, snapsM]⟩
  | m + 1, k + 1, i, b, s, e, acc, hi, hk, hl, hs => by
    unfold F_manifest_Get_l2 snapsM
    have e1 : decide ((i : Int) < (z : Int)) = true := by simp; omega
    obtain ⟨b1, e2⟩ := cnumber (n := n) (by omega) b (s := s) (by omega) e 1 1099511627776
    have hl1 := scanN_len s e 1 1099511627776
    obtain ⟨b2, e3⟩ := cid (n := n) b1 (s := (scanN s e 1 1099511627776).2.1) (by omega) (scanN s e 1 1099511627776).2.2
    have hl2 := (scanI_len (scanN s e 1 1099511627776).2.1 (scanN s e 1 1099511627776).2.2).2
    have ha : ∀ x : Int × List UInt8, appI 3518437208883 acc (List.set ([((0 : Int), (zs 32))] : List (Int × (List UInt8))) 0 x) = some (acc ++ [x]) := fun x => appI_le (by simp; omega)
    obtain ⟨b3, e4⟩ := cget_l2 hn g st ep nx sh hz m k (i + 1) b2 (scanI (scanN s e 1 1099511627776).2.1 (scanN s e 1 1099511627776).2.2).2.1 (scanI (scanN s e 1 1099511627776).2.1 (scanN s e 1 1099511627776).2.2).2.2 (acc ++ [((scanN s e 1 1099511627776).1, (scanI (scanN s e 1 1099511627776).2.1 (scanN s e 1 1099511627776).2.2).1)]) (by omega) (by omega) (by simp; omega) (by omega)
    rw [← w64_succ (by omega)] at e4
    exact ⟨b3, by simp only [Tree.run, e1, cond_true, e2, e3, ha, e4, Option.bind_some]⟩
theorem rget_l2 {n : Nat} (hn : 40 < n) (g st ep nx : Int) (sh : Sh) {z : Nat} (hz : z ≤ 64) : ∀ (m k i : Nat) (b : Bool) (s : List UInt8) (e : Int) (acc : Sn), i + m = z → m < k → acc.length = i → s.length ≤ 140737488355328 →
    ∃ b', (F_r23_Get_l2 n k (z : Int) (i : Int) g st ep nx sh acc b s e).run = some ((snapsM m s e acc).1, b', (snapsM m s e acc).2)
  | m, 0, _, _, _, _, _, _, h, _, _ => by omega
  | 0, k + 1, i, b, s, e, acc, hi, _, _, _ => by
    unfold F_r23_Get_l2
    have e1 : decide ((i : Int) < (z : Int)) = false := by simp; omega
    exact ⟨b, by simp only [Tree.run, e1, cond_false, snapsM]⟩
  | m + 1, k + 1, i, b, s, e, acc, hi, hk, hl, hs => by
    unfold F_r23_Get_l2 snapsM
    have e1 : decide ((i : Int) < (z : Int)) = true := by simp; omega
    obtain ⟨b1, e2⟩ := rnumber (n := n) (by omega) b (s := s) (by omega) e 1 1099511627776
    have hl1 := scanN_len s e 1 1099511627776
    obtain ⟨b2, e3⟩ := rid (n := n) (by omega) b1 (s := (scanN s e 1 1099511627776).2.1) (scanN s e 1 1099511627776).2.2
    have hl2 := (scanI_len (scanN s e 1 1099511627776).2.1 (scanN s e 1 1099511627776).2.2).2
    have ha : ∀ x : Int × List UInt8, appI 3518437208883 acc (List.set ([((0 : Int), (zs 32))] : List (Int × (List UInt8))) 0 x) = some (acc ++ [x]) := fun x => appI_le (by simp; omega)
    obtain ⟨b3, e4⟩ := rget_l2 hn g st ep nx sh hz m k (i + 1) b2 (scanI (scanN s e 1 1099511627776).2.1 (scanN s e 1 1099511627776).2.2).2.1 (scanI (scanN s e 1 1099511627776).2.1 (scanN s e 1 1099511627776).2.2).2.2 (acc ++ [((scanN s e 1 1099511627776).1, (scanI (scanN s e 1 1099511627776).2.1 (scanN s e 1 1099511627776).2.2).1)]) (by omega) (by omega) (by simp; omega) (by omega)
    rw [← w64_succ (by omega)] at e4
    exact ⟨b3, by simp only [Tree.run, e1, cond_true, e2, e3, ha, e4, Option.bind_some]⟩
theorem snapsM_len : ∀ (m : Nat) (s : List UInt8) (e : Int) (acc : Sn), (snapsM m s e acc).2.1.length ≤ s.length
  | 0, s, e, acc => Nat.le_refl _
  | m + 1, s, e, acc => Nat.le_trans (snapsM_len m _ _ _) (Nat.le_trans (scanI_len _ _).2 (scanN_len _ _ _ _))
theorem snapsM_all (m : Nat) : ∀ (s : List UInt8) (e : Int) (acc : Sn), (∀ x ∈ acc, x.2.length = 32) → (∀ x ∈ (snapsM m s e acc).1, x.2.length = 32) ∧ (snapsM m s e acc).1.length = acc.length + m := by
  induction m with
  | zero => intro s e acc h; exact ⟨h, rfl⟩
  | succ m ih =>
    intro s e acc h
    have := ih (scanI (scanN s e 1 1099511627776).2.1 (scanN s e 1 1099511627776).2.2).2.1 (scanI (scanN s e 1 1099511627776).2.1 (scanN s e 1 1099511627776).2.2).2.2 (acc ++ [((scanN s e 1 1099511627776).1, (scanI (scanN s e 1 1099511627776).2.1 (scanN s e 1 1099511627776).2.2).1)]) (by
      intro x hx
      rcases List.mem_append.1 hx with hx | hx
      · exact h x hx
      · rw [List.mem_singleton.1 hx]; exact (scanI_len _ _).1)
    exact ⟨this.1, this.2.trans (by simp; omega)⟩
theorem scanN_range (s : List UInt8) (e lo hi : Int) (h : lo ≤ 0) (h2 : 0 ≤ hi) : lo ≤ (scanN s e lo hi).1 ∧ (scanN s e lo hi).1 ≤ hi := by
  unfold scanN
  split
  · split
    · exact ⟨h, h2⟩
    · split
      · exact ⟨h, h2⟩
      · rename_i v r _ hb
        exact ⟨by show lo ≤ (v : Int); omega, by show (v : Int) ≤ hi; omega⟩
  · exact ⟨h, h2⟩
abbrev Mf := Int × Int × Int × Int × Sh × Sn
structure Head where
  g : Int
  st : Int
  ep : Int
  nx : Int
  z : Int
  s : List UInt8
  e : Int
def headM (s : List UInt8) : Head :=
  let a := scanN s 0 1 1099511627776
  let b := scanN a.2.1 a.2.2 1 1099511627776
  let c := scanN b.2.1 b.2.2 1 64
  let d := scanN c.2.1 c.2.2 1 1099511627776
  let z := scanN d.2.1 d.2.2 0 64
  ⟨a.1, b.1, c.1, d.1, z.1, z.2.1, z.2.2⟩
theorem headM_len (s : List UInt8) : (headM s).s.length ≤ s.length ∧ 0 ≤ (headM s).z ∧ (headM s).z ≤ 64 :=
  ⟨Nat.le_trans (scanN_len _ _ _ _) (Nat.le_trans (scanN_len _ _ _ _) (Nat.le_trans (scanN_len _ _ _ _) (Nat.le_trans (scanN_len _ _ _ _) (scanN_len _ _ _ _)))), (scanN_range _ _ 0 64 (by decide) (by decide)).1, (scanN_range _ _ 0 64 (by decide) (by decide)).2⟩
/-- A text read as a manifest. -/
def getM (s : List UInt8) : Int ⊕ Mf :=
  let h := headM s
  let q := shardsM h.z.toNat h.s h.e []
  let z := scanN q.2.1 q.2.2 0 32
  let w := snapsM z.1.toNat z.2.1 z.2.2 []
  let e := scanE w.2.1 w.2.2
  if e ≠ 0 then .inl e else if rightM h.g h.st h.ep h.nx q.1 w.1 = true then .inr (h.g, h.st, h.ep, h.nx, q.1, w.1) else .inl 5
theorem cget {n : Nat} (hn : 100 ≤ n) {s : List UInt8} (hs : s.length ≤ 140737488355328) : (F_manifest_Get n s).run = some (getM s) := by
  unfold F_manifest_Get F_codec_From
  simp only [Tree.run, own_app hs, Option.bind_some]
  obtain ⟨b1, e1⟩ := cnumber (n := n) (by omega) false (s := s) (by omega) 0 1 1099511627776
  have l1 := scanN_len s 0 1 1099511627776
  simp only [e1, Option.bind_some]
  generalize ha : scanN s 0 1 1099511627776 = a at *
  obtain ⟨b2, e2⟩ := cnumber (n := n) (by omega) b1 (s := a.2.1) (by omega) a.2.2 1 1099511627776
  have l2 := scanN_len a.2.1 a.2.2 1 1099511627776
  simp only [e2, Option.bind_some]
  generalize hb : scanN a.2.1 a.2.2 1 1099511627776 = b at *
  obtain ⟨b3, e3⟩ := cnumber (n := n) (by omega) b2 (s := b.2.1) (by omega) b.2.2 1 64
  have l3 := scanN_len b.2.1 b.2.2 1 64
  simp only [e3, Option.bind_some]
  generalize hc : scanN b.2.1 b.2.2 1 64 = c at *
  obtain ⟨b4, e4⟩ := cnumber (n := n) (by omega) b3 (s := c.2.1) (by omega) c.2.2 1 1099511627776
  have l4 := scanN_len c.2.1 c.2.2 1 1099511627776
  simp only [e4, Option.bind_some]
  generalize hd : scanN c.2.1 c.2.2 1 1099511627776 = d at *
  obtain ⟨b5, e5⟩ := cnumber (n := n) (by omega) b4 (s := d.2.1) (by omega) d.2.2 0 64
  have l5 := scanN_len d.2.1 d.2.2 0 64
  have r5 := scanN_range d.2.1 d.2.2 0 64 (by decide) (by decide)
  simp only [e5, Option.bind_some]
  generalize hz : scanN d.2.1 d.2.2 0 64 = z at *
  have hh : headM s = ⟨a.1, b.1, c.1, d.1, z.1, z.2.1, z.2.2⟩ := by unfold headM; simp only [ha, hb, hc, hd, hz]
  obtain ⟨b6, e6⟩ := cget_l0 (n := n) (by omega) a.1 b.1 c.1 d.1 [] (z := z.1.toNat) (by omega) z.1.toNat n 0 b5 z.2.1 z.2.2 [] (by omega) (by omega) rfl (by omega)
  have hzz : ((z.1.toNat : Nat) : Int) = z.1 := by omega
  rw [hzz] at e6
  have e6' : (F_manifest_Get_l0 n n z.1 0 a.1 b.1 c.1 d.1 [] [] b5 z.2.1 z.2.2).run = _ := e6
  have l6 := shardsM_len z.1.toNat z.2.1 z.2.2 []
  simp only [e6', Option.bind_some]
  generalize hq : shardsM z.1.toNat z.2.1 z.2.2 [] = q at *
  obtain ⟨b7, e7⟩ := cnumber (n := n) (by omega) b6 (s := q.2.1) (by omega) q.2.2 0 32
  have l7 := scanN_len q.2.1 q.2.2 0 32
  have r7 := scanN_range q.2.1 q.2.2 0 32 (by decide) (by decide)
  simp only [e7, Option.bind_some]
  generalize hy : scanN q.2.1 q.2.2 0 32 = y at *
  obtain ⟨b8, e8⟩ := cget_l2 (n := n) (by omega) a.1 b.1 c.1 d.1 q.1 (z := y.1.toNat) (by omega) y.1.toNat n 0 b7 y.2.1 y.2.2 [] (by omega) (by omega) rfl (by omega)
  have hyy : ((y.1.toNat : Nat) : Int) = y.1 := by omega
  rw [hyy] at e8
  have e8' : (F_manifest_Get_l2 n n y.1 0 a.1 b.1 c.1 d.1 q.1 [] b7 y.2.1 y.2.2).run = _ := e8
  simp only [e8', Option.bind_some, cend, cright hn]
  unfold getM
  simp only [hh, hq, hy]
  generalize snapsM y.1.toNat y.2.1 y.2.2 [] = w
  by_cases he : scanE w.2.1 w.2.2 = 0
  · simp only [he, decide_true, Bool.not_true, cond_false, ne_eq, not_true, if_false]
    cases rightM a.1 b.1 c.1 d.1 q.1 w.1 <;> rfl
  · simp only [he, decide_false, Bool.not_false, cond_true, ne_eq, not_false_eq_true, if_true]
theorem rget {n : Nat} (hn : 100 ≤ n) (b0 : Bool) {s : List UInt8} (hs : s.length ≤ 140737488355328) : (F_r23_Get n b0 s).run = some (getM s) := by
  unfold F_r23_Get
  simp only [Tree.run, Option.bind_some]
  obtain ⟨b1, e1⟩ := rnumber (n := n) (by omega) b0 (s := s) (by omega) 0 1 1099511627776
  have l1 := scanN_len s 0 1 1099511627776
  simp only [e1, Option.bind_some]
  generalize ha : scanN s 0 1 1099511627776 = a at *
  obtain ⟨b2, e2⟩ := rnumber (n := n) (by omega) b1 (s := a.2.1) (by omega) a.2.2 1 1099511627776
  have l2 := scanN_len a.2.1 a.2.2 1 1099511627776
  simp only [e2, Option.bind_some]
  generalize hb : scanN a.2.1 a.2.2 1 1099511627776 = b at *
  obtain ⟨b3, e3⟩ := rnumber (n := n) (by omega) b2 (s := b.2.1) (by omega) b.2.2 1 64
  have l3 := scanN_len b.2.1 b.2.2 1 64
  simp only [e3, Option.bind_some]
  generalize hc : scanN b.2.1 b.2.2 1 64 = c at *
  obtain ⟨b4, e4⟩ := rnumber (n := n) (by omega) b3 (s := c.2.1) (by omega) c.2.2 1 1099511627776
  have l4 := scanN_len c.2.1 c.2.2 1 1099511627776
  simp only [e4, Option.bind_some]
  generalize hd : scanN c.2.1 c.2.2 1 1099511627776 = d at *
  obtain ⟨b5, e5⟩ := rnumber (n := n) (by omega) b4 (s := d.2.1) (by omega) d.2.2 0 64
  have l5 := scanN_len d.2.1 d.2.2 0 64
  have r5 := scanN_range d.2.1 d.2.2 0 64 (by decide) (by decide)
  simp only [e5, Option.bind_some]
  generalize hz : scanN d.2.1 d.2.2 0 64 = z at *
  have hh : headM s = ⟨a.1, b.1, c.1, d.1, z.1, z.2.1, z.2.2⟩ := by unfold headM; simp only [ha, hb, hc, hd, hz]
  obtain ⟨b6, e6⟩ := rget_l0 (n := n) (by omega) a.1 b.1 c.1 d.1 [] (z := z.1.toNat) (by omega) z.1.toNat n 0 b5 z.2.1 z.2.2 [] (by omega) (by omega) rfl (by omega)
  have hzz : ((z.1.toNat : Nat) : Int) = z.1 := by omega
  rw [hzz] at e6
  have e6' : (F_r23_Get_l0 n n z.1 0 a.1 b.1 c.1 d.1 [] [] b5 z.2.1 z.2.2).run = _ := e6
  have l6 := shardsM_len z.1.toNat z.2.1 z.2.2 []
  have a6 := shardsM_all z.1.toNat z.2.1 z.2.2 [] (by simp)
  simp only [e6', Option.bind_some]
  generalize hq : shardsM z.1.toNat z.2.1 z.2.2 [] = q at *
  obtain ⟨b7, e7⟩ := rnumber (n := n) (by omega) b6 (s := q.2.1) (by omega) q.2.2 0 32
  have l7 := scanN_len q.2.1 q.2.2 0 32
  have r7 := scanN_range q.2.1 q.2.2 0 32 (by decide) (by decide)
  simp only [e7, Option.bind_some]
  generalize hy : scanN q.2.1 q.2.2 0 32 = y at *
  obtain ⟨b8, e8⟩ := rget_l2 (n := n) (by omega) a.1 b.1 c.1 d.1 q.1 (z := y.1.toNat) (by omega) y.1.toNat n 0 b7 y.2.1 y.2.2 [] (by omega) (by omega) rfl (by omega)
  have hyy : ((y.1.toNat : Nat) : Int) = y.1 := by omega
  rw [hyy] at e8
  have e8' : (F_r23_Get_l2 n n y.1 0 a.1 b.1 c.1 d.1 q.1 [] b7 y.2.1 y.2.2).run = _ := e8
  have hR : ∀ w : Sn, (F_r23_Right n a.1 b.1 c.1 d.1 false q.1 false w).run = some (rightM a.1 b.1 c.1 d.1 q.1 w) := fun w => rright hn _ _ _ _ _ _ _ _ fun x hx => by
    have := (a6.1 x hx).1
    exact ⟨by omega, by omega⟩
  simp only [e8', Option.bind_some, rend, hR]
  unfold getM
  simp only [hh, hq, hy]
  generalize snapsM y.1.toNat y.2.1 y.2.2 [] = w
  by_cases he : scanE w.2.1 w.2.2 = 0
  · simp only [he, decide_true, Bool.not_true, cond_false, ne_eq, not_true, if_false]
    cases rightM a.1 b.1 c.1 d.1 q.1 w.1 <;> rfl
  · simp only [he, decide_false, Bool.not_false, cond_true, ne_eq, not_false_eq_true, if_true]
end Go.Proofs.Ytdlbmjbbnplpjaa
