/- The cipher, the program's and the document's. -/
import Derived.Test.YtcojhmllnhkbnaaDoorPA
import Derived.Test.YtcojhmllnhkbnaaDoorKc
set_option linter.unusedVariables false
set_option linter.unusedSimpArgs false
set_option maxRecDepth 100000
namespace Hyp
open Go Go.Proofs
def q1 (w : List UInt32) (a b d k : Nat) : List UInt32 :=
  (w.set a (w.getD a 0 + w.getD b 0)).set d (rotl ((w.set a (w.getD a 0 + w.getD b 0)).getD d 0 ^^^ (w.set a (w.getD a 0 + w.getD b 0)).getD a 0) k)
def qr (w : List UInt32) (a b c d : Nat) : List UInt32 := q1 (q1 (q1 (q1 w a b d 16) c d b 12) a b d 8) c d b 7
theorem q1_len {w : List UInt32} {a b d k : Nat} : (q1 w a b d k).length = w.length := by simp [q1]
theorem qr_len {w : List UInt32} {a b c d : Nat} : (qr w a b c d).length = w.length := by simp [qr, q1_len]
theorem gt16 {l : List UInt32} {i : Nat} (h : l.length = 16) (hi : i < 16) : gt l i = some (l.getD i 0) := gtD 0 (by omega)
theorem quarter_run {n : Nat} {w : List UInt32} {a b c d : Nat} (hw : w.length = 16) (ha : a < 16) (hb : b < 16) (hc : c < 16) (hd : d < 16) :
    (F_cipher_grid_quarter n (a : Int) (b : Int) (c : Int) (d : Int) w).run = some (qr w a b c d) := by
  have ia : inI 16 (a : Int) = some a := inI_nat ha
  have ib : inI 16 (b : Int) = some b := inI_nat hb
  have ic : inI 16 (c : Int) = some c := inI_nat hc
  have id : inI 16 (d : Int) = some d := inI_nat hd
  have t16 : ∀ u, (F_word_Turn n u (16 : Int)).run = some (rotl u 16) := fun u => turnP (by decide) (by decide) (by decide)
  have t12 : ∀ u, (F_word_Turn n u (12 : Int)).run = some (rotl u 12) := fun u => turnP (by decide) (by decide) (by decide)
  have t8 : ∀ u, (F_word_Turn n u (8 : Int)).run = some (rotl u 8) := fun u => turnP (by decide) (by decide) (by decide)
  have t7 : ∀ u, (F_word_Turn n u (7 : Int)).run = some (rotl u 7) := fun u => turnP (by decide) (by decide) (by decide)
  unfold F_cipher_grid_quarter
  simp only [Tree.run, ia, ib, ic, id, Option.bind_some]
  simp only [gt16, List.length_set, hw, ha, hb, hc, hd, Option.bind_some, t16, t12, t8, t7]
  rfl
def drA (w : List UInt32) : List UInt32 := qr (qr (qr (qr w 0 4 8 12) 1 5 9 13) 2 6 10 14) 3 7 11 15
def drB (w : List UInt32) : List UInt32 := qr (qr (qr (qr w 0 5 10 15) 1 6 11 12) 2 7 8 13) 3 4 9 14
def drS (w : List UInt32) : List UInt32 := drB (drA w)
theorem drA_len {w : List UInt32} : (drA w).length = w.length := by simp [drA, qr_len]
theorem drB_len {w : List UInt32} : (drB w).length = w.length := by simp [drB, qr_len]
theorem drS_len {w : List UInt32} : (drS w).length = w.length := by rw [drS, drB_len, drA_len]
def drN : Nat → List UInt32 → List UInt32
  | 0, w => w
  | k + 1, w => drN k (drS w)
theorem drN_len : ∀ (k : Nat) (w : List UInt32), (drN k w).length = w.length
  | 0, _ => rfl
  | k + 1, w => by rw [drN, drN_len k, drS_len]
theorem round_l0 {n m : Nat} (hm : 5 ≤ m) {w : List UInt32} (hw : w.length = 16) : (F_cipher_grid_block_l0 n m (0 : Int) w).run = some (drA w) := by
  obtain ⟨m, rfl⟩ : ∃ q, m = q + 5 := ⟨m - 5, by omega⟩
  have step : ∀ (k i : Nat) (w : List UInt32), i < 4 → w.length = 16 → (F_cipher_grid_block_l0 n (k + 1) (i : Int) w).run = (F_cipher_grid_block_l0 n k ((i + 1 : Nat) : Int) (qr w i (4 + i) (8 + i) (12 + i))).run := by
    intro k i w hi hw
    have e1 : decide ((i : Int) < 4) = true := decide_eq_true (by omega)
    have e2 : w64 ((4 : Int) + (i : Int)) = ((4 + i : Nat) : Int) := by rw [w64_id (by omega) (by omega)]; omega
    have e3 : w64 ((8 : Int) + (i : Int)) = ((8 + i : Nat) : Int) := by rw [w64_id (by omega) (by omega)]; omega
    have e4 : w64 ((12 : Int) + (i : Int)) = ((12 + i : Nat) : Int) := by rw [w64_id (by omega) (by omega)]; omega
    have e8 : w64 ((i : Int) + 1) = ((i + 1 : Nat) : Int) := w64_succ (by omega)
    conv => lhs; unfold F_cipher_grid_block_l0
    simp only [Tree.run, e1, cond_true, e2, e3, e4, e8, quarter_run hw (show i < 16 by omega) (show 4 + i < 16 by omega) (show 8 + i < 16 by omega) (show 12 + i < 16 by omega), Option.bind_some, bind_id]
  have stop : ∀ (k : Nat) (w : List UInt32), (F_cipher_grid_block_l0 n (k + 1) ((4 : Nat) : Int) w).run = some w := fun k w => rfl
  exact (step (m + 4) 0 w (by decide) hw).trans <| (step (m + 3) 1 _ (by decide) (by simp [qr_len, hw])).trans <| (step (m + 2) 2 _ (by decide) (by simp [qr_len, hw])).trans <| (step (m + 1) 3 _ (by decide) (by simp [qr_len, hw])).trans (stop m _)
theorem round_l2 {n m : Nat} (hm : 5 ≤ m) {w : List UInt32} (hw : w.length = 16) : (F_cipher_grid_block_l2 n m (0 : Int) w).run = some (drB w) := by
  obtain ⟨m, rfl⟩ : ∃ q, m = q + 5 := ⟨m - 5, by omega⟩
  have step : ∀ (k i : Nat) (w : List UInt32), i < 4 → w.length = 16 → (F_cipher_grid_block_l2 n (k + 1) (i : Int) w).run = (F_cipher_grid_block_l2 n k ((i + 1 : Nat) : Int) (qr w i (4 + (i + 1) % 4) (8 + (i + 2) % 4) (12 + (i + 3) % 4))).run := by
    intro k i w hi hw
    have e1 : decide ((i : Int) < 4) = true := decide_eq_true (by omega)
    have f1 : w64 ((i : Int) + 1) = ((i + 1 : Nat) : Int) := by rw [w64_id (by omega) (by omega)]; omega
    have f2 : w64 ((i : Int) + 2) = ((i + 2 : Nat) : Int) := by rw [w64_id (by omega) (by omega)]; omega
    have f3 : w64 ((i : Int) + 3) = ((i + 3 : Nat) : Int) := by rw [w64_id (by omega) (by omega)]; omega
    have g : ∀ x : Nat, Int.tmod (x : Int) 4 = ((x % 4 : Nat) : Int) := fun _ => rfl
    have e2 : w64 ((4 : Int) + (((i + 1) % 4 : Nat) : Int)) = ((4 + (i + 1) % 4 : Nat) : Int) := by rw [w64_id (by omega) (by omega)]; omega
    have e3 : w64 ((8 : Int) + (((i + 2) % 4 : Nat) : Int)) = ((8 + (i + 2) % 4 : Nat) : Int) := by rw [w64_id (by omega) (by omega)]; omega
    have e4 : w64 ((12 : Int) + (((i + 3) % 4 : Nat) : Int)) = ((12 + (i + 3) % 4 : Nat) : Int) := by rw [w64_id (by omega) (by omega)]; omega
    conv => lhs; unfold F_cipher_grid_block_l2
    simp only [Tree.run, e1, cond_true, f1, f2, f3, g, e2, e3, e4, quarter_run hw (show i < 16 by omega) (show 4 + (i + 1) % 4 < 16 by omega) (show 8 + (i + 2) % 4 < 16 by omega) (show 12 + (i + 3) % 4 < 16 by omega), Option.bind_some, bind_id]
  have stop : ∀ (k : Nat) (w : List UInt32), (F_cipher_grid_block_l2 n (k + 1) ((4 : Nat) : Int) w).run = some w := fun k w => rfl
  exact (step (m + 4) 0 w (by decide) hw).trans <| (step (m + 3) 1 _ (by decide) (by simp [qr_len, hw])).trans <| (step (m + 2) 2 _ (by decide) (by simp [qr_len, hw])).trans <| (step (m + 1) 3 _ (by decide) (by simp [qr_len, hw])).trans (stop m _)
def outL4 : List UInt32 → List UInt8
  | [] => []
  | w :: l => leN 4 w.toNat ++ outL4 l
theorem outL4_len : ∀ l, (outL4 l).length = 4 * l.length
  | [] => rfl
  | w :: l => by rw [outL4, List.length_append, leN_len, outL4_len l, List.length_cons]; omega
def chaB (g : List UInt32) : List UInt8 := outL4 (List.zipWith (· + ·) (drN 10 g) g)
theorem chaB_len {g : List UInt32} (h : g.length = 16) : (chaB g).length = 64 := by
  rw [chaB, outL4_len, List.length_zipWith, drN_len]; omega
theorem block_l4 {n : Nat} (hn : 5 ≤ n) : ∀ (k r i : Nat) (h g : List UInt32) (done : List UInt8), h.length = 16 → g.length = 16 → done.length = 4 * i → i + r = 16 → r < k →
    (F_cipher_grid_block_l4 n k h (i : Int) g (done ++ zs (4 * r))).run = some (done ++ outL4 (List.zipWith (· + ·) (h.drop i) (g.drop i)))
  | 0, _, _, _, _, _, _, _, _, _, h => by omega
  | k + 1, 0, i, h, g, done, h8, hg, hd, hi, hk => by
    have e1 : decide ((i : Int) < 16) = false := decide_eq_false (by omega)
    unfold F_cipher_grid_block_l4
    simp only [Tree.run, e1, cond_false]
    rw [List.drop_of_length_le (by omega), List.zipWith_nil_left]; rfl
  | k + 1, r + 1, i, h, g, done, h8, hg, hd, hi, hk => by
    have hl : i < h.length := by omega
    have hl2 : i < g.length := by omega
    have e1 : decide ((i : Int) < 16) = true := decide_eq_true (by omega)
    have e2 : getI h (i : Int) = some h[i] := getI_lt hl
    have e3 : w64 ((4 : Int) * (i : Int)) = ((4 * i : Nat) : Int) := by rw [w64_id (by omega) (by omega)]; omega
    have e4 : (ite (And ((0 : Int) ≤ ((4 * i : Nat) : Int)) (And (((4 * i : Nat) : Int) ≤ (64 : Int)) ((64 : Int) ≤ (64 : Int)))) (Option.some Unit.unit) Option.none) = some () := if_pos ⟨by omega, by omega, by omega⟩
    have e5 : inI 16 (i : Int) = some i := inI_nat (by omega)
    have e6 : gt g i = some g[i] := gt_lt hl2
    have e8 : w64 ((i : Int) + 1) = ((i + 1 : Nat) : Int) := w64_succ (by omega)
    have e9 : cpy (done ++ zs (4 * (r + 1))) (4 * i) (64 - 4 * i) (leN 4 (h[i] + g[i]).toNat) = (done ++ leN 4 (h[i] + g[i]).toNat) ++ zs (4 * r) := by
      rw [cpy_at hd (by rw [leN_len, List.length_replicate]; omega) (by rw [leN_len]; omega), leN_len, List.drop_replicate, show 4 * (r + 1) - 4 = 4 * r by omega]
    have ih := block_l4 hn k r (i + 1) h g (done ++ leN 4 (h[i] + g[i]).toNat) h8 hg (by rw [List.length_append, leN_len]; omega) (by omega) (by omega)
    unfold F_cipher_grid_block_l4
    simp only [Tree.run, e1, cond_true, e2, e3, e4, e5, e6, e8, Option.bind_some, store_le hn, Int.toNat_natCast, List.drop_zero, List.take_length, e9, ih]
    rw [List.drop_eq_getElem_cons hl, List.drop_eq_getElem_cons hl2, List.zipWith_cons_cons, outL4, List.append_assoc]
theorem block_4 {n : Nat} (hn : 17 ≤ n) {h g : List UInt32} (h1 : h.length = 16) (h2 : g.length = 16) : (F_cipher_grid_block_l4 n n h (0 : Int) g (zs 64)).run = some (outL4 (List.zipWith (· + ·) h g)) := by
  have e := block_l4 (n := n) (by omega) n 16 0 h g [] h1 h2 rfl rfl (by omega)
  rw [List.drop_zero, List.drop_zero, List.nil_append, List.nil_append] at e
  exact e
theorem rounds_l {n : Nat} (hn : 17 ≤ n) {g : List UInt32} (hg : g.length = 16) : ∀ (k j : Nat) (w : List UInt32), w.length = 16 → j < k → j ≤ 1000 →
    (F_cipher_grid_block_l100000 n k ((j + 1 : Nat) : Int) g (zs 64) w).run = some (outL4 (List.zipWith (· + ·) (drN (j + 1) w) g), drN (j + 1) w)
  | 0, _, _, _, h, _ => by omega
  | k + 1, j, w, hw, hk, hj => by
    have e1 : (F_cipher_grid_block_l0 n n (0 : Int) w).run = some (drA w) := round_l0 (by omega) hw
    have e2 : (F_cipher_grid_block_l2 n n (0 : Int) (drA w)).run = some (drS w) := round_l2 (by omega) (by rw [drA_len]; exact hw)
    have e3 : w64 (((j + 1 : Nat) : Int) - 1) = (j : Int) := by rw [w64_id (by omega) (by omega)]; omega
    have hS : (drS w).length = 16 := by rw [drS_len]; exact hw
    rw [drN]
    unfold F_cipher_grid_block_l100000
    simp only [Tree.run, e1, e2, e3, Option.bind_some]
    generalize drS w = W at hS ⊢
    by_cases h0 : j = 0
    · subst h0
      have e4 : decide ((0 : Int) < ((0 : Nat) : Int)) = false := rfl
      have e5 := block_4 hn hS hg
      simp only [e4, cond_false, e5, Option.bind_some, drN]
    · obtain ⟨i, rfl⟩ : ∃ i, j = i + 1 := ⟨j - 1, by omega⟩
      have e4 : decide ((0 : Int) < ((i + 1 : Nat) : Int)) = true := decide_eq_true (by omega)
      have ih := rounds_l hn hg k i W hS (by omega) (by omega)
      simp only [e4, cond_true, Option.bind_some, ih]
theorem gblock_run {n : Nat} (hn : 17 ≤ n) {g : List UInt32} (hg : g.length = 16) : (F_cipher_grid_block n g).run = some (chaB g) := by
  have e1 : (F_cipher_grid_block_l0 n n (0 : Int) g).run = some (drA g) := round_l0 (by omega) hg
  have e2 : (F_cipher_grid_block_l2 n n (0 : Int) (drA g)).run = some (drS g) := round_l2 (by omega) (by rw [drA_len]; exact hg)
  have hS : (drS g).length = 16 := by rw [drS_len]; exact hg
  have hc : chaB g = outL4 (List.zipWith (· + ·) (drN 9 (drS g)) g) := by unfold chaB; rw [drN]
  rw [hc]
  unfold F_cipher_grid_block
  simp only [Tree.run, e1, e2, Option.bind_some, cond_true]
  generalize drS g = W at hS ⊢
  have e3 : (F_cipher_grid_block_l100000 n n (9 : Int) g (zs 64) W).run = some (outL4 (List.zipWith (· + ·) (drN 9 W) g), drN 9 W) := rounds_l hn hg n 8 W hS (by omega) (by omega)
  simp only [e3, Option.bind_some]
def ldL : Nat → List UInt8 → List UInt32
  | 0, _ => []
  | k + 1, b => UInt32.ofNat (leV (b.take 4)) :: ldL k (b.drop 4)
theorem ldL_len : ∀ k b, (ldL k b).length = k
  | 0, _ => rfl
  | k + 1, b => by rw [ldL, List.length_cons, ldL_len k]
def gridS (key nonce : List UInt8) (c : UInt32) : List UInt32 := [1634760805, 857760878, 2036477234, 1797285236] ++ ldL 8 key ++ [c] ++ ldL 3 nonce
theorem gridS_len {key nonce : List UInt8} {c : UInt32} : (gridS key nonce c).length = 16 := by simp [gridS, ldL_len]
theorem gbegun_l0 {n : Nat} (hn : 5 ≤ n) {b0 : Bool} {b : List UInt8} (hb : b.length = 32) : ∀ (k r i : Nat) (done : List UInt32), done.length = 4 + i → i + r = 8 → r < k →
    (F_cipher_begun_l0 n k b0 b (i : Int) (done ++ List.replicate (r + 4) 0)).run = some (done ++ ldL r (b.drop (4 * i)) ++ List.replicate 4 0)
  | 0, _, _, _, _, _, h => by omega
  | k + 1, 0, i, done, h1, h2, h3 => by
    have e1 : decide ((i : Int) < 8) = false := decide_eq_false (by omega)
    unfold F_cipher_begun_l0
    simp only [Tree.run, e1, cond_false, ldL, List.append_nil, Nat.zero_add]
  | k + 1, r + 1, i, done, h1, h2, h3 => by
    have e1 : decide ((i : Int) < 8) = true := decide_eq_true (by omega)
    have e2 : w64 ((4 : Int) * (i : Int)) = ((4 * i : Nat) : Int) := by rw [w64_id (by omega) (by omega)]; omega
    have e3 : w64 (((4 * i : Nat) : Int) + 4) = ((4 * i + 4 : Nat) : Int) := by rw [w64_id (by omega) (by omega)]; omega
    have e4 : subI b ((4 * i : Nat) : Int) ((4 * i + 4 : Nat) : Int) = some ((b.drop (4 * i)).take 4) := by
      rw [subI_nat (by omega) (by omega)]
      congr 2; omega
    have e5 : (F_word_Load n false ((b.drop (4 * i)).take 4)).run = some (UInt32.ofNat (leV ((b.drop (4 * i)).take 4)), 0) := load_le hn (by simp; omega)
    have e0 : w64 ((4 : Int) + (i : Int)) = ((4 + i : Nat) : Int) := by rw [w64_id (by omega) (by omega)]; omega
    have e6 : inI 16 ((4 + i : Nat) : Int) = some (4 + i) := inI_nat (by omega)
    have e7 : gt (done ++ List.replicate (r + 1 + 4) (0 : UInt32)) (4 + i) = some _ := gt_lt (by simp; omega)
    have e8 : w64 ((i : Int) + 1) = ((i + 1 : Nat) : Int) := w64_succ (by omega)
    have e9 : (done ++ List.replicate (r + 1 + 4) (0 : UInt32)).set (4 + i) (UInt32.ofNat (leV ((b.drop (4 * i)).take 4))) = (done ++ [UInt32.ofNat (leV ((b.drop (4 * i)).take 4))]) ++ List.replicate (r + 4) 0 := by
      rw [show r + 1 + 4 = (r + 4) + 1 by omega]; exact set_rep _ _ _ _ h1
    have ih := gbegun_l0 hn (b0 := b0) (b := b) hb k r (i + 1) (done ++ [UInt32.ofNat (leV ((b.drop (4 * i)).take 4))]) (by simp; omega) (by omega) (by omega)
    unfold F_cipher_begun_l0
    simp only [Tree.run, e1, cond_true, e2, e3, e4, e5, e0, e6, e7, e8, e9, Option.bind_some, ih]
    rw [ldL, List.drop_drop, List.append_assoc done, List.singleton_append, show 4 * (i + 1) = 4 * i + 4 by omega]
theorem gbegun_l2 {n : Nat} (hn : 5 ≤ n) {b0 : Bool} {b : List UInt8} (hb : b.length = 12) : ∀ (k r i : Nat) (done : List UInt32), done.length = 13 + i → i + r = 3 → r < k →
    (F_cipher_begun_l2 n k b0 b (i : Int) (done ++ List.replicate r 0)).run = some (done ++ ldL r (b.drop (4 * i)))
  | 0, _, _, _, _, _, h => by omega
  | k + 1, 0, i, done, h1, h2, h3 => by
    have e1 : decide ((i : Int) < 3) = false := decide_eq_false (by omega)
    unfold F_cipher_begun_l2
    simp only [Tree.run, e1, cond_false, ldL, List.append_nil, List.replicate_zero]
  | k + 1, r + 1, i, done, h1, h2, h3 => by
    have e1 : decide ((i : Int) < 3) = true := decide_eq_true (by omega)
    have e2 : w64 ((4 : Int) * (i : Int)) = ((4 * i : Nat) : Int) := by rw [w64_id (by omega) (by omega)]; omega
    have e3 : w64 (((4 * i : Nat) : Int) + 4) = ((4 * i + 4 : Nat) : Int) := by rw [w64_id (by omega) (by omega)]; omega
    have e4 : subI b ((4 * i : Nat) : Int) ((4 * i + 4 : Nat) : Int) = some ((b.drop (4 * i)).take 4) := by
      rw [subI_nat (by omega) (by omega)]
      congr 2; omega
    have e5 : (F_word_Load n false ((b.drop (4 * i)).take 4)).run = some (UInt32.ofNat (leV ((b.drop (4 * i)).take 4)), 0) := load_le hn (by simp; omega)
    have e0 : w64 ((13 : Int) + (i : Int)) = ((13 + i : Nat) : Int) := by rw [w64_id (by omega) (by omega)]; omega
    have e6 : inI 16 ((13 + i : Nat) : Int) = some (13 + i) := inI_nat (by omega)
    have e7 : gt (done ++ List.replicate (r + 1) (0 : UInt32)) (13 + i) = some _ := gt_lt (by simp; omega)
    have e8 : w64 ((i : Int) + 1) = ((i + 1 : Nat) : Int) := w64_succ (by omega)
    have e9 : (done ++ List.replicate (r + 1) (0 : UInt32)).set (13 + i) (UInt32.ofNat (leV ((b.drop (4 * i)).take 4))) = (done ++ [UInt32.ofNat (leV ((b.drop (4 * i)).take 4))]) ++ List.replicate r 0 := set_rep _ _ _ _ h1
    have ih := gbegun_l2 hn (b0 := b0) (b := b) hb k r (i + 1) (done ++ [UInt32.ofNat (leV ((b.drop (4 * i)).take 4))]) (by simp; omega) (by omega) (by omega)
    unfold F_cipher_begun_l2
    simp only [Tree.run, e1, cond_true, e2, e3, e4, e5, e0, e6, e7, e8, e9, Option.bind_some, ih]
    rw [ldL, List.drop_drop, List.append_assoc done, List.singleton_append, show 4 * (i + 1) = 4 * i + 4 by omega]
theorem begunC {n : Nat} (hn : 9 ≤ n) {b0 b1 : Bool} {key nonce : List UInt8} (hk : key.length = 32) (hm : nonce.length = 12) : (F_cipher_begun n b0 key b1 nonce).run = some (gridS key nonce 0, true) := by
  have c0 : ((!(decide ((ln key) = (32 : Int)))) || (!(decide ((ln nonce) = (12 : Int))))) = false := by rw [lnEq hk, lnEq hm]; rfl
  have e1 := gbegun_l0 (n := n) (by omega) (b0 := b0) hk n 8 0 [1634760805, 857760878, 2036477234, 1797285236] rfl rfl (by omega)
  have e2 := gbegun_l2 (n := n) (by omega) (b0 := b1) hm n 3 0 ([1634760805, 857760878, 2036477234, 1797285236] ++ ldL 8 key ++ [0]) (by simp [ldL_len]) rfl (by omega)
  simp only [Nat.mul_zero, List.drop_zero] at e1 e2
  unfold F_cipher_begun
  simp only [Tree.run, c0, cond_false]
  refine bndO e1 ?_
  rw [show [1634760805, 857760878, 2036477234, 1797285236] ++ ldL 8 key ++ List.replicate 4 (0 : UInt32) = [1634760805, 857760878, 2036477234, 1797285236] ++ ldL 8 key ++ [0] ++ List.replicate 3 (0 : UInt32) by simp [List.replicate]]
  refine bndO e2 ?_
  rfl
theorem grid_set {key nonce : List UInt8} {c d : UInt32} : (gridS key nonce c).set 12 d = gridS key nonce d := by
  unfold gridS
  rw [List.append_assoc, List.set_append_right _ _ (by simp [ldL_len])]
  simp [ldL_len]
theorem grid_12 {key nonce : List UInt8} {c : UInt32} : (gridS key nonce c).getD 12 0 = c := by
  unfold gridS
  rw [List.append_assoc, List.getD_eq_getElem?_getD, List.getElem?_append_right (by simp [ldL_len])]
  simp [ldL_len]
theorem cblock_run {n : Nat} (hn : 17 ≤ n) {b0 b1 : Bool} {key nonce : List UInt8} (hk : key.length = 32) (hm : nonce.length = 12) {c : UInt32} : (F_cipher_Block n b0 key b1 nonce c).run = some (chaB (gridS key nonce c), 0) := by
  have e1 := begunC (n := n) (by omega) (b0 := b0) (b1 := b1) hk hm
  have e2 : gt (gridS key nonce 0) 12 = some _ := gt_lt (by rw [gridS_len]; omega)
  have e3 := gblock_run hn (g := gridS key nonce c) gridS_len
  unfold F_cipher_Block
  simp only [Tree.run, e1, Option.bind_some, Bool.not_true, cond_false, e2, grid_set, e3]
def mixQ (B : Nat → List UInt8) : Nat → List UInt8 → List UInt8
  | _, [] => []
  | i, y :: b => (y ^^^ (B (i / 64)).getD (i % 64) 0) :: mixQ B (i + 1) b
theorem mixQ_len {B : Nat → List UInt8} : ∀ (b : List UInt8) (i : Nat), (mixQ B i b).length = b.length
  | [], _ => rfl
  | y :: b, i => by rw [mixQ, List.length_cons, mixQ_len b, List.length_cons]
theorem mixQ_app {B : Nat → List UInt8} : ∀ (a b : List UInt8) (i : Nat), mixQ B i (a ++ b) = mixQ B i a ++ mixQ B (i + a.length) b
  | [], b, i => rfl
  | y :: a, b, i => by
    rw [List.cons_append, mixQ, mixQ_app a b, mixQ, List.cons_append, List.length_cons, show i + 1 + a.length = i + (a.length + 1) by omega]
theorem mixQ_twice {B : Nat → List UInt8} : ∀ (b : List UInt8) (i : Nat), mixQ B i (mixQ B i b) = b
  | [], _ => rfl
  | y :: b, i => by
    rw [mixQ, mixQ, mixQ_twice b, UInt8.xor_assoc, UInt8.xor_self, UInt8.xor_zero]
theorem mixQ_block {B : Nat → List UInt8} {q : Nat} (hB : (B q).length = 64) : ∀ (a : List UInt8) (r : Nat), r + a.length ≤ 64 → mixQ B (64 * q + r) a = xorL a ((B q).drop r)
  | [], r, h => by simp [mixQ, xorL]
  | y :: a, r, h => by
    rw [List.length_cons] at h
    have hl : r < (B q).length := by omega
    have e1 : (64 * q + r) / 64 = q := by omega
    have e2 : (64 * q + r) % 64 = r := by omega
    have ih := mixQ_block hB a (r + 1) (by omega)
    rw [mixQ, e1, e2, show 64 * q + r + 1 = 64 * q + (r + 1) by omega, ih, List.drop_eq_getElem_cons hl]
    unfold xorL
    rw [List.zipWith_cons_cons, List.getD_eq_getElem?_getD, List.getElem?_eq_getElem hl]; rfl
def blkP (key nonce : List UInt8) (c : UInt32) (q : Nat) : List UInt8 := chaB (gridS key nonce (c + UInt32.ofNat q))
theorem blkP_len {key nonce : List UInt8} {c : UInt32} {q : Nat} : (blkP key nonce c q).length = 64 := chaB_len gridS_len
def mixP (key nonce : List UInt8) (c : UInt32) (i : Nat) (b : List UInt8) : List UInt8 := mixQ (blkP key nonce c) i b
theorem mixP_len {key nonce : List UInt8} {c : UInt32} (b : List UInt8) (i : Nat) : (mixP key nonce c i b).length = b.length := mixQ_len b i
theorem mixP_app {key nonce : List UInt8} {c : UInt32} (a b : List UInt8) (i : Nat) : mixP key nonce c i (a ++ b) = mixP key nonce c i a ++ mixP key nonce c (i + a.length) b := mixQ_app a b i
theorem mixP_twice {key nonce : List UInt8} {c : UInt32} (b : List UInt8) (i : Nat) : mixP key nonce c i (mixP key nonce c i b) = b := mixQ_twice b i
theorem mixP_block {key nonce : List UInt8} {c : UInt32} {q : Nat} (a : List UInt8) (r : Nat) (h : r + a.length ≤ 64) : mixP key nonce c (64 * q + r) a = xorL a ((blkP key nonce c q).drop r) := mixQ_block blkP_len a r h
theorem u32_succ (c : UInt32) (q : Nat) : c + UInt32.ofNat q + 1 = c + UInt32.ofNat (q + 1) := by
  rw [UInt32.ofNat_add, UInt32.add_assoc]; rfl
theorem mixL_run {key nonce : List UInt8} {c : UInt32} : ∀ (k q : Nat) (b : List UInt8), b ≠ [] → b.length ≤ k → c.toNat + q + b.length < 4294967296 →
    mixL k (gridS key nonce (c + UInt32.ofNat q)) b = some (mixP key nonce c (64 * q) b)
  | 0, q, b, h1, h2, _ => by
    exact absurd (List.length_eq_zero_iff.1 (by omega)) h1
  | k + 1, q, b, h1, h2, h3 => by
    rw [mixL, gblock_run (by omega) gridS_len, show chaB (gridS key nonce (c + UInt32.ofNat q)) = blkP key nonce c q from rfl]
    simp only [Option.bind_some]
    by_cases hl : b.length ≤ 64
    · have := mixP_block (key := key) (nonce := nonce) (c := c) (q := q) b 0 (by omega)
      rw [if_pos hl, show 64 * q = 64 * q + 0 by omega, this, List.drop_zero]
    · have hq : b.length < 4294967296 := by omega
      have e1 : ¬ (gridS key nonce (c + UInt32.ofNat q)).getD 12 0 + 1 = 0 := by
        rw [grid_12, u32_succ]
        intro h0
        have := congrArg UInt32.toNat h0
        rw [UInt32.toNat_add, UInt32.toNat_ofNat'] at this
        simp at this
        omega
      rw [if_neg hl, if_neg e1, grid_12, grid_set, u32_succ]
      have ih := mixL_run (key := key) (nonce := nonce) (c := c) k (q + 1) (b.drop 64) (by intro h0; have := congrArg List.length h0; simp at this; omega) (by simp; omega) (by simp; omega)
      rw [ih]
      have := mixP_block (key := key) (nonce := nonce) (c := c) (q := q) (b.take 64) 0 (by simp; omega)
      rw [List.drop_zero] at this
      simp only [Option.map_some]
      rw [← this]
      have e5 := mixP_app (key := key) (nonce := nonce) (c := c) (b.take 64) (b.drop 64) (64 * q + 0)
      rw [List.take_append_drop, List.length_take, Nat.min_eq_left (by omega)] at e5
      rw [show 64 * q = 64 * q + 0 by omega, e5]
      congr 2
theorem mix_run {key nonce b : List UInt8} (hk : key.length = 32) (hm : nonce.length = 12) (hb : b.length ≤ 1000000) : mixI key nonce 1 b = some (mixP key nonce 1 0 b, 0) := by
  unfold mixI
  rw [if_neg (by omega), if_neg (by show ¬ (4294967296 - 1) * 64 < b.length; omega)]
  by_cases h0 : b = []
  · rw [if_pos h0, h0]; rfl
  · rw [if_neg h0, begunC (by omega) hk hm]
    simp only [Option.bind_some, if_true, grid_set]
    have := mixL_run (key := key) (nonce := nonce) (c := 1) (b.length + 1) 0 b h0 (by omega) (by show 1 + 0 + b.length < _; omega)
    rw [show (1 : UInt32) + UInt32.ofNat 0 = 1 from rfl] at this
    rw [this]; rfl
end Hyp
