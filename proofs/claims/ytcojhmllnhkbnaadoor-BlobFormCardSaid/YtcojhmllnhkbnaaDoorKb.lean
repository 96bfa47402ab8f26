/- The program's words, sums and tags: what the printed functions come to. -/
import Derived.Test.YtcojhmllnhkbnaaDoorPA
import Derived.Test.YtcojhmllnhkbnaaDoorKa
set_option linter.unusedVariables false
set_option linter.unusedSimpArgs false
set_option maxRecDepth 100000
namespace Hyp
open Go Go.Proofs
theorem turnP {n : Nat} {w : UInt32} {x : Int} {k : Nat} (hk : k < 32) (e1 : UInt32.toNat ((int32 x) &&& (31 : UInt32)) = k) (e2 : UInt32.toNat (((32 : UInt32) - ((int32 x) &&& (31 : UInt32))) &&& (31 : UInt32)) = (32 - k) % 32) :
    (F_word_Turn n w x).run = some (rotl w k) := by
  unfold F_word_Turn
  simp only [Tree.run, e1, e2, turn_prog hk]
theorem shr32_nat {w : UInt32} {k : Nat} (hk : k ≤ 32) : (shr32 w k).toNat = w.toNat / 2 ^ k := by
  unfold shr32
  rw [UInt32.toNat_ofNat', Nat.min_eq_left hk, Nat.mod_eq_of_lt (Nat.lt_of_le_of_lt (Nat.div_le_self _ _) w.toNat_lt)]
theorem shr64_nat {w : UInt64} {k : Nat} (hk : k ≤ 64) : (shr64 w k).toNat = w.toNat / 2 ^ k := by
  unfold shr64
  rw [UInt64.toNat_ofNat', Nat.min_eq_left hk, Nat.mod_eq_of_lt (Nat.lt_of_le_of_lt (Nat.div_le_self _ _) w.toNat_lt)]
theorem shl_or_nat {x c : Nat} (hc : c < 256) : x * 256 ||| c = x * 256 + c := by
  have := Nat.shiftLeft_add_eq_or_of_lt (a := x) (i := 8) (b := c) (by omega)
  rw [Nat.shiftLeft_eq] at this
  exact this.symm
theorem shl8_or {x : Nat} {c : UInt8} (hx : x < 16777216) : (shl32 (UInt32.ofNat x) 8 ||| UInt32.ofNat c.toNat) = UInt32.ofNat (x * 256 + c.toNat) := by
  have hc := c.toNat_lt
  apply UInt32.toNat_inj.1
  rw [UInt32.toNat_or]
  unfold shl32
  rw [UInt32.toNat_ofNat', UInt32.toNat_ofNat', UInt32.toNat_ofNat', UInt32.toNat_ofNat', Nat.min_eq_left (by omega)]
  have e1 : x % 2 ^ 32 = x := Nat.mod_eq_of_lt (by omega)
  have e2 : x * 2 ^ 8 % 2 ^ 32 = x * 256 := Nat.mod_eq_of_lt (by omega)
  have e3 : c.toNat % 2 ^ 32 = c.toNat := Nat.mod_eq_of_lt (by omega)
  have e4 : (x * 256 + c.toNat) % 2 ^ 32 = x * 256 + c.toNat := Nat.mod_eq_of_lt (by omega)
  rw [e1, e2, e3, e4, shl_or_nat (by omega)]
theorem shl8_or64 {x : Nat} {c : UInt8} (hx : x < 72057594037927936) : (shl64 (UInt64.ofNat x) 8 ||| UInt64.ofNat c.toNat) = UInt64.ofNat (x * 256 + c.toNat) := by
  have hc := c.toNat_lt
  apply UInt64.toNat_inj.1
  rw [UInt64.toNat_or]
  unfold shl64
  rw [UInt64.toNat_ofNat', UInt64.toNat_ofNat', UInt64.toNat_ofNat', UInt64.toNat_ofNat', Nat.min_eq_left (by omega)]
  have e1 : x % 2 ^ 64 = x := Nat.mod_eq_of_lt (by omega)
  have e2 : x * 2 ^ 8 % 2 ^ 64 = x * 256 := Nat.mod_eq_of_lt (by omega)
  have e3 : c.toNat % 2 ^ 64 = c.toNat := Nat.mod_eq_of_lt (by omega)
  have e4 : (x * 256 + c.toNat) % 2 ^ 64 = x * 256 + c.toNat := Nat.mod_eq_of_lt (by omega)
  rw [e1, e2, e3, e4, shl_or_nat (by omega)]
theorem be4_or {a b c d : UInt8} : (shl32 (shl32 (shl32 (shl32 (0 : UInt32) 8 ||| UInt32.ofNat a.toNat) 8 ||| UInt32.ofNat b.toNat) 8 ||| UInt32.ofNat c.toNat) 8 ||| UInt32.ofNat d.toNat) = UInt32.ofNat (be [a, b, c, d]) := by
  have ha := a.toNat_lt
  have hb := b.toNat_lt
  have hc := c.toNat_lt
  rw [show (0 : UInt32) = UInt32.ofNat 0 from rfl, shl8_or (by omega), shl8_or (by omega), shl8_or (by omega), shl8_or (by omega)]
  rfl
theorem load_be {n : Nat} (hn : 5 ≤ n) {b0 : Bool} {b : List UInt8} (h : b.length = 4) : (F_word_Load_1 n b0 b).run = some (UInt32.ofNat (be b), 0) := by
  obtain ⟨a, b, c, d, rfl⟩ := len4 h
  obtain ⟨m, rfl⟩ : ∃ m, n = m + 5 := ⟨n - 5, by omega⟩
  have e : (F_word_Load_1 (m + 5) b0 [a, b, c, d]).run = some (shl32 (shl32 (shl32 (shl32 (0 : UInt32) 8 ||| UInt32.ofNat a.toNat) 8 ||| UInt32.ofNat b.toNat) 8 ||| UInt32.ofNat c.toNat) 8 ||| UInt32.ofNat d.toNat, 0) := by kernel_rfl
  rw [e, be4_or]
theorem load_le {n : Nat} (hn : 5 ≤ n) {b0 : Bool} {b : List UInt8} (h : b.length = 4) : (F_word_Load n b0 b).run = some (UInt32.ofNat (leV b), 0) := by
  obtain ⟨a, b, c, d, rfl⟩ := len4 h
  obtain ⟨m, rfl⟩ : ∃ m, n = m + 5 := ⟨n - 5, by omega⟩
  have e : (F_word_Load (m + 5) b0 [a, b, c, d]).run = some (shl32 (shl32 (shl32 (shl32 (0 : UInt32) 8 ||| UInt32.ofNat d.toNat) 8 ||| UInt32.ofNat c.toNat) 8 ||| UInt32.ofNat b.toNat) 8 ||| UInt32.ofNat a.toNat, 0) := by kernel_rfl
  rw [e, be4_or]
  rfl
theorem beN4 (m : Nat) : beN 4 m = [UInt8.ofNat (m / 2 ^ 24), UInt8.ofNat (m / 2 ^ 16), UInt8.ofNat (m / 2 ^ 8), UInt8.ofNat (m / 2 ^ 0)] := by
  simp only [beN, List.nil_append, List.cons_append, Nat.div_div_eq_div_mul]
  simp
theorem store_be {n : Nat} (hn : 5 ≤ n) {w : UInt32} : (F_word_Store_1 n w).run = some (beN 4 w.toNat) := by
  obtain ⟨m, rfl⟩ : ∃ m, n = m + 5 := ⟨n - 5, by omega⟩
  have e : (F_word_Store_1 (m + 5) w).run = some [UInt8.ofNat (shr32 w 24).toNat, UInt8.ofNat (shr32 w 16).toNat, UInt8.ofNat (shr32 w 8).toNat, UInt8.ofNat (shr32 w 0).toNat] := by kernel_rfl
  rw [e, shr32_nat (by omega), shr32_nat (by omega), shr32_nat (by omega), shr32_nat (by omega), beN4]
theorem store_le {n : Nat} (hn : 5 ≤ n) {w : UInt32} : (F_word_Store n w).run = some (leN 4 w.toNat) := by
  obtain ⟨m, rfl⟩ : ∃ m, n = m + 5 := ⟨n - 5, by omega⟩
  have e : (F_word_Store (m + 5) w).run = some [UInt8.ofNat (shr32 w 0).toNat, UInt8.ofNat (shr32 w 8).toNat, UInt8.ofNat (shr32 w 16).toNat, UInt8.ofNat (shr32 w 24).toNat] := by kernel_rfl
  rw [e, shr32_nat (by omega), shr32_nat (by omega), shr32_nat (by omega), shr32_nat (by omega), leN, beN4]
  rfl
theorem beN8 (m : Nat) : beN 8 m = [UInt8.ofNat (m / 2 ^ 56), UInt8.ofNat (m / 2 ^ 48), UInt8.ofNat (m / 2 ^ 40), UInt8.ofNat (m / 2 ^ 32), UInt8.ofNat (m / 2 ^ 24), UInt8.ofNat (m / 2 ^ 16), UInt8.ofNat (m / 2 ^ 8), UInt8.ofNat (m / 2 ^ 0)] := by
  simp only [beN, List.nil_append, List.cons_append, Nat.div_div_eq_div_mul]
  simp
theorem tell_be {n : Nat} (hn : 9 ≤ n) {w : UInt64} : (F_word_Tell n w).run = some (beN 8 w.toNat) := by
  obtain ⟨m, rfl⟩ : ∃ m, n = m + 9 := ⟨n - 9, by omega⟩
  have e : (F_word_Tell (m + 9) w).run = some [UInt8.ofNat (shr64 w 56).toNat, UInt8.ofNat (shr64 w 48).toNat, UInt8.ofNat (shr64 w 40).toNat, UInt8.ofNat (shr64 w 32).toNat, UInt8.ofNat (shr64 w 24).toNat, UInt8.ofNat (shr64 w 16).toNat, UInt8.ofNat (shr64 w 8).toNat, UInt8.ofNat (shr64 w 0).toNat] := by kernel_rfl
  rw [e, shr64_nat (by omega), shr64_nat (by omega), shr64_nat (by omega), shr64_nat (by omega), shr64_nat (by omega), shr64_nat (by omega), shr64_nat (by omega), shr64_nat (by omega), beN8]
theorem early_run (n : Nat) (w : UInt32) : (F_digest_early n w).run = some (earlyS w) := by
  unfold F_digest_early
  simp only [Tree.run, turnP (n := n) (w := w) (x := -7) (k := 25) (by decide) (by decide) (by decide), turnP (n := n) (w := w) (x := -18) (k := 14) (by decide) (by decide) (by decide), Option.bind_some]
  rfl
theorem late_run (n : Nat) (w : UInt32) : (F_digest_late n w).run = some (lateS w) := by
  unfold F_digest_late
  simp only [Tree.run, turnP (n := n) (w := w) (x := -17) (k := 15) (by decide) (by decide) (by decide), turnP (n := n) (w := w) (x := -19) (k := 13) (by decide) (by decide) (by decide), Option.bind_some]
  rfl
theorem low_run (n : Nat) (w : UInt32) : (F_digest_low n w).run = some (lowS w) := by
  unfold F_digest_low
  simp only [Tree.run, turnP (n := n) (w := w) (x := -2) (k := 30) (by decide) (by decide) (by decide), turnP (n := n) (w := w) (x := -13) (k := 19) (by decide) (by decide) (by decide), turnP (n := n) (w := w) (x := -22) (k := 10) (by decide) (by decide) (by decide), Option.bind_some]
  rfl
theorem high_run (n : Nat) (w : UInt32) : (F_digest_high n w).run = some (highS w) := by
  unfold F_digest_high
  simp only [Tree.run, turnP (n := n) (w := w) (x := -6) (k := 26) (by decide) (by decide) (by decide), turnP (n := n) (w := w) (x := -11) (k := 21) (by decide) (by decide) (by decide), turnP (n := n) (w := w) (x := -25) (k := 7) (by decide) (by decide) (by decide), Option.bind_some]
  rfl
theorem words_l0 {n : Nat} (hn : 5 ≤ n) {b0 : Bool} {b : List UInt8} : ∀ (k r i : Nat) (done : List UInt32), done.length = i → i + r = 16 → r < k → 64 ≤ b.length →
    (F_digest_words_l0 n k b0 b (i : Int) (done ++ List.replicate (r + 48) 0)).run = some (done ++ ldW r (b.drop (4 * i)) ++ List.replicate 48 0)
  | 0, _, _, _, _, _, h, _ => by omega
  | k + 1, 0, i, done, h1, h2, h3, h4 => by
    have e1 : decide ((i : Int) < 16) = false := decide_eq_false (by omega)
    unfold F_digest_words_l0
    simp only [Tree.run, e1, cond_false, ldW, List.append_nil, Nat.zero_add]
  | k + 1, r + 1, i, done, h1, h2, h3, h4 => by
    have e1 : decide ((i : Int) < 16) = true := decide_eq_true (by omega)
    have e2 : w64 ((4 : Int) * (i : Int)) = ((4 * i : Nat) : Int) := by rw [w64_id (by omega) (by omega)]; omega
    have e3 : w64 (((4 * i : Nat) : Int) + 4) = ((4 * i + 4 : Nat) : Int) := by rw [w64_id (by omega) (by omega)]; omega
    have e4 : subI b ((4 * i : Nat) : Int) ((4 * i + 4 : Nat) : Int) = some ((b.drop (4 * i)).take 4) := by
      rw [subI_nat (by omega) (by omega)]
      congr 2; omega
    have e5 : (F_word_Load_1 n false ((b.drop (4 * i)).take 4)).run = some (UInt32.ofNat (be ((b.drop (4 * i)).take 4)), 0) := load_be hn (by simp; omega)
    have e6 : inI 64 (i : Int) = some i := inI_nat (by omega)
    have e7 : gt (done ++ List.replicate (r + 1 + 48) (0 : UInt32)) i = some _ := gt_lt (by simp; omega)
    have e8 : w64 ((i : Int) + 1) = ((i + 1 : Nat) : Int) := w64_succ (by omega)
    have e9 : (done ++ List.replicate (r + 1 + 48) (0 : UInt32)).set i (UInt32.ofNat (be ((b.drop (4 * i)).take 4))) = (done ++ [UInt32.ofNat (be ((b.drop (4 * i)).take 4))]) ++ List.replicate (r + 48) 0 := by
      rw [show r + 1 + 48 = (r + 48) + 1 by omega]; exact set_rep _ _ _ _ h1
    have ih := words_l0 hn (b0 := b0) (b := b) k r (i + 1) (done ++ [UInt32.ofNat (be ((b.drop (4 * i)).take 4))]) (by simp; omega) (by omega) (by omega) h4
    unfold F_digest_words_l0
    simp only [Tree.run, e1, cond_true, e2, e3, e4, e5, e6, e7, e8, e9, Option.bind_some, ih]
    rw [ldW, List.drop_drop, show 4 * (i + 1) = 4 * i + 4 by omega]
    simp only [List.append_assoc, List.singleton_append, List.cons_append, List.nil_append]
theorem words_l2 {n : Nat} : ∀ (k r : Nat) (l : List UInt32), l.length + r = 64 → 16 ≤ l.length → r < k →
    (F_digest_words_l2 n k (l.length : Int) (l ++ List.replicate r 0)).run = some (extW r l)
  | 0, _, _, _, _, h => by omega
  | k + 1, 0, l, h1, h2, h3 => by
    have e1 : decide ((l.length : Int) < 64) = false := decide_eq_false (by omega)
    unfold F_digest_words_l2
    simp only [Tree.run, e1, cond_false, extW, List.replicate_zero, List.append_nil]
  | k + 1, r + 1, l, h1, h2, h3 => by
    have e1 : decide ((l.length : Int) < 64) = true := decide_eq_true (by omega)
    have a2 : inI 64 (w64 ((l.length : Int) - 2)) = some (l.length - 2) := by
      rw [w64_id (by omega) (by omega), show (l.length : Int) - 2 = ((l.length - 2 : Nat) : Int) by omega]; exact inI_nat (by omega)
    have a7 : inI 64 (w64 ((l.length : Int) - 7)) = some (l.length - 7) := by
      rw [w64_id (by omega) (by omega), show (l.length : Int) - 7 = ((l.length - 7 : Nat) : Int) by omega]; exact inI_nat (by omega)
    have a15 : inI 64 (w64 ((l.length : Int) - 15)) = some (l.length - 15) := by
      rw [w64_id (by omega) (by omega), show (l.length : Int) - 15 = ((l.length - 15 : Nat) : Int) by omega]; exact inI_nat (by omega)
    have a16 : inI 64 (w64 ((l.length : Int) - 16)) = some (l.length - 16) := by
      rw [w64_id (by omega) (by omega), show (l.length : Int) - 16 = ((l.length - 16 : Nat) : Int) by omega]; exact inI_nat (by omega)
    have a0 : inI 64 (l.length : Int) = some l.length := inI_nat (by omega)
    have b2 := gtA (m := List.replicate (r + 1) (0 : UInt32)) (l := l) (i := l.length - 2) 0 (by omega)
    have b7 := gtA (m := List.replicate (r + 1) (0 : UInt32)) (l := l) (i := l.length - 7) 0 (by omega)
    have b15 := gtA (m := List.replicate (r + 1) (0 : UInt32)) (l := l) (i := l.length - 15) 0 (by omega)
    have b16 := gtA (m := List.replicate (r + 1) (0 : UInt32)) (l := l) (i := l.length - 16) 0 (by omega)
    have b0 : gt (l ++ List.replicate (r + 1) (0 : UInt32)) l.length = some _ := gt_lt (by simp)
    have e8 : w64 ((l.length : Int) + 1) = (((l ++ [nextW l]).length : Nat) : Int) := by rw [w64_succ (by omega)]; simp
    have e9 : (l ++ List.replicate (r + 1) (0 : UInt32)).set l.length (nextW l) = (l ++ [nextW l]) ++ List.replicate r 0 := set_rep _ _ _ _ rfl
    have ih := words_l2 (n := n) k r (l ++ [nextW l]) (by simp; omega) (by simp; omega) (by omega)
    unfold F_digest_words_l2
    simp only [Tree.run, e1, cond_true, a2, a7, a15, a16, a0, b2, b7, b15, b16, b0, Option.bind_some, late_run, early_run]
    have key : (F_digest_words_l2 n k (w64 ((l.length : Int) + 1)) ((l ++ List.replicate (r + 1) (0 : UInt32)).set l.length (nextW l))).run = some (extW r (l ++ [nextW l])) := by rw [e9, e8]; exact ih
    refine bndO key ?_
    rfl
theorem words_run {n : Nat} (hn : 65 ≤ n) {b0 : Bool} {b : List UInt8} (hb : b.length = 64) : (F_digest_words n b0 b).run = some (wordsS b) := by
  have h1 := words_l0 (n := n) (by omega) (b0 := b0) (b := b) n 16 0 [] rfl rfl (by omega) (by omega)
  have h2 := words_l2 (n := n) n 48 (ldW 16 b) (by rw [ldW_len]) (by rw [ldW_len]; omega) (by omega)
  rw [ldW_len] at h2
  unfold F_digest_words
  simp only [Tree.run]
  refine bndO h1 ?_
  simp only [Option.bind_some, List.nil_append, Nat.mul_zero, List.drop_zero]
  refine bndO h2 ?_
  rfl
theorem block_step {n k i : Nat} {ks ws : List UInt32} {x y a b c d e f g h : UInt32} (hi : i < 64) (e2 : getI ks (i : Int) = some x) (e4 : gt ws i = some y) :
    (F_digest_block_l0 n (k + 1) ks (i : Int) ws [a, b, c, d, e, f, g, h]).run = (F_digest_block_l0 n k ks ((i + 1 : Nat) : Int) ws (rndS [a, b, c, d, e, f, g, h] x y)).run := by
  have e1 : decide ((i : Int) < 64) = true := decide_eq_true (by omega)
  have e3 : inI 64 (i : Int) = some i := inI_nat (by omega)
  have e8 : w64 ((i : Int) + 1) = ((i + 1 : Nat) : Int) := w64_succ (by omega)
  have g0 : gt [a, b, c, d, e, f, g, h] 0 = some a := rfl
  have g1 : gt [a, b, c, d, e, f, g, h] 1 = some b := rfl
  have g2 : gt [a, b, c, d, e, f, g, h] 2 = some c := rfl
  have g4 : gt [a, b, c, d, e, f, g, h] 4 = some e := rfl
  have g5 : gt [a, b, c, d, e, f, g, h] 5 = some f := rfl
  have g6 : gt [a, b, c, d, e, f, g, h] 6 = some g := rfl
  have g7 : gt [a, b, c, d, e, f, g, h] 7 = some h := rfl
  have hc : cpy [a, b, c, d, e, f, g, h] 1 7 (List.take 7 (List.drop 0 [a, b, c, d, e, f, g, h])) = [a, a, b, c, d, e, f, g] := rfl
  have s1 : ∀ X : UInt32, gt (List.set [a, a, b, c, d, e, f, g] 0 X) 4 = some d := fun X => rfl
  have s2 : ∀ X Y : UInt32, List.set (List.set [a, a, b, c, d, e, f, g] 0 X) 4 Y = [X, a, b, c, Y, e, f, g] := fun X Y => rfl
  have g3 : gt [a, a, b, c, d, e, f, g] 0 = some a := rfl
  rw [F_digest_block_l0]
  refine rI e1 (rG e2 (rG g7 (rG g4 (rG (high_run n e) (rG g4 (rG g5 (rG g4 (rG g6 (rG e3 (rG e4 (rG g0 (rG (low_run n a) (rG g0 (rG g1 (rG g0 (rG g2 (rG g1 (rG g2 (rG rfl (rG rfl ?_))))))))))))))))))))
  rw [hc]
  refine rG g3 (rG (s1 _) (rG (s1 _) ?_))
  rw [s2, rSR, e8]
  rfl
theorem block_l0 {n : Nat} : ∀ (k i : Nat) (ks ws s : List UInt32), ks.length = 64 → ws.length = 64 → s.length = 8 → i ≤ 64 → 64 < i + k →
    (F_digest_block_l0 n k ks (i : Int) ws s).run = some (rndsS (ks.drop i) (ws.drop i) s) := by
  intro k
  induction k with
  | zero => intro i ks ws s _ _ _ _ h; omega
  | succ k ih =>
    intro i ks ws s h1 h2 h3 h4 h5
    by_cases hi : i = 64
    · subst hi
      have e1 : decide (((64 : Nat) : Int) < 64) = false := by decide
      unfold F_digest_block_l0
      simp only [Tree.run, e1, cond_false]
      rw [List.drop_of_length_le (by omega), rndsS]; simp
    · have hk : i < ks.length := by omega
      have hw : i < ws.length := by omega
      have ih := ih (i + 1) ks ws (rndS s ks[i] ws[i]) h1 h2 (by rw [rndS_len]; exact h3) (by omega) (by omega)
      rw [List.drop_eq_getElem_cons hk, List.drop_eq_getElem_cons hw, rndsS, ← ih]
      obtain ⟨a, b, c, d, e, f, g, h, rfl⟩ := len8 h3
      exact block_step (by omega) (getI_lt hk) (gt_lt hw)
theorem block_l2 {n : Nat} : ∀ (k i : Nat) (done rest s : List UInt32), done.length = i → i + rest.length = 8 → s.length = 8 → 8 < i + k →
    (F_digest_block_l2 n k (i : Int) (done ++ rest) s).run = some (done ++ List.zipWith (· + ·) rest (s.drop i))
  | 0, _, _, _, _, _, _, _, h => by omega
  | k + 1, i, done, [], s, h1, h2, h3, h4 => by
    have e1 : decide ((i : Int) < 8) = false := by simp at h2 ⊢; omega
    unfold F_digest_block_l2
    simp only [Tree.run, e1, cond_false, List.zipWith_nil_left]
  | k + 1, i, done, x :: rest, s, h1, h2, h3, h4 => by
    rw [List.length_cons] at h2
    have e1 : decide ((i : Int) < 8) = true := decide_eq_true (by omega)
    have hs : i < s.length := by omega
    have e3 : inI 8 (i : Int) = some i := inI_nat (by omega)
    have e4 : gt (done ++ x :: rest) i = some x := by rw [gt_lt (by simp; omega)]; subst h1; simp
    have e5 : gt s i = some s[i] := gt_lt hs
    have e8 : w64 ((i : Int) + 1) = ((i + 1 : Nat) : Int) := w64_succ (by omega)
    have e9 : (done ++ x :: rest).set i (x + s[i]) = (done ++ [x + s[i]]) ++ rest := by
      subst h1; rw [List.set_append_right _ _ (Nat.le_refl _), Nat.sub_self, List.set_cons_zero, List.append_assoc]; rfl
    have ih := block_l2 (n := n) k (i + 1) (done ++ [x + s[i]]) rest s (by simp; omega) (by omega) h3 (by omega)
    unfold F_digest_block_l2
    simp only [Tree.run, e1, cond_true, e3, e4, e5, e8, e9, Option.bind_some, ih]
    rw [List.drop_eq_getElem_cons hs, List.zipWith_cons_cons, List.append_assoc, List.singleton_append]
theorem block_0 {n : Nat} (hn : 65 ≤ n) {ks ws s : List UInt32} (h1 : ks.length = 64) (h2 : ws.length = 64) (h3 : s.length = 8) : (F_digest_block_l0 n n ks (0 : Int) ws s).run = some (rndsS ks ws s) := by
  have h := block_l0 (n := n) n 0 ks ws s h1 h2 h3 (by omega) (by omega)
  rw [List.drop_zero, List.drop_zero] at h
  exact h
theorem block_2 {n : Nat} (hn : 65 ≤ n) {h s : List UInt32} (h1 : h.length = 8) (h2 : s.length = 8) : (F_digest_block_l2 n n (0 : Int) h s).run = some (List.zipWith (· + ·) h s) := by
  have h := block_l2 (n := n) n 0 [] h s rfl (by omega) h2 (by omega)
  rw [List.drop_zero, List.nil_append, List.nil_append] at h
  exact h
theorem block_run {n : Nat} (hn : 65 ≤ n) {b0 : Bool} {h : List UInt32} {b : List UInt8} (h8 : h.length = 8) (hb : b.length = 64) : (F_digest_block n h b0 b).run = some (blkS h b) := by
  have e1 := words_run hn (b0 := b0) hb
  have e2 := block_0 hn (ks := kS) (ws := wordsS b) (s := h) (by decide) (wordsS_len b) h8
  have e3 := block_2 hn (h := h) (s := rndsS kS (wordsS b) h) h8 (by rw [rndsS_len]; exact h8)
  rw [blkS]
  generalize rndsS kS (wordsS b) h = R at e2 e3 ⊢
  unfold kS at e2
  unfold F_digest_block
  simp only [Tree.run, e1, Option.bind_some, e2, e3]
theorem take_rest {α : Type} {l : List α} {k m : Nat} (h : l.length ≤ k + m) : List.take m (List.drop k l) = List.drop k l := List.take_of_length_le (by rw [List.length_drop]; omega)
theorem dadd_l0 {n : Nat} (hn : 65 ≤ n) (all : UInt64) : ∀ (k : Nat) (h : List UInt32) (t : List UInt8), h.length = 8 → t.length < 64 * k → (F_digest_State_Add_l0 n k h all t).run = some (foldB 64 blkS h t)
  | 0, _, _, _, h => by omega
  | k + 1, h, t, h8, hk => by
    unfold F_digest_State_Add_l0
    by_cases hl : t.length < 64
    · have e1 : decide ((64 : Int) ≤ ln t) = false := decide_eq_false (by unfold ln; omega)
      simp only [Tree.run, e1, cond_false, foldB_short hl]
    · have e1 : decide ((64 : Int) ≤ ln t) = true := decide_eq_true (by unfold ln; omega)
      have e2 : (ite (And ((0 : Int) ≤ (0 : Int)) (And ((0 : Int) ≤ (64 : Int)) ((64 : Int) ≤ (ln t)))) (Option.some Unit.unit) Option.none) = some () := if_pos ⟨by omega, by omega, by unfold ln; omega⟩
      have e3 : (ite (And ((0 : Int) ≤ (64 : Int)) (And ((64 : Int) ≤ (ln t)) ((ln t) ≤ (ln t)))) (Option.some Unit.unit) Option.none) = some () := if_pos ⟨by omega, by unfold ln; omega, by omega⟩
      have e4 : (F_digest_block n h false (t.take 64)).run = some (blkS h (t.take 64)) := block_run hn h8 (by simp; omega)
      have e5 : List.take ((Int.toNat (ln t)) - 64) (List.drop 64 t) = t.drop 64 := take_rest (by show t.length ≤ 64 + ((t.length : Int).toNat - 64); omega)
      have ih := dadd_l0 hn all k (blkS h (t.take 64)) (t.drop 64) (by rw [blkS_len]; exact h8) (by simp; omega)
      simp only [Tree.run, e1, cond_true, e2, e3, List.drop_zero, e4, e5, Option.bind_some, ih]
      rw [foldB_block (h := h) (p := t) (by decide) (by omega)]
def stS (m : List UInt8) : List UInt32 × UInt64 × List UInt8 := ((foldB 64 blkS h0S m).1, UInt64.ofNat m.length, (foldB 64 blkS h0S m).2)
theorem int64_nat (m : Nat) : int64 (m : Int) = UInt64.ofNat m := by
  unfold int64
  apply UInt64.toNat_inj.1
  rw [UInt64.toNat_ofNat', UInt64.toNat_ofNat']
  omega
theorem int32_nat (m : Nat) : int32 (m : Int) = UInt32.ofNat m := by
  unfold int32
  apply UInt32.toNat_inj.1
  rw [UInt32.toNat_ofNat', UInt32.toNat_ofNat']
  omega
theorem dadd {n : Nat} (hn : 65 ≤ n) {m b : List UInt8} (hb : b.length + 64 < 64 * n) (hc : b.length + 64 ≤ 140737488355328) : (F_digest_State_Add n b (stS m).1 (stS m).2.1 (stS m).2.2).run = some (stS (m ++ b)) := by
  have hr := foldB_rest_lt (n := 64) (f := blkS) (by decide) h0S m
  have e1 : appI 140737488355328 (stS m).2.2 b = some ((stS m).2.2 ++ b) := appI_le (by show (foldB 64 blkS h0S m).2.length + _ ≤ _; omega)
  have e2 := dadd_l0 hn ((stS m).2.1 + int64 (ln b)) n (stS m).1 ((stS m).2.2 ++ b) (foldB_8 _ _ rfl) (by rw [List.length_append]; show (foldB 64 blkS h0S m).2.length + _ < _; omega)
  unfold F_digest_State_Add
  have h1 : foldB 64 blkS (stS m).1 ((stS m).2.2 ++ b) = foldB 64 blkS h0S (m ++ b) := (foldB_app (by decide) h0S m b).symm
  have h2 : (stS m).2.1 + int64 (ln b) = UInt64.ofNat (m ++ b).length := by
    rw [show ln b = ((b.length : Nat) : Int) from rfl, int64_nat, List.length_append, UInt64.ofNat_add]; rfl
  simp only [Tree.run, e1, Option.bind_some, e2]
  rw [h1, h2]; rfl
theorem dsum_l0 {n : Nat} : ∀ (k z : Nat) (t : List UInt8), (t.length + z) % 64 = 56 → z < 64 → z < k → t.length + z ≤ 1000 →
    (F_digest_State_Sum_l0 n k t).run = some (if z = 0 then .inl () else .inr (t ++ List.replicate z 0))
  | 0, _, _, _, _, h, _ => by omega
  | k + 1, 0, t, h1, h2, h3, h4 => by
    have e1 : (!(decide ((Int.tmod (ln t) (64 : Int)) = (56 : Int)))) = false := by
      have : Int.tmod (ln t) 64 = ((t.length % 64 : Nat) : Int) := rfl
      rw [this]; simp; omega
    unfold F_digest_State_Sum_l0
    simp only [Tree.run, e1, cond_false, if_true]
  | k + 1, z + 1, t, h1, h2, h3, h4 => by
    have e1 : (!(decide ((Int.tmod (ln t) (64 : Int)) = (56 : Int)))) = true := by
      have : Int.tmod (ln t) 64 = ((t.length % 64 : Nat) : Int) := rfl
      rw [this]; simp; omega
    have e2 : appI 140737488355328 t ([0] : List UInt8) = some (t ++ [0]) := appI_le (by simp; omega)
    have ih := dsum_l0 (n := n) k z (t ++ [0]) (by rw [List.length_append, List.length_singleton]; omega) (by omega) (by omega) (by simp; omega)
    unfold F_digest_State_Sum_l0
    simp only [Tree.run, e1, cond_true, e2, Option.bind_some, ih]
    by_cases hz : z = 0
    · subst hz; simp [run_l, Tree.run]
    · simp only [hz, if_false, run_r, Tree.run, Nat.add_one_ne_zero, List.replicate_succ, List.append_assoc, List.singleton_append]
theorem dsum_l2 {n : Nat} (hn : 65 ≤ n) : ∀ (k q : Nat) (h : List UInt32) (t : List UInt8), h.length = 8 → t.length = 64 * q → q < k → (F_digest_State_Sum_l2 n k t h).run = some (if q = 0 then .inl () else .inr (foldB 64 blkS h t).1)
  | 0, _, _, _, _, _, h => by omega
  | k + 1, 0, h, t, h8, hl, hk => by
    have e1 : decide ((0 : Int) < ln t) = false := decide_eq_false (by unfold ln; omega)
    unfold F_digest_State_Sum_l2
    simp only [Tree.run, e1, cond_false, if_true]
  | k + 1, q + 1, h, t, h8, hl, hk => by
    have e1 : decide ((0 : Int) < ln t) = true := decide_eq_true (by unfold ln; omega)
    have e2 : (ite (And ((0 : Int) ≤ (0 : Int)) (And ((0 : Int) ≤ (64 : Int)) ((64 : Int) ≤ (ln t)))) (Option.some Unit.unit) Option.none) = some () := if_pos ⟨by omega, by omega, by unfold ln; omega⟩
    have e3 : (ite (And ((0 : Int) ≤ (64 : Int)) (And ((64 : Int) ≤ (ln t)) ((ln t) ≤ (ln t)))) (Option.some Unit.unit) Option.none) = some () := if_pos ⟨by omega, by unfold ln; omega, by omega⟩
    have e4 : (F_digest_block n h false (t.take 64)).run = some (blkS h (t.take 64)) := block_run hn h8 (by simp; omega)
    have e5 : List.take ((Int.toNat (ln t)) - 64) (List.drop 64 t) = t.drop 64 := take_rest (by show t.length ≤ 64 + ((t.length : Int).toNat - 64); omega)
    have ih := dsum_l2 hn k q (blkS h (t.take 64)) (t.drop 64) (by rw [blkS_len]; exact h8) (by simp; omega) (by omega)
    unfold F_digest_State_Sum_l2
    simp only [Tree.run, e1, cond_true, e2, e3, List.drop_zero, e4, e5, Option.bind_some, ih]
    rw [foldB_block (p := t) (by decide) (by omega)]
    by_cases hq : q = 0
    · subst hq
      rw [foldB_short (by simp; omega)]
      simp [run_l, Tree.run]
    · simp only [hq, if_false, run_r, Tree.run, Nat.add_one_ne_zero]
theorem cpy_at {α : Type} {done ys r : List α} {i N : Nat} (h1 : done.length = i) (h2 : ys.length ≤ r.length) (h3 : ys.length ≤ N) : cpy (done ++ r) i N ys = (done ++ ys) ++ r.drop ys.length := by
  subst h1
  unfold cpy
  rw [List.take_left', List.take_of_length_le h3, Nat.min_eq_right h3, List.drop_append, List.drop_of_length_le (by omega), List.nil_append]
  · congr 2; omega
  · rfl
theorem dsum_l4 {n : Nat} (hn : 5 ≤ n) : ∀ (k r i : Nat) (h : List UInt32) (done : List UInt8), h.length = 8 → done.length = 4 * i → i + r = 8 → r < k →
    (F_digest_State_Sum_l4 n k h (i : Int) (done ++ zs (4 * r))).run = some (done ++ outS (h.drop i))
  | 0, _, _, _, _, _, _, _, h => by omega
  | k + 1, 0, i, h, done, h8, hd, hi, hk => by
    have e1 : decide ((i : Int) < 8) = false := decide_eq_false (by omega)
    unfold F_digest_State_Sum_l4
    simp only [Tree.run, e1, cond_false]
    rw [List.drop_of_length_le (by omega)]; rfl
  | k + 1, r + 1, i, h, done, h8, hd, hi, hk => by
    have hl : i < h.length := by omega
    have e1 : decide ((i : Int) < 8) = true := decide_eq_true (by omega)
    have e2 : getI h (i : Int) = some h[i] := getI_lt hl
    have e3 : w64 ((4 : Int) * (i : Int)) = ((4 * i : Nat) : Int) := by rw [w64_id (by omega) (by omega)]; omega
    have e4 : (ite (And ((0 : Int) ≤ ((4 * i : Nat) : Int)) (And (((4 * i : Nat) : Int) ≤ (32 : Int)) ((32 : Int) ≤ (32 : Int)))) (Option.some Unit.unit) Option.none) = some () := if_pos ⟨by omega, by omega, by omega⟩
    have e8 : w64 ((i : Int) + 1) = ((i + 1 : Nat) : Int) := w64_succ (by omega)
    have e9 : cpy (done ++ zs (4 * (r + 1))) (4 * i) (32 - 4 * i) (beN 4 h[i].toNat) = (done ++ beN 4 h[i].toNat) ++ zs (4 * r) := by
      rw [cpy_at hd (by rw [beN_len, List.length_replicate]; omega) (by rw [beN_len]; omega), beN_len, List.drop_replicate, show 4 * (r + 1) - 4 = 4 * r by omega]
    have ih := dsum_l4 hn k r (i + 1) h (done ++ beN 4 h[i].toNat) h8 (by rw [List.length_append, beN_len]; omega) (by omega) (by omega)
    unfold F_digest_State_Sum_l4
    simp only [Tree.run, e1, cond_true, e2, e3, e4, e8, Option.bind_some, store_be hn, Int.toNat_natCast, List.drop_zero, List.take_length, e9, ih]
    rw [List.drop_eq_getElem_cons hl, outS, List.append_assoc]
theorem dsum {n : Nat} (hn : 65 ≤ n) {m : List UInt8} : (F_digest_State_Sum n (stS m).1 (stS m).2.1 (stS m).2.2).run = some (shaS m) := by
  have hr : (foldB 64 blkS h0S m).2.length = m.length % 64 := by
    rw [foldB_rest (by decide) _ h0S m (Nat.le_refl _), List.length_drop]; omega
  have h8 : (foldB 64 blkS h0S m).1.length = 8 := foldB_8 _ _ rfl
  have hpad : (foldB 64 blkS h0S (padS m)).1 = (foldB 64 blkS (stS m).1 ((stS m).2.2 ++ ((128 : UInt8) :: List.replicate (gap m.length) 0) ++ beN 8 (UInt64.ofNat m.length * 8).toNat)).1 := by
    unfold padS
    rw [List.append_assoc, foldB_app (by decide), ← List.append_assoc]; rfl
  unfold shaS
  rw [hpad]
  have e1 : appI 140737488355328 ([] : List UInt8) (stS m).2.2 = some (stS m).2.2 := appI_le (by show 0 + (foldB 64 blkS h0S m).2.length ≤ _; omega)
  have e2 : appI 140737488355328 (stS m).2.2 ([128] : List UInt8) = some ((stS m).2.2 ++ [128]) := appI_le (by show (foldB 64 blkS h0S m).2.length + 1 ≤ _; omega)
  have hl : ((stS m).2.2 ++ [(128 : UInt8)]).length = m.length % 64 + 1 := by rw [List.length_append]; show (foldB 64 blkS h0S m).2.length + 1 = _; omega
  have e3 := dsum_l0 (n := n) n (gap m.length) ((stS m).2.2 ++ [128]) (by rw [hl]; unfold gap; omega) (by unfold gap; omega) (by unfold gap; omega) (by rw [hl]; unfold gap; omega)
  have e4 : (F_word_Tell n ((stS m).2.1 * 8)).run = some (beN 8 (UInt64.ofNat m.length * 8).toNat) := tell_be (by omega)
  have fin : ∀ t : List UInt8, t = (stS m).2.2 ++ ((128 : UInt8) :: List.replicate (gap m.length) 0) ++ beN 8 (UInt64.ofNat m.length * 8).toNat → ∃ y, (F_digest_State_Sum_l2 n n t (stS m).1).run = some (.inr y) ∧ (F_digest_State_Sum_l4 n n y (0 : Int) (zs 32)).run = some (outS (foldB 64 blkS (stS m).1 t).1) := by
    intro t ht
    have hlt : t.length = 64 * ((m.length % 64 + 1 + gap m.length + 8) / 64) := by
      rw [ht]
      simp only [List.length_append, List.length_cons, List.length_replicate, beN_len]
      show (foldB 64 blkS h0S m).2.length + _ + _ = _
      unfold gap; omega
    have a1 := dsum_l2 hn n ((m.length % 64 + 1 + gap m.length + 8) / 64) (stS m).1 t h8 hlt (by unfold gap; omega)
    rw [if_neg (by unfold gap; omega)] at a1
    refine ⟨_, a1, ?_⟩
    have h8' := foldB_8 (stS m).1 t h8
    have a2 := dsum_l4 (n := n) (by omega) n 8 0 (foldB 64 blkS (stS m).1 t).1 [] h8' rfl rfl (by omega)
    exact a2
  unfold F_digest_State_Sum
  simp only [Tree.run, e1, e2, e3, Option.bind_some]
  by_cases hz : gap m.length = 0
  · have e5 : appI 140737488355328 ((stS m).2.2 ++ [128]) (beN 8 (UInt64.ofNat m.length * 8).toNat) = some ((stS m).2.2 ++ [128] ++ beN 8 (UInt64.ofNat m.length * 8).toNat) := appI_le (by rw [hl, beN_len]; omega)
    obtain ⟨y, a1, a2⟩ := fin _ rfl
    rw [hz] at a1 a2 ⊢
    simp only [if_true, run_l, run_r, Tree.run, e4, e5, Option.bind_some]
    simp only [List.replicate_zero] at a1 a2 ⊢
    simp only [a1, Option.bind_some, run_r, Tree.run, a2]
  · have e5 : appI 140737488355328 ((stS m).2.2 ++ [128] ++ List.replicate (gap m.length) 0) (beN 8 (UInt64.ofNat m.length * 8).toNat) = some ((stS m).2.2 ++ [128] ++ List.replicate (gap m.length) 0 ++ beN 8 (UInt64.ofNat m.length * 8).toNat) := appI_le (by rw [List.length_append, hl, beN_len, List.length_replicate]; unfold gap; omega)
    obtain ⟨y, a1, a2⟩ := fin _ rfl
    simp only [if_neg hz, run_l, run_r, Tree.run, e4, e5, Option.bind_some]
    simp only [List.append_assoc, List.singleton_append, List.cons_append, List.nil_append] at a1 a2 ⊢
    simp only [a1, Option.bind_some, run_r, Tree.run, a2]
theorem of_l0 {n : Nat} (hn : 65 ≤ n) {b0 : Bool} {l : List (List UInt8)} (hb : ∀ b ∈ l, b.length + 64 < 64 * n ∧ b.length + 64 ≤ 140737488355328) : ∀ (k i : Nat) (m : List UInt8), i ≤ l.length → l.length < i + k → l.length ≤ 1000 →
    (F_digest_Of_l0 n k b0 l (ln l) (i : Int) (stS m).1 (stS m).2.1 (stS m).2.2).run = some (stS (m ++ (l.drop i).flatten))
  | 0, _, _, _, h, _ => by omega
  | k + 1, i, m, h1, h2, h3 => by
    by_cases hi : i = l.length
    · have e1 : decide ((i : Int) < ln l) = false := decide_eq_false (by unfold ln; omega)
      unfold F_digest_Of_l0
      simp only [Tree.run, e1, cond_false]
      rw [List.drop_of_length_le (by omega), List.flatten_nil, List.append_nil]
    · have hl : i < l.length := by omega
      have e1 : decide ((i : Int) < ln l) = true := decide_eq_true (by unfold ln; omega)
      have e2 : getI l (i : Int) = some l[i] := getI_lt hl
      have e8 : w64 ((i : Int) + 1) = ((i + 1 : Nat) : Int) := w64_succ (by omega)
      have hm := hb l[i] (List.getElem_mem hl)
      have e3 := dadd (m := m) hn hm.1 hm.2
      have ih := of_l0 hn (b0 := b0) hb k (i + 1) (m ++ l[i]) (by omega) (by omega) h3
      unfold F_digest_Of_l0
      simp only [Tree.run, e1, cond_true, e2, e8, Option.bind_some, e3, ih]
      rw [List.drop_eq_getElem_cons hl, List.flatten_cons, List.append_assoc]
theorem st0 : stS [] = (h0S, 0, []) := by
  unfold stS
  rw [foldB_short (by decide)]; rfl
theorem of_run {n : Nat} (hn : 65 ≤ n) {b0 : Bool} {l : List (List UInt8)} (hb : ∀ b ∈ l, b.length + 64 < 64 * n ∧ b.length + 64 ≤ 140737488355328) (h3 : l.length ≤ 1000) (hl : l.length < n) : (F_digest_Of n b0 l).run = some (shaS l.flatten) := by
  have e1 := of_l0 hn (b0 := b0) hb n 0 [] (by omega) (by omega) h3
  rw [st0] at e1
  have e2 := dsum (m := l.flatten) hn
  unfold F_digest_Of F_digest_New
  simp only [Tree.run, Option.bind_some]
  refine bndO e1 ?_
  simp only [Option.bind_some, List.nil_append, List.drop_zero, e2]
theorem begun_l0 {n : Nat} {x : UInt8} : ∀ (k i : Nat) (done rest : List UInt8), done.length = i → i + rest.length = 64 → 64 < i + k → (F_mac_begun_l0 n k x (i : Int) (done ++ rest)).run = some (done ++ rest.map (· ^^^ x))
  | 0, _, _, _, _, _, h => by omega
  | k + 1, i, done, [], h1, h2, h4 => by
    have e1 : decide ((i : Int) < 64) = false := by simp at h2 ⊢; omega
    unfold F_mac_begun_l0
    simp only [Tree.run, e1, cond_false, List.map_nil]
  | k + 1, i, done, y :: rest, h1, h2, h4 => by
    rw [List.length_cons] at h2
    have e1 : decide ((i : Int) < 64) = true := decide_eq_true (by omega)
    have e3 : inI 64 (i : Int) = some i := inI_nat (by omega)
    have e4 : gt (done ++ y :: rest) i = some y := by rw [gt_lt (by simp; omega)]; subst h1; simp
    have e8 : w64 ((i : Int) + 1) = ((i + 1 : Nat) : Int) := w64_succ (by omega)
    have e9 : (done ++ y :: rest).set i (y ^^^ x) = (done ++ [y ^^^ x]) ++ rest := by
      subst h1; rw [List.set_append_right _ _ (Nat.le_refl _), Nat.sub_self, List.set_cons_zero, List.append_assoc]; rfl
    have ih := begun_l0 (n := n) (x := x) k (i + 1) (done ++ [y ^^^ x]) rest (by simp; omega) (by omega) (by omega)
    unfold F_mac_begun_l0
    simp only [Tree.run, e1, cond_true, e3, e4, e8, e9, Option.bind_some, ih]
    rw [List.map_cons, List.append_assoc, List.singleton_append]
theorem begun_run {n : Nat} (hn : 65 ≤ n) {b : List UInt8} {x : UInt8} (hb : b.length = 64) : (F_mac_begun n b x).run = some (stS (b.map (· ^^^ x))) := by
  have e1 := begun_l0 (n := n) (x := x) n 0 [] b rfl (by omega) (by omega)
  have e2 := dadd (n := n) (m := []) (b := b.map (· ^^^ x)) hn (by simp; omega) (by simp; omega)
  rw [st0] at e2
  have e3 : List.take 64 (b.map (· ^^^ x)) = b.map (· ^^^ x) := List.take_of_length_le (by simp; omega)
  unfold F_mac_begun F_digest_New
  simp only [Tree.run, Option.bind_some]
  refine bndO e1 ?_
  simp only [Option.bind_some, List.nil_append, List.drop_zero, e3]
  refine bndO e2 ?_
  rfl
def kyS (key : List UInt8) : List UInt32 × UInt64 × List UInt8 × List UInt32 × UInt64 × List UInt8 := ((stS (xpad key 54)).1, (stS (xpad key 54)).2.1, (stS (xpad key 54)).2.2, (stS (xpad key 92)))
theorem cpy_zs {N : Nat} {b : List UInt8} (h : b.length ≤ N) : cpy (zs N) 0 N b = b ++ List.replicate (N - b.length) 0 := by
  have := cpy_at (done := []) (ys := b) (r := zs N) (i := 0) (N := N) rfl (by simpa using h) h
  rw [List.nil_append, List.nil_append, List.drop_replicate] at this
  exact this
theorem mnew {n : Nat} (hn : 65 ≤ n) {key : List UInt8} (hk : key.length + 64 < 64 * n) (hc : key.length + 64 ≤ 140737488355328) : (F_mac_New n key).run = some (kyS key) := by
  unfold F_mac_New
  by_cases h : 64 < key.length
  · have e1 : decide ((64 : Int) < ln key) = true := decide_eq_true (by unfold ln; omega)
    have e2 : (F_digest_Of n false (List.set ([([] : List UInt8)] : List (List UInt8)) 0 key)).run = some (shaS key) := by
      have := of_run (n := n) (b0 := false) (l := [key]) hn (by intro b hb; rw [List.mem_singleton] at hb; subst hb; exact ⟨hk, hc⟩) (by simp) (by simp; omega)
      simpa using this
    have e3 : keyS key = shaS key := if_pos h
    have e4 : List.take 32 (shaS key) = shaS key := List.take_of_length_le (by rw [shaS_len]; omega)
    have e5 := cpy_zs (N := 64) (b := shaS key) (by rw [shaS_len]; omega)
    have e6 : ∀ x, (F_mac_begun n (shaS key ++ List.replicate (64 - (shaS key).length) 0) x).run = some (stS (xpad key x)) := by
      intro x
      rw [begun_run hn (by rw [List.length_append, List.length_replicate, shaS_len])]
      unfold xpad; rw [e3]
    simp only [Tree.run, e1, cond_true, e2, Option.bind_some, List.drop_zero, e4, e5, e6]
    rfl
  · have e1 : decide ((64 : Int) < ln key) = false := decide_eq_false (by unfold ln; omega)
    have e3 : keyS key = key := if_neg h
    have e5 := cpy_zs (N := 64) (b := key) (by omega)
    have e6 : ∀ x, (F_mac_begun n (key ++ List.replicate (64 - key.length) 0) x).run = some (stS (xpad key x)) := by
      intro x
      rw [begun_run hn (by rw [List.length_append, List.length_replicate]; omega)]
      unfold xpad; rw [e3]
    simp only [Tree.run, e1, cond_false, Option.bind_some, e5, e6]
    rfl
theorem ktag_l0 {n : Nat} (hn : 65 ≤ n) {b0 : Bool} {l : List (List UInt8)} (hb : ∀ b ∈ l, b.length + 64 < 64 * n ∧ b.length + 64 ≤ 140737488355328) : ∀ (k i : Nat) (m : List UInt8), i ≤ l.length → l.length < i + k → l.length ≤ 1000 →
    (F_mac_Key_Tag_l0 n k b0 l (ln l) (i : Int) (stS m).1 (stS m).2.1 (stS m).2.2).run = some (stS (m ++ (l.drop i).flatten))
  | 0, _, _, _, h, _ => by omega
  | k + 1, i, m, h1, h2, h3 => by
    by_cases hi : i = l.length
    · have e1 : decide ((i : Int) < ln l) = false := decide_eq_false (by unfold ln; omega)
      unfold F_mac_Key_Tag_l0
      simp only [Tree.run, e1, cond_false]
      rw [List.drop_of_length_le (by omega), List.flatten_nil, List.append_nil]
    · have hl : i < l.length := by omega
      have e1 : decide ((i : Int) < ln l) = true := decide_eq_true (by unfold ln; omega)
      have e2 : getI l (i : Int) = some l[i] := getI_lt hl
      have e8 : w64 ((i : Int) + 1) = ((i + 1 : Nat) : Int) := w64_succ (by omega)
      have hm := hb l[i] (List.getElem_mem hl)
      have e3 := dadd (m := m) hn hm.1 hm.2
      have ih := ktag_l0 hn (b0 := b0) hb k (i + 1) (m ++ l[i]) (by omega) (by omega) h3
      unfold F_mac_Key_Tag_l0
      simp only [Tree.run, e1, cond_true, e2, e8, Option.bind_some, e3, ih]
      rw [List.drop_eq_getElem_cons hl, List.flatten_cons, List.append_assoc]
theorem copy_run {n : Nat} {t : List UInt8} (h : t.length ≤ 140737488355328) : (F_digest_State_Copy n t).run = some t := by
  unfold F_digest_State_Copy
  simp only [Tree.run, appI_le (N := 140737488355328) (l := ([] : List UInt8)) (m := t) (by simpa using h), Option.bind_some, List.nil_append]
theorem ktag {n : Nat} (hn : 65 ≤ n) {b0 : Bool} {key : List UInt8} {l : List (List UInt8)} (hb : ∀ b ∈ l, b.length + 64 < 64 * n ∧ b.length + 64 ≤ 140737488355328) (h3 : l.length ≤ 1000) (hl : l.length < n) :
    (F_mac_Key_Tag n b0 l (kyS key).1 (kyS key).2.1 (kyS key).2.2.1 (kyS key).2.2.2.1 (kyS key).2.2.2.2.1 (kyS key).2.2.2.2.2).run = some (macS key l.flatten) := by
  have c1 : (F_digest_State_Copy n (kyS key).2.2.1).run = some (stS (xpad key 54)).2.2 := copy_run (by
    have := foldB_rest_lt (n := 64) (f := blkS) (by decide) h0S (xpad key 54)
    show (foldB 64 blkS h0S (xpad key 54)).2.length ≤ _; omega)
  have c2 : (F_digest_State_Copy n (kyS key).2.2.2.2.2).run = some (stS (xpad key 92)).2.2 := copy_run (by
    have := foldB_rest_lt (n := 64) (f := blkS) (by decide) h0S (xpad key 92)
    show (foldB 64 blkS h0S (xpad key 92)).2.length ≤ _; omega)
  have e1 := ktag_l0 hn (b0 := b0) hb n 0 (xpad key 54) (by omega) (by omega) h3
  have e2 := dsum (m := xpad key 54 ++ l.flatten) hn
  have e3 := dadd (n := n) (m := xpad key 92) (b := shaS (xpad key 54 ++ l.flatten)) hn (by rw [shaS_len]; omega) (by rw [shaS_len]; omega)
  have e4 := dsum (m := xpad key 92 ++ shaS (xpad key 54 ++ l.flatten)) hn
  have e5 : List.take 32 (shaS (xpad key 54 ++ l.flatten)) = shaS (xpad key 54 ++ l.flatten) := List.take_of_length_le (by rw [shaS_len]; omega)
  unfold F_mac_Key_Tag
  simp only [Tree.run, c1, c2, Option.bind_some]
  refine bndO e1 ?_
  simp only [Option.bind_some, List.drop_zero, e2, e5]
  refine bndO e3 ?_
  simp only [Option.bind_some, e4]
  rfl
theorem mtag {n : Nat} (hn : 65 ≤ n) {b0 : Bool} {key : List UInt8} (hk : key.length + 64 < 64 * n) (hc : key.length + 64 ≤ 140737488355328) {l : List (List UInt8)} (hb : ∀ b ∈ l, b.length + 64 < 64 * n ∧ b.length + 64 ≤ 140737488355328) (h3 : l.length ≤ 1000) (hl : l.length < n) :
    (F_mac_Tag n key b0 l).run = some (macS key l.flatten) := by
  unfold F_mac_Tag
  simp only [Tree.run, mnew hn hk hc, Option.bind_some, ktag hn hb h3 hl]
end Hyp
