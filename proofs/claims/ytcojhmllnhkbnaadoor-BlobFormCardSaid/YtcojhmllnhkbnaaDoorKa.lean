/- Plain words: turned words, blocks, digits, parts of 26 bits; what the sums, tags and boxes of the document are. -/
import Derived.Test.YtcojhmllnhkbnaaDoorZD
set_option linter.unusedVariables false
set_option linter.unusedSimpArgs false
set_option maxRecDepth 100000
namespace Hyp
def rotl (w : UInt32) (k : Nat) : UInt32 := UInt32.ofNat (w.toNat * 2 ^ k % 4294967296 + w.toNat / 2 ^ (32 - k))
theorem rot_split {x k : Nat} (hk : k ≤ 32) (hx : x < 2 ^ 32) : x * 2 ^ k % 2 ^ 32 = x % 2 ^ (32 - k) * 2 ^ k := by
  have e : (2 : Nat) ^ 32 = 2 ^ (32 - k) * 2 ^ k := by rw [← Nat.pow_add]; congr 1; omega
  rw [e, Nat.mul_mod_mul_right]
theorem rot_lt {x k : Nat} (hk : k ≤ 32) (hx : x < 2 ^ 32) : x % 2 ^ (32 - k) * 2 ^ k + x / 2 ^ (32 - k) < 2 ^ 32 := by
  have e : (2 : Nat) ^ 32 = 2 ^ (32 - k) * 2 ^ k := by rw [← Nat.pow_add]; congr 1; omega
  have h1 : x % 2 ^ (32 - k) < 2 ^ (32 - k) := Nat.mod_lt _ (Nat.two_pow_pos _)
  have h2 : x / 2 ^ (32 - k) < 2 ^ k := by rw [Nat.div_lt_iff_lt_mul (Nat.two_pow_pos _), Nat.mul_comm, ← e]; exact hx
  have h3 : (x % 2 ^ (32 - k) + 1) * 2 ^ k ≤ 2 ^ (32 - k) * 2 ^ k := Nat.mul_le_mul_right _ h1
  rw [Nat.add_mul] at h3
  omega
theorem rotl_nat {w : UInt32} {k : Nat} (hk : k ≤ 32) : (rotl w k).toNat = w.toNat % 2 ^ (32 - k) * 2 ^ k + w.toNat / 2 ^ (32 - k) := by
  have hx : w.toNat < 2 ^ 32 := w.toNat_lt
  unfold rotl
  rw [UInt32.toNat_ofNat', show (4294967296 : Nat) = 2 ^ 32 from rfl, rot_split hk hx, Nat.mod_eq_of_lt (rot_lt hk hx)]
theorem turn_prog {w : UInt32} {k : Nat} (hk : k < 32) : (shl32 w k ||| shr32 w ((32 - k) % 32)) = rotl w k := by
  have hx : w.toNat < 2 ^ 32 := w.toNat_lt
  apply UInt32.toNat_inj.1
  rw [UInt32.toNat_or, rotl_nat (by omega)]
  unfold shl32 shr32
  rw [UInt32.toNat_ofNat', UInt32.toNat_ofNat', Nat.min_eq_left (by omega), Nat.min_eq_left (by omega)]
  rw [rot_split (by omega) hx]
  by_cases h0 : k = 0
  · subst h0
    simp only [Nat.sub_zero, Nat.pow_zero, Nat.mul_one, Nat.mod_self, Nat.div_one]
    rw [Nat.mod_eq_of_lt hx, Nat.or_self, Nat.div_eq_of_lt hx]; simp
  · rw [Nat.mod_eq_of_lt (a := 32 - k) (by omega)]
    have h2 : w.toNat / 2 ^ (32 - k) < 2 ^ k := by
      have e : (2 : Nat) ^ 32 = 2 ^ (32 - k) * 2 ^ k := by rw [← Nat.pow_add]; congr 1; omega
      rw [Nat.div_lt_iff_lt_mul (Nat.two_pow_pos _), Nat.mul_comm, ← e]; exact hx
    rw [Nat.mod_eq_of_lt (a := w.toNat / 2 ^ (32 - k)) (Nat.lt_of_le_of_lt (Nat.div_le_self _ _) hx)]
    have := Nat.shiftLeft_add_eq_or_of_lt (a := w.toNat % 2 ^ (32 - k)) (i := k) h2
    rw [Nat.shiftLeft_eq] at this
    exact this.symm
end Hyp
namespace Hyp
def foldB {σ : Type} (n : Nat) (f : σ → List UInt8 → σ) (h : σ) (p : List UInt8) : σ × List UInt8 :=
  if hn : n = 0 ∨ p.length < n then (h, p) else foldB n f (f h (p.take n)) (p.drop n)
termination_by p.length
decreasing_by simp only [List.length_drop]; omega
section
variable {σ : Type} {n : Nat} {f : σ → List UInt8 → σ}
theorem foldB_short {h : σ} {p : List UInt8} (hp : p.length < n) : foldB n f h p = (h, p) := by rw [foldB, dif_pos (.inr hp)]
theorem foldB_block {h : σ} {p : List UInt8} (h0 : n ≠ 0) (hp : n ≤ p.length) : foldB n f h p = foldB n f (f h (p.take n)) (p.drop n) := by
  rw [foldB, dif_neg (by omega)]
theorem foldB_append (h0 : n ≠ 0) : ∀ (k : Nat) (h : σ) (a b : List UInt8), a.length ≤ k → foldB n f h (a ++ b) = foldB n f (foldB n f h a).1 ((foldB n f h a).2 ++ b) := by
  intro k
  induction k with
  | zero =>
    intro h a b hk
    have : a = [] := List.length_eq_zero_iff.1 (by omega)
    subst this
    rw [foldB_short (p := []) (by simp; omega)]
  | succ k ih =>
    intro h a b hk
    by_cases hl : a.length < n
    · rw [foldB_short hl]
    · have h1 : n ≤ a.length := by omega
      rw [foldB_block (p := a ++ b) h0 (by simp; omega), foldB_block (p := a) h0 h1, List.take_append_of_le_length h1, List.drop_append_of_le_length h1]
      exact ih _ _ _ (by simp; omega)
theorem foldB_app (h0 : n ≠ 0) (h : σ) (a b : List UInt8) : foldB n f h (a ++ b) = foldB n f (foldB n f h a).1 ((foldB n f h a).2 ++ b) := foldB_append h0 _ h a b (Nat.le_refl _)
theorem foldB_rest (h0 : n ≠ 0) : ∀ (k : Nat) (h : σ) (a : List UInt8), a.length ≤ k → (foldB n f h a).2 = a.drop (a.length / n * n) := by
  intro k
  induction k with
  | zero =>
    intro h a hk
    have : a = [] := List.length_eq_zero_iff.1 (by omega)
    subst this
    rw [foldB_short (p := []) (by simp; omega)]; simp
  | succ k ih =>
    intro h a hk
    by_cases hl : a.length < n
    · rw [foldB_short hl, Nat.div_eq_of_lt hl]; simp
    · have h1 : n ≤ a.length := by omega
      rw [foldB_block h0 h1, ih _ _ (by simp; omega), List.drop_drop, List.length_drop]
      congr 1
      have : a.length / n = (a.length - n) / n + 1 := by rw [Nat.div_eq_sub_div (by omega) h1]
      rw [this, Nat.add_mul, Nat.one_mul, Nat.add_comm]
theorem foldB_rest_lt (h0 : n ≠ 0) (h : σ) (a : List UInt8) : (foldB n f h a).2.length < n := by
  rw [foldB_rest h0 _ h a (Nat.le_refl _), List.length_drop]
  have := Nat.div_add_mod a.length n
  have h2 := Nat.mod_lt a.length (Nat.pos_of_ne_zero h0)
  rw [Nat.mul_comm] at this
  omega
end
end Hyp
namespace Hyp
def nv : List Int → Int
  | [] => 0
  | x :: l => x + 256 * nv l
def dg (l : List Int) : Prop := ∀ x ∈ l, 0 ≤ x ∧ x < 256
def hd0 (l : List Int) : Int := l.headD 0
def sumS : List Int → List Int → Int → Nat → List Int
  | _, _, _, 0 => []
  | a, b, c, k + 1 => ((hd0 a + hd0 b + c) % 256) :: sumS a.tail b.tail ((hd0 a + hd0 b + c) / 256) k
def mulRow : List Int → Int → List Int → Int → List Int
  | [], _, _, _ => []
  | y :: o, x, b, c => ((y + x * hd0 b + c) % 256) :: mulRow o x b.tail ((y + x * hd0 b + c) / 256)
def shr2 : List Int → List Int
  | [] => []
  | x :: l => (x / 4 + hd0 l % 4 * 64) :: shr2 l
end Hyp
namespace Hyp
abbrev p130 : Int := 1361129467683753853853498429727072845819
def foldV (x : Int) : Int := x % 1361129467683753853853498429727072845824 + 5 * (x / 1361129467683753853853498429727072845824)
def lowD (a : List Int) : List Int := a.take 16 ++ [hd0 (a.drop 16) % 4]
end Hyp
namespace Hyp
def V (a0 a1 a2 a3 a4 : Nat) : Nat := a0 + a1 * 67108864 + a2 * 4503599627370496 + a3 * 302231454903657293676544 + a4 * 20282409603651670423947251286016
abbrev P130 : Nat := 1361129467683753853853498429727072845819
theorem V_mul (a0 a1 a2 a3 a4 r0 r1 r2 r3 r4 : Nat) : V a0 a1 a2 a3 a4 * V r0 r1 r2 r3 r4 =
   V (a0*r0 + a1*r4*5 + a2*r3*5 + a3*r2*5 + a4*r1*5) (a0*r1 + a1*r0 + a2*r4*5 + a3*r3*5 + a4*r2*5) (a0*r2+a1*r1+a2*r0+a3*r4*5+a4*r3*5) (a0*r3+a1*r2+a2*r1+a3*r0+a4*r4*5) (a0*r4+a1*r3+a2*r2+a3*r1+a4*r0)
   + 1361129467683753853853498429727072845819 * ((a1*r4+a2*r3+a3*r2+a4*r1) + (a2*r4+a3*r3+a4*r2)*67108864 + (a3*r4+a4*r3)*4503599627370496 + a4*r4*302231454903657293676544) := by
  unfold V
  grind
def car (d : Nat × Nat × Nat × Nat × Nat) : Nat × Nat × Nat × Nat × Nat :=
  let (d0, d1, d2, d3, d4) := d
  let t1 := d1 + d0 / 67108864
  let t2 := d2 + t1 / 67108864
  let t3 := d3 + t2 / 67108864
  let t4 := d4 + t3 / 67108864
  let f0 := d0 % 67108864 + 5 * (t4 / 67108864)
  (f0 % 67108864, t1 % 67108864 + f0 / 67108864, t2 % 67108864, t3 % 67108864, t4 % 67108864)
def V' (d : Nat × Nat × Nat × Nat × Nat) : Nat := V d.1 d.2.1 d.2.2.1 d.2.2.2.1 d.2.2.2.2
theorem car_V (d : Nat × Nat × Nat × Nat × Nat) : ∃ q, V' d = V' (car d) + 1361129467683753853853498429727072845819 * q := by
  obtain ⟨d0, d1, d2, d3, d4⟩ := d
  refine ⟨(d4 + (d3 + (d2 + (d1 + d0 / 67108864) / 67108864) / 67108864) / 67108864) / 67108864, ?_⟩
  simp only [V', car, V]
  omega
end Hyp
namespace Hyp
theorem gtD {α : Type} {l : List α} {i : Nat} (d : α) (h : i < l.length) : gt l i = some (l.getD i d) := by
  rw [gt_lt h, List.getD_eq_getElem?_getD, List.getElem?_eq_getElem h]; rfl
theorem getD_app {α : Type} {l m : List α} {i : Nat} {d : α} (h : i < l.length) : (l ++ m).getD i d = l.getD i d := by
  rw [List.getD_eq_getElem?_getD, List.getElem?_append_left h, List.getD_eq_getElem?_getD]
theorem gtA {α : Type} {l m : List α} {i : Nat} (d : α) (h : i < l.length) : gt (l ++ m) i = some (l.getD i d) := by
  rw [gtD d (by rw [List.length_append]; omega), getD_app h]
theorem set_rep {α : Type} {z : α} (done : List α) (j r : Nat) (x : α) (h : done.length = j) : (done ++ List.replicate (r + 1) z).set j x = done ++ [x] ++ List.replicate r z := by
  subst h
  rw [List.set_append_right _ _ (Nat.le_refl _), Nat.sub_self, List.append_assoc]
  rfl
theorem lnEq {α : Type} {b : List α} {k : Nat} (h : b.length = k) : ln b = (k : Int) := by rw [← h]
theorem rI {α : Type} {b : Bool} {x y : Tree α} {r : Option α} (h : b = true) (h2 : x.run = r) : (Tree.ite b x y).run = r := by subst h; exact h2
theorem rE {α : Type} {b : Bool} {x y : Tree α} {r : Option α} (h : b = false) (h2 : y.run = r) : (Tree.ite b x y).run = r := by subst h; exact h2
theorem rG {α β : Type} {o : Option β} {k : β → Tree α} {y : β} {r : Option α} (h : o = some y) (h2 : (k y).run = r) : (Tree.get o k).run = r := by subst h; exact h2
theorem rS {α β : Type} {t : Tree β} {k : β → Tree α} {y : β} {r : Option α} (h : t.run = some y) (h2 : (k y).run = r) : (Tree.sub t k).run = r := by
  show t.run.bind _ = r
  rw [h]; exact h2
theorem rSR {α : Type} {t : Tree α} : (Tree.sub t fun y => Tree.ret y).run = t.run := by
  show (t.run.bind fun y => some y) = t.run
  cases t.run <;> rfl
theorem bndO {α β : Type} {x : Option α} {f : α → Option β} {a : α} {r : Option β} (h : x = some a) (h2 : f a = r) : x.bind f = r := by rw [h]; exact h2
theorem bind_id {α : Type} (x : Option α) : (x.bind fun y => some y) = x := by cases x <;> rfl
theorem len8 {α : Type} {s : List α} (h : s.length = 8) : ∃ a b c d e f g i, s = [a, b, c, d, e, f, g, i] := by
  match s, h with
  | [a, b, c, d, e, f, g, i], _ => exact ⟨a, b, c, d, e, f, g, i, rfl⟩
theorem len4 {α : Type} {s : List α} (h : s.length = 4) : ∃ a b c d, s = [a, b, c, d] := by
  match s, h with
  | [a, b, c, d], _ => exact ⟨a, b, c, d, rfl⟩
def beN : Nat → Nat → List UInt8
  | 0, _ => []
  | k + 1, m => beN k (m / 256) ++ [UInt8.ofNat m]
theorem beN_len : ∀ k m, (beN k m).length = k
  | 0, _ => rfl
  | k + 1, m => by rw [beN, List.length_append, beN_len k]; rfl
def leN (k m : Nat) : List UInt8 := (beN k m).reverse
theorem leN_len (k m : Nat) : (leN k m).length = k := by rw [leN, List.length_reverse, beN_len]
def leV (b : List UInt8) : Nat := be b.reverse
def earlyS (w : UInt32) : UInt32 := (rotl w 25 ^^^ rotl w 14) ^^^ shr32 w 3
def lateS (w : UInt32) : UInt32 := (rotl w 15 ^^^ rotl w 13) ^^^ shr32 w 10
def lowS (w : UInt32) : UInt32 := (rotl w 30 ^^^ rotl w 19) ^^^ rotl w 10
def highS (w : UInt32) : UInt32 := (rotl w 26 ^^^ rotl w 21) ^^^ rotl w 7
def ldW : Nat → List UInt8 → List UInt32
  | 0, _ => []
  | k + 1, b => UInt32.ofNat (be (b.take 4)) :: ldW k (b.drop 4)
theorem ldW_len : ∀ k b, (ldW k b).length = k
  | 0, _ => rfl
  | k + 1, b => by rw [ldW, List.length_cons, ldW_len k]
def nextW (l : List UInt32) : UInt32 := ((lateS (l.getD (l.length - 2) 0) + l.getD (l.length - 7) 0) + earlyS (l.getD (l.length - 15) 0)) + l.getD (l.length - 16) 0
def extW : Nat → List UInt32 → List UInt32
  | 0, l => l
  | k + 1, l => extW k (l ++ [nextW l])
theorem extW_len : ∀ k l, (extW k l).length = l.length + k
  | 0, _ => rfl
  | k + 1, l => by rw [extW, extW_len k, List.length_append, List.length_singleton]; omega
def wordsS (b : List UInt8) : List UInt32 := extW 48 (ldW 16 b)
theorem wordsS_len (b : List UInt8) : (wordsS b).length = 64 := by rw [wordsS, extW_len, ldW_len]
def kS : List UInt32 := [1116352408, 1899447441, 3049323471, 3921009573, 961987163, 1508970993, 2453635748, 2870763221, 3624381080, 310598401, 607225278, 1426881987, 1925078388, 2162078206, 2614888103, 3248222580, 3835390401, 4022224774, 264347078, 604807628, 770255983, 1249150122, 1555081692, 1996064986, 2554220882, 2821834349, 2952996808, 3210313671, 3336571891, 3584528711, 113926993, 338241895, 666307205, 773529912, 1294757372, 1396182291, 1695183700, 1986661051, 2177026350, 2456956037, 2730485921, 2820302411, 3259730800, 3345764771, 3516065817, 3600352804, 4094571909, 275423344, 430227734, 506948616, 659060556, 883997877, 958139571, 1322822218, 1537002063, 1747873779, 1955562222, 2024104815, 2227730452, 2361852424, 2428436474, 2756734187, 3204031479, 3329325298]
def h0S : List UInt32 := [1779033703, 3144134277, 1013904242, 2773480762, 1359893119, 2600822924, 528734635, 1541459225]
def rndS (s : List UInt32) (k w : UInt32) : List UInt32 := match s with
  | [a, b, c, d, e, f, g, h] =>
    [((((h + highS e) + ((e &&& f) ^^^ (((4294967295 : UInt32) ^^^ e) &&& g))) + k) + w) + (lowS a + (((a &&& b) ^^^ (a &&& c)) ^^^ (b &&& c))), a, b, c,
      d + ((((h + highS e) + ((e &&& f) ^^^ (((4294967295 : UInt32) ^^^ e) &&& g))) + k) + w), e, f, g]
  | _ => s
theorem rndS_len {s : List UInt32} {k w : UInt32} : (rndS s k w).length = s.length := by
  unfold rndS
  split
  · simp only [List.length_cons]
  · rfl
def rndsS : List UInt32 → List UInt32 → List UInt32 → List UInt32
  | k :: ks, w :: ws, s => rndsS ks ws (rndS s k w)
  | _, _, s => s
theorem rndsS_len : ∀ ks ws s, (rndsS ks ws s).length = s.length
  | [], _, _ => by rw [rndsS]; simp
  | k :: ks, [], _ => by rw [rndsS]; simp
  | k :: ks, w :: ws, s => by rw [rndsS, rndsS_len ks ws, rndS_len]
def blkS (h : List UInt32) (b : List UInt8) : List UInt32 := List.zipWith (· + ·) h (rndsS kS (wordsS b) h)
theorem blkS_len {h : List UInt32} {b : List UInt8} : (blkS h b).length = h.length := by
  unfold blkS; rw [List.length_zipWith, rndsS_len]; omega
theorem foldB_inv {σ : Type} {n : Nat} {f : σ → List UInt8 → σ} {I : σ → Prop} (h0 : n ≠ 0) (hf : ∀ h b, I h → b.length = n → I (f h b)) : ∀ (k : Nat) (h : σ) (a : List UInt8), a.length ≤ k → I h → I (foldB n f h a).1 := by
  intro k
  induction k with
  | zero =>
    intro h a hk hi
    have : a = [] := List.length_eq_zero_iff.1 (by omega)
    subst this
    rw [foldB_short (by simp; omega)]; exact hi
  | succ k ih =>
    intro h a hk hi
    by_cases hl : a.length < n
    · rw [foldB_short hl]; exact hi
    · rw [foldB_block h0 (by omega)]
      exact ih _ _ (by simp; omega) (hf _ _ hi (by simp; omega))
theorem foldB_8 (h : List UInt32) (a : List UInt8) (h8 : h.length = 8) : (foldB 64 blkS h a).1.length = 8 :=
  foldB_inv (σ := List UInt32) (n := 64) (f := blkS) (I := fun h : List UInt32 => h.length = 8) (by decide) (fun (h : List UInt32) b hi _ => by rw [blkS_len]; exact hi) _ _ _ (Nat.le_refl _) h8
def gap (n : Nat) : Nat := (119 - n % 64) % 64
def padS (m : List UInt8) : List UInt8 := m ++ ((128 : UInt8) :: List.replicate (gap m.length) 0) ++ beN 8 (UInt64.ofNat m.length * 8).toNat
def outS : List UInt32 → List UInt8
  | [] => []
  | w :: l => beN 4 w.toNat ++ outS l
theorem outS_len : ∀ l, (outS l).length = 4 * l.length
  | [] => rfl
  | w :: l => by rw [outS, List.length_append, beN_len, outS_len l, List.length_cons]; omega
def shaS (m : List UInt8) : List UInt8 := outS (foldB 64 blkS h0S (padS m)).1
theorem shaS_len (m : List UInt8) : (shaS m).length = 32 := by rw [shaS, outS_len, foldB_8 _ _ rfl]
def keyS (key : List UInt8) : List UInt8 := if 64 < key.length then shaS key else key
def xpad (key : List UInt8) (by_ : UInt8) : List UInt8 := (keyS key ++ List.replicate (64 - (keyS key).length) 0).map (· ^^^ by_)
def macS (key b : List UInt8) : List UInt8 := shaS (xpad key 92 ++ shaS (xpad key 54 ++ b))
theorem macS_len (key b : List UInt8) : (macS key b).length = 32 := shaS_len _
end Hyp
