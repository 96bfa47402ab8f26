/- The one-time tag, the program's: numbers in parts of 26 bits. -/
import Derived.Test.YtcojhmllnhkbnaaDoorPA
import Derived.Test.YtcojhmllnhkbnaaDoorKb
set_option linter.unusedVariables false
set_option linter.unusedSimpArgs false
set_option maxRecDepth 100000
namespace Hyp
open Go Go.Proofs
theorem len16 {α : Type} {s : List α} (h : s.length = 16) : ∃ a0 a1 a2 a3 a4 a5 a6 a7 a8 a9 b0 b1 b2 b3 b4 b5, s = [a0, a1, a2, a3, a4, a5, a6, a7, a8, a9, b0, b1, b2, b3, b4, b5] := by
  match s, h with
  | [a0, a1, a2, a3, a4, a5, a6, a7, a8, a9, b0, b1, b2, b3, b4, b5], _ => exact ⟨a0, a1, a2, a3, a4, a5, a6, a7, a8, a9, b0, b1, b2, b3, b4, b5, rfl⟩
def clS : List UInt8 → List UInt8
  | [a0, a1, a2, a3, a4, a5, a6, a7, a8, a9, b0, b1, b2, b3, b4, b5] => [a0, a1, a2, a3 &&& 15, a4 &&& 252, a5, a6, a7 &&& 15, a8 &&& 252, a9, b0, b1 &&& 15, b2 &&& 252, b3, b4, b5 &&& 15]
  | l => l
def polyF (r : Nat) (a : Nat) (b : List UInt8) : Nat := (a + (leV b + 340282366920938463463374607431768211456)) * r % 1361129467683753853853498429727072845819
def polyA (key m : List UInt8) : Nat := (foldB 16 (polyF (leV (clS (key.take 16)))) 0 m).1
def polyS (key m : List UInt8) : List UInt8 := leN 16 (polyA key m + leV (key.drop 16))
theorem polyS_len (key m : List UInt8) : (polyS key m).length = 16 := leN_len _ _
theorem and26 (x : UInt64) : (x &&& (67108863 : UInt64)).toNat = x.toNat % 67108864 := by
  rw [UInt64.toNat_and]; exact Nat.and_two_pow_sub_one_eq_mod x.toNat 26
theorem and32 (x : UInt64) : (x &&& (4294967295 : UInt64)).toNat = x.toNat % 4294967296 := by
  rw [UInt64.toNat_and]; exact Nat.and_two_pow_sub_one_eq_mod x.toNat 32
theorem le4 (a b c d : UInt8) : be [d, c, b, a] = a.toNat + 256 * b.toNat + 65536 * c.toNat + 16777216 * d.toNat := by
  simp only [be, List.foldl]; omega
theorem w_nat (a b c d : UInt8) : (UInt64.ofNat (UInt32.toNat (UInt32.ofNat (be [d, c, b, a])))).toNat = a.toNat + 256 * b.toNat + 65536 * c.toNat + 16777216 * d.toNat := by
  have ha := a.toNat_lt
  have hb := b.toNat_lt
  have hc := c.toNat_lt
  have hd := d.toNat_lt
  rw [(show ∀ w : UInt32, (UInt64.ofNat (UInt32.toNat w)).toNat = w.toNat from fun w => by rw [UInt64.toNat_ofNat', Nat.mod_eq_of_lt (Nat.lt_trans w.toNat_lt (by decide))]), UInt32.toNat_ofNat', le4, Nat.mod_eq_of_lt (by omega)]
theorem le16 (a0 a1 a2 a3 a4 a5 a6 a7 a8 a9 b0 b1 b2 b3 b4 b5 : UInt8) : leV [a0, a1, a2, a3, a4, a5, a6, a7, a8, a9, b0, b1, b2, b3, b4, b5] =
    a0.toNat + 256 * a1.toNat + 65536 * a2.toNat + 16777216 * a3.toNat + 4294967296 * a4.toNat + 1099511627776 * a5.toNat + 281474976710656 * a6.toNat + 72057594037927936 * a7.toNat
    + 18446744073709551616 * a8.toNat + 4722366482869645213696 * a9.toNat + 1208925819614629174706176 * b0.toNat + 309485009821345068724781056 * b1.toNat + 79228162514264337593543950336 * b2.toNat
    + 20282409603651670423947251286016 * b3.toNat + 5192296858534827628530496329220096 * b4.toNat + 1329227995784915872903807060280344576 * b5.toNat := by
  simp only [leV, List.reverse_cons, List.reverse_nil, List.nil_append, List.cons_append, be, List.foldl]
  omega
def rdU (a0 a1 a2 a3 a4 a5 a6 a7 a8 a9 b0 b1 b2 b3 b4 b5 : UInt8) (top : UInt64) : List UInt64 :=
  [shr64 (UInt64.ofNat (UInt32.toNat (UInt32.ofNat (be [a3, a2, a1, a0])))) 0 &&& 67108863, shr64 (UInt64.ofNat (UInt32.toNat (UInt32.ofNat (be [a6, a5, a4, a3])))) 2 &&& 67108863,
   shr64 (UInt64.ofNat (UInt32.toNat (UInt32.ofNat (be [a9, a8, a7, a6])))) 4 &&& 67108863, shr64 (UInt64.ofNat (UInt32.toNat (UInt32.ofNat (be [b2, b1, b0, a9])))) 6 &&& 67108863,
   shr64 (UInt64.ofNat (UInt32.toNat (UInt32.ofNat (be [b5, b4, b3, b2])))) 8 ||| shl64 top 24]
structure GoodP (l : List UInt64) (v : Nat) : Prop where
  ex : ∃ a0 a1 a2 a3 a4 : UInt64, l = [a0, a1, a2, a3, a4] ∧ V a0.toNat a1.toNat a2.toNat a3.toNat a4.toNat = v ∧ a0.toNat < 67108864 ∧ a1.toNat < 67109888 ∧ a2.toNat < 67108864 ∧ a3.toNat < 67108864 ∧ a4.toNat < 67108864
structure TightP (l : List UInt64) (v : Nat) : Prop where
  ex : ∃ a0 a1 a2 a3 a4 : UInt64, l = [a0, a1, a2, a3, a4] ∧ V a0.toNat a1.toNat a2.toNat a3.toNat a4.toNat = v ∧ a0.toNat < 67108864 ∧ a1.toNat < 67108864 ∧ a2.toNat < 67108864 ∧ a3.toNat < 67108864 ∧ a4.toNat < 67108864
theorem rdU_val (a0 a1 a2 a3 a4 a5 a6 a7 a8 a9 b0 b1 b2 b3 b4 b5 : UInt8) {top : UInt64} {t : Nat} (ht : (shr64 (UInt64.ofNat (UInt32.toNat (UInt32.ofNat (be [b5, b4, b3, b2])))) 8 ||| shl64 top 24).toNat = (b2.toNat + 256 * b3.toNat + 65536 * b4.toNat + 16777216 * b5.toNat) / 256 + 16777216 * t) (h1 : t ≤ 1) :
    TightP (rdU a0 a1 a2 a3 a4 a5 a6 a7 a8 a9 b0 b1 b2 b3 b4 b5 top) (leV [a0, a1, a2, a3, a4, a5, a6, a7, a8, a9, b0, b1, b2, b3, b4, b5] + 340282366920938463463374607431768211456 * t) := by
  have k0 := a0.toNat_lt
  have k1 := a1.toNat_lt
  have k2 := a2.toNat_lt
  have k3 := a3.toNat_lt
  have k4 := a4.toNat_lt
  have k5 := a5.toNat_lt
  have k6 := a6.toNat_lt
  have k7 := a7.toNat_lt
  have k8 := a8.toNat_lt
  have k9 := a9.toNat_lt
  have l0 := b0.toNat_lt
  have l1 := b1.toNat_lt
  have l2 := b2.toNat_lt
  have l3 := b3.toNat_lt
  have l4 := b4.toNat_lt
  have l5 := b5.toNat_lt
  refine ⟨_, _, _, _, _, rfl, ?_, ?_, ?_, ?_, ?_, ?_⟩
  · rw [ht, and26, and26, and26, and26, shr64_nat (by omega), shr64_nat (by omega), shr64_nat (by omega), shr64_nat (by omega), w_nat, w_nat, w_nat, w_nat, le16]
    unfold V
    omega
  · rw [and26]; omega
  · rw [and26]; omega
  · rw [and26]; omega
  · rw [and26]; omega
  · rw [ht]; omega
theorem top0 (x : UInt64) : (shr64 x 8 ||| shl64 (0 : UInt64) 24).toNat = x.toNat / 256 + 16777216 * 0 := by
  rw [UInt64.toNat_or, shr64_nat (by omega), show (shl64 (0 : UInt64) 24).toNat = 0 by decide]; simp
theorem top1 (x : UInt64) (h : x.toNat < 4294967296) : (shr64 x 8 ||| shl64 (1 : UInt64) 24).toNat = x.toNat / 256 + 16777216 * 1 := by
  rw [UInt64.toNat_or, shr64_nat (by omega), show (shl64 (1 : UInt64) 24).toNat = 1 * 2 ^ 24 by decide, Nat.or_comm]
  have := Nat.shiftLeft_add_eq_or_of_lt (a := 1) (i := 24) (b := x.toNat / 2 ^ 8) (by omega)
  rw [Nat.shiftLeft_eq] at this
  rw [← this]; omega
theorem read_run {n : Nat} (hn : 6 ≤ n) {f : Bool} {b : List UInt8} (hb : b.length = 16) {top : UInt64} {t : Nat} (ht : (top = 0 ∧ t = 0) ∨ (top = 1 ∧ t = 1)) :
    ∃ l, (F_onetime_read n f b top).run = some l ∧ TightP l (leV b + 340282366920938463463374607431768211456 * t) := by
  obtain ⟨a0, a1, a2, a3, a4, a5, a6, a7, a8, a9, b0, b1, b2, b3, b4, b5, rfl⟩ := len16 hb
  obtain ⟨m, rfl⟩ : ∃ q, n = q + 6 := ⟨n - 6, by omega⟩
  have l2 := b2.toNat_lt
  have l3 := b3.toNat_lt
  have l4 := b4.toNat_lt
  have l5 := b5.toNat_lt
  refine ⟨rdU a0 a1 a2 a3 a4 a5 a6 a7 a8 a9 b0 b1 b2 b3 b4 b5 top, ?_, rdU_val _ _ _ _ _ _ _ _ _ _ _ _ _ _ _ _ ?_ ?_⟩
  · unfold rdU
    rw [← be4_or, ← be4_or, ← be4_or, ← be4_or, ← be4_or]
    kernel_rfl
  · rcases ht with ⟨rfl, rfl⟩ | ⟨rfl, rfl⟩
    · rw [top0, w_nat]
    · rw [top1 _ (by rw [w_nat]; omega), w_nat]
  · omega
theorem mulB {x y : UInt64} (hx : x.toNat ≤ 134218751) (hy : y.toNat ≤ 67108863) : (x * y).toNat = x.toNat * y.toNat ∧ (x * y * 5).toNat = x.toNat * y.toNat * 5 ∧ x.toNat * y.toNat ≤ 9007267772890113 := by
  have h : x.toNat * y.toNat ≤ 134218751 * 67108863 := Nat.mul_le_mul hx hy
  have e : (x * y).toNat = x.toNat * y.toNat := by rw [UInt64.toNat_mul, Nat.mod_eq_of_lt (by omega)]
  refine ⟨e, ?_, by omega⟩
  rw [UInt64.toNat_mul, e]
  show x.toNat * y.toNat * 5 % 2 ^ 64 = _
  rw [Nat.mod_eq_of_lt (by omega)]
theorem sum5 {a b c d e : UInt64} (ha : a.toNat ≤ 45036338864450565) (hb : b.toNat ≤ 45036338864450565) (hc : c.toNat ≤ 45036338864450565) (hd : d.toNat ≤ 45036338864450565) (he : e.toNat ≤ 45036338864450565) :
    (0 + a + b + c + d + e).toNat = a.toNat + b.toNat + c.toNat + d.toNat + e.toNat := by
  rw [UInt64.toNat_add, UInt64.toNat_add, UInt64.toNat_add, UInt64.toNat_add, UInt64.toNat_add]
  show (((((0 + a.toNat) % 2 ^ 64 + b.toNat) % 2 ^ 64 + c.toNat) % 2 ^ 64 + d.toNat) % 2 ^ 64 + e.toNat) % 2 ^ 64 = _
  omega
def carU (d0 d1 d2 d3 d4 : UInt64) : List UInt64 :=
  let t0 := d0 + 0
  let t1 := d1 + shr64 t0 26
  let t2 := d2 + shr64 t1 26
  let t3 := d3 + shr64 t2 26
  let t4 := d4 + shr64 t3 26
  let f0 := (t0 &&& 67108863) + 5 * shr64 t4 26
  [f0 &&& 67108863, (t1 &&& 67108863) + shr64 f0 26, t2 &&& 67108863, t3 &&& 67108863, t4 &&& 67108863]
theorem carried_eq {n : Nat} (hn : 6 ≤ n) (d0 d1 d2 d3 d4 : UInt64) : (F_onetime_carried n [d0, d1, d2, d3, d4]).run = some (carU d0 d1 d2 d3 d4) := by
  obtain ⟨m, rfl⟩ : ∃ q, n = q + 6 := ⟨n - 6, by omega⟩
  kernel_rfl
theorem add64 {a b : UInt64} (h : a.toNat + b.toNat < 18446744073709551616) : (a + b).toNat = a.toNat + b.toNat := by
  rw [UInt64.toNat_add]; exact Nat.mod_eq_of_lt h
theorem carU_val {d0 d1 d2 d3 d4 : UInt64} (h0 : d0.toNat < 1152921504606846976) (h1 : d1.toNat < 1152921504606846976) (h2 : d2.toNat < 1152921504606846976) (h3 : d3.toNat < 1152921504606846976) (h4 : d4.toNat < 1152921504606846976) :
    ∃ e0 e1 e2 e3 e4 : UInt64, carU d0 d1 d2 d3 d4 = [e0, e1, e2, e3, e4] ∧ (e0.toNat, e1.toNat, e2.toNat, e3.toNat, e4.toNat) = car (d0.toNat, d1.toNat, d2.toNat, d3.toNat, d4.toNat) := by
  refine ⟨_, _, _, _, _, rfl, ?_⟩
  have s : ∀ x : UInt64, (shr64 x 26).toNat = x.toNat / 67108864 := fun x => shr64_nat (by omega)
  have e0 : (d0 + 0).toNat = d0.toNat := by rw [UInt64.add_zero]
  have e1 : (d1 + shr64 (d0 + 0) 26).toNat = d1.toNat + d0.toNat / 67108864 := by rw [add64 (by rw [s, e0]; omega), s, e0]
  have e2 : (d2 + shr64 (d1 + shr64 (d0 + 0) 26) 26).toNat = d2.toNat + (d1.toNat + d0.toNat / 67108864) / 67108864 := by rw [add64 (by rw [s, e1]; omega), s, e1]
  have e3 : (d3 + shr64 (d2 + shr64 (d1 + shr64 (d0 + 0) 26) 26) 26).toNat = d3.toNat + (d2.toNat + (d1.toNat + d0.toNat / 67108864) / 67108864) / 67108864 := by rw [add64 (by rw [s, e2]; omega), s, e2]
  have e4 : (d4 + shr64 (d3 + shr64 (d2 + shr64 (d1 + shr64 (d0 + 0) 26) 26) 26) 26).toNat = d4.toNat + (d3.toNat + (d2.toNat + (d1.toNat + d0.toNat / 67108864) / 67108864) / 67108864) / 67108864 := by rw [add64 (by rw [s, e3]; omega), s, e3]
  have e5 : (5 * shr64 (d4 + shr64 (d3 + shr64 (d2 + shr64 (d1 + shr64 (d0 + 0) 26) 26) 26) 26) 26).toNat = 5 * ((d4.toNat + (d3.toNat + (d2.toNat + (d1.toNat + d0.toNat / 67108864) / 67108864) / 67108864) / 67108864) / 67108864) := by
    rw [UInt64.toNat_mul, s, e4]
    show 5 * _ % 2 ^ 64 = _
    rw [Nat.mod_eq_of_lt (by omega)]
  have e6 : (((d0 + 0) &&& 67108863) + 5 * shr64 (d4 + shr64 (d3 + shr64 (d2 + shr64 (d1 + shr64 (d0 + 0) 26) 26) 26) 26) 26).toNat = d0.toNat % 67108864 + 5 * ((d4.toNat + (d3.toNat + (d2.toNat + (d1.toNat + d0.toNat / 67108864) / 67108864) / 67108864) / 67108864) / 67108864) := by
    rw [add64 (by rw [e5, and26, e0]; omega), e5, and26, e0]
  have e7 : (((d1 + shr64 (d0 + 0) 26) &&& 67108863) + shr64 (((d0 + 0) &&& 67108863) + 5 * shr64 (d4 + shr64 (d3 + shr64 (d2 + shr64 (d1 + shr64 (d0 + 0) 26) 26) 26) 26) 26) 26).toNat = (d1.toNat + d0.toNat / 67108864) % 67108864 + (d0.toNat % 67108864 + 5 * ((d4.toNat + (d3.toNat + (d2.toNat + (d1.toNat + d0.toNat / 67108864) / 67108864) / 67108864) / 67108864) / 67108864)) / 67108864 := by
    rw [add64 (by rw [s, e6, and26, e1]; omega), s, e6, and26, e1]
  simp only [and26, e2, e3, e4, e6, e7]
  rfl
theorem times_eq {n : Nat} (hn : 6 ≤ n) (a0 a1 a2 a3 a4 r0 r1 r2 r3 r4 : UInt64) : (F_onetime_limbs_times_l0 n n (0 : Int) [a0, a1, a2, a3, a4] [r0, r1, r2, r3, r4] ([(0 : UInt64), (0 : UInt64), (0 : UInt64), (0 : UInt64), (0 : UInt64)] : List UInt64)).run =
    some [0 + a0 * r0 + a1 * r4 * 5 + a2 * r3 * 5 + a3 * r2 * 5 + a4 * r1 * 5, 0 + a0 * r1 + a1 * r0 + a2 * r4 * 5 + a3 * r3 * 5 + a4 * r2 * 5, 0 + a0 * r2 + a1 * r1 + a2 * r0 + a3 * r4 * 5 + a4 * r3 * 5,
      0 + a0 * r3 + a1 * r2 + a2 * r1 + a3 * r0 + a4 * r4 * 5, 0 + a0 * r4 + a1 * r3 + a2 * r2 + a3 * r1 + a4 * r0] := by
  obtain ⟨m, rfl⟩ : ∃ q, n = q + 6 := ⟨n - 6, by omega⟩
  kernel_rfl
theorem take_eq {n : Nat} (hn : 6 ≤ n) (b0 b1 b2 b3 b4 a0 a1 a2 a3 a4 : UInt64) (r s : List UInt64) (t : List UInt8) : (F_onetime_Adder_take_l0 n n (0 : Int) r [a0, a1, a2, a3, a4] s t [b0, b1, b2, b3, b4]).run = some [b0 + a0, b1 + a1, b2 + a2, b3 + a3, b4 + a4] := by
  obtain ⟨m, rfl⟩ : ∃ q, n = q + 6 := ⟨n - 6, by omega⟩
  kernel_rfl
theorem car_good {d0 d1 d2 d3 d4 : Nat} (h0 : d0 ≤ 225181694322252825) (h1 : d1 ≤ 225181694322252825) (h2 : d2 ≤ 225181694322252825) (h3 : d3 ≤ 225181694322252825) (h4 : d4 ≤ 225181694322252825) {e0 e1 e2 e3 e4 : Nat} (he : (e0, e1, e2, e3, e4) = car (d0, d1, d2, d3, d4)) :
    e0 < 67108864 ∧ e1 < 67109888 ∧ e2 < 67108864 ∧ e3 < 67108864 ∧ e4 < 67108864 := by
  simp only [car, Prod.mk.injEq] at he
  obtain ⟨rfl, rfl, rfl, rfl, rfl⟩ := he
  omega
theorem take_run {n : Nat} (hn : 6 ≤ n) {blk r a s : List UInt64} {t : List UInt8} {vb vr va : Nat} (hb : TightP blk vb) (hr : TightP r vr) (ha : GoodP a va) :
    ∃ a' va', (F_onetime_Adder_take n blk r a s t).run = some a' ∧ GoodP a' va' ∧ va' % 1361129467683753853853498429727072845819 = (va + vb) * vr % 1361129467683753853853498429727072845819 := by
  obtain ⟨b0, b1, b2, b3, b4, rfl, eb, hb0, hb1, hb2, hb3, hb4⟩ := hb.ex
  obtain ⟨r0, r1, r2, r3, r4, rfl, er, hr0, hr1, hr2, hr3, hr4⟩ := hr.ex
  obtain ⟨a0, a1, a2, a3, a4, rfl, ea, ha0, ha1, ha2, ha3, ha4⟩ := ha.ex
  have c0 : (b0 + a0).toNat = b0.toNat + a0.toNat := add64 (by omega)
  have c1 : (b1 + a1).toNat = b1.toNat + a1.toNat := add64 (by omega)
  have c2 : (b2 + a2).toNat = b2.toNat + a2.toNat := add64 (by omega)
  have c3 : (b3 + a3).toNat = b3.toNat + a3.toNat := add64 (by omega)
  have c4 : (b4 + a4).toNat = b4.toNat + a4.toNat := add64 (by omega)
  generalize hg0 : b0 + a0 = g0 at c0
  generalize hg1 : b1 + a1 = g1 at c1
  generalize hg2 : b2 + a2 = g2 at c2
  generalize hg3 : b3 + a3 = g3 at c3
  generalize hg4 : b4 + a4 = g4 at c4
  have M : ∀ {x y : UInt64}, x.toNat ≤ 134218751 → y.toNat < 67108864 → (x * y).toNat = x.toNat * y.toNat ∧ (x * y * 5).toNat = x.toNat * y.toNat * 5 ∧ x.toNat * y.toNat ≤ 9007267772890113 := fun hx hy => mulB hx (by omega)
  have g0b : g0.toNat ≤ 134218751 := by omega
  have g1b : g1.toNat ≤ 134218751 := by omega
  have g2b : g2.toNat ≤ 134218751 := by omega
  have g3b : g3.toNat ≤ 134218751 := by omega
  have g4b : g4.toNat ≤ 134218751 := by omega
  obtain ⟨p00, q00, z00⟩ := M g0b hr0
  obtain ⟨p01, q01, z01⟩ := M g0b hr1
  obtain ⟨p02, q02, z02⟩ := M g0b hr2
  obtain ⟨p03, q03, z03⟩ := M g0b hr3
  obtain ⟨p04, q04, z04⟩ := M g0b hr4
  obtain ⟨p10, q10, z10⟩ := M g1b hr0
  obtain ⟨p11, q11, z11⟩ := M g1b hr1
  obtain ⟨p12, q12, z12⟩ := M g1b hr2
  obtain ⟨p13, q13, z13⟩ := M g1b hr3
  obtain ⟨p14, q14, z14⟩ := M g1b hr4
  obtain ⟨p20, q20, z20⟩ := M g2b hr0
  obtain ⟨p21, q21, z21⟩ := M g2b hr1
  obtain ⟨p22, q22, z22⟩ := M g2b hr2
  obtain ⟨p23, q23, z23⟩ := M g2b hr3
  obtain ⟨p24, q24, z24⟩ := M g2b hr4
  obtain ⟨p30, q30, z30⟩ := M g3b hr0
  obtain ⟨p31, q31, z31⟩ := M g3b hr1
  obtain ⟨p32, q32, z32⟩ := M g3b hr2
  obtain ⟨p33, q33, z33⟩ := M g3b hr3
  obtain ⟨p34, q34, z34⟩ := M g3b hr4
  obtain ⟨p40, q40, z40⟩ := M g4b hr0
  obtain ⟨p41, q41, z41⟩ := M g4b hr1
  obtain ⟨p42, q42, z42⟩ := M g4b hr2
  obtain ⟨p43, q43, z43⟩ := M g4b hr3
  obtain ⟨p44, q44, z44⟩ := M g4b hr4
  have s0 := sum5 (a := g0 * r0) (b := g1 * r4 * 5) (c := g2 * r3 * 5) (d := g3 * r2 * 5) (e := g4 * r1 * 5) (by omega) (by omega) (by omega) (by omega) (by omega)
  have s1 := sum5 (a := g0 * r1) (b := g1 * r0) (c := g2 * r4 * 5) (d := g3 * r3 * 5) (e := g4 * r2 * 5) (by omega) (by omega) (by omega) (by omega) (by omega)
  have s2 := sum5 (a := g0 * r2) (b := g1 * r1) (c := g2 * r0) (d := g3 * r4 * 5) (e := g4 * r3 * 5) (by omega) (by omega) (by omega) (by omega) (by omega)
  have s3 := sum5 (a := g0 * r3) (b := g1 * r2) (c := g2 * r1) (d := g3 * r0) (e := g4 * r4 * 5) (by omega) (by omega) (by omega) (by omega) (by omega)
  have s4 := sum5 (a := g0 * r4) (b := g1 * r3) (c := g2 * r2) (d := g3 * r1) (e := g4 * r0) (by omega) (by omega) (by omega) (by omega) (by omega)
  rw [p00, q14, q23, q32, q41] at s0
  rw [p01, p10, q24, q33, q42] at s1
  rw [p02, p11, p20, q34, q43] at s2
  rw [p03, p12, p21, p30, q44] at s3
  rw [p04, p13, p22, p31, p40] at s4
  obtain ⟨e0, e1, e2, e3, e4, hc, he⟩ := carU_val (d0 := 0 + g0 * r0 + g1 * r4 * 5 + g2 * r3 * 5 + g3 * r2 * 5 + g4 * r1 * 5) (d1 := 0 + g0 * r1 + g1 * r0 + g2 * r4 * 5 + g3 * r3 * 5 + g4 * r2 * 5) (d2 := 0 + g0 * r2 + g1 * r1 + g2 * r0 + g3 * r4 * 5 + g4 * r3 * 5)
    (d3 := 0 + g0 * r3 + g1 * r2 + g2 * r1 + g3 * r0 + g4 * r4 * 5) (d4 := 0 + g0 * r4 + g1 * r3 + g2 * r2 + g3 * r1 + g4 * r0) (by omega) (by omega) (by omega) (by omega) (by omega)
  rw [s0, s1, s2, s3, s4] at he
  have hgd := car_good (by omega) (by omega) (by omega) (by omega) (by omega) he
  obtain ⟨q, hq⟩ := car_V (g0.toNat * r0.toNat + g1.toNat * r4.toNat * 5 + g2.toNat * r3.toNat * 5 + g3.toNat * r2.toNat * 5 + g4.toNat * r1.toNat * 5, g0.toNat * r1.toNat + g1.toNat * r0.toNat + g2.toNat * r4.toNat * 5 + g3.toNat * r3.toNat * 5 + g4.toNat * r2.toNat * 5, g0.toNat * r2.toNat + g1.toNat * r1.toNat + g2.toNat * r0.toNat + g3.toNat * r4.toNat * 5 + g4.toNat * r3.toNat * 5,
    g0.toNat * r3.toNat + g1.toNat * r2.toNat + g2.toNat * r1.toNat + g3.toNat * r0.toNat + g4.toNat * r4.toNat * 5, g0.toNat * r4.toNat + g1.toNat * r3.toNat + g2.toNat * r2.toNat + g3.toNat * r1.toNat + g4.toNat * r0.toNat)
  rw [← he] at hq
  have hm := V_mul g0.toNat g1.toNat g2.toNat g3.toNat g4.toNat r0.toNat r1.toNat r2.toNat r3.toNat r4.toNat
  have hv : V g0.toNat g1.toNat g2.toNat g3.toNat g4.toNat = va + vb := by
    rw [c0, c1, c2, c3, c4, ← ea, ← eb]
    unfold V; omega
  refine ⟨[e0, e1, e2, e3, e4], _, ?_, ⟨e0, e1, e2, e3, e4, rfl, rfl, hgd.1, hgd.2.1, hgd.2.2.1, hgd.2.2.2.1, hgd.2.2.2.2⟩, ?_⟩
  · unfold F_onetime_Adder_take F_onetime_limbs_times
    simp only [Tree.run, take_eq hn, hg0, hg1, hg2, hg3, hg4, Option.bind_some, times_eq hn, carried_eq hn, hc]
  · rw [← hv, ← er, hm]
    simp only [V'] at hq
    rw [hq, Nat.add_mul_mod_self_left, Nat.add_mul_mod_self_left]
theorem padd_l0 {n : Nat} (hn : 6 ≤ n) {r s : List UInt64} {vr : Nat} (hr : TightP r vr) : ∀ (k : Nat) (a : List UInt64) (va acc : Nat) (t : List UInt8), GoodP a va → va % 1361129467683753853853498429727072845819 = acc % 1361129467683753853853498429727072845819 → t.length < 16 * k →
    ∃ a' va', (F_onetime_Adder_Add_l0 n k r a s t).run = some (a', (foldB 16 (polyF vr) acc t).2) ∧ GoodP a' va' ∧ va' % 1361129467683753853853498429727072845819 = (foldB 16 (polyF vr) acc t).1 % 1361129467683753853853498429727072845819
  | 0, _, _, _, _, _, _, h => by omega
  | k + 1, a, va, acc, t, ha, hv, hk => by
    unfold F_onetime_Adder_Add_l0
    by_cases hl : t.length < 16
    · have e1 : decide ((16 : Int) ≤ ln t) = false := decide_eq_false (by unfold ln; omega)
      refine ⟨a, va, ?_, ha, ?_⟩
      · simp only [Tree.run, e1, cond_false, foldB_short hl]
      · rw [foldB_short hl]; exact hv
    · have e1 : decide ((16 : Int) ≤ ln t) = true := decide_eq_true (by unfold ln; omega)
      have e2 : (ite (And ((0 : Int) ≤ (0 : Int)) (And ((0 : Int) ≤ (16 : Int)) ((16 : Int) ≤ (ln t)))) (Option.some Unit.unit) Option.none) = some () := if_pos ⟨by omega, by omega, by unfold ln; omega⟩
      have e3 : (ite (And ((0 : Int) ≤ (16 : Int)) (And ((16 : Int) ≤ (ln t)) ((ln t) ≤ (ln t)))) (Option.some Unit.unit) Option.none) = some () := if_pos ⟨by omega, by unfold ln; omega, by omega⟩
      have e5 : List.take ((Int.toNat (ln t)) - 16) (List.drop 16 t) = t.drop 16 := take_rest (by simp; omega)
      obtain ⟨l, hl1, hl2⟩ := read_run hn (f := false) (b := t.take 16) (by simp; omega) (top := 1) (t := 1) (.inr ⟨rfl, rfl⟩)
      obtain ⟨a', va', ht1, ht2, ht3⟩ := take_run hn (s := s) (t := t) hl2 hr ha
      obtain ⟨a'', va'', h1, h2, h3⟩ := padd_l0 hn (s := s) hr k a' va' (polyF vr acc (t.take 16)) (t.drop 16) ht2 (by
        rw [ht3]
        unfold polyF
        rw [Nat.mod_mod, Nat.mul_one, Nat.mul_mod, Nat.add_mod, hv, ← Nat.add_mod, ← Nat.mul_mod]) (by simp; omega)
      refine ⟨a'', va'', ?_, h2, ?_⟩
      · simp only [Tree.run, e1, cond_true, e2, e3, List.drop_zero, e5, Option.bind_some, hl1, ht1, h1]
        rw [foldB_block (p := t) (by decide) (by omega)]
      · rw [foldB_block (p := t) (by decide) (by omega)]; exact h3
theorem polyA_lt (f : Nat) : ∀ (k a : Nat) (m : List UInt8), m.length ≤ k → a < 1361129467683753853853498429727072845819 → (foldB 16 (polyF f) a m).1 < 1361129467683753853853498429727072845819 :=
  fun k a m h ha => foldB_inv (I := fun x => x < 1361129467683753853853498429727072845819) (by decide) (fun h b _ _ => Nat.mod_lt _ (by decide)) k a m h ha
structure HeldP (key m : List UInt8) (a : List UInt64) (t : List UInt8) : Prop where
  a : ∃ va, GoodP a va ∧ va % 1361129467683753853853498429727072845819 = polyA key m % 1361129467683753853853498429727072845819
  t : t = (foldB 16 (polyF (leV (clS (key.take 16)))) 0 m).2
theorem padd {n : Nat} (hn : 6 ≤ n) {key m b : List UInt8} {r a s : List UInt64} {t : List UInt8} (hr : TightP r (leV (clS (key.take 16)))) (h : HeldP key m a t) (hb : b.length + 16 < 16 * n) (hc : b.length + 16 ≤ 140737488355328) :
    ∃ a' t', (F_onetime_Adder_Add_1 n b r a s t).run = some (a', t') ∧ HeldP key (m ++ b) a' t' := by
  have hlt := foldB_rest_lt (n := 16) (f := polyF (leV (clS (key.take 16)))) (by decide) 0 m
  have ht := h.t
  obtain ⟨va, h1, h2⟩ := h.a
  have e1 : appI 140737488355328 t b = some (t ++ b) := appI_le (by rw [ht]; omega)
  obtain ⟨a', va', g1, g2, g3⟩ := padd_l0 hn (s := s) hr n a va (polyA key m) (t ++ b) h1 h2 (by rw [List.length_append, ht]; omega)
  have happ : foldB 16 (polyF (leV (clS (key.take 16)))) (polyA key m) (t ++ b) = foldB 16 (polyF (leV (clS (key.take 16)))) 0 (m ++ b) := by
    rw [ht]; exact (foldB_app (by decide) 0 m b).symm
  rw [happ] at g1 g3
  refine ⟨a', _, ?_, ⟨va', g2, g3⟩, rfl⟩
  unfold F_onetime_Adder_Add_1
  simp only [Tree.run, e1, Option.bind_some, g1]
theorem held0 (key : List UInt8) : HeldP key [] [0, 0, 0, 0, 0] [] := by
  refine ⟨⟨0, ⟨0, 0, 0, 0, 0, rfl, rfl, by decide, by decide, by decide, by decide, by decide⟩, ?_⟩, ?_⟩
  · unfold polyA; rw [foldB_short (by decide)]
  · rw [foldB_short (by decide)]
theorem leastU {a0 a1 a2 a3 a4 : UInt64} (h0 : a0.toNat < 67108864) (h1 : a1.toNat < 67108864) (h2 : a2.toNat < 67108864) (h3 : a3.toNat < 67108864) (h4 : a4.toNat < 67108864) {u0 u1 u2 u3 u4 : UInt64}
    (e0 : u0 = a0 + 5) (e1 : u1 = a1 + shr64 u0 26) (e2 : u2 = a2 + shr64 u1 26) (e3 : u3 = a3 + shr64 u2 26) (e4 : u4 = a4 + shr64 u3 26) :
    (shr64 u4 26 = 0 ∧ V a0.toNat a1.toNat a2.toNat a3.toNat a4.toNat < 1361129467683753853853498429727072845819) ∨
    (shr64 u4 26 = 1 ∧ 1361129467683753853853498429727072845819 ≤ V a0.toNat a1.toNat a2.toNat a3.toNat a4.toNat ∧ V (u0.toNat % 67108864) (u1.toNat % 67108864) (u2.toNat % 67108864) (u3.toNat % 67108864) (u4.toNat % 67108864) + 1361129467683753853853498429727072845819 = V a0.toNat a1.toNat a2.toNat a3.toNat a4.toNat) := by
  have s : ∀ x : UInt64, (shr64 x 26).toNat = x.toNat / 67108864 := fun x => shr64_nat (by omega)
  have f0 : u0.toNat = a0.toNat + 5 := by rw [e0, add64 (by show a0.toNat + 5 < _; omega)]; rfl
  have f1 : u1.toNat = a1.toNat + u0.toNat / 67108864 := by rw [e1, add64 (by rw [s]; omega), s]
  have f2 : u2.toNat = a2.toNat + u1.toNat / 67108864 := by rw [e2, add64 (by rw [s]; omega), s]
  have f3 : u3.toNat = a3.toNat + u2.toNat / 67108864 := by rw [e3, add64 (by rw [s]; omega), s]
  have f4 : u4.toNat = a4.toNat + u3.toNat / 67108864 := by rw [e4, add64 (by rw [s]; omega), s]
  have hv : V a0.toNat a1.toNat a2.toNat a3.toNat a4.toNat + 5 = V (u0.toNat % 67108864) (u1.toNat % 67108864) (u2.toNat % 67108864) (u3.toNat % 67108864) (u4.toNat % 67108864) + 1361129467683753853853498429727072845824 * (u4.toNat / 67108864) := by
    unfold V; omega
  have hlt : V (u0.toNat % 67108864) (u1.toNat % 67108864) (u2.toNat % 67108864) (u3.toNat % 67108864) (u4.toNat % 67108864) < 1361129467683753853853498429727072845824 := by
    unfold V; omega
  have h : u4.toNat / 67108864 = 0 ∨ u4.toNat / 67108864 = 1 := by omega
  rcases h with h | h
  · refine .inl ⟨UInt64.toNat_inj.1 (by rw [s, h]; rfl), ?_⟩
    rw [h] at hv; omega
  · refine .inr ⟨UInt64.toNat_inj.1 (by rw [s, h]; rfl), ?_, ?_⟩
    · rw [h] at hv; omega
    · rw [h] at hv; omega
def lestU (a0 a1 a2 a3 a4 u0 u1 u2 u3 u4 m : UInt64) : List UInt64 :=
  [(a0 &&& (~~~ m)) ||| ((u0 &&& 67108863) &&& m), (a1 &&& (~~~ m)) ||| ((u1 &&& 67108863) &&& m), (a2 &&& (~~~ m)) ||| ((u2 &&& 67108863) &&& m), (a3 &&& (~~~ m)) ||| ((u3 &&& 67108863) &&& m), (a4 &&& (~~~ m)) ||| ((u4 &&& 67108863) &&& m)]
theorem sel0 (a u : UInt64) : (a &&& (~~~ ((0 : UInt64) - 0))) ||| (u &&& ((0 : UInt64) - 0)) = a := by
  apply UInt64.toBitVec_inj.1; simp
theorem sel1 (a u : UInt64) : (a &&& (~~~ ((0 : UInt64) - 1))) ||| (u &&& ((0 : UInt64) - 1)) = u := by
  rw [show (~~~ ((0 : UInt64) - 1)) = 0 by decide, show (0 : UInt64) - 1 = -1 by decide]
  simp
theorem car_tight {d0 d1 d2 d3 d4 : Nat} (h0 : d0 < 67108864) (h1 : d1 < 67109888) (h2 : d2 < 67108864) (h3 : d3 < 67108864) (h4 : d4 < 67108864) {e0 e1 e2 e3 e4 : Nat} (he : (e0, e1, e2, e3, e4) = car (d0, d1, d2, d3, d4)) :
    e0 < 67108864 ∧ e1 < 67108864 ∧ e2 < 67108864 ∧ e3 < 67108864 ∧ e4 < 67108864 := by
  simp only [car, Prod.mk.injEq] at he
  obtain ⟨rfl, rfl, rfl, rfl, rfl⟩ := he
  omega
theorem car_good' {d0 d1 d2 d3 d4 : Nat} (h0 : d0 < 67108864) (h1 : d1 < 67109888) (h2 : d2 < 67108864) (h3 : d3 < 67108864) (h4 : d4 < 67108864) {e0 e1 e2 e3 e4 : Nat} (he : (e0, e1, e2, e3, e4) = car (d0, d1, d2, d3, d4)) : e0 < 67108864 ∧ e1 < 67109888 ∧ e2 < 67108864 ∧ e3 < 67108864 ∧ e4 < 67108864 := by
  have := car_tight h0 h1 h2 h3 h4 he; omega
theorem least_eq {n : Nat} (hn : 6 ≤ n) (c : List UInt64) {d0 d1 d2 d3 d4 : UInt64} {c1 : List UInt64} (h1 : (F_onetime_carried n c).run = some c1) (h2 : (F_onetime_carried n c1).run = some [d0, d1, d2, d3, d4]) :
    (F_onetime_least n c).run = some (let u0 := d0 + 5; let u1 := d1 + shr64 u0 26; let u2 := d2 + shr64 u1 26; let u3 := d3 + shr64 u2 26; let u4 := d4 + shr64 u3 26; lestU d0 d1 d2 d3 d4 u0 u1 u2 u3 u4 ((0 : UInt64) - shr64 u4 26)) := by
  unfold F_onetime_least
  simp only [Tree.run, h1, h2, Option.bind_some]
  obtain ⟨m, rfl⟩ : ∃ q, n = q + 6 := ⟨n - 6, by omega⟩
  kernel_rfl
theorem least_run {n : Nat} (hn : 6 ≤ n) {a : List UInt64} {va : Nat} (ha : GoodP a va) : ∃ l, (F_onetime_least n a).run = some l ∧ TightP l (va % 1361129467683753853853498429727072845819) := by
  obtain ⟨a0, a1, a2, a3, a4, rfl, ea, ha0, ha1, ha2, ha3, ha4⟩ := ha.ex
  obtain ⟨b0, b1, b2, b3, b4, hb, hbe⟩ := carU_val (d0 := a0) (d1 := a1) (d2 := a2) (d3 := a3) (d4 := a4) (by omega) (by omega) (by omega) (by omega) (by omega)
  have kb := car_good' ha0 ha1 ha2 ha3 ha4 hbe
  obtain ⟨q1, hq1⟩ := car_V (a0.toNat, a1.toNat, a2.toNat, a3.toNat, a4.toNat)
  rw [← hbe] at hq1
  obtain ⟨c0, c1, c2, c3, c4, hc, hce⟩ := carU_val (d0 := b0) (d1 := b1) (d2 := b2) (d3 := b3) (d4 := b4) (by omega) (by omega) (by omega) (by omega) (by omega)
  have kc := car_tight kb.1 kb.2.1 kb.2.2.1 kb.2.2.2.1 kb.2.2.2.2 hce
  obtain ⟨q2, hq2⟩ := car_V (b0.toNat, b1.toNat, b2.toNat, b3.toNat, b4.toNat)
  rw [← hce] at hq2
  have hmod : va % 1361129467683753853853498429727072845819 = V c0.toNat c1.toNat c2.toNat c3.toNat c4.toNat % 1361129467683753853853498429727072845819 := by
    simp only [V'] at hq1 hq2
    rw [← ea, hq1, hq2, Nat.add_assoc, Nat.add_mod, ← Nat.mul_add, Nat.mul_mod_right, Nat.add_zero, Nat.mod_mod]
  have e1 : (F_onetime_carried n [a0, a1, a2, a3, a4]).run = some [b0, b1, b2, b3, b4] := by rw [carried_eq hn, hb]
  have e2 : (F_onetime_carried n [b0, b1, b2, b3, b4]).run = some [c0, c1, c2, c3, c4] := by rw [carried_eq hn, hc]
  have e3 := least_eq hn _ e1 e2
  refine ⟨_, e3, ?_⟩
  rw [hmod]
  have key := leastU (a0 := c0) (a1 := c1) (a2 := c2) (a3 := c3) (a4 := c4) kc.1 kc.2.1 kc.2.2.1 kc.2.2.2.1 kc.2.2.2.2 rfl rfl rfl rfl rfl
  have hlt : V c0.toNat c1.toNat c2.toNat c3.toNat c4.toNat < 1361129467683753853853498429727072845824 := by unfold V; omega
  simp only []
  rcases key with ⟨k1, k2⟩ | ⟨k1, k2, k3⟩
  · rw [k1, Nat.mod_eq_of_lt k2]
    unfold lestU
    rw [sel0, sel0, sel0, sel0, sel0]
    exact ⟨c0, c1, c2, c3, c4, rfl, rfl, kc.1, kc.2.1, kc.2.2.1, kc.2.2.2.1, kc.2.2.2.2⟩
  · rw [k1]
    unfold lestU
    rw [sel1, sel1, sel1, sel1, sel1]
    refine ⟨_, _, _, _, _, rfl, ?_, ?_, ?_, ?_, ?_, ?_⟩
    · rw [and26, and26, and26, and26, and26, ← k3, Nat.add_mod_right]
      exact (Nat.mod_eq_of_lt (by omega)).symm
    · rw [and26]; exact Nat.mod_lt _ (by decide)
    · rw [and26]; exact Nat.mod_lt _ (by decide)
    · rw [and26]; exact Nat.mod_lt _ (by decide)
    · rw [and26]; exact Nat.mod_lt _ (by decide)
    · rw [and26]; exact Nat.mod_lt _ (by decide)
end Hyp
