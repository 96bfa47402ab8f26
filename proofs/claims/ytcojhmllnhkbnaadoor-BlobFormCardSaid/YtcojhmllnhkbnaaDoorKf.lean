/- The one-time tag, the program's: its last words. -/
import Derived.Test.YtcojhmllnhkbnaaDoorPA
import Derived.Test.YtcojhmllnhkbnaaDoorKe
set_option linter.unusedVariables false
set_option linter.unusedSimpArgs false
set_option maxRecDepth 100000
namespace Hyp
open Go Go.Proofs
theorem or_shl {x y : Nat} {i : Nat} (h : x < 2 ^ i) : x ||| y * 2 ^ i = x + y * 2 ^ i := by
  have := Nat.shiftLeft_add_eq_or_of_lt (a := y) (i := i) (b := x) h
  rw [Nat.shiftLeft_eq] at this
  rw [Nat.or_comm, ← this]; omega
theorem shl64_nat {x : UInt64} {k : Nat} (hk : k ≤ 64) (h : x.toNat * 2 ^ k < 18446744073709551616) : (shl64 x k).toNat = x.toNat * 2 ^ k := by
  unfold shl64
  rw [UInt64.toNat_ofNat', Nat.min_eq_left hk]; exact Nat.mod_eq_of_lt h
theorem leN_mod : ∀ (k m : Nat), leN k (m % 256 ^ k) = leN k m
  | 0, _ => rfl
  | k + 1, m => by
    have leS : ∀ (k m : Nat), leN (k + 1) m = UInt8.ofNat m :: leN k (m / 256) := fun k m => by unfold leN; rw [beN, List.reverse_append]; rfl
    rw [leS, leS]
    have e1 : UInt8.ofNat (m % 256 ^ (k + 1)) = UInt8.ofNat m := by
      rw [← ofNat_mod, ← ofNat_mod m, Nat.pow_succ, Nat.mul_comm, Nat.mod_mul_right_mod]
    have e2 : m % 256 ^ (k + 1) / 256 = m / 256 % 256 ^ k := by rw [Nat.pow_succ, Nat.mul_comm, Nat.mod_mul_right_div_self]
    rw [e1, e2, leN_mod k]
theorem leN_split : ∀ (j k m : Nat), leN (j + k) m = leN j m ++ leN k (m / 256 ^ j)
  | 0, k, m => by simp [leN, beN]
  | j + 1, k, m => by
    have leS : ∀ (k m : Nat), leN (k + 1) m = UInt8.ofNat m :: leN k (m / 256) := fun k m => by unfold leN; rw [beN, List.reverse_append]; rfl
    rw [show j + 1 + k = (j + k) + 1 by omega, leS, leS, leN_split j k, Nat.pow_succ, Nat.mul_comm (256 ^ j), ← Nat.div_div_eq_div_mul]; rfl
theorem leN4_cong {a b : Nat} (h : a % 4294967296 = b % 4294967296) : leN 4 a = leN 4 b := by
  rw [← leN_mod 4 a, ← leN_mod 4 b]
  show leN 4 (a % 4294967296) = leN 4 (b % 4294967296)
  rw [h]
theorem leN16 (t : Nat) : leN 16 t = leN 4 t ++ (leN 4 (t / 4294967296) ++ (leN 4 (t / 18446744073709551616) ++ leN 4 (t / 79228162514264337593543950336))) := by
  rw [leN_split 4 12, leN_split 4 8, leN_split 4 4, Nat.div_div_eq_div_mul, Nat.div_div_eq_div_mul]
def stU (x : UInt64) : List UInt8 := [UInt8.ofNat (shr32 (UInt32.ofNat x.toNat) 0).toNat, UInt8.ofNat (shr32 (UInt32.ofNat x.toNat) 8).toNat, UInt8.ofNat (shr32 (UInt32.ofNat x.toNat) 16).toNat, UInt8.ofNat (shr32 (UInt32.ofNat x.toNat) 24).toNat]
theorem stU_eq (x : UInt64) : stU x = leN 4 x.toNat := by
  unfold stU
  rw [shr32_nat (by omega), shr32_nat (by omega), shr32_nat (by omega), shr32_nat (by omega), ← leN_mod 4 x.toNat, leN, beN4, UInt32.toNat_ofNat']
  rfl
theorem tag_l0_eq {n : Nat} (hn : 6 ≤ n) (w0 w1 w2 w3 s0 s1 s2 s3 : UInt64) (r a : List UInt64) (t : List UInt8) : (F_onetime_Adder_Tag_l0 n n (0 : UInt64) [w0, w1, w2, w3] (0 : Int) r a [s0, s1, s2, s3] t ([] : List UInt8)).run =
    some (.inr (let c0 := 0 + ((w0 &&& 4294967295) + s0); let c1 := shr64 c0 32 + ((w1 &&& 4294967295) + s1); let c2 := shr64 c1 32 + ((w2 &&& 4294967295) + s2); let c3 := shr64 c2 32 + ((w3 &&& 4294967295) + s3); stU c0 ++ (stU c1 ++ (stU c2 ++ stU c3)))) := by
  obtain ⟨m, rfl⟩ : ∃ q, n = q + 6 := ⟨n - 6, by omega⟩
  kernel_rfl
theorem chain1 (a x : Nat) : (a + 4294967296 * x) / 4294967296 = a / 4294967296 + x := by omega
theorem chainM (a x : Nat) : (a + 4294967296 * x) % 4294967296 = a % 4294967296 := by omega
theorem chain3 (A0 A1 A2 A3 : Nat) : (A0 + 4294967296 * (A1 + 4294967296 * (A2 + 4294967296 * A3))) / 4294967296 = (A0 / 4294967296 + A1) + 4294967296 * (A2 + 4294967296 * A3) ∧
    (A0 + 4294967296 * (A1 + 4294967296 * (A2 + 4294967296 * A3))) / 18446744073709551616 = ((A0 / 4294967296 + A1) / 4294967296 + A2) + 4294967296 * A3 ∧
    (A0 + 4294967296 * (A1 + 4294967296 * (A2 + 4294967296 * A3))) / 79228162514264337593543950336 = ((A0 / 4294967296 + A1) / 4294967296 + A2) / 4294967296 + A3 := by
  have h1 : (A0 + 4294967296 * (A1 + 4294967296 * (A2 + 4294967296 * A3))) / 4294967296 = (A0 / 4294967296 + A1) + 4294967296 * (A2 + 4294967296 * A3) := by rw [chain1]; omega
  have h2 : (A0 + 4294967296 * (A1 + 4294967296 * (A2 + 4294967296 * A3))) / 18446744073709551616 = ((A0 / 4294967296 + A1) / 4294967296 + A2) + 4294967296 * A3 := by
    rw [show (18446744073709551616 : Nat) = 4294967296 * 4294967296 by decide, ← Nat.div_div_eq_div_mul, h1, chain1]; omega
  refine ⟨h1, h2, ?_⟩
  rw [show (79228162514264337593543950336 : Nat) = 18446744073709551616 * 4294967296 by decide, ← Nat.div_div_eq_div_mul, h2, chain1]
theorem wordsV {l0 l1 l2 l3 l4 : Nat} (b0 : l0 < 67108864) (b1 : l1 < 67108864) (b2 : l2 < 67108864) (b3 : l3 < 67108864) :
    V l0 l1 l2 l3 l4 = (l0 + l1 * 67108864) % 4294967296 + 4294967296 * ((l1 / 64 + l2 * 1048576) % 4294967296 + 4294967296 * ((l2 / 4096 + l3 * 16384) % 4294967296 + 4294967296 * (l3 / 262144 + l4 * 256))) := by
  have e0 : (l0 + l1 * 67108864) % 4294967296 = l0 + (l1 % 64) * 67108864 := by omega
  have e1 : (l1 / 64 + l2 * 1048576) % 4294967296 = l1 / 64 + (l2 % 4096) * 1048576 := by omega
  have e2 : (l2 / 4096 + l3 * 16384) % 4294967296 = l2 / 4096 + (l3 % 262144) * 16384 := by omega
  have f1 := Nat.div_add_mod l1 64
  have f2 := Nat.div_add_mod l2 4096
  have f3 := Nat.div_add_mod l3 262144
  rw [e0, e1, e2]
  unfold V
  generalize l1 / 64 = q1 at *
  generalize l1 % 64 = r1 at *
  generalize l2 / 4096 = q2 at *
  generalize l2 % 4096 = r2 at *
  generalize l3 / 262144 = q3 at *
  generalize l3 % 262144 = r3 at *
  subst f1 f2 f3
  clear e0 e1 e2 b0 b1 b2 b3
  omega
theorem tagWords {w0 w1 w2 w3 s0 s1 s2 s3 T : Nat} (hT : T = (w0 % 4294967296 + 4294967296 * (w1 % 4294967296 + 4294967296 * (w2 % 4294967296 + 4294967296 * w3))) + (s0 + 4294967296 * s1 + 18446744073709551616 * s2 + 79228162514264337593543950336 * s3)) :
    leN 16 T = leN 4 (w0 % 4294967296 + s0) ++ (leN 4 ((w0 % 4294967296 + s0) / 4294967296 + (w1 % 4294967296 + s1)) ++ (leN 4 (((w0 % 4294967296 + s0) / 4294967296 + (w1 % 4294967296 + s1)) / 4294967296 + (w2 % 4294967296 + s2)) ++
      leN 4 ((((w0 % 4294967296 + s0) / 4294967296 + (w1 % 4294967296 + s1)) / 4294967296 + (w2 % 4294967296 + s2)) / 4294967296 + (w3 % 4294967296 + s3)))) := by
  have h : T = (w0 % 4294967296 + s0) + 4294967296 * ((w1 % 4294967296 + s1) + 4294967296 * ((w2 % 4294967296 + s2) + 4294967296 * (w3 + s3))) := by
    rw [hT]
    generalize w0 % 4294967296 = a at *
    generalize w1 % 4294967296 = b at *
    generalize w2 % 4294967296 = c at *
    omega
  obtain ⟨k1, k2, k3⟩ := chain3 (w0 % 4294967296 + s0) (w1 % 4294967296 + s1) (w2 % 4294967296 + s2) (w3 + s3)
  rw [leN16, h, k1, k2, k3]
  congr 1
  · exact leN4_cong (chainM _ _)
  · congr 1
    · exact leN4_cong (chainM _ _)
    · congr 1
      · exact leN4_cong (chainM _ _)
      · exact leN4_cong (by generalize (((w0 % 4294967296 + s0) / 4294967296 + (w1 % 4294967296 + s1)) / 4294967296 + (w2 % 4294967296 + s2)) / 4294967296 = c; omega)
structure EndsP (s : List UInt64) (v : Nat) : Prop where
  ex : ∃ s0 s1 s2 s3 : UInt64, s = [s0, s1, s2, s3] ∧ s0.toNat + 4294967296 * s1.toNat + 18446744073709551616 * s2.toNat + 79228162514264337593543950336 * s3.toNat = v ∧ s0.toNat < 4294967296 ∧ s1.toNat < 4294967296 ∧ s2.toNat < 4294967296 ∧ s3.toNat < 4294967296
theorem ptag {n : Nat} (hn : 6 ≤ n) {key m : List UInt8} {r a s : List UInt64} (hs : EndsP s (leV (key.drop 16))) (h : HeldP key m a []) : (F_onetime_Adder_Tag_1 n r a s []).run = some (polyS key m) := by
  obtain ⟨va, h1, h2⟩ := h.a
  have hp : polyA key m < 1361129467683753853853498429727072845819 := polyA_lt _ _ _ _ (Nat.le_refl _) (by decide)
  obtain ⟨l, hl, ht⟩ := least_run hn h1
  rw [h2, Nat.mod_eq_of_lt hp] at ht
  obtain ⟨l0, l1, l2, l3, l4, rfl, hv, b0, b1, b2, b3, b4⟩ := ht.ex
  obtain ⟨s0, s1, s2, s3, rfl, hsv, q0, q1, q2, q3⟩ := hs.ex
  have e1 : decide ((0 : Int) < ln ([] : List UInt8)) = false := rfl
  have e2 := tag_l0_eq hn (l0 ||| shl64 l1 26) (shr64 l1 6 ||| shl64 l2 20) (shr64 l2 12 ||| shl64 l3 14) (shr64 l3 18 ||| shl64 l4 8) s0 s1 s2 s3 r a []
  have x0 : (l0 ||| shl64 l1 26).toNat = l0.toNat + l1.toNat * 67108864 := by
    rw [UInt64.toNat_or, shl64_nat (by omega) (by omega)]; exact or_shl (i := 26) (by omega)
  have x1 : (shr64 l1 6 ||| shl64 l2 20).toNat = l1.toNat / 64 + l2.toNat * 1048576 := by
    rw [UInt64.toNat_or, shl64_nat (by omega) (by omega), shr64_nat (by omega)]; exact or_shl (i := 20) (by omega)
  have x2 : (shr64 l2 12 ||| shl64 l3 14).toNat = l2.toNat / 4096 + l3.toNat * 16384 := by
    rw [UInt64.toNat_or, shl64_nat (by omega) (by omega), shr64_nat (by omega)]; exact or_shl (i := 14) (by omega)
  have x3 : (shr64 l3 18 ||| shl64 l4 8).toNat = l3.toNat / 262144 + l4.toNat * 256 := by
    rw [UInt64.toNat_or, shl64_nat (by omega) (by omega), shr64_nat (by omega)]; exact or_shl (i := 8) (by omega)
  have y0 : (0 + (((l0 ||| shl64 l1 26) &&& 4294967295) + s0)).toNat = (l0.toNat + l1.toNat * 67108864) % 4294967296 + s0.toNat := by
    rw [UInt64.zero_add, add64 (by rw [and32]; omega), and32, x0]
  have sh : ∀ x : UInt64, (shr64 x 32).toNat = x.toNat / 4294967296 := fun x => shr64_nat (by omega)
  have step : ∀ (c w s : UInt64), c.toNat < 18446744073709551616 → s.toNat < 4294967296 → (shr64 c 32 + ((w &&& 4294967295) + s)).toNat = c.toNat / 4294967296 + (w.toNat % 4294967296 + s.toNat) := by
    intro c w s hc hs
    rw [add64 (by rw [sh, add64 (by rw [and32]; omega), and32]; omega), sh, add64 (by rw [and32]; omega), and32]
  have y1 := step (0 + (((l0 ||| shl64 l1 26) &&& 4294967295) + s0)) (shr64 l1 6 ||| shl64 l2 20) s1 (by rw [y0]; omega) q1
  have y2 := step (shr64 (0 + (((l0 ||| shl64 l1 26) &&& 4294967295) + s0)) 32 + (((shr64 l1 6 ||| shl64 l2 20) &&& 4294967295) + s1)) (shr64 l2 12 ||| shl64 l3 14) s2 (by rw [y1]; omega) q2
  have y3 := step (shr64 (shr64 (0 + (((l0 ||| shl64 l1 26) &&& 4294967295) + s0)) 32 + (((shr64 l1 6 ||| shl64 l2 20) &&& 4294967295) + s1)) 32 + (((shr64 l2 12 ||| shl64 l3 14) &&& 4294967295) + s2)) (shr64 l3 18 ||| shl64 l4 8) s3 (by rw [y2]; omega) q3
  rw [y0, x1] at y1
  rw [y1, x2] at y2
  rw [y2, x3] at y3
  have fin : stU (0 + (((l0 ||| shl64 l1 26) &&& 4294967295) + s0)) ++ (stU (shr64 (0 + (((l0 ||| shl64 l1 26) &&& 4294967295) + s0)) 32 + (((shr64 l1 6 ||| shl64 l2 20) &&& 4294967295) + s1)) ++ (stU (shr64 (shr64 (0 + (((l0 ||| shl64 l1 26) &&& 4294967295) + s0)) 32 + (((shr64 l1 6 ||| shl64 l2 20) &&& 4294967295) + s1)) 32 + (((shr64 l2 12 ||| shl64 l3 14) &&& 4294967295) + s2)) ++ stU (shr64 (shr64 (shr64 (0 + (((l0 ||| shl64 l1 26) &&& 4294967295) + s0)) 32 + (((shr64 l1 6 ||| shl64 l2 20) &&& 4294967295) + s1)) 32 + (((shr64 l2 12 ||| shl64 l3 14) &&& 4294967295) + s2)) 32 + (((shr64 l3 18 ||| shl64 l4 8) &&& 4294967295) + s3)))) = polyS key m := by
    rw [stU_eq, stU_eq, stU_eq, stU_eq, y0, y1, y2, y3]
    unfold polyS
    exact (tagWords (by rw [← hv, ← hsv, wordsV b0 b1 b2 b3])).symm
  have e3 : (F_onetime_Adder_Tag_l0 n n (0 : UInt64) [(l0 ||| shl64 l1 26), (shr64 l1 6 ||| shl64 l2 20), (shr64 l2 12 ||| shl64 l3 14), (shr64 l3 18 ||| shl64 l4 8)] (0 : Int) r a [s0, s1, s2, s3] [] ([] : List UInt8)).run = some (.inr (polyS key m)) := by
    rw [e2, ← fin]
  have g0 : gt [l0, l1, l2, l3, l4] 0 = some l0 := rfl
  have g1 : gt [l0, l1, l2, l3, l4] 1 = some l1 := rfl
  have g2 : gt [l0, l1, l2, l3, l4] 2 = some l2 := rfl
  have g3 : gt [l0, l1, l2, l3, l4] 3 = some l3 := rfl
  have g4 : gt [l0, l1, l2, l3, l4] 4 = some l4 := rfl
  have st : ∀ A B C D : UInt64, List.set (List.set (List.set (List.set ([(0 : UInt64), (0 : UInt64), (0 : UInt64), (0 : UInt64)] : List UInt64) 0 A) 1 B) 2 C) 3 D = [A, B, C, D] := fun _ _ _ _ => rfl
  rw [F_onetime_Adder_Tag_1]
  refine rE e1 (rS hl (rG g0 (rG g1 (rG g1 (rG g2 (rG g2 (rG g3 (rG g3 (rG g4 ?_)))))))))
  rw [st]
  refine rS e3 ?_
  rfl
theorem pnew {n : Nat} (hn : 6 ≤ n) {f : Bool} {key : List UInt8} (hk : key.length = 32) : ∃ r s, (F_onetime_New n f key).run = some (.inr (r, s)) ∧ TightP r (leV (clS (key.take 16))) ∧ EndsP s (leV (key.drop 16)) := by
  obtain ⟨a0, a1, a2, a3, a4, a5, a6, a7, a8, a9, b0, b1, b2, b3, b4, b5, ha⟩ := len16 (s := key.take 16) (by simp [hk])
  obtain ⟨c0, c1, c2, c3, c4, c5, c6, c7, c8, c9, d0, d1, d2, d3, d4, d5, hc⟩ := len16 (s := key.drop 16) (by simp [hk])
  have hkey : key = [a0, a1, a2, a3, a4, a5, a6, a7, a8, a9, b0, b1, b2, b3, b4, b5, c0, c1, c2, c3, c4, c5, c6, c7, c8, c9, d0, d1, d2, d3, d4, d5] := by
    rw [← List.take_append_drop 16 key, ha, hc]; rfl
  rw [ha, hc]
  obtain ⟨l, h1, h2⟩ := read_run hn (f := false) (b := clS [a0, a1, a2, a3, a4, a5, a6, a7, a8, a9, b0, b1, b2, b3, b4, b5]) rfl (top := 0) (t := 0) (.inl ⟨rfl, rfl⟩)
  rw [Nat.mul_zero, Nat.add_zero] at h2
  refine ⟨l, [UInt64.ofNat (UInt32.toNat (UInt32.ofNat (be [c3, c2, c1, c0]))), UInt64.ofNat (UInt32.toNat (UInt32.ofNat (be [c7, c6, c5, c4]))), UInt64.ofNat (UInt32.toNat (UInt32.ofNat (be [d1, d0, c9, c8]))), UInt64.ofNat (UInt32.toNat (UInt32.ofNat (be [d5, d4, d3, d2])))], ?_, h2, ⟨_, _, _, _, rfl, ?_, ?_, ?_, ?_, ?_⟩⟩
  · have q1 : (F_onetime_New_l0 n n (3 : Int) (cpy (zs 16) 0 16 key)).run = some [a0, a1, a2, a3 &&& 15, a4, a5, a6, a7 &&& 15, a8, a9, b0, b1 &&& 15, b2, b3, b4, b5 &&& 15] := by
      subst hkey
      obtain ⟨m, rfl⟩ : ∃ q, n = q + 6 := ⟨n - 6, by omega⟩
      kernel_rfl
    have q2 : (F_onetime_New_l2 n n (4 : Int) [a0, a1, a2, a3 &&& 15, a4, a5, a6, a7 &&& 15, a8, a9, b0, b1 &&& 15, b2, b3, b4, b5 &&& 15]).run = some (clS [a0, a1, a2, a3, a4, a5, a6, a7, a8, a9, b0, b1, b2, b3, b4, b5]) := by
      obtain ⟨m, rfl⟩ : ∃ q, n = q + 6 := ⟨n - 6, by omega⟩
      kernel_rfl
    have q3 : ∀ y z : List UInt64, ∀ t : List UInt8, (F_onetime_New_l4 n n f key (0 : Int) y z ([(0 : UInt64), (0 : UInt64), (0 : UInt64), (0 : UInt64)] : List UInt64) t).run = some [UInt64.ofNat (UInt32.toNat (UInt32.ofNat (be [c3, c2, c1, c0]))), UInt64.ofNat (UInt32.toNat (UInt32.ofNat (be [c7, c6, c5, c4]))), UInt64.ofNat (UInt32.toNat (UInt32.ofNat (be [d1, d0, c9, c8]))), UInt64.ofNat (UInt32.toNat (UInt32.ofNat (be [d5, d4, d3, d2])))] := by
      intro y z t
      rw [← be4_or, ← be4_or, ← be4_or, ← be4_or]
      subst hkey
      obtain ⟨m, rfl⟩ : ∃ q, n = q + 6 := ⟨n - 6, by omega⟩
      kernel_rfl
    have q0 : (!(decide ((ln key) = (32 : Int)))) = false := by rw [lnEq hk]; rfl
    unfold F_onetime_New
    simp only [Tree.run, q0, cond_false, q1, q2, h1, q3, Option.bind_some]
  · rw [w_nat, w_nat, w_nat, w_nat, le16]; omega
  · rw [w_nat]; have := c0.toNat_lt; have := c1.toNat_lt; have := c2.toNat_lt; have := c3.toNat_lt; omega
  · rw [w_nat]; have := c4.toNat_lt; have := c5.toNat_lt; have := c6.toNat_lt; have := c7.toNat_lt; omega
  · rw [w_nat]; have := c8.toNat_lt; have := c9.toNat_lt; have := d0.toNat_lt; have := d1.toNat_lt; omega
  · rw [w_nat]; have := d2.toNat_lt; have := d3.toNat_lt; have := d4.toNat_lt; have := d5.toNat_lt; omega
end Hyp
