/- Numbers: what Go's operators do to them. -/
import Derived.Test.YtdlbmjbbnplpjaaMb
set_option linter.unusedVariables false
set_option linter.unusedSimpArgs false
namespace Hyp
open Go
/-! ### 1. Unsigned numbers -/
/-- A divisor that is not nought. -/
def nz (c : Bool) : Option Unit := bif c then none else some ()
theorem nz_some {c : Bool} (h : nz c = some ()) : c = false := by cases c <;> simp [nz] at h <;> rfl
def strLt (a b : List UInt8) : Bool := Op.bytesLess a b

def arith8 : BinOp → UInt8 → UInt8 → Option UInt8
  | .add, a, b => some (a + b)
  | .sub, a, b => some (a - b)
  | .mul, a, b => some (a * b)
  | .and, a, b => some (a &&& b)
  | .or, a, b => some (a ||| b)
  | .xor, a, b => some (a ^^^ b)
  | .andNot, a, b => some (a &&& ~~~b)
  | _, _, _ => none
def cmp8 : BinOp → UInt8 → UInt8 → Option Bool
  | .eql, a, b => some (decide (a = b))
  | .neq, a, b => some (!decide (a = b))
  | .lss, a, b => some (decide (a < b))
  | .leq, a, b => some (decide (a ≤ b))
  | .gtr, a, b => some (decide (b < a))
  | .geq, a, b => some (decide (b ≤ a))
  | _, _, _ => none
def shl8 (a : UInt8) (n : Nat) : UInt8 := UInt8.ofNat (a.toNat * 2 ^ (min n 8))
def shr8 (a : UInt8) (n : Nat) : UInt8 := UInt8.ofNat (a.toNat / 2 ^ (min n 8))
theorem wrap8_nat (n : Nat) : IntKind.u8.wrap (n : Int) = ((UInt8.ofNat n).toNat : Int) := by
  rw [UInt8.toNat_ofNat']
  simp [IntKind.wrap, IntKind.bits, IntKind.signed]
theorem wrap8_self (a : UInt8) : IntKind.u8.wrap (a.toNat : Int) = (a.toNat : Int) := by
  rw [wrap8_nat]; simp
theorem ofInt8 (a : UInt8) : BitVec.ofInt 8 (a.toNat : Int) = a.toBitVec := by
  apply BitVec.eq_of_toNat_eq
  have := a.toNat_lt
  simp
theorem arith8_ok {P : Program} {w : World} {T U : TypeId} {op : BinOp} {a b c : UInt8} (h : arith8 op a b = some c) : (binOp op T (u8 a) (u8 b)).run P w = .ok (u8 c) w := by
  have ha := a.toNat_lt
  have hb := b.toNat_lt
  cases op <;> simp only [arith8, Option.some.injEq, reduceCtorEq] at h <;> subst h
  · simp only [binOp, Op.intArith, ne_eq, not_true, if_false, Sem.run_pure]
    have : IntKind.u8.wrap ((a.toNat : Int) + b.toNat) = ((a + b).toNat : Int) := by
      simp [IntKind.wrap, IntKind.bits, IntKind.signed, UInt8.toNat_add]
    rw [this]
  · simp only [binOp, Op.intArith, ne_eq, not_true, if_false, Sem.run_pure]
    have : IntKind.u8.wrap ((a.toNat : Int) - b.toNat) = ((a - b).toNat : Int) := by
      simp [IntKind.wrap, IntKind.bits, IntKind.signed, UInt8.toNat_sub]
      omega
    rw [this]
  · simp only [binOp, Op.intArith, ne_eq, not_true, if_false, Sem.run_pure]
    have : IntKind.u8.wrap ((a.toNat : Int) * b.toNat) = ((a * b).toNat : Int) := by
      simp [IntKind.wrap, IntKind.bits, IntKind.signed, UInt8.toNat_mul]
    rw [this]
  all_goals
    simp only [binOp, Op.intBits, ne_eq, not_true, if_false, Sem.run_pure]
    have e1 : BitVec.ofInt IntKind.u8.bits (a.toNat : Int) = (a.toBitVec : BitVec IntKind.u8.bits) := ofInt8 a
    have e2 : BitVec.ofInt IntKind.u8.bits (b.toNat : Int) = (b.toBitVec : BitVec IntKind.u8.bits) := ofInt8 b
    refine congrArg (fun n => Result.ok (Value.int .u8 n) w) ?_
    rw [e1, e2]
  · exact wrap8_self (a &&& b)
  · exact wrap8_self (a ||| b)
  · exact wrap8_self (a ^^^ b)
  · exact wrap8_self (a &&& ~~~b)
theorem cmp8_ok {P : Program} {w : World} {T U : TypeId} {op : BinOp} {a b : UInt8} {c : Bool} (h : cmp8 op a b = some c) : (binOp op T (u8 a) (u8 b)).run P w = .ok (.bool c) w := by
  have e1 : decide ((a.toNat : Int) = b.toNat) = decide (a = b) := by rw [decide_eq_decide, Int.ofNat_inj, UInt8.toNat_inj]
  have e2 : ∀ a b : UInt8, decide ((a.toNat : Int) < b.toNat) = decide (a < b) := by intro a b; rw [decide_eq_decide]; simp [UInt8.lt_iff_toNat_lt]
  have e3 : ∀ a b : UInt8, decide ((a.toNat : Int) ≤ b.toNat) = decide (a ≤ b) := by intro a b; rw [decide_eq_decide]; simp [UInt8.le_iff_toNat_le]
  cases op <;> simp only [cmp8, Option.some.injEq, reduceCtorEq] at h <;> subst h <;>
    simp only [binOp, Op.intCmp, ne_eq, not_true, if_false, Sem.run_pure, beq_dec, bne, GT.gt, GE.ge, e1, e2, e3]
theorem quo8_ok {P : Program} {w : World} {T : TypeId} {a b : UInt8} (h : decide (b = 0) = false) : (binOp .quo T (u8 a) (u8 b)).run P w = .ok (u8 (a / b)) w := by
  have h0 : ¬ ((b.toNat : Int) = 0) := by
    intro h1
    have h2 : b = 0 := by rw [← UInt8.toNat_inj]; simp; omega
    simp [h2] at h
  have : IntKind.u8.wrap ((a.toNat : Int).tdiv b.toNat) = ((a / b).toNat : Int) := by
    rw [← Int.ofNat_tdiv, ← UInt8.toNat_div, wrap8_self]
  simp only [binOp, Op.intDiv, ne_eq, not_true, if_false, h0, Sem.run_pure, this]
theorem rem8_ok {P : Program} {w : World} {T : TypeId} {a b : UInt8} (h : decide (b = 0) = false) : (binOp .rem T (u8 a) (u8 b)).run P w = .ok (u8 (a % b)) w := by
  have h0 : ¬ ((b.toNat : Int) = 0) := by
    intro h1
    have h2 : b = 0 := by rw [← UInt8.toNat_inj]; simp; omega
    simp [h2] at h
  have : (a.toNat : Int).tmod b.toNat = ((a % b).toNat : Int) := by
    rw [← Int.ofNat_tmod, ← UInt8.toNat_mod]
  simp only [binOp, Op.intDiv, ne_eq, not_true, if_false, h0, Sem.run_pure, this]
theorem shl8_ok {P : Program} {w : World} {T : TypeId} {a : UInt8} {yk : IntKind} {n : Nat} : (binOp .shl T (u8 a) (.int yk (n : Int))).run P w = .ok (u8 (shl8 a n)) w := by
  have : ¬ ((n : Int) < 0) := by omega
  have e : IntKind.u8.wrap ((a.toNat : Int) * 2 ^ (min n 8)) = ((shl8 a n).toNat : Int) := by
    have : (a.toNat : Int) * 2 ^ (min n 8) = ((a.toNat * 2 ^ (min n 8) : Nat) : Int) := by simp
    rw [this, wrap8_nat]; rfl
  simp only [binOp, Op.shift, this, if_false, Int.toNat_natCast, IntKind.bits, Sem.run_pure, e]
theorem shr8_ok {P : Program} {w : World} {T : TypeId} {a : UInt8} {yk : IntKind} {n : Nat} : (binOp .shr T (u8 a) (.int yk (n : Int))).run P w = .ok (u8 (shr8 a n)) w := by
  have : ¬ ((n : Int) < 0) := by omega
  have e : (a.toNat : Int).fdiv (2 ^ (min n 8)) = ((shr8 a n).toNat : Int) := by
    have h1 : ((2 : Int) ^ (min n 8)) = ((2 ^ (min n 8) : Nat) : Int) := by simp
    rw [h1, ← Int.ofNat_fdiv]
    unfold shr8
    rw [UInt8.toNat_ofNat', Nat.mod_eq_of_lt]
    exact Nat.lt_of_le_of_lt (Nat.div_le_self _ _) a.toNat_lt
  simp only [binOp, Op.shift, this, if_false, Int.toNat_natCast, IntKind.bits, Sem.run_pure, e]

def arith16 : BinOp → UInt16 → UInt16 → Option UInt16
  | .add, a, b => some (a + b)
  | .sub, a, b => some (a - b)
  | .mul, a, b => some (a * b)
  | .and, a, b => some (a &&& b)
  | .or, a, b => some (a ||| b)
  | .xor, a, b => some (a ^^^ b)
  | .andNot, a, b => some (a &&& ~~~b)
  | _, _, _ => none
def cmp16 : BinOp → UInt16 → UInt16 → Option Bool
  | .eql, a, b => some (decide (a = b))
  | .neq, a, b => some (!decide (a = b))
  | .lss, a, b => some (decide (a < b))
  | .leq, a, b => some (decide (a ≤ b))
  | .gtr, a, b => some (decide (b < a))
  | .geq, a, b => some (decide (b ≤ a))
  | _, _, _ => none
def shl16 (a : UInt16) (n : Nat) : UInt16 := UInt16.ofNat (a.toNat * 2 ^ (min n 16))
def shr16 (a : UInt16) (n : Nat) : UInt16 := UInt16.ofNat (a.toNat / 2 ^ (min n 16))
theorem wrap16_nat (n : Nat) : IntKind.u16.wrap (n : Int) = ((UInt16.ofNat n).toNat : Int) := by
  rw [UInt16.toNat_ofNat']
  simp [IntKind.wrap, IntKind.bits, IntKind.signed]
theorem wrap16_self (a : UInt16) : IntKind.u16.wrap (a.toNat : Int) = (a.toNat : Int) := by
  rw [wrap16_nat]; simp
theorem ofInt16 (a : UInt16) : BitVec.ofInt 16 (a.toNat : Int) = a.toBitVec := by
  apply BitVec.eq_of_toNat_eq
  have := a.toNat_lt
  simp
theorem arith16_ok {P : Program} {w : World} {T U : TypeId} {op : BinOp} {a b c : UInt16} (h : arith16 op a b = some c) : (binOp op T (u16 a) (u16 b)).run P w = .ok (u16 c) w := by
  have ha := a.toNat_lt
  have hb := b.toNat_lt
  cases op <;> simp only [arith16, Option.some.injEq, reduceCtorEq] at h <;> subst h
  · simp only [binOp, Op.intArith, ne_eq, not_true, if_false, Sem.run_pure]
    have : IntKind.u16.wrap ((a.toNat : Int) + b.toNat) = ((a + b).toNat : Int) := by
      simp [IntKind.wrap, IntKind.bits, IntKind.signed, UInt16.toNat_add]
    rw [this]
  · simp only [binOp, Op.intArith, ne_eq, not_true, if_false, Sem.run_pure]
    have : IntKind.u16.wrap ((a.toNat : Int) - b.toNat) = ((a - b).toNat : Int) := by
      simp [IntKind.wrap, IntKind.bits, IntKind.signed, UInt16.toNat_sub]
      omega
    rw [this]
  · simp only [binOp, Op.intArith, ne_eq, not_true, if_false, Sem.run_pure]
    have : IntKind.u16.wrap ((a.toNat : Int) * b.toNat) = ((a * b).toNat : Int) := by
      simp [IntKind.wrap, IntKind.bits, IntKind.signed, UInt16.toNat_mul]
    rw [this]
  all_goals
    simp only [binOp, Op.intBits, ne_eq, not_true, if_false, Sem.run_pure]
    have e1 : BitVec.ofInt IntKind.u16.bits (a.toNat : Int) = (a.toBitVec : BitVec IntKind.u16.bits) := ofInt16 a
    have e2 : BitVec.ofInt IntKind.u16.bits (b.toNat : Int) = (b.toBitVec : BitVec IntKind.u16.bits) := ofInt16 b
    refine congrArg (fun n => Result.ok (Value.int .u16 n) w) ?_
    rw [e1, e2]
  · exact wrap16_self (a &&& b)
  · exact wrap16_self (a ||| b)
  · exact wrap16_self (a ^^^ b)
  · exact wrap16_self (a &&& ~~~b)
theorem cmp16_ok {P : Program} {w : World} {T U : TypeId} {op : BinOp} {a b : UInt16} {c : Bool} (h : cmp16 op a b = some c) : (binOp op T (u16 a) (u16 b)).run P w = .ok (.bool c) w := by
  have e1 : decide ((a.toNat : Int) = b.toNat) = decide (a = b) := by rw [decide_eq_decide, Int.ofNat_inj, UInt16.toNat_inj]
  have e2 : ∀ a b : UInt16, decide ((a.toNat : Int) < b.toNat) = decide (a < b) := by intro a b; rw [decide_eq_decide]; simp [UInt16.lt_iff_toNat_lt]
  have e3 : ∀ a b : UInt16, decide ((a.toNat : Int) ≤ b.toNat) = decide (a ≤ b) := by intro a b; rw [decide_eq_decide]; simp [UInt16.le_iff_toNat_le]
  cases op <;> simp only [cmp16, Option.some.injEq, reduceCtorEq] at h <;> subst h <;>
    simp only [binOp, Op.intCmp, ne_eq, not_true, if_false, Sem.run_pure, beq_dec, bne, GT.gt, GE.ge, e1, e2, e3]
theorem quo16_ok {P : Program} {w : World} {T : TypeId} {a b : UInt16} (h : decide (b = 0) = false) : (binOp .quo T (u16 a) (u16 b)).run P w = .ok (u16 (a / b)) w := by
  have h0 : ¬ ((b.toNat : Int) = 0) := by
    intro h1
    have h2 : b = 0 := by rw [← UInt16.toNat_inj]; simp; omega
    simp [h2] at h
  have : IntKind.u16.wrap ((a.toNat : Int).tdiv b.toNat) = ((a / b).toNat : Int) := by
    rw [← Int.ofNat_tdiv, ← UInt16.toNat_div, wrap16_self]
  simp only [binOp, Op.intDiv, ne_eq, not_true, if_false, h0, Sem.run_pure, this]
theorem rem16_ok {P : Program} {w : World} {T : TypeId} {a b : UInt16} (h : decide (b = 0) = false) : (binOp .rem T (u16 a) (u16 b)).run P w = .ok (u16 (a % b)) w := by
  have h0 : ¬ ((b.toNat : Int) = 0) := by
    intro h1
    have h2 : b = 0 := by rw [← UInt16.toNat_inj]; simp; omega
    simp [h2] at h
  have : (a.toNat : Int).tmod b.toNat = ((a % b).toNat : Int) := by
    rw [← Int.ofNat_tmod, ← UInt16.toNat_mod]
  simp only [binOp, Op.intDiv, ne_eq, not_true, if_false, h0, Sem.run_pure, this]
theorem shl16_ok {P : Program} {w : World} {T : TypeId} {a : UInt16} {yk : IntKind} {n : Nat} : (binOp .shl T (u16 a) (.int yk (n : Int))).run P w = .ok (u16 (shl16 a n)) w := by
  have : ¬ ((n : Int) < 0) := by omega
  have e : IntKind.u16.wrap ((a.toNat : Int) * 2 ^ (min n 16)) = ((shl16 a n).toNat : Int) := by
    have : (a.toNat : Int) * 2 ^ (min n 16) = ((a.toNat * 2 ^ (min n 16) : Nat) : Int) := by simp
    rw [this, wrap16_nat]; rfl
  simp only [binOp, Op.shift, this, if_false, Int.toNat_natCast, IntKind.bits, Sem.run_pure, e]
theorem shr16_ok {P : Program} {w : World} {T : TypeId} {a : UInt16} {yk : IntKind} {n : Nat} : (binOp .shr T (u16 a) (.int yk (n : Int))).run P w = .ok (u16 (shr16 a n)) w := by
  have : ¬ ((n : Int) < 0) := by omega
  have e : (a.toNat : Int).fdiv (2 ^ (min n 16)) = ((shr16 a n).toNat : Int) := by
    have h1 : ((2 : Int) ^ (min n 16)) = ((2 ^ (min n 16) : Nat) : Int) := by simp
    rw [h1, ← Int.ofNat_fdiv]
    unfold shr16
    rw [UInt16.toNat_ofNat', Nat.mod_eq_of_lt]
    exact Nat.lt_of_le_of_lt (Nat.div_le_self _ _) a.toNat_lt
  simp only [binOp, Op.shift, this, if_false, Int.toNat_natCast, IntKind.bits, Sem.run_pure, e]

def arith32 : BinOp → UInt32 → UInt32 → Option UInt32
  | .add, a, b => some (a + b)
  | .sub, a, b => some (a - b)
  | .mul, a, b => some (a * b)
  | .and, a, b => some (a &&& b)
  | .or, a, b => some (a ||| b)
  | .xor, a, b => some (a ^^^ b)
  | .andNot, a, b => some (a &&& ~~~b)
  | _, _, _ => none
def cmp32 : BinOp → UInt32 → UInt32 → Option Bool
  | .eql, a, b => some (decide (a = b))
  | .neq, a, b => some (!decide (a = b))
  | .lss, a, b => some (decide (a < b))
  | .leq, a, b => some (decide (a ≤ b))
  | .gtr, a, b => some (decide (b < a))
  | .geq, a, b => some (decide (b ≤ a))
  | _, _, _ => none
def shl32 (a : UInt32) (n : Nat) : UInt32 := UInt32.ofNat (a.toNat * 2 ^ (min n 32))
def shr32 (a : UInt32) (n : Nat) : UInt32 := UInt32.ofNat (a.toNat / 2 ^ (min n 32))
theorem wrap32_nat (n : Nat) : IntKind.u32.wrap (n : Int) = ((UInt32.ofNat n).toNat : Int) := by
  rw [UInt32.toNat_ofNat']
  simp [IntKind.wrap, IntKind.bits, IntKind.signed]
theorem wrap32_self (a : UInt32) : IntKind.u32.wrap (a.toNat : Int) = (a.toNat : Int) := by
  rw [wrap32_nat]; simp
theorem ofInt32 (a : UInt32) : BitVec.ofInt 32 (a.toNat : Int) = a.toBitVec := by
  apply BitVec.eq_of_toNat_eq
  have := a.toNat_lt
  simp
theorem arith32_ok {P : Program} {w : World} {T U : TypeId} {op : BinOp} {a b c : UInt32} (h : arith32 op a b = some c) : (binOp op T (u32 a) (u32 b)).run P w = .ok (u32 c) w := by
  have ha := a.toNat_lt
  have hb := b.toNat_lt
  cases op <;> simp only [arith32, Option.some.injEq, reduceCtorEq] at h <;> subst h
  · simp only [binOp, Op.intArith, ne_eq, not_true, if_false, Sem.run_pure]
    have : IntKind.u32.wrap ((a.toNat : Int) + b.toNat) = ((a + b).toNat : Int) := by
      simp [IntKind.wrap, IntKind.bits, IntKind.signed, UInt32.toNat_add]
    rw [this]
  · simp only [binOp, Op.intArith, ne_eq, not_true, if_false, Sem.run_pure]
    have : IntKind.u32.wrap ((a.toNat : Int) - b.toNat) = ((a - b).toNat : Int) := by
      simp [IntKind.wrap, IntKind.bits, IntKind.signed, UInt32.toNat_sub]
      omega
    rw [this]
  · simp only [binOp, Op.intArith, ne_eq, not_true, if_false, Sem.run_pure]
    have : IntKind.u32.wrap ((a.toNat : Int) * b.toNat) = ((a * b).toNat : Int) := by
      simp [IntKind.wrap, IntKind.bits, IntKind.signed, UInt32.toNat_mul]
    rw [this]
  all_goals
    simp only [binOp, Op.intBits, ne_eq, not_true, if_false, Sem.run_pure]
    have e1 : BitVec.ofInt IntKind.u32.bits (a.toNat : Int) = (a.toBitVec : BitVec IntKind.u32.bits) := ofInt32 a
    have e2 : BitVec.ofInt IntKind.u32.bits (b.toNat : Int) = (b.toBitVec : BitVec IntKind.u32.bits) := ofInt32 b
    refine congrArg (fun n => Result.ok (Value.int .u32 n) w) ?_
    rw [e1, e2]
  · exact wrap32_self (a &&& b)
  · exact wrap32_self (a ||| b)
  · exact wrap32_self (a ^^^ b)
  · exact wrap32_self (a &&& ~~~b)
theorem cmp32_ok {P : Program} {w : World} {T U : TypeId} {op : BinOp} {a b : UInt32} {c : Bool} (h : cmp32 op a b = some c) : (binOp op T (u32 a) (u32 b)).run P w = .ok (.bool c) w := by
  have e1 : decide ((a.toNat : Int) = b.toNat) = decide (a = b) := by rw [decide_eq_decide, Int.ofNat_inj, UInt32.toNat_inj]
  have e2 : ∀ a b : UInt32, decide ((a.toNat : Int) < b.toNat) = decide (a < b) := by intro a b; rw [decide_eq_decide]; simp [UInt32.lt_iff_toNat_lt]
  have e3 : ∀ a b : UInt32, decide ((a.toNat : Int) ≤ b.toNat) = decide (a ≤ b) := by intro a b; rw [decide_eq_decide]; simp [UInt32.le_iff_toNat_le]
  cases op <;> simp only [cmp32, Option.some.injEq, reduceCtorEq] at h <;> subst h <;>
    simp only [binOp, Op.intCmp, ne_eq, not_true, if_false, Sem.run_pure, beq_dec, bne, GT.gt, GE.ge, e1, e2, e3]
theorem quo32_ok {P : Program} {w : World} {T : TypeId} {a b : UInt32} (h : decide (b = 0) = false) : (binOp .quo T (u32 a) (u32 b)).run P w = .ok (u32 (a / b)) w := by
  have h0 : ¬ ((b.toNat : Int) = 0) := by
    intro h1
    have h2 : b = 0 := by rw [← UInt32.toNat_inj]; simp; omega
    simp [h2] at h
  have : IntKind.u32.wrap ((a.toNat : Int).tdiv b.toNat) = ((a / b).toNat : Int) := by
    rw [← Int.ofNat_tdiv, ← UInt32.toNat_div, wrap32_self]
  simp only [binOp, Op.intDiv, ne_eq, not_true, if_false, h0, Sem.run_pure, this]
theorem rem32_ok {P : Program} {w : World} {T : TypeId} {a b : UInt32} (h : decide (b = 0) = false) : (binOp .rem T (u32 a) (u32 b)).run P w = .ok (u32 (a % b)) w := by
  have h0 : ¬ ((b.toNat : Int) = 0) := by
    intro h1
    have h2 : b = 0 := by rw [← UInt32.toNat_inj]; simp; omega
    simp [h2] at h
  have : (a.toNat : Int).tmod b.toNat = ((a % b).toNat : Int) := by
    rw [← Int.ofNat_tmod, ← UInt32.toNat_mod]
  simp only [binOp, Op.intDiv, ne_eq, not_true, if_false, h0, Sem.run_pure, this]
theorem shl32_ok {P : Program} {w : World} {T : TypeId} {a : UInt32} {yk : IntKind} {n : Nat} : (binOp .shl T (u32 a) (.int yk (n : Int))).run P w = .ok (u32 (shl32 a n)) w := by
  have : ¬ ((n : Int) < 0) := by omega
  have e : IntKind.u32.wrap ((a.toNat : Int) * 2 ^ (min n 32)) = ((shl32 a n).toNat : Int) := by
    have : (a.toNat : Int) * 2 ^ (min n 32) = ((a.toNat * 2 ^ (min n 32) : Nat) : Int) := by simp
    rw [this, wrap32_nat]; rfl
  simp only [binOp, Op.shift, this, if_false, Int.toNat_natCast, IntKind.bits, Sem.run_pure, e]
theorem shr32_ok {P : Program} {w : World} {T : TypeId} {a : UInt32} {yk : IntKind} {n : Nat} : (binOp .shr T (u32 a) (.int yk (n : Int))).run P w = .ok (u32 (shr32 a n)) w := by
  have : ¬ ((n : Int) < 0) := by omega
  have e : (a.toNat : Int).fdiv (2 ^ (min n 32)) = ((shr32 a n).toNat : Int) := by
    have h1 : ((2 : Int) ^ (min n 32)) = ((2 ^ (min n 32) : Nat) : Int) := by simp
    rw [h1, ← Int.ofNat_fdiv]
    unfold shr32
    rw [UInt32.toNat_ofNat', Nat.mod_eq_of_lt]
    exact Nat.lt_of_le_of_lt (Nat.div_le_self _ _) a.toNat_lt
  simp only [binOp, Op.shift, this, if_false, Int.toNat_natCast, IntKind.bits, Sem.run_pure, e]

def arith64 : BinOp → UInt64 → UInt64 → Option UInt64
  | .add, a, b => some (a + b)
  | .sub, a, b => some (a - b)
  | .mul, a, b => some (a * b)
  | .and, a, b => some (a &&& b)
  | .or, a, b => some (a ||| b)
  | .xor, a, b => some (a ^^^ b)
  | .andNot, a, b => some (a &&& ~~~b)
  | _, _, _ => none
def cmp64 : BinOp → UInt64 → UInt64 → Option Bool
  | .eql, a, b => some (decide (a = b))
  | .neq, a, b => some (!decide (a = b))
  | .lss, a, b => some (decide (a < b))
  | .leq, a, b => some (decide (a ≤ b))
  | .gtr, a, b => some (decide (b < a))
  | .geq, a, b => some (decide (b ≤ a))
  | _, _, _ => none
def shl64 (a : UInt64) (n : Nat) : UInt64 := UInt64.ofNat (a.toNat * 2 ^ (min n 64))
def shr64 (a : UInt64) (n : Nat) : UInt64 := UInt64.ofNat (a.toNat / 2 ^ (min n 64))
theorem wrap64_nat (n : Nat) : IntKind.u64.wrap (n : Int) = ((UInt64.ofNat n).toNat : Int) := by
  rw [UInt64.toNat_ofNat']
  simp [IntKind.wrap, IntKind.bits, IntKind.signed]
theorem wrap64_self (a : UInt64) : IntKind.u64.wrap (a.toNat : Int) = (a.toNat : Int) := by
  rw [wrap64_nat]; simp
theorem ofInt64 (a : UInt64) : BitVec.ofInt 64 (a.toNat : Int) = a.toBitVec := by
  apply BitVec.eq_of_toNat_eq
  have := a.toNat_lt
  simp
theorem arith64_ok {P : Program} {w : World} {T U : TypeId} {op : BinOp} {a b c : UInt64} (h : arith64 op a b = some c) : (binOp op T (u64 a) (u64 b)).run P w = .ok (u64 c) w := by
  have ha := a.toNat_lt
  have hb := b.toNat_lt
  cases op <;> simp only [arith64, Option.some.injEq, reduceCtorEq] at h <;> subst h
  · simp only [binOp, Op.intArith, ne_eq, not_true, if_false, Sem.run_pure]
    have : IntKind.u64.wrap ((a.toNat : Int) + b.toNat) = ((a + b).toNat : Int) := by
      simp [IntKind.wrap, IntKind.bits, IntKind.signed, UInt64.toNat_add]
    rw [this]
  · simp only [binOp, Op.intArith, ne_eq, not_true, if_false, Sem.run_pure]
    have : IntKind.u64.wrap ((a.toNat : Int) - b.toNat) = ((a - b).toNat : Int) := by
      simp [IntKind.wrap, IntKind.bits, IntKind.signed, UInt64.toNat_sub]
      omega
    rw [this]
  · simp only [binOp, Op.intArith, ne_eq, not_true, if_false, Sem.run_pure]
    have : IntKind.u64.wrap ((a.toNat : Int) * b.toNat) = ((a * b).toNat : Int) := by
      simp [IntKind.wrap, IntKind.bits, IntKind.signed, UInt64.toNat_mul]
    rw [this]
  all_goals
    simp only [binOp, Op.intBits, ne_eq, not_true, if_false, Sem.run_pure]
    have e1 : BitVec.ofInt IntKind.u64.bits (a.toNat : Int) = (a.toBitVec : BitVec IntKind.u64.bits) := ofInt64 a
    have e2 : BitVec.ofInt IntKind.u64.bits (b.toNat : Int) = (b.toBitVec : BitVec IntKind.u64.bits) := ofInt64 b
    refine congrArg (fun n => Result.ok (Value.int .u64 n) w) ?_
    rw [e1, e2]
  · exact wrap64_self (a &&& b)
  · exact wrap64_self (a ||| b)
  · exact wrap64_self (a ^^^ b)
  · exact wrap64_self (a &&& ~~~b)
theorem cmp64_ok {P : Program} {w : World} {T U : TypeId} {op : BinOp} {a b : UInt64} {c : Bool} (h : cmp64 op a b = some c) : (binOp op T (u64 a) (u64 b)).run P w = .ok (.bool c) w := by
  have e1 : decide ((a.toNat : Int) = b.toNat) = decide (a = b) := by rw [decide_eq_decide, Int.ofNat_inj, UInt64.toNat_inj]
  have e2 : ∀ a b : UInt64, decide ((a.toNat : Int) < b.toNat) = decide (a < b) := by intro a b; rw [decide_eq_decide]; simp [UInt64.lt_iff_toNat_lt]
  have e3 : ∀ a b : UInt64, decide ((a.toNat : Int) ≤ b.toNat) = decide (a ≤ b) := by intro a b; rw [decide_eq_decide]; simp [UInt64.le_iff_toNat_le]
  cases op <;> simp only [cmp64, Option.some.injEq, reduceCtorEq] at h <;> subst h <;>
    simp only [binOp, Op.intCmp, ne_eq, not_true, if_false, Sem.run_pure, beq_dec, bne, GT.gt, GE.ge, e1, e2, e3]
theorem quo64_ok {P : Program} {w : World} {T : TypeId} {a b : UInt64} (h : decide (b = 0) = false) : (binOp .quo T (u64 a) (u64 b)).run P w = .ok (u64 (a / b)) w := by
  have h0 : ¬ ((b.toNat : Int) = 0) := by
    intro h1
    have h2 : b = 0 := by rw [← UInt64.toNat_inj]; simp; omega
    simp [h2] at h
  have : IntKind.u64.wrap ((a.toNat : Int).tdiv b.toNat) = ((a / b).toNat : Int) := by
    rw [← Int.ofNat_tdiv, ← UInt64.toNat_div, wrap64_self]
  simp only [binOp, Op.intDiv, ne_eq, not_true, if_false, h0, Sem.run_pure, this]
theorem rem64_ok {P : Program} {w : World} {T : TypeId} {a b : UInt64} (h : decide (b = 0) = false) : (binOp .rem T (u64 a) (u64 b)).run P w = .ok (u64 (a % b)) w := by
  have h0 : ¬ ((b.toNat : Int) = 0) := by
    intro h1
    have h2 : b = 0 := by rw [← UInt64.toNat_inj]; simp; omega
    simp [h2] at h
  have : (a.toNat : Int).tmod b.toNat = ((a % b).toNat : Int) := by
    rw [← Int.ofNat_tmod, ← UInt64.toNat_mod]
  simp only [binOp, Op.intDiv, ne_eq, not_true, if_false, h0, Sem.run_pure, this]
theorem shl64_ok {P : Program} {w : World} {T : TypeId} {a : UInt64} {yk : IntKind} {n : Nat} : (binOp .shl T (u64 a) (.int yk (n : Int))).run P w = .ok (u64 (shl64 a n)) w := by
  have : ¬ ((n : Int) < 0) := by omega
  have e : IntKind.u64.wrap ((a.toNat : Int) * 2 ^ (min n 64)) = ((shl64 a n).toNat : Int) := by
    have : (a.toNat : Int) * 2 ^ (min n 64) = ((a.toNat * 2 ^ (min n 64) : Nat) : Int) := by simp
    rw [this, wrap64_nat]; rfl
  simp only [binOp, Op.shift, this, if_false, Int.toNat_natCast, IntKind.bits, Sem.run_pure, e]
theorem shr64_ok {P : Program} {w : World} {T : TypeId} {a : UInt64} {yk : IntKind} {n : Nat} : (binOp .shr T (u64 a) (.int yk (n : Int))).run P w = .ok (u64 (shr64 a n)) w := by
  have : ¬ ((n : Int) < 0) := by omega
  have e : (a.toNat : Int).fdiv (2 ^ (min n 64)) = ((shr64 a n).toNat : Int) := by
    have h1 : ((2 : Int) ^ (min n 64)) = ((2 ^ (min n 64) : Nat) : Int) := by simp
    rw [h1, ← Int.ofNat_fdiv]
    unfold shr64
    rw [UInt64.toNat_ofNat', Nat.mod_eq_of_lt]
    exact Nat.lt_of_le_of_lt (Nat.div_le_self _ _) a.toNat_lt
  simp only [binOp, Op.shift, this, if_false, Int.toNat_natCast, IntKind.bits, Sem.run_pure, e]

/-! ### 2. Signed numbers -/
def arithI (k : IntKind) : BinOp → Int → Int → Option Int
  | .add, a, b => some (k.wrap (a + b))
  | .sub, a, b => some (k.wrap (a - b))
  | .mul, a, b => some (k.wrap (a * b))
  | .and, a, b => some (k.wrap (BitVec.ofInt k.bits a &&& BitVec.ofInt k.bits b).toNat)
  | .or, a, b => some (k.wrap (BitVec.ofInt k.bits a ||| BitVec.ofInt k.bits b).toNat)
  | .xor, a, b => some (k.wrap (BitVec.ofInt k.bits a ^^^ BitVec.ofInt k.bits b).toNat)
  | .andNot, a, b => some (k.wrap (BitVec.ofInt k.bits a &&& ~~~BitVec.ofInt k.bits b).toNat)
  | _, _, _ => none
def cmpI : BinOp → Int → Int → Option Bool
  | .eql, a, b => some (decide (a = b))
  | .neq, a, b => some (!decide (a = b))
  | .lss, a, b => some (decide (a < b))
  | .leq, a, b => some (decide (a ≤ b))
  | .gtr, a, b => some (decide (b < a))
  | .geq, a, b => some (decide (b ≤ a))
  | _, _, _ => none
theorem arithI_ok {P : Program} {w : World} {T : TypeId} {op : BinOp} {k : IntKind} {a b c : Int} (h : arithI k op a b = some c) : (binOp op T (.int k a) (.int k b)).run P w = .ok (.int k c) w := by
  cases op <;> simp only [arithI, Option.some.injEq, reduceCtorEq] at h <;> subst h <;>
    simp only [binOp, Op.intArith, Op.intBits, ne_eq, not_true, if_false, Sem.run_pure]
theorem cmpI_ok {P : Program} {w : World} {T : TypeId} {op : BinOp} {k : IntKind} {a b : Int} {c : Bool} (h : cmpI op a b = some c) : (binOp op T (.int k a) (.int k b)).run P w = .ok (.bool c) w := by
  cases op <;> simp only [cmpI, Option.some.injEq, reduceCtorEq] at h <;> subst h <;>
    simp only [binOp, Op.intCmp, ne_eq, not_true, if_false, Sem.run_pure, beq_dec, bne, GT.gt, GE.ge]
def quoI (k : IntKind) (a b : Int) : Int := k.wrap (a.tdiv b)
def shlI (k : IntKind) (a : Int) (n : Nat) : Int := k.wrap (a * 2 ^ (min n k.bits))
def shrI (k : IntKind) (a : Int) (n : Nat) : Int := a.fdiv (2 ^ (min n k.bits))
theorem quoI_ok {P : Program} {w : World} {T : TypeId} {k : IntKind} {a b : Int} (h : decide (b = 0) = false) : (binOp .quo T (.int k a) (.int k b)).run P w = .ok (.int k (quoI k a b)) w := by
  have : ¬ b = 0 := by simpa using h
  simp only [binOp, Op.intDiv, ne_eq, not_true, if_false, this, Sem.run_pure, quoI]
theorem remI_ok {P : Program} {w : World} {T : TypeId} {k : IntKind} {a b : Int} (h : decide (b = 0) = false) : (binOp .rem T (.int k a) (.int k b)).run P w = .ok (.int k (a.tmod b)) w := by
  have : ¬ b = 0 := by simpa using h
  simp only [binOp, Op.intDiv, ne_eq, not_true, if_false, this, Sem.run_pure]
theorem shlI_ok {P : Program} {w : World} {T : TypeId} {k yk : IntKind} {a : Int} {n : Nat} : (binOp .shl T (.int k a) (.int yk (n : Int))).run P w = .ok (.int k (shlI k a n)) w := by
  have : ¬ ((n : Int) < 0) := by omega
  simp only [binOp, Op.shift, this, if_false, Int.toNat_natCast, Sem.run_pure, shlI]
theorem shrI_ok {P : Program} {w : World} {T : TypeId} {k yk : IntKind} {a : Int} {n : Nat} : (binOp .shr T (.int k a) (.int yk (n : Int))).run P w = .ok (.int k (shrI k a n)) w := by
  have : ¬ ((n : Int) < 0) := by omega
  simp only [binOp, Op.shift, this, if_false, Int.toNat_natCast, Sem.run_pure, shrI]
/-! ### 3. Texts -/
def cmpS : BinOp → List UInt8 → List UInt8 → Option Bool
  | .eql, a, b => some (decide (a = b))
  | .neq, a, b => some (!decide (a = b))
  | .lss, a, b => some (strLt a b)
  | .leq, a, b => some (strLt a b || decide (a = b))
  | .gtr, a, b => some (!(strLt a b || decide (a = b)))
  | .geq, a, b => some (!strLt a b)
  | _, _, _ => none
theorem cmpS_ok {P : Program} {w : World} {T : TypeId} {op : BinOp} {a b : List UInt8} {c : Bool} (h : cmpS op a b = some c) : (binOp op T (str a) (str b)).run P w = .ok (.bool c) w := by
  cases op <;> simp only [cmpS, Option.some.injEq, reduceCtorEq] at h <;> subst h <;>
    simp only [binOp, str, Op.stringOp, str_toList, beq_list, Sem.run_pure, strLt]
/-- Two texts, one behind the other. -/
def catS (a b : List UInt8) : Option (List UInt8) := if a.length + b.length ≤ 9223372036854775807 then some (a ++ b) else none
theorem catS_ok {P : Program} {w : World} {T : TypeId} {a b c : List UInt8} (h : catS a b = some c) : (binOp .add T (str a) (str b)).run P w = .ok (str c) w := by
  unfold catS at h
  split at h
  · rename_i hl
    cases h
    have hm : IntKind.i64.max = 9223372036854775807 := rfl
    have : ¬ (((ByteArray.mk a.toArray).size + (ByteArray.mk b.toArray).size : Nat) : Int) > IntKind.i64.max := by
      rw [hm]
      show ¬ ((a.toArray.size + b.toArray.size : Nat) : Int) > _
      simp
      omega
    simp only [binOp, str, Op.stringOp, this, if_false, Sem.run_pure]
    congr 2
  · cases h
end Hyp
