/- The document's words, sums and tags: what the printed functions come to. -/
import Derived.Test.YtcojhmllnhkbnaaDoorPA
import Derived.Test.YtcojhmllnhkbnaaDoorKb
set_option linter.unusedVariables false
set_option linter.unusedSimpArgs false
set_option maxRecDepth 100000
namespace Hyp
open Go Go.Proofs
theorem worth_l0 {n : Nat} {b0 : Bool} {b : List UInt8} (hb : b.length ≤ 140737488355328) : ∀ (k i v : Nat), i ≤ b.length → b.length < i + k →
    (F_r01_worth_l0 n k b0 b (UInt64.ofNat v) (i : Int)).run = some (UInt64.ofNat (beF v (b.drop i)))
  | 0, _, _, _, h => by omega
  | k + 1, i, v, h1, h2 => by
    by_cases hi : i = b.length
    · have e1 : decide ((i : Int) < ln b) = false := decide_eq_false (by unfold ln; omega)
      unfold F_r01_worth_l0
      simp only [Tree.run, e1, cond_false]
      rw [List.drop_of_length_le (by omega)]; rfl
    · have hl : i < b.length := by omega
      have e1 : decide ((i : Int) < ln b) = true := decide_eq_true (by unfold ln; omega)
      have e2 : getI b (i : Int) = some b[i] := getI_lt hl
      have e8 : w64 ((i : Int) + 1) = ((i + 1 : Nat) : Int) := w64_succ (by omega)
      have e3 : UInt64.ofNat v * (256 : UInt64) + UInt64.ofNat b[i].toNat = UInt64.ofNat (v * 256 + b[i].toNat) := by
        rw [UInt64.ofNat_add, UInt64.ofNat_mul]; rfl
      have ih := worth_l0 (n := n) (b0 := b0) hb k (i + 1) (v * 256 + b[i].toNat) (by omega) (by omega)
      unfold F_r01_worth_l0
      simp only [Tree.run, e1, cond_true, e2, e3, e8, Option.bind_some, ih]
      rw [List.drop_eq_getElem_cons hl]; rfl
theorem worth_run {n : Nat} {b0 : Bool} {b : List UInt8} (hb : b.length ≤ 140737488355328) (hn : b.length < n) : (F_r01_worth n b0 b).run = some (UInt64.ofNat (be b)) := by
  have e1 := worth_l0 (n := n) (b0 := b0) hb n 0 0 (by omega) (by omega)
  unfold F_r01_worth
  simp only [Tree.run]
  refine bndO e1 ?_
  rfl
theorem u32_of_be {b : List UInt8} (h : b.length = 4) : UInt32.ofNat (UInt64.toNat (UInt64.ofNat (be b))) = UInt32.ofNat (be b) := by
  have := be_lt b
  rw [h] at this
  rw [UInt64.toNat_ofNat', Nat.mod_eq_of_lt (by omega)]
theorem rload_be {n : Nat} (hn : 5 ≤ n) {b0 : Bool} {b : List UInt8} (h : b.length = 4) : (F_r01_Load_1 n b0 b).run = some (UInt32.ofNat (be b), 0) := by
  have e1 : (!(decide (ln b = (4 : Int)))) = false := by rw [lnEq h]; rfl
  unfold F_r01_Load_1
  simp only [Tree.run, e1, cond_false, worth_run (n := n) (b0 := b0) (b := b) (by omega) (by omega), Option.bind_some, u32_of_be h]
def padK (key : List UInt8) (x : UInt8) : List UInt8 := (key ++ List.replicate (64 - key.length) 0).map (· ^^^ x)
end Hyp
