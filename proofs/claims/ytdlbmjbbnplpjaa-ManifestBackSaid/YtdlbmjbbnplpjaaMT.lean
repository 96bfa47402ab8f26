/- Printed by Gen.lean.tpl (this work's own): Go functions as pure functions, each with the proof that the Go code comes to its answers. -/
import Derived.Test.YtdlbmjbbnplpjaaZD
import Derived.Test.YtdlbmjbbnplpjaaChecked
set_option linter.unusedVariables false
set_option maxRecDepth 100000
set_option maxHeartbeats 4000000
namespace Hyp
open Go Go.Proofs
abbrev T1 : Ty := .rcd (.pair .str (.arr 32 .u8))
abbrev T2 : Ty := .rcd (.pair (.sint .i64) (.arr 32 .u8))
abbrev T3 : Ty := .list (.rcd (.pair .str (.arr 32 .u8)))
abbrev T4 : Ty := .list (.rcd (.pair (.sint .i64) (.arr 32 .u8)))
abbrev T5 : Ty := .rcd (.pair (.sint .i64) (.pair (.sint .i64) (.sint .i64)))
def C_18_0 : CutF → Cut := fun κ => ⟨[1, 3], fun e => match e with | .ex i => bif Nat.beq i 0 then [] else [] | .rt => [2] | .nm => [] | .go i => [], κ⟩
def F_w23_few_l0 (n : Nat) : Nat → (Int) → (Int) → (Int) → (Int) → (Int) → (Bool) → (List (List UInt8 × List UInt8)) → (Bool) → (List (Int × List UInt8)) → Tree (Unit ⊕ Unit)
 | 0 => fun  x0 x1 x2 x3 x4 x5 x6 x7 x8 => .fail
 | k + 1 => fun x0 x1 x2 x3 x4 x5 x6 x7 x8 =>
  .ite ((decide (x0 < (ln x6))) && (decide (x0 ≤ (70 : Int))))
  (.get (getI x6 x0) fun y9 =>
  .ite (decide ((100 : Int) < (ln y9.1)))
  (.ret (.inl ()))
  (.sub (F_w23_few_l0 n k (w64 (x0 + (1 : Int))) x1 x2 x3 x4 x5 x6 x7 x8) fun y10 =>
  .alt y10 (fun y11 =>
  .ret (.inl ()))
  fun y12 =>
  .ret (.inr ())))
  (.ret (.inr ()))
def S_w23_few_l0 (n k : Nat) : CutF := mkS ⟨[(.ptr 0 0), (.val (.sint .i64) (0 : Int))], [⟨0, 1, .box (.agg (.pr (.val (.sint .i64) (0 : Int)) (.pr (.val (.sint .i64) (0 : Int)) (.pr (.val (.sint .i64) (0 : Int)) (.pr (.val (.sint .i64) (0 : Int)) (.pr (.ro false T1 []) (.pr (.ro false T2 []) .un)))))))⟩], 2⟩ [.d (.sint .i64), .d (.sint .i64), .d (.sint .i64), .d (.sint .i64), .d (.sint .i64), .c, .d T3, .c, .d T4] fun v => .sub (F_w23_few_l0 n k (p0 v) (p1 v) (p2 v) (p3 v) (p4 v) (p5 v) (p6 v) (p7 v) (p8 v)) fun r => .alt r (fun r => .ret (.rt, [(.val .bool false)], [⟨0, 3, .box (.agg (.pr (.val (.sint .i64) (p1 v)) (.pr (.val (.sint .i64) (p2 v)) (.pr (.val (.sint .i64) (p3 v)) (.pr (.val (.sint .i64) (p4 v)) (.pr (.ro (p5 v) T1 (p6 v)) (.pr (.ro (p7 v) T2 (p8 v)) .un)))))))⟩], 4)) (fun r => .ret (.ex 0, [], [⟨0, 3, .box (.agg (.pr (.val (.sint .i64) (p1 v)) (.pr (.val (.sint .i64) (p2 v)) (.pr (.val (.sint .i64) (p3 v)) (.pr (.val (.sint .i64) (p4 v)) (.pr (.ro (p5 v) T1 (p6 v)) (.pr (.ro (p7 v) T2 (p8 v)) .un)))))))⟩], 4))
theorem rd_w23_few_l0 (n k : Nat) : Rounds Try.prog (Go.Func.ntmps Try.f18) (bodyOf Try.f18 0) C_18_0 [S_w23_few_l0 n k] (S_w23_few_l0 n (k + 1)) :=
  rounds_go (tab := mkTab []) (cuts := mkCuts []) (S_w23_few_l0 n k) [] .nil (.none0 (by kernel_rfl)) rfl (fun v => by kernel_rfl)
theorem ok_w23_few_l0 (n k : Nat) : SoundC Try.prog (Go.Func.ntmps Try.f18) (.loop (bodyOf Try.f18 0)) (wr (bodyOf Try.f18 0)) (C_18_0 (S_w23_few_l0 n k)) :=
  loop_go (K := fun k => [S_w23_few_l0 n k]) (fun _ => rfl) (by kernel_rfl) ⟨z_go fun _ => by kernel_rfl, trivial⟩ (fun k => ⟨rd_w23_few_l0 n k, trivial⟩) k rfl
def F_w23_few (n : Nat) (x0 : Int) (x1 : Int) (x2 : Int) (x3 : Int) (x4 : Bool) (x5 : List (List UInt8 × List UInt8)) (x6 : Bool) (x7 : List (Int × List UInt8)) : Tree Bool :=
  .sub (F_w23_few_l0 n n (0 : Int) x0 x1 x2 x3 x4 x5 x6 x7) fun y8 =>
  .alt y8 (fun y9 =>
  .ret false)
  fun y10 =>
  .ret ((decide ((ln x5) ≤ (70 : Int))) && (decide ((ln x7) ≤ (70 : Int))))
def S_w23_few (n : Nat) : Summ := mkS ⟨[(.agg (.pr (.val (.sint .i64) (0 : Int)) (.pr (.val (.sint .i64) (0 : Int)) (.pr (.val (.sint .i64) (0 : Int)) (.pr (.val (.sint .i64) (0 : Int)) (.pr (.ro false T1 []) (.pr (.ro false T2 []) .un)))))))], [], 0⟩ [.d (.sint .i64), .d (.sint .i64), .d (.sint .i64), .d (.sint .i64), .c, .d T3, .c, .d T4] fun v => .sub (F_w23_few n (p0 v) (p1 v) (p2 v) (p3 v) (p4 v) (p5 v) (p6 v) (p7 v)) fun r => .ret ((.val .bool r), [], 0)
theorem ok_w23_few (n : Nat) : SoundF Try.prog 18 (S_w23_few n) :=
  fn_go true (c := codeOf Try.f18) (tab := mkTab []) (cuts := mkCuts [(0, C_18_0 (S_w23_few_l0 n n))]) Try.func18 (by kernel_rfl) .nil (CutsOK.list (l := [(0, .lp (bodyOf Try.f18 0))]) (by kernel_rfl) (LoopsOK.all ⟨.inr ⟨_, rfl, ok_w23_few_l0 n n⟩, trivial⟩)) (fun v => by kernel_rfl)
def F_manifest_Accept (n : Nat) (x0 : Int) (x1 : Int) (x2 : Int) (x3 : Int) (x4 : Int) : Tree ((Int) × ((Int) × ((Int) × Int))) :=
  .ite (eqV T5 (x3, (x4, x2)) (x0, (x1, x2)))
  (.ret (x0, x1, x2, (0 : Int)))
  (.ite ((decide (x0 < (1099511627776 : Int))) && ((decide (x3 = (w64 (x0 + (1 : Int))))) && ((decide (x1 < x4)) && (decide (x4 ≤ x2)))))
  (.ret (x3, x4, x2, (0 : Int)))
  (.ret ((0 : Int), (0 : Int), (0 : Int), (15 : Int))))
def S_manifest_Accept (n : Nat) : Summ := mkS ⟨[(.agg (.pr (.val (.sint .i64) (0 : Int)) (.pr (.val (.sint .i64) (0 : Int)) (.pr (.val (.sint .i64) (0 : Int)) .un)))), (.agg (.pr (.val (.sint .i64) (0 : Int)) (.pr (.val (.sint .i64) (0 : Int)) (.pr (.val (.sint .i64) (0 : Int)) (.pr (.val (.sint .i64) (0 : Int)) (.pr (.snil (some T1)) (.pr (.snil (some T2)) .un)))))))], [], 0⟩ [.d (.sint .i64), .d (.sint .i64), .d (.sint .i64), .d (.sint .i64), .d (.sint .i64), .d (.sint .i64), .d (.sint .i64)] fun v => .sub (F_manifest_Accept n (p0 v) (p1 v) (p2 v) (p3 v) (p4 v)) fun r => .ret ((.tup (.pr (.agg (.pr (.val (.sint .i64) r.1) (.pr (.val (.sint .i64) r.2.1) (.pr (.val (.sint .i64) r.2.2.1) .un)))) (.pr (.val (.sint .i64) r.2.2.2) .un))), [], 0)
theorem ok_manifest_Accept (n : Nat) : SoundF Try.prog 68 (S_manifest_Accept n) :=
  fn_go false (c := codeOf Try.f68) (tab := mkTab []) (cuts := mkCuts []) Try.func68 (by kernel_rfl) .nil (.none0 (by kernel_rfl)) (fun v => by kernel_rfl)
def F_manifest_in (n : Nat) (x0 : Int) : Tree Bool :=
  .ret ((decide ((1 : Int) ≤ x0)) && (decide (x0 ≤ (1099511627776 : Int))))
def S_manifest_in (n : Nat) : Summ := mkS ⟨[(.val (.sint .i64) (0 : Int))], [], 0⟩ [.d (.sint .i64)] fun v => .sub (F_manifest_in n (p0 v)) fun r => .ret ((.val .bool r), [], 0)
theorem ok_manifest_in (n : Nat) : SoundF Try.prog 78 (S_manifest_in n) :=
  fn_go false (c := codeOf Try.f78) (tab := mkTab []) (cuts := mkCuts []) Try.func78 (by kernel_rfl) .nil (.none0 (by kernel_rfl)) (fun v => by kernel_rfl)
def C_23_0 : CutF → Cut := fun κ => ⟨[1, 47, 48, 49], fun e => match e with | .ex i => bif Nat.beq i 0 then [] else [] | .rt => [2] | .nm => [] | .go i => [], κ⟩
def C_15_0 : CutF → Cut := fun κ => ⟨[14, 15, 16], fun e => match e with | .ex i => bif Nat.beq i 0 then [] else [] | .rt => [2] | .nm => [] | .go i => [], κ⟩
def F_store_Named_l0 (n : Nat) : Nat → (Int) → (Int) → (List UInt8) → Tree (Unit ⊕ Unit)
 | 0 => fun  x0 x1 x2 => .fail
 | k + 1 => fun x0 x1 x2 =>
  .ite (decide (x1 < x0))
  (.get (inI (List.length x2) x1) fun y3 =>
  .get (gt x2 (0 + y3)) fun y4 =>
  .ite (bif (decide (y4 < (97 : UInt8))) then ((decide (y4 < (48 : UInt8))) || (decide ((57 : UInt8) < y4))) else ((decide ((122 : UInt8) < y4)) && ((decide (y4 < (48 : UInt8))) || (decide ((57 : UInt8) < y4)))))
  (.ret (.inl ()))
  (.sub (F_store_Named_l0 n k x0 (w64 (x1 + (1 : Int))) x2) fun y5 =>
  .alt y5 (fun y6 =>
  .ret (.inl ()))
  fun y7 =>
  .ret (.inr ())))
  (.ret (.inr ()))
def S_store_Named_l0 (n k : Nat) : CutF := mkS ⟨[(.whole 0 1), (.val (.sint .i64) (0 : Int)), (.val (.sint .i64) (0 : Int))], [⟨0, 1, .row .u8 []⟩], 2⟩ [.d (.sint .i64), .d (.sint .i64), .d (.list .u8)] fun v => .sub (F_store_Named_l0 n k (p0 v) (p1 v) (p2 v)) fun r => .alt r (fun r => .ret (.rt, [(.val .bool false)], [⟨0, 3, .row .u8 (p2 v)⟩], 4)) (fun r => .ret (.ex 0, [], [⟨0, 3, .row .u8 (p2 v)⟩], 4))
theorem rd_store_Named_l0 (n k : Nat) : Rounds Try.prog (Go.Func.ntmps Try.f15) (bodyOf Try.f15 0) C_15_0 [S_store_Named_l0 n k] (S_store_Named_l0 n (k + 1)) :=
  rounds_go (tab := mkTab []) (cuts := mkCuts []) (S_store_Named_l0 n k) [] .nil (.none0 (by kernel_rfl)) rfl (fun v => by kernel_rfl)
theorem ok_store_Named_l0 (n k : Nat) : SoundC Try.prog (Go.Func.ntmps Try.f15) (.loop (bodyOf Try.f15 0)) (wr (bodyOf Try.f15 0)) (C_15_0 (S_store_Named_l0 n k)) :=
  loop_go (K := fun k => [S_store_Named_l0 n k]) (fun _ => rfl) (by kernel_rfl) ⟨z_go fun _ => by kernel_rfl, trivial⟩ (fun k => ⟨rd_store_Named_l0 n k, trivial⟩) k rfl
def F_store_Named (n : Nat) (x0 : List UInt8) : Tree Bool :=
  .ite ((decide ((ln x0) < (1 : Int))) || (decide ((32 : Int) < (ln x0))))
  (.ret false)
  (.get (bytesI x0) fun y1 =>
  .sub (F_store_Named_l0 n n (ln y1) (0 : Int) y1) fun y2 =>
  .alt y2 (fun y3 =>
  .ret false)
  fun y4 =>
  .ret true)
def S_store_Named (n : Nat) : Summ := mkS ⟨[(.val .str [])], [], 0⟩ [.d .str] fun v => .sub (F_store_Named n (p0 v)) fun r => .ret ((.val .bool r), [], 0)
theorem ok_store_Named (n : Nat) : SoundF Try.prog 15 (S_store_Named n) :=
  fn_go false (c := codeOf Try.f15) (tab := mkTab []) (cuts := mkCuts [(0, C_15_0 (S_store_Named_l0 n n))]) Try.func15 (by kernel_rfl) .nil (CutsOK.list (l := [(0, .lp (bodyOf Try.f15 0))]) (by kernel_rfl) (LoopsOK.all ⟨.inr ⟨_, rfl, ok_store_Named_l0 n n⟩, trivial⟩)) (fun v => by kernel_rfl)
def F_manifest_Right_l0 (n : Nat) : Nat → (Int) → (Int) → (Int) → (Int) → (Int) → (Int) → (List (List UInt8 × List UInt8)) → (List (Int × List UInt8)) → (List (List UInt8 × List UInt8)) → Tree (Unit ⊕ Unit)
 | 0 => fun  x0 x1 x2 x3 x4 x5 x6 x7 x8 => .fail
 | k + 1 => fun x0 x1 x2 x3 x4 x5 x6 x7 x8 =>
  .ite (decide (x1 < x0))
  (.get (inI (List.length x8) x1) fun y9 =>
  .get (gt x8 (0 + y9)) fun y10 =>
  .get (Tree.run (F_store_Named n y10.1)) fun y11 =>
  .ite (!y11)
  (.ret (.inl ()))
  (.ite (decide ((0 : Int) < x1))
  (.get (inI (List.length x6) (w64 (x1 - (1 : Int)))) fun y12 =>
  .get (gt x6 (0 + y12)) fun y13 =>
  .ite (!(strLt y13.1 y10.1))
  (.ret (.inl ()))
  (.sub (F_manifest_Right_l0 n k x0 (w64 (x1 + (1 : Int))) x2 x3 x4 x5 x6 x7 x8) fun y14 =>
  .alt y14 (fun y15 =>
  .ret (.inl ()))
  fun y16 =>
  .ret (.inr ())))
  (.sub (F_manifest_Right_l0 n k x0 (w64 (x1 + (1 : Int))) x2 x3 x4 x5 x6 x7 x8) fun y17 =>
  .alt y17 (fun y18 =>
  .ret (.inl ()))
  fun y19 =>
  .ret (.inr ()))))
  (.ret (.inr ()))
def S_manifest_Right_l0 (n k : Nat) : CutF := mkS ⟨[(.ptr 0 0), (.whole 6 33), (.val (.sint .i64) (0 : Int)), (.val (.sint .i64) (0 : Int))], [⟨0, 1, .box (.agg (.pr (.val (.sint .i64) (0 : Int)) (.pr (.val (.sint .i64) (0 : Int)) (.pr (.val (.sint .i64) (0 : Int)) (.pr (.val (.sint .i64) (0 : Int)) (.pr (.whole 2 33) (.pr (.whole 4 33) .un)))))))⟩, ⟨2, 3, .row T1 []⟩, ⟨4, 5, .row T2 []⟩, ⟨6, 7, .row T1 []⟩], 8⟩ [.d (.sint .i64), .d (.sint .i64), .d (.sint .i64), .d (.sint .i64), .d (.sint .i64), .d (.sint .i64), .d T3, .d T4, .d T3] fun v => .sub (F_manifest_Right_l0 n k (p0 v) (p1 v) (p2 v) (p3 v) (p4 v) (p5 v) (p6 v) (p7 v) (p8 v)) fun r => .alt r (fun r => .ret (.rt, [(.val .bool false)], [⟨0, 9, .box (.agg (.pr (.val (.sint .i64) (p2 v)) (.pr (.val (.sint .i64) (p3 v)) (.pr (.val (.sint .i64) (p4 v)) (.pr (.val (.sint .i64) (p5 v)) (.pr (.whole 10 33) (.pr (.whole 12 33) .un)))))))⟩, ⟨10, 11, .row T1 (p6 v)⟩, ⟨12, 13, .row T2 (p7 v)⟩, ⟨6, 15, .row T1 (p8 v)⟩], 16)) (fun r => .ret (.ex 0, [], [⟨0, 9, .box (.agg (.pr (.val (.sint .i64) (p2 v)) (.pr (.val (.sint .i64) (p3 v)) (.pr (.val (.sint .i64) (p4 v)) (.pr (.val (.sint .i64) (p5 v)) (.pr (.whole 10 33) (.pr (.whole 12 33) .un)))))))⟩, ⟨10, 11, .row T1 (p6 v)⟩, ⟨12, 13, .row T2 (p7 v)⟩, ⟨6, 15, .row T1 (p8 v)⟩], 16))
theorem rd_manifest_Right_l0 (n k : Nat) : Rounds Try.prog (Go.Func.ntmps Try.f23) (bodyOf Try.f23 0) C_23_0 [S_manifest_Right_l0 n k] (S_manifest_Right_l0 n (k + 1)) :=
  rounds_go (tab := mkTab [(15, ⟨S_store_Named n, [], [], false⟩)]) (cuts := mkCuts []) (S_manifest_Right_l0 n k) [] (.cons (ok_store_Named n) ⟨_, Try.func15, by kernel_rfl⟩ .nil) (.none0 (by kernel_rfl)) rfl (fun v => by kernel_rfl)
theorem ok_manifest_Right_l0 (n k : Nat) : SoundC Try.prog (Go.Func.ntmps Try.f23) (.loop (bodyOf Try.f23 0)) (wr (bodyOf Try.f23 0)) (C_23_0 (S_manifest_Right_l0 n k)) :=
  loop_go (K := fun k => [S_manifest_Right_l0 n k]) (fun _ => rfl) (by kernel_rfl) ⟨z_go fun _ => by kernel_rfl, trivial⟩ (fun k => ⟨rd_manifest_Right_l0 n k, trivial⟩) k rfl
def C_23_2 : CutF → Cut := fun κ => ⟨[1, 5, 76, 77, 78], fun e => match e with | .ex i => bif Nat.beq i 2 then [] else [] | .rt => [2] | .nm => [] | .go i => [], κ⟩
def F_manifest_Right_l2 (n : Nat) : Nat → (Int) → (Int) → (Int) → (Int) → (Int) → (Int) → (Int) → (List (List UInt8 × List UInt8)) → (List (Int × List UInt8)) → Tree (Unit ⊕ Unit)
 | 0 => fun  x0 x1 x2 x3 x4 x5 x6 x7 x8 => .fail
 | k + 1 => fun x0 x1 x2 x3 x4 x5 x6 x7 x8 =>
  .ite (decide (x2 < x1))
  (.get (inI (List.length x8) x2) fun y9 =>
  .get (gt x8 (0 + y9)) fun y10 =>
  .ite ((decide (y10.1 ≤ x0)) || (decide (x6 ≤ y10.1)))
  (.ret (.inl ()))
  (.sub (F_manifest_Right_l2 n k y10.1 x1 (w64 (x2 + (1 : Int))) x3 x4 x5 x6 x7 x8) fun y11 =>
  .alt y11 (fun y12 =>
  .ret (.inl ()))
  fun y13 =>
  .ret (.inr ())))
  (.ret (.inr ()))
def S_manifest_Right_l2 (n k : Nat) : CutF := mkS ⟨[(.ptr 0 0), (.val (.sint .i64) (0 : Int)), (.whole 4 33), (.val (.sint .i64) (0 : Int)), (.val (.sint .i64) (0 : Int))], [⟨0, 1, .box (.agg (.pr (.val (.sint .i64) (0 : Int)) (.pr (.val (.sint .i64) (0 : Int)) (.pr (.val (.sint .i64) (0 : Int)) (.pr (.val (.sint .i64) (0 : Int)) (.pr (.whole 2 33) (.pr (.whole 4 33) .un)))))))⟩, ⟨2, 3, .row T1 []⟩, ⟨4, 5, .row T2 []⟩], 6⟩ [.d (.sint .i64), .d (.sint .i64), .d (.sint .i64), .d (.sint .i64), .d (.sint .i64), .d (.sint .i64), .d (.sint .i64), .d T3, .d T4] fun v => .sub (F_manifest_Right_l2 n k (p0 v) (p1 v) (p2 v) (p3 v) (p4 v) (p5 v) (p6 v) (p7 v) (p8 v)) fun r => .alt r (fun r => .ret (.rt, [(.val .bool false)], [⟨0, 7, .box (.agg (.pr (.val (.sint .i64) (p3 v)) (.pr (.val (.sint .i64) (p4 v)) (.pr (.val (.sint .i64) (p5 v)) (.pr (.val (.sint .i64) (p6 v)) (.pr (.whole 8 33) (.pr (.whole 4 33) .un)))))))⟩, ⟨8, 9, .row T1 (p7 v)⟩, ⟨4, 11, .row T2 (p8 v)⟩], 12)) (fun r => .ret (.ex 2, [], [⟨0, 7, .box (.agg (.pr (.val (.sint .i64) (p3 v)) (.pr (.val (.sint .i64) (p4 v)) (.pr (.val (.sint .i64) (p5 v)) (.pr (.val (.sint .i64) (p6 v)) (.pr (.whole 8 33) (.pr (.whole 4 33) .un)))))))⟩, ⟨8, 9, .row T1 (p7 v)⟩, ⟨4, 11, .row T2 (p8 v)⟩], 12))
theorem rd_manifest_Right_l2 (n k : Nat) : Rounds Try.prog (Go.Func.ntmps Try.f23) (bodyOf Try.f23 2) C_23_2 [S_manifest_Right_l2 n k] (S_manifest_Right_l2 n (k + 1)) :=
  rounds_go (tab := mkTab []) (cuts := mkCuts []) (S_manifest_Right_l2 n k) [] .nil (.none0 (by kernel_rfl)) rfl (fun v => by kernel_rfl)
theorem ok_manifest_Right_l2 (n k : Nat) : SoundC Try.prog (Go.Func.ntmps Try.f23) (.loop (bodyOf Try.f23 2)) (wr (bodyOf Try.f23 2)) (C_23_2 (S_manifest_Right_l2 n k)) :=
  loop_go (K := fun k => [S_manifest_Right_l2 n k]) (fun _ => rfl) (by kernel_rfl) ⟨z_go fun _ => by kernel_rfl, trivial⟩ (fun k => ⟨rd_manifest_Right_l2 n k, trivial⟩) k rfl
def F_manifest_Right (n : Nat) (x0 : Int) (x1 : Int) (x2 : Int) (x3 : Int) : Tree Bool :=
  .sub (F_manifest_in n x0) fun y4 =>
  .ite (!y4)
  (.ret false)
  (.sub (F_manifest_in n x1) fun y5 =>
  .ite (!y5)
  (.ret false)
  (.sub (F_manifest_in n x3) fun y6 =>
  .ite ((!y6) || ((decide (x2 < (1 : Int))) || ((decide ((64 : Int) < x2)) || false)))
  (.ret false)
  (.sub (F_manifest_Right_l0 n n (0 : Int) (0 : Int) x0 x1 x2 x3 ([] : List ((List UInt8) × (List UInt8))) ([] : List (Int × (List UInt8))) ([] : List ((List UInt8) × (List UInt8)))) fun y7 =>
  .alt y7 (fun y8 =>
  .ret false)
  fun y9 =>
  .sub (F_manifest_Right_l2 n n (0 : Int) (0 : Int) (0 : Int) x0 x1 x2 x3 ([] : List ((List UInt8) × (List UInt8))) ([] : List (Int × (List UInt8)))) fun y10 =>
  .alt y10 (fun y11 =>
  .ret false)
  fun y12 =>
  .ret true)))
def S_manifest_Right (n : Nat) : Summ := mkS ⟨[(.agg (.pr (.val (.sint .i64) (0 : Int)) (.pr (.val (.sint .i64) (0 : Int)) (.pr (.val (.sint .i64) (0 : Int)) (.pr (.val (.sint .i64) (0 : Int)) (.pr (.snil (some T1)) (.pr (.snil (some T2)) .un)))))))], [], 0⟩ [.d (.sint .i64), .d (.sint .i64), .d (.sint .i64), .d (.sint .i64)] fun v => .sub (F_manifest_Right n (p0 v) (p1 v) (p2 v) (p3 v)) fun r => .ret ((.val .bool r), [], 0)
theorem ok_manifest_Right (n : Nat) : SoundF Try.prog 23 (S_manifest_Right n) :=
  fn_go false (c := codeOf Try.f23) (tab := mkTab [(78, ⟨S_manifest_in n, [], [], false⟩)]) (cuts := mkCuts [(0, C_23_0 (S_manifest_Right_l0 n n)), (2, C_23_2 (S_manifest_Right_l2 n n))]) Try.func23 (by kernel_rfl) (.cons (ok_manifest_in n) ⟨_, Try.func78, by kernel_rfl⟩ .nil) (CutsOK.list (l := [(0, .lp (bodyOf Try.f23 0)), (2, .lp (bodyOf Try.f23 2))]) (by kernel_rfl) (LoopsOK.all ⟨.inr ⟨_, rfl, ok_manifest_Right_l0 n n⟩, ⟨.inr ⟨_, rfl, ok_manifest_Right_l2 n n⟩, trivial⟩⟩)) (fun v => by kernel_rfl)
def F_w23_awake (n : Nat) : Tree Bool :=
  .sub (F_manifest_Accept n (3 : Int) (7 : Int) (9 : Int) (4 : Int) (8 : Int)) fun y0 =>
  .sub (F_manifest_Accept n (3 : Int) (7 : Int) (9 : Int) (4 : Int) (7 : Int)) fun y1 =>
  .ite (eqV T5 (y0.1, (y0.2.1, y0.2.2.1)) ((4 : Int), ((8 : Int), (9 : Int))))
  (.ite (decide (y0.2.2.2 = (0 : Int)))
  (.ite (decide (y1.2.2.2 = (15 : Int)))
  (.sub (F_manifest_Right n (1 : Int) (1 : Int) (1 : Int) (1 : Int)) fun y2 =>
  .ret y2)
  (.ret false))
  (.ret false))
  (.ret false)
def S_w23_awake (n : Nat) : Summ := mkS ⟨[], [], 0⟩ [] fun v => .sub (F_w23_awake n) fun r => .ret ((.val .bool r), [], 0)
theorem ok_w23_awake (n : Nat) : SoundF Try.prog 19 (S_w23_awake n) :=
  fn_go true (c := codeOf Try.f19) (tab := mkTab [(68, ⟨S_manifest_Accept n, [], [], false⟩), (23, ⟨S_manifest_Right n, [], [], true⟩)]) (cuts := mkCuts []) Try.func19 (by kernel_rfl) (.cons (ok_manifest_Accept n) ⟨_, Try.func68, by kernel_rfl⟩ (.cons (ok_manifest_Right n) ⟨_, Try.func23, by kernel_rfl⟩ .nil)) (.none0 (by kernel_rfl)) (fun v => by kernel_rfl)
def F_w23_own (n : Nat) (x0 : List UInt8) : Tree (List UInt8) :=
  .get (appI 140737488355328 ([] : List UInt8) x0) fun y1 =>
  .ret y1
def S_w23_own (n : Nat) : Summ := mkS ⟨[(.ro false .u8 [])], [], 0⟩ [.c, .d (.list .u8)] fun v => .sub (F_w23_own n (p1 v)) fun r => .ret ((.whole 0 1), [⟨0, 1, .row .u8 r⟩], 2)
theorem ok_w23_own (n : Nat) : SoundF Try.prog 20 (S_w23_own n) :=
  fn_go false (c := codeOf Try.f20) (tab := mkTab []) (cuts := mkCuts []) Try.func20 (by kernel_rfl) .nil (.none0 (by kernel_rfl)) (fun v => by kernel_rfl)
def F_codec_From (n : Nat) (x0 : List UInt8) : Tree (List UInt8) :=
  .get (appI 140737488355328 ([] : List UInt8) x0) fun y1 =>
  .ret y1
def S_codec_From (n : Nat) : Summ := mkS ⟨[(.whole 0 1)], [⟨0, 1, .row .u8 []⟩], 2⟩ [.d (.list .u8)] fun v => .sub (F_codec_From n (p0 v)) fun r => .ret ((.agg (.pr (.ro false .u8 r) (.pr (.val (.sint .i64) (0 : Int)) .un))), [⟨0, 3, .row .u8 (p0 v)⟩], 4)
theorem ok_codec_From (n : Nat) : SoundF Try.prog 69 (S_codec_From n) :=
  fn_go true (c := codeOf Try.f69) (tab := mkTab []) (cuts := mkCuts []) Try.func69 (by kernel_rfl) .nil (.none0 (by kernel_rfl)) (fun v => by kernel_rfl)
def C_105_0 : CutF → Cut := fun κ => ⟨[6, 39, 40, 41], fun e => match e with | .ex i => bif Nat.beq i 0 then [6] else [] | .rt => [] | .nm => [] | .go i => [], κ⟩
def F_codec_Scan_next_l0 (n : Nat) : Nat → (Int) → (Bool) → (List UInt8) → (Int) → (Int) → Tree Int
 | 0 => fun  x0 x1 x2 x3 x4 => .fail
 | k + 1 => fun x0 x1 x2 x3 x4 =>
  .ite (decide (x4 < x3))
  (.get (getI x2 x4) fun y5 =>
  .sub (F_codec_Scan_next_l0 n k (w64 (Nat.cast (BitVec.toNat ((BitVec.ofInt 64 (shlI .i64 x0 8)) ||| (BitVec.ofInt 64 (Nat.cast (UInt8.toNat y5) : Int)))) : Int)) x1 x2 x3 (w64 (x4 + (1 : Int)))) fun y6 =>
  .ret y6)
  (.ret x0)
def S_codec_Scan_next_l0 (n k : Nat) : CutF := mkS ⟨[(.val (.sint .i64) (0 : Int)), (.ro false .u8 []), (.val (.sint .i64) (0 : Int)), (.val (.sint .i64) (0 : Int))], [], 0⟩ [.d (.sint .i64), .c, .d (.list .u8), .d (.sint .i64), .d (.sint .i64)] fun v => .sub (F_codec_Scan_next_l0 n k (p0 v) (p1 v) (p2 v) (p3 v) (p4 v)) fun r => .ret (.ex 0, [(.val (.sint .i64) r)], [], 0)
theorem rd_codec_Scan_next_l0 (n k : Nat) : Rounds Try.prog (Go.Func.ntmps Try.f105) (bodyOf Try.f105 0) C_105_0 [S_codec_Scan_next_l0 n k] (S_codec_Scan_next_l0 n (k + 1)) :=
  rounds_go (tab := mkTab []) (cuts := mkCuts []) (S_codec_Scan_next_l0 n k) [] .nil (.none0 (by kernel_rfl)) rfl (fun v => by kernel_rfl)
theorem ok_codec_Scan_next_l0 (n k : Nat) : SoundC Try.prog (Go.Func.ntmps Try.f105) (.loop (bodyOf Try.f105 0)) (wr (bodyOf Try.f105 0)) (C_105_0 (S_codec_Scan_next_l0 n k)) :=
  loop_go (K := fun k => [S_codec_Scan_next_l0 n k]) (fun _ => rfl) (by kernel_rfl) ⟨z_go fun _ => by kernel_rfl, trivial⟩ (fun k => ⟨rd_codec_Scan_next_l0 n k, trivial⟩) k rfl
def F_codec_Scan_next (n : Nat) (x0 : List UInt8) : Tree ((Int) × ((Int) × Int)) :=
  .ite (decide ((ln x0) = (0 : Int)))
  (.ret ((0 : Int), (0 : Int), (3 : Int)))
  (.get (getI x0 (0 : Int)) fun y1 =>
  .ite (decide ((7 : Int) < (Nat.cast (UInt8.toNat y1) : Int)))
  (.ret ((0 : Int), (0 : Int), (5 : Int)))
  (.ite (decide ((ln x0) < (w64 ((1 : Int) + (Nat.cast (UInt8.toNat y1) : Int)))))
  (.ret ((0 : Int), (0 : Int), (3 : Int)))
  (.ite (decide ((0 : Int) < (Nat.cast (UInt8.toNat y1) : Int)))
  (.get (getI x0 (1 : Int)) fun y2 =>
  .ite (decide (y2 = (0 : UInt8)))
  (.ret ((0 : Int), (0 : Int), (5 : Int)))
  (.get (subI x0 (1 : Int) (w64 ((1 : Int) + (Nat.cast (UInt8.toNat y1) : Int)))) fun y3 =>
  .sub (F_codec_Scan_next_l0 n n (0 : Int) false y3 (ln y3) (0 : Int)) fun y4 =>
  .ite (decide ((9007199254740992 : Int) < y4))
  (.ret ((0 : Int), (0 : Int), (6 : Int)))
  (.ret (y4, (w64 ((1 : Int) + (Nat.cast (UInt8.toNat y1) : Int))), (0 : Int)))))
  (.get (subI x0 (1 : Int) (w64 ((1 : Int) + (Nat.cast (UInt8.toNat y1) : Int)))) fun y5 =>
  .sub (F_codec_Scan_next_l0 n n (0 : Int) false y5 (ln y5) (0 : Int)) fun y6 =>
  .ite (decide ((9007199254740992 : Int) < y6))
  (.ret ((0 : Int), (0 : Int), (6 : Int)))
  (.ret (y6, (w64 ((1 : Int) + (Nat.cast (UInt8.toNat y1) : Int))), (0 : Int)))))))
def S_codec_Scan_next (n : Nat) : Summ := mkS ⟨[(.agg (.pr (.ro false .u8 []) (.pr (.val (.sint .i64) (0 : Int)) .un)))], [], 0⟩ [.c, .d (.list .u8), .d (.sint .i64)] fun v => .sub (F_codec_Scan_next n (p1 v)) fun r => .ret ((.tup (.pr (.val (.sint .i64) r.1) (.pr (.val (.sint .i64) r.2.1) (.pr (.val (.sint .i64) r.2.2) .un)))), [], 0)
theorem ok_codec_Scan_next (n : Nat) : SoundF Try.prog 105 (S_codec_Scan_next n) :=
  fn_go true (c := codeOf Try.f105) (tab := mkTab []) (cuts := mkCuts [(0, C_105_0 (S_codec_Scan_next_l0 n n))]) Try.func105 (by kernel_rfl) .nil (CutsOK.list (l := [(0, .lp (bodyOf Try.f105 0))]) (by kernel_rfl) (LoopsOK.all ⟨.inr ⟨_, rfl, ok_codec_Scan_next_l0 n n⟩, trivial⟩)) (fun v => by kernel_rfl)
def F_codec_Scan_Fail (n : Nat) (x0 : Int) (x1 : Int) : Tree Int :=
  .ite (decide (x0 = (0 : Int)))
  (.ret x1)
  (.ret x0)
def S_codec_Scan_Fail (n : Nat) : Summ := mkS ⟨[(.agg (.pr (.ro false .u8 []) (.pr (.val (.sint .i64) (0 : Int)) .un))), (.val (.sint .i64) (0 : Int))], [], 0⟩ [.c, .d (.list .u8), .d (.sint .i64), .d (.sint .i64)] fun v => .sub (F_codec_Scan_Fail n (p2 v) (p3 v)) fun r => .ret ((.agg (.pr (.ro (p0 v) .u8 (p1 v)) (.pr (.val (.sint .i64) r) .un))), [], 0)
theorem ok_codec_Scan_Fail (n : Nat) : SoundF Try.prog 106 (S_codec_Scan_Fail n) :=
  fn_go true (c := codeOf Try.f106) (tab := mkTab []) (cuts := mkCuts []) Try.func106 (by kernel_rfl) .nil (.none0 (by kernel_rfl)) (fun v => by kernel_rfl)
def F_codec_Scan_Number (n : Nat) (x0 : Bool) (x1 : List UInt8) (x2 : Int) (x3 : Int) (x4 : Int) : Tree ((Int) × ((Bool) × ((List UInt8) × Int))) :=
  .ite (!(decide (x2 = (0 : Int))))
  (.ret ((0 : Int), x0, x1, x2))
  (.sub (F_codec_Scan_next n x1) fun y5 =>
  .ite ((decide (y5.2.2 = (0 : Int))) && ((decide (y5.1 < x3)) || (decide (x4 < y5.1))))
  (.ite true
  (.sub (F_codec_Scan_Fail n x2 (6 : Int)) fun y6 =>
  .ret ((0 : Int), x0, x1, y6))
  (.get (subI x1 y5.2.1 (ln x1)) fun y7 =>
  .ret (y5.1, false, y7, (0 : Int))))
  (.ite (!(decide (y5.2.2 = (0 : Int))))
  (.sub (F_codec_Scan_Fail n x2 y5.2.2) fun y8 =>
  .ret ((0 : Int), x0, x1, y8))
  (.get (subI x1 y5.2.1 (ln x1)) fun y9 =>
  .ret (y5.1, false, y9, (0 : Int)))))
def S_codec_Scan_Number (n : Nat) : Summ := mkS ⟨[(.agg (.pr (.ro false .u8 []) (.pr (.val (.sint .i64) (0 : Int)) .un))), (.val (.sint .i64) (0 : Int)), (.val (.sint .i64) (0 : Int))], [], 0⟩ [.c, .d (.list .u8), .d (.sint .i64), .d (.sint .i64), .d (.sint .i64)] fun v => .sub (F_codec_Scan_Number n (p0 v) (p1 v) (p2 v) (p3 v) (p4 v)) fun r => .ret ((.tup (.pr (.val (.sint .i64) r.1) (.pr (.agg (.pr (.ro r.2.1 .u8 r.2.2.1) (.pr (.val (.sint .i64) r.2.2.2) .un))) .un))), [], 0)
theorem ok_codec_Scan_Number (n : Nat) : SoundF Try.prog 70 (S_codec_Scan_Number n) :=
  fn_go true (c := codeOf Try.f70) (tab := mkTab [(105, ⟨S_codec_Scan_next n, [], [], false⟩), (106, ⟨S_codec_Scan_Fail n, [], [], false⟩)]) (cuts := mkCuts []) Try.func70 (by kernel_rfl) (.cons (ok_codec_Scan_next n) ⟨_, Try.func105, by kernel_rfl⟩ (.cons (ok_codec_Scan_Fail n) ⟨_, Try.func106, by kernel_rfl⟩ .nil)) (.none0 (by kernel_rfl)) (fun v => by kernel_rfl)
def C_21_0 : CutF → Cut := fun κ => ⟨[4, 5, 43, 44], fun e => match e with | .ex i => bif Nat.beq i 0 then [] else [] | .rt => [] | .nm => [] | .go i => [], κ⟩
def F_codec_Scan_Fixed (n : Nat) (x0 : List UInt8) (x1 : Int) (x2 : Int) : Tree (Int ⊕ ((List UInt8) × (List UInt8))) :=
  .ite ((!(decide (x1 = (0 : Int)))) || (decide (x2 < (1 : Int))))
  (.ret (.inl x1))
  (.ite (decide ((ln x0) < x2))
  (.sub (F_codec_Scan_Fail n x1 (3 : Int)) fun y3 =>
  .ret (.inl y3))
  (.get (subI x0 (0 : Int) x2) fun y4 =>
  .get (appI 140737488355328 ([] : List UInt8) y4) fun y5 =>
  .get (subI x0 x2 (ln x0)) fun y6 =>
  .ret (.inr (y5, y6))))
def S_codec_Scan_Fixed (n : Nat) : Summ := mkS ⟨[(.agg (.pr (.ro false .u8 []) (.pr (.val (.sint .i64) (0 : Int)) .un))), (.val (.sint .i64) (0 : Int))], [], 0⟩ [.c, .d (.list .u8), .d (.sint .i64), .d (.sint .i64)] fun v => .sub (F_codec_Scan_Fixed n (p1 v) (p2 v) (p3 v)) fun r => .alt r (fun r => .ret ((.tup (.pr (.snil none) (.pr (.agg (.pr (.ro (p0 v) .u8 (p1 v)) (.pr (.val (.sint .i64) r) .un))) .un))), [], 0)) (fun r => .ret ((.tup (.pr (.ro false .u8 r.1) (.pr (.agg (.pr (.ro false .u8 r.2) (.pr (.val (.sint .i64) (0 : Int)) .un))) .un))), [], 0))
theorem ok_codec_Scan_Fixed (n : Nat) : SoundF Try.prog 107 (S_codec_Scan_Fixed n) :=
  fn_go true (c := codeOf Try.f107) (tab := mkTab [(106, ⟨S_codec_Scan_Fail n, [], [], false⟩)]) (cuts := mkCuts []) Try.func107 (by kernel_rfl) (.cons (ok_codec_Scan_Fail n) ⟨_, Try.func106, by kernel_rfl⟩ .nil) (.none0 (by kernel_rfl)) (fun v => by kernel_rfl)
def F_codec_Scan_Text (n : Nat) (x0 : Bool) (x1 : List UInt8) (x2 : Int) (x3 : Int) : Tree (((Bool) × ((List UInt8) × Int)) ⊕ ((List UInt8) × (List UInt8))) :=
  .sub (F_codec_Scan_Number n x0 x1 x2 (0 : Int) (9007199254740992 : Int)) fun y4 =>
  .ite (!(decide (y4.2.2.2 = (0 : Int))))
  (.ret (.inl (y4.2.1, y4.2.2.1, y4.2.2.2)))
  (.ite (decide ((maxI x3 (0 : Int)) < y4.1))
  (.sub (F_codec_Scan_Fail n x2 (2 : Int)) fun y5 =>
  .ret (.inl (x0, x1, y5)))
  (.ite (decide ((ln y4.2.2.1) < y4.1))
  (.sub (F_codec_Scan_Fail n x2 (3 : Int)) fun y6 =>
  .ret (.inl (x0, x1, y6)))
  (.sub (F_codec_Scan_Fixed n y4.2.2.1 y4.2.2.2 y4.1) fun y7 =>
  .alt y7 (fun y8 =>
  .ret (.inl (y4.2.1, y4.2.2.1, y8)))
  fun y9 =>
  .ret (.inr (y9.1, y9.2)))))
def S_codec_Scan_Text (n : Nat) : Summ := mkS ⟨[(.agg (.pr (.ro false .u8 []) (.pr (.val (.sint .i64) (0 : Int)) .un))), (.val (.sint .i64) (0 : Int))], [], 0⟩ [.c, .d (.list .u8), .d (.sint .i64), .d (.sint .i64)] fun v => .sub (F_codec_Scan_Text n (p0 v) (p1 v) (p2 v) (p3 v)) fun r => .alt r (fun r => .ret ((.tup (.pr (.snil none) (.pr (.agg (.pr (.ro r.1 .u8 r.2.1) (.pr (.val (.sint .i64) r.2.2) .un))) .un))), [], 0)) (fun r => .ret ((.tup (.pr (.ro false .u8 r.1) (.pr (.agg (.pr (.ro false .u8 r.2) (.pr (.val (.sint .i64) (0 : Int)) .un))) .un))), [], 0))
theorem ok_codec_Scan_Text (n : Nat) : SoundF Try.prog 71 (S_codec_Scan_Text n) :=
  fn_go true (c := codeOf Try.f71) (tab := mkTab [(70, ⟨S_codec_Scan_Number n, [], [], false⟩), (106, ⟨S_codec_Scan_Fail n, [], [], false⟩), (107, ⟨S_codec_Scan_Fixed n, [], [], false⟩)]) (cuts := mkCuts []) Try.func71 (by kernel_rfl) (.cons (ok_codec_Scan_Number n) ⟨_, Try.func70, by kernel_rfl⟩ (.cons (ok_codec_Scan_Fail n) ⟨_, Try.func106, by kernel_rfl⟩ (.cons (ok_codec_Scan_Fixed n) ⟨_, Try.func107, by kernel_rfl⟩ .nil))) (.none0 (by kernel_rfl)) (fun v => by kernel_rfl)
def F_codec_Scan_ID (n : Nat) (x0 : Bool) (x1 : List UInt8) (x2 : Int) : Tree ((List UInt8) × ((Bool) × ((List UInt8) × Int))) :=
  .sub (F_codec_Scan_Fixed n x1 x2 (32 : Int)) fun y3 =>
  .alt y3 (fun y4 =>
  .ite true
  (.ret ((zs 32), x0, x1, y4))
  (.fail))
  fun y5 =>
  .ite (!(decide ((ln y5.1) = (32 : Int))))
  (.ret ((zs 32), false, y5.2, (0 : Int)))
  (.get (takeI 32 y5.1) fun y6 =>
  .ret (y6, false, y5.2, (0 : Int)))
def S_codec_Scan_ID (n : Nat) : Summ := mkS ⟨[(.agg (.pr (.ro false .u8 []) (.pr (.val (.sint .i64) (0 : Int)) .un)))], [], 0⟩ [.c, .d (.list .u8), .d (.sint .i64)] fun v => .sub (F_codec_Scan_ID n (p0 v) (p1 v) (p2 v)) fun r => .ret ((.tup (.pr (.val (.arr 32 .u8) r.1) (.pr (.agg (.pr (.ro r.2.1 .u8 r.2.2.1) (.pr (.val (.sint .i64) r.2.2.2) .un))) .un))), [], 0)
theorem ok_codec_Scan_ID (n : Nat) : SoundF Try.prog 72 (S_codec_Scan_ID n) :=
  fn_go true (c := codeOf Try.f72) (tab := mkTab [(107, ⟨S_codec_Scan_Fixed n, [], [], false⟩)]) (cuts := mkCuts []) Try.func72 (by kernel_rfl) (.cons (ok_codec_Scan_Fixed n) ⟨_, Try.func107, by kernel_rfl⟩ .nil) (.none0 (by kernel_rfl)) (fun v => by kernel_rfl)
def F_manifest_Get_l0 (n : Nat) : Nat → (Int) → (Int) → (Int) → (Int) → (Int) → (Int) → (List (List UInt8 × List UInt8)) → (List (Int × List UInt8)) → (Bool) → (List UInt8) → (Int) → Tree ((List (List UInt8 × List UInt8)) × ((Bool) × ((List UInt8) × Int)))
 | 0 => fun  x0 x1 x2 x3 x4 x5 x6 x7 x8 x9 x10 => .fail
 | k + 1 => fun x0 x1 x2 x3 x4 x5 x6 x7 x8 x9 x10 =>
  .ite (decide (x1 < x0))
  (.sub (F_codec_Scan_Text n x8 x9 x10 (32 : Int)) fun y11 =>
  .alt y11 (fun y12 =>
  .sub (F_codec_Scan_ID n y12.1 y12.2.1 y12.2.2) fun y13 =>
  .get (appI 2932031007402 x6 (List.set ([(([] : List UInt8), (zs 32))] : List ((List UInt8) × (List UInt8))) 0 (([] : List UInt8), y13.1))) fun y14 =>
  .sub (F_manifest_Get_l0 n k x0 (w64 (x1 + (1 : Int))) x2 x3 x4 x5 y14 x7 y13.2.1 y13.2.2.1 y13.2.2.2) fun y15 =>
  .ret (y15.1, y15.2.1, y15.2.2.1, y15.2.2.2))
  fun y16 =>
  .sub (F_codec_Scan_ID n false y16.2 (0 : Int)) fun y17 =>
  .get (appI 2932031007402 x6 (List.set ([(([] : List UInt8), (zs 32))] : List ((List UInt8) × (List UInt8))) 0 (y16.1, y17.1))) fun y18 =>
  .sub (F_manifest_Get_l0 n k x0 (w64 (x1 + (1 : Int))) x2 x3 x4 x5 y18 x7 y17.2.1 y17.2.2.1 y17.2.2.2) fun y19 =>
  .ret (y19.1, y19.2.1, y19.2.2.1, y19.2.2.2))
  (.ret (x6, x8, x9, x10))
def S_manifest_Get_l0 (n k : Nat) : CutF := mkS ⟨[(.ptr 0 0), (.ptr 6 0), (.val (.sint .i64) (0 : Int)), (.val (.sint .i64) (0 : Int))], [⟨0, 1, .box (.agg (.pr (.val (.sint .i64) (0 : Int)) (.pr (.val (.sint .i64) (0 : Int)) (.pr (.val (.sint .i64) (0 : Int)) (.pr (.val (.sint .i64) (0 : Int)) (.pr (.whole 2 33) (.pr (.whole 4 33) .un)))))))⟩, ⟨2, 3, .row T1 []⟩, ⟨4, 5, .row T2 []⟩, ⟨6, 7, .box (.agg (.pr (.ro false .u8 []) (.pr (.val (.sint .i64) (0 : Int)) .un)))⟩], 8⟩ [.d (.sint .i64), .d (.sint .i64), .d (.sint .i64), .d (.sint .i64), .d (.sint .i64), .d (.sint .i64), .d T3, .d T4, .c, .d (.list .u8), .d (.sint .i64)] fun v => .sub (F_manifest_Get_l0 n k (p0 v) (p1 v) (p2 v) (p3 v) (p4 v) (p5 v) (p6 v) (p7 v) (p8 v) (p9 v) (p10 v)) fun r => .ret (.ex 0, [], [⟨0, 9, .box (.agg (.pr (.val (.sint .i64) (p2 v)) (.pr (.val (.sint .i64) (p3 v)) (.pr (.val (.sint .i64) (p4 v)) (.pr (.val (.sint .i64) (p5 v)) (.pr (.whole 10 33) (.pr (.whole 12 33) .un)))))))⟩, ⟨10, 11, .row T1 r.1⟩, ⟨12, 13, .row T2 (p7 v)⟩, ⟨6, 15, .box (.agg (.pr (.ro r.2.1 .u8 r.2.2.1) (.pr (.val (.sint .i64) r.2.2.2) .un)))⟩], 16)
theorem rd_manifest_Get_l0 (n k : Nat) : Rounds Try.prog (Go.Func.ntmps Try.f21) (bodyOf Try.f21 0) C_21_0 [S_manifest_Get_l0 n k] (S_manifest_Get_l0 n (k + 1)) :=
  rounds_go (tab := mkTab [(71, ⟨S_codec_Scan_Text n, [], [], false⟩), (72, ⟨S_codec_Scan_ID n, [], [], false⟩)]) (cuts := mkCuts []) (S_manifest_Get_l0 n k) [] (.cons (ok_codec_Scan_Text n) ⟨_, Try.func71, by kernel_rfl⟩ (.cons (ok_codec_Scan_ID n) ⟨_, Try.func72, by kernel_rfl⟩ .nil)) (.none0 (by kernel_rfl)) rfl (fun v => by kernel_rfl)
theorem ok_manifest_Get_l0 (n k : Nat) : SoundC Try.prog (Go.Func.ntmps Try.f21) (.loop (bodyOf Try.f21 0)) (wr (bodyOf Try.f21 0)) (C_21_0 (S_manifest_Get_l0 n k)) :=
  loop_go (K := fun k => [S_manifest_Get_l0 n k]) (fun _ => rfl) (by kernel_rfl) ⟨z_go fun _ => by kernel_rfl, trivial⟩ (fun k => ⟨rd_manifest_Get_l0 n k, trivial⟩) k rfl
def C_21_2 : CutF → Cut := fun κ => ⟨[4, 5, 72, 73], fun e => match e with | .ex i => bif Nat.beq i 2 then [] else [] | .rt => [] | .nm => [] | .go i => [], κ⟩
def F_manifest_Get_l2 (n : Nat) : Nat → (Int) → (Int) → (Int) → (Int) → (Int) → (Int) → (List (List UInt8 × List UInt8)) → (List (Int × List UInt8)) → (Bool) → (List UInt8) → (Int) → Tree ((List (Int × List UInt8)) × ((Bool) × ((List UInt8) × Int)))
 | 0 => fun  x0 x1 x2 x3 x4 x5 x6 x7 x8 x9 x10 => .fail
 | k + 1 => fun x0 x1 x2 x3 x4 x5 x6 x7 x8 x9 x10 =>
  .ite (decide (x1 < x0))
  (.sub (F_codec_Scan_Number n x8 x9 x10 (1 : Int) (1099511627776 : Int)) fun y11 =>
  .sub (F_codec_Scan_ID n y11.2.1 y11.2.2.1 y11.2.2.2) fun y12 =>
  .get (appI 3518437208883 x7 (List.set ([((0 : Int), (zs 32))] : List (Int × (List UInt8))) 0 (y11.1, y12.1))) fun y13 =>
  .sub (F_manifest_Get_l2 n k x0 (w64 (x1 + (1 : Int))) x2 x3 x4 x5 x6 y13 y12.2.1 y12.2.2.1 y12.2.2.2) fun y14 =>
  .ret (y14.1, y14.2.1, y14.2.2.1, y14.2.2.2))
  (.ret (x7, x8, x9, x10))
def S_manifest_Get_l2 (n k : Nat) : CutF := mkS ⟨[(.ptr 0 0), (.ptr 6 0), (.val (.sint .i64) (0 : Int)), (.val (.sint .i64) (0 : Int))], [⟨0, 1, .box (.agg (.pr (.val (.sint .i64) (0 : Int)) (.pr (.val (.sint .i64) (0 : Int)) (.pr (.val (.sint .i64) (0 : Int)) (.pr (.val (.sint .i64) (0 : Int)) (.pr (.whole 2 33) (.pr (.whole 4 33) .un)))))))⟩, ⟨2, 3, .row T1 []⟩, ⟨4, 5, .row T2 []⟩, ⟨6, 7, .box (.agg (.pr (.ro false .u8 []) (.pr (.val (.sint .i64) (0 : Int)) .un)))⟩], 8⟩ [.d (.sint .i64), .d (.sint .i64), .d (.sint .i64), .d (.sint .i64), .d (.sint .i64), .d (.sint .i64), .d T3, .d T4, .c, .d (.list .u8), .d (.sint .i64)] fun v => .sub (F_manifest_Get_l2 n k (p0 v) (p1 v) (p2 v) (p3 v) (p4 v) (p5 v) (p6 v) (p7 v) (p8 v) (p9 v) (p10 v)) fun r => .ret (.ex 2, [], [⟨0, 9, .box (.agg (.pr (.val (.sint .i64) (p2 v)) (.pr (.val (.sint .i64) (p3 v)) (.pr (.val (.sint .i64) (p4 v)) (.pr (.val (.sint .i64) (p5 v)) (.pr (.whole 10 33) (.pr (.whole 12 33) .un)))))))⟩, ⟨10, 11, .row T1 (p6 v)⟩, ⟨12, 13, .row T2 r.1⟩, ⟨6, 15, .box (.agg (.pr (.ro r.2.1 .u8 r.2.2.1) (.pr (.val (.sint .i64) r.2.2.2) .un)))⟩], 16)
theorem rd_manifest_Get_l2 (n k : Nat) : Rounds Try.prog (Go.Func.ntmps Try.f21) (bodyOf Try.f21 2) C_21_2 [S_manifest_Get_l2 n k] (S_manifest_Get_l2 n (k + 1)) :=
  rounds_go (tab := mkTab [(70, ⟨S_codec_Scan_Number n, [], [], false⟩), (72, ⟨S_codec_Scan_ID n, [], [], false⟩)]) (cuts := mkCuts []) (S_manifest_Get_l2 n k) [] (.cons (ok_codec_Scan_Number n) ⟨_, Try.func70, by kernel_rfl⟩ (.cons (ok_codec_Scan_ID n) ⟨_, Try.func72, by kernel_rfl⟩ .nil)) (.none0 (by kernel_rfl)) rfl (fun v => by kernel_rfl)
theorem ok_manifest_Get_l2 (n k : Nat) : SoundC Try.prog (Go.Func.ntmps Try.f21) (.loop (bodyOf Try.f21 2)) (wr (bodyOf Try.f21 2)) (C_21_2 (S_manifest_Get_l2 n k)) :=
  loop_go (K := fun k => [S_manifest_Get_l2 n k]) (fun _ => rfl) (by kernel_rfl) ⟨z_go fun _ => by kernel_rfl, trivial⟩ (fun k => ⟨rd_manifest_Get_l2 n k, trivial⟩) k rfl
def F_codec_Scan_End (n : Nat) (x0 : List UInt8) (x1 : Int) : Tree Int :=
  .ite ((decide (x1 = (0 : Int))) && (decide ((0 : Int) < (ln x0))))
  (.ret (4 : Int))
  (.ret x1)
def S_codec_Scan_End (n : Nat) : Summ := mkS ⟨[(.agg (.pr (.ro false .u8 []) (.pr (.val (.sint .i64) (0 : Int)) .un)))], [], 0⟩ [.c, .d (.list .u8), .d (.sint .i64)] fun v => .sub (F_codec_Scan_End n (p1 v) (p2 v)) fun r => .ret ((.val (.sint .i64) r), [], 0)
theorem ok_codec_Scan_End (n : Nat) : SoundF Try.prog 73 (S_codec_Scan_End n) :=
  fn_go true (c := codeOf Try.f73) (tab := mkTab []) (cuts := mkCuts []) Try.func73 (by kernel_rfl) .nil (.none0 (by kernel_rfl)) (fun v => by kernel_rfl)
def F_manifest_Right_l0_1 (n : Nat) : Nat → (Bool) → (List (List UInt8 × List UInt8)) → (Int) → (Int) → (Int) → (Int) → (Int) → (Int) → (Bool) → (List (List UInt8 × List UInt8)) → (Bool) → (List (Int × List UInt8)) → Tree (Unit ⊕ Unit)
 | 0 => fun  x0 x1 x2 x3 x4 x5 x6 x7 x8 x9 x10 x11 => .fail
 | k + 1 => fun x0 x1 x2 x3 x4 x5 x6 x7 x8 x9 x10 x11 =>
  .ite (decide (x3 < x2))
  (.get (getI x1 x3) fun y12 =>
  .get (Tree.run (F_store_Named n y12.1)) fun y13 =>
  .ite (!y13)
  (.ret (.inl ()))
  (.ite (decide ((0 : Int) < x3))
  (.get (getI x9 (w64 (x3 - (1 : Int)))) fun y14 =>
  .ite (!(strLt y14.1 y12.1))
  (.ret (.inl ()))
  (.sub (F_manifest_Right_l0_1 n k x0 x1 x2 (w64 (x3 + (1 : Int))) x4 x5 x6 x7 x8 x9 x10 x11) fun y15 =>
  .alt y15 (fun y16 =>
  .ret (.inl ()))
  fun y17 =>
  .ret (.inr ())))
  (.sub (F_manifest_Right_l0_1 n k x0 x1 x2 (w64 (x3 + (1 : Int))) x4 x5 x6 x7 x8 x9 x10 x11) fun y18 =>
  .alt y18 (fun y19 =>
  .ret (.inl ()))
  fun y20 =>
  .ret (.inr ()))))
  (.ret (.inr ()))
def S_manifest_Right_l0_1 (n k : Nat) : CutF := mkS ⟨[(.ptr 0 0), (.ro false T1 []), (.val (.sint .i64) (0 : Int)), (.val (.sint .i64) (0 : Int))], [⟨0, 1, .box (.agg (.pr (.val (.sint .i64) (0 : Int)) (.pr (.val (.sint .i64) (0 : Int)) (.pr (.val (.sint .i64) (0 : Int)) (.pr (.val (.sint .i64) (0 : Int)) (.pr (.ro false T1 []) (.pr (.ro false T2 []) .un)))))))⟩], 2⟩ [.c, .d T3, .d (.sint .i64), .d (.sint .i64), .d (.sint .i64), .d (.sint .i64), .d (.sint .i64), .d (.sint .i64), .c, .d T3, .c, .d T4] fun v => .sub (F_manifest_Right_l0_1 n k (p0 v) (p1 v) (p2 v) (p3 v) (p4 v) (p5 v) (p6 v) (p7 v) (p8 v) (p9 v) (p10 v) (p11 v)) fun r => .alt r (fun r => .ret (.rt, [(.val .bool false)], [⟨0, 3, .box (.agg (.pr (.val (.sint .i64) (p4 v)) (.pr (.val (.sint .i64) (p5 v)) (.pr (.val (.sint .i64) (p6 v)) (.pr (.val (.sint .i64) (p7 v)) (.pr (.ro (p8 v) T1 (p9 v)) (.pr (.ro (p10 v) T2 (p11 v)) .un)))))))⟩], 4)) (fun r => .ret (.ex 0, [], [⟨0, 3, .box (.agg (.pr (.val (.sint .i64) (p4 v)) (.pr (.val (.sint .i64) (p5 v)) (.pr (.val (.sint .i64) (p6 v)) (.pr (.val (.sint .i64) (p7 v)) (.pr (.ro (p8 v) T1 (p9 v)) (.pr (.ro (p10 v) T2 (p11 v)) .un)))))))⟩], 4))
theorem rd_manifest_Right_l0_1 (n k : Nat) : Rounds Try.prog (Go.Func.ntmps Try.f23) (bodyOf Try.f23 0) C_23_0 [S_manifest_Right_l0_1 n k] (S_manifest_Right_l0_1 n (k + 1)) :=
  rounds_go (tab := mkTab [(15, ⟨S_store_Named n, [], [], false⟩)]) (cuts := mkCuts []) (S_manifest_Right_l0_1 n k) [] (.cons (ok_store_Named n) ⟨_, Try.func15, by kernel_rfl⟩ .nil) (.none0 (by kernel_rfl)) rfl (fun v => by kernel_rfl)
theorem ok_manifest_Right_l0_1 (n k : Nat) : SoundC Try.prog (Go.Func.ntmps Try.f23) (.loop (bodyOf Try.f23 0)) (wr (bodyOf Try.f23 0)) (C_23_0 (S_manifest_Right_l0_1 n k)) :=
  loop_go (K := fun k => [S_manifest_Right_l0_1 n k]) (fun _ => rfl) (by kernel_rfl) ⟨z_go fun _ => by kernel_rfl, trivial⟩ (fun k => ⟨rd_manifest_Right_l0_1 n k, trivial⟩) k rfl
def F_manifest_Right_l2_1 (n : Nat) : Nat → (Int) → (Bool) → (List (Int × List UInt8)) → (Int) → (Int) → (Int) → (Int) → (Int) → (Int) → (Bool) → (List (List UInt8 × List UInt8)) → (Bool) → (List (Int × List UInt8)) → Tree (Unit ⊕ Unit)
 | 0 => fun  x0 x1 x2 x3 x4 x5 x6 x7 x8 x9 x10 x11 x12 => .fail
 | k + 1 => fun x0 x1 x2 x3 x4 x5 x6 x7 x8 x9 x10 x11 x12 =>
  .ite (decide (x4 < x3))
  (.get (getI x2 x4) fun y13 =>
  .ite ((decide (y13.1 ≤ x0)) || (decide (x8 ≤ y13.1)))
  (.ret (.inl ()))
  (.sub (F_manifest_Right_l2_1 n k y13.1 x1 x2 x3 (w64 (x4 + (1 : Int))) x5 x6 x7 x8 x9 x10 x11 x12) fun y14 =>
  .alt y14 (fun y15 =>
  .ret (.inl ()))
  fun y16 =>
  .ret (.inr ())))
  (.ret (.inr ()))
def S_manifest_Right_l2_1 (n k : Nat) : CutF := mkS ⟨[(.ptr 0 0), (.val (.sint .i64) (0 : Int)), (.ro false T2 []), (.val (.sint .i64) (0 : Int)), (.val (.sint .i64) (0 : Int))], [⟨0, 1, .box (.agg (.pr (.val (.sint .i64) (0 : Int)) (.pr (.val (.sint .i64) (0 : Int)) (.pr (.val (.sint .i64) (0 : Int)) (.pr (.val (.sint .i64) (0 : Int)) (.pr (.ro false T1 []) (.pr (.ro false T2 []) .un)))))))⟩], 2⟩ [.d (.sint .i64), .c, .d T4, .d (.sint .i64), .d (.sint .i64), .d (.sint .i64), .d (.sint .i64), .d (.sint .i64), .d (.sint .i64), .c, .d T3, .c, .d T4] fun v => .sub (F_manifest_Right_l2_1 n k (p0 v) (p1 v) (p2 v) (p3 v) (p4 v) (p5 v) (p6 v) (p7 v) (p8 v) (p9 v) (p10 v) (p11 v) (p12 v)) fun r => .alt r (fun r => .ret (.rt, [(.val .bool false)], [⟨0, 3, .box (.agg (.pr (.val (.sint .i64) (p5 v)) (.pr (.val (.sint .i64) (p6 v)) (.pr (.val (.sint .i64) (p7 v)) (.pr (.val (.sint .i64) (p8 v)) (.pr (.ro (p9 v) T1 (p10 v)) (.pr (.ro (p11 v) T2 (p12 v)) .un)))))))⟩], 4)) (fun r => .ret (.ex 2, [], [⟨0, 3, .box (.agg (.pr (.val (.sint .i64) (p5 v)) (.pr (.val (.sint .i64) (p6 v)) (.pr (.val (.sint .i64) (p7 v)) (.pr (.val (.sint .i64) (p8 v)) (.pr (.ro (p9 v) T1 (p10 v)) (.pr (.ro (p11 v) T2 (p12 v)) .un)))))))⟩], 4))
theorem rd_manifest_Right_l2_1 (n k : Nat) : Rounds Try.prog (Go.Func.ntmps Try.f23) (bodyOf Try.f23 2) C_23_2 [S_manifest_Right_l2_1 n k] (S_manifest_Right_l2_1 n (k + 1)) :=
  rounds_go (tab := mkTab []) (cuts := mkCuts []) (S_manifest_Right_l2_1 n k) [] .nil (.none0 (by kernel_rfl)) rfl (fun v => by kernel_rfl)
theorem ok_manifest_Right_l2_1 (n k : Nat) : SoundC Try.prog (Go.Func.ntmps Try.f23) (.loop (bodyOf Try.f23 2)) (wr (bodyOf Try.f23 2)) (C_23_2 (S_manifest_Right_l2_1 n k)) :=
  loop_go (K := fun k => [S_manifest_Right_l2_1 n k]) (fun _ => rfl) (by kernel_rfl) ⟨z_go fun _ => by kernel_rfl, trivial⟩ (fun k => ⟨rd_manifest_Right_l2_1 n k, trivial⟩) k rfl
def F_manifest_Right_1 (n : Nat) (x0 : Int) (x1 : Int) (x2 : Int) (x3 : Int) (x4 : Bool) (x5 : List (List UInt8 × List UInt8)) (x6 : Bool) (x7 : List (Int × List UInt8)) : Tree Bool :=
  .sub (F_manifest_in n x0) fun y8 =>
  .ite (!y8)
  (.ret false)
  (.sub (F_manifest_in n x1) fun y9 =>
  .ite (!y9)
  (.ret false)
  (.sub (F_manifest_in n x3) fun y10 =>
  .ite ((!y10) || ((decide (x2 < (1 : Int))) || ((decide ((64 : Int) < x2)) || ((decide ((64 : Int) < (ln x5))) || (decide ((32 : Int) < (ln x7)))))))
  (.ret false)
  (.sub (F_manifest_Right_l0_1 n n x4 x5 (ln x5) (0 : Int) x0 x1 x2 x3 x4 x5 x6 x7) fun y11 =>
  .alt y11 (fun y12 =>
  .ret false)
  fun y13 =>
  .sub (F_manifest_Right_l2_1 n n (0 : Int) x6 x7 (ln x7) (0 : Int) x0 x1 x2 x3 x4 x5 x6 x7) fun y14 =>
  .alt y14 (fun y15 =>
  .ret false)
  fun y16 =>
  .ret true)))
def S_manifest_Right_1 (n : Nat) : Summ := mkS ⟨[(.agg (.pr (.val (.sint .i64) (0 : Int)) (.pr (.val (.sint .i64) (0 : Int)) (.pr (.val (.sint .i64) (0 : Int)) (.pr (.val (.sint .i64) (0 : Int)) (.pr (.ro false T1 []) (.pr (.ro false T2 []) .un)))))))], [], 0⟩ [.d (.sint .i64), .d (.sint .i64), .d (.sint .i64), .d (.sint .i64), .c, .d T3, .c, .d T4] fun v => .sub (F_manifest_Right_1 n (p0 v) (p1 v) (p2 v) (p3 v) (p4 v) (p5 v) (p6 v) (p7 v)) fun r => .ret ((.val .bool r), [], 0)
theorem ok_manifest_Right_1 (n : Nat) : SoundF Try.prog 23 (S_manifest_Right_1 n) :=
  fn_go false (c := codeOf Try.f23) (tab := mkTab [(78, ⟨S_manifest_in n, [], [], false⟩)]) (cuts := mkCuts [(0, C_23_0 (S_manifest_Right_l0_1 n n)), (2, C_23_2 (S_manifest_Right_l2_1 n n))]) Try.func23 (by kernel_rfl) (.cons (ok_manifest_in n) ⟨_, Try.func78, by kernel_rfl⟩ .nil) (CutsOK.list (l := [(0, .lp (bodyOf Try.f23 0)), (2, .lp (bodyOf Try.f23 2))]) (by kernel_rfl) (LoopsOK.all ⟨.inr ⟨_, rfl, ok_manifest_Right_l0_1 n n⟩, ⟨.inr ⟨_, rfl, ok_manifest_Right_l2_1 n n⟩, trivial⟩⟩)) (fun v => by kernel_rfl)
def F_manifest_Get (n : Nat) (x0 : List UInt8) : Tree (Int ⊕ ((Int) × ((Int) × ((Int) × ((Int) × ((List (List UInt8 × List UInt8)) × (List (Int × List UInt8)))))))) :=
  .sub (F_codec_From n x0) fun y1 =>
  .sub (F_codec_Scan_Number n false y1 (0 : Int) (1 : Int) (1099511627776 : Int)) fun y2 =>
  .sub (F_codec_Scan_Number n y2.2.1 y2.2.2.1 y2.2.2.2 (1 : Int) (1099511627776 : Int)) fun y3 =>
  .sub (F_codec_Scan_Number n y3.2.1 y3.2.2.1 y3.2.2.2 (1 : Int) (64 : Int)) fun y4 =>
  .sub (F_codec_Scan_Number n y4.2.1 y4.2.2.1 y4.2.2.2 (1 : Int) (1099511627776 : Int)) fun y5 =>
  .sub (F_codec_Scan_Number n y5.2.1 y5.2.2.1 y5.2.2.2 (0 : Int) (64 : Int)) fun y6 =>
  .sub (F_manifest_Get_l0 n n y6.1 (0 : Int) y2.1 y3.1 y4.1 y5.1 ([] : List ((List UInt8) × (List UInt8))) ([] : List (Int × (List UInt8))) y6.2.1 y6.2.2.1 y6.2.2.2) fun y7 =>
  .sub (F_codec_Scan_Number n y7.2.1 y7.2.2.1 y7.2.2.2 (0 : Int) (32 : Int)) fun y8 =>
  .sub (F_manifest_Get_l2 n n y8.1 (0 : Int) y2.1 y3.1 y4.1 y5.1 y7.1 ([] : List (Int × (List UInt8))) y8.2.1 y8.2.2.1 y8.2.2.2) fun y9 =>
  .sub (F_codec_Scan_End n y9.2.2.1 y9.2.2.2) fun y10 =>
  .ite (!(decide (y10 = (0 : Int))))
  (.ret (.inl y10))
  (.sub (F_manifest_Right_1 n y2.1 y3.1 y4.1 y5.1 false y7.1 false y9.1) fun y11 =>
  .ite (!y11)
  (.ret (.inl (5 : Int)))
  (.ret (.inr (y2.1, y3.1, y4.1, y5.1, y7.1, y9.1))))
def S_manifest_Get (n : Nat) : Summ := mkS ⟨[(.whole 0 1)], [⟨0, 1, .row .u8 []⟩], 2⟩ [.d (.list .u8)] fun v => .sub (F_manifest_Get n (p0 v)) fun r => .alt r (fun r => .ret ((.tup (.pr (.agg (.pr (.val (.sint .i64) (0 : Int)) (.pr (.val (.sint .i64) (0 : Int)) (.pr (.val (.sint .i64) (0 : Int)) (.pr (.val (.sint .i64) (0 : Int)) (.pr (.whole 2 33) (.pr (.whole 4 33) .un))))))) (.pr (.val (.sint .i64) r) .un))), [⟨2, 3, .row T1 ([] : List ((List UInt8) × (List UInt8)))⟩, ⟨4, 5, .row T2 ([] : List (Int × (List UInt8)))⟩, ⟨0, 7, .row .u8 (p0 v)⟩], 8)) (fun r => .ret ((.tup (.pr (.agg (.pr (.val (.sint .i64) r.1) (.pr (.val (.sint .i64) r.2.1) (.pr (.val (.sint .i64) r.2.2.1) (.pr (.val (.sint .i64) r.2.2.2.1) (.pr (.ro false T1 r.2.2.2.2.1) (.pr (.ro false T2 r.2.2.2.2.2) .un))))))) (.pr (.val (.sint .i64) (0 : Int)) .un))), [⟨0, 3, .row .u8 (p0 v)⟩], 4))
theorem ok_manifest_Get (n : Nat) : SoundF Try.prog 21 (S_manifest_Get n) :=
  fn_go false (c := codeOf Try.f21) (tab := mkTab [(69, ⟨S_codec_From n, [], [], false⟩), (70, ⟨S_codec_Scan_Number n, [], [], false⟩), (73, ⟨S_codec_Scan_End n, [], [], false⟩), (23, ⟨S_manifest_Right_1 n, [], [], true⟩)]) (cuts := mkCuts [(0, C_21_0 (S_manifest_Get_l0 n n)), (2, C_21_2 (S_manifest_Get_l2 n n))]) Try.func21 (by kernel_rfl) (.cons (ok_codec_From n) ⟨_, Try.func69, by kernel_rfl⟩ (.cons (ok_codec_Scan_Number n) ⟨_, Try.func70, by kernel_rfl⟩ (.cons (ok_codec_Scan_End n) ⟨_, Try.func73, by kernel_rfl⟩ (.cons (ok_manifest_Right_1 n) ⟨_, Try.func23, by kernel_rfl⟩ .nil)))) (CutsOK.list (l := [(0, .lp (bodyOf Try.f21 0)), (2, .lp (bodyOf Try.f21 2))]) (by kernel_rfl) (LoopsOK.all ⟨.inr ⟨_, rfl, ok_manifest_Get_l0 n n⟩, ⟨.inr ⟨_, rfl, ok_manifest_Get_l2 n n⟩, trivial⟩⟩)) (fun v => by kernel_rfl)
def F_r17_Scan_fail (n : Nat) : Tree Unit :=
  .ret ()
def S_r17_Scan_fail (n : Nat) : Summ := mkS ⟨[(.agg (.pr (.ro false .u8 []) (.pr (.val (.sint .i64) (0 : Int)) .un))), (.val (.sint .i64) (0 : Int))], [], 0⟩ [.c, .d (.list .u8), .d (.sint .i64), .d (.sint .i64)] fun v => .sub (F_r17_Scan_fail n) fun r => .ret ((.agg (.pr (.ro (p0 v) .u8 (p1 v)) (.pr (.val (.sint .i64) (p3 v)) .un))), [], 0)
theorem ok_r17_Scan_fail (n : Nat) : SoundF Try.prog 108 (S_r17_Scan_fail n) :=
  fn_go true (c := codeOf Try.f108) (tab := mkTab []) (cuts := mkCuts []) Try.func108 (by kernel_rfl) .nil (.none0 (by kernel_rfl)) (fun v => by kernel_rfl)
def C_74_0 : CutF → Cut := fun κ => ⟨[3, 8, 9, 10], fun e => match e with | .ex i => bif Nat.beq i 0 then [9] else [] | .rt => [] | .nm => [] | .go i => [], κ⟩
def F_r17_Scan_Number_l0 (n : Nat) : Nat → (Int) → (Int) → (Int) → (Bool) → (List UInt8) → (Int) → Tree Int
 | 0 => fun  x0 x1 x2 x3 x4 x5 => .fail
 | k + 1 => fun x0 x1 x2 x3 x4 x5 =>
  .ite (decide (x2 ≤ x0))
  (.get (getI x4 x2) fun y6 =>
  .sub (F_r17_Scan_Number_l0 n k x0 (w64 ((w64 (x1 * (256 : Int))) + (Nat.cast (UInt8.toNat y6) : Int))) (w64 (x2 + (1 : Int))) x3 x4 x5) fun y7 =>
  .ret y7)
  (.ret x1)
def S_r17_Scan_Number_l0 (n k : Nat) : CutF := mkS ⟨[(.ptr 0 0), (.val (.sint .i64) (0 : Int)), (.val (.sint .i64) (0 : Int)), (.val (.sint .i64) (0 : Int))], [⟨0, 1, .box (.agg (.pr (.ro false .u8 []) (.pr (.val (.sint .i64) (0 : Int)) .un)))⟩], 2⟩ [.d (.sint .i64), .d (.sint .i64), .d (.sint .i64), .c, .d (.list .u8), .d (.sint .i64)] fun v => .sub (F_r17_Scan_Number_l0 n k (p0 v) (p1 v) (p2 v) (p3 v) (p4 v) (p5 v)) fun r => .ret (.ex 0, [(.val (.sint .i64) r)], [⟨0, 3, .box (.agg (.pr (.ro (p3 v) .u8 (p4 v)) (.pr (.val (.sint .i64) (p5 v)) .un)))⟩], 4)
theorem rd_r17_Scan_Number_l0 (n k : Nat) : Rounds Try.prog (Go.Func.ntmps Try.f74) (bodyOf Try.f74 0) C_74_0 [S_r17_Scan_Number_l0 n k] (S_r17_Scan_Number_l0 n (k + 1)) :=
  rounds_go (tab := mkTab []) (cuts := mkCuts []) (S_r17_Scan_Number_l0 n k) [] .nil (.none0 (by kernel_rfl)) rfl (fun v => by kernel_rfl)
theorem ok_r17_Scan_Number_l0 (n k : Nat) : SoundC Try.prog (Go.Func.ntmps Try.f74) (.loop (bodyOf Try.f74 0)) (wr (bodyOf Try.f74 0)) (C_74_0 (S_r17_Scan_Number_l0 n k)) :=
  loop_go (K := fun k => [S_r17_Scan_Number_l0 n k]) (fun _ => rfl) (by kernel_rfl) ⟨z_go fun _ => by kernel_rfl, trivial⟩ (fun k => ⟨rd_r17_Scan_Number_l0 n k, trivial⟩) k rfl
def F_r17_Scan_Number (n : Nat) (x0 : Bool) (x1 : List UInt8) (x2 : Int) (x3 : Int) (x4 : Int) : Tree ((Int) × ((Bool) × ((List UInt8) × Int))) :=
  .ite (!(decide (x2 = (0 : Int))))
  (.ret ((0 : Int), x0, x1, x2))
  (.ite (decide ((ln x1) = (0 : Int)))
  (.sub (F_r17_Scan_fail n) fun y5 =>
  .ret ((0 : Int), x0, x1, (3 : Int)))
  (.get (getI x1 (0 : Int)) fun y6 =>
  .ite (decide ((7 : Int) < (Nat.cast (UInt8.toNat y6) : Int)))
  (.sub (F_r17_Scan_fail n) fun y7 =>
  .ret ((0 : Int), x0, x1, (5 : Int)))
  (.ite (decide ((w64 ((ln x1) - (1 : Int))) < (Nat.cast (UInt8.toNat y6) : Int)))
  (.sub (F_r17_Scan_fail n) fun y8 =>
  .ret ((0 : Int), x0, x1, (3 : Int)))
  (.sub (F_r17_Scan_Number_l0 n n (Nat.cast (UInt8.toNat y6) : Int) (0 : Int) (1 : Int) x0 x1 x2) fun y9 =>
  .ite (decide ((0 : Int) < (Nat.cast (UInt8.toNat y6) : Int)))
  (.get (getI x1 (1 : Int)) fun y10 =>
  .ite (decide (y10 = (0 : UInt8)))
  (.sub (F_r17_Scan_fail n) fun y11 =>
  .ret ((0 : Int), x0, x1, (5 : Int)))
  (.ite ((decide ((9007199254740992 : Int) < y9)) || ((decide (y9 < x3)) || (decide (x4 < y9))))
  (.sub (F_r17_Scan_fail n) fun y12 =>
  .ret ((0 : Int), x0, x1, (6 : Int)))
  (.get (subI x1 (w64 ((Nat.cast (UInt8.toNat y6) : Int) + (1 : Int))) (ln x1)) fun y13 =>
  .ret (y9, false, y13, (0 : Int)))))
  (.ite ((decide ((9007199254740992 : Int) < y9)) || ((decide (y9 < x3)) || (decide (x4 < y9))))
  (.sub (F_r17_Scan_fail n) fun y14 =>
  .ret ((0 : Int), x0, x1, (6 : Int)))
  (.get (subI x1 (w64 ((Nat.cast (UInt8.toNat y6) : Int) + (1 : Int))) (ln x1)) fun y15 =>
  .ret (y9, false, y15, (0 : Int))))))))
def S_r17_Scan_Number (n : Nat) : Summ := mkS ⟨[(.agg (.pr (.ro false .u8 []) (.pr (.val (.sint .i64) (0 : Int)) .un))), (.val (.sint .i64) (0 : Int)), (.val (.sint .i64) (0 : Int))], [], 0⟩ [.c, .d (.list .u8), .d (.sint .i64), .d (.sint .i64), .d (.sint .i64)] fun v => .sub (F_r17_Scan_Number n (p0 v) (p1 v) (p2 v) (p3 v) (p4 v)) fun r => .ret ((.tup (.pr (.val (.sint .i64) r.1) (.pr (.agg (.pr (.ro r.2.1 .u8 r.2.2.1) (.pr (.val (.sint .i64) r.2.2.2) .un))) .un))), [], 0)
theorem ok_r17_Scan_Number (n : Nat) : SoundF Try.prog 74 (S_r17_Scan_Number n) :=
  fn_go true (c := codeOf Try.f74) (tab := mkTab [(108, ⟨S_r17_Scan_fail n, [], [], true⟩)]) (cuts := mkCuts [(0, C_74_0 (S_r17_Scan_Number_l0 n n))]) Try.func74 (by kernel_rfl) (.cons (ok_r17_Scan_fail n) ⟨_, Try.func108, by kernel_rfl⟩ .nil) (CutsOK.list (l := [(0, .lp (bodyOf Try.f74 0))]) (by kernel_rfl) (LoopsOK.all ⟨.inr ⟨_, rfl, ok_r17_Scan_Number_l0 n n⟩, trivial⟩)) (fun v => by kernel_rfl)
def C_22_0 : CutF → Cut := fun κ => ⟨[4, 5, 6, 7], fun e => match e with | .ex i => bif Nat.beq i 0 then [] else [] | .rt => [] | .nm => [] | .go i => [], κ⟩
def F_r17_Scan_Fixed (n : Nat) (x0 : List UInt8) (x1 : Int) (x2 : Int) : Tree (Int ⊕ ((List UInt8) × (List UInt8))) :=
  .ite ((!(decide (x1 = (0 : Int)))) || (decide (x2 < (1 : Int))))
  (.ret (.inl x1))
  (.ite (decide ((ln x0) < x2))
  (.sub (F_r17_Scan_fail n) fun y3 =>
  .ret (.inl (3 : Int)))
  (.get (subI x0 (0 : Int) x2) fun y4 =>
  .get (subI x0 x2 (ln x0)) fun y5 =>
  .ret (.inr (y4, y5))))
def S_r17_Scan_Fixed (n : Nat) : Summ := mkS ⟨[(.agg (.pr (.ro false .u8 []) (.pr (.val (.sint .i64) (0 : Int)) .un))), (.val (.sint .i64) (0 : Int))], [], 0⟩ [.c, .d (.list .u8), .d (.sint .i64), .d (.sint .i64)] fun v => .sub (F_r17_Scan_Fixed n (p1 v) (p2 v) (p3 v)) fun r => .alt r (fun r => .ret ((.tup (.pr (.snil none) (.pr (.agg (.pr (.ro (p0 v) .u8 (p1 v)) (.pr (.val (.sint .i64) r) .un))) .un))), [], 0)) (fun r => .ret ((.tup (.pr (.ro false .u8 r.1) (.pr (.agg (.pr (.ro false .u8 r.2) (.pr (.val (.sint .i64) (0 : Int)) .un))) .un))), [], 0))
theorem ok_r17_Scan_Fixed (n : Nat) : SoundF Try.prog 109 (S_r17_Scan_Fixed n) :=
  fn_go true (c := codeOf Try.f109) (tab := mkTab [(108, ⟨S_r17_Scan_fail n, [], [], true⟩)]) (cuts := mkCuts []) Try.func109 (by kernel_rfl) (.cons (ok_r17_Scan_fail n) ⟨_, Try.func108, by kernel_rfl⟩ .nil) (.none0 (by kernel_rfl)) (fun v => by kernel_rfl)
def F_r17_Scan_Text (n : Nat) (x0 : Bool) (x1 : List UInt8) (x2 : Int) (x3 : Int) : Tree (((Bool) × ((List UInt8) × Int)) ⊕ ((List UInt8) × (List UInt8))) :=
  .sub (F_r17_Scan_Number n x0 x1 x2 (0 : Int) (9007199254740992 : Int)) fun y4 =>
  .ite (!(decide (y4.2.2.2 = (0 : Int))))
  (.ret (.inl (y4.2.1, y4.2.2.1, y4.2.2.2)))
  (.ite (decide ((maxI x3 (0 : Int)) < y4.1))
  (.sub (F_r17_Scan_fail n) fun y5 =>
  .ret (.inl (x0, x1, (2 : Int))))
  (.ite (decide ((ln y4.2.2.1) < y4.1))
  (.sub (F_r17_Scan_fail n) fun y6 =>
  .ret (.inl (x0, x1, (3 : Int))))
  (.sub (F_r17_Scan_Fixed n y4.2.2.1 y4.2.2.2 y4.1) fun y7 =>
  .alt y7 (fun y8 =>
  .ret (.inl (y4.2.1, y4.2.2.1, y8)))
  fun y9 =>
  .ret (.inr (y9.1, y9.2)))))
def S_r17_Scan_Text (n : Nat) : Summ := mkS ⟨[(.agg (.pr (.ro false .u8 []) (.pr (.val (.sint .i64) (0 : Int)) .un))), (.val (.sint .i64) (0 : Int))], [], 0⟩ [.c, .d (.list .u8), .d (.sint .i64), .d (.sint .i64)] fun v => .sub (F_r17_Scan_Text n (p0 v) (p1 v) (p2 v) (p3 v)) fun r => .alt r (fun r => .ret ((.tup (.pr (.snil none) (.pr (.agg (.pr (.ro r.1 .u8 r.2.1) (.pr (.val (.sint .i64) r.2.2) .un))) .un))), [], 0)) (fun r => .ret ((.tup (.pr (.ro false .u8 r.1) (.pr (.agg (.pr (.ro false .u8 r.2) (.pr (.val (.sint .i64) (0 : Int)) .un))) .un))), [], 0))
theorem ok_r17_Scan_Text (n : Nat) : SoundF Try.prog 75 (S_r17_Scan_Text n) :=
  fn_go true (c := codeOf Try.f75) (tab := mkTab [(74, ⟨S_r17_Scan_Number n, [], [], true⟩), (108, ⟨S_r17_Scan_fail n, [], [], true⟩), (109, ⟨S_r17_Scan_Fixed n, [], [], true⟩)]) (cuts := mkCuts []) Try.func75 (by kernel_rfl) (.cons (ok_r17_Scan_Number n) ⟨_, Try.func74, by kernel_rfl⟩ (.cons (ok_r17_Scan_fail n) ⟨_, Try.func108, by kernel_rfl⟩ (.cons (ok_r17_Scan_Fixed n) ⟨_, Try.func109, by kernel_rfl⟩ .nil))) (.none0 (by kernel_rfl)) (fun v => by kernel_rfl)
def C_76_0 : CutF → Cut := fun κ => ⟨[4, 6, 7], fun e => match e with | .ex i => bif Nat.beq i 0 then [] else [] | .rt => [] | .nm => [] | .go i => [], κ⟩
def F_r17_Scan_ID_l0 (n : Nat) : Nat → (Int) → (List UInt8) → Tree Unit
 | 0 => fun  x0 x1 => .fail
 | k + 1 => fun x0 x1 =>
  .ite (decide (x0 < (0 : Int)))
  (.fail)
  (.ret ())
def S_r17_Scan_ID_l0 (n k : Nat) : CutF := mkS ⟨[(.snil none), (.ptr 0 0), (.val (.sint .i64) (0 : Int))], [⟨0, 1, .box (.val (.arr 32 .u8) [])⟩], 2⟩ [.d (.sint .i64), .d (.arr 32 .u8)] fun v => .sub (F_r17_Scan_ID_l0 n k (p0 v) (p1 v)) fun r => .ret (.ex 0, [], [⟨0, 3, .box (.val (.arr 32 .u8) (p1 v))⟩], 4)
theorem rd_r17_Scan_ID_l0 (n k : Nat) : Rounds Try.prog (Go.Func.ntmps Try.f76) (bodyOf Try.f76 0) C_76_0 [S_r17_Scan_ID_l0 n k] (S_r17_Scan_ID_l0 n (k + 1)) :=
  rounds_go (tab := mkTab []) (cuts := mkCuts []) (S_r17_Scan_ID_l0 n k) [] .nil (.none0 (by kernel_rfl)) rfl (fun v => by kernel_rfl)
theorem ok_r17_Scan_ID_l0 (n k : Nat) : SoundC Try.prog (Go.Func.ntmps Try.f76) (.loop (bodyOf Try.f76 0)) (wr (bodyOf Try.f76 0)) (C_76_0 (S_r17_Scan_ID_l0 n k)) :=
  loop_go (K := fun k => [S_r17_Scan_ID_l0 n k]) (fun _ => rfl) (by kernel_rfl) ⟨z_go fun _ => by kernel_rfl, trivial⟩ (fun k => ⟨rd_r17_Scan_ID_l0 n k, trivial⟩) k rfl
def F_r17_Scan_ID_l0_1 (n : Nat) : Nat → (Bool) → (List UInt8) → (Int) → (List UInt8) → Tree (List UInt8)
 | 0 => fun  x0 x1 x2 x3 => .fail
 | k + 1 => fun x0 x1 x2 x3 =>
  .ite (decide (x2 < (ln x1)))
  (.get (getI x1 x2) fun y4 =>
  .get (inI 32 x2) fun y5 =>
  .get (gt x3 y5) fun y6 =>
  .sub (F_r17_Scan_ID_l0_1 n k x0 x1 (w64 (x2 + (1 : Int))) (List.set x3 y5 y4)) fun y7 =>
  .ret y7)
  (.ret x3)
def S_r17_Scan_ID_l0_1 (n k : Nat) : CutF := mkS ⟨[(.ro false .u8 []), (.ptr 0 0), (.val (.sint .i64) (0 : Int))], [⟨0, 1, .box (.val (.arr 32 .u8) [])⟩], 2⟩ [.c, .d (.list .u8), .d (.sint .i64), .d (.arr 32 .u8)] fun v => .sub (F_r17_Scan_ID_l0_1 n k (p0 v) (p1 v) (p2 v) (p3 v)) fun r => .ret (.ex 0, [], [⟨0, 3, .box (.val (.arr 32 .u8) r)⟩], 4)
theorem rd_r17_Scan_ID_l0_1 (n k : Nat) : Rounds Try.prog (Go.Func.ntmps Try.f76) (bodyOf Try.f76 0) C_76_0 [S_r17_Scan_ID_l0_1 n k] (S_r17_Scan_ID_l0_1 n (k + 1)) :=
  rounds_go (tab := mkTab []) (cuts := mkCuts []) (S_r17_Scan_ID_l0_1 n k) [] .nil (.none0 (by kernel_rfl)) rfl (fun v => by kernel_rfl)
theorem ok_r17_Scan_ID_l0_1 (n k : Nat) : SoundC Try.prog (Go.Func.ntmps Try.f76) (.loop (bodyOf Try.f76 0)) (wr (bodyOf Try.f76 0)) (C_76_0 (S_r17_Scan_ID_l0_1 n k)) :=
  loop_go (K := fun k => [S_r17_Scan_ID_l0_1 n k]) (fun _ => rfl) (by kernel_rfl) ⟨z_go fun _ => by kernel_rfl, trivial⟩ (fun k => ⟨rd_r17_Scan_ID_l0_1 n k, trivial⟩) k rfl
def F_r17_Scan_ID (n : Nat) (x0 : Bool) (x1 : List UInt8) (x2 : Int) : Tree ((List UInt8) × ((Bool) × ((List UInt8) × Int))) :=
  .sub (F_r17_Scan_Fixed n x1 x2 (32 : Int)) fun y3 =>
  .alt y3 (fun y4 =>
  .sub (F_r17_Scan_ID_l0 n n (0 : Int) (zs 32)) fun y5 =>
  .ret ((zs 32), x0, x1, y4))
  fun y6 =>
  .sub (F_r17_Scan_ID_l0_1 n n false y6.1 (0 : Int) (zs 32)) fun y7 =>
  .ret (y7, false, y6.2, (0 : Int))
def S_r17_Scan_ID (n : Nat) : Summ := mkS ⟨[(.agg (.pr (.ro false .u8 []) (.pr (.val (.sint .i64) (0 : Int)) .un)))], [], 0⟩ [.c, .d (.list .u8), .d (.sint .i64)] fun v => .sub (F_r17_Scan_ID n (p0 v) (p1 v) (p2 v)) fun r => .ret ((.tup (.pr (.val (.arr 32 .u8) r.1) (.pr (.agg (.pr (.ro r.2.1 .u8 r.2.2.1) (.pr (.val (.sint .i64) r.2.2.2) .un))) .un))), [], 0)
theorem ok_r17_Scan_ID (n : Nat) : SoundF Try.prog 76 (S_r17_Scan_ID n) :=
  fn_go true (c := codeOf Try.f76) (tab := mkTab [(109, ⟨S_r17_Scan_Fixed n, [], [], true⟩)]) (cuts := mkCuts [(0, C_76_0 (orC (S_r17_Scan_ID_l0 n n) (S_r17_Scan_ID_l0_1 n n)))]) Try.func76 (by kernel_rfl) (.cons (ok_r17_Scan_Fixed n) ⟨_, Try.func109, by kernel_rfl⟩ .nil) (CutsOK.list (l := [(0, .lp (bodyOf Try.f76 0))]) (by kernel_rfl) (LoopsOK.all ⟨.inr ⟨_, rfl, .or (ok_r17_Scan_ID_l0 n n) (ok_r17_Scan_ID_l0_1 n n)⟩, trivial⟩)) (fun v => by kernel_rfl)
def F_r23_Get_l0 (n : Nat) : Nat → (Int) → (Int) → (Int) → (Int) → (Int) → (Int) → (List (List UInt8 × List UInt8)) → (List (Int × List UInt8)) → (Bool) → (List UInt8) → (Int) → Tree ((List (List UInt8 × List UInt8)) × ((Bool) × ((List UInt8) × Int)))
 | 0 => fun  x0 x1 x2 x3 x4 x5 x6 x7 x8 x9 x10 => .fail
 | k + 1 => fun x0 x1 x2 x3 x4 x5 x6 x7 x8 x9 x10 =>
  .ite (decide (x1 < x0))
  (.sub (F_r17_Scan_Text n x8 x9 x10 (32 : Int)) fun y11 =>
  .alt y11 (fun y12 =>
  .sub (F_r17_Scan_ID n y12.1 y12.2.1 y12.2.2) fun y13 =>
  .get (appI 2932031007402 x6 (List.set ([(([] : List UInt8), (zs 32))] : List ((List UInt8) × (List UInt8))) 0 (([] : List UInt8), y13.1))) fun y14 =>
  .sub (F_r23_Get_l0 n k x0 (w64 (x1 + (1 : Int))) x2 x3 x4 x5 y14 x7 y13.2.1 y13.2.2.1 y13.2.2.2) fun y15 =>
  .ret (y15.1, y15.2.1, y15.2.2.1, y15.2.2.2))
  fun y16 =>
  .sub (F_r17_Scan_ID n false y16.2 (0 : Int)) fun y17 =>
  .get (appI 2932031007402 x6 (List.set ([(([] : List UInt8), (zs 32))] : List ((List UInt8) × (List UInt8))) 0 (y16.1, y17.1))) fun y18 =>
  .sub (F_r23_Get_l0 n k x0 (w64 (x1 + (1 : Int))) x2 x3 x4 x5 y18 x7 y17.2.1 y17.2.2.1 y17.2.2.2) fun y19 =>
  .ret (y19.1, y19.2.1, y19.2.2.1, y19.2.2.2))
  (.ret (x6, x8, x9, x10))
def S_r23_Get_l0 (n k : Nat) : CutF := mkS ⟨[(.ptr 0 0), (.ptr 6 0), (.val (.sint .i64) (0 : Int)), (.val (.sint .i64) (0 : Int))], [⟨0, 1, .box (.agg (.pr (.val (.sint .i64) (0 : Int)) (.pr (.val (.sint .i64) (0 : Int)) (.pr (.val (.sint .i64) (0 : Int)) (.pr (.val (.sint .i64) (0 : Int)) (.pr (.whole 2 33) (.pr (.whole 4 33) .un)))))))⟩, ⟨2, 3, .row T1 []⟩, ⟨4, 5, .row T2 []⟩, ⟨6, 7, .box (.agg (.pr (.ro false .u8 []) (.pr (.val (.sint .i64) (0 : Int)) .un)))⟩], 8⟩ [.d (.sint .i64), .d (.sint .i64), .d (.sint .i64), .d (.sint .i64), .d (.sint .i64), .d (.sint .i64), .d T3, .d T4, .c, .d (.list .u8), .d (.sint .i64)] fun v => .sub (F_r23_Get_l0 n k (p0 v) (p1 v) (p2 v) (p3 v) (p4 v) (p5 v) (p6 v) (p7 v) (p8 v) (p9 v) (p10 v)) fun r => .ret (.ex 0, [], [⟨0, 9, .box (.agg (.pr (.val (.sint .i64) (p2 v)) (.pr (.val (.sint .i64) (p3 v)) (.pr (.val (.sint .i64) (p4 v)) (.pr (.val (.sint .i64) (p5 v)) (.pr (.whole 10 33) (.pr (.whole 12 33) .un)))))))⟩, ⟨10, 11, .row T1 r.1⟩, ⟨12, 13, .row T2 (p7 v)⟩, ⟨6, 15, .box (.agg (.pr (.ro r.2.1 .u8 r.2.2.1) (.pr (.val (.sint .i64) r.2.2.2) .un)))⟩], 16)
theorem rd_r23_Get_l0 (n k : Nat) : Rounds Try.prog (Go.Func.ntmps Try.f22) (bodyOf Try.f22 0) C_22_0 [S_r23_Get_l0 n k] (S_r23_Get_l0 n (k + 1)) :=
  rounds_go (tab := mkTab [(75, ⟨S_r17_Scan_Text n, [], [], true⟩), (76, ⟨S_r17_Scan_ID n, [], [], true⟩)]) (cuts := mkCuts []) (S_r23_Get_l0 n k) [] (.cons (ok_r17_Scan_Text n) ⟨_, Try.func75, by kernel_rfl⟩ (.cons (ok_r17_Scan_ID n) ⟨_, Try.func76, by kernel_rfl⟩ .nil)) (.none0 (by kernel_rfl)) rfl (fun v => by kernel_rfl)
theorem ok_r23_Get_l0 (n k : Nat) : SoundC Try.prog (Go.Func.ntmps Try.f22) (.loop (bodyOf Try.f22 0)) (wr (bodyOf Try.f22 0)) (C_22_0 (S_r23_Get_l0 n k)) :=
  loop_go (K := fun k => [S_r23_Get_l0 n k]) (fun _ => rfl) (by kernel_rfl) ⟨z_go fun _ => by kernel_rfl, trivial⟩ (fun k => ⟨rd_r23_Get_l0 n k, trivial⟩) k rfl
def C_22_2 : CutF → Cut := fun κ => ⟨[4, 5, 6, 11], fun e => match e with | .ex i => bif Nat.beq i 2 then [] else [] | .rt => [] | .nm => [] | .go i => [], κ⟩
def F_r23_Get_l2 (n : Nat) : Nat → (Int) → (Int) → (Int) → (Int) → (Int) → (Int) → (List (List UInt8 × List UInt8)) → (List (Int × List UInt8)) → (Bool) → (List UInt8) → (Int) → Tree ((List (Int × List UInt8)) × ((Bool) × ((List UInt8) × Int)))
 | 0 => fun  x0 x1 x2 x3 x4 x5 x6 x7 x8 x9 x10 => .fail
 | k + 1 => fun x0 x1 x2 x3 x4 x5 x6 x7 x8 x9 x10 =>
  .ite (decide (x1 < x0))
  (.sub (F_r17_Scan_Number n x8 x9 x10 (1 : Int) (1099511627776 : Int)) fun y11 =>
  .sub (F_r17_Scan_ID n y11.2.1 y11.2.2.1 y11.2.2.2) fun y12 =>
  .get (appI 3518437208883 x7 (List.set ([((0 : Int), (zs 32))] : List (Int × (List UInt8))) 0 (y11.1, y12.1))) fun y13 =>
  .sub (F_r23_Get_l2 n k x0 (w64 (x1 + (1 : Int))) x2 x3 x4 x5 x6 y13 y12.2.1 y12.2.2.1 y12.2.2.2) fun y14 =>
  .ret (y14.1, y14.2.1, y14.2.2.1, y14.2.2.2))
  (.ret (x7, x8, x9, x10))
def S_r23_Get_l2 (n k : Nat) : CutF := mkS ⟨[(.ptr 0 0), (.ptr 6 0), (.val (.sint .i64) (0 : Int)), (.val (.sint .i64) (0 : Int))], [⟨0, 1, .box (.agg (.pr (.val (.sint .i64) (0 : Int)) (.pr (.val (.sint .i64) (0 : Int)) (.pr (.val (.sint .i64) (0 : Int)) (.pr (.val (.sint .i64) (0 : Int)) (.pr (.whole 2 33) (.pr (.whole 4 33) .un)))))))⟩, ⟨2, 3, .row T1 []⟩, ⟨4, 5, .row T2 []⟩, ⟨6, 7, .box (.agg (.pr (.ro false .u8 []) (.pr (.val (.sint .i64) (0 : Int)) .un)))⟩], 8⟩ [.d (.sint .i64), .d (.sint .i64), .d (.sint .i64), .d (.sint .i64), .d (.sint .i64), .d (.sint .i64), .d T3, .d T4, .c, .d (.list .u8), .d (.sint .i64)] fun v => .sub (F_r23_Get_l2 n k (p0 v) (p1 v) (p2 v) (p3 v) (p4 v) (p5 v) (p6 v) (p7 v) (p8 v) (p9 v) (p10 v)) fun r => .ret (.ex 2, [], [⟨0, 9, .box (.agg (.pr (.val (.sint .i64) (p2 v)) (.pr (.val (.sint .i64) (p3 v)) (.pr (.val (.sint .i64) (p4 v)) (.pr (.val (.sint .i64) (p5 v)) (.pr (.whole 10 33) (.pr (.whole 12 33) .un)))))))⟩, ⟨10, 11, .row T1 (p6 v)⟩, ⟨12, 13, .row T2 r.1⟩, ⟨6, 15, .box (.agg (.pr (.ro r.2.1 .u8 r.2.2.1) (.pr (.val (.sint .i64) r.2.2.2) .un)))⟩], 16)
theorem rd_r23_Get_l2 (n k : Nat) : Rounds Try.prog (Go.Func.ntmps Try.f22) (bodyOf Try.f22 2) C_22_2 [S_r23_Get_l2 n k] (S_r23_Get_l2 n (k + 1)) :=
  rounds_go (tab := mkTab [(74, ⟨S_r17_Scan_Number n, [], [], true⟩), (76, ⟨S_r17_Scan_ID n, [], [], true⟩)]) (cuts := mkCuts []) (S_r23_Get_l2 n k) [] (.cons (ok_r17_Scan_Number n) ⟨_, Try.func74, by kernel_rfl⟩ (.cons (ok_r17_Scan_ID n) ⟨_, Try.func76, by kernel_rfl⟩ .nil)) (.none0 (by kernel_rfl)) rfl (fun v => by kernel_rfl)
theorem ok_r23_Get_l2 (n k : Nat) : SoundC Try.prog (Go.Func.ntmps Try.f22) (.loop (bodyOf Try.f22 2)) (wr (bodyOf Try.f22 2)) (C_22_2 (S_r23_Get_l2 n k)) :=
  loop_go (K := fun k => [S_r23_Get_l2 n k]) (fun _ => rfl) (by kernel_rfl) ⟨z_go fun _ => by kernel_rfl, trivial⟩ (fun k => ⟨rd_r23_Get_l2 n k, trivial⟩) k rfl
def F_r17_Scan_End (n : Nat) (x0 : List UInt8) (x1 : Int) : Tree Int :=
  .ite ((decide (x1 = (0 : Int))) && (decide ((0 : Int) < (ln x0))))
  (.ret (4 : Int))
  (.ret x1)
def S_r17_Scan_End (n : Nat) : Summ := mkS ⟨[(.agg (.pr (.ro false .u8 []) (.pr (.val (.sint .i64) (0 : Int)) .un)))], [], 0⟩ [.c, .d (.list .u8), .d (.sint .i64)] fun v => .sub (F_r17_Scan_End n (p1 v) (p2 v)) fun r => .ret ((.val (.sint .i64) r), [], 0)
theorem ok_r17_Scan_End (n : Nat) : SoundF Try.prog 77 (S_r17_Scan_End n) :=
  fn_go true (c := codeOf Try.f77) (tab := mkTab []) (cuts := mkCuts []) Try.func77 (by kernel_rfl) .nil (.none0 (by kernel_rfl)) (fun v => by kernel_rfl)
def C_24_0 : CutF → Cut := fun κ => ⟨[1, 3], fun e => match e with | .ex i => bif Nat.beq i 0 then [] else [] | .rt => [2] | .nm => [] | .go i => [], κ⟩
def C_16_0 : CutF → Cut := fun κ => ⟨[0, 3], fun e => match e with | .ex i => bif Nat.beq i 0 then [] else [] | .rt => [2] | .nm => [] | .go i => [], κ⟩
def F_r16_Named_l0 (n : Nat) : Nat → (List UInt8) → (Int) → Tree (Unit ⊕ Unit)
 | 0 => fun  x0 x1 => .fail
 | k + 1 => fun x0 x1 =>
  .ite (decide (x1 < (ln x0)))
  (.get (getI x0 x1) fun y2 =>
  .ite (decide ((97 : UInt8) ≤ y2))
  (.get (getI x0 x1) fun y3 =>
  .get (getI x0 x1) fun y4 =>
  .ite (decide ((48 : UInt8) ≤ y4))
  (.get (getI x0 x1) fun y5 =>
  .ite ((!(decide (y3 ≤ (122 : UInt8)))) && (!(decide (y5 ≤ (57 : UInt8)))))
  (.ret (.inl ()))
  (.sub (F_r16_Named_l0 n k x0 (w64 (x1 + (1 : Int)))) fun y6 =>
  .alt y6 (fun y7 =>
  .ret (.inl ()))
  fun y8 =>
  .ret (.inr ())))
  (.ite (!(decide (y3 ≤ (122 : UInt8))))
  (.ret (.inl ()))
  (.sub (F_r16_Named_l0 n k x0 (w64 (x1 + (1 : Int)))) fun y9 =>
  .alt y9 (fun y10 =>
  .ret (.inl ()))
  fun y11 =>
  .ret (.inr ()))))
  (.get (getI x0 x1) fun y12 =>
  .ite (decide ((48 : UInt8) ≤ y12))
  (.get (getI x0 x1) fun y13 =>
  .ite (!(decide (y13 ≤ (57 : UInt8))))
  (.ret (.inl ()))
  (.sub (F_r16_Named_l0 n k x0 (w64 (x1 + (1 : Int)))) fun y14 =>
  .alt y14 (fun y15 =>
  .ret (.inl ()))
  fun y16 =>
  .ret (.inr ())))
  (.ret (.inl ()))))
  (.ret (.inr ()))
def S_r16_Named_l0 (n k : Nat) : CutF := mkS ⟨[(.val .str []), (.val (.sint .i64) (0 : Int))], [], 0⟩ [.d .str, .d (.sint .i64)] fun v => .sub (F_r16_Named_l0 n k (p0 v) (p1 v)) fun r => .alt r (fun r => .ret (.rt, [(.val .bool false)], [], 0)) (fun r => .ret (.ex 0, [], [], 0))
theorem rd_r16_Named_l0 (n k : Nat) : Rounds Try.prog (Go.Func.ntmps Try.f16) (bodyOf Try.f16 0) C_16_0 [S_r16_Named_l0 n k] (S_r16_Named_l0 n (k + 1)) :=
  rounds_go (tab := mkTab []) (cuts := mkCuts []) (S_r16_Named_l0 n k) [] .nil (.none0 (by kernel_rfl)) rfl (fun v => by kernel_rfl)
theorem ok_r16_Named_l0 (n k : Nat) : SoundC Try.prog (Go.Func.ntmps Try.f16) (.loop (bodyOf Try.f16 0)) (wr (bodyOf Try.f16 0)) (C_16_0 (S_r16_Named_l0 n k)) :=
  loop_go (K := fun k => [S_r16_Named_l0 n k]) (fun _ => rfl) (by kernel_rfl) ⟨z_go fun _ => by kernel_rfl, trivial⟩ (fun k => ⟨rd_r16_Named_l0 n k, trivial⟩) k rfl
def F_r16_Named (n : Nat) (x0 : List UInt8) : Tree Bool :=
  .sub (F_r16_Named_l0 n n x0 (0 : Int)) fun y1 =>
  .alt y1 (fun y2 =>
  .ret false)
  fun y3 =>
  .ret ((decide ((1 : Int) ≤ (ln x0))) && (decide ((ln x0) ≤ (32 : Int))))
def S_r16_Named (n : Nat) : Summ := mkS ⟨[(.val .str [])], [], 0⟩ [.d .str] fun v => .sub (F_r16_Named n (p0 v)) fun r => .ret ((.val .bool r), [], 0)
theorem ok_r16_Named (n : Nat) : SoundF Try.prog 16 (S_r16_Named n) :=
  fn_go true (c := codeOf Try.f16) (tab := mkTab []) (cuts := mkCuts [(0, C_16_0 (S_r16_Named_l0 n n))]) Try.func16 (by kernel_rfl) .nil (CutsOK.list (l := [(0, .lp (bodyOf Try.f16 0))]) (by kernel_rfl) (LoopsOK.all ⟨.inr ⟨_, rfl, ok_r16_Named_l0 n n⟩, trivial⟩)) (fun v => by kernel_rfl)
def F_r23_Right_l0 (n : Nat) : Nat → (Int) → (Int) → (Int) → (Int) → (Int) → (Bool) → (List (List UInt8 × List UInt8)) → (Bool) → (List (Int × List UInt8)) → Tree (Unit ⊕ Unit)
 | 0 => fun  x0 x1 x2 x3 x4 x5 x6 x7 x8 => .fail
 | k + 1 => fun x0 x1 x2 x3 x4 x5 x6 x7 x8 =>
  .ite (decide (x0 < (ln x6)))
  (.get (getI x6 x0) fun y9 =>
  .get (Tree.run (F_r16_Named n y9.1)) fun y10 =>
  .ite (!y10)
  (.ret (.inl ()))
  (.ite (decide ((0 : Int) < x0))
  (.get (getI x6 x0) fun y11 =>
  .get (getI x6 (w64 (x0 - (1 : Int)))) fun y12 =>
  .ite ((strLt y11.1 y12.1) || (decide (y11.1 = y12.1)))
  (.ret (.inl ()))
  (.sub (F_r23_Right_l0 n k (w64 (x0 + (1 : Int))) x1 x2 x3 x4 x5 x6 x7 x8) fun y13 =>
  .alt y13 (fun y14 =>
  .ret (.inl ()))
  fun y15 =>
  .ret (.inr ())))
  (.sub (F_r23_Right_l0 n k (w64 (x0 + (1 : Int))) x1 x2 x3 x4 x5 x6 x7 x8) fun y16 =>
  .alt y16 (fun y17 =>
  .ret (.inl ()))
  fun y18 =>
  .ret (.inr ()))))
  (.ret (.inr ()))
def S_r23_Right_l0 (n k : Nat) : CutF := mkS ⟨[(.ptr 0 0), (.val (.sint .i64) (0 : Int))], [⟨0, 1, .box (.agg (.pr (.val (.sint .i64) (0 : Int)) (.pr (.val (.sint .i64) (0 : Int)) (.pr (.val (.sint .i64) (0 : Int)) (.pr (.val (.sint .i64) (0 : Int)) (.pr (.ro false T1 []) (.pr (.ro false T2 []) .un)))))))⟩], 2⟩ [.d (.sint .i64), .d (.sint .i64), .d (.sint .i64), .d (.sint .i64), .d (.sint .i64), .c, .d T3, .c, .d T4] fun v => .sub (F_r23_Right_l0 n k (p0 v) (p1 v) (p2 v) (p3 v) (p4 v) (p5 v) (p6 v) (p7 v) (p8 v)) fun r => .alt r (fun r => .ret (.rt, [(.val .bool false)], [⟨0, 3, .box (.agg (.pr (.val (.sint .i64) (p1 v)) (.pr (.val (.sint .i64) (p2 v)) (.pr (.val (.sint .i64) (p3 v)) (.pr (.val (.sint .i64) (p4 v)) (.pr (.ro (p5 v) T1 (p6 v)) (.pr (.ro (p7 v) T2 (p8 v)) .un)))))))⟩], 4)) (fun r => .ret (.ex 0, [], [⟨0, 3, .box (.agg (.pr (.val (.sint .i64) (p1 v)) (.pr (.val (.sint .i64) (p2 v)) (.pr (.val (.sint .i64) (p3 v)) (.pr (.val (.sint .i64) (p4 v)) (.pr (.ro (p5 v) T1 (p6 v)) (.pr (.ro (p7 v) T2 (p8 v)) .un)))))))⟩], 4))
theorem rd_r23_Right_l0 (n k : Nat) : Rounds Try.prog (Go.Func.ntmps Try.f24) (bodyOf Try.f24 0) C_24_0 [S_r23_Right_l0 n k] (S_r23_Right_l0 n (k + 1)) :=
  rounds_go (tab := mkTab [(16, ⟨S_r16_Named n, [], [], true⟩)]) (cuts := mkCuts []) (S_r23_Right_l0 n k) [] (.cons (ok_r16_Named n) ⟨_, Try.func16, by kernel_rfl⟩ .nil) (.none0 (by kernel_rfl)) rfl (fun v => by kernel_rfl)
theorem ok_r23_Right_l0 (n k : Nat) : SoundC Try.prog (Go.Func.ntmps Try.f24) (.loop (bodyOf Try.f24 0)) (wr (bodyOf Try.f24 0)) (C_24_0 (S_r23_Right_l0 n k)) :=
  loop_go (K := fun k => [S_r23_Right_l0 n k]) (fun _ => rfl) (by kernel_rfl) ⟨z_go fun _ => by kernel_rfl, trivial⟩ (fun k => ⟨rd_r23_Right_l0 n k, trivial⟩) k rfl
def C_24_2 : CutF → Cut := fun κ => ⟨[1, 4], fun e => match e with | .ex i => bif Nat.beq i 2 then [] else [] | .rt => [2] | .nm => [] | .go i => [], κ⟩
def F_r23_Right_l2 (n : Nat) : Nat → (Int) → (Int) → (Int) → (Int) → (Int) → (Bool) → (List (List UInt8 × List UInt8)) → (Bool) → (List (Int × List UInt8)) → Tree (Unit ⊕ Unit)
 | 0 => fun  x0 x1 x2 x3 x4 x5 x6 x7 x8 => .fail
 | k + 1 => fun x0 x1 x2 x3 x4 x5 x6 x7 x8 =>
  .ite (decide (x0 < (ln x8)))
  (.get (getI x8 x0) fun y9 =>
  .ite (decide (y9.1 < (1 : Int)))
  (.ret (.inl ()))
  (.ite (decide (x4 ≤ y9.1))
  (.ret (.inl ()))
  (.ite (decide ((0 : Int) < x0))
  (.get (getI x8 (w64 (x0 - (1 : Int)))) fun y10 =>
  .ite (decide (y9.1 ≤ y10.1))
  (.ret (.inl ()))
  (.sub (F_r23_Right_l2 n k (w64 (x0 + (1 : Int))) x1 x2 x3 x4 x5 x6 x7 x8) fun y11 =>
  .alt y11 (fun y12 =>
  .ret (.inl ()))
  fun y13 =>
  .ret (.inr ())))
  (.sub (F_r23_Right_l2 n k (w64 (x0 + (1 : Int))) x1 x2 x3 x4 x5 x6 x7 x8) fun y14 =>
  .alt y14 (fun y15 =>
  .ret (.inl ()))
  fun y16 =>
  .ret (.inr ())))))
  (.ret (.inr ()))
def S_r23_Right_l2 (n k : Nat) : CutF := mkS ⟨[(.ptr 0 0), (.val (.sint .i64) (0 : Int))], [⟨0, 1, .box (.agg (.pr (.val (.sint .i64) (0 : Int)) (.pr (.val (.sint .i64) (0 : Int)) (.pr (.val (.sint .i64) (0 : Int)) (.pr (.val (.sint .i64) (0 : Int)) (.pr (.ro false T1 []) (.pr (.ro false T2 []) .un)))))))⟩], 2⟩ [.d (.sint .i64), .d (.sint .i64), .d (.sint .i64), .d (.sint .i64), .d (.sint .i64), .c, .d T3, .c, .d T4] fun v => .sub (F_r23_Right_l2 n k (p0 v) (p1 v) (p2 v) (p3 v) (p4 v) (p5 v) (p6 v) (p7 v) (p8 v)) fun r => .alt r (fun r => .ret (.rt, [(.val .bool false)], [⟨0, 3, .box (.agg (.pr (.val (.sint .i64) (p1 v)) (.pr (.val (.sint .i64) (p2 v)) (.pr (.val (.sint .i64) (p3 v)) (.pr (.val (.sint .i64) (p4 v)) (.pr (.ro (p5 v) T1 (p6 v)) (.pr (.ro (p7 v) T2 (p8 v)) .un)))))))⟩], 4)) (fun r => .ret (.ex 2, [], [⟨0, 3, .box (.agg (.pr (.val (.sint .i64) (p1 v)) (.pr (.val (.sint .i64) (p2 v)) (.pr (.val (.sint .i64) (p3 v)) (.pr (.val (.sint .i64) (p4 v)) (.pr (.ro (p5 v) T1 (p6 v)) (.pr (.ro (p7 v) T2 (p8 v)) .un)))))))⟩], 4))
theorem rd_r23_Right_l2 (n k : Nat) : Rounds Try.prog (Go.Func.ntmps Try.f24) (bodyOf Try.f24 2) C_24_2 [S_r23_Right_l2 n k] (S_r23_Right_l2 n (k + 1)) :=
  rounds_go (tab := mkTab []) (cuts := mkCuts []) (S_r23_Right_l2 n k) [] .nil (.none0 (by kernel_rfl)) rfl (fun v => by kernel_rfl)
theorem ok_r23_Right_l2 (n k : Nat) : SoundC Try.prog (Go.Func.ntmps Try.f24) (.loop (bodyOf Try.f24 2)) (wr (bodyOf Try.f24 2)) (C_24_2 (S_r23_Right_l2 n k)) :=
  loop_go (K := fun k => [S_r23_Right_l2 n k]) (fun _ => rfl) (by kernel_rfl) ⟨z_go fun _ => by kernel_rfl, trivial⟩ (fun k => ⟨rd_r23_Right_l2 n k, trivial⟩) k rfl
def F_r23_Right (n : Nat) (x0 : Int) (x1 : Int) (x2 : Int) (x3 : Int) (x4 : Bool) (x5 : List (List UInt8 × List UInt8)) (x6 : Bool) (x7 : List (Int × List UInt8)) : Tree Bool :=
  .ite ((decide (x0 < (1 : Int))) || ((decide ((1099511627776 : Int) < x0)) || ((decide (x1 < (1 : Int))) || ((decide ((1099511627776 : Int) < x1)) || ((decide (x2 < (1 : Int))) || ((decide ((64 : Int) < x2)) || ((decide (x3 < (1 : Int))) || (decide ((1099511627776 : Int) < x3)))))))))
  (.ret false)
  (.ite ((decide ((64 : Int) < (ln x5))) || (decide ((32 : Int) < (ln x7))))
  (.ret false)
  (.sub (F_r23_Right_l0 n n (0 : Int) x0 x1 x2 x3 x4 x5 x6 x7) fun y8 =>
  .alt y8 (fun y9 =>
  .ret false)
  fun y10 =>
  .sub (F_r23_Right_l2 n n (0 : Int) x0 x1 x2 x3 x4 x5 x6 x7) fun y11 =>
  .alt y11 (fun y12 =>
  .ret false)
  fun y13 =>
  .ret true))
def S_r23_Right (n : Nat) : Summ := mkS ⟨[(.agg (.pr (.val (.sint .i64) (0 : Int)) (.pr (.val (.sint .i64) (0 : Int)) (.pr (.val (.sint .i64) (0 : Int)) (.pr (.val (.sint .i64) (0 : Int)) (.pr (.ro false T1 []) (.pr (.ro false T2 []) .un)))))))], [], 0⟩ [.d (.sint .i64), .d (.sint .i64), .d (.sint .i64), .d (.sint .i64), .c, .d T3, .c, .d T4] fun v => .sub (F_r23_Right n (p0 v) (p1 v) (p2 v) (p3 v) (p4 v) (p5 v) (p6 v) (p7 v)) fun r => .ret ((.val .bool r), [], 0)
theorem ok_r23_Right (n : Nat) : SoundF Try.prog 24 (S_r23_Right n) :=
  fn_go true (c := codeOf Try.f24) (tab := mkTab []) (cuts := mkCuts [(0, C_24_0 (S_r23_Right_l0 n n)), (2, C_24_2 (S_r23_Right_l2 n n))]) Try.func24 (by kernel_rfl) .nil (CutsOK.list (l := [(0, .lp (bodyOf Try.f24 0)), (2, .lp (bodyOf Try.f24 2))]) (by kernel_rfl) (LoopsOK.all ⟨.inr ⟨_, rfl, ok_r23_Right_l0 n n⟩, ⟨.inr ⟨_, rfl, ok_r23_Right_l2 n n⟩, trivial⟩⟩)) (fun v => by kernel_rfl)
def F_r23_Get (n : Nat) (x0 : Bool) (x1 : List UInt8) : Tree (Int ⊕ ((Int) × ((Int) × ((Int) × ((Int) × ((List (List UInt8 × List UInt8)) × (List (Int × List UInt8)))))))) :=
  .sub (F_r17_Scan_Number n x0 x1 (0 : Int) (1 : Int) (1099511627776 : Int)) fun y2 =>
  .sub (F_r17_Scan_Number n y2.2.1 y2.2.2.1 y2.2.2.2 (1 : Int) (1099511627776 : Int)) fun y3 =>
  .sub (F_r17_Scan_Number n y3.2.1 y3.2.2.1 y3.2.2.2 (1 : Int) (64 : Int)) fun y4 =>
  .sub (F_r17_Scan_Number n y4.2.1 y4.2.2.1 y4.2.2.2 (1 : Int) (1099511627776 : Int)) fun y5 =>
  .sub (F_r17_Scan_Number n y5.2.1 y5.2.2.1 y5.2.2.2 (0 : Int) (64 : Int)) fun y6 =>
  .sub (F_r23_Get_l0 n n y6.1 (0 : Int) y2.1 y3.1 y4.1 y5.1 ([] : List ((List UInt8) × (List UInt8))) ([] : List (Int × (List UInt8))) y6.2.1 y6.2.2.1 y6.2.2.2) fun y7 =>
  .sub (F_r17_Scan_Number n y7.2.1 y7.2.2.1 y7.2.2.2 (0 : Int) (32 : Int)) fun y8 =>
  .sub (F_r23_Get_l2 n n y8.1 (0 : Int) y2.1 y3.1 y4.1 y5.1 y7.1 ([] : List (Int × (List UInt8))) y8.2.1 y8.2.2.1 y8.2.2.2) fun y9 =>
  .sub (F_r17_Scan_End n y9.2.2.1 y9.2.2.2) fun y10 =>
  .ite (!(decide (y10 = (0 : Int))))
  (.sub (F_r17_Scan_End n y9.2.2.1 y9.2.2.2) fun y11 =>
  .ret (.inl y11))
  (.sub (F_r23_Right n y2.1 y3.1 y4.1 y5.1 false y7.1 false y9.1) fun y12 =>
  .ite (!y12)
  (.ret (.inl (5 : Int)))
  (.ret (.inr (y2.1, y3.1, y4.1, y5.1, y7.1, y9.1))))
def S_r23_Get (n : Nat) : Summ := mkS ⟨[(.ro false .u8 [])], [], 0⟩ [.c, .d (.list .u8)] fun v => .sub (F_r23_Get n (p0 v) (p1 v)) fun r => .alt r (fun r => .ret ((.tup (.pr (.agg (.pr (.val (.sint .i64) (0 : Int)) (.pr (.val (.sint .i64) (0 : Int)) (.pr (.val (.sint .i64) (0 : Int)) (.pr (.val (.sint .i64) (0 : Int)) (.pr (.whole 0 33) (.pr (.whole 2 33) .un))))))) (.pr (.val (.sint .i64) r) .un))), [⟨0, 1, .row T1 ([] : List ((List UInt8) × (List UInt8)))⟩, ⟨2, 3, .row T2 ([] : List (Int × (List UInt8)))⟩], 4)) (fun r => .ret ((.tup (.pr (.agg (.pr (.val (.sint .i64) r.1) (.pr (.val (.sint .i64) r.2.1) (.pr (.val (.sint .i64) r.2.2.1) (.pr (.val (.sint .i64) r.2.2.2.1) (.pr (.ro false T1 r.2.2.2.2.1) (.pr (.ro false T2 r.2.2.2.2.2) .un))))))) (.pr (.val (.sint .i64) (0 : Int)) .un))), [], 0))
theorem ok_r23_Get (n : Nat) : SoundF Try.prog 22 (S_r23_Get n) :=
  fn_go true (c := codeOf Try.f22) (tab := mkTab [(74, ⟨S_r17_Scan_Number n, [], [], true⟩), (77, ⟨S_r17_Scan_End n, [], [], true⟩), (24, ⟨S_r23_Right n, [], [], true⟩)]) (cuts := mkCuts [(0, C_22_0 (S_r23_Get_l0 n n)), (2, C_22_2 (S_r23_Get_l2 n n))]) Try.func22 (by kernel_rfl) (.cons (ok_r17_Scan_Number n) ⟨_, Try.func74, by kernel_rfl⟩ (.cons (ok_r17_Scan_End n) ⟨_, Try.func77, by kernel_rfl⟩ (.cons (ok_r23_Right n) ⟨_, Try.func24, by kernel_rfl⟩ .nil))) (CutsOK.list (l := [(0, .lp (bodyOf Try.f22 0)), (2, .lp (bodyOf Try.f22 2))]) (by kernel_rfl) (LoopsOK.all ⟨.inr ⟨_, rfl, ok_r23_Get_l0 n n⟩, ⟨.inr ⟨_, rfl, ok_r23_Get_l2 n n⟩, trivial⟩⟩)) (fun v => by kernel_rfl)
def C_25_0 : CutF → Cut := fun κ => ⟨[3, 18, 19], fun e => match e with | .ex i => bif Nat.beq i 0 then [3] else [] | .rt => [] | .nm => [] | .go i => [], κ⟩
def C_79_100000 : CutF → Cut := fun κ => ⟨[0, 1, 5, 6], fun e => match e with | .ex i => [] | .rt => [4] | .nm => [4] | .go i => [], κ⟩
def C_79_0 : CutF → Cut := fun κ => ⟨[5, 7, 8], fun e => match e with | .ex i => bif Nat.beq i 0 then [7] else [] | .rt => [] | .nm => [] | .go i => bif Nat.beq i 0 then [] else [], κ⟩
def F_codec_Number_l0 (n : Nat) : Nat → (Int) → (List UInt8) → (List UInt8) → Tree (Unit ⊕ (List UInt8))
 | 0 => fun  x0 x1 x2 => .fail
 | k + 1 => fun x0 x1 x2 =>
  .ite (decide ((0 : Int) ≤ x0))
  (.get (inI 8 x0) fun y3 =>
  .get (gt x1 y3) fun y4 =>
  .get (appI 140737488355328 x2 (List.set ([0] : List UInt8) 0 y4)) fun y5 =>
  .sub (F_codec_Number_l0 n k (w64 (x0 - (1 : Int))) x1 y5) fun y6 =>
  .alt y6 (fun y7 =>
  .ret (.inr y5))
  fun y8 =>
  .ret (.inr y8))
  (.ret (.inl ()))
def S_codec_Number_l0 (n k : Nat) : CutF := mkS ⟨[(.ptr 0 0), (.whole 2 1), (.val (.sint .i64) (0 : Int))], [⟨0, 1, .box (.val (.arr 8 .u8) [])⟩, ⟨2, 3, .row .u8 []⟩], 4⟩ [.d (.sint .i64), .d (.arr 8 .u8), .d (.list .u8)] fun v => .sub (F_codec_Number_l0 n k (p0 v) (p1 v) (p2 v)) fun r => .alt r (fun r => .ret (.ex 0, [(.whole 2 1)], [⟨2, 5, .row .u8 (p2 v)⟩, ⟨0, 7, .box (.val (.arr 8 .u8) (p1 v))⟩], 8)) (fun r => .ret (.ex 0, [(.whole 4 1)], [⟨4, 5, .row .u8 r⟩, ⟨0, 7, .box (.val (.arr 8 .u8) (p1 v))⟩], 8))
theorem rd_codec_Number_l0 (n k : Nat) : Rounds Try.prog (Go.Func.ntmps Try.f79) (bodyOf Try.f79 0) C_79_0 [S_codec_Number_l0 n k] (S_codec_Number_l0 n (k + 1)) :=
  rounds_go (tab := mkTab []) (cuts := mkCuts []) (S_codec_Number_l0 n k) [] .nil (.none0 (by kernel_rfl)) rfl (fun v => by kernel_rfl)
theorem ok_codec_Number_l0 (n k : Nat) : SoundC Try.prog (Go.Func.ntmps Try.f79) (.loop (bodyOf Try.f79 0)) (wr (bodyOf Try.f79 0)) (C_79_0 (S_codec_Number_l0 n k)) :=
  loop_go (K := fun k => [S_codec_Number_l0 n k]) (fun _ => rfl) (by kernel_rfl) ⟨z_go fun _ => by kernel_rfl, trivial⟩ (fun k => ⟨rd_codec_Number_l0 n k, trivial⟩) k rfl
def F_codec_Number_l100000 (n : Nat) : Nat → (Int) → (Int) → (List UInt8) → Tree ((List UInt8) × (List UInt8))
 | 0 => fun  x0 x1 x2 => .fail
 | k + 1 => fun x0 x1 x2 =>
  .ite (decide ((0 : Int) < x0))
  (.get (inI 8 x1) fun y3 =>
  .get (gt x2 y3) fun y4 =>
  .sub (F_codec_Number_l100000 n k (shrI .i64 x0 8) (w64 (x1 + (1 : Int))) (List.set x2 y3 (int8 x0))) fun y5 =>
  .ret (y5.1, y5.2))
  (.get (appI 140737488355328 ([] : List UInt8) ([] : List UInt8)) fun y6 =>
  .get (appI 140737488355328 y6 (List.set ([0] : List UInt8) 0 (int8 x1))) fun y7 =>
  .sub (F_codec_Number_l0 n n (w64 (x1 - (1 : Int))) x2 y7) fun y8 =>
  .alt y8 (fun y9 =>
  .ret (y7, x2))
  fun y10 =>
  .ret (y10, x2))
def S_codec_Number_l100000 (n k : Nat) : CutF := mkS ⟨[(.snil none), (.val (.sint .i64) (0 : Int)), (.ptr 0 0), (.val (.sint .i64) (0 : Int))], [⟨0, 1, .box (.val (.arr 8 .u8) [])⟩], 2⟩ [.d (.sint .i64), .d (.sint .i64), .d (.arr 8 .u8)] fun v => .sub (F_codec_Number_l100000 n k (p0 v) (p1 v) (p2 v)) fun r => .ret (.rt, [(.whole 2 1)], [⟨2, 3, .row .u8 r.1⟩, ⟨0, 5, .box (.val (.arr 8 .u8) r.2)⟩], 6)
theorem rd_codec_Number_l100000 (n k : Nat) : RoundsJ Try.prog (Go.Func.ntmps Try.f79) 0 (restOf Try.f79 0) C_79_100000 [S_codec_Number_l100000 n k] (S_codec_Number_l100000 n (k + 1)) :=
  roundsJ_go (tab := mkTab []) (cuts := mkCuts [(0, C_79_0 (S_codec_Number_l0 n n))]) (S_codec_Number_l100000 n k) [] .nil (CutsOK.list (l := [(0, .lp (bodyOf Try.f79 0))]) (by kernel_rfl) (LoopsOK.all ⟨.inr ⟨_, rfl, ok_codec_Number_l0 n n⟩, trivial⟩)) rfl (fun v => by kernel_rfl)
theorem ok_codec_Number_l100000 (n k : Nat) : SoundX (JX Try.prog (Go.Func.ntmps Try.f79) 0 (restOf Try.f79 0)) (wr (restOf Try.f79 0)) (C_79_100000 (S_codec_Number_l100000 n k)) :=
  jump_go (K := fun k => [S_codec_Number_l100000 n k]) (fun _ => rfl) (by kernel_rfl) ⟨z_go fun _ => by kernel_rfl, trivial⟩ (fun k => ⟨rd_codec_Number_l100000 n k, trivial⟩) k rfl
def F_codec_Number (n : Nat) (x0 : Int) : Tree (List UInt8) :=
  .ite (decide ((0 : Int) < (minI (maxI x0 (0 : Int)) (9007199254740992 : Int))))
  (.get (inI 8 (0 : Int)) fun y1 =>
  .get (gt (zs 8) y1) fun y2 =>
  .sub (F_codec_Number_l100000 n n (shrI .i64 (minI (maxI x0 (0 : Int)) (9007199254740992 : Int)) 8) (1 : Int) (List.set (zs 8) y1 (int8 (minI (maxI x0 (0 : Int)) (9007199254740992 : Int))))) fun y3 =>
  .ret y3.1)
  (.get (appI 140737488355328 ([] : List UInt8) ([] : List UInt8)) fun y4 =>
  .get (appI 140737488355328 y4 ([0] : List UInt8)) fun y5 =>
  .sub (F_codec_Number_l0 n n (-1 : Int) (zs 8) y5) fun y6 =>
  .alt y6 (fun y7 =>
  .ret y5)
  fun y8 =>
  .ret y8)
def S_codec_Number (n : Nat) : Summ := mkS ⟨[(.snil none), (.val (.sint .i64) (0 : Int))], [], 0⟩ [.d (.sint .i64)] fun v => .sub (F_codec_Number n (p0 v)) fun r => .ret ((.whole 0 1), [⟨0, 1, .row .u8 r⟩], 2)
theorem ok_codec_Number (n : Nat) : SoundF Try.prog 79 (S_codec_Number n) :=
  fn_go false (c := codeOf Try.f79) (tab := mkTab []) (cuts := mkCuts [(100000, C_79_100000 (S_codec_Number_l100000 n n)), (0, C_79_0 (S_codec_Number_l0 n n))]) Try.func79 (by kernel_rfl) .nil (CutsOK.list (l := [(0, .lp (bodyOf Try.f79 0)), (100000, .jp 0 (restOf Try.f79 0))]) (by kernel_rfl) (LoopsOK.all ⟨.inr ⟨_, rfl, ok_codec_Number_l0 n n⟩, ⟨.inr ⟨_, rfl, ok_codec_Number_l100000 n n⟩, trivial⟩⟩)) (fun v => by kernel_rfl)
def F_codec_Number_l100000_1 (n : Nat) : Nat → (Int) → (Int) → (List UInt8) → (List UInt8) → Tree ((List UInt8) × (List UInt8))
 | 0 => fun  x0 x1 x2 x3 => .fail
 | k + 1 => fun x0 x1 x2 x3 =>
  .ite (decide ((0 : Int) < x0))
  (.get (inI 8 x1) fun y4 =>
  .get (gt x3 y4) fun y5 =>
  .sub (F_codec_Number_l100000_1 n k (shrI .i64 x0 8) (w64 (x1 + (1 : Int))) x2 (List.set x3 y4 (int8 x0))) fun y6 =>
  .ret (y6.1, y6.2))
  (.get (appI 140737488355328 ([] : List UInt8) x2) fun y7 =>
  .get (appI 140737488355328 y7 (List.set ([0] : List UInt8) 0 (int8 x1))) fun y8 =>
  .sub (F_codec_Number_l0 n n (w64 (x1 - (1 : Int))) x3 y8) fun y9 =>
  .alt y9 (fun y10 =>
  .ret (y8, x3))
  fun y11 =>
  .ret (y11, x3))
def S_codec_Number_l100000_1 (n k : Nat) : CutF := mkS ⟨[(.whole 0 1), (.val (.sint .i64) (0 : Int)), (.ptr 2 0), (.val (.sint .i64) (0 : Int))], [⟨0, 1, .row .u8 []⟩, ⟨2, 3, .box (.val (.arr 8 .u8) [])⟩], 4⟩ [.d (.sint .i64), .d (.sint .i64), .d (.list .u8), .d (.arr 8 .u8)] fun v => .sub (F_codec_Number_l100000_1 n k (p0 v) (p1 v) (p2 v) (p3 v)) fun r => .ret (.rt, [(.whole 4 1)], [⟨4, 5, .row .u8 r.1⟩, ⟨2, 7, .box (.val (.arr 8 .u8) r.2)⟩, ⟨0, 9, .row .u8 (p2 v)⟩], 10)
theorem rd_codec_Number_l100000_1 (n k : Nat) : RoundsJ Try.prog (Go.Func.ntmps Try.f79) 0 (restOf Try.f79 0) C_79_100000 [S_codec_Number_l100000_1 n k] (S_codec_Number_l100000_1 n (k + 1)) :=
  roundsJ_go (tab := mkTab []) (cuts := mkCuts [(0, C_79_0 (S_codec_Number_l0 n n))]) (S_codec_Number_l100000_1 n k) [] .nil (CutsOK.list (l := [(0, .lp (bodyOf Try.f79 0))]) (by kernel_rfl) (LoopsOK.all ⟨.inr ⟨_, rfl, ok_codec_Number_l0 n n⟩, trivial⟩)) rfl (fun v => by kernel_rfl)
theorem ok_codec_Number_l100000_1 (n k : Nat) : SoundX (JX Try.prog (Go.Func.ntmps Try.f79) 0 (restOf Try.f79 0)) (wr (restOf Try.f79 0)) (C_79_100000 (S_codec_Number_l100000_1 n k)) :=
  jump_go (K := fun k => [S_codec_Number_l100000_1 n k]) (fun _ => rfl) (by kernel_rfl) ⟨z_go fun _ => by kernel_rfl, trivial⟩ (fun k => ⟨rd_codec_Number_l100000_1 n k, trivial⟩) k rfl
def F_codec_Number_1 (n : Nat) (x0 : Int) (x1 : List UInt8) : Tree (List UInt8) :=
  .ite (decide ((0 : Int) < (minI (maxI x0 (0 : Int)) (9007199254740992 : Int))))
  (.get (inI 8 (0 : Int)) fun y2 =>
  .get (gt (zs 8) y2) fun y3 =>
  .sub (F_codec_Number_l100000_1 n n (shrI .i64 (minI (maxI x0 (0 : Int)) (9007199254740992 : Int)) 8) (1 : Int) x1 (List.set (zs 8) y2 (int8 (minI (maxI x0 (0 : Int)) (9007199254740992 : Int))))) fun y4 =>
  .ret y4.1)
  (.get (appI 140737488355328 ([] : List UInt8) x1) fun y5 =>
  .get (appI 140737488355328 y5 ([0] : List UInt8)) fun y6 =>
  .sub (F_codec_Number_l0 n n (-1 : Int) (zs 8) y6) fun y7 =>
  .alt y7 (fun y8 =>
  .ret y6)
  fun y9 =>
  .ret y9)
def S_codec_Number_1 (n : Nat) : Summ := mkS ⟨[(.whole 0 1), (.val (.sint .i64) (0 : Int))], [⟨0, 1, .row .u8 []⟩], 2⟩ [.d (.sint .i64), .d (.list .u8)] fun v => .sub (F_codec_Number_1 n (p0 v) (p1 v)) fun r => .ret ((.whole 2 1), [⟨2, 3, .row .u8 r⟩, ⟨0, 5, .row .u8 (p1 v)⟩], 6)
theorem ok_codec_Number_1 (n : Nat) : SoundF Try.prog 79 (S_codec_Number_1 n) :=
  fn_go false (c := codeOf Try.f79) (tab := mkTab []) (cuts := mkCuts [(100000, C_79_100000 (S_codec_Number_l100000_1 n n)), (0, C_79_0 (S_codec_Number_l0 n n))]) Try.func79 (by kernel_rfl) .nil (CutsOK.list (l := [(0, .lp (bodyOf Try.f79 0)), (100000, .jp 0 (restOf Try.f79 0))]) (by kernel_rfl) (LoopsOK.all ⟨.inr ⟨_, rfl, ok_codec_Number_l0 n n⟩, ⟨.inr ⟨_, rfl, ok_codec_Number_l100000_1 n n⟩, trivial⟩⟩)) (fun v => by kernel_rfl)
def F_manifest_Put_l0_1 (n : Nat) : Nat → (List Int) → (Int) → (List UInt8) → Tree (Unit ⊕ (List UInt8))
 | 0 => fun  x0 x1 x2 => .fail
 | k + 1 => fun x0 x1 x2 =>
  .ite (decide (x1 < (4 : Int)))
  (.get (getI x0 x1) fun y3 =>
  .sub (F_codec_Number_1 n y3 x2) fun y4 =>
  .sub (F_manifest_Put_l0_1 n k x0 (w64 (x1 + (1 : Int))) y4) fun y5 =>
  .alt y5 (fun y6 =>
  .ret (.inr y4))
  fun y7 =>
  .ret (.inr y7))
  (.ret (.inl ()))
def S_manifest_Put_l0_1 (n k : Nat) : CutF := mkS ⟨[(.whole 0 1), (.val (.arr 4 (.sint .i64)) []), (.val (.sint .i64) (0 : Int))], [⟨0, 1, .row .u8 []⟩], 2⟩ [.d (.arr 4 (.sint .i64)), .d (.sint .i64), .d (.list .u8)] fun v => .sub (F_manifest_Put_l0_1 n k (p0 v) (p1 v) (p2 v)) fun r => .alt r (fun r => .ret (.ex 0, [(.whole 0 1)], [⟨0, 3, .row .u8 (p2 v)⟩], 4)) (fun r => .ret (.ex 0, [(.whole 2 1)], [⟨2, 3, .row .u8 r⟩, ⟨0, 5, .row .u8 (p2 v)⟩], 6))
theorem rd_manifest_Put_l0_1 (n k : Nat) : Rounds Try.prog (Go.Func.ntmps Try.f25) (bodyOf Try.f25 0) C_25_0 [S_manifest_Put_l0_1 n k] (S_manifest_Put_l0_1 n (k + 1)) :=
  rounds_go (tab := mkTab [(79, ⟨S_codec_Number_1 n, [], [], false⟩)]) (cuts := mkCuts []) (S_manifest_Put_l0_1 n k) [] (.cons (ok_codec_Number_1 n) ⟨_, Try.func79, by kernel_rfl⟩ .nil) (.none0 (by kernel_rfl)) rfl (fun v => by kernel_rfl)
theorem ok_manifest_Put_l0_1 (n k : Nat) : SoundC Try.prog (Go.Func.ntmps Try.f25) (.loop (bodyOf Try.f25 0)) (wr (bodyOf Try.f25 0)) (C_25_0 (S_manifest_Put_l0_1 n k)) :=
  loop_go (K := fun k => [S_manifest_Put_l0_1 n k]) (fun _ => rfl) (by kernel_rfl) ⟨z_go fun _ => by kernel_rfl, trivial⟩ (fun k => ⟨rd_manifest_Put_l0_1 n k, trivial⟩) k rfl
def F_manifest_Put_l0 (n : Nat) : Nat → (List Int) → (Int) → Tree ((List UInt8) ⊕ Unit)
 | 0 => fun  x0 x1 => .fail
 | k + 1 => fun x0 x1 =>
  .ite (decide (x1 < (4 : Int)))
  (.get (getI x0 x1) fun y2 =>
  .sub (F_codec_Number n y2) fun y3 =>
  .sub (F_manifest_Put_l0_1 n k x0 (w64 (x1 + (1 : Int))) y3) fun y4 =>
  .alt y4 (fun y5 =>
  .ret (.inl y3))
  fun y6 =>
  .ret (.inl y6))
  (.ret (.inr ()))
def S_manifest_Put_l0 (n k : Nat) : CutF := mkS ⟨[(.snil none), (.val (.arr 4 (.sint .i64)) []), (.val (.sint .i64) (0 : Int))], [], 0⟩ [.d (.arr 4 (.sint .i64)), .d (.sint .i64)] fun v => .sub (F_manifest_Put_l0 n k (p0 v) (p1 v)) fun r => .alt r (fun r => .ret (.ex 0, [(.whole 0 1)], [⟨0, 1, .row .u8 r⟩], 2)) (fun r => .ret (.ex 0, [(.snil none)], [], 0))
theorem rd_manifest_Put_l0 (n k : Nat) : Rounds Try.prog (Go.Func.ntmps Try.f25) (bodyOf Try.f25 0) C_25_0 [S_manifest_Put_l0 n k, S_manifest_Put_l0_1 n k] (S_manifest_Put_l0 n (k + 1)) :=
  rounds_go (tab := mkTab [(79, ⟨S_codec_Number n, [], [], false⟩)]) (cuts := mkCuts []) (S_manifest_Put_l0 n k) [S_manifest_Put_l0_1 n k] (.cons (ok_codec_Number n) ⟨_, Try.func79, by kernel_rfl⟩ .nil) (.none0 (by kernel_rfl)) rfl (fun v => by kernel_rfl)
theorem ok_manifest_Put_l0 (n k : Nat) : SoundC Try.prog (Go.Func.ntmps Try.f25) (.loop (bodyOf Try.f25 0)) (wr (bodyOf Try.f25 0)) (C_25_0 (S_manifest_Put_l0 n k)) :=
  loop_go (K := fun k => [S_manifest_Put_l0 n k, S_manifest_Put_l0_1 n k]) (fun _ => rfl) (by kernel_rfl) ⟨z_go fun _ => by kernel_rfl, z_go fun _ => by kernel_rfl, trivial⟩ (fun k => ⟨rd_manifest_Put_l0 n k, (rd_manifest_Put_l0_1 n k).mono (List.forall_mem_cons.2 ⟨(.tail _ (.head _)), (fun _ h => by cases h)⟩), trivial⟩) k rfl
def C_25_2 : CutF → Cut := fun κ => ⟨[3, 32, 33, 34], fun e => match e with | .ex i => bif Nat.beq i 2 then [3] else [] | .rt => [] | .nm => [] | .go i => [], κ⟩
def F_codec_Text (n : Nat) (x0 : List UInt8) (x1 : List UInt8) : Tree (List UInt8) :=
  .sub (F_codec_Number_1 n (ln x1) x0) fun y2 =>
  .get (appI 140737488355328 y2 x1) fun y3 =>
  .ret y3
def S_codec_Text (n : Nat) : Summ := mkS ⟨[(.whole 0 1), (.whole 2 1)], [⟨0, 1, .row .u8 []⟩, ⟨2, 3, .row .u8 []⟩], 4⟩ [.d (.list .u8), .d (.list .u8)] fun v => .sub (F_codec_Text n (p0 v) (p1 v)) fun r => .ret ((.whole 4 1), [⟨4, 5, .row .u8 r⟩, ⟨0, 7, .row .u8 (p0 v)⟩, ⟨2, 9, .row .u8 (p1 v)⟩], 10)
theorem ok_codec_Text (n : Nat) : SoundF Try.prog 80 (S_codec_Text n) :=
  fn_go false (c := codeOf Try.f80) (tab := mkTab [(79, ⟨S_codec_Number_1 n, [], [], false⟩)]) (cuts := mkCuts []) Try.func80 (by kernel_rfl) (.cons (ok_codec_Number_1 n) ⟨_, Try.func79, by kernel_rfl⟩ .nil) (.none0 (by kernel_rfl)) (fun v => by kernel_rfl)
def F_manifest_Put_l2 (n : Nat) : Nat → (Bool) → (List (List UInt8 × List UInt8)) → (Int) → (Int) → (List UInt8) → Tree (Unit ⊕ (List UInt8))
 | 0 => fun  x0 x1 x2 x3 x4 => .fail
 | k + 1 => fun x0 x1 x2 x3 x4 =>
  .ite (decide (x3 < x2))
  (.get (getI x1 x3) fun y5 =>
  .get (bytesI y5.1) fun y6 =>
  .get (Tree.run (F_codec_Text n x4 y6)) fun y7 =>
  .get (Option.some Unit.unit) fun y8 =>
  .get (appI 140737488355328 y7 (List.take 32 (List.drop 0 y5.2))) fun y9 =>
  .sub (F_manifest_Put_l2 n k x0 x1 x2 (w64 (x3 + (1 : Int))) y9) fun y10 =>
  .alt y10 (fun y11 =>
  .ret (.inr y9))
  fun y12 =>
  .ret (.inr y12))
  (.ret (.inl ()))
def S_manifest_Put_l2 (n k : Nat) : CutF := mkS ⟨[(.whole 0 1), (.ro false T1 []), (.val (.sint .i64) (0 : Int)), (.val (.sint .i64) (0 : Int))], [⟨0, 1, .row .u8 []⟩], 2⟩ [.c, .d T3, .d (.sint .i64), .d (.sint .i64), .d (.list .u8)] fun v => .sub (F_manifest_Put_l2 n k (p0 v) (p1 v) (p2 v) (p3 v) (p4 v)) fun r => .alt r (fun r => .ret (.ex 2, [(.whole 0 1)], [⟨0, 3, .row .u8 (p4 v)⟩], 4)) (fun r => .ret (.ex 2, [(.whole 2 1)], [⟨2, 3, .row .u8 r⟩, ⟨0, 5, .row .u8 (p4 v)⟩], 6))
theorem rd_manifest_Put_l2 (n k : Nat) : Rounds Try.prog (Go.Func.ntmps Try.f25) (bodyOf Try.f25 2) C_25_2 [S_manifest_Put_l2 n k] (S_manifest_Put_l2 n (k + 1)) :=
  rounds_go (tab := mkTab [(80, ⟨S_codec_Text n, [], [], false⟩)]) (cuts := mkCuts []) (S_manifest_Put_l2 n k) [] (.cons (ok_codec_Text n) ⟨_, Try.func80, by kernel_rfl⟩ .nil) (.none0 (by kernel_rfl)) rfl (fun v => by kernel_rfl)
theorem ok_manifest_Put_l2 (n k : Nat) : SoundC Try.prog (Go.Func.ntmps Try.f25) (.loop (bodyOf Try.f25 2)) (wr (bodyOf Try.f25 2)) (C_25_2 (S_manifest_Put_l2 n k)) :=
  loop_go (K := fun k => [S_manifest_Put_l2 n k]) (fun _ => rfl) (by kernel_rfl) ⟨z_go fun _ => by kernel_rfl, trivial⟩ (fun k => ⟨rd_manifest_Put_l2 n k, trivial⟩) k rfl
def C_25_4 : CutF → Cut := fun κ => ⟨[3, 53, 54, 55], fun e => match e with | .ex i => bif Nat.beq i 4 then [3] else [] | .rt => [] | .nm => [] | .go i => [], κ⟩
def F_manifest_Put_l4 (n : Nat) : Nat → (Bool) → (List (Int × List UInt8)) → (Int) → (Int) → (List UInt8) → Tree (Unit ⊕ (List UInt8))
 | 0 => fun  x0 x1 x2 x3 x4 => .fail
 | k + 1 => fun x0 x1 x2 x3 x4 =>
  .ite (decide (x3 < x2))
  (.get (getI x1 x3) fun y5 =>
  .get (Tree.run (F_codec_Number_1 n y5.1 x4)) fun y6 =>
  .get (Option.some Unit.unit) fun y7 =>
  .get (appI 140737488355328 y6 (List.take 32 (List.drop 0 y5.2))) fun y8 =>
  .sub (F_manifest_Put_l4 n k x0 x1 x2 (w64 (x3 + (1 : Int))) y8) fun y9 =>
  .alt y9 (fun y10 =>
  .ret (.inr y8))
  fun y11 =>
  .ret (.inr y11))
  (.ret (.inl ()))
def S_manifest_Put_l4 (n k : Nat) : CutF := mkS ⟨[(.whole 0 1), (.ro false T2 []), (.val (.sint .i64) (0 : Int)), (.val (.sint .i64) (0 : Int))], [⟨0, 1, .row .u8 []⟩], 2⟩ [.c, .d T4, .d (.sint .i64), .d (.sint .i64), .d (.list .u8)] fun v => .sub (F_manifest_Put_l4 n k (p0 v) (p1 v) (p2 v) (p3 v) (p4 v)) fun r => .alt r (fun r => .ret (.ex 4, [(.whole 0 1)], [⟨0, 3, .row .u8 (p4 v)⟩], 4)) (fun r => .ret (.ex 4, [(.whole 2 1)], [⟨2, 3, .row .u8 r⟩, ⟨0, 5, .row .u8 (p4 v)⟩], 6))
theorem rd_manifest_Put_l4 (n k : Nat) : Rounds Try.prog (Go.Func.ntmps Try.f25) (bodyOf Try.f25 4) C_25_4 [S_manifest_Put_l4 n k] (S_manifest_Put_l4 n (k + 1)) :=
  rounds_go (tab := mkTab [(79, ⟨S_codec_Number_1 n, [], [], false⟩)]) (cuts := mkCuts []) (S_manifest_Put_l4 n k) [] (.cons (ok_codec_Number_1 n) ⟨_, Try.func79, by kernel_rfl⟩ .nil) (.none0 (by kernel_rfl)) rfl (fun v => by kernel_rfl)
theorem ok_manifest_Put_l4 (n k : Nat) : SoundC Try.prog (Go.Func.ntmps Try.f25) (.loop (bodyOf Try.f25 4)) (wr (bodyOf Try.f25 4)) (C_25_4 (S_manifest_Put_l4 n k)) :=
  loop_go (K := fun k => [S_manifest_Put_l4 n k]) (fun _ => rfl) (by kernel_rfl) ⟨z_go fun _ => by kernel_rfl, trivial⟩ (fun k => ⟨rd_manifest_Put_l4 n k, trivial⟩) k rfl
def F_manifest_Put (n : Nat) (x0 : Int) (x1 : Int) (x2 : Int) (x3 : Int) (x4 : Bool) (x5 : List (List UInt8 × List UInt8)) (x6 : Bool) (x7 : List (Int × List UInt8)) : Tree (List UInt8) :=
  .sub (F_manifest_Put_l0 n n (List.set (List.set (List.set (List.set ([(0 : Int), (0 : Int), (0 : Int), (0 : Int)] : List Int) 0 x0) 1 x1) 2 x2) 3 x3) (0 : Int)) fun y8 =>
  .alt y8 (fun y9 =>
  .sub (F_codec_Number_1 n (ln x5) y9) fun y10 =>
  .sub (F_manifest_Put_l2 n n x4 x5 (ln x5) (0 : Int) y10) fun y11 =>
  .alt y11 (fun y12 =>
  .sub (F_codec_Number_1 n (ln x7) y10) fun y13 =>
  .sub (F_manifest_Put_l4 n n x6 x7 (ln x7) (0 : Int) y13) fun y14 =>
  .alt y14 (fun y15 =>
  .ret y13)
  fun y16 =>
  .ret y16)
  fun y17 =>
  .sub (F_codec_Number_1 n (ln x7) y17) fun y18 =>
  .sub (F_manifest_Put_l4 n n x6 x7 (ln x7) (0 : Int) y18) fun y19 =>
  .alt y19 (fun y20 =>
  .ret y18)
  fun y21 =>
  .ret y21)
  fun y22 =>
  .sub (F_codec_Number n (ln x5)) fun y23 =>
  .sub (F_manifest_Put_l2 n n x4 x5 (ln x5) (0 : Int) y23) fun y24 =>
  .alt y24 (fun y25 =>
  .sub (F_codec_Number_1 n (ln x7) y23) fun y26 =>
  .sub (F_manifest_Put_l4 n n x6 x7 (ln x7) (0 : Int) y26) fun y27 =>
  .alt y27 (fun y28 =>
  .ret y26)
  fun y29 =>
  .ret y29)
  fun y30 =>
  .sub (F_codec_Number_1 n (ln x7) y30) fun y31 =>
  .sub (F_manifest_Put_l4 n n x6 x7 (ln x7) (0 : Int) y31) fun y32 =>
  .alt y32 (fun y33 =>
  .ret y31)
  fun y34 =>
  .ret y34
def S_manifest_Put (n : Nat) : Summ := mkS ⟨[(.agg (.pr (.val (.sint .i64) (0 : Int)) (.pr (.val (.sint .i64) (0 : Int)) (.pr (.val (.sint .i64) (0 : Int)) (.pr (.val (.sint .i64) (0 : Int)) (.pr (.ro false T1 []) (.pr (.ro false T2 []) .un)))))))], [], 0⟩ [.d (.sint .i64), .d (.sint .i64), .d (.sint .i64), .d (.sint .i64), .c, .d T3, .c, .d T4] fun v => .sub (F_manifest_Put n (p0 v) (p1 v) (p2 v) (p3 v) (p4 v) (p5 v) (p6 v) (p7 v)) fun r => .ret ((.whole 0 1), [⟨0, 1, .row .u8 r⟩], 2)
theorem ok_manifest_Put (n : Nat) : SoundF Try.prog 25 (S_manifest_Put n) :=
  fn_go false (c := codeOf Try.f25) (tab := mkTab [(79, ⟨orS (S_codec_Number_1 n) (S_codec_Number n), [], [], false⟩)]) (cuts := mkCuts [(0, C_25_0 (S_manifest_Put_l0 n n)), (2, C_25_2 (S_manifest_Put_l2 n n)), (4, C_25_4 (S_manifest_Put_l4 n n))]) Try.func25 (by kernel_rfl) (.cons (.or (ok_codec_Number_1 n) (ok_codec_Number n)) ⟨_, Try.func79, by kernel_rfl⟩ .nil) (CutsOK.list (l := [(0, .lp (bodyOf Try.f25 0)), (2, .lp (bodyOf Try.f25 2)), (4, .lp (bodyOf Try.f25 4))]) (by kernel_rfl) (LoopsOK.all ⟨.inr ⟨_, rfl, ok_manifest_Put_l0 n n⟩, ⟨.inr ⟨_, rfl, ok_manifest_Put_l2 n n⟩, ⟨.inr ⟨_, rfl, ok_manifest_Put_l4 n n⟩, trivial⟩⟩⟩)) (fun v => by kernel_rfl)
def F_r17_digits_r (n : Nat) : Nat → (Int) → Tree (Unit ⊕ (List UInt8))
 | 0 => fun  x0 => .fail
 | k + 1 => fun x0 =>
  .ite (decide (x0 = (0 : Int)))
  (.ret (.inl ()))
  (.sub (F_r17_digits_r n k (quoI .i64 x0 (256 : Int))) fun y1 =>
  .alt y1 (fun y2 =>
  .get (appI 140737488355328 ([] : List UInt8) (List.set ([0] : List UInt8) 0 (int8 (Int.tmod x0 (256 : Int))))) fun y3 =>
  .ret (.inr y3))
  fun y4 =>
  .get (appI 140737488355328 y4 (List.set ([0] : List UInt8) 0 (int8 (Int.tmod x0 (256 : Int))))) fun y5 =>
  .ret (.inr y5))
def S_r17_digits_r (n k : Nat) : Summ := mkS ⟨[(.val (.sint .i64) (0 : Int))], [], 0⟩ [.d (.sint .i64)] fun v => .sub (F_r17_digits_r n k (p0 v)) fun r => .alt r (fun r => .ret ((.snil none), [], 0)) (fun r => .ret ((.whole 0 1), [⟨0, 1, .row .u8 r⟩], 2))
theorem ok_r17_digits_r (n k : Nat) : SoundF Try.prog 110 (S_r17_digits_r n k) :=
  rec_go (fz := false) (c := codeOf Try.f110) (tab := fun k => mkTab [(110, ⟨S_r17_digits_r n k, [], [], true⟩)]) (cuts := mkCuts []) Try.func110 (by kernel_rfl) (fun _ => by kernel_rfl) (fun k ih => .cons ih ⟨_, Try.func110, by kernel_rfl⟩ .nil) (.none0 (by kernel_rfl)) (fun k v => by kernel_rfl) k
def F_r17_digits (n : Nat) (x0 : Int) : Tree (Unit ⊕ (List UInt8)) := F_r17_digits_r n n x0
def S_r17_digits (n : Nat) : Summ := mkS ⟨[(.val (.sint .i64) (0 : Int))], [], 0⟩ [.d (.sint .i64)] fun v => .sub (F_r17_digits n (p0 v)) fun r => .alt r (fun r => .ret ((.snil none), [], 0)) (fun r => .ret ((.whole 0 1), [⟨0, 1, .row .u8 r⟩], 2))
theorem ok_r17_digits (n : Nat) : SoundF Try.prog 110 (S_r17_digits n) := ok_r17_digits_r n n
def F_r17_Number (n : Nat) (x0 : Int) : Tree (List UInt8) :=
  .sub (F_r17_digits n (minI (maxI x0 (0 : Int)) (9007199254740992 : Int))) fun y1 =>
  .alt y1 (fun y2 =>
  .get (appI 140737488355328 ([] : List UInt8) ([] : List UInt8)) fun y3 =>
  .get (appI 140737488355328 y3 ([0] : List UInt8)) fun y4 =>
  .get (appI 140737488355328 y4 ([] : List UInt8)) fun y5 =>
  .ret y5)
  fun y6 =>
  .get (appI 140737488355328 ([] : List UInt8) ([] : List UInt8)) fun y7 =>
  .get (appI 140737488355328 y7 (List.set ([0] : List UInt8) 0 (int8 (ln y6)))) fun y8 =>
  .get (appI 140737488355328 y8 y6) fun y9 =>
  .ret y9
def S_r17_Number (n : Nat) : Summ := mkS ⟨[(.snil none), (.val (.sint .i64) (0 : Int))], [], 0⟩ [.d (.sint .i64)] fun v => .sub (F_r17_Number n (p0 v)) fun r => .ret ((.whole 0 1), [⟨0, 1, .row .u8 r⟩], 2)
theorem ok_r17_Number (n : Nat) : SoundF Try.prog 81 (S_r17_Number n) :=
  fn_go false (c := codeOf Try.f81) (tab := mkTab [(110, ⟨S_r17_digits n, [], [], true⟩)]) (cuts := mkCuts []) Try.func81 (by kernel_rfl) (.cons (ok_r17_digits n) ⟨_, Try.func110, by kernel_rfl⟩ .nil) (.none0 (by kernel_rfl)) (fun v => by kernel_rfl)
def F_r17_Number_1 (n : Nat) (x0 : Int) (x1 : List UInt8) : Tree (List UInt8) :=
  .sub (F_r17_digits n (minI (maxI x0 (0 : Int)) (9007199254740992 : Int))) fun y2 =>
  .alt y2 (fun y3 =>
  .get (appI 140737488355328 ([] : List UInt8) x1) fun y4 =>
  .get (appI 140737488355328 y4 ([0] : List UInt8)) fun y5 =>
  .get (appI 140737488355328 y5 ([] : List UInt8)) fun y6 =>
  .ret y6)
  fun y7 =>
  .get (appI 140737488355328 ([] : List UInt8) x1) fun y8 =>
  .get (appI 140737488355328 y8 (List.set ([0] : List UInt8) 0 (int8 (ln y7)))) fun y9 =>
  .get (appI 140737488355328 y9 y7) fun y10 =>
  .ret y10
def S_r17_Number_1 (n : Nat) : Summ := mkS ⟨[(.whole 0 1), (.val (.sint .i64) (0 : Int))], [⟨0, 1, .row .u8 []⟩], 2⟩ [.d (.sint .i64), .d (.list .u8)] fun v => .sub (F_r17_Number_1 n (p0 v) (p1 v)) fun r => .ret ((.whole 2 1), [⟨2, 3, .row .u8 r⟩, ⟨0, 5, .row .u8 (p1 v)⟩], 6)
theorem ok_r17_Number_1 (n : Nat) : SoundF Try.prog 81 (S_r17_Number_1 n) :=
  fn_go false (c := codeOf Try.f81) (tab := mkTab [(110, ⟨S_r17_digits n, [], [], true⟩)]) (cuts := mkCuts []) Try.func81 (by kernel_rfl) (.cons (ok_r17_digits n) ⟨_, Try.func110, by kernel_rfl⟩ .nil) (.none0 (by kernel_rfl)) (fun v => by kernel_rfl)
def C_26_0 : CutF → Cut := fun κ => ⟨[1, 3, 4], fun e => match e with | .ex i => bif Nat.beq i 0 then [3] else [] | .rt => [] | .nm => [] | .go i => [], κ⟩
def F_r17_Text (n : Nat) (x0 : List UInt8) (x1 : List UInt8) : Tree (List UInt8) :=
  .sub (F_r17_Number_1 n (ln x1) x0) fun y2 =>
  .get (appI 140737488355328 y2 x1) fun y3 =>
  .ret y3
def S_r17_Text (n : Nat) : Summ := mkS ⟨[(.whole 0 1), (.whole 2 1)], [⟨0, 1, .row .u8 []⟩, ⟨2, 3, .row .u8 []⟩], 4⟩ [.d (.list .u8), .d (.list .u8)] fun v => .sub (F_r17_Text n (p0 v) (p1 v)) fun r => .ret ((.whole 4 1), [⟨4, 5, .row .u8 r⟩, ⟨0, 7, .row .u8 (p0 v)⟩, ⟨2, 9, .row .u8 (p1 v)⟩], 10)
theorem ok_r17_Text (n : Nat) : SoundF Try.prog 83 (S_r17_Text n) :=
  fn_go false (c := codeOf Try.f83) (tab := mkTab [(81, ⟨S_r17_Number_1 n, [], [], true⟩)]) (cuts := mkCuts []) Try.func83 (by kernel_rfl) (.cons (ok_r17_Number_1 n) ⟨_, Try.func81, by kernel_rfl⟩ .nil) (.none0 (by kernel_rfl)) (fun v => by kernel_rfl)
def C_82_0 : CutF → Cut := fun κ => ⟨[0, 3, 5], fun e => match e with | .ex i => bif Nat.beq i 0 then [0] else [] | .rt => [] | .nm => [] | .go i => [], κ⟩
def F_r23_id_l0 (n : Nat) : Nat → (Int) → (List UInt8) → (List UInt8) → Tree (Unit ⊕ (List UInt8))
 | 0 => fun  x0 x1 x2 => .fail
 | k + 1 => fun x0 x1 x2 =>
  .ite (decide (x0 < (32 : Int)))
  (.get (inI 32 x0) fun y3 =>
  .get (gt x2 y3) fun y4 =>
  .get (appI 140737488355328 x1 (List.set ([0] : List UInt8) 0 y4)) fun y5 =>
  .sub (F_r23_id_l0 n k (w64 (x0 + (1 : Int))) y5 x2) fun y6 =>
  .alt y6 (fun y7 =>
  .ret (.inr y5))
  fun y8 =>
  .ret (.inr y8))
  (.ret (.inl ()))
def S_r23_id_l0 (n k : Nat) : CutF := mkS ⟨[(.whole 0 1), (.ptr 2 0), (.val (.sint .i64) (0 : Int))], [⟨0, 1, .row .u8 []⟩, ⟨2, 3, .box (.val (.arr 32 .u8) [])⟩], 4⟩ [.d (.sint .i64), .d (.list .u8), .d (.arr 32 .u8)] fun v => .sub (F_r23_id_l0 n k (p0 v) (p1 v) (p2 v)) fun r => .alt r (fun r => .ret (.ex 0, [(.whole 0 1)], [⟨0, 5, .row .u8 (p1 v)⟩, ⟨2, 7, .box (.val (.arr 32 .u8) (p2 v))⟩], 8)) (fun r => .ret (.ex 0, [(.whole 4 1)], [⟨4, 5, .row .u8 r⟩, ⟨2, 7, .box (.val (.arr 32 .u8) (p2 v))⟩], 8))
theorem rd_r23_id_l0 (n k : Nat) : Rounds Try.prog (Go.Func.ntmps Try.f82) (bodyOf Try.f82 0) C_82_0 [S_r23_id_l0 n k] (S_r23_id_l0 n (k + 1)) :=
  rounds_go (tab := mkTab []) (cuts := mkCuts []) (S_r23_id_l0 n k) [] .nil (.none0 (by kernel_rfl)) rfl (fun v => by kernel_rfl)
theorem ok_r23_id_l0 (n k : Nat) : SoundC Try.prog (Go.Func.ntmps Try.f82) (.loop (bodyOf Try.f82 0)) (wr (bodyOf Try.f82 0)) (C_82_0 (S_r23_id_l0 n k)) :=
  loop_go (K := fun k => [S_r23_id_l0 n k]) (fun _ => rfl) (by kernel_rfl) ⟨z_go fun _ => by kernel_rfl, trivial⟩ (fun k => ⟨rd_r23_id_l0 n k, trivial⟩) k rfl
def F_r23_id (n : Nat) (x0 : List UInt8) (x1 : List UInt8) : Tree (Unit ⊕ (List UInt8)) :=
  .sub (F_r23_id_l0 n n (0 : Int) x1 x0) fun y2 =>
  .alt y2 (fun y3 =>
  .ret (.inl ()))
  fun y4 =>
  .ret (.inr y4)
def S_r23_id (n : Nat) : Summ := mkS ⟨[(.whole 0 1), (.val (.arr 32 .u8) [])], [⟨0, 1, .row .u8 []⟩], 2⟩ [.d (.arr 32 .u8), .d (.list .u8)] fun v => .sub (F_r23_id n (p0 v) (p1 v)) fun r => .alt r (fun r => .ret ((.whole 0 1), [⟨0, 3, .row .u8 (p1 v)⟩], 4)) (fun r => .ret ((.whole 2 1), [⟨2, 3, .row .u8 r⟩], 4))
theorem ok_r23_id (n : Nat) : SoundF Try.prog 82 (S_r23_id n) :=
  fn_go false (c := codeOf Try.f82) (tab := mkTab []) (cuts := mkCuts [(0, C_82_0 (S_r23_id_l0 n n))]) Try.func82 (by kernel_rfl) .nil (CutsOK.list (l := [(0, .lp (bodyOf Try.f82 0))]) (by kernel_rfl) (LoopsOK.all ⟨.inr ⟨_, rfl, ok_r23_id_l0 n n⟩, trivial⟩)) (fun v => by kernel_rfl)
def F_r23_Put_l0 (n : Nat) : Nat → (Int) → (Int) → (Int) → (Int) → (Int) → (Bool) → (List (List UInt8 × List UInt8)) → (Bool) → (List (Int × List UInt8)) → (List UInt8) → Tree (Unit ⊕ (List UInt8))
 | 0 => fun  x0 x1 x2 x3 x4 x5 x6 x7 x8 x9 => .fail
 | k + 1 => fun x0 x1 x2 x3 x4 x5 x6 x7 x8 x9 =>
  .ite (decide (x0 < (ln x6)))
  (.get (getI x6 x0) fun y10 =>
  .get (bytesI y10.1) fun y11 =>
  .get (Tree.run (F_r17_Text n x9 y11)) fun y12 =>
  .get (getI x6 x0) fun y13 =>
  .get (Tree.run (F_r23_id n y13.2 y12)) fun y14 =>
  .alt y14 (fun y15 =>
  .sub (F_r23_Put_l0 n k (w64 (x0 + (1 : Int))) x1 x2 x3 x4 x5 x6 x7 x8 y12) fun y16 =>
  .alt y16 (fun y17 =>
  .ret (.inr y12))
  fun y18 =>
  .ret (.inr y18))
  fun y19 =>
  .sub (F_r23_Put_l0 n k (w64 (x0 + (1 : Int))) x1 x2 x3 x4 x5 x6 x7 x8 y19) fun y20 =>
  .alt y20 (fun y21 =>
  .ret (.inr y19))
  fun y22 =>
  .ret (.inr y22))
  (.ret (.inl ()))
def S_r23_Put_l0 (n k : Nat) : CutF := mkS ⟨[(.ptr 0 0), (.whole 2 1), (.val (.sint .i64) (0 : Int))], [⟨0, 1, .box (.agg (.pr (.val (.sint .i64) (0 : Int)) (.pr (.val (.sint .i64) (0 : Int)) (.pr (.val (.sint .i64) (0 : Int)) (.pr (.val (.sint .i64) (0 : Int)) (.pr (.ro false T1 []) (.pr (.ro false T2 []) .un)))))))⟩, ⟨2, 3, .row .u8 []⟩], 4⟩ [.d (.sint .i64), .d (.sint .i64), .d (.sint .i64), .d (.sint .i64), .d (.sint .i64), .c, .d T3, .c, .d T4, .d (.list .u8)] fun v => .sub (F_r23_Put_l0 n k (p0 v) (p1 v) (p2 v) (p3 v) (p4 v) (p5 v) (p6 v) (p7 v) (p8 v) (p9 v)) fun r => .alt r (fun r => .ret (.ex 0, [(.whole 2 1)], [⟨2, 5, .row .u8 (p9 v)⟩, ⟨0, 7, .box (.agg (.pr (.val (.sint .i64) (p1 v)) (.pr (.val (.sint .i64) (p2 v)) (.pr (.val (.sint .i64) (p3 v)) (.pr (.val (.sint .i64) (p4 v)) (.pr (.ro (p5 v) T1 (p6 v)) (.pr (.ro (p7 v) T2 (p8 v)) .un)))))))⟩], 8)) (fun r => .ret (.ex 0, [(.whole 4 1)], [⟨4, 5, .row .u8 r⟩, ⟨0, 7, .box (.agg (.pr (.val (.sint .i64) (p1 v)) (.pr (.val (.sint .i64) (p2 v)) (.pr (.val (.sint .i64) (p3 v)) (.pr (.val (.sint .i64) (p4 v)) (.pr (.ro (p5 v) T1 (p6 v)) (.pr (.ro (p7 v) T2 (p8 v)) .un)))))))⟩, ⟨2, 9, .row .u8 (p9 v)⟩], 10))
theorem rd_r23_Put_l0 (n k : Nat) : Rounds Try.prog (Go.Func.ntmps Try.f26) (bodyOf Try.f26 0) C_26_0 [S_r23_Put_l0 n k] (S_r23_Put_l0 n (k + 1)) :=
  rounds_go (tab := mkTab [(83, ⟨S_r17_Text n, [], [], true⟩), (82, ⟨S_r23_id n, [], [], true⟩)]) (cuts := mkCuts []) (S_r23_Put_l0 n k) [] (.cons (ok_r17_Text n) ⟨_, Try.func83, by kernel_rfl⟩ (.cons (ok_r23_id n) ⟨_, Try.func82, by kernel_rfl⟩ .nil)) (.none0 (by kernel_rfl)) rfl (fun v => by kernel_rfl)
theorem ok_r23_Put_l0 (n k : Nat) : SoundC Try.prog (Go.Func.ntmps Try.f26) (.loop (bodyOf Try.f26 0)) (wr (bodyOf Try.f26 0)) (C_26_0 (S_r23_Put_l0 n k)) :=
  loop_go (K := fun k => [S_r23_Put_l0 n k]) (fun _ => rfl) (by kernel_rfl) ⟨z_go fun _ => by kernel_rfl, trivial⟩ (fun k => ⟨rd_r23_Put_l0 n k, trivial⟩) k rfl
def C_26_2 : CutF → Cut := fun κ => ⟨[1, 3, 5], fun e => match e with | .ex i => bif Nat.beq i 2 then [3] else [] | .rt => [] | .nm => [] | .go i => [], κ⟩
def F_r23_Put_l2 (n : Nat) : Nat → (Int) → (Int) → (Int) → (Int) → (Int) → (Bool) → (List (List UInt8 × List UInt8)) → (Bool) → (List (Int × List UInt8)) → (List UInt8) → Tree (Unit ⊕ (List UInt8))
 | 0 => fun  x0 x1 x2 x3 x4 x5 x6 x7 x8 x9 => .fail
 | k + 1 => fun x0 x1 x2 x3 x4 x5 x6 x7 x8 x9 =>
  .ite (decide (x0 < (ln x8)))
  (.get (getI x8 x0) fun y10 =>
  .get (Tree.run (F_r17_Number_1 n y10.1 x9)) fun y11 =>
  .get (getI x8 x0) fun y12 =>
  .get (Tree.run (F_r23_id n y12.2 y11)) fun y13 =>
  .alt y13 (fun y14 =>
  .sub (F_r23_Put_l2 n k (w64 (x0 + (1 : Int))) x1 x2 x3 x4 x5 x6 x7 x8 y11) fun y15 =>
  .alt y15 (fun y16 =>
  .ret (.inr y11))
  fun y17 =>
  .ret (.inr y17))
  fun y18 =>
  .sub (F_r23_Put_l2 n k (w64 (x0 + (1 : Int))) x1 x2 x3 x4 x5 x6 x7 x8 y18) fun y19 =>
  .alt y19 (fun y20 =>
  .ret (.inr y18))
  fun y21 =>
  .ret (.inr y21))
  (.ret (.inl ()))
def S_r23_Put_l2 (n k : Nat) : CutF := mkS ⟨[(.ptr 0 0), (.whole 2 1), (.val (.sint .i64) (0 : Int))], [⟨0, 1, .box (.agg (.pr (.val (.sint .i64) (0 : Int)) (.pr (.val (.sint .i64) (0 : Int)) (.pr (.val (.sint .i64) (0 : Int)) (.pr (.val (.sint .i64) (0 : Int)) (.pr (.ro false T1 []) (.pr (.ro false T2 []) .un)))))))⟩, ⟨2, 3, .row .u8 []⟩], 4⟩ [.d (.sint .i64), .d (.sint .i64), .d (.sint .i64), .d (.sint .i64), .d (.sint .i64), .c, .d T3, .c, .d T4, .d (.list .u8)] fun v => .sub (F_r23_Put_l2 n k (p0 v) (p1 v) (p2 v) (p3 v) (p4 v) (p5 v) (p6 v) (p7 v) (p8 v) (p9 v)) fun r => .alt r (fun r => .ret (.ex 2, [(.whole 2 1)], [⟨2, 5, .row .u8 (p9 v)⟩, ⟨0, 7, .box (.agg (.pr (.val (.sint .i64) (p1 v)) (.pr (.val (.sint .i64) (p2 v)) (.pr (.val (.sint .i64) (p3 v)) (.pr (.val (.sint .i64) (p4 v)) (.pr (.ro (p5 v) T1 (p6 v)) (.pr (.ro (p7 v) T2 (p8 v)) .un)))))))⟩], 8)) (fun r => .ret (.ex 2, [(.whole 4 1)], [⟨4, 5, .row .u8 r⟩, ⟨0, 7, .box (.agg (.pr (.val (.sint .i64) (p1 v)) (.pr (.val (.sint .i64) (p2 v)) (.pr (.val (.sint .i64) (p3 v)) (.pr (.val (.sint .i64) (p4 v)) (.pr (.ro (p5 v) T1 (p6 v)) (.pr (.ro (p7 v) T2 (p8 v)) .un)))))))⟩, ⟨2, 9, .row .u8 (p9 v)⟩], 10))
theorem rd_r23_Put_l2 (n k : Nat) : Rounds Try.prog (Go.Func.ntmps Try.f26) (bodyOf Try.f26 2) C_26_2 [S_r23_Put_l2 n k] (S_r23_Put_l2 n (k + 1)) :=
  rounds_go (tab := mkTab [(81, ⟨S_r17_Number_1 n, [], [], true⟩), (82, ⟨S_r23_id n, [], [], true⟩)]) (cuts := mkCuts []) (S_r23_Put_l2 n k) [] (.cons (ok_r17_Number_1 n) ⟨_, Try.func81, by kernel_rfl⟩ (.cons (ok_r23_id n) ⟨_, Try.func82, by kernel_rfl⟩ .nil)) (.none0 (by kernel_rfl)) rfl (fun v => by kernel_rfl)
theorem ok_r23_Put_l2 (n k : Nat) : SoundC Try.prog (Go.Func.ntmps Try.f26) (.loop (bodyOf Try.f26 2)) (wr (bodyOf Try.f26 2)) (C_26_2 (S_r23_Put_l2 n k)) :=
  loop_go (K := fun k => [S_r23_Put_l2 n k]) (fun _ => rfl) (by kernel_rfl) ⟨z_go fun _ => by kernel_rfl, trivial⟩ (fun k => ⟨rd_r23_Put_l2 n k, trivial⟩) k rfl
def F_r23_Put (n : Nat) (x0 : Int) (x1 : Int) (x2 : Int) (x3 : Int) (x4 : Bool) (x5 : List (List UInt8 × List UInt8)) (x6 : Bool) (x7 : List (Int × List UInt8)) : Tree (List UInt8) :=
  .get (Tree.run (F_r17_Number n x0)) fun y8 =>
  .get (Tree.run (F_r17_Number_1 n x1 y8)) fun y9 =>
  .get (Tree.run (F_r17_Number_1 n x2 y9)) fun y10 =>
  .get (Tree.run (F_r17_Number_1 n x3 y10)) fun y11 =>
  .sub (F_r17_Number_1 n (ln x5) y11) fun y12 =>
  .sub (F_r23_Put_l0 n n (0 : Int) x0 x1 x2 x3 x4 x5 x6 x7 y12) fun y13 =>
  .alt y13 (fun y14 =>
  .sub (F_r17_Number_1 n (ln x7) y12) fun y15 =>
  .sub (F_r23_Put_l2 n n (0 : Int) x0 x1 x2 x3 x4 x5 x6 x7 y15) fun y16 =>
  .alt y16 (fun y17 =>
  .ret y15)
  fun y18 =>
  .ret y18)
  fun y19 =>
  .sub (F_r17_Number_1 n (ln x7) y19) fun y20 =>
  .sub (F_r23_Put_l2 n n (0 : Int) x0 x1 x2 x3 x4 x5 x6 x7 y20) fun y21 =>
  .alt y21 (fun y22 =>
  .ret y20)
  fun y23 =>
  .ret y23
def S_r23_Put (n : Nat) : Summ := mkS ⟨[(.agg (.pr (.val (.sint .i64) (0 : Int)) (.pr (.val (.sint .i64) (0 : Int)) (.pr (.val (.sint .i64) (0 : Int)) (.pr (.val (.sint .i64) (0 : Int)) (.pr (.ro false T1 []) (.pr (.ro false T2 []) .un)))))))], [], 0⟩ [.d (.sint .i64), .d (.sint .i64), .d (.sint .i64), .d (.sint .i64), .c, .d T3, .c, .d T4] fun v => .sub (F_r23_Put n (p0 v) (p1 v) (p2 v) (p3 v) (p4 v) (p5 v) (p6 v) (p7 v)) fun r => .ret ((.whole 0 1), [⟨0, 1, .row .u8 r⟩], 2)
theorem ok_r23_Put (n : Nat) : SoundF Try.prog 26 (S_r23_Put n) :=
  fn_go false (c := codeOf Try.f26) (tab := mkTab [(81, ⟨orS (S_r17_Number n) (S_r17_Number_1 n), [], [], true⟩)]) (cuts := mkCuts [(0, C_26_0 (S_r23_Put_l0 n n)), (2, C_26_2 (S_r23_Put_l2 n n))]) Try.func26 (by kernel_rfl) (.cons (.or (ok_r17_Number n) (ok_r17_Number_1 n)) ⟨_, Try.func81, by kernel_rfl⟩ .nil) (CutsOK.list (l := [(0, .lp (bodyOf Try.f26 0)), (2, .lp (bodyOf Try.f26 2))]) (by kernel_rfl) (LoopsOK.all ⟨.inr ⟨_, rfl, ok_r23_Put_l0 n n⟩, ⟨.inr ⟨_, rfl, ok_r23_Put_l2 n n⟩, trivial⟩⟩)) (fun v => by kernel_rfl)
def C_27_0 : CutF → Cut := fun κ => ⟨[2, 3, 5], fun e => match e with | .ex i => bif Nat.beq i 0 then [] else [] | .rt => [4] | .nm => [] | .go i => [], κ⟩
def F_r23_Same_l0 (n : Nat) : Nat → (Int) → (Int) → (Int) → (Int) → (Int) → (Bool) → (List (List UInt8 × List UInt8)) → (Bool) → (List (Int × List UInt8)) → (Int) → (Int) → (Int) → (Int) → (Bool) → (List (List UInt8 × List UInt8)) → (Bool) → (List (Int × List UInt8)) → Tree (Unit ⊕ Unit)
 | 0 => fun  x0 x1 x2 x3 x4 x5 x6 x7 x8 x9 x10 x11 x12 x13 x14 x15 x16 => .fail
 | k + 1 => fun x0 x1 x2 x3 x4 x5 x6 x7 x8 x9 x10 x11 x12 x13 x14 x15 x16 =>
  .ite (decide (x0 < (ln x6)))
  (.get (getI x6 x0) fun y17 =>
  .get (getI x14 x0) fun y18 =>
  .ite (!(eqV T1 (y17.1, y17.2) (y18.1, y18.2)))
  (.ret (.inl ()))
  (.sub (F_r23_Same_l0 n k (w64 (x0 + (1 : Int))) x1 x2 x3 x4 x5 x6 x7 x8 x9 x10 x11 x12 x13 x14 x15 x16) fun y19 =>
  .alt y19 (fun y20 =>
  .ret (.inl ()))
  fun y21 =>
  .ret (.inr ())))
  (.ret (.inr ()))
def S_r23_Same_l0 (n k : Nat) : CutF := mkS ⟨[(.ptr 0 0), (.ptr 2 0), (.val (.sint .i64) (0 : Int))], [⟨0, 1, .box (.agg (.pr (.val (.sint .i64) (0 : Int)) (.pr (.val (.sint .i64) (0 : Int)) (.pr (.val (.sint .i64) (0 : Int)) (.pr (.val (.sint .i64) (0 : Int)) (.pr (.ro false T1 []) (.pr (.ro false T2 []) .un)))))))⟩, ⟨2, 3, .box (.agg (.pr (.val (.sint .i64) (0 : Int)) (.pr (.val (.sint .i64) (0 : Int)) (.pr (.val (.sint .i64) (0 : Int)) (.pr (.val (.sint .i64) (0 : Int)) (.pr (.ro false T1 []) (.pr (.ro false T2 []) .un)))))))⟩], 4⟩ [.d (.sint .i64), .d (.sint .i64), .d (.sint .i64), .d (.sint .i64), .d (.sint .i64), .c, .d T3, .c, .d T4, .d (.sint .i64), .d (.sint .i64), .d (.sint .i64), .d (.sint .i64), .c, .d T3, .c, .d T4] fun v => .sub (F_r23_Same_l0 n k (p0 v) (p1 v) (p2 v) (p3 v) (p4 v) (p5 v) (p6 v) (p7 v) (p8 v) (p9 v) (p10 v) (p11 v) (p12 v) (p13 v) (p14 v) (p15 v) (p16 v)) fun r => .alt r (fun r => .ret (.rt, [(.val .bool false)], [⟨0, 5, .box (.agg (.pr (.val (.sint .i64) (p1 v)) (.pr (.val (.sint .i64) (p2 v)) (.pr (.val (.sint .i64) (p3 v)) (.pr (.val (.sint .i64) (p4 v)) (.pr (.ro (p5 v) T1 (p6 v)) (.pr (.ro (p7 v) T2 (p8 v)) .un)))))))⟩, ⟨2, 7, .box (.agg (.pr (.val (.sint .i64) (p9 v)) (.pr (.val (.sint .i64) (p10 v)) (.pr (.val (.sint .i64) (p11 v)) (.pr (.val (.sint .i64) (p12 v)) (.pr (.ro (p13 v) T1 (p14 v)) (.pr (.ro (p15 v) T2 (p16 v)) .un)))))))⟩], 8)) (fun r => .ret (.ex 0, [], [⟨0, 5, .box (.agg (.pr (.val (.sint .i64) (p1 v)) (.pr (.val (.sint .i64) (p2 v)) (.pr (.val (.sint .i64) (p3 v)) (.pr (.val (.sint .i64) (p4 v)) (.pr (.ro (p5 v) T1 (p6 v)) (.pr (.ro (p7 v) T2 (p8 v)) .un)))))))⟩, ⟨2, 7, .box (.agg (.pr (.val (.sint .i64) (p9 v)) (.pr (.val (.sint .i64) (p10 v)) (.pr (.val (.sint .i64) (p11 v)) (.pr (.val (.sint .i64) (p12 v)) (.pr (.ro (p13 v) T1 (p14 v)) (.pr (.ro (p15 v) T2 (p16 v)) .un)))))))⟩], 8))
theorem rd_r23_Same_l0 (n k : Nat) : Rounds Try.prog (Go.Func.ntmps Try.f27) (bodyOf Try.f27 0) C_27_0 [S_r23_Same_l0 n k] (S_r23_Same_l0 n (k + 1)) :=
  rounds_go (tab := mkTab []) (cuts := mkCuts []) (S_r23_Same_l0 n k) [] .nil (.none0 (by kernel_rfl)) rfl (fun v => by kernel_rfl)
theorem ok_r23_Same_l0 (n k : Nat) : SoundC Try.prog (Go.Func.ntmps Try.f27) (.loop (bodyOf Try.f27 0)) (wr (bodyOf Try.f27 0)) (C_27_0 (S_r23_Same_l0 n k)) :=
  loop_go (K := fun k => [S_r23_Same_l0 n k]) (fun _ => rfl) (by kernel_rfl) ⟨z_go fun _ => by kernel_rfl, trivial⟩ (fun k => ⟨rd_r23_Same_l0 n k, trivial⟩) k rfl
def C_27_2 : CutF → Cut := fun κ => ⟨[2, 3, 6], fun e => match e with | .ex i => bif Nat.beq i 2 then [] else [] | .rt => [4] | .nm => [] | .go i => [], κ⟩
def F_r23_Same_l2 (n : Nat) : Nat → (Int) → (Int) → (Int) → (Int) → (Int) → (Bool) → (List (List UInt8 × List UInt8)) → (Bool) → (List (Int × List UInt8)) → (Int) → (Int) → (Int) → (Int) → (Bool) → (List (List UInt8 × List UInt8)) → (Bool) → (List (Int × List UInt8)) → Tree (Unit ⊕ Unit)
 | 0 => fun  x0 x1 x2 x3 x4 x5 x6 x7 x8 x9 x10 x11 x12 x13 x14 x15 x16 => .fail
 | k + 1 => fun x0 x1 x2 x3 x4 x5 x6 x7 x8 x9 x10 x11 x12 x13 x14 x15 x16 =>
  .ite (decide (x0 < (ln x8)))
  (.get (getI x8 x0) fun y17 =>
  .get (getI x16 x0) fun y18 =>
  .ite (!(eqV T2 (y17.1, y17.2) (y18.1, y18.2)))
  (.ret (.inl ()))
  (.sub (F_r23_Same_l2 n k (w64 (x0 + (1 : Int))) x1 x2 x3 x4 x5 x6 x7 x8 x9 x10 x11 x12 x13 x14 x15 x16) fun y19 =>
  .alt y19 (fun y20 =>
  .ret (.inl ()))
  fun y21 =>
  .ret (.inr ())))
  (.ret (.inr ()))
def S_r23_Same_l2 (n k : Nat) : CutF := mkS ⟨[(.ptr 0 0), (.ptr 2 0), (.val (.sint .i64) (0 : Int))], [⟨0, 1, .box (.agg (.pr (.val (.sint .i64) (0 : Int)) (.pr (.val (.sint .i64) (0 : Int)) (.pr (.val (.sint .i64) (0 : Int)) (.pr (.val (.sint .i64) (0 : Int)) (.pr (.ro false T1 []) (.pr (.ro false T2 []) .un)))))))⟩, ⟨2, 3, .box (.agg (.pr (.val (.sint .i64) (0 : Int)) (.pr (.val (.sint .i64) (0 : Int)) (.pr (.val (.sint .i64) (0 : Int)) (.pr (.val (.sint .i64) (0 : Int)) (.pr (.ro false T1 []) (.pr (.ro false T2 []) .un)))))))⟩], 4⟩ [.d (.sint .i64), .d (.sint .i64), .d (.sint .i64), .d (.sint .i64), .d (.sint .i64), .c, .d T3, .c, .d T4, .d (.sint .i64), .d (.sint .i64), .d (.sint .i64), .d (.sint .i64), .c, .d T3, .c, .d T4] fun v => .sub (F_r23_Same_l2 n k (p0 v) (p1 v) (p2 v) (p3 v) (p4 v) (p5 v) (p6 v) (p7 v) (p8 v) (p9 v) (p10 v) (p11 v) (p12 v) (p13 v) (p14 v) (p15 v) (p16 v)) fun r => .alt r (fun r => .ret (.rt, [(.val .bool false)], [⟨0, 5, .box (.agg (.pr (.val (.sint .i64) (p1 v)) (.pr (.val (.sint .i64) (p2 v)) (.pr (.val (.sint .i64) (p3 v)) (.pr (.val (.sint .i64) (p4 v)) (.pr (.ro (p5 v) T1 (p6 v)) (.pr (.ro (p7 v) T2 (p8 v)) .un)))))))⟩, ⟨2, 7, .box (.agg (.pr (.val (.sint .i64) (p9 v)) (.pr (.val (.sint .i64) (p10 v)) (.pr (.val (.sint .i64) (p11 v)) (.pr (.val (.sint .i64) (p12 v)) (.pr (.ro (p13 v) T1 (p14 v)) (.pr (.ro (p15 v) T2 (p16 v)) .un)))))))⟩], 8)) (fun r => .ret (.ex 2, [], [⟨0, 5, .box (.agg (.pr (.val (.sint .i64) (p1 v)) (.pr (.val (.sint .i64) (p2 v)) (.pr (.val (.sint .i64) (p3 v)) (.pr (.val (.sint .i64) (p4 v)) (.pr (.ro (p5 v) T1 (p6 v)) (.pr (.ro (p7 v) T2 (p8 v)) .un)))))))⟩, ⟨2, 7, .box (.agg (.pr (.val (.sint .i64) (p9 v)) (.pr (.val (.sint .i64) (p10 v)) (.pr (.val (.sint .i64) (p11 v)) (.pr (.val (.sint .i64) (p12 v)) (.pr (.ro (p13 v) T1 (p14 v)) (.pr (.ro (p15 v) T2 (p16 v)) .un)))))))⟩], 8))
theorem rd_r23_Same_l2 (n k : Nat) : Rounds Try.prog (Go.Func.ntmps Try.f27) (bodyOf Try.f27 2) C_27_2 [S_r23_Same_l2 n k] (S_r23_Same_l2 n (k + 1)) :=
  rounds_go (tab := mkTab []) (cuts := mkCuts []) (S_r23_Same_l2 n k) [] .nil (.none0 (by kernel_rfl)) rfl (fun v => by kernel_rfl)
theorem ok_r23_Same_l2 (n k : Nat) : SoundC Try.prog (Go.Func.ntmps Try.f27) (.loop (bodyOf Try.f27 2)) (wr (bodyOf Try.f27 2)) (C_27_2 (S_r23_Same_l2 n k)) :=
  loop_go (K := fun k => [S_r23_Same_l2 n k]) (fun _ => rfl) (by kernel_rfl) ⟨z_go fun _ => by kernel_rfl, trivial⟩ (fun k => ⟨rd_r23_Same_l2 n k, trivial⟩) k rfl
def F_r23_Same (n : Nat) (x0 : Int) (x1 : Int) (x2 : Int) (x3 : Int) (x4 : Bool) (x5 : List (List UInt8 × List UInt8)) (x6 : Bool) (x7 : List (Int × List UInt8)) (x8 : Int) (x9 : Int) (x10 : Int) (x11 : Int) (x12 : Bool) (x13 : List (List UInt8 × List UInt8)) (x14 : Bool) (x15 : List (Int × List UInt8)) : Tree Bool :=
  .ite ((!(decide (x0 = x8))) || ((!(decide (x1 = x9))) || ((!(decide (x2 = x10))) || ((!(decide (x3 = x11))) || ((!(decide ((ln x5) = (ln x13)))) || (!(decide ((ln x7) = (ln x15)))))))))
  (.ret false)
  (.sub (F_r23_Same_l0 n n (0 : Int) x0 x1 x2 x3 x4 x5 x6 x7 x8 x9 x10 x11 x12 x13 x14 x15) fun y16 =>
  .alt y16 (fun y17 =>
  .ret false)
  fun y18 =>
  .sub (F_r23_Same_l2 n n (0 : Int) x0 x1 x2 x3 x4 x5 x6 x7 x8 x9 x10 x11 x12 x13 x14 x15) fun y19 =>
  .alt y19 (fun y20 =>
  .ret false)
  fun y21 =>
  .ret true)
def S_r23_Same (n : Nat) : Summ := mkS ⟨[(.agg (.pr (.val (.sint .i64) (0 : Int)) (.pr (.val (.sint .i64) (0 : Int)) (.pr (.val (.sint .i64) (0 : Int)) (.pr (.val (.sint .i64) (0 : Int)) (.pr (.ro false T1 []) (.pr (.ro false T2 []) .un))))))), (.agg (.pr (.val (.sint .i64) (0 : Int)) (.pr (.val (.sint .i64) (0 : Int)) (.pr (.val (.sint .i64) (0 : Int)) (.pr (.val (.sint .i64) (0 : Int)) (.pr (.ro false T1 []) (.pr (.ro false T2 []) .un)))))))], [], 0⟩ [.d (.sint .i64), .d (.sint .i64), .d (.sint .i64), .d (.sint .i64), .c, .d T3, .c, .d T4, .d (.sint .i64), .d (.sint .i64), .d (.sint .i64), .d (.sint .i64), .c, .d T3, .c, .d T4] fun v => .sub (F_r23_Same n (p0 v) (p1 v) (p2 v) (p3 v) (p4 v) (p5 v) (p6 v) (p7 v) (p8 v) (p9 v) (p10 v) (p11 v) (p12 v) (p13 v) (p14 v) (p15 v)) fun r => .ret ((.val .bool r), [], 0)
theorem ok_r23_Same (n : Nat) : SoundF Try.prog 27 (S_r23_Same n) :=
  fn_go true (c := codeOf Try.f27) (tab := mkTab []) (cuts := mkCuts [(0, C_27_0 (S_r23_Same_l0 n n)), (2, C_27_2 (S_r23_Same_l2 n n))]) Try.func27 (by kernel_rfl) .nil (CutsOK.list (l := [(0, .lp (bodyOf Try.f27 0)), (2, .lp (bodyOf Try.f27 2))]) (by kernel_rfl) (LoopsOK.all ⟨.inr ⟨_, rfl, ok_r23_Same_l0 n n⟩, ⟨.inr ⟨_, rfl, ok_r23_Same_l2 n n⟩, trivial⟩⟩)) (fun v => by kernel_rfl)
def F_w23_ManifestTexts (n : Nat) (x0 : Int) (x1 : Int) (x2 : Int) (x3 : Int) (x4 : Bool) (x5 : List (List UInt8 × List UInt8)) (x6 : Bool) (x7 : List (Int × List UInt8)) (x8 : Bool) (x9 : List UInt8) : Tree Bool :=
  .sub (F_w23_few n x0 x1 x2 x3 x4 x5 x6 x7) fun y10 =>
  .ite ((!y10) || (decide ((8000 : Int) < (ln x9))))
  (.sub (F_w23_awake n) fun y11 =>
  .ret y11)
  (.sub (F_w23_own n x9) fun y12 =>
  .sub (F_manifest_Get n y12) fun y13 =>
  .alt y13 (fun y14 =>
  .sub (F_r23_Get n x8 x9) fun y15 =>
  .alt y15 (fun y16 =>
  .get (Tree.run (F_manifest_Right_1 n x0 x1 x2 x3 x4 x5 x6 x7)) fun y17 =>
  .get (Tree.run (F_r23_Right n x0 x1 x2 x3 x4 x5 x6 x7)) fun y18 =>
  .ite (BEq.beq y17 y18)
  (.get (Tree.run (F_manifest_Put n x0 x1 x2 x3 x4 x5 x6 x7)) fun y19 =>
  .get (Tree.run (F_r23_Put n x0 x1 x2 x3 x4 x5 x6 x7)) fun y20 =>
  .ite (decide (y19 = y20))
  (.get (Tree.run (F_r23_Same n (0 : Int) (0 : Int) (0 : Int) (0 : Int) false ([] : List ((List UInt8) × (List UInt8))) false ([] : List (Int × (List UInt8))) (0 : Int) (0 : Int) (0 : Int) (0 : Int) false ([] : List ((List UInt8) × (List UInt8))) false ([] : List (Int × (List UInt8))))) fun y21 =>
  .ite y21
  (.ite (decide (y14 = y16))
  (.ite (decide (y12 = x9))
  (.get (Tree.run (F_w23_awake n)) fun y22 =>
  .ret y22)
  (.ret false))
  (.ret false))
  (.ret false))
  (.ret false))
  (.ret false))
  fun y23 =>
  .get (Tree.run (F_manifest_Right_1 n x0 x1 x2 x3 x4 x5 x6 x7)) fun y24 =>
  .get (Tree.run (F_r23_Right n x0 x1 x2 x3 x4 x5 x6 x7)) fun y25 =>
  .ite (BEq.beq y24 y25)
  (.get (Tree.run (F_manifest_Put n x0 x1 x2 x3 x4 x5 x6 x7)) fun y26 =>
  .get (Tree.run (F_r23_Put n x0 x1 x2 x3 x4 x5 x6 x7)) fun y27 =>
  .ite (decide (y26 = y27))
  (.get (Tree.run (F_r23_Same n (0 : Int) (0 : Int) (0 : Int) (0 : Int) false ([] : List ((List UInt8) × (List UInt8))) false ([] : List (Int × (List UInt8))) y23.1 y23.2.1 y23.2.2.1 y23.2.2.2.1 false y23.2.2.2.2.1 false y23.2.2.2.2.2)) fun y28 =>
  .ite y28
  (.ite (decide (y14 = (0 : Int)))
  (.ite (decide (y12 = x9))
  (.get (Tree.run (F_w23_awake n)) fun y29 =>
  .ret y29)
  (.ret false))
  (.ret false))
  (.ret false))
  (.ret false))
  (.ret false))
  fun y30 =>
  .sub (F_r23_Get n x8 x9) fun y31 =>
  .alt y31 (fun y32 =>
  .get (Tree.run (F_manifest_Right_1 n x0 x1 x2 x3 x4 x5 x6 x7)) fun y33 =>
  .get (Tree.run (F_r23_Right n x0 x1 x2 x3 x4 x5 x6 x7)) fun y34 =>
  .ite (BEq.beq y33 y34)
  (.get (Tree.run (F_manifest_Put n x0 x1 x2 x3 x4 x5 x6 x7)) fun y35 =>
  .get (Tree.run (F_r23_Put n x0 x1 x2 x3 x4 x5 x6 x7)) fun y36 =>
  .ite (decide (y35 = y36))
  (.get (Tree.run (F_r23_Same n y30.1 y30.2.1 y30.2.2.1 y30.2.2.2.1 false y30.2.2.2.2.1 false y30.2.2.2.2.2 (0 : Int) (0 : Int) (0 : Int) (0 : Int) false ([] : List ((List UInt8) × (List UInt8))) false ([] : List (Int × (List UInt8))))) fun y37 =>
  .ite y37
  (.ite (decide ((0 : Int) = y32))
  (.ite (decide (y12 = x9))
  (.get (Tree.run (F_w23_awake n)) fun y38 =>
  .ret y38)
  (.ret false))
  (.ret false))
  (.ret false))
  (.ret false))
  (.ret false))
  fun y39 =>
  .get (Tree.run (F_manifest_Right_1 n x0 x1 x2 x3 x4 x5 x6 x7)) fun y40 =>
  .get (Tree.run (F_r23_Right n x0 x1 x2 x3 x4 x5 x6 x7)) fun y41 =>
  .ite (BEq.beq y40 y41)
  (.get (Tree.run (F_manifest_Put n x0 x1 x2 x3 x4 x5 x6 x7)) fun y42 =>
  .get (Tree.run (F_r23_Put n x0 x1 x2 x3 x4 x5 x6 x7)) fun y43 =>
  .ite (decide (y42 = y43))
  (.get (Tree.run (F_r23_Same n y30.1 y30.2.1 y30.2.2.1 y30.2.2.2.1 false y30.2.2.2.2.1 false y30.2.2.2.2.2 y39.1 y39.2.1 y39.2.2.1 y39.2.2.2.1 false y39.2.2.2.2.1 false y39.2.2.2.2.2)) fun y44 =>
  .ite y44
  (.ite true
  (.ite (decide (y12 = x9))
  (.get (Tree.run (F_w23_awake n)) fun y45 =>
  .ret y45)
  (.ret false))
  (.ret false))
  (.ret false))
  (.ret false))
  (.ret false))
def S_w23_ManifestTexts (n : Nat) : Summ := mkS ⟨[(.agg (.pr (.val (.sint .i64) (0 : Int)) (.pr (.val (.sint .i64) (0 : Int)) (.pr (.val (.sint .i64) (0 : Int)) (.pr (.val (.sint .i64) (0 : Int)) (.pr (.ro false T1 []) (.pr (.ro false T2 []) .un))))))), (.ro false .u8 [])], [], 0⟩ [.d (.sint .i64), .d (.sint .i64), .d (.sint .i64), .d (.sint .i64), .c, .d T3, .c, .d T4, .c, .d (.list .u8)] fun v => .sub (F_w23_ManifestTexts n (p0 v) (p1 v) (p2 v) (p3 v) (p4 v) (p5 v) (p6 v) (p7 v) (p8 v) (p9 v)) fun r => .ret ((.val .bool r), [], 0)
theorem ok_w23_ManifestTexts (n : Nat) : SoundF Try.prog 4 (S_w23_ManifestTexts n) :=
  fn_go true (c := codeOf Try.f4) (tab := mkTab [(18, ⟨S_w23_few n, [], [], false⟩), (19, ⟨S_w23_awake n, [], [], false⟩), (20, ⟨S_w23_own n, [], [], false⟩), (21, ⟨S_manifest_Get n, [], [], false⟩), (22, ⟨S_r23_Get n, [], [], true⟩), (23, ⟨S_manifest_Right_1 n, [], [], true⟩), (24, ⟨S_r23_Right n, [], [], true⟩), (25, ⟨S_manifest_Put n, [], [], true⟩), (26, ⟨S_r23_Put n, [], [], true⟩), (27, ⟨S_r23_Same n, [], [], true⟩)]) (cuts := mkCuts []) Try.func4 (by kernel_rfl) (.cons (ok_w23_few n) ⟨_, Try.func18, by kernel_rfl⟩ (.cons (ok_w23_awake n) ⟨_, Try.func19, by kernel_rfl⟩ (.cons (ok_w23_own n) ⟨_, Try.func20, by kernel_rfl⟩ (.cons (ok_manifest_Get n) ⟨_, Try.func21, by kernel_rfl⟩ (.cons (ok_r23_Get n) ⟨_, Try.func22, by kernel_rfl⟩ (.cons (ok_manifest_Right_1 n) ⟨_, Try.func23, by kernel_rfl⟩ (.cons (ok_r23_Right n) ⟨_, Try.func24, by kernel_rfl⟩ (.cons (ok_manifest_Put n) ⟨_, Try.func25, by kernel_rfl⟩ (.cons (ok_r23_Put n) ⟨_, Try.func26, by kernel_rfl⟩ (.cons (ok_r23_Same n) ⟨_, Try.func27, by kernel_rfl⟩ .nil)))))))))) (.none0 (by kernel_rfl)) (fun v => by kernel_rfl)
def F_r23_Same_l0_1 (n : Nat) : Nat → (Int) → (Int) → (Int) → (Int) → (Int) → (Bool) → (List (List UInt8 × List UInt8)) → (Bool) → (List (Int × List UInt8)) → (Int) → (Int) → (Int) → (Int) → (List (List UInt8 × List UInt8)) → (List (Int × List UInt8)) → Tree (Unit ⊕ Unit)
 | 0 => fun  x0 x1 x2 x3 x4 x5 x6 x7 x8 x9 x10 x11 x12 x13 x14 => .fail
 | k + 1 => fun x0 x1 x2 x3 x4 x5 x6 x7 x8 x9 x10 x11 x12 x13 x14 =>
  .ite (decide (x0 < (ln x6)))
  (.get (getI x6 x0) fun y15 =>
  .get (inI (List.length x13) x0) fun y16 =>
  .get (gt x13 (0 + y16)) fun y17 =>
  .ite (!(eqV T1 (y15.1, y15.2) (y17.1, y17.2)))
  (.ret (.inl ()))
  (.sub (F_r23_Same_l0_1 n k (w64 (x0 + (1 : Int))) x1 x2 x3 x4 x5 x6 x7 x8 x9 x10 x11 x12 x13 x14) fun y18 =>
  .alt y18 (fun y19 =>
  .ret (.inl ()))
  fun y20 =>
  .ret (.inr ())))
  (.ret (.inr ()))
def S_r23_Same_l0_1 (n k : Nat) : CutF := mkS ⟨[(.ptr 0 0), (.ptr 2 0), (.val (.sint .i64) (0 : Int))], [⟨0, 1, .box (.agg (.pr (.val (.sint .i64) (0 : Int)) (.pr (.val (.sint .i64) (0 : Int)) (.pr (.val (.sint .i64) (0 : Int)) (.pr (.val (.sint .i64) (0 : Int)) (.pr (.ro false T1 []) (.pr (.ro false T2 []) .un)))))))⟩, ⟨2, 3, .box (.agg (.pr (.val (.sint .i64) (0 : Int)) (.pr (.val (.sint .i64) (0 : Int)) (.pr (.val (.sint .i64) (0 : Int)) (.pr (.val (.sint .i64) (0 : Int)) (.pr (.whole 4 33) (.pr (.whole 6 33) .un)))))))⟩, ⟨4, 5, .row T1 []⟩, ⟨6, 7, .row T2 []⟩], 8⟩ [.d (.sint .i64), .d (.sint .i64), .d (.sint .i64), .d (.sint .i64), .d (.sint .i64), .c, .d T3, .c, .d T4, .d (.sint .i64), .d (.sint .i64), .d (.sint .i64), .d (.sint .i64), .d T3, .d T4] fun v => .sub (F_r23_Same_l0_1 n k (p0 v) (p1 v) (p2 v) (p3 v) (p4 v) (p5 v) (p6 v) (p7 v) (p8 v) (p9 v) (p10 v) (p11 v) (p12 v) (p13 v) (p14 v)) fun r => .alt r (fun r => .ret (.rt, [(.val .bool false)], [⟨0, 9, .box (.agg (.pr (.val (.sint .i64) (p1 v)) (.pr (.val (.sint .i64) (p2 v)) (.pr (.val (.sint .i64) (p3 v)) (.pr (.val (.sint .i64) (p4 v)) (.pr (.ro (p5 v) T1 (p6 v)) (.pr (.ro (p7 v) T2 (p8 v)) .un)))))))⟩, ⟨2, 11, .box (.agg (.pr (.val (.sint .i64) (p9 v)) (.pr (.val (.sint .i64) (p10 v)) (.pr (.val (.sint .i64) (p11 v)) (.pr (.val (.sint .i64) (p12 v)) (.pr (.whole 12 33) (.pr (.whole 14 33) .un)))))))⟩, ⟨12, 13, .row T1 (p13 v)⟩, ⟨14, 15, .row T2 (p14 v)⟩], 16)) (fun r => .ret (.ex 0, [], [⟨0, 9, .box (.agg (.pr (.val (.sint .i64) (p1 v)) (.pr (.val (.sint .i64) (p2 v)) (.pr (.val (.sint .i64) (p3 v)) (.pr (.val (.sint .i64) (p4 v)) (.pr (.ro (p5 v) T1 (p6 v)) (.pr (.ro (p7 v) T2 (p8 v)) .un)))))))⟩, ⟨2, 11, .box (.agg (.pr (.val (.sint .i64) (p9 v)) (.pr (.val (.sint .i64) (p10 v)) (.pr (.val (.sint .i64) (p11 v)) (.pr (.val (.sint .i64) (p12 v)) (.pr (.whole 12 33) (.pr (.whole 14 33) .un)))))))⟩, ⟨12, 13, .row T1 (p13 v)⟩, ⟨14, 15, .row T2 (p14 v)⟩], 16))
theorem rd_r23_Same_l0_1 (n k : Nat) : Rounds Try.prog (Go.Func.ntmps Try.f27) (bodyOf Try.f27 0) C_27_0 [S_r23_Same_l0_1 n k] (S_r23_Same_l0_1 n (k + 1)) :=
  rounds_go (tab := mkTab []) (cuts := mkCuts []) (S_r23_Same_l0_1 n k) [] .nil (.none0 (by kernel_rfl)) rfl (fun v => by kernel_rfl)
theorem ok_r23_Same_l0_1 (n k : Nat) : SoundC Try.prog (Go.Func.ntmps Try.f27) (.loop (bodyOf Try.f27 0)) (wr (bodyOf Try.f27 0)) (C_27_0 (S_r23_Same_l0_1 n k)) :=
  loop_go (K := fun k => [S_r23_Same_l0_1 n k]) (fun _ => rfl) (by kernel_rfl) ⟨z_go fun _ => by kernel_rfl, trivial⟩ (fun k => ⟨rd_r23_Same_l0_1 n k, trivial⟩) k rfl
def F_r23_Same_l2_1 (n : Nat) : Nat → (Int) → (Int) → (Int) → (Int) → (Int) → (Bool) → (List (List UInt8 × List UInt8)) → (Bool) → (List (Int × List UInt8)) → (Int) → (Int) → (Int) → (Int) → (List (List UInt8 × List UInt8)) → (List (Int × List UInt8)) → Tree (Unit ⊕ Unit)
 | 0 => fun  x0 x1 x2 x3 x4 x5 x6 x7 x8 x9 x10 x11 x12 x13 x14 => .fail
 | k + 1 => fun x0 x1 x2 x3 x4 x5 x6 x7 x8 x9 x10 x11 x12 x13 x14 =>
  .ite (decide (x0 < (ln x8)))
  (.get (getI x8 x0) fun y15 =>
  .get (inI (List.length x14) x0) fun y16 =>
  .get (gt x14 (0 + y16)) fun y17 =>
  .ite (!(eqV T2 (y15.1, y15.2) (y17.1, y17.2)))
  (.ret (.inl ()))
  (.sub (F_r23_Same_l2_1 n k (w64 (x0 + (1 : Int))) x1 x2 x3 x4 x5 x6 x7 x8 x9 x10 x11 x12 x13 x14) fun y18 =>
  .alt y18 (fun y19 =>
  .ret (.inl ()))
  fun y20 =>
  .ret (.inr ())))
  (.ret (.inr ()))
def S_r23_Same_l2_1 (n k : Nat) : CutF := mkS ⟨[(.ptr 0 0), (.ptr 2 0), (.val (.sint .i64) (0 : Int))], [⟨0, 1, .box (.agg (.pr (.val (.sint .i64) (0 : Int)) (.pr (.val (.sint .i64) (0 : Int)) (.pr (.val (.sint .i64) (0 : Int)) (.pr (.val (.sint .i64) (0 : Int)) (.pr (.ro false T1 []) (.pr (.ro false T2 []) .un)))))))⟩, ⟨2, 3, .box (.agg (.pr (.val (.sint .i64) (0 : Int)) (.pr (.val (.sint .i64) (0 : Int)) (.pr (.val (.sint .i64) (0 : Int)) (.pr (.val (.sint .i64) (0 : Int)) (.pr (.whole 4 33) (.pr (.whole 6 33) .un)))))))⟩, ⟨4, 5, .row T1 []⟩, ⟨6, 7, .row T2 []⟩], 8⟩ [.d (.sint .i64), .d (.sint .i64), .d (.sint .i64), .d (.sint .i64), .d (.sint .i64), .c, .d T3, .c, .d T4, .d (.sint .i64), .d (.sint .i64), .d (.sint .i64), .d (.sint .i64), .d T3, .d T4] fun v => .sub (F_r23_Same_l2_1 n k (p0 v) (p1 v) (p2 v) (p3 v) (p4 v) (p5 v) (p6 v) (p7 v) (p8 v) (p9 v) (p10 v) (p11 v) (p12 v) (p13 v) (p14 v)) fun r => .alt r (fun r => .ret (.rt, [(.val .bool false)], [⟨0, 9, .box (.agg (.pr (.val (.sint .i64) (p1 v)) (.pr (.val (.sint .i64) (p2 v)) (.pr (.val (.sint .i64) (p3 v)) (.pr (.val (.sint .i64) (p4 v)) (.pr (.ro (p5 v) T1 (p6 v)) (.pr (.ro (p7 v) T2 (p8 v)) .un)))))))⟩, ⟨2, 11, .box (.agg (.pr (.val (.sint .i64) (p9 v)) (.pr (.val (.sint .i64) (p10 v)) (.pr (.val (.sint .i64) (p11 v)) (.pr (.val (.sint .i64) (p12 v)) (.pr (.whole 12 33) (.pr (.whole 14 33) .un)))))))⟩, ⟨12, 13, .row T1 (p13 v)⟩, ⟨14, 15, .row T2 (p14 v)⟩], 16)) (fun r => .ret (.ex 2, [], [⟨0, 9, .box (.agg (.pr (.val (.sint .i64) (p1 v)) (.pr (.val (.sint .i64) (p2 v)) (.pr (.val (.sint .i64) (p3 v)) (.pr (.val (.sint .i64) (p4 v)) (.pr (.ro (p5 v) T1 (p6 v)) (.pr (.ro (p7 v) T2 (p8 v)) .un)))))))⟩, ⟨2, 11, .box (.agg (.pr (.val (.sint .i64) (p9 v)) (.pr (.val (.sint .i64) (p10 v)) (.pr (.val (.sint .i64) (p11 v)) (.pr (.val (.sint .i64) (p12 v)) (.pr (.whole 12 33) (.pr (.whole 14 33) .un)))))))⟩, ⟨12, 13, .row T1 (p13 v)⟩, ⟨14, 15, .row T2 (p14 v)⟩], 16))
theorem rd_r23_Same_l2_1 (n k : Nat) : Rounds Try.prog (Go.Func.ntmps Try.f27) (bodyOf Try.f27 2) C_27_2 [S_r23_Same_l2_1 n k] (S_r23_Same_l2_1 n (k + 1)) :=
  rounds_go (tab := mkTab []) (cuts := mkCuts []) (S_r23_Same_l2_1 n k) [] .nil (.none0 (by kernel_rfl)) rfl (fun v => by kernel_rfl)
theorem ok_r23_Same_l2_1 (n k : Nat) : SoundC Try.prog (Go.Func.ntmps Try.f27) (.loop (bodyOf Try.f27 2)) (wr (bodyOf Try.f27 2)) (C_27_2 (S_r23_Same_l2_1 n k)) :=
  loop_go (K := fun k => [S_r23_Same_l2_1 n k]) (fun _ => rfl) (by kernel_rfl) ⟨z_go fun _ => by kernel_rfl, trivial⟩ (fun k => ⟨rd_r23_Same_l2_1 n k, trivial⟩) k rfl
def F_r23_Same_1 (n : Nat) (x0 : Int) (x1 : Int) (x2 : Int) (x3 : Int) (x4 : Bool) (x5 : List (List UInt8 × List UInt8)) (x6 : Bool) (x7 : List (Int × List UInt8)) (x8 : Int) (x9 : Int) (x10 : Int) (x11 : Int) : Tree Bool :=
  .ite ((!(decide (x0 = x8))) || ((!(decide (x1 = x9))) || ((!(decide (x2 = x10))) || ((!(decide (x3 = x11))) || ((!(decide ((ln x5) = (0 : Int)))) || (!(decide ((ln x7) = (0 : Int)))))))))
  (.ret false)
  (.sub (F_r23_Same_l0_1 n n (0 : Int) x0 x1 x2 x3 x4 x5 x6 x7 x8 x9 x10 x11 ([] : List ((List UInt8) × (List UInt8))) ([] : List (Int × (List UInt8)))) fun y12 =>
  .alt y12 (fun y13 =>
  .ret false)
  fun y14 =>
  .sub (F_r23_Same_l2_1 n n (0 : Int) x0 x1 x2 x3 x4 x5 x6 x7 x8 x9 x10 x11 ([] : List ((List UInt8) × (List UInt8))) ([] : List (Int × (List UInt8)))) fun y15 =>
  .alt y15 (fun y16 =>
  .ret false)
  fun y17 =>
  .ret true)
def S_r23_Same_1 (n : Nat) : Summ := mkS ⟨[(.agg (.pr (.val (.sint .i64) (0 : Int)) (.pr (.val (.sint .i64) (0 : Int)) (.pr (.val (.sint .i64) (0 : Int)) (.pr (.val (.sint .i64) (0 : Int)) (.pr (.ro false T1 []) (.pr (.ro false T2 []) .un))))))), (.agg (.pr (.val (.sint .i64) (0 : Int)) (.pr (.val (.sint .i64) (0 : Int)) (.pr (.val (.sint .i64) (0 : Int)) (.pr (.val (.sint .i64) (0 : Int)) (.pr (.snil (some T1)) (.pr (.snil (some T2)) .un)))))))], [], 0⟩ [.d (.sint .i64), .d (.sint .i64), .d (.sint .i64), .d (.sint .i64), .c, .d T3, .c, .d T4, .d (.sint .i64), .d (.sint .i64), .d (.sint .i64), .d (.sint .i64)] fun v => .sub (F_r23_Same_1 n (p0 v) (p1 v) (p2 v) (p3 v) (p4 v) (p5 v) (p6 v) (p7 v) (p8 v) (p9 v) (p10 v) (p11 v)) fun r => .ret ((.val .bool r), [], 0)
theorem ok_r23_Same_1 (n : Nat) : SoundF Try.prog 27 (S_r23_Same_1 n) :=
  fn_go true (c := codeOf Try.f27) (tab := mkTab []) (cuts := mkCuts [(0, C_27_0 (S_r23_Same_l0_1 n n)), (2, C_27_2 (S_r23_Same_l2_1 n n))]) Try.func27 (by kernel_rfl) .nil (CutsOK.list (l := [(0, .lp (bodyOf Try.f27 0)), (2, .lp (bodyOf Try.f27 2))]) (by kernel_rfl) (LoopsOK.all ⟨.inr ⟨_, rfl, ok_r23_Same_l0_1 n n⟩, ⟨.inr ⟨_, rfl, ok_r23_Same_l2_1 n n⟩, trivial⟩⟩)) (fun v => by kernel_rfl)
def F_w23_ManifestBack (n : Nat) (x0 : Int) (x1 : Int) (x2 : Int) (x3 : Int) (x4 : Bool) (x5 : List (List UInt8 × List UInt8)) (x6 : Bool) (x7 : List (Int × List UInt8)) (x8 : List UInt8) : Tree Bool :=
  .sub (F_w23_few n x0 x1 x2 x3 x4 x5 x6 x7) fun y9 =>
  .ite ((!y9) || (decide ((8000 : Int) < (ln x8))))
  (.sub (F_w23_awake n) fun y10 =>
  .ret y10)
  (.sub (F_manifest_Put n x0 x1 x2 x3 x4 x5 x6 x7) fun y11 =>
  .sub (F_manifest_Get n y11) fun y12 =>
  .alt y12 (fun y13 =>
  .sub (F_r23_Right n x0 x1 x2 x3 x4 x5 x6 x7) fun y14 =>
  .ite y14
  (.ite (!(decide (y13 = (0 : Int))))
  (.ret false)
  (.sub (F_r23_Same n (0 : Int) (0 : Int) (0 : Int) (0 : Int) false ([] : List ((List UInt8) × (List UInt8))) false ([] : List (Int × (List UInt8))) x0 x1 x2 x3 x4 x5 x6 x7) fun y15 =>
  .ite (!y15)
  (.ret false)
  (.sub (F_w23_own n x8) fun y16 =>
  .sub (F_manifest_Get n y16) fun y17 =>
  .alt y17 (fun y18 =>
  .ite (!(decide (y18 = (0 : Int))))
  (.sub (F_r23_Same_1 n (0 : Int) (0 : Int) (0 : Int) (0 : Int) false ([] : List ((List UInt8) × (List UInt8))) false ([] : List (Int × (List UInt8))) (0 : Int) (0 : Int) (0 : Int) (0 : Int)) fun y19 =>
  .ite y19
  (.sub (F_w23_awake n) fun y20 =>
  .ret y20)
  (.ret false))
  (.get (Tree.run (F_manifest_Put n (0 : Int) (0 : Int) (0 : Int) (0 : Int) false ([] : List ((List UInt8) × (List UInt8))) false ([] : List (Int × (List UInt8))))) fun y21 =>
  .ite (decide (y21 = x8))
  (.get (Tree.run (F_w23_awake n)) fun y22 =>
  .ret y22)
  (.ret false)))
  fun y23 =>
  .ite false
  (.sub (F_r23_Same_1 n y23.1 y23.2.1 y23.2.2.1 y23.2.2.2.1 false y23.2.2.2.2.1 false y23.2.2.2.2.2 (0 : Int) (0 : Int) (0 : Int) (0 : Int)) fun y24 =>
  .ite y24
  (.sub (F_w23_awake n) fun y25 =>
  .ret y25)
  (.ret false))
  (.get (Tree.run (F_manifest_Put n y23.1 y23.2.1 y23.2.2.1 y23.2.2.2.1 false y23.2.2.2.2.1 false y23.2.2.2.2.2)) fun y26 =>
  .ite (decide (y26 = x8))
  (.get (Tree.run (F_w23_awake n)) fun y27 =>
  .ret y27)
  (.ret false)))))
  (.sub (F_w23_own n x8) fun y28 =>
  .sub (F_manifest_Get n y28) fun y29 =>
  .alt y29 (fun y30 =>
  .ite (!(decide (y30 = (0 : Int))))
  (.sub (F_r23_Same_1 n (0 : Int) (0 : Int) (0 : Int) (0 : Int) false ([] : List ((List UInt8) × (List UInt8))) false ([] : List (Int × (List UInt8))) (0 : Int) (0 : Int) (0 : Int) (0 : Int)) fun y31 =>
  .ite y31
  (.sub (F_w23_awake n) fun y32 =>
  .ret y32)
  (.ret false))
  (.get (Tree.run (F_manifest_Put n (0 : Int) (0 : Int) (0 : Int) (0 : Int) false ([] : List ((List UInt8) × (List UInt8))) false ([] : List (Int × (List UInt8))))) fun y33 =>
  .ite (decide (y33 = x8))
  (.get (Tree.run (F_w23_awake n)) fun y34 =>
  .ret y34)
  (.ret false)))
  fun y35 =>
  .ite false
  (.sub (F_r23_Same_1 n y35.1 y35.2.1 y35.2.2.1 y35.2.2.2.1 false y35.2.2.2.2.1 false y35.2.2.2.2.2 (0 : Int) (0 : Int) (0 : Int) (0 : Int)) fun y36 =>
  .ite y36
  (.sub (F_w23_awake n) fun y37 =>
  .ret y37)
  (.ret false))
  (.get (Tree.run (F_manifest_Put n y35.1 y35.2.1 y35.2.2.1 y35.2.2.2.1 false y35.2.2.2.2.1 false y35.2.2.2.2.2)) fun y38 =>
  .ite (decide (y38 = x8))
  (.get (Tree.run (F_w23_awake n)) fun y39 =>
  .ret y39)
  (.ret false))))
  fun y40 =>
  .sub (F_r23_Right n x0 x1 x2 x3 x4 x5 x6 x7) fun y41 =>
  .ite y41
  (.ite false
  (.ret false)
  (.sub (F_r23_Same n y40.1 y40.2.1 y40.2.2.1 y40.2.2.2.1 false y40.2.2.2.2.1 false y40.2.2.2.2.2 x0 x1 x2 x3 x4 x5 x6 x7) fun y42 =>
  .ite (!y42)
  (.ret false)
  (.sub (F_w23_own n x8) fun y43 =>
  .sub (F_manifest_Get n y43) fun y44 =>
  .alt y44 (fun y45 =>
  .ite (!(decide (y45 = (0 : Int))))
  (.sub (F_r23_Same_1 n (0 : Int) (0 : Int) (0 : Int) (0 : Int) false ([] : List ((List UInt8) × (List UInt8))) false ([] : List (Int × (List UInt8))) (0 : Int) (0 : Int) (0 : Int) (0 : Int)) fun y46 =>
  .ite y46
  (.sub (F_w23_awake n) fun y47 =>
  .ret y47)
  (.ret false))
  (.get (Tree.run (F_manifest_Put n (0 : Int) (0 : Int) (0 : Int) (0 : Int) false ([] : List ((List UInt8) × (List UInt8))) false ([] : List (Int × (List UInt8))))) fun y48 =>
  .ite (decide (y48 = x8))
  (.get (Tree.run (F_w23_awake n)) fun y49 =>
  .ret y49)
  (.ret false)))
  fun y50 =>
  .ite false
  (.sub (F_r23_Same_1 n y50.1 y50.2.1 y50.2.2.1 y50.2.2.2.1 false y50.2.2.2.2.1 false y50.2.2.2.2.2 (0 : Int) (0 : Int) (0 : Int) (0 : Int)) fun y51 =>
  .ite y51
  (.sub (F_w23_awake n) fun y52 =>
  .ret y52)
  (.ret false))
  (.get (Tree.run (F_manifest_Put n y50.1 y50.2.1 y50.2.2.1 y50.2.2.2.1 false y50.2.2.2.2.1 false y50.2.2.2.2.2)) fun y53 =>
  .ite (decide (y53 = x8))
  (.get (Tree.run (F_w23_awake n)) fun y54 =>
  .ret y54)
  (.ret false)))))
  (.sub (F_w23_own n x8) fun y55 =>
  .sub (F_manifest_Get n y55) fun y56 =>
  .alt y56 (fun y57 =>
  .ite (!(decide (y57 = (0 : Int))))
  (.sub (F_r23_Same_1 n (0 : Int) (0 : Int) (0 : Int) (0 : Int) false ([] : List ((List UInt8) × (List UInt8))) false ([] : List (Int × (List UInt8))) (0 : Int) (0 : Int) (0 : Int) (0 : Int)) fun y58 =>
  .ite y58
  (.sub (F_w23_awake n) fun y59 =>
  .ret y59)
  (.ret false))
  (.get (Tree.run (F_manifest_Put n (0 : Int) (0 : Int) (0 : Int) (0 : Int) false ([] : List ((List UInt8) × (List UInt8))) false ([] : List (Int × (List UInt8))))) fun y60 =>
  .ite (decide (y60 = x8))
  (.get (Tree.run (F_w23_awake n)) fun y61 =>
  .ret y61)
  (.ret false)))
  fun y62 =>
  .ite false
  (.sub (F_r23_Same_1 n y62.1 y62.2.1 y62.2.2.1 y62.2.2.2.1 false y62.2.2.2.2.1 false y62.2.2.2.2.2 (0 : Int) (0 : Int) (0 : Int) (0 : Int)) fun y63 =>
  .ite y63
  (.sub (F_w23_awake n) fun y64 =>
  .ret y64)
  (.ret false))
  (.get (Tree.run (F_manifest_Put n y62.1 y62.2.1 y62.2.2.1 y62.2.2.2.1 false y62.2.2.2.2.1 false y62.2.2.2.2.2)) fun y65 =>
  .ite (decide (y65 = x8))
  (.get (Tree.run (F_w23_awake n)) fun y66 =>
  .ret y66)
  (.ret false))))
def S_w23_ManifestBack (n : Nat) : Summ := mkS ⟨[(.agg (.pr (.val (.sint .i64) (0 : Int)) (.pr (.val (.sint .i64) (0 : Int)) (.pr (.val (.sint .i64) (0 : Int)) (.pr (.val (.sint .i64) (0 : Int)) (.pr (.ro false T1 []) (.pr (.ro false T2 []) .un))))))), (.ro false .u8 [])], [], 0⟩ [.d (.sint .i64), .d (.sint .i64), .d (.sint .i64), .d (.sint .i64), .c, .d T3, .c, .d T4, .c, .d (.list .u8)] fun v => .sub (F_w23_ManifestBack n (p0 v) (p1 v) (p2 v) (p3 v) (p4 v) (p5 v) (p6 v) (p7 v) (p9 v)) fun r => .ret ((.val .bool r), [], 0)
theorem ok_w23_ManifestBack (n : Nat) : SoundF Try.prog 5 (S_w23_ManifestBack n) :=
  fn_go true (c := codeOf Try.f5) (tab := mkTab [(18, ⟨S_w23_few n, [], [], false⟩), (19, ⟨S_w23_awake n, [], [], false⟩), (25, ⟨S_manifest_Put n, [], [], true⟩), (21, ⟨S_manifest_Get n, [], [], false⟩), (24, ⟨S_r23_Right n, [], [], true⟩), (27, ⟨orS (S_r23_Same n) (S_r23_Same_1 n), [], [], true⟩), (20, ⟨S_w23_own n, [], [], false⟩)]) (cuts := mkCuts []) Try.func5 (by kernel_rfl) (.cons (ok_w23_few n) ⟨_, Try.func18, by kernel_rfl⟩ (.cons (ok_w23_awake n) ⟨_, Try.func19, by kernel_rfl⟩ (.cons (ok_manifest_Put n) ⟨_, Try.func25, by kernel_rfl⟩ (.cons (ok_manifest_Get n) ⟨_, Try.func21, by kernel_rfl⟩ (.cons (ok_r23_Right n) ⟨_, Try.func24, by kernel_rfl⟩ (.cons (.or (ok_r23_Same n) (ok_r23_Same_1 n)) ⟨_, Try.func27, by kernel_rfl⟩ (.cons (ok_w23_own n) ⟨_, Try.func20, by kernel_rfl⟩ .nil))))))) (.none0 (by kernel_rfl)) (fun v => by kernel_rfl)
end Hyp
