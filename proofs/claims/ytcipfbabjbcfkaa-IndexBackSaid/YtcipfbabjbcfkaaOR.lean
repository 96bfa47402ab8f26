/- Printed by Gen.lean.tpl (this work's own): Go functions as pure functions, each with the proof that the Go code comes to its answers. -/
import Derived.Test.YtcipfbabjbcfkaaZD
import Derived.Test.YtcipfbabjbcfkaaChecked
set_option linter.unusedVariables false
set_option maxRecDepth 100000
set_option maxHeartbeats 4000000
namespace Hyp
open Go Go.Proofs
def Fq_bytes_Compare (n : Nat) (x0 : Nat) (x1 : Nat) (x2 : Nat) (x3 : Nat) (x4 : List UInt8) (x5 : List UInt8) : Tree Int :=
  .ret (Go.Lib.compareBytes (List.take x1 (List.drop x0 x4)) (List.take x3 (List.drop x2 x5)))
def Sq_bytes_Compare (n : Nat) : Summ := mkS ⟨[(.bwin 0 1 .u8 32 0 0), (.bwin 2 1 .u8 32 0 0)], [⟨0, 1, .box (.agg (.pr (.val (.sint .i64) (0 : Int)) (.pr (.val (.arr 32 .u8) []) (.pr (.agg (.pr (.val .str []) (.pr (.val (.sint .i64) (0 : Int)) (.pr (.val (.sint .i64) (0 : Int)) .un)))) .un))))⟩, ⟨2, 3, .box (.agg (.pr (.val (.sint .i64) (0 : Int)) (.pr (.val (.arr 32 .u8) []) (.pr (.agg (.pr (.val .str []) (.pr (.val (.sint .i64) (0 : Int)) (.pr (.val (.sint .i64) (0 : Int)) .un)))) .un))))⟩], 4⟩ [.n, .n, .n, .n, .d (.sint .i64), .d (.arr 32 .u8), .d .str, .d (.sint .i64), .d (.sint .i64), .d (.sint .i64), .d (.arr 32 .u8), .d .str, .d (.sint .i64), .d (.sint .i64)] fun v => .sub (Fq_bytes_Compare n (p0 v) (p1 v) (p2 v) (p3 v) (p5 v) (p10 v)) fun r => .ret ((.val (.sint .i64) r), [⟨0, 5, .box (.agg (.pr (.val (.sint .i64) (p4 v)) (.pr (.val (.arr 32 .u8) (p5 v)) (.pr (.agg (.pr (.val .str (p6 v)) (.pr (.val (.sint .i64) (p7 v)) (.pr (.val (.sint .i64) (p8 v)) .un)))) .un))))⟩, ⟨2, 7, .box (.agg (.pr (.val (.sint .i64) (p9 v)) (.pr (.val (.arr 32 .u8) (p10 v)) (.pr (.agg (.pr (.val .str (p11 v)) (.pr (.val (.sint .i64) (p12 v)) (.pr (.val (.sint .i64) (p13 v)) .un)))) .un))))⟩], 8)
theorem okq_bytes_Compare (n : Nat) : SoundF Try.prog 49 (Sq_bytes_Compare n) :=
  fn_go false true (c := codeOf Try.f49) (tab := mkTab [(67, ⟨S_compare, [], [], false⟩)]) (cuts := mkCuts []) Try.func49 (by kernel_rfl) (.consE (ok_compare Try.func67 (by kernel_rfl) (by kernel_rfl) (by kernel_rfl) (by kernel_rfl)) .nil) (.none0 (by kernel_rfl)) (fun v => by kernel_rfl)
def Fq_index_order (n : Nat) (x0 : Int) (x1 : List UInt8) (x2 : Int) (x3 : List UInt8) : Tree Int :=
  .ite (!(decide (x0 = x2)))
  (.ret (w64 (x0 - x2)))
  (.get (Option.some Unit.unit) fun y4 =>
  .get (Option.some Unit.unit) fun y5 =>
  .get (Tree.run (Fq_bytes_Compare n 0 32 0 32 x1 x3)) fun y6 =>
  .ret y6)
def Sq_index_order (n : Nat) : Summ := mkS ⟨[(.agg (.pr (.val (.sint .i64) (0 : Int)) (.pr (.val (.arr 32 .u8) []) (.pr (.agg (.pr (.val .str []) (.pr (.val (.sint .i64) (0 : Int)) (.pr (.val (.sint .i64) (0 : Int)) .un)))) .un)))), (.agg (.pr (.val (.sint .i64) (0 : Int)) (.pr (.val (.arr 32 .u8) []) (.pr (.agg (.pr (.val .str []) (.pr (.val (.sint .i64) (0 : Int)) (.pr (.val (.sint .i64) (0 : Int)) .un)))) .un))))], [], 0⟩ [.d (.sint .i64), .d (.arr 32 .u8), .d .str, .d (.sint .i64), .d (.sint .i64), .d (.sint .i64), .d (.arr 32 .u8), .d .str, .d (.sint .i64), .d (.sint .i64)] fun v => .sub (Fq_index_order n (p0 v) (p1 v) (p5 v) (p6 v)) fun r => .ret ((.val (.sint .i64) r), [], 0)
theorem okq_index_order (n : Nat) : SoundF Try.prog 29 (Sq_index_order n) :=
  fn_go false true (c := codeOf Try.f29) (tab := mkTab [(49, ⟨Sq_bytes_Compare n, [], [], false⟩)]) (cuts := mkCuts []) Try.func29 (by kernel_rfl) (.cons (okq_bytes_Compare n) ⟨_, Try.func49, by kernel_rfl⟩ .nil) (.none0 (by kernel_rfl)) (fun v => by kernel_rfl)
end Hyp
