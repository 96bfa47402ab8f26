/- Printed by Gen.lean.tpl (this work's own): Go functions as pure functions, each with the proof that the Go code comes to its answers. -/
import Derived.Test.YtcojhmllnhkbnaaDoorZD
import Derived.Test.YtcojhmllnhkbnaaDoorCB
import Derived.Test.YtcojhmllnhkbnaaDoorPA
import Derived.Test.YtcojhmllnhkbnaaDoorChecked
set_option linter.unusedVariables false
set_option maxRecDepth 100000
set_option maxHeartbeats 4000000
namespace Hyp
open Go Go.Proofs
abbrev B1 : Ty := .list (.rcd (.pair (.sint .i64) (.list .u8)))
abbrev B2 : Ty := .rcd (.pair (.sint .i64) (.list .u8))
abbrev B3 : Ty := .rcd (.pair (.sint .i64) (.pair (.arr 32 .u8) (.list .u8)))
abbrev B4 : Ty := .rcd (.pair (.sint .i64) (.pair (.arr 32 .u8) (.pair (.sint .i64) (.sint .i64))))
abbrev B5 : Ty := .list (.rcd (.pair (.sint .i64) (.pair (.arr 32 .u8) (.list .u8))))
abbrev B6 : Ty := .list (.rcd (.pair (.sint .i64) (.pair (.arr 32 .u8) (.pair (.sint .i64) (.sint .i64)))))
def F_label_New (n : Nat) : Tree Unit :=
  .ret ()
def S_label_New (n : Nat) : Summ := mkS ⟨[], [], 0⟩ [] fun v => .sub (F_label_New n) fun r => .ret ((.ptr 0 0), [⟨0, 1, .box (.agg (.pr (.mpv 2) .un))⟩, ⟨2, 3, .mp (.sint .i64) (.list .u8) ([] : List (Int × (List UInt8)))⟩], 4)
theorem ok_label_New (n : Nat) : SoundF Tryd.prog 58 (S_label_New n) :=
  fn_go false true (c := codeOf Tryd.f58) (tab := mkTab []) (cuts := mkCuts []) Tryd.func58 (by kernel_rfl) .nil (.none0 (by kernel_rfl)) (fun v => by kernel_rfl)
def C_103_0 : CutF → Cut := fun κ => ⟨[1, 2, 6], fun e => match e with | .ex i => bif Nat.beq i 0 then [] else [] | .rt => [4, 5] | .nm => [] | .go i => [], κ⟩
def F_r09_Ring_find_l0 (n : Nat) : Nat → (Int) → (Int) → (Bool) → (List (Int × List UInt8)) → Tree ((List UInt8) ⊕ Unit)
 | 0 => fun  x0 x1 x2 x3 => .fail
 | k + 1 => fun x0 x1 x2 x3 =>
  .ite (decide (x1 < (ln x3)))
  (.get (getI x3 x1) fun y4 =>
  .ite (decide (y4.1 = x0))
  (.get (getI x3 x1) fun y5 =>
  .ret (.inl y5.2))
  (.sub (F_r09_Ring_find_l0 n k x0 (w64 (x1 + (1 : Int))) x2 x3) fun y6 =>
  .alt y6 (fun y7 =>
  .ret (.inl y7))
  fun y8 =>
  .ret (.inr ())))
  (.ret (.inr ()))
def S_r09_Ring_find_l0 (n k : Nat) : CutF := mkS ⟨[(.val (.sint .i64) (0 : Int)), (.ptr 0 0), (.val (.sint .i64) (0 : Int))], [⟨0, 1, .box (.agg (.pr (.ro false B2 []) .un))⟩], 2⟩ [.d (.sint .i64), .d (.sint .i64), .c, .d B1] fun v => .sub (F_r09_Ring_find_l0 n k (p0 v) (p1 v) (p2 v) (p3 v)) fun r => .alt r (fun r => .ret (.rt, [(.ro false .u8 r), (.val .bool true)], [⟨0, 3, .box (.agg (.pr (.ro (p2 v) B2 (p3 v)) .un))⟩], 4)) (fun r => .ret (.ex 0, [], [⟨0, 3, .box (.agg (.pr (.ro (p2 v) B2 (p3 v)) .un))⟩], 4))
theorem rd_r09_Ring_find_l0 (n k : Nat) : Rounds Tryd.prog (Go.Func.ntmps Tryd.f103) (bodyOf Tryd.f103 0) C_103_0 [S_r09_Ring_find_l0 n k] (S_r09_Ring_find_l0 n (k + 1)) :=
  rounds_go (tab := mkTab []) (cuts := mkCuts []) (S_r09_Ring_find_l0 n k) [] .nil (.none0 (by kernel_rfl)) rfl (fun v => by kernel_rfl)
theorem ok_r09_Ring_find_l0 (n k : Nat) : SoundC Tryd.prog (Go.Func.ntmps Tryd.f103) (.loop (bodyOf Tryd.f103 0)) (wr (bodyOf Tryd.f103 0)) (C_103_0 (S_r09_Ring_find_l0 n k)) :=
  loop_go (K := fun k => [S_r09_Ring_find_l0 n k]) (fun _ => rfl) (by kernel_rfl) ⟨z_go fun _ => by kernel_rfl, trivial⟩ (fun k => ⟨rd_r09_Ring_find_l0 n k, trivial⟩) k rfl
def F_r09_Ring_find (n : Nat) (x0 : Bool) (x1 : List (Int × List UInt8)) (x2 : Int) : Tree ((List UInt8) × Bool) :=
  .sub (F_r09_Ring_find_l0 n n x2 (0 : Int) x0 x1) fun y3 =>
  .alt y3 (fun y4 =>
  .ret (y4, true))
  fun y5 =>
  .ret (([] : List UInt8), false)
def S_r09_Ring_find (n : Nat) : Summ := mkS ⟨[(.agg (.pr (.ro false B2 []) .un)), (.val (.sint .i64) (0 : Int))], [], 0⟩ [.c, .d B1, .d (.sint .i64)] fun v => .sub (F_r09_Ring_find n (p0 v) (p1 v) (p2 v)) fun r => .ret ((.tup (.pr (.ro false .u8 r.1) (.pr (.val .bool r.2) .un))), [], 0)
theorem ok_r09_Ring_find (n : Nat) : SoundF Tryd.prog 103 (S_r09_Ring_find n) :=
  fn_go true true (c := codeOf Tryd.f103) (tab := mkTab []) (cuts := mkCuts [(0, C_103_0 (S_r09_Ring_find_l0 n n))]) Tryd.func103 (by kernel_rfl) .nil (CutsOK.list (l := [(0, .lp (bodyOf Tryd.f103 0))]) (by kernel_rfl) (LoopsOK.all ⟨.inr ⟨_, rfl, ok_r09_Ring_find_l0 n n⟩, trivial⟩)) (fun v => by kernel_rfl)
def F_r09_Ring_Put (n : Nat) (x0 : Bool) (x1 : List (Int × List UInt8)) (x2 : Int) (x3 : List UInt8) : Tree ((Bool) × ((List (Int × List UInt8)) × Int)) :=
  .ite ((decide (x2 < (1 : Int))) || ((decide ((64 : Int) < x2)) || (!(decide ((ln x3) = (32 : Int))))))
  (.ret (x0, x1, (1 : Int)))
  (.sub (F_r09_Ring_find n x0 x1 x2) fun y4 =>
  .ite y4.2
  (.ret (x0, x1, (19 : Int)))
  (.get (appI 4398046511104 ([] : List (Int × (List UInt8))) x1) fun y5 =>
  .get (appI 4398046511104 y5 (List.set ([((0 : Int), ([] : List UInt8))] : List (Int × (List UInt8))) 0 (x2, x3))) fun y6 =>
  .ret (false, y6, (0 : Int))))
def S_r09_Ring_Put (n : Nat) : Summ := mkS ⟨[(.agg (.pr (.ro false B2 []) .un)), (.val (.sint .i64) (0 : Int)), (.ro false .u8 [])], [], 0⟩ [.c, .d B1, .d (.sint .i64), .c, .d (.list .u8)] fun v => .sub (F_r09_Ring_Put n (p0 v) (p1 v) (p2 v) (p4 v)) fun r => .ret ((.tup (.pr (.agg (.pr (.ro r.1 B2 r.2.1) .un)) (.pr (.val (.sint .i64) r.2.2) .un))), [], 0)
theorem ok_r09_Ring_Put (n : Nat) : SoundF Tryd.prog 61 (S_r09_Ring_Put n) :=
  fn_go true true (c := codeOf Tryd.f61) (tab := mkTab [(103, ⟨S_r09_Ring_find n, [], [], true⟩)]) (cuts := mkCuts []) Tryd.func61 (by kernel_rfl) (.cons (ok_r09_Ring_find n) ⟨_, Tryd.func103, by kernel_rfl⟩ .nil) (.none0 (by kernel_rfl)) (fun v => by kernel_rfl)
def F_blob_Size (n : Nat) (x0 : Int) : Tree Int :=
  .sub (F_box_Size n x0) fun y1 =>
  .ret (w64 ((12 : Int) + y1))
def S_blob_Size (n : Nat) : Summ := mkS ⟨[(.val (.sint .i64) (0 : Int))], [], 0⟩ [.d (.sint .i64)] fun v => .sub (F_blob_Size n (p0 v)) fun r => .ret ((.val (.sint .i64) r), [], 0)
theorem ok_blob_Size (n : Nat) : SoundF Tryd.prog 30 (S_blob_Size n) :=
  fn_go false true (c := codeOf Tryd.f30) (tab := mkTab [(81, ⟨S_box_Size n, [], [], false⟩)]) (cuts := mkCuts []) Tryd.func30 (by kernel_rfl) (.cons (ok_box_Size n) ⟨_, Tryd.func81, by kernel_rfl⟩ .nil) (.none0 (by kernel_rfl)) (fun v => by kernel_rfl)
def F_blob_kind (n : Nat) (x0 : Int) : Tree Bool :=
  .ret ((decide ((1 : Int) ≤ x0)) && (decide (x0 ≤ (4 : Int))))
def S_blob_kind (n : Nat) : Summ := mkS ⟨[(.val (.sint .i64) (0 : Int))], [], 0⟩ [.d (.sint .i64)] fun v => .sub (F_blob_kind n (p0 v)) fun r => .ret ((.val .bool r), [], 0)
theorem ok_blob_kind (n : Nat) : SoundF Tryd.prog 74 (S_blob_kind n) :=
  fn_go false true (c := codeOf Tryd.f74) (tab := mkTab []) (cuts := mkCuts []) Tryd.func74 (by kernel_rfl) .nil (.none0 (by kernel_rfl)) (fun v => by kernel_rfl)
def F_label_Ring_Key (n : Nat) (x0 : List UInt8) (x1 : Int) (x2 : List (Int × List UInt8)) : Tree (Int ⊕ (List UInt8)) :=
  .get (rightI x0 x1) fun y3 =>
  .ite (!y3)
  (.ret (.inl (1 : Int)))
  (.ite (!(Option.isSome (mget (.sint .i64) (.list .u8) x2 x1)))
  (.ret (.inl (24 : Int)))
  (.sub (F_label_Key n (mgetD (.sint .i64) (.list .u8) x2 x1 ([] : List UInt8)) x0 x1) fun y4 =>
  .alt y4 (fun y5 =>
  .ret (.inl (1 : Int)))
  fun y6 =>
  .ret (.inr y6)))
def S_label_Ring_Key (n : Nat) : Summ := mkS ⟨[(.ptr 0 0), (.val .str []), (.val (.sint .i64) (0 : Int))], [⟨0, 1, .box (.agg (.pr (.mpv 2) .un))⟩, ⟨2, 3, .mp (.sint .i64) (.list .u8) []⟩], 4⟩ [.d .str, .d (.sint .i64), .d B1] fun v => .sub (F_label_Ring_Key n (p0 v) (p1 v) (p2 v)) fun r => .alt r (fun r => .ret ((.tup (.pr (.whole 4 1) (.pr (.val (.sint .i64) r) .un))), [⟨4, 5, .row .u8 ([] : List UInt8)⟩, ⟨0, 7, .box (.agg (.pr (.mpv 2) .un))⟩, ⟨2, 3, .mp (.sint .i64) (.list .u8) (p2 v)⟩], 10)) (fun r => .ret ((.tup (.pr (.bwin 4 0 .u8 32 0 32) (.pr (.val (.sint .i64) (0 : Int)) .un))), [⟨4, 5, .box (.val (.arr 32 .u8) r)⟩, ⟨0, 7, .box (.agg (.pr (.mpv 2) .un))⟩, ⟨2, 3, .mp (.sint .i64) (.list .u8) (p2 v)⟩], 10))
theorem ok_label_Ring_Key (n : Nat) : SoundF Tryd.prog 63 (S_label_Ring_Key n) :=
  fn_go false true (c := codeOf Tryd.f63) (tab := mkTab [(109, ⟨S_right, [], [], false⟩), (110, ⟨S_label_Key n, [], [true, false, false], false⟩)]) (cuts := mkCuts []) Tryd.func63 (by kernel_rfl) (.consE ok_rightC (.cons (ok_label_Key n) ⟨_, Tryd.func110, by kernel_rfl⟩ .nil)) (.none0 (by kernel_rfl)) (fun v => by kernel_rfl)
def F_blob_bound (n : Nat) (x0 : Int) (x1 : List UInt8) : Tree (List UInt8) :=
  .get (Option.some Unit.unit) fun y2 =>
  .get (appI 140737488355328 (List.set ([0] : List UInt8) 0 (int8 x0)) (List.take 32 (List.drop 0 x1))) fun y3 =>
  .ret y3
def S_blob_bound (n : Nat) : Summ := mkS ⟨[(.val (.sint .i64) (0 : Int)), (.val (.arr 32 .u8) [])], [], 0⟩ [.d (.sint .i64), .d (.arr 32 .u8)] fun v => .sub (F_blob_bound n (p0 v) (p1 v)) fun r => .ret ((.whole 0 1), [⟨0, 1, .row .u8 r⟩], 2)
theorem ok_blob_bound (n : Nat) : SoundF Tryd.prog 80 (S_blob_bound n) :=
  fn_go false true (c := codeOf Tryd.f80) (tab := mkTab []) (cuts := mkCuts []) Tryd.func80 (by kernel_rfl) .nil (.none0 (by kernel_rfl)) (fun v => by kernel_rfl)
def F_blob_Seal_1 (n : Nat) (x0 : List UInt8) (x1 : List UInt8) (x2 : Int) (x3 : List UInt8) (x4 : List UInt8) : Tree ((Int) × (List UInt8)) :=
  .get (Tree.run (F_blob_bound n x2 x3)) fun y5 =>
  .get (Tree.run (F_box_Seal n false x0 false x1 y5 x4)) fun y6 =>
  .ite (!(decide (y6.1 = (0 : Int))))
  (.ret (y6.1, ([] : List UInt8)))
  (.get (appI 140737488355328 ([] : List UInt8) x1) fun y7 =>
  .get (appI 140737488355328 y7 y6.2) fun y8 =>
  .ret ((0 : Int), y8))
def S_blob_Seal_1 (n : Nat) : Summ := mkS ⟨[(.whole 0 1), (.whole 2 1), (.ptr 4 0), (.ptr 6 0), (.ptr 8 0)], [⟨0, 1, .row .u8 []⟩, ⟨2, 3, .row .u8 []⟩, ⟨4, 5, .box (.val (.sint .i64) (0 : Int))⟩, ⟨6, 7, .box (.val (.arr 32 .u8) [])⟩, ⟨8, 9, .box (.ro false .u8 [])⟩], 10⟩ [.d (.list .u8), .d (.list .u8), .d (.sint .i64), .d (.arr 32 .u8), .c, .d (.list .u8)] fun v => .sub (F_blob_Seal_1 n (p0 v) (p1 v) (p2 v) (p3 v) (p5 v)) fun r => .ret ((.tup (.pr (.whole 10 1) (.pr (.val (.sint .i64) r.1) .un))), [⟨10, 11, .row .u8 r.2⟩, ⟨4, 13, .box (.val (.sint .i64) (p2 v))⟩, ⟨6, 15, .box (.val (.arr 32 .u8) (p3 v))⟩, ⟨8, 17, .box (.ro (p4 v) .u8 (p5 v))⟩, ⟨0, 19, .row .u8 (p0 v)⟩, ⟨2, 21, .row .u8 (p1 v)⟩], 22)
theorem ok_blob_Seal_1 (n : Nat) : SoundF Tryd.prog 78 (S_blob_Seal_1 n) :=
  fn_go false true (c := codeOf Tryd.f78) (tab := mkTab [(80, ⟨S_blob_bound n, [], [], false⟩), (79, ⟨S_box_Seal n, [], [true, true, true, true], false⟩)]) (cuts := mkCuts []) Tryd.func78 (by kernel_rfl) (.cons (ok_blob_bound n) ⟨_, Tryd.func80, by kernel_rfl⟩ (.cons (ok_box_Seal n) ⟨_, Tryd.func79, by kernel_rfl⟩ .nil)) (.none0 (by kernel_rfl)) (fun v => by kernel_rfl)
def F_blob_Seal_1_1 (n : Nat) (x0 : Nat) (x1 : Nat) (x2 : List UInt8) (x3 : List UInt8) (x4 : Int) (x5 : List UInt8) (x6 : List UInt8) : Tree ((Int) × (List UInt8)) :=
  .get (Tree.run (F_blob_bound n x4 x5)) fun y7 =>
  .get (Tree.run (F_box_Seal n false x2 false (List.take x1 (List.drop x0 x3)) y7 x6)) fun y8 =>
  .ite (!(decide (y8.1 = (0 : Int))))
  (.ret (y8.1, ([] : List UInt8)))
  (.get (appI 140737488355328 ([] : List UInt8) (List.take x1 (List.drop x0 x3))) fun y9 =>
  .get (appI 140737488355328 y9 y8.2) fun y10 =>
  .ret ((0 : Int), y10))
def S_blob_Seal_1_1 (n : Nat) : Summ := mkS ⟨[(.whole 0 1), (.bwin 2 0 .u8 12 0 0), (.ptr 4 0), (.ptr 6 0), (.ptr 8 0)], [⟨0, 1, .row .u8 []⟩, ⟨2, 3, .box (.val (.arr 12 .u8) [])⟩, ⟨4, 5, .box (.val (.sint .i64) (0 : Int))⟩, ⟨6, 7, .box (.val (.arr 32 .u8) [])⟩, ⟨8, 9, .box (.ro false .u8 [])⟩], 10⟩ [.n, .n, .d (.list .u8), .d (.arr 12 .u8), .d (.sint .i64), .d (.arr 32 .u8), .c, .d (.list .u8)] fun v => .sub (F_blob_Seal_1_1 n (p0 v) (p1 v) (p2 v) (p3 v) (p4 v) (p5 v) (p7 v)) fun r => .ret ((.tup (.pr (.whole 10 1) (.pr (.val (.sint .i64) r.1) .un))), [⟨10, 11, .row .u8 r.2⟩, ⟨2, 13, .box (.val (.arr 12 .u8) (p3 v))⟩, ⟨4, 15, .box (.val (.sint .i64) (p4 v))⟩, ⟨6, 17, .box (.val (.arr 32 .u8) (p5 v))⟩, ⟨8, 19, .box (.ro (p6 v) .u8 (p7 v))⟩, ⟨0, 21, .row .u8 (p2 v)⟩], 22)
theorem ok_blob_Seal_1_1 (n : Nat) : SoundF Tryd.prog 78 (S_blob_Seal_1_1 n) :=
  fn_go false true (c := codeOf Tryd.f78) (tab := mkTab [(80, ⟨S_blob_bound n, [], [], false⟩), (79, ⟨S_box_Seal n, [], [true, true, true, true], false⟩)]) (cuts := mkCuts []) Tryd.func78 (by kernel_rfl) (.cons (ok_blob_bound n) ⟨_, Tryd.func80, by kernel_rfl⟩ (.cons (ok_box_Seal n) ⟨_, Tryd.func79, by kernel_rfl⟩ .nil)) (.none0 (by kernel_rfl)) (fun v => by kernel_rfl)
def F_blob_Seal_1_2 (n : Nat) (x0 : Nat) (x1 : Nat) (x2 : List UInt8) (x3 : List UInt8) (x4 : Int) (x5 : List UInt8) (x6 : List UInt8) : Tree ((Int) × (List UInt8)) :=
  .get (Tree.run (F_blob_bound n x4 x5)) fun y7 =>
  .get (Tree.run (F_box_Seal n false (List.take x1 (List.drop x0 x2)) false x3 y7 x6)) fun y8 =>
  .ite (!(decide (y8.1 = (0 : Int))))
  (.ret (y8.1, ([] : List UInt8)))
  (.get (appI 140737488355328 ([] : List UInt8) x3) fun y9 =>
  .get (appI 140737488355328 y9 y8.2) fun y10 =>
  .ret ((0 : Int), y10))
def S_blob_Seal_1_2 (n : Nat) : Summ := mkS ⟨[(.bwin 0 0 .u8 32 0 0), (.whole 2 1), (.ptr 4 0), (.ptr 6 0), (.ptr 8 0)], [⟨0, 1, .box (.val (.arr 32 .u8) [])⟩, ⟨2, 3, .row .u8 []⟩, ⟨4, 5, .box (.val (.sint .i64) (0 : Int))⟩, ⟨6, 7, .box (.val (.arr 32 .u8) [])⟩, ⟨8, 9, .box (.ro false .u8 [])⟩], 10⟩ [.n, .n, .d (.arr 32 .u8), .d (.list .u8), .d (.sint .i64), .d (.arr 32 .u8), .c, .d (.list .u8)] fun v => .sub (F_blob_Seal_1_2 n (p0 v) (p1 v) (p2 v) (p3 v) (p4 v) (p5 v) (p7 v)) fun r => .ret ((.tup (.pr (.whole 10 1) (.pr (.val (.sint .i64) r.1) .un))), [⟨10, 11, .row .u8 r.2⟩, ⟨0, 13, .box (.val (.arr 32 .u8) (p2 v))⟩, ⟨4, 15, .box (.val (.sint .i64) (p4 v))⟩, ⟨6, 17, .box (.val (.arr 32 .u8) (p5 v))⟩, ⟨8, 19, .box (.ro (p6 v) .u8 (p7 v))⟩, ⟨2, 21, .row .u8 (p3 v)⟩], 22)
theorem ok_blob_Seal_1_2 (n : Nat) : SoundF Tryd.prog 78 (S_blob_Seal_1_2 n) :=
  fn_go false true (c := codeOf Tryd.f78) (tab := mkTab [(80, ⟨S_blob_bound n, [], [], false⟩), (79, ⟨S_box_Seal n, [], [true, true, true, true], false⟩)]) (cuts := mkCuts []) Tryd.func78 (by kernel_rfl) (.cons (ok_blob_bound n) ⟨_, Tryd.func80, by kernel_rfl⟩ (.cons (ok_box_Seal n) ⟨_, Tryd.func79, by kernel_rfl⟩ .nil)) (.none0 (by kernel_rfl)) (fun v => by kernel_rfl)
def F_blob_Seal_1_3 (n : Nat) (x0 : Nat) (x1 : Nat) (x2 : Nat) (x3 : Nat) (x4 : List UInt8) (x5 : List UInt8) (x6 : Int) (x7 : List UInt8) (x8 : List UInt8) : Tree ((Int) × (List UInt8)) :=
  .get (Tree.run (F_blob_bound n x6 x7)) fun y9 =>
  .get (Tree.run (F_box_Seal n false (List.take x1 (List.drop x0 x4)) false (List.take x3 (List.drop x2 x5)) y9 x8)) fun y10 =>
  .ite (!(decide (y10.1 = (0 : Int))))
  (.ret (y10.1, ([] : List UInt8)))
  (.get (appI 140737488355328 ([] : List UInt8) (List.take x3 (List.drop x2 x5))) fun y11 =>
  .get (appI 140737488355328 y11 y10.2) fun y12 =>
  .ret ((0 : Int), y12))
def S_blob_Seal_1_3 (n : Nat) : Summ := mkS ⟨[(.bwin 0 0 .u8 32 0 0), (.bwin 2 0 .u8 12 0 0), (.ptr 4 0), (.ptr 6 0), (.ptr 8 0)], [⟨0, 1, .box (.val (.arr 32 .u8) [])⟩, ⟨2, 3, .box (.val (.arr 12 .u8) [])⟩, ⟨4, 5, .box (.val (.sint .i64) (0 : Int))⟩, ⟨6, 7, .box (.val (.arr 32 .u8) [])⟩, ⟨8, 9, .box (.ro false .u8 [])⟩], 10⟩ [.n, .n, .n, .n, .d (.arr 32 .u8), .d (.arr 12 .u8), .d (.sint .i64), .d (.arr 32 .u8), .c, .d (.list .u8)] fun v => .sub (F_blob_Seal_1_3 n (p0 v) (p1 v) (p2 v) (p3 v) (p4 v) (p5 v) (p6 v) (p7 v) (p9 v)) fun r => .ret ((.tup (.pr (.whole 10 1) (.pr (.val (.sint .i64) r.1) .un))), [⟨10, 11, .row .u8 r.2⟩, ⟨0, 13, .box (.val (.arr 32 .u8) (p4 v))⟩, ⟨2, 15, .box (.val (.arr 12 .u8) (p5 v))⟩, ⟨4, 17, .box (.val (.sint .i64) (p6 v))⟩, ⟨6, 19, .box (.val (.arr 32 .u8) (p7 v))⟩, ⟨8, 21, .box (.ro (p8 v) .u8 (p9 v))⟩], 22)
theorem ok_blob_Seal_1_3 (n : Nat) : SoundF Tryd.prog 78 (S_blob_Seal_1_3 n) :=
  fn_go false true (c := codeOf Tryd.f78) (tab := mkTab [(80, ⟨S_blob_bound n, [], [], false⟩), (79, ⟨S_box_Seal n, [], [true, true, true, true], false⟩)]) (cuts := mkCuts []) Tryd.func78 (by kernel_rfl) (.cons (ok_blob_bound n) ⟨_, Tryd.func80, by kernel_rfl⟩ (.cons (ok_box_Seal n) ⟨_, Tryd.func79, by kernel_rfl⟩ .nil)) (.none0 (by kernel_rfl)) (fun v => by kernel_rfl)
def F_blob_with (n : Nat) (x0 : Int) (x1 : Int) (x2 : List (Int × List UInt8)) (x3 : Int) (x4 : List UInt8) (x5 : List UInt8) : Tree ((Int) × (List UInt8)) :=
  .sub (F_label_Ring_Key n ([115, 101, 97, 108] : List UInt8) x0 x2) fun y6 =>
  .alt y6 (fun y7 =>
  .ite (!(decide (y7 = (0 : Int))))
  (.ret (y7, ([] : List UInt8)))
  (.sub (F_nonce_Of n x0 x1) fun y8 =>
  .alt y8 (fun y9 =>
  .ite true
  (.ret ((1 : Int), ([] : List UInt8)))
  (.sub (F_blob_Seal_1 n ([] : List UInt8) ([] : List UInt8) x3 x4 x5) fun y10 =>
  .ret (y10.1, y10.2)))
  fun y11 =>
  .ite false
  (.ret ((0 : Int), ([] : List UInt8)))
  (.sub (F_blob_Seal_1_1 n 0 12 ([] : List UInt8) y11 x3 x4 x5) fun y12 =>
  .ret (y12.1, y12.2))))
  fun y13 =>
  .ite false
  (.ret ((0 : Int), ([] : List UInt8)))
  (.sub (F_nonce_Of n x0 x1) fun y14 =>
  .alt y14 (fun y15 =>
  .ite true
  (.ret ((1 : Int), ([] : List UInt8)))
  (.sub (F_blob_Seal_1_2 n 0 32 y13 ([] : List UInt8) x3 x4 x5) fun y16 =>
  .ret (y16.1, y16.2)))
  fun y17 =>
  .ite false
  (.ret ((0 : Int), ([] : List UInt8)))
  (.sub (F_blob_Seal_1_3 n 0 32 0 12 y13 y17 x3 x4 x5) fun y18 =>
  .ret (y18.1, y18.2)))
def S_blob_with (n : Nat) : Summ := mkS ⟨[(.ptr 0 0), (.val (.sint .i64) (0 : Int)), (.val (.sint .i64) (0 : Int)), (.clo 78 (.pr (.ptr 4 0) (.pr (.ptr 6 0) (.pr (.ptr 8 0) .un))))], [⟨0, 1, .box (.agg (.pr (.mpv 2) .un))⟩, ⟨2, 3, .mp (.sint .i64) (.list .u8) []⟩, ⟨4, 5, .box (.val (.sint .i64) (0 : Int))⟩, ⟨6, 7, .box (.val (.arr 32 .u8) [])⟩, ⟨8, 9, .box (.ro false .u8 [])⟩], 10⟩ [.d (.sint .i64), .d (.sint .i64), .d B1, .d (.sint .i64), .d (.arr 32 .u8), .c, .d (.list .u8)] fun v => .sub (F_blob_with n (p0 v) (p1 v) (p2 v) (p3 v) (p4 v) (p6 v)) fun r => .ret ((.tup (.pr (.whole 10 1) (.pr (.val (.sint .i64) r.1) .un))), [⟨10, 11, .row .u8 r.2⟩, ⟨0, 13, .box (.agg (.pr (.mpv 2) .un))⟩, ⟨2, 3, .mp (.sint .i64) (.list .u8) (p2 v)⟩, ⟨4, 17, .box (.val (.sint .i64) (p3 v))⟩, ⟨6, 19, .box (.val (.arr 32 .u8) (p4 v))⟩, ⟨8, 21, .box (.ro (p5 v) .u8 (p6 v))⟩], 22)
theorem ok_blob_with (n : Nat) : SoundF Tryd.prog 77 (S_blob_with n) :=
  fn_go false true (c := codeOf Tryd.f77) (tab := mkTab [(63, ⟨S_label_Ring_Key n, [], [], false⟩), (125, ⟨S_nonce_Of n, [], [], false⟩), (78, ⟨orS (S_blob_Seal_1 n) (orS (S_blob_Seal_1_1 n) (orS (S_blob_Seal_1_2 n) (S_blob_Seal_1_3 n))), [], [], false⟩)]) (cuts := mkCuts []) Tryd.func77 (by kernel_rfl) (.cons (ok_label_Ring_Key n) ⟨_, Tryd.func63, by kernel_rfl⟩ (.cons (ok_nonce_Of n) ⟨_, Tryd.func125, by kernel_rfl⟩ (.cons (.or (ok_blob_Seal_1 n) (.or (ok_blob_Seal_1_1 n) (.or (ok_blob_Seal_1_2 n) (ok_blob_Seal_1_3 n)))) ⟨_, Tryd.func78, by kernel_rfl⟩ .nil))) (.none0 (by kernel_rfl)) (fun v => by kernel_rfl)
def F_blob_Seal (n : Nat) (x0 : Int) (x1 : Int) (x2 : List UInt8) (x3 : Int) (x4 : List UInt8) (x5 : List (Int × List UInt8)) : Tree ((Int) × (List UInt8)) :=
  .sub (F_blob_kind n x1) fun y6 =>
  .ite ((!y6) || ((decide (x3 < (1 : Int))) || (decide ((1099511627776 : Int) < x3))))
  (.ret ((1 : Int), ([] : List UInt8)))
  (.ite (decide ((8192 : Int) < (ln x4)))
  (.ret ((2 : Int), ([] : List UInt8)))
  (.sub (F_blob_with n x0 x3 x5 x1 x2 x4) fun y7 =>
  .ret (y7.1, y7.2)))
def S_blob_Seal (n : Nat) : Summ := mkS ⟨[(.ptr 0 0), (.val (.sint .i64) (0 : Int)), (.val (.sint .i64) (0 : Int)), (.val (.arr 32 .u8) []), (.val (.sint .i64) (0 : Int)), (.ro false .u8 [])], [⟨0, 1, .box (.agg (.pr (.mpv 2) .un))⟩, ⟨2, 3, .mp (.sint .i64) (.list .u8) []⟩], 4⟩ [.d (.sint .i64), .d (.sint .i64), .d (.arr 32 .u8), .d (.sint .i64), .c, .d (.list .u8), .d B1] fun v => .sub (F_blob_Seal n (p0 v) (p1 v) (p2 v) (p3 v) (p5 v) (p6 v)) fun r => .ret ((.tup (.pr (.whole 4 1) (.pr (.val (.sint .i64) r.1) .un))), [⟨4, 5, .row .u8 r.2⟩, ⟨0, 7, .box (.agg (.pr (.mpv 2) .un))⟩, ⟨2, 3, .mp (.sint .i64) (.list .u8) (p6 v)⟩], 10)
theorem ok_blob_Seal (n : Nat) : SoundF Tryd.prog 29 (S_blob_Seal n) :=
  fn_go false true (c := codeOf Tryd.f29) (tab := mkTab [(74, ⟨S_blob_kind n, [], [], false⟩), (77, ⟨S_blob_with n, [], [], false⟩)]) (cuts := mkCuts []) Tryd.func29 (by kernel_rfl) (.cons (ok_blob_kind n) ⟨_, Tryd.func74, by kernel_rfl⟩ (.cons (ok_blob_with n) ⟨_, Tryd.func77, by kernel_rfl⟩ .nil)) (.none0 (by kernel_rfl)) (fun v => by kernel_rfl)
end Hyp
