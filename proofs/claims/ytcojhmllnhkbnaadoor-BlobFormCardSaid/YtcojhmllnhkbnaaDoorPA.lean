/- Printed by Gen.lean.tpl (this work's own): Go functions as pure functions, each with the proof that the Go code comes to its answers. -/
import Derived.Test.YtcojhmllnhkbnaaDoorZD
import Derived.Test.YtcojhmllnhkbnaaDoorLr
import Derived.Test.YtcojhmllnhkbnaaDoorCm
import Derived.Test.YtcojhmllnhkbnaaDoorCB
import Derived.Test.YtcojhmllnhkbnaaDoorChecked
set_option linter.unusedVariables false
set_option maxRecDepth 100000
set_option maxHeartbeats 4000000
namespace Hyp
open Go Go.Proofs
def F_box_right (n : Nat) (x0 : List UInt8) (x1 : List UInt8) : Tree Bool :=
  .ret ((decide ((ln x0) = (32 : Int))) && (decide ((ln x1) = (12 : Int))))
def S_box_right (n : Nat) : Summ := mkS ⟨[(.ro false .u8 []), (.ro false .u8 [])], [], 0⟩ [.c, .d (.list .u8), .c, .d (.list .u8)] fun v => .sub (F_box_right n (p1 v) (p3 v)) fun r => .ret ((.val .bool r), [], 0)
theorem ok_box_right (n : Nat) : SoundF Tryd.prog 126 (S_box_right n) :=
  fn_go false true (c := codeOf Tryd.f126) (tab := mkTab []) (cuts := mkCuts []) Tryd.func126 (by kernel_rfl) .nil (.none0 (by kernel_rfl)) (fun v => by kernel_rfl)
def F_box_Size (n : Nat) (x0 : Int) : Tree Int :=
  .ret (w64 ((maxI x0 (0 : Int)) + (16 : Int)))
def S_box_Size (n : Nat) : Summ := mkS ⟨[(.val (.sint .i64) (0 : Int))], [], 0⟩ [.d (.sint .i64)] fun v => .sub (F_box_Size n (p0 v)) fun r => .ret ((.val (.sint .i64) r), [], 0)
theorem ok_box_Size (n : Nat) : SoundF Tryd.prog 81 (S_box_Size n) :=
  fn_go false true (c := codeOf Tryd.f81) (tab := mkTab []) (cuts := mkCuts []) Tryd.func81 (by kernel_rfl) .nil (.none0 (by kernel_rfl)) (fun v => by kernel_rfl)
def F_cipher_Block (n : Nat) (x0 : Bool) (x1 : List UInt8) (x2 : Bool) (x3 : List UInt8) (x4 : UInt32) : Tree ((List UInt8) × Int) :=
  .sub (F_cipher_begun n x0 x1 x2 x3) fun y5 =>
  .ite (!y5.2)
  (.ret ((zs 64), (1 : Int)))
  (.get (gt y5.1 12) fun y6 =>
  .sub (F_cipher_grid_block n (List.set y5.1 12 x4)) fun y7 =>
  .ret (y7, (0 : Int)))
def S_cipher_Block (n : Nat) : Summ := mkS ⟨[(.ro false .u8 []), (.ro false .u8 []), (.val .u32 0)], [], 0⟩ [.c, .d (.list .u8), .c, .d (.list .u8), .d .u32] fun v => .sub (F_cipher_Block n (p0 v) (p1 v) (p2 v) (p3 v) (p4 v)) fun r => .ret ((.tup (.pr (.val (.arr 64 .u8) r.1) (.pr (.val (.sint .i64) r.2) .un))), [], 0)
theorem ok_cipher_Block (n : Nat) : SoundF Tryd.prog 162 (S_cipher_Block n) :=
  fn_go false true (c := codeOf Tryd.f162) (tab := mkTab [(186, ⟨S_cipher_begun n, [], [true, true], false⟩), (188, ⟨S_cipher_grid_block n, [], [], false⟩)]) (cuts := mkCuts []) Tryd.func162 (by kernel_rfl) (.cons (ok_cipher_begun n) ⟨_, Tryd.func186, by kernel_rfl⟩ (.cons (ok_cipher_grid_block n) ⟨_, Tryd.func188, by kernel_rfl⟩ .nil)) (.none0 (by kernel_rfl)) (fun v => by kernel_rfl)
def C_163_0 : CutF → Cut := fun κ => ⟨[4, 5], fun e => match e with | .ex i => bif Nat.beq i 0 then [] else [] | .rt => [] | .nm => [] | .go i => [], κ⟩
def F_onetime_New_l0 (n : Nat) : Nat → (Int) → (List UInt8) → Tree (List UInt8)
 | 0 => fun  x0 x1 => .fail
 | k + 1 => fun x0 x1 =>
  .ite (decide (x0 < (16 : Int)))
  (.get (inI (List.length x1) x0) fun y2 =>
  .get (gt x1 (0 + y2)) fun y3 =>
  .get (inI (List.length x1) x0) fun y4 =>
  .get (gt x1 (0 + y4)) fun y5 =>
  .sub (F_onetime_New_l0 n k (w64 (x0 + (4 : Int))) (List.set x1 (0 + y4) (y3 &&& (15 : UInt8)))) fun y6 =>
  .ret y6)
  (.ret x1)
def S_onetime_New_l0 (n k : Nat) : CutF := mkS ⟨[(.whole 0 1), (.val (.sint .i64) (0 : Int))], [⟨0, 1, .row .u8 []⟩], 2⟩ [.d (.sint .i64), .d (.list .u8)] fun v => .sub (F_onetime_New_l0 n k (p0 v) (p1 v)) fun r => .ret (.ex 0, [], [⟨0, 3, .row .u8 r⟩], 4)
theorem rd_onetime_New_l0 (n k : Nat) : Rounds Tryd.prog (Go.Func.ntmps Tryd.f163) (bodyOf Tryd.f163 0) C_163_0 [S_onetime_New_l0 n k] (S_onetime_New_l0 n (k + 1)) :=
  rounds_go (tab := mkTab []) (cuts := mkCuts []) (S_onetime_New_l0 n k) [] .nil (.none0 (by kernel_rfl)) rfl (fun v => by kernel_rfl)
theorem ok_onetime_New_l0 (n k : Nat) : SoundC Tryd.prog (Go.Func.ntmps Tryd.f163) (.loop (bodyOf Tryd.f163 0)) (wr (bodyOf Tryd.f163 0)) (C_163_0 (S_onetime_New_l0 n k)) :=
  loop_go (K := fun k => [S_onetime_New_l0 n k]) (fun _ => rfl) (by kernel_rfl) ⟨z_go fun _ => by kernel_rfl, trivial⟩ (fun k => ⟨rd_onetime_New_l0 n k, trivial⟩) k rfl
def C_163_2 : CutF → Cut := fun κ => ⟨[4, 6], fun e => match e with | .ex i => bif Nat.beq i 2 then [] else [] | .rt => [] | .nm => [] | .go i => [], κ⟩
def F_onetime_New_l2 (n : Nat) : Nat → (Int) → (List UInt8) → Tree (List UInt8)
 | 0 => fun  x0 x1 => .fail
 | k + 1 => fun x0 x1 =>
  .ite (decide (x0 < (16 : Int)))
  (.get (inI (List.length x1) x0) fun y2 =>
  .get (gt x1 (0 + y2)) fun y3 =>
  .get (inI (List.length x1) x0) fun y4 =>
  .get (gt x1 (0 + y4)) fun y5 =>
  .sub (F_onetime_New_l2 n k (w64 (x0 + (4 : Int))) (List.set x1 (0 + y4) (y3 &&& (252 : UInt8)))) fun y6 =>
  .ret y6)
  (.ret x1)
def S_onetime_New_l2 (n k : Nat) : CutF := mkS ⟨[(.whole 0 1), (.val (.sint .i64) (0 : Int))], [⟨0, 1, .row .u8 []⟩], 2⟩ [.d (.sint .i64), .d (.list .u8)] fun v => .sub (F_onetime_New_l2 n k (p0 v) (p1 v)) fun r => .ret (.ex 2, [], [⟨0, 3, .row .u8 r⟩], 4)
theorem rd_onetime_New_l2 (n k : Nat) : Rounds Tryd.prog (Go.Func.ntmps Tryd.f163) (bodyOf Tryd.f163 2) C_163_2 [S_onetime_New_l2 n k] (S_onetime_New_l2 n (k + 1)) :=
  rounds_go (tab := mkTab []) (cuts := mkCuts []) (S_onetime_New_l2 n k) [] .nil (.none0 (by kernel_rfl)) rfl (fun v => by kernel_rfl)
theorem ok_onetime_New_l2 (n k : Nat) : SoundC Tryd.prog (Go.Func.ntmps Tryd.f163) (.loop (bodyOf Tryd.f163 2)) (wr (bodyOf Tryd.f163 2)) (C_163_2 (S_onetime_New_l2 n k)) :=
  loop_go (K := fun k => [S_onetime_New_l2 n k]) (fun _ => rfl) (by kernel_rfl) ⟨z_go fun _ => by kernel_rfl, trivial⟩ (fun k => ⟨rd_onetime_New_l2 n k, trivial⟩) k rfl
def C_189_0 : CutF → Cut := fun κ => ⟨[0, 5, 11], fun e => match e with | .ex i => bif Nat.beq i 0 then [] else [] | .rt => [] | .nm => [] | .go i => [], κ⟩
def F_onetime_read_l0 (n : Nat) : Nat → (Bool) → (List UInt8) → (Int) → (List UInt64) → Tree (List UInt64)
 | 0 => fun  x0 x1 x2 x3 => .fail
 | k + 1 => fun x0 x1 x2 x3 =>
  .ite (decide (x2 < (4 : Int)))
  (.get (subI x1 (w64 ((3 : Int) * x2)) (w64 ((w64 ((3 : Int) * x2)) + (4 : Int)))) fun y4 =>
  .sub (F_word_Load n false y4) fun y5 =>
  .get (nz (decide ((w64 ((2 : Int) * x2)) < (0 : Int)))) fun y6 =>
  .get (inI 5 x2) fun y7 =>
  .get (gt x3 y7) fun y8 =>
  .sub (F_onetime_read_l0 n k x0 x1 (w64 (x2 + (1 : Int))) (List.set x3 y7 ((shr64 (UInt64.ofNat (UInt32.toNat y5.1)) (Int.toNat (w64 ((2 : Int) * x2)))) &&& (67108863 : UInt64)))) fun y9 =>
  .ret y9)
  (.ret x3)
def S_onetime_read_l0 (n k : Nat) : CutF := mkS ⟨[(.ro false .u8 []), (.ptr 0 0), (.val (.sint .i64) (0 : Int))], [⟨0, 1, .box (.val (.arr 5 .u64) [])⟩], 2⟩ [.c, .d (.list .u8), .d (.sint .i64), .d (.arr 5 .u64)] fun v => .sub (F_onetime_read_l0 n k (p0 v) (p1 v) (p2 v) (p3 v)) fun r => .ret (.ex 0, [], [⟨0, 3, .box (.val (.arr 5 .u64) r)⟩], 4)
theorem rd_onetime_read_l0 (n k : Nat) : Rounds Tryd.prog (Go.Func.ntmps Tryd.f189) (bodyOf Tryd.f189 0) C_189_0 [S_onetime_read_l0 n k] (S_onetime_read_l0 n (k + 1)) :=
  rounds_go (tab := mkTab [(136, ⟨S_word_Load n, [], [true, false], false⟩)]) (cuts := mkCuts []) (S_onetime_read_l0 n k) [] (.cons (ok_word_Load n) ⟨_, Tryd.func136, by kernel_rfl⟩ .nil) (.none0 (by kernel_rfl)) rfl (fun v => by kernel_rfl)
theorem ok_onetime_read_l0 (n k : Nat) : SoundC Tryd.prog (Go.Func.ntmps Tryd.f189) (.loop (bodyOf Tryd.f189 0)) (wr (bodyOf Tryd.f189 0)) (C_189_0 (S_onetime_read_l0 n k)) :=
  loop_go (K := fun k => [S_onetime_read_l0 n k]) (fun _ => rfl) (by kernel_rfl) ⟨z_go fun _ => by kernel_rfl, trivial⟩ (fun k => ⟨rd_onetime_read_l0 n k, trivial⟩) k rfl
def F_onetime_read (n : Nat) (x0 : Bool) (x1 : List UInt8) (x2 : UInt64) : Tree (List UInt64) :=
  .sub (F_onetime_read_l0 n n x0 x1 (0 : Int) ([(0 : UInt64), (0 : UInt64), (0 : UInt64), (0 : UInt64), (0 : UInt64)] : List UInt64)) fun y3 =>
  .get (subI x1 (12 : Int) (16 : Int)) fun y4 =>
  .sub (F_word_Load n false y4) fun y5 =>
  .get (gt y3 4) fun y6 =>
  .ret (List.set y3 4 ((shr64 (UInt64.ofNat (UInt32.toNat y5.1)) 8) ||| (shl64 x2 24)))
def S_onetime_read (n : Nat) : Summ := mkS ⟨[(.ro false .u8 []), (.val .u64 0)], [], 0⟩ [.c, .d (.list .u8), .d .u64] fun v => .sub (F_onetime_read n (p0 v) (p1 v) (p2 v)) fun r => .ret ((.val (.arr 5 .u64) r), [], 0)
theorem ok_onetime_read (n : Nat) : SoundF Tryd.prog 189 (S_onetime_read n) :=
  fn_go false true (c := codeOf Tryd.f189) (tab := mkTab [(136, ⟨S_word_Load n, [], [true, false], false⟩)]) (cuts := mkCuts [(0, C_189_0 (S_onetime_read_l0 n n))]) Tryd.func189 (by kernel_rfl) (.cons (ok_word_Load n) ⟨_, Tryd.func136, by kernel_rfl⟩ .nil) (CutsOK.list (l := [(0, .lp (bodyOf Tryd.f189 0))]) (by kernel_rfl) (LoopsOK.all ⟨.inr ⟨_, rfl, ok_onetime_read_l0 n n⟩, trivial⟩)) (fun v => by kernel_rfl)
def C_163_4 : CutF → Cut := fun κ => ⟨[0, 7, 42], fun e => match e with | .ex i => bif Nat.beq i 4 then [] else [] | .rt => [] | .nm => [] | .go i => [], κ⟩
def F_onetime_New_l4 (n : Nat) : Nat → (Bool) → (List UInt8) → (Int) → (List UInt64) → (List UInt64) → (List UInt64) → (List UInt8) → Tree (List UInt64)
 | 0 => fun  x0 x1 x2 x3 x4 x5 x6 => .fail
 | k + 1 => fun x0 x1 x2 x3 x4 x5 x6 =>
  .ite (decide (x2 < (4 : Int)))
  (.get (subI x1 (w64 ((16 : Int) + (w64 ((4 : Int) * x2)))) (w64 ((20 : Int) + (w64 ((4 : Int) * x2))))) fun y7 =>
  .sub (F_word_Load n false y7) fun y8 =>
  .get (inI 4 x2) fun y9 =>
  .get (gt x5 y9) fun y10 =>
  .sub (F_onetime_New_l4 n k x0 x1 (w64 (x2 + (1 : Int))) x3 x4 (List.set x5 y9 (UInt64.ofNat (UInt32.toNat y8.1))) x6) fun y11 =>
  .ret y11)
  (.ret x5)
def S_onetime_New_l4 (n k : Nat) : CutF := mkS ⟨[(.ro false .u8 []), (.ptr 0 0), (.val (.sint .i64) (0 : Int))], [⟨0, 1, .box (.agg (.pr (.val (.arr 5 .u64) []) (.pr (.val (.arr 5 .u64) []) (.pr (.val (.arr 4 .u64) []) (.pr (.whole 2 1) .un)))))⟩, ⟨2, 3, .row .u8 []⟩], 4⟩ [.c, .d (.list .u8), .d (.sint .i64), .d (.arr 5 .u64), .d (.arr 5 .u64), .d (.arr 4 .u64), .d (.list .u8)] fun v => .sub (F_onetime_New_l4 n k (p0 v) (p1 v) (p2 v) (p3 v) (p4 v) (p5 v) (p6 v)) fun r => .ret (.ex 4, [], [⟨0, 5, .box (.agg (.pr (.val (.arr 5 .u64) (p3 v)) (.pr (.val (.arr 5 .u64) (p4 v)) (.pr (.val (.arr 4 .u64) r) (.pr (.whole 6 1) .un)))))⟩, ⟨6, 7, .row .u8 (p6 v)⟩], 8)
theorem rd_onetime_New_l4 (n k : Nat) : Rounds Tryd.prog (Go.Func.ntmps Tryd.f163) (bodyOf Tryd.f163 4) C_163_4 [S_onetime_New_l4 n k] (S_onetime_New_l4 n (k + 1)) :=
  rounds_go (tab := mkTab [(136, ⟨S_word_Load n, [], [true, false], false⟩)]) (cuts := mkCuts []) (S_onetime_New_l4 n k) [] (.cons (ok_word_Load n) ⟨_, Tryd.func136, by kernel_rfl⟩ .nil) (.none0 (by kernel_rfl)) rfl (fun v => by kernel_rfl)
theorem ok_onetime_New_l4 (n k : Nat) : SoundC Tryd.prog (Go.Func.ntmps Tryd.f163) (.loop (bodyOf Tryd.f163 4)) (wr (bodyOf Tryd.f163 4)) (C_163_4 (S_onetime_New_l4 n k)) :=
  loop_go (K := fun k => [S_onetime_New_l4 n k]) (fun _ => rfl) (by kernel_rfl) ⟨z_go fun _ => by kernel_rfl, trivial⟩ (fun k => ⟨rd_onetime_New_l4 n k, trivial⟩) k rfl
def F_onetime_New (n : Nat) (x0 : Bool) (x1 : List UInt8) : Tree (Unit ⊕ ((List UInt64) × (List UInt64))) :=
  .ite (!(decide ((ln x1) = (32 : Int))))
  (.ret (.inl ()))
  (.sub (F_onetime_New_l0 n n (3 : Int) (cpy (zs 16) 0 16 x1)) fun y2 =>
  .sub (F_onetime_New_l2 n n (4 : Int) y2) fun y3 =>
  .sub (F_onetime_read n false y3 (0 : UInt64)) fun y4 =>
  .sub (F_onetime_New_l4 n n x0 x1 (0 : Int) y4 ([(0 : UInt64), (0 : UInt64), (0 : UInt64), (0 : UInt64), (0 : UInt64)] : List UInt64) ([(0 : UInt64), (0 : UInt64), (0 : UInt64), (0 : UInt64)] : List UInt64) ([] : List UInt8)) fun y5 =>
  .ret (.inr (y4, y5)))
def S_onetime_New (n : Nat) : Summ := mkS ⟨[(.ro false .u8 [])], [], 0⟩ [.c, .d (.list .u8)] fun v => .sub (F_onetime_New n (p0 v) (p1 v)) fun r => .alt r (fun r => .ret ((.tup (.pr .nil (.pr (.val (.sint .i64) (1 : Int)) .un))), [], 0)) (fun r => .ret ((.tup (.pr (.ptr 0 0) (.pr (.val (.sint .i64) (0 : Int)) .un))), [⟨0, 1, .box (.agg (.pr (.val (.arr 5 .u64) r.1) (.pr (.val (.arr 5 .u64) ([(0 : UInt64), (0 : UInt64), (0 : UInt64), (0 : UInt64), (0 : UInt64)] : List UInt64)) (.pr (.val (.arr 4 .u64) r.2) (.pr (.whole 2 1) .un)))))⟩, ⟨2, 3, .row .u8 ([] : List UInt8)⟩], 4))
theorem ok_onetime_New (n : Nat) : SoundF Tryd.prog 163 (S_onetime_New n) :=
  fn_go false true (c := codeOf Tryd.f163) (tab := mkTab [(189, ⟨S_onetime_read n, [], [true, false], false⟩)]) (cuts := mkCuts [(0, C_163_0 (S_onetime_New_l0 n n)), (2, C_163_2 (S_onetime_New_l2 n n)), (4, C_163_4 (S_onetime_New_l4 n n))]) Tryd.func163 (by kernel_rfl) (.cons (ok_onetime_read n) ⟨_, Tryd.func189, by kernel_rfl⟩ .nil) (CutsOK.list (l := [(0, .lp (bodyOf Tryd.f163 0)), (2, .lp (bodyOf Tryd.f163 2)), (4, .lp (bodyOf Tryd.f163 4))]) (by kernel_rfl) (LoopsOK.all ⟨.inr ⟨_, rfl, ok_onetime_New_l0 n n⟩, ⟨.inr ⟨_, rfl, ok_onetime_New_l2 n n⟩, ⟨.inr ⟨_, rfl, ok_onetime_New_l4 n n⟩, trivial⟩⟩⟩)) (fun v => by kernel_rfl)
def C_128_0 : CutF → Cut := fun κ => ⟨[11, 30, 31], fun e => match e with | .ex i => bif Nat.beq i 0 then [] else [] | .rt => [] | .nm => [] | .go i => [], κ⟩
def F_word_Fill (n : Nat) (x0 : List UInt8) (x1 : Int) : Tree ((Int) × (List UInt8)) :=
  .ite ((decide (x1 < (1 : Int))) || (decide ((4096 : Int) < x1)))
  (.ret ((1 : Int), ([] : List UInt8)))
  (.get (nz (decide (x1 = (0 : Int)))) fun y2 =>
  .get (nz (decide (x1 = (0 : Int)))) fun y3 =>
  .get (mkI 140737488355328 (w64 ((ln x0) + (Int.tmod (w64 (x1 - (Int.tmod (ln x0) x1))) x1))) (w64 ((ln x0) + (Int.tmod (w64 (x1 - (Int.tmod (ln x0) x1))) x1)))) fun y4 =>
  .ret ((0 : Int), (cpy (List.replicate y4 (0 : UInt8)) 0 (List.length (List.replicate y4 (0 : UInt8))) x0)))
def S_word_Fill (n : Nat) : Summ := mkS ⟨[(.ro false .u8 []), (.val (.sint .i64) (0 : Int))], [], 0⟩ [.c, .d (.list .u8), .d (.sint .i64)] fun v => .sub (F_word_Fill n (p1 v) (p2 v)) fun r => .ret ((.tup (.pr (.whole 0 1) (.pr (.val (.sint .i64) r.1) .un))), [⟨0, 1, .row .u8 r.2⟩], 2)
theorem ok_word_Fill (n : Nat) : SoundF Tryd.prog 164 (S_word_Fill n) :=
  fn_go false true (c := codeOf Tryd.f164) (tab := mkTab []) (cuts := mkCuts []) Tryd.func164 (by kernel_rfl) .nil (.none0 (by kernel_rfl)) (fun v => by kernel_rfl)
def F_onetime_Adder_Add (n : Nat) : Tree Unit :=
  .ret ()
def S_onetime_Adder_Add (n : Nat) : Summ := mkS ⟨[.nil, (.ro false .u8 [])], [], 0⟩ [.c, .d (.list .u8)] fun v => .sub (F_onetime_Adder_Add n) fun r => .ret ((.tup .un), [], 0)
theorem ok_onetime_Adder_Add (n : Nat) : SoundF Tryd.prog 165 (S_onetime_Adder_Add n) :=
  fn_go false true (c := codeOf Tryd.f165) (tab := mkTab []) (cuts := mkCuts []) Tryd.func165 (by kernel_rfl) .nil (CutsOK.list (l := [(0, .lp (bodyOf Tryd.f165 0))]) (by kernel_rfl) (LoopsOK.all ⟨.inl rfl, trivial⟩)) (fun v => by kernel_rfl)
def F_box_tag_l0 (n : Nat) : Nat → (List (List UInt8)) → (Int) → Tree Unit
 | 0 => fun  x0 x1 => .fail
 | k + 1 => fun x0 x1 =>
  .ite (decide (x1 < (2 : Int)))
  (.get (getI x0 x1) fun y2 =>
  .sub (F_word_Fill n y2 (16 : Int)) fun y3 =>
  .sub (F_onetime_Adder_Add n) fun y4 =>
  .sub (F_box_tag_l0 n k x0 (w64 (x1 + (1 : Int)))) fun y5 =>
  .ret ())
  (.ret ())
def S_box_tag_l0 (n k : Nat) : CutF := mkS ⟨[.nil, (.val (.arr 2 (.list .u8)) []), (.val (.sint .i64) (0 : Int))], [], 0⟩ [.d (.arr 2 (.list .u8)), .d (.sint .i64)] fun v => .sub (F_box_tag_l0 n k (p0 v) (p1 v)) fun r => .ret (.ex 0, [], [], 0)
theorem rd_box_tag_l0 (n k : Nat) : Rounds Tryd.prog (Go.Func.ntmps Tryd.f128) (bodyOf Tryd.f128 0) C_128_0 [S_box_tag_l0 n k] (S_box_tag_l0 n (k + 1)) :=
  rounds_go (tab := mkTab [(164, ⟨S_word_Fill n, [], [true, false], false⟩), (165, ⟨S_onetime_Adder_Add n, [], [false, true], false⟩)]) (cuts := mkCuts []) (S_box_tag_l0 n k) [] (.cons (ok_word_Fill n) ⟨_, Tryd.func164, by kernel_rfl⟩ (.cons (ok_onetime_Adder_Add n) ⟨_, Tryd.func165, by kernel_rfl⟩ .nil)) (.none0 (by kernel_rfl)) rfl (fun v => by kernel_rfl)
theorem ok_box_tag_l0 (n k : Nat) : SoundC Tryd.prog (Go.Func.ntmps Tryd.f128) (.loop (bodyOf Tryd.f128 0)) (wr (bodyOf Tryd.f128 0)) (C_128_0 (S_box_tag_l0 n k)) :=
  loop_go (K := fun k => [S_box_tag_l0 n k]) (fun _ => rfl) (by kernel_rfl) ⟨z_go fun _ => by kernel_rfl, trivial⟩ (fun k => ⟨rd_box_tag_l0 n k, trivial⟩) k rfl
def F_box_length (n : Nat) (x0 : Int) : Tree (List UInt8) :=
  .sub (F_word_Store n (int32 x0)) fun y1 =>
  .get (appI 140737488355328 ([] : List UInt8) y1) fun y2 =>
  .sub (F_word_Store n (UInt32.ofNat (UInt64.toNat (shr64 (int64 x0) 32)))) fun y3 =>
  .get (appI 140737488355328 y2 y3) fun y4 =>
  .ret y4
def S_box_length (n : Nat) : Summ := mkS ⟨[(.val (.sint .i64) (0 : Int))], [], 0⟩ [.d (.sint .i64)] fun v => .sub (F_box_length n (p0 v)) fun r => .ret ((.whole 0 1), [⟨0, 1, .row .u8 r⟩], 2)
theorem ok_box_length (n : Nat) : SoundF Tryd.prog 166 (S_box_length n) :=
  fn_go false true (c := codeOf Tryd.f166) (tab := mkTab [(97, ⟨S_word_Store n, [], [], false⟩)]) (cuts := mkCuts []) Tryd.func166 (by kernel_rfl) (.cons (ok_word_Store n) ⟨_, Tryd.func97, by kernel_rfl⟩ .nil) (.none0 (by kernel_rfl)) (fun v => by kernel_rfl)
def F_onetime_Adder_Tag (n : Nat) : Tree Unit :=
  .ret ()
def S_onetime_Adder_Tag (n : Nat) : Summ := mkS ⟨[.nil], [], 0⟩ [] fun v => .sub (F_onetime_Adder_Tag n) fun r => .ret ((.whole 0 1), [⟨0, 1, .row .u8 ([] : List UInt8)⟩], 2)
theorem ok_onetime_Adder_Tag (n : Nat) : SoundF Tryd.prog 167 (S_onetime_Adder_Tag n) :=
  fn_go false true (c := codeOf Tryd.f167) (tab := mkTab []) (cuts := mkCuts []) Tryd.func167 (by kernel_rfl) .nil (CutsOK.list (l := [(0, .lp (bodyOf Tryd.f167 0))]) (by kernel_rfl) (LoopsOK.all ⟨.inl rfl, trivial⟩)) (fun v => by kernel_rfl)
def C_165_0 : CutF → Cut := fun κ => ⟨[0], fun e => match e with | .ex i => bif Nat.beq i 0 then [] else [] | .rt => [] | .nm => [] | .go i => [], κ⟩
def C_190_0 : CutF → Cut := fun κ => ⟨[0, 3, 6], fun e => match e with | .ex i => bif Nat.beq i 0 then [] else [] | .rt => [] | .nm => [] | .go i => [], κ⟩
def F_onetime_Adder_take_l0 (n : Nat) : Nat → (Int) → (List UInt64) → (List UInt64) → (List UInt64) → (List UInt8) → (List UInt64) → Tree (List UInt64)
 | 0 => fun  x0 x1 x2 x3 x4 x5 => .fail
 | k + 1 => fun x0 x1 x2 x3 x4 x5 =>
  .ite (decide (x0 < (5 : Int)))
  (.get (inI 5 x0) fun y6 =>
  .get (gt x5 y6) fun y7 =>
  .get (inI 5 x0) fun y8 =>
  .get (gt x2 y8) fun y9 =>
  .get (inI 5 x0) fun y10 =>
  .get (gt x5 y10) fun y11 =>
  .sub (F_onetime_Adder_take_l0 n k (w64 (x0 + (1 : Int))) x1 x2 x3 x4 (List.set x5 y10 (y7 + y9))) fun y12 =>
  .ret y12)
  (.ret x5)
def S_onetime_Adder_take_l0 (n k : Nat) : CutF := mkS ⟨[(.ptr 0 0), (.ptr 4 0), (.val (.sint .i64) (0 : Int))], [⟨0, 1, .box (.agg (.pr (.val (.arr 5 .u64) []) (.pr (.val (.arr 5 .u64) []) (.pr (.val (.arr 4 .u64) []) (.pr (.whole 2 1) .un)))))⟩, ⟨2, 3, .row .u8 []⟩, ⟨4, 5, .box (.val (.arr 5 .u64) [])⟩], 6⟩ [.d (.sint .i64), .d (.arr 5 .u64), .d (.arr 5 .u64), .d (.arr 4 .u64), .d (.list .u8), .d (.arr 5 .u64)] fun v => .sub (F_onetime_Adder_take_l0 n k (p0 v) (p1 v) (p2 v) (p3 v) (p4 v) (p5 v)) fun r => .ret (.ex 0, [], [⟨0, 7, .box (.agg (.pr (.val (.arr 5 .u64) (p1 v)) (.pr (.val (.arr 5 .u64) (p2 v)) (.pr (.val (.arr 4 .u64) (p3 v)) (.pr (.whole 8 1) .un)))))⟩, ⟨8, 9, .row .u8 (p4 v)⟩, ⟨4, 11, .box (.val (.arr 5 .u64) r)⟩], 12)
theorem rd_onetime_Adder_take_l0 (n k : Nat) : Rounds Tryd.prog (Go.Func.ntmps Tryd.f190) (bodyOf Tryd.f190 0) C_190_0 [S_onetime_Adder_take_l0 n k] (S_onetime_Adder_take_l0 n (k + 1)) :=
  rounds_go (tab := mkTab []) (cuts := mkCuts []) (S_onetime_Adder_take_l0 n k) [] .nil (.none0 (by kernel_rfl)) rfl (fun v => by kernel_rfl)
theorem ok_onetime_Adder_take_l0 (n k : Nat) : SoundC Tryd.prog (Go.Func.ntmps Tryd.f190) (.loop (bodyOf Tryd.f190 0)) (wr (bodyOf Tryd.f190 0)) (C_190_0 (S_onetime_Adder_take_l0 n k)) :=
  loop_go (K := fun k => [S_onetime_Adder_take_l0 n k]) (fun _ => rfl) (by kernel_rfl) ⟨z_go fun _ => by kernel_rfl, trivial⟩ (fun k => ⟨rd_onetime_Adder_take_l0 n k, trivial⟩) k rfl
def C_199_0 : CutF → Cut := fun κ => ⟨[2, 3, 5, 9], fun e => match e with | .ex i => bif Nat.beq i 0 then [] else [] | .rt => [] | .nm => [] | .go i => [], κ⟩
def C_199_2 : CutF → Cut := fun κ => ⟨[2, 3, 5, 6, 12], fun e => match e with | .ex i => bif Nat.beq i 2 then [] else bif Nat.beq i 1 then [] else bif Nat.beq i 0 then [] else [] | .rt => [] | .nm => [] | .go i => [], κ⟩
def F_onetime_limbs_times_l2 (n : Nat) : Nat → (Int) → (Int) → (List UInt64) → (List UInt64) → (List UInt64) → Tree (List UInt64)
 | 0 => fun  x0 x1 x2 x3 x4 => .fail
 | k + 1 => fun x0 x1 x2 x3 x4 =>
  .ite (decide (x1 < (5 : Int)))
  (.get (inI 5 x0) fun y5 =>
  .get (gt x2 y5) fun y6 =>
  .get (inI 5 x1) fun y7 =>
  .get (gt x3 y7) fun y8 =>
  .ite (decide ((4 : Int) < (w64 (x0 + x1))))
  (.get (inI 5 (Int.tmod (w64 (x0 + x1)) (5 : Int))) fun y9 =>
  .get (gt x4 y9) fun y10 =>
  .get (inI 5 (Int.tmod (w64 (x0 + x1)) (5 : Int))) fun y11 =>
  .get (gt x4 y11) fun y12 =>
  .sub (F_onetime_limbs_times_l2 n k x0 (w64 (x1 + (1 : Int))) x2 x3 (List.set x4 y11 (y10 + ((y6 * y8) * (5 : UInt64))))) fun y13 =>
  .ret y13)
  (.get (inI 5 (Int.tmod (w64 (x0 + x1)) (5 : Int))) fun y14 =>
  .get (gt x4 y14) fun y15 =>
  .get (inI 5 (Int.tmod (w64 (x0 + x1)) (5 : Int))) fun y16 =>
  .get (gt x4 y16) fun y17 =>
  .sub (F_onetime_limbs_times_l2 n k x0 (w64 (x1 + (1 : Int))) x2 x3 (List.set x4 y16 (y15 + (y6 * y8)))) fun y18 =>
  .ret y18))
  (.ret x4)
def S_onetime_limbs_times_l2 (n k : Nat) : CutF := mkS ⟨[(.ptr 0 0), (.ptr 2 0), (.ptr 4 0), (.val (.sint .i64) (0 : Int)), (.val (.sint .i64) (0 : Int))], [⟨0, 1, .box (.val (.arr 5 .u64) [])⟩, ⟨2, 3, .box (.val (.arr 5 .u64) [])⟩, ⟨4, 5, .box (.val (.arr 5 .u64) [])⟩], 6⟩ [.d (.sint .i64), .d (.sint .i64), .d (.arr 5 .u64), .d (.arr 5 .u64), .d (.arr 5 .u64)] fun v => .sub (F_onetime_limbs_times_l2 n k (p0 v) (p1 v) (p2 v) (p3 v) (p4 v)) fun r => .ret (.ex 2, [], [⟨0, 7, .box (.val (.arr 5 .u64) (p2 v))⟩, ⟨2, 9, .box (.val (.arr 5 .u64) (p3 v))⟩, ⟨4, 11, .box (.val (.arr 5 .u64) r)⟩], 12)
theorem rd_onetime_limbs_times_l2 (n k : Nat) : Rounds Tryd.prog (Go.Func.ntmps Tryd.f199) (bodyOf Tryd.f199 2) C_199_2 [S_onetime_limbs_times_l2 n k] (S_onetime_limbs_times_l2 n (k + 1)) :=
  rounds_go (tab := mkTab []) (cuts := mkCuts []) (S_onetime_limbs_times_l2 n k) [] .nil (.none0 (by kernel_rfl)) rfl (fun v => by kernel_rfl)
theorem ok_onetime_limbs_times_l2 (n k : Nat) : SoundC Tryd.prog (Go.Func.ntmps Tryd.f199) (.loop (bodyOf Tryd.f199 2)) (wr (bodyOf Tryd.f199 2)) (C_199_2 (S_onetime_limbs_times_l2 n k)) :=
  loop_go (K := fun k => [S_onetime_limbs_times_l2 n k]) (fun _ => rfl) (by kernel_rfl) ⟨z_go fun _ => by kernel_rfl, trivial⟩ (fun k => ⟨rd_onetime_limbs_times_l2 n k, trivial⟩) k rfl
def F_onetime_limbs_times_l0 (n : Nat) : Nat → (Int) → (List UInt64) → (List UInt64) → (List UInt64) → Tree (List UInt64)
 | 0 => fun  x0 x1 x2 x3 => .fail
 | k + 1 => fun x0 x1 x2 x3 =>
  .ite (decide (x0 < (5 : Int)))
  (.sub (F_onetime_limbs_times_l2 n n x0 (0 : Int) x1 x2 x3) fun y4 =>
  .sub (F_onetime_limbs_times_l0 n k (w64 (x0 + (1 : Int))) x1 x2 y4) fun y5 =>
  .ret y5)
  (.ret x3)
def S_onetime_limbs_times_l0 (n k : Nat) : CutF := mkS ⟨[(.ptr 0 0), (.ptr 2 0), (.ptr 4 0), (.val (.sint .i64) (0 : Int))], [⟨0, 1, .box (.val (.arr 5 .u64) [])⟩, ⟨2, 3, .box (.val (.arr 5 .u64) [])⟩, ⟨4, 5, .box (.val (.arr 5 .u64) [])⟩], 6⟩ [.d (.sint .i64), .d (.arr 5 .u64), .d (.arr 5 .u64), .d (.arr 5 .u64)] fun v => .sub (F_onetime_limbs_times_l0 n k (p0 v) (p1 v) (p2 v) (p3 v)) fun r => .ret (.ex 0, [], [⟨0, 7, .box (.val (.arr 5 .u64) (p1 v))⟩, ⟨2, 9, .box (.val (.arr 5 .u64) (p2 v))⟩, ⟨4, 11, .box (.val (.arr 5 .u64) r)⟩], 12)
theorem rd_onetime_limbs_times_l0 (n k : Nat) : Rounds Tryd.prog (Go.Func.ntmps Tryd.f199) (bodyOf Tryd.f199 0) C_199_0 [S_onetime_limbs_times_l0 n k] (S_onetime_limbs_times_l0 n (k + 1)) :=
  rounds_go (tab := mkTab []) (cuts := mkCuts [(2, C_199_2 (S_onetime_limbs_times_l2 n n))]) (S_onetime_limbs_times_l0 n k) [] .nil (CutsOK.list (l := [(2, .lp (bodyOf Tryd.f199 2))]) (by kernel_rfl) (LoopsOK.all ⟨.inr ⟨_, rfl, ok_onetime_limbs_times_l2 n n⟩, trivial⟩)) rfl (fun v => by kernel_rfl)
theorem ok_onetime_limbs_times_l0 (n k : Nat) : SoundC Tryd.prog (Go.Func.ntmps Tryd.f199) (.loop (bodyOf Tryd.f199 0)) (wr (bodyOf Tryd.f199 0)) (C_199_0 (S_onetime_limbs_times_l0 n k)) :=
  loop_go (K := fun k => [S_onetime_limbs_times_l0 n k]) (fun _ => rfl) (by kernel_rfl) ⟨z_go fun _ => by kernel_rfl, trivial⟩ (fun k => ⟨rd_onetime_limbs_times_l0 n k, trivial⟩) k rfl
def C_200_0 : CutF → Cut := fun κ => ⟨[1, 3, 5], fun e => match e with | .ex i => bif Nat.beq i 0 then [3] else [] | .rt => [] | .nm => [] | .go i => [], κ⟩
def F_onetime_carried_l0 (n : Nat) : Nat → (UInt64) → (Int) → (List UInt64) → Tree ((UInt64) × (List UInt64))
 | 0 => fun  x0 x1 x2 => .fail
 | k + 1 => fun x0 x1 x2 =>
  .ite (decide (x1 < (5 : Int)))
  (.get (inI 5 x1) fun y3 =>
  .get (gt x2 y3) fun y4 =>
  .get (inI 5 x1) fun y5 =>
  .get (gt x2 y5) fun y6 =>
  .get (inI 5 x1) fun y7 =>
  .get (gt (List.set x2 y5 (y4 + x0)) y7) fun y8 =>
  .get (inI 5 x1) fun y9 =>
  .get (gt (List.set x2 y5 (y4 + x0)) y9) fun y10 =>
  .get (inI 5 x1) fun y11 =>
  .get (gt (List.set x2 y5 (y4 + x0)) y11) fun y12 =>
  .sub (F_onetime_carried_l0 n k (shr64 y8 26) (w64 (x1 + (1 : Int))) (List.set (List.set x2 y5 (y4 + x0)) y11 (y10 &&& (67108863 : UInt64)))) fun y13 =>
  .ret (y13.1, y13.2))
  (.ret (x0, x2))
def S_onetime_carried_l0 (n k : Nat) : CutF := mkS ⟨[(.ptr 0 0), (.val .u64 0), (.val (.sint .i64) (0 : Int))], [⟨0, 1, .box (.val (.arr 5 .u64) [])⟩], 2⟩ [.d .u64, .d (.sint .i64), .d (.arr 5 .u64)] fun v => .sub (F_onetime_carried_l0 n k (p0 v) (p1 v) (p2 v)) fun r => .ret (.ex 0, [(.val .u64 r.1)], [⟨0, 3, .box (.val (.arr 5 .u64) r.2)⟩], 4)
theorem rd_onetime_carried_l0 (n k : Nat) : Rounds Tryd.prog (Go.Func.ntmps Tryd.f200) (bodyOf Tryd.f200 0) C_200_0 [S_onetime_carried_l0 n k] (S_onetime_carried_l0 n (k + 1)) :=
  rounds_go (tab := mkTab []) (cuts := mkCuts []) (S_onetime_carried_l0 n k) [] .nil (.none0 (by kernel_rfl)) rfl (fun v => by kernel_rfl)
theorem ok_onetime_carried_l0 (n k : Nat) : SoundC Tryd.prog (Go.Func.ntmps Tryd.f200) (.loop (bodyOf Tryd.f200 0)) (wr (bodyOf Tryd.f200 0)) (C_200_0 (S_onetime_carried_l0 n k)) :=
  loop_go (K := fun k => [S_onetime_carried_l0 n k]) (fun _ => rfl) (by kernel_rfl) ⟨z_go fun _ => by kernel_rfl, trivial⟩ (fun k => ⟨rd_onetime_carried_l0 n k, trivial⟩) k rfl
def F_onetime_carried (n : Nat) (x0 : List UInt64) : Tree (List UInt64) :=
  .sub (F_onetime_carried_l0 n n (0 : UInt64) (0 : Int) x0) fun y1 =>
  .get (gt y1.2 0) fun y2 =>
  .get (gt y1.2 0) fun y3 =>
  .get (gt (List.set y1.2 0 (y2 + ((5 : UInt64) * y1.1))) 1) fun y4 =>
  .get (gt (List.set y1.2 0 (y2 + ((5 : UInt64) * y1.1))) 0) fun y5 =>
  .get (gt (List.set y1.2 0 (y2 + ((5 : UInt64) * y1.1))) 1) fun y6 =>
  .get (gt (List.set (List.set y1.2 0 (y2 + ((5 : UInt64) * y1.1))) 1 (y4 + (shr64 y5 26))) 0) fun y7 =>
  .get (gt (List.set (List.set y1.2 0 (y2 + ((5 : UInt64) * y1.1))) 1 (y4 + (shr64 y5 26))) 0) fun y8 =>
  .ret (List.set (List.set (List.set y1.2 0 (y2 + ((5 : UInt64) * y1.1))) 1 (y4 + (shr64 y5 26))) 0 (y7 &&& (67108863 : UInt64)))
def S_onetime_carried (n : Nat) : Summ := mkS ⟨[(.val (.arr 5 .u64) [])], [], 0⟩ [.d (.arr 5 .u64)] fun v => .sub (F_onetime_carried n (p0 v)) fun r => .ret ((.val (.arr 5 .u64) r), [], 0)
theorem ok_onetime_carried (n : Nat) : SoundF Tryd.prog 200 (S_onetime_carried n) :=
  fn_go false true (c := codeOf Tryd.f200) (tab := mkTab []) (cuts := mkCuts [(0, C_200_0 (S_onetime_carried_l0 n n))]) Tryd.func200 (by kernel_rfl) .nil (CutsOK.list (l := [(0, .lp (bodyOf Tryd.f200 0))]) (by kernel_rfl) (LoopsOK.all ⟨.inr ⟨_, rfl, ok_onetime_carried_l0 n n⟩, trivial⟩)) (fun v => by kernel_rfl)
def F_onetime_limbs_times (n : Nat) (x0 : List UInt64) (x1 : List UInt64) : Tree (List UInt64) :=
  .sub (F_onetime_limbs_times_l0 n n (0 : Int) x0 x1 ([(0 : UInt64), (0 : UInt64), (0 : UInt64), (0 : UInt64), (0 : UInt64)] : List UInt64)) fun y2 =>
  .sub (F_onetime_carried n y2) fun y3 =>
  .ret y3
def S_onetime_limbs_times (n : Nat) : Summ := mkS ⟨[(.val (.arr 5 .u64) []), (.val (.arr 5 .u64) [])], [], 0⟩ [.d (.arr 5 .u64), .d (.arr 5 .u64)] fun v => .sub (F_onetime_limbs_times n (p0 v) (p1 v)) fun r => .ret ((.val (.arr 5 .u64) r), [], 0)
theorem ok_onetime_limbs_times (n : Nat) : SoundF Tryd.prog 199 (S_onetime_limbs_times n) :=
  fn_go false true (c := codeOf Tryd.f199) (tab := mkTab [(200, ⟨S_onetime_carried n, [], [], false⟩)]) (cuts := mkCuts [(0, C_199_0 (S_onetime_limbs_times_l0 n n))]) Tryd.func199 (by kernel_rfl) (.cons (ok_onetime_carried n) ⟨_, Tryd.func200, by kernel_rfl⟩ .nil) (CutsOK.list (l := [(0, .lp (bodyOf Tryd.f199 0))]) (by kernel_rfl) (LoopsOK.all ⟨.inr ⟨_, rfl, ok_onetime_limbs_times_l0 n n⟩, trivial⟩)) (fun v => by kernel_rfl)
def F_onetime_Adder_take (n : Nat) (x0 : List UInt64) (x1 : List UInt64) (x2 : List UInt64) (x3 : List UInt64) (x4 : List UInt8) : Tree (List UInt64) :=
  .sub (F_onetime_Adder_take_l0 n n (0 : Int) x1 x2 x3 x4 x0) fun y5 =>
  .get (Tree.run (F_onetime_limbs_times n y5 x1)) fun y6 =>
  .ret y6
def S_onetime_Adder_take (n : Nat) : Summ := mkS ⟨[(.ptr 0 0), (.val (.arr 5 .u64) [])], [⟨0, 1, .box (.agg (.pr (.val (.arr 5 .u64) []) (.pr (.val (.arr 5 .u64) []) (.pr (.val (.arr 4 .u64) []) (.pr (.whole 2 1) .un)))))⟩, ⟨2, 3, .row .u8 []⟩], 4⟩ [.d (.arr 5 .u64), .d (.arr 5 .u64), .d (.arr 5 .u64), .d (.arr 4 .u64), .d (.list .u8)] fun v => .sub (F_onetime_Adder_take n (p0 v) (p1 v) (p2 v) (p3 v) (p4 v)) fun r => .ret ((.val (.arr 5 .u64) r), [⟨0, 5, .box (.agg (.pr (.val (.arr 5 .u64) (p1 v)) (.pr (.val (.arr 5 .u64) (p2 v)) (.pr (.val (.arr 4 .u64) (p3 v)) (.pr (.whole 6 1) .un)))))⟩, ⟨6, 7, .row .u8 (p4 v)⟩], 8)
theorem ok_onetime_Adder_take (n : Nat) : SoundF Tryd.prog 190 (S_onetime_Adder_take n) :=
  fn_go false true (c := codeOf Tryd.f190) (tab := mkTab [(199, ⟨S_onetime_limbs_times n, [], [], false⟩)]) (cuts := mkCuts [(0, C_190_0 (S_onetime_Adder_take_l0 n n))]) Tryd.func190 (by kernel_rfl) (.cons (ok_onetime_limbs_times n) ⟨_, Tryd.func199, by kernel_rfl⟩ .nil) (CutsOK.list (l := [(0, .lp (bodyOf Tryd.f190 0))]) (by kernel_rfl) (LoopsOK.all ⟨.inr ⟨_, rfl, ok_onetime_Adder_take_l0 n n⟩, trivial⟩)) (fun v => by kernel_rfl)
def F_onetime_Adder_Add_l0 (n : Nat) : Nat → (List UInt64) → (List UInt64) → (List UInt64) → (List UInt8) → Tree ((List UInt64) × (List UInt8))
 | 0 => fun  x0 x1 x2 x3 => .fail
 | k + 1 => fun x0 x1 x2 x3 =>
  .ite (decide ((16 : Int) ≤ (ln x3)))
  (.get (ite (And ((0 : Int) ≤ (0 : Int)) (And ((0 : Int) ≤ (16 : Int)) ((16 : Int) ≤ (ln x3)))) (Option.some Unit.unit) Option.none) fun y4 =>
  .sub (F_onetime_read n false (List.take 16 (List.drop 0 x3)) (1 : UInt64)) fun y5 =>
  .sub (F_onetime_Adder_take n y5 x0 x1 x2 x3) fun y6 =>
  .get (ite (And ((0 : Int) ≤ (16 : Int)) (And ((16 : Int) ≤ (ln x3)) ((ln x3) ≤ (ln x3)))) (Option.some Unit.unit) Option.none) fun y7 =>
  .sub (F_onetime_Adder_Add_l0 n k x0 y6 x2 (List.take ((Int.toNat (ln x3)) - 16) (List.drop 16 x3))) fun y8 =>
  .ret (y8.1, y8.2))
  (.ret (x1, x3))
def S_onetime_Adder_Add_l0 (n k : Nat) : CutF := mkS ⟨[(.ptr 0 0)], [⟨0, 1, .box (.agg (.pr (.val (.arr 5 .u64) []) (.pr (.val (.arr 5 .u64) []) (.pr (.val (.arr 4 .u64) []) (.pr (.whole 2 1) .un)))))⟩, ⟨2, 3, .row .u8 []⟩], 4⟩ [.d (.arr 5 .u64), .d (.arr 5 .u64), .d (.arr 4 .u64), .d (.list .u8)] fun v => .sub (F_onetime_Adder_Add_l0 n k (p0 v) (p1 v) (p2 v) (p3 v)) fun r => .ret (.ex 0, [], [⟨0, 5, .box (.agg (.pr (.val (.arr 5 .u64) (p0 v)) (.pr (.val (.arr 5 .u64) r.1) (.pr (.val (.arr 4 .u64) (p2 v)) (.pr (.whole 6 1) .un)))))⟩, ⟨6, 7, .row .u8 r.2⟩], 8)
theorem rd_onetime_Adder_Add_l0 (n k : Nat) : Rounds Tryd.prog (Go.Func.ntmps Tryd.f165) (bodyOf Tryd.f165 0) C_165_0 [S_onetime_Adder_Add_l0 n k] (S_onetime_Adder_Add_l0 n (k + 1)) :=
  rounds_go (tab := mkTab [(189, ⟨S_onetime_read n, [], [true, false], false⟩), (190, ⟨S_onetime_Adder_take n, [], [], false⟩)]) (cuts := mkCuts []) (S_onetime_Adder_Add_l0 n k) [] (.cons (ok_onetime_read n) ⟨_, Tryd.func189, by kernel_rfl⟩ (.cons (ok_onetime_Adder_take n) ⟨_, Tryd.func190, by kernel_rfl⟩ .nil)) (.none0 (by kernel_rfl)) rfl (fun v => by kernel_rfl)
theorem ok_onetime_Adder_Add_l0 (n k : Nat) : SoundC Tryd.prog (Go.Func.ntmps Tryd.f165) (.loop (bodyOf Tryd.f165 0)) (wr (bodyOf Tryd.f165 0)) (C_165_0 (S_onetime_Adder_Add_l0 n k)) :=
  loop_go (K := fun k => [S_onetime_Adder_Add_l0 n k]) (fun _ => rfl) (by kernel_rfl) ⟨z_go fun _ => by kernel_rfl, trivial⟩ (fun k => ⟨rd_onetime_Adder_Add_l0 n k, trivial⟩) k rfl
def F_onetime_Adder_Add_1 (n : Nat) (x0 : List UInt8) (x1 : List UInt64) (x2 : List UInt64) (x3 : List UInt64) (x4 : List UInt8) : Tree ((List UInt64) × (List UInt8)) :=
  .get (appI 140737488355328 x4 x0) fun y5 =>
  .sub (F_onetime_Adder_Add_l0 n n x1 x2 x3 y5) fun y6 =>
  .ret (y6.1, y6.2)
def S_onetime_Adder_Add_1 (n : Nat) : Summ := mkS ⟨[(.ptr 0 0), (.ro false .u8 [])], [⟨0, 1, .box (.agg (.pr (.val (.arr 5 .u64) []) (.pr (.val (.arr 5 .u64) []) (.pr (.val (.arr 4 .u64) []) (.pr (.whole 2 1) .un)))))⟩, ⟨2, 3, .row .u8 []⟩], 4⟩ [.c, .d (.list .u8), .d (.arr 5 .u64), .d (.arr 5 .u64), .d (.arr 4 .u64), .d (.list .u8)] fun v => .sub (F_onetime_Adder_Add_1 n (p1 v) (p2 v) (p3 v) (p4 v) (p5 v)) fun r => .ret ((.tup .un), [⟨0, 5, .box (.agg (.pr (.val (.arr 5 .u64) (p2 v)) (.pr (.val (.arr 5 .u64) r.1) (.pr (.val (.arr 4 .u64) (p4 v)) (.pr (.whole 6 1) .un)))))⟩, ⟨6, 7, .row .u8 r.2⟩], 8)
theorem ok_onetime_Adder_Add_1 (n : Nat) : SoundF Tryd.prog 165 (S_onetime_Adder_Add_1 n) :=
  fn_go false true (c := codeOf Tryd.f165) (tab := mkTab []) (cuts := mkCuts [(0, C_165_0 (S_onetime_Adder_Add_l0 n n))]) Tryd.func165 (by kernel_rfl) .nil (CutsOK.list (l := [(0, .lp (bodyOf Tryd.f165 0))]) (by kernel_rfl) (LoopsOK.all ⟨.inr ⟨_, rfl, ok_onetime_Adder_Add_l0 n n⟩, trivial⟩)) (fun v => by kernel_rfl)
def F_box_tag_l0_1 (n : Nat) : Nat → (List (List UInt8)) → (Int) → (List UInt64) → (List UInt64) → (List UInt64) → (List UInt8) → Tree ((List UInt64) × (List UInt8))
 | 0 => fun  x0 x1 x2 x3 x4 x5 => .fail
 | k + 1 => fun x0 x1 x2 x3 x4 x5 =>
  .ite (decide (x1 < (2 : Int)))
  (.get (getI x0 x1) fun y6 =>
  .sub (F_word_Fill n y6 (16 : Int)) fun y7 =>
  .sub (F_onetime_Adder_Add_1 n y7.2 x2 x3 x4 x5) fun y8 =>
  .sub (F_box_tag_l0_1 n k x0 (w64 (x1 + (1 : Int))) x2 y8.1 x4 y8.2) fun y9 =>
  .ret (y9.1, y9.2))
  (.ret (x3, x5))
def S_box_tag_l0_1 (n k : Nat) : CutF := mkS ⟨[(.ptr 0 0), (.val (.arr 2 (.list .u8)) []), (.val (.sint .i64) (0 : Int))], [⟨0, 1, .box (.agg (.pr (.val (.arr 5 .u64) []) (.pr (.val (.arr 5 .u64) []) (.pr (.val (.arr 4 .u64) []) (.pr (.whole 2 1) .un)))))⟩, ⟨2, 3, .row .u8 []⟩], 4⟩ [.d (.arr 2 (.list .u8)), .d (.sint .i64), .d (.arr 5 .u64), .d (.arr 5 .u64), .d (.arr 4 .u64), .d (.list .u8)] fun v => .sub (F_box_tag_l0_1 n k (p0 v) (p1 v) (p2 v) (p3 v) (p4 v) (p5 v)) fun r => .ret (.ex 0, [], [⟨0, 5, .box (.agg (.pr (.val (.arr 5 .u64) (p2 v)) (.pr (.val (.arr 5 .u64) r.1) (.pr (.val (.arr 4 .u64) (p4 v)) (.pr (.whole 6 1) .un)))))⟩, ⟨6, 7, .row .u8 r.2⟩], 8)
theorem rd_box_tag_l0_1 (n k : Nat) : Rounds Tryd.prog (Go.Func.ntmps Tryd.f128) (bodyOf Tryd.f128 0) C_128_0 [S_box_tag_l0_1 n k] (S_box_tag_l0_1 n (k + 1)) :=
  rounds_go (tab := mkTab [(164, ⟨S_word_Fill n, [], [true, false], false⟩), (165, ⟨S_onetime_Adder_Add_1 n, [], [false, true], false⟩)]) (cuts := mkCuts []) (S_box_tag_l0_1 n k) [] (.cons (ok_word_Fill n) ⟨_, Tryd.func164, by kernel_rfl⟩ (.cons (ok_onetime_Adder_Add_1 n) ⟨_, Tryd.func165, by kernel_rfl⟩ .nil)) (.none0 (by kernel_rfl)) rfl (fun v => by kernel_rfl)
theorem ok_box_tag_l0_1 (n k : Nat) : SoundC Tryd.prog (Go.Func.ntmps Tryd.f128) (.loop (bodyOf Tryd.f128 0)) (wr (bodyOf Tryd.f128 0)) (C_128_0 (S_box_tag_l0_1 n k)) :=
  loop_go (K := fun k => [S_box_tag_l0_1 n k]) (fun _ => rfl) (by kernel_rfl) ⟨z_go fun _ => by kernel_rfl, trivial⟩ (fun k => ⟨rd_box_tag_l0_1 n k, trivial⟩) k rfl
def C_191_0 : CutF → Cut := fun κ => ⟨[3, 16], fun e => match e with | .ex i => bif Nat.beq i 0 then [] else [] | .rt => [] | .nm => [] | .go i => [], κ⟩
def F_onetime_least_l0 (n : Nat) : Nat → (Int) → (List UInt64) → Tree (List UInt64)
 | 0 => fun  x0 x1 => .fail
 | k + 1 => fun x0 x1 =>
  .ite (decide (x0 < (4 : Int)))
  (.get (inI 5 (w64 (x0 + (1 : Int)))) fun y2 =>
  .get (gt x1 y2) fun y3 =>
  .get (inI 5 x0) fun y4 =>
  .get (gt x1 y4) fun y5 =>
  .get (inI 5 (w64 (x0 + (1 : Int)))) fun y6 =>
  .get (gt x1 y6) fun y7 =>
  .get (inI 5 x0) fun y8 =>
  .get (gt (List.set x1 y6 (y3 + (shr64 y5 26))) y8) fun y9 =>
  .get (inI 5 x0) fun y10 =>
  .get (gt (List.set x1 y6 (y3 + (shr64 y5 26))) y10) fun y11 =>
  .sub (F_onetime_least_l0 n k (w64 (x0 + (1 : Int))) (List.set (List.set x1 y6 (y3 + (shr64 y5 26))) y10 (y9 &&& (67108863 : UInt64)))) fun y12 =>
  .ret y12)
  (.ret x1)
def S_onetime_least_l0 (n k : Nat) : CutF := mkS ⟨[(.ptr 0 0), (.val (.sint .i64) (0 : Int))], [⟨0, 1, .box (.val (.arr 5 .u64) [])⟩], 2⟩ [.d (.sint .i64), .d (.arr 5 .u64)] fun v => .sub (F_onetime_least_l0 n k (p0 v) (p1 v)) fun r => .ret (.ex 0, [], [⟨0, 3, .box (.val (.arr 5 .u64) r)⟩], 4)
theorem rd_onetime_least_l0 (n k : Nat) : Rounds Tryd.prog (Go.Func.ntmps Tryd.f191) (bodyOf Tryd.f191 0) C_191_0 [S_onetime_least_l0 n k] (S_onetime_least_l0 n (k + 1)) :=
  rounds_go (tab := mkTab []) (cuts := mkCuts []) (S_onetime_least_l0 n k) [] .nil (.none0 (by kernel_rfl)) rfl (fun v => by kernel_rfl)
theorem ok_onetime_least_l0 (n k : Nat) : SoundC Tryd.prog (Go.Func.ntmps Tryd.f191) (.loop (bodyOf Tryd.f191 0)) (wr (bodyOf Tryd.f191 0)) (C_191_0 (S_onetime_least_l0 n k)) :=
  loop_go (K := fun k => [S_onetime_least_l0 n k]) (fun _ => rfl) (by kernel_rfl) ⟨z_go fun _ => by kernel_rfl, trivial⟩ (fun k => ⟨rd_onetime_least_l0 n k, trivial⟩) k rfl
def C_191_2 : CutF → Cut := fun κ => ⟨[1, 3, 6, 44], fun e => match e with | .ex i => bif Nat.beq i 2 then [] else [] | .rt => [] | .nm => [] | .go i => [], κ⟩
def F_onetime_least_l2 (n : Nat) : Nat → (UInt64) → (Int) → (List UInt64) → (List UInt64) → Tree (List UInt64)
 | 0 => fun  x0 x1 x2 x3 => .fail
 | k + 1 => fun x0 x1 x2 x3 =>
  .ite (decide (x1 < (5 : Int)))
  (.get (inI 5 x1) fun y4 =>
  .get (gt x2 y4) fun y5 =>
  .get (inI 5 x1) fun y6 =>
  .get (gt x3 y6) fun y7 =>
  .get (inI 5 x1) fun y8 =>
  .get (gt x2 y8) fun y9 =>
  .sub (F_onetime_least_l2 n k x0 (w64 (x1 + (1 : Int))) (List.set x2 y8 ((y5 &&& (Complement.complement x0)) ||| (y7 &&& x0))) x3) fun y10 =>
  .ret y10)
  (.ret x2)
def S_onetime_least_l2 (n k : Nat) : CutF := mkS ⟨[(.ptr 0 0), (.ptr 2 0), (.val .u64 0), (.val (.sint .i64) (0 : Int))], [⟨0, 1, .box (.val (.arr 5 .u64) [])⟩, ⟨2, 3, .box (.val (.arr 5 .u64) [])⟩], 4⟩ [.d .u64, .d (.sint .i64), .d (.arr 5 .u64), .d (.arr 5 .u64)] fun v => .sub (F_onetime_least_l2 n k (p0 v) (p1 v) (p2 v) (p3 v)) fun r => .ret (.ex 2, [], [⟨0, 5, .box (.val (.arr 5 .u64) r)⟩, ⟨2, 7, .box (.val (.arr 5 .u64) (p3 v))⟩], 8)
theorem rd_onetime_least_l2 (n k : Nat) : Rounds Tryd.prog (Go.Func.ntmps Tryd.f191) (bodyOf Tryd.f191 2) C_191_2 [S_onetime_least_l2 n k] (S_onetime_least_l2 n (k + 1)) :=
  rounds_go (tab := mkTab []) (cuts := mkCuts []) (S_onetime_least_l2 n k) [] .nil (.none0 (by kernel_rfl)) rfl (fun v => by kernel_rfl)
theorem ok_onetime_least_l2 (n k : Nat) : SoundC Tryd.prog (Go.Func.ntmps Tryd.f191) (.loop (bodyOf Tryd.f191 2)) (wr (bodyOf Tryd.f191 2)) (C_191_2 (S_onetime_least_l2 n k)) :=
  loop_go (K := fun k => [S_onetime_least_l2 n k]) (fun _ => rfl) (by kernel_rfl) ⟨z_go fun _ => by kernel_rfl, trivial⟩ (fun k => ⟨rd_onetime_least_l2 n k, trivial⟩) k rfl
def F_onetime_least (n : Nat) (x0 : List UInt64) : Tree (List UInt64) :=
  .sub (F_onetime_carried n x0) fun y1 =>
  .sub (F_onetime_carried n y1) fun y2 =>
  .get (gt y2 0) fun y3 =>
  .get (gt y2 0) fun y4 =>
  .sub (F_onetime_least_l0 n n (0 : Int) (List.set y2 0 (y3 + (5 : UInt64)))) fun y5 =>
  .get (gt y5 4) fun y6 =>
  .get (gt y5 4) fun y7 =>
  .get (gt y5 4) fun y8 =>
  .sub (F_onetime_least_l2 n n ((0 : UInt64) - (shr64 y6 26)) (0 : Int) y2 (List.set y5 4 (y7 &&& (67108863 : UInt64)))) fun y9 =>
  .ret y9
def S_onetime_least (n : Nat) : Summ := mkS ⟨[(.val (.arr 5 .u64) [])], [], 0⟩ [.d (.arr 5 .u64)] fun v => .sub (F_onetime_least n (p0 v)) fun r => .ret ((.val (.arr 5 .u64) r), [], 0)
theorem ok_onetime_least (n : Nat) : SoundF Tryd.prog 191 (S_onetime_least n) :=
  fn_go false true (c := codeOf Tryd.f191) (tab := mkTab [(200, ⟨S_onetime_carried n, [], [], false⟩)]) (cuts := mkCuts [(0, C_191_0 (S_onetime_least_l0 n n)), (2, C_191_2 (S_onetime_least_l2 n n))]) Tryd.func191 (by kernel_rfl) (.cons (ok_onetime_carried n) ⟨_, Tryd.func200, by kernel_rfl⟩ .nil) (CutsOK.list (l := [(0, .lp (bodyOf Tryd.f191 0)), (2, .lp (bodyOf Tryd.f191 2))]) (by kernel_rfl) (LoopsOK.all ⟨.inr ⟨_, rfl, ok_onetime_least_l0 n n⟩, ⟨.inr ⟨_, rfl, ok_onetime_least_l2 n n⟩, trivial⟩⟩)) (fun v => by kernel_rfl)
def C_167_0 : CutF → Cut := fun κ => ⟨[0, 6, 7, 70, 71], fun e => match e with | .ex i => bif Nat.beq i 0 then [6] else [] | .rt => [] | .nm => [] | .go i => [], κ⟩
def F_onetime_Adder_Tag_l0 (n : Nat) : Nat → (UInt64) → (List UInt64) → (Int) → (List UInt64) → (List UInt64) → (List UInt64) → (List UInt8) → (List UInt8) → Tree (Unit ⊕ (List UInt8))
 | 0 => fun  x0 x1 x2 x3 x4 x5 x6 x7 => .fail
 | k + 1 => fun x0 x1 x2 x3 x4 x5 x6 x7 =>
  .ite (decide (x2 < (4 : Int)))
  (.get (getI x1 x2) fun y8 =>
  .get (inI 4 x2) fun y9 =>
  .get (gt x5 y9) fun y10 =>
  .sub (F_word_Store n (UInt32.ofNat (UInt64.toNat (x0 + ((y8 &&& (4294967295 : UInt64)) + y10))))) fun y11 =>
  .get (appI 140737488355328 x7 y11) fun y12 =>
  .sub (F_onetime_Adder_Tag_l0 n k (shr64 (x0 + ((y8 &&& (4294967295 : UInt64)) + y10)) 32) x1 (w64 (x2 + (1 : Int))) x3 x4 x5 x6 y12) fun y13 =>
  .alt y13 (fun y14 =>
  .ret (.inr y12))
  fun y15 =>
  .ret (.inr y15))
  (.ret (.inl ()))
def S_onetime_Adder_Tag_l0 (n k : Nat) : CutF := mkS ⟨[(.ptr 0 0), (.whole 4 1), (.val .u64 0), (.val (.arr 4 .u64) []), (.val (.sint .i64) (0 : Int))], [⟨0, 1, .box (.agg (.pr (.val (.arr 5 .u64) []) (.pr (.val (.arr 5 .u64) []) (.pr (.val (.arr 4 .u64) []) (.pr (.whole 2 1) .un)))))⟩, ⟨2, 3, .row .u8 []⟩, ⟨4, 5, .row .u8 []⟩], 6⟩ [.d .u64, .d (.arr 4 .u64), .d (.sint .i64), .d (.arr 5 .u64), .d (.arr 5 .u64), .d (.arr 4 .u64), .d (.list .u8), .d (.list .u8)] fun v => .sub (F_onetime_Adder_Tag_l0 n k (p0 v) (p1 v) (p2 v) (p3 v) (p4 v) (p5 v) (p6 v) (p7 v)) fun r => .alt r (fun r => .ret (.ex 0, [(.whole 4 1)], [⟨4, 7, .row .u8 (p7 v)⟩, ⟨0, 9, .box (.agg (.pr (.val (.arr 5 .u64) (p3 v)) (.pr (.val (.arr 5 .u64) (p4 v)) (.pr (.val (.arr 4 .u64) (p5 v)) (.pr (.whole 10 1) .un)))))⟩, ⟨10, 11, .row .u8 (p6 v)⟩], 12)) (fun r => .ret (.ex 0, [(.whole 6 1)], [⟨6, 7, .row .u8 r⟩, ⟨0, 9, .box (.agg (.pr (.val (.arr 5 .u64) (p3 v)) (.pr (.val (.arr 5 .u64) (p4 v)) (.pr (.val (.arr 4 .u64) (p5 v)) (.pr (.whole 10 1) .un)))))⟩, ⟨10, 11, .row .u8 (p6 v)⟩], 12))
theorem rd_onetime_Adder_Tag_l0 (n k : Nat) : Rounds Tryd.prog (Go.Func.ntmps Tryd.f167) (bodyOf Tryd.f167 0) C_167_0 [S_onetime_Adder_Tag_l0 n k] (S_onetime_Adder_Tag_l0 n (k + 1)) :=
  rounds_go (tab := mkTab [(97, ⟨S_word_Store n, [], [], false⟩)]) (cuts := mkCuts []) (S_onetime_Adder_Tag_l0 n k) [] (.cons (ok_word_Store n) ⟨_, Tryd.func97, by kernel_rfl⟩ .nil) (.none0 (by kernel_rfl)) rfl (fun v => by kernel_rfl)
theorem ok_onetime_Adder_Tag_l0 (n k : Nat) : SoundC Tryd.prog (Go.Func.ntmps Tryd.f167) (.loop (bodyOf Tryd.f167 0)) (wr (bodyOf Tryd.f167 0)) (C_167_0 (S_onetime_Adder_Tag_l0 n k)) :=
  loop_go (K := fun k => [S_onetime_Adder_Tag_l0 n k]) (fun _ => rfl) (by kernel_rfl) ⟨z_go fun _ => by kernel_rfl, trivial⟩ (fun k => ⟨rd_onetime_Adder_Tag_l0 n k, trivial⟩) k rfl
def F_onetime_Adder_Tag_1 (n : Nat) (x0 : List UInt64) (x1 : List UInt64) (x2 : List UInt64) (x3 : List UInt8) : Tree (List UInt8) :=
  .ite (decide ((0 : Int) < (ln x3)))
  (.get (inI (List.length (cpy (zs 16) 0 16 (List.take (List.length x3) (List.drop 0 x3)))) (ln x3)) fun y4 =>
  .get (gt (cpy (zs 16) 0 16 (List.take (List.length x3) (List.drop 0 x3))) (0 + y4)) fun y5 =>
  .sub (F_onetime_read n false (List.set (cpy (zs 16) 0 16 (List.take (List.length x3) (List.drop 0 x3))) (0 + y4) (1 : UInt8)) (0 : UInt64)) fun y6 =>
  .sub (F_onetime_Adder_take n y6 x0 x1 x2 x3) fun y7 =>
  .sub (F_onetime_least n y7) fun y8 =>
  .get (gt y8 0) fun y9 =>
  .get (gt y8 1) fun y10 =>
  .get (gt y8 1) fun y11 =>
  .get (gt y8 2) fun y12 =>
  .get (gt y8 2) fun y13 =>
  .get (gt y8 3) fun y14 =>
  .get (gt y8 3) fun y15 =>
  .get (gt y8 4) fun y16 =>
  .sub (F_onetime_Adder_Tag_l0 n n (0 : UInt64) (List.set (List.set (List.set (List.set ([(0 : UInt64), (0 : UInt64), (0 : UInt64), (0 : UInt64)] : List UInt64) 0 (y9 ||| (shl64 y10 26))) 1 ((shr64 y11 6) ||| (shl64 y12 20))) 2 ((shr64 y13 12) ||| (shl64 y14 14))) 3 ((shr64 y15 18) ||| (shl64 y16 8))) (0 : Int) x0 x1 x2 x3 ([] : List UInt8)) fun y17 =>
  .alt y17 (fun y18 =>
  .ret ([] : List UInt8))
  fun y19 =>
  .ret y19)
  (.sub (F_onetime_least n x1) fun y20 =>
  .get (gt y20 0) fun y21 =>
  .get (gt y20 1) fun y22 =>
  .get (gt y20 1) fun y23 =>
  .get (gt y20 2) fun y24 =>
  .get (gt y20 2) fun y25 =>
  .get (gt y20 3) fun y26 =>
  .get (gt y20 3) fun y27 =>
  .get (gt y20 4) fun y28 =>
  .sub (F_onetime_Adder_Tag_l0 n n (0 : UInt64) (List.set (List.set (List.set (List.set ([(0 : UInt64), (0 : UInt64), (0 : UInt64), (0 : UInt64)] : List UInt64) 0 (y21 ||| (shl64 y22 26))) 1 ((shr64 y23 6) ||| (shl64 y24 20))) 2 ((shr64 y25 12) ||| (shl64 y26 14))) 3 ((shr64 y27 18) ||| (shl64 y28 8))) (0 : Int) x0 x1 x2 x3 ([] : List UInt8)) fun y29 =>
  .alt y29 (fun y30 =>
  .ret ([] : List UInt8))
  fun y31 =>
  .ret y31)
def S_onetime_Adder_Tag_1 (n : Nat) : Summ := mkS ⟨[(.ptr 0 0)], [⟨0, 1, .box (.agg (.pr (.val (.arr 5 .u64) []) (.pr (.val (.arr 5 .u64) []) (.pr (.val (.arr 4 .u64) []) (.pr (.whole 2 1) .un)))))⟩, ⟨2, 3, .row .u8 []⟩], 4⟩ [.d (.arr 5 .u64), .d (.arr 5 .u64), .d (.arr 4 .u64), .d (.list .u8)] fun v => .sub (F_onetime_Adder_Tag_1 n (p0 v) (p1 v) (p2 v) (p3 v)) fun r => .ret ((.whole 4 1), [⟨4, 5, .row .u8 r⟩, ⟨0, 7, .box (.agg (.pr (.val (.arr 5 .u64) (p0 v)) (.pr (.val (.arr 5 .u64) (p1 v)) (.pr (.val (.arr 4 .u64) (p2 v)) (.pr (.whole 8 1) .un)))))⟩, ⟨8, 9, .row .u8 (p3 v)⟩], 10)
theorem ok_onetime_Adder_Tag_1 (n : Nat) : SoundF Tryd.prog 167 (S_onetime_Adder_Tag_1 n) :=
  fn_go false true (c := codeOf Tryd.f167) (tab := mkTab [(189, ⟨S_onetime_read n, [], [true, false], false⟩), (190, ⟨S_onetime_Adder_take n, [], [], false⟩), (191, ⟨S_onetime_least n, [], [], false⟩)]) (cuts := mkCuts [(0, C_167_0 (S_onetime_Adder_Tag_l0 n n))]) Tryd.func167 (by kernel_rfl) (.cons (ok_onetime_read n) ⟨_, Tryd.func189, by kernel_rfl⟩ (.cons (ok_onetime_Adder_take n) ⟨_, Tryd.func190, by kernel_rfl⟩ (.cons (ok_onetime_least n) ⟨_, Tryd.func191, by kernel_rfl⟩ .nil))) (CutsOK.list (l := [(0, .lp (bodyOf Tryd.f167 0))]) (by kernel_rfl) (LoopsOK.all ⟨.inr ⟨_, rfl, ok_onetime_Adder_Tag_l0 n n⟩, trivial⟩)) (fun v => by kernel_rfl)
def F_box_tag (n : Nat) (x0 : Bool) (x1 : List UInt8) (x2 : Bool) (x3 : List UInt8) (x4 : List UInt8) (x5 : List UInt8) : Tree (List UInt8) :=
  .sub (F_cipher_Block n x0 x1 x2 x3 (0 : UInt32)) fun y6 =>
  .get (Option.some Unit.unit) fun y7 =>
  .sub (F_onetime_New n false (List.take 32 (List.drop 0 y6.1))) fun y8 =>
  .alt y8 (fun y9 =>
  .sub (F_box_tag_l0 n n (List.set (List.set ([([] : List UInt8), ([] : List UInt8)] : List (List UInt8)) 0 x4) 1 x5) (0 : Int)) fun y10 =>
  .sub (F_box_length n (ln x4)) fun y11 =>
  .sub (F_onetime_Adder_Add n) fun y12 =>
  .sub (F_box_length n (ln x5)) fun y13 =>
  .sub (F_onetime_Adder_Add n) fun y14 =>
  .sub (F_onetime_Adder_Tag n) fun y15 =>
  .ret ([] : List UInt8))
  fun y16 =>
  .sub (F_box_tag_l0_1 n n (List.set (List.set ([([] : List UInt8), ([] : List UInt8)] : List (List UInt8)) 0 x4) 1 x5) (0 : Int) y16.1 ([(0 : UInt64), (0 : UInt64), (0 : UInt64), (0 : UInt64), (0 : UInt64)] : List UInt64) y16.2 ([] : List UInt8)) fun y17 =>
  .sub (F_box_length n (ln x4)) fun y18 =>
  .sub (F_onetime_Adder_Add_1 n y18 y16.1 y17.1 y16.2 y17.2) fun y19 =>
  .sub (F_box_length n (ln x5)) fun y20 =>
  .sub (F_onetime_Adder_Add_1 n y20 y16.1 y19.1 y16.2 y19.2) fun y21 =>
  .sub (F_onetime_Adder_Tag_1 n y16.1 y21.1 y16.2 y21.2) fun y22 =>
  .ret y22
def S_box_tag (n : Nat) : Summ := mkS ⟨[(.ro false .u8 []), (.ro false .u8 []), (.ro false .u8 []), (.ro false .u8 [])], [], 0⟩ [.c, .d (.list .u8), .c, .d (.list .u8), .c, .d (.list .u8), .c, .d (.list .u8)] fun v => .sub (F_box_tag n (p0 v) (p1 v) (p2 v) (p3 v) (p5 v) (p7 v)) fun r => .ret ((.whole 0 1), [⟨0, 1, .row .u8 r⟩], 2)
theorem ok_box_tag (n : Nat) : SoundF Tryd.prog 128 (S_box_tag n) :=
  fn_go false true (c := codeOf Tryd.f128) (tab := mkTab [(162, ⟨S_cipher_Block n, [], [true, true, false], false⟩), (163, ⟨S_onetime_New n, [], [true], false⟩), (166, ⟨S_box_length n, [], [], false⟩), (165, ⟨orS (S_onetime_Adder_Add n) (S_onetime_Adder_Add_1 n), [], [false, true], false⟩), (167, ⟨orS (S_onetime_Adder_Tag n) (S_onetime_Adder_Tag_1 n), [], [], false⟩)]) (cuts := mkCuts [(0, C_128_0 (orC (S_box_tag_l0 n n) (S_box_tag_l0_1 n n)))]) Tryd.func128 (by kernel_rfl) (.cons (ok_cipher_Block n) ⟨_, Tryd.func162, by kernel_rfl⟩ (.cons (ok_onetime_New n) ⟨_, Tryd.func163, by kernel_rfl⟩ (.cons (ok_box_length n) ⟨_, Tryd.func166, by kernel_rfl⟩ (.cons (.or (ok_onetime_Adder_Add n) (ok_onetime_Adder_Add_1 n)) ⟨_, Tryd.func165, by kernel_rfl⟩ (.cons (.or (ok_onetime_Adder_Tag n) (ok_onetime_Adder_Tag_1 n)) ⟨_, Tryd.func167, by kernel_rfl⟩ .nil))))) (CutsOK.list (l := [(0, .lp (bodyOf Tryd.f128 0))]) (by kernel_rfl) (LoopsOK.all ⟨.inr ⟨_, rfl, .or (ok_box_tag_l0 n n) (ok_box_tag_l0_1 n n)⟩, trivial⟩)) (fun v => by kernel_rfl)
def F_box_Seal (n : Nat) (x0 : Bool) (x1 : List UInt8) (x2 : Bool) (x3 : List UInt8) (x4 : List UInt8) (x5 : List UInt8) : Tree ((Int) × (List UInt8)) :=
  .sub (F_box_right n x1 x3) fun y6 =>
  .ite (!y6)
  (.ret ((1 : Int), ([] : List UInt8)))
  (.get (mixI x1 x3 (1 : UInt32) x5) fun y7 =>
  .ite (!(decide (y7.2 = (0 : Int))))
  (.ret (y7.2, ([] : List UInt8)))
  (.sub (F_box_Size n (ln x5)) fun y8 =>
  .get (mkI 140737488355328 y8 y8) fun y9 =>
  .get (ite (And ((0 : Int) ≤ (ln y7.1)) (And ((ln y7.1) ≤ (ln (cpy (List.replicate y9 (0 : UInt8)) 0 (List.length (List.replicate y9 (0 : UInt8))) y7.1))) ((ln (cpy (List.replicate y9 (0 : UInt8)) 0 (List.length (List.replicate y9 (0 : UInt8))) y7.1)) ≤ (ln (cpy (List.replicate y9 (0 : UInt8)) 0 (List.length (List.replicate y9 (0 : UInt8))) y7.1))))) (Option.some Unit.unit) Option.none) fun y10 =>
  .get (Tree.run (F_box_tag n x0 x1 x2 x3 x4 y7.1)) fun y11 =>
  .ret ((0 : Int), (cpy (cpy (List.replicate y9 (0 : UInt8)) 0 (List.length (List.replicate y9 (0 : UInt8))) y7.1) (0 + (Int.toNat (ln y7.1))) ((Int.toNat (ln (cpy (List.replicate y9 (0 : UInt8)) 0 (List.length (List.replicate y9 (0 : UInt8))) y7.1))) - (Int.toNat (ln y7.1))) (List.take (List.length y11) (List.drop 0 y11))))))
def S_box_Seal (n : Nat) : Summ := mkS ⟨[(.ro false .u8 []), (.ro false .u8 []), (.ro false .u8 []), (.ro false .u8 [])], [], 0⟩ [.c, .d (.list .u8), .c, .d (.list .u8), .c, .d (.list .u8), .c, .d (.list .u8)] fun v => .sub (F_box_Seal n (p0 v) (p1 v) (p2 v) (p3 v) (p5 v) (p7 v)) fun r => .ret ((.tup (.pr (.whole 0 1) (.pr (.val (.sint .i64) r.1) .un))), [⟨0, 1, .row .u8 r.2⟩], 2)
theorem ok_box_Seal (n : Nat) : SoundF Tryd.prog 79 (S_box_Seal n) :=
  fn_go false true (c := codeOf Tryd.f79) (tab := mkTab [(126, ⟨S_box_right n, [], [true, true], false⟩), (127, ⟨S_mix, [], [], false⟩), (81, ⟨S_box_Size n, [], [], false⟩), (128, ⟨S_box_tag n, [], [true, true, true, true], false⟩)]) (cuts := mkCuts []) Tryd.func79 (by kernel_rfl) (.cons (ok_box_right n) ⟨_, Tryd.func126, by kernel_rfl⟩ (.consE ok_mixC (.cons (ok_box_Size n) ⟨_, Tryd.func81, by kernel_rfl⟩ (.cons (ok_box_tag n) ⟨_, Tryd.func128, by kernel_rfl⟩ .nil)))) (.none0 (by kernel_rfl)) (fun v => by kernel_rfl)
def C_135_0 : CutF → Cut := fun κ => ⟨[1, 5, 13, 14, 15], fun e => match e with | .ex i => bif Nat.beq i 0 then [5] else [] | .rt => [] | .nm => [] | .go i => [], κ⟩
def F_word_Same_l0 (n : Nat) : Nat → (Bool) → (List UInt8) → (UInt8) → (Bool) → (List UInt8) → (Int) → (Int) → Tree UInt8
 | 0 => fun  x0 x1 x2 x3 x4 x5 x6 => .fail
 | k + 1 => fun x0 x1 x2 x3 x4 x5 x6 =>
  .ite (decide (x6 < x5))
  (.get (getI x4 x6) fun y7 =>
  .get (getI x1 x6) fun y8 =>
  .sub (F_word_Same_l0 n k x0 x1 (x2 ||| (y7 ^^^ y8)) x3 x4 x5 (w64 (x6 + (1 : Int)))) fun y9 =>
  .ret y9)
  (.ret x2)
def S_word_Same_l0 (n k : Nat) : CutF := mkS ⟨[(.ro false .u8 []), (.val .u8 0), (.ro false .u8 []), (.val (.sint .i64) (0 : Int)), (.val (.sint .i64) (0 : Int))], [], 0⟩ [.c, .d (.list .u8), .d .u8, .c, .d (.list .u8), .d (.sint .i64), .d (.sint .i64)] fun v => .sub (F_word_Same_l0 n k (p0 v) (p1 v) (p2 v) (p3 v) (p4 v) (p5 v) (p6 v)) fun r => .ret (.ex 0, [(.val .u8 r)], [], 0)
theorem rd_word_Same_l0 (n k : Nat) : Rounds Tryd.prog (Go.Func.ntmps Tryd.f135) (bodyOf Tryd.f135 0) C_135_0 [S_word_Same_l0 n k] (S_word_Same_l0 n (k + 1)) :=
  rounds_go (tab := mkTab []) (cuts := mkCuts []) (S_word_Same_l0 n k) [] .nil (.none0 (by kernel_rfl)) rfl (fun v => by kernel_rfl)
theorem ok_word_Same_l0 (n k : Nat) : SoundC Tryd.prog (Go.Func.ntmps Tryd.f135) (.loop (bodyOf Tryd.f135 0)) (wr (bodyOf Tryd.f135 0)) (C_135_0 (S_word_Same_l0 n k)) :=
  loop_go (K := fun k => [S_word_Same_l0 n k]) (fun _ => rfl) (by kernel_rfl) ⟨z_go fun _ => by kernel_rfl, trivial⟩ (fun k => ⟨rd_word_Same_l0 n k, trivial⟩) k rfl
def F_word_Same (n : Nat) (x0 : Bool) (x1 : List UInt8) (x2 : Bool) (x3 : List UInt8) : Tree Bool :=
  .ite (!(decide ((ln x1) = (ln x3))))
  (.ret false)
  (.sub (F_word_Same_l0 n n x2 x3 (0 : UInt8) x0 x1 (ln x1) (0 : Int)) fun y4 =>
  .ret (decide (y4 = (0 : UInt8))))
def S_word_Same (n : Nat) : Summ := mkS ⟨[(.ro false .u8 []), (.ro false .u8 [])], [], 0⟩ [.c, .d (.list .u8), .c, .d (.list .u8)] fun v => .sub (F_word_Same n (p0 v) (p1 v) (p2 v) (p3 v)) fun r => .ret ((.val .bool r), [], 0)
theorem ok_word_Same (n : Nat) : SoundF Tryd.prog 135 (S_word_Same n) :=
  fn_go false true (c := codeOf Tryd.f135) (tab := mkTab []) (cuts := mkCuts [(0, C_135_0 (S_word_Same_l0 n n))]) Tryd.func135 (by kernel_rfl) .nil (CutsOK.list (l := [(0, .lp (bodyOf Tryd.f135 0))]) (by kernel_rfl) (LoopsOK.all ⟨.inr ⟨_, rfl, ok_word_Same_l0 n n⟩, trivial⟩)) (fun v => by kernel_rfl)
def F_box_Open (n : Nat) (x0 : Bool) (x1 : List UInt8) (x2 : Bool) (x3 : List UInt8) (x4 : List UInt8) (x5 : List UInt8) : Tree (Int ⊕ ((List UInt8) × Int)) :=
  .sub (F_box_right n x1 x3) fun y6 =>
  .ite (!y6)
  (.ret (.inl (1 : Int)))
  (.ite (decide ((w64 ((ln x5) - (16 : Int))) < (0 : Int)))
  (.ret (.inl (3 : Int)))
  (.get (ite (And ((w64 ((ln x5) - (16 : Int))) ≤ (w64 ((ln x5) - (16 : Int)))) ((w64 ((ln x5) - (16 : Int))) ≤ (ln x5))) (subI x5 (0 : Int) (w64 ((ln x5) - (16 : Int)))) Option.none) fun y7 =>
  .get (Tree.run (F_box_tag n x0 x1 x2 x3 x4 y7)) fun y8 =>
  .get (subI x5 (w64 ((ln x5) - (16 : Int))) (ln x5)) fun y9 =>
  .get (Tree.run (F_word_Same n false y8 false y9)) fun y10 =>
  .ite (!y10)
  (.ret (.inl (7 : Int)))
  (.get (mixI x1 x3 (1 : UInt32) y7) fun y11 =>
  .ret (.inr (y11.1, y11.2)))))
def S_box_Open (n : Nat) : Summ := mkS ⟨[(.ro false .u8 []), (.ro false .u8 []), (.ro false .u8 []), (.ro false .u8 [])], [], 0⟩ [.c, .d (.list .u8), .c, .d (.list .u8), .c, .d (.list .u8), .c, .d (.list .u8)] fun v => .sub (F_box_Open n (p0 v) (p1 v) (p2 v) (p3 v) (p5 v) (p7 v)) fun r => .alt r (fun r => .ret ((.tup (.pr (.whole 0 1) (.pr (.val (.sint .i64) r) .un))), [⟨0, 1, .row .u8 ([] : List UInt8)⟩], 2)) (fun r => .ret ((.tup (.pr (.ro false .u8 r.1) (.pr (.val (.sint .i64) r.2) .un))), [], 0))
theorem ok_box_Open (n : Nat) : SoundF Tryd.prog 93 (S_box_Open n) :=
  fn_go false true (c := codeOf Tryd.f93) (tab := mkTab [(126, ⟨S_box_right n, [], [true, true], false⟩), (128, ⟨S_box_tag n, [], [true, true, true, true], false⟩), (135, ⟨S_word_Same n, [], [true, true], false⟩), (127, ⟨S_mix, [], [], false⟩)]) (cuts := mkCuts []) Tryd.func93 (by kernel_rfl) (.cons (ok_box_right n) ⟨_, Tryd.func126, by kernel_rfl⟩ (.cons (ok_box_tag n) ⟨_, Tryd.func128, by kernel_rfl⟩ (.cons (ok_word_Same n) ⟨_, Tryd.func135, by kernel_rfl⟩ (.consE ok_mixC .nil)))) (.none0 (by kernel_rfl)) (fun v => by kernel_rfl)
def C_134_0 : CutF → Cut := fun κ => ⟨[0, 3, 6], fun e => match e with | .ex i => bif Nat.beq i 0 then [] else [] | .rt => [] | .nm => [] | .go i => [], κ⟩
def F_word_Tell_l0 (n : Nat) : Nat → (UInt64) → (Int) → (List UInt8) → Tree (List UInt8)
 | 0 => fun  x0 x1 x2 => .fail
 | k + 1 => fun x0 x1 x2 =>
  .ite (decide (x1 < (8 : Int)))
  (.get (nz (decide ((w64 ((8 : Int) * x1)) < (0 : Int)))) fun y3 =>
  .get (inI (List.length x2) (w64 ((7 : Int) - x1))) fun y4 =>
  .get (gt x2 (0 + y4)) fun y5 =>
  .sub (F_word_Tell_l0 n k x0 (w64 (x1 + (1 : Int))) (List.set x2 (0 + y4) (UInt8.ofNat (UInt64.toNat (shr64 x0 (Int.toNat (w64 ((8 : Int) * x1)))))))) fun y6 =>
  .ret y6)
  (.ret x2)
def S_word_Tell_l0 (n k : Nat) : CutF := mkS ⟨[(.val .u64 0), (.whole 0 1), (.val (.sint .i64) (0 : Int))], [⟨0, 1, .row .u8 []⟩], 2⟩ [.d .u64, .d (.sint .i64), .d (.list .u8)] fun v => .sub (F_word_Tell_l0 n k (p0 v) (p1 v) (p2 v)) fun r => .ret (.ex 0, [], [⟨0, 3, .row .u8 r⟩], 4)
theorem rd_word_Tell_l0 (n k : Nat) : Rounds Tryd.prog (Go.Func.ntmps Tryd.f134) (bodyOf Tryd.f134 0) C_134_0 [S_word_Tell_l0 n k] (S_word_Tell_l0 n (k + 1)) :=
  rounds_go (tab := mkTab []) (cuts := mkCuts []) (S_word_Tell_l0 n k) [] .nil (.none0 (by kernel_rfl)) rfl (fun v => by kernel_rfl)
theorem ok_word_Tell_l0 (n k : Nat) : SoundC Tryd.prog (Go.Func.ntmps Tryd.f134) (.loop (bodyOf Tryd.f134 0)) (wr (bodyOf Tryd.f134 0)) (C_134_0 (S_word_Tell_l0 n k)) :=
  loop_go (K := fun k => [S_word_Tell_l0 n k]) (fun _ => rfl) (by kernel_rfl) ⟨z_go fun _ => by kernel_rfl, trivial⟩ (fun k => ⟨rd_word_Tell_l0 n k, trivial⟩) k rfl
def F_word_Tell (n : Nat) (x0 : UInt64) : Tree (List UInt8) :=
  .sub (F_word_Tell_l0 n n x0 (0 : Int) (zs 8)) fun y1 =>
  .ret y1
def S_word_Tell (n : Nat) : Summ := mkS ⟨[(.val .u64 0)], [], 0⟩ [.d .u64] fun v => .sub (F_word_Tell n (p0 v)) fun r => .ret ((.whole 0 1), [⟨0, 1, .row .u8 r⟩], 2)
theorem ok_word_Tell (n : Nat) : SoundF Tryd.prog 134 (S_word_Tell n) :=
  fn_go false true (c := codeOf Tryd.f134) (tab := mkTab []) (cuts := mkCuts [(0, C_134_0 (S_word_Tell_l0 n n))]) Tryd.func134 (by kernel_rfl) .nil (CutsOK.list (l := [(0, .lp (bodyOf Tryd.f134 0))]) (by kernel_rfl) (LoopsOK.all ⟨.inr ⟨_, rfl, ok_word_Tell_l0 n n⟩, trivial⟩)) (fun v => by kernel_rfl)
def F_digest_New (n : Nat) : Tree Unit :=
  .ret ()
def S_digest_New (n : Nat) : Summ := mkS ⟨[], [], 0⟩ [] fun v => .sub (F_digest_New n) fun r => .ret ((.ptr 0 0), [⟨0, 1, .box (.agg (.pr (.val (.arr 8 .u32) ([(1779033703 : UInt32), (3144134277 : UInt32), (1013904242 : UInt32), (2773480762 : UInt32), (1359893119 : UInt32), (2600822924 : UInt32), (528734635 : UInt32), (1541459225 : UInt32)] : List UInt32)) (.pr (.whole 2 1) (.pr (.val .u64 (0 : UInt64)) .un))))⟩, ⟨2, 3, .row .u8 ([] : List UInt8)⟩], 4)
theorem ok_digest_New (n : Nat) : SoundF Tryd.prog 181 (S_digest_New n) :=
  fn_go false true (c := codeOf Tryd.f181) (tab := mkTab []) (cuts := mkCuts []) Tryd.func181 (by kernel_rfl) .nil (.none0 (by kernel_rfl)) (fun v => by kernel_rfl)
def C_150_0 : CutF → Cut := fun κ => ⟨[3, 7, 8, 9], fun e => match e with | .ex i => bif Nat.beq i 0 then [] else [] | .rt => [] | .nm => [] | .go i => [], κ⟩
def C_153_0 : CutF → Cut := fun κ => ⟨[0], fun e => match e with | .ex i => bif Nat.beq i 0 then [] else [] | .rt => [] | .nm => [] | .go i => [], κ⟩
def C_194_0 : CutF → Cut := fun κ => ⟨[0, 3, 6], fun e => match e with | .ex i => bif Nat.beq i 0 then [] else [] | .rt => [] | .nm => [] | .go i => [], κ⟩
def F_word_Load_1 (n : Nat) (x0 : Bool) (x1 : List UInt8) : Tree ((UInt32) × Int) :=
  .ite (!(decide ((ln x1) = (4 : Int))))
  (.ret ((0 : UInt32), (1 : Int)))
  (.sub (F_word_Load_l0 n n x0 x1 false (0 : UInt32) (0 : Int)) fun y2 =>
  .ret (y2, (0 : Int)))
def S_word_Load_1 (n : Nat) : Summ := mkS ⟨[(.ro false .u8 []), .ff], [], 0⟩ [.c, .d (.list .u8)] fun v => .sub (F_word_Load_1 n (p0 v) (p1 v)) fun r => .ret ((.tup (.pr (.val .u32 r.1) (.pr (.val (.sint .i64) r.2) .un))), [], 0)
theorem ok_word_Load_1 (n : Nat) : SoundF Tryd.prog 136 (S_word_Load_1 n) :=
  fn_go false true (c := codeOf Tryd.f136) (tab := mkTab []) (cuts := mkCuts [(0, C_136_0 (S_word_Load_l0 n n))]) Tryd.func136 (by kernel_rfl) .nil (CutsOK.list (l := [(0, .lp (bodyOf Tryd.f136 0))]) (by kernel_rfl) (LoopsOK.all ⟨.inr ⟨_, rfl, ok_word_Load_l0 n n⟩, trivial⟩)) (fun v => by kernel_rfl)
def F_digest_words_l0 (n : Nat) : Nat → (Bool) → (List UInt8) → (Int) → (List UInt32) → Tree (List UInt32)
 | 0 => fun  x0 x1 x2 x3 => .fail
 | k + 1 => fun x0 x1 x2 x3 =>
  .ite (decide (x2 < (16 : Int)))
  (.get (subI x1 (w64 ((4 : Int) * x2)) (w64 ((w64 ((4 : Int) * x2)) + (4 : Int)))) fun y4 =>
  .sub (F_word_Load_1 n false y4) fun y5 =>
  .get (inI 64 x2) fun y6 =>
  .get (gt x3 y6) fun y7 =>
  .sub (F_digest_words_l0 n k x0 x1 (w64 (x2 + (1 : Int))) (List.set x3 y6 y5.1)) fun y8 =>
  .ret y8)
  (.ret x3)
def S_digest_words_l0 (n k : Nat) : CutF := mkS ⟨[(.ro false .u8 []), (.ptr 0 0), (.val (.sint .i64) (0 : Int))], [⟨0, 1, .box (.val (.arr 64 .u32) [])⟩], 2⟩ [.c, .d (.list .u8), .d (.sint .i64), .d (.arr 64 .u32)] fun v => .sub (F_digest_words_l0 n k (p0 v) (p1 v) (p2 v) (p3 v)) fun r => .ret (.ex 0, [], [⟨0, 3, .box (.val (.arr 64 .u32) r)⟩], 4)
theorem rd_digest_words_l0 (n k : Nat) : Rounds Tryd.prog (Go.Func.ntmps Tryd.f194) (bodyOf Tryd.f194 0) C_194_0 [S_digest_words_l0 n k] (S_digest_words_l0 n (k + 1)) :=
  rounds_go (tab := mkTab [(136, ⟨S_word_Load_1 n, [], [true, false], false⟩)]) (cuts := mkCuts []) (S_digest_words_l0 n k) [] (.cons (ok_word_Load_1 n) ⟨_, Tryd.func136, by kernel_rfl⟩ .nil) (.none0 (by kernel_rfl)) rfl (fun v => by kernel_rfl)
theorem ok_digest_words_l0 (n k : Nat) : SoundC Tryd.prog (Go.Func.ntmps Tryd.f194) (.loop (bodyOf Tryd.f194 0)) (wr (bodyOf Tryd.f194 0)) (C_194_0 (S_digest_words_l0 n k)) :=
  loop_go (K := fun k => [S_digest_words_l0 n k]) (fun _ => rfl) (by kernel_rfl) ⟨z_go fun _ => by kernel_rfl, trivial⟩ (fun k => ⟨rd_digest_words_l0 n k, trivial⟩) k rfl
def C_194_2 : CutF → Cut := fun κ => ⟨[3, 5], fun e => match e with | .ex i => bif Nat.beq i 2 then [] else [] | .rt => [] | .nm => [] | .go i => [], κ⟩
def F_digest_late (n : Nat) (x0 : UInt32) : Tree UInt32 :=
  .sub (F_word_Turn n x0 (-17 : Int)) fun y1 =>
  .sub (F_word_Turn n x0 (-19 : Int)) fun y2 =>
  .ret ((y1 ^^^ y2) ^^^ (shr32 x0 10))
def S_digest_late (n : Nat) : Summ := mkS ⟨[(.val .u32 0)], [], 0⟩ [.d .u32] fun v => .sub (F_digest_late n (p0 v)) fun r => .ret ((.val .u32 r), [], 0)
theorem ok_digest_late (n : Nat) : SoundF Tryd.prog 201 (S_digest_late n) :=
  fn_go false true (c := codeOf Tryd.f201) (tab := mkTab [(203, ⟨S_word_Turn n, [], [], false⟩)]) (cuts := mkCuts []) Tryd.func201 (by kernel_rfl) (.cons (ok_word_Turn n) ⟨_, Tryd.func203, by kernel_rfl⟩ .nil) (.none0 (by kernel_rfl)) (fun v => by kernel_rfl)
def F_digest_early (n : Nat) (x0 : UInt32) : Tree UInt32 :=
  .sub (F_word_Turn n x0 (-7 : Int)) fun y1 =>
  .sub (F_word_Turn n x0 (-18 : Int)) fun y2 =>
  .ret ((y1 ^^^ y2) ^^^ (shr32 x0 3))
def S_digest_early (n : Nat) : Summ := mkS ⟨[(.val .u32 0)], [], 0⟩ [.d .u32] fun v => .sub (F_digest_early n (p0 v)) fun r => .ret ((.val .u32 r), [], 0)
theorem ok_digest_early (n : Nat) : SoundF Tryd.prog 202 (S_digest_early n) :=
  fn_go false true (c := codeOf Tryd.f202) (tab := mkTab [(203, ⟨S_word_Turn n, [], [], false⟩)]) (cuts := mkCuts []) Tryd.func202 (by kernel_rfl) (.cons (ok_word_Turn n) ⟨_, Tryd.func203, by kernel_rfl⟩ .nil) (.none0 (by kernel_rfl)) (fun v => by kernel_rfl)
def F_digest_words_l2 (n : Nat) : Nat → (Int) → (List UInt32) → Tree (List UInt32)
 | 0 => fun  x0 x1 => .fail
 | k + 1 => fun x0 x1 =>
  .ite (decide (x0 < (64 : Int)))
  (.get (inI 64 (w64 (x0 - (2 : Int)))) fun y2 =>
  .get (gt x1 y2) fun y3 =>
  .get (Tree.run (F_digest_late n y3)) fun y4 =>
  .get (inI 64 (w64 (x0 - (7 : Int)))) fun y5 =>
  .get (gt x1 y5) fun y6 =>
  .get (inI 64 (w64 (x0 - (15 : Int)))) fun y7 =>
  .get (gt x1 y7) fun y8 =>
  .get (Tree.run (F_digest_early n y8)) fun y9 =>
  .get (inI 64 (w64 (x0 - (16 : Int)))) fun y10 =>
  .get (gt x1 y10) fun y11 =>
  .get (inI 64 x0) fun y12 =>
  .get (gt x1 y12) fun y13 =>
  .sub (F_digest_words_l2 n k (w64 (x0 + (1 : Int))) (List.set x1 y12 (((y4 + y6) + y9) + y11))) fun y14 =>
  .ret y14)
  (.ret x1)
def S_digest_words_l2 (n k : Nat) : CutF := mkS ⟨[(.ptr 0 0), (.val (.sint .i64) (0 : Int))], [⟨0, 1, .box (.val (.arr 64 .u32) [])⟩], 2⟩ [.d (.sint .i64), .d (.arr 64 .u32)] fun v => .sub (F_digest_words_l2 n k (p0 v) (p1 v)) fun r => .ret (.ex 2, [], [⟨0, 3, .box (.val (.arr 64 .u32) r)⟩], 4)
theorem rd_digest_words_l2 (n k : Nat) : Rounds Tryd.prog (Go.Func.ntmps Tryd.f194) (bodyOf Tryd.f194 2) C_194_2 [S_digest_words_l2 n k] (S_digest_words_l2 n (k + 1)) :=
  rounds_go (tab := mkTab [(201, ⟨S_digest_late n, [], [], false⟩), (202, ⟨S_digest_early n, [], [], false⟩)]) (cuts := mkCuts []) (S_digest_words_l2 n k) [] (.cons (ok_digest_late n) ⟨_, Tryd.func201, by kernel_rfl⟩ (.cons (ok_digest_early n) ⟨_, Tryd.func202, by kernel_rfl⟩ .nil)) (.none0 (by kernel_rfl)) rfl (fun v => by kernel_rfl)
theorem ok_digest_words_l2 (n k : Nat) : SoundC Tryd.prog (Go.Func.ntmps Tryd.f194) (.loop (bodyOf Tryd.f194 2)) (wr (bodyOf Tryd.f194 2)) (C_194_2 (S_digest_words_l2 n k)) :=
  loop_go (K := fun k => [S_digest_words_l2 n k]) (fun _ => rfl) (by kernel_rfl) ⟨z_go fun _ => by kernel_rfl, trivial⟩ (fun k => ⟨rd_digest_words_l2 n k, trivial⟩) k rfl
def F_digest_words (n : Nat) (x0 : Bool) (x1 : List UInt8) : Tree (List UInt32) :=
  .sub (F_digest_words_l0 n n x0 x1 (0 : Int) ([(0 : UInt32), (0 : UInt32), (0 : UInt32), (0 : UInt32), (0 : UInt32), (0 : UInt32), (0 : UInt32), (0 : UInt32), (0 : UInt32), (0 : UInt32), (0 : UInt32), (0 : UInt32), (0 : UInt32), (0 : UInt32), (0 : UInt32), (0 : UInt32), (0 : UInt32), (0 : UInt32), (0 : UInt32), (0 : UInt32), (0 : UInt32), (0 : UInt32), (0 : UInt32), (0 : UInt32), (0 : UInt32), (0 : UInt32), (0 : UInt32), (0 : UInt32), (0 : UInt32), (0 : UInt32), (0 : UInt32), (0 : UInt32), (0 : UInt32), (0 : UInt32), (0 : UInt32), (0 : UInt32), (0 : UInt32), (0 : UInt32), (0 : UInt32), (0 : UInt32), (0 : UInt32), (0 : UInt32), (0 : UInt32), (0 : UInt32), (0 : UInt32), (0 : UInt32), (0 : UInt32), (0 : UInt32), (0 : UInt32), (0 : UInt32), (0 : UInt32), (0 : UInt32), (0 : UInt32), (0 : UInt32), (0 : UInt32), (0 : UInt32), (0 : UInt32), (0 : UInt32), (0 : UInt32), (0 : UInt32), (0 : UInt32), (0 : UInt32), (0 : UInt32), (0 : UInt32)] : List UInt32)) fun y2 =>
  .sub (F_digest_words_l2 n n (16 : Int) y2) fun y3 =>
  .ret y3
def S_digest_words (n : Nat) : Summ := mkS ⟨[(.ro false .u8 [])], [], 0⟩ [.c, .d (.list .u8)] fun v => .sub (F_digest_words n (p0 v) (p1 v)) fun r => .ret ((.val (.arr 64 .u32) r), [], 0)
theorem ok_digest_words (n : Nat) : SoundF Tryd.prog 194 (S_digest_words n) :=
  fn_go false true (c := codeOf Tryd.f194) (tab := mkTab []) (cuts := mkCuts [(0, C_194_0 (S_digest_words_l0 n n)), (2, C_194_2 (S_digest_words_l2 n n))]) Tryd.func194 (by kernel_rfl) .nil (CutsOK.list (l := [(0, .lp (bodyOf Tryd.f194 0)), (2, .lp (bodyOf Tryd.f194 2))]) (by kernel_rfl) (LoopsOK.all ⟨.inr ⟨_, rfl, ok_digest_words_l0 n n⟩, ⟨.inr ⟨_, rfl, ok_digest_words_l2 n n⟩, trivial⟩⟩)) (fun v => by kernel_rfl)
def C_182_0 : CutF → Cut := fun κ => ⟨[5, 6, 15, 16], fun e => match e with | .ex i => bif Nat.beq i 0 then [] else [] | .rt => [] | .nm => [] | .go i => [], κ⟩
def F_digest_high (n : Nat) (x0 : UInt32) : Tree UInt32 :=
  .sub (F_word_Turn n x0 (-6 : Int)) fun y1 =>
  .sub (F_word_Turn n x0 (-11 : Int)) fun y2 =>
  .sub (F_word_Turn n x0 (-25 : Int)) fun y3 =>
  .ret ((y1 ^^^ y2) ^^^ y3)
def S_digest_high (n : Nat) : Summ := mkS ⟨[(.val .u32 0)], [], 0⟩ [.d .u32] fun v => .sub (F_digest_high n (p0 v)) fun r => .ret ((.val .u32 r), [], 0)
theorem ok_digest_high (n : Nat) : SoundF Tryd.prog 195 (S_digest_high n) :=
  fn_go false true (c := codeOf Tryd.f195) (tab := mkTab [(203, ⟨S_word_Turn n, [], [], false⟩)]) (cuts := mkCuts []) Tryd.func195 (by kernel_rfl) (.cons (ok_word_Turn n) ⟨_, Tryd.func203, by kernel_rfl⟩ .nil) (.none0 (by kernel_rfl)) (fun v => by kernel_rfl)
def F_digest_low (n : Nat) (x0 : UInt32) : Tree UInt32 :=
  .sub (F_word_Turn n x0 (-2 : Int)) fun y1 =>
  .sub (F_word_Turn n x0 (-13 : Int)) fun y2 =>
  .sub (F_word_Turn n x0 (-22 : Int)) fun y3 =>
  .ret ((y1 ^^^ y2) ^^^ y3)
def S_digest_low (n : Nat) : Summ := mkS ⟨[(.val .u32 0)], [], 0⟩ [.d .u32] fun v => .sub (F_digest_low n (p0 v)) fun r => .ret ((.val .u32 r), [], 0)
theorem ok_digest_low (n : Nat) : SoundF Tryd.prog 196 (S_digest_low n) :=
  fn_go false true (c := codeOf Tryd.f196) (tab := mkTab [(203, ⟨S_word_Turn n, [], [], false⟩)]) (cuts := mkCuts []) Tryd.func196 (by kernel_rfl) (.cons (ok_word_Turn n) ⟨_, Tryd.func203, by kernel_rfl⟩ .nil) (.none0 (by kernel_rfl)) (fun v => by kernel_rfl)
def F_digest_block_l0 (n : Nat) : Nat → (List UInt32) → (Int) → (List UInt32) → (List UInt32) → Tree (List UInt32)
 | 0 => fun  x0 x1 x2 x3 => .fail
 | k + 1 => fun x0 x1 x2 x3 =>
  .ite (decide (x1 < (64 : Int)))
  (.get (getI x0 x1) fun y4 =>
  .get (gt x3 7) fun y5 =>
  .get (gt x3 4) fun y6 =>
  .get (Tree.run (F_digest_high n y6)) fun y7 =>
  .get (gt x3 4) fun y8 =>
  .get (gt x3 5) fun y9 =>
  .get (gt x3 4) fun y10 =>
  .get (gt x3 6) fun y11 =>
  .get (inI 64 x1) fun y12 =>
  .get (gt x2 y12) fun y13 =>
  .get (gt x3 0) fun y14 =>
  .get (Tree.run (F_digest_low n y14)) fun y15 =>
  .get (gt x3 0) fun y16 =>
  .get (gt x3 1) fun y17 =>
  .get (gt x3 0) fun y18 =>
  .get (gt x3 2) fun y19 =>
  .get (gt x3 1) fun y20 =>
  .get (gt x3 2) fun y21 =>
  .get (Option.some Unit.unit) fun y22 =>
  .get (Option.some Unit.unit) fun y23 =>
  .get (gt (cpy x3 1 7 (List.take 7 (List.drop 0 x3))) 0) fun y24 =>
  .get (gt (List.set (cpy x3 1 7 (List.take 7 (List.drop 0 x3))) 0 (((((y5 + y7) + ((y8 &&& y9) ^^^ (((4294967295 : UInt32) ^^^ y10) &&& y11))) + y4) + y13) + (y15 + (((y16 &&& y17) ^^^ (y18 &&& y19)) ^^^ (y20 &&& y21))))) 4) fun y25 =>
  .get (gt (List.set (cpy x3 1 7 (List.take 7 (List.drop 0 x3))) 0 (((((y5 + y7) + ((y8 &&& y9) ^^^ (((4294967295 : UInt32) ^^^ y10) &&& y11))) + y4) + y13) + (y15 + (((y16 &&& y17) ^^^ (y18 &&& y19)) ^^^ (y20 &&& y21))))) 4) fun y26 =>
  .sub (F_digest_block_l0 n k x0 (w64 (x1 + (1 : Int))) x2 (List.set (List.set (cpy x3 1 7 (List.take 7 (List.drop 0 x3))) 0 (((((y5 + y7) + ((y8 &&& y9) ^^^ (((4294967295 : UInt32) ^^^ y10) &&& y11))) + y4) + y13) + (y15 + (((y16 &&& y17) ^^^ (y18 &&& y19)) ^^^ (y20 &&& y21))))) 4 (y25 + ((((y5 + y7) + ((y8 &&& y9) ^^^ (((4294967295 : UInt32) ^^^ y10) &&& y11))) + y4) + y13)))) fun y27 =>
  .ret y27)
  (.ret x3)
def S_digest_block_l0 (n k : Nat) : CutF := mkS ⟨[(.ptr 0 0), (.ptr 2 0), (.val (.arr 64 .u32) []), (.val (.sint .i64) (0 : Int))], [⟨0, 1, .box (.val (.arr 64 .u32) [])⟩, ⟨2, 3, .box (.val (.arr 8 .u32) [])⟩], 4⟩ [.d (.arr 64 .u32), .d (.sint .i64), .d (.arr 64 .u32), .d (.arr 8 .u32)] fun v => .sub (F_digest_block_l0 n k (p0 v) (p1 v) (p2 v) (p3 v)) fun r => .ret (.ex 0, [], [⟨0, 5, .box (.val (.arr 64 .u32) (p2 v))⟩, ⟨2, 7, .box (.val (.arr 8 .u32) r)⟩], 8)
theorem rd_digest_block_l0 (n k : Nat) : Rounds Tryd.prog (Go.Func.ntmps Tryd.f182) (bodyOf Tryd.f182 0) C_182_0 [S_digest_block_l0 n k] (S_digest_block_l0 n (k + 1)) :=
  rounds_go (tab := mkTab [(195, ⟨S_digest_high n, [], [], false⟩), (196, ⟨S_digest_low n, [], [], false⟩)]) (cuts := mkCuts []) (S_digest_block_l0 n k) [] (.cons (ok_digest_high n) ⟨_, Tryd.func195, by kernel_rfl⟩ (.cons (ok_digest_low n) ⟨_, Tryd.func196, by kernel_rfl⟩ .nil)) (.none0 (by kernel_rfl)) rfl (fun v => by kernel_rfl)
theorem ok_digest_block_l0 (n k : Nat) : SoundC Tryd.prog (Go.Func.ntmps Tryd.f182) (.loop (bodyOf Tryd.f182 0)) (wr (bodyOf Tryd.f182 0)) (C_182_0 (S_digest_block_l0 n k)) :=
  loop_go (K := fun k => [S_digest_block_l0 n k]) (fun _ => rfl) (by kernel_rfl) ⟨z_go fun _ => by kernel_rfl, trivial⟩ (fun k => ⟨rd_digest_block_l0 n k, trivial⟩) k rfl
def C_182_2 : CutF → Cut := fun κ => ⟨[2, 6, 79], fun e => match e with | .ex i => bif Nat.beq i 2 then [] else [] | .rt => [] | .nm => [] | .go i => [], κ⟩
def F_digest_block_l2 (n : Nat) : Nat → (Int) → (List UInt32) → (List UInt32) → Tree (List UInt32)
 | 0 => fun  x0 x1 x2 => .fail
 | k + 1 => fun x0 x1 x2 =>
  .ite (decide (x0 < (8 : Int)))
  (.get (inI 8 x0) fun y3 =>
  .get (gt x1 y3) fun y4 =>
  .get (inI 8 x0) fun y5 =>
  .get (gt x2 y5) fun y6 =>
  .get (inI 8 x0) fun y7 =>
  .get (gt x1 y7) fun y8 =>
  .sub (F_digest_block_l2 n k (w64 (x0 + (1 : Int))) (List.set x1 y7 (y4 + y6)) x2) fun y9 =>
  .ret y9)
  (.ret x1)
def S_digest_block_l2 (n k : Nat) : CutF := mkS ⟨[(.ptr 0 0), (.ptr 2 0), (.val (.sint .i64) (0 : Int))], [⟨0, 1, .box (.val (.arr 8 .u32) [])⟩, ⟨2, 3, .box (.val (.arr 8 .u32) [])⟩], 4⟩ [.d (.sint .i64), .d (.arr 8 .u32), .d (.arr 8 .u32)] fun v => .sub (F_digest_block_l2 n k (p0 v) (p1 v) (p2 v)) fun r => .ret (.ex 2, [], [⟨0, 5, .box (.val (.arr 8 .u32) r)⟩, ⟨2, 7, .box (.val (.arr 8 .u32) (p2 v))⟩], 8)
theorem rd_digest_block_l2 (n k : Nat) : Rounds Tryd.prog (Go.Func.ntmps Tryd.f182) (bodyOf Tryd.f182 2) C_182_2 [S_digest_block_l2 n k] (S_digest_block_l2 n (k + 1)) :=
  rounds_go (tab := mkTab []) (cuts := mkCuts []) (S_digest_block_l2 n k) [] .nil (.none0 (by kernel_rfl)) rfl (fun v => by kernel_rfl)
theorem ok_digest_block_l2 (n k : Nat) : SoundC Tryd.prog (Go.Func.ntmps Tryd.f182) (.loop (bodyOf Tryd.f182 2)) (wr (bodyOf Tryd.f182 2)) (C_182_2 (S_digest_block_l2 n k)) :=
  loop_go (K := fun k => [S_digest_block_l2 n k]) (fun _ => rfl) (by kernel_rfl) ⟨z_go fun _ => by kernel_rfl, trivial⟩ (fun k => ⟨rd_digest_block_l2 n k, trivial⟩) k rfl
def F_digest_block (n : Nat) (x0 : List UInt32) (x1 : Bool) (x2 : List UInt8) : Tree (List UInt32) :=
  .sub (F_digest_words n x1 x2) fun y3 =>
  .sub (F_digest_block_l0 n n ([(1116352408 : UInt32), (1899447441 : UInt32), (3049323471 : UInt32), (3921009573 : UInt32), (961987163 : UInt32), (1508970993 : UInt32), (2453635748 : UInt32), (2870763221 : UInt32), (3624381080 : UInt32), (310598401 : UInt32), (607225278 : UInt32), (1426881987 : UInt32), (1925078388 : UInt32), (2162078206 : UInt32), (2614888103 : UInt32), (3248222580 : UInt32), (3835390401 : UInt32), (4022224774 : UInt32), (264347078 : UInt32), (604807628 : UInt32), (770255983 : UInt32), (1249150122 : UInt32), (1555081692 : UInt32), (1996064986 : UInt32), (2554220882 : UInt32), (2821834349 : UInt32), (2952996808 : UInt32), (3210313671 : UInt32), (3336571891 : UInt32), (3584528711 : UInt32), (113926993 : UInt32), (338241895 : UInt32), (666307205 : UInt32), (773529912 : UInt32), (1294757372 : UInt32), (1396182291 : UInt32), (1695183700 : UInt32), (1986661051 : UInt32), (2177026350 : UInt32), (2456956037 : UInt32), (2730485921 : UInt32), (2820302411 : UInt32), (3259730800 : UInt32), (3345764771 : UInt32), (3516065817 : UInt32), (3600352804 : UInt32), (4094571909 : UInt32), (275423344 : UInt32), (430227734 : UInt32), (506948616 : UInt32), (659060556 : UInt32), (883997877 : UInt32), (958139571 : UInt32), (1322822218 : UInt32), (1537002063 : UInt32), (1747873779 : UInt32), (1955562222 : UInt32), (2024104815 : UInt32), (2227730452 : UInt32), (2361852424 : UInt32), (2428436474 : UInt32), (2756734187 : UInt32), (3204031479 : UInt32), (3329325298 : UInt32)] : List UInt32) (0 : Int) y3 x0) fun y4 =>
  .sub (F_digest_block_l2 n n (0 : Int) x0 y4) fun y5 =>
  .ret y5
def S_digest_block (n : Nat) : Summ := mkS ⟨[(.val (.arr 8 .u32) []), (.ro false .u8 [])], [], 0⟩ [.d (.arr 8 .u32), .c, .d (.list .u8)] fun v => .sub (F_digest_block n (p0 v) (p1 v) (p2 v)) fun r => .ret ((.val (.arr 8 .u32) r), [], 0)
theorem ok_digest_block (n : Nat) : SoundF Tryd.prog 182 (S_digest_block n) :=
  fn_go false true (c := codeOf Tryd.f182) (tab := mkTab [(194, ⟨S_digest_words n, [], [true], false⟩)]) (cuts := mkCuts [(0, C_182_0 (S_digest_block_l0 n n)), (2, C_182_2 (S_digest_block_l2 n n))]) Tryd.func182 (by kernel_rfl) (.cons (ok_digest_words n) ⟨_, Tryd.func194, by kernel_rfl⟩ .nil) (CutsOK.list (l := [(0, .lp (bodyOf Tryd.f182 0)), (2, .lp (bodyOf Tryd.f182 2))]) (by kernel_rfl) (LoopsOK.all ⟨.inr ⟨_, rfl, ok_digest_block_l0 n n⟩, ⟨.inr ⟨_, rfl, ok_digest_block_l2 n n⟩, trivial⟩⟩)) (fun v => by kernel_rfl)
def F_digest_State_Add_l0 (n : Nat) : Nat → (List UInt32) → (UInt64) → (List UInt8) → Tree ((List UInt32) × (List UInt8))
 | 0 => fun  x0 x1 x2 => .fail
 | k + 1 => fun x0 x1 x2 =>
  .ite (decide ((64 : Int) ≤ (ln x2)))
  (.get (ite (And ((0 : Int) ≤ (0 : Int)) (And ((0 : Int) ≤ (64 : Int)) ((64 : Int) ≤ (ln x2)))) (Option.some Unit.unit) Option.none) fun y3 =>
  .get (Tree.run (F_digest_block n x0 false (List.take 64 (List.drop 0 x2)))) fun y4 =>
  .get (ite (And ((0 : Int) ≤ (64 : Int)) (And ((64 : Int) ≤ (ln x2)) ((ln x2) ≤ (ln x2)))) (Option.some Unit.unit) Option.none) fun y5 =>
  .sub (F_digest_State_Add_l0 n k y4 x1 (List.take ((Int.toNat (ln x2)) - 64) (List.drop 64 x2))) fun y6 =>
  .ret (y6.1, y6.2))
  (.ret (x0, x2))
def S_digest_State_Add_l0 (n k : Nat) : CutF := mkS ⟨[(.ptr 0 0)], [⟨0, 1, .box (.agg (.pr (.val (.arr 8 .u32) []) (.pr (.whole 2 1) (.pr (.val .u64 0) .un))))⟩, ⟨2, 3, .row .u8 []⟩], 4⟩ [.d (.arr 8 .u32), .d .u64, .d (.list .u8)] fun v => .sub (F_digest_State_Add_l0 n k (p0 v) (p1 v) (p2 v)) fun r => .ret (.ex 0, [], [⟨0, 5, .box (.agg (.pr (.val (.arr 8 .u32) r.1) (.pr (.whole 6 1) (.pr (.val .u64 (p1 v)) .un))))⟩, ⟨6, 7, .row .u8 r.2⟩], 8)
theorem rd_digest_State_Add_l0 (n k : Nat) : Rounds Tryd.prog (Go.Func.ntmps Tryd.f153) (bodyOf Tryd.f153 0) C_153_0 [S_digest_State_Add_l0 n k] (S_digest_State_Add_l0 n (k + 1)) :=
  rounds_go (tab := mkTab [(182, ⟨S_digest_block n, [], [false, true], false⟩)]) (cuts := mkCuts []) (S_digest_State_Add_l0 n k) [] (.cons (ok_digest_block n) ⟨_, Tryd.func182, by kernel_rfl⟩ .nil) (.none0 (by kernel_rfl)) rfl (fun v => by kernel_rfl)
theorem ok_digest_State_Add_l0 (n k : Nat) : SoundC Tryd.prog (Go.Func.ntmps Tryd.f153) (.loop (bodyOf Tryd.f153 0)) (wr (bodyOf Tryd.f153 0)) (C_153_0 (S_digest_State_Add_l0 n k)) :=
  loop_go (K := fun k => [S_digest_State_Add_l0 n k]) (fun _ => rfl) (by kernel_rfl) ⟨z_go fun _ => by kernel_rfl, trivial⟩ (fun k => ⟨rd_digest_State_Add_l0 n k, trivial⟩) k rfl
def F_digest_State_Add (n : Nat) (x0 : List UInt8) (x1 : List UInt32) (x2 : UInt64) (x3 : List UInt8) : Tree ((List UInt32) × ((UInt64) × (List UInt8))) :=
  .get (appI 140737488355328 x3 x0) fun y4 =>
  .sub (F_digest_State_Add_l0 n n x1 (x2 + (int64 (ln x0))) y4) fun y5 =>
  .ret (y5.1, (x2 + (int64 (ln x0))), y5.2)
def S_digest_State_Add (n : Nat) : Summ := mkS ⟨[(.ptr 0 0), (.ro false .u8 [])], [⟨0, 1, .box (.agg (.pr (.val (.arr 8 .u32) []) (.pr (.whole 2 1) (.pr (.val .u64 0) .un))))⟩, ⟨2, 3, .row .u8 []⟩], 4⟩ [.c, .d (.list .u8), .d (.arr 8 .u32), .d .u64, .d (.list .u8)] fun v => .sub (F_digest_State_Add n (p1 v) (p2 v) (p3 v) (p4 v)) fun r => .ret ((.tup .un), [⟨0, 5, .box (.agg (.pr (.val (.arr 8 .u32) r.1) (.pr (.whole 6 1) (.pr (.val .u64 r.2.1) .un))))⟩, ⟨6, 7, .row .u8 r.2.2⟩], 8)
theorem ok_digest_State_Add (n : Nat) : SoundF Tryd.prog 153 (S_digest_State_Add n) :=
  fn_go false true (c := codeOf Tryd.f153) (tab := mkTab []) (cuts := mkCuts [(0, C_153_0 (S_digest_State_Add_l0 n n))]) Tryd.func153 (by kernel_rfl) .nil (CutsOK.list (l := [(0, .lp (bodyOf Tryd.f153 0))]) (by kernel_rfl) (LoopsOK.all ⟨.inr ⟨_, rfl, ok_digest_State_Add_l0 n n⟩, trivial⟩)) (fun v => by kernel_rfl)
def F_digest_Of_l0 (n : Nat) : Nat → (Bool) → (List (List UInt8)) → (Int) → (Int) → (List UInt32) → (UInt64) → (List UInt8) → Tree ((List UInt32) × ((UInt64) × (List UInt8)))
 | 0 => fun  x0 x1 x2 x3 x4 x5 x6 => .fail
 | k + 1 => fun x0 x1 x2 x3 x4 x5 x6 =>
  .ite (decide (x3 < x2))
  (.get (getI x1 x3) fun y7 =>
  .sub (F_digest_State_Add n y7 x4 x5 x6) fun y8 =>
  .sub (F_digest_Of_l0 n k x0 x1 x2 (w64 (x3 + (1 : Int))) y8.1 y8.2.1 y8.2.2) fun y9 =>
  .ret (y9.1, y9.2.1, y9.2.2))
  (.ret (x4, x5, x6))
def S_digest_Of_l0 (n k : Nat) : CutF := mkS ⟨[(.ptr 0 0), (.ro false (.list .u8) []), (.val (.sint .i64) (0 : Int)), (.val (.sint .i64) (0 : Int))], [⟨0, 1, .box (.agg (.pr (.val (.arr 8 .u32) []) (.pr (.whole 2 1) (.pr (.val .u64 0) .un))))⟩, ⟨2, 3, .row .u8 []⟩], 4⟩ [.c, .d (.list (.list .u8)), .d (.sint .i64), .d (.sint .i64), .d (.arr 8 .u32), .d .u64, .d (.list .u8)] fun v => .sub (F_digest_Of_l0 n k (p0 v) (p1 v) (p2 v) (p3 v) (p4 v) (p5 v) (p6 v)) fun r => .ret (.ex 0, [], [⟨0, 5, .box (.agg (.pr (.val (.arr 8 .u32) r.1) (.pr (.whole 6 1) (.pr (.val .u64 r.2.1) .un))))⟩, ⟨6, 7, .row .u8 r.2.2⟩], 8)
theorem rd_digest_Of_l0 (n k : Nat) : Rounds Tryd.prog (Go.Func.ntmps Tryd.f150) (bodyOf Tryd.f150 0) C_150_0 [S_digest_Of_l0 n k] (S_digest_Of_l0 n (k + 1)) :=
  rounds_go (tab := mkTab [(153, ⟨S_digest_State_Add n, [], [false, true], false⟩)]) (cuts := mkCuts []) (S_digest_Of_l0 n k) [] (.cons (ok_digest_State_Add n) ⟨_, Tryd.func153, by kernel_rfl⟩ .nil) (.none0 (by kernel_rfl)) rfl (fun v => by kernel_rfl)
theorem ok_digest_Of_l0 (n k : Nat) : SoundC Tryd.prog (Go.Func.ntmps Tryd.f150) (.loop (bodyOf Tryd.f150 0)) (wr (bodyOf Tryd.f150 0)) (C_150_0 (S_digest_Of_l0 n k)) :=
  loop_go (K := fun k => [S_digest_Of_l0 n k]) (fun _ => rfl) (by kernel_rfl) ⟨z_go fun _ => by kernel_rfl, trivial⟩ (fun k => ⟨rd_digest_Of_l0 n k, trivial⟩) k rfl
def C_154_0 : CutF → Cut := fun κ => ⟨[3], fun e => match e with | .ex i => bif Nat.beq i 0 then [3] else [] | .rt => [] | .nm => [] | .go i => [], κ⟩
def F_digest_State_Sum_l0 (n : Nat) : Nat → (List UInt8) → Tree (Unit ⊕ (List UInt8))
 | 0 => fun  x0 => .fail
 | k + 1 => fun x0 =>
  .ite (!(decide ((Int.tmod (ln x0) (64 : Int)) = (56 : Int))))
  (.get (appI 140737488355328 x0 ([0] : List UInt8)) fun y1 =>
  .sub (F_digest_State_Sum_l0 n k y1) fun y2 =>
  .alt y2 (fun y3 =>
  .ret (.inr y1))
  fun y4 =>
  .ret (.inr y4))
  (.ret (.inl ()))
def S_digest_State_Sum_l0 (n k : Nat) : CutF := mkS ⟨[(.whole 0 1)], [⟨0, 1, .row .u8 []⟩], 2⟩ [.d (.list .u8)] fun v => .sub (F_digest_State_Sum_l0 n k (p0 v)) fun r => .alt r (fun r => .ret (.ex 0, [(.whole 0 1)], [⟨0, 3, .row .u8 (p0 v)⟩], 4)) (fun r => .ret (.ex 0, [(.whole 2 1)], [⟨2, 3, .row .u8 r⟩], 4))
theorem rd_digest_State_Sum_l0 (n k : Nat) : Rounds Tryd.prog (Go.Func.ntmps Tryd.f154) (bodyOf Tryd.f154 0) C_154_0 [S_digest_State_Sum_l0 n k] (S_digest_State_Sum_l0 n (k + 1)) :=
  rounds_go (tab := mkTab []) (cuts := mkCuts []) (S_digest_State_Sum_l0 n k) [] .nil (.none0 (by kernel_rfl)) rfl (fun v => by kernel_rfl)
theorem ok_digest_State_Sum_l0 (n k : Nat) : SoundC Tryd.prog (Go.Func.ntmps Tryd.f154) (.loop (bodyOf Tryd.f154 0)) (wr (bodyOf Tryd.f154 0)) (C_154_0 (S_digest_State_Sum_l0 n k)) :=
  loop_go (K := fun k => [S_digest_State_Sum_l0 n k]) (fun _ => rfl) (by kernel_rfl) ⟨z_go fun _ => by kernel_rfl, trivial⟩ (fun k => ⟨rd_digest_State_Sum_l0 n k, trivial⟩) k rfl
def C_154_2 : CutF → Cut := fun κ => ⟨[3, 4], fun e => match e with | .ex i => bif Nat.beq i 2 then [] else [] | .rt => [] | .nm => [] | .go i => [], κ⟩
def F_digest_State_Sum_l2 (n : Nat) : Nat → (List UInt8) → (List UInt32) → Tree (Unit ⊕ (List UInt32))
 | 0 => fun  x0 x1 => .fail
 | k + 1 => fun x0 x1 =>
  .ite (decide ((0 : Int) < (ln x0)))
  (.get (ite (And ((0 : Int) ≤ (0 : Int)) (And ((0 : Int) ≤ (64 : Int)) ((64 : Int) ≤ (ln x0)))) (Option.some Unit.unit) Option.none) fun y2 =>
  .get (Tree.run (F_digest_block n x1 false (List.take 64 (List.drop 0 x0)))) fun y3 =>
  .get (ite (And ((0 : Int) ≤ (64 : Int)) (And ((64 : Int) ≤ (ln x0)) ((ln x0) ≤ (ln x0)))) (Option.some Unit.unit) Option.none) fun y4 =>
  .sub (F_digest_State_Sum_l2 n k (List.take ((Int.toNat (ln x0)) - 64) (List.drop 64 x0)) y3) fun y5 =>
  .alt y5 (fun y6 =>
  .ret (.inr y3))
  fun y7 =>
  .ret (.inr y7))
  (.ret (.inl ()))
def S_digest_State_Sum_l2 (n k : Nat) : CutF := mkS ⟨[(.whole 0 1), (.ptr 2 0)], [⟨0, 1, .row .u8 []⟩, ⟨2, 3, .box (.val (.arr 8 .u32) [])⟩], 4⟩ [.d (.list .u8), .d (.arr 8 .u32)] fun v => .sub (F_digest_State_Sum_l2 n k (p0 v) (p1 v)) fun r => .alt r (fun r => .ret (.ex 2, [], [⟨2, 5, .box (.val (.arr 8 .u32) (p1 v))⟩, ⟨0, 7, .row .u8 (p0 v)⟩], 8)) (fun r => .ret (.ex 2, [], [⟨2, 5, .box (.val (.arr 8 .u32) r)⟩], 6))
theorem rd_digest_State_Sum_l2 (n k : Nat) : Rounds Tryd.prog (Go.Func.ntmps Tryd.f154) (bodyOf Tryd.f154 2) C_154_2 [S_digest_State_Sum_l2 n k] (S_digest_State_Sum_l2 n (k + 1)) :=
  rounds_go (tab := mkTab [(182, ⟨S_digest_block n, [], [false, true], false⟩)]) (cuts := mkCuts []) (S_digest_State_Sum_l2 n k) [] (.cons (ok_digest_block n) ⟨_, Tryd.func182, by kernel_rfl⟩ .nil) (.none0 (by kernel_rfl)) rfl (fun v => by kernel_rfl)
theorem ok_digest_State_Sum_l2 (n k : Nat) : SoundC Tryd.prog (Go.Func.ntmps Tryd.f154) (.loop (bodyOf Tryd.f154 2)) (wr (bodyOf Tryd.f154 2)) (C_154_2 (S_digest_State_Sum_l2 n k)) :=
  loop_go (K := fun k => [S_digest_State_Sum_l2 n k]) (fun _ => rfl) (by kernel_rfl) ⟨z_go fun _ => by kernel_rfl, trivial⟩ (fun k => ⟨rd_digest_State_Sum_l2 n k, trivial⟩) k rfl
def C_154_4 : CutF → Cut := fun κ => ⟨[5, 47, 48], fun e => match e with | .ex i => bif Nat.beq i 4 then [] else [] | .rt => [] | .nm => [] | .go i => [], κ⟩
def F_word_Store_1 (n : Nat) (x0 : UInt32) : Tree (List UInt8) :=
  .sub (F_word_Store_l0 n n x0 false (0 : Int) ([0, 0, 0, 0] : List UInt8)) fun y1 =>
  .ret y1
def S_word_Store_1 (n : Nat) : Summ := mkS ⟨[(.val .u32 0), .ff], [], 0⟩ [.d .u32] fun v => .sub (F_word_Store_1 n (p0 v)) fun r => .ret ((.whole 0 1), [⟨0, 1, .row .u8 r⟩], 2)
theorem ok_word_Store_1 (n : Nat) : SoundF Tryd.prog 97 (S_word_Store_1 n) :=
  fn_go false true (c := codeOf Tryd.f97) (tab := mkTab []) (cuts := mkCuts [(0, C_97_0 (S_word_Store_l0 n n))]) Tryd.func97 (by kernel_rfl) .nil (CutsOK.list (l := [(0, .lp (bodyOf Tryd.f97 0))]) (by kernel_rfl) (LoopsOK.all ⟨.inr ⟨_, rfl, ok_word_Store_l0 n n⟩, trivial⟩)) (fun v => by kernel_rfl)
def F_digest_State_Sum_l4 (n : Nat) : Nat → (List UInt32) → (Int) → (List UInt8) → Tree (List UInt8)
 | 0 => fun  x0 x1 x2 => .fail
 | k + 1 => fun x0 x1 x2 =>
  .ite (decide (x1 < (8 : Int)))
  (.get (getI x0 x1) fun y3 =>
  .get (ite (And ((0 : Int) ≤ (w64 ((4 : Int) * x1))) (And ((w64 ((4 : Int) * x1)) ≤ (32 : Int)) ((32 : Int) ≤ (32 : Int)))) (Option.some Unit.unit) Option.none) fun y4 =>
  .get (Tree.run (F_word_Store_1 n y3)) fun y5 =>
  .sub (F_digest_State_Sum_l4 n k x0 (w64 (x1 + (1 : Int))) (cpy x2 (Int.toNat (w64 ((4 : Int) * x1))) (32 - (Int.toNat (w64 ((4 : Int) * x1)))) (List.take (List.length y5) (List.drop 0 y5)))) fun y6 =>
  .ret y6)
  (.ret x2)
def S_digest_State_Sum_l4 (n k : Nat) : CutF := mkS ⟨[(.ptr 0 0), (.val (.arr 8 .u32) []), (.val (.sint .i64) (0 : Int))], [⟨0, 1, .box (.val (.arr 32 .u8) [])⟩], 2⟩ [.d (.arr 8 .u32), .d (.sint .i64), .d (.arr 32 .u8)] fun v => .sub (F_digest_State_Sum_l4 n k (p0 v) (p1 v) (p2 v)) fun r => .ret (.ex 4, [], [⟨0, 3, .box (.val (.arr 32 .u8) r)⟩], 4)
theorem rd_digest_State_Sum_l4 (n k : Nat) : Rounds Tryd.prog (Go.Func.ntmps Tryd.f154) (bodyOf Tryd.f154 4) C_154_4 [S_digest_State_Sum_l4 n k] (S_digest_State_Sum_l4 n (k + 1)) :=
  rounds_go (tab := mkTab [(97, ⟨S_word_Store_1 n, [], [], false⟩)]) (cuts := mkCuts []) (S_digest_State_Sum_l4 n k) [] (.cons (ok_word_Store_1 n) ⟨_, Tryd.func97, by kernel_rfl⟩ .nil) (.none0 (by kernel_rfl)) rfl (fun v => by kernel_rfl)
theorem ok_digest_State_Sum_l4 (n k : Nat) : SoundC Tryd.prog (Go.Func.ntmps Tryd.f154) (.loop (bodyOf Tryd.f154 4)) (wr (bodyOf Tryd.f154 4)) (C_154_4 (S_digest_State_Sum_l4 n k)) :=
  loop_go (K := fun k => [S_digest_State_Sum_l4 n k]) (fun _ => rfl) (by kernel_rfl) ⟨z_go fun _ => by kernel_rfl, trivial⟩ (fun k => ⟨rd_digest_State_Sum_l4 n k, trivial⟩) k rfl
def F_digest_State_Sum (n : Nat) (x0 : List UInt32) (x1 : UInt64) (x2 : List UInt8) : Tree (List UInt8) :=
  .get (appI 140737488355328 ([] : List UInt8) x2) fun y3 =>
  .get (appI 140737488355328 y3 ([128] : List UInt8)) fun y4 =>
  .sub (F_digest_State_Sum_l0 n n y4) fun y5 =>
  .alt y5 (fun y6 =>
  .sub (F_word_Tell n (x1 * (8 : UInt64))) fun y7 =>
  .get (appI 140737488355328 y4 y7) fun y8 =>
  .sub (F_digest_State_Sum_l2 n n y8 x0) fun y9 =>
  .alt y9 (fun y10 =>
  .sub (F_digest_State_Sum_l4 n n x0 (0 : Int) (zs 32)) fun y11 =>
  .ret y11)
  fun y12 =>
  .sub (F_digest_State_Sum_l4 n n y12 (0 : Int) (zs 32)) fun y13 =>
  .ret y13)
  fun y14 =>
  .sub (F_word_Tell n (x1 * (8 : UInt64))) fun y15 =>
  .get (appI 140737488355328 y14 y15) fun y16 =>
  .sub (F_digest_State_Sum_l2 n n y16 x0) fun y17 =>
  .alt y17 (fun y18 =>
  .sub (F_digest_State_Sum_l4 n n x0 (0 : Int) (zs 32)) fun y19 =>
  .ret y19)
  fun y20 =>
  .sub (F_digest_State_Sum_l4 n n y20 (0 : Int) (zs 32)) fun y21 =>
  .ret y21
def S_digest_State_Sum (n : Nat) : Summ := mkS ⟨[(.ptr 0 0)], [⟨0, 1, .box (.agg (.pr (.val (.arr 8 .u32) []) (.pr (.whole 2 1) (.pr (.val .u64 0) .un))))⟩, ⟨2, 3, .row .u8 []⟩], 4⟩ [.d (.arr 8 .u32), .d .u64, .d (.list .u8)] fun v => .sub (F_digest_State_Sum n (p0 v) (p1 v) (p2 v)) fun r => .ret ((.val (.arr 32 .u8) r), [⟨0, 5, .box (.agg (.pr (.val (.arr 8 .u32) (p0 v)) (.pr (.whole 6 1) (.pr (.val .u64 (p1 v)) .un))))⟩, ⟨6, 7, .row .u8 (p2 v)⟩], 8)
theorem ok_digest_State_Sum (n : Nat) : SoundF Tryd.prog 154 (S_digest_State_Sum n) :=
  fn_go false true (c := codeOf Tryd.f154) (tab := mkTab [(134, ⟨S_word_Tell n, [], [], false⟩)]) (cuts := mkCuts [(0, C_154_0 (S_digest_State_Sum_l0 n n)), (2, C_154_2 (S_digest_State_Sum_l2 n n)), (4, C_154_4 (S_digest_State_Sum_l4 n n))]) Tryd.func154 (by kernel_rfl) (.cons (ok_word_Tell n) ⟨_, Tryd.func134, by kernel_rfl⟩ .nil) (CutsOK.list (l := [(0, .lp (bodyOf Tryd.f154 0)), (2, .lp (bodyOf Tryd.f154 2)), (4, .lp (bodyOf Tryd.f154 4))]) (by kernel_rfl) (LoopsOK.all ⟨.inr ⟨_, rfl, ok_digest_State_Sum_l0 n n⟩, ⟨.inr ⟨_, rfl, ok_digest_State_Sum_l2 n n⟩, ⟨.inr ⟨_, rfl, ok_digest_State_Sum_l4 n n⟩, trivial⟩⟩⟩)) (fun v => by kernel_rfl)
def F_digest_Of (n : Nat) (x0 : Bool) (x1 : List (List UInt8)) : Tree (List UInt8) :=
  .sub (F_digest_New n) fun y2 =>
  .sub (F_digest_Of_l0 n n x0 x1 (ln x1) (0 : Int) ([(1779033703 : UInt32), (3144134277 : UInt32), (1013904242 : UInt32), (2773480762 : UInt32), (1359893119 : UInt32), (2600822924 : UInt32), (528734635 : UInt32), (1541459225 : UInt32)] : List UInt32) (0 : UInt64) ([] : List UInt8)) fun y3 =>
  .sub (F_digest_State_Sum n y3.1 y3.2.1 y3.2.2) fun y4 =>
  .ret y4
def S_digest_Of (n : Nat) : Summ := mkS ⟨[(.ro false (.list .u8) [])], [], 0⟩ [.c, .d (.list (.list .u8))] fun v => .sub (F_digest_Of n (p0 v) (p1 v)) fun r => .ret ((.val (.arr 32 .u8) r), [], 0)
theorem ok_digest_Of (n : Nat) : SoundF Tryd.prog 150 (S_digest_Of n) :=
  fn_go false true (c := codeOf Tryd.f150) (tab := mkTab [(181, ⟨S_digest_New n, [], [], false⟩), (154, ⟨S_digest_State_Sum n, [], [], false⟩)]) (cuts := mkCuts [(0, C_150_0 (S_digest_Of_l0 n n))]) Tryd.func150 (by kernel_rfl) (.cons (ok_digest_New n) ⟨_, Tryd.func181, by kernel_rfl⟩ (.cons (ok_digest_State_Sum n) ⟨_, Tryd.func154, by kernel_rfl⟩ .nil)) (CutsOK.list (l := [(0, .lp (bodyOf Tryd.f150 0))]) (by kernel_rfl) (LoopsOK.all ⟨.inr ⟨_, rfl, ok_digest_Of_l0 n n⟩, trivial⟩)) (fun v => by kernel_rfl)
def C_151_0 : CutF → Cut := fun κ => ⟨[1, 2, 7], fun e => match e with | .ex i => bif Nat.beq i 0 then [] else [] | .rt => [] | .nm => [] | .go i => [], κ⟩
def F_mac_begun_l0 (n : Nat) : Nat → (UInt8) → (Int) → (List UInt8) → Tree (List UInt8)
 | 0 => fun  x0 x1 x2 => .fail
 | k + 1 => fun x0 x1 x2 =>
  .ite (decide (x1 < (64 : Int)))
  (.get (inI 64 x1) fun y3 =>
  .get (gt x2 y3) fun y4 =>
  .get (inI 64 x1) fun y5 =>
  .get (gt x2 y5) fun y6 =>
  .sub (F_mac_begun_l0 n k x0 (w64 (x1 + (1 : Int))) (List.set x2 y5 (y4 ^^^ x0))) fun y7 =>
  .ret y7)
  (.ret x2)
def S_mac_begun_l0 (n k : Nat) : CutF := mkS ⟨[(.val .u8 0), (.ptr 0 0), (.val (.sint .i64) (0 : Int))], [⟨0, 1, .box (.val (.arr 64 .u8) [])⟩], 2⟩ [.d .u8, .d (.sint .i64), .d (.arr 64 .u8)] fun v => .sub (F_mac_begun_l0 n k (p0 v) (p1 v) (p2 v)) fun r => .ret (.ex 0, [], [⟨0, 3, .box (.val (.arr 64 .u8) r)⟩], 4)
theorem rd_mac_begun_l0 (n k : Nat) : Rounds Tryd.prog (Go.Func.ntmps Tryd.f151) (bodyOf Tryd.f151 0) C_151_0 [S_mac_begun_l0 n k] (S_mac_begun_l0 n (k + 1)) :=
  rounds_go (tab := mkTab []) (cuts := mkCuts []) (S_mac_begun_l0 n k) [] .nil (.none0 (by kernel_rfl)) rfl (fun v => by kernel_rfl)
theorem ok_mac_begun_l0 (n k : Nat) : SoundC Tryd.prog (Go.Func.ntmps Tryd.f151) (.loop (bodyOf Tryd.f151 0)) (wr (bodyOf Tryd.f151 0)) (C_151_0 (S_mac_begun_l0 n k)) :=
  loop_go (K := fun k => [S_mac_begun_l0 n k]) (fun _ => rfl) (by kernel_rfl) ⟨z_go fun _ => by kernel_rfl, trivial⟩ (fun k => ⟨rd_mac_begun_l0 n k, trivial⟩) k rfl
def F_mac_begun (n : Nat) (x0 : List UInt8) (x1 : UInt8) : Tree ((List UInt32) × ((UInt64) × (List UInt8))) :=
  .sub (F_mac_begun_l0 n n x1 (0 : Int) x0) fun y2 =>
  .sub (F_digest_New n) fun y3 =>
  .get (Option.some Unit.unit) fun y4 =>
  .sub (F_digest_State_Add n (List.take 64 (List.drop 0 y2)) ([(1779033703 : UInt32), (3144134277 : UInt32), (1013904242 : UInt32), (2773480762 : UInt32), (1359893119 : UInt32), (2600822924 : UInt32), (528734635 : UInt32), (1541459225 : UInt32)] : List UInt32) (0 : UInt64) ([] : List UInt8)) fun y5 =>
  .ret (y5.1, y5.2.1, y5.2.2)
def S_mac_begun (n : Nat) : Summ := mkS ⟨[(.val (.arr 64 .u8) []), (.val .u8 0)], [], 0⟩ [.d (.arr 64 .u8), .d .u8] fun v => .sub (F_mac_begun n (p0 v) (p1 v)) fun r => .ret ((.ptr 0 0), [⟨0, 1, .box (.agg (.pr (.val (.arr 8 .u32) r.1) (.pr (.whole 2 1) (.pr (.val .u64 r.2.1) .un))))⟩, ⟨2, 3, .row .u8 r.2.2⟩], 4)
theorem ok_mac_begun (n : Nat) : SoundF Tryd.prog 151 (S_mac_begun n) :=
  fn_go false true (c := codeOf Tryd.f151) (tab := mkTab [(181, ⟨S_digest_New n, [], [], false⟩), (153, ⟨S_digest_State_Add n, [], [false, true], false⟩)]) (cuts := mkCuts [(0, C_151_0 (S_mac_begun_l0 n n))]) Tryd.func151 (by kernel_rfl) (.cons (ok_digest_New n) ⟨_, Tryd.func181, by kernel_rfl⟩ (.cons (ok_digest_State_Add n) ⟨_, Tryd.func153, by kernel_rfl⟩ .nil)) (CutsOK.list (l := [(0, .lp (bodyOf Tryd.f151 0))]) (by kernel_rfl) (LoopsOK.all ⟨.inr ⟨_, rfl, ok_mac_begun_l0 n n⟩, trivial⟩)) (fun v => by kernel_rfl)
def F_mac_New (n : Nat) (x0 : List UInt8) : Tree ((List UInt32) × ((UInt64) × ((List UInt8) × ((List UInt32) × ((UInt64) × (List UInt8)))))) :=
  .ite (decide ((64 : Int) < (ln x0)))
  (.sub (F_digest_Of n false (List.set ([([] : List UInt8)] : List (List UInt8)) 0 x0)) fun y1 =>
  .get (Option.some Unit.unit) fun y2 =>
  .get (Option.some Unit.unit) fun y3 =>
  .get (Tree.run (F_mac_begun n (cpy (zs 64) 0 64 (List.take 32 (List.drop 0 y1))) (54 : UInt8))) fun y4 =>
  .get (Tree.run (F_mac_begun n (cpy (zs 64) 0 64 (List.take 32 (List.drop 0 y1))) (92 : UInt8))) fun y5 =>
  .ret (y4.1, y4.2.1, y4.2.2, y5.1, y5.2.1, y5.2.2))
  (.get (Option.some Unit.unit) fun y6 =>
  .get (Tree.run (F_mac_begun n (cpy (zs 64) 0 64 x0) (54 : UInt8))) fun y7 =>
  .get (Tree.run (F_mac_begun n (cpy (zs 64) 0 64 x0) (92 : UInt8))) fun y8 =>
  .ret (y7.1, y7.2.1, y7.2.2, y8.1, y8.2.1, y8.2.2))
def S_mac_New (n : Nat) : Summ := mkS ⟨[(.ro false .u8 [])], [], 0⟩ [.c, .d (.list .u8)] fun v => .sub (F_mac_New n (p1 v)) fun r => .ret ((.ptr 0 0), [⟨0, 1, .box (.agg (.pr (.ptr 2 0) (.pr (.ptr 6 0) .un)))⟩, ⟨2, 3, .box (.agg (.pr (.val (.arr 8 .u32) r.1) (.pr (.whole 4 1) (.pr (.val .u64 r.2.1) .un))))⟩, ⟨4, 5, .row .u8 r.2.2.1⟩, ⟨6, 7, .box (.agg (.pr (.val (.arr 8 .u32) r.2.2.2.1) (.pr (.whole 8 1) (.pr (.val .u64 r.2.2.2.2.1) .un))))⟩, ⟨8, 9, .row .u8 r.2.2.2.2.2⟩], 10)
theorem ok_mac_New (n : Nat) : SoundF Tryd.prog 113 (S_mac_New n) :=
  fn_go false true (c := codeOf Tryd.f113) (tab := mkTab [(150, ⟨S_digest_Of n, [], [true], false⟩), (151, ⟨S_mac_begun n, [], [], false⟩)]) (cuts := mkCuts []) Tryd.func113 (by kernel_rfl) (.cons (ok_digest_Of n) ⟨_, Tryd.func150, by kernel_rfl⟩ (.cons (ok_mac_begun n) ⟨_, Tryd.func151, by kernel_rfl⟩ .nil)) (.none0 (by kernel_rfl)) (fun v => by kernel_rfl)
def F_digest_State_Copy (n : Nat) (x0 : List UInt8) : Tree (List UInt8) :=
  .get (appI 140737488355328 ([] : List UInt8) x0) fun y1 =>
  .ret y1
def S_digest_State_Copy (n : Nat) : Summ := mkS ⟨[(.ptr 0 0)], [⟨0, 1, .box (.agg (.pr (.val (.arr 8 .u32) []) (.pr (.whole 2 1) (.pr (.val .u64 0) .un))))⟩, ⟨2, 3, .row .u8 []⟩], 4⟩ [.d (.arr 8 .u32), .d .u64, .d (.list .u8)] fun v => .sub (F_digest_State_Copy n (p2 v)) fun r => .ret ((.ptr 4 0), [⟨4, 5, .box (.agg (.pr (.val (.arr 8 .u32) (p0 v)) (.pr (.whole 6 1) (.pr (.val .u64 (p1 v)) .un))))⟩, ⟨6, 7, .row .u8 r⟩, ⟨0, 9, .box (.agg (.pr (.val (.arr 8 .u32) (p0 v)) (.pr (.whole 10 1) (.pr (.val .u64 (p1 v)) .un))))⟩, ⟨10, 11, .row .u8 (p2 v)⟩], 12)
theorem ok_digest_State_Copy (n : Nat) : SoundF Tryd.prog 152 (S_digest_State_Copy n) :=
  fn_go false true (c := codeOf Tryd.f152) (tab := mkTab []) (cuts := mkCuts []) Tryd.func152 (by kernel_rfl) .nil (.none0 (by kernel_rfl)) (fun v => by kernel_rfl)
def C_114_0 : CutF → Cut := fun κ => ⟨[5, 23, 24, 25], fun e => match e with | .ex i => bif Nat.beq i 0 then [] else [] | .rt => [] | .nm => [] | .go i => [], κ⟩
def F_mac_Key_Tag_l0 (n : Nat) : Nat → (Bool) → (List (List UInt8)) → (Int) → (Int) → (List UInt32) → (UInt64) → (List UInt8) → Tree ((List UInt32) × ((UInt64) × (List UInt8)))
 | 0 => fun  x0 x1 x2 x3 x4 x5 x6 => .fail
 | k + 1 => fun x0 x1 x2 x3 x4 x5 x6 =>
  .ite (decide (x3 < x2))
  (.get (getI x1 x3) fun y7 =>
  .sub (F_digest_State_Add n y7 x4 x5 x6) fun y8 =>
  .sub (F_mac_Key_Tag_l0 n k x0 x1 x2 (w64 (x3 + (1 : Int))) y8.1 y8.2.1 y8.2.2) fun y9 =>
  .ret (y9.1, y9.2.1, y9.2.2))
  (.ret (x4, x5, x6))
def S_mac_Key_Tag_l0 (n k : Nat) : CutF := mkS ⟨[(.ptr 0 0), (.ro false (.list .u8) []), (.val (.sint .i64) (0 : Int)), (.val (.sint .i64) (0 : Int))], [⟨0, 1, .box (.agg (.pr (.val (.arr 8 .u32) []) (.pr (.whole 2 1) (.pr (.val .u64 0) .un))))⟩, ⟨2, 3, .row .u8 []⟩], 4⟩ [.c, .d (.list (.list .u8)), .d (.sint .i64), .d (.sint .i64), .d (.arr 8 .u32), .d .u64, .d (.list .u8)] fun v => .sub (F_mac_Key_Tag_l0 n k (p0 v) (p1 v) (p2 v) (p3 v) (p4 v) (p5 v) (p6 v)) fun r => .ret (.ex 0, [], [⟨0, 5, .box (.agg (.pr (.val (.arr 8 .u32) r.1) (.pr (.whole 6 1) (.pr (.val .u64 r.2.1) .un))))⟩, ⟨6, 7, .row .u8 r.2.2⟩], 8)
theorem rd_mac_Key_Tag_l0 (n k : Nat) : Rounds Tryd.prog (Go.Func.ntmps Tryd.f114) (bodyOf Tryd.f114 0) C_114_0 [S_mac_Key_Tag_l0 n k] (S_mac_Key_Tag_l0 n (k + 1)) :=
  rounds_go (tab := mkTab [(153, ⟨S_digest_State_Add n, [], [false, true], false⟩)]) (cuts := mkCuts []) (S_mac_Key_Tag_l0 n k) [] (.cons (ok_digest_State_Add n) ⟨_, Tryd.func153, by kernel_rfl⟩ .nil) (.none0 (by kernel_rfl)) rfl (fun v => by kernel_rfl)
theorem ok_mac_Key_Tag_l0 (n k : Nat) : SoundC Tryd.prog (Go.Func.ntmps Tryd.f114) (.loop (bodyOf Tryd.f114 0)) (wr (bodyOf Tryd.f114 0)) (C_114_0 (S_mac_Key_Tag_l0 n k)) :=
  loop_go (K := fun k => [S_mac_Key_Tag_l0 n k]) (fun _ => rfl) (by kernel_rfl) ⟨z_go fun _ => by kernel_rfl, trivial⟩ (fun k => ⟨rd_mac_Key_Tag_l0 n k, trivial⟩) k rfl
def F_mac_Key_Tag (n : Nat) (x0 : Bool) (x1 : List (List UInt8)) (x2 : List UInt32) (x3 : UInt64) (x4 : List UInt8) (x5 : List UInt32) (x6 : UInt64) (x7 : List UInt8) : Tree (List UInt8) :=
  .get (Tree.run (F_digest_State_Copy n x4)) fun y8 =>
  .get (Tree.run (F_digest_State_Copy n x7)) fun y9 =>
  .sub (F_mac_Key_Tag_l0 n n x0 x1 (ln x1) (0 : Int) x2 x3 y8) fun y10 =>
  .sub (F_digest_State_Sum n y10.1 y10.2.1 y10.2.2) fun y11 =>
  .get (Option.some Unit.unit) fun y12 =>
  .sub (F_digest_State_Add n (List.take 32 (List.drop 0 y11)) x5 x6 y9) fun y13 =>
  .sub (F_digest_State_Sum n y13.1 y13.2.1 y13.2.2) fun y14 =>
  .ret y14
def S_mac_Key_Tag (n : Nat) : Summ := mkS ⟨[(.ptr 0 0), (.ro false (.list .u8) [])], [⟨0, 1, .box (.agg (.pr (.ptr 2 0) (.pr (.ptr 6 0) .un)))⟩, ⟨2, 3, .box (.agg (.pr (.val (.arr 8 .u32) []) (.pr (.whole 4 1) (.pr (.val .u64 0) .un))))⟩, ⟨4, 5, .row .u8 []⟩, ⟨6, 7, .box (.agg (.pr (.val (.arr 8 .u32) []) (.pr (.whole 8 1) (.pr (.val .u64 0) .un))))⟩, ⟨8, 9, .row .u8 []⟩], 10⟩ [.c, .d (.list (.list .u8)), .d (.arr 8 .u32), .d .u64, .d (.list .u8), .d (.arr 8 .u32), .d .u64, .d (.list .u8)] fun v => .sub (F_mac_Key_Tag n (p0 v) (p1 v) (p2 v) (p3 v) (p4 v) (p5 v) (p6 v) (p7 v)) fun r => .ret ((.val (.arr 32 .u8) r), [⟨0, 11, .box (.agg (.pr (.ptr 2 0) (.pr (.ptr 6 0) .un)))⟩, ⟨2, 13, .box (.agg (.pr (.val (.arr 8 .u32) (p2 v)) (.pr (.whole 14 1) (.pr (.val .u64 (p3 v)) .un))))⟩, ⟨14, 15, .row .u8 (p4 v)⟩, ⟨6, 17, .box (.agg (.pr (.val (.arr 8 .u32) (p5 v)) (.pr (.whole 18 1) (.pr (.val .u64 (p6 v)) .un))))⟩, ⟨18, 19, .row .u8 (p7 v)⟩], 20)
theorem ok_mac_Key_Tag (n : Nat) : SoundF Tryd.prog 114 (S_mac_Key_Tag n) :=
  fn_go false true (c := codeOf Tryd.f114) (tab := mkTab [(152, ⟨S_digest_State_Copy n, [], [], false⟩), (154, ⟨S_digest_State_Sum n, [], [], false⟩), (153, ⟨S_digest_State_Add n, [], [false, true], false⟩)]) (cuts := mkCuts [(0, C_114_0 (S_mac_Key_Tag_l0 n n))]) Tryd.func114 (by kernel_rfl) (.cons (ok_digest_State_Copy n) ⟨_, Tryd.func152, by kernel_rfl⟩ (.cons (ok_digest_State_Sum n) ⟨_, Tryd.func154, by kernel_rfl⟩ (.cons (ok_digest_State_Add n) ⟨_, Tryd.func153, by kernel_rfl⟩ .nil))) (CutsOK.list (l := [(0, .lp (bodyOf Tryd.f114 0))]) (by kernel_rfl) (LoopsOK.all ⟨.inr ⟨_, rfl, ok_mac_Key_Tag_l0 n n⟩, trivial⟩)) (fun v => by kernel_rfl)
def F_mac_Tag (n : Nat) (x0 : List UInt8) (x1 : Bool) (x2 : List (List UInt8)) : Tree (List UInt8) :=
  .sub (F_mac_New n x0) fun y3 =>
  .sub (F_mac_Key_Tag n x1 x2 y3.1 y3.2.1 y3.2.2.1 y3.2.2.2.1 y3.2.2.2.2.1 y3.2.2.2.2.2) fun y4 =>
  .ret y4
def S_mac_Tag (n : Nat) : Summ := mkS ⟨[(.ro false .u8 []), (.ro false (.list .u8) [])], [], 0⟩ [.c, .d (.list .u8), .c, .d (.list (.list .u8))] fun v => .sub (F_mac_Tag n (p1 v) (p2 v) (p3 v)) fun r => .ret ((.val (.arr 32 .u8) r), [], 0)
theorem ok_mac_Tag (n : Nat) : SoundF Tryd.prog 65 (S_mac_Tag n) :=
  fn_go false true (c := codeOf Tryd.f65) (tab := mkTab [(113, ⟨S_mac_New n, [], [true], false⟩), (114, ⟨S_mac_Key_Tag n, [], [false, true], false⟩)]) (cuts := mkCuts []) Tryd.func65 (by kernel_rfl) (.cons (ok_mac_New n) ⟨_, Tryd.func113, by kernel_rfl⟩ (.cons (ok_mac_Key_Tag n) ⟨_, Tryd.func114, by kernel_rfl⟩ .nil)) (.none0 (by kernel_rfl)) (fun v => by kernel_rfl)
def F_label_Key (n : Nat) (x0 : List UInt8) (x1 : List UInt8) (x2 : Int) : Tree (Unit ⊕ (List UInt8)) :=
  .ite (!(decide ((ln x0) = (32 : Int))))
  (.ret (.inl ()))
  (.get (rightI x1 x2) fun y3 =>
  .ite (!y3)
  (.ret (.inl ()))
  (.get (bytesI x1) fun y4 =>
  .sub (F_word_Tell n (int64 x2)) fun y5 =>
  .sub (F_mac_Tag n x0 false (List.set (List.set (List.set ([([] : List UInt8), ([] : List UInt8), ([] : List UInt8)] : List (List UInt8)) 0 y4) 1 ([0] : List UInt8)) 2 y5)) fun y6 =>
  .get (Option.some Unit.unit) fun y7 =>
  .ret (.inr y6)))
def S_label_Key (n : Nat) : Summ := mkS ⟨[(.ro false .u8 []), (.val .str []), (.val (.sint .i64) (0 : Int))], [], 0⟩ [.c, .d (.list .u8), .d .str, .d (.sint .i64)] fun v => .sub (F_label_Key n (p1 v) (p2 v) (p3 v)) fun r => .alt r (fun r => .ret ((.tup (.pr (.whole 0 1) (.pr (.val (.sint .i64) (1 : Int)) .un))), [⟨0, 1, .row .u8 ([] : List UInt8)⟩], 2)) (fun r => .ret ((.tup (.pr (.bwin 0 0 .u8 32 0 32) (.pr (.val (.sint .i64) (0 : Int)) .un))), [⟨0, 1, .box (.val (.arr 32 .u8) r)⟩], 2))
theorem ok_label_Key (n : Nat) : SoundF Tryd.prog 110 (S_label_Key n) :=
  fn_go false true (c := codeOf Tryd.f110) (tab := mkTab [(109, ⟨S_right, [], [], false⟩), (134, ⟨S_word_Tell n, [], [], false⟩), (65, ⟨S_mac_Tag n, [], [true, true], false⟩)]) (cuts := mkCuts []) Tryd.func110 (by kernel_rfl) (.consE ok_rightC (.cons (ok_word_Tell n) ⟨_, Tryd.func134, by kernel_rfl⟩ (.cons (ok_mac_Tag n) ⟨_, Tryd.func65, by kernel_rfl⟩ .nil))) (.none0 (by kernel_rfl)) (fun v => by kernel_rfl)
def F_label_ID (n : Nat) (x0 : List UInt8) (x1 : Int) (x2 : List UInt8) : Tree ((List UInt8) × Int) :=
  .ite ((!(decide ((ln x0) = (32 : Int)))) || ((decide (x1 < (0 : Int))) || (decide ((255 : Int) < x1))))
  (.ret ((zs 32), (1 : Int)))
  (.sub (F_mac_Tag n x0 false (List.set (List.set ([([] : List UInt8), ([] : List UInt8)] : List (List UInt8)) 0 (List.set ([0] : List UInt8) 0 (int8 x1))) 1 x2)) fun y3 =>
  .ret (y3, (0 : Int)))
def S_label_ID (n : Nat) : Summ := mkS ⟨[(.ro false .u8 []), (.val (.sint .i64) (0 : Int)), (.ro false .u8 [])], [], 0⟩ [.c, .d (.list .u8), .d (.sint .i64), .c, .d (.list .u8)] fun v => .sub (F_label_ID n (p1 v) (p2 v) (p4 v)) fun r => .ret ((.tup (.pr (.val (.arr 32 .u8) r.1) (.pr (.val (.sint .i64) r.2) .un))), [], 0)
theorem ok_label_ID (n : Nat) : SoundF Tryd.prog 75 (S_label_ID n) :=
  fn_go false true (c := codeOf Tryd.f75) (tab := mkTab [(65, ⟨S_mac_Tag n, [], [true, true], false⟩)]) (cuts := mkCuts []) Tryd.func75 (by kernel_rfl) (.cons (ok_mac_Tag n) ⟨_, Tryd.func65, by kernel_rfl⟩ .nil) (.none0 (by kernel_rfl)) (fun v => by kernel_rfl)
def F_nonce_Counter_Right (n : Nat) (x0 : Int) (x1 : Int) : Tree Bool :=
  .ret ((decide ((0 : Int) ≤ x0)) && ((decide (x0 ≤ (64 : Int))) && ((decide ((0 : Int) ≤ x1)) && (decide (x1 ≤ (1099511627776 : Int))))))
def S_nonce_Counter_Right (n : Nat) : Summ := mkS ⟨[(.agg (.pr (.val (.sint .i64) (0 : Int)) (.pr (.val (.sint .i64) (0 : Int)) .un)))], [], 0⟩ [.d (.sint .i64), .d (.sint .i64)] fun v => .sub (F_nonce_Counter_Right n (p0 v) (p1 v)) fun r => .ret ((.val .bool r), [], 0)
theorem ok_nonce_Counter_Right (n : Nat) : SoundF Tryd.prog 160 (S_nonce_Counter_Right n) :=
  fn_go false true (c := codeOf Tryd.f160) (tab := mkTab []) (cuts := mkCuts []) Tryd.func160 (by kernel_rfl) .nil (.none0 (by kernel_rfl)) (fun v => by kernel_rfl)
def F_nonce_Of (n : Nat) (x0 : Int) (x1 : Int) : Tree (Unit ⊕ (List UInt8)) :=
  .sub (F_nonce_Counter_Right n x0 x1) fun y2 =>
  .ite (!y2)
  (.ret (.inl ()))
  (.get (Option.some Unit.unit) fun y3 =>
  .get (Tree.run (F_word_Store_1 n (int32 x0))) fun y4 =>
  .get (Option.some Unit.unit) fun y5 =>
  .get (Tree.run (F_word_Tell n (int64 x1))) fun y6 =>
  .get (Option.some Unit.unit) fun y7 =>
  .ret (.inr (cpy (cpy (zs 12) 0 4 (List.take (List.length y4) (List.drop 0 y4))) 4 8 (List.take (List.length y6) (List.drop 0 y6)))))
def S_nonce_Of (n : Nat) : Summ := mkS ⟨[(.val (.sint .i64) (0 : Int)), (.val (.sint .i64) (0 : Int))], [], 0⟩ [.d (.sint .i64), .d (.sint .i64)] fun v => .sub (F_nonce_Of n (p0 v) (p1 v)) fun r => .alt r (fun r => .ret ((.tup (.pr (.whole 0 1) (.pr (.val (.sint .i64) (1 : Int)) .un))), [⟨0, 1, .row .u8 ([] : List UInt8)⟩], 2)) (fun r => .ret ((.tup (.pr (.bwin 0 0 .u8 12 0 12) (.pr (.val (.sint .i64) (0 : Int)) .un))), [⟨0, 1, .box (.val (.arr 12 .u8) r)⟩], 2))
theorem ok_nonce_Of (n : Nat) : SoundF Tryd.prog 125 (S_nonce_Of n) :=
  fn_go false true (c := codeOf Tryd.f125) (tab := mkTab [(160, ⟨S_nonce_Counter_Right n, [], [], false⟩), (97, ⟨S_word_Store_1 n, [], [], false⟩), (134, ⟨S_word_Tell n, [], [], false⟩)]) (cuts := mkCuts []) Tryd.func125 (by kernel_rfl) (.cons (ok_nonce_Counter_Right n) ⟨_, Tryd.func160, by kernel_rfl⟩ (.cons (ok_word_Store_1 n) ⟨_, Tryd.func97, by kernel_rfl⟩ (.cons (ok_word_Tell n) ⟨_, Tryd.func134, by kernel_rfl⟩ .nil))) (.none0 (by kernel_rfl)) (fun v => by kernel_rfl)
def C_137_0 : CutF → Cut := fun κ => ⟨[4, 10, 11, 12], fun e => match e with | .ex i => bif Nat.beq i 0 then [4] else [] | .rt => [] | .nm => [] | .go i => [], κ⟩
def F_word_Long_l0 (n : Nat) : Nat → (UInt64) → (Bool) → (List UInt8) → (Int) → (Int) → Tree UInt64
 | 0 => fun  x0 x1 x2 x3 x4 => .fail
 | k + 1 => fun x0 x1 x2 x3 x4 =>
  .ite (decide (x4 < x3))
  (.get (getI x2 x4) fun y5 =>
  .sub (F_word_Long_l0 n k ((shl64 x0 8) ||| (UInt64.ofNat (UInt8.toNat y5))) x1 x2 x3 (w64 (x4 + (1 : Int)))) fun y6 =>
  .ret y6)
  (.ret x0)
def S_word_Long_l0 (n k : Nat) : CutF := mkS ⟨[(.val .u64 0), (.ro false .u8 []), (.val (.sint .i64) (0 : Int)), (.val (.sint .i64) (0 : Int))], [], 0⟩ [.d .u64, .c, .d (.list .u8), .d (.sint .i64), .d (.sint .i64)] fun v => .sub (F_word_Long_l0 n k (p0 v) (p1 v) (p2 v) (p3 v) (p4 v)) fun r => .ret (.ex 0, [(.val .u64 r)], [], 0)
theorem rd_word_Long_l0 (n k : Nat) : Rounds Tryd.prog (Go.Func.ntmps Tryd.f137) (bodyOf Tryd.f137 0) C_137_0 [S_word_Long_l0 n k] (S_word_Long_l0 n (k + 1)) :=
  rounds_go (tab := mkTab []) (cuts := mkCuts []) (S_word_Long_l0 n k) [] .nil (.none0 (by kernel_rfl)) rfl (fun v => by kernel_rfl)
theorem ok_word_Long_l0 (n k : Nat) : SoundC Tryd.prog (Go.Func.ntmps Tryd.f137) (.loop (bodyOf Tryd.f137 0)) (wr (bodyOf Tryd.f137 0)) (C_137_0 (S_word_Long_l0 n k)) :=
  loop_go (K := fun k => [S_word_Long_l0 n k]) (fun _ => rfl) (by kernel_rfl) ⟨z_go fun _ => by kernel_rfl, trivial⟩ (fun k => ⟨rd_word_Long_l0 n k, trivial⟩) k rfl
def F_word_Long (n : Nat) (x0 : Bool) (x1 : List UInt8) : Tree ((UInt64) × Int) :=
  .ite (!(decide ((ln x1) = (8 : Int))))
  (.ret ((0 : UInt64), (1 : Int)))
  (.sub (F_word_Long_l0 n n (0 : UInt64) x0 x1 (ln x1) (0 : Int)) fun y2 =>
  .ret (y2, (0 : Int)))
def S_word_Long (n : Nat) : Summ := mkS ⟨[(.ro false .u8 [])], [], 0⟩ [.c, .d (.list .u8)] fun v => .sub (F_word_Long n (p0 v) (p1 v)) fun r => .ret ((.tup (.pr (.val .u64 r.1) (.pr (.val (.sint .i64) r.2) .un))), [], 0)
theorem ok_word_Long (n : Nat) : SoundF Tryd.prog 137 (S_word_Long n) :=
  fn_go false true (c := codeOf Tryd.f137) (tab := mkTab []) (cuts := mkCuts [(0, C_137_0 (S_word_Long_l0 n n))]) Tryd.func137 (by kernel_rfl) .nil (CutsOK.list (l := [(0, .lp (bodyOf Tryd.f137 0))]) (by kernel_rfl) (LoopsOK.all ⟨.inr ⟨_, rfl, ok_word_Long_l0 n n⟩, trivial⟩)) (fun v => by kernel_rfl)
def F_nonce_Read (n : Nat) (x0 : List UInt8) : Tree ((Int) × ((Int) × Int)) :=
  .ite (!(decide ((ln x0) = (12 : Int))))
  (.ret ((0 : Int), (0 : Int), (5 : Int)))
  (.get (subI x0 (0 : Int) (4 : Int)) fun y1 =>
  .sub (F_word_Load_1 n false y1) fun y2 =>
  .get (subI x0 (4 : Int) (ln x0)) fun y3 =>
  .sub (F_word_Long n false y3) fun y4 =>
  .ite ((decide ((64 : UInt32) < y2.1)) || (decide ((1099511627776 : UInt64) < y4.1)))
  (.ret ((0 : Int), (0 : Int), (5 : Int)))
  (.ret ((Nat.cast (UInt32.toNat y2.1) : Int), (w64 (Nat.cast (UInt64.toNat y4.1) : Int)), (0 : Int))))
def S_nonce_Read (n : Nat) : Summ := mkS ⟨[(.ro false .u8 [])], [], 0⟩ [.c, .d (.list .u8)] fun v => .sub (F_nonce_Read n (p1 v)) fun r => .ret ((.tup (.pr (.val (.sint .i64) r.1) (.pr (.val (.sint .i64) r.2.1) (.pr (.val (.sint .i64) r.2.2) .un)))), [], 0)
theorem ok_nonce_Read (n : Nat) : SoundF Tryd.prog 129 (S_nonce_Read n) :=
  fn_go false true (c := codeOf Tryd.f129) (tab := mkTab [(136, ⟨S_word_Load_1 n, [], [true, false], false⟩), (137, ⟨S_word_Long n, [], [true], false⟩)]) (cuts := mkCuts []) Tryd.func129 (by kernel_rfl) (.cons (ok_word_Load_1 n) ⟨_, Tryd.func136, by kernel_rfl⟩ (.cons (ok_word_Long n) ⟨_, Tryd.func137, by kernel_rfl⟩ .nil)) (.none0 (by kernel_rfl)) (fun v => by kernel_rfl)
def C_132_0 : CutF → Cut := fun κ => ⟨[0, 3, 4], fun e => match e with | .ex i => bif Nat.beq i 0 then [3] else [] | .rt => [] | .nm => [] | .go i => [], κ⟩
def F_r01_worth_l0 (n : Nat) : Nat → (Bool) → (List UInt8) → (UInt64) → (Int) → Tree UInt64
 | 0 => fun  x0 x1 x2 x3 => .fail
 | k + 1 => fun x0 x1 x2 x3 =>
  .ite (decide (x3 < (ln x1)))
  (.get (getI x1 x3) fun y4 =>
  .sub (F_r01_worth_l0 n k x0 x1 ((x2 * (256 : UInt64)) + (UInt64.ofNat (UInt8.toNat y4))) (w64 (x3 + (1 : Int)))) fun y5 =>
  .ret y5)
  (.ret x2)
def S_r01_worth_l0 (n k : Nat) : CutF := mkS ⟨[(.ro false .u8 []), (.val .u64 0), (.val (.sint .i64) (0 : Int))], [], 0⟩ [.c, .d (.list .u8), .d .u64, .d (.sint .i64)] fun v => .sub (F_r01_worth_l0 n k (p0 v) (p1 v) (p2 v) (p3 v)) fun r => .ret (.ex 0, [(.val .u64 r)], [], 0)
theorem rd_r01_worth_l0 (n k : Nat) : Rounds Tryd.prog (Go.Func.ntmps Tryd.f132) (bodyOf Tryd.f132 0) C_132_0 [S_r01_worth_l0 n k] (S_r01_worth_l0 n (k + 1)) :=
  rounds_go (tab := mkTab []) (cuts := mkCuts []) (S_r01_worth_l0 n k) [] .nil (.none0 (by kernel_rfl)) rfl (fun v => by kernel_rfl)
theorem ok_r01_worth_l0 (n k : Nat) : SoundC Tryd.prog (Go.Func.ntmps Tryd.f132) (.loop (bodyOf Tryd.f132 0)) (wr (bodyOf Tryd.f132 0)) (C_132_0 (S_r01_worth_l0 n k)) :=
  loop_go (K := fun k => [S_r01_worth_l0 n k]) (fun _ => rfl) (by kernel_rfl) ⟨z_go fun _ => by kernel_rfl, trivial⟩ (fun k => ⟨rd_r01_worth_l0 n k, trivial⟩) k rfl
def F_r01_worth (n : Nat) (x0 : Bool) (x1 : List UInt8) : Tree UInt64 :=
  .sub (F_r01_worth_l0 n n x0 x1 (0 : UInt64) (0 : Int)) fun y2 =>
  .ret y2
def S_r01_worth (n : Nat) : Summ := mkS ⟨[(.ro false .u8 [])], [], 0⟩ [.c, .d (.list .u8)] fun v => .sub (F_r01_worth n (p0 v) (p1 v)) fun r => .ret ((.val .u64 r), [], 0)
theorem ok_r01_worth (n : Nat) : SoundF Tryd.prog 132 (S_r01_worth n) :=
  fn_go false true (c := codeOf Tryd.f132) (tab := mkTab []) (cuts := mkCuts [(0, C_132_0 (S_r01_worth_l0 n n))]) Tryd.func132 (by kernel_rfl) .nil (CutsOK.list (l := [(0, .lp (bodyOf Tryd.f132 0))]) (by kernel_rfl) (LoopsOK.all ⟨.inr ⟨_, rfl, ok_r01_worth_l0 n n⟩, trivial⟩)) (fun v => by kernel_rfl)
def F_r01_Load_1 (n : Nat) (x0 : Bool) (x1 : List UInt8) : Tree ((UInt32) × Int) :=
  .ite (!(decide ((ln x1) = (4 : Int))))
  (.ret ((0 : UInt32), (1 : Int)))
  (.sub (F_r01_worth n x0 x1) fun y2 =>
  .ret ((UInt32.ofNat (UInt64.toNat y2)), (0 : Int)))
def S_r01_Load_1 (n : Nat) : Summ := mkS ⟨[(.ro false .u8 []), .ff], [], 0⟩ [.c, .d (.list .u8)] fun v => .sub (F_r01_Load_1 n (p0 v) (p1 v)) fun r => .ret ((.tup (.pr (.val .u32 r.1) (.pr (.val (.sint .i64) r.2) .un))), [], 0)
theorem ok_r01_Load_1 (n : Nat) : SoundF Tryd.prog 83 (S_r01_Load_1 n) :=
  fn_go false true (c := codeOf Tryd.f83) (tab := mkTab [(132, ⟨S_r01_worth n, [], [true], false⟩)]) (cuts := mkCuts []) Tryd.func83 (by kernel_rfl) (.cons (ok_r01_worth n) ⟨_, Tryd.func132, by kernel_rfl⟩ .nil) (.none0 (by kernel_rfl)) (fun v => by kernel_rfl)
def F_r01_Long (n : Nat) (x0 : Bool) (x1 : List UInt8) : Tree ((UInt64) × Int) :=
  .ite (!(decide ((ln x1) = (8 : Int))))
  (.ret ((0 : UInt64), (1 : Int)))
  (.sub (F_r01_worth n x0 x1) fun y2 =>
  .ret (y2, (0 : Int)))
def S_r01_Long (n : Nat) : Summ := mkS ⟨[(.ro false .u8 [])], [], 0⟩ [.c, .d (.list .u8)] fun v => .sub (F_r01_Long n (p0 v) (p1 v)) fun r => .ret ((.tup (.pr (.val .u64 r.1) (.pr (.val (.sint .i64) r.2) .un))), [], 0)
theorem ok_r01_Long (n : Nat) : SoundF Tryd.prog 84 (S_r01_Long n) :=
  fn_go false true (c := codeOf Tryd.f84) (tab := mkTab [(132, ⟨S_r01_worth n, [], [true], false⟩)]) (cuts := mkCuts []) Tryd.func84 (by kernel_rfl) (.cons (ok_r01_worth n) ⟨_, Tryd.func132, by kernel_rfl⟩ .nil) (.none0 (by kernel_rfl)) (fun v => by kernel_rfl)
def F_r10_Read (n : Nat) (x0 : List UInt8) : Tree ((Int) × ((Int) × Int)) :=
  .ite (!(decide ((ln x0) = (12 : Int))))
  (.ret ((0 : Int), (0 : Int), (5 : Int)))
  (.get (subI x0 (0 : Int) (4 : Int)) fun y1 =>
  .sub (F_r01_Load_1 n false y1) fun y2 =>
  .get (subI x0 (4 : Int) (ln x0)) fun y3 =>
  .sub (F_r01_Long n false y3) fun y4 =>
  .ite ((decide ((64 : UInt32) < y2.1)) || (decide ((1099511627776 : UInt64) < y4.1)))
  (.ret ((0 : Int), (0 : Int), (5 : Int)))
  (.ret ((Nat.cast (UInt32.toNat y2.1) : Int), (w64 (Nat.cast (UInt64.toNat y4.1) : Int)), (0 : Int))))
def S_r10_Read (n : Nat) : Summ := mkS ⟨[(.ro false .u8 [])], [], 0⟩ [.c, .d (.list .u8)] fun v => .sub (F_r10_Read n (p1 v)) fun r => .ret ((.tup (.pr (.val (.sint .i64) r.1) (.pr (.val (.sint .i64) r.2.1) (.pr (.val (.sint .i64) r.2.2) .un)))), [], 0)
theorem ok_r10_Read (n : Nat) : SoundF Tryd.prog 33 (S_r10_Read n) :=
  fn_go false true (c := codeOf Tryd.f33) (tab := mkTab [(83, ⟨S_r01_Load_1 n, [], [true, false], false⟩), (84, ⟨S_r01_Long n, [], [true], false⟩)]) (cuts := mkCuts []) Tryd.func33 (by kernel_rfl) (.cons (ok_r01_Load_1 n) ⟨_, Tryd.func83, by kernel_rfl⟩ (.cons (ok_r01_Long n) ⟨_, Tryd.func84, by kernel_rfl⟩ .nil)) (.none0 (by kernel_rfl)) (fun v => by kernel_rfl)
end Hyp
