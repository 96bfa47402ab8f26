/- Printed by Gen.lean.tpl (this work's own): Go functions as pure functions, each with the proof that the Go code comes to its answers. -/
import Derived.Test.YtcojhmllnhkbnaaDoorZD
import Derived.Test.YtcojhmllnhkbnaaDoorChecked
set_option linter.unusedVariables false
set_option maxRecDepth 100000
set_option maxHeartbeats 4000000
namespace Hyp
open Go Go.Proofs
def C_186_0 : CutF → Cut := fun κ => ⟨[0, 6, 19], fun e => match e with | .ex i => bif Nat.beq i 0 then [] else [] | .rt => [] | .nm => [] | .go i => [], κ⟩
def C_136_0 : CutF → Cut := fun κ => ⟨[0, 1, 6, 12], fun e => match e with | .ex i => bif Nat.beq i 0 then [6] else [] | .rt => [] | .nm => [] | .go i => [], κ⟩
def F_word_Load_l0 (n : Nat) : Nat → (Bool) → (List UInt8) → (Bool) → (UInt32) → (Int) → Tree UInt32
 | 0 => fun  x0 x1 x2 x3 x4 => .fail
 | k + 1 => fun x0 x1 x2 x3 x4 =>
  .ite (decide (x4 < (4 : Int)))
  (.ite x2
  (.get (getI x1 (w64 ((3 : Int) - x4))) fun y5 =>
  .sub (F_word_Load_l0 n k x0 x1 x2 ((shl32 x3 8) ||| (UInt32.ofNat (UInt8.toNat y5))) (w64 (x4 + (1 : Int)))) fun y6 =>
  .ret y6)
  (.get (getI x1 x4) fun y7 =>
  .sub (F_word_Load_l0 n k x0 x1 x2 ((shl32 x3 8) ||| (UInt32.ofNat (UInt8.toNat y7))) (w64 (x4 + (1 : Int)))) fun y8 =>
  .ret y8))
  (.ret x3)
def S_word_Load_l0 (n k : Nat) : CutF := mkS ⟨[(.ro false .u8 []), (.val .bool false), (.val .u32 0), (.val (.sint .i64) (0 : Int))], [], 0⟩ [.c, .d (.list .u8), .d .bool, .d .u32, .d (.sint .i64)] fun v => .sub (F_word_Load_l0 n k (p0 v) (p1 v) (p2 v) (p3 v) (p4 v)) fun r => .ret (.ex 0, [(.val .u32 r)], [], 0)
theorem rd_word_Load_l0 (n k : Nat) : Rounds Tryd.prog (Go.Func.ntmps Tryd.f136) (bodyOf Tryd.f136 0) C_136_0 [S_word_Load_l0 n k] (S_word_Load_l0 n (k + 1)) :=
  rounds_go (tab := mkTab []) (cuts := mkCuts []) (S_word_Load_l0 n k) [] .nil (.none0 (by kernel_rfl)) rfl (fun v => by kernel_rfl)
theorem ok_word_Load_l0 (n k : Nat) : SoundC Tryd.prog (Go.Func.ntmps Tryd.f136) (.loop (bodyOf Tryd.f136 0)) (wr (bodyOf Tryd.f136 0)) (C_136_0 (S_word_Load_l0 n k)) :=
  loop_go (K := fun k => [S_word_Load_l0 n k]) (fun _ => rfl) (by kernel_rfl) ⟨z_go fun _ => by kernel_rfl, trivial⟩ (fun k => ⟨rd_word_Load_l0 n k, trivial⟩) k rfl
def F_word_Load (n : Nat) (x0 : Bool) (x1 : List UInt8) : Tree ((UInt32) × Int) :=
  .ite (!(decide ((ln x1) = (4 : Int))))
  (.ret ((0 : UInt32), (1 : Int)))
  (.sub (F_word_Load_l0 n n x0 x1 true (0 : UInt32) (0 : Int)) fun y2 =>
  .ret (y2, (0 : Int)))
def S_word_Load (n : Nat) : Summ := mkS ⟨[(.ro false .u8 []), .tt], [], 0⟩ [.c, .d (.list .u8)] fun v => .sub (F_word_Load n (p0 v) (p1 v)) fun r => .ret ((.tup (.pr (.val .u32 r.1) (.pr (.val (.sint .i64) r.2) .un))), [], 0)
theorem ok_word_Load (n : Nat) : SoundF Tryd.prog 136 (S_word_Load n) :=
  fn_go false true (c := codeOf Tryd.f136) (tab := mkTab []) (cuts := mkCuts [(0, C_136_0 (S_word_Load_l0 n n))]) Tryd.func136 (by kernel_rfl) .nil (CutsOK.list (l := [(0, .lp (bodyOf Tryd.f136 0))]) (by kernel_rfl) (LoopsOK.all ⟨.inr ⟨_, rfl, ok_word_Load_l0 n n⟩, trivial⟩)) (fun v => by kernel_rfl)
def F_cipher_begun_l0 (n : Nat) : Nat → (Bool) → (List UInt8) → (Int) → (List UInt32) → Tree (List UInt32)
 | 0 => fun  x0 x1 x2 x3 => .fail
 | k + 1 => fun x0 x1 x2 x3 =>
  .ite (decide (x2 < (8 : Int)))
  (.get (subI x1 (w64 ((4 : Int) * x2)) (w64 ((w64 ((4 : Int) * x2)) + (4 : Int)))) fun y4 =>
  .sub (F_word_Load n false y4) fun y5 =>
  .get (inI 16 (w64 ((4 : Int) + x2))) fun y6 =>
  .get (gt x3 y6) fun y7 =>
  .sub (F_cipher_begun_l0 n k x0 x1 (w64 (x2 + (1 : Int))) (List.set x3 y6 y5.1)) fun y8 =>
  .ret y8)
  (.ret x3)
def S_cipher_begun_l0 (n k : Nat) : CutF := mkS ⟨[(.ro false .u8 []), (.ptr 0 0), (.val (.sint .i64) (0 : Int))], [⟨0, 1, .box (.val (.arr 16 .u32) [])⟩], 2⟩ [.c, .d (.list .u8), .d (.sint .i64), .d (.arr 16 .u32)] fun v => .sub (F_cipher_begun_l0 n k (p0 v) (p1 v) (p2 v) (p3 v)) fun r => .ret (.ex 0, [], [⟨0, 3, .box (.val (.arr 16 .u32) r)⟩], 4)
theorem rd_cipher_begun_l0 (n k : Nat) : Rounds Tryd.prog (Go.Func.ntmps Tryd.f186) (bodyOf Tryd.f186 0) C_186_0 [S_cipher_begun_l0 n k] (S_cipher_begun_l0 n (k + 1)) :=
  rounds_go (tab := mkTab [(136, ⟨S_word_Load n, [], [], false⟩)]) (cuts := mkCuts []) (S_cipher_begun_l0 n k) [] (.cons (ok_word_Load n) ⟨_, Tryd.func136, by kernel_rfl⟩ .nil) (.none0 (by kernel_rfl)) rfl (fun v => by kernel_rfl)
theorem ok_cipher_begun_l0 (n k : Nat) : SoundC Tryd.prog (Go.Func.ntmps Tryd.f186) (.loop (bodyOf Tryd.f186 0)) (wr (bodyOf Tryd.f186 0)) (C_186_0 (S_cipher_begun_l0 n k)) :=
  loop_go (K := fun k => [S_cipher_begun_l0 n k]) (fun _ => rfl) (by kernel_rfl) ⟨z_go fun _ => by kernel_rfl, trivial⟩ (fun k => ⟨rd_cipher_begun_l0 n k, trivial⟩) k rfl
def C_186_2 : CutF → Cut := fun κ => ⟨[1, 6, 37], fun e => match e with | .ex i => bif Nat.beq i 2 then [] else [] | .rt => [] | .nm => [] | .go i => [], κ⟩
def F_cipher_begun_l2 (n : Nat) : Nat → (Bool) → (List UInt8) → (Int) → (List UInt32) → Tree (List UInt32)
 | 0 => fun  x0 x1 x2 x3 => .fail
 | k + 1 => fun x0 x1 x2 x3 =>
  .ite (decide (x2 < (3 : Int)))
  (.get (subI x1 (w64 ((4 : Int) * x2)) (w64 ((w64 ((4 : Int) * x2)) + (4 : Int)))) fun y4 =>
  .sub (F_word_Load n false y4) fun y5 =>
  .get (inI 16 (w64 ((13 : Int) + x2))) fun y6 =>
  .get (gt x3 y6) fun y7 =>
  .sub (F_cipher_begun_l2 n k x0 x1 (w64 (x2 + (1 : Int))) (List.set x3 y6 y5.1)) fun y8 =>
  .ret y8)
  (.ret x3)
def S_cipher_begun_l2 (n k : Nat) : CutF := mkS ⟨[(.ro false .u8 []), (.ptr 0 0), (.val (.sint .i64) (0 : Int))], [⟨0, 1, .box (.val (.arr 16 .u32) [])⟩], 2⟩ [.c, .d (.list .u8), .d (.sint .i64), .d (.arr 16 .u32)] fun v => .sub (F_cipher_begun_l2 n k (p0 v) (p1 v) (p2 v) (p3 v)) fun r => .ret (.ex 2, [], [⟨0, 3, .box (.val (.arr 16 .u32) r)⟩], 4)
theorem rd_cipher_begun_l2 (n k : Nat) : Rounds Tryd.prog (Go.Func.ntmps Tryd.f186) (bodyOf Tryd.f186 2) C_186_2 [S_cipher_begun_l2 n k] (S_cipher_begun_l2 n (k + 1)) :=
  rounds_go (tab := mkTab [(136, ⟨S_word_Load n, [], [], false⟩)]) (cuts := mkCuts []) (S_cipher_begun_l2 n k) [] (.cons (ok_word_Load n) ⟨_, Tryd.func136, by kernel_rfl⟩ .nil) (.none0 (by kernel_rfl)) rfl (fun v => by kernel_rfl)
theorem ok_cipher_begun_l2 (n k : Nat) : SoundC Tryd.prog (Go.Func.ntmps Tryd.f186) (.loop (bodyOf Tryd.f186 2)) (wr (bodyOf Tryd.f186 2)) (C_186_2 (S_cipher_begun_l2 n k)) :=
  loop_go (K := fun k => [S_cipher_begun_l2 n k]) (fun _ => rfl) (by kernel_rfl) ⟨z_go fun _ => by kernel_rfl, trivial⟩ (fun k => ⟨rd_cipher_begun_l2 n k, trivial⟩) k rfl
def F_cipher_begun (n : Nat) (x0 : Bool) (x1 : List UInt8) (x2 : Bool) (x3 : List UInt8) : Tree ((List UInt32) × Bool) :=
  .ite ((!(decide ((ln x1) = (32 : Int)))) || (!(decide ((ln x3) = (12 : Int)))))
  (.ret (([(1634760805 : UInt32), (857760878 : UInt32), (2036477234 : UInt32), (1797285236 : UInt32), (0 : UInt32), (0 : UInt32), (0 : UInt32), (0 : UInt32), (0 : UInt32), (0 : UInt32), (0 : UInt32), (0 : UInt32), (0 : UInt32), (0 : UInt32), (0 : UInt32), (0 : UInt32)] : List UInt32), false))
  (.sub (F_cipher_begun_l0 n n x0 x1 (0 : Int) ([(1634760805 : UInt32), (857760878 : UInt32), (2036477234 : UInt32), (1797285236 : UInt32), (0 : UInt32), (0 : UInt32), (0 : UInt32), (0 : UInt32), (0 : UInt32), (0 : UInt32), (0 : UInt32), (0 : UInt32), (0 : UInt32), (0 : UInt32), (0 : UInt32), (0 : UInt32)] : List UInt32)) fun y4 =>
  .sub (F_cipher_begun_l2 n n x2 x3 (0 : Int) y4) fun y5 =>
  .ret (y5, true))
def S_cipher_begun (n : Nat) : Summ := mkS ⟨[(.ro false .u8 []), (.ro false .u8 [])], [], 0⟩ [.c, .d (.list .u8), .c, .d (.list .u8)] fun v => .sub (F_cipher_begun n (p0 v) (p1 v) (p2 v) (p3 v)) fun r => .ret ((.tup (.pr (.val (.arr 16 .u32) r.1) (.pr (.val .bool r.2) .un))), [], 0)
theorem ok_cipher_begun (n : Nat) : SoundF Tryd.prog 186 (S_cipher_begun n) :=
  fn_go false true (c := codeOf Tryd.f186) (tab := mkTab []) (cuts := mkCuts [(0, C_186_0 (S_cipher_begun_l0 n n)), (2, C_186_2 (S_cipher_begun_l2 n n))]) Tryd.func186 (by kernel_rfl) .nil (CutsOK.list (l := [(0, .lp (bodyOf Tryd.f186 0)), (2, .lp (bodyOf Tryd.f186 2))]) (by kernel_rfl) (LoopsOK.all ⟨.inr ⟨_, rfl, ok_cipher_begun_l0 n n⟩, ⟨.inr ⟨_, rfl, ok_cipher_begun_l2 n n⟩, trivial⟩⟩)) (fun v => by kernel_rfl)
def C_188_0 : CutF → Cut := fun κ => ⟨[3, 11], fun e => match e with | .ex i => bif Nat.beq i 0 then [] else [] | .rt => [] | .nm => [] | .go i => bif Nat.beq i 0 then [] else [], κ⟩
def F_word_Turn (n : Nat) (x0 : UInt32) (x1 : Int) : Tree UInt32 :=
  .ret ((shl32 x0 (UInt32.toNat ((int32 x1) &&& (31 : UInt32)))) ||| (shr32 x0 (UInt32.toNat (((32 : UInt32) - ((int32 x1) &&& (31 : UInt32))) &&& (31 : UInt32)))))
def S_word_Turn (n : Nat) : Summ := mkS ⟨[(.val .u32 0), (.val (.sint .i64) (0 : Int))], [], 0⟩ [.d .u32, .d (.sint .i64)] fun v => .sub (F_word_Turn n (p0 v) (p1 v)) fun r => .ret ((.val .u32 r), [], 0)
theorem ok_word_Turn (n : Nat) : SoundF Tryd.prog 203 (S_word_Turn n) :=
  fn_go false true (c := codeOf Tryd.f203) (tab := mkTab []) (cuts := mkCuts []) Tryd.func203 (by kernel_rfl) .nil (.none0 (by kernel_rfl)) (fun v => by kernel_rfl)
def F_cipher_grid_quarter (n : Nat) (x0 : Int) (x1 : Int) (x2 : Int) (x3 : Int) (x4 : List UInt32) : Tree (List UInt32) :=
  .get (inI 16 x0) fun y5 =>
  .get (gt x4 y5) fun y6 =>
  .get (inI 16 x1) fun y7 =>
  .get (gt x4 y7) fun y8 =>
  .get (inI 16 x0) fun y9 =>
  .get (gt x4 y9) fun y10 =>
  .get (inI 16 x3) fun y11 =>
  .get (gt (List.set x4 y9 (y6 + y8)) y11) fun y12 =>
  .get (inI 16 x0) fun y13 =>
  .get (gt (List.set x4 y9 (y6 + y8)) y13) fun y14 =>
  .get (Tree.run (F_word_Turn n (y12 ^^^ y14) (16 : Int))) fun y15 =>
  .get (inI 16 x3) fun y16 =>
  .get (gt (List.set x4 y9 (y6 + y8)) y16) fun y17 =>
  .get (inI 16 x2) fun y18 =>
  .get (gt (List.set (List.set x4 y9 (y6 + y8)) y16 y15) y18) fun y19 =>
  .get (inI 16 x3) fun y20 =>
  .get (gt (List.set (List.set x4 y9 (y6 + y8)) y16 y15) y20) fun y21 =>
  .get (inI 16 x2) fun y22 =>
  .get (gt (List.set (List.set x4 y9 (y6 + y8)) y16 y15) y22) fun y23 =>
  .get (inI 16 x1) fun y24 =>
  .get (gt (List.set (List.set (List.set x4 y9 (y6 + y8)) y16 y15) y22 (y19 + y21)) y24) fun y25 =>
  .get (inI 16 x2) fun y26 =>
  .get (gt (List.set (List.set (List.set x4 y9 (y6 + y8)) y16 y15) y22 (y19 + y21)) y26) fun y27 =>
  .get (Tree.run (F_word_Turn n (y25 ^^^ y27) (12 : Int))) fun y28 =>
  .get (inI 16 x1) fun y29 =>
  .get (gt (List.set (List.set (List.set x4 y9 (y6 + y8)) y16 y15) y22 (y19 + y21)) y29) fun y30 =>
  .get (inI 16 x0) fun y31 =>
  .get (gt (List.set (List.set (List.set (List.set x4 y9 (y6 + y8)) y16 y15) y22 (y19 + y21)) y29 y28) y31) fun y32 =>
  .get (inI 16 x1) fun y33 =>
  .get (gt (List.set (List.set (List.set (List.set x4 y9 (y6 + y8)) y16 y15) y22 (y19 + y21)) y29 y28) y33) fun y34 =>
  .get (inI 16 x0) fun y35 =>
  .get (gt (List.set (List.set (List.set (List.set x4 y9 (y6 + y8)) y16 y15) y22 (y19 + y21)) y29 y28) y35) fun y36 =>
  .get (inI 16 x3) fun y37 =>
  .get (gt (List.set (List.set (List.set (List.set (List.set x4 y9 (y6 + y8)) y16 y15) y22 (y19 + y21)) y29 y28) y35 (y32 + y34)) y37) fun y38 =>
  .get (inI 16 x0) fun y39 =>
  .get (gt (List.set (List.set (List.set (List.set (List.set x4 y9 (y6 + y8)) y16 y15) y22 (y19 + y21)) y29 y28) y35 (y32 + y34)) y39) fun y40 =>
  .get (Tree.run (F_word_Turn n (y38 ^^^ y40) (8 : Int))) fun y41 =>
  .get (inI 16 x3) fun y42 =>
  .get (gt (List.set (List.set (List.set (List.set (List.set x4 y9 (y6 + y8)) y16 y15) y22 (y19 + y21)) y29 y28) y35 (y32 + y34)) y42) fun y43 =>
  .get (inI 16 x2) fun y44 =>
  .get (gt (List.set (List.set (List.set (List.set (List.set (List.set x4 y9 (y6 + y8)) y16 y15) y22 (y19 + y21)) y29 y28) y35 (y32 + y34)) y42 y41) y44) fun y45 =>
  .get (inI 16 x3) fun y46 =>
  .get (gt (List.set (List.set (List.set (List.set (List.set (List.set x4 y9 (y6 + y8)) y16 y15) y22 (y19 + y21)) y29 y28) y35 (y32 + y34)) y42 y41) y46) fun y47 =>
  .get (inI 16 x2) fun y48 =>
  .get (gt (List.set (List.set (List.set (List.set (List.set (List.set x4 y9 (y6 + y8)) y16 y15) y22 (y19 + y21)) y29 y28) y35 (y32 + y34)) y42 y41) y48) fun y49 =>
  .get (inI 16 x1) fun y50 =>
  .get (gt (List.set (List.set (List.set (List.set (List.set (List.set (List.set x4 y9 (y6 + y8)) y16 y15) y22 (y19 + y21)) y29 y28) y35 (y32 + y34)) y42 y41) y48 (y45 + y47)) y50) fun y51 =>
  .get (inI 16 x2) fun y52 =>
  .get (gt (List.set (List.set (List.set (List.set (List.set (List.set (List.set x4 y9 (y6 + y8)) y16 y15) y22 (y19 + y21)) y29 y28) y35 (y32 + y34)) y42 y41) y48 (y45 + y47)) y52) fun y53 =>
  .get (Tree.run (F_word_Turn n (y51 ^^^ y53) (7 : Int))) fun y54 =>
  .get (inI 16 x1) fun y55 =>
  .get (gt (List.set (List.set (List.set (List.set (List.set (List.set (List.set x4 y9 (y6 + y8)) y16 y15) y22 (y19 + y21)) y29 y28) y35 (y32 + y34)) y42 y41) y48 (y45 + y47)) y55) fun y56 =>
  .ret (List.set (List.set (List.set (List.set (List.set (List.set (List.set (List.set x4 y9 (y6 + y8)) y16 y15) y22 (y19 + y21)) y29 y28) y35 (y32 + y34)) y42 y41) y48 (y45 + y47)) y55 y54)
def S_cipher_grid_quarter (n : Nat) : Summ := mkS ⟨[(.ptr 0 0), (.val (.sint .i64) (0 : Int)), (.val (.sint .i64) (0 : Int)), (.val (.sint .i64) (0 : Int)), (.val (.sint .i64) (0 : Int))], [⟨0, 1, .box (.val (.arr 16 .u32) [])⟩], 2⟩ [.d (.sint .i64), .d (.sint .i64), .d (.sint .i64), .d (.sint .i64), .d (.arr 16 .u32)] fun v => .sub (F_cipher_grid_quarter n (p0 v) (p1 v) (p2 v) (p3 v) (p4 v)) fun r => .ret ((.tup .un), [⟨0, 3, .box (.val (.arr 16 .u32) r)⟩], 4)
theorem ok_cipher_grid_quarter (n : Nat) : SoundF Tryd.prog 198 (S_cipher_grid_quarter n) :=
  fn_go false true (c := codeOf Tryd.f198) (tab := mkTab [(203, ⟨S_word_Turn n, [], [], false⟩)]) (cuts := mkCuts []) Tryd.func198 (by kernel_rfl) (.cons (ok_word_Turn n) ⟨_, Tryd.func203, by kernel_rfl⟩ .nil) (.none0 (by kernel_rfl)) (fun v => by kernel_rfl)
def F_cipher_grid_block_l0 (n : Nat) : Nat → (Int) → (List UInt32) → Tree (List UInt32)
 | 0 => fun  x0 x1 => .fail
 | k + 1 => fun x0 x1 =>
  .ite (decide (x0 < (4 : Int)))
  (.sub (F_cipher_grid_quarter n x0 (w64 ((4 : Int) + x0)) (w64 ((8 : Int) + x0)) (w64 ((12 : Int) + x0)) x1) fun y2 =>
  .sub (F_cipher_grid_block_l0 n k (w64 (x0 + (1 : Int))) y2) fun y3 =>
  .ret y3)
  (.ret x1)
def S_cipher_grid_block_l0 (n k : Nat) : CutF := mkS ⟨[(.ptr 0 0), (.val (.sint .i64) (0 : Int))], [⟨0, 1, .box (.val (.arr 16 .u32) [])⟩], 2⟩ [.d (.sint .i64), .d (.arr 16 .u32)] fun v => .sub (F_cipher_grid_block_l0 n k (p0 v) (p1 v)) fun r => .ret (.ex 0, [], [⟨0, 3, .box (.val (.arr 16 .u32) r)⟩], 4)
theorem rd_cipher_grid_block_l0 (n k : Nat) : Rounds Tryd.prog (Go.Func.ntmps Tryd.f188) (bodyOf Tryd.f188 0) C_188_0 [S_cipher_grid_block_l0 n k] (S_cipher_grid_block_l0 n (k + 1)) :=
  rounds_go (tab := mkTab [(198, ⟨S_cipher_grid_quarter n, [], [], false⟩)]) (cuts := mkCuts []) (S_cipher_grid_block_l0 n k) [] (.cons (ok_cipher_grid_quarter n) ⟨_, Tryd.func198, by kernel_rfl⟩ .nil) (.none0 (by kernel_rfl)) rfl (fun v => by kernel_rfl)
theorem ok_cipher_grid_block_l0 (n k : Nat) : SoundC Tryd.prog (Go.Func.ntmps Tryd.f188) (.loop (bodyOf Tryd.f188 0)) (wr (bodyOf Tryd.f188 0)) (C_188_0 (S_cipher_grid_block_l0 n k)) :=
  loop_go (K := fun k => [S_cipher_grid_block_l0 n k]) (fun _ => rfl) (by kernel_rfl) ⟨z_go fun _ => by kernel_rfl, trivial⟩ (fun k => ⟨rd_cipher_grid_block_l0 n k, trivial⟩) k rfl
def C_188_2 : CutF → Cut := fun κ => ⟨[3, 23], fun e => match e with | .ex i => bif Nat.beq i 2 then [] else [] | .rt => [] | .nm => [] | .go i => bif Nat.beq i 0 then [] else [], κ⟩
def F_cipher_grid_block_l2 (n : Nat) : Nat → (Int) → (List UInt32) → Tree (List UInt32)
 | 0 => fun  x0 x1 => .fail
 | k + 1 => fun x0 x1 =>
  .ite (decide (x0 < (4 : Int)))
  (.sub (F_cipher_grid_quarter n x0 (w64 ((4 : Int) + (Int.tmod (w64 (x0 + (1 : Int))) (4 : Int)))) (w64 ((8 : Int) + (Int.tmod (w64 (x0 + (2 : Int))) (4 : Int)))) (w64 ((12 : Int) + (Int.tmod (w64 (x0 + (3 : Int))) (4 : Int)))) x1) fun y2 =>
  .sub (F_cipher_grid_block_l2 n k (w64 (x0 + (1 : Int))) y2) fun y3 =>
  .ret y3)
  (.ret x1)
def S_cipher_grid_block_l2 (n k : Nat) : CutF := mkS ⟨[(.ptr 0 0), (.val (.sint .i64) (0 : Int))], [⟨0, 1, .box (.val (.arr 16 .u32) [])⟩], 2⟩ [.d (.sint .i64), .d (.arr 16 .u32)] fun v => .sub (F_cipher_grid_block_l2 n k (p0 v) (p1 v)) fun r => .ret (.ex 2, [], [⟨0, 3, .box (.val (.arr 16 .u32) r)⟩], 4)
theorem rd_cipher_grid_block_l2 (n k : Nat) : Rounds Tryd.prog (Go.Func.ntmps Tryd.f188) (bodyOf Tryd.f188 2) C_188_2 [S_cipher_grid_block_l2 n k] (S_cipher_grid_block_l2 n (k + 1)) :=
  rounds_go (tab := mkTab [(198, ⟨S_cipher_grid_quarter n, [], [], false⟩)]) (cuts := mkCuts []) (S_cipher_grid_block_l2 n k) [] (.cons (ok_cipher_grid_quarter n) ⟨_, Tryd.func198, by kernel_rfl⟩ .nil) (.none0 (by kernel_rfl)) rfl (fun v => by kernel_rfl)
theorem ok_cipher_grid_block_l2 (n k : Nat) : SoundC Tryd.prog (Go.Func.ntmps Tryd.f188) (.loop (bodyOf Tryd.f188 2)) (wr (bodyOf Tryd.f188 2)) (C_188_2 (S_cipher_grid_block_l2 n k)) :=
  loop_go (K := fun k => [S_cipher_grid_block_l2 n k]) (fun _ => rfl) (by kernel_rfl) ⟨z_go fun _ => by kernel_rfl, trivial⟩ (fun k => ⟨rd_cipher_grid_block_l2 n k, trivial⟩) k rfl
def C_188_100000 : CutF → Cut := fun κ => ⟨[1, 2, 3, 4], fun e => match e with | .ex i => [] | .rt => [] | .nm => [] | .go i => [], κ⟩
def C_188_4 : CutF → Cut := fun κ => ⟨[1, 7, 45, 46], fun e => match e with | .ex i => bif Nat.beq i 4 then [] else [] | .rt => [] | .nm => [] | .go i => bif Nat.beq i 0 then [] else [], κ⟩
def C_97_0 : CutF → Cut := fun κ => ⟨[0, 1, 5, 9], fun e => match e with | .ex i => bif Nat.beq i 0 then [] else [] | .rt => [] | .nm => [] | .go i => [], κ⟩
def F_word_Store_l0 (n : Nat) : Nat → (UInt32) → (Bool) → (Int) → (List UInt8) → Tree (List UInt8)
 | 0 => fun  x0 x1 x2 x3 => .fail
 | k + 1 => fun x0 x1 x2 x3 =>
  .ite (decide (x2 < (4 : Int)))
  (.ite x1
  (.get (nz (decide ((w64 ((8 : Int) * x2)) < (0 : Int)))) fun y4 =>
  .get (inI (List.length x3) x2) fun y5 =>
  .get (gt x3 (0 + y5)) fun y6 =>
  .sub (F_word_Store_l0 n k x0 x1 (w64 (x2 + (1 : Int))) (List.set x3 (0 + y5) (UInt8.ofNat (UInt32.toNat (shr32 x0 (Int.toNat (w64 ((8 : Int) * x2)))))))) fun y7 =>
  .ret y7)
  (.get (nz (decide ((w64 ((8 : Int) * x2)) < (0 : Int)))) fun y8 =>
  .get (inI (List.length x3) (w64 ((3 : Int) - x2))) fun y9 =>
  .get (gt x3 (0 + y9)) fun y10 =>
  .sub (F_word_Store_l0 n k x0 x1 (w64 (x2 + (1 : Int))) (List.set x3 (0 + y9) (UInt8.ofNat (UInt32.toNat (shr32 x0 (Int.toNat (w64 ((8 : Int) * x2)))))))) fun y11 =>
  .ret y11))
  (.ret x3)
def S_word_Store_l0 (n k : Nat) : CutF := mkS ⟨[(.val .u32 0), (.val .bool false), (.whole 0 1), (.val (.sint .i64) (0 : Int))], [⟨0, 1, .row .u8 []⟩], 2⟩ [.d .u32, .d .bool, .d (.sint .i64), .d (.list .u8)] fun v => .sub (F_word_Store_l0 n k (p0 v) (p1 v) (p2 v) (p3 v)) fun r => .ret (.ex 0, [], [⟨0, 3, .row .u8 r⟩], 4)
theorem rd_word_Store_l0 (n k : Nat) : Rounds Tryd.prog (Go.Func.ntmps Tryd.f97) (bodyOf Tryd.f97 0) C_97_0 [S_word_Store_l0 n k] (S_word_Store_l0 n (k + 1)) :=
  rounds_go (tab := mkTab []) (cuts := mkCuts []) (S_word_Store_l0 n k) [] .nil (.none0 (by kernel_rfl)) rfl (fun v => by kernel_rfl)
theorem ok_word_Store_l0 (n k : Nat) : SoundC Tryd.prog (Go.Func.ntmps Tryd.f97) (.loop (bodyOf Tryd.f97 0)) (wr (bodyOf Tryd.f97 0)) (C_97_0 (S_word_Store_l0 n k)) :=
  loop_go (K := fun k => [S_word_Store_l0 n k]) (fun _ => rfl) (by kernel_rfl) ⟨z_go fun _ => by kernel_rfl, trivial⟩ (fun k => ⟨rd_word_Store_l0 n k, trivial⟩) k rfl
def F_word_Store (n : Nat) (x0 : UInt32) : Tree (List UInt8) :=
  .sub (F_word_Store_l0 n n x0 true (0 : Int) ([0, 0, 0, 0] : List UInt8)) fun y1 =>
  .ret y1
def S_word_Store (n : Nat) : Summ := mkS ⟨[(.val .u32 0), .tt], [], 0⟩ [.d .u32] fun v => .sub (F_word_Store n (p0 v)) fun r => .ret ((.whole 0 1), [⟨0, 1, .row .u8 r⟩], 2)
theorem ok_word_Store (n : Nat) : SoundF Tryd.prog 97 (S_word_Store n) :=
  fn_go false true (c := codeOf Tryd.f97) (tab := mkTab []) (cuts := mkCuts [(0, C_97_0 (S_word_Store_l0 n n))]) Tryd.func97 (by kernel_rfl) .nil (CutsOK.list (l := [(0, .lp (bodyOf Tryd.f97 0))]) (by kernel_rfl) (LoopsOK.all ⟨.inr ⟨_, rfl, ok_word_Store_l0 n n⟩, trivial⟩)) (fun v => by kernel_rfl)
def F_cipher_grid_block_l4 (n : Nat) : Nat → (List UInt32) → (Int) → (List UInt32) → (List UInt8) → Tree (List UInt8)
 | 0 => fun  x0 x1 x2 x3 => .fail
 | k + 1 => fun x0 x1 x2 x3 =>
  .ite (decide (x1 < (16 : Int)))
  (.get (getI x0 x1) fun y4 =>
  .get (ite (And ((0 : Int) ≤ (w64 ((4 : Int) * x1))) (And ((w64 ((4 : Int) * x1)) ≤ (64 : Int)) ((64 : Int) ≤ (64 : Int)))) (Option.some Unit.unit) Option.none) fun y5 =>
  .get (inI 16 x1) fun y6 =>
  .get (gt x2 y6) fun y7 =>
  .get (Tree.run (F_word_Store n (y4 + y7))) fun y8 =>
  .sub (F_cipher_grid_block_l4 n k x0 (w64 (x1 + (1 : Int))) x2 (cpy x3 (Int.toNat (w64 ((4 : Int) * x1))) (64 - (Int.toNat (w64 ((4 : Int) * x1)))) (List.take (List.length y8) (List.drop 0 y8)))) fun y9 =>
  .ret y9)
  (.ret x3)
def S_cipher_grid_block_l4 (n k : Nat) : CutF := mkS ⟨[(.ptr 0 0), (.ptr 2 0), (.val (.arr 16 .u32) []), (.val (.sint .i64) (0 : Int))], [⟨0, 1, .box (.val (.arr 16 .u32) [])⟩, ⟨2, 3, .box (.val (.arr 64 .u8) [])⟩], 4⟩ [.d (.arr 16 .u32), .d (.sint .i64), .d (.arr 16 .u32), .d (.arr 64 .u8)] fun v => .sub (F_cipher_grid_block_l4 n k (p0 v) (p1 v) (p2 v) (p3 v)) fun r => .ret (.ex 4, [], [⟨0, 5, .box (.val (.arr 16 .u32) (p2 v))⟩, ⟨2, 7, .box (.val (.arr 64 .u8) r)⟩], 8)
theorem rd_cipher_grid_block_l4 (n k : Nat) : Rounds Tryd.prog (Go.Func.ntmps Tryd.f188) (bodyOf Tryd.f188 4) C_188_4 [S_cipher_grid_block_l4 n k] (S_cipher_grid_block_l4 n (k + 1)) :=
  rounds_go (tab := mkTab [(97, ⟨S_word_Store n, [], [], false⟩)]) (cuts := mkCuts []) (S_cipher_grid_block_l4 n k) [] (.cons (ok_word_Store n) ⟨_, Tryd.func97, by kernel_rfl⟩ .nil) (.none0 (by kernel_rfl)) rfl (fun v => by kernel_rfl)
theorem ok_cipher_grid_block_l4 (n k : Nat) : SoundC Tryd.prog (Go.Func.ntmps Tryd.f188) (.loop (bodyOf Tryd.f188 4)) (wr (bodyOf Tryd.f188 4)) (C_188_4 (S_cipher_grid_block_l4 n k)) :=
  loop_go (K := fun k => [S_cipher_grid_block_l4 n k]) (fun _ => rfl) (by kernel_rfl) ⟨z_go fun _ => by kernel_rfl, trivial⟩ (fun k => ⟨rd_cipher_grid_block_l4 n k, trivial⟩) k rfl
def F_cipher_grid_block_l100000 (n : Nat) : Nat → (Int) → (List UInt32) → (List UInt8) → (List UInt32) → Tree ((List UInt8) × (List UInt32))
 | 0 => fun  x0 x1 x2 x3 => .fail
 | k + 1 => fun x0 x1 x2 x3 =>
  .sub (F_cipher_grid_block_l0 n n (0 : Int) x3) fun y4 =>
  .sub (F_cipher_grid_block_l2 n n (0 : Int) y4) fun y5 =>
  .ite (decide ((0 : Int) < (w64 (x0 - (1 : Int)))))
  (.sub (F_cipher_grid_block_l100000 n k (w64 (x0 - (1 : Int))) x1 x2 y5) fun y6 =>
  .ret (y6.1, y6.2))
  (.sub (F_cipher_grid_block_l4 n n y5 (0 : Int) x1 (zs 64)) fun y7 =>
  .ret (y7, y5))
def S_cipher_grid_block_l100000 (n k : Nat) : CutF := mkS ⟨[(.ptr 0 0), (.ptr 2 0), (.ptr 4 0), (.val (.sint .i64) (0 : Int))], [⟨0, 1, .box (.val (.arr 16 .u32) [])⟩, ⟨2, 3, .box (.val (.arr 64 .u8) [])⟩, ⟨4, 5, .box (.val (.arr 16 .u32) [])⟩], 6⟩ [.d (.sint .i64), .d (.arr 16 .u32), .d (.arr 64 .u8), .d (.arr 16 .u32)] fun v => .sub (F_cipher_grid_block_l100000 n k (p0 v) (p1 v) (p2 v) (p3 v)) fun r => .ret (.rt, [], [⟨0, 7, .box (.val (.arr 16 .u32) (p1 v))⟩, ⟨2, 9, .box (.val (.arr 64 .u8) r.1)⟩, ⟨4, 11, .box (.val (.arr 16 .u32) r.2)⟩], 12)
theorem rd_cipher_grid_block_l100000 (n k : Nat) : RoundsJ Tryd.prog (Go.Func.ntmps Tryd.f188) 0 (restOf Tryd.f188 0) C_188_100000 [S_cipher_grid_block_l100000 n k] (S_cipher_grid_block_l100000 n (k + 1)) :=
  roundsJ_go (tab := mkTab []) (cuts := mkCuts [(0, C_188_0 (S_cipher_grid_block_l0 n n)), (2, C_188_2 (S_cipher_grid_block_l2 n n)), (4, C_188_4 (S_cipher_grid_block_l4 n n))]) (S_cipher_grid_block_l100000 n k) [] .nil (CutsOK.list (l := [(0, .lp (bodyOf Tryd.f188 0)), (2, .lp (bodyOf Tryd.f188 2)), (4, .lp (bodyOf Tryd.f188 4))]) (by kernel_rfl) (LoopsOK.all ⟨.inr ⟨_, rfl, ok_cipher_grid_block_l0 n n⟩, ⟨.inr ⟨_, rfl, ok_cipher_grid_block_l2 n n⟩, ⟨.inr ⟨_, rfl, ok_cipher_grid_block_l4 n n⟩, trivial⟩⟩⟩)) rfl (fun v => by kernel_rfl)
theorem ok_cipher_grid_block_l100000 (n k : Nat) : SoundX (JX Tryd.prog (Go.Func.ntmps Tryd.f188) 0 (restOf Tryd.f188 0)) (wr (restOf Tryd.f188 0)) (C_188_100000 (S_cipher_grid_block_l100000 n k)) :=
  jump_go (K := fun k => [S_cipher_grid_block_l100000 n k]) (fun _ => rfl) (by kernel_rfl) ⟨z_go fun _ => by kernel_rfl, trivial⟩ (fun k => ⟨rd_cipher_grid_block_l100000 n k, trivial⟩) k rfl
def F_cipher_grid_block (n : Nat) (x0 : List UInt32) : Tree (List UInt8) :=
  .sub (F_cipher_grid_block_l0 n n (0 : Int) x0) fun y1 =>
  .sub (F_cipher_grid_block_l2 n n (0 : Int) y1) fun y2 =>
  .ite true
  (.sub (F_cipher_grid_block_l100000 n n (9 : Int) x0 (zs 64) y2) fun y3 =>
  .ret y3.1)
  (.sub (F_cipher_grid_block_l4 n n y2 (0 : Int) x0 (zs 64)) fun y4 =>
  .ret y4)
def S_cipher_grid_block (n : Nat) : Summ := mkS ⟨[(.val (.arr 16 .u32) [])], [], 0⟩ [.d (.arr 16 .u32)] fun v => .sub (F_cipher_grid_block n (p0 v)) fun r => .ret ((.val (.arr 64 .u8) r), [], 0)
theorem ok_cipher_grid_block (n : Nat) : SoundF Tryd.prog 188 (S_cipher_grid_block n) :=
  fn_go false true (c := codeOf Tryd.f188) (tab := mkTab []) (cuts := mkCuts [(0, C_188_0 (S_cipher_grid_block_l0 n n)), (2, C_188_2 (S_cipher_grid_block_l2 n n)), (100000, C_188_100000 (S_cipher_grid_block_l100000 n n)), (4, C_188_4 (S_cipher_grid_block_l4 n n))]) Tryd.func188 (by kernel_rfl) .nil (CutsOK.list (l := [(0, .lp (bodyOf Tryd.f188 0)), (2, .lp (bodyOf Tryd.f188 2)), (4, .lp (bodyOf Tryd.f188 4)), (100000, .jp 0 (restOf Tryd.f188 0))]) (by kernel_rfl) (LoopsOK.all ⟨.inr ⟨_, rfl, ok_cipher_grid_block_l0 n n⟩, ⟨.inr ⟨_, rfl, ok_cipher_grid_block_l2 n n⟩, ⟨.inr ⟨_, rfl, ok_cipher_grid_block_l4 n n⟩, ⟨.inr ⟨_, rfl, ok_cipher_grid_block_l100000 n n⟩, trivial⟩⟩⟩⟩)) (fun v => by kernel_rfl)
end Hyp
