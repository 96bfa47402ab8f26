/- Printed by Gen.lean.tpl (this work's own): Go functions as pure functions, each with the proof that the Go code comes to its answers. -/
import Derived.Test.YtcojhmllnhkbnaaDoorZD
import Derived.Test.YtcojhmllnhkbnaaDoorCB
import Derived.Test.YtcojhmllnhkbnaaDoorPA
import Derived.Test.YtcojhmllnhkbnaaDoorChecked
set_option linter.unusedVariables false
set_option maxRecDepth 100000
set_option maxHeartbeats 4000000
namespace Hyp
open Go Go.Proofs
abbrev B1 : Ty := .list (.rcd (.pair (.sint .i64) (.list .u8)))
abbrev B2 : Ty := .rcd (.pair (.sint .i64) (.list .u8))
abbrev B3 : Ty := .rcd (.pair (.sint .i64) (.pair (.arr 32 .u8) (.list .u8)))
abbrev B4 : Ty := .rcd (.pair (.sint .i64) (.pair (.arr 32 .u8) (.pair (.sint .i64) (.sint .i64))))
abbrev B5 : Ty := .list (.rcd (.pair (.sint .i64) (.pair (.arr 32 .u8) (.list .u8))))
abbrev B6 : Ty := .list (.rcd (.pair (.sint .i64) (.pair (.arr 32 .u8) (.pair (.sint .i64) (.sint .i64)))))
def F_label_New (n : Nat) : Tree Unit :=
  .ret ()
def S_label_New (n : Nat) : Summ := mkS ⟨[], [], 0⟩ [] fun v => .sub (F_label_New n) fun r => .ret ((.ptr 0 0), [⟨0, 1, .box (.agg (.pr (.mpv 2) .un))⟩, ⟨2, 3, .mp (.sint .i64) (.list .u8) ([] : List (Int × (List UInt8)))⟩], 4)
theorem ok_label_New (n : Nat) : SoundF Tryd.prog 58 (S_label_New n) :=
  fn_go false true (c := codeOf Tryd.f58) (tab := mkTab []) (cuts := mkCuts []) Tryd.func58 (by kernel_rfl) .nil (.none0 (by kernel_rfl)) (fun v => by kernel_rfl)
def F_slices_Clone___byte_byte__raw (n : Nat) (x0 : Nat) (x1 : Nat) (x2 : List UInt8) : Tree (List UInt8) :=
  .ite (decide ((Nat.cast x1 : Int) = (0 : Int)))
  (.all (fun (p3 : Bool) => True) fun y4 =>
  .ite y4
  (.ret ([] : List UInt8))
  (.get (appI 140737488355328 ([] : List UInt8) (List.take x1 (List.drop x0 x2))) fun y5 =>
  .ret y5))
  (.get (appI 140737488355328 ([] : List UInt8) (List.take x1 (List.drop x0 x2))) fun y6 =>
  .ret y6)
def S_slices_Clone___byte_byte__raw (n : Nat) : Summ := mkS ⟨[(.bwin 0 0 .u8 32 0 0)], [⟨0, 1, .box (.val (.arr 32 .u8) [])⟩], 2⟩ [.n, .n, .d (.arr 32 .u8)] fun v => .sub (F_slices_Clone___byte_byte__raw n (p0 v) (p1 v) (p2 v)) fun r => .ret ((.whole 2 1), [⟨2, 3, .row .u8 r⟩, ⟨0, 5, .box (.val (.arr 32 .u8) (p2 v))⟩], 6)
theorem ok_slices_Clone___byte_byte__raw (n : Nat) : SoundF Tryd.prog 102 (S_slices_Clone___byte_byte__raw n) :=
  fn_go false true (c := codeOf Tryd.f102) (tab := mkTab []) (cuts := mkCuts []) Tryd.func102 (by kernel_rfl) .nil (.none0 (by kernel_rfl)) (fun v => by kernel_rfl)
def F_slices_Clone___byte_byte_ (n : Nat) (x0 : Nat) (x1 : Nat) (x2 : List UInt8) : Tree (List UInt8) :=
  .get (appI 140737488355328 ([] : List UInt8) (List.take x1 (List.drop x0 x2))) fun z =>
  .ret z
def S_slices_Clone___byte_byte_ (n : Nat) : Summ := mkS ⟨[(.bwin 0 0 .u8 32 0 0)], [⟨0, 1, .box (.val (.arr 32 .u8) [])⟩], 2⟩ [.n, .n, .d (.arr 32 .u8)] fun v => .sub (F_slices_Clone___byte_byte_ n (p0 v) (p1 v) (p2 v)) fun r => .ret ((.whole 2 1), [⟨2, 3, .row .u8 r⟩, ⟨0, 5, .box (.val (.arr 32 .u8) (p2 v))⟩], 6)
theorem ok_slices_Clone___byte_byte_ (n : Nat) : SoundF Tryd.prog 102 (S_slices_Clone___byte_byte_ n) := S_weak (ok_slices_Clone___byte_byte__raw n) fun v Q h => by first | exact clone_det h | exact clone_win h
def F_label_Ring_Put (n : Nat) (x0 : Int) (x1 : Nat) (x2 : Nat) (x3 : List (Int × List UInt8)) (x4 : List UInt8) : Tree (Int ⊕ (List (Int × List UInt8))) :=
  .ite ((decide (x0 < (1 : Int))) || ((decide ((64 : Int) < x0)) || (!(decide ((Nat.cast x2 : Int) = (32 : Int))))))
  (.ret (.inl (1 : Int)))
  (.ite (Option.isSome (mget (.sint .i64) (.list .u8) x3 x0))
  (.ret (.inl (19 : Int)))
  (.get (Tree.run (F_slices_Clone___byte_byte_ n x1 x2 x4)) fun y5 =>
  .ret (.inr (mput (.sint .i64) (.list .u8) x3 x0 y5))))
def S_label_Ring_Put (n : Nat) : Summ := mkS ⟨[(.ptr 0 0), (.val (.sint .i64) (0 : Int)), (.bwin 4 0 .u8 32 0 0)], [⟨0, 1, .box (.agg (.pr (.mpv 2) .un))⟩, ⟨2, 3, .mp (.sint .i64) (.list .u8) []⟩, ⟨4, 5, .box (.val (.arr 32 .u8) [])⟩], 6⟩ [.d (.sint .i64), .n, .n, .d B1, .d (.arr 32 .u8)] fun v => .sub (F_label_Ring_Put n (p0 v) (p1 v) (p2 v) (p3 v) (p4 v)) fun r => .alt r (fun r => .ret ((.val (.sint .i64) r), [⟨0, 7, .box (.agg (.pr (.mpv 2) .un))⟩, ⟨2, 3, .mp (.sint .i64) (.list .u8) (p3 v)⟩, ⟨4, 11, .box (.val (.arr 32 .u8) (p4 v))⟩], 12)) (fun r => .ret ((.val (.sint .i64) (0 : Int)), [⟨0, 7, .box (.agg (.pr (.mpv 2) .un))⟩, ⟨2, 9, .mp (.sint .i64) (.list .u8) r⟩, ⟨4, 11, .box (.val (.arr 32 .u8) (p4 v))⟩], 12))
theorem ok_label_Ring_Put (n : Nat) : SoundF Tryd.prog 59 (S_label_Ring_Put n) :=
  fn_go false true (c := codeOf Tryd.f59) (tab := mkTab [(102, ⟨S_slices_Clone___byte_byte_ n, [], [], false⟩)]) (cuts := mkCuts []) Tryd.func59 (by kernel_rfl) (.cons (ok_slices_Clone___byte_byte_ n) ⟨_, Tryd.func102, by kernel_rfl⟩ .nil) (.none0 (by kernel_rfl)) (fun v => by kernel_rfl)
def C_103_0 : CutF → Cut := fun κ => ⟨[1, 2, 6], fun e => match e with | .ex i => bif Nat.beq i 0 then [] else [] | .rt => [4, 5] | .nm => [] | .go i => [], κ⟩
def F_r09_Ring_find_l0 (n : Nat) : Nat → (Int) → (Int) → (Bool) → (List (Int × List UInt8)) → Tree ((List UInt8) ⊕ Unit)
 | 0 => fun  x0 x1 x2 x3 => .fail
 | k + 1 => fun x0 x1 x2 x3 =>
  .ite (decide (x1 < (ln x3)))
  (.get (getI x3 x1) fun y4 =>
  .ite (decide (y4.1 = x0))
  (.get (getI x3 x1) fun y5 =>
  .ret (.inl y5.2))
  (.sub (F_r09_Ring_find_l0 n k x0 (w64 (x1 + (1 : Int))) x2 x3) fun y6 =>
  .alt y6 (fun y7 =>
  .ret (.inl y7))
  fun y8 =>
  .ret (.inr ())))
  (.ret (.inr ()))
def S_r09_Ring_find_l0 (n k : Nat) : CutF := mkS ⟨[(.val (.sint .i64) (0 : Int)), (.ptr 0 0), (.val (.sint .i64) (0 : Int))], [⟨0, 1, .box (.agg (.pr (.ro false B2 []) .un))⟩], 2⟩ [.d (.sint .i64), .d (.sint .i64), .c, .d B1] fun v => .sub (F_r09_Ring_find_l0 n k (p0 v) (p1 v) (p2 v) (p3 v)) fun r => .alt r (fun r => .ret (.rt, [(.ro false .u8 r), (.val .bool true)], [⟨0, 3, .box (.agg (.pr (.ro (p2 v) B2 (p3 v)) .un))⟩], 4)) (fun r => .ret (.ex 0, [], [⟨0, 3, .box (.agg (.pr (.ro (p2 v) B2 (p3 v)) .un))⟩], 4))
theorem rd_r09_Ring_find_l0 (n k : Nat) : Rounds Tryd.prog (Go.Func.ntmps Tryd.f103) (bodyOf Tryd.f103 0) C_103_0 [S_r09_Ring_find_l0 n k] (S_r09_Ring_find_l0 n (k + 1)) :=
  rounds_go (tab := mkTab []) (cuts := mkCuts []) (S_r09_Ring_find_l0 n k) [] .nil (.none0 (by kernel_rfl)) rfl (fun v => by kernel_rfl)
theorem ok_r09_Ring_find_l0 (n k : Nat) : SoundC Tryd.prog (Go.Func.ntmps Tryd.f103) (.loop (bodyOf Tryd.f103 0)) (wr (bodyOf Tryd.f103 0)) (C_103_0 (S_r09_Ring_find_l0 n k)) :=
  loop_go (K := fun k => [S_r09_Ring_find_l0 n k]) (fun _ => rfl) (by kernel_rfl) ⟨z_go fun _ => by kernel_rfl, trivial⟩ (fun k => ⟨rd_r09_Ring_find_l0 n k, trivial⟩) k rfl
def F_r09_Ring_find (n : Nat) (x0 : Bool) (x1 : List (Int × List UInt8)) (x2 : Int) : Tree ((List UInt8) × Bool) :=
  .sub (F_r09_Ring_find_l0 n n x2 (0 : Int) x0 x1) fun y3 =>
  .alt y3 (fun y4 =>
  .ret (y4, true))
  fun y5 =>
  .ret (([] : List UInt8), false)
def S_r09_Ring_find (n : Nat) : Summ := mkS ⟨[(.agg (.pr (.ro false B2 []) .un)), (.val (.sint .i64) (0 : Int))], [], 0⟩ [.c, .d B1, .d (.sint .i64)] fun v => .sub (F_r09_Ring_find n (p0 v) (p1 v) (p2 v)) fun r => .ret ((.tup (.pr (.ro false .u8 r.1) (.pr (.val .bool r.2) .un))), [], 0)
theorem ok_r09_Ring_find (n : Nat) : SoundF Tryd.prog 103 (S_r09_Ring_find n) :=
  fn_go true true (c := codeOf Tryd.f103) (tab := mkTab []) (cuts := mkCuts [(0, C_103_0 (S_r09_Ring_find_l0 n n))]) Tryd.func103 (by kernel_rfl) .nil (CutsOK.list (l := [(0, .lp (bodyOf Tryd.f103 0))]) (by kernel_rfl) (LoopsOK.all ⟨.inr ⟨_, rfl, ok_r09_Ring_find_l0 n n⟩, trivial⟩)) (fun v => by kernel_rfl)
def F_r09_Ring_Put (n : Nat) (x0 : Bool) (x1 : List (Int × List UInt8)) (x2 : Int) (x3 : List UInt8) : Tree ((Bool) × ((List (Int × List UInt8)) × Int)) :=
  .ite ((decide (x2 < (1 : Int))) || ((decide ((64 : Int) < x2)) || (!(decide ((ln x3) = (32 : Int))))))
  (.ret (x0, x1, (1 : Int)))
  (.sub (F_r09_Ring_find n x0 x1 x2) fun y4 =>
  .ite y4.2
  (.ret (x0, x1, (19 : Int)))
  (.get (appI 4398046511104 ([] : List (Int × (List UInt8))) x1) fun y5 =>
  .get (appI 4398046511104 y5 (List.set ([((0 : Int), ([] : List UInt8))] : List (Int × (List UInt8))) 0 (x2, x3))) fun y6 =>
  .ret (false, y6, (0 : Int))))
def S_r09_Ring_Put (n : Nat) : Summ := mkS ⟨[(.agg (.pr (.ro false B2 []) .un)), (.val (.sint .i64) (0 : Int)), (.ro false .u8 [])], [], 0⟩ [.c, .d B1, .d (.sint .i64), .c, .d (.list .u8)] fun v => .sub (F_r09_Ring_Put n (p0 v) (p1 v) (p2 v) (p4 v)) fun r => .ret ((.tup (.pr (.agg (.pr (.ro r.1 B2 r.2.1) .un)) (.pr (.val (.sint .i64) r.2.2) .un))), [], 0)
theorem ok_r09_Ring_Put (n : Nat) : SoundF Tryd.prog 61 (S_r09_Ring_Put n) :=
  fn_go true true (c := codeOf Tryd.f61) (tab := mkTab [(103, ⟨S_r09_Ring_find n, [], [], true⟩)]) (cuts := mkCuts []) Tryd.func61 (by kernel_rfl) (.cons (ok_r09_Ring_find n) ⟨_, Tryd.func103, by kernel_rfl⟩ .nil) (.none0 (by kernel_rfl)) (fun v => by kernel_rfl)
def F_w19_rings (n : Nat) (x0 : List UInt8) : Tree ((Bool) × ((List (Int × List UInt8)) × (List (Int × List UInt8)))) :=
  .sub (F_label_New n) fun y1 =>
  .get (Option.some Unit.unit) fun y2 =>
  .sub (F_label_Ring_Put n (1 : Int) 0 32 ([] : List (Int × (List UInt8))) x0) fun y3 =>
  .alt y3 (fun y4 =>
  .get (Option.some Unit.unit) fun y5 =>
  .sub (F_r09_Ring_Put n false ([] : List (Int × (List UInt8))) (1 : Int) (List.take 32 (List.drop 0 x0))) fun y6 =>
  .ret (y6.1, y6.2.1, ([] : List (Int × (List UInt8)))))
  fun y7 =>
  .get (Option.some Unit.unit) fun y8 =>
  .sub (F_r09_Ring_Put n false ([] : List (Int × (List UInt8))) (1 : Int) (List.take 32 (List.drop 0 x0))) fun y9 =>
  .ret (y9.1, y9.2.1, y7)
def S_w19_rings (n : Nat) : Summ := mkS ⟨[(.val (.arr 32 .u8) [])], [], 0⟩ [.d (.arr 32 .u8)] fun v => .sub (F_w19_rings n (p0 v)) fun r => .ret ((.tup (.pr (.ptr 0 0) (.pr (.agg (.pr (.ro r.1 B2 r.2.1) .un)) .un))), [⟨0, 1, .box (.agg (.pr (.mpv 2) .un))⟩, ⟨2, 3, .mp (.sint .i64) (.list .u8) r.2.2⟩], 4)
theorem ok_w19_rings (n : Nat) : SoundF Tryd.prog 50 (S_w19_rings n) :=
  fn_go true true (c := codeOf Tryd.f50) (tab := mkTab [(58, ⟨S_label_New n, [], [], false⟩), (59, ⟨S_label_Ring_Put n, [], [], false⟩), (61, ⟨S_r09_Ring_Put n, [], [], true⟩)]) (cuts := mkCuts []) Tryd.func50 (by kernel_rfl) (.cons (ok_label_New n) ⟨_, Tryd.func58, by kernel_rfl⟩ (.cons (ok_label_Ring_Put n) ⟨_, Tryd.func59, by kernel_rfl⟩ (.cons (ok_r09_Ring_Put n) ⟨_, Tryd.func61, by kernel_rfl⟩ .nil))) (.none0 (by kernel_rfl)) (fun v => by kernel_rfl)
def C_51_0 : CutF → Cut := fun κ => ⟨[11, 21, 22, 23], fun e => match e with | .ex i => bif Nat.beq i 0 then [11] else [] | .rt => [] | .nm => [] | .go i => [], κ⟩
def F_pack_Build_l0 (n : Nat) : Nat → (Bool) → (List (Int × List UInt8 × List UInt8)) → (Int) → (Int) → (List (Int × List UInt8 × Int × Int)) → Tree (Unit ⊕ (List (Int × List UInt8 × Int × Int)))
 | 0 => fun  x0 x1 x2 x3 x4 => .fail
 | k + 1 => fun x0 x1 x2 x3 x4 =>
  .ite (decide (x3 < x2))
  (.get (getI x1 x3) fun y5 =>
  .get (appI 2513169434916 x4 (List.set ([((0 : Int), ((zs 32), ((0 : Int), (0 : Int))))] : List (Int × ((List UInt8) × (Int × Int)))) 0 (y5.1, (y5.2.1, ((0 : Int), (ln y5.2.2)))))) fun y6 =>
  .sub (F_pack_Build_l0 n k x0 x1 x2 (w64 (x3 + (1 : Int))) y6) fun y7 =>
  .alt y7 (fun y8 =>
  .ret (.inr y6))
  fun y9 =>
  .ret (.inr y9))
  (.ret (.inl ()))
def S_pack_Build_l0 (n k : Nat) : CutF := mkS ⟨[(.whole 0 35), (.ro false B3 []), (.val (.sint .i64) (0 : Int)), (.val (.sint .i64) (0 : Int))], [⟨0, 1, .row B4 []⟩], 2⟩ [.c, .d B5, .d (.sint .i64), .d (.sint .i64), .d B6] fun v => .sub (F_pack_Build_l0 n k (p0 v) (p1 v) (p2 v) (p3 v) (p4 v)) fun r => .alt r (fun r => .ret (.ex 0, [(.whole 0 35)], [⟨0, 3, .row B4 (p4 v)⟩], 4)) (fun r => .ret (.ex 0, [(.whole 2 35)], [⟨2, 3, .row B4 r⟩], 4))
theorem rd_pack_Build_l0 (n k : Nat) : Rounds Tryd.prog (Go.Func.ntmps Tryd.f51) (bodyOf Tryd.f51 0) C_51_0 [S_pack_Build_l0 n k] (S_pack_Build_l0 n (k + 1)) :=
  rounds_go (tab := mkTab []) (cuts := mkCuts []) (S_pack_Build_l0 n k) [] .nil (.none0 (by kernel_rfl)) rfl (fun v => by kernel_rfl)
theorem ok_pack_Build_l0 (n k : Nat) : SoundC Tryd.prog (Go.Func.ntmps Tryd.f51) (.loop (bodyOf Tryd.f51 0)) (wr (bodyOf Tryd.f51 0)) (C_51_0 (S_pack_Build_l0 n k)) :=
  loop_go (K := fun k => [S_pack_Build_l0 n k]) (fun _ => rfl) (by kernel_rfl) ⟨z_go fun _ => by kernel_rfl, trivial⟩ (fun k => ⟨rd_pack_Build_l0 n k, trivial⟩) k rfl
def C_72_0 : CutF → Cut := fun κ => ⟨[0, 5, 17, 18, 19], fun e => match e with | .ex i => bif Nat.beq i 0 then [5] else [] | .rt => [2, 3, 4] | .nm => [] | .go i => [], κ⟩
def F_blob_Size (n : Nat) (x0 : Int) : Tree Int :=
  .sub (F_box_Size n x0) fun y1 =>
  .ret (w64 ((12 : Int) + y1))
def S_blob_Size (n : Nat) : Summ := mkS ⟨[(.val (.sint .i64) (0 : Int))], [], 0⟩ [.d (.sint .i64)] fun v => .sub (F_blob_Size n (p0 v)) fun r => .ret ((.val (.sint .i64) r), [], 0)
theorem ok_blob_Size (n : Nat) : SoundF Tryd.prog 30 (S_blob_Size n) :=
  fn_go false true (c := codeOf Tryd.f30) (tab := mkTab [(81, ⟨S_box_Size n, [], [], false⟩)]) (cuts := mkCuts []) Tryd.func30 (by kernel_rfl) (.cons (ok_box_Size n) ⟨_, Tryd.func81, by kernel_rfl⟩ .nil) (.none0 (by kernel_rfl)) (fun v => by kernel_rfl)
def F_pack_laid_l0 (n : Nat) : Nat → (Int) → (Int) → (Int) → (List (Int × List UInt8 × Int × Int)) → Tree ((List (Int × List UInt8 × Int × Int)) ⊕ ((Int) × (List (Int × List UInt8 × Int × Int))))
 | 0 => fun  x0 x1 x2 x3 => .fail
 | k + 1 => fun x0 x1 x2 x3 =>
  .ite (decide (x2 < x1))
  (.get (inI (List.length x3) x2) fun y4 =>
  .get (gt x3 (0 + y4)) fun y5 =>
  .ite (decide (y5.1 < (1 : Int)))
  (.ret (.inl x3))
  (.ite (decide ((3 : Int) < y5.1))
  (.ret (.inl x3))
  (.get (Tree.run (F_blob_Size n (0 : Int))) fun y6 =>
  .ite (decide (y5.2.2.2 < y6))
  (.ret (.inl x3))
  (.ite (decide ((65536 : Int) < y5.2.2.2))
  (.sub (F_pack_laid_l0 n k (65537 : Int) x1 (w64 (x2 + (1 : Int))) x3) fun y7 =>
  .alt y7 (fun y8 =>
  .ret (.inl y8))
  fun y9 =>
  .ret (.inr (y9.1, y9.2)))
  (.get (inI (List.length x3) x2) fun y10 =>
  .get (gt x3 (0 + y10)) fun y11 =>
  .sub (F_pack_laid_l0 n k (minI (w64 (x0 + y5.2.2.2)) (65537 : Int)) x1 (w64 (x2 + (1 : Int))) (List.set x3 (0 + y10) (y11.1, (y11.2.1, (x0, y11.2.2.2))))) fun y12 =>
  .alt y12 (fun y13 =>
  .ret (.inl y13))
  fun y14 =>
  .ret (.inr (y14.1, y14.2)))))))
  (.ret (.inr (x0, x3)))
def S_pack_laid_l0 (n k : Nat) : CutF := mkS ⟨[(.whole 0 35), (.val (.sint .i64) (0 : Int)), (.whole 0 35), (.val (.sint .i64) (0 : Int)), (.val (.sint .i64) (0 : Int))], [⟨0, 1, .row B4 []⟩], 2⟩ [.d (.sint .i64), .d (.sint .i64), .d (.sint .i64), .d B6] fun v => .sub (F_pack_laid_l0 n k (p0 v) (p1 v) (p2 v) (p3 v)) fun r => .alt r (fun r => .ret (.rt, [(.val (.sint .i64) (0 : Int)), (.val (.sint .i64) (0 : Int)), (.val (.sint .i64) (1 : Int))], [⟨0, 3, .row B4 r⟩], 4)) (fun r => .ret (.ex 0, [(.val (.sint .i64) r.1)], [⟨0, 3, .row B4 r.2⟩], 4))
theorem rd_pack_laid_l0 (n k : Nat) : Rounds Tryd.prog (Go.Func.ntmps Tryd.f72) (bodyOf Tryd.f72 0) C_72_0 [S_pack_laid_l0 n k] (S_pack_laid_l0 n (k + 1)) :=
  rounds_go (tab := mkTab [(30, ⟨S_blob_Size n, [], [], false⟩)]) (cuts := mkCuts []) (S_pack_laid_l0 n k) [] (.cons (ok_blob_Size n) ⟨_, Tryd.func30, by kernel_rfl⟩ .nil) (.none0 (by kernel_rfl)) rfl (fun v => by kernel_rfl)
theorem ok_pack_laid_l0 (n k : Nat) : SoundC Tryd.prog (Go.Func.ntmps Tryd.f72) (.loop (bodyOf Tryd.f72 0)) (wr (bodyOf Tryd.f72 0)) (C_72_0 (S_pack_laid_l0 n k)) :=
  loop_go (K := fun k => [S_pack_laid_l0 n k]) (fun _ => rfl) (by kernel_rfl) ⟨z_go fun _ => by kernel_rfl, trivial⟩ (fun k => ⟨rd_pack_laid_l0 n k, trivial⟩) k rfl
def C_111_100000 : CutF → Cut := fun κ => ⟨[0, 1, 5, 6], fun e => match e with | .ex i => [] | .rt => [4] | .nm => [4] | .go i => [], κ⟩
def C_111_0 : CutF → Cut := fun κ => ⟨[5, 7, 8], fun e => match e with | .ex i => bif Nat.beq i 0 then [7] else [] | .rt => [] | .nm => [] | .go i => bif Nat.beq i 0 then [] else [], κ⟩
def F_codec_Number_l0 (n : Nat) : Nat → (Int) → (List UInt8) → (List UInt8) → Tree (Unit ⊕ (List UInt8))
 | 0 => fun  x0 x1 x2 => .fail
 | k + 1 => fun x0 x1 x2 =>
  .ite (decide ((0 : Int) ≤ x0))
  (.get (inI 8 x0) fun y3 =>
  .get (gt x1 y3) fun y4 =>
  .get (appI 140737488355328 x2 (List.set ([0] : List UInt8) 0 y4)) fun y5 =>
  .sub (F_codec_Number_l0 n k (w64 (x0 - (1 : Int))) x1 y5) fun y6 =>
  .alt y6 (fun y7 =>
  .ret (.inr y5))
  fun y8 =>
  .ret (.inr y8))
  (.ret (.inl ()))
def S_codec_Number_l0 (n k : Nat) : CutF := mkS ⟨[(.ptr 0 0), (.whole 2 1), (.val (.sint .i64) (0 : Int))], [⟨0, 1, .box (.val (.arr 8 .u8) [])⟩, ⟨2, 3, .row .u8 []⟩], 4⟩ [.d (.sint .i64), .d (.arr 8 .u8), .d (.list .u8)] fun v => .sub (F_codec_Number_l0 n k (p0 v) (p1 v) (p2 v)) fun r => .alt r (fun r => .ret (.ex 0, [(.whole 2 1)], [⟨2, 5, .row .u8 (p2 v)⟩, ⟨0, 7, .box (.val (.arr 8 .u8) (p1 v))⟩], 8)) (fun r => .ret (.ex 0, [(.whole 4 1)], [⟨4, 5, .row .u8 r⟩, ⟨0, 7, .box (.val (.arr 8 .u8) (p1 v))⟩], 8))
theorem rd_codec_Number_l0 (n k : Nat) : Rounds Tryd.prog (Go.Func.ntmps Tryd.f111) (bodyOf Tryd.f111 0) C_111_0 [S_codec_Number_l0 n k] (S_codec_Number_l0 n (k + 1)) :=
  rounds_go (tab := mkTab []) (cuts := mkCuts []) (S_codec_Number_l0 n k) [] .nil (.none0 (by kernel_rfl)) rfl (fun v => by kernel_rfl)
theorem ok_codec_Number_l0 (n k : Nat) : SoundC Tryd.prog (Go.Func.ntmps Tryd.f111) (.loop (bodyOf Tryd.f111 0)) (wr (bodyOf Tryd.f111 0)) (C_111_0 (S_codec_Number_l0 n k)) :=
  loop_go (K := fun k => [S_codec_Number_l0 n k]) (fun _ => rfl) (by kernel_rfl) ⟨z_go fun _ => by kernel_rfl, trivial⟩ (fun k => ⟨rd_codec_Number_l0 n k, trivial⟩) k rfl
def F_codec_Number_l100000 (n : Nat) : Nat → (Int) → (Int) → (List UInt8) → (List UInt8) → Tree ((List UInt8) × (List UInt8))
 | 0 => fun  x0 x1 x2 x3 => .fail
 | k + 1 => fun x0 x1 x2 x3 =>
  .ite (decide ((0 : Int) < x0))
  (.get (inI 8 x1) fun y4 =>
  .get (gt x3 y4) fun y5 =>
  .sub (F_codec_Number_l100000 n k (shrI .i64 x0 8) (w64 (x1 + (1 : Int))) x2 (List.set x3 y4 (int8 x0))) fun y6 =>
  .ret (y6.1, y6.2))
  (.get (appI 140737488355328 ([] : List UInt8) x2) fun y7 =>
  .get (appI 140737488355328 y7 (List.set ([0] : List UInt8) 0 (int8 x1))) fun y8 =>
  .sub (F_codec_Number_l0 n n (w64 (x1 - (1 : Int))) x3 y8) fun y9 =>
  .alt y9 (fun y10 =>
  .ret (y8, x3))
  fun y11 =>
  .ret (y11, x3))
def S_codec_Number_l100000 (n k : Nat) : CutF := mkS ⟨[(.whole 0 1), (.val (.sint .i64) (0 : Int)), (.ptr 2 0), (.val (.sint .i64) (0 : Int))], [⟨0, 1, .row .u8 []⟩, ⟨2, 3, .box (.val (.arr 8 .u8) [])⟩], 4⟩ [.d (.sint .i64), .d (.sint .i64), .d (.list .u8), .d (.arr 8 .u8)] fun v => .sub (F_codec_Number_l100000 n k (p0 v) (p1 v) (p2 v) (p3 v)) fun r => .ret (.rt, [(.whole 4 1)], [⟨4, 5, .row .u8 r.1⟩, ⟨2, 7, .box (.val (.arr 8 .u8) r.2)⟩, ⟨0, 9, .row .u8 (p2 v)⟩], 10)
theorem rd_codec_Number_l100000 (n k : Nat) : RoundsJ Tryd.prog (Go.Func.ntmps Tryd.f111) 0 (restOf Tryd.f111 0) C_111_100000 [S_codec_Number_l100000 n k] (S_codec_Number_l100000 n (k + 1)) :=
  roundsJ_go (tab := mkTab []) (cuts := mkCuts [(0, C_111_0 (S_codec_Number_l0 n n))]) (S_codec_Number_l100000 n k) [] .nil (CutsOK.list (l := [(0, .lp (bodyOf Tryd.f111 0))]) (by kernel_rfl) (LoopsOK.all ⟨.inr ⟨_, rfl, ok_codec_Number_l0 n n⟩, trivial⟩)) rfl (fun v => by kernel_rfl)
theorem ok_codec_Number_l100000 (n k : Nat) : SoundX (JX Tryd.prog (Go.Func.ntmps Tryd.f111) 0 (restOf Tryd.f111 0)) (wr (restOf Tryd.f111 0)) (C_111_100000 (S_codec_Number_l100000 n k)) :=
  jump_go (K := fun k => [S_codec_Number_l100000 n k]) (fun _ => rfl) (by kernel_rfl) ⟨z_go fun _ => by kernel_rfl, trivial⟩ (fun k => ⟨rd_codec_Number_l100000 n k, trivial⟩) k rfl
def F_codec_Number (n : Nat) (x0 : Int) : Tree (List UInt8) :=
  .ite (decide ((0 : Int) < (minI (maxI x0 (0 : Int)) (9007199254740992 : Int))))
  (.get (inI 8 (0 : Int)) fun y1 =>
  .get (gt (zs 8) y1) fun y2 =>
  .sub (F_codec_Number_l100000 n n (shrI .i64 (minI (maxI x0 (0 : Int)) (9007199254740992 : Int)) 8) (1 : Int) ([] : List UInt8) (List.set (zs 8) y1 (int8 (minI (maxI x0 (0 : Int)) (9007199254740992 : Int))))) fun y3 =>
  .ret y3.1)
  (.get (appI 140737488355328 ([] : List UInt8) ([] : List UInt8)) fun y4 =>
  .get (appI 140737488355328 y4 ([0] : List UInt8)) fun y5 =>
  .sub (F_codec_Number_l0 n n (-1 : Int) (zs 8) y5) fun y6 =>
  .alt y6 (fun y7 =>
  .ret y5)
  fun y8 =>
  .ret y8)
def S_codec_Number (n : Nat) : Summ := mkS ⟨[(.snil (some .u8)), (.val (.sint .i64) (0 : Int))], [], 0⟩ [.d (.sint .i64)] fun v => .sub (F_codec_Number n (p0 v)) fun r => .ret ((.whole 0 1), [⟨0, 1, .row .u8 r⟩], 2)
theorem ok_codec_Number (n : Nat) : SoundF Tryd.prog 111 (S_codec_Number n) :=
  fn_go false true (c := codeOf Tryd.f111) (tab := mkTab []) (cuts := mkCuts [(100000, C_111_100000 (S_codec_Number_l100000 n n)), (0, C_111_0 (S_codec_Number_l0 n n))]) Tryd.func111 (by kernel_rfl) .nil (CutsOK.list (l := [(0, .lp (bodyOf Tryd.f111 0)), (100000, .jp 0 (restOf Tryd.f111 0))]) (by kernel_rfl) (LoopsOK.all ⟨.inr ⟨_, rfl, ok_codec_Number_l0 n n⟩, ⟨.inr ⟨_, rfl, ok_codec_Number_l100000 n n⟩, trivial⟩⟩)) (fun v => by kernel_rfl)
def C_96_0 : CutF → Cut := fun κ => ⟨[3, 9, 10, 11], fun e => match e with | .ex i => bif Nat.beq i 0 then [3] else [] | .rt => [] | .nm => [] | .go i => [], κ⟩
def F_codec_Number_1 (n : Nat) (x0 : Int) (x1 : List UInt8) : Tree (List UInt8) :=
  .ite (decide ((0 : Int) < (minI (maxI x0 (0 : Int)) (9007199254740992 : Int))))
  (.get (inI 8 (0 : Int)) fun y2 =>
  .get (gt (zs 8) y2) fun y3 =>
  .sub (F_codec_Number_l100000 n n (shrI .i64 (minI (maxI x0 (0 : Int)) (9007199254740992 : Int)) 8) (1 : Int) x1 (List.set (zs 8) y2 (int8 (minI (maxI x0 (0 : Int)) (9007199254740992 : Int))))) fun y4 =>
  .ret y4.1)
  (.get (appI 140737488355328 ([] : List UInt8) x1) fun y5 =>
  .get (appI 140737488355328 y5 ([0] : List UInt8)) fun y6 =>
  .sub (F_codec_Number_l0 n n (-1 : Int) (zs 8) y6) fun y7 =>
  .alt y7 (fun y8 =>
  .ret y6)
  fun y9 =>
  .ret y9)
def S_codec_Number_1 (n : Nat) : Summ := mkS ⟨[(.whole 0 1), (.val (.sint .i64) (0 : Int))], [⟨0, 1, .row .u8 []⟩], 2⟩ [.d (.sint .i64), .d (.list .u8)] fun v => .sub (F_codec_Number_1 n (p0 v) (p1 v)) fun r => .ret ((.whole 2 1), [⟨2, 3, .row .u8 r⟩, ⟨0, 5, .row .u8 (p1 v)⟩], 6)
theorem ok_codec_Number_1 (n : Nat) : SoundF Tryd.prog 111 (S_codec_Number_1 n) :=
  fn_go false true (c := codeOf Tryd.f111) (tab := mkTab []) (cuts := mkCuts [(100000, C_111_100000 (S_codec_Number_l100000 n n)), (0, C_111_0 (S_codec_Number_l0 n n))]) Tryd.func111 (by kernel_rfl) .nil (CutsOK.list (l := [(0, .lp (bodyOf Tryd.f111 0)), (100000, .jp 0 (restOf Tryd.f111 0))]) (by kernel_rfl) (LoopsOK.all ⟨.inr ⟨_, rfl, ok_codec_Number_l0 n n⟩, ⟨.inr ⟨_, rfl, ok_codec_Number_l100000 n n⟩, trivial⟩⟩)) (fun v => by kernel_rfl)
def F_pack_text_l0 (n : Nat) : Nat → (Bool) → (List (Int × List UInt8 × Int × Int)) → (Int) → (Int) → (List UInt8) → Tree (Unit ⊕ (List UInt8))
 | 0 => fun  x0 x1 x2 x3 x4 => .fail
 | k + 1 => fun x0 x1 x2 x3 x4 =>
  .ite (decide (x3 < x2))
  (.get (getI x1 x3) fun y5 =>
  .get (Tree.run (F_codec_Number_1 n y5.1 x4)) fun y6 =>
  .get (Option.some Unit.unit) fun y7 =>
  .get (appI 140737488355328 y6 (List.take 32 (List.drop 0 y5.2.1))) fun y8 =>
  .get (Tree.run (F_codec_Number_1 n y5.2.2.1 y8)) fun y9 =>
  .get (Tree.run (F_codec_Number_1 n y5.2.2.2 y9)) fun y10 =>
  .sub (F_pack_text_l0 n k x0 x1 x2 (w64 (x3 + (1 : Int))) y10) fun y11 =>
  .alt y11 (fun y12 =>
  .ret (.inr y10))
  fun y13 =>
  .ret (.inr y13))
  (.ret (.inl ()))
def S_pack_text_l0 (n k : Nat) : CutF := mkS ⟨[(.whole 0 1), (.ro false B4 []), (.val (.sint .i64) (0 : Int)), (.val (.sint .i64) (0 : Int))], [⟨0, 1, .row .u8 []⟩], 2⟩ [.c, .d B6, .d (.sint .i64), .d (.sint .i64), .d (.list .u8)] fun v => .sub (F_pack_text_l0 n k (p0 v) (p1 v) (p2 v) (p3 v) (p4 v)) fun r => .alt r (fun r => .ret (.ex 0, [(.whole 0 1)], [⟨0, 3, .row .u8 (p4 v)⟩], 4)) (fun r => .ret (.ex 0, [(.whole 2 1)], [⟨2, 3, .row .u8 r⟩, ⟨0, 5, .row .u8 (p4 v)⟩], 6))
theorem rd_pack_text_l0 (n k : Nat) : Rounds Tryd.prog (Go.Func.ntmps Tryd.f96) (bodyOf Tryd.f96 0) C_96_0 [S_pack_text_l0 n k] (S_pack_text_l0 n (k + 1)) :=
  rounds_go (tab := mkTab [(111, ⟨S_codec_Number_1 n, [], [], false⟩)]) (cuts := mkCuts []) (S_pack_text_l0 n k) [] (.cons (ok_codec_Number_1 n) ⟨_, Tryd.func111, by kernel_rfl⟩ .nil) (.none0 (by kernel_rfl)) rfl (fun v => by kernel_rfl)
theorem ok_pack_text_l0 (n k : Nat) : SoundC Tryd.prog (Go.Func.ntmps Tryd.f96) (.loop (bodyOf Tryd.f96 0)) (wr (bodyOf Tryd.f96 0)) (C_96_0 (S_pack_text_l0 n k)) :=
  loop_go (K := fun k => [S_pack_text_l0 n k]) (fun _ => rfl) (by kernel_rfl) ⟨z_go fun _ => by kernel_rfl, trivial⟩ (fun k => ⟨rd_pack_text_l0 n k, trivial⟩) k rfl
def F_pack_text (n : Nat) (x0 : Bool) (x1 : List (Int × List UInt8 × Int × Int)) : Tree (List UInt8) :=
  .sub (F_codec_Number n (ln x1)) fun y2 =>
  .sub (F_pack_text_l0 n n x0 x1 (ln x1) (0 : Int) y2) fun y3 =>
  .alt y3 (fun y4 =>
  .ret y2)
  fun y5 =>
  .ret y5
def S_pack_text (n : Nat) : Summ := mkS ⟨[(.ro false B4 [])], [], 0⟩ [.c, .d B6] fun v => .sub (F_pack_text n (p0 v) (p1 v)) fun r => .ret ((.whole 0 1), [⟨0, 1, .row .u8 r⟩], 2)
theorem ok_pack_text (n : Nat) : SoundF Tryd.prog 96 (S_pack_text n) :=
  fn_go false true (c := codeOf Tryd.f96) (tab := mkTab [(111, ⟨S_codec_Number n, [], [], false⟩)]) (cuts := mkCuts [(0, C_96_0 (S_pack_text_l0 n n))]) Tryd.func96 (by kernel_rfl) (.cons (ok_codec_Number n) ⟨_, Tryd.func111, by kernel_rfl⟩ .nil) (CutsOK.list (l := [(0, .lp (bodyOf Tryd.f96 0))]) (by kernel_rfl) (LoopsOK.all ⟨.inr ⟨_, rfl, ok_pack_text_l0 n n⟩, trivial⟩)) (fun v => by kernel_rfl)
def F_pack_laid (n : Nat) (x0 : List (Int × List UInt8 × Int × Int)) : Tree ((Int) × ((Int) × ((Int) × (List (Int × List UInt8 × Int × Int))))) :=
  .ite ((decide ((ln x0) < (1 : Int))) || (decide ((64 : Int) < (ln x0))))
  (.ret ((0 : Int), (0 : Int), (1 : Int), x0))
  (.sub (F_pack_laid_l0 n n (8 : Int) (ln x0) (0 : Int) x0) fun y1 =>
  .alt y1 (fun y2 =>
  .ret ((0 : Int), (0 : Int), (1 : Int), y2))
  fun y3 =>
  .ite (decide ((65536 : Int) < y3.1))
  (.ret ((0 : Int), (0 : Int), (2 : Int), y3.2))
  (.sub (F_pack_text n false y3.2) fun y4 =>
  .sub (F_blob_Size n (ln y4)) fun y5 =>
  .ite (decide ((65536 : Int) < (w64 ((w64 (y3.1 + y5)) + (Int.tmod (w64 ((512 : Int) - (Int.tmod (w64 (y3.1 + y5)) (512 : Int)))) (512 : Int))))))
  (.ret ((0 : Int), (0 : Int), (2 : Int), y3.2))
  (.ret (y3.1, (w64 ((w64 (y3.1 + y5)) + (Int.tmod (w64 ((512 : Int) - (Int.tmod (w64 (y3.1 + y5)) (512 : Int)))) (512 : Int)))), (0 : Int), y3.2))))
def S_pack_laid (n : Nat) : Summ := mkS ⟨[(.whole 0 35)], [⟨0, 1, .row B4 []⟩], 2⟩ [.d B6] fun v => .sub (F_pack_laid n (p0 v)) fun r => .ret ((.tup (.pr (.val (.sint .i64) r.1) (.pr (.val (.sint .i64) r.2.1) (.pr (.val (.sint .i64) r.2.2.1) .un)))), [⟨0, 3, .row B4 r.2.2.2⟩], 4)
theorem ok_pack_laid (n : Nat) : SoundF Tryd.prog 72 (S_pack_laid n) :=
  fn_go false true (c := codeOf Tryd.f72) (tab := mkTab [(96, ⟨S_pack_text n, [], [true], false⟩), (30, ⟨S_blob_Size n, [], [], false⟩)]) (cuts := mkCuts [(0, C_72_0 (S_pack_laid_l0 n n))]) Tryd.func72 (by kernel_rfl) (.cons (ok_pack_text n) ⟨_, Tryd.func96, by kernel_rfl⟩ (.cons (ok_blob_Size n) ⟨_, Tryd.func30, by kernel_rfl⟩ .nil)) (CutsOK.list (l := [(0, .lp (bodyOf Tryd.f72 0))]) (by kernel_rfl) (LoopsOK.all ⟨.inr ⟨_, rfl, ok_pack_laid_l0 n n⟩, trivial⟩)) (fun v => by kernel_rfl)
def F_blob_kind (n : Nat) (x0 : Int) : Tree Bool :=
  .ret ((decide ((1 : Int) ≤ x0)) && (decide (x0 ≤ (4 : Int))))
def S_blob_kind (n : Nat) : Summ := mkS ⟨[(.val (.sint .i64) (0 : Int))], [], 0⟩ [.d (.sint .i64)] fun v => .sub (F_blob_kind n (p0 v)) fun r => .ret ((.val .bool r), [], 0)
theorem ok_blob_kind (n : Nat) : SoundF Tryd.prog 74 (S_blob_kind n) :=
  fn_go false true (c := codeOf Tryd.f74) (tab := mkTab []) (cuts := mkCuts []) Tryd.func74 (by kernel_rfl) .nil (.none0 (by kernel_rfl)) (fun v => by kernel_rfl)
def F_label_Ring_Key (n : Nat) (x0 : List UInt8) (x1 : Int) (x2 : List (Int × List UInt8)) : Tree (Int ⊕ (List UInt8)) :=
  .get (rightI x0 x1) fun y3 =>
  .ite (!y3)
  (.ret (.inl (1 : Int)))
  (.ite (!(Option.isSome (mget (.sint .i64) (.list .u8) x2 x1)))
  (.ret (.inl (24 : Int)))
  (.sub (F_label_Key n (mgetD (.sint .i64) (.list .u8) x2 x1 ([] : List UInt8)) x0 x1) fun y4 =>
  .alt y4 (fun y5 =>
  .ret (.inl (1 : Int)))
  fun y6 =>
  .ret (.inr y6)))
def S_label_Ring_Key (n : Nat) : Summ := mkS ⟨[(.ptr 0 0), (.val .str []), (.val (.sint .i64) (0 : Int))], [⟨0, 1, .box (.agg (.pr (.mpv 2) .un))⟩, ⟨2, 3, .mp (.sint .i64) (.list .u8) []⟩], 4⟩ [.d .str, .d (.sint .i64), .d B1] fun v => .sub (F_label_Ring_Key n (p0 v) (p1 v) (p2 v)) fun r => .alt r (fun r => .ret ((.tup (.pr (.whole 4 1) (.pr (.val (.sint .i64) r) .un))), [⟨4, 5, .row .u8 ([] : List UInt8)⟩, ⟨0, 7, .box (.agg (.pr (.mpv 2) .un))⟩, ⟨2, 3, .mp (.sint .i64) (.list .u8) (p2 v)⟩], 10)) (fun r => .ret ((.tup (.pr (.bwin 4 0 .u8 32 0 32) (.pr (.val (.sint .i64) (0 : Int)) .un))), [⟨4, 5, .box (.val (.arr 32 .u8) r)⟩, ⟨0, 7, .box (.agg (.pr (.mpv 2) .un))⟩, ⟨2, 3, .mp (.sint .i64) (.list .u8) (p2 v)⟩], 10))
theorem ok_label_Ring_Key (n : Nat) : SoundF Tryd.prog 63 (S_label_Ring_Key n) :=
  fn_go false true (c := codeOf Tryd.f63) (tab := mkTab [(109, ⟨S_right, [], [], false⟩), (110, ⟨S_label_Key n, [], [true, false, false], false⟩)]) (cuts := mkCuts []) Tryd.func63 (by kernel_rfl) (.consE ok_rightC (.cons (ok_label_Key n) ⟨_, Tryd.func110, by kernel_rfl⟩ .nil)) (.none0 (by kernel_rfl)) (fun v => by kernel_rfl)
def F_blob_bound (n : Nat) (x0 : Int) (x1 : List UInt8) : Tree (List UInt8) :=
  .get (Option.some Unit.unit) fun y2 =>
  .get (appI 140737488355328 (List.set ([0] : List UInt8) 0 (int8 x0)) (List.take 32 (List.drop 0 x1))) fun y3 =>
  .ret y3
def S_blob_bound (n : Nat) : Summ := mkS ⟨[(.val (.sint .i64) (0 : Int)), (.val (.arr 32 .u8) [])], [], 0⟩ [.d (.sint .i64), .d (.arr 32 .u8)] fun v => .sub (F_blob_bound n (p0 v) (p1 v)) fun r => .ret ((.whole 0 1), [⟨0, 1, .row .u8 r⟩], 2)
theorem ok_blob_bound (n : Nat) : SoundF Tryd.prog 80 (S_blob_bound n) :=
  fn_go false true (c := codeOf Tryd.f80) (tab := mkTab []) (cuts := mkCuts []) Tryd.func80 (by kernel_rfl) .nil (.none0 (by kernel_rfl)) (fun v => by kernel_rfl)
def F_blob_Seal_1 (n : Nat) (x0 : List UInt8) (x1 : List UInt8) (x2 : Int) (x3 : List UInt8) (x4 : List UInt8) : Tree ((Int) × (List UInt8)) :=
  .get (Tree.run (F_blob_bound n x2 x3)) fun y5 =>
  .get (Tree.run (F_box_Seal n false x0 false x1 y5 x4)) fun y6 =>
  .ite (!(decide (y6.1 = (0 : Int))))
  (.ret (y6.1, ([] : List UInt8)))
  (.get (appI 140737488355328 ([] : List UInt8) x1) fun y7 =>
  .get (appI 140737488355328 y7 y6.2) fun y8 =>
  .ret ((0 : Int), y8))
def S_blob_Seal_1 (n : Nat) : Summ := mkS ⟨[(.whole 0 1), (.whole 2 1), (.ptr 4 0), (.ptr 6 0), (.ptr 8 0)], [⟨0, 1, .row .u8 []⟩, ⟨2, 3, .row .u8 []⟩, ⟨4, 5, .box (.val (.sint .i64) (0 : Int))⟩, ⟨6, 7, .box (.val (.arr 32 .u8) [])⟩, ⟨8, 9, .box (.ro false .u8 [])⟩], 10⟩ [.d (.list .u8), .d (.list .u8), .d (.sint .i64), .d (.arr 32 .u8), .c, .d (.list .u8)] fun v => .sub (F_blob_Seal_1 n (p0 v) (p1 v) (p2 v) (p3 v) (p5 v)) fun r => .ret ((.tup (.pr (.whole 10 1) (.pr (.val (.sint .i64) r.1) .un))), [⟨10, 11, .row .u8 r.2⟩, ⟨4, 13, .box (.val (.sint .i64) (p2 v))⟩, ⟨6, 15, .box (.val (.arr 32 .u8) (p3 v))⟩, ⟨8, 17, .box (.ro (p4 v) .u8 (p5 v))⟩, ⟨0, 19, .row .u8 (p0 v)⟩, ⟨2, 21, .row .u8 (p1 v)⟩], 22)
theorem ok_blob_Seal_1 (n : Nat) : SoundF Tryd.prog 78 (S_blob_Seal_1 n) :=
  fn_go false true (c := codeOf Tryd.f78) (tab := mkTab [(80, ⟨S_blob_bound n, [], [], false⟩), (79, ⟨S_box_Seal n, [], [true, true, true, true], false⟩)]) (cuts := mkCuts []) Tryd.func78 (by kernel_rfl) (.cons (ok_blob_bound n) ⟨_, Tryd.func80, by kernel_rfl⟩ (.cons (ok_box_Seal n) ⟨_, Tryd.func79, by kernel_rfl⟩ .nil)) (.none0 (by kernel_rfl)) (fun v => by kernel_rfl)
def F_blob_Seal_1_1 (n : Nat) (x0 : Nat) (x1 : Nat) (x2 : List UInt8) (x3 : List UInt8) (x4 : Int) (x5 : List UInt8) (x6 : List UInt8) : Tree ((Int) × (List UInt8)) :=
  .get (Tree.run (F_blob_bound n x4 x5)) fun y7 =>
  .get (Tree.run (F_box_Seal n false x2 false (List.take x1 (List.drop x0 x3)) y7 x6)) fun y8 =>
  .ite (!(decide (y8.1 = (0 : Int))))
  (.ret (y8.1, ([] : List UInt8)))
  (.get (appI 140737488355328 ([] : List UInt8) (List.take x1 (List.drop x0 x3))) fun y9 =>
  .get (appI 140737488355328 y9 y8.2) fun y10 =>
  .ret ((0 : Int), y10))
def S_blob_Seal_1_1 (n : Nat) : Summ := mkS ⟨[(.whole 0 1), (.bwin 2 0 .u8 12 0 0), (.ptr 4 0), (.ptr 6 0), (.ptr 8 0)], [⟨0, 1, .row .u8 []⟩, ⟨2, 3, .box (.val (.arr 12 .u8) [])⟩, ⟨4, 5, .box (.val (.sint .i64) (0 : Int))⟩, ⟨6, 7, .box (.val (.arr 32 .u8) [])⟩, ⟨8, 9, .box (.ro false .u8 [])⟩], 10⟩ [.n, .n, .d (.list .u8), .d (.arr 12 .u8), .d (.sint .i64), .d (.arr 32 .u8), .c, .d (.list .u8)] fun v => .sub (F_blob_Seal_1_1 n (p0 v) (p1 v) (p2 v) (p3 v) (p4 v) (p5 v) (p7 v)) fun r => .ret ((.tup (.pr (.whole 10 1) (.pr (.val (.sint .i64) r.1) .un))), [⟨10, 11, .row .u8 r.2⟩, ⟨2, 13, .box (.val (.arr 12 .u8) (p3 v))⟩, ⟨4, 15, .box (.val (.sint .i64) (p4 v))⟩, ⟨6, 17, .box (.val (.arr 32 .u8) (p5 v))⟩, ⟨8, 19, .box (.ro (p6 v) .u8 (p7 v))⟩, ⟨0, 21, .row .u8 (p2 v)⟩], 22)
theorem ok_blob_Seal_1_1 (n : Nat) : SoundF Tryd.prog 78 (S_blob_Seal_1_1 n) :=
  fn_go false true (c := codeOf Tryd.f78) (tab := mkTab [(80, ⟨S_blob_bound n, [], [], false⟩), (79, ⟨S_box_Seal n, [], [true, true, true, true], false⟩)]) (cuts := mkCuts []) Tryd.func78 (by kernel_rfl) (.cons (ok_blob_bound n) ⟨_, Tryd.func80, by kernel_rfl⟩ (.cons (ok_box_Seal n) ⟨_, Tryd.func79, by kernel_rfl⟩ .nil)) (.none0 (by kernel_rfl)) (fun v => by kernel_rfl)
def F_blob_Seal_1_2 (n : Nat) (x0 : Nat) (x1 : Nat) (x2 : List UInt8) (x3 : List UInt8) (x4 : Int) (x5 : List UInt8) (x6 : List UInt8) : Tree ((Int) × (List UInt8)) :=
  .get (Tree.run (F_blob_bound n x4 x5)) fun y7 =>
  .get (Tree.run (F_box_Seal n false (List.take x1 (List.drop x0 x2)) false x3 y7 x6)) fun y8 =>
  .ite (!(decide (y8.1 = (0 : Int))))
  (.ret (y8.1, ([] : List UInt8)))
  (.get (appI 140737488355328 ([] : List UInt8) x3) fun y9 =>
  .get (appI 140737488355328 y9 y8.2) fun y10 =>
  .ret ((0 : Int), y10))
def S_blob_Seal_1_2 (n : Nat) : Summ := mkS ⟨[(.bwin 0 0 .u8 32 0 0), (.whole 2 1), (.ptr 4 0), (.ptr 6 0), (.ptr 8 0)], [⟨0, 1, .box (.val (.arr 32 .u8) [])⟩, ⟨2, 3, .row .u8 []⟩, ⟨4, 5, .box (.val (.sint .i64) (0 : Int))⟩, ⟨6, 7, .box (.val (.arr 32 .u8) [])⟩, ⟨8, 9, .box (.ro false .u8 [])⟩], 10⟩ [.n, .n, .d (.arr 32 .u8), .d (.list .u8), .d (.sint .i64), .d (.arr 32 .u8), .c, .d (.list .u8)] fun v => .sub (F_blob_Seal_1_2 n (p0 v) (p1 v) (p2 v) (p3 v) (p4 v) (p5 v) (p7 v)) fun r => .ret ((.tup (.pr (.whole 10 1) (.pr (.val (.sint .i64) r.1) .un))), [⟨10, 11, .row .u8 r.2⟩, ⟨0, 13, .box (.val (.arr 32 .u8) (p2 v))⟩, ⟨4, 15, .box (.val (.sint .i64) (p4 v))⟩, ⟨6, 17, .box (.val (.arr 32 .u8) (p5 v))⟩, ⟨8, 19, .box (.ro (p6 v) .u8 (p7 v))⟩, ⟨2, 21, .row .u8 (p3 v)⟩], 22)
theorem ok_blob_Seal_1_2 (n : Nat) : SoundF Tryd.prog 78 (S_blob_Seal_1_2 n) :=
  fn_go false true (c := codeOf Tryd.f78) (tab := mkTab [(80, ⟨S_blob_bound n, [], [], false⟩), (79, ⟨S_box_Seal n, [], [true, true, true, true], false⟩)]) (cuts := mkCuts []) Tryd.func78 (by kernel_rfl) (.cons (ok_blob_bound n) ⟨_, Tryd.func80, by kernel_rfl⟩ (.cons (ok_box_Seal n) ⟨_, Tryd.func79, by kernel_rfl⟩ .nil)) (.none0 (by kernel_rfl)) (fun v => by kernel_rfl)
def F_blob_Seal_1_3 (n : Nat) (x0 : Nat) (x1 : Nat) (x2 : Nat) (x3 : Nat) (x4 : List UInt8) (x5 : List UInt8) (x6 : Int) (x7 : List UInt8) (x8 : List UInt8) : Tree ((Int) × (List UInt8)) :=
  .get (Tree.run (F_blob_bound n x6 x7)) fun y9 =>
  .get (Tree.run (F_box_Seal n false (List.take x1 (List.drop x0 x4)) false (List.take x3 (List.drop x2 x5)) y9 x8)) fun y10 =>
  .ite (!(decide (y10.1 = (0 : Int))))
  (.ret (y10.1, ([] : List UInt8)))
  (.get (appI 140737488355328 ([] : List UInt8) (List.take x3 (List.drop x2 x5))) fun y11 =>
  .get (appI 140737488355328 y11 y10.2) fun y12 =>
  .ret ((0 : Int), y12))
def S_blob_Seal_1_3 (n : Nat) : Summ := mkS ⟨[(.bwin 0 0 .u8 32 0 0), (.bwin 2 0 .u8 12 0 0), (.ptr 4 0), (.ptr 6 0), (.ptr 8 0)], [⟨0, 1, .box (.val (.arr 32 .u8) [])⟩, ⟨2, 3, .box (.val (.arr 12 .u8) [])⟩, ⟨4, 5, .box (.val (.sint .i64) (0 : Int))⟩, ⟨6, 7, .box (.val (.arr 32 .u8) [])⟩, ⟨8, 9, .box (.ro false .u8 [])⟩], 10⟩ [.n, .n, .n, .n, .d (.arr 32 .u8), .d (.arr 12 .u8), .d (.sint .i64), .d (.arr 32 .u8), .c, .d (.list .u8)] fun v => .sub (F_blob_Seal_1_3 n (p0 v) (p1 v) (p2 v) (p3 v) (p4 v) (p5 v) (p6 v) (p7 v) (p9 v)) fun r => .ret ((.tup (.pr (.whole 10 1) (.pr (.val (.sint .i64) r.1) .un))), [⟨10, 11, .row .u8 r.2⟩, ⟨0, 13, .box (.val (.arr 32 .u8) (p4 v))⟩, ⟨2, 15, .box (.val (.arr 12 .u8) (p5 v))⟩, ⟨4, 17, .box (.val (.sint .i64) (p6 v))⟩, ⟨6, 19, .box (.val (.arr 32 .u8) (p7 v))⟩, ⟨8, 21, .box (.ro (p8 v) .u8 (p9 v))⟩], 22)
theorem ok_blob_Seal_1_3 (n : Nat) : SoundF Tryd.prog 78 (S_blob_Seal_1_3 n) :=
  fn_go false true (c := codeOf Tryd.f78) (tab := mkTab [(80, ⟨S_blob_bound n, [], [], false⟩), (79, ⟨S_box_Seal n, [], [true, true, true, true], false⟩)]) (cuts := mkCuts []) Tryd.func78 (by kernel_rfl) (.cons (ok_blob_bound n) ⟨_, Tryd.func80, by kernel_rfl⟩ (.cons (ok_box_Seal n) ⟨_, Tryd.func79, by kernel_rfl⟩ .nil)) (.none0 (by kernel_rfl)) (fun v => by kernel_rfl)
def F_blob_with (n : Nat) (x0 : Int) (x1 : Int) (x2 : List (Int × List UInt8)) (x3 : Int) (x4 : List UInt8) (x5 : List UInt8) : Tree ((Int) × (List UInt8)) :=
  .sub (F_label_Ring_Key n ([115, 101, 97, 108] : List UInt8) x0 x2) fun y6 =>
  .alt y6 (fun y7 =>
  .ite (!(decide (y7 = (0 : Int))))
  (.ret (y7, ([] : List UInt8)))
  (.sub (F_nonce_Of n x0 x1) fun y8 =>
  .alt y8 (fun y9 =>
  .ite true
  (.ret ((1 : Int), ([] : List UInt8)))
  (.sub (F_blob_Seal_1 n ([] : List UInt8) ([] : List UInt8) x3 x4 x5) fun y10 =>
  .ret (y10.1, y10.2)))
  fun y11 =>
  .ite false
  (.ret ((0 : Int), ([] : List UInt8)))
  (.sub (F_blob_Seal_1_1 n 0 12 ([] : List UInt8) y11 x3 x4 x5) fun y12 =>
  .ret (y12.1, y12.2))))
  fun y13 =>
  .ite false
  (.ret ((0 : Int), ([] : List UInt8)))
  (.sub (F_nonce_Of n x0 x1) fun y14 =>
  .alt y14 (fun y15 =>
  .ite true
  (.ret ((1 : Int), ([] : List UInt8)))
  (.sub (F_blob_Seal_1_2 n 0 32 y13 ([] : List UInt8) x3 x4 x5) fun y16 =>
  .ret (y16.1, y16.2)))
  fun y17 =>
  .ite false
  (.ret ((0 : Int), ([] : List UInt8)))
  (.sub (F_blob_Seal_1_3 n 0 32 0 12 y13 y17 x3 x4 x5) fun y18 =>
  .ret (y18.1, y18.2)))
def S_blob_with (n : Nat) : Summ := mkS ⟨[(.ptr 0 0), (.val (.sint .i64) (0 : Int)), (.val (.sint .i64) (0 : Int)), (.clo 78 (.pr (.ptr 4 0) (.pr (.ptr 6 0) (.pr (.ptr 8 0) .un))))], [⟨0, 1, .box (.agg (.pr (.mpv 2) .un))⟩, ⟨2, 3, .mp (.sint .i64) (.list .u8) []⟩, ⟨4, 5, .box (.val (.sint .i64) (0 : Int))⟩, ⟨6, 7, .box (.val (.arr 32 .u8) [])⟩, ⟨8, 9, .box (.ro false .u8 [])⟩], 10⟩ [.d (.sint .i64), .d (.sint .i64), .d B1, .d (.sint .i64), .d (.arr 32 .u8), .c, .d (.list .u8)] fun v => .sub (F_blob_with n (p0 v) (p1 v) (p2 v) (p3 v) (p4 v) (p6 v)) fun r => .ret ((.tup (.pr (.whole 10 1) (.pr (.val (.sint .i64) r.1) .un))), [⟨10, 11, .row .u8 r.2⟩, ⟨0, 13, .box (.agg (.pr (.mpv 2) .un))⟩, ⟨2, 3, .mp (.sint .i64) (.list .u8) (p2 v)⟩, ⟨4, 17, .box (.val (.sint .i64) (p3 v))⟩, ⟨6, 19, .box (.val (.arr 32 .u8) (p4 v))⟩, ⟨8, 21, .box (.ro (p5 v) .u8 (p6 v))⟩], 22)
theorem ok_blob_with (n : Nat) : SoundF Tryd.prog 77 (S_blob_with n) :=
  fn_go false true (c := codeOf Tryd.f77) (tab := mkTab [(63, ⟨S_label_Ring_Key n, [], [], false⟩), (125, ⟨S_nonce_Of n, [], [], false⟩), (78, ⟨orS (S_blob_Seal_1 n) (orS (S_blob_Seal_1_1 n) (orS (S_blob_Seal_1_2 n) (S_blob_Seal_1_3 n))), [], [], false⟩)]) (cuts := mkCuts []) Tryd.func77 (by kernel_rfl) (.cons (ok_label_Ring_Key n) ⟨_, Tryd.func63, by kernel_rfl⟩ (.cons (ok_nonce_Of n) ⟨_, Tryd.func125, by kernel_rfl⟩ (.cons (.or (ok_blob_Seal_1 n) (.or (ok_blob_Seal_1_1 n) (.or (ok_blob_Seal_1_2 n) (ok_blob_Seal_1_3 n)))) ⟨_, Tryd.func78, by kernel_rfl⟩ .nil))) (.none0 (by kernel_rfl)) (fun v => by kernel_rfl)
def F_blob_Seal (n : Nat) (x0 : Int) (x1 : Int) (x2 : List UInt8) (x3 : Int) (x4 : List UInt8) (x5 : List (Int × List UInt8)) : Tree ((Int) × (List UInt8)) :=
  .sub (F_blob_kind n x1) fun y6 =>
  .ite ((!y6) || ((decide (x3 < (1 : Int))) || (decide ((1099511627776 : Int) < x3))))
  (.ret ((1 : Int), ([] : List UInt8)))
  (.ite (decide ((8192 : Int) < (ln x4)))
  (.ret ((2 : Int), ([] : List UInt8)))
  (.sub (F_blob_with n x0 x3 x5 x1 x2 x4) fun y7 =>
  .ret (y7.1, y7.2)))
def S_blob_Seal (n : Nat) : Summ := mkS ⟨[(.ptr 0 0), (.val (.sint .i64) (0 : Int)), (.val (.sint .i64) (0 : Int)), (.val (.arr 32 .u8) []), (.val (.sint .i64) (0 : Int)), (.ro false .u8 [])], [⟨0, 1, .box (.agg (.pr (.mpv 2) .un))⟩, ⟨2, 3, .mp (.sint .i64) (.list .u8) []⟩], 4⟩ [.d (.sint .i64), .d (.sint .i64), .d (.arr 32 .u8), .d (.sint .i64), .c, .d (.list .u8), .d B1] fun v => .sub (F_blob_Seal n (p0 v) (p1 v) (p2 v) (p3 v) (p5 v) (p6 v)) fun r => .ret ((.tup (.pr (.whole 4 1) (.pr (.val (.sint .i64) r.1) .un))), [⟨4, 5, .row .u8 r.2⟩, ⟨0, 7, .box (.agg (.pr (.mpv 2) .un))⟩, ⟨2, 3, .mp (.sint .i64) (.list .u8) (p6 v)⟩], 10)
theorem ok_blob_Seal (n : Nat) : SoundF Tryd.prog 29 (S_blob_Seal n) :=
  fn_go false true (c := codeOf Tryd.f29) (tab := mkTab [(74, ⟨S_blob_kind n, [], [], false⟩), (77, ⟨S_blob_with n, [], [], false⟩)]) (cuts := mkCuts []) Tryd.func29 (by kernel_rfl) (.cons (ok_blob_kind n) ⟨_, Tryd.func74, by kernel_rfl⟩ (.cons (ok_blob_with n) ⟨_, Tryd.func77, by kernel_rfl⟩ .nil)) (.none0 (by kernel_rfl)) (fun v => by kernel_rfl)
def C_51_2 : CutF → Cut := fun κ => ⟨[18, 69, 70, 71], fun e => match e with | .ex i => bif Nat.beq i 2 then [18] else [] | .rt => [] | .nm => [] | .go i => [], κ⟩
def F_pack_Build_l2 (n : Nat) : Nat → (Bool) → (List (Int × List UInt8 × List UInt8)) → (Int) → (Int) → (List UInt8) → Tree (Unit ⊕ (List UInt8))
 | 0 => fun  x0 x1 x2 x3 x4 => .fail
 | k + 1 => fun x0 x1 x2 x3 x4 =>
  .ite (decide (x3 < x2))
  (.get (getI x1 x3) fun y5 =>
  .get (appI 140737488355328 x4 y5.2.2) fun y6 =>
  .sub (F_pack_Build_l2 n k x0 x1 x2 (w64 (x3 + (1 : Int))) y6) fun y7 =>
  .alt y7 (fun y8 =>
  .ret (.inr y6))
  fun y9 =>
  .ret (.inr y9))
  (.ret (.inl ()))
def S_pack_Build_l2 (n k : Nat) : CutF := mkS ⟨[(.whole 0 1), (.ro false B3 []), (.val (.sint .i64) (0 : Int)), (.val (.sint .i64) (0 : Int))], [⟨0, 1, .row .u8 []⟩], 2⟩ [.c, .d B5, .d (.sint .i64), .d (.sint .i64), .d (.list .u8)] fun v => .sub (F_pack_Build_l2 n k (p0 v) (p1 v) (p2 v) (p3 v) (p4 v)) fun r => .alt r (fun r => .ret (.ex 2, [(.whole 0 1)], [⟨0, 3, .row .u8 (p4 v)⟩], 4)) (fun r => .ret (.ex 2, [(.whole 2 1)], [⟨2, 3, .row .u8 r⟩], 4))
theorem rd_pack_Build_l2 (n k : Nat) : Rounds Tryd.prog (Go.Func.ntmps Tryd.f51) (bodyOf Tryd.f51 2) C_51_2 [S_pack_Build_l2 n k] (S_pack_Build_l2 n (k + 1)) :=
  rounds_go (tab := mkTab []) (cuts := mkCuts []) (S_pack_Build_l2 n k) [] .nil (.none0 (by kernel_rfl)) rfl (fun v => by kernel_rfl)
theorem ok_pack_Build_l2 (n k : Nat) : SoundC Tryd.prog (Go.Func.ntmps Tryd.f51) (.loop (bodyOf Tryd.f51 2)) (wr (bodyOf Tryd.f51 2)) (C_51_2 (S_pack_Build_l2 n k)) :=
  loop_go (K := fun k => [S_pack_Build_l2 n k]) (fun _ => rfl) (by kernel_rfl) ⟨z_go fun _ => by kernel_rfl, trivial⟩ (fun k => ⟨rd_pack_Build_l2 n k, trivial⟩) k rfl
def C_51_4 : CutF → Cut := fun κ => ⟨[18, 86, 87], fun e => match e with | .ex i => bif Nat.beq i 4 then [18] else [] | .rt => [] | .nm => [] | .go i => [], κ⟩
def F_pack_Build_l4 (n : Nat) : Nat → (Int) → (Int) → (List UInt8) → Tree (Unit ⊕ (List UInt8))
 | 0 => fun  x0 x1 x2 => .fail
 | k + 1 => fun x0 x1 x2 =>
  .ite (decide (x1 < x0))
  (.get (appI 140737488355328 x2 ([0] : List UInt8)) fun y3 =>
  .sub (F_pack_Build_l4 n k x0 (w64 (x1 + (1 : Int))) y3) fun y4 =>
  .alt y4 (fun y5 =>
  .ret (.inr y3))
  fun y6 =>
  .ret (.inr y6))
  (.ret (.inl ()))
def S_pack_Build_l4 (n k : Nat) : CutF := mkS ⟨[(.whole 0 1), (.val (.sint .i64) (0 : Int)), (.val (.sint .i64) (0 : Int))], [⟨0, 1, .row .u8 []⟩], 2⟩ [.d (.sint .i64), .d (.sint .i64), .d (.list .u8)] fun v => .sub (F_pack_Build_l4 n k (p0 v) (p1 v) (p2 v)) fun r => .alt r (fun r => .ret (.ex 4, [(.whole 0 1)], [⟨0, 3, .row .u8 (p2 v)⟩], 4)) (fun r => .ret (.ex 4, [(.whole 2 1)], [⟨2, 3, .row .u8 r⟩], 4))
theorem rd_pack_Build_l4 (n k : Nat) : Rounds Tryd.prog (Go.Func.ntmps Tryd.f51) (bodyOf Tryd.f51 4) C_51_4 [S_pack_Build_l4 n k] (S_pack_Build_l4 n (k + 1)) :=
  rounds_go (tab := mkTab []) (cuts := mkCuts []) (S_pack_Build_l4 n k) [] .nil (.none0 (by kernel_rfl)) rfl (fun v => by kernel_rfl)
theorem ok_pack_Build_l4 (n k : Nat) : SoundC Tryd.prog (Go.Func.ntmps Tryd.f51) (.loop (bodyOf Tryd.f51 4)) (wr (bodyOf Tryd.f51 4)) (C_51_4 (S_pack_Build_l4 n k)) :=
  loop_go (K := fun k => [S_pack_Build_l4 n k]) (fun _ => rfl) (by kernel_rfl) ⟨z_go fun _ => by kernel_rfl, trivial⟩ (fun k => ⟨rd_pack_Build_l4 n k, trivial⟩) k rfl
def F_pack_Build (n : Nat) (x0 : Int) (x1 : Int) (x2 : Bool) (x3 : List (Int × List UInt8 × List UInt8)) (x4 : List (Int × List UInt8)) : Tree ((Int) × ((List UInt8) × (List (Int × List UInt8 × Int × Int)))) :=
  .sub (F_pack_Build_l0 n n x2 x3 (ln x3) (0 : Int) ([] : List (Int × ((List UInt8) × (Int × Int))))) fun y5 =>
  .alt y5 (fun y6 =>
  .sub (F_pack_laid n ([] : List (Int × ((List UInt8) × (Int × Int))))) fun y7 =>
  .ite (!(decide (y7.2.2.1 = (0 : Int))))
  (.ret (y7.2.2.1, ([] : List UInt8), ([] : List (Int × ((List UInt8) × (Int × Int))))))
  (.sub (F_pack_text n false y7.2.2.2) fun y8 =>
  .sub (F_blob_Seal n x0 (4 : Int) (zs 32) x1 y8 x4) fun y9 =>
  .ite (!(decide (y9.1 = (0 : Int))))
  (.ret (y9.1, ([] : List UInt8), ([] : List (Int × ((List UInt8) × (Int × Int))))))
  (.sub (F_word_Store_1 n (int32 y7.1)) fun y10 =>
  .sub (F_word_Store_1 n (int32 (ln y9.2))) fun y11 =>
  .get (appI 140737488355328 y10 y11) fun y12 =>
  .sub (F_pack_Build_l2 n n x2 x3 (ln x3) (0 : Int) y12) fun y13 =>
  .alt y13 (fun y14 =>
  .get (appI 140737488355328 y12 y9.2) fun y15 =>
  .sub (F_pack_Build_l4 n n (w64 (y7.2.1 - (ln y15))) (0 : Int) y15) fun y16 =>
  .alt y16 (fun y17 =>
  .ret ((0 : Int), y15, y7.2.2.2))
  fun y18 =>
  .ret ((0 : Int), y18, y7.2.2.2))
  fun y19 =>
  .get (appI 140737488355328 y19 y9.2) fun y20 =>
  .sub (F_pack_Build_l4 n n (w64 (y7.2.1 - (ln y20))) (0 : Int) y20) fun y21 =>
  .alt y21 (fun y22 =>
  .ret ((0 : Int), y20, y7.2.2.2))
  fun y23 =>
  .ret ((0 : Int), y23, y7.2.2.2))))
  fun y24 =>
  .sub (F_pack_laid n y24) fun y25 =>
  .ite (!(decide (y25.2.2.1 = (0 : Int))))
  (.ret (y25.2.2.1, ([] : List UInt8), ([] : List (Int × ((List UInt8) × (Int × Int))))))
  (.sub (F_pack_text n false y25.2.2.2) fun y26 =>
  .sub (F_blob_Seal n x0 (4 : Int) (zs 32) x1 y26 x4) fun y27 =>
  .ite (!(decide (y27.1 = (0 : Int))))
  (.ret (y27.1, ([] : List UInt8), ([] : List (Int × ((List UInt8) × (Int × Int))))))
  (.sub (F_word_Store_1 n (int32 y25.1)) fun y28 =>
  .sub (F_word_Store_1 n (int32 (ln y27.2))) fun y29 =>
  .get (appI 140737488355328 y28 y29) fun y30 =>
  .sub (F_pack_Build_l2 n n x2 x3 (ln x3) (0 : Int) y30) fun y31 =>
  .alt y31 (fun y32 =>
  .get (appI 140737488355328 y30 y27.2) fun y33 =>
  .sub (F_pack_Build_l4 n n (w64 (y25.2.1 - (ln y33))) (0 : Int) y33) fun y34 =>
  .alt y34 (fun y35 =>
  .ret ((0 : Int), y33, y25.2.2.2))
  fun y36 =>
  .ret ((0 : Int), y36, y25.2.2.2))
  fun y37 =>
  .get (appI 140737488355328 y37 y27.2) fun y38 =>
  .sub (F_pack_Build_l4 n n (w64 (y25.2.1 - (ln y38))) (0 : Int) y38) fun y39 =>
  .alt y39 (fun y40 =>
  .ret ((0 : Int), y38, y25.2.2.2))
  fun y41 =>
  .ret ((0 : Int), y41, y25.2.2.2)))
def S_pack_Build (n : Nat) : Summ := mkS ⟨[(.ptr 0 0), (.val (.sint .i64) (0 : Int)), (.val (.sint .i64) (0 : Int)), (.ro false B3 [])], [⟨0, 1, .box (.agg (.pr (.mpv 2) .un))⟩, ⟨2, 3, .mp (.sint .i64) (.list .u8) []⟩], 4⟩ [.d (.sint .i64), .d (.sint .i64), .c, .d B5, .d B1] fun v => .sub (F_pack_Build n (p0 v) (p1 v) (p2 v) (p3 v) (p4 v)) fun r => .ret ((.tup (.pr (.whole 4 1) (.pr (.whole 6 35) (.pr (.val (.sint .i64) r.1) .un)))), [⟨4, 5, .row .u8 r.2.1⟩, ⟨6, 7, .row B4 r.2.2⟩, ⟨0, 9, .box (.agg (.pr (.mpv 2) .un))⟩, ⟨2, 3, .mp (.sint .i64) (.list .u8) (p4 v)⟩], 12)
theorem ok_pack_Build (n : Nat) : SoundF Tryd.prog 51 (S_pack_Build n) :=
  fn_go false true (c := codeOf Tryd.f51) (tab := mkTab [(72, ⟨S_pack_laid n, [], [], false⟩), (96, ⟨S_pack_text n, [], [true], false⟩), (29, ⟨S_blob_Seal n, [], [], true⟩), (97, ⟨S_word_Store_1 n, [], [], false⟩)]) (cuts := mkCuts [(0, C_51_0 (S_pack_Build_l0 n n)), (2, C_51_2 (S_pack_Build_l2 n n)), (4, C_51_4 (S_pack_Build_l4 n n))]) Tryd.func51 (by kernel_rfl) (.cons (ok_pack_laid n) ⟨_, Tryd.func72, by kernel_rfl⟩ (.cons (ok_pack_text n) ⟨_, Tryd.func96, by kernel_rfl⟩ (.cons (ok_blob_Seal n) ⟨_, Tryd.func29, by kernel_rfl⟩ (.cons (ok_word_Store_1 n) ⟨_, Tryd.func97, by kernel_rfl⟩ .nil)))) (CutsOK.list (l := [(0, .lp (bodyOf Tryd.f51 0)), (2, .lp (bodyOf Tryd.f51 2)), (4, .lp (bodyOf Tryd.f51 4))]) (by kernel_rfl) (LoopsOK.all ⟨.inr ⟨_, rfl, ok_pack_Build_l0 n n⟩, ⟨.inr ⟨_, rfl, ok_pack_Build_l2 n n⟩, ⟨.inr ⟨_, rfl, ok_pack_Build_l4 n n⟩, trivial⟩⟩⟩)) (fun v => by kernel_rfl)
def C_19_0 : CutF → Cut := fun κ => ⟨[4, 10, 11, 12], fun e => match e with | .ex i => bif Nat.beq i 0 then [4] else [] | .rt => [] | .nm => [] | .go i => [], κ⟩
def F_pack_Size_l0 (n : Nat) : Nat → (Bool) → (List Int) → (Int) → (Int) → (List (Int × List UInt8 × Int × Int)) → Tree (Unit ⊕ (List (Int × List UInt8 × Int × Int)))
 | 0 => fun  x0 x1 x2 x3 x4 => .fail
 | k + 1 => fun x0 x1 x2 x3 x4 =>
  .ite (decide (x3 < x2))
  (.get (getI x1 x3) fun y5 =>
  .get (appI 2513169434916 x4 (List.set ([((0 : Int), ((zs 32), ((0 : Int), (0 : Int))))] : List (Int × ((List UInt8) × (Int × Int)))) 0 ((1 : Int), ((zs 32), ((0 : Int), y5))))) fun y6 =>
  .sub (F_pack_Size_l0 n k x0 x1 x2 (w64 (x3 + (1 : Int))) y6) fun y7 =>
  .alt y7 (fun y8 =>
  .ret (.inr y6))
  fun y9 =>
  .ret (.inr y9))
  (.ret (.inl ()))
def S_pack_Size_l0 (n k : Nat) : CutF := mkS ⟨[(.whole 0 35), (.ro false (.sint .i64) []), (.val (.sint .i64) (0 : Int)), (.val (.sint .i64) (0 : Int))], [⟨0, 1, .row B4 []⟩], 2⟩ [.c, .d (.list (.sint .i64)), .d (.sint .i64), .d (.sint .i64), .d B6] fun v => .sub (F_pack_Size_l0 n k (p0 v) (p1 v) (p2 v) (p3 v) (p4 v)) fun r => .alt r (fun r => .ret (.ex 0, [(.whole 0 35)], [⟨0, 3, .row B4 (p4 v)⟩], 4)) (fun r => .ret (.ex 0, [(.whole 2 35)], [⟨2, 3, .row B4 r⟩], 4))
theorem rd_pack_Size_l0 (n k : Nat) : Rounds Tryd.prog (Go.Func.ntmps Tryd.f19) (bodyOf Tryd.f19 0) C_19_0 [S_pack_Size_l0 n k] (S_pack_Size_l0 n (k + 1)) :=
  rounds_go (tab := mkTab []) (cuts := mkCuts []) (S_pack_Size_l0 n k) [] .nil (.none0 (by kernel_rfl)) rfl (fun v => by kernel_rfl)
theorem ok_pack_Size_l0 (n k : Nat) : SoundC Tryd.prog (Go.Func.ntmps Tryd.f19) (.loop (bodyOf Tryd.f19 0)) (wr (bodyOf Tryd.f19 0)) (C_19_0 (S_pack_Size_l0 n k)) :=
  loop_go (K := fun k => [S_pack_Size_l0 n k]) (fun _ => rfl) (by kernel_rfl) ⟨z_go fun _ => by kernel_rfl, trivial⟩ (fun k => ⟨rd_pack_Size_l0 n k, trivial⟩) k rfl
def F_pack_Size (n : Nat) (x0 : Bool) (x1 : List Int) : Tree ((Int) × Int) :=
  .sub (F_pack_Size_l0 n n x0 x1 (ln x1) (0 : Int) ([] : List (Int × ((List UInt8) × (Int × Int))))) fun y2 =>
  .alt y2 (fun y3 =>
  .sub (F_pack_laid n ([] : List (Int × ((List UInt8) × (Int × Int))))) fun y4 =>
  .ret (y4.2.1, y4.2.2.1))
  fun y5 =>
  .sub (F_pack_laid n y5) fun y6 =>
  .ret (y6.2.1, y6.2.2.1)
def S_pack_Size (n : Nat) : Summ := mkS ⟨[(.ro false (.sint .i64) [])], [], 0⟩ [.c, .d (.list (.sint .i64))] fun v => .sub (F_pack_Size n (p0 v) (p1 v)) fun r => .ret ((.tup (.pr (.val (.sint .i64) r.1) (.pr (.val (.sint .i64) r.2) .un))), [], 0)
theorem ok_pack_Size (n : Nat) : SoundF Tryd.prog 19 (S_pack_Size n) :=
  fn_go false true (c := codeOf Tryd.f19) (tab := mkTab [(72, ⟨S_pack_laid n, [], [], false⟩)]) (cuts := mkCuts [(0, C_19_0 (S_pack_Size_l0 n n))]) Tryd.func19 (by kernel_rfl) (.cons (ok_pack_laid n) ⟨_, Tryd.func72, by kernel_rfl⟩ .nil) (CutsOK.list (l := [(0, .lp (bodyOf Tryd.f19 0))]) (by kernel_rfl) (LoopsOK.all ⟨.inr ⟨_, rfl, ok_pack_Size_l0 n n⟩, trivial⟩)) (fun v => by kernel_rfl)
def F_w19_awake (n : Nat) : Tree Bool :=
  .sub (F_w19_rings n (zs 32)) fun y0 =>
  .sub (F_pack_Build n (1 : Int) (1 : Int) false ([((1 : Int), ((zs 32), (zs 28)))] : List (Int × ((List UInt8) × (List UInt8)))) y0.2.2) fun y1 =>
  .sub (F_pack_Size n false ([(28 : Int)] : List Int)) fun y2 =>
  .ite (decide (y1.1 = (0 : Int)))
  (.ite (decide ((ln y1.2.1) = (512 : Int)))
  (.ite (decide ((ln y1.2.2) = (1 : Int)))
  (.get (inI (List.length y1.2.2) (0 : Int)) fun y3 =>
  .get (gt y1.2.2 (0 + y3)) fun y4 =>
  .ret ((decide (y4.2.2.1 = (8 : Int))) && ((decide (y2.1 = (512 : Int))) && (decide (y2.2 = (0 : Int))))))
  (.ret false))
  (.ret false))
  (.ret false)
def S_w19_awake (n : Nat) : Summ := mkS ⟨[], [], 0⟩ [] fun v => .sub (F_w19_awake n) fun r => .ret ((.val .bool r), [], 0)
theorem ok_w19_awake (n : Nat) : SoundF Tryd.prog 18 (S_w19_awake n) :=
  fn_go true true (c := codeOf Tryd.f18) (tab := mkTab [(50, ⟨S_w19_rings n, [], [], false⟩), (51, ⟨S_pack_Build n, [], [], true⟩), (19, ⟨S_pack_Size n, [], [true], false⟩)]) (cuts := mkCuts []) Tryd.func18 (by kernel_rfl) (.cons (ok_w19_rings n) ⟨_, Tryd.func50, by kernel_rfl⟩ (.cons (ok_pack_Build n) ⟨_, Tryd.func51, by kernel_rfl⟩ (.cons (ok_pack_Size n) ⟨_, Tryd.func19, by kernel_rfl⟩ .nil))) (.none0 (by kernel_rfl)) (fun v => by kernel_rfl)
def C_20_0 : CutF → Cut := fun κ => ⟨[0, 4, 5], fun e => match e with | .ex i => bif Nat.beq i 0 then [4] else [] | .rt => [] | .nm => [] | .go i => [], κ⟩
def F_r19_Size_l0 (n : Nat) : Nat → (Bool) → (List Int) → (Int) → (List (Int × List UInt8 × Int × Int)) → Tree (Unit ⊕ (List (Int × List UInt8 × Int × Int)))
 | 0 => fun  x0 x1 x2 x3 => .fail
 | k + 1 => fun x0 x1 x2 x3 =>
  .ite (decide (x2 < (ln x1)))
  (.get (getI x1 x2) fun y4 =>
  .get (appI 2513169434916 x3 (List.set ([((0 : Int), ((zs 32), ((0 : Int), (0 : Int))))] : List (Int × ((List UInt8) × (Int × Int)))) 0 ((1 : Int), ((zs 32), ((0 : Int), y4))))) fun y5 =>
  .sub (F_r19_Size_l0 n k x0 x1 (w64 (x2 + (1 : Int))) y5) fun y6 =>
  .alt y6 (fun y7 =>
  .ret (.inr y5))
  fun y8 =>
  .ret (.inr y8))
  (.ret (.inl ()))
def S_r19_Size_l0 (n k : Nat) : CutF := mkS ⟨[(.ro false (.sint .i64) []), (.whole 0 35), (.val (.sint .i64) (0 : Int))], [⟨0, 1, .row B4 []⟩], 2⟩ [.c, .d (.list (.sint .i64)), .d (.sint .i64), .d B6] fun v => .sub (F_r19_Size_l0 n k (p0 v) (p1 v) (p2 v) (p3 v)) fun r => .alt r (fun r => .ret (.ex 0, [(.whole 0 35)], [⟨0, 3, .row B4 (p3 v)⟩], 4)) (fun r => .ret (.ex 0, [(.whole 2 35)], [⟨2, 3, .row B4 r⟩], 4))
theorem rd_r19_Size_l0 (n k : Nat) : Rounds Tryd.prog (Go.Func.ntmps Tryd.f20) (bodyOf Tryd.f20 0) C_20_0 [S_r19_Size_l0 n k] (S_r19_Size_l0 n (k + 1)) :=
  rounds_go (tab := mkTab []) (cuts := mkCuts []) (S_r19_Size_l0 n k) [] .nil (.none0 (by kernel_rfl)) rfl (fun v => by kernel_rfl)
theorem ok_r19_Size_l0 (n k : Nat) : SoundC Tryd.prog (Go.Func.ntmps Tryd.f20) (.loop (bodyOf Tryd.f20 0)) (wr (bodyOf Tryd.f20 0)) (C_20_0 (S_r19_Size_l0 n k)) :=
  loop_go (K := fun k => [S_r19_Size_l0 n k]) (fun _ => rfl) (by kernel_rfl) ⟨z_go fun _ => by kernel_rfl, trivial⟩ (fun k => ⟨rd_r19_Size_l0 n k, trivial⟩) k rfl
def C_73_0 : CutF → Cut := fun κ => ⟨[0, 6], fun e => match e with | .ex i => bif Nat.beq i 0 then [] else [] | .rt => [2, 3, 4, 5] | .nm => [] | .go i => [], κ⟩
def F_r19_Lay_l0 (n : Nat) : Nat → (Bool) → (List (Int × List UInt8 × Int × Int)) → (Int) → Tree (Unit ⊕ Unit)
 | 0 => fun  x0 x1 x2 => .fail
 | k + 1 => fun x0 x1 x2 =>
  .ite (decide (x2 < (ln x1)))
  (.get (getI x1 x2) fun y3 =>
  .ite (decide (y3.1 < (1 : Int)))
  (.ret (.inl ()))
  (.get (getI x1 x2) fun y4 =>
  .ite (decide ((3 : Int) < y4.1))
  (.ret (.inl ()))
  (.get (getI x1 x2) fun y5 =>
  .ite (decide (y5.2.2.2 < (28 : Int)))
  (.ret (.inl ()))
  (.sub (F_r19_Lay_l0 n k x0 x1 (w64 (x2 + (1 : Int)))) fun y6 =>
  .alt y6 (fun y7 =>
  .ret (.inl ()))
  fun y8 =>
  .ret (.inr ())))))
  (.ret (.inr ()))
def S_r19_Lay_l0 (n k : Nat) : CutF := mkS ⟨[(.ro false B4 []), (.val (.sint .i64) (0 : Int))], [], 0⟩ [.c, .d B6, .d (.sint .i64)] fun v => .sub (F_r19_Lay_l0 n k (p0 v) (p1 v) (p2 v)) fun r => .alt r (fun r => .ret (.rt, [(.whole 0 35), (.val (.sint .i64) (0 : Int)), (.val (.sint .i64) (0 : Int)), (.val (.sint .i64) (1 : Int))], [⟨0, 1, .row B4 ([] : List (Int × ((List UInt8) × (Int × Int))))⟩], 2)) (fun r => .ret (.ex 0, [], [], 0))
theorem rd_r19_Lay_l0 (n k : Nat) : Rounds Tryd.prog (Go.Func.ntmps Tryd.f73) (bodyOf Tryd.f73 0) C_73_0 [S_r19_Lay_l0 n k] (S_r19_Lay_l0 n (k + 1)) :=
  rounds_go (tab := mkTab []) (cuts := mkCuts []) (S_r19_Lay_l0 n k) [] .nil (.none0 (by kernel_rfl)) rfl (fun v => by kernel_rfl)
theorem ok_r19_Lay_l0 (n k : Nat) : SoundC Tryd.prog (Go.Func.ntmps Tryd.f73) (.loop (bodyOf Tryd.f73 0)) (wr (bodyOf Tryd.f73 0)) (C_73_0 (S_r19_Lay_l0 n k)) :=
  loop_go (K := fun k => [S_r19_Lay_l0 n k]) (fun _ => rfl) (by kernel_rfl) ⟨z_go fun _ => by kernel_rfl, trivial⟩ (fun k => ⟨rd_r19_Lay_l0 n k, trivial⟩) k rfl
def C_73_2 : CutF → Cut := fun κ => ⟨[0, 7, 8, 9], fun e => match e with | .ex i => bif Nat.beq i 2 then [7, 8] else [] | .rt => [2, 3, 4, 5] | .nm => [] | .go i => [], κ⟩
def F_r19_Lay_l2 (n : Nat) : Nat → (Bool) → (List (Int × List UInt8 × Int × Int)) → (Int) → (Int) → (List (Int × List UInt8 × Int × Int)) → Tree (Unit ⊕ (Unit ⊕ (Unit ⊕ ((Int) × (List (Int × List UInt8 × Int × Int))))))
 | 0 => fun  x0 x1 x2 x3 x4 => .fail
 | k + 1 => fun x0 x1 x2 x3 x4 =>
  .ite (decide (x3 < (ln x1)))
  (.get (getI x1 x3) fun y5 =>
  .ite (decide ((w64 ((65536 : Int) - x2)) < y5.2.2.2))
  (.ret (.inl ()))
  (.get (getI x1 x3) fun y6 =>
  .get (appI 2513169434916 x4 (List.set ([((0 : Int), ((zs 32), ((0 : Int), (0 : Int))))] : List (Int × ((List UInt8) × (Int × Int)))) 0 (y6.1, (y6.2.1, (x2, y6.2.2.2))))) fun y7 =>
  .sub (F_r19_Lay_l2 n k x0 x1 (w64 (x2 + y6.2.2.2)) (w64 (x3 + (1 : Int))) y7) fun y8 =>
  .alt y8 (fun y9 =>
  .ret (.inr (.inr (.inl ()))))
  fun y10 =>
  .alt y10 (fun y11 =>
  .ret (.inr (.inr (.inr ((w64 (x2 + y6.2.2.2)), y7)))))
  fun y12 =>
  .alt y12 (fun y13 =>
  .ret (.inr (.inr (.inl ()))))
  fun y14 =>
  .ret (.inr (.inr (.inr (y14.1, y14.2))))))
  (.ret (.inr (.inl ())))
def S_r19_Lay_l2 (n k : Nat) : CutF := mkS ⟨[(.ro false B4 []), (.whole 0 35), (.val (.sint .i64) (0 : Int)), (.val (.sint .i64) (0 : Int))], [⟨0, 1, .row B4 []⟩], 2⟩ [.c, .d B6, .d (.sint .i64), .d (.sint .i64), .d B6] fun v => .sub (F_r19_Lay_l2 n k (p0 v) (p1 v) (p2 v) (p3 v) (p4 v)) fun r => .alt r (fun r => .ret (.rt, [(.whole 2 35), (.val (.sint .i64) (0 : Int)), (.val (.sint .i64) (0 : Int)), (.val (.sint .i64) (2 : Int))], [⟨2, 3, .row B4 ([] : List (Int × ((List UInt8) × (Int × Int))))⟩, ⟨0, 5, .row B4 (p4 v)⟩], 6)) (fun r => .alt r (fun r => .ret (.ex 2, [(.whole 0 35), (.val (.sint .i64) (p2 v))], [⟨0, 3, .row B4 (p4 v)⟩], 4)) (fun r => .alt r (fun r => .ret (.rt, [(.whole 2 35), (.val (.sint .i64) (0 : Int)), (.val (.sint .i64) (0 : Int)), (.val (.sint .i64) (2 : Int))], [⟨2, 3, .row B4 ([] : List (Int × ((List UInt8) × (Int × Int))))⟩], 4)) (fun r => .ret (.ex 2, [(.whole 2 35), (.val (.sint .i64) r.1)], [⟨2, 3, .row B4 r.2⟩], 4))))
theorem rd_r19_Lay_l2 (n k : Nat) : Rounds Tryd.prog (Go.Func.ntmps Tryd.f73) (bodyOf Tryd.f73 2) C_73_2 [S_r19_Lay_l2 n k] (S_r19_Lay_l2 n (k + 1)) :=
  rounds_go (tab := mkTab []) (cuts := mkCuts []) (S_r19_Lay_l2 n k) [] .nil (.none0 (by kernel_rfl)) rfl (fun v => by kernel_rfl)
theorem ok_r19_Lay_l2 (n k : Nat) : SoundC Tryd.prog (Go.Func.ntmps Tryd.f73) (.loop (bodyOf Tryd.f73 2)) (wr (bodyOf Tryd.f73 2)) (C_73_2 (S_r19_Lay_l2 n k)) :=
  loop_go (K := fun k => [S_r19_Lay_l2 n k]) (fun _ => rfl) (by kernel_rfl) ⟨z_go fun _ => by kernel_rfl, trivial⟩ (fun k => ⟨rd_r19_Lay_l2 n k, trivial⟩) k rfl
def F_r17_digits_r (n : Nat) : Nat → (Int) → Tree (List UInt8)
 | 0 => fun  x0 => .fail
 | k + 1 => fun x0 =>
  .ite (decide (x0 = (0 : Int)))
  (.ret ([] : List UInt8))
  (.sub (F_r17_digits_r n k (quoI .i64 x0 (256 : Int))) fun y1 =>
  .get (appI 140737488355328 y1 (List.set ([0] : List UInt8) 0 (int8 (Int.tmod x0 (256 : Int))))) fun y2 =>
  .ret y2)
def S_r17_digits_r (n k : Nat) : Summ := mkS ⟨[(.val (.sint .i64) (0 : Int))], [], 0⟩ [.d (.sint .i64)] fun v => .sub (F_r17_digits_r n k (p0 v)) fun r => .ret ((.whole 0 1), [⟨0, 1, .row .u8 r⟩], 2)
theorem ok_r17_digits_r (n k : Nat) : SoundF Tryd.prog 156 (S_r17_digits_r n k) :=
  rec_go (fz := false) (kv := true) (c := codeOf Tryd.f156) (tab := fun k => mkTab [(156, ⟨S_r17_digits_r n k, [], [], true⟩)]) (cuts := mkCuts []) Tryd.func156 (by kernel_rfl) (fun _ => by kernel_rfl) (fun k ih => .cons ih ⟨_, Tryd.func156, by kernel_rfl⟩ .nil) (.none0 (by kernel_rfl)) (fun k v => by kernel_rfl) k
def F_r17_digits (n : Nat) (x0 : Int) : Tree (List UInt8) := F_r17_digits_r n n x0
def S_r17_digits (n : Nat) : Summ := mkS ⟨[(.val (.sint .i64) (0 : Int))], [], 0⟩ [.d (.sint .i64)] fun v => .sub (F_r17_digits n (p0 v)) fun r => .ret ((.whole 0 1), [⟨0, 1, .row .u8 r⟩], 2)
theorem ok_r17_digits (n : Nat) : SoundF Tryd.prog 156 (S_r17_digits n) := ok_r17_digits_r n n
def F_r17_Number (n : Nat) (x0 : Int) : Tree (List UInt8) :=
  .sub (F_r17_digits n (minI (maxI x0 (0 : Int)) (9007199254740992 : Int))) fun y1 =>
  .get (appI 140737488355328 ([] : List UInt8) ([] : List UInt8)) fun y2 =>
  .get (appI 140737488355328 y2 (List.set ([0] : List UInt8) 0 (int8 (ln y1)))) fun y3 =>
  .get (appI 140737488355328 y3 y1) fun y4 =>
  .ret y4
def S_r17_Number (n : Nat) : Summ := mkS ⟨[(.snil (some .u8)), (.val (.sint .i64) (0 : Int))], [], 0⟩ [.d (.sint .i64)] fun v => .sub (F_r17_Number n (p0 v)) fun r => .ret ((.whole 0 1), [⟨0, 1, .row .u8 r⟩], 2)
theorem ok_r17_Number (n : Nat) : SoundF Tryd.prog 118 (S_r17_Number n) :=
  fn_go false true (c := codeOf Tryd.f118) (tab := mkTab [(156, ⟨S_r17_digits n, [], [], true⟩)]) (cuts := mkCuts []) Tryd.func118 (by kernel_rfl) (.cons (ok_r17_digits n) ⟨_, Tryd.func156, by kernel_rfl⟩ .nil) (.none0 (by kernel_rfl)) (fun v => by kernel_rfl)
def C_123_0 : CutF → Cut := fun κ => ⟨[0, 3, 4], fun e => match e with | .ex i => bif Nat.beq i 0 then [3] else [] | .rt => [] | .nm => [] | .go i => [], κ⟩
def F_r17_Number_1 (n : Nat) (x0 : List UInt8) (x1 : Int) : Tree (List UInt8) :=
  .sub (F_r17_digits n (minI (maxI x1 (0 : Int)) (9007199254740992 : Int))) fun y2 =>
  .get (appI 140737488355328 ([] : List UInt8) x0) fun y3 =>
  .get (appI 140737488355328 y3 (List.set ([0] : List UInt8) 0 (int8 (ln y2)))) fun y4 =>
  .get (appI 140737488355328 y4 y2) fun y5 =>
  .ret y5
def S_r17_Number_1 (n : Nat) : Summ := mkS ⟨[(.ro false .u8 []), (.val (.sint .i64) (0 : Int))], [], 0⟩ [.c, .d (.list .u8), .d (.sint .i64)] fun v => .sub (F_r17_Number_1 n (p1 v) (p2 v)) fun r => .ret ((.whole 0 1), [⟨0, 1, .row .u8 r⟩], 2)
theorem ok_r17_Number_1 (n : Nat) : SoundF Tryd.prog 118 (S_r17_Number_1 n) :=
  fn_go false true (c := codeOf Tryd.f118) (tab := mkTab [(156, ⟨S_r17_digits n, [], [], true⟩)]) (cuts := mkCuts []) Tryd.func118 (by kernel_rfl) (.cons (ok_r17_digits n) ⟨_, Tryd.func156, by kernel_rfl⟩ .nil) (.none0 (by kernel_rfl)) (fun v => by kernel_rfl)
def C_123_2 : CutF → Cut := fun κ => ⟨[0, 3, 4, 5], fun e => match e with | .ex i => bif Nat.beq i 2 then [3] else bif Nat.beq i 1 then [3] else bif Nat.beq i 0 then [3] else [] | .rt => [] | .nm => [] | .go i => [], κ⟩
def F_r19_Text_l2 (n : Nat) : Nat → (Bool) → (List (Int × List UInt8 × Int × Int)) → (Int) → (Int) → (List UInt8) → Tree (Unit ⊕ (List UInt8))
 | 0 => fun  x0 x1 x2 x3 x4 => .fail
 | k + 1 => fun x0 x1 x2 x3 x4 =>
  .ite (decide (x3 < (32 : Int)))
  (.get (getI x1 x2) fun y5 =>
  .get (getI y5.2.1 x3) fun y6 =>
  .get (appI 140737488355328 x4 (List.set ([0] : List UInt8) 0 y6)) fun y7 =>
  .sub (F_r19_Text_l2 n k x0 x1 x2 (w64 (x3 + (1 : Int))) y7) fun y8 =>
  .alt y8 (fun y9 =>
  .ret (.inr y7))
  fun y10 =>
  .ret (.inr y10))
  (.ret (.inl ()))
def S_r19_Text_l2 (n k : Nat) : CutF := mkS ⟨[(.ro false B4 []), (.whole 0 1), (.val (.sint .i64) (0 : Int)), (.val (.sint .i64) (0 : Int))], [⟨0, 1, .row .u8 []⟩], 2⟩ [.c, .d B6, .d (.sint .i64), .d (.sint .i64), .d (.list .u8)] fun v => .sub (F_r19_Text_l2 n k (p0 v) (p1 v) (p2 v) (p3 v) (p4 v)) fun r => .alt r (fun r => .ret (.ex 2, [(.whole 0 1)], [⟨0, 3, .row .u8 (p4 v)⟩], 4)) (fun r => .ret (.ex 2, [(.whole 2 1)], [⟨2, 3, .row .u8 r⟩], 4))
theorem rd_r19_Text_l2 (n k : Nat) : Rounds Tryd.prog (Go.Func.ntmps Tryd.f123) (bodyOf Tryd.f123 2) C_123_2 [S_r19_Text_l2 n k] (S_r19_Text_l2 n (k + 1)) :=
  rounds_go (tab := mkTab []) (cuts := mkCuts []) (S_r19_Text_l2 n k) [] .nil (.none0 (by kernel_rfl)) rfl (fun v => by kernel_rfl)
theorem ok_r19_Text_l2 (n k : Nat) : SoundC Tryd.prog (Go.Func.ntmps Tryd.f123) (.loop (bodyOf Tryd.f123 2)) (wr (bodyOf Tryd.f123 2)) (C_123_2 (S_r19_Text_l2 n k)) :=
  loop_go (K := fun k => [S_r19_Text_l2 n k]) (fun _ => rfl) (by kernel_rfl) ⟨z_go fun _ => by kernel_rfl, trivial⟩ (fun k => ⟨rd_r19_Text_l2 n k, trivial⟩) k rfl
def F_r19_Text_l0 (n : Nat) : Nat → (Bool) → (List (Int × List UInt8 × Int × Int)) → (Int) → (List UInt8) → Tree (Unit ⊕ (List UInt8))
 | 0 => fun  x0 x1 x2 x3 => .fail
 | k + 1 => fun x0 x1 x2 x3 =>
  .ite (decide (x2 < (ln x1)))
  (.get (getI x1 x2) fun y4 =>
  .sub (F_r17_Number_1 n x3 y4.1) fun y5 =>
  .sub (F_r19_Text_l2 n n x0 x1 x2 (0 : Int) y5) fun y6 =>
  .alt y6 (fun y7 =>
  .get (getI x1 x2) fun y8 =>
  .get (Tree.run (F_r17_Number_1 n y5 y8.2.2.1)) fun y9 =>
  .get (getI x1 x2) fun y10 =>
  .get (Tree.run (F_r17_Number_1 n y9 y10.2.2.2)) fun y11 =>
  .sub (F_r19_Text_l0 n k x0 x1 (w64 (x2 + (1 : Int))) y11) fun y12 =>
  .alt y12 (fun y13 =>
  .ret (.inr y11))
  fun y14 =>
  .ret (.inr y14))
  fun y15 =>
  .get (getI x1 x2) fun y16 =>
  .get (Tree.run (F_r17_Number_1 n y15 y16.2.2.1)) fun y17 =>
  .get (getI x1 x2) fun y18 =>
  .get (Tree.run (F_r17_Number_1 n y17 y18.2.2.2)) fun y19 =>
  .sub (F_r19_Text_l0 n k x0 x1 (w64 (x2 + (1 : Int))) y19) fun y20 =>
  .alt y20 (fun y21 =>
  .ret (.inr y19))
  fun y22 =>
  .ret (.inr y22))
  (.ret (.inl ()))
def S_r19_Text_l0 (n k : Nat) : CutF := mkS ⟨[(.ro false B4 []), (.whole 0 1), (.val (.sint .i64) (0 : Int))], [⟨0, 1, .row .u8 []⟩], 2⟩ [.c, .d B6, .d (.sint .i64), .d (.list .u8)] fun v => .sub (F_r19_Text_l0 n k (p0 v) (p1 v) (p2 v) (p3 v)) fun r => .alt r (fun r => .ret (.ex 0, [(.whole 0 1)], [⟨0, 3, .row .u8 (p3 v)⟩], 4)) (fun r => .ret (.ex 0, [(.whole 2 1)], [⟨2, 3, .row .u8 r⟩], 4))
theorem rd_r19_Text_l0 (n k : Nat) : Rounds Tryd.prog (Go.Func.ntmps Tryd.f123) (bodyOf Tryd.f123 0) C_123_0 [S_r19_Text_l0 n k] (S_r19_Text_l0 n (k + 1)) :=
  rounds_go (tab := mkTab [(118, ⟨S_r17_Number_1 n, [], [], true⟩)]) (cuts := mkCuts [(2, C_123_2 (S_r19_Text_l2 n n))]) (S_r19_Text_l0 n k) [] (.cons (ok_r17_Number_1 n) ⟨_, Tryd.func118, by kernel_rfl⟩ .nil) (CutsOK.list (l := [(2, .lp (bodyOf Tryd.f123 2))]) (by kernel_rfl) (LoopsOK.all ⟨.inr ⟨_, rfl, ok_r19_Text_l2 n n⟩, trivial⟩)) rfl (fun v => by kernel_rfl)
theorem ok_r19_Text_l0 (n k : Nat) : SoundC Tryd.prog (Go.Func.ntmps Tryd.f123) (.loop (bodyOf Tryd.f123 0)) (wr (bodyOf Tryd.f123 0)) (C_123_0 (S_r19_Text_l0 n k)) :=
  loop_go (K := fun k => [S_r19_Text_l0 n k]) (fun _ => rfl) (by kernel_rfl) ⟨z_go fun _ => by kernel_rfl, trivial⟩ (fun k => ⟨rd_r19_Text_l0 n k, trivial⟩) k rfl
def F_r19_Text (n : Nat) (x0 : Bool) (x1 : List (Int × List UInt8 × Int × Int)) : Tree (List UInt8) :=
  .sub (F_r17_Number n (ln x1)) fun y2 =>
  .sub (F_r19_Text_l0 n n x0 x1 (0 : Int) y2) fun y3 =>
  .alt y3 (fun y4 =>
  .ret y2)
  fun y5 =>
  .ret y5
def S_r19_Text (n : Nat) : Summ := mkS ⟨[(.ro false B4 [])], [], 0⟩ [.c, .d B6] fun v => .sub (F_r19_Text n (p0 v) (p1 v)) fun r => .ret ((.whole 0 1), [⟨0, 1, .row .u8 r⟩], 2)
theorem ok_r19_Text (n : Nat) : SoundF Tryd.prog 123 (S_r19_Text n) :=
  fn_go false true (c := codeOf Tryd.f123) (tab := mkTab [(118, ⟨S_r17_Number n, [], [], true⟩)]) (cuts := mkCuts [(0, C_123_0 (S_r19_Text_l0 n n))]) Tryd.func123 (by kernel_rfl) (.cons (ok_r17_Number n) ⟨_, Tryd.func118, by kernel_rfl⟩ .nil) (CutsOK.list (l := [(0, .lp (bodyOf Tryd.f123 0))]) (by kernel_rfl) (LoopsOK.all ⟨.inr ⟨_, rfl, ok_r19_Text_l0 n n⟩, trivial⟩)) (fun v => by kernel_rfl)
def C_73_4 : CutF → Cut := fun κ => ⟨[11], fun e => match e with | .ex i => bif Nat.beq i 4 then [11] else [] | .rt => [] | .nm => [] | .go i => [], κ⟩
def F_r19_Lay_l4 (n : Nat) : Nat → (Int) → Tree Int
 | 0 => fun  x0 => .fail
 | k + 1 => fun x0 =>
  .ite (!(decide ((Int.tmod x0 (512 : Int)) = (0 : Int))))
  (.sub (F_r19_Lay_l4 n k (w64 (x0 + (1 : Int)))) fun y1 =>
  .ret y1)
  (.ret x0)
def S_r19_Lay_l4 (n k : Nat) : CutF := mkS ⟨[(.val (.sint .i64) (0 : Int))], [], 0⟩ [.d (.sint .i64)] fun v => .sub (F_r19_Lay_l4 n k (p0 v)) fun r => .ret (.ex 4, [(.val (.sint .i64) r)], [], 0)
theorem rd_r19_Lay_l4 (n k : Nat) : Rounds Tryd.prog (Go.Func.ntmps Tryd.f73) (bodyOf Tryd.f73 4) C_73_4 [S_r19_Lay_l4 n k] (S_r19_Lay_l4 n (k + 1)) :=
  rounds_go (tab := mkTab []) (cuts := mkCuts []) (S_r19_Lay_l4 n k) [] .nil (.none0 (by kernel_rfl)) rfl (fun v => by kernel_rfl)
theorem ok_r19_Lay_l4 (n k : Nat) : SoundC Tryd.prog (Go.Func.ntmps Tryd.f73) (.loop (bodyOf Tryd.f73 4)) (wr (bodyOf Tryd.f73 4)) (C_73_4 (S_r19_Lay_l4 n k)) :=
  loop_go (K := fun k => [S_r19_Lay_l4 n k]) (fun _ => rfl) (by kernel_rfl) ⟨z_go fun _ => by kernel_rfl, trivial⟩ (fun k => ⟨rd_r19_Lay_l4 n k, trivial⟩) k rfl
def F_r19_Lay (n : Nat) (x0 : Bool) (x1 : List (Int × List UInt8 × Int × Int)) : Tree ((Int) × ((Int) × ((Int) × (List (Int × List UInt8 × Int × Int))))) :=
  .ite ((decide ((ln x1) = (0 : Int))) || (decide ((64 : Int) < (ln x1))))
  (.ret ((0 : Int), (0 : Int), (1 : Int), ([] : List (Int × ((List UInt8) × (Int × Int))))))
  (.sub (F_r19_Lay_l0 n n x0 x1 (0 : Int)) fun y2 =>
  .alt y2 (fun y3 =>
  .ret ((0 : Int), (0 : Int), (1 : Int), ([] : List (Int × ((List UInt8) × (Int × Int))))))
  fun y4 =>
  .sub (F_r19_Lay_l2 n n x0 x1 (8 : Int) (0 : Int) ([] : List (Int × ((List UInt8) × (Int × Int))))) fun y5 =>
  .alt y5 (fun y6 =>
  .ret ((0 : Int), (0 : Int), (2 : Int), ([] : List (Int × ((List UInt8) × (Int × Int))))))
  fun y7 =>
  .alt y7 (fun y8 =>
  .sub (F_r19_Text n false ([] : List (Int × ((List UInt8) × (Int × Int))))) fun y9 =>
  .sub (F_r19_Lay_l4 n n (w64 ((36 : Int) + (ln y9)))) fun y10 =>
  .ite (decide ((65536 : Int) < y10))
  (.ret ((0 : Int), (0 : Int), (2 : Int), ([] : List (Int × ((List UInt8) × (Int × Int))))))
  (.ret ((8 : Int), y10, (0 : Int), ([] : List (Int × ((List UInt8) × (Int × Int)))))))
  fun y11 =>
  .alt y11 (fun y12 =>
  .ret ((0 : Int), (0 : Int), (2 : Int), ([] : List (Int × ((List UInt8) × (Int × Int))))))
  fun y13 =>
  .sub (F_r19_Text n false y13.2) fun y14 =>
  .sub (F_r19_Lay_l4 n n (w64 ((w64 (y13.1 + (28 : Int))) + (ln y14)))) fun y15 =>
  .ite (decide ((65536 : Int) < y15))
  (.ret ((0 : Int), (0 : Int), (2 : Int), ([] : List (Int × ((List UInt8) × (Int × Int))))))
  (.ret (y13.1, y15, (0 : Int), y13.2)))
def S_r19_Lay (n : Nat) : Summ := mkS ⟨[(.ro false B4 [])], [], 0⟩ [.c, .d B6] fun v => .sub (F_r19_Lay n (p0 v) (p1 v)) fun r => .ret ((.tup (.pr (.whole 0 35) (.pr (.val (.sint .i64) r.1) (.pr (.val (.sint .i64) r.2.1) (.pr (.val (.sint .i64) r.2.2.1) .un))))), [⟨0, 1, .row B4 r.2.2.2⟩], 2)
theorem ok_r19_Lay (n : Nat) : SoundF Tryd.prog 73 (S_r19_Lay n) :=
  fn_go false true (c := codeOf Tryd.f73) (tab := mkTab [(123, ⟨S_r19_Text n, [], [true], false⟩)]) (cuts := mkCuts [(0, C_73_0 (S_r19_Lay_l0 n n)), (2, C_73_2 (S_r19_Lay_l2 n n)), (4, C_73_4 (S_r19_Lay_l4 n n))]) Tryd.func73 (by kernel_rfl) (.cons (ok_r19_Text n) ⟨_, Tryd.func123, by kernel_rfl⟩ .nil) (CutsOK.list (l := [(0, .lp (bodyOf Tryd.f73 0)), (2, .lp (bodyOf Tryd.f73 2)), (4, .lp (bodyOf Tryd.f73 4))]) (by kernel_rfl) (LoopsOK.all ⟨.inr ⟨_, rfl, ok_r19_Lay_l0 n n⟩, ⟨.inr ⟨_, rfl, ok_r19_Lay_l2 n n⟩, ⟨.inr ⟨_, rfl, ok_r19_Lay_l4 n n⟩, trivial⟩⟩⟩)) (fun v => by kernel_rfl)
def F_r19_Size (n : Nat) (x0 : Bool) (x1 : List Int) : Tree ((Int) × Int) :=
  .sub (F_r19_Size_l0 n n x0 x1 (0 : Int) ([] : List (Int × ((List UInt8) × (Int × Int))))) fun y2 =>
  .alt y2 (fun y3 =>
  .sub (F_r19_Lay n false ([] : List (Int × ((List UInt8) × (Int × Int))))) fun y4 =>
  .ret (y4.2.1, y4.2.2.1))
  fun y5 =>
  .sub (F_r19_Lay n false y5) fun y6 =>
  .ret (y6.2.1, y6.2.2.1)
def S_r19_Size (n : Nat) : Summ := mkS ⟨[(.ro false (.sint .i64) [])], [], 0⟩ [.c, .d (.list (.sint .i64))] fun v => .sub (F_r19_Size n (p0 v) (p1 v)) fun r => .ret ((.tup (.pr (.val (.sint .i64) r.1) (.pr (.val (.sint .i64) r.2) .un))), [], 0)
theorem ok_r19_Size (n : Nat) : SoundF Tryd.prog 20 (S_r19_Size n) :=
  fn_go false true (c := codeOf Tryd.f20) (tab := mkTab [(73, ⟨S_r19_Lay n, [], [true], false⟩)]) (cuts := mkCuts [(0, C_20_0 (S_r19_Size_l0 n n))]) Tryd.func20 (by kernel_rfl) (.cons (ok_r19_Lay n) ⟨_, Tryd.func73, by kernel_rfl⟩ .nil) (CutsOK.list (l := [(0, .lp (bodyOf Tryd.f20 0))]) (by kernel_rfl) (LoopsOK.all ⟨.inr ⟨_, rfl, ok_r19_Size_l0 n n⟩, trivial⟩)) (fun v => by kernel_rfl)
def C_4_0 : CutF → Cut := fun κ => ⟨[0, 3, 27, 28], fun e => match e with | .ex i => bif Nat.beq i 0 then [] else [] | .rt => [2] | .nm => [] | .go i => [], κ⟩
def F_w19_PackSizes_l0 (n : Nat) : Nat → (Bool) → (List Int) → (Int) → (Int) → (List Int) → Tree (Unit ⊕ Unit)
 | 0 => fun  x0 x1 x2 x3 x4 => .fail
 | k + 1 => fun x0 x1 x2 x3 x4 =>
  .ite (decide (x3 < x2))
  (.get (inI (List.length x4) x3) fun y5 =>
  .get (gt x4 (0 + y5)) fun y6 =>
  .get (getI x1 x3) fun y7 =>
  .ite (!(decide (y6 = y7)))
  (.ret (.inl ()))
  (.sub (F_w19_PackSizes_l0 n k x0 x1 x2 (w64 (x3 + (1 : Int))) x4) fun y8 =>
  .alt y8 (fun y9 =>
  .ret (.inl ()))
  fun y10 =>
  .ret (.inr ())))
  (.ret (.inr ()))
def S_w19_PackSizes_l0 (n k : Nat) : CutF := mkS ⟨[(.ro false (.sint .i64) []), (.whole 0 1), (.val (.sint .i64) (0 : Int)), (.val (.sint .i64) (0 : Int))], [⟨0, 1, .row (.sint .i64) []⟩], 2⟩ [.c, .d (.list (.sint .i64)), .d (.sint .i64), .d (.sint .i64), .d (.list (.sint .i64))] fun v => .sub (F_w19_PackSizes_l0 n k (p0 v) (p1 v) (p2 v) (p3 v) (p4 v)) fun r => .alt r (fun r => .ret (.rt, [(.val .bool false)], [⟨0, 3, .row (.sint .i64) (p4 v)⟩], 4)) (fun r => .ret (.ex 0, [], [⟨0, 3, .row (.sint .i64) (p4 v)⟩], 4))
theorem rd_w19_PackSizes_l0 (n k : Nat) : Rounds Tryd.prog (Go.Func.ntmps Tryd.f4) (bodyOf Tryd.f4 0) C_4_0 [S_w19_PackSizes_l0 n k] (S_w19_PackSizes_l0 n (k + 1)) :=
  rounds_go (tab := mkTab []) (cuts := mkCuts []) (S_w19_PackSizes_l0 n k) [] .nil (.none0 (by kernel_rfl)) rfl (fun v => by kernel_rfl)
theorem ok_w19_PackSizes_l0 (n k : Nat) : SoundC Tryd.prog (Go.Func.ntmps Tryd.f4) (.loop (bodyOf Tryd.f4 0)) (wr (bodyOf Tryd.f4 0)) (C_4_0 (S_w19_PackSizes_l0 n k)) :=
  loop_go (K := fun k => [S_w19_PackSizes_l0 n k]) (fun _ => rfl) (by kernel_rfl) ⟨z_go fun _ => by kernel_rfl, trivial⟩ (fun k => ⟨rd_w19_PackSizes_l0 n k, trivial⟩) k rfl
def F_w19_PackSizes (n : Nat) (x0 : Bool) (x1 : List Int) : Tree Bool :=
  .ite (decide ((100 : Int) < (ln x1)))
  (.sub (F_w19_awake n) fun y2 =>
  .ret y2)
  (.get (appI 17592186044416 ([] : List Int) x1) fun y3 =>
  .sub (F_pack_Size n false y3) fun y4 =>
  .sub (F_r19_Size n x0 x1) fun y5 =>
  .sub (F_w19_PackSizes_l0 n n x0 x1 (ln y3) (0 : Int) y3) fun y6 =>
  .alt y6 (fun y7 =>
  .ret false)
  fun y8 =>
  .ite (decide (y4.1 = y5.1))
  (.ite (decide (y4.2 = y5.2))
  (.sub (F_w19_awake n) fun y9 =>
  .ret y9)
  (.ret false))
  (.ret false))
def S_w19_PackSizes (n : Nat) : Summ := mkS ⟨[(.ro false (.sint .i64) [])], [], 0⟩ [.c, .d (.list (.sint .i64))] fun v => .sub (F_w19_PackSizes n (p0 v) (p1 v)) fun r => .ret ((.val .bool r), [], 0)
theorem ok_w19_PackSizes (n : Nat) : SoundF Tryd.prog 4 (S_w19_PackSizes n) :=
  fn_go true true (c := codeOf Tryd.f4) (tab := mkTab [(18, ⟨S_w19_awake n, [], [], false⟩), (19, ⟨S_pack_Size n, [], [true], false⟩), (20, ⟨S_r19_Size n, [], [true], false⟩)]) (cuts := mkCuts [(0, C_4_0 (S_w19_PackSizes_l0 n n))]) Tryd.func4 (by kernel_rfl) (.cons (ok_w19_awake n) ⟨_, Tryd.func18, by kernel_rfl⟩ (.cons (ok_pack_Size n) ⟨_, Tryd.func19, by kernel_rfl⟩ (.cons (ok_r19_Size n) ⟨_, Tryd.func20, by kernel_rfl⟩ .nil))) (CutsOK.list (l := [(0, .lp (bodyOf Tryd.f4 0))]) (by kernel_rfl) (LoopsOK.all ⟨.inr ⟨_, rfl, ok_w19_PackSizes_l0 n n⟩, trivial⟩)) (fun v => by kernel_rfl)
end Hyp
