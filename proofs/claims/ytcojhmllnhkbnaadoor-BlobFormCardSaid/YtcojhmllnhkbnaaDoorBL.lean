/- Printed by Gen.lean.tpl (this work's own): Go functions as pure functions, each with the proof that the Go code comes to its answers. -/
import Derived.Test.YtcojhmllnhkbnaaDoorZD
import Derived.Test.YtcojhmllnhkbnaaDoorLr
import Derived.Test.YtcojhmllnhkbnaaDoorCm
import Derived.Test.YtcojhmllnhkbnaaDoorCB
import Derived.Test.YtcojhmllnhkbnaaDoorPA
import Derived.Test.YtcojhmllnhkbnaaDoorPB
import Derived.Test.YtcojhmllnhkbnaaDoorChecked
set_option linter.unusedVariables false
set_option maxRecDepth 100000
set_option maxHeartbeats 4000000
namespace Hyp
open Go Go.Proofs
abbrev BL1 : Ty := .rcd (.pair (.sint .i64) (.list .u8))
abbrev BL2 : Ty := .list (.rcd (.pair (.sint .i64) (.list .u8)))
def F_w18_Ask_few (n : Nat) (x0 : List UInt8) : Tree Bool :=
  .ret ((decide ((ln x0) ≤ (600 : Int))) || ((decide ((8192 : Int) < (ln x0))) && (decide ((ln x0) ≤ (8292 : Int)))))
def S_w18_Ask_few (n : Nat) : Summ := mkS ⟨[(.agg (.pr (.ro false BL1 []) (.pr (.val (.sint .i64) (0 : Int)) (.pr (.val (.sint .i64) (0 : Int)) (.pr (.val (.sint .i64) (0 : Int)) (.pr (.val (.arr 32 .u8) []) (.pr (.ro false .u8 []) (.pr (.val .u16 0) (.pr (.val .u8 0) .un)))))))))], [], 0⟩ [.c, .d BL2, .d (.sint .i64), .d (.sint .i64), .d (.sint .i64), .d (.arr 32 .u8), .c, .d (.list .u8), .d .u16, .d .u8] fun v => .sub (F_w18_Ask_few n (p7 v)) fun r => .ret ((.val .bool r), [], 0)
theorem ok_w18_Ask_few (n : Nat) : SoundF Tryd.prog 23 (S_w18_Ask_few n) :=
  fn_go true true (c := codeOf Tryd.f23) (tab := mkTab []) (cuts := mkCuts []) Tryd.func23 (by kernel_rfl) .nil (.none0 (by kernel_rfl)) (fun v => by kernel_rfl)
def C_25_0 : CutF → Cut := fun κ => ⟨[0, 4, 5, 6], fun e => match e with | .ex i => bif Nat.beq i 0 then [] else [] | .rt => [] | .nm => [] | .go i => [], κ⟩
def F_w18_own (n : Nat) (x0 : List UInt8) : Tree (List UInt8) :=
  .get (appI 140737488355328 ([] : List UInt8) x0) fun y1 =>
  .ret y1
def S_w18_own (n : Nat) : Summ := mkS ⟨[(.ro false .u8 [])], [], 0⟩ [.c, .d (.list .u8)] fun v => .sub (F_w18_own n (p1 v)) fun r => .ret ((.whole 0 1), [⟨0, 1, .row .u8 r⟩], 2)
theorem ok_w18_own (n : Nat) : SoundF Tryd.prog 27 (S_w18_own n) :=
  fn_go false true (c := codeOf Tryd.f27) (tab := mkTab []) (cuts := mkCuts []) Tryd.func27 (by kernel_rfl) .nil (.none0 (by kernel_rfl)) (fun v => by kernel_rfl)
def F_slices_Clone___byte_byte__1_raw (n : Nat) (x0 : List UInt8) : Tree (List UInt8) :=
  .ite (decide ((ln x0) = (0 : Int)))
  (.all (fun (p1 : Bool) => True) fun y2 =>
  .ite y2
  (.ret ([] : List UInt8))
  (.get (appI 140737488355328 ([] : List UInt8) x0) fun y3 =>
  .ret y3))
  (.get (appI 140737488355328 ([] : List UInt8) x0) fun y4 =>
  .ret y4)
def S_slices_Clone___byte_byte__1_raw (n : Nat) : Summ := mkS ⟨[(.whole 0 1)], [⟨0, 1, .row .u8 []⟩], 2⟩ [.d (.list .u8)] fun v => .sub (F_slices_Clone___byte_byte__1_raw n (p0 v)) fun r => .ret ((.whole 2 1), [⟨2, 3, .row .u8 r⟩, ⟨0, 5, .row .u8 (p0 v)⟩], 6)
theorem ok_slices_Clone___byte_byte__1_raw (n : Nat) : SoundF Tryd.prog 102 (S_slices_Clone___byte_byte__1_raw n) :=
  fn_go false true (c := codeOf Tryd.f102) (tab := mkTab []) (cuts := mkCuts []) Tryd.func102 (by kernel_rfl) .nil (.none0 (by kernel_rfl)) (fun v => by kernel_rfl)
def F_slices_Clone___byte_byte__1 (n : Nat) (x0 : List UInt8) : Tree (List UInt8) :=
  .get (appI 140737488355328 ([] : List UInt8) x0) fun z =>
  .ret z
def S_slices_Clone___byte_byte__1 (n : Nat) : Summ := mkS ⟨[(.whole 0 1)], [⟨0, 1, .row .u8 []⟩], 2⟩ [.d (.list .u8)] fun v => .sub (F_slices_Clone___byte_byte__1 n (p0 v)) fun r => .ret ((.whole 2 1), [⟨2, 3, .row .u8 r⟩, ⟨0, 5, .row .u8 (p0 v)⟩], 6)
theorem ok_slices_Clone___byte_byte__1 (n : Nat) : SoundF Tryd.prog 102 (S_slices_Clone___byte_byte__1 n) := S_weak (ok_slices_Clone___byte_byte__1_raw n) fun v Q h => by first | exact clone_det h | exact clone_win h
def F_label_Ring_Put_1 (n : Nat) (x0 : Int) (x1 : List (Int × List UInt8)) (x2 : List UInt8) : Tree (Int ⊕ (List (Int × List UInt8))) :=
  .ite ((decide (x0 < (1 : Int))) || ((decide ((64 : Int) < x0)) || (!(decide ((ln x2) = (32 : Int))))))
  (.ret (.inl (1 : Int)))
  (.ite (Option.isSome (mget (.sint .i64) (.list .u8) x1 x0))
  (.ret (.inl (19 : Int)))
  (.get (Tree.run (F_slices_Clone___byte_byte__1 n x2)) fun y3 =>
  .ret (.inr (mput (.sint .i64) (.list .u8) x1 x0 y3))))
def S_label_Ring_Put_1 (n : Nat) : Summ := mkS ⟨[(.ptr 0 0), (.val (.sint .i64) (0 : Int)), (.whole 4 1)], [⟨0, 1, .box (.agg (.pr (.mpv 2) .un))⟩, ⟨2, 3, .mp (.sint .i64) (.list .u8) []⟩, ⟨4, 5, .row .u8 []⟩], 6⟩ [.d (.sint .i64), .d BL2, .d (.list .u8)] fun v => .sub (F_label_Ring_Put_1 n (p0 v) (p1 v) (p2 v)) fun r => .alt r (fun r => .ret ((.val (.sint .i64) r), [⟨0, 7, .box (.agg (.pr (.mpv 2) .un))⟩, ⟨2, 3, .mp (.sint .i64) (.list .u8) (p1 v)⟩, ⟨4, 11, .row .u8 (p2 v)⟩], 12)) (fun r => .ret ((.val (.sint .i64) (0 : Int)), [⟨0, 7, .box (.agg (.pr (.mpv 2) .un))⟩, ⟨2, 9, .mp (.sint .i64) (.list .u8) r⟩, ⟨4, 11, .row .u8 (p2 v)⟩], 12))
theorem ok_label_Ring_Put_1 (n : Nat) : SoundF Tryd.prog 59 (S_label_Ring_Put_1 n) :=
  fn_go false true (c := codeOf Tryd.f59) (tab := mkTab [(102, ⟨S_slices_Clone___byte_byte__1 n, [], [], false⟩)]) (cuts := mkCuts []) Tryd.func59 (by kernel_rfl) (.cons (ok_slices_Clone___byte_byte__1 n) ⟨_, Tryd.func102, by kernel_rfl⟩ .nil) (.none0 (by kernel_rfl)) (fun v => by kernel_rfl)
def F_w18_rings_l0_1 (n : Nat) : Nat → (Int) → (List (Int × List UInt8)) → (List (Int × List UInt8)) → (Bool) → (List (Int × List UInt8)) → Tree (((Bool) × (List (Int × List UInt8))) ⊕ ((List (Int × List UInt8)) × ((Bool) × (List (Int × List UInt8)))))
 | 0 => fun  x0 x1 x2 x3 x4 => .fail
 | k + 1 => fun x0 x1 x2 x3 x4 =>
  .ite ((decide (x0 < (ln x1))) && (decide (x0 < (10 : Int))))
  (.get (inI (List.length x1) x0) fun y5 =>
  .get (gt x1 (0 + y5)) fun y6 =>
  .get (inI (List.length x1) x0) fun y7 =>
  .get (gt x1 (0 + y7)) fun y8 =>
  .get (Tree.run (F_w18_own n y8.2)) fun y9 =>
  .get (Tree.run (F_label_Ring_Put_1 n y6.1 x2 y9)) fun y10 =>
  .alt y10 (fun y11 =>
  .get (inI (List.length x1) x0) fun y12 =>
  .get (gt x1 (0 + y12)) fun y13 =>
  .get (inI (List.length x1) x0) fun y14 =>
  .get (gt x1 (0 + y14)) fun y15 =>
  .get (Tree.run (F_r09_Ring_Put n x3 x4 y13.1 y15.2)) fun y16 =>
  .sub (F_w18_rings_l0_1 n k (w64 (x0 + (1 : Int))) x1 x2 y16.1 y16.2.1) fun y17 =>
  .alt y17 (fun y18 =>
  .ret (.inl (y18.1, y18.2)))
  fun y19 =>
  .ret (.inr (y19.1, y19.2.1, y19.2.2)))
  fun y20 =>
  .get (inI (List.length x1) x0) fun y21 =>
  .get (gt x1 (0 + y21)) fun y22 =>
  .get (inI (List.length x1) x0) fun y23 =>
  .get (gt x1 (0 + y23)) fun y24 =>
  .get (Tree.run (F_r09_Ring_Put n x3 x4 y22.1 y24.2)) fun y25 =>
  .sub (F_w18_rings_l0_1 n k (w64 (x0 + (1 : Int))) x1 y20 y25.1 y25.2.1) fun y26 =>
  .alt y26 (fun y27 =>
  .ret (.inr (y20, y27.1, y27.2)))
  fun y28 =>
  .ret (.inr (y28.1, y28.2.1, y28.2.2)))
  (.ret (.inl (x3, x4)))
def S_w18_rings_l0_1 (n k : Nat) : CutF := mkS ⟨[(.whole 0 2), (.ptr 2 0), (.ptr 6 0), (.val (.sint .i64) (0 : Int))], [⟨0, 1, .row BL1 []⟩, ⟨2, 3, .box (.agg (.pr (.mpv 4) .un))⟩, ⟨4, 5, .mp (.sint .i64) (.list .u8) []⟩, ⟨6, 7, .box (.agg (.pr (.ro false BL1 []) .un))⟩], 8⟩ [.d (.sint .i64), .d BL2, .d BL2, .c, .d BL2] fun v => .sub (F_w18_rings_l0_1 n k (p0 v) (p1 v) (p2 v) (p3 v) (p4 v)) fun r => .alt r (fun r => .ret (.ex 0, [], [⟨2, 9, .box (.agg (.pr (.mpv 4) .un))⟩, ⟨4, 5, .mp (.sint .i64) (.list .u8) (p2 v)⟩, ⟨6, 13, .box (.agg (.pr (.ro r.1 BL1 r.2) .un))⟩, ⟨0, 15, .row BL1 (p1 v)⟩], 16)) (fun r => .ret (.ex 0, [], [⟨2, 9, .box (.agg (.pr (.mpv 4) .un))⟩, ⟨4, 11, .mp (.sint .i64) (.list .u8) r.1⟩, ⟨6, 13, .box (.agg (.pr (.ro r.2.1 BL1 r.2.2) .un))⟩, ⟨0, 15, .row BL1 (p1 v)⟩], 16))
theorem rd_w18_rings_l0_1 (n k : Nat) : Rounds Tryd.prog (Go.Func.ntmps Tryd.f25) (bodyOf Tryd.f25 0) C_25_0 [S_w18_rings_l0_1 n k] (S_w18_rings_l0_1 n (k + 1)) :=
  rounds_go (tab := mkTab [(27, ⟨S_w18_own n, [], [true], false⟩), (59, ⟨S_label_Ring_Put_1 n, [], [], false⟩), (61, ⟨S_r09_Ring_Put n, [], [], true⟩)]) (cuts := mkCuts []) (S_w18_rings_l0_1 n k) [] (.cons (ok_w18_own n) ⟨_, Tryd.func27, by kernel_rfl⟩ (.cons (ok_label_Ring_Put_1 n) ⟨_, Tryd.func59, by kernel_rfl⟩ (.cons (ok_r09_Ring_Put n) ⟨_, Tryd.func61, by kernel_rfl⟩ .nil))) (.none0 (by kernel_rfl)) rfl (fun v => by kernel_rfl)
def F_w18_rings_l0 (n : Nat) : Nat → (Int) → (List (Int × List UInt8)) → (List (Int × List UInt8)) → (List (Int × List UInt8)) → Tree (((Bool) × (List (Int × List UInt8))) ⊕ (((List (Int × List UInt8)) × ((Bool) × (List (Int × List UInt8)))) ⊕ Unit))
 | 0 => fun  x0 x1 x2 x3 => .fail
 | k + 1 => fun x0 x1 x2 x3 =>
  .ite ((decide (x0 < (ln x1))) && (decide (x0 < (10 : Int))))
  (.get (inI (List.length x1) x0) fun y4 =>
  .get (gt x1 (0 + y4)) fun y5 =>
  .get (inI (List.length x1) x0) fun y6 =>
  .get (gt x1 (0 + y6)) fun y7 =>
  .get (Tree.run (F_w18_own n y7.2)) fun y8 =>
  .get (Tree.run (F_label_Ring_Put_1 n y5.1 x2 y8)) fun y9 =>
  .alt y9 (fun y10 =>
  .get (inI (List.length x1) x0) fun y11 =>
  .get (gt x1 (0 + y11)) fun y12 =>
  .get (inI (List.length x1) x0) fun y13 =>
  .get (gt x1 (0 + y13)) fun y14 =>
  .get (Tree.run (F_r09_Ring_Put n false x3 y12.1 y14.2)) fun y15 =>
  .sub (F_w18_rings_l0_1 n k (w64 (x0 + (1 : Int))) x1 x2 y15.1 y15.2.1) fun y16 =>
  .alt y16 (fun y17 =>
  .ret (.inl (y17.1, y17.2)))
  fun y18 =>
  .ret (.inr (.inl (y18.1, y18.2.1, y18.2.2))))
  fun y19 =>
  .get (inI (List.length x1) x0) fun y20 =>
  .get (gt x1 (0 + y20)) fun y21 =>
  .get (inI (List.length x1) x0) fun y22 =>
  .get (gt x1 (0 + y22)) fun y23 =>
  .get (Tree.run (F_r09_Ring_Put n false x3 y21.1 y23.2)) fun y24 =>
  .sub (F_w18_rings_l0_1 n k (w64 (x0 + (1 : Int))) x1 y19 y24.1 y24.2.1) fun y25 =>
  .alt y25 (fun y26 =>
  .ret (.inr (.inl (y19, y26.1, y26.2))))
  fun y27 =>
  .ret (.inr (.inl (y27.1, y27.2.1, y27.2.2))))
  (.ret (.inr (.inr ())))
def S_w18_rings_l0 (n k : Nat) : CutF := mkS ⟨[(.whole 0 2), (.ptr 2 0), (.ptr 6 0), (.val (.sint .i64) (0 : Int))], [⟨0, 1, .row BL1 []⟩, ⟨2, 3, .box (.agg (.pr (.mpv 4) .un))⟩, ⟨4, 5, .mp (.sint .i64) (.list .u8) []⟩, ⟨6, 7, .box (.agg (.pr (.whole 8 2) .un))⟩, ⟨8, 9, .row BL1 []⟩], 10⟩ [.d (.sint .i64), .d BL2, .d BL2, .d BL2] fun v => .sub (F_w18_rings_l0 n k (p0 v) (p1 v) (p2 v) (p3 v)) fun r => .alt r (fun r => .ret (.ex 0, [], [⟨2, 11, .box (.agg (.pr (.mpv 4) .un))⟩, ⟨4, 5, .mp (.sint .i64) (.list .u8) (p2 v)⟩, ⟨6, 15, .box (.agg (.pr (.ro r.1 BL1 r.2) .un))⟩, ⟨0, 17, .row BL1 (p1 v)⟩], 18)) (fun r => .alt r (fun r => .ret (.ex 0, [], [⟨2, 11, .box (.agg (.pr (.mpv 4) .un))⟩, ⟨4, 13, .mp (.sint .i64) (.list .u8) r.1⟩, ⟨6, 15, .box (.agg (.pr (.ro r.2.1 BL1 r.2.2) .un))⟩, ⟨0, 17, .row BL1 (p1 v)⟩], 18)) (fun r => .ret (.ex 0, [], [⟨2, 11, .box (.agg (.pr (.mpv 4) .un))⟩, ⟨4, 5, .mp (.sint .i64) (.list .u8) (p2 v)⟩, ⟨6, 15, .box (.agg (.pr (.whole 16 2) .un))⟩, ⟨16, 17, .row BL1 (p3 v)⟩, ⟨0, 19, .row BL1 (p1 v)⟩], 20)))
theorem rd_w18_rings_l0 (n k : Nat) : Rounds Tryd.prog (Go.Func.ntmps Tryd.f25) (bodyOf Tryd.f25 0) C_25_0 [S_w18_rings_l0 n k, S_w18_rings_l0_1 n k] (S_w18_rings_l0 n (k + 1)) :=
  rounds_go (tab := mkTab [(27, ⟨S_w18_own n, [], [true], false⟩), (59, ⟨S_label_Ring_Put_1 n, [], [], false⟩), (61, ⟨S_r09_Ring_Put n, [], [], true⟩)]) (cuts := mkCuts []) (S_w18_rings_l0 n k) [S_w18_rings_l0_1 n k] (.cons (ok_w18_own n) ⟨_, Tryd.func27, by kernel_rfl⟩ (.cons (ok_label_Ring_Put_1 n) ⟨_, Tryd.func59, by kernel_rfl⟩ (.cons (ok_r09_Ring_Put n) ⟨_, Tryd.func61, by kernel_rfl⟩ .nil))) (.none0 (by kernel_rfl)) rfl (fun v => by kernel_rfl)
theorem ok_w18_rings_l0 (n k : Nat) : SoundC Tryd.prog (Go.Func.ntmps Tryd.f25) (.loop (bodyOf Tryd.f25 0)) (wr (bodyOf Tryd.f25 0)) (C_25_0 (S_w18_rings_l0 n k)) :=
  loop_go (K := fun k => [S_w18_rings_l0 n k, S_w18_rings_l0_1 n k]) (fun _ => rfl) (by kernel_rfl) ⟨z_go fun _ => by kernel_rfl, z_go fun _ => by kernel_rfl, trivial⟩ (fun k => ⟨rd_w18_rings_l0 n k, (rd_w18_rings_l0_1 n k).mono (List.forall_mem_cons.2 ⟨(.tail _ (.head _)), (fun _ h => by cases h)⟩), trivial⟩) k rfl
def F_w18_rings (n : Nat) (x0 : List (Int × List UInt8)) : Tree ((Bool) × ((List (Int × List UInt8)) × (List (Int × List UInt8)))) :=
  .sub (F_label_New n) fun y1 =>
  .sub (F_w18_rings_l0 n n (0 : Int) x0 ([] : List (Int × (List UInt8))) ([] : List (Int × (List UInt8)))) fun y2 =>
  .alt y2 (fun y3 =>
  .ret (y3.1, y3.2, ([] : List (Int × (List UInt8)))))
  fun y4 =>
  .alt y4 (fun y5 =>
  .ret (y5.2.1, y5.2.2, y5.1))
  fun y6 =>
  .ret (false, ([] : List (Int × (List UInt8))), ([] : List (Int × (List UInt8))))
def S_w18_rings (n : Nat) : Summ := mkS ⟨[(.whole 0 2)], [⟨0, 1, .row BL1 []⟩], 2⟩ [.d BL2] fun v => .sub (F_w18_rings n (p0 v)) fun r => .ret ((.tup (.pr (.ptr 2 0) (.pr (.agg (.pr (.ro r.1 BL1 r.2.1) .un)) .un))), [⟨2, 3, .box (.agg (.pr (.mpv 4) .un))⟩, ⟨4, 5, .mp (.sint .i64) (.list .u8) r.2.2⟩, ⟨0, 7, .row BL1 (p0 v)⟩], 8)
theorem ok_w18_rings (n : Nat) : SoundF Tryd.prog 25 (S_w18_rings n) :=
  fn_go true true (c := codeOf Tryd.f25) (tab := mkTab [(58, ⟨S_label_New n, [], [], false⟩)]) (cuts := mkCuts [(0, C_25_0 (S_w18_rings_l0 n n))]) Tryd.func25 (by kernel_rfl) (.cons (ok_label_New n) ⟨_, Tryd.func58, by kernel_rfl⟩ .nil) (CutsOK.list (l := [(0, .lp (bodyOf Tryd.f25 0))]) (by kernel_rfl) (LoopsOK.all ⟨.inr ⟨_, rfl, ok_w18_rings_l0 n n⟩, trivial⟩)) (fun v => by kernel_rfl)
def F_blob_Seal_1_4 (n : Nat) (x0 : List UInt8) (x1 : List UInt8) (x2 : Int) (x3 : List UInt8) : Tree ((Int) × (List UInt8)) :=
  .get (Tree.run (F_blob_bound n x2 x3)) fun y4 =>
  .get (Tree.run (F_box_Seal n false x0 false x1 y4 ([] : List UInt8))) fun y5 =>
  .ite (!(decide (y5.1 = (0 : Int))))
  (.ret (y5.1, ([] : List UInt8)))
  (.get (appI 140737488355328 ([] : List UInt8) x1) fun y6 =>
  .get (appI 140737488355328 y6 y5.2) fun y7 =>
  .ret ((0 : Int), y7))
def S_blob_Seal_1_4 (n : Nat) : Summ := mkS ⟨[(.whole 0 1), (.whole 2 1), (.ptr 4 0), (.ptr 6 0), (.ptr 8 0)], [⟨0, 1, .row .u8 []⟩, ⟨2, 3, .row .u8 []⟩, ⟨4, 5, .box (.val (.sint .i64) (0 : Int))⟩, ⟨6, 7, .box (.val (.arr 32 .u8) [])⟩, ⟨8, 9, .box (.snil (some .u8))⟩], 10⟩ [.d (.list .u8), .d (.list .u8), .d (.sint .i64), .d (.arr 32 .u8)] fun v => .sub (F_blob_Seal_1_4 n (p0 v) (p1 v) (p2 v) (p3 v)) fun r => .ret ((.tup (.pr (.whole 10 1) (.pr (.val (.sint .i64) r.1) .un))), [⟨10, 11, .row .u8 r.2⟩, ⟨4, 13, .box (.val (.sint .i64) (p2 v))⟩, ⟨6, 15, .box (.val (.arr 32 .u8) (p3 v))⟩, ⟨8, 17, .box (.whole 18 1)⟩, ⟨18, 19, .row .u8 ([] : List UInt8)⟩, ⟨0, 21, .row .u8 (p0 v)⟩, ⟨2, 23, .row .u8 (p1 v)⟩], 24)
theorem ok_blob_Seal_1_4 (n : Nat) : SoundF Tryd.prog 78 (S_blob_Seal_1_4 n) :=
  fn_go false true (c := codeOf Tryd.f78) (tab := mkTab [(80, ⟨S_blob_bound n, [], [], false⟩), (79, ⟨S_box_Seal n, [], [true, true, true, true], false⟩)]) (cuts := mkCuts []) Tryd.func78 (by kernel_rfl) (.cons (ok_blob_bound n) ⟨_, Tryd.func80, by kernel_rfl⟩ (.cons (ok_box_Seal n) ⟨_, Tryd.func79, by kernel_rfl⟩ .nil)) (.none0 (by kernel_rfl)) (fun v => by kernel_rfl)
def F_blob_Seal_1_5 (n : Nat) (x0 : Nat) (x1 : Nat) (x2 : List UInt8) (x3 : List UInt8) (x4 : Int) (x5 : List UInt8) : Tree ((Int) × (List UInt8)) :=
  .get (Tree.run (F_blob_bound n x4 x5)) fun y6 =>
  .get (Tree.run (F_box_Seal n false x2 false (List.take x1 (List.drop x0 x3)) y6 ([] : List UInt8))) fun y7 =>
  .ite (!(decide (y7.1 = (0 : Int))))
  (.ret (y7.1, ([] : List UInt8)))
  (.get (appI 140737488355328 ([] : List UInt8) (List.take x1 (List.drop x0 x3))) fun y8 =>
  .get (appI 140737488355328 y8 y7.2) fun y9 =>
  .ret ((0 : Int), y9))
def S_blob_Seal_1_5 (n : Nat) : Summ := mkS ⟨[(.whole 0 1), (.bwin 2 0 .u8 12 0 0), (.ptr 4 0), (.ptr 6 0), (.ptr 8 0)], [⟨0, 1, .row .u8 []⟩, ⟨2, 3, .box (.val (.arr 12 .u8) [])⟩, ⟨4, 5, .box (.val (.sint .i64) (0 : Int))⟩, ⟨6, 7, .box (.val (.arr 32 .u8) [])⟩, ⟨8, 9, .box (.snil (some .u8))⟩], 10⟩ [.n, .n, .d (.list .u8), .d (.arr 12 .u8), .d (.sint .i64), .d (.arr 32 .u8)] fun v => .sub (F_blob_Seal_1_5 n (p0 v) (p1 v) (p2 v) (p3 v) (p4 v) (p5 v)) fun r => .ret ((.tup (.pr (.whole 10 1) (.pr (.val (.sint .i64) r.1) .un))), [⟨10, 11, .row .u8 r.2⟩, ⟨2, 13, .box (.val (.arr 12 .u8) (p3 v))⟩, ⟨4, 15, .box (.val (.sint .i64) (p4 v))⟩, ⟨6, 17, .box (.val (.arr 32 .u8) (p5 v))⟩, ⟨8, 19, .box (.whole 20 1)⟩, ⟨20, 21, .row .u8 ([] : List UInt8)⟩, ⟨0, 23, .row .u8 (p2 v)⟩], 24)
theorem ok_blob_Seal_1_5 (n : Nat) : SoundF Tryd.prog 78 (S_blob_Seal_1_5 n) :=
  fn_go false true (c := codeOf Tryd.f78) (tab := mkTab [(80, ⟨S_blob_bound n, [], [], false⟩), (79, ⟨S_box_Seal n, [], [true, true, true, true], false⟩)]) (cuts := mkCuts []) Tryd.func78 (by kernel_rfl) (.cons (ok_blob_bound n) ⟨_, Tryd.func80, by kernel_rfl⟩ (.cons (ok_box_Seal n) ⟨_, Tryd.func79, by kernel_rfl⟩ .nil)) (.none0 (by kernel_rfl)) (fun v => by kernel_rfl)
def F_blob_Seal_1_6 (n : Nat) (x0 : Nat) (x1 : Nat) (x2 : List UInt8) (x3 : List UInt8) (x4 : Int) (x5 : List UInt8) : Tree ((Int) × (List UInt8)) :=
  .get (Tree.run (F_blob_bound n x4 x5)) fun y6 =>
  .get (Tree.run (F_box_Seal n false (List.take x1 (List.drop x0 x2)) false x3 y6 ([] : List UInt8))) fun y7 =>
  .ite (!(decide (y7.1 = (0 : Int))))
  (.ret (y7.1, ([] : List UInt8)))
  (.get (appI 140737488355328 ([] : List UInt8) x3) fun y8 =>
  .get (appI 140737488355328 y8 y7.2) fun y9 =>
  .ret ((0 : Int), y9))
def S_blob_Seal_1_6 (n : Nat) : Summ := mkS ⟨[(.bwin 0 0 .u8 32 0 0), (.whole 2 1), (.ptr 4 0), (.ptr 6 0), (.ptr 8 0)], [⟨0, 1, .box (.val (.arr 32 .u8) [])⟩, ⟨2, 3, .row .u8 []⟩, ⟨4, 5, .box (.val (.sint .i64) (0 : Int))⟩, ⟨6, 7, .box (.val (.arr 32 .u8) [])⟩, ⟨8, 9, .box (.snil (some .u8))⟩], 10⟩ [.n, .n, .d (.arr 32 .u8), .d (.list .u8), .d (.sint .i64), .d (.arr 32 .u8)] fun v => .sub (F_blob_Seal_1_6 n (p0 v) (p1 v) (p2 v) (p3 v) (p4 v) (p5 v)) fun r => .ret ((.tup (.pr (.whole 10 1) (.pr (.val (.sint .i64) r.1) .un))), [⟨10, 11, .row .u8 r.2⟩, ⟨0, 13, .box (.val (.arr 32 .u8) (p2 v))⟩, ⟨4, 15, .box (.val (.sint .i64) (p4 v))⟩, ⟨6, 17, .box (.val (.arr 32 .u8) (p5 v))⟩, ⟨8, 19, .box (.whole 20 1)⟩, ⟨20, 21, .row .u8 ([] : List UInt8)⟩, ⟨2, 23, .row .u8 (p3 v)⟩], 24)
theorem ok_blob_Seal_1_6 (n : Nat) : SoundF Tryd.prog 78 (S_blob_Seal_1_6 n) :=
  fn_go false true (c := codeOf Tryd.f78) (tab := mkTab [(80, ⟨S_blob_bound n, [], [], false⟩), (79, ⟨S_box_Seal n, [], [true, true, true, true], false⟩)]) (cuts := mkCuts []) Tryd.func78 (by kernel_rfl) (.cons (ok_blob_bound n) ⟨_, Tryd.func80, by kernel_rfl⟩ (.cons (ok_box_Seal n) ⟨_, Tryd.func79, by kernel_rfl⟩ .nil)) (.none0 (by kernel_rfl)) (fun v => by kernel_rfl)
def F_blob_Seal_1_7 (n : Nat) (x0 : Nat) (x1 : Nat) (x2 : Nat) (x3 : Nat) (x4 : List UInt8) (x5 : List UInt8) (x6 : Int) (x7 : List UInt8) : Tree ((Int) × (List UInt8)) :=
  .get (Tree.run (F_blob_bound n x6 x7)) fun y8 =>
  .get (Tree.run (F_box_Seal n false (List.take x1 (List.drop x0 x4)) false (List.take x3 (List.drop x2 x5)) y8 ([] : List UInt8))) fun y9 =>
  .ite (!(decide (y9.1 = (0 : Int))))
  (.ret (y9.1, ([] : List UInt8)))
  (.get (appI 140737488355328 ([] : List UInt8) (List.take x3 (List.drop x2 x5))) fun y10 =>
  .get (appI 140737488355328 y10 y9.2) fun y11 =>
  .ret ((0 : Int), y11))
def S_blob_Seal_1_7 (n : Nat) : Summ := mkS ⟨[(.bwin 0 0 .u8 32 0 0), (.bwin 2 0 .u8 12 0 0), (.ptr 4 0), (.ptr 6 0), (.ptr 8 0)], [⟨0, 1, .box (.val (.arr 32 .u8) [])⟩, ⟨2, 3, .box (.val (.arr 12 .u8) [])⟩, ⟨4, 5, .box (.val (.sint .i64) (0 : Int))⟩, ⟨6, 7, .box (.val (.arr 32 .u8) [])⟩, ⟨8, 9, .box (.snil (some .u8))⟩], 10⟩ [.n, .n, .n, .n, .d (.arr 32 .u8), .d (.arr 12 .u8), .d (.sint .i64), .d (.arr 32 .u8)] fun v => .sub (F_blob_Seal_1_7 n (p0 v) (p1 v) (p2 v) (p3 v) (p4 v) (p5 v) (p6 v) (p7 v)) fun r => .ret ((.tup (.pr (.whole 10 1) (.pr (.val (.sint .i64) r.1) .un))), [⟨10, 11, .row .u8 r.2⟩, ⟨0, 13, .box (.val (.arr 32 .u8) (p4 v))⟩, ⟨2, 15, .box (.val (.arr 12 .u8) (p5 v))⟩, ⟨4, 17, .box (.val (.sint .i64) (p6 v))⟩, ⟨6, 19, .box (.val (.arr 32 .u8) (p7 v))⟩, ⟨8, 21, .box (.whole 22 1)⟩, ⟨22, 23, .row .u8 ([] : List UInt8)⟩], 24)
theorem ok_blob_Seal_1_7 (n : Nat) : SoundF Tryd.prog 78 (S_blob_Seal_1_7 n) :=
  fn_go false true (c := codeOf Tryd.f78) (tab := mkTab [(80, ⟨S_blob_bound n, [], [], false⟩), (79, ⟨S_box_Seal n, [], [true, true, true, true], false⟩)]) (cuts := mkCuts []) Tryd.func78 (by kernel_rfl) (.cons (ok_blob_bound n) ⟨_, Tryd.func80, by kernel_rfl⟩ (.cons (ok_box_Seal n) ⟨_, Tryd.func79, by kernel_rfl⟩ .nil)) (.none0 (by kernel_rfl)) (fun v => by kernel_rfl)
def F_blob_with_1 (n : Nat) (x0 : Int) (x1 : Int) (x2 : List (Int × List UInt8)) (x3 : Int) (x4 : List UInt8) : Tree ((Int) × (List UInt8)) :=
  .sub (F_label_Ring_Key n ([115, 101, 97, 108] : List UInt8) x0 x2) fun y5 =>
  .alt y5 (fun y6 =>
  .ite (!(decide (y6 = (0 : Int))))
  (.ret (y6, ([] : List UInt8)))
  (.sub (F_nonce_Of n x0 x1) fun y7 =>
  .alt y7 (fun y8 =>
  .ite true
  (.ret ((1 : Int), ([] : List UInt8)))
  (.sub (F_blob_Seal_1_4 n ([] : List UInt8) ([] : List UInt8) x3 x4) fun y9 =>
  .ret (y9.1, y9.2)))
  fun y10 =>
  .ite false
  (.ret ((0 : Int), ([] : List UInt8)))
  (.sub (F_blob_Seal_1_5 n 0 12 ([] : List UInt8) y10 x3 x4) fun y11 =>
  .ret (y11.1, y11.2))))
  fun y12 =>
  .ite false
  (.ret ((0 : Int), ([] : List UInt8)))
  (.sub (F_nonce_Of n x0 x1) fun y13 =>
  .alt y13 (fun y14 =>
  .ite true
  (.ret ((1 : Int), ([] : List UInt8)))
  (.sub (F_blob_Seal_1_6 n 0 32 y12 ([] : List UInt8) x3 x4) fun y15 =>
  .ret (y15.1, y15.2)))
  fun y16 =>
  .ite false
  (.ret ((0 : Int), ([] : List UInt8)))
  (.sub (F_blob_Seal_1_7 n 0 32 0 12 y12 y16 x3 x4) fun y17 =>
  .ret (y17.1, y17.2)))
def S_blob_with_1 (n : Nat) : Summ := mkS ⟨[(.ptr 0 0), (.val (.sint .i64) (0 : Int)), (.val (.sint .i64) (0 : Int)), (.clo 78 (.pr (.ptr 4 0) (.pr (.ptr 6 0) (.pr (.ptr 8 0) .un))))], [⟨0, 1, .box (.agg (.pr (.mpv 2) .un))⟩, ⟨2, 3, .mp (.sint .i64) (.list .u8) []⟩, ⟨4, 5, .box (.val (.sint .i64) (0 : Int))⟩, ⟨6, 7, .box (.val (.arr 32 .u8) [])⟩, ⟨8, 9, .box (.snil (some .u8))⟩], 10⟩ [.d (.sint .i64), .d (.sint .i64), .d BL2, .d (.sint .i64), .d (.arr 32 .u8)] fun v => .sub (F_blob_with_1 n (p0 v) (p1 v) (p2 v) (p3 v) (p4 v)) fun r => .ret ((.tup (.pr (.whole 10 1) (.pr (.val (.sint .i64) r.1) .un))), [⟨10, 11, .row .u8 r.2⟩, ⟨0, 13, .box (.agg (.pr (.mpv 2) .un))⟩, ⟨2, 3, .mp (.sint .i64) (.list .u8) (p2 v)⟩, ⟨4, 17, .box (.val (.sint .i64) (p3 v))⟩, ⟨6, 19, .box (.val (.arr 32 .u8) (p4 v))⟩, ⟨8, 21, .box (.whole 22 1)⟩, ⟨22, 23, .row .u8 ([] : List UInt8)⟩], 24)
theorem ok_blob_with_1 (n : Nat) : SoundF Tryd.prog 77 (S_blob_with_1 n) :=
  fn_go false true (c := codeOf Tryd.f77) (tab := mkTab [(63, ⟨S_label_Ring_Key n, [], [], false⟩), (125, ⟨S_nonce_Of n, [], [], false⟩), (78, ⟨orS (S_blob_Seal_1_4 n) (orS (S_blob_Seal_1_5 n) (orS (S_blob_Seal_1_6 n) (S_blob_Seal_1_7 n))), [], [], false⟩)]) (cuts := mkCuts []) Tryd.func77 (by kernel_rfl) (.cons (ok_label_Ring_Key n) ⟨_, Tryd.func63, by kernel_rfl⟩ (.cons (ok_nonce_Of n) ⟨_, Tryd.func125, by kernel_rfl⟩ (.cons (.or (ok_blob_Seal_1_4 n) (.or (ok_blob_Seal_1_5 n) (.or (ok_blob_Seal_1_6 n) (ok_blob_Seal_1_7 n)))) ⟨_, Tryd.func78, by kernel_rfl⟩ .nil))) (.none0 (by kernel_rfl)) (fun v => by kernel_rfl)
def F_blob_Seal_v1 (n : Nat) (x0 : Int) (x1 : Int) (x2 : List UInt8) (x3 : Int) (x4 : List (Int × List UInt8)) : Tree ((List UInt8) × Int) :=
  .sub (F_blob_kind n x1) fun y5 =>
  .ite ((!y5) || ((decide (x3 < (1 : Int))) || (decide ((1099511627776 : Int) < x3))))
  (.ret (([] : List UInt8), (1 : Int)))
  (.ite false
  (.ret (([] : List UInt8), (2 : Int)))
  (.sub (F_blob_with_1 n x0 x3 x4 x1 x2) fun y6 =>
  .ret (y6.2, y6.1)))
def S_blob_Seal_v1 (n : Nat) : Summ := mkS ⟨[(.ptr 0 0), (.val (.sint .i64) (0 : Int)), (.val (.sint .i64) (0 : Int)), (.val (.arr 32 .u8) []), (.val (.sint .i64) (0 : Int)), (.snil (some .u8))], [⟨0, 1, .box (.agg (.pr (.mpv 2) .un))⟩, ⟨2, 3, .mp (.sint .i64) (.list .u8) []⟩], 4⟩ [.d (.sint .i64), .d (.sint .i64), .d (.arr 32 .u8), .d (.sint .i64), .d BL2] fun v => .sub (F_blob_Seal_v1 n (p0 v) (p1 v) (p2 v) (p3 v) (p4 v)) fun r => .ret ((.tup (.pr (.ro false .u8 r.1) (.pr (.val (.sint .i64) r.2) .un))), [⟨0, 5, .box (.agg (.pr (.mpv 2) .un))⟩, ⟨2, 3, .mp (.sint .i64) (.list .u8) (p4 v)⟩], 8)
theorem ok_blob_Seal_v1 (n : Nat) : SoundF Tryd.prog 29 (S_blob_Seal_v1 n) :=
  fn_go true true (c := codeOf Tryd.f29) (tab := mkTab [(74, ⟨S_blob_kind n, [], [], false⟩), (77, ⟨S_blob_with_1 n, [], [], false⟩)]) (cuts := mkCuts []) Tryd.func29 (by kernel_rfl) (.cons (ok_blob_kind n) ⟨_, Tryd.func74, by kernel_rfl⟩ (.cons (ok_blob_with_1 n) ⟨_, Tryd.func77, by kernel_rfl⟩ .nil)) (.none0 (by kernel_rfl)) (fun v => by kernel_rfl)
def F_blob_opened_1 (n : Nat) (x0 : List UInt8) (x1 : List UInt8) (x2 : Int) (x3 : List UInt8) (x4 : List UInt8) : Tree (Int ⊕ ((List UInt8) × Int)) :=
  .get (Tree.run (F_blob_bound n x2 x3)) fun y5 =>
  .get (subI x4 (12 : Int) (ln x4)) fun y6 =>
  .get (Tree.run (F_box_Open n false x0 false x1 y5 y6)) fun y7 =>
  .alt y7 (fun y8 =>
  .ret (.inl y8))
  fun y9 =>
  .ret (.inr (y9.1, y9.2))
def S_blob_opened_1 (n : Nat) : Summ := mkS ⟨[(.whole 0 1), (.whole 2 1), (.ptr 4 0), (.ptr 6 0), (.ptr 8 0)], [⟨0, 1, .row .u8 []⟩, ⟨2, 3, .row .u8 []⟩, ⟨4, 5, .box (.val (.sint .i64) (0 : Int))⟩, ⟨6, 7, .box (.val (.arr 32 .u8) [])⟩, ⟨8, 9, .box (.ro false .u8 [])⟩], 10⟩ [.d (.list .u8), .d (.list .u8), .d (.sint .i64), .d (.arr 32 .u8), .c, .d (.list .u8)] fun v => .sub (F_blob_opened_1 n (p0 v) (p1 v) (p2 v) (p3 v) (p5 v)) fun r => .alt r (fun r => .ret ((.tup (.pr (.whole 10 1) (.pr (.val (.sint .i64) r) .un))), [⟨10, 11, .row .u8 ([] : List UInt8)⟩, ⟨4, 13, .box (.val (.sint .i64) (p2 v))⟩, ⟨6, 15, .box (.val (.arr 32 .u8) (p3 v))⟩, ⟨8, 17, .box (.ro (p4 v) .u8 (p5 v))⟩], 18)) (fun r => .ret ((.tup (.pr (.ro false .u8 r.1) (.pr (.val (.sint .i64) r.2) .un))), [⟨4, 11, .box (.val (.sint .i64) (p2 v))⟩, ⟨6, 13, .box (.val (.arr 32 .u8) (p3 v))⟩, ⟨8, 15, .box (.ro (p4 v) .u8 (p5 v))⟩], 16))
theorem ok_blob_opened_1 (n : Nat) : SoundF Tryd.prog 130 (S_blob_opened_1 n) :=
  fn_go false true (c := codeOf Tryd.f130) (tab := mkTab [(80, ⟨S_blob_bound n, [], [], false⟩), (93, ⟨S_box_Open n, [], [], true⟩)]) (cuts := mkCuts []) Tryd.func130 (by kernel_rfl) (.cons (ok_blob_bound n) ⟨_, Tryd.func80, by kernel_rfl⟩ (.cons (ok_box_Open n) ⟨_, Tryd.func93, by kernel_rfl⟩ .nil)) (.none0 (by kernel_rfl)) (fun v => by kernel_rfl)
def F_blob_opened_1_1 (n : Nat) (x0 : Nat) (x1 : Nat) (x2 : List UInt8) (x3 : List UInt8) (x4 : Int) (x5 : List UInt8) (x6 : List UInt8) : Tree (Int ⊕ ((List UInt8) × Int)) :=
  .get (Tree.run (F_blob_bound n x4 x5)) fun y7 =>
  .get (subI x6 (12 : Int) (ln x6)) fun y8 =>
  .get (Tree.run (F_box_Open n false x2 false (List.take x1 (List.drop x0 x3)) y7 y8)) fun y9 =>
  .alt y9 (fun y10 =>
  .ret (.inl y10))
  fun y11 =>
  .ret (.inr (y11.1, y11.2))
def S_blob_opened_1_1 (n : Nat) : Summ := mkS ⟨[(.whole 0 1), (.bwin 2 0 .u8 12 0 0), (.ptr 4 0), (.ptr 6 0), (.ptr 8 0)], [⟨0, 1, .row .u8 []⟩, ⟨2, 3, .box (.val (.arr 12 .u8) [])⟩, ⟨4, 5, .box (.val (.sint .i64) (0 : Int))⟩, ⟨6, 7, .box (.val (.arr 32 .u8) [])⟩, ⟨8, 9, .box (.ro false .u8 [])⟩], 10⟩ [.n, .n, .d (.list .u8), .d (.arr 12 .u8), .d (.sint .i64), .d (.arr 32 .u8), .c, .d (.list .u8)] fun v => .sub (F_blob_opened_1_1 n (p0 v) (p1 v) (p2 v) (p3 v) (p4 v) (p5 v) (p7 v)) fun r => .alt r (fun r => .ret ((.tup (.pr (.whole 10 1) (.pr (.val (.sint .i64) r) .un))), [⟨10, 11, .row .u8 ([] : List UInt8)⟩, ⟨4, 13, .box (.val (.sint .i64) (p4 v))⟩, ⟨6, 15, .box (.val (.arr 32 .u8) (p5 v))⟩, ⟨8, 17, .box (.ro (p6 v) .u8 (p7 v))⟩], 18)) (fun r => .ret ((.tup (.pr (.ro false .u8 r.1) (.pr (.val (.sint .i64) r.2) .un))), [⟨4, 11, .box (.val (.sint .i64) (p4 v))⟩, ⟨6, 13, .box (.val (.arr 32 .u8) (p5 v))⟩, ⟨8, 15, .box (.ro (p6 v) .u8 (p7 v))⟩], 16))
theorem ok_blob_opened_1_1 (n : Nat) : SoundF Tryd.prog 130 (S_blob_opened_1_1 n) :=
  fn_go false true (c := codeOf Tryd.f130) (tab := mkTab [(80, ⟨S_blob_bound n, [], [], false⟩), (93, ⟨S_box_Open n, [], [], true⟩)]) (cuts := mkCuts []) Tryd.func130 (by kernel_rfl) (.cons (ok_blob_bound n) ⟨_, Tryd.func80, by kernel_rfl⟩ (.cons (ok_box_Open n) ⟨_, Tryd.func93, by kernel_rfl⟩ .nil)) (.none0 (by kernel_rfl)) (fun v => by kernel_rfl)
def F_blob_opened_1_2 (n : Nat) (x0 : Nat) (x1 : Nat) (x2 : List UInt8) (x3 : List UInt8) (x4 : Int) (x5 : List UInt8) (x6 : List UInt8) : Tree (Int ⊕ ((List UInt8) × Int)) :=
  .get (Tree.run (F_blob_bound n x4 x5)) fun y7 =>
  .get (subI x6 (12 : Int) (ln x6)) fun y8 =>
  .get (Tree.run (F_box_Open n false (List.take x1 (List.drop x0 x2)) false x3 y7 y8)) fun y9 =>
  .alt y9 (fun y10 =>
  .ret (.inl y10))
  fun y11 =>
  .ret (.inr (y11.1, y11.2))
def S_blob_opened_1_2 (n : Nat) : Summ := mkS ⟨[(.bwin 0 0 .u8 32 0 0), (.whole 2 1), (.ptr 4 0), (.ptr 6 0), (.ptr 8 0)], [⟨0, 1, .box (.val (.arr 32 .u8) [])⟩, ⟨2, 3, .row .u8 []⟩, ⟨4, 5, .box (.val (.sint .i64) (0 : Int))⟩, ⟨6, 7, .box (.val (.arr 32 .u8) [])⟩, ⟨8, 9, .box (.ro false .u8 [])⟩], 10⟩ [.n, .n, .d (.arr 32 .u8), .d (.list .u8), .d (.sint .i64), .d (.arr 32 .u8), .c, .d (.list .u8)] fun v => .sub (F_blob_opened_1_2 n (p0 v) (p1 v) (p2 v) (p3 v) (p4 v) (p5 v) (p7 v)) fun r => .alt r (fun r => .ret ((.tup (.pr (.whole 10 1) (.pr (.val (.sint .i64) r) .un))), [⟨10, 11, .row .u8 ([] : List UInt8)⟩, ⟨4, 13, .box (.val (.sint .i64) (p4 v))⟩, ⟨6, 15, .box (.val (.arr 32 .u8) (p5 v))⟩, ⟨8, 17, .box (.ro (p6 v) .u8 (p7 v))⟩], 18)) (fun r => .ret ((.tup (.pr (.ro false .u8 r.1) (.pr (.val (.sint .i64) r.2) .un))), [⟨4, 11, .box (.val (.sint .i64) (p4 v))⟩, ⟨6, 13, .box (.val (.arr 32 .u8) (p5 v))⟩, ⟨8, 15, .box (.ro (p6 v) .u8 (p7 v))⟩], 16))
theorem ok_blob_opened_1_2 (n : Nat) : SoundF Tryd.prog 130 (S_blob_opened_1_2 n) :=
  fn_go false true (c := codeOf Tryd.f130) (tab := mkTab [(80, ⟨S_blob_bound n, [], [], false⟩), (93, ⟨S_box_Open n, [], [], true⟩)]) (cuts := mkCuts []) Tryd.func130 (by kernel_rfl) (.cons (ok_blob_bound n) ⟨_, Tryd.func80, by kernel_rfl⟩ (.cons (ok_box_Open n) ⟨_, Tryd.func93, by kernel_rfl⟩ .nil)) (.none0 (by kernel_rfl)) (fun v => by kernel_rfl)
def F_blob_opened_1_3 (n : Nat) (x0 : Nat) (x1 : Nat) (x2 : Nat) (x3 : Nat) (x4 : List UInt8) (x5 : List UInt8) (x6 : Int) (x7 : List UInt8) (x8 : List UInt8) : Tree (Int ⊕ ((List UInt8) × Int)) :=
  .get (Tree.run (F_blob_bound n x6 x7)) fun y9 =>
  .get (subI x8 (12 : Int) (ln x8)) fun y10 =>
  .get (Tree.run (F_box_Open n false (List.take x1 (List.drop x0 x4)) false (List.take x3 (List.drop x2 x5)) y9 y10)) fun y11 =>
  .alt y11 (fun y12 =>
  .ret (.inl y12))
  fun y13 =>
  .ret (.inr (y13.1, y13.2))
def S_blob_opened_1_3 (n : Nat) : Summ := mkS ⟨[(.bwin 0 0 .u8 32 0 0), (.bwin 2 0 .u8 12 0 0), (.ptr 4 0), (.ptr 6 0), (.ptr 8 0)], [⟨0, 1, .box (.val (.arr 32 .u8) [])⟩, ⟨2, 3, .box (.val (.arr 12 .u8) [])⟩, ⟨4, 5, .box (.val (.sint .i64) (0 : Int))⟩, ⟨6, 7, .box (.val (.arr 32 .u8) [])⟩, ⟨8, 9, .box (.ro false .u8 [])⟩], 10⟩ [.n, .n, .n, .n, .d (.arr 32 .u8), .d (.arr 12 .u8), .d (.sint .i64), .d (.arr 32 .u8), .c, .d (.list .u8)] fun v => .sub (F_blob_opened_1_3 n (p0 v) (p1 v) (p2 v) (p3 v) (p4 v) (p5 v) (p6 v) (p7 v) (p9 v)) fun r => .alt r (fun r => .ret ((.tup (.pr (.whole 10 1) (.pr (.val (.sint .i64) r) .un))), [⟨10, 11, .row .u8 ([] : List UInt8)⟩, ⟨4, 13, .box (.val (.sint .i64) (p6 v))⟩, ⟨6, 15, .box (.val (.arr 32 .u8) (p7 v))⟩, ⟨8, 17, .box (.ro (p8 v) .u8 (p9 v))⟩], 18)) (fun r => .ret ((.tup (.pr (.ro false .u8 r.1) (.pr (.val (.sint .i64) r.2) .un))), [⟨4, 11, .box (.val (.sint .i64) (p6 v))⟩, ⟨6, 13, .box (.val (.arr 32 .u8) (p7 v))⟩, ⟨8, 15, .box (.ro (p8 v) .u8 (p9 v))⟩], 16))
theorem ok_blob_opened_1_3 (n : Nat) : SoundF Tryd.prog 130 (S_blob_opened_1_3 n) :=
  fn_go false true (c := codeOf Tryd.f130) (tab := mkTab [(80, ⟨S_blob_bound n, [], [], false⟩), (93, ⟨S_box_Open n, [], [], true⟩)]) (cuts := mkCuts []) Tryd.func130 (by kernel_rfl) (.cons (ok_blob_bound n) ⟨_, Tryd.func80, by kernel_rfl⟩ (.cons (ok_box_Open n) ⟨_, Tryd.func93, by kernel_rfl⟩ .nil)) (.none0 (by kernel_rfl)) (fun v => by kernel_rfl)
def F_blob_with_2 (n : Nat) (x0 : Int) (x1 : Int) (x2 : List (Int × List UInt8)) (x3 : Int) (x4 : List UInt8) (x5 : List UInt8) : Tree (Int ⊕ ((List UInt8) × Int)) :=
  .sub (F_label_Ring_Key n ([115, 101, 97, 108] : List UInt8) x0 x2) fun y6 =>
  .alt y6 (fun y7 =>
  .ite (!(decide (y7 = (0 : Int))))
  (.ret (.inl y7))
  (.sub (F_nonce_Of n x0 x1) fun y8 =>
  .alt y8 (fun y9 =>
  .ite true
  (.ret (.inl (1 : Int)))
  (.sub (F_blob_opened_1 n ([] : List UInt8) ([] : List UInt8) x3 x4 x5) fun y10 =>
  .alt y10 (fun y11 =>
  .ret (.inl y11))
  fun y12 =>
  .ret (.inr (y12.1, y12.2))))
  fun y13 =>
  .ite false
  (.ret (.inl (0 : Int)))
  (.sub (F_blob_opened_1_1 n 0 12 ([] : List UInt8) y13 x3 x4 x5) fun y14 =>
  .alt y14 (fun y15 =>
  .ret (.inl y15))
  fun y16 =>
  .ret (.inr (y16.1, y16.2)))))
  fun y17 =>
  .ite false
  (.ret (.inl (0 : Int)))
  (.sub (F_nonce_Of n x0 x1) fun y18 =>
  .alt y18 (fun y19 =>
  .ite true
  (.ret (.inl (1 : Int)))
  (.sub (F_blob_opened_1_2 n 0 32 y17 ([] : List UInt8) x3 x4 x5) fun y20 =>
  .alt y20 (fun y21 =>
  .ret (.inl y21))
  fun y22 =>
  .ret (.inr (y22.1, y22.2))))
  fun y23 =>
  .ite false
  (.ret (.inl (0 : Int)))
  (.sub (F_blob_opened_1_3 n 0 32 0 12 y17 y23 x3 x4 x5) fun y24 =>
  .alt y24 (fun y25 =>
  .ret (.inl y25))
  fun y26 =>
  .ret (.inr (y26.1, y26.2))))
def S_blob_with_2 (n : Nat) : Summ := mkS ⟨[(.ptr 0 0), (.val (.sint .i64) (0 : Int)), (.val (.sint .i64) (0 : Int)), (.clo 130 (.pr (.ptr 4 0) (.pr (.ptr 6 0) (.pr (.ptr 8 0) .un))))], [⟨0, 1, .box (.agg (.pr (.mpv 2) .un))⟩, ⟨2, 3, .mp (.sint .i64) (.list .u8) []⟩, ⟨4, 5, .box (.val (.sint .i64) (0 : Int))⟩, ⟨6, 7, .box (.val (.arr 32 .u8) [])⟩, ⟨8, 9, .box (.ro false .u8 [])⟩], 10⟩ [.d (.sint .i64), .d (.sint .i64), .d BL2, .d (.sint .i64), .d (.arr 32 .u8), .c, .d (.list .u8)] fun v => .sub (F_blob_with_2 n (p0 v) (p1 v) (p2 v) (p3 v) (p4 v) (p6 v)) fun r => .alt r (fun r => .ret ((.tup (.pr (.whole 10 1) (.pr (.val (.sint .i64) r) .un))), [⟨10, 11, .row .u8 ([] : List UInt8)⟩, ⟨0, 13, .box (.agg (.pr (.mpv 2) .un))⟩, ⟨2, 3, .mp (.sint .i64) (.list .u8) (p2 v)⟩, ⟨4, 17, .box (.val (.sint .i64) (p3 v))⟩, ⟨6, 19, .box (.val (.arr 32 .u8) (p4 v))⟩, ⟨8, 21, .box (.ro (p5 v) .u8 (p6 v))⟩], 22)) (fun r => .ret ((.tup (.pr (.ro false .u8 r.1) (.pr (.val (.sint .i64) r.2) .un))), [⟨0, 11, .box (.agg (.pr (.mpv 2) .un))⟩, ⟨2, 3, .mp (.sint .i64) (.list .u8) (p2 v)⟩, ⟨4, 15, .box (.val (.sint .i64) (p3 v))⟩, ⟨6, 17, .box (.val (.arr 32 .u8) (p4 v))⟩, ⟨8, 19, .box (.ro (p5 v) .u8 (p6 v))⟩], 20))
theorem ok_blob_with_2 (n : Nat) : SoundF Tryd.prog 77 (S_blob_with_2 n) :=
  fn_go false true (c := codeOf Tryd.f77) (tab := mkTab [(63, ⟨S_label_Ring_Key n, [], [], false⟩), (125, ⟨S_nonce_Of n, [], [], false⟩), (130, ⟨orS (S_blob_opened_1 n) (orS (S_blob_opened_1_1 n) (orS (S_blob_opened_1_2 n) (S_blob_opened_1_3 n))), [], [], false⟩)]) (cuts := mkCuts []) Tryd.func77 (by kernel_rfl) (.cons (ok_label_Ring_Key n) ⟨_, Tryd.func63, by kernel_rfl⟩ (.cons (ok_nonce_Of n) ⟨_, Tryd.func125, by kernel_rfl⟩ (.cons (.or (ok_blob_opened_1 n) (.or (ok_blob_opened_1_1 n) (.or (ok_blob_opened_1_2 n) (ok_blob_opened_1_3 n)))) ⟨_, Tryd.func130, by kernel_rfl⟩ .nil))) (.none0 (by kernel_rfl)) (fun v => by kernel_rfl)
def F_blob_opened (n : Nat) (x0 : Int) (x1 : List UInt8) (x2 : List UInt8) (x3 : List (Int × List UInt8)) : Tree (((Int) × Int) ⊕ ((List UInt8) × ((Int) × Int))) :=
  .sub (F_blob_kind n x0) fun y4 =>
  .ite (!y4)
  (.ret (.inl ((0 : Int), (1 : Int))))
  (.get (Tree.run (F_blob_Size n (0 : Int))) fun y5 =>
  .ite (decide ((ln x2) < y5))
  (.ret (.inl ((0 : Int), (3 : Int))))
  (.get (Tree.run (F_blob_Size n (8192 : Int))) fun y6 =>
  .ite (decide (y6 < (ln x2)))
  (.ret (.inl ((0 : Int), (2 : Int))))
  (.get (subI x2 (0 : Int) (12 : Int)) fun y7 =>
  .sub (F_nonce_Read n y7) fun y8 =>
  .ite (!(decide (y8.2.2 = (0 : Int))))
  (.ret (.inl ((0 : Int), y8.2.2)))
  (.ite (decide (y8.1 = (0 : Int)))
  (.ret (.inl ((0 : Int), (1 : Int))))
  (.sub (F_blob_with_2 n y8.1 y8.2.1 x3 x0 x1 x2) fun y9 =>
  .alt y9 (fun y10 =>
  .ret (.inl (y8.1, y10)))
  fun y11 =>
  .ret (.inr (y11.1, y8.1, y11.2)))))))
def S_blob_opened (n : Nat) : Summ := mkS ⟨[(.ptr 0 0), (.val (.sint .i64) (0 : Int)), (.val (.arr 32 .u8) []), (.ro false .u8 [])], [⟨0, 1, .box (.agg (.pr (.mpv 2) .un))⟩, ⟨2, 3, .mp (.sint .i64) (.list .u8) []⟩], 4⟩ [.d (.sint .i64), .d (.arr 32 .u8), .c, .d (.list .u8), .d BL2] fun v => .sub (F_blob_opened n (p0 v) (p1 v) (p3 v) (p4 v)) fun r => .alt r (fun r => .ret ((.tup (.pr (.whole 4 1) (.pr (.val (.sint .i64) r.1) (.pr (.val (.sint .i64) r.2) .un)))), [⟨4, 5, .row .u8 ([] : List UInt8)⟩, ⟨0, 7, .box (.agg (.pr (.mpv 2) .un))⟩, ⟨2, 3, .mp (.sint .i64) (.list .u8) (p4 v)⟩], 10)) (fun r => .ret ((.tup (.pr (.ro false .u8 r.1) (.pr (.val (.sint .i64) r.2.1) (.pr (.val (.sint .i64) r.2.2) .un)))), [⟨0, 5, .box (.agg (.pr (.mpv 2) .un))⟩, ⟨2, 3, .mp (.sint .i64) (.list .u8) (p4 v)⟩], 8))
theorem ok_blob_opened (n : Nat) : SoundF Tryd.prog 82 (S_blob_opened n) :=
  fn_go false true (c := codeOf Tryd.f82) (tab := mkTab [(74, ⟨S_blob_kind n, [], [], false⟩), (30, ⟨S_blob_Size n, [], [], false⟩), (129, ⟨S_nonce_Read n, [], [true], false⟩), (77, ⟨S_blob_with_2 n, [], [], false⟩)]) (cuts := mkCuts []) Tryd.func82 (by kernel_rfl) (.cons (ok_blob_kind n) ⟨_, Tryd.func74, by kernel_rfl⟩ (.cons (ok_blob_Size n) ⟨_, Tryd.func30, by kernel_rfl⟩ (.cons (ok_nonce_Read n) ⟨_, Tryd.func129, by kernel_rfl⟩ (.cons (ok_blob_with_2 n) ⟨_, Tryd.func77, by kernel_rfl⟩ .nil)))) (.none0 (by kernel_rfl)) (fun v => by kernel_rfl)
def F_blob_Open (n : Nat) (x0 : Int) (x1 : List UInt8) (x2 : List UInt8) (x3 : List (Int × List UInt8)) : Tree (Int ⊕ ((List UInt8) × Int)) :=
  .sub (F_blob_opened n x0 x1 x2 x3) fun y4 =>
  .alt y4 (fun y5 =>
  .ret (.inl y5.2))
  fun y6 =>
  .ret (.inr (y6.1, y6.2.2))
def S_blob_Open (n : Nat) : Summ := mkS ⟨[(.ptr 0 0), (.val (.sint .i64) (0 : Int)), (.val (.arr 32 .u8) []), (.ro false .u8 [])], [⟨0, 1, .box (.agg (.pr (.mpv 2) .un))⟩, ⟨2, 3, .mp (.sint .i64) (.list .u8) []⟩], 4⟩ [.d (.sint .i64), .d (.arr 32 .u8), .c, .d (.list .u8), .d BL2] fun v => .sub (F_blob_Open n (p0 v) (p1 v) (p3 v) (p4 v)) fun r => .alt r (fun r => .ret ((.tup (.pr (.whole 4 1) (.pr (.val (.sint .i64) r) .un))), [⟨4, 5, .row .u8 ([] : List UInt8)⟩, ⟨0, 7, .box (.agg (.pr (.mpv 2) .un))⟩, ⟨2, 3, .mp (.sint .i64) (.list .u8) (p4 v)⟩], 10)) (fun r => .ret ((.tup (.pr (.ro false .u8 r.1) (.pr (.val (.sint .i64) r.2) .un))), [⟨0, 5, .box (.agg (.pr (.mpv 2) .un))⟩, ⟨2, 3, .mp (.sint .i64) (.list .u8) (p4 v)⟩], 8))
theorem ok_blob_Open (n : Nat) : SoundF Tryd.prog 32 (S_blob_Open n) :=
  fn_go false true (c := codeOf Tryd.f32) (tab := mkTab [(82, ⟨S_blob_opened n, [], [], true⟩)]) (cuts := mkCuts []) Tryd.func32 (by kernel_rfl) (.cons (ok_blob_opened n) ⟨_, Tryd.func82, by kernel_rfl⟩ .nil) (.none0 (by kernel_rfl)) (fun v => by kernel_rfl)
def F_blob_ID (n : Nat) (x0 : Int) (x1 : Int) (x2 : List UInt8) (x3 : List (Int × List UInt8)) : Tree ((List UInt8) × Int) :=
  .sub (F_blob_kind n x1) fun y4 =>
  .ite (!y4)
  (.ret ((zs 32), (1 : Int)))
  (.ite (decide ((8192 : Int) < (ln x2)))
  (.ret ((zs 32), (2 : Int)))
  (.sub (F_label_Ring_Key n ([110, 97, 109, 101] : List UInt8) x0 x3) fun y5 =>
  .alt y5 (fun y6 =>
  .ite (!(decide (y6 = (0 : Int))))
  (.ret ((zs 32), y6))
  (.sub (F_label_ID n ([] : List UInt8) x1 x2) fun y7 =>
  .ret (y7.1, y7.2)))
  fun y8 =>
  .ite false
  (.ret ((zs 32), (0 : Int)))
  (.sub (F_label_ID n (List.take 32 (List.drop 0 y8)) x1 x2) fun y9 =>
  .ret (y9.1, y9.2))))
def S_blob_ID (n : Nat) : Summ := mkS ⟨[(.ptr 0 0), (.val (.sint .i64) (0 : Int)), (.val (.sint .i64) (0 : Int)), (.ro false .u8 [])], [⟨0, 1, .box (.agg (.pr (.mpv 2) .un))⟩, ⟨2, 3, .mp (.sint .i64) (.list .u8) []⟩], 4⟩ [.d (.sint .i64), .d (.sint .i64), .c, .d (.list .u8), .d BL2] fun v => .sub (F_blob_ID n (p0 v) (p1 v) (p3 v) (p4 v)) fun r => .ret ((.tup (.pr (.val (.arr 32 .u8) r.1) (.pr (.val (.sint .i64) r.2) .un))), [⟨0, 5, .box (.agg (.pr (.mpv 2) .un))⟩, ⟨2, 3, .mp (.sint .i64) (.list .u8) (p4 v)⟩], 8)
theorem ok_blob_ID (n : Nat) : SoundF Tryd.prog 26 (S_blob_ID n) :=
  fn_go false true (c := codeOf Tryd.f26) (tab := mkTab [(74, ⟨S_blob_kind n, [], [], false⟩), (63, ⟨S_label_Ring_Key n, [], [], false⟩), (75, ⟨S_label_ID n, [], [true, false, true], false⟩)]) (cuts := mkCuts []) Tryd.func26 (by kernel_rfl) (.cons (ok_blob_kind n) ⟨_, Tryd.func74, by kernel_rfl⟩ (.cons (ok_label_Ring_Key n) ⟨_, Tryd.func63, by kernel_rfl⟩ (.cons (ok_label_ID n) ⟨_, Tryd.func75, by kernel_rfl⟩ .nil))) (.none0 (by kernel_rfl)) (fun v => by kernel_rfl)
def F_blob_Check (n : Nat) (x0 : Int) (x1 : List UInt8) (x2 : List UInt8) (x3 : List (Int × List UInt8)) : Tree (Int ⊕ (List UInt8)) :=
  .sub (F_blob_opened n x0 x1 x2 x3) fun y4 =>
  .alt y4 (fun y5 =>
  .ite (!(decide (y5.2 = (0 : Int))))
  (.ret (.inl y5.2))
  (.sub (F_blob_ID n y5.1 x0 ([] : List UInt8) x3) fun y6 =>
  .ite ((!(decide (y6.2 = (0 : Int)))) || (!(eqV (.arr 32 .u8) y6.1 x1)))
  (.ret (.inl (23 : Int)))
  (.fail)))
  fun y7 =>
  .ite (!(decide (y7.2.2 = (0 : Int))))
  (.ret (.inl y7.2.2))
  (.sub (F_blob_ID n y7.2.1 x0 y7.1 x3) fun y8 =>
  .ite ((!(decide (y8.2 = (0 : Int)))) || (!(eqV (.arr 32 .u8) y8.1 x1)))
  (.ret (.inl (23 : Int)))
  (.ret (.inr y7.1)))
def S_blob_Check (n : Nat) : Summ := mkS ⟨[(.ptr 0 0), (.val (.sint .i64) (0 : Int)), (.val (.arr 32 .u8) []), (.ro false .u8 [])], [⟨0, 1, .box (.agg (.pr (.mpv 2) .un))⟩, ⟨2, 3, .mp (.sint .i64) (.list .u8) []⟩], 4⟩ [.d (.sint .i64), .d (.arr 32 .u8), .c, .d (.list .u8), .d BL2] fun v => .sub (F_blob_Check n (p0 v) (p1 v) (p3 v) (p4 v)) fun r => .alt r (fun r => .ret ((.tup (.pr (.whole 4 1) (.pr (.val (.sint .i64) r) .un))), [⟨4, 5, .row .u8 ([] : List UInt8)⟩, ⟨0, 7, .box (.agg (.pr (.mpv 2) .un))⟩, ⟨2, 3, .mp (.sint .i64) (.list .u8) (p4 v)⟩], 10)) (fun r => .ret ((.tup (.pr (.ro false .u8 r) (.pr (.val (.sint .i64) (0 : Int)) .un))), [⟨0, 5, .box (.agg (.pr (.mpv 2) .un))⟩, ⟨2, 3, .mp (.sint .i64) (.list .u8) (p4 v)⟩], 8))
theorem ok_blob_Check (n : Nat) : SoundF Tryd.prog 31 (S_blob_Check n) :=
  fn_go false true (c := codeOf Tryd.f31) (tab := mkTab [(82, ⟨S_blob_opened n, [], [], true⟩), (26, ⟨S_blob_ID n, [], [], true⟩)]) (cuts := mkCuts []) Tryd.func31 (by kernel_rfl) (.cons (ok_blob_opened n) ⟨_, Tryd.func82, by kernel_rfl⟩ (.cons (ok_blob_ID n) ⟨_, Tryd.func26, by kernel_rfl⟩ .nil)) (.none0 (by kernel_rfl)) (fun v => by kernel_rfl)
def F_w18_awake (n : Nat) : Tree Bool :=
  .sub (F_w18_rings n ([((1 : Int), (zs 32))] : List (Int × (List UInt8)))) fun y0 =>
  .sub (F_blob_Seal_v1 n (1 : Int) (1 : Int) (zs 32) (1 : Int) y0.2.2) fun y1 =>
  .sub (F_blob_Open n (1 : Int) (zs 32) y1.1 y0.2.2) fun y2 =>
  .alt y2 (fun y3 =>
  .sub (F_blob_Check n (1 : Int) (zs 32) y1.1 y0.2.2) fun y4 =>
  .alt y4 (fun y5 =>
  .ite (decide (y1.2 = (0 : Int)))
  (.ite (decide ((ln y1.1) = (28 : Int)))
  (.get (getI y1.1 (11 : Int)) fun y6 =>
  .ret ((decide (y6 = (1 : UInt8))) && ((decide (y3 = (0 : Int))) && (true && (decide (y5 = (23 : Int)))))))
  (.ret false))
  (.ret false))
  fun y7 =>
  .ite (decide (y1.2 = (0 : Int)))
  (.ite (decide ((ln y1.1) = (28 : Int)))
  (.get (getI y1.1 (11 : Int)) fun y8 =>
  .ret ((decide (y8 = (1 : UInt8))) && ((decide (y3 = (0 : Int))) && false)))
  (.ret false))
  (.ret false))
  fun y9 =>
  .sub (F_blob_Check n (1 : Int) (zs 32) y1.1 y0.2.2) fun y10 =>
  .alt y10 (fun y11 =>
  .ite (decide (y1.2 = (0 : Int)))
  (.ite (decide ((ln y1.1) = (28 : Int)))
  (.get (getI y1.1 (11 : Int)) fun y12 =>
  .ret ((decide (y12 = (1 : UInt8))) && ((decide (y9.2 = (0 : Int))) && ((decide ((ln y9.1) = (0 : Int))) && (decide (y11 = (23 : Int)))))))
  (.ret false))
  (.ret false))
  fun y13 =>
  .ite (decide (y1.2 = (0 : Int)))
  (.ite (decide ((ln y1.1) = (28 : Int)))
  (.get (getI y1.1 (11 : Int)) fun y14 =>
  .ret ((decide (y14 = (1 : UInt8))) && ((decide (y9.2 = (0 : Int))) && ((decide ((ln y9.1) = (0 : Int))) && false))))
  (.ret false))
  (.ret false)
def S_w18_awake (n : Nat) : Summ := mkS ⟨[], [], 0⟩ [] fun v => .sub (F_w18_awake n) fun r => .ret ((.val .bool r), [], 0)
theorem ok_w18_awake (n : Nat) : SoundF Tryd.prog 24 (S_w18_awake n) :=
  fn_go true true (c := codeOf Tryd.f24) (tab := mkTab [(25, ⟨S_w18_rings n, [], [], false⟩), (29, ⟨S_blob_Seal_v1 n, [], [], true⟩), (32, ⟨S_blob_Open n, [], [], true⟩), (31, ⟨S_blob_Check n, [], [], true⟩)]) (cuts := mkCuts []) Tryd.func24 (by kernel_rfl) (.cons (ok_w18_rings n) ⟨_, Tryd.func25, by kernel_rfl⟩ (.cons (ok_blob_Seal_v1 n) ⟨_, Tryd.func29, by kernel_rfl⟩ (.cons (ok_blob_Open n) ⟨_, Tryd.func32, by kernel_rfl⟩ (.cons (ok_blob_Check n) ⟨_, Tryd.func31, by kernel_rfl⟩ .nil)))) (.none0 (by kernel_rfl)) (fun v => by kernel_rfl)
def F_w18_rings_l0_3 (n : Nat) : Nat → (Bool) → (List (Int × List UInt8)) → (Int) → (List (Int × List UInt8)) → (Bool) → (List (Int × List UInt8)) → Tree (((Bool) × (List (Int × List UInt8))) ⊕ ((List (Int × List UInt8)) × ((Bool) × (List (Int × List UInt8)))))
 | 0 => fun  x0 x1 x2 x3 x4 x5 => .fail
 | k + 1 => fun x0 x1 x2 x3 x4 x5 =>
  .ite ((decide (x2 < (ln x1))) && (decide (x2 < (10 : Int))))
  (.get (getI x1 x2) fun y6 =>
  .get (getI x1 x2) fun y7 =>
  .get (Tree.run (F_w18_own n y7.2)) fun y8 =>
  .get (Tree.run (F_label_Ring_Put_1 n y6.1 x3 y8)) fun y9 =>
  .alt y9 (fun y10 =>
  .get (getI x1 x2) fun y11 =>
  .get (getI x1 x2) fun y12 =>
  .get (Tree.run (F_r09_Ring_Put n x4 x5 y11.1 y12.2)) fun y13 =>
  .sub (F_w18_rings_l0_3 n k x0 x1 (w64 (x2 + (1 : Int))) x3 y13.1 y13.2.1) fun y14 =>
  .alt y14 (fun y15 =>
  .ret (.inl (y15.1, y15.2)))
  fun y16 =>
  .ret (.inr (y16.1, y16.2.1, y16.2.2)))
  fun y17 =>
  .get (getI x1 x2) fun y18 =>
  .get (getI x1 x2) fun y19 =>
  .get (Tree.run (F_r09_Ring_Put n x4 x5 y18.1 y19.2)) fun y20 =>
  .sub (F_w18_rings_l0_3 n k x0 x1 (w64 (x2 + (1 : Int))) y17 y20.1 y20.2.1) fun y21 =>
  .alt y21 (fun y22 =>
  .ret (.inr (y17, y22.1, y22.2)))
  fun y23 =>
  .ret (.inr (y23.1, y23.2.1, y23.2.2)))
  (.ret (.inl (x4, x5)))
def S_w18_rings_l0_3 (n k : Nat) : CutF := mkS ⟨[(.ro false BL1 []), (.ptr 0 0), (.ptr 4 0), (.val (.sint .i64) (0 : Int))], [⟨0, 1, .box (.agg (.pr (.mpv 2) .un))⟩, ⟨2, 3, .mp (.sint .i64) (.list .u8) []⟩, ⟨4, 5, .box (.agg (.pr (.ro false BL1 []) .un))⟩], 6⟩ [.c, .d BL2, .d (.sint .i64), .d BL2, .c, .d BL2] fun v => .sub (F_w18_rings_l0_3 n k (p0 v) (p1 v) (p2 v) (p3 v) (p4 v) (p5 v)) fun r => .alt r (fun r => .ret (.ex 0, [], [⟨0, 7, .box (.agg (.pr (.mpv 2) .un))⟩, ⟨2, 3, .mp (.sint .i64) (.list .u8) (p3 v)⟩, ⟨4, 11, .box (.agg (.pr (.ro r.1 BL1 r.2) .un))⟩], 12)) (fun r => .ret (.ex 0, [], [⟨0, 7, .box (.agg (.pr (.mpv 2) .un))⟩, ⟨2, 9, .mp (.sint .i64) (.list .u8) r.1⟩, ⟨4, 11, .box (.agg (.pr (.ro r.2.1 BL1 r.2.2) .un))⟩], 12))
theorem rd_w18_rings_l0_3 (n k : Nat) : Rounds Tryd.prog (Go.Func.ntmps Tryd.f25) (bodyOf Tryd.f25 0) C_25_0 [S_w18_rings_l0_3 n k] (S_w18_rings_l0_3 n (k + 1)) :=
  rounds_go (tab := mkTab [(27, ⟨S_w18_own n, [], [true], false⟩), (59, ⟨S_label_Ring_Put_1 n, [], [], false⟩), (61, ⟨S_r09_Ring_Put n, [], [], true⟩)]) (cuts := mkCuts []) (S_w18_rings_l0_3 n k) [] (.cons (ok_w18_own n) ⟨_, Tryd.func27, by kernel_rfl⟩ (.cons (ok_label_Ring_Put_1 n) ⟨_, Tryd.func59, by kernel_rfl⟩ (.cons (ok_r09_Ring_Put n) ⟨_, Tryd.func61, by kernel_rfl⟩ .nil))) (.none0 (by kernel_rfl)) rfl (fun v => by kernel_rfl)
def F_w18_rings_l0_2 (n : Nat) : Nat → (Bool) → (List (Int × List UInt8)) → (Int) → (List (Int × List UInt8)) → (List (Int × List UInt8)) → Tree (((Bool) × (List (Int × List UInt8))) ⊕ (((List (Int × List UInt8)) × ((Bool) × (List (Int × List UInt8)))) ⊕ Unit))
 | 0 => fun  x0 x1 x2 x3 x4 => .fail
 | k + 1 => fun x0 x1 x2 x3 x4 =>
  .ite ((decide (x2 < (ln x1))) && (decide (x2 < (10 : Int))))
  (.get (getI x1 x2) fun y5 =>
  .get (getI x1 x2) fun y6 =>
  .get (Tree.run (F_w18_own n y6.2)) fun y7 =>
  .get (Tree.run (F_label_Ring_Put_1 n y5.1 x3 y7)) fun y8 =>
  .alt y8 (fun y9 =>
  .get (getI x1 x2) fun y10 =>
  .get (getI x1 x2) fun y11 =>
  .get (Tree.run (F_r09_Ring_Put n false x4 y10.1 y11.2)) fun y12 =>
  .sub (F_w18_rings_l0_3 n k x0 x1 (w64 (x2 + (1 : Int))) x3 y12.1 y12.2.1) fun y13 =>
  .alt y13 (fun y14 =>
  .ret (.inl (y14.1, y14.2)))
  fun y15 =>
  .ret (.inr (.inl (y15.1, y15.2.1, y15.2.2))))
  fun y16 =>
  .get (getI x1 x2) fun y17 =>
  .get (getI x1 x2) fun y18 =>
  .get (Tree.run (F_r09_Ring_Put n false x4 y17.1 y18.2)) fun y19 =>
  .sub (F_w18_rings_l0_3 n k x0 x1 (w64 (x2 + (1 : Int))) y16 y19.1 y19.2.1) fun y20 =>
  .alt y20 (fun y21 =>
  .ret (.inr (.inl (y16, y21.1, y21.2))))
  fun y22 =>
  .ret (.inr (.inl (y22.1, y22.2.1, y22.2.2))))
  (.ret (.inr (.inr ())))
def S_w18_rings_l0_2 (n k : Nat) : CutF := mkS ⟨[(.ro false BL1 []), (.ptr 0 0), (.ptr 4 0), (.val (.sint .i64) (0 : Int))], [⟨0, 1, .box (.agg (.pr (.mpv 2) .un))⟩, ⟨2, 3, .mp (.sint .i64) (.list .u8) []⟩, ⟨4, 5, .box (.agg (.pr (.whole 6 2) .un))⟩, ⟨6, 7, .row BL1 []⟩], 8⟩ [.c, .d BL2, .d (.sint .i64), .d BL2, .d BL2] fun v => .sub (F_w18_rings_l0_2 n k (p0 v) (p1 v) (p2 v) (p3 v) (p4 v)) fun r => .alt r (fun r => .ret (.ex 0, [], [⟨0, 9, .box (.agg (.pr (.mpv 2) .un))⟩, ⟨2, 3, .mp (.sint .i64) (.list .u8) (p3 v)⟩, ⟨4, 13, .box (.agg (.pr (.ro r.1 BL1 r.2) .un))⟩], 14)) (fun r => .alt r (fun r => .ret (.ex 0, [], [⟨0, 9, .box (.agg (.pr (.mpv 2) .un))⟩, ⟨2, 11, .mp (.sint .i64) (.list .u8) r.1⟩, ⟨4, 13, .box (.agg (.pr (.ro r.2.1 BL1 r.2.2) .un))⟩], 14)) (fun r => .ret (.ex 0, [], [⟨0, 9, .box (.agg (.pr (.mpv 2) .un))⟩, ⟨2, 3, .mp (.sint .i64) (.list .u8) (p3 v)⟩, ⟨4, 13, .box (.agg (.pr (.whole 14 2) .un))⟩, ⟨14, 15, .row BL1 (p4 v)⟩], 16)))
theorem rd_w18_rings_l0_2 (n k : Nat) : Rounds Tryd.prog (Go.Func.ntmps Tryd.f25) (bodyOf Tryd.f25 0) C_25_0 [S_w18_rings_l0_2 n k, S_w18_rings_l0_3 n k] (S_w18_rings_l0_2 n (k + 1)) :=
  rounds_go (tab := mkTab [(27, ⟨S_w18_own n, [], [true], false⟩), (59, ⟨S_label_Ring_Put_1 n, [], [], false⟩), (61, ⟨S_r09_Ring_Put n, [], [], true⟩)]) (cuts := mkCuts []) (S_w18_rings_l0_2 n k) [S_w18_rings_l0_3 n k] (.cons (ok_w18_own n) ⟨_, Tryd.func27, by kernel_rfl⟩ (.cons (ok_label_Ring_Put_1 n) ⟨_, Tryd.func59, by kernel_rfl⟩ (.cons (ok_r09_Ring_Put n) ⟨_, Tryd.func61, by kernel_rfl⟩ .nil))) (.none0 (by kernel_rfl)) rfl (fun v => by kernel_rfl)
theorem ok_w18_rings_l0_2 (n k : Nat) : SoundC Tryd.prog (Go.Func.ntmps Tryd.f25) (.loop (bodyOf Tryd.f25 0)) (wr (bodyOf Tryd.f25 0)) (C_25_0 (S_w18_rings_l0_2 n k)) :=
  loop_go (K := fun k => [S_w18_rings_l0_2 n k, S_w18_rings_l0_3 n k]) (fun _ => rfl) (by kernel_rfl) ⟨z_go fun _ => by kernel_rfl, z_go fun _ => by kernel_rfl, trivial⟩ (fun k => ⟨rd_w18_rings_l0_2 n k, (rd_w18_rings_l0_3 n k).mono (List.forall_mem_cons.2 ⟨(.tail _ (.head _)), (fun _ h => by cases h)⟩), trivial⟩) k rfl
def F_w18_rings_1 (n : Nat) (x0 : Bool) (x1 : List (Int × List UInt8)) : Tree ((Bool) × ((List (Int × List UInt8)) × (List (Int × List UInt8)))) :=
  .sub (F_label_New n) fun y2 =>
  .sub (F_w18_rings_l0_2 n n x0 x1 (0 : Int) ([] : List (Int × (List UInt8))) ([] : List (Int × (List UInt8)))) fun y3 =>
  .alt y3 (fun y4 =>
  .ret (y4.1, y4.2, ([] : List (Int × (List UInt8)))))
  fun y5 =>
  .alt y5 (fun y6 =>
  .ret (y6.2.1, y6.2.2, y6.1))
  fun y7 =>
  .ret (false, ([] : List (Int × (List UInt8))), ([] : List (Int × (List UInt8))))
def S_w18_rings_1 (n : Nat) : Summ := mkS ⟨[(.ro false BL1 [])], [], 0⟩ [.c, .d BL2] fun v => .sub (F_w18_rings_1 n (p0 v) (p1 v)) fun r => .ret ((.tup (.pr (.ptr 0 0) (.pr (.agg (.pr (.ro r.1 BL1 r.2.1) .un)) .un))), [⟨0, 1, .box (.agg (.pr (.mpv 2) .un))⟩, ⟨2, 3, .mp (.sint .i64) (.list .u8) r.2.2⟩], 4)
theorem ok_w18_rings_1 (n : Nat) : SoundF Tryd.prog 25 (S_w18_rings_1 n) :=
  fn_go true true (c := codeOf Tryd.f25) (tab := mkTab [(58, ⟨S_label_New n, [], [], false⟩)]) (cuts := mkCuts [(0, C_25_0 (S_w18_rings_l0_2 n n))]) Tryd.func25 (by kernel_rfl) (.cons (ok_label_New n) ⟨_, Tryd.func58, by kernel_rfl⟩ .nil) (CutsOK.list (l := [(0, .lp (bodyOf Tryd.f25 0))]) (by kernel_rfl) (LoopsOK.all ⟨.inr ⟨_, rfl, ok_w18_rings_l0_2 n n⟩, trivial⟩)) (fun v => by kernel_rfl)
def F_w18_BlobBack (n : Nat) (x0 : Bool) (x1 : List (Int × List UInt8)) (x2 : Int) (x3 : Int) (x4 : Int) (x5 : List UInt8) (x6 : Int) : Tree Bool :=
  .sub (F_w18_Ask_few n x5) fun y7 =>
  .ite (!y7)
  (.sub (F_w18_awake n) fun y8 =>
  .ret y8)
  (.sub (F_w18_rings_1 n x0 x1) fun y9 =>
  .get (Tree.run (F_w18_own n x5)) fun y10 =>
  .get (Tree.run (F_blob_ID n x2 x3 y10 y9.2.2)) fun y11 =>
  .get (Tree.run (F_w18_own n x5)) fun y12 =>
  .get (Tree.run (F_blob_Seal n x2 x3 y11.1 x4 y12 y9.2.2)) fun y13 =>
  .ite ((!(decide (y11.2 = (0 : Int)))) || (!(decide (y13.1 = (0 : Int)))))
  (.ite (decide ((ln y13.2) = (0 : Int)))
  (.sub (F_blob_Size n (minI x6 (1099511627776 : Int))) fun y14 =>
  .ite (decide (y14 = (w64 ((maxI (minI x6 (1099511627776 : Int)) (0 : Int)) + (28 : Int)))))
  (.sub (F_w18_awake n) fun y15 =>
  .ret y15)
  (.ret false))
  (.ret false))
  (.get (Tree.run (F_w18_own n y13.2)) fun y16 =>
  .get (Tree.run (F_blob_Check n x3 y11.1 y16 y9.2.2)) fun y17 =>
  .alt y17 (fun y18 =>
  .ite (decide (y18 = (0 : Int)))
  (.ite (decide (([] : List UInt8) = x5))
  (.sub (F_blob_Size n (ln x5)) fun y19 =>
  .ite (decide ((ln y13.2) = y19))
  (.sub (F_blob_Size n (minI x6 (1099511627776 : Int))) fun y20 =>
  .ite (decide (y20 = (w64 ((maxI (minI x6 (1099511627776 : Int)) (0 : Int)) + (28 : Int)))))
  (.sub (F_w18_awake n) fun y21 =>
  .ret y21)
  (.ret false))
  (.ret false))
  (.ret false))
  (.ret false))
  fun y22 =>
  .ite true
  (.ite (decide (y22 = x5))
  (.sub (F_blob_Size n (ln x5)) fun y23 =>
  .ite (decide ((ln y13.2) = y23))
  (.sub (F_blob_Size n (minI x6 (1099511627776 : Int))) fun y24 =>
  .ite (decide (y24 = (w64 ((maxI (minI x6 (1099511627776 : Int)) (0 : Int)) + (28 : Int)))))
  (.sub (F_w18_awake n) fun y25 =>
  .ret y25)
  (.ret false))
  (.ret false))
  (.ret false))
  (.ret false)))
def S_w18_BlobBack (n : Nat) : Summ := mkS ⟨[(.agg (.pr (.ro false BL1 []) (.pr (.val (.sint .i64) (0 : Int)) (.pr (.val (.sint .i64) (0 : Int)) (.pr (.val (.sint .i64) (0 : Int)) (.pr (.val (.arr 32 .u8) []) (.pr (.ro false .u8 []) (.pr (.val .u16 0) (.pr (.val .u8 0) .un))))))))), (.val (.sint .i64) (0 : Int))], [], 0⟩ [.c, .d BL2, .d (.sint .i64), .d (.sint .i64), .d (.sint .i64), .d (.arr 32 .u8), .c, .d (.list .u8), .d .u16, .d .u8, .d (.sint .i64)] fun v => .sub (F_w18_BlobBack n (p0 v) (p1 v) (p2 v) (p3 v) (p4 v) (p7 v) (p10 v)) fun r => .ret ((.val .bool r), [], 0)
theorem ok_w18_BlobBack (n : Nat) : SoundF Tryd.prog 7 (S_w18_BlobBack n) :=
  fn_go true true (c := codeOf Tryd.f7) (tab := mkTab [(23, ⟨S_w18_Ask_few n, [], [], false⟩), (24, ⟨S_w18_awake n, [], [], false⟩), (25, ⟨S_w18_rings_1 n, [], [], false⟩), (27, ⟨S_w18_own n, [], [true], false⟩), (26, ⟨S_blob_ID n, [], [], true⟩), (29, ⟨S_blob_Seal n, [], [], true⟩), (30, ⟨S_blob_Size n, [], [], false⟩), (31, ⟨S_blob_Check n, [], [], true⟩)]) (cuts := mkCuts []) Tryd.func7 (by kernel_rfl) (.cons (ok_w18_Ask_few n) ⟨_, Tryd.func23, by kernel_rfl⟩ (.cons (ok_w18_awake n) ⟨_, Tryd.func24, by kernel_rfl⟩ (.cons (ok_w18_rings_1 n) ⟨_, Tryd.func25, by kernel_rfl⟩ (.cons (ok_w18_own n) ⟨_, Tryd.func27, by kernel_rfl⟩ (.cons (ok_blob_ID n) ⟨_, Tryd.func26, by kernel_rfl⟩ (.cons (ok_blob_Seal n) ⟨_, Tryd.func29, by kernel_rfl⟩ (.cons (ok_blob_Size n) ⟨_, Tryd.func30, by kernel_rfl⟩ (.cons (ok_blob_Check n) ⟨_, Tryd.func31, by kernel_rfl⟩ .nil)))))))) (.none0 (by kernel_rfl)) (fun v => by kernel_rfl)
def F_w18_BlobForm (n : Nat) (x0 : Bool) (x1 : List (Int × List UInt8)) (x2 : Int) (x3 : List UInt8) (x4 : List UInt8) : Tree Bool :=
  .ite (decide ((700 : Int) < (ln x4)))
  (.sub (F_w18_awake n) fun y5 =>
  .ret y5)
  (.sub (F_w18_rings_1 n x0 x1) fun y6 =>
  .get (Tree.run (F_w18_own n x4)) fun y7 =>
  .get (Tree.run (F_blob_Open n x2 x3 y7 y6.2.2)) fun y8 =>
  .alt y8 (fun y9 =>
  .ite (!(decide (y9 = (0 : Int))))
  (.ite true
  (.sub (F_w18_awake n) fun y10 =>
  .ret y10)
  (.ret false))
  (.ite (decide ((ln x4) < (12 : Int)))
  (.ret false)
  (.get (subI x4 (0 : Int) (12 : Int)) fun y11 =>
  .sub (F_r10_Read n y11) fun y12 =>
  .ite (!(decide (y12.2.2 = (0 : Int))))
  (.ret false)
  (.ite (decide (y12.2.1 = (0 : Int)))
  (.sub (F_w18_awake n) fun y13 =>
  .ret y13)
  (.sub (F_blob_Seal n y12.1 x2 x3 y12.2.1 ([] : List UInt8) y6.2.2) fun y14 =>
  .ite (decide (y14.1 = (0 : Int)))
  (.ite (decide (y14.2 = x4))
  (.sub (F_w18_awake n) fun y15 =>
  .ret y15)
  (.ret false))
  (.ret false))))))
  fun y16 =>
  .ite (!(decide (y16.2 = (0 : Int))))
  (.ite (decide ((ln y16.1) = (0 : Int)))
  (.sub (F_w18_awake n) fun y17 =>
  .ret y17)
  (.ret false))
  (.ite (decide ((ln x4) < (12 : Int)))
  (.ret false)
  (.get (subI x4 (0 : Int) (12 : Int)) fun y18 =>
  .sub (F_r10_Read n y18) fun y19 =>
  .ite (!(decide (y19.2.2 = (0 : Int))))
  (.ret false)
  (.ite (decide (y19.2.1 = (0 : Int)))
  (.sub (F_w18_awake n) fun y20 =>
  .ret y20)
  (.sub (F_blob_Seal n y19.1 x2 x3 y19.2.1 y16.1 y6.2.2) fun y21 =>
  .ite (decide (y21.1 = (0 : Int)))
  (.ite (decide (y21.2 = x4))
  (.sub (F_w18_awake n) fun y22 =>
  .ret y22)
  (.ret false))
  (.ret false))))))
def S_w18_BlobForm (n : Nat) : Summ := mkS ⟨[(.ro false BL1 []), (.val (.sint .i64) (0 : Int)), (.val (.arr 32 .u8) []), (.ro false .u8 [])], [], 0⟩ [.c, .d BL2, .d (.sint .i64), .d (.arr 32 .u8), .c, .d (.list .u8)] fun v => .sub (F_w18_BlobForm n (p0 v) (p1 v) (p2 v) (p3 v) (p5 v)) fun r => .ret ((.val .bool r), [], 0)
theorem ok_w18_BlobForm (n : Nat) : SoundF Tryd.prog 8 (S_w18_BlobForm n) :=
  fn_go true true (c := codeOf Tryd.f8) (tab := mkTab [(24, ⟨S_w18_awake n, [], [], false⟩), (25, ⟨S_w18_rings_1 n, [], [], false⟩), (27, ⟨S_w18_own n, [], [true], false⟩), (32, ⟨S_blob_Open n, [], [], true⟩), (33, ⟨S_r10_Read n, [], [true], false⟩), (29, ⟨S_blob_Seal n, [], [], true⟩)]) (cuts := mkCuts []) Tryd.func8 (by kernel_rfl) (.cons (ok_w18_awake n) ⟨_, Tryd.func24, by kernel_rfl⟩ (.cons (ok_w18_rings_1 n) ⟨_, Tryd.func25, by kernel_rfl⟩ (.cons (ok_w18_own n) ⟨_, Tryd.func27, by kernel_rfl⟩ (.cons (ok_blob_Open n) ⟨_, Tryd.func32, by kernel_rfl⟩ (.cons (ok_r10_Read n) ⟨_, Tryd.func33, by kernel_rfl⟩ (.cons (ok_blob_Seal n) ⟨_, Tryd.func29, by kernel_rfl⟩ .nil)))))) (.none0 (by kernel_rfl)) (fun v => by kernel_rfl)
end Hyp
