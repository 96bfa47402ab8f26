/- Printed by Gen.lean.tpl (this work's own): Go functions as pure functions, each with the proof that the Go code comes to its answers. -/
import Derived.Test.YtdlbmjbbnplpjaaZD
import Derived.Test.YtdlbmjbbnplpjaaChecked
set_option linter.unusedVariables false
set_option maxRecDepth 100000
set_option maxHeartbeats 4000000
namespace Hyp
open Go Go.Proofs
abbrev T1 : Ty := .rcd (.pair (.sint .i64) (.pair (.sint .i64) (.pair .str (.list .u8))))
abbrev T2 : Ty := .list (.rcd (.pair (.sint .i64) (.pair (.sint .i64) (.pair .str (.list .u8)))))
abbrev T3 : Ty := .list (.rcd (.pair (.list .u8) .bool))
abbrev T4 : Ty := .rcd (.pair .str (.pair .str (.sint .i64)))
abbrev T5 : Ty := .list (.rcd (.pair .str (.list (.rcd (.pair (.list .u8) .bool)))))
abbrev T6 : Ty := .list (.rcd (.pair .str (.pair .str (.sint .i64))))
def F_store_Store_Script (n : Nat) : Tree Unit :=
  .ret ()
def S_store_Store_Script (n : Nat) : Summ := mkS ⟨[.nil, (.ro false T1 [])], [], 0⟩ [.c, .d T2] fun v => .sub (F_store_Store_Script n) fun r => .ret ((.tup .un), [], 0)
theorem ok_store_Store_Script (n : Nat) : SoundF Try.prog 56 (S_store_Store_Script n) :=
  fn_go false (c := codeOf Try.f56) (tab := mkTab []) (cuts := mkCuts []) Try.func56 (by kernel_rfl) .nil (CutsOK.list (l := [(0, .lp (bodyOf Try.f56 0))]) (by kernel_rfl) (LoopsOK.all ⟨.inl rfl, trivial⟩)) (fun v => by kernel_rfl)
def F_store_Store_Revive (n : Nat) : Tree Unit :=
  .ret ()
def S_store_Store_Revive (n : Nat) : Summ := mkS ⟨[.nil], [], 0⟩ [] fun v => .sub (F_store_Store_Revive n) fun r => .ret ((.tup .un), [], 0)
theorem ok_store_Store_Revive (n : Nat) : SoundF Try.prog 57 (S_store_Store_Revive n) :=
  fn_go false (c := codeOf Try.f57) (tab := mkTab []) (cuts := mkCuts []) Try.func57 (by kernel_rfl) .nil (.none0 (by kernel_rfl)) (fun v => by kernel_rfl)
def F_store_Store_Get (n : Nat) : Tree Unit :=
  .ret ()
def S_store_Store_Get (n : Nat) : Summ := mkS ⟨[.nil, (.val .str [])], [], 0⟩ [.d .str] fun v => .sub (F_store_Store_Get n) fun r => .ret ((.tup (.pr (.snil none) (.pr (.val (.sint .i64) (1 : Int)) .un))), [], 0)
theorem ok_store_Store_Get (n : Nat) : SoundF Try.prog 49 (S_store_Store_Get n) :=
  fn_go false (c := codeOf Try.f49) (tab := mkTab []) (cuts := mkCuts []) Try.func49 (by kernel_rfl) .nil (.none0 (by kernel_rfl)) (fun v => by kernel_rfl)
def F_store_Store_List (n : Nat) : Tree Unit :=
  .ret ()
def S_store_Store_List (n : Nat) : Summ := mkS ⟨[.nil], [], 0⟩ [] fun v => .sub (F_store_Store_List n) fun r => .ret ((.tup (.pr (.snil none) (.pr (.val (.sint .i64) (1 : Int)) .un))), [], 0)
theorem ok_store_Store_List (n : Nat) : SoundF Try.prog 50 (S_store_Store_List n) :=
  fn_go false (c := codeOf Try.f50) (tab := mkTab []) (cuts := mkCuts []) Try.func50 (by kernel_rfl) .nil (CutsOK.list (l := [(1, .lp (bodyOf Try.f50 1))]) (by kernel_rfl) (LoopsOK.all ⟨.inl rfl, trivial⟩)) (fun v => by kernel_rfl)
def F_store_Store_Cell (n : Nat) : Tree Unit :=
  .ret ()
def S_store_Store_Cell (n : Nat) : Summ := mkS ⟨[.nil], [], 0⟩ [] fun v => .sub (F_store_Store_Cell n) fun r => .ret ((.tup (.pr (.agg (.pr (.val (.sint .i64) (0 : Int)) (.pr (.val (.sint .i64) (0 : Int)) (.pr (.val (.sint .i64) (0 : Int)) .un)))) (.pr (.val (.sint .i64) (1 : Int)) .un))), [], 0)
theorem ok_store_Store_Cell (n : Nat) : SoundF Try.prog 58 (S_store_Store_Cell n) :=
  fn_go false (c := codeOf Try.f58) (tab := mkTab []) (cuts := mkCuts []) Try.func58 (by kernel_rfl) .nil (.none0 (by kernel_rfl)) (fun v => by kernel_rfl)
def F_w16_own (n : Nat) (x0 : List UInt8) : Tree (List UInt8) :=
  .get (appI 140737488355328 ([] : List UInt8) x0) fun y1 =>
  .ret y1
def S_w16_own (n : Nat) : Summ := mkS ⟨[(.ro false .u8 [])], [], 0⟩ [.c, .d (.list .u8)] fun v => .sub (F_w16_own n (p1 v)) fun r => .ret ((.whole 0 1), [⟨0, 1, .row .u8 r⟩], 2)
theorem ok_w16_own (n : Nat) : SoundF Try.prog 47 (S_w16_own n) :=
  fn_go false (c := codeOf Try.f47) (tab := mkTab []) (cuts := mkCuts []) Try.func47 (by kernel_rfl) .nil (.none0 (by kernel_rfl)) (fun v => by kernel_rfl)
def F_store_Store_Put (n : Nat) : Tree Unit :=
  .ret ()
def S_store_Store_Put (n : Nat) : Summ := mkS ⟨[.nil, (.val .str []), (.whole 0 1)], [⟨0, 1, .row .u8 []⟩], 2⟩ [.d .str, .d (.list .u8)] fun v => .sub (F_store_Store_Put n) fun r => .ret ((.val (.sint .i64) (1 : Int)), [⟨0, 3, .row .u8 (p1 v)⟩], 4)
theorem ok_store_Store_Put (n : Nat) : SoundF Try.prog 46 (S_store_Store_Put n) :=
  fn_go false (c := codeOf Try.f46) (tab := mkTab []) (cuts := mkCuts []) Try.func46 (by kernel_rfl) .nil (.none0 (by kernel_rfl)) (fun v => by kernel_rfl)
def F_store_Store_Del (n : Nat) : Tree Unit :=
  .ret ()
def S_store_Store_Del (n : Nat) : Summ := mkS ⟨[.nil, (.val .str [])], [], 0⟩ [.d .str] fun v => .sub (F_store_Store_Del n) fun r => .ret ((.val (.sint .i64) (1 : Int)), [], 0)
theorem ok_store_Store_Del (n : Nat) : SoundF Try.prog 48 (S_store_Store_Del n) :=
  fn_go false (c := codeOf Try.f48) (tab := mkTab []) (cuts := mkCuts []) Try.func48 (by kernel_rfl) .nil (.none0 (by kernel_rfl)) (fun v => by kernel_rfl)
def F_store_Store_Raise (n : Nat) : Tree Unit :=
  .ret ()
def S_store_Store_Raise (n : Nat) : Summ := mkS ⟨[.nil, (.agg (.pr (.val (.sint .i64) (0 : Int)) (.pr (.val (.sint .i64) (0 : Int)) (.pr (.val (.sint .i64) (0 : Int)) .un))))], [], 0⟩ [.d (.sint .i64), .d (.sint .i64), .d (.sint .i64)] fun v => .sub (F_store_Store_Raise n) fun r => .ret ((.val (.sint .i64) (1 : Int)), [], 0)
theorem ok_store_Store_Raise (n : Nat) : SoundF Try.prog 59 (S_store_Store_Raise n) :=
  fn_go false (c := codeOf Try.f59) (tab := mkTab []) (cuts := mkCuts []) Try.func59 (by kernel_rfl) .nil (.none0 (by kernel_rfl)) (fun v => by kernel_rfl)
def F_store_Store_Dead (n : Nat) : Tree Unit :=
  .ret ()
def S_store_Store_Dead (n : Nat) : Summ := mkS ⟨[.nil], [], 0⟩ [] fun v => .sub (F_store_Store_Dead n) fun r => .ret ((.val .bool false), [], 0)
theorem ok_store_Store_Dead (n : Nat) : SoundF Try.prog 52 (S_store_Store_Dead n) :=
  fn_go false (c := codeOf Try.f52) (tab := mkTab []) (cuts := mkCuts []) Try.func52 (by kernel_rfl) .nil (.none0 (by kernel_rfl)) (fun v => by kernel_rfl)
def F_store_Store_Calls (n : Nat) : Tree Unit :=
  .ret ()
def S_store_Store_Calls (n : Nat) : Summ := mkS ⟨[.nil], [], 0⟩ [] fun v => .sub (F_store_Store_Calls n) fun r => .ret ((.snil none), [], 0)
theorem ok_store_Store_Calls (n : Nat) : SoundF Try.prog 54 (S_store_Store_Calls n) :=
  fn_go false (c := codeOf Try.f54) (tab := mkTab []) (cuts := mkCuts []) Try.func54 (by kernel_rfl) .nil (.none0 (by kernel_rfl)) (fun v => by kernel_rfl)
def F_store_Store_Copy (n : Nat) : Tree Unit :=
  .ret ()
def S_store_Store_Copy (n : Nat) : Summ := mkS ⟨[.nil], [], 0⟩ [] fun v => .sub (F_store_Store_Copy n) fun r => .ret (.nil, [], 0)
theorem ok_store_Store_Copy (n : Nat) : SoundF Try.prog 55 (S_store_Store_Copy n) :=
  fn_go false (c := codeOf Try.f55) (tab := mkTab []) (cuts := mkCuts []) Try.func55 (by kernel_rfl) .nil (CutsOK.list (l := [(0, .lp (bodyOf Try.f55 0))]) (by kernel_rfl) (LoopsOK.all ⟨.inl rfl, trivial⟩)) (fun v => by kernel_rfl)
def F_store_New (n : Nat) : Tree Unit :=
  .ret ()
def S_store_New (n : Nat) : Summ := mkS ⟨[], [], 0⟩ [] fun v => .sub (F_store_New n) fun r => .ret ((.ptr 0 0), [⟨0, 1, .box (.agg (.pr (.mpv 2) (.pr (.agg (.pr (.val (.sint .i64) (0 : Int)) (.pr (.val (.sint .i64) (0 : Int)) (.pr (.val (.sint .i64) (0 : Int)) .un)))) (.pr (.whole 4 4) (.pr (.val .bool false) (.pr (.whole 6 3) .un))))))⟩, ⟨2, 3, .mp .str T3 ([] : List ((List UInt8) × (List ((List UInt8) × Bool))))⟩, ⟨4, 5, .row T1 ([] : List (Int × (Int × ((List UInt8) × (List UInt8)))))⟩, ⟨6, 7, .row T4 ([] : List ((List UInt8) × ((List UInt8) × Int)))⟩], 8)
theorem ok_store_New (n : Nat) : SoundF Try.prog 45 (S_store_New n) :=
  fn_go false (c := codeOf Try.f45) (tab := mkTab []) (cuts := mkCuts []) Try.func45 (by kernel_rfl) .nil (.none0 (by kernel_rfl)) (fun v => by kernel_rfl)
def C_15_0 : CutF → Cut := fun κ => ⟨[14, 15, 16], fun e => match e with | .ex i => bif Nat.beq i 0 then [] else [] | .rt => [2] | .nm => [] | .go i => [], κ⟩
def F_store_Named_l0 (n : Nat) : Nat → (Int) → (Int) → (List UInt8) → Tree (Unit ⊕ Unit)
 | 0 => fun  x0 x1 x2 => .fail
 | k + 1 => fun x0 x1 x2 =>
  .ite (decide (x1 < x0))
  (.get (inI (List.length x2) x1) fun y3 =>
  .get (gt x2 (0 + y3)) fun y4 =>
  .ite (bif (decide (y4 < (97 : UInt8))) then ((decide (y4 < (48 : UInt8))) || (decide ((57 : UInt8) < y4))) else ((decide ((122 : UInt8) < y4)) && ((decide (y4 < (48 : UInt8))) || (decide ((57 : UInt8) < y4)))))
  (.ret (.inl ()))
  (.sub (F_store_Named_l0 n k x0 (w64 (x1 + (1 : Int))) x2) fun y5 =>
  .alt y5 (fun y6 =>
  .ret (.inl ()))
  fun y7 =>
  .ret (.inr ())))
  (.ret (.inr ()))
def S_store_Named_l0 (n k : Nat) : CutF := mkS ⟨[(.whole 0 1), (.val (.sint .i64) (0 : Int)), (.val (.sint .i64) (0 : Int))], [⟨0, 1, .row .u8 []⟩], 2⟩ [.d (.sint .i64), .d (.sint .i64), .d (.list .u8)] fun v => .sub (F_store_Named_l0 n k (p0 v) (p1 v) (p2 v)) fun r => .alt r (fun r => .ret (.rt, [(.val .bool false)], [⟨0, 3, .row .u8 (p2 v)⟩], 4)) (fun r => .ret (.ex 0, [], [⟨0, 3, .row .u8 (p2 v)⟩], 4))
theorem rd_store_Named_l0 (n k : Nat) : Rounds Try.prog (Go.Func.ntmps Try.f15) (bodyOf Try.f15 0) C_15_0 [S_store_Named_l0 n k] (S_store_Named_l0 n (k + 1)) :=
  rounds_go (tab := mkTab []) (cuts := mkCuts []) (S_store_Named_l0 n k) [] .nil (.none0 (by kernel_rfl)) rfl (fun v => by kernel_rfl)
theorem ok_store_Named_l0 (n k : Nat) : SoundC Try.prog (Go.Func.ntmps Try.f15) (.loop (bodyOf Try.f15 0)) (wr (bodyOf Try.f15 0)) (C_15_0 (S_store_Named_l0 n k)) :=
  loop_go (K := fun k => [S_store_Named_l0 n k]) (fun _ => rfl) (by kernel_rfl) ⟨z_go fun _ => by kernel_rfl, trivial⟩ (fun k => ⟨rd_store_Named_l0 n k, trivial⟩) k rfl
def F_store_Named (n : Nat) (x0 : List UInt8) : Tree Bool :=
  .ite ((decide ((ln x0) < (1 : Int))) || (decide ((32 : Int) < (ln x0))))
  (.ret false)
  (.get (bytesI x0) fun y1 =>
  .sub (F_store_Named_l0 n n (ln y1) (0 : Int) y1) fun y2 =>
  .alt y2 (fun y3 =>
  .ret false)
  fun y4 =>
  .ret true)
def S_store_Named (n : Nat) : Summ := mkS ⟨[(.val .str [])], [], 0⟩ [.d .str] fun v => .sub (F_store_Named n (p0 v)) fun r => .ret ((.val .bool r), [], 0)
theorem ok_store_Named (n : Nat) : SoundF Try.prog 15 (S_store_Named n) :=
  fn_go false (c := codeOf Try.f15) (tab := mkTab []) (cuts := mkCuts [(0, C_15_0 (S_store_Named_l0 n n))]) Try.func15 (by kernel_rfl) .nil (CutsOK.list (l := [(0, .lp (bodyOf Try.f15 0))]) (by kernel_rfl) (LoopsOK.all ⟨.inr ⟨_, rfl, ok_store_Named_l0 n n⟩, trivial⟩)) (fun v => by kernel_rfl)
def F_slices_Clone___byte_byte_ (n : Nat) (x0 : List UInt8) : Tree (Unit ⊕ (List UInt8)) :=
  .ite (decide ((ln x0) = (0 : Int)))
  (.all (fun (p1 : Bool) => True) fun y2 =>
  .ite y2
  (.ret (.inl ()))
  (.get (appI 140737488355328 ([] : List UInt8) x0) fun y3 =>
  .ret (.inr y3)))
  (.get (appI 140737488355328 ([] : List UInt8) x0) fun y4 =>
  .ret (.inr y4))
def S_slices_Clone___byte_byte_ (n : Nat) : Summ := mkS ⟨[(.whole 0 1)], [⟨0, 1, .row .u8 []⟩], 2⟩ [.d (.list .u8)] fun v => .sub (F_slices_Clone___byte_byte_ n (p0 v)) fun r => .alt r (fun r => .ret ((.snil none), [⟨0, 3, .row .u8 (p0 v)⟩], 4)) (fun r => .ret ((.whole 2 1), [⟨2, 3, .row .u8 r⟩, ⟨0, 5, .row .u8 (p0 v)⟩], 6))
theorem ok_slices_Clone___byte_byte_ (n : Nat) : SoundF Try.prog 90 (S_slices_Clone___byte_byte_ n) :=
  fn_go false (c := codeOf Try.f90) (tab := mkTab []) (cuts := mkCuts []) Try.func90 (by kernel_rfl) .nil (.none0 (by kernel_rfl)) (fun v => by kernel_rfl)
def F_store_Store_call (n : Nat) (x0 : List UInt8) (x1 : List UInt8) (x2 : Int) (x3 : Bool) (x4 : List (Int × Int × List UInt8 × List UInt8)) (x5 : List (List UInt8 × List UInt8 × Int)) : Tree (((Int) × ((Bool) × (List (List UInt8 × List UInt8 × Int)))) ⊕ ((Int) × ((Int) × ((List UInt8) × ((List UInt8) × ((Int) × ((Bool) × ((List (Int × Int × List UInt8 × List UInt8)) × (List (List UInt8 × List UInt8 × Int)))))))))) :=
  .ite x3
  (.ret (.inl ((14 : Int), x3, x5)))
  (.get (appI 3518437208883 x5 (List.set ([(([] : List UInt8), (([] : List UInt8), (0 : Int)))] : List ((List UInt8) × ((List UInt8) × Int))) 0 (x0, (x1, x2)))) fun y6 =>
  .ite (decide ((0 : Int) < (ln x4)))
  (.get (inI (List.length x4) (0 : Int)) fun y7 =>
  .get (gt x4 (0 + y7)) fun y8 =>
  .get (ite (And ((0 : Int) ≤ (1 : Int)) (And ((1 : Int) ≤ (ln x4)) ((ln x4) ≤ (ln x4)))) (Option.some Unit.unit) Option.none) fun y9 =>
  .ite (decide (y8.1 = (6 : Int)))
  (.ret (.inr (y8.1, y8.2.1, y8.2.2.1, y8.2.2.2, (14 : Int), true, (List.take ((Int.toNat (ln x4)) - 1) (List.drop 1 x4)), y6)))
  (.ret (.inr (y8.1, y8.2.1, y8.2.2.1, y8.2.2.2, (0 : Int), x3, (List.take ((Int.toNat (ln x4)) - 1) (List.drop 1 x4)), y6))))
  (.ite false
  (.ret (.inl ((14 : Int), true, y6)))
  (.ret (.inl ((0 : Int), x3, y6)))))
def S_store_Store_call (n : Nat) : Summ := mkS ⟨[(.ptr 0 0), (.val .str []), (.val .str []), (.val (.sint .i64) (0 : Int))], [⟨0, 1, .box (.agg (.pr (.mpv 2) (.pr (.agg (.pr (.val (.sint .i64) (0 : Int)) (.pr (.val (.sint .i64) (0 : Int)) (.pr (.val (.sint .i64) (0 : Int)) .un)))) (.pr (.whole 4 4) (.pr (.val .bool false) (.pr (.whole 6 3) .un))))))⟩, ⟨2, 3, .mp .str T3 []⟩, ⟨4, 5, .row T1 []⟩, ⟨6, 7, .row T4 []⟩], 8⟩ [.d .str, .d .str, .d (.sint .i64), .d (.sint .i64), .d (.sint .i64), .d (.sint .i64), .d .bool, .d T5, .d T2, .d T6] fun v => .sub (F_store_Store_call n (p0 v) (p1 v) (p2 v) (p6 v) (p8 v) (p9 v)) fun r => .alt r (fun r => .ret ((.tup (.pr (.agg (.pr (.val (.sint .i64) (0 : Int)) (.pr (.val (.sint .i64) (0 : Int)) (.pr (.val .str ([] : List UInt8)) (.pr (.whole 8 1) .un))))) (.pr (.val (.sint .i64) r.1) .un))), [⟨8, 9, .row .u8 ([] : List UInt8)⟩, ⟨0, 11, .box (.agg (.pr (.mpv 2) (.pr (.agg (.pr (.val (.sint .i64) (p3 v)) (.pr (.val (.sint .i64) (p4 v)) (.pr (.val (.sint .i64) (p5 v)) .un)))) (.pr (.whole 14 4) (.pr (.val .bool r.2.1) (.pr (.whole 16 3) .un))))))⟩, ⟨2, 13, .mp .str T3 (p7 v)⟩, ⟨14, 15, .row T1 (p8 v)⟩, ⟨16, 17, .row T4 r.2.2⟩], 18)) (fun r => .ret ((.tup (.pr (.agg (.pr (.val (.sint .i64) r.1) (.pr (.val (.sint .i64) r.2.1) (.pr (.val .str r.2.2.1) (.pr (.ro false .u8 r.2.2.2.1) .un))))) (.pr (.val (.sint .i64) r.2.2.2.2.1) .un))), [⟨0, 9, .box (.agg (.pr (.mpv 2) (.pr (.agg (.pr (.val (.sint .i64) (p3 v)) (.pr (.val (.sint .i64) (p4 v)) (.pr (.val (.sint .i64) (p5 v)) .un)))) (.pr (.whole 12 4) (.pr (.val .bool r.2.2.2.2.2.1) (.pr (.whole 14 3) .un))))))⟩, ⟨2, 11, .mp .str T3 (p7 v)⟩, ⟨12, 13, .row T1 r.2.2.2.2.2.2.1⟩, ⟨14, 15, .row T4 r.2.2.2.2.2.2.2⟩], 16))
theorem ok_store_Store_call (n : Nat) : SoundF Try.prog 91 (S_store_Store_call n) :=
  fn_go false (c := codeOf Try.f91) (tab := mkTab []) (cuts := mkCuts []) Try.func91 (by kernel_rfl) .nil (.none0 (by kernel_rfl)) (fun v => by kernel_rfl)
def F_store_Store_change (n : Nat) (x0 : List UInt8) (x1 : List UInt8) (x2 : Bool) (x3 : List (List UInt8 × List (List UInt8 × Bool))) (x4 : List (Int × Int × List UInt8 × List UInt8)) (x5 : List (List UInt8 × List UInt8 × Int)) : Tree ((Int) × ((Bool) × ((List (List UInt8 × List (List UInt8 × Bool))) × ((List (Int × Int × List UInt8 × List UInt8)) × (List (List UInt8 × List UInt8 × Int)))))) :=
  .sub (F_store_Store_call n x0 x1 (0 : Int) x2 x4 x5) fun y6 =>
  .alt y6 (fun y7 =>
  .ite (!(decide (y7.1 = (0 : Int))))
  (.ret (y7.1, y7.2.1, x3, x4, y7.2.2))
  (.ite false
  (.ret ((12 : Int), y7.2.1, x3, x4, y7.2.2))
  (.ite false
  (.ret ((0 : Int), y7.2.1, x3, x4, y7.2.2))
  (.get (ite (And ((ln (mgetD .str T3 x3 x1 ([] : List ((List UInt8) × Bool)))) ≤ (ln (mgetD .str T3 x3 x1 ([] : List ((List UInt8) × Bool))))) ((ln (mgetD .str T3 x3 x1 ([] : List ((List UInt8) × Bool)))) ≤ (ln (mgetD .str T3 x3 x1 ([] : List ((List UInt8) × Bool)))))) (subI (mgetD .str T3 x3 x1 ([] : List ((List UInt8) × Bool))) (0 : Int) (ln (mgetD .str T3 x3 x1 ([] : List ((List UInt8) × Bool))))) Option.none) fun y8 =>
  .get (tightI (decide ((ln (mgetD .str T3 x3 x1 ([] : List ((List UInt8) × Bool)))) = (ln (mgetD .str T3 x3 x1 ([] : List ((List UInt8) × Bool)))))) 4398046511104 y8 ([(([] : List UInt8), true)] : List ((List UInt8) × Bool))) fun y9 =>
  .ret ((0 : Int), y7.2.1, (mput .str T3 x3 x1 y9), x4, y7.2.2)))))
  fun y10 =>
  .ite (!(decide (y10.2.2.2.2.1 = (0 : Int))))
  (.ret (y10.2.2.2.2.1, y10.2.2.2.2.2.1, x3, y10.2.2.2.2.2.2.1, y10.2.2.2.2.2.2.2))
  (.ite (decide (y10.1 = (1 : Int)))
  (.ret ((12 : Int), y10.2.2.2.2.2.1, x3, y10.2.2.2.2.2.2.1, y10.2.2.2.2.2.2.2))
  (.ite (decide (y10.1 = (2 : Int)))
  (.ret ((0 : Int), y10.2.2.2.2.2.1, x3, y10.2.2.2.2.2.2.1, y10.2.2.2.2.2.2.2))
  (.get (ite (And ((ln (mgetD .str T3 x3 x1 ([] : List ((List UInt8) × Bool)))) ≤ (ln (mgetD .str T3 x3 x1 ([] : List ((List UInt8) × Bool))))) ((ln (mgetD .str T3 x3 x1 ([] : List ((List UInt8) × Bool)))) ≤ (ln (mgetD .str T3 x3 x1 ([] : List ((List UInt8) × Bool)))))) (subI (mgetD .str T3 x3 x1 ([] : List ((List UInt8) × Bool))) (0 : Int) (ln (mgetD .str T3 x3 x1 ([] : List ((List UInt8) × Bool))))) Option.none) fun y11 =>
  .get (tightI (decide ((ln (mgetD .str T3 x3 x1 ([] : List ((List UInt8) × Bool)))) = (ln (mgetD .str T3 x3 x1 ([] : List ((List UInt8) × Bool)))))) 4398046511104 y11 ([(([] : List UInt8), true)] : List ((List UInt8) × Bool))) fun y12 =>
  .ret ((0 : Int), y10.2.2.2.2.2.1, (mput .str T3 x3 x1 y12), y10.2.2.2.2.2.2.1, y10.2.2.2.2.2.2.2))))
def S_store_Store_change (n : Nat) : Summ := mkS ⟨[(.ptr 0 0), (.val .str []), (.val .str []), (.agg (.pr (.snil none) (.pr .tt .un)))], [⟨0, 1, .box (.agg (.pr (.mpv 2) (.pr (.agg (.pr (.val (.sint .i64) (0 : Int)) (.pr (.val (.sint .i64) (0 : Int)) (.pr (.val (.sint .i64) (0 : Int)) .un)))) (.pr (.whole 4 4) (.pr (.val .bool false) (.pr (.whole 6 3) .un))))))⟩, ⟨2, 3, .mp .str T3 []⟩, ⟨4, 5, .row T1 []⟩, ⟨6, 7, .row T4 []⟩], 8⟩ [.d .str, .d .str, .d (.sint .i64), .d (.sint .i64), .d (.sint .i64), .d .bool, .d T5, .d T2, .d T6] fun v => .sub (F_store_Store_change n (p0 v) (p1 v) (p5 v) (p6 v) (p7 v) (p8 v)) fun r => .ret ((.val (.sint .i64) r.1), [⟨0, 9, .box (.agg (.pr (.mpv 2) (.pr (.agg (.pr (.val (.sint .i64) (p2 v)) (.pr (.val (.sint .i64) (p3 v)) (.pr (.val (.sint .i64) (p4 v)) .un)))) (.pr (.whole 12 4) (.pr (.val .bool r.2.1) (.pr (.whole 14 3) .un))))))⟩, ⟨2, 11, .mp .str T3 r.2.2.1⟩, ⟨12, 13, .row T1 r.2.2.2.1⟩, ⟨14, 15, .row T4 r.2.2.2.2⟩], 16)
theorem ok_store_Store_change (n : Nat) : SoundF Try.prog 89 (S_store_Store_change n) :=
  fn_go false (c := codeOf Try.f89) (tab := mkTab [(91, ⟨S_store_Store_call n, [], [], false⟩)]) (cuts := mkCuts []) Try.func89 (by kernel_rfl) (.cons (ok_store_Store_call n) ⟨_, Try.func91, by kernel_rfl⟩ .nil) (.none0 (by kernel_rfl)) (fun v => by kernel_rfl)
def F_store_Store_change_1 (n : Nat) (x0 : List UInt8) (x1 : List UInt8) (x2 : Bool) (x3 : List (List UInt8 × List (List UInt8 × Bool))) (x4 : List (Int × Int × List UInt8 × List UInt8)) (x5 : List (List UInt8 × List UInt8 × Int)) (x6 : List UInt8) : Tree (((Int) × ((Bool) × ((List (Int × Int × List UInt8 × List UInt8)) × (List (List UInt8 × List UInt8 × Int))))) ⊕ ((Bool) × ((List (List UInt8 × List (List UInt8 × Bool))) × ((List (Int × Int × List UInt8 × List UInt8)) × (List (List UInt8 × List UInt8 × Int)))))) :=
  .sub (F_store_Store_call n x0 x1 (ln x6) x2 x4 x5) fun y7 =>
  .alt y7 (fun y8 =>
  .ite (!(decide (y8.1 = (0 : Int))))
  (.ret (.inl (y8.1, y8.2.1, x4, y8.2.2)))
  (.ite false
  (.ret (.inl ((12 : Int), y8.2.1, x4, y8.2.2)))
  (.ite false
  (.ret (.inl ((0 : Int), y8.2.1, x4, y8.2.2)))
  (.get (ite (And ((ln (mgetD .str T3 x3 x1 ([] : List ((List UInt8) × Bool)))) ≤ (ln (mgetD .str T3 x3 x1 ([] : List ((List UInt8) × Bool))))) ((ln (mgetD .str T3 x3 x1 ([] : List ((List UInt8) × Bool)))) ≤ (ln (mgetD .str T3 x3 x1 ([] : List ((List UInt8) × Bool)))))) (subI (mgetD .str T3 x3 x1 ([] : List ((List UInt8) × Bool))) (0 : Int) (ln (mgetD .str T3 x3 x1 ([] : List ((List UInt8) × Bool))))) Option.none) fun y9 =>
  .get (tightI (decide ((ln (mgetD .str T3 x3 x1 ([] : List ((List UInt8) × Bool)))) = (ln (mgetD .str T3 x3 x1 ([] : List ((List UInt8) × Bool)))))) 4398046511104 y9 (List.set ([(([] : List UInt8), false)] : List ((List UInt8) × Bool)) 0 (x6, true))) fun y10 =>
  .ret (.inr (y8.2.1, (mput .str T3 x3 x1 y10), x4, y8.2.2))))))
  fun y11 =>
  .ite (!(decide (y11.2.2.2.2.1 = (0 : Int))))
  (.ret (.inl (y11.2.2.2.2.1, y11.2.2.2.2.2.1, y11.2.2.2.2.2.2.1, y11.2.2.2.2.2.2.2)))
  (.ite (decide (y11.1 = (1 : Int)))
  (.ret (.inl ((12 : Int), y11.2.2.2.2.2.1, y11.2.2.2.2.2.2.1, y11.2.2.2.2.2.2.2)))
  (.ite (decide (y11.1 = (2 : Int)))
  (.ret (.inl ((0 : Int), y11.2.2.2.2.2.1, y11.2.2.2.2.2.2.1, y11.2.2.2.2.2.2.2)))
  (.get (ite (And ((ln (mgetD .str T3 x3 x1 ([] : List ((List UInt8) × Bool)))) ≤ (ln (mgetD .str T3 x3 x1 ([] : List ((List UInt8) × Bool))))) ((ln (mgetD .str T3 x3 x1 ([] : List ((List UInt8) × Bool)))) ≤ (ln (mgetD .str T3 x3 x1 ([] : List ((List UInt8) × Bool)))))) (subI (mgetD .str T3 x3 x1 ([] : List ((List UInt8) × Bool))) (0 : Int) (ln (mgetD .str T3 x3 x1 ([] : List ((List UInt8) × Bool))))) Option.none) fun y12 =>
  .get (tightI (decide ((ln (mgetD .str T3 x3 x1 ([] : List ((List UInt8) × Bool)))) = (ln (mgetD .str T3 x3 x1 ([] : List ((List UInt8) × Bool)))))) 4398046511104 y12 (List.set ([(([] : List UInt8), false)] : List ((List UInt8) × Bool)) 0 (x6, true))) fun y13 =>
  .ret (.inr (y11.2.2.2.2.2.1, (mput .str T3 x3 x1 y13), y11.2.2.2.2.2.2.1, y11.2.2.2.2.2.2.2)))))
def S_store_Store_change_1 (n : Nat) : Summ := mkS ⟨[(.ptr 0 0), (.val .str []), (.val .str []), (.agg (.pr (.whole 8 1) (.pr .tt .un)))], [⟨0, 1, .box (.agg (.pr (.mpv 2) (.pr (.agg (.pr (.val (.sint .i64) (0 : Int)) (.pr (.val (.sint .i64) (0 : Int)) (.pr (.val (.sint .i64) (0 : Int)) .un)))) (.pr (.whole 4 4) (.pr (.val .bool false) (.pr (.whole 6 3) .un))))))⟩, ⟨2, 3, .mp .str T3 []⟩, ⟨4, 5, .row T1 []⟩, ⟨6, 7, .row T4 []⟩, ⟨8, 9, .row .u8 []⟩], 10⟩ [.d .str, .d .str, .d (.sint .i64), .d (.sint .i64), .d (.sint .i64), .d .bool, .d T5, .d T2, .d T6, .d (.list .u8)] fun v => .sub (F_store_Store_change_1 n (p0 v) (p1 v) (p5 v) (p6 v) (p7 v) (p8 v) (p9 v)) fun r => .alt r (fun r => .ret ((.val (.sint .i64) r.1), [⟨0, 11, .box (.agg (.pr (.mpv 2) (.pr (.agg (.pr (.val (.sint .i64) (p2 v)) (.pr (.val (.sint .i64) (p3 v)) (.pr (.val (.sint .i64) (p4 v)) .un)))) (.pr (.whole 14 4) (.pr (.val .bool r.2.1) (.pr (.whole 16 3) .un))))))⟩, ⟨2, 13, .mp .str T3 (p6 v)⟩, ⟨14, 15, .row T1 r.2.2.1⟩, ⟨16, 17, .row T4 r.2.2.2⟩, ⟨8, 19, .row .u8 (p9 v)⟩], 20)) (fun r => .ret ((.val (.sint .i64) (0 : Int)), [⟨0, 11, .box (.agg (.pr (.mpv 2) (.pr (.agg (.pr (.val (.sint .i64) (p2 v)) (.pr (.val (.sint .i64) (p3 v)) (.pr (.val (.sint .i64) (p4 v)) .un)))) (.pr (.whole 14 4) (.pr (.val .bool r.1) (.pr (.whole 16 3) .un))))))⟩, ⟨2, 13, .mp .str T3 r.2.1⟩, ⟨14, 15, .row T1 r.2.2.1⟩, ⟨16, 17, .row T4 r.2.2.2⟩], 18))
theorem ok_store_Store_change_1 (n : Nat) : SoundF Try.prog 89 (S_store_Store_change_1 n) :=
  fn_go false (c := codeOf Try.f89) (tab := mkTab [(91, ⟨S_store_Store_call n, [], [], false⟩)]) (cuts := mkCuts []) Try.func89 (by kernel_rfl) (.cons (ok_store_Store_call n) ⟨_, Try.func91, by kernel_rfl⟩ .nil) (.none0 (by kernel_rfl)) (fun v => by kernel_rfl)
def F_store_Store_Put_1 (n : Nat) (x0 : List UInt8) (x1 : Bool) (x2 : List (List UInt8 × List (List UInt8 × Bool))) (x3 : List (Int × Int × List UInt8 × List UInt8)) (x4 : List (List UInt8 × List UInt8 × Int)) (x5 : List UInt8) : Tree ((Int) × ((Bool) × ((List (List UInt8 × List (List UInt8 × Bool))) × ((List (Int × Int × List UInt8 × List UInt8)) × (List (List UInt8 × List UInt8 × Int)))))) :=
  .sub (F_store_Named n x0) fun y6 =>
  .ite (!y6)
  (.ret ((1 : Int), x1, x2, x3, x4))
  (.ite (decide ((65536 : Int) < (ln x5)))
  (.ret ((2 : Int), x1, x2, x3, x4))
  (.sub (F_slices_Clone___byte_byte_ n x5) fun y7 =>
  .alt y7 (fun y8 =>
  .sub (F_store_Store_change n ([112, 117, 116] : List UInt8) x0 x1 x2 x3 x4) fun y9 =>
  .ret (y9.1, y9.2.1, y9.2.2.1, y9.2.2.2.1, y9.2.2.2.2))
  fun y10 =>
  .sub (F_store_Store_change_1 n ([112, 117, 116] : List UInt8) x0 x1 x2 x3 x4 y10) fun y11 =>
  .alt y11 (fun y12 =>
  .ret (y12.1, y12.2.1, x2, y12.2.2.1, y12.2.2.2))
  fun y13 =>
  .ret ((0 : Int), y13.1, y13.2.1, y13.2.2.1, y13.2.2.2)))
def S_store_Store_Put_1 (n : Nat) : Summ := mkS ⟨[(.ptr 0 0), (.val .str []), (.whole 8 1)], [⟨0, 1, .box (.agg (.pr (.mpv 2) (.pr (.agg (.pr (.val (.sint .i64) (0 : Int)) (.pr (.val (.sint .i64) (0 : Int)) (.pr (.val (.sint .i64) (0 : Int)) .un)))) (.pr (.whole 4 4) (.pr (.val .bool false) (.pr (.whole 6 3) .un))))))⟩, ⟨2, 3, .mp .str T3 []⟩, ⟨4, 5, .row T1 []⟩, ⟨6, 7, .row T4 []⟩, ⟨8, 9, .row .u8 []⟩], 10⟩ [.d .str, .d (.sint .i64), .d (.sint .i64), .d (.sint .i64), .d .bool, .d T5, .d T2, .d T6, .d (.list .u8)] fun v => .sub (F_store_Store_Put_1 n (p0 v) (p4 v) (p5 v) (p6 v) (p7 v) (p8 v)) fun r => .ret ((.val (.sint .i64) r.1), [⟨0, 11, .box (.agg (.pr (.mpv 2) (.pr (.agg (.pr (.val (.sint .i64) (p1 v)) (.pr (.val (.sint .i64) (p2 v)) (.pr (.val (.sint .i64) (p3 v)) .un)))) (.pr (.whole 14 4) (.pr (.val .bool r.2.1) (.pr (.whole 16 3) .un))))))⟩, ⟨2, 13, .mp .str T3 r.2.2.1⟩, ⟨14, 15, .row T1 r.2.2.2.1⟩, ⟨16, 17, .row T4 r.2.2.2.2⟩, ⟨8, 19, .row .u8 (p8 v)⟩], 20)
theorem ok_store_Store_Put_1 (n : Nat) : SoundF Try.prog 46 (S_store_Store_Put_1 n) :=
  fn_go false (c := codeOf Try.f46) (tab := mkTab [(15, ⟨S_store_Named n, [], [], false⟩), (90, ⟨S_slices_Clone___byte_byte_ n, [], [], false⟩), (89, ⟨orS (S_store_Store_change n) (S_store_Store_change_1 n), [], [], false⟩)]) (cuts := mkCuts []) Try.func46 (by kernel_rfl) (.cons (ok_store_Named n) ⟨_, Try.func15, by kernel_rfl⟩ (.cons (ok_slices_Clone___byte_byte_ n) ⟨_, Try.func90, by kernel_rfl⟩ (.cons (.or (ok_store_Store_change n) (ok_store_Store_change_1 n)) ⟨_, Try.func89, by kernel_rfl⟩ .nil))) (.none0 (by kernel_rfl)) (fun v => by kernel_rfl)
def C_56_0 : CutF → Cut := fun κ => ⟨[0, 11, 12, 13], fun e => match e with | .ex i => bif Nat.beq i 0 then [] else [] | .rt => [] | .nm => [] | .go i => [], κ⟩
def F_slices_Clone___byte_byte__1_raw (n : Nat) (x0 : List UInt8) : Tree (Unit ⊕ (List UInt8)) :=
  .ite (decide ((ln x0) = (0 : Int)))
  (.all (fun (p1 : Bool) => True) fun y2 =>
  .ite y2
  (.ret (.inl ()))
  (.get (appI 140737488355328 ([] : List UInt8) x0) fun y3 =>
  .ret (.inr y3)))
  (.get (appI 140737488355328 ([] : List UInt8) x0) fun y4 =>
  .ret (.inr y4))
def S_slices_Clone___byte_byte__1_raw (n : Nat) : Summ := mkS ⟨[(.ro false .u8 [])], [], 0⟩ [.c, .d (.list .u8)] fun v => .sub (F_slices_Clone___byte_byte__1_raw n (p1 v)) fun r => .alt r (fun r => .ret ((.snil none), [], 0)) (fun r => .ret ((.whole 0 1), [⟨0, 1, .row .u8 r⟩], 2))
theorem ok_slices_Clone___byte_byte__1_raw (n : Nat) : SoundF Try.prog 90 (S_slices_Clone___byte_byte__1_raw n) :=
  fn_go false (c := codeOf Try.f90) (tab := mkTab []) (cuts := mkCuts []) Try.func90 (by kernel_rfl) .nil (.none0 (by kernel_rfl)) (fun v => by kernel_rfl)
def F_slices_Clone___byte_byte__1 (n : Nat) (x0 : List UInt8) : Tree (List UInt8) :=
  .get (appI 140737488355328 ([] : List UInt8) x0) fun z =>
  .ret z
def S_slices_Clone___byte_byte__1 (n : Nat) : Summ := mkS ⟨[(.ro false .u8 [])], [], 0⟩ [.c, .d (.list .u8)] fun v => .sub (F_slices_Clone___byte_byte__1 n (p1 v)) fun r => .ret ((.ro false .u8 r), [], 2)
theorem ok_slices_Clone___byte_byte__1 (n : Nat) : SoundF Try.prog 90 (S_slices_Clone___byte_byte__1 n) := by
  refine SoundF.weak (ok_slices_Clone___byte_byte__1_raw n) (fun avs L b R h => ?_)
  obtain ⟨v, rfl, rfl, rfl, q⟩ := mkS_ok (Tree.Wp.mk h)
  exact clone_weak (e := .u8) (s := Ty.sz .u8) (by kernel_rfl) q.h (by kernel_rfl)
def F_store_copied (n : Nat) (x0 : List UInt8) : Tree (List UInt8) :=
  .sub (F_slices_Clone___byte_byte__1 n x0) fun y1 =>
  .ret y1
def S_store_copied (n : Nat) : Summ := mkS ⟨[(.agg (.pr (.val (.sint .i64) (0 : Int)) (.pr (.val (.sint .i64) (0 : Int)) (.pr (.val .str []) (.pr (.ro false .u8 []) .un)))))], [], 0⟩ [.d (.sint .i64), .d (.sint .i64), .d .str, .c, .d (.list .u8)] fun v => .sub (F_store_copied n (p4 v)) fun r => .ret ((.agg (.pr (.val (.sint .i64) (p0 v)) (.pr (.val (.sint .i64) (p1 v)) (.pr (.val .str (p2 v)) (.pr (.ro false .u8 r) .un))))), [], 0)
theorem ok_store_copied (n : Nat) : SoundF Try.prog 102 (S_store_copied n) :=
  fn_go false (c := codeOf Try.f102) (tab := mkTab [(90, ⟨S_slices_Clone___byte_byte__1 n, [], [], false⟩)]) (cuts := mkCuts []) Try.func102 (by kernel_rfl) (.cons (ok_slices_Clone___byte_byte__1 n) ⟨_, Try.func90, by kernel_rfl⟩ .nil) (.none0 (by kernel_rfl)) (fun v => by kernel_rfl)
def F_store_Store_Script_l0_1 (n : Nat) : Nat → (Int) → (Int) → (Int) → (Int) → (Int) → (Bool) → (List (List UInt8 × List (List UInt8 × Bool))) → (List (Int × Int × List UInt8 × List UInt8)) → (List (List UInt8 × List UInt8 × Int)) → (List (Int × Int × List UInt8 × List UInt8)) → Tree (List (Int × Int × List UInt8 × List UInt8))
 | 0 => fun  x0 x1 x2 x3 x4 x5 x6 x7 x8 x9 => .fail
 | k + 1 => fun x0 x1 x2 x3 x4 x5 x6 x7 x8 x9 =>
  .ite (decide (x1 < x0))
  (.get (inI (List.length x9) x1) fun y10 =>
  .get (gt x9 (0 + y10)) fun y11 =>
  .get (Tree.run (F_store_copied n y11.2.2.2)) fun y12 =>
  .get (appI 2513169434916 x7 (List.set ([((0 : Int), ((0 : Int), (([] : List UInt8), ([] : List UInt8))))] : List (Int × (Int × ((List UInt8) × (List UInt8))))) 0 (y11.1, (y11.2.1, (y11.2.2.1, y12))))) fun y13 =>
  .sub (F_store_Store_Script_l0_1 n k x0 (w64 (x1 + (1 : Int))) x2 x3 x4 x5 x6 y13 x8 x9) fun y14 =>
  .ret y14)
  (.ret x7)
def S_store_Store_Script_l0_1 (n k : Nat) : CutF := mkS ⟨[(.ptr 0 0), (.whole 8 4), (.val (.sint .i64) (0 : Int)), (.val (.sint .i64) (0 : Int))], [⟨0, 1, .box (.agg (.pr (.mpv 2) (.pr (.agg (.pr (.val (.sint .i64) (0 : Int)) (.pr (.val (.sint .i64) (0 : Int)) (.pr (.val (.sint .i64) (0 : Int)) .un)))) (.pr (.whole 4 4) (.pr (.val .bool false) (.pr (.whole 6 3) .un))))))⟩, ⟨2, 3, .mp .str T3 []⟩, ⟨4, 5, .row T1 []⟩, ⟨6, 7, .row T4 []⟩, ⟨8, 9, .row T1 []⟩], 10⟩ [.d (.sint .i64), .d (.sint .i64), .d (.sint .i64), .d (.sint .i64), .d (.sint .i64), .d .bool, .d T5, .d T2, .d T6, .d T2] fun v => .sub (F_store_Store_Script_l0_1 n k (p0 v) (p1 v) (p2 v) (p3 v) (p4 v) (p5 v) (p6 v) (p7 v) (p8 v) (p9 v)) fun r => .ret (.ex 0, [], [⟨0, 11, .box (.agg (.pr (.mpv 2) (.pr (.agg (.pr (.val (.sint .i64) (p2 v)) (.pr (.val (.sint .i64) (p3 v)) (.pr (.val (.sint .i64) (p4 v)) .un)))) (.pr (.whole 14 4) (.pr (.val .bool (p5 v)) (.pr (.whole 16 3) .un))))))⟩, ⟨2, 13, .mp .str T3 (p6 v)⟩, ⟨14, 15, .row T1 r⟩, ⟨16, 17, .row T4 (p8 v)⟩, ⟨8, 19, .row T1 (p9 v)⟩], 20)
theorem rd_store_Store_Script_l0_1 (n k : Nat) : Rounds Try.prog (Go.Func.ntmps Try.f56) (bodyOf Try.f56 0) C_56_0 [S_store_Store_Script_l0_1 n k] (S_store_Store_Script_l0_1 n (k + 1)) :=
  rounds_go (tab := mkTab [(102, ⟨S_store_copied n, [], [], false⟩)]) (cuts := mkCuts []) (S_store_Store_Script_l0_1 n k) [] (.cons (ok_store_copied n) ⟨_, Try.func102, by kernel_rfl⟩ .nil) (.none0 (by kernel_rfl)) rfl (fun v => by kernel_rfl)
theorem ok_store_Store_Script_l0_1 (n k : Nat) : SoundC Try.prog (Go.Func.ntmps Try.f56) (.loop (bodyOf Try.f56 0)) (wr (bodyOf Try.f56 0)) (C_56_0 (S_store_Store_Script_l0_1 n k)) :=
  loop_go (K := fun k => [S_store_Store_Script_l0_1 n k]) (fun _ => rfl) (by kernel_rfl) ⟨z_go fun _ => by kernel_rfl, trivial⟩ (fun k => ⟨rd_store_Store_Script_l0_1 n k, trivial⟩) k rfl
def F_store_Store_Script_l0 (n : Nat) : Nat → (Int) → (Int) → (Int) → (Int) → (Int) → (Bool) → (List (List UInt8 × List (List UInt8 × Bool))) → (List (List UInt8 × List UInt8 × Int)) → (List (Int × Int × List UInt8 × List UInt8)) → Tree ((List (Int × Int × List UInt8 × List UInt8)) ⊕ Unit)
 | 0 => fun  x0 x1 x2 x3 x4 x5 x6 x7 x8 => .fail
 | k + 1 => fun x0 x1 x2 x3 x4 x5 x6 x7 x8 =>
  .ite (decide (x1 < x0))
  (.get (inI (List.length x8) x1) fun y9 =>
  .get (gt x8 (0 + y9)) fun y10 =>
  .get (Tree.run (F_store_copied n y10.2.2.2)) fun y11 =>
  .get (appI 2513169434916 ([] : List (Int × (Int × ((List UInt8) × (List UInt8))))) (List.set ([((0 : Int), ((0 : Int), (([] : List UInt8), ([] : List UInt8))))] : List (Int × (Int × ((List UInt8) × (List UInt8))))) 0 (y10.1, (y10.2.1, (y10.2.2.1, y11))))) fun y12 =>
  .sub (F_store_Store_Script_l0_1 n k x0 (w64 (x1 + (1 : Int))) x2 x3 x4 x5 x6 y12 x7 x8) fun y13 =>
  .ret (.inl y13))
  (.ret (.inr ()))
def S_store_Store_Script_l0 (n k : Nat) : CutF := mkS ⟨[(.ptr 0 0), (.whole 6 4), (.val (.sint .i64) (0 : Int)), (.val (.sint .i64) (0 : Int))], [⟨0, 1, .box (.agg (.pr (.mpv 2) (.pr (.agg (.pr (.val (.sint .i64) (0 : Int)) (.pr (.val (.sint .i64) (0 : Int)) (.pr (.val (.sint .i64) (0 : Int)) .un)))) (.pr (.snil none) (.pr (.val .bool false) (.pr (.whole 4 3) .un))))))⟩, ⟨2, 3, .mp .str T3 []⟩, ⟨4, 5, .row T4 []⟩, ⟨6, 7, .row T1 []⟩], 8⟩ [.d (.sint .i64), .d (.sint .i64), .d (.sint .i64), .d (.sint .i64), .d (.sint .i64), .d .bool, .d T5, .d T6, .d T2] fun v => .sub (F_store_Store_Script_l0 n k (p0 v) (p1 v) (p2 v) (p3 v) (p4 v) (p5 v) (p6 v) (p7 v) (p8 v)) fun r => .alt r (fun r => .ret (.ex 0, [], [⟨0, 9, .box (.agg (.pr (.mpv 2) (.pr (.agg (.pr (.val (.sint .i64) (p2 v)) (.pr (.val (.sint .i64) (p3 v)) (.pr (.val (.sint .i64) (p4 v)) .un)))) (.pr (.whole 12 4) (.pr (.val .bool (p5 v)) (.pr (.whole 14 3) .un))))))⟩, ⟨2, 11, .mp .str T3 (p6 v)⟩, ⟨12, 13, .row T1 r⟩, ⟨14, 15, .row T4 (p7 v)⟩, ⟨6, 17, .row T1 (p8 v)⟩], 18)) (fun r => .ret (.ex 0, [], [⟨0, 9, .box (.agg (.pr (.mpv 2) (.pr (.agg (.pr (.val (.sint .i64) (p2 v)) (.pr (.val (.sint .i64) (p3 v)) (.pr (.val (.sint .i64) (p4 v)) .un)))) (.pr (.snil none) (.pr (.val .bool (p5 v)) (.pr (.whole 12 3) .un))))))⟩, ⟨2, 11, .mp .str T3 (p6 v)⟩, ⟨12, 13, .row T4 (p7 v)⟩, ⟨6, 15, .row T1 (p8 v)⟩], 16))
theorem rd_store_Store_Script_l0 (n k : Nat) : Rounds Try.prog (Go.Func.ntmps Try.f56) (bodyOf Try.f56 0) C_56_0 [S_store_Store_Script_l0 n k, S_store_Store_Script_l0_1 n k] (S_store_Store_Script_l0 n (k + 1)) :=
  rounds_go (tab := mkTab [(102, ⟨S_store_copied n, [], [], false⟩)]) (cuts := mkCuts []) (S_store_Store_Script_l0 n k) [S_store_Store_Script_l0_1 n k] (.cons (ok_store_copied n) ⟨_, Try.func102, by kernel_rfl⟩ .nil) (.none0 (by kernel_rfl)) rfl (fun v => by kernel_rfl)
theorem ok_store_Store_Script_l0 (n k : Nat) : SoundC Try.prog (Go.Func.ntmps Try.f56) (.loop (bodyOf Try.f56 0)) (wr (bodyOf Try.f56 0)) (C_56_0 (S_store_Store_Script_l0 n k)) :=
  loop_go (K := fun k => [S_store_Store_Script_l0 n k, S_store_Store_Script_l0_1 n k]) (fun _ => rfl) (by kernel_rfl) ⟨z_go fun _ => by kernel_rfl, z_go fun _ => by kernel_rfl, trivial⟩ (fun k => ⟨rd_store_Store_Script_l0 n k, (rd_store_Store_Script_l0_1 n k).mono (List.forall_mem_cons.2 ⟨(.tail _ (.head _)), (fun _ h => by cases h)⟩), trivial⟩) k rfl
def F_store_Store_Script_1 (n : Nat) (x0 : Int) (x1 : Int) (x2 : Int) (x3 : Bool) (x4 : List (List UInt8 × List (List UInt8 × Bool))) (x5 : List (List UInt8 × List UInt8 × Int)) (x6 : List (Int × Int × List UInt8 × List UInt8)) : Tree ((List (Int × Int × List UInt8 × List UInt8)) ⊕ Unit) :=
  .sub (F_store_Store_Script_l0 n n (ln x6) (0 : Int) x0 x1 x2 x3 x4 x5 x6) fun y7 =>
  .alt y7 (fun y8 =>
  .ret (.inl y8))
  fun y9 =>
  .ret (.inr ())
def S_store_Store_Script_1 (n : Nat) : Summ := mkS ⟨[(.ptr 0 0), (.whole 8 4)], [⟨0, 1, .box (.agg (.pr (.mpv 2) (.pr (.agg (.pr (.val (.sint .i64) (0 : Int)) (.pr (.val (.sint .i64) (0 : Int)) (.pr (.val (.sint .i64) (0 : Int)) .un)))) (.pr (.whole 4 4) (.pr (.val .bool false) (.pr (.whole 6 3) .un))))))⟩, ⟨2, 3, .mp .str T3 []⟩, ⟨4, 5, .row T1 []⟩, ⟨6, 7, .row T4 []⟩, ⟨8, 9, .row T1 []⟩], 10⟩ [.d (.sint .i64), .d (.sint .i64), .d (.sint .i64), .d .bool, .d T5, .d T2, .d T6, .d T2] fun v => .sub (F_store_Store_Script_1 n (p0 v) (p1 v) (p2 v) (p3 v) (p4 v) (p6 v) (p7 v)) fun r => .alt r (fun r => .ret ((.tup .un), [⟨0, 11, .box (.agg (.pr (.mpv 2) (.pr (.agg (.pr (.val (.sint .i64) (p0 v)) (.pr (.val (.sint .i64) (p1 v)) (.pr (.val (.sint .i64) (p2 v)) .un)))) (.pr (.whole 14 4) (.pr (.val .bool (p3 v)) (.pr (.whole 16 3) .un))))))⟩, ⟨2, 13, .mp .str T3 (p4 v)⟩, ⟨14, 15, .row T1 r⟩, ⟨16, 17, .row T4 (p6 v)⟩, ⟨18, 19, .row T1 (p5 v)⟩, ⟨8, 21, .row T1 (p7 v)⟩], 22)) (fun r => .ret ((.tup .un), [⟨0, 11, .box (.agg (.pr (.mpv 2) (.pr (.agg (.pr (.val (.sint .i64) (p0 v)) (.pr (.val (.sint .i64) (p1 v)) (.pr (.val (.sint .i64) (p2 v)) .un)))) (.pr (.snil none) (.pr (.val .bool (p3 v)) (.pr (.whole 14 3) .un))))))⟩, ⟨2, 13, .mp .str T3 (p4 v)⟩, ⟨14, 15, .row T4 (p6 v)⟩, ⟨16, 17, .row T1 (p5 v)⟩, ⟨8, 19, .row T1 (p7 v)⟩], 20))
theorem ok_store_Store_Script_1 (n : Nat) : SoundF Try.prog 56 (S_store_Store_Script_1 n) :=
  fn_go false (c := codeOf Try.f56) (tab := mkTab []) (cuts := mkCuts [(0, C_56_0 (S_store_Store_Script_l0 n n))]) Try.func56 (by kernel_rfl) .nil (CutsOK.list (l := [(0, .lp (bodyOf Try.f56 0))]) (by kernel_rfl) (LoopsOK.all ⟨.inr ⟨_, rfl, ok_store_Store_Script_l0 n n⟩, trivial⟩)) (fun v => by kernel_rfl)
def F_store_Store_stood (n : Nat) (x0 : List UInt8) (x1 : Int) (x2 : List (List UInt8 × List (List UInt8 × Bool))) : Tree (Unit ⊕ ((List UInt8) × Bool)) :=
  .ite ((decide (x1 < (0 : Int))) || (decide ((ln (mgetD .str T3 x2 x0 ([] : List ((List UInt8) × Bool)))) ≤ x1)))
  (.ret (.inl ()))
  (.get (getI (mgetD .str T3 x2 x0 ([] : List ((List UInt8) × Bool))) (w64 ((w64 ((ln (mgetD .str T3 x2 x0 ([] : List ((List UInt8) × Bool)))) - (1 : Int))) - x1))) fun y3 =>
  .ret (.inr (y3.1, y3.2)))
def S_store_Store_stood (n : Nat) : Summ := mkS ⟨[(.ptr 0 0), (.val .str []), (.val (.sint .i64) (0 : Int))], [⟨0, 1, .box (.agg (.pr (.mpv 2) (.pr (.agg (.pr (.val (.sint .i64) (0 : Int)) (.pr (.val (.sint .i64) (0 : Int)) (.pr (.val (.sint .i64) (0 : Int)) .un)))) (.pr (.whole 4 4) (.pr (.val .bool false) (.pr (.whole 6 3) .un))))))⟩, ⟨2, 3, .mp .str T3 []⟩, ⟨4, 5, .row T1 []⟩, ⟨6, 7, .row T4 []⟩], 8⟩ [.d .str, .d (.sint .i64), .d (.sint .i64), .d (.sint .i64), .d (.sint .i64), .d .bool, .d T5, .d T2, .d T6] fun v => .sub (F_store_Store_stood n (p0 v) (p1 v) (p6 v)) fun r => .alt r (fun r => .ret ((.agg (.pr (.whole 8 1) (.pr (.val .bool false) .un))), [⟨8, 9, .row .u8 ([] : List UInt8)⟩, ⟨0, 11, .box (.agg (.pr (.mpv 2) (.pr (.agg (.pr (.val (.sint .i64) (p2 v)) (.pr (.val (.sint .i64) (p3 v)) (.pr (.val (.sint .i64) (p4 v)) .un)))) (.pr (.whole 14 4) (.pr (.val .bool (p5 v)) (.pr (.whole 16 3) .un))))))⟩, ⟨2, 13, .mp .str T3 (p6 v)⟩, ⟨14, 15, .row T1 (p7 v)⟩, ⟨16, 17, .row T4 (p8 v)⟩], 18)) (fun r => .ret ((.agg (.pr (.ro false .u8 r.1) (.pr (.val .bool r.2) .un))), [⟨0, 9, .box (.agg (.pr (.mpv 2) (.pr (.agg (.pr (.val (.sint .i64) (p2 v)) (.pr (.val (.sint .i64) (p3 v)) (.pr (.val (.sint .i64) (p4 v)) .un)))) (.pr (.whole 12 4) (.pr (.val .bool (p5 v)) (.pr (.whole 14 3) .un))))))⟩, ⟨2, 11, .mp .str T3 (p6 v)⟩, ⟨12, 13, .row T1 (p7 v)⟩, ⟨14, 15, .row T4 (p8 v)⟩], 16))
theorem ok_store_Store_stood (n : Nat) : SoundF Try.prog 92 (S_store_Store_stood n) :=
  fn_go false (c := codeOf Try.f92) (tab := mkTab []) (cuts := mkCuts []) Try.func92 (by kernel_rfl) .nil (.none0 (by kernel_rfl)) (fun v => by kernel_rfl)
def F_store_Store_Get_1 (n : Nat) (x0 : List UInt8) (x1 : Bool) (x2 : List (List UInt8 × List (List UInt8 × Bool))) (x3 : List (Int × Int × List UInt8 × List UInt8)) (x4 : List (List UInt8 × List UInt8 × Int)) : Tree (((Int) × ((Bool) × ((List (Int × Int × List UInt8 × List UInt8)) × (List (List UInt8 × List UInt8 × Int))))) ⊕ (((List UInt8) × ((Bool) × ((List (Int × Int × List UInt8 × List UInt8)) × (List (List UInt8 × List UInt8 × Int))))) ⊕ ((List UInt8) × ((Bool) × ((List (Int × Int × List UInt8 × List UInt8)) × (List (List UInt8 × List UInt8 × Int))))))) :=
  .sub (F_store_Named n x0) fun y5 =>
  .ite (!y5)
  (.ret (.inl ((1 : Int), x1, x3, x4)))
  (.sub (F_store_Store_call n ([103, 101, 116] : List UInt8) x0 (0 : Int) x1 x3 x4) fun y6 =>
  .alt y6 (fun y7 =>
  .ite (!(decide (y7.1 = (0 : Int))))
  (.ret (.inl (y7.1, y7.2.1, x3, y7.2.2)))
  (.sub (F_store_Store_stood n x0 (0 : Int) x2) fun y8 =>
  .alt y8 (fun y9 =>
  .ite false
  (.ret (.inl ((12 : Int), y7.2.1, x3, y7.2.2)))
  (.ite false
  (.ret (.inl ((11 : Int), y7.2.1, x3, y7.2.2)))
  (.ite false
  (.sub (F_store_Store_stood n x0 (0 : Int) x2) fun y10 =>
  .alt y10 (fun y11 =>
  .ite true
  (.ret (.inl ((11 : Int), y7.2.1, x3, y7.2.2)))
  (.ite false
  (.ret (.inl ((13 : Int), y7.2.1, x3, y7.2.2)))
  (.sub (F_slices_Clone___byte_byte_ n ([] : List UInt8)) fun y12 =>
  .alt y12 (fun y13 =>
  .ret (.inl ((0 : Int), y7.2.1, x3, y7.2.2)))
  fun y14 =>
  .ret (.inr (.inl (y14, y7.2.1, x3, y7.2.2))))))
  fun y15 =>
  .ite (!y15.2)
  (.ret (.inl ((11 : Int), y7.2.1, x3, y7.2.2)))
  (.ite (decide ((65536 : Int) < (ln y15.1)))
  (.ret (.inl ((13 : Int), y7.2.1, x3, y7.2.2)))
  (.sub (F_slices_Clone___byte_byte__1 n y15.1) fun y16 =>
  .ret (.inr (.inr (y16, y7.2.1, x3, y7.2.2))))))
  (.ite false
  (.sub (F_store_Store_stood n ([] : List UInt8) (0 : Int) x2) fun y17 =>
  .alt y17 (fun y18 =>
  .ite true
  (.ret (.inl ((11 : Int), y7.2.1, x3, y7.2.2)))
  (.ite false
  (.ret (.inl ((13 : Int), y7.2.1, x3, y7.2.2)))
  (.sub (F_slices_Clone___byte_byte_ n ([] : List UInt8)) fun y19 =>
  .alt y19 (fun y20 =>
  .ret (.inl ((0 : Int), y7.2.1, x3, y7.2.2)))
  fun y21 =>
  .ret (.inr (.inl (y21, y7.2.1, x3, y7.2.2))))))
  fun y22 =>
  .ite (!y22.2)
  (.ret (.inl ((11 : Int), y7.2.1, x3, y7.2.2)))
  (.ite (decide ((65536 : Int) < (ln y22.1)))
  (.ret (.inl ((13 : Int), y7.2.1, x3, y7.2.2)))
  (.sub (F_slices_Clone___byte_byte__1 n y22.1) fun y23 =>
  .ret (.inr (.inr (y23, y7.2.1, x3, y7.2.2))))))
  (.ite false
  (.ite false
  (.ret (.inl ((13 : Int), y7.2.1, x3, y7.2.2)))
  (.sub (F_slices_Clone___byte_byte_ n ([] : List UInt8)) fun y24 =>
  .alt y24 (fun y25 =>
  .ret (.inl ((0 : Int), y7.2.1, x3, y7.2.2)))
  fun y26 =>
  .ret (.inr (.inl (y26, y7.2.1, x3, y7.2.2)))))
  (.ite true
  (.ret (.inl ((11 : Int), y7.2.1, x3, y7.2.2)))
  (.ite false
  (.ret (.inl ((13 : Int), y7.2.1, x3, y7.2.2)))
  (.sub (F_slices_Clone___byte_byte_ n ([] : List UInt8)) fun y27 =>
  .alt y27 (fun y28 =>
  .ret (.inl ((0 : Int), y7.2.1, x3, y7.2.2)))
  fun y29 =>
  .ret (.inr (.inl (y29, y7.2.1, x3, y7.2.2)))))))))))
  fun y30 =>
  .ite false
  (.ret (.inl ((12 : Int), y7.2.1, x3, y7.2.2)))
  (.ite false
  (.ret (.inl ((11 : Int), y7.2.1, x3, y7.2.2)))
  (.ite false
  (.sub (F_store_Store_stood n x0 (0 : Int) x2) fun y31 =>
  .alt y31 (fun y32 =>
  .ite true
  (.ret (.inl ((11 : Int), y7.2.1, x3, y7.2.2)))
  (.ite false
  (.ret (.inl ((13 : Int), y7.2.1, x3, y7.2.2)))
  (.sub (F_slices_Clone___byte_byte_ n ([] : List UInt8)) fun y33 =>
  .alt y33 (fun y34 =>
  .ret (.inl ((0 : Int), y7.2.1, x3, y7.2.2)))
  fun y35 =>
  .ret (.inr (.inl (y35, y7.2.1, x3, y7.2.2))))))
  fun y36 =>
  .ite (!y36.2)
  (.ret (.inl ((11 : Int), y7.2.1, x3, y7.2.2)))
  (.ite (decide ((65536 : Int) < (ln y36.1)))
  (.ret (.inl ((13 : Int), y7.2.1, x3, y7.2.2)))
  (.sub (F_slices_Clone___byte_byte__1 n y36.1) fun y37 =>
  .ret (.inr (.inr (y37, y7.2.1, x3, y7.2.2))))))
  (.ite false
  (.sub (F_store_Store_stood n ([] : List UInt8) (0 : Int) x2) fun y38 =>
  .alt y38 (fun y39 =>
  .ite true
  (.ret (.inl ((11 : Int), y7.2.1, x3, y7.2.2)))
  (.ite false
  (.ret (.inl ((13 : Int), y7.2.1, x3, y7.2.2)))
  (.sub (F_slices_Clone___byte_byte_ n ([] : List UInt8)) fun y40 =>
  .alt y40 (fun y41 =>
  .ret (.inl ((0 : Int), y7.2.1, x3, y7.2.2)))
  fun y42 =>
  .ret (.inr (.inl (y42, y7.2.1, x3, y7.2.2))))))
  fun y43 =>
  .ite (!y43.2)
  (.ret (.inl ((11 : Int), y7.2.1, x3, y7.2.2)))
  (.ite (decide ((65536 : Int) < (ln y43.1)))
  (.ret (.inl ((13 : Int), y7.2.1, x3, y7.2.2)))
  (.sub (F_slices_Clone___byte_byte__1 n y43.1) fun y44 =>
  .ret (.inr (.inr (y44, y7.2.1, x3, y7.2.2))))))
  (.ite false
  (.ite false
  (.ret (.inl ((13 : Int), y7.2.1, x3, y7.2.2)))
  (.sub (F_slices_Clone___byte_byte_ n ([] : List UInt8)) fun y45 =>
  .alt y45 (fun y46 =>
  .ret (.inl ((0 : Int), y7.2.1, x3, y7.2.2)))
  fun y47 =>
  .ret (.inr (.inl (y47, y7.2.1, x3, y7.2.2)))))
  (.ite (!y30.2)
  (.ret (.inl ((11 : Int), y7.2.1, x3, y7.2.2)))
  (.ite (decide ((65536 : Int) < (ln y30.1)))
  (.ret (.inl ((13 : Int), y7.2.1, x3, y7.2.2)))
  (.sub (F_slices_Clone___byte_byte__1 n y30.1) fun y48 =>
  .ret (.inr (.inr (y48, y7.2.1, x3, y7.2.2))))))))))))
  fun y49 =>
  .ite (!(decide (y49.2.2.2.2.1 = (0 : Int))))
  (.ret (.inl (y49.2.2.2.2.1, y49.2.2.2.2.2.1, y49.2.2.2.2.2.2.1, y49.2.2.2.2.2.2.2)))
  (.sub (F_store_Store_stood n x0 (0 : Int) x2) fun y50 =>
  .alt y50 (fun y51 =>
  .ite (decide (y49.1 = (1 : Int)))
  (.ret (.inl ((12 : Int), y49.2.2.2.2.2.1, y49.2.2.2.2.2.2.1, y49.2.2.2.2.2.2.2)))
  (.ite (decide (y49.1 = (2 : Int)))
  (.ret (.inl ((11 : Int), y49.2.2.2.2.2.1, y49.2.2.2.2.2.2.1, y49.2.2.2.2.2.2.2)))
  (.ite (decide (y49.1 = (3 : Int)))
  (.sub (F_store_Store_stood n x0 y49.2.1 x2) fun y52 =>
  .alt y52 (fun y53 =>
  .ite true
  (.ret (.inl ((11 : Int), y49.2.2.2.2.2.1, y49.2.2.2.2.2.2.1, y49.2.2.2.2.2.2.2)))
  (.ite false
  (.ret (.inl ((13 : Int), y49.2.2.2.2.2.1, y49.2.2.2.2.2.2.1, y49.2.2.2.2.2.2.2)))
  (.sub (F_slices_Clone___byte_byte_ n ([] : List UInt8)) fun y54 =>
  .alt y54 (fun y55 =>
  .ret (.inl ((0 : Int), y49.2.2.2.2.2.1, y49.2.2.2.2.2.2.1, y49.2.2.2.2.2.2.2)))
  fun y56 =>
  .ret (.inr (.inl (y56, y49.2.2.2.2.2.1, y49.2.2.2.2.2.2.1, y49.2.2.2.2.2.2.2))))))
  fun y57 =>
  .ite (!y57.2)
  (.ret (.inl ((11 : Int), y49.2.2.2.2.2.1, y49.2.2.2.2.2.2.1, y49.2.2.2.2.2.2.2)))
  (.ite (decide ((65536 : Int) < (ln y57.1)))
  (.ret (.inl ((13 : Int), y49.2.2.2.2.2.1, y49.2.2.2.2.2.2.1, y49.2.2.2.2.2.2.2)))
  (.sub (F_slices_Clone___byte_byte__1 n y57.1) fun y58 =>
  .ret (.inr (.inr (y58, y49.2.2.2.2.2.1, y49.2.2.2.2.2.2.1, y49.2.2.2.2.2.2.2))))))
  (.ite (decide (y49.1 = (4 : Int)))
  (.sub (F_store_Store_stood n y49.2.2.1 (0 : Int) x2) fun y59 =>
  .alt y59 (fun y60 =>
  .ite true
  (.ret (.inl ((11 : Int), y49.2.2.2.2.2.1, y49.2.2.2.2.2.2.1, y49.2.2.2.2.2.2.2)))
  (.ite false
  (.ret (.inl ((13 : Int), y49.2.2.2.2.2.1, y49.2.2.2.2.2.2.1, y49.2.2.2.2.2.2.2)))
  (.sub (F_slices_Clone___byte_byte_ n ([] : List UInt8)) fun y61 =>
  .alt y61 (fun y62 =>
  .ret (.inl ((0 : Int), y49.2.2.2.2.2.1, y49.2.2.2.2.2.2.1, y49.2.2.2.2.2.2.2)))
  fun y63 =>
  .ret (.inr (.inl (y63, y49.2.2.2.2.2.1, y49.2.2.2.2.2.2.1, y49.2.2.2.2.2.2.2))))))
  fun y64 =>
  .ite (!y64.2)
  (.ret (.inl ((11 : Int), y49.2.2.2.2.2.1, y49.2.2.2.2.2.2.1, y49.2.2.2.2.2.2.2)))
  (.ite (decide ((65536 : Int) < (ln y64.1)))
  (.ret (.inl ((13 : Int), y49.2.2.2.2.2.1, y49.2.2.2.2.2.2.1, y49.2.2.2.2.2.2.2)))
  (.sub (F_slices_Clone___byte_byte__1 n y64.1) fun y65 =>
  .ret (.inr (.inr (y65, y49.2.2.2.2.2.1, y49.2.2.2.2.2.2.1, y49.2.2.2.2.2.2.2))))))
  (.ite (decide (y49.1 = (5 : Int)))
  (.ite (decide ((65536 : Int) < (ln y49.2.2.2.1)))
  (.ret (.inl ((13 : Int), y49.2.2.2.2.2.1, y49.2.2.2.2.2.2.1, y49.2.2.2.2.2.2.2)))
  (.sub (F_slices_Clone___byte_byte__1 n y49.2.2.2.1) fun y66 =>
  .ret (.inr (.inr (y66, y49.2.2.2.2.2.1, y49.2.2.2.2.2.2.1, y49.2.2.2.2.2.2.2)))))
  (.ite true
  (.ret (.inl ((11 : Int), y49.2.2.2.2.2.1, y49.2.2.2.2.2.2.1, y49.2.2.2.2.2.2.2)))
  (.ite false
  (.ret (.inl ((13 : Int), y49.2.2.2.2.2.1, y49.2.2.2.2.2.2.1, y49.2.2.2.2.2.2.2)))
  (.sub (F_slices_Clone___byte_byte_ n ([] : List UInt8)) fun y67 =>
  .alt y67 (fun y68 =>
  .ret (.inl ((0 : Int), y49.2.2.2.2.2.1, y49.2.2.2.2.2.2.1, y49.2.2.2.2.2.2.2)))
  fun y69 =>
  .ret (.inr (.inl (y69, y49.2.2.2.2.2.1, y49.2.2.2.2.2.2.1, y49.2.2.2.2.2.2.2)))))))))))
  fun y70 =>
  .ite (decide (y49.1 = (1 : Int)))
  (.ret (.inl ((12 : Int), y49.2.2.2.2.2.1, y49.2.2.2.2.2.2.1, y49.2.2.2.2.2.2.2)))
  (.ite (decide (y49.1 = (2 : Int)))
  (.ret (.inl ((11 : Int), y49.2.2.2.2.2.1, y49.2.2.2.2.2.2.1, y49.2.2.2.2.2.2.2)))
  (.ite (decide (y49.1 = (3 : Int)))
  (.sub (F_store_Store_stood n x0 y49.2.1 x2) fun y71 =>
  .alt y71 (fun y72 =>
  .ite true
  (.ret (.inl ((11 : Int), y49.2.2.2.2.2.1, y49.2.2.2.2.2.2.1, y49.2.2.2.2.2.2.2)))
  (.ite false
  (.ret (.inl ((13 : Int), y49.2.2.2.2.2.1, y49.2.2.2.2.2.2.1, y49.2.2.2.2.2.2.2)))
  (.sub (F_slices_Clone___byte_byte_ n ([] : List UInt8)) fun y73 =>
  .alt y73 (fun y74 =>
  .ret (.inl ((0 : Int), y49.2.2.2.2.2.1, y49.2.2.2.2.2.2.1, y49.2.2.2.2.2.2.2)))
  fun y75 =>
  .ret (.inr (.inl (y75, y49.2.2.2.2.2.1, y49.2.2.2.2.2.2.1, y49.2.2.2.2.2.2.2))))))
  fun y76 =>
  .ite (!y76.2)
  (.ret (.inl ((11 : Int), y49.2.2.2.2.2.1, y49.2.2.2.2.2.2.1, y49.2.2.2.2.2.2.2)))
  (.ite (decide ((65536 : Int) < (ln y76.1)))
  (.ret (.inl ((13 : Int), y49.2.2.2.2.2.1, y49.2.2.2.2.2.2.1, y49.2.2.2.2.2.2.2)))
  (.sub (F_slices_Clone___byte_byte__1 n y76.1) fun y77 =>
  .ret (.inr (.inr (y77, y49.2.2.2.2.2.1, y49.2.2.2.2.2.2.1, y49.2.2.2.2.2.2.2))))))
  (.ite (decide (y49.1 = (4 : Int)))
  (.sub (F_store_Store_stood n y49.2.2.1 (0 : Int) x2) fun y78 =>
  .alt y78 (fun y79 =>
  .ite true
  (.ret (.inl ((11 : Int), y49.2.2.2.2.2.1, y49.2.2.2.2.2.2.1, y49.2.2.2.2.2.2.2)))
  (.ite false
  (.ret (.inl ((13 : Int), y49.2.2.2.2.2.1, y49.2.2.2.2.2.2.1, y49.2.2.2.2.2.2.2)))
  (.sub (F_slices_Clone___byte_byte_ n ([] : List UInt8)) fun y80 =>
  .alt y80 (fun y81 =>
  .ret (.inl ((0 : Int), y49.2.2.2.2.2.1, y49.2.2.2.2.2.2.1, y49.2.2.2.2.2.2.2)))
  fun y82 =>
  .ret (.inr (.inl (y82, y49.2.2.2.2.2.1, y49.2.2.2.2.2.2.1, y49.2.2.2.2.2.2.2))))))
  fun y83 =>
  .ite (!y83.2)
  (.ret (.inl ((11 : Int), y49.2.2.2.2.2.1, y49.2.2.2.2.2.2.1, y49.2.2.2.2.2.2.2)))
  (.ite (decide ((65536 : Int) < (ln y83.1)))
  (.ret (.inl ((13 : Int), y49.2.2.2.2.2.1, y49.2.2.2.2.2.2.1, y49.2.2.2.2.2.2.2)))
  (.sub (F_slices_Clone___byte_byte__1 n y83.1) fun y84 =>
  .ret (.inr (.inr (y84, y49.2.2.2.2.2.1, y49.2.2.2.2.2.2.1, y49.2.2.2.2.2.2.2))))))
  (.ite (decide (y49.1 = (5 : Int)))
  (.ite (decide ((65536 : Int) < (ln y49.2.2.2.1)))
  (.ret (.inl ((13 : Int), y49.2.2.2.2.2.1, y49.2.2.2.2.2.2.1, y49.2.2.2.2.2.2.2)))
  (.sub (F_slices_Clone___byte_byte__1 n y49.2.2.2.1) fun y85 =>
  .ret (.inr (.inr (y85, y49.2.2.2.2.2.1, y49.2.2.2.2.2.2.1, y49.2.2.2.2.2.2.2)))))
  (.ite (!y70.2)
  (.ret (.inl ((11 : Int), y49.2.2.2.2.2.1, y49.2.2.2.2.2.2.1, y49.2.2.2.2.2.2.2)))
  (.ite (decide ((65536 : Int) < (ln y70.1)))
  (.ret (.inl ((13 : Int), y49.2.2.2.2.2.1, y49.2.2.2.2.2.2.1, y49.2.2.2.2.2.2.2)))
  (.sub (F_slices_Clone___byte_byte__1 n y70.1) fun y86 =>
  .ret (.inr (.inr (y86, y49.2.2.2.2.2.1, y49.2.2.2.2.2.2.1, y49.2.2.2.2.2.2.2))))))))))))
def S_store_Store_Get_1 (n : Nat) : Summ := mkS ⟨[(.ptr 0 0), (.val .str [])], [⟨0, 1, .box (.agg (.pr (.mpv 2) (.pr (.agg (.pr (.val (.sint .i64) (0 : Int)) (.pr (.val (.sint .i64) (0 : Int)) (.pr (.val (.sint .i64) (0 : Int)) .un)))) (.pr (.whole 4 4) (.pr (.val .bool false) (.pr (.whole 6 3) .un))))))⟩, ⟨2, 3, .mp .str T3 []⟩, ⟨4, 5, .row T1 []⟩, ⟨6, 7, .row T4 []⟩], 8⟩ [.d .str, .d (.sint .i64), .d (.sint .i64), .d (.sint .i64), .d .bool, .d T5, .d T2, .d T6] fun v => .sub (F_store_Store_Get_1 n (p0 v) (p4 v) (p5 v) (p6 v) (p7 v)) fun r => .alt r (fun r => .ret ((.tup (.pr (.snil none) (.pr (.val (.sint .i64) r.1) .un))), [⟨0, 9, .box (.agg (.pr (.mpv 2) (.pr (.agg (.pr (.val (.sint .i64) (p1 v)) (.pr (.val (.sint .i64) (p2 v)) (.pr (.val (.sint .i64) (p3 v)) .un)))) (.pr (.whole 12 4) (.pr (.val .bool r.2.1) (.pr (.whole 14 3) .un))))))⟩, ⟨2, 11, .mp .str T3 (p5 v)⟩, ⟨12, 13, .row T1 r.2.2.1⟩, ⟨14, 15, .row T4 r.2.2.2⟩], 16)) (fun r => .alt r (fun r => .ret ((.tup (.pr (.whole 8 1) (.pr (.val (.sint .i64) (0 : Int)) .un))), [⟨8, 9, .row .u8 r.1⟩, ⟨0, 11, .box (.agg (.pr (.mpv 2) (.pr (.agg (.pr (.val (.sint .i64) (p1 v)) (.pr (.val (.sint .i64) (p2 v)) (.pr (.val (.sint .i64) (p3 v)) .un)))) (.pr (.whole 14 4) (.pr (.val .bool r.2.1) (.pr (.whole 16 3) .un))))))⟩, ⟨2, 13, .mp .str T3 (p5 v)⟩, ⟨14, 15, .row T1 r.2.2.1⟩, ⟨16, 17, .row T4 r.2.2.2⟩], 18)) (fun r => .ret ((.tup (.pr (.ro false .u8 r.1) (.pr (.val (.sint .i64) (0 : Int)) .un))), [⟨0, 9, .box (.agg (.pr (.mpv 2) (.pr (.agg (.pr (.val (.sint .i64) (p1 v)) (.pr (.val (.sint .i64) (p2 v)) (.pr (.val (.sint .i64) (p3 v)) .un)))) (.pr (.whole 12 4) (.pr (.val .bool r.2.1) (.pr (.whole 14 3) .un))))))⟩, ⟨2, 11, .mp .str T3 (p5 v)⟩, ⟨12, 13, .row T1 r.2.2.1⟩, ⟨14, 15, .row T4 r.2.2.2⟩], 16)))
theorem ok_store_Store_Get_1 (n : Nat) : SoundF Try.prog 49 (S_store_Store_Get_1 n) :=
  fn_go false (c := codeOf Try.f49) (tab := mkTab [(15, ⟨S_store_Named n, [], [], false⟩), (91, ⟨S_store_Store_call n, [], [], false⟩), (92, ⟨S_store_Store_stood n, [], [], false⟩), (90, ⟨orS (S_slices_Clone___byte_byte_ n) (S_slices_Clone___byte_byte__1 n), [], [], false⟩)]) (cuts := mkCuts []) Try.func49 (by kernel_rfl) (.cons (ok_store_Named n) ⟨_, Try.func15, by kernel_rfl⟩ (.cons (ok_store_Store_call n) ⟨_, Try.func91, by kernel_rfl⟩ (.cons (ok_store_Store_stood n) ⟨_, Try.func92, by kernel_rfl⟩ (.cons (.or (ok_slices_Clone___byte_byte_ n) (ok_slices_Clone___byte_byte__1 n)) ⟨_, Try.func90, by kernel_rfl⟩ .nil)))) (.none0 (by kernel_rfl)) (fun v => by kernel_rfl)
def F_store_Store_Dead_1 (n : Nat) : Tree Unit :=
  .ret ()
def S_store_Store_Dead_1 (n : Nat) : Summ := mkS ⟨[(.ptr 0 0)], [⟨0, 1, .box (.agg (.pr (.mpv 2) (.pr (.agg (.pr (.val (.sint .i64) (0 : Int)) (.pr (.val (.sint .i64) (0 : Int)) (.pr (.val (.sint .i64) (0 : Int)) .un)))) (.pr (.whole 4 4) (.pr (.val .bool false) (.pr (.whole 6 3) .un))))))⟩, ⟨2, 3, .mp .str T3 []⟩, ⟨4, 5, .row T1 []⟩, ⟨6, 7, .row T4 []⟩], 8⟩ [.d (.sint .i64), .d (.sint .i64), .d (.sint .i64), .d .bool, .d T5, .d T2, .d T6] fun v => .sub (F_store_Store_Dead_1 n) fun r => .ret ((.val .bool (p3 v)), [⟨0, 9, .box (.agg (.pr (.mpv 2) (.pr (.agg (.pr (.val (.sint .i64) (p0 v)) (.pr (.val (.sint .i64) (p1 v)) (.pr (.val (.sint .i64) (p2 v)) .un)))) (.pr (.whole 12 4) (.pr (.val .bool (p3 v)) (.pr (.whole 14 3) .un))))))⟩, ⟨2, 11, .mp .str T3 (p4 v)⟩, ⟨12, 13, .row T1 (p5 v)⟩, ⟨14, 15, .row T4 (p6 v)⟩], 16)
theorem ok_store_Store_Dead_1 (n : Nat) : SoundF Try.prog 52 (S_store_Store_Dead_1 n) :=
  fn_go false (c := codeOf Try.f52) (tab := mkTab []) (cuts := mkCuts []) Try.func52 (by kernel_rfl) .nil (.none0 (by kernel_rfl)) (fun v => by kernel_rfl)
def F_slices_Clone___byte_byte__2 (n : Nat) : Tree Unit :=
  .ret ()
def S_slices_Clone___byte_byte__2 (n : Nat) : Summ := mkS ⟨[(.snil none)], [], 0⟩ [] fun v => .sub (F_slices_Clone___byte_byte__2 n) fun r => .ret ((.snil none), [], 0)
theorem ok_slices_Clone___byte_byte__2 (n : Nat) : SoundF Try.prog 90 (S_slices_Clone___byte_byte__2 n) :=
  fn_go false (c := codeOf Try.f90) (tab := mkTab []) (cuts := mkCuts []) Try.func90 (by kernel_rfl) .nil (.none0 (by kernel_rfl)) (fun v => by kernel_rfl)
def F_store_Store_Put_2 (n : Nat) (x0 : List UInt8) (x1 : Bool) (x2 : List (List UInt8 × List (List UInt8 × Bool))) (x3 : List (Int × Int × List UInt8 × List UInt8)) (x4 : List (List UInt8 × List UInt8 × Int)) : Tree ((Int) × ((Bool) × ((List (List UInt8 × List (List UInt8 × Bool))) × ((List (Int × Int × List UInt8 × List UInt8)) × (List (List UInt8 × List UInt8 × Int)))))) :=
  .sub (F_store_Named n x0) fun y5 =>
  .ite (!y5)
  (.ret ((1 : Int), x1, x2, x3, x4))
  (.ite false
  (.ret ((2 : Int), x1, x2, x3, x4))
  (.sub (F_slices_Clone___byte_byte__2 n) fun y6 =>
  .sub (F_store_Store_change n ([112, 117, 116] : List UInt8) x0 x1 x2 x3 x4) fun y7 =>
  .ret (y7.1, y7.2.1, y7.2.2.1, y7.2.2.2.1, y7.2.2.2.2)))
def S_store_Store_Put_2 (n : Nat) : Summ := mkS ⟨[(.ptr 0 0), (.val .str []), (.snil none)], [⟨0, 1, .box (.agg (.pr (.mpv 2) (.pr (.agg (.pr (.val (.sint .i64) (0 : Int)) (.pr (.val (.sint .i64) (0 : Int)) (.pr (.val (.sint .i64) (0 : Int)) .un)))) (.pr (.whole 4 4) (.pr (.val .bool false) (.pr (.whole 6 3) .un))))))⟩, ⟨2, 3, .mp .str T3 []⟩, ⟨4, 5, .row T1 []⟩, ⟨6, 7, .row T4 []⟩], 8⟩ [.d .str, .d (.sint .i64), .d (.sint .i64), .d (.sint .i64), .d .bool, .d T5, .d T2, .d T6] fun v => .sub (F_store_Store_Put_2 n (p0 v) (p4 v) (p5 v) (p6 v) (p7 v)) fun r => .ret ((.val (.sint .i64) r.1), [⟨0, 9, .box (.agg (.pr (.mpv 2) (.pr (.agg (.pr (.val (.sint .i64) (p1 v)) (.pr (.val (.sint .i64) (p2 v)) (.pr (.val (.sint .i64) (p3 v)) .un)))) (.pr (.whole 12 4) (.pr (.val .bool r.2.1) (.pr (.whole 14 3) .un))))))⟩, ⟨2, 11, .mp .str T3 r.2.2.1⟩, ⟨12, 13, .row T1 r.2.2.2.1⟩, ⟨14, 15, .row T4 r.2.2.2.2⟩], 16)
theorem ok_store_Store_Put_2 (n : Nat) : SoundF Try.prog 46 (S_store_Store_Put_2 n) :=
  fn_go false (c := codeOf Try.f46) (tab := mkTab [(15, ⟨S_store_Named n, [], [], false⟩), (90, ⟨S_slices_Clone___byte_byte__2 n, [], [], false⟩), (89, ⟨S_store_Store_change n, [], [], false⟩)]) (cuts := mkCuts []) Try.func46 (by kernel_rfl) (.cons (ok_store_Named n) ⟨_, Try.func15, by kernel_rfl⟩ (.cons (ok_slices_Clone___byte_byte__2 n) ⟨_, Try.func90, by kernel_rfl⟩ (.cons (ok_store_Store_change n) ⟨_, Try.func89, by kernel_rfl⟩ .nil))) (.none0 (by kernel_rfl)) (fun v => by kernel_rfl)
def F_store_Store_call_1 (n : Nat) (x0 : List UInt8) (x1 : List UInt8) (x2 : Int) (x3 : Bool) (x4 : List (List UInt8 × List UInt8 × Int)) : Tree ((Int) × ((Bool) × (List (List UInt8 × List UInt8 × Int)))) :=
  .ite x3
  (.ret ((14 : Int), x3, x4))
  (.get (appI 3518437208883 x4 (List.set ([(([] : List UInt8), (([] : List UInt8), (0 : Int)))] : List ((List UInt8) × ((List UInt8) × Int))) 0 (x0, (x1, x2)))) fun y5 =>
  .ite false
  (.fail)
  (.ite false
  (.ret ((14 : Int), true, y5))
  (.ret ((0 : Int), x3, y5))))
def S_store_Store_call_1 (n : Nat) : Summ := mkS ⟨[(.ptr 0 0), (.val .str []), (.val .str []), (.val (.sint .i64) (0 : Int))], [⟨0, 1, .box (.agg (.pr (.mpv 2) (.pr (.agg (.pr (.val (.sint .i64) (0 : Int)) (.pr (.val (.sint .i64) (0 : Int)) (.pr (.val (.sint .i64) (0 : Int)) .un)))) (.pr (.snil none) (.pr (.val .bool false) (.pr (.whole 4 3) .un))))))⟩, ⟨2, 3, .mp .str T3 []⟩, ⟨4, 5, .row T4 []⟩], 6⟩ [.d .str, .d .str, .d (.sint .i64), .d (.sint .i64), .d (.sint .i64), .d (.sint .i64), .d .bool, .d T5, .d T6] fun v => .sub (F_store_Store_call_1 n (p0 v) (p1 v) (p2 v) (p6 v) (p8 v)) fun r => .ret ((.tup (.pr (.agg (.pr (.val (.sint .i64) (0 : Int)) (.pr (.val (.sint .i64) (0 : Int)) (.pr (.val .str ([] : List UInt8)) (.pr (.whole 6 1) .un))))) (.pr (.val (.sint .i64) r.1) .un))), [⟨6, 7, .row .u8 ([] : List UInt8)⟩, ⟨0, 9, .box (.agg (.pr (.mpv 2) (.pr (.agg (.pr (.val (.sint .i64) (p3 v)) (.pr (.val (.sint .i64) (p4 v)) (.pr (.val (.sint .i64) (p5 v)) .un)))) (.pr (.snil none) (.pr (.val .bool r.2.1) (.pr (.whole 12 3) .un))))))⟩, ⟨2, 11, .mp .str T3 (p7 v)⟩, ⟨12, 13, .row T4 r.2.2⟩], 14)
theorem ok_store_Store_call_1 (n : Nat) : SoundF Try.prog 91 (S_store_Store_call_1 n) :=
  fn_go false (c := codeOf Try.f91) (tab := mkTab []) (cuts := mkCuts []) Try.func91 (by kernel_rfl) .nil (.none0 (by kernel_rfl)) (fun v => by kernel_rfl)
def F_store_Store_stood_1 (n : Nat) (x0 : List UInt8) (x1 : Int) (x2 : List (List UInt8 × List (List UInt8 × Bool))) : Tree (Unit ⊕ ((List UInt8) × Bool)) :=
  .ite ((decide (x1 < (0 : Int))) || (decide ((ln (mgetD .str T3 x2 x0 ([] : List ((List UInt8) × Bool)))) ≤ x1)))
  (.ret (.inl ()))
  (.get (getI (mgetD .str T3 x2 x0 ([] : List ((List UInt8) × Bool))) (w64 ((w64 ((ln (mgetD .str T3 x2 x0 ([] : List ((List UInt8) × Bool)))) - (1 : Int))) - x1))) fun y3 =>
  .ret (.inr (y3.1, y3.2)))
def S_store_Store_stood_1 (n : Nat) : Summ := mkS ⟨[(.ptr 0 0), (.val .str []), (.val (.sint .i64) (0 : Int))], [⟨0, 1, .box (.agg (.pr (.mpv 2) (.pr (.agg (.pr (.val (.sint .i64) (0 : Int)) (.pr (.val (.sint .i64) (0 : Int)) (.pr (.val (.sint .i64) (0 : Int)) .un)))) (.pr (.snil none) (.pr (.val .bool false) (.pr (.whole 4 3) .un))))))⟩, ⟨2, 3, .mp .str T3 []⟩, ⟨4, 5, .row T4 []⟩], 6⟩ [.d .str, .d (.sint .i64), .d (.sint .i64), .d (.sint .i64), .d (.sint .i64), .d .bool, .d T5, .d T6] fun v => .sub (F_store_Store_stood_1 n (p0 v) (p1 v) (p6 v)) fun r => .alt r (fun r => .ret ((.agg (.pr (.whole 6 1) (.pr (.val .bool false) .un))), [⟨6, 7, .row .u8 ([] : List UInt8)⟩, ⟨0, 9, .box (.agg (.pr (.mpv 2) (.pr (.agg (.pr (.val (.sint .i64) (p2 v)) (.pr (.val (.sint .i64) (p3 v)) (.pr (.val (.sint .i64) (p4 v)) .un)))) (.pr (.snil none) (.pr (.val .bool (p5 v)) (.pr (.whole 12 3) .un))))))⟩, ⟨2, 11, .mp .str T3 (p6 v)⟩, ⟨12, 13, .row T4 (p7 v)⟩], 14)) (fun r => .ret ((.agg (.pr (.ro false .u8 r.1) (.pr (.val .bool r.2) .un))), [⟨0, 7, .box (.agg (.pr (.mpv 2) (.pr (.agg (.pr (.val (.sint .i64) (p2 v)) (.pr (.val (.sint .i64) (p3 v)) (.pr (.val (.sint .i64) (p4 v)) .un)))) (.pr (.snil none) (.pr (.val .bool (p5 v)) (.pr (.whole 10 3) .un))))))⟩, ⟨2, 9, .mp .str T3 (p6 v)⟩, ⟨10, 11, .row T4 (p7 v)⟩], 12))
theorem ok_store_Store_stood_1 (n : Nat) : SoundF Try.prog 92 (S_store_Store_stood_1 n) :=
  fn_go false (c := codeOf Try.f92) (tab := mkTab []) (cuts := mkCuts []) Try.func92 (by kernel_rfl) .nil (.none0 (by kernel_rfl)) (fun v => by kernel_rfl)
def F_store_Store_Get_2 (n : Nat) (x0 : List UInt8) (x1 : Bool) (x2 : List (List UInt8 × List (List UInt8 × Bool))) (x3 : List (List UInt8 × List UInt8 × Int)) : Tree (((Int) × ((Bool) × (List (List UInt8 × List UInt8 × Int)))) ⊕ (((List UInt8) × ((Bool) × (List (List UInt8 × List UInt8 × Int)))) ⊕ ((List UInt8) × ((Bool) × (List (List UInt8 × List UInt8 × Int)))))) :=
  .sub (F_store_Named n x0) fun y4 =>
  .ite (!y4)
  (.ret (.inl ((1 : Int), x1, x3)))
  (.sub (F_store_Store_call_1 n ([103, 101, 116] : List UInt8) x0 (0 : Int) x1 x3) fun y5 =>
  .ite (!(decide (y5.1 = (0 : Int))))
  (.ret (.inl (y5.1, y5.2.1, y5.2.2)))
  (.sub (F_store_Store_stood_1 n x0 (0 : Int) x2) fun y6 =>
  .alt y6 (fun y7 =>
  .ite false
  (.ret (.inl ((12 : Int), y5.2.1, y5.2.2)))
  (.ite false
  (.ret (.inl ((11 : Int), y5.2.1, y5.2.2)))
  (.ite false
  (.sub (F_store_Store_stood_1 n x0 (0 : Int) x2) fun y8 =>
  .alt y8 (fun y9 =>
  .ite true
  (.ret (.inl ((11 : Int), y5.2.1, y5.2.2)))
  (.ite false
  (.ret (.inl ((13 : Int), y5.2.1, y5.2.2)))
  (.sub (F_slices_Clone___byte_byte_ n ([] : List UInt8)) fun y10 =>
  .alt y10 (fun y11 =>
  .ret (.inl ((0 : Int), y5.2.1, y5.2.2)))
  fun y12 =>
  .ret (.inr (.inl (y12, y5.2.1, y5.2.2))))))
  fun y13 =>
  .ite (!y13.2)
  (.ret (.inl ((11 : Int), y5.2.1, y5.2.2)))
  (.ite (decide ((65536 : Int) < (ln y13.1)))
  (.ret (.inl ((13 : Int), y5.2.1, y5.2.2)))
  (.sub (F_slices_Clone___byte_byte__1 n y13.1) fun y14 =>
  .ret (.inr (.inr (y14, y5.2.1, y5.2.2))))))
  (.ite false
  (.sub (F_store_Store_stood_1 n ([] : List UInt8) (0 : Int) x2) fun y15 =>
  .alt y15 (fun y16 =>
  .ite true
  (.ret (.inl ((11 : Int), y5.2.1, y5.2.2)))
  (.ite false
  (.ret (.inl ((13 : Int), y5.2.1, y5.2.2)))
  (.sub (F_slices_Clone___byte_byte_ n ([] : List UInt8)) fun y17 =>
  .alt y17 (fun y18 =>
  .ret (.inl ((0 : Int), y5.2.1, y5.2.2)))
  fun y19 =>
  .ret (.inr (.inl (y19, y5.2.1, y5.2.2))))))
  fun y20 =>
  .ite (!y20.2)
  (.ret (.inl ((11 : Int), y5.2.1, y5.2.2)))
  (.ite (decide ((65536 : Int) < (ln y20.1)))
  (.ret (.inl ((13 : Int), y5.2.1, y5.2.2)))
  (.sub (F_slices_Clone___byte_byte__1 n y20.1) fun y21 =>
  .ret (.inr (.inr (y21, y5.2.1, y5.2.2))))))
  (.ite false
  (.ite false
  (.ret (.inl ((13 : Int), y5.2.1, y5.2.2)))
  (.sub (F_slices_Clone___byte_byte_ n ([] : List UInt8)) fun y22 =>
  .alt y22 (fun y23 =>
  .ret (.inl ((0 : Int), y5.2.1, y5.2.2)))
  fun y24 =>
  .ret (.inr (.inl (y24, y5.2.1, y5.2.2)))))
  (.ite true
  (.ret (.inl ((11 : Int), y5.2.1, y5.2.2)))
  (.ite false
  (.ret (.inl ((13 : Int), y5.2.1, y5.2.2)))
  (.sub (F_slices_Clone___byte_byte_ n ([] : List UInt8)) fun y25 =>
  .alt y25 (fun y26 =>
  .ret (.inl ((0 : Int), y5.2.1, y5.2.2)))
  fun y27 =>
  .ret (.inr (.inl (y27, y5.2.1, y5.2.2)))))))))))
  fun y28 =>
  .ite false
  (.ret (.inl ((12 : Int), y5.2.1, y5.2.2)))
  (.ite false
  (.ret (.inl ((11 : Int), y5.2.1, y5.2.2)))
  (.ite false
  (.sub (F_store_Store_stood_1 n x0 (0 : Int) x2) fun y29 =>
  .alt y29 (fun y30 =>
  .ite true
  (.ret (.inl ((11 : Int), y5.2.1, y5.2.2)))
  (.ite false
  (.ret (.inl ((13 : Int), y5.2.1, y5.2.2)))
  (.sub (F_slices_Clone___byte_byte_ n ([] : List UInt8)) fun y31 =>
  .alt y31 (fun y32 =>
  .ret (.inl ((0 : Int), y5.2.1, y5.2.2)))
  fun y33 =>
  .ret (.inr (.inl (y33, y5.2.1, y5.2.2))))))
  fun y34 =>
  .ite (!y34.2)
  (.ret (.inl ((11 : Int), y5.2.1, y5.2.2)))
  (.ite (decide ((65536 : Int) < (ln y34.1)))
  (.ret (.inl ((13 : Int), y5.2.1, y5.2.2)))
  (.sub (F_slices_Clone___byte_byte__1 n y34.1) fun y35 =>
  .ret (.inr (.inr (y35, y5.2.1, y5.2.2))))))
  (.ite false
  (.sub (F_store_Store_stood_1 n ([] : List UInt8) (0 : Int) x2) fun y36 =>
  .alt y36 (fun y37 =>
  .ite true
  (.ret (.inl ((11 : Int), y5.2.1, y5.2.2)))
  (.ite false
  (.ret (.inl ((13 : Int), y5.2.1, y5.2.2)))
  (.sub (F_slices_Clone___byte_byte_ n ([] : List UInt8)) fun y38 =>
  .alt y38 (fun y39 =>
  .ret (.inl ((0 : Int), y5.2.1, y5.2.2)))
  fun y40 =>
  .ret (.inr (.inl (y40, y5.2.1, y5.2.2))))))
  fun y41 =>
  .ite (!y41.2)
  (.ret (.inl ((11 : Int), y5.2.1, y5.2.2)))
  (.ite (decide ((65536 : Int) < (ln y41.1)))
  (.ret (.inl ((13 : Int), y5.2.1, y5.2.2)))
  (.sub (F_slices_Clone___byte_byte__1 n y41.1) fun y42 =>
  .ret (.inr (.inr (y42, y5.2.1, y5.2.2))))))
  (.ite false
  (.ite false
  (.ret (.inl ((13 : Int), y5.2.1, y5.2.2)))
  (.sub (F_slices_Clone___byte_byte_ n ([] : List UInt8)) fun y43 =>
  .alt y43 (fun y44 =>
  .ret (.inl ((0 : Int), y5.2.1, y5.2.2)))
  fun y45 =>
  .ret (.inr (.inl (y45, y5.2.1, y5.2.2)))))
  (.ite (!y28.2)
  (.ret (.inl ((11 : Int), y5.2.1, y5.2.2)))
  (.ite (decide ((65536 : Int) < (ln y28.1)))
  (.ret (.inl ((13 : Int), y5.2.1, y5.2.2)))
  (.sub (F_slices_Clone___byte_byte__1 n y28.1) fun y46 =>
  .ret (.inr (.inr (y46, y5.2.1, y5.2.2))))))))))))
def S_store_Store_Get_2 (n : Nat) : Summ := mkS ⟨[(.ptr 0 0), (.val .str [])], [⟨0, 1, .box (.agg (.pr (.mpv 2) (.pr (.agg (.pr (.val (.sint .i64) (0 : Int)) (.pr (.val (.sint .i64) (0 : Int)) (.pr (.val (.sint .i64) (0 : Int)) .un)))) (.pr (.snil none) (.pr (.val .bool false) (.pr (.whole 4 3) .un))))))⟩, ⟨2, 3, .mp .str T3 []⟩, ⟨4, 5, .row T4 []⟩], 6⟩ [.d .str, .d (.sint .i64), .d (.sint .i64), .d (.sint .i64), .d .bool, .d T5, .d T6] fun v => .sub (F_store_Store_Get_2 n (p0 v) (p4 v) (p5 v) (p6 v)) fun r => .alt r (fun r => .ret ((.tup (.pr (.snil none) (.pr (.val (.sint .i64) r.1) .un))), [⟨0, 7, .box (.agg (.pr (.mpv 2) (.pr (.agg (.pr (.val (.sint .i64) (p1 v)) (.pr (.val (.sint .i64) (p2 v)) (.pr (.val (.sint .i64) (p3 v)) .un)))) (.pr (.snil none) (.pr (.val .bool r.2.1) (.pr (.whole 10 3) .un))))))⟩, ⟨2, 9, .mp .str T3 (p5 v)⟩, ⟨10, 11, .row T4 r.2.2⟩], 12)) (fun r => .alt r (fun r => .ret ((.tup (.pr (.whole 6 1) (.pr (.val (.sint .i64) (0 : Int)) .un))), [⟨6, 7, .row .u8 r.1⟩, ⟨0, 9, .box (.agg (.pr (.mpv 2) (.pr (.agg (.pr (.val (.sint .i64) (p1 v)) (.pr (.val (.sint .i64) (p2 v)) (.pr (.val (.sint .i64) (p3 v)) .un)))) (.pr (.snil none) (.pr (.val .bool r.2.1) (.pr (.whole 12 3) .un))))))⟩, ⟨2, 11, .mp .str T3 (p5 v)⟩, ⟨12, 13, .row T4 r.2.2⟩], 14)) (fun r => .ret ((.tup (.pr (.ro false .u8 r.1) (.pr (.val (.sint .i64) (0 : Int)) .un))), [⟨0, 7, .box (.agg (.pr (.mpv 2) (.pr (.agg (.pr (.val (.sint .i64) (p1 v)) (.pr (.val (.sint .i64) (p2 v)) (.pr (.val (.sint .i64) (p3 v)) .un)))) (.pr (.snil none) (.pr (.val .bool r.2.1) (.pr (.whole 10 3) .un))))))⟩, ⟨2, 9, .mp .str T3 (p5 v)⟩, ⟨10, 11, .row T4 r.2.2⟩], 12)))
theorem ok_store_Store_Get_2 (n : Nat) : SoundF Try.prog 49 (S_store_Store_Get_2 n) :=
  fn_go false (c := codeOf Try.f49) (tab := mkTab [(15, ⟨S_store_Named n, [], [], false⟩), (91, ⟨S_store_Store_call_1 n, [], [], false⟩), (92, ⟨S_store_Store_stood_1 n, [], [], false⟩), (90, ⟨orS (S_slices_Clone___byte_byte_ n) (S_slices_Clone___byte_byte__1 n), [], [], false⟩)]) (cuts := mkCuts []) Try.func49 (by kernel_rfl) (.cons (ok_store_Named n) ⟨_, Try.func15, by kernel_rfl⟩ (.cons (ok_store_Store_call_1 n) ⟨_, Try.func91, by kernel_rfl⟩ (.cons (ok_store_Store_stood_1 n) ⟨_, Try.func92, by kernel_rfl⟩ (.cons (.or (ok_slices_Clone___byte_byte_ n) (ok_slices_Clone___byte_byte__1 n)) ⟨_, Try.func90, by kernel_rfl⟩ .nil)))) (.none0 (by kernel_rfl)) (fun v => by kernel_rfl)
def F_store_Store_Dead_2 (n : Nat) : Tree Unit :=
  .ret ()
def S_store_Store_Dead_2 (n : Nat) : Summ := mkS ⟨[(.ptr 0 0)], [⟨0, 1, .box (.agg (.pr (.mpv 2) (.pr (.agg (.pr (.val (.sint .i64) (0 : Int)) (.pr (.val (.sint .i64) (0 : Int)) (.pr (.val (.sint .i64) (0 : Int)) .un)))) (.pr (.snil none) (.pr (.val .bool false) (.pr (.whole 4 3) .un))))))⟩, ⟨2, 3, .mp .str T3 []⟩, ⟨4, 5, .row T4 []⟩], 6⟩ [.d (.sint .i64), .d (.sint .i64), .d (.sint .i64), .d .bool, .d T5, .d T6] fun v => .sub (F_store_Store_Dead_2 n) fun r => .ret ((.val .bool (p3 v)), [⟨0, 7, .box (.agg (.pr (.mpv 2) (.pr (.agg (.pr (.val (.sint .i64) (p0 v)) (.pr (.val (.sint .i64) (p1 v)) (.pr (.val (.sint .i64) (p2 v)) .un)))) (.pr (.snil none) (.pr (.val .bool (p3 v)) (.pr (.whole 10 3) .un))))))⟩, ⟨2, 9, .mp .str T3 (p4 v)⟩, ⟨10, 11, .row T4 (p5 v)⟩], 12)
theorem ok_store_Store_Dead_2 (n : Nat) : SoundF Try.prog 52 (S_store_Store_Dead_2 n) :=
  fn_go false (c := codeOf Try.f52) (tab := mkTab []) (cuts := mkCuts []) Try.func52 (by kernel_rfl) .nil (.none0 (by kernel_rfl)) (fun v => by kernel_rfl)
def F_store_Store_change_2 (n : Nat) (x0 : List UInt8) (x1 : List UInt8) (x2 : Bool) (x3 : List (List UInt8 × List (List UInt8 × Bool))) (x4 : List (List UInt8 × List UInt8 × Int)) : Tree ((Int) × ((Bool) × ((List (List UInt8 × List (List UInt8 × Bool))) × (List (List UInt8 × List UInt8 × Int))))) :=
  .sub (F_store_Store_call_1 n x0 x1 (0 : Int) x2 x4) fun y5 =>
  .ite (!(decide (y5.1 = (0 : Int))))
  (.ret (y5.1, y5.2.1, x3, y5.2.2))
  (.ite false
  (.ret ((12 : Int), y5.2.1, x3, y5.2.2))
  (.ite false
  (.ret ((0 : Int), y5.2.1, x3, y5.2.2))
  (.get (ite (And ((ln (mgetD .str T3 x3 x1 ([] : List ((List UInt8) × Bool)))) ≤ (ln (mgetD .str T3 x3 x1 ([] : List ((List UInt8) × Bool))))) ((ln (mgetD .str T3 x3 x1 ([] : List ((List UInt8) × Bool)))) ≤ (ln (mgetD .str T3 x3 x1 ([] : List ((List UInt8) × Bool)))))) (subI (mgetD .str T3 x3 x1 ([] : List ((List UInt8) × Bool))) (0 : Int) (ln (mgetD .str T3 x3 x1 ([] : List ((List UInt8) × Bool))))) Option.none) fun y6 =>
  .get (tightI (decide ((ln (mgetD .str T3 x3 x1 ([] : List ((List UInt8) × Bool)))) = (ln (mgetD .str T3 x3 x1 ([] : List ((List UInt8) × Bool)))))) 4398046511104 y6 ([(([] : List UInt8), true)] : List ((List UInt8) × Bool))) fun y7 =>
  .ret ((0 : Int), y5.2.1, (mput .str T3 x3 x1 y7), y5.2.2))))
def S_store_Store_change_2 (n : Nat) : Summ := mkS ⟨[(.ptr 0 0), (.val .str []), (.val .str []), (.agg (.pr (.snil none) (.pr .tt .un)))], [⟨0, 1, .box (.agg (.pr (.mpv 2) (.pr (.agg (.pr (.val (.sint .i64) (0 : Int)) (.pr (.val (.sint .i64) (0 : Int)) (.pr (.val (.sint .i64) (0 : Int)) .un)))) (.pr (.snil none) (.pr (.val .bool false) (.pr (.whole 4 3) .un))))))⟩, ⟨2, 3, .mp .str T3 []⟩, ⟨4, 5, .row T4 []⟩], 6⟩ [.d .str, .d .str, .d (.sint .i64), .d (.sint .i64), .d (.sint .i64), .d .bool, .d T5, .d T6] fun v => .sub (F_store_Store_change_2 n (p0 v) (p1 v) (p5 v) (p6 v) (p7 v)) fun r => .ret ((.val (.sint .i64) r.1), [⟨0, 7, .box (.agg (.pr (.mpv 2) (.pr (.agg (.pr (.val (.sint .i64) (p2 v)) (.pr (.val (.sint .i64) (p3 v)) (.pr (.val (.sint .i64) (p4 v)) .un)))) (.pr (.snil none) (.pr (.val .bool r.2.1) (.pr (.whole 10 3) .un))))))⟩, ⟨2, 9, .mp .str T3 r.2.2.1⟩, ⟨10, 11, .row T4 r.2.2.2⟩], 12)
theorem ok_store_Store_change_2 (n : Nat) : SoundF Try.prog 89 (S_store_Store_change_2 n) :=
  fn_go false (c := codeOf Try.f89) (tab := mkTab [(91, ⟨S_store_Store_call_1 n, [], [], false⟩)]) (cuts := mkCuts []) Try.func89 (by kernel_rfl) (.cons (ok_store_Store_call_1 n) ⟨_, Try.func91, by kernel_rfl⟩ .nil) (.none0 (by kernel_rfl)) (fun v => by kernel_rfl)
def F_store_Store_Put_3 (n : Nat) (x0 : List UInt8) (x1 : Bool) (x2 : List (List UInt8 × List (List UInt8 × Bool))) (x3 : List (List UInt8 × List UInt8 × Int)) : Tree ((Int) × ((Bool) × ((List (List UInt8 × List (List UInt8 × Bool))) × (List (List UInt8 × List UInt8 × Int))))) :=
  .sub (F_store_Named n x0) fun y4 =>
  .ite (!y4)
  (.ret ((1 : Int), x1, x2, x3))
  (.ite false
  (.ret ((2 : Int), x1, x2, x3))
  (.sub (F_slices_Clone___byte_byte__2 n) fun y5 =>
  .sub (F_store_Store_change_2 n ([112, 117, 116] : List UInt8) x0 x1 x2 x3) fun y6 =>
  .ret (y6.1, y6.2.1, y6.2.2.1, y6.2.2.2)))
def S_store_Store_Put_3 (n : Nat) : Summ := mkS ⟨[(.ptr 0 0), (.val .str []), (.snil none)], [⟨0, 1, .box (.agg (.pr (.mpv 2) (.pr (.agg (.pr (.val (.sint .i64) (0 : Int)) (.pr (.val (.sint .i64) (0 : Int)) (.pr (.val (.sint .i64) (0 : Int)) .un)))) (.pr (.snil none) (.pr (.val .bool false) (.pr (.whole 4 3) .un))))))⟩, ⟨2, 3, .mp .str T3 []⟩, ⟨4, 5, .row T4 []⟩], 6⟩ [.d .str, .d (.sint .i64), .d (.sint .i64), .d (.sint .i64), .d .bool, .d T5, .d T6] fun v => .sub (F_store_Store_Put_3 n (p0 v) (p4 v) (p5 v) (p6 v)) fun r => .ret ((.val (.sint .i64) r.1), [⟨0, 7, .box (.agg (.pr (.mpv 2) (.pr (.agg (.pr (.val (.sint .i64) (p1 v)) (.pr (.val (.sint .i64) (p2 v)) (.pr (.val (.sint .i64) (p3 v)) .un)))) (.pr (.snil none) (.pr (.val .bool r.2.1) (.pr (.whole 10 3) .un))))))⟩, ⟨2, 9, .mp .str T3 r.2.2.1⟩, ⟨10, 11, .row T4 r.2.2.2⟩], 12)
theorem ok_store_Store_Put_3 (n : Nat) : SoundF Try.prog 46 (S_store_Store_Put_3 n) :=
  fn_go false (c := codeOf Try.f46) (tab := mkTab [(15, ⟨S_store_Named n, [], [], false⟩), (90, ⟨S_slices_Clone___byte_byte__2 n, [], [], false⟩), (89, ⟨S_store_Store_change_2 n, [], [], false⟩)]) (cuts := mkCuts []) Try.func46 (by kernel_rfl) (.cons (ok_store_Named n) ⟨_, Try.func15, by kernel_rfl⟩ (.cons (ok_slices_Clone___byte_byte__2 n) ⟨_, Try.func90, by kernel_rfl⟩ (.cons (ok_store_Store_change_2 n) ⟨_, Try.func89, by kernel_rfl⟩ .nil))) (.none0 (by kernel_rfl)) (fun v => by kernel_rfl)
def F_w16_awake (n : Nat) : Tree Bool :=
  .sub (F_store_New n) fun y0 =>
  .sub (F_store_Store_Put_1 n ([97] : List UInt8) false ([] : List ((List UInt8) × (List ((List UInt8) × Bool)))) ([] : List (Int × (Int × ((List UInt8) × (List UInt8))))) ([] : List ((List UInt8) × ((List UInt8) × Int))) ([1] : List UInt8)) fun y1 =>
  .ite (!(decide (y1.1 = (0 : Int))))
  (.ret false)
  (.sub (F_store_Store_Put_1 n ([97] : List UInt8) y1.2.1 y1.2.2.1 y1.2.2.2.1 y1.2.2.2.2 ([2] : List UInt8)) fun y2 =>
  .ite (!(decide (y2.1 = (0 : Int))))
  (.ret false)
  (.sub (F_store_Store_Script_1 n (0 : Int) (0 : Int) (0 : Int) y2.2.1 y2.2.2.1 y2.2.2.2.2 ([((3 : Int), ((1 : Int), (([] : List UInt8), ([] : List UInt8)))), ((6 : Int), ((0 : Int), (([] : List UInt8), ([] : List UInt8))))] : List (Int × (Int × ((List UInt8) × (List UInt8)))))) fun y3 =>
  .alt y3 (fun y4 =>
  .sub (F_store_Store_Get_1 n ([97] : List UInt8) y2.2.1 y2.2.2.1 y4 y2.2.2.2.2) fun y5 =>
  .alt y5 (fun y6 =>
  .sub (F_store_Store_Get_1 n ([97] : List UInt8) y6.2.1 y2.2.2.1 y6.2.2.1 y6.2.2.2) fun y7 =>
  .alt y7 (fun y8 =>
  .ite false
  (.fail)
  (.ret false))
  fun y9 =>
  .alt y9 (fun y10 =>
  .ite false
  (.fail)
  (.ret false))
  fun y11 =>
  .ite false
  (.fail)
  (.ret false))
  fun y12 =>
  .alt y12 (fun y13 =>
  .sub (F_store_Store_Get_1 n ([97] : List UInt8) y13.2.1 y2.2.2.1 y13.2.2.1 y13.2.2.2) fun y14 =>
  .alt y14 (fun y15 =>
  .ite (decide ((ln y13.1) = (1 : Int)))
  (.get (inI (List.length y13.1) (0 : Int)) fun y16 =>
  .get (gt y13.1 (0 + y16)) fun y17 =>
  .ite (decide (y17 = (1 : UInt8)))
  (.ite true
  (.ite (decide (y15.1 = (14 : Int)))
  (.sub (F_store_Store_Dead_1 n) fun y18 =>
  .ite y15.2.1
  (.sub (F_store_Store_Put_2 n ([97] : List UInt8) y15.2.1 y2.2.2.1 y15.2.2.1 y15.2.2.2) fun y19 =>
  .ret (decide (y19.1 = (14 : Int))))
  (.ret false))
  (.ret false))
  (.ret false))
  (.ret false))
  (.ret false))
  fun y20 =>
  .alt y20 (fun y21 =>
  .ite (decide ((ln y13.1) = (1 : Int)))
  (.get (inI (List.length y13.1) (0 : Int)) fun y22 =>
  .get (gt y13.1 (0 + y22)) fun y23 =>
  .ite (decide (y23 = (1 : UInt8)))
  (.ite true
  (.ite false
  (.sub (F_store_Store_Dead_1 n) fun y24 =>
  .ite y21.2.1
  (.sub (F_store_Store_Put_2 n ([97] : List UInt8) y21.2.1 y2.2.2.1 y21.2.2.1 y21.2.2.2) fun y25 =>
  .ret (decide (y25.1 = (14 : Int))))
  (.ret false))
  (.ret false))
  (.ret false))
  (.ret false))
  (.ret false))
  fun y26 =>
  .ite (decide ((ln y13.1) = (1 : Int)))
  (.get (inI (List.length y13.1) (0 : Int)) fun y27 =>
  .get (gt y13.1 (0 + y27)) fun y28 =>
  .ite (decide (y28 = (1 : UInt8)))
  (.ite true
  (.ite false
  (.sub (F_store_Store_Dead_1 n) fun y29 =>
  .ite y26.2.1
  (.sub (F_store_Store_Put_2 n ([97] : List UInt8) y26.2.1 y2.2.2.1 y26.2.2.1 y26.2.2.2) fun y30 =>
  .ret (decide (y30.1 = (14 : Int))))
  (.ret false))
  (.ret false))
  (.ret false))
  (.ret false))
  (.ret false))
  fun y31 =>
  .sub (F_store_Store_Get_1 n ([97] : List UInt8) y31.2.1 y2.2.2.1 y31.2.2.1 y31.2.2.2) fun y32 =>
  .alt y32 (fun y33 =>
  .ite (decide ((ln y31.1) = (1 : Int)))
  (.get (getI y31.1 (0 : Int)) fun y34 =>
  .ite (decide (y34 = (1 : UInt8)))
  (.ite true
  (.ite (decide (y33.1 = (14 : Int)))
  (.sub (F_store_Store_Dead_1 n) fun y35 =>
  .ite y33.2.1
  (.sub (F_store_Store_Put_2 n ([97] : List UInt8) y33.2.1 y2.2.2.1 y33.2.2.1 y33.2.2.2) fun y36 =>
  .ret (decide (y36.1 = (14 : Int))))
  (.ret false))
  (.ret false))
  (.ret false))
  (.ret false))
  (.ret false))
  fun y37 =>
  .alt y37 (fun y38 =>
  .ite (decide ((ln y31.1) = (1 : Int)))
  (.get (getI y31.1 (0 : Int)) fun y39 =>
  .ite (decide (y39 = (1 : UInt8)))
  (.ite true
  (.ite false
  (.sub (F_store_Store_Dead_1 n) fun y40 =>
  .ite y38.2.1
  (.sub (F_store_Store_Put_2 n ([97] : List UInt8) y38.2.1 y2.2.2.1 y38.2.2.1 y38.2.2.2) fun y41 =>
  .ret (decide (y41.1 = (14 : Int))))
  (.ret false))
  (.ret false))
  (.ret false))
  (.ret false))
  (.ret false))
  fun y42 =>
  .ite (decide ((ln y31.1) = (1 : Int)))
  (.get (getI y31.1 (0 : Int)) fun y43 =>
  .ite (decide (y43 = (1 : UInt8)))
  (.ite true
  (.ite false
  (.sub (F_store_Store_Dead_1 n) fun y44 =>
  .ite y42.2.1
  (.sub (F_store_Store_Put_2 n ([97] : List UInt8) y42.2.1 y2.2.2.1 y42.2.2.1 y42.2.2.2) fun y45 =>
  .ret (decide (y45.1 = (14 : Int))))
  (.ret false))
  (.ret false))
  (.ret false))
  (.ret false))
  (.ret false))
  fun y46 =>
  .sub (F_store_Store_Get_2 n ([97] : List UInt8) y2.2.1 y2.2.2.1 y2.2.2.2.2) fun y47 =>
  .alt y47 (fun y48 =>
  .sub (F_store_Store_Get_2 n ([97] : List UInt8) y48.2.1 y2.2.2.1 y48.2.2) fun y49 =>
  .alt y49 (fun y50 =>
  .ite false
  (.fail)
  (.ret false))
  fun y51 =>
  .alt y51 (fun y52 =>
  .ite false
  (.fail)
  (.ret false))
  fun y53 =>
  .ite false
  (.fail)
  (.ret false))
  fun y54 =>
  .alt y54 (fun y55 =>
  .sub (F_store_Store_Get_2 n ([97] : List UInt8) y55.2.1 y2.2.2.1 y55.2.2) fun y56 =>
  .alt y56 (fun y57 =>
  .ite (decide ((ln y55.1) = (1 : Int)))
  (.get (inI (List.length y55.1) (0 : Int)) fun y58 =>
  .get (gt y55.1 (0 + y58)) fun y59 =>
  .ite (decide (y59 = (1 : UInt8)))
  (.ite true
  (.ite (decide (y57.1 = (14 : Int)))
  (.sub (F_store_Store_Dead_2 n) fun y60 =>
  .ite y57.2.1
  (.sub (F_store_Store_Put_3 n ([97] : List UInt8) y57.2.1 y2.2.2.1 y57.2.2) fun y61 =>
  .ret (decide (y61.1 = (14 : Int))))
  (.ret false))
  (.ret false))
  (.ret false))
  (.ret false))
  (.ret false))
  fun y62 =>
  .alt y62 (fun y63 =>
  .ite (decide ((ln y55.1) = (1 : Int)))
  (.get (inI (List.length y55.1) (0 : Int)) fun y64 =>
  .get (gt y55.1 (0 + y64)) fun y65 =>
  .ite (decide (y65 = (1 : UInt8)))
  (.ite true
  (.ite false
  (.sub (F_store_Store_Dead_2 n) fun y66 =>
  .ite y63.2.1
  (.sub (F_store_Store_Put_3 n ([97] : List UInt8) y63.2.1 y2.2.2.1 y63.2.2) fun y67 =>
  .ret (decide (y67.1 = (14 : Int))))
  (.ret false))
  (.ret false))
  (.ret false))
  (.ret false))
  (.ret false))
  fun y68 =>
  .ite (decide ((ln y55.1) = (1 : Int)))
  (.get (inI (List.length y55.1) (0 : Int)) fun y69 =>
  .get (gt y55.1 (0 + y69)) fun y70 =>
  .ite (decide (y70 = (1 : UInt8)))
  (.ite true
  (.ite false
  (.sub (F_store_Store_Dead_2 n) fun y71 =>
  .ite y68.2.1
  (.sub (F_store_Store_Put_3 n ([97] : List UInt8) y68.2.1 y2.2.2.1 y68.2.2) fun y72 =>
  .ret (decide (y72.1 = (14 : Int))))
  (.ret false))
  (.ret false))
  (.ret false))
  (.ret false))
  (.ret false))
  fun y73 =>
  .sub (F_store_Store_Get_2 n ([97] : List UInt8) y73.2.1 y2.2.2.1 y73.2.2) fun y74 =>
  .alt y74 (fun y75 =>
  .ite (decide ((ln y73.1) = (1 : Int)))
  (.get (getI y73.1 (0 : Int)) fun y76 =>
  .ite (decide (y76 = (1 : UInt8)))
  (.ite true
  (.ite (decide (y75.1 = (14 : Int)))
  (.sub (F_store_Store_Dead_2 n) fun y77 =>
  .ite y75.2.1
  (.sub (F_store_Store_Put_3 n ([97] : List UInt8) y75.2.1 y2.2.2.1 y75.2.2) fun y78 =>
  .ret (decide (y78.1 = (14 : Int))))
  (.ret false))
  (.ret false))
  (.ret false))
  (.ret false))
  (.ret false))
  fun y79 =>
  .alt y79 (fun y80 =>
  .ite (decide ((ln y73.1) = (1 : Int)))
  (.get (getI y73.1 (0 : Int)) fun y81 =>
  .ite (decide (y81 = (1 : UInt8)))
  (.ite true
  (.ite false
  (.sub (F_store_Store_Dead_2 n) fun y82 =>
  .ite y80.2.1
  (.sub (F_store_Store_Put_3 n ([97] : List UInt8) y80.2.1 y2.2.2.1 y80.2.2) fun y83 =>
  .ret (decide (y83.1 = (14 : Int))))
  (.ret false))
  (.ret false))
  (.ret false))
  (.ret false))
  (.ret false))
  fun y84 =>
  .ite (decide ((ln y73.1) = (1 : Int)))
  (.get (getI y73.1 (0 : Int)) fun y85 =>
  .ite (decide (y85 = (1 : UInt8)))
  (.ite true
  (.ite false
  (.sub (F_store_Store_Dead_2 n) fun y86 =>
  .ite y84.2.1
  (.sub (F_store_Store_Put_3 n ([97] : List UInt8) y84.2.1 y2.2.2.1 y84.2.2) fun y87 =>
  .ret (decide (y87.1 = (14 : Int))))
  (.ret false))
  (.ret false))
  (.ret false))
  (.ret false))
  (.ret false)))
def S_w16_awake (n : Nat) : Summ := mkS ⟨[], [], 0⟩ [] fun v => .sub (F_w16_awake n) fun r => .ret ((.val .bool r), [], 0)
theorem ok_w16_awake (n : Nat) : SoundF Try.prog 17 (S_w16_awake n) :=
  fn_go true (c := codeOf Try.f17) (tab := mkTab [(45, ⟨S_store_New n, [], [], false⟩), (46, ⟨orS (S_store_Store_Put_1 n) (orS (S_store_Store_Put_2 n) (S_store_Store_Put_3 n)), [], [], false⟩), (56, ⟨S_store_Store_Script_1 n, [], [], false⟩), (49, ⟨orS (S_store_Store_Get_1 n) (S_store_Store_Get_2 n), [], [], false⟩), (52, ⟨orS (S_store_Store_Dead_1 n) (S_store_Store_Dead_2 n), [], [], false⟩)]) (cuts := mkCuts []) Try.func17 (by kernel_rfl) (.cons (ok_store_New n) ⟨_, Try.func45, by kernel_rfl⟩ (.cons (.or (ok_store_Store_Put_1 n) (.or (ok_store_Store_Put_2 n) (ok_store_Store_Put_3 n))) ⟨_, Try.func46, by kernel_rfl⟩ (.cons (ok_store_Store_Script_1 n) ⟨_, Try.func56, by kernel_rfl⟩ (.cons (.or (ok_store_Store_Get_1 n) (ok_store_Store_Get_2 n)) ⟨_, Try.func49, by kernel_rfl⟩ (.cons (.or (ok_store_Store_Dead_1 n) (ok_store_Store_Dead_2 n)) ⟨_, Try.func52, by kernel_rfl⟩ .nil))))) (.none0 (by kernel_rfl)) (fun v => by kernel_rfl)
def F_w16_StoreNobody (n : Nat) (x0 : List UInt8) : Tree Bool :=
  .sub (F_store_Store_Script n) fun y1 =>
  .sub (F_store_Store_Revive n) fun y2 =>
  .sub (F_store_Store_Get n) fun y3 =>
  .sub (F_store_Store_List n) fun y4 =>
  .sub (F_store_Store_Cell n) fun y5 =>
  .get (Tree.run (F_w16_own n x0)) fun y6 =>
  .get (Tree.run (F_store_Store_Put n)) fun y7 =>
  .ite true
  (.get (Tree.run (F_store_Store_Del n)) fun y8 =>
  .ite true
  (.ite true
  (.ite true
  (.ite true
  (.ite true
  (.ite true
  (.ite true
  (.get (Tree.run (F_store_Store_Raise n)) fun y9 =>
  .ite true
  (.get (Tree.run (F_store_Store_Dead n)) fun y10 =>
  .ite true
  (.get (Tree.run (F_store_Store_Calls n)) fun y11 =>
  .ite true
  (.get (Tree.run (F_store_Store_Copy n)) fun y12 =>
  .get (Tree.run (F_w16_awake n)) fun y13 =>
  .ret y13)
  (.ret false))
  (.ret false))
  (.ret false))
  (.ret false))
  (.ret false))
  (.ret false))
  (.ret false))
  (.ret false))
  (.ret false))
  (.ret false))
  (.ret false)
def S_w16_StoreNobody (n : Nat) : Summ := mkS ⟨[(.agg (.pr (.val (.sint .i64) (0 : Int)) (.pr (.val .str []) (.pr (.ro false .u8 []) (.pr (.agg (.pr (.val (.sint .i64) (0 : Int)) (.pr (.val (.sint .i64) (0 : Int)) (.pr (.val (.sint .i64) (0 : Int)) .un)))) (.pr (.ro false T1 []) .un))))))], [], 0⟩ [.d (.sint .i64), .d .str, .c, .d (.list .u8), .d (.sint .i64), .d (.sint .i64), .d (.sint .i64), .c, .d T2] fun v => .sub (F_w16_StoreNobody n (p3 v)) fun r => .ret ((.val .bool r), [], 0)
theorem ok_w16_StoreNobody (n : Nat) : SoundF Try.prog 13 (S_w16_StoreNobody n) :=
  fn_go true (c := codeOf Try.f13) (tab := mkTab [(56, ⟨S_store_Store_Script n, [], [], false⟩), (57, ⟨S_store_Store_Revive n, [], [], false⟩), (49, ⟨S_store_Store_Get n, [], [], false⟩), (50, ⟨S_store_Store_List n, [], [], false⟩), (58, ⟨S_store_Store_Cell n, [], [], false⟩), (47, ⟨S_w16_own n, [], [], false⟩), (46, ⟨S_store_Store_Put n, [], [], false⟩), (48, ⟨S_store_Store_Del n, [], [], false⟩), (59, ⟨S_store_Store_Raise n, [], [], false⟩), (52, ⟨S_store_Store_Dead n, [], [], false⟩), (54, ⟨S_store_Store_Calls n, [], [], false⟩), (55, ⟨S_store_Store_Copy n, [], [], false⟩), (17, ⟨S_w16_awake n, [], [], false⟩)]) (cuts := mkCuts []) Try.func13 (by kernel_rfl) (.cons (ok_store_Store_Script n) ⟨_, Try.func56, by kernel_rfl⟩ (.cons (ok_store_Store_Revive n) ⟨_, Try.func57, by kernel_rfl⟩ (.cons (ok_store_Store_Get n) ⟨_, Try.func49, by kernel_rfl⟩ (.cons (ok_store_Store_List n) ⟨_, Try.func50, by kernel_rfl⟩ (.cons (ok_store_Store_Cell n) ⟨_, Try.func58, by kernel_rfl⟩ (.cons (ok_w16_own n) ⟨_, Try.func47, by kernel_rfl⟩ (.cons (ok_store_Store_Put n) ⟨_, Try.func46, by kernel_rfl⟩ (.cons (ok_store_Store_Del n) ⟨_, Try.func48, by kernel_rfl⟩ (.cons (ok_store_Store_Raise n) ⟨_, Try.func59, by kernel_rfl⟩ (.cons (ok_store_Store_Dead n) ⟨_, Try.func52, by kernel_rfl⟩ (.cons (ok_store_Store_Calls n) ⟨_, Try.func54, by kernel_rfl⟩ (.cons (ok_store_Store_Copy n) ⟨_, Try.func55, by kernel_rfl⟩ (.cons (ok_w16_awake n) ⟨_, Try.func17, by kernel_rfl⟩ .nil))))))))))))) (.none0 (by kernel_rfl)) (fun v => by kernel_rfl)
end Hyp
