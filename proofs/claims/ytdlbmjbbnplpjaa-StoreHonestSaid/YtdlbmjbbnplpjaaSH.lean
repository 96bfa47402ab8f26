/- Printed by Gen.lean.tpl (this work's own): Go functions as pure functions, each with the proof that the Go code comes to its answers. -/
import Derived.Test.YtdlbmjbbnplpjaaZD
import Derived.Test.YtdlbmjbbnplpjaaSL
import Derived.Test.YtdlbmjbbnplpjaaChecked
set_option linter.unusedVariables false
set_option maxRecDepth 100000
set_option maxHeartbeats 4000000
namespace Hyp
open Go Go.Proofs
abbrev T1 : Ty := .rcd (.pair (.sint .i64) (.pair (.sint .i64) (.pair .str (.list .u8))))
abbrev T2 : Ty := .list (.rcd (.pair (.sint .i64) (.pair (.sint .i64) (.pair .str (.list .u8)))))
abbrev T3 : Ty := .rcd (.pair (.sint .i64) (.pair .str (.pair (.list .u8) (.pair (.rcd (.pair (.sint .i64) (.pair (.sint .i64) (.sint .i64)))) (.list (.rcd (.pair (.sint .i64) (.pair (.sint .i64) (.pair .str (.list .u8))))))))))
abbrev T4 : Ty := .list (.rcd (.pair (.sint .i64) (.pair .str (.pair (.list .u8) (.pair (.rcd (.pair (.sint .i64) (.pair (.sint .i64) (.sint .i64)))) (.list (.rcd (.pair (.sint .i64) (.pair (.sint .i64) (.pair .str (.list .u8)))))))))))
abbrev T5 : Ty := .list (.rcd (.pair (.list .u8) .bool))
abbrev T6 : Ty := .rcd (.pair .str (.pair .str (.sint .i64)))
abbrev T7 : Ty := .list (.rcd (.pair .str (.list (.rcd (.pair (.list .u8) .bool)))))
abbrev T8 : Ty := .list (.rcd (.pair .str (.pair .str (.sint .i64))))
abbrev T9 : Ty := .list (.rcd (.pair .str (.list .u8)))
def C_44_0 : CutF → Cut := fun κ => ⟨[0, 3, 4], fun e => match e with | .ex i => bif Nat.beq i 0 then [3] else [] | .rt => [2] | .nm => [] | .go i => [], κ⟩
def C_44_2 : CutF → Cut := fun κ => ⟨[3, 50, 51, 52], fun e => match e with | .ex i => bif Nat.beq i 2 then [3] else bif Nat.beq i 1 then [3] else bif Nat.beq i 0 then [3] else [] | .rt => [2] | .nm => [] | .go i => [], κ⟩
def F_w16_few_l2 (n : Nat) : Nat → (Int) → (Bool) → (List (Int × Int × List UInt8 × List UInt8)) → (Int) → (Int) → Tree (Unit ⊕ Int)
 | 0 => fun  x0 x1 x2 x3 x4 => .fail
 | k + 1 => fun x0 x1 x2 x3 x4 =>
  .ite (decide (x4 < x3))
  (.get (getI x2 x4) fun y5 =>
  .ite (decide ((70000 : Int) < (ln y5.2.2.2)))
  (.ret (.inl ()))
  (.sub (F_w16_few_l2 n k (w64 (x0 + (minI (ln y5.2.2.2) (200 : Int)))) x1 x2 x3 (w64 (x4 + (1 : Int)))) fun y6 =>
  .alt y6 (fun y7 =>
  .ret (.inl ()))
  fun y8 =>
  .ret (.inr y8)))
  (.ret (.inr x0))
def S_w16_few_l2 (n k : Nat) : CutF := mkS ⟨[(.val (.sint .i64) (0 : Int)), (.ro false T1 []), (.val (.sint .i64) (0 : Int)), (.val (.sint .i64) (0 : Int))], [], 0⟩ [.d (.sint .i64), .c, .d T2, .d (.sint .i64), .d (.sint .i64)] fun v => .sub (F_w16_few_l2 n k (p0 v) (p1 v) (p2 v) (p3 v) (p4 v)) fun r => .alt r (fun r => .ret (.rt, [(.val .bool false)], [], 0)) (fun r => .ret (.ex 2, [(.val (.sint .i64) r)], [], 0))
theorem rd_w16_few_l2 (n k : Nat) : Rounds Try.prog (Go.Func.ntmps Try.f44) (bodyOf Try.f44 2) C_44_2 [S_w16_few_l2 n k] (S_w16_few_l2 n (k + 1)) :=
  rounds_go (tab := mkTab []) (cuts := mkCuts []) (S_w16_few_l2 n k) [] .nil (.none0 (by kernel_rfl)) rfl (fun v => by kernel_rfl)
theorem ok_w16_few_l2 (n k : Nat) : SoundC Try.prog (Go.Func.ntmps Try.f44) (.loop (bodyOf Try.f44 2)) (wr (bodyOf Try.f44 2)) (C_44_2 (S_w16_few_l2 n k)) :=
  loop_go (K := fun k => [S_w16_few_l2 n k]) (fun _ => rfl) (by kernel_rfl) ⟨z_go fun _ => by kernel_rfl, trivial⟩ (fun k => ⟨rd_w16_few_l2 n k, trivial⟩) k rfl
def F_w16_few_l0 (n : Nat) : Nat → (Bool) → (List (Int × List UInt8 × List UInt8 × (Int × Int × Int) × List (Int × Int × List UInt8 × List UInt8))) → (Int) → (Int) → Tree (Unit ⊕ Int)
 | 0 => fun  x0 x1 x2 x3 => .fail
 | k + 1 => fun x0 x1 x2 x3 =>
  .ite ((decide (x3 < (ln x1))) && ((decide (x3 ≤ (40 : Int))) && (decide (x2 ≤ (4000 : Int)))))
  (.get (getI x1 x3) fun y4 =>
  .ite (decide ((20 : Int) < (ln y4.2.2.2.2)))
  (.ret (.inl ()))
  (.get (getI x1 x3) fun y5 =>
  .ite (decide ((70000 : Int) < (ln y5.2.2.1)))
  (.ret (.inl ()))
  (.get (getI x1 x3) fun y6 =>
  .get (getI x1 x3) fun y7 =>
  .sub (F_w16_few_l2 n n (w64 (x2 + (minI (ln y6.2.2.1) (200 : Int)))) false y7.2.2.2.2 (ln y7.2.2.2.2) (0 : Int)) fun y8 =>
  .alt y8 (fun y9 =>
  .ret (.inl ()))
  fun y10 =>
  .sub (F_w16_few_l0 n k x0 x1 y10 (w64 (x3 + (1 : Int)))) fun y11 =>
  .alt y11 (fun y12 =>
  .ret (.inl ()))
  fun y13 =>
  .ret (.inr y13))))
  (.ret (.inr x2))
def S_w16_few_l0 (n k : Nat) : CutF := mkS ⟨[(.ro false T3 []), (.val (.sint .i64) (0 : Int)), (.val (.sint .i64) (0 : Int))], [], 0⟩ [.c, .d T4, .d (.sint .i64), .d (.sint .i64)] fun v => .sub (F_w16_few_l0 n k (p0 v) (p1 v) (p2 v) (p3 v)) fun r => .alt r (fun r => .ret (.rt, [(.val .bool false)], [], 0)) (fun r => .ret (.ex 0, [(.val (.sint .i64) r)], [], 0))
theorem rd_w16_few_l0 (n k : Nat) : Rounds Try.prog (Go.Func.ntmps Try.f44) (bodyOf Try.f44 0) C_44_0 [S_w16_few_l0 n k] (S_w16_few_l0 n (k + 1)) :=
  rounds_go (tab := mkTab []) (cuts := mkCuts [(2, C_44_2 (S_w16_few_l2 n n))]) (S_w16_few_l0 n k) [] .nil (CutsOK.list (l := [(2, .lp (bodyOf Try.f44 2))]) (by kernel_rfl) (LoopsOK.all ⟨.inr ⟨_, rfl, ok_w16_few_l2 n n⟩, trivial⟩)) rfl (fun v => by kernel_rfl)
theorem ok_w16_few_l0 (n k : Nat) : SoundC Try.prog (Go.Func.ntmps Try.f44) (.loop (bodyOf Try.f44 0)) (wr (bodyOf Try.f44 0)) (C_44_0 (S_w16_few_l0 n k)) :=
  loop_go (K := fun k => [S_w16_few_l0 n k]) (fun _ => rfl) (by kernel_rfl) ⟨z_go fun _ => by kernel_rfl, trivial⟩ (fun k => ⟨rd_w16_few_l0 n k, trivial⟩) k rfl
def F_w16_few (n : Nat) (x0 : Bool) (x1 : List (Int × List UInt8 × List UInt8 × (Int × Int × Int) × List (Int × Int × List UInt8 × List UInt8))) : Tree Bool :=
  .sub (F_w16_few_l0 n n x0 x1 (0 : Int) (0 : Int)) fun y2 =>
  .alt y2 (fun y3 =>
  .ret false)
  fun y4 =>
  .ret ((decide ((ln x1) ≤ (40 : Int))) && (decide (y4 ≤ (4000 : Int))))
def S_w16_few (n : Nat) : Summ := mkS ⟨[(.ro false T3 [])], [], 0⟩ [.c, .d T4] fun v => .sub (F_w16_few n (p0 v) (p1 v)) fun r => .ret ((.val .bool r), [], 0)
theorem ok_w16_few (n : Nat) : SoundF Try.prog 44 (S_w16_few n) :=
  fn_go true (c := codeOf Try.f44) (tab := mkTab []) (cuts := mkCuts [(0, C_44_0 (S_w16_few_l0 n n))]) Try.func44 (by kernel_rfl) .nil (CutsOK.list (l := [(0, .lp (bodyOf Try.f44 0))]) (by kernel_rfl) (LoopsOK.all ⟨.inr ⟨_, rfl, ok_w16_few_l0 n n⟩, trivial⟩)) (fun v => by kernel_rfl)
def F_store_New (n : Nat) : Tree Unit :=
  .ret ()
def S_store_New (n : Nat) : Summ := mkS ⟨[], [], 0⟩ [] fun v => .sub (F_store_New n) fun r => .ret ((.ptr 0 0), [⟨0, 1, .box (.agg (.pr (.mpv 2) (.pr (.agg (.pr (.val (.sint .i64) (0 : Int)) (.pr (.val (.sint .i64) (0 : Int)) (.pr (.val (.sint .i64) (0 : Int)) .un)))) (.pr (.whole 4 4) (.pr (.val .bool false) (.pr (.whole 6 3) .un))))))⟩, ⟨2, 3, .mp .str T5 ([] : List ((List UInt8) × (List ((List UInt8) × Bool))))⟩, ⟨4, 5, .row T1 ([] : List (Int × (Int × ((List UInt8) × (List UInt8)))))⟩, ⟨6, 7, .row T6 ([] : List ((List UInt8) × ((List UInt8) × Int)))⟩], 8)
theorem ok_store_New (n : Nat) : SoundF Try.prog 45 (S_store_New n) :=
  fn_go false (c := codeOf Try.f45) (tab := mkTab []) (cuts := mkCuts []) Try.func45 (by kernel_rfl) .nil (.none0 (by kernel_rfl)) (fun v => by kernel_rfl)
def C_15_0 : CutF → Cut := fun κ => ⟨[14, 15, 16], fun e => match e with | .ex i => bif Nat.beq i 0 then [] else [] | .rt => [2] | .nm => [] | .go i => [], κ⟩
def F_store_Named_l0 (n : Nat) : Nat → (Int) → (Int) → (List UInt8) → Tree (Unit ⊕ Unit)
 | 0 => fun  x0 x1 x2 => .fail
 | k + 1 => fun x0 x1 x2 =>
  .ite (decide (x1 < x0))
  (.get (inI (List.length x2) x1) fun y3 =>
  .get (gt x2 (0 + y3)) fun y4 =>
  .ite (bif (decide (y4 < (97 : UInt8))) then ((decide (y4 < (48 : UInt8))) || (decide ((57 : UInt8) < y4))) else ((decide ((122 : UInt8) < y4)) && ((decide (y4 < (48 : UInt8))) || (decide ((57 : UInt8) < y4)))))
  (.ret (.inl ()))
  (.sub (F_store_Named_l0 n k x0 (w64 (x1 + (1 : Int))) x2) fun y5 =>
  .alt y5 (fun y6 =>
  .ret (.inl ()))
  fun y7 =>
  .ret (.inr ())))
  (.ret (.inr ()))
def S_store_Named_l0 (n k : Nat) : CutF := mkS ⟨[(.whole 0 1), (.val (.sint .i64) (0 : Int)), (.val (.sint .i64) (0 : Int))], [⟨0, 1, .row .u8 []⟩], 2⟩ [.d (.sint .i64), .d (.sint .i64), .d (.list .u8)] fun v => .sub (F_store_Named_l0 n k (p0 v) (p1 v) (p2 v)) fun r => .alt r (fun r => .ret (.rt, [(.val .bool false)], [⟨0, 3, .row .u8 (p2 v)⟩], 4)) (fun r => .ret (.ex 0, [], [⟨0, 3, .row .u8 (p2 v)⟩], 4))
theorem rd_store_Named_l0 (n k : Nat) : Rounds Try.prog (Go.Func.ntmps Try.f15) (bodyOf Try.f15 0) C_15_0 [S_store_Named_l0 n k] (S_store_Named_l0 n (k + 1)) :=
  rounds_go (tab := mkTab []) (cuts := mkCuts []) (S_store_Named_l0 n k) [] .nil (.none0 (by kernel_rfl)) rfl (fun v => by kernel_rfl)
theorem ok_store_Named_l0 (n k : Nat) : SoundC Try.prog (Go.Func.ntmps Try.f15) (.loop (bodyOf Try.f15 0)) (wr (bodyOf Try.f15 0)) (C_15_0 (S_store_Named_l0 n k)) :=
  loop_go (K := fun k => [S_store_Named_l0 n k]) (fun _ => rfl) (by kernel_rfl) ⟨z_go fun _ => by kernel_rfl, trivial⟩ (fun k => ⟨rd_store_Named_l0 n k, trivial⟩) k rfl
def F_store_Named (n : Nat) (x0 : List UInt8) : Tree Bool :=
  .ite ((decide ((ln x0) < (1 : Int))) || (decide ((32 : Int) < (ln x0))))
  (.ret false)
  (.get (bytesI x0) fun y1 =>
  .sub (F_store_Named_l0 n n (ln y1) (0 : Int) y1) fun y2 =>
  .alt y2 (fun y3 =>
  .ret false)
  fun y4 =>
  .ret true)
def S_store_Named (n : Nat) : Summ := mkS ⟨[(.val .str [])], [], 0⟩ [.d .str] fun v => .sub (F_store_Named n (p0 v)) fun r => .ret ((.val .bool r), [], 0)
theorem ok_store_Named (n : Nat) : SoundF Try.prog 15 (S_store_Named n) :=
  fn_go false (c := codeOf Try.f15) (tab := mkTab []) (cuts := mkCuts [(0, C_15_0 (S_store_Named_l0 n n))]) Try.func15 (by kernel_rfl) .nil (CutsOK.list (l := [(0, .lp (bodyOf Try.f15 0))]) (by kernel_rfl) (LoopsOK.all ⟨.inr ⟨_, rfl, ok_store_Named_l0 n n⟩, trivial⟩)) (fun v => by kernel_rfl)
def F_slices_Clone___byte_byte__raw (n : Nat) (x0 : List UInt8) : Tree (List UInt8) :=
  .ite (decide ((ln x0) = (0 : Int)))
  (.all (fun (p1 : Bool) => True) fun y2 =>
  .ite y2
  (.ret ([] : List UInt8))
  (.get (appI 140737488355328 ([] : List UInt8) x0) fun y3 =>
  .ret y3))
  (.get (appI 140737488355328 ([] : List UInt8) x0) fun y4 =>
  .ret y4)
def S_slices_Clone___byte_byte__raw (n : Nat) : Summ := mkS ⟨[(.whole 0 1)], [⟨0, 1, .row .u8 []⟩], 2⟩ [.d (.list .u8)] fun v => .sub (F_slices_Clone___byte_byte__raw n (p0 v)) fun r => .ret ((.whole 2 1), [⟨2, 3, .row .u8 r⟩, ⟨0, 5, .row .u8 (p0 v)⟩], 6)
theorem ok_slices_Clone___byte_byte__raw (n : Nat) : SoundF Try.prog 90 (S_slices_Clone___byte_byte__raw n) :=
  fn_go false (c := codeOf Try.f90) (tab := mkTab []) (cuts := mkCuts []) Try.func90 (by kernel_rfl) .nil (.none0 (by kernel_rfl)) (fun v => by kernel_rfl)
def F_slices_Clone___byte_byte_ (n : Nat) (x0 : List UInt8) : Tree (List UInt8) :=
  .get (appI 140737488355328 ([] : List UInt8) x0) fun z =>
  .ret z
def S_slices_Clone___byte_byte_ (n : Nat) : Summ := mkS ⟨[(.whole 0 1)], [⟨0, 1, .row .u8 []⟩], 2⟩ [.d (.list .u8)] fun v => .sub (F_slices_Clone___byte_byte_ n (p0 v)) fun r => .ret ((.whole 2 1), [⟨2, 3, .row .u8 r⟩, ⟨0, 5, .row .u8 (p0 v)⟩], 6)
theorem ok_slices_Clone___byte_byte_ (n : Nat) : SoundF Try.prog 90 (S_slices_Clone___byte_byte_ n) := S_weak (ok_slices_Clone___byte_byte__raw n) fun v Q h => clone_det h
def F_store_Store_call (n : Nat) (x0 : List UInt8) (x1 : List UInt8) (x2 : Int) (x3 : Bool) (x4 : List (Int × Int × List UInt8 × List UInt8)) (x5 : List (List UInt8 × List UInt8 × Int)) : Tree (((Int) × ((Bool) × (List (List UInt8 × List UInt8 × Int)))) ⊕ ((Int) × ((Int) × ((List UInt8) × ((List UInt8) × ((Int) × ((Bool) × ((List (Int × Int × List UInt8 × List UInt8)) × (List (List UInt8 × List UInt8 × Int)))))))))) :=
  .ite x3
  (.ret (.inl ((14 : Int), x3, x5)))
  (.get (appI 3518437208883 x5 (List.set ([(([] : List UInt8), (([] : List UInt8), (0 : Int)))] : List ((List UInt8) × ((List UInt8) × Int))) 0 (x0, (x1, x2)))) fun y6 =>
  .ite (decide ((0 : Int) < (ln x4)))
  (.get (inI (List.length x4) (0 : Int)) fun y7 =>
  .get (gt x4 (0 + y7)) fun y8 =>
  .get (ite (And ((0 : Int) ≤ (1 : Int)) (And ((1 : Int) ≤ (ln x4)) ((ln x4) ≤ (ln x4)))) (Option.some Unit.unit) Option.none) fun y9 =>
  .ite (decide (y8.1 = (6 : Int)))
  (.ret (.inr (y8.1, y8.2.1, y8.2.2.1, y8.2.2.2, (14 : Int), true, (List.take ((Int.toNat (ln x4)) - 1) (List.drop 1 x4)), y6)))
  (.ret (.inr (y8.1, y8.2.1, y8.2.2.1, y8.2.2.2, (0 : Int), x3, (List.take ((Int.toNat (ln x4)) - 1) (List.drop 1 x4)), y6))))
  (.ite false
  (.ret (.inl ((14 : Int), true, y6)))
  (.ret (.inl ((0 : Int), x3, y6)))))
def S_store_Store_call (n : Nat) : Summ := mkS ⟨[(.ptr 0 0), (.val .str []), (.val .str []), (.val (.sint .i64) (0 : Int))], [⟨0, 1, .box (.agg (.pr (.mpv 2) (.pr (.agg (.pr (.val (.sint .i64) (0 : Int)) (.pr (.val (.sint .i64) (0 : Int)) (.pr (.val (.sint .i64) (0 : Int)) .un)))) (.pr (.whole 4 4) (.pr (.val .bool false) (.pr (.whole 6 3) .un))))))⟩, ⟨2, 3, .mp .str T5 []⟩, ⟨4, 5, .row T1 []⟩, ⟨6, 7, .row T6 []⟩], 8⟩ [.d .str, .d .str, .d (.sint .i64), .d (.sint .i64), .d (.sint .i64), .d (.sint .i64), .d .bool, .d T7, .d T2, .d T8] fun v => .sub (F_store_Store_call n (p0 v) (p1 v) (p2 v) (p6 v) (p8 v) (p9 v)) fun r => .alt r (fun r => .ret ((.tup (.pr (.agg (.pr (.val (.sint .i64) (0 : Int)) (.pr (.val (.sint .i64) (0 : Int)) (.pr (.val .str ([] : List UInt8)) (.pr (.whole 8 1) .un))))) (.pr (.val (.sint .i64) r.1) .un))), [⟨8, 9, .row .u8 ([] : List UInt8)⟩, ⟨0, 11, .box (.agg (.pr (.mpv 2) (.pr (.agg (.pr (.val (.sint .i64) (p3 v)) (.pr (.val (.sint .i64) (p4 v)) (.pr (.val (.sint .i64) (p5 v)) .un)))) (.pr (.whole 14 4) (.pr (.val .bool r.2.1) (.pr (.whole 16 3) .un))))))⟩, ⟨2, 3, .mp .str T5 (p7 v)⟩, ⟨14, 15, .row T1 (p8 v)⟩, ⟨16, 17, .row T6 r.2.2⟩], 18)) (fun r => .ret ((.tup (.pr (.agg (.pr (.val (.sint .i64) r.1) (.pr (.val (.sint .i64) r.2.1) (.pr (.val .str r.2.2.1) (.pr (.ro false .u8 r.2.2.2.1) .un))))) (.pr (.val (.sint .i64) r.2.2.2.2.1) .un))), [⟨0, 9, .box (.agg (.pr (.mpv 2) (.pr (.agg (.pr (.val (.sint .i64) (p3 v)) (.pr (.val (.sint .i64) (p4 v)) (.pr (.val (.sint .i64) (p5 v)) .un)))) (.pr (.whole 12 4) (.pr (.val .bool r.2.2.2.2.2.1) (.pr (.whole 14 3) .un))))))⟩, ⟨2, 3, .mp .str T5 (p7 v)⟩, ⟨12, 13, .row T1 r.2.2.2.2.2.2.1⟩, ⟨14, 15, .row T6 r.2.2.2.2.2.2.2⟩], 16))
theorem ok_store_Store_call (n : Nat) : SoundF Try.prog 91 (S_store_Store_call n) :=
  fn_go false (c := codeOf Try.f91) (tab := mkTab []) (cuts := mkCuts []) Try.func91 (by kernel_rfl) .nil (.none0 (by kernel_rfl)) (fun v => by kernel_rfl)
def F_store_Store_change (n : Nat) (x0 : List UInt8) (x1 : List UInt8) (x2 : Bool) (x3 : List (List UInt8 × List (List UInt8 × Bool))) (x4 : List (Int × Int × List UInt8 × List UInt8)) (x5 : List (List UInt8 × List UInt8 × Int)) (x6 : List UInt8) : Tree (((Int) × ((Bool) × ((List (Int × Int × List UInt8 × List UInt8)) × (List (List UInt8 × List UInt8 × Int))))) ⊕ ((Bool) × ((List (List UInt8 × List (List UInt8 × Bool))) × ((List (Int × Int × List UInt8 × List UInt8)) × (List (List UInt8 × List UInt8 × Int)))))) :=
  .sub (F_store_Store_call n x0 x1 (ln x6) x2 x4 x5) fun y7 =>
  .alt y7 (fun y8 =>
  .ite (!(decide (y8.1 = (0 : Int))))
  (.ret (.inl (y8.1, y8.2.1, x4, y8.2.2)))
  (.ite false
  (.ret (.inl ((12 : Int), y8.2.1, x4, y8.2.2)))
  (.ite false
  (.ret (.inl ((0 : Int), y8.2.1, x4, y8.2.2)))
  (.get (ite (And ((ln (mgetD .str T5 x3 x1 ([] : List ((List UInt8) × Bool)))) ≤ (ln (mgetD .str T5 x3 x1 ([] : List ((List UInt8) × Bool))))) ((ln (mgetD .str T5 x3 x1 ([] : List ((List UInt8) × Bool)))) ≤ (ln (mgetD .str T5 x3 x1 ([] : List ((List UInt8) × Bool)))))) (subI (mgetD .str T5 x3 x1 ([] : List ((List UInt8) × Bool))) (0 : Int) (ln (mgetD .str T5 x3 x1 ([] : List ((List UInt8) × Bool))))) Option.none) fun y9 =>
  .get (tightI (decide ((ln (mgetD .str T5 x3 x1 ([] : List ((List UInt8) × Bool)))) = (ln (mgetD .str T5 x3 x1 ([] : List ((List UInt8) × Bool)))))) 4398046511104 y9 (List.set ([(([] : List UInt8), false)] : List ((List UInt8) × Bool)) 0 (x6, true))) fun y10 =>
  .ret (.inr (y8.2.1, (mput .str T5 x3 x1 y10), x4, y8.2.2))))))
  fun y11 =>
  .ite (!(decide (y11.2.2.2.2.1 = (0 : Int))))
  (.ret (.inl (y11.2.2.2.2.1, y11.2.2.2.2.2.1, y11.2.2.2.2.2.2.1, y11.2.2.2.2.2.2.2)))
  (.ite (decide (y11.1 = (1 : Int)))
  (.ret (.inl ((12 : Int), y11.2.2.2.2.2.1, y11.2.2.2.2.2.2.1, y11.2.2.2.2.2.2.2)))
  (.ite (decide (y11.1 = (2 : Int)))
  (.ret (.inl ((0 : Int), y11.2.2.2.2.2.1, y11.2.2.2.2.2.2.1, y11.2.2.2.2.2.2.2)))
  (.get (ite (And ((ln (mgetD .str T5 x3 x1 ([] : List ((List UInt8) × Bool)))) ≤ (ln (mgetD .str T5 x3 x1 ([] : List ((List UInt8) × Bool))))) ((ln (mgetD .str T5 x3 x1 ([] : List ((List UInt8) × Bool)))) ≤ (ln (mgetD .str T5 x3 x1 ([] : List ((List UInt8) × Bool)))))) (subI (mgetD .str T5 x3 x1 ([] : List ((List UInt8) × Bool))) (0 : Int) (ln (mgetD .str T5 x3 x1 ([] : List ((List UInt8) × Bool))))) Option.none) fun y12 =>
  .get (tightI (decide ((ln (mgetD .str T5 x3 x1 ([] : List ((List UInt8) × Bool)))) = (ln (mgetD .str T5 x3 x1 ([] : List ((List UInt8) × Bool)))))) 4398046511104 y12 (List.set ([(([] : List UInt8), false)] : List ((List UInt8) × Bool)) 0 (x6, true))) fun y13 =>
  .ret (.inr (y11.2.2.2.2.2.1, (mput .str T5 x3 x1 y13), y11.2.2.2.2.2.2.1, y11.2.2.2.2.2.2.2)))))
def S_store_Store_change (n : Nat) : Summ := mkS ⟨[(.ptr 0 0), (.val .str []), (.val .str []), (.agg (.pr (.whole 8 1) (.pr .tt .un)))], [⟨0, 1, .box (.agg (.pr (.mpv 2) (.pr (.agg (.pr (.val (.sint .i64) (0 : Int)) (.pr (.val (.sint .i64) (0 : Int)) (.pr (.val (.sint .i64) (0 : Int)) .un)))) (.pr (.whole 4 4) (.pr (.val .bool false) (.pr (.whole 6 3) .un))))))⟩, ⟨2, 3, .mp .str T5 []⟩, ⟨4, 5, .row T1 []⟩, ⟨6, 7, .row T6 []⟩, ⟨8, 9, .row .u8 []⟩], 10⟩ [.d .str, .d .str, .d (.sint .i64), .d (.sint .i64), .d (.sint .i64), .d .bool, .d T7, .d T2, .d T8, .d (.list .u8)] fun v => .sub (F_store_Store_change n (p0 v) (p1 v) (p5 v) (p6 v) (p7 v) (p8 v) (p9 v)) fun r => .alt r (fun r => .ret ((.val (.sint .i64) r.1), [⟨0, 11, .box (.agg (.pr (.mpv 2) (.pr (.agg (.pr (.val (.sint .i64) (p2 v)) (.pr (.val (.sint .i64) (p3 v)) (.pr (.val (.sint .i64) (p4 v)) .un)))) (.pr (.whole 14 4) (.pr (.val .bool r.2.1) (.pr (.whole 16 3) .un))))))⟩, ⟨2, 3, .mp .str T5 (p6 v)⟩, ⟨14, 15, .row T1 r.2.2.1⟩, ⟨16, 17, .row T6 r.2.2.2⟩, ⟨8, 19, .row .u8 (p9 v)⟩], 20)) (fun r => .ret ((.val (.sint .i64) (0 : Int)), [⟨0, 11, .box (.agg (.pr (.mpv 2) (.pr (.agg (.pr (.val (.sint .i64) (p2 v)) (.pr (.val (.sint .i64) (p3 v)) (.pr (.val (.sint .i64) (p4 v)) .un)))) (.pr (.whole 14 4) (.pr (.val .bool r.1) (.pr (.whole 16 3) .un))))))⟩, ⟨2, 13, .mp .str T5 r.2.1⟩, ⟨14, 15, .row T1 r.2.2.1⟩, ⟨16, 17, .row T6 r.2.2.2⟩], 18))
theorem ok_store_Store_change (n : Nat) : SoundF Try.prog 89 (S_store_Store_change n) :=
  fn_go false (c := codeOf Try.f89) (tab := mkTab [(91, ⟨S_store_Store_call n, [], [], false⟩)]) (cuts := mkCuts []) Try.func89 (by kernel_rfl) (.cons (ok_store_Store_call n) ⟨_, Try.func91, by kernel_rfl⟩ .nil) (.none0 (by kernel_rfl)) (fun v => by kernel_rfl)
def F_store_Store_Put (n : Nat) (x0 : List UInt8) (x1 : Bool) (x2 : List (List UInt8 × List (List UInt8 × Bool))) (x3 : List (Int × Int × List UInt8 × List UInt8)) (x4 : List (List UInt8 × List UInt8 × Int)) (x5 : List UInt8) : Tree (((Int) × ((Bool) × ((List (Int × Int × List UInt8 × List UInt8)) × (List (List UInt8 × List UInt8 × Int))))) ⊕ ((Bool) × ((List (List UInt8 × List (List UInt8 × Bool))) × ((List (Int × Int × List UInt8 × List UInt8)) × (List (List UInt8 × List UInt8 × Int)))))) :=
  .sub (F_store_Named n x0) fun y6 =>
  .ite (!y6)
  (.ret (.inl ((1 : Int), x1, x3, x4)))
  (.ite (decide ((65536 : Int) < (ln x5)))
  (.ret (.inl ((2 : Int), x1, x3, x4)))
  (.sub (F_slices_Clone___byte_byte_ n x5) fun y7 =>
  .sub (F_store_Store_change n ([112, 117, 116] : List UInt8) x0 x1 x2 x3 x4 y7) fun y8 =>
  .alt y8 (fun y9 =>
  .ret (.inl (y9.1, y9.2.1, y9.2.2.1, y9.2.2.2)))
  fun y10 =>
  .ret (.inr (y10.1, y10.2.1, y10.2.2.1, y10.2.2.2))))
def S_store_Store_Put (n : Nat) : Summ := mkS ⟨[(.ptr 0 0), (.val .str []), (.whole 8 1)], [⟨0, 1, .box (.agg (.pr (.mpv 2) (.pr (.agg (.pr (.val (.sint .i64) (0 : Int)) (.pr (.val (.sint .i64) (0 : Int)) (.pr (.val (.sint .i64) (0 : Int)) .un)))) (.pr (.whole 4 4) (.pr (.val .bool false) (.pr (.whole 6 3) .un))))))⟩, ⟨2, 3, .mp .str T5 []⟩, ⟨4, 5, .row T1 []⟩, ⟨6, 7, .row T6 []⟩, ⟨8, 9, .row .u8 []⟩], 10⟩ [.d .str, .d (.sint .i64), .d (.sint .i64), .d (.sint .i64), .d .bool, .d T7, .d T2, .d T8, .d (.list .u8)] fun v => .sub (F_store_Store_Put n (p0 v) (p4 v) (p5 v) (p6 v) (p7 v) (p8 v)) fun r => .alt r (fun r => .ret ((.val (.sint .i64) r.1), [⟨0, 11, .box (.agg (.pr (.mpv 2) (.pr (.agg (.pr (.val (.sint .i64) (p1 v)) (.pr (.val (.sint .i64) (p2 v)) (.pr (.val (.sint .i64) (p3 v)) .un)))) (.pr (.whole 14 4) (.pr (.val .bool r.2.1) (.pr (.whole 16 3) .un))))))⟩, ⟨2, 3, .mp .str T5 (p5 v)⟩, ⟨14, 15, .row T1 r.2.2.1⟩, ⟨16, 17, .row T6 r.2.2.2⟩, ⟨8, 19, .row .u8 (p8 v)⟩], 20)) (fun r => .ret ((.val (.sint .i64) (0 : Int)), [⟨0, 11, .box (.agg (.pr (.mpv 2) (.pr (.agg (.pr (.val (.sint .i64) (p1 v)) (.pr (.val (.sint .i64) (p2 v)) (.pr (.val (.sint .i64) (p3 v)) .un)))) (.pr (.whole 14 4) (.pr (.val .bool r.1) (.pr (.whole 16 3) .un))))))⟩, ⟨2, 13, .mp .str T5 r.2.1⟩, ⟨14, 15, .row T1 r.2.2.1⟩, ⟨16, 17, .row T6 r.2.2.2⟩, ⟨8, 19, .row .u8 (p8 v)⟩], 20))
theorem ok_store_Store_Put (n : Nat) : SoundF Try.prog 46 (S_store_Store_Put n) :=
  fn_go false (c := codeOf Try.f46) (tab := mkTab [(15, ⟨S_store_Named n, [], [], false⟩), (90, ⟨S_slices_Clone___byte_byte_ n, [], [], false⟩), (89, ⟨S_store_Store_change n, [], [], false⟩)]) (cuts := mkCuts []) Try.func46 (by kernel_rfl) (.cons (ok_store_Named n) ⟨_, Try.func15, by kernel_rfl⟩ (.cons (ok_slices_Clone___byte_byte_ n) ⟨_, Try.func90, by kernel_rfl⟩ (.cons (ok_store_Store_change n) ⟨_, Try.func89, by kernel_rfl⟩ .nil))) (.none0 (by kernel_rfl)) (fun v => by kernel_rfl)
def C_56_0 : CutF → Cut := fun κ => ⟨[0, 11, 12, 13], fun e => match e with | .ex i => bif Nat.beq i 0 then [] else [] | .rt => [] | .nm => [] | .go i => [], κ⟩
def F_slices_Clone___byte_byte__1_raw (n : Nat) (x0 : List UInt8) : Tree (List UInt8) :=
  .ite (decide ((ln x0) = (0 : Int)))
  (.all (fun (p1 : Bool) => True) fun y2 =>
  .ite y2
  (.ret ([] : List UInt8))
  (.get (appI 140737488355328 ([] : List UInt8) x0) fun y3 =>
  .ret y3))
  (.get (appI 140737488355328 ([] : List UInt8) x0) fun y4 =>
  .ret y4)
def S_slices_Clone___byte_byte__1_raw (n : Nat) : Summ := mkS ⟨[(.ro false .u8 [])], [], 0⟩ [.c, .d (.list .u8)] fun v => .sub (F_slices_Clone___byte_byte__1_raw n (p1 v)) fun r => .ret ((.whole 0 1), [⟨0, 1, .row .u8 r⟩], 2)
theorem ok_slices_Clone___byte_byte__1_raw (n : Nat) : SoundF Try.prog 90 (S_slices_Clone___byte_byte__1_raw n) :=
  fn_go false (c := codeOf Try.f90) (tab := mkTab []) (cuts := mkCuts []) Try.func90 (by kernel_rfl) .nil (.none0 (by kernel_rfl)) (fun v => by kernel_rfl)
def F_slices_Clone___byte_byte__1 (n : Nat) (x0 : List UInt8) : Tree (List UInt8) :=
  .get (appI 140737488355328 ([] : List UInt8) x0) fun z =>
  .ret z
def S_slices_Clone___byte_byte__1 (n : Nat) : Summ := mkS ⟨[(.ro false .u8 [])], [], 0⟩ [.c, .d (.list .u8)] fun v => .sub (F_slices_Clone___byte_byte__1 n (p1 v)) fun r => .ret ((.whole 0 1), [⟨0, 1, .row .u8 r⟩], 2)
theorem ok_slices_Clone___byte_byte__1 (n : Nat) : SoundF Try.prog 90 (S_slices_Clone___byte_byte__1 n) := S_weak (ok_slices_Clone___byte_byte__1_raw n) fun v Q h => clone_det h
def F_store_copied (n : Nat) (x0 : List UInt8) : Tree (List UInt8) :=
  .sub (F_slices_Clone___byte_byte__1 n x0) fun y1 =>
  .ret y1
def S_store_copied (n : Nat) : Summ := mkS ⟨[(.agg (.pr (.val (.sint .i64) (0 : Int)) (.pr (.val (.sint .i64) (0 : Int)) (.pr (.val .str []) (.pr (.ro false .u8 []) .un)))))], [], 0⟩ [.d (.sint .i64), .d (.sint .i64), .d .str, .c, .d (.list .u8)] fun v => .sub (F_store_copied n (p4 v)) fun r => .ret ((.agg (.pr (.val (.sint .i64) (p0 v)) (.pr (.val (.sint .i64) (p1 v)) (.pr (.val .str (p2 v)) (.pr (.whole 0 1) .un))))), [⟨0, 1, .row .u8 r⟩], 2)
theorem ok_store_copied (n : Nat) : SoundF Try.prog 102 (S_store_copied n) :=
  fn_go false (c := codeOf Try.f102) (tab := mkTab [(90, ⟨S_slices_Clone___byte_byte__1 n, [], [], false⟩)]) (cuts := mkCuts []) Try.func102 (by kernel_rfl) (.cons (ok_slices_Clone___byte_byte__1 n) ⟨_, Try.func90, by kernel_rfl⟩ .nil) (.none0 (by kernel_rfl)) (fun v => by kernel_rfl)
def F_store_Store_Script_l0 (n : Nat) : Nat → (Int) → (Int) → (Int) → (Int) → (Int) → (Bool) → (List (List UInt8 × List (List UInt8 × Bool))) → (List (Int × Int × List UInt8 × List UInt8)) → (List (List UInt8 × List UInt8 × Int)) → (List (Int × Int × List UInt8 × List UInt8)) → Tree (List (Int × Int × List UInt8 × List UInt8))
 | 0 => fun  x0 x1 x2 x3 x4 x5 x6 x7 x8 x9 => .fail
 | k + 1 => fun x0 x1 x2 x3 x4 x5 x6 x7 x8 x9 =>
  .ite (decide (x1 < x0))
  (.get (inI (List.length x9) x1) fun y10 =>
  .get (gt x9 (0 + y10)) fun y11 =>
  .get (Tree.run (F_store_copied n y11.2.2.2)) fun y12 =>
  .get (appI 2513169434916 x7 (List.set ([((0 : Int), ((0 : Int), (([] : List UInt8), ([] : List UInt8))))] : List (Int × (Int × ((List UInt8) × (List UInt8))))) 0 (y11.1, (y11.2.1, (y11.2.2.1, y12))))) fun y13 =>
  .sub (F_store_Store_Script_l0 n k x0 (w64 (x1 + (1 : Int))) x2 x3 x4 x5 x6 y13 x8 x9) fun y14 =>
  .ret y14)
  (.ret x7)
def S_store_Store_Script_l0 (n k : Nat) : CutF := mkS ⟨[(.ptr 0 0), (.whole 8 4), (.val (.sint .i64) (0 : Int)), (.val (.sint .i64) (0 : Int))], [⟨0, 1, .box (.agg (.pr (.mpv 2) (.pr (.agg (.pr (.val (.sint .i64) (0 : Int)) (.pr (.val (.sint .i64) (0 : Int)) (.pr (.val (.sint .i64) (0 : Int)) .un)))) (.pr (.whole 4 4) (.pr (.val .bool false) (.pr (.whole 6 3) .un))))))⟩, ⟨2, 3, .mp .str T5 []⟩, ⟨4, 5, .row T1 []⟩, ⟨6, 7, .row T6 []⟩, ⟨8, 9, .row T1 []⟩], 10⟩ [.d (.sint .i64), .d (.sint .i64), .d (.sint .i64), .d (.sint .i64), .d (.sint .i64), .d .bool, .d T7, .d T2, .d T8, .d T2] fun v => .sub (F_store_Store_Script_l0 n k (p0 v) (p1 v) (p2 v) (p3 v) (p4 v) (p5 v) (p6 v) (p7 v) (p8 v) (p9 v)) fun r => .ret (.ex 0, [], [⟨0, 11, .box (.agg (.pr (.mpv 2) (.pr (.agg (.pr (.val (.sint .i64) (p2 v)) (.pr (.val (.sint .i64) (p3 v)) (.pr (.val (.sint .i64) (p4 v)) .un)))) (.pr (.whole 14 4) (.pr (.val .bool (p5 v)) (.pr (.whole 16 3) .un))))))⟩, ⟨2, 3, .mp .str T5 (p6 v)⟩, ⟨14, 15, .row T1 r⟩, ⟨16, 17, .row T6 (p8 v)⟩, ⟨8, 19, .row T1 (p9 v)⟩], 20)
theorem rd_store_Store_Script_l0 (n k : Nat) : Rounds Try.prog (Go.Func.ntmps Try.f56) (bodyOf Try.f56 0) C_56_0 [S_store_Store_Script_l0 n k] (S_store_Store_Script_l0 n (k + 1)) :=
  rounds_go (tab := mkTab [(102, ⟨S_store_copied n, [], [], false⟩)]) (cuts := mkCuts []) (S_store_Store_Script_l0 n k) [] (.cons (ok_store_copied n) ⟨_, Try.func102, by kernel_rfl⟩ .nil) (.none0 (by kernel_rfl)) rfl (fun v => by kernel_rfl)
theorem ok_store_Store_Script_l0 (n k : Nat) : SoundC Try.prog (Go.Func.ntmps Try.f56) (.loop (bodyOf Try.f56 0)) (wr (bodyOf Try.f56 0)) (C_56_0 (S_store_Store_Script_l0 n k)) :=
  loop_go (K := fun k => [S_store_Store_Script_l0 n k]) (fun _ => rfl) (by kernel_rfl) ⟨z_go fun _ => by kernel_rfl, trivial⟩ (fun k => ⟨rd_store_Store_Script_l0 n k, trivial⟩) k rfl
def F_store_Store_Script (n : Nat) (x0 : Int) (x1 : Int) (x2 : Int) (x3 : Bool) (x4 : List (List UInt8 × List (List UInt8 × Bool))) (x5 : List (List UInt8 × List UInt8 × Int)) (x6 : List (Int × Int × List UInt8 × List UInt8)) : Tree (List (Int × Int × List UInt8 × List UInt8)) :=
  .sub (F_store_Store_Script_l0 n n (ln x6) (0 : Int) x0 x1 x2 x3 x4 ([] : List (Int × (Int × ((List UInt8) × (List UInt8))))) x5 x6) fun y7 =>
  .ret y7
def S_store_Store_Script (n : Nat) : Summ := mkS ⟨[(.ptr 0 0), (.whole 8 4)], [⟨0, 1, .box (.agg (.pr (.mpv 2) (.pr (.agg (.pr (.val (.sint .i64) (0 : Int)) (.pr (.val (.sint .i64) (0 : Int)) (.pr (.val (.sint .i64) (0 : Int)) .un)))) (.pr (.whole 4 4) (.pr (.val .bool false) (.pr (.whole 6 3) .un))))))⟩, ⟨2, 3, .mp .str T5 []⟩, ⟨4, 5, .row T1 []⟩, ⟨6, 7, .row T6 []⟩, ⟨8, 9, .row T1 []⟩], 10⟩ [.d (.sint .i64), .d (.sint .i64), .d (.sint .i64), .d .bool, .d T7, .d T2, .d T8, .d T2] fun v => .sub (F_store_Store_Script n (p0 v) (p1 v) (p2 v) (p3 v) (p4 v) (p6 v) (p7 v)) fun r => .ret ((.tup .un), [⟨0, 11, .box (.agg (.pr (.mpv 2) (.pr (.agg (.pr (.val (.sint .i64) (p0 v)) (.pr (.val (.sint .i64) (p1 v)) (.pr (.val (.sint .i64) (p2 v)) .un)))) (.pr (.whole 14 4) (.pr (.val .bool (p3 v)) (.pr (.whole 16 3) .un))))))⟩, ⟨2, 3, .mp .str T5 (p4 v)⟩, ⟨14, 15, .row T1 r⟩, ⟨16, 17, .row T6 (p6 v)⟩, ⟨18, 19, .row T1 (p5 v)⟩, ⟨8, 21, .row T1 (p7 v)⟩], 22)
theorem ok_store_Store_Script (n : Nat) : SoundF Try.prog 56 (S_store_Store_Script n) :=
  fn_go false (c := codeOf Try.f56) (tab := mkTab []) (cuts := mkCuts [(0, C_56_0 (S_store_Store_Script_l0 n n))]) Try.func56 (by kernel_rfl) .nil (CutsOK.list (l := [(0, .lp (bodyOf Try.f56 0))]) (by kernel_rfl) (LoopsOK.all ⟨.inr ⟨_, rfl, ok_store_Store_Script_l0 n n⟩, trivial⟩)) (fun v => by kernel_rfl)
def F_store_Store_stood (n : Nat) (x0 : List UInt8) (x1 : Int) (x2 : List (List UInt8 × List (List UInt8 × Bool))) : Tree (Unit ⊕ ((List UInt8) × Bool)) :=
  .ite ((decide (x1 < (0 : Int))) || (decide ((ln (mgetD .str T5 x2 x0 ([] : List ((List UInt8) × Bool)))) ≤ x1)))
  (.ret (.inl ()))
  (.get (getI (mgetD .str T5 x2 x0 ([] : List ((List UInt8) × Bool))) (w64 ((w64 ((ln (mgetD .str T5 x2 x0 ([] : List ((List UInt8) × Bool)))) - (1 : Int))) - x1))) fun y3 =>
  .ret (.inr (y3.1, y3.2)))
def S_store_Store_stood (n : Nat) : Summ := mkS ⟨[(.ptr 0 0), (.val .str []), (.val (.sint .i64) (0 : Int))], [⟨0, 1, .box (.agg (.pr (.mpv 2) (.pr (.agg (.pr (.val (.sint .i64) (0 : Int)) (.pr (.val (.sint .i64) (0 : Int)) (.pr (.val (.sint .i64) (0 : Int)) .un)))) (.pr (.whole 4 4) (.pr (.val .bool false) (.pr (.whole 6 3) .un))))))⟩, ⟨2, 3, .mp .str T5 []⟩, ⟨4, 5, .row T1 []⟩, ⟨6, 7, .row T6 []⟩], 8⟩ [.d .str, .d (.sint .i64), .d (.sint .i64), .d (.sint .i64), .d (.sint .i64), .d .bool, .d T7, .d T2, .d T8] fun v => .sub (F_store_Store_stood n (p0 v) (p1 v) (p6 v)) fun r => .alt r (fun r => .ret ((.agg (.pr (.whole 8 1) (.pr (.val .bool false) .un))), [⟨8, 9, .row .u8 ([] : List UInt8)⟩, ⟨0, 11, .box (.agg (.pr (.mpv 2) (.pr (.agg (.pr (.val (.sint .i64) (p2 v)) (.pr (.val (.sint .i64) (p3 v)) (.pr (.val (.sint .i64) (p4 v)) .un)))) (.pr (.whole 14 4) (.pr (.val .bool (p5 v)) (.pr (.whole 16 3) .un))))))⟩, ⟨2, 3, .mp .str T5 (p6 v)⟩, ⟨14, 15, .row T1 (p7 v)⟩, ⟨16, 17, .row T6 (p8 v)⟩], 18)) (fun r => .ret ((.agg (.pr (.ro false .u8 r.1) (.pr (.val .bool r.2) .un))), [⟨0, 9, .box (.agg (.pr (.mpv 2) (.pr (.agg (.pr (.val (.sint .i64) (p2 v)) (.pr (.val (.sint .i64) (p3 v)) (.pr (.val (.sint .i64) (p4 v)) .un)))) (.pr (.whole 12 4) (.pr (.val .bool (p5 v)) (.pr (.whole 14 3) .un))))))⟩, ⟨2, 3, .mp .str T5 (p6 v)⟩, ⟨12, 13, .row T1 (p7 v)⟩, ⟨14, 15, .row T6 (p8 v)⟩], 16))
theorem ok_store_Store_stood (n : Nat) : SoundF Try.prog 92 (S_store_Store_stood n) :=
  fn_go false (c := codeOf Try.f92) (tab := mkTab []) (cuts := mkCuts []) Try.func92 (by kernel_rfl) .nil (.none0 (by kernel_rfl)) (fun v => by kernel_rfl)
def F_store_Store_Get (n : Nat) (x0 : List UInt8) (x1 : Bool) (x2 : List (List UInt8 × List (List UInt8 × Bool))) (x3 : List (Int × Int × List UInt8 × List UInt8)) (x4 : List (List UInt8 × List UInt8 × Int)) : Tree ((Int) × ((List UInt8) × ((Bool) × ((List (Int × Int × List UInt8 × List UInt8)) × (List (List UInt8 × List UInt8 × Int)))))) :=
  .sub (F_store_Named n x0) fun y5 =>
  .ite (!y5)
  (.ret ((1 : Int), ([] : List UInt8), x1, x3, x4))
  (.sub (F_store_Store_call n ([103, 101, 116] : List UInt8) x0 (0 : Int) x1 x3 x4) fun y6 =>
  .alt y6 (fun y7 =>
  .ite (!(decide (y7.1 = (0 : Int))))
  (.ret (y7.1, ([] : List UInt8), y7.2.1, x3, y7.2.2))
  (.sub (F_store_Store_stood n x0 (0 : Int) x2) fun y8 =>
  .alt y8 (fun y9 =>
  .ite false
  (.ret ((12 : Int), ([] : List UInt8), y7.2.1, x3, y7.2.2))
  (.ite false
  (.ret ((11 : Int), ([] : List UInt8), y7.2.1, x3, y7.2.2))
  (.ite false
  (.sub (F_store_Store_stood n x0 (0 : Int) x2) fun y10 =>
  .alt y10 (fun y11 =>
  .ite true
  (.ret ((11 : Int), ([] : List UInt8), y7.2.1, x3, y7.2.2))
  (.ite false
  (.ret ((13 : Int), ([] : List UInt8), y7.2.1, x3, y7.2.2))
  (.sub (F_slices_Clone___byte_byte_ n ([] : List UInt8)) fun y12 =>
  .ret ((0 : Int), y12, y7.2.1, x3, y7.2.2))))
  fun y13 =>
  .ite (!y13.2)
  (.ret ((11 : Int), ([] : List UInt8), y7.2.1, x3, y7.2.2))
  (.ite (decide ((65536 : Int) < (ln y13.1)))
  (.ret ((13 : Int), ([] : List UInt8), y7.2.1, x3, y7.2.2))
  (.sub (F_slices_Clone___byte_byte__1 n y13.1) fun y14 =>
  .ret ((0 : Int), y14, y7.2.1, x3, y7.2.2))))
  (.ite false
  (.sub (F_store_Store_stood n ([] : List UInt8) (0 : Int) x2) fun y15 =>
  .alt y15 (fun y16 =>
  .ite true
  (.ret ((11 : Int), ([] : List UInt8), y7.2.1, x3, y7.2.2))
  (.ite false
  (.ret ((13 : Int), ([] : List UInt8), y7.2.1, x3, y7.2.2))
  (.sub (F_slices_Clone___byte_byte_ n ([] : List UInt8)) fun y17 =>
  .ret ((0 : Int), y17, y7.2.1, x3, y7.2.2))))
  fun y18 =>
  .ite (!y18.2)
  (.ret ((11 : Int), ([] : List UInt8), y7.2.1, x3, y7.2.2))
  (.ite (decide ((65536 : Int) < (ln y18.1)))
  (.ret ((13 : Int), ([] : List UInt8), y7.2.1, x3, y7.2.2))
  (.sub (F_slices_Clone___byte_byte__1 n y18.1) fun y19 =>
  .ret ((0 : Int), y19, y7.2.1, x3, y7.2.2))))
  (.ite false
  (.ite false
  (.ret ((13 : Int), ([] : List UInt8), y7.2.1, x3, y7.2.2))
  (.sub (F_slices_Clone___byte_byte_ n ([] : List UInt8)) fun y20 =>
  .ret ((0 : Int), y20, y7.2.1, x3, y7.2.2)))
  (.ite true
  (.ret ((11 : Int), ([] : List UInt8), y7.2.1, x3, y7.2.2))
  (.ite false
  (.ret ((13 : Int), ([] : List UInt8), y7.2.1, x3, y7.2.2))
  (.sub (F_slices_Clone___byte_byte_ n ([] : List UInt8)) fun y21 =>
  .ret ((0 : Int), y21, y7.2.1, x3, y7.2.2)))))))))
  fun y22 =>
  .ite false
  (.ret ((12 : Int), ([] : List UInt8), y7.2.1, x3, y7.2.2))
  (.ite false
  (.ret ((11 : Int), ([] : List UInt8), y7.2.1, x3, y7.2.2))
  (.ite false
  (.sub (F_store_Store_stood n x0 (0 : Int) x2) fun y23 =>
  .alt y23 (fun y24 =>
  .ite true
  (.ret ((11 : Int), ([] : List UInt8), y7.2.1, x3, y7.2.2))
  (.ite false
  (.ret ((13 : Int), ([] : List UInt8), y7.2.1, x3, y7.2.2))
  (.sub (F_slices_Clone___byte_byte_ n ([] : List UInt8)) fun y25 =>
  .ret ((0 : Int), y25, y7.2.1, x3, y7.2.2))))
  fun y26 =>
  .ite (!y26.2)
  (.ret ((11 : Int), ([] : List UInt8), y7.2.1, x3, y7.2.2))
  (.ite (decide ((65536 : Int) < (ln y26.1)))
  (.ret ((13 : Int), ([] : List UInt8), y7.2.1, x3, y7.2.2))
  (.sub (F_slices_Clone___byte_byte__1 n y26.1) fun y27 =>
  .ret ((0 : Int), y27, y7.2.1, x3, y7.2.2))))
  (.ite false
  (.sub (F_store_Store_stood n ([] : List UInt8) (0 : Int) x2) fun y28 =>
  .alt y28 (fun y29 =>
  .ite true
  (.ret ((11 : Int), ([] : List UInt8), y7.2.1, x3, y7.2.2))
  (.ite false
  (.ret ((13 : Int), ([] : List UInt8), y7.2.1, x3, y7.2.2))
  (.sub (F_slices_Clone___byte_byte_ n ([] : List UInt8)) fun y30 =>
  .ret ((0 : Int), y30, y7.2.1, x3, y7.2.2))))
  fun y31 =>
  .ite (!y31.2)
  (.ret ((11 : Int), ([] : List UInt8), y7.2.1, x3, y7.2.2))
  (.ite (decide ((65536 : Int) < (ln y31.1)))
  (.ret ((13 : Int), ([] : List UInt8), y7.2.1, x3, y7.2.2))
  (.sub (F_slices_Clone___byte_byte__1 n y31.1) fun y32 =>
  .ret ((0 : Int), y32, y7.2.1, x3, y7.2.2))))
  (.ite false
  (.ite false
  (.ret ((13 : Int), ([] : List UInt8), y7.2.1, x3, y7.2.2))
  (.sub (F_slices_Clone___byte_byte_ n ([] : List UInt8)) fun y33 =>
  .ret ((0 : Int), y33, y7.2.1, x3, y7.2.2)))
  (.ite (!y22.2)
  (.ret ((11 : Int), ([] : List UInt8), y7.2.1, x3, y7.2.2))
  (.ite (decide ((65536 : Int) < (ln y22.1)))
  (.ret ((13 : Int), ([] : List UInt8), y7.2.1, x3, y7.2.2))
  (.sub (F_slices_Clone___byte_byte__1 n y22.1) fun y34 =>
  .ret ((0 : Int), y34, y7.2.1, x3, y7.2.2))))))))))
  fun y35 =>
  .ite (!(decide (y35.2.2.2.2.1 = (0 : Int))))
  (.ret (y35.2.2.2.2.1, ([] : List UInt8), y35.2.2.2.2.2.1, y35.2.2.2.2.2.2.1, y35.2.2.2.2.2.2.2))
  (.sub (F_store_Store_stood n x0 (0 : Int) x2) fun y36 =>
  .alt y36 (fun y37 =>
  .ite (decide (y35.1 = (1 : Int)))
  (.ret ((12 : Int), ([] : List UInt8), y35.2.2.2.2.2.1, y35.2.2.2.2.2.2.1, y35.2.2.2.2.2.2.2))
  (.ite (decide (y35.1 = (2 : Int)))
  (.ret ((11 : Int), ([] : List UInt8), y35.2.2.2.2.2.1, y35.2.2.2.2.2.2.1, y35.2.2.2.2.2.2.2))
  (.ite (decide (y35.1 = (3 : Int)))
  (.sub (F_store_Store_stood n x0 y35.2.1 x2) fun y38 =>
  .alt y38 (fun y39 =>
  .ite true
  (.ret ((11 : Int), ([] : List UInt8), y35.2.2.2.2.2.1, y35.2.2.2.2.2.2.1, y35.2.2.2.2.2.2.2))
  (.ite false
  (.ret ((13 : Int), ([] : List UInt8), y35.2.2.2.2.2.1, y35.2.2.2.2.2.2.1, y35.2.2.2.2.2.2.2))
  (.sub (F_slices_Clone___byte_byte_ n ([] : List UInt8)) fun y40 =>
  .ret ((0 : Int), y40, y35.2.2.2.2.2.1, y35.2.2.2.2.2.2.1, y35.2.2.2.2.2.2.2))))
  fun y41 =>
  .ite (!y41.2)
  (.ret ((11 : Int), ([] : List UInt8), y35.2.2.2.2.2.1, y35.2.2.2.2.2.2.1, y35.2.2.2.2.2.2.2))
  (.ite (decide ((65536 : Int) < (ln y41.1)))
  (.ret ((13 : Int), ([] : List UInt8), y35.2.2.2.2.2.1, y35.2.2.2.2.2.2.1, y35.2.2.2.2.2.2.2))
  (.sub (F_slices_Clone___byte_byte__1 n y41.1) fun y42 =>
  .ret ((0 : Int), y42, y35.2.2.2.2.2.1, y35.2.2.2.2.2.2.1, y35.2.2.2.2.2.2.2))))
  (.ite (decide (y35.1 = (4 : Int)))
  (.sub (F_store_Store_stood n y35.2.2.1 (0 : Int) x2) fun y43 =>
  .alt y43 (fun y44 =>
  .ite true
  (.ret ((11 : Int), ([] : List UInt8), y35.2.2.2.2.2.1, y35.2.2.2.2.2.2.1, y35.2.2.2.2.2.2.2))
  (.ite false
  (.ret ((13 : Int), ([] : List UInt8), y35.2.2.2.2.2.1, y35.2.2.2.2.2.2.1, y35.2.2.2.2.2.2.2))
  (.sub (F_slices_Clone___byte_byte_ n ([] : List UInt8)) fun y45 =>
  .ret ((0 : Int), y45, y35.2.2.2.2.2.1, y35.2.2.2.2.2.2.1, y35.2.2.2.2.2.2.2))))
  fun y46 =>
  .ite (!y46.2)
  (.ret ((11 : Int), ([] : List UInt8), y35.2.2.2.2.2.1, y35.2.2.2.2.2.2.1, y35.2.2.2.2.2.2.2))
  (.ite (decide ((65536 : Int) < (ln y46.1)))
  (.ret ((13 : Int), ([] : List UInt8), y35.2.2.2.2.2.1, y35.2.2.2.2.2.2.1, y35.2.2.2.2.2.2.2))
  (.sub (F_slices_Clone___byte_byte__1 n y46.1) fun y47 =>
  .ret ((0 : Int), y47, y35.2.2.2.2.2.1, y35.2.2.2.2.2.2.1, y35.2.2.2.2.2.2.2))))
  (.ite (decide (y35.1 = (5 : Int)))
  (.ite (decide ((65536 : Int) < (ln y35.2.2.2.1)))
  (.ret ((13 : Int), ([] : List UInt8), y35.2.2.2.2.2.1, y35.2.2.2.2.2.2.1, y35.2.2.2.2.2.2.2))
  (.sub (F_slices_Clone___byte_byte__1 n y35.2.2.2.1) fun y48 =>
  .ret ((0 : Int), y48, y35.2.2.2.2.2.1, y35.2.2.2.2.2.2.1, y35.2.2.2.2.2.2.2)))
  (.ite true
  (.ret ((11 : Int), ([] : List UInt8), y35.2.2.2.2.2.1, y35.2.2.2.2.2.2.1, y35.2.2.2.2.2.2.2))
  (.ite false
  (.ret ((13 : Int), ([] : List UInt8), y35.2.2.2.2.2.1, y35.2.2.2.2.2.2.1, y35.2.2.2.2.2.2.2))
  (.sub (F_slices_Clone___byte_byte_ n ([] : List UInt8)) fun y49 =>
  .ret ((0 : Int), y49, y35.2.2.2.2.2.1, y35.2.2.2.2.2.2.1, y35.2.2.2.2.2.2.2)))))))))
  fun y50 =>
  .ite (decide (y35.1 = (1 : Int)))
  (.ret ((12 : Int), ([] : List UInt8), y35.2.2.2.2.2.1, y35.2.2.2.2.2.2.1, y35.2.2.2.2.2.2.2))
  (.ite (decide (y35.1 = (2 : Int)))
  (.ret ((11 : Int), ([] : List UInt8), y35.2.2.2.2.2.1, y35.2.2.2.2.2.2.1, y35.2.2.2.2.2.2.2))
  (.ite (decide (y35.1 = (3 : Int)))
  (.sub (F_store_Store_stood n x0 y35.2.1 x2) fun y51 =>
  .alt y51 (fun y52 =>
  .ite true
  (.ret ((11 : Int), ([] : List UInt8), y35.2.2.2.2.2.1, y35.2.2.2.2.2.2.1, y35.2.2.2.2.2.2.2))
  (.ite false
  (.ret ((13 : Int), ([] : List UInt8), y35.2.2.2.2.2.1, y35.2.2.2.2.2.2.1, y35.2.2.2.2.2.2.2))
  (.sub (F_slices_Clone___byte_byte_ n ([] : List UInt8)) fun y53 =>
  .ret ((0 : Int), y53, y35.2.2.2.2.2.1, y35.2.2.2.2.2.2.1, y35.2.2.2.2.2.2.2))))
  fun y54 =>
  .ite (!y54.2)
  (.ret ((11 : Int), ([] : List UInt8), y35.2.2.2.2.2.1, y35.2.2.2.2.2.2.1, y35.2.2.2.2.2.2.2))
  (.ite (decide ((65536 : Int) < (ln y54.1)))
  (.ret ((13 : Int), ([] : List UInt8), y35.2.2.2.2.2.1, y35.2.2.2.2.2.2.1, y35.2.2.2.2.2.2.2))
  (.sub (F_slices_Clone___byte_byte__1 n y54.1) fun y55 =>
  .ret ((0 : Int), y55, y35.2.2.2.2.2.1, y35.2.2.2.2.2.2.1, y35.2.2.2.2.2.2.2))))
  (.ite (decide (y35.1 = (4 : Int)))
  (.sub (F_store_Store_stood n y35.2.2.1 (0 : Int) x2) fun y56 =>
  .alt y56 (fun y57 =>
  .ite true
  (.ret ((11 : Int), ([] : List UInt8), y35.2.2.2.2.2.1, y35.2.2.2.2.2.2.1, y35.2.2.2.2.2.2.2))
  (.ite false
  (.ret ((13 : Int), ([] : List UInt8), y35.2.2.2.2.2.1, y35.2.2.2.2.2.2.1, y35.2.2.2.2.2.2.2))
  (.sub (F_slices_Clone___byte_byte_ n ([] : List UInt8)) fun y58 =>
  .ret ((0 : Int), y58, y35.2.2.2.2.2.1, y35.2.2.2.2.2.2.1, y35.2.2.2.2.2.2.2))))
  fun y59 =>
  .ite (!y59.2)
  (.ret ((11 : Int), ([] : List UInt8), y35.2.2.2.2.2.1, y35.2.2.2.2.2.2.1, y35.2.2.2.2.2.2.2))
  (.ite (decide ((65536 : Int) < (ln y59.1)))
  (.ret ((13 : Int), ([] : List UInt8), y35.2.2.2.2.2.1, y35.2.2.2.2.2.2.1, y35.2.2.2.2.2.2.2))
  (.sub (F_slices_Clone___byte_byte__1 n y59.1) fun y60 =>
  .ret ((0 : Int), y60, y35.2.2.2.2.2.1, y35.2.2.2.2.2.2.1, y35.2.2.2.2.2.2.2))))
  (.ite (decide (y35.1 = (5 : Int)))
  (.ite (decide ((65536 : Int) < (ln y35.2.2.2.1)))
  (.ret ((13 : Int), ([] : List UInt8), y35.2.2.2.2.2.1, y35.2.2.2.2.2.2.1, y35.2.2.2.2.2.2.2))
  (.sub (F_slices_Clone___byte_byte__1 n y35.2.2.2.1) fun y61 =>
  .ret ((0 : Int), y61, y35.2.2.2.2.2.1, y35.2.2.2.2.2.2.1, y35.2.2.2.2.2.2.2)))
  (.ite (!y50.2)
  (.ret ((11 : Int), ([] : List UInt8), y35.2.2.2.2.2.1, y35.2.2.2.2.2.2.1, y35.2.2.2.2.2.2.2))
  (.ite (decide ((65536 : Int) < (ln y50.1)))
  (.ret ((13 : Int), ([] : List UInt8), y35.2.2.2.2.2.1, y35.2.2.2.2.2.2.1, y35.2.2.2.2.2.2.2))
  (.sub (F_slices_Clone___byte_byte__1 n y50.1) fun y62 =>
  .ret ((0 : Int), y62, y35.2.2.2.2.2.1, y35.2.2.2.2.2.2.1, y35.2.2.2.2.2.2.2))))))))))
def S_store_Store_Get (n : Nat) : Summ := mkS ⟨[(.ptr 0 0), (.val .str [])], [⟨0, 1, .box (.agg (.pr (.mpv 2) (.pr (.agg (.pr (.val (.sint .i64) (0 : Int)) (.pr (.val (.sint .i64) (0 : Int)) (.pr (.val (.sint .i64) (0 : Int)) .un)))) (.pr (.whole 4 4) (.pr (.val .bool false) (.pr (.whole 6 3) .un))))))⟩, ⟨2, 3, .mp .str T5 []⟩, ⟨4, 5, .row T1 []⟩, ⟨6, 7, .row T6 []⟩], 8⟩ [.d .str, .d (.sint .i64), .d (.sint .i64), .d (.sint .i64), .d .bool, .d T7, .d T2, .d T8] fun v => .sub (F_store_Store_Get n (p0 v) (p4 v) (p5 v) (p6 v) (p7 v)) fun r => .ret ((.tup (.pr (.whole 8 1) (.pr (.val (.sint .i64) r.1) .un))), [⟨8, 9, .row .u8 r.2.1⟩, ⟨0, 11, .box (.agg (.pr (.mpv 2) (.pr (.agg (.pr (.val (.sint .i64) (p1 v)) (.pr (.val (.sint .i64) (p2 v)) (.pr (.val (.sint .i64) (p3 v)) .un)))) (.pr (.whole 14 4) (.pr (.val .bool r.2.2.1) (.pr (.whole 16 3) .un))))))⟩, ⟨2, 3, .mp .str T5 (p5 v)⟩, ⟨14, 15, .row T1 r.2.2.2.1⟩, ⟨16, 17, .row T6 r.2.2.2.2⟩], 18)
theorem ok_store_Store_Get (n : Nat) : SoundF Try.prog 49 (S_store_Store_Get n) :=
  fn_go false (c := codeOf Try.f49) (tab := mkTab [(15, ⟨S_store_Named n, [], [], false⟩), (91, ⟨S_store_Store_call n, [], [], false⟩), (92, ⟨S_store_Store_stood n, [], [], false⟩), (90, ⟨orS (S_slices_Clone___byte_byte_ n) (S_slices_Clone___byte_byte__1 n), [], [], false⟩)]) (cuts := mkCuts []) Try.func49 (by kernel_rfl) (.cons (ok_store_Named n) ⟨_, Try.func15, by kernel_rfl⟩ (.cons (ok_store_Store_call n) ⟨_, Try.func91, by kernel_rfl⟩ (.cons (ok_store_Store_stood n) ⟨_, Try.func92, by kernel_rfl⟩ (.cons (.or (ok_slices_Clone___byte_byte_ n) (ok_slices_Clone___byte_byte__1 n)) ⟨_, Try.func90, by kernel_rfl⟩ .nil)))) (.none0 (by kernel_rfl)) (fun v => by kernel_rfl)
def F_store_Store_Dead (n : Nat) : Tree Unit :=
  .ret ()
def S_store_Store_Dead (n : Nat) : Summ := mkS ⟨[(.ptr 0 0)], [⟨0, 1, .box (.agg (.pr (.mpv 2) (.pr (.agg (.pr (.val (.sint .i64) (0 : Int)) (.pr (.val (.sint .i64) (0 : Int)) (.pr (.val (.sint .i64) (0 : Int)) .un)))) (.pr (.whole 4 4) (.pr (.val .bool false) (.pr (.whole 6 3) .un))))))⟩, ⟨2, 3, .mp .str T5 []⟩, ⟨4, 5, .row T1 []⟩, ⟨6, 7, .row T6 []⟩], 8⟩ [.d (.sint .i64), .d (.sint .i64), .d (.sint .i64), .d .bool, .d T7, .d T2, .d T8] fun v => .sub (F_store_Store_Dead n) fun r => .ret ((.val .bool (p3 v)), [⟨0, 9, .box (.agg (.pr (.mpv 2) (.pr (.agg (.pr (.val (.sint .i64) (p0 v)) (.pr (.val (.sint .i64) (p1 v)) (.pr (.val (.sint .i64) (p2 v)) .un)))) (.pr (.whole 12 4) (.pr (.val .bool (p3 v)) (.pr (.whole 14 3) .un))))))⟩, ⟨2, 3, .mp .str T5 (p4 v)⟩, ⟨12, 13, .row T1 (p5 v)⟩, ⟨14, 15, .row T6 (p6 v)⟩], 16)
theorem ok_store_Store_Dead (n : Nat) : SoundF Try.prog 52 (S_store_Store_Dead n) :=
  fn_go false (c := codeOf Try.f52) (tab := mkTab []) (cuts := mkCuts []) Try.func52 (by kernel_rfl) .nil (.none0 (by kernel_rfl)) (fun v => by kernel_rfl)
def F_slices_Clone___byte_byte__2 (n : Nat) : Tree Unit :=
  .ret ()
def S_slices_Clone___byte_byte__2 (n : Nat) : Summ := mkS ⟨[(.snil (some .u8))], [], 0⟩ [] fun v => .sub (F_slices_Clone___byte_byte__2 n) fun r => .ret ((.whole 0 1), [⟨0, 1, .row .u8 ([] : List UInt8)⟩], 2)
theorem ok_slices_Clone___byte_byte__2 (n : Nat) : SoundF Try.prog 90 (S_slices_Clone___byte_byte__2 n) :=
  fn_go false (c := codeOf Try.f90) (tab := mkTab []) (cuts := mkCuts []) Try.func90 (by kernel_rfl) .nil (.none0 (by kernel_rfl)) (fun v => by kernel_rfl)
def F_store_Store_Put_1 (n : Nat) (x0 : List UInt8) (x1 : Bool) (x2 : List (List UInt8 × List (List UInt8 × Bool))) (x3 : List (Int × Int × List UInt8 × List UInt8)) (x4 : List (List UInt8 × List UInt8 × Int)) : Tree (((Int) × ((Bool) × ((List (Int × Int × List UInt8 × List UInt8)) × (List (List UInt8 × List UInt8 × Int))))) ⊕ ((Bool) × ((List (List UInt8 × List (List UInt8 × Bool))) × ((List (Int × Int × List UInt8 × List UInt8)) × (List (List UInt8 × List UInt8 × Int)))))) :=
  .sub (F_store_Named n x0) fun y5 =>
  .ite (!y5)
  (.ret (.inl ((1 : Int), x1, x3, x4)))
  (.ite false
  (.ret (.inl ((2 : Int), x1, x3, x4)))
  (.sub (F_slices_Clone___byte_byte__2 n) fun y6 =>
  .sub (F_store_Store_change n ([112, 117, 116] : List UInt8) x0 x1 x2 x3 x4 ([] : List UInt8)) fun y7 =>
  .alt y7 (fun y8 =>
  .ret (.inl (y8.1, y8.2.1, y8.2.2.1, y8.2.2.2)))
  fun y9 =>
  .ret (.inr (y9.1, y9.2.1, y9.2.2.1, y9.2.2.2))))
def S_store_Store_Put_1 (n : Nat) : Summ := mkS ⟨[(.ptr 0 0), (.val .str []), (.snil (some .u8))], [⟨0, 1, .box (.agg (.pr (.mpv 2) (.pr (.agg (.pr (.val (.sint .i64) (0 : Int)) (.pr (.val (.sint .i64) (0 : Int)) (.pr (.val (.sint .i64) (0 : Int)) .un)))) (.pr (.whole 4 4) (.pr (.val .bool false) (.pr (.whole 6 3) .un))))))⟩, ⟨2, 3, .mp .str T5 []⟩, ⟨4, 5, .row T1 []⟩, ⟨6, 7, .row T6 []⟩], 8⟩ [.d .str, .d (.sint .i64), .d (.sint .i64), .d (.sint .i64), .d .bool, .d T7, .d T2, .d T8] fun v => .sub (F_store_Store_Put_1 n (p0 v) (p4 v) (p5 v) (p6 v) (p7 v)) fun r => .alt r (fun r => .ret ((.val (.sint .i64) r.1), [⟨0, 9, .box (.agg (.pr (.mpv 2) (.pr (.agg (.pr (.val (.sint .i64) (p1 v)) (.pr (.val (.sint .i64) (p2 v)) (.pr (.val (.sint .i64) (p3 v)) .un)))) (.pr (.whole 12 4) (.pr (.val .bool r.2.1) (.pr (.whole 14 3) .un))))))⟩, ⟨2, 3, .mp .str T5 (p5 v)⟩, ⟨12, 13, .row T1 r.2.2.1⟩, ⟨14, 15, .row T6 r.2.2.2⟩], 16)) (fun r => .ret ((.val (.sint .i64) (0 : Int)), [⟨0, 9, .box (.agg (.pr (.mpv 2) (.pr (.agg (.pr (.val (.sint .i64) (p1 v)) (.pr (.val (.sint .i64) (p2 v)) (.pr (.val (.sint .i64) (p3 v)) .un)))) (.pr (.whole 12 4) (.pr (.val .bool r.1) (.pr (.whole 14 3) .un))))))⟩, ⟨2, 11, .mp .str T5 r.2.1⟩, ⟨12, 13, .row T1 r.2.2.1⟩, ⟨14, 15, .row T6 r.2.2.2⟩], 16))
theorem ok_store_Store_Put_1 (n : Nat) : SoundF Try.prog 46 (S_store_Store_Put_1 n) :=
  fn_go false (c := codeOf Try.f46) (tab := mkTab [(15, ⟨S_store_Named n, [], [], false⟩), (90, ⟨S_slices_Clone___byte_byte__2 n, [], [], false⟩), (89, ⟨S_store_Store_change n, [], [], false⟩)]) (cuts := mkCuts []) Try.func46 (by kernel_rfl) (.cons (ok_store_Named n) ⟨_, Try.func15, by kernel_rfl⟩ (.cons (ok_slices_Clone___byte_byte__2 n) ⟨_, Try.func90, by kernel_rfl⟩ (.cons (ok_store_Store_change n) ⟨_, Try.func89, by kernel_rfl⟩ .nil))) (.none0 (by kernel_rfl)) (fun v => by kernel_rfl)
def F_w16_awake (n : Nat) : Tree Bool :=
  .sub (F_store_New n) fun y0 =>
  .sub (F_store_Store_Put n ([97] : List UInt8) false ([] : List ((List UInt8) × (List ((List UInt8) × Bool)))) ([] : List (Int × (Int × ((List UInt8) × (List UInt8))))) ([] : List ((List UInt8) × ((List UInt8) × Int))) ([1] : List UInt8)) fun y1 =>
  .alt y1 (fun y2 =>
  .ite (!(decide (y2.1 = (0 : Int))))
  (.ret false)
  (.sub (F_store_Store_Put n ([97] : List UInt8) y2.2.1 ([] : List ((List UInt8) × (List ((List UInt8) × Bool)))) y2.2.2.1 y2.2.2.2 ([2] : List UInt8)) fun y3 =>
  .alt y3 (fun y4 =>
  .ite (!(decide (y4.1 = (0 : Int))))
  (.ret false)
  (.sub (F_store_Store_Script n (0 : Int) (0 : Int) (0 : Int) y4.2.1 ([] : List ((List UInt8) × (List ((List UInt8) × Bool)))) y4.2.2.2 ([((3 : Int), ((1 : Int), (([] : List UInt8), ([] : List UInt8)))), ((6 : Int), ((0 : Int), (([] : List UInt8), ([] : List UInt8))))] : List (Int × (Int × ((List UInt8) × (List UInt8)))))) fun y5 =>
  .sub (F_store_Store_Get n ([97] : List UInt8) y4.2.1 ([] : List ((List UInt8) × (List ((List UInt8) × Bool)))) y5 y4.2.2.2) fun y6 =>
  .sub (F_store_Store_Get n ([97] : List UInt8) y6.2.2.1 ([] : List ((List UInt8) × (List ((List UInt8) × Bool)))) y6.2.2.2.1 y6.2.2.2.2) fun y7 =>
  .ite (decide ((ln y6.2.1) = (1 : Int)))
  (.get (inI (List.length y6.2.1) (0 : Int)) fun y8 =>
  .get (gt y6.2.1 (0 + y8)) fun y9 =>
  .ite (decide (y9 = (1 : UInt8)))
  (.ite (decide (y6.1 = (0 : Int)))
  (.ite (decide (y7.1 = (14 : Int)))
  (.sub (F_store_Store_Dead n) fun y10 =>
  .ite y7.2.2.1
  (.sub (F_store_Store_Put_1 n ([97] : List UInt8) y7.2.2.1 ([] : List ((List UInt8) × (List ((List UInt8) × Bool)))) y7.2.2.2.1 y7.2.2.2.2) fun y11 =>
  .alt y11 (fun y12 =>
  .ret (decide (y12.1 = (14 : Int))))
  fun y13 =>
  .ret false)
  (.ret false))
  (.ret false))
  (.ret false))
  (.ret false))
  (.ret false)))
  fun y14 =>
  .ite false
  (.ret false)
  (.sub (F_store_Store_Script n (0 : Int) (0 : Int) (0 : Int) y14.1 y14.2.1 y14.2.2.2 ([((3 : Int), ((1 : Int), (([] : List UInt8), ([] : List UInt8)))), ((6 : Int), ((0 : Int), (([] : List UInt8), ([] : List UInt8))))] : List (Int × (Int × ((List UInt8) × (List UInt8)))))) fun y15 =>
  .sub (F_store_Store_Get n ([97] : List UInt8) y14.1 y14.2.1 y15 y14.2.2.2) fun y16 =>
  .sub (F_store_Store_Get n ([97] : List UInt8) y16.2.2.1 y14.2.1 y16.2.2.2.1 y16.2.2.2.2) fun y17 =>
  .ite (decide ((ln y16.2.1) = (1 : Int)))
  (.get (inI (List.length y16.2.1) (0 : Int)) fun y18 =>
  .get (gt y16.2.1 (0 + y18)) fun y19 =>
  .ite (decide (y19 = (1 : UInt8)))
  (.ite (decide (y16.1 = (0 : Int)))
  (.ite (decide (y17.1 = (14 : Int)))
  (.sub (F_store_Store_Dead n) fun y20 =>
  .ite y17.2.2.1
  (.sub (F_store_Store_Put_1 n ([97] : List UInt8) y17.2.2.1 y14.2.1 y17.2.2.2.1 y17.2.2.2.2) fun y21 =>
  .alt y21 (fun y22 =>
  .ret (decide (y22.1 = (14 : Int))))
  fun y23 =>
  .ret false)
  (.ret false))
  (.ret false))
  (.ret false))
  (.ret false))
  (.ret false))))
  fun y24 =>
  .ite false
  (.ret false)
  (.sub (F_store_Store_Put n ([97] : List UInt8) y24.1 y24.2.1 y24.2.2.1 y24.2.2.2 ([2] : List UInt8)) fun y25 =>
  .alt y25 (fun y26 =>
  .ite (!(decide (y26.1 = (0 : Int))))
  (.ret false)
  (.sub (F_store_Store_Script n (0 : Int) (0 : Int) (0 : Int) y26.2.1 y24.2.1 y26.2.2.2 ([((3 : Int), ((1 : Int), (([] : List UInt8), ([] : List UInt8)))), ((6 : Int), ((0 : Int), (([] : List UInt8), ([] : List UInt8))))] : List (Int × (Int × ((List UInt8) × (List UInt8)))))) fun y27 =>
  .sub (F_store_Store_Get n ([97] : List UInt8) y26.2.1 y24.2.1 y27 y26.2.2.2) fun y28 =>
  .sub (F_store_Store_Get n ([97] : List UInt8) y28.2.2.1 y24.2.1 y28.2.2.2.1 y28.2.2.2.2) fun y29 =>
  .ite (decide ((ln y28.2.1) = (1 : Int)))
  (.get (inI (List.length y28.2.1) (0 : Int)) fun y30 =>
  .get (gt y28.2.1 (0 + y30)) fun y31 =>
  .ite (decide (y31 = (1 : UInt8)))
  (.ite (decide (y28.1 = (0 : Int)))
  (.ite (decide (y29.1 = (14 : Int)))
  (.sub (F_store_Store_Dead n) fun y32 =>
  .ite y29.2.2.1
  (.sub (F_store_Store_Put_1 n ([97] : List UInt8) y29.2.2.1 y24.2.1 y29.2.2.2.1 y29.2.2.2.2) fun y33 =>
  .alt y33 (fun y34 =>
  .ret (decide (y34.1 = (14 : Int))))
  fun y35 =>
  .ret false)
  (.ret false))
  (.ret false))
  (.ret false))
  (.ret false))
  (.ret false)))
  fun y36 =>
  .ite false
  (.ret false)
  (.sub (F_store_Store_Script n (0 : Int) (0 : Int) (0 : Int) y36.1 y36.2.1 y36.2.2.2 ([((3 : Int), ((1 : Int), (([] : List UInt8), ([] : List UInt8)))), ((6 : Int), ((0 : Int), (([] : List UInt8), ([] : List UInt8))))] : List (Int × (Int × ((List UInt8) × (List UInt8)))))) fun y37 =>
  .sub (F_store_Store_Get n ([97] : List UInt8) y36.1 y36.2.1 y37 y36.2.2.2) fun y38 =>
  .sub (F_store_Store_Get n ([97] : List UInt8) y38.2.2.1 y36.2.1 y38.2.2.2.1 y38.2.2.2.2) fun y39 =>
  .ite (decide ((ln y38.2.1) = (1 : Int)))
  (.get (inI (List.length y38.2.1) (0 : Int)) fun y40 =>
  .get (gt y38.2.1 (0 + y40)) fun y41 =>
  .ite (decide (y41 = (1 : UInt8)))
  (.ite (decide (y38.1 = (0 : Int)))
  (.ite (decide (y39.1 = (14 : Int)))
  (.sub (F_store_Store_Dead n) fun y42 =>
  .ite y39.2.2.1
  (.sub (F_store_Store_Put_1 n ([97] : List UInt8) y39.2.2.1 y36.2.1 y39.2.2.2.1 y39.2.2.2.2) fun y43 =>
  .alt y43 (fun y44 =>
  .ret (decide (y44.1 = (14 : Int))))
  fun y45 =>
  .ret false)
  (.ret false))
  (.ret false))
  (.ret false))
  (.ret false))
  (.ret false)))
def S_w16_awake (n : Nat) : Summ := mkS ⟨[], [], 0⟩ [] fun v => .sub (F_w16_awake n) fun r => .ret ((.val .bool r), [], 0)
theorem ok_w16_awake (n : Nat) : SoundF Try.prog 17 (S_w16_awake n) :=
  fn_go true (c := codeOf Try.f17) (tab := mkTab [(45, ⟨S_store_New n, [], [], false⟩), (46, ⟨orS (S_store_Store_Put n) (S_store_Store_Put_1 n), [], [], false⟩), (56, ⟨S_store_Store_Script n, [], [], false⟩), (49, ⟨S_store_Store_Get n, [], [], false⟩), (52, ⟨S_store_Store_Dead n, [], [], false⟩)]) (cuts := mkCuts []) Try.func17 (by kernel_rfl) (.cons (ok_store_New n) ⟨_, Try.func45, by kernel_rfl⟩ (.cons (.or (ok_store_Store_Put n) (ok_store_Store_Put_1 n)) ⟨_, Try.func46, by kernel_rfl⟩ (.cons (ok_store_Store_Script n) ⟨_, Try.func56, by kernel_rfl⟩ (.cons (ok_store_Store_Get n) ⟨_, Try.func49, by kernel_rfl⟩ (.cons (ok_store_Store_Dead n) ⟨_, Try.func52, by kernel_rfl⟩ .nil))))) (.none0 (by kernel_rfl)) (fun v => by kernel_rfl)
def C_9_0 : CutF → Cut := fun κ => ⟨[3, 4, 19, 20, 21], fun e => match e with | .ex i => bif Nat.beq i 0 then [] else [] | .rt => [2] | .nm => [] | .go i => [], κ⟩
def F_w16_own (n : Nat) (x0 : List UInt8) : Tree (List UInt8) :=
  .get (appI 140737488355328 ([] : List UInt8) x0) fun y1 =>
  .ret y1
def S_w16_own (n : Nat) : Summ := mkS ⟨[(.ro false .u8 [])], [], 0⟩ [.c, .d (.list .u8)] fun v => .sub (F_w16_own n (p1 v)) fun r => .ret ((.whole 0 1), [⟨0, 1, .row .u8 r⟩], 2)
theorem ok_w16_own (n : Nat) : SoundF Try.prog 47 (S_w16_own n) :=
  fn_go false (c := codeOf Try.f47) (tab := mkTab []) (cuts := mkCuts []) Try.func47 (by kernel_rfl) .nil (.none0 (by kernel_rfl)) (fun v => by kernel_rfl)
def F_store_Store_change_1 (n : Nat) (x0 : List UInt8) (x1 : List UInt8) (x2 : Bool) (x3 : List (List UInt8 × List (List UInt8 × Bool))) (x4 : List (Int × Int × List UInt8 × List UInt8)) (x5 : List (List UInt8 × List UInt8 × Int)) : Tree (((Int) × ((Bool) × ((List (Int × Int × List UInt8 × List UInt8)) × (List (List UInt8 × List UInt8 × Int))))) ⊕ ((Bool) × ((List (List UInt8 × List (List UInt8 × Bool))) × ((List (Int × Int × List UInt8 × List UInt8)) × (List (List UInt8 × List UInt8 × Int)))))) :=
  .sub (F_store_Store_call n x0 x1 (0 : Int) x2 x4 x5) fun y6 =>
  .alt y6 (fun y7 =>
  .ite (!(decide (y7.1 = (0 : Int))))
  (.ret (.inl (y7.1, y7.2.1, x4, y7.2.2)))
  (.ite false
  (.ret (.inl ((12 : Int), y7.2.1, x4, y7.2.2)))
  (.ite false
  (.ret (.inl ((0 : Int), y7.2.1, x4, y7.2.2)))
  (.get (ite (And ((ln (mgetD .str T5 x3 x1 ([] : List ((List UInt8) × Bool)))) ≤ (ln (mgetD .str T5 x3 x1 ([] : List ((List UInt8) × Bool))))) ((ln (mgetD .str T5 x3 x1 ([] : List ((List UInt8) × Bool)))) ≤ (ln (mgetD .str T5 x3 x1 ([] : List ((List UInt8) × Bool)))))) (subI (mgetD .str T5 x3 x1 ([] : List ((List UInt8) × Bool))) (0 : Int) (ln (mgetD .str T5 x3 x1 ([] : List ((List UInt8) × Bool))))) Option.none) fun y8 =>
  .get (tightI (decide ((ln (mgetD .str T5 x3 x1 ([] : List ((List UInt8) × Bool)))) = (ln (mgetD .str T5 x3 x1 ([] : List ((List UInt8) × Bool)))))) 4398046511104 y8 ([(([] : List UInt8), false)] : List ((List UInt8) × Bool))) fun y9 =>
  .ret (.inr (y7.2.1, (mput .str T5 x3 x1 y9), x4, y7.2.2))))))
  fun y10 =>
  .ite (!(decide (y10.2.2.2.2.1 = (0 : Int))))
  (.ret (.inl (y10.2.2.2.2.1, y10.2.2.2.2.2.1, y10.2.2.2.2.2.2.1, y10.2.2.2.2.2.2.2)))
  (.ite (decide (y10.1 = (1 : Int)))
  (.ret (.inl ((12 : Int), y10.2.2.2.2.2.1, y10.2.2.2.2.2.2.1, y10.2.2.2.2.2.2.2)))
  (.ite (decide (y10.1 = (2 : Int)))
  (.ret (.inl ((0 : Int), y10.2.2.2.2.2.1, y10.2.2.2.2.2.2.1, y10.2.2.2.2.2.2.2)))
  (.get (ite (And ((ln (mgetD .str T5 x3 x1 ([] : List ((List UInt8) × Bool)))) ≤ (ln (mgetD .str T5 x3 x1 ([] : List ((List UInt8) × Bool))))) ((ln (mgetD .str T5 x3 x1 ([] : List ((List UInt8) × Bool)))) ≤ (ln (mgetD .str T5 x3 x1 ([] : List ((List UInt8) × Bool)))))) (subI (mgetD .str T5 x3 x1 ([] : List ((List UInt8) × Bool))) (0 : Int) (ln (mgetD .str T5 x3 x1 ([] : List ((List UInt8) × Bool))))) Option.none) fun y11 =>
  .get (tightI (decide ((ln (mgetD .str T5 x3 x1 ([] : List ((List UInt8) × Bool)))) = (ln (mgetD .str T5 x3 x1 ([] : List ((List UInt8) × Bool)))))) 4398046511104 y11 ([(([] : List UInt8), false)] : List ((List UInt8) × Bool))) fun y12 =>
  .ret (.inr (y10.2.2.2.2.2.1, (mput .str T5 x3 x1 y12), y10.2.2.2.2.2.2.1, y10.2.2.2.2.2.2.2)))))
def S_store_Store_change_1 (n : Nat) : Summ := mkS ⟨[(.ptr 0 0), (.val .str []), (.val .str []), (.agg (.pr (.snil (some .u8)) (.pr .ff .un)))], [⟨0, 1, .box (.agg (.pr (.mpv 2) (.pr (.agg (.pr (.val (.sint .i64) (0 : Int)) (.pr (.val (.sint .i64) (0 : Int)) (.pr (.val (.sint .i64) (0 : Int)) .un)))) (.pr (.whole 4 4) (.pr (.val .bool false) (.pr (.whole 6 3) .un))))))⟩, ⟨2, 3, .mp .str T5 []⟩, ⟨4, 5, .row T1 []⟩, ⟨6, 7, .row T6 []⟩], 8⟩ [.d .str, .d .str, .d (.sint .i64), .d (.sint .i64), .d (.sint .i64), .d .bool, .d T7, .d T2, .d T8] fun v => .sub (F_store_Store_change_1 n (p0 v) (p1 v) (p5 v) (p6 v) (p7 v) (p8 v)) fun r => .alt r (fun r => .ret ((.val (.sint .i64) r.1), [⟨0, 9, .box (.agg (.pr (.mpv 2) (.pr (.agg (.pr (.val (.sint .i64) (p2 v)) (.pr (.val (.sint .i64) (p3 v)) (.pr (.val (.sint .i64) (p4 v)) .un)))) (.pr (.whole 12 4) (.pr (.val .bool r.2.1) (.pr (.whole 14 3) .un))))))⟩, ⟨2, 3, .mp .str T5 (p6 v)⟩, ⟨12, 13, .row T1 r.2.2.1⟩, ⟨14, 15, .row T6 r.2.2.2⟩], 16)) (fun r => .ret ((.val (.sint .i64) (0 : Int)), [⟨0, 9, .box (.agg (.pr (.mpv 2) (.pr (.agg (.pr (.val (.sint .i64) (p2 v)) (.pr (.val (.sint .i64) (p3 v)) (.pr (.val (.sint .i64) (p4 v)) .un)))) (.pr (.whole 12 4) (.pr (.val .bool r.1) (.pr (.whole 14 3) .un))))))⟩, ⟨2, 11, .mp .str T5 r.2.1⟩, ⟨12, 13, .row T1 r.2.2.1⟩, ⟨14, 15, .row T6 r.2.2.2⟩], 16))
theorem ok_store_Store_change_1 (n : Nat) : SoundF Try.prog 89 (S_store_Store_change_1 n) :=
  fn_go false (c := codeOf Try.f89) (tab := mkTab [(91, ⟨S_store_Store_call n, [], [], false⟩)]) (cuts := mkCuts []) Try.func89 (by kernel_rfl) (.cons (ok_store_Store_call n) ⟨_, Try.func91, by kernel_rfl⟩ .nil) (.none0 (by kernel_rfl)) (fun v => by kernel_rfl)
def F_store_Store_Del (n : Nat) (x0 : List UInt8) (x1 : Bool) (x2 : List (List UInt8 × List (List UInt8 × Bool))) (x3 : List (Int × Int × List UInt8 × List UInt8)) (x4 : List (List UInt8 × List UInt8 × Int)) : Tree (((Int) × ((Bool) × ((List (Int × Int × List UInt8 × List UInt8)) × (List (List UInt8 × List UInt8 × Int))))) ⊕ ((Bool) × ((List (List UInt8 × List (List UInt8 × Bool))) × ((List (Int × Int × List UInt8 × List UInt8)) × (List (List UInt8 × List UInt8 × Int)))))) :=
  .sub (F_store_Named n x0) fun y5 =>
  .ite (!y5)
  (.ret (.inl ((1 : Int), x1, x3, x4)))
  (.sub (F_store_Store_change_1 n ([100, 101, 108] : List UInt8) x0 x1 x2 x3 x4) fun y6 =>
  .alt y6 (fun y7 =>
  .ret (.inl (y7.1, y7.2.1, y7.2.2.1, y7.2.2.2)))
  fun y8 =>
  .ret (.inr (y8.1, y8.2.1, y8.2.2.1, y8.2.2.2)))
def S_store_Store_Del (n : Nat) : Summ := mkS ⟨[(.ptr 0 0), (.val .str [])], [⟨0, 1, .box (.agg (.pr (.mpv 2) (.pr (.agg (.pr (.val (.sint .i64) (0 : Int)) (.pr (.val (.sint .i64) (0 : Int)) (.pr (.val (.sint .i64) (0 : Int)) .un)))) (.pr (.whole 4 4) (.pr (.val .bool false) (.pr (.whole 6 3) .un))))))⟩, ⟨2, 3, .mp .str T5 []⟩, ⟨4, 5, .row T1 []⟩, ⟨6, 7, .row T6 []⟩], 8⟩ [.d .str, .d (.sint .i64), .d (.sint .i64), .d (.sint .i64), .d .bool, .d T7, .d T2, .d T8] fun v => .sub (F_store_Store_Del n (p0 v) (p4 v) (p5 v) (p6 v) (p7 v)) fun r => .alt r (fun r => .ret ((.val (.sint .i64) r.1), [⟨0, 9, .box (.agg (.pr (.mpv 2) (.pr (.agg (.pr (.val (.sint .i64) (p1 v)) (.pr (.val (.sint .i64) (p2 v)) (.pr (.val (.sint .i64) (p3 v)) .un)))) (.pr (.whole 12 4) (.pr (.val .bool r.2.1) (.pr (.whole 14 3) .un))))))⟩, ⟨2, 3, .mp .str T5 (p5 v)⟩, ⟨12, 13, .row T1 r.2.2.1⟩, ⟨14, 15, .row T6 r.2.2.2⟩], 16)) (fun r => .ret ((.val (.sint .i64) (0 : Int)), [⟨0, 9, .box (.agg (.pr (.mpv 2) (.pr (.agg (.pr (.val (.sint .i64) (p1 v)) (.pr (.val (.sint .i64) (p2 v)) (.pr (.val (.sint .i64) (p3 v)) .un)))) (.pr (.whole 12 4) (.pr (.val .bool r.1) (.pr (.whole 14 3) .un))))))⟩, ⟨2, 11, .mp .str T5 r.2.1⟩, ⟨12, 13, .row T1 r.2.2.1⟩, ⟨14, 15, .row T6 r.2.2.2⟩], 16))
theorem ok_store_Store_Del (n : Nat) : SoundF Try.prog 48 (S_store_Store_Del n) :=
  fn_go false (c := codeOf Try.f48) (tab := mkTab [(15, ⟨S_store_Named n, [], [], false⟩), (89, ⟨S_store_Store_change_1 n, [], [], false⟩)]) (cuts := mkCuts []) Try.func48 (by kernel_rfl) (.cons (ok_store_Named n) ⟨_, Try.func15, by kernel_rfl⟩ (.cons (ok_store_Store_change_1 n) ⟨_, Try.func89, by kernel_rfl⟩ .nil)) (.none0 (by kernel_rfl)) (fun v => by kernel_rfl)
def F_w16_StoreHonest_l0 (n : Nat) : Nat → (Bool) → (List (Int × List UInt8 × List UInt8 × (Int × Int × Int) × List (Int × Int × List UInt8 × List UInt8))) → (Int) → (Int) → (Int) → (Int) → (Int) → (Bool) → (List (List UInt8 × List (List UInt8 × Bool))) → (List (Int × Int × List UInt8 × List UInt8)) → (List (List UInt8 × List UInt8 × Int)) → (List (List UInt8 × List UInt8)) → Tree (((Bool) × ((List (Int × Int × List UInt8 × List UInt8)) × (List (List UInt8 × List UInt8 × Int)))) ⊕ (((Bool) × ((List (List UInt8 × List (List UInt8 × Bool))) × ((List (Int × Int × List UInt8 × List UInt8)) × (List (List UInt8 × List UInt8 × Int))))) ⊕ (((Bool) × ((List (Int × Int × List UInt8 × List UInt8)) × (List (List UInt8 × List UInt8 × Int)))) ⊕ (((Bool) × ((List (Int × Int × List UInt8 × List UInt8)) × ((List (List UInt8 × List UInt8 × Int)) × (List (List UInt8 × List UInt8))))) ⊕ (((Bool) × ((List (List UInt8 × List (List UInt8 × Bool))) × ((List (Int × Int × List UInt8 × List UInt8)) × ((List (List UInt8 × List UInt8 × Int)) × (List (List UInt8 × List UInt8)))))) ⊕ (((Bool) × ((List (Int × Int × List UInt8 × List UInt8)) × ((List (List UInt8 × List UInt8 × Int)) × (List (List UInt8 × List UInt8))))) ⊕ (((Bool) × ((List (List UInt8 × List (List UInt8 × Bool))) × ((List (Int × Int × List UInt8 × List UInt8)) × ((List (List UInt8 × List UInt8 × Int)) × (List (List UInt8 × List UInt8)))))) ⊕ ((Bool) × ((List (List UInt8 × List (List UInt8 × Bool))) × ((List (Int × Int × List UInt8 × List UInt8)) × (List (List UInt8 × List UInt8 × Int))))))))))))
 | 0 => fun  x0 x1 x2 x3 x4 x5 x6 x7 x8 x9 x10 x11 => .fail
 | k + 1 => fun x0 x1 x2 x3 x4 x5 x6 x7 x8 x9 x10 x11 =>
  .ite (decide (x3 < x2))
  (.get (getI x1 x3) fun y12 =>
  .ite (decide (y12.1 = (0 : Int)))
  (.get (Tree.run (F_w16_own n y12.2.2.1)) fun y13 =>
  .get (Tree.run (F_store_Store_Put n y12.2.1 x7 x8 x9 x10 y13)) fun y14 =>
  .alt y14 (fun y15 =>
  .ite (decide (y15.1 = (0 : Int)))
  (.sub (F_w16_StoreHonest_l0 n k x0 x1 x2 (w64 (x3 + (1 : Int))) x4 x5 x6 y15.2.1 x8 y15.2.2.1 y15.2.2.2 (mput .str (.list .u8) x11 y12.2.1 y12.2.2.1)) fun y16 =>
  .alt y16 (fun y17 =>
  .ret (.inr (.inr (.inr (.inl (y17.1, y17.2.1, y17.2.2, (mput .str (.list .u8) x11 y12.2.1 y12.2.2.1)))))))
  fun y18 =>
  .alt y18 (fun y19 =>
  .ret (.inr (.inr (.inr (.inr (.inl (y19.1, y19.2.1, y19.2.2.1, y19.2.2.2, (mput .str (.list .u8) x11 y12.2.1 y12.2.2.1))))))))
  fun y20 =>
  .alt y20 (fun y21 =>
  .ret (.inr (.inr (.inr (.inr (.inr (.inl (y21.1, y21.2.1, y21.2.2, (mput .str (.list .u8) x11 y12.2.1 y12.2.2.1)))))))))
  fun y22 =>
  .alt y22 (fun y23 =>
  .ret (.inr (.inr (.inr (.inl (y23.1, y23.2.1, y23.2.2.1, y23.2.2.2))))))
  fun y24 =>
  .alt y24 (fun y25 =>
  .ret (.inr (.inr (.inr (.inr (.inl (y25.1, y25.2.1, y25.2.2.1, y25.2.2.2.1, y25.2.2.2.2)))))))
  fun y26 =>
  .alt y26 (fun y27 =>
  .ret (.inr (.inr (.inr (.inr (.inr (.inl (y27.1, y27.2.1, y27.2.2.1, y27.2.2.2))))))))
  fun y28 =>
  .alt y28 (fun y29 =>
  .ret (.inr (.inr (.inr (.inr (.inr (.inr (.inl (y29.1, y29.2.1, y29.2.2.1, y29.2.2.2.1, y29.2.2.2.2)))))))))
  fun y30 =>
  .ret (.inr (.inr (.inr (.inr (.inr (.inr (.inl (y30.1, y30.2.1, y30.2.2.1, y30.2.2.2, (mput .str (.list .u8) x11 y12.2.1 y12.2.2.1))))))))))
  (.sub (F_store_Named n y12.2.1) fun y31 =>
  .ite (y31 && (decide ((ln y12.2.2.1) ≤ (65536 : Int))))
  (.ret (.inl (y15.2.1, y15.2.2.1, y15.2.2.2)))
  (.sub (F_w16_StoreHonest_l0 n k x0 x1 x2 (w64 (x3 + (1 : Int))) x4 x5 x6 y15.2.1 x8 y15.2.2.1 y15.2.2.2 x11) fun y32 =>
  .alt y32 (fun y33 =>
  .ret (.inl (y33.1, y33.2.1, y33.2.2)))
  fun y34 =>
  .alt y34 (fun y35 =>
  .ret (.inr (.inl (y35.1, y35.2.1, y35.2.2.1, y35.2.2.2))))
  fun y36 =>
  .alt y36 (fun y37 =>
  .ret (.inr (.inr (.inl (y37.1, y37.2.1, y37.2.2)))))
  fun y38 =>
  .alt y38 (fun y39 =>
  .ret (.inr (.inr (.inr (.inl (y39.1, y39.2.1, y39.2.2.1, y39.2.2.2))))))
  fun y40 =>
  .alt y40 (fun y41 =>
  .ret (.inr (.inr (.inr (.inr (.inl (y41.1, y41.2.1, y41.2.2.1, y41.2.2.2.1, y41.2.2.2.2)))))))
  fun y42 =>
  .alt y42 (fun y43 =>
  .ret (.inr (.inr (.inr (.inr (.inr (.inl (y43.1, y43.2.1, y43.2.2.1, y43.2.2.2))))))))
  fun y44 =>
  .alt y44 (fun y45 =>
  .ret (.inr (.inr (.inr (.inr (.inr (.inr (.inl (y45.1, y45.2.1, y45.2.2.1, y45.2.2.2.1, y45.2.2.2.2)))))))))
  fun y46 =>
  .ret (.inr (.inr (.inr (.inr (.inr (.inr (.inr (y46.1, y46.2.1, y46.2.2.1, y46.2.2.2)))))))))))
  fun y47 =>
  .ite true
  (.sub (F_w16_StoreHonest_l0 n k x0 x1 x2 (w64 (x3 + (1 : Int))) x4 x5 x6 y47.1 y47.2.1 y47.2.2.1 y47.2.2.2 (mput .str (.list .u8) x11 y12.2.1 y12.2.2.1)) fun y48 =>
  .alt y48 (fun y49 =>
  .ret (.inr (.inr (.inr (.inr (.inl (y49.1, y47.2.1, y49.2.1, y49.2.2, (mput .str (.list .u8) x11 y12.2.1 y12.2.2.1))))))))
  fun y50 =>
  .alt y50 (fun y51 =>
  .ret (.inr (.inr (.inr (.inr (.inl (y51.1, y51.2.1, y51.2.2.1, y51.2.2.2, (mput .str (.list .u8) x11 y12.2.1 y12.2.2.1))))))))
  fun y52 =>
  .alt y52 (fun y53 =>
  .ret (.inr (.inr (.inr (.inr (.inr (.inr (.inl (y53.1, y47.2.1, y53.2.1, y53.2.2, (mput .str (.list .u8) x11 y12.2.1 y12.2.2.1))))))))))
  fun y54 =>
  .alt y54 (fun y55 =>
  .ret (.inr (.inr (.inr (.inr (.inl (y55.1, y47.2.1, y55.2.1, y55.2.2.1, y55.2.2.2)))))))
  fun y56 =>
  .alt y56 (fun y57 =>
  .ret (.inr (.inr (.inr (.inr (.inl (y57.1, y57.2.1, y57.2.2.1, y57.2.2.2.1, y57.2.2.2.2)))))))
  fun y58 =>
  .alt y58 (fun y59 =>
  .ret (.inr (.inr (.inr (.inr (.inr (.inr (.inl (y59.1, y47.2.1, y59.2.1, y59.2.2.1, y59.2.2.2)))))))))
  fun y60 =>
  .alt y60 (fun y61 =>
  .ret (.inr (.inr (.inr (.inr (.inr (.inr (.inl (y61.1, y61.2.1, y61.2.2.1, y61.2.2.2.1, y61.2.2.2.2)))))))))
  fun y62 =>
  .ret (.inr (.inr (.inr (.inr (.inr (.inr (.inl (y62.1, y62.2.1, y62.2.2.1, y62.2.2.2, (mput .str (.list .u8) x11 y12.2.1 y12.2.2.1))))))))))
  (.sub (F_store_Named n y12.2.1) fun y63 =>
  .ite (y63 && (decide ((ln y12.2.2.1) ≤ (65536 : Int))))
  (.ret (.inr (.inl (y47.1, y47.2.1, y47.2.2.1, y47.2.2.2))))
  (.sub (F_w16_StoreHonest_l0 n k x0 x1 x2 (w64 (x3 + (1 : Int))) x4 x5 x6 y47.1 y47.2.1 y47.2.2.1 y47.2.2.2 x11) fun y64 =>
  .alt y64 (fun y65 =>
  .ret (.inr (.inl (y65.1, y47.2.1, y65.2.1, y65.2.2))))
  fun y66 =>
  .alt y66 (fun y67 =>
  .ret (.inr (.inl (y67.1, y67.2.1, y67.2.2.1, y67.2.2.2))))
  fun y68 =>
  .alt y68 (fun y69 =>
  .ret (.inr (.inr (.inr (.inr (.inr (.inr (.inr (y69.1, y47.2.1, y69.2.1, y69.2.2)))))))))
  fun y70 =>
  .alt y70 (fun y71 =>
  .ret (.inr (.inr (.inr (.inr (.inl (y71.1, y47.2.1, y71.2.1, y71.2.2.1, y71.2.2.2)))))))
  fun y72 =>
  .alt y72 (fun y73 =>
  .ret (.inr (.inr (.inr (.inr (.inl (y73.1, y73.2.1, y73.2.2.1, y73.2.2.2.1, y73.2.2.2.2)))))))
  fun y74 =>
  .alt y74 (fun y75 =>
  .ret (.inr (.inr (.inr (.inr (.inr (.inr (.inl (y75.1, y47.2.1, y75.2.1, y75.2.2.1, y75.2.2.2)))))))))
  fun y76 =>
  .alt y76 (fun y77 =>
  .ret (.inr (.inr (.inr (.inr (.inr (.inr (.inl (y77.1, y77.2.1, y77.2.2.1, y77.2.2.2.1, y77.2.2.2.2)))))))))
  fun y78 =>
  .ret (.inr (.inr (.inr (.inr (.inr (.inr (.inr (y78.1, y78.2.1, y78.2.2.1, y78.2.2.2)))))))))))
  (.ite (decide (y12.1 = (1 : Int)))
  (.get (Tree.run (F_store_Store_Del n y12.2.1 x7 x8 x9 x10)) fun y79 =>
  .alt y79 (fun y80 =>
  .get (Tree.run (F_store_Named n y12.2.1)) fun y81 =>
  .ite (!(BEq.beq (decide (y80.1 = (0 : Int))) y81))
  (.ret (.inl (y80.2.1, y80.2.2.1, y80.2.2.2)))
  (.sub (F_w16_StoreHonest_l0 n k x0 x1 x2 (w64 (x3 + (1 : Int))) x4 x5 x6 y80.2.1 x8 y80.2.2.1 y80.2.2.2 (mdel .str (.list .u8) x11 y12.2.1)) fun y82 =>
  .alt y82 (fun y83 =>
  .ret (.inr (.inr (.inr (.inl (y83.1, y83.2.1, y83.2.2, (mdel .str (.list .u8) x11 y12.2.1)))))))
  fun y84 =>
  .alt y84 (fun y85 =>
  .ret (.inr (.inr (.inr (.inr (.inl (y85.1, y85.2.1, y85.2.2.1, y85.2.2.2, (mdel .str (.list .u8) x11 y12.2.1))))))))
  fun y86 =>
  .alt y86 (fun y87 =>
  .ret (.inr (.inr (.inr (.inr (.inr (.inl (y87.1, y87.2.1, y87.2.2, (mdel .str (.list .u8) x11 y12.2.1)))))))))
  fun y88 =>
  .alt y88 (fun y89 =>
  .ret (.inr (.inr (.inr (.inl (y89.1, y89.2.1, y89.2.2.1, y89.2.2.2))))))
  fun y90 =>
  .alt y90 (fun y91 =>
  .ret (.inr (.inr (.inr (.inr (.inl (y91.1, y91.2.1, y91.2.2.1, y91.2.2.2.1, y91.2.2.2.2)))))))
  fun y92 =>
  .alt y92 (fun y93 =>
  .ret (.inr (.inr (.inr (.inr (.inr (.inl (y93.1, y93.2.1, y93.2.2.1, y93.2.2.2))))))))
  fun y94 =>
  .alt y94 (fun y95 =>
  .ret (.inr (.inr (.inr (.inr (.inr (.inr (.inl (y95.1, y95.2.1, y95.2.2.1, y95.2.2.2.1, y95.2.2.2.2)))))))))
  fun y96 =>
  .ret (.inr (.inr (.inr (.inr (.inr (.inr (.inl (y96.1, y96.2.1, y96.2.2.1, y96.2.2.2, (mdel .str (.list .u8) x11 y12.2.1)))))))))))
  fun y97 =>
  .get (Tree.run (F_store_Named n y12.2.1)) fun y98 =>
  .ite (!(BEq.beq true y98))
  (.ret (.inr (.inl (y97.1, y97.2.1, y97.2.2.1, y97.2.2.2))))
  (.sub (F_w16_StoreHonest_l0 n k x0 x1 x2 (w64 (x3 + (1 : Int))) x4 x5 x6 y97.1 y97.2.1 y97.2.2.1 y97.2.2.2 (mdel .str (.list .u8) x11 y12.2.1)) fun y99 =>
  .alt y99 (fun y100 =>
  .ret (.inr (.inr (.inr (.inr (.inl (y100.1, y97.2.1, y100.2.1, y100.2.2, (mdel .str (.list .u8) x11 y12.2.1))))))))
  fun y101 =>
  .alt y101 (fun y102 =>
  .ret (.inr (.inr (.inr (.inr (.inl (y102.1, y102.2.1, y102.2.2.1, y102.2.2.2, (mdel .str (.list .u8) x11 y12.2.1))))))))
  fun y103 =>
  .alt y103 (fun y104 =>
  .ret (.inr (.inr (.inr (.inr (.inr (.inr (.inl (y104.1, y97.2.1, y104.2.1, y104.2.2, (mdel .str (.list .u8) x11 y12.2.1))))))))))
  fun y105 =>
  .alt y105 (fun y106 =>
  .ret (.inr (.inr (.inr (.inr (.inl (y106.1, y97.2.1, y106.2.1, y106.2.2.1, y106.2.2.2)))))))
  fun y107 =>
  .alt y107 (fun y108 =>
  .ret (.inr (.inr (.inr (.inr (.inl (y108.1, y108.2.1, y108.2.2.1, y108.2.2.2.1, y108.2.2.2.2)))))))
  fun y109 =>
  .alt y109 (fun y110 =>
  .ret (.inr (.inr (.inr (.inr (.inr (.inr (.inl (y110.1, y97.2.1, y110.2.1, y110.2.2.1, y110.2.2.2)))))))))
  fun y111 =>
  .alt y111 (fun y112 =>
  .ret (.inr (.inr (.inr (.inr (.inr (.inr (.inl (y112.1, y112.2.1, y112.2.2.1, y112.2.2.2.1, y112.2.2.2.2)))))))))
  fun y113 =>
  .ret (.inr (.inr (.inr (.inr (.inr (.inr (.inl (y113.1, y113.2.1, y113.2.2.1, y113.2.2.2, (mdel .str (.list .u8) x11 y12.2.1)))))))))))
  (.sub (F_store_Store_Get n y12.2.1 x7 x8 x9 x10) fun y114 =>
  .ite (!(BEq.beq (decide (y114.1 = (0 : Int))) (Option.isSome (mget .str (.list .u8) x11 y12.2.1))))
  (.ret (.inl (y114.2.2.1, y114.2.2.2.1, y114.2.2.2.2)))
  (.ite (!(decide (y114.2.1 = (mgetD .str (.list .u8) x11 y12.2.1 ([] : List UInt8)))))
  (.ret (.inl (y114.2.2.1, y114.2.2.2.1, y114.2.2.2.2)))
  (.sub (F_store_Named n y12.2.1) fun y115 =>
  .ite (y115 && ((!(Option.isSome (mget .str (.list .u8) x11 y12.2.1))) && (!(decide (y114.1 = (11 : Int))))))
  (.ret (.inl (y114.2.2.1, y114.2.2.2.1, y114.2.2.2.2)))
  (.sub (F_w16_StoreHonest_l0 n k x0 x1 x2 (w64 (x3 + (1 : Int))) x4 x5 x6 y114.2.2.1 x8 y114.2.2.2.1 y114.2.2.2.2 x11) fun y116 =>
  .alt y116 (fun y117 =>
  .ret (.inl (y117.1, y117.2.1, y117.2.2)))
  fun y118 =>
  .alt y118 (fun y119 =>
  .ret (.inr (.inl (y119.1, y119.2.1, y119.2.2.1, y119.2.2.2))))
  fun y120 =>
  .alt y120 (fun y121 =>
  .ret (.inr (.inr (.inl (y121.1, y121.2.1, y121.2.2)))))
  fun y122 =>
  .alt y122 (fun y123 =>
  .ret (.inr (.inr (.inr (.inl (y123.1, y123.2.1, y123.2.2.1, y123.2.2.2))))))
  fun y124 =>
  .alt y124 (fun y125 =>
  .ret (.inr (.inr (.inr (.inr (.inl (y125.1, y125.2.1, y125.2.2.1, y125.2.2.2.1, y125.2.2.2.2)))))))
  fun y126 =>
  .alt y126 (fun y127 =>
  .ret (.inr (.inr (.inr (.inr (.inr (.inl (y127.1, y127.2.1, y127.2.2.1, y127.2.2.2))))))))
  fun y128 =>
  .alt y128 (fun y129 =>
  .ret (.inr (.inr (.inr (.inr (.inr (.inr (.inl (y129.1, y129.2.1, y129.2.2.1, y129.2.2.2.1, y129.2.2.2.2)))))))))
  fun y130 =>
  .ret (.inr (.inr (.inr (.inr (.inr (.inr (.inr (y130.1, y130.2.1, y130.2.2.1, y130.2.2.2))))))))))))))
  (.ret (.inr (.inr (.inl (x7, x9, x10)))))
def S_w16_StoreHonest_l0 (n k : Nat) : CutF := mkS ⟨[(.ptr 0 0), (.mpv 8), (.ro false T3 []), (.val (.sint .i64) (0 : Int)), (.val (.sint .i64) (0 : Int))], [⟨0, 1, .box (.agg (.pr (.mpv 2) (.pr (.agg (.pr (.val (.sint .i64) (0 : Int)) (.pr (.val (.sint .i64) (0 : Int)) (.pr (.val (.sint .i64) (0 : Int)) .un)))) (.pr (.whole 4 4) (.pr (.val .bool false) (.pr (.whole 6 3) .un))))))⟩, ⟨2, 3, .mp .str T5 []⟩, ⟨4, 5, .row T1 []⟩, ⟨6, 7, .row T6 []⟩, ⟨8, 9, .mp .str (.list .u8) []⟩], 10⟩ [.c, .d T4, .d (.sint .i64), .d (.sint .i64), .d (.sint .i64), .d (.sint .i64), .d (.sint .i64), .d .bool, .d T7, .d T2, .d T8, .d T9] fun v => .sub (F_w16_StoreHonest_l0 n k (p0 v) (p1 v) (p2 v) (p3 v) (p4 v) (p5 v) (p6 v) (p7 v) (p8 v) (p9 v) (p10 v) (p11 v)) fun r => .alt r (fun r => .ret (.rt, [(.val .bool false)], [⟨0, 11, .box (.agg (.pr (.mpv 2) (.pr (.agg (.pr (.val (.sint .i64) (p4 v)) (.pr (.val (.sint .i64) (p5 v)) (.pr (.val (.sint .i64) (p6 v)) .un)))) (.pr (.whole 14 4) (.pr (.val .bool r.1) (.pr (.whole 16 3) .un))))))⟩, ⟨2, 3, .mp .str T5 (p8 v)⟩, ⟨14, 15, .row T1 r.2.1⟩, ⟨16, 17, .row T6 r.2.2⟩, ⟨8, 9, .mp .str (.list .u8) (p11 v)⟩], 20)) (fun r => .alt r (fun r => .ret (.rt, [(.val .bool false)], [⟨0, 11, .box (.agg (.pr (.mpv 2) (.pr (.agg (.pr (.val (.sint .i64) (p4 v)) (.pr (.val (.sint .i64) (p5 v)) (.pr (.val (.sint .i64) (p6 v)) .un)))) (.pr (.whole 14 4) (.pr (.val .bool r.1) (.pr (.whole 16 3) .un))))))⟩, ⟨2, 13, .mp .str T5 r.2.1⟩, ⟨14, 15, .row T1 r.2.2.1⟩, ⟨16, 17, .row T6 r.2.2.2⟩, ⟨8, 9, .mp .str (.list .u8) (p11 v)⟩], 20)) (fun r => .alt r (fun r => .ret (.ex 0, [], [⟨0, 11, .box (.agg (.pr (.mpv 2) (.pr (.agg (.pr (.val (.sint .i64) (p4 v)) (.pr (.val (.sint .i64) (p5 v)) (.pr (.val (.sint .i64) (p6 v)) .un)))) (.pr (.whole 14 4) (.pr (.val .bool r.1) (.pr (.whole 16 3) .un))))))⟩, ⟨2, 3, .mp .str T5 (p8 v)⟩, ⟨14, 15, .row T1 r.2.1⟩, ⟨16, 17, .row T6 r.2.2⟩, ⟨8, 9, .mp .str (.list .u8) (p11 v)⟩], 20)) (fun r => .alt r (fun r => .ret (.rt, [(.val .bool false)], [⟨0, 11, .box (.agg (.pr (.mpv 2) (.pr (.agg (.pr (.val (.sint .i64) (p4 v)) (.pr (.val (.sint .i64) (p5 v)) (.pr (.val (.sint .i64) (p6 v)) .un)))) (.pr (.whole 14 4) (.pr (.val .bool r.1) (.pr (.whole 16 3) .un))))))⟩, ⟨2, 3, .mp .str T5 (p8 v)⟩, ⟨14, 15, .row T1 r.2.1⟩, ⟨16, 17, .row T6 r.2.2.1⟩, ⟨8, 19, .mp .str (.list .u8) r.2.2.2⟩], 20)) (fun r => .alt r (fun r => .ret (.rt, [(.val .bool false)], [⟨0, 11, .box (.agg (.pr (.mpv 2) (.pr (.agg (.pr (.val (.sint .i64) (p4 v)) (.pr (.val (.sint .i64) (p5 v)) (.pr (.val (.sint .i64) (p6 v)) .un)))) (.pr (.whole 14 4) (.pr (.val .bool r.1) (.pr (.whole 16 3) .un))))))⟩, ⟨2, 13, .mp .str T5 r.2.1⟩, ⟨14, 15, .row T1 r.2.2.1⟩, ⟨16, 17, .row T6 r.2.2.2.1⟩, ⟨8, 19, .mp .str (.list .u8) r.2.2.2.2⟩], 20)) (fun r => .alt r (fun r => .ret (.ex 0, [], [⟨0, 11, .box (.agg (.pr (.mpv 2) (.pr (.agg (.pr (.val (.sint .i64) (p4 v)) (.pr (.val (.sint .i64) (p5 v)) (.pr (.val (.sint .i64) (p6 v)) .un)))) (.pr (.whole 14 4) (.pr (.val .bool r.1) (.pr (.whole 16 3) .un))))))⟩, ⟨2, 3, .mp .str T5 (p8 v)⟩, ⟨14, 15, .row T1 r.2.1⟩, ⟨16, 17, .row T6 r.2.2.1⟩, ⟨8, 19, .mp .str (.list .u8) r.2.2.2⟩], 20)) (fun r => .alt r (fun r => .ret (.ex 0, [], [⟨0, 11, .box (.agg (.pr (.mpv 2) (.pr (.agg (.pr (.val (.sint .i64) (p4 v)) (.pr (.val (.sint .i64) (p5 v)) (.pr (.val (.sint .i64) (p6 v)) .un)))) (.pr (.whole 14 4) (.pr (.val .bool r.1) (.pr (.whole 16 3) .un))))))⟩, ⟨2, 13, .mp .str T5 r.2.1⟩, ⟨14, 15, .row T1 r.2.2.1⟩, ⟨16, 17, .row T6 r.2.2.2.1⟩, ⟨8, 19, .mp .str (.list .u8) r.2.2.2.2⟩], 20)) (fun r => .ret (.ex 0, [], [⟨0, 11, .box (.agg (.pr (.mpv 2) (.pr (.agg (.pr (.val (.sint .i64) (p4 v)) (.pr (.val (.sint .i64) (p5 v)) (.pr (.val (.sint .i64) (p6 v)) .un)))) (.pr (.whole 14 4) (.pr (.val .bool r.1) (.pr (.whole 16 3) .un))))))⟩, ⟨2, 13, .mp .str T5 r.2.1⟩, ⟨14, 15, .row T1 r.2.2.1⟩, ⟨16, 17, .row T6 r.2.2.2⟩, ⟨8, 9, .mp .str (.list .u8) (p11 v)⟩], 20))))))))
theorem rd_w16_StoreHonest_l0 (n k : Nat) : Rounds Try.prog (Go.Func.ntmps Try.f9) (bodyOf Try.f9 0) C_9_0 [S_w16_StoreHonest_l0 n k] (S_w16_StoreHonest_l0 n (k + 1)) :=
  rounds_go (tab := mkTab [(47, ⟨S_w16_own n, [], [], false⟩), (46, ⟨S_store_Store_Put n, [], [], false⟩), (15, ⟨S_store_Named n, [], [], false⟩), (48, ⟨S_store_Store_Del n, [], [], false⟩), (49, ⟨S_store_Store_Get n, [], [], false⟩)]) (cuts := mkCuts []) (S_w16_StoreHonest_l0 n k) [] (.cons (ok_w16_own n) ⟨_, Try.func47, by kernel_rfl⟩ (.cons (ok_store_Store_Put n) ⟨_, Try.func46, by kernel_rfl⟩ (.cons (ok_store_Named n) ⟨_, Try.func15, by kernel_rfl⟩ (.cons (ok_store_Store_Del n) ⟨_, Try.func48, by kernel_rfl⟩ (.cons (ok_store_Store_Get n) ⟨_, Try.func49, by kernel_rfl⟩ .nil))))) (.none0 (by kernel_rfl)) rfl (fun v => by kernel_rfl)
theorem ok_w16_StoreHonest_l0 (n k : Nat) : SoundC Try.prog (Go.Func.ntmps Try.f9) (.loop (bodyOf Try.f9 0)) (wr (bodyOf Try.f9 0)) (C_9_0 (S_w16_StoreHonest_l0 n k)) :=
  loop_go (K := fun k => [S_w16_StoreHonest_l0 n k]) (fun _ => rfl) (by kernel_rfl) ⟨z_go fun _ => by kernel_rfl, trivial⟩ (fun k => ⟨rd_w16_StoreHonest_l0 n k, trivial⟩) k rfl
def C_50_1 : CutF → Cut := fun κ => ⟨[0, 6, 31], fun e => match e with | .ex i => bif Nat.beq i 1 then [6] else [] | .rt => [] | .nm => [] | .go i => [], κ⟩
def F_store_Store_List_l1 (n : Nat) : Nat → (Int) → (Int) → (Int) → (Bool) → (List (List UInt8 × List (List UInt8 × Bool))) → (List (Int × Int × List UInt8 × List UInt8)) → (List (List UInt8 × List UInt8 × Int)) → (List (List UInt8)) → (List (List UInt8 × List (List UInt8 × Bool))) → Tree ((List (List UInt8 × List (List UInt8 × Bool))) ⊕ ((List (List UInt8)) × (List (List UInt8 × List (List UInt8 × Bool)))))
 | 0 => fun  x0 x1 x2 x3 x4 x5 x6 x7 x8 => .fail
 | k + 1 => fun x0 x1 x2 x3 x4 x5 x6 x7 x8 =>
  .ite (List.isEmpty x8)
  (.ret (.inl x8))
  (.all (fun (p9 : (((List UInt8) × (List ((List UInt8) × Bool))) × (List ((List UInt8) × (List ((List UInt8) × Bool)))))) => (List.Perm (p9.1 :: p9.2) x8)) fun y10 =>
  .sub (F_store_Store_stood n y10.1.1 (0 : Int) x4) fun y11 =>
  .alt y11 (fun y12 =>
  .ite false
  (.get (appI 8796093022208 x7 (List.set ([([] : List UInt8)] : List (List UInt8)) 0 y10.1.1)) fun y13 =>
  .sub (F_store_Store_List_l1 n k x0 x1 x2 x3 x4 x5 x6 y13 y10.2) fun y14 =>
  .alt y14 (fun y15 =>
  .ret (.inr (y13, y15)))
  fun y16 =>
  .ret (.inr (y16.1, y16.2)))
  (.sub (F_store_Store_List_l1 n k x0 x1 x2 x3 x4 x5 x6 x7 y10.2) fun y17 =>
  .alt y17 (fun y18 =>
  .ret (.inl y18))
  fun y19 =>
  .ret (.inr (y19.1, y19.2))))
  fun y20 =>
  .ite y20.2
  (.get (appI 8796093022208 x7 (List.set ([([] : List UInt8)] : List (List UInt8)) 0 y10.1.1)) fun y21 =>
  .sub (F_store_Store_List_l1 n k x0 x1 x2 x3 x4 x5 x6 y21 y10.2) fun y22 =>
  .alt y22 (fun y23 =>
  .ret (.inr (y21, y23)))
  fun y24 =>
  .ret (.inr (y24.1, y24.2)))
  (.sub (F_store_Store_List_l1 n k x0 x1 x2 x3 x4 x5 x6 x7 y10.2) fun y25 =>
  .alt y25 (fun y26 =>
  .ret (.inl y26))
  fun y27 =>
  .ret (.inr (y27.1, y27.2))))
def S_store_Store_List_l1 (n k : Nat) : CutF := mkS ⟨[(.ptr 0 0), (.whole 8 1), (.ptr 10 0)], [⟨0, 1, .box (.agg (.pr (.mpv 2) (.pr (.agg (.pr (.val (.sint .i64) (0 : Int)) (.pr (.val (.sint .i64) (0 : Int)) (.pr (.val (.sint .i64) (0 : Int)) .un)))) (.pr (.whole 4 4) (.pr (.val .bool false) (.pr (.whole 6 3) .un))))))⟩, ⟨2, 3, .mp .str T5 []⟩, ⟨4, 5, .row T1 []⟩, ⟨6, 7, .row T6 []⟩, ⟨8, 9, .row .str []⟩, ⟨10, 11, .it 2 3 .str T5 []⟩], 12⟩ [.d (.sint .i64), .d (.sint .i64), .d (.sint .i64), .d .bool, .d T7, .d T2, .d T8, .d (.list .str), .d T7] fun v => .sub (F_store_Store_List_l1 n k (p0 v) (p1 v) (p2 v) (p3 v) (p4 v) (p5 v) (p6 v) (p7 v) (p8 v)) fun r => .alt r (fun r => .ret (.ex 1, [(.whole 8 1)], [⟨8, 13, .row .str (p7 v)⟩, ⟨0, 15, .box (.agg (.pr (.mpv 2) (.pr (.agg (.pr (.val (.sint .i64) (p0 v)) (.pr (.val (.sint .i64) (p1 v)) (.pr (.val (.sint .i64) (p2 v)) .un)))) (.pr (.whole 18 4) (.pr (.val .bool (p3 v)) (.pr (.whole 20 3) .un))))))⟩, ⟨2, 3, .mp .str T5 (p4 v)⟩, ⟨18, 19, .row T1 (p5 v)⟩, ⟨20, 21, .row T6 (p6 v)⟩, ⟨10, 23, .it 2 3 .str T5 r⟩], 24)) (fun r => .ret (.ex 1, [(.whole 12 1)], [⟨12, 13, .row .str r.1⟩, ⟨0, 15, .box (.agg (.pr (.mpv 2) (.pr (.agg (.pr (.val (.sint .i64) (p0 v)) (.pr (.val (.sint .i64) (p1 v)) (.pr (.val (.sint .i64) (p2 v)) .un)))) (.pr (.whole 18 4) (.pr (.val .bool (p3 v)) (.pr (.whole 20 3) .un))))))⟩, ⟨2, 3, .mp .str T5 (p4 v)⟩, ⟨18, 19, .row T1 (p5 v)⟩, ⟨20, 21, .row T6 (p6 v)⟩, ⟨10, 23, .it 2 3 .str T5 r.2⟩], 24))
theorem rd_store_Store_List_l1 (n k : Nat) : Rounds Try.prog (Go.Func.ntmps Try.f50) (bodyOf Try.f50 1) C_50_1 [S_store_Store_List_l1 n k] (S_store_Store_List_l1 n (k + 1)) :=
  rounds_go (tab := mkTab [(92, ⟨S_store_Store_stood n, [], [], false⟩)]) (cuts := mkCuts []) (S_store_Store_List_l1 n k) [] (.cons (ok_store_Store_stood n) ⟨_, Try.func92, by kernel_rfl⟩ .nil) (.none0 (by kernel_rfl)) rfl (fun v => by kernel_rfl)
theorem ok_store_Store_List_l1 (n k : Nat) : SoundC Try.prog (Go.Func.ntmps Try.f50) (.loop (bodyOf Try.f50 1)) (wr (bodyOf Try.f50 1)) (C_50_1 (S_store_Store_List_l1 n k)) :=
  loop_go (K := fun k => [S_store_Store_List_l1 n k]) (fun _ => rfl) (by kernel_rfl) ⟨z_go fun _ => by kernel_rfl, trivial⟩ (fun k => ⟨rd_store_Store_List_l1 n k, trivial⟩) k rfl
def F_store_Store_List (n : Nat) (x0 : Int) (x1 : Int) (x2 : Int) (x3 : Bool) (x4 : List (List UInt8 × List (List UInt8 × Bool))) (x5 : List (Int × Int × List UInt8 × List UInt8)) (x6 : List (List UInt8 × List UInt8 × Int)) : Tree (((Int) × ((Bool) × ((List (Int × Int × List UInt8 × List UInt8)) × (List (List UInt8 × List UInt8 × Int))))) ⊕ ((List (List UInt8)) × ((Bool) × ((List (Int × Int × List UInt8 × List UInt8)) × (List (List UInt8 × List UInt8 × Int)))))) :=
  .sub (F_store_Store_call n ([108, 105, 115, 116] : List UInt8) ([] : List UInt8) (0 : Int) x3 x5 x6) fun y7 =>
  .alt y7 (fun y8 =>
  .ite (!(decide (y8.1 = (0 : Int))))
  (.ret (.inl (y8.1, y8.2.1, x5, y8.2.2)))
  (.ite false
  (.ret (.inl ((12 : Int), y8.2.1, x5, y8.2.2)))
  (.ite false
  (.ret (.inl ((0 : Int), y8.2.1, x5, y8.2.2)))
  (.sub (F_store_Store_List_l1 n n x0 x1 x2 y8.2.1 x4 x5 y8.2.2 ([] : List (List UInt8)) x4) fun y9 =>
  .alt y9 (fun y10 =>
  .get (sortI ([] : List (List UInt8))) fun y11 =>
  .ret (.inr (y11, y8.2.1, x5, y8.2.2)))
  fun y12 =>
  .get (sortI y12.1) fun y13 =>
  .ret (.inr (y13, y8.2.1, x5, y8.2.2))))))
  fun y14 =>
  .ite (!(decide (y14.2.2.2.2.1 = (0 : Int))))
  (.ret (.inl (y14.2.2.2.2.1, y14.2.2.2.2.2.1, y14.2.2.2.2.2.2.1, y14.2.2.2.2.2.2.2)))
  (.ite (decide (y14.1 = (1 : Int)))
  (.ret (.inl ((12 : Int), y14.2.2.2.2.2.1, y14.2.2.2.2.2.2.1, y14.2.2.2.2.2.2.2)))
  (.ite (decide (y14.1 = (2 : Int)))
  (.ret (.inl ((0 : Int), y14.2.2.2.2.2.1, y14.2.2.2.2.2.2.1, y14.2.2.2.2.2.2.2)))
  (.sub (F_store_Store_List_l1 n n x0 x1 x2 y14.2.2.2.2.2.1 x4 y14.2.2.2.2.2.2.1 y14.2.2.2.2.2.2.2 ([] : List (List UInt8)) x4) fun y15 =>
  .alt y15 (fun y16 =>
  .get (sortI ([] : List (List UInt8))) fun y17 =>
  .ret (.inr (y17, y14.2.2.2.2.2.1, y14.2.2.2.2.2.2.1, y14.2.2.2.2.2.2.2)))
  fun y18 =>
  .get (sortI y18.1) fun y19 =>
  .ret (.inr (y19, y14.2.2.2.2.2.1, y14.2.2.2.2.2.2.1, y14.2.2.2.2.2.2.2)))))
def S_store_Store_List (n : Nat) : Summ := mkS ⟨[(.ptr 0 0)], [⟨0, 1, .box (.agg (.pr (.mpv 2) (.pr (.agg (.pr (.val (.sint .i64) (0 : Int)) (.pr (.val (.sint .i64) (0 : Int)) (.pr (.val (.sint .i64) (0 : Int)) .un)))) (.pr (.whole 4 4) (.pr (.val .bool false) (.pr (.whole 6 3) .un))))))⟩, ⟨2, 3, .mp .str T5 []⟩, ⟨4, 5, .row T1 []⟩, ⟨6, 7, .row T6 []⟩], 8⟩ [.d (.sint .i64), .d (.sint .i64), .d (.sint .i64), .d .bool, .d T7, .d T2, .d T8] fun v => .sub (F_store_Store_List n (p0 v) (p1 v) (p2 v) (p3 v) (p4 v) (p5 v) (p6 v)) fun r => .alt r (fun r => .ret ((.tup (.pr (.whole 8 1) (.pr (.val (.sint .i64) r.1) .un))), [⟨8, 9, .row .str ([] : List (List UInt8))⟩, ⟨0, 11, .box (.agg (.pr (.mpv 2) (.pr (.agg (.pr (.val (.sint .i64) (p0 v)) (.pr (.val (.sint .i64) (p1 v)) (.pr (.val (.sint .i64) (p2 v)) .un)))) (.pr (.whole 14 4) (.pr (.val .bool r.2.1) (.pr (.whole 16 3) .un))))))⟩, ⟨2, 3, .mp .str T5 (p4 v)⟩, ⟨14, 15, .row T1 r.2.2.1⟩, ⟨16, 17, .row T6 r.2.2.2⟩], 18)) (fun r => .ret ((.tup (.pr (.whole 8 1) (.pr (.val (.sint .i64) (0 : Int)) .un))), [⟨8, 9, .row .str r.1⟩, ⟨0, 11, .box (.agg (.pr (.mpv 2) (.pr (.agg (.pr (.val (.sint .i64) (p0 v)) (.pr (.val (.sint .i64) (p1 v)) (.pr (.val (.sint .i64) (p2 v)) .un)))) (.pr (.whole 14 4) (.pr (.val .bool r.2.1) (.pr (.whole 16 3) .un))))))⟩, ⟨2, 13, .mp .str T5 (p4 v)⟩, ⟨14, 15, .row T1 r.2.2.1⟩, ⟨16, 17, .row T6 r.2.2.2⟩], 18))
theorem ok_store_Store_List (n : Nat) : SoundF Try.prog 50 (S_store_Store_List n) :=
  fn_go false (c := codeOf Try.f50) (tab := mkTab [(91, ⟨S_store_Store_call n, [], [], false⟩), (93, ⟨S_sortStr, [], [], false⟩)]) (cuts := mkCuts [(1, C_50_1 (S_store_Store_List_l1 n n))]) Try.func50 (by kernel_rfl) (.cons (ok_store_Store_call n) ⟨_, Try.func91, by kernel_rfl⟩ (.consE ok_sortStrC .nil)) (CutsOK.list (l := [(1, .lp (bodyOf Try.f50 1))]) (by kernel_rfl) (LoopsOK.all ⟨.inr ⟨_, rfl, ok_store_Store_List_l1 n n⟩, trivial⟩)) (fun v => by kernel_rfl)
def F_w16_StoreHonest (n : Nat) (x0 : Bool) (x1 : List (Int × List UInt8 × List UInt8 × (Int × Int × Int) × List (Int × Int × List UInt8 × List UInt8))) : Tree Bool :=
  .sub (F_w16_few n x0 x1) fun y2 =>
  .ite (!y2)
  (.sub (F_w16_awake n) fun y3 =>
  .ret y3)
  (.sub (F_store_New n) fun y4 =>
  .sub (F_w16_StoreHonest_l0 n n x0 x1 (ln x1) (0 : Int) (0 : Int) (0 : Int) (0 : Int) false ([] : List ((List UInt8) × (List ((List UInt8) × Bool)))) ([] : List (Int × (Int × ((List UInt8) × (List UInt8))))) ([] : List ((List UInt8) × ((List UInt8) × Int))) ([] : List ((List UInt8) × (List UInt8)))) fun y5 =>
  .alt y5 (fun y6 =>
  .ret false)
  fun y7 =>
  .alt y7 (fun y8 =>
  .ret false)
  fun y9 =>
  .alt y9 (fun y10 =>
  .sub (F_store_Store_List n (0 : Int) (0 : Int) (0 : Int) y10.1 ([] : List ((List UInt8) × (List ((List UInt8) × Bool)))) y10.2.1 y10.2.2) fun y11 =>
  .alt y11 (fun y12 =>
  .ite (decide (y12.1 = (0 : Int)))
  (.ite (decide ((0 : Int) = (0 : Int)))
  (.sub (F_w16_awake n) fun y13 =>
  .ret y13)
  (.ret false))
  (.ret false))
  fun y14 =>
  .ite true
  (.ite (decide ((ln y14.1) = (0 : Int)))
  (.sub (F_w16_awake n) fun y15 =>
  .ret y15)
  (.ret false))
  (.ret false))
  fun y16 =>
  .alt y16 (fun y17 =>
  .ret false)
  fun y18 =>
  .alt y18 (fun y19 =>
  .ret false)
  fun y20 =>
  .alt y20 (fun y21 =>
  .sub (F_store_Store_List n (0 : Int) (0 : Int) (0 : Int) y21.1 ([] : List ((List UInt8) × (List ((List UInt8) × Bool)))) y21.2.1 y21.2.2.1) fun y22 =>
  .alt y22 (fun y23 =>
  .ite (decide (y23.1 = (0 : Int)))
  (.ite (decide ((0 : Int) = (ln y21.2.2.2)))
  (.sub (F_w16_awake n) fun y24 =>
  .ret y24)
  (.ret false))
  (.ret false))
  fun y25 =>
  .ite true
  (.ite (decide ((ln y25.1) = (ln y21.2.2.2)))
  (.sub (F_w16_awake n) fun y26 =>
  .ret y26)
  (.ret false))
  (.ret false))
  fun y27 =>
  .alt y27 (fun y28 =>
  .sub (F_store_Store_List n (0 : Int) (0 : Int) (0 : Int) y28.1 y28.2.1 y28.2.2.1 y28.2.2.2.1) fun y29 =>
  .alt y29 (fun y30 =>
  .ite (decide (y30.1 = (0 : Int)))
  (.ite (decide ((0 : Int) = (ln y28.2.2.2.2)))
  (.sub (F_w16_awake n) fun y31 =>
  .ret y31)
  (.ret false))
  (.ret false))
  fun y32 =>
  .ite true
  (.ite (decide ((ln y32.1) = (ln y28.2.2.2.2)))
  (.sub (F_w16_awake n) fun y33 =>
  .ret y33)
  (.ret false))
  (.ret false))
  fun y34 =>
  .sub (F_store_Store_List n (0 : Int) (0 : Int) (0 : Int) y34.1 y34.2.1 y34.2.2.1 y34.2.2.2) fun y35 =>
  .alt y35 (fun y36 =>
  .ite (decide (y36.1 = (0 : Int)))
  (.ite (decide ((0 : Int) = (0 : Int)))
  (.sub (F_w16_awake n) fun y37 =>
  .ret y37)
  (.ret false))
  (.ret false))
  fun y38 =>
  .ite true
  (.ite (decide ((ln y38.1) = (0 : Int)))
  (.sub (F_w16_awake n) fun y39 =>
  .ret y39)
  (.ret false))
  (.ret false))
def S_w16_StoreHonest (n : Nat) : Summ := mkS ⟨[(.ro false T3 [])], [], 0⟩ [.c, .d T4] fun v => .sub (F_w16_StoreHonest n (p0 v) (p1 v)) fun r => .ret ((.val .bool r), [], 0)
theorem ok_w16_StoreHonest (n : Nat) : SoundF Try.prog 9 (S_w16_StoreHonest n) :=
  fn_go true (c := codeOf Try.f9) (tab := mkTab [(44, ⟨S_w16_few n, [], [], false⟩), (17, ⟨S_w16_awake n, [], [], false⟩), (45, ⟨S_store_New n, [], [], false⟩), (50, ⟨S_store_Store_List n, [], [], false⟩)]) (cuts := mkCuts [(0, C_9_0 (S_w16_StoreHonest_l0 n n))]) Try.func9 (by kernel_rfl) (.cons (ok_w16_few n) ⟨_, Try.func44, by kernel_rfl⟩ (.cons (ok_w16_awake n) ⟨_, Try.func17, by kernel_rfl⟩ (.cons (ok_store_New n) ⟨_, Try.func45, by kernel_rfl⟩ (.cons (ok_store_Store_List n) ⟨_, Try.func50, by kernel_rfl⟩ .nil)))) (CutsOK.list (l := [(0, .lp (bodyOf Try.f9 0))]) (by kernel_rfl) (LoopsOK.all ⟨.inr ⟨_, rfl, ok_w16_StoreHonest_l0 n n⟩, trivial⟩)) (fun v => by kernel_rfl)
end Hyp
