/- Printed by Gen.lean.tpl (this work's own): Go functions as pure functions, each with the proof that the Go code comes to its answers. -/
import Derived.Test.YtdlbmjbbnplpjaaZD
import Derived.Test.YtdlbmjbbnplpjaaSL
import Derived.Test.YtdlbmjbbnplpjaaSd
import Derived.Test.YtdlbmjbbnplpjaaChecked
set_option linter.unusedVariables false
set_option maxRecDepth 100000
set_option maxHeartbeats 4000000
namespace Hyp
open Go Go.Proofs
abbrev T1 : Ty := .rcd (.pair (.sint .i64) (.arr 32 .u8))
abbrev T2 : Ty := .rcd (.pair .str (.pair (.sint .i64) (.sint .i64)))
abbrev T3 : Ty := .list (.rcd (.pair (.rcd (.pair (.sint .i64) (.arr 32 .u8))) (.rcd (.pair .str (.pair (.sint .i64) (.sint .i64))))))
abbrev T4 : Ty := .list (.rcd (.pair (.arr 32 .u8) (.sint .i64)))
abbrev T5 : Ty := .rcd (.pair (.sint .i64) (.pair (.arr 32 .u8) (.rcd (.pair .str (.pair (.sint .i64) (.sint .i64))))))
abbrev T6 : Ty := .list (.rcd (.pair (.sint .i64) (.pair (.arr 32 .u8) (.rcd (.pair .str (.pair (.sint .i64) (.sint .i64)))))))
def F_index_New (n : Nat) : Tree Unit :=
  .ret ()
def S_index_New (n : Nat) : Summ := mkS ⟨[], [], 0⟩ [] fun v => .sub (F_index_New n) fun r => .ret ((.ptr 0 0), [⟨0, 1, .box (.agg (.pr (.mpv 2) .un))⟩, ⟨2, 3, .mp T1 T2 ([] : List ((Int × (List UInt8)) × ((List UInt8) × (Int × Int))))⟩], 4)
theorem ok_index_New (n : Nat) : SoundF Try.prog 61 (S_index_New n) :=
  fn_go false (c := codeOf Try.f61) (tab := mkTab []) (cuts := mkCuts []) Try.func61 (by kernel_rfl) .nil (.none0 (by kernel_rfl)) (fun v => by kernel_rfl)
def C_15_0 : CutF → Cut := fun κ => ⟨[14, 15, 16], fun e => match e with | .ex i => bif Nat.beq i 0 then [] else [] | .rt => [2] | .nm => [] | .go i => [], κ⟩
def F_store_Named_l0 (n : Nat) : Nat → (Int) → (Int) → (List UInt8) → Tree (Unit ⊕ Unit)
 | 0 => fun  x0 x1 x2 => .fail
 | k + 1 => fun x0 x1 x2 =>
  .ite (decide (x1 < x0))
  (.get (inI (List.length x2) x1) fun y3 =>
  .get (gt x2 (0 + y3)) fun y4 =>
  .ite (bif (decide (y4 < (97 : UInt8))) then ((decide (y4 < (48 : UInt8))) || (decide ((57 : UInt8) < y4))) else ((decide ((122 : UInt8) < y4)) && ((decide (y4 < (48 : UInt8))) || (decide ((57 : UInt8) < y4)))))
  (.ret (.inl ()))
  (.sub (F_store_Named_l0 n k x0 (w64 (x1 + (1 : Int))) x2) fun y5 =>
  .alt y5 (fun y6 =>
  .ret (.inl ()))
  fun y7 =>
  .ret (.inr ())))
  (.ret (.inr ()))
def S_store_Named_l0 (n k : Nat) : CutF := mkS ⟨[(.whole 0 1), (.val (.sint .i64) (0 : Int)), (.val (.sint .i64) (0 : Int))], [⟨0, 1, .row .u8 []⟩], 2⟩ [.d (.sint .i64), .d (.sint .i64), .d (.list .u8)] fun v => .sub (F_store_Named_l0 n k (p0 v) (p1 v) (p2 v)) fun r => .alt r (fun r => .ret (.rt, [(.val .bool false)], [⟨0, 3, .row .u8 (p2 v)⟩], 4)) (fun r => .ret (.ex 0, [], [⟨0, 3, .row .u8 (p2 v)⟩], 4))
theorem rd_store_Named_l0 (n k : Nat) : Rounds Try.prog (Go.Func.ntmps Try.f15) (bodyOf Try.f15 0) C_15_0 [S_store_Named_l0 n k] (S_store_Named_l0 n (k + 1)) :=
  rounds_go (tab := mkTab []) (cuts := mkCuts []) (S_store_Named_l0 n k) [] .nil (.none0 (by kernel_rfl)) rfl (fun v => by kernel_rfl)
theorem ok_store_Named_l0 (n k : Nat) : SoundC Try.prog (Go.Func.ntmps Try.f15) (.loop (bodyOf Try.f15 0)) (wr (bodyOf Try.f15 0)) (C_15_0 (S_store_Named_l0 n k)) :=
  loop_go (K := fun k => [S_store_Named_l0 n k]) (fun _ => rfl) (by kernel_rfl) ⟨z_go fun _ => by kernel_rfl, trivial⟩ (fun k => ⟨rd_store_Named_l0 n k, trivial⟩) k rfl
def F_store_Named (n : Nat) (x0 : List UInt8) : Tree Bool :=
  .ite ((decide ((ln x0) < (1 : Int))) || (decide ((32 : Int) < (ln x0))))
  (.ret false)
  (.get (bytesI x0) fun y1 =>
  .sub (F_store_Named_l0 n n (ln y1) (0 : Int) y1) fun y2 =>
  .alt y2 (fun y3 =>
  .ret false)
  fun y4 =>
  .ret true)
def S_store_Named (n : Nat) : Summ := mkS ⟨[(.val .str [])], [], 0⟩ [.d .str] fun v => .sub (F_store_Named n (p0 v)) fun r => .ret ((.val .bool r), [], 0)
theorem ok_store_Named (n : Nat) : SoundF Try.prog 15 (S_store_Named n) :=
  fn_go false (c := codeOf Try.f15) (tab := mkTab []) (cuts := mkCuts [(0, C_15_0 (S_store_Named_l0 n n))]) Try.func15 (by kernel_rfl) .nil (CutsOK.list (l := [(0, .lp (bodyOf Try.f15 0))]) (by kernel_rfl) (LoopsOK.all ⟨.inr ⟨_, rfl, ok_store_Named_l0 n n⟩, trivial⟩)) (fun v => by kernel_rfl)
def F_index_Right (n : Nat) (x0 : Int) (x1 : List UInt8) (x2 : Int) (x3 : Int) : Tree Bool :=
  .ite (decide (x0 < (1 : Int)))
  (.ret false)
  (.ite (decide ((3 : Int) < x0))
  (.ret false)
  (.sub (F_store_Named n x1) fun y4 =>
  .ite (!y4)
  (.ret false)
  (.ret ((decide ((8 : Int) ≤ x2)) && ((decide (x2 ≤ (65536 : Int))) && ((decide ((28 : Int) ≤ x3)) && (decide (x3 ≤ (w64 ((65536 : Int) - x2))))))))))
def S_index_Right (n : Nat) : Summ := mkS ⟨[(.agg (.pr (.val (.sint .i64) (0 : Int)) (.pr (.val (.arr 32 .u8) []) (.pr (.agg (.pr (.val .str []) (.pr (.val (.sint .i64) (0 : Int)) (.pr (.val (.sint .i64) (0 : Int)) .un)))) .un))))], [], 0⟩ [.d (.sint .i64), .d (.arr 32 .u8), .d .str, .d (.sint .i64), .d (.sint .i64)] fun v => .sub (F_index_Right n (p0 v) (p2 v) (p3 v) (p4 v)) fun r => .ret ((.val .bool r), [], 0)
theorem ok_index_Right (n : Nat) : SoundF Try.prog 37 (S_index_Right n) :=
  fn_go false (c := codeOf Try.f37) (tab := mkTab [(15, ⟨S_store_Named n, [], [], false⟩)]) (cuts := mkCuts []) Try.func37 (by kernel_rfl) (.cons (ok_store_Named n) ⟨_, Try.func15, by kernel_rfl⟩ .nil) (.none0 (by kernel_rfl)) (fun v => by kernel_rfl)
def F_index_Index_Add (n : Nat) (x0 : Int) (x1 : List UInt8) (x2 : List UInt8) (x3 : Int) (x4 : Int) (x5 : List ((Int × List UInt8) × List UInt8 × Int × Int)) : Tree (Int ⊕ (List ((Int × List UInt8) × List UInt8 × Int × Int))) :=
  .sub (F_index_Right n x0 x2 x3 x4) fun y6 =>
  .ite (!y6)
  (.ret (.inl (1 : Int)))
  (.ite (Option.isSome (mget T1 T2 x5 (x0, x1)))
  (.ret (.inl (19 : Int)))
  (.ret (.inr (mput T1 T2 x5 (x0, x1) (x2, (x3, x4))))))
def S_index_Index_Add (n : Nat) : Summ := mkS ⟨[(.ptr 0 0), (.agg (.pr (.val (.sint .i64) (0 : Int)) (.pr (.val (.arr 32 .u8) []) (.pr (.agg (.pr (.val .str []) (.pr (.val (.sint .i64) (0 : Int)) (.pr (.val (.sint .i64) (0 : Int)) .un)))) .un))))], [⟨0, 1, .box (.agg (.pr (.mpv 2) .un))⟩, ⟨2, 3, .mp T1 T2 []⟩], 4⟩ [.d (.sint .i64), .d (.arr 32 .u8), .d .str, .d (.sint .i64), .d (.sint .i64), .d T3] fun v => .sub (F_index_Index_Add n (p0 v) (p1 v) (p2 v) (p3 v) (p4 v) (p5 v)) fun r => .alt r (fun r => .ret ((.val (.sint .i64) r), [⟨0, 5, .box (.agg (.pr (.mpv 2) .un))⟩, ⟨2, 3, .mp T1 T2 (p5 v)⟩], 8)) (fun r => .ret ((.val (.sint .i64) (0 : Int)), [⟨0, 5, .box (.agg (.pr (.mpv 2) .un))⟩, ⟨2, 7, .mp T1 T2 r⟩], 8))
theorem ok_index_Index_Add (n : Nat) : SoundF Try.prog 60 (S_index_Index_Add n) :=
  fn_go false (c := codeOf Try.f60) (tab := mkTab [(37, ⟨S_index_Right n, [], [], true⟩)]) (cuts := mkCuts []) Try.func60 (by kernel_rfl) (.cons (ok_index_Right n) ⟨_, Try.func37, by kernel_rfl⟩ .nil) (.none0 (by kernel_rfl)) (fun v => by kernel_rfl)
def C_63_0 : CutF → Cut := fun κ => ⟨[0, 1, 7, 8, 14, 15, 16], fun e => match e with | .ex i => bif Nat.beq i 0 then [8] else [] | .rt => [] | .nm => [] | .go i => [], κ⟩
def F_index_Index_Find (n : Nat) (x0 : Int) (x1 : List UInt8) (x2 : List ((Int × List UInt8) × List UInt8 × Int × Int)) : Tree ((List UInt8) × ((Int) × ((Int) × Bool))) :=
  .ret ((mgetD T1 T2 x2 (x0, x1) (([] : List UInt8), ((0 : Int), (0 : Int)))).1, (mgetD T1 T2 x2 (x0, x1) (([] : List UInt8), ((0 : Int), (0 : Int)))).2.1, (mgetD T1 T2 x2 (x0, x1) (([] : List UInt8), ((0 : Int), (0 : Int)))).2.2, (Option.isSome (mget T1 T2 x2 (x0, x1))))
def S_index_Index_Find (n : Nat) : Summ := mkS ⟨[(.ptr 0 0), (.val (.sint .i64) (0 : Int)), (.val (.arr 32 .u8) [])], [⟨0, 1, .box (.agg (.pr (.mpv 2) .un))⟩, ⟨2, 3, .mp T1 T2 []⟩], 4⟩ [.d (.sint .i64), .d (.arr 32 .u8), .d T3] fun v => .sub (F_index_Index_Find n (p0 v) (p1 v) (p2 v)) fun r => .ret ((.tup (.pr (.agg (.pr (.val .str r.1) (.pr (.val (.sint .i64) r.2.1) (.pr (.val (.sint .i64) r.2.2.1) .un)))) (.pr (.val .bool r.2.2.2) .un))), [⟨0, 5, .box (.agg (.pr (.mpv 2) .un))⟩, ⟨2, 3, .mp T1 T2 (p2 v)⟩], 8)
theorem ok_index_Index_Find (n : Nat) : SoundF Try.prog 35 (S_index_Index_Find n) :=
  fn_go false (c := codeOf Try.f35) (tab := mkTab []) (cuts := mkCuts []) Try.func35 (by kernel_rfl) .nil (.none0 (by kernel_rfl)) (fun v => by kernel_rfl)
def F_index_Index_Need_l0 (n : Nat) : Nat → (Int) → (Int) → (Int) → (List ((Int × List UInt8) × List UInt8 × Int × Int)) → (List (List UInt8 × Int)) → (List (List UInt8)) → (List (List UInt8)) → Tree (Unit ⊕ ((List (List UInt8)) × (List (List UInt8 × Int))))
 | 0 => fun  x0 x1 x2 x3 x4 x5 x6 => .fail
 | k + 1 => fun x0 x1 x2 x3 x4 x5 x6 =>
  .ite (decide (x2 < x1))
  (.get (inI (List.length x6) x2) fun y7 =>
  .get (gt x6 (0 + y7)) fun y8 =>
  .sub (F_index_Index_Find n x0 y8 x3) fun y9 =>
  .ite (y9.2.2.2 || (decide ((0 : Int) < (mgetD (.arr 32 .u8) (.sint .i64) x4 y8 (0 : Int)))))
  (.sub (F_index_Index_Need_l0 n k x0 x1 (w64 (x2 + (1 : Int))) x3 x4 x5 x6) fun y10 =>
  .alt y10 (fun y11 =>
  .ret (.inl ()))
  fun y12 =>
  .ret (.inr (y12.1, y12.2)))
  (.get (appI 4398046511104 x5 (List.set ([(zs 32)] : List (List UInt8)) 0 y8)) fun y13 =>
  .sub (F_index_Index_Need_l0 n k x0 x1 (w64 (x2 + (1 : Int))) x3 (mput (.arr 32 .u8) (.sint .i64) x4 y8 (1 : Int)) y13 x6) fun y14 =>
  .alt y14 (fun y15 =>
  .ret (.inr (y13, (mput (.arr 32 .u8) (.sint .i64) x4 y8 (1 : Int)))))
  fun y16 =>
  .ret (.inr (y16.1, y16.2))))
  (.ret (.inl ()))
def S_index_Index_Need_l0 (n k : Nat) : CutF := mkS ⟨[(.ptr 0 0), (.val (.sint .i64) (0 : Int)), (.mpv 4), (.whole 6 32), (.whole 8 32), (.val (.sint .i64) (0 : Int)), (.val (.sint .i64) (0 : Int))], [⟨0, 1, .box (.agg (.pr (.mpv 2) .un))⟩, ⟨2, 3, .mp T1 T2 []⟩, ⟨4, 5, .mp (.arr 32 .u8) (.sint .i64) []⟩, ⟨6, 7, .row (.arr 32 .u8) []⟩, ⟨8, 9, .row (.arr 32 .u8) []⟩], 10⟩ [.d (.sint .i64), .d (.sint .i64), .d (.sint .i64), .d T3, .d T4, .d (.list (.arr 32 .u8)), .d (.list (.arr 32 .u8))] fun v => .sub (F_index_Index_Need_l0 n k (p0 v) (p1 v) (p2 v) (p3 v) (p4 v) (p5 v) (p6 v)) fun r => .alt r (fun r => .ret (.ex 0, [(.whole 6 32)], [⟨6, 11, .row (.arr 32 .u8) (p5 v)⟩, ⟨0, 13, .box (.agg (.pr (.mpv 2) .un))⟩, ⟨2, 3, .mp T1 T2 (p3 v)⟩, ⟨4, 5, .mp (.arr 32 .u8) (.sint .i64) (p4 v)⟩, ⟨8, 19, .row (.arr 32 .u8) (p6 v)⟩], 20)) (fun r => .ret (.ex 0, [(.whole 10 32)], [⟨10, 11, .row (.arr 32 .u8) r.1⟩, ⟨0, 13, .box (.agg (.pr (.mpv 2) .un))⟩, ⟨2, 3, .mp T1 T2 (p3 v)⟩, ⟨4, 17, .mp (.arr 32 .u8) (.sint .i64) r.2⟩, ⟨8, 19, .row (.arr 32 .u8) (p6 v)⟩], 20))
theorem rd_index_Index_Need_l0 (n k : Nat) : Rounds Try.prog (Go.Func.ntmps Try.f63) (bodyOf Try.f63 0) C_63_0 [S_index_Index_Need_l0 n k] (S_index_Index_Need_l0 n (k + 1)) :=
  rounds_go (tab := mkTab [(35, ⟨S_index_Index_Find n, [], [], false⟩)]) (cuts := mkCuts []) (S_index_Index_Need_l0 n k) [] (.cons (ok_index_Index_Find n) ⟨_, Try.func35, by kernel_rfl⟩ .nil) (.none0 (by kernel_rfl)) rfl (fun v => by kernel_rfl)
theorem ok_index_Index_Need_l0 (n k : Nat) : SoundC Try.prog (Go.Func.ntmps Try.f63) (.loop (bodyOf Try.f63 0)) (wr (bodyOf Try.f63 0)) (C_63_0 (S_index_Index_Need_l0 n k)) :=
  loop_go (K := fun k => [S_index_Index_Need_l0 n k]) (fun _ => rfl) (by kernel_rfl) ⟨z_go fun _ => by kernel_rfl, trivial⟩ (fun k => ⟨rd_index_Index_Need_l0 n k, trivial⟩) k rfl
def F_index_Index_Need (n : Nat) (x0 : Int) (x1 : List ((Int × List UInt8) × List UInt8 × Int × Int)) (x2 : List (List UInt8)) : Tree (List (List UInt8)) :=
  .sub (F_index_Index_Need_l0 n n x0 (ln x2) (0 : Int) x1 ([] : List ((List UInt8) × Int)) ([] : List (List UInt8)) x2) fun y3 =>
  .alt y3 (fun y4 =>
  .ret ([] : List (List UInt8)))
  fun y5 =>
  .ret y5.1
def S_index_Index_Need (n : Nat) : Summ := mkS ⟨[(.ptr 0 0), (.val (.sint .i64) (0 : Int)), (.whole 4 32)], [⟨0, 1, .box (.agg (.pr (.mpv 2) .un))⟩, ⟨2, 3, .mp T1 T2 []⟩, ⟨4, 5, .row (.arr 32 .u8) []⟩], 6⟩ [.d (.sint .i64), .d T3, .d (.list (.arr 32 .u8))] fun v => .sub (F_index_Index_Need n (p0 v) (p1 v) (p2 v)) fun r => .ret ((.whole 6 32), [⟨6, 7, .row (.arr 32 .u8) r⟩, ⟨0, 9, .box (.agg (.pr (.mpv 2) .un))⟩, ⟨2, 3, .mp T1 T2 (p1 v)⟩, ⟨4, 13, .row (.arr 32 .u8) (p2 v)⟩], 14)
theorem ok_index_Index_Need (n : Nat) : SoundF Try.prog 63 (S_index_Index_Need n) :=
  fn_go false (c := codeOf Try.f63) (tab := mkTab []) (cuts := mkCuts [(0, C_63_0 (S_index_Index_Need_l0 n n))]) Try.func63 (by kernel_rfl) .nil (CutsOK.list (l := [(0, .lp (bodyOf Try.f63 0))]) (by kernel_rfl) (LoopsOK.all ⟨.inr ⟨_, rfl, ok_index_Index_Need_l0 n n⟩, trivial⟩)) (fun v => by kernel_rfl)
def F_index_Index_Len (n : Nat) (x0 : List ((Int × List UInt8) × List UInt8 × Int × Int)) : Tree Int :=
  .ret (ln x0)
def S_index_Index_Len (n : Nat) : Summ := mkS ⟨[(.ptr 0 0)], [⟨0, 1, .box (.agg (.pr (.mpv 2) .un))⟩, ⟨2, 3, .mp T1 T2 []⟩], 4⟩ [.d T3] fun v => .sub (F_index_Index_Len n (p0 v)) fun r => .ret ((.val (.sint .i64) r), [⟨0, 5, .box (.agg (.pr (.mpv 2) .un))⟩, ⟨2, 3, .mp T1 T2 (p0 v)⟩], 8)
theorem ok_index_Index_Len (n : Nat) : SoundF Try.prog 41 (S_index_Index_Len n) :=
  fn_go false (c := codeOf Try.f41) (tab := mkTab []) (cuts := mkCuts []) Try.func41 (by kernel_rfl) .nil (.none0 (by kernel_rfl)) (fun v => by kernel_rfl)
def F_w20_awake (n : Nat) : Tree Bool :=
  .sub (F_index_New n) fun y0 =>
  .sub (F_index_Index_Add n (1 : Int) ([2, 0, 0, 0, 0, 0, 0, 0, 0, 0, 0, 0, 0, 0, 0, 0, 0, 0, 0, 0, 0, 0, 0, 0, 0, 0, 0, 0, 0, 0, 0, 0] : List UInt8) ([112] : List UInt8) (8 : Int) (28 : Int) ([] : List ((Int × (List UInt8)) × ((List UInt8) × (Int × Int))))) fun y1 =>
  .alt y1 (fun y2 =>
  .ite (!(decide (y2 = (0 : Int))))
  (.ret false)
  (.sub (F_index_Index_Add n (1 : Int) ([2, 0, 0, 0, 0, 0, 0, 0, 0, 0, 0, 0, 0, 0, 0, 0, 0, 0, 0, 0, 0, 0, 0, 0, 0, 0, 0, 0, 0, 0, 0, 0] : List UInt8) ([112] : List UInt8) (8 : Int) (28 : Int) ([] : List ((Int × (List UInt8)) × ((List UInt8) × (Int × Int))))) fun y3 =>
  .alt y3 (fun y4 =>
  .ite (!(decide (y4 = (19 : Int))))
  (.ret false)
  (.sub (F_index_Index_Need n (1 : Int) ([] : List ((Int × (List UInt8)) × ((List UInt8) × (Int × Int)))) ([([1, 0, 0, 0, 0, 0, 0, 0, 0, 0, 0, 0, 0, 0, 0, 0, 0, 0, 0, 0, 0, 0, 0, 0, 0, 0, 0, 0, 0, 0, 0, 0] : List UInt8), ([2, 0, 0, 0, 0, 0, 0, 0, 0, 0, 0, 0, 0, 0, 0, 0, 0, 0, 0, 0, 0, 0, 0, 0, 0, 0, 0, 0, 0, 0, 0, 0] : List UInt8), ([1, 0, 0, 0, 0, 0, 0, 0, 0, 0, 0, 0, 0, 0, 0, 0, 0, 0, 0, 0, 0, 0, 0, 0, 0, 0, 0, 0, 0, 0, 0, 0] : List UInt8)] : List (List UInt8))) fun y5 =>
  .ite (decide ((ln y5) = (1 : Int)))
  (.get (inI (List.length y5) (0 : Int)) fun y6 =>
  .get (gt y5 (0 + y6)) fun y7 =>
  .ite (eqV (.arr 32 .u8) y7 ([1, 0, 0, 0, 0, 0, 0, 0, 0, 0, 0, 0, 0, 0, 0, 0, 0, 0, 0, 0, 0, 0, 0, 0, 0, 0, 0, 0, 0, 0, 0, 0] : List UInt8))
  (.sub (F_index_Index_Len n ([] : List ((Int × (List UInt8)) × ((List UInt8) × (Int × Int))))) fun y8 =>
  .ret (decide (y8 = (1 : Int))))
  (.ret false))
  (.ret false)))
  fun y9 =>
  .ite true
  (.ret false)
  (.sub (F_index_Index_Need n (1 : Int) y9 ([([1, 0, 0, 0, 0, 0, 0, 0, 0, 0, 0, 0, 0, 0, 0, 0, 0, 0, 0, 0, 0, 0, 0, 0, 0, 0, 0, 0, 0, 0, 0, 0] : List UInt8), ([2, 0, 0, 0, 0, 0, 0, 0, 0, 0, 0, 0, 0, 0, 0, 0, 0, 0, 0, 0, 0, 0, 0, 0, 0, 0, 0, 0, 0, 0, 0, 0] : List UInt8), ([1, 0, 0, 0, 0, 0, 0, 0, 0, 0, 0, 0, 0, 0, 0, 0, 0, 0, 0, 0, 0, 0, 0, 0, 0, 0, 0, 0, 0, 0, 0, 0] : List UInt8)] : List (List UInt8))) fun y10 =>
  .ite (decide ((ln y10) = (1 : Int)))
  (.get (inI (List.length y10) (0 : Int)) fun y11 =>
  .get (gt y10 (0 + y11)) fun y12 =>
  .ite (eqV (.arr 32 .u8) y12 ([1, 0, 0, 0, 0, 0, 0, 0, 0, 0, 0, 0, 0, 0, 0, 0, 0, 0, 0, 0, 0, 0, 0, 0, 0, 0, 0, 0, 0, 0, 0, 0] : List UInt8))
  (.sub (F_index_Index_Len n y9) fun y13 =>
  .ret (decide (y13 = (1 : Int))))
  (.ret false))
  (.ret false))))
  fun y14 =>
  .ite false
  (.ret false)
  (.sub (F_index_Index_Add n (1 : Int) ([2, 0, 0, 0, 0, 0, 0, 0, 0, 0, 0, 0, 0, 0, 0, 0, 0, 0, 0, 0, 0, 0, 0, 0, 0, 0, 0, 0, 0, 0, 0, 0] : List UInt8) ([112] : List UInt8) (8 : Int) (28 : Int) y14) fun y15 =>
  .alt y15 (fun y16 =>
  .ite (!(decide (y16 = (19 : Int))))
  (.ret false)
  (.sub (F_index_Index_Need n (1 : Int) y14 ([([1, 0, 0, 0, 0, 0, 0, 0, 0, 0, 0, 0, 0, 0, 0, 0, 0, 0, 0, 0, 0, 0, 0, 0, 0, 0, 0, 0, 0, 0, 0, 0] : List UInt8), ([2, 0, 0, 0, 0, 0, 0, 0, 0, 0, 0, 0, 0, 0, 0, 0, 0, 0, 0, 0, 0, 0, 0, 0, 0, 0, 0, 0, 0, 0, 0, 0] : List UInt8), ([1, 0, 0, 0, 0, 0, 0, 0, 0, 0, 0, 0, 0, 0, 0, 0, 0, 0, 0, 0, 0, 0, 0, 0, 0, 0, 0, 0, 0, 0, 0, 0] : List UInt8)] : List (List UInt8))) fun y17 =>
  .ite (decide ((ln y17) = (1 : Int)))
  (.get (inI (List.length y17) (0 : Int)) fun y18 =>
  .get (gt y17 (0 + y18)) fun y19 =>
  .ite (eqV (.arr 32 .u8) y19 ([1, 0, 0, 0, 0, 0, 0, 0, 0, 0, 0, 0, 0, 0, 0, 0, 0, 0, 0, 0, 0, 0, 0, 0, 0, 0, 0, 0, 0, 0, 0, 0] : List UInt8))
  (.sub (F_index_Index_Len n y14) fun y20 =>
  .ret (decide (y20 = (1 : Int))))
  (.ret false))
  (.ret false)))
  fun y21 =>
  .ite true
  (.ret false)
  (.sub (F_index_Index_Need n (1 : Int) y21 ([([1, 0, 0, 0, 0, 0, 0, 0, 0, 0, 0, 0, 0, 0, 0, 0, 0, 0, 0, 0, 0, 0, 0, 0, 0, 0, 0, 0, 0, 0, 0, 0] : List UInt8), ([2, 0, 0, 0, 0, 0, 0, 0, 0, 0, 0, 0, 0, 0, 0, 0, 0, 0, 0, 0, 0, 0, 0, 0, 0, 0, 0, 0, 0, 0, 0, 0] : List UInt8), ([1, 0, 0, 0, 0, 0, 0, 0, 0, 0, 0, 0, 0, 0, 0, 0, 0, 0, 0, 0, 0, 0, 0, 0, 0, 0, 0, 0, 0, 0, 0, 0] : List UInt8)] : List (List UInt8))) fun y22 =>
  .ite (decide ((ln y22) = (1 : Int)))
  (.get (inI (List.length y22) (0 : Int)) fun y23 =>
  .get (gt y22 (0 + y23)) fun y24 =>
  .ite (eqV (.arr 32 .u8) y24 ([1, 0, 0, 0, 0, 0, 0, 0, 0, 0, 0, 0, 0, 0, 0, 0, 0, 0, 0, 0, 0, 0, 0, 0, 0, 0, 0, 0, 0, 0, 0, 0] : List UInt8))
  (.sub (F_index_Index_Len n y21) fun y25 =>
  .ret (decide (y25 = (1 : Int))))
  (.ret false))
  (.ret false)))
def S_w20_awake (n : Nat) : Summ := mkS ⟨[], [], 0⟩ [] fun v => .sub (F_w20_awake n) fun r => .ret ((.val .bool r), [], 0)
theorem ok_w20_awake (n : Nat) : SoundF Try.prog 28 (S_w20_awake n) :=
  fn_go true (c := codeOf Try.f28) (tab := mkTab [(61, ⟨S_index_New n, [], [], false⟩), (60, ⟨S_index_Index_Add n, [], [], false⟩), (63, ⟨S_index_Index_Need n, [], [], false⟩), (41, ⟨S_index_Index_Len n, [], [], false⟩)]) (cuts := mkCuts []) Try.func28 (by kernel_rfl) (.cons (ok_index_New n) ⟨_, Try.func61, by kernel_rfl⟩ (.cons (ok_index_Index_Add n) ⟨_, Try.func60, by kernel_rfl⟩ (.cons (ok_index_Index_Need n) ⟨_, Try.func63, by kernel_rfl⟩ (.cons (ok_index_Index_Len n) ⟨_, Try.func41, by kernel_rfl⟩ .nil)))) (.none0 (by kernel_rfl)) (fun v => by kernel_rfl)
def F_index_Index_Find_1 (n : Nat) : Tree Unit :=
  .ret ()
def S_index_Index_Find_1 (n : Nat) : Summ := mkS ⟨[.nil, (.val (.sint .i64) (0 : Int)), (.val (.arr 32 .u8) [])], [], 0⟩ [.d (.sint .i64), .d (.arr 32 .u8)] fun v => .sub (F_index_Index_Find_1 n) fun r => .ret ((.tup (.pr (.agg (.pr (.val .str ([] : List UInt8)) (.pr (.val (.sint .i64) (0 : Int)) (.pr (.val (.sint .i64) (0 : Int)) .un)))) (.pr (.val .bool false) .un))), [], 0)
theorem ok_index_Index_Find_1 (n : Nat) : SoundF Try.prog 35 (S_index_Index_Find_1 n) :=
  fn_go false (c := codeOf Try.f35) (tab := mkTab []) (cuts := mkCuts []) Try.func35 (by kernel_rfl) .nil (.none0 (by kernel_rfl)) (fun v => by kernel_rfl)
def F_index_Index_Add_1 (n : Nat) : Tree Unit :=
  .ret ()
def S_index_Index_Add_1 (n : Nat) : Summ := mkS ⟨[.nil, (.agg (.pr (.val (.sint .i64) (0 : Int)) (.pr (.val (.arr 32 .u8) []) (.pr (.agg (.pr (.val .str []) (.pr (.val (.sint .i64) (0 : Int)) (.pr (.val (.sint .i64) (0 : Int)) .un)))) .un))))], [], 0⟩ [.d (.sint .i64), .d (.arr 32 .u8), .d .str, .d (.sint .i64), .d (.sint .i64)] fun v => .sub (F_index_Index_Add_1 n) fun r => .ret ((.val (.sint .i64) (1 : Int)), [], 0)
theorem ok_index_Index_Add_1 (n : Nat) : SoundF Try.prog 60 (S_index_Index_Add_1 n) :=
  fn_go false (c := codeOf Try.f60) (tab := mkTab []) (cuts := mkCuts []) Try.func60 (by kernel_rfl) .nil (.none0 (by kernel_rfl)) (fun v => by kernel_rfl)
def F_index_Index_Merge (n : Nat) : Tree Unit :=
  .ret ()
def S_index_Index_Merge (n : Nat) : Summ := mkS ⟨[.nil, (.ptr 0 0)], [⟨0, 1, .box (.agg (.pr (.mpv 2) .un))⟩, ⟨2, 3, .mp T1 T2 []⟩], 4⟩ [.d T3] fun v => .sub (F_index_Index_Merge n) fun r => .ret ((.val (.sint .i64) (1 : Int)), [⟨0, 5, .box (.agg (.pr (.mpv 2) .un))⟩, ⟨2, 3, .mp T1 T2 (p0 v)⟩], 8)
theorem ok_index_Index_Merge (n : Nat) : SoundF Try.prog 42 (S_index_Index_Merge n) :=
  fn_go false (c := codeOf Try.f42) (tab := mkTab []) (cuts := mkCuts []) Try.func42 (by kernel_rfl) .nil (CutsOK.list (l := [(0, .lp (bodyOf Try.f42 0)), (2, .lp (bodyOf Try.f42 2))]) (by kernel_rfl) (LoopsOK.all ⟨.inl rfl, ⟨.inl rfl, trivial⟩⟩)) (fun v => by kernel_rfl)
def F_index_Index_Len_1 (n : Nat) : Tree Unit :=
  .ret ()
def S_index_Index_Len_1 (n : Nat) : Summ := mkS ⟨[.nil], [], 0⟩ [] fun v => .sub (F_index_Index_Len_1 n) fun r => .ret ((.val (.sint .i64) (0 : Int)), [], 0)
theorem ok_index_Index_Len_1 (n : Nat) : SoundF Try.prog 41 (S_index_Index_Len_1 n) :=
  fn_go false (c := codeOf Try.f41) (tab := mkTab []) (cuts := mkCuts []) Try.func41 (by kernel_rfl) .nil (.none0 (by kernel_rfl)) (fun v => by kernel_rfl)
def F_index_Index_List (n : Nat) : Tree Unit :=
  .ret ()
def S_index_Index_List (n : Nat) : Summ := mkS ⟨[.nil], [], 0⟩ [] fun v => .sub (F_index_Index_List n) fun r => .ret ((.whole 0 36), [⟨0, 1, .row T5 ([] : List (Int × ((List UInt8) × ((List UInt8) × (Int × Int)))))⟩], 2)
theorem ok_index_Index_List (n : Nat) : SoundF Try.prog 39 (S_index_Index_List n) :=
  fn_go false (c := codeOf Try.f39) (tab := mkTab []) (cuts := mkCuts []) Try.func39 (by kernel_rfl) .nil (CutsOK.list (l := [(0, .lp (bodyOf Try.f39 0))]) (by kernel_rfl) (LoopsOK.all ⟨.inl rfl, trivial⟩)) (fun v => by kernel_rfl)
def F_index_Index_Need_l0_1 (n : Nat) : Nat → (Int) → (Bool) → (List (List UInt8)) → (Int) → (Int) → (List (List UInt8 × Int)) → (List (List UInt8)) → Tree (Unit ⊕ ((List (List UInt8)) × (List (List UInt8 × Int))))
 | 0 => fun  x0 x1 x2 x3 x4 x5 x6 => .fail
 | k + 1 => fun x0 x1 x2 x3 x4 x5 x6 =>
  .ite (decide (x4 < x3))
  (.get (getI x2 x4) fun y7 =>
  .sub (F_index_Index_Find_1 n) fun y8 =>
  .ite (false || (decide ((0 : Int) < (mgetD (.arr 32 .u8) (.sint .i64) x5 y7 (0 : Int)))))
  (.sub (F_index_Index_Need_l0_1 n k x0 x1 x2 x3 (w64 (x4 + (1 : Int))) x5 x6) fun y9 =>
  .alt y9 (fun y10 =>
  .ret (.inl ()))
  fun y11 =>
  .ret (.inr (y11.1, y11.2)))
  (.get (appI 4398046511104 x6 (List.set ([(zs 32)] : List (List UInt8)) 0 y7)) fun y12 =>
  .sub (F_index_Index_Need_l0_1 n k x0 x1 x2 x3 (w64 (x4 + (1 : Int))) (mput (.arr 32 .u8) (.sint .i64) x5 y7 (1 : Int)) y12) fun y13 =>
  .alt y13 (fun y14 =>
  .ret (.inr (y12, (mput (.arr 32 .u8) (.sint .i64) x5 y7 (1 : Int)))))
  fun y15 =>
  .ret (.inr (y15.1, y15.2))))
  (.ret (.inl ()))
def S_index_Index_Need_l0_1 (n k : Nat) : CutF := mkS ⟨[.nil, (.val (.sint .i64) (0 : Int)), (.mpv 0), (.whole 2 32), (.ro false (.arr 32 .u8) []), (.val (.sint .i64) (0 : Int)), (.val (.sint .i64) (0 : Int))], [⟨0, 1, .mp (.arr 32 .u8) (.sint .i64) []⟩, ⟨2, 3, .row (.arr 32 .u8) []⟩], 4⟩ [.d (.sint .i64), .c, .d (.list (.arr 32 .u8)), .d (.sint .i64), .d (.sint .i64), .d T4, .d (.list (.arr 32 .u8))] fun v => .sub (F_index_Index_Need_l0_1 n k (p0 v) (p1 v) (p2 v) (p3 v) (p4 v) (p5 v) (p6 v)) fun r => .alt r (fun r => .ret (.ex 0, [(.whole 2 32)], [⟨2, 5, .row (.arr 32 .u8) (p6 v)⟩, ⟨0, 1, .mp (.arr 32 .u8) (.sint .i64) (p5 v)⟩], 8)) (fun r => .ret (.ex 0, [(.whole 4 32)], [⟨4, 5, .row (.arr 32 .u8) r.1⟩, ⟨0, 7, .mp (.arr 32 .u8) (.sint .i64) r.2⟩], 8))
theorem rd_index_Index_Need_l0_1 (n k : Nat) : Rounds Try.prog (Go.Func.ntmps Try.f63) (bodyOf Try.f63 0) C_63_0 [S_index_Index_Need_l0_1 n k] (S_index_Index_Need_l0_1 n (k + 1)) :=
  rounds_go (tab := mkTab [(35, ⟨S_index_Index_Find_1 n, [], [], false⟩)]) (cuts := mkCuts []) (S_index_Index_Need_l0_1 n k) [] (.cons (ok_index_Index_Find_1 n) ⟨_, Try.func35, by kernel_rfl⟩ .nil) (.none0 (by kernel_rfl)) rfl (fun v => by kernel_rfl)
theorem ok_index_Index_Need_l0_1 (n k : Nat) : SoundC Try.prog (Go.Func.ntmps Try.f63) (.loop (bodyOf Try.f63 0)) (wr (bodyOf Try.f63 0)) (C_63_0 (S_index_Index_Need_l0_1 n k)) :=
  loop_go (K := fun k => [S_index_Index_Need_l0_1 n k]) (fun _ => rfl) (by kernel_rfl) ⟨z_go fun _ => by kernel_rfl, trivial⟩ (fun k => ⟨rd_index_Index_Need_l0_1 n k, trivial⟩) k rfl
def F_index_Index_Need_1 (n : Nat) (x0 : Int) (x1 : Bool) (x2 : List (List UInt8)) : Tree (List (List UInt8)) :=
  .sub (F_index_Index_Need_l0_1 n n x0 x1 x2 (ln x2) (0 : Int) ([] : List ((List UInt8) × Int)) ([] : List (List UInt8))) fun y3 =>
  .alt y3 (fun y4 =>
  .ret ([] : List (List UInt8)))
  fun y5 =>
  .ret y5.1
def S_index_Index_Need_1 (n : Nat) : Summ := mkS ⟨[.nil, (.val (.sint .i64) (0 : Int)), (.ro false (.arr 32 .u8) [])], [], 0⟩ [.d (.sint .i64), .c, .d (.list (.arr 32 .u8))] fun v => .sub (F_index_Index_Need_1 n (p0 v) (p1 v) (p2 v)) fun r => .ret ((.whole 0 32), [⟨0, 1, .row (.arr 32 .u8) r⟩], 2)
theorem ok_index_Index_Need_1 (n : Nat) : SoundF Try.prog 63 (S_index_Index_Need_1 n) :=
  fn_go false (c := codeOf Try.f63) (tab := mkTab []) (cuts := mkCuts [(0, C_63_0 (S_index_Index_Need_l0_1 n n))]) Try.func63 (by kernel_rfl) .nil (CutsOK.list (l := [(0, .lp (bodyOf Try.f63 0))]) (by kernel_rfl) (LoopsOK.all ⟨.inr ⟨_, rfl, ok_index_Index_Need_l0_1 n n⟩, trivial⟩)) (fun v => by kernel_rfl)
def C_64_0 : CutF → Cut := fun κ => ⟨[1, 2, 3, 7, 8], fun e => match e with | .ex i => bif Nat.beq i 0 then [7] else [] | .rt => [] | .nm => [] | .go i => [], κ⟩
def C_36_0 : CutF → Cut := fun κ => ⟨[1, 3, 5, 6, 8], fun e => match e with | .ex i => bif Nat.beq i 0 then [] else [] | .rt => [7] | .nm => [] | .go i => [], κ⟩
def F_r20_Index_Find_l0 (n : Nat) : Nat → (Int) → (Int) → (Bool) → (List (Int × List UInt8 × List UInt8 × Int × Int)) → (List UInt8) → (List UInt8) → (Int) → (Int) → Tree (((List UInt8) × ((Int) × Int)) ⊕ Unit)
 | 0 => fun  x0 x1 x2 x3 x4 x5 x6 x7 => .fail
 | k + 1 => fun x0 x1 x2 x3 x4 x5 x6 x7 =>
  .ite (decide (x1 < (ln x3)))
  (.get (getI x3 x1) fun y8 =>
  .ite (decide (y8.1 = x0))
  (.get (getI x3 x1) fun y9 =>
  .ite (eqV (.arr 32 .u8) y9.2.1 x4)
  (.get (getI x3 x1) fun y10 =>
  .ret (.inl (y10.2.2.1, y10.2.2.2.1, y10.2.2.2.2)))
  (.sub (F_r20_Index_Find_l0 n k x0 (w64 (x1 + (1 : Int))) x2 x3 x4 x5 x6 x7) fun y11 =>
  .alt y11 (fun y12 =>
  .ret (.inl (y12.1, y12.2.1, y12.2.2)))
  fun y13 =>
  .ret (.inr ())))
  (.sub (F_r20_Index_Find_l0 n k x0 (w64 (x1 + (1 : Int))) x2 x3 x4 x5 x6 x7) fun y14 =>
  .alt y14 (fun y15 =>
  .ret (.inl (y15.1, y15.2.1, y15.2.2)))
  fun y16 =>
  .ret (.inr ())))
  (.ret (.inr ()))
def S_r20_Index_Find_l0 (n k : Nat) : CutF := mkS ⟨[(.val (.sint .i64) (0 : Int)), (.ptr 0 0), (.ptr 2 0), (.ptr 4 0), (.val (.sint .i64) (0 : Int))], [⟨0, 1, .box (.agg (.pr (.ro false T5 []) .un))⟩, ⟨2, 3, .box (.val (.arr 32 .u8) [])⟩, ⟨4, 5, .box (.agg (.pr (.val .str []) (.pr (.val (.sint .i64) (0 : Int)) (.pr (.val (.sint .i64) (0 : Int)) .un))))⟩], 6⟩ [.d (.sint .i64), .d (.sint .i64), .c, .d T6, .d (.arr 32 .u8), .d .str, .d (.sint .i64), .d (.sint .i64)] fun v => .sub (F_r20_Index_Find_l0 n k (p0 v) (p1 v) (p2 v) (p3 v) (p4 v) (p5 v) (p6 v) (p7 v)) fun r => .alt r (fun r => .ret (.rt, [(.val .bool true)], [⟨0, 7, .box (.agg (.pr (.ro (p2 v) T5 (p3 v)) .un))⟩, ⟨2, 9, .box (.val (.arr 32 .u8) (p4 v))⟩, ⟨4, 11, .box (.agg (.pr (.val .str r.1) (.pr (.val (.sint .i64) r.2.1) (.pr (.val (.sint .i64) r.2.2) .un))))⟩], 12)) (fun r => .ret (.ex 0, [], [⟨0, 7, .box (.agg (.pr (.ro (p2 v) T5 (p3 v)) .un))⟩, ⟨2, 9, .box (.val (.arr 32 .u8) (p4 v))⟩, ⟨4, 11, .box (.agg (.pr (.val .str (p5 v)) (.pr (.val (.sint .i64) (p6 v)) (.pr (.val (.sint .i64) (p7 v)) .un))))⟩], 12))
theorem rd_r20_Index_Find_l0 (n k : Nat) : Rounds Try.prog (Go.Func.ntmps Try.f36) (bodyOf Try.f36 0) C_36_0 [S_r20_Index_Find_l0 n k] (S_r20_Index_Find_l0 n (k + 1)) :=
  rounds_go (tab := mkTab []) (cuts := mkCuts []) (S_r20_Index_Find_l0 n k) [] .nil (.none0 (by kernel_rfl)) rfl (fun v => by kernel_rfl)
theorem ok_r20_Index_Find_l0 (n k : Nat) : SoundC Try.prog (Go.Func.ntmps Try.f36) (.loop (bodyOf Try.f36 0)) (wr (bodyOf Try.f36 0)) (C_36_0 (S_r20_Index_Find_l0 n k)) :=
  loop_go (K := fun k => [S_r20_Index_Find_l0 n k]) (fun _ => rfl) (by kernel_rfl) ⟨z_go fun _ => by kernel_rfl, trivial⟩ (fun k => ⟨rd_r20_Index_Find_l0 n k, trivial⟩) k rfl
def F_r20_Index_Find (n : Nat) (x0 : Bool) (x1 : List (Int × List UInt8 × List UInt8 × Int × Int)) (x2 : Int) (x3 : List UInt8) : Tree ((List UInt8) × ((Int) × ((Int) × Bool))) :=
  .sub (F_r20_Index_Find_l0 n n x2 (0 : Int) x0 x1 x3 ([] : List UInt8) (0 : Int) (0 : Int)) fun y4 =>
  .alt y4 (fun y5 =>
  .ret (y5.1, y5.2.1, y5.2.2, true))
  fun y6 =>
  .ret (([] : List UInt8), (0 : Int), (0 : Int), false)
def S_r20_Index_Find (n : Nat) : Summ := mkS ⟨[(.agg (.pr (.ro false T5 []) .un)), (.val (.sint .i64) (0 : Int)), (.val (.arr 32 .u8) [])], [], 0⟩ [.c, .d T6, .d (.sint .i64), .d (.arr 32 .u8)] fun v => .sub (F_r20_Index_Find n (p0 v) (p1 v) (p2 v) (p3 v)) fun r => .ret ((.tup (.pr (.agg (.pr (.val .str r.1) (.pr (.val (.sint .i64) r.2.1) (.pr (.val (.sint .i64) r.2.2.1) .un)))) (.pr (.val .bool r.2.2.2) .un))), [], 0)
theorem ok_r20_Index_Find (n : Nat) : SoundF Try.prog 36 (S_r20_Index_Find n) :=
  fn_go true (c := codeOf Try.f36) (tab := mkTab []) (cuts := mkCuts [(0, C_36_0 (S_r20_Index_Find_l0 n n))]) Try.func36 (by kernel_rfl) .nil (CutsOK.list (l := [(0, .lp (bodyOf Try.f36 0))]) (by kernel_rfl) (LoopsOK.all ⟨.inr ⟨_, rfl, ok_r20_Index_Find_l0 n n⟩, trivial⟩)) (fun v => by kernel_rfl)
def C_64_2 : CutF → Cut := fun κ => ⟨[2, 8, 10, 11], fun e => match e with | .ex i => bif Nat.beq i 2 then [10] else bif Nat.beq i 1 then [] else bif Nat.beq i 0 then [] else [] | .rt => [] | .nm => [] | .go i => [], κ⟩
def F_r20_Index_Need_l2 (n : Nat) : Nat → (Bool) → (List (List UInt8)) → (Int) → (Bool) → (Int) → Tree Bool
 | 0 => fun  x0 x1 x2 x3 x4 => .fail
 | k + 1 => fun x0 x1 x2 x3 x4 =>
  .ite (decide (x4 < x2))
  (.ite x3
  (.sub (F_r20_Index_Need_l2 n k x0 x1 x2 true (w64 (x4 + (1 : Int)))) fun y5 =>
  .ret y5)
  (.get (getI x1 x4) fun y6 =>
  .get (getI x1 x2) fun y7 =>
  .sub (F_r20_Index_Need_l2 n k x0 x1 x2 (eqV (.arr 32 .u8) y6 y7) (w64 (x4 + (1 : Int)))) fun y8 =>
  .ret y8))
  (.ret x3)
def S_r20_Index_Need_l2 (n k : Nat) : CutF := mkS ⟨[(.ro false (.arr 32 .u8) []), (.val (.sint .i64) (0 : Int)), (.val .bool false), (.val (.sint .i64) (0 : Int))], [], 0⟩ [.c, .d (.list (.arr 32 .u8)), .d (.sint .i64), .d .bool, .d (.sint .i64)] fun v => .sub (F_r20_Index_Need_l2 n k (p0 v) (p1 v) (p2 v) (p3 v) (p4 v)) fun r => .ret (.ex 2, [(.val .bool r)], [], 0)
theorem rd_r20_Index_Need_l2 (n k : Nat) : Rounds Try.prog (Go.Func.ntmps Try.f64) (bodyOf Try.f64 2) C_64_2 [S_r20_Index_Need_l2 n k] (S_r20_Index_Need_l2 n (k + 1)) :=
  rounds_go (tab := mkTab []) (cuts := mkCuts []) (S_r20_Index_Need_l2 n k) [] .nil (.none0 (by kernel_rfl)) rfl (fun v => by kernel_rfl)
theorem ok_r20_Index_Need_l2 (n k : Nat) : SoundC Try.prog (Go.Func.ntmps Try.f64) (.loop (bodyOf Try.f64 2)) (wr (bodyOf Try.f64 2)) (C_64_2 (S_r20_Index_Need_l2 n k)) :=
  loop_go (K := fun k => [S_r20_Index_Need_l2 n k]) (fun _ => rfl) (by kernel_rfl) ⟨z_go fun _ => by kernel_rfl, trivial⟩ (fun k => ⟨rd_r20_Index_Need_l2 n k, trivial⟩) k rfl
def F_r20_Index_Need_l0 (n : Nat) : Nat → (Int) → (Bool) → (List (List UInt8)) → (Int) → (Bool) → (List (Int × List UInt8 × List UInt8 × Int × Int)) → (List (List UInt8)) → Tree (Unit ⊕ (List (List UInt8)))
 | 0 => fun  x0 x1 x2 x3 x4 x5 x6 => .fail
 | k + 1 => fun x0 x1 x2 x3 x4 x5 x6 =>
  .ite (decide (x3 < (ln x2)))
  (.get (getI x2 x3) fun y7 =>
  .get (Tree.run (F_r20_Index_Find n x4 x5 x0 y7)) fun y8 =>
  .sub (F_r20_Index_Need_l2 n n x1 x2 x3 y8.2.2.2 (0 : Int)) fun y9 =>
  .ite (!y9)
  (.get (getI x2 x3) fun y10 =>
  .get (appI 4398046511104 x6 (List.set ([(zs 32)] : List (List UInt8)) 0 y10)) fun y11 =>
  .sub (F_r20_Index_Need_l0 n k x0 x1 x2 (w64 (x3 + (1 : Int))) x4 x5 y11) fun y12 =>
  .alt y12 (fun y13 =>
  .ret (.inr y11))
  fun y14 =>
  .ret (.inr y14))
  (.sub (F_r20_Index_Need_l0 n k x0 x1 x2 (w64 (x3 + (1 : Int))) x4 x5 x6) fun y15 =>
  .alt y15 (fun y16 =>
  .ret (.inl ()))
  fun y17 =>
  .ret (.inr y17)))
  (.ret (.inl ()))
def S_r20_Index_Need_l0 (n k : Nat) : CutF := mkS ⟨[(.val (.sint .i64) (0 : Int)), (.ro false (.arr 32 .u8) []), (.ptr 0 0), (.whole 2 32), (.val (.sint .i64) (0 : Int))], [⟨0, 1, .box (.agg (.pr (.ro false T5 []) .un))⟩, ⟨2, 3, .row (.arr 32 .u8) []⟩], 4⟩ [.d (.sint .i64), .c, .d (.list (.arr 32 .u8)), .d (.sint .i64), .c, .d T6, .d (.list (.arr 32 .u8))] fun v => .sub (F_r20_Index_Need_l0 n k (p0 v) (p1 v) (p2 v) (p3 v) (p4 v) (p5 v) (p6 v)) fun r => .alt r (fun r => .ret (.ex 0, [(.whole 2 32)], [⟨2, 5, .row (.arr 32 .u8) (p6 v)⟩, ⟨0, 7, .box (.agg (.pr (.ro (p4 v) T5 (p5 v)) .un))⟩], 8)) (fun r => .ret (.ex 0, [(.whole 4 32)], [⟨4, 5, .row (.arr 32 .u8) r⟩, ⟨0, 7, .box (.agg (.pr (.ro (p4 v) T5 (p5 v)) .un))⟩], 8))
theorem rd_r20_Index_Need_l0 (n k : Nat) : Rounds Try.prog (Go.Func.ntmps Try.f64) (bodyOf Try.f64 0) C_64_0 [S_r20_Index_Need_l0 n k] (S_r20_Index_Need_l0 n (k + 1)) :=
  rounds_go (tab := mkTab [(36, ⟨S_r20_Index_Find n, [], [], true⟩)]) (cuts := mkCuts [(2, C_64_2 (S_r20_Index_Need_l2 n n))]) (S_r20_Index_Need_l0 n k) [] (.cons (ok_r20_Index_Find n) ⟨_, Try.func36, by kernel_rfl⟩ .nil) (CutsOK.list (l := [(2, .lp (bodyOf Try.f64 2))]) (by kernel_rfl) (LoopsOK.all ⟨.inr ⟨_, rfl, ok_r20_Index_Need_l2 n n⟩, trivial⟩)) rfl (fun v => by kernel_rfl)
theorem ok_r20_Index_Need_l0 (n k : Nat) : SoundC Try.prog (Go.Func.ntmps Try.f64) (.loop (bodyOf Try.f64 0)) (wr (bodyOf Try.f64 0)) (C_64_0 (S_r20_Index_Need_l0 n k)) :=
  loop_go (K := fun k => [S_r20_Index_Need_l0 n k]) (fun _ => rfl) (by kernel_rfl) ⟨z_go fun _ => by kernel_rfl, trivial⟩ (fun k => ⟨rd_r20_Index_Need_l0 n k, trivial⟩) k rfl
def F_r20_Index_Need (n : Nat) (x0 : Bool) (x1 : List (Int × List UInt8 × List UInt8 × Int × Int)) (x2 : Int) (x3 : Bool) (x4 : List (List UInt8)) : Tree (List (List UInt8)) :=
  .sub (F_r20_Index_Need_l0 n n x2 x3 x4 (0 : Int) x0 x1 ([] : List (List UInt8))) fun y5 =>
  .alt y5 (fun y6 =>
  .ret ([] : List (List UInt8)))
  fun y7 =>
  .ret y7
def S_r20_Index_Need (n : Nat) : Summ := mkS ⟨[(.agg (.pr (.ro false T5 []) .un)), (.val (.sint .i64) (0 : Int)), (.ro false (.arr 32 .u8) [])], [], 0⟩ [.c, .d T6, .d (.sint .i64), .c, .d (.list (.arr 32 .u8))] fun v => .sub (F_r20_Index_Need n (p0 v) (p1 v) (p2 v) (p3 v) (p4 v)) fun r => .ret ((.whole 0 32), [⟨0, 1, .row (.arr 32 .u8) r⟩], 2)
theorem ok_r20_Index_Need (n : Nat) : SoundF Try.prog 64 (S_r20_Index_Need n) :=
  fn_go false (c := codeOf Try.f64) (tab := mkTab []) (cuts := mkCuts [(0, C_64_0 (S_r20_Index_Need_l0 n n))]) Try.func64 (by kernel_rfl) .nil (CutsOK.list (l := [(0, .lp (bodyOf Try.f64 0))]) (by kernel_rfl) (LoopsOK.all ⟨.inr ⟨_, rfl, ok_r20_Index_Need_l0 n n⟩, trivial⟩)) (fun v => by kernel_rfl)
def C_62_0 : CutF → Cut := fun κ => ⟨[0, 1, 5], fun e => match e with | .ex i => bif Nat.beq i 0 then [] else [] | .rt => [4] | .nm => [] | .go i => [], κ⟩
def F_r20_SameIDs_l0 (n : Nat) : Nat → (Int) → (List (List UInt8)) → (List (List UInt8)) → Tree (Unit ⊕ Unit)
 | 0 => fun  x0 x1 x2 => .fail
 | k + 1 => fun x0 x1 x2 =>
  .ite (decide (x0 < (ln x1)))
  (.get (inI (List.length x1) x0) fun y3 =>
  .get (gt x1 (0 + y3)) fun y4 =>
  .get (inI (List.length x2) x0) fun y5 =>
  .get (gt x2 (0 + y5)) fun y6 =>
  .ite (!(eqV (.arr 32 .u8) y4 y6))
  (.ret (.inl ()))
  (.sub (F_r20_SameIDs_l0 n k (w64 (x0 + (1 : Int))) x1 x2) fun y7 =>
  .alt y7 (fun y8 =>
  .ret (.inl ()))
  fun y9 =>
  .ret (.inr ())))
  (.ret (.inr ()))
def S_r20_SameIDs_l0 (n k : Nat) : CutF := mkS ⟨[(.whole 0 32), (.whole 2 32), (.val (.sint .i64) (0 : Int))], [⟨0, 1, .row (.arr 32 .u8) []⟩, ⟨2, 3, .row (.arr 32 .u8) []⟩], 4⟩ [.d (.sint .i64), .d (.list (.arr 32 .u8)), .d (.list (.arr 32 .u8))] fun v => .sub (F_r20_SameIDs_l0 n k (p0 v) (p1 v) (p2 v)) fun r => .alt r (fun r => .ret (.rt, [(.val .bool false)], [⟨0, 5, .row (.arr 32 .u8) (p1 v)⟩, ⟨2, 7, .row (.arr 32 .u8) (p2 v)⟩], 8)) (fun r => .ret (.ex 0, [], [⟨0, 5, .row (.arr 32 .u8) (p1 v)⟩, ⟨2, 7, .row (.arr 32 .u8) (p2 v)⟩], 8))
theorem rd_r20_SameIDs_l0 (n k : Nat) : Rounds Try.prog (Go.Func.ntmps Try.f62) (bodyOf Try.f62 0) C_62_0 [S_r20_SameIDs_l0 n k] (S_r20_SameIDs_l0 n (k + 1)) :=
  rounds_go (tab := mkTab []) (cuts := mkCuts []) (S_r20_SameIDs_l0 n k) [] .nil (.none0 (by kernel_rfl)) rfl (fun v => by kernel_rfl)
theorem ok_r20_SameIDs_l0 (n k : Nat) : SoundC Try.prog (Go.Func.ntmps Try.f62) (.loop (bodyOf Try.f62 0)) (wr (bodyOf Try.f62 0)) (C_62_0 (S_r20_SameIDs_l0 n k)) :=
  loop_go (K := fun k => [S_r20_SameIDs_l0 n k]) (fun _ => rfl) (by kernel_rfl) ⟨z_go fun _ => by kernel_rfl, trivial⟩ (fun k => ⟨rd_r20_SameIDs_l0 n k, trivial⟩) k rfl
def F_r20_SameIDs (n : Nat) (x0 : List (List UInt8)) (x1 : List (List UInt8)) : Tree Bool :=
  .ite (!(decide ((ln x0) = (ln x1))))
  (.ret false)
  (.sub (F_r20_SameIDs_l0 n n (0 : Int) x0 x1) fun y2 =>
  .alt y2 (fun y3 =>
  .ret false)
  fun y4 =>
  .ret true)
def S_r20_SameIDs (n : Nat) : Summ := mkS ⟨[(.whole 0 32), (.whole 2 32)], [⟨0, 1, .row (.arr 32 .u8) []⟩, ⟨2, 3, .row (.arr 32 .u8) []⟩], 4⟩ [.d (.list (.arr 32 .u8)), .d (.list (.arr 32 .u8))] fun v => .sub (F_r20_SameIDs n (p0 v) (p1 v)) fun r => .ret ((.val .bool r), [⟨0, 5, .row (.arr 32 .u8) (p0 v)⟩, ⟨2, 7, .row (.arr 32 .u8) (p1 v)⟩], 8)
theorem ok_r20_SameIDs (n : Nat) : SoundF Try.prog 62 (S_r20_SameIDs n) :=
  fn_go true (c := codeOf Try.f62) (tab := mkTab []) (cuts := mkCuts [(0, C_62_0 (S_r20_SameIDs_l0 n n))]) Try.func62 (by kernel_rfl) .nil (CutsOK.list (l := [(0, .lp (bodyOf Try.f62 0))]) (by kernel_rfl) (LoopsOK.all ⟨.inr ⟨_, rfl, ok_r20_SameIDs_l0 n n⟩, trivial⟩)) (fun v => by kernel_rfl)
def F_index_Index_Packs (n : Nat) : Tree Unit :=
  .ret ()
def S_index_Index_Packs (n : Nat) : Summ := mkS ⟨[.nil], [], 0⟩ [] fun v => .sub (F_index_Index_Packs n) fun r => .ret ((.whole 0 1), [⟨0, 1, .row .str ([] : List (List UInt8))⟩], 2)
theorem ok_index_Index_Packs (n : Nat) : SoundF Try.prog 65 (S_index_Index_Packs n) :=
  fn_go false (c := codeOf Try.f65) (tab := mkTab []) (cuts := mkCuts []) Try.func65 (by kernel_rfl) .nil (CutsOK.list (l := [(0, .lp (bodyOf Try.f65 0))]) (by kernel_rfl) (LoopsOK.all ⟨.inl rfl, trivial⟩)) (fun v => by kernel_rfl)
def F_index_Index_Keep (n : Nat) : Tree Unit :=
  .ret ()
def S_index_Index_Keep (n : Nat) : Summ := mkS ⟨[.nil, (.whole 0 1)], [⟨0, 1, .row .str []⟩], 2⟩ [.d (.list .str)] fun v => .sub (F_index_Index_Keep n) fun r => .ret (.nil, [⟨0, 3, .row .str (p0 v)⟩], 4)
theorem ok_index_Index_Keep (n : Nat) : SoundF Try.prog 66 (S_index_Index_Keep n) :=
  fn_go false (c := codeOf Try.f66) (tab := mkTab []) (cuts := mkCuts []) Try.func66 (by kernel_rfl) .nil (CutsOK.list (l := [(0, .lp (bodyOf Try.f66 0))]) (by kernel_rfl) (LoopsOK.all ⟨.inl rfl, trivial⟩)) (fun v => by kernel_rfl)
def F_index_Index_Copy (n : Nat) : Tree Unit :=
  .ret ()
def S_index_Index_Copy (n : Nat) : Summ := mkS ⟨[.nil], [], 0⟩ [] fun v => .sub (F_index_Index_Copy n) fun r => .ret (.nil, [], 0)
theorem ok_index_Index_Copy (n : Nat) : SoundF Try.prog 67 (S_index_Index_Copy n) :=
  fn_go false (c := codeOf Try.f67) (tab := mkTab []) (cuts := mkCuts []) Try.func67 (by kernel_rfl) .nil (.none0 (by kernel_rfl)) (fun v => by kernel_rfl)
def F_w20_IndexNobody (n : Nat) (x0 : Int) (x1 : Bool) (x2 : List (List UInt8)) : Tree Bool :=
  .ite (decide ((60 : Int) < (ln x2)))
  (.sub (F_w20_awake n) fun y3 =>
  .ret y3)
  (.sub (F_index_Index_Find_1 n) fun y4 =>
  .get (Tree.run (F_index_Index_Add_1 n)) fun y5 =>
  .ite true
  (.get (Tree.run (F_index_New n)) fun y6 =>
  .get (Tree.run (F_index_Index_Merge n)) fun y7 =>
  .ite true
  (.ite true
  (.ite true
  (.get (Tree.run (F_index_Index_Len_1 n)) fun y8 =>
  .ite true
  (.get (Tree.run (F_index_Index_List n)) fun y9 =>
  .ite true
  (.get (Tree.run (F_index_Index_Need_1 n x0 x1 x2)) fun y10 =>
  .get (Tree.run (F_r20_Index_Need n false ([] : List (Int × ((List UInt8) × ((List UInt8) × (Int × Int))))) x0 x1 x2)) fun y11 =>
  .get (Tree.run (F_r20_SameIDs n y10 y11)) fun y12 =>
  .ite y12
  (.get (Tree.run (F_index_Index_Packs n)) fun y13 =>
  .ite true
  (.get (Tree.run (F_index_Index_Keep n)) fun y14 =>
  .get (Tree.run (F_index_Index_Copy n)) fun y15 =>
  .get (Tree.run (F_w20_awake n)) fun y16 =>
  .ret y16)
  (.ret false))
  (.ret false))
  (.ret false))
  (.ret false))
  (.ret false))
  (.ret false))
  (.ret false))
  (.ret false))
def S_w20_IndexNobody (n : Nat) : Summ := mkS ⟨[(.agg (.pr (.val (.sint .i64) (0 : Int)) (.pr (.val (.arr 32 .u8) []) (.pr (.agg (.pr (.val .str []) (.pr (.val (.sint .i64) (0 : Int)) (.pr (.val (.sint .i64) (0 : Int)) .un)))) .un)))), (.ro false (.arr 32 .u8) [])], [], 0⟩ [.d (.sint .i64), .d (.arr 32 .u8), .d .str, .d (.sint .i64), .d (.sint .i64), .c, .d (.list (.arr 32 .u8))] fun v => .sub (F_w20_IndexNobody n (p0 v) (p5 v) (p6 v)) fun r => .ret ((.val .bool r), [], 0)
theorem ok_w20_IndexNobody (n : Nat) : SoundF Try.prog 14 (S_w20_IndexNobody n) :=
  fn_go true (c := codeOf Try.f14) (tab := mkTab [(28, ⟨S_w20_awake n, [], [], false⟩), (35, ⟨S_index_Index_Find_1 n, [], [], false⟩), (60, ⟨S_index_Index_Add_1 n, [], [], false⟩), (61, ⟨S_index_New n, [], [], false⟩), (42, ⟨S_index_Index_Merge n, [], [], false⟩), (41, ⟨S_index_Index_Len_1 n, [], [], false⟩), (39, ⟨S_index_Index_List n, [], [], false⟩), (63, ⟨S_index_Index_Need_1 n, [], [], false⟩), (64, ⟨S_r20_Index_Need n, [], [], true⟩), (62, ⟨S_r20_SameIDs n, [], [], true⟩), (65, ⟨S_index_Index_Packs n, [], [], false⟩), (66, ⟨S_index_Index_Keep n, [], [], false⟩), (67, ⟨S_index_Index_Copy n, [], [], false⟩)]) (cuts := mkCuts []) Try.func14 (by kernel_rfl) (.cons (ok_w20_awake n) ⟨_, Try.func28, by kernel_rfl⟩ (.cons (ok_index_Index_Find_1 n) ⟨_, Try.func35, by kernel_rfl⟩ (.cons (ok_index_Index_Add_1 n) ⟨_, Try.func60, by kernel_rfl⟩ (.cons (ok_index_New n) ⟨_, Try.func61, by kernel_rfl⟩ (.cons (ok_index_Index_Merge n) ⟨_, Try.func42, by kernel_rfl⟩ (.cons (ok_index_Index_Len_1 n) ⟨_, Try.func41, by kernel_rfl⟩ (.cons (ok_index_Index_List n) ⟨_, Try.func39, by kernel_rfl⟩ (.cons (ok_index_Index_Need_1 n) ⟨_, Try.func63, by kernel_rfl⟩ (.cons (ok_r20_Index_Need n) ⟨_, Try.func64, by kernel_rfl⟩ (.cons (ok_r20_SameIDs n) ⟨_, Try.func62, by kernel_rfl⟩ (.cons (ok_index_Index_Packs n) ⟨_, Try.func65, by kernel_rfl⟩ (.cons (ok_index_Index_Keep n) ⟨_, Try.func66, by kernel_rfl⟩ (.cons (ok_index_Index_Copy n) ⟨_, Try.func67, by kernel_rfl⟩ .nil))))))))))))) (.none0 (by kernel_rfl)) (fun v => by kernel_rfl)
def C_34_0 : CutF → Cut := fun κ => ⟨[0, 5, 6, 7, 8], fun e => match e with | .ex i => bif Nat.beq i 0 then [7] else [] | .rt => [] | .nm => [] | .go i => [], κ⟩
def C_16_0 : CutF → Cut := fun κ => ⟨[0, 3], fun e => match e with | .ex i => bif Nat.beq i 0 then [] else [] | .rt => [2] | .nm => [] | .go i => [], κ⟩
def F_r16_Named_l0 (n : Nat) : Nat → (List UInt8) → (Int) → Tree (Unit ⊕ Unit)
 | 0 => fun  x0 x1 => .fail
 | k + 1 => fun x0 x1 =>
  .ite (decide (x1 < (ln x0)))
  (.get (getI x0 x1) fun y2 =>
  .ite (decide ((97 : UInt8) ≤ y2))
  (.get (getI x0 x1) fun y3 =>
  .get (getI x0 x1) fun y4 =>
  .ite (decide ((48 : UInt8) ≤ y4))
  (.get (getI x0 x1) fun y5 =>
  .ite ((!(decide (y3 ≤ (122 : UInt8)))) && (!(decide (y5 ≤ (57 : UInt8)))))
  (.ret (.inl ()))
  (.sub (F_r16_Named_l0 n k x0 (w64 (x1 + (1 : Int)))) fun y6 =>
  .alt y6 (fun y7 =>
  .ret (.inl ()))
  fun y8 =>
  .ret (.inr ())))
  (.ite (!(decide (y3 ≤ (122 : UInt8))))
  (.ret (.inl ()))
  (.sub (F_r16_Named_l0 n k x0 (w64 (x1 + (1 : Int)))) fun y9 =>
  .alt y9 (fun y10 =>
  .ret (.inl ()))
  fun y11 =>
  .ret (.inr ()))))
  (.get (getI x0 x1) fun y12 =>
  .ite (decide ((48 : UInt8) ≤ y12))
  (.get (getI x0 x1) fun y13 =>
  .ite (!(decide (y13 ≤ (57 : UInt8))))
  (.ret (.inl ()))
  (.sub (F_r16_Named_l0 n k x0 (w64 (x1 + (1 : Int)))) fun y14 =>
  .alt y14 (fun y15 =>
  .ret (.inl ()))
  fun y16 =>
  .ret (.inr ())))
  (.ret (.inl ()))))
  (.ret (.inr ()))
def S_r16_Named_l0 (n k : Nat) : CutF := mkS ⟨[(.val .str []), (.val (.sint .i64) (0 : Int))], [], 0⟩ [.d .str, .d (.sint .i64)] fun v => .sub (F_r16_Named_l0 n k (p0 v) (p1 v)) fun r => .alt r (fun r => .ret (.rt, [(.val .bool false)], [], 0)) (fun r => .ret (.ex 0, [], [], 0))
theorem rd_r16_Named_l0 (n k : Nat) : Rounds Try.prog (Go.Func.ntmps Try.f16) (bodyOf Try.f16 0) C_16_0 [S_r16_Named_l0 n k] (S_r16_Named_l0 n (k + 1)) :=
  rounds_go (tab := mkTab []) (cuts := mkCuts []) (S_r16_Named_l0 n k) [] .nil (.none0 (by kernel_rfl)) rfl (fun v => by kernel_rfl)
theorem ok_r16_Named_l0 (n k : Nat) : SoundC Try.prog (Go.Func.ntmps Try.f16) (.loop (bodyOf Try.f16 0)) (wr (bodyOf Try.f16 0)) (C_16_0 (S_r16_Named_l0 n k)) :=
  loop_go (K := fun k => [S_r16_Named_l0 n k]) (fun _ => rfl) (by kernel_rfl) ⟨z_go fun _ => by kernel_rfl, trivial⟩ (fun k => ⟨rd_r16_Named_l0 n k, trivial⟩) k rfl
def F_r16_Named (n : Nat) (x0 : List UInt8) : Tree Bool :=
  .sub (F_r16_Named_l0 n n x0 (0 : Int)) fun y1 =>
  .alt y1 (fun y2 =>
  .ret false)
  fun y3 =>
  .ret ((decide ((1 : Int) ≤ (ln x0))) && (decide ((ln x0) ≤ (32 : Int))))
def S_r16_Named (n : Nat) : Summ := mkS ⟨[(.val .str [])], [], 0⟩ [.d .str] fun v => .sub (F_r16_Named n (p0 v)) fun r => .ret ((.val .bool r), [], 0)
theorem ok_r16_Named (n : Nat) : SoundF Try.prog 16 (S_r16_Named n) :=
  fn_go true (c := codeOf Try.f16) (tab := mkTab []) (cuts := mkCuts [(0, C_16_0 (S_r16_Named_l0 n n))]) Try.func16 (by kernel_rfl) .nil (CutsOK.list (l := [(0, .lp (bodyOf Try.f16 0))]) (by kernel_rfl) (LoopsOK.all ⟨.inr ⟨_, rfl, ok_r16_Named_l0 n n⟩, trivial⟩)) (fun v => by kernel_rfl)
def F_r20_Right (n : Nat) (x0 : Int) (x1 : List UInt8) (x2 : Int) (x3 : Int) : Tree Bool :=
  .ite (decide (x0 < (1 : Int)))
  (.ret false)
  (.ite (decide ((3 : Int) < x0))
  (.ret false)
  (.sub (F_r16_Named n x1) fun y4 =>
  .ite (!y4)
  (.ret false)
  (.ite ((decide (x2 < (8 : Int))) || ((decide ((65536 : Int) < x2)) || ((decide (x3 < (28 : Int))) || (decide ((65536 : Int) < x3)))))
  (.ret false)
  (.ret (decide ((w64 (x2 + x3)) ≤ (65536 : Int)))))))
def S_r20_Right (n : Nat) : Summ := mkS ⟨[(.agg (.pr (.val (.sint .i64) (0 : Int)) (.pr (.val (.arr 32 .u8) []) (.pr (.agg (.pr (.val .str []) (.pr (.val (.sint .i64) (0 : Int)) (.pr (.val (.sint .i64) (0 : Int)) .un)))) .un))))], [], 0⟩ [.d (.sint .i64), .d (.arr 32 .u8), .d .str, .d (.sint .i64), .d (.sint .i64)] fun v => .sub (F_r20_Right n (p0 v) (p2 v) (p3 v) (p4 v)) fun r => .ret ((.val .bool r), [], 0)
theorem ok_r20_Right (n : Nat) : SoundF Try.prog 38 (S_r20_Right n) :=
  fn_go true (c := codeOf Try.f38) (tab := mkTab [(16, ⟨S_r16_Named n, [], [], true⟩)]) (cuts := mkCuts []) Try.func38 (by kernel_rfl) (.cons (ok_r16_Named n) ⟨_, Try.func16, by kernel_rfl⟩ .nil) (.none0 (by kernel_rfl)) (fun v => by kernel_rfl)
def F_r20_Index_Add (n : Nat) (x0 : Bool) (x1 : List (Int × List UInt8 × List UInt8 × Int × Int)) (x2 : Int) (x3 : List UInt8) (x4 : List UInt8) (x5 : Int) (x6 : Int) : Tree ((Bool) × ((List (Int × List UInt8 × List UInt8 × Int × Int)) × Int)) :=
  .sub (F_r20_Right n x2 x4 x5 x6) fun y7 =>
  .ite (!y7)
  (.ret (x0, x1, (1 : Int)))
  (.sub (F_r20_Index_Find n x0 x1 x2 x3) fun y8 =>
  .ite y8.2.2.2
  (.ret (x0, x1, (19 : Int)))
  (.get (appI 1954687338268 ([] : List (Int × ((List UInt8) × ((List UInt8) × (Int × Int))))) x1) fun y9 =>
  .get (appI 1954687338268 y9 (List.set ([((0 : Int), ((zs 32), (([] : List UInt8), ((0 : Int), (0 : Int)))))] : List (Int × ((List UInt8) × ((List UInt8) × (Int × Int))))) 0 (x2, (x3, (x4, (x5, x6)))))) fun y10 =>
  .ret (false, y10, (0 : Int))))
def S_r20_Index_Add (n : Nat) : Summ := mkS ⟨[(.agg (.pr (.ro false T5 []) .un)), (.agg (.pr (.val (.sint .i64) (0 : Int)) (.pr (.val (.arr 32 .u8) []) (.pr (.agg (.pr (.val .str []) (.pr (.val (.sint .i64) (0 : Int)) (.pr (.val (.sint .i64) (0 : Int)) .un)))) .un))))], [], 0⟩ [.c, .d T6, .d (.sint .i64), .d (.arr 32 .u8), .d .str, .d (.sint .i64), .d (.sint .i64)] fun v => .sub (F_r20_Index_Add n (p0 v) (p1 v) (p2 v) (p3 v) (p4 v) (p5 v) (p6 v)) fun r => .ret ((.tup (.pr (.agg (.pr (.ro r.1 T5 r.2.1) .un)) (.pr (.val (.sint .i64) r.2.2) .un))), [], 0)
theorem ok_r20_Index_Add (n : Nat) : SoundF Try.prog 87 (S_r20_Index_Add n) :=
  fn_go true (c := codeOf Try.f87) (tab := mkTab [(38, ⟨S_r20_Right n, [], [], true⟩), (36, ⟨S_r20_Index_Find n, [], [], true⟩)]) (cuts := mkCuts []) Try.func87 (by kernel_rfl) (.cons (ok_r20_Right n) ⟨_, Try.func38, by kernel_rfl⟩ (.cons (ok_r20_Index_Find n) ⟨_, Try.func36, by kernel_rfl⟩ .nil)) (.none0 (by kernel_rfl)) (fun v => by kernel_rfl)
def F_w20_both_l0_1 (n : Nat) : Nat → (Bool) → (List (Int × List UInt8 × List UInt8 × Int × Int)) → (Bool) → (Int) → (List ((Int × List UInt8) × List UInt8 × Int × Int)) → (Bool) → (List (Int × List UInt8 × List UInt8 × Int × Int)) → Tree (((Bool) × ((Bool) × (List (Int × List UInt8 × List UInt8 × Int × Int)))) ⊕ ((Bool) × ((List ((Int × List UInt8) × List UInt8 × Int × Int)) × ((Bool) × (List (Int × List UInt8 × List UInt8 × Int × Int))))))
 | 0 => fun  x0 x1 x2 x3 x4 x5 x6 => .fail
 | k + 1 => fun x0 x1 x2 x3 x4 x5 x6 =>
  .ite ((decide (x3 < (ln x1))) && (decide (x3 < (60 : Int))))
  (.get (getI x1 x3) fun y7 =>
  .get (Tree.run (F_r20_Index_Add n x5 x6 y7.1 y7.2.1 y7.2.2.1 y7.2.2.2.1 y7.2.2.2.2)) fun y8 =>
  .get (getI x1 x3) fun y9 =>
  .sub (F_index_Index_Add n y9.1 y9.2.1 y9.2.2.1 y9.2.2.2.1 y9.2.2.2.2 x4) fun y10 =>
  .alt y10 (fun y11 =>
  .sub (F_w20_both_l0_1 n k x0 x1 ((decide (y11 = y8.2.2)) && x2) (w64 (x3 + (1 : Int))) x4 y8.1 y8.2.1) fun y12 =>
  .alt y12 (fun y13 =>
  .ret (.inl (y13.1, y13.2.1, y13.2.2)))
  fun y14 =>
  .ret (.inr (y14.1, y14.2.1, y14.2.2.1, y14.2.2.2)))
  fun y15 =>
  .sub (F_w20_both_l0_1 n k x0 x1 ((decide ((0 : Int) = y8.2.2)) && x2) (w64 (x3 + (1 : Int))) y15 y8.1 y8.2.1) fun y16 =>
  .alt y16 (fun y17 =>
  .ret (.inr (y17.1, y15, y17.2.1, y17.2.2)))
  fun y18 =>
  .ret (.inr (y18.1, y18.2.1, y18.2.2.1, y18.2.2.2)))
  (.ret (.inl (x2, x5, x6)))
def S_w20_both_l0_1 (n k : Nat) : CutF := mkS ⟨[(.ro false T5 []), (.ptr 0 0), (.ptr 4 0), (.val .bool false), (.val (.sint .i64) (0 : Int))], [⟨0, 1, .box (.agg (.pr (.mpv 2) .un))⟩, ⟨2, 3, .mp T1 T2 []⟩, ⟨4, 5, .box (.agg (.pr (.ro false T5 []) .un))⟩], 6⟩ [.c, .d T6, .d .bool, .d (.sint .i64), .d T3, .c, .d T6] fun v => .sub (F_w20_both_l0_1 n k (p0 v) (p1 v) (p2 v) (p3 v) (p4 v) (p5 v) (p6 v)) fun r => .alt r (fun r => .ret (.ex 0, [(.val .bool r.1)], [⟨0, 7, .box (.agg (.pr (.mpv 2) .un))⟩, ⟨2, 3, .mp T1 T2 (p4 v)⟩, ⟨4, 11, .box (.agg (.pr (.ro r.2.1 T5 r.2.2) .un))⟩], 12)) (fun r => .ret (.ex 0, [(.val .bool r.1)], [⟨0, 7, .box (.agg (.pr (.mpv 2) .un))⟩, ⟨2, 9, .mp T1 T2 r.2.1⟩, ⟨4, 11, .box (.agg (.pr (.ro r.2.2.1 T5 r.2.2.2) .un))⟩], 12))
theorem rd_w20_both_l0_1 (n k : Nat) : Rounds Try.prog (Go.Func.ntmps Try.f34) (bodyOf Try.f34 0) C_34_0 [S_w20_both_l0_1 n k] (S_w20_both_l0_1 n (k + 1)) :=
  rounds_go (tab := mkTab [(87, ⟨S_r20_Index_Add n, [], [], true⟩), (60, ⟨S_index_Index_Add n, [], [], false⟩)]) (cuts := mkCuts []) (S_w20_both_l0_1 n k) [] (.cons (ok_r20_Index_Add n) ⟨_, Try.func87, by kernel_rfl⟩ (.cons (ok_index_Index_Add n) ⟨_, Try.func60, by kernel_rfl⟩ .nil)) (.none0 (by kernel_rfl)) rfl (fun v => by kernel_rfl)
theorem ok_w20_both_l0_1 (n k : Nat) : SoundC Try.prog (Go.Func.ntmps Try.f34) (.loop (bodyOf Try.f34 0)) (wr (bodyOf Try.f34 0)) (C_34_0 (S_w20_both_l0_1 n k)) :=
  loop_go (K := fun k => [S_w20_both_l0_1 n k]) (fun _ => rfl) (by kernel_rfl) ⟨z_go fun _ => by kernel_rfl, trivial⟩ (fun k => ⟨rd_w20_both_l0_1 n k, trivial⟩) k rfl
def F_w20_both_l0 (n : Nat) : Nat → (Bool) → (List (Int × List UInt8 × List UInt8 × Int × Int)) → (Bool) → (Int) → (List ((Int × List UInt8) × List UInt8 × Int × Int)) → (List (Int × List UInt8 × List UInt8 × Int × Int)) → Tree (((Bool) × ((Bool) × (List (Int × List UInt8 × List UInt8 × Int × Int)))) ⊕ (((Bool) × ((List ((Int × List UInt8) × List UInt8 × Int × Int)) × ((Bool) × (List (Int × List UInt8 × List UInt8 × Int × Int))))) ⊕ Unit))
 | 0 => fun  x0 x1 x2 x3 x4 x5 => .fail
 | k + 1 => fun x0 x1 x2 x3 x4 x5 =>
  .ite ((decide (x3 < (ln x1))) && (decide (x3 < (60 : Int))))
  (.get (getI x1 x3) fun y6 =>
  .get (Tree.run (F_r20_Index_Add n false x5 y6.1 y6.2.1 y6.2.2.1 y6.2.2.2.1 y6.2.2.2.2)) fun y7 =>
  .get (getI x1 x3) fun y8 =>
  .sub (F_index_Index_Add n y8.1 y8.2.1 y8.2.2.1 y8.2.2.2.1 y8.2.2.2.2 x4) fun y9 =>
  .alt y9 (fun y10 =>
  .sub (F_w20_both_l0_1 n k x0 x1 ((decide (y10 = y7.2.2)) && x2) (w64 (x3 + (1 : Int))) x4 y7.1 y7.2.1) fun y11 =>
  .alt y11 (fun y12 =>
  .ret (.inl (y12.1, y12.2.1, y12.2.2)))
  fun y13 =>
  .ret (.inr (.inl (y13.1, y13.2.1, y13.2.2.1, y13.2.2.2))))
  fun y14 =>
  .sub (F_w20_both_l0_1 n k x0 x1 ((decide ((0 : Int) = y7.2.2)) && x2) (w64 (x3 + (1 : Int))) y14 y7.1 y7.2.1) fun y15 =>
  .alt y15 (fun y16 =>
  .ret (.inr (.inl (y16.1, y14, y16.2.1, y16.2.2))))
  fun y17 =>
  .ret (.inr (.inl (y17.1, y17.2.1, y17.2.2.1, y17.2.2.2))))
  (.ret (.inr (.inr ())))
def S_w20_both_l0 (n k : Nat) : CutF := mkS ⟨[(.ro false T5 []), (.ptr 0 0), (.ptr 4 0), (.val .bool false), (.val (.sint .i64) (0 : Int))], [⟨0, 1, .box (.agg (.pr (.mpv 2) .un))⟩, ⟨2, 3, .mp T1 T2 []⟩, ⟨4, 5, .box (.agg (.pr (.whole 6 36) .un))⟩, ⟨6, 7, .row T5 []⟩], 8⟩ [.c, .d T6, .d .bool, .d (.sint .i64), .d T3, .d T6] fun v => .sub (F_w20_both_l0 n k (p0 v) (p1 v) (p2 v) (p3 v) (p4 v) (p5 v)) fun r => .alt r (fun r => .ret (.ex 0, [(.val .bool r.1)], [⟨0, 9, .box (.agg (.pr (.mpv 2) .un))⟩, ⟨2, 3, .mp T1 T2 (p4 v)⟩, ⟨4, 13, .box (.agg (.pr (.ro r.2.1 T5 r.2.2) .un))⟩], 14)) (fun r => .alt r (fun r => .ret (.ex 0, [(.val .bool r.1)], [⟨0, 9, .box (.agg (.pr (.mpv 2) .un))⟩, ⟨2, 11, .mp T1 T2 r.2.1⟩, ⟨4, 13, .box (.agg (.pr (.ro r.2.2.1 T5 r.2.2.2) .un))⟩], 14)) (fun r => .ret (.ex 0, [(.val .bool (p2 v))], [⟨0, 9, .box (.agg (.pr (.mpv 2) .un))⟩, ⟨2, 3, .mp T1 T2 (p4 v)⟩, ⟨4, 13, .box (.agg (.pr (.whole 14 36) .un))⟩, ⟨14, 15, .row T5 (p5 v)⟩], 16)))
theorem rd_w20_both_l0 (n k : Nat) : Rounds Try.prog (Go.Func.ntmps Try.f34) (bodyOf Try.f34 0) C_34_0 [S_w20_both_l0 n k, S_w20_both_l0_1 n k] (S_w20_both_l0 n (k + 1)) :=
  rounds_go (tab := mkTab [(87, ⟨S_r20_Index_Add n, [], [], true⟩), (60, ⟨S_index_Index_Add n, [], [], false⟩)]) (cuts := mkCuts []) (S_w20_both_l0 n k) [S_w20_both_l0_1 n k] (.cons (ok_r20_Index_Add n) ⟨_, Try.func87, by kernel_rfl⟩ (.cons (ok_index_Index_Add n) ⟨_, Try.func60, by kernel_rfl⟩ .nil)) (.none0 (by kernel_rfl)) rfl (fun v => by kernel_rfl)
theorem ok_w20_both_l0 (n k : Nat) : SoundC Try.prog (Go.Func.ntmps Try.f34) (.loop (bodyOf Try.f34 0)) (wr (bodyOf Try.f34 0)) (C_34_0 (S_w20_both_l0 n k)) :=
  loop_go (K := fun k => [S_w20_both_l0 n k, S_w20_both_l0_1 n k]) (fun _ => rfl) (by kernel_rfl) ⟨z_go fun _ => by kernel_rfl, z_go fun _ => by kernel_rfl, trivial⟩ (fun k => ⟨rd_w20_both_l0 n k, (rd_w20_both_l0_1 n k).mono (List.forall_mem_cons.2 ⟨(.tail _ (.head _)), (fun _ h => by cases h)⟩), trivial⟩) k rfl
def F_w20_both (n : Nat) (x0 : Bool) (x1 : List (Int × List UInt8 × List UInt8 × Int × Int)) : Tree ((Bool) × ((List (Int × List UInt8 × List UInt8 × Int × Int)) × ((Bool) × (List ((Int × List UInt8) × List UInt8 × Int × Int))))) :=
  .sub (F_index_New n) fun y2 =>
  .sub (F_w20_both_l0 n n x0 x1 true (0 : Int) ([] : List ((Int × (List UInt8)) × ((List UInt8) × (Int × Int)))) ([] : List (Int × ((List UInt8) × ((List UInt8) × (Int × Int)))))) fun y3 =>
  .alt y3 (fun y4 =>
  .ret (y4.2.1, y4.2.2, y4.1, ([] : List ((Int × (List UInt8)) × ((List UInt8) × (Int × Int))))))
  fun y5 =>
  .alt y5 (fun y6 =>
  .ret (y6.2.2.1, y6.2.2.2, y6.1, y6.2.1))
  fun y7 =>
  .ret (false, ([] : List (Int × ((List UInt8) × ((List UInt8) × (Int × Int))))), true, ([] : List ((Int × (List UInt8)) × ((List UInt8) × (Int × Int)))))
def S_w20_both (n : Nat) : Summ := mkS ⟨[(.ro false T5 [])], [], 0⟩ [.c, .d T6] fun v => .sub (F_w20_both n (p0 v) (p1 v)) fun r => .ret ((.tup (.pr (.ptr 0 0) (.pr (.agg (.pr (.ro r.1 T5 r.2.1) .un)) (.pr (.val .bool r.2.2.1) .un)))), [⟨0, 1, .box (.agg (.pr (.mpv 2) .un))⟩, ⟨2, 3, .mp T1 T2 r.2.2.2⟩], 4)
theorem ok_w20_both (n : Nat) : SoundF Try.prog 34 (S_w20_both n) :=
  fn_go true (c := codeOf Try.f34) (tab := mkTab [(61, ⟨S_index_New n, [], [], false⟩)]) (cuts := mkCuts [(0, C_34_0 (S_w20_both_l0 n n))]) Try.func34 (by kernel_rfl) (.cons (ok_index_New n) ⟨_, Try.func61, by kernel_rfl⟩ .nil) (CutsOK.list (l := [(0, .lp (bodyOf Try.f34 0))]) (by kernel_rfl) (LoopsOK.all ⟨.inr ⟨_, rfl, ok_w20_both_l0 n n⟩, trivial⟩)) (fun v => by kernel_rfl)
def C_39_0 : CutF → Cut := fun κ => ⟨[3, 12], fun e => match e with | .ex i => bif Nat.beq i 0 then [3] else [] | .rt => [] | .nm => [] | .go i => [], κ⟩
def F_index_Index_List_l0 (n : Nat) : Nat → (List (Int × List UInt8 × List UInt8 × Int × Int)) → (List ((Int × List UInt8) × List UInt8 × Int × Int)) → (List ((Int × List UInt8) × List UInt8 × Int × Int)) → Tree (Unit ⊕ ((List (Int × List UInt8 × List UInt8 × Int × Int)) × (List ((Int × List UInt8) × List UInt8 × Int × Int))))
 | 0 => fun  x0 x1 x2 => .fail
 | k + 1 => fun x0 x1 x2 =>
  .ite (List.isEmpty x1)
  (.ret (.inl ()))
  (.all (fun (p3 : (((Int × (List UInt8)) × ((List UInt8) × (Int × Int))) × (List ((Int × (List UInt8)) × ((List UInt8) × (Int × Int)))))) => (List.Perm (p3.1 :: p3.2) x1)) fun y4 =>
  .get (appI 1954687338268 x0 (List.set ([((0 : Int), ((zs 32), (([] : List UInt8), ((0 : Int), (0 : Int)))))] : List (Int × ((List UInt8) × ((List UInt8) × (Int × Int))))) 0 (y4.1.1.1, (y4.1.1.2, (y4.1.2.1, (y4.1.2.2.1, y4.1.2.2.2)))))) fun y5 =>
  .sub (F_index_Index_List_l0 n k y5 y4.2 x2) fun y6 =>
  .alt y6 (fun y7 =>
  .ret (.inr (y5, y4.2)))
  fun y8 =>
  .ret (.inr (y8.1, y8.2)))
def S_index_Index_List_l0 (n k : Nat) : CutF := mkS ⟨[(.whole 0 36), (.ptr 2 0)], [⟨0, 1, .row T5 []⟩, ⟨2, 3, .it 4 5 T1 T2 []⟩, ⟨4, 5, .mp T1 T2 []⟩], 6⟩ [.d T6, .d T3, .d T3] fun v => .sub (F_index_Index_List_l0 n k (p0 v) (p1 v) (p2 v)) fun r => .alt r (fun r => .ret (.ex 0, [(.whole 0 36)], [⟨0, 7, .row T5 (p0 v)⟩, ⟨4, 5, .mp T1 T2 (p2 v)⟩, ⟨2, 11, .it 4 5 T1 T2 (p1 v)⟩], 12)) (fun r => .ret (.ex 0, [(.whole 6 36)], [⟨6, 7, .row T5 r.1⟩, ⟨4, 5, .mp T1 T2 (p2 v)⟩, ⟨2, 11, .it 4 5 T1 T2 r.2⟩], 12))
theorem rd_index_Index_List_l0 (n k : Nat) : Rounds Try.prog (Go.Func.ntmps Try.f39) (bodyOf Try.f39 0) C_39_0 [S_index_Index_List_l0 n k] (S_index_Index_List_l0 n (k + 1)) :=
  rounds_go (tab := mkTab []) (cuts := mkCuts []) (S_index_Index_List_l0 n k) [] .nil (.none0 (by kernel_rfl)) rfl (fun v => by kernel_rfl)
theorem ok_index_Index_List_l0 (n k : Nat) : SoundC Try.prog (Go.Func.ntmps Try.f39) (.loop (bodyOf Try.f39 0)) (wr (bodyOf Try.f39 0)) (C_39_0 (S_index_Index_List_l0 n k)) :=
  loop_go (K := fun k => [S_index_Index_List_l0 n k]) (fun _ => rfl) (by kernel_rfl) ⟨z_go fun _ => by kernel_rfl, trivial⟩ (fun k => ⟨rd_index_Index_List_l0 n k, trivial⟩) k rfl
def F_index_Index_List_1_raw (n : Nat) (x0 : List ((Int × List UInt8) × List UInt8 × Int × Int)) : Tree (List (Int × List UInt8 × List UInt8 × Int × Int)) :=
  .sub (F_index_Index_List_l0 n n ([] : List (Int × ((List UInt8) × ((List UInt8) × (Int × Int))))) x0 x0) fun y1 =>
  .alt y1 (fun y2 =>
  .get (sortF goodK ordK ([] : List (Int × ((List UInt8) × ((List UInt8) × (Int × Int)))))) fun y3 =>
  .ret y3)
  fun y4 =>
  .get (sortF goodK ordK y4.1) fun y5 =>
  .ret y5
def S_index_Index_List_1_raw (n : Nat) : Summ := mkS ⟨[(.ptr 0 0)], [⟨0, 1, .box (.agg (.pr (.mpv 2) .un))⟩, ⟨2, 3, .mp T1 T2 []⟩], 4⟩ [.d T3] fun v => .sub (F_index_Index_List_1_raw n (p0 v)) fun r => .ret ((.whole 4 36), [⟨4, 5, .row T5 r⟩, ⟨0, 7, .box (.agg (.pr (.mpv 2) .un))⟩, ⟨2, 9, .mp T1 T2 (p0 v)⟩], 10)
theorem ok_index_Index_List_1_raw (n : Nat) : SoundF Try.prog 39 (S_index_Index_List_1_raw n) :=
  fn_go false (c := codeOf Try.f39) (tab := mkTab [(88, ⟨S_sortKn, [], [], false⟩)]) (cuts := mkCuts [(0, C_39_0 (S_index_Index_List_l0 n n))]) Try.func39 (by kernel_rfl) (.consE ok_sortKnC .nil) (CutsOK.list (l := [(0, .lp (bodyOf Try.f39 0))]) (by kernel_rfl) (LoopsOK.all ⟨.inr ⟨_, rfl, ok_index_Index_List_l0 n n⟩, trivial⟩)) (fun v => by kernel_rfl)
theorem det_index_Index_List_1_l (n : Nat) (z : KnM) : ∀ (k : Nat) (acc : List KnD) (rest : KnM), rest.length < k → acc.length + rest.length ≤ 1000000 → (F_index_Index_List_l0 n k acc rest z).Runs fun r => (match r with | .inl _ => acc | .inr q => q.1).Perm (acc ++ rest.map kflat)
  | 0, acc, rest, h, h2 => by omega
  | k + 1, acc, [], h, h2 => ⟨fun _ => by show acc.Perm (acc ++ []); rw [List.append_nil], fun h => by cases h⟩
  | k + 1, acc, p0 :: rest0, h, h2 => by
    refine ⟨fun h => (Bool.false_ne_true h).elim, fun _ => ?_⟩
    rintro ⟨p, rest⟩ hp
    have hp : (p :: rest).Perm (p0 :: rest0) := hp
    have hlen : rest.length = rest0.length := by have := hp.length_eq; simpa using this
    simp only [List.length_cons] at h h2
    refine ⟨acc ++ [kflat p], kapp (by omega), ?_⟩
    refine Tree.Runs.mono (t := F_index_Index_List_l0 n k (acc ++ [kflat p]) rest z) (det_index_Index_List_1_l n z k (acc ++ [kflat p]) rest (by omega) (by simp; omega)) fun r hr => ?_
    have q : (acc ++ (p0 :: rest0).map kflat).Perm (acc ++ [kflat p] ++ rest.map kflat) := by
      rw [List.append_assoc]
      exact ((hp.symm.map kflat).append_left acc)
    cases r with
    | inl y => exact hr.trans q.symm
    | inr y => exact hr.trans q.symm
theorem det_index_Index_List_1 (n : Nat) (x0 : KnM) {Q : List KnD → Prop} (h : (Tree.get (D_list n x0) fun z => .ret z).Runs Q) : (F_index_Index_List_1_raw n x0).Runs Q := by
  obtain ⟨ys, h1, h2⟩ := h
  unfold D_list at h1
  split at h1
  · rename_i hc
    unfold F_index_Index_List_1_raw
    refine Tree.Runs.mono (t := F_index_Index_List_l0 n n [] x0 x0) (det_index_Index_List_1_l n x0 n [] x0 hc.1 (by simpa using hc.2)) fun r hr => ?_
    rw [List.nil_append] at hr
    cases r with
    | inl y => exact ⟨ys, sortF_perm hr.symm h1, h2⟩
    | inr y => exact ⟨ys, sortF_perm hr.symm h1, h2⟩
  · cases h1
def F_index_Index_List_1 (n : Nat) (x0 : KnM) : Tree (List KnD) :=
  .get (D_list n x0) fun z =>
  .ret z
def S_index_Index_List_1 (n : Nat) : Summ := mkS ⟨[(.ptr 0 0)], [⟨0, 1, .box (.agg (.pr (.mpv 2) .un))⟩, ⟨2, 3, .mp T1 T2 []⟩], 4⟩ [.d T3] fun v => .sub (F_index_Index_List_1 n (p0 v)) fun r => .ret ((.whole 4 36), [⟨4, 5, .row T5 r⟩, ⟨0, 7, .box (.agg (.pr (.mpv 2) .un))⟩, ⟨2, 9, .mp T1 T2 (p0 v)⟩], 10)
theorem ok_index_Index_List_1 (n : Nat) : SoundF Try.prog 39 (S_index_Index_List_1 n) := S_weak (ok_index_Index_List_1_raw n) fun v Q h => det_index_Index_List_1 n _ h
def C_40_0 : CutF → Cut := fun κ => ⟨[1, 3, 4], fun e => match e with | .ex i => bif Nat.beq i 0 then [3] else [] | .rt => [] | .nm => [] | .go i => [], κ⟩
def C_40_2 : CutF → Cut := fun κ => ⟨[1, 3, 4, 5], fun e => match e with | .ex i => bif Nat.beq i 2 then [5] else bif Nat.beq i 1 then [] else bif Nat.beq i 0 then [] else [] | .rt => [] | .nm => [] | .go i => [], κ⟩
def C_86_0 : CutF → Cut := fun κ => ⟨[2, 3, 5], fun e => match e with | .ex i => bif Nat.beq i 0 then [] else [] | .rt => [4] | .nm => [] | .go i => [], κ⟩
def F_r20_Before_l0 (n : Nat) : Nat → (Int) → (Int) → (List UInt8) → (List UInt8) → (Int) → (Int) → (Int) → (List UInt8) → (List UInt8) → (Int) → (Int) → Tree (Bool ⊕ Unit)
 | 0 => fun  x0 x1 x2 x3 x4 x5 x6 x7 x8 x9 x10 => .fail
 | k + 1 => fun x0 x1 x2 x3 x4 x5 x6 x7 x8 x9 x10 =>
  .ite (decide (x0 < (32 : Int)))
  (.get (inI 32 x0) fun y11 =>
  .get (gt x2 y11) fun y12 =>
  .get (inI 32 x0) fun y13 =>
  .get (gt x7 y13) fun y14 =>
  .ite (!(decide (y12 = y14)))
  (.get (inI 32 x0) fun y15 =>
  .get (gt x2 y15) fun y16 =>
  .get (inI 32 x0) fun y17 =>
  .get (gt x7 y17) fun y18 =>
  .ret (.inl (decide (y16 < y18))))
  (.sub (F_r20_Before_l0 n k (w64 (x0 + (1 : Int))) x1 x2 x3 x4 x5 x6 x7 x8 x9 x10) fun y19 =>
  .alt y19 (fun y20 =>
  .ret (.inl y20))
  fun y21 =>
  .ret (.inr ())))
  (.ret (.inr ()))
def S_r20_Before_l0 (n k : Nat) : CutF := mkS ⟨[(.ptr 0 0), (.ptr 2 0), (.val (.sint .i64) (0 : Int))], [⟨0, 1, .box (.agg (.pr (.val (.sint .i64) (0 : Int)) (.pr (.val (.arr 32 .u8) []) (.pr (.agg (.pr (.val .str []) (.pr (.val (.sint .i64) (0 : Int)) (.pr (.val (.sint .i64) (0 : Int)) .un)))) .un))))⟩, ⟨2, 3, .box (.agg (.pr (.val (.sint .i64) (0 : Int)) (.pr (.val (.arr 32 .u8) []) (.pr (.agg (.pr (.val .str []) (.pr (.val (.sint .i64) (0 : Int)) (.pr (.val (.sint .i64) (0 : Int)) .un)))) .un))))⟩], 4⟩ [.d (.sint .i64), .d (.sint .i64), .d (.arr 32 .u8), .d .str, .d (.sint .i64), .d (.sint .i64), .d (.sint .i64), .d (.arr 32 .u8), .d .str, .d (.sint .i64), .d (.sint .i64)] fun v => .sub (F_r20_Before_l0 n k (p0 v) (p1 v) (p2 v) (p3 v) (p4 v) (p5 v) (p6 v) (p7 v) (p8 v) (p9 v) (p10 v)) fun r => .alt r (fun r => .ret (.rt, [(.val .bool r)], [⟨0, 5, .box (.agg (.pr (.val (.sint .i64) (p1 v)) (.pr (.val (.arr 32 .u8) (p2 v)) (.pr (.agg (.pr (.val .str (p3 v)) (.pr (.val (.sint .i64) (p4 v)) (.pr (.val (.sint .i64) (p5 v)) .un)))) .un))))⟩, ⟨2, 7, .box (.agg (.pr (.val (.sint .i64) (p6 v)) (.pr (.val (.arr 32 .u8) (p7 v)) (.pr (.agg (.pr (.val .str (p8 v)) (.pr (.val (.sint .i64) (p9 v)) (.pr (.val (.sint .i64) (p10 v)) .un)))) .un))))⟩], 8)) (fun r => .ret (.ex 0, [], [⟨0, 5, .box (.agg (.pr (.val (.sint .i64) (p1 v)) (.pr (.val (.arr 32 .u8) (p2 v)) (.pr (.agg (.pr (.val .str (p3 v)) (.pr (.val (.sint .i64) (p4 v)) (.pr (.val (.sint .i64) (p5 v)) .un)))) .un))))⟩, ⟨2, 7, .box (.agg (.pr (.val (.sint .i64) (p6 v)) (.pr (.val (.arr 32 .u8) (p7 v)) (.pr (.agg (.pr (.val .str (p8 v)) (.pr (.val (.sint .i64) (p9 v)) (.pr (.val (.sint .i64) (p10 v)) .un)))) .un))))⟩], 8))
theorem rd_r20_Before_l0 (n k : Nat) : Rounds Try.prog (Go.Func.ntmps Try.f86) (bodyOf Try.f86 0) C_86_0 [S_r20_Before_l0 n k] (S_r20_Before_l0 n (k + 1)) :=
  rounds_go (tab := mkTab []) (cuts := mkCuts []) (S_r20_Before_l0 n k) [] .nil (.none0 (by kernel_rfl)) rfl (fun v => by kernel_rfl)
theorem ok_r20_Before_l0 (n k : Nat) : SoundC Try.prog (Go.Func.ntmps Try.f86) (.loop (bodyOf Try.f86 0)) (wr (bodyOf Try.f86 0)) (C_86_0 (S_r20_Before_l0 n k)) :=
  loop_go (K := fun k => [S_r20_Before_l0 n k]) (fun _ => rfl) (by kernel_rfl) ⟨z_go fun _ => by kernel_rfl, trivial⟩ (fun k => ⟨rd_r20_Before_l0 n k, trivial⟩) k rfl
def F_r20_Before (n : Nat) (x0 : Int) (x1 : List UInt8) (x2 : List UInt8) (x3 : Int) (x4 : Int) (x5 : Int) (x6 : List UInt8) (x7 : List UInt8) (x8 : Int) (x9 : Int) : Tree Bool :=
  .ite (!(decide (x0 = x5)))
  (.ret (decide (x0 < x5)))
  (.sub (F_r20_Before_l0 n n (0 : Int) x0 x1 x2 x3 x4 x5 x6 x7 x8 x9) fun y10 =>
  .alt y10 (fun y11 =>
  .ret y11)
  fun y12 =>
  .ret false)
def S_r20_Before (n : Nat) : Summ := mkS ⟨[(.agg (.pr (.val (.sint .i64) (0 : Int)) (.pr (.val (.arr 32 .u8) []) (.pr (.agg (.pr (.val .str []) (.pr (.val (.sint .i64) (0 : Int)) (.pr (.val (.sint .i64) (0 : Int)) .un)))) .un)))), (.agg (.pr (.val (.sint .i64) (0 : Int)) (.pr (.val (.arr 32 .u8) []) (.pr (.agg (.pr (.val .str []) (.pr (.val (.sint .i64) (0 : Int)) (.pr (.val (.sint .i64) (0 : Int)) .un)))) .un))))], [], 0⟩ [.d (.sint .i64), .d (.arr 32 .u8), .d .str, .d (.sint .i64), .d (.sint .i64), .d (.sint .i64), .d (.arr 32 .u8), .d .str, .d (.sint .i64), .d (.sint .i64)] fun v => .sub (F_r20_Before n (p0 v) (p1 v) (p2 v) (p3 v) (p4 v) (p5 v) (p6 v) (p7 v) (p8 v) (p9 v)) fun r => .ret ((.val .bool r), [], 0)
theorem ok_r20_Before (n : Nat) : SoundF Try.prog 86 (S_r20_Before n) :=
  fn_go true (c := codeOf Try.f86) (tab := mkTab []) (cuts := mkCuts [(0, C_86_0 (S_r20_Before_l0 n n))]) Try.func86 (by kernel_rfl) .nil (CutsOK.list (l := [(0, .lp (bodyOf Try.f86 0))]) (by kernel_rfl) (LoopsOK.all ⟨.inr ⟨_, rfl, ok_r20_Before_l0 n n⟩, trivial⟩)) (fun v => by kernel_rfl)
def F_r20_Index_List_l2 (n : Nat) : Nat → (Int) → (Int) → (Bool) → (List (Int × List UInt8 × List UInt8 × Int × Int)) → (List (Int × List UInt8 × List UInt8 × Int × Int)) → Tree Int
 | 0 => fun  x0 x1 x2 x3 x4 => .fail
 | k + 1 => fun x0 x1 x2 x3 x4 =>
  .ite (decide (x1 < (ln x4)))
  (.get (inI (List.length x4) x1) fun y5 =>
  .get (gt x4 (0 + y5)) fun y6 =>
  .get (getI x3 x0) fun y7 =>
  .get (Tree.run (F_r20_Before n y6.1 y6.2.1 y6.2.2.1 y6.2.2.2.1 y6.2.2.2.2 y7.1 y7.2.1 y7.2.2.1 y7.2.2.2.1 y7.2.2.2.2)) fun y8 =>
  .ite y8
  (.sub (F_r20_Index_List_l2 n k x0 (w64 (x1 + (1 : Int))) x2 x3 x4) fun y9 =>
  .ret y9)
  (.ret x1))
  (.ret x1)
def S_r20_Index_List_l2 (n k : Nat) : CutF := mkS ⟨[(.ptr 0 0), (.whole 2 36), (.val (.sint .i64) (0 : Int)), (.val (.sint .i64) (0 : Int))], [⟨0, 1, .box (.agg (.pr (.ro false T5 []) .un))⟩, ⟨2, 3, .row T5 []⟩], 4⟩ [.d (.sint .i64), .d (.sint .i64), .c, .d T6, .d T6] fun v => .sub (F_r20_Index_List_l2 n k (p0 v) (p1 v) (p2 v) (p3 v) (p4 v)) fun r => .ret (.ex 2, [(.val (.sint .i64) r)], [⟨0, 5, .box (.agg (.pr (.ro (p2 v) T5 (p3 v)) .un))⟩, ⟨2, 7, .row T5 (p4 v)⟩], 8)
theorem rd_r20_Index_List_l2 (n k : Nat) : Rounds Try.prog (Go.Func.ntmps Try.f40) (bodyOf Try.f40 2) C_40_2 [S_r20_Index_List_l2 n k] (S_r20_Index_List_l2 n (k + 1)) :=
  rounds_go (tab := mkTab [(86, ⟨S_r20_Before n, [], [], true⟩)]) (cuts := mkCuts []) (S_r20_Index_List_l2 n k) [] (.cons (ok_r20_Before n) ⟨_, Try.func86, by kernel_rfl⟩ .nil) (.none0 (by kernel_rfl)) rfl (fun v => by kernel_rfl)
theorem ok_r20_Index_List_l2 (n k : Nat) : SoundC Try.prog (Go.Func.ntmps Try.f40) (.loop (bodyOf Try.f40 2)) (wr (bodyOf Try.f40 2)) (C_40_2 (S_r20_Index_List_l2 n k)) :=
  loop_go (K := fun k => [S_r20_Index_List_l2 n k]) (fun _ => rfl) (by kernel_rfl) ⟨z_go fun _ => by kernel_rfl, trivial⟩ (fun k => ⟨rd_r20_Index_List_l2 n k, trivial⟩) k rfl
def F_r20_Index_List_l0 (n : Nat) : Nat → (Int) → (Bool) → (List (Int × List UInt8 × List UInt8 × Int × Int)) → (List (Int × List UInt8 × List UInt8 × Int × Int)) → Tree (Unit ⊕ (List (Int × List UInt8 × List UInt8 × Int × Int)))
 | 0 => fun  x0 x1 x2 x3 => .fail
 | k + 1 => fun x0 x1 x2 x3 =>
  .ite (decide (x0 < (ln x2)))
  (.sub (F_r20_Index_List_l2 n n x0 (0 : Int) x1 x2 x3) fun y4 =>
  .get (ite (And ((0 : Int) ≤ (0 : Int)) (And ((0 : Int) ≤ y4) (y4 ≤ (ln x3)))) (Option.some Unit.unit) Option.none) fun y5 =>
  .get (appI 1954687338268 ([] : List (Int × ((List UInt8) × ((List UInt8) × (Int × Int))))) (List.take ((Int.toNat y4) - 0) (List.drop 0 x3))) fun y6 =>
  .get (getI x2 x0) fun y7 =>
  .get (appI 1954687338268 y6 (List.set ([((0 : Int), ((zs 32), (([] : List UInt8), ((0 : Int), (0 : Int)))))] : List (Int × ((List UInt8) × ((List UInt8) × (Int × Int))))) 0 (y7.1, (y7.2.1, (y7.2.2.1, (y7.2.2.2.1, y7.2.2.2.2)))))) fun y8 =>
  .get (ite (And ((0 : Int) ≤ y4) (And (y4 ≤ (ln x3)) ((ln x3) ≤ (ln x3)))) (Option.some Unit.unit) Option.none) fun y9 =>
  .get (appI 1954687338268 y8 (List.take ((Int.toNat (ln x3)) - (Int.toNat y4)) (List.drop (0 + (Int.toNat y4)) x3))) fun y10 =>
  .sub (F_r20_Index_List_l0 n k (w64 (x0 + (1 : Int))) x1 x2 y10) fun y11 =>
  .alt y11 (fun y12 =>
  .ret (.inr y10))
  fun y13 =>
  .ret (.inr y13))
  (.ret (.inl ()))
def S_r20_Index_List_l0 (n k : Nat) : CutF := mkS ⟨[(.ptr 0 0), (.whole 2 36), (.val (.sint .i64) (0 : Int))], [⟨0, 1, .box (.agg (.pr (.ro false T5 []) .un))⟩, ⟨2, 3, .row T5 []⟩], 4⟩ [.d (.sint .i64), .c, .d T6, .d T6] fun v => .sub (F_r20_Index_List_l0 n k (p0 v) (p1 v) (p2 v) (p3 v)) fun r => .alt r (fun r => .ret (.ex 0, [(.whole 2 36)], [⟨2, 5, .row T5 (p3 v)⟩, ⟨0, 7, .box (.agg (.pr (.ro (p1 v) T5 (p2 v)) .un))⟩], 8)) (fun r => .ret (.ex 0, [(.whole 4 36)], [⟨4, 5, .row T5 r⟩, ⟨0, 7, .box (.agg (.pr (.ro (p1 v) T5 (p2 v)) .un))⟩, ⟨2, 9, .row T5 (p3 v)⟩], 10))
theorem rd_r20_Index_List_l0 (n k : Nat) : Rounds Try.prog (Go.Func.ntmps Try.f40) (bodyOf Try.f40 0) C_40_0 [S_r20_Index_List_l0 n k] (S_r20_Index_List_l0 n (k + 1)) :=
  rounds_go (tab := mkTab []) (cuts := mkCuts [(2, C_40_2 (S_r20_Index_List_l2 n n))]) (S_r20_Index_List_l0 n k) [] .nil (CutsOK.list (l := [(2, .lp (bodyOf Try.f40 2))]) (by kernel_rfl) (LoopsOK.all ⟨.inr ⟨_, rfl, ok_r20_Index_List_l2 n n⟩, trivial⟩)) rfl (fun v => by kernel_rfl)
theorem ok_r20_Index_List_l0 (n k : Nat) : SoundC Try.prog (Go.Func.ntmps Try.f40) (.loop (bodyOf Try.f40 0)) (wr (bodyOf Try.f40 0)) (C_40_0 (S_r20_Index_List_l0 n k)) :=
  loop_go (K := fun k => [S_r20_Index_List_l0 n k]) (fun _ => rfl) (by kernel_rfl) ⟨z_go fun _ => by kernel_rfl, trivial⟩ (fun k => ⟨rd_r20_Index_List_l0 n k, trivial⟩) k rfl
def F_r20_Index_List (n : Nat) (x0 : Bool) (x1 : List (Int × List UInt8 × List UInt8 × Int × Int)) : Tree (List (Int × List UInt8 × List UInt8 × Int × Int)) :=
  .sub (F_r20_Index_List_l0 n n (0 : Int) x0 x1 ([] : List (Int × ((List UInt8) × ((List UInt8) × (Int × Int)))))) fun y2 =>
  .alt y2 (fun y3 =>
  .ret ([] : List (Int × ((List UInt8) × ((List UInt8) × (Int × Int))))))
  fun y4 =>
  .ret y4
def S_r20_Index_List (n : Nat) : Summ := mkS ⟨[(.agg (.pr (.ro false T5 []) .un))], [], 0⟩ [.c, .d T6] fun v => .sub (F_r20_Index_List n (p0 v) (p1 v)) fun r => .ret ((.whole 0 36), [⟨0, 1, .row T5 r⟩], 2)
theorem ok_r20_Index_List (n : Nat) : SoundF Try.prog 40 (S_r20_Index_List n) :=
  fn_go false (c := codeOf Try.f40) (tab := mkTab []) (cuts := mkCuts [(0, C_40_0 (S_r20_Index_List_l0 n n))]) Try.func40 (by kernel_rfl) .nil (CutsOK.list (l := [(0, .lp (bodyOf Try.f40 0))]) (by kernel_rfl) (LoopsOK.all ⟨.inr ⟨_, rfl, ok_r20_Index_List_l0 n n⟩, trivial⟩)) (fun v => by kernel_rfl)
def C_33_0 : CutF → Cut := fun κ => ⟨[0, 1, 5], fun e => match e with | .ex i => bif Nat.beq i 0 then [] else [] | .rt => [4] | .nm => [] | .go i => [], κ⟩
def F_r20_Same_l0 (n : Nat) : Nat → (Int) → (List (Int × List UInt8 × List UInt8 × Int × Int)) → (List (Int × List UInt8 × List UInt8 × Int × Int)) → Tree (Unit ⊕ Unit)
 | 0 => fun  x0 x1 x2 => .fail
 | k + 1 => fun x0 x1 x2 =>
  .ite (decide (x0 < (ln x1)))
  (.get (inI (List.length x1) x0) fun y3 =>
  .get (gt x1 (0 + y3)) fun y4 =>
  .get (inI (List.length x2) x0) fun y5 =>
  .get (gt x2 (0 + y5)) fun y6 =>
  .ite (!(eqV T5 (y4.1, (y4.2.1, (y4.2.2.1, (y4.2.2.2.1, y4.2.2.2.2)))) (y6.1, (y6.2.1, (y6.2.2.1, (y6.2.2.2.1, y6.2.2.2.2))))))
  (.ret (.inl ()))
  (.sub (F_r20_Same_l0 n k (w64 (x0 + (1 : Int))) x1 x2) fun y7 =>
  .alt y7 (fun y8 =>
  .ret (.inl ()))
  fun y9 =>
  .ret (.inr ())))
  (.ret (.inr ()))
def S_r20_Same_l0 (n k : Nat) : CutF := mkS ⟨[(.whole 0 36), (.whole 2 36), (.val (.sint .i64) (0 : Int))], [⟨0, 1, .row T5 []⟩, ⟨2, 3, .row T5 []⟩], 4⟩ [.d (.sint .i64), .d T6, .d T6] fun v => .sub (F_r20_Same_l0 n k (p0 v) (p1 v) (p2 v)) fun r => .alt r (fun r => .ret (.rt, [(.val .bool false)], [⟨0, 5, .row T5 (p1 v)⟩, ⟨2, 7, .row T5 (p2 v)⟩], 8)) (fun r => .ret (.ex 0, [], [⟨0, 5, .row T5 (p1 v)⟩, ⟨2, 7, .row T5 (p2 v)⟩], 8))
theorem rd_r20_Same_l0 (n k : Nat) : Rounds Try.prog (Go.Func.ntmps Try.f33) (bodyOf Try.f33 0) C_33_0 [S_r20_Same_l0 n k] (S_r20_Same_l0 n (k + 1)) :=
  rounds_go (tab := mkTab []) (cuts := mkCuts []) (S_r20_Same_l0 n k) [] .nil (.none0 (by kernel_rfl)) rfl (fun v => by kernel_rfl)
theorem ok_r20_Same_l0 (n k : Nat) : SoundC Try.prog (Go.Func.ntmps Try.f33) (.loop (bodyOf Try.f33 0)) (wr (bodyOf Try.f33 0)) (C_33_0 (S_r20_Same_l0 n k)) :=
  loop_go (K := fun k => [S_r20_Same_l0 n k]) (fun _ => rfl) (by kernel_rfl) ⟨z_go fun _ => by kernel_rfl, trivial⟩ (fun k => ⟨rd_r20_Same_l0 n k, trivial⟩) k rfl
def F_r20_Same (n : Nat) (x0 : List (Int × List UInt8 × List UInt8 × Int × Int)) (x1 : List (Int × List UInt8 × List UInt8 × Int × Int)) : Tree Bool :=
  .ite (!(decide ((ln x0) = (ln x1))))
  (.ret false)
  (.sub (F_r20_Same_l0 n n (0 : Int) x0 x1) fun y2 =>
  .alt y2 (fun y3 =>
  .ret false)
  fun y4 =>
  .ret true)
def S_r20_Same (n : Nat) : Summ := mkS ⟨[(.whole 0 36), (.whole 2 36)], [⟨0, 1, .row T5 []⟩, ⟨2, 3, .row T5 []⟩], 4⟩ [.d T6, .d T6] fun v => .sub (F_r20_Same n (p0 v) (p1 v)) fun r => .ret ((.val .bool r), [⟨0, 5, .row T5 (p0 v)⟩, ⟨2, 7, .row T5 (p1 v)⟩], 8)
theorem ok_r20_Same (n : Nat) : SoundF Try.prog 33 (S_r20_Same n) :=
  fn_go true (c := codeOf Try.f33) (tab := mkTab []) (cuts := mkCuts [(0, C_33_0 (S_r20_Same_l0 n n))]) Try.func33 (by kernel_rfl) .nil (CutsOK.list (l := [(0, .lp (bodyOf Try.f33 0))]) (by kernel_rfl) (LoopsOK.all ⟨.inr ⟨_, rfl, ok_r20_Same_l0 n n⟩, trivial⟩)) (fun v => by kernel_rfl)
def F_w20_IndexAdds (n : Nat) (x0 : Bool) (x1 : List (Int × List UInt8 × List UInt8 × Int × Int)) (x2 : Int) (x3 : List UInt8) : Tree Bool :=
  .sub (F_w20_both n x0 x1) fun y4 =>
  .sub (F_index_Index_Find n x2 x3 y4.2.2.2) fun y5 =>
  .sub (F_r20_Index_Find n y4.1 y4.2.1 x2 x3) fun y6 =>
  .ite (decide ((0 : Int) < (ln x1)))
  (.get (getI x1 (0 : Int)) fun y7 =>
  .get (Tree.run (F_index_Right n y7.1 y7.2.2.1 y7.2.2.2.1 y7.2.2.2.2)) fun y8 =>
  .get (getI x1 (0 : Int)) fun y9 =>
  .get (Tree.run (F_r20_Right n y9.1 y9.2.2.1 y9.2.2.2.1 y9.2.2.2.2)) fun y10 =>
  .ite (!(BEq.beq y8 y10))
  (.ret false)
  (.ite y4.2.2.1
  (.get (Tree.run (F_index_Index_List_1 n y4.2.2.2)) fun y11 =>
  .get (Tree.run (F_r20_Index_List n y4.1 y4.2.1)) fun y12 =>
  .get (Tree.run (F_r20_Same n y11 y12)) fun y13 =>
  .ite y13
  (.get (Tree.run (F_index_Index_Len n y4.2.2.2)) fun y14 =>
  .ite (decide (y14 = (ln y4.2.1)))
  (.ite (eqV T2 (y5.1, (y5.2.1, y5.2.2.1)) (y6.1, (y6.2.1, y6.2.2.1)))
  (.ite (BEq.beq y5.2.2.2 y6.2.2.2)
  (.get (Tree.run (F_w20_awake n)) fun y15 =>
  .ret y15)
  (.ret false))
  (.ret false))
  (.ret false))
  (.ret false))
  (.ret false)))
  (.ite y4.2.2.1
  (.get (Tree.run (F_index_Index_List_1 n y4.2.2.2)) fun y16 =>
  .get (Tree.run (F_r20_Index_List n y4.1 y4.2.1)) fun y17 =>
  .get (Tree.run (F_r20_Same n y16 y17)) fun y18 =>
  .ite y18
  (.get (Tree.run (F_index_Index_Len n y4.2.2.2)) fun y19 =>
  .ite (decide (y19 = (ln y4.2.1)))
  (.ite (eqV T2 (y5.1, (y5.2.1, y5.2.2.1)) (y6.1, (y6.2.1, y6.2.2.1)))
  (.ite (BEq.beq y5.2.2.2 y6.2.2.2)
  (.get (Tree.run (F_w20_awake n)) fun y20 =>
  .ret y20)
  (.ret false))
  (.ret false))
  (.ret false))
  (.ret false))
  (.ret false))
def S_w20_IndexAdds (n : Nat) : Summ := mkS ⟨[(.ro false T5 []), (.val (.sint .i64) (0 : Int)), (.val (.arr 32 .u8) [])], [], 0⟩ [.c, .d T6, .d (.sint .i64), .d (.arr 32 .u8)] fun v => .sub (F_w20_IndexAdds n (p0 v) (p1 v) (p2 v) (p3 v)) fun r => .ret ((.val .bool r), [], 0)
theorem ok_w20_IndexAdds (n : Nat) : SoundF Try.prog 7 (S_w20_IndexAdds n) :=
  fn_go true (c := codeOf Try.f7) (tab := mkTab [(34, ⟨S_w20_both n, [], [], false⟩), (35, ⟨S_index_Index_Find n, [], [], false⟩), (36, ⟨S_r20_Index_Find n, [], [], true⟩), (37, ⟨S_index_Right n, [], [], true⟩), (38, ⟨S_r20_Right n, [], [], true⟩), (39, ⟨S_index_Index_List_1 n, [], [], false⟩), (40, ⟨S_r20_Index_List n, [], [], true⟩), (33, ⟨S_r20_Same n, [], [], true⟩), (41, ⟨S_index_Index_Len n, [], [], false⟩), (28, ⟨S_w20_awake n, [], [], false⟩)]) (cuts := mkCuts []) Try.func7 (by kernel_rfl) (.cons (ok_w20_both n) ⟨_, Try.func34, by kernel_rfl⟩ (.cons (ok_index_Index_Find n) ⟨_, Try.func35, by kernel_rfl⟩ (.cons (ok_r20_Index_Find n) ⟨_, Try.func36, by kernel_rfl⟩ (.cons (ok_index_Right n) ⟨_, Try.func37, by kernel_rfl⟩ (.cons (ok_r20_Right n) ⟨_, Try.func38, by kernel_rfl⟩ (.cons (ok_index_Index_List_1 n) ⟨_, Try.func39, by kernel_rfl⟩ (.cons (ok_r20_Index_List n) ⟨_, Try.func40, by kernel_rfl⟩ (.cons (ok_r20_Same n) ⟨_, Try.func33, by kernel_rfl⟩ (.cons (ok_index_Index_Len n) ⟨_, Try.func41, by kernel_rfl⟩ (.cons (ok_w20_awake n) ⟨_, Try.func28, by kernel_rfl⟩ .nil)))))))))) (.none0 (by kernel_rfl)) (fun v => by kernel_rfl)
def C_42_0 : CutF → Cut := fun κ => ⟨[0, 19], fun e => match e with | .ex i => bif Nat.beq i 0 then [] else [] | .rt => [4] | .nm => [] | .go i => [], κ⟩
def F_index_Index_Merge_l0 (n : Nat) : Nat → (List ((Int × List UInt8) × List UInt8 × Int × Int)) → (List ((Int × List UInt8) × List UInt8 × Int × Int)) → (List ((Int × List UInt8) × List UInt8 × Int × Int)) → Tree ((List ((Int × List UInt8) × List UInt8 × Int × Int)) ⊕ (List ((Int × List UInt8) × List UInt8 × Int × Int)))
 | 0 => fun  x0 x1 x2 => .fail
 | k + 1 => fun x0 x1 x2 =>
  .ite (List.isEmpty x1)
  (.ret (.inl x1))
  (.all (fun (p3 : (((Int × (List UInt8)) × ((List UInt8) × (Int × Int))) × (List ((Int × (List UInt8)) × ((List UInt8) × (Int × Int)))))) => (List.Perm (p3.1 :: p3.2) x1)) fun y4 =>
  .ite ((Option.isSome (mget T1 T2 x0 (y4.1.1.1, y4.1.1.2))) && (!(eqV T2 ((mgetD T1 T2 x0 (y4.1.1.1, y4.1.1.2) (([] : List UInt8), ((0 : Int), (0 : Int)))).1, ((mgetD T1 T2 x0 (y4.1.1.1, y4.1.1.2) (([] : List UInt8), ((0 : Int), (0 : Int)))).2.1, (mgetD T1 T2 x0 (y4.1.1.1, y4.1.1.2) (([] : List UInt8), ((0 : Int), (0 : Int)))).2.2)) (y4.1.2.1, (y4.1.2.2.1, y4.1.2.2.2)))))
  (.ret (.inr y4.2))
  (.sub (F_index_Index_Merge_l0 n k x0 y4.2 x2) fun y5 =>
  .alt y5 (fun y6 =>
  .ret (.inl y6))
  fun y7 =>
  .ret (.inr y7)))
def S_index_Index_Merge_l0 (n k : Nat) : CutF := mkS ⟨[(.ptr 0 0), (.ptr 4 0)], [⟨0, 1, .box (.agg (.pr (.mpv 2) .un))⟩, ⟨2, 3, .mp T1 T2 []⟩, ⟨4, 5, .it 6 7 T1 T2 []⟩, ⟨6, 7, .mp T1 T2 []⟩], 8⟩ [.d T3, .d T3, .d T3] fun v => .sub (F_index_Index_Merge_l0 n k (p0 v) (p1 v) (p2 v)) fun r => .alt r (fun r => .ret (.ex 0, [], [⟨0, 9, .box (.agg (.pr (.mpv 2) .un))⟩, ⟨2, 3, .mp T1 T2 (p0 v)⟩, ⟨6, 7, .mp T1 T2 (p2 v)⟩, ⟨4, 15, .it 6 7 T1 T2 r⟩], 16)) (fun r => .ret (.rt, [(.val (.sint .i64) (19 : Int))], [⟨0, 9, .box (.agg (.pr (.mpv 2) .un))⟩, ⟨2, 3, .mp T1 T2 (p0 v)⟩, ⟨6, 7, .mp T1 T2 (p2 v)⟩, ⟨4, 15, .it 6 7 T1 T2 r⟩], 16))
theorem rd_index_Index_Merge_l0 (n k : Nat) : Rounds Try.prog (Go.Func.ntmps Try.f42) (bodyOf Try.f42 0) C_42_0 [S_index_Index_Merge_l0 n k] (S_index_Index_Merge_l0 n (k + 1)) :=
  rounds_go (tab := mkTab []) (cuts := mkCuts []) (S_index_Index_Merge_l0 n k) [] .nil (.none0 (by kernel_rfl)) rfl (fun v => by kernel_rfl)
theorem ok_index_Index_Merge_l0 (n k : Nat) : SoundC Try.prog (Go.Func.ntmps Try.f42) (.loop (bodyOf Try.f42 0)) (wr (bodyOf Try.f42 0)) (C_42_0 (S_index_Index_Merge_l0 n k)) :=
  loop_go (K := fun k => [S_index_Index_Merge_l0 n k]) (fun _ => rfl) (by kernel_rfl) ⟨z_go fun _ => by kernel_rfl, trivial⟩ (fun k => ⟨rd_index_Index_Merge_l0 n k, trivial⟩) k rfl
def C_42_2 : CutF → Cut := fun κ => ⟨[0, 44], fun e => match e with | .ex i => bif Nat.beq i 2 then [] else [] | .rt => [] | .nm => [] | .go i => [], κ⟩
def F_index_Index_Merge_l2 (n : Nat) : Nat → (List ((Int × List UInt8) × List UInt8 × Int × Int)) → (List ((Int × List UInt8) × List UInt8 × Int × Int)) → (List ((Int × List UInt8) × List UInt8 × Int × Int)) → Tree (Unit ⊕ ((List ((Int × List UInt8) × List UInt8 × Int × Int)) × (List ((Int × List UInt8) × List UInt8 × Int × Int))))
 | 0 => fun  x0 x1 x2 => .fail
 | k + 1 => fun x0 x1 x2 =>
  .ite (List.isEmpty x1)
  (.ret (.inl ()))
  (.all (fun (p3 : (((Int × (List UInt8)) × ((List UInt8) × (Int × Int))) × (List ((Int × (List UInt8)) × ((List UInt8) × (Int × Int)))))) => (List.Perm (p3.1 :: p3.2) x1)) fun y4 =>
  .sub (F_index_Index_Merge_l2 n k (mput T1 T2 x0 (y4.1.1.1, y4.1.1.2) (y4.1.2.1, (y4.1.2.2.1, y4.1.2.2.2))) y4.2 x2) fun y5 =>
  .alt y5 (fun y6 =>
  .ret (.inr ((mput T1 T2 x0 (y4.1.1.1, y4.1.1.2) (y4.1.2.1, (y4.1.2.2.1, y4.1.2.2.2))), y4.2)))
  fun y7 =>
  .ret (.inr (y7.1, y7.2)))
def S_index_Index_Merge_l2 (n k : Nat) : CutF := mkS ⟨[(.ptr 0 0), (.ptr 4 0)], [⟨0, 1, .box (.agg (.pr (.mpv 2) .un))⟩, ⟨2, 3, .mp T1 T2 []⟩, ⟨4, 5, .it 6 7 T1 T2 []⟩, ⟨6, 7, .mp T1 T2 []⟩], 8⟩ [.d T3, .d T3, .d T3] fun v => .sub (F_index_Index_Merge_l2 n k (p0 v) (p1 v) (p2 v)) fun r => .alt r (fun r => .ret (.ex 2, [], [⟨0, 9, .box (.agg (.pr (.mpv 2) .un))⟩, ⟨2, 3, .mp T1 T2 (p0 v)⟩, ⟨6, 7, .mp T1 T2 (p2 v)⟩, ⟨4, 15, .it 6 7 T1 T2 (p1 v)⟩], 16)) (fun r => .ret (.ex 2, [], [⟨0, 9, .box (.agg (.pr (.mpv 2) .un))⟩, ⟨2, 11, .mp T1 T2 r.1⟩, ⟨6, 7, .mp T1 T2 (p2 v)⟩, ⟨4, 15, .it 6 7 T1 T2 r.2⟩], 16))
theorem rd_index_Index_Merge_l2 (n k : Nat) : Rounds Try.prog (Go.Func.ntmps Try.f42) (bodyOf Try.f42 2) C_42_2 [S_index_Index_Merge_l2 n k] (S_index_Index_Merge_l2 n (k + 1)) :=
  rounds_go (tab := mkTab []) (cuts := mkCuts []) (S_index_Index_Merge_l2 n k) [] .nil (.none0 (by kernel_rfl)) rfl (fun v => by kernel_rfl)
theorem ok_index_Index_Merge_l2 (n k : Nat) : SoundC Try.prog (Go.Func.ntmps Try.f42) (.loop (bodyOf Try.f42 2)) (wr (bodyOf Try.f42 2)) (C_42_2 (S_index_Index_Merge_l2 n k)) :=
  loop_go (K := fun k => [S_index_Index_Merge_l2 n k]) (fun _ => rfl) (by kernel_rfl) ⟨z_go fun _ => by kernel_rfl, trivial⟩ (fun k => ⟨rd_index_Index_Merge_l2 n k, trivial⟩) k rfl
def F_index_Index_Merge_1 (n : Nat) (x0 : List ((Int × List UInt8) × List UInt8 × Int × Int)) (x1 : List ((Int × List UInt8) × List UInt8 × Int × Int)) : Tree (Int ⊕ (List ((Int × List UInt8) × List UInt8 × Int × Int))) :=
  .sub (F_index_Index_Merge_l0 n n x0 x1 x1) fun y2 =>
  .alt y2 (fun y3 =>
  .sub (F_index_Index_Merge_l2 n n x0 x1 x1) fun y4 =>
  .alt y4 (fun y5 =>
  .ret (.inl (0 : Int)))
  fun y6 =>
  .ret (.inr y6.1))
  fun y7 =>
  .ret (.inl (19 : Int))
def S_index_Index_Merge_1 (n : Nat) : Summ := mkS ⟨[(.ptr 0 0), (.ptr 4 0)], [⟨0, 1, .box (.agg (.pr (.mpv 2) .un))⟩, ⟨2, 3, .mp T1 T2 []⟩, ⟨4, 5, .box (.agg (.pr (.mpv 6) .un))⟩, ⟨6, 7, .mp T1 T2 []⟩], 8⟩ [.d T3, .d T3] fun v => .sub (F_index_Index_Merge_1 n (p0 v) (p1 v)) fun r => .alt r (fun r => .ret ((.val (.sint .i64) r), [⟨0, 9, .box (.agg (.pr (.mpv 2) .un))⟩, ⟨2, 3, .mp T1 T2 (p0 v)⟩, ⟨4, 13, .box (.agg (.pr (.mpv 6) .un))⟩, ⟨6, 15, .mp T1 T2 (p1 v)⟩], 16)) (fun r => .ret ((.val (.sint .i64) (0 : Int)), [⟨0, 9, .box (.agg (.pr (.mpv 2) .un))⟩, ⟨2, 11, .mp T1 T2 r⟩, ⟨4, 13, .box (.agg (.pr (.mpv 6) .un))⟩, ⟨6, 15, .mp T1 T2 (p1 v)⟩], 16))
theorem ok_index_Index_Merge_1 (n : Nat) : SoundF Try.prog 42 (S_index_Index_Merge_1 n) :=
  fn_go false (c := codeOf Try.f42) (tab := mkTab []) (cuts := mkCuts [(0, C_42_0 (S_index_Index_Merge_l0 n n)), (2, C_42_2 (S_index_Index_Merge_l2 n n))]) Try.func42 (by kernel_rfl) .nil (CutsOK.list (l := [(0, .lp (bodyOf Try.f42 0)), (2, .lp (bodyOf Try.f42 2))]) (by kernel_rfl) (LoopsOK.all ⟨.inr ⟨_, rfl, ok_index_Index_Merge_l0 n n⟩, ⟨.inr ⟨_, rfl, ok_index_Index_Merge_l2 n n⟩, trivial⟩⟩)) (fun v => by kernel_rfl)
def C_43_0 : CutF → Cut := fun κ => ⟨[2, 3, 4, 6, 7], fun e => match e with | .ex i => bif Nat.beq i 0 then [] else [] | .rt => [5] | .nm => [] | .go i => [], κ⟩
def F_r20_Index_Merge_l0_1 (n : Nat) : Nat → (Int) → (Bool) → (List (Int × List UInt8 × List UInt8 × Int × Int)) → (Bool) → (List (Int × List UInt8 × List UInt8 × Int × Int)) → (List (Int × List UInt8 × List UInt8 × Int × Int)) → (List (Int × List UInt8 × List UInt8 × Int × Int)) → Tree (((List (Int × List UInt8 × List UInt8 × Int × Int)) × (List (Int × List UInt8 × List UInt8 × Int × Int))) ⊕ ((List (Int × List UInt8 × List UInt8 × Int × Int)) ⊕ ((List (Int × List UInt8 × List UInt8 × Int × Int)) ⊕ (List (Int × List UInt8 × List UInt8 × Int × Int)))))
 | 0 => fun  x0 x1 x2 x3 x4 x5 x6 => .fail
 | k + 1 => fun x0 x1 x2 x3 x4 x5 x6 =>
  .ite (decide (x0 < (ln x4)))
  (.get (getI x4 x0) fun y7 =>
  .get (getI x4 x0) fun y8 =>
  .get (Tree.run (F_r20_Index_Find n x1 x2 y7.1 y8.2.1)) fun y9 =>
  .ite y9.2.2.2
  (.get (getI x4 x0) fun y10 =>
  .ite (!(eqV T2 (y9.1, (y9.2.1, y9.2.2.1)) (y10.2.2.1, (y10.2.2.2.1, y10.2.2.2.2))))
  (.ret (.inl (x6, x5)))
  (.ite (!y9.2.2.2)
  (.get (appI 1954687338268 ([] : List (Int × ((List UInt8) × ((List UInt8) × (Int × Int))))) x6) fun y11 =>
  .get (getI x4 x0) fun y12 =>
  .get (appI 1954687338268 y11 (List.set ([((0 : Int), ((zs 32), (([] : List UInt8), ((0 : Int), (0 : Int)))))] : List (Int × ((List UInt8) × ((List UInt8) × (Int × Int))))) 0 (y12.1, (y12.2.1, (y12.2.2.1, (y12.2.2.2.1, y12.2.2.2.2)))))) fun y13 =>
  .sub (F_r20_Index_Merge_l0_1 n k (w64 (x0 + (1 : Int))) x1 x2 x3 x4 x5 y13) fun y14 =>
  .alt y14 (fun y15 =>
  .ret (.inl (y15.1, x6)))
  fun y16 =>
  .alt y16 (fun y17 =>
  .ret (.inr (.inr (.inl y17))))
  fun y18 =>
  .alt y18 (fun y19 =>
  .ret (.inr (.inr (.inl y19))))
  fun y20 =>
  .ret (.inl (y20, x6)))
  (.sub (F_r20_Index_Merge_l0_1 n k (w64 (x0 + (1 : Int))) x1 x2 x3 x4 x5 x6) fun y21 =>
  .alt y21 (fun y22 =>
  .ret (.inr (.inr (.inr y22.1))))
  fun y23 =>
  .alt y23 (fun y24 =>
  .ret (.inr (.inl y24)))
  fun y25 =>
  .alt y25 (fun y26 =>
  .ret (.inr (.inl y26)))
  fun y27 =>
  .ret (.inr (.inr (.inr y27))))))
  (.ite (!y9.2.2.2)
  (.get (appI 1954687338268 ([] : List (Int × ((List UInt8) × ((List UInt8) × (Int × Int))))) x6) fun y28 =>
  .get (getI x4 x0) fun y29 =>
  .get (appI 1954687338268 y28 (List.set ([((0 : Int), ((zs 32), (([] : List UInt8), ((0 : Int), (0 : Int)))))] : List (Int × ((List UInt8) × ((List UInt8) × (Int × Int))))) 0 (y29.1, (y29.2.1, (y29.2.2.1, (y29.2.2.2.1, y29.2.2.2.2)))))) fun y30 =>
  .sub (F_r20_Index_Merge_l0_1 n k (w64 (x0 + (1 : Int))) x1 x2 x3 x4 x5 y30) fun y31 =>
  .alt y31 (fun y32 =>
  .ret (.inl (y32.1, x6)))
  fun y33 =>
  .alt y33 (fun y34 =>
  .ret (.inr (.inr (.inl y34))))
  fun y35 =>
  .alt y35 (fun y36 =>
  .ret (.inr (.inr (.inl y36))))
  fun y37 =>
  .ret (.inl (y37, x6)))
  (.sub (F_r20_Index_Merge_l0_1 n k (w64 (x0 + (1 : Int))) x1 x2 x3 x4 x5 x6) fun y38 =>
  .alt y38 (fun y39 =>
  .ret (.inr (.inr (.inr y39.1))))
  fun y40 =>
  .alt y40 (fun y41 =>
  .ret (.inr (.inl y41)))
  fun y42 =>
  .alt y42 (fun y43 =>
  .ret (.inr (.inl y43)))
  fun y44 =>
  .ret (.inr (.inr (.inr y44))))))
  (.ret (.inr (.inl x6)))
def S_r20_Index_Merge_l0_1 (n k : Nat) : CutF := mkS ⟨[(.ptr 0 0), (.ptr 2 0), (.ptr 4 0), (.ptr 8 0), (.val (.sint .i64) (0 : Int))], [⟨0, 1, .box (.agg (.pr (.ro false T5 []) .un))⟩, ⟨2, 3, .box (.agg (.pr (.ro false T5 []) .un))⟩, ⟨4, 5, .box (.agg (.pr (.whole 6 36) .un))⟩, ⟨6, 7, .row T5 []⟩, ⟨8, 9, .box (.agg (.pr (.whole 10 36) .un))⟩, ⟨10, 11, .row T5 []⟩], 12⟩ [.d (.sint .i64), .c, .d T6, .c, .d T6, .d T6, .d T6] fun v => .sub (F_r20_Index_Merge_l0_1 n k (p0 v) (p1 v) (p2 v) (p3 v) (p4 v) (p5 v) (p6 v)) fun r => .alt r (fun r => .ret (.rt, [(.val (.sint .i64) (19 : Int))], [⟨0, 13, .box (.agg (.pr (.ro (p1 v) T5 (p2 v)) .un))⟩, ⟨2, 15, .box (.agg (.pr (.ro (p3 v) T5 (p4 v)) .un))⟩, ⟨4, 17, .box (.agg (.pr (.ro (p1 v) T5 (p2 v)) .un))⟩, ⟨8, 19, .box (.agg (.pr (.whole 20 36) .un))⟩, ⟨20, 21, .row T5 r.1⟩, ⟨22, 23, .row T5 r.2⟩], 24)) (fun r => .alt r (fun r => .ret (.ex 0, [], [⟨0, 13, .box (.agg (.pr (.ro (p1 v) T5 (p2 v)) .un))⟩, ⟨2, 15, .box (.agg (.pr (.ro (p3 v) T5 (p4 v)) .un))⟩, ⟨4, 17, .box (.agg (.pr (.whole 18 36) .un))⟩, ⟨18, 19, .row T5 (p5 v)⟩, ⟨8, 21, .box (.agg (.pr (.whole 22 36) .un))⟩, ⟨22, 23, .row T5 r⟩], 24)) (fun r => .alt r (fun r => .ret (.ex 0, [], [⟨0, 13, .box (.agg (.pr (.ro (p1 v) T5 (p2 v)) .un))⟩, ⟨2, 15, .box (.agg (.pr (.ro (p3 v) T5 (p4 v)) .un))⟩, ⟨4, 17, .box (.agg (.pr (.whole 18 36) .un))⟩, ⟨18, 19, .row T5 (p5 v)⟩, ⟨8, 21, .box (.agg (.pr (.whole 22 36) .un))⟩, ⟨22, 23, .row T5 r⟩, ⟨24, 25, .row T5 (p6 v)⟩], 26)) (fun r => .ret (.rt, [(.val (.sint .i64) (19 : Int))], [⟨0, 13, .box (.agg (.pr (.ro (p1 v) T5 (p2 v)) .un))⟩, ⟨2, 15, .box (.agg (.pr (.ro (p3 v) T5 (p4 v)) .un))⟩, ⟨4, 17, .box (.agg (.pr (.ro (p1 v) T5 (p2 v)) .un))⟩, ⟨8, 19, .box (.agg (.pr (.whole 20 36) .un))⟩, ⟨20, 21, .row T5 r⟩], 22))))
theorem rd_r20_Index_Merge_l0_1 (n k : Nat) : Rounds Try.prog (Go.Func.ntmps Try.f43) (bodyOf Try.f43 0) C_43_0 [S_r20_Index_Merge_l0_1 n k] (S_r20_Index_Merge_l0_1 n (k + 1)) :=
  rounds_go (tab := mkTab [(36, ⟨S_r20_Index_Find n, [], [], true⟩)]) (cuts := mkCuts []) (S_r20_Index_Merge_l0_1 n k) [] (.cons (ok_r20_Index_Find n) ⟨_, Try.func36, by kernel_rfl⟩ .nil) (.none0 (by kernel_rfl)) rfl (fun v => by kernel_rfl)
theorem ok_r20_Index_Merge_l0_1 (n k : Nat) : SoundC Try.prog (Go.Func.ntmps Try.f43) (.loop (bodyOf Try.f43 0)) (wr (bodyOf Try.f43 0)) (C_43_0 (S_r20_Index_Merge_l0_1 n k)) :=
  loop_go (K := fun k => [S_r20_Index_Merge_l0_1 n k]) (fun _ => rfl) (by kernel_rfl) ⟨z_go fun _ => by kernel_rfl, trivial⟩ (fun k => ⟨rd_r20_Index_Merge_l0_1 n k, trivial⟩) k rfl
def F_r20_Index_Merge_l0 (n : Nat) : Nat → (Int) → (Bool) → (List (Int × List UInt8 × List UInt8 × Int × Int)) → (Bool) → (List (Int × List UInt8 × List UInt8 × Int × Int)) → (List (Int × List UInt8 × List UInt8 × Int × Int)) → (Bool) → (List (Int × List UInt8 × List UInt8 × Int × Int)) → Tree (Unit ⊕ ((List (Int × List UInt8 × List UInt8 × Int × Int)) ⊕ ((List (Int × List UInt8 × List UInt8 × Int × Int)) ⊕ (Unit ⊕ Unit))))
 | 0 => fun  x0 x1 x2 x3 x4 x5 x6 x7 => .fail
 | k + 1 => fun x0 x1 x2 x3 x4 x5 x6 x7 =>
  .ite (decide (x0 < (ln x4)))
  (.get (getI x4 x0) fun y8 =>
  .get (getI x4 x0) fun y9 =>
  .get (Tree.run (F_r20_Index_Find n x1 x2 y8.1 y9.2.1)) fun y10 =>
  .ite y10.2.2.2
  (.get (getI x4 x0) fun y11 =>
  .ite (!(eqV T2 (y10.1, (y10.2.1, y10.2.2.1)) (y11.2.2.1, (y11.2.2.2.1, y11.2.2.2.2))))
  (.ret (.inl ()))
  (.ite (!y10.2.2.2)
  (.get (appI 1954687338268 ([] : List (Int × ((List UInt8) × ((List UInt8) × (Int × Int))))) x7) fun y12 =>
  .get (getI x4 x0) fun y13 =>
  .get (appI 1954687338268 y12 (List.set ([((0 : Int), ((zs 32), (([] : List UInt8), ((0 : Int), (0 : Int)))))] : List (Int × ((List UInt8) × ((List UInt8) × (Int × Int))))) 0 (y13.1, (y13.2.1, (y13.2.2.1, (y13.2.2.2.1, y13.2.2.2.2)))))) fun y14 =>
  .sub (F_r20_Index_Merge_l0_1 n k (w64 (x0 + (1 : Int))) x1 x2 x3 x4 x5 y14) fun y15 =>
  .alt y15 (fun y16 =>
  .ret (.inr (.inl y16.1)))
  fun y17 =>
  .alt y17 (fun y18 =>
  .ret (.inr (.inr (.inl y18))))
  fun y19 =>
  .alt y19 (fun y20 =>
  .ret (.inr (.inr (.inl y20))))
  fun y21 =>
  .ret (.inr (.inl y21)))
  (.sub (F_r20_Index_Merge_l0 n k (w64 (x0 + (1 : Int))) x1 x2 x3 x4 x5 x6 x7) fun y22 =>
  .alt y22 (fun y23 =>
  .ret (.inr (.inr (.inr (.inr ())))))
  fun y24 =>
  .alt y24 (fun y25 =>
  .ret (.inr (.inl y25)))
  fun y26 =>
  .alt y26 (fun y27 =>
  .ret (.inr (.inr (.inl y27))))
  fun y28 =>
  .alt y28 (fun y29 =>
  .ret (.inr (.inr (.inr (.inl ())))))
  fun y30 =>
  .ret (.inr (.inr (.inr (.inr ())))))))
  (.ite (!y10.2.2.2)
  (.get (appI 1954687338268 ([] : List (Int × ((List UInt8) × ((List UInt8) × (Int × Int))))) x7) fun y31 =>
  .get (getI x4 x0) fun y32 =>
  .get (appI 1954687338268 y31 (List.set ([((0 : Int), ((zs 32), (([] : List UInt8), ((0 : Int), (0 : Int)))))] : List (Int × ((List UInt8) × ((List UInt8) × (Int × Int))))) 0 (y32.1, (y32.2.1, (y32.2.2.1, (y32.2.2.2.1, y32.2.2.2.2)))))) fun y33 =>
  .sub (F_r20_Index_Merge_l0_1 n k (w64 (x0 + (1 : Int))) x1 x2 x3 x4 x5 y33) fun y34 =>
  .alt y34 (fun y35 =>
  .ret (.inr (.inl y35.1)))
  fun y36 =>
  .alt y36 (fun y37 =>
  .ret (.inr (.inr (.inl y37))))
  fun y38 =>
  .alt y38 (fun y39 =>
  .ret (.inr (.inr (.inl y39))))
  fun y40 =>
  .ret (.inr (.inl y40)))
  (.sub (F_r20_Index_Merge_l0 n k (w64 (x0 + (1 : Int))) x1 x2 x3 x4 x5 x6 x7) fun y41 =>
  .alt y41 (fun y42 =>
  .ret (.inr (.inr (.inr (.inr ())))))
  fun y43 =>
  .alt y43 (fun y44 =>
  .ret (.inr (.inl y44)))
  fun y45 =>
  .alt y45 (fun y46 =>
  .ret (.inr (.inr (.inl y46))))
  fun y47 =>
  .alt y47 (fun y48 =>
  .ret (.inr (.inr (.inr (.inl ())))))
  fun y49 =>
  .ret (.inr (.inr (.inr (.inr ())))))))
  (.ret (.inr (.inr (.inr (.inl ())))))
def S_r20_Index_Merge_l0 (n k : Nat) : CutF := mkS ⟨[(.ptr 0 0), (.ptr 2 0), (.ptr 4 0), (.ptr 8 0), (.val (.sint .i64) (0 : Int))], [⟨0, 1, .box (.agg (.pr (.ro false T5 []) .un))⟩, ⟨2, 3, .box (.agg (.pr (.ro false T5 []) .un))⟩, ⟨4, 5, .box (.agg (.pr (.whole 6 36) .un))⟩, ⟨6, 7, .row T5 []⟩, ⟨8, 9, .box (.agg (.pr (.ro false T5 []) .un))⟩], 10⟩ [.d (.sint .i64), .c, .d T6, .c, .d T6, .d T6, .c, .d T6] fun v => .sub (F_r20_Index_Merge_l0 n k (p0 v) (p1 v) (p2 v) (p3 v) (p4 v) (p5 v) (p6 v) (p7 v)) fun r => .alt r (fun r => .ret (.rt, [(.val (.sint .i64) (19 : Int))], [⟨0, 11, .box (.agg (.pr (.ro (p1 v) T5 (p2 v)) .un))⟩, ⟨2, 13, .box (.agg (.pr (.ro (p3 v) T5 (p4 v)) .un))⟩, ⟨4, 15, .box (.agg (.pr (.ro (p1 v) T5 (p2 v)) .un))⟩, ⟨8, 17, .box (.agg (.pr (.ro (p6 v) T5 (p7 v)) .un))⟩, ⟨18, 19, .row T5 (p5 v)⟩], 20)) (fun r => .alt r (fun r => .ret (.rt, [(.val (.sint .i64) (19 : Int))], [⟨0, 11, .box (.agg (.pr (.ro (p1 v) T5 (p2 v)) .un))⟩, ⟨2, 13, .box (.agg (.pr (.ro (p3 v) T5 (p4 v)) .un))⟩, ⟨4, 15, .box (.agg (.pr (.ro (p1 v) T5 (p2 v)) .un))⟩, ⟨8, 17, .box (.agg (.pr (.whole 18 36) .un))⟩, ⟨18, 19, .row T5 r⟩], 20)) (fun r => .alt r (fun r => .ret (.ex 0, [], [⟨0, 11, .box (.agg (.pr (.ro (p1 v) T5 (p2 v)) .un))⟩, ⟨2, 13, .box (.agg (.pr (.ro (p3 v) T5 (p4 v)) .un))⟩, ⟨4, 15, .box (.agg (.pr (.whole 16 36) .un))⟩, ⟨16, 17, .row T5 (p5 v)⟩, ⟨8, 19, .box (.agg (.pr (.whole 20 36) .un))⟩, ⟨20, 21, .row T5 r⟩], 22)) (fun r => .alt r (fun r => .ret (.ex 0, [], [⟨0, 11, .box (.agg (.pr (.ro (p1 v) T5 (p2 v)) .un))⟩, ⟨2, 13, .box (.agg (.pr (.ro (p3 v) T5 (p4 v)) .un))⟩, ⟨4, 15, .box (.agg (.pr (.whole 16 36) .un))⟩, ⟨16, 17, .row T5 (p5 v)⟩, ⟨8, 19, .box (.agg (.pr (.ro (p6 v) T5 (p7 v)) .un))⟩], 20)) (fun r => .ret (.rt, [(.val (.sint .i64) (19 : Int))], [⟨0, 11, .box (.agg (.pr (.ro (p1 v) T5 (p2 v)) .un))⟩, ⟨2, 13, .box (.agg (.pr (.ro (p3 v) T5 (p4 v)) .un))⟩, ⟨4, 15, .box (.agg (.pr (.ro (p1 v) T5 (p2 v)) .un))⟩, ⟨8, 17, .box (.agg (.pr (.ro (p6 v) T5 (p7 v)) .un))⟩], 18)))))
theorem rd_r20_Index_Merge_l0 (n k : Nat) : Rounds Try.prog (Go.Func.ntmps Try.f43) (bodyOf Try.f43 0) C_43_0 [S_r20_Index_Merge_l0 n k, S_r20_Index_Merge_l0_1 n k] (S_r20_Index_Merge_l0 n (k + 1)) :=
  rounds_go (tab := mkTab [(36, ⟨S_r20_Index_Find n, [], [], true⟩)]) (cuts := mkCuts []) (S_r20_Index_Merge_l0 n k) [S_r20_Index_Merge_l0_1 n k] (.cons (ok_r20_Index_Find n) ⟨_, Try.func36, by kernel_rfl⟩ .nil) (.none0 (by kernel_rfl)) rfl (fun v => by kernel_rfl)
theorem ok_r20_Index_Merge_l0 (n k : Nat) : SoundC Try.prog (Go.Func.ntmps Try.f43) (.loop (bodyOf Try.f43 0)) (wr (bodyOf Try.f43 0)) (C_43_0 (S_r20_Index_Merge_l0 n k)) :=
  loop_go (K := fun k => [S_r20_Index_Merge_l0 n k, S_r20_Index_Merge_l0_1 n k]) (fun _ => rfl) (by kernel_rfl) ⟨z_go fun _ => by kernel_rfl, z_go fun _ => by kernel_rfl, trivial⟩ (fun k => ⟨rd_r20_Index_Merge_l0 n k, (rd_r20_Index_Merge_l0_1 n k).mono (List.forall_mem_cons.2 ⟨(.tail _ (.head _)), (fun _ h => by cases h)⟩), trivial⟩) k rfl
def F_r20_Index_Merge (n : Nat) (x0 : Bool) (x1 : List (Int × List UInt8 × List UInt8 × Int × Int)) (x2 : Bool) (x3 : List (Int × List UInt8 × List UInt8 × Int × Int)) : Tree ((Bool) × ((List (Int × List UInt8 × List UInt8 × Int × Int)) × Int)) :=
  .sub (F_r20_Index_Merge_l0 n n (0 : Int) x0 x1 x2 x3 ([] : List (Int × ((List UInt8) × ((List UInt8) × (Int × Int))))) x0 x1) fun y4 =>
  .alt y4 (fun y5 =>
  .ret (x0, x1, (19 : Int)))
  fun y6 =>
  .alt y6 (fun y7 =>
  .ret (x0, x1, (19 : Int)))
  fun y8 =>
  .alt y8 (fun y9 =>
  .ret (false, y9, (0 : Int)))
  fun y10 =>
  .alt y10 (fun y11 =>
  .ret (x0, x1, (0 : Int)))
  fun y12 =>
  .ret (x0, x1, (19 : Int))
def S_r20_Index_Merge (n : Nat) : Summ := mkS ⟨[(.agg (.pr (.ro false T5 []) .un)), (.agg (.pr (.ro false T5 []) .un))], [], 0⟩ [.c, .d T6, .c, .d T6] fun v => .sub (F_r20_Index_Merge n (p0 v) (p1 v) (p2 v) (p3 v)) fun r => .ret ((.tup (.pr (.agg (.pr (.ro r.1 T5 r.2.1) .un)) (.pr (.val (.sint .i64) r.2.2) .un))), [], 0)
theorem ok_r20_Index_Merge (n : Nat) : SoundF Try.prog 43 (S_r20_Index_Merge n) :=
  fn_go true (c := codeOf Try.f43) (tab := mkTab []) (cuts := mkCuts [(0, C_43_0 (S_r20_Index_Merge_l0 n n))]) Try.func43 (by kernel_rfl) .nil (CutsOK.list (l := [(0, .lp (bodyOf Try.f43 0))]) (by kernel_rfl) (LoopsOK.all ⟨.inr ⟨_, rfl, ok_r20_Index_Merge_l0 n n⟩, trivial⟩)) (fun v => by kernel_rfl)
def F_index_Index_Merge_2 (n : Nat) : Tree Unit :=
  .ret ()
def S_index_Index_Merge_2 (n : Nat) : Summ := mkS ⟨[(.ptr 0 0), .nil], [⟨0, 1, .box (.agg (.pr (.mpv 2) .un))⟩, ⟨2, 3, .mp T1 T2 []⟩], 4⟩ [.d T3] fun v => .sub (F_index_Index_Merge_2 n) fun r => .ret ((.val (.sint .i64) (0 : Int)), [⟨0, 5, .box (.agg (.pr (.mpv 2) .un))⟩, ⟨2, 3, .mp T1 T2 (p0 v)⟩], 8)
theorem ok_index_Index_Merge_2 (n : Nat) : SoundF Try.prog 42 (S_index_Index_Merge_2 n) :=
  fn_go false (c := codeOf Try.f42) (tab := mkTab []) (cuts := mkCuts []) Try.func42 (by kernel_rfl) .nil (CutsOK.list (l := [(0, .lp (bodyOf Try.f42 0)), (2, .lp (bodyOf Try.f42 2))]) (by kernel_rfl) (LoopsOK.all ⟨.inl rfl, ⟨.inl rfl, trivial⟩⟩)) (fun v => by kernel_rfl)
def F_w20_IndexMerges (n : Nat) (x0 : Bool) (x1 : List (Int × List UInt8 × List UInt8 × Int × Int)) (x2 : Bool) (x3 : List (Int × List UInt8 × List UInt8 × Int × Int)) : Tree Bool :=
  .sub (F_w20_both n x0 x1) fun y4 =>
  .sub (F_w20_both n x2 x3) fun y5 =>
  .sub (F_index_Index_Merge_1 n y4.2.2.2 y5.2.2.2) fun y6 =>
  .alt y6 (fun y7 =>
  .sub (F_r20_Index_Merge n y4.1 y4.2.1 y5.1 y5.2.1) fun y8 =>
  .ite (decide (y7 = y8.2.2))
  (.get (Tree.run (F_index_Index_List_1 n y4.2.2.2)) fun y9 =>
  .get (Tree.run (F_r20_Index_List n y8.1 y8.2.1)) fun y10 =>
  .get (Tree.run (F_r20_Same n y9 y10)) fun y11 =>
  .ite y11
  (.get (Tree.run (F_index_Index_List_1 n y5.2.2.2)) fun y12 =>
  .get (Tree.run (F_r20_Index_List n y5.1 y5.2.1)) fun y13 =>
  .get (Tree.run (F_r20_Same n y12 y13)) fun y14 =>
  .ite y14
  (.get (Tree.run (F_index_Index_Merge_2 n)) fun y15 =>
  .ite true
  (.get (Tree.run (F_w20_awake n)) fun y16 =>
  .ret y16)
  (.ret false))
  (.ret false))
  (.ret false))
  (.ret false))
  fun y17 =>
  .sub (F_r20_Index_Merge n y4.1 y4.2.1 y5.1 y5.2.1) fun y18 =>
  .ite (decide ((0 : Int) = y18.2.2))
  (.get (Tree.run (F_index_Index_List_1 n y17)) fun y19 =>
  .get (Tree.run (F_r20_Index_List n y18.1 y18.2.1)) fun y20 =>
  .get (Tree.run (F_r20_Same n y19 y20)) fun y21 =>
  .ite y21
  (.get (Tree.run (F_index_Index_List_1 n y5.2.2.2)) fun y22 =>
  .get (Tree.run (F_r20_Index_List n y5.1 y5.2.1)) fun y23 =>
  .get (Tree.run (F_r20_Same n y22 y23)) fun y24 =>
  .ite y24
  (.get (Tree.run (F_index_Index_Merge_2 n)) fun y25 =>
  .ite true
  (.get (Tree.run (F_w20_awake n)) fun y26 =>
  .ret y26)
  (.ret false))
  (.ret false))
  (.ret false))
  (.ret false)
def S_w20_IndexMerges (n : Nat) : Summ := mkS ⟨[(.ro false T5 []), (.ro false T5 [])], [], 0⟩ [.c, .d T6, .c, .d T6] fun v => .sub (F_w20_IndexMerges n (p0 v) (p1 v) (p2 v) (p3 v)) fun r => .ret ((.val .bool r), [], 0)
theorem ok_w20_IndexMerges (n : Nat) : SoundF Try.prog 8 (S_w20_IndexMerges n) :=
  fn_go true (c := codeOf Try.f8) (tab := mkTab [(34, ⟨S_w20_both n, [], [], false⟩), (42, ⟨orS (S_index_Index_Merge_1 n) (S_index_Index_Merge_2 n), [], [], false⟩), (43, ⟨S_r20_Index_Merge n, [], [], true⟩), (39, ⟨S_index_Index_List_1 n, [], [], false⟩), (40, ⟨S_r20_Index_List n, [], [], true⟩), (33, ⟨S_r20_Same n, [], [], true⟩), (28, ⟨S_w20_awake n, [], [], false⟩)]) (cuts := mkCuts []) Try.func8 (by kernel_rfl) (.cons (ok_w20_both n) ⟨_, Try.func34, by kernel_rfl⟩ (.cons (.or (ok_index_Index_Merge_1 n) (ok_index_Index_Merge_2 n)) ⟨_, Try.func42, by kernel_rfl⟩ (.cons (ok_r20_Index_Merge n) ⟨_, Try.func43, by kernel_rfl⟩ (.cons (ok_index_Index_List_1 n) ⟨_, Try.func39, by kernel_rfl⟩ (.cons (ok_r20_Index_List n) ⟨_, Try.func40, by kernel_rfl⟩ (.cons (ok_r20_Same n) ⟨_, Try.func33, by kernel_rfl⟩ (.cons (ok_w20_awake n) ⟨_, Try.func28, by kernel_rfl⟩ .nil))))))) (.none0 (by kernel_rfl)) (fun v => by kernel_rfl)
end Hyp
