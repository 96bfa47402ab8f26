/- Printed by Gen.lean.tpl (this work's own): Go functions as pure functions, each with the proof that the Go code comes to its answers. -/
import Derived.Test.YtcipfbabjbcfkaaZD
import Derived.Test.YtcipfbabjbcfkaaSL
import Derived.Test.YtcipfbabjbcfkaaSd
import Derived.Test.YtcipfbabjbcfkaaSV
import Derived.Test.YtcipfbabjbcfkaaChecked
set_option linter.unusedVariables false
set_option maxRecDepth 100000
set_option maxHeartbeats 4000000
namespace Hyp
open Go Go.Proofs
abbrev T1 : Ty := .rcd (.pair (.sint .i64) (.arr 32 .u8))
abbrev T2 : Ty := .rcd (.pair .str (.pair (.sint .i64) (.sint .i64)))
abbrev T3 : Ty := .list (.rcd (.pair (.rcd (.pair (.sint .i64) (.arr 32 .u8))) (.rcd (.pair .str (.pair (.sint .i64) (.sint .i64))))))
abbrev T4 : Ty := .list (.rcd (.pair (.arr 32 .u8) (.sint .i64)))
abbrev T5 : Ty := .rcd (.pair (.sint .i64) (.pair (.arr 32 .u8) (.rcd (.pair .str (.pair (.sint .i64) (.sint .i64))))))
abbrev T6 : Ty := .list (.rcd (.pair (.sint .i64) (.pair (.arr 32 .u8) (.rcd (.pair .str (.pair (.sint .i64) (.sint .i64)))))))
def F_index_New (n : Nat) : Tree Unit :=
  .ret ()
def S_index_New (n : Nat) : Summ := mkS ⟨[], [], 0⟩ [] fun v => .sub (F_index_New n) fun r => .ret ((.ptr 0 0), [⟨0, 1, .box (.agg (.pr (.mpv 2) .un))⟩, ⟨2, 3, .mp T1 T2 ([] : List ((Int × (List UInt8)) × ((List UInt8) × (Int × Int))))⟩], 4)
theorem ok_index_New (n : Nat) : SoundF Try.prog 8 (S_index_New n) :=
  fn_go false true (c := codeOf Try.f8) (tab := mkTab []) (cuts := mkCuts []) Try.func8 (by kernel_rfl) .nil (.none0 (by kernel_rfl)) (fun v => by kernel_rfl)
def C_53_0 : CutF → Cut := fun κ => ⟨[14, 15, 16], fun e => match e with | .ex i => bif Nat.beq i 0 then [] else [] | .rt => [2] | .nm => [] | .go i => [], κ⟩
def F_store_Named_l0 (n : Nat) : Nat → (Int) → (Int) → (List UInt8) → Tree (Unit ⊕ Unit)
 | 0 => fun  x0 x1 x2 => .fail
 | k + 1 => fun x0 x1 x2 =>
  .ite (decide (x1 < x0))
  (.get (inI (List.length x2) x1) fun y3 =>
  .get (gt x2 (0 + y3)) fun y4 =>
  .ite (bif (decide (y4 < (97 : UInt8))) then ((decide (y4 < (48 : UInt8))) || (decide ((57 : UInt8) < y4))) else ((decide ((122 : UInt8) < y4)) && ((decide (y4 < (48 : UInt8))) || (decide ((57 : UInt8) < y4)))))
  (.ret (.inl ()))
  (.sub (F_store_Named_l0 n k x0 (w64 (x1 + (1 : Int))) x2) fun y5 =>
  .alt y5 (fun y6 =>
  .ret (.inl ()))
  fun y7 =>
  .ret (.inr ())))
  (.ret (.inr ()))
def S_store_Named_l0 (n k : Nat) : CutF := mkS ⟨[(.whole 0 1), (.val (.sint .i64) (0 : Int)), (.val (.sint .i64) (0 : Int))], [⟨0, 1, .row .u8 []⟩], 2⟩ [.d (.sint .i64), .d (.sint .i64), .d (.list .u8)] fun v => .sub (F_store_Named_l0 n k (p0 v) (p1 v) (p2 v)) fun r => .alt r (fun r => .ret (.rt, [(.val .bool false)], [⟨0, 3, .row .u8 (p2 v)⟩], 4)) (fun r => .ret (.ex 0, [], [⟨0, 3, .row .u8 (p2 v)⟩], 4))
theorem rd_store_Named_l0 (n k : Nat) : Rounds Try.prog (Go.Func.ntmps Try.f53) (bodyOf Try.f53 0) C_53_0 [S_store_Named_l0 n k] (S_store_Named_l0 n (k + 1)) :=
  rounds_go (tab := mkTab []) (cuts := mkCuts []) (S_store_Named_l0 n k) [] .nil (.none0 (by kernel_rfl)) rfl (fun v => by kernel_rfl)
theorem ok_store_Named_l0 (n k : Nat) : SoundC Try.prog (Go.Func.ntmps Try.f53) (.loop (bodyOf Try.f53 0)) (wr (bodyOf Try.f53 0)) (C_53_0 (S_store_Named_l0 n k)) :=
  loop_go (K := fun k => [S_store_Named_l0 n k]) (fun _ => rfl) (by kernel_rfl) ⟨z_go fun _ => by kernel_rfl, trivial⟩ (fun k => ⟨rd_store_Named_l0 n k, trivial⟩) k rfl
def F_store_Named (n : Nat) (x0 : List UInt8) : Tree Bool :=
  .ite ((decide ((ln x0) < (1 : Int))) || (decide ((32 : Int) < (ln x0))))
  (.ret false)
  (.get (bytesI x0) fun y1 =>
  .sub (F_store_Named_l0 n n (ln y1) (0 : Int) y1) fun y2 =>
  .alt y2 (fun y3 =>
  .ret false)
  fun y4 =>
  .ret true)
def S_store_Named (n : Nat) : Summ := mkS ⟨[(.val .str [])], [], 0⟩ [.d .str] fun v => .sub (F_store_Named n (p0 v)) fun r => .ret ((.val .bool r), [], 0)
theorem ok_store_Named (n : Nat) : SoundF Try.prog 53 (S_store_Named n) :=
  fn_go false true (c := codeOf Try.f53) (tab := mkTab []) (cuts := mkCuts [(0, C_53_0 (S_store_Named_l0 n n))]) Try.func53 (by kernel_rfl) .nil (CutsOK.list (l := [(0, .lp (bodyOf Try.f53 0))]) (by kernel_rfl) (LoopsOK.all ⟨.inr ⟨_, rfl, ok_store_Named_l0 n n⟩, trivial⟩)) (fun v => by kernel_rfl)
def F_index_Right (n : Nat) (x0 : Int) (x1 : List UInt8) (x2 : Int) (x3 : Int) : Tree Bool :=
  .ite (decide (x0 < (1 : Int)))
  (.ret false)
  (.ite (decide ((3 : Int) < x0))
  (.ret false)
  (.sub (F_store_Named n x1) fun y4 =>
  .ite (!y4)
  (.ret false)
  (.ret ((decide ((8 : Int) ≤ x2)) && ((decide (x2 ≤ (65536 : Int))) && ((decide ((28 : Int) ≤ x3)) && (decide (x3 ≤ (w64 ((65536 : Int) - x2))))))))))
def S_index_Right (n : Nat) : Summ := mkS ⟨[(.agg (.pr (.val (.sint .i64) (0 : Int)) (.pr (.val (.arr 32 .u8) []) (.pr (.agg (.pr (.val .str []) (.pr (.val (.sint .i64) (0 : Int)) (.pr (.val (.sint .i64) (0 : Int)) .un)))) .un))))], [], 0⟩ [.d (.sint .i64), .d (.arr 32 .u8), .d .str, .d (.sint .i64), .d (.sint .i64)] fun v => .sub (F_index_Right n (p0 v) (p2 v) (p3 v) (p4 v)) fun r => .ret ((.val .bool r), [], 0)
theorem ok_index_Right (n : Nat) : SoundF Try.prog 36 (S_index_Right n) :=
  fn_go false true (c := codeOf Try.f36) (tab := mkTab [(53, ⟨S_store_Named n, [], [], false⟩)]) (cuts := mkCuts []) Try.func36 (by kernel_rfl) (.cons (ok_store_Named n) ⟨_, Try.func53, by kernel_rfl⟩ .nil) (.none0 (by kernel_rfl)) (fun v => by kernel_rfl)
def F_index_Index_Add (n : Nat) (x0 : Int) (x1 : List UInt8) (x2 : List UInt8) (x3 : Int) (x4 : Int) (x5 : List ((Int × List UInt8) × List UInt8 × Int × Int)) : Tree (Int ⊕ (List ((Int × List UInt8) × List UInt8 × Int × Int))) :=
  .sub (F_index_Right n x0 x2 x3 x4) fun y6 =>
  .ite (!y6)
  (.ret (.inl (1 : Int)))
  (.ite (Option.isSome (mget T1 T2 x5 (x0, x1)))
  (.ret (.inl (19 : Int)))
  (.ret (.inr (mput T1 T2 x5 (x0, x1) (x2, (x3, x4))))))
def S_index_Index_Add (n : Nat) : Summ := mkS ⟨[(.ptr 0 0), (.agg (.pr (.val (.sint .i64) (0 : Int)) (.pr (.val (.arr 32 .u8) []) (.pr (.agg (.pr (.val .str []) (.pr (.val (.sint .i64) (0 : Int)) (.pr (.val (.sint .i64) (0 : Int)) .un)))) .un))))], [⟨0, 1, .box (.agg (.pr (.mpv 2) .un))⟩, ⟨2, 3, .mp T1 T2 []⟩], 4⟩ [.d (.sint .i64), .d (.arr 32 .u8), .d .str, .d (.sint .i64), .d (.sint .i64), .d T3] fun v => .sub (F_index_Index_Add n (p0 v) (p1 v) (p2 v) (p3 v) (p4 v) (p5 v)) fun r => .alt r (fun r => .ret ((.val (.sint .i64) r), [⟨0, 5, .box (.agg (.pr (.mpv 2) .un))⟩, ⟨2, 3, .mp T1 T2 (p5 v)⟩], 8)) (fun r => .ret ((.val (.sint .i64) (0 : Int)), [⟨0, 5, .box (.agg (.pr (.mpv 2) .un))⟩, ⟨2, 7, .mp T1 T2 r⟩], 8))
theorem ok_index_Index_Add (n : Nat) : SoundF Try.prog 22 (S_index_Index_Add n) :=
  fn_go false true (c := codeOf Try.f22) (tab := mkTab [(36, ⟨S_index_Right n, [], [], true⟩)]) (cuts := mkCuts []) Try.func22 (by kernel_rfl) (.cons (ok_index_Right n) ⟨_, Try.func36, by kernel_rfl⟩ .nil) (.none0 (by kernel_rfl)) (fun v => by kernel_rfl)
def C_26_0 : CutF → Cut := fun κ => ⟨[0, 1, 7, 8, 14, 15, 16], fun e => match e with | .ex i => bif Nat.beq i 0 then [8] else [] | .rt => [] | .nm => [] | .go i => [], κ⟩
def F_index_Index_Find (n : Nat) (x0 : Int) (x1 : List UInt8) (x2 : List ((Int × List UInt8) × List UInt8 × Int × Int)) : Tree ((List UInt8) × ((Int) × ((Int) × Bool))) :=
  .ret ((mgetD T1 T2 x2 (x0, x1) (([] : List UInt8), ((0 : Int), (0 : Int)))).1, (mgetD T1 T2 x2 (x0, x1) (([] : List UInt8), ((0 : Int), (0 : Int)))).2.1, (mgetD T1 T2 x2 (x0, x1) (([] : List UInt8), ((0 : Int), (0 : Int)))).2.2, (Option.isSome (mget T1 T2 x2 (x0, x1))))
def S_index_Index_Find (n : Nat) : Summ := mkS ⟨[(.ptr 0 0), (.val (.sint .i64) (0 : Int)), (.val (.arr 32 .u8) [])], [⟨0, 1, .box (.agg (.pr (.mpv 2) .un))⟩, ⟨2, 3, .mp T1 T2 []⟩], 4⟩ [.d (.sint .i64), .d (.arr 32 .u8), .d T3] fun v => .sub (F_index_Index_Find n (p0 v) (p1 v) (p2 v)) fun r => .ret ((.tup (.pr (.agg (.pr (.val .str r.1) (.pr (.val (.sint .i64) r.2.1) (.pr (.val (.sint .i64) r.2.2.1) .un)))) (.pr (.val .bool r.2.2.2) .un))), [⟨0, 5, .box (.agg (.pr (.mpv 2) .un))⟩, ⟨2, 3, .mp T1 T2 (p2 v)⟩], 8)
theorem ok_index_Index_Find (n : Nat) : SoundF Try.prog 46 (S_index_Index_Find n) :=
  fn_go false true (c := codeOf Try.f46) (tab := mkTab []) (cuts := mkCuts []) Try.func46 (by kernel_rfl) .nil (.none0 (by kernel_rfl)) (fun v => by kernel_rfl)
def F_index_Index_Need_l0 (n : Nat) : Nat → (Int) → (Int) → (Int) → (List ((Int × List UInt8) × List UInt8 × Int × Int)) → (List (List UInt8 × Int)) → (List (List UInt8)) → (List (List UInt8)) → Tree (Unit ⊕ ((List (List UInt8)) × (List (List UInt8 × Int))))
 | 0 => fun  x0 x1 x2 x3 x4 x5 x6 => .fail
 | k + 1 => fun x0 x1 x2 x3 x4 x5 x6 =>
  .ite (decide (x2 < x1))
  (.get (inI (List.length x6) x2) fun y7 =>
  .get (gt x6 (0 + y7)) fun y8 =>
  .sub (F_index_Index_Find n x0 y8 x3) fun y9 =>
  .ite (y9.2.2.2 || (decide ((0 : Int) < (mgetD (.arr 32 .u8) (.sint .i64) x4 y8 (0 : Int)))))
  (.sub (F_index_Index_Need_l0 n k x0 x1 (w64 (x2 + (1 : Int))) x3 x4 x5 x6) fun y10 =>
  .alt y10 (fun y11 =>
  .ret (.inl ()))
  fun y12 =>
  .ret (.inr (y12.1, y12.2)))
  (.get (appI 4398046511104 x5 (List.set ([(zs 32)] : List (List UInt8)) 0 y8)) fun y13 =>
  .sub (F_index_Index_Need_l0 n k x0 x1 (w64 (x2 + (1 : Int))) x3 (mput (.arr 32 .u8) (.sint .i64) x4 y8 (1 : Int)) y13 x6) fun y14 =>
  .alt y14 (fun y15 =>
  .ret (.inr (y13, (mput (.arr 32 .u8) (.sint .i64) x4 y8 (1 : Int)))))
  fun y16 =>
  .ret (.inr (y16.1, y16.2))))
  (.ret (.inl ()))
def S_index_Index_Need_l0 (n k : Nat) : CutF := mkS ⟨[(.ptr 0 0), (.val (.sint .i64) (0 : Int)), (.mpv 4), (.whole 6 32), (.whole 8 32), (.val (.sint .i64) (0 : Int)), (.val (.sint .i64) (0 : Int))], [⟨0, 1, .box (.agg (.pr (.mpv 2) .un))⟩, ⟨2, 3, .mp T1 T2 []⟩, ⟨4, 5, .mp (.arr 32 .u8) (.sint .i64) []⟩, ⟨6, 7, .row (.arr 32 .u8) []⟩, ⟨8, 9, .row (.arr 32 .u8) []⟩], 10⟩ [.d (.sint .i64), .d (.sint .i64), .d (.sint .i64), .d T3, .d T4, .d (.list (.arr 32 .u8)), .d (.list (.arr 32 .u8))] fun v => .sub (F_index_Index_Need_l0 n k (p0 v) (p1 v) (p2 v) (p3 v) (p4 v) (p5 v) (p6 v)) fun r => .alt r (fun r => .ret (.ex 0, [(.whole 6 32)], [⟨6, 11, .row (.arr 32 .u8) (p5 v)⟩, ⟨0, 13, .box (.agg (.pr (.mpv 2) .un))⟩, ⟨2, 3, .mp T1 T2 (p3 v)⟩, ⟨4, 5, .mp (.arr 32 .u8) (.sint .i64) (p4 v)⟩, ⟨8, 19, .row (.arr 32 .u8) (p6 v)⟩], 20)) (fun r => .ret (.ex 0, [(.whole 10 32)], [⟨10, 11, .row (.arr 32 .u8) r.1⟩, ⟨0, 13, .box (.agg (.pr (.mpv 2) .un))⟩, ⟨2, 3, .mp T1 T2 (p3 v)⟩, ⟨4, 17, .mp (.arr 32 .u8) (.sint .i64) r.2⟩, ⟨8, 19, .row (.arr 32 .u8) (p6 v)⟩], 20))
theorem rd_index_Index_Need_l0 (n k : Nat) : Rounds Try.prog (Go.Func.ntmps Try.f26) (bodyOf Try.f26 0) C_26_0 [S_index_Index_Need_l0 n k] (S_index_Index_Need_l0 n (k + 1)) :=
  rounds_go (tab := mkTab [(46, ⟨S_index_Index_Find n, [], [], false⟩)]) (cuts := mkCuts []) (S_index_Index_Need_l0 n k) [] (.cons (ok_index_Index_Find n) ⟨_, Try.func46, by kernel_rfl⟩ .nil) (.none0 (by kernel_rfl)) rfl (fun v => by kernel_rfl)
theorem ok_index_Index_Need_l0 (n k : Nat) : SoundC Try.prog (Go.Func.ntmps Try.f26) (.loop (bodyOf Try.f26 0)) (wr (bodyOf Try.f26 0)) (C_26_0 (S_index_Index_Need_l0 n k)) :=
  loop_go (K := fun k => [S_index_Index_Need_l0 n k]) (fun _ => rfl) (by kernel_rfl) ⟨z_go fun _ => by kernel_rfl, trivial⟩ (fun k => ⟨rd_index_Index_Need_l0 n k, trivial⟩) k rfl
def F_index_Index_Need (n : Nat) (x0 : Int) (x1 : List ((Int × List UInt8) × List UInt8 × Int × Int)) (x2 : List (List UInt8)) : Tree (List (List UInt8)) :=
  .sub (F_index_Index_Need_l0 n n x0 (ln x2) (0 : Int) x1 ([] : List ((List UInt8) × Int)) ([] : List (List UInt8)) x2) fun y3 =>
  .alt y3 (fun y4 =>
  .ret ([] : List (List UInt8)))
  fun y5 =>
  .ret y5.1
def S_index_Index_Need (n : Nat) : Summ := mkS ⟨[(.ptr 0 0), (.val (.sint .i64) (0 : Int)), (.whole 4 32)], [⟨0, 1, .box (.agg (.pr (.mpv 2) .un))⟩, ⟨2, 3, .mp T1 T2 []⟩, ⟨4, 5, .row (.arr 32 .u8) []⟩], 6⟩ [.d (.sint .i64), .d T3, .d (.list (.arr 32 .u8))] fun v => .sub (F_index_Index_Need n (p0 v) (p1 v) (p2 v)) fun r => .ret ((.whole 6 32), [⟨6, 7, .row (.arr 32 .u8) r⟩, ⟨0, 9, .box (.agg (.pr (.mpv 2) .un))⟩, ⟨2, 3, .mp T1 T2 (p1 v)⟩, ⟨4, 13, .row (.arr 32 .u8) (p2 v)⟩], 14)
theorem ok_index_Index_Need (n : Nat) : SoundF Try.prog 26 (S_index_Index_Need n) :=
  fn_go false true (c := codeOf Try.f26) (tab := mkTab []) (cuts := mkCuts [(0, C_26_0 (S_index_Index_Need_l0 n n))]) Try.func26 (by kernel_rfl) .nil (CutsOK.list (l := [(0, .lp (bodyOf Try.f26 0))]) (by kernel_rfl) (LoopsOK.all ⟨.inr ⟨_, rfl, ok_index_Index_Need_l0 n n⟩, trivial⟩)) (fun v => by kernel_rfl)
def F_index_Index_Len (n : Nat) (x0 : List ((Int × List UInt8) × List UInt8 × Int × Int)) : Tree Int :=
  .ret (ln x0)
def S_index_Index_Len (n : Nat) : Summ := mkS ⟨[(.ptr 0 0)], [⟨0, 1, .box (.agg (.pr (.mpv 2) .un))⟩, ⟨2, 3, .mp T1 T2 []⟩], 4⟩ [.d T3] fun v => .sub (F_index_Index_Len n (p0 v)) fun r => .ret ((.val (.sint .i64) r), [⟨0, 5, .box (.agg (.pr (.mpv 2) .un))⟩, ⟨2, 3, .mp T1 T2 (p0 v)⟩], 8)
theorem ok_index_Index_Len (n : Nat) : SoundF Try.prog 27 (S_index_Index_Len n) :=
  fn_go false true (c := codeOf Try.f27) (tab := mkTab []) (cuts := mkCuts []) Try.func27 (by kernel_rfl) .nil (.none0 (by kernel_rfl)) (fun v => by kernel_rfl)
def F_w20_awake (n : Nat) : Tree Bool :=
  .sub (F_index_New n) fun y0 =>
  .sub (F_index_Index_Add n (1 : Int) ([2, 0, 0, 0, 0, 0, 0, 0, 0, 0, 0, 0, 0, 0, 0, 0, 0, 0, 0, 0, 0, 0, 0, 0, 0, 0, 0, 0, 0, 0, 0, 0] : List UInt8) ([112] : List UInt8) (8 : Int) (28 : Int) ([] : List ((Int × (List UInt8)) × ((List UInt8) × (Int × Int))))) fun y1 =>
  .alt y1 (fun y2 =>
  .ite (!(decide (y2 = (0 : Int))))
  (.ret false)
  (.sub (F_index_Index_Add n (1 : Int) ([2, 0, 0, 0, 0, 0, 0, 0, 0, 0, 0, 0, 0, 0, 0, 0, 0, 0, 0, 0, 0, 0, 0, 0, 0, 0, 0, 0, 0, 0, 0, 0] : List UInt8) ([112] : List UInt8) (8 : Int) (28 : Int) ([] : List ((Int × (List UInt8)) × ((List UInt8) × (Int × Int))))) fun y3 =>
  .alt y3 (fun y4 =>
  .ite (!(decide (y4 = (19 : Int))))
  (.ret false)
  (.sub (F_index_Index_Need n (1 : Int) ([] : List ((Int × (List UInt8)) × ((List UInt8) × (Int × Int)))) ([([1, 0, 0, 0, 0, 0, 0, 0, 0, 0, 0, 0, 0, 0, 0, 0, 0, 0, 0, 0, 0, 0, 0, 0, 0, 0, 0, 0, 0, 0, 0, 0] : List UInt8), ([2, 0, 0, 0, 0, 0, 0, 0, 0, 0, 0, 0, 0, 0, 0, 0, 0, 0, 0, 0, 0, 0, 0, 0, 0, 0, 0, 0, 0, 0, 0, 0] : List UInt8), ([1, 0, 0, 0, 0, 0, 0, 0, 0, 0, 0, 0, 0, 0, 0, 0, 0, 0, 0, 0, 0, 0, 0, 0, 0, 0, 0, 0, 0, 0, 0, 0] : List UInt8)] : List (List UInt8))) fun y5 =>
  .ite (decide ((ln y5) = (1 : Int)))
  (.get (inI (List.length y5) (0 : Int)) fun y6 =>
  .get (gt y5 (0 + y6)) fun y7 =>
  .ite (eqV (.arr 32 .u8) y7 ([1, 0, 0, 0, 0, 0, 0, 0, 0, 0, 0, 0, 0, 0, 0, 0, 0, 0, 0, 0, 0, 0, 0, 0, 0, 0, 0, 0, 0, 0, 0, 0] : List UInt8))
  (.sub (F_index_Index_Len n ([] : List ((Int × (List UInt8)) × ((List UInt8) × (Int × Int))))) fun y8 =>
  .ret (decide (y8 = (1 : Int))))
  (.ret false))
  (.ret false)))
  fun y9 =>
  .ite true
  (.ret false)
  (.sub (F_index_Index_Need n (1 : Int) y9 ([([1, 0, 0, 0, 0, 0, 0, 0, 0, 0, 0, 0, 0, 0, 0, 0, 0, 0, 0, 0, 0, 0, 0, 0, 0, 0, 0, 0, 0, 0, 0, 0] : List UInt8), ([2, 0, 0, 0, 0, 0, 0, 0, 0, 0, 0, 0, 0, 0, 0, 0, 0, 0, 0, 0, 0, 0, 0, 0, 0, 0, 0, 0, 0, 0, 0, 0] : List UInt8), ([1, 0, 0, 0, 0, 0, 0, 0, 0, 0, 0, 0, 0, 0, 0, 0, 0, 0, 0, 0, 0, 0, 0, 0, 0, 0, 0, 0, 0, 0, 0, 0] : List UInt8)] : List (List UInt8))) fun y10 =>
  .ite (decide ((ln y10) = (1 : Int)))
  (.get (inI (List.length y10) (0 : Int)) fun y11 =>
  .get (gt y10 (0 + y11)) fun y12 =>
  .ite (eqV (.arr 32 .u8) y12 ([1, 0, 0, 0, 0, 0, 0, 0, 0, 0, 0, 0, 0, 0, 0, 0, 0, 0, 0, 0, 0, 0, 0, 0, 0, 0, 0, 0, 0, 0, 0, 0] : List UInt8))
  (.sub (F_index_Index_Len n y9) fun y13 =>
  .ret (decide (y13 = (1 : Int))))
  (.ret false))
  (.ret false))))
  fun y14 =>
  .ite false
  (.ret false)
  (.sub (F_index_Index_Add n (1 : Int) ([2, 0, 0, 0, 0, 0, 0, 0, 0, 0, 0, 0, 0, 0, 0, 0, 0, 0, 0, 0, 0, 0, 0, 0, 0, 0, 0, 0, 0, 0, 0, 0] : List UInt8) ([112] : List UInt8) (8 : Int) (28 : Int) y14) fun y15 =>
  .alt y15 (fun y16 =>
  .ite (!(decide (y16 = (19 : Int))))
  (.ret false)
  (.sub (F_index_Index_Need n (1 : Int) y14 ([([1, 0, 0, 0, 0, 0, 0, 0, 0, 0, 0, 0, 0, 0, 0, 0, 0, 0, 0, 0, 0, 0, 0, 0, 0, 0, 0, 0, 0, 0, 0, 0] : List UInt8), ([2, 0, 0, 0, 0, 0, 0, 0, 0, 0, 0, 0, 0, 0, 0, 0, 0, 0, 0, 0, 0, 0, 0, 0, 0, 0, 0, 0, 0, 0, 0, 0] : List UInt8), ([1, 0, 0, 0, 0, 0, 0, 0, 0, 0, 0, 0, 0, 0, 0, 0, 0, 0, 0, 0, 0, 0, 0, 0, 0, 0, 0, 0, 0, 0, 0, 0] : List UInt8)] : List (List UInt8))) fun y17 =>
  .ite (decide ((ln y17) = (1 : Int)))
  (.get (inI (List.length y17) (0 : Int)) fun y18 =>
  .get (gt y17 (0 + y18)) fun y19 =>
  .ite (eqV (.arr 32 .u8) y19 ([1, 0, 0, 0, 0, 0, 0, 0, 0, 0, 0, 0, 0, 0, 0, 0, 0, 0, 0, 0, 0, 0, 0, 0, 0, 0, 0, 0, 0, 0, 0, 0] : List UInt8))
  (.sub (F_index_Index_Len n y14) fun y20 =>
  .ret (decide (y20 = (1 : Int))))
  (.ret false))
  (.ret false)))
  fun y21 =>
  .ite true
  (.ret false)
  (.sub (F_index_Index_Need n (1 : Int) y21 ([([1, 0, 0, 0, 0, 0, 0, 0, 0, 0, 0, 0, 0, 0, 0, 0, 0, 0, 0, 0, 0, 0, 0, 0, 0, 0, 0, 0, 0, 0, 0, 0] : List UInt8), ([2, 0, 0, 0, 0, 0, 0, 0, 0, 0, 0, 0, 0, 0, 0, 0, 0, 0, 0, 0, 0, 0, 0, 0, 0, 0, 0, 0, 0, 0, 0, 0] : List UInt8), ([1, 0, 0, 0, 0, 0, 0, 0, 0, 0, 0, 0, 0, 0, 0, 0, 0, 0, 0, 0, 0, 0, 0, 0, 0, 0, 0, 0, 0, 0, 0, 0] : List UInt8)] : List (List UInt8))) fun y22 =>
  .ite (decide ((ln y22) = (1 : Int)))
  (.get (inI (List.length y22) (0 : Int)) fun y23 =>
  .get (gt y22 (0 + y23)) fun y24 =>
  .ite (eqV (.arr 32 .u8) y24 ([1, 0, 0, 0, 0, 0, 0, 0, 0, 0, 0, 0, 0, 0, 0, 0, 0, 0, 0, 0, 0, 0, 0, 0, 0, 0, 0, 0, 0, 0, 0, 0] : List UInt8))
  (.sub (F_index_Index_Len n y21) fun y25 =>
  .ret (decide (y25 = (1 : Int))))
  (.ret false))
  (.ret false)))
def S_w20_awake (n : Nat) : Summ := mkS ⟨[], [], 0⟩ [] fun v => .sub (F_w20_awake n) fun r => .ret ((.val .bool r), [], 0)
theorem ok_w20_awake (n : Nat) : SoundF Try.prog 10 (S_w20_awake n) :=
  fn_go true true (c := codeOf Try.f10) (tab := mkTab [(8, ⟨S_index_New n, [], [], false⟩), (22, ⟨S_index_Index_Add n, [], [], false⟩), (26, ⟨S_index_Index_Need n, [], [], false⟩), (27, ⟨S_index_Index_Len n, [], [], false⟩)]) (cuts := mkCuts []) Try.func10 (by kernel_rfl) (.cons (ok_index_New n) ⟨_, Try.func8, by kernel_rfl⟩ (.cons (ok_index_Index_Add n) ⟨_, Try.func22, by kernel_rfl⟩ (.cons (ok_index_Index_Need n) ⟨_, Try.func26, by kernel_rfl⟩ (.cons (ok_index_Index_Len n) ⟨_, Try.func27, by kernel_rfl⟩ .nil)))) (.none0 (by kernel_rfl)) (fun v => by kernel_rfl)
def C_7_0 : CutF → Cut := fun κ => ⟨[0, 5, 6, 7, 8], fun e => match e with | .ex i => bif Nat.beq i 0 then [7] else [] | .rt => [] | .nm => [] | .go i => [], κ⟩
def C_56_0 : CutF → Cut := fun κ => ⟨[0, 3], fun e => match e with | .ex i => bif Nat.beq i 0 then [] else [] | .rt => [2] | .nm => [] | .go i => [], κ⟩
def F_r16_Named_l0 (n : Nat) : Nat → (List UInt8) → (Int) → Tree (Unit ⊕ Unit)
 | 0 => fun  x0 x1 => .fail
 | k + 1 => fun x0 x1 =>
  .ite (decide (x1 < (ln x0)))
  (.get (getI x0 x1) fun y2 =>
  .ite (decide ((97 : UInt8) ≤ y2))
  (.get (getI x0 x1) fun y3 =>
  .get (getI x0 x1) fun y4 =>
  .ite (decide ((48 : UInt8) ≤ y4))
  (.get (getI x0 x1) fun y5 =>
  .ite ((!(decide (y3 ≤ (122 : UInt8)))) && (!(decide (y5 ≤ (57 : UInt8)))))
  (.ret (.inl ()))
  (.sub (F_r16_Named_l0 n k x0 (w64 (x1 + (1 : Int)))) fun y6 =>
  .alt y6 (fun y7 =>
  .ret (.inl ()))
  fun y8 =>
  .ret (.inr ())))
  (.ite (!(decide (y3 ≤ (122 : UInt8))))
  (.ret (.inl ()))
  (.sub (F_r16_Named_l0 n k x0 (w64 (x1 + (1 : Int)))) fun y9 =>
  .alt y9 (fun y10 =>
  .ret (.inl ()))
  fun y11 =>
  .ret (.inr ()))))
  (.get (getI x0 x1) fun y12 =>
  .ite (decide ((48 : UInt8) ≤ y12))
  (.get (getI x0 x1) fun y13 =>
  .ite (!(decide (y13 ≤ (57 : UInt8))))
  (.ret (.inl ()))
  (.sub (F_r16_Named_l0 n k x0 (w64 (x1 + (1 : Int)))) fun y14 =>
  .alt y14 (fun y15 =>
  .ret (.inl ()))
  fun y16 =>
  .ret (.inr ())))
  (.ret (.inl ()))))
  (.ret (.inr ()))
def S_r16_Named_l0 (n k : Nat) : CutF := mkS ⟨[(.val .str []), (.val (.sint .i64) (0 : Int))], [], 0⟩ [.d .str, .d (.sint .i64)] fun v => .sub (F_r16_Named_l0 n k (p0 v) (p1 v)) fun r => .alt r (fun r => .ret (.rt, [(.val .bool false)], [], 0)) (fun r => .ret (.ex 0, [], [], 0))
theorem rd_r16_Named_l0 (n k : Nat) : Rounds Try.prog (Go.Func.ntmps Try.f56) (bodyOf Try.f56 0) C_56_0 [S_r16_Named_l0 n k] (S_r16_Named_l0 n (k + 1)) :=
  rounds_go (tab := mkTab []) (cuts := mkCuts []) (S_r16_Named_l0 n k) [] .nil (.none0 (by kernel_rfl)) rfl (fun v => by kernel_rfl)
theorem ok_r16_Named_l0 (n k : Nat) : SoundC Try.prog (Go.Func.ntmps Try.f56) (.loop (bodyOf Try.f56 0)) (wr (bodyOf Try.f56 0)) (C_56_0 (S_r16_Named_l0 n k)) :=
  loop_go (K := fun k => [S_r16_Named_l0 n k]) (fun _ => rfl) (by kernel_rfl) ⟨z_go fun _ => by kernel_rfl, trivial⟩ (fun k => ⟨rd_r16_Named_l0 n k, trivial⟩) k rfl
def F_r16_Named (n : Nat) (x0 : List UInt8) : Tree Bool :=
  .sub (F_r16_Named_l0 n n x0 (0 : Int)) fun y1 =>
  .alt y1 (fun y2 =>
  .ret false)
  fun y3 =>
  .ret ((decide ((1 : Int) ≤ (ln x0))) && (decide ((ln x0) ≤ (32 : Int))))
def S_r16_Named (n : Nat) : Summ := mkS ⟨[(.val .str [])], [], 0⟩ [.d .str] fun v => .sub (F_r16_Named n (p0 v)) fun r => .ret ((.val .bool r), [], 0)
theorem ok_r16_Named (n : Nat) : SoundF Try.prog 56 (S_r16_Named n) :=
  fn_go true true (c := codeOf Try.f56) (tab := mkTab []) (cuts := mkCuts [(0, C_56_0 (S_r16_Named_l0 n n))]) Try.func56 (by kernel_rfl) .nil (CutsOK.list (l := [(0, .lp (bodyOf Try.f56 0))]) (by kernel_rfl) (LoopsOK.all ⟨.inr ⟨_, rfl, ok_r16_Named_l0 n n⟩, trivial⟩)) (fun v => by kernel_rfl)
def F_r20_Right (n : Nat) (x0 : Int) (x1 : List UInt8) (x2 : Int) (x3 : Int) : Tree Bool :=
  .ite (decide (x0 < (1 : Int)))
  (.ret false)
  (.ite (decide ((3 : Int) < x0))
  (.ret false)
  (.sub (F_r16_Named n x1) fun y4 =>
  .ite (!y4)
  (.ret false)
  (.ite ((decide (x2 < (8 : Int))) || ((decide ((65536 : Int) < x2)) || ((decide (x3 < (28 : Int))) || (decide ((65536 : Int) < x3)))))
  (.ret false)
  (.ret (decide ((w64 (x2 + x3)) ≤ (65536 : Int)))))))
def S_r20_Right (n : Nat) : Summ := mkS ⟨[(.agg (.pr (.val (.sint .i64) (0 : Int)) (.pr (.val (.arr 32 .u8) []) (.pr (.agg (.pr (.val .str []) (.pr (.val (.sint .i64) (0 : Int)) (.pr (.val (.sint .i64) (0 : Int)) .un)))) .un))))], [], 0⟩ [.d (.sint .i64), .d (.arr 32 .u8), .d .str, .d (.sint .i64), .d (.sint .i64)] fun v => .sub (F_r20_Right n (p0 v) (p2 v) (p3 v) (p4 v)) fun r => .ret ((.val .bool r), [], 0)
theorem ok_r20_Right (n : Nat) : SoundF Try.prog 44 (S_r20_Right n) :=
  fn_go true true (c := codeOf Try.f44) (tab := mkTab [(56, ⟨S_r16_Named n, [], [], true⟩)]) (cuts := mkCuts []) Try.func44 (by kernel_rfl) (.cons (ok_r16_Named n) ⟨_, Try.func56, by kernel_rfl⟩ .nil) (.none0 (by kernel_rfl)) (fun v => by kernel_rfl)
def C_45_0 : CutF → Cut := fun κ => ⟨[1, 3, 5, 6, 8], fun e => match e with | .ex i => bif Nat.beq i 0 then [] else [] | .rt => [7] | .nm => [] | .go i => [], κ⟩
def F_r20_Index_Find_l0 (n : Nat) : Nat → (Int) → (Int) → (Bool) → (List (Int × List UInt8 × List UInt8 × Int × Int)) → (List UInt8) → (List UInt8) → (Int) → (Int) → Tree (((List UInt8) × ((Int) × Int)) ⊕ Unit)
 | 0 => fun  x0 x1 x2 x3 x4 x5 x6 x7 => .fail
 | k + 1 => fun x0 x1 x2 x3 x4 x5 x6 x7 =>
  .ite (decide (x1 < (ln x3)))
  (.get (getI x3 x1) fun y8 =>
  .ite (decide (y8.1 = x0))
  (.get (getI x3 x1) fun y9 =>
  .ite (eqV (.arr 32 .u8) y9.2.1 x4)
  (.get (getI x3 x1) fun y10 =>
  .ret (.inl (y10.2.2.1, y10.2.2.2.1, y10.2.2.2.2)))
  (.sub (F_r20_Index_Find_l0 n k x0 (w64 (x1 + (1 : Int))) x2 x3 x4 x5 x6 x7) fun y11 =>
  .alt y11 (fun y12 =>
  .ret (.inl (y12.1, y12.2.1, y12.2.2)))
  fun y13 =>
  .ret (.inr ())))
  (.sub (F_r20_Index_Find_l0 n k x0 (w64 (x1 + (1 : Int))) x2 x3 x4 x5 x6 x7) fun y14 =>
  .alt y14 (fun y15 =>
  .ret (.inl (y15.1, y15.2.1, y15.2.2)))
  fun y16 =>
  .ret (.inr ())))
  (.ret (.inr ()))
def S_r20_Index_Find_l0 (n k : Nat) : CutF := mkS ⟨[(.val (.sint .i64) (0 : Int)), (.ptr 0 0), (.ptr 2 0), (.ptr 4 0), (.val (.sint .i64) (0 : Int))], [⟨0, 1, .box (.agg (.pr (.ro false T5 []) .un))⟩, ⟨2, 3, .box (.val (.arr 32 .u8) [])⟩, ⟨4, 5, .box (.agg (.pr (.val .str []) (.pr (.val (.sint .i64) (0 : Int)) (.pr (.val (.sint .i64) (0 : Int)) .un))))⟩], 6⟩ [.d (.sint .i64), .d (.sint .i64), .c, .d T6, .d (.arr 32 .u8), .d .str, .d (.sint .i64), .d (.sint .i64)] fun v => .sub (F_r20_Index_Find_l0 n k (p0 v) (p1 v) (p2 v) (p3 v) (p4 v) (p5 v) (p6 v) (p7 v)) fun r => .alt r (fun r => .ret (.rt, [(.val .bool true)], [⟨0, 7, .box (.agg (.pr (.ro (p2 v) T5 (p3 v)) .un))⟩, ⟨2, 9, .box (.val (.arr 32 .u8) (p4 v))⟩, ⟨4, 11, .box (.agg (.pr (.val .str r.1) (.pr (.val (.sint .i64) r.2.1) (.pr (.val (.sint .i64) r.2.2) .un))))⟩], 12)) (fun r => .ret (.ex 0, [], [⟨0, 7, .box (.agg (.pr (.ro (p2 v) T5 (p3 v)) .un))⟩, ⟨2, 9, .box (.val (.arr 32 .u8) (p4 v))⟩, ⟨4, 11, .box (.agg (.pr (.val .str (p5 v)) (.pr (.val (.sint .i64) (p6 v)) (.pr (.val (.sint .i64) (p7 v)) .un))))⟩], 12))
theorem rd_r20_Index_Find_l0 (n k : Nat) : Rounds Try.prog (Go.Func.ntmps Try.f45) (bodyOf Try.f45 0) C_45_0 [S_r20_Index_Find_l0 n k] (S_r20_Index_Find_l0 n (k + 1)) :=
  rounds_go (tab := mkTab []) (cuts := mkCuts []) (S_r20_Index_Find_l0 n k) [] .nil (.none0 (by kernel_rfl)) rfl (fun v => by kernel_rfl)
theorem ok_r20_Index_Find_l0 (n k : Nat) : SoundC Try.prog (Go.Func.ntmps Try.f45) (.loop (bodyOf Try.f45 0)) (wr (bodyOf Try.f45 0)) (C_45_0 (S_r20_Index_Find_l0 n k)) :=
  loop_go (K := fun k => [S_r20_Index_Find_l0 n k]) (fun _ => rfl) (by kernel_rfl) ⟨z_go fun _ => by kernel_rfl, trivial⟩ (fun k => ⟨rd_r20_Index_Find_l0 n k, trivial⟩) k rfl
def F_r20_Index_Find (n : Nat) (x0 : Bool) (x1 : List (Int × List UInt8 × List UInt8 × Int × Int)) (x2 : Int) (x3 : List UInt8) : Tree ((List UInt8) × ((Int) × ((Int) × Bool))) :=
  .sub (F_r20_Index_Find_l0 n n x2 (0 : Int) x0 x1 x3 ([] : List UInt8) (0 : Int) (0 : Int)) fun y4 =>
  .alt y4 (fun y5 =>
  .ret (y5.1, y5.2.1, y5.2.2, true))
  fun y6 =>
  .ret (([] : List UInt8), (0 : Int), (0 : Int), false)
def S_r20_Index_Find (n : Nat) : Summ := mkS ⟨[(.agg (.pr (.ro false T5 []) .un)), (.val (.sint .i64) (0 : Int)), (.val (.arr 32 .u8) [])], [], 0⟩ [.c, .d T6, .d (.sint .i64), .d (.arr 32 .u8)] fun v => .sub (F_r20_Index_Find n (p0 v) (p1 v) (p2 v) (p3 v)) fun r => .ret ((.tup (.pr (.agg (.pr (.val .str r.1) (.pr (.val (.sint .i64) r.2.1) (.pr (.val (.sint .i64) r.2.2.1) .un)))) (.pr (.val .bool r.2.2.2) .un))), [], 0)
theorem ok_r20_Index_Find (n : Nat) : SoundF Try.prog 45 (S_r20_Index_Find n) :=
  fn_go true true (c := codeOf Try.f45) (tab := mkTab []) (cuts := mkCuts [(0, C_45_0 (S_r20_Index_Find_l0 n n))]) Try.func45 (by kernel_rfl) .nil (CutsOK.list (l := [(0, .lp (bodyOf Try.f45 0))]) (by kernel_rfl) (LoopsOK.all ⟨.inr ⟨_, rfl, ok_r20_Index_Find_l0 n n⟩, trivial⟩)) (fun v => by kernel_rfl)
def F_r20_Index_Add (n : Nat) (x0 : Bool) (x1 : List (Int × List UInt8 × List UInt8 × Int × Int)) (x2 : Int) (x3 : List UInt8) (x4 : List UInt8) (x5 : Int) (x6 : Int) : Tree ((Bool) × ((List (Int × List UInt8 × List UInt8 × Int × Int)) × Int)) :=
  .sub (F_r20_Right n x2 x4 x5 x6) fun y7 =>
  .ite (!y7)
  (.ret (x0, x1, (1 : Int)))
  (.sub (F_r20_Index_Find n x0 x1 x2 x3) fun y8 =>
  .ite y8.2.2.2
  (.ret (x0, x1, (19 : Int)))
  (.get (appI 1954687338268 ([] : List (Int × ((List UInt8) × ((List UInt8) × (Int × Int))))) x1) fun y9 =>
  .get (appI 1954687338268 y9 (List.set ([((0 : Int), ((zs 32), (([] : List UInt8), ((0 : Int), (0 : Int)))))] : List (Int × ((List UInt8) × ((List UInt8) × (Int × Int))))) 0 (x2, (x3, (x4, (x5, x6)))))) fun y10 =>
  .ret (false, y10, (0 : Int))))
def S_r20_Index_Add (n : Nat) : Summ := mkS ⟨[(.agg (.pr (.ro false T5 []) .un)), (.agg (.pr (.val (.sint .i64) (0 : Int)) (.pr (.val (.arr 32 .u8) []) (.pr (.agg (.pr (.val .str []) (.pr (.val (.sint .i64) (0 : Int)) (.pr (.val (.sint .i64) (0 : Int)) .un)))) .un))))], [], 0⟩ [.c, .d T6, .d (.sint .i64), .d (.arr 32 .u8), .d .str, .d (.sint .i64), .d (.sint .i64)] fun v => .sub (F_r20_Index_Add n (p0 v) (p1 v) (p2 v) (p3 v) (p4 v) (p5 v) (p6 v)) fun r => .ret ((.tup (.pr (.agg (.pr (.ro r.1 T5 r.2.1) .un)) (.pr (.val (.sint .i64) r.2.2) .un))), [], 0)
theorem ok_r20_Index_Add (n : Nat) : SoundF Try.prog 23 (S_r20_Index_Add n) :=
  fn_go true true (c := codeOf Try.f23) (tab := mkTab [(44, ⟨S_r20_Right n, [], [], true⟩), (45, ⟨S_r20_Index_Find n, [], [], true⟩)]) (cuts := mkCuts []) Try.func23 (by kernel_rfl) (.cons (ok_r20_Right n) ⟨_, Try.func44, by kernel_rfl⟩ (.cons (ok_r20_Index_Find n) ⟨_, Try.func45, by kernel_rfl⟩ .nil)) (.none0 (by kernel_rfl)) (fun v => by kernel_rfl)
def F_w20_both_l0_1 (n : Nat) : Nat → (Bool) → (List (Int × List UInt8 × List UInt8 × Int × Int)) → (Bool) → (Int) → (List ((Int × List UInt8) × List UInt8 × Int × Int)) → (Bool) → (List (Int × List UInt8 × List UInt8 × Int × Int)) → Tree (((Bool) × ((Bool) × (List (Int × List UInt8 × List UInt8 × Int × Int)))) ⊕ ((Bool) × ((List ((Int × List UInt8) × List UInt8 × Int × Int)) × ((Bool) × (List (Int × List UInt8 × List UInt8 × Int × Int))))))
 | 0 => fun  x0 x1 x2 x3 x4 x5 x6 => .fail
 | k + 1 => fun x0 x1 x2 x3 x4 x5 x6 =>
  .ite ((decide (x3 < (ln x1))) && (decide (x3 < (60 : Int))))
  (.get (getI x1 x3) fun y7 =>
  .get (Tree.run (F_r20_Index_Add n x5 x6 y7.1 y7.2.1 y7.2.2.1 y7.2.2.2.1 y7.2.2.2.2)) fun y8 =>
  .get (getI x1 x3) fun y9 =>
  .sub (F_index_Index_Add n y9.1 y9.2.1 y9.2.2.1 y9.2.2.2.1 y9.2.2.2.2 x4) fun y10 =>
  .alt y10 (fun y11 =>
  .sub (F_w20_both_l0_1 n k x0 x1 ((decide (y11 = y8.2.2)) && x2) (w64 (x3 + (1 : Int))) x4 y8.1 y8.2.1) fun y12 =>
  .alt y12 (fun y13 =>
  .ret (.inl (y13.1, y13.2.1, y13.2.2)))
  fun y14 =>
  .ret (.inr (y14.1, y14.2.1, y14.2.2.1, y14.2.2.2)))
  fun y15 =>
  .sub (F_w20_both_l0_1 n k x0 x1 ((decide ((0 : Int) = y8.2.2)) && x2) (w64 (x3 + (1 : Int))) y15 y8.1 y8.2.1) fun y16 =>
  .alt y16 (fun y17 =>
  .ret (.inr (y17.1, y15, y17.2.1, y17.2.2)))
  fun y18 =>
  .ret (.inr (y18.1, y18.2.1, y18.2.2.1, y18.2.2.2)))
  (.ret (.inl (x2, x5, x6)))
def S_w20_both_l0_1 (n k : Nat) : CutF := mkS ⟨[(.ro false T5 []), (.ptr 0 0), (.ptr 4 0), (.val .bool false), (.val (.sint .i64) (0 : Int))], [⟨0, 1, .box (.agg (.pr (.mpv 2) .un))⟩, ⟨2, 3, .mp T1 T2 []⟩, ⟨4, 5, .box (.agg (.pr (.ro false T5 []) .un))⟩], 6⟩ [.c, .d T6, .d .bool, .d (.sint .i64), .d T3, .c, .d T6] fun v => .sub (F_w20_both_l0_1 n k (p0 v) (p1 v) (p2 v) (p3 v) (p4 v) (p5 v) (p6 v)) fun r => .alt r (fun r => .ret (.ex 0, [(.val .bool r.1)], [⟨0, 7, .box (.agg (.pr (.mpv 2) .un))⟩, ⟨2, 3, .mp T1 T2 (p4 v)⟩, ⟨4, 11, .box (.agg (.pr (.ro r.2.1 T5 r.2.2) .un))⟩], 12)) (fun r => .ret (.ex 0, [(.val .bool r.1)], [⟨0, 7, .box (.agg (.pr (.mpv 2) .un))⟩, ⟨2, 9, .mp T1 T2 r.2.1⟩, ⟨4, 11, .box (.agg (.pr (.ro r.2.2.1 T5 r.2.2.2) .un))⟩], 12))
theorem rd_w20_both_l0_1 (n k : Nat) : Rounds Try.prog (Go.Func.ntmps Try.f7) (bodyOf Try.f7 0) C_7_0 [S_w20_both_l0_1 n k] (S_w20_both_l0_1 n (k + 1)) :=
  rounds_go (tab := mkTab [(23, ⟨S_r20_Index_Add n, [], [], true⟩), (22, ⟨S_index_Index_Add n, [], [], false⟩)]) (cuts := mkCuts []) (S_w20_both_l0_1 n k) [] (.cons (ok_r20_Index_Add n) ⟨_, Try.func23, by kernel_rfl⟩ (.cons (ok_index_Index_Add n) ⟨_, Try.func22, by kernel_rfl⟩ .nil)) (.none0 (by kernel_rfl)) rfl (fun v => by kernel_rfl)
theorem ok_w20_both_l0_1 (n k : Nat) : SoundC Try.prog (Go.Func.ntmps Try.f7) (.loop (bodyOf Try.f7 0)) (wr (bodyOf Try.f7 0)) (C_7_0 (S_w20_both_l0_1 n k)) :=
  loop_go (K := fun k => [S_w20_both_l0_1 n k]) (fun _ => rfl) (by kernel_rfl) ⟨z_go fun _ => by kernel_rfl, trivial⟩ (fun k => ⟨rd_w20_both_l0_1 n k, trivial⟩) k rfl
def F_w20_both_l0 (n : Nat) : Nat → (Bool) → (List (Int × List UInt8 × List UInt8 × Int × Int)) → (Bool) → (Int) → (List ((Int × List UInt8) × List UInt8 × Int × Int)) → (List (Int × List UInt8 × List UInt8 × Int × Int)) → Tree (((Bool) × ((Bool) × (List (Int × List UInt8 × List UInt8 × Int × Int)))) ⊕ (((Bool) × ((List ((Int × List UInt8) × List UInt8 × Int × Int)) × ((Bool) × (List (Int × List UInt8 × List UInt8 × Int × Int))))) ⊕ Unit))
 | 0 => fun  x0 x1 x2 x3 x4 x5 => .fail
 | k + 1 => fun x0 x1 x2 x3 x4 x5 =>
  .ite ((decide (x3 < (ln x1))) && (decide (x3 < (60 : Int))))
  (.get (getI x1 x3) fun y6 =>
  .get (Tree.run (F_r20_Index_Add n false x5 y6.1 y6.2.1 y6.2.2.1 y6.2.2.2.1 y6.2.2.2.2)) fun y7 =>
  .get (getI x1 x3) fun y8 =>
  .sub (F_index_Index_Add n y8.1 y8.2.1 y8.2.2.1 y8.2.2.2.1 y8.2.2.2.2 x4) fun y9 =>
  .alt y9 (fun y10 =>
  .sub (F_w20_both_l0_1 n k x0 x1 ((decide (y10 = y7.2.2)) && x2) (w64 (x3 + (1 : Int))) x4 y7.1 y7.2.1) fun y11 =>
  .alt y11 (fun y12 =>
  .ret (.inl (y12.1, y12.2.1, y12.2.2)))
  fun y13 =>
  .ret (.inr (.inl (y13.1, y13.2.1, y13.2.2.1, y13.2.2.2))))
  fun y14 =>
  .sub (F_w20_both_l0_1 n k x0 x1 ((decide ((0 : Int) = y7.2.2)) && x2) (w64 (x3 + (1 : Int))) y14 y7.1 y7.2.1) fun y15 =>
  .alt y15 (fun y16 =>
  .ret (.inr (.inl (y16.1, y14, y16.2.1, y16.2.2))))
  fun y17 =>
  .ret (.inr (.inl (y17.1, y17.2.1, y17.2.2.1, y17.2.2.2))))
  (.ret (.inr (.inr ())))
def S_w20_both_l0 (n k : Nat) : CutF := mkS ⟨[(.ro false T5 []), (.ptr 0 0), (.ptr 4 0), (.val .bool false), (.val (.sint .i64) (0 : Int))], [⟨0, 1, .box (.agg (.pr (.mpv 2) .un))⟩, ⟨2, 3, .mp T1 T2 []⟩, ⟨4, 5, .box (.agg (.pr (.whole 6 36) .un))⟩, ⟨6, 7, .row T5 []⟩], 8⟩ [.c, .d T6, .d .bool, .d (.sint .i64), .d T3, .d T6] fun v => .sub (F_w20_both_l0 n k (p0 v) (p1 v) (p2 v) (p3 v) (p4 v) (p5 v)) fun r => .alt r (fun r => .ret (.ex 0, [(.val .bool r.1)], [⟨0, 9, .box (.agg (.pr (.mpv 2) .un))⟩, ⟨2, 3, .mp T1 T2 (p4 v)⟩, ⟨4, 13, .box (.agg (.pr (.ro r.2.1 T5 r.2.2) .un))⟩], 14)) (fun r => .alt r (fun r => .ret (.ex 0, [(.val .bool r.1)], [⟨0, 9, .box (.agg (.pr (.mpv 2) .un))⟩, ⟨2, 11, .mp T1 T2 r.2.1⟩, ⟨4, 13, .box (.agg (.pr (.ro r.2.2.1 T5 r.2.2.2) .un))⟩], 14)) (fun r => .ret (.ex 0, [(.val .bool (p2 v))], [⟨0, 9, .box (.agg (.pr (.mpv 2) .un))⟩, ⟨2, 3, .mp T1 T2 (p4 v)⟩, ⟨4, 13, .box (.agg (.pr (.whole 14 36) .un))⟩, ⟨14, 15, .row T5 (p5 v)⟩], 16)))
theorem rd_w20_both_l0 (n k : Nat) : Rounds Try.prog (Go.Func.ntmps Try.f7) (bodyOf Try.f7 0) C_7_0 [S_w20_both_l0 n k, S_w20_both_l0_1 n k] (S_w20_both_l0 n (k + 1)) :=
  rounds_go (tab := mkTab [(23, ⟨S_r20_Index_Add n, [], [], true⟩), (22, ⟨S_index_Index_Add n, [], [], false⟩)]) (cuts := mkCuts []) (S_w20_both_l0 n k) [S_w20_both_l0_1 n k] (.cons (ok_r20_Index_Add n) ⟨_, Try.func23, by kernel_rfl⟩ (.cons (ok_index_Index_Add n) ⟨_, Try.func22, by kernel_rfl⟩ .nil)) (.none0 (by kernel_rfl)) rfl (fun v => by kernel_rfl)
theorem ok_w20_both_l0 (n k : Nat) : SoundC Try.prog (Go.Func.ntmps Try.f7) (.loop (bodyOf Try.f7 0)) (wr (bodyOf Try.f7 0)) (C_7_0 (S_w20_both_l0 n k)) :=
  loop_go (K := fun k => [S_w20_both_l0 n k, S_w20_both_l0_1 n k]) (fun _ => rfl) (by kernel_rfl) ⟨z_go fun _ => by kernel_rfl, z_go fun _ => by kernel_rfl, trivial⟩ (fun k => ⟨rd_w20_both_l0 n k, (rd_w20_both_l0_1 n k).mono (List.forall_mem_cons.2 ⟨(.tail _ (.head _)), (fun _ h => by cases h)⟩), trivial⟩) k rfl
def F_w20_both (n : Nat) (x0 : Bool) (x1 : List (Int × List UInt8 × List UInt8 × Int × Int)) : Tree ((Bool) × ((List (Int × List UInt8 × List UInt8 × Int × Int)) × ((Bool) × (List ((Int × List UInt8) × List UInt8 × Int × Int))))) :=
  .sub (F_index_New n) fun y2 =>
  .sub (F_w20_both_l0 n n x0 x1 true (0 : Int) ([] : List ((Int × (List UInt8)) × ((List UInt8) × (Int × Int)))) ([] : List (Int × ((List UInt8) × ((List UInt8) × (Int × Int)))))) fun y3 =>
  .alt y3 (fun y4 =>
  .ret (y4.2.1, y4.2.2, y4.1, ([] : List ((Int × (List UInt8)) × ((List UInt8) × (Int × Int))))))
  fun y5 =>
  .alt y5 (fun y6 =>
  .ret (y6.2.2.1, y6.2.2.2, y6.1, y6.2.1))
  fun y7 =>
  .ret (false, ([] : List (Int × ((List UInt8) × ((List UInt8) × (Int × Int))))), true, ([] : List ((Int × (List UInt8)) × ((List UInt8) × (Int × Int)))))
def S_w20_both (n : Nat) : Summ := mkS ⟨[(.ro false T5 [])], [], 0⟩ [.c, .d T6] fun v => .sub (F_w20_both n (p0 v) (p1 v)) fun r => .ret ((.tup (.pr (.ptr 0 0) (.pr (.agg (.pr (.ro r.1 T5 r.2.1) .un)) (.pr (.val .bool r.2.2.1) .un)))), [⟨0, 1, .box (.agg (.pr (.mpv 2) .un))⟩, ⟨2, 3, .mp T1 T2 r.2.2.2⟩], 4)
theorem ok_w20_both (n : Nat) : SoundF Try.prog 7 (S_w20_both n) :=
  fn_go true true (c := codeOf Try.f7) (tab := mkTab [(8, ⟨S_index_New n, [], [], false⟩)]) (cuts := mkCuts [(0, C_7_0 (S_w20_both_l0 n n))]) Try.func7 (by kernel_rfl) (.cons (ok_index_New n) ⟨_, Try.func8, by kernel_rfl⟩ .nil) (CutsOK.list (l := [(0, .lp (bodyOf Try.f7 0))]) (by kernel_rfl) (LoopsOK.all ⟨.inr ⟨_, rfl, ok_w20_both_l0 n n⟩, trivial⟩)) (fun v => by kernel_rfl)
def C_12_0 : CutF → Cut := fun κ => ⟨[3, 12], fun e => match e with | .ex i => bif Nat.beq i 0 then [3] else [] | .rt => [] | .nm => [] | .go i => [], κ⟩
def F_index_Index_List_l0 (n : Nat) : Nat → (List (Int × List UInt8 × List UInt8 × Int × Int)) → (List ((Int × List UInt8) × List UInt8 × Int × Int)) → (List ((Int × List UInt8) × List UInt8 × Int × Int)) → Tree (Unit ⊕ ((List (Int × List UInt8 × List UInt8 × Int × Int)) × (List ((Int × List UInt8) × List UInt8 × Int × Int))))
 | 0 => fun  x0 x1 x2 => .fail
 | k + 1 => fun x0 x1 x2 =>
  .ite (List.isEmpty x1)
  (.ret (.inl ()))
  (.all (fun (p3 : (((Int × (List UInt8)) × ((List UInt8) × (Int × Int))) × (List ((Int × (List UInt8)) × ((List UInt8) × (Int × Int)))))) => (List.Perm (p3.1 :: p3.2) x1)) fun y4 =>
  .get (appI 1954687338268 x0 (List.set ([((0 : Int), ((zs 32), (([] : List UInt8), ((0 : Int), (0 : Int)))))] : List (Int × ((List UInt8) × ((List UInt8) × (Int × Int))))) 0 (y4.1.1.1, (y4.1.1.2, (y4.1.2.1, (y4.1.2.2.1, y4.1.2.2.2)))))) fun y5 =>
  .sub (F_index_Index_List_l0 n k y5 y4.2 x2) fun y6 =>
  .alt y6 (fun y7 =>
  .ret (.inr (y5, y4.2)))
  fun y8 =>
  .ret (.inr (y8.1, y8.2)))
def S_index_Index_List_l0 (n k : Nat) : CutF := mkS ⟨[(.whole 0 36), (.ptr 2 0)], [⟨0, 1, .row T5 []⟩, ⟨2, 3, .it 4 5 T1 T2 []⟩, ⟨4, 5, .mp T1 T2 []⟩], 6⟩ [.d T6, .d T3, .d T3] fun v => .sub (F_index_Index_List_l0 n k (p0 v) (p1 v) (p2 v)) fun r => .alt r (fun r => .ret (.ex 0, [(.whole 0 36)], [⟨0, 7, .row T5 (p0 v)⟩, ⟨4, 5, .mp T1 T2 (p2 v)⟩, ⟨2, 11, .it 4 5 T1 T2 (p1 v)⟩], 12)) (fun r => .ret (.ex 0, [(.whole 6 36)], [⟨6, 7, .row T5 r.1⟩, ⟨4, 5, .mp T1 T2 (p2 v)⟩, ⟨2, 11, .it 4 5 T1 T2 r.2⟩], 12))
theorem rd_index_Index_List_l0 (n k : Nat) : Rounds Try.prog (Go.Func.ntmps Try.f12) (bodyOf Try.f12 0) C_12_0 [S_index_Index_List_l0 n k] (S_index_Index_List_l0 n (k + 1)) :=
  rounds_go (tab := mkTab []) (cuts := mkCuts []) (S_index_Index_List_l0 n k) [] .nil (.none0 (by kernel_rfl)) rfl (fun v => by kernel_rfl)
theorem ok_index_Index_List_l0 (n k : Nat) : SoundC Try.prog (Go.Func.ntmps Try.f12) (.loop (bodyOf Try.f12 0)) (wr (bodyOf Try.f12 0)) (C_12_0 (S_index_Index_List_l0 n k)) :=
  loop_go (K := fun k => [S_index_Index_List_l0 n k]) (fun _ => rfl) (by kernel_rfl) ⟨z_go fun _ => by kernel_rfl, trivial⟩ (fun k => ⟨rd_index_Index_List_l0 n k, trivial⟩) k rfl
def F_index_Index_List_raw (n : Nat) (x0 : List ((Int × List UInt8) × List UInt8 × Int × Int)) : Tree (List (Int × List UInt8 × List UInt8 × Int × Int)) :=
  .sub (F_index_Index_List_l0 n n ([] : List (Int × ((List UInt8) × ((List UInt8) × (Int × Int))))) x0 x0) fun y1 =>
  .alt y1 (fun y2 =>
  .get (sortF goodK ordK ([] : List (Int × ((List UInt8) × ((List UInt8) × (Int × Int)))))) fun y3 =>
  .ret y3)
  fun y4 =>
  .get (sortF goodK ordK y4.1) fun y5 =>
  .ret y5
def S_index_Index_List_raw (n : Nat) : Summ := mkS ⟨[(.ptr 0 0)], [⟨0, 1, .box (.agg (.pr (.mpv 2) .un))⟩, ⟨2, 3, .mp T1 T2 []⟩], 4⟩ [.d T3] fun v => .sub (F_index_Index_List_raw n (p0 v)) fun r => .ret ((.whole 4 36), [⟨4, 5, .row T5 r⟩, ⟨0, 7, .box (.agg (.pr (.mpv 2) .un))⟩, ⟨2, 9, .mp T1 T2 (p0 v)⟩], 10)
theorem ok_index_Index_List_raw (n : Nat) : SoundF Try.prog 12 (S_index_Index_List_raw n) :=
  fn_go false true (c := codeOf Try.f12) (tab := mkTab [(28, ⟨S_sortKn, [], [], false⟩)]) (cuts := mkCuts [(0, C_12_0 (S_index_Index_List_l0 n n))]) Try.func12 (by kernel_rfl) (.consE ok_sortKnC .nil) (CutsOK.list (l := [(0, .lp (bodyOf Try.f12 0))]) (by kernel_rfl) (LoopsOK.all ⟨.inr ⟨_, rfl, ok_index_Index_List_l0 n n⟩, trivial⟩)) (fun v => by kernel_rfl)
theorem det_index_Index_List_l (n : Nat) (z : KnM) : ∀ (k : Nat) (acc : List KnD) (rest : KnM), rest.length < k → acc.length + rest.length ≤ 1000000 → (F_index_Index_List_l0 n k acc rest z).Runs fun r => (match r with | .inl _ => acc | .inr q => q.1).Perm (acc ++ rest.map kflat)
  | 0, acc, rest, h, h2 => by omega
  | k + 1, acc, [], h, h2 => ⟨fun _ => by show acc.Perm (acc ++ []); rw [List.append_nil], fun h => by cases h⟩
  | k + 1, acc, p0 :: rest0, h, h2 => by
    refine ⟨fun h => (Bool.false_ne_true h).elim, fun _ => ?_⟩
    rintro ⟨p, rest⟩ hp
    have hp : (p :: rest).Perm (p0 :: rest0) := hp
    have hlen : rest.length = rest0.length := by have := hp.length_eq; simpa using this
    simp only [List.length_cons] at h h2
    refine ⟨acc ++ [kflat p], kapp (by omega), ?_⟩
    refine Tree.Runs.mono (t := F_index_Index_List_l0 n k (acc ++ [kflat p]) rest z) (det_index_Index_List_l n z k (acc ++ [kflat p]) rest (by omega) (by simp; omega)) fun r hr => ?_
    have q : (acc ++ (p0 :: rest0).map kflat).Perm (acc ++ [kflat p] ++ rest.map kflat) := by
      rw [List.append_assoc]
      exact ((hp.symm.map kflat).append_left acc)
    cases r with
    | inl y => exact hr.trans q.symm
    | inr y => exact hr.trans q.symm
theorem det_index_Index_List (n : Nat) (x0 : KnM) {Q : List KnD → Prop} (h : (Tree.get (D_list n x0) fun z => .ret z).Runs Q) : (F_index_Index_List_raw n x0).Runs Q := by
  obtain ⟨ys, h1, h2⟩ := h
  unfold D_list at h1
  split at h1
  · rename_i hc
    unfold F_index_Index_List_raw
    refine Tree.Runs.mono (t := F_index_Index_List_l0 n n [] x0 x0) (det_index_Index_List_l n x0 n [] x0 hc.1 (by simpa using hc.2)) fun r hr => ?_
    rw [List.nil_append] at hr
    cases r with
    | inl y => exact ⟨ys, sortF_perm hr.symm h1, h2⟩
    | inr y => exact ⟨ys, sortF_perm hr.symm h1, h2⟩
  · cases h1
def F_index_Index_List (n : Nat) (x0 : KnM) : Tree (List KnD) :=
  .get (D_list n x0) fun z =>
  .ret z
def S_index_Index_List (n : Nat) : Summ := mkS ⟨[(.ptr 0 0)], [⟨0, 1, .box (.agg (.pr (.mpv 2) .un))⟩, ⟨2, 3, .mp T1 T2 []⟩], 4⟩ [.d T3] fun v => .sub (F_index_Index_List n (p0 v)) fun r => .ret ((.whole 4 36), [⟨4, 5, .row T5 r⟩, ⟨0, 7, .box (.agg (.pr (.mpv 2) .un))⟩, ⟨2, 9, .mp T1 T2 (p0 v)⟩], 10)
theorem ok_index_Index_List (n : Nat) : SoundF Try.prog 12 (S_index_Index_List n) := S_weak (ok_index_Index_List_raw n) fun v Q h => det_index_Index_List n _ h
def C_37_100000 : CutF → Cut := fun κ => ⟨[0, 1, 5, 6], fun e => match e with | .ex i => [] | .rt => [4] | .nm => [4] | .go i => [], κ⟩
def C_37_0 : CutF → Cut := fun κ => ⟨[5, 7, 8], fun e => match e with | .ex i => bif Nat.beq i 0 then [7] else [] | .rt => [] | .nm => [] | .go i => bif Nat.beq i 0 then [] else [], κ⟩
def F_codec_Number_l0 (n : Nat) : Nat → (Int) → (List UInt8) → (List UInt8) → Tree (Unit ⊕ (List UInt8))
 | 0 => fun  x0 x1 x2 => .fail
 | k + 1 => fun x0 x1 x2 =>
  .ite (decide ((0 : Int) ≤ x0))
  (.get (inI 8 x0) fun y3 =>
  .get (gt x1 y3) fun y4 =>
  .get (appI 140737488355328 x2 (List.set ([0] : List UInt8) 0 y4)) fun y5 =>
  .sub (F_codec_Number_l0 n k (w64 (x0 - (1 : Int))) x1 y5) fun y6 =>
  .alt y6 (fun y7 =>
  .ret (.inr y5))
  fun y8 =>
  .ret (.inr y8))
  (.ret (.inl ()))
def S_codec_Number_l0 (n k : Nat) : CutF := mkS ⟨[(.ptr 0 0), (.whole 2 1), (.val (.sint .i64) (0 : Int))], [⟨0, 1, .box (.val (.arr 8 .u8) [])⟩, ⟨2, 3, .row .u8 []⟩], 4⟩ [.d (.sint .i64), .d (.arr 8 .u8), .d (.list .u8)] fun v => .sub (F_codec_Number_l0 n k (p0 v) (p1 v) (p2 v)) fun r => .alt r (fun r => .ret (.ex 0, [(.whole 2 1)], [⟨2, 5, .row .u8 (p2 v)⟩, ⟨0, 7, .box (.val (.arr 8 .u8) (p1 v))⟩], 8)) (fun r => .ret (.ex 0, [(.whole 4 1)], [⟨4, 5, .row .u8 r⟩, ⟨0, 7, .box (.val (.arr 8 .u8) (p1 v))⟩], 8))
theorem rd_codec_Number_l0 (n k : Nat) : Rounds Try.prog (Go.Func.ntmps Try.f37) (bodyOf Try.f37 0) C_37_0 [S_codec_Number_l0 n k] (S_codec_Number_l0 n (k + 1)) :=
  rounds_go (tab := mkTab []) (cuts := mkCuts []) (S_codec_Number_l0 n k) [] .nil (.none0 (by kernel_rfl)) rfl (fun v => by kernel_rfl)
theorem ok_codec_Number_l0 (n k : Nat) : SoundC Try.prog (Go.Func.ntmps Try.f37) (.loop (bodyOf Try.f37 0)) (wr (bodyOf Try.f37 0)) (C_37_0 (S_codec_Number_l0 n k)) :=
  loop_go (K := fun k => [S_codec_Number_l0 n k]) (fun _ => rfl) (by kernel_rfl) ⟨z_go fun _ => by kernel_rfl, trivial⟩ (fun k => ⟨rd_codec_Number_l0 n k, trivial⟩) k rfl
def F_codec_Number_l100000 (n : Nat) : Nat → (Int) → (Int) → (List UInt8) → (List UInt8) → Tree ((List UInt8) × (List UInt8))
 | 0 => fun  x0 x1 x2 x3 => .fail
 | k + 1 => fun x0 x1 x2 x3 =>
  .ite (decide ((0 : Int) < x0))
  (.get (inI 8 x1) fun y4 =>
  .get (gt x3 y4) fun y5 =>
  .sub (F_codec_Number_l100000 n k (shrI .i64 x0 8) (w64 (x1 + (1 : Int))) x2 (List.set x3 y4 (int8 x0))) fun y6 =>
  .ret (y6.1, y6.2))
  (.get (appI 140737488355328 ([] : List UInt8) x2) fun y7 =>
  .get (appI 140737488355328 y7 (List.set ([0] : List UInt8) 0 (int8 x1))) fun y8 =>
  .sub (F_codec_Number_l0 n n (w64 (x1 - (1 : Int))) x3 y8) fun y9 =>
  .alt y9 (fun y10 =>
  .ret (y8, x3))
  fun y11 =>
  .ret (y11, x3))
def S_codec_Number_l100000 (n k : Nat) : CutF := mkS ⟨[(.whole 0 1), (.val (.sint .i64) (0 : Int)), (.ptr 2 0), (.val (.sint .i64) (0 : Int))], [⟨0, 1, .row .u8 []⟩, ⟨2, 3, .box (.val (.arr 8 .u8) [])⟩], 4⟩ [.d (.sint .i64), .d (.sint .i64), .d (.list .u8), .d (.arr 8 .u8)] fun v => .sub (F_codec_Number_l100000 n k (p0 v) (p1 v) (p2 v) (p3 v)) fun r => .ret (.rt, [(.whole 4 1)], [⟨4, 5, .row .u8 r.1⟩, ⟨2, 7, .box (.val (.arr 8 .u8) r.2)⟩, ⟨0, 9, .row .u8 (p2 v)⟩], 10)
theorem rd_codec_Number_l100000 (n k : Nat) : RoundsJ Try.prog (Go.Func.ntmps Try.f37) 0 (restOf Try.f37 0) C_37_100000 [S_codec_Number_l100000 n k] (S_codec_Number_l100000 n (k + 1)) :=
  roundsJ_go (tab := mkTab []) (cuts := mkCuts [(0, C_37_0 (S_codec_Number_l0 n n))]) (S_codec_Number_l100000 n k) [] .nil (CutsOK.list (l := [(0, .lp (bodyOf Try.f37 0))]) (by kernel_rfl) (LoopsOK.all ⟨.inr ⟨_, rfl, ok_codec_Number_l0 n n⟩, trivial⟩)) rfl (fun v => by kernel_rfl)
theorem ok_codec_Number_l100000 (n k : Nat) : SoundX (JX Try.prog (Go.Func.ntmps Try.f37) 0 (restOf Try.f37 0)) (wr (restOf Try.f37 0)) (C_37_100000 (S_codec_Number_l100000 n k)) :=
  jump_go (K := fun k => [S_codec_Number_l100000 n k]) (fun _ => rfl) (by kernel_rfl) ⟨z_go fun _ => by kernel_rfl, trivial⟩ (fun k => ⟨rd_codec_Number_l100000 n k, trivial⟩) k rfl
def F_codec_Number (n : Nat) (x0 : Int) : Tree (List UInt8) :=
  .ite (decide ((0 : Int) < (minI (maxI x0 (0 : Int)) (9007199254740992 : Int))))
  (.get (inI 8 (0 : Int)) fun y1 =>
  .get (gt (zs 8) y1) fun y2 =>
  .sub (F_codec_Number_l100000 n n (shrI .i64 (minI (maxI x0 (0 : Int)) (9007199254740992 : Int)) 8) (1 : Int) ([] : List UInt8) (List.set (zs 8) y1 (int8 (minI (maxI x0 (0 : Int)) (9007199254740992 : Int))))) fun y3 =>
  .ret y3.1)
  (.get (appI 140737488355328 ([] : List UInt8) ([] : List UInt8)) fun y4 =>
  .get (appI 140737488355328 y4 ([0] : List UInt8)) fun y5 =>
  .sub (F_codec_Number_l0 n n (-1 : Int) (zs 8) y5) fun y6 =>
  .alt y6 (fun y7 =>
  .ret y5)
  fun y8 =>
  .ret y8)
def S_codec_Number (n : Nat) : Summ := mkS ⟨[(.snil (some .u8)), (.val (.sint .i64) (0 : Int))], [], 0⟩ [.d (.sint .i64)] fun v => .sub (F_codec_Number n (p0 v)) fun r => .ret ((.whole 0 1), [⟨0, 1, .row .u8 r⟩], 2)
theorem ok_codec_Number (n : Nat) : SoundF Try.prog 37 (S_codec_Number n) :=
  fn_go false true (c := codeOf Try.f37) (tab := mkTab []) (cuts := mkCuts [(100000, C_37_100000 (S_codec_Number_l100000 n n)), (0, C_37_0 (S_codec_Number_l0 n n))]) Try.func37 (by kernel_rfl) .nil (CutsOK.list (l := [(0, .lp (bodyOf Try.f37 0)), (100000, .jp 0 (restOf Try.f37 0))]) (by kernel_rfl) (LoopsOK.all ⟨.inr ⟨_, rfl, ok_codec_Number_l0 n n⟩, ⟨.inr ⟨_, rfl, ok_codec_Number_l100000 n n⟩, trivial⟩⟩)) (fun v => by kernel_rfl)
def C_14_0 : CutF → Cut := fun κ => ⟨[3, 9, 10, 11], fun e => match e with | .ex i => bif Nat.beq i 0 then [3] else [] | .rt => [] | .nm => [] | .go i => [], κ⟩
def F_codec_Number_1 (n : Nat) (x0 : Int) (x1 : List UInt8) : Tree (List UInt8) :=
  .ite (decide ((0 : Int) < (minI (maxI x0 (0 : Int)) (9007199254740992 : Int))))
  (.get (inI 8 (0 : Int)) fun y2 =>
  .get (gt (zs 8) y2) fun y3 =>
  .sub (F_codec_Number_l100000 n n (shrI .i64 (minI (maxI x0 (0 : Int)) (9007199254740992 : Int)) 8) (1 : Int) x1 (List.set (zs 8) y2 (int8 (minI (maxI x0 (0 : Int)) (9007199254740992 : Int))))) fun y4 =>
  .ret y4.1)
  (.get (appI 140737488355328 ([] : List UInt8) x1) fun y5 =>
  .get (appI 140737488355328 y5 ([0] : List UInt8)) fun y6 =>
  .sub (F_codec_Number_l0 n n (-1 : Int) (zs 8) y6) fun y7 =>
  .alt y7 (fun y8 =>
  .ret y6)
  fun y9 =>
  .ret y9)
def S_codec_Number_1 (n : Nat) : Summ := mkS ⟨[(.whole 0 1), (.val (.sint .i64) (0 : Int))], [⟨0, 1, .row .u8 []⟩], 2⟩ [.d (.sint .i64), .d (.list .u8)] fun v => .sub (F_codec_Number_1 n (p0 v) (p1 v)) fun r => .ret ((.whole 2 1), [⟨2, 3, .row .u8 r⟩, ⟨0, 5, .row .u8 (p1 v)⟩], 6)
theorem ok_codec_Number_1 (n : Nat) : SoundF Try.prog 37 (S_codec_Number_1 n) :=
  fn_go false true (c := codeOf Try.f37) (tab := mkTab []) (cuts := mkCuts [(100000, C_37_100000 (S_codec_Number_l100000 n n)), (0, C_37_0 (S_codec_Number_l0 n n))]) Try.func37 (by kernel_rfl) .nil (CutsOK.list (l := [(0, .lp (bodyOf Try.f37 0)), (100000, .jp 0 (restOf Try.f37 0))]) (by kernel_rfl) (LoopsOK.all ⟨.inr ⟨_, rfl, ok_codec_Number_l0 n n⟩, ⟨.inr ⟨_, rfl, ok_codec_Number_l100000 n n⟩, trivial⟩⟩)) (fun v => by kernel_rfl)
def F_codec_Text (n : Nat) (x0 : List UInt8) (x1 : List UInt8) : Tree (List UInt8) :=
  .sub (F_codec_Number_1 n (ln x1) x0) fun y2 =>
  .get (appI 140737488355328 y2 x1) fun y3 =>
  .ret y3
def S_codec_Text (n : Nat) : Summ := mkS ⟨[(.whole 0 1), (.whole 2 1)], [⟨0, 1, .row .u8 []⟩, ⟨2, 3, .row .u8 []⟩], 4⟩ [.d (.list .u8), .d (.list .u8)] fun v => .sub (F_codec_Text n (p0 v) (p1 v)) fun r => .ret ((.whole 4 1), [⟨4, 5, .row .u8 r⟩, ⟨0, 7, .row .u8 (p0 v)⟩, ⟨2, 9, .row .u8 (p1 v)⟩], 10)
theorem ok_codec_Text (n : Nat) : SoundF Try.prog 38 (S_codec_Text n) :=
  fn_go false true (c := codeOf Try.f38) (tab := mkTab [(37, ⟨S_codec_Number_1 n, [], [], false⟩)]) (cuts := mkCuts []) Try.func38 (by kernel_rfl) (.cons (ok_codec_Number_1 n) ⟨_, Try.func37, by kernel_rfl⟩ .nil) (.none0 (by kernel_rfl)) (fun v => by kernel_rfl)
def F_index_Put_l0 (n : Nat) : Nat → (Int) → (Int) → (List UInt8) → (List (Int × List UInt8 × List UInt8 × Int × Int)) → Tree (Unit ⊕ (List UInt8))
 | 0 => fun  x0 x1 x2 x3 => .fail
 | k + 1 => fun x0 x1 x2 x3 =>
  .ite (decide (x1 < x0))
  (.get (inI (List.length x3) x1) fun y4 =>
  .get (gt x3 (0 + y4)) fun y5 =>
  .get (Tree.run (F_codec_Number_1 n y5.1 x2)) fun y6 =>
  .get (Option.some Unit.unit) fun y7 =>
  .get (appI 140737488355328 y6 (List.take 32 (List.drop 0 y5.2.1))) fun y8 =>
  .get (bytesI y5.2.2.1) fun y9 =>
  .sub (F_codec_Text n y8 y9) fun y10 =>
  .get (Tree.run (F_codec_Number_1 n y5.2.2.2.1 y10)) fun y11 =>
  .get (Tree.run (F_codec_Number_1 n y5.2.2.2.2 y11)) fun y12 =>
  .sub (F_index_Put_l0 n k x0 (w64 (x1 + (1 : Int))) y12 x3) fun y13 =>
  .alt y13 (fun y14 =>
  .ret (.inr y12))
  fun y15 =>
  .ret (.inr y15))
  (.ret (.inl ()))
def S_index_Put_l0 (n k : Nat) : CutF := mkS ⟨[(.whole 0 1), (.whole 2 36), (.val (.sint .i64) (0 : Int)), (.val (.sint .i64) (0 : Int))], [⟨0, 1, .row .u8 []⟩, ⟨2, 3, .row T5 []⟩], 4⟩ [.d (.sint .i64), .d (.sint .i64), .d (.list .u8), .d T6] fun v => .sub (F_index_Put_l0 n k (p0 v) (p1 v) (p2 v) (p3 v)) fun r => .alt r (fun r => .ret (.ex 0, [(.whole 0 1)], [⟨0, 5, .row .u8 (p2 v)⟩, ⟨2, 7, .row T5 (p3 v)⟩], 8)) (fun r => .ret (.ex 0, [(.whole 4 1)], [⟨4, 5, .row .u8 r⟩, ⟨0, 7, .row .u8 (p2 v)⟩, ⟨2, 9, .row T5 (p3 v)⟩], 10))
theorem rd_index_Put_l0 (n k : Nat) : Rounds Try.prog (Go.Func.ntmps Try.f14) (bodyOf Try.f14 0) C_14_0 [S_index_Put_l0 n k] (S_index_Put_l0 n (k + 1)) :=
  rounds_go (tab := mkTab [(37, ⟨S_codec_Number_1 n, [], [], false⟩), (38, ⟨S_codec_Text n, [], [], false⟩)]) (cuts := mkCuts []) (S_index_Put_l0 n k) [] (.cons (ok_codec_Number_1 n) ⟨_, Try.func37, by kernel_rfl⟩ (.cons (ok_codec_Text n) ⟨_, Try.func38, by kernel_rfl⟩ .nil)) (.none0 (by kernel_rfl)) rfl (fun v => by kernel_rfl)
theorem ok_index_Put_l0 (n k : Nat) : SoundC Try.prog (Go.Func.ntmps Try.f14) (.loop (bodyOf Try.f14 0)) (wr (bodyOf Try.f14 0)) (C_14_0 (S_index_Put_l0 n k)) :=
  loop_go (K := fun k => [S_index_Put_l0 n k]) (fun _ => rfl) (by kernel_rfl) ⟨z_go fun _ => by kernel_rfl, trivial⟩ (fun k => ⟨rd_index_Put_l0 n k, trivial⟩) k rfl
def F_index_Put (n : Nat) (x0 : List (Int × List UInt8 × List UInt8 × Int × Int)) : Tree (List UInt8) :=
  .sub (F_codec_Number n (ln x0)) fun y1 =>
  .sub (F_index_Put_l0 n n (ln x0) (0 : Int) y1 x0) fun y2 =>
  .alt y2 (fun y3 =>
  .ret y1)
  fun y4 =>
  .ret y4
def S_index_Put (n : Nat) : Summ := mkS ⟨[(.whole 0 36)], [⟨0, 1, .row T5 []⟩], 2⟩ [.d T6] fun v => .sub (F_index_Put n (p0 v)) fun r => .ret ((.whole 2 1), [⟨2, 3, .row .u8 r⟩, ⟨0, 5, .row T5 (p0 v)⟩], 6)
theorem ok_index_Put (n : Nat) : SoundF Try.prog 14 (S_index_Put n) :=
  fn_go false true (c := codeOf Try.f14) (tab := mkTab [(37, ⟨S_codec_Number n, [], [], false⟩)]) (cuts := mkCuts [(0, C_14_0 (S_index_Put_l0 n n))]) Try.func14 (by kernel_rfl) (.cons (ok_codec_Number n) ⟨_, Try.func37, by kernel_rfl⟩ .nil) (CutsOK.list (l := [(0, .lp (bodyOf Try.f14 0))]) (by kernel_rfl) (LoopsOK.all ⟨.inr ⟨_, rfl, ok_index_Put_l0 n n⟩, trivial⟩)) (fun v => by kernel_rfl)
def F_codec_From (n : Nat) (x0 : List UInt8) : Tree (List UInt8) :=
  .get (appI 140737488355328 ([] : List UInt8) x0) fun y1 =>
  .ret y1
def S_codec_From (n : Nat) : Summ := mkS ⟨[(.whole 0 1)], [⟨0, 1, .row .u8 []⟩], 2⟩ [.d (.list .u8)] fun v => .sub (F_codec_From n (p0 v)) fun r => .ret ((.agg (.pr (.ro false .u8 r) (.pr (.val (.sint .i64) (0 : Int)) .un))), [⟨0, 3, .row .u8 (p0 v)⟩], 4)
theorem ok_codec_From (n : Nat) : SoundF Try.prog 30 (S_codec_From n) :=
  fn_go true true (c := codeOf Try.f30) (tab := mkTab []) (cuts := mkCuts []) Try.func30 (by kernel_rfl) .nil (.none0 (by kernel_rfl)) (fun v => by kernel_rfl)
def C_50_0 : CutF → Cut := fun κ => ⟨[6, 39, 40, 41], fun e => match e with | .ex i => bif Nat.beq i 0 then [6] else [] | .rt => [] | .nm => [] | .go i => [], κ⟩
def F_codec_Scan_next_l0 (n : Nat) : Nat → (Int) → (Bool) → (List UInt8) → (Int) → (Int) → Tree Int
 | 0 => fun  x0 x1 x2 x3 x4 => .fail
 | k + 1 => fun x0 x1 x2 x3 x4 =>
  .ite (decide (x4 < x3))
  (.get (getI x2 x4) fun y5 =>
  .sub (F_codec_Scan_next_l0 n k (w64 (Nat.cast (BitVec.toNat ((BitVec.ofInt 64 (shlI .i64 x0 8)) ||| (BitVec.ofInt 64 (Nat.cast (UInt8.toNat y5) : Int)))) : Int)) x1 x2 x3 (w64 (x4 + (1 : Int)))) fun y6 =>
  .ret y6)
  (.ret x0)
def S_codec_Scan_next_l0 (n k : Nat) : CutF := mkS ⟨[(.val (.sint .i64) (0 : Int)), (.ro false .u8 []), (.val (.sint .i64) (0 : Int)), (.val (.sint .i64) (0 : Int))], [], 0⟩ [.d (.sint .i64), .c, .d (.list .u8), .d (.sint .i64), .d (.sint .i64)] fun v => .sub (F_codec_Scan_next_l0 n k (p0 v) (p1 v) (p2 v) (p3 v) (p4 v)) fun r => .ret (.ex 0, [(.val (.sint .i64) r)], [], 0)
theorem rd_codec_Scan_next_l0 (n k : Nat) : Rounds Try.prog (Go.Func.ntmps Try.f50) (bodyOf Try.f50 0) C_50_0 [S_codec_Scan_next_l0 n k] (S_codec_Scan_next_l0 n (k + 1)) :=
  rounds_go (tab := mkTab []) (cuts := mkCuts []) (S_codec_Scan_next_l0 n k) [] .nil (.none0 (by kernel_rfl)) rfl (fun v => by kernel_rfl)
theorem ok_codec_Scan_next_l0 (n k : Nat) : SoundC Try.prog (Go.Func.ntmps Try.f50) (.loop (bodyOf Try.f50 0)) (wr (bodyOf Try.f50 0)) (C_50_0 (S_codec_Scan_next_l0 n k)) :=
  loop_go (K := fun k => [S_codec_Scan_next_l0 n k]) (fun _ => rfl) (by kernel_rfl) ⟨z_go fun _ => by kernel_rfl, trivial⟩ (fun k => ⟨rd_codec_Scan_next_l0 n k, trivial⟩) k rfl
def F_codec_Scan_next (n : Nat) (x0 : List UInt8) : Tree ((Int) × ((Int) × Int)) :=
  .ite (decide ((ln x0) = (0 : Int)))
  (.ret ((0 : Int), (0 : Int), (3 : Int)))
  (.get (getI x0 (0 : Int)) fun y1 =>
  .ite (decide ((7 : Int) < (Nat.cast (UInt8.toNat y1) : Int)))
  (.ret ((0 : Int), (0 : Int), (5 : Int)))
  (.ite (decide ((ln x0) < (w64 ((1 : Int) + (Nat.cast (UInt8.toNat y1) : Int)))))
  (.ret ((0 : Int), (0 : Int), (3 : Int)))
  (.ite (decide ((0 : Int) < (Nat.cast (UInt8.toNat y1) : Int)))
  (.get (getI x0 (1 : Int)) fun y2 =>
  .ite (decide (y2 = (0 : UInt8)))
  (.ret ((0 : Int), (0 : Int), (5 : Int)))
  (.get (subI x0 (1 : Int) (w64 ((1 : Int) + (Nat.cast (UInt8.toNat y1) : Int)))) fun y3 =>
  .sub (F_codec_Scan_next_l0 n n (0 : Int) false y3 (ln y3) (0 : Int)) fun y4 =>
  .ite (decide ((9007199254740992 : Int) < y4))
  (.ret ((0 : Int), (0 : Int), (6 : Int)))
  (.ret (y4, (w64 ((1 : Int) + (Nat.cast (UInt8.toNat y1) : Int))), (0 : Int)))))
  (.get (subI x0 (1 : Int) (w64 ((1 : Int) + (Nat.cast (UInt8.toNat y1) : Int)))) fun y5 =>
  .sub (F_codec_Scan_next_l0 n n (0 : Int) false y5 (ln y5) (0 : Int)) fun y6 =>
  .ite (decide ((9007199254740992 : Int) < y6))
  (.ret ((0 : Int), (0 : Int), (6 : Int)))
  (.ret (y6, (w64 ((1 : Int) + (Nat.cast (UInt8.toNat y1) : Int))), (0 : Int)))))))
def S_codec_Scan_next (n : Nat) : Summ := mkS ⟨[(.agg (.pr (.ro false .u8 []) (.pr (.val (.sint .i64) (0 : Int)) .un)))], [], 0⟩ [.c, .d (.list .u8), .d (.sint .i64)] fun v => .sub (F_codec_Scan_next n (p1 v)) fun r => .ret ((.tup (.pr (.val (.sint .i64) r.1) (.pr (.val (.sint .i64) r.2.1) (.pr (.val (.sint .i64) r.2.2) .un)))), [], 0)
theorem ok_codec_Scan_next (n : Nat) : SoundF Try.prog 50 (S_codec_Scan_next n) :=
  fn_go true true (c := codeOf Try.f50) (tab := mkTab []) (cuts := mkCuts [(0, C_50_0 (S_codec_Scan_next_l0 n n))]) Try.func50 (by kernel_rfl) .nil (CutsOK.list (l := [(0, .lp (bodyOf Try.f50 0))]) (by kernel_rfl) (LoopsOK.all ⟨.inr ⟨_, rfl, ok_codec_Scan_next_l0 n n⟩, trivial⟩)) (fun v => by kernel_rfl)
def F_codec_Scan_Fail (n : Nat) (x0 : Int) (x1 : Int) : Tree Int :=
  .ite (decide (x0 = (0 : Int)))
  (.ret x1)
  (.ret x0)
def S_codec_Scan_Fail (n : Nat) : Summ := mkS ⟨[(.agg (.pr (.ro false .u8 []) (.pr (.val (.sint .i64) (0 : Int)) .un))), (.val (.sint .i64) (0 : Int))], [], 0⟩ [.c, .d (.list .u8), .d (.sint .i64), .d (.sint .i64)] fun v => .sub (F_codec_Scan_Fail n (p2 v) (p3 v)) fun r => .ret ((.agg (.pr (.ro (p0 v) .u8 (p1 v)) (.pr (.val (.sint .i64) r) .un))), [], 0)
theorem ok_codec_Scan_Fail (n : Nat) : SoundF Try.prog 51 (S_codec_Scan_Fail n) :=
  fn_go true true (c := codeOf Try.f51) (tab := mkTab []) (cuts := mkCuts []) Try.func51 (by kernel_rfl) .nil (.none0 (by kernel_rfl)) (fun v => by kernel_rfl)
def F_codec_Scan_Number (n : Nat) (x0 : Bool) (x1 : List UInt8) (x2 : Int) (x3 : Int) (x4 : Int) : Tree ((Int) × ((Bool) × ((List UInt8) × Int))) :=
  .ite (!(decide (x2 = (0 : Int))))
  (.ret ((0 : Int), x0, x1, x2))
  (.sub (F_codec_Scan_next n x1) fun y5 =>
  .ite ((decide (y5.2.2 = (0 : Int))) && ((decide (y5.1 < x3)) || (decide (x4 < y5.1))))
  (.ite true
  (.sub (F_codec_Scan_Fail n x2 (6 : Int)) fun y6 =>
  .ret ((0 : Int), x0, x1, y6))
  (.get (subI x1 y5.2.1 (ln x1)) fun y7 =>
  .ret (y5.1, false, y7, (0 : Int))))
  (.ite (!(decide (y5.2.2 = (0 : Int))))
  (.sub (F_codec_Scan_Fail n x2 y5.2.2) fun y8 =>
  .ret ((0 : Int), x0, x1, y8))
  (.get (subI x1 y5.2.1 (ln x1)) fun y9 =>
  .ret (y5.1, false, y9, (0 : Int)))))
def S_codec_Scan_Number (n : Nat) : Summ := mkS ⟨[(.agg (.pr (.ro false .u8 []) (.pr (.val (.sint .i64) (0 : Int)) .un))), (.val (.sint .i64) (0 : Int)), (.val (.sint .i64) (0 : Int))], [], 0⟩ [.c, .d (.list .u8), .d (.sint .i64), .d (.sint .i64), .d (.sint .i64)] fun v => .sub (F_codec_Scan_Number n (p0 v) (p1 v) (p2 v) (p3 v) (p4 v)) fun r => .ret ((.tup (.pr (.val (.sint .i64) r.1) (.pr (.agg (.pr (.ro r.2.1 .u8 r.2.2.1) (.pr (.val (.sint .i64) r.2.2.2) .un))) .un))), [], 0)
theorem ok_codec_Scan_Number (n : Nat) : SoundF Try.prog 31 (S_codec_Scan_Number n) :=
  fn_go true true (c := codeOf Try.f31) (tab := mkTab [(50, ⟨S_codec_Scan_next n, [], [], false⟩), (51, ⟨S_codec_Scan_Fail n, [], [], false⟩)]) (cuts := mkCuts []) Try.func31 (by kernel_rfl) (.cons (ok_codec_Scan_next n) ⟨_, Try.func50, by kernel_rfl⟩ (.cons (ok_codec_Scan_Fail n) ⟨_, Try.func51, by kernel_rfl⟩ .nil)) (.none0 (by kernel_rfl)) (fun v => by kernel_rfl)
def C_13_0 : CutF → Cut := fun κ => ⟨[5, 6, 18, 19], fun e => match e with | .ex i => bif Nat.beq i 0 then [6] else [] | .rt => [2, 3] | .nm => [] | .go i => [], κ⟩
def F_codec_Scan_Fixed (n : Nat) (x0 : Bool) (x1 : List UInt8) (x2 : Int) (x3 : Int) : Tree ((List UInt8) × ((Bool) × ((List UInt8) × Int))) :=
  .ite ((!(decide (x2 = (0 : Int)))) || (decide (x3 < (1 : Int))))
  (.ret (([] : List UInt8), x0, x1, x2))
  (.ite (decide ((ln x1) < x3))
  (.sub (F_codec_Scan_Fail n x2 (3 : Int)) fun y4 =>
  .ret (([] : List UInt8), x0, x1, y4))
  (.get (subI x1 (0 : Int) x3) fun y5 =>
  .get (appI 140737488355328 ([] : List UInt8) y5) fun y6 =>
  .get (subI x1 x3 (ln x1)) fun y7 =>
  .ret (y6, false, y7, (0 : Int))))
def S_codec_Scan_Fixed (n : Nat) : Summ := mkS ⟨[(.agg (.pr (.ro false .u8 []) (.pr (.val (.sint .i64) (0 : Int)) .un))), (.val (.sint .i64) (0 : Int))], [], 0⟩ [.c, .d (.list .u8), .d (.sint .i64), .d (.sint .i64)] fun v => .sub (F_codec_Scan_Fixed n (p0 v) (p1 v) (p2 v) (p3 v)) fun r => .ret ((.tup (.pr (.ro false .u8 r.1) (.pr (.agg (.pr (.ro r.2.1 .u8 r.2.2.1) (.pr (.val (.sint .i64) r.2.2.2) .un))) .un))), [], 0)
theorem ok_codec_Scan_Fixed (n : Nat) : SoundF Try.prog 52 (S_codec_Scan_Fixed n) :=
  fn_go true true (c := codeOf Try.f52) (tab := mkTab [(51, ⟨S_codec_Scan_Fail n, [], [], false⟩)]) (cuts := mkCuts []) Try.func52 (by kernel_rfl) (.cons (ok_codec_Scan_Fail n) ⟨_, Try.func51, by kernel_rfl⟩ .nil) (.none0 (by kernel_rfl)) (fun v => by kernel_rfl)
def F_codec_Scan_ID (n : Nat) (x0 : Bool) (x1 : List UInt8) (x2 : Int) : Tree ((List UInt8) × ((Bool) × ((List UInt8) × Int))) :=
  .sub (F_codec_Scan_Fixed n x0 x1 x2 (32 : Int)) fun y3 =>
  .ite (!(decide ((ln y3.1) = (32 : Int))))
  (.ret ((zs 32), y3.2.1, y3.2.2.1, y3.2.2.2))
  (.get (takeI 32 y3.1) fun y4 =>
  .ret (y4, y3.2.1, y3.2.2.1, y3.2.2.2))
def S_codec_Scan_ID (n : Nat) : Summ := mkS ⟨[(.agg (.pr (.ro false .u8 []) (.pr (.val (.sint .i64) (0 : Int)) .un)))], [], 0⟩ [.c, .d (.list .u8), .d (.sint .i64)] fun v => .sub (F_codec_Scan_ID n (p0 v) (p1 v) (p2 v)) fun r => .ret ((.tup (.pr (.val (.arr 32 .u8) r.1) (.pr (.agg (.pr (.ro r.2.1 .u8 r.2.2.1) (.pr (.val (.sint .i64) r.2.2.2) .un))) .un))), [], 0)
theorem ok_codec_Scan_ID (n : Nat) : SoundF Try.prog 32 (S_codec_Scan_ID n) :=
  fn_go true true (c := codeOf Try.f32) (tab := mkTab [(52, ⟨S_codec_Scan_Fixed n, [], [], false⟩)]) (cuts := mkCuts []) Try.func32 (by kernel_rfl) (.cons (ok_codec_Scan_Fixed n) ⟨_, Try.func52, by kernel_rfl⟩ .nil) (.none0 (by kernel_rfl)) (fun v => by kernel_rfl)
def F_codec_Scan_Text (n : Nat) (x0 : Bool) (x1 : List UInt8) (x2 : Int) (x3 : Int) : Tree ((List UInt8) × ((Bool) × ((List UInt8) × Int))) :=
  .sub (F_codec_Scan_Number n x0 x1 x2 (0 : Int) (9007199254740992 : Int)) fun y4 =>
  .ite (!(decide (y4.2.2.2 = (0 : Int))))
  (.ret (([] : List UInt8), y4.2.1, y4.2.2.1, y4.2.2.2))
  (.ite (decide ((maxI x3 (0 : Int)) < y4.1))
  (.sub (F_codec_Scan_Fail n x2 (2 : Int)) fun y5 =>
  .ret (([] : List UInt8), x0, x1, y5))
  (.ite (decide ((ln y4.2.2.1) < y4.1))
  (.sub (F_codec_Scan_Fail n x2 (3 : Int)) fun y6 =>
  .ret (([] : List UInt8), x0, x1, y6))
  (.sub (F_codec_Scan_Fixed n y4.2.1 y4.2.2.1 y4.2.2.2 y4.1) fun y7 =>
  .ret (y7.1, y7.2.1, y7.2.2.1, y7.2.2.2))))
def S_codec_Scan_Text (n : Nat) : Summ := mkS ⟨[(.agg (.pr (.ro false .u8 []) (.pr (.val (.sint .i64) (0 : Int)) .un))), (.val (.sint .i64) (0 : Int))], [], 0⟩ [.c, .d (.list .u8), .d (.sint .i64), .d (.sint .i64)] fun v => .sub (F_codec_Scan_Text n (p0 v) (p1 v) (p2 v) (p3 v)) fun r => .ret ((.tup (.pr (.ro false .u8 r.1) (.pr (.agg (.pr (.ro r.2.1 .u8 r.2.2.1) (.pr (.val (.sint .i64) r.2.2.2) .un))) .un))), [], 0)
theorem ok_codec_Scan_Text (n : Nat) : SoundF Try.prog 33 (S_codec_Scan_Text n) :=
  fn_go true true (c := codeOf Try.f33) (tab := mkTab [(31, ⟨S_codec_Scan_Number n, [], [], false⟩), (51, ⟨S_codec_Scan_Fail n, [], [], false⟩), (52, ⟨S_codec_Scan_Fixed n, [], [], false⟩)]) (cuts := mkCuts []) Try.func33 (by kernel_rfl) (.cons (ok_codec_Scan_Number n) ⟨_, Try.func31, by kernel_rfl⟩ (.cons (ok_codec_Scan_Fail n) ⟨_, Try.func51, by kernel_rfl⟩ (.cons (ok_codec_Scan_Fixed n) ⟨_, Try.func52, by kernel_rfl⟩ .nil))) (.none0 (by kernel_rfl)) (fun v => by kernel_rfl)
def F_codec_Scan_Err (n : Nat) : Tree Unit :=
  .ret ()
def S_codec_Scan_Err (n : Nat) : Summ := mkS ⟨[(.agg (.pr (.ro false .u8 []) (.pr (.val (.sint .i64) (0 : Int)) .un)))], [], 0⟩ [.c, .d (.list .u8), .d (.sint .i64)] fun v => .sub (F_codec_Scan_Err n) fun r => .ret ((.val (.sint .i64) (p2 v)), [], 0)
theorem ok_codec_Scan_Err (n : Nat) : SoundF Try.prog 34 (S_codec_Scan_Err n) :=
  fn_go true true (c := codeOf Try.f34) (tab := mkTab []) (cuts := mkCuts []) Try.func34 (by kernel_rfl) .nil (.none0 (by kernel_rfl)) (fun v => by kernel_rfl)
def F_index_Get_l0 (n : Nat) : Nat → (Int) → (Int) → (Bool) → (List UInt8) → (Int) → (List (Int × List UInt8 × List UInt8 × Int × Int)) → Tree (((Int) × ((Bool) × ((List UInt8) × Int))) ⊕ (Unit ⊕ (((Int) × ((Bool) × ((List UInt8) × Int))) ⊕ ((List (Int × List UInt8 × List UInt8 × Int × Int)) × ((Bool) × ((List UInt8) × Int))))))
 | 0 => fun  x0 x1 x2 x3 x4 x5 => .fail
 | k + 1 => fun x0 x1 x2 x3 x4 x5 =>
  .ite (decide (x1 < x0))
  (.sub (F_codec_Scan_Number n x2 x3 x4 (1 : Int) (3 : Int)) fun y6 =>
  .sub (F_codec_Scan_ID n y6.2.1 y6.2.2.1 y6.2.2.2) fun y7 =>
  .sub (F_codec_Scan_Text n y7.2.1 y7.2.2.1 y7.2.2.2 (32 : Int)) fun y8 =>
  .sub (F_codec_Scan_Number n y8.2.1 y8.2.2.1 y8.2.2.2 (8 : Int) (65536 : Int)) fun y9 =>
  .sub (F_codec_Scan_Number n y9.2.1 y9.2.2.1 y9.2.2.2 (28 : Int) (65536 : Int)) fun y10 =>
  .sub (F_codec_Scan_Err n) fun y11 =>
  .ite (!(decide (y10.2.2.2 = (0 : Int))))
  (.sub (F_codec_Scan_Err n) fun y12 =>
  .ret (.inl (y10.2.2.2, y10.2.1, y10.2.2.1, y10.2.2.2)))
  (.get (appI 1954687338268 x5 (List.set ([((0 : Int), ((zs 32), (([] : List UInt8), ((0 : Int), (0 : Int)))))] : List (Int × ((List UInt8) × ((List UInt8) × (Int × Int))))) 0 (y6.1, (y7.1, (y8.1, (y9.1, y10.1)))))) fun y13 =>
  .sub (F_index_Get_l0 n k x0 (w64 (x1 + (1 : Int))) y10.2.1 y10.2.2.1 y10.2.2.2 y13) fun y14 =>
  .alt y14 (fun y15 =>
  .ret (.inr (.inr (.inl (y15.1, y15.2.1, y15.2.2.1, y15.2.2.2)))))
  fun y16 =>
  .alt y16 (fun y17 =>
  .ret (.inr (.inr (.inr (y13, y10.2.1, y10.2.2.1, y10.2.2.2)))))
  fun y18 =>
  .alt y18 (fun y19 =>
  .ret (.inr (.inr (.inl (y19.1, y19.2.1, y19.2.2.1, y19.2.2.2)))))
  fun y20 =>
  .ret (.inr (.inr (.inr (y20.1, y20.2.1, y20.2.2.1, y20.2.2.2))))))
  (.ret (.inr (.inl ())))
def S_index_Get_l0 (n k : Nat) : CutF := mkS ⟨[(.ptr 0 0), (.whole 2 36), (.val (.sint .i64) (0 : Int)), (.val (.sint .i64) (0 : Int))], [⟨0, 1, .box (.agg (.pr (.ro false .u8 []) (.pr (.val (.sint .i64) (0 : Int)) .un)))⟩, ⟨2, 3, .row T5 []⟩], 4⟩ [.d (.sint .i64), .d (.sint .i64), .c, .d (.list .u8), .d (.sint .i64), .d T6] fun v => .sub (F_index_Get_l0 n k (p0 v) (p1 v) (p2 v) (p3 v) (p4 v) (p5 v)) fun r => .alt r (fun r => .ret (.rt, [(.whole 4 36), (.val (.sint .i64) r.1)], [⟨4, 5, .row T5 ([] : List (Int × ((List UInt8) × ((List UInt8) × (Int × Int)))))⟩, ⟨0, 7, .box (.agg (.pr (.ro r.2.1 .u8 r.2.2.1) (.pr (.val (.sint .i64) r.2.2.2) .un)))⟩, ⟨2, 9, .row T5 (p5 v)⟩], 10)) (fun r => .alt r (fun r => .ret (.ex 0, [(.whole 2 36)], [⟨2, 5, .row T5 (p5 v)⟩, ⟨0, 7, .box (.agg (.pr (.ro (p2 v) .u8 (p3 v)) (.pr (.val (.sint .i64) (p4 v)) .un)))⟩], 8)) (fun r => .alt r (fun r => .ret (.rt, [(.whole 4 36), (.val (.sint .i64) r.1)], [⟨4, 5, .row T5 ([] : List (Int × ((List UInt8) × ((List UInt8) × (Int × Int)))))⟩, ⟨0, 7, .box (.agg (.pr (.ro r.2.1 .u8 r.2.2.1) (.pr (.val (.sint .i64) r.2.2.2) .un)))⟩], 8)) (fun r => .ret (.ex 0, [(.whole 4 36)], [⟨4, 5, .row T5 r.1⟩, ⟨0, 7, .box (.agg (.pr (.ro r.2.1 .u8 r.2.2.1) (.pr (.val (.sint .i64) r.2.2.2) .un)))⟩], 8))))
theorem rd_index_Get_l0 (n k : Nat) : Rounds Try.prog (Go.Func.ntmps Try.f13) (bodyOf Try.f13 0) C_13_0 [S_index_Get_l0 n k] (S_index_Get_l0 n (k + 1)) :=
  rounds_go (tab := mkTab [(31, ⟨S_codec_Scan_Number n, [], [], false⟩), (32, ⟨S_codec_Scan_ID n, [], [], false⟩), (33, ⟨S_codec_Scan_Text n, [], [], false⟩), (34, ⟨S_codec_Scan_Err n, [], [], false⟩)]) (cuts := mkCuts []) (S_index_Get_l0 n k) [] (.cons (ok_codec_Scan_Number n) ⟨_, Try.func31, by kernel_rfl⟩ (.cons (ok_codec_Scan_ID n) ⟨_, Try.func32, by kernel_rfl⟩ (.cons (ok_codec_Scan_Text n) ⟨_, Try.func33, by kernel_rfl⟩ (.cons (ok_codec_Scan_Err n) ⟨_, Try.func34, by kernel_rfl⟩ .nil)))) (.none0 (by kernel_rfl)) rfl (fun v => by kernel_rfl)
theorem ok_index_Get_l0 (n k : Nat) : SoundC Try.prog (Go.Func.ntmps Try.f13) (.loop (bodyOf Try.f13 0)) (wr (bodyOf Try.f13 0)) (C_13_0 (S_index_Get_l0 n k)) :=
  loop_go (K := fun k => [S_index_Get_l0 n k]) (fun _ => rfl) (by kernel_rfl) ⟨z_go fun _ => by kernel_rfl, trivial⟩ (fun k => ⟨rd_index_Get_l0 n k, trivial⟩) k rfl
def F_codec_Scan_End (n : Nat) (x0 : List UInt8) (x1 : Int) : Tree Int :=
  .ite ((decide (x1 = (0 : Int))) && (decide ((0 : Int) < (ln x0))))
  (.ret (4 : Int))
  (.ret x1)
def S_codec_Scan_End (n : Nat) : Summ := mkS ⟨[(.agg (.pr (.ro false .u8 []) (.pr (.val (.sint .i64) (0 : Int)) .un)))], [], 0⟩ [.c, .d (.list .u8), .d (.sint .i64)] fun v => .sub (F_codec_Scan_End n (p1 v) (p2 v)) fun r => .ret ((.val (.sint .i64) r), [], 0)
theorem ok_codec_Scan_End (n : Nat) : SoundF Try.prog 35 (S_codec_Scan_End n) :=
  fn_go true true (c := codeOf Try.f35) (tab := mkTab []) (cuts := mkCuts []) Try.func35 (by kernel_rfl) .nil (.none0 (by kernel_rfl)) (fun v => by kernel_rfl)
def C_13_2 : CutF → Cut := fun κ => ⟨[6, 71, 72, 73], fun e => match e with | .ex i => bif Nat.beq i 2 then [] else [] | .rt => [2, 3] | .nm => [] | .go i => [], κ⟩
def F_bytes_Compare (n : Nat) (x0 : Nat) (x1 : Nat) (x2 : Nat) (x3 : Nat) (x4 : List UInt8) (x5 : List UInt8) : Tree Int :=
  .ret (Go.Lib.compareBytes (List.take x1 (List.drop x0 x4)) (List.take x3 (List.drop x2 x5)))
def S_bytes_Compare (n : Nat) : Summ := mkS ⟨[(.bwin 0 1 .u8 32 0 0), (.bwin 2 1 .u8 32 0 0)], [⟨0, 1, .box (.agg (.pr (.val (.sint .i64) (0 : Int)) (.pr (.val (.arr 32 .u8) []) (.pr (.agg (.pr (.val .str []) (.pr (.val (.sint .i64) (0 : Int)) (.pr (.val (.sint .i64) (0 : Int)) .un)))) .un))))⟩, ⟨2, 3, .box (.agg (.pr (.val (.sint .i64) (0 : Int)) (.pr (.val (.arr 32 .u8) []) (.pr (.agg (.pr (.val .str []) (.pr (.val (.sint .i64) (0 : Int)) (.pr (.val (.sint .i64) (0 : Int)) .un)))) .un))))⟩], 4⟩ [.n, .n, .n, .n, .d (.sint .i64), .d (.arr 32 .u8), .d .str, .d (.sint .i64), .d (.sint .i64), .d (.sint .i64), .d (.arr 32 .u8), .d .str, .d (.sint .i64), .d (.sint .i64)] fun v => .sub (F_bytes_Compare n (p0 v) (p1 v) (p2 v) (p3 v) (p5 v) (p10 v)) fun r => .ret ((.val (.sint .i64) r), [⟨0, 5, .box (.agg (.pr (.val (.sint .i64) (p4 v)) (.pr (.val (.arr 32 .u8) (p5 v)) (.pr (.agg (.pr (.val .str (p6 v)) (.pr (.val (.sint .i64) (p7 v)) (.pr (.val (.sint .i64) (p8 v)) .un)))) .un))))⟩, ⟨2, 7, .box (.agg (.pr (.val (.sint .i64) (p9 v)) (.pr (.val (.arr 32 .u8) (p10 v)) (.pr (.agg (.pr (.val .str (p11 v)) (.pr (.val (.sint .i64) (p12 v)) (.pr (.val (.sint .i64) (p13 v)) .un)))) .un))))⟩], 8)
theorem ok_bytes_Compare (n : Nat) : SoundF Try.prog 49 (S_bytes_Compare n) :=
  fn_go false true (c := codeOf Try.f49) (tab := mkTab [(67, ⟨S_compare, [], [], false⟩)]) (cuts := mkCuts []) Try.func49 (by kernel_rfl) (.consE (ok_compare Try.func67 (by kernel_rfl) (by kernel_rfl) (by kernel_rfl) (by kernel_rfl)) .nil) (.none0 (by kernel_rfl)) (fun v => by kernel_rfl)
def F_index_order (n : Nat) (x0 : Int) (x1 : List UInt8) (x2 : Int) (x3 : List UInt8) : Tree Int :=
  .ite (!(decide (x0 = x2)))
  (.ret (w64 (x0 - x2)))
  (.get (Option.some Unit.unit) fun y4 =>
  .get (Option.some Unit.unit) fun y5 =>
  .get (Tree.run (F_bytes_Compare n 0 32 0 32 x1 x3)) fun y6 =>
  .ret y6)
def S_index_order (n : Nat) : Summ := mkS ⟨[(.agg (.pr (.val (.sint .i64) (0 : Int)) (.pr (.val (.arr 32 .u8) []) (.pr (.agg (.pr (.val .str []) (.pr (.val (.sint .i64) (0 : Int)) (.pr (.val (.sint .i64) (0 : Int)) .un)))) .un)))), (.agg (.pr (.val (.sint .i64) (0 : Int)) (.pr (.val (.arr 32 .u8) []) (.pr (.agg (.pr (.val .str []) (.pr (.val (.sint .i64) (0 : Int)) (.pr (.val (.sint .i64) (0 : Int)) .un)))) .un))))], [], 0⟩ [.d (.sint .i64), .d (.arr 32 .u8), .d .str, .d (.sint .i64), .d (.sint .i64), .d (.sint .i64), .d (.arr 32 .u8), .d .str, .d (.sint .i64), .d (.sint .i64)] fun v => .sub (F_index_order n (p0 v) (p1 v) (p5 v) (p6 v)) fun r => .ret ((.val (.sint .i64) r), [], 0)
theorem ok_index_order (n : Nat) : SoundF Try.prog 29 (S_index_order n) :=
  fn_go false true (c := codeOf Try.f29) (tab := mkTab [(49, ⟨S_bytes_Compare n, [], [], false⟩)]) (cuts := mkCuts []) Try.func29 (by kernel_rfl) (.cons (ok_bytes_Compare n) ⟨_, Try.func49, by kernel_rfl⟩ .nil) (.none0 (by kernel_rfl)) (fun v => by kernel_rfl)
def F_index_Get_l2 (n : Nat) : Nat → (Int) → (Int) → (List (Int × List UInt8 × List UInt8 × Int × Int)) → Tree (Unit ⊕ Unit)
 | 0 => fun  x0 x1 x2 => .fail
 | k + 1 => fun x0 x1 x2 =>
  .ite (decide (x1 < x0))
  (.get (inI (List.length x2) x1) fun y3 =>
  .get (gt x2 (0 + y3)) fun y4 =>
  .get (Tree.run (F_index_Right n y4.1 y4.2.2.1 y4.2.2.2.1 y4.2.2.2.2)) fun y5 =>
  .ite (!y5)
  (.ret (.inl ()))
  (.ite (decide ((0 : Int) < x1))
  (.get (inI (List.length x2) (w64 (x1 - (1 : Int)))) fun y6 =>
  .get (gt x2 (0 + y6)) fun y7 =>
  .get (Tree.run (F_index_order n y7.1 y7.2.1 y4.1 y4.2.1)) fun y8 =>
  .ite (decide ((0 : Int) ≤ y8))
  (.ret (.inl ()))
  (.sub (F_index_Get_l2 n k x0 (w64 (x1 + (1 : Int))) x2) fun y9 =>
  .alt y9 (fun y10 =>
  .ret (.inl ()))
  fun y11 =>
  .ret (.inr ())))
  (.sub (F_index_Get_l2 n k x0 (w64 (x1 + (1 : Int))) x2) fun y12 =>
  .alt y12 (fun y13 =>
  .ret (.inl ()))
  fun y14 =>
  .ret (.inr ()))))
  (.ret (.inr ()))
def S_index_Get_l2 (n k : Nat) : CutF := mkS ⟨[(.whole 0 36), (.whole 0 36), (.val (.sint .i64) (0 : Int)), (.val (.sint .i64) (0 : Int))], [⟨0, 1, .row T5 []⟩], 2⟩ [.d (.sint .i64), .d (.sint .i64), .d T6] fun v => .sub (F_index_Get_l2 n k (p0 v) (p1 v) (p2 v)) fun r => .alt r (fun r => .ret (.rt, [(.whole 2 36), (.val (.sint .i64) (5 : Int))], [⟨2, 3, .row T5 ([] : List (Int × ((List UInt8) × ((List UInt8) × (Int × Int)))))⟩, ⟨0, 5, .row T5 (p2 v)⟩], 6)) (fun r => .ret (.ex 2, [], [⟨0, 3, .row T5 (p2 v)⟩], 4))
theorem rd_index_Get_l2 (n k : Nat) : Rounds Try.prog (Go.Func.ntmps Try.f13) (bodyOf Try.f13 2) C_13_2 [S_index_Get_l2 n k] (S_index_Get_l2 n (k + 1)) :=
  rounds_go (tab := mkTab [(36, ⟨S_index_Right n, [], [], true⟩), (29, ⟨S_index_order n, [], [], false⟩)]) (cuts := mkCuts []) (S_index_Get_l2 n k) [] (.cons (ok_index_Right n) ⟨_, Try.func36, by kernel_rfl⟩ (.cons (ok_index_order n) ⟨_, Try.func29, by kernel_rfl⟩ .nil)) (.none0 (by kernel_rfl)) rfl (fun v => by kernel_rfl)
theorem ok_index_Get_l2 (n k : Nat) : SoundC Try.prog (Go.Func.ntmps Try.f13) (.loop (bodyOf Try.f13 2)) (wr (bodyOf Try.f13 2)) (C_13_2 (S_index_Get_l2 n k)) :=
  loop_go (K := fun k => [S_index_Get_l2 n k]) (fun _ => rfl) (by kernel_rfl) ⟨z_go fun _ => by kernel_rfl, trivial⟩ (fun k => ⟨rd_index_Get_l2 n k, trivial⟩) k rfl
def F_index_Get (n : Nat) (x0 : List UInt8) : Tree ((Int) × (List (Int × List UInt8 × List UInt8 × Int × Int))) :=
  .sub (F_codec_From n x0) fun y1 =>
  .sub (F_codec_Scan_Number n false y1 (0 : Int) (0 : Int) (4096 : Int)) fun y2 =>
  .sub (F_index_Get_l0 n n y2.1 (0 : Int) y2.2.1 y2.2.2.1 y2.2.2.2 ([] : List (Int × ((List UInt8) × ((List UInt8) × (Int × Int)))))) fun y3 =>
  .alt y3 (fun y4 =>
  .ret (y4.1, ([] : List (Int × ((List UInt8) × ((List UInt8) × (Int × Int)))))))
  fun y5 =>
  .alt y5 (fun y6 =>
  .sub (F_codec_Scan_End n y2.2.2.1 y2.2.2.2) fun y7 =>
  .ite (!(decide (y7 = (0 : Int))))
  (.ret (y7, ([] : List (Int × ((List UInt8) × ((List UInt8) × (Int × Int)))))))
  (.sub (F_index_Get_l2 n n (0 : Int) (0 : Int) ([] : List (Int × ((List UInt8) × ((List UInt8) × (Int × Int)))))) fun y8 =>
  .alt y8 (fun y9 =>
  .ret ((5 : Int), ([] : List (Int × ((List UInt8) × ((List UInt8) × (Int × Int)))))))
  fun y10 =>
  .ret ((0 : Int), ([] : List (Int × ((List UInt8) × ((List UInt8) × (Int × Int))))))))
  fun y11 =>
  .alt y11 (fun y12 =>
  .ret (y12.1, ([] : List (Int × ((List UInt8) × ((List UInt8) × (Int × Int)))))))
  fun y13 =>
  .sub (F_codec_Scan_End n y13.2.2.1 y13.2.2.2) fun y14 =>
  .ite (!(decide (y14 = (0 : Int))))
  (.ret (y14, ([] : List (Int × ((List UInt8) × ((List UInt8) × (Int × Int)))))))
  (.sub (F_index_Get_l2 n n (ln y13.1) (0 : Int) y13.1) fun y15 =>
  .alt y15 (fun y16 =>
  .ret ((5 : Int), ([] : List (Int × ((List UInt8) × ((List UInt8) × (Int × Int)))))))
  fun y17 =>
  .ret ((0 : Int), y13.1))
def S_index_Get (n : Nat) : Summ := mkS ⟨[(.whole 0 1)], [⟨0, 1, .row .u8 []⟩], 2⟩ [.d (.list .u8)] fun v => .sub (F_index_Get n (p0 v)) fun r => .ret ((.tup (.pr (.whole 2 36) (.pr (.val (.sint .i64) r.1) .un))), [⟨2, 3, .row T5 r.2⟩, ⟨0, 5, .row .u8 (p0 v)⟩], 6)
theorem ok_index_Get (n : Nat) : SoundF Try.prog 13 (S_index_Get n) :=
  fn_go false true (c := codeOf Try.f13) (tab := mkTab [(30, ⟨S_codec_From n, [], [], false⟩), (31, ⟨S_codec_Scan_Number n, [], [], false⟩), (35, ⟨S_codec_Scan_End n, [], [], false⟩)]) (cuts := mkCuts [(0, C_13_0 (S_index_Get_l0 n n)), (2, C_13_2 (S_index_Get_l2 n n))]) Try.func13 (by kernel_rfl) (.cons (ok_codec_From n) ⟨_, Try.func30, by kernel_rfl⟩ (.cons (ok_codec_Scan_Number n) ⟨_, Try.func31, by kernel_rfl⟩ (.cons (ok_codec_Scan_End n) ⟨_, Try.func35, by kernel_rfl⟩ .nil))) (CutsOK.list (l := [(0, .lp (bodyOf Try.f13 0)), (2, .lp (bodyOf Try.f13 2))]) (by kernel_rfl) (LoopsOK.all ⟨.inr ⟨_, rfl, ok_index_Get_l0 n n⟩, ⟨.inr ⟨_, rfl, ok_index_Get_l2 n n⟩, trivial⟩⟩)) (fun v => by kernel_rfl)
def C_11_0 : CutF → Cut := fun κ => ⟨[0, 1, 5], fun e => match e with | .ex i => bif Nat.beq i 0 then [] else [] | .rt => [4] | .nm => [] | .go i => [], κ⟩
def F_r20_Same_l0 (n : Nat) : Nat → (Int) → (List (Int × List UInt8 × List UInt8 × Int × Int)) → (List (Int × List UInt8 × List UInt8 × Int × Int)) → Tree (Unit ⊕ Unit)
 | 0 => fun  x0 x1 x2 => .fail
 | k + 1 => fun x0 x1 x2 =>
  .ite (decide (x0 < (ln x1)))
  (.get (inI (List.length x1) x0) fun y3 =>
  .get (gt x1 (0 + y3)) fun y4 =>
  .get (inI (List.length x2) x0) fun y5 =>
  .get (gt x2 (0 + y5)) fun y6 =>
  .ite (!(eqV T5 (y4.1, (y4.2.1, (y4.2.2.1, (y4.2.2.2.1, y4.2.2.2.2)))) (y6.1, (y6.2.1, (y6.2.2.1, (y6.2.2.2.1, y6.2.2.2.2))))))
  (.ret (.inl ()))
  (.sub (F_r20_Same_l0 n k (w64 (x0 + (1 : Int))) x1 x2) fun y7 =>
  .alt y7 (fun y8 =>
  .ret (.inl ()))
  fun y9 =>
  .ret (.inr ())))
  (.ret (.inr ()))
def S_r20_Same_l0 (n k : Nat) : CutF := mkS ⟨[(.whole 0 36), (.whole 2 36), (.val (.sint .i64) (0 : Int))], [⟨0, 1, .row T5 []⟩, ⟨2, 3, .row T5 []⟩], 4⟩ [.d (.sint .i64), .d T6, .d T6] fun v => .sub (F_r20_Same_l0 n k (p0 v) (p1 v) (p2 v)) fun r => .alt r (fun r => .ret (.rt, [(.val .bool false)], [⟨0, 5, .row T5 (p1 v)⟩, ⟨2, 7, .row T5 (p2 v)⟩], 8)) (fun r => .ret (.ex 0, [], [⟨0, 5, .row T5 (p1 v)⟩, ⟨2, 7, .row T5 (p2 v)⟩], 8))
theorem rd_r20_Same_l0 (n k : Nat) : Rounds Try.prog (Go.Func.ntmps Try.f11) (bodyOf Try.f11 0) C_11_0 [S_r20_Same_l0 n k] (S_r20_Same_l0 n (k + 1)) :=
  rounds_go (tab := mkTab []) (cuts := mkCuts []) (S_r20_Same_l0 n k) [] .nil (.none0 (by kernel_rfl)) rfl (fun v => by kernel_rfl)
theorem ok_r20_Same_l0 (n k : Nat) : SoundC Try.prog (Go.Func.ntmps Try.f11) (.loop (bodyOf Try.f11 0)) (wr (bodyOf Try.f11 0)) (C_11_0 (S_r20_Same_l0 n k)) :=
  loop_go (K := fun k => [S_r20_Same_l0 n k]) (fun _ => rfl) (by kernel_rfl) ⟨z_go fun _ => by kernel_rfl, trivial⟩ (fun k => ⟨rd_r20_Same_l0 n k, trivial⟩) k rfl
def F_r20_Same (n : Nat) (x0 : List (Int × List UInt8 × List UInt8 × Int × Int)) (x1 : List (Int × List UInt8 × List UInt8 × Int × Int)) : Tree Bool :=
  .ite (!(decide ((ln x0) = (ln x1))))
  (.ret false)
  (.sub (F_r20_Same_l0 n n (0 : Int) x0 x1) fun y2 =>
  .alt y2 (fun y3 =>
  .ret false)
  fun y4 =>
  .ret true)
def S_r20_Same (n : Nat) : Summ := mkS ⟨[(.whole 0 36), (.whole 2 36)], [⟨0, 1, .row T5 []⟩, ⟨2, 3, .row T5 []⟩], 4⟩ [.d T6, .d T6] fun v => .sub (F_r20_Same n (p0 v) (p1 v)) fun r => .ret ((.val .bool r), [⟨0, 5, .row T5 (p0 v)⟩, ⟨2, 7, .row T5 (p1 v)⟩], 8)
theorem ok_r20_Same (n : Nat) : SoundF Try.prog 11 (S_r20_Same n) :=
  fn_go true true (c := codeOf Try.f11) (tab := mkTab []) (cuts := mkCuts [(0, C_11_0 (S_r20_Same_l0 n n))]) Try.func11 (by kernel_rfl) .nil (CutsOK.list (l := [(0, .lp (bodyOf Try.f11 0))]) (by kernel_rfl) (LoopsOK.all ⟨.inr ⟨_, rfl, ok_r20_Same_l0 n n⟩, trivial⟩)) (fun v => by kernel_rfl)
def F_w20_IndexBack (n : Nat) (x0 : Bool) (x1 : List (Int × List UInt8 × List UInt8 × Int × Int)) (x2 : List UInt8) : Tree Bool :=
  .ite (decide ((4000 : Int) < (ln x2)))
  (.sub (F_w20_awake n) fun y3 =>
  .ret y3)
  (.sub (F_w20_both n x0 x1) fun y4 =>
  .sub (F_index_Index_List n y4.2.2.2) fun y5 =>
  .sub (F_index_Put n y5) fun y6 =>
  .sub (F_index_Get n y6) fun y7 =>
  .ite (!(decide (y7.1 = (0 : Int))))
  (.ret false)
  (.sub (F_index_Index_List n y4.2.2.2) fun y8 =>
  .sub (F_r20_Same n y7.2 y8) fun y9 =>
  .ite (!y9)
  (.ret false)
  (.get (appI 140737488355328 ([] : List UInt8) x2) fun y10 =>
  .sub (F_index_Get n y10) fun y11 =>
  .ite (!(decide (y11.1 = (0 : Int))))
  (.ite (decide ((ln y11.2) = (0 : Int)))
  (.sub (F_w20_awake n) fun y12 =>
  .ret y12)
  (.ret false))
  (.get (Tree.run (F_index_Put n y11.2)) fun y13 =>
  .ite (decide (y13 = x2))
  (.get (Tree.run (F_w20_awake n)) fun y14 =>
  .ret y14)
  (.ret false)))))
def S_w20_IndexBack (n : Nat) : Summ := mkS ⟨[(.ro false T5 []), (.ro false .u8 [])], [], 0⟩ [.c, .d T6, .c, .d (.list .u8)] fun v => .sub (F_w20_IndexBack n (p0 v) (p1 v) (p3 v)) fun r => .ret ((.val .bool r), [], 0)
theorem ok_w20_IndexBack (n : Nat) : SoundF Try.prog 4 (S_w20_IndexBack n) :=
  fn_go true true (c := codeOf Try.f4) (tab := mkTab [(10, ⟨S_w20_awake n, [], [], false⟩), (7, ⟨S_w20_both n, [], [], false⟩), (12, ⟨S_index_Index_List n, [], [], false⟩), (14, ⟨S_index_Put n, [], [], true⟩), (13, ⟨S_index_Get n, [], [], false⟩), (11, ⟨S_r20_Same n, [], [], true⟩)]) (cuts := mkCuts []) Try.func4 (by kernel_rfl) (.cons (ok_w20_awake n) ⟨_, Try.func10, by kernel_rfl⟩ (.cons (ok_w20_both n) ⟨_, Try.func7, by kernel_rfl⟩ (.cons (ok_index_Index_List n) ⟨_, Try.func12, by kernel_rfl⟩ (.cons (ok_index_Put n) ⟨_, Try.func14, by kernel_rfl⟩ (.cons (ok_index_Get n) ⟨_, Try.func13, by kernel_rfl⟩ (.cons (ok_r20_Same n) ⟨_, Try.func11, by kernel_rfl⟩ .nil)))))) (.none0 (by kernel_rfl)) (fun v => by kernel_rfl)
end Hyp
