/- Printed by Gen.lean.tpl (this work's own): Go functions as pure functions, each with the proof that the Go code comes to its answers. -/
import Derived.Test.YtcipfbabjbcfkaaZD
import Derived.Test.YtcipfbabjbcfkaaSL
import Derived.Test.YtcipfbabjbcfkaaSd
import Derived.Test.YtcipfbabjbcfkaaSV
import Derived.Test.YtcipfbabjbcfkaaChecked
set_option linter.unusedVariables false
set_option maxRecDepth 100000
set_option maxHeartbeats 4000000
namespace Hyp
open Go Go.Proofs
abbrev T1 : Ty := .rcd (.pair (.sint .i64) (.arr 32 .u8))
abbrev T2 : Ty := .rcd (.pair .str (.pair (.sint .i64) (.sint .i64)))
abbrev T3 : Ty := .list (.rcd (.pair (.rcd (.pair (.sint .i64) (.arr 32 .u8))) (.rcd (.pair .str (.pair (.sint .i64) (.sint .i64))))))
abbrev T4 : Ty := .list (.rcd (.pair (.arr 32 .u8) (.sint .i64)))
abbrev T5 : Ty := .rcd (.pair (.sint .i64) (.pair (.arr 32 .u8) (.rcd (.pair .str (.pair (.sint .i64) (.sint .i64))))))
abbrev T6 : Ty := .list (.rcd (.pair (.sint .i64) (.pair (.arr 32 .u8) (.rcd (.pair .str (.pair (.sint .i64) (.sint .i64)))))))
abbrev T7 : Ty := .rcd (.pair (.sint .i64) (.pair (.arr 32 .u8) (.pair (.sint .i64) (.sint .i64))))
abbrev T8 : Ty := .list (.rcd (.pair (.sint .i64) (.pair (.arr 32 .u8) (.pair (.sint .i64) (.sint .i64)))))
def F_index_New (n : Nat) : Tree Unit :=
  .ret ()
def S_index_New (n : Nat) : Summ := mkS ⟨[], [], 0⟩ [] fun v => .sub (F_index_New n) fun r => .ret ((.ptr 0 0), [⟨0, 1, .box (.agg (.pr (.mpv 2) .un))⟩, ⟨2, 3, .mp T1 T2 ([] : List ((Int × (List UInt8)) × ((List UInt8) × (Int × Int))))⟩], 4)
theorem ok_index_New (n : Nat) : SoundF Try.prog 8 (S_index_New n) :=
  fn_go false true (c := codeOf Try.f8) (tab := mkTab []) (cuts := mkCuts []) Try.func8 (by kernel_rfl) .nil (.none0 (by kernel_rfl)) (fun v => by kernel_rfl)
def C_53_0 : CutF → Cut := fun κ => ⟨[14, 15, 16], fun e => match e with | .ex i => bif Nat.beq i 0 then [] else [] | .rt => [2] | .nm => [] | .go i => [], κ⟩
def F_store_Named_l0 (n : Nat) : Nat → (Int) → (Int) → (List UInt8) → Tree (Unit ⊕ Unit)
 | 0 => fun  x0 x1 x2 => .fail
 | k + 1 => fun x0 x1 x2 =>
  .ite (decide (x1 < x0))
  (.get (inI (List.length x2) x1) fun y3 =>
  .get (gt x2 (0 + y3)) fun y4 =>
  .ite (bif (decide (y4 < (97 : UInt8))) then ((decide (y4 < (48 : UInt8))) || (decide ((57 : UInt8) < y4))) else ((decide ((122 : UInt8) < y4)) && ((decide (y4 < (48 : UInt8))) || (decide ((57 : UInt8) < y4)))))
  (.ret (.inl ()))
  (.sub (F_store_Named_l0 n k x0 (w64 (x1 + (1 : Int))) x2) fun y5 =>
  .alt y5 (fun y6 =>
  .ret (.inl ()))
  fun y7 =>
  .ret (.inr ())))
  (.ret (.inr ()))
def S_store_Named_l0 (n k : Nat) : CutF := mkS ⟨[(.whole 0 1), (.val (.sint .i64) (0 : Int)), (.val (.sint .i64) (0 : Int))], [⟨0, 1, .row .u8 []⟩], 2⟩ [.d (.sint .i64), .d (.sint .i64), .d (.list .u8)] fun v => .sub (F_store_Named_l0 n k (p0 v) (p1 v) (p2 v)) fun r => .alt r (fun r => .ret (.rt, [(.val .bool false)], [⟨0, 3, .row .u8 (p2 v)⟩], 4)) (fun r => .ret (.ex 0, [], [⟨0, 3, .row .u8 (p2 v)⟩], 4))
theorem rd_store_Named_l0 (n k : Nat) : Rounds Try.prog (Go.Func.ntmps Try.f53) (bodyOf Try.f53 0) C_53_0 [S_store_Named_l0 n k] (S_store_Named_l0 n (k + 1)) :=
  rounds_go (tab := mkTab []) (cuts := mkCuts []) (S_store_Named_l0 n k) [] .nil (.none0 (by kernel_rfl)) rfl (fun v => by kernel_rfl)
theorem ok_store_Named_l0 (n k : Nat) : SoundC Try.prog (Go.Func.ntmps Try.f53) (.loop (bodyOf Try.f53 0)) (wr (bodyOf Try.f53 0)) (C_53_0 (S_store_Named_l0 n k)) :=
  loop_go (K := fun k => [S_store_Named_l0 n k]) (fun _ => rfl) (by kernel_rfl) ⟨z_go fun _ => by kernel_rfl, trivial⟩ (fun k => ⟨rd_store_Named_l0 n k, trivial⟩) k rfl
def F_store_Named (n : Nat) (x0 : List UInt8) : Tree Bool :=
  .ite ((decide ((ln x0) < (1 : Int))) || (decide ((32 : Int) < (ln x0))))
  (.ret false)
  (.get (bytesI x0) fun y1 =>
  .sub (F_store_Named_l0 n n (ln y1) (0 : Int) y1) fun y2 =>
  .alt y2 (fun y3 =>
  .ret false)
  fun y4 =>
  .ret true)
def S_store_Named (n : Nat) : Summ := mkS ⟨[(.val .str [])], [], 0⟩ [.d .str] fun v => .sub (F_store_Named n (p0 v)) fun r => .ret ((.val .bool r), [], 0)
theorem ok_store_Named (n : Nat) : SoundF Try.prog 53 (S_store_Named n) :=
  fn_go false true (c := codeOf Try.f53) (tab := mkTab []) (cuts := mkCuts [(0, C_53_0 (S_store_Named_l0 n n))]) Try.func53 (by kernel_rfl) .nil (CutsOK.list (l := [(0, .lp (bodyOf Try.f53 0))]) (by kernel_rfl) (LoopsOK.all ⟨.inr ⟨_, rfl, ok_store_Named_l0 n n⟩, trivial⟩)) (fun v => by kernel_rfl)
def F_index_Right (n : Nat) (x0 : Int) (x1 : List UInt8) (x2 : Int) (x3 : Int) : Tree Bool :=
  .ite (decide (x0 < (1 : Int)))
  (.ret false)
  (.ite (decide ((3 : Int) < x0))
  (.ret false)
  (.sub (F_store_Named n x1) fun y4 =>
  .ite (!y4)
  (.ret false)
  (.ret ((decide ((8 : Int) ≤ x2)) && ((decide (x2 ≤ (65536 : Int))) && ((decide ((28 : Int) ≤ x3)) && (decide (x3 ≤ (w64 ((65536 : Int) - x2))))))))))
def S_index_Right (n : Nat) : Summ := mkS ⟨[(.agg (.pr (.val (.sint .i64) (0 : Int)) (.pr (.val (.arr 32 .u8) []) (.pr (.agg (.pr (.val .str []) (.pr (.val (.sint .i64) (0 : Int)) (.pr (.val (.sint .i64) (0 : Int)) .un)))) .un))))], [], 0⟩ [.d (.sint .i64), .d (.arr 32 .u8), .d .str, .d (.sint .i64), .d (.sint .i64)] fun v => .sub (F_index_Right n (p0 v) (p2 v) (p3 v) (p4 v)) fun r => .ret ((.val .bool r), [], 0)
theorem ok_index_Right (n : Nat) : SoundF Try.prog 36 (S_index_Right n) :=
  fn_go false true (c := codeOf Try.f36) (tab := mkTab [(53, ⟨S_store_Named n, [], [], false⟩)]) (cuts := mkCuts []) Try.func36 (by kernel_rfl) (.cons (ok_store_Named n) ⟨_, Try.func53, by kernel_rfl⟩ .nil) (.none0 (by kernel_rfl)) (fun v => by kernel_rfl)
def F_index_Index_Add (n : Nat) (x0 : Int) (x1 : List UInt8) (x2 : List UInt8) (x3 : Int) (x4 : Int) (x5 : List ((Int × List UInt8) × List UInt8 × Int × Int)) : Tree (Int ⊕ (List ((Int × List UInt8) × List UInt8 × Int × Int))) :=
  .sub (F_index_Right n x0 x2 x3 x4) fun y6 =>
  .ite (!y6)
  (.ret (.inl (1 : Int)))
  (.ite (Option.isSome (mget T1 T2 x5 (x0, x1)))
  (.ret (.inl (19 : Int)))
  (.ret (.inr (mput T1 T2 x5 (x0, x1) (x2, (x3, x4))))))
def S_index_Index_Add (n : Nat) : Summ := mkS ⟨[(.ptr 0 0), (.agg (.pr (.val (.sint .i64) (0 : Int)) (.pr (.val (.arr 32 .u8) []) (.pr (.agg (.pr (.val .str []) (.pr (.val (.sint .i64) (0 : Int)) (.pr (.val (.sint .i64) (0 : Int)) .un)))) .un))))], [⟨0, 1, .box (.agg (.pr (.mpv 2) .un))⟩, ⟨2, 3, .mp T1 T2 []⟩], 4⟩ [.d (.sint .i64), .d (.arr 32 .u8), .d .str, .d (.sint .i64), .d (.sint .i64), .d T3] fun v => .sub (F_index_Index_Add n (p0 v) (p1 v) (p2 v) (p3 v) (p4 v) (p5 v)) fun r => .alt r (fun r => .ret ((.val (.sint .i64) r), [⟨0, 5, .box (.agg (.pr (.mpv 2) .un))⟩, ⟨2, 3, .mp T1 T2 (p5 v)⟩], 8)) (fun r => .ret ((.val (.sint .i64) (0 : Int)), [⟨0, 5, .box (.agg (.pr (.mpv 2) .un))⟩, ⟨2, 7, .mp T1 T2 r⟩], 8))
theorem ok_index_Index_Add (n : Nat) : SoundF Try.prog 22 (S_index_Index_Add n) :=
  fn_go false true (c := codeOf Try.f22) (tab := mkTab [(36, ⟨S_index_Right n, [], [], true⟩)]) (cuts := mkCuts []) Try.func22 (by kernel_rfl) (.cons (ok_index_Right n) ⟨_, Try.func36, by kernel_rfl⟩ .nil) (.none0 (by kernel_rfl)) (fun v => by kernel_rfl)
def C_26_0 : CutF → Cut := fun κ => ⟨[0, 1, 7, 8, 14, 15, 16], fun e => match e with | .ex i => bif Nat.beq i 0 then [8] else [] | .rt => [] | .nm => [] | .go i => [], κ⟩
def F_index_Index_Find (n : Nat) (x0 : Int) (x1 : List UInt8) (x2 : List ((Int × List UInt8) × List UInt8 × Int × Int)) : Tree ((List UInt8) × ((Int) × ((Int) × Bool))) :=
  .ret ((mgetD T1 T2 x2 (x0, x1) (([] : List UInt8), ((0 : Int), (0 : Int)))).1, (mgetD T1 T2 x2 (x0, x1) (([] : List UInt8), ((0 : Int), (0 : Int)))).2.1, (mgetD T1 T2 x2 (x0, x1) (([] : List UInt8), ((0 : Int), (0 : Int)))).2.2, (Option.isSome (mget T1 T2 x2 (x0, x1))))
def S_index_Index_Find (n : Nat) : Summ := mkS ⟨[(.ptr 0 0), (.val (.sint .i64) (0 : Int)), (.val (.arr 32 .u8) [])], [⟨0, 1, .box (.agg (.pr (.mpv 2) .un))⟩, ⟨2, 3, .mp T1 T2 []⟩], 4⟩ [.d (.sint .i64), .d (.arr 32 .u8), .d T3] fun v => .sub (F_index_Index_Find n (p0 v) (p1 v) (p2 v)) fun r => .ret ((.tup (.pr (.agg (.pr (.val .str r.1) (.pr (.val (.sint .i64) r.2.1) (.pr (.val (.sint .i64) r.2.2.1) .un)))) (.pr (.val .bool r.2.2.2) .un))), [⟨0, 5, .box (.agg (.pr (.mpv 2) .un))⟩, ⟨2, 3, .mp T1 T2 (p2 v)⟩], 8)
theorem ok_index_Index_Find (n : Nat) : SoundF Try.prog 46 (S_index_Index_Find n) :=
  fn_go false true (c := codeOf Try.f46) (tab := mkTab []) (cuts := mkCuts []) Try.func46 (by kernel_rfl) .nil (.none0 (by kernel_rfl)) (fun v => by kernel_rfl)
def F_index_Index_Need_l0 (n : Nat) : Nat → (Int) → (Int) → (Int) → (List ((Int × List UInt8) × List UInt8 × Int × Int)) → (List (List UInt8 × Int)) → (List (List UInt8)) → (List (List UInt8)) → Tree (Unit ⊕ ((List (List UInt8)) × (List (List UInt8 × Int))))
 | 0 => fun  x0 x1 x2 x3 x4 x5 x6 => .fail
 | k + 1 => fun x0 x1 x2 x3 x4 x5 x6 =>
  .ite (decide (x2 < x1))
  (.get (inI (List.length x6) x2) fun y7 =>
  .get (gt x6 (0 + y7)) fun y8 =>
  .sub (F_index_Index_Find n x0 y8 x3) fun y9 =>
  .ite (y9.2.2.2 || (decide ((0 : Int) < (mgetD (.arr 32 .u8) (.sint .i64) x4 y8 (0 : Int)))))
  (.sub (F_index_Index_Need_l0 n k x0 x1 (w64 (x2 + (1 : Int))) x3 x4 x5 x6) fun y10 =>
  .alt y10 (fun y11 =>
  .ret (.inl ()))
  fun y12 =>
  .ret (.inr (y12.1, y12.2)))
  (.get (appI 4398046511104 x5 (List.set ([(zs 32)] : List (List UInt8)) 0 y8)) fun y13 =>
  .sub (F_index_Index_Need_l0 n k x0 x1 (w64 (x2 + (1 : Int))) x3 (mput (.arr 32 .u8) (.sint .i64) x4 y8 (1 : Int)) y13 x6) fun y14 =>
  .alt y14 (fun y15 =>
  .ret (.inr (y13, (mput (.arr 32 .u8) (.sint .i64) x4 y8 (1 : Int)))))
  fun y16 =>
  .ret (.inr (y16.1, y16.2))))
  (.ret (.inl ()))
def S_index_Index_Need_l0 (n k : Nat) : CutF := mkS ⟨[(.ptr 0 0), (.val (.sint .i64) (0 : Int)), (.mpv 4), (.whole 6 32), (.whole 8 32), (.val (.sint .i64) (0 : Int)), (.val (.sint .i64) (0 : Int))], [⟨0, 1, .box (.agg (.pr (.mpv 2) .un))⟩, ⟨2, 3, .mp T1 T2 []⟩, ⟨4, 5, .mp (.arr 32 .u8) (.sint .i64) []⟩, ⟨6, 7, .row (.arr 32 .u8) []⟩, ⟨8, 9, .row (.arr 32 .u8) []⟩], 10⟩ [.d (.sint .i64), .d (.sint .i64), .d (.sint .i64), .d T3, .d T4, .d (.list (.arr 32 .u8)), .d (.list (.arr 32 .u8))] fun v => .sub (F_index_Index_Need_l0 n k (p0 v) (p1 v) (p2 v) (p3 v) (p4 v) (p5 v) (p6 v)) fun r => .alt r (fun r => .ret (.ex 0, [(.whole 6 32)], [⟨6, 11, .row (.arr 32 .u8) (p5 v)⟩, ⟨0, 13, .box (.agg (.pr (.mpv 2) .un))⟩, ⟨2, 3, .mp T1 T2 (p3 v)⟩, ⟨4, 5, .mp (.arr 32 .u8) (.sint .i64) (p4 v)⟩, ⟨8, 19, .row (.arr 32 .u8) (p6 v)⟩], 20)) (fun r => .ret (.ex 0, [(.whole 10 32)], [⟨10, 11, .row (.arr 32 .u8) r.1⟩, ⟨0, 13, .box (.agg (.pr (.mpv 2) .un))⟩, ⟨2, 3, .mp T1 T2 (p3 v)⟩, ⟨4, 17, .mp (.arr 32 .u8) (.sint .i64) r.2⟩, ⟨8, 19, .row (.arr 32 .u8) (p6 v)⟩], 20))
theorem rd_index_Index_Need_l0 (n k : Nat) : Rounds Try.prog (Go.Func.ntmps Try.f26) (bodyOf Try.f26 0) C_26_0 [S_index_Index_Need_l0 n k] (S_index_Index_Need_l0 n (k + 1)) :=
  rounds_go (tab := mkTab [(46, ⟨S_index_Index_Find n, [], [], false⟩)]) (cuts := mkCuts []) (S_index_Index_Need_l0 n k) [] (.cons (ok_index_Index_Find n) ⟨_, Try.func46, by kernel_rfl⟩ .nil) (.none0 (by kernel_rfl)) rfl (fun v => by kernel_rfl)
theorem ok_index_Index_Need_l0 (n k : Nat) : SoundC Try.prog (Go.Func.ntmps Try.f26) (.loop (bodyOf Try.f26 0)) (wr (bodyOf Try.f26 0)) (C_26_0 (S_index_Index_Need_l0 n k)) :=
  loop_go (K := fun k => [S_index_Index_Need_l0 n k]) (fun _ => rfl) (by kernel_rfl) ⟨z_go fun _ => by kernel_rfl, trivial⟩ (fun k => ⟨rd_index_Index_Need_l0 n k, trivial⟩) k rfl
def F_index_Index_Need (n : Nat) (x0 : Int) (x1 : List ((Int × List UInt8) × List UInt8 × Int × Int)) (x2 : List (List UInt8)) : Tree (List (List UInt8)) :=
  .sub (F_index_Index_Need_l0 n n x0 (ln x2) (0 : Int) x1 ([] : List ((List UInt8) × Int)) ([] : List (List UInt8)) x2) fun y3 =>
  .alt y3 (fun y4 =>
  .ret ([] : List (List UInt8)))
  fun y5 =>
  .ret y5.1
def S_index_Index_Need (n : Nat) : Summ := mkS ⟨[(.ptr 0 0), (.val (.sint .i64) (0 : Int)), (.whole 4 32)], [⟨0, 1, .box (.agg (.pr (.mpv 2) .un))⟩, ⟨2, 3, .mp T1 T2 []⟩, ⟨4, 5, .row (.arr 32 .u8) []⟩], 6⟩ [.d (.sint .i64), .d T3, .d (.list (.arr 32 .u8))] fun v => .sub (F_index_Index_Need n (p0 v) (p1 v) (p2 v)) fun r => .ret ((.whole 6 32), [⟨6, 7, .row (.arr 32 .u8) r⟩, ⟨0, 9, .box (.agg (.pr (.mpv 2) .un))⟩, ⟨2, 3, .mp T1 T2 (p1 v)⟩, ⟨4, 13, .row (.arr 32 .u8) (p2 v)⟩], 14)
theorem ok_index_Index_Need (n : Nat) : SoundF Try.prog 26 (S_index_Index_Need n) :=
  fn_go false true (c := codeOf Try.f26) (tab := mkTab []) (cuts := mkCuts [(0, C_26_0 (S_index_Index_Need_l0 n n))]) Try.func26 (by kernel_rfl) .nil (CutsOK.list (l := [(0, .lp (bodyOf Try.f26 0))]) (by kernel_rfl) (LoopsOK.all ⟨.inr ⟨_, rfl, ok_index_Index_Need_l0 n n⟩, trivial⟩)) (fun v => by kernel_rfl)
def F_index_Index_Len (n : Nat) (x0 : List ((Int × List UInt8) × List UInt8 × Int × Int)) : Tree Int :=
  .ret (ln x0)
def S_index_Index_Len (n : Nat) : Summ := mkS ⟨[(.ptr 0 0)], [⟨0, 1, .box (.agg (.pr (.mpv 2) .un))⟩, ⟨2, 3, .mp T1 T2 []⟩], 4⟩ [.d T3] fun v => .sub (F_index_Index_Len n (p0 v)) fun r => .ret ((.val (.sint .i64) r), [⟨0, 5, .box (.agg (.pr (.mpv 2) .un))⟩, ⟨2, 3, .mp T1 T2 (p0 v)⟩], 8)
theorem ok_index_Index_Len (n : Nat) : SoundF Try.prog 27 (S_index_Index_Len n) :=
  fn_go false true (c := codeOf Try.f27) (tab := mkTab []) (cuts := mkCuts []) Try.func27 (by kernel_rfl) .nil (.none0 (by kernel_rfl)) (fun v => by kernel_rfl)
def F_w20_awake (n : Nat) : Tree Bool :=
  .sub (F_index_New n) fun y0 =>
  .sub (F_index_Index_Add n (1 : Int) ([2, 0, 0, 0, 0, 0, 0, 0, 0, 0, 0, 0, 0, 0, 0, 0, 0, 0, 0, 0, 0, 0, 0, 0, 0, 0, 0, 0, 0, 0, 0, 0] : List UInt8) ([112] : List UInt8) (8 : Int) (28 : Int) ([] : List ((Int × (List UInt8)) × ((List UInt8) × (Int × Int))))) fun y1 =>
  .alt y1 (fun y2 =>
  .ite (!(decide (y2 = (0 : Int))))
  (.ret false)
  (.sub (F_index_Index_Add n (1 : Int) ([2, 0, 0, 0, 0, 0, 0, 0, 0, 0, 0, 0, 0, 0, 0, 0, 0, 0, 0, 0, 0, 0, 0, 0, 0, 0, 0, 0, 0, 0, 0, 0] : List UInt8) ([112] : List UInt8) (8 : Int) (28 : Int) ([] : List ((Int × (List UInt8)) × ((List UInt8) × (Int × Int))))) fun y3 =>
  .alt y3 (fun y4 =>
  .ite (!(decide (y4 = (19 : Int))))
  (.ret false)
  (.sub (F_index_Index_Need n (1 : Int) ([] : List ((Int × (List UInt8)) × ((List UInt8) × (Int × Int)))) ([([1, 0, 0, 0, 0, 0, 0, 0, 0, 0, 0, 0, 0, 0, 0, 0, 0, 0, 0, 0, 0, 0, 0, 0, 0, 0, 0, 0, 0, 0, 0, 0] : List UInt8), ([2, 0, 0, 0, 0, 0, 0, 0, 0, 0, 0, 0, 0, 0, 0, 0, 0, 0, 0, 0, 0, 0, 0, 0, 0, 0, 0, 0, 0, 0, 0, 0] : List UInt8), ([1, 0, 0, 0, 0, 0, 0, 0, 0, 0, 0, 0, 0, 0, 0, 0, 0, 0, 0, 0, 0, 0, 0, 0, 0, 0, 0, 0, 0, 0, 0, 0] : List UInt8)] : List (List UInt8))) fun y5 =>
  .ite (decide ((ln y5) = (1 : Int)))
  (.get (inI (List.length y5) (0 : Int)) fun y6 =>
  .get (gt y5 (0 + y6)) fun y7 =>
  .ite (eqV (.arr 32 .u8) y7 ([1, 0, 0, 0, 0, 0, 0, 0, 0, 0, 0, 0, 0, 0, 0, 0, 0, 0, 0, 0, 0, 0, 0, 0, 0, 0, 0, 0, 0, 0, 0, 0] : List UInt8))
  (.sub (F_index_Index_Len n ([] : List ((Int × (List UInt8)) × ((List UInt8) × (Int × Int))))) fun y8 =>
  .ret (decide (y8 = (1 : Int))))
  (.ret false))
  (.ret false)))
  fun y9 =>
  .ite true
  (.ret false)
  (.sub (F_index_Index_Need n (1 : Int) y9 ([([1, 0, 0, 0, 0, 0, 0, 0, 0, 0, 0, 0, 0, 0, 0, 0, 0, 0, 0, 0, 0, 0, 0, 0, 0, 0, 0, 0, 0, 0, 0, 0] : List UInt8), ([2, 0, 0, 0, 0, 0, 0, 0, 0, 0, 0, 0, 0, 0, 0, 0, 0, 0, 0, 0, 0, 0, 0, 0, 0, 0, 0, 0, 0, 0, 0, 0] : List UInt8), ([1, 0, 0, 0, 0, 0, 0, 0, 0, 0, 0, 0, 0, 0, 0, 0, 0, 0, 0, 0, 0, 0, 0, 0, 0, 0, 0, 0, 0, 0, 0, 0] : List UInt8)] : List (List UInt8))) fun y10 =>
  .ite (decide ((ln y10) = (1 : Int)))
  (.get (inI (List.length y10) (0 : Int)) fun y11 =>
  .get (gt y10 (0 + y11)) fun y12 =>
  .ite (eqV (.arr 32 .u8) y12 ([1, 0, 0, 0, 0, 0, 0, 0, 0, 0, 0, 0, 0, 0, 0, 0, 0, 0, 0, 0, 0, 0, 0, 0, 0, 0, 0, 0, 0, 0, 0, 0] : List UInt8))
  (.sub (F_index_Index_Len n y9) fun y13 =>
  .ret (decide (y13 = (1 : Int))))
  (.ret false))
  (.ret false))))
  fun y14 =>
  .ite false
  (.ret false)
  (.sub (F_index_Index_Add n (1 : Int) ([2, 0, 0, 0, 0, 0, 0, 0, 0, 0, 0, 0, 0, 0, 0, 0, 0, 0, 0, 0, 0, 0, 0, 0, 0, 0, 0, 0, 0, 0, 0, 0] : List UInt8) ([112] : List UInt8) (8 : Int) (28 : Int) y14) fun y15 =>
  .alt y15 (fun y16 =>
  .ite (!(decide (y16 = (19 : Int))))
  (.ret false)
  (.sub (F_index_Index_Need n (1 : Int) y14 ([([1, 0, 0, 0, 0, 0, 0, 0, 0, 0, 0, 0, 0, 0, 0, 0, 0, 0, 0, 0, 0, 0, 0, 0, 0, 0, 0, 0, 0, 0, 0, 0] : List UInt8), ([2, 0, 0, 0, 0, 0, 0, 0, 0, 0, 0, 0, 0, 0, 0, 0, 0, 0, 0, 0, 0, 0, 0, 0, 0, 0, 0, 0, 0, 0, 0, 0] : List UInt8), ([1, 0, 0, 0, 0, 0, 0, 0, 0, 0, 0, 0, 0, 0, 0, 0, 0, 0, 0, 0, 0, 0, 0, 0, 0, 0, 0, 0, 0, 0, 0, 0] : List UInt8)] : List (List UInt8))) fun y17 =>
  .ite (decide ((ln y17) = (1 : Int)))
  (.get (inI (List.length y17) (0 : Int)) fun y18 =>
  .get (gt y17 (0 + y18)) fun y19 =>
  .ite (eqV (.arr 32 .u8) y19 ([1, 0, 0, 0, 0, 0, 0, 0, 0, 0, 0, 0, 0, 0, 0, 0, 0, 0, 0, 0, 0, 0, 0, 0, 0, 0, 0, 0, 0, 0, 0, 0] : List UInt8))
  (.sub (F_index_Index_Len n y14) fun y20 =>
  .ret (decide (y20 = (1 : Int))))
  (.ret false))
  (.ret false)))
  fun y21 =>
  .ite true
  (.ret false)
  (.sub (F_index_Index_Need n (1 : Int) y21 ([([1, 0, 0, 0, 0, 0, 0, 0, 0, 0, 0, 0, 0, 0, 0, 0, 0, 0, 0, 0, 0, 0, 0, 0, 0, 0, 0, 0, 0, 0, 0, 0] : List UInt8), ([2, 0, 0, 0, 0, 0, 0, 0, 0, 0, 0, 0, 0, 0, 0, 0, 0, 0, 0, 0, 0, 0, 0, 0, 0, 0, 0, 0, 0, 0, 0, 0] : List UInt8), ([1, 0, 0, 0, 0, 0, 0, 0, 0, 0, 0, 0, 0, 0, 0, 0, 0, 0, 0, 0, 0, 0, 0, 0, 0, 0, 0, 0, 0, 0, 0, 0] : List UInt8)] : List (List UInt8))) fun y22 =>
  .ite (decide ((ln y22) = (1 : Int)))
  (.get (inI (List.length y22) (0 : Int)) fun y23 =>
  .get (gt y22 (0 + y23)) fun y24 =>
  .ite (eqV (.arr 32 .u8) y24 ([1, 0, 0, 0, 0, 0, 0, 0, 0, 0, 0, 0, 0, 0, 0, 0, 0, 0, 0, 0, 0, 0, 0, 0, 0, 0, 0, 0, 0, 0, 0, 0] : List UInt8))
  (.sub (F_index_Index_Len n y21) fun y25 =>
  .ret (decide (y25 = (1 : Int))))
  (.ret false))
  (.ret false)))
def S_w20_awake (n : Nat) : Summ := mkS ⟨[], [], 0⟩ [] fun v => .sub (F_w20_awake n) fun r => .ret ((.val .bool r), [], 0)
theorem ok_w20_awake (n : Nat) : SoundF Try.prog 10 (S_w20_awake n) :=
  fn_go true true (c := codeOf Try.f10) (tab := mkTab [(8, ⟨S_index_New n, [], [], false⟩), (22, ⟨S_index_Index_Add n, [], [], false⟩), (26, ⟨S_index_Index_Need n, [], [], false⟩), (27, ⟨S_index_Index_Len n, [], [], false⟩)]) (cuts := mkCuts []) Try.func10 (by kernel_rfl) (.cons (ok_index_New n) ⟨_, Try.func8, by kernel_rfl⟩ (.cons (ok_index_Index_Add n) ⟨_, Try.func22, by kernel_rfl⟩ (.cons (ok_index_Index_Need n) ⟨_, Try.func26, by kernel_rfl⟩ (.cons (ok_index_Index_Len n) ⟨_, Try.func27, by kernel_rfl⟩ .nil)))) (.none0 (by kernel_rfl)) (fun v => by kernel_rfl)
def C_7_0 : CutF → Cut := fun κ => ⟨[0, 5, 6, 7, 8], fun e => match e with | .ex i => bif Nat.beq i 0 then [7] else [] | .rt => [] | .nm => [] | .go i => [], κ⟩
def C_56_0 : CutF → Cut := fun κ => ⟨[0, 3], fun e => match e with | .ex i => bif Nat.beq i 0 then [] else [] | .rt => [2] | .nm => [] | .go i => [], κ⟩
def F_r16_Named_l0 (n : Nat) : Nat → (List UInt8) → (Int) → Tree (Unit ⊕ Unit)
 | 0 => fun  x0 x1 => .fail
 | k + 1 => fun x0 x1 =>
  .ite (decide (x1 < (ln x0)))
  (.get (getI x0 x1) fun y2 =>
  .ite (decide ((97 : UInt8) ≤ y2))
  (.get (getI x0 x1) fun y3 =>
  .get (getI x0 x1) fun y4 =>
  .ite (decide ((48 : UInt8) ≤ y4))
  (.get (getI x0 x1) fun y5 =>
  .ite ((!(decide (y3 ≤ (122 : UInt8)))) && (!(decide (y5 ≤ (57 : UInt8)))))
  (.ret (.inl ()))
  (.sub (F_r16_Named_l0 n k x0 (w64 (x1 + (1 : Int)))) fun y6 =>
  .alt y6 (fun y7 =>
  .ret (.inl ()))
  fun y8 =>
  .ret (.inr ())))
  (.ite (!(decide (y3 ≤ (122 : UInt8))))
  (.ret (.inl ()))
  (.sub (F_r16_Named_l0 n k x0 (w64 (x1 + (1 : Int)))) fun y9 =>
  .alt y9 (fun y10 =>
  .ret (.inl ()))
  fun y11 =>
  .ret (.inr ()))))
  (.get (getI x0 x1) fun y12 =>
  .ite (decide ((48 : UInt8) ≤ y12))
  (.get (getI x0 x1) fun y13 =>
  .ite (!(decide (y13 ≤ (57 : UInt8))))
  (.ret (.inl ()))
  (.sub (F_r16_Named_l0 n k x0 (w64 (x1 + (1 : Int)))) fun y14 =>
  .alt y14 (fun y15 =>
  .ret (.inl ()))
  fun y16 =>
  .ret (.inr ())))
  (.ret (.inl ()))))
  (.ret (.inr ()))
def S_r16_Named_l0 (n k : Nat) : CutF := mkS ⟨[(.val .str []), (.val (.sint .i64) (0 : Int))], [], 0⟩ [.d .str, .d (.sint .i64)] fun v => .sub (F_r16_Named_l0 n k (p0 v) (p1 v)) fun r => .alt r (fun r => .ret (.rt, [(.val .bool false)], [], 0)) (fun r => .ret (.ex 0, [], [], 0))
theorem rd_r16_Named_l0 (n k : Nat) : Rounds Try.prog (Go.Func.ntmps Try.f56) (bodyOf Try.f56 0) C_56_0 [S_r16_Named_l0 n k] (S_r16_Named_l0 n (k + 1)) :=
  rounds_go (tab := mkTab []) (cuts := mkCuts []) (S_r16_Named_l0 n k) [] .nil (.none0 (by kernel_rfl)) rfl (fun v => by kernel_rfl)
theorem ok_r16_Named_l0 (n k : Nat) : SoundC Try.prog (Go.Func.ntmps Try.f56) (.loop (bodyOf Try.f56 0)) (wr (bodyOf Try.f56 0)) (C_56_0 (S_r16_Named_l0 n k)) :=
  loop_go (K := fun k => [S_r16_Named_l0 n k]) (fun _ => rfl) (by kernel_rfl) ⟨z_go fun _ => by kernel_rfl, trivial⟩ (fun k => ⟨rd_r16_Named_l0 n k, trivial⟩) k rfl
def F_r16_Named (n : Nat) (x0 : List UInt8) : Tree Bool :=
  .sub (F_r16_Named_l0 n n x0 (0 : Int)) fun y1 =>
  .alt y1 (fun y2 =>
  .ret false)
  fun y3 =>
  .ret ((decide ((1 : Int) ≤ (ln x0))) && (decide ((ln x0) ≤ (32 : Int))))
def S_r16_Named (n : Nat) : Summ := mkS ⟨[(.val .str [])], [], 0⟩ [.d .str] fun v => .sub (F_r16_Named n (p0 v)) fun r => .ret ((.val .bool r), [], 0)
theorem ok_r16_Named (n : Nat) : SoundF Try.prog 56 (S_r16_Named n) :=
  fn_go true true (c := codeOf Try.f56) (tab := mkTab []) (cuts := mkCuts [(0, C_56_0 (S_r16_Named_l0 n n))]) Try.func56 (by kernel_rfl) .nil (CutsOK.list (l := [(0, .lp (bodyOf Try.f56 0))]) (by kernel_rfl) (LoopsOK.all ⟨.inr ⟨_, rfl, ok_r16_Named_l0 n n⟩, trivial⟩)) (fun v => by kernel_rfl)
def F_r20_Right (n : Nat) (x0 : Int) (x1 : List UInt8) (x2 : Int) (x3 : Int) : Tree Bool :=
  .ite (decide (x0 < (1 : Int)))
  (.ret false)
  (.ite (decide ((3 : Int) < x0))
  (.ret false)
  (.sub (F_r16_Named n x1) fun y4 =>
  .ite (!y4)
  (.ret false)
  (.ite ((decide (x2 < (8 : Int))) || ((decide ((65536 : Int) < x2)) || ((decide (x3 < (28 : Int))) || (decide ((65536 : Int) < x3)))))
  (.ret false)
  (.ret (decide ((w64 (x2 + x3)) ≤ (65536 : Int)))))))
def S_r20_Right (n : Nat) : Summ := mkS ⟨[(.agg (.pr (.val (.sint .i64) (0 : Int)) (.pr (.val (.arr 32 .u8) []) (.pr (.agg (.pr (.val .str []) (.pr (.val (.sint .i64) (0 : Int)) (.pr (.val (.sint .i64) (0 : Int)) .un)))) .un))))], [], 0⟩ [.d (.sint .i64), .d (.arr 32 .u8), .d .str, .d (.sint .i64), .d (.sint .i64)] fun v => .sub (F_r20_Right n (p0 v) (p2 v) (p3 v) (p4 v)) fun r => .ret ((.val .bool r), [], 0)
theorem ok_r20_Right (n : Nat) : SoundF Try.prog 44 (S_r20_Right n) :=
  fn_go true true (c := codeOf Try.f44) (tab := mkTab [(56, ⟨S_r16_Named n, [], [], true⟩)]) (cuts := mkCuts []) Try.func44 (by kernel_rfl) (.cons (ok_r16_Named n) ⟨_, Try.func56, by kernel_rfl⟩ .nil) (.none0 (by kernel_rfl)) (fun v => by kernel_rfl)
def C_45_0 : CutF → Cut := fun κ => ⟨[1, 3, 5, 6, 8], fun e => match e with | .ex i => bif Nat.beq i 0 then [] else [] | .rt => [7] | .nm => [] | .go i => [], κ⟩
def F_r20_Index_Find_l0 (n : Nat) : Nat → (Int) → (Int) → (Bool) → (List (Int × List UInt8 × List UInt8 × Int × Int)) → (List UInt8) → (List UInt8) → (Int) → (Int) → Tree (((List UInt8) × ((Int) × Int)) ⊕ Unit)
 | 0 => fun  x0 x1 x2 x3 x4 x5 x6 x7 => .fail
 | k + 1 => fun x0 x1 x2 x3 x4 x5 x6 x7 =>
  .ite (decide (x1 < (ln x3)))
  (.get (getI x3 x1) fun y8 =>
  .ite (decide (y8.1 = x0))
  (.get (getI x3 x1) fun y9 =>
  .ite (eqV (.arr 32 .u8) y9.2.1 x4)
  (.get (getI x3 x1) fun y10 =>
  .ret (.inl (y10.2.2.1, y10.2.2.2.1, y10.2.2.2.2)))
  (.sub (F_r20_Index_Find_l0 n k x0 (w64 (x1 + (1 : Int))) x2 x3 x4 x5 x6 x7) fun y11 =>
  .alt y11 (fun y12 =>
  .ret (.inl (y12.1, y12.2.1, y12.2.2)))
  fun y13 =>
  .ret (.inr ())))
  (.sub (F_r20_Index_Find_l0 n k x0 (w64 (x1 + (1 : Int))) x2 x3 x4 x5 x6 x7) fun y14 =>
  .alt y14 (fun y15 =>
  .ret (.inl (y15.1, y15.2.1, y15.2.2)))
  fun y16 =>
  .ret (.inr ())))
  (.ret (.inr ()))
def S_r20_Index_Find_l0 (n k : Nat) : CutF := mkS ⟨[(.val (.sint .i64) (0 : Int)), (.ptr 0 0), (.ptr 2 0), (.ptr 4 0), (.val (.sint .i64) (0 : Int))], [⟨0, 1, .box (.agg (.pr (.ro false T5 []) .un))⟩, ⟨2, 3, .box (.val (.arr 32 .u8) [])⟩, ⟨4, 5, .box (.agg (.pr (.val .str []) (.pr (.val (.sint .i64) (0 : Int)) (.pr (.val (.sint .i64) (0 : Int)) .un))))⟩], 6⟩ [.d (.sint .i64), .d (.sint .i64), .c, .d T6, .d (.arr 32 .u8), .d .str, .d (.sint .i64), .d (.sint .i64)] fun v => .sub (F_r20_Index_Find_l0 n k (p0 v) (p1 v) (p2 v) (p3 v) (p4 v) (p5 v) (p6 v) (p7 v)) fun r => .alt r (fun r => .ret (.rt, [(.val .bool true)], [⟨0, 7, .box (.agg (.pr (.ro (p2 v) T5 (p3 v)) .un))⟩, ⟨2, 9, .box (.val (.arr 32 .u8) (p4 v))⟩, ⟨4, 11, .box (.agg (.pr (.val .str r.1) (.pr (.val (.sint .i64) r.2.1) (.pr (.val (.sint .i64) r.2.2) .un))))⟩], 12)) (fun r => .ret (.ex 0, [], [⟨0, 7, .box (.agg (.pr (.ro (p2 v) T5 (p3 v)) .un))⟩, ⟨2, 9, .box (.val (.arr 32 .u8) (p4 v))⟩, ⟨4, 11, .box (.agg (.pr (.val .str (p5 v)) (.pr (.val (.sint .i64) (p6 v)) (.pr (.val (.sint .i64) (p7 v)) .un))))⟩], 12))
theorem rd_r20_Index_Find_l0 (n k : Nat) : Rounds Try.prog (Go.Func.ntmps Try.f45) (bodyOf Try.f45 0) C_45_0 [S_r20_Index_Find_l0 n k] (S_r20_Index_Find_l0 n (k + 1)) :=
  rounds_go (tab := mkTab []) (cuts := mkCuts []) (S_r20_Index_Find_l0 n k) [] .nil (.none0 (by kernel_rfl)) rfl (fun v => by kernel_rfl)
theorem ok_r20_Index_Find_l0 (n k : Nat) : SoundC Try.prog (Go.Func.ntmps Try.f45) (.loop (bodyOf Try.f45 0)) (wr (bodyOf Try.f45 0)) (C_45_0 (S_r20_Index_Find_l0 n k)) :=
  loop_go (K := fun k => [S_r20_Index_Find_l0 n k]) (fun _ => rfl) (by kernel_rfl) ⟨z_go fun _ => by kernel_rfl, trivial⟩ (fun k => ⟨rd_r20_Index_Find_l0 n k, trivial⟩) k rfl
def F_r20_Index_Find (n : Nat) (x0 : Bool) (x1 : List (Int × List UInt8 × List UInt8 × Int × Int)) (x2 : Int) (x3 : List UInt8) : Tree ((List UInt8) × ((Int) × ((Int) × Bool))) :=
  .sub (F_r20_Index_Find_l0 n n x2 (0 : Int) x0 x1 x3 ([] : List UInt8) (0 : Int) (0 : Int)) fun y4 =>
  .alt y4 (fun y5 =>
  .ret (y5.1, y5.2.1, y5.2.2, true))
  fun y6 =>
  .ret (([] : List UInt8), (0 : Int), (0 : Int), false)
def S_r20_Index_Find (n : Nat) : Summ := mkS ⟨[(.agg (.pr (.ro false T5 []) .un)), (.val (.sint .i64) (0 : Int)), (.val (.arr 32 .u8) [])], [], 0⟩ [.c, .d T6, .d (.sint .i64), .d (.arr 32 .u8)] fun v => .sub (F_r20_Index_Find n (p0 v) (p1 v) (p2 v) (p3 v)) fun r => .ret ((.tup (.pr (.agg (.pr (.val .str r.1) (.pr (.val (.sint .i64) r.2.1) (.pr (.val (.sint .i64) r.2.2.1) .un)))) (.pr (.val .bool r.2.2.2) .un))), [], 0)
theorem ok_r20_Index_Find (n : Nat) : SoundF Try.prog 45 (S_r20_Index_Find n) :=
  fn_go true true (c := codeOf Try.f45) (tab := mkTab []) (cuts := mkCuts [(0, C_45_0 (S_r20_Index_Find_l0 n n))]) Try.func45 (by kernel_rfl) .nil (CutsOK.list (l := [(0, .lp (bodyOf Try.f45 0))]) (by kernel_rfl) (LoopsOK.all ⟨.inr ⟨_, rfl, ok_r20_Index_Find_l0 n n⟩, trivial⟩)) (fun v => by kernel_rfl)
def F_r20_Index_Add (n : Nat) (x0 : Bool) (x1 : List (Int × List UInt8 × List UInt8 × Int × Int)) (x2 : Int) (x3 : List UInt8) (x4 : List UInt8) (x5 : Int) (x6 : Int) : Tree ((Bool) × ((List (Int × List UInt8 × List UInt8 × Int × Int)) × Int)) :=
  .sub (F_r20_Right n x2 x4 x5 x6) fun y7 =>
  .ite (!y7)
  (.ret (x0, x1, (1 : Int)))
  (.sub (F_r20_Index_Find n x0 x1 x2 x3) fun y8 =>
  .ite y8.2.2.2
  (.ret (x0, x1, (19 : Int)))
  (.get (appI 1954687338268 ([] : List (Int × ((List UInt8) × ((List UInt8) × (Int × Int))))) x1) fun y9 =>
  .get (appI 1954687338268 y9 (List.set ([((0 : Int), ((zs 32), (([] : List UInt8), ((0 : Int), (0 : Int)))))] : List (Int × ((List UInt8) × ((List UInt8) × (Int × Int))))) 0 (x2, (x3, (x4, (x5, x6)))))) fun y10 =>
  .ret (false, y10, (0 : Int))))
def S_r20_Index_Add (n : Nat) : Summ := mkS ⟨[(.agg (.pr (.ro false T5 []) .un)), (.agg (.pr (.val (.sint .i64) (0 : Int)) (.pr (.val (.arr 32 .u8) []) (.pr (.agg (.pr (.val .str []) (.pr (.val (.sint .i64) (0 : Int)) (.pr (.val (.sint .i64) (0 : Int)) .un)))) .un))))], [], 0⟩ [.c, .d T6, .d (.sint .i64), .d (.arr 32 .u8), .d .str, .d (.sint .i64), .d (.sint .i64)] fun v => .sub (F_r20_Index_Add n (p0 v) (p1 v) (p2 v) (p3 v) (p4 v) (p5 v) (p6 v)) fun r => .ret ((.tup (.pr (.agg (.pr (.ro r.1 T5 r.2.1) .un)) (.pr (.val (.sint .i64) r.2.2) .un))), [], 0)
theorem ok_r20_Index_Add (n : Nat) : SoundF Try.prog 23 (S_r20_Index_Add n) :=
  fn_go true true (c := codeOf Try.f23) (tab := mkTab [(44, ⟨S_r20_Right n, [], [], true⟩), (45, ⟨S_r20_Index_Find n, [], [], true⟩)]) (cuts := mkCuts []) Try.func23 (by kernel_rfl) (.cons (ok_r20_Right n) ⟨_, Try.func44, by kernel_rfl⟩ (.cons (ok_r20_Index_Find n) ⟨_, Try.func45, by kernel_rfl⟩ .nil)) (.none0 (by kernel_rfl)) (fun v => by kernel_rfl)
def F_w20_both_l0_1 (n : Nat) : Nat → (Bool) → (List (Int × List UInt8 × List UInt8 × Int × Int)) → (Bool) → (Int) → (List ((Int × List UInt8) × List UInt8 × Int × Int)) → (Bool) → (List (Int × List UInt8 × List UInt8 × Int × Int)) → Tree (((Bool) × ((Bool) × (List (Int × List UInt8 × List UInt8 × Int × Int)))) ⊕ ((Bool) × ((List ((Int × List UInt8) × List UInt8 × Int × Int)) × ((Bool) × (List (Int × List UInt8 × List UInt8 × Int × Int))))))
 | 0 => fun  x0 x1 x2 x3 x4 x5 x6 => .fail
 | k + 1 => fun x0 x1 x2 x3 x4 x5 x6 =>
  .ite ((decide (x3 < (ln x1))) && (decide (x3 < (60 : Int))))
  (.get (getI x1 x3) fun y7 =>
  .get (Tree.run (F_r20_Index_Add n x5 x6 y7.1 y7.2.1 y7.2.2.1 y7.2.2.2.1 y7.2.2.2.2)) fun y8 =>
  .get (getI x1 x3) fun y9 =>
  .sub (F_index_Index_Add n y9.1 y9.2.1 y9.2.2.1 y9.2.2.2.1 y9.2.2.2.2 x4) fun y10 =>
  .alt y10 (fun y11 =>
  .sub (F_w20_both_l0_1 n k x0 x1 ((decide (y11 = y8.2.2)) && x2) (w64 (x3 + (1 : Int))) x4 y8.1 y8.2.1) fun y12 =>
  .alt y12 (fun y13 =>
  .ret (.inl (y13.1, y13.2.1, y13.2.2)))
  fun y14 =>
  .ret (.inr (y14.1, y14.2.1, y14.2.2.1, y14.2.2.2)))
  fun y15 =>
  .sub (F_w20_both_l0_1 n k x0 x1 ((decide ((0 : Int) = y8.2.2)) && x2) (w64 (x3 + (1 : Int))) y15 y8.1 y8.2.1) fun y16 =>
  .alt y16 (fun y17 =>
  .ret (.inr (y17.1, y15, y17.2.1, y17.2.2)))
  fun y18 =>
  .ret (.inr (y18.1, y18.2.1, y18.2.2.1, y18.2.2.2)))
  (.ret (.inl (x2, x5, x6)))
def S_w20_both_l0_1 (n k : Nat) : CutF := mkS ⟨[(.ro false T5 []), (.ptr 0 0), (.ptr 4 0), (.val .bool false), (.val (.sint .i64) (0 : Int))], [⟨0, 1, .box (.agg (.pr (.mpv 2) .un))⟩, ⟨2, 3, .mp T1 T2 []⟩, ⟨4, 5, .box (.agg (.pr (.ro false T5 []) .un))⟩], 6⟩ [.c, .d T6, .d .bool, .d (.sint .i64), .d T3, .c, .d T6] fun v => .sub (F_w20_both_l0_1 n k (p0 v) (p1 v) (p2 v) (p3 v) (p4 v) (p5 v) (p6 v)) fun r => .alt r (fun r => .ret (.ex 0, [(.val .bool r.1)], [⟨0, 7, .box (.agg (.pr (.mpv 2) .un))⟩, ⟨2, 3, .mp T1 T2 (p4 v)⟩, ⟨4, 11, .box (.agg (.pr (.ro r.2.1 T5 r.2.2) .un))⟩], 12)) (fun r => .ret (.ex 0, [(.val .bool r.1)], [⟨0, 7, .box (.agg (.pr (.mpv 2) .un))⟩, ⟨2, 9, .mp T1 T2 r.2.1⟩, ⟨4, 11, .box (.agg (.pr (.ro r.2.2.1 T5 r.2.2.2) .un))⟩], 12))
theorem rd_w20_both_l0_1 (n k : Nat) : Rounds Try.prog (Go.Func.ntmps Try.f7) (bodyOf Try.f7 0) C_7_0 [S_w20_both_l0_1 n k] (S_w20_both_l0_1 n (k + 1)) :=
  rounds_go (tab := mkTab [(23, ⟨S_r20_Index_Add n, [], [], true⟩), (22, ⟨S_index_Index_Add n, [], [], false⟩)]) (cuts := mkCuts []) (S_w20_both_l0_1 n k) [] (.cons (ok_r20_Index_Add n) ⟨_, Try.func23, by kernel_rfl⟩ (.cons (ok_index_Index_Add n) ⟨_, Try.func22, by kernel_rfl⟩ .nil)) (.none0 (by kernel_rfl)) rfl (fun v => by kernel_rfl)
theorem ok_w20_both_l0_1 (n k : Nat) : SoundC Try.prog (Go.Func.ntmps Try.f7) (.loop (bodyOf Try.f7 0)) (wr (bodyOf Try.f7 0)) (C_7_0 (S_w20_both_l0_1 n k)) :=
  loop_go (K := fun k => [S_w20_both_l0_1 n k]) (fun _ => rfl) (by kernel_rfl) ⟨z_go fun _ => by kernel_rfl, trivial⟩ (fun k => ⟨rd_w20_both_l0_1 n k, trivial⟩) k rfl
def F_w20_both_l0 (n : Nat) : Nat → (Bool) → (List (Int × List UInt8 × List UInt8 × Int × Int)) → (Bool) → (Int) → (List ((Int × List UInt8) × List UInt8 × Int × Int)) → (List (Int × List UInt8 × List UInt8 × Int × Int)) → Tree (((Bool) × ((Bool) × (List (Int × List UInt8 × List UInt8 × Int × Int)))) ⊕ (((Bool) × ((List ((Int × List UInt8) × List UInt8 × Int × Int)) × ((Bool) × (List (Int × List UInt8 × List UInt8 × Int × Int))))) ⊕ Unit))
 | 0 => fun  x0 x1 x2 x3 x4 x5 => .fail
 | k + 1 => fun x0 x1 x2 x3 x4 x5 =>
  .ite ((decide (x3 < (ln x1))) && (decide (x3 < (60 : Int))))
  (.get (getI x1 x3) fun y6 =>
  .get (Tree.run (F_r20_Index_Add n false x5 y6.1 y6.2.1 y6.2.2.1 y6.2.2.2.1 y6.2.2.2.2)) fun y7 =>
  .get (getI x1 x3) fun y8 =>
  .sub (F_index_Index_Add n y8.1 y8.2.1 y8.2.2.1 y8.2.2.2.1 y8.2.2.2.2 x4) fun y9 =>
  .alt y9 (fun y10 =>
  .sub (F_w20_both_l0_1 n k x0 x1 ((decide (y10 = y7.2.2)) && x2) (w64 (x3 + (1 : Int))) x4 y7.1 y7.2.1) fun y11 =>
  .alt y11 (fun y12 =>
  .ret (.inl (y12.1, y12.2.1, y12.2.2)))
  fun y13 =>
  .ret (.inr (.inl (y13.1, y13.2.1, y13.2.2.1, y13.2.2.2))))
  fun y14 =>
  .sub (F_w20_both_l0_1 n k x0 x1 ((decide ((0 : Int) = y7.2.2)) && x2) (w64 (x3 + (1 : Int))) y14 y7.1 y7.2.1) fun y15 =>
  .alt y15 (fun y16 =>
  .ret (.inr (.inl (y16.1, y14, y16.2.1, y16.2.2))))
  fun y17 =>
  .ret (.inr (.inl (y17.1, y17.2.1, y17.2.2.1, y17.2.2.2))))
  (.ret (.inr (.inr ())))
def S_w20_both_l0 (n k : Nat) : CutF := mkS ⟨[(.ro false T5 []), (.ptr 0 0), (.ptr 4 0), (.val .bool false), (.val (.sint .i64) (0 : Int))], [⟨0, 1, .box (.agg (.pr (.mpv 2) .un))⟩, ⟨2, 3, .mp T1 T2 []⟩, ⟨4, 5, .box (.agg (.pr (.whole 6 36) .un))⟩, ⟨6, 7, .row T5 []⟩], 8⟩ [.c, .d T6, .d .bool, .d (.sint .i64), .d T3, .d T6] fun v => .sub (F_w20_both_l0 n k (p0 v) (p1 v) (p2 v) (p3 v) (p4 v) (p5 v)) fun r => .alt r (fun r => .ret (.ex 0, [(.val .bool r.1)], [⟨0, 9, .box (.agg (.pr (.mpv 2) .un))⟩, ⟨2, 3, .mp T1 T2 (p4 v)⟩, ⟨4, 13, .box (.agg (.pr (.ro r.2.1 T5 r.2.2) .un))⟩], 14)) (fun r => .alt r (fun r => .ret (.ex 0, [(.val .bool r.1)], [⟨0, 9, .box (.agg (.pr (.mpv 2) .un))⟩, ⟨2, 11, .mp T1 T2 r.2.1⟩, ⟨4, 13, .box (.agg (.pr (.ro r.2.2.1 T5 r.2.2.2) .un))⟩], 14)) (fun r => .ret (.ex 0, [(.val .bool (p2 v))], [⟨0, 9, .box (.agg (.pr (.mpv 2) .un))⟩, ⟨2, 3, .mp T1 T2 (p4 v)⟩, ⟨4, 13, .box (.agg (.pr (.whole 14 36) .un))⟩, ⟨14, 15, .row T5 (p5 v)⟩], 16)))
theorem rd_w20_both_l0 (n k : Nat) : Rounds Try.prog (Go.Func.ntmps Try.f7) (bodyOf Try.f7 0) C_7_0 [S_w20_both_l0 n k, S_w20_both_l0_1 n k] (S_w20_both_l0 n (k + 1)) :=
  rounds_go (tab := mkTab [(23, ⟨S_r20_Index_Add n, [], [], true⟩), (22, ⟨S_index_Index_Add n, [], [], false⟩)]) (cuts := mkCuts []) (S_w20_both_l0 n k) [S_w20_both_l0_1 n k] (.cons (ok_r20_Index_Add n) ⟨_, Try.func23, by kernel_rfl⟩ (.cons (ok_index_Index_Add n) ⟨_, Try.func22, by kernel_rfl⟩ .nil)) (.none0 (by kernel_rfl)) rfl (fun v => by kernel_rfl)
theorem ok_w20_both_l0 (n k : Nat) : SoundC Try.prog (Go.Func.ntmps Try.f7) (.loop (bodyOf Try.f7 0)) (wr (bodyOf Try.f7 0)) (C_7_0 (S_w20_both_l0 n k)) :=
  loop_go (K := fun k => [S_w20_both_l0 n k, S_w20_both_l0_1 n k]) (fun _ => rfl) (by kernel_rfl) ⟨z_go fun _ => by kernel_rfl, z_go fun _ => by kernel_rfl, trivial⟩ (fun k => ⟨rd_w20_both_l0 n k, (rd_w20_both_l0_1 n k).mono (List.forall_mem_cons.2 ⟨(.tail _ (.head _)), (fun _ h => by cases h)⟩), trivial⟩) k rfl
def F_w20_both (n : Nat) (x0 : Bool) (x1 : List (Int × List UInt8 × List UInt8 × Int × Int)) : Tree ((Bool) × ((List (Int × List UInt8 × List UInt8 × Int × Int)) × ((Bool) × (List ((Int × List UInt8) × List UInt8 × Int × Int))))) :=
  .sub (F_index_New n) fun y2 =>
  .sub (F_w20_both_l0 n n x0 x1 true (0 : Int) ([] : List ((Int × (List UInt8)) × ((List UInt8) × (Int × Int)))) ([] : List (Int × ((List UInt8) × ((List UInt8) × (Int × Int)))))) fun y3 =>
  .alt y3 (fun y4 =>
  .ret (y4.2.1, y4.2.2, y4.1, ([] : List ((Int × (List UInt8)) × ((List UInt8) × (Int × Int))))))
  fun y5 =>
  .alt y5 (fun y6 =>
  .ret (y6.2.2.1, y6.2.2.2, y6.1, y6.2.1))
  fun y7 =>
  .ret (false, ([] : List (Int × ((List UInt8) × ((List UInt8) × (Int × Int))))), true, ([] : List ((Int × (List UInt8)) × ((List UInt8) × (Int × Int)))))
def S_w20_both (n : Nat) : Summ := mkS ⟨[(.ro false T5 [])], [], 0⟩ [.c, .d T6] fun v => .sub (F_w20_both n (p0 v) (p1 v)) fun r => .ret ((.tup (.pr (.ptr 0 0) (.pr (.agg (.pr (.ro r.1 T5 r.2.1) .un)) (.pr (.val .bool r.2.2.1) .un)))), [⟨0, 1, .box (.agg (.pr (.mpv 2) .un))⟩, ⟨2, 3, .mp T1 T2 r.2.2.2⟩], 4)
theorem ok_w20_both (n : Nat) : SoundF Try.prog 7 (S_w20_both n) :=
  fn_go true true (c := codeOf Try.f7) (tab := mkTab [(8, ⟨S_index_New n, [], [], false⟩)]) (cuts := mkCuts [(0, C_7_0 (S_w20_both_l0 n n))]) Try.func7 (by kernel_rfl) (.cons (ok_index_New n) ⟨_, Try.func8, by kernel_rfl⟩ .nil) (CutsOK.list (l := [(0, .lp (bodyOf Try.f7 0))]) (by kernel_rfl) (LoopsOK.all ⟨.inr ⟨_, rfl, ok_w20_both_l0 n n⟩, trivial⟩)) (fun v => by kernel_rfl)
def C_17_0 : CutF → Cut := fun κ => ⟨[3, 12], fun e => match e with | .ex i => bif Nat.beq i 0 then [3] else [] | .rt => [] | .nm => [] | .go i => [], κ⟩
def F_index_Index_Packs_l0 (n : Nat) : Nat → (List (List UInt8)) → (List ((Int × List UInt8) × List UInt8 × Int × Int)) → (List ((Int × List UInt8) × List UInt8 × Int × Int)) → Tree (Unit ⊕ ((List (List UInt8)) × (List ((Int × List UInt8) × List UInt8 × Int × Int))))
 | 0 => fun  x0 x1 x2 => .fail
 | k + 1 => fun x0 x1 x2 =>
  .ite (List.isEmpty x1)
  (.ret (.inl ()))
  (.all (fun (p3 : (((Int × (List UInt8)) × ((List UInt8) × (Int × Int))) × (List ((Int × (List UInt8)) × ((List UInt8) × (Int × Int)))))) => (List.Perm (p3.1 :: p3.2) x1)) fun y4 =>
  .get (appI 8796093022208 x0 (List.set ([([] : List UInt8)] : List (List UInt8)) 0 y4.1.2.1)) fun y5 =>
  .sub (F_index_Index_Packs_l0 n k y5 y4.2 x2) fun y6 =>
  .alt y6 (fun y7 =>
  .ret (.inr (y5, y4.2)))
  fun y8 =>
  .ret (.inr (y8.1, y8.2)))
def S_index_Index_Packs_l0 (n k : Nat) : CutF := mkS ⟨[(.whole 0 1), (.ptr 2 0)], [⟨0, 1, .row .str []⟩, ⟨2, 3, .it 4 5 T1 T2 []⟩, ⟨4, 5, .mp T1 T2 []⟩], 6⟩ [.d (.list .str), .d T3, .d T3] fun v => .sub (F_index_Index_Packs_l0 n k (p0 v) (p1 v) (p2 v)) fun r => .alt r (fun r => .ret (.ex 0, [(.whole 0 1)], [⟨0, 7, .row .str (p0 v)⟩, ⟨4, 5, .mp T1 T2 (p2 v)⟩, ⟨2, 11, .it 4 5 T1 T2 (p1 v)⟩], 12)) (fun r => .ret (.ex 0, [(.whole 6 1)], [⟨6, 7, .row .str r.1⟩, ⟨4, 5, .mp T1 T2 (p2 v)⟩, ⟨2, 11, .it 4 5 T1 T2 r.2⟩], 12))
theorem rd_index_Index_Packs_l0 (n k : Nat) : Rounds Try.prog (Go.Func.ntmps Try.f17) (bodyOf Try.f17 0) C_17_0 [S_index_Index_Packs_l0 n k] (S_index_Index_Packs_l0 n (k + 1)) :=
  rounds_go (tab := mkTab []) (cuts := mkCuts []) (S_index_Index_Packs_l0 n k) [] .nil (.none0 (by kernel_rfl)) rfl (fun v => by kernel_rfl)
theorem ok_index_Index_Packs_l0 (n k : Nat) : SoundC Try.prog (Go.Func.ntmps Try.f17) (.loop (bodyOf Try.f17 0)) (wr (bodyOf Try.f17 0)) (C_17_0 (S_index_Index_Packs_l0 n k)) :=
  loop_go (K := fun k => [S_index_Index_Packs_l0 n k]) (fun _ => rfl) (by kernel_rfl) ⟨z_go fun _ => by kernel_rfl, trivial⟩ (fun k => ⟨rd_index_Index_Packs_l0 n k, trivial⟩) k rfl
def F_index_Index_Packs_raw (n : Nat) (x0 : List ((Int × List UInt8) × List UInt8 × Int × Int)) : Tree (List (List UInt8)) :=
  .sub (F_index_Index_Packs_l0 n n ([] : List (List UInt8)) x0 x0) fun y1 =>
  .alt y1 (fun y2 =>
  .get (sortI ([] : List (List UInt8))) fun y3 =>
  .get (compactI y3) fun y4 =>
  .ret y4)
  fun y5 =>
  .get (sortI y5.1) fun y6 =>
  .get (compactI y6) fun y7 =>
  .ret y7
def S_index_Index_Packs_raw (n : Nat) : Summ := mkS ⟨[(.ptr 0 0)], [⟨0, 1, .box (.agg (.pr (.mpv 2) .un))⟩, ⟨2, 3, .mp T1 T2 []⟩], 4⟩ [.d T3] fun v => .sub (F_index_Index_Packs_raw n (p0 v)) fun r => .ret ((.whole 4 1), [⟨4, 5, .row .str r⟩, ⟨0, 7, .box (.agg (.pr (.mpv 2) .un))⟩, ⟨2, 9, .mp T1 T2 (p0 v)⟩], 10)
theorem ok_index_Index_Packs_raw (n : Nat) : SoundF Try.prog 17 (S_index_Index_Packs_raw n) :=
  fn_go false true (c := codeOf Try.f17) (tab := mkTab [(40, ⟨S_sortStr, [], [], false⟩), (41, ⟨S_compactStr, [], [], false⟩)]) (cuts := mkCuts [(0, C_17_0 (S_index_Index_Packs_l0 n n))]) Try.func17 (by kernel_rfl) (.consE ok_sortStrC (.consE ok_compactStrC .nil)) (CutsOK.list (l := [(0, .lp (bodyOf Try.f17 0))]) (by kernel_rfl) (LoopsOK.all ⟨.inr ⟨_, rfl, ok_index_Index_Packs_l0 n n⟩, trivial⟩)) (fun v => by kernel_rfl)
theorem det_index_Index_Packs_l (n : Nat) (z : KnM) : ∀ (k : Nat) (acc : List (List UInt8)) (rest : KnM), rest.length < k → acc.length + rest.length ≤ 1000000 → (F_index_Index_Packs_l0 n k acc rest z).Runs fun r => (match r with | .inl _ => acc | .inr q => q.1).Perm (acc ++ rest.map fun p : (Int × List UInt8) × List UInt8 × Int × Int => p.2.1)
  | 0, acc, rest, h, h2 => by omega
  | k + 1, acc, [], h, h2 => ⟨fun _ => by show acc.Perm (acc ++ []); rw [List.append_nil], fun h => by cases h⟩
  | k + 1, acc, p0 :: rest0, h, h2 => by
    refine ⟨fun h => (Bool.false_ne_true h).elim, fun _ => ?_⟩
    rintro ⟨p, rest⟩ hp
    have hp : (p :: rest).Perm (p0 :: rest0) := hp
    have hlen : rest.length = rest0.length := by have := hp.length_eq; simpa using this
    simp only [List.length_cons] at h h2
    refine ⟨acc ++ [p.2.1], sapp (by omega), ?_⟩
    refine Tree.Runs.mono (t := F_index_Index_Packs_l0 n k (acc ++ [p.2.1]) rest z) (det_index_Index_Packs_l n z k (acc ++ [p.2.1]) rest (by omega) (by simp; omega)) fun r hr => ?_
    have q : (acc ++ (p0 :: rest0).map fun p : (Int × List UInt8) × List UInt8 × Int × Int => p.2.1).Perm (acc ++ [p.2.1] ++ rest.map fun p => p.2.1) := by
      rw [List.append_assoc]
      exact ((hp.symm.map _).append_left acc)
    cases r with
    | inl y => exact hr.trans q.symm
    | inr y => exact hr.trans q.symm
theorem det_index_Index_Packs (n : Nat) (x0 : KnM) {Q : List (List UInt8) → Prop} (h : (Tree.get (D_packs n x0) fun z => .ret z).Runs Q) : (F_index_Index_Packs_raw n x0).Runs Q := by
  obtain ⟨ys, h1, h2⟩ := h
  unfold D_packs at h1
  split at h1
  · rename_i hc
    obtain ⟨s, h3, h4⟩ := bindE h1
    unfold F_index_Index_Packs_raw
    refine Tree.Runs.mono (t := F_index_Index_Packs_l0 n n [] x0 x0) (det_index_Index_Packs_l n x0 n [] x0 hc.1 (by simpa using hc.2)) fun r hr => ?_
    rw [List.nil_append] at hr
    rw [← sortI_perm hr] at h3
    cases r with
    | inl y => exact ⟨s, h3, ys, h4, h2⟩
    | inr y => exact ⟨s, h3, ys, h4, h2⟩
  · cases h1
def F_index_Index_Packs (n : Nat) (x0 : KnM) : Tree (List (List UInt8)) :=
  .get (D_packs n x0) fun z =>
  .ret z
def S_index_Index_Packs (n : Nat) : Summ := mkS ⟨[(.ptr 0 0)], [⟨0, 1, .box (.agg (.pr (.mpv 2) .un))⟩, ⟨2, 3, .mp T1 T2 []⟩], 4⟩ [.d T3] fun v => .sub (F_index_Index_Packs n (p0 v)) fun r => .ret ((.whole 4 1), [⟨4, 5, .row .str r⟩, ⟨0, 7, .box (.agg (.pr (.mpv 2) .un))⟩, ⟨2, 9, .mp T1 T2 (p0 v)⟩], 10)
theorem ok_index_Index_Packs (n : Nat) : SoundF Try.prog 17 (S_index_Index_Packs n) := S_weak (ok_index_Index_Packs_raw n) fun v Q h => det_index_Index_Packs n _ h
def C_15_0 : CutF → Cut := fun κ => ⟨[1, 5, 15], fun e => match e with | .ex i => bif Nat.beq i 0 then [] else [] | .rt => [] | .nm => [] | .go i => [], κ⟩
def C_54_0 : CutF → Cut := fun κ => ⟨[0, 1, 7, 8], fun e => match e with | .ex i => bif Nat.beq i 0 then [] else [] | .rt => [4] | .nm => [] | .go i => [], κ⟩
def F_slices_Index___string_string__l0 (n : Nat) : Nat → (List UInt8) → (Int) → (Int) → (List (List UInt8)) → Tree (Int ⊕ Unit)
 | 0 => fun  x0 x1 x2 x3 => .fail
 | k + 1 => fun x0 x1 x2 x3 =>
  .ite (decide (x2 < x1))
  (.get (inI (List.length x3) x2) fun y4 =>
  .get (gt x3 (0 + y4)) fun y5 =>
  .ite (decide (x0 = y5))
  (.ret (.inl x2))
  (.sub (F_slices_Index___string_string__l0 n k x0 x1 (w64 (x2 + (1 : Int))) x3) fun y6 =>
  .alt y6 (fun y7 =>
  .ret (.inl y7))
  fun y8 =>
  .ret (.inr ())))
  (.ret (.inr ()))
def S_slices_Index___string_string__l0 (n k : Nat) : CutF := mkS ⟨[(.whole 0 1), (.val .str []), (.val (.sint .i64) (0 : Int)), (.val (.sint .i64) (0 : Int))], [⟨0, 1, .row .str []⟩], 2⟩ [.d .str, .d (.sint .i64), .d (.sint .i64), .d (.list .str)] fun v => .sub (F_slices_Index___string_string__l0 n k (p0 v) (p1 v) (p2 v) (p3 v)) fun r => .alt r (fun r => .ret (.rt, [(.val (.sint .i64) r)], [⟨0, 3, .row .str (p3 v)⟩], 4)) (fun r => .ret (.ex 0, [], [⟨0, 3, .row .str (p3 v)⟩], 4))
theorem rd_slices_Index___string_string__l0 (n k : Nat) : Rounds Try.prog (Go.Func.ntmps Try.f54) (bodyOf Try.f54 0) C_54_0 [S_slices_Index___string_string__l0 n k] (S_slices_Index___string_string__l0 n (k + 1)) :=
  rounds_go (tab := mkTab []) (cuts := mkCuts []) (S_slices_Index___string_string__l0 n k) [] .nil (.none0 (by kernel_rfl)) rfl (fun v => by kernel_rfl)
theorem ok_slices_Index___string_string__l0 (n k : Nat) : SoundC Try.prog (Go.Func.ntmps Try.f54) (.loop (bodyOf Try.f54 0)) (wr (bodyOf Try.f54 0)) (C_54_0 (S_slices_Index___string_string__l0 n k)) :=
  loop_go (K := fun k => [S_slices_Index___string_string__l0 n k]) (fun _ => rfl) (by kernel_rfl) ⟨z_go fun _ => by kernel_rfl, trivial⟩ (fun k => ⟨rd_slices_Index___string_string__l0 n k, trivial⟩) k rfl
def F_slices_Index___string_string_ (n : Nat) (x0 : List UInt8) (x1 : List (List UInt8)) : Tree Int :=
  .sub (F_slices_Index___string_string__l0 n n x0 (ln x1) (0 : Int) x1) fun y2 =>
  .alt y2 (fun y3 =>
  .ret y3)
  fun y4 =>
  .ret (-1 : Int)
def S_slices_Index___string_string_ (n : Nat) : Summ := mkS ⟨[(.whole 0 1), (.val .str [])], [⟨0, 1, .row .str []⟩], 2⟩ [.d .str, .d (.list .str)] fun v => .sub (F_slices_Index___string_string_ n (p0 v) (p1 v)) fun r => .ret ((.val (.sint .i64) r), [⟨0, 3, .row .str (p1 v)⟩], 4)
theorem ok_slices_Index___string_string_ (n : Nat) : SoundF Try.prog 54 (S_slices_Index___string_string_ n) :=
  fn_go false true (c := codeOf Try.f54) (tab := mkTab []) (cuts := mkCuts [(0, C_54_0 (S_slices_Index___string_string__l0 n n))]) Try.func54 (by kernel_rfl) .nil (CutsOK.list (l := [(0, .lp (bodyOf Try.f54 0))]) (by kernel_rfl) (LoopsOK.all ⟨.inr ⟨_, rfl, ok_slices_Index___string_string__l0 n n⟩, trivial⟩)) (fun v => by kernel_rfl)
def F_slices_Contains___string_string_ (n : Nat) (x0 : List UInt8) (x1 : List (List UInt8)) : Tree Bool :=
  .sub (F_slices_Index___string_string_ n x0 x1) fun y2 =>
  .ret (decide ((0 : Int) ≤ y2))
def S_slices_Contains___string_string_ (n : Nat) : Summ := mkS ⟨[(.whole 0 1), (.val .str [])], [⟨0, 1, .row .str []⟩], 2⟩ [.d .str, .d (.list .str)] fun v => .sub (F_slices_Contains___string_string_ n (p0 v) (p1 v)) fun r => .ret ((.val .bool r), [⟨0, 3, .row .str (p1 v)⟩], 4)
theorem ok_slices_Contains___string_string_ (n : Nat) : SoundF Try.prog 39 (S_slices_Contains___string_string_ n) :=
  fn_go false true (c := codeOf Try.f39) (tab := mkTab [(54, ⟨S_slices_Index___string_string_ n, [], [], false⟩)]) (cuts := mkCuts []) Try.func39 (by kernel_rfl) (.cons (ok_slices_Index___string_string_ n) ⟨_, Try.func54, by kernel_rfl⟩ .nil) (.none0 (by kernel_rfl)) (fun v => by kernel_rfl)
def F_index_Index_Keep_l0 (n : Nat) : Nat → (List (List UInt8)) → (List ((Int × List UInt8) × List UInt8 × Int × Int)) → (List ((Int × List UInt8) × List UInt8 × Int × Int)) → (List ((Int × List UInt8) × List UInt8 × Int × Int)) → Tree ((List ((Int × List UInt8) × List UInt8 × Int × Int)) ⊕ ((List ((Int × List UInt8) × List UInt8 × Int × Int)) × (List ((Int × List UInt8) × List UInt8 × Int × Int))))
 | 0 => fun  x0 x1 x2 x3 => .fail
 | k + 1 => fun x0 x1 x2 x3 =>
  .ite (List.isEmpty x2)
  (.ret (.inl x2))
  (.all (fun (p4 : (((Int × (List UInt8)) × ((List UInt8) × (Int × Int))) × (List ((Int × (List UInt8)) × ((List UInt8) × (Int × Int)))))) => (List.Perm (p4.1 :: p4.2) x2)) fun y5 =>
  .sub (F_slices_Contains___string_string_ n y5.1.2.1 x0) fun y6 =>
  .ite y6
  (.sub (F_index_Index_Keep_l0 n k x0 (mput T1 T2 x1 (y5.1.1.1, y5.1.1.2) (y5.1.2.1, (y5.1.2.2.1, y5.1.2.2.2))) y5.2 x3) fun y7 =>
  .alt y7 (fun y8 =>
  .ret (.inr ((mput T1 T2 x1 (y5.1.1.1, y5.1.1.2) (y5.1.2.1, (y5.1.2.2.1, y5.1.2.2.2))), y8)))
  fun y9 =>
  .ret (.inr (y9.1, y9.2)))
  (.sub (F_index_Index_Keep_l0 n k x0 x1 y5.2 x3) fun y10 =>
  .alt y10 (fun y11 =>
  .ret (.inl y11))
  fun y12 =>
  .ret (.inr (y12.1, y12.2))))
def S_index_Index_Keep_l0 (n k : Nat) : CutF := mkS ⟨[(.whole 0 1), (.ptr 2 0), (.ptr 6 0)], [⟨0, 1, .row .str []⟩, ⟨2, 3, .box (.agg (.pr (.mpv 4) .un))⟩, ⟨4, 5, .mp T1 T2 []⟩, ⟨6, 7, .it 8 9 T1 T2 []⟩, ⟨8, 9, .mp T1 T2 []⟩], 10⟩ [.d (.list .str), .d T3, .d T3, .d T3] fun v => .sub (F_index_Index_Keep_l0 n k (p0 v) (p1 v) (p2 v) (p3 v)) fun r => .alt r (fun r => .ret (.ex 0, [], [⟨2, 11, .box (.agg (.pr (.mpv 4) .un))⟩, ⟨4, 5, .mp T1 T2 (p1 v)⟩, ⟨8, 9, .mp T1 T2 (p3 v)⟩, ⟨0, 17, .row .str (p0 v)⟩, ⟨6, 19, .it 8 9 T1 T2 r⟩], 20)) (fun r => .ret (.ex 0, [], [⟨2, 11, .box (.agg (.pr (.mpv 4) .un))⟩, ⟨4, 13, .mp T1 T2 r.1⟩, ⟨8, 9, .mp T1 T2 (p3 v)⟩, ⟨0, 17, .row .str (p0 v)⟩, ⟨6, 19, .it 8 9 T1 T2 r.2⟩], 20))
theorem rd_index_Index_Keep_l0 (n k : Nat) : Rounds Try.prog (Go.Func.ntmps Try.f15) (bodyOf Try.f15 0) C_15_0 [S_index_Index_Keep_l0 n k] (S_index_Index_Keep_l0 n (k + 1)) :=
  rounds_go (tab := mkTab [(39, ⟨S_slices_Contains___string_string_ n, [], [], false⟩)]) (cuts := mkCuts []) (S_index_Index_Keep_l0 n k) [] (.cons (ok_slices_Contains___string_string_ n) ⟨_, Try.func39, by kernel_rfl⟩ .nil) (.none0 (by kernel_rfl)) rfl (fun v => by kernel_rfl)
theorem ok_index_Index_Keep_l0 (n k : Nat) : SoundC Try.prog (Go.Func.ntmps Try.f15) (.loop (bodyOf Try.f15 0)) (wr (bodyOf Try.f15 0)) (C_15_0 (S_index_Index_Keep_l0 n k)) :=
  loop_go (K := fun k => [S_index_Index_Keep_l0 n k]) (fun _ => rfl) (by kernel_rfl) ⟨z_go fun _ => by kernel_rfl, trivial⟩ (fun k => ⟨rd_index_Index_Keep_l0 n k, trivial⟩) k rfl
def F_index_Index_Keep (n : Nat) (x0 : List ((Int × List UInt8) × List UInt8 × Int × Int)) (x1 : List (List UInt8)) : Tree (List ((Int × List UInt8) × List UInt8 × Int × Int)) :=
  .sub (F_index_New n) fun y2 =>
  .sub (F_index_Index_Keep_l0 n n x1 ([] : List ((Int × (List UInt8)) × ((List UInt8) × (Int × Int)))) x0 x0) fun y3 =>
  .alt y3 (fun y4 =>
  .ret ([] : List ((Int × (List UInt8)) × ((List UInt8) × (Int × Int)))))
  fun y5 =>
  .ret y5.1
def S_index_Index_Keep (n : Nat) : Summ := mkS ⟨[(.ptr 0 0), (.whole 4 1)], [⟨0, 1, .box (.agg (.pr (.mpv 2) .un))⟩, ⟨2, 3, .mp T1 T2 []⟩, ⟨4, 5, .row .str []⟩], 6⟩ [.d T3, .d (.list .str)] fun v => .sub (F_index_Index_Keep n (p0 v) (p1 v)) fun r => .ret ((.ptr 6 0), [⟨6, 7, .box (.agg (.pr (.mpv 8) .un))⟩, ⟨8, 9, .mp T1 T2 r⟩, ⟨0, 11, .box (.agg (.pr (.mpv 2) .un))⟩, ⟨2, 13, .mp T1 T2 (p0 v)⟩, ⟨4, 15, .row .str (p1 v)⟩], 16)
theorem ok_index_Index_Keep (n : Nat) : SoundF Try.prog 15 (S_index_Index_Keep n) :=
  fn_go false true (c := codeOf Try.f15) (tab := mkTab [(8, ⟨S_index_New n, [], [], false⟩)]) (cuts := mkCuts [(0, C_15_0 (S_index_Index_Keep_l0 n n))]) Try.func15 (by kernel_rfl) (.cons (ok_index_New n) ⟨_, Try.func8, by kernel_rfl⟩ .nil) (CutsOK.list (l := [(0, .lp (bodyOf Try.f15 0))]) (by kernel_rfl) (LoopsOK.all ⟨.inr ⟨_, rfl, ok_index_Index_Keep_l0 n n⟩, trivial⟩)) (fun v => by kernel_rfl)
def F_index_Index_Copy (n : Nat) (x0 : List ((Int × List UInt8) × List UInt8 × Int × Int)) : Tree (List ((Int × List UInt8) × List UInt8 × Int × Int)) :=
  .sub (F_index_Index_Packs n x0) fun y1 =>
  .sub (F_index_Index_Keep n x0 y1) fun y2 =>
  .ret y2
def S_index_Index_Copy (n : Nat) : Summ := mkS ⟨[(.ptr 0 0)], [⟨0, 1, .box (.agg (.pr (.mpv 2) .un))⟩, ⟨2, 3, .mp T1 T2 []⟩], 4⟩ [.d T3] fun v => .sub (F_index_Index_Copy n (p0 v)) fun r => .ret ((.ptr 4 0), [⟨4, 5, .box (.agg (.pr (.mpv 6) .un))⟩, ⟨6, 7, .mp T1 T2 r⟩, ⟨0, 9, .box (.agg (.pr (.mpv 2) .un))⟩, ⟨2, 11, .mp T1 T2 (p0 v)⟩], 12)
theorem ok_index_Index_Copy (n : Nat) : SoundF Try.prog 21 (S_index_Index_Copy n) :=
  fn_go false true (c := codeOf Try.f21) (tab := mkTab [(17, ⟨S_index_Index_Packs n, [], [], false⟩), (15, ⟨S_index_Index_Keep n, [], [], false⟩)]) (cuts := mkCuts []) Try.func21 (by kernel_rfl) (.cons (ok_index_Index_Packs n) ⟨_, Try.func17, by kernel_rfl⟩ (.cons (ok_index_Index_Keep n) ⟨_, Try.func15, by kernel_rfl⟩ .nil)) (.none0 (by kernel_rfl)) (fun v => by kernel_rfl)
def C_12_0 : CutF → Cut := fun κ => ⟨[3, 12], fun e => match e with | .ex i => bif Nat.beq i 0 then [3] else [] | .rt => [] | .nm => [] | .go i => [], κ⟩
def F_index_Index_List_l0 (n : Nat) : Nat → (List (Int × List UInt8 × List UInt8 × Int × Int)) → (List ((Int × List UInt8) × List UInt8 × Int × Int)) → (List ((Int × List UInt8) × List UInt8 × Int × Int)) → Tree (Unit ⊕ ((List (Int × List UInt8 × List UInt8 × Int × Int)) × (List ((Int × List UInt8) × List UInt8 × Int × Int))))
 | 0 => fun  x0 x1 x2 => .fail
 | k + 1 => fun x0 x1 x2 =>
  .ite (List.isEmpty x1)
  (.ret (.inl ()))
  (.all (fun (p3 : (((Int × (List UInt8)) × ((List UInt8) × (Int × Int))) × (List ((Int × (List UInt8)) × ((List UInt8) × (Int × Int)))))) => (List.Perm (p3.1 :: p3.2) x1)) fun y4 =>
  .get (appI 1954687338268 x0 (List.set ([((0 : Int), ((zs 32), (([] : List UInt8), ((0 : Int), (0 : Int)))))] : List (Int × ((List UInt8) × ((List UInt8) × (Int × Int))))) 0 (y4.1.1.1, (y4.1.1.2, (y4.1.2.1, (y4.1.2.2.1, y4.1.2.2.2)))))) fun y5 =>
  .sub (F_index_Index_List_l0 n k y5 y4.2 x2) fun y6 =>
  .alt y6 (fun y7 =>
  .ret (.inr (y5, y4.2)))
  fun y8 =>
  .ret (.inr (y8.1, y8.2)))
def S_index_Index_List_l0 (n k : Nat) : CutF := mkS ⟨[(.whole 0 36), (.ptr 2 0)], [⟨0, 1, .row T5 []⟩, ⟨2, 3, .it 4 5 T1 T2 []⟩, ⟨4, 5, .mp T1 T2 []⟩], 6⟩ [.d T6, .d T3, .d T3] fun v => .sub (F_index_Index_List_l0 n k (p0 v) (p1 v) (p2 v)) fun r => .alt r (fun r => .ret (.ex 0, [(.whole 0 36)], [⟨0, 7, .row T5 (p0 v)⟩, ⟨4, 5, .mp T1 T2 (p2 v)⟩, ⟨2, 11, .it 4 5 T1 T2 (p1 v)⟩], 12)) (fun r => .ret (.ex 0, [(.whole 6 36)], [⟨6, 7, .row T5 r.1⟩, ⟨4, 5, .mp T1 T2 (p2 v)⟩, ⟨2, 11, .it 4 5 T1 T2 r.2⟩], 12))
theorem rd_index_Index_List_l0 (n k : Nat) : Rounds Try.prog (Go.Func.ntmps Try.f12) (bodyOf Try.f12 0) C_12_0 [S_index_Index_List_l0 n k] (S_index_Index_List_l0 n (k + 1)) :=
  rounds_go (tab := mkTab []) (cuts := mkCuts []) (S_index_Index_List_l0 n k) [] .nil (.none0 (by kernel_rfl)) rfl (fun v => by kernel_rfl)
theorem ok_index_Index_List_l0 (n k : Nat) : SoundC Try.prog (Go.Func.ntmps Try.f12) (.loop (bodyOf Try.f12 0)) (wr (bodyOf Try.f12 0)) (C_12_0 (S_index_Index_List_l0 n k)) :=
  loop_go (K := fun k => [S_index_Index_List_l0 n k]) (fun _ => rfl) (by kernel_rfl) ⟨z_go fun _ => by kernel_rfl, trivial⟩ (fun k => ⟨rd_index_Index_List_l0 n k, trivial⟩) k rfl
def F_index_Index_List_raw (n : Nat) (x0 : List ((Int × List UInt8) × List UInt8 × Int × Int)) : Tree (List (Int × List UInt8 × List UInt8 × Int × Int)) :=
  .sub (F_index_Index_List_l0 n n ([] : List (Int × ((List UInt8) × ((List UInt8) × (Int × Int))))) x0 x0) fun y1 =>
  .alt y1 (fun y2 =>
  .get (sortF goodK ordK ([] : List (Int × ((List UInt8) × ((List UInt8) × (Int × Int)))))) fun y3 =>
  .ret y3)
  fun y4 =>
  .get (sortF goodK ordK y4.1) fun y5 =>
  .ret y5
def S_index_Index_List_raw (n : Nat) : Summ := mkS ⟨[(.ptr 0 0)], [⟨0, 1, .box (.agg (.pr (.mpv 2) .un))⟩, ⟨2, 3, .mp T1 T2 []⟩], 4⟩ [.d T3] fun v => .sub (F_index_Index_List_raw n (p0 v)) fun r => .ret ((.whole 4 36), [⟨4, 5, .row T5 r⟩, ⟨0, 7, .box (.agg (.pr (.mpv 2) .un))⟩, ⟨2, 9, .mp T1 T2 (p0 v)⟩], 10)
theorem ok_index_Index_List_raw (n : Nat) : SoundF Try.prog 12 (S_index_Index_List_raw n) :=
  fn_go false true (c := codeOf Try.f12) (tab := mkTab [(28, ⟨S_sortKn, [], [], false⟩)]) (cuts := mkCuts [(0, C_12_0 (S_index_Index_List_l0 n n))]) Try.func12 (by kernel_rfl) (.consE ok_sortKnC .nil) (CutsOK.list (l := [(0, .lp (bodyOf Try.f12 0))]) (by kernel_rfl) (LoopsOK.all ⟨.inr ⟨_, rfl, ok_index_Index_List_l0 n n⟩, trivial⟩)) (fun v => by kernel_rfl)
theorem det_index_Index_List_l (n : Nat) (z : KnM) : ∀ (k : Nat) (acc : List KnD) (rest : KnM), rest.length < k → acc.length + rest.length ≤ 1000000 → (F_index_Index_List_l0 n k acc rest z).Runs fun r => (match r with | .inl _ => acc | .inr q => q.1).Perm (acc ++ rest.map kflat)
  | 0, acc, rest, h, h2 => by omega
  | k + 1, acc, [], h, h2 => ⟨fun _ => by show acc.Perm (acc ++ []); rw [List.append_nil], fun h => by cases h⟩
  | k + 1, acc, p0 :: rest0, h, h2 => by
    refine ⟨fun h => (Bool.false_ne_true h).elim, fun _ => ?_⟩
    rintro ⟨p, rest⟩ hp
    have hp : (p :: rest).Perm (p0 :: rest0) := hp
    have hlen : rest.length = rest0.length := by have := hp.length_eq; simpa using this
    simp only [List.length_cons] at h h2
    refine ⟨acc ++ [kflat p], kapp (by omega), ?_⟩
    refine Tree.Runs.mono (t := F_index_Index_List_l0 n k (acc ++ [kflat p]) rest z) (det_index_Index_List_l n z k (acc ++ [kflat p]) rest (by omega) (by simp; omega)) fun r hr => ?_
    have q : (acc ++ (p0 :: rest0).map kflat).Perm (acc ++ [kflat p] ++ rest.map kflat) := by
      rw [List.append_assoc]
      exact ((hp.symm.map kflat).append_left acc)
    cases r with
    | inl y => exact hr.trans q.symm
    | inr y => exact hr.trans q.symm
theorem det_index_Index_List (n : Nat) (x0 : KnM) {Q : List KnD → Prop} (h : (Tree.get (D_list n x0) fun z => .ret z).Runs Q) : (F_index_Index_List_raw n x0).Runs Q := by
  obtain ⟨ys, h1, h2⟩ := h
  unfold D_list at h1
  split at h1
  · rename_i hc
    unfold F_index_Index_List_raw
    refine Tree.Runs.mono (t := F_index_Index_List_l0 n n [] x0 x0) (det_index_Index_List_l n x0 n [] x0 hc.1 (by simpa using hc.2)) fun r hr => ?_
    rw [List.nil_append] at hr
    cases r with
    | inl y => exact ⟨ys, sortF_perm hr.symm h1, h2⟩
    | inr y => exact ⟨ys, sortF_perm hr.symm h1, h2⟩
  · cases h1
def F_index_Index_List (n : Nat) (x0 : KnM) : Tree (List KnD) :=
  .get (D_list n x0) fun z =>
  .ret z
def S_index_Index_List (n : Nat) : Summ := mkS ⟨[(.ptr 0 0)], [⟨0, 1, .box (.agg (.pr (.mpv 2) .un))⟩, ⟨2, 3, .mp T1 T2 []⟩], 4⟩ [.d T3] fun v => .sub (F_index_Index_List n (p0 v)) fun r => .ret ((.whole 4 36), [⟨4, 5, .row T5 r⟩, ⟨0, 7, .box (.agg (.pr (.mpv 2) .un))⟩, ⟨2, 9, .mp T1 T2 (p0 v)⟩], 10)
theorem ok_index_Index_List (n : Nat) : SoundF Try.prog 12 (S_index_Index_List n) := S_weak (ok_index_Index_List_raw n) fun v Q h => det_index_Index_List n _ h
def C_20_0 : CutF → Cut := fun κ => ⟨[1, 3, 4], fun e => match e with | .ex i => bif Nat.beq i 0 then [3] else [] | .rt => [] | .nm => [] | .go i => [], κ⟩
def C_20_2 : CutF → Cut := fun κ => ⟨[1, 3, 4, 5], fun e => match e with | .ex i => bif Nat.beq i 2 then [5] else bif Nat.beq i 1 then [] else bif Nat.beq i 0 then [] else [] | .rt => [] | .nm => [] | .go i => [], κ⟩
def C_43_0 : CutF → Cut := fun κ => ⟨[2, 3, 5], fun e => match e with | .ex i => bif Nat.beq i 0 then [] else [] | .rt => [4] | .nm => [] | .go i => [], κ⟩
def F_r20_Before_l0 (n : Nat) : Nat → (Int) → (Int) → (List UInt8) → (List UInt8) → (Int) → (Int) → (Int) → (List UInt8) → (List UInt8) → (Int) → (Int) → Tree (Bool ⊕ Unit)
 | 0 => fun  x0 x1 x2 x3 x4 x5 x6 x7 x8 x9 x10 => .fail
 | k + 1 => fun x0 x1 x2 x3 x4 x5 x6 x7 x8 x9 x10 =>
  .ite (decide (x0 < (32 : Int)))
  (.get (inI 32 x0) fun y11 =>
  .get (gt x2 y11) fun y12 =>
  .get (inI 32 x0) fun y13 =>
  .get (gt x7 y13) fun y14 =>
  .ite (!(decide (y12 = y14)))
  (.get (inI 32 x0) fun y15 =>
  .get (gt x2 y15) fun y16 =>
  .get (inI 32 x0) fun y17 =>
  .get (gt x7 y17) fun y18 =>
  .ret (.inl (decide (y16 < y18))))
  (.sub (F_r20_Before_l0 n k (w64 (x0 + (1 : Int))) x1 x2 x3 x4 x5 x6 x7 x8 x9 x10) fun y19 =>
  .alt y19 (fun y20 =>
  .ret (.inl y20))
  fun y21 =>
  .ret (.inr ())))
  (.ret (.inr ()))
def S_r20_Before_l0 (n k : Nat) : CutF := mkS ⟨[(.ptr 0 0), (.ptr 2 0), (.val (.sint .i64) (0 : Int))], [⟨0, 1, .box (.agg (.pr (.val (.sint .i64) (0 : Int)) (.pr (.val (.arr 32 .u8) []) (.pr (.agg (.pr (.val .str []) (.pr (.val (.sint .i64) (0 : Int)) (.pr (.val (.sint .i64) (0 : Int)) .un)))) .un))))⟩, ⟨2, 3, .box (.agg (.pr (.val (.sint .i64) (0 : Int)) (.pr (.val (.arr 32 .u8) []) (.pr (.agg (.pr (.val .str []) (.pr (.val (.sint .i64) (0 : Int)) (.pr (.val (.sint .i64) (0 : Int)) .un)))) .un))))⟩], 4⟩ [.d (.sint .i64), .d (.sint .i64), .d (.arr 32 .u8), .d .str, .d (.sint .i64), .d (.sint .i64), .d (.sint .i64), .d (.arr 32 .u8), .d .str, .d (.sint .i64), .d (.sint .i64)] fun v => .sub (F_r20_Before_l0 n k (p0 v) (p1 v) (p2 v) (p3 v) (p4 v) (p5 v) (p6 v) (p7 v) (p8 v) (p9 v) (p10 v)) fun r => .alt r (fun r => .ret (.rt, [(.val .bool r)], [⟨0, 5, .box (.agg (.pr (.val (.sint .i64) (p1 v)) (.pr (.val (.arr 32 .u8) (p2 v)) (.pr (.agg (.pr (.val .str (p3 v)) (.pr (.val (.sint .i64) (p4 v)) (.pr (.val (.sint .i64) (p5 v)) .un)))) .un))))⟩, ⟨2, 7, .box (.agg (.pr (.val (.sint .i64) (p6 v)) (.pr (.val (.arr 32 .u8) (p7 v)) (.pr (.agg (.pr (.val .str (p8 v)) (.pr (.val (.sint .i64) (p9 v)) (.pr (.val (.sint .i64) (p10 v)) .un)))) .un))))⟩], 8)) (fun r => .ret (.ex 0, [], [⟨0, 5, .box (.agg (.pr (.val (.sint .i64) (p1 v)) (.pr (.val (.arr 32 .u8) (p2 v)) (.pr (.agg (.pr (.val .str (p3 v)) (.pr (.val (.sint .i64) (p4 v)) (.pr (.val (.sint .i64) (p5 v)) .un)))) .un))))⟩, ⟨2, 7, .box (.agg (.pr (.val (.sint .i64) (p6 v)) (.pr (.val (.arr 32 .u8) (p7 v)) (.pr (.agg (.pr (.val .str (p8 v)) (.pr (.val (.sint .i64) (p9 v)) (.pr (.val (.sint .i64) (p10 v)) .un)))) .un))))⟩], 8))
theorem rd_r20_Before_l0 (n k : Nat) : Rounds Try.prog (Go.Func.ntmps Try.f43) (bodyOf Try.f43 0) C_43_0 [S_r20_Before_l0 n k] (S_r20_Before_l0 n (k + 1)) :=
  rounds_go (tab := mkTab []) (cuts := mkCuts []) (S_r20_Before_l0 n k) [] .nil (.none0 (by kernel_rfl)) rfl (fun v => by kernel_rfl)
theorem ok_r20_Before_l0 (n k : Nat) : SoundC Try.prog (Go.Func.ntmps Try.f43) (.loop (bodyOf Try.f43 0)) (wr (bodyOf Try.f43 0)) (C_43_0 (S_r20_Before_l0 n k)) :=
  loop_go (K := fun k => [S_r20_Before_l0 n k]) (fun _ => rfl) (by kernel_rfl) ⟨z_go fun _ => by kernel_rfl, trivial⟩ (fun k => ⟨rd_r20_Before_l0 n k, trivial⟩) k rfl
def F_r20_Before (n : Nat) (x0 : Int) (x1 : List UInt8) (x2 : List UInt8) (x3 : Int) (x4 : Int) (x5 : Int) (x6 : List UInt8) (x7 : List UInt8) (x8 : Int) (x9 : Int) : Tree Bool :=
  .ite (!(decide (x0 = x5)))
  (.ret (decide (x0 < x5)))
  (.sub (F_r20_Before_l0 n n (0 : Int) x0 x1 x2 x3 x4 x5 x6 x7 x8 x9) fun y10 =>
  .alt y10 (fun y11 =>
  .ret y11)
  fun y12 =>
  .ret false)
def S_r20_Before (n : Nat) : Summ := mkS ⟨[(.agg (.pr (.val (.sint .i64) (0 : Int)) (.pr (.val (.arr 32 .u8) []) (.pr (.agg (.pr (.val .str []) (.pr (.val (.sint .i64) (0 : Int)) (.pr (.val (.sint .i64) (0 : Int)) .un)))) .un)))), (.agg (.pr (.val (.sint .i64) (0 : Int)) (.pr (.val (.arr 32 .u8) []) (.pr (.agg (.pr (.val .str []) (.pr (.val (.sint .i64) (0 : Int)) (.pr (.val (.sint .i64) (0 : Int)) .un)))) .un))))], [], 0⟩ [.d (.sint .i64), .d (.arr 32 .u8), .d .str, .d (.sint .i64), .d (.sint .i64), .d (.sint .i64), .d (.arr 32 .u8), .d .str, .d (.sint .i64), .d (.sint .i64)] fun v => .sub (F_r20_Before n (p0 v) (p1 v) (p2 v) (p3 v) (p4 v) (p5 v) (p6 v) (p7 v) (p8 v) (p9 v)) fun r => .ret ((.val .bool r), [], 0)
theorem ok_r20_Before (n : Nat) : SoundF Try.prog 43 (S_r20_Before n) :=
  fn_go true true (c := codeOf Try.f43) (tab := mkTab []) (cuts := mkCuts [(0, C_43_0 (S_r20_Before_l0 n n))]) Try.func43 (by kernel_rfl) .nil (CutsOK.list (l := [(0, .lp (bodyOf Try.f43 0))]) (by kernel_rfl) (LoopsOK.all ⟨.inr ⟨_, rfl, ok_r20_Before_l0 n n⟩, trivial⟩)) (fun v => by kernel_rfl)
def F_r20_Index_List_l2 (n : Nat) : Nat → (Int) → (Int) → (Bool) → (List (Int × List UInt8 × List UInt8 × Int × Int)) → (List (Int × List UInt8 × List UInt8 × Int × Int)) → Tree Int
 | 0 => fun  x0 x1 x2 x3 x4 => .fail
 | k + 1 => fun x0 x1 x2 x3 x4 =>
  .ite (decide (x1 < (ln x4)))
  (.get (inI (List.length x4) x1) fun y5 =>
  .get (gt x4 (0 + y5)) fun y6 =>
  .get (getI x3 x0) fun y7 =>
  .get (Tree.run (F_r20_Before n y6.1 y6.2.1 y6.2.2.1 y6.2.2.2.1 y6.2.2.2.2 y7.1 y7.2.1 y7.2.2.1 y7.2.2.2.1 y7.2.2.2.2)) fun y8 =>
  .ite y8
  (.sub (F_r20_Index_List_l2 n k x0 (w64 (x1 + (1 : Int))) x2 x3 x4) fun y9 =>
  .ret y9)
  (.ret x1))
  (.ret x1)
def S_r20_Index_List_l2 (n k : Nat) : CutF := mkS ⟨[(.ptr 0 0), (.whole 2 36), (.val (.sint .i64) (0 : Int)), (.val (.sint .i64) (0 : Int))], [⟨0, 1, .box (.agg (.pr (.ro false T5 []) .un))⟩, ⟨2, 3, .row T5 []⟩], 4⟩ [.d (.sint .i64), .d (.sint .i64), .c, .d T6, .d T6] fun v => .sub (F_r20_Index_List_l2 n k (p0 v) (p1 v) (p2 v) (p3 v) (p4 v)) fun r => .ret (.ex 2, [(.val (.sint .i64) r)], [⟨0, 5, .box (.agg (.pr (.ro (p2 v) T5 (p3 v)) .un))⟩, ⟨2, 7, .row T5 (p4 v)⟩], 8)
theorem rd_r20_Index_List_l2 (n k : Nat) : Rounds Try.prog (Go.Func.ntmps Try.f20) (bodyOf Try.f20 2) C_20_2 [S_r20_Index_List_l2 n k] (S_r20_Index_List_l2 n (k + 1)) :=
  rounds_go (tab := mkTab [(43, ⟨S_r20_Before n, [], [], true⟩)]) (cuts := mkCuts []) (S_r20_Index_List_l2 n k) [] (.cons (ok_r20_Before n) ⟨_, Try.func43, by kernel_rfl⟩ .nil) (.none0 (by kernel_rfl)) rfl (fun v => by kernel_rfl)
theorem ok_r20_Index_List_l2 (n k : Nat) : SoundC Try.prog (Go.Func.ntmps Try.f20) (.loop (bodyOf Try.f20 2)) (wr (bodyOf Try.f20 2)) (C_20_2 (S_r20_Index_List_l2 n k)) :=
  loop_go (K := fun k => [S_r20_Index_List_l2 n k]) (fun _ => rfl) (by kernel_rfl) ⟨z_go fun _ => by kernel_rfl, trivial⟩ (fun k => ⟨rd_r20_Index_List_l2 n k, trivial⟩) k rfl
def F_r20_Index_List_l0 (n : Nat) : Nat → (Int) → (Bool) → (List (Int × List UInt8 × List UInt8 × Int × Int)) → (List (Int × List UInt8 × List UInt8 × Int × Int)) → Tree (Unit ⊕ (List (Int × List UInt8 × List UInt8 × Int × Int)))
 | 0 => fun  x0 x1 x2 x3 => .fail
 | k + 1 => fun x0 x1 x2 x3 =>
  .ite (decide (x0 < (ln x2)))
  (.sub (F_r20_Index_List_l2 n n x0 (0 : Int) x1 x2 x3) fun y4 =>
  .get (ite (And ((0 : Int) ≤ (0 : Int)) (And ((0 : Int) ≤ y4) (y4 ≤ (ln x3)))) (Option.some Unit.unit) Option.none) fun y5 =>
  .get (appI 1954687338268 ([] : List (Int × ((List UInt8) × ((List UInt8) × (Int × Int))))) (List.take ((Int.toNat y4) - 0) (List.drop 0 x3))) fun y6 =>
  .get (getI x2 x0) fun y7 =>
  .get (appI 1954687338268 y6 (List.set ([((0 : Int), ((zs 32), (([] : List UInt8), ((0 : Int), (0 : Int)))))] : List (Int × ((List UInt8) × ((List UInt8) × (Int × Int))))) 0 (y7.1, (y7.2.1, (y7.2.2.1, (y7.2.2.2.1, y7.2.2.2.2)))))) fun y8 =>
  .get (ite (And ((0 : Int) ≤ y4) (And (y4 ≤ (ln x3)) ((ln x3) ≤ (ln x3)))) (Option.some Unit.unit) Option.none) fun y9 =>
  .get (appI 1954687338268 y8 (List.take ((Int.toNat (ln x3)) - (Int.toNat y4)) (List.drop (0 + (Int.toNat y4)) x3))) fun y10 =>
  .sub (F_r20_Index_List_l0 n k (w64 (x0 + (1 : Int))) x1 x2 y10) fun y11 =>
  .alt y11 (fun y12 =>
  .ret (.inr y10))
  fun y13 =>
  .ret (.inr y13))
  (.ret (.inl ()))
def S_r20_Index_List_l0 (n k : Nat) : CutF := mkS ⟨[(.ptr 0 0), (.whole 2 36), (.val (.sint .i64) (0 : Int))], [⟨0, 1, .box (.agg (.pr (.ro false T5 []) .un))⟩, ⟨2, 3, .row T5 []⟩], 4⟩ [.d (.sint .i64), .c, .d T6, .d T6] fun v => .sub (F_r20_Index_List_l0 n k (p0 v) (p1 v) (p2 v) (p3 v)) fun r => .alt r (fun r => .ret (.ex 0, [(.whole 2 36)], [⟨2, 5, .row T5 (p3 v)⟩, ⟨0, 7, .box (.agg (.pr (.ro (p1 v) T5 (p2 v)) .un))⟩], 8)) (fun r => .ret (.ex 0, [(.whole 4 36)], [⟨4, 5, .row T5 r⟩, ⟨0, 7, .box (.agg (.pr (.ro (p1 v) T5 (p2 v)) .un))⟩, ⟨2, 9, .row T5 (p3 v)⟩], 10))
theorem rd_r20_Index_List_l0 (n k : Nat) : Rounds Try.prog (Go.Func.ntmps Try.f20) (bodyOf Try.f20 0) C_20_0 [S_r20_Index_List_l0 n k] (S_r20_Index_List_l0 n (k + 1)) :=
  rounds_go (tab := mkTab []) (cuts := mkCuts [(2, C_20_2 (S_r20_Index_List_l2 n n))]) (S_r20_Index_List_l0 n k) [] .nil (CutsOK.list (l := [(2, .lp (bodyOf Try.f20 2))]) (by kernel_rfl) (LoopsOK.all ⟨.inr ⟨_, rfl, ok_r20_Index_List_l2 n n⟩, trivial⟩)) rfl (fun v => by kernel_rfl)
theorem ok_r20_Index_List_l0 (n k : Nat) : SoundC Try.prog (Go.Func.ntmps Try.f20) (.loop (bodyOf Try.f20 0)) (wr (bodyOf Try.f20 0)) (C_20_0 (S_r20_Index_List_l0 n k)) :=
  loop_go (K := fun k => [S_r20_Index_List_l0 n k]) (fun _ => rfl) (by kernel_rfl) ⟨z_go fun _ => by kernel_rfl, trivial⟩ (fun k => ⟨rd_r20_Index_List_l0 n k, trivial⟩) k rfl
def F_r20_Index_List (n : Nat) (x0 : Bool) (x1 : List (Int × List UInt8 × List UInt8 × Int × Int)) : Tree (List (Int × List UInt8 × List UInt8 × Int × Int)) :=
  .sub (F_r20_Index_List_l0 n n (0 : Int) x0 x1 ([] : List (Int × ((List UInt8) × ((List UInt8) × (Int × Int)))))) fun y2 =>
  .alt y2 (fun y3 =>
  .ret ([] : List (Int × ((List UInt8) × ((List UInt8) × (Int × Int))))))
  fun y4 =>
  .ret y4
def S_r20_Index_List (n : Nat) : Summ := mkS ⟨[(.agg (.pr (.ro false T5 []) .un))], [], 0⟩ [.c, .d T6] fun v => .sub (F_r20_Index_List n (p0 v) (p1 v)) fun r => .ret ((.whole 0 36), [⟨0, 1, .row T5 r⟩], 2)
theorem ok_r20_Index_List (n : Nat) : SoundF Try.prog 20 (S_r20_Index_List n) :=
  fn_go false true (c := codeOf Try.f20) (tab := mkTab []) (cuts := mkCuts [(0, C_20_0 (S_r20_Index_List_l0 n n))]) Try.func20 (by kernel_rfl) .nil (CutsOK.list (l := [(0, .lp (bodyOf Try.f20 0))]) (by kernel_rfl) (LoopsOK.all ⟨.inr ⟨_, rfl, ok_r20_Index_List_l0 n n⟩, trivial⟩)) (fun v => by kernel_rfl)
def C_11_0 : CutF → Cut := fun κ => ⟨[0, 1, 5], fun e => match e with | .ex i => bif Nat.beq i 0 then [] else [] | .rt => [4] | .nm => [] | .go i => [], κ⟩
def F_r20_Same_l0 (n : Nat) : Nat → (Int) → (List (Int × List UInt8 × List UInt8 × Int × Int)) → (List (Int × List UInt8 × List UInt8 × Int × Int)) → Tree (Unit ⊕ Unit)
 | 0 => fun  x0 x1 x2 => .fail
 | k + 1 => fun x0 x1 x2 =>
  .ite (decide (x0 < (ln x1)))
  (.get (inI (List.length x1) x0) fun y3 =>
  .get (gt x1 (0 + y3)) fun y4 =>
  .get (inI (List.length x2) x0) fun y5 =>
  .get (gt x2 (0 + y5)) fun y6 =>
  .ite (!(eqV T5 (y4.1, (y4.2.1, (y4.2.2.1, (y4.2.2.2.1, y4.2.2.2.2)))) (y6.1, (y6.2.1, (y6.2.2.1, (y6.2.2.2.1, y6.2.2.2.2))))))
  (.ret (.inl ()))
  (.sub (F_r20_Same_l0 n k (w64 (x0 + (1 : Int))) x1 x2) fun y7 =>
  .alt y7 (fun y8 =>
  .ret (.inl ()))
  fun y9 =>
  .ret (.inr ())))
  (.ret (.inr ()))
def S_r20_Same_l0 (n k : Nat) : CutF := mkS ⟨[(.whole 0 36), (.whole 2 36), (.val (.sint .i64) (0 : Int))], [⟨0, 1, .row T5 []⟩, ⟨2, 3, .row T5 []⟩], 4⟩ [.d (.sint .i64), .d T6, .d T6] fun v => .sub (F_r20_Same_l0 n k (p0 v) (p1 v) (p2 v)) fun r => .alt r (fun r => .ret (.rt, [(.val .bool false)], [⟨0, 5, .row T5 (p1 v)⟩, ⟨2, 7, .row T5 (p2 v)⟩], 8)) (fun r => .ret (.ex 0, [], [⟨0, 5, .row T5 (p1 v)⟩, ⟨2, 7, .row T5 (p2 v)⟩], 8))
theorem rd_r20_Same_l0 (n k : Nat) : Rounds Try.prog (Go.Func.ntmps Try.f11) (bodyOf Try.f11 0) C_11_0 [S_r20_Same_l0 n k] (S_r20_Same_l0 n (k + 1)) :=
  rounds_go (tab := mkTab []) (cuts := mkCuts []) (S_r20_Same_l0 n k) [] .nil (.none0 (by kernel_rfl)) rfl (fun v => by kernel_rfl)
theorem ok_r20_Same_l0 (n k : Nat) : SoundC Try.prog (Go.Func.ntmps Try.f11) (.loop (bodyOf Try.f11 0)) (wr (bodyOf Try.f11 0)) (C_11_0 (S_r20_Same_l0 n k)) :=
  loop_go (K := fun k => [S_r20_Same_l0 n k]) (fun _ => rfl) (by kernel_rfl) ⟨z_go fun _ => by kernel_rfl, trivial⟩ (fun k => ⟨rd_r20_Same_l0 n k, trivial⟩) k rfl
def F_r20_Same (n : Nat) (x0 : List (Int × List UInt8 × List UInt8 × Int × Int)) (x1 : List (Int × List UInt8 × List UInt8 × Int × Int)) : Tree Bool :=
  .ite (!(decide ((ln x0) = (ln x1))))
  (.ret false)
  (.sub (F_r20_Same_l0 n n (0 : Int) x0 x1) fun y2 =>
  .alt y2 (fun y3 =>
  .ret false)
  fun y4 =>
  .ret true)
def S_r20_Same (n : Nat) : Summ := mkS ⟨[(.whole 0 36), (.whole 2 36)], [⟨0, 1, .row T5 []⟩, ⟨2, 3, .row T5 []⟩], 4⟩ [.d T6, .d T6] fun v => .sub (F_r20_Same n (p0 v) (p1 v)) fun r => .ret ((.val .bool r), [⟨0, 5, .row T5 (p0 v)⟩, ⟨2, 7, .row T5 (p1 v)⟩], 8)
theorem ok_r20_Same (n : Nat) : SoundF Try.prog 11 (S_r20_Same n) :=
  fn_go true true (c := codeOf Try.f11) (tab := mkTab []) (cuts := mkCuts [(0, C_11_0 (S_r20_Same_l0 n n))]) Try.func11 (by kernel_rfl) .nil (CutsOK.list (l := [(0, .lp (bodyOf Try.f11 0))]) (by kernel_rfl) (LoopsOK.all ⟨.inr ⟨_, rfl, ok_r20_Same_l0 n n⟩, trivial⟩)) (fun v => by kernel_rfl)
def C_24_0 : CutF → Cut := fun κ => ⟨[0, 5, 8, 9, 10], fun e => match e with | .ex i => bif Nat.beq i 0 then [5] else [] | .rt => [] | .nm => [] | .go i => [], κ⟩
def F_index_Of_l0 (n : Nat) : Nat → (List UInt8) → (Bool) → (List (Int × List UInt8 × Int × Int)) → (Int) → (Int) → (List (Int × List UInt8 × List UInt8 × Int × Int)) → Tree (Unit ⊕ (List (Int × List UInt8 × List UInt8 × Int × Int)))
 | 0 => fun  x0 x1 x2 x3 x4 x5 => .fail
 | k + 1 => fun x0 x1 x2 x3 x4 x5 =>
  .ite (decide (x4 < x3))
  (.get (getI x2 x4) fun y6 =>
  .get (appI 1954687338268 x5 (List.set ([((0 : Int), ((zs 32), (([] : List UInt8), ((0 : Int), (0 : Int)))))] : List (Int × ((List UInt8) × ((List UInt8) × (Int × Int))))) 0 (y6.1, (y6.2.1, (x0, (y6.2.2.1, y6.2.2.2)))))) fun y7 =>
  .sub (F_index_Of_l0 n k x0 x1 x2 x3 (w64 (x4 + (1 : Int))) y7) fun y8 =>
  .alt y8 (fun y9 =>
  .ret (.inr y7))
  fun y10 =>
  .ret (.inr y10))
  (.ret (.inl ()))
def S_index_Of_l0 (n k : Nat) : CutF := mkS ⟨[(.val .str []), (.whole 0 36), (.ro false T7 []), (.val (.sint .i64) (0 : Int)), (.val (.sint .i64) (0 : Int))], [⟨0, 1, .row T5 []⟩], 2⟩ [.d .str, .c, .d T8, .d (.sint .i64), .d (.sint .i64), .d T6] fun v => .sub (F_index_Of_l0 n k (p0 v) (p1 v) (p2 v) (p3 v) (p4 v) (p5 v)) fun r => .alt r (fun r => .ret (.ex 0, [(.whole 0 36)], [⟨0, 3, .row T5 (p5 v)⟩], 4)) (fun r => .ret (.ex 0, [(.whole 2 36)], [⟨2, 3, .row T5 r⟩], 4))
theorem rd_index_Of_l0 (n k : Nat) : Rounds Try.prog (Go.Func.ntmps Try.f24) (bodyOf Try.f24 0) C_24_0 [S_index_Of_l0 n k] (S_index_Of_l0 n (k + 1)) :=
  rounds_go (tab := mkTab []) (cuts := mkCuts []) (S_index_Of_l0 n k) [] .nil (.none0 (by kernel_rfl)) rfl (fun v => by kernel_rfl)
theorem ok_index_Of_l0 (n k : Nat) : SoundC Try.prog (Go.Func.ntmps Try.f24) (.loop (bodyOf Try.f24 0)) (wr (bodyOf Try.f24 0)) (C_24_0 (S_index_Of_l0 n k)) :=
  loop_go (K := fun k => [S_index_Of_l0 n k]) (fun _ => rfl) (by kernel_rfl) ⟨z_go fun _ => by kernel_rfl, trivial⟩ (fun k => ⟨rd_index_Of_l0 n k, trivial⟩) k rfl
def F_index_Of (n : Nat) (x0 : List UInt8) (x1 : Bool) (x2 : List (Int × List UInt8 × Int × Int)) : Tree (List (Int × List UInt8 × List UInt8 × Int × Int)) :=
  .sub (F_index_Of_l0 n n x0 x1 x2 (ln x2) (0 : Int) ([] : List (Int × ((List UInt8) × ((List UInt8) × (Int × Int)))))) fun y3 =>
  .alt y3 (fun y4 =>
  .ret ([] : List (Int × ((List UInt8) × ((List UInt8) × (Int × Int))))))
  fun y5 =>
  .ret y5
def S_index_Of (n : Nat) : Summ := mkS ⟨[(.val .str []), (.ro false T7 [])], [], 0⟩ [.d .str, .c, .d T8] fun v => .sub (F_index_Of n (p0 v) (p1 v) (p2 v)) fun r => .ret ((.whole 0 36), [⟨0, 1, .row T5 r⟩], 2)
theorem ok_index_Of (n : Nat) : SoundF Try.prog 24 (S_index_Of n) :=
  fn_go false true (c := codeOf Try.f24) (tab := mkTab []) (cuts := mkCuts [(0, C_24_0 (S_index_Of_l0 n n))]) Try.func24 (by kernel_rfl) .nil (CutsOK.list (l := [(0, .lp (bodyOf Try.f24 0))]) (by kernel_rfl) (LoopsOK.all ⟨.inr ⟨_, rfl, ok_index_Of_l0 n n⟩, trivial⟩)) (fun v => by kernel_rfl)
def C_25_0 : CutF → Cut := fun κ => ⟨[0, 1, 5, 6], fun e => match e with | .ex i => bif Nat.beq i 0 then [5] else [] | .rt => [] | .nm => [] | .go i => [], κ⟩
def F_r20_Of_l0 (n : Nat) : Nat → (List UInt8) → (Bool) → (List (Int × List UInt8 × Int × Int)) → (Int) → (List (Int × List UInt8 × List UInt8 × Int × Int)) → Tree (Unit ⊕ (List (Int × List UInt8 × List UInt8 × Int × Int)))
 | 0 => fun  x0 x1 x2 x3 x4 => .fail
 | k + 1 => fun x0 x1 x2 x3 x4 =>
  .ite (decide (x3 < (ln x2)))
  (.get (getI x2 x3) fun y5 =>
  .get (getI x2 x3) fun y6 =>
  .get (getI x2 x3) fun y7 =>
  .get (getI x2 x3) fun y8 =>
  .get (appI 1954687338268 x4 (List.set ([((0 : Int), ((zs 32), (([] : List UInt8), ((0 : Int), (0 : Int)))))] : List (Int × ((List UInt8) × ((List UInt8) × (Int × Int))))) 0 (y5.1, (y6.2.1, (x0, (y7.2.2.1, y8.2.2.2)))))) fun y9 =>
  .sub (F_r20_Of_l0 n k x0 x1 x2 (w64 (x3 + (1 : Int))) y9) fun y10 =>
  .alt y10 (fun y11 =>
  .ret (.inr y9))
  fun y12 =>
  .ret (.inr y12))
  (.ret (.inl ()))
def S_r20_Of_l0 (n k : Nat) : CutF := mkS ⟨[(.val .str []), (.ro false T7 []), (.whole 0 36), (.val (.sint .i64) (0 : Int))], [⟨0, 1, .row T5 []⟩], 2⟩ [.d .str, .c, .d T8, .d (.sint .i64), .d T6] fun v => .sub (F_r20_Of_l0 n k (p0 v) (p1 v) (p2 v) (p3 v) (p4 v)) fun r => .alt r (fun r => .ret (.ex 0, [(.whole 0 36)], [⟨0, 3, .row T5 (p4 v)⟩], 4)) (fun r => .ret (.ex 0, [(.whole 2 36)], [⟨2, 3, .row T5 r⟩], 4))
theorem rd_r20_Of_l0 (n k : Nat) : Rounds Try.prog (Go.Func.ntmps Try.f25) (bodyOf Try.f25 0) C_25_0 [S_r20_Of_l0 n k] (S_r20_Of_l0 n (k + 1)) :=
  rounds_go (tab := mkTab []) (cuts := mkCuts []) (S_r20_Of_l0 n k) [] .nil (.none0 (by kernel_rfl)) rfl (fun v => by kernel_rfl)
theorem ok_r20_Of_l0 (n k : Nat) : SoundC Try.prog (Go.Func.ntmps Try.f25) (.loop (bodyOf Try.f25 0)) (wr (bodyOf Try.f25 0)) (C_25_0 (S_r20_Of_l0 n k)) :=
  loop_go (K := fun k => [S_r20_Of_l0 n k]) (fun _ => rfl) (by kernel_rfl) ⟨z_go fun _ => by kernel_rfl, trivial⟩ (fun k => ⟨rd_r20_Of_l0 n k, trivial⟩) k rfl
def F_r20_Of (n : Nat) (x0 : List UInt8) (x1 : Bool) (x2 : List (Int × List UInt8 × Int × Int)) : Tree (List (Int × List UInt8 × List UInt8 × Int × Int)) :=
  .sub (F_r20_Of_l0 n n x0 x1 x2 (0 : Int) ([] : List (Int × ((List UInt8) × ((List UInt8) × (Int × Int)))))) fun y3 =>
  .alt y3 (fun y4 =>
  .ret ([] : List (Int × ((List UInt8) × ((List UInt8) × (Int × Int))))))
  fun y5 =>
  .ret y5
def S_r20_Of (n : Nat) : Summ := mkS ⟨[(.val .str []), (.ro false T7 [])], [], 0⟩ [.d .str, .c, .d T8] fun v => .sub (F_r20_Of n (p0 v) (p1 v) (p2 v)) fun r => .ret ((.whole 0 36), [⟨0, 1, .row T5 r⟩], 2)
theorem ok_r20_Of (n : Nat) : SoundF Try.prog 25 (S_r20_Of n) :=
  fn_go false true (c := codeOf Try.f25) (tab := mkTab []) (cuts := mkCuts [(0, C_25_0 (S_r20_Of_l0 n n))]) Try.func25 (by kernel_rfl) .nil (CutsOK.list (l := [(0, .lp (bodyOf Try.f25 0))]) (by kernel_rfl) (LoopsOK.all ⟨.inr ⟨_, rfl, ok_r20_Of_l0 n n⟩, trivial⟩)) (fun v => by kernel_rfl)
def F_w20_IndexCopies (n : Nat) (x0 : Bool) (x1 : List (Int × List UInt8 × List UInt8 × Int × Int)) (x2 : Int) (x3 : List UInt8) (x4 : List UInt8) (x5 : Int) (x6 : Int) (x7 : List UInt8) (x8 : Bool) (x9 : List (Int × List UInt8 × Int × Int)) : Tree Bool :=
  .ite (decide ((60 : Int) < (ln x9)))
  (.sub (F_w20_awake n) fun y10 =>
  .ret y10)
  (.sub (F_w20_both n x0 x1) fun y11 =>
  .sub (F_index_Index_Copy n y11.2.2.2) fun y12 =>
  .sub (F_index_Index_Add n x2 x3 x4 x5 x6 y12) fun y13 =>
  .alt y13 (fun y14 =>
  .sub (F_r20_Index_Add n y11.1 y11.2.1 x2 x3 x4 x5 x6) fun y15 =>
  .get (Tree.run (F_index_Index_List n y11.2.2.2)) fun y16 =>
  .get (Tree.run (F_r20_Index_List n y11.1 y11.2.1)) fun y17 =>
  .get (Tree.run (F_r20_Same n y16 y17)) fun y18 =>
  .ite y18
  (.get (Tree.run (F_index_Index_List n y12)) fun y19 =>
  .get (Tree.run (F_r20_Index_List n y15.1 y15.2.1)) fun y20 =>
  .get (Tree.run (F_r20_Same n y19 y20)) fun y21 =>
  .ite y21
  (.get (Tree.run (F_index_Of n x7 x8 x9)) fun y22 =>
  .get (Tree.run (F_r20_Of n x7 x8 x9)) fun y23 =>
  .get (Tree.run (F_r20_Same n y22 y23)) fun y24 =>
  .ite y24
  (.get (Tree.run (F_w20_awake n)) fun y25 =>
  .ret y25)
  (.ret false))
  (.ret false))
  (.ret false))
  fun y26 =>
  .sub (F_r20_Index_Add n y11.1 y11.2.1 x2 x3 x4 x5 x6) fun y27 =>
  .get (Tree.run (F_index_Index_List n y11.2.2.2)) fun y28 =>
  .get (Tree.run (F_r20_Index_List n y11.1 y11.2.1)) fun y29 =>
  .get (Tree.run (F_r20_Same n y28 y29)) fun y30 =>
  .ite y30
  (.get (Tree.run (F_index_Index_List n y26)) fun y31 =>
  .get (Tree.run (F_r20_Index_List n y27.1 y27.2.1)) fun y32 =>
  .get (Tree.run (F_r20_Same n y31 y32)) fun y33 =>
  .ite y33
  (.get (Tree.run (F_index_Of n x7 x8 x9)) fun y34 =>
  .get (Tree.run (F_r20_Of n x7 x8 x9)) fun y35 =>
  .get (Tree.run (F_r20_Same n y34 y35)) fun y36 =>
  .ite y36
  (.get (Tree.run (F_w20_awake n)) fun y37 =>
  .ret y37)
  (.ret false))
  (.ret false))
  (.ret false))
def S_w20_IndexCopies (n : Nat) : Summ := mkS ⟨[(.ro false T5 []), (.agg (.pr (.val (.sint .i64) (0 : Int)) (.pr (.val (.arr 32 .u8) []) (.pr (.agg (.pr (.val .str []) (.pr (.val (.sint .i64) (0 : Int)) (.pr (.val (.sint .i64) (0 : Int)) .un)))) .un)))), (.val .str []), (.ro false T7 [])], [], 0⟩ [.c, .d T6, .d (.sint .i64), .d (.arr 32 .u8), .d .str, .d (.sint .i64), .d (.sint .i64), .d .str, .c, .d T8] fun v => .sub (F_w20_IndexCopies n (p0 v) (p1 v) (p2 v) (p3 v) (p4 v) (p5 v) (p6 v) (p7 v) (p8 v) (p9 v)) fun r => .ret ((.val .bool r), [], 0)
theorem ok_w20_IndexCopies (n : Nat) : SoundF Try.prog 6 (S_w20_IndexCopies n) :=
  fn_go true true (c := codeOf Try.f6) (tab := mkTab [(10, ⟨S_w20_awake n, [], [], false⟩), (7, ⟨S_w20_both n, [], [], false⟩), (21, ⟨S_index_Index_Copy n, [], [], false⟩), (22, ⟨S_index_Index_Add n, [], [], false⟩), (23, ⟨S_r20_Index_Add n, [], [], true⟩), (12, ⟨S_index_Index_List n, [], [], false⟩), (20, ⟨S_r20_Index_List n, [], [], true⟩), (11, ⟨S_r20_Same n, [], [], true⟩), (24, ⟨S_index_Of n, [], [], false⟩), (25, ⟨S_r20_Of n, [], [], true⟩)]) (cuts := mkCuts []) Try.func6 (by kernel_rfl) (.cons (ok_w20_awake n) ⟨_, Try.func10, by kernel_rfl⟩ (.cons (ok_w20_both n) ⟨_, Try.func7, by kernel_rfl⟩ (.cons (ok_index_Index_Copy n) ⟨_, Try.func21, by kernel_rfl⟩ (.cons (ok_index_Index_Add n) ⟨_, Try.func22, by kernel_rfl⟩ (.cons (ok_r20_Index_Add n) ⟨_, Try.func23, by kernel_rfl⟩ (.cons (ok_index_Index_List n) ⟨_, Try.func12, by kernel_rfl⟩ (.cons (ok_r20_Index_List n) ⟨_, Try.func20, by kernel_rfl⟩ (.cons (ok_r20_Same n) ⟨_, Try.func11, by kernel_rfl⟩ (.cons (ok_index_Of n) ⟨_, Try.func24, by kernel_rfl⟩ (.cons (ok_r20_Of n) ⟨_, Try.func25, by kernel_rfl⟩ .nil)))))))))) (.none0 (by kernel_rfl)) (fun v => by kernel_rfl)
end Hyp
