/- Printed by Gen.lean.tpl (this work's own): Go functions as pure functions, each with the proof that the Go code comes to its answers. -/
import Derived.Test.YtdlbmjbbnplpjaaZD
import Derived.Test.YtdlbmjbbnplpjaaChecked
set_option linter.unusedVariables false
set_option maxRecDepth 100000
set_option maxHeartbeats 4000000
namespace Hyp
open Go Go.Proofs
abbrev T1 : Ty := .rcd (.pair (.sint .i64) (.arr 32 .u8))
abbrev T2 : Ty := .rcd (.pair .str (.pair (.sint .i64) (.sint .i64)))
abbrev T3 : Ty := .list (.rcd (.pair (.rcd (.pair (.sint .i64) (.arr 32 .u8))) (.rcd (.pair .str (.pair (.sint .i64) (.sint .i64))))))
abbrev T4 : Ty := .list (.rcd (.pair (.arr 32 .u8) (.sint .i64)))
abbrev T5 : Ty := .rcd (.pair (.sint .i64) (.pair (.arr 32 .u8) (.rcd (.pair .str (.pair (.sint .i64) (.sint .i64))))))
abbrev T6 : Ty := .list (.rcd (.pair (.sint .i64) (.pair (.arr 32 .u8) (.rcd (.pair .str (.pair (.sint .i64) (.sint .i64)))))))
def F_index_New (n : Nat) : Tree Unit :=
  .ret ()
def S_index_New (n : Nat) : Summ := mkS ⟨[], [], 0⟩ [] fun v => .sub (F_index_New n) fun r => .ret ((.ptr 0 0), [⟨0, 1, .box (.agg (.pr (.mpv 2) .un))⟩, ⟨2, 3, .mp T1 T2 ([] : List ((Int × (List UInt8)) × ((List UInt8) × (Int × Int))))⟩], 4)
theorem ok_index_New (n : Nat) : SoundF Try.prog 61 (S_index_New n) :=
  fn_go false (c := codeOf Try.f61) (tab := mkTab []) (cuts := mkCuts []) Try.func61 (by kernel_rfl) .nil (.none0 (by kernel_rfl)) (fun v => by kernel_rfl)
def C_15_0 : CutF → Cut := fun κ => ⟨[14, 15, 16], fun e => match e with | .ex i => bif Nat.beq i 0 then [] else [] | .rt => [2] | .nm => [] | .go i => [], κ⟩
def F_store_Named_l0 (n : Nat) : Nat → (Int) → (Int) → (List UInt8) → Tree (Unit ⊕ Unit)
 | 0 => fun  x0 x1 x2 => .fail
 | k + 1 => fun x0 x1 x2 =>
  .ite (decide (x1 < x0))
  (.get (inI (List.length x2) x1) fun y3 =>
  .get (gt x2 (0 + y3)) fun y4 =>
  .ite (bif (decide (y4 < (97 : UInt8))) then ((decide (y4 < (48 : UInt8))) || (decide ((57 : UInt8) < y4))) else ((decide ((122 : UInt8) < y4)) && ((decide (y4 < (48 : UInt8))) || (decide ((57 : UInt8) < y4)))))
  (.ret (.inl ()))
  (.sub (F_store_Named_l0 n k x0 (w64 (x1 + (1 : Int))) x2) fun y5 =>
  .alt y5 (fun y6 =>
  .ret (.inl ()))
  fun y7 =>
  .ret (.inr ())))
  (.ret (.inr ()))
def S_store_Named_l0 (n k : Nat) : CutF := mkS ⟨[(.whole 0 1), (.val (.sint .i64) (0 : Int)), (.val (.sint .i64) (0 : Int))], [⟨0, 1, .row .u8 []⟩], 2⟩ [.d (.sint .i64), .d (.sint .i64), .d (.list .u8)] fun v => .sub (F_store_Named_l0 n k (p0 v) (p1 v) (p2 v)) fun r => .alt r (fun r => .ret (.rt, [(.val .bool false)], [⟨0, 3, .row .u8 (p2 v)⟩], 4)) (fun r => .ret (.ex 0, [], [⟨0, 3, .row .u8 (p2 v)⟩], 4))
theorem rd_store_Named_l0 (n k : Nat) : Rounds Try.prog (Go.Func.ntmps Try.f15) (bodyOf Try.f15 0) C_15_0 [S_store_Named_l0 n k] (S_store_Named_l0 n (k + 1)) :=
  rounds_go (tab := mkTab []) (cuts := mkCuts []) (S_store_Named_l0 n k) [] .nil (.none0 (by kernel_rfl)) rfl (fun v => by kernel_rfl)
theorem ok_store_Named_l0 (n k : Nat) : SoundC Try.prog (Go.Func.ntmps Try.f15) (.loop (bodyOf Try.f15 0)) (wr (bodyOf Try.f15 0)) (C_15_0 (S_store_Named_l0 n k)) :=
  loop_go (K := fun k => [S_store_Named_l0 n k]) (fun _ => rfl) (by kernel_rfl) ⟨z_go fun _ => by kernel_rfl, trivial⟩ (fun k => ⟨rd_store_Named_l0 n k, trivial⟩) k rfl
def F_store_Named (n : Nat) (x0 : List UInt8) : Tree Bool :=
  .ite ((decide ((ln x0) < (1 : Int))) || (decide ((32 : Int) < (ln x0))))
  (.ret false)
  (.get (bytesI x0) fun y1 =>
  .sub (F_store_Named_l0 n n (ln y1) (0 : Int) y1) fun y2 =>
  .alt y2 (fun y3 =>
  .ret false)
  fun y4 =>
  .ret true)
def S_store_Named (n : Nat) : Summ := mkS ⟨[(.val .str [])], [], 0⟩ [.d .str] fun v => .sub (F_store_Named n (p0 v)) fun r => .ret ((.val .bool r), [], 0)
theorem ok_store_Named (n : Nat) : SoundF Try.prog 15 (S_store_Named n) :=
  fn_go false (c := codeOf Try.f15) (tab := mkTab []) (cuts := mkCuts [(0, C_15_0 (S_store_Named_l0 n n))]) Try.func15 (by kernel_rfl) .nil (CutsOK.list (l := [(0, .lp (bodyOf Try.f15 0))]) (by kernel_rfl) (LoopsOK.all ⟨.inr ⟨_, rfl, ok_store_Named_l0 n n⟩, trivial⟩)) (fun v => by kernel_rfl)
def F_index_Right (n : Nat) (x0 : Int) (x1 : List UInt8) (x2 : Int) (x3 : Int) : Tree Bool :=
  .ite (decide (x0 < (1 : Int)))
  (.ret false)
  (.ite (decide ((3 : Int) < x0))
  (.ret false)
  (.sub (F_store_Named n x1) fun y4 =>
  .ite (!y4)
  (.ret false)
  (.ret ((decide ((8 : Int) ≤ x2)) && ((decide (x2 ≤ (65536 : Int))) && ((decide ((28 : Int) ≤ x3)) && (decide (x3 ≤ (w64 ((65536 : Int) - x2))))))))))
def S_index_Right (n : Nat) : Summ := mkS ⟨[(.agg (.pr (.val (.sint .i64) (0 : Int)) (.pr (.val (.arr 32 .u8) []) (.pr (.agg (.pr (.val .str []) (.pr (.val (.sint .i64) (0 : Int)) (.pr (.val (.sint .i64) (0 : Int)) .un)))) .un))))], [], 0⟩ [.d (.sint .i64), .d (.arr 32 .u8), .d .str, .d (.sint .i64), .d (.sint .i64)] fun v => .sub (F_index_Right n (p0 v) (p2 v) (p3 v) (p4 v)) fun r => .ret ((.val .bool r), [], 0)
theorem ok_index_Right (n : Nat) : SoundF Try.prog 37 (S_index_Right n) :=
  fn_go false (c := codeOf Try.f37) (tab := mkTab [(15, ⟨S_store_Named n, [], [], false⟩)]) (cuts := mkCuts []) Try.func37 (by kernel_rfl) (.cons (ok_store_Named n) ⟨_, Try.func15, by kernel_rfl⟩ .nil) (.none0 (by kernel_rfl)) (fun v => by kernel_rfl)
def F_index_Index_Add (n : Nat) (x0 : Int) (x1 : List UInt8) (x2 : List UInt8) (x3 : Int) (x4 : Int) (x5 : List ((Int × List UInt8) × List UInt8 × Int × Int)) : Tree ((Int) × (List ((Int × List UInt8) × List UInt8 × Int × Int))) :=
  .sub (F_index_Right n x0 x2 x3 x4) fun y6 =>
  .ite (!y6)
  (.ret ((1 : Int), x5))
  (.ite (Option.isSome (mget T1 T2 x5 (x0, x1)))
  (.ret ((19 : Int), x5))
  (.ret ((0 : Int), (mput T1 T2 x5 (x0, x1) (x2, (x3, x4))))))
def S_index_Index_Add (n : Nat) : Summ := mkS ⟨[(.ptr 0 0), (.agg (.pr (.val (.sint .i64) (0 : Int)) (.pr (.val (.arr 32 .u8) []) (.pr (.agg (.pr (.val .str []) (.pr (.val (.sint .i64) (0 : Int)) (.pr (.val (.sint .i64) (0 : Int)) .un)))) .un))))], [⟨0, 1, .box (.agg (.pr (.mpv 2) .un))⟩, ⟨2, 3, .mp T1 T2 []⟩], 4⟩ [.d (.sint .i64), .d (.arr 32 .u8), .d .str, .d (.sint .i64), .d (.sint .i64), .d T3] fun v => .sub (F_index_Index_Add n (p0 v) (p1 v) (p2 v) (p3 v) (p4 v) (p5 v)) fun r => .ret ((.val (.sint .i64) r.1), [⟨0, 5, .box (.agg (.pr (.mpv 2) .un))⟩, ⟨2, 7, .mp T1 T2 r.2⟩], 8)
theorem ok_index_Index_Add (n : Nat) : SoundF Try.prog 60 (S_index_Index_Add n) :=
  fn_go false (c := codeOf Try.f60) (tab := mkTab [(37, ⟨S_index_Right n, [], [], true⟩)]) (cuts := mkCuts []) Try.func60 (by kernel_rfl) (.cons (ok_index_Right n) ⟨_, Try.func37, by kernel_rfl⟩ .nil) (.none0 (by kernel_rfl)) (fun v => by kernel_rfl)
def C_63_0 : CutF → Cut := fun κ => ⟨[0, 1, 7, 8, 14, 15, 16], fun e => match e with | .ex i => bif Nat.beq i 0 then [8] else [] | .rt => [] | .nm => [] | .go i => [], κ⟩
def F_index_Index_Find (n : Nat) (x0 : Int) (x1 : List UInt8) (x2 : List ((Int × List UInt8) × List UInt8 × Int × Int)) : Tree ((List UInt8) × ((Int) × ((Int) × Bool))) :=
  .ret ((mgetD T1 T2 x2 (x0, x1) (([] : List UInt8), ((0 : Int), (0 : Int)))).1, (mgetD T1 T2 x2 (x0, x1) (([] : List UInt8), ((0 : Int), (0 : Int)))).2.1, (mgetD T1 T2 x2 (x0, x1) (([] : List UInt8), ((0 : Int), (0 : Int)))).2.2, (Option.isSome (mget T1 T2 x2 (x0, x1))))
def S_index_Index_Find (n : Nat) : Summ := mkS ⟨[(.ptr 0 0), (.val (.sint .i64) (0 : Int)), (.val (.arr 32 .u8) [])], [⟨0, 1, .box (.agg (.pr (.mpv 2) .un))⟩, ⟨2, 3, .mp T1 T2 []⟩], 4⟩ [.d (.sint .i64), .d (.arr 32 .u8), .d T3] fun v => .sub (F_index_Index_Find n (p0 v) (p1 v) (p2 v)) fun r => .ret ((.tup (.pr (.agg (.pr (.val .str r.1) (.pr (.val (.sint .i64) r.2.1) (.pr (.val (.sint .i64) r.2.2.1) .un)))) (.pr (.val .bool r.2.2.2) .un))), [⟨0, 5, .box (.agg (.pr (.mpv 2) .un))⟩, ⟨2, 7, .mp T1 T2 (p2 v)⟩], 8)
theorem ok_index_Index_Find (n : Nat) : SoundF Try.prog 35 (S_index_Index_Find n) :=
  fn_go false (c := codeOf Try.f35) (tab := mkTab []) (cuts := mkCuts []) Try.func35 (by kernel_rfl) .nil (.none0 (by kernel_rfl)) (fun v => by kernel_rfl)
def F_index_Index_Need_l0_1 (n : Nat) : Nat → (Int) → (Int) → (Int) → (List ((Int × List UInt8) × List UInt8 × Int × Int)) → (List (List UInt8 × Int)) → (List (List UInt8)) → (List (List UInt8)) → Tree (Unit ⊕ ((List (List UInt8)) × (List (List UInt8 × Int))))
 | 0 => fun  x0 x1 x2 x3 x4 x5 x6 => .fail
 | k + 1 => fun x0 x1 x2 x3 x4 x5 x6 =>
  .ite (decide (x2 < x1))
  (.get (inI (List.length x6) x2) fun y7 =>
  .get (gt x6 (0 + y7)) fun y8 =>
  .sub (F_index_Index_Find n x0 y8 x3) fun y9 =>
  .ite (y9.2.2.2 || (decide ((0 : Int) < (mgetD (.arr 32 .u8) (.sint .i64) x4 y8 (0 : Int)))))
  (.sub (F_index_Index_Need_l0_1 n k x0 x1 (w64 (x2 + (1 : Int))) x3 x4 x5 x6) fun y10 =>
  .alt y10 (fun y11 =>
  .ret (.inl ()))
  fun y12 =>
  .ret (.inr (y12.1, y12.2)))
  (.get (appI 4398046511104 x5 (List.set ([(zs 32)] : List (List UInt8)) 0 y8)) fun y13 =>
  .sub (F_index_Index_Need_l0_1 n k x0 x1 (w64 (x2 + (1 : Int))) x3 (mput (.arr 32 .u8) (.sint .i64) x4 y8 (1 : Int)) y13 x6) fun y14 =>
  .alt y14 (fun y15 =>
  .ret (.inr (y13, (mput (.arr 32 .u8) (.sint .i64) x4 y8 (1 : Int)))))
  fun y16 =>
  .ret (.inr (y16.1, y16.2))))
  (.ret (.inl ()))
def S_index_Index_Need_l0_1 (n k : Nat) : CutF := mkS ⟨[(.ptr 0 0), (.val (.sint .i64) (0 : Int)), (.mpv 4), (.whole 6 32), (.whole 8 32), (.val (.sint .i64) (0 : Int)), (.val (.sint .i64) (0 : Int))], [⟨0, 1, .box (.agg (.pr (.mpv 2) .un))⟩, ⟨2, 3, .mp T1 T2 []⟩, ⟨4, 5, .mp (.arr 32 .u8) (.sint .i64) []⟩, ⟨6, 7, .row (.arr 32 .u8) []⟩, ⟨8, 9, .row (.arr 32 .u8) []⟩], 10⟩ [.d (.sint .i64), .d (.sint .i64), .d (.sint .i64), .d T3, .d T4, .d (.list (.arr 32 .u8)), .d (.list (.arr 32 .u8))] fun v => .sub (F_index_Index_Need_l0_1 n k (p0 v) (p1 v) (p2 v) (p3 v) (p4 v) (p5 v) (p6 v)) fun r => .alt r (fun r => .ret (.ex 0, [(.whole 6 32)], [⟨6, 11, .row (.arr 32 .u8) (p5 v)⟩, ⟨0, 13, .box (.agg (.pr (.mpv 2) .un))⟩, ⟨2, 15, .mp T1 T2 (p3 v)⟩, ⟨4, 17, .mp (.arr 32 .u8) (.sint .i64) (p4 v)⟩, ⟨8, 19, .row (.arr 32 .u8) (p6 v)⟩], 20)) (fun r => .ret (.ex 0, [(.whole 10 32)], [⟨10, 11, .row (.arr 32 .u8) r.1⟩, ⟨0, 13, .box (.agg (.pr (.mpv 2) .un))⟩, ⟨2, 15, .mp T1 T2 (p3 v)⟩, ⟨4, 17, .mp (.arr 32 .u8) (.sint .i64) r.2⟩, ⟨8, 19, .row (.arr 32 .u8) (p6 v)⟩], 20))
theorem rd_index_Index_Need_l0_1 (n k : Nat) : Rounds Try.prog (Go.Func.ntmps Try.f63) (bodyOf Try.f63 0) C_63_0 [S_index_Index_Need_l0_1 n k] (S_index_Index_Need_l0_1 n (k + 1)) :=
  rounds_go (tab := mkTab [(35, ⟨S_index_Index_Find n, [], [], false⟩)]) (cuts := mkCuts []) (S_index_Index_Need_l0_1 n k) [] (.cons (ok_index_Index_Find n) ⟨_, Try.func35, by kernel_rfl⟩ .nil) (.none0 (by kernel_rfl)) rfl (fun v => by kernel_rfl)
theorem ok_index_Index_Need_l0_1 (n k : Nat) : SoundC Try.prog (Go.Func.ntmps Try.f63) (.loop (bodyOf Try.f63 0)) (wr (bodyOf Try.f63 0)) (C_63_0 (S_index_Index_Need_l0_1 n k)) :=
  loop_go (K := fun k => [S_index_Index_Need_l0_1 n k]) (fun _ => rfl) (by kernel_rfl) ⟨z_go fun _ => by kernel_rfl, trivial⟩ (fun k => ⟨rd_index_Index_Need_l0_1 n k, trivial⟩) k rfl
def F_index_Index_Need_l0 (n : Nat) : Nat → (Int) → (Int) → (Int) → (List ((Int × List UInt8) × List UInt8 × Int × Int)) → (List (List UInt8 × Int)) → (List (List UInt8)) → Tree (((List (List UInt8)) × (List (List UInt8 × Int))) ⊕ Unit)
 | 0 => fun  x0 x1 x2 x3 x4 x5 => .fail
 | k + 1 => fun x0 x1 x2 x3 x4 x5 =>
  .ite (decide (x2 < x1))
  (.get (inI (List.length x5) x2) fun y6 =>
  .get (gt x5 (0 + y6)) fun y7 =>
  .sub (F_index_Index_Find n x0 y7 x3) fun y8 =>
  .ite (y8.2.2.2 || (decide ((0 : Int) < (mgetD (.arr 32 .u8) (.sint .i64) x4 y7 (0 : Int)))))
  (.sub (F_index_Index_Need_l0 n k x0 x1 (w64 (x2 + (1 : Int))) x3 x4 x5) fun y9 =>
  .alt y9 (fun y10 =>
  .ret (.inl (y10.1, y10.2)))
  fun y11 =>
  .ret (.inr ()))
  (.get (appI 4398046511104 ([] : List (List UInt8)) (List.set ([(zs 32)] : List (List UInt8)) 0 y7)) fun y12 =>
  .sub (F_index_Index_Need_l0_1 n k x0 x1 (w64 (x2 + (1 : Int))) x3 (mput (.arr 32 .u8) (.sint .i64) x4 y7 (1 : Int)) y12 x5) fun y13 =>
  .alt y13 (fun y14 =>
  .ret (.inl (y12, (mput (.arr 32 .u8) (.sint .i64) x4 y7 (1 : Int)))))
  fun y15 =>
  .ret (.inl (y15.1, y15.2))))
  (.ret (.inr ()))
def S_index_Index_Need_l0 (n k : Nat) : CutF := mkS ⟨[(.ptr 0 0), (.val (.sint .i64) (0 : Int)), (.mpv 4), (.snil none), (.whole 6 32), (.val (.sint .i64) (0 : Int)), (.val (.sint .i64) (0 : Int))], [⟨0, 1, .box (.agg (.pr (.mpv 2) .un))⟩, ⟨2, 3, .mp T1 T2 []⟩, ⟨4, 5, .mp (.arr 32 .u8) (.sint .i64) []⟩, ⟨6, 7, .row (.arr 32 .u8) []⟩], 8⟩ [.d (.sint .i64), .d (.sint .i64), .d (.sint .i64), .d T3, .d T4, .d (.list (.arr 32 .u8))] fun v => .sub (F_index_Index_Need_l0 n k (p0 v) (p1 v) (p2 v) (p3 v) (p4 v) (p5 v)) fun r => .alt r (fun r => .ret (.ex 0, [(.whole 8 32)], [⟨8, 9, .row (.arr 32 .u8) r.1⟩, ⟨0, 11, .box (.agg (.pr (.mpv 2) .un))⟩, ⟨2, 13, .mp T1 T2 (p3 v)⟩, ⟨4, 15, .mp (.arr 32 .u8) (.sint .i64) r.2⟩, ⟨6, 17, .row (.arr 32 .u8) (p5 v)⟩], 18)) (fun r => .ret (.ex 0, [(.snil none)], [⟨0, 9, .box (.agg (.pr (.mpv 2) .un))⟩, ⟨2, 11, .mp T1 T2 (p3 v)⟩, ⟨4, 13, .mp (.arr 32 .u8) (.sint .i64) (p4 v)⟩, ⟨6, 15, .row (.arr 32 .u8) (p5 v)⟩], 16))
theorem rd_index_Index_Need_l0 (n k : Nat) : Rounds Try.prog (Go.Func.ntmps Try.f63) (bodyOf Try.f63 0) C_63_0 [S_index_Index_Need_l0 n k, S_index_Index_Need_l0_1 n k] (S_index_Index_Need_l0 n (k + 1)) :=
  rounds_go (tab := mkTab [(35, ⟨S_index_Index_Find n, [], [], false⟩)]) (cuts := mkCuts []) (S_index_Index_Need_l0 n k) [S_index_Index_Need_l0_1 n k] (.cons (ok_index_Index_Find n) ⟨_, Try.func35, by kernel_rfl⟩ .nil) (.none0 (by kernel_rfl)) rfl (fun v => by kernel_rfl)
theorem ok_index_Index_Need_l0 (n k : Nat) : SoundC Try.prog (Go.Func.ntmps Try.f63) (.loop (bodyOf Try.f63 0)) (wr (bodyOf Try.f63 0)) (C_63_0 (S_index_Index_Need_l0 n k)) :=
  loop_go (K := fun k => [S_index_Index_Need_l0 n k, S_index_Index_Need_l0_1 n k]) (fun _ => rfl) (by kernel_rfl) ⟨z_go fun _ => by kernel_rfl, z_go fun _ => by kernel_rfl, trivial⟩ (fun k => ⟨rd_index_Index_Need_l0 n k, (rd_index_Index_Need_l0_1 n k).mono (List.forall_mem_cons.2 ⟨(.tail _ (.head _)), (fun _ h => by cases h)⟩), trivial⟩) k rfl
def F_index_Index_Need (n : Nat) (x0 : Int) (x1 : List ((Int × List UInt8) × List UInt8 × Int × Int)) (x2 : List (List UInt8)) : Tree ((List (List UInt8)) ⊕ Unit) :=
  .sub (F_index_Index_Need_l0 n n x0 (ln x2) (0 : Int) x1 ([] : List ((List UInt8) × Int)) x2) fun y3 =>
  .alt y3 (fun y4 =>
  .ret (.inl y4.1))
  fun y5 =>
  .ret (.inr ())
def S_index_Index_Need (n : Nat) : Summ := mkS ⟨[(.ptr 0 0), (.val (.sint .i64) (0 : Int)), (.whole 4 32)], [⟨0, 1, .box (.agg (.pr (.mpv 2) .un))⟩, ⟨2, 3, .mp T1 T2 []⟩, ⟨4, 5, .row (.arr 32 .u8) []⟩], 6⟩ [.d (.sint .i64), .d T3, .d (.list (.arr 32 .u8))] fun v => .sub (F_index_Index_Need n (p0 v) (p1 v) (p2 v)) fun r => .alt r (fun r => .ret ((.whole 6 32), [⟨6, 7, .row (.arr 32 .u8) r⟩, ⟨0, 9, .box (.agg (.pr (.mpv 2) .un))⟩, ⟨2, 11, .mp T1 T2 (p1 v)⟩, ⟨4, 13, .row (.arr 32 .u8) (p2 v)⟩], 14)) (fun r => .ret ((.snil none), [⟨0, 7, .box (.agg (.pr (.mpv 2) .un))⟩, ⟨2, 9, .mp T1 T2 (p1 v)⟩, ⟨4, 11, .row (.arr 32 .u8) (p2 v)⟩], 12))
theorem ok_index_Index_Need (n : Nat) : SoundF Try.prog 63 (S_index_Index_Need n) :=
  fn_go false (c := codeOf Try.f63) (tab := mkTab []) (cuts := mkCuts [(0, C_63_0 (S_index_Index_Need_l0 n n))]) Try.func63 (by kernel_rfl) .nil (CutsOK.list (l := [(0, .lp (bodyOf Try.f63 0))]) (by kernel_rfl) (LoopsOK.all ⟨.inr ⟨_, rfl, ok_index_Index_Need_l0 n n⟩, trivial⟩)) (fun v => by kernel_rfl)
def F_index_Index_Len (n : Nat) (x0 : List ((Int × List UInt8) × List UInt8 × Int × Int)) : Tree Int :=
  .ret (ln x0)
def S_index_Index_Len (n : Nat) : Summ := mkS ⟨[(.ptr 0 0)], [⟨0, 1, .box (.agg (.pr (.mpv 2) .un))⟩, ⟨2, 3, .mp T1 T2 []⟩], 4⟩ [.d T3] fun v => .sub (F_index_Index_Len n (p0 v)) fun r => .ret ((.val (.sint .i64) r), [⟨0, 5, .box (.agg (.pr (.mpv 2) .un))⟩, ⟨2, 7, .mp T1 T2 (p0 v)⟩], 8)
theorem ok_index_Index_Len (n : Nat) : SoundF Try.prog 41 (S_index_Index_Len n) :=
  fn_go false (c := codeOf Try.f41) (tab := mkTab []) (cuts := mkCuts []) Try.func41 (by kernel_rfl) .nil (.none0 (by kernel_rfl)) (fun v => by kernel_rfl)
def F_w20_awake (n : Nat) : Tree Bool :=
  .sub (F_index_New n) fun y0 =>
  .sub (F_index_Index_Add n (1 : Int) ([2, 0, 0, 0, 0, 0, 0, 0, 0, 0, 0, 0, 0, 0, 0, 0, 0, 0, 0, 0, 0, 0, 0, 0, 0, 0, 0, 0, 0, 0, 0, 0] : List UInt8) ([112] : List UInt8) (8 : Int) (28 : Int) ([] : List ((Int × (List UInt8)) × ((List UInt8) × (Int × Int))))) fun y1 =>
  .ite (!(decide (y1.1 = (0 : Int))))
  (.ret false)
  (.sub (F_index_Index_Add n (1 : Int) ([2, 0, 0, 0, 0, 0, 0, 0, 0, 0, 0, 0, 0, 0, 0, 0, 0, 0, 0, 0, 0, 0, 0, 0, 0, 0, 0, 0, 0, 0, 0, 0] : List UInt8) ([112] : List UInt8) (8 : Int) (28 : Int) y1.2) fun y2 =>
  .ite (!(decide (y2.1 = (19 : Int))))
  (.ret false)
  (.sub (F_index_Index_Need n (1 : Int) y2.2 ([([1, 0, 0, 0, 0, 0, 0, 0, 0, 0, 0, 0, 0, 0, 0, 0, 0, 0, 0, 0, 0, 0, 0, 0, 0, 0, 0, 0, 0, 0, 0, 0] : List UInt8), ([2, 0, 0, 0, 0, 0, 0, 0, 0, 0, 0, 0, 0, 0, 0, 0, 0, 0, 0, 0, 0, 0, 0, 0, 0, 0, 0, 0, 0, 0, 0, 0] : List UInt8), ([1, 0, 0, 0, 0, 0, 0, 0, 0, 0, 0, 0, 0, 0, 0, 0, 0, 0, 0, 0, 0, 0, 0, 0, 0, 0, 0, 0, 0, 0, 0, 0] : List UInt8)] : List (List UInt8))) fun y3 =>
  .alt y3 (fun y4 =>
  .ite (decide ((ln y4) = (1 : Int)))
  (.get (inI (List.length y4) (0 : Int)) fun y5 =>
  .get (gt y4 (0 + y5)) fun y6 =>
  .ite (eqV (.arr 32 .u8) y6 ([1, 0, 0, 0, 0, 0, 0, 0, 0, 0, 0, 0, 0, 0, 0, 0, 0, 0, 0, 0, 0, 0, 0, 0, 0, 0, 0, 0, 0, 0, 0, 0] : List UInt8))
  (.sub (F_index_Index_Len n y2.2) fun y7 =>
  .ret (decide (y7 = (1 : Int))))
  (.ret false))
  (.ret false))
  fun y8 =>
  .ite false
  (.fail)
  (.ret false)))
def S_w20_awake (n : Nat) : Summ := mkS ⟨[], [], 0⟩ [] fun v => .sub (F_w20_awake n) fun r => .ret ((.val .bool r), [], 0)
theorem ok_w20_awake (n : Nat) : SoundF Try.prog 28 (S_w20_awake n) :=
  fn_go true (c := codeOf Try.f28) (tab := mkTab [(61, ⟨S_index_New n, [], [], false⟩), (60, ⟨S_index_Index_Add n, [], [], false⟩), (63, ⟨S_index_Index_Need n, [], [], false⟩), (41, ⟨S_index_Index_Len n, [], [], false⟩)]) (cuts := mkCuts []) Try.func28 (by kernel_rfl) (.cons (ok_index_New n) ⟨_, Try.func61, by kernel_rfl⟩ (.cons (ok_index_Index_Add n) ⟨_, Try.func60, by kernel_rfl⟩ (.cons (ok_index_Index_Need n) ⟨_, Try.func63, by kernel_rfl⟩ (.cons (ok_index_Index_Len n) ⟨_, Try.func41, by kernel_rfl⟩ .nil)))) (.none0 (by kernel_rfl)) (fun v => by kernel_rfl)
def C_6_0 : CutF → Cut := fun κ => ⟨[21, 22, 23], fun e => match e with | .ex i => bif Nat.beq i 0 then [] else [] | .rt => [4] | .nm => [] | .go i => [], κ⟩
def F_w20_IndexBytes_l0 (n : Nat) : Nat → (Bool) → (List (Int × List UInt8 × List UInt8 × Int × Int)) → (Int) → (Int) → Tree (Bool ⊕ Unit)
 | 0 => fun  x0 x1 x2 x3 => .fail
 | k + 1 => fun x0 x1 x2 x3 =>
  .ite (decide (x3 < x2))
  (.get (getI x1 x3) fun y4 =>
  .ite (decide ((100 : Int) < (ln y4.2.2.1)))
  (.sub (F_w20_awake n) fun y5 =>
  .ret (.inl y5))
  (.sub (F_w20_IndexBytes_l0 n k x0 x1 x2 (w64 (x3 + (1 : Int)))) fun y6 =>
  .alt y6 (fun y7 =>
  .ret (.inl y7))
  fun y8 =>
  .ret (.inr ())))
  (.ret (.inr ()))
def S_w20_IndexBytes_l0 (n k : Nat) : CutF := mkS ⟨[(.ro false T5 []), (.val (.sint .i64) (0 : Int)), (.val (.sint .i64) (0 : Int))], [], 0⟩ [.c, .d T6, .d (.sint .i64), .d (.sint .i64)] fun v => .sub (F_w20_IndexBytes_l0 n k (p0 v) (p1 v) (p2 v) (p3 v)) fun r => .alt r (fun r => .ret (.rt, [(.val .bool r)], [], 0)) (fun r => .ret (.ex 0, [], [], 0))
theorem rd_w20_IndexBytes_l0 (n k : Nat) : Rounds Try.prog (Go.Func.ntmps Try.f6) (bodyOf Try.f6 0) C_6_0 [S_w20_IndexBytes_l0 n k] (S_w20_IndexBytes_l0 n (k + 1)) :=
  rounds_go (tab := mkTab [(28, ⟨S_w20_awake n, [], [], false⟩)]) (cuts := mkCuts []) (S_w20_IndexBytes_l0 n k) [] (.cons (ok_w20_awake n) ⟨_, Try.func28, by kernel_rfl⟩ .nil) (.none0 (by kernel_rfl)) rfl (fun v => by kernel_rfl)
theorem ok_w20_IndexBytes_l0 (n k : Nat) : SoundC Try.prog (Go.Func.ntmps Try.f6) (.loop (bodyOf Try.f6 0)) (wr (bodyOf Try.f6 0)) (C_6_0 (S_w20_IndexBytes_l0 n k)) :=
  loop_go (K := fun k => [S_w20_IndexBytes_l0 n k]) (fun _ => rfl) (by kernel_rfl) ⟨z_go fun _ => by kernel_rfl, trivial⟩ (fun k => ⟨rd_w20_IndexBytes_l0 n k, trivial⟩) k rfl
def F_codec_From (n : Nat) (x0 : List UInt8) : Tree (List UInt8) :=
  .get (appI 140737488355328 ([] : List UInt8) x0) fun y1 =>
  .ret y1
def S_codec_From (n : Nat) : Summ := mkS ⟨[(.whole 0 1)], [⟨0, 1, .row .u8 []⟩], 2⟩ [.d (.list .u8)] fun v => .sub (F_codec_From n (p0 v)) fun r => .ret ((.agg (.pr (.ro false .u8 r) (.pr (.val (.sint .i64) (0 : Int)) .un))), [⟨0, 3, .row .u8 (p0 v)⟩], 4)
theorem ok_codec_From (n : Nat) : SoundF Try.prog 69 (S_codec_From n) :=
  fn_go true (c := codeOf Try.f69) (tab := mkTab []) (cuts := mkCuts []) Try.func69 (by kernel_rfl) .nil (.none0 (by kernel_rfl)) (fun v => by kernel_rfl)
def C_105_0 : CutF → Cut := fun κ => ⟨[6, 39, 40, 41], fun e => match e with | .ex i => bif Nat.beq i 0 then [6] else [] | .rt => [] | .nm => [] | .go i => [], κ⟩
def F_codec_Scan_next_l0 (n : Nat) : Nat → (Int) → (Bool) → (List UInt8) → (Int) → (Int) → Tree Int
 | 0 => fun  x0 x1 x2 x3 x4 => .fail
 | k + 1 => fun x0 x1 x2 x3 x4 =>
  .ite (decide (x4 < x3))
  (.get (getI x2 x4) fun y5 =>
  .sub (F_codec_Scan_next_l0 n k (w64 (Nat.cast (BitVec.toNat ((BitVec.ofInt 64 (shlI .i64 x0 8)) ||| (BitVec.ofInt 64 (Nat.cast (UInt8.toNat y5) : Int)))) : Int)) x1 x2 x3 (w64 (x4 + (1 : Int)))) fun y6 =>
  .ret y6)
  (.ret x0)
def S_codec_Scan_next_l0 (n k : Nat) : CutF := mkS ⟨[(.val (.sint .i64) (0 : Int)), (.ro false .u8 []), (.val (.sint .i64) (0 : Int)), (.val (.sint .i64) (0 : Int))], [], 0⟩ [.d (.sint .i64), .c, .d (.list .u8), .d (.sint .i64), .d (.sint .i64)] fun v => .sub (F_codec_Scan_next_l0 n k (p0 v) (p1 v) (p2 v) (p3 v) (p4 v)) fun r => .ret (.ex 0, [(.val (.sint .i64) r)], [], 0)
theorem rd_codec_Scan_next_l0 (n k : Nat) : Rounds Try.prog (Go.Func.ntmps Try.f105) (bodyOf Try.f105 0) C_105_0 [S_codec_Scan_next_l0 n k] (S_codec_Scan_next_l0 n (k + 1)) :=
  rounds_go (tab := mkTab []) (cuts := mkCuts []) (S_codec_Scan_next_l0 n k) [] .nil (.none0 (by kernel_rfl)) rfl (fun v => by kernel_rfl)
theorem ok_codec_Scan_next_l0 (n k : Nat) : SoundC Try.prog (Go.Func.ntmps Try.f105) (.loop (bodyOf Try.f105 0)) (wr (bodyOf Try.f105 0)) (C_105_0 (S_codec_Scan_next_l0 n k)) :=
  loop_go (K := fun k => [S_codec_Scan_next_l0 n k]) (fun _ => rfl) (by kernel_rfl) ⟨z_go fun _ => by kernel_rfl, trivial⟩ (fun k => ⟨rd_codec_Scan_next_l0 n k, trivial⟩) k rfl
def F_codec_Scan_next (n : Nat) (x0 : List UInt8) : Tree ((Int) × ((Int) × Int)) :=
  .ite (decide ((ln x0) = (0 : Int)))
  (.ret ((0 : Int), (0 : Int), (3 : Int)))
  (.get (getI x0 (0 : Int)) fun y1 =>
  .ite (decide ((7 : Int) < (Nat.cast (UInt8.toNat y1) : Int)))
  (.ret ((0 : Int), (0 : Int), (5 : Int)))
  (.ite (decide ((ln x0) < (w64 ((1 : Int) + (Nat.cast (UInt8.toNat y1) : Int)))))
  (.ret ((0 : Int), (0 : Int), (3 : Int)))
  (.ite (decide ((0 : Int) < (Nat.cast (UInt8.toNat y1) : Int)))
  (.get (getI x0 (1 : Int)) fun y2 =>
  .ite (decide (y2 = (0 : UInt8)))
  (.ret ((0 : Int), (0 : Int), (5 : Int)))
  (.get (subI x0 (1 : Int) (w64 ((1 : Int) + (Nat.cast (UInt8.toNat y1) : Int)))) fun y3 =>
  .sub (F_codec_Scan_next_l0 n n (0 : Int) false y3 (ln y3) (0 : Int)) fun y4 =>
  .ite (decide ((9007199254740992 : Int) < y4))
  (.ret ((0 : Int), (0 : Int), (6 : Int)))
  (.ret (y4, (w64 ((1 : Int) + (Nat.cast (UInt8.toNat y1) : Int))), (0 : Int)))))
  (.get (subI x0 (1 : Int) (w64 ((1 : Int) + (Nat.cast (UInt8.toNat y1) : Int)))) fun y5 =>
  .sub (F_codec_Scan_next_l0 n n (0 : Int) false y5 (ln y5) (0 : Int)) fun y6 =>
  .ite (decide ((9007199254740992 : Int) < y6))
  (.ret ((0 : Int), (0 : Int), (6 : Int)))
  (.ret (y6, (w64 ((1 : Int) + (Nat.cast (UInt8.toNat y1) : Int))), (0 : Int)))))))
def S_codec_Scan_next (n : Nat) : Summ := mkS ⟨[(.agg (.pr (.ro false .u8 []) (.pr (.val (.sint .i64) (0 : Int)) .un)))], [], 0⟩ [.c, .d (.list .u8), .d (.sint .i64)] fun v => .sub (F_codec_Scan_next n (p1 v)) fun r => .ret ((.tup (.pr (.val (.sint .i64) r.1) (.pr (.val (.sint .i64) r.2.1) (.pr (.val (.sint .i64) r.2.2) .un)))), [], 0)
theorem ok_codec_Scan_next (n : Nat) : SoundF Try.prog 105 (S_codec_Scan_next n) :=
  fn_go true (c := codeOf Try.f105) (tab := mkTab []) (cuts := mkCuts [(0, C_105_0 (S_codec_Scan_next_l0 n n))]) Try.func105 (by kernel_rfl) .nil (CutsOK.list (l := [(0, .lp (bodyOf Try.f105 0))]) (by kernel_rfl) (LoopsOK.all ⟨.inr ⟨_, rfl, ok_codec_Scan_next_l0 n n⟩, trivial⟩)) (fun v => by kernel_rfl)
def F_codec_Scan_Fail (n : Nat) (x0 : Int) (x1 : Int) : Tree Int :=
  .ite (decide (x0 = (0 : Int)))
  (.ret x1)
  (.ret x0)
def S_codec_Scan_Fail (n : Nat) : Summ := mkS ⟨[(.agg (.pr (.ro false .u8 []) (.pr (.val (.sint .i64) (0 : Int)) .un))), (.val (.sint .i64) (0 : Int))], [], 0⟩ [.c, .d (.list .u8), .d (.sint .i64), .d (.sint .i64)] fun v => .sub (F_codec_Scan_Fail n (p2 v) (p3 v)) fun r => .ret ((.agg (.pr (.ro (p0 v) .u8 (p1 v)) (.pr (.val (.sint .i64) r) .un))), [], 0)
theorem ok_codec_Scan_Fail (n : Nat) : SoundF Try.prog 106 (S_codec_Scan_Fail n) :=
  fn_go true (c := codeOf Try.f106) (tab := mkTab []) (cuts := mkCuts []) Try.func106 (by kernel_rfl) .nil (.none0 (by kernel_rfl)) (fun v => by kernel_rfl)
def F_codec_Scan_Number (n : Nat) (x0 : Bool) (x1 : List UInt8) (x2 : Int) (x3 : Int) (x4 : Int) : Tree ((Int) × ((Bool) × ((List UInt8) × Int))) :=
  .ite (!(decide (x2 = (0 : Int))))
  (.ret ((0 : Int), x0, x1, x2))
  (.sub (F_codec_Scan_next n x1) fun y5 =>
  .ite ((decide (y5.2.2 = (0 : Int))) && ((decide (y5.1 < x3)) || (decide (x4 < y5.1))))
  (.ite true
  (.sub (F_codec_Scan_Fail n x2 (6 : Int)) fun y6 =>
  .ret ((0 : Int), x0, x1, y6))
  (.get (subI x1 y5.2.1 (ln x1)) fun y7 =>
  .ret (y5.1, false, y7, (0 : Int))))
  (.ite (!(decide (y5.2.2 = (0 : Int))))
  (.sub (F_codec_Scan_Fail n x2 y5.2.2) fun y8 =>
  .ret ((0 : Int), x0, x1, y8))
  (.get (subI x1 y5.2.1 (ln x1)) fun y9 =>
  .ret (y5.1, false, y9, (0 : Int)))))
def S_codec_Scan_Number (n : Nat) : Summ := mkS ⟨[(.agg (.pr (.ro false .u8 []) (.pr (.val (.sint .i64) (0 : Int)) .un))), (.val (.sint .i64) (0 : Int)), (.val (.sint .i64) (0 : Int))], [], 0⟩ [.c, .d (.list .u8), .d (.sint .i64), .d (.sint .i64), .d (.sint .i64)] fun v => .sub (F_codec_Scan_Number n (p0 v) (p1 v) (p2 v) (p3 v) (p4 v)) fun r => .ret ((.tup (.pr (.val (.sint .i64) r.1) (.pr (.agg (.pr (.ro r.2.1 .u8 r.2.2.1) (.pr (.val (.sint .i64) r.2.2.2) .un))) .un))), [], 0)
theorem ok_codec_Scan_Number (n : Nat) : SoundF Try.prog 70 (S_codec_Scan_Number n) :=
  fn_go true (c := codeOf Try.f70) (tab := mkTab [(105, ⟨S_codec_Scan_next n, [], [], false⟩), (106, ⟨S_codec_Scan_Fail n, [], [], false⟩)]) (cuts := mkCuts []) Try.func70 (by kernel_rfl) (.cons (ok_codec_Scan_next n) ⟨_, Try.func105, by kernel_rfl⟩ (.cons (ok_codec_Scan_Fail n) ⟨_, Try.func106, by kernel_rfl⟩ .nil)) (.none0 (by kernel_rfl)) (fun v => by kernel_rfl)
def C_29_0 : CutF → Cut := fun κ => ⟨[5, 6, 18, 19], fun e => match e with | .ex i => bif Nat.beq i 0 then [6] else [] | .rt => [2, 3] | .nm => [] | .go i => [], κ⟩
def F_codec_Scan_Fixed (n : Nat) (x0 : List UInt8) (x1 : Int) (x2 : Int) : Tree (Int ⊕ ((List UInt8) × (List UInt8))) :=
  .ite ((!(decide (x1 = (0 : Int)))) || (decide (x2 < (1 : Int))))
  (.ret (.inl x1))
  (.ite (decide ((ln x0) < x2))
  (.sub (F_codec_Scan_Fail n x1 (3 : Int)) fun y3 =>
  .ret (.inl y3))
  (.get (subI x0 (0 : Int) x2) fun y4 =>
  .get (appI 140737488355328 ([] : List UInt8) y4) fun y5 =>
  .get (subI x0 x2 (ln x0)) fun y6 =>
  .ret (.inr (y5, y6))))
def S_codec_Scan_Fixed (n : Nat) : Summ := mkS ⟨[(.agg (.pr (.ro false .u8 []) (.pr (.val (.sint .i64) (0 : Int)) .un))), (.val (.sint .i64) (0 : Int))], [], 0⟩ [.c, .d (.list .u8), .d (.sint .i64), .d (.sint .i64)] fun v => .sub (F_codec_Scan_Fixed n (p1 v) (p2 v) (p3 v)) fun r => .alt r (fun r => .ret ((.tup (.pr (.snil none) (.pr (.agg (.pr (.ro (p0 v) .u8 (p1 v)) (.pr (.val (.sint .i64) r) .un))) .un))), [], 0)) (fun r => .ret ((.tup (.pr (.ro false .u8 r.1) (.pr (.agg (.pr (.ro false .u8 r.2) (.pr (.val (.sint .i64) (0 : Int)) .un))) .un))), [], 0))
theorem ok_codec_Scan_Fixed (n : Nat) : SoundF Try.prog 107 (S_codec_Scan_Fixed n) :=
  fn_go true (c := codeOf Try.f107) (tab := mkTab [(106, ⟨S_codec_Scan_Fail n, [], [], false⟩)]) (cuts := mkCuts []) Try.func107 (by kernel_rfl) (.cons (ok_codec_Scan_Fail n) ⟨_, Try.func106, by kernel_rfl⟩ .nil) (.none0 (by kernel_rfl)) (fun v => by kernel_rfl)
def F_codec_Scan_ID (n : Nat) (x0 : Bool) (x1 : List UInt8) (x2 : Int) : Tree ((List UInt8) × ((Bool) × ((List UInt8) × Int))) :=
  .sub (F_codec_Scan_Fixed n x1 x2 (32 : Int)) fun y3 =>
  .alt y3 (fun y4 =>
  .ite true
  (.ret ((zs 32), x0, x1, y4))
  (.fail))
  fun y5 =>
  .ite (!(decide ((ln y5.1) = (32 : Int))))
  (.ret ((zs 32), false, y5.2, (0 : Int)))
  (.get (takeI 32 y5.1) fun y6 =>
  .ret (y6, false, y5.2, (0 : Int)))
def S_codec_Scan_ID (n : Nat) : Summ := mkS ⟨[(.agg (.pr (.ro false .u8 []) (.pr (.val (.sint .i64) (0 : Int)) .un)))], [], 0⟩ [.c, .d (.list .u8), .d (.sint .i64)] fun v => .sub (F_codec_Scan_ID n (p0 v) (p1 v) (p2 v)) fun r => .ret ((.tup (.pr (.val (.arr 32 .u8) r.1) (.pr (.agg (.pr (.ro r.2.1 .u8 r.2.2.1) (.pr (.val (.sint .i64) r.2.2.2) .un))) .un))), [], 0)
theorem ok_codec_Scan_ID (n : Nat) : SoundF Try.prog 72 (S_codec_Scan_ID n) :=
  fn_go true (c := codeOf Try.f72) (tab := mkTab [(107, ⟨S_codec_Scan_Fixed n, [], [], false⟩)]) (cuts := mkCuts []) Try.func72 (by kernel_rfl) (.cons (ok_codec_Scan_Fixed n) ⟨_, Try.func107, by kernel_rfl⟩ .nil) (.none0 (by kernel_rfl)) (fun v => by kernel_rfl)
def F_codec_Scan_Text (n : Nat) (x0 : Bool) (x1 : List UInt8) (x2 : Int) (x3 : Int) : Tree (((Bool) × ((List UInt8) × Int)) ⊕ ((List UInt8) × (List UInt8))) :=
  .sub (F_codec_Scan_Number n x0 x1 x2 (0 : Int) (9007199254740992 : Int)) fun y4 =>
  .ite (!(decide (y4.2.2.2 = (0 : Int))))
  (.ret (.inl (y4.2.1, y4.2.2.1, y4.2.2.2)))
  (.ite (decide ((maxI x3 (0 : Int)) < y4.1))
  (.sub (F_codec_Scan_Fail n x2 (2 : Int)) fun y5 =>
  .ret (.inl (x0, x1, y5)))
  (.ite (decide ((ln y4.2.2.1) < y4.1))
  (.sub (F_codec_Scan_Fail n x2 (3 : Int)) fun y6 =>
  .ret (.inl (x0, x1, y6)))
  (.sub (F_codec_Scan_Fixed n y4.2.2.1 y4.2.2.2 y4.1) fun y7 =>
  .alt y7 (fun y8 =>
  .ret (.inl (y4.2.1, y4.2.2.1, y8)))
  fun y9 =>
  .ret (.inr (y9.1, y9.2)))))
def S_codec_Scan_Text (n : Nat) : Summ := mkS ⟨[(.agg (.pr (.ro false .u8 []) (.pr (.val (.sint .i64) (0 : Int)) .un))), (.val (.sint .i64) (0 : Int))], [], 0⟩ [.c, .d (.list .u8), .d (.sint .i64), .d (.sint .i64)] fun v => .sub (F_codec_Scan_Text n (p0 v) (p1 v) (p2 v) (p3 v)) fun r => .alt r (fun r => .ret ((.tup (.pr (.snil none) (.pr (.agg (.pr (.ro r.1 .u8 r.2.1) (.pr (.val (.sint .i64) r.2.2) .un))) .un))), [], 0)) (fun r => .ret ((.tup (.pr (.ro false .u8 r.1) (.pr (.agg (.pr (.ro false .u8 r.2) (.pr (.val (.sint .i64) (0 : Int)) .un))) .un))), [], 0))
theorem ok_codec_Scan_Text (n : Nat) : SoundF Try.prog 71 (S_codec_Scan_Text n) :=
  fn_go true (c := codeOf Try.f71) (tab := mkTab [(70, ⟨S_codec_Scan_Number n, [], [], false⟩), (106, ⟨S_codec_Scan_Fail n, [], [], false⟩), (107, ⟨S_codec_Scan_Fixed n, [], [], false⟩)]) (cuts := mkCuts []) Try.func71 (by kernel_rfl) (.cons (ok_codec_Scan_Number n) ⟨_, Try.func70, by kernel_rfl⟩ (.cons (ok_codec_Scan_Fail n) ⟨_, Try.func106, by kernel_rfl⟩ (.cons (ok_codec_Scan_Fixed n) ⟨_, Try.func107, by kernel_rfl⟩ .nil))) (.none0 (by kernel_rfl)) (fun v => by kernel_rfl)
def F_codec_Scan_Err (n : Nat) : Tree Unit :=
  .ret ()
def S_codec_Scan_Err (n : Nat) : Summ := mkS ⟨[(.agg (.pr (.ro false .u8 []) (.pr (.val (.sint .i64) (0 : Int)) .un)))], [], 0⟩ [.c, .d (.list .u8), .d (.sint .i64)] fun v => .sub (F_codec_Scan_Err n) fun r => .ret ((.val (.sint .i64) (p2 v)), [], 0)
theorem ok_codec_Scan_Err (n : Nat) : SoundF Try.prog 84 (S_codec_Scan_Err n) :=
  fn_go true (c := codeOf Try.f84) (tab := mkTab []) (cuts := mkCuts []) Try.func84 (by kernel_rfl) .nil (.none0 (by kernel_rfl)) (fun v => by kernel_rfl)
def F_index_Get_l0_1 (n : Nat) : Nat → (Int) → (Int) → (Bool) → (List UInt8) → (Int) → (List (Int × List UInt8 × List UInt8 × Int × Int)) → Tree (((Int) × ((Bool) × ((List UInt8) × Int))) ⊕ (Unit ⊕ (((Int) × ((Bool) × ((List UInt8) × Int))) ⊕ ((List (Int × List UInt8 × List UInt8 × Int × Int)) × ((Bool) × ((List UInt8) × Int))))))
 | 0 => fun  x0 x1 x2 x3 x4 x5 => .fail
 | k + 1 => fun x0 x1 x2 x3 x4 x5 =>
  .ite (decide (x1 < x0))
  (.sub (F_codec_Scan_Number n x2 x3 x4 (1 : Int) (3 : Int)) fun y6 =>
  .sub (F_codec_Scan_ID n y6.2.1 y6.2.2.1 y6.2.2.2) fun y7 =>
  .sub (F_codec_Scan_Text n y7.2.1 y7.2.2.1 y7.2.2.2 (32 : Int)) fun y8 =>
  .alt y8 (fun y9 =>
  .sub (F_codec_Scan_Number n y9.1 y9.2.1 y9.2.2 (8 : Int) (65536 : Int)) fun y10 =>
  .sub (F_codec_Scan_Number n y10.2.1 y10.2.2.1 y10.2.2.2 (28 : Int) (65536 : Int)) fun y11 =>
  .sub (F_codec_Scan_Err n) fun y12 =>
  .ite (!(decide (y11.2.2.2 = (0 : Int))))
  (.sub (F_codec_Scan_Err n) fun y13 =>
  .ret (.inl (y11.2.2.2, y11.2.1, y11.2.2.1, y11.2.2.2)))
  (.get (appI 1954687338268 x5 (List.set ([((0 : Int), ((zs 32), (([] : List UInt8), ((0 : Int), (0 : Int)))))] : List (Int × ((List UInt8) × ((List UInt8) × (Int × Int))))) 0 (y6.1, (y7.1, (([] : List UInt8), (y10.1, y11.1)))))) fun y14 =>
  .sub (F_index_Get_l0_1 n k x0 (w64 (x1 + (1 : Int))) y11.2.1 y11.2.2.1 y11.2.2.2 y14) fun y15 =>
  .alt y15 (fun y16 =>
  .ret (.inr (.inr (.inl (y16.1, y16.2.1, y16.2.2.1, y16.2.2.2)))))
  fun y17 =>
  .alt y17 (fun y18 =>
  .ret (.inr (.inr (.inr (y14, y11.2.1, y11.2.2.1, y11.2.2.2)))))
  fun y19 =>
  .alt y19 (fun y20 =>
  .ret (.inr (.inr (.inl (y20.1, y20.2.1, y20.2.2.1, y20.2.2.2)))))
  fun y21 =>
  .ret (.inr (.inr (.inr (y21.1, y21.2.1, y21.2.2.1, y21.2.2.2))))))
  fun y22 =>
  .sub (F_codec_Scan_Number n false y22.2 (0 : Int) (8 : Int) (65536 : Int)) fun y23 =>
  .sub (F_codec_Scan_Number n y23.2.1 y23.2.2.1 y23.2.2.2 (28 : Int) (65536 : Int)) fun y24 =>
  .sub (F_codec_Scan_Err n) fun y25 =>
  .ite (!(decide (y24.2.2.2 = (0 : Int))))
  (.sub (F_codec_Scan_Err n) fun y26 =>
  .ret (.inl (y24.2.2.2, y24.2.1, y24.2.2.1, y24.2.2.2)))
  (.get (appI 1954687338268 x5 (List.set ([((0 : Int), ((zs 32), (([] : List UInt8), ((0 : Int), (0 : Int)))))] : List (Int × ((List UInt8) × ((List UInt8) × (Int × Int))))) 0 (y6.1, (y7.1, (y22.1, (y23.1, y24.1)))))) fun y27 =>
  .sub (F_index_Get_l0_1 n k x0 (w64 (x1 + (1 : Int))) y24.2.1 y24.2.2.1 y24.2.2.2 y27) fun y28 =>
  .alt y28 (fun y29 =>
  .ret (.inr (.inr (.inl (y29.1, y29.2.1, y29.2.2.1, y29.2.2.2)))))
  fun y30 =>
  .alt y30 (fun y31 =>
  .ret (.inr (.inr (.inr (y27, y24.2.1, y24.2.2.1, y24.2.2.2)))))
  fun y32 =>
  .alt y32 (fun y33 =>
  .ret (.inr (.inr (.inl (y33.1, y33.2.1, y33.2.2.1, y33.2.2.2)))))
  fun y34 =>
  .ret (.inr (.inr (.inr (y34.1, y34.2.1, y34.2.2.1, y34.2.2.2))))))
  (.ret (.inr (.inl ())))
def S_index_Get_l0_1 (n k : Nat) : CutF := mkS ⟨[(.ptr 0 0), (.whole 2 36), (.val (.sint .i64) (0 : Int)), (.val (.sint .i64) (0 : Int))], [⟨0, 1, .box (.agg (.pr (.ro false .u8 []) (.pr (.val (.sint .i64) (0 : Int)) .un)))⟩, ⟨2, 3, .row T5 []⟩], 4⟩ [.d (.sint .i64), .d (.sint .i64), .c, .d (.list .u8), .d (.sint .i64), .d T6] fun v => .sub (F_index_Get_l0_1 n k (p0 v) (p1 v) (p2 v) (p3 v) (p4 v) (p5 v)) fun r => .alt r (fun r => .ret (.rt, [(.snil none), (.val (.sint .i64) r.1)], [⟨0, 5, .box (.agg (.pr (.ro r.2.1 .u8 r.2.2.1) (.pr (.val (.sint .i64) r.2.2.2) .un)))⟩, ⟨2, 7, .row T5 (p5 v)⟩], 8)) (fun r => .alt r (fun r => .ret (.ex 0, [(.whole 2 36)], [⟨2, 5, .row T5 (p5 v)⟩, ⟨0, 7, .box (.agg (.pr (.ro (p2 v) .u8 (p3 v)) (.pr (.val (.sint .i64) (p4 v)) .un)))⟩], 8)) (fun r => .alt r (fun r => .ret (.rt, [(.snil none), (.val (.sint .i64) r.1)], [⟨0, 5, .box (.agg (.pr (.ro r.2.1 .u8 r.2.2.1) (.pr (.val (.sint .i64) r.2.2.2) .un)))⟩], 6)) (fun r => .ret (.ex 0, [(.whole 4 36)], [⟨4, 5, .row T5 r.1⟩, ⟨0, 7, .box (.agg (.pr (.ro r.2.1 .u8 r.2.2.1) (.pr (.val (.sint .i64) r.2.2.2) .un)))⟩], 8))))
theorem rd_index_Get_l0_1 (n k : Nat) : Rounds Try.prog (Go.Func.ntmps Try.f29) (bodyOf Try.f29 0) C_29_0 [S_index_Get_l0_1 n k] (S_index_Get_l0_1 n (k + 1)) :=
  rounds_go (tab := mkTab [(70, ⟨S_codec_Scan_Number n, [], [], false⟩), (72, ⟨S_codec_Scan_ID n, [], [], false⟩), (71, ⟨S_codec_Scan_Text n, [], [], false⟩), (84, ⟨S_codec_Scan_Err n, [], [], false⟩)]) (cuts := mkCuts []) (S_index_Get_l0_1 n k) [] (.cons (ok_codec_Scan_Number n) ⟨_, Try.func70, by kernel_rfl⟩ (.cons (ok_codec_Scan_ID n) ⟨_, Try.func72, by kernel_rfl⟩ (.cons (ok_codec_Scan_Text n) ⟨_, Try.func71, by kernel_rfl⟩ (.cons (ok_codec_Scan_Err n) ⟨_, Try.func84, by kernel_rfl⟩ .nil)))) (.none0 (by kernel_rfl)) rfl (fun v => by kernel_rfl)
theorem ok_index_Get_l0_1 (n k : Nat) : SoundC Try.prog (Go.Func.ntmps Try.f29) (.loop (bodyOf Try.f29 0)) (wr (bodyOf Try.f29 0)) (C_29_0 (S_index_Get_l0_1 n k)) :=
  loop_go (K := fun k => [S_index_Get_l0_1 n k]) (fun _ => rfl) (by kernel_rfl) ⟨z_go fun _ => by kernel_rfl, trivial⟩ (fun k => ⟨rd_index_Get_l0_1 n k, trivial⟩) k rfl
def F_index_Get_l0 (n : Nat) : Nat → (Int) → (Int) → (Bool) → (List UInt8) → (Int) → Tree (((Int) × ((Bool) × ((List UInt8) × Int))) ⊕ (((List (Int × List UInt8 × List UInt8 × Int × Int)) × ((Bool) × ((List UInt8) × Int))) ⊕ Unit))
 | 0 => fun  x0 x1 x2 x3 x4 => .fail
 | k + 1 => fun x0 x1 x2 x3 x4 =>
  .ite (decide (x1 < x0))
  (.sub (F_codec_Scan_Number n x2 x3 x4 (1 : Int) (3 : Int)) fun y5 =>
  .sub (F_codec_Scan_ID n y5.2.1 y5.2.2.1 y5.2.2.2) fun y6 =>
  .sub (F_codec_Scan_Text n y6.2.1 y6.2.2.1 y6.2.2.2 (32 : Int)) fun y7 =>
  .alt y7 (fun y8 =>
  .sub (F_codec_Scan_Number n y8.1 y8.2.1 y8.2.2 (8 : Int) (65536 : Int)) fun y9 =>
  .sub (F_codec_Scan_Number n y9.2.1 y9.2.2.1 y9.2.2.2 (28 : Int) (65536 : Int)) fun y10 =>
  .sub (F_codec_Scan_Err n) fun y11 =>
  .ite (!(decide (y10.2.2.2 = (0 : Int))))
  (.sub (F_codec_Scan_Err n) fun y12 =>
  .ret (.inl (y10.2.2.2, y10.2.1, y10.2.2.1, y10.2.2.2)))
  (.get (appI 1954687338268 ([] : List (Int × ((List UInt8) × ((List UInt8) × (Int × Int))))) (List.set ([((0 : Int), ((zs 32), (([] : List UInt8), ((0 : Int), (0 : Int)))))] : List (Int × ((List UInt8) × ((List UInt8) × (Int × Int))))) 0 (y5.1, (y6.1, (([] : List UInt8), (y9.1, y10.1)))))) fun y13 =>
  .sub (F_index_Get_l0_1 n k x0 (w64 (x1 + (1 : Int))) y10.2.1 y10.2.2.1 y10.2.2.2 y13) fun y14 =>
  .alt y14 (fun y15 =>
  .ret (.inl (y15.1, y15.2.1, y15.2.2.1, y15.2.2.2)))
  fun y16 =>
  .alt y16 (fun y17 =>
  .ret (.inr (.inl (y13, y10.2.1, y10.2.2.1, y10.2.2.2))))
  fun y18 =>
  .alt y18 (fun y19 =>
  .ret (.inl (y19.1, y19.2.1, y19.2.2.1, y19.2.2.2)))
  fun y20 =>
  .ret (.inr (.inl (y20.1, y20.2.1, y20.2.2.1, y20.2.2.2)))))
  fun y21 =>
  .sub (F_codec_Scan_Number n false y21.2 (0 : Int) (8 : Int) (65536 : Int)) fun y22 =>
  .sub (F_codec_Scan_Number n y22.2.1 y22.2.2.1 y22.2.2.2 (28 : Int) (65536 : Int)) fun y23 =>
  .sub (F_codec_Scan_Err n) fun y24 =>
  .ite (!(decide (y23.2.2.2 = (0 : Int))))
  (.sub (F_codec_Scan_Err n) fun y25 =>
  .ret (.inl (y23.2.2.2, y23.2.1, y23.2.2.1, y23.2.2.2)))
  (.get (appI 1954687338268 ([] : List (Int × ((List UInt8) × ((List UInt8) × (Int × Int))))) (List.set ([((0 : Int), ((zs 32), (([] : List UInt8), ((0 : Int), (0 : Int)))))] : List (Int × ((List UInt8) × ((List UInt8) × (Int × Int))))) 0 (y5.1, (y6.1, (y21.1, (y22.1, y23.1)))))) fun y26 =>
  .sub (F_index_Get_l0_1 n k x0 (w64 (x1 + (1 : Int))) y23.2.1 y23.2.2.1 y23.2.2.2 y26) fun y27 =>
  .alt y27 (fun y28 =>
  .ret (.inl (y28.1, y28.2.1, y28.2.2.1, y28.2.2.2)))
  fun y29 =>
  .alt y29 (fun y30 =>
  .ret (.inr (.inl (y26, y23.2.1, y23.2.2.1, y23.2.2.2))))
  fun y31 =>
  .alt y31 (fun y32 =>
  .ret (.inl (y32.1, y32.2.1, y32.2.2.1, y32.2.2.2)))
  fun y33 =>
  .ret (.inr (.inl (y33.1, y33.2.1, y33.2.2.1, y33.2.2.2)))))
  (.ret (.inr (.inr ())))
def S_index_Get_l0 (n k : Nat) : CutF := mkS ⟨[(.ptr 0 0), (.snil none), (.val (.sint .i64) (0 : Int)), (.val (.sint .i64) (0 : Int))], [⟨0, 1, .box (.agg (.pr (.ro false .u8 []) (.pr (.val (.sint .i64) (0 : Int)) .un)))⟩], 2⟩ [.d (.sint .i64), .d (.sint .i64), .c, .d (.list .u8), .d (.sint .i64)] fun v => .sub (F_index_Get_l0 n k (p0 v) (p1 v) (p2 v) (p3 v) (p4 v)) fun r => .alt r (fun r => .ret (.rt, [(.snil none), (.val (.sint .i64) r.1)], [⟨0, 3, .box (.agg (.pr (.ro r.2.1 .u8 r.2.2.1) (.pr (.val (.sint .i64) r.2.2.2) .un)))⟩], 4)) (fun r => .alt r (fun r => .ret (.ex 0, [(.whole 2 36)], [⟨2, 3, .row T5 r.1⟩, ⟨0, 5, .box (.agg (.pr (.ro r.2.1 .u8 r.2.2.1) (.pr (.val (.sint .i64) r.2.2.2) .un)))⟩], 6)) (fun r => .ret (.ex 0, [(.snil none)], [⟨0, 3, .box (.agg (.pr (.ro (p2 v) .u8 (p3 v)) (.pr (.val (.sint .i64) (p4 v)) .un)))⟩], 4)))
theorem rd_index_Get_l0 (n k : Nat) : Rounds Try.prog (Go.Func.ntmps Try.f29) (bodyOf Try.f29 0) C_29_0 [S_index_Get_l0 n k, S_index_Get_l0_1 n k] (S_index_Get_l0 n (k + 1)) :=
  rounds_go (tab := mkTab [(70, ⟨S_codec_Scan_Number n, [], [], false⟩), (72, ⟨S_codec_Scan_ID n, [], [], false⟩), (71, ⟨S_codec_Scan_Text n, [], [], false⟩), (84, ⟨S_codec_Scan_Err n, [], [], false⟩)]) (cuts := mkCuts []) (S_index_Get_l0 n k) [S_index_Get_l0_1 n k] (.cons (ok_codec_Scan_Number n) ⟨_, Try.func70, by kernel_rfl⟩ (.cons (ok_codec_Scan_ID n) ⟨_, Try.func72, by kernel_rfl⟩ (.cons (ok_codec_Scan_Text n) ⟨_, Try.func71, by kernel_rfl⟩ (.cons (ok_codec_Scan_Err n) ⟨_, Try.func84, by kernel_rfl⟩ .nil)))) (.none0 (by kernel_rfl)) rfl (fun v => by kernel_rfl)
theorem ok_index_Get_l0 (n k : Nat) : SoundC Try.prog (Go.Func.ntmps Try.f29) (.loop (bodyOf Try.f29 0)) (wr (bodyOf Try.f29 0)) (C_29_0 (S_index_Get_l0 n k)) :=
  loop_go (K := fun k => [S_index_Get_l0 n k, S_index_Get_l0_1 n k]) (fun _ => rfl) (by kernel_rfl) ⟨z_go fun _ => by kernel_rfl, z_go fun _ => by kernel_rfl, trivial⟩ (fun k => ⟨rd_index_Get_l0 n k, (rd_index_Get_l0_1 n k).mono (List.forall_mem_cons.2 ⟨(.tail _ (.head _)), (fun _ h => by cases h)⟩), trivial⟩) k rfl
def F_codec_Scan_End (n : Nat) (x0 : List UInt8) (x1 : Int) : Tree Int :=
  .ite ((decide (x1 = (0 : Int))) && (decide ((0 : Int) < (ln x0))))
  (.ret (4 : Int))
  (.ret x1)
def S_codec_Scan_End (n : Nat) : Summ := mkS ⟨[(.agg (.pr (.ro false .u8 []) (.pr (.val (.sint .i64) (0 : Int)) .un)))], [], 0⟩ [.c, .d (.list .u8), .d (.sint .i64)] fun v => .sub (F_codec_Scan_End n (p1 v) (p2 v)) fun r => .ret ((.val (.sint .i64) r), [], 0)
theorem ok_codec_Scan_End (n : Nat) : SoundF Try.prog 73 (S_codec_Scan_End n) :=
  fn_go true (c := codeOf Try.f73) (tab := mkTab []) (cuts := mkCuts []) Try.func73 (by kernel_rfl) .nil (.none0 (by kernel_rfl)) (fun v => by kernel_rfl)
def C_29_2 : CutF → Cut := fun κ => ⟨[6, 71, 72, 73], fun e => match e with | .ex i => bif Nat.beq i 2 then [] else [] | .rt => [2, 3] | .nm => [] | .go i => [], κ⟩
def F_bytes_Compare (n : Nat) (x0 : Nat) (x1 : Nat) (x2 : Nat) (x3 : Nat) (x4 : List UInt8) (x5 : List UInt8) : Tree Int :=
  .ret (Go.Lib.compareBytes (List.take x1 (List.drop x0 x4)) (List.take x3 (List.drop x2 x5)))
def S_bytes_Compare (n : Nat) : Summ := mkS ⟨[(.bwin 0 1 .u8 32 0 0), (.bwin 2 1 .u8 32 0 0)], [⟨0, 1, .box (.agg (.pr (.val (.sint .i64) (0 : Int)) (.pr (.val (.arr 32 .u8) []) (.pr (.agg (.pr (.val .str []) (.pr (.val (.sint .i64) (0 : Int)) (.pr (.val (.sint .i64) (0 : Int)) .un)))) .un))))⟩, ⟨2, 3, .box (.agg (.pr (.val (.sint .i64) (0 : Int)) (.pr (.val (.arr 32 .u8) []) (.pr (.agg (.pr (.val .str []) (.pr (.val (.sint .i64) (0 : Int)) (.pr (.val (.sint .i64) (0 : Int)) .un)))) .un))))⟩], 4⟩ [.n, .n, .n, .n, .d (.sint .i64), .d (.arr 32 .u8), .d .str, .d (.sint .i64), .d (.sint .i64), .d (.sint .i64), .d (.arr 32 .u8), .d .str, .d (.sint .i64), .d (.sint .i64)] fun v => .sub (F_bytes_Compare n (p0 v) (p1 v) (p2 v) (p3 v) (p5 v) (p10 v)) fun r => .ret ((.val (.sint .i64) r), [⟨0, 5, .box (.agg (.pr (.val (.sint .i64) (p4 v)) (.pr (.val (.arr 32 .u8) (p5 v)) (.pr (.agg (.pr (.val .str (p6 v)) (.pr (.val (.sint .i64) (p7 v)) (.pr (.val (.sint .i64) (p8 v)) .un)))) .un))))⟩, ⟨2, 7, .box (.agg (.pr (.val (.sint .i64) (p9 v)) (.pr (.val (.arr 32 .u8) (p10 v)) (.pr (.agg (.pr (.val .str (p11 v)) (.pr (.val (.sint .i64) (p12 v)) (.pr (.val (.sint .i64) (p13 v)) .un)))) .un))))⟩], 8)
theorem ok_bytes_Compare (n : Nat) : SoundF Try.prog 111 (S_bytes_Compare n) :=
  fn_go false (c := codeOf Try.f111) (tab := mkTab [(119, ⟨S_compare, [], [], false⟩)]) (cuts := mkCuts []) Try.func111 (by kernel_rfl) (.consE (ok_compare Try.func119 (by kernel_rfl) (by kernel_rfl) (by kernel_rfl) (by kernel_rfl)) .nil) (.none0 (by kernel_rfl)) (fun v => by kernel_rfl)
def F_index_order (n : Nat) (x0 : Int) (x1 : List UInt8) (x2 : Int) (x3 : List UInt8) : Tree Int :=
  .ite (!(decide (x0 = x2)))
  (.ret (w64 (x0 - x2)))
  (.get (Option.some Unit.unit) fun y4 =>
  .get (Option.some Unit.unit) fun y5 =>
  .get (Tree.run (F_bytes_Compare n 0 32 0 32 x1 x3)) fun y6 =>
  .ret y6)
def S_index_order (n : Nat) : Summ := mkS ⟨[(.agg (.pr (.val (.sint .i64) (0 : Int)) (.pr (.val (.arr 32 .u8) []) (.pr (.agg (.pr (.val .str []) (.pr (.val (.sint .i64) (0 : Int)) (.pr (.val (.sint .i64) (0 : Int)) .un)))) .un)))), (.agg (.pr (.val (.sint .i64) (0 : Int)) (.pr (.val (.arr 32 .u8) []) (.pr (.agg (.pr (.val .str []) (.pr (.val (.sint .i64) (0 : Int)) (.pr (.val (.sint .i64) (0 : Int)) .un)))) .un))))], [], 0⟩ [.d (.sint .i64), .d (.arr 32 .u8), .d .str, .d (.sint .i64), .d (.sint .i64), .d (.sint .i64), .d (.arr 32 .u8), .d .str, .d (.sint .i64), .d (.sint .i64)] fun v => .sub (F_index_order n (p0 v) (p1 v) (p5 v) (p6 v)) fun r => .ret ((.val (.sint .i64) r), [], 0)
theorem ok_index_order (n : Nat) : SoundF Try.prog 85 (S_index_order n) :=
  fn_go false (c := codeOf Try.f85) (tab := mkTab [(111, ⟨S_bytes_Compare n, [], [], false⟩)]) (cuts := mkCuts []) Try.func85 (by kernel_rfl) (.cons (ok_bytes_Compare n) ⟨_, Try.func111, by kernel_rfl⟩ .nil) (.none0 (by kernel_rfl)) (fun v => by kernel_rfl)
def F_index_Get_l2 (n : Nat) : Nat → (Int) → (Int) → (List (Int × List UInt8 × List UInt8 × Int × Int)) → Tree (Unit ⊕ Unit)
 | 0 => fun  x0 x1 x2 => .fail
 | k + 1 => fun x0 x1 x2 =>
  .ite (decide (x1 < x0))
  (.get (inI (List.length x2) x1) fun y3 =>
  .get (gt x2 (0 + y3)) fun y4 =>
  .get (Tree.run (F_index_Right n y4.1 y4.2.2.1 y4.2.2.2.1 y4.2.2.2.2)) fun y5 =>
  .ite (!y5)
  (.ret (.inl ()))
  (.ite (decide ((0 : Int) < x1))
  (.get (inI (List.length x2) (w64 (x1 - (1 : Int)))) fun y6 =>
  .get (gt x2 (0 + y6)) fun y7 =>
  .get (Tree.run (F_index_order n y7.1 y7.2.1 y4.1 y4.2.1)) fun y8 =>
  .ite (decide ((0 : Int) ≤ y8))
  (.ret (.inl ()))
  (.sub (F_index_Get_l2 n k x0 (w64 (x1 + (1 : Int))) x2) fun y9 =>
  .alt y9 (fun y10 =>
  .ret (.inl ()))
  fun y11 =>
  .ret (.inr ())))
  (.sub (F_index_Get_l2 n k x0 (w64 (x1 + (1 : Int))) x2) fun y12 =>
  .alt y12 (fun y13 =>
  .ret (.inl ()))
  fun y14 =>
  .ret (.inr ()))))
  (.ret (.inr ()))
def S_index_Get_l2 (n k : Nat) : CutF := mkS ⟨[(.whole 0 36), (.whole 0 36), (.val (.sint .i64) (0 : Int)), (.val (.sint .i64) (0 : Int))], [⟨0, 1, .row T5 []⟩], 2⟩ [.d (.sint .i64), .d (.sint .i64), .d T6] fun v => .sub (F_index_Get_l2 n k (p0 v) (p1 v) (p2 v)) fun r => .alt r (fun r => .ret (.rt, [(.snil none), (.val (.sint .i64) (5 : Int))], [⟨0, 3, .row T5 (p2 v)⟩], 4)) (fun r => .ret (.ex 2, [], [⟨0, 3, .row T5 (p2 v)⟩], 4))
theorem rd_index_Get_l2 (n k : Nat) : Rounds Try.prog (Go.Func.ntmps Try.f29) (bodyOf Try.f29 2) C_29_2 [S_index_Get_l2 n k] (S_index_Get_l2 n (k + 1)) :=
  rounds_go (tab := mkTab [(37, ⟨S_index_Right n, [], [], true⟩), (85, ⟨S_index_order n, [], [], false⟩)]) (cuts := mkCuts []) (S_index_Get_l2 n k) [] (.cons (ok_index_Right n) ⟨_, Try.func37, by kernel_rfl⟩ (.cons (ok_index_order n) ⟨_, Try.func85, by kernel_rfl⟩ .nil)) (.none0 (by kernel_rfl)) rfl (fun v => by kernel_rfl)
theorem ok_index_Get_l2 (n k : Nat) : SoundC Try.prog (Go.Func.ntmps Try.f29) (.loop (bodyOf Try.f29 2)) (wr (bodyOf Try.f29 2)) (C_29_2 (S_index_Get_l2 n k)) :=
  loop_go (K := fun k => [S_index_Get_l2 n k]) (fun _ => rfl) (by kernel_rfl) ⟨z_go fun _ => by kernel_rfl, trivial⟩ (fun k => ⟨rd_index_Get_l2 n k, trivial⟩) k rfl
def F_index_Get_l2_1 (n : Nat) : Nat → (Int) → (Int) → Tree Unit
 | 0 => fun  x0 x1 => .fail
 | k + 1 => fun x0 x1 =>
  .ite (decide (x1 < x0))
  (.fail)
  (.ret ())
def S_index_Get_l2_1 (n k : Nat) : CutF := mkS ⟨[(.snil none), (.snil none), (.val (.sint .i64) (0 : Int)), (.val (.sint .i64) (0 : Int))], [], 0⟩ [.d (.sint .i64), .d (.sint .i64)] fun v => .sub (F_index_Get_l2_1 n k (p0 v) (p1 v)) fun r => .ret (.ex 2, [], [], 0)
theorem rd_index_Get_l2_1 (n k : Nat) : Rounds Try.prog (Go.Func.ntmps Try.f29) (bodyOf Try.f29 2) C_29_2 [S_index_Get_l2_1 n k] (S_index_Get_l2_1 n (k + 1)) :=
  rounds_go (tab := mkTab []) (cuts := mkCuts []) (S_index_Get_l2_1 n k) [] .nil (.none0 (by kernel_rfl)) rfl (fun v => by kernel_rfl)
theorem ok_index_Get_l2_1 (n k : Nat) : SoundC Try.prog (Go.Func.ntmps Try.f29) (.loop (bodyOf Try.f29 2)) (wr (bodyOf Try.f29 2)) (C_29_2 (S_index_Get_l2_1 n k)) :=
  loop_go (K := fun k => [S_index_Get_l2_1 n k]) (fun _ => rfl) (by kernel_rfl) ⟨z_go fun _ => by kernel_rfl, trivial⟩ (fun k => ⟨rd_index_Get_l2_1 n k, trivial⟩) k rfl
def F_index_Get (n : Nat) (x0 : List UInt8) : Tree (Int ⊕ (List (Int × List UInt8 × List UInt8 × Int × Int))) :=
  .sub (F_codec_From n x0) fun y1 =>
  .sub (F_codec_Scan_Number n false y1 (0 : Int) (0 : Int) (4096 : Int)) fun y2 =>
  .sub (F_index_Get_l0 n n y2.1 (0 : Int) y2.2.1 y2.2.2.1 y2.2.2.2) fun y3 =>
  .alt y3 (fun y4 =>
  .ret (.inl y4.1))
  fun y5 =>
  .alt y5 (fun y6 =>
  .sub (F_codec_Scan_End n y6.2.2.1 y6.2.2.2) fun y7 =>
  .ite (!(decide (y7 = (0 : Int))))
  (.ret (.inl y7))
  (.sub (F_index_Get_l2 n n (ln y6.1) (0 : Int) y6.1) fun y8 =>
  .alt y8 (fun y9 =>
  .ret (.inl (5 : Int)))
  fun y10 =>
  .ret (.inr y6.1)))
  fun y11 =>
  .sub (F_codec_Scan_End n y2.2.2.1 y2.2.2.2) fun y12 =>
  .ite (!(decide (y12 = (0 : Int))))
  (.ret (.inl y12))
  (.sub (F_index_Get_l2_1 n n (0 : Int) (0 : Int)) fun y13 =>
  .ret (.inl (0 : Int)))
def S_index_Get (n : Nat) : Summ := mkS ⟨[(.whole 0 1)], [⟨0, 1, .row .u8 []⟩], 2⟩ [.d (.list .u8)] fun v => .sub (F_index_Get n (p0 v)) fun r => .alt r (fun r => .ret ((.tup (.pr (.snil none) (.pr (.val (.sint .i64) r) .un))), [⟨0, 3, .row .u8 (p0 v)⟩], 4)) (fun r => .ret ((.tup (.pr (.whole 2 36) (.pr (.val (.sint .i64) (0 : Int)) .un))), [⟨2, 3, .row T5 r⟩, ⟨0, 5, .row .u8 (p0 v)⟩], 6))
theorem ok_index_Get (n : Nat) : SoundF Try.prog 29 (S_index_Get n) :=
  fn_go false (c := codeOf Try.f29) (tab := mkTab [(69, ⟨S_codec_From n, [], [], false⟩), (70, ⟨S_codec_Scan_Number n, [], [], false⟩), (73, ⟨S_codec_Scan_End n, [], [], false⟩)]) (cuts := mkCuts [(0, C_29_0 (S_index_Get_l0 n n)), (2, C_29_2 (orC (S_index_Get_l2 n n) (S_index_Get_l2_1 n n)))]) Try.func29 (by kernel_rfl) (.cons (ok_codec_From n) ⟨_, Try.func69, by kernel_rfl⟩ (.cons (ok_codec_Scan_Number n) ⟨_, Try.func70, by kernel_rfl⟩ (.cons (ok_codec_Scan_End n) ⟨_, Try.func73, by kernel_rfl⟩ .nil))) (CutsOK.list (l := [(0, .lp (bodyOf Try.f29 0)), (2, .lp (bodyOf Try.f29 2))]) (by kernel_rfl) (LoopsOK.all ⟨.inr ⟨_, rfl, ok_index_Get_l0 n n⟩, ⟨.inr ⟨_, rfl, .or (ok_index_Get_l2 n n) (ok_index_Get_l2_1 n n)⟩, trivial⟩⟩)) (fun v => by kernel_rfl)
def F_r17_Scan_fail (n : Nat) : Tree Unit :=
  .ret ()
def S_r17_Scan_fail (n : Nat) : Summ := mkS ⟨[(.agg (.pr (.ro false .u8 []) (.pr (.val (.sint .i64) (0 : Int)) .un))), (.val (.sint .i64) (0 : Int))], [], 0⟩ [.c, .d (.list .u8), .d (.sint .i64), .d (.sint .i64)] fun v => .sub (F_r17_Scan_fail n) fun r => .ret ((.agg (.pr (.ro (p0 v) .u8 (p1 v)) (.pr (.val (.sint .i64) (p3 v)) .un))), [], 0)
theorem ok_r17_Scan_fail (n : Nat) : SoundF Try.prog 108 (S_r17_Scan_fail n) :=
  fn_go true (c := codeOf Try.f108) (tab := mkTab []) (cuts := mkCuts []) Try.func108 (by kernel_rfl) .nil (.none0 (by kernel_rfl)) (fun v => by kernel_rfl)
def C_74_0 : CutF → Cut := fun κ => ⟨[3, 8, 9, 10], fun e => match e with | .ex i => bif Nat.beq i 0 then [9] else [] | .rt => [] | .nm => [] | .go i => [], κ⟩
def F_r17_Scan_Number_l0 (n : Nat) : Nat → (Int) → (Int) → (Int) → (Bool) → (List UInt8) → (Int) → Tree Int
 | 0 => fun  x0 x1 x2 x3 x4 x5 => .fail
 | k + 1 => fun x0 x1 x2 x3 x4 x5 =>
  .ite (decide (x2 ≤ x0))
  (.get (getI x4 x2) fun y6 =>
  .sub (F_r17_Scan_Number_l0 n k x0 (w64 ((w64 (x1 * (256 : Int))) + (Nat.cast (UInt8.toNat y6) : Int))) (w64 (x2 + (1 : Int))) x3 x4 x5) fun y7 =>
  .ret y7)
  (.ret x1)
def S_r17_Scan_Number_l0 (n k : Nat) : CutF := mkS ⟨[(.ptr 0 0), (.val (.sint .i64) (0 : Int)), (.val (.sint .i64) (0 : Int)), (.val (.sint .i64) (0 : Int))], [⟨0, 1, .box (.agg (.pr (.ro false .u8 []) (.pr (.val (.sint .i64) (0 : Int)) .un)))⟩], 2⟩ [.d (.sint .i64), .d (.sint .i64), .d (.sint .i64), .c, .d (.list .u8), .d (.sint .i64)] fun v => .sub (F_r17_Scan_Number_l0 n k (p0 v) (p1 v) (p2 v) (p3 v) (p4 v) (p5 v)) fun r => .ret (.ex 0, [(.val (.sint .i64) r)], [⟨0, 3, .box (.agg (.pr (.ro (p3 v) .u8 (p4 v)) (.pr (.val (.sint .i64) (p5 v)) .un)))⟩], 4)
theorem rd_r17_Scan_Number_l0 (n k : Nat) : Rounds Try.prog (Go.Func.ntmps Try.f74) (bodyOf Try.f74 0) C_74_0 [S_r17_Scan_Number_l0 n k] (S_r17_Scan_Number_l0 n (k + 1)) :=
  rounds_go (tab := mkTab []) (cuts := mkCuts []) (S_r17_Scan_Number_l0 n k) [] .nil (.none0 (by kernel_rfl)) rfl (fun v => by kernel_rfl)
theorem ok_r17_Scan_Number_l0 (n k : Nat) : SoundC Try.prog (Go.Func.ntmps Try.f74) (.loop (bodyOf Try.f74 0)) (wr (bodyOf Try.f74 0)) (C_74_0 (S_r17_Scan_Number_l0 n k)) :=
  loop_go (K := fun k => [S_r17_Scan_Number_l0 n k]) (fun _ => rfl) (by kernel_rfl) ⟨z_go fun _ => by kernel_rfl, trivial⟩ (fun k => ⟨rd_r17_Scan_Number_l0 n k, trivial⟩) k rfl
def F_r17_Scan_Number (n : Nat) (x0 : Bool) (x1 : List UInt8) (x2 : Int) (x3 : Int) (x4 : Int) : Tree ((Int) × ((Bool) × ((List UInt8) × Int))) :=
  .ite (!(decide (x2 = (0 : Int))))
  (.ret ((0 : Int), x0, x1, x2))
  (.ite (decide ((ln x1) = (0 : Int)))
  (.sub (F_r17_Scan_fail n) fun y5 =>
  .ret ((0 : Int), x0, x1, (3 : Int)))
  (.get (getI x1 (0 : Int)) fun y6 =>
  .ite (decide ((7 : Int) < (Nat.cast (UInt8.toNat y6) : Int)))
  (.sub (F_r17_Scan_fail n) fun y7 =>
  .ret ((0 : Int), x0, x1, (5 : Int)))
  (.ite (decide ((w64 ((ln x1) - (1 : Int))) < (Nat.cast (UInt8.toNat y6) : Int)))
  (.sub (F_r17_Scan_fail n) fun y8 =>
  .ret ((0 : Int), x0, x1, (3 : Int)))
  (.sub (F_r17_Scan_Number_l0 n n (Nat.cast (UInt8.toNat y6) : Int) (0 : Int) (1 : Int) x0 x1 x2) fun y9 =>
  .ite (decide ((0 : Int) < (Nat.cast (UInt8.toNat y6) : Int)))
  (.get (getI x1 (1 : Int)) fun y10 =>
  .ite (decide (y10 = (0 : UInt8)))
  (.sub (F_r17_Scan_fail n) fun y11 =>
  .ret ((0 : Int), x0, x1, (5 : Int)))
  (.ite ((decide ((9007199254740992 : Int) < y9)) || ((decide (y9 < x3)) || (decide (x4 < y9))))
  (.sub (F_r17_Scan_fail n) fun y12 =>
  .ret ((0 : Int), x0, x1, (6 : Int)))
  (.get (subI x1 (w64 ((Nat.cast (UInt8.toNat y6) : Int) + (1 : Int))) (ln x1)) fun y13 =>
  .ret (y9, false, y13, (0 : Int)))))
  (.ite ((decide ((9007199254740992 : Int) < y9)) || ((decide (y9 < x3)) || (decide (x4 < y9))))
  (.sub (F_r17_Scan_fail n) fun y14 =>
  .ret ((0 : Int), x0, x1, (6 : Int)))
  (.get (subI x1 (w64 ((Nat.cast (UInt8.toNat y6) : Int) + (1 : Int))) (ln x1)) fun y15 =>
  .ret (y9, false, y15, (0 : Int))))))))
def S_r17_Scan_Number (n : Nat) : Summ := mkS ⟨[(.agg (.pr (.ro false .u8 []) (.pr (.val (.sint .i64) (0 : Int)) .un))), (.val (.sint .i64) (0 : Int)), (.val (.sint .i64) (0 : Int))], [], 0⟩ [.c, .d (.list .u8), .d (.sint .i64), .d (.sint .i64), .d (.sint .i64)] fun v => .sub (F_r17_Scan_Number n (p0 v) (p1 v) (p2 v) (p3 v) (p4 v)) fun r => .ret ((.tup (.pr (.val (.sint .i64) r.1) (.pr (.agg (.pr (.ro r.2.1 .u8 r.2.2.1) (.pr (.val (.sint .i64) r.2.2.2) .un))) .un))), [], 0)
theorem ok_r17_Scan_Number (n : Nat) : SoundF Try.prog 74 (S_r17_Scan_Number n) :=
  fn_go true (c := codeOf Try.f74) (tab := mkTab [(108, ⟨S_r17_Scan_fail n, [], [], true⟩)]) (cuts := mkCuts [(0, C_74_0 (S_r17_Scan_Number_l0 n n))]) Try.func74 (by kernel_rfl) (.cons (ok_r17_Scan_fail n) ⟨_, Try.func108, by kernel_rfl⟩ .nil) (CutsOK.list (l := [(0, .lp (bodyOf Try.f74 0))]) (by kernel_rfl) (LoopsOK.all ⟨.inr ⟨_, rfl, ok_r17_Scan_Number_l0 n n⟩, trivial⟩)) (fun v => by kernel_rfl)
def C_30_0 : CutF → Cut := fun κ => ⟨[4, 5, 6, 7], fun e => match e with | .ex i => bif Nat.beq i 0 then [6] else [] | .rt => [] | .nm => [] | .go i => [], κ⟩
def F_r17_Scan_Fixed (n : Nat) (x0 : List UInt8) (x1 : Int) (x2 : Int) : Tree (Int ⊕ ((List UInt8) × (List UInt8))) :=
  .ite ((!(decide (x1 = (0 : Int)))) || (decide (x2 < (1 : Int))))
  (.ret (.inl x1))
  (.ite (decide ((ln x0) < x2))
  (.sub (F_r17_Scan_fail n) fun y3 =>
  .ret (.inl (3 : Int)))
  (.get (subI x0 (0 : Int) x2) fun y4 =>
  .get (subI x0 x2 (ln x0)) fun y5 =>
  .ret (.inr (y4, y5))))
def S_r17_Scan_Fixed (n : Nat) : Summ := mkS ⟨[(.agg (.pr (.ro false .u8 []) (.pr (.val (.sint .i64) (0 : Int)) .un))), (.val (.sint .i64) (0 : Int))], [], 0⟩ [.c, .d (.list .u8), .d (.sint .i64), .d (.sint .i64)] fun v => .sub (F_r17_Scan_Fixed n (p1 v) (p2 v) (p3 v)) fun r => .alt r (fun r => .ret ((.tup (.pr (.snil none) (.pr (.agg (.pr (.ro (p0 v) .u8 (p1 v)) (.pr (.val (.sint .i64) r) .un))) .un))), [], 0)) (fun r => .ret ((.tup (.pr (.ro false .u8 r.1) (.pr (.agg (.pr (.ro false .u8 r.2) (.pr (.val (.sint .i64) (0 : Int)) .un))) .un))), [], 0))
theorem ok_r17_Scan_Fixed (n : Nat) : SoundF Try.prog 109 (S_r17_Scan_Fixed n) :=
  fn_go true (c := codeOf Try.f109) (tab := mkTab [(108, ⟨S_r17_Scan_fail n, [], [], true⟩)]) (cuts := mkCuts []) Try.func109 (by kernel_rfl) (.cons (ok_r17_Scan_fail n) ⟨_, Try.func108, by kernel_rfl⟩ .nil) (.none0 (by kernel_rfl)) (fun v => by kernel_rfl)
def C_76_0 : CutF → Cut := fun κ => ⟨[4, 6, 7], fun e => match e with | .ex i => bif Nat.beq i 0 then [] else [] | .rt => [] | .nm => [] | .go i => [], κ⟩
def F_r17_Scan_ID_l0 (n : Nat) : Nat → (Int) → (List UInt8) → Tree Unit
 | 0 => fun  x0 x1 => .fail
 | k + 1 => fun x0 x1 =>
  .ite (decide (x0 < (0 : Int)))
  (.fail)
  (.ret ())
def S_r17_Scan_ID_l0 (n k : Nat) : CutF := mkS ⟨[(.snil none), (.ptr 0 0), (.val (.sint .i64) (0 : Int))], [⟨0, 1, .box (.val (.arr 32 .u8) [])⟩], 2⟩ [.d (.sint .i64), .d (.arr 32 .u8)] fun v => .sub (F_r17_Scan_ID_l0 n k (p0 v) (p1 v)) fun r => .ret (.ex 0, [], [⟨0, 3, .box (.val (.arr 32 .u8) (p1 v))⟩], 4)
theorem rd_r17_Scan_ID_l0 (n k : Nat) : Rounds Try.prog (Go.Func.ntmps Try.f76) (bodyOf Try.f76 0) C_76_0 [S_r17_Scan_ID_l0 n k] (S_r17_Scan_ID_l0 n (k + 1)) :=
  rounds_go (tab := mkTab []) (cuts := mkCuts []) (S_r17_Scan_ID_l0 n k) [] .nil (.none0 (by kernel_rfl)) rfl (fun v => by kernel_rfl)
theorem ok_r17_Scan_ID_l0 (n k : Nat) : SoundC Try.prog (Go.Func.ntmps Try.f76) (.loop (bodyOf Try.f76 0)) (wr (bodyOf Try.f76 0)) (C_76_0 (S_r17_Scan_ID_l0 n k)) :=
  loop_go (K := fun k => [S_r17_Scan_ID_l0 n k]) (fun _ => rfl) (by kernel_rfl) ⟨z_go fun _ => by kernel_rfl, trivial⟩ (fun k => ⟨rd_r17_Scan_ID_l0 n k, trivial⟩) k rfl
def F_r17_Scan_ID_l0_1 (n : Nat) : Nat → (Bool) → (List UInt8) → (Int) → (List UInt8) → Tree (List UInt8)
 | 0 => fun  x0 x1 x2 x3 => .fail
 | k + 1 => fun x0 x1 x2 x3 =>
  .ite (decide (x2 < (ln x1)))
  (.get (getI x1 x2) fun y4 =>
  .get (inI 32 x2) fun y5 =>
  .get (gt x3 y5) fun y6 =>
  .sub (F_r17_Scan_ID_l0_1 n k x0 x1 (w64 (x2 + (1 : Int))) (List.set x3 y5 y4)) fun y7 =>
  .ret y7)
  (.ret x3)
def S_r17_Scan_ID_l0_1 (n k : Nat) : CutF := mkS ⟨[(.ro false .u8 []), (.ptr 0 0), (.val (.sint .i64) (0 : Int))], [⟨0, 1, .box (.val (.arr 32 .u8) [])⟩], 2⟩ [.c, .d (.list .u8), .d (.sint .i64), .d (.arr 32 .u8)] fun v => .sub (F_r17_Scan_ID_l0_1 n k (p0 v) (p1 v) (p2 v) (p3 v)) fun r => .ret (.ex 0, [], [⟨0, 3, .box (.val (.arr 32 .u8) r)⟩], 4)
theorem rd_r17_Scan_ID_l0_1 (n k : Nat) : Rounds Try.prog (Go.Func.ntmps Try.f76) (bodyOf Try.f76 0) C_76_0 [S_r17_Scan_ID_l0_1 n k] (S_r17_Scan_ID_l0_1 n (k + 1)) :=
  rounds_go (tab := mkTab []) (cuts := mkCuts []) (S_r17_Scan_ID_l0_1 n k) [] .nil (.none0 (by kernel_rfl)) rfl (fun v => by kernel_rfl)
theorem ok_r17_Scan_ID_l0_1 (n k : Nat) : SoundC Try.prog (Go.Func.ntmps Try.f76) (.loop (bodyOf Try.f76 0)) (wr (bodyOf Try.f76 0)) (C_76_0 (S_r17_Scan_ID_l0_1 n k)) :=
  loop_go (K := fun k => [S_r17_Scan_ID_l0_1 n k]) (fun _ => rfl) (by kernel_rfl) ⟨z_go fun _ => by kernel_rfl, trivial⟩ (fun k => ⟨rd_r17_Scan_ID_l0_1 n k, trivial⟩) k rfl
def F_r17_Scan_ID (n : Nat) (x0 : Bool) (x1 : List UInt8) (x2 : Int) : Tree ((List UInt8) × ((Bool) × ((List UInt8) × Int))) :=
  .sub (F_r17_Scan_Fixed n x1 x2 (32 : Int)) fun y3 =>
  .alt y3 (fun y4 =>
  .sub (F_r17_Scan_ID_l0 n n (0 : Int) (zs 32)) fun y5 =>
  .ret ((zs 32), x0, x1, y4))
  fun y6 =>
  .sub (F_r17_Scan_ID_l0_1 n n false y6.1 (0 : Int) (zs 32)) fun y7 =>
  .ret (y7, false, y6.2, (0 : Int))
def S_r17_Scan_ID (n : Nat) : Summ := mkS ⟨[(.agg (.pr (.ro false .u8 []) (.pr (.val (.sint .i64) (0 : Int)) .un)))], [], 0⟩ [.c, .d (.list .u8), .d (.sint .i64)] fun v => .sub (F_r17_Scan_ID n (p0 v) (p1 v) (p2 v)) fun r => .ret ((.tup (.pr (.val (.arr 32 .u8) r.1) (.pr (.agg (.pr (.ro r.2.1 .u8 r.2.2.1) (.pr (.val (.sint .i64) r.2.2.2) .un))) .un))), [], 0)
theorem ok_r17_Scan_ID (n : Nat) : SoundF Try.prog 76 (S_r17_Scan_ID n) :=
  fn_go true (c := codeOf Try.f76) (tab := mkTab [(109, ⟨S_r17_Scan_Fixed n, [], [], true⟩)]) (cuts := mkCuts [(0, C_76_0 (orC (S_r17_Scan_ID_l0 n n) (S_r17_Scan_ID_l0_1 n n)))]) Try.func76 (by kernel_rfl) (.cons (ok_r17_Scan_Fixed n) ⟨_, Try.func109, by kernel_rfl⟩ .nil) (CutsOK.list (l := [(0, .lp (bodyOf Try.f76 0))]) (by kernel_rfl) (LoopsOK.all ⟨.inr ⟨_, rfl, .or (ok_r17_Scan_ID_l0 n n) (ok_r17_Scan_ID_l0_1 n n)⟩, trivial⟩)) (fun v => by kernel_rfl)
def F_r17_Scan_Text (n : Nat) (x0 : Bool) (x1 : List UInt8) (x2 : Int) (x3 : Int) : Tree (((Bool) × ((List UInt8) × Int)) ⊕ ((List UInt8) × (List UInt8))) :=
  .sub (F_r17_Scan_Number n x0 x1 x2 (0 : Int) (9007199254740992 : Int)) fun y4 =>
  .ite (!(decide (y4.2.2.2 = (0 : Int))))
  (.ret (.inl (y4.2.1, y4.2.2.1, y4.2.2.2)))
  (.ite (decide ((maxI x3 (0 : Int)) < y4.1))
  (.sub (F_r17_Scan_fail n) fun y5 =>
  .ret (.inl (x0, x1, (2 : Int))))
  (.ite (decide ((ln y4.2.2.1) < y4.1))
  (.sub (F_r17_Scan_fail n) fun y6 =>
  .ret (.inl (x0, x1, (3 : Int))))
  (.sub (F_r17_Scan_Fixed n y4.2.2.1 y4.2.2.2 y4.1) fun y7 =>
  .alt y7 (fun y8 =>
  .ret (.inl (y4.2.1, y4.2.2.1, y8)))
  fun y9 =>
  .ret (.inr (y9.1, y9.2)))))
def S_r17_Scan_Text (n : Nat) : Summ := mkS ⟨[(.agg (.pr (.ro false .u8 []) (.pr (.val (.sint .i64) (0 : Int)) .un))), (.val (.sint .i64) (0 : Int))], [], 0⟩ [.c, .d (.list .u8), .d (.sint .i64), .d (.sint .i64)] fun v => .sub (F_r17_Scan_Text n (p0 v) (p1 v) (p2 v) (p3 v)) fun r => .alt r (fun r => .ret ((.tup (.pr (.snil none) (.pr (.agg (.pr (.ro r.1 .u8 r.2.1) (.pr (.val (.sint .i64) r.2.2) .un))) .un))), [], 0)) (fun r => .ret ((.tup (.pr (.ro false .u8 r.1) (.pr (.agg (.pr (.ro false .u8 r.2) (.pr (.val (.sint .i64) (0 : Int)) .un))) .un))), [], 0))
theorem ok_r17_Scan_Text (n : Nat) : SoundF Try.prog 75 (S_r17_Scan_Text n) :=
  fn_go true (c := codeOf Try.f75) (tab := mkTab [(74, ⟨S_r17_Scan_Number n, [], [], true⟩), (108, ⟨S_r17_Scan_fail n, [], [], true⟩), (109, ⟨S_r17_Scan_Fixed n, [], [], true⟩)]) (cuts := mkCuts []) Try.func75 (by kernel_rfl) (.cons (ok_r17_Scan_Number n) ⟨_, Try.func74, by kernel_rfl⟩ (.cons (ok_r17_Scan_fail n) ⟨_, Try.func108, by kernel_rfl⟩ (.cons (ok_r17_Scan_Fixed n) ⟨_, Try.func109, by kernel_rfl⟩ .nil))) (.none0 (by kernel_rfl)) (fun v => by kernel_rfl)
def F_r20_Get_l0_1 (n : Nat) : Nat → (Int) → (Int) → (Bool) → (List UInt8) → (Int) → (List (Int × List UInt8 × List UInt8 × Int × Int)) → Tree (Unit ⊕ ((List (Int × List UInt8 × List UInt8 × Int × Int)) × ((Bool) × ((List UInt8) × Int))))
 | 0 => fun  x0 x1 x2 x3 x4 x5 => .fail
 | k + 1 => fun x0 x1 x2 x3 x4 x5 =>
  .ite ((decide (x1 < x0)) && (decide (x4 = (0 : Int))))
  (.sub (F_r17_Scan_Number n x2 x3 x4 (1 : Int) (3 : Int)) fun y6 =>
  .sub (F_r17_Scan_ID n y6.2.1 y6.2.2.1 y6.2.2.2) fun y7 =>
  .sub (F_r17_Scan_Text n y7.2.1 y7.2.2.1 y7.2.2.2 (32 : Int)) fun y8 =>
  .alt y8 (fun y9 =>
  .sub (F_r17_Scan_Number n y9.1 y9.2.1 y9.2.2 (8 : Int) (65536 : Int)) fun y10 =>
  .sub (F_r17_Scan_Number n y10.2.1 y10.2.2.1 y10.2.2.2 (28 : Int) (65536 : Int)) fun y11 =>
  .get (appI 1954687338268 x5 (List.set ([((0 : Int), ((zs 32), (([] : List UInt8), ((0 : Int), (0 : Int)))))] : List (Int × ((List UInt8) × ((List UInt8) × (Int × Int))))) 0 (y6.1, (y7.1, (([] : List UInt8), (y10.1, y11.1)))))) fun y12 =>
  .sub (F_r20_Get_l0_1 n k x0 (w64 (x1 + (1 : Int))) y11.2.1 y11.2.2.1 y11.2.2.2 y12) fun y13 =>
  .alt y13 (fun y14 =>
  .ret (.inr (y12, y11.2.1, y11.2.2.1, y11.2.2.2)))
  fun y15 =>
  .ret (.inr (y15.1, y15.2.1, y15.2.2.1, y15.2.2.2)))
  fun y16 =>
  .sub (F_r17_Scan_Number n false y16.2 (0 : Int) (8 : Int) (65536 : Int)) fun y17 =>
  .sub (F_r17_Scan_Number n y17.2.1 y17.2.2.1 y17.2.2.2 (28 : Int) (65536 : Int)) fun y18 =>
  .get (appI 1954687338268 x5 (List.set ([((0 : Int), ((zs 32), (([] : List UInt8), ((0 : Int), (0 : Int)))))] : List (Int × ((List UInt8) × ((List UInt8) × (Int × Int))))) 0 (y6.1, (y7.1, (y16.1, (y17.1, y18.1)))))) fun y19 =>
  .sub (F_r20_Get_l0_1 n k x0 (w64 (x1 + (1 : Int))) y18.2.1 y18.2.2.1 y18.2.2.2 y19) fun y20 =>
  .alt y20 (fun y21 =>
  .ret (.inr (y19, y18.2.1, y18.2.2.1, y18.2.2.2)))
  fun y22 =>
  .ret (.inr (y22.1, y22.2.1, y22.2.2.1, y22.2.2.2)))
  (.ret (.inl ()))
def S_r20_Get_l0_1 (n k : Nat) : CutF := mkS ⟨[(.val (.sint .i64) (0 : Int)), (.ptr 0 0), (.whole 2 36), (.val (.sint .i64) (0 : Int))], [⟨0, 1, .box (.agg (.pr (.ro false .u8 []) (.pr (.val (.sint .i64) (0 : Int)) .un)))⟩, ⟨2, 3, .row T5 []⟩], 4⟩ [.d (.sint .i64), .d (.sint .i64), .c, .d (.list .u8), .d (.sint .i64), .d T6] fun v => .sub (F_r20_Get_l0_1 n k (p0 v) (p1 v) (p2 v) (p3 v) (p4 v) (p5 v)) fun r => .alt r (fun r => .ret (.ex 0, [(.whole 2 36)], [⟨2, 5, .row T5 (p5 v)⟩, ⟨0, 7, .box (.agg (.pr (.ro (p2 v) .u8 (p3 v)) (.pr (.val (.sint .i64) (p4 v)) .un)))⟩], 8)) (fun r => .ret (.ex 0, [(.whole 4 36)], [⟨4, 5, .row T5 r.1⟩, ⟨0, 7, .box (.agg (.pr (.ro r.2.1 .u8 r.2.2.1) (.pr (.val (.sint .i64) r.2.2.2) .un)))⟩], 8))
theorem rd_r20_Get_l0_1 (n k : Nat) : Rounds Try.prog (Go.Func.ntmps Try.f30) (bodyOf Try.f30 0) C_30_0 [S_r20_Get_l0_1 n k] (S_r20_Get_l0_1 n (k + 1)) :=
  rounds_go (tab := mkTab [(74, ⟨S_r17_Scan_Number n, [], [], true⟩), (76, ⟨S_r17_Scan_ID n, [], [], true⟩), (75, ⟨S_r17_Scan_Text n, [], [], true⟩)]) (cuts := mkCuts []) (S_r20_Get_l0_1 n k) [] (.cons (ok_r17_Scan_Number n) ⟨_, Try.func74, by kernel_rfl⟩ (.cons (ok_r17_Scan_ID n) ⟨_, Try.func76, by kernel_rfl⟩ (.cons (ok_r17_Scan_Text n) ⟨_, Try.func75, by kernel_rfl⟩ .nil))) (.none0 (by kernel_rfl)) rfl (fun v => by kernel_rfl)
theorem ok_r20_Get_l0_1 (n k : Nat) : SoundC Try.prog (Go.Func.ntmps Try.f30) (.loop (bodyOf Try.f30 0)) (wr (bodyOf Try.f30 0)) (C_30_0 (S_r20_Get_l0_1 n k)) :=
  loop_go (K := fun k => [S_r20_Get_l0_1 n k]) (fun _ => rfl) (by kernel_rfl) ⟨z_go fun _ => by kernel_rfl, trivial⟩ (fun k => ⟨rd_r20_Get_l0_1 n k, trivial⟩) k rfl
def F_r20_Get_l0 (n : Nat) : Nat → (Int) → (Int) → (Bool) → (List UInt8) → (Int) → Tree (((List (Int × List UInt8 × List UInt8 × Int × Int)) × ((Bool) × ((List UInt8) × Int))) ⊕ Unit)
 | 0 => fun  x0 x1 x2 x3 x4 => .fail
 | k + 1 => fun x0 x1 x2 x3 x4 =>
  .ite ((decide (x1 < x0)) && (decide (x4 = (0 : Int))))
  (.sub (F_r17_Scan_Number n x2 x3 x4 (1 : Int) (3 : Int)) fun y5 =>
  .sub (F_r17_Scan_ID n y5.2.1 y5.2.2.1 y5.2.2.2) fun y6 =>
  .sub (F_r17_Scan_Text n y6.2.1 y6.2.2.1 y6.2.2.2 (32 : Int)) fun y7 =>
  .alt y7 (fun y8 =>
  .sub (F_r17_Scan_Number n y8.1 y8.2.1 y8.2.2 (8 : Int) (65536 : Int)) fun y9 =>
  .sub (F_r17_Scan_Number n y9.2.1 y9.2.2.1 y9.2.2.2 (28 : Int) (65536 : Int)) fun y10 =>
  .get (appI 1954687338268 ([] : List (Int × ((List UInt8) × ((List UInt8) × (Int × Int))))) (List.set ([((0 : Int), ((zs 32), (([] : List UInt8), ((0 : Int), (0 : Int)))))] : List (Int × ((List UInt8) × ((List UInt8) × (Int × Int))))) 0 (y5.1, (y6.1, (([] : List UInt8), (y9.1, y10.1)))))) fun y11 =>
  .sub (F_r20_Get_l0_1 n k x0 (w64 (x1 + (1 : Int))) y10.2.1 y10.2.2.1 y10.2.2.2 y11) fun y12 =>
  .alt y12 (fun y13 =>
  .ret (.inl (y11, y10.2.1, y10.2.2.1, y10.2.2.2)))
  fun y14 =>
  .ret (.inl (y14.1, y14.2.1, y14.2.2.1, y14.2.2.2)))
  fun y15 =>
  .sub (F_r17_Scan_Number n false y15.2 (0 : Int) (8 : Int) (65536 : Int)) fun y16 =>
  .sub (F_r17_Scan_Number n y16.2.1 y16.2.2.1 y16.2.2.2 (28 : Int) (65536 : Int)) fun y17 =>
  .get (appI 1954687338268 ([] : List (Int × ((List UInt8) × ((List UInt8) × (Int × Int))))) (List.set ([((0 : Int), ((zs 32), (([] : List UInt8), ((0 : Int), (0 : Int)))))] : List (Int × ((List UInt8) × ((List UInt8) × (Int × Int))))) 0 (y5.1, (y6.1, (y15.1, (y16.1, y17.1)))))) fun y18 =>
  .sub (F_r20_Get_l0_1 n k x0 (w64 (x1 + (1 : Int))) y17.2.1 y17.2.2.1 y17.2.2.2 y18) fun y19 =>
  .alt y19 (fun y20 =>
  .ret (.inl (y18, y17.2.1, y17.2.2.1, y17.2.2.2)))
  fun y21 =>
  .ret (.inl (y21.1, y21.2.1, y21.2.2.1, y21.2.2.2)))
  (.ret (.inr ()))
def S_r20_Get_l0 (n k : Nat) : CutF := mkS ⟨[(.val (.sint .i64) (0 : Int)), (.ptr 0 0), (.snil none), (.val (.sint .i64) (0 : Int))], [⟨0, 1, .box (.agg (.pr (.ro false .u8 []) (.pr (.val (.sint .i64) (0 : Int)) .un)))⟩], 2⟩ [.d (.sint .i64), .d (.sint .i64), .c, .d (.list .u8), .d (.sint .i64)] fun v => .sub (F_r20_Get_l0 n k (p0 v) (p1 v) (p2 v) (p3 v) (p4 v)) fun r => .alt r (fun r => .ret (.ex 0, [(.whole 2 36)], [⟨2, 3, .row T5 r.1⟩, ⟨0, 5, .box (.agg (.pr (.ro r.2.1 .u8 r.2.2.1) (.pr (.val (.sint .i64) r.2.2.2) .un)))⟩], 6)) (fun r => .ret (.ex 0, [(.snil none)], [⟨0, 3, .box (.agg (.pr (.ro (p2 v) .u8 (p3 v)) (.pr (.val (.sint .i64) (p4 v)) .un)))⟩], 4))
theorem rd_r20_Get_l0 (n k : Nat) : Rounds Try.prog (Go.Func.ntmps Try.f30) (bodyOf Try.f30 0) C_30_0 [S_r20_Get_l0 n k, S_r20_Get_l0_1 n k] (S_r20_Get_l0 n (k + 1)) :=
  rounds_go (tab := mkTab [(74, ⟨S_r17_Scan_Number n, [], [], true⟩), (76, ⟨S_r17_Scan_ID n, [], [], true⟩), (75, ⟨S_r17_Scan_Text n, [], [], true⟩)]) (cuts := mkCuts []) (S_r20_Get_l0 n k) [S_r20_Get_l0_1 n k] (.cons (ok_r17_Scan_Number n) ⟨_, Try.func74, by kernel_rfl⟩ (.cons (ok_r17_Scan_ID n) ⟨_, Try.func76, by kernel_rfl⟩ (.cons (ok_r17_Scan_Text n) ⟨_, Try.func75, by kernel_rfl⟩ .nil))) (.none0 (by kernel_rfl)) rfl (fun v => by kernel_rfl)
theorem ok_r20_Get_l0 (n k : Nat) : SoundC Try.prog (Go.Func.ntmps Try.f30) (.loop (bodyOf Try.f30 0)) (wr (bodyOf Try.f30 0)) (C_30_0 (S_r20_Get_l0 n k)) :=
  loop_go (K := fun k => [S_r20_Get_l0 n k, S_r20_Get_l0_1 n k]) (fun _ => rfl) (by kernel_rfl) ⟨z_go fun _ => by kernel_rfl, z_go fun _ => by kernel_rfl, trivial⟩ (fun k => ⟨rd_r20_Get_l0 n k, (rd_r20_Get_l0_1 n k).mono (List.forall_mem_cons.2 ⟨(.tail _ (.head _)), (fun _ h => by cases h)⟩), trivial⟩) k rfl
def F_r17_Scan_End (n : Nat) (x0 : List UInt8) (x1 : Int) : Tree Int :=
  .ite ((decide (x1 = (0 : Int))) && (decide ((0 : Int) < (ln x0))))
  (.ret (4 : Int))
  (.ret x1)
def S_r17_Scan_End (n : Nat) : Summ := mkS ⟨[(.agg (.pr (.ro false .u8 []) (.pr (.val (.sint .i64) (0 : Int)) .un)))], [], 0⟩ [.c, .d (.list .u8), .d (.sint .i64)] fun v => .sub (F_r17_Scan_End n (p1 v) (p2 v)) fun r => .ret ((.val (.sint .i64) r), [], 0)
theorem ok_r17_Scan_End (n : Nat) : SoundF Try.prog 77 (S_r17_Scan_End n) :=
  fn_go true (c := codeOf Try.f77) (tab := mkTab []) (cuts := mkCuts []) Try.func77 (by kernel_rfl) .nil (.none0 (by kernel_rfl)) (fun v => by kernel_rfl)
def C_30_2 : CutF → Cut := fun κ => ⟨[6, 10], fun e => match e with | .ex i => bif Nat.beq i 2 then [] else [] | .rt => [2, 3] | .nm => [] | .go i => [], κ⟩
def C_16_0 : CutF → Cut := fun κ => ⟨[0, 3], fun e => match e with | .ex i => bif Nat.beq i 0 then [] else [] | .rt => [2] | .nm => [] | .go i => [], κ⟩
def F_r16_Named_l0 (n : Nat) : Nat → (List UInt8) → (Int) → Tree (Unit ⊕ Unit)
 | 0 => fun  x0 x1 => .fail
 | k + 1 => fun x0 x1 =>
  .ite (decide (x1 < (ln x0)))
  (.get (getI x0 x1) fun y2 =>
  .ite (decide ((97 : UInt8) ≤ y2))
  (.get (getI x0 x1) fun y3 =>
  .get (getI x0 x1) fun y4 =>
  .ite (decide ((48 : UInt8) ≤ y4))
  (.get (getI x0 x1) fun y5 =>
  .ite ((!(decide (y3 ≤ (122 : UInt8)))) && (!(decide (y5 ≤ (57 : UInt8)))))
  (.ret (.inl ()))
  (.sub (F_r16_Named_l0 n k x0 (w64 (x1 + (1 : Int)))) fun y6 =>
  .alt y6 (fun y7 =>
  .ret (.inl ()))
  fun y8 =>
  .ret (.inr ())))
  (.ite (!(decide (y3 ≤ (122 : UInt8))))
  (.ret (.inl ()))
  (.sub (F_r16_Named_l0 n k x0 (w64 (x1 + (1 : Int)))) fun y9 =>
  .alt y9 (fun y10 =>
  .ret (.inl ()))
  fun y11 =>
  .ret (.inr ()))))
  (.get (getI x0 x1) fun y12 =>
  .ite (decide ((48 : UInt8) ≤ y12))
  (.get (getI x0 x1) fun y13 =>
  .ite (!(decide (y13 ≤ (57 : UInt8))))
  (.ret (.inl ()))
  (.sub (F_r16_Named_l0 n k x0 (w64 (x1 + (1 : Int)))) fun y14 =>
  .alt y14 (fun y15 =>
  .ret (.inl ()))
  fun y16 =>
  .ret (.inr ())))
  (.ret (.inl ()))))
  (.ret (.inr ()))
def S_r16_Named_l0 (n k : Nat) : CutF := mkS ⟨[(.val .str []), (.val (.sint .i64) (0 : Int))], [], 0⟩ [.d .str, .d (.sint .i64)] fun v => .sub (F_r16_Named_l0 n k (p0 v) (p1 v)) fun r => .alt r (fun r => .ret (.rt, [(.val .bool false)], [], 0)) (fun r => .ret (.ex 0, [], [], 0))
theorem rd_r16_Named_l0 (n k : Nat) : Rounds Try.prog (Go.Func.ntmps Try.f16) (bodyOf Try.f16 0) C_16_0 [S_r16_Named_l0 n k] (S_r16_Named_l0 n (k + 1)) :=
  rounds_go (tab := mkTab []) (cuts := mkCuts []) (S_r16_Named_l0 n k) [] .nil (.none0 (by kernel_rfl)) rfl (fun v => by kernel_rfl)
theorem ok_r16_Named_l0 (n k : Nat) : SoundC Try.prog (Go.Func.ntmps Try.f16) (.loop (bodyOf Try.f16 0)) (wr (bodyOf Try.f16 0)) (C_16_0 (S_r16_Named_l0 n k)) :=
  loop_go (K := fun k => [S_r16_Named_l0 n k]) (fun _ => rfl) (by kernel_rfl) ⟨z_go fun _ => by kernel_rfl, trivial⟩ (fun k => ⟨rd_r16_Named_l0 n k, trivial⟩) k rfl
def F_r16_Named (n : Nat) (x0 : List UInt8) : Tree Bool :=
  .sub (F_r16_Named_l0 n n x0 (0 : Int)) fun y1 =>
  .alt y1 (fun y2 =>
  .ret false)
  fun y3 =>
  .ret ((decide ((1 : Int) ≤ (ln x0))) && (decide ((ln x0) ≤ (32 : Int))))
def S_r16_Named (n : Nat) : Summ := mkS ⟨[(.val .str [])], [], 0⟩ [.d .str] fun v => .sub (F_r16_Named n (p0 v)) fun r => .ret ((.val .bool r), [], 0)
theorem ok_r16_Named (n : Nat) : SoundF Try.prog 16 (S_r16_Named n) :=
  fn_go true (c := codeOf Try.f16) (tab := mkTab []) (cuts := mkCuts [(0, C_16_0 (S_r16_Named_l0 n n))]) Try.func16 (by kernel_rfl) .nil (CutsOK.list (l := [(0, .lp (bodyOf Try.f16 0))]) (by kernel_rfl) (LoopsOK.all ⟨.inr ⟨_, rfl, ok_r16_Named_l0 n n⟩, trivial⟩)) (fun v => by kernel_rfl)
def F_r20_Right (n : Nat) (x0 : Int) (x1 : List UInt8) (x2 : Int) (x3 : Int) : Tree Bool :=
  .ite (decide (x0 < (1 : Int)))
  (.ret false)
  (.ite (decide ((3 : Int) < x0))
  (.ret false)
  (.sub (F_r16_Named n x1) fun y4 =>
  .ite (!y4)
  (.ret false)
  (.ite ((decide (x2 < (8 : Int))) || ((decide ((65536 : Int) < x2)) || ((decide (x3 < (28 : Int))) || (decide ((65536 : Int) < x3)))))
  (.ret false)
  (.ret (decide ((w64 (x2 + x3)) ≤ (65536 : Int)))))))
def S_r20_Right (n : Nat) : Summ := mkS ⟨[(.agg (.pr (.val (.sint .i64) (0 : Int)) (.pr (.val (.arr 32 .u8) []) (.pr (.agg (.pr (.val .str []) (.pr (.val (.sint .i64) (0 : Int)) (.pr (.val (.sint .i64) (0 : Int)) .un)))) .un))))], [], 0⟩ [.d (.sint .i64), .d (.arr 32 .u8), .d .str, .d (.sint .i64), .d (.sint .i64)] fun v => .sub (F_r20_Right n (p0 v) (p2 v) (p3 v) (p4 v)) fun r => .ret ((.val .bool r), [], 0)
theorem ok_r20_Right (n : Nat) : SoundF Try.prog 38 (S_r20_Right n) :=
  fn_go true (c := codeOf Try.f38) (tab := mkTab [(16, ⟨S_r16_Named n, [], [], true⟩)]) (cuts := mkCuts []) Try.func38 (by kernel_rfl) (.cons (ok_r16_Named n) ⟨_, Try.func16, by kernel_rfl⟩ .nil) (.none0 (by kernel_rfl)) (fun v => by kernel_rfl)
def C_86_0 : CutF → Cut := fun κ => ⟨[2, 3, 5], fun e => match e with | .ex i => bif Nat.beq i 0 then [] else [] | .rt => [4] | .nm => [] | .go i => [], κ⟩
def F_r20_Before_l0 (n : Nat) : Nat → (Int) → (Int) → (List UInt8) → (List UInt8) → (Int) → (Int) → (Int) → (List UInt8) → (List UInt8) → (Int) → (Int) → Tree (Bool ⊕ Unit)
 | 0 => fun  x0 x1 x2 x3 x4 x5 x6 x7 x8 x9 x10 => .fail
 | k + 1 => fun x0 x1 x2 x3 x4 x5 x6 x7 x8 x9 x10 =>
  .ite (decide (x0 < (32 : Int)))
  (.get (inI 32 x0) fun y11 =>
  .get (gt x2 y11) fun y12 =>
  .get (inI 32 x0) fun y13 =>
  .get (gt x7 y13) fun y14 =>
  .ite (!(decide (y12 = y14)))
  (.get (inI 32 x0) fun y15 =>
  .get (gt x2 y15) fun y16 =>
  .get (inI 32 x0) fun y17 =>
  .get (gt x7 y17) fun y18 =>
  .ret (.inl (decide (y16 < y18))))
  (.sub (F_r20_Before_l0 n k (w64 (x0 + (1 : Int))) x1 x2 x3 x4 x5 x6 x7 x8 x9 x10) fun y19 =>
  .alt y19 (fun y20 =>
  .ret (.inl y20))
  fun y21 =>
  .ret (.inr ())))
  (.ret (.inr ()))
def S_r20_Before_l0 (n k : Nat) : CutF := mkS ⟨[(.ptr 0 0), (.ptr 2 0), (.val (.sint .i64) (0 : Int))], [⟨0, 1, .box (.agg (.pr (.val (.sint .i64) (0 : Int)) (.pr (.val (.arr 32 .u8) []) (.pr (.agg (.pr (.val .str []) (.pr (.val (.sint .i64) (0 : Int)) (.pr (.val (.sint .i64) (0 : Int)) .un)))) .un))))⟩, ⟨2, 3, .box (.agg (.pr (.val (.sint .i64) (0 : Int)) (.pr (.val (.arr 32 .u8) []) (.pr (.agg (.pr (.val .str []) (.pr (.val (.sint .i64) (0 : Int)) (.pr (.val (.sint .i64) (0 : Int)) .un)))) .un))))⟩], 4⟩ [.d (.sint .i64), .d (.sint .i64), .d (.arr 32 .u8), .d .str, .d (.sint .i64), .d (.sint .i64), .d (.sint .i64), .d (.arr 32 .u8), .d .str, .d (.sint .i64), .d (.sint .i64)] fun v => .sub (F_r20_Before_l0 n k (p0 v) (p1 v) (p2 v) (p3 v) (p4 v) (p5 v) (p6 v) (p7 v) (p8 v) (p9 v) (p10 v)) fun r => .alt r (fun r => .ret (.rt, [(.val .bool r)], [⟨0, 5, .box (.agg (.pr (.val (.sint .i64) (p1 v)) (.pr (.val (.arr 32 .u8) (p2 v)) (.pr (.agg (.pr (.val .str (p3 v)) (.pr (.val (.sint .i64) (p4 v)) (.pr (.val (.sint .i64) (p5 v)) .un)))) .un))))⟩, ⟨2, 7, .box (.agg (.pr (.val (.sint .i64) (p6 v)) (.pr (.val (.arr 32 .u8) (p7 v)) (.pr (.agg (.pr (.val .str (p8 v)) (.pr (.val (.sint .i64) (p9 v)) (.pr (.val (.sint .i64) (p10 v)) .un)))) .un))))⟩], 8)) (fun r => .ret (.ex 0, [], [⟨0, 5, .box (.agg (.pr (.val (.sint .i64) (p1 v)) (.pr (.val (.arr 32 .u8) (p2 v)) (.pr (.agg (.pr (.val .str (p3 v)) (.pr (.val (.sint .i64) (p4 v)) (.pr (.val (.sint .i64) (p5 v)) .un)))) .un))))⟩, ⟨2, 7, .box (.agg (.pr (.val (.sint .i64) (p6 v)) (.pr (.val (.arr 32 .u8) (p7 v)) (.pr (.agg (.pr (.val .str (p8 v)) (.pr (.val (.sint .i64) (p9 v)) (.pr (.val (.sint .i64) (p10 v)) .un)))) .un))))⟩], 8))
theorem rd_r20_Before_l0 (n k : Nat) : Rounds Try.prog (Go.Func.ntmps Try.f86) (bodyOf Try.f86 0) C_86_0 [S_r20_Before_l0 n k] (S_r20_Before_l0 n (k + 1)) :=
  rounds_go (tab := mkTab []) (cuts := mkCuts []) (S_r20_Before_l0 n k) [] .nil (.none0 (by kernel_rfl)) rfl (fun v => by kernel_rfl)
theorem ok_r20_Before_l0 (n k : Nat) : SoundC Try.prog (Go.Func.ntmps Try.f86) (.loop (bodyOf Try.f86 0)) (wr (bodyOf Try.f86 0)) (C_86_0 (S_r20_Before_l0 n k)) :=
  loop_go (K := fun k => [S_r20_Before_l0 n k]) (fun _ => rfl) (by kernel_rfl) ⟨z_go fun _ => by kernel_rfl, trivial⟩ (fun k => ⟨rd_r20_Before_l0 n k, trivial⟩) k rfl
def F_r20_Before (n : Nat) (x0 : Int) (x1 : List UInt8) (x2 : List UInt8) (x3 : Int) (x4 : Int) (x5 : Int) (x6 : List UInt8) (x7 : List UInt8) (x8 : Int) (x9 : Int) : Tree Bool :=
  .ite (!(decide (x0 = x5)))
  (.ret (decide (x0 < x5)))
  (.sub (F_r20_Before_l0 n n (0 : Int) x0 x1 x2 x3 x4 x5 x6 x7 x8 x9) fun y10 =>
  .alt y10 (fun y11 =>
  .ret y11)
  fun y12 =>
  .ret false)
def S_r20_Before (n : Nat) : Summ := mkS ⟨[(.agg (.pr (.val (.sint .i64) (0 : Int)) (.pr (.val (.arr 32 .u8) []) (.pr (.agg (.pr (.val .str []) (.pr (.val (.sint .i64) (0 : Int)) (.pr (.val (.sint .i64) (0 : Int)) .un)))) .un)))), (.agg (.pr (.val (.sint .i64) (0 : Int)) (.pr (.val (.arr 32 .u8) []) (.pr (.agg (.pr (.val .str []) (.pr (.val (.sint .i64) (0 : Int)) (.pr (.val (.sint .i64) (0 : Int)) .un)))) .un))))], [], 0⟩ [.d (.sint .i64), .d (.arr 32 .u8), .d .str, .d (.sint .i64), .d (.sint .i64), .d (.sint .i64), .d (.arr 32 .u8), .d .str, .d (.sint .i64), .d (.sint .i64)] fun v => .sub (F_r20_Before n (p0 v) (p1 v) (p2 v) (p3 v) (p4 v) (p5 v) (p6 v) (p7 v) (p8 v) (p9 v)) fun r => .ret ((.val .bool r), [], 0)
theorem ok_r20_Before (n : Nat) : SoundF Try.prog 86 (S_r20_Before n) :=
  fn_go true (c := codeOf Try.f86) (tab := mkTab []) (cuts := mkCuts [(0, C_86_0 (S_r20_Before_l0 n n))]) Try.func86 (by kernel_rfl) .nil (CutsOK.list (l := [(0, .lp (bodyOf Try.f86 0))]) (by kernel_rfl) (LoopsOK.all ⟨.inr ⟨_, rfl, ok_r20_Before_l0 n n⟩, trivial⟩)) (fun v => by kernel_rfl)
def F_r20_Get_l2 (n : Nat) : Nat → (Int) → (List (Int × List UInt8 × List UInt8 × Int × Int)) → Tree (Unit ⊕ Unit)
 | 0 => fun  x0 x1 => .fail
 | k + 1 => fun x0 x1 =>
  .ite (decide (x0 < (ln x1)))
  (.get (inI (List.length x1) x0) fun y2 =>
  .get (gt x1 (0 + y2)) fun y3 =>
  .get (Tree.run (F_r20_Right n y3.1 y3.2.2.1 y3.2.2.2.1 y3.2.2.2.2)) fun y4 =>
  .ite (!y4)
  (.ret (.inl ()))
  (.ite (decide ((0 : Int) < x0))
  (.get (inI (List.length x1) (w64 (x0 - (1 : Int)))) fun y5 =>
  .get (gt x1 (0 + y5)) fun y6 =>
  .get (inI (List.length x1) x0) fun y7 =>
  .get (gt x1 (0 + y7)) fun y8 =>
  .get (Tree.run (F_r20_Before n y6.1 y6.2.1 y6.2.2.1 y6.2.2.2.1 y6.2.2.2.2 y8.1 y8.2.1 y8.2.2.1 y8.2.2.2.1 y8.2.2.2.2)) fun y9 =>
  .ite (!y9)
  (.ret (.inl ()))
  (.sub (F_r20_Get_l2 n k (w64 (x0 + (1 : Int))) x1) fun y10 =>
  .alt y10 (fun y11 =>
  .ret (.inl ()))
  fun y12 =>
  .ret (.inr ())))
  (.sub (F_r20_Get_l2 n k (w64 (x0 + (1 : Int))) x1) fun y13 =>
  .alt y13 (fun y14 =>
  .ret (.inl ()))
  fun y15 =>
  .ret (.inr ()))))
  (.ret (.inr ()))
def S_r20_Get_l2 (n k : Nat) : CutF := mkS ⟨[(.whole 0 36), (.val (.sint .i64) (0 : Int))], [⟨0, 1, .row T5 []⟩], 2⟩ [.d (.sint .i64), .d T6] fun v => .sub (F_r20_Get_l2 n k (p0 v) (p1 v)) fun r => .alt r (fun r => .ret (.rt, [(.snil none), (.val (.sint .i64) (5 : Int))], [⟨0, 3, .row T5 (p1 v)⟩], 4)) (fun r => .ret (.ex 2, [], [⟨0, 3, .row T5 (p1 v)⟩], 4))
theorem rd_r20_Get_l2 (n k : Nat) : Rounds Try.prog (Go.Func.ntmps Try.f30) (bodyOf Try.f30 2) C_30_2 [S_r20_Get_l2 n k] (S_r20_Get_l2 n (k + 1)) :=
  rounds_go (tab := mkTab [(38, ⟨S_r20_Right n, [], [], true⟩), (86, ⟨S_r20_Before n, [], [], true⟩)]) (cuts := mkCuts []) (S_r20_Get_l2 n k) [] (.cons (ok_r20_Right n) ⟨_, Try.func38, by kernel_rfl⟩ (.cons (ok_r20_Before n) ⟨_, Try.func86, by kernel_rfl⟩ .nil)) (.none0 (by kernel_rfl)) rfl (fun v => by kernel_rfl)
theorem ok_r20_Get_l2 (n k : Nat) : SoundC Try.prog (Go.Func.ntmps Try.f30) (.loop (bodyOf Try.f30 2)) (wr (bodyOf Try.f30 2)) (C_30_2 (S_r20_Get_l2 n k)) :=
  loop_go (K := fun k => [S_r20_Get_l2 n k]) (fun _ => rfl) (by kernel_rfl) ⟨z_go fun _ => by kernel_rfl, trivial⟩ (fun k => ⟨rd_r20_Get_l2 n k, trivial⟩) k rfl
def F_r20_Get_l2_1 (n : Nat) : Nat → (Int) → Tree Unit
 | 0 => fun  x0 => .fail
 | k + 1 => fun x0 =>
  .ite (decide (x0 < (0 : Int)))
  (.fail)
  (.ret ())
def S_r20_Get_l2_1 (n k : Nat) : CutF := mkS ⟨[(.snil none), (.val (.sint .i64) (0 : Int))], [], 0⟩ [.d (.sint .i64)] fun v => .sub (F_r20_Get_l2_1 n k (p0 v)) fun r => .ret (.ex 2, [], [], 0)
theorem rd_r20_Get_l2_1 (n k : Nat) : Rounds Try.prog (Go.Func.ntmps Try.f30) (bodyOf Try.f30 2) C_30_2 [S_r20_Get_l2_1 n k] (S_r20_Get_l2_1 n (k + 1)) :=
  rounds_go (tab := mkTab []) (cuts := mkCuts []) (S_r20_Get_l2_1 n k) [] .nil (.none0 (by kernel_rfl)) rfl (fun v => by kernel_rfl)
theorem ok_r20_Get_l2_1 (n k : Nat) : SoundC Try.prog (Go.Func.ntmps Try.f30) (.loop (bodyOf Try.f30 2)) (wr (bodyOf Try.f30 2)) (C_30_2 (S_r20_Get_l2_1 n k)) :=
  loop_go (K := fun k => [S_r20_Get_l2_1 n k]) (fun _ => rfl) (by kernel_rfl) ⟨z_go fun _ => by kernel_rfl, trivial⟩ (fun k => ⟨rd_r20_Get_l2_1 n k, trivial⟩) k rfl
def F_r20_Get (n : Nat) (x0 : Bool) (x1 : List UInt8) : Tree (Int ⊕ (List (Int × List UInt8 × List UInt8 × Int × Int))) :=
  .sub (F_r17_Scan_Number n x0 x1 (0 : Int) (0 : Int) (4096 : Int)) fun y2 =>
  .sub (F_r20_Get_l0 n n y2.1 (0 : Int) y2.2.1 y2.2.2.1 y2.2.2.2) fun y3 =>
  .alt y3 (fun y4 =>
  .sub (F_r17_Scan_End n y4.2.2.1 y4.2.2.2) fun y5 =>
  .ite (!(decide (y5 = (0 : Int))))
  (.sub (F_r17_Scan_End n y4.2.2.1 y4.2.2.2) fun y6 =>
  .ret (.inl y6))
  (.sub (F_r20_Get_l2 n n (0 : Int) y4.1) fun y7 =>
  .alt y7 (fun y8 =>
  .ret (.inl (5 : Int)))
  fun y9 =>
  .ret (.inr y4.1)))
  fun y10 =>
  .sub (F_r17_Scan_End n y2.2.2.1 y2.2.2.2) fun y11 =>
  .ite (!(decide (y11 = (0 : Int))))
  (.sub (F_r17_Scan_End n y2.2.2.1 y2.2.2.2) fun y12 =>
  .ret (.inl y12))
  (.sub (F_r20_Get_l2_1 n n (0 : Int)) fun y13 =>
  .ret (.inl (0 : Int)))
def S_r20_Get (n : Nat) : Summ := mkS ⟨[(.ro false .u8 [])], [], 0⟩ [.c, .d (.list .u8)] fun v => .sub (F_r20_Get n (p0 v) (p1 v)) fun r => .alt r (fun r => .ret ((.tup (.pr (.snil none) (.pr (.val (.sint .i64) r) .un))), [], 0)) (fun r => .ret ((.tup (.pr (.ro false T5 r) (.pr (.val (.sint .i64) (0 : Int)) .un))), [], 0))
theorem ok_r20_Get (n : Nat) : SoundF Try.prog 30 (S_r20_Get n) :=
  fn_go true (c := codeOf Try.f30) (tab := mkTab [(74, ⟨S_r17_Scan_Number n, [], [], true⟩), (77, ⟨S_r17_Scan_End n, [], [], true⟩)]) (cuts := mkCuts [(0, C_30_0 (S_r20_Get_l0 n n)), (2, C_30_2 (orC (S_r20_Get_l2 n n) (S_r20_Get_l2_1 n n)))]) Try.func30 (by kernel_rfl) (.cons (ok_r17_Scan_Number n) ⟨_, Try.func74, by kernel_rfl⟩ (.cons (ok_r17_Scan_End n) ⟨_, Try.func77, by kernel_rfl⟩ .nil)) (CutsOK.list (l := [(0, .lp (bodyOf Try.f30 0)), (2, .lp (bodyOf Try.f30 2))]) (by kernel_rfl) (LoopsOK.all ⟨.inr ⟨_, rfl, ok_r20_Get_l0 n n⟩, ⟨.inr ⟨_, rfl, .or (ok_r20_Get_l2 n n) (ok_r20_Get_l2_1 n n)⟩, trivial⟩⟩)) (fun v => by kernel_rfl)
def C_79_100000 : CutF → Cut := fun κ => ⟨[0, 1, 5, 6], fun e => match e with | .ex i => [] | .rt => [4] | .nm => [4] | .go i => [], κ⟩
def C_79_0 : CutF → Cut := fun κ => ⟨[5, 7, 8], fun e => match e with | .ex i => bif Nat.beq i 0 then [7] else [] | .rt => [] | .nm => [] | .go i => bif Nat.beq i 0 then [] else [], κ⟩
def F_codec_Number_l0 (n : Nat) : Nat → (Int) → (List UInt8) → (List UInt8) → Tree (Unit ⊕ (List UInt8))
 | 0 => fun  x0 x1 x2 => .fail
 | k + 1 => fun x0 x1 x2 =>
  .ite (decide ((0 : Int) ≤ x0))
  (.get (inI 8 x0) fun y3 =>
  .get (gt x1 y3) fun y4 =>
  .get (appI 140737488355328 x2 (List.set ([0] : List UInt8) 0 y4)) fun y5 =>
  .sub (F_codec_Number_l0 n k (w64 (x0 - (1 : Int))) x1 y5) fun y6 =>
  .alt y6 (fun y7 =>
  .ret (.inr y5))
  fun y8 =>
  .ret (.inr y8))
  (.ret (.inl ()))
def S_codec_Number_l0 (n k : Nat) : CutF := mkS ⟨[(.ptr 0 0), (.whole 2 1), (.val (.sint .i64) (0 : Int))], [⟨0, 1, .box (.val (.arr 8 .u8) [])⟩, ⟨2, 3, .row .u8 []⟩], 4⟩ [.d (.sint .i64), .d (.arr 8 .u8), .d (.list .u8)] fun v => .sub (F_codec_Number_l0 n k (p0 v) (p1 v) (p2 v)) fun r => .alt r (fun r => .ret (.ex 0, [(.whole 2 1)], [⟨2, 5, .row .u8 (p2 v)⟩, ⟨0, 7, .box (.val (.arr 8 .u8) (p1 v))⟩], 8)) (fun r => .ret (.ex 0, [(.whole 4 1)], [⟨4, 5, .row .u8 r⟩, ⟨0, 7, .box (.val (.arr 8 .u8) (p1 v))⟩], 8))
theorem rd_codec_Number_l0 (n k : Nat) : Rounds Try.prog (Go.Func.ntmps Try.f79) (bodyOf Try.f79 0) C_79_0 [S_codec_Number_l0 n k] (S_codec_Number_l0 n (k + 1)) :=
  rounds_go (tab := mkTab []) (cuts := mkCuts []) (S_codec_Number_l0 n k) [] .nil (.none0 (by kernel_rfl)) rfl (fun v => by kernel_rfl)
theorem ok_codec_Number_l0 (n k : Nat) : SoundC Try.prog (Go.Func.ntmps Try.f79) (.loop (bodyOf Try.f79 0)) (wr (bodyOf Try.f79 0)) (C_79_0 (S_codec_Number_l0 n k)) :=
  loop_go (K := fun k => [S_codec_Number_l0 n k]) (fun _ => rfl) (by kernel_rfl) ⟨z_go fun _ => by kernel_rfl, trivial⟩ (fun k => ⟨rd_codec_Number_l0 n k, trivial⟩) k rfl
def F_codec_Number_l100000 (n : Nat) : Nat → (Int) → (Int) → (List UInt8) → Tree ((List UInt8) × (List UInt8))
 | 0 => fun  x0 x1 x2 => .fail
 | k + 1 => fun x0 x1 x2 =>
  .ite (decide ((0 : Int) < x0))
  (.get (inI 8 x1) fun y3 =>
  .get (gt x2 y3) fun y4 =>
  .sub (F_codec_Number_l100000 n k (shrI .i64 x0 8) (w64 (x1 + (1 : Int))) (List.set x2 y3 (int8 x0))) fun y5 =>
  .ret (y5.1, y5.2))
  (.get (appI 140737488355328 ([] : List UInt8) ([] : List UInt8)) fun y6 =>
  .get (appI 140737488355328 y6 (List.set ([0] : List UInt8) 0 (int8 x1))) fun y7 =>
  .sub (F_codec_Number_l0 n n (w64 (x1 - (1 : Int))) x2 y7) fun y8 =>
  .alt y8 (fun y9 =>
  .ret (y7, x2))
  fun y10 =>
  .ret (y10, x2))
def S_codec_Number_l100000 (n k : Nat) : CutF := mkS ⟨[(.snil none), (.val (.sint .i64) (0 : Int)), (.ptr 0 0), (.val (.sint .i64) (0 : Int))], [⟨0, 1, .box (.val (.arr 8 .u8) [])⟩], 2⟩ [.d (.sint .i64), .d (.sint .i64), .d (.arr 8 .u8)] fun v => .sub (F_codec_Number_l100000 n k (p0 v) (p1 v) (p2 v)) fun r => .ret (.rt, [(.whole 2 1)], [⟨2, 3, .row .u8 r.1⟩, ⟨0, 5, .box (.val (.arr 8 .u8) r.2)⟩], 6)
theorem rd_codec_Number_l100000 (n k : Nat) : RoundsJ Try.prog (Go.Func.ntmps Try.f79) 0 (restOf Try.f79 0) C_79_100000 [S_codec_Number_l100000 n k] (S_codec_Number_l100000 n (k + 1)) :=
  roundsJ_go (tab := mkTab []) (cuts := mkCuts [(0, C_79_0 (S_codec_Number_l0 n n))]) (S_codec_Number_l100000 n k) [] .nil (CutsOK.list (l := [(0, .lp (bodyOf Try.f79 0))]) (by kernel_rfl) (LoopsOK.all ⟨.inr ⟨_, rfl, ok_codec_Number_l0 n n⟩, trivial⟩)) rfl (fun v => by kernel_rfl)
theorem ok_codec_Number_l100000 (n k : Nat) : SoundX (JX Try.prog (Go.Func.ntmps Try.f79) 0 (restOf Try.f79 0)) (wr (restOf Try.f79 0)) (C_79_100000 (S_codec_Number_l100000 n k)) :=
  jump_go (K := fun k => [S_codec_Number_l100000 n k]) (fun _ => rfl) (by kernel_rfl) ⟨z_go fun _ => by kernel_rfl, trivial⟩ (fun k => ⟨rd_codec_Number_l100000 n k, trivial⟩) k rfl
def F_codec_Number (n : Nat) (x0 : Int) : Tree (List UInt8) :=
  .ite (decide ((0 : Int) < (minI (maxI x0 (0 : Int)) (9007199254740992 : Int))))
  (.get (inI 8 (0 : Int)) fun y1 =>
  .get (gt (zs 8) y1) fun y2 =>
  .sub (F_codec_Number_l100000 n n (shrI .i64 (minI (maxI x0 (0 : Int)) (9007199254740992 : Int)) 8) (1 : Int) (List.set (zs 8) y1 (int8 (minI (maxI x0 (0 : Int)) (9007199254740992 : Int))))) fun y3 =>
  .ret y3.1)
  (.get (appI 140737488355328 ([] : List UInt8) ([] : List UInt8)) fun y4 =>
  .get (appI 140737488355328 y4 ([0] : List UInt8)) fun y5 =>
  .sub (F_codec_Number_l0 n n (-1 : Int) (zs 8) y5) fun y6 =>
  .alt y6 (fun y7 =>
  .ret y5)
  fun y8 =>
  .ret y8)
def S_codec_Number (n : Nat) : Summ := mkS ⟨[(.snil none), (.val (.sint .i64) (0 : Int))], [], 0⟩ [.d (.sint .i64)] fun v => .sub (F_codec_Number n (p0 v)) fun r => .ret ((.whole 0 1), [⟨0, 1, .row .u8 r⟩], 2)
theorem ok_codec_Number (n : Nat) : SoundF Try.prog 79 (S_codec_Number n) :=
  fn_go false (c := codeOf Try.f79) (tab := mkTab []) (cuts := mkCuts [(100000, C_79_100000 (S_codec_Number_l100000 n n)), (0, C_79_0 (S_codec_Number_l0 n n))]) Try.func79 (by kernel_rfl) .nil (CutsOK.list (l := [(0, .lp (bodyOf Try.f79 0)), (100000, .jp 0 (restOf Try.f79 0))]) (by kernel_rfl) (LoopsOK.all ⟨.inr ⟨_, rfl, ok_codec_Number_l0 n n⟩, ⟨.inr ⟨_, rfl, ok_codec_Number_l100000 n n⟩, trivial⟩⟩)) (fun v => by kernel_rfl)
def C_31_0 : CutF → Cut := fun κ => ⟨[3, 9, 10, 11], fun e => match e with | .ex i => bif Nat.beq i 0 then [3] else [] | .rt => [] | .nm => [] | .go i => [], κ⟩
def F_codec_Number_l100000_1 (n : Nat) : Nat → (Int) → (Int) → (List UInt8) → (List UInt8) → Tree ((List UInt8) × (List UInt8))
 | 0 => fun  x0 x1 x2 x3 => .fail
 | k + 1 => fun x0 x1 x2 x3 =>
  .ite (decide ((0 : Int) < x0))
  (.get (inI 8 x1) fun y4 =>
  .get (gt x3 y4) fun y5 =>
  .sub (F_codec_Number_l100000_1 n k (shrI .i64 x0 8) (w64 (x1 + (1 : Int))) x2 (List.set x3 y4 (int8 x0))) fun y6 =>
  .ret (y6.1, y6.2))
  (.get (appI 140737488355328 ([] : List UInt8) x2) fun y7 =>
  .get (appI 140737488355328 y7 (List.set ([0] : List UInt8) 0 (int8 x1))) fun y8 =>
  .sub (F_codec_Number_l0 n n (w64 (x1 - (1 : Int))) x3 y8) fun y9 =>
  .alt y9 (fun y10 =>
  .ret (y8, x3))
  fun y11 =>
  .ret (y11, x3))
def S_codec_Number_l100000_1 (n k : Nat) : CutF := mkS ⟨[(.whole 0 1), (.val (.sint .i64) (0 : Int)), (.ptr 2 0), (.val (.sint .i64) (0 : Int))], [⟨0, 1, .row .u8 []⟩, ⟨2, 3, .box (.val (.arr 8 .u8) [])⟩], 4⟩ [.d (.sint .i64), .d (.sint .i64), .d (.list .u8), .d (.arr 8 .u8)] fun v => .sub (F_codec_Number_l100000_1 n k (p0 v) (p1 v) (p2 v) (p3 v)) fun r => .ret (.rt, [(.whole 4 1)], [⟨4, 5, .row .u8 r.1⟩, ⟨2, 7, .box (.val (.arr 8 .u8) r.2)⟩, ⟨0, 9, .row .u8 (p2 v)⟩], 10)
theorem rd_codec_Number_l100000_1 (n k : Nat) : RoundsJ Try.prog (Go.Func.ntmps Try.f79) 0 (restOf Try.f79 0) C_79_100000 [S_codec_Number_l100000_1 n k] (S_codec_Number_l100000_1 n (k + 1)) :=
  roundsJ_go (tab := mkTab []) (cuts := mkCuts [(0, C_79_0 (S_codec_Number_l0 n n))]) (S_codec_Number_l100000_1 n k) [] .nil (CutsOK.list (l := [(0, .lp (bodyOf Try.f79 0))]) (by kernel_rfl) (LoopsOK.all ⟨.inr ⟨_, rfl, ok_codec_Number_l0 n n⟩, trivial⟩)) rfl (fun v => by kernel_rfl)
theorem ok_codec_Number_l100000_1 (n k : Nat) : SoundX (JX Try.prog (Go.Func.ntmps Try.f79) 0 (restOf Try.f79 0)) (wr (restOf Try.f79 0)) (C_79_100000 (S_codec_Number_l100000_1 n k)) :=
  jump_go (K := fun k => [S_codec_Number_l100000_1 n k]) (fun _ => rfl) (by kernel_rfl) ⟨z_go fun _ => by kernel_rfl, trivial⟩ (fun k => ⟨rd_codec_Number_l100000_1 n k, trivial⟩) k rfl
def F_codec_Number_1 (n : Nat) (x0 : Int) (x1 : List UInt8) : Tree (List UInt8) :=
  .ite (decide ((0 : Int) < (minI (maxI x0 (0 : Int)) (9007199254740992 : Int))))
  (.get (inI 8 (0 : Int)) fun y2 =>
  .get (gt (zs 8) y2) fun y3 =>
  .sub (F_codec_Number_l100000_1 n n (shrI .i64 (minI (maxI x0 (0 : Int)) (9007199254740992 : Int)) 8) (1 : Int) x1 (List.set (zs 8) y2 (int8 (minI (maxI x0 (0 : Int)) (9007199254740992 : Int))))) fun y4 =>
  .ret y4.1)
  (.get (appI 140737488355328 ([] : List UInt8) x1) fun y5 =>
  .get (appI 140737488355328 y5 ([0] : List UInt8)) fun y6 =>
  .sub (F_codec_Number_l0 n n (-1 : Int) (zs 8) y6) fun y7 =>
  .alt y7 (fun y8 =>
  .ret y6)
  fun y9 =>
  .ret y9)
def S_codec_Number_1 (n : Nat) : Summ := mkS ⟨[(.whole 0 1), (.val (.sint .i64) (0 : Int))], [⟨0, 1, .row .u8 []⟩], 2⟩ [.d (.sint .i64), .d (.list .u8)] fun v => .sub (F_codec_Number_1 n (p0 v) (p1 v)) fun r => .ret ((.whole 2 1), [⟨2, 3, .row .u8 r⟩, ⟨0, 5, .row .u8 (p1 v)⟩], 6)
theorem ok_codec_Number_1 (n : Nat) : SoundF Try.prog 79 (S_codec_Number_1 n) :=
  fn_go false (c := codeOf Try.f79) (tab := mkTab []) (cuts := mkCuts [(100000, C_79_100000 (S_codec_Number_l100000_1 n n)), (0, C_79_0 (S_codec_Number_l0 n n))]) Try.func79 (by kernel_rfl) .nil (CutsOK.list (l := [(0, .lp (bodyOf Try.f79 0)), (100000, .jp 0 (restOf Try.f79 0))]) (by kernel_rfl) (LoopsOK.all ⟨.inr ⟨_, rfl, ok_codec_Number_l0 n n⟩, ⟨.inr ⟨_, rfl, ok_codec_Number_l100000_1 n n⟩, trivial⟩⟩)) (fun v => by kernel_rfl)
def F_codec_Text (n : Nat) (x0 : List UInt8) (x1 : List UInt8) : Tree (List UInt8) :=
  .sub (F_codec_Number_1 n (ln x1) x0) fun y2 =>
  .get (appI 140737488355328 y2 x1) fun y3 =>
  .ret y3
def S_codec_Text (n : Nat) : Summ := mkS ⟨[(.whole 0 1), (.whole 2 1)], [⟨0, 1, .row .u8 []⟩, ⟨2, 3, .row .u8 []⟩], 4⟩ [.d (.list .u8), .d (.list .u8)] fun v => .sub (F_codec_Text n (p0 v) (p1 v)) fun r => .ret ((.whole 4 1), [⟨4, 5, .row .u8 r⟩, ⟨0, 7, .row .u8 (p0 v)⟩, ⟨2, 9, .row .u8 (p1 v)⟩], 10)
theorem ok_codec_Text (n : Nat) : SoundF Try.prog 80 (S_codec_Text n) :=
  fn_go false (c := codeOf Try.f80) (tab := mkTab [(79, ⟨S_codec_Number_1 n, [], [], false⟩)]) (cuts := mkCuts []) Try.func80 (by kernel_rfl) (.cons (ok_codec_Number_1 n) ⟨_, Try.func79, by kernel_rfl⟩ .nil) (.none0 (by kernel_rfl)) (fun v => by kernel_rfl)
def F_index_Put_l0 (n : Nat) : Nat → (Bool) → (List (Int × List UInt8 × List UInt8 × Int × Int)) → (Int) → (Int) → (List UInt8) → Tree (Unit ⊕ (List UInt8))
 | 0 => fun  x0 x1 x2 x3 x4 => .fail
 | k + 1 => fun x0 x1 x2 x3 x4 =>
  .ite (decide (x3 < x2))
  (.get (getI x1 x3) fun y5 =>
  .get (Tree.run (F_codec_Number_1 n y5.1 x4)) fun y6 =>
  .get (Option.some Unit.unit) fun y7 =>
  .get (appI 140737488355328 y6 (List.take 32 (List.drop 0 y5.2.1))) fun y8 =>
  .get (bytesI y5.2.2.1) fun y9 =>
  .sub (F_codec_Text n y8 y9) fun y10 =>
  .get (Tree.run (F_codec_Number_1 n y5.2.2.2.1 y10)) fun y11 =>
  .get (Tree.run (F_codec_Number_1 n y5.2.2.2.2 y11)) fun y12 =>
  .sub (F_index_Put_l0 n k x0 x1 x2 (w64 (x3 + (1 : Int))) y12) fun y13 =>
  .alt y13 (fun y14 =>
  .ret (.inr y12))
  fun y15 =>
  .ret (.inr y15))
  (.ret (.inl ()))
def S_index_Put_l0 (n k : Nat) : CutF := mkS ⟨[(.whole 0 1), (.ro false T5 []), (.val (.sint .i64) (0 : Int)), (.val (.sint .i64) (0 : Int))], [⟨0, 1, .row .u8 []⟩], 2⟩ [.c, .d T6, .d (.sint .i64), .d (.sint .i64), .d (.list .u8)] fun v => .sub (F_index_Put_l0 n k (p0 v) (p1 v) (p2 v) (p3 v) (p4 v)) fun r => .alt r (fun r => .ret (.ex 0, [(.whole 0 1)], [⟨0, 3, .row .u8 (p4 v)⟩], 4)) (fun r => .ret (.ex 0, [(.whole 2 1)], [⟨2, 3, .row .u8 r⟩, ⟨0, 5, .row .u8 (p4 v)⟩], 6))
theorem rd_index_Put_l0 (n k : Nat) : Rounds Try.prog (Go.Func.ntmps Try.f31) (bodyOf Try.f31 0) C_31_0 [S_index_Put_l0 n k] (S_index_Put_l0 n (k + 1)) :=
  rounds_go (tab := mkTab [(79, ⟨S_codec_Number_1 n, [], [], false⟩), (80, ⟨S_codec_Text n, [], [], false⟩)]) (cuts := mkCuts []) (S_index_Put_l0 n k) [] (.cons (ok_codec_Number_1 n) ⟨_, Try.func79, by kernel_rfl⟩ (.cons (ok_codec_Text n) ⟨_, Try.func80, by kernel_rfl⟩ .nil)) (.none0 (by kernel_rfl)) rfl (fun v => by kernel_rfl)
theorem ok_index_Put_l0 (n k : Nat) : SoundC Try.prog (Go.Func.ntmps Try.f31) (.loop (bodyOf Try.f31 0)) (wr (bodyOf Try.f31 0)) (C_31_0 (S_index_Put_l0 n k)) :=
  loop_go (K := fun k => [S_index_Put_l0 n k]) (fun _ => rfl) (by kernel_rfl) ⟨z_go fun _ => by kernel_rfl, trivial⟩ (fun k => ⟨rd_index_Put_l0 n k, trivial⟩) k rfl
def F_index_Put (n : Nat) (x0 : Bool) (x1 : List (Int × List UInt8 × List UInt8 × Int × Int)) : Tree (List UInt8) :=
  .sub (F_codec_Number n (ln x1)) fun y2 =>
  .sub (F_index_Put_l0 n n x0 x1 (ln x1) (0 : Int) y2) fun y3 =>
  .alt y3 (fun y4 =>
  .ret y2)
  fun y5 =>
  .ret y5
def S_index_Put (n : Nat) : Summ := mkS ⟨[(.ro false T5 [])], [], 0⟩ [.c, .d T6] fun v => .sub (F_index_Put n (p0 v) (p1 v)) fun r => .ret ((.whole 0 1), [⟨0, 1, .row .u8 r⟩], 2)
theorem ok_index_Put (n : Nat) : SoundF Try.prog 31 (S_index_Put n) :=
  fn_go false (c := codeOf Try.f31) (tab := mkTab [(79, ⟨S_codec_Number n, [], [], false⟩)]) (cuts := mkCuts [(0, C_31_0 (S_index_Put_l0 n n))]) Try.func31 (by kernel_rfl) (.cons (ok_codec_Number n) ⟨_, Try.func79, by kernel_rfl⟩ .nil) (CutsOK.list (l := [(0, .lp (bodyOf Try.f31 0))]) (by kernel_rfl) (LoopsOK.all ⟨.inr ⟨_, rfl, ok_index_Put_l0 n n⟩, trivial⟩)) (fun v => by kernel_rfl)
def F_r17_digits_r (n : Nat) : Nat → (Int) → Tree (Unit ⊕ (List UInt8))
 | 0 => fun  x0 => .fail
 | k + 1 => fun x0 =>
  .ite (decide (x0 = (0 : Int)))
  (.ret (.inl ()))
  (.sub (F_r17_digits_r n k (quoI .i64 x0 (256 : Int))) fun y1 =>
  .alt y1 (fun y2 =>
  .get (appI 140737488355328 ([] : List UInt8) (List.set ([0] : List UInt8) 0 (int8 (Int.tmod x0 (256 : Int))))) fun y3 =>
  .ret (.inr y3))
  fun y4 =>
  .get (appI 140737488355328 y4 (List.set ([0] : List UInt8) 0 (int8 (Int.tmod x0 (256 : Int))))) fun y5 =>
  .ret (.inr y5))
def S_r17_digits_r (n k : Nat) : Summ := mkS ⟨[(.val (.sint .i64) (0 : Int))], [], 0⟩ [.d (.sint .i64)] fun v => .sub (F_r17_digits_r n k (p0 v)) fun r => .alt r (fun r => .ret ((.snil none), [], 0)) (fun r => .ret ((.whole 0 1), [⟨0, 1, .row .u8 r⟩], 2))
theorem ok_r17_digits_r (n k : Nat) : SoundF Try.prog 110 (S_r17_digits_r n k) :=
  rec_go (fz := false) (c := codeOf Try.f110) (tab := fun k => mkTab [(110, ⟨S_r17_digits_r n k, [], [], true⟩)]) (cuts := mkCuts []) Try.func110 (by kernel_rfl) (fun _ => by kernel_rfl) (fun k ih => .cons ih ⟨_, Try.func110, by kernel_rfl⟩ .nil) (.none0 (by kernel_rfl)) (fun k v => by kernel_rfl) k
def F_r17_digits (n : Nat) (x0 : Int) : Tree (Unit ⊕ (List UInt8)) := F_r17_digits_r n n x0
def S_r17_digits (n : Nat) : Summ := mkS ⟨[(.val (.sint .i64) (0 : Int))], [], 0⟩ [.d (.sint .i64)] fun v => .sub (F_r17_digits n (p0 v)) fun r => .alt r (fun r => .ret ((.snil none), [], 0)) (fun r => .ret ((.whole 0 1), [⟨0, 1, .row .u8 r⟩], 2))
theorem ok_r17_digits (n : Nat) : SoundF Try.prog 110 (S_r17_digits n) := ok_r17_digits_r n n
def F_r17_Number (n : Nat) (x0 : Int) : Tree (List UInt8) :=
  .sub (F_r17_digits n (minI (maxI x0 (0 : Int)) (9007199254740992 : Int))) fun y1 =>
  .alt y1 (fun y2 =>
  .get (appI 140737488355328 ([] : List UInt8) ([] : List UInt8)) fun y3 =>
  .get (appI 140737488355328 y3 ([0] : List UInt8)) fun y4 =>
  .get (appI 140737488355328 y4 ([] : List UInt8)) fun y5 =>
  .ret y5)
  fun y6 =>
  .get (appI 140737488355328 ([] : List UInt8) ([] : List UInt8)) fun y7 =>
  .get (appI 140737488355328 y7 (List.set ([0] : List UInt8) 0 (int8 (ln y6)))) fun y8 =>
  .get (appI 140737488355328 y8 y6) fun y9 =>
  .ret y9
def S_r17_Number (n : Nat) : Summ := mkS ⟨[(.snil none), (.val (.sint .i64) (0 : Int))], [], 0⟩ [.d (.sint .i64)] fun v => .sub (F_r17_Number n (p0 v)) fun r => .ret ((.whole 0 1), [⟨0, 1, .row .u8 r⟩], 2)
theorem ok_r17_Number (n : Nat) : SoundF Try.prog 81 (S_r17_Number n) :=
  fn_go false (c := codeOf Try.f81) (tab := mkTab [(110, ⟨S_r17_digits n, [], [], true⟩)]) (cuts := mkCuts []) Try.func81 (by kernel_rfl) (.cons (ok_r17_digits n) ⟨_, Try.func110, by kernel_rfl⟩ .nil) (.none0 (by kernel_rfl)) (fun v => by kernel_rfl)
def C_32_0 : CutF → Cut := fun κ => ⟨[0, 3, 4], fun e => match e with | .ex i => bif Nat.beq i 0 then [3] else [] | .rt => [] | .nm => [] | .go i => [], κ⟩
def F_r17_Number_1 (n : Nat) (x0 : Int) (x1 : List UInt8) : Tree (List UInt8) :=
  .sub (F_r17_digits n (minI (maxI x0 (0 : Int)) (9007199254740992 : Int))) fun y2 =>
  .alt y2 (fun y3 =>
  .get (appI 140737488355328 ([] : List UInt8) x1) fun y4 =>
  .get (appI 140737488355328 y4 ([0] : List UInt8)) fun y5 =>
  .get (appI 140737488355328 y5 ([] : List UInt8)) fun y6 =>
  .ret y6)
  fun y7 =>
  .get (appI 140737488355328 ([] : List UInt8) x1) fun y8 =>
  .get (appI 140737488355328 y8 (List.set ([0] : List UInt8) 0 (int8 (ln y7)))) fun y9 =>
  .get (appI 140737488355328 y9 y7) fun y10 =>
  .ret y10
def S_r17_Number_1 (n : Nat) : Summ := mkS ⟨[(.whole 0 1), (.val (.sint .i64) (0 : Int))], [⟨0, 1, .row .u8 []⟩], 2⟩ [.d (.sint .i64), .d (.list .u8)] fun v => .sub (F_r17_Number_1 n (p0 v) (p1 v)) fun r => .ret ((.whole 2 1), [⟨2, 3, .row .u8 r⟩, ⟨0, 5, .row .u8 (p1 v)⟩], 6)
theorem ok_r17_Number_1 (n : Nat) : SoundF Try.prog 81 (S_r17_Number_1 n) :=
  fn_go false (c := codeOf Try.f81) (tab := mkTab [(110, ⟨S_r17_digits n, [], [], true⟩)]) (cuts := mkCuts []) Try.func81 (by kernel_rfl) (.cons (ok_r17_digits n) ⟨_, Try.func110, by kernel_rfl⟩ .nil) (.none0 (by kernel_rfl)) (fun v => by kernel_rfl)
def C_32_2 : CutF → Cut := fun κ => ⟨[0, 3, 4, 5], fun e => match e with | .ex i => bif Nat.beq i 2 then [3] else bif Nat.beq i 1 then [3] else bif Nat.beq i 0 then [3] else [] | .rt => [] | .nm => [] | .go i => [], κ⟩
def F_r20_Put_l2 (n : Nat) : Nat → (Bool) → (List (Int × List UInt8 × List UInt8 × Int × Int)) → (Int) → (Int) → (List UInt8) → Tree (Unit ⊕ (List UInt8))
 | 0 => fun  x0 x1 x2 x3 x4 => .fail
 | k + 1 => fun x0 x1 x2 x3 x4 =>
  .ite (decide (x3 < (32 : Int)))
  (.get (getI x1 x2) fun y5 =>
  .get (getI y5.2.1 x3) fun y6 =>
  .get (appI 140737488355328 x4 (List.set ([0] : List UInt8) 0 y6)) fun y7 =>
  .sub (F_r20_Put_l2 n k x0 x1 x2 (w64 (x3 + (1 : Int))) y7) fun y8 =>
  .alt y8 (fun y9 =>
  .ret (.inr y7))
  fun y10 =>
  .ret (.inr y10))
  (.ret (.inl ()))
def S_r20_Put_l2 (n k : Nat) : CutF := mkS ⟨[(.ro false T5 []), (.whole 0 1), (.val (.sint .i64) (0 : Int)), (.val (.sint .i64) (0 : Int))], [⟨0, 1, .row .u8 []⟩], 2⟩ [.c, .d T6, .d (.sint .i64), .d (.sint .i64), .d (.list .u8)] fun v => .sub (F_r20_Put_l2 n k (p0 v) (p1 v) (p2 v) (p3 v) (p4 v)) fun r => .alt r (fun r => .ret (.ex 2, [(.whole 0 1)], [⟨0, 3, .row .u8 (p4 v)⟩], 4)) (fun r => .ret (.ex 2, [(.whole 2 1)], [⟨2, 3, .row .u8 r⟩], 4))
theorem rd_r20_Put_l2 (n k : Nat) : Rounds Try.prog (Go.Func.ntmps Try.f32) (bodyOf Try.f32 2) C_32_2 [S_r20_Put_l2 n k] (S_r20_Put_l2 n (k + 1)) :=
  rounds_go (tab := mkTab []) (cuts := mkCuts []) (S_r20_Put_l2 n k) [] .nil (.none0 (by kernel_rfl)) rfl (fun v => by kernel_rfl)
theorem ok_r20_Put_l2 (n k : Nat) : SoundC Try.prog (Go.Func.ntmps Try.f32) (.loop (bodyOf Try.f32 2)) (wr (bodyOf Try.f32 2)) (C_32_2 (S_r20_Put_l2 n k)) :=
  loop_go (K := fun k => [S_r20_Put_l2 n k]) (fun _ => rfl) (by kernel_rfl) ⟨z_go fun _ => by kernel_rfl, trivial⟩ (fun k => ⟨rd_r20_Put_l2 n k, trivial⟩) k rfl
def F_r17_Text (n : Nat) (x0 : List UInt8) (x1 : List UInt8) : Tree (List UInt8) :=
  .sub (F_r17_Number_1 n (ln x1) x0) fun y2 =>
  .get (appI 140737488355328 y2 x1) fun y3 =>
  .ret y3
def S_r17_Text (n : Nat) : Summ := mkS ⟨[(.whole 0 1), (.whole 2 1)], [⟨0, 1, .row .u8 []⟩, ⟨2, 3, .row .u8 []⟩], 4⟩ [.d (.list .u8), .d (.list .u8)] fun v => .sub (F_r17_Text n (p0 v) (p1 v)) fun r => .ret ((.whole 4 1), [⟨4, 5, .row .u8 r⟩, ⟨0, 7, .row .u8 (p0 v)⟩, ⟨2, 9, .row .u8 (p1 v)⟩], 10)
theorem ok_r17_Text (n : Nat) : SoundF Try.prog 83 (S_r17_Text n) :=
  fn_go false (c := codeOf Try.f83) (tab := mkTab [(81, ⟨S_r17_Number_1 n, [], [], true⟩)]) (cuts := mkCuts []) Try.func83 (by kernel_rfl) (.cons (ok_r17_Number_1 n) ⟨_, Try.func81, by kernel_rfl⟩ .nil) (.none0 (by kernel_rfl)) (fun v => by kernel_rfl)
def F_r20_Put_l0 (n : Nat) : Nat → (Bool) → (List (Int × List UInt8 × List UInt8 × Int × Int)) → (Int) → (List UInt8) → Tree (Unit ⊕ (List UInt8))
 | 0 => fun  x0 x1 x2 x3 => .fail
 | k + 1 => fun x0 x1 x2 x3 =>
  .ite (decide (x2 < (ln x1)))
  (.get (getI x1 x2) fun y4 =>
  .sub (F_r17_Number_1 n y4.1 x3) fun y5 =>
  .sub (F_r20_Put_l2 n n x0 x1 x2 (0 : Int) y5) fun y6 =>
  .alt y6 (fun y7 =>
  .get (getI x1 x2) fun y8 =>
  .get (bytesI y8.2.2.1) fun y9 =>
  .sub (F_r17_Text n y5 y9) fun y10 =>
  .get (getI x1 x2) fun y11 =>
  .get (Tree.run (F_r17_Number_1 n y11.2.2.2.1 y10)) fun y12 =>
  .get (getI x1 x2) fun y13 =>
  .get (Tree.run (F_r17_Number_1 n y13.2.2.2.2 y12)) fun y14 =>
  .sub (F_r20_Put_l0 n k x0 x1 (w64 (x2 + (1 : Int))) y14) fun y15 =>
  .alt y15 (fun y16 =>
  .ret (.inr y14))
  fun y17 =>
  .ret (.inr y17))
  fun y18 =>
  .get (getI x1 x2) fun y19 =>
  .get (bytesI y19.2.2.1) fun y20 =>
  .sub (F_r17_Text n y18 y20) fun y21 =>
  .get (getI x1 x2) fun y22 =>
  .get (Tree.run (F_r17_Number_1 n y22.2.2.2.1 y21)) fun y23 =>
  .get (getI x1 x2) fun y24 =>
  .get (Tree.run (F_r17_Number_1 n y24.2.2.2.2 y23)) fun y25 =>
  .sub (F_r20_Put_l0 n k x0 x1 (w64 (x2 + (1 : Int))) y25) fun y26 =>
  .alt y26 (fun y27 =>
  .ret (.inr y25))
  fun y28 =>
  .ret (.inr y28))
  (.ret (.inl ()))
def S_r20_Put_l0 (n k : Nat) : CutF := mkS ⟨[(.ro false T5 []), (.whole 0 1), (.val (.sint .i64) (0 : Int))], [⟨0, 1, .row .u8 []⟩], 2⟩ [.c, .d T6, .d (.sint .i64), .d (.list .u8)] fun v => .sub (F_r20_Put_l0 n k (p0 v) (p1 v) (p2 v) (p3 v)) fun r => .alt r (fun r => .ret (.ex 0, [(.whole 0 1)], [⟨0, 3, .row .u8 (p3 v)⟩], 4)) (fun r => .ret (.ex 0, [(.whole 2 1)], [⟨2, 3, .row .u8 r⟩, ⟨0, 5, .row .u8 (p3 v)⟩], 6))
theorem rd_r20_Put_l0 (n k : Nat) : Rounds Try.prog (Go.Func.ntmps Try.f32) (bodyOf Try.f32 0) C_32_0 [S_r20_Put_l0 n k] (S_r20_Put_l0 n (k + 1)) :=
  rounds_go (tab := mkTab [(81, ⟨S_r17_Number_1 n, [], [], true⟩), (83, ⟨S_r17_Text n, [], [], true⟩)]) (cuts := mkCuts [(2, C_32_2 (S_r20_Put_l2 n n))]) (S_r20_Put_l0 n k) [] (.cons (ok_r17_Number_1 n) ⟨_, Try.func81, by kernel_rfl⟩ (.cons (ok_r17_Text n) ⟨_, Try.func83, by kernel_rfl⟩ .nil)) (CutsOK.list (l := [(2, .lp (bodyOf Try.f32 2))]) (by kernel_rfl) (LoopsOK.all ⟨.inr ⟨_, rfl, ok_r20_Put_l2 n n⟩, trivial⟩)) rfl (fun v => by kernel_rfl)
theorem ok_r20_Put_l0 (n k : Nat) : SoundC Try.prog (Go.Func.ntmps Try.f32) (.loop (bodyOf Try.f32 0)) (wr (bodyOf Try.f32 0)) (C_32_0 (S_r20_Put_l0 n k)) :=
  loop_go (K := fun k => [S_r20_Put_l0 n k]) (fun _ => rfl) (by kernel_rfl) ⟨z_go fun _ => by kernel_rfl, trivial⟩ (fun k => ⟨rd_r20_Put_l0 n k, trivial⟩) k rfl
def F_r20_Put (n : Nat) (x0 : Bool) (x1 : List (Int × List UInt8 × List UInt8 × Int × Int)) : Tree (List UInt8) :=
  .sub (F_r17_Number n (ln x1)) fun y2 =>
  .sub (F_r20_Put_l0 n n x0 x1 (0 : Int) y2) fun y3 =>
  .alt y3 (fun y4 =>
  .ret y2)
  fun y5 =>
  .ret y5
def S_r20_Put (n : Nat) : Summ := mkS ⟨[(.ro false T5 [])], [], 0⟩ [.c, .d T6] fun v => .sub (F_r20_Put n (p0 v) (p1 v)) fun r => .ret ((.whole 0 1), [⟨0, 1, .row .u8 r⟩], 2)
theorem ok_r20_Put (n : Nat) : SoundF Try.prog 32 (S_r20_Put n) :=
  fn_go false (c := codeOf Try.f32) (tab := mkTab [(81, ⟨S_r17_Number n, [], [], true⟩)]) (cuts := mkCuts [(0, C_32_0 (S_r20_Put_l0 n n))]) Try.func32 (by kernel_rfl) (.cons (ok_r17_Number n) ⟨_, Try.func81, by kernel_rfl⟩ .nil) (CutsOK.list (l := [(0, .lp (bodyOf Try.f32 0))]) (by kernel_rfl) (LoopsOK.all ⟨.inr ⟨_, rfl, ok_r20_Put_l0 n n⟩, trivial⟩)) (fun v => by kernel_rfl)
def C_33_0 : CutF → Cut := fun κ => ⟨[0, 1, 5], fun e => match e with | .ex i => bif Nat.beq i 0 then [] else [] | .rt => [4] | .nm => [] | .go i => [], κ⟩
def F_r20_Same_l0 (n : Nat) : Nat → (Int) → Tree Unit
 | 0 => fun  x0 => .fail
 | k + 1 => fun x0 =>
  .ite (decide (x0 < (0 : Int)))
  (.fail)
  (.ret ())
def S_r20_Same_l0 (n k : Nat) : CutF := mkS ⟨[(.snil none), (.snil none), (.val (.sint .i64) (0 : Int))], [], 0⟩ [.d (.sint .i64)] fun v => .sub (F_r20_Same_l0 n k (p0 v)) fun r => .ret (.ex 0, [], [], 0)
theorem rd_r20_Same_l0 (n k : Nat) : Rounds Try.prog (Go.Func.ntmps Try.f33) (bodyOf Try.f33 0) C_33_0 [S_r20_Same_l0 n k] (S_r20_Same_l0 n (k + 1)) :=
  rounds_go (tab := mkTab []) (cuts := mkCuts []) (S_r20_Same_l0 n k) [] .nil (.none0 (by kernel_rfl)) rfl (fun v => by kernel_rfl)
theorem ok_r20_Same_l0 (n k : Nat) : SoundC Try.prog (Go.Func.ntmps Try.f33) (.loop (bodyOf Try.f33 0)) (wr (bodyOf Try.f33 0)) (C_33_0 (S_r20_Same_l0 n k)) :=
  loop_go (K := fun k => [S_r20_Same_l0 n k]) (fun _ => rfl) (by kernel_rfl) ⟨z_go fun _ => by kernel_rfl, trivial⟩ (fun k => ⟨rd_r20_Same_l0 n k, trivial⟩) k rfl
def F_r20_Same (n : Nat) : Tree Bool :=
  .ite false
  (.ret false)
  (.sub (F_r20_Same_l0 n n (0 : Int)) fun y0 =>
  .ret true)
def S_r20_Same (n : Nat) : Summ := mkS ⟨[(.snil none), (.snil none)], [], 0⟩ [] fun v => .sub (F_r20_Same n) fun r => .ret ((.val .bool r), [], 0)
theorem ok_r20_Same (n : Nat) : SoundF Try.prog 33 (S_r20_Same n) :=
  fn_go true (c := codeOf Try.f33) (tab := mkTab []) (cuts := mkCuts [(0, C_33_0 (S_r20_Same_l0 n n))]) Try.func33 (by kernel_rfl) .nil (CutsOK.list (l := [(0, .lp (bodyOf Try.f33 0))]) (by kernel_rfl) (LoopsOK.all ⟨.inr ⟨_, rfl, ok_r20_Same_l0 n n⟩, trivial⟩)) (fun v => by kernel_rfl)
def F_r20_Same_l0_1 (n : Nat) : Nat → (Bool) → (List (Int × List UInt8 × List UInt8 × Int × Int)) → (Int) → Tree Unit
 | 0 => fun  x0 x1 x2 => .fail
 | k + 1 => fun x0 x1 x2 =>
  .ite (decide (x2 < (0 : Int)))
  (.fail)
  (.ret ())
def S_r20_Same_l0_1 (n k : Nat) : CutF := mkS ⟨[(.snil none), (.ro false T5 []), (.val (.sint .i64) (0 : Int))], [], 0⟩ [.c, .d T6, .d (.sint .i64)] fun v => .sub (F_r20_Same_l0_1 n k (p0 v) (p1 v) (p2 v)) fun r => .ret (.ex 0, [], [], 0)
theorem rd_r20_Same_l0_1 (n k : Nat) : Rounds Try.prog (Go.Func.ntmps Try.f33) (bodyOf Try.f33 0) C_33_0 [S_r20_Same_l0_1 n k] (S_r20_Same_l0_1 n (k + 1)) :=
  rounds_go (tab := mkTab []) (cuts := mkCuts []) (S_r20_Same_l0_1 n k) [] .nil (.none0 (by kernel_rfl)) rfl (fun v => by kernel_rfl)
theorem ok_r20_Same_l0_1 (n k : Nat) : SoundC Try.prog (Go.Func.ntmps Try.f33) (.loop (bodyOf Try.f33 0)) (wr (bodyOf Try.f33 0)) (C_33_0 (S_r20_Same_l0_1 n k)) :=
  loop_go (K := fun k => [S_r20_Same_l0_1 n k]) (fun _ => rfl) (by kernel_rfl) ⟨z_go fun _ => by kernel_rfl, trivial⟩ (fun k => ⟨rd_r20_Same_l0_1 n k, trivial⟩) k rfl
def F_r20_Same_1 (n : Nat) (x0 : Bool) (x1 : List (Int × List UInt8 × List UInt8 × Int × Int)) : Tree Bool :=
  .ite (!(decide ((0 : Int) = (ln x1))))
  (.ret false)
  (.sub (F_r20_Same_l0_1 n n x0 x1 (0 : Int)) fun y2 =>
  .ret true)
def S_r20_Same_1 (n : Nat) : Summ := mkS ⟨[(.snil none), (.ro false T5 [])], [], 0⟩ [.c, .d T6] fun v => .sub (F_r20_Same_1 n (p0 v) (p1 v)) fun r => .ret ((.val .bool r), [], 0)
theorem ok_r20_Same_1 (n : Nat) : SoundF Try.prog 33 (S_r20_Same_1 n) :=
  fn_go true (c := codeOf Try.f33) (tab := mkTab []) (cuts := mkCuts [(0, C_33_0 (S_r20_Same_l0_1 n n))]) Try.func33 (by kernel_rfl) .nil (CutsOK.list (l := [(0, .lp (bodyOf Try.f33 0))]) (by kernel_rfl) (LoopsOK.all ⟨.inr ⟨_, rfl, ok_r20_Same_l0_1 n n⟩, trivial⟩)) (fun v => by kernel_rfl)
def F_r20_Same_l0_2 (n : Nat) : Nat → (Int) → (List (Int × List UInt8 × List UInt8 × Int × Int)) → Tree Unit
 | 0 => fun  x0 x1 => .fail
 | k + 1 => fun x0 x1 =>
  .ite (decide (x0 < (ln x1)))
  (.get (inI (List.length x1) x0) fun y2 =>
  .get (gt x1 (0 + y2)) fun y3 =>
  .fail)
  (.ret ())
def S_r20_Same_l0_2 (n k : Nat) : CutF := mkS ⟨[(.whole 0 36), (.snil none), (.val (.sint .i64) (0 : Int))], [⟨0, 1, .row T5 []⟩], 2⟩ [.d (.sint .i64), .d T6] fun v => .sub (F_r20_Same_l0_2 n k (p0 v) (p1 v)) fun r => .ret (.ex 0, [], [⟨0, 3, .row T5 (p1 v)⟩], 4)
theorem rd_r20_Same_l0_2 (n k : Nat) : Rounds Try.prog (Go.Func.ntmps Try.f33) (bodyOf Try.f33 0) C_33_0 [S_r20_Same_l0_2 n k] (S_r20_Same_l0_2 n (k + 1)) :=
  rounds_go (tab := mkTab []) (cuts := mkCuts []) (S_r20_Same_l0_2 n k) [] .nil (.none0 (by kernel_rfl)) rfl (fun v => by kernel_rfl)
theorem ok_r20_Same_l0_2 (n k : Nat) : SoundC Try.prog (Go.Func.ntmps Try.f33) (.loop (bodyOf Try.f33 0)) (wr (bodyOf Try.f33 0)) (C_33_0 (S_r20_Same_l0_2 n k)) :=
  loop_go (K := fun k => [S_r20_Same_l0_2 n k]) (fun _ => rfl) (by kernel_rfl) ⟨z_go fun _ => by kernel_rfl, trivial⟩ (fun k => ⟨rd_r20_Same_l0_2 n k, trivial⟩) k rfl
def F_r20_Same_2 (n : Nat) (x0 : List (Int × List UInt8 × List UInt8 × Int × Int)) : Tree Bool :=
  .ite (!(decide ((ln x0) = (0 : Int))))
  (.ret false)
  (.sub (F_r20_Same_l0_2 n n (0 : Int) x0) fun y1 =>
  .ret true)
def S_r20_Same_2 (n : Nat) : Summ := mkS ⟨[(.whole 0 36), (.snil none)], [⟨0, 1, .row T5 []⟩], 2⟩ [.d T6] fun v => .sub (F_r20_Same_2 n (p0 v)) fun r => .ret ((.val .bool r), [⟨0, 3, .row T5 (p0 v)⟩], 4)
theorem ok_r20_Same_2 (n : Nat) : SoundF Try.prog 33 (S_r20_Same_2 n) :=
  fn_go true (c := codeOf Try.f33) (tab := mkTab []) (cuts := mkCuts [(0, C_33_0 (S_r20_Same_l0_2 n n))]) Try.func33 (by kernel_rfl) .nil (CutsOK.list (l := [(0, .lp (bodyOf Try.f33 0))]) (by kernel_rfl) (LoopsOK.all ⟨.inr ⟨_, rfl, ok_r20_Same_l0_2 n n⟩, trivial⟩)) (fun v => by kernel_rfl)
def F_r20_Same_l0_3 (n : Nat) : Nat → (Bool) → (List (Int × List UInt8 × List UInt8 × Int × Int)) → (Int) → (List (Int × List UInt8 × List UInt8 × Int × Int)) → Tree (Unit ⊕ Unit)
 | 0 => fun  x0 x1 x2 x3 => .fail
 | k + 1 => fun x0 x1 x2 x3 =>
  .ite (decide (x2 < (ln x3)))
  (.get (inI (List.length x3) x2) fun y4 =>
  .get (gt x3 (0 + y4)) fun y5 =>
  .get (getI x1 x2) fun y6 =>
  .ite (!(eqV T5 (y5.1, (y5.2.1, (y5.2.2.1, (y5.2.2.2.1, y5.2.2.2.2)))) (y6.1, (y6.2.1, (y6.2.2.1, (y6.2.2.2.1, y6.2.2.2.2))))))
  (.ret (.inl ()))
  (.sub (F_r20_Same_l0_3 n k x0 x1 (w64 (x2 + (1 : Int))) x3) fun y7 =>
  .alt y7 (fun y8 =>
  .ret (.inl ()))
  fun y9 =>
  .ret (.inr ())))
  (.ret (.inr ()))
def S_r20_Same_l0_3 (n k : Nat) : CutF := mkS ⟨[(.whole 0 36), (.ro false T5 []), (.val (.sint .i64) (0 : Int))], [⟨0, 1, .row T5 []⟩], 2⟩ [.c, .d T6, .d (.sint .i64), .d T6] fun v => .sub (F_r20_Same_l0_3 n k (p0 v) (p1 v) (p2 v) (p3 v)) fun r => .alt r (fun r => .ret (.rt, [(.val .bool false)], [⟨0, 3, .row T5 (p3 v)⟩], 4)) (fun r => .ret (.ex 0, [], [⟨0, 3, .row T5 (p3 v)⟩], 4))
theorem rd_r20_Same_l0_3 (n k : Nat) : Rounds Try.prog (Go.Func.ntmps Try.f33) (bodyOf Try.f33 0) C_33_0 [S_r20_Same_l0_3 n k] (S_r20_Same_l0_3 n (k + 1)) :=
  rounds_go (tab := mkTab []) (cuts := mkCuts []) (S_r20_Same_l0_3 n k) [] .nil (.none0 (by kernel_rfl)) rfl (fun v => by kernel_rfl)
theorem ok_r20_Same_l0_3 (n k : Nat) : SoundC Try.prog (Go.Func.ntmps Try.f33) (.loop (bodyOf Try.f33 0)) (wr (bodyOf Try.f33 0)) (C_33_0 (S_r20_Same_l0_3 n k)) :=
  loop_go (K := fun k => [S_r20_Same_l0_3 n k]) (fun _ => rfl) (by kernel_rfl) ⟨z_go fun _ => by kernel_rfl, trivial⟩ (fun k => ⟨rd_r20_Same_l0_3 n k, trivial⟩) k rfl
def F_r20_Same_3 (n : Nat) (x0 : Bool) (x1 : List (Int × List UInt8 × List UInt8 × Int × Int)) (x2 : List (Int × List UInt8 × List UInt8 × Int × Int)) : Tree Bool :=
  .ite (!(decide ((ln x2) = (ln x1))))
  (.ret false)
  (.sub (F_r20_Same_l0_3 n n x0 x1 (0 : Int) x2) fun y3 =>
  .alt y3 (fun y4 =>
  .ret false)
  fun y5 =>
  .ret true)
def S_r20_Same_3 (n : Nat) : Summ := mkS ⟨[(.whole 0 36), (.ro false T5 [])], [⟨0, 1, .row T5 []⟩], 2⟩ [.c, .d T6, .d T6] fun v => .sub (F_r20_Same_3 n (p0 v) (p1 v) (p2 v)) fun r => .ret ((.val .bool r), [⟨0, 3, .row T5 (p2 v)⟩], 4)
theorem ok_r20_Same_3 (n : Nat) : SoundF Try.prog 33 (S_r20_Same_3 n) :=
  fn_go true (c := codeOf Try.f33) (tab := mkTab []) (cuts := mkCuts [(0, C_33_0 (S_r20_Same_l0_3 n n))]) Try.func33 (by kernel_rfl) .nil (CutsOK.list (l := [(0, .lp (bodyOf Try.f33 0))]) (by kernel_rfl) (LoopsOK.all ⟨.inr ⟨_, rfl, ok_r20_Same_l0_3 n n⟩, trivial⟩)) (fun v => by kernel_rfl)
def F_w20_IndexBytes (n : Nat) (x0 : Bool) (x1 : List (Int × List UInt8 × List UInt8 × Int × Int)) (x2 : Bool) (x3 : List UInt8) : Tree Bool :=
  .ite ((decide ((60 : Int) < (ln x1))) || (decide ((4000 : Int) < (ln x3))))
  (.sub (F_w20_awake n) fun y4 =>
  .ret y4)
  (.sub (F_w20_IndexBytes_l0 n n x0 x1 (ln x1) (0 : Int)) fun y5 =>
  .alt y5 (fun y6 =>
  .ret y6)
  fun y7 =>
  .get (appI 140737488355328 ([] : List UInt8) x3) fun y8 =>
  .sub (F_index_Get n y8) fun y9 =>
  .alt y9 (fun y10 =>
  .sub (F_r20_Get n x2 x3) fun y11 =>
  .alt y11 (fun y12 =>
  .get (Tree.run (F_index_Put n x0 x1)) fun y13 =>
  .get (Tree.run (F_r20_Put n x0 x1)) fun y14 =>
  .ite (decide (y13 = y14))
  (.get (Tree.run (F_r20_Same n)) fun y15 =>
  .ite y15
  (.ite (decide (y10 = y12))
  (.ite (decide (y8 = x3))
  (.get (Tree.run (F_w20_awake n)) fun y16 =>
  .ret y16)
  (.ret false))
  (.ret false))
  (.ret false))
  (.ret false))
  fun y17 =>
  .get (Tree.run (F_index_Put n x0 x1)) fun y18 =>
  .get (Tree.run (F_r20_Put n x0 x1)) fun y19 =>
  .ite (decide (y18 = y19))
  (.get (Tree.run (F_r20_Same_1 n false y17)) fun y20 =>
  .ite y20
  (.ite (decide (y10 = (0 : Int)))
  (.ite (decide (y8 = x3))
  (.get (Tree.run (F_w20_awake n)) fun y21 =>
  .ret y21)
  (.ret false))
  (.ret false))
  (.ret false))
  (.ret false))
  fun y22 =>
  .sub (F_r20_Get n x2 x3) fun y23 =>
  .alt y23 (fun y24 =>
  .get (Tree.run (F_index_Put n x0 x1)) fun y25 =>
  .get (Tree.run (F_r20_Put n x0 x1)) fun y26 =>
  .ite (decide (y25 = y26))
  (.get (Tree.run (F_r20_Same_2 n y22)) fun y27 =>
  .ite y27
  (.ite (decide ((0 : Int) = y24))
  (.ite (decide (y8 = x3))
  (.get (Tree.run (F_w20_awake n)) fun y28 =>
  .ret y28)
  (.ret false))
  (.ret false))
  (.ret false))
  (.ret false))
  fun y29 =>
  .get (Tree.run (F_index_Put n x0 x1)) fun y30 =>
  .get (Tree.run (F_r20_Put n x0 x1)) fun y31 =>
  .ite (decide (y30 = y31))
  (.get (Tree.run (F_r20_Same_3 n false y29 y22)) fun y32 =>
  .ite y32
  (.ite true
  (.ite (decide (y8 = x3))
  (.get (Tree.run (F_w20_awake n)) fun y33 =>
  .ret y33)
  (.ret false))
  (.ret false))
  (.ret false))
  (.ret false))
def S_w20_IndexBytes (n : Nat) : Summ := mkS ⟨[(.ro false T5 []), (.ro false .u8 [])], [], 0⟩ [.c, .d T6, .c, .d (.list .u8)] fun v => .sub (F_w20_IndexBytes n (p0 v) (p1 v) (p2 v) (p3 v)) fun r => .ret ((.val .bool r), [], 0)
theorem ok_w20_IndexBytes (n : Nat) : SoundF Try.prog 6 (S_w20_IndexBytes n) :=
  fn_go true (c := codeOf Try.f6) (tab := mkTab [(28, ⟨S_w20_awake n, [], [], false⟩), (29, ⟨S_index_Get n, [], [], false⟩), (30, ⟨S_r20_Get n, [], [], true⟩), (31, ⟨S_index_Put n, [], [], true⟩), (32, ⟨S_r20_Put n, [], [], true⟩), (33, ⟨orS (S_r20_Same n) (orS (S_r20_Same_1 n) (orS (S_r20_Same_2 n) (S_r20_Same_3 n))), [], [], true⟩)]) (cuts := mkCuts [(0, C_6_0 (S_w20_IndexBytes_l0 n n))]) Try.func6 (by kernel_rfl) (.cons (ok_w20_awake n) ⟨_, Try.func28, by kernel_rfl⟩ (.cons (ok_index_Get n) ⟨_, Try.func29, by kernel_rfl⟩ (.cons (ok_r20_Get n) ⟨_, Try.func30, by kernel_rfl⟩ (.cons (ok_index_Put n) ⟨_, Try.func31, by kernel_rfl⟩ (.cons (ok_r20_Put n) ⟨_, Try.func32, by kernel_rfl⟩ (.cons (.or (ok_r20_Same n) (.or (ok_r20_Same_1 n) (.or (ok_r20_Same_2 n) (ok_r20_Same_3 n)))) ⟨_, Try.func33, by kernel_rfl⟩ .nil)))))) (CutsOK.list (l := [(0, .lp (bodyOf Try.f6 0))]) (by kernel_rfl) (LoopsOK.all ⟨.inr ⟨_, rfl, ok_w20_IndexBytes_l0 n n⟩, trivial⟩)) (fun v => by kernel_rfl)
end Hyp
