/- Printed by Gen.lean.tpl (this work's own): Go functions as pure functions, each with the proof that the Go code comes to its answers. -/
import Derived.Test.YtkpbpjmbkhkmnabMs
import Derived.Test.YtkpbpjmbkhkmnabChecked
set_option linter.unusedVariables false
set_option maxRecDepth 100000
set_option maxHeartbeats 4000000
namespace Hyp
open Go Go.Proofs
def F_index_New (n : Nat) : Tree Unit :=
  .ret ()
def S_index_New (n : Nat) : Summ := fun avs L b => bySk ⟨[], [], 0⟩ avs L b (fun l => lfE l (.sub (F_index_New n) fun r => .ret ((.ptr 0 0), [⟨0, 1, .box (.agg (.pr (.mpv 2) .un))⟩, ⟨2, 3, .mp (.rcd (.pair (.sint .i64) (.arr 32 .u8))) (.rcd (.pair .str (.pair (.sint .i64) (.sint .i64)))) ([] : List ((Int × (List UInt8)) × ((List UInt8) × (Int × Int))))⟩], 4))) .fail
theorem ok_index_New (n : Nat) : SoundF Try.prog 13 (S_index_New n) := by
  refine fn_sound false (c := codeOf Try.f13) (tab := mkTab []) (cuts := mkCuts []) Try.func13 (by kernel_rfl) .nil (CutsOK.list (l := []) (by kernel_rfl) (fun _ h => by cases h)) (fun avs L b R h => ?_)
  rcases bySk_ok h with ⟨l, rfl, rfl, rfl, q0⟩ | q0
  · obtain ⟨rfl, q⟩ := lfE_ok q0
    exact run_sub q (by kernel_rfl)
  · exact False.elim q0.h
def C_10_0 : CutF → Cut := fun κ => ⟨[14, 15, 16], fun e => match e with | .ex i => bif Nat.beq i 0 then [] else [] | .rt => [2] | .nm => [], κ⟩
def F_store_Named_l0 (n : Nat) : Nat → (Int) → (Int) → (List UInt8) → Tree (Unit ⊕ Unit)
  | 0 => fun  x19 x20 x21 => .fail
  | k + 1 => fun x19 x20 x21 =>
      .ite (Decidable.decide (x20 < x19))
        (.get (Hyp.inI (List.length x21) x20) fun y25 =>
        .get (GetElem?.getElem? x21 (0 + y25)) fun y26 =>
        .ite (bif (Decidable.decide (y26 < (97 : UInt8))) then ((Decidable.decide (y26 < (48 : UInt8))) || (Decidable.decide ((57 : UInt8) < y26))) else ((Decidable.decide ((122 : UInt8) < y26)) && ((Decidable.decide (y26 < (48 : UInt8))) || (Decidable.decide ((57 : UInt8) < y26)))))
          (.ret (.inl ()))
          (.sub (F_store_Named_l0 n k x19 (Go.IntKind.wrap Go.IntKind.i64 (x20 + (1 : Int))) x21) fun y27 =>
          .alt y27 (fun y28 =>
            .ret (.inl ()))
            fun y29 =>
            .ret (.inr ())))
        (.ret (.inr ()))
def S_store_Named_l0 (n k : Nat) : CutF := fun avs L b => bySk ⟨[(.whole 0 1), (.val (.sint .i64) (0 : Int)), (.val (.sint .i64) (0 : Int))], [⟨0, 1, .row .u8 []⟩], 2⟩ avs L b (fun l => lfD (.sint .i64) l fun (x19 : Int) l => lfD (.sint .i64) l fun (x20 : Int) l => lfD (.list .u8) l fun (x21 : List UInt8) l => lfE l (.sub (F_store_Named_l0 n k x19 x20 x21) fun r => .alt r (fun r => .ret (.rt, [(.val .bool false)], [⟨0, 3, .row .u8 x21⟩], 4)) (fun r => .ret (.ex 0, [], [⟨0, 3, .row .u8 x21⟩], 4)))) .fail
theorem z_store_Named_l0 (n : Nat) : ∀ avs L b R, (S_store_Named_l0 n 0 avs L b).Wp R → False := by
  intro avs L b R h
  rcases bySk_ok h with ⟨l, rfl, rfl, rfl, q0⟩ | q0
  · obtain ⟨x19, l, rfl, q1⟩ := lfD_ok q0
    obtain ⟨x20, l, rfl, q2⟩ := lfD_ok q1
    obtain ⟨x21, l, rfl, q3⟩ := lfD_ok q2
    obtain ⟨rfl, q⟩ := lfE_ok q3
    exact False.elim q.h
  · exact False.elim q0.h
theorem rd_store_Named_l0 (n k : Nat) : Rounds Try.prog (Go.Func.ntmps Try.f10) (bodyOf Try.f10 0) C_10_0 [S_store_Named_l0 n k] (S_store_Named_l0 n (k + 1)) := by
  intro avs L b R h
  refine ⟨mkTab [], mkCuts [], orCL (S_store_Named_l0 n k) [], .nil, (CutsOK.list (l := []) (by kernel_rfl) (fun _ h => by cases h)), orCL_mem, ?_⟩
  rcases bySk_ok h with ⟨l, rfl, rfl, rfl, q0⟩ | q0
  · obtain ⟨x19, l, rfl, q1⟩ := lfD_ok q0
    obtain ⟨x20, l, rfl, q2⟩ := lfD_ok q1
    obtain ⟨x21, l, rfl, q3⟩ := lfD_ok q2
    obtain ⟨rfl, q⟩ := lfE_ok q3
    exact run_subs (k' := fun r => (match r with | .inl r => .ret (.rt, [(.val .bool false)], [⟨0, 3, .row .u8 x21⟩], 4) | .inr r => .ret (.ex 0, [], [⟨0, 3, .row .u8 x21⟩], 4))) q (fun y hy => by rcases y with y | y <;> exact ⟨hy.h⟩) (by kernel_rfl)
  · exact False.elim q0.h
theorem ok_store_Named_l0 (n k : Nat) : SoundC Try.prog (Go.Func.ntmps Try.f10) (.loop (bodyOf Try.f10 0)) (wr (bodyOf Try.f10 0)) (C_10_0 (S_store_Named_l0 n k)) :=
  loop_rounds (K := fun k => [S_store_Named_l0 n k]) (fun _ => rfl) (by kernel_rfl) (List.forall_mem_cons.2 ⟨z_store_Named_l0 n, (fun _ h => by cases h)⟩) (fun k => (List.forall_mem_cons.2 ⟨rd_store_Named_l0 n k, (fun _ h => by cases h)⟩)) k _ (.head _)
def F_store_Named (n : Nat) (x17 : List UInt8) : Tree Bool :=
  .ite ((Decidable.decide ((Nat.cast (List.length x17) : Int) < (1 : Int))) || (Decidable.decide ((32 : Int) < (Nat.cast (List.length x17) : Int))))
    (.ret false)
    (.get (Hyp.bytesI x17) fun y18 =>
    .sub (F_store_Named_l0 n n (Nat.cast (List.length y18) : Int) (0 : Int) y18) fun y30 =>
    .alt y30 (fun y31 =>
      .ret false)
      fun y32 =>
      .ret true)
def S_store_Named (n : Nat) : Summ := fun avs L b => bySk ⟨[(.val .str [])], [], 0⟩ avs L b (fun l => lfD .str l fun (x17 : List UInt8) l => lfE l (.sub (F_store_Named n x17) fun r => .ret ((.val .bool r), [], 0))) .fail
theorem ok_store_Named (n : Nat) : SoundF Try.prog 10 (S_store_Named n) := by
  refine fn_sound false (c := codeOf Try.f10) (tab := mkTab []) (cuts := mkCuts [(0, C_10_0 (S_store_Named_l0 n n))]) Try.func10 (by kernel_rfl) .nil (CutsOK.list (l := [(0, bodyOf Try.f10 0)]) (by kernel_rfl) (LoopsOK.all ⟨.inr ⟨_, rfl, ok_store_Named_l0 n n⟩, trivial⟩)) (fun avs L b R h => ?_)
  rcases bySk_ok h with ⟨l, rfl, rfl, rfl, q0⟩ | q0
  · obtain ⟨x17, l, rfl, q1⟩ := lfD_ok q0
    obtain ⟨rfl, q⟩ := lfE_ok q1
    exact run_sub q (by kernel_rfl)
  · exact False.elim q0.h
def F_index_Right (n : Nat) (x12 : Int) (x14 : List UInt8) (x15 : Int) (x16 : Int) : Tree Bool :=
  .ite (Decidable.decide (x12 < (1 : Int)))
    (.ret false)
    (.ite (Decidable.decide ((3 : Int) < x12))
      (.ret false)
      (.sub (F_store_Named n x14) fun y33 =>
      .ite (!y33)
        (.ret false)
        (.ret ((Decidable.decide ((8 : Int) ≤ x15)) && ((Decidable.decide (x15 ≤ (65536 : Int))) && ((Decidable.decide ((28 : Int) ≤ x16)) && (Decidable.decide (x16 ≤ (Go.IntKind.wrap Go.IntKind.i64 ((65536 : Int) - x15))))))))))
def S_index_Right (n : Nat) : Summ := fun avs L b => bySk ⟨[(.agg (.pr (.val (.sint .i64) (0 : Int)) (.pr (.val (.arr 32 .u8) []) (.pr (.agg (.pr (.val .str []) (.pr (.val (.sint .i64) (0 : Int)) (.pr (.val (.sint .i64) (0 : Int)) .un)))) .un))))], [], 0⟩ avs L b (fun l => lfD (.sint .i64) l fun (x12 : Int) l => lfD (.arr 32 .u8) l fun (x13 : List UInt8) l => lfD .str l fun (x14 : List UInt8) l => lfD (.sint .i64) l fun (x15 : Int) l => lfD (.sint .i64) l fun (x16 : Int) l => lfE l (.sub (F_index_Right n x12 x14 x15 x16) fun r => .ret ((.val .bool r), [], 0))) .fail
theorem ok_index_Right (n : Nat) : SoundF Try.prog 24 (S_index_Right n) := by
  refine fn_sound false (c := codeOf Try.f24) (tab := mkTab [(10, ⟨S_store_Named n, [], [], false⟩)]) (cuts := mkCuts []) Try.func24 (by kernel_rfl) (.cons (ok_store_Named n) ⟨_, Try.func10, by kernel_rfl⟩ .nil) (CutsOK.list (l := []) (by kernel_rfl) (fun _ h => by cases h)) (fun avs L b R h => ?_)
  rcases bySk_ok h with ⟨l, rfl, rfl, rfl, q0⟩ | q0
  · obtain ⟨x12, l, rfl, q1⟩ := lfD_ok q0
    obtain ⟨x13, l, rfl, q2⟩ := lfD_ok q1
    obtain ⟨x14, l, rfl, q3⟩ := lfD_ok q2
    obtain ⟨x15, l, rfl, q4⟩ := lfD_ok q3
    obtain ⟨x16, l, rfl, q5⟩ := lfD_ok q4
    obtain ⟨rfl, q⟩ := lfE_ok q5
    exact run_sub q (by kernel_rfl)
  · exact False.elim q0.h
def F_index_Index_Add (n : Nat) (x6 : Int) (x7 : List UInt8) (x8 : List UInt8) (x9 : Int) (x10 : Int) (x11 : List ((Int × List UInt8) × List UInt8 × Int × Int)) : Tree ((Int) × (List ((Int × List UInt8) × List UInt8 × Int × Int))) :=
  .sub (F_index_Right n x6 x8 x9 x10) fun y34 =>
  .ite (!y34)
    (.ret ((1 : Int), x11))
    (.ite (Option.isSome (Hyp.mget (Hyp.Ty.rcd (Hyp.Ty.pair (Hyp.Ty.sint Go.IntKind.i64) (Hyp.Ty.arr 32 Hyp.Ty.u8))) (Hyp.Ty.rcd (Hyp.Ty.pair Hyp.Ty.str (Hyp.Ty.pair (Hyp.Ty.sint Go.IntKind.i64) (Hyp.Ty.sint Go.IntKind.i64)))) x11 (x6, x7)))
      (.ret ((19 : Int), x11))
      (.ret ((0 : Int), (Hyp.mput (Hyp.Ty.rcd (Hyp.Ty.pair (Hyp.Ty.sint Go.IntKind.i64) (Hyp.Ty.arr 32 Hyp.Ty.u8))) (Hyp.Ty.rcd (Hyp.Ty.pair Hyp.Ty.str (Hyp.Ty.pair (Hyp.Ty.sint Go.IntKind.i64) (Hyp.Ty.sint Go.IntKind.i64)))) x11 (x6, x7) (x8, (x9, x10))))))
def S_index_Index_Add (n : Nat) : Summ := fun avs L b => bySk ⟨[(.ptr 0 0), (.agg (.pr (.val (.sint .i64) (0 : Int)) (.pr (.val (.arr 32 .u8) []) (.pr (.agg (.pr (.val .str []) (.pr (.val (.sint .i64) (0 : Int)) (.pr (.val (.sint .i64) (0 : Int)) .un)))) .un))))], [⟨0, 1, .box (.agg (.pr (.mpv 2) .un))⟩, ⟨2, 3, .mp (.rcd (.pair (.sint .i64) (.arr 32 .u8))) (.rcd (.pair .str (.pair (.sint .i64) (.sint .i64)))) []⟩], 4⟩ avs L b (fun l => lfD (.sint .i64) l fun (x6 : Int) l => lfD (.arr 32 .u8) l fun (x7 : List UInt8) l => lfD .str l fun (x8 : List UInt8) l => lfD (.sint .i64) l fun (x9 : Int) l => lfD (.sint .i64) l fun (x10 : Int) l => lfD (.list (.rcd (.pair (.rcd (.pair (.sint .i64) (.arr 32 .u8))) (.rcd (.pair .str (.pair (.sint .i64) (.sint .i64))))))) l fun (x11 : List ((Int × List UInt8) × List UInt8 × Int × Int)) l => lfE l (.sub (F_index_Index_Add n x6 x7 x8 x9 x10 x11) fun r => .ret ((.val (.sint .i64) r.1), [⟨0, 5, .box (.agg (.pr (.mpv 2) .un))⟩, ⟨2, 7, .mp (.rcd (.pair (.sint .i64) (.arr 32 .u8))) (.rcd (.pair .str (.pair (.sint .i64) (.sint .i64)))) r.2⟩], 8))) .fail
theorem ok_index_Index_Add (n : Nat) : SoundF Try.prog 14 (S_index_Index_Add n) := by
  refine fn_sound false (c := codeOf Try.f14) (tab := mkTab [(24, ⟨S_index_Right n, [], [], false⟩)]) (cuts := mkCuts []) Try.func14 (by kernel_rfl) (.cons (ok_index_Right n) ⟨_, Try.func24, by kernel_rfl⟩ .nil) (CutsOK.list (l := []) (by kernel_rfl) (fun _ h => by cases h)) (fun avs L b R h => ?_)
  rcases bySk_ok h with ⟨l, rfl, rfl, rfl, q0⟩ | q0
  · obtain ⟨x6, l, rfl, q1⟩ := lfD_ok q0
    obtain ⟨x7, l, rfl, q2⟩ := lfD_ok q1
    obtain ⟨x8, l, rfl, q3⟩ := lfD_ok q2
    obtain ⟨x9, l, rfl, q4⟩ := lfD_ok q3
    obtain ⟨x10, l, rfl, q5⟩ := lfD_ok q4
    obtain ⟨x11, l, rfl, q6⟩ := lfD_ok q5
    obtain ⟨rfl, q⟩ := lfE_ok q6
    exact run_sub q (by kernel_rfl)
  · exact False.elim q0.h
def C_7_0 : CutF → Cut := fun κ => ⟨[0, 1, 7, 8, 14, 15, 16], fun e => match e with | .ex i => bif Nat.beq i 0 then [8] else [] | .rt => [] | .nm => [], κ⟩
def F_index_Index_Find (n : Nat) (x48 : Int) (x49 : List UInt8) (x50 : List ((Int × List UInt8) × List UInt8 × Int × Int)) : Tree ((List UInt8) × ((Int) × ((Int) × Bool))) :=
  .ret ((Hyp.mgetD (Hyp.Ty.rcd (Hyp.Ty.pair (Hyp.Ty.sint Go.IntKind.i64) (Hyp.Ty.arr 32 Hyp.Ty.u8))) (Hyp.Ty.rcd (Hyp.Ty.pair Hyp.Ty.str (Hyp.Ty.pair (Hyp.Ty.sint Go.IntKind.i64) (Hyp.Ty.sint Go.IntKind.i64)))) x50 (x48, x49) (([] : List UInt8), ((0 : Int), (0 : Int)))).1, (Hyp.mgetD (Hyp.Ty.rcd (Hyp.Ty.pair (Hyp.Ty.sint Go.IntKind.i64) (Hyp.Ty.arr 32 Hyp.Ty.u8))) (Hyp.Ty.rcd (Hyp.Ty.pair Hyp.Ty.str (Hyp.Ty.pair (Hyp.Ty.sint Go.IntKind.i64) (Hyp.Ty.sint Go.IntKind.i64)))) x50 (x48, x49) (([] : List UInt8), ((0 : Int), (0 : Int)))).2.1, (Hyp.mgetD (Hyp.Ty.rcd (Hyp.Ty.pair (Hyp.Ty.sint Go.IntKind.i64) (Hyp.Ty.arr 32 Hyp.Ty.u8))) (Hyp.Ty.rcd (Hyp.Ty.pair Hyp.Ty.str (Hyp.Ty.pair (Hyp.Ty.sint Go.IntKind.i64) (Hyp.Ty.sint Go.IntKind.i64)))) x50 (x48, x49) (([] : List UInt8), ((0 : Int), (0 : Int)))).2.2, (Option.isSome (Hyp.mget (Hyp.Ty.rcd (Hyp.Ty.pair (Hyp.Ty.sint Go.IntKind.i64) (Hyp.Ty.arr 32 Hyp.Ty.u8))) (Hyp.Ty.rcd (Hyp.Ty.pair Hyp.Ty.str (Hyp.Ty.pair (Hyp.Ty.sint Go.IntKind.i64) (Hyp.Ty.sint Go.IntKind.i64)))) x50 (x48, x49))))
def S_index_Index_Find (n : Nat) : Summ := fun avs L b => bySk ⟨[(.ptr 0 0), (.val (.sint .i64) (0 : Int)), (.val (.arr 32 .u8) [])], [⟨0, 1, .box (.agg (.pr (.mpv 2) .un))⟩, ⟨2, 3, .mp (.rcd (.pair (.sint .i64) (.arr 32 .u8))) (.rcd (.pair .str (.pair (.sint .i64) (.sint .i64)))) []⟩], 4⟩ avs L b (fun l => lfD (.sint .i64) l fun (x48 : Int) l => lfD (.arr 32 .u8) l fun (x49 : List UInt8) l => lfD (.list (.rcd (.pair (.rcd (.pair (.sint .i64) (.arr 32 .u8))) (.rcd (.pair .str (.pair (.sint .i64) (.sint .i64))))))) l fun (x50 : List ((Int × List UInt8) × List UInt8 × Int × Int)) l => lfE l (.sub (F_index_Index_Find n x48 x49 x50) fun r => .ret ((.tup (.pr (.agg (.pr (.val .str r.1) (.pr (.val (.sint .i64) r.2.1) (.pr (.val (.sint .i64) r.2.2.1) .un)))) (.pr (.val .bool r.2.2.2) .un))), [⟨0, 5, .box (.agg (.pr (.mpv 2) .un))⟩, ⟨2, 7, .mp (.rcd (.pair (.sint .i64) (.arr 32 .u8))) (.rcd (.pair .str (.pair (.sint .i64) (.sint .i64)))) x50⟩], 8))) .fail
theorem ok_index_Index_Find (n : Nat) : SoundF Try.prog 17 (S_index_Index_Find n) := by
  refine fn_sound false (c := codeOf Try.f17) (tab := mkTab []) (cuts := mkCuts []) Try.func17 (by kernel_rfl) .nil (CutsOK.list (l := []) (by kernel_rfl) (fun _ h => by cases h)) (fun avs L b R h => ?_)
  rcases bySk_ok h with ⟨l, rfl, rfl, rfl, q0⟩ | q0
  · obtain ⟨x48, l, rfl, q1⟩ := lfD_ok q0
    obtain ⟨x49, l, rfl, q2⟩ := lfD_ok q1
    obtain ⟨x50, l, rfl, q3⟩ := lfD_ok q2
    obtain ⟨rfl, q⟩ := lfE_ok q3
    exact run_sub q (by kernel_rfl)
  · exact False.elim q0.h
def F_index_Index_Need_l0_1 (n : Nat) : Nat → (Int) → (Int) → (Int) → (List ((Int × List UInt8) × List UInt8 × Int × Int)) → (List (List UInt8 × Int)) → (List (List UInt8)) → (List (List UInt8)) → Tree (Unit ⊕ ((List (List UInt8)) × (List (List UInt8 × Int))))
  | 0 => fun  x54 x55 x56 x57 x58 x59 x60 => .fail
  | k + 1 => fun x54 x55 x56 x57 x58 x59 x60 =>
      .ite (Decidable.decide (x56 < x55))
        (.get (Hyp.inI (List.length x60) x56) fun y73 =>
        .get (GetElem?.getElem? x60 (0 + y73)) fun y74 =>
        .sub (F_index_Index_Find n x54 y74 x57) fun y75 =>
        .ite (y75.2.2.2 || (Decidable.decide ((0 : Int) < (Hyp.mgetD (Hyp.Ty.arr 32 Hyp.Ty.u8) (Hyp.Ty.sint Go.IntKind.i64) x58 y74 (0 : Int)))))
          (.sub (F_index_Index_Need_l0_1 n k x54 x55 (Go.IntKind.wrap Go.IntKind.i64 (x56 + (1 : Int))) x57 x58 x59 x60) fun y76 =>
          .alt y76 (fun y77 =>
            .ret (.inl ()))
            fun y78 =>
            .ret (.inr (y78.1, y78.2)))
          (.get (Hyp.appI 4398046511104 x59 (List.set ([([0, 0, 0, 0, 0, 0, 0, 0, 0, 0, 0, 0, 0, 0, 0, 0, 0, 0, 0, 0, 0, 0, 0, 0, 0, 0, 0, 0, 0, 0, 0, 0] : List UInt8)] : List (List UInt8)) 0 y74)) fun y79 =>
          .sub (F_index_Index_Need_l0_1 n k x54 x55 (Go.IntKind.wrap Go.IntKind.i64 (x56 + (1 : Int))) x57 (Hyp.mput (Hyp.Ty.arr 32 Hyp.Ty.u8) (Hyp.Ty.sint Go.IntKind.i64) x58 y74 (1 : Int)) y79 x60) fun y80 =>
          .alt y80 (fun y81 =>
            .ret (.inr (y79, (Hyp.mput (Hyp.Ty.arr 32 Hyp.Ty.u8) (Hyp.Ty.sint Go.IntKind.i64) x58 y74 (1 : Int)))))
            fun y82 =>
            .ret (.inr (y82.1, y82.2))))
        (.ret (.inl ()))
def S_index_Index_Need_l0_1 (n k : Nat) : CutF := fun avs L b => bySk ⟨[(.ptr 0 0), (.val (.sint .i64) (0 : Int)), (.mpv 4), (.whole 6 32), (.whole 8 32), (.val (.sint .i64) (0 : Int)), (.val (.sint .i64) (0 : Int))], [⟨0, 1, .box (.agg (.pr (.mpv 2) .un))⟩, ⟨2, 3, .mp (.rcd (.pair (.sint .i64) (.arr 32 .u8))) (.rcd (.pair .str (.pair (.sint .i64) (.sint .i64)))) []⟩, ⟨4, 5, .mp (.arr 32 .u8) (.sint .i64) []⟩, ⟨6, 7, .row (.arr 32 .u8) []⟩, ⟨8, 9, .row (.arr 32 .u8) []⟩], 10⟩ avs L b (fun l => lfD (.sint .i64) l fun (x54 : Int) l => lfD (.sint .i64) l fun (x55 : Int) l => lfD (.sint .i64) l fun (x56 : Int) l => lfD (.list (.rcd (.pair (.rcd (.pair (.sint .i64) (.arr 32 .u8))) (.rcd (.pair .str (.pair (.sint .i64) (.sint .i64))))))) l fun (x57 : List ((Int × List UInt8) × List UInt8 × Int × Int)) l => lfD (.list (.rcd (.pair (.arr 32 .u8) (.sint .i64)))) l fun (x58 : List (List UInt8 × Int)) l => lfD (.list (.arr 32 .u8)) l fun (x59 : List (List UInt8)) l => lfD (.list (.arr 32 .u8)) l fun (x60 : List (List UInt8)) l => lfE l (.sub (F_index_Index_Need_l0_1 n k x54 x55 x56 x57 x58 x59 x60) fun r => .alt r (fun r => .ret (.ex 0, [(.whole 6 32)], [⟨6, 11, .row (.arr 32 .u8) x59⟩, ⟨0, 13, .box (.agg (.pr (.mpv 2) .un))⟩, ⟨2, 15, .mp (.rcd (.pair (.sint .i64) (.arr 32 .u8))) (.rcd (.pair .str (.pair (.sint .i64) (.sint .i64)))) x57⟩, ⟨4, 17, .mp (.arr 32 .u8) (.sint .i64) x58⟩, ⟨8, 19, .row (.arr 32 .u8) x60⟩], 20)) (fun r => .ret (.ex 0, [(.whole 10 32)], [⟨10, 11, .row (.arr 32 .u8) r.1⟩, ⟨0, 13, .box (.agg (.pr (.mpv 2) .un))⟩, ⟨2, 15, .mp (.rcd (.pair (.sint .i64) (.arr 32 .u8))) (.rcd (.pair .str (.pair (.sint .i64) (.sint .i64)))) x57⟩, ⟨4, 17, .mp (.arr 32 .u8) (.sint .i64) r.2⟩, ⟨8, 19, .row (.arr 32 .u8) x60⟩], 20)))) .fail
theorem z_index_Index_Need_l0_1 (n : Nat) : ∀ avs L b R, (S_index_Index_Need_l0_1 n 0 avs L b).Wp R → False := by
  intro avs L b R h
  rcases bySk_ok h with ⟨l, rfl, rfl, rfl, q0⟩ | q0
  · obtain ⟨x54, l, rfl, q1⟩ := lfD_ok q0
    obtain ⟨x55, l, rfl, q2⟩ := lfD_ok q1
    obtain ⟨x56, l, rfl, q3⟩ := lfD_ok q2
    obtain ⟨x57, l, rfl, q4⟩ := lfD_ok q3
    obtain ⟨x58, l, rfl, q5⟩ := lfD_ok q4
    obtain ⟨x59, l, rfl, q6⟩ := lfD_ok q5
    obtain ⟨x60, l, rfl, q7⟩ := lfD_ok q6
    obtain ⟨rfl, q⟩ := lfE_ok q7
    exact False.elim q.h
  · exact False.elim q0.h
theorem rd_index_Index_Need_l0_1 (n k : Nat) : Rounds Try.prog (Go.Func.ntmps Try.f7) (bodyOf Try.f7 0) C_7_0 [S_index_Index_Need_l0_1 n k] (S_index_Index_Need_l0_1 n (k + 1)) := by
  intro avs L b R h
  refine ⟨mkTab [(17, ⟨S_index_Index_Find n, [], [], false⟩)], mkCuts [], orCL (S_index_Index_Need_l0_1 n k) [], (.cons (ok_index_Index_Find n) ⟨_, Try.func17, by kernel_rfl⟩ .nil), (CutsOK.list (l := []) (by kernel_rfl) (fun _ h => by cases h)), orCL_mem, ?_⟩
  rcases bySk_ok h with ⟨l, rfl, rfl, rfl, q0⟩ | q0
  · obtain ⟨x54, l, rfl, q1⟩ := lfD_ok q0
    obtain ⟨x55, l, rfl, q2⟩ := lfD_ok q1
    obtain ⟨x56, l, rfl, q3⟩ := lfD_ok q2
    obtain ⟨x57, l, rfl, q4⟩ := lfD_ok q3
    obtain ⟨x58, l, rfl, q5⟩ := lfD_ok q4
    obtain ⟨x59, l, rfl, q6⟩ := lfD_ok q5
    obtain ⟨x60, l, rfl, q7⟩ := lfD_ok q6
    obtain ⟨rfl, q⟩ := lfE_ok q7
    exact run_subs (k' := fun r => (match r with | .inl r => .ret (.ex 0, [(.whole 6 32)], [⟨6, 11, .row (.arr 32 .u8) x59⟩, ⟨0, 13, .box (.agg (.pr (.mpv 2) .un))⟩, ⟨2, 15, .mp (.rcd (.pair (.sint .i64) (.arr 32 .u8))) (.rcd (.pair .str (.pair (.sint .i64) (.sint .i64)))) x57⟩, ⟨4, 17, .mp (.arr 32 .u8) (.sint .i64) x58⟩, ⟨8, 19, .row (.arr 32 .u8) x60⟩], 20) | .inr r => .ret (.ex 0, [(.whole 10 32)], [⟨10, 11, .row (.arr 32 .u8) r.1⟩, ⟨0, 13, .box (.agg (.pr (.mpv 2) .un))⟩, ⟨2, 15, .mp (.rcd (.pair (.sint .i64) (.arr 32 .u8))) (.rcd (.pair .str (.pair (.sint .i64) (.sint .i64)))) x57⟩, ⟨4, 17, .mp (.arr 32 .u8) (.sint .i64) r.2⟩, ⟨8, 19, .row (.arr 32 .u8) x60⟩], 20))) q (fun y hy => by rcases y with y | y <;> exact ⟨hy.h⟩) (by kernel_rfl)
  · exact False.elim q0.h
theorem ok_index_Index_Need_l0_1 (n k : Nat) : SoundC Try.prog (Go.Func.ntmps Try.f7) (.loop (bodyOf Try.f7 0)) (wr (bodyOf Try.f7 0)) (C_7_0 (S_index_Index_Need_l0_1 n k)) :=
  loop_rounds (K := fun k => [S_index_Index_Need_l0_1 n k]) (fun _ => rfl) (by kernel_rfl) (List.forall_mem_cons.2 ⟨z_index_Index_Need_l0_1 n, (fun _ h => by cases h)⟩) (fun k => (List.forall_mem_cons.2 ⟨rd_index_Index_Need_l0_1 n k, (fun _ h => by cases h)⟩)) k _ (.head _)
def F_index_Index_Need_l0 (n : Nat) : Nat → (Int) → (Int) → (Int) → (List ((Int × List UInt8) × List UInt8 × Int × Int)) → (List (List UInt8 × Int)) → (List (List UInt8)) → Tree (((List (List UInt8)) × (List (List UInt8 × Int))) ⊕ Unit)
  | 0 => fun  x40 x41 x42 x43 x44 x45 => .fail
  | k + 1 => fun x40 x41 x42 x43 x44 x45 =>
      .ite (Decidable.decide (x42 < x41))
        (.get (Hyp.inI (List.length x45) x42) fun y86 =>
        .get (GetElem?.getElem? x45 (0 + y86)) fun y87 =>
        .sub (F_index_Index_Find n x40 y87 x43) fun y88 =>
        .ite (y88.2.2.2 || (Decidable.decide ((0 : Int) < (Hyp.mgetD (Hyp.Ty.arr 32 Hyp.Ty.u8) (Hyp.Ty.sint Go.IntKind.i64) x44 y87 (0 : Int)))))
          (.sub (F_index_Index_Need_l0 n k x40 x41 (Go.IntKind.wrap Go.IntKind.i64 (x42 + (1 : Int))) x43 x44 x45) fun y89 =>
          .alt y89 (fun y90 =>
            .ret (.inl (y90.1, y90.2)))
            fun y91 =>
            .ret (.inr ()))
          (.get (Hyp.appI 4398046511104 ([] : List (List UInt8)) (List.set ([([0, 0, 0, 0, 0, 0, 0, 0, 0, 0, 0, 0, 0, 0, 0, 0, 0, 0, 0, 0, 0, 0, 0, 0, 0, 0, 0, 0, 0, 0, 0, 0] : List UInt8)] : List (List UInt8)) 0 y87)) fun y92 =>
          .sub (F_index_Index_Need_l0_1 n k x40 x41 (Go.IntKind.wrap Go.IntKind.i64 (x42 + (1 : Int))) x43 (Hyp.mput (Hyp.Ty.arr 32 Hyp.Ty.u8) (Hyp.Ty.sint Go.IntKind.i64) x44 y87 (1 : Int)) y92 x45) fun y93 =>
          .alt y93 (fun y94 =>
            .ret (.inl (y92, (Hyp.mput (Hyp.Ty.arr 32 Hyp.Ty.u8) (Hyp.Ty.sint Go.IntKind.i64) x44 y87 (1 : Int)))))
            fun y95 =>
            .ret (.inl (y95.1, y95.2))))
        (.ret (.inr ()))
def S_index_Index_Need_l0 (n k : Nat) : CutF := fun avs L b => bySk ⟨[(.ptr 0 0), (.val (.sint .i64) (0 : Int)), (.mpv 4), (.snil none), (.whole 6 32), (.val (.sint .i64) (0 : Int)), (.val (.sint .i64) (0 : Int))], [⟨0, 1, .box (.agg (.pr (.mpv 2) .un))⟩, ⟨2, 3, .mp (.rcd (.pair (.sint .i64) (.arr 32 .u8))) (.rcd (.pair .str (.pair (.sint .i64) (.sint .i64)))) []⟩, ⟨4, 5, .mp (.arr 32 .u8) (.sint .i64) []⟩, ⟨6, 7, .row (.arr 32 .u8) []⟩], 8⟩ avs L b (fun l => lfD (.sint .i64) l fun (x40 : Int) l => lfD (.sint .i64) l fun (x41 : Int) l => lfD (.sint .i64) l fun (x42 : Int) l => lfD (.list (.rcd (.pair (.rcd (.pair (.sint .i64) (.arr 32 .u8))) (.rcd (.pair .str (.pair (.sint .i64) (.sint .i64))))))) l fun (x43 : List ((Int × List UInt8) × List UInt8 × Int × Int)) l => lfD (.list (.rcd (.pair (.arr 32 .u8) (.sint .i64)))) l fun (x44 : List (List UInt8 × Int)) l => lfD (.list (.arr 32 .u8)) l fun (x45 : List (List UInt8)) l => lfE l (.sub (F_index_Index_Need_l0 n k x40 x41 x42 x43 x44 x45) fun r => .alt r (fun r => .ret (.ex 0, [(.whole 8 32)], [⟨8, 9, .row (.arr 32 .u8) r.1⟩, ⟨0, 11, .box (.agg (.pr (.mpv 2) .un))⟩, ⟨2, 13, .mp (.rcd (.pair (.sint .i64) (.arr 32 .u8))) (.rcd (.pair .str (.pair (.sint .i64) (.sint .i64)))) x43⟩, ⟨4, 15, .mp (.arr 32 .u8) (.sint .i64) r.2⟩, ⟨6, 17, .row (.arr 32 .u8) x45⟩], 18)) (fun r => .ret (.ex 0, [(.snil none)], [⟨0, 9, .box (.agg (.pr (.mpv 2) .un))⟩, ⟨2, 11, .mp (.rcd (.pair (.sint .i64) (.arr 32 .u8))) (.rcd (.pair .str (.pair (.sint .i64) (.sint .i64)))) x43⟩, ⟨4, 13, .mp (.arr 32 .u8) (.sint .i64) x44⟩, ⟨6, 15, .row (.arr 32 .u8) x45⟩], 16)))) .fail
theorem z_index_Index_Need_l0 (n : Nat) : ∀ avs L b R, (S_index_Index_Need_l0 n 0 avs L b).Wp R → False := by
  intro avs L b R h
  rcases bySk_ok h with ⟨l, rfl, rfl, rfl, q0⟩ | q0
  · obtain ⟨x40, l, rfl, q1⟩ := lfD_ok q0
    obtain ⟨x41, l, rfl, q2⟩ := lfD_ok q1
    obtain ⟨x42, l, rfl, q3⟩ := lfD_ok q2
    obtain ⟨x43, l, rfl, q4⟩ := lfD_ok q3
    obtain ⟨x44, l, rfl, q5⟩ := lfD_ok q4
    obtain ⟨x45, l, rfl, q6⟩ := lfD_ok q5
    obtain ⟨rfl, q⟩ := lfE_ok q6
    exact False.elim q.h
  · exact False.elim q0.h
theorem rd_index_Index_Need_l0 (n k : Nat) : Rounds Try.prog (Go.Func.ntmps Try.f7) (bodyOf Try.f7 0) C_7_0 [S_index_Index_Need_l0 n k, S_index_Index_Need_l0_1 n k] (S_index_Index_Need_l0 n (k + 1)) := by
  intro avs L b R h
  refine ⟨mkTab [(17, ⟨S_index_Index_Find n, [], [], false⟩)], mkCuts [], orCL (S_index_Index_Need_l0 n k) [S_index_Index_Need_l0_1 n k], (.cons (ok_index_Index_Find n) ⟨_, Try.func17, by kernel_rfl⟩ .nil), (CutsOK.list (l := []) (by kernel_rfl) (fun _ h => by cases h)), orCL_mem, ?_⟩
  rcases bySk_ok h with ⟨l, rfl, rfl, rfl, q0⟩ | q0
  · obtain ⟨x40, l, rfl, q1⟩ := lfD_ok q0
    obtain ⟨x41, l, rfl, q2⟩ := lfD_ok q1
    obtain ⟨x42, l, rfl, q3⟩ := lfD_ok q2
    obtain ⟨x43, l, rfl, q4⟩ := lfD_ok q3
    obtain ⟨x44, l, rfl, q5⟩ := lfD_ok q4
    obtain ⟨x45, l, rfl, q6⟩ := lfD_ok q5
    obtain ⟨rfl, q⟩ := lfE_ok q6
    exact run_subs (k' := fun r => (match r with | .inl r => .ret (.ex 0, [(.whole 8 32)], [⟨8, 9, .row (.arr 32 .u8) r.1⟩, ⟨0, 11, .box (.agg (.pr (.mpv 2) .un))⟩, ⟨2, 13, .mp (.rcd (.pair (.sint .i64) (.arr 32 .u8))) (.rcd (.pair .str (.pair (.sint .i64) (.sint .i64)))) x43⟩, ⟨4, 15, .mp (.arr 32 .u8) (.sint .i64) r.2⟩, ⟨6, 17, .row (.arr 32 .u8) x45⟩], 18) | .inr r => .ret (.ex 0, [(.snil none)], [⟨0, 9, .box (.agg (.pr (.mpv 2) .un))⟩, ⟨2, 11, .mp (.rcd (.pair (.sint .i64) (.arr 32 .u8))) (.rcd (.pair .str (.pair (.sint .i64) (.sint .i64)))) x43⟩, ⟨4, 13, .mp (.arr 32 .u8) (.sint .i64) x44⟩, ⟨6, 15, .row (.arr 32 .u8) x45⟩], 16))) q (fun y hy => by rcases y with y | y <;> exact ⟨hy.h⟩) (by kernel_rfl)
  · exact False.elim q0.h
theorem ok_index_Index_Need_l0 (n k : Nat) : SoundC Try.prog (Go.Func.ntmps Try.f7) (.loop (bodyOf Try.f7 0)) (wr (bodyOf Try.f7 0)) (C_7_0 (S_index_Index_Need_l0 n k)) :=
  loop_rounds (K := fun k => [S_index_Index_Need_l0 n k, S_index_Index_Need_l0_1 n k]) (fun _ => rfl) (by kernel_rfl) (List.forall_mem_cons.2 ⟨z_index_Index_Need_l0 n, (List.forall_mem_cons.2 ⟨z_index_Index_Need_l0_1 n, (fun _ h => by cases h)⟩)⟩) (fun k => (List.forall_mem_cons.2 ⟨rd_index_Index_Need_l0 n k, (List.forall_mem_cons.2 ⟨(rd_index_Index_Need_l0_1 n k).mono (List.forall_mem_cons.2 ⟨(.tail _ (.head _)), (fun _ h => by cases h)⟩), (fun _ h => by cases h)⟩)⟩)) k _ (.head _)
def F_index_Index_Need (n : Nat) (x37 : Int) (x38 : List ((Int × List UInt8) × List UInt8 × Int × Int)) (x39 : List (List UInt8)) : Tree ((List (List UInt8)) ⊕ Unit) :=
  .sub (F_index_Index_Need_l0 n n x37 (Nat.cast (List.length x39) : Int) (0 : Int) x38 ([] : List ((List UInt8) × Int)) x39) fun y96 =>
  .alt y96 (fun y97 =>
    .ret (.inl y97.1))
    fun y98 =>
    .ret (.inr ())
def S_index_Index_Need (n : Nat) : Summ := fun avs L b => bySk ⟨[(.ptr 0 0), (.val (.sint .i64) (0 : Int)), (.whole 4 32)], [⟨0, 1, .box (.agg (.pr (.mpv 2) .un))⟩, ⟨2, 3, .mp (.rcd (.pair (.sint .i64) (.arr 32 .u8))) (.rcd (.pair .str (.pair (.sint .i64) (.sint .i64)))) []⟩, ⟨4, 5, .row (.arr 32 .u8) []⟩], 6⟩ avs L b (fun l => lfD (.sint .i64) l fun (x37 : Int) l => lfD (.list (.rcd (.pair (.rcd (.pair (.sint .i64) (.arr 32 .u8))) (.rcd (.pair .str (.pair (.sint .i64) (.sint .i64))))))) l fun (x38 : List ((Int × List UInt8) × List UInt8 × Int × Int)) l => lfD (.list (.arr 32 .u8)) l fun (x39 : List (List UInt8)) l => lfE l (.sub (F_index_Index_Need n x37 x38 x39) fun r => .alt r (fun r => .ret ((.whole 6 32), [⟨6, 7, .row (.arr 32 .u8) r⟩, ⟨0, 9, .box (.agg (.pr (.mpv 2) .un))⟩, ⟨2, 11, .mp (.rcd (.pair (.sint .i64) (.arr 32 .u8))) (.rcd (.pair .str (.pair (.sint .i64) (.sint .i64)))) x38⟩, ⟨4, 13, .row (.arr 32 .u8) x39⟩], 14)) (fun r => .ret ((.snil none), [⟨0, 7, .box (.agg (.pr (.mpv 2) .un))⟩, ⟨2, 9, .mp (.rcd (.pair (.sint .i64) (.arr 32 .u8))) (.rcd (.pair .str (.pair (.sint .i64) (.sint .i64)))) x38⟩, ⟨4, 11, .row (.arr 32 .u8) x39⟩], 12)))) .fail
theorem ok_index_Index_Need (n : Nat) : SoundF Try.prog 7 (S_index_Index_Need n) := by
  refine fn_sound false (c := codeOf Try.f7) (tab := mkTab []) (cuts := mkCuts [(0, C_7_0 (S_index_Index_Need_l0 n n))]) Try.func7 (by kernel_rfl) .nil (CutsOK.list (l := [(0, bodyOf Try.f7 0)]) (by kernel_rfl) (LoopsOK.all ⟨.inr ⟨_, rfl, ok_index_Index_Need_l0 n n⟩, trivial⟩)) (fun avs L b R h => ?_)
  rcases bySk_ok h with ⟨l, rfl, rfl, rfl, q0⟩ | q0
  · obtain ⟨x37, l, rfl, q1⟩ := lfD_ok q0
    obtain ⟨x38, l, rfl, q2⟩ := lfD_ok q1
    obtain ⟨x39, l, rfl, q3⟩ := lfD_ok q2
    obtain ⟨rfl, q⟩ := lfE_ok q3
    exact run_subs (k' := fun r => (match r with | .inl r => .ret ((.whole 6 32), [⟨6, 7, .row (.arr 32 .u8) r⟩, ⟨0, 9, .box (.agg (.pr (.mpv 2) .un))⟩, ⟨2, 11, .mp (.rcd (.pair (.sint .i64) (.arr 32 .u8))) (.rcd (.pair .str (.pair (.sint .i64) (.sint .i64)))) x38⟩, ⟨4, 13, .row (.arr 32 .u8) x39⟩], 14) | .inr r => .ret ((.snil none), [⟨0, 7, .box (.agg (.pr (.mpv 2) .un))⟩, ⟨2, 9, .mp (.rcd (.pair (.sint .i64) (.arr 32 .u8))) (.rcd (.pair .str (.pair (.sint .i64) (.sint .i64)))) x38⟩, ⟨4, 11, .row (.arr 32 .u8) x39⟩], 12))) q (fun y hy => by rcases y with y | y <;> exact ⟨hy.h⟩) (by kernel_rfl)
  · exact False.elim q0.h
def F_index_Index_Len (n : Nat) (x103 : List ((Int × List UInt8) × List UInt8 × Int × Int)) : Tree Int :=
  .ret (Nat.cast (List.length x103) : Int)
def S_index_Index_Len (n : Nat) : Summ := fun avs L b => bySk ⟨[(.ptr 0 0)], [⟨0, 1, .box (.agg (.pr (.mpv 2) .un))⟩, ⟨2, 3, .mp (.rcd (.pair (.sint .i64) (.arr 32 .u8))) (.rcd (.pair .str (.pair (.sint .i64) (.sint .i64)))) []⟩], 4⟩ avs L b (fun l => lfD (.list (.rcd (.pair (.rcd (.pair (.sint .i64) (.arr 32 .u8))) (.rcd (.pair .str (.pair (.sint .i64) (.sint .i64))))))) l fun (x103 : List ((Int × List UInt8) × List UInt8 × Int × Int)) l => lfE l (.sub (F_index_Index_Len n x103) fun r => .ret ((.val (.sint .i64) r), [⟨0, 5, .box (.agg (.pr (.mpv 2) .un))⟩, ⟨2, 7, .mp (.rcd (.pair (.sint .i64) (.arr 32 .u8))) (.rcd (.pair .str (.pair (.sint .i64) (.sint .i64)))) x103⟩], 8))) .fail
theorem ok_index_Index_Len (n : Nat) : SoundF Try.prog 15 (S_index_Index_Len n) := by
  refine fn_sound false (c := codeOf Try.f15) (tab := mkTab []) (cuts := mkCuts []) Try.func15 (by kernel_rfl) .nil (CutsOK.list (l := []) (by kernel_rfl) (fun _ h => by cases h)) (fun avs L b R h => ?_)
  rcases bySk_ok h with ⟨l, rfl, rfl, rfl, q0⟩ | q0
  · obtain ⟨x103, l, rfl, q1⟩ := lfD_ok q0
    obtain ⟨rfl, q⟩ := lfE_ok q1
    exact run_sub q (by kernel_rfl)
  · exact False.elim q0.h
def F_hypogeumlaw20_awake (n : Nat) : Tree Bool :=
  .sub (F_index_New n) fun y5 =>
  .sub (F_index_Index_Add n (1 : Int) ([2, 0, 0, 0, 0, 0, 0, 0, 0, 0, 0, 0, 0, 0, 0, 0, 0, 0, 0, 0, 0, 0, 0, 0, 0, 0, 0, 0, 0, 0, 0, 0] : List UInt8) ([112] : List UInt8) (8 : Int) (28 : Int) ([] : List ((Int × (List UInt8)) × ((List UInt8) × (Int × Int))))) fun y35 =>
  .ite (!(Decidable.decide (y35.1 = (0 : Int))))
    (.ret false)
    (.sub (F_index_Index_Add n (1 : Int) ([2, 0, 0, 0, 0, 0, 0, 0, 0, 0, 0, 0, 0, 0, 0, 0, 0, 0, 0, 0, 0, 0, 0, 0, 0, 0, 0, 0, 0, 0, 0, 0] : List UInt8) ([112] : List UInt8) (8 : Int) (28 : Int) y35.2) fun y36 =>
    .ite (!(Decidable.decide (y36.1 = (19 : Int))))
      (.ret false)
      (.sub (F_index_Index_Need n (1 : Int) y36.2 ([([1, 0, 0, 0, 0, 0, 0, 0, 0, 0, 0, 0, 0, 0, 0, 0, 0, 0, 0, 0, 0, 0, 0, 0, 0, 0, 0, 0, 0, 0, 0, 0] : List UInt8), ([2, 0, 0, 0, 0, 0, 0, 0, 0, 0, 0, 0, 0, 0, 0, 0, 0, 0, 0, 0, 0, 0, 0, 0, 0, 0, 0, 0, 0, 0, 0, 0] : List UInt8), ([1, 0, 0, 0, 0, 0, 0, 0, 0, 0, 0, 0, 0, 0, 0, 0, 0, 0, 0, 0, 0, 0, 0, 0, 0, 0, 0, 0, 0, 0, 0, 0] : List UInt8)] : List (List UInt8))) fun y99 =>
      .alt y99 (fun y100 =>
        .ite (Decidable.decide ((Nat.cast (List.length y100) : Int) = (1 : Int)))
          (.get (Hyp.inI (List.length y100) (0 : Int)) fun y101 =>
          .get (GetElem?.getElem? y100 (0 + y101)) fun y102 =>
          .ite (Hyp.eqV (Hyp.Ty.arr 32 Hyp.Ty.u8) y102 ([1, 0, 0, 0, 0, 0, 0, 0, 0, 0, 0, 0, 0, 0, 0, 0, 0, 0, 0, 0, 0, 0, 0, 0, 0, 0, 0, 0, 0, 0, 0, 0] : List UInt8))
            (.sub (F_index_Index_Len n y36.2) fun y104 =>
            .ret (Decidable.decide (y104 = (1 : Int))))
            (.ret false))
          (.ret false))
        fun y105 =>
        .ite false
          (.fail)
          (.ret false)))
def S_hypogeumlaw20_awake (n : Nat) : Summ := fun avs L b => bySk ⟨[], [], 0⟩ avs L b (fun l => lfE l (.sub (F_hypogeumlaw20_awake n) fun r => .ret ((.val .bool r), [], 0))) .fail
theorem ok_hypogeumlaw20_awake (n : Nat) : SoundF Try.prog 5 (S_hypogeumlaw20_awake n) := by
  refine fn_sound true (c := codeOf Try.f5) (tab := mkTab [(13, ⟨S_index_New n, [], [], false⟩), (14, ⟨S_index_Index_Add n, [], [], false⟩), (7, ⟨S_index_Index_Need n, [], [], false⟩), (15, ⟨S_index_Index_Len n, [], [], false⟩)]) (cuts := mkCuts []) Try.func5 (by kernel_rfl) (.cons (ok_index_New n) ⟨_, Try.func13, by kernel_rfl⟩ (.cons (ok_index_Index_Add n) ⟨_, Try.func14, by kernel_rfl⟩ (.cons (ok_index_Index_Need n) ⟨_, Try.func7, by kernel_rfl⟩ (.cons (ok_index_Index_Len n) ⟨_, Try.func15, by kernel_rfl⟩ .nil)))) (CutsOK.list (l := []) (by kernel_rfl) (fun _ h => by cases h)) (fun avs L b R h => ?_)
  rcases bySk_ok h with ⟨l, rfl, rfl, rfl, q0⟩ | q0
  · obtain ⟨rfl, q⟩ := lfE_ok q0
    exact run_sub q (by kernel_rfl)
  · exact False.elim q0.h
def C_6_0 : CutF → Cut := fun κ => ⟨[0, 5, 6, 7, 8], fun e => match e with | .ex i => bif Nat.beq i 0 then [7] else [] | .rt => [] | .nm => [], κ⟩
def C_11_0 : CutF → Cut := fun κ => ⟨[0, 3], fun e => match e with | .ex i => bif Nat.beq i 0 then [] else [] | .rt => [2] | .nm => [], κ⟩
def F_hypogeumref16_Named_l0 (n : Nat) : Nat → (List UInt8) → (Int) → Tree (Unit ⊕ Unit)
  | 0 => fun  x130 x131 => .fail
  | k + 1 => fun x130 x131 =>
      .ite (Decidable.decide (x131 < (Nat.cast (List.length x130) : Int)))
        (.get (Hyp.getI x130 x131) fun y141 =>
        .ite (Decidable.decide ((97 : UInt8) ≤ y141))
          (.get (Hyp.getI x130 x131) fun y142 =>
          .get (Hyp.getI x130 x131) fun y143 =>
          .ite (Decidable.decide ((48 : UInt8) ≤ y143))
            (.get (Hyp.getI x130 x131) fun y144 =>
            .ite ((!(Decidable.decide (y142 ≤ (122 : UInt8)))) && (!(Decidable.decide (y144 ≤ (57 : UInt8)))))
              (.ret (.inl ()))
              (.sub (F_hypogeumref16_Named_l0 n k x130 (Go.IntKind.wrap Go.IntKind.i64 (x131 + (1 : Int)))) fun y145 =>
              .alt y145 (fun y146 =>
                .ret (.inl ()))
                fun y147 =>
                .ret (.inr ())))
            (.ite (!(Decidable.decide (y142 ≤ (122 : UInt8))))
              (.ret (.inl ()))
              (.sub (F_hypogeumref16_Named_l0 n k x130 (Go.IntKind.wrap Go.IntKind.i64 (x131 + (1 : Int)))) fun y148 =>
              .alt y148 (fun y149 =>
                .ret (.inl ()))
                fun y150 =>
                .ret (.inr ()))))
          (.get (Hyp.getI x130 x131) fun y151 =>
          .ite (Decidable.decide ((48 : UInt8) ≤ y151))
            (.get (Hyp.getI x130 x131) fun y152 =>
            .ite (!(Decidable.decide (y152 ≤ (57 : UInt8))))
              (.ret (.inl ()))
              (.sub (F_hypogeumref16_Named_l0 n k x130 (Go.IntKind.wrap Go.IntKind.i64 (x131 + (1 : Int)))) fun y153 =>
              .alt y153 (fun y154 =>
                .ret (.inl ()))
                fun y155 =>
                .ret (.inr ())))
            (.ret (.inl ()))))
        (.ret (.inr ()))
def S_hypogeumref16_Named_l0 (n k : Nat) : CutF := fun avs L b => bySk ⟨[(.val .str []), (.val (.sint .i64) (0 : Int))], [], 0⟩ avs L b (fun l => lfD .str l fun (x130 : List UInt8) l => lfD (.sint .i64) l fun (x131 : Int) l => lfE l (.sub (F_hypogeumref16_Named_l0 n k x130 x131) fun r => .alt r (fun r => .ret (.rt, [(.val .bool false)], [], 0)) (fun r => .ret (.ex 0, [], [], 0)))) .fail
theorem z_hypogeumref16_Named_l0 (n : Nat) : ∀ avs L b R, (S_hypogeumref16_Named_l0 n 0 avs L b).Wp R → False := by
  intro avs L b R h
  rcases bySk_ok h with ⟨l, rfl, rfl, rfl, q0⟩ | q0
  · obtain ⟨x130, l, rfl, q1⟩ := lfD_ok q0
    obtain ⟨x131, l, rfl, q2⟩ := lfD_ok q1
    obtain ⟨rfl, q⟩ := lfE_ok q2
    exact False.elim q.h
  · exact False.elim q0.h
theorem rd_hypogeumref16_Named_l0 (n k : Nat) : Rounds Try.prog (Go.Func.ntmps Try.f11) (bodyOf Try.f11 0) C_11_0 [S_hypogeumref16_Named_l0 n k] (S_hypogeumref16_Named_l0 n (k + 1)) := by
  intro avs L b R h
  refine ⟨mkTab [], mkCuts [], orCL (S_hypogeumref16_Named_l0 n k) [], .nil, (CutsOK.list (l := []) (by kernel_rfl) (fun _ h => by cases h)), orCL_mem, ?_⟩
  rcases bySk_ok h with ⟨l, rfl, rfl, rfl, q0⟩ | q0
  · obtain ⟨x130, l, rfl, q1⟩ := lfD_ok q0
    obtain ⟨x131, l, rfl, q2⟩ := lfD_ok q1
    obtain ⟨rfl, q⟩ := lfE_ok q2
    exact run_subs (k' := fun r => (match r with | .inl r => .ret (.rt, [(.val .bool false)], [], 0) | .inr r => .ret (.ex 0, [], [], 0))) q (fun y hy => by rcases y with y | y <;> exact ⟨hy.h⟩) (by kernel_rfl)
  · exact False.elim q0.h
theorem ok_hypogeumref16_Named_l0 (n k : Nat) : SoundC Try.prog (Go.Func.ntmps Try.f11) (.loop (bodyOf Try.f11 0)) (wr (bodyOf Try.f11 0)) (C_11_0 (S_hypogeumref16_Named_l0 n k)) :=
  loop_rounds (K := fun k => [S_hypogeumref16_Named_l0 n k]) (fun _ => rfl) (by kernel_rfl) (List.forall_mem_cons.2 ⟨z_hypogeumref16_Named_l0 n, (fun _ h => by cases h)⟩) (fun k => (List.forall_mem_cons.2 ⟨rd_hypogeumref16_Named_l0 n k, (fun _ h => by cases h)⟩)) k _ (.head _)
def F_hypogeumref16_Named (n : Nat) (x129 : List UInt8) : Tree Bool :=
  .sub (F_hypogeumref16_Named_l0 n n x129 (0 : Int)) fun y156 =>
  .alt y156 (fun y157 =>
    .ret false)
    fun y158 =>
    .ret ((Decidable.decide ((1 : Int) ≤ (Nat.cast (List.length x129) : Int))) && (Decidable.decide ((Nat.cast (List.length x129) : Int) ≤ (32 : Int))))
def S_hypogeumref16_Named (n : Nat) : Summ := fun avs L b => bySk ⟨[(.val .str [])], [], 0⟩ avs L b (fun l => lfD .str l fun (x129 : List UInt8) l => lfE l (.sub (F_hypogeumref16_Named n x129) fun r => .ret ((.val .bool r), [], 0))) .fail
theorem ok_hypogeumref16_Named (n : Nat) : SoundF Try.prog 11 (S_hypogeumref16_Named n) := by
  refine fn_sound true (c := codeOf Try.f11) (tab := mkTab []) (cuts := mkCuts [(0, C_11_0 (S_hypogeumref16_Named_l0 n n))]) Try.func11 (by kernel_rfl) .nil (CutsOK.list (l := [(0, bodyOf Try.f11 0)]) (by kernel_rfl) (LoopsOK.all ⟨.inr ⟨_, rfl, ok_hypogeumref16_Named_l0 n n⟩, trivial⟩)) (fun avs L b R h => ?_)
  rcases bySk_ok h with ⟨l, rfl, rfl, rfl, q0⟩ | q0
  · obtain ⟨x129, l, rfl, q1⟩ := lfD_ok q0
    obtain ⟨rfl, q⟩ := lfE_ok q1
    exact run_sub q (by kernel_rfl)
  · exact False.elim q0.h
def F_hypogeumref20_Right (n : Nat) (x124 : Int) (x126 : List UInt8) (x127 : Int) (x128 : Int) : Tree Bool :=
  .ite (Decidable.decide (x124 < (1 : Int)))
    (.ret false)
    (.ite (Decidable.decide ((3 : Int) < x124))
      (.ret false)
      (.sub (F_hypogeumref16_Named n x126) fun y159 =>
      .ite (!y159)
        (.ret false)
        (.ite ((Decidable.decide (x127 < (8 : Int))) || ((Decidable.decide ((65536 : Int) < x127)) || ((Decidable.decide (x128 < (28 : Int))) || (Decidable.decide ((65536 : Int) < x128)))))
          (.ret false)
          (.ret (Decidable.decide ((Go.IntKind.wrap Go.IntKind.i64 (x127 + x128)) ≤ (65536 : Int)))))))
def S_hypogeumref20_Right (n : Nat) : Summ := fun avs L b => bySk ⟨[(.agg (.pr (.val (.sint .i64) (0 : Int)) (.pr (.val (.arr 32 .u8) []) (.pr (.agg (.pr (.val .str []) (.pr (.val (.sint .i64) (0 : Int)) (.pr (.val (.sint .i64) (0 : Int)) .un)))) .un))))], [], 0⟩ avs L b (fun l => lfD (.sint .i64) l fun (x124 : Int) l => lfD (.arr 32 .u8) l fun (x125 : List UInt8) l => lfD .str l fun (x126 : List UInt8) l => lfD (.sint .i64) l fun (x127 : Int) l => lfD (.sint .i64) l fun (x128 : Int) l => lfE l (.sub (F_hypogeumref20_Right n x124 x126 x127 x128) fun r => .ret ((.val .bool r), [], 0))) .fail
theorem ok_hypogeumref20_Right (n : Nat) : SoundF Try.prog 25 (S_hypogeumref20_Right n) := by
  refine fn_sound true (c := codeOf Try.f25) (tab := mkTab [(11, ⟨S_hypogeumref16_Named n, [], [], true⟩)]) (cuts := mkCuts []) Try.func25 (by kernel_rfl) (.cons (ok_hypogeumref16_Named n) ⟨_, Try.func11, by kernel_rfl⟩ .nil) (CutsOK.list (l := []) (by kernel_rfl) (fun _ h => by cases h)) (fun avs L b R h => ?_)
  rcases bySk_ok h with ⟨l, rfl, rfl, rfl, q0⟩ | q0
  · obtain ⟨x124, l, rfl, q1⟩ := lfD_ok q0
    obtain ⟨x125, l, rfl, q2⟩ := lfD_ok q1
    obtain ⟨x126, l, rfl, q3⟩ := lfD_ok q2
    obtain ⟨x127, l, rfl, q4⟩ := lfD_ok q3
    obtain ⟨x128, l, rfl, q5⟩ := lfD_ok q4
    obtain ⟨rfl, q⟩ := lfE_ok q5
    exact run_sub q (by kernel_rfl)
  · exact False.elim q0.h
def C_18_0 : CutF → Cut := fun κ => ⟨[1, 3, 5, 6, 8], fun e => match e with | .ex i => bif Nat.beq i 0 then [] else [] | .rt => [7] | .nm => [], κ⟩
def F_hypogeumref20_Index_Find_l0 (n : Nat) : Nat → (Int) → (Int) → (Bool) → (List (Int × List UInt8 × List UInt8 × Int × Int)) → (List UInt8) → (List UInt8) → (Int) → (Int) → Tree (((List UInt8) × ((Int) × Int)) ⊕ Unit)
  | 0 => fun  x165 x166 x167 x168 x169 x170 x171 x172 => .fail
  | k + 1 => fun x165 x166 x167 x168 x169 x170 x171 x172 =>
      .ite (Decidable.decide (x166 < (Nat.cast (List.length x168) : Int)))
        (.get (Hyp.getI x168 x166) fun y178 =>
        .ite (Decidable.decide (y178.1 = x165))
          (.get (Hyp.getI x168 x166) fun y179 =>
          .ite (Hyp.eqV (Hyp.Ty.arr 32 Hyp.Ty.u8) y179.2.1 x169)
            (.get (Hyp.getI x168 x166) fun y180 =>
            .ret (.inl (y180.2.2.1, y180.2.2.2.1, y180.2.2.2.2)))
            (.sub (F_hypogeumref20_Index_Find_l0 n k x165 (Go.IntKind.wrap Go.IntKind.i64 (x166 + (1 : Int))) x167 x168 x169 x170 x171 x172) fun y181 =>
            .alt y181 (fun y182 =>
              .ret (.inl (y182.1, y182.2.1, y182.2.2)))
              fun y183 =>
              .ret (.inr ())))
          (.sub (F_hypogeumref20_Index_Find_l0 n k x165 (Go.IntKind.wrap Go.IntKind.i64 (x166 + (1 : Int))) x167 x168 x169 x170 x171 x172) fun y184 =>
          .alt y184 (fun y185 =>
            .ret (.inl (y185.1, y185.2.1, y185.2.2)))
            fun y186 =>
            .ret (.inr ())))
        (.ret (.inr ()))
def S_hypogeumref20_Index_Find_l0 (n k : Nat) : CutF := fun avs L b => bySk ⟨[(.val (.sint .i64) (0 : Int)), (.ptr 0 0), (.ptr 2 0), (.ptr 4 0), (.val (.sint .i64) (0 : Int))], [⟨0, 1, .box (.agg (.pr (.ro false (.rcd (.pair (.sint .i64) (.pair (.arr 32 .u8) (.rcd (.pair .str (.pair (.sint .i64) (.sint .i64))))))) []) .un))⟩, ⟨2, 3, .box (.val (.arr 32 .u8) [])⟩, ⟨4, 5, .box (.agg (.pr (.val .str []) (.pr (.val (.sint .i64) (0 : Int)) (.pr (.val (.sint .i64) (0 : Int)) .un))))⟩], 6⟩ avs L b (fun l => lfD (.sint .i64) l fun (x165 : Int) l => lfD (.sint .i64) l fun (x166 : Int) l => lfC l fun x167 l => lfD (.list (.rcd (.pair (.sint .i64) (.pair (.arr 32 .u8) (.rcd (.pair .str (.pair (.sint .i64) (.sint .i64)))))))) l fun (x168 : List (Int × List UInt8 × List UInt8 × Int × Int)) l => lfD (.arr 32 .u8) l fun (x169 : List UInt8) l => lfD .str l fun (x170 : List UInt8) l => lfD (.sint .i64) l fun (x171 : Int) l => lfD (.sint .i64) l fun (x172 : Int) l => lfE l (.sub (F_hypogeumref20_Index_Find_l0 n k x165 x166 x167 x168 x169 x170 x171 x172) fun r => .alt r (fun r => .ret (.rt, [(.val .bool true)], [⟨0, 7, .box (.agg (.pr (.ro x167 (.rcd (.pair (.sint .i64) (.pair (.arr 32 .u8) (.rcd (.pair .str (.pair (.sint .i64) (.sint .i64))))))) x168) .un))⟩, ⟨2, 9, .box (.val (.arr 32 .u8) x169)⟩, ⟨4, 11, .box (.agg (.pr (.val .str r.1) (.pr (.val (.sint .i64) r.2.1) (.pr (.val (.sint .i64) r.2.2) .un))))⟩], 12)) (fun r => .ret (.ex 0, [], [⟨0, 7, .box (.agg (.pr (.ro x167 (.rcd (.pair (.sint .i64) (.pair (.arr 32 .u8) (.rcd (.pair .str (.pair (.sint .i64) (.sint .i64))))))) x168) .un))⟩, ⟨2, 9, .box (.val (.arr 32 .u8) x169)⟩, ⟨4, 11, .box (.agg (.pr (.val .str x170) (.pr (.val (.sint .i64) x171) (.pr (.val (.sint .i64) x172) .un))))⟩], 12)))) .fail
theorem z_hypogeumref20_Index_Find_l0 (n : Nat) : ∀ avs L b R, (S_hypogeumref20_Index_Find_l0 n 0 avs L b).Wp R → False := by
  intro avs L b R h
  rcases bySk_ok h with ⟨l, rfl, rfl, rfl, q0⟩ | q0
  · obtain ⟨x165, l, rfl, q1⟩ := lfD_ok q0
    obtain ⟨x166, l, rfl, q2⟩ := lfD_ok q1
    obtain ⟨x167, l, rfl, q3⟩ := lfC_ok q2
    obtain ⟨x168, l, rfl, q4⟩ := lfD_ok q3
    obtain ⟨x169, l, rfl, q5⟩ := lfD_ok q4
    obtain ⟨x170, l, rfl, q6⟩ := lfD_ok q5
    obtain ⟨x171, l, rfl, q7⟩ := lfD_ok q6
    obtain ⟨x172, l, rfl, q8⟩ := lfD_ok q7
    obtain ⟨rfl, q⟩ := lfE_ok q8
    exact False.elim q.h
  · exact False.elim q0.h
theorem rd_hypogeumref20_Index_Find_l0 (n k : Nat) : Rounds Try.prog (Go.Func.ntmps Try.f18) (bodyOf Try.f18 0) C_18_0 [S_hypogeumref20_Index_Find_l0 n k] (S_hypogeumref20_Index_Find_l0 n (k + 1)) := by
  intro avs L b R h
  refine ⟨mkTab [], mkCuts [], orCL (S_hypogeumref20_Index_Find_l0 n k) [], .nil, (CutsOK.list (l := []) (by kernel_rfl) (fun _ h => by cases h)), orCL_mem, ?_⟩
  rcases bySk_ok h with ⟨l, rfl, rfl, rfl, q0⟩ | q0
  · obtain ⟨x165, l, rfl, q1⟩ := lfD_ok q0
    obtain ⟨x166, l, rfl, q2⟩ := lfD_ok q1
    obtain ⟨x167, l, rfl, q3⟩ := lfC_ok q2
    obtain ⟨x168, l, rfl, q4⟩ := lfD_ok q3
    obtain ⟨x169, l, rfl, q5⟩ := lfD_ok q4
    obtain ⟨x170, l, rfl, q6⟩ := lfD_ok q5
    obtain ⟨x171, l, rfl, q7⟩ := lfD_ok q6
    obtain ⟨x172, l, rfl, q8⟩ := lfD_ok q7
    obtain ⟨rfl, q⟩ := lfE_ok q8
    exact run_subs (k' := fun r => (match r with | .inl r => .ret (.rt, [(.val .bool true)], [⟨0, 7, .box (.agg (.pr (.ro x167 (.rcd (.pair (.sint .i64) (.pair (.arr 32 .u8) (.rcd (.pair .str (.pair (.sint .i64) (.sint .i64))))))) x168) .un))⟩, ⟨2, 9, .box (.val (.arr 32 .u8) x169)⟩, ⟨4, 11, .box (.agg (.pr (.val .str r.1) (.pr (.val (.sint .i64) r.2.1) (.pr (.val (.sint .i64) r.2.2) .un))))⟩], 12) | .inr r => .ret (.ex 0, [], [⟨0, 7, .box (.agg (.pr (.ro x167 (.rcd (.pair (.sint .i64) (.pair (.arr 32 .u8) (.rcd (.pair .str (.pair (.sint .i64) (.sint .i64))))))) x168) .un))⟩, ⟨2, 9, .box (.val (.arr 32 .u8) x169)⟩, ⟨4, 11, .box (.agg (.pr (.val .str x170) (.pr (.val (.sint .i64) x171) (.pr (.val (.sint .i64) x172) .un))))⟩], 12))) q (fun y hy => by rcases y with y | y <;> exact ⟨hy.h⟩) (by kernel_rfl)
  · exact False.elim q0.h
theorem ok_hypogeumref20_Index_Find_l0 (n k : Nat) : SoundC Try.prog (Go.Func.ntmps Try.f18) (.loop (bodyOf Try.f18 0)) (wr (bodyOf Try.f18 0)) (C_18_0 (S_hypogeumref20_Index_Find_l0 n k)) :=
  loop_rounds (K := fun k => [S_hypogeumref20_Index_Find_l0 n k]) (fun _ => rfl) (by kernel_rfl) (List.forall_mem_cons.2 ⟨z_hypogeumref20_Index_Find_l0 n, (fun _ h => by cases h)⟩) (fun k => (List.forall_mem_cons.2 ⟨rd_hypogeumref20_Index_Find_l0 n k, (fun _ h => by cases h)⟩)) k _ (.head _)
def F_hypogeumref20_Index_Find (n : Nat) (x161 : Bool) (x162 : List (Int × List UInt8 × List UInt8 × Int × Int)) (x163 : Int) (x164 : List UInt8) : Tree ((List UInt8) × ((Int) × ((Int) × Bool))) :=
  .sub (F_hypogeumref20_Index_Find_l0 n n x163 (0 : Int) x161 x162 x164 ([] : List UInt8) (0 : Int) (0 : Int)) fun y187 =>
  .alt y187 (fun y188 =>
    .ret (y188.1, y188.2.1, y188.2.2, true))
    fun y189 =>
    .ret (([] : List UInt8), (0 : Int), (0 : Int), false)
def S_hypogeumref20_Index_Find (n : Nat) : Summ := fun avs L b => bySk ⟨[(.agg (.pr (.ro false (.rcd (.pair (.sint .i64) (.pair (.arr 32 .u8) (.rcd (.pair .str (.pair (.sint .i64) (.sint .i64))))))) []) .un)), (.val (.sint .i64) (0 : Int)), (.val (.arr 32 .u8) [])], [], 0⟩ avs L b (fun l => lfC l fun x161 l => lfD (.list (.rcd (.pair (.sint .i64) (.pair (.arr 32 .u8) (.rcd (.pair .str (.pair (.sint .i64) (.sint .i64)))))))) l fun (x162 : List (Int × List UInt8 × List UInt8 × Int × Int)) l => lfD (.sint .i64) l fun (x163 : Int) l => lfD (.arr 32 .u8) l fun (x164 : List UInt8) l => lfE l (.sub (F_hypogeumref20_Index_Find n x161 x162 x163 x164) fun r => .ret ((.tup (.pr (.agg (.pr (.val .str r.1) (.pr (.val (.sint .i64) r.2.1) (.pr (.val (.sint .i64) r.2.2.1) .un)))) (.pr (.val .bool r.2.2.2) .un))), [], 0))) .fail
theorem ok_hypogeumref20_Index_Find (n : Nat) : SoundF Try.prog 18 (S_hypogeumref20_Index_Find n) := by
  refine fn_sound true (c := codeOf Try.f18) (tab := mkTab []) (cuts := mkCuts [(0, C_18_0 (S_hypogeumref20_Index_Find_l0 n n))]) Try.func18 (by kernel_rfl) .nil (CutsOK.list (l := [(0, bodyOf Try.f18 0)]) (by kernel_rfl) (LoopsOK.all ⟨.inr ⟨_, rfl, ok_hypogeumref20_Index_Find_l0 n n⟩, trivial⟩)) (fun avs L b R h => ?_)
  rcases bySk_ok h with ⟨l, rfl, rfl, rfl, q0⟩ | q0
  · obtain ⟨x161, l, rfl, q1⟩ := lfC_ok q0
    obtain ⟨x162, l, rfl, q2⟩ := lfD_ok q1
    obtain ⟨x163, l, rfl, q3⟩ := lfD_ok q2
    obtain ⟨x164, l, rfl, q4⟩ := lfD_ok q3
    obtain ⟨rfl, q⟩ := lfE_ok q4
    exact run_sub q (by kernel_rfl)
  · exact False.elim q0.h
def F_hypogeumref20_Index_Add (n : Nat) (x117 : Bool) (x118 : List (Int × List UInt8 × List UInt8 × Int × Int)) (x119 : Int) (x120 : List UInt8) (x121 : List UInt8) (x122 : Int) (x123 : Int) : Tree ((Bool) × ((List (Int × List UInt8 × List UInt8 × Int × Int)) × Int)) :=
  .sub (F_hypogeumref20_Right n x119 x121 x122 x123) fun y160 =>
  .ite (!y160)
    (.ret (x117, x118, (1 : Int)))
    (.sub (F_hypogeumref20_Index_Find n x117 x118 x119 x120) fun y190 =>
    .ite y190.2.2.2
      (.ret (x117, x118, (19 : Int)))
      (.get (Hyp.appI 1954687338268 ([] : List (Int × ((List UInt8) × ((List UInt8) × (Int × Int))))) x118) fun y191 =>
      .get (Hyp.appI 1954687338268 y191 (List.set ([((0 : Int), (([0, 0, 0, 0, 0, 0, 0, 0, 0, 0, 0, 0, 0, 0, 0, 0, 0, 0, 0, 0, 0, 0, 0, 0, 0, 0, 0, 0, 0, 0, 0, 0] : List UInt8), (([] : List UInt8), ((0 : Int), (0 : Int)))))] : List (Int × ((List UInt8) × ((List UInt8) × (Int × Int))))) 0 (x119, (x120, (x121, (x122, x123)))))) fun y192 =>
      .ret (false, y192, (0 : Int))))
def S_hypogeumref20_Index_Add (n : Nat) : Summ := fun avs L b => bySk ⟨[(.agg (.pr (.ro false (.rcd (.pair (.sint .i64) (.pair (.arr 32 .u8) (.rcd (.pair .str (.pair (.sint .i64) (.sint .i64))))))) []) .un)), (.agg (.pr (.val (.sint .i64) (0 : Int)) (.pr (.val (.arr 32 .u8) []) (.pr (.agg (.pr (.val .str []) (.pr (.val (.sint .i64) (0 : Int)) (.pr (.val (.sint .i64) (0 : Int)) .un)))) .un))))], [], 0⟩ avs L b (fun l => lfC l fun x117 l => lfD (.list (.rcd (.pair (.sint .i64) (.pair (.arr 32 .u8) (.rcd (.pair .str (.pair (.sint .i64) (.sint .i64)))))))) l fun (x118 : List (Int × List UInt8 × List UInt8 × Int × Int)) l => lfD (.sint .i64) l fun (x119 : Int) l => lfD (.arr 32 .u8) l fun (x120 : List UInt8) l => lfD .str l fun (x121 : List UInt8) l => lfD (.sint .i64) l fun (x122 : Int) l => lfD (.sint .i64) l fun (x123 : Int) l => lfE l (.sub (F_hypogeumref20_Index_Add n x117 x118 x119 x120 x121 x122 x123) fun r => .ret ((.tup (.pr (.agg (.pr (.ro r.1 (.rcd (.pair (.sint .i64) (.pair (.arr 32 .u8) (.rcd (.pair .str (.pair (.sint .i64) (.sint .i64))))))) r.2.1) .un)) (.pr (.val (.sint .i64) r.2.2) .un))), [], 0))) .fail
theorem ok_hypogeumref20_Index_Add (n : Nat) : SoundF Try.prog 16 (S_hypogeumref20_Index_Add n) := by
  refine fn_sound true (c := codeOf Try.f16) (tab := mkTab [(25, ⟨S_hypogeumref20_Right n, [], [], true⟩), (18, ⟨S_hypogeumref20_Index_Find n, [], [], true⟩)]) (cuts := mkCuts []) Try.func16 (by kernel_rfl) (.cons (ok_hypogeumref20_Right n) ⟨_, Try.func25, by kernel_rfl⟩ (.cons (ok_hypogeumref20_Index_Find n) ⟨_, Try.func18, by kernel_rfl⟩ .nil)) (CutsOK.list (l := []) (by kernel_rfl) (fun _ h => by cases h)) (fun avs L b R h => ?_)
  rcases bySk_ok h with ⟨l, rfl, rfl, rfl, q0⟩ | q0
  · obtain ⟨x117, l, rfl, q1⟩ := lfC_ok q0
    obtain ⟨x118, l, rfl, q2⟩ := lfD_ok q1
    obtain ⟨x119, l, rfl, q3⟩ := lfD_ok q2
    obtain ⟨x120, l, rfl, q4⟩ := lfD_ok q3
    obtain ⟨x121, l, rfl, q5⟩ := lfD_ok q4
    obtain ⟨x122, l, rfl, q6⟩ := lfD_ok q5
    obtain ⟨x123, l, rfl, q7⟩ := lfD_ok q6
    obtain ⟨rfl, q⟩ := lfE_ok q7
    exact run_sub q (by kernel_rfl)
  · exact False.elim q0.h
def F_hypogeumlaw20_both_l0_1 (n : Nat) : Nat → (Bool) → (List (Int × List UInt8 × List UInt8 × Int × Int)) → (Bool) → (Int) → (List ((Int × List UInt8) × List UInt8 × Int × Int)) → (Bool) → (List (Int × List UInt8 × List UInt8 × Int × Int)) → Tree ((Bool) × ((List ((Int × List UInt8) × List UInt8 × Int × Int)) × ((Bool) × (List (Int × List UInt8 × List UInt8 × Int × Int)))))
  | 0 => fun  x196 x197 x198 x199 x200 x201 x202 => .fail
  | k + 1 => fun x196 x197 x198 x199 x200 x201 x202 =>
      .ite ((Decidable.decide (x199 < (Nat.cast (List.length x197) : Int))) && (Decidable.decide (x199 < (60 : Int))))
        (.get (Hyp.getI x197 x199) fun y213 =>
        .get (Hyp.Tree.run (F_hypogeumref20_Index_Add n x201 x202 y213.1 y213.2.1 y213.2.2.1 y213.2.2.2.1 y213.2.2.2.2)) fun y214 =>
        .get (Hyp.getI x197 x199) fun y215 =>
        .sub (F_index_Index_Add n y215.1 y215.2.1 y215.2.2.1 y215.2.2.2.1 y215.2.2.2.2 x200) fun y216 =>
        .sub (F_hypogeumlaw20_both_l0_1 n k x196 x197 ((Decidable.decide (y216.1 = y214.2.2)) && x198) (Go.IntKind.wrap Go.IntKind.i64 (x199 + (1 : Int))) y216.2 y214.1 y214.2.1) fun y217 =>
        .ret (y217.1, y217.2.1, y217.2.2.1, y217.2.2.2))
        (.ret (x198, x200, x201, x202))
def S_hypogeumlaw20_both_l0_1 (n k : Nat) : CutF := fun avs L b => bySk ⟨[(.ro false (.rcd (.pair (.sint .i64) (.pair (.arr 32 .u8) (.rcd (.pair .str (.pair (.sint .i64) (.sint .i64))))))) []), (.ptr 0 0), (.ptr 4 0), (.val .bool false), (.val (.sint .i64) (0 : Int))], [⟨0, 1, .box (.agg (.pr (.mpv 2) .un))⟩, ⟨2, 3, .mp (.rcd (.pair (.sint .i64) (.arr 32 .u8))) (.rcd (.pair .str (.pair (.sint .i64) (.sint .i64)))) []⟩, ⟨4, 5, .box (.agg (.pr (.ro false (.rcd (.pair (.sint .i64) (.pair (.arr 32 .u8) (.rcd (.pair .str (.pair (.sint .i64) (.sint .i64))))))) []) .un))⟩], 6⟩ avs L b (fun l => lfC l fun x196 l => lfD (.list (.rcd (.pair (.sint .i64) (.pair (.arr 32 .u8) (.rcd (.pair .str (.pair (.sint .i64) (.sint .i64)))))))) l fun (x197 : List (Int × List UInt8 × List UInt8 × Int × Int)) l => lfD .bool l fun (x198 : Bool) l => lfD (.sint .i64) l fun (x199 : Int) l => lfD (.list (.rcd (.pair (.rcd (.pair (.sint .i64) (.arr 32 .u8))) (.rcd (.pair .str (.pair (.sint .i64) (.sint .i64))))))) l fun (x200 : List ((Int × List UInt8) × List UInt8 × Int × Int)) l => lfC l fun x201 l => lfD (.list (.rcd (.pair (.sint .i64) (.pair (.arr 32 .u8) (.rcd (.pair .str (.pair (.sint .i64) (.sint .i64)))))))) l fun (x202 : List (Int × List UInt8 × List UInt8 × Int × Int)) l => lfE l (.sub (F_hypogeumlaw20_both_l0_1 n k x196 x197 x198 x199 x200 x201 x202) fun r => .ret (.ex 0, [(.val .bool r.1)], [⟨0, 7, .box (.agg (.pr (.mpv 2) .un))⟩, ⟨2, 9, .mp (.rcd (.pair (.sint .i64) (.arr 32 .u8))) (.rcd (.pair .str (.pair (.sint .i64) (.sint .i64)))) r.2.1⟩, ⟨4, 11, .box (.agg (.pr (.ro r.2.2.1 (.rcd (.pair (.sint .i64) (.pair (.arr 32 .u8) (.rcd (.pair .str (.pair (.sint .i64) (.sint .i64))))))) r.2.2.2) .un))⟩], 12))) .fail
theorem z_hypogeumlaw20_both_l0_1 (n : Nat) : ∀ avs L b R, (S_hypogeumlaw20_both_l0_1 n 0 avs L b).Wp R → False := by
  intro avs L b R h
  rcases bySk_ok h with ⟨l, rfl, rfl, rfl, q0⟩ | q0
  · obtain ⟨x196, l, rfl, q1⟩ := lfC_ok q0
    obtain ⟨x197, l, rfl, q2⟩ := lfD_ok q1
    obtain ⟨x198, l, rfl, q3⟩ := lfD_ok q2
    obtain ⟨x199, l, rfl, q4⟩ := lfD_ok q3
    obtain ⟨x200, l, rfl, q5⟩ := lfD_ok q4
    obtain ⟨x201, l, rfl, q6⟩ := lfC_ok q5
    obtain ⟨x202, l, rfl, q7⟩ := lfD_ok q6
    obtain ⟨rfl, q⟩ := lfE_ok q7
    exact False.elim q.h
  · exact False.elim q0.h
theorem rd_hypogeumlaw20_both_l0_1 (n k : Nat) : Rounds Try.prog (Go.Func.ntmps Try.f6) (bodyOf Try.f6 0) C_6_0 [S_hypogeumlaw20_both_l0_1 n k] (S_hypogeumlaw20_both_l0_1 n (k + 1)) := by
  intro avs L b R h
  refine ⟨mkTab [(16, ⟨S_hypogeumref20_Index_Add n, [], [], true⟩), (14, ⟨S_index_Index_Add n, [], [], false⟩)], mkCuts [], orCL (S_hypogeumlaw20_both_l0_1 n k) [], (.cons (ok_hypogeumref20_Index_Add n) ⟨_, Try.func16, by kernel_rfl⟩ (.cons (ok_index_Index_Add n) ⟨_, Try.func14, by kernel_rfl⟩ .nil)), (CutsOK.list (l := []) (by kernel_rfl) (fun _ h => by cases h)), orCL_mem, ?_⟩
  rcases bySk_ok h with ⟨l, rfl, rfl, rfl, q0⟩ | q0
  · obtain ⟨x196, l, rfl, q1⟩ := lfC_ok q0
    obtain ⟨x197, l, rfl, q2⟩ := lfD_ok q1
    obtain ⟨x198, l, rfl, q3⟩ := lfD_ok q2
    obtain ⟨x199, l, rfl, q4⟩ := lfD_ok q3
    obtain ⟨x200, l, rfl, q5⟩ := lfD_ok q4
    obtain ⟨x201, l, rfl, q6⟩ := lfC_ok q5
    obtain ⟨x202, l, rfl, q7⟩ := lfD_ok q6
    obtain ⟨rfl, q⟩ := lfE_ok q7
    exact run_sub q (by kernel_rfl)
  · exact False.elim q0.h
theorem ok_hypogeumlaw20_both_l0_1 (n k : Nat) : SoundC Try.prog (Go.Func.ntmps Try.f6) (.loop (bodyOf Try.f6 0)) (wr (bodyOf Try.f6 0)) (C_6_0 (S_hypogeumlaw20_both_l0_1 n k)) :=
  loop_rounds (K := fun k => [S_hypogeumlaw20_both_l0_1 n k]) (fun _ => rfl) (by kernel_rfl) (List.forall_mem_cons.2 ⟨z_hypogeumlaw20_both_l0_1 n, (fun _ h => by cases h)⟩) (fun k => (List.forall_mem_cons.2 ⟨rd_hypogeumlaw20_both_l0_1 n k, (fun _ h => by cases h)⟩)) k _ (.head _)
def F_hypogeumlaw20_both_l0 (n : Nat) : Nat → (Bool) → (List (Int × List UInt8 × List UInt8 × Int × Int)) → (Bool) → (Int) → (List ((Int × List UInt8) × List UInt8 × Int × Int)) → (List (Int × List UInt8 × List UInt8 × Int × Int)) → Tree (((Bool) × ((List ((Int × List UInt8) × List UInt8 × Int × Int)) × ((Bool) × (List (Int × List UInt8 × List UInt8 × Int × Int))))) ⊕ Unit)
  | 0 => fun  x110 x111 x112 x113 x114 x115 => .fail
  | k + 1 => fun x110 x111 x112 x113 x114 x115 =>
      .ite ((Decidable.decide (x113 < (Nat.cast (List.length x111) : Int))) && (Decidable.decide (x113 < (60 : Int))))
        (.get (Hyp.getI x111 x113) fun y219 =>
        .get (Hyp.Tree.run (F_hypogeumref20_Index_Add n false x115 y219.1 y219.2.1 y219.2.2.1 y219.2.2.2.1 y219.2.2.2.2)) fun y220 =>
        .get (Hyp.getI x111 x113) fun y221 =>
        .sub (F_index_Index_Add n y221.1 y221.2.1 y221.2.2.1 y221.2.2.2.1 y221.2.2.2.2 x114) fun y222 =>
        .sub (F_hypogeumlaw20_both_l0_1 n k x110 x111 ((Decidable.decide (y222.1 = y220.2.2)) && x112) (Go.IntKind.wrap Go.IntKind.i64 (x113 + (1 : Int))) y222.2 y220.1 y220.2.1) fun y223 =>
        .ret (.inl (y223.1, y223.2.1, y223.2.2.1, y223.2.2.2)))
        (.ret (.inr ()))
def S_hypogeumlaw20_both_l0 (n k : Nat) : CutF := fun avs L b => bySk ⟨[(.ro false (.rcd (.pair (.sint .i64) (.pair (.arr 32 .u8) (.rcd (.pair .str (.pair (.sint .i64) (.sint .i64))))))) []), (.ptr 0 0), (.ptr 4 0), (.val .bool false), (.val (.sint .i64) (0 : Int))], [⟨0, 1, .box (.agg (.pr (.mpv 2) .un))⟩, ⟨2, 3, .mp (.rcd (.pair (.sint .i64) (.arr 32 .u8))) (.rcd (.pair .str (.pair (.sint .i64) (.sint .i64)))) []⟩, ⟨4, 5, .box (.agg (.pr (.whole 6 36) .un))⟩, ⟨6, 7, .row (.rcd (.pair (.sint .i64) (.pair (.arr 32 .u8) (.rcd (.pair .str (.pair (.sint .i64) (.sint .i64))))))) []⟩], 8⟩ avs L b (fun l => lfC l fun x110 l => lfD (.list (.rcd (.pair (.sint .i64) (.pair (.arr 32 .u8) (.rcd (.pair .str (.pair (.sint .i64) (.sint .i64)))))))) l fun (x111 : List (Int × List UInt8 × List UInt8 × Int × Int)) l => lfD .bool l fun (x112 : Bool) l => lfD (.sint .i64) l fun (x113 : Int) l => lfD (.list (.rcd (.pair (.rcd (.pair (.sint .i64) (.arr 32 .u8))) (.rcd (.pair .str (.pair (.sint .i64) (.sint .i64))))))) l fun (x114 : List ((Int × List UInt8) × List UInt8 × Int × Int)) l => lfD (.list (.rcd (.pair (.sint .i64) (.pair (.arr 32 .u8) (.rcd (.pair .str (.pair (.sint .i64) (.sint .i64)))))))) l fun (x115 : List (Int × List UInt8 × List UInt8 × Int × Int)) l => lfE l (.sub (F_hypogeumlaw20_both_l0 n k x110 x111 x112 x113 x114 x115) fun r => .alt r (fun r => .ret (.ex 0, [(.val .bool r.1)], [⟨0, 9, .box (.agg (.pr (.mpv 2) .un))⟩, ⟨2, 11, .mp (.rcd (.pair (.sint .i64) (.arr 32 .u8))) (.rcd (.pair .str (.pair (.sint .i64) (.sint .i64)))) r.2.1⟩, ⟨4, 13, .box (.agg (.pr (.ro r.2.2.1 (.rcd (.pair (.sint .i64) (.pair (.arr 32 .u8) (.rcd (.pair .str (.pair (.sint .i64) (.sint .i64))))))) r.2.2.2) .un))⟩], 14)) (fun r => .ret (.ex 0, [(.val .bool x112)], [⟨0, 9, .box (.agg (.pr (.mpv 2) .un))⟩, ⟨2, 11, .mp (.rcd (.pair (.sint .i64) (.arr 32 .u8))) (.rcd (.pair .str (.pair (.sint .i64) (.sint .i64)))) x114⟩, ⟨4, 13, .box (.agg (.pr (.whole 14 36) .un))⟩, ⟨14, 15, .row (.rcd (.pair (.sint .i64) (.pair (.arr 32 .u8) (.rcd (.pair .str (.pair (.sint .i64) (.sint .i64))))))) x115⟩], 16)))) .fail
theorem z_hypogeumlaw20_both_l0 (n : Nat) : ∀ avs L b R, (S_hypogeumlaw20_both_l0 n 0 avs L b).Wp R → False := by
  intro avs L b R h
  rcases bySk_ok h with ⟨l, rfl, rfl, rfl, q0⟩ | q0
  · obtain ⟨x110, l, rfl, q1⟩ := lfC_ok q0
    obtain ⟨x111, l, rfl, q2⟩ := lfD_ok q1
    obtain ⟨x112, l, rfl, q3⟩ := lfD_ok q2
    obtain ⟨x113, l, rfl, q4⟩ := lfD_ok q3
    obtain ⟨x114, l, rfl, q5⟩ := lfD_ok q4
    obtain ⟨x115, l, rfl, q6⟩ := lfD_ok q5
    obtain ⟨rfl, q⟩ := lfE_ok q6
    exact False.elim q.h
  · exact False.elim q0.h
theorem rd_hypogeumlaw20_both_l0 (n k : Nat) : Rounds Try.prog (Go.Func.ntmps Try.f6) (bodyOf Try.f6 0) C_6_0 [S_hypogeumlaw20_both_l0 n k, S_hypogeumlaw20_both_l0_1 n k] (S_hypogeumlaw20_both_l0 n (k + 1)) := by
  intro avs L b R h
  refine ⟨mkTab [(16, ⟨S_hypogeumref20_Index_Add n, [], [], true⟩), (14, ⟨S_index_Index_Add n, [], [], false⟩)], mkCuts [], orCL (S_hypogeumlaw20_both_l0 n k) [S_hypogeumlaw20_both_l0_1 n k], (.cons (ok_hypogeumref20_Index_Add n) ⟨_, Try.func16, by kernel_rfl⟩ (.cons (ok_index_Index_Add n) ⟨_, Try.func14, by kernel_rfl⟩ .nil)), (CutsOK.list (l := []) (by kernel_rfl) (fun _ h => by cases h)), orCL_mem, ?_⟩
  rcases bySk_ok h with ⟨l, rfl, rfl, rfl, q0⟩ | q0
  · obtain ⟨x110, l, rfl, q1⟩ := lfC_ok q0
    obtain ⟨x111, l, rfl, q2⟩ := lfD_ok q1
    obtain ⟨x112, l, rfl, q3⟩ := lfD_ok q2
    obtain ⟨x113, l, rfl, q4⟩ := lfD_ok q3
    obtain ⟨x114, l, rfl, q5⟩ := lfD_ok q4
    obtain ⟨x115, l, rfl, q6⟩ := lfD_ok q5
    obtain ⟨rfl, q⟩ := lfE_ok q6
    exact run_subs (k' := fun r => (match r with | .inl r => .ret (.ex 0, [(.val .bool r.1)], [⟨0, 9, .box (.agg (.pr (.mpv 2) .un))⟩, ⟨2, 11, .mp (.rcd (.pair (.sint .i64) (.arr 32 .u8))) (.rcd (.pair .str (.pair (.sint .i64) (.sint .i64)))) r.2.1⟩, ⟨4, 13, .box (.agg (.pr (.ro r.2.2.1 (.rcd (.pair (.sint .i64) (.pair (.arr 32 .u8) (.rcd (.pair .str (.pair (.sint .i64) (.sint .i64))))))) r.2.2.2) .un))⟩], 14) | .inr r => .ret (.ex 0, [(.val .bool x112)], [⟨0, 9, .box (.agg (.pr (.mpv 2) .un))⟩, ⟨2, 11, .mp (.rcd (.pair (.sint .i64) (.arr 32 .u8))) (.rcd (.pair .str (.pair (.sint .i64) (.sint .i64)))) x114⟩, ⟨4, 13, .box (.agg (.pr (.whole 14 36) .un))⟩, ⟨14, 15, .row (.rcd (.pair (.sint .i64) (.pair (.arr 32 .u8) (.rcd (.pair .str (.pair (.sint .i64) (.sint .i64))))))) x115⟩], 16))) q (fun y hy => by rcases y with y | y <;> exact ⟨hy.h⟩) (by kernel_rfl)
  · exact False.elim q0.h
theorem ok_hypogeumlaw20_both_l0 (n k : Nat) : SoundC Try.prog (Go.Func.ntmps Try.f6) (.loop (bodyOf Try.f6 0)) (wr (bodyOf Try.f6 0)) (C_6_0 (S_hypogeumlaw20_both_l0 n k)) :=
  loop_rounds (K := fun k => [S_hypogeumlaw20_both_l0 n k, S_hypogeumlaw20_both_l0_1 n k]) (fun _ => rfl) (by kernel_rfl) (List.forall_mem_cons.2 ⟨z_hypogeumlaw20_both_l0 n, (List.forall_mem_cons.2 ⟨z_hypogeumlaw20_both_l0_1 n, (fun _ h => by cases h)⟩)⟩) (fun k => (List.forall_mem_cons.2 ⟨rd_hypogeumlaw20_both_l0 n k, (List.forall_mem_cons.2 ⟨(rd_hypogeumlaw20_both_l0_1 n k).mono (List.forall_mem_cons.2 ⟨(.tail _ (.head _)), (fun _ h => by cases h)⟩), (fun _ h => by cases h)⟩)⟩)) k _ (.head _)
def F_hypogeumlaw20_both (n : Nat) (x107 : Bool) (x108 : List (Int × List UInt8 × List UInt8 × Int × Int)) : Tree ((Bool) × ((List (Int × List UInt8 × List UInt8 × Int × Int)) × ((Bool) × (List ((Int × List UInt8) × List UInt8 × Int × Int))))) :=
  .sub (F_index_New n) fun y109 =>
  .sub (F_hypogeumlaw20_both_l0 n n x107 x108 true (0 : Int) ([] : List ((Int × (List UInt8)) × ((List UInt8) × (Int × Int)))) ([] : List (Int × ((List UInt8) × ((List UInt8) × (Int × Int)))))) fun y224 =>
  .alt y224 (fun y225 =>
    .ret (y225.2.2.1, y225.2.2.2, y225.1, y225.2.1))
    fun y226 =>
    .ret (false, ([] : List (Int × ((List UInt8) × ((List UInt8) × (Int × Int))))), true, ([] : List ((Int × (List UInt8)) × ((List UInt8) × (Int × Int)))))
def S_hypogeumlaw20_both (n : Nat) : Summ := fun avs L b => bySk ⟨[(.ro false (.rcd (.pair (.sint .i64) (.pair (.arr 32 .u8) (.rcd (.pair .str (.pair (.sint .i64) (.sint .i64))))))) [])], [], 0⟩ avs L b (fun l => lfC l fun x107 l => lfD (.list (.rcd (.pair (.sint .i64) (.pair (.arr 32 .u8) (.rcd (.pair .str (.pair (.sint .i64) (.sint .i64)))))))) l fun (x108 : List (Int × List UInt8 × List UInt8 × Int × Int)) l => lfE l (.sub (F_hypogeumlaw20_both n x107 x108) fun r => .ret ((.tup (.pr (.ptr 0 0) (.pr (.agg (.pr (.ro r.1 (.rcd (.pair (.sint .i64) (.pair (.arr 32 .u8) (.rcd (.pair .str (.pair (.sint .i64) (.sint .i64))))))) r.2.1) .un)) (.pr (.val .bool r.2.2.1) .un)))), [⟨0, 1, .box (.agg (.pr (.mpv 2) .un))⟩, ⟨2, 3, .mp (.rcd (.pair (.sint .i64) (.arr 32 .u8))) (.rcd (.pair .str (.pair (.sint .i64) (.sint .i64)))) r.2.2.2⟩], 4))) .fail
theorem ok_hypogeumlaw20_both (n : Nat) : SoundF Try.prog 6 (S_hypogeumlaw20_both n) := by
  refine fn_sound true (c := codeOf Try.f6) (tab := mkTab [(13, ⟨S_index_New n, [], [], false⟩)]) (cuts := mkCuts [(0, C_6_0 (S_hypogeumlaw20_both_l0 n n))]) Try.func6 (by kernel_rfl) (.cons (ok_index_New n) ⟨_, Try.func13, by kernel_rfl⟩ .nil) (CutsOK.list (l := [(0, bodyOf Try.f6 0)]) (by kernel_rfl) (LoopsOK.all ⟨.inr ⟨_, rfl, ok_hypogeumlaw20_both_l0 n n⟩, trivial⟩)) (fun avs L b R h => ?_)
  rcases bySk_ok h with ⟨l, rfl, rfl, rfl, q0⟩ | q0
  · obtain ⟨x107, l, rfl, q1⟩ := lfC_ok q0
    obtain ⟨x108, l, rfl, q2⟩ := lfD_ok q1
    obtain ⟨rfl, q⟩ := lfE_ok q2
    exact run_sub q (by kernel_rfl)
  · exact False.elim q0.h
def C_9_0 : CutF → Cut := fun κ => ⟨[1, 2, 3, 7, 8], fun e => match e with | .ex i => bif Nat.beq i 0 then [7] else [] | .rt => [] | .nm => [], κ⟩
def C_9_2 : CutF → Cut := fun κ => ⟨[2, 8, 10, 11], fun e => match e with | .ex i => bif Nat.beq i 2 then [10] else bif Nat.beq i 1 then [] else bif Nat.beq i 0 then [] else [] | .rt => [] | .nm => [], κ⟩
def F_hypogeumref20_Index_Need_l2 (n : Nat) : Nat → (Bool) → (List (List UInt8)) → (Int) → (Bool) → (Int) → Tree Bool
  | 0 => fun  x244 x245 x246 x247 x248 => .fail
  | k + 1 => fun x244 x245 x246 x247 x248 =>
      .ite (Decidable.decide (x248 < x246))
        (.ite x247
          (.sub (F_hypogeumref20_Index_Need_l2 n k x244 x245 x246 true (Go.IntKind.wrap Go.IntKind.i64 (x248 + (1 : Int)))) fun y257 =>
          .ret y257)
          (.get (Hyp.getI x245 x248) fun y258 =>
          .get (Hyp.getI x245 x246) fun y259 =>
          .sub (F_hypogeumref20_Index_Need_l2 n k x244 x245 x246 (Hyp.eqV (Hyp.Ty.arr 32 Hyp.Ty.u8) y258 y259) (Go.IntKind.wrap Go.IntKind.i64 (x248 + (1 : Int)))) fun y260 =>
          .ret y260))
        (.ret x247)
def S_hypogeumref20_Index_Need_l2 (n k : Nat) : CutF := fun avs L b => bySk ⟨[(.ro false (.arr 32 .u8) []), (.val (.sint .i64) (0 : Int)), (.val .bool false), (.val (.sint .i64) (0 : Int))], [], 0⟩ avs L b (fun l => lfC l fun x244 l => lfD (.list (.arr 32 .u8)) l fun (x245 : List (List UInt8)) l => lfD (.sint .i64) l fun (x246 : Int) l => lfD .bool l fun (x247 : Bool) l => lfD (.sint .i64) l fun (x248 : Int) l => lfE l (.sub (F_hypogeumref20_Index_Need_l2 n k x244 x245 x246 x247 x248) fun r => .ret (.ex 2, [(.val .bool r)], [], 0))) .fail
theorem z_hypogeumref20_Index_Need_l2 (n : Nat) : ∀ avs L b R, (S_hypogeumref20_Index_Need_l2 n 0 avs L b).Wp R → False := by
  intro avs L b R h
  rcases bySk_ok h with ⟨l, rfl, rfl, rfl, q0⟩ | q0
  · obtain ⟨x244, l, rfl, q1⟩ := lfC_ok q0
    obtain ⟨x245, l, rfl, q2⟩ := lfD_ok q1
    obtain ⟨x246, l, rfl, q3⟩ := lfD_ok q2
    obtain ⟨x247, l, rfl, q4⟩ := lfD_ok q3
    obtain ⟨x248, l, rfl, q5⟩ := lfD_ok q4
    obtain ⟨rfl, q⟩ := lfE_ok q5
    exact False.elim q.h
  · exact False.elim q0.h
theorem rd_hypogeumref20_Index_Need_l2 (n k : Nat) : Rounds Try.prog (Go.Func.ntmps Try.f9) (bodyOf Try.f9 2) C_9_2 [S_hypogeumref20_Index_Need_l2 n k] (S_hypogeumref20_Index_Need_l2 n (k + 1)) := by
  intro avs L b R h
  refine ⟨mkTab [], mkCuts [], orCL (S_hypogeumref20_Index_Need_l2 n k) [], .nil, (CutsOK.list (l := []) (by kernel_rfl) (fun _ h => by cases h)), orCL_mem, ?_⟩
  rcases bySk_ok h with ⟨l, rfl, rfl, rfl, q0⟩ | q0
  · obtain ⟨x244, l, rfl, q1⟩ := lfC_ok q0
    obtain ⟨x245, l, rfl, q2⟩ := lfD_ok q1
    obtain ⟨x246, l, rfl, q3⟩ := lfD_ok q2
    obtain ⟨x247, l, rfl, q4⟩ := lfD_ok q3
    obtain ⟨x248, l, rfl, q5⟩ := lfD_ok q4
    obtain ⟨rfl, q⟩ := lfE_ok q5
    exact run_sub q (by kernel_rfl)
  · exact False.elim q0.h
theorem ok_hypogeumref20_Index_Need_l2 (n k : Nat) : SoundC Try.prog (Go.Func.ntmps Try.f9) (.loop (bodyOf Try.f9 2)) (wr (bodyOf Try.f9 2)) (C_9_2 (S_hypogeumref20_Index_Need_l2 n k)) :=
  loop_rounds (K := fun k => [S_hypogeumref20_Index_Need_l2 n k]) (fun _ => rfl) (by kernel_rfl) (List.forall_mem_cons.2 ⟨z_hypogeumref20_Index_Need_l2 n, (fun _ h => by cases h)⟩) (fun k => (List.forall_mem_cons.2 ⟨rd_hypogeumref20_Index_Need_l2 n k, (fun _ h => by cases h)⟩)) k _ (.head _)
def F_hypogeumref20_Index_Need_l0_1 (n : Nat) : Nat → (Int) → (Bool) → (List (List UInt8)) → (Int) → (Bool) → (List (Int × List UInt8 × List UInt8 × Int × Int)) → (List (List UInt8)) → Tree (Unit ⊕ (List (List UInt8)))
  | 0 => fun  x264 x265 x266 x267 x268 x269 x270 => .fail
  | k + 1 => fun x264 x265 x266 x267 x268 x269 x270 =>
      .ite (Decidable.decide (x267 < (Nat.cast (List.length x266) : Int)))
        (.get (Hyp.getI x266 x267) fun y285 =>
        .get (Hyp.Tree.run (F_hypogeumref20_Index_Find n x268 x269 x264 y285)) fun y286 =>
        .sub (F_hypogeumref20_Index_Need_l2 n n x265 x266 x267 y286.2.2.2 (0 : Int)) fun y287 =>
        .ite (!y287)
          (.get (Hyp.getI x266 x267) fun y288 =>
          .get (Hyp.appI 4398046511104 x270 (List.set ([([0, 0, 0, 0, 0, 0, 0, 0, 0, 0, 0, 0, 0, 0, 0, 0, 0, 0, 0, 0, 0, 0, 0, 0, 0, 0, 0, 0, 0, 0, 0, 0] : List UInt8)] : List (List UInt8)) 0 y288)) fun y289 =>
          .sub (F_hypogeumref20_Index_Need_l0_1 n k x264 x265 x266 (Go.IntKind.wrap Go.IntKind.i64 (x267 + (1 : Int))) x268 x269 y289) fun y290 =>
          .alt y290 (fun y291 =>
            .ret (.inr y289))
            fun y292 =>
            .ret (.inr y292))
          (.sub (F_hypogeumref20_Index_Need_l0_1 n k x264 x265 x266 (Go.IntKind.wrap Go.IntKind.i64 (x267 + (1 : Int))) x268 x269 x270) fun y293 =>
          .alt y293 (fun y294 =>
            .ret (.inl ()))
            fun y295 =>
            .ret (.inr y295)))
        (.ret (.inl ()))
def S_hypogeumref20_Index_Need_l0_1 (n k : Nat) : CutF := fun avs L b => bySk ⟨[(.val (.sint .i64) (0 : Int)), (.ro false (.arr 32 .u8) []), (.ptr 0 0), (.whole 2 32), (.val (.sint .i64) (0 : Int))], [⟨0, 1, .box (.agg (.pr (.ro false (.rcd (.pair (.sint .i64) (.pair (.arr 32 .u8) (.rcd (.pair .str (.pair (.sint .i64) (.sint .i64))))))) []) .un))⟩, ⟨2, 3, .row (.arr 32 .u8) []⟩], 4⟩ avs L b (fun l => lfD (.sint .i64) l fun (x264 : Int) l => lfC l fun x265 l => lfD (.list (.arr 32 .u8)) l fun (x266 : List (List UInt8)) l => lfD (.sint .i64) l fun (x267 : Int) l => lfC l fun x268 l => lfD (.list (.rcd (.pair (.sint .i64) (.pair (.arr 32 .u8) (.rcd (.pair .str (.pair (.sint .i64) (.sint .i64)))))))) l fun (x269 : List (Int × List UInt8 × List UInt8 × Int × Int)) l => lfD (.list (.arr 32 .u8)) l fun (x270 : List (List UInt8)) l => lfE l (.sub (F_hypogeumref20_Index_Need_l0_1 n k x264 x265 x266 x267 x268 x269 x270) fun r => .alt r (fun r => .ret (.ex 0, [(.whole 2 32)], [⟨2, 5, .row (.arr 32 .u8) x270⟩, ⟨0, 7, .box (.agg (.pr (.ro x268 (.rcd (.pair (.sint .i64) (.pair (.arr 32 .u8) (.rcd (.pair .str (.pair (.sint .i64) (.sint .i64))))))) x269) .un))⟩], 8)) (fun r => .ret (.ex 0, [(.whole 4 32)], [⟨4, 5, .row (.arr 32 .u8) r⟩, ⟨0, 7, .box (.agg (.pr (.ro x268 (.rcd (.pair (.sint .i64) (.pair (.arr 32 .u8) (.rcd (.pair .str (.pair (.sint .i64) (.sint .i64))))))) x269) .un))⟩], 8)))) .fail
theorem z_hypogeumref20_Index_Need_l0_1 (n : Nat) : ∀ avs L b R, (S_hypogeumref20_Index_Need_l0_1 n 0 avs L b).Wp R → False := by
  intro avs L b R h
  rcases bySk_ok h with ⟨l, rfl, rfl, rfl, q0⟩ | q0
  · obtain ⟨x264, l, rfl, q1⟩ := lfD_ok q0
    obtain ⟨x265, l, rfl, q2⟩ := lfC_ok q1
    obtain ⟨x266, l, rfl, q3⟩ := lfD_ok q2
    obtain ⟨x267, l, rfl, q4⟩ := lfD_ok q3
    obtain ⟨x268, l, rfl, q5⟩ := lfC_ok q4
    obtain ⟨x269, l, rfl, q6⟩ := lfD_ok q5
    obtain ⟨x270, l, rfl, q7⟩ := lfD_ok q6
    obtain ⟨rfl, q⟩ := lfE_ok q7
    exact False.elim q.h
  · exact False.elim q0.h
theorem rd_hypogeumref20_Index_Need_l0_1 (n k : Nat) : Rounds Try.prog (Go.Func.ntmps Try.f9) (bodyOf Try.f9 0) C_9_0 [S_hypogeumref20_Index_Need_l0_1 n k] (S_hypogeumref20_Index_Need_l0_1 n (k + 1)) := by
  intro avs L b R h
  refine ⟨mkTab [(18, ⟨S_hypogeumref20_Index_Find n, [], [], true⟩)], mkCuts [(2, C_9_2 (S_hypogeumref20_Index_Need_l2 n n))], orCL (S_hypogeumref20_Index_Need_l0_1 n k) [], (.cons (ok_hypogeumref20_Index_Find n) ⟨_, Try.func18, by kernel_rfl⟩ .nil), (CutsOK.list (l := [(2, bodyOf Try.f9 2)]) (by kernel_rfl) (LoopsOK.all ⟨.inr ⟨_, rfl, ok_hypogeumref20_Index_Need_l2 n n⟩, trivial⟩)), orCL_mem, ?_⟩
  rcases bySk_ok h with ⟨l, rfl, rfl, rfl, q0⟩ | q0
  · obtain ⟨x264, l, rfl, q1⟩ := lfD_ok q0
    obtain ⟨x265, l, rfl, q2⟩ := lfC_ok q1
    obtain ⟨x266, l, rfl, q3⟩ := lfD_ok q2
    obtain ⟨x267, l, rfl, q4⟩ := lfD_ok q3
    obtain ⟨x268, l, rfl, q5⟩ := lfC_ok q4
    obtain ⟨x269, l, rfl, q6⟩ := lfD_ok q5
    obtain ⟨x270, l, rfl, q7⟩ := lfD_ok q6
    obtain ⟨rfl, q⟩ := lfE_ok q7
    exact run_subs (k' := fun r => (match r with | .inl r => .ret (.ex 0, [(.whole 2 32)], [⟨2, 5, .row (.arr 32 .u8) x270⟩, ⟨0, 7, .box (.agg (.pr (.ro x268 (.rcd (.pair (.sint .i64) (.pair (.arr 32 .u8) (.rcd (.pair .str (.pair (.sint .i64) (.sint .i64))))))) x269) .un))⟩], 8) | .inr r => .ret (.ex 0, [(.whole 4 32)], [⟨4, 5, .row (.arr 32 .u8) r⟩, ⟨0, 7, .box (.agg (.pr (.ro x268 (.rcd (.pair (.sint .i64) (.pair (.arr 32 .u8) (.rcd (.pair .str (.pair (.sint .i64) (.sint .i64))))))) x269) .un))⟩], 8))) q (fun y hy => by rcases y with y | y <;> exact ⟨hy.h⟩) (by kernel_rfl)
  · exact False.elim q0.h
theorem ok_hypogeumref20_Index_Need_l0_1 (n k : Nat) : SoundC Try.prog (Go.Func.ntmps Try.f9) (.loop (bodyOf Try.f9 0)) (wr (bodyOf Try.f9 0)) (C_9_0 (S_hypogeumref20_Index_Need_l0_1 n k)) :=
  loop_rounds (K := fun k => [S_hypogeumref20_Index_Need_l0_1 n k]) (fun _ => rfl) (by kernel_rfl) (List.forall_mem_cons.2 ⟨z_hypogeumref20_Index_Need_l0_1 n, (fun _ h => by cases h)⟩) (fun k => (List.forall_mem_cons.2 ⟨rd_hypogeumref20_Index_Need_l0_1 n k, (fun _ h => by cases h)⟩)) k _ (.head _)
def F_hypogeumref20_Index_Need_l0 (n : Nat) : Nat → (Int) → (Bool) → (List (List UInt8)) → (Int) → (Bool) → (List (Int × List UInt8 × List UInt8 × Int × Int)) → Tree ((List (List UInt8)) ⊕ Unit)
  | 0 => fun  x236 x237 x238 x239 x240 x241 => .fail
  | k + 1 => fun x236 x237 x238 x239 x240 x241 =>
      .ite (Decidable.decide (x239 < (Nat.cast (List.length x238) : Int)))
        (.get (Hyp.getI x238 x239) fun y300 =>
        .get (Hyp.Tree.run (F_hypogeumref20_Index_Find n x240 x241 x236 y300)) fun y301 =>
        .sub (F_hypogeumref20_Index_Need_l2 n n x237 x238 x239 y301.2.2.2 (0 : Int)) fun y302 =>
        .ite (!y302)
          (.get (Hyp.getI x238 x239) fun y303 =>
          .get (Hyp.appI 4398046511104 ([] : List (List UInt8)) (List.set ([([0, 0, 0, 0, 0, 0, 0, 0, 0, 0, 0, 0, 0, 0, 0, 0, 0, 0, 0, 0, 0, 0, 0, 0, 0, 0, 0, 0, 0, 0, 0, 0] : List UInt8)] : List (List UInt8)) 0 y303)) fun y304 =>
          .sub (F_hypogeumref20_Index_Need_l0_1 n k x236 x237 x238 (Go.IntKind.wrap Go.IntKind.i64 (x239 + (1 : Int))) x240 x241 y304) fun y305 =>
          .alt y305 (fun y306 =>
            .ret (.inl y304))
            fun y307 =>
            .ret (.inl y307))
          (.sub (F_hypogeumref20_Index_Need_l0 n k x236 x237 x238 (Go.IntKind.wrap Go.IntKind.i64 (x239 + (1 : Int))) x240 x241) fun y308 =>
          .alt y308 (fun y309 =>
            .ret (.inl y309))
            fun y310 =>
            .ret (.inr ())))
        (.ret (.inr ()))
def S_hypogeumref20_Index_Need_l0 (n k : Nat) : CutF := fun avs L b => bySk ⟨[(.val (.sint .i64) (0 : Int)), (.ro false (.arr 32 .u8) []), (.ptr 0 0), (.snil none), (.val (.sint .i64) (0 : Int))], [⟨0, 1, .box (.agg (.pr (.ro false (.rcd (.pair (.sint .i64) (.pair (.arr 32 .u8) (.rcd (.pair .str (.pair (.sint .i64) (.sint .i64))))))) []) .un))⟩], 2⟩ avs L b (fun l => lfD (.sint .i64) l fun (x236 : Int) l => lfC l fun x237 l => lfD (.list (.arr 32 .u8)) l fun (x238 : List (List UInt8)) l => lfD (.sint .i64) l fun (x239 : Int) l => lfC l fun x240 l => lfD (.list (.rcd (.pair (.sint .i64) (.pair (.arr 32 .u8) (.rcd (.pair .str (.pair (.sint .i64) (.sint .i64)))))))) l fun (x241 : List (Int × List UInt8 × List UInt8 × Int × Int)) l => lfE l (.sub (F_hypogeumref20_Index_Need_l0 n k x236 x237 x238 x239 x240 x241) fun r => .alt r (fun r => .ret (.ex 0, [(.whole 2 32)], [⟨2, 3, .row (.arr 32 .u8) r⟩, ⟨0, 5, .box (.agg (.pr (.ro x240 (.rcd (.pair (.sint .i64) (.pair (.arr 32 .u8) (.rcd (.pair .str (.pair (.sint .i64) (.sint .i64))))))) x241) .un))⟩], 6)) (fun r => .ret (.ex 0, [(.snil none)], [⟨0, 3, .box (.agg (.pr (.ro x240 (.rcd (.pair (.sint .i64) (.pair (.arr 32 .u8) (.rcd (.pair .str (.pair (.sint .i64) (.sint .i64))))))) x241) .un))⟩], 4)))) .fail
theorem z_hypogeumref20_Index_Need_l0 (n : Nat) : ∀ avs L b R, (S_hypogeumref20_Index_Need_l0 n 0 avs L b).Wp R → False := by
  intro avs L b R h
  rcases bySk_ok h with ⟨l, rfl, rfl, rfl, q0⟩ | q0
  · obtain ⟨x236, l, rfl, q1⟩ := lfD_ok q0
    obtain ⟨x237, l, rfl, q2⟩ := lfC_ok q1
    obtain ⟨x238, l, rfl, q3⟩ := lfD_ok q2
    obtain ⟨x239, l, rfl, q4⟩ := lfD_ok q3
    obtain ⟨x240, l, rfl, q5⟩ := lfC_ok q4
    obtain ⟨x241, l, rfl, q6⟩ := lfD_ok q5
    obtain ⟨rfl, q⟩ := lfE_ok q6
    exact False.elim q.h
  · exact False.elim q0.h
theorem rd_hypogeumref20_Index_Need_l0 (n k : Nat) : Rounds Try.prog (Go.Func.ntmps Try.f9) (bodyOf Try.f9 0) C_9_0 [S_hypogeumref20_Index_Need_l0 n k, S_hypogeumref20_Index_Need_l0_1 n k] (S_hypogeumref20_Index_Need_l0 n (k + 1)) := by
  intro avs L b R h
  refine ⟨mkTab [(18, ⟨S_hypogeumref20_Index_Find n, [], [], true⟩)], mkCuts [(2, C_9_2 (S_hypogeumref20_Index_Need_l2 n n))], orCL (S_hypogeumref20_Index_Need_l0 n k) [S_hypogeumref20_Index_Need_l0_1 n k], (.cons (ok_hypogeumref20_Index_Find n) ⟨_, Try.func18, by kernel_rfl⟩ .nil), (CutsOK.list (l := [(2, bodyOf Try.f9 2)]) (by kernel_rfl) (LoopsOK.all ⟨.inr ⟨_, rfl, ok_hypogeumref20_Index_Need_l2 n n⟩, trivial⟩)), orCL_mem, ?_⟩
  rcases bySk_ok h with ⟨l, rfl, rfl, rfl, q0⟩ | q0
  · obtain ⟨x236, l, rfl, q1⟩ := lfD_ok q0
    obtain ⟨x237, l, rfl, q2⟩ := lfC_ok q1
    obtain ⟨x238, l, rfl, q3⟩ := lfD_ok q2
    obtain ⟨x239, l, rfl, q4⟩ := lfD_ok q3
    obtain ⟨x240, l, rfl, q5⟩ := lfC_ok q4
    obtain ⟨x241, l, rfl, q6⟩ := lfD_ok q5
    obtain ⟨rfl, q⟩ := lfE_ok q6
    exact run_subs (k' := fun r => (match r with | .inl r => .ret (.ex 0, [(.whole 2 32)], [⟨2, 3, .row (.arr 32 .u8) r⟩, ⟨0, 5, .box (.agg (.pr (.ro x240 (.rcd (.pair (.sint .i64) (.pair (.arr 32 .u8) (.rcd (.pair .str (.pair (.sint .i64) (.sint .i64))))))) x241) .un))⟩], 6) | .inr r => .ret (.ex 0, [(.snil none)], [⟨0, 3, .box (.agg (.pr (.ro x240 (.rcd (.pair (.sint .i64) (.pair (.arr 32 .u8) (.rcd (.pair .str (.pair (.sint .i64) (.sint .i64))))))) x241) .un))⟩], 4))) q (fun y hy => by rcases y with y | y <;> exact ⟨hy.h⟩) (by kernel_rfl)
  · exact False.elim q0.h
theorem ok_hypogeumref20_Index_Need_l0 (n k : Nat) : SoundC Try.prog (Go.Func.ntmps Try.f9) (.loop (bodyOf Try.f9 0)) (wr (bodyOf Try.f9 0)) (C_9_0 (S_hypogeumref20_Index_Need_l0 n k)) :=
  loop_rounds (K := fun k => [S_hypogeumref20_Index_Need_l0 n k, S_hypogeumref20_Index_Need_l0_1 n k]) (fun _ => rfl) (by kernel_rfl) (List.forall_mem_cons.2 ⟨z_hypogeumref20_Index_Need_l0 n, (List.forall_mem_cons.2 ⟨z_hypogeumref20_Index_Need_l0_1 n, (fun _ h => by cases h)⟩)⟩) (fun k => (List.forall_mem_cons.2 ⟨rd_hypogeumref20_Index_Need_l0 n k, (List.forall_mem_cons.2 ⟨(rd_hypogeumref20_Index_Need_l0_1 n k).mono (List.forall_mem_cons.2 ⟨(.tail _ (.head _)), (fun _ h => by cases h)⟩), (fun _ h => by cases h)⟩)⟩)) k _ (.head _)
def F_hypogeumref20_Index_Need (n : Nat) (x231 : Bool) (x232 : List (Int × List UInt8 × List UInt8 × Int × Int)) (x233 : Int) (x234 : Bool) (x235 : List (List UInt8)) : Tree ((List (List UInt8)) ⊕ Unit) :=
  .sub (F_hypogeumref20_Index_Need_l0 n n x233 x234 x235 (0 : Int) x231 x232) fun y311 =>
  .alt y311 (fun y312 =>
    .ret (.inl y312))
    fun y313 =>
    .ret (.inr ())
def S_hypogeumref20_Index_Need (n : Nat) : Summ := fun avs L b => bySk ⟨[(.agg (.pr (.ro false (.rcd (.pair (.sint .i64) (.pair (.arr 32 .u8) (.rcd (.pair .str (.pair (.sint .i64) (.sint .i64))))))) []) .un)), (.val (.sint .i64) (0 : Int)), (.ro false (.arr 32 .u8) [])], [], 0⟩ avs L b (fun l => lfC l fun x231 l => lfD (.list (.rcd (.pair (.sint .i64) (.pair (.arr 32 .u8) (.rcd (.pair .str (.pair (.sint .i64) (.sint .i64)))))))) l fun (x232 : List (Int × List UInt8 × List UInt8 × Int × Int)) l => lfD (.sint .i64) l fun (x233 : Int) l => lfC l fun x234 l => lfD (.list (.arr 32 .u8)) l fun (x235 : List (List UInt8)) l => lfE l (.sub (F_hypogeumref20_Index_Need n x231 x232 x233 x234 x235) fun r => .alt r (fun r => .ret ((.ro false (.arr 32 .u8) r), [], 0)) (fun r => .ret ((.snil none), [], 0)))) .fail
theorem ok_hypogeumref20_Index_Need (n : Nat) : SoundF Try.prog 9 (S_hypogeumref20_Index_Need n) := by
  refine fn_sound true (c := codeOf Try.f9) (tab := mkTab []) (cuts := mkCuts [(0, C_9_0 (S_hypogeumref20_Index_Need_l0 n n))]) Try.func9 (by kernel_rfl) .nil (CutsOK.list (l := [(0, bodyOf Try.f9 0)]) (by kernel_rfl) (LoopsOK.all ⟨.inr ⟨_, rfl, ok_hypogeumref20_Index_Need_l0 n n⟩, trivial⟩)) (fun avs L b R h => ?_)
  rcases bySk_ok h with ⟨l, rfl, rfl, rfl, q0⟩ | q0
  · obtain ⟨x231, l, rfl, q1⟩ := lfC_ok q0
    obtain ⟨x232, l, rfl, q2⟩ := lfD_ok q1
    obtain ⟨x233, l, rfl, q3⟩ := lfD_ok q2
    obtain ⟨x234, l, rfl, q4⟩ := lfC_ok q3
    obtain ⟨x235, l, rfl, q5⟩ := lfD_ok q4
    obtain ⟨rfl, q⟩ := lfE_ok q5
    exact run_subs (k' := fun r => (match r with | .inl r => .ret ((.ro false (.arr 32 .u8) r), [], 0) | .inr r => .ret ((.snil none), [], 0))) q (fun y hy => by rcases y with y | y <;> exact ⟨hy.h⟩) (by kernel_rfl)
  · exact False.elim q0.h
def C_8_0 : CutF → Cut := fun κ => ⟨[0, 1, 5], fun e => match e with | .ex i => bif Nat.beq i 0 then [] else [] | .rt => [4] | .nm => [], κ⟩
def F_hypogeumref20_SameIDs_l0 (n : Nat) : Nat → (Bool) → (List (List UInt8)) → (Int) → (List (List UInt8)) → Tree (Unit ⊕ Unit)
  | 0 => fun  x319 x320 x321 x322 => .fail
  | k + 1 => fun x319 x320 x321 x322 =>
      .ite (Decidable.decide (x321 < (Nat.cast (List.length x322) : Int)))
        (.get (Hyp.inI (List.length x322) x321) fun y327 =>
        .get (GetElem?.getElem? x322 (0 + y327)) fun y328 =>
        .get (Hyp.getI x320 x321) fun y329 =>
        .ite (!(Hyp.eqV (Hyp.Ty.arr 32 Hyp.Ty.u8) y328 y329))
          (.ret (.inl ()))
          (.sub (F_hypogeumref20_SameIDs_l0 n k x319 x320 (Go.IntKind.wrap Go.IntKind.i64 (x321 + (1 : Int))) x322) fun y330 =>
          .alt y330 (fun y331 =>
            .ret (.inl ()))
            fun y332 =>
            .ret (.inr ())))
        (.ret (.inr ()))
def S_hypogeumref20_SameIDs_l0 (n k : Nat) : CutF := fun avs L b => bySk ⟨[(.whole 0 32), (.ro false (.arr 32 .u8) []), (.val (.sint .i64) (0 : Int))], [⟨0, 1, .row (.arr 32 .u8) []⟩], 2⟩ avs L b (fun l => lfC l fun x319 l => lfD (.list (.arr 32 .u8)) l fun (x320 : List (List UInt8)) l => lfD (.sint .i64) l fun (x321 : Int) l => lfD (.list (.arr 32 .u8)) l fun (x322 : List (List UInt8)) l => lfE l (.sub (F_hypogeumref20_SameIDs_l0 n k x319 x320 x321 x322) fun r => .alt r (fun r => .ret (.rt, [(.val .bool false)], [⟨0, 3, .row (.arr 32 .u8) x322⟩], 4)) (fun r => .ret (.ex 0, [], [⟨0, 3, .row (.arr 32 .u8) x322⟩], 4)))) .fail
theorem z_hypogeumref20_SameIDs_l0 (n : Nat) : ∀ avs L b R, (S_hypogeumref20_SameIDs_l0 n 0 avs L b).Wp R → False := by
  intro avs L b R h
  rcases bySk_ok h with ⟨l, rfl, rfl, rfl, q0⟩ | q0
  · obtain ⟨x319, l, rfl, q1⟩ := lfC_ok q0
    obtain ⟨x320, l, rfl, q2⟩ := lfD_ok q1
    obtain ⟨x321, l, rfl, q3⟩ := lfD_ok q2
    obtain ⟨x322, l, rfl, q4⟩ := lfD_ok q3
    obtain ⟨rfl, q⟩ := lfE_ok q4
    exact False.elim q.h
  · exact False.elim q0.h
theorem rd_hypogeumref20_SameIDs_l0 (n k : Nat) : Rounds Try.prog (Go.Func.ntmps Try.f8) (bodyOf Try.f8 0) C_8_0 [S_hypogeumref20_SameIDs_l0 n k] (S_hypogeumref20_SameIDs_l0 n (k + 1)) := by
  intro avs L b R h
  refine ⟨mkTab [], mkCuts [], orCL (S_hypogeumref20_SameIDs_l0 n k) [], .nil, (CutsOK.list (l := []) (by kernel_rfl) (fun _ h => by cases h)), orCL_mem, ?_⟩
  rcases bySk_ok h with ⟨l, rfl, rfl, rfl, q0⟩ | q0
  · obtain ⟨x319, l, rfl, q1⟩ := lfC_ok q0
    obtain ⟨x320, l, rfl, q2⟩ := lfD_ok q1
    obtain ⟨x321, l, rfl, q3⟩ := lfD_ok q2
    obtain ⟨x322, l, rfl, q4⟩ := lfD_ok q3
    obtain ⟨rfl, q⟩ := lfE_ok q4
    exact run_subs (k' := fun r => (match r with | .inl r => .ret (.rt, [(.val .bool false)], [⟨0, 3, .row (.arr 32 .u8) x322⟩], 4) | .inr r => .ret (.ex 0, [], [⟨0, 3, .row (.arr 32 .u8) x322⟩], 4))) q (fun y hy => by rcases y with y | y <;> exact ⟨hy.h⟩) (by kernel_rfl)
  · exact False.elim q0.h
theorem ok_hypogeumref20_SameIDs_l0 (n k : Nat) : SoundC Try.prog (Go.Func.ntmps Try.f8) (.loop (bodyOf Try.f8 0)) (wr (bodyOf Try.f8 0)) (C_8_0 (S_hypogeumref20_SameIDs_l0 n k)) :=
  loop_rounds (K := fun k => [S_hypogeumref20_SameIDs_l0 n k]) (fun _ => rfl) (by kernel_rfl) (List.forall_mem_cons.2 ⟨z_hypogeumref20_SameIDs_l0 n, (fun _ h => by cases h)⟩) (fun k => (List.forall_mem_cons.2 ⟨rd_hypogeumref20_SameIDs_l0 n k, (fun _ h => by cases h)⟩)) k _ (.head _)
def F_hypogeumref20_SameIDs (n : Nat) (x316 : Bool) (x317 : List (List UInt8)) (x318 : List (List UInt8)) : Tree Bool :=
  .ite (!(Decidable.decide ((Nat.cast (List.length x318) : Int) = (Nat.cast (List.length x317) : Int))))
    (.ret false)
    (.sub (F_hypogeumref20_SameIDs_l0 n n x316 x317 (0 : Int) x318) fun y333 =>
    .alt y333 (fun y334 =>
      .ret false)
      fun y335 =>
      .ret true)
def S_hypogeumref20_SameIDs (n : Nat) : Summ := fun avs L b => bySk ⟨[(.whole 0 32), (.ro false (.arr 32 .u8) [])], [⟨0, 1, .row (.arr 32 .u8) []⟩], 2⟩ avs L b (fun l => lfC l fun x316 l => lfD (.list (.arr 32 .u8)) l fun (x317 : List (List UInt8)) l => lfD (.list (.arr 32 .u8)) l fun (x318 : List (List UInt8)) l => lfE l (.sub (F_hypogeumref20_SameIDs n x316 x317 x318) fun r => .ret ((.val .bool r), [⟨0, 3, .row (.arr 32 .u8) x318⟩], 4))) .fail
theorem ok_hypogeumref20_SameIDs (n : Nat) : SoundF Try.prog 8 (S_hypogeumref20_SameIDs n) := by
  refine fn_sound true (c := codeOf Try.f8) (tab := mkTab []) (cuts := mkCuts [(0, C_8_0 (S_hypogeumref20_SameIDs_l0 n n))]) Try.func8 (by kernel_rfl) .nil (CutsOK.list (l := [(0, bodyOf Try.f8 0)]) (by kernel_rfl) (LoopsOK.all ⟨.inr ⟨_, rfl, ok_hypogeumref20_SameIDs_l0 n n⟩, trivial⟩)) (fun avs L b R h => ?_)
  rcases bySk_ok h with ⟨l, rfl, rfl, rfl, q0⟩ | q0
  · obtain ⟨x316, l, rfl, q1⟩ := lfC_ok q0
    obtain ⟨x317, l, rfl, q2⟩ := lfD_ok q1
    obtain ⟨x318, l, rfl, q3⟩ := lfD_ok q2
    obtain ⟨rfl, q⟩ := lfE_ok q3
    exact run_sub q (by kernel_rfl)
  · exact False.elim q0.h
def F_hypogeumref20_SameIDs_l0_1 (n : Nat) : Nat → (Int) → (List (List UInt8)) → Tree Unit
  | 0 => fun  x341 x342 => .fail
  | k + 1 => fun x341 x342 =>
      .ite (Decidable.decide (x341 < (Nat.cast (List.length x342) : Int)))
        (.get (Hyp.inI (List.length x342) x341) fun y345 =>
        .get (GetElem?.getElem? x342 (0 + y345)) fun y346 =>
        .fail)
        (.ret ())
def S_hypogeumref20_SameIDs_l0_1 (n k : Nat) : CutF := fun avs L b => bySk ⟨[(.whole 0 32), (.snil none), (.val (.sint .i64) (0 : Int))], [⟨0, 1, .row (.arr 32 .u8) []⟩], 2⟩ avs L b (fun l => lfD (.sint .i64) l fun (x341 : Int) l => lfD (.list (.arr 32 .u8)) l fun (x342 : List (List UInt8)) l => lfE l (.sub (F_hypogeumref20_SameIDs_l0_1 n k x341 x342) fun r => .ret (.ex 0, [], [⟨0, 3, .row (.arr 32 .u8) x342⟩], 4))) .fail
theorem z_hypogeumref20_SameIDs_l0_1 (n : Nat) : ∀ avs L b R, (S_hypogeumref20_SameIDs_l0_1 n 0 avs L b).Wp R → False := by
  intro avs L b R h
  rcases bySk_ok h with ⟨l, rfl, rfl, rfl, q0⟩ | q0
  · obtain ⟨x341, l, rfl, q1⟩ := lfD_ok q0
    obtain ⟨x342, l, rfl, q2⟩ := lfD_ok q1
    obtain ⟨rfl, q⟩ := lfE_ok q2
    exact False.elim q.h
  · exact False.elim q0.h
theorem rd_hypogeumref20_SameIDs_l0_1 (n k : Nat) : Rounds Try.prog (Go.Func.ntmps Try.f8) (bodyOf Try.f8 0) C_8_0 [S_hypogeumref20_SameIDs_l0_1 n k] (S_hypogeumref20_SameIDs_l0_1 n (k + 1)) := by
  intro avs L b R h
  refine ⟨mkTab [], mkCuts [], orCL (S_hypogeumref20_SameIDs_l0_1 n k) [], .nil, (CutsOK.list (l := []) (by kernel_rfl) (fun _ h => by cases h)), orCL_mem, ?_⟩
  rcases bySk_ok h with ⟨l, rfl, rfl, rfl, q0⟩ | q0
  · obtain ⟨x341, l, rfl, q1⟩ := lfD_ok q0
    obtain ⟨x342, l, rfl, q2⟩ := lfD_ok q1
    obtain ⟨rfl, q⟩ := lfE_ok q2
    exact run_sub q (by kernel_rfl)
  · exact False.elim q0.h
theorem ok_hypogeumref20_SameIDs_l0_1 (n k : Nat) : SoundC Try.prog (Go.Func.ntmps Try.f8) (.loop (bodyOf Try.f8 0)) (wr (bodyOf Try.f8 0)) (C_8_0 (S_hypogeumref20_SameIDs_l0_1 n k)) :=
  loop_rounds (K := fun k => [S_hypogeumref20_SameIDs_l0_1 n k]) (fun _ => rfl) (by kernel_rfl) (List.forall_mem_cons.2 ⟨z_hypogeumref20_SameIDs_l0_1 n, (fun _ h => by cases h)⟩) (fun k => (List.forall_mem_cons.2 ⟨rd_hypogeumref20_SameIDs_l0_1 n k, (fun _ h => by cases h)⟩)) k _ (.head _)
def F_hypogeumref20_SameIDs_1 (n : Nat) (x340 : List (List UInt8)) : Tree Bool :=
  .ite (!(Decidable.decide ((Nat.cast (List.length x340) : Int) = (0 : Int))))
    (.ret false)
    (.sub (F_hypogeumref20_SameIDs_l0_1 n n (0 : Int) x340) fun y347 =>
    .ret true)
def S_hypogeumref20_SameIDs_1 (n : Nat) : Summ := fun avs L b => bySk ⟨[(.whole 0 32), (.snil none)], [⟨0, 1, .row (.arr 32 .u8) []⟩], 2⟩ avs L b (fun l => lfD (.list (.arr 32 .u8)) l fun (x340 : List (List UInt8)) l => lfE l (.sub (F_hypogeumref20_SameIDs_1 n x340) fun r => .ret ((.val .bool r), [⟨0, 3, .row (.arr 32 .u8) x340⟩], 4))) .fail
theorem ok_hypogeumref20_SameIDs_1 (n : Nat) : SoundF Try.prog 8 (S_hypogeumref20_SameIDs_1 n) := by
  refine fn_sound true (c := codeOf Try.f8) (tab := mkTab []) (cuts := mkCuts [(0, C_8_0 (S_hypogeumref20_SameIDs_l0_1 n n))]) Try.func8 (by kernel_rfl) .nil (CutsOK.list (l := [(0, bodyOf Try.f8 0)]) (by kernel_rfl) (LoopsOK.all ⟨.inr ⟨_, rfl, ok_hypogeumref20_SameIDs_l0_1 n n⟩, trivial⟩)) (fun avs L b R h => ?_)
  rcases bySk_ok h with ⟨l, rfl, rfl, rfl, q0⟩ | q0
  · obtain ⟨x340, l, rfl, q1⟩ := lfD_ok q0
    obtain ⟨rfl, q⟩ := lfE_ok q1
    exact run_sub q (by kernel_rfl)
  · exact False.elim q0.h
def F_hypogeumref20_SameIDs_l0_2 (n : Nat) : Nat → (Bool) → (List (List UInt8)) → (Int) → Tree Unit
  | 0 => fun  x356 x357 x358 => .fail
  | k + 1 => fun x356 x357 x358 =>
      .ite (Decidable.decide (x358 < (0 : Int)))
        (.fail)
        (.ret ())
def S_hypogeumref20_SameIDs_l0_2 (n k : Nat) : CutF := fun avs L b => bySk ⟨[(.snil none), (.ro false (.arr 32 .u8) []), (.val (.sint .i64) (0 : Int))], [], 0⟩ avs L b (fun l => lfC l fun x356 l => lfD (.list (.arr 32 .u8)) l fun (x357 : List (List UInt8)) l => lfD (.sint .i64) l fun (x358 : Int) l => lfE l (.sub (F_hypogeumref20_SameIDs_l0_2 n k x356 x357 x358) fun r => .ret (.ex 0, [], [], 0))) .fail
theorem z_hypogeumref20_SameIDs_l0_2 (n : Nat) : ∀ avs L b R, (S_hypogeumref20_SameIDs_l0_2 n 0 avs L b).Wp R → False := by
  intro avs L b R h
  rcases bySk_ok h with ⟨l, rfl, rfl, rfl, q0⟩ | q0
  · obtain ⟨x356, l, rfl, q1⟩ := lfC_ok q0
    obtain ⟨x357, l, rfl, q2⟩ := lfD_ok q1
    obtain ⟨x358, l, rfl, q3⟩ := lfD_ok q2
    obtain ⟨rfl, q⟩ := lfE_ok q3
    exact False.elim q.h
  · exact False.elim q0.h
theorem rd_hypogeumref20_SameIDs_l0_2 (n k : Nat) : Rounds Try.prog (Go.Func.ntmps Try.f8) (bodyOf Try.f8 0) C_8_0 [S_hypogeumref20_SameIDs_l0_2 n k] (S_hypogeumref20_SameIDs_l0_2 n (k + 1)) := by
  intro avs L b R h
  refine ⟨mkTab [], mkCuts [], orCL (S_hypogeumref20_SameIDs_l0_2 n k) [], .nil, (CutsOK.list (l := []) (by kernel_rfl) (fun _ h => by cases h)), orCL_mem, ?_⟩
  rcases bySk_ok h with ⟨l, rfl, rfl, rfl, q0⟩ | q0
  · obtain ⟨x356, l, rfl, q1⟩ := lfC_ok q0
    obtain ⟨x357, l, rfl, q2⟩ := lfD_ok q1
    obtain ⟨x358, l, rfl, q3⟩ := lfD_ok q2
    obtain ⟨rfl, q⟩ := lfE_ok q3
    exact run_sub q (by kernel_rfl)
  · exact False.elim q0.h
theorem ok_hypogeumref20_SameIDs_l0_2 (n k : Nat) : SoundC Try.prog (Go.Func.ntmps Try.f8) (.loop (bodyOf Try.f8 0)) (wr (bodyOf Try.f8 0)) (C_8_0 (S_hypogeumref20_SameIDs_l0_2 n k)) :=
  loop_rounds (K := fun k => [S_hypogeumref20_SameIDs_l0_2 n k]) (fun _ => rfl) (by kernel_rfl) (List.forall_mem_cons.2 ⟨z_hypogeumref20_SameIDs_l0_2 n, (fun _ h => by cases h)⟩) (fun k => (List.forall_mem_cons.2 ⟨rd_hypogeumref20_SameIDs_l0_2 n k, (fun _ h => by cases h)⟩)) k _ (.head _)
def F_hypogeumref20_SameIDs_2 (n : Nat) (x354 : Bool) (x355 : List (List UInt8)) : Tree Bool :=
  .ite (!(Decidable.decide ((0 : Int) = (Nat.cast (List.length x355) : Int))))
    (.ret false)
    (.sub (F_hypogeumref20_SameIDs_l0_2 n n x354 x355 (0 : Int)) fun y359 =>
    .ret true)
def S_hypogeumref20_SameIDs_2 (n : Nat) : Summ := fun avs L b => bySk ⟨[(.snil none), (.ro false (.arr 32 .u8) [])], [], 0⟩ avs L b (fun l => lfC l fun x354 l => lfD (.list (.arr 32 .u8)) l fun (x355 : List (List UInt8)) l => lfE l (.sub (F_hypogeumref20_SameIDs_2 n x354 x355) fun r => .ret ((.val .bool r), [], 0))) .fail
theorem ok_hypogeumref20_SameIDs_2 (n : Nat) : SoundF Try.prog 8 (S_hypogeumref20_SameIDs_2 n) := by
  refine fn_sound true (c := codeOf Try.f8) (tab := mkTab []) (cuts := mkCuts [(0, C_8_0 (S_hypogeumref20_SameIDs_l0_2 n n))]) Try.func8 (by kernel_rfl) .nil (CutsOK.list (l := [(0, bodyOf Try.f8 0)]) (by kernel_rfl) (LoopsOK.all ⟨.inr ⟨_, rfl, ok_hypogeumref20_SameIDs_l0_2 n n⟩, trivial⟩)) (fun avs L b R h => ?_)
  rcases bySk_ok h with ⟨l, rfl, rfl, rfl, q0⟩ | q0
  · obtain ⟨x354, l, rfl, q1⟩ := lfC_ok q0
    obtain ⟨x355, l, rfl, q2⟩ := lfD_ok q1
    obtain ⟨rfl, q⟩ := lfE_ok q2
    exact run_sub q (by kernel_rfl)
  · exact False.elim q0.h
def F_hypogeumref20_SameIDs_l0_3 (n : Nat) : Nat → (Int) → Tree Unit
  | 0 => fun  x364 => .fail
  | k + 1 => fun x364 =>
      .ite (Decidable.decide (x364 < (0 : Int)))
        (.fail)
        (.ret ())
def S_hypogeumref20_SameIDs_l0_3 (n k : Nat) : CutF := fun avs L b => bySk ⟨[(.snil none), (.snil none), (.val (.sint .i64) (0 : Int))], [], 0⟩ avs L b (fun l => lfD (.sint .i64) l fun (x364 : Int) l => lfE l (.sub (F_hypogeumref20_SameIDs_l0_3 n k x364) fun r => .ret (.ex 0, [], [], 0))) .fail
theorem z_hypogeumref20_SameIDs_l0_3 (n : Nat) : ∀ avs L b R, (S_hypogeumref20_SameIDs_l0_3 n 0 avs L b).Wp R → False := by
  intro avs L b R h
  rcases bySk_ok h with ⟨l, rfl, rfl, rfl, q0⟩ | q0
  · obtain ⟨x364, l, rfl, q1⟩ := lfD_ok q0
    obtain ⟨rfl, q⟩ := lfE_ok q1
    exact False.elim q.h
  · exact False.elim q0.h
theorem rd_hypogeumref20_SameIDs_l0_3 (n k : Nat) : Rounds Try.prog (Go.Func.ntmps Try.f8) (bodyOf Try.f8 0) C_8_0 [S_hypogeumref20_SameIDs_l0_3 n k] (S_hypogeumref20_SameIDs_l0_3 n (k + 1)) := by
  intro avs L b R h
  refine ⟨mkTab [], mkCuts [], orCL (S_hypogeumref20_SameIDs_l0_3 n k) [], .nil, (CutsOK.list (l := []) (by kernel_rfl) (fun _ h => by cases h)), orCL_mem, ?_⟩
  rcases bySk_ok h with ⟨l, rfl, rfl, rfl, q0⟩ | q0
  · obtain ⟨x364, l, rfl, q1⟩ := lfD_ok q0
    obtain ⟨rfl, q⟩ := lfE_ok q1
    exact run_sub q (by kernel_rfl)
  · exact False.elim q0.h
theorem ok_hypogeumref20_SameIDs_l0_3 (n k : Nat) : SoundC Try.prog (Go.Func.ntmps Try.f8) (.loop (bodyOf Try.f8 0)) (wr (bodyOf Try.f8 0)) (C_8_0 (S_hypogeumref20_SameIDs_l0_3 n k)) :=
  loop_rounds (K := fun k => [S_hypogeumref20_SameIDs_l0_3 n k]) (fun _ => rfl) (by kernel_rfl) (List.forall_mem_cons.2 ⟨z_hypogeumref20_SameIDs_l0_3 n, (fun _ h => by cases h)⟩) (fun k => (List.forall_mem_cons.2 ⟨rd_hypogeumref20_SameIDs_l0_3 n k, (fun _ h => by cases h)⟩)) k _ (.head _)
def F_hypogeumref20_SameIDs_3 (n : Nat) : Tree Bool :=
  .ite false
    (.ret false)
    (.sub (F_hypogeumref20_SameIDs_l0_3 n n (0 : Int)) fun y365 =>
    .ret true)
def S_hypogeumref20_SameIDs_3 (n : Nat) : Summ := fun avs L b => bySk ⟨[(.snil none), (.snil none)], [], 0⟩ avs L b (fun l => lfE l (.sub (F_hypogeumref20_SameIDs_3 n) fun r => .ret ((.val .bool r), [], 0))) .fail
theorem ok_hypogeumref20_SameIDs_3 (n : Nat) : SoundF Try.prog 8 (S_hypogeumref20_SameIDs_3 n) := by
  refine fn_sound true (c := codeOf Try.f8) (tab := mkTab []) (cuts := mkCuts [(0, C_8_0 (S_hypogeumref20_SameIDs_l0_3 n n))]) Try.func8 (by kernel_rfl) .nil (CutsOK.list (l := [(0, bodyOf Try.f8 0)]) (by kernel_rfl) (LoopsOK.all ⟨.inr ⟨_, rfl, ok_hypogeumref20_SameIDs_l0_3 n n⟩, trivial⟩)) (fun avs L b R h => ?_)
  rcases bySk_ok h with ⟨l, rfl, rfl, rfl, q0⟩ | q0
  · obtain ⟨rfl, q⟩ := lfE_ok q0
    exact run_sub q (by kernel_rfl)
  · exact False.elim q0.h
def F_hypogeumlaw20_IndexNeeds (n : Nat) (x0 : Bool) (x1 : List (Int × List UInt8 × List UInt8 × Int × Int)) (x2 : Int) (x3 : Bool) (x4 : List (List UInt8)) : Tree Bool :=
  .ite (Decidable.decide ((60 : Int) < (Nat.cast (List.length x4) : Int)))
    (.sub (F_hypogeumlaw20_awake n) fun y106 =>
    .ret y106)
    (.sub (F_hypogeumlaw20_both n x0 x1) fun y227 =>
    .get (Hyp.appI 4398046511104 ([] : List (List UInt8)) x4) fun y228 =>
    .sub (F_index_Index_Need n x2 y227.2.2.2 y228) fun y229 =>
    .alt y229 (fun y230 =>
      .sub (F_hypogeumref20_Index_Need n y227.1 y227.2.1 x2 x3 x4) fun y314 =>
      .alt y314 (fun y315 =>
        .sub (F_hypogeumref20_SameIDs n false y315 y230) fun y336 =>
        .ite y336
          (.sub (F_hypogeumref20_SameIDs n x3 x4 y228) fun y337 =>
          .ite y337
            (.sub (F_hypogeumlaw20_awake n) fun y338 =>
            .ret y338)
            (.ret false))
          (.ret false))
        fun y339 =>
        .sub (F_hypogeumref20_SameIDs_1 n y230) fun y348 =>
        .ite y348
          (.sub (F_hypogeumref20_SameIDs n x3 x4 y228) fun y349 =>
          .ite y349
            (.sub (F_hypogeumlaw20_awake n) fun y350 =>
            .ret y350)
            (.ret false))
          (.ret false))
      fun y351 =>
      .sub (F_hypogeumref20_Index_Need n y227.1 y227.2.1 x2 x3 x4) fun y352 =>
      .alt y352 (fun y353 =>
        .sub (F_hypogeumref20_SameIDs_2 n false y353) fun y360 =>
        .ite y360
          (.sub (F_hypogeumref20_SameIDs n x3 x4 y228) fun y361 =>
          .ite y361
            (.sub (F_hypogeumlaw20_awake n) fun y362 =>
            .ret y362)
            (.ret false))
          (.ret false))
        fun y363 =>
        .sub (F_hypogeumref20_SameIDs_3 n) fun y366 =>
        .ite y366
          (.sub (F_hypogeumref20_SameIDs n x3 x4 y228) fun y367 =>
          .ite y367
            (.sub (F_hypogeumlaw20_awake n) fun y368 =>
            .ret y368)
            (.ret false))
          (.ret false))
def S_hypogeumlaw20_IndexNeeds (n : Nat) : Summ := fun avs L b => bySk ⟨[(.ro false (.rcd (.pair (.sint .i64) (.pair (.arr 32 .u8) (.rcd (.pair .str (.pair (.sint .i64) (.sint .i64))))))) []), (.val (.sint .i64) (0 : Int)), (.ro false (.arr 32 .u8) [])], [], 0⟩ avs L b (fun l => lfC l fun x0 l => lfD (.list (.rcd (.pair (.sint .i64) (.pair (.arr 32 .u8) (.rcd (.pair .str (.pair (.sint .i64) (.sint .i64)))))))) l fun (x1 : List (Int × List UInt8 × List UInt8 × Int × Int)) l => lfD (.sint .i64) l fun (x2 : Int) l => lfC l fun x3 l => lfD (.list (.arr 32 .u8)) l fun (x4 : List (List UInt8)) l => lfE l (.sub (F_hypogeumlaw20_IndexNeeds n x0 x1 x2 x3 x4) fun r => .ret ((.val .bool r), [], 0))) .fail
theorem ok_hypogeumlaw20_IndexNeeds (n : Nat) : SoundF Try.prog 3 (S_hypogeumlaw20_IndexNeeds n) := by
  refine fn_sound true (c := codeOf Try.f3) (tab := mkTab [(5, ⟨S_hypogeumlaw20_awake n, [], [], false⟩), (6, ⟨S_hypogeumlaw20_both n, [], [], false⟩), (7, ⟨S_index_Index_Need n, [], [], false⟩), (9, ⟨S_hypogeumref20_Index_Need n, [], [], true⟩), (8, ⟨orS (S_hypogeumref20_SameIDs n) (orS (S_hypogeumref20_SameIDs_1 n) (orS (S_hypogeumref20_SameIDs_2 n) (S_hypogeumref20_SameIDs_3 n))), [], [], true⟩)]) (cuts := mkCuts []) Try.func3 (by kernel_rfl) (.cons (ok_hypogeumlaw20_awake n) ⟨_, Try.func5, by kernel_rfl⟩ (.cons (ok_hypogeumlaw20_both n) ⟨_, Try.func6, by kernel_rfl⟩ (.cons (ok_index_Index_Need n) ⟨_, Try.func7, by kernel_rfl⟩ (.cons (ok_hypogeumref20_Index_Need n) ⟨_, Try.func9, by kernel_rfl⟩ (.cons (.or (ok_hypogeumref20_SameIDs n) (.or (ok_hypogeumref20_SameIDs_1 n) (.or (ok_hypogeumref20_SameIDs_2 n) (ok_hypogeumref20_SameIDs_3 n)))) ⟨_, Try.func8, by kernel_rfl⟩ .nil))))) (CutsOK.list (l := []) (by kernel_rfl) (fun _ h => by cases h)) (fun avs L b R h => ?_)
  rcases bySk_ok h with ⟨l, rfl, rfl, rfl, q0⟩ | q0
  · obtain ⟨x0, l, rfl, q1⟩ := lfC_ok q0
    obtain ⟨x1, l, rfl, q2⟩ := lfD_ok q1
    obtain ⟨x2, l, rfl, q3⟩ := lfD_ok q2
    obtain ⟨x3, l, rfl, q4⟩ := lfC_ok q3
    obtain ⟨x4, l, rfl, q5⟩ := lfD_ok q4
    obtain ⟨rfl, q⟩ := lfE_ok q5
    exact run_sub q (by kernel_rfl)
  · exact False.elim q0.h
end Hyp
