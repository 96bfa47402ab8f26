/- Printed by Gen.lean.tpl (this work's own): Go functions as pure functions, each with the proof that the Go code comes to its answers. -/
import Derived.Test.YtdlbmjbbnplpjaaMs
import Derived.Test.YtdlbmjbbnplpjaaNe
import Derived.Test.YtdlbmjbbnplpjaaChecked
set_option linter.unusedVariables false
set_option maxRecDepth 100000
set_option maxHeartbeats 4000000
namespace Hyp
open Go Go.Proofs
def C_15_0 : CutF → Cut := fun κ => ⟨[14, 15, 16], fun e => match e with | .ex i => bif Nat.beq i 0 then [] else [] | .rt => [2] | .nm => [] | .go i => [], κ⟩
def F_store_Named_l0 (n : Nat) : Nat → (Int) → (Int) → (List UInt8) → Tree (Unit ⊕ Unit)
  | 0 => fun  x3 x4 x5 => .fail
  | k + 1 => fun x3 x4 x5 =>
      .ite (Decidable.decide (x4 < x3))
        (.get (Hyp.inI (List.length x5) x4) fun y9 =>
        .get (GetElem?.getElem? x5 (0 + y9)) fun y10 =>
        .ite (bif (Decidable.decide (y10 < (97 : UInt8))) then ((Decidable.decide (y10 < (48 : UInt8))) || (Decidable.decide ((57 : UInt8) < y10))) else ((Decidable.decide ((122 : UInt8) < y10)) && ((Decidable.decide (y10 < (48 : UInt8))) || (Decidable.decide ((57 : UInt8) < y10)))))
          (.ret (.inl ()))
          (.sub (F_store_Named_l0 n k x3 (Go.IntKind.wrap Go.IntKind.i64 (x4 + (1 : Int))) x5) fun y11 =>
          .alt y11 (fun y12 =>
            .ret (.inl ()))
            fun y13 =>
            .ret (.inr ())))
        (.ret (.inr ()))
def S_store_Named_l0 (n k : Nat) : CutF := fun avs L b => bySk ⟨[(.whole 0 1), (.val (.sint .i64) (0 : Int)), (.val (.sint .i64) (0 : Int))], [⟨0, 1, .row .u8 []⟩], 2⟩ avs L b (fun l => lfD (.sint .i64) l fun (x3 : Int) l => lfD (.sint .i64) l fun (x4 : Int) l => lfD (.list .u8) l fun (x5 : List UInt8) l => lfE l (.sub (F_store_Named_l0 n k x3 x4 x5) fun r => .alt r (fun r => .ret (.rt, [(.val .bool false)], [⟨0, 3, .row .u8 x5⟩], 4)) (fun r => .ret (.ex 0, [], [⟨0, 3, .row .u8 x5⟩], 4)))) .fail
theorem z_store_Named_l0 (n : Nat) : ∀ avs L b R, (S_store_Named_l0 n 0 avs L b).Wp R → False := by
  intro avs L b R h
  rcases bySk_ok h with ⟨l, rfl, rfl, rfl, q0⟩ | q0
  · obtain ⟨x3, l, rfl, q1⟩ := lfD_ok q0
    obtain ⟨x4, l, rfl, q2⟩ := lfD_ok q1
    obtain ⟨x5, l, rfl, q3⟩ := lfD_ok q2
    obtain ⟨rfl, q⟩ := lfE_ok q3
    exact False.elim q.h
  · exact False.elim q0.h
theorem rd_store_Named_l0 (n k : Nat) : Rounds Try.prog (Go.Func.ntmps Try.f15) (bodyOf Try.f15 0) C_15_0 [S_store_Named_l0 n k] (S_store_Named_l0 n (k + 1)) := by
  intro avs L b R h
  refine ⟨mkTab [], mkCuts [], orCL (S_store_Named_l0 n k) [], .nil, (CutsOK.list (l := []) (by kernel_rfl) (fun _ h => by cases h)), orCL_mem, ?_⟩
  rcases bySk_ok h with ⟨l, rfl, rfl, rfl, q0⟩ | q0
  · obtain ⟨x3, l, rfl, q1⟩ := lfD_ok q0
    obtain ⟨x4, l, rfl, q2⟩ := lfD_ok q1
    obtain ⟨x5, l, rfl, q3⟩ := lfD_ok q2
    obtain ⟨rfl, q⟩ := lfE_ok q3
    exact run_subs (k' := fun r => (match r with | .inl r => .ret (.rt, [(.val .bool false)], [⟨0, 3, .row .u8 x5⟩], 4) | .inr r => .ret (.ex 0, [], [⟨0, 3, .row .u8 x5⟩], 4))) q (fun y hy => by rcases y with y | y <;> exact ⟨hy.h⟩) (by kernel_rfl)
  · exact False.elim q0.h
theorem ok_store_Named_l0 (n k : Nat) : SoundC Try.prog (Go.Func.ntmps Try.f15) (.loop (bodyOf Try.f15 0)) (wr (bodyOf Try.f15 0)) (C_15_0 (S_store_Named_l0 n k)) :=
  loop_rounds (K := fun k => [S_store_Named_l0 n k]) (fun _ => rfl) (by kernel_rfl) (List.forall_mem_cons.2 ⟨z_store_Named_l0 n, (fun _ h => by cases h)⟩) (fun k => (List.forall_mem_cons.2 ⟨rd_store_Named_l0 n k, (fun _ h => by cases h)⟩)) k _ (.head _)
def F_store_Named (n : Nat) (x1 : List UInt8) : Tree Bool :=
  .ite ((Decidable.decide ((Nat.cast (List.length x1) : Int) < (1 : Int))) || (Decidable.decide ((32 : Int) < (Nat.cast (List.length x1) : Int))))
    (.ret false)
    (.get (Hyp.bytesI x1) fun y2 =>
    .sub (F_store_Named_l0 n n (Nat.cast (List.length y2) : Int) (0 : Int) y2) fun y14 =>
    .alt y14 (fun y15 =>
      .ret false)
      fun y16 =>
      .ret true)
def S_store_Named (n : Nat) : Summ := fun avs L b => bySk ⟨[(.val .str [])], [], 0⟩ avs L b (fun l => lfD .str l fun (x1 : List UInt8) l => lfE l (.sub (F_store_Named n x1) fun r => .ret ((.val .bool r), [], 0))) .fail
theorem ok_store_Named (n : Nat) : SoundF Try.prog 15 (S_store_Named n) := by
  refine fn_sound false (c := codeOf Try.f15) (tab := mkTab []) (cuts := mkCuts [(0, C_15_0 (S_store_Named_l0 n n))]) Try.func15 (by kernel_rfl) .nil (CutsOK.list (l := [(0, .lp (bodyOf Try.f15 0))]) (by kernel_rfl) (LoopsOK.all ⟨.inr ⟨_, rfl, ok_store_Named_l0 n n⟩, trivial⟩)) (fun avs L b R h => ?_)
  rcases bySk_ok h with ⟨l, rfl, rfl, rfl, q0⟩ | q0
  · obtain ⟨x1, l, rfl, q1⟩ := lfD_ok q0
    obtain ⟨rfl, q⟩ := lfE_ok q1
    exact run_sub q (by kernel_rfl)
  · exact False.elim q0.h
def C_16_0 : CutF → Cut := fun κ => ⟨[0, 3], fun e => match e with | .ex i => bif Nat.beq i 0 then [] else [] | .rt => [2] | .nm => [] | .go i => [], κ⟩
def F_hypogeumref16_Named_l0 (n : Nat) : Nat → (List UInt8) → (Int) → Tree (Unit ⊕ Unit)
  | 0 => fun  x19 x20 => .fail
  | k + 1 => fun x19 x20 =>
      .ite (Decidable.decide (x20 < (Nat.cast (List.length x19) : Int)))
        (.get (Hyp.getI x19 x20) fun y30 =>
        .ite (Decidable.decide ((97 : UInt8) ≤ y30))
          (.get (Hyp.getI x19 x20) fun y31 =>
          .get (Hyp.getI x19 x20) fun y32 =>
          .ite (Decidable.decide ((48 : UInt8) ≤ y32))
            (.get (Hyp.getI x19 x20) fun y33 =>
            .ite ((!(Decidable.decide (y31 ≤ (122 : UInt8)))) && (!(Decidable.decide (y33 ≤ (57 : UInt8)))))
              (.ret (.inl ()))
              (.sub (F_hypogeumref16_Named_l0 n k x19 (Go.IntKind.wrap Go.IntKind.i64 (x20 + (1 : Int)))) fun y34 =>
              .alt y34 (fun y35 =>
                .ret (.inl ()))
                fun y36 =>
                .ret (.inr ())))
            (.ite (!(Decidable.decide (y31 ≤ (122 : UInt8))))
              (.ret (.inl ()))
              (.sub (F_hypogeumref16_Named_l0 n k x19 (Go.IntKind.wrap Go.IntKind.i64 (x20 + (1 : Int)))) fun y37 =>
              .alt y37 (fun y38 =>
                .ret (.inl ()))
                fun y39 =>
                .ret (.inr ()))))
          (.get (Hyp.getI x19 x20) fun y40 =>
          .ite (Decidable.decide ((48 : UInt8) ≤ y40))
            (.get (Hyp.getI x19 x20) fun y41 =>
            .ite (!(Decidable.decide (y41 ≤ (57 : UInt8))))
              (.ret (.inl ()))
              (.sub (F_hypogeumref16_Named_l0 n k x19 (Go.IntKind.wrap Go.IntKind.i64 (x20 + (1 : Int)))) fun y42 =>
              .alt y42 (fun y43 =>
                .ret (.inl ()))
                fun y44 =>
                .ret (.inr ())))
            (.ret (.inl ()))))
        (.ret (.inr ()))
def S_hypogeumref16_Named_l0 (n k : Nat) : CutF := fun avs L b => bySk ⟨[(.val .str []), (.val (.sint .i64) (0 : Int))], [], 0⟩ avs L b (fun l => lfD .str l fun (x19 : List UInt8) l => lfD (.sint .i64) l fun (x20 : Int) l => lfE l (.sub (F_hypogeumref16_Named_l0 n k x19 x20) fun r => .alt r (fun r => .ret (.rt, [(.val .bool false)], [], 0)) (fun r => .ret (.ex 0, [], [], 0)))) .fail
theorem z_hypogeumref16_Named_l0 (n : Nat) : ∀ avs L b R, (S_hypogeumref16_Named_l0 n 0 avs L b).Wp R → False := by
  intro avs L b R h
  rcases bySk_ok h with ⟨l, rfl, rfl, rfl, q0⟩ | q0
  · obtain ⟨x19, l, rfl, q1⟩ := lfD_ok q0
    obtain ⟨x20, l, rfl, q2⟩ := lfD_ok q1
    obtain ⟨rfl, q⟩ := lfE_ok q2
    exact False.elim q.h
  · exact False.elim q0.h
theorem rd_hypogeumref16_Named_l0 (n k : Nat) : Rounds Try.prog (Go.Func.ntmps Try.f16) (bodyOf Try.f16 0) C_16_0 [S_hypogeumref16_Named_l0 n k] (S_hypogeumref16_Named_l0 n (k + 1)) := by
  intro avs L b R h
  refine ⟨mkTab [], mkCuts [], orCL (S_hypogeumref16_Named_l0 n k) [], .nil, (CutsOK.list (l := []) (by kernel_rfl) (fun _ h => by cases h)), orCL_mem, ?_⟩
  rcases bySk_ok h with ⟨l, rfl, rfl, rfl, q0⟩ | q0
  · obtain ⟨x19, l, rfl, q1⟩ := lfD_ok q0
    obtain ⟨x20, l, rfl, q2⟩ := lfD_ok q1
    obtain ⟨rfl, q⟩ := lfE_ok q2
    exact run_subs (k' := fun r => (match r with | .inl r => .ret (.rt, [(.val .bool false)], [], 0) | .inr r => .ret (.ex 0, [], [], 0))) q (fun y hy => by rcases y with y | y <;> exact ⟨hy.h⟩) (by kernel_rfl)
  · exact False.elim q0.h
theorem ok_hypogeumref16_Named_l0 (n k : Nat) : SoundC Try.prog (Go.Func.ntmps Try.f16) (.loop (bodyOf Try.f16 0)) (wr (bodyOf Try.f16 0)) (C_16_0 (S_hypogeumref16_Named_l0 n k)) :=
  loop_rounds (K := fun k => [S_hypogeumref16_Named_l0 n k]) (fun _ => rfl) (by kernel_rfl) (List.forall_mem_cons.2 ⟨z_hypogeumref16_Named_l0 n, (fun _ h => by cases h)⟩) (fun k => (List.forall_mem_cons.2 ⟨rd_hypogeumref16_Named_l0 n k, (fun _ h => by cases h)⟩)) k _ (.head _)
def F_hypogeumref16_Named (n : Nat) (x18 : List UInt8) : Tree Bool :=
  .sub (F_hypogeumref16_Named_l0 n n x18 (0 : Int)) fun y45 =>
  .alt y45 (fun y46 =>
    .ret false)
    fun y47 =>
    .ret ((Decidable.decide ((1 : Int) ≤ (Nat.cast (List.length x18) : Int))) && (Decidable.decide ((Nat.cast (List.length x18) : Int) ≤ (32 : Int))))
def S_hypogeumref16_Named (n : Nat) : Summ := fun avs L b => bySk ⟨[(.val .str [])], [], 0⟩ avs L b (fun l => lfD .str l fun (x18 : List UInt8) l => lfE l (.sub (F_hypogeumref16_Named n x18) fun r => .ret ((.val .bool r), [], 0))) .fail
theorem ok_hypogeumref16_Named (n : Nat) : SoundF Try.prog 16 (S_hypogeumref16_Named n) := by
  refine fn_sound true (c := codeOf Try.f16) (tab := mkTab []) (cuts := mkCuts [(0, C_16_0 (S_hypogeumref16_Named_l0 n n))]) Try.func16 (by kernel_rfl) .nil (CutsOK.list (l := [(0, .lp (bodyOf Try.f16 0))]) (by kernel_rfl) (LoopsOK.all ⟨.inr ⟨_, rfl, ok_hypogeumref16_Named_l0 n n⟩, trivial⟩)) (fun avs L b R h => ?_)
  rcases bySk_ok h with ⟨l, rfl, rfl, rfl, q0⟩ | q0
  · obtain ⟨x18, l, rfl, q1⟩ := lfD_ok q0
    obtain ⟨rfl, q⟩ := lfE_ok q1
    exact run_sub q (by kernel_rfl)
  · exact False.elim q0.h
def F_store_New (n : Nat) : Tree Unit :=
  .ret ()
def S_store_New (n : Nat) : Summ := fun avs L b => bySk ⟨[], [], 0⟩ avs L b (fun l => lfE l (.sub (F_store_New n) fun r => .ret ((.ptr 0 0), [⟨0, 1, .box (.agg (.pr (.mpv 2) (.pr (.agg (.pr (.val (.sint .i64) (0 : Int)) (.pr (.val (.sint .i64) (0 : Int)) (.pr (.val (.sint .i64) (0 : Int)) .un)))) (.pr (.whole 4 4) (.pr (.val .bool false) (.pr (.whole 6 3) .un))))))⟩, ⟨2, 3, .mp .str (.list (.rcd (.pair (.list .u8) .bool))) ([] : List ((List UInt8) × (List ((List UInt8) × Bool))))⟩, ⟨4, 5, .row (.rcd (.pair (.sint .i64) (.pair (.sint .i64) (.pair .str (.list .u8))))) ([] : List (Int × (Int × ((List UInt8) × (List UInt8)))))⟩, ⟨6, 7, .row (.rcd (.pair .str (.pair .str (.sint .i64)))) ([] : List ((List UInt8) × ((List UInt8) × Int)))⟩], 8))) .fail
theorem ok_store_New (n : Nat) : SoundF Try.prog 45 (S_store_New n) := by
  refine fn_sound false (c := codeOf Try.f45) (tab := mkTab []) (cuts := mkCuts []) Try.func45 (by kernel_rfl) .nil (CutsOK.list (l := []) (by kernel_rfl) (fun _ h => by cases h)) (fun avs L b R h => ?_)
  rcases bySk_ok h with ⟨l, rfl, rfl, rfl, q0⟩ | q0
  · obtain ⟨rfl, q⟩ := lfE_ok q0
    exact run_sub q (by kernel_rfl)
  · exact False.elim q0.h
def F_slices_Clone___byte_byte_ (n : Nat) (x60 : List UInt8) : Tree (Unit ⊕ (List UInt8)) :=
  .ite (Decidable.decide ((Nat.cast (List.length x60) : Int) = (0 : Int)))
    (.all (fun (p61 : Bool) => True) fun y62 =>
    .ite y62
      (.ret (.inl ()))
      (.get (Hyp.appI 140737488355328 ([] : List UInt8) x60) fun y63 =>
      .ret (.inr y63)))
    (.get (Hyp.appI 140737488355328 ([] : List UInt8) x60) fun y64 =>
    .ret (.inr y64))
def S_slices_Clone___byte_byte_ (n : Nat) : Summ := fun avs L b => bySk ⟨[(.whole 0 1)], [⟨0, 1, .row .u8 []⟩], 2⟩ avs L b (fun l => lfD (.list .u8) l fun (x60 : List UInt8) l => lfE l (.sub (F_slices_Clone___byte_byte_ n x60) fun r => .alt r (fun r => .ret ((.snil none), [⟨0, 3, .row .u8 x60⟩], 4)) (fun r => .ret ((.whole 2 1), [⟨2, 3, .row .u8 r⟩, ⟨0, 5, .row .u8 x60⟩], 6)))) .fail
theorem ok_slices_Clone___byte_byte_ (n : Nat) : SoundF Try.prog 90 (S_slices_Clone___byte_byte_ n) := by
  refine fn_sound false (c := codeOf Try.f90) (tab := mkTab []) (cuts := mkCuts []) Try.func90 (by kernel_rfl) .nil (CutsOK.list (l := []) (by kernel_rfl) (fun _ h => by cases h)) (fun avs L b R h => ?_)
  rcases bySk_ok h with ⟨l, rfl, rfl, rfl, q0⟩ | q0
  · obtain ⟨x60, l, rfl, q1⟩ := lfD_ok q0
    obtain ⟨rfl, q⟩ := lfE_ok q1
    exact run_subs (k' := fun r => (match r with | .inl r => .ret ((.snil none), [⟨0, 3, .row .u8 x60⟩], 4) | .inr r => .ret ((.whole 2 1), [⟨2, 3, .row .u8 r⟩, ⟨0, 5, .row .u8 x60⟩], 6))) q (fun y hy => by rcases y with y | y <;> exact ⟨hy.h⟩) (by kernel_rfl)
  · exact False.elim q0.h
def F_store_Store_call (n : Nat) (x76 : List UInt8) (x77 : List UInt8) (x78 : Int) (x82 : Bool) (x84 : List (Int × Int × List UInt8 × List UInt8)) (x85 : List (List UInt8 × List UInt8 × Int)) : Tree (((Int) × ((Bool) × (List (List UInt8 × List UInt8 × Int)))) ⊕ ((Int) × ((Int) × ((List UInt8) × ((List UInt8) × ((Int) × ((Bool) × ((List (Int × Int × List UInt8 × List UInt8)) × (List (List UInt8 × List UInt8 × Int)))))))))) :=
  .ite x82
    (.ret (.inl ((14 : Int), x82, x85)))
    (.get (Hyp.appI 3518437208883 x85 (List.set ([(([] : List UInt8), (([] : List UInt8), (0 : Int)))] : List ((List UInt8) × ((List UInt8) × Int))) 0 (x76, (x77, x78)))) fun y86 =>
    .ite (Decidable.decide ((0 : Int) < (Nat.cast (List.length x84) : Int)))
      (.get (Hyp.inI (List.length x84) (0 : Int)) fun y87 =>
      .get (GetElem?.getElem? x84 (0 + y87)) fun y88 =>
      .get (ite (And ((0 : Int) ≤ (1 : Int)) (And ((1 : Int) ≤ (Nat.cast (List.length x84) : Int)) ((Nat.cast (List.length x84) : Int) ≤ (Nat.cast (List.length x84) : Int)))) (Option.some Unit.unit) Option.none) fun y89 =>
      .ite (Decidable.decide (y88.1 = (6 : Int)))
        (.ret (.inr (y88.1, y88.2.1, y88.2.2.1, y88.2.2.2, (14 : Int), true, (List.take ((Int.toNat (Nat.cast (List.length x84) : Int)) - 1) (List.drop 1 x84)), y86)))
        (.ret (.inr (y88.1, y88.2.1, y88.2.2.1, y88.2.2.2, (0 : Int), x82, (List.take ((Int.toNat (Nat.cast (List.length x84) : Int)) - 1) (List.drop 1 x84)), y86))))
      (.ite false
        (.ret (.inl ((14 : Int), true, y86)))
        (.ret (.inl ((0 : Int), x82, y86)))))
def S_store_Store_call (n : Nat) : Summ := fun avs L b => bySk ⟨[(.ptr 0 0), (.val .str []), (.val .str []), (.val (.sint .i64) (0 : Int))], [⟨0, 1, .box (.agg (.pr (.mpv 2) (.pr (.agg (.pr (.val (.sint .i64) (0 : Int)) (.pr (.val (.sint .i64) (0 : Int)) (.pr (.val (.sint .i64) (0 : Int)) .un)))) (.pr (.whole 4 4) (.pr (.val .bool false) (.pr (.whole 6 3) .un))))))⟩, ⟨2, 3, .mp .str (.list (.rcd (.pair (.list .u8) .bool))) []⟩, ⟨4, 5, .row (.rcd (.pair (.sint .i64) (.pair (.sint .i64) (.pair .str (.list .u8))))) []⟩, ⟨6, 7, .row (.rcd (.pair .str (.pair .str (.sint .i64)))) []⟩], 8⟩ avs L b (fun l => lfD .str l fun (x76 : List UInt8) l => lfD .str l fun (x77 : List UInt8) l => lfD (.sint .i64) l fun (x78 : Int) l => lfD (.sint .i64) l fun (x79 : Int) l => lfD (.sint .i64) l fun (x80 : Int) l => lfD (.sint .i64) l fun (x81 : Int) l => lfD .bool l fun (x82 : Bool) l => lfD (.list (.rcd (.pair .str (.list (.rcd (.pair (.list .u8) .bool)))))) l fun (x83 : List (List UInt8 × List (List UInt8 × Bool))) l => lfD (.list (.rcd (.pair (.sint .i64) (.pair (.sint .i64) (.pair .str (.list .u8)))))) l fun (x84 : List (Int × Int × List UInt8 × List UInt8)) l => lfD (.list (.rcd (.pair .str (.pair .str (.sint .i64))))) l fun (x85 : List (List UInt8 × List UInt8 × Int)) l => lfE l (.sub (F_store_Store_call n x76 x77 x78 x82 x84 x85) fun r => .alt r (fun r => .ret ((.tup (.pr (.agg (.pr (.val (.sint .i64) (0 : Int)) (.pr (.val (.sint .i64) (0 : Int)) (.pr (.val .str ([] : List UInt8)) (.pr (.whole 8 1) .un))))) (.pr (.val (.sint .i64) r.1) .un))), [⟨8, 9, .row .u8 ([] : List UInt8)⟩, ⟨0, 11, .box (.agg (.pr (.mpv 2) (.pr (.agg (.pr (.val (.sint .i64) x79) (.pr (.val (.sint .i64) x80) (.pr (.val (.sint .i64) x81) .un)))) (.pr (.whole 14 4) (.pr (.val .bool r.2.1) (.pr (.whole 16 3) .un))))))⟩, ⟨2, 13, .mp .str (.list (.rcd (.pair (.list .u8) .bool))) x83⟩, ⟨14, 15, .row (.rcd (.pair (.sint .i64) (.pair (.sint .i64) (.pair .str (.list .u8))))) x84⟩, ⟨16, 17, .row (.rcd (.pair .str (.pair .str (.sint .i64)))) r.2.2⟩], 18)) (fun r => .ret ((.tup (.pr (.agg (.pr (.val (.sint .i64) r.1) (.pr (.val (.sint .i64) r.2.1) (.pr (.val .str r.2.2.1) (.pr (.ro false .u8 r.2.2.2.1) .un))))) (.pr (.val (.sint .i64) r.2.2.2.2.1) .un))), [⟨0, 9, .box (.agg (.pr (.mpv 2) (.pr (.agg (.pr (.val (.sint .i64) x79) (.pr (.val (.sint .i64) x80) (.pr (.val (.sint .i64) x81) .un)))) (.pr (.whole 12 4) (.pr (.val .bool r.2.2.2.2.2.1) (.pr (.whole 14 3) .un))))))⟩, ⟨2, 11, .mp .str (.list (.rcd (.pair (.list .u8) .bool))) x83⟩, ⟨12, 13, .row (.rcd (.pair (.sint .i64) (.pair (.sint .i64) (.pair .str (.list .u8))))) r.2.2.2.2.2.2.1⟩, ⟨14, 15, .row (.rcd (.pair .str (.pair .str (.sint .i64)))) r.2.2.2.2.2.2.2⟩], 16)))) .fail
theorem ok_store_Store_call (n : Nat) : SoundF Try.prog 91 (S_store_Store_call n) := by
  refine fn_sound false (c := codeOf Try.f91) (tab := mkTab []) (cuts := mkCuts []) Try.func91 (by kernel_rfl) .nil (CutsOK.list (l := []) (by kernel_rfl) (fun _ h => by cases h)) (fun avs L b R h => ?_)
  rcases bySk_ok h with ⟨l, rfl, rfl, rfl, q0⟩ | q0
  · obtain ⟨x76, l, rfl, q1⟩ := lfD_ok q0
    obtain ⟨x77, l, rfl, q2⟩ := lfD_ok q1
    obtain ⟨x78, l, rfl, q3⟩ := lfD_ok q2
    obtain ⟨x79, l, rfl, q4⟩ := lfD_ok q3
    obtain ⟨x80, l, rfl, q5⟩ := lfD_ok q4
    obtain ⟨x81, l, rfl, q6⟩ := lfD_ok q5
    obtain ⟨x82, l, rfl, q7⟩ := lfD_ok q6
    obtain ⟨x83, l, rfl, q8⟩ := lfD_ok q7
    obtain ⟨x84, l, rfl, q9⟩ := lfD_ok q8
    obtain ⟨x85, l, rfl, q10⟩ := lfD_ok q9
    obtain ⟨rfl, q⟩ := lfE_ok q10
    exact run_subs (k' := fun r => (match r with | .inl r => .ret ((.tup (.pr (.agg (.pr (.val (.sint .i64) (0 : Int)) (.pr (.val (.sint .i64) (0 : Int)) (.pr (.val .str ([] : List UInt8)) (.pr (.whole 8 1) .un))))) (.pr (.val (.sint .i64) r.1) .un))), [⟨8, 9, .row .u8 ([] : List UInt8)⟩, ⟨0, 11, .box (.agg (.pr (.mpv 2) (.pr (.agg (.pr (.val (.sint .i64) x79) (.pr (.val (.sint .i64) x80) (.pr (.val (.sint .i64) x81) .un)))) (.pr (.whole 14 4) (.pr (.val .bool r.2.1) (.pr (.whole 16 3) .un))))))⟩, ⟨2, 13, .mp .str (.list (.rcd (.pair (.list .u8) .bool))) x83⟩, ⟨14, 15, .row (.rcd (.pair (.sint .i64) (.pair (.sint .i64) (.pair .str (.list .u8))))) x84⟩, ⟨16, 17, .row (.rcd (.pair .str (.pair .str (.sint .i64)))) r.2.2⟩], 18) | .inr r => .ret ((.tup (.pr (.agg (.pr (.val (.sint .i64) r.1) (.pr (.val (.sint .i64) r.2.1) (.pr (.val .str r.2.2.1) (.pr (.ro false .u8 r.2.2.2.1) .un))))) (.pr (.val (.sint .i64) r.2.2.2.2.1) .un))), [⟨0, 9, .box (.agg (.pr (.mpv 2) (.pr (.agg (.pr (.val (.sint .i64) x79) (.pr (.val (.sint .i64) x80) (.pr (.val (.sint .i64) x81) .un)))) (.pr (.whole 12 4) (.pr (.val .bool r.2.2.2.2.2.1) (.pr (.whole 14 3) .un))))))⟩, ⟨2, 11, .mp .str (.list (.rcd (.pair (.list .u8) .bool))) x83⟩, ⟨12, 13, .row (.rcd (.pair (.sint .i64) (.pair (.sint .i64) (.pair .str (.list .u8))))) r.2.2.2.2.2.2.1⟩, ⟨14, 15, .row (.rcd (.pair .str (.pair .str (.sint .i64)))) r.2.2.2.2.2.2.2⟩], 16))) q (fun y hy => by rcases y with y | y <;> exact ⟨hy.h⟩) (by kernel_rfl)
  · exact False.elim q0.h
def F_store_Store_change (n : Nat) (x67 : List UInt8) (x68 : List UInt8) (x72 : Bool) (x73 : List (List UInt8 × List (List UInt8 × Bool))) (x74 : List (Int × Int × List UInt8 × List UInt8)) (x75 : List (List UInt8 × List UInt8 × Int)) : Tree ((Int) × ((Bool) × ((List (List UInt8 × List (List UInt8 × Bool))) × ((List (Int × Int × List UInt8 × List UInt8)) × (List (List UInt8 × List UInt8 × Int)))))) :=
  .sub (F_store_Store_call n x67 x68 (0 : Int) x72 x74 x75) fun y90 =>
  .alt y90 (fun y91 =>
    .ite (!(Decidable.decide (y91.1 = (0 : Int))))
      (.ret (y91.1, y91.2.1, x73, x74, y91.2.2))
      (.ite false
        (.ret ((12 : Int), y91.2.1, x73, x74, y91.2.2))
        (.ite false
          (.ret ((0 : Int), y91.2.1, x73, x74, y91.2.2))
          (.get (ite (And ((Nat.cast (List.length (Hyp.mgetD Hyp.Ty.str (Hyp.Ty.list (Hyp.Ty.rcd (Hyp.Ty.pair (Hyp.Ty.list Hyp.Ty.u8) Hyp.Ty.bool))) x73 x68 ([] : List ((List UInt8) × Bool)))) : Int) ≤ (Nat.cast (List.length (Hyp.mgetD Hyp.Ty.str (Hyp.Ty.list (Hyp.Ty.rcd (Hyp.Ty.pair (Hyp.Ty.list Hyp.Ty.u8) Hyp.Ty.bool))) x73 x68 ([] : List ((List UInt8) × Bool)))) : Int)) ((Nat.cast (List.length (Hyp.mgetD Hyp.Ty.str (Hyp.Ty.list (Hyp.Ty.rcd (Hyp.Ty.pair (Hyp.Ty.list Hyp.Ty.u8) Hyp.Ty.bool))) x73 x68 ([] : List ((List UInt8) × Bool)))) : Int) ≤ (Nat.cast (List.length (Hyp.mgetD Hyp.Ty.str (Hyp.Ty.list (Hyp.Ty.rcd (Hyp.Ty.pair (Hyp.Ty.list Hyp.Ty.u8) Hyp.Ty.bool))) x73 x68 ([] : List ((List UInt8) × Bool)))) : Int))) (Hyp.subI (Hyp.mgetD Hyp.Ty.str (Hyp.Ty.list (Hyp.Ty.rcd (Hyp.Ty.pair (Hyp.Ty.list Hyp.Ty.u8) Hyp.Ty.bool))) x73 x68 ([] : List ((List UInt8) × Bool))) (0 : Int) (Nat.cast (List.length (Hyp.mgetD Hyp.Ty.str (Hyp.Ty.list (Hyp.Ty.rcd (Hyp.Ty.pair (Hyp.Ty.list Hyp.Ty.u8) Hyp.Ty.bool))) x73 x68 ([] : List ((List UInt8) × Bool)))) : Int)) Option.none) fun y92 =>
          .get (Hyp.tightI (Decidable.decide ((Nat.cast (List.length (Hyp.mgetD Hyp.Ty.str (Hyp.Ty.list (Hyp.Ty.rcd (Hyp.Ty.pair (Hyp.Ty.list Hyp.Ty.u8) Hyp.Ty.bool))) x73 x68 ([] : List ((List UInt8) × Bool)))) : Int) = (Nat.cast (List.length (Hyp.mgetD Hyp.Ty.str (Hyp.Ty.list (Hyp.Ty.rcd (Hyp.Ty.pair (Hyp.Ty.list Hyp.Ty.u8) Hyp.Ty.bool))) x73 x68 ([] : List ((List UInt8) × Bool)))) : Int))) 4398046511104 y92 ([(([] : List UInt8), true)] : List ((List UInt8) × Bool))) fun y93 =>
          .ret ((0 : Int), y91.2.1, (Hyp.mput Hyp.Ty.str (Hyp.Ty.list (Hyp.Ty.rcd (Hyp.Ty.pair (Hyp.Ty.list Hyp.Ty.u8) Hyp.Ty.bool))) x73 x68 y93), x74, y91.2.2)))))
    fun y94 =>
    .ite (!(Decidable.decide (y94.2.2.2.2.1 = (0 : Int))))
      (.ret (y94.2.2.2.2.1, y94.2.2.2.2.2.1, x73, y94.2.2.2.2.2.2.1, y94.2.2.2.2.2.2.2))
      (.ite (Decidable.decide (y94.1 = (1 : Int)))
        (.ret ((12 : Int), y94.2.2.2.2.2.1, x73, y94.2.2.2.2.2.2.1, y94.2.2.2.2.2.2.2))
        (.ite (Decidable.decide (y94.1 = (2 : Int)))
          (.ret ((0 : Int), y94.2.2.2.2.2.1, x73, y94.2.2.2.2.2.2.1, y94.2.2.2.2.2.2.2))
          (.get (ite (And ((Nat.cast (List.length (Hyp.mgetD Hyp.Ty.str (Hyp.Ty.list (Hyp.Ty.rcd (Hyp.Ty.pair (Hyp.Ty.list Hyp.Ty.u8) Hyp.Ty.bool))) x73 x68 ([] : List ((List UInt8) × Bool)))) : Int) ≤ (Nat.cast (List.length (Hyp.mgetD Hyp.Ty.str (Hyp.Ty.list (Hyp.Ty.rcd (Hyp.Ty.pair (Hyp.Ty.list Hyp.Ty.u8) Hyp.Ty.bool))) x73 x68 ([] : List ((List UInt8) × Bool)))) : Int)) ((Nat.cast (List.length (Hyp.mgetD Hyp.Ty.str (Hyp.Ty.list (Hyp.Ty.rcd (Hyp.Ty.pair (Hyp.Ty.list Hyp.Ty.u8) Hyp.Ty.bool))) x73 x68 ([] : List ((List UInt8) × Bool)))) : Int) ≤ (Nat.cast (List.length (Hyp.mgetD Hyp.Ty.str (Hyp.Ty.list (Hyp.Ty.rcd (Hyp.Ty.pair (Hyp.Ty.list Hyp.Ty.u8) Hyp.Ty.bool))) x73 x68 ([] : List ((List UInt8) × Bool)))) : Int))) (Hyp.subI (Hyp.mgetD Hyp.Ty.str (Hyp.Ty.list (Hyp.Ty.rcd (Hyp.Ty.pair (Hyp.Ty.list Hyp.Ty.u8) Hyp.Ty.bool))) x73 x68 ([] : List ((List UInt8) × Bool))) (0 : Int) (Nat.cast (List.length (Hyp.mgetD Hyp.Ty.str (Hyp.Ty.list (Hyp.Ty.rcd (Hyp.Ty.pair (Hyp.Ty.list Hyp.Ty.u8) Hyp.Ty.bool))) x73 x68 ([] : List ((List UInt8) × Bool)))) : Int)) Option.none) fun y95 =>
          .get (Hyp.tightI (Decidable.decide ((Nat.cast (List.length (Hyp.mgetD Hyp.Ty.str (Hyp.Ty.list (Hyp.Ty.rcd (Hyp.Ty.pair (Hyp.Ty.list Hyp.Ty.u8) Hyp.Ty.bool))) x73 x68 ([] : List ((List UInt8) × Bool)))) : Int) = (Nat.cast (List.length (Hyp.mgetD Hyp.Ty.str (Hyp.Ty.list (Hyp.Ty.rcd (Hyp.Ty.pair (Hyp.Ty.list Hyp.Ty.u8) Hyp.Ty.bool))) x73 x68 ([] : List ((List UInt8) × Bool)))) : Int))) 4398046511104 y95 ([(([] : List UInt8), true)] : List ((List UInt8) × Bool))) fun y96 =>
          .ret ((0 : Int), y94.2.2.2.2.2.1, (Hyp.mput Hyp.Ty.str (Hyp.Ty.list (Hyp.Ty.rcd (Hyp.Ty.pair (Hyp.Ty.list Hyp.Ty.u8) Hyp.Ty.bool))) x73 x68 y96), y94.2.2.2.2.2.2.1, y94.2.2.2.2.2.2.2))))
def S_store_Store_change (n : Nat) : Summ := fun avs L b => bySk ⟨[(.ptr 0 0), (.val .str []), (.val .str []), (.agg (.pr (.snil none) (.pr .tt .un)))], [⟨0, 1, .box (.agg (.pr (.mpv 2) (.pr (.agg (.pr (.val (.sint .i64) (0 : Int)) (.pr (.val (.sint .i64) (0 : Int)) (.pr (.val (.sint .i64) (0 : Int)) .un)))) (.pr (.whole 4 4) (.pr (.val .bool false) (.pr (.whole 6 3) .un))))))⟩, ⟨2, 3, .mp .str (.list (.rcd (.pair (.list .u8) .bool))) []⟩, ⟨4, 5, .row (.rcd (.pair (.sint .i64) (.pair (.sint .i64) (.pair .str (.list .u8))))) []⟩, ⟨6, 7, .row (.rcd (.pair .str (.pair .str (.sint .i64)))) []⟩], 8⟩ avs L b (fun l => lfD .str l fun (x67 : List UInt8) l => lfD .str l fun (x68 : List UInt8) l => lfD (.sint .i64) l fun (x69 : Int) l => lfD (.sint .i64) l fun (x70 : Int) l => lfD (.sint .i64) l fun (x71 : Int) l => lfD .bool l fun (x72 : Bool) l => lfD (.list (.rcd (.pair .str (.list (.rcd (.pair (.list .u8) .bool)))))) l fun (x73 : List (List UInt8 × List (List UInt8 × Bool))) l => lfD (.list (.rcd (.pair (.sint .i64) (.pair (.sint .i64) (.pair .str (.list .u8)))))) l fun (x74 : List (Int × Int × List UInt8 × List UInt8)) l => lfD (.list (.rcd (.pair .str (.pair .str (.sint .i64))))) l fun (x75 : List (List UInt8 × List UInt8 × Int)) l => lfE l (.sub (F_store_Store_change n x67 x68 x72 x73 x74 x75) fun r => .ret ((.val (.sint .i64) r.1), [⟨0, 9, .box (.agg (.pr (.mpv 2) (.pr (.agg (.pr (.val (.sint .i64) x69) (.pr (.val (.sint .i64) x70) (.pr (.val (.sint .i64) x71) .un)))) (.pr (.whole 12 4) (.pr (.val .bool r.2.1) (.pr (.whole 14 3) .un))))))⟩, ⟨2, 11, .mp .str (.list (.rcd (.pair (.list .u8) .bool))) r.2.2.1⟩, ⟨12, 13, .row (.rcd (.pair (.sint .i64) (.pair (.sint .i64) (.pair .str (.list .u8))))) r.2.2.2.1⟩, ⟨14, 15, .row (.rcd (.pair .str (.pair .str (.sint .i64)))) r.2.2.2.2⟩], 16))) .fail
theorem ok_store_Store_change (n : Nat) : SoundF Try.prog 89 (S_store_Store_change n) := by
  refine fn_sound false (c := codeOf Try.f89) (tab := mkTab [(91, ⟨S_store_Store_call n, [], [], false⟩)]) (cuts := mkCuts []) Try.func89 (by kernel_rfl) (.cons (ok_store_Store_call n) ⟨_, Try.func91, by kernel_rfl⟩ .nil) (CutsOK.list (l := []) (by kernel_rfl) (fun _ h => by cases h)) (fun avs L b R h => ?_)
  rcases bySk_ok h with ⟨l, rfl, rfl, rfl, q0⟩ | q0
  · obtain ⟨x67, l, rfl, q1⟩ := lfD_ok q0
    obtain ⟨x68, l, rfl, q2⟩ := lfD_ok q1
    obtain ⟨x69, l, rfl, q3⟩ := lfD_ok q2
    obtain ⟨x70, l, rfl, q4⟩ := lfD_ok q3
    obtain ⟨x71, l, rfl, q5⟩ := lfD_ok q4
    obtain ⟨x72, l, rfl, q6⟩ := lfD_ok q5
    obtain ⟨x73, l, rfl, q7⟩ := lfD_ok q6
    obtain ⟨x74, l, rfl, q8⟩ := lfD_ok q7
    obtain ⟨x75, l, rfl, q9⟩ := lfD_ok q8
    obtain ⟨rfl, q⟩ := lfE_ok q9
    exact run_sub q (by kernel_rfl)
  · exact False.elim q0.h
def F_store_Store_change_1 (n : Nat) (x99 : List UInt8) (x100 : List UInt8) (x104 : Bool) (x105 : List (List UInt8 × List (List UInt8 × Bool))) (x106 : List (Int × Int × List UInt8 × List UInt8)) (x107 : List (List UInt8 × List UInt8 × Int)) (x108 : List UInt8) : Tree (((Int) × ((Bool) × ((List (Int × Int × List UInt8 × List UInt8)) × (List (List UInt8 × List UInt8 × Int))))) ⊕ ((Bool) × ((List (List UInt8 × List (List UInt8 × Bool))) × ((List (Int × Int × List UInt8 × List UInt8)) × (List (List UInt8 × List UInt8 × Int)))))) :=
  .sub (F_store_Store_call n x99 x100 (Nat.cast (List.length x108) : Int) x104 x106 x107) fun y109 =>
  .alt y109 (fun y110 =>
    .ite (!(Decidable.decide (y110.1 = (0 : Int))))
      (.ret (.inl (y110.1, y110.2.1, x106, y110.2.2)))
      (.ite false
        (.ret (.inl ((12 : Int), y110.2.1, x106, y110.2.2)))
        (.ite false
          (.ret (.inl ((0 : Int), y110.2.1, x106, y110.2.2)))
          (.get (ite (And ((Nat.cast (List.length (Hyp.mgetD Hyp.Ty.str (Hyp.Ty.list (Hyp.Ty.rcd (Hyp.Ty.pair (Hyp.Ty.list Hyp.Ty.u8) Hyp.Ty.bool))) x105 x100 ([] : List ((List UInt8) × Bool)))) : Int) ≤ (Nat.cast (List.length (Hyp.mgetD Hyp.Ty.str (Hyp.Ty.list (Hyp.Ty.rcd (Hyp.Ty.pair (Hyp.Ty.list Hyp.Ty.u8) Hyp.Ty.bool))) x105 x100 ([] : List ((List UInt8) × Bool)))) : Int)) ((Nat.cast (List.length (Hyp.mgetD Hyp.Ty.str (Hyp.Ty.list (Hyp.Ty.rcd (Hyp.Ty.pair (Hyp.Ty.list Hyp.Ty.u8) Hyp.Ty.bool))) x105 x100 ([] : List ((List UInt8) × Bool)))) : Int) ≤ (Nat.cast (List.length (Hyp.mgetD Hyp.Ty.str (Hyp.Ty.list (Hyp.Ty.rcd (Hyp.Ty.pair (Hyp.Ty.list Hyp.Ty.u8) Hyp.Ty.bool))) x105 x100 ([] : List ((List UInt8) × Bool)))) : Int))) (Hyp.subI (Hyp.mgetD Hyp.Ty.str (Hyp.Ty.list (Hyp.Ty.rcd (Hyp.Ty.pair (Hyp.Ty.list Hyp.Ty.u8) Hyp.Ty.bool))) x105 x100 ([] : List ((List UInt8) × Bool))) (0 : Int) (Nat.cast (List.length (Hyp.mgetD Hyp.Ty.str (Hyp.Ty.list (Hyp.Ty.rcd (Hyp.Ty.pair (Hyp.Ty.list Hyp.Ty.u8) Hyp.Ty.bool))) x105 x100 ([] : List ((List UInt8) × Bool)))) : Int)) Option.none) fun y111 =>
          .get (Hyp.tightI (Decidable.decide ((Nat.cast (List.length (Hyp.mgetD Hyp.Ty.str (Hyp.Ty.list (Hyp.Ty.rcd (Hyp.Ty.pair (Hyp.Ty.list Hyp.Ty.u8) Hyp.Ty.bool))) x105 x100 ([] : List ((List UInt8) × Bool)))) : Int) = (Nat.cast (List.length (Hyp.mgetD Hyp.Ty.str (Hyp.Ty.list (Hyp.Ty.rcd (Hyp.Ty.pair (Hyp.Ty.list Hyp.Ty.u8) Hyp.Ty.bool))) x105 x100 ([] : List ((List UInt8) × Bool)))) : Int))) 4398046511104 y111 (List.set ([(([] : List UInt8), false)] : List ((List UInt8) × Bool)) 0 (x108, true))) fun y112 =>
          .ret (.inr (y110.2.1, (Hyp.mput Hyp.Ty.str (Hyp.Ty.list (Hyp.Ty.rcd (Hyp.Ty.pair (Hyp.Ty.list Hyp.Ty.u8) Hyp.Ty.bool))) x105 x100 y112), x106, y110.2.2))))))
    fun y113 =>
    .ite (!(Decidable.decide (y113.2.2.2.2.1 = (0 : Int))))
      (.ret (.inl (y113.2.2.2.2.1, y113.2.2.2.2.2.1, y113.2.2.2.2.2.2.1, y113.2.2.2.2.2.2.2)))
      (.ite (Decidable.decide (y113.1 = (1 : Int)))
        (.ret (.inl ((12 : Int), y113.2.2.2.2.2.1, y113.2.2.2.2.2.2.1, y113.2.2.2.2.2.2.2)))
        (.ite (Decidable.decide (y113.1 = (2 : Int)))
          (.ret (.inl ((0 : Int), y113.2.2.2.2.2.1, y113.2.2.2.2.2.2.1, y113.2.2.2.2.2.2.2)))
          (.get (ite (And ((Nat.cast (List.length (Hyp.mgetD Hyp.Ty.str (Hyp.Ty.list (Hyp.Ty.rcd (Hyp.Ty.pair (Hyp.Ty.list Hyp.Ty.u8) Hyp.Ty.bool))) x105 x100 ([] : List ((List UInt8) × Bool)))) : Int) ≤ (Nat.cast (List.length (Hyp.mgetD Hyp.Ty.str (Hyp.Ty.list (Hyp.Ty.rcd (Hyp.Ty.pair (Hyp.Ty.list Hyp.Ty.u8) Hyp.Ty.bool))) x105 x100 ([] : List ((List UInt8) × Bool)))) : Int)) ((Nat.cast (List.length (Hyp.mgetD Hyp.Ty.str (Hyp.Ty.list (Hyp.Ty.rcd (Hyp.Ty.pair (Hyp.Ty.list Hyp.Ty.u8) Hyp.Ty.bool))) x105 x100 ([] : List ((List UInt8) × Bool)))) : Int) ≤ (Nat.cast (List.length (Hyp.mgetD Hyp.Ty.str (Hyp.Ty.list (Hyp.Ty.rcd (Hyp.Ty.pair (Hyp.Ty.list Hyp.Ty.u8) Hyp.Ty.bool))) x105 x100 ([] : List ((List UInt8) × Bool)))) : Int))) (Hyp.subI (Hyp.mgetD Hyp.Ty.str (Hyp.Ty.list (Hyp.Ty.rcd (Hyp.Ty.pair (Hyp.Ty.list Hyp.Ty.u8) Hyp.Ty.bool))) x105 x100 ([] : List ((List UInt8) × Bool))) (0 : Int) (Nat.cast (List.length (Hyp.mgetD Hyp.Ty.str (Hyp.Ty.list (Hyp.Ty.rcd (Hyp.Ty.pair (Hyp.Ty.list Hyp.Ty.u8) Hyp.Ty.bool))) x105 x100 ([] : List ((List UInt8) × Bool)))) : Int)) Option.none) fun y114 =>
          .get (Hyp.tightI (Decidable.decide ((Nat.cast (List.length (Hyp.mgetD Hyp.Ty.str (Hyp.Ty.list (Hyp.Ty.rcd (Hyp.Ty.pair (Hyp.Ty.list Hyp.Ty.u8) Hyp.Ty.bool))) x105 x100 ([] : List ((List UInt8) × Bool)))) : Int) = (Nat.cast (List.length (Hyp.mgetD Hyp.Ty.str (Hyp.Ty.list (Hyp.Ty.rcd (Hyp.Ty.pair (Hyp.Ty.list Hyp.Ty.u8) Hyp.Ty.bool))) x105 x100 ([] : List ((List UInt8) × Bool)))) : Int))) 4398046511104 y114 (List.set ([(([] : List UInt8), false)] : List ((List UInt8) × Bool)) 0 (x108, true))) fun y115 =>
          .ret (.inr (y113.2.2.2.2.2.1, (Hyp.mput Hyp.Ty.str (Hyp.Ty.list (Hyp.Ty.rcd (Hyp.Ty.pair (Hyp.Ty.list Hyp.Ty.u8) Hyp.Ty.bool))) x105 x100 y115), y113.2.2.2.2.2.2.1, y113.2.2.2.2.2.2.2)))))
def S_store_Store_change_1 (n : Nat) : Summ := fun avs L b => bySk ⟨[(.ptr 0 0), (.val .str []), (.val .str []), (.agg (.pr (.whole 8 1) (.pr .tt .un)))], [⟨0, 1, .box (.agg (.pr (.mpv 2) (.pr (.agg (.pr (.val (.sint .i64) (0 : Int)) (.pr (.val (.sint .i64) (0 : Int)) (.pr (.val (.sint .i64) (0 : Int)) .un)))) (.pr (.whole 4 4) (.pr (.val .bool false) (.pr (.whole 6 3) .un))))))⟩, ⟨2, 3, .mp .str (.list (.rcd (.pair (.list .u8) .bool))) []⟩, ⟨4, 5, .row (.rcd (.pair (.sint .i64) (.pair (.sint .i64) (.pair .str (.list .u8))))) []⟩, ⟨6, 7, .row (.rcd (.pair .str (.pair .str (.sint .i64)))) []⟩, ⟨8, 9, .row .u8 []⟩], 10⟩ avs L b (fun l => lfD .str l fun (x99 : List UInt8) l => lfD .str l fun (x100 : List UInt8) l => lfD (.sint .i64) l fun (x101 : Int) l => lfD (.sint .i64) l fun (x102 : Int) l => lfD (.sint .i64) l fun (x103 : Int) l => lfD .bool l fun (x104 : Bool) l => lfD (.list (.rcd (.pair .str (.list (.rcd (.pair (.list .u8) .bool)))))) l fun (x105 : List (List UInt8 × List (List UInt8 × Bool))) l => lfD (.list (.rcd (.pair (.sint .i64) (.pair (.sint .i64) (.pair .str (.list .u8)))))) l fun (x106 : List (Int × Int × List UInt8 × List UInt8)) l => lfD (.list (.rcd (.pair .str (.pair .str (.sint .i64))))) l fun (x107 : List (List UInt8 × List UInt8 × Int)) l => lfD (.list .u8) l fun (x108 : List UInt8) l => lfE l (.sub (F_store_Store_change_1 n x99 x100 x104 x105 x106 x107 x108) fun r => .alt r (fun r => .ret ((.val (.sint .i64) r.1), [⟨0, 11, .box (.agg (.pr (.mpv 2) (.pr (.agg (.pr (.val (.sint .i64) x101) (.pr (.val (.sint .i64) x102) (.pr (.val (.sint .i64) x103) .un)))) (.pr (.whole 14 4) (.pr (.val .bool r.2.1) (.pr (.whole 16 3) .un))))))⟩, ⟨2, 13, .mp .str (.list (.rcd (.pair (.list .u8) .bool))) x105⟩, ⟨14, 15, .row (.rcd (.pair (.sint .i64) (.pair (.sint .i64) (.pair .str (.list .u8))))) r.2.2.1⟩, ⟨16, 17, .row (.rcd (.pair .str (.pair .str (.sint .i64)))) r.2.2.2⟩, ⟨8, 19, .row .u8 x108⟩], 20)) (fun r => .ret ((.val (.sint .i64) (0 : Int)), [⟨0, 11, .box (.agg (.pr (.mpv 2) (.pr (.agg (.pr (.val (.sint .i64) x101) (.pr (.val (.sint .i64) x102) (.pr (.val (.sint .i64) x103) .un)))) (.pr (.whole 14 4) (.pr (.val .bool r.1) (.pr (.whole 16 3) .un))))))⟩, ⟨2, 13, .mp .str (.list (.rcd (.pair (.list .u8) .bool))) r.2.1⟩, ⟨14, 15, .row (.rcd (.pair (.sint .i64) (.pair (.sint .i64) (.pair .str (.list .u8))))) r.2.2.1⟩, ⟨16, 17, .row (.rcd (.pair .str (.pair .str (.sint .i64)))) r.2.2.2⟩], 18)))) .fail
theorem ok_store_Store_change_1 (n : Nat) : SoundF Try.prog 89 (S_store_Store_change_1 n) := by
  refine fn_sound false (c := codeOf Try.f89) (tab := mkTab [(91, ⟨S_store_Store_call n, [], [], false⟩)]) (cuts := mkCuts []) Try.func89 (by kernel_rfl) (.cons (ok_store_Store_call n) ⟨_, Try.func91, by kernel_rfl⟩ .nil) (CutsOK.list (l := []) (by kernel_rfl) (fun _ h => by cases h)) (fun avs L b R h => ?_)
  rcases bySk_ok h with ⟨l, rfl, rfl, rfl, q0⟩ | q0
  · obtain ⟨x99, l, rfl, q1⟩ := lfD_ok q0
    obtain ⟨x100, l, rfl, q2⟩ := lfD_ok q1
    obtain ⟨x101, l, rfl, q3⟩ := lfD_ok q2
    obtain ⟨x102, l, rfl, q4⟩ := lfD_ok q3
    obtain ⟨x103, l, rfl, q5⟩ := lfD_ok q4
    obtain ⟨x104, l, rfl, q6⟩ := lfD_ok q5
    obtain ⟨x105, l, rfl, q7⟩ := lfD_ok q6
    obtain ⟨x106, l, rfl, q8⟩ := lfD_ok q7
    obtain ⟨x107, l, rfl, q9⟩ := lfD_ok q8
    obtain ⟨x108, l, rfl, q10⟩ := lfD_ok q9
    obtain ⟨rfl, q⟩ := lfE_ok q10
    exact run_subs (k' := fun r => (match r with | .inl r => .ret ((.val (.sint .i64) r.1), [⟨0, 11, .box (.agg (.pr (.mpv 2) (.pr (.agg (.pr (.val (.sint .i64) x101) (.pr (.val (.sint .i64) x102) (.pr (.val (.sint .i64) x103) .un)))) (.pr (.whole 14 4) (.pr (.val .bool r.2.1) (.pr (.whole 16 3) .un))))))⟩, ⟨2, 13, .mp .str (.list (.rcd (.pair (.list .u8) .bool))) x105⟩, ⟨14, 15, .row (.rcd (.pair (.sint .i64) (.pair (.sint .i64) (.pair .str (.list .u8))))) r.2.2.1⟩, ⟨16, 17, .row (.rcd (.pair .str (.pair .str (.sint .i64)))) r.2.2.2⟩, ⟨8, 19, .row .u8 x108⟩], 20) | .inr r => .ret ((.val (.sint .i64) (0 : Int)), [⟨0, 11, .box (.agg (.pr (.mpv 2) (.pr (.agg (.pr (.val (.sint .i64) x101) (.pr (.val (.sint .i64) x102) (.pr (.val (.sint .i64) x103) .un)))) (.pr (.whole 14 4) (.pr (.val .bool r.1) (.pr (.whole 16 3) .un))))))⟩, ⟨2, 13, .mp .str (.list (.rcd (.pair (.list .u8) .bool))) r.2.1⟩, ⟨14, 15, .row (.rcd (.pair (.sint .i64) (.pair (.sint .i64) (.pair .str (.list .u8))))) r.2.2.1⟩, ⟨16, 17, .row (.rcd (.pair .str (.pair .str (.sint .i64)))) r.2.2.2⟩], 18))) q (fun y hy => by rcases y with y | y <;> exact ⟨hy.h⟩) (by kernel_rfl)
  · exact False.elim q0.h
def F_store_Store_Put (n : Nat) (x50 : List UInt8) (x54 : Bool) (x55 : List (List UInt8 × List (List UInt8 × Bool))) (x56 : List (Int × Int × List UInt8 × List UInt8)) (x57 : List (List UInt8 × List UInt8 × Int)) (x58 : List UInt8) : Tree ((Int) × ((Bool) × ((List (List UInt8 × List (List UInt8 × Bool))) × ((List (Int × Int × List UInt8 × List UInt8)) × (List (List UInt8 × List UInt8 × Int)))))) :=
  .sub (F_store_Named n x50) fun y59 =>
  .ite (!y59)
    (.ret ((1 : Int), x54, x55, x56, x57))
    (.ite (Decidable.decide ((65536 : Int) < (Nat.cast (List.length x58) : Int)))
      (.ret ((2 : Int), x54, x55, x56, x57))
      (.sub (F_slices_Clone___byte_byte_ n x58) fun y65 =>
      .alt y65 (fun y66 =>
        .sub (F_store_Store_change n ([112, 117, 116] : List UInt8) x50 x54 x55 x56 x57) fun y97 =>
        .ret (y97.1, y97.2.1, y97.2.2.1, y97.2.2.2.1, y97.2.2.2.2))
        fun y98 =>
        .sub (F_store_Store_change_1 n ([112, 117, 116] : List UInt8) x50 x54 x55 x56 x57 y98) fun y116 =>
        .alt y116 (fun y117 =>
          .ret (y117.1, y117.2.1, x55, y117.2.2.1, y117.2.2.2))
          fun y118 =>
          .ret ((0 : Int), y118.1, y118.2.1, y118.2.2.1, y118.2.2.2)))
def S_store_Store_Put (n : Nat) : Summ := fun avs L b => bySk ⟨[(.ptr 0 0), (.val .str []), (.whole 8 1)], [⟨0, 1, .box (.agg (.pr (.mpv 2) (.pr (.agg (.pr (.val (.sint .i64) (0 : Int)) (.pr (.val (.sint .i64) (0 : Int)) (.pr (.val (.sint .i64) (0 : Int)) .un)))) (.pr (.whole 4 4) (.pr (.val .bool false) (.pr (.whole 6 3) .un))))))⟩, ⟨2, 3, .mp .str (.list (.rcd (.pair (.list .u8) .bool))) []⟩, ⟨4, 5, .row (.rcd (.pair (.sint .i64) (.pair (.sint .i64) (.pair .str (.list .u8))))) []⟩, ⟨6, 7, .row (.rcd (.pair .str (.pair .str (.sint .i64)))) []⟩, ⟨8, 9, .row .u8 []⟩], 10⟩ avs L b (fun l => lfD .str l fun (x50 : List UInt8) l => lfD (.sint .i64) l fun (x51 : Int) l => lfD (.sint .i64) l fun (x52 : Int) l => lfD (.sint .i64) l fun (x53 : Int) l => lfD .bool l fun (x54 : Bool) l => lfD (.list (.rcd (.pair .str (.list (.rcd (.pair (.list .u8) .bool)))))) l fun (x55 : List (List UInt8 × List (List UInt8 × Bool))) l => lfD (.list (.rcd (.pair (.sint .i64) (.pair (.sint .i64) (.pair .str (.list .u8)))))) l fun (x56 : List (Int × Int × List UInt8 × List UInt8)) l => lfD (.list (.rcd (.pair .str (.pair .str (.sint .i64))))) l fun (x57 : List (List UInt8 × List UInt8 × Int)) l => lfD (.list .u8) l fun (x58 : List UInt8) l => lfE l (.sub (F_store_Store_Put n x50 x54 x55 x56 x57 x58) fun r => .ret ((.val (.sint .i64) r.1), [⟨0, 11, .box (.agg (.pr (.mpv 2) (.pr (.agg (.pr (.val (.sint .i64) x51) (.pr (.val (.sint .i64) x52) (.pr (.val (.sint .i64) x53) .un)))) (.pr (.whole 14 4) (.pr (.val .bool r.2.1) (.pr (.whole 16 3) .un))))))⟩, ⟨2, 13, .mp .str (.list (.rcd (.pair (.list .u8) .bool))) r.2.2.1⟩, ⟨14, 15, .row (.rcd (.pair (.sint .i64) (.pair (.sint .i64) (.pair .str (.list .u8))))) r.2.2.2.1⟩, ⟨16, 17, .row (.rcd (.pair .str (.pair .str (.sint .i64)))) r.2.2.2.2⟩, ⟨8, 19, .row .u8 x58⟩], 20))) .fail
theorem ok_store_Store_Put (n : Nat) : SoundF Try.prog 46 (S_store_Store_Put n) := by
  refine fn_sound false (c := codeOf Try.f46) (tab := mkTab [(15, ⟨S_store_Named n, [], [], false⟩), (90, ⟨S_slices_Clone___byte_byte_ n, [], [], false⟩), (89, ⟨orS (S_store_Store_change n) (S_store_Store_change_1 n), [], [], false⟩)]) (cuts := mkCuts []) Try.func46 (by kernel_rfl) (.cons (ok_store_Named n) ⟨_, Try.func15, by kernel_rfl⟩ (.cons (ok_slices_Clone___byte_byte_ n) ⟨_, Try.func90, by kernel_rfl⟩ (.cons (.or (ok_store_Store_change n) (ok_store_Store_change_1 n)) ⟨_, Try.func89, by kernel_rfl⟩ .nil))) (CutsOK.list (l := []) (by kernel_rfl) (fun _ h => by cases h)) (fun avs L b R h => ?_)
  rcases bySk_ok h with ⟨l, rfl, rfl, rfl, q0⟩ | q0
  · obtain ⟨x50, l, rfl, q1⟩ := lfD_ok q0
    obtain ⟨x51, l, rfl, q2⟩ := lfD_ok q1
    obtain ⟨x52, l, rfl, q3⟩ := lfD_ok q2
    obtain ⟨x53, l, rfl, q4⟩ := lfD_ok q3
    obtain ⟨x54, l, rfl, q5⟩ := lfD_ok q4
    obtain ⟨x55, l, rfl, q6⟩ := lfD_ok q5
    obtain ⟨x56, l, rfl, q7⟩ := lfD_ok q6
    obtain ⟨x57, l, rfl, q8⟩ := lfD_ok q7
    obtain ⟨x58, l, rfl, q9⟩ := lfD_ok q8
    obtain ⟨rfl, q⟩ := lfE_ok q9
    exact run_sub q (by kernel_rfl)
  · exact False.elim q0.h
def C_56_0 : CutF → Cut := fun κ => ⟨[0, 11, 12, 13], fun e => match e with | .ex i => bif Nat.beq i 0 then [] else [] | .rt => [] | .nm => [] | .go i => [], κ⟩
def F_slices_Clone___byte_byte__1_raw (n : Nat) (x146 : List UInt8) : Tree (Unit ⊕ (List UInt8)) :=
  .ite (Decidable.decide ((Nat.cast (List.length x146) : Int) = (0 : Int)))
    (.all (fun (p147 : Bool) => True) fun y148 =>
    .ite y148
      (.ret (.inl ()))
      (.get (Hyp.appI 140737488355328 ([] : List UInt8) x146) fun y149 =>
      .ret (.inr y149)))
    (.get (Hyp.appI 140737488355328 ([] : List UInt8) x146) fun y150 =>
    .ret (.inr y150))
def S_slices_Clone___byte_byte__1_raw (n : Nat) : Summ := fun avs L b => bySk ⟨[(.ro false .u8 [])], [], 0⟩ avs L b (fun l => lfC l fun x145 l => lfD (.list .u8) l fun (x146 : List UInt8) l => lfE l (.sub (F_slices_Clone___byte_byte__1_raw n x146) fun r => .alt r (fun r => .ret ((.snil none), [], 0)) (fun r => .ret ((.whole 0 1), [⟨0, 1, .row .u8 r⟩], 2)))) .fail
theorem ok_slices_Clone___byte_byte__1_raw (n : Nat) : SoundF Try.prog 90 (S_slices_Clone___byte_byte__1_raw n) := by
  refine fn_sound false (c := codeOf Try.f90) (tab := mkTab []) (cuts := mkCuts []) Try.func90 (by kernel_rfl) .nil (CutsOK.list (l := []) (by kernel_rfl) (fun _ h => by cases h)) (fun avs L b R h => ?_)
  rcases bySk_ok h with ⟨l, rfl, rfl, rfl, q0⟩ | q0
  · obtain ⟨x145, l, rfl, q1⟩ := lfC_ok q0
    obtain ⟨x146, l, rfl, q2⟩ := lfD_ok q1
    obtain ⟨rfl, q⟩ := lfE_ok q2
    exact run_subs (k' := fun r => (match r with | .inl r => .ret ((.snil none), [], 0) | .inr r => .ret ((.whole 0 1), [⟨0, 1, .row .u8 r⟩], 2))) q (fun y hy => by rcases y with y | y <;> exact ⟨hy.h⟩) (by kernel_rfl)
  · exact False.elim q0.h
def F_slices_Clone___byte_byte__1 (n : Nat) (x146 : List UInt8) : Tree (List UInt8) :=
  .get (Hyp.appI 140737488355328 ([] : List UInt8) x146) fun z =>
  .ret z
def S_slices_Clone___byte_byte__1 (n : Nat) : Summ := fun avs L b => bySk ⟨[(.ro false .u8 [])], [], 0⟩ avs L b (fun l => lfC l fun x145 l => lfD (.list .u8) l fun (x146 : List UInt8) l => lfE l (.sub (F_slices_Clone___byte_byte__1 n x146) fun r => .ret ((.ro false .u8 r), [], 2))) .fail
theorem ok_slices_Clone___byte_byte__1 (n : Nat) : SoundF Try.prog 90 (S_slices_Clone___byte_byte__1 n) := by
  refine SoundF.weak (ok_slices_Clone___byte_byte__1_raw n) (fun avs L b R h => ?_)
  rcases bySk_ok (Tree.Wp.mk h) with ⟨l, rfl, rfl, rfl, q0⟩ | q0
  · obtain ⟨x145, l, rfl, q1⟩ := lfC_ok q0
    obtain ⟨x146, l, rfl, q2⟩ := lfD_ok q1
    obtain ⟨rfl, q⟩ := lfE_ok q2
    exact clone_weak (e := .u8) (s := Ty.sz .u8) (by kernel_rfl) q.h (by kernel_rfl)
  · exact False.elim q0.h
def F_store_copied (n : Nat) (x144 : List UInt8) : Tree (List UInt8) :=
  .sub (F_slices_Clone___byte_byte__1 n x144) fun y151 =>
  .ret y151
def S_store_copied (n : Nat) : Summ := fun avs L b => bySk ⟨[(.agg (.pr (.val (.sint .i64) (0 : Int)) (.pr (.val (.sint .i64) (0 : Int)) (.pr (.val .str []) (.pr (.ro false .u8 []) .un)))))], [], 0⟩ avs L b (fun l => lfD (.sint .i64) l fun (x140 : Int) l => lfD (.sint .i64) l fun (x141 : Int) l => lfD .str l fun (x142 : List UInt8) l => lfC l fun x143 l => lfD (.list .u8) l fun (x144 : List UInt8) l => lfE l (.sub (F_store_copied n x144) fun r => .ret ((.agg (.pr (.val (.sint .i64) x140) (.pr (.val (.sint .i64) x141) (.pr (.val .str x142) (.pr (.ro false .u8 r) .un))))), [], 0))) .fail
theorem ok_store_copied (n : Nat) : SoundF Try.prog 102 (S_store_copied n) := by
  refine fn_sound false (c := codeOf Try.f102) (tab := mkTab [(90, ⟨S_slices_Clone___byte_byte__1 n, [], [], false⟩)]) (cuts := mkCuts []) Try.func102 (by kernel_rfl) (.cons (ok_slices_Clone___byte_byte__1 n) ⟨_, Try.func90, by kernel_rfl⟩ .nil) (CutsOK.list (l := []) (by kernel_rfl) (fun _ h => by cases h)) (fun avs L b R h => ?_)
  rcases bySk_ok h with ⟨l, rfl, rfl, rfl, q0⟩ | q0
  · obtain ⟨x140, l, rfl, q1⟩ := lfD_ok q0
    obtain ⟨x141, l, rfl, q2⟩ := lfD_ok q1
    obtain ⟨x142, l, rfl, q3⟩ := lfD_ok q2
    obtain ⟨x143, l, rfl, q4⟩ := lfC_ok q3
    obtain ⟨x144, l, rfl, q5⟩ := lfD_ok q4
    obtain ⟨rfl, q⟩ := lfE_ok q5
    exact run_sub q (by kernel_rfl)
  · exact False.elim q0.h
def F_store_Store_Script_l0_1 (n : Nat) : Nat → (Int) → (Int) → (Int) → (Int) → (Int) → (Bool) → (List (List UInt8 × List (List UInt8 × Bool))) → (List (Int × Int × List UInt8 × List UInt8)) → (List (List UInt8 × List UInt8 × Int)) → (List (Int × Int × List UInt8 × List UInt8)) → Tree (List (Int × Int × List UInt8 × List UInt8))
  | 0 => fun  x154 x155 x156 x157 x158 x159 x160 x161 x162 x163 => .fail
  | k + 1 => fun x154 x155 x156 x157 x158 x159 x160 x161 x162 x163 =>
      .ite (Decidable.decide (x155 < x154))
        (.get (Hyp.inI (List.length x163) x155) fun y174 =>
        .get (GetElem?.getElem? x163 (0 + y174)) fun y175 =>
        .get (Hyp.Tree.run (F_store_copied n y175.2.2.2)) fun y176 =>
        .get (Hyp.appI 2513169434916 x161 (List.set ([((0 : Int), ((0 : Int), (([] : List UInt8), ([] : List UInt8))))] : List (Int × (Int × ((List UInt8) × (List UInt8))))) 0 (y175.1, (y175.2.1, (y175.2.2.1, y176))))) fun y177 =>
        .sub (F_store_Store_Script_l0_1 n k x154 (Go.IntKind.wrap Go.IntKind.i64 (x155 + (1 : Int))) x156 x157 x158 x159 x160 y177 x162 x163) fun y178 =>
        .ret y178)
        (.ret x161)
def S_store_Store_Script_l0_1 (n k : Nat) : CutF := fun avs L b => bySk ⟨[(.ptr 0 0), (.whole 8 4), (.val (.sint .i64) (0 : Int)), (.val (.sint .i64) (0 : Int))], [⟨0, 1, .box (.agg (.pr (.mpv 2) (.pr (.agg (.pr (.val (.sint .i64) (0 : Int)) (.pr (.val (.sint .i64) (0 : Int)) (.pr (.val (.sint .i64) (0 : Int)) .un)))) (.pr (.whole 4 4) (.pr (.val .bool false) (.pr (.whole 6 3) .un))))))⟩, ⟨2, 3, .mp .str (.list (.rcd (.pair (.list .u8) .bool))) []⟩, ⟨4, 5, .row (.rcd (.pair (.sint .i64) (.pair (.sint .i64) (.pair .str (.list .u8))))) []⟩, ⟨6, 7, .row (.rcd (.pair .str (.pair .str (.sint .i64)))) []⟩, ⟨8, 9, .row (.rcd (.pair (.sint .i64) (.pair (.sint .i64) (.pair .str (.list .u8))))) []⟩], 10⟩ avs L b (fun l => lfD (.sint .i64) l fun (x154 : Int) l => lfD (.sint .i64) l fun (x155 : Int) l => lfD (.sint .i64) l fun (x156 : Int) l => lfD (.sint .i64) l fun (x157 : Int) l => lfD (.sint .i64) l fun (x158 : Int) l => lfD .bool l fun (x159 : Bool) l => lfD (.list (.rcd (.pair .str (.list (.rcd (.pair (.list .u8) .bool)))))) l fun (x160 : List (List UInt8 × List (List UInt8 × Bool))) l => lfD (.list (.rcd (.pair (.sint .i64) (.pair (.sint .i64) (.pair .str (.list .u8)))))) l fun (x161 : List (Int × Int × List UInt8 × List UInt8)) l => lfD (.list (.rcd (.pair .str (.pair .str (.sint .i64))))) l fun (x162 : List (List UInt8 × List UInt8 × Int)) l => lfD (.list (.rcd (.pair (.sint .i64) (.pair (.sint .i64) (.pair .str (.list .u8)))))) l fun (x163 : List (Int × Int × List UInt8 × List UInt8)) l => lfE l (.sub (F_store_Store_Script_l0_1 n k x154 x155 x156 x157 x158 x159 x160 x161 x162 x163) fun r => .ret (.ex 0, [], [⟨0, 11, .box (.agg (.pr (.mpv 2) (.pr (.agg (.pr (.val (.sint .i64) x156) (.pr (.val (.sint .i64) x157) (.pr (.val (.sint .i64) x158) .un)))) (.pr (.whole 14 4) (.pr (.val .bool x159) (.pr (.whole 16 3) .un))))))⟩, ⟨2, 13, .mp .str (.list (.rcd (.pair (.list .u8) .bool))) x160⟩, ⟨14, 15, .row (.rcd (.pair (.sint .i64) (.pair (.sint .i64) (.pair .str (.list .u8))))) r⟩, ⟨16, 17, .row (.rcd (.pair .str (.pair .str (.sint .i64)))) x162⟩, ⟨8, 19, .row (.rcd (.pair (.sint .i64) (.pair (.sint .i64) (.pair .str (.list .u8))))) x163⟩], 20))) .fail
theorem z_store_Store_Script_l0_1 (n : Nat) : ∀ avs L b R, (S_store_Store_Script_l0_1 n 0 avs L b).Wp R → False := by
  intro avs L b R h
  rcases bySk_ok h with ⟨l, rfl, rfl, rfl, q0⟩ | q0
  · obtain ⟨x154, l, rfl, q1⟩ := lfD_ok q0
    obtain ⟨x155, l, rfl, q2⟩ := lfD_ok q1
    obtain ⟨x156, l, rfl, q3⟩ := lfD_ok q2
    obtain ⟨x157, l, rfl, q4⟩ := lfD_ok q3
    obtain ⟨x158, l, rfl, q5⟩ := lfD_ok q4
    obtain ⟨x159, l, rfl, q6⟩ := lfD_ok q5
    obtain ⟨x160, l, rfl, q7⟩ := lfD_ok q6
    obtain ⟨x161, l, rfl, q8⟩ := lfD_ok q7
    obtain ⟨x162, l, rfl, q9⟩ := lfD_ok q8
    obtain ⟨x163, l, rfl, q10⟩ := lfD_ok q9
    obtain ⟨rfl, q⟩ := lfE_ok q10
    exact False.elim q.h
  · exact False.elim q0.h
theorem rd_store_Store_Script_l0_1 (n k : Nat) : Rounds Try.prog (Go.Func.ntmps Try.f56) (bodyOf Try.f56 0) C_56_0 [S_store_Store_Script_l0_1 n k] (S_store_Store_Script_l0_1 n (k + 1)) := by
  intro avs L b R h
  refine ⟨mkTab [(102, ⟨S_store_copied n, [], [], false⟩)], mkCuts [], orCL (S_store_Store_Script_l0_1 n k) [], (.cons (ok_store_copied n) ⟨_, Try.func102, by kernel_rfl⟩ .nil), (CutsOK.list (l := []) (by kernel_rfl) (fun _ h => by cases h)), orCL_mem, ?_⟩
  rcases bySk_ok h with ⟨l, rfl, rfl, rfl, q0⟩ | q0
  · obtain ⟨x154, l, rfl, q1⟩ := lfD_ok q0
    obtain ⟨x155, l, rfl, q2⟩ := lfD_ok q1
    obtain ⟨x156, l, rfl, q3⟩ := lfD_ok q2
    obtain ⟨x157, l, rfl, q4⟩ := lfD_ok q3
    obtain ⟨x158, l, rfl, q5⟩ := lfD_ok q4
    obtain ⟨x159, l, rfl, q6⟩ := lfD_ok q5
    obtain ⟨x160, l, rfl, q7⟩ := lfD_ok q6
    obtain ⟨x161, l, rfl, q8⟩ := lfD_ok q7
    obtain ⟨x162, l, rfl, q9⟩ := lfD_ok q8
    obtain ⟨x163, l, rfl, q10⟩ := lfD_ok q9
    obtain ⟨rfl, q⟩ := lfE_ok q10
    exact run_sub q (by kernel_rfl)
  · exact False.elim q0.h
theorem ok_store_Store_Script_l0_1 (n k : Nat) : SoundC Try.prog (Go.Func.ntmps Try.f56) (.loop (bodyOf Try.f56 0)) (wr (bodyOf Try.f56 0)) (C_56_0 (S_store_Store_Script_l0_1 n k)) :=
  loop_rounds (K := fun k => [S_store_Store_Script_l0_1 n k]) (fun _ => rfl) (by kernel_rfl) (List.forall_mem_cons.2 ⟨z_store_Store_Script_l0_1 n, (fun _ h => by cases h)⟩) (fun k => (List.forall_mem_cons.2 ⟨rd_store_Store_Script_l0_1 n k, (fun _ h => by cases h)⟩)) k _ (.head _)
def F_store_Store_Script_l0 (n : Nat) : Nat → (Int) → (Int) → (Int) → (Int) → (Int) → (Bool) → (List (List UInt8 × List (List UInt8 × Bool))) → (List (List UInt8 × List UInt8 × Int)) → (List (Int × Int × List UInt8 × List UInt8)) → Tree ((List (Int × Int × List UInt8 × List UInt8)) ⊕ Unit)
  | 0 => fun  x129 x130 x131 x132 x133 x134 x135 x136 x137 => .fail
  | k + 1 => fun x129 x130 x131 x132 x133 x134 x135 x136 x137 =>
      .ite (Decidable.decide (x130 < x129))
        (.get (Hyp.inI (List.length x137) x130) fun y180 =>
        .get (GetElem?.getElem? x137 (0 + y180)) fun y181 =>
        .get (Hyp.Tree.run (F_store_copied n y181.2.2.2)) fun y182 =>
        .get (Hyp.appI 2513169434916 ([] : List (Int × (Int × ((List UInt8) × (List UInt8))))) (List.set ([((0 : Int), ((0 : Int), (([] : List UInt8), ([] : List UInt8))))] : List (Int × (Int × ((List UInt8) × (List UInt8))))) 0 (y181.1, (y181.2.1, (y181.2.2.1, y182))))) fun y183 =>
        .sub (F_store_Store_Script_l0_1 n k x129 (Go.IntKind.wrap Go.IntKind.i64 (x130 + (1 : Int))) x131 x132 x133 x134 x135 y183 x136 x137) fun y184 =>
        .ret (.inl y184))
        (.ret (.inr ()))
def S_store_Store_Script_l0 (n k : Nat) : CutF := fun avs L b => bySk ⟨[(.ptr 0 0), (.whole 6 4), (.val (.sint .i64) (0 : Int)), (.val (.sint .i64) (0 : Int))], [⟨0, 1, .box (.agg (.pr (.mpv 2) (.pr (.agg (.pr (.val (.sint .i64) (0 : Int)) (.pr (.val (.sint .i64) (0 : Int)) (.pr (.val (.sint .i64) (0 : Int)) .un)))) (.pr (.snil none) (.pr (.val .bool false) (.pr (.whole 4 3) .un))))))⟩, ⟨2, 3, .mp .str (.list (.rcd (.pair (.list .u8) .bool))) []⟩, ⟨4, 5, .row (.rcd (.pair .str (.pair .str (.sint .i64)))) []⟩, ⟨6, 7, .row (.rcd (.pair (.sint .i64) (.pair (.sint .i64) (.pair .str (.list .u8))))) []⟩], 8⟩ avs L b (fun l => lfD (.sint .i64) l fun (x129 : Int) l => lfD (.sint .i64) l fun (x130 : Int) l => lfD (.sint .i64) l fun (x131 : Int) l => lfD (.sint .i64) l fun (x132 : Int) l => lfD (.sint .i64) l fun (x133 : Int) l => lfD .bool l fun (x134 : Bool) l => lfD (.list (.rcd (.pair .str (.list (.rcd (.pair (.list .u8) .bool)))))) l fun (x135 : List (List UInt8 × List (List UInt8 × Bool))) l => lfD (.list (.rcd (.pair .str (.pair .str (.sint .i64))))) l fun (x136 : List (List UInt8 × List UInt8 × Int)) l => lfD (.list (.rcd (.pair (.sint .i64) (.pair (.sint .i64) (.pair .str (.list .u8)))))) l fun (x137 : List (Int × Int × List UInt8 × List UInt8)) l => lfE l (.sub (F_store_Store_Script_l0 n k x129 x130 x131 x132 x133 x134 x135 x136 x137) fun r => .alt r (fun r => .ret (.ex 0, [], [⟨0, 9, .box (.agg (.pr (.mpv 2) (.pr (.agg (.pr (.val (.sint .i64) x131) (.pr (.val (.sint .i64) x132) (.pr (.val (.sint .i64) x133) .un)))) (.pr (.whole 12 4) (.pr (.val .bool x134) (.pr (.whole 14 3) .un))))))⟩, ⟨2, 11, .mp .str (.list (.rcd (.pair (.list .u8) .bool))) x135⟩, ⟨12, 13, .row (.rcd (.pair (.sint .i64) (.pair (.sint .i64) (.pair .str (.list .u8))))) r⟩, ⟨14, 15, .row (.rcd (.pair .str (.pair .str (.sint .i64)))) x136⟩, ⟨6, 17, .row (.rcd (.pair (.sint .i64) (.pair (.sint .i64) (.pair .str (.list .u8))))) x137⟩], 18)) (fun r => .ret (.ex 0, [], [⟨0, 9, .box (.agg (.pr (.mpv 2) (.pr (.agg (.pr (.val (.sint .i64) x131) (.pr (.val (.sint .i64) x132) (.pr (.val (.sint .i64) x133) .un)))) (.pr (.snil none) (.pr (.val .bool x134) (.pr (.whole 12 3) .un))))))⟩, ⟨2, 11, .mp .str (.list (.rcd (.pair (.list .u8) .bool))) x135⟩, ⟨12, 13, .row (.rcd (.pair .str (.pair .str (.sint .i64)))) x136⟩, ⟨6, 15, .row (.rcd (.pair (.sint .i64) (.pair (.sint .i64) (.pair .str (.list .u8))))) x137⟩], 16)))) .fail
theorem z_store_Store_Script_l0 (n : Nat) : ∀ avs L b R, (S_store_Store_Script_l0 n 0 avs L b).Wp R → False := by
  intro avs L b R h
  rcases bySk_ok h with ⟨l, rfl, rfl, rfl, q0⟩ | q0
  · obtain ⟨x129, l, rfl, q1⟩ := lfD_ok q0
    obtain ⟨x130, l, rfl, q2⟩ := lfD_ok q1
    obtain ⟨x131, l, rfl, q3⟩ := lfD_ok q2
    obtain ⟨x132, l, rfl, q4⟩ := lfD_ok q3
    obtain ⟨x133, l, rfl, q5⟩ := lfD_ok q4
    obtain ⟨x134, l, rfl, q6⟩ := lfD_ok q5
    obtain ⟨x135, l, rfl, q7⟩ := lfD_ok q6
    obtain ⟨x136, l, rfl, q8⟩ := lfD_ok q7
    obtain ⟨x137, l, rfl, q9⟩ := lfD_ok q8
    obtain ⟨rfl, q⟩ := lfE_ok q9
    exact False.elim q.h
  · exact False.elim q0.h
theorem rd_store_Store_Script_l0 (n k : Nat) : Rounds Try.prog (Go.Func.ntmps Try.f56) (bodyOf Try.f56 0) C_56_0 [S_store_Store_Script_l0 n k, S_store_Store_Script_l0_1 n k] (S_store_Store_Script_l0 n (k + 1)) := by
  intro avs L b R h
  refine ⟨mkTab [(102, ⟨S_store_copied n, [], [], false⟩)], mkCuts [], orCL (S_store_Store_Script_l0 n k) [S_store_Store_Script_l0_1 n k], (.cons (ok_store_copied n) ⟨_, Try.func102, by kernel_rfl⟩ .nil), (CutsOK.list (l := []) (by kernel_rfl) (fun _ h => by cases h)), orCL_mem, ?_⟩
  rcases bySk_ok h with ⟨l, rfl, rfl, rfl, q0⟩ | q0
  · obtain ⟨x129, l, rfl, q1⟩ := lfD_ok q0
    obtain ⟨x130, l, rfl, q2⟩ := lfD_ok q1
    obtain ⟨x131, l, rfl, q3⟩ := lfD_ok q2
    obtain ⟨x132, l, rfl, q4⟩ := lfD_ok q3
    obtain ⟨x133, l, rfl, q5⟩ := lfD_ok q4
    obtain ⟨x134, l, rfl, q6⟩ := lfD_ok q5
    obtain ⟨x135, l, rfl, q7⟩ := lfD_ok q6
    obtain ⟨x136, l, rfl, q8⟩ := lfD_ok q7
    obtain ⟨x137, l, rfl, q9⟩ := lfD_ok q8
    obtain ⟨rfl, q⟩ := lfE_ok q9
    exact run_subs (k' := fun r => (match r with | .inl r => .ret (.ex 0, [], [⟨0, 9, .box (.agg (.pr (.mpv 2) (.pr (.agg (.pr (.val (.sint .i64) x131) (.pr (.val (.sint .i64) x132) (.pr (.val (.sint .i64) x133) .un)))) (.pr (.whole 12 4) (.pr (.val .bool x134) (.pr (.whole 14 3) .un))))))⟩, ⟨2, 11, .mp .str (.list (.rcd (.pair (.list .u8) .bool))) x135⟩, ⟨12, 13, .row (.rcd (.pair (.sint .i64) (.pair (.sint .i64) (.pair .str (.list .u8))))) r⟩, ⟨14, 15, .row (.rcd (.pair .str (.pair .str (.sint .i64)))) x136⟩, ⟨6, 17, .row (.rcd (.pair (.sint .i64) (.pair (.sint .i64) (.pair .str (.list .u8))))) x137⟩], 18) | .inr r => .ret (.ex 0, [], [⟨0, 9, .box (.agg (.pr (.mpv 2) (.pr (.agg (.pr (.val (.sint .i64) x131) (.pr (.val (.sint .i64) x132) (.pr (.val (.sint .i64) x133) .un)))) (.pr (.snil none) (.pr (.val .bool x134) (.pr (.whole 12 3) .un))))))⟩, ⟨2, 11, .mp .str (.list (.rcd (.pair (.list .u8) .bool))) x135⟩, ⟨12, 13, .row (.rcd (.pair .str (.pair .str (.sint .i64)))) x136⟩, ⟨6, 15, .row (.rcd (.pair (.sint .i64) (.pair (.sint .i64) (.pair .str (.list .u8))))) x137⟩], 16))) q (fun y hy => by rcases y with y | y <;> exact ⟨hy.h⟩) (by kernel_rfl)
  · exact False.elim q0.h
theorem ok_store_Store_Script_l0 (n k : Nat) : SoundC Try.prog (Go.Func.ntmps Try.f56) (.loop (bodyOf Try.f56 0)) (wr (bodyOf Try.f56 0)) (C_56_0 (S_store_Store_Script_l0 n k)) :=
  loop_rounds (K := fun k => [S_store_Store_Script_l0 n k, S_store_Store_Script_l0_1 n k]) (fun _ => rfl) (by kernel_rfl) (List.forall_mem_cons.2 ⟨z_store_Store_Script_l0 n, (List.forall_mem_cons.2 ⟨z_store_Store_Script_l0_1 n, (fun _ h => by cases h)⟩)⟩) (fun k => (List.forall_mem_cons.2 ⟨rd_store_Store_Script_l0 n k, (List.forall_mem_cons.2 ⟨(rd_store_Store_Script_l0_1 n k).mono (List.forall_mem_cons.2 ⟨(.tail _ (.head _)), (fun _ h => by cases h)⟩), (fun _ h => by cases h)⟩)⟩)) k _ (.head _)
def F_store_Store_Script (n : Nat) (x121 : Int) (x122 : Int) (x123 : Int) (x124 : Bool) (x125 : List (List UInt8 × List (List UInt8 × Bool))) (x127 : List (List UInt8 × List UInt8 × Int)) (x128 : List (Int × Int × List UInt8 × List UInt8)) : Tree ((List (Int × Int × List UInt8 × List UInt8)) ⊕ Unit) :=
  .sub (F_store_Store_Script_l0 n n (Nat.cast (List.length x128) : Int) (0 : Int) x121 x122 x123 x124 x125 x127 x128) fun y185 =>
  .alt y185 (fun y186 =>
    .ret (.inl y186))
    fun y187 =>
    .ret (.inr ())
def S_store_Store_Script (n : Nat) : Summ := fun avs L b => bySk ⟨[(.ptr 0 0), (.whole 8 4)], [⟨0, 1, .box (.agg (.pr (.mpv 2) (.pr (.agg (.pr (.val (.sint .i64) (0 : Int)) (.pr (.val (.sint .i64) (0 : Int)) (.pr (.val (.sint .i64) (0 : Int)) .un)))) (.pr (.whole 4 4) (.pr (.val .bool false) (.pr (.whole 6 3) .un))))))⟩, ⟨2, 3, .mp .str (.list (.rcd (.pair (.list .u8) .bool))) []⟩, ⟨4, 5, .row (.rcd (.pair (.sint .i64) (.pair (.sint .i64) (.pair .str (.list .u8))))) []⟩, ⟨6, 7, .row (.rcd (.pair .str (.pair .str (.sint .i64)))) []⟩, ⟨8, 9, .row (.rcd (.pair (.sint .i64) (.pair (.sint .i64) (.pair .str (.list .u8))))) []⟩], 10⟩ avs L b (fun l => lfD (.sint .i64) l fun (x121 : Int) l => lfD (.sint .i64) l fun (x122 : Int) l => lfD (.sint .i64) l fun (x123 : Int) l => lfD .bool l fun (x124 : Bool) l => lfD (.list (.rcd (.pair .str (.list (.rcd (.pair (.list .u8) .bool)))))) l fun (x125 : List (List UInt8 × List (List UInt8 × Bool))) l => lfD (.list (.rcd (.pair (.sint .i64) (.pair (.sint .i64) (.pair .str (.list .u8)))))) l fun (x126 : List (Int × Int × List UInt8 × List UInt8)) l => lfD (.list (.rcd (.pair .str (.pair .str (.sint .i64))))) l fun (x127 : List (List UInt8 × List UInt8 × Int)) l => lfD (.list (.rcd (.pair (.sint .i64) (.pair (.sint .i64) (.pair .str (.list .u8)))))) l fun (x128 : List (Int × Int × List UInt8 × List UInt8)) l => lfE l (.sub (F_store_Store_Script n x121 x122 x123 x124 x125 x127 x128) fun r => .alt r (fun r => .ret ((.tup .un), [⟨0, 11, .box (.agg (.pr (.mpv 2) (.pr (.agg (.pr (.val (.sint .i64) x121) (.pr (.val (.sint .i64) x122) (.pr (.val (.sint .i64) x123) .un)))) (.pr (.whole 14 4) (.pr (.val .bool x124) (.pr (.whole 16 3) .un))))))⟩, ⟨2, 13, .mp .str (.list (.rcd (.pair (.list .u8) .bool))) x125⟩, ⟨14, 15, .row (.rcd (.pair (.sint .i64) (.pair (.sint .i64) (.pair .str (.list .u8))))) r⟩, ⟨16, 17, .row (.rcd (.pair .str (.pair .str (.sint .i64)))) x127⟩, ⟨18, 19, .row (.rcd (.pair (.sint .i64) (.pair (.sint .i64) (.pair .str (.list .u8))))) x126⟩, ⟨8, 21, .row (.rcd (.pair (.sint .i64) (.pair (.sint .i64) (.pair .str (.list .u8))))) x128⟩], 22)) (fun r => .ret ((.tup .un), [⟨0, 11, .box (.agg (.pr (.mpv 2) (.pr (.agg (.pr (.val (.sint .i64) x121) (.pr (.val (.sint .i64) x122) (.pr (.val (.sint .i64) x123) .un)))) (.pr (.snil none) (.pr (.val .bool x124) (.pr (.whole 14 3) .un))))))⟩, ⟨2, 13, .mp .str (.list (.rcd (.pair (.list .u8) .bool))) x125⟩, ⟨14, 15, .row (.rcd (.pair .str (.pair .str (.sint .i64)))) x127⟩, ⟨16, 17, .row (.rcd (.pair (.sint .i64) (.pair (.sint .i64) (.pair .str (.list .u8))))) x126⟩, ⟨8, 19, .row (.rcd (.pair (.sint .i64) (.pair (.sint .i64) (.pair .str (.list .u8))))) x128⟩], 20)))) .fail
theorem ok_store_Store_Script (n : Nat) : SoundF Try.prog 56 (S_store_Store_Script n) := by
  refine fn_sound false (c := codeOf Try.f56) (tab := mkTab []) (cuts := mkCuts [(0, C_56_0 (S_store_Store_Script_l0 n n))]) Try.func56 (by kernel_rfl) .nil (CutsOK.list (l := [(0, .lp (bodyOf Try.f56 0))]) (by kernel_rfl) (LoopsOK.all ⟨.inr ⟨_, rfl, ok_store_Store_Script_l0 n n⟩, trivial⟩)) (fun avs L b R h => ?_)
  rcases bySk_ok h with ⟨l, rfl, rfl, rfl, q0⟩ | q0
  · obtain ⟨x121, l, rfl, q1⟩ := lfD_ok q0
    obtain ⟨x122, l, rfl, q2⟩ := lfD_ok q1
    obtain ⟨x123, l, rfl, q3⟩ := lfD_ok q2
    obtain ⟨x124, l, rfl, q4⟩ := lfD_ok q3
    obtain ⟨x125, l, rfl, q5⟩ := lfD_ok q4
    obtain ⟨x126, l, rfl, q6⟩ := lfD_ok q5
    obtain ⟨x127, l, rfl, q7⟩ := lfD_ok q6
    obtain ⟨x128, l, rfl, q8⟩ := lfD_ok q7
    obtain ⟨rfl, q⟩ := lfE_ok q8
    exact run_subs (k' := fun r => (match r with | .inl r => .ret ((.tup .un), [⟨0, 11, .box (.agg (.pr (.mpv 2) (.pr (.agg (.pr (.val (.sint .i64) x121) (.pr (.val (.sint .i64) x122) (.pr (.val (.sint .i64) x123) .un)))) (.pr (.whole 14 4) (.pr (.val .bool x124) (.pr (.whole 16 3) .un))))))⟩, ⟨2, 13, .mp .str (.list (.rcd (.pair (.list .u8) .bool))) x125⟩, ⟨14, 15, .row (.rcd (.pair (.sint .i64) (.pair (.sint .i64) (.pair .str (.list .u8))))) r⟩, ⟨16, 17, .row (.rcd (.pair .str (.pair .str (.sint .i64)))) x127⟩, ⟨18, 19, .row (.rcd (.pair (.sint .i64) (.pair (.sint .i64) (.pair .str (.list .u8))))) x126⟩, ⟨8, 21, .row (.rcd (.pair (.sint .i64) (.pair (.sint .i64) (.pair .str (.list .u8))))) x128⟩], 22) | .inr r => .ret ((.tup .un), [⟨0, 11, .box (.agg (.pr (.mpv 2) (.pr (.agg (.pr (.val (.sint .i64) x121) (.pr (.val (.sint .i64) x122) (.pr (.val (.sint .i64) x123) .un)))) (.pr (.snil none) (.pr (.val .bool x124) (.pr (.whole 14 3) .un))))))⟩, ⟨2, 13, .mp .str (.list (.rcd (.pair (.list .u8) .bool))) x125⟩, ⟨14, 15, .row (.rcd (.pair .str (.pair .str (.sint .i64)))) x127⟩, ⟨16, 17, .row (.rcd (.pair (.sint .i64) (.pair (.sint .i64) (.pair .str (.list .u8))))) x126⟩, ⟨8, 19, .row (.rcd (.pair (.sint .i64) (.pair (.sint .i64) (.pair .str (.list .u8))))) x128⟩], 20))) q (fun y hy => by rcases y with y | y <;> exact ⟨hy.h⟩) (by kernel_rfl)
  · exact False.elim q0.h
def F_store_Store_stood (n : Nat) (x201 : List UInt8) (x202 : Int) (x207 : List (List UInt8 × List (List UInt8 × Bool))) : Tree (Unit ⊕ ((List UInt8) × Bool)) :=
  .ite ((Decidable.decide (x202 < (0 : Int))) || (Decidable.decide ((Nat.cast (List.length (Hyp.mgetD Hyp.Ty.str (Hyp.Ty.list (Hyp.Ty.rcd (Hyp.Ty.pair (Hyp.Ty.list Hyp.Ty.u8) Hyp.Ty.bool))) x207 x201 ([] : List ((List UInt8) × Bool)))) : Int) ≤ x202)))
    (.ret (.inl ()))
    (.get (Hyp.getI (Hyp.mgetD Hyp.Ty.str (Hyp.Ty.list (Hyp.Ty.rcd (Hyp.Ty.pair (Hyp.Ty.list Hyp.Ty.u8) Hyp.Ty.bool))) x207 x201 ([] : List ((List UInt8) × Bool))) (Go.IntKind.wrap Go.IntKind.i64 ((Go.IntKind.wrap Go.IntKind.i64 ((Nat.cast (List.length (Hyp.mgetD Hyp.Ty.str (Hyp.Ty.list (Hyp.Ty.rcd (Hyp.Ty.pair (Hyp.Ty.list Hyp.Ty.u8) Hyp.Ty.bool))) x207 x201 ([] : List ((List UInt8) × Bool)))) : Int) - (1 : Int))) - x202))) fun y210 =>
    .ret (.inr (y210.1, y210.2)))
def S_store_Store_stood (n : Nat) : Summ := fun avs L b => bySk ⟨[(.ptr 0 0), (.val .str []), (.val (.sint .i64) (0 : Int))], [⟨0, 1, .box (.agg (.pr (.mpv 2) (.pr (.agg (.pr (.val (.sint .i64) (0 : Int)) (.pr (.val (.sint .i64) (0 : Int)) (.pr (.val (.sint .i64) (0 : Int)) .un)))) (.pr (.whole 4 4) (.pr (.val .bool false) (.pr (.whole 6 3) .un))))))⟩, ⟨2, 3, .mp .str (.list (.rcd (.pair (.list .u8) .bool))) []⟩, ⟨4, 5, .row (.rcd (.pair (.sint .i64) (.pair (.sint .i64) (.pair .str (.list .u8))))) []⟩, ⟨6, 7, .row (.rcd (.pair .str (.pair .str (.sint .i64)))) []⟩], 8⟩ avs L b (fun l => lfD .str l fun (x201 : List UInt8) l => lfD (.sint .i64) l fun (x202 : Int) l => lfD (.sint .i64) l fun (x203 : Int) l => lfD (.sint .i64) l fun (x204 : Int) l => lfD (.sint .i64) l fun (x205 : Int) l => lfD .bool l fun (x206 : Bool) l => lfD (.list (.rcd (.pair .str (.list (.rcd (.pair (.list .u8) .bool)))))) l fun (x207 : List (List UInt8 × List (List UInt8 × Bool))) l => lfD (.list (.rcd (.pair (.sint .i64) (.pair (.sint .i64) (.pair .str (.list .u8)))))) l fun (x208 : List (Int × Int × List UInt8 × List UInt8)) l => lfD (.list (.rcd (.pair .str (.pair .str (.sint .i64))))) l fun (x209 : List (List UInt8 × List UInt8 × Int)) l => lfE l (.sub (F_store_Store_stood n x201 x202 x207) fun r => .alt r (fun r => .ret ((.agg (.pr (.whole 8 1) (.pr (.val .bool false) .un))), [⟨8, 9, .row .u8 ([] : List UInt8)⟩, ⟨0, 11, .box (.agg (.pr (.mpv 2) (.pr (.agg (.pr (.val (.sint .i64) x203) (.pr (.val (.sint .i64) x204) (.pr (.val (.sint .i64) x205) .un)))) (.pr (.whole 14 4) (.pr (.val .bool x206) (.pr (.whole 16 3) .un))))))⟩, ⟨2, 13, .mp .str (.list (.rcd (.pair (.list .u8) .bool))) x207⟩, ⟨14, 15, .row (.rcd (.pair (.sint .i64) (.pair (.sint .i64) (.pair .str (.list .u8))))) x208⟩, ⟨16, 17, .row (.rcd (.pair .str (.pair .str (.sint .i64)))) x209⟩], 18)) (fun r => .ret ((.agg (.pr (.ro false .u8 r.1) (.pr (.val .bool r.2) .un))), [⟨0, 9, .box (.agg (.pr (.mpv 2) (.pr (.agg (.pr (.val (.sint .i64) x203) (.pr (.val (.sint .i64) x204) (.pr (.val (.sint .i64) x205) .un)))) (.pr (.whole 12 4) (.pr (.val .bool x206) (.pr (.whole 14 3) .un))))))⟩, ⟨2, 11, .mp .str (.list (.rcd (.pair (.list .u8) .bool))) x207⟩, ⟨12, 13, .row (.rcd (.pair (.sint .i64) (.pair (.sint .i64) (.pair .str (.list .u8))))) x208⟩, ⟨14, 15, .row (.rcd (.pair .str (.pair .str (.sint .i64)))) x209⟩], 16)))) .fail
theorem ok_store_Store_stood (n : Nat) : SoundF Try.prog 92 (S_store_Store_stood n) := by
  refine fn_sound false (c := codeOf Try.f92) (tab := mkTab []) (cuts := mkCuts []) Try.func92 (by kernel_rfl) .nil (CutsOK.list (l := []) (by kernel_rfl) (fun _ h => by cases h)) (fun avs L b R h => ?_)
  rcases bySk_ok h with ⟨l, rfl, rfl, rfl, q0⟩ | q0
  · obtain ⟨x201, l, rfl, q1⟩ := lfD_ok q0
    obtain ⟨x202, l, rfl, q2⟩ := lfD_ok q1
    obtain ⟨x203, l, rfl, q3⟩ := lfD_ok q2
    obtain ⟨x204, l, rfl, q4⟩ := lfD_ok q3
    obtain ⟨x205, l, rfl, q5⟩ := lfD_ok q4
    obtain ⟨x206, l, rfl, q6⟩ := lfD_ok q5
    obtain ⟨x207, l, rfl, q7⟩ := lfD_ok q6
    obtain ⟨x208, l, rfl, q8⟩ := lfD_ok q7
    obtain ⟨x209, l, rfl, q9⟩ := lfD_ok q8
    obtain ⟨rfl, q⟩ := lfE_ok q9
    exact run_subs (k' := fun r => (match r with | .inl r => .ret ((.agg (.pr (.whole 8 1) (.pr (.val .bool false) .un))), [⟨8, 9, .row .u8 ([] : List UInt8)⟩, ⟨0, 11, .box (.agg (.pr (.mpv 2) (.pr (.agg (.pr (.val (.sint .i64) x203) (.pr (.val (.sint .i64) x204) (.pr (.val (.sint .i64) x205) .un)))) (.pr (.whole 14 4) (.pr (.val .bool x206) (.pr (.whole 16 3) .un))))))⟩, ⟨2, 13, .mp .str (.list (.rcd (.pair (.list .u8) .bool))) x207⟩, ⟨14, 15, .row (.rcd (.pair (.sint .i64) (.pair (.sint .i64) (.pair .str (.list .u8))))) x208⟩, ⟨16, 17, .row (.rcd (.pair .str (.pair .str (.sint .i64)))) x209⟩], 18) | .inr r => .ret ((.agg (.pr (.ro false .u8 r.1) (.pr (.val .bool r.2) .un))), [⟨0, 9, .box (.agg (.pr (.mpv 2) (.pr (.agg (.pr (.val (.sint .i64) x203) (.pr (.val (.sint .i64) x204) (.pr (.val (.sint .i64) x205) .un)))) (.pr (.whole 12 4) (.pr (.val .bool x206) (.pr (.whole 14 3) .un))))))⟩, ⟨2, 11, .mp .str (.list (.rcd (.pair (.list .u8) .bool))) x207⟩, ⟨12, 13, .row (.rcd (.pair (.sint .i64) (.pair (.sint .i64) (.pair .str (.list .u8))))) x208⟩, ⟨14, 15, .row (.rcd (.pair .str (.pair .str (.sint .i64)))) x209⟩], 16))) q (fun y hy => by rcases y with y | y <;> exact ⟨hy.h⟩) (by kernel_rfl)
  · exact False.elim q0.h
def F_store_Store_Get (n : Nat) (x190 : List UInt8) (x194 : Bool) (x195 : List (List UInt8 × List (List UInt8 × Bool))) (x196 : List (Int × Int × List UInt8 × List UInt8)) (x197 : List (List UInt8 × List UInt8 × Int)) : Tree (((Int) × ((Bool) × ((List (Int × Int × List UInt8 × List UInt8)) × (List (List UInt8 × List UInt8 × Int))))) ⊕ (((List UInt8) × ((Bool) × ((List (Int × Int × List UInt8 × List UInt8)) × (List (List UInt8 × List UInt8 × Int))))) ⊕ ((List UInt8) × ((Bool) × ((List (Int × Int × List UInt8 × List UInt8)) × (List (List UInt8 × List UInt8 × Int))))))) :=
  .sub (F_store_Named n x190) fun y198 =>
  .ite (!y198)
    (.ret (.inl ((1 : Int), x194, x196, x197)))
    (.sub (F_store_Store_call n ([103, 101, 116] : List UInt8) x190 (0 : Int) x194 x196 x197) fun y199 =>
    .alt y199 (fun y200 =>
      .ite (!(Decidable.decide (y200.1 = (0 : Int))))
        (.ret (.inl (y200.1, y200.2.1, x196, y200.2.2)))
        (.sub (F_store_Store_stood n x190 (0 : Int) x195) fun y211 =>
        .alt y211 (fun y212 =>
          .ite false
            (.ret (.inl ((12 : Int), y200.2.1, x196, y200.2.2)))
            (.ite false
              (.ret (.inl ((11 : Int), y200.2.1, x196, y200.2.2)))
              (.ite false
                (.sub (F_store_Store_stood n x190 (0 : Int) x195) fun y213 =>
                .alt y213 (fun y214 =>
                  .ite true
                    (.ret (.inl ((11 : Int), y200.2.1, x196, y200.2.2)))
                    (.ite false
                      (.ret (.inl ((13 : Int), y200.2.1, x196, y200.2.2)))
                      (.sub (F_slices_Clone___byte_byte_ n ([] : List UInt8)) fun y215 =>
                      .alt y215 (fun y216 =>
                        .ret (.inl ((0 : Int), y200.2.1, x196, y200.2.2)))
                        fun y217 =>
                        .ret (.inr (.inl (y217, y200.2.1, x196, y200.2.2))))))
                  fun y218 =>
                  .ite (!y218.2)
                    (.ret (.inl ((11 : Int), y200.2.1, x196, y200.2.2)))
                    (.ite (Decidable.decide ((65536 : Int) < (Nat.cast (List.length y218.1) : Int)))
                      (.ret (.inl ((13 : Int), y200.2.1, x196, y200.2.2)))
                      (.sub (F_slices_Clone___byte_byte__1 n y218.1) fun y219 =>
                      .ret (.inr (.inr (y219, y200.2.1, x196, y200.2.2))))))
                (.ite false
                  (.sub (F_store_Store_stood n ([] : List UInt8) (0 : Int) x195) fun y220 =>
                  .alt y220 (fun y221 =>
                    .ite true
                      (.ret (.inl ((11 : Int), y200.2.1, x196, y200.2.2)))
                      (.ite false
                        (.ret (.inl ((13 : Int), y200.2.1, x196, y200.2.2)))
                        (.sub (F_slices_Clone___byte_byte_ n ([] : List UInt8)) fun y222 =>
                        .alt y222 (fun y223 =>
                          .ret (.inl ((0 : Int), y200.2.1, x196, y200.2.2)))
                          fun y224 =>
                          .ret (.inr (.inl (y224, y200.2.1, x196, y200.2.2))))))
                    fun y225 =>
                    .ite (!y225.2)
                      (.ret (.inl ((11 : Int), y200.2.1, x196, y200.2.2)))
                      (.ite (Decidable.decide ((65536 : Int) < (Nat.cast (List.length y225.1) : Int)))
                        (.ret (.inl ((13 : Int), y200.2.1, x196, y200.2.2)))
                        (.sub (F_slices_Clone___byte_byte__1 n y225.1) fun y226 =>
                        .ret (.inr (.inr (y226, y200.2.1, x196, y200.2.2))))))
                  (.ite false
                    (.ite false
                      (.ret (.inl ((13 : Int), y200.2.1, x196, y200.2.2)))
                      (.sub (F_slices_Clone___byte_byte_ n ([] : List UInt8)) fun y227 =>
                      .alt y227 (fun y228 =>
                        .ret (.inl ((0 : Int), y200.2.1, x196, y200.2.2)))
                        fun y229 =>
                        .ret (.inr (.inl (y229, y200.2.1, x196, y200.2.2)))))
                    (.ite true
                      (.ret (.inl ((11 : Int), y200.2.1, x196, y200.2.2)))
                      (.ite false
                        (.ret (.inl ((13 : Int), y200.2.1, x196, y200.2.2)))
                        (.sub (F_slices_Clone___byte_byte_ n ([] : List UInt8)) fun y230 =>
                        .alt y230 (fun y231 =>
                          .ret (.inl ((0 : Int), y200.2.1, x196, y200.2.2)))
                          fun y232 =>
                          .ret (.inr (.inl (y232, y200.2.1, x196, y200.2.2)))))))))))
          fun y233 =>
          .ite false
            (.ret (.inl ((12 : Int), y200.2.1, x196, y200.2.2)))
            (.ite false
              (.ret (.inl ((11 : Int), y200.2.1, x196, y200.2.2)))
              (.ite false
                (.sub (F_store_Store_stood n x190 (0 : Int) x195) fun y234 =>
                .alt y234 (fun y235 =>
                  .ite true
                    (.ret (.inl ((11 : Int), y200.2.1, x196, y200.2.2)))
                    (.ite false
                      (.ret (.inl ((13 : Int), y200.2.1, x196, y200.2.2)))
                      (.sub (F_slices_Clone___byte_byte_ n ([] : List UInt8)) fun y236 =>
                      .alt y236 (fun y237 =>
                        .ret (.inl ((0 : Int), y200.2.1, x196, y200.2.2)))
                        fun y238 =>
                        .ret (.inr (.inl (y238, y200.2.1, x196, y200.2.2))))))
                  fun y239 =>
                  .ite (!y239.2)
                    (.ret (.inl ((11 : Int), y200.2.1, x196, y200.2.2)))
                    (.ite (Decidable.decide ((65536 : Int) < (Nat.cast (List.length y239.1) : Int)))
                      (.ret (.inl ((13 : Int), y200.2.1, x196, y200.2.2)))
                      (.sub (F_slices_Clone___byte_byte__1 n y239.1) fun y240 =>
                      .ret (.inr (.inr (y240, y200.2.1, x196, y200.2.2))))))
                (.ite false
                  (.sub (F_store_Store_stood n ([] : List UInt8) (0 : Int) x195) fun y241 =>
                  .alt y241 (fun y242 =>
                    .ite true
                      (.ret (.inl ((11 : Int), y200.2.1, x196, y200.2.2)))
                      (.ite false
                        (.ret (.inl ((13 : Int), y200.2.1, x196, y200.2.2)))
                        (.sub (F_slices_Clone___byte_byte_ n ([] : List UInt8)) fun y243 =>
                        .alt y243 (fun y244 =>
                          .ret (.inl ((0 : Int), y200.2.1, x196, y200.2.2)))
                          fun y245 =>
                          .ret (.inr (.inl (y245, y200.2.1, x196, y200.2.2))))))
                    fun y246 =>
                    .ite (!y246.2)
                      (.ret (.inl ((11 : Int), y200.2.1, x196, y200.2.2)))
                      (.ite (Decidable.decide ((65536 : Int) < (Nat.cast (List.length y246.1) : Int)))
                        (.ret (.inl ((13 : Int), y200.2.1, x196, y200.2.2)))
                        (.sub (F_slices_Clone___byte_byte__1 n y246.1) fun y247 =>
                        .ret (.inr (.inr (y247, y200.2.1, x196, y200.2.2))))))
                  (.ite false
                    (.ite false
                      (.ret (.inl ((13 : Int), y200.2.1, x196, y200.2.2)))
                      (.sub (F_slices_Clone___byte_byte_ n ([] : List UInt8)) fun y248 =>
                      .alt y248 (fun y249 =>
                        .ret (.inl ((0 : Int), y200.2.1, x196, y200.2.2)))
                        fun y250 =>
                        .ret (.inr (.inl (y250, y200.2.1, x196, y200.2.2)))))
                    (.ite (!y233.2)
                      (.ret (.inl ((11 : Int), y200.2.1, x196, y200.2.2)))
                      (.ite (Decidable.decide ((65536 : Int) < (Nat.cast (List.length y233.1) : Int)))
                        (.ret (.inl ((13 : Int), y200.2.1, x196, y200.2.2)))
                        (.sub (F_slices_Clone___byte_byte__1 n y233.1) fun y251 =>
                        .ret (.inr (.inr (y251, y200.2.1, x196, y200.2.2))))))))))))
      fun y252 =>
      .ite (!(Decidable.decide (y252.2.2.2.2.1 = (0 : Int))))
        (.ret (.inl (y252.2.2.2.2.1, y252.2.2.2.2.2.1, y252.2.2.2.2.2.2.1, y252.2.2.2.2.2.2.2)))
        (.sub (F_store_Store_stood n x190 (0 : Int) x195) fun y253 =>
        .alt y253 (fun y254 =>
          .ite (Decidable.decide (y252.1 = (1 : Int)))
            (.ret (.inl ((12 : Int), y252.2.2.2.2.2.1, y252.2.2.2.2.2.2.1, y252.2.2.2.2.2.2.2)))
            (.ite (Decidable.decide (y252.1 = (2 : Int)))
              (.ret (.inl ((11 : Int), y252.2.2.2.2.2.1, y252.2.2.2.2.2.2.1, y252.2.2.2.2.2.2.2)))
              (.ite (Decidable.decide (y252.1 = (3 : Int)))
                (.sub (F_store_Store_stood n x190 y252.2.1 x195) fun y255 =>
                .alt y255 (fun y256 =>
                  .ite true
                    (.ret (.inl ((11 : Int), y252.2.2.2.2.2.1, y252.2.2.2.2.2.2.1, y252.2.2.2.2.2.2.2)))
                    (.ite false
                      (.ret (.inl ((13 : Int), y252.2.2.2.2.2.1, y252.2.2.2.2.2.2.1, y252.2.2.2.2.2.2.2)))
                      (.sub (F_slices_Clone___byte_byte_ n ([] : List UInt8)) fun y257 =>
                      .alt y257 (fun y258 =>
                        .ret (.inl ((0 : Int), y252.2.2.2.2.2.1, y252.2.2.2.2.2.2.1, y252.2.2.2.2.2.2.2)))
                        fun y259 =>
                        .ret (.inr (.inl (y259, y252.2.2.2.2.2.1, y252.2.2.2.2.2.2.1, y252.2.2.2.2.2.2.2))))))
                  fun y260 =>
                  .ite (!y260.2)
                    (.ret (.inl ((11 : Int), y252.2.2.2.2.2.1, y252.2.2.2.2.2.2.1, y252.2.2.2.2.2.2.2)))
                    (.ite (Decidable.decide ((65536 : Int) < (Nat.cast (List.length y260.1) : Int)))
                      (.ret (.inl ((13 : Int), y252.2.2.2.2.2.1, y252.2.2.2.2.2.2.1, y252.2.2.2.2.2.2.2)))
                      (.sub (F_slices_Clone___byte_byte__1 n y260.1) fun y261 =>
                      .ret (.inr (.inr (y261, y252.2.2.2.2.2.1, y252.2.2.2.2.2.2.1, y252.2.2.2.2.2.2.2))))))
                (.ite (Decidable.decide (y252.1 = (4 : Int)))
                  (.sub (F_store_Store_stood n y252.2.2.1 (0 : Int) x195) fun y262 =>
                  .alt y262 (fun y263 =>
                    .ite true
                      (.ret (.inl ((11 : Int), y252.2.2.2.2.2.1, y252.2.2.2.2.2.2.1, y252.2.2.2.2.2.2.2)))
                      (.ite false
                        (.ret (.inl ((13 : Int), y252.2.2.2.2.2.1, y252.2.2.2.2.2.2.1, y252.2.2.2.2.2.2.2)))
                        (.sub (F_slices_Clone___byte_byte_ n ([] : List UInt8)) fun y264 =>
                        .alt y264 (fun y265 =>
                          .ret (.inl ((0 : Int), y252.2.2.2.2.2.1, y252.2.2.2.2.2.2.1, y252.2.2.2.2.2.2.2)))
                          fun y266 =>
                          .ret (.inr (.inl (y266, y252.2.2.2.2.2.1, y252.2.2.2.2.2.2.1, y252.2.2.2.2.2.2.2))))))
                    fun y267 =>
                    .ite (!y267.2)
                      (.ret (.inl ((11 : Int), y252.2.2.2.2.2.1, y252.2.2.2.2.2.2.1, y252.2.2.2.2.2.2.2)))
                      (.ite (Decidable.decide ((65536 : Int) < (Nat.cast (List.length y267.1) : Int)))
                        (.ret (.inl ((13 : Int), y252.2.2.2.2.2.1, y252.2.2.2.2.2.2.1, y252.2.2.2.2.2.2.2)))
                        (.sub (F_slices_Clone___byte_byte__1 n y267.1) fun y268 =>
                        .ret (.inr (.inr (y268, y252.2.2.2.2.2.1, y252.2.2.2.2.2.2.1, y252.2.2.2.2.2.2.2))))))
                  (.ite (Decidable.decide (y252.1 = (5 : Int)))
                    (.ite (Decidable.decide ((65536 : Int) < (Nat.cast (List.length y252.2.2.2.1) : Int)))
                      (.ret (.inl ((13 : Int), y252.2.2.2.2.2.1, y252.2.2.2.2.2.2.1, y252.2.2.2.2.2.2.2)))
                      (.sub (F_slices_Clone___byte_byte__1 n y252.2.2.2.1) fun y269 =>
                      .ret (.inr (.inr (y269, y252.2.2.2.2.2.1, y252.2.2.2.2.2.2.1, y252.2.2.2.2.2.2.2)))))
                    (.ite true
                      (.ret (.inl ((11 : Int), y252.2.2.2.2.2.1, y252.2.2.2.2.2.2.1, y252.2.2.2.2.2.2.2)))
                      (.ite false
                        (.ret (.inl ((13 : Int), y252.2.2.2.2.2.1, y252.2.2.2.2.2.2.1, y252.2.2.2.2.2.2.2)))
                        (.sub (F_slices_Clone___byte_byte_ n ([] : List UInt8)) fun y270 =>
                        .alt y270 (fun y271 =>
                          .ret (.inl ((0 : Int), y252.2.2.2.2.2.1, y252.2.2.2.2.2.2.1, y252.2.2.2.2.2.2.2)))
                          fun y272 =>
                          .ret (.inr (.inl (y272, y252.2.2.2.2.2.1, y252.2.2.2.2.2.2.1, y252.2.2.2.2.2.2.2)))))))))))
          fun y273 =>
          .ite (Decidable.decide (y252.1 = (1 : Int)))
            (.ret (.inl ((12 : Int), y252.2.2.2.2.2.1, y252.2.2.2.2.2.2.1, y252.2.2.2.2.2.2.2)))
            (.ite (Decidable.decide (y252.1 = (2 : Int)))
              (.ret (.inl ((11 : Int), y252.2.2.2.2.2.1, y252.2.2.2.2.2.2.1, y252.2.2.2.2.2.2.2)))
              (.ite (Decidable.decide (y252.1 = (3 : Int)))
                (.sub (F_store_Store_stood n x190 y252.2.1 x195) fun y274 =>
                .alt y274 (fun y275 =>
                  .ite true
                    (.ret (.inl ((11 : Int), y252.2.2.2.2.2.1, y252.2.2.2.2.2.2.1, y252.2.2.2.2.2.2.2)))
                    (.ite false
                      (.ret (.inl ((13 : Int), y252.2.2.2.2.2.1, y252.2.2.2.2.2.2.1, y252.2.2.2.2.2.2.2)))
                      (.sub (F_slices_Clone___byte_byte_ n ([] : List UInt8)) fun y276 =>
                      .alt y276 (fun y277 =>
                        .ret (.inl ((0 : Int), y252.2.2.2.2.2.1, y252.2.2.2.2.2.2.1, y252.2.2.2.2.2.2.2)))
                        fun y278 =>
                        .ret (.inr (.inl (y278, y252.2.2.2.2.2.1, y252.2.2.2.2.2.2.1, y252.2.2.2.2.2.2.2))))))
                  fun y279 =>
                  .ite (!y279.2)
                    (.ret (.inl ((11 : Int), y252.2.2.2.2.2.1, y252.2.2.2.2.2.2.1, y252.2.2.2.2.2.2.2)))
                    (.ite (Decidable.decide ((65536 : Int) < (Nat.cast (List.length y279.1) : Int)))
                      (.ret (.inl ((13 : Int), y252.2.2.2.2.2.1, y252.2.2.2.2.2.2.1, y252.2.2.2.2.2.2.2)))
                      (.sub (F_slices_Clone___byte_byte__1 n y279.1) fun y280 =>
                      .ret (.inr (.inr (y280, y252.2.2.2.2.2.1, y252.2.2.2.2.2.2.1, y252.2.2.2.2.2.2.2))))))
                (.ite (Decidable.decide (y252.1 = (4 : Int)))
                  (.sub (F_store_Store_stood n y252.2.2.1 (0 : Int) x195) fun y281 =>
                  .alt y281 (fun y282 =>
                    .ite true
                      (.ret (.inl ((11 : Int), y252.2.2.2.2.2.1, y252.2.2.2.2.2.2.1, y252.2.2.2.2.2.2.2)))
                      (.ite false
                        (.ret (.inl ((13 : Int), y252.2.2.2.2.2.1, y252.2.2.2.2.2.2.1, y252.2.2.2.2.2.2.2)))
                        (.sub (F_slices_Clone___byte_byte_ n ([] : List UInt8)) fun y283 =>
                        .alt y283 (fun y284 =>
                          .ret (.inl ((0 : Int), y252.2.2.2.2.2.1, y252.2.2.2.2.2.2.1, y252.2.2.2.2.2.2.2)))
                          fun y285 =>
                          .ret (.inr (.inl (y285, y252.2.2.2.2.2.1, y252.2.2.2.2.2.2.1, y252.2.2.2.2.2.2.2))))))
                    fun y286 =>
                    .ite (!y286.2)
                      (.ret (.inl ((11 : Int), y252.2.2.2.2.2.1, y252.2.2.2.2.2.2.1, y252.2.2.2.2.2.2.2)))
                      (.ite (Decidable.decide ((65536 : Int) < (Nat.cast (List.length y286.1) : Int)))
                        (.ret (.inl ((13 : Int), y252.2.2.2.2.2.1, y252.2.2.2.2.2.2.1, y252.2.2.2.2.2.2.2)))
                        (.sub (F_slices_Clone___byte_byte__1 n y286.1) fun y287 =>
                        .ret (.inr (.inr (y287, y252.2.2.2.2.2.1, y252.2.2.2.2.2.2.1, y252.2.2.2.2.2.2.2))))))
                  (.ite (Decidable.decide (y252.1 = (5 : Int)))
                    (.ite (Decidable.decide ((65536 : Int) < (Nat.cast (List.length y252.2.2.2.1) : Int)))
                      (.ret (.inl ((13 : Int), y252.2.2.2.2.2.1, y252.2.2.2.2.2.2.1, y252.2.2.2.2.2.2.2)))
                      (.sub (F_slices_Clone___byte_byte__1 n y252.2.2.2.1) fun y288 =>
                      .ret (.inr (.inr (y288, y252.2.2.2.2.2.1, y252.2.2.2.2.2.2.1, y252.2.2.2.2.2.2.2)))))
                    (.ite (!y273.2)
                      (.ret (.inl ((11 : Int), y252.2.2.2.2.2.1, y252.2.2.2.2.2.2.1, y252.2.2.2.2.2.2.2)))
                      (.ite (Decidable.decide ((65536 : Int) < (Nat.cast (List.length y273.1) : Int)))
                        (.ret (.inl ((13 : Int), y252.2.2.2.2.2.1, y252.2.2.2.2.2.2.1, y252.2.2.2.2.2.2.2)))
                        (.sub (F_slices_Clone___byte_byte__1 n y273.1) fun y289 =>
                        .ret (.inr (.inr (y289, y252.2.2.2.2.2.1, y252.2.2.2.2.2.2.1, y252.2.2.2.2.2.2.2))))))))))))
def S_store_Store_Get (n : Nat) : Summ := fun avs L b => bySk ⟨[(.ptr 0 0), (.val .str [])], [⟨0, 1, .box (.agg (.pr (.mpv 2) (.pr (.agg (.pr (.val (.sint .i64) (0 : Int)) (.pr (.val (.sint .i64) (0 : Int)) (.pr (.val (.sint .i64) (0 : Int)) .un)))) (.pr (.whole 4 4) (.pr (.val .bool false) (.pr (.whole 6 3) .un))))))⟩, ⟨2, 3, .mp .str (.list (.rcd (.pair (.list .u8) .bool))) []⟩, ⟨4, 5, .row (.rcd (.pair (.sint .i64) (.pair (.sint .i64) (.pair .str (.list .u8))))) []⟩, ⟨6, 7, .row (.rcd (.pair .str (.pair .str (.sint .i64)))) []⟩], 8⟩ avs L b (fun l => lfD .str l fun (x190 : List UInt8) l => lfD (.sint .i64) l fun (x191 : Int) l => lfD (.sint .i64) l fun (x192 : Int) l => lfD (.sint .i64) l fun (x193 : Int) l => lfD .bool l fun (x194 : Bool) l => lfD (.list (.rcd (.pair .str (.list (.rcd (.pair (.list .u8) .bool)))))) l fun (x195 : List (List UInt8 × List (List UInt8 × Bool))) l => lfD (.list (.rcd (.pair (.sint .i64) (.pair (.sint .i64) (.pair .str (.list .u8)))))) l fun (x196 : List (Int × Int × List UInt8 × List UInt8)) l => lfD (.list (.rcd (.pair .str (.pair .str (.sint .i64))))) l fun (x197 : List (List UInt8 × List UInt8 × Int)) l => lfE l (.sub (F_store_Store_Get n x190 x194 x195 x196 x197) fun r => .alt r (fun r => .ret ((.tup (.pr (.snil none) (.pr (.val (.sint .i64) r.1) .un))), [⟨0, 9, .box (.agg (.pr (.mpv 2) (.pr (.agg (.pr (.val (.sint .i64) x191) (.pr (.val (.sint .i64) x192) (.pr (.val (.sint .i64) x193) .un)))) (.pr (.whole 12 4) (.pr (.val .bool r.2.1) (.pr (.whole 14 3) .un))))))⟩, ⟨2, 11, .mp .str (.list (.rcd (.pair (.list .u8) .bool))) x195⟩, ⟨12, 13, .row (.rcd (.pair (.sint .i64) (.pair (.sint .i64) (.pair .str (.list .u8))))) r.2.2.1⟩, ⟨14, 15, .row (.rcd (.pair .str (.pair .str (.sint .i64)))) r.2.2.2⟩], 16)) (fun r => .alt r (fun r => .ret ((.tup (.pr (.whole 8 1) (.pr (.val (.sint .i64) (0 : Int)) .un))), [⟨8, 9, .row .u8 r.1⟩, ⟨0, 11, .box (.agg (.pr (.mpv 2) (.pr (.agg (.pr (.val (.sint .i64) x191) (.pr (.val (.sint .i64) x192) (.pr (.val (.sint .i64) x193) .un)))) (.pr (.whole 14 4) (.pr (.val .bool r.2.1) (.pr (.whole 16 3) .un))))))⟩, ⟨2, 13, .mp .str (.list (.rcd (.pair (.list .u8) .bool))) x195⟩, ⟨14, 15, .row (.rcd (.pair (.sint .i64) (.pair (.sint .i64) (.pair .str (.list .u8))))) r.2.2.1⟩, ⟨16, 17, .row (.rcd (.pair .str (.pair .str (.sint .i64)))) r.2.2.2⟩], 18)) (fun r => .ret ((.tup (.pr (.ro false .u8 r.1) (.pr (.val (.sint .i64) (0 : Int)) .un))), [⟨0, 9, .box (.agg (.pr (.mpv 2) (.pr (.agg (.pr (.val (.sint .i64) x191) (.pr (.val (.sint .i64) x192) (.pr (.val (.sint .i64) x193) .un)))) (.pr (.whole 12 4) (.pr (.val .bool r.2.1) (.pr (.whole 14 3) .un))))))⟩, ⟨2, 11, .mp .str (.list (.rcd (.pair (.list .u8) .bool))) x195⟩, ⟨12, 13, .row (.rcd (.pair (.sint .i64) (.pair (.sint .i64) (.pair .str (.list .u8))))) r.2.2.1⟩, ⟨14, 15, .row (.rcd (.pair .str (.pair .str (.sint .i64)))) r.2.2.2⟩], 16))))) .fail
theorem ok_store_Store_Get (n : Nat) : SoundF Try.prog 49 (S_store_Store_Get n) := by
  refine fn_sound false (c := codeOf Try.f49) (tab := mkTab [(15, ⟨S_store_Named n, [], [], false⟩), (91, ⟨S_store_Store_call n, [], [], false⟩), (92, ⟨S_store_Store_stood n, [], [], false⟩), (90, ⟨orS (S_slices_Clone___byte_byte_ n) (S_slices_Clone___byte_byte__1 n), [], [], false⟩)]) (cuts := mkCuts []) Try.func49 (by kernel_rfl) (.cons (ok_store_Named n) ⟨_, Try.func15, by kernel_rfl⟩ (.cons (ok_store_Store_call n) ⟨_, Try.func91, by kernel_rfl⟩ (.cons (ok_store_Store_stood n) ⟨_, Try.func92, by kernel_rfl⟩ (.cons (.or (ok_slices_Clone___byte_byte_ n) (ok_slices_Clone___byte_byte__1 n)) ⟨_, Try.func90, by kernel_rfl⟩ .nil)))) (CutsOK.list (l := []) (by kernel_rfl) (fun _ h => by cases h)) (fun avs L b R h => ?_)
  rcases bySk_ok h with ⟨l, rfl, rfl, rfl, q0⟩ | q0
  · obtain ⟨x190, l, rfl, q1⟩ := lfD_ok q0
    obtain ⟨x191, l, rfl, q2⟩ := lfD_ok q1
    obtain ⟨x192, l, rfl, q3⟩ := lfD_ok q2
    obtain ⟨x193, l, rfl, q4⟩ := lfD_ok q3
    obtain ⟨x194, l, rfl, q5⟩ := lfD_ok q4
    obtain ⟨x195, l, rfl, q6⟩ := lfD_ok q5
    obtain ⟨x196, l, rfl, q7⟩ := lfD_ok q6
    obtain ⟨x197, l, rfl, q8⟩ := lfD_ok q7
    obtain ⟨rfl, q⟩ := lfE_ok q8
    exact run_subs (k' := fun r => (match r with | .inl r => .ret ((.tup (.pr (.snil none) (.pr (.val (.sint .i64) r.1) .un))), [⟨0, 9, .box (.agg (.pr (.mpv 2) (.pr (.agg (.pr (.val (.sint .i64) x191) (.pr (.val (.sint .i64) x192) (.pr (.val (.sint .i64) x193) .un)))) (.pr (.whole 12 4) (.pr (.val .bool r.2.1) (.pr (.whole 14 3) .un))))))⟩, ⟨2, 11, .mp .str (.list (.rcd (.pair (.list .u8) .bool))) x195⟩, ⟨12, 13, .row (.rcd (.pair (.sint .i64) (.pair (.sint .i64) (.pair .str (.list .u8))))) r.2.2.1⟩, ⟨14, 15, .row (.rcd (.pair .str (.pair .str (.sint .i64)))) r.2.2.2⟩], 16) | .inr r => (match r with | .inl r => .ret ((.tup (.pr (.whole 8 1) (.pr (.val (.sint .i64) (0 : Int)) .un))), [⟨8, 9, .row .u8 r.1⟩, ⟨0, 11, .box (.agg (.pr (.mpv 2) (.pr (.agg (.pr (.val (.sint .i64) x191) (.pr (.val (.sint .i64) x192) (.pr (.val (.sint .i64) x193) .un)))) (.pr (.whole 14 4) (.pr (.val .bool r.2.1) (.pr (.whole 16 3) .un))))))⟩, ⟨2, 13, .mp .str (.list (.rcd (.pair (.list .u8) .bool))) x195⟩, ⟨14, 15, .row (.rcd (.pair (.sint .i64) (.pair (.sint .i64) (.pair .str (.list .u8))))) r.2.2.1⟩, ⟨16, 17, .row (.rcd (.pair .str (.pair .str (.sint .i64)))) r.2.2.2⟩], 18) | .inr r => .ret ((.tup (.pr (.ro false .u8 r.1) (.pr (.val (.sint .i64) (0 : Int)) .un))), [⟨0, 9, .box (.agg (.pr (.mpv 2) (.pr (.agg (.pr (.val (.sint .i64) x191) (.pr (.val (.sint .i64) x192) (.pr (.val (.sint .i64) x193) .un)))) (.pr (.whole 12 4) (.pr (.val .bool r.2.1) (.pr (.whole 14 3) .un))))))⟩, ⟨2, 11, .mp .str (.list (.rcd (.pair (.list .u8) .bool))) x195⟩, ⟨12, 13, .row (.rcd (.pair (.sint .i64) (.pair (.sint .i64) (.pair .str (.list .u8))))) r.2.2.1⟩, ⟨14, 15, .row (.rcd (.pair .str (.pair .str (.sint .i64)))) r.2.2.2⟩], 16)))) q (fun y hy => by rcases y with y | y | y <;> exact ⟨hy.h⟩) (by kernel_rfl)
  · exact False.elim q0.h
def F_store_Store_Dead (n : Nat) : Tree Unit :=
  .ret ()
def S_store_Store_Dead (n : Nat) : Summ := fun avs L b => bySk ⟨[(.ptr 0 0)], [⟨0, 1, .box (.agg (.pr (.mpv 2) (.pr (.agg (.pr (.val (.sint .i64) (0 : Int)) (.pr (.val (.sint .i64) (0 : Int)) (.pr (.val (.sint .i64) (0 : Int)) .un)))) (.pr (.whole 4 4) (.pr (.val .bool false) (.pr (.whole 6 3) .un))))))⟩, ⟨2, 3, .mp .str (.list (.rcd (.pair (.list .u8) .bool))) []⟩, ⟨4, 5, .row (.rcd (.pair (.sint .i64) (.pair (.sint .i64) (.pair .str (.list .u8))))) []⟩, ⟨6, 7, .row (.rcd (.pair .str (.pair .str (.sint .i64)))) []⟩], 8⟩ avs L b (fun l => lfD (.sint .i64) l fun (x303 : Int) l => lfD (.sint .i64) l fun (x304 : Int) l => lfD (.sint .i64) l fun (x305 : Int) l => lfD .bool l fun (x306 : Bool) l => lfD (.list (.rcd (.pair .str (.list (.rcd (.pair (.list .u8) .bool)))))) l fun (x307 : List (List UInt8 × List (List UInt8 × Bool))) l => lfD (.list (.rcd (.pair (.sint .i64) (.pair (.sint .i64) (.pair .str (.list .u8)))))) l fun (x308 : List (Int × Int × List UInt8 × List UInt8)) l => lfD (.list (.rcd (.pair .str (.pair .str (.sint .i64))))) l fun (x309 : List (List UInt8 × List UInt8 × Int)) l => lfE l (.sub (F_store_Store_Dead n) fun r => .ret ((.val .bool x306), [⟨0, 9, .box (.agg (.pr (.mpv 2) (.pr (.agg (.pr (.val (.sint .i64) x303) (.pr (.val (.sint .i64) x304) (.pr (.val (.sint .i64) x305) .un)))) (.pr (.whole 12 4) (.pr (.val .bool x306) (.pr (.whole 14 3) .un))))))⟩, ⟨2, 11, .mp .str (.list (.rcd (.pair (.list .u8) .bool))) x307⟩, ⟨12, 13, .row (.rcd (.pair (.sint .i64) (.pair (.sint .i64) (.pair .str (.list .u8))))) x308⟩, ⟨14, 15, .row (.rcd (.pair .str (.pair .str (.sint .i64)))) x309⟩], 16))) .fail
theorem ok_store_Store_Dead (n : Nat) : SoundF Try.prog 52 (S_store_Store_Dead n) := by
  refine fn_sound false (c := codeOf Try.f52) (tab := mkTab []) (cuts := mkCuts []) Try.func52 (by kernel_rfl) .nil (CutsOK.list (l := []) (by kernel_rfl) (fun _ h => by cases h)) (fun avs L b R h => ?_)
  rcases bySk_ok h with ⟨l, rfl, rfl, rfl, q0⟩ | q0
  · obtain ⟨x303, l, rfl, q1⟩ := lfD_ok q0
    obtain ⟨x304, l, rfl, q2⟩ := lfD_ok q1
    obtain ⟨x305, l, rfl, q3⟩ := lfD_ok q2
    obtain ⟨x306, l, rfl, q4⟩ := lfD_ok q3
    obtain ⟨x307, l, rfl, q5⟩ := lfD_ok q4
    obtain ⟨x308, l, rfl, q6⟩ := lfD_ok q5
    obtain ⟨x309, l, rfl, q7⟩ := lfD_ok q6
    obtain ⟨rfl, q⟩ := lfE_ok q7
    exact run_sub q (by kernel_rfl)
  · exact False.elim q0.h
def F_slices_Clone___byte_byte__2 (n : Nat) : Tree Unit :=
  .ret ()
def S_slices_Clone___byte_byte__2 (n : Nat) : Summ := fun avs L b => bySk ⟨[(.snil none)], [], 0⟩ avs L b (fun l => lfE l (.sub (F_slices_Clone___byte_byte__2 n) fun r => .ret ((.snil none), [], 0))) .fail
theorem ok_slices_Clone___byte_byte__2 (n : Nat) : SoundF Try.prog 90 (S_slices_Clone___byte_byte__2 n) := by
  refine fn_sound false (c := codeOf Try.f90) (tab := mkTab []) (cuts := mkCuts []) Try.func90 (by kernel_rfl) .nil (CutsOK.list (l := []) (by kernel_rfl) (fun _ h => by cases h)) (fun avs L b R h => ?_)
  rcases bySk_ok h with ⟨l, rfl, rfl, rfl, q0⟩ | q0
  · obtain ⟨rfl, q⟩ := lfE_ok q0
    exact run_sub q (by kernel_rfl)
  · exact False.elim q0.h
def F_store_Store_Put_1 (n : Nat) (x311 : List UInt8) (x315 : Bool) (x316 : List (List UInt8 × List (List UInt8 × Bool))) (x317 : List (Int × Int × List UInt8 × List UInt8)) (x318 : List (List UInt8 × List UInt8 × Int)) : Tree ((Int) × ((Bool) × ((List (List UInt8 × List (List UInt8 × Bool))) × ((List (Int × Int × List UInt8 × List UInt8)) × (List (List UInt8 × List UInt8 × Int)))))) :=
  .sub (F_store_Named n x311) fun y319 =>
  .ite (!y319)
    (.ret ((1 : Int), x315, x316, x317, x318))
    (.ite false
      (.ret ((2 : Int), x315, x316, x317, x318))
      (.sub (F_slices_Clone___byte_byte__2 n) fun y320 =>
      .sub (F_store_Store_change n ([112, 117, 116] : List UInt8) x311 x315 x316 x317 x318) fun y321 =>
      .ret (y321.1, y321.2.1, y321.2.2.1, y321.2.2.2.1, y321.2.2.2.2)))
def S_store_Store_Put_1 (n : Nat) : Summ := fun avs L b => bySk ⟨[(.ptr 0 0), (.val .str []), (.snil none)], [⟨0, 1, .box (.agg (.pr (.mpv 2) (.pr (.agg (.pr (.val (.sint .i64) (0 : Int)) (.pr (.val (.sint .i64) (0 : Int)) (.pr (.val (.sint .i64) (0 : Int)) .un)))) (.pr (.whole 4 4) (.pr (.val .bool false) (.pr (.whole 6 3) .un))))))⟩, ⟨2, 3, .mp .str (.list (.rcd (.pair (.list .u8) .bool))) []⟩, ⟨4, 5, .row (.rcd (.pair (.sint .i64) (.pair (.sint .i64) (.pair .str (.list .u8))))) []⟩, ⟨6, 7, .row (.rcd (.pair .str (.pair .str (.sint .i64)))) []⟩], 8⟩ avs L b (fun l => lfD .str l fun (x311 : List UInt8) l => lfD (.sint .i64) l fun (x312 : Int) l => lfD (.sint .i64) l fun (x313 : Int) l => lfD (.sint .i64) l fun (x314 : Int) l => lfD .bool l fun (x315 : Bool) l => lfD (.list (.rcd (.pair .str (.list (.rcd (.pair (.list .u8) .bool)))))) l fun (x316 : List (List UInt8 × List (List UInt8 × Bool))) l => lfD (.list (.rcd (.pair (.sint .i64) (.pair (.sint .i64) (.pair .str (.list .u8)))))) l fun (x317 : List (Int × Int × List UInt8 × List UInt8)) l => lfD (.list (.rcd (.pair .str (.pair .str (.sint .i64))))) l fun (x318 : List (List UInt8 × List UInt8 × Int)) l => lfE l (.sub (F_store_Store_Put_1 n x311 x315 x316 x317 x318) fun r => .ret ((.val (.sint .i64) r.1), [⟨0, 9, .box (.agg (.pr (.mpv 2) (.pr (.agg (.pr (.val (.sint .i64) x312) (.pr (.val (.sint .i64) x313) (.pr (.val (.sint .i64) x314) .un)))) (.pr (.whole 12 4) (.pr (.val .bool r.2.1) (.pr (.whole 14 3) .un))))))⟩, ⟨2, 11, .mp .str (.list (.rcd (.pair (.list .u8) .bool))) r.2.2.1⟩, ⟨12, 13, .row (.rcd (.pair (.sint .i64) (.pair (.sint .i64) (.pair .str (.list .u8))))) r.2.2.2.1⟩, ⟨14, 15, .row (.rcd (.pair .str (.pair .str (.sint .i64)))) r.2.2.2.2⟩], 16))) .fail
theorem ok_store_Store_Put_1 (n : Nat) : SoundF Try.prog 46 (S_store_Store_Put_1 n) := by
  refine fn_sound false (c := codeOf Try.f46) (tab := mkTab [(15, ⟨S_store_Named n, [], [], false⟩), (90, ⟨S_slices_Clone___byte_byte__2 n, [], [], false⟩), (89, ⟨S_store_Store_change n, [], [], false⟩)]) (cuts := mkCuts []) Try.func46 (by kernel_rfl) (.cons (ok_store_Named n) ⟨_, Try.func15, by kernel_rfl⟩ (.cons (ok_slices_Clone___byte_byte__2 n) ⟨_, Try.func90, by kernel_rfl⟩ (.cons (ok_store_Store_change n) ⟨_, Try.func89, by kernel_rfl⟩ .nil))) (CutsOK.list (l := []) (by kernel_rfl) (fun _ h => by cases h)) (fun avs L b R h => ?_)
  rcases bySk_ok h with ⟨l, rfl, rfl, rfl, q0⟩ | q0
  · obtain ⟨x311, l, rfl, q1⟩ := lfD_ok q0
    obtain ⟨x312, l, rfl, q2⟩ := lfD_ok q1
    obtain ⟨x313, l, rfl, q3⟩ := lfD_ok q2
    obtain ⟨x314, l, rfl, q4⟩ := lfD_ok q3
    obtain ⟨x315, l, rfl, q5⟩ := lfD_ok q4
    obtain ⟨x316, l, rfl, q6⟩ := lfD_ok q5
    obtain ⟨x317, l, rfl, q7⟩ := lfD_ok q6
    obtain ⟨x318, l, rfl, q8⟩ := lfD_ok q7
    obtain ⟨rfl, q⟩ := lfE_ok q8
    exact run_sub q (by kernel_rfl)
  · exact False.elim q0.h
def F_store_Store_call_1 (n : Nat) (x358 : List UInt8) (x359 : List UInt8) (x360 : Int) (x364 : Bool) (x366 : List (List UInt8 × List UInt8 × Int)) : Tree ((Int) × ((Bool) × (List (List UInt8 × List UInt8 × Int)))) :=
  .ite x364
    (.ret ((14 : Int), x364, x366))
    (.get (Hyp.appI 3518437208883 x366 (List.set ([(([] : List UInt8), (([] : List UInt8), (0 : Int)))] : List ((List UInt8) × ((List UInt8) × Int))) 0 (x358, (x359, x360)))) fun y367 =>
    .ite false
      (.fail)
      (.ite false
        (.ret ((14 : Int), true, y367))
        (.ret ((0 : Int), x364, y367))))
def S_store_Store_call_1 (n : Nat) : Summ := fun avs L b => bySk ⟨[(.ptr 0 0), (.val .str []), (.val .str []), (.val (.sint .i64) (0 : Int))], [⟨0, 1, .box (.agg (.pr (.mpv 2) (.pr (.agg (.pr (.val (.sint .i64) (0 : Int)) (.pr (.val (.sint .i64) (0 : Int)) (.pr (.val (.sint .i64) (0 : Int)) .un)))) (.pr (.snil none) (.pr (.val .bool false) (.pr (.whole 4 3) .un))))))⟩, ⟨2, 3, .mp .str (.list (.rcd (.pair (.list .u8) .bool))) []⟩, ⟨4, 5, .row (.rcd (.pair .str (.pair .str (.sint .i64)))) []⟩], 6⟩ avs L b (fun l => lfD .str l fun (x358 : List UInt8) l => lfD .str l fun (x359 : List UInt8) l => lfD (.sint .i64) l fun (x360 : Int) l => lfD (.sint .i64) l fun (x361 : Int) l => lfD (.sint .i64) l fun (x362 : Int) l => lfD (.sint .i64) l fun (x363 : Int) l => lfD .bool l fun (x364 : Bool) l => lfD (.list (.rcd (.pair .str (.list (.rcd (.pair (.list .u8) .bool)))))) l fun (x365 : List (List UInt8 × List (List UInt8 × Bool))) l => lfD (.list (.rcd (.pair .str (.pair .str (.sint .i64))))) l fun (x366 : List (List UInt8 × List UInt8 × Int)) l => lfE l (.sub (F_store_Store_call_1 n x358 x359 x360 x364 x366) fun r => .ret ((.tup (.pr (.agg (.pr (.val (.sint .i64) (0 : Int)) (.pr (.val (.sint .i64) (0 : Int)) (.pr (.val .str ([] : List UInt8)) (.pr (.whole 6 1) .un))))) (.pr (.val (.sint .i64) r.1) .un))), [⟨6, 7, .row .u8 ([] : List UInt8)⟩, ⟨0, 9, .box (.agg (.pr (.mpv 2) (.pr (.agg (.pr (.val (.sint .i64) x361) (.pr (.val (.sint .i64) x362) (.pr (.val (.sint .i64) x363) .un)))) (.pr (.snil none) (.pr (.val .bool r.2.1) (.pr (.whole 12 3) .un))))))⟩, ⟨2, 11, .mp .str (.list (.rcd (.pair (.list .u8) .bool))) x365⟩, ⟨12, 13, .row (.rcd (.pair .str (.pair .str (.sint .i64)))) r.2.2⟩], 14))) .fail
theorem ok_store_Store_call_1 (n : Nat) : SoundF Try.prog 91 (S_store_Store_call_1 n) := by
  refine fn_sound false (c := codeOf Try.f91) (tab := mkTab []) (cuts := mkCuts []) Try.func91 (by kernel_rfl) .nil (CutsOK.list (l := []) (by kernel_rfl) (fun _ h => by cases h)) (fun avs L b R h => ?_)
  rcases bySk_ok h with ⟨l, rfl, rfl, rfl, q0⟩ | q0
  · obtain ⟨x358, l, rfl, q1⟩ := lfD_ok q0
    obtain ⟨x359, l, rfl, q2⟩ := lfD_ok q1
    obtain ⟨x360, l, rfl, q3⟩ := lfD_ok q2
    obtain ⟨x361, l, rfl, q4⟩ := lfD_ok q3
    obtain ⟨x362, l, rfl, q5⟩ := lfD_ok q4
    obtain ⟨x363, l, rfl, q6⟩ := lfD_ok q5
    obtain ⟨x364, l, rfl, q7⟩ := lfD_ok q6
    obtain ⟨x365, l, rfl, q8⟩ := lfD_ok q7
    obtain ⟨x366, l, rfl, q9⟩ := lfD_ok q8
    obtain ⟨rfl, q⟩ := lfE_ok q9
    exact run_sub q (by kernel_rfl)
  · exact False.elim q0.h
def F_store_Store_stood_1 (n : Nat) (x369 : List UInt8) (x370 : Int) (x375 : List (List UInt8 × List (List UInt8 × Bool))) : Tree (Unit ⊕ ((List UInt8) × Bool)) :=
  .ite ((Decidable.decide (x370 < (0 : Int))) || (Decidable.decide ((Nat.cast (List.length (Hyp.mgetD Hyp.Ty.str (Hyp.Ty.list (Hyp.Ty.rcd (Hyp.Ty.pair (Hyp.Ty.list Hyp.Ty.u8) Hyp.Ty.bool))) x375 x369 ([] : List ((List UInt8) × Bool)))) : Int) ≤ x370)))
    (.ret (.inl ()))
    (.get (Hyp.getI (Hyp.mgetD Hyp.Ty.str (Hyp.Ty.list (Hyp.Ty.rcd (Hyp.Ty.pair (Hyp.Ty.list Hyp.Ty.u8) Hyp.Ty.bool))) x375 x369 ([] : List ((List UInt8) × Bool))) (Go.IntKind.wrap Go.IntKind.i64 ((Go.IntKind.wrap Go.IntKind.i64 ((Nat.cast (List.length (Hyp.mgetD Hyp.Ty.str (Hyp.Ty.list (Hyp.Ty.rcd (Hyp.Ty.pair (Hyp.Ty.list Hyp.Ty.u8) Hyp.Ty.bool))) x375 x369 ([] : List ((List UInt8) × Bool)))) : Int) - (1 : Int))) - x370))) fun y377 =>
    .ret (.inr (y377.1, y377.2)))
def S_store_Store_stood_1 (n : Nat) : Summ := fun avs L b => bySk ⟨[(.ptr 0 0), (.val .str []), (.val (.sint .i64) (0 : Int))], [⟨0, 1, .box (.agg (.pr (.mpv 2) (.pr (.agg (.pr (.val (.sint .i64) (0 : Int)) (.pr (.val (.sint .i64) (0 : Int)) (.pr (.val (.sint .i64) (0 : Int)) .un)))) (.pr (.snil none) (.pr (.val .bool false) (.pr (.whole 4 3) .un))))))⟩, ⟨2, 3, .mp .str (.list (.rcd (.pair (.list .u8) .bool))) []⟩, ⟨4, 5, .row (.rcd (.pair .str (.pair .str (.sint .i64)))) []⟩], 6⟩ avs L b (fun l => lfD .str l fun (x369 : List UInt8) l => lfD (.sint .i64) l fun (x370 : Int) l => lfD (.sint .i64) l fun (x371 : Int) l => lfD (.sint .i64) l fun (x372 : Int) l => lfD (.sint .i64) l fun (x373 : Int) l => lfD .bool l fun (x374 : Bool) l => lfD (.list (.rcd (.pair .str (.list (.rcd (.pair (.list .u8) .bool)))))) l fun (x375 : List (List UInt8 × List (List UInt8 × Bool))) l => lfD (.list (.rcd (.pair .str (.pair .str (.sint .i64))))) l fun (x376 : List (List UInt8 × List UInt8 × Int)) l => lfE l (.sub (F_store_Store_stood_1 n x369 x370 x375) fun r => .alt r (fun r => .ret ((.agg (.pr (.whole 6 1) (.pr (.val .bool false) .un))), [⟨6, 7, .row .u8 ([] : List UInt8)⟩, ⟨0, 9, .box (.agg (.pr (.mpv 2) (.pr (.agg (.pr (.val (.sint .i64) x371) (.pr (.val (.sint .i64) x372) (.pr (.val (.sint .i64) x373) .un)))) (.pr (.snil none) (.pr (.val .bool x374) (.pr (.whole 12 3) .un))))))⟩, ⟨2, 11, .mp .str (.list (.rcd (.pair (.list .u8) .bool))) x375⟩, ⟨12, 13, .row (.rcd (.pair .str (.pair .str (.sint .i64)))) x376⟩], 14)) (fun r => .ret ((.agg (.pr (.ro false .u8 r.1) (.pr (.val .bool r.2) .un))), [⟨0, 7, .box (.agg (.pr (.mpv 2) (.pr (.agg (.pr (.val (.sint .i64) x371) (.pr (.val (.sint .i64) x372) (.pr (.val (.sint .i64) x373) .un)))) (.pr (.snil none) (.pr (.val .bool x374) (.pr (.whole 10 3) .un))))))⟩, ⟨2, 9, .mp .str (.list (.rcd (.pair (.list .u8) .bool))) x375⟩, ⟨10, 11, .row (.rcd (.pair .str (.pair .str (.sint .i64)))) x376⟩], 12)))) .fail
theorem ok_store_Store_stood_1 (n : Nat) : SoundF Try.prog 92 (S_store_Store_stood_1 n) := by
  refine fn_sound false (c := codeOf Try.f92) (tab := mkTab []) (cuts := mkCuts []) Try.func92 (by kernel_rfl) .nil (CutsOK.list (l := []) (by kernel_rfl) (fun _ h => by cases h)) (fun avs L b R h => ?_)
  rcases bySk_ok h with ⟨l, rfl, rfl, rfl, q0⟩ | q0
  · obtain ⟨x369, l, rfl, q1⟩ := lfD_ok q0
    obtain ⟨x370, l, rfl, q2⟩ := lfD_ok q1
    obtain ⟨x371, l, rfl, q3⟩ := lfD_ok q2
    obtain ⟨x372, l, rfl, q4⟩ := lfD_ok q3
    obtain ⟨x373, l, rfl, q5⟩ := lfD_ok q4
    obtain ⟨x374, l, rfl, q6⟩ := lfD_ok q5
    obtain ⟨x375, l, rfl, q7⟩ := lfD_ok q6
    obtain ⟨x376, l, rfl, q8⟩ := lfD_ok q7
    obtain ⟨rfl, q⟩ := lfE_ok q8
    exact run_subs (k' := fun r => (match r with | .inl r => .ret ((.agg (.pr (.whole 6 1) (.pr (.val .bool false) .un))), [⟨6, 7, .row .u8 ([] : List UInt8)⟩, ⟨0, 9, .box (.agg (.pr (.mpv 2) (.pr (.agg (.pr (.val (.sint .i64) x371) (.pr (.val (.sint .i64) x372) (.pr (.val (.sint .i64) x373) .un)))) (.pr (.snil none) (.pr (.val .bool x374) (.pr (.whole 12 3) .un))))))⟩, ⟨2, 11, .mp .str (.list (.rcd (.pair (.list .u8) .bool))) x375⟩, ⟨12, 13, .row (.rcd (.pair .str (.pair .str (.sint .i64)))) x376⟩], 14) | .inr r => .ret ((.agg (.pr (.ro false .u8 r.1) (.pr (.val .bool r.2) .un))), [⟨0, 7, .box (.agg (.pr (.mpv 2) (.pr (.agg (.pr (.val (.sint .i64) x371) (.pr (.val (.sint .i64) x372) (.pr (.val (.sint .i64) x373) .un)))) (.pr (.snil none) (.pr (.val .bool x374) (.pr (.whole 10 3) .un))))))⟩, ⟨2, 9, .mp .str (.list (.rcd (.pair (.list .u8) .bool))) x375⟩, ⟨10, 11, .row (.rcd (.pair .str (.pair .str (.sint .i64)))) x376⟩], 12))) q (fun y hy => by rcases y with y | y <;> exact ⟨hy.h⟩) (by kernel_rfl)
  · exact False.elim q0.h
def F_store_Store_Get_1 (n : Nat) (x350 : List UInt8) (x354 : Bool) (x355 : List (List UInt8 × List (List UInt8 × Bool))) (x356 : List (List UInt8 × List UInt8 × Int)) : Tree (((Int) × ((Bool) × (List (List UInt8 × List UInt8 × Int)))) ⊕ (((List UInt8) × ((Bool) × (List (List UInt8 × List UInt8 × Int)))) ⊕ ((List UInt8) × ((Bool) × (List (List UInt8 × List UInt8 × Int)))))) :=
  .sub (F_store_Named n x350) fun y357 =>
  .ite (!y357)
    (.ret (.inl ((1 : Int), x354, x356)))
    (.sub (F_store_Store_call_1 n ([103, 101, 116] : List UInt8) x350 (0 : Int) x354 x356) fun y368 =>
    .ite (!(Decidable.decide (y368.1 = (0 : Int))))
      (.ret (.inl (y368.1, y368.2.1, y368.2.2)))
      (.sub (F_store_Store_stood_1 n x350 (0 : Int) x355) fun y378 =>
      .alt y378 (fun y379 =>
        .ite false
          (.ret (.inl ((12 : Int), y368.2.1, y368.2.2)))
          (.ite false
            (.ret (.inl ((11 : Int), y368.2.1, y368.2.2)))
            (.ite false
              (.sub (F_store_Store_stood_1 n x350 (0 : Int) x355) fun y380 =>
              .alt y380 (fun y381 =>
                .ite true
                  (.ret (.inl ((11 : Int), y368.2.1, y368.2.2)))
                  (.ite false
                    (.ret (.inl ((13 : Int), y368.2.1, y368.2.2)))
                    (.sub (F_slices_Clone___byte_byte_ n ([] : List UInt8)) fun y382 =>
                    .alt y382 (fun y383 =>
                      .ret (.inl ((0 : Int), y368.2.1, y368.2.2)))
                      fun y384 =>
                      .ret (.inr (.inl (y384, y368.2.1, y368.2.2))))))
                fun y385 =>
                .ite (!y385.2)
                  (.ret (.inl ((11 : Int), y368.2.1, y368.2.2)))
                  (.ite (Decidable.decide ((65536 : Int) < (Nat.cast (List.length y385.1) : Int)))
                    (.ret (.inl ((13 : Int), y368.2.1, y368.2.2)))
                    (.sub (F_slices_Clone___byte_byte__1 n y385.1) fun y386 =>
                    .ret (.inr (.inr (y386, y368.2.1, y368.2.2))))))
              (.ite false
                (.sub (F_store_Store_stood_1 n ([] : List UInt8) (0 : Int) x355) fun y387 =>
                .alt y387 (fun y388 =>
                  .ite true
                    (.ret (.inl ((11 : Int), y368.2.1, y368.2.2)))
                    (.ite false
                      (.ret (.inl ((13 : Int), y368.2.1, y368.2.2)))
                      (.sub (F_slices_Clone___byte_byte_ n ([] : List UInt8)) fun y389 =>
                      .alt y389 (fun y390 =>
                        .ret (.inl ((0 : Int), y368.2.1, y368.2.2)))
                        fun y391 =>
                        .ret (.inr (.inl (y391, y368.2.1, y368.2.2))))))
                  fun y392 =>
                  .ite (!y392.2)
                    (.ret (.inl ((11 : Int), y368.2.1, y368.2.2)))
                    (.ite (Decidable.decide ((65536 : Int) < (Nat.cast (List.length y392.1) : Int)))
                      (.ret (.inl ((13 : Int), y368.2.1, y368.2.2)))
                      (.sub (F_slices_Clone___byte_byte__1 n y392.1) fun y393 =>
                      .ret (.inr (.inr (y393, y368.2.1, y368.2.2))))))
                (.ite false
                  (.ite false
                    (.ret (.inl ((13 : Int), y368.2.1, y368.2.2)))
                    (.sub (F_slices_Clone___byte_byte_ n ([] : List UInt8)) fun y394 =>
                    .alt y394 (fun y395 =>
                      .ret (.inl ((0 : Int), y368.2.1, y368.2.2)))
                      fun y396 =>
                      .ret (.inr (.inl (y396, y368.2.1, y368.2.2)))))
                  (.ite true
                    (.ret (.inl ((11 : Int), y368.2.1, y368.2.2)))
                    (.ite false
                      (.ret (.inl ((13 : Int), y368.2.1, y368.2.2)))
                      (.sub (F_slices_Clone___byte_byte_ n ([] : List UInt8)) fun y397 =>
                      .alt y397 (fun y398 =>
                        .ret (.inl ((0 : Int), y368.2.1, y368.2.2)))
                        fun y399 =>
                        .ret (.inr (.inl (y399, y368.2.1, y368.2.2)))))))))))
        fun y400 =>
        .ite false
          (.ret (.inl ((12 : Int), y368.2.1, y368.2.2)))
          (.ite false
            (.ret (.inl ((11 : Int), y368.2.1, y368.2.2)))
            (.ite false
              (.sub (F_store_Store_stood_1 n x350 (0 : Int) x355) fun y401 =>
              .alt y401 (fun y402 =>
                .ite true
                  (.ret (.inl ((11 : Int), y368.2.1, y368.2.2)))
                  (.ite false
                    (.ret (.inl ((13 : Int), y368.2.1, y368.2.2)))
                    (.sub (F_slices_Clone___byte_byte_ n ([] : List UInt8)) fun y403 =>
                    .alt y403 (fun y404 =>
                      .ret (.inl ((0 : Int), y368.2.1, y368.2.2)))
                      fun y405 =>
                      .ret (.inr (.inl (y405, y368.2.1, y368.2.2))))))
                fun y406 =>
                .ite (!y406.2)
                  (.ret (.inl ((11 : Int), y368.2.1, y368.2.2)))
                  (.ite (Decidable.decide ((65536 : Int) < (Nat.cast (List.length y406.1) : Int)))
                    (.ret (.inl ((13 : Int), y368.2.1, y368.2.2)))
                    (.sub (F_slices_Clone___byte_byte__1 n y406.1) fun y407 =>
                    .ret (.inr (.inr (y407, y368.2.1, y368.2.2))))))
              (.ite false
                (.sub (F_store_Store_stood_1 n ([] : List UInt8) (0 : Int) x355) fun y408 =>
                .alt y408 (fun y409 =>
                  .ite true
                    (.ret (.inl ((11 : Int), y368.2.1, y368.2.2)))
                    (.ite false
                      (.ret (.inl ((13 : Int), y368.2.1, y368.2.2)))
                      (.sub (F_slices_Clone___byte_byte_ n ([] : List UInt8)) fun y410 =>
                      .alt y410 (fun y411 =>
                        .ret (.inl ((0 : Int), y368.2.1, y368.2.2)))
                        fun y412 =>
                        .ret (.inr (.inl (y412, y368.2.1, y368.2.2))))))
                  fun y413 =>
                  .ite (!y413.2)
                    (.ret (.inl ((11 : Int), y368.2.1, y368.2.2)))
                    (.ite (Decidable.decide ((65536 : Int) < (Nat.cast (List.length y413.1) : Int)))
                      (.ret (.inl ((13 : Int), y368.2.1, y368.2.2)))
                      (.sub (F_slices_Clone___byte_byte__1 n y413.1) fun y414 =>
                      .ret (.inr (.inr (y414, y368.2.1, y368.2.2))))))
                (.ite false
                  (.ite false
                    (.ret (.inl ((13 : Int), y368.2.1, y368.2.2)))
                    (.sub (F_slices_Clone___byte_byte_ n ([] : List UInt8)) fun y415 =>
                    .alt y415 (fun y416 =>
                      .ret (.inl ((0 : Int), y368.2.1, y368.2.2)))
                      fun y417 =>
                      .ret (.inr (.inl (y417, y368.2.1, y368.2.2)))))
                  (.ite (!y400.2)
                    (.ret (.inl ((11 : Int), y368.2.1, y368.2.2)))
                    (.ite (Decidable.decide ((65536 : Int) < (Nat.cast (List.length y400.1) : Int)))
                      (.ret (.inl ((13 : Int), y368.2.1, y368.2.2)))
                      (.sub (F_slices_Clone___byte_byte__1 n y400.1) fun y418 =>
                      .ret (.inr (.inr (y418, y368.2.1, y368.2.2))))))))))))
def S_store_Store_Get_1 (n : Nat) : Summ := fun avs L b => bySk ⟨[(.ptr 0 0), (.val .str [])], [⟨0, 1, .box (.agg (.pr (.mpv 2) (.pr (.agg (.pr (.val (.sint .i64) (0 : Int)) (.pr (.val (.sint .i64) (0 : Int)) (.pr (.val (.sint .i64) (0 : Int)) .un)))) (.pr (.snil none) (.pr (.val .bool false) (.pr (.whole 4 3) .un))))))⟩, ⟨2, 3, .mp .str (.list (.rcd (.pair (.list .u8) .bool))) []⟩, ⟨4, 5, .row (.rcd (.pair .str (.pair .str (.sint .i64)))) []⟩], 6⟩ avs L b (fun l => lfD .str l fun (x350 : List UInt8) l => lfD (.sint .i64) l fun (x351 : Int) l => lfD (.sint .i64) l fun (x352 : Int) l => lfD (.sint .i64) l fun (x353 : Int) l => lfD .bool l fun (x354 : Bool) l => lfD (.list (.rcd (.pair .str (.list (.rcd (.pair (.list .u8) .bool)))))) l fun (x355 : List (List UInt8 × List (List UInt8 × Bool))) l => lfD (.list (.rcd (.pair .str (.pair .str (.sint .i64))))) l fun (x356 : List (List UInt8 × List UInt8 × Int)) l => lfE l (.sub (F_store_Store_Get_1 n x350 x354 x355 x356) fun r => .alt r (fun r => .ret ((.tup (.pr (.snil none) (.pr (.val (.sint .i64) r.1) .un))), [⟨0, 7, .box (.agg (.pr (.mpv 2) (.pr (.agg (.pr (.val (.sint .i64) x351) (.pr (.val (.sint .i64) x352) (.pr (.val (.sint .i64) x353) .un)))) (.pr (.snil none) (.pr (.val .bool r.2.1) (.pr (.whole 10 3) .un))))))⟩, ⟨2, 9, .mp .str (.list (.rcd (.pair (.list .u8) .bool))) x355⟩, ⟨10, 11, .row (.rcd (.pair .str (.pair .str (.sint .i64)))) r.2.2⟩], 12)) (fun r => .alt r (fun r => .ret ((.tup (.pr (.whole 6 1) (.pr (.val (.sint .i64) (0 : Int)) .un))), [⟨6, 7, .row .u8 r.1⟩, ⟨0, 9, .box (.agg (.pr (.mpv 2) (.pr (.agg (.pr (.val (.sint .i64) x351) (.pr (.val (.sint .i64) x352) (.pr (.val (.sint .i64) x353) .un)))) (.pr (.snil none) (.pr (.val .bool r.2.1) (.pr (.whole 12 3) .un))))))⟩, ⟨2, 11, .mp .str (.list (.rcd (.pair (.list .u8) .bool))) x355⟩, ⟨12, 13, .row (.rcd (.pair .str (.pair .str (.sint .i64)))) r.2.2⟩], 14)) (fun r => .ret ((.tup (.pr (.ro false .u8 r.1) (.pr (.val (.sint .i64) (0 : Int)) .un))), [⟨0, 7, .box (.agg (.pr (.mpv 2) (.pr (.agg (.pr (.val (.sint .i64) x351) (.pr (.val (.sint .i64) x352) (.pr (.val (.sint .i64) x353) .un)))) (.pr (.snil none) (.pr (.val .bool r.2.1) (.pr (.whole 10 3) .un))))))⟩, ⟨2, 9, .mp .str (.list (.rcd (.pair (.list .u8) .bool))) x355⟩, ⟨10, 11, .row (.rcd (.pair .str (.pair .str (.sint .i64)))) r.2.2⟩], 12))))) .fail
theorem ok_store_Store_Get_1 (n : Nat) : SoundF Try.prog 49 (S_store_Store_Get_1 n) := by
  refine fn_sound false (c := codeOf Try.f49) (tab := mkTab [(15, ⟨S_store_Named n, [], [], false⟩), (91, ⟨S_store_Store_call_1 n, [], [], false⟩), (92, ⟨S_store_Store_stood_1 n, [], [], false⟩), (90, ⟨orS (S_slices_Clone___byte_byte_ n) (S_slices_Clone___byte_byte__1 n), [], [], false⟩)]) (cuts := mkCuts []) Try.func49 (by kernel_rfl) (.cons (ok_store_Named n) ⟨_, Try.func15, by kernel_rfl⟩ (.cons (ok_store_Store_call_1 n) ⟨_, Try.func91, by kernel_rfl⟩ (.cons (ok_store_Store_stood_1 n) ⟨_, Try.func92, by kernel_rfl⟩ (.cons (.or (ok_slices_Clone___byte_byte_ n) (ok_slices_Clone___byte_byte__1 n)) ⟨_, Try.func90, by kernel_rfl⟩ .nil)))) (CutsOK.list (l := []) (by kernel_rfl) (fun _ h => by cases h)) (fun avs L b R h => ?_)
  rcases bySk_ok h with ⟨l, rfl, rfl, rfl, q0⟩ | q0
  · obtain ⟨x350, l, rfl, q1⟩ := lfD_ok q0
    obtain ⟨x351, l, rfl, q2⟩ := lfD_ok q1
    obtain ⟨x352, l, rfl, q3⟩ := lfD_ok q2
    obtain ⟨x353, l, rfl, q4⟩ := lfD_ok q3
    obtain ⟨x354, l, rfl, q5⟩ := lfD_ok q4
    obtain ⟨x355, l, rfl, q6⟩ := lfD_ok q5
    obtain ⟨x356, l, rfl, q7⟩ := lfD_ok q6
    obtain ⟨rfl, q⟩ := lfE_ok q7
    exact run_subs (k' := fun r => (match r with | .inl r => .ret ((.tup (.pr (.snil none) (.pr (.val (.sint .i64) r.1) .un))), [⟨0, 7, .box (.agg (.pr (.mpv 2) (.pr (.agg (.pr (.val (.sint .i64) x351) (.pr (.val (.sint .i64) x352) (.pr (.val (.sint .i64) x353) .un)))) (.pr (.snil none) (.pr (.val .bool r.2.1) (.pr (.whole 10 3) .un))))))⟩, ⟨2, 9, .mp .str (.list (.rcd (.pair (.list .u8) .bool))) x355⟩, ⟨10, 11, .row (.rcd (.pair .str (.pair .str (.sint .i64)))) r.2.2⟩], 12) | .inr r => (match r with | .inl r => .ret ((.tup (.pr (.whole 6 1) (.pr (.val (.sint .i64) (0 : Int)) .un))), [⟨6, 7, .row .u8 r.1⟩, ⟨0, 9, .box (.agg (.pr (.mpv 2) (.pr (.agg (.pr (.val (.sint .i64) x351) (.pr (.val (.sint .i64) x352) (.pr (.val (.sint .i64) x353) .un)))) (.pr (.snil none) (.pr (.val .bool r.2.1) (.pr (.whole 12 3) .un))))))⟩, ⟨2, 11, .mp .str (.list (.rcd (.pair (.list .u8) .bool))) x355⟩, ⟨12, 13, .row (.rcd (.pair .str (.pair .str (.sint .i64)))) r.2.2⟩], 14) | .inr r => .ret ((.tup (.pr (.ro false .u8 r.1) (.pr (.val (.sint .i64) (0 : Int)) .un))), [⟨0, 7, .box (.agg (.pr (.mpv 2) (.pr (.agg (.pr (.val (.sint .i64) x351) (.pr (.val (.sint .i64) x352) (.pr (.val (.sint .i64) x353) .un)))) (.pr (.snil none) (.pr (.val .bool r.2.1) (.pr (.whole 10 3) .un))))))⟩, ⟨2, 9, .mp .str (.list (.rcd (.pair (.list .u8) .bool))) x355⟩, ⟨10, 11, .row (.rcd (.pair .str (.pair .str (.sint .i64)))) r.2.2⟩], 12)))) q (fun y hy => by rcases y with y | y | y <;> exact ⟨hy.h⟩) (by kernel_rfl)
  · exact False.elim q0.h
def F_store_Store_Dead_1 (n : Nat) : Tree Unit :=
  .ret ()
def S_store_Store_Dead_1 (n : Nat) : Summ := fun avs L b => bySk ⟨[(.ptr 0 0)], [⟨0, 1, .box (.agg (.pr (.mpv 2) (.pr (.agg (.pr (.val (.sint .i64) (0 : Int)) (.pr (.val (.sint .i64) (0 : Int)) (.pr (.val (.sint .i64) (0 : Int)) .un)))) (.pr (.snil none) (.pr (.val .bool false) (.pr (.whole 4 3) .un))))))⟩, ⟨2, 3, .mp .str (.list (.rcd (.pair (.list .u8) .bool))) []⟩, ⟨4, 5, .row (.rcd (.pair .str (.pair .str (.sint .i64)))) []⟩], 6⟩ avs L b (fun l => lfD (.sint .i64) l fun (x432 : Int) l => lfD (.sint .i64) l fun (x433 : Int) l => lfD (.sint .i64) l fun (x434 : Int) l => lfD .bool l fun (x435 : Bool) l => lfD (.list (.rcd (.pair .str (.list (.rcd (.pair (.list .u8) .bool)))))) l fun (x436 : List (List UInt8 × List (List UInt8 × Bool))) l => lfD (.list (.rcd (.pair .str (.pair .str (.sint .i64))))) l fun (x437 : List (List UInt8 × List UInt8 × Int)) l => lfE l (.sub (F_store_Store_Dead_1 n) fun r => .ret ((.val .bool x435), [⟨0, 7, .box (.agg (.pr (.mpv 2) (.pr (.agg (.pr (.val (.sint .i64) x432) (.pr (.val (.sint .i64) x433) (.pr (.val (.sint .i64) x434) .un)))) (.pr (.snil none) (.pr (.val .bool x435) (.pr (.whole 10 3) .un))))))⟩, ⟨2, 9, .mp .str (.list (.rcd (.pair (.list .u8) .bool))) x436⟩, ⟨10, 11, .row (.rcd (.pair .str (.pair .str (.sint .i64)))) x437⟩], 12))) .fail
theorem ok_store_Store_Dead_1 (n : Nat) : SoundF Try.prog 52 (S_store_Store_Dead_1 n) := by
  refine fn_sound false (c := codeOf Try.f52) (tab := mkTab []) (cuts := mkCuts []) Try.func52 (by kernel_rfl) .nil (CutsOK.list (l := []) (by kernel_rfl) (fun _ h => by cases h)) (fun avs L b R h => ?_)
  rcases bySk_ok h with ⟨l, rfl, rfl, rfl, q0⟩ | q0
  · obtain ⟨x432, l, rfl, q1⟩ := lfD_ok q0
    obtain ⟨x433, l, rfl, q2⟩ := lfD_ok q1
    obtain ⟨x434, l, rfl, q3⟩ := lfD_ok q2
    obtain ⟨x435, l, rfl, q4⟩ := lfD_ok q3
    obtain ⟨x436, l, rfl, q5⟩ := lfD_ok q4
    obtain ⟨x437, l, rfl, q6⟩ := lfD_ok q5
    obtain ⟨rfl, q⟩ := lfE_ok q6
    exact run_sub q (by kernel_rfl)
  · exact False.elim q0.h
def F_store_Store_change_2 (n : Nat) (x448 : List UInt8) (x449 : List UInt8) (x453 : Bool) (x454 : List (List UInt8 × List (List UInt8 × Bool))) (x455 : List (List UInt8 × List UInt8 × Int)) : Tree ((Int) × ((Bool) × ((List (List UInt8 × List (List UInt8 × Bool))) × (List (List UInt8 × List UInt8 × Int))))) :=
  .sub (F_store_Store_call_1 n x448 x449 (0 : Int) x453 x455) fun y456 =>
  .ite (!(Decidable.decide (y456.1 = (0 : Int))))
    (.ret (y456.1, y456.2.1, x454, y456.2.2))
    (.ite false
      (.ret ((12 : Int), y456.2.1, x454, y456.2.2))
      (.ite false
        (.ret ((0 : Int), y456.2.1, x454, y456.2.2))
        (.get (ite (And ((Nat.cast (List.length (Hyp.mgetD Hyp.Ty.str (Hyp.Ty.list (Hyp.Ty.rcd (Hyp.Ty.pair (Hyp.Ty.list Hyp.Ty.u8) Hyp.Ty.bool))) x454 x449 ([] : List ((List UInt8) × Bool)))) : Int) ≤ (Nat.cast (List.length (Hyp.mgetD Hyp.Ty.str (Hyp.Ty.list (Hyp.Ty.rcd (Hyp.Ty.pair (Hyp.Ty.list Hyp.Ty.u8) Hyp.Ty.bool))) x454 x449 ([] : List ((List UInt8) × Bool)))) : Int)) ((Nat.cast (List.length (Hyp.mgetD Hyp.Ty.str (Hyp.Ty.list (Hyp.Ty.rcd (Hyp.Ty.pair (Hyp.Ty.list Hyp.Ty.u8) Hyp.Ty.bool))) x454 x449 ([] : List ((List UInt8) × Bool)))) : Int) ≤ (Nat.cast (List.length (Hyp.mgetD Hyp.Ty.str (Hyp.Ty.list (Hyp.Ty.rcd (Hyp.Ty.pair (Hyp.Ty.list Hyp.Ty.u8) Hyp.Ty.bool))) x454 x449 ([] : List ((List UInt8) × Bool)))) : Int))) (Hyp.subI (Hyp.mgetD Hyp.Ty.str (Hyp.Ty.list (Hyp.Ty.rcd (Hyp.Ty.pair (Hyp.Ty.list Hyp.Ty.u8) Hyp.Ty.bool))) x454 x449 ([] : List ((List UInt8) × Bool))) (0 : Int) (Nat.cast (List.length (Hyp.mgetD Hyp.Ty.str (Hyp.Ty.list (Hyp.Ty.rcd (Hyp.Ty.pair (Hyp.Ty.list Hyp.Ty.u8) Hyp.Ty.bool))) x454 x449 ([] : List ((List UInt8) × Bool)))) : Int)) Option.none) fun y457 =>
        .get (Hyp.tightI (Decidable.decide ((Nat.cast (List.length (Hyp.mgetD Hyp.Ty.str (Hyp.Ty.list (Hyp.Ty.rcd (Hyp.Ty.pair (Hyp.Ty.list Hyp.Ty.u8) Hyp.Ty.bool))) x454 x449 ([] : List ((List UInt8) × Bool)))) : Int) = (Nat.cast (List.length (Hyp.mgetD Hyp.Ty.str (Hyp.Ty.list (Hyp.Ty.rcd (Hyp.Ty.pair (Hyp.Ty.list Hyp.Ty.u8) Hyp.Ty.bool))) x454 x449 ([] : List ((List UInt8) × Bool)))) : Int))) 4398046511104 y457 ([(([] : List UInt8), true)] : List ((List UInt8) × Bool))) fun y458 =>
        .ret ((0 : Int), y456.2.1, (Hyp.mput Hyp.Ty.str (Hyp.Ty.list (Hyp.Ty.rcd (Hyp.Ty.pair (Hyp.Ty.list Hyp.Ty.u8) Hyp.Ty.bool))) x454 x449 y458), y456.2.2))))
def S_store_Store_change_2 (n : Nat) : Summ := fun avs L b => bySk ⟨[(.ptr 0 0), (.val .str []), (.val .str []), (.agg (.pr (.snil none) (.pr .tt .un)))], [⟨0, 1, .box (.agg (.pr (.mpv 2) (.pr (.agg (.pr (.val (.sint .i64) (0 : Int)) (.pr (.val (.sint .i64) (0 : Int)) (.pr (.val (.sint .i64) (0 : Int)) .un)))) (.pr (.snil none) (.pr (.val .bool false) (.pr (.whole 4 3) .un))))))⟩, ⟨2, 3, .mp .str (.list (.rcd (.pair (.list .u8) .bool))) []⟩, ⟨4, 5, .row (.rcd (.pair .str (.pair .str (.sint .i64)))) []⟩], 6⟩ avs L b (fun l => lfD .str l fun (x448 : List UInt8) l => lfD .str l fun (x449 : List UInt8) l => lfD (.sint .i64) l fun (x450 : Int) l => lfD (.sint .i64) l fun (x451 : Int) l => lfD (.sint .i64) l fun (x452 : Int) l => lfD .bool l fun (x453 : Bool) l => lfD (.list (.rcd (.pair .str (.list (.rcd (.pair (.list .u8) .bool)))))) l fun (x454 : List (List UInt8 × List (List UInt8 × Bool))) l => lfD (.list (.rcd (.pair .str (.pair .str (.sint .i64))))) l fun (x455 : List (List UInt8 × List UInt8 × Int)) l => lfE l (.sub (F_store_Store_change_2 n x448 x449 x453 x454 x455) fun r => .ret ((.val (.sint .i64) r.1), [⟨0, 7, .box (.agg (.pr (.mpv 2) (.pr (.agg (.pr (.val (.sint .i64) x450) (.pr (.val (.sint .i64) x451) (.pr (.val (.sint .i64) x452) .un)))) (.pr (.snil none) (.pr (.val .bool r.2.1) (.pr (.whole 10 3) .un))))))⟩, ⟨2, 9, .mp .str (.list (.rcd (.pair (.list .u8) .bool))) r.2.2.1⟩, ⟨10, 11, .row (.rcd (.pair .str (.pair .str (.sint .i64)))) r.2.2.2⟩], 12))) .fail
theorem ok_store_Store_change_2 (n : Nat) : SoundF Try.prog 89 (S_store_Store_change_2 n) := by
  refine fn_sound false (c := codeOf Try.f89) (tab := mkTab [(91, ⟨S_store_Store_call_1 n, [], [], false⟩)]) (cuts := mkCuts []) Try.func89 (by kernel_rfl) (.cons (ok_store_Store_call_1 n) ⟨_, Try.func91, by kernel_rfl⟩ .nil) (CutsOK.list (l := []) (by kernel_rfl) (fun _ h => by cases h)) (fun avs L b R h => ?_)
  rcases bySk_ok h with ⟨l, rfl, rfl, rfl, q0⟩ | q0
  · obtain ⟨x448, l, rfl, q1⟩ := lfD_ok q0
    obtain ⟨x449, l, rfl, q2⟩ := lfD_ok q1
    obtain ⟨x450, l, rfl, q3⟩ := lfD_ok q2
    obtain ⟨x451, l, rfl, q4⟩ := lfD_ok q3
    obtain ⟨x452, l, rfl, q5⟩ := lfD_ok q4
    obtain ⟨x453, l, rfl, q6⟩ := lfD_ok q5
    obtain ⟨x454, l, rfl, q7⟩ := lfD_ok q6
    obtain ⟨x455, l, rfl, q8⟩ := lfD_ok q7
    obtain ⟨rfl, q⟩ := lfE_ok q8
    exact run_sub q (by kernel_rfl)
  · exact False.elim q0.h
def F_store_Store_Put_2 (n : Nat) (x439 : List UInt8) (x443 : Bool) (x444 : List (List UInt8 × List (List UInt8 × Bool))) (x445 : List (List UInt8 × List UInt8 × Int)) : Tree ((Int) × ((Bool) × ((List (List UInt8 × List (List UInt8 × Bool))) × (List (List UInt8 × List UInt8 × Int))))) :=
  .sub (F_store_Named n x439) fun y446 =>
  .ite (!y446)
    (.ret ((1 : Int), x443, x444, x445))
    (.ite false
      (.ret ((2 : Int), x443, x444, x445))
      (.sub (F_slices_Clone___byte_byte__2 n) fun y447 =>
      .sub (F_store_Store_change_2 n ([112, 117, 116] : List UInt8) x439 x443 x444 x445) fun y459 =>
      .ret (y459.1, y459.2.1, y459.2.2.1, y459.2.2.2)))
def S_store_Store_Put_2 (n : Nat) : Summ := fun avs L b => bySk ⟨[(.ptr 0 0), (.val .str []), (.snil none)], [⟨0, 1, .box (.agg (.pr (.mpv 2) (.pr (.agg (.pr (.val (.sint .i64) (0 : Int)) (.pr (.val (.sint .i64) (0 : Int)) (.pr (.val (.sint .i64) (0 : Int)) .un)))) (.pr (.snil none) (.pr (.val .bool false) (.pr (.whole 4 3) .un))))))⟩, ⟨2, 3, .mp .str (.list (.rcd (.pair (.list .u8) .bool))) []⟩, ⟨4, 5, .row (.rcd (.pair .str (.pair .str (.sint .i64)))) []⟩], 6⟩ avs L b (fun l => lfD .str l fun (x439 : List UInt8) l => lfD (.sint .i64) l fun (x440 : Int) l => lfD (.sint .i64) l fun (x441 : Int) l => lfD (.sint .i64) l fun (x442 : Int) l => lfD .bool l fun (x443 : Bool) l => lfD (.list (.rcd (.pair .str (.list (.rcd (.pair (.list .u8) .bool)))))) l fun (x444 : List (List UInt8 × List (List UInt8 × Bool))) l => lfD (.list (.rcd (.pair .str (.pair .str (.sint .i64))))) l fun (x445 : List (List UInt8 × List UInt8 × Int)) l => lfE l (.sub (F_store_Store_Put_2 n x439 x443 x444 x445) fun r => .ret ((.val (.sint .i64) r.1), [⟨0, 7, .box (.agg (.pr (.mpv 2) (.pr (.agg (.pr (.val (.sint .i64) x440) (.pr (.val (.sint .i64) x441) (.pr (.val (.sint .i64) x442) .un)))) (.pr (.snil none) (.pr (.val .bool r.2.1) (.pr (.whole 10 3) .un))))))⟩, ⟨2, 9, .mp .str (.list (.rcd (.pair (.list .u8) .bool))) r.2.2.1⟩, ⟨10, 11, .row (.rcd (.pair .str (.pair .str (.sint .i64)))) r.2.2.2⟩], 12))) .fail
theorem ok_store_Store_Put_2 (n : Nat) : SoundF Try.prog 46 (S_store_Store_Put_2 n) := by
  refine fn_sound false (c := codeOf Try.f46) (tab := mkTab [(15, ⟨S_store_Named n, [], [], false⟩), (90, ⟨S_slices_Clone___byte_byte__2 n, [], [], false⟩), (89, ⟨S_store_Store_change_2 n, [], [], false⟩)]) (cuts := mkCuts []) Try.func46 (by kernel_rfl) (.cons (ok_store_Named n) ⟨_, Try.func15, by kernel_rfl⟩ (.cons (ok_slices_Clone___byte_byte__2 n) ⟨_, Try.func90, by kernel_rfl⟩ (.cons (ok_store_Store_change_2 n) ⟨_, Try.func89, by kernel_rfl⟩ .nil))) (CutsOK.list (l := []) (by kernel_rfl) (fun _ h => by cases h)) (fun avs L b R h => ?_)
  rcases bySk_ok h with ⟨l, rfl, rfl, rfl, q0⟩ | q0
  · obtain ⟨x439, l, rfl, q1⟩ := lfD_ok q0
    obtain ⟨x440, l, rfl, q2⟩ := lfD_ok q1
    obtain ⟨x441, l, rfl, q3⟩ := lfD_ok q2
    obtain ⟨x442, l, rfl, q4⟩ := lfD_ok q3
    obtain ⟨x443, l, rfl, q5⟩ := lfD_ok q4
    obtain ⟨x444, l, rfl, q6⟩ := lfD_ok q5
    obtain ⟨x445, l, rfl, q7⟩ := lfD_ok q6
    obtain ⟨rfl, q⟩ := lfE_ok q7
    exact run_sub q (by kernel_rfl)
  · exact False.elim q0.h
def F_hypogeumlaw16_awake (n : Nat) : Tree Bool :=
  .sub (F_store_New n) fun y49 =>
  .sub (F_store_Store_Put n ([97] : List UInt8) false ([] : List ((List UInt8) × (List ((List UInt8) × Bool)))) ([] : List (Int × (Int × ((List UInt8) × (List UInt8))))) ([] : List ((List UInt8) × ((List UInt8) × Int))) ([1] : List UInt8)) fun y119 =>
  .ite (!(Decidable.decide (y119.1 = (0 : Int))))
    (.ret false)
    (.sub (F_store_Store_Put n ([97] : List UInt8) y119.2.1 y119.2.2.1 y119.2.2.2.1 y119.2.2.2.2 ([2] : List UInt8)) fun y120 =>
    .ite (!(Decidable.decide (y120.1 = (0 : Int))))
      (.ret false)
      (.sub (F_store_Store_Script n (0 : Int) (0 : Int) (0 : Int) y120.2.1 y120.2.2.1 y120.2.2.2.2 ([((3 : Int), ((1 : Int), (([] : List UInt8), ([] : List UInt8)))), ((6 : Int), ((0 : Int), (([] : List UInt8), ([] : List UInt8))))] : List (Int × (Int × ((List UInt8) × (List UInt8)))))) fun y188 =>
      .alt y188 (fun y189 =>
        .sub (F_store_Store_Get n ([97] : List UInt8) y120.2.1 y120.2.2.1 y189 y120.2.2.2.2) fun y290 =>
        .alt y290 (fun y291 =>
          .sub (F_store_Store_Get n ([97] : List UInt8) y291.2.1 y120.2.2.1 y291.2.2.1 y291.2.2.2) fun y292 =>
          .alt y292 (fun y293 =>
            .ite false
              (.fail)
              (.ret false))
            fun y294 =>
            .alt y294 (fun y295 =>
              .ite false
                (.fail)
                (.ret false))
              fun y296 =>
              .ite false
                (.fail)
                (.ret false))
          fun y297 =>
          .alt y297 (fun y298 =>
            .sub (F_store_Store_Get n ([97] : List UInt8) y298.2.1 y120.2.2.1 y298.2.2.1 y298.2.2.2) fun y299 =>
            .alt y299 (fun y300 =>
              .ite (Decidable.decide ((Nat.cast (List.length y298.1) : Int) = (1 : Int)))
                (.get (Hyp.inI (List.length y298.1) (0 : Int)) fun y301 =>
                .get (GetElem?.getElem? y298.1 (0 + y301)) fun y302 =>
                .ite (Decidable.decide (y302 = (1 : UInt8)))
                  (.ite true
                    (.ite (Decidable.decide (y300.1 = (14 : Int)))
                      (.sub (F_store_Store_Dead n) fun y310 =>
                      .ite y300.2.1
                        (.sub (F_store_Store_Put_1 n ([97] : List UInt8) y300.2.1 y120.2.2.1 y300.2.2.1 y300.2.2.2) fun y322 =>
                        .ret (Decidable.decide (y322.1 = (14 : Int))))
                        (.ret false))
                      (.ret false))
                    (.ret false))
                  (.ret false))
                (.ret false))
              fun y323 =>
              .alt y323 (fun y324 =>
                .ite (Decidable.decide ((Nat.cast (List.length y298.1) : Int) = (1 : Int)))
                  (.get (Hyp.inI (List.length y298.1) (0 : Int)) fun y325 =>
                  .get (GetElem?.getElem? y298.1 (0 + y325)) fun y326 =>
                  .ite (Decidable.decide (y326 = (1 : UInt8)))
                    (.ite true
                      (.ite false
                        (.sub (F_store_Store_Dead n) fun y327 =>
                        .ite y324.2.1
                          (.sub (F_store_Store_Put_1 n ([97] : List UInt8) y324.2.1 y120.2.2.1 y324.2.2.1 y324.2.2.2) fun y328 =>
                          .ret (Decidable.decide (y328.1 = (14 : Int))))
                          (.ret false))
                        (.ret false))
                      (.ret false))
                    (.ret false))
                  (.ret false))
                fun y329 =>
                .ite (Decidable.decide ((Nat.cast (List.length y298.1) : Int) = (1 : Int)))
                  (.get (Hyp.inI (List.length y298.1) (0 : Int)) fun y330 =>
                  .get (GetElem?.getElem? y298.1 (0 + y330)) fun y331 =>
                  .ite (Decidable.decide (y331 = (1 : UInt8)))
                    (.ite true
                      (.ite false
                        (.sub (F_store_Store_Dead n) fun y332 =>
                        .ite y329.2.1
                          (.sub (F_store_Store_Put_1 n ([97] : List UInt8) y329.2.1 y120.2.2.1 y329.2.2.1 y329.2.2.2) fun y333 =>
                          .ret (Decidable.decide (y333.1 = (14 : Int))))
                          (.ret false))
                        (.ret false))
                      (.ret false))
                    (.ret false))
                  (.ret false))
            fun y334 =>
            .sub (F_store_Store_Get n ([97] : List UInt8) y334.2.1 y120.2.2.1 y334.2.2.1 y334.2.2.2) fun y335 =>
            .alt y335 (fun y336 =>
              .ite (Decidable.decide ((Nat.cast (List.length y334.1) : Int) = (1 : Int)))
                (.get (Hyp.getI y334.1 (0 : Int)) fun y337 =>
                .ite (Decidable.decide (y337 = (1 : UInt8)))
                  (.ite true
                    (.ite (Decidable.decide (y336.1 = (14 : Int)))
                      (.sub (F_store_Store_Dead n) fun y338 =>
                      .ite y336.2.1
                        (.sub (F_store_Store_Put_1 n ([97] : List UInt8) y336.2.1 y120.2.2.1 y336.2.2.1 y336.2.2.2) fun y339 =>
                        .ret (Decidable.decide (y339.1 = (14 : Int))))
                        (.ret false))
                      (.ret false))
                    (.ret false))
                  (.ret false))
                (.ret false))
              fun y340 =>
              .alt y340 (fun y341 =>
                .ite (Decidable.decide ((Nat.cast (List.length y334.1) : Int) = (1 : Int)))
                  (.get (Hyp.getI y334.1 (0 : Int)) fun y342 =>
                  .ite (Decidable.decide (y342 = (1 : UInt8)))
                    (.ite true
                      (.ite false
                        (.sub (F_store_Store_Dead n) fun y343 =>
                        .ite y341.2.1
                          (.sub (F_store_Store_Put_1 n ([97] : List UInt8) y341.2.1 y120.2.2.1 y341.2.2.1 y341.2.2.2) fun y344 =>
                          .ret (Decidable.decide (y344.1 = (14 : Int))))
                          (.ret false))
                        (.ret false))
                      (.ret false))
                    (.ret false))
                  (.ret false))
                fun y345 =>
                .ite (Decidable.decide ((Nat.cast (List.length y334.1) : Int) = (1 : Int)))
                  (.get (Hyp.getI y334.1 (0 : Int)) fun y346 =>
                  .ite (Decidable.decide (y346 = (1 : UInt8)))
                    (.ite true
                      (.ite false
                        (.sub (F_store_Store_Dead n) fun y347 =>
                        .ite y345.2.1
                          (.sub (F_store_Store_Put_1 n ([97] : List UInt8) y345.2.1 y120.2.2.1 y345.2.2.1 y345.2.2.2) fun y348 =>
                          .ret (Decidable.decide (y348.1 = (14 : Int))))
                          (.ret false))
                        (.ret false))
                      (.ret false))
                    (.ret false))
                  (.ret false))
        fun y349 =>
        .sub (F_store_Store_Get_1 n ([97] : List UInt8) y120.2.1 y120.2.2.1 y120.2.2.2.2) fun y419 =>
        .alt y419 (fun y420 =>
          .sub (F_store_Store_Get_1 n ([97] : List UInt8) y420.2.1 y120.2.2.1 y420.2.2) fun y421 =>
          .alt y421 (fun y422 =>
            .ite false
              (.fail)
              (.ret false))
            fun y423 =>
            .alt y423 (fun y424 =>
              .ite false
                (.fail)
                (.ret false))
              fun y425 =>
              .ite false
                (.fail)
                (.ret false))
          fun y426 =>
          .alt y426 (fun y427 =>
            .sub (F_store_Store_Get_1 n ([97] : List UInt8) y427.2.1 y120.2.2.1 y427.2.2) fun y428 =>
            .alt y428 (fun y429 =>
              .ite (Decidable.decide ((Nat.cast (List.length y427.1) : Int) = (1 : Int)))
                (.get (Hyp.inI (List.length y427.1) (0 : Int)) fun y430 =>
                .get (GetElem?.getElem? y427.1 (0 + y430)) fun y431 =>
                .ite (Decidable.decide (y431 = (1 : UInt8)))
                  (.ite true
                    (.ite (Decidable.decide (y429.1 = (14 : Int)))
                      (.sub (F_store_Store_Dead_1 n) fun y438 =>
                      .ite y429.2.1
                        (.sub (F_store_Store_Put_2 n ([97] : List UInt8) y429.2.1 y120.2.2.1 y429.2.2) fun y460 =>
                        .ret (Decidable.decide (y460.1 = (14 : Int))))
                        (.ret false))
                      (.ret false))
                    (.ret false))
                  (.ret false))
                (.ret false))
              fun y461 =>
              .alt y461 (fun y462 =>
                .ite (Decidable.decide ((Nat.cast (List.length y427.1) : Int) = (1 : Int)))
                  (.get (Hyp.inI (List.length y427.1) (0 : Int)) fun y463 =>
                  .get (GetElem?.getElem? y427.1 (0 + y463)) fun y464 =>
                  .ite (Decidable.decide (y464 = (1 : UInt8)))
                    (.ite true
                      (.ite false
                        (.sub (F_store_Store_Dead_1 n) fun y465 =>
                        .ite y462.2.1
                          (.sub (F_store_Store_Put_2 n ([97] : List UInt8) y462.2.1 y120.2.2.1 y462.2.2) fun y466 =>
                          .ret (Decidable.decide (y466.1 = (14 : Int))))
                          (.ret false))
                        (.ret false))
                      (.ret false))
                    (.ret false))
                  (.ret false))
                fun y467 =>
                .ite (Decidable.decide ((Nat.cast (List.length y427.1) : Int) = (1 : Int)))
                  (.get (Hyp.inI (List.length y427.1) (0 : Int)) fun y468 =>
                  .get (GetElem?.getElem? y427.1 (0 + y468)) fun y469 =>
                  .ite (Decidable.decide (y469 = (1 : UInt8)))
                    (.ite true
                      (.ite false
                        (.sub (F_store_Store_Dead_1 n) fun y470 =>
                        .ite y467.2.1
                          (.sub (F_store_Store_Put_2 n ([97] : List UInt8) y467.2.1 y120.2.2.1 y467.2.2) fun y471 =>
                          .ret (Decidable.decide (y471.1 = (14 : Int))))
                          (.ret false))
                        (.ret false))
                      (.ret false))
                    (.ret false))
                  (.ret false))
            fun y472 =>
            .sub (F_store_Store_Get_1 n ([97] : List UInt8) y472.2.1 y120.2.2.1 y472.2.2) fun y473 =>
            .alt y473 (fun y474 =>
              .ite (Decidable.decide ((Nat.cast (List.length y472.1) : Int) = (1 : Int)))
                (.get (Hyp.getI y472.1 (0 : Int)) fun y475 =>
                .ite (Decidable.decide (y475 = (1 : UInt8)))
                  (.ite true
                    (.ite (Decidable.decide (y474.1 = (14 : Int)))
                      (.sub (F_store_Store_Dead_1 n) fun y476 =>
                      .ite y474.2.1
                        (.sub (F_store_Store_Put_2 n ([97] : List UInt8) y474.2.1 y120.2.2.1 y474.2.2) fun y477 =>
                        .ret (Decidable.decide (y477.1 = (14 : Int))))
                        (.ret false))
                      (.ret false))
                    (.ret false))
                  (.ret false))
                (.ret false))
              fun y478 =>
              .alt y478 (fun y479 =>
                .ite (Decidable.decide ((Nat.cast (List.length y472.1) : Int) = (1 : Int)))
                  (.get (Hyp.getI y472.1 (0 : Int)) fun y480 =>
                  .ite (Decidable.decide (y480 = (1 : UInt8)))
                    (.ite true
                      (.ite false
                        (.sub (F_store_Store_Dead_1 n) fun y481 =>
                        .ite y479.2.1
                          (.sub (F_store_Store_Put_2 n ([97] : List UInt8) y479.2.1 y120.2.2.1 y479.2.2) fun y482 =>
                          .ret (Decidable.decide (y482.1 = (14 : Int))))
                          (.ret false))
                        (.ret false))
                      (.ret false))
                    (.ret false))
                  (.ret false))
                fun y483 =>
                .ite (Decidable.decide ((Nat.cast (List.length y472.1) : Int) = (1 : Int)))
                  (.get (Hyp.getI y472.1 (0 : Int)) fun y484 =>
                  .ite (Decidable.decide (y484 = (1 : UInt8)))
                    (.ite true
                      (.ite false
                        (.sub (F_store_Store_Dead_1 n) fun y485 =>
                        .ite y483.2.1
                          (.sub (F_store_Store_Put_2 n ([97] : List UInt8) y483.2.1 y120.2.2.1 y483.2.2) fun y486 =>
                          .ret (Decidable.decide (y486.1 = (14 : Int))))
                          (.ret false))
                        (.ret false))
                      (.ret false))
                    (.ret false))
                  (.ret false)))
def S_hypogeumlaw16_awake (n : Nat) : Summ := fun avs L b => bySk ⟨[], [], 0⟩ avs L b (fun l => lfE l (.sub (F_hypogeumlaw16_awake n) fun r => .ret ((.val .bool r), [], 0))) .fail
theorem ok_hypogeumlaw16_awake (n : Nat) : SoundF Try.prog 17 (S_hypogeumlaw16_awake n) := by
  refine fn_sound true (c := codeOf Try.f17) (tab := mkTab [(45, ⟨S_store_New n, [], [], false⟩), (46, ⟨orS (S_store_Store_Put n) (orS (S_store_Store_Put_1 n) (S_store_Store_Put_2 n)), [], [], false⟩), (56, ⟨S_store_Store_Script n, [], [], false⟩), (49, ⟨orS (S_store_Store_Get n) (S_store_Store_Get_1 n), [], [], false⟩), (52, ⟨orS (S_store_Store_Dead n) (S_store_Store_Dead_1 n), [], [], false⟩)]) (cuts := mkCuts []) Try.func17 (by kernel_rfl) (.cons (ok_store_New n) ⟨_, Try.func45, by kernel_rfl⟩ (.cons (.or (ok_store_Store_Put n) (.or (ok_store_Store_Put_1 n) (ok_store_Store_Put_2 n))) ⟨_, Try.func46, by kernel_rfl⟩ (.cons (ok_store_Store_Script n) ⟨_, Try.func56, by kernel_rfl⟩ (.cons (.or (ok_store_Store_Get n) (ok_store_Store_Get_1 n)) ⟨_, Try.func49, by kernel_rfl⟩ (.cons (.or (ok_store_Store_Dead n) (ok_store_Store_Dead_1 n)) ⟨_, Try.func52, by kernel_rfl⟩ .nil))))) (CutsOK.list (l := []) (by kernel_rfl) (fun _ h => by cases h)) (fun avs L b R h => ?_)
  rcases bySk_ok h with ⟨l, rfl, rfl, rfl, q0⟩ | q0
  · obtain ⟨rfl, q⟩ := lfE_ok q0
    exact run_sub q (by kernel_rfl)
  · exact False.elim q0.h
def F_hypogeumlaw16_StoreNames (n : Nat) (x0 : List UInt8) : Tree Bool :=
  .sub (F_store_Named n x0) fun y17 =>
  .sub (F_hypogeumref16_Named n x0) fun y48 =>
  .ite (BEq.beq y17 y48)
    (.sub (F_hypogeumlaw16_awake n) fun y487 =>
    .ret y487)
    (.ret false)
def S_hypogeumlaw16_StoreNames (n : Nat) : Summ := fun avs L b => bySk ⟨[(.val .str [])], [], 0⟩ avs L b (fun l => lfD .str l fun (x0 : List UInt8) l => lfE l (.sub (F_hypogeumlaw16_StoreNames n x0) fun r => .ret ((.val .bool r), [], 0))) .fail
theorem ok_hypogeumlaw16_StoreNames (n : Nat) : SoundF Try.prog 3 (S_hypogeumlaw16_StoreNames n) := by
  refine fn_sound true (c := codeOf Try.f3) (tab := mkTab [(15, ⟨S_store_Named n, [], [], false⟩), (16, ⟨S_hypogeumref16_Named n, [], [], true⟩), (17, ⟨S_hypogeumlaw16_awake n, [], [], false⟩)]) (cuts := mkCuts []) Try.func3 (by kernel_rfl) (.cons (ok_store_Named n) ⟨_, Try.func15, by kernel_rfl⟩ (.cons (ok_hypogeumref16_Named n) ⟨_, Try.func16, by kernel_rfl⟩ (.cons (ok_hypogeumlaw16_awake n) ⟨_, Try.func17, by kernel_rfl⟩ .nil))) (CutsOK.list (l := []) (by kernel_rfl) (fun _ h => by cases h)) (fun avs L b R h => ?_)
  rcases bySk_ok h with ⟨l, rfl, rfl, rfl, q0⟩ | q0
  · obtain ⟨x0, l, rfl, q1⟩ := lfD_ok q0
    obtain ⟨rfl, q⟩ := lfE_ok q1
    exact run_sub q (by kernel_rfl)
  · exact False.elim q0.h
end Hyp
