/- Printed by Gen.lean.tpl (this work's own): Go functions as pure functions, each with the proof that the Go code comes to its answers. -/
import Derived.Test.YtkpbpjmbkhkmnaaMs
import Derived.Test.YtkpbpjmbkhkmnaaChecked
set_option linter.unusedVariables false
set_option maxRecDepth 100000
set_option maxHeartbeats 4000000
namespace Hyp
open Go Go.Proofs
def C_18_0 : CutF → Cut := fun κ => ⟨[1, 3], fun e => match e with | .ex i => bif Nat.beq i 0 then [] else [] | .rt => [2] | .nm => [], κ⟩
def C_25_0 : CutF → Cut := fun κ => ⟨[0, 3], fun e => match e with | .ex i => bif Nat.beq i 0 then [] else [] | .rt => [2] | .nm => [], κ⟩
def F_hypogeumref16_Named_l0 (n : Nat) : Nat → (List UInt8) → (Int) → Tree (Unit ⊕ Unit)
  | 0 => fun  x19 x20 => .fail
  | k + 1 => fun x19 x20 =>
      .ite (Decidable.decide (x20 < (Nat.cast (List.length x19))))
        (.get (Hyp.getI x19 x20) fun y30 =>
        .ite (Decidable.decide ((97 : UInt8) ≤ y30))
          (.get (Hyp.getI x19 x20) fun y31 =>
          .get (Hyp.getI x19 x20) fun y32 =>
          .ite (Decidable.decide ((48 : UInt8) ≤ y32))
            (.get (Hyp.getI x19 x20) fun y33 =>
            .ite ((!(Decidable.decide (y31 ≤ (122 : UInt8)))) && (!(Decidable.decide (y33 ≤ (57 : UInt8)))))
              (.ret (.inl ()))
              (.sub (F_hypogeumref16_Named_l0 n k x19 (Go.IntKind.wrap Go.IntKind.i64 (x20 + (1 : Int)))) fun y34 =>
              .alt y34 (fun y35 =>
                .ret (.inl ()))
                fun y36 =>
                .ret (.inr ())))
            (.ite (!(Decidable.decide (y31 ≤ (122 : UInt8))))
              (.ret (.inl ()))
              (.sub (F_hypogeumref16_Named_l0 n k x19 (Go.IntKind.wrap Go.IntKind.i64 (x20 + (1 : Int)))) fun y37 =>
              .alt y37 (fun y38 =>
                .ret (.inl ()))
                fun y39 =>
                .ret (.inr ()))))
          (.get (Hyp.getI x19 x20) fun y40 =>
          .ite (Decidable.decide ((48 : UInt8) ≤ y40))
            (.get (Hyp.getI x19 x20) fun y41 =>
            .ite (!(Decidable.decide (y41 ≤ (57 : UInt8))))
              (.ret (.inl ()))
              (.sub (F_hypogeumref16_Named_l0 n k x19 (Go.IntKind.wrap Go.IntKind.i64 (x20 + (1 : Int)))) fun y42 =>
              .alt y42 (fun y43 =>
                .ret (.inl ()))
                fun y44 =>
                .ret (.inr ())))
            (.ret (.inl ()))))
        (.ret (.inr ()))
def S_hypogeumref16_Named_l0 (n k : Nat) : CutF := fun avs L b => bySk ⟨[(.val .str []), (.val (.sint .i64) (0 : Int))], [], 0⟩ avs L b (fun l => lfD .str l fun (x19 : List UInt8) l => lfD (.sint .i64) l fun (x20 : Int) l => lfE l (.sub (F_hypogeumref16_Named_l0 n k x19 x20) fun r => .alt r (fun r => .ret (.rt, [(.val .bool false)], [], 0)) (fun r => .ret (.ex 0, [], [], 0)))) .fail
theorem ok_hypogeumref16_Named_l0 (n : Nat) : ∀ k, SoundC Try.prog (Go.Func.ntmps Try.f25) (.loop (bodyOf Try.f25 0)) (wr (bodyOf Try.f25 0)) (C_25_0 (S_hypogeumref16_Named_l0 n k)) := by
  refine loop_sound (tab := mkTab []) (cuts := mkCuts []) .nil (CutsOK.list (l := []) (by kernel_rfl) (fun _ h => by cases h)) (by kernel_rfl) (fun avs L b R h => ?_) (fun k avs L b R h => ?_)
  · rcases bySk_ok h with ⟨l, rfl, rfl, rfl, q0⟩ | q0
    · obtain ⟨x19, l, rfl, q1⟩ := lfD_ok q0
      obtain ⟨x20, l, rfl, q2⟩ := lfD_ok q1
      obtain ⟨rfl, q⟩ := lfE_ok q2
      exact False.elim q.h
    · exact False.elim q0.h
  · rcases bySk_ok h with ⟨l, rfl, rfl, rfl, q0⟩ | q0
    · obtain ⟨x19, l, rfl, q1⟩ := lfD_ok q0
      obtain ⟨x20, l, rfl, q2⟩ := lfD_ok q1
      obtain ⟨rfl, q⟩ := lfE_ok q2
      exact run_subs (k' := fun r => (match r with | .inl r => .ret (.rt, [(.val .bool false)], [], 0) | .inr r => .ret (.ex 0, [], [], 0))) q (fun y hy => by rcases y with y | y <;> exact ⟨hy.h⟩) (by kernel_rfl)
    · exact False.elim q0.h
def F_hypogeumref16_Named (n : Nat) (x18 : List UInt8) : Tree Bool :=
  .sub (F_hypogeumref16_Named_l0 n n x18 (0 : Int)) fun y45 =>
  .alt y45 (fun y46 =>
    .ret false)
    fun y47 =>
    .ret ((Decidable.decide ((1 : Int) ≤ (Nat.cast (List.length x18)))) && (Decidable.decide ((Nat.cast (List.length x18)) ≤ (32 : Int))))
def S_hypogeumref16_Named (n : Nat) : Summ := fun avs L b => bySk ⟨[(.val .str [])], [], 0⟩ avs L b (fun l => lfD .str l fun (x18 : List UInt8) l => lfE l (.sub (F_hypogeumref16_Named n x18) fun r => .ret ((.val .bool r), [], 0))) .fail
theorem ok_hypogeumref16_Named (n : Nat) : SoundF Try.prog 25 (S_hypogeumref16_Named n) := by
  refine fn_sound true (c := codeOf Try.f25) (tab := mkTab []) (cuts := mkCuts [(0, C_25_0 (S_hypogeumref16_Named_l0 n n))]) Try.func25 (by kernel_rfl) .nil (CutsOK.list (l := [(0, bodyOf Try.f25 0)]) (by kernel_rfl) (LoopsOK.all ⟨.inr ⟨_, rfl, ok_hypogeumref16_Named_l0 n n⟩, trivial⟩)) (fun avs L b R h => ?_)
  rcases bySk_ok h with ⟨l, rfl, rfl, rfl, q0⟩ | q0
  · obtain ⟨x18, l, rfl, q1⟩ := lfD_ok q0
    obtain ⟨rfl, q⟩ := lfE_ok q1
    exact run_sub q (by kernel_rfl)
  · exact False.elim q0.h
def F_hypogeumref23_Right_l0 (n : Nat) : Nat → (Int) → (Int) → (Int) → (Int) → (Int) → (List (List UInt8 × List UInt8)) → (List (Int × List UInt8)) → Tree (Unit ⊕ Unit)
  | 0 => fun  x9 x10 x11 x12 x13 x14 x15 => .fail
  | k + 1 => fun x9 x10 x11 x12 x13 x14 x15 =>
      .ite (Decidable.decide (x9 < (Nat.cast (List.length x14))))
        (.get (Hyp.inI (List.length x14) x9) fun y55 =>
        .get (GetElem?.getElem? x14 (0 + y55)) fun y56 =>
        .get (Hyp.Tree.run (F_hypogeumref16_Named n y56.1)) fun y57 =>
        .ite (!y57)
          (.ret (.inl ()))
          (.ite (Decidable.decide ((0 : Int) < x9))
            (.get (Hyp.inI (List.length x14) x9) fun y58 =>
            .get (GetElem?.getElem? x14 (0 + y58)) fun y59 =>
            .get (Hyp.inI (List.length x14) (Go.IntKind.wrap Go.IntKind.i64 (x9 - (1 : Int)))) fun y60 =>
            .get (GetElem?.getElem? x14 (0 + y60)) fun y61 =>
            .ite ((Hyp.strLt y59.1 y61.1) || (Decidable.decide (y59.1 = y61.1)))
              (.ret (.inl ()))
              (.sub (F_hypogeumref23_Right_l0 n k (Go.IntKind.wrap Go.IntKind.i64 (x9 + (1 : Int))) x10 x11 x12 x13 x14 x15) fun y62 =>
              .alt y62 (fun y63 =>
                .ret (.inl ()))
                fun y64 =>
                .ret (.inr ())))
            (.sub (F_hypogeumref23_Right_l0 n k (Go.IntKind.wrap Go.IntKind.i64 (x9 + (1 : Int))) x10 x11 x12 x13 x14 x15) fun y65 =>
            .alt y65 (fun y66 =>
              .ret (.inl ()))
              fun y67 =>
              .ret (.inr ()))))
        (.ret (.inr ()))
def S_hypogeumref23_Right_l0 (n k : Nat) : CutF := fun avs L b => bySk ⟨[(.ptr 0 0), (.val (.sint .i64) (0 : Int))], [⟨0, 1, .box (.agg (.pr (.val (.sint .i64) (0 : Int)) (.pr (.val (.sint .i64) (0 : Int)) (.pr (.val (.sint .i64) (0 : Int)) (.pr (.val (.sint .i64) (0 : Int)) (.pr (.whole 2 33) (.pr (.whole 4 33) .un)))))))⟩, ⟨2, 3, .row (.rcd (.pair .str (.arr 32 .u8))) []⟩, ⟨4, 5, .row (.rcd (.pair (.sint .i64) (.arr 32 .u8))) []⟩], 6⟩ avs L b (fun l => lfD (.sint .i64) l fun (x9 : Int) l => lfD (.sint .i64) l fun (x10 : Int) l => lfD (.sint .i64) l fun (x11 : Int) l => lfD (.sint .i64) l fun (x12 : Int) l => lfD (.sint .i64) l fun (x13 : Int) l => lfD (.list (.rcd (.pair .str (.arr 32 .u8)))) l fun (x14 : List (List UInt8 × List UInt8)) l => lfD (.list (.rcd (.pair (.sint .i64) (.arr 32 .u8)))) l fun (x15 : List (Int × List UInt8)) l => lfE l (.sub (F_hypogeumref23_Right_l0 n k x9 x10 x11 x12 x13 x14 x15) fun r => .alt r (fun r => .ret (.rt, [(.val .bool false)], [⟨0, 7, .box (.agg (.pr (.val (.sint .i64) x10) (.pr (.val (.sint .i64) x11) (.pr (.val (.sint .i64) x12) (.pr (.val (.sint .i64) x13) (.pr (.whole 8 33) (.pr (.whole 10 33) .un)))))))⟩, ⟨8, 9, .row (.rcd (.pair .str (.arr 32 .u8))) x14⟩, ⟨10, 11, .row (.rcd (.pair (.sint .i64) (.arr 32 .u8))) x15⟩], 12)) (fun r => .ret (.ex 0, [], [⟨0, 7, .box (.agg (.pr (.val (.sint .i64) x10) (.pr (.val (.sint .i64) x11) (.pr (.val (.sint .i64) x12) (.pr (.val (.sint .i64) x13) (.pr (.whole 8 33) (.pr (.whole 10 33) .un)))))))⟩, ⟨8, 9, .row (.rcd (.pair .str (.arr 32 .u8))) x14⟩, ⟨10, 11, .row (.rcd (.pair (.sint .i64) (.arr 32 .u8))) x15⟩], 12)))) .fail
theorem ok_hypogeumref23_Right_l0 (n : Nat) : ∀ k, SoundC Try.prog (Go.Func.ntmps Try.f18) (.loop (bodyOf Try.f18 0)) (wr (bodyOf Try.f18 0)) (C_18_0 (S_hypogeumref23_Right_l0 n k)) := by
  refine loop_sound (tab := mkTab [(25, ⟨S_hypogeumref16_Named n, [], []⟩)]) (cuts := mkCuts []) (.cons (ok_hypogeumref16_Named n) ⟨_, Try.func25, by kernel_rfl⟩ .nil) (CutsOK.list (l := []) (by kernel_rfl) (fun _ h => by cases h)) (by kernel_rfl) (fun avs L b R h => ?_) (fun k avs L b R h => ?_)
  · rcases bySk_ok h with ⟨l, rfl, rfl, rfl, q0⟩ | q0
    · obtain ⟨x9, l, rfl, q1⟩ := lfD_ok q0
      obtain ⟨x10, l, rfl, q2⟩ := lfD_ok q1
      obtain ⟨x11, l, rfl, q3⟩ := lfD_ok q2
      obtain ⟨x12, l, rfl, q4⟩ := lfD_ok q3
      obtain ⟨x13, l, rfl, q5⟩ := lfD_ok q4
      obtain ⟨x14, l, rfl, q6⟩ := lfD_ok q5
      obtain ⟨x15, l, rfl, q7⟩ := lfD_ok q6
      obtain ⟨rfl, q⟩ := lfE_ok q7
      exact False.elim q.h
    · exact False.elim q0.h
  · rcases bySk_ok h with ⟨l, rfl, rfl, rfl, q0⟩ | q0
    · obtain ⟨x9, l, rfl, q1⟩ := lfD_ok q0
      obtain ⟨x10, l, rfl, q2⟩ := lfD_ok q1
      obtain ⟨x11, l, rfl, q3⟩ := lfD_ok q2
      obtain ⟨x12, l, rfl, q4⟩ := lfD_ok q3
      obtain ⟨x13, l, rfl, q5⟩ := lfD_ok q4
      obtain ⟨x14, l, rfl, q6⟩ := lfD_ok q5
      obtain ⟨x15, l, rfl, q7⟩ := lfD_ok q6
      obtain ⟨rfl, q⟩ := lfE_ok q7
      exact run_subs (k' := fun r => (match r with | .inl r => .ret (.rt, [(.val .bool false)], [⟨0, 7, .box (.agg (.pr (.val (.sint .i64) x10) (.pr (.val (.sint .i64) x11) (.pr (.val (.sint .i64) x12) (.pr (.val (.sint .i64) x13) (.pr (.whole 8 33) (.pr (.whole 10 33) .un)))))))⟩, ⟨8, 9, .row (.rcd (.pair .str (.arr 32 .u8))) x14⟩, ⟨10, 11, .row (.rcd (.pair (.sint .i64) (.arr 32 .u8))) x15⟩], 12) | .inr r => .ret (.ex 0, [], [⟨0, 7, .box (.agg (.pr (.val (.sint .i64) x10) (.pr (.val (.sint .i64) x11) (.pr (.val (.sint .i64) x12) (.pr (.val (.sint .i64) x13) (.pr (.whole 8 33) (.pr (.whole 10 33) .un)))))))⟩, ⟨8, 9, .row (.rcd (.pair .str (.arr 32 .u8))) x14⟩, ⟨10, 11, .row (.rcd (.pair (.sint .i64) (.arr 32 .u8))) x15⟩], 12))) q (fun y hy => by rcases y with y | y <;> exact ⟨hy.h⟩) (by kernel_rfl)
    · exact False.elim q0.h
def C_18_2 : CutF → Cut := fun κ => ⟨[1, 4], fun e => match e with | .ex i => bif Nat.beq i 2 then [] else [] | .rt => [2] | .nm => [], κ⟩
def F_hypogeumref23_Right_l2 (n : Nat) : Nat → (Int) → (Int) → (Int) → (Int) → (Int) → (List (List UInt8 × List UInt8)) → (List (Int × List UInt8)) → Tree (Unit ⊕ Unit)
  | 0 => fun  x71 x72 x73 x74 x75 x76 x77 => .fail
  | k + 1 => fun x71 x72 x73 x74 x75 x76 x77 =>
      .ite (Decidable.decide (x71 < (Nat.cast (List.length x77))))
        (.get (Hyp.inI (List.length x77) x71) fun y84 =>
        .get (GetElem?.getElem? x77 (0 + y84)) fun y85 =>
        .ite (Decidable.decide (y85.1 < (1 : Int)))
          (.ret (.inl ()))
          (.ite (Decidable.decide (x75 ≤ y85.1))
            (.ret (.inl ()))
            (.ite (Decidable.decide ((0 : Int) < x71))
              (.get (Hyp.inI (List.length x77) (Go.IntKind.wrap Go.IntKind.i64 (x71 - (1 : Int)))) fun y86 =>
              .get (GetElem?.getElem? x77 (0 + y86)) fun y87 =>
              .ite (Decidable.decide (y85.1 ≤ y87.1))
                (.ret (.inl ()))
                (.sub (F_hypogeumref23_Right_l2 n k (Go.IntKind.wrap Go.IntKind.i64 (x71 + (1 : Int))) x72 x73 x74 x75 x76 x77) fun y88 =>
                .alt y88 (fun y89 =>
                  .ret (.inl ()))
                  fun y90 =>
                  .ret (.inr ())))
              (.sub (F_hypogeumref23_Right_l2 n k (Go.IntKind.wrap Go.IntKind.i64 (x71 + (1 : Int))) x72 x73 x74 x75 x76 x77) fun y91 =>
              .alt y91 (fun y92 =>
                .ret (.inl ()))
                fun y93 =>
                .ret (.inr ())))))
        (.ret (.inr ()))
def S_hypogeumref23_Right_l2 (n k : Nat) : CutF := fun avs L b => bySk ⟨[(.ptr 0 0), (.val (.sint .i64) (0 : Int))], [⟨0, 1, .box (.agg (.pr (.val (.sint .i64) (0 : Int)) (.pr (.val (.sint .i64) (0 : Int)) (.pr (.val (.sint .i64) (0 : Int)) (.pr (.val (.sint .i64) (0 : Int)) (.pr (.whole 2 33) (.pr (.whole 4 33) .un)))))))⟩, ⟨2, 3, .row (.rcd (.pair .str (.arr 32 .u8))) []⟩, ⟨4, 5, .row (.rcd (.pair (.sint .i64) (.arr 32 .u8))) []⟩], 6⟩ avs L b (fun l => lfD (.sint .i64) l fun (x71 : Int) l => lfD (.sint .i64) l fun (x72 : Int) l => lfD (.sint .i64) l fun (x73 : Int) l => lfD (.sint .i64) l fun (x74 : Int) l => lfD (.sint .i64) l fun (x75 : Int) l => lfD (.list (.rcd (.pair .str (.arr 32 .u8)))) l fun (x76 : List (List UInt8 × List UInt8)) l => lfD (.list (.rcd (.pair (.sint .i64) (.arr 32 .u8)))) l fun (x77 : List (Int × List UInt8)) l => lfE l (.sub (F_hypogeumref23_Right_l2 n k x71 x72 x73 x74 x75 x76 x77) fun r => .alt r (fun r => .ret (.rt, [(.val .bool false)], [⟨0, 7, .box (.agg (.pr (.val (.sint .i64) x72) (.pr (.val (.sint .i64) x73) (.pr (.val (.sint .i64) x74) (.pr (.val (.sint .i64) x75) (.pr (.whole 8 33) (.pr (.whole 10 33) .un)))))))⟩, ⟨8, 9, .row (.rcd (.pair .str (.arr 32 .u8))) x76⟩, ⟨10, 11, .row (.rcd (.pair (.sint .i64) (.arr 32 .u8))) x77⟩], 12)) (fun r => .ret (.ex 2, [], [⟨0, 7, .box (.agg (.pr (.val (.sint .i64) x72) (.pr (.val (.sint .i64) x73) (.pr (.val (.sint .i64) x74) (.pr (.val (.sint .i64) x75) (.pr (.whole 8 33) (.pr (.whole 10 33) .un)))))))⟩, ⟨8, 9, .row (.rcd (.pair .str (.arr 32 .u8))) x76⟩, ⟨10, 11, .row (.rcd (.pair (.sint .i64) (.arr 32 .u8))) x77⟩], 12)))) .fail
theorem ok_hypogeumref23_Right_l2 (n : Nat) : ∀ k, SoundC Try.prog (Go.Func.ntmps Try.f18) (.loop (bodyOf Try.f18 2)) (wr (bodyOf Try.f18 2)) (C_18_2 (S_hypogeumref23_Right_l2 n k)) := by
  refine loop_sound (tab := mkTab []) (cuts := mkCuts []) .nil (CutsOK.list (l := []) (by kernel_rfl) (fun _ h => by cases h)) (by kernel_rfl) (fun avs L b R h => ?_) (fun k avs L b R h => ?_)
  · rcases bySk_ok h with ⟨l, rfl, rfl, rfl, q0⟩ | q0
    · obtain ⟨x71, l, rfl, q1⟩ := lfD_ok q0
      obtain ⟨x72, l, rfl, q2⟩ := lfD_ok q1
      obtain ⟨x73, l, rfl, q3⟩ := lfD_ok q2
      obtain ⟨x74, l, rfl, q4⟩ := lfD_ok q3
      obtain ⟨x75, l, rfl, q5⟩ := lfD_ok q4
      obtain ⟨x76, l, rfl, q6⟩ := lfD_ok q5
      obtain ⟨x77, l, rfl, q7⟩ := lfD_ok q6
      obtain ⟨rfl, q⟩ := lfE_ok q7
      exact False.elim q.h
    · exact False.elim q0.h
  · rcases bySk_ok h with ⟨l, rfl, rfl, rfl, q0⟩ | q0
    · obtain ⟨x71, l, rfl, q1⟩ := lfD_ok q0
      obtain ⟨x72, l, rfl, q2⟩ := lfD_ok q1
      obtain ⟨x73, l, rfl, q3⟩ := lfD_ok q2
      obtain ⟨x74, l, rfl, q4⟩ := lfD_ok q3
      obtain ⟨x75, l, rfl, q5⟩ := lfD_ok q4
      obtain ⟨x76, l, rfl, q6⟩ := lfD_ok q5
      obtain ⟨x77, l, rfl, q7⟩ := lfD_ok q6
      obtain ⟨rfl, q⟩ := lfE_ok q7
      exact run_subs (k' := fun r => (match r with | .inl r => .ret (.rt, [(.val .bool false)], [⟨0, 7, .box (.agg (.pr (.val (.sint .i64) x72) (.pr (.val (.sint .i64) x73) (.pr (.val (.sint .i64) x74) (.pr (.val (.sint .i64) x75) (.pr (.whole 8 33) (.pr (.whole 10 33) .un)))))))⟩, ⟨8, 9, .row (.rcd (.pair .str (.arr 32 .u8))) x76⟩, ⟨10, 11, .row (.rcd (.pair (.sint .i64) (.arr 32 .u8))) x77⟩], 12) | .inr r => .ret (.ex 2, [], [⟨0, 7, .box (.agg (.pr (.val (.sint .i64) x72) (.pr (.val (.sint .i64) x73) (.pr (.val (.sint .i64) x74) (.pr (.val (.sint .i64) x75) (.pr (.whole 8 33) (.pr (.whole 10 33) .un)))))))⟩, ⟨8, 9, .row (.rcd (.pair .str (.arr 32 .u8))) x76⟩, ⟨10, 11, .row (.rcd (.pair (.sint .i64) (.arr 32 .u8))) x77⟩], 12))) q (fun y hy => by rcases y with y | y <;> exact ⟨hy.h⟩) (by kernel_rfl)
    · exact False.elim q0.h
def F_hypogeumref23_Right (n : Nat) (x5 : Int) (x6 : Int) (x7 : Int) (x8 : Int) : Tree Bool :=
  .ite ((Decidable.decide (x5 < (1 : Int))) || ((Decidable.decide ((1099511627776 : Int) < x5)) || ((Decidable.decide (x6 < (1 : Int))) || ((Decidable.decide ((1099511627776 : Int) < x6)) || ((Decidable.decide (x7 < (1 : Int))) || ((Decidable.decide ((64 : Int) < x7)) || ((Decidable.decide (x8 < (1 : Int))) || (Decidable.decide ((1099511627776 : Int) < x8)))))))))
    (.ret false)
    (.ite false
      (.ret false)
      (.sub (F_hypogeumref23_Right_l0 n n (0 : Int) x5 x6 x7 x8 ([] : List ((List UInt8) × (List UInt8))) ([] : List (Int × (List UInt8)))) fun y68 =>
      .alt y68 (fun y69 =>
        .ret false)
        fun y70 =>
        .sub (F_hypogeumref23_Right_l2 n n (0 : Int) x5 x6 x7 x8 ([] : List ((List UInt8) × (List UInt8))) ([] : List (Int × (List UInt8)))) fun y94 =>
        .alt y94 (fun y95 =>
          .ret false)
          fun y96 =>
          .ret true))
def S_hypogeumref23_Right (n : Nat) : Summ := fun avs L b => bySk ⟨[(.agg (.pr (.val (.sint .i64) (0 : Int)) (.pr (.val (.sint .i64) (0 : Int)) (.pr (.val (.sint .i64) (0 : Int)) (.pr (.val (.sint .i64) (0 : Int)) (.pr (.snil (some (.rcd (.pair .str (.arr 32 .u8))))) (.pr (.snil (some (.rcd (.pair (.sint .i64) (.arr 32 .u8))))) .un)))))))], [], 0⟩ avs L b (fun l => lfD (.sint .i64) l fun (x5 : Int) l => lfD (.sint .i64) l fun (x6 : Int) l => lfD (.sint .i64) l fun (x7 : Int) l => lfD (.sint .i64) l fun (x8 : Int) l => lfE l (.sub (F_hypogeumref23_Right n x5 x6 x7 x8) fun r => .ret ((.val .bool r), [], 0))) .fail
theorem ok_hypogeumref23_Right (n : Nat) : SoundF Try.prog 18 (S_hypogeumref23_Right n) := by
  refine fn_sound true (c := codeOf Try.f18) (tab := mkTab []) (cuts := mkCuts [(0, C_18_0 (S_hypogeumref23_Right_l0 n n)), (2, C_18_2 (S_hypogeumref23_Right_l2 n n))]) Try.func18 (by kernel_rfl) .nil (CutsOK.list (l := [(0, bodyOf Try.f18 0), (2, bodyOf Try.f18 2)]) (by kernel_rfl) (LoopsOK.all ⟨.inr ⟨_, rfl, ok_hypogeumref23_Right_l0 n n⟩, ⟨.inr ⟨_, rfl, ok_hypogeumref23_Right_l2 n n⟩, trivial⟩⟩)) (fun avs L b R h => ?_)
  rcases bySk_ok h with ⟨l, rfl, rfl, rfl, q0⟩ | q0
  · obtain ⟨x5, l, rfl, q1⟩ := lfD_ok q0
    obtain ⟨x6, l, rfl, q2⟩ := lfD_ok q1
    obtain ⟨x7, l, rfl, q3⟩ := lfD_ok q2
    obtain ⟨x8, l, rfl, q4⟩ := lfD_ok q3
    obtain ⟨rfl, q⟩ := lfE_ok q4
    exact run_sub q (by kernel_rfl)
  · exact False.elim q0.h
def F_manifest_Accept (n : Nat) (x98 : Int) (x99 : Int) (x100 : Int) (x101 : Int) (x102 : Int) : Tree ((Int) × ((Int) × ((Int) × Int))) :=
  .ite (Hyp.eqV (Hyp.Ty.rcd (Hyp.Ty.pair (Hyp.Ty.sint Go.IntKind.i64) (Hyp.Ty.pair (Hyp.Ty.sint Go.IntKind.i64) (Hyp.Ty.sint Go.IntKind.i64)))) (x101, (x102, x100)) (x98, (x99, x100)))
    (.ret (x98, x99, x100, (0 : Int)))
    (.ite ((Decidable.decide (x98 < (1099511627776 : Int))) && ((Decidable.decide (x101 = (Go.IntKind.wrap Go.IntKind.i64 (x98 + (1 : Int))))) && ((Decidable.decide (x99 < x102)) && (Decidable.decide (x102 ≤ x100)))))
      (.ret (x101, x102, x100, (0 : Int)))
      (.ret ((0 : Int), (0 : Int), (0 : Int), (15 : Int))))
def S_manifest_Accept (n : Nat) : Summ := fun avs L b => bySk ⟨[(.agg (.pr (.val (.sint .i64) (0 : Int)) (.pr (.val (.sint .i64) (0 : Int)) (.pr (.val (.sint .i64) (0 : Int)) .un)))), (.agg (.pr (.val (.sint .i64) (0 : Int)) (.pr (.val (.sint .i64) (0 : Int)) (.pr (.val (.sint .i64) (0 : Int)) (.pr (.val (.sint .i64) (0 : Int)) (.pr (.snil (some (.rcd (.pair .str (.arr 32 .u8))))) (.pr (.snil (some (.rcd (.pair (.sint .i64) (.arr 32 .u8))))) .un)))))))], [], 0⟩ avs L b (fun l => lfD (.sint .i64) l fun (x98 : Int) l => lfD (.sint .i64) l fun (x99 : Int) l => lfD (.sint .i64) l fun (x100 : Int) l => lfD (.sint .i64) l fun (x101 : Int) l => lfD (.sint .i64) l fun (x102 : Int) l => lfD (.sint .i64) l fun (x103 : Int) l => lfD (.sint .i64) l fun (x104 : Int) l => lfE l (.sub (F_manifest_Accept n x98 x99 x100 x101 x102) fun r => .ret ((.tup (.pr (.agg (.pr (.val (.sint .i64) r.1) (.pr (.val (.sint .i64) r.2.1) (.pr (.val (.sint .i64) r.2.2.1) .un)))) (.pr (.val (.sint .i64) r.2.2.2) .un))), [], 0))) .fail
theorem ok_manifest_Accept (n : Nat) : SoundF Try.prog 20 (S_manifest_Accept n) := by
  refine fn_sound false (c := codeOf Try.f20) (tab := mkTab []) (cuts := mkCuts []) Try.func20 (by kernel_rfl) .nil (CutsOK.list (l := []) (by kernel_rfl) (fun _ h => by cases h)) (fun avs L b R h => ?_)
  rcases bySk_ok h with ⟨l, rfl, rfl, rfl, q0⟩ | q0
  · obtain ⟨x98, l, rfl, q1⟩ := lfD_ok q0
    obtain ⟨x99, l, rfl, q2⟩ := lfD_ok q1
    obtain ⟨x100, l, rfl, q3⟩ := lfD_ok q2
    obtain ⟨x101, l, rfl, q4⟩ := lfD_ok q3
    obtain ⟨x102, l, rfl, q5⟩ := lfD_ok q4
    obtain ⟨x103, l, rfl, q6⟩ := lfD_ok q5
    obtain ⟨x104, l, rfl, q7⟩ := lfD_ok q6
    obtain ⟨rfl, q⟩ := lfE_ok q7
    exact run_sub q (by kernel_rfl)
  · exact False.elim q0.h
def F_manifest_in (n : Nat) (x111 : Int) : Tree Bool :=
  .ret ((Decidable.decide ((1 : Int) ≤ x111)) && (Decidable.decide (x111 ≤ (1099511627776 : Int))))
def S_manifest_in (n : Nat) : Summ := fun avs L b => bySk ⟨[(.val (.sint .i64) (0 : Int))], [], 0⟩ avs L b (fun l => lfD (.sint .i64) l fun (x111 : Int) l => lfE l (.sub (F_manifest_in n x111) fun r => .ret ((.val .bool r), [], 0))) .fail
theorem ok_manifest_in (n : Nat) : SoundF Try.prog 27 (S_manifest_in n) := by
  refine fn_sound false (c := codeOf Try.f27) (tab := mkTab []) (cuts := mkCuts []) Try.func27 (by kernel_rfl) .nil (CutsOK.list (l := []) (by kernel_rfl) (fun _ h => by cases h)) (fun avs L b R h => ?_)
  rcases bySk_ok h with ⟨l, rfl, rfl, rfl, q0⟩ | q0
  · obtain ⟨x111, l, rfl, q1⟩ := lfD_ok q0
    obtain ⟨rfl, q⟩ := lfE_ok q1
    exact run_sub q (by kernel_rfl)
  · exact False.elim q0.h
def C_26_0 : CutF → Cut := fun κ => ⟨[1, 47, 48, 49], fun e => match e with | .ex i => bif Nat.beq i 0 then [] else [] | .rt => [2] | .nm => [], κ⟩
def C_28_0 : CutF → Cut := fun κ => ⟨[14, 15, 16], fun e => match e with | .ex i => bif Nat.beq i 0 then [] else [] | .rt => [2] | .nm => [], κ⟩
def F_store_Named_l0 (n : Nat) : Nat → (Int) → (Int) → (List UInt8) → Tree (Unit ⊕ Unit)
  | 0 => fun  x128 x129 x130 => .fail
  | k + 1 => fun x128 x129 x130 =>
      .ite (Decidable.decide (x129 < x128))
        (.get (Hyp.inI (List.length x130) x129) fun y134 =>
        .get (GetElem?.getElem? x130 (0 + y134)) fun y135 =>
        .ite (bif (Decidable.decide (y135 < (97 : UInt8))) then ((Decidable.decide (y135 < (48 : UInt8))) || (Decidable.decide ((57 : UInt8) < y135))) else ((Decidable.decide ((122 : UInt8) < y135)) && ((Decidable.decide (y135 < (48 : UInt8))) || (Decidable.decide ((57 : UInt8) < y135)))))
          (.ret (.inl ()))
          (.sub (F_store_Named_l0 n k x128 (Go.IntKind.wrap Go.IntKind.i64 (x129 + (1 : Int))) x130) fun y136 =>
          .alt y136 (fun y137 =>
            .ret (.inl ()))
            fun y138 =>
            .ret (.inr ())))
        (.ret (.inr ()))
def S_store_Named_l0 (n k : Nat) : CutF := fun avs L b => bySk ⟨[(.whole 0 1), (.val (.sint .i64) (0 : Int)), (.val (.sint .i64) (0 : Int))], [⟨0, 1, .row .u8 []⟩], 2⟩ avs L b (fun l => lfD (.sint .i64) l fun (x128 : Int) l => lfD (.sint .i64) l fun (x129 : Int) l => lfD (.list .u8) l fun (x130 : List UInt8) l => lfE l (.sub (F_store_Named_l0 n k x128 x129 x130) fun r => .alt r (fun r => .ret (.rt, [(.val .bool false)], [⟨0, 3, .row .u8 x130⟩], 4)) (fun r => .ret (.ex 0, [], [⟨0, 3, .row .u8 x130⟩], 4)))) .fail
theorem ok_store_Named_l0 (n : Nat) : ∀ k, SoundC Try.prog (Go.Func.ntmps Try.f28) (.loop (bodyOf Try.f28 0)) (wr (bodyOf Try.f28 0)) (C_28_0 (S_store_Named_l0 n k)) := by
  refine loop_sound (tab := mkTab []) (cuts := mkCuts []) .nil (CutsOK.list (l := []) (by kernel_rfl) (fun _ h => by cases h)) (by kernel_rfl) (fun avs L b R h => ?_) (fun k avs L b R h => ?_)
  · rcases bySk_ok h with ⟨l, rfl, rfl, rfl, q0⟩ | q0
    · obtain ⟨x128, l, rfl, q1⟩ := lfD_ok q0
      obtain ⟨x129, l, rfl, q2⟩ := lfD_ok q1
      obtain ⟨x130, l, rfl, q3⟩ := lfD_ok q2
      obtain ⟨rfl, q⟩ := lfE_ok q3
      exact False.elim q.h
    · exact False.elim q0.h
  · rcases bySk_ok h with ⟨l, rfl, rfl, rfl, q0⟩ | q0
    · obtain ⟨x128, l, rfl, q1⟩ := lfD_ok q0
      obtain ⟨x129, l, rfl, q2⟩ := lfD_ok q1
      obtain ⟨x130, l, rfl, q3⟩ := lfD_ok q2
      obtain ⟨rfl, q⟩ := lfE_ok q3
      exact run_subs (k' := fun r => (match r with | .inl r => .ret (.rt, [(.val .bool false)], [⟨0, 3, .row .u8 x130⟩], 4) | .inr r => .ret (.ex 0, [], [⟨0, 3, .row .u8 x130⟩], 4))) q (fun y hy => by rcases y with y | y <;> exact ⟨hy.h⟩) (by kernel_rfl)
    · exact False.elim q0.h
def F_store_Named (n : Nat) (x126 : List UInt8) : Tree Bool :=
  .ite ((Decidable.decide ((Nat.cast (List.length x126)) < (1 : Int))) || (Decidable.decide ((32 : Int) < (Nat.cast (List.length x126)))))
    (.ret false)
    (.get (Hyp.bytesI x126) fun y127 =>
    .sub (F_store_Named_l0 n n (Nat.cast (List.length y127)) (0 : Int) y127) fun y139 =>
    .alt y139 (fun y140 =>
      .ret false)
      fun y141 =>
      .ret true)
def S_store_Named (n : Nat) : Summ := fun avs L b => bySk ⟨[(.val .str [])], [], 0⟩ avs L b (fun l => lfD .str l fun (x126 : List UInt8) l => lfE l (.sub (F_store_Named n x126) fun r => .ret ((.val .bool r), [], 0))) .fail
theorem ok_store_Named (n : Nat) : SoundF Try.prog 28 (S_store_Named n) := by
  refine fn_sound false (c := codeOf Try.f28) (tab := mkTab []) (cuts := mkCuts [(0, C_28_0 (S_store_Named_l0 n n))]) Try.func28 (by kernel_rfl) .nil (CutsOK.list (l := [(0, bodyOf Try.f28 0)]) (by kernel_rfl) (LoopsOK.all ⟨.inr ⟨_, rfl, ok_store_Named_l0 n n⟩, trivial⟩)) (fun avs L b R h => ?_)
  rcases bySk_ok h with ⟨l, rfl, rfl, rfl, q0⟩ | q0
  · obtain ⟨x126, l, rfl, q1⟩ := lfD_ok q0
    obtain ⟨rfl, q⟩ := lfE_ok q1
    exact run_sub q (by kernel_rfl)
  · exact False.elim q0.h
def F_manifest_Right_l0 (n : Nat) : Nat → (Int) → (Int) → (Int) → (Int) → (Int) → (Int) → (List (List UInt8 × List UInt8)) → (List (Int × List UInt8)) → (List (List UInt8 × List UInt8)) → Tree (Unit ⊕ Unit)
  | 0 => fun  x115 x116 x117 x118 x119 x120 x121 x122 x123 => .fail
  | k + 1 => fun x115 x116 x117 x118 x119 x120 x121 x122 x123 =>
      .ite (Decidable.decide (x116 < x115))
        (.get (Hyp.inI (List.length x123) x116) fun y147 =>
        .get (GetElem?.getElem? x123 (0 + y147)) fun y148 =>
        .get (Hyp.Tree.run (F_store_Named n y148.1)) fun y149 =>
        .ite (!y149)
          (.ret (.inl ()))
          (.ite (Decidable.decide ((0 : Int) < x116))
            (.get (Hyp.inI (List.length x121) (Go.IntKind.wrap Go.IntKind.i64 (x116 - (1 : Int)))) fun y150 =>
            .get (GetElem?.getElem? x121 (0 + y150)) fun y151 =>
            .ite (!(Hyp.strLt y151.1 y148.1))
              (.ret (.inl ()))
              (.sub (F_manifest_Right_l0 n k x115 (Go.IntKind.wrap Go.IntKind.i64 (x116 + (1 : Int))) x117 x118 x119 x120 x121 x122 x123) fun y152 =>
              .alt y152 (fun y153 =>
                .ret (.inl ()))
                fun y154 =>
                .ret (.inr ())))
            (.sub (F_manifest_Right_l0 n k x115 (Go.IntKind.wrap Go.IntKind.i64 (x116 + (1 : Int))) x117 x118 x119 x120 x121 x122 x123) fun y155 =>
            .alt y155 (fun y156 =>
              .ret (.inl ()))
              fun y157 =>
              .ret (.inr ()))))
        (.ret (.inr ()))
def S_manifest_Right_l0 (n k : Nat) : CutF := fun avs L b => bySk ⟨[(.ptr 0 0), (.whole 6 33), (.val (.sint .i64) (0 : Int)), (.val (.sint .i64) (0 : Int))], [⟨0, 1, .box (.agg (.pr (.val (.sint .i64) (0 : Int)) (.pr (.val (.sint .i64) (0 : Int)) (.pr (.val (.sint .i64) (0 : Int)) (.pr (.val (.sint .i64) (0 : Int)) (.pr (.whole 2 33) (.pr (.whole 4 33) .un)))))))⟩, ⟨2, 3, .row (.rcd (.pair .str (.arr 32 .u8))) []⟩, ⟨4, 5, .row (.rcd (.pair (.sint .i64) (.arr 32 .u8))) []⟩, ⟨6, 7, .row (.rcd (.pair .str (.arr 32 .u8))) []⟩], 8⟩ avs L b (fun l => lfD (.sint .i64) l fun (x115 : Int) l => lfD (.sint .i64) l fun (x116 : Int) l => lfD (.sint .i64) l fun (x117 : Int) l => lfD (.sint .i64) l fun (x118 : Int) l => lfD (.sint .i64) l fun (x119 : Int) l => lfD (.sint .i64) l fun (x120 : Int) l => lfD (.list (.rcd (.pair .str (.arr 32 .u8)))) l fun (x121 : List (List UInt8 × List UInt8)) l => lfD (.list (.rcd (.pair (.sint .i64) (.arr 32 .u8)))) l fun (x122 : List (Int × List UInt8)) l => lfD (.list (.rcd (.pair .str (.arr 32 .u8)))) l fun (x123 : List (List UInt8 × List UInt8)) l => lfE l (.sub (F_manifest_Right_l0 n k x115 x116 x117 x118 x119 x120 x121 x122 x123) fun r => .alt r (fun r => .ret (.rt, [(.val .bool false)], [⟨0, 9, .box (.agg (.pr (.val (.sint .i64) x117) (.pr (.val (.sint .i64) x118) (.pr (.val (.sint .i64) x119) (.pr (.val (.sint .i64) x120) (.pr (.whole 10 33) (.pr (.whole 12 33) .un)))))))⟩, ⟨10, 11, .row (.rcd (.pair .str (.arr 32 .u8))) x121⟩, ⟨12, 13, .row (.rcd (.pair (.sint .i64) (.arr 32 .u8))) x122⟩, ⟨6, 15, .row (.rcd (.pair .str (.arr 32 .u8))) x123⟩], 16)) (fun r => .ret (.ex 0, [], [⟨0, 9, .box (.agg (.pr (.val (.sint .i64) x117) (.pr (.val (.sint .i64) x118) (.pr (.val (.sint .i64) x119) (.pr (.val (.sint .i64) x120) (.pr (.whole 10 33) (.pr (.whole 12 33) .un)))))))⟩, ⟨10, 11, .row (.rcd (.pair .str (.arr 32 .u8))) x121⟩, ⟨12, 13, .row (.rcd (.pair (.sint .i64) (.arr 32 .u8))) x122⟩, ⟨6, 15, .row (.rcd (.pair .str (.arr 32 .u8))) x123⟩], 16)))) .fail
theorem ok_manifest_Right_l0 (n : Nat) : ∀ k, SoundC Try.prog (Go.Func.ntmps Try.f26) (.loop (bodyOf Try.f26 0)) (wr (bodyOf Try.f26 0)) (C_26_0 (S_manifest_Right_l0 n k)) := by
  refine loop_sound (tab := mkTab [(28, ⟨S_store_Named n, [], []⟩)]) (cuts := mkCuts []) (.cons (ok_store_Named n) ⟨_, Try.func28, by kernel_rfl⟩ .nil) (CutsOK.list (l := []) (by kernel_rfl) (fun _ h => by cases h)) (by kernel_rfl) (fun avs L b R h => ?_) (fun k avs L b R h => ?_)
  · rcases bySk_ok h with ⟨l, rfl, rfl, rfl, q0⟩ | q0
    · obtain ⟨x115, l, rfl, q1⟩ := lfD_ok q0
      obtain ⟨x116, l, rfl, q2⟩ := lfD_ok q1
      obtain ⟨x117, l, rfl, q3⟩ := lfD_ok q2
      obtain ⟨x118, l, rfl, q4⟩ := lfD_ok q3
      obtain ⟨x119, l, rfl, q5⟩ := lfD_ok q4
      obtain ⟨x120, l, rfl, q6⟩ := lfD_ok q5
      obtain ⟨x121, l, rfl, q7⟩ := lfD_ok q6
      obtain ⟨x122, l, rfl, q8⟩ := lfD_ok q7
      obtain ⟨x123, l, rfl, q9⟩ := lfD_ok q8
      obtain ⟨rfl, q⟩ := lfE_ok q9
      exact False.elim q.h
    · exact False.elim q0.h
  · rcases bySk_ok h with ⟨l, rfl, rfl, rfl, q0⟩ | q0
    · obtain ⟨x115, l, rfl, q1⟩ := lfD_ok q0
      obtain ⟨x116, l, rfl, q2⟩ := lfD_ok q1
      obtain ⟨x117, l, rfl, q3⟩ := lfD_ok q2
      obtain ⟨x118, l, rfl, q4⟩ := lfD_ok q3
      obtain ⟨x119, l, rfl, q5⟩ := lfD_ok q4
      obtain ⟨x120, l, rfl, q6⟩ := lfD_ok q5
      obtain ⟨x121, l, rfl, q7⟩ := lfD_ok q6
      obtain ⟨x122, l, rfl, q8⟩ := lfD_ok q7
      obtain ⟨x123, l, rfl, q9⟩ := lfD_ok q8
      obtain ⟨rfl, q⟩ := lfE_ok q9
      exact run_subs (k' := fun r => (match r with | .inl r => .ret (.rt, [(.val .bool false)], [⟨0, 9, .box (.agg (.pr (.val (.sint .i64) x117) (.pr (.val (.sint .i64) x118) (.pr (.val (.sint .i64) x119) (.pr (.val (.sint .i64) x120) (.pr (.whole 10 33) (.pr (.whole 12 33) .un)))))))⟩, ⟨10, 11, .row (.rcd (.pair .str (.arr 32 .u8))) x121⟩, ⟨12, 13, .row (.rcd (.pair (.sint .i64) (.arr 32 .u8))) x122⟩, ⟨6, 15, .row (.rcd (.pair .str (.arr 32 .u8))) x123⟩], 16) | .inr r => .ret (.ex 0, [], [⟨0, 9, .box (.agg (.pr (.val (.sint .i64) x117) (.pr (.val (.sint .i64) x118) (.pr (.val (.sint .i64) x119) (.pr (.val (.sint .i64) x120) (.pr (.whole 10 33) (.pr (.whole 12 33) .un)))))))⟩, ⟨10, 11, .row (.rcd (.pair .str (.arr 32 .u8))) x121⟩, ⟨12, 13, .row (.rcd (.pair (.sint .i64) (.arr 32 .u8))) x122⟩, ⟨6, 15, .row (.rcd (.pair .str (.arr 32 .u8))) x123⟩], 16))) q (fun y hy => by rcases y with y | y <;> exact ⟨hy.h⟩) (by kernel_rfl)
    · exact False.elim q0.h
def C_26_2 : CutF → Cut := fun κ => ⟨[1, 5, 76, 77, 78], fun e => match e with | .ex i => bif Nat.beq i 2 then [] else [] | .rt => [2] | .nm => [], κ⟩
def F_manifest_Right_l2 (n : Nat) : Nat → (Int) → (Int) → (Int) → (Int) → (Int) → (Int) → (Int) → (List (List UInt8 × List UInt8)) → (List (Int × List UInt8)) → Tree (Unit ⊕ Unit)
  | 0 => fun  x161 x162 x163 x164 x165 x166 x167 x168 x169 => .fail
  | k + 1 => fun x161 x162 x163 x164 x165 x166 x167 x168 x169 =>
      .ite (Decidable.decide (x163 < x162))
        (.get (Hyp.inI (List.length x169) x163) fun y173 =>
        .get (GetElem?.getElem? x169 (0 + y173)) fun y174 =>
        .ite ((Decidable.decide (y174.1 ≤ x161)) || (Decidable.decide (x167 ≤ y174.1)))
          (.ret (.inl ()))
          (.sub (F_manifest_Right_l2 n k y174.1 x162 (Go.IntKind.wrap Go.IntKind.i64 (x163 + (1 : Int))) x164 x165 x166 x167 x168 x169) fun y175 =>
          .alt y175 (fun y176 =>
            .ret (.inl ()))
            fun y177 =>
            .ret (.inr ())))
        (.ret (.inr ()))
def S_manifest_Right_l2 (n k : Nat) : CutF := fun avs L b => bySk ⟨[(.ptr 0 0), (.val (.sint .i64) (0 : Int)), (.whole 4 33), (.val (.sint .i64) (0 : Int)), (.val (.sint .i64) (0 : Int))], [⟨0, 1, .box (.agg (.pr (.val (.sint .i64) (0 : Int)) (.pr (.val (.sint .i64) (0 : Int)) (.pr (.val (.sint .i64) (0 : Int)) (.pr (.val (.sint .i64) (0 : Int)) (.pr (.whole 2 33) (.pr (.whole 4 33) .un)))))))⟩, ⟨2, 3, .row (.rcd (.pair .str (.arr 32 .u8))) []⟩, ⟨4, 5, .row (.rcd (.pair (.sint .i64) (.arr 32 .u8))) []⟩], 6⟩ avs L b (fun l => lfD (.sint .i64) l fun (x161 : Int) l => lfD (.sint .i64) l fun (x162 : Int) l => lfD (.sint .i64) l fun (x163 : Int) l => lfD (.sint .i64) l fun (x164 : Int) l => lfD (.sint .i64) l fun (x165 : Int) l => lfD (.sint .i64) l fun (x166 : Int) l => lfD (.sint .i64) l fun (x167 : Int) l => lfD (.list (.rcd (.pair .str (.arr 32 .u8)))) l fun (x168 : List (List UInt8 × List UInt8)) l => lfD (.list (.rcd (.pair (.sint .i64) (.arr 32 .u8)))) l fun (x169 : List (Int × List UInt8)) l => lfE l (.sub (F_manifest_Right_l2 n k x161 x162 x163 x164 x165 x166 x167 x168 x169) fun r => .alt r (fun r => .ret (.rt, [(.val .bool false)], [⟨0, 7, .box (.agg (.pr (.val (.sint .i64) x164) (.pr (.val (.sint .i64) x165) (.pr (.val (.sint .i64) x166) (.pr (.val (.sint .i64) x167) (.pr (.whole 8 33) (.pr (.whole 4 33) .un)))))))⟩, ⟨8, 9, .row (.rcd (.pair .str (.arr 32 .u8))) x168⟩, ⟨4, 11, .row (.rcd (.pair (.sint .i64) (.arr 32 .u8))) x169⟩], 12)) (fun r => .ret (.ex 2, [], [⟨0, 7, .box (.agg (.pr (.val (.sint .i64) x164) (.pr (.val (.sint .i64) x165) (.pr (.val (.sint .i64) x166) (.pr (.val (.sint .i64) x167) (.pr (.whole 8 33) (.pr (.whole 4 33) .un)))))))⟩, ⟨8, 9, .row (.rcd (.pair .str (.arr 32 .u8))) x168⟩, ⟨4, 11, .row (.rcd (.pair (.sint .i64) (.arr 32 .u8))) x169⟩], 12)))) .fail
theorem ok_manifest_Right_l2 (n : Nat) : ∀ k, SoundC Try.prog (Go.Func.ntmps Try.f26) (.loop (bodyOf Try.f26 2)) (wr (bodyOf Try.f26 2)) (C_26_2 (S_manifest_Right_l2 n k)) := by
  refine loop_sound (tab := mkTab []) (cuts := mkCuts []) .nil (CutsOK.list (l := []) (by kernel_rfl) (fun _ h => by cases h)) (by kernel_rfl) (fun avs L b R h => ?_) (fun k avs L b R h => ?_)
  · rcases bySk_ok h with ⟨l, rfl, rfl, rfl, q0⟩ | q0
    · obtain ⟨x161, l, rfl, q1⟩ := lfD_ok q0
      obtain ⟨x162, l, rfl, q2⟩ := lfD_ok q1
      obtain ⟨x163, l, rfl, q3⟩ := lfD_ok q2
      obtain ⟨x164, l, rfl, q4⟩ := lfD_ok q3
      obtain ⟨x165, l, rfl, q5⟩ := lfD_ok q4
      obtain ⟨x166, l, rfl, q6⟩ := lfD_ok q5
      obtain ⟨x167, l, rfl, q7⟩ := lfD_ok q6
      obtain ⟨x168, l, rfl, q8⟩ := lfD_ok q7
      obtain ⟨x169, l, rfl, q9⟩ := lfD_ok q8
      obtain ⟨rfl, q⟩ := lfE_ok q9
      exact False.elim q.h
    · exact False.elim q0.h
  · rcases bySk_ok h with ⟨l, rfl, rfl, rfl, q0⟩ | q0
    · obtain ⟨x161, l, rfl, q1⟩ := lfD_ok q0
      obtain ⟨x162, l, rfl, q2⟩ := lfD_ok q1
      obtain ⟨x163, l, rfl, q3⟩ := lfD_ok q2
      obtain ⟨x164, l, rfl, q4⟩ := lfD_ok q3
      obtain ⟨x165, l, rfl, q5⟩ := lfD_ok q4
      obtain ⟨x166, l, rfl, q6⟩ := lfD_ok q5
      obtain ⟨x167, l, rfl, q7⟩ := lfD_ok q6
      obtain ⟨x168, l, rfl, q8⟩ := lfD_ok q7
      obtain ⟨x169, l, rfl, q9⟩ := lfD_ok q8
      obtain ⟨rfl, q⟩ := lfE_ok q9
      exact run_subs (k' := fun r => (match r with | .inl r => .ret (.rt, [(.val .bool false)], [⟨0, 7, .box (.agg (.pr (.val (.sint .i64) x164) (.pr (.val (.sint .i64) x165) (.pr (.val (.sint .i64) x166) (.pr (.val (.sint .i64) x167) (.pr (.whole 8 33) (.pr (.whole 4 33) .un)))))))⟩, ⟨8, 9, .row (.rcd (.pair .str (.arr 32 .u8))) x168⟩, ⟨4, 11, .row (.rcd (.pair (.sint .i64) (.arr 32 .u8))) x169⟩], 12) | .inr r => .ret (.ex 2, [], [⟨0, 7, .box (.agg (.pr (.val (.sint .i64) x164) (.pr (.val (.sint .i64) x165) (.pr (.val (.sint .i64) x166) (.pr (.val (.sint .i64) x167) (.pr (.whole 8 33) (.pr (.whole 4 33) .un)))))))⟩, ⟨8, 9, .row (.rcd (.pair .str (.arr 32 .u8))) x168⟩, ⟨4, 11, .row (.rcd (.pair (.sint .i64) (.arr 32 .u8))) x169⟩], 12))) q (fun y hy => by rcases y with y | y <;> exact ⟨hy.h⟩) (by kernel_rfl)
    · exact False.elim q0.h
def F_manifest_Right (n : Nat) (x107 : Int) (x108 : Int) (x109 : Int) (x110 : Int) : Tree Bool :=
  .sub (F_manifest_in n x107) fun y112 =>
  .ite (!y112)
    (.ret false)
    (.sub (F_manifest_in n x108) fun y113 =>
    .ite (!y113)
      (.ret false)
      (.sub (F_manifest_in n x110) fun y114 =>
      .ite ((!y114) || ((Decidable.decide (x109 < (1 : Int))) || ((Decidable.decide ((64 : Int) < x109)) || false)))
        (.ret false)
        (.sub (F_manifest_Right_l0 n n (0 : Int) (0 : Int) x107 x108 x109 x110 ([] : List ((List UInt8) × (List UInt8))) ([] : List (Int × (List UInt8))) ([] : List ((List UInt8) × (List UInt8)))) fun y158 =>
        .alt y158 (fun y159 =>
          .ret false)
          fun y160 =>
          .sub (F_manifest_Right_l2 n n (0 : Int) (0 : Int) (0 : Int) x107 x108 x109 x110 ([] : List ((List UInt8) × (List UInt8))) ([] : List (Int × (List UInt8)))) fun y178 =>
          .alt y178 (fun y179 =>
            .ret false)
            fun y180 =>
            .ret true)))
def S_manifest_Right (n : Nat) : Summ := fun avs L b => bySk ⟨[(.agg (.pr (.val (.sint .i64) (0 : Int)) (.pr (.val (.sint .i64) (0 : Int)) (.pr (.val (.sint .i64) (0 : Int)) (.pr (.val (.sint .i64) (0 : Int)) (.pr (.snil (some (.rcd (.pair .str (.arr 32 .u8))))) (.pr (.snil (some (.rcd (.pair (.sint .i64) (.arr 32 .u8))))) .un)))))))], [], 0⟩ avs L b (fun l => lfD (.sint .i64) l fun (x107 : Int) l => lfD (.sint .i64) l fun (x108 : Int) l => lfD (.sint .i64) l fun (x109 : Int) l => lfD (.sint .i64) l fun (x110 : Int) l => lfE l (.sub (F_manifest_Right n x107 x108 x109 x110) fun r => .ret ((.val .bool r), [], 0))) .fail
theorem ok_manifest_Right (n : Nat) : SoundF Try.prog 26 (S_manifest_Right n) := by
  refine fn_sound false (c := codeOf Try.f26) (tab := mkTab [(27, ⟨S_manifest_in n, [], []⟩)]) (cuts := mkCuts [(0, C_26_0 (S_manifest_Right_l0 n n)), (2, C_26_2 (S_manifest_Right_l2 n n))]) Try.func26 (by kernel_rfl) (.cons (ok_manifest_in n) ⟨_, Try.func27, by kernel_rfl⟩ .nil) (CutsOK.list (l := [(0, bodyOf Try.f26 0), (2, bodyOf Try.f26 2)]) (by kernel_rfl) (LoopsOK.all ⟨.inr ⟨_, rfl, ok_manifest_Right_l0 n n⟩, ⟨.inr ⟨_, rfl, ok_manifest_Right_l2 n n⟩, trivial⟩⟩)) (fun avs L b R h => ?_)
  rcases bySk_ok h with ⟨l, rfl, rfl, rfl, q0⟩ | q0
  · obtain ⟨x107, l, rfl, q1⟩ := lfD_ok q0
    obtain ⟨x108, l, rfl, q2⟩ := lfD_ok q1
    obtain ⟨x109, l, rfl, q3⟩ := lfD_ok q2
    obtain ⟨x110, l, rfl, q4⟩ := lfD_ok q3
    obtain ⟨rfl, q⟩ := lfE_ok q4
    exact run_sub q (by kernel_rfl)
  · exact False.elim q0.h
def F_hypogeumlaw23_awake (n : Nat) : Tree Bool :=
  .sub (F_manifest_Accept n (3 : Int) (7 : Int) (9 : Int) (4 : Int) (8 : Int)) fun y105 =>
  .sub (F_manifest_Accept n (3 : Int) (7 : Int) (9 : Int) (4 : Int) (7 : Int)) fun y106 =>
  .ite (Hyp.eqV (Hyp.Ty.rcd (Hyp.Ty.pair (Hyp.Ty.sint Go.IntKind.i64) (Hyp.Ty.pair (Hyp.Ty.sint Go.IntKind.i64) (Hyp.Ty.sint Go.IntKind.i64)))) (y105.1, (y105.2.1, y105.2.2.1)) ((4 : Int), ((8 : Int), (9 : Int))))
    (.ite (Decidable.decide (y105.2.2.2 = (0 : Int)))
      (.ite (Decidable.decide (y106.2.2.2 = (15 : Int)))
        (.sub (F_manifest_Right n (1 : Int) (1 : Int) (1 : Int) (1 : Int)) fun y181 =>
        .ret y181)
        (.ret false))
      (.ret false))
    (.ret false)
def S_hypogeumlaw23_awake (n : Nat) : Summ := fun avs L b => bySk ⟨[], [], 0⟩ avs L b (fun l => lfE l (.sub (F_hypogeumlaw23_awake n) fun r => .ret ((.val .bool r), [], 0))) .fail
theorem ok_hypogeumlaw23_awake (n : Nat) : SoundF Try.prog 19 (S_hypogeumlaw23_awake n) := by
  refine fn_sound true (c := codeOf Try.f19) (tab := mkTab [(20, ⟨S_manifest_Accept n, [], []⟩), (26, ⟨S_manifest_Right n, [], []⟩)]) (cuts := mkCuts []) Try.func19 (by kernel_rfl) (.cons (ok_manifest_Accept n) ⟨_, Try.func20, by kernel_rfl⟩ (.cons (ok_manifest_Right n) ⟨_, Try.func26, by kernel_rfl⟩ .nil)) (CutsOK.list (l := []) (by kernel_rfl) (fun _ h => by cases h)) (fun avs L b R h => ?_)
  rcases bySk_ok h with ⟨l, rfl, rfl, rfl, q0⟩ | q0
  · obtain ⟨rfl, q⟩ := lfE_ok q0
    exact run_sub q (by kernel_rfl)
  · exact False.elim q0.h
def F_hypogeumref23_Accept (n : Nat) (x184 : Int) (x185 : Int) (x186 : Int) (x187 : Int) (x188 : Int) : Tree ((Int) × ((Int) × ((Int) × Int))) :=
  .ite ((Decidable.decide (x187 = x184)) && (Decidable.decide (x188 = x185)))
    (.ret (x184, x185, x186, (0 : Int)))
    (.ite ((Decidable.decide ((Go.IntKind.wrap Go.IntKind.i64 (x187 - (1 : Int))) = x184)) && ((Decidable.decide ((0 : Int) < x187)) && ((Decidable.decide (x185 < x188)) && (Decidable.decide (x188 ≤ x186)))))
      (.ret (x187, x188, x186, (0 : Int)))
      (.ret ((0 : Int), (0 : Int), (0 : Int), (15 : Int))))
def S_hypogeumref23_Accept (n : Nat) : Summ := fun avs L b => bySk ⟨[(.agg (.pr (.val (.sint .i64) (0 : Int)) (.pr (.val (.sint .i64) (0 : Int)) (.pr (.val (.sint .i64) (0 : Int)) .un)))), (.agg (.pr (.val (.sint .i64) (0 : Int)) (.pr (.val (.sint .i64) (0 : Int)) (.pr (.val (.sint .i64) (0 : Int)) (.pr (.val (.sint .i64) (0 : Int)) (.pr (.snil (some (.rcd (.pair .str (.arr 32 .u8))))) (.pr (.snil (some (.rcd (.pair (.sint .i64) (.arr 32 .u8))))) .un)))))))], [], 0⟩ avs L b (fun l => lfD (.sint .i64) l fun (x184 : Int) l => lfD (.sint .i64) l fun (x185 : Int) l => lfD (.sint .i64) l fun (x186 : Int) l => lfD (.sint .i64) l fun (x187 : Int) l => lfD (.sint .i64) l fun (x188 : Int) l => lfD (.sint .i64) l fun (x189 : Int) l => lfD (.sint .i64) l fun (x190 : Int) l => lfE l (.sub (F_hypogeumref23_Accept n x184 x185 x186 x187 x188) fun r => .ret ((.tup (.pr (.agg (.pr (.val (.sint .i64) r.1) (.pr (.val (.sint .i64) r.2.1) (.pr (.val (.sint .i64) r.2.2.1) .un)))) (.pr (.val (.sint .i64) r.2.2.2) .un))), [], 0))) .fail
theorem ok_hypogeumref23_Accept (n : Nat) : SoundF Try.prog 21 (S_hypogeumref23_Accept n) := by
  refine fn_sound true (c := codeOf Try.f21) (tab := mkTab []) (cuts := mkCuts []) Try.func21 (by kernel_rfl) .nil (CutsOK.list (l := []) (by kernel_rfl) (fun _ h => by cases h)) (fun avs L b R h => ?_)
  rcases bySk_ok h with ⟨l, rfl, rfl, rfl, q0⟩ | q0
  · obtain ⟨x184, l, rfl, q1⟩ := lfD_ok q0
    obtain ⟨x185, l, rfl, q2⟩ := lfD_ok q1
    obtain ⟨x186, l, rfl, q3⟩ := lfD_ok q2
    obtain ⟨x187, l, rfl, q4⟩ := lfD_ok q3
    obtain ⟨x188, l, rfl, q5⟩ := lfD_ok q4
    obtain ⟨x189, l, rfl, q6⟩ := lfD_ok q5
    obtain ⟨x190, l, rfl, q7⟩ := lfD_ok q6
    obtain ⟨rfl, q⟩ := lfE_ok q7
    exact run_sub q (by kernel_rfl)
  · exact False.elim q0.h
def F_hypogeumlaw23_ManifestAccepts (n : Nat) (x0 : Int) (x1 : Int) (x2 : Int) (x3 : Int) (x4 : Int) : Tree Bool :=
  .sub (F_hypogeumref23_Right n x3 x4 (1 : Int) (1 : Int)) fun y97 =>
  .ite ((!y97) || ((Decidable.decide (x0 < (0 : Int))) || ((Decidable.decide ((1099511627776 : Int) < x0)) || ((Decidable.decide (x1 < (0 : Int))) || (Decidable.decide (x2 < (0 : Int)))))))
    (.sub (F_hypogeumlaw23_awake n) fun y182 =>
    .ret y182)
    (.sub (F_manifest_Accept n x0 x1 x2 x3 x4) fun y183 =>
    .sub (F_hypogeumref23_Accept n x0 x1 x2 x3 x4) fun y191 =>
    .ite (Hyp.eqV (Hyp.Ty.rcd (Hyp.Ty.pair (Hyp.Ty.sint Go.IntKind.i64) (Hyp.Ty.pair (Hyp.Ty.sint Go.IntKind.i64) (Hyp.Ty.sint Go.IntKind.i64)))) (y183.1, (y183.2.1, y183.2.2.1)) (y191.1, (y191.2.1, y191.2.2.1)))
      (.ite (Decidable.decide (y183.2.2.2 = y191.2.2.2))
        (.sub (F_hypogeumlaw23_awake n) fun y192 =>
        .ret y192)
        (.ret false))
      (.ret false))
def S_hypogeumlaw23_ManifestAccepts (n : Nat) : Summ := fun avs L b => bySk ⟨[(.agg (.pr (.val (.sint .i64) (0 : Int)) (.pr (.val (.sint .i64) (0 : Int)) (.pr (.val (.sint .i64) (0 : Int)) .un)))), (.val (.sint .i64) (0 : Int)), (.val (.sint .i64) (0 : Int))], [], 0⟩ avs L b (fun l => lfD (.sint .i64) l fun (x0 : Int) l => lfD (.sint .i64) l fun (x1 : Int) l => lfD (.sint .i64) l fun (x2 : Int) l => lfD (.sint .i64) l fun (x3 : Int) l => lfD (.sint .i64) l fun (x4 : Int) l => lfE l (.sub (F_hypogeumlaw23_ManifestAccepts n x0 x1 x2 x3 x4) fun r => .ret ((.val .bool r), [], 0))) .fail
theorem ok_hypogeumlaw23_ManifestAccepts (n : Nat) : SoundF Try.prog 7 (S_hypogeumlaw23_ManifestAccepts n) := by
  refine fn_sound true (c := codeOf Try.f7) (tab := mkTab [(18, ⟨S_hypogeumref23_Right n, [], []⟩), (19, ⟨S_hypogeumlaw23_awake n, [], []⟩), (20, ⟨S_manifest_Accept n, [], []⟩), (21, ⟨S_hypogeumref23_Accept n, [], []⟩)]) (cuts := mkCuts []) Try.func7 (by kernel_rfl) (.cons (ok_hypogeumref23_Right n) ⟨_, Try.func18, by kernel_rfl⟩ (.cons (ok_hypogeumlaw23_awake n) ⟨_, Try.func19, by kernel_rfl⟩ (.cons (ok_manifest_Accept n) ⟨_, Try.func20, by kernel_rfl⟩ (.cons (ok_hypogeumref23_Accept n) ⟨_, Try.func21, by kernel_rfl⟩ .nil)))) (CutsOK.list (l := []) (by kernel_rfl) (fun _ h => by cases h)) (fun avs L b R h => ?_)
  rcases bySk_ok h with ⟨l, rfl, rfl, rfl, q0⟩ | q0
  · obtain ⟨x0, l, rfl, q1⟩ := lfD_ok q0
    obtain ⟨x1, l, rfl, q2⟩ := lfD_ok q1
    obtain ⟨x2, l, rfl, q3⟩ := lfD_ok q2
    obtain ⟨x3, l, rfl, q4⟩ := lfD_ok q3
    obtain ⟨x4, l, rfl, q5⟩ := lfD_ok q4
    obtain ⟨rfl, q⟩ := lfE_ok q5
    exact run_sub q (by kernel_rfl)
  · exact False.elim q0.h
def F_hypogeumlaw23_ManifestRises (n : Nat) (x193 : Int) (x194 : Int) (x195 : Int) (x196 : Int) (x197 : Int) (x198 : Int) (x199 : Int) : Tree Bool :=
  .sub (F_hypogeumref23_Right n x196 x197 (1 : Int) (1 : Int)) fun y200 =>
  .ite (!y200)
    (.sub (F_hypogeumlaw23_awake n) fun y201 =>
    .ret y201)
    (.sub (F_hypogeumref23_Right n x198 x199 (1 : Int) (1 : Int)) fun y202 =>
    .ite ((!y202) || ((Decidable.decide (x193 < (0 : Int))) || ((Decidable.decide ((1099511627776 : Int) < x193)) || ((Decidable.decide (x194 < (0 : Int))) || (Decidable.decide (x195 < (0 : Int)))))))
      (.sub (F_hypogeumlaw23_awake n) fun y203 =>
      .ret y203)
      (.sub (F_manifest_Accept n x193 x194 x195 x196 x197) fun y204 =>
      .ite (!(Decidable.decide (y204.2.2.2 = (0 : Int))))
        (.ite (Hyp.eqV (Hyp.Ty.rcd (Hyp.Ty.pair (Hyp.Ty.sint Go.IntKind.i64) (Hyp.Ty.pair (Hyp.Ty.sint Go.IntKind.i64) (Hyp.Ty.sint Go.IntKind.i64)))) (y204.1, (y204.2.1, y204.2.2.1)) ((0 : Int), ((0 : Int), (0 : Int))))
          (.sub (F_hypogeumlaw23_awake n) fun y205 =>
          .ret y205)
          (.ret false))
        (.sub (F_manifest_Accept n y204.1 y204.2.1 y204.2.2.1 x196 x197) fun y206 =>
        .ite ((Decidable.decide (y204.1 < x193)) || ((Decidable.decide (y204.2.1 < x194)) || ((!(Decidable.decide (y204.2.2.1 = x195))) || ((!(Hyp.eqV (Hyp.Ty.rcd (Hyp.Ty.pair (Hyp.Ty.sint Go.IntKind.i64) (Hyp.Ty.pair (Hyp.Ty.sint Go.IntKind.i64) (Hyp.Ty.sint Go.IntKind.i64)))) (y206.1, (y206.2.1, y206.2.2.1)) (y204.1, (y204.2.1, y204.2.2.1)))) || (!(Decidable.decide (y206.2.2.2 = (0 : Int))))))))
          (.ret false)
          (.sub (F_manifest_Accept n y204.1 y204.2.1 y204.2.2.1 x198 x199) fun y207 =>
          .ite (Decidable.decide (y204.1 < x198))
            (.sub (F_hypogeumlaw23_awake n) fun y208 =>
            .ret y208)
            (.ite (!(Decidable.decide (y207.2.2.2 = (0 : Int))))
              (.sub (F_hypogeumlaw23_awake n) fun y209 =>
              .ret y209)
              (.ite (Decidable.decide (x198 = y204.1))
                (.ite (Decidable.decide (x199 = y204.2.1))
                  (.sub (F_hypogeumlaw23_awake n) fun y210 =>
                  .ret y210)
                  (.ret false))
                (.ret false)))))))
def S_hypogeumlaw23_ManifestRises (n : Nat) : Summ := fun avs L b => bySk ⟨[(.agg (.pr (.val (.sint .i64) (0 : Int)) (.pr (.val (.sint .i64) (0 : Int)) (.pr (.val (.sint .i64) (0 : Int)) .un)))), (.val (.sint .i64) (0 : Int)), (.val (.sint .i64) (0 : Int)), (.val (.sint .i64) (0 : Int)), (.val (.sint .i64) (0 : Int))], [], 0⟩ avs L b (fun l => lfD (.sint .i64) l fun (x193 : Int) l => lfD (.sint .i64) l fun (x194 : Int) l => lfD (.sint .i64) l fun (x195 : Int) l => lfD (.sint .i64) l fun (x196 : Int) l => lfD (.sint .i64) l fun (x197 : Int) l => lfD (.sint .i64) l fun (x198 : Int) l => lfD (.sint .i64) l fun (x199 : Int) l => lfE l (.sub (F_hypogeumlaw23_ManifestRises n x193 x194 x195 x196 x197 x198 x199) fun r => .ret ((.val .bool r), [], 0))) .fail
theorem ok_hypogeumlaw23_ManifestRises (n : Nat) : SoundF Try.prog 8 (S_hypogeumlaw23_ManifestRises n) := by
  refine fn_sound true (c := codeOf Try.f8) (tab := mkTab [(18, ⟨S_hypogeumref23_Right n, [], []⟩), (19, ⟨S_hypogeumlaw23_awake n, [], []⟩), (20, ⟨S_manifest_Accept n, [], []⟩)]) (cuts := mkCuts []) Try.func8 (by kernel_rfl) (.cons (ok_hypogeumref23_Right n) ⟨_, Try.func18, by kernel_rfl⟩ (.cons (ok_hypogeumlaw23_awake n) ⟨_, Try.func19, by kernel_rfl⟩ (.cons (ok_manifest_Accept n) ⟨_, Try.func20, by kernel_rfl⟩ .nil))) (CutsOK.list (l := []) (by kernel_rfl) (fun _ h => by cases h)) (fun avs L b R h => ?_)
  rcases bySk_ok h with ⟨l, rfl, rfl, rfl, q0⟩ | q0
  · obtain ⟨x193, l, rfl, q1⟩ := lfD_ok q0
    obtain ⟨x194, l, rfl, q2⟩ := lfD_ok q1
    obtain ⟨x195, l, rfl, q3⟩ := lfD_ok q2
    obtain ⟨x196, l, rfl, q4⟩ := lfD_ok q3
    obtain ⟨x197, l, rfl, q5⟩ := lfD_ok q4
    obtain ⟨x198, l, rfl, q6⟩ := lfD_ok q5
    obtain ⟨x199, l, rfl, q7⟩ := lfD_ok q6
    obtain ⟨rfl, q⟩ := lfE_ok q7
    exact run_sub q (by kernel_rfl)
  · exact False.elim q0.h
end Hyp
