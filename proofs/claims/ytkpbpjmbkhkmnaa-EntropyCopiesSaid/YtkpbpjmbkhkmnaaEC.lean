/- Printed by Gen.lean.tpl (this work's own): Go functions as pure functions, each with the proof that the Go code comes to its answers. -/
import Derived.Test.YtkpbpjmbkhkmnaaMs
import Derived.Test.YtkpbpjmbkhkmnaaChecked
set_option linter.unusedVariables false
set_option maxRecDepth 100000
set_option maxHeartbeats 4000000
namespace Hyp
open Go Go.Proofs
def C_9_0 : CutF → Cut := fun κ => ⟨[15, 16, 17], fun e => match e with | .ex i => bif Nat.beq i 0 then [] else [] | .rt => [4] | .nm => [], κ⟩
def F_hypogeumlaw08_few_l0 (n : Nat) : Nat → (Bool) → (List (Int × List UInt8)) → (Int) → (Int) → Tree (Unit ⊕ Unit)
  | 0 => fun  x9 x10 x11 x12 => .fail
  | k + 1 => fun x9 x10 x11 x12 =>
      .ite (Decidable.decide (x12 < x11))
        (.get (Hyp.getI x10 x12) fun y15 =>
        .ite (Decidable.decide ((400 : Int) < (Nat.cast (List.length y15.2))))
          (.ret (.inl ()))
          (.sub (F_hypogeumlaw08_few_l0 n k x9 x10 x11 (Go.IntKind.wrap Go.IntKind.i64 (x12 + (1 : Int)))) fun y16 =>
          .alt y16 (fun y17 =>
            .ret (.inl ()))
            fun y18 =>
            .ret (.inr ())))
        (.ret (.inr ()))
def S_hypogeumlaw08_few_l0 (n k : Nat) : CutF := fun avs L b => bySk ⟨[(.ro false (.rcd (.pair (.sint .i64) (.list .u8))) []), (.val (.sint .i64) (0 : Int)), (.val (.sint .i64) (0 : Int))], [], 0⟩ avs L b (fun l => lfC l fun x9 l => lfD (.list (.rcd (.pair (.sint .i64) (.list .u8)))) l fun (x10 : List (Int × List UInt8)) l => lfD (.sint .i64) l fun (x11 : Int) l => lfD (.sint .i64) l fun (x12 : Int) l => lfE l (.sub (F_hypogeumlaw08_few_l0 n k x9 x10 x11 x12) fun r => .alt r (fun r => .ret (.rt, [(.val .bool false)], [], 0)) (fun r => .ret (.ex 0, [], [], 0)))) .fail
theorem ok_hypogeumlaw08_few_l0 (n : Nat) : ∀ k, SoundC Try.prog (Go.Func.ntmps Try.f9) (.loop (bodyOf Try.f9 0)) (wr (bodyOf Try.f9 0)) (C_9_0 (S_hypogeumlaw08_few_l0 n k)) := by
  refine loop_sound (tab := mkTab []) (cuts := mkCuts []) .nil (CutsOK.list (l := []) (by kernel_rfl) (fun _ h => by cases h)) (by kernel_rfl) (fun avs L b => ?_) (fun k avs L b r h => ?_)
  · cases h : (S_hypogeumlaw08_few_l0 n 0 avs L b).run with
    | none => rfl
    | some r =>
      rcases bySk_ok h with ⟨l, rfl, rfl, rfl, q0⟩ | q0
      · obtain ⟨x9, l, rfl, q1⟩ := lfC_ok q0
        obtain ⟨x10, l, rfl, q2⟩ := lfD_ok q1
        obtain ⟨x11, l, rfl, q3⟩ := lfD_ok q2
        obtain ⟨x12, l, rfl, q4⟩ := lfD_ok q3
        obtain ⟨rfl, q⟩ := lfE_ok q4
        cases q
      · cases q0
  · rcases bySk_ok h with ⟨l, rfl, rfl, rfl, q0⟩ | q0
    · obtain ⟨x9, l, rfl, q1⟩ := lfC_ok q0
      obtain ⟨x10, l, rfl, q2⟩ := lfD_ok q1
      obtain ⟨x11, l, rfl, q3⟩ := lfD_ok q2
      obtain ⟨x12, l, rfl, q4⟩ := lfD_ok q3
      obtain ⟨rfl, q⟩ := lfE_ok q4
      exact run_subs (k' := fun r => (match r with | .inl r => .ret (.rt, [(.val .bool false)], [], 0) | .inr r => .ret (.ex 0, [], [], 0))) q (fun y => by rcases y with y | y <;> rfl) (by kernel_rfl)
    · cases q0
def F_hypogeumlaw08_few (n : Nat) (x6 : List UInt8) (x7 : Bool) (x8 : List (Int × List UInt8)) : Tree Bool :=
  .ite ((Decidable.decide ((30 : Int) < (Nat.cast (List.length x8)))) || (Decidable.decide ((4000 : Int) < (Nat.cast (List.length x6)))))
    (.ret false)
    (.sub (F_hypogeumlaw08_few_l0 n n x7 x8 (Nat.cast (List.length x8)) (0 : Int)) fun y19 =>
    .alt y19 (fun y20 =>
      .ret false)
      fun y21 =>
      .ret true)
def S_hypogeumlaw08_few (n : Nat) : Summ := fun avs L b => bySk ⟨[(.ro false .u8 []), (.ro false (.rcd (.pair (.sint .i64) (.list .u8))) [])], [], 0⟩ avs L b (fun l => lfC l fun x5 l => lfD (.list .u8) l fun (x6 : List UInt8) l => lfC l fun x7 l => lfD (.list (.rcd (.pair (.sint .i64) (.list .u8)))) l fun (x8 : List (Int × List UInt8)) l => lfE l (.sub (F_hypogeumlaw08_few n x6 x7 x8) fun r => .ret ((.val .bool r), [], 0))) .fail
theorem ok_hypogeumlaw08_few (n : Nat) : SoundF Try.prog 9 (S_hypogeumlaw08_few n) := by
  refine fn_sound true (c := codeOf Try.f9) (tab := mkTab []) (cuts := mkCuts [(0, C_9_0 (S_hypogeumlaw08_few_l0 n n))]) Try.func9 (by kernel_rfl) .nil (CutsOK.list (l := [(0, bodyOf Try.f9 0)]) (by kernel_rfl) (LoopsOK.all ⟨.inr ⟨_, rfl, ok_hypogeumlaw08_few_l0 n n⟩, trivial⟩)) (fun avs L b r h => ?_)
  rcases bySk_ok h with ⟨l, rfl, rfl, rfl, q0⟩ | q0
  · obtain ⟨x5, l, rfl, q1⟩ := lfC_ok q0
    obtain ⟨x6, l, rfl, q2⟩ := lfD_ok q1
    obtain ⟨x7, l, rfl, q3⟩ := lfC_ok q2
    obtain ⟨x8, l, rfl, q4⟩ := lfD_ok q3
    obtain ⟨rfl, q⟩ := lfE_ok q4
    exact run_sub q (by kernel_rfl)
  · cases q0
def F_entropy_New (n : Nat) (x23 : List UInt8) : Tree (List UInt8) :=
  .get (Hyp.appI 140737488355328 ([] : List UInt8) x23) fun y24 =>
  .ret y24
def S_entropy_New (n : Nat) : Summ := fun avs L b => bySk ⟨[(.whole 0 1)], [⟨0, 1, .row .u8 []⟩], 2⟩ avs L b (fun l => lfD (.list .u8) l fun (x23 : List UInt8) l => lfE l (.sub (F_entropy_New n x23) fun r => .ret ((.ptr 2 0), [⟨2, 3, .box (.agg (.pr (.whole 4 1) (.pr (.val (.sint .i64) (0 : Int)) .un)))⟩, ⟨4, 5, .row .u8 r⟩, ⟨0, 7, .row .u8 x23⟩], 8))) .fail
theorem ok_entropy_New (n : Nat) : SoundF Try.prog 11 (S_entropy_New n) := by
  refine fn_sound false (c := codeOf Try.f11) (tab := mkTab []) (cuts := mkCuts []) Try.func11 (by kernel_rfl) .nil (CutsOK.list (l := []) (by kernel_rfl) (fun _ h => by cases h)) (fun avs L b r h => ?_)
  rcases bySk_ok h with ⟨l, rfl, rfl, rfl, q0⟩ | q0
  · obtain ⟨x23, l, rfl, q1⟩ := lfD_ok q0
    obtain ⟨rfl, q⟩ := lfE_ok q1
    exact run_sub q (by kernel_rfl)
  · cases q0
def F_entropy_heap_rest (n : Nat) (x29 : Int) (x30 : List UInt8) : Tree Int :=
  .ret (Go.IntKind.wrap Go.IntKind.i64 ((Nat.cast (List.length x30)) - x29))
def S_entropy_heap_rest (n : Nat) : Summ := fun avs L b => bySk ⟨[(.ptr 0 0)], [⟨0, 1, .box (.agg (.pr (.whole 2 1) (.pr (.val (.sint .i64) (0 : Int)) .un)))⟩, ⟨2, 3, .row .u8 []⟩], 4⟩ avs L b (fun l => lfD (.sint .i64) l fun (x29 : Int) l => lfD (.list .u8) l fun (x30 : List UInt8) l => lfE l (.sub (F_entropy_heap_rest n x29 x30) fun r => .ret ((.val (.sint .i64) r), [⟨0, 5, .box (.agg (.pr (.whole 6 1) (.pr (.val (.sint .i64) x29) .un)))⟩, ⟨6, 7, .row .u8 x30⟩], 8))) .fail
theorem ok_entropy_heap_rest (n : Nat) : SoundF Try.prog 24 (S_entropy_heap_rest n) := by
  refine fn_sound false (c := codeOf Try.f24) (tab := mkTab []) (cuts := mkCuts []) Try.func24 (by kernel_rfl) .nil (CutsOK.list (l := []) (by kernel_rfl) (fun _ h => by cases h)) (fun avs L b r h => ?_)
  rcases bySk_ok h with ⟨l, rfl, rfl, rfl, q0⟩ | q0
  · obtain ⟨x29, l, rfl, q1⟩ := lfD_ok q0
    obtain ⟨x30, l, rfl, q2⟩ := lfD_ok q1
    obtain ⟨rfl, q⟩ := lfE_ok q2
    exact run_sub q (by kernel_rfl)
  · cases q0
def F_entropy_Source_Draw (n : Nat) (x26 : Int) (x27 : Int) (x28 : List UInt8) : Tree (Int ⊕ ((List UInt8) × Int)) :=
  .ite ((Decidable.decide (x26 < (0 : Int))) || (Decidable.decide ((4096 : Int) < x26)))
    (.ret (.inl (1 : Int)))
    (.sub (F_entropy_heap_rest n x27 x28) fun y31 =>
    .ite (Decidable.decide (y31 < x26))
      (.ret (.inl (9 : Int)))
      (.get (ite (And ((0 : Int) ≤ x27) (And (x27 ≤ (Go.IntKind.wrap Go.IntKind.i64 (x27 + x26))) ((Go.IntKind.wrap Go.IntKind.i64 (x27 + x26)) ≤ (Nat.cast (List.length x28))))) (Option.some Unit.unit) Option.none) fun y32 =>
      .get (Hyp.appI 140737488355328 ([] : List UInt8) (List.take ((Int.toNat (Go.IntKind.wrap Go.IntKind.i64 (x27 + x26))) - (Int.toNat x27)) (List.drop (0 + (Int.toNat x27)) x28))) fun y33 =>
      .ret (.inr (y33, (Go.IntKind.wrap Go.IntKind.i64 (x27 + x26))))))
def S_entropy_Source_Draw (n : Nat) : Summ := fun avs L b => bySk ⟨[(.ptr 0 0), (.val (.sint .i64) (0 : Int))], [⟨0, 1, .box (.agg (.pr (.whole 2 1) (.pr (.val (.sint .i64) (0 : Int)) .un)))⟩, ⟨2, 3, .row .u8 []⟩], 4⟩ avs L b (fun l => lfD (.sint .i64) l fun (x26 : Int) l => lfD (.sint .i64) l fun (x27 : Int) l => lfD (.list .u8) l fun (x28 : List UInt8) l => lfE l (.sub (F_entropy_Source_Draw n x26 x27 x28) fun r => .alt r (fun r => .ret ((.tup (.pr (.snil none) (.pr (.val (.sint .i64) r) .un))), [⟨0, 5, .box (.agg (.pr (.whole 6 1) (.pr (.val (.sint .i64) x27) .un)))⟩, ⟨6, 7, .row .u8 x28⟩], 8)) (fun r => .ret ((.tup (.pr (.whole 4 1) (.pr (.val (.sint .i64) (0 : Int)) .un))), [⟨4, 5, .row .u8 r.1⟩, ⟨0, 7, .box (.agg (.pr (.whole 8 1) (.pr (.val (.sint .i64) r.2) .un)))⟩, ⟨8, 9, .row .u8 x28⟩], 10)))) .fail
theorem ok_entropy_Source_Draw (n : Nat) : SoundF Try.prog 16 (S_entropy_Source_Draw n) := by
  refine fn_sound false (c := codeOf Try.f16) (tab := mkTab [(24, ⟨S_entropy_heap_rest n, [], []⟩)]) (cuts := mkCuts []) Try.func16 (by kernel_rfl) (.cons (ok_entropy_heap_rest n) ⟨_, Try.func24, by kernel_rfl⟩ .nil) (CutsOK.list (l := []) (by kernel_rfl) (fun _ h => by cases h)) (fun avs L b r h => ?_)
  rcases bySk_ok h with ⟨l, rfl, rfl, rfl, q0⟩ | q0
  · obtain ⟨x26, l, rfl, q1⟩ := lfD_ok q0
    obtain ⟨x27, l, rfl, q2⟩ := lfD_ok q1
    obtain ⟨x28, l, rfl, q3⟩ := lfD_ok q2
    obtain ⟨rfl, q⟩ := lfE_ok q3
    exact run_subs (k' := fun r => (match r with | .inl r => .ret ((.tup (.pr (.snil none) (.pr (.val (.sint .i64) r) .un))), [⟨0, 5, .box (.agg (.pr (.whole 6 1) (.pr (.val (.sint .i64) x27) .un)))⟩, ⟨6, 7, .row .u8 x28⟩], 8) | .inr r => .ret ((.tup (.pr (.whole 4 1) (.pr (.val (.sint .i64) (0 : Int)) .un))), [⟨4, 5, .row .u8 r.1⟩, ⟨0, 7, .box (.agg (.pr (.whole 8 1) (.pr (.val (.sint .i64) r.2) .un)))⟩, ⟨8, 9, .row .u8 x28⟩], 10))) q (fun y => by rcases y with y | y <;> rfl) (by kernel_rfl)
  · cases q0
def F_entropy_Source_Left (n : Nat) (x44 : Int) (x45 : List UInt8) : Tree Int :=
  .sub (F_entropy_heap_rest n x44 x45) fun y46 =>
  .ret y46
def S_entropy_Source_Left (n : Nat) : Summ := fun avs L b => bySk ⟨[(.ptr 0 0)], [⟨0, 1, .box (.agg (.pr (.whole 2 1) (.pr (.val (.sint .i64) (0 : Int)) .un)))⟩, ⟨2, 3, .row .u8 []⟩], 4⟩ avs L b (fun l => lfD (.sint .i64) l fun (x44 : Int) l => lfD (.list .u8) l fun (x45 : List UInt8) l => lfE l (.sub (F_entropy_Source_Left n x44 x45) fun r => .ret ((.val (.sint .i64) r), [⟨0, 5, .box (.agg (.pr (.whole 6 1) (.pr (.val (.sint .i64) x44) .un)))⟩, ⟨6, 7, .row .u8 x45⟩], 8))) .fail
theorem ok_entropy_Source_Left (n : Nat) : SoundF Try.prog 13 (S_entropy_Source_Left n) := by
  refine fn_sound false (c := codeOf Try.f13) (tab := mkTab [(24, ⟨S_entropy_heap_rest n, [], []⟩)]) (cuts := mkCuts []) Try.func13 (by kernel_rfl) (.cons (ok_entropy_heap_rest n) ⟨_, Try.func24, by kernel_rfl⟩ .nil) (CutsOK.list (l := []) (by kernel_rfl) (fun _ h => by cases h)) (fun avs L b r h => ?_)
  rcases bySk_ok h with ⟨l, rfl, rfl, rfl, q0⟩ | q0
  · obtain ⟨x44, l, rfl, q1⟩ := lfD_ok q0
    obtain ⟨x45, l, rfl, q2⟩ := lfD_ok q1
    obtain ⟨rfl, q⟩ := lfE_ok q2
    exact run_sub q (by kernel_rfl)
  · cases q0
def F_hypogeumlaw08_awake (n : Nat) : Tree Bool :=
  .sub (F_entropy_New n ([1, 2, 3] : List UInt8)) fun y25 =>
  .sub (F_entropy_Source_Draw n (2 : Int) (0 : Int) y25) fun y34 =>
  .alt y34 (fun y35 =>
    .sub (F_entropy_Source_Draw n (2 : Int) (0 : Int) y25) fun y36 =>
    .alt y36 (fun y37 =>
      .ite false
        (.fail)
        (.ret false))
      fun y38 =>
      .ite false
        (.fail)
        (.ret false))
    fun y39 =>
    .sub (F_entropy_Source_Draw n (2 : Int) y39.2 y25) fun y40 =>
    .alt y40 (fun y41 =>
      .ite (Decidable.decide ((Nat.cast (List.length y39.1)) = (2 : Int)))
        (.get (Hyp.inI (List.length y39.1) (1 : Int)) fun y42 =>
        .get (GetElem?.getElem? y39.1 (0 + y42)) fun y43 =>
        .ite (Decidable.decide (y43 = (2 : UInt8)))
          (.ite true
            (.ite (Decidable.decide (y41 = (9 : Int)))
              (.sub (F_entropy_Source_Left n y39.2 y25) fun y47 =>
              .ret (Decidable.decide (y47 = (1 : Int))))
              (.ret false))
            (.ret false))
          (.ret false))
        (.ret false))
      fun y48 =>
      .ite (Decidable.decide ((Nat.cast (List.length y39.1)) = (2 : Int)))
        (.get (Hyp.inI (List.length y39.1) (1 : Int)) fun y49 =>
        .get (GetElem?.getElem? y39.1 (0 + y49)) fun y50 =>
        .ite (Decidable.decide (y50 = (2 : UInt8)))
          (.ite true
            (.ite false
              (.sub (F_entropy_Source_Left n y48.2 y25) fun y51 =>
              .ret (Decidable.decide (y51 = (1 : Int))))
              (.ret false))
            (.ret false))
          (.ret false))
        (.ret false)
def S_hypogeumlaw08_awake (n : Nat) : Summ := fun avs L b => bySk ⟨[], [], 0⟩ avs L b (fun l => lfE l (.sub (F_hypogeumlaw08_awake n) fun r => .ret ((.val .bool r), [], 0))) .fail
theorem ok_hypogeumlaw08_awake (n : Nat) : SoundF Try.prog 10 (S_hypogeumlaw08_awake n) := by
  refine fn_sound true (c := codeOf Try.f10) (tab := mkTab [(11, ⟨S_entropy_New n, [], []⟩), (16, ⟨S_entropy_Source_Draw n, [], []⟩), (13, ⟨S_entropy_Source_Left n, [], []⟩)]) (cuts := mkCuts []) Try.func10 (by kernel_rfl) (.cons (ok_entropy_New n) ⟨_, Try.func11, by kernel_rfl⟩ (.cons (ok_entropy_Source_Draw n) ⟨_, Try.func16, by kernel_rfl⟩ (.cons (ok_entropy_Source_Left n) ⟨_, Try.func13, by kernel_rfl⟩ .nil))) (CutsOK.list (l := []) (by kernel_rfl) (fun _ h => by cases h)) (fun avs L b r h => ?_)
  rcases bySk_ok h with ⟨l, rfl, rfl, rfl, q0⟩ | q0
  · obtain ⟨rfl, q⟩ := lfE_ok q0
    exact run_sub q (by kernel_rfl)
  · cases q0
def C_5_0 : CutF → Cut := fun κ => ⟨[7, 8, 37, 38, 39], fun e => match e with | .ex i => bif Nat.beq i 0 then [] else [] | .rt => [] | .nm => [], κ⟩
def F_entropy_Source_More (n : Nat) (x77 : List UInt8) (x78 : List UInt8) : Tree (List UInt8) :=
  .get (Hyp.appI 140737488355328 x77 x78) fun y79 =>
  .ret y79
def S_entropy_Source_More (n : Nat) : Summ := fun avs L b => bySk ⟨[(.ptr 0 0), (.whole 4 1)], [⟨0, 1, .box (.agg (.pr (.whole 2 1) (.pr (.val (.sint .i64) (0 : Int)) .un)))⟩, ⟨2, 3, .row .u8 []⟩, ⟨4, 5, .row .u8 []⟩], 6⟩ avs L b (fun l => lfD (.sint .i64) l fun (x76 : Int) l => lfD (.list .u8) l fun (x77 : List UInt8) l => lfD (.list .u8) l fun (x78 : List UInt8) l => lfE l (.sub (F_entropy_Source_More n x77 x78) fun r => .ret ((.tup .un), [⟨0, 7, .box (.agg (.pr (.whole 8 1) (.pr (.val (.sint .i64) x76) .un)))⟩, ⟨8, 9, .row .u8 r⟩, ⟨4, 11, .row .u8 x78⟩], 12))) .fail
theorem ok_entropy_Source_More (n : Nat) : SoundF Try.prog 15 (S_entropy_Source_More n) := by
  refine fn_sound false (c := codeOf Try.f15) (tab := mkTab []) (cuts := mkCuts []) Try.func15 (by kernel_rfl) .nil (CutsOK.list (l := []) (by kernel_rfl) (fun _ h => by cases h)) (fun avs L b r h => ?_)
  rcases bySk_ok h with ⟨l, rfl, rfl, rfl, q0⟩ | q0
  · obtain ⟨x76, l, rfl, q1⟩ := lfD_ok q0
    obtain ⟨x77, l, rfl, q2⟩ := lfD_ok q1
    obtain ⟨x78, l, rfl, q3⟩ := lfD_ok q2
    obtain ⟨rfl, q⟩ := lfE_ok q3
    exact run_sub q (by kernel_rfl)
  · cases q0
def C_12_0 : CutF → Cut := fun κ => ⟨[8, 27, 28], fun e => match e with | .ex i => bif Nat.beq i 0 then [] else [] | .rt => [] | .nm => [], κ⟩
def F_hypogeumlaw08_does_l0 (n : Nat) : Nat → (Int) → (Int) → (List UInt8) → Tree (List UInt8)
  | 0 => fun  x81 x82 x83 => .fail
  | k + 1 => fun x81 x82 x83 =>
      .ite (Decidable.decide (x82 < x81))
        (.get (Hyp.inI (List.length x83) x82) fun y94 =>
        .get (GetElem?.getElem? x83 (0 + y94)) fun y95 =>
        .get (Hyp.inI (List.length x83) x82) fun y96 =>
        .get (GetElem?.getElem? x83 (0 + y96)) fun y97 =>
        .sub (F_hypogeumlaw08_does_l0 n k x81 (Go.IntKind.wrap Go.IntKind.i64 (x82 + (1 : Int))) (List.set x83 (0 + y96) (y95 + (1 : UInt8)))) fun y98 =>
        .ret y98)
        (.ret x83)
def S_hypogeumlaw08_does_l0 (n k : Nat) : CutF := fun avs L b => bySk ⟨[(.whole 0 1), (.val (.sint .i64) (0 : Int)), (.val (.sint .i64) (0 : Int))], [⟨0, 1, .row .u8 []⟩], 2⟩ avs L b (fun l => lfD (.sint .i64) l fun (x81 : Int) l => lfD (.sint .i64) l fun (x82 : Int) l => lfD (.list .u8) l fun (x83 : List UInt8) l => lfE l (.sub (F_hypogeumlaw08_does_l0 n k x81 x82 x83) fun r => .ret (.ex 0, [], [⟨0, 3, .row .u8 r⟩], 4))) .fail
theorem ok_hypogeumlaw08_does_l0 (n : Nat) : ∀ k, SoundC Try.prog (Go.Func.ntmps Try.f12) (.loop (bodyOf Try.f12 0)) (wr (bodyOf Try.f12 0)) (C_12_0 (S_hypogeumlaw08_does_l0 n k)) := by
  refine loop_sound (tab := mkTab []) (cuts := mkCuts []) .nil (CutsOK.list (l := []) (by kernel_rfl) (fun _ h => by cases h)) (by kernel_rfl) (fun avs L b => ?_) (fun k avs L b r h => ?_)
  · cases h : (S_hypogeumlaw08_does_l0 n 0 avs L b).run with
    | none => rfl
    | some r =>
      rcases bySk_ok h with ⟨l, rfl, rfl, rfl, q0⟩ | q0
      · obtain ⟨x81, l, rfl, q1⟩ := lfD_ok q0
        obtain ⟨x82, l, rfl, q2⟩ := lfD_ok q1
        obtain ⟨x83, l, rfl, q3⟩ := lfD_ok q2
        obtain ⟨rfl, q⟩ := lfE_ok q3
        cases q
      · cases q0
  · rcases bySk_ok h with ⟨l, rfl, rfl, rfl, q0⟩ | q0
    · obtain ⟨x81, l, rfl, q1⟩ := lfD_ok q0
      obtain ⟨x82, l, rfl, q2⟩ := lfD_ok q1
      obtain ⟨x83, l, rfl, q3⟩ := lfD_ok q2
      obtain ⟨rfl, q⟩ := lfE_ok q3
      exact run_sub q (by kernel_rfl)
    · cases q0
def F_hypogeumref08_Source_More (n : Nat) (x101 : List UInt8) (x104 : List UInt8) : Tree (List UInt8) :=
  .get (Hyp.appI 140737488355328 ([] : List UInt8) x101) fun y105 =>
  .get (Hyp.appI 140737488355328 y105 x104) fun y106 =>
  .ret y106
def S_hypogeumref08_Source_More (n : Nat) : Summ := fun avs L b => bySk ⟨[(.agg (.pr (.ro false .u8 []) (.pr (.val (.sint .i64) (0 : Int)) .un))), (.ro false .u8 [])], [], 0⟩ avs L b (fun l => lfC l fun x100 l => lfD (.list .u8) l fun (x101 : List UInt8) l => lfD (.sint .i64) l fun (x102 : Int) l => lfC l fun x103 l => lfD (.list .u8) l fun (x104 : List UInt8) l => lfE l (.sub (F_hypogeumref08_Source_More n x101 x104) fun r => .ret ((.agg (.pr (.ro false .u8 r) (.pr (.val (.sint .i64) x102) .un))), [], 0))) .fail
theorem ok_hypogeumref08_Source_More (n : Nat) : SoundF Try.prog 22 (S_hypogeumref08_Source_More n) := by
  refine fn_sound true (c := codeOf Try.f22) (tab := mkTab []) (cuts := mkCuts []) Try.func22 (by kernel_rfl) .nil (CutsOK.list (l := []) (by kernel_rfl) (fun _ h => by cases h)) (fun avs L b r h => ?_)
  rcases bySk_ok h with ⟨l, rfl, rfl, rfl, q0⟩ | q0
  · obtain ⟨x100, l, rfl, q1⟩ := lfC_ok q0
    obtain ⟨x101, l, rfl, q2⟩ := lfD_ok q1
    obtain ⟨x102, l, rfl, q3⟩ := lfD_ok q2
    obtain ⟨x103, l, rfl, q4⟩ := lfC_ok q3
    obtain ⟨x104, l, rfl, q5⟩ := lfD_ok q4
    obtain ⟨rfl, q⟩ := lfE_ok q5
    exact run_sub q (by kernel_rfl)
  · cases q0
def F_hypogeumref08_Source_Draw (n : Nat) (x111 : List UInt8) (x112 : Int) (x113 : Int) : Tree (Int ⊕ ((List UInt8) × ((Int) × (List UInt8)))) :=
  .ite ((Decidable.decide (x113 < (0 : Int))) || (Decidable.decide ((4096 : Int) < x113)))
    (.ret (.inl (1 : Int)))
    (.ite (Decidable.decide ((Nat.cast (List.length x111)) < x113))
      (.ret (.inl (9 : Int)))
      (.get (Hyp.subI x111 x113 (Nat.cast (List.length x111))) fun y114 =>
      .get (Hyp.subI x111 (0 : Int) x113) fun y115 =>
      .ret (.inr (y114, (Go.IntKind.wrap Go.IntKind.i64 (x112 + x113)), y115))))
def S_hypogeumref08_Source_Draw (n : Nat) : Summ := fun avs L b => bySk ⟨[(.agg (.pr (.ro false .u8 []) (.pr (.val (.sint .i64) (0 : Int)) .un))), (.val (.sint .i64) (0 : Int))], [], 0⟩ avs L b (fun l => lfC l fun x110 l => lfD (.list .u8) l fun (x111 : List UInt8) l => lfD (.sint .i64) l fun (x112 : Int) l => lfD (.sint .i64) l fun (x113 : Int) l => lfE l (.sub (F_hypogeumref08_Source_Draw n x111 x112 x113) fun r => .alt r (fun r => .ret ((.tup (.pr (.agg (.pr (.ro x110 .u8 x111) (.pr (.val (.sint .i64) x112) .un))) (.pr (.snil none) (.pr (.val (.sint .i64) r) .un)))), [], 0)) (fun r => .ret ((.tup (.pr (.agg (.pr (.ro false .u8 r.1) (.pr (.val (.sint .i64) r.2.1) .un))) (.pr (.ro false .u8 r.2.2) (.pr (.val (.sint .i64) (0 : Int)) .un)))), [], 0)))) .fail
theorem ok_hypogeumref08_Source_Draw (n : Nat) : SoundF Try.prog 23 (S_hypogeumref08_Source_Draw n) := by
  refine fn_sound true (c := codeOf Try.f23) (tab := mkTab []) (cuts := mkCuts []) Try.func23 (by kernel_rfl) .nil (CutsOK.list (l := []) (by kernel_rfl) (fun _ h => by cases h)) (fun avs L b r h => ?_)
  rcases bySk_ok h with ⟨l, rfl, rfl, rfl, q0⟩ | q0
  · obtain ⟨x110, l, rfl, q1⟩ := lfC_ok q0
    obtain ⟨x111, l, rfl, q2⟩ := lfD_ok q1
    obtain ⟨x112, l, rfl, q3⟩ := lfD_ok q2
    obtain ⟨x113, l, rfl, q4⟩ := lfD_ok q3
    obtain ⟨rfl, q⟩ := lfE_ok q4
    exact run_subs (k' := fun r => (match r with | .inl r => .ret ((.tup (.pr (.agg (.pr (.ro x110 .u8 x111) (.pr (.val (.sint .i64) x112) .un))) (.pr (.snil none) (.pr (.val (.sint .i64) r) .un)))), [], 0) | .inr r => .ret ((.tup (.pr (.agg (.pr (.ro false .u8 r.1) (.pr (.val (.sint .i64) r.2.1) .un))) (.pr (.ro false .u8 r.2.2) (.pr (.val (.sint .i64) (0 : Int)) .un)))), [], 0))) q (fun y => by rcases y with y | y <;> rfl) (by kernel_rfl)
  · cases q0
def C_12_2 : CutF → Cut := fun κ => ⟨[10, 68, 69], fun e => match e with | .ex i => bif Nat.beq i 2 then [] else [] | .rt => [] | .nm => [], κ⟩
def F_hypogeumlaw08_does_l2 (n : Nat) : Nat → (Int) → (Int) → Tree Unit
  | 0 => fun  x118 x119 => .fail
  | k + 1 => fun x118 x119 =>
      .ite (Decidable.decide (x119 < x118))
        (.fail)
        (.ret ())
def S_hypogeumlaw08_does_l2 (n k : Nat) : CutF := fun avs L b => bySk ⟨[(.snil none), (.val (.sint .i64) (0 : Int)), (.val (.sint .i64) (0 : Int))], [], 0⟩ avs L b (fun l => lfD (.sint .i64) l fun (x118 : Int) l => lfD (.sint .i64) l fun (x119 : Int) l => lfE l (.sub (F_hypogeumlaw08_does_l2 n k x118 x119) fun r => .ret (.ex 2, [], [], 0))) .fail
theorem ok_hypogeumlaw08_does_l2 (n : Nat) : ∀ k, SoundC Try.prog (Go.Func.ntmps Try.f12) (.loop (bodyOf Try.f12 2)) (wr (bodyOf Try.f12 2)) (C_12_2 (S_hypogeumlaw08_does_l2 n k)) := by
  refine loop_sound (tab := mkTab []) (cuts := mkCuts []) .nil (CutsOK.list (l := []) (by kernel_rfl) (fun _ h => by cases h)) (by kernel_rfl) (fun avs L b => ?_) (fun k avs L b r h => ?_)
  · cases h : (S_hypogeumlaw08_does_l2 n 0 avs L b).run with
    | none => rfl
    | some r =>
      rcases bySk_ok h with ⟨l, rfl, rfl, rfl, q0⟩ | q0
      · obtain ⟨x118, l, rfl, q1⟩ := lfD_ok q0
        obtain ⟨x119, l, rfl, q2⟩ := lfD_ok q1
        obtain ⟨rfl, q⟩ := lfE_ok q2
        cases q
      · cases q0
  · rcases bySk_ok h with ⟨l, rfl, rfl, rfl, q0⟩ | q0
    · obtain ⟨x118, l, rfl, q1⟩ := lfD_ok q0
      obtain ⟨x119, l, rfl, q2⟩ := lfD_ok q1
      obtain ⟨rfl, q⟩ := lfE_ok q2
      exact run_sub q (by kernel_rfl)
    · cases q0
def F_hypogeumlaw08_does_l2_1 (n : Nat) : Nat → (Int) → (Int) → (List UInt8) → Tree (List UInt8)
  | 0 => fun  x126 x127 x128 => .fail
  | k + 1 => fun x126 x127 x128 =>
      .ite (Decidable.decide (x127 < x126))
        (.get (Hyp.inI (List.length x128) x127) fun y139 =>
        .get (GetElem?.getElem? x128 (0 + y139)) fun y140 =>
        .get (Hyp.inI (List.length x128) x127) fun y141 =>
        .get (GetElem?.getElem? x128 (0 + y141)) fun y142 =>
        .sub (F_hypogeumlaw08_does_l2_1 n k x126 (Go.IntKind.wrap Go.IntKind.i64 (x127 + (1 : Int))) (List.set x128 (0 + y141) (y140 + (1 : UInt8)))) fun y143 =>
        .ret y143)
        (.ret x128)
def S_hypogeumlaw08_does_l2_1 (n k : Nat) : CutF := fun avs L b => bySk ⟨[(.whole 0 1), (.val (.sint .i64) (0 : Int)), (.val (.sint .i64) (0 : Int))], [⟨0, 1, .row .u8 []⟩], 2⟩ avs L b (fun l => lfD (.sint .i64) l fun (x126 : Int) l => lfD (.sint .i64) l fun (x127 : Int) l => lfD (.list .u8) l fun (x128 : List UInt8) l => lfE l (.sub (F_hypogeumlaw08_does_l2_1 n k x126 x127 x128) fun r => .ret (.ex 2, [], [⟨0, 3, .row .u8 r⟩], 4))) .fail
theorem ok_hypogeumlaw08_does_l2_1 (n : Nat) : ∀ k, SoundC Try.prog (Go.Func.ntmps Try.f12) (.loop (bodyOf Try.f12 2)) (wr (bodyOf Try.f12 2)) (C_12_2 (S_hypogeumlaw08_does_l2_1 n k)) := by
  refine loop_sound (tab := mkTab []) (cuts := mkCuts []) .nil (CutsOK.list (l := []) (by kernel_rfl) (fun _ h => by cases h)) (by kernel_rfl) (fun avs L b => ?_) (fun k avs L b r h => ?_)
  · cases h : (S_hypogeumlaw08_does_l2_1 n 0 avs L b).run with
    | none => rfl
    | some r =>
      rcases bySk_ok h with ⟨l, rfl, rfl, rfl, q0⟩ | q0
      · obtain ⟨x126, l, rfl, q1⟩ := lfD_ok q0
        obtain ⟨x127, l, rfl, q2⟩ := lfD_ok q1
        obtain ⟨x128, l, rfl, q3⟩ := lfD_ok q2
        obtain ⟨rfl, q⟩ := lfE_ok q3
        cases q
      · cases q0
  · rcases bySk_ok h with ⟨l, rfl, rfl, rfl, q0⟩ | q0
    · obtain ⟨x126, l, rfl, q1⟩ := lfD_ok q0
      obtain ⟨x127, l, rfl, q2⟩ := lfD_ok q1
      obtain ⟨x128, l, rfl, q3⟩ := lfD_ok q2
      obtain ⟨rfl, q⟩ := lfE_ok q3
      exact run_sub q (by kernel_rfl)
    · cases q0
def F_hypogeumlaw08_does (n : Nat) (x67 : Bool) (x68 : List UInt8) (x69 : Int) (x70 : Int) (x72 : List UInt8) (x73 : Int) (x74 : List UInt8) : Tree ((Bool) × ((List UInt8) × ((Int) × ((Bool) × ((Int) × (List UInt8)))))) :=
  .ite (Decidable.decide (x70 < (-9 : Int)))
    (.get (Hyp.appI 140737488355328 ([] : List UInt8) x72) fun y75 =>
    .sub (F_entropy_Source_More n x74 y75) fun y80 =>
    .sub (F_hypogeumlaw08_does_l0 n n (Nat.cast (List.length y75)) (0 : Int) y75) fun y99 =>
    .sub (F_hypogeumref08_Source_More n x68 x72) fun y107 =>
    .ret (false, y107, x69, true, x73, y80))
    (.sub (F_entropy_Source_Draw n x70 x73 x74) fun y108 =>
    .alt y108 (fun y109 =>
      .sub (F_hypogeumref08_Source_Draw n x68 x69 x70) fun y116 =>
      .alt y116 (fun y117 =>
        .sub (F_hypogeumlaw08_does_l2 n n (0 : Int) (0 : Int)) fun y120 =>
        .ret (x67, x68, x69, (true && (Decidable.decide (y109 = y117))), x73, x74))
        fun y121 =>
        .sub (F_hypogeumlaw08_does_l2 n n (0 : Int) (0 : Int)) fun y122 =>
        .ret (false, y121.1, y121.2.1, ((Decidable.decide (([] : List UInt8) = y121.2.2)) && (Decidable.decide (y109 = (0 : Int)))), x73, x74))
      fun y123 =>
      .sub (F_hypogeumref08_Source_Draw n x68 x69 x70) fun y124 =>
      .alt y124 (fun y125 =>
        .sub (F_hypogeumlaw08_does_l2_1 n n (Nat.cast (List.length y123.1)) (0 : Int) y123.1) fun y144 =>
        .ret (x67, x68, x69, ((Decidable.decide (y123.1 = ([] : List UInt8))) && (Decidable.decide ((0 : Int) = y125))), y123.2, x74))
        fun y145 =>
        .sub (F_hypogeumlaw08_does_l2_1 n n (Nat.cast (List.length y123.1)) (0 : Int) y123.1) fun y146 =>
        .ret (false, y145.1, y145.2.1, ((Decidable.decide (y123.1 = y145.2.2)) && true), y123.2, x74))
def S_hypogeumlaw08_does (n : Nat) : Summ := fun avs L b => bySk ⟨[(.ptr 0 0), (.agg (.pr (.ro false .u8 []) (.pr (.val (.sint .i64) (0 : Int)) .un))), (.agg (.pr (.val (.sint .i64) (0 : Int)) (.pr (.ro false .u8 []) .un)))], [⟨0, 1, .box (.agg (.pr (.whole 2 1) (.pr (.val (.sint .i64) (0 : Int)) .un)))⟩, ⟨2, 3, .row .u8 []⟩], 4⟩ avs L b (fun l => lfC l fun x67 l => lfD (.list .u8) l fun (x68 : List UInt8) l => lfD (.sint .i64) l fun (x69 : Int) l => lfD (.sint .i64) l fun (x70 : Int) l => lfC l fun x71 l => lfD (.list .u8) l fun (x72 : List UInt8) l => lfD (.sint .i64) l fun (x73 : Int) l => lfD (.list .u8) l fun (x74 : List UInt8) l => lfE l (.sub (F_hypogeumlaw08_does n x67 x68 x69 x70 x72 x73 x74) fun r => .ret ((.tup (.pr (.agg (.pr (.ro r.1 .u8 r.2.1) (.pr (.val (.sint .i64) r.2.2.1) .un))) (.pr (.val .bool r.2.2.2.1) .un))), [⟨0, 5, .box (.agg (.pr (.whole 6 1) (.pr (.val (.sint .i64) r.2.2.2.2.1) .un)))⟩, ⟨6, 7, .row .u8 r.2.2.2.2.2⟩], 8))) .fail
theorem ok_hypogeumlaw08_does (n : Nat) : SoundF Try.prog 12 (S_hypogeumlaw08_does n) := by
  refine fn_sound true (c := codeOf Try.f12) (tab := mkTab [(15, ⟨S_entropy_Source_More n, [], []⟩), (22, ⟨S_hypogeumref08_Source_More n, [], []⟩), (16, ⟨S_entropy_Source_Draw n, [], []⟩), (23, ⟨S_hypogeumref08_Source_Draw n, [], []⟩)]) (cuts := mkCuts [(0, C_12_0 (S_hypogeumlaw08_does_l0 n n)), (2, C_12_2 (orC (S_hypogeumlaw08_does_l2 n n) (S_hypogeumlaw08_does_l2_1 n n)))]) Try.func12 (by kernel_rfl) (.cons (ok_entropy_Source_More n) ⟨_, Try.func15, by kernel_rfl⟩ (.cons (ok_hypogeumref08_Source_More n) ⟨_, Try.func22, by kernel_rfl⟩ (.cons (ok_entropy_Source_Draw n) ⟨_, Try.func16, by kernel_rfl⟩ (.cons (ok_hypogeumref08_Source_Draw n) ⟨_, Try.func23, by kernel_rfl⟩ .nil)))) (CutsOK.list (l := [(0, bodyOf Try.f12 0), (2, bodyOf Try.f12 2)]) (by kernel_rfl) (LoopsOK.all ⟨.inr ⟨_, rfl, ok_hypogeumlaw08_does_l0 n n⟩, ⟨.inr ⟨_, rfl, .or (ok_hypogeumlaw08_does_l2 n n) (ok_hypogeumlaw08_does_l2_1 n n)⟩, trivial⟩⟩)) (fun avs L b r h => ?_)
  rcases bySk_ok h with ⟨l, rfl, rfl, rfl, q0⟩ | q0
  · obtain ⟨x67, l, rfl, q1⟩ := lfC_ok q0
    obtain ⟨x68, l, rfl, q2⟩ := lfD_ok q1
    obtain ⟨x69, l, rfl, q3⟩ := lfD_ok q2
    obtain ⟨x70, l, rfl, q4⟩ := lfD_ok q3
    obtain ⟨x71, l, rfl, q5⟩ := lfC_ok q4
    obtain ⟨x72, l, rfl, q6⟩ := lfD_ok q5
    obtain ⟨x73, l, rfl, q7⟩ := lfD_ok q6
    obtain ⟨x74, l, rfl, q8⟩ := lfD_ok q7
    obtain ⟨rfl, q⟩ := lfE_ok q8
    exact run_sub q (by kernel_rfl)
  · cases q0
def F_hypogeumlaw08_EntropyCopies_l0 (n : Nat) : Nat → (Bool) → (List (Int × List UInt8)) → (Int) → (Int) → (Int) → (List UInt8) → (Bool) → (List UInt8) → (Int) → Tree ((Int) × ((List UInt8) × ((Bool) × ((List UInt8) × Int))))
  | 0 => fun  x57 x58 x59 x60 x61 x62 x63 x64 x65 => .fail
  | k + 1 => fun x57 x58 x59 x60 x61 x62 x63 x64 x65 =>
      .ite (Decidable.decide (x60 < x59))
        (.get (Hyp.getI x58 x60) fun y152 =>
        .sub (F_hypogeumlaw08_does n x63 x64 x65 y152.1 y152.2 x61 x62) fun y153 =>
        .sub (F_hypogeumlaw08_EntropyCopies_l0 n k x57 x58 x59 (Go.IntKind.wrap Go.IntKind.i64 (x60 + (1 : Int))) y153.2.2.2.2.1 y153.2.2.2.2.2 y153.1 y153.2.1 y153.2.2.1) fun y154 =>
        .ret (y154.1, y154.2.1, y154.2.2.1, y154.2.2.2.1, y154.2.2.2.2))
        (.ret (x61, x62, x63, x64, x65))
def S_hypogeumlaw08_EntropyCopies_l0 (n k : Nat) : CutF := fun avs L b => bySk ⟨[(.ptr 0 0), (.ptr 4 0), (.ro false (.rcd (.pair (.sint .i64) (.list .u8))) []), (.val (.sint .i64) (0 : Int)), (.val (.sint .i64) (0 : Int))], [⟨0, 1, .box (.agg (.pr (.whole 2 1) (.pr (.val (.sint .i64) (0 : Int)) .un)))⟩, ⟨2, 3, .row .u8 []⟩, ⟨4, 5, .box (.agg (.pr (.ro false .u8 []) (.pr (.val (.sint .i64) (0 : Int)) .un)))⟩], 6⟩ avs L b (fun l => lfC l fun x57 l => lfD (.list (.rcd (.pair (.sint .i64) (.list .u8)))) l fun (x58 : List (Int × List UInt8)) l => lfD (.sint .i64) l fun (x59 : Int) l => lfD (.sint .i64) l fun (x60 : Int) l => lfD (.sint .i64) l fun (x61 : Int) l => lfD (.list .u8) l fun (x62 : List UInt8) l => lfC l fun x63 l => lfD (.list .u8) l fun (x64 : List UInt8) l => lfD (.sint .i64) l fun (x65 : Int) l => lfE l (.sub (F_hypogeumlaw08_EntropyCopies_l0 n k x57 x58 x59 x60 x61 x62 x63 x64 x65) fun r => .ret (.ex 0, [], [⟨0, 7, .box (.agg (.pr (.whole 8 1) (.pr (.val (.sint .i64) r.1) .un)))⟩, ⟨8, 9, .row .u8 r.2.1⟩, ⟨4, 11, .box (.agg (.pr (.ro r.2.2.1 .u8 r.2.2.2.1) (.pr (.val (.sint .i64) r.2.2.2.2) .un)))⟩], 12))) .fail
theorem ok_hypogeumlaw08_EntropyCopies_l0 (n : Nat) : ∀ k, SoundC Try.prog (Go.Func.ntmps Try.f5) (.loop (bodyOf Try.f5 0)) (wr (bodyOf Try.f5 0)) (C_5_0 (S_hypogeumlaw08_EntropyCopies_l0 n k)) := by
  refine loop_sound (tab := mkTab [(12, ⟨S_hypogeumlaw08_does n, [], []⟩)]) (cuts := mkCuts []) (.cons (ok_hypogeumlaw08_does n) ⟨_, Try.func12, by kernel_rfl⟩ .nil) (CutsOK.list (l := []) (by kernel_rfl) (fun _ h => by cases h)) (by kernel_rfl) (fun avs L b => ?_) (fun k avs L b r h => ?_)
  · cases h : (S_hypogeumlaw08_EntropyCopies_l0 n 0 avs L b).run with
    | none => rfl
    | some r =>
      rcases bySk_ok h with ⟨l, rfl, rfl, rfl, q0⟩ | q0
      · obtain ⟨x57, l, rfl, q1⟩ := lfC_ok q0
        obtain ⟨x58, l, rfl, q2⟩ := lfD_ok q1
        obtain ⟨x59, l, rfl, q3⟩ := lfD_ok q2
        obtain ⟨x60, l, rfl, q4⟩ := lfD_ok q3
        obtain ⟨x61, l, rfl, q5⟩ := lfD_ok q4
        obtain ⟨x62, l, rfl, q6⟩ := lfD_ok q5
        obtain ⟨x63, l, rfl, q7⟩ := lfC_ok q6
        obtain ⟨x64, l, rfl, q8⟩ := lfD_ok q7
        obtain ⟨x65, l, rfl, q9⟩ := lfD_ok q8
        obtain ⟨rfl, q⟩ := lfE_ok q9
        cases q
      · cases q0
  · rcases bySk_ok h with ⟨l, rfl, rfl, rfl, q0⟩ | q0
    · obtain ⟨x57, l, rfl, q1⟩ := lfC_ok q0
      obtain ⟨x58, l, rfl, q2⟩ := lfD_ok q1
      obtain ⟨x59, l, rfl, q3⟩ := lfD_ok q2
      obtain ⟨x60, l, rfl, q4⟩ := lfD_ok q3
      obtain ⟨x61, l, rfl, q5⟩ := lfD_ok q4
      obtain ⟨x62, l, rfl, q6⟩ := lfD_ok q5
      obtain ⟨x63, l, rfl, q7⟩ := lfC_ok q6
      obtain ⟨x64, l, rfl, q8⟩ := lfD_ok q7
      obtain ⟨x65, l, rfl, q9⟩ := lfD_ok q8
      obtain ⟨rfl, q⟩ := lfE_ok q9
      exact run_sub q (by kernel_rfl)
    · cases q0
def F_entropy_Source_Copy (n : Nat) (x157 : List UInt8) : Tree (List UInt8) :=
  .get (Hyp.appI 140737488355328 ([] : List UInt8) x157) fun y158 =>
  .ret y158
def S_entropy_Source_Copy (n : Nat) : Summ := fun avs L b => bySk ⟨[(.ptr 0 0)], [⟨0, 1, .box (.agg (.pr (.whole 2 1) (.pr (.val (.sint .i64) (0 : Int)) .un)))⟩, ⟨2, 3, .row .u8 []⟩], 4⟩ avs L b (fun l => lfD (.sint .i64) l fun (x156 : Int) l => lfD (.list .u8) l fun (x157 : List UInt8) l => lfE l (.sub (F_entropy_Source_Copy n x157) fun r => .ret ((.ptr 4 0), [⟨4, 5, .box (.agg (.pr (.whole 6 1) (.pr (.val (.sint .i64) x156) .un)))⟩, ⟨6, 7, .row .u8 r⟩, ⟨0, 9, .box (.agg (.pr (.whole 10 1) (.pr (.val (.sint .i64) x156) .un)))⟩, ⟨10, 11, .row .u8 x157⟩], 12))) .fail
theorem ok_entropy_Source_Copy (n : Nat) : SoundF Try.prog 17 (S_entropy_Source_Copy n) := by
  refine fn_sound false (c := codeOf Try.f17) (tab := mkTab []) (cuts := mkCuts []) Try.func17 (by kernel_rfl) .nil (CutsOK.list (l := []) (by kernel_rfl) (fun _ h => by cases h)) (fun avs L b r h => ?_)
  rcases bySk_ok h with ⟨l, rfl, rfl, rfl, q0⟩ | q0
  · obtain ⟨x156, l, rfl, q1⟩ := lfD_ok q0
    obtain ⟨x157, l, rfl, q2⟩ := lfD_ok q1
    obtain ⟨rfl, q⟩ := lfE_ok q2
    exact run_sub q (by kernel_rfl)
  · cases q0
def C_5_2 : CutF → Cut := fun κ => ⟨[7, 8, 56, 57, 58], fun e => match e with | .ex i => bif Nat.beq i 2 then [] else [] | .rt => [6] | .nm => [], κ⟩
def F_hypogeumlaw08_EntropyCopies_l2 (n : Nat) : Nat → (Bool) → (List (Int × List UInt8)) → (Int) → (Int) → (Int) → (List UInt8) → (Bool) → (List UInt8) → (Int) → Tree (((Int) × ((List UInt8) × ((Bool) × ((List UInt8) × Int)))) ⊕ ((Int) × ((List UInt8) × ((Bool) × ((List UInt8) × Int)))))
  | 0 => fun  x161 x162 x163 x164 x165 x166 x167 x168 x169 => .fail
  | k + 1 => fun x161 x162 x163 x164 x165 x166 x167 x168 x169 =>
      .ite (Decidable.decide (x164 < x163))
        (.get (Hyp.getI x162 x164) fun y178 =>
        .sub (F_hypogeumlaw08_does n x167 x168 x169 y178.1 y178.2 x165 x166) fun y179 =>
        .ite (!y179.2.2.2.1)
          (.ret (.inl (y179.2.2.2.2.1, y179.2.2.2.2.2, y179.1, y179.2.1, y179.2.2.1)))
          (.sub (F_hypogeumlaw08_EntropyCopies_l2 n k x161 x162 x163 (Go.IntKind.wrap Go.IntKind.i64 (x164 + (1 : Int))) y179.2.2.2.2.1 y179.2.2.2.2.2 y179.1 y179.2.1 y179.2.2.1) fun y180 =>
          .alt y180 (fun y181 =>
            .ret (.inl (y181.1, y181.2.1, y181.2.2.1, y181.2.2.2.1, y181.2.2.2.2)))
            fun y182 =>
            .ret (.inr (y182.1, y182.2.1, y182.2.2.1, y182.2.2.2.1, y182.2.2.2.2))))
        (.ret (.inr (x165, x166, x167, x168, x169)))
def S_hypogeumlaw08_EntropyCopies_l2 (n k : Nat) : CutF := fun avs L b => bySk ⟨[(.ptr 0 0), (.ptr 4 0), (.ro false (.rcd (.pair (.sint .i64) (.list .u8))) []), (.val (.sint .i64) (0 : Int)), (.val (.sint .i64) (0 : Int))], [⟨0, 1, .box (.agg (.pr (.whole 2 1) (.pr (.val (.sint .i64) (0 : Int)) .un)))⟩, ⟨2, 3, .row .u8 []⟩, ⟨4, 5, .box (.agg (.pr (.ro false .u8 []) (.pr (.val (.sint .i64) (0 : Int)) .un)))⟩], 6⟩ avs L b (fun l => lfC l fun x161 l => lfD (.list (.rcd (.pair (.sint .i64) (.list .u8)))) l fun (x162 : List (Int × List UInt8)) l => lfD (.sint .i64) l fun (x163 : Int) l => lfD (.sint .i64) l fun (x164 : Int) l => lfD (.sint .i64) l fun (x165 : Int) l => lfD (.list .u8) l fun (x166 : List UInt8) l => lfC l fun x167 l => lfD (.list .u8) l fun (x168 : List UInt8) l => lfD (.sint .i64) l fun (x169 : Int) l => lfE l (.sub (F_hypogeumlaw08_EntropyCopies_l2 n k x161 x162 x163 x164 x165 x166 x167 x168 x169) fun r => .alt r (fun r => .ret (.rt, [(.val .bool false)], [⟨0, 7, .box (.agg (.pr (.whole 8 1) (.pr (.val (.sint .i64) r.1) .un)))⟩, ⟨8, 9, .row .u8 r.2.1⟩, ⟨4, 11, .box (.agg (.pr (.ro r.2.2.1 .u8 r.2.2.2.1) (.pr (.val (.sint .i64) r.2.2.2.2) .un)))⟩], 12)) (fun r => .ret (.ex 2, [], [⟨0, 7, .box (.agg (.pr (.whole 8 1) (.pr (.val (.sint .i64) r.1) .un)))⟩, ⟨8, 9, .row .u8 r.2.1⟩, ⟨4, 11, .box (.agg (.pr (.ro r.2.2.1 .u8 r.2.2.2.1) (.pr (.val (.sint .i64) r.2.2.2.2) .un)))⟩], 12)))) .fail
theorem ok_hypogeumlaw08_EntropyCopies_l2 (n : Nat) : ∀ k, SoundC Try.prog (Go.Func.ntmps Try.f5) (.loop (bodyOf Try.f5 2)) (wr (bodyOf Try.f5 2)) (C_5_2 (S_hypogeumlaw08_EntropyCopies_l2 n k)) := by
  refine loop_sound (tab := mkTab [(12, ⟨S_hypogeumlaw08_does n, [], []⟩)]) (cuts := mkCuts []) (.cons (ok_hypogeumlaw08_does n) ⟨_, Try.func12, by kernel_rfl⟩ .nil) (CutsOK.list (l := []) (by kernel_rfl) (fun _ h => by cases h)) (by kernel_rfl) (fun avs L b => ?_) (fun k avs L b r h => ?_)
  · cases h : (S_hypogeumlaw08_EntropyCopies_l2 n 0 avs L b).run with
    | none => rfl
    | some r =>
      rcases bySk_ok h with ⟨l, rfl, rfl, rfl, q0⟩ | q0
      · obtain ⟨x161, l, rfl, q1⟩ := lfC_ok q0
        obtain ⟨x162, l, rfl, q2⟩ := lfD_ok q1
        obtain ⟨x163, l, rfl, q3⟩ := lfD_ok q2
        obtain ⟨x164, l, rfl, q4⟩ := lfD_ok q3
        obtain ⟨x165, l, rfl, q5⟩ := lfD_ok q4
        obtain ⟨x166, l, rfl, q6⟩ := lfD_ok q5
        obtain ⟨x167, l, rfl, q7⟩ := lfC_ok q6
        obtain ⟨x168, l, rfl, q8⟩ := lfD_ok q7
        obtain ⟨x169, l, rfl, q9⟩ := lfD_ok q8
        obtain ⟨rfl, q⟩ := lfE_ok q9
        cases q
      · cases q0
  · rcases bySk_ok h with ⟨l, rfl, rfl, rfl, q0⟩ | q0
    · obtain ⟨x161, l, rfl, q1⟩ := lfC_ok q0
      obtain ⟨x162, l, rfl, q2⟩ := lfD_ok q1
      obtain ⟨x163, l, rfl, q3⟩ := lfD_ok q2
      obtain ⟨x164, l, rfl, q4⟩ := lfD_ok q3
      obtain ⟨x165, l, rfl, q5⟩ := lfD_ok q4
      obtain ⟨x166, l, rfl, q6⟩ := lfD_ok q5
      obtain ⟨x167, l, rfl, q7⟩ := lfC_ok q6
      obtain ⟨x168, l, rfl, q8⟩ := lfD_ok q7
      obtain ⟨x169, l, rfl, q9⟩ := lfD_ok q8
      obtain ⟨rfl, q⟩ := lfE_ok q9
      exact run_subs (k' := fun r => (match r with | .inl r => .ret (.rt, [(.val .bool false)], [⟨0, 7, .box (.agg (.pr (.whole 8 1) (.pr (.val (.sint .i64) r.1) .un)))⟩, ⟨8, 9, .row .u8 r.2.1⟩, ⟨4, 11, .box (.agg (.pr (.ro r.2.2.1 .u8 r.2.2.2.1) (.pr (.val (.sint .i64) r.2.2.2.2) .un)))⟩], 12) | .inr r => .ret (.ex 2, [], [⟨0, 7, .box (.agg (.pr (.whole 8 1) (.pr (.val (.sint .i64) r.1) .un)))⟩, ⟨8, 9, .row .u8 r.2.1⟩, ⟨4, 11, .box (.agg (.pr (.ro r.2.2.1 .u8 r.2.2.2.1) (.pr (.val (.sint .i64) r.2.2.2.2) .un)))⟩], 12))) q (fun y => by rcases y with y | y <;> rfl) (by kernel_rfl)
    · cases q0
def C_5_4 : CutF → Cut := fun κ => ⟨[1, 10, 13, 14, 17], fun e => match e with | .ex i => bif Nat.beq i 4 then [] else [] | .rt => [6] | .nm => [], κ⟩
def F_hypogeumlaw08_EntropyCopies_l4 (n : Nat) : Nat → (Bool) → (List (Int × List UInt8)) → (Int) → (Int) → (Int) → (List UInt8) → (Bool) → (List UInt8) → (Int) → Tree (((Int) × ((List UInt8) × ((Bool) × ((List UInt8) × Int)))) ⊕ ((Int) × ((List UInt8) × ((Bool) × ((List UInt8) × Int)))))
  | 0 => fun  x186 x187 x188 x189 x190 x191 x192 x193 x194 => .fail
  | k + 1 => fun x186 x187 x188 x189 x190 x191 x192 x193 x194 =>
      .ite (Decidable.decide (x188 ≤ x189))
        (.get (Hyp.getI x187 x189) fun y203 =>
        .sub (F_hypogeumlaw08_does n x192 x193 x194 y203.1 y203.2 x190 x191) fun y204 =>
        .ite (!y204.2.2.2.1)
          (.ret (.inl (y204.2.2.2.2.1, y204.2.2.2.2.2, y204.1, y204.2.1, y204.2.2.1)))
          (.sub (F_hypogeumlaw08_EntropyCopies_l4 n k x186 x187 x188 (Go.IntKind.wrap Go.IntKind.i64 (x189 - (1 : Int))) y204.2.2.2.2.1 y204.2.2.2.2.2 y204.1 y204.2.1 y204.2.2.1) fun y205 =>
          .alt y205 (fun y206 =>
            .ret (.inl (y206.1, y206.2.1, y206.2.2.1, y206.2.2.2.1, y206.2.2.2.2)))
            fun y207 =>
            .ret (.inr (y207.1, y207.2.1, y207.2.2.1, y207.2.2.2.1, y207.2.2.2.2))))
        (.ret (.inr (x190, x191, x192, x193, x194)))
def S_hypogeumlaw08_EntropyCopies_l4 (n k : Nat) : CutF := fun avs L b => bySk ⟨[(.ro false (.rcd (.pair (.sint .i64) (.list .u8))) []), (.val (.sint .i64) (0 : Int)), (.ptr 0 0), (.ptr 4 0), (.val (.sint .i64) (0 : Int))], [⟨0, 1, .box (.agg (.pr (.whole 2 1) (.pr (.val (.sint .i64) (0 : Int)) .un)))⟩, ⟨2, 3, .row .u8 []⟩, ⟨4, 5, .box (.agg (.pr (.ro false .u8 []) (.pr (.val (.sint .i64) (0 : Int)) .un)))⟩], 6⟩ avs L b (fun l => lfC l fun x186 l => lfD (.list (.rcd (.pair (.sint .i64) (.list .u8)))) l fun (x187 : List (Int × List UInt8)) l => lfD (.sint .i64) l fun (x188 : Int) l => lfD (.sint .i64) l fun (x189 : Int) l => lfD (.sint .i64) l fun (x190 : Int) l => lfD (.list .u8) l fun (x191 : List UInt8) l => lfC l fun x192 l => lfD (.list .u8) l fun (x193 : List UInt8) l => lfD (.sint .i64) l fun (x194 : Int) l => lfE l (.sub (F_hypogeumlaw08_EntropyCopies_l4 n k x186 x187 x188 x189 x190 x191 x192 x193 x194) fun r => .alt r (fun r => .ret (.rt, [(.val .bool false)], [⟨0, 7, .box (.agg (.pr (.whole 8 1) (.pr (.val (.sint .i64) r.1) .un)))⟩, ⟨8, 9, .row .u8 r.2.1⟩, ⟨4, 11, .box (.agg (.pr (.ro r.2.2.1 .u8 r.2.2.2.1) (.pr (.val (.sint .i64) r.2.2.2.2) .un)))⟩], 12)) (fun r => .ret (.ex 4, [], [⟨0, 7, .box (.agg (.pr (.whole 8 1) (.pr (.val (.sint .i64) r.1) .un)))⟩, ⟨8, 9, .row .u8 r.2.1⟩, ⟨4, 11, .box (.agg (.pr (.ro r.2.2.1 .u8 r.2.2.2.1) (.pr (.val (.sint .i64) r.2.2.2.2) .un)))⟩], 12)))) .fail
theorem ok_hypogeumlaw08_EntropyCopies_l4 (n : Nat) : ∀ k, SoundC Try.prog (Go.Func.ntmps Try.f5) (.loop (bodyOf Try.f5 4)) (wr (bodyOf Try.f5 4)) (C_5_4 (S_hypogeumlaw08_EntropyCopies_l4 n k)) := by
  refine loop_sound (tab := mkTab [(12, ⟨S_hypogeumlaw08_does n, [], []⟩)]) (cuts := mkCuts []) (.cons (ok_hypogeumlaw08_does n) ⟨_, Try.func12, by kernel_rfl⟩ .nil) (CutsOK.list (l := []) (by kernel_rfl) (fun _ h => by cases h)) (by kernel_rfl) (fun avs L b => ?_) (fun k avs L b r h => ?_)
  · cases h : (S_hypogeumlaw08_EntropyCopies_l4 n 0 avs L b).run with
    | none => rfl
    | some r =>
      rcases bySk_ok h with ⟨l, rfl, rfl, rfl, q0⟩ | q0
      · obtain ⟨x186, l, rfl, q1⟩ := lfC_ok q0
        obtain ⟨x187, l, rfl, q2⟩ := lfD_ok q1
        obtain ⟨x188, l, rfl, q3⟩ := lfD_ok q2
        obtain ⟨x189, l, rfl, q4⟩ := lfD_ok q3
        obtain ⟨x190, l, rfl, q5⟩ := lfD_ok q4
        obtain ⟨x191, l, rfl, q6⟩ := lfD_ok q5
        obtain ⟨x192, l, rfl, q7⟩ := lfC_ok q6
        obtain ⟨x193, l, rfl, q8⟩ := lfD_ok q7
        obtain ⟨x194, l, rfl, q9⟩ := lfD_ok q8
        obtain ⟨rfl, q⟩ := lfE_ok q9
        cases q
      · cases q0
  · rcases bySk_ok h with ⟨l, rfl, rfl, rfl, q0⟩ | q0
    · obtain ⟨x186, l, rfl, q1⟩ := lfC_ok q0
      obtain ⟨x187, l, rfl, q2⟩ := lfD_ok q1
      obtain ⟨x188, l, rfl, q3⟩ := lfD_ok q2
      obtain ⟨x189, l, rfl, q4⟩ := lfD_ok q3
      obtain ⟨x190, l, rfl, q5⟩ := lfD_ok q4
      obtain ⟨x191, l, rfl, q6⟩ := lfD_ok q5
      obtain ⟨x192, l, rfl, q7⟩ := lfC_ok q6
      obtain ⟨x193, l, rfl, q8⟩ := lfD_ok q7
      obtain ⟨x194, l, rfl, q9⟩ := lfD_ok q8
      obtain ⟨rfl, q⟩ := lfE_ok q9
      exact run_subs (k' := fun r => (match r with | .inl r => .ret (.rt, [(.val .bool false)], [⟨0, 7, .box (.agg (.pr (.whole 8 1) (.pr (.val (.sint .i64) r.1) .un)))⟩, ⟨8, 9, .row .u8 r.2.1⟩, ⟨4, 11, .box (.agg (.pr (.ro r.2.2.1 .u8 r.2.2.2.1) (.pr (.val (.sint .i64) r.2.2.2.2) .un)))⟩], 12) | .inr r => .ret (.ex 4, [], [⟨0, 7, .box (.agg (.pr (.whole 8 1) (.pr (.val (.sint .i64) r.1) .un)))⟩, ⟨8, 9, .row .u8 r.2.1⟩, ⟨4, 11, .box (.agg (.pr (.ro r.2.2.1 .u8 r.2.2.2.1) (.pr (.val (.sint .i64) r.2.2.2.2) .un)))⟩], 12))) q (fun y => by rcases y with y | y <;> rfl) (by kernel_rfl)
    · cases q0
def F_hypogeumlaw08_EntropyCopies (n : Nat) (x0 : Bool) (x1 : List UInt8) (x2 : Bool) (x3 : List (Int × List UInt8)) (x4 : UInt8) : Tree Bool :=
  .sub (F_hypogeumlaw08_few n x1 x2 x3) fun y22 =>
  .ite (!y22)
    (.sub (F_hypogeumlaw08_awake n) fun y52 =>
    .ret y52)
    (.get (Hyp.appI 140737488355328 ([] : List UInt8) x1) fun y53 =>
    .sub (F_entropy_New n y53) fun y54 =>
    .get (Hyp.nz (Decidable.decide ((Go.IntKind.wrap Go.IntKind.i64 ((Nat.cast (List.length x3)) + (1 : Int))) = (0 : Int)))) fun y55 =>
    .get (Hyp.subI x3 (0 : Int) (Int.tmod (Nat.cast (UInt8.toNat x4)) (Go.IntKind.wrap Go.IntKind.i64 ((Nat.cast (List.length x3)) + (1 : Int))))) fun y56 =>
    .sub (F_hypogeumlaw08_EntropyCopies_l0 n n false y56 (Nat.cast (List.length y56)) (0 : Int) (0 : Int) y54 x0 x1 (0 : Int)) fun y155 =>
    .sub (F_entropy_Source_Copy n y155.2.1) fun y159 =>
    .get (Hyp.subI x3 (Int.tmod (Nat.cast (UInt8.toNat x4)) (Go.IntKind.wrap Go.IntKind.i64 ((Nat.cast (List.length x3)) + (1 : Int)))) (Nat.cast (List.length x3))) fun y160 =>
    .sub (F_hypogeumlaw08_EntropyCopies_l2 n n false y160 (Nat.cast (List.length y160)) (0 : Int) y155.1 y155.2.1 y155.2.2.1 y155.2.2.2.1 y155.2.2.2.2) fun y183 =>
    .alt y183 (fun y184 =>
      .ret false)
      fun y185 =>
      .sub (F_hypogeumlaw08_EntropyCopies_l4 n n x2 x3 (Int.tmod (Nat.cast (UInt8.toNat x4)) (Go.IntKind.wrap Go.IntKind.i64 ((Nat.cast (List.length x3)) + (1 : Int)))) (Go.IntKind.wrap Go.IntKind.i64 ((Nat.cast (List.length x3)) - (1 : Int))) y155.1 y159 y155.2.2.1 y155.2.2.2.1 y155.2.2.2.2) fun y208 =>
      .alt y208 (fun y209 =>
        .ret false)
        fun y210 =>
        .sub (F_entropy_Source_Left n y185.1 y185.2.1) fun y211 =>
        .ite (Decidable.decide (y211 = (Nat.cast (List.length y185.2.2.2.1))))
          (.sub (F_entropy_Source_Left n y210.1 y210.2.1) fun y212 =>
          .ite (Decidable.decide (y212 = (Nat.cast (List.length y210.2.2.2.1))))
            (.sub (F_hypogeumlaw08_awake n) fun y213 =>
            .ret y213)
            (.ret false))
          (.ret false))
def S_hypogeumlaw08_EntropyCopies (n : Nat) : Summ := fun avs L b => bySk ⟨[(.ro false .u8 []), (.ro false (.rcd (.pair (.sint .i64) (.list .u8))) []), (.val .u8 0)], [], 0⟩ avs L b (fun l => lfC l fun x0 l => lfD (.list .u8) l fun (x1 : List UInt8) l => lfC l fun x2 l => lfD (.list (.rcd (.pair (.sint .i64) (.list .u8)))) l fun (x3 : List (Int × List UInt8)) l => lfD .u8 l fun (x4 : UInt8) l => lfE l (.sub (F_hypogeumlaw08_EntropyCopies n x0 x1 x2 x3 x4) fun r => .ret ((.val .bool r), [], 0))) .fail
theorem ok_hypogeumlaw08_EntropyCopies (n : Nat) : SoundF Try.prog 5 (S_hypogeumlaw08_EntropyCopies n) := by
  refine fn_sound true (c := codeOf Try.f5) (tab := mkTab [(9, ⟨S_hypogeumlaw08_few n, [], []⟩), (10, ⟨S_hypogeumlaw08_awake n, [], []⟩), (11, ⟨S_entropy_New n, [], []⟩), (17, ⟨S_entropy_Source_Copy n, [], []⟩), (13, ⟨S_entropy_Source_Left n, [], []⟩)]) (cuts := mkCuts [(0, C_5_0 (S_hypogeumlaw08_EntropyCopies_l0 n n)), (2, C_5_2 (S_hypogeumlaw08_EntropyCopies_l2 n n)), (4, C_5_4 (S_hypogeumlaw08_EntropyCopies_l4 n n))]) Try.func5 (by kernel_rfl) (.cons (ok_hypogeumlaw08_few n) ⟨_, Try.func9, by kernel_rfl⟩ (.cons (ok_hypogeumlaw08_awake n) ⟨_, Try.func10, by kernel_rfl⟩ (.cons (ok_entropy_New n) ⟨_, Try.func11, by kernel_rfl⟩ (.cons (ok_entropy_Source_Copy n) ⟨_, Try.func17, by kernel_rfl⟩ (.cons (ok_entropy_Source_Left n) ⟨_, Try.func13, by kernel_rfl⟩ .nil))))) (CutsOK.list (l := [(0, bodyOf Try.f5 0), (2, bodyOf Try.f5 2), (4, bodyOf Try.f5 4)]) (by kernel_rfl) (LoopsOK.all ⟨.inr ⟨_, rfl, ok_hypogeumlaw08_EntropyCopies_l0 n n⟩, ⟨.inr ⟨_, rfl, ok_hypogeumlaw08_EntropyCopies_l2 n n⟩, ⟨.inr ⟨_, rfl, ok_hypogeumlaw08_EntropyCopies_l4 n n⟩, trivial⟩⟩⟩)) (fun avs L b r h => ?_)
  rcases bySk_ok h with ⟨l, rfl, rfl, rfl, q0⟩ | q0
  · obtain ⟨x0, l, rfl, q1⟩ := lfC_ok q0
    obtain ⟨x1, l, rfl, q2⟩ := lfD_ok q1
    obtain ⟨x2, l, rfl, q3⟩ := lfC_ok q2
    obtain ⟨x3, l, rfl, q4⟩ := lfD_ok q3
    obtain ⟨x4, l, rfl, q5⟩ := lfD_ok q4
    obtain ⟨rfl, q⟩ := lfE_ok q5
    exact run_sub q (by kernel_rfl)
  · cases q0
end Hyp
