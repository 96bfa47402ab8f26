/- What each operation does, as a rule on what it hands on. -/
import Derived.Test.YtdlbmjbbnplpjaaXc
set_option linter.unusedVariables false
set_option linter.unusedSimpArgs false
namespace Hyp
open Go
section
variable {P : Program} {ty : TypeId} {f : Fr} {w : World} {K : Value → World → Prop}
theorem OpW.of_run {op : Op} {v : Value} {w' : World} (h : (execOp (ev f) (bare op ty)).run P w = .ok (.value v) w') (hk : K v w') : OpW P op ty f w K := by
  unfold OpW; rw [h]; exact hk
theorem OpW.of_skip {op : Op} {w' : World} (h : (execOp (ev f) (bare op ty)).run P w = .ok .skip w') (hk : K undef w') : OpW P op ty f w K := by
  unfold OpW; rw [h]; exact hk
/-! ### 1. Values alone -/
theorem o_move {x : Operand} (h : K (ev f x) w) : OpW P (.move x) ty f w K := .of_run rfl h
theorem o_assign {x : Operand} (h : K (ev f x) w) : OpW P (.assign x) ty f w K := .of_run rfl h
theorem o_pick {c x y : Operand} {b : Bool} (hc : ev f c = .bool b) (h : K (bif b then ev f x else ev f y) w) : OpW P (.pick c x y) ty f w K := by
  refine .of_run ?_ h
  cases b <;> simp [execOp, bare, hc, asBool]
theorem o_nilCheck {x : Operand} {ad : Addr} (hx : ev f x = .pointer (some ad)) (h : K (.pointer (some ad)) w) : OpW P (.nilCheck x) ty f w K :=
  .of_run (by simp [execOp, bare, hx]) h
theorem o_extract {t : Operand} {i : Nat} {vs : Array Value} {v : Value} (ht : ev f t = .tuple vs) (hv : vs[i]? = some v) (h : K v w) : OpW P (.extract t i) ty f w K :=
  .of_run (by simp [execOp, bare, ht, Instr.extract, hv]) h
section ints
variable {T U : TypeId} {x y : Operand} {k : IntKind} {a b : Int}
theorem o_arith (op : BinOp) (c : Int) (hop : (op = .add ∧ c = a + b) ∨ (op = .sub ∧ c = a - b) ∨ (op = .mul ∧ c = a * b)) (hx : ev f x = .int k a) (hy : ev f y = .int k b) (h : K (.int k (k.wrap c)) w) :
    OpW P (.binOp op T x y U) ty f w K := by
  refine .of_run ?_ h
  rcases hop with ⟨rfl, rfl⟩ | ⟨rfl, rfl⟩ | ⟨rfl, rfl⟩ <;> simp [execOp, bare, hx, hy, binOp, eqGuard, Op.intArith]
theorem o_add (hx : ev f x = .int k a) (hy : ev f y = .int k b) (h : K (.int k (k.wrap (a + b))) w) : OpW P (.binOp .add T x y U) ty f w K := o_arith .add _ (by simp) hx hy h
theorem o_sub (hx : ev f x = .int k a) (hy : ev f y = .int k b) (h : K (.int k (k.wrap (a - b))) w) : OpW P (.binOp .sub T x y U) ty f w K := o_arith .sub _ (by simp) hx hy h
theorem o_mul (hx : ev f x = .int k a) (hy : ev f y = .int k b) (h : K (.int k (k.wrap (a * b))) w) : OpW P (.binOp .mul T x y U) ty f w K := o_arith .mul _ (by simp) hx hy h
theorem o_lss (hx : ev f x = .int k a) (hy : ev f y = .int k b) (h : K (.bool (decide (a < b))) w) : OpW P (.binOp .lss T x y U) ty f w K :=
  .of_run (by simp [execOp, bare, hx, hy, binOp, eqGuard, Op.intCmp]) h
theorem o_leq (hx : ev f x = .int k a) (hy : ev f y = .int k b) (h : K (.bool (decide (a ≤ b))) w) : OpW P (.binOp .leq T x y U) ty f w K :=
  .of_run (by simp [execOp, bare, hx, hy, binOp, eqGuard, Op.intCmp]) h
theorem o_gtr (hx : ev f x = .int k a) (hy : ev f y = .int k b) (h : K (.bool (decide (b < a))) w) : OpW P (.binOp .gtr T x y U) ty f w K :=
  .of_run (by simp [execOp, bare, hx, hy, binOp, eqGuard, Op.intCmp]) h
theorem o_geq (hx : ev f x = .int k a) (hy : ev f y = .int k b) (h : K (.bool (decide (b ≤ a))) w) : OpW P (.binOp .geq T x y U) ty f w K :=
  .of_run (by simp [execOp, bare, hx, hy, binOp, eqGuard, Op.intCmp]) h
theorem beq_dec (a b : Int) : (a == b) = decide (a = b) := by
  by_cases h : a = b <;> simp [h]
theorem o_eql (hx : ev f x = .int k a) (hy : ev f y = .int k b) (h : K (.bool (decide (a = b))) w) : OpW P (.binOp .eql T x y U) ty f w K :=
  .of_run (by simp [execOp, bare, hx, hy, binOp, eqGuard, Op.intCmp, beq_dec]) h
theorem o_neq (hx : ev f x = .int k a) (hy : ev f y = .int k b) (h : K (.bool (!decide (a = b))) w) : OpW P (.binOp .neq T x y U) ty f w K :=
  .of_run (by simp [execOp, bare, hx, hy, binOp, eqGuard, Op.intCmp, beq_dec, bne]) h
theorem o_quo (hx : ev f x = .int k a) (hy : ev f y = .int k b) (h0 : b ≠ 0) (h : K (.int k (k.wrap (a.tdiv b))) w) : OpW P (.binOp .quo T x y U) ty f w K :=
  .of_run (by simp [execOp, bare, hx, hy, binOp, eqGuard, Op.intDiv, h0]) h
theorem o_rem (hx : ev f x = .int k a) (hy : ev f y = .int k b) (h0 : b ≠ 0) (h : K (.int k (a.tmod b)) w) : OpW P (.binOp .rem T x y U) ty f w K :=
  .of_run (by simp [execOp, bare, hx, hy, binOp, eqGuard, Op.intDiv, h0]) h
theorem o_not {b : Bool} (hx : ev f x = .bool b) (h : K (.bool (!b)) w) : OpW P (.unOp .not T x) ty f w K :=
  .of_run (by simp [execOp, bare, hx, Op.unary]) h
theorem o_neg (hx : ev f x = .int k a) (h : K (.int k (k.wrap (0 - a))) w) : OpW P (.unOp .neg T x) ty f w K :=
  .of_run (by simp [execOp, bare, hx, Op.unary, Op.intArith]) h
end ints
theorem pointee_of {T e : TypeId} (hu : P.underlying T = some (.pointer e)) : P.underlying T = some (.pointer (P.pointee T)) := by
  rw [hu]; simp [Program.pointee, hu]
theorem o_eqPtrNil {T U : TypeId} {x y : Operand} {a : Option Addr} {e : TypeId} (hu : P.underlying T = some (.pointer e)) (hx : ev f x = .pointer a) (hy : ev f y = .pointer none) (h : K (.bool a.isNone) w) :
    OpW P (.binOp .eql T x y U) ty f w K := by
  refine .of_run ?_ h
  have h1 := run_eql_pointer_nil w T a (pointee_of hu)
  simp only [execOp, bare, hx, hy, eqGuard, Sem.run_bind]
  simp [h1]
theorem o_nePtrNil {T U : TypeId} {x y : Operand} {a : Option Addr} {e : TypeId} (hu : P.underlying T = some (.pointer e)) (hx : ev f x = .pointer a) (hy : ev f y = .pointer none) (h : K (.bool a.isSome) w) :
    OpW P (.binOp .neq T x y U) ty f w K := by
  refine .of_run ?_ h
  have h1 := run_neq_pointer_nil w T a (pointee_of hu)
  simp only [execOp, bare, hx, hy, eqGuard, Sem.run_bind]
  cases a <;> simp [h1]
theorem run_und {T : TypeId} {d : TypeDesc} (hu : P.underlying T = some d) : (underlying T).run P w = .ok d w := by
  have : underlying T = (do match (← program).underlying T with | some d => pure d | none => stuck "no such type" : Sem TypeDesc) := rfl
  simp [this, hu]
theorem run_info {T : TypeId} {i : TypeInfo} (hi : P.info? T = some i) : (typeInfo T).run P w = .ok i w := by
  have : typeInfo T = (do match (← program).info? T with | some d => pure d | none => stuck "no such type" : Sem TypeInfo) := rfl
  simp [this, hi]
/-- A type's size in cells. -/
def SizeIs (P : Program) (T : TypeId) (s : Nat) : Prop := ∃ i, P.info? T = some i ∧ i.size = s
theorem SizeIs.of {T s : Nat} (h : (P.info? T).map (·.size) = some s) : SizeIs P T s := by
  cases hi : P.info? T with
  | none => simp [hi] at h
  | some i => exact ⟨i, hi, by simpa [hi] using h⟩
theorem SizeIs.run {T s : Nat} (h : SizeIs P T s) : (Go.sizeOf T).run P w = .ok s w := by
  obtain ⟨i, hi, rfl⟩ := h
  simp [Go.sizeOf, run_info hi]
def scal : TypeDesc → Bool
  | .struct _ | .array _ _ => false
  | _ => true
theorem run_isAgg {T : TypeId} {d : TypeDesc} (hu : P.underlying T = some d) : (isAgg T).run P w = .ok (!scal d) w := by
  unfold isAgg
  simp only [Sem.run_bind, run_und hu, Result.andThen_ok]
  cases d <;> rfl
/-! ### 2. Addresses, loads -/
theorem o_fieldAddr {T : TypeId} {x : Operand} {i : Nat} {fs : Array Field} {fd : Field} {ad ad' : Addr} {s : Nat} (hu : P.underlying T = some (.struct fs)) (hf : fs[i]? = some fd) (hs : SizeIs P fd.type (s + 1))
    (hx : ev f x = .pointer (some ad)) (ha : ad.add fd.offset = ad') (h : K (.pointer (some ad')) w) : OpW P (.fieldAddr T x i) ty f w K := by
  subst ha
  refine .of_run ?_ h
  simp [execOp, bare, hx, Instr.fieldAt, run_und hu, hf, Instr.sureAddr, fieldPlace, hs.run]
theorem o_load {T : TypeId} {x : Operand} {ad : Addr} {d : TypeDesc} {v : Value} (hu : P.underlying T = some d) (hd : scal d = true) (hx : ev f x = .pointer (some ad)) (hc : w.cell? ad = some v) (h : K v w) :
    OpW P (.load T x) ty f w K := by
  refine .of_run ?_ h
  simp [execOp, bare, hx, Instr.loadAt, Instr.sureAddr, loadVar, run_isAgg hu, hd, hc]
theorem o_loadA {T : TypeId} {x : Operand} {ad : Addr} {d : TypeDesc} {s : Nat} {xs : List Value} (hu : P.underlying T = some d) (hd : scal d = false) (hs : SizeIs P T s) (hx : ev f x = .pointer (some ad)) (hc : At w ad xs)
    (hl : xs.length = s) (h : K (.agg xs.toArray) w) : OpW P (.load T x) ty f w K := by
  refine .of_run ?_ h
  subst hl
  simp [execOp, bare, hx, Instr.loadAt, Instr.sureAddr, loadVar, run_isAgg hu, hd, hs.run, run_loadCells_list w ad xs hc.cells]
theorem o_lenSl {T : TypeId} {x : Operand} {e : TypeId} {v : Value} {n : Nat} (hu : P.underlying T = some (.slice e)) (hx : ev f x = v) (hv : IsSl v n) (h : K (.int .i64 n) w) :
    OpW P (.call ⟨.builtin .len, #[x], #[T]⟩) ty f w K := by
  obtain ⟨a, c, rfl, _⟩ := hv
  refine .of_run ?_ h
  simp [execOp, bare, resolve, invoke, builtin, Builtin.len_, hx, run_und hu, goInt]
theorem o_lenStr {T : TypeId} {x : Operand} {s : ByteArray} (hu : P.underlying T = some .string) (hx : ev f x = .string s) (h : K (.int .i64 s.size) w) :
    OpW P (.call ⟨.builtin .len, #[x], #[T]⟩) ty f w K := by
  refine .of_run ?_ h
  simp [execOp, bare, resolve, invoke, builtin, Builtin.len_, hx, run_und hu, goInt]
/-! ### 3. A call -/
def callable (fn : Func) : Bool := !(fn.name == "runtime.NumGoroutine") && fn.body.isSome
theorem o_call {c : Call} {g : FuncId} {fn : Func} {args : Array Value} {R : Value → World → Prop} (hc : c.callee = .value (.func g)) (hf : P.funcs[g]? = some fn) (hn : callable fn = true) (ha : c.args.map (ev f) = args)
    (hcall : Calls P g args w (Ret R)) (h : ∀ v w', R v w' → K v w') : OpW P (.call c) ty f w K := by
  subst ha
  unfold OpW
  simp only [callable, Bool.and_eq_true, Bool.not_eq_true', Option.isSome_iff_ne_none] at hn
  have hb : fn.body.isNone = false := by
    cases hx : fn.body with
    | none => exact absurd hx hn.2
    | some _ => rfl
  have hrun : (execOp (ev f) (bare (.call c) ty)).run P w = .ok (.enter g (c.args.map (ev f))) w := by
    simp only [execOp, bare, resolve, hc, ev, Deferred.ofValue, invoke, callFunc, hf, hn.1, hb, Sem.run_bind, Sem.run_pure, Result.andThen_ok, run_program, Bool.false_eq_true, if_false, Array.append_empty, Array.empty_append]
  rw [hrun]
  refine hcall.mono ?_
  intro e w' he
  cases e with
  | returned v => exact h _ _ he
  | panicked _ => exact he.elim
  | outgrown => exact he.elim
end
end Hyp
