/- Frames as functions of slots, and the calculus of code, regions and single operations over them: a library of this work's own, for every claim of a seat. -/
import Derived.WalkKit
import Derived.ScopeJumps
set_option linter.unusedVariables false
set_option linter.unusedSimpArgs false
namespace Hyp
open Go

/-! ### 1. Frames -/
abbrev Fr := Nat → Value
def upd (f : Fr) (d : Nat) (v : Value) : Fr := fun t => bif Nat.beq t d then v else f t
def updo (f : Fr) : Option Nat → Value → Fr
  | none, _ => f
  | some d, v => upd f d v
theorem beq_ne {t d : Nat} (h : t ≠ d) : Nat.beq t d = false := by
  cases hb : Nat.beq t d with
  | false => rfl
  | true => exact absurd (Nat.eq_of_beq_eq_true hb) h
theorem upd_same (f : Fr) (d : Nat) (v : Value) : upd f d v d = v := by simp [upd]
theorem upd_ne (f : Fr) {d t : Nat} (v : Value) (h : t ≠ d) : upd f d v t = f t := by
  simp [upd, beq_ne h]
def ev (f : Fr) : Operand → Value
  | .tmp t => f t
  | .const v => v
  | .global g => .pointer (some ⟨g, 0, none⟩)
  | .func g => .func (.func g) #[] #[]
def fr (a : Act) : Fr := fun t => a.tmps.getD t undef
theorem eval_fr (a : Act) : a.eval = ev (fr a) := by
  funext x
  cases x <;> rfl
structure Good (n : Nat) (f : Fr) (a : Act) : Prop where
  size : a.tmps.size = n
  defers : a.defers = []
  eq : fr a = f
theorem Good.put {n : Nat} {f : Fr} {a : Act} (h : Good n f a) (dst : Option Nat) (hd : ∀ d, dst = some d → d < n) (v : Value) : Good n (updo f dst v) (a.put dst v) := by
  obtain ⟨hs, hdf, rfl⟩ := h
  cases dst with
  | none => exact ⟨hs, hdf, rfl⟩
  | some d =>
    have hlt := hd d rfl
    refine ⟨by simp [Act.put, hs], hdf, ?_⟩
    funext t
    simp only [fr, Act.put, updo, upd]
    by_cases h : t = d
    · subst h
      simp [Array.getD_eq_getD_getElem?, Array.getElem?_setIfInBounds, hs, hlt]
    · simp [Array.getD_eq_getD_getElem?, Array.getElem?_setIfInBounds, beq_ne h, Ne.symm h]
def frame0 (args : Array Value) : Fr := fun t => args.getD t undef
theorem good_enter (n : Nat) (args : Array Value) (h : args.size ≤ n) : Good n (frame0 args) { tmps := args ++ Array.replicate (n - args.size) undef, defers := [] } := by
  refine ⟨by simp; omega, rfl, ?_⟩
  funext t
  simp only [fr, frame0, Array.getD_eq_getD_getElem?, Array.getElem?_append]
  split
  · rfl
  · rename_i hlt
    rw [Array.getElem?_eq_none (by omega : args.size ≤ t)]
    cases h : (Array.replicate (n - args.size) undef)[t - args.size]? with
    | none => rfl
    | some v => rw [Array.getElem?_replicate] at h; split at h <;> simp_all

/-! ### 2. Code over frames -/
abbrev Post := Exit → Fr → World → Prop
def lift (n : Nat) (Q : Post) : Exit → Act → World → Prop := fun e a w => (a.tmps.size = n ∧ a.defers = []) ∧ Q e (fr a) w
/-- The code, from a frame and a world on, comes to what Q says. -/
def C (P : Program) (n : Nat) (c : Code) (Q : Post) (f : Fr) (w : World) : Prop := ∀ a, Good n f a → c.wp P (lift n Q) a w
def thenQ (next : Fr → World → Prop) (Q : Post) : Post
  | .normal, f, w => next f w
  | e, f, w => Q e f w
def inBlock (id : Nat) (Q : Post) : Post
  | .exit id', f, w => if id' = id then Q .normal f w else Q (.exit id') f w
  | e, f, w => Q e f w
section
variable {P : Program} {n : Nat} {Q Q' : Post} {f : Fr} {w : World}
theorem C_mono {c : Code} (h : C P n c Q f w) (hq : ∀ e f w, Q e f w → Q' e f w) : C P n c Q' f w :=
  fun a ha => wp_mono (h a ha) fun e a w ⟨h1, h2⟩ => ⟨h1, hq _ _ _ h2⟩
theorem C_skip (h : Q .normal f w) : C P n .skip Q f w := fun a ha => wp_skip ⟨⟨ha.size, ha.defers⟩, ha.eq ▸ h⟩
theorem C_exit {id : Nat} (h : Q (.exit id) f w) : C P n (.exit id) Q f w := fun a ha => wp_exit ⟨⟨ha.size, ha.defers⟩, ha.eq ▸ h⟩
theorem C_ret (h : Q .ret f w) : C P n .ret Q f w := fun a ha => wp_ret ⟨⟨ha.size, ha.defers⟩, ha.eq ▸ h⟩
theorem C_label {l : Nat} (h : Q .normal f w) : C P n (.label l) Q f w := fun a ha => wp_label ⟨⟨ha.size, ha.defers⟩, ha.eq ▸ h⟩
theorem C_goto {l : Nat} (h : Q (.goto l) f w) : C P n (.goto l) Q f w := fun a ha => wp_goto ⟨⟨ha.size, ha.defers⟩, ha.eq ▸ h⟩
theorem C_seq {x y : Code} (h : C P n x (thenQ (C P n y Q) Q) f w) : C P n (.seq x y) Q f w := by
  intro a ha
  refine wp_seq (wp_mono (h a ha) ?_)
  intro e a w ⟨h1, h2⟩
  cases e <;> first
    | exact h2 a ⟨h1.1, h1.2, rfl⟩
    | exact ⟨h1, h2⟩
theorem C_cond {c : Operand} {x y : Code} {b : Bool} (hc : ev f c = .bool b) (ht : b = true → C P n x Q f w) (hf : b = false → C P n y Q f w) : C P n (.cond c x y) Q f w := by
  intro a ha
  have : a.eval c = .bool b := by rw [eval_fr, ha.eq, hc]
  exact wp_cond_split this (fun h => ht h a ha) (fun h => hf h a ha)
theorem C_block {id : Nat} {c : Code} (h : C P n c (inBlock id Q) f w) : C P n (.block id c) Q f w := by
  intro a ha
  refine wp_block (wp_mono (h a ha) ?_)
  intro e a w ⟨h1, h2⟩
  cases e <;> first
    | exact ⟨h1, h2⟩
    | (simp only [inBlock] at h2
       simp only [Exit.inBlock]
       split
       · rename_i he; rw [if_pos he] at h2; exact ⟨h1, h2⟩
       · rename_i he; rw [if_neg he] at h2; exact ⟨h1, h2⟩)
theorem least {p : Nat → Prop} (h : ∃ k, p k) : ∃ k, p k ∧ ∀ j, p j → k ≤ j := by
  obtain ⟨k, hk⟩ := h
  induction k using Nat.strongRecOn with
  | _ k ih =>
    by_cases hl : ∃ j, j < k ∧ p j
    · obtain ⟨j, hj, hp⟩ := hl
      exact ih j hj hp
    · exact ⟨k, hk, fun j hj => Nat.le_of_not_lt fun hlt => hl ⟨j, hlt, hj⟩⟩
/-- A loop: J k holds at its head where k rounds, or fewer, are left. -/
theorem C_loop {c : Code} (J : Nat → Fr → World → Prop) (k : Nat) (h0 : J k f w)
    (round : ∀ k f w, J k f w → C P n c (thenQ (fun f' w' => ∃ k', k' < k ∧ J k' f' w') Q) f w) : C P n (.loop c) Q f w := by
  intro a ha
  classical
  let I : Act → World → Prop := fun a w => (a.tmps.size = n ∧ a.defers = []) ∧ ∃ k, J k (fr a) w
  let μ : Act → World → Nat := fun a w => if h : ∃ k, J k (fr a) w then Classical.choose (least h) else 0
  refine wp_loop I μ ⟨⟨ha.size, ha.defers⟩, k, ha.eq ▸ h0⟩ ?_
  rintro a w ⟨hg, hk⟩
  have hJ := (Classical.choose_spec (least hk)).1
  refine wp_mono (round _ _ _ hJ a ⟨hg.1, hg.2, rfl⟩) ?_
  intro e a' w' ⟨h1, h2⟩
  cases e <;> first
    | exact ⟨h1, h2⟩
    | (obtain ⟨k', hlt, hJ'⟩ := h2
       have hex : ∃ k, J k (fr a') w' := ⟨k', hJ'⟩
       refine ⟨⟨h1, hex⟩, ?_⟩
       have h3 : Classical.choose (least hex) ≤ k' := (Classical.choose_spec (least hex)).2 k' hJ'
       simp only [μ, dif_pos hk, dif_pos hex]
       omega)
/-- As Q; by a jump to the label: J. -/
def jumpQ (l : Nat) (J : Fr → World → Prop) (Q : Post) : Post
  | .goto l', f, w => l' = l ∧ J f w
  | e, f, w => Q e f w
/-- From the label on: so many passes, or fewer, come to what Q says. -/
def JW (P : Program) (n l : Nat) (rest : Code) (Q : Post) : Nat → Fr → World → Prop
  | 0, _, _ => False
  | k + 1, f, w => C P n rest (jumpQ l (JW P n l rest Q k) Q) f w
def JX (P : Program) (n l : Nat) (rest : Code) (Q : Post) (f : Fr) (w : World) : Prop := ∃ k, JW P n l rest Q k f w
/-- A scope in which one jumps back to a label. -/
theorem C_scope {l : Nat} {c rest : Code} (hf : findLabel c l = some rest) (h : C P n c (jumpQ l (JX P n l rest Q) Q) f w) : C P n (.scope c) Q f w := by
  intro a ha
  classical
  let I : Act → World → Prop := fun a w => (a.tmps.size = n ∧ a.defers = []) ∧ ∃ k, JW P n l rest Q k (fr a) w
  let μ : Act → World → Nat := fun a w => if h : ∃ k, JW P n l rest Q k (fr a) w then Classical.choose (least h) else 0
  have key : ∀ (J : Fr → World → Prop) (e : Exit) (a : Act) (w : World), lift n (jumpQ l J Q) e a w → Exit.jump l (fun a w => (a.tmps.size = n ∧ a.defers = []) ∧ J (fr a) w) (lift n Q) e a w := by
    intro J e a w ⟨h1, h2⟩
    cases e <;> first
      | exact ⟨h2.1, h1, h2.2⟩
      | exact ⟨h1, h2⟩
  refine wp_scope_jumps l I μ hf (wp_mono (h a ha) (key _)) ?_
  rintro a w ⟨hg, hk⟩
  obtain ⟨hJ, hmin⟩ := Classical.choose_spec (least hk)
  have hμ : μ a w = Classical.choose (least hk) := by simp only [μ, dif_pos hk]
  rw [hμ]
  cases hc : Classical.choose (least hk) with
  | zero => rw [hc] at hJ; exact hJ.elim
  | succ k =>
    rw [hc] at hJ
    refine wp_mono (hJ a ⟨hg.1, hg.2, rfl⟩) fun e a' w' hl => ?_
    have h2 := key _ e a' w' hl
    cases e <;> first
      | (obtain ⟨q1, q2, q3⟩ := h2
         have hex : ∃ k, JW P n l rest Q k (fr a') w' := ⟨k, q3⟩
         have h3 : Classical.choose (least hex) ≤ k := (Classical.choose_spec (least hex)).2 k q3
         have h4 : μ a' w' = Classical.choose (least hex) := by simp only [μ, dif_pos hex]
         exact ⟨q1, ⟨q2, hex⟩, by omega⟩)
      | exact h2
end

/-! ### 3. One operation -/
/-- What a run hands on: a value in a world, as K says. -/
def after (P : Program) (K : Value → World → Prop) : Result Next → Prop
  | .ok (.value v) w => K v w
  | .ok .skip w => K undef w
  | .ok (.enter g args) w => Calls P g args w fun
      | .returned v, w' => K v w'
      | _, _ => False
  | _ => False
def bare (op : Op) (ty : TypeId) : Oper := ⟨none, op, ty, "", #[], none⟩
/-- The operation, run over the frame f in the world w, hands on a value in a world as K says. -/
def OpW (P : Program) (op : Op) (ty : TypeId) (f : Fr) (w : World) (K : Value → World → Prop) : Prop := after P K ((execOp (ev f) (bare op ty)).run P w)
theorem after_mono {P : Program} {K K' : Value → World → Prop} {r : Result Next} (h : after P K r) (hk : ∀ v w, K v w → K' v w) : after P K' r := by
  unfold after at *
  split at h <;> first
    | exact hk _ _ h
    | exact h.elim
    | skip
  refine h.mono ?_
  intro e w' he
  cases e <;> first
    | exact hk _ _ he
    | exact he.elim
theorem OpW.mono {P : Program} {op : Op} {ty : TypeId} {f : Fr} {w : World} {K K' : Value → World → Prop} (h : OpW P op ty f w K) (hk : ∀ v w, K v w → K' v w) : OpW P op ty f w K' :=
  after_mono h hk
theorem exec_bare (ρ : Operand → Value) (dst : Option Tmp) (op : Op) (ty : TypeId) (pos : String) (af : Array Edge) (g : Option (Nat × Bool)) : execOp ρ ⟨dst, op, ty, pos, af, g⟩ = execOp ρ (bare op ty) := rfl
theorem OpW.wp {P : Program} {o : Oper} {f : Fr} {w : World} {K : Value → World → Prop} {n : Nat} {a : Act} (ha : Good n f a) (h : OpW P o.op o.type f w K) {next : Act → World → Prop}
    {Q : Exit → Act → World → Prop} (hk : ∀ v w, K v w → next (a.put o.dst v) w) : o.wp P a w next Q := by
  unfold OpW at h
  unfold Oper.wp
  rw [eval_fr, ha.eq]
  have he : execOp (ev f) o = execOp (ev f) (bare o.op o.type) := rfl
  rw [he]
  revert h
  generalize (execOp (ev f) (bare o.op o.type)).run P w = r
  intro h
  unfold after at h
  split at h <;> simp only [Oper.upon] <;> first
    | exact hk _ _ h
    | exact h.elim
    | skip
  refine h.mono ?_
  intro e w' he
  cases e with
  | returned v => exact hk _ _ he
  | panicked _ => exact he.elim
  | outgrown => exact he.elim

/-! ### 4. A region in the order of the text -/
def bnd (n : Nat) (l : List Oper) : Bool := l.all fun o => match o.dst with | some d => d < n | none => true
/-- The rest l of a region's operations. -/
def L (P : Program) (n : Nat) (ops : Array Oper) (Q : Post) (l : List Oper) (f : Fr) (w : World) : Prop := bnd n l = true → ∀ a, Good n f a → wpList P ops (lift n Q) l a w
theorem bnd_cons {n : Nat} {o : Oper} {l : List Oper} (h : bnd n (o :: l) = true) : (∀ d, o.dst = some d → d < n) ∧ bnd n l = true := by
  simp only [bnd, List.all_cons, Bool.and_eq_true] at h
  exact ⟨fun d hd => by have := h.1; simpa [hd] using this, h.2⟩
section
variable {P : Program} {n : Nat} {ops : Array Oper} {Q : Post} {f : Fr} {w : World} {l : List Oper}
theorem L_nil (h : Q .normal f w) : L P n ops Q [] f w := fun _ a ha => ⟨⟨ha.size, ha.defers⟩, ha.eq ▸ h⟩
theorem L_wanted {o : Oper} (hw : ∀ a, Good n f a → Region.wanted o (yielded ops a.tmps) = true) (h : OpW P o.op o.type f w fun v w' => L P n ops Q l (updo f o.dst v) w') : L P n ops Q (o :: l) f w := by
  intro hb a ha
  simp only [wpList, hw a ha, if_true]
  left
  refine h.wp ha ?_
  intro v w' hl
  exact hl (bnd_cons hb).2 _ (ha.put _ (bnd_cons hb).1 v)
/-- The next operation (no guard). -/
theorem L_op {d : Nat} {op : Op} {ty : TypeId} {pos : String} {af : Array Edge} (h : OpW P op ty f w fun v w' => L P n ops Q l (upd f d v) w') : L P n ops Q (⟨some d, op, ty, pos, af, none⟩ :: l) f w :=
  L_wanted (fun _ _ => by simp [Region.wanted]) h
theorem L_do {op : Op} {ty : TypeId} {pos : String} {af : Array Edge} (h : OpW P op ty f w fun _ w' => L P n ops Q l f w') : L P n ops Q (⟨none, op, ty, pos, af, none⟩ :: l) f w :=
  L_wanted (fun _ _ => by simp [Region.wanted]) h
theorem yields {a : Act} (ha : Good n f a) {j dj : Nat} (hj : (ops[j]?).bind (·.dst) = some dj) {b : Bool} (hv : f dj = .bool b) : yielded ops a.tmps j = some b := by
  have h1 : a.tmps.getD dj undef = .bool b := by have := congrFun ha.eq dj; simp only [fr] at this; rw [this, hv]
  have h2 : a.tmps[dj]? = some (.bool b) := by
    rw [Array.getD_eq_getD_getElem?] at h1
    cases h3 : a.tmps[dj]? with
    | none => rw [h3] at h1; simp [undef] at h1
    | some v => rw [h3] at h1; simp at h1; rw [h1]
  simp [yielded, hj, h2]
/-- What a guard's slot holds: a truth value, or nothing yet. -/
def gval : Option Bool → Value
  | some b => .bool b
  | none => undef
theorem yieldsG {a : Act} (ha : Good n f a) {j dj : Nat} (hj : (ops[j]?).bind (·.dst) = some dj) {y : Option Bool} (hv : f dj = gval y) : yielded ops a.tmps j = y := by
  cases y with
  | some b => exact yields ha hj hv
  | none =>
    have h1 : a.tmps.getD dj undef = undef := by have := congrFun ha.eq dj; simp only [fr] at this; rw [this, hv]; rfl
    rw [Array.getD_eq_getD_getElem?] at h1
    cases h3 : a.tmps[dj]? with
    | none => simp [yielded, hj, h3]
    | some v => rw [h3] at h1; simp at h1; subst h1; simp [yielded, hj, h3, undef]
/-- The next operation, whose guard lets it. -/
theorem L_on {d j dj : Nat} {b : Bool} {op : Op} {ty : TypeId} {pos : String} {af : Array Edge} (hj : (ops[j]?).bind (·.dst) = some dj) (hv : f dj = .bool b)
    (h : OpW P op ty f w fun v w' => L P n ops Q l (upd f d v) w') : L P n ops Q (⟨some d, op, ty, pos, af, some (j, b)⟩ :: l) f w :=
  L_wanted (fun a ha => by simp [Region.wanted, yields ha hj hv]) h
/-- The next operation, whose guard does not let it. -/
theorem L_off {d j dj : Nat} {b : Bool} {op : Op} {ty : TypeId} {pos : String} {af : Array Edge} (hj : (ops[j]?).bind (·.dst) = some dj) (hv : f dj = .bool (!b))
    (h : L P n ops Q l (upd f d undef) w) : L P n ops Q (⟨some d, op, ty, pos, af, some (j, b)⟩ :: l) f w := by
  intro hb a ha
  have : Region.wanted (⟨some d, op, ty, pos, af, some (j, b)⟩ : Oper) (yielded ops a.tmps) = false := by
    simp [Region.wanted, yields ha hj hv]
  simp only [wpList, this, if_false, Bool.false_eq_true]
  exact h (bnd_cons hb).2 _ (ha.put (some d) (bnd_cons hb).1 undef)
theorem L_offU {d j dj : Nat} {b : Bool} {op : Op} {ty : TypeId} {pos : String} {af : Array Edge} (hj : (ops[j]?).bind (·.dst) = some dj) (hv : f dj = undef)
    (h : L P n ops Q l (upd f d undef) w) : L P n ops Q (⟨some d, op, ty, pos, af, some (j, b)⟩ :: l) f w := by
  intro hb a ha
  have : Region.wanted (⟨some d, op, ty, pos, af, some (j, b)⟩ : Oper) (yielded ops a.tmps) = false := by
    simp [Region.wanted, yieldsG ha hj (y := none) hv]
  simp only [wpList, this, if_false, Bool.false_eq_true]
  exact h (bnd_cons hb).2 _ (ha.put (some d) (bnd_cons hb).1 undef)
theorem C_region {id : Nat} {l : List Oper} (hb : bnd n l = true) (h : L P n l.toArray Q l f w) : C P n (.region id l.toArray false) Q f w :=
  fun a ha => wp_region_lit (h hb a ha)
end

/-! ### 5. A function -/
/-- What the results' variables hold. -/
def resOf (P : Program) (fn : Func) (f : Fr) (w : World) (v : Value) : Prop := ∀ tmps : Array Value, (fun t => tmps.getD t undef) = f → (results fn tmps).run P w = .ok v w
def bodyQ (P : Program) (fn : Func) (R : Value → World → Prop) : Post
  | .normal, f, w | .ret, f, w => ∃ v, resOf P fn f w v ∧ R v w
  | _, _, _ => False
/-- The call returns, as R says. -/
def Ret (R : Value → World → Prop) : Ending → World → Prop
  | .returned v, w => R v w
  | _, _ => False
theorem calls_C {P : Program} {g : FuncId} {fn : Func} {c : Code} {n : Nat} {args : Array Value} {w : World} {R : Value → World → Prop} (hf : P.funcs[g]? = some fn) (hb : fn.body = some c) (hn : fn.ntmps = n)
    (hs : Nat.ble args.size n = true) (h : C P n c (bodyQ P fn R) (frame0 args) w) : Calls P g args w (Ret R) := by
  subst hn
  refine calls_of_wp hf hb (wp_mono (h _ (good_enter _ args (Nat.le_of_ble_eq_true hs))) ?_)
  intro e a w' ⟨h1, h2⟩
  cases e <;> simp only [bodyQ] at h2 <;> first
    | exact h2.elim
    | (obtain ⟨v, hr, hR⟩ := h2
       exact ⟨h1.2, v, hr a.tmps rfl, hR⟩)
theorem res_one {P : Program} {fn : Func} {f : Fr} {w : World} {t : Nat} (h : fn.results = #[.tmp t]) : resOf P fn f w (f t) := by
  intro tmps ht
  subst ht
  simp [results, h]
theorem res_two {P : Program} {fn : Func} {f : Fr} {w : World} {t u : Nat} (h : fn.results = #[.tmp t, .tmp u]) : resOf P fn f w (.tuple #[f t, f u]) := by
  intro tmps ht
  subst ht
  simp [results, h]
theorem res_three {P : Program} {fn : Func} {f : Fr} {w : World} {t u s : Nat} (h : fn.results = #[.tmp t, .tmp u, .tmp s]) : resOf P fn f w (.tuple #[f t, f u, f s]) := by
  intro tmps ht
  subst ht
  simp [results, h]
theorem res_none {P : Program} {fn : Func} {f : Fr} {w : World} (h : fn.results = #[]) : resOf P fn f w (.tuple #[]) := by
  intro tmps ht
  simp [results, h]
end Hyp
