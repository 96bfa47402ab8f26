/- Code within a round of a range over a function, and of an activation with deferred calls: the same calculus, under a fence. -/
import Derived.Test.YtcojhmllnhkbnaaDoorZD
import Derived.RangeFuncIn
import Derived.RangeFuncRecord
import Derived.RangeFuncLeaves
import Derived.OwnWalkIn
import Derived.OrdersIn
set_option linter.unusedVariables false
set_option linter.unusedSimpArgs false
namespace Hyp
open Go
def RF (ro : Option Nat) : Fence := { Fence.wide with round := ro }
theorem callsRF {ro : Option Nat} {m : Nat} {P : Program} {g : FuncId} {args : Array Value} {w : World} {R : Ending → World → Prop} (h : Calls P g args w R) : CallsIn (RF ro) m P g args w R := by
  have h2 : CallsIn Fence.wide m P g args w R := callsIn_wide.2 h
  exact h2
structure GoodD (D : List Deferred) (n : Nat) (f : Fr) (a : Act) : Prop where
  size : a.tmps.size = n
  defers : a.defers = D
  eq : fr a = f
theorem GoodD.put {D : List Deferred} {n : Nat} {f : Fr} {a : Act} (h : GoodD D n f a) (dst : Option Nat) (hd : ∀ d, dst = some d → d < n) (v : Value) : GoodD D n (updo f dst v) (a.put dst v) := by
  obtain ⟨hs, hdf, rfl⟩ := h
  have h1 : Good n (fr { a with defers := [] }) { a with defers := [] } := ⟨hs, rfl, rfl⟩
  have h2 := h1.put dst hd v
  cases dst with
  | none => exact ⟨hs, hdf, rfl⟩
  | some d => exact ⟨h2.size, hdf, h2.eq⟩
def liftD (D : List Deferred) (n : Nat) (Q : Post) : Exit → Act → World → Prop := fun e a w => (a.tmps.size = n ∧ a.defers = D) ∧ Q e (fr a) w
def CR (ro : Option Nat) (D : List Deferred) (P : Program) (n : Nat) (c : Code) (Q : Post) (f : Fr) (w : World) : Prop := ∀ a, GoodD D n f a → c.wpIn (RF ro) 3 P (liftD D n Q) a w
section
variable {ro : Option Nat} {D : List Deferred} {P : Program} {n : Nat} {Q Q' : Post} {f : Fr} {w : World}
theorem CR_skip (h : Q .normal f w) : CR ro D P n .skip Q f w := fun a ha => wpIn_skip ⟨⟨ha.size, ha.defers⟩, ha.eq ▸ h⟩
theorem CR_exit {id : Nat} (h : Q (.exit id) f w) : CR ro D P n (.exit id) Q f w := fun a ha => wpIn_exit ⟨⟨ha.size, ha.defers⟩, ha.eq ▸ h⟩
theorem CR_ret (h : Q .ret f w) : CR ro D P n .ret Q f w := fun a ha => wpIn_ret ⟨⟨ha.size, ha.defers⟩, ha.eq ▸ h⟩
theorem CR_seq {x y : Code} (h : CR ro D P n x (thenQ (CR ro D P n y Q) Q) f w) : CR ro D P n (.seq x y) Q f w := by
  intro a ha
  refine wpIn_seq (wpIn_mono (h a ha) ?_)
  intro e a w ⟨h1, h2⟩
  cases e <;> first
    | exact h2 a ⟨h1.1, h1.2, rfl⟩
    | exact ⟨h1, h2⟩
theorem CR_cond {c : Operand} {x y : Code} {b : Bool} (hc : ev f c = .bool b) (ht : b = true → CR ro D P n x Q f w) (hf : b = false → CR ro D P n y Q f w) : CR ro D P n (.cond c x y) Q f w := by
  intro a ha
  have : a.eval c = .bool b := by rw [eval_fr, ha.eq, hc]
  exact wpIn_cond_split this (fun h => ht h a ha) (fun h => hf h a ha)
theorem CR_block {id : Nat} {c : Code} (h : CR ro D P n c (inBlock id Q) f w) : CR ro D P n (.block id c) Q f w := by
  intro a ha
  refine wpIn_block (wpIn_mono (h a ha) ?_)
  intro e a w ⟨h1, h2⟩
  cases e <;> first
    | exact ⟨h1, h2⟩
    | (simp only [inBlock] at h2
       simp only [Exit.inBlock]
       split
       · rename_i he; rw [if_pos he] at h2; exact ⟨h1, h2⟩
       · rename_i he; rw [if_neg he] at h2; exact ⟨h1, h2⟩)
theorem CR_loop {c : Code} (J : Nat → Fr → World → Prop) (k : Nat) (h0 : J k f w)
    (round : ∀ k f w, J k f w → CR ro D P n c (thenQ (fun f' w' => ∃ k', k' < k ∧ J k' f' w') Q) f w) : CR ro D P n (.loop c) Q f w := by
  intro a ha
  classical
  let I : Act → World → Prop := fun a w => (a.tmps.size = n ∧ a.defers = D) ∧ ∃ k, J k (fr a) w
  let μ : Act → World → Nat := fun a w => if h : ∃ k, J k (fr a) w then Classical.choose (least h) else 0
  refine wpIn_loop I μ ⟨⟨ha.size, ha.defers⟩, k, ha.eq ▸ h0⟩ ?_
  rintro a w ⟨hg, hk⟩
  have hJ := (Classical.choose_spec (least hk)).1
  refine wpIn_mono (round _ _ _ hJ a ⟨hg.1, hg.2, rfl⟩) ?_
  intro e a' w' ⟨h1, h2⟩
  cases e <;> first
    | exact ⟨h1, h2⟩
    | (obtain ⟨k', hlt, hJ'⟩ := h2
       have hex : ∃ k, J k (fr a') w' := ⟨k', hJ'⟩
       refine ⟨⟨h1, hex⟩, ?_⟩
       have h3 : Classical.choose (least hex) ≤ k' := (Classical.choose_spec (least hex)).2 k' hJ'
       simp only [μ, dif_pos hk, dif_pos hex]
       omega)
end
def notDefer (o : Oper) : Bool := match o.op with | .defer _ => false | _ => true
theorem notDefer_ne {o : Oper} (h : notDefer o = true) : ∀ c, o.op ≠ .defer c := by
  intro c hc; unfold notDefer at h; rw [hc] at h; cases h
section
variable {ro : Option Nat} {D : List Deferred} {P : Program} {n : Nat} {ops : Array Oper} {Q : Post} {f : Fr} {w : World} {l : List Oper}
theorem OpW.wpIn {o : Oper} {K : Value → World → Prop} {a : Act} (hd : notDefer o = true) (ha : GoodD D n f a) (h : OpW P o.op o.type f w K) {next : Act → World → Prop}
    {Q : Exit → Act → World → Prop} (hk : ∀ v w, K v w → next (a.put o.dst v) w) : o.wpIn (RF ro) 3 P a w next Q := by
  refine ⟨fun _ _ => trivial, ?_⟩
  rw [Oper.semAt_plain _ _ _ (notDefer_ne hd), eval_fr, ha.eq]
  unfold OpW at h
  have he : execOp (ev f) o = execOp (ev f) (bare o.op o.type) := rfl
  rw [he]
  revert h
  generalize (execOp (ev f) (bare o.op o.type)).run P w = r
  intro h
  unfold after at h
  split at h <;> simp only [Oper.uponIn] <;> first
    | exact hk _ _ h
    | exact h.elim
    | skip
  refine ⟨fun h => (by cases h), callsRF (h.mono ?_)⟩
  intro e w' he
  cases e with
  | returned v => exact hk _ _ he
  | panicked _ => exact he.elim
  | outgrown => exact he.elim
def LR (ro : Option Nat) (D : List Deferred) (P : Program) (n : Nat) (ops : Array Oper) (Q : Post) (l : List Oper) (f : Fr) (w : World) : Prop := bnd n l = true → ∀ a, GoodD D n f a → wpListIn (RF ro) 3 P ops (liftD D n Q) l a w
theorem LR_nil (h : Q .normal f w) : LR ro D P n ops Q [] f w := fun _ a ha => ⟨⟨ha.size, ha.defers⟩, ha.eq ▸ h⟩
theorem LR_wanted {o : Oper} (hd : notDefer o = true) (hw : o.guard = none) (h : OpW P o.op o.type f w fun v w' => LR ro D P n ops Q l (updo f o.dst v) w') : LR ro D P n ops Q (o :: l) f w := by
  intro hb a ha
  have hw' : Region.wanted o (yielded ops a.tmps) = true := by simp [Region.wanted, hw]
  simp only [wpListIn, hw', if_true]
  refine h.wpIn hd ha ?_
  intro v w' hl
  exact hl (bnd_cons hb).2 _ (ha.put _ (bnd_cons hb).1 v)
theorem LR_op {d : Nat} {op : Op} {ty : TypeId} {pos : String} {af : Array Edge} (h : OpW P op ty f w fun v w' => LR ro D P n ops Q l (upd f d v) w') (hd : notDefer (bare op ty) = true := by rfl) : LR ro D P n ops Q (⟨some d, op, ty, pos, af, none⟩ :: l) f w :=
  LR_wanted hd rfl h
theorem LR_do {op : Op} {ty : TypeId} {pos : String} {af : Array Edge} (h : OpW P op ty f w fun _ w' => LR ro D P n ops Q l f w') (hd : notDefer (bare op ty) = true := by rfl) : LR ro D P n ops Q (⟨none, op, ty, pos, af, none⟩ :: l) f w :=
  LR_wanted hd rfl h
theorem CR_region {id : Nat} {l : List Oper} (hb : bnd n l = true) (h : LR ro D P n l.toArray Q l f w) : CR ro D P n (.region id l.toArray false) Q f w :=
  fun a ha => wpIn_region_lit (h hb a ha)
theorem getD_some {listed : Array Bool} {i : Nat} (h : listed.getD i true = false) : listed[i]? = some false := by
  rw [Array.getD_eq_getD_getElem?] at h
  cases h1 : listed[i]? with
  | none => rw [h1] at h; cases h
  | some b => rw [h1] at h; simp at h; rw [h]
theorem any_inv {F : Fence} {m : Nat} {Q : Exit → Act → World → Prop} (Inv : Array Bool → Act → World → Prop)
    (step : ∀ listed a w i, Inv listed a w → i ∈ Region.ready .any ops listed → wpOpIn F m P ops Q i (fun a' w' => Inv (listed.setIfInBounds i true) a' w') a w)
    (fin : ∀ listed a w, Inv listed a w → Region.ready .any ops listed = [] → Q .normal a w)
    (size : ∀ listed a w, Inv listed a w → listed.size = ops.size)
    : ∀ (fuel : Nat) (listed : Array Bool) (a : Act) (w : World), Inv listed a w → (listed.toList.filter (! ·)).length ≤ fuel → wpAnyIn F m P .any ops Q fuel listed a w
  | 0, listed, a, w, h, hf => by
    have hr : Region.ready .any ops listed = [] := by
      cases hr : Region.ready .any ops listed with
      | nil => rfl
      | cons i r =>
        have hi : i ∈ Region.ready .any ops listed := by rw [hr]; simp
        have h1 := getD_some (mem_ready.1 hi).1
        have : false ∈ listed.toList.filter (! ·) := by
          rw [List.mem_filter]
          exact ⟨by
            have := Array.mem_of_getElem? h1
            simpa using this, rfl⟩
        rw [List.length_eq_zero_iff.1 (Nat.le_zero.1 hf)] at this
        cases this
    exact ⟨hr, fin _ _ _ h hr⟩
  | fuel + 1, listed, a, w, h, hf => by
    refine ⟨fun hr => fin _ _ _ h hr, fun i hi => ?_⟩
    refine wpOpIn_mono (fun a' w' h' => any_inv Inv step fin size fuel _ _ _ h' ?_) (step _ _ _ _ h hi)
    have h1 := getD_some (mem_ready.1 hi).1
    have key : ∀ (l : List Bool) (i : Nat), l[i]? = some false → ((l.set i true).filter (! ·)).length + 1 = (l.filter (! ·)).length := by
      intro l
      induction l with
      | nil => intro i h; simp at h
      | cons b l ih =>
        intro i h
        cases i with
        | zero =>
          simp only [List.getElem?_cons_zero, Option.some.injEq] at h
          subst h
          simp
        | succ i =>
          have := ih i (by simpa using h)
          cases b <;> simp <;> simpa using this
    have := key listed.toList i (by simpa using h1)
    simp only [Array.toList_setIfInBounds]
    omega
end
end Hyp
