/- A region that draws its order, evaluated: each operation by itself, over the entries that it needs. -/
import Derived.Test.YtdlbmjbbnplpjaaMt
import Derived.Test.YtdlbmjbbnplpjaaMn
set_option linter.unusedVariables false
set_option linter.unusedSimpArgs false
namespace Hyp
open Go
/-! ### 1. Records -/
structure Rec where
  tp : List Nat
  a : AV
  lo : Nat
  hi : Nat
  out : List En
  src : List Nat
  eat : Bool
abbrev Recs := List (Nat × Rec)
def lookR : Recs → Nat → Option Rec
  | [], _ => none
  | (j, r) :: l, k => bif Nat.beq k j then some r else lookR l k
/-- Whose name it is. -/
def ownr : Recs → Nat → Option Nat
  | [], _ => none
  | (j, r) :: l, key => bif Nat.ble r.lo key && Nat.blt key r.hi then some j else ownr l key
def allN (R : Recs) (ν : Nms) (b0 : Nat) (val : Nat → D.GV) : Nms := fun key => if key < b0 then ν key else match ownr R key with | some j => (val j).2 key | none => ν key
def mayN (R : Recs) (b0 : Nat) (tp : List Nat) (k key : Nat) : Bool := Nat.blt key b0 || match ownr R key with | some j => Nat.beq j k || memN tp j | none => false
def lookG : List Nat → List D.GV → Nat → D.GV
  | t :: tp, g :: gs, j => if t = j then g else lookG tp gs j
  | _, _, _ => (undef, fun _ => ⟨0, undef, []⟩)
def valOf (tp : List Nat) (gs : List D.GV) (k : Nat) (g : D.GV) : Nat → D.GV := fun j => if j = k then g else lookG tp gs j
theorem lookG_map (val : Nat → D.GV) : ∀ {tp : List Nat} {j : Nat}, j ∈ tp → lookG tp (tp.map val) j = val j
  | t :: tp, j, h => by
    simp only [List.map_cons, lookG]
    split
    · rename_i e; rw [e]
    · rename_i e
      rcases List.mem_cons.1 h with h | h
      · exact absurd h.symm e
      · exact lookG_map val h
theorem memN_iff : ∀ {l : List Nat} {k : Nat}, memN l k = true ↔ k ∈ l
  | [], k => by simp [memN]
  | x :: l, k => by
    unfold memN
    rw [Bool.or_eq_true, memN_iff, List.mem_cons]
    constructor
    · rintro (h | h)
      · exact .inl (Nat.eq_of_beq_eq_true h).symm
      · exact .inr h
    · rintro (h | h)
      · subst h; exact .inl (Nat.beq_refl k)
      · exact .inr h
theorem renId : ∀ a : AV, a.ren (fun i => i) = a := by
  intro a
  induction a with
  | agg a ih => simp only [AV.ren, ih]
  | pr a c h1 h2 => simp only [AV.ren, h1, h2]
  | tup a ih => simp only [AV.ren, ih]
  | clo g a ih => simp only [AV.ren, ih]
  | _ => rfl
theorem renIdE (e : En) : e.ren (fun i => i) = e := by
  obtain ⟨k, v, c⟩ := e
  cases c <;> simp [En.ren, Cont.ren, renId]
section
variable {ν ν' : Nms} {b b' : Nat} {Z : Nat → Prop} {w : World} {p : Nat → Bool}
/-- Names that are alike. -/
def Alike (p : Nat → Bool) (ν : Nms) (b : Nat) (ν' : Nms) (b' : Nat) : Prop := ∀ i, i < b → p i = true → i < b' ∧ ν' i = ν i
theorem Alike.slot (h : Alike p ν b ν' b') {a : AV} {v : Value} (hi : a.ids p = true) (H : slotR ν b Z w a v) : slotR ν' b' Z w a v := by
  have := H.ren (φ := fun i => i) h hi
  rwa [renId] at this
theorem Alike.en (h : Alike p ν b ν' b') {e : En} (hi : e.ids p = true) (H : enF ν b Z w e) : enF ν' b' Z w e := by
  have := H.ren (φ := fun i => i) h hi
  rwa [renIdE] at this
theorem Alike.ent (h : Alike p ν b ν' b') {e : En} (hi : e.ids p = true) (H : enF ν b Z w e) : entOf ν' e = entOf ν e := by
  have := entOf_ren (φ := fun i => i) h hi H.1 H.2.1
  rwa [renIdE] at this
end
/-! ### 2. The specs of records -/
def recSpec (R : Recs) (ν : Nms) (b0 bE k : Nat) (r : Rec) : D.Spec where
  tp := r.tp
  deps := r.tp
  ok gs g Z w := slotR (allN R ν b0 (valOf r.tp gs k g)) bE Z w r.a g.1 ∧ ∀ e ∈ r.out, enF (allN R ν b0 (valOf r.tp gs k g)) bE Z w e
  ent gs g := r.out.map (entOf (allN R ν b0 (valOf r.tp gs k g)))
  eats := bif r.eat then r.src else []
  reads := bif r.eat then [] else r.src
  lasts := fun gs g Z Z' w w' h hs hz => ⟨h.1.later ⟨fun _ _ => rfl, Nat.le_refl _, hz⟩, fun e he => (h.2 e he).later ⟨fun _ _ => rfl, Nat.le_refl _, hz⟩⟩
def noRec : Rec := ⟨[], .any, 0, 0, [], [], false⟩
def recAt (R : Recs) (k : Nat) : Rec := (lookR R k).getD noRec
def specs (R : Recs) (ν : Nms) (b0 bE m : Nat) : List D.Spec := (List.range m).map fun k => recSpec R ν b0 bE k (recAt R k)
theorem specs_get {R : Recs} {ν : Nms} {b0 bE m k : Nat} (h : k < m) : (specs R ν b0 bE m)[k]? = some (recSpec R ν b0 bE k (recAt R k)) := by
  simp [specs, h]
theorem specs_none {R : Recs} {ν : Nms} {b0 bE m k : Nat} (h : m ≤ k) : (specs R ν b0 bE m)[k]? = none := by
  simp [specs, h]
theorem Z_pack {B : Base} {l l' : List Ent} (h : ∀ x, footU l x ↔ footU l' x) : B.Z l = B.Z l' := by
  funext x
  simp only [Base.Z, TT, h]
/-- Many entries as one. -/
def packE (F : List Ent) : Ent := ⟨footU F, fun w => ∀ e ∈ F, e.holds w, fun {w w'} h hh e he => e.loc (w := w) (fun b hb => h b ⟨e, he, hb⟩) (hh e he)⟩
theorem footU_pack (A F : List Ent) (x : Nat) : footU (A ++ [packE F]) x ↔ footU (A ++ F) x := by
  rw [footU_append, footU_append, footU_cons]
  simp only [footU_nil, or_false]
  rfl
theorem Own.pack {w0 w : World} {o : Nat → Prop} {A F : List Ent} (h : Own w0 o w (A ++ F)) : Own w0 o w (A ++ [packE F]) := by
  refine ⟨h.size, h.old, ?_, ?_, ?_, h.kept⟩
  · intro e he
    rcases List.mem_append.1 he with he | he
    · exact h.all e (List.mem_append_left _ he)
    · rw [List.mem_singleton] at he
      subst he
      exact fun e he => h.all e (List.mem_append_right _ he)
  · intro e he b hb
    rcases List.mem_append.1 he with he | he
    · exact h.low e (List.mem_append_left _ he) b hb
    · rw [List.mem_singleton] at he
      subst he
      obtain ⟨e, he, hb⟩ := hb
      exact h.low e (List.mem_append_right _ he) b hb
  · have := List.pairwise_append.1 h.sep
    refine List.pairwise_append.2 ⟨this.1, List.pairwise_singleton _ _, ?_⟩
    intro a ha e he
    rw [List.mem_singleton] at he
    subst he
    rintro b hb ⟨e, he, hb2⟩
    exact this.2.2 a ha e he b hb hb2
theorem Own.unpack {w0 w : World} {o : Nat → Prop} {A F : List Ent} (h : Own w0 o w (A ++ [packE F])) (hF : F.Pairwise apart) : Own w0 o w (A ++ F) := by
  refine ⟨h.size, h.old, ?_, ?_, ?_, h.kept⟩
  · intro e he
    rcases List.mem_append.1 he with he | he
    · exact h.all e (List.mem_append_left _ he)
    · exact h.all (packE F) (by simp) e he
  · intro e he b hb
    rcases List.mem_append.1 he with he | he
    · exact h.low e (List.mem_append_left _ he) b hb
    · exact h.low (packE F) (by simp) b ⟨e, he, hb⟩
  · have := List.pairwise_append.1 h.sep
    refine List.pairwise_append.2 ⟨this.1, hF, ?_⟩
    intro a ha e he b hb hb2
    exact this.2.2 a ha (packE F) (by simp) b hb ⟨e, he, hb2⟩
/-! ### 3. The evaluation -/
def dirsOf (o : Oper) : List Nat := (o.after.toList.filter (Region.binds .any)).map (·.on)
def addN (r : List Nat) : List Nat → List Nat
  | [] => r
  | x :: l => bif memN r x then addN r l else addN (x :: r) l
def nthT : List (List Nat) → Nat → List Nat
  | [], _ => []
  | x :: _, 0 => x
  | _ :: l, i + 1 => nthT l i
/-- For each operation its slot, and which are done ahead of it in any order. -/
def tpsOf : List Oper → Nat → List (List Nat) → List (Nat × List Nat)
  | [], _, _ => []
  | o :: l, k, acc =>
    let t := (dirsOf o).foldr (fun i r => addN (addN r (nthT acc i)) [i]) []
    ((o.dst).getD (1000000 + k), t) :: tpsOf l (k + 1) (acc ++ [t])
/-- Lists of numbers, and lists, worked out. -/
def forceIds {α : Type 1} : List Nat → (List Nat → α) → α
  | [], K => K []
  | n :: l, K => forceN n fun n => forceIds l fun l => K (n :: l)
@[simp] theorem forceIds_eq {α : Type 1} : ∀ (l : List Nat) (K : List Nat → α), forceIds l K = K l
  | [], _ => rfl
  | n :: l, K => by rw [forceIds, forceN_eq, forceIds_eq l]
def forceSp {α : Type 1} {β : Type} : List β → (List β → α) → α
  | [], K => K []
  | x :: l, K => forceSp l fun l => K (x :: l)
@[simp] theorem forceSp_eq {α : Type 1} {β : Type} : ∀ (l : List β) (K : List β → α), forceSp l K = K l
  | [], _ => rfl
  | x :: l, K => by rw [forceSp, forceSp_eq l]
/-- tpsOf, worked out step by step. -/
def tpsF {α : Type 1} : List Oper → Nat → List (List Nat) → (List (Nat × List Nat) → α) → α
  | [], _, _, K => K []
  | o :: l, k, acc, K => forceIds ((dirsOf o).foldr (fun i r => addN (addN r (nthT acc i)) [i]) []) fun t => forceSp (acc ++ [t]) fun acc' => forceN ((o.dst).getD (1000000 + k)) fun d => tpsF l (k + 1) acc' fun J => K ((d, t) :: J)
theorem tpsF_eq {α : Type 1} : ∀ (l : List Oper) (k : Nat) (acc : List (List Nat)) (K : List (Nat × List Nat) → α), tpsF l k acc K = K (tpsOf l k acc)
  | [], _, _, _ => rfl
  | o :: l, k, acc, K => by
    rw [tpsF, forceIds_eq, forceSp_eq, forceN_eq, tpsF_eq l]; rfl
def findD : List (Nat × List Nat) → Nat → Nat → Nat → Option Nat
  | [], _, _, _ => none
  | (d, _) :: I, j, k, t => bif Nat.beq d t && Nat.blt j k then some j else findD I (j + 1) k t
def baseT : List (Nat × List Nat) → Nat → Nat → Nat → Bool
  | [], _, _, _ => true
  | (d, tp) :: I, j, k, t => (!(Nat.beq d t) || (Nat.beq j k || memN tp k)) && baseT I (j + 1) k t
def lookB : List (Nat × Bool) → Nat → Option Bool
  | [], _ => none
  | (j, c) :: l, k => bif Nat.beq k j then some c else lookB l k
def refineA (kn : List (Nat × Bool)) (j : Nat) (a : AV) : AV := match lookB kn j with
  | some c => match a with
    | .val .bool _ => bif c then .tt else .ff
    | a => a
  | none => a
def slD (I : List (Nat × List Nat)) (R : Recs) (kn : List (Nat × Bool)) (sl0 : Nat → AV) (tpk : List Nat) (k t : Nat) : AV := match findD I 0 k t with
  | some j => bif memN tpk j then refineA kn j (recAt R j).a else .any
  | none => bif baseT I 0 k t then sl0 t else .any
inductive GdD
  | yes | no | bad
  | ask (j : Nat) (want x : Bool)
def gdD (R : Recs) (kn : List (Nat × Bool)) (tpk : List Nat) : Option (Nat × Bool) → GdD
  | none => .yes
  | some (j, want) => bif memN tpk j then (match refineA kn j (recAt R j).a with
    | .tt => bif want then .yes else .no
    | .ff => bif want then .no else .yes
    | .und => .no
    | .val .bool x => .ask j want x
    | _ => .bad) else .bad
/-- It leaves the entries as they were. -/
def pureOp (P : Program) : Op → Bool
  | .move _ | .assign _ | .pick _ _ _ | .nilCheck _ | .load _ _ | .binOp _ _ _ _ _ | .unOp _ _ _ | .fieldAddr _ _ _ | .extract _ _ | .indexAddr _ _ _ | .index _ _ _ | .slice _ _ _ _ _ | .build _ _ | .field _ _ _ | .lookup _ _ _ _ | .makeFunc _ _ _ => true
  | .convert s t _ => !(isStrSl P s t)
  | .call ⟨.builtin .len, _, _⟩ => true
  | .call ⟨.builtin .min, _, _⟩ | .call ⟨.builtin .max, _, _⟩ => true
  | _ => false
def isCallV : Op → Bool
  | .call ⟨.value _, _, _⟩ => true
  | _ => false
def needK (r : Operand → AV) : Op → List Nat
  | .load _ x | .convert _ _ x | .indexAddr _ x _ | .slice _ x _ _ _ => (r x).keys
  | .store t x y => (r x).keys ++ frzKeys r [] (.store t x y)
  | .call c => match c.callee with
    | .value (.func _) => keysOf (c.args.toList.map r)
    | .value f => (r f).keys ++ keysOf (c.args.toList.map r)
    | _ => keysOf (c.args.toList.map r)
  | .lookup _ m k _ => (r m).keys ++ (r k).keys
  | .mapUpdate _ m k x => (r m).keys ++ ((r k).keys ++ (r x).keys)
  | .range _ x | .next x _ | .entry x => (r x).keys
  | .buildSlice _ _ ps => keysOf (ps.toList.map fun p => r p.2)
  | _ => []
abbrev Src := List (Nat × List En)
def hasK : List En → List Nat → Bool
  | [], _ => false
  | e :: l, ks => memN ks e.key || hasK l ks
def takeS : Src → List Nat → Option ((Nat × List En) × Src)
  | [], _ => none
  | s :: l, ks => bif hasK s.2 ks then some (s, l) else (takeS l ks).map fun p => (p.1, s :: p.2)
def contK : List En → List Nat
  | [] => []
  | e :: l => e.c.keys ++ contK l
def selS (cl : Bool) : Nat → List Nat → Src → Src × Src
  | 0, _, cur => ([], cur)
  | n + 1, ks, cur => match takeS cur ks with
    | none => ([], cur)
    | some (s, rest) => match selS cl n (bif cl then contK s.2 ++ ks else ks) rest with
      | (a, c) => (s :: a, c)
def flatS : Src → List En
  | [] => []
  | s :: l => s.2 ++ flatS l
def idxS : Src → List Nat
  | [] => []
  | s :: l => s.1 :: idxS l
def forceS {α : Type 1} : Src → (Src → α) → α
  | [], K => K []
  | s :: l, K => forceN s.1 fun i => forceL s.2 fun L => forceS l fun l => K ((i, L) :: l)
@[simp] theorem forceS_eq {α : Type 1} : ∀ (l : Src) (K : Src → α), forceS l K = K l
  | [], _ => rfl
  | s :: l, K => by rw [forceS, forceN_eq, forceL_eq, forceS_eq l]
def forceMR2 {α : Type 1} (r : AV × List En × Nat) (K : AV → List En → Nat → α) : α := r.1.force fun a => forceL r.2.1 fun L => forceN r.2.2 fun b => K a L b
def evD (P : Program) (tab : Tab) (I : List (Nat × List Nat)) (sl0 : Nat → AV) : List Oper → List (Nat × List Nat) → Nat → Recs → List (Nat × Bool) → Src → Nat → Tree (Recs × List (Nat × Bool) × Nat)
  | o :: l, (_, tpk) :: J, k, R, kn, cur, b =>
    let doit (kn : List (Nat × Bool)) : Tree (Recs × List (Nat × Bool) × Nat) := match selS (isCallV o.op) 100 (needK (opA (slD I R kn sl0 tpk k)) o.op) cur with
      | (sel, rest) => forceS sel fun sel => forceS rest fun rest => (opF P tab o.op (opA (slD I R kn sl0 tpk k)) (flatS sel) b).bind fun r => forceMR2 r fun a L' b' => forceIds (idxS sel) fun ids =>
        bif pureOp P o.op then evD P tab I sl0 l J (k + 1) ((k, ⟨tpk, match o.dst with | some _ => a | none => .und, b, b, [], ids, false⟩) :: R) kn cur b
        else evD P tab I sl0 l J (k + 1) ((k, ⟨tpk, match o.dst with | some _ => a | none => .und, b, b', L', ids, true⟩) :: R) kn ((k, L') :: rest) b'
    let skip (kn : List (Nat × Bool)) : Tree (Recs × List (Nat × Bool) × Nat) := evD P tab I sl0 l J (k + 1) ((k, ⟨tpk, .und, b, b, [], [], false⟩) :: R) kn cur b
    match gdD R kn tpk o.guard with
    | .yes => doit kn
    | .no => skip kn
    | .bad => .fail
    | .ask j want x => .ite x (bif want then doit ((j, true) :: kn) else skip ((j, true) :: kn)) (bif want then skip ((j, false) :: kn) else doit ((j, false) :: kn))
  | [], _, _, R, kn, _, b => .ret (R, kn, b)
  | _ :: _, [], _, _, _, _, _ => .fail
end Hyp
