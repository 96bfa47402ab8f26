/- Calls. -/
import Derived.Test.YtdlbmjbbnplpjaaMl
set_option linter.unusedVariables false
set_option linter.unusedSimpArgs false
namespace Hyp
open Go
def slotsR (ν : Nms) (b : Nat) (Z : Nat → Prop) (w : World) : List AV → List Value → Prop
  | [], [] => True
  | a :: l, v :: vs => slotR ν b Z w a v ∧ slotsR ν b Z w l vs
  | _, _ => False
/-- What a function does, told over shapes. -/
abbrev Summ := List AV → List En → Nat → Tree MR
/-- Some of what may come is so. -/
def GivesR (B : Base) (ν : Nms) (b : Nat) (w : World) (L : List En) (F : List Ent) (R : MR → Prop) (v : Value) (w' : World) : Prop := ∃ r, R r ∧ Gives B ν b w L F r.2.2 r.2.1 r.1 v w'
/-- Whatever the tree may come to, the operation gives something of that. -/
def M' (P : Program) (op : Op) (ty : TypeId) (f : Fr) (B : Base) (ν : Nms) (b : Nat) (w : World) (L : List En) (F : List Ent) (t : Tree MR) : Prop :=
  ∀ R, t.Runs R → OpW P op ty f w (GivesR B ν b w L F R)
theorem M.m' {P : Program} {op : Op} {ty : TypeId} {f : Fr} {B : Base} {ν : Nms} {b : Nat} {w : World} {L : List En} {F : List Ent} {t : Tree MR} (h : M P op ty f B ν b w L F t) (hd : t.Det) : M' P op ty f B ν b w L F t := by
  intro R hr
  obtain ⟨⟨a, L', b'⟩, h1, h2⟩ := hd.runs hr
  exact (h a L' b' h1).mono fun v w' hg => ⟨_, h2, hg⟩
theorem M'.m {P : Program} {op : Op} {ty : TypeId} {f : Fr} {B : Base} {ν : Nms} {b : Nat} {w : World} {L : List En} {F : List Ent} {t : Tree MR} (h : M' P op ty f B ν b w L F t) : M P op ty f B ν b w L F t := by
  intro a L' b' hr
  exact (h _ (.of hr)).mono fun v w' ⟨r, h1, h2⟩ => by subst h1; exact h2
/-- The function does so. -/
def SoundF (P : Program) (g : FuncId) (S : Summ) : Prop := ∀ avs L b R, (S avs L b).Runs R → ∀ (B : Base) (ν : Nms) (w : World) (F : List Ent) (vs : List Value),
  Here B ν b w L F → slotsR ν b (B.Z (ents ν L ++ F)) w avs vs → Calls P g vs.toArray w (Ret (GivesR B ν b w L F R))
def allIds (p : Nat → Bool) : List AV → Bool
  | [] => true
  | a :: l => a.ids p && allIds p l
def enAll (p : Nat → Bool) : List En → Bool
  | [] => true
  | e :: l => e.ids p && enAll p l
def keysOf : List AV → List Nat
  | [] => []
  | a :: l => a.keys ++ keysOf l
def callT (S : Summ) (avs : List AV) (L : List En) (b : Nat) : Tree MR := match grab 1000 (keysOf avs) L with
  | (L1, L2) => bif allIds (memK L1) avs && enKeys (memK L1) L1 then
      (S (avs.map (AV.ren (newKey 0 noKeep L1))) (partE L1) (2 * L1.length)).bind fun r =>
        .ret (r.1.ren (backN (enIds L1) b), r.2.1.map (En.ren (backN (enIds L1) b)) ++ L2, b + (r.2.2 - 2 * L1.length)) else .fail
/-- What holds no address that is only read. -/
def AV.noRo : AV → Bool
  | .val t _ => t.flat
  | .agg a | .tup a | .clo _ a => a.noRo
  | .pr a c => a.noRo && c.noRo
  | .ro _ _ _ | .rop _ _ _ _ _ => false
  | _ => true
def Cont.noRo : Cont → Bool
  | .box a => a.noRo
  | .row e _ => e.flat
  | _ => false
def enNoRo : List En → Bool
  | [] => true
  | e :: l => e.c.noRo && enNoRo l
/-- Windows become what is read. -/
def lendA (P : Program) (L : List En) : TypeId → AV → Option AV
  | t, .whole k s => (sliceElTy P t).bind fun e => (rdSl L e (.whole k s)).map fun xs => .ro false e xs
  | t, .win k s lo n => (sliceElTy P t).bind fun e => (rdSl L e (.win k s lo n)).map fun xs => .ro false e xs
  | t, .bwin k o e N lo n => (sliceElTy P t).bind fun e' => (rdSl L e' (.bwin k o e N lo n)).map fun xs => .ro false e' xs
  | t, .snil _ => (sliceElTy P t).map fun e => .ro false e []
  | _, a => some a
def lendL (P : Program) (L : List En) : List TypeId → List Bool → List AV → Option (List AV)
  | _, _, [] => some []
  | t :: ts, true :: ms, a :: l => (lendA P L t a).bind fun a' => (lendL P L ts ms l).map fun l' => a' :: l'
  | t :: ts, _ :: ms, a :: l => (lendL P L ts ms l).map fun l' => a :: l'
  | t :: ts, [], a :: l => (lendL P L ts [] l).map fun l' => a :: l'
  | [], _, _ :: _ => none
def keepA : List Bool → List AV → List AV
  | true :: ms, _ :: l => keepA ms l
  | _ :: ms, a :: l => a :: keepA ms l
  | [], l => l
  | _, [] => []
/-- A call to which some slices are lent. -/
def callLT (P : Program) (S : Summ) (ts : List TypeId) (ms : List Bool) (avs : List AV) (L : List En) (b : Nat) : Tree MR := match grab 1000 (keysOf (keepA ms avs)) L with
  | (L1, L2) => match lendL P L2 ts ms avs with
    | some avs' => bif allIds (memK L1) avs' && enKeys (memK L1) L1 then
      (S (avs'.map (AV.ren (newKey 0 noKeep L1))) (partE L1) (2 * L1.length)).bind fun r =>
        bif r.1.noRo && enNoRo r.2.1 then .ret (r.1.ren (backN (enIds L1) b), r.2.1.map (En.ren (backN (enIds L1) b)) ++ L2, b + (r.2.2 - 2 * L1.length)) else .fail else .fail
    | none => .fail
section
variable {P : Program} {ty T U : TypeId} {f : Fr} {w w' : World} {B : Base} {ν ν' : Nms} {b b' : Nat} {Z Z' : Nat → Prop} {L L' L1 L2 : List En} {F : List Ent}
theorem slotsR.ren {p : Nat → Bool} {φ : Nat → Nat} (h : ∀ i, i < b → p i = true → φ i < b' ∧ ν' (φ i) = ν i) : ∀ {l : List AV} {vs : List Value}, allIds p l = true → slotsR ν b Z w l vs → slotsR ν' b' Z w (l.map (AV.ren φ)) vs
  | [], [], _, _ => trivial
  | a :: l, v :: vs, hi, H => by
    simp only [allIds, Bool.and_eq_true] at hi
    exact ⟨H.1.ren h hi.1, slotsR.ren h hi.2 H.2⟩
  | [], _ :: _, _, H => H.elim
  | _ :: _, [], _, H => H.elim
theorem slotsR.later (h : Later ν ν' b b' Z Z' w w') : ∀ {l : List AV} {vs : List Value}, slotsR ν b Z w l vs → slotsR ν' b' Z' w' l vs
  | [], [], _ => trivial
  | a :: l, v :: vs, H => ⟨H.1.later h, slotsR.later h H.2⟩
  | [], _ :: _, H => H.elim
  | _ :: _, [], H => H.elim
theorem enAll_ok {p : Nat → Bool} : ∀ {L : List En}, enAll p L = true → ∀ e ∈ L, e.ids p = true
  | [], _, _, h => by simp at h
  | x :: l, h, e, he => by
    simp only [enAll, Bool.and_eq_true] at h
    rcases List.mem_cons.1 he with rfl | he
    · exact h.1
    · exact enAll_ok h.2 e he
theorem idsTrue : ∀ a : AV, a.ids (fun _ => true) = true := by
  intro a
  induction a with
  | agg a ih => exact ih
  | pr a c h1 h2 => simp only [AV.ids, h1, h2, Bool.and_self]
  | tup a ih => exact ih
  | clo g a ih => exact ih
  | _ => rfl
theorem o_callV {c : Call} {g : FuncId} {fn : Func} {args : List Operand} {R : Value → World → Prop} {K : Value → World → Prop} (hc : c.callee = .value (.func g)) (hf : P.funcs[g]? = some fn) (hn : callable fn = true) (ha : c.args = args.toArray)
    (hcall : Calls P g (args.map (ev f)).toArray w (Ret R)) (h : ∀ v w', R v w' → K v w') : OpW P (.call c) ty f w K :=
  o_call hc hf hn (by rw [ha]; simp) hcall h
theorem callT_ok {S : Summ} {avs : List AV} {c : Call} {g : FuncId} {fn : Func} {args : List Operand} (hS : SoundF P g S) (hc : c.callee = .value (.func g)) (hf : P.funcs[g]? = some fn) (hn : callable fn = true) (hargs : c.args = args.toArray)
    (H : Here B ν b w L F) (ha : slotsR ν b (B.Z (ents ν L ++ F)) w avs (args.map (ev f))) : M' P (.call c) ty f B ν b w L F (callT S avs L b) := by
  intro Q hr
  unfold callT at hr
  generalize hg : grab 1000 (keysOf avs) L = pr at hr
  obtain ⟨L1, L2⟩ := pr
  have hp : L.Perm (L1 ++ L2) := by have := grab_perm 1000 (keysOf avs) L; rw [hg] at this; exact this
  dsimp only at hr
  cases hb : (allIds (memK L1) avs && enKeys (memK L1) L1) <;> rw [hb] at hr
  · cases hr
  · simp only [Bool.and_eq_true] at hb
    simp only [cond_true, Tree.runs_bind] at hr
    have hmem : ∀ e ∈ L1, e ∈ L := fun e he => hp.mem_iff.2 (List.mem_append_left _ he)
    obtain ⟨hh, hz⟩ := H.part hp hb.2
    have hsl : slotsR (numN ν 0 L1) (2 * L1.length) (B.Z (ents ν L ++ F)) w (avs.map (AV.ren (newKey 0 noKeep L1))) (args.map (ev f)) := ha.ren (part_names H hmem hb.2 rfl).1 hb.1
    rw [← hz] at hsl
    refine o_callV hc hf hn hargs (hS _ _ _ _ hr B _ w _ _ hh hsl) fun v w' hv => ?_
    obtain ⟨⟨a1, Lc, b1⟩, h2, νc, hl, hs⟩ := hv
    obtain ⟨ν', hl', hz', hback⟩ := Left.whole H hp hb.2 hl
    refine ⟨_, h2, ν', hl', ?_⟩
    rw [← hz']
    exact hs.ren (p := fun _ => true) (fun i hi _ => hback i hi trivial) (idsTrue _)
theorem avC.noRo : ∀ {a : AV} {cs : List Value}, a.noRo = true → avC ν b Z w a cs → avC ν b Z' w' a cs
  | .any, _, _, H | .und, _, _, H | .tup _, _, _, H => H.elim
  | .tt, _, _, H | .ff, _, _, H | .un, _, _, H | .nil, _, _, H | .mnil, _, _, H | .fnil, _, _, H | .snil _, _, _, H => H
  | .val t x, _, h, H => t.rel_any h H
  | .agg a, _, h, H => avC.noRo (a := a) h H
  | .pr a c, _, h, ⟨c1, c2, h0, h1, h2⟩ => by
    simp only [AV.noRo, Bool.and_eq_true] at h
    exact ⟨c1, c2, h0, avC.noRo h.1 h1, avC.noRo h.2 h2⟩
  | .ptr k _, _, _, H | .pel k _ _ _ _ _, _, _, H | .rowp k _ _ _, _, _, H | .whole k _, _, _, H | .win k _ _ _, _, _, H | .bwin k _ _ _ _ _, _, _, H | .mpv _, _, _, H => H
  | .clo _ a, _, h, ⟨vs, h0, h1⟩ => ⟨vs, h0, avC.noRo (a := a) h h1⟩
  | .rop _ _ _ _ _, _, h, _ | .ro _ _ _, _, h, _ => by cases h
theorem avV.noRo {a : AV} {v : Value} (h : a.noRo = true) (H : avV ν b Z w a v) : avV ν b Z' w' a v := by
  unfold avV at *
  split
  · rename_i ha
    rw [if_pos ha] at H
    obtain ⟨cs, h1, h2⟩ := H
    exact ⟨cs, h1, h2.noRo h⟩
  · rename_i ha
    rw [if_neg ha] at H
    exact H.noRo h
theorem avT.noRo : ∀ {a : AV} {vs : List Value}, a.noRo = true → avT ν b Z w a vs → avT ν b Z' w' a vs
  | .un, _, _, H => H
  | .pr _ _, _, h, ⟨v, vs', h0, h1, h2⟩ => by
    simp only [AV.noRo, Bool.and_eq_true] at h
    exact ⟨v, vs', h0, h1.noRo h.1, avT.noRo h.2 h2⟩
  | .any, _, _, H | .und, _, _, H | .tup _, _, _, H | .tt, _, _, H | .ff, _, _, H | .nil, _, _, H | .mnil, _, _, H | .fnil, _, _, H | .snil _, _, _, H | .val _ _, _, _, H | .agg _, _, _, H | .ptr _ _, _, _, H | .pel _ _ _ _ _ _, _, _, H | .rowp _ _ _ _, _, _, H | .rop _ _ _ _ _, _, _, H
  | .whole _ _, _, _, H | .win _ _ _ _, _, _, H | .bwin _ _ _ _ _ _, _, _, H | .ro _ _ _, _, _, H | .mpv _, _, _, H | .clo _ _, _, _, H => H.elim
theorem slotR.noRo {a : AV} {v : Value} (h : a.noRo = true) (H : slotR ν b Z w a v) : slotR ν b Z' w' a v := by
  unfold slotR at H
  split at H
  · trivial
  · exact H
  · obtain ⟨vs, h0, h1⟩ := H; exact ⟨vs, h0, h1.noRo h⟩
  · exact .of (avV.noRo h H)
theorem enF.noRo {e : En} (h : e.c.noRo = true) (H : enF ν b Z w e) : enF ν b Z' w' e := by
  obtain ⟨h1, h2, h3⟩ := H
  refine ⟨h1, h2, ?_⟩
  revert h h3
  cases e.c with
  | box a => exact fun h h3 => avC.noRo h h3
  | row t xs => exact fun h h3 => Ty.rel_any (.arr xs.length t) h h3
  | mp kt vt xs => exact fun h => by cases h
  | it mk mv kt vt xs => exact fun h => by cases h
  | itc mk mv kt vt kx vx xs => exact fun h => by cases h
theorem enNoRo_ok : ∀ {L : List En}, enNoRo L = true → ∀ e ∈ L, e.c.noRo = true
  | [], _, _, h => by simp at h
  | x :: l, h, e, he => by
    simp only [enNoRo, Bool.and_eq_true] at h
    rcases List.mem_cons.1 he with rfl | he
    · exact h.1
    · exact enNoRo_ok h.2 e he
theorem renNoRo (φ : Nat → Nat) : ∀ a : AV, (a.ren φ).noRo = a.noRo := by
  intro a
  induction a with
  | agg a ih => exact ih
  | pr a c h1 h2 => simp only [AV.ren, AV.noRo, h1, h2]
  | tup a ih => exact ih
  | clo g a ih => exact ih
  | _ => rfl
end
end Hyp
