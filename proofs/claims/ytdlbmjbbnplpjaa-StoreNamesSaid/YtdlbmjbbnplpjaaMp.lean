/- What a function, or a loop, hands back: in a shape of its own. -/
import Derived.Test.YtdlbmjbbnplpjaaMo
import Derived.Test.YtdlbmjbbnplpjaaMz
set_option linter.unusedVariables false
set_option linter.unusedSimpArgs false
namespace Hyp
open Go
def isBoxE (e : En) : Bool := match e.c with | .box _ | .mp _ _ _ => true | _ => false
def upto : Nat → List Nat
  | 0 => []
  | n + 1 => upto n ++ [n]
/-- The keys below b0 of boxes. -/
def boxKeys (b0 : Nat) (L : List En) : List Nat := (upto b0).filter fun k => match findE L k with | some ⟨_, _, .box _⟩ => true | some ⟨_, _, .mp _ _ _⟩ => true | _ => false
def keepBox (ks : List Nat) (b0 : Nat) (e : En) : Bool := (isBoxE e || memN ks e.key) && Nat.blt e.key b0
/-- Of what is reached boxes that were there, and rows that were handed in, keep their keys. -/
def finT (ks : List Nat) (avs : List AV) (L : List En) (b b0 : Nat) : Option (List AV × List En × Nat) :=
  (normL avs L b).bind fun r =>
    (normB (keysL (grab 1000 (keysOf r.1 ++ boxKeys b0 r.2.1) r.2.1).1) r.2.1 r.2.2).bind fun q =>
      match grab 1000 (keysOf r.1 ++ (boxKeys b0 q.1 ++ upto b0)) q.1 with
      | (R, _) => bif allIds (memK R) r.1 && enKeys (memK R) R then
          some (r.1.map (AV.ren (newKey b0 (keepBox ks b0) R)), number b0 (newKey b0 (keepBox ks b0) R) (keepBox ks b0) 0 R, b0 + 2 * R.length) else none
section
variable {P : Program} {f : Fr} {w w' : World} {B : Base} {ν ν' ν0 : Nms} {b b' b0 : Nat} {Z Z' : Nat → Prop} {L L' L1 L2 L0 : List En} {F : List Ent} {w0 : World}
theorem finT_ok {ks : List Nat} {avs avs' : List AV} {vs : List Value} (h : Left B ν0 b0 w0 L0 F ν b w L) (hs : slotsR ν b (B.Z (ents ν L ++ F)) w avs vs) (hf : finT ks avs L b b0 = some (avs', L', b')) :
    ∃ ν', Left B ν0 b0 w0 L0 F ν' b' w L' ∧ slotsR ν' b' (B.Z (ents ν' L' ++ F)) w avs' vs := by
  unfold finT at hf
  obtain ⟨⟨a1, La, ba⟩, q1, q2⟩ := bindE hf
  obtain ⟨⟨Lb, bb⟩, q3, q4⟩ := bindE q2
  obtain ⟨ν1, g1, g2⟩ := normL_ok h.here hs q1
  obtain ⟨ν2, g3⟩ := normB_ok g1.here q3
  have h2 := (h.trans g1).trans g3
  have hs2 := g2.later g3.later
  dsimp only at q4
  generalize hg : grab 1000 (keysOf a1 ++ (boxKeys b0 Lb ++ upto b0)) Lb = pr at q4
  obtain ⟨R, U⟩ := pr
  have hp : Lb.Perm (R ++ U) := by have := grab_perm 1000 (keysOf a1 ++ (boxKeys b0 Lb ++ upto b0)) Lb; rw [hg] at this; exact this
  dsimp only at q4
  obtain ⟨h3, hz⟩ := h2.less hp
  have hs3 : slotsR ν2 bb (B.Z (ents ν2 R ++ F)) w a1 vs := hs2.later ⟨fun _ _ => rfl, Nat.le_refl _, fun x _ hx => ⟨hz x hx, rfl⟩⟩
  cases hc : (allIds (memK R) a1 && enKeys (memK R) R) <;> rw [hc] at q4
  · cases q4
  · cases q4
    simp only [Bool.and_eq_true] at hc
    have hkeep : ∀ e, keepBox ks b0 e = true → e.key < b0 := by
      intro e he
      simp only [keepBox, Bool.and_eq_true] at he
      exact Nat.le_of_ble_eq_true he.2
    have hφ : ∀ k, k < bb → memK R k = true → newKey b0 (keepBox ks b0) R k < b0 + 2 * R.length ∧ numN ν2 b0 R (newKey b0 (keepBox ks b0) R k) = ν2 k := fun k _ hk => newKey_ok hkeep hk
    have hlow : ∀ k, k < b0 → numN ν2 b0 R k = ν2 k := fun k hk => by unfold numN; rw [if_pos hk]
    obtain ⟨e1, e2⟩ := number_ok (b0 := b0) (Z := B.Z (ents ν2 R ++ F)) (w := w) hφ R 0 h3.fact hc.2 (fun e _ he => ⟨by have := hkeep e he; omega, hlow _ (hkeep e he)⟩) (fun j e hj => by
      obtain ⟨k1, k2⟩ := numN_key (ν := ν2) (b0 := b0) hj
      obtain ⟨_, _, k3⟩ := enIds_at hj
      rw [Nat.zero_add]
      exact ⟨k1, k2, by omega⟩)
    refine ⟨numN ν2 b0 R, ⟨fun k hk => (hlow k hk).trans (h3.nms k hk), by omega, ?_, ?_⟩, ?_⟩
    · rw [e1]; exact h3.own
    · rw [e1]; exact e2
    · rw [e1]; exact hs3.ren hφ hc.1
end
/-! ### Cut points -/
inductive Ex
  | nm | rt
  | ex (id : Nat)
  | go (l : Nat)
abbrev CutF := List AV → List En → Nat → Tree (Ex × List AV × List En × Nat)
structure Cut where
  ins : List Nat
  outs : Ex → List Nat
  κ : CutF
def slotsAt : List Nat → List AV → Nat → AV
  | d :: ds, a :: l, t => bif Nat.beq t d then a else slotsAt ds l t
  | _, _, _ => .any
/-- At a cut: what is reached from its slots, in a shape of its own; the rest stays. -/
def cutIn (avs : List AV) (L : List En) (b : Nat) : Option (List AV × List En × List En × Nat) :=
  (normL avs L b).bind fun r => (normB (keysL (grab 1000 (keysOf r.1) r.2.1).1) r.2.1 r.2.2).bind fun q =>
    match grab 1000 (keysOf r.1) q.1 with
    | (L1, L2) => bif allIds (memK L1) r.1 && enKeys (memK L1) L1 then some (r.1, L1, L2, q.2) else none
def useCut (ws : List Nat) (c : Cut) (st : St) : Tree (Ex × St) := match cutIn (c.ins.map st.sl) st.L st.b with
  | some (avs, L1, L2, b) => (c.κ (avs.map (AV.ren (newKey 0 noKeep L1))) (partE L1) (2 * L1.length)).bind fun r =>
      forceAs (r.2.1.map (AV.ren (backN (enIds L1) b))) fun os => forceL (r.2.2.1.map (En.ren (backN (enIds L1) b)) ++ L2) fun L => forceN (b + (r.2.2.2 - 2 * L1.length)) fun b =>
      .ret (r.1, ⟨fun t => bif memN ws t then slotsAt (c.outs r.1) os t else st.sl t, L, b⟩)
  | none => .fail
/-- Whatever code writes. -/
def wr : Code → List Nat
  | .region _ ops _ => dsts ops.toList
  | .seq a c => wr a ++ wr c
  | .cond _ a c => wr a ++ wr c
  | .block _ c | .loop c | .scope c => wr c
  | .rangeFunc _ ps a c => ps.toList ++ (wr a ++ wr c)
  | _ => []
def opC (sl : Nat → AV) (x : Operand) : AV := opA sl x
/-- A scope's label. -/
def labelOf : Code → Option Nat
  | .seq a b => match labelOf a with | some l => some l | none => labelOf b
  | .label l => some l
  | _ => none
/-- Under what a label's cut is found. -/
def labKey (l : Nat) : Nat := l + 100000
def evC (P : Program) (tab : Tab) (cuts : Nat → Option Cut) : Code → St → Tree (Ex × St)
  | .skip, st => .ret (.nm, st)
  | .exit id, st => .ret (.ex id, st)
  | .ret, st => .ret (.rt, st)
  | .region _ ops false, st => (evL P tab ops ops.toList st).bind fun st' => .ret (.nm, st')
  | .region _ ops true, st => (drawnT P tab ops st).strip.bind fun st' => .ret (.nm, st')
  | .seq a c, st => (evC P tab cuts a st).bind fun r => match r.1 with | .nm => evC P tab cuts c r.2 | e => .ret (e, r.2)
  | .cond x a c, st => match opA st.sl x with
    | .tt => evC P tab cuts a st
    | .ff => evC P tab cuts c st
    | .val .bool y => .ite y (evC P tab cuts a st) (evC P tab cuts c st)
    | _ => .fail
  | .block id c, st => match c with
    | .loop body => match cuts id with
      | some k => (useCut (wr body) k st).bind fun r => match r.1 with | .ex i => .ret (bif Nat.beq i id then .nm else .ex i, r.2) | e => .ret (e, r.2)
      | none => .fail
    | c => (evC P tab cuts c st).bind fun r => match r.1 with | .ex i => .ret (bif Nat.beq i id then .nm else .ex i, r.2) | e => .ret (e, r.2)
  | .label _, st => .ret (.nm, st)
  | .goto l, st => .ret (.go l, st)
  | .scope c, st => match labelOf c with
    | some l => match findLabel c l with
      | some rest => (evC P tab cuts c st).bind fun r => match r.1 with
        | .go l' => bif Nat.beq l' l then (match cuts (labKey l) with | some k => useCut (wr rest) k r.2 | none => .fail) else .fail
        | e => .ret (e, r.2)
      | none => .fail
    | none => .fail
  | _, _ => .fail
end Hyp
