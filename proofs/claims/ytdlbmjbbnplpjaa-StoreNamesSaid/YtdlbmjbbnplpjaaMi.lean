/- Stores; elements; slices that are read, appended to, made. -/
import Derived.Test.YtdlbmjbbnplpjaaMh
set_option linter.unusedVariables false
set_option linter.unusedSimpArgs false
namespace Hyp
open Go
/-- An entry's content, written anew. -/
def wrE (L : List En) (k b : Nat) (c : Cont) : List En := setE L k ⟨k, b, c⟩
/-- A datum of e with another part at an offset. -/
def partPut (e : Ty) (y : e.den) (p : AV) (eo : Nat) : Option e.den := (putOff p (explode e y) eo).bind fun a => implode e a
def szIs (P : Program) (T : TypeId) (s : Nat) : Bool := match (P.info? T).map (·.size) with | some s' => Nat.beq s' s | none => false
theorem szIs_ok {P : Program} {T : TypeId} {s : Nat} (h : szIs P T s = true) : SizeIs P T s := by
  unfold szIs at h
  split at h
  · rename_i s' hs; rw [← Nat.eq_of_beq_eq_true h]; exact .of hs
  · cases h
def storeT (P : Program) (T : TypeId) (x p : AV) (L : List En) (b : Nat) : Tree MR := bif p.okC && szIs P T p.csz then (match x with
  | .ptr k o => match boxOf L k with
    | some a => match putOff p a o with
      | some a' => .ret (.und, wrE L k b (.box a'), b + 1)
      | none => .fail
    | none => .fail
  | .rowp k e i eo => match rowOf L k e with
    | some xs => bif Nat.blt 0 e.sz then .get xs[i]? fun y => (match partPut e y p eo with
      | some y' => .ret (.und, wrE L k b (.row e (xs.set i y')), b + 1)
      | none => .fail) else .fail
    | none => .fail
  | .pel k off e N i eo => match boxOf L k with
    | some a => match arrIn a off e N with
      | some xs => .get xs[i]? fun y => (match partPut e y p eo with
        | some y' => match putOff (.val (.arr N e) (xs.set i y')) a off with
          | some a' => .ret (.und, wrE L k b (.box a'), b + 1)
          | none => .fail
        | none => .fail)
      | none => .fail
    | none => .fail
  | _ => .fail) else .fail
section
variable {P : Program} {ty T U : TypeId} {f : Fr} {w w' : World} {B : Base} {ν ν' : Nms} {b b' : Nat} {L L' : List En} {F : List Ent} {x y : Operand} {p q : AV} {r : Operand → AV}
theorem findSet {k : Nat} {i vid : Nat} {c : Cont} : boxOf L k = none ∨ True := .inr trivial
theorem boxOf_set {k : Nat} {a : AV} (H : Here B ν b w L F) (h : boxOf L k = some a) : ∃ (i vid : Nat), L[i]? = some (En.mk k vid (.box a)) ∧ (ents ν L ++ F)[i]? = some (bx (ν k).g (ν vid).cs) ∧ avC ν b (B.Z (ents ν L ++ F)) w a (ν vid).cs ∧ k < b ∧ ∀ e, setE L k e = L.set i e := by
  unfold boxOf at h
  split at h
  · rename_i k' vid a' hf
    obtain ⟨i, h1, h2, h3⟩ := findE_ok hf
    cases h
    simp only at h2
    subst h2
    have hf := H.fact _ (List.mem_of_getElem? h1)
    exact ⟨i, vid, h1, ents_at (ν := ν) (F := F) h1, hf.2.2, hf.1, h3⟩
  · cases h
theorem rowOf_set {k : Nat} {e : Ty} {xs : List e.den} (H : Here B ν b w L F) (h : rowOf L k e = some xs) : ∃ (i vid : Nat), L[i]? = some (En.mk k vid (.row e xs)) ∧ (ents ν L ++ F)[i]? = some (row e.sz (ν k).v xs.length (ν vid).cs) ∧
    (RV xs.length e.rty).rel (B.Z (ents ν L ++ F)) w xs (ν vid).cs ∧ k < b ∧ ∀ e, setE L k e = L.set i e := by
  unfold rowOf at h
  split at h
  · rename_i k' vid e' xs' hf
    obtain ⟨i, h1, h2, h3⟩ := findE_ok hf
    obtain ⟨he, hx⟩ := castTy_ok (t := .list _) (t' := .list _) h
    cases he
    cases hx
    simp only at h2
    subst h2
    have hfact := H.fact _ (List.mem_of_getElem? h1)
    exact ⟨i, vid, h1, ents_at (ν := ν) (F := F) h1, hfact.2.2, hfact.1, h3⟩
  · cases h
/-- A box's cells become others. -/
theorem o_storeBox {ys : List Value} {a' : AV} {i k vid off : Nat} {a : AV} (H : Here B ν b w L F) (h1 : L[i]? = some (En.mk k vid (.box a))) (h2 : (ents ν L ++ F)[i]? = some (bx (ν k).g (ν vid).cs)) (hk : k < b) (hset : ∀ e, setE L k e = L.set i e)
    (hx : ev f x = .pointer (some ⟨(ν k).g, off, none⟩)) (hv : (ev f y).cells.toList = ys) (hs : SizeIs P T ys.length) (hy : ones ys = true) (hl : off + ys.length ≤ (ν vid).cs.length)
    (hf : avC ν b (B.Z (ents ν L ++ F)) w a' (splice (ν vid).cs off ys)) : OpW P (.store T x y) ty f w (Gives B ν b w L F (b + 1) (wrE L k b (.box a')) .und) := by
  refine o_store h2 H.own hx rfl hv hs hy hl rfl rfl fun w' hw => ?_
  have hl := H.set (m := ⟨0, undef, splice (ν vid).cs off ys⟩) (e' := ⟨k, b, .box a'⟩) h1 (Nat.lt_succ_of_lt hk) rfl (w' := w') (by
    show Own _ _ _ (List.set _ i (bx (updN ν b _ k).g (updN ν b _ b).cs))
    rw [updN_same, updN_lt _ _ _ _ hk]; exact hw) (fun Z' h => hf.later h)
  unfold wrE
  rw [hset]
  exact ⟨_, hl, rfl⟩
theorem splice_mid {cs ys zs : List Value} {o i s : Nat} (h : o + s ≤ cs.length) (hi : i + ys.length ≤ s) (hz : zs = splice ((cs.drop o).take s) i ys) : splice cs o zs = splice cs (o + i) ys := by
  have hl : ((cs.drop o).take s).length = s := by rw [List.length_take, List.length_drop]; omega
  have hzl : zs.length = s := by rw [hz, splice_length _ _ _ (by omega), hl]
  apply List.ext_getElem?
  intro j
  rw [splice_get _ _ _ (by omega), splice_get _ _ _ (by omega)]
  by_cases h1 : o ≤ j ∧ j < o + zs.length
  · rw [if_pos h1, hz, splice_get _ _ _ (by omega)]
    by_cases h2 : i ≤ j - o ∧ j - o < i + ys.length
    · rw [if_pos h2, if_pos (by omega)]
      congr 1; omega
    · rw [if_neg h2, if_neg (by omega), List.getElem?_take, if_pos (by omega), List.getElem?_drop]
      congr 1; omega
  · rw [if_neg h1, if_neg (by omega)]
theorem storeT_ok (H : Here B ν b w L F) (hx : slotR ν b (B.Z (ents ν L ++ F)) w q (ev f x)) (hy : slotR ν b (B.Z (ents ν L ++ F)) w p (ev f y)) : M P (.store T x y) ty f B ν b w L F (storeT P T q p L b) := by
  intro a L' b' ha
  unfold storeT at ha
  cases hc : (p.okC && szIs P T p.csz) <;> rw [hc] at ha
  · cases ha
  simp only [Bool.and_eq_true] at hc
  obtain ⟨k1, k2, k3⟩ := AV.okC_ok hc.1
  have hcx := hy.cells k1 k2 k3
  have hlen := hcx.len
  have hsz : SizeIs P T (ev f y).cells.toList.length := by rw [hlen]; exact szIs_ok hc.2
  have hones := hcx.ones
  simp only [cond_true] at ha
  split at ha
  · rename_i k o
    split at ha
    · rename_i a0 hb
      split at ha
      · rename_i a' hp
        cases ha
        obtain ⟨i, vid, h1, h2, h3, hk, hset⟩ := boxOf_set H hb
        obtain ⟨g1, g2⟩ := putOff_ok hcx h3 hp
        exact o_storeBox H h1 h2 hk hset (sl_ptr hx).2 rfl hsz hones g2 g1
      · cases ha
    · cases ha
  · rename_i k e i eo
    split at ha
    · rename_i xs hr
      cases h0 : Nat.blt 0 e.sz <;> rw [h0] at ha
      · cases ha
      · have h0 : 0 < e.sz := Nat.le_of_ble_eq_true h0
        simp only [cond_true] at ha
        obtain ⟨z, hz, ha⟩ := bindE ha
        dsimp only at ha
        split at ha
        · rename_i y' hp
          cases ha
          obtain ⟨i', vid, h1, h2, h3, hk, hset⟩ := rowOf_set H hr
          obtain ⟨hkb, ad, m, c, g1, g2⟩ := hx
          have g3 := List.head_eq_of_cons_eq (show [ev f x] = [_] from g2)
          have hi : i < xs.length := (List.getElem?_eq_some_iff.1 hz).1
          have hl : (ν vid).cs.length = xs.length * e.rty.sz := h3.2.1
          have h6 := h3.2.2.2 i z hz
          have hle : (i + 1) * e.sz ≤ xs.length * e.sz := Nat.mul_le_mul_right _ hi
          rw [Nat.succ_mul] at hle
          rw [e.sz_rty] at hl h6
          unfold partPut at hp
          obtain ⟨a', hp1, hp2⟩ := bindE hp
          obtain ⟨q1, q2⟩ := putOff_ok hcx (explode_ok e h6) hp1
          have q3 := implode_ok e q1 hp2
          have hdl : (((ν vid).cs.drop (i * e.sz)).take e.sz).length = e.sz := by rw [List.length_take, List.length_drop]; omega
          rw [hdl] at q2
          have q4 := RV_set h3 hi q3
          rw [e.sz_rty] at q4
          rw [splice_mid (s := e.sz) (by omega) q2 rfl] at q4
          refine o_storeRow (i := i * e.sz + eo) h2 H.own (by rw [g3, g1]; rfl) rfl rfl hsz hones (by omega) (by omega) rfl rfl fun w' hw => ?_
          have hll := H.set (m := ⟨0, undef, splice (ν vid).cs (i * e.sz + eo) (ev f y).cells.toList⟩) (e' := ⟨k, b, .row e (xs.set i y')⟩) h1 (Nat.lt_succ_of_lt hk) rfl (w' := w') (by
            show Own _ _ _ (List.set _ i' (row e.sz (updN ν b _ k).v (xs.set i y').length (updN ν b _ b).cs))
            rw [updN_same, updN_lt _ _ _ _ hk, List.length_set]; exact hw) (fun Z' h => by
              show (RV (xs.set i y').length e.rty).rel _ _ _ _
              rw [List.length_set]
              exact (RV xs.length e.rty).go q4 h.mem)
          unfold wrE
          rw [hset]
          exact ⟨_, hll, rfl⟩
        · cases ha
    · cases ha
  · rename_i k off e N i eo
    split at ha
    · rename_i a0 hb
      split at ha
      · rename_i xs hr
        obtain ⟨z, hz, ha⟩ := bindE ha
        dsimp only at ha
        split at ha
        · rename_i y' hp
          split at ha
          · rename_i a' hpo
            cases ha
            obtain ⟨i', vid, h1, h2, h3, hk, hset⟩ := boxOf_set H hb
            obtain ⟨h4, h5⟩ := arrIn_ok h3 hr
            have hi : i < N := by have := (List.getElem?_eq_some_iff.1 hz).1; rw [h4.1] at this; exact this
            have hle : (i + 1) * e.sz ≤ N * e.sz := Nat.mul_le_mul_right _ hi
            rw [Nat.succ_mul] at hle
            have h6 := h4.2.2.2 i z hz
            rw [e.sz_rty] at h6
            unfold partPut at hp
            obtain ⟨a2, hp1, hp2⟩ := bindE hp
            obtain ⟨q1, q2⟩ := putOff_ok hcx (explode_ok e h6) hp1
            have q3 := implode_ok e q1 hp2
            have hdl0 : (((ν vid).cs.drop off).take (N * e.sz)).length = N * e.sz := by rw [List.length_take, List.length_drop]; omega
            have hdl : (((((ν vid).cs.drop off).take (N * e.sz)).drop (i * e.sz)).take e.sz).length = e.sz := by rw [List.length_take, List.length_drop, hdl0]; omega
            rw [hdl] at q2
            have q4 := RV_set h4 hi q3
            rw [e.sz_rty] at q4
            rw [splice_mid (s := e.sz) (by omega) q2 rfl] at q4
            have hone : (i * e.sz + eo) + (ev f y).cells.toList.length ≤ N * e.sz := by omega
            obtain ⟨g1, g2⟩ := putOff_ok (y := .val (.arr N e) (xs.set i y')) q4 h3 hpo
            rw [splice_mid (s := N * e.sz) (by omega) hone rfl] at g1
            refine o_storeBox (off := off + (i * e.sz + eo)) H h1 h2 hk hset (by rw [(sl_pel hx).2, Nat.add_assoc]) rfl hsz hones (by omega) g1
          · cases ha
        · cases ha
      · cases ha
    · cases ha
  · cases ha
end
end Hyp
