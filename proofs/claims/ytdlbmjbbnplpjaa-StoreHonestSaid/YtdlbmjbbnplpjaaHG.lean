/- StoreHonest in plain words: what is put is got. -/
import Derived.Test.YtdlbmjbbnplpjaaHF
set_option linter.unusedVariables false
set_option linter.unusedSimpArgs false
namespace Go.Proofs.Ytdlbmjbbnplpjaa
open Hyp
/-- What stood under a name, oldest first. -/
abbrev vs (O : Ob) (nm : List UInt8) : List Vr := mgetD .str VT O nm []
/-- What stands there. -/
def lastB (O : Ob) (nm : List UInt8) : Option (List UInt8) := match (vs O nm).getLast? with
  | some (b, true) => some b
  | _ => none
theorem call_run {n : Nat} {v nm : List UInt8} {sz : Int} {cs : List Cl} (h : cs.length ≤ 1000) : (F_store_Store_call n v nm sz false [] cs).run = some (.inl (0, false, cs ++ [(v, nm, sz)])) := by
  have e : appI 3518437208883 cs [(v, nm, sz)] = some (cs ++ [(v, nm, sz)]) := by unfold appI; rw [if_pos (by simp; omega)]
  unfold F_store_Store_call
  simp only [Tree.run, cond_false, List.set_cons_zero, e, Option.bind_some]
  rfl
theorem clone_run {n : Nat} {b : List UInt8} (h : b.length ≤ 70000) : (F_slices_Clone___byte_byte_ n b).run = some b := by
  have e : appI 140737488355328 ([] : List UInt8) b = some b := by unfold appI; rw [if_pos (by simp; omega)]; rfl
  unfold F_slices_Clone___byte_byte_
  simp only [Tree.run, e, Option.bind_some]
theorem clone1_run {n : Nat} {b : List UInt8} (h : b.length ≤ 70000) : (F_slices_Clone___byte_byte__1 n b).run = some b := by
  have e : appI 140737488355328 ([] : List UInt8) b = some b := by unfold appI; rw [if_pos (by simp; omega)]; rfl
  unfold F_slices_Clone___byte_byte__1
  simp only [Tree.run, e, Option.bind_some]
theorem own_run {n : Nat} {b : List UInt8} (h : b.length ≤ 70000) : (F_w16_own n b).run = some b := by
  have e : appI 140737488355328 ([] : List UInt8) b = some b := by unfold appI; rw [if_pos (by simp; omega)]; rfl
  unfold F_w16_own
  simp only [Tree.run, e, Option.bind_some]
theorem whole_sub {α : Type} (l : List α) : (if ((l.length : Int) ≤ (l.length : Int)) ∧ ((l.length : Int) ≤ (l.length : Int)) then subI l (0 : Int) (l.length : Int) else none) = some l := by
  rw [if_pos ⟨Int.le_refl _, Int.le_refl _⟩]
  unfold subI
  rw [if_pos (by omega)]
  simp
theorem tight_app {α : Type} {N : Nat} {l : List α} {x : α} (h : l.length + 1 ≤ N) : tightI true N l [x] = some (l ++ [x]) := by
  unfold tightI
  simp only [List.isEmpty_cons, Bool.not_false, Bool.and_self, cond_true]
  unfold appI
  rw [if_pos (by simpa using h)]
theorem change_run {n : Nat} {v nm b : List UInt8} {O : Ob} {cs : List Cl} (h : cs.length ≤ 1000) (hv : (vs O nm).length ≤ 1000) :
    (F_store_Store_change n v nm false O [] cs b).run = some (.inr (false, mput .str VT O nm (vs O nm ++ [(b, true)]), [], cs ++ [(v, nm, (b.length : Int))])) := by
  unfold F_store_Store_change
  simp only [Tree.run, call_run h, Option.bind_some, decide_true, Bool.not_true, cond_false, List.set_cons_zero]
  rw [whole_sub]
  simp only [Option.bind_some]
  rw [tight_app (by show (vs O nm).length + 1 ≤ _; omega)]
  rfl
theorem change1_run {n : Nat} {v nm : List UInt8} {O : Ob} {cs : List Cl} (h : cs.length ≤ 1000) (hv : (vs O nm).length ≤ 1000) :
    (F_store_Store_change_1 n v nm false O [] cs).run = some (.inr (false, mput .str VT O nm (vs O nm ++ [([], false)]), [], cs ++ [(v, nm, 0)])) := by
  unfold F_store_Store_change_1
  simp only [Tree.run, call_run h, Option.bind_some, decide_true, Bool.not_true, cond_false, List.set_cons_zero]
  rw [whole_sub]
  simp only [Option.bind_some]
  rw [tight_app (by show (vs O nm).length + 1 ≤ _; omega)]
  rfl
theorem put_run {n : Nat} (hn : 60 ≤ n) {nm b : List UInt8} {O : Ob} {cs : List Cl} (h : cs.length ≤ 1000) (hv : (vs O nm).length ≤ 1000) (hb : b.length ≤ 70000) :
    (F_store_Store_Put n nm false O [] cs b).run = some (if named nm = true ∧ b.length ≤ 65536 then .inr (false, mput .str VT O nm (vs O nm ++ [(b, true)]), [], cs ++ [([112, 117, 116], nm, (b.length : Int))])
      else .inl (if named nm = true then 2 else 1, false, [], cs)) := by
  unfold F_store_Store_Put
  simp only [Tree.run, named_run (show 33 ≤ n by omega), Option.bind_some]
  cases hnm : named nm
  · simp
  · by_cases hb2 : b.length ≤ 65536
    · have e : decide ((65536 : Int) < (b.length : Int)) = false := by simp; omega
      simp only [Bool.not_true, cond_false, e, clone_run hb, Option.bind_some, change_run h hv, hb2, and_self, if_true]
      rfl
    · have e : decide ((65536 : Int) < (b.length : Int)) = true := by simp; omega
      simp only [Bool.not_true, cond_false, e, cond_true, hb2, and_false, if_false, if_true]
theorem del_run {n : Nat} (hn : 60 ≤ n) {nm : List UInt8} {O : Ob} {cs : List Cl} (h : cs.length ≤ 1000) (hv : (vs O nm).length ≤ 1000) :
    (F_store_Store_Del n nm false O [] cs).run = some (if named nm = true then .inr (false, mput .str VT O nm (vs O nm ++ [([], false)]), [], cs ++ [([100, 101, 108], nm, 0)]) else .inl (1, false, [], cs)) := by
  unfold F_store_Store_Del
  simp only [Tree.run, named_run (show 33 ≤ n by omega), Option.bind_some]
  cases hnm : named nm
  · simp
  · simp only [Bool.not_true, cond_false, Option.bind_some, change1_run h hv, if_true]
    rfl
theorem getLast_at {α : Type} {l : List α} (h : l ≠ []) : l[l.length - 1]? = l.getLast? := by
  rw [List.getLast?_eq_getElem?]
theorem stood_run {n : Nat} {nm : List UInt8} {O : Ob} (hv : (vs O nm).length ≤ 1000) : (F_store_Store_stood n nm 0 O).run = some (match (vs O nm).getLast? with | none => .inl () | some v => .inr (v.1, v.2)) := by
  unfold F_store_Store_stood
  change ((vs O nm).length ≤ 1000) at hv
  show (Tree.ite (decide ((0 : Int) < 0) || decide (((vs O nm).length : Int) ≤ 0)) _ _).run = _
  cases hl : (vs O nm).getLast? with
  | none =>
    have : vs O nm = [] := List.getLast?_eq_none_iff.1 hl
    rw [this]
    rfl
  | some v =>
    have hne : vs O nm ≠ [] := by rintro e; rw [e] at hl; cases hl
    have hpos : 0 < (vs O nm).length := List.length_pos_iff.2 hne
    have e : (decide ((0 : Int) < 0) || decide (((vs O nm).length : Int) ≤ 0)) = false := by simp; exact hne
    simp only [Tree.run, e, cond_false]
    have e2 : w64 (w64 (((vs O nm).length : Int) - 1) - 0) = (((vs O nm).length - 1 : Nat) : Int) := by
      rw [wrap_id (n := ((vs O nm).length : Int) - 1) (by omega) (by omega), wrap_id (by omega) (by omega)]; omega
    show (getI (vs O nm) (w64 (w64 (((vs O nm).length : Int) - 1) - 0))).bind _ = _
    rw [e2, getI_at' (by omega)]
    have e3 : (vs O nm)[(vs O nm).length - 1]'(by omega) = v := by
      have := getLast_at hne
      rw [hl, List.getElem?_eq_getElem (by omega)] at this
      exact Option.some.inj this
    rw [e3]
    rfl
def getS (O : Ob) (nm : List UInt8) (cs' : List Cl) : Int × List UInt8 × Bool × List Ch × List Cl := if named nm = true then (match lastB O nm with | some b => (0, b, false, [], cs') | none => (11, [], false, [], cs')) else (1, [], false, [], cs')
theorem get_run {n : Nat} (hn : 60 ≤ n) {nm : List UInt8} {O : Ob} {cs : List Cl} (h : cs.length ≤ 1000) (hv : (vs O nm).length ≤ 1000) (hb : ∀ b, lastB O nm = some b → b.length ≤ 65536) :
    ∃ cs' : List Cl, (F_store_Store_Get n nm false O [] cs).run = some (getS O nm cs') ∧ cs'.length ≤ cs.length + 1 := by
  unfold F_store_Store_Get getS
  simp only [Tree.run, named_run (show 33 ≤ n by omega), Option.bind_some]
  cases hnm : named nm
  · exact ⟨cs, by simp, by omega⟩
  · refine ⟨cs ++ [([103, 101, 116], nm, 0)], ?_, by simp⟩
    simp only [Bool.not_true, cond_false, call_run h, Option.bind_some, decide_true, stood_run hv, cond_true, if_true, run_l, Tree.run]
    unfold lastB at hb ⊢
    cases hl : (vs O nm).getLast? with
    | none => simp only [run_l, Tree.run, cond_false, cond_true]
    | some v =>
      obtain ⟨b, t⟩ := v
      cases t
      · simp only [run_r, Tree.run, cond_false, cond_true, Bool.not_false]
      · rw [hl] at hb
        have h1 := hb b rfl
        have e : decide ((65536 : Int) < (b.length : Int)) = false := by simp; omega
        simp only [run_r, Tree.run, Bool.not_true, cond_false, e, clone1_run (show b.length ≤ 70000 by omega), Option.bind_some]
/-- What is so behind i steps. -/
structure Inv (O : Ob) (cs : List Cl) (hv : List (List UInt8 × List UInt8)) (i : Nat) : Prop where
  same : ∀ nm, lastB O nm = mget .str (.list .u8) hv nm
  okO : (O.map (·.1)).Nodup
  okH : (hv.map (·.1)).Nodup
  vers : ∀ nm, (vs O nm).length ≤ i
  size : O.length ≤ i
  calls : cs.length ≤ i
  fine : ∀ nm b, lastB O nm = some b → named nm = true ∧ b.length ≤ 65536
theorem lastB_put {O : Ob} {nm z : List UInt8} {w : Vr} : lastB (mput .str VT O nm (vs O nm ++ [w])) z = if z = nm then (if w.2 = true then some w.1 else none) else lastB O z := by
  unfold lastB vs mgetD
  rw [mget_put]
  by_cases h : z = nm
  · simp only [h, if_true, Option.getD_some]
    obtain ⟨b, t⟩ := w
    cases t <;> simp
  · simp only [h, if_false]
theorem vs_put {O : Ob} {nm z : List UInt8} {w : Vr} {i : Nat} (h : ∀ nm, (vs O nm).length ≤ i) : (vs (mput .str VT O nm (vs O nm ++ [w])) z).length ≤ i + 1 := by
  have h1 := h nm
  have h2 := h z
  unfold vs mgetD at *
  rw [mget_put]
  by_cases hz : z = nm
  · simp only [hz, if_true, Option.getD_some, List.length_append, List.length_singleton]; omega
  · simp only [hz, if_false]; omega
theorem Inv.more {O : Ob} {cs cs' : List Cl} {hv : List (List UInt8 × List UInt8)} {i : Nat} (h : Inv O cs hv i) (hc : cs'.length ≤ cs.length + 1) : Inv O cs' hv (i + 1) :=
  ⟨h.same, h.okO, h.okH, fun nm => Nat.le_succ_of_le (h.vers nm), Nat.le_succ_of_le h.size, by have := h.calls; omega, h.fine⟩
theorem Inv.put {O : Ob} {cs : List Cl} {hv : List (List UInt8 × List UInt8)} {i : Nat} (h : Inv O cs hv i) {nm b : List UInt8} (hn : named nm = true) (hb : b.length ≤ 65536) (c : Cl) : Inv (mput .str VT O nm (vs O nm ++ [(b, true)])) (cs ++ [c]) (mput .str (.list .u8) hv nm b) (i + 1) where
  same z := by
    rw [lastB_put, mget_put, h.same z]
    rfl
  okO := mput_nodup (kt := .str) (vt := VT) h.okO
  okH := mput_nodup (kt := .str) (vt := .list .u8) h.okH
  vers z := vs_put h.vers
  size := Nat.le_trans (mput_len _ _ _) (Nat.succ_le_succ h.size)
  calls := by simpa using h.calls
  fine z b' hz := by
    rw [lastB_put] at hz
    by_cases e : z = nm
    · subst e
      simp only [if_true, Option.some.injEq] at hz
      exact ⟨hn, by rw [← hz]; exact hb⟩
    · rw [if_neg e] at hz
      exact h.fine z b' hz
theorem Inv.del {O : Ob} {cs : List Cl} {hv : List (List UInt8 × List UInt8)} {i : Nat} (h : Inv O cs hv i) {nm : List UInt8} (hn : named nm = true) (c : Cl) : Inv (mput .str VT O nm (vs O nm ++ [([], false)])) (cs ++ [c]) (mdel .str (.list .u8) hv nm) (i + 1) where
  same z := by
    rw [lastB_put, mget_del (kt := .str) (vt := .list .u8) h.okH, h.same z]
    rfl
  okO := mput_nodup (kt := .str) (vt := VT) h.okO
  okH := mdel_nodup (kt := .str) (vt := .list .u8) h.okH
  vers z := vs_put h.vers
  size := Nat.le_trans (mput_len _ _ _) (Nat.succ_le_succ h.size)
  calls := by simpa using h.calls
  fine z b' hz := by
    rw [lastB_put] at hz
    by_cases e : z = nm
    · rw [if_pos e] at hz
      cases hz
    · rw [if_neg e] at hz
      exact h.fine z b' hz
/-- Nothing that stands there: taking it away changes nothing. -/
theorem Inv.del0 {O : Ob} {cs : List Cl} {hv : List (List UInt8 × List UInt8)} {i : Nat} (h : Inv O cs hv i) {nm : List UInt8} (hn : named nm = false) : Inv O cs (mdel .str (.list .u8) hv nm) (i + 1) where
  same z := by
    rw [mget_del (kt := .str) (vt := .list .u8) h.okH, h.same z]
    by_cases e : z = nm
    · rw [if_pos e, ← h.same z]
      cases hl : lastB O z with
      | none => rfl
      | some b => have := (h.fine z b hl).1; rw [e, hn] at this; cases this
    · rw [if_neg e]
  okO := h.okO
  okH := mdel_nodup (kt := .str) (vt := .list .u8) h.okH
  vers z := Nat.le_succ_of_le (h.vers z)
  size := Nat.le_succ_of_le h.size
  calls := Nat.le_succ_of_le h.calls
  fine := h.fine
/-- What the loop comes to: no, or the store and what was put. -/
abbrev Out := (((Bool) × ((List (Int × Int × List UInt8 × List UInt8)) × (List (List UInt8 × List UInt8 × Int)))) ⊕ (((Bool) × ((List (List UInt8 × List (List UInt8 × Bool))) × ((List (Int × Int × List UInt8 × List UInt8)) × (List (List UInt8 × List UInt8 × Int))))) ⊕ (((Bool) × ((List (Int × Int × List UInt8 × List UInt8)) × (List (List UInt8 × List UInt8 × Int)))) ⊕ (((Bool) × ((List (Int × Int × List UInt8 × List UInt8)) × ((List (List UInt8 × List UInt8 × Int)) × (List (List UInt8 × List UInt8))))) ⊕ (((Bool) × ((List (List UInt8 × List (List UInt8 × Bool))) × ((List (Int × Int × List UInt8 × List UInt8)) × ((List (List UInt8 × List UInt8 × Int)) × (List (List UInt8 × List UInt8)))))) ⊕ (((Bool) × ((List (Int × Int × List UInt8 × List UInt8)) × ((List (List UInt8 × List UInt8 × Int)) × (List (List UInt8 × List UInt8))))) ⊕ (((Bool) × ((List (List UInt8 × List (List UInt8 × Bool))) × ((List (Int × Int × List UInt8 × List UInt8)) × ((List (List UInt8 × List UInt8 × Int)) × (List (List UInt8 × List UInt8)))))) ⊕ ((Bool) × ((List (List UInt8 × List (List UInt8 × Bool))) × ((List (Int × Int × List UInt8 × List UInt8)) × (List (List UInt8 × List UInt8 × Int))))))))))))
/-- What it comes to, told whole. -/
def dec (O : Ob) (hv : List (List UInt8 × List UInt8)) : Out → Option (Bool × Ob × List Ch × List Cl × List (List UInt8 × List UInt8))
  | .inl _ => none
  | .inr (.inl _) => none
  | .inr (.inr (.inl q)) => some (q.1, O, q.2.1, q.2.2, hv)
  | .inr (.inr (.inr (.inl _))) => none
  | .inr (.inr (.inr (.inr (.inl _)))) => none
  | .inr (.inr (.inr (.inr (.inr (.inl q))))) => some (q.1, O, q.2.1, q.2.2.1, q.2.2.2)
  | .inr (.inr (.inr (.inr (.inr (.inr (.inl q)))))) => some (q.1, q.2.1, q.2.2.1, q.2.2.2.1, q.2.2.2.2)
  | .inr (.inr (.inr (.inr (.inr (.inr (.inr q)))))) => some (q.1, q.2.1, q.2.2.1, q.2.2.2, hv)
/-- All is well. -/
def Fin (i : Nat) (o : Option (Bool × Ob × List Ch × List Cl × List (List UInt8 × List UInt8))) : Prop := match o with
  | none => False
  | some q => q.1 = false ∧ q.2.2.1 = [] ∧ Inv q.2.1 q.2.2.2.1 q.2.2.2.2 i
theorem loop_run {n : Nat} (hn : 60 ≤ n) (c : Bool) (l : List Dst) (hl : l.length ≤ 40) (hf : ∀ d ∈ l, Fewd d) : ∀ (k i : Nat) (O : Ob) (cs : List Cl) (hv : List (List UInt8 × List UInt8)) (g u w : Int), l.length < i + k → i ≤ l.length → Inv O cs hv i →
    ∃ r, (F_w16_StoreHonest_l0 n k c l (l.length : Int) (i : Int) g u w false O [] cs hv).run = some r ∧ Fin l.length (dec O hv r)
  | 0, i, O, cs, hv, g, u, w, h, h', hI => by omega
  | k + 1, i, O, cs, hv, g, u, w, h, h', hI => by
    unfold F_w16_StoreHonest_l0
    by_cases hi : i < l.length
    · have e1 : decide ((i : Int) < (l.length : Int)) = true := by simp; omega
      have hd := hf l[i] (List.getElem_mem hi)
      have hc1 : cs.length ≤ 1000 := by have := hI.calls; omega
      have hv1 : ∀ nm, (vs O nm).length ≤ 1000 := fun nm => by have := hI.vers nm; omega
      have hw := wrap_succ hi (show l.length ≤ 9223372036854775807 by omega)
      simp only [Tree.run, e1, cond_true, getI_at' hi, Option.bind_some]
      generalize l[i] = d at hd
      obtain ⟨vb, nm, B, mk, chs⟩ := d
      have hB : B.length ≤ 70000 := hd.1
      rw [hw]
      by_cases hvb : vb = 0
      · simp only [hvb, decide_true, cond_true, own_run hB, Option.bind_some, put_run hn hc1 (hv1 nm) hB]
        by_cases hnm : named nm = true ∧ B.length ≤ 65536
        · simp only [if_pos hnm, run_r, Tree.run, cond_true]
          obtain ⟨r, g1, g2⟩ := loop_run hn c l hl hf k (i + 1) _ _ _ g u w (by omega) hi (hI.put hnm.1 hnm.2 ([112, 117, 116], nm, (B.length : Int)))
          rw [g1]
          rcases r with q | q | q | q | q | q | q | q <;> exact ⟨_, rfl, g2⟩
        · have e0 : decide ((if named nm = true then (2 : Int) else 1) = 0) = false := by split <;> rfl
          have e2 : (named nm && decide ((B.length : Int) ≤ 65536)) = false := by
            rw [Bool.eq_false_iff]
            intro h
            simp only [Bool.and_eq_true, decide_eq_true_eq] at h
            exact hnm ⟨h.1, by omega⟩
          simp only [if_neg hnm, run_l, Tree.run, cond_false, e0, named_run (show 33 ≤ n by omega), Option.bind_some, e2]
          obtain ⟨r, g1, g2⟩ := loop_run hn c l hl hf k (i + 1) O cs hv g u w (by omega) hi (hI.more (Nat.le_succ _))
          rw [g1]
          rcases r with q | q | q | q | q | q | q | q <;> exact ⟨_, rfl, g2⟩
      · simp only [decide_eq_false hvb, cond_false]
        by_cases hvb1 : vb = 1
        · simp only [hvb1, decide_true, cond_true, del_run hn hc1 (hv1 nm), Option.bind_some]
          cases hnm : named nm
          · simp only [Bool.false_eq_true, if_false, run_l, Tree.run, named_run (show 33 ≤ n by omega), hnm, Option.bind_some]
            obtain ⟨r, g1, g2⟩ := loop_run hn c l hl hf k (i + 1) O cs _ g u w (by omega) hi (hI.del0 hnm)
            have e0 : (!(decide ((1 : Int) = 0) == false)) = false := by decide
            rw [e0, cond_false, g1]
            rcases r with q | q | q | q | q | q | q | q <;> exact ⟨_, rfl, g2⟩
          · simp only [if_true, run_r, Tree.run, named_run (show 33 ≤ n by omega), hnm, Option.bind_some]
            obtain ⟨r, g1, g2⟩ := loop_run hn c l hl hf k (i + 1) _ _ _ g u w (by omega) hi (hI.del hnm ([100, 101, 108], nm, 0))
            have e0 : (!(true == true)) = false := by decide
            rw [e0, cond_false, g1]
            rcases r with q | q | q | q | q | q | q | q <;> exact ⟨_, rfl, g2⟩
        · obtain ⟨cs', q1, q2⟩ := get_run hn hc1 (hv1 nm) (fun b hb => (hI.fine nm b hb).2)
          simp only [decide_eq_false hvb1, cond_false, q1, Option.bind_some, named_run (show 33 ≤ n by omega)]
          obtain ⟨r, g1, g2⟩ := loop_run hn c l hl hf k (i + 1) O cs' hv g u w (by omega) hi (hI.more q2)
          have hs := hI.same nm
          unfold getS
          cases hnm : named nm
          · have hno : mget .str (.list .u8) hv nm = none := by
              rw [← hs]
              cases hl2 : lastB O nm with
              | none => rfl
              | some b => have := (hI.fine nm b hl2).1; rw [hnm] at this; cases this
            have hD : mgetD .str (.list .u8) hv nm [] = [] := by unfold mgetD; rw [hno]; rfl
            simp only [Bool.false_eq_true, if_false, hno, hD]
            have e0 : (!(decide ((1 : Int) = 0) == (Option.isSome (none : Option (List UInt8))))) = false := by decide
            rw [e0]
            simp only [cond_false, decide_true, Bool.not_true, Bool.false_and, g1, Option.bind_some]
            rcases r with q | q | q | q | q | q | q | q <;> exact ⟨_, rfl, g2⟩
          · simp only [if_true]
            cases hl2 : lastB O nm with
            | none =>
              rw [hl2] at hs
              have hD : mgetD .str (.list .u8) hv nm [] = [] := by unfold mgetD; rw [← hs]; rfl
              simp only [← hs, hD]
              have e0 : (!(decide ((11 : Int) = 0) == (Option.isSome (none : Option (List UInt8))))) = false := by decide
              rw [e0]
              simp only [cond_false, decide_true, Bool.not_true, Bool.and_false, g1, Option.bind_some]
              rcases r with q | q | q | q | q | q | q | q <;> exact ⟨_, rfl, g2⟩
            | some b =>
              rw [hl2] at hs
              have hD : mgetD .str (.list .u8) hv nm [] = b := by unfold mgetD; rw [← hs]; rfl
              simp only [← hs, hD]
              simp only [cond_false, decide_true, Bool.not_true, Option.isSome_some, beq_self_eq_true, Bool.false_and, Bool.and_false, g1, Option.bind_some]
              rcases r with q | q | q | q | q | q | q | q <;> exact ⟨_, rfl, g2⟩
    · have e1 : decide ((i : Int) < (l.length : Int)) = false := by simp; omega
      refine ⟨.inr (.inr (.inl (false, [], cs))), by simp only [Tree.run, e1, cond_false], rfl, rfl, ?_⟩
      have : i = l.length := by omega
      rw [← this]; exact hI
end Go.Proofs.Ytdlbmjbbnplpjaa
