/- IndexMerges in plain words. -/
import Derived.Test.YtdlbmjbbnplpjaaXM
set_option linter.unusedVariables false
set_option linter.unusedSimpArgs false
namespace Go.Proofs.Ytdlbmjbbnplpjaa
open Hyp
theorem merge_run {n : Nat} {x y : Mp} (hy : InvM y) (hn : y.length < n) : (F_index_Index_Merge_1 n x y).Runs fun r => (Clash x y ∧ decA x r = (19, x)) ∨ (¬ Clash x y ∧ ∃ w, decA x r = (0, x ++ w) ∧ w.Perm (y.filter (isNew x))) := by
  unfold F_index_Index_Merge_1
  refine loops_run hy hn (fun hc r => .inl ⟨hc, rfl⟩) fun hno r w h1 h2 => ?_
  cases r with
  | inl u => exact .inr ⟨hno, w, congrArg (Prod.mk (0 : Int)) h1, h2⟩
  | inr q => exact .inr ⟨hno, w, congrArg (Prod.mk (0 : Int)) h1, h2⟩
/-- The document's merge. -/
def mergeR (xl : List Ent) : List Ent → List Ent → Option (List Ent)
  | [], out => some out
  | e :: l, out => match look e.1 e.2.1 xl with
    | some v => if v = e.2.2 then mergeR xl l out else none
    | none => mergeR xl l (out ++ [e])
theorem mergeR_eq {x : Mp} : ∀ (l : Mp) (out : List Ent), ((∃ p ∈ l, ¬ okP x p) ∧ mergeR (flat x) (flat l) out = none) ∨ ((∀ p ∈ l, okP x p) ∧ mergeR (flat x) (flat l) out = some (out ++ flat (l.filter (isNew x))))
  | [], out => .inr ⟨(fun p hp => (List.not_mem_nil hp).elim), (by show some out = _; simp [flat])⟩
  | p :: l, out => by
    have e : mergeR (flat x) (flat (p :: l)) out = match mg x p.1 with | some v => if v = p.2 then mergeR (flat x) (flat l) out else none | none => mergeR (flat x) (flat l) (out ++ [(p.1.1, p.1.2, p.2)]) := by
      have := mget_look p.1.1 p.1.2 x
      show (match look p.1.1 p.1.2 (flat x) with | some v => if v = p.2 then mergeR (flat x) (flat l) out else none | none => mergeR (flat x) (flat l) (out ++ [(p.1.1, p.1.2, p.2)])) = _
      rw [← this]
    rw [e]
    cases hx : mg x p.1 with
    | none =>
      have hnew : isNew x p = true := by unfold isNew; rw [hx]; rfl
      have hp : okP x p := fun v hv => by rw [hx] at hv; cases hv
      rcases mergeR_eq l (out ++ [(p.1.1, p.1.2, p.2)]) with ⟨⟨q, hq, h1⟩, h2⟩ | ⟨h1, h2⟩
      · exact .inl ⟨⟨q, .tail _ hq, h1⟩, h2⟩
      · refine .inr ⟨fun q hq => ?_, ?_⟩
        · rcases List.mem_cons.1 hq with rfl | hq
          · exact hp
          · exact h1 q hq
        · rw [List.filter_cons, hnew, if_pos rfl]
          simp only [h2]
          simp [flat]
    | some v =>
      have hnew : isNew x p = false := by unfold isNew; rw [hx]; rfl
      by_cases hv : v = p.2
      · have hp : okP x p := fun u hu => by rw [hx] at hu; cases hu; exact hv
        simp only [if_pos hv]
        rw [List.filter_cons, hnew]
        rcases mergeR_eq l out with ⟨⟨q, hq, h1⟩, h2⟩ | ⟨h1, h2⟩
        · exact .inl ⟨⟨q, .tail _ hq, h1⟩, h2⟩
        · refine .inr ⟨fun q hq => ?_, h2⟩
          rcases List.mem_cons.1 hq with rfl | hq
          · exact hp
          · exact h1 q hq
      · simp only [if_neg hv]
        exact .inl ⟨⟨p, .head _, fun hp => hv (hp v hx)⟩, trivial⟩
abbrev Out1 := ((List Ent) × (List Ent)) ⊕ ((List Ent) ⊕ ((List Ent) ⊕ (List Ent)))
def dec1 : Out1 → Option (List Ent)
  | .inl _ => none
  | .inr (.inl q) => some q
  | .inr (.inr (.inl q)) => some q
  | .inr (.inr (.inr _)) => none
abbrev Out0 := Unit ⊕ ((List Ent) ⊕ ((List Ent) ⊕ (Unit ⊕ Unit)))
def dec0 (o : List Ent) : Out0 → Option (List Ent)
  | .inl _ => none
  | .inr (.inl _) => none
  | .inr (.inr (.inl q)) => some q
  | .inr (.inr (.inr (.inl _))) => some o
  | .inr (.inr (.inr (.inr _))) => none
section
variable {n : Nat} (c c2 : Bool) (xl yl : List Ent) (hx : xl.length < n) (hx2 : xl.length ≤ 100000) (hy2 : yl.length ≤ 100000)
include hx hx2 hy2
theorem rmerge1 (z : List Ent) : ∀ (k i : Nat) (out : List Ent), out.length ≤ xl.length + i → yl.length < i + k → i ≤ yl.length → ∃ r, (F_r20_Index_Merge_l0_1 n k (i : Int) c xl c2 yl z out).run = some r ∧ dec1 r = mergeR xl (yl.drop i) out
  | 0, i, out, ho, h, h' => by omega
  | k + 1, i, out, ho, h, h' => by
    unfold F_r20_Index_Merge_l0_1
    by_cases hi : i < yl.length
    · have e1 : decide ((i : Int) < (yl.length : Int)) = true := by simp; omega
      have e2 := find_run (n := n) yl[i].1 c xl yl[i].2.1 (by omega) hx
      have a1 : appI 1954687338268 ([] : List Ent) out = some out := kap (by simp; omega)
      have a2 : appI 1954687338268 out [(yl[i].1, yl[i].2.1, yl[i].2.2.1, yl[i].2.2.2.1, yl[i].2.2.2.2)] = some (out ++ [yl[i]]) := kap (by simp; omega)
      simp only [Tree.run, e1, cond_true, getI_at' hi, Option.bind_some, e2]
      rw [List.drop_eq_getElem_cons hi]
      unfold mergeR
      rw [wrap_succ hi (by omega)]
      cases hl : look yl[i].1 yl[i].2.1 xl with
      | none =>
        simp only [cond_false, Bool.not_false, cond_true, a1, a2, Option.bind_some, List.set_cons_zero]
        obtain ⟨r, g1, g2⟩ := rmerge1 z k (i + 1) (out ++ [yl[i]]) (by simp; omega) (by omega) hi
        rw [g1]
        rcases r with q | q | q | q <;> exact ⟨_, rfl, g2⟩
      | some v =>
        have ev : eqV T2 (v.1, v.2.1, v.2.2) (yl[i].2.2.1, yl[i].2.2.2.1, yl[i].2.2.2.2) = decide (v = yl[i].2.2) := by
          rw [Bool.eq_iff_iff, decide_eq_true_eq]; exact eqV_iff T2 v yl[i].2.2
        simp only [cond_true, Bool.not_true, cond_false, ev]
        by_cases hv : v = yl[i].2.2
        · simp only [decide_eq_true hv, Bool.not_true, cond_false, if_pos hv]
          obtain ⟨r, g1, g2⟩ := rmerge1 z k (i + 1) out (by omega) (by omega) hi
          rw [g1]
          rcases r with q | q | q | q <;> exact ⟨_, rfl, g2⟩
        · simp only [decide_eq_false hv, Bool.not_false, cond_true, if_neg hv]
          exact ⟨_, rfl, rfl⟩
    · have e1 : decide ((i : Int) < (yl.length : Int)) = false := by simp; omega
      refine ⟨.inr (.inl out), by simp only [Tree.run, e1, cond_false], ?_⟩
      rw [List.drop_eq_nil_iff.2 (by omega)]
      rfl
theorem rmerge0 (z : List Ent) (c3 : Bool) : ∀ (k i : Nat), yl.length < i + k → i ≤ yl.length → ∃ r, (F_r20_Index_Merge_l0 n k (i : Int) c xl c2 yl z c3 xl).run = some r ∧ dec0 xl r = mergeR xl (yl.drop i) xl
  | 0, i, h, h' => by omega
  | k + 1, i, h, h' => by
    unfold F_r20_Index_Merge_l0
    by_cases hi : i < yl.length
    · have e1 : decide ((i : Int) < (yl.length : Int)) = true := by simp; omega
      have e2 := find_run (n := n) yl[i].1 c xl yl[i].2.1 (by omega) hx
      have a1 : appI 1954687338268 ([] : List Ent) xl = some xl := kap (by simp; omega)
      have a2 : appI 1954687338268 xl [(yl[i].1, yl[i].2.1, yl[i].2.2.1, yl[i].2.2.2.1, yl[i].2.2.2.2)] = some (xl ++ [yl[i]]) := kap (by simp; omega)
      simp only [Tree.run, e1, cond_true, getI_at' hi, Option.bind_some, e2]
      rw [List.drop_eq_getElem_cons hi]
      unfold mergeR
      rw [wrap_succ hi (by omega)]
      cases hl : look yl[i].1 yl[i].2.1 xl with
      | none =>
        simp only [cond_false, Bool.not_false, cond_true, a1, a2, Option.bind_some, List.set_cons_zero]
        obtain ⟨r, g1, g2⟩ := rmerge1 c c2 xl yl hx hx2 hy2 z k (i + 1) (xl ++ [yl[i]]) (by simp) (by omega) hi
        rw [g1]
        rcases r with q | q | q | q <;> exact ⟨_, rfl, g2⟩
      | some v =>
        have ev : eqV T2 (v.1, v.2.1, v.2.2) (yl[i].2.2.1, yl[i].2.2.2.1, yl[i].2.2.2.2) = decide (v = yl[i].2.2) := by
          rw [Bool.eq_iff_iff, decide_eq_true_eq]; exact eqV_iff T2 v yl[i].2.2
        simp only [cond_true, Bool.not_true, cond_false, ev]
        by_cases hv : v = yl[i].2.2
        · simp only [decide_eq_true hv, Bool.not_true, cond_false, if_pos hv]
          obtain ⟨r, g1, g2⟩ := rmerge0 z c3 k (i + 1) (by omega) hi
          rw [g1]
          rcases r with q | q | q | q | q <;> exact ⟨_, rfl, g2⟩
        · simp only [decide_eq_false hv, Bool.not_false, cond_true, if_neg hv]
          exact ⟨_, rfl, rfl⟩
    · have e1 : decide ((i : Int) < (yl.length : Int)) = false := by simp; omega
      refine ⟨.inr (.inr (.inr (.inl ()))), by simp only [Tree.run, e1, cond_false], ?_⟩
      rw [List.drop_eq_nil_iff.2 (by omega)]
      rfl
theorem rmerge_run (hy : yl.length < n) : ∃ c', (F_r20_Index_Merge n c xl c2 yl).run = some (c', match mergeR xl yl xl with | none => (xl, (19 : Int)) | some o => (o, 0)) := by
  unfold F_r20_Index_Merge
  obtain ⟨r, g1, g2⟩ := rmerge0 c c2 xl yl hx hx2 hy2 [] c n 0 (by omega) (by omega)
  rw [List.drop_zero] at g2
  rw [show ((0 : Nat) : Int) = (0 : Int) from rfl] at g1
  rw [← g2]
  simp only [Tree.run, g1, Option.bind_some]
  rcases r with q | q | q | q | q <;> exact ⟨_, rfl⟩
end
theorem merges_run {n : Nat} (hA : (F_w20_awake n).run = some true) (hn : 1000 ≤ n) (ca cb : Bool) (a b : List Ent) (ha : a.length ≤ 9223372036854775807 ∧ (∀ e ∈ a, e.2.2.1.length < n) ∧ (∀ e ∈ a, e.2.2.1.length ≤ 9223372036854775807) ∧ ∀ e ∈ a, e.2.1.length = 32)
    (hb : b.length ≤ 9223372036854775807 ∧ (∀ e ∈ b, e.2.2.1.length < n) ∧ (∀ e ∈ b, e.2.2.1.length ≤ 9223372036854775807) ∧ ∀ e ∈ b, e.2.1.length = 32) : (F_w20_IndexMerges n ca a cb b).Runs (· = true) := by
  obtain ⟨x, c1, x1, x2, x3⟩ := both_run hn ca a ha.1 ha.2.1 ha.2.2.1 ha.2.2.2
  obtain ⟨y, c2, y1, y2, y3⟩ := both_run hn cb b hb.1 hb.2.1 hb.2.2.1 hb.2.2.2
  obtain ⟨c3, r1⟩ := rmerge_run (n := n) c1 c2 (flat x) (flat y) (by rw [flat_len]; omega) (by rw [flat_len]; omega) (by rw [flat_len]; omega) (by rw [flat_len]; omega)
  have same := fun (m : Mp) (hm : m.length ≤ 900) => same_run (n := n) (srt (flat m)) (by rw [srt_len, flat_len]; omega) (by rw [srt_len, flat_len]; omega)
  have ly := plist_run hn y3 (by omega)
  have lry := lists_same hn c2 y3 (List.Perm.refl _) (by omega)
  have lsy := same y (by omega)
  have lm : (F_index_Index_Merge_2 n).run = some () := rfl
  unfold F_w20_IndexMerges
  refine R_run x1 (R_run y1 (R_sub (merge_run (x := x) (y := y) y3 (by omega)) fun r hr => ?_))
  have key : ∀ (m : Mp), InvM m → m.length ≤ 900 → ∀ (l : List Ent), l.Perm (flat m) → ∀ c, (Tree.get (Tree.run (F_index_Index_List_1 n m)) fun y9 => .get (Tree.run (F_r20_Index_List n c l)) fun y10 => .get (Tree.run (F_r20_Same n y9 y10)) fun y11 => .ite y11 (.get (Tree.run (F_index_Index_List_1 n y)) fun y12 => .get (Tree.run (F_r20_Index_List n c2 (flat y))) fun y13 => .get (Tree.run (F_r20_Same n y12 y13)) fun y14 => .ite y14 (.get (Tree.run (F_index_Index_Merge_2 n)) fun y15 => .ite true (.get (Tree.run (F_w20_awake n)) fun y16 => .ret y16) (.ret false)) (.ret false)) (.ret false)).Runs (· = true) := by
    intro m hm h9 l hl c
    exact R_get _ (plist_run hn hm h9) (R_get _ (lists_same hn c hm hl h9) (R_get _ (same m h9) (R_ite_t rfl (R_get _ ly (R_get _ lry (R_get _ lsy (R_ite_t rfl (R_get _ lm (R_ite_t rfl (R_get _ hA rfl))))))))))
  have r2 := mergeR_eq (x := x) y (flat x)
  rcases hr with ⟨hc, hd⟩ | ⟨hno, w, hd, hw⟩
  · rcases r2 with ⟨_, r2⟩ | ⟨r2, _⟩
    · rw [r2] at r1
      cases r with
      | inl e =>
        simp only [decA, Prod.mk.injEq] at hd
        obtain ⟨rfl, _⟩ := hd
        exact R_run r1 (R_ite_t rfl (key x x3 (by omega) (flat x) (List.Perm.refl _) c3))
      | inr m =>
        simp only [decA, Prod.mk.injEq] at hd
        exact absurd hd.1 (by decide)
    · obtain ⟨p, hp, hq⟩ := hc
      exact absurd (r2 p hp) hq
  · rcases r2 with ⟨hc, _⟩ | ⟨_, r2⟩
    · exact absurd hc hno
    · rw [r2] at r1
      have hI := InvM.merge x3 y3 hw
      have hlen := merge_len (x := x) hw
      have hperm : (flat x ++ flat (y.filter (isNew x))).Perm (flat (x ++ w)) := by
        unfold flat
        rw [List.map_append]
        exact (hw.symm.map _).append_left _
      cases r with
      | inl e =>
        simp only [decA, Prod.mk.injEq] at hd
        obtain ⟨rfl, hd⟩ := hd
        rw [← hd] at hperm
        exact R_run r1 (R_ite_t rfl (key x x3 (by omega) _ hperm c3))
      | inr m =>
        simp only [decA, Prod.mk.injEq] at hd
        obtain ⟨_, rfl⟩ := hd
        exact R_run r1 (R_ite_t rfl (key _ hI (by omega) _ hperm c3))
theorem merges_law (ca cb : Bool) (a b : List Ent) (ga : KTL.ok a) (gb : KTL.ok b) : (F_w20_IndexMerges (fuel a + fuel b + 1000) ca a cb b).Runs (· = true) :=
  merges_run (awake_run _) (by omega) ca cb a b (arg_facts ga (by omega)) (arg_facts gb (by omega))
end Go.Proofs.Ytdlbmjbbnplpjaa
