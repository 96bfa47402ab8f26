/- The laws of the index in plain words: what a merge comes to. -/
import Derived.Test.YtcipfbabjbcfkaaXL
set_option linter.unusedVariables false
set_option linter.unusedSimpArgs false
namespace Go.Proofs.Ytcipfbabjbcfkaa
open Hyp
abbrev Pr := (Int × List UInt8) × List UInt8 × Int × Int
/-- What stands under a key. -/
abbrev mg (m : Mp) (k : Int × List UInt8) : Option (List UInt8 × Int × Int) := mget KT VT m k
/-- It does not gainsay. -/
def okP (x : Mp) (p : Pr) : Prop := ∀ v, mg x p.1 = some v → v = p.2
def isNew (x : Mp) (p : Pr) : Bool := (mg x p.1).isNone
theorem eqKT (x y : Int × List UInt8) : eqV KT x y = decide (x = y) := by
  rw [Bool.eq_iff_iff, decide_eq_true_eq]; exact eqV_iff KT x y
theorem eqVT (x y : List UInt8 × Int × Int) : eqV VT x y = decide (x = y) := by
  rw [Bool.eq_iff_iff, decide_eq_true_eq]; exact eqV_iff VT x y
theorem mput_same : ∀ {x : Mp} {k : Int × List UInt8} {v : List UInt8 × Int × Int}, mg x k = some v → mput KT VT x k v = x
  | [], k, v, h => by cases h
  | p :: x, k, v, h => by
    unfold mg mget at h
    unfold mput
    rw [eqKT] at h ⊢
    by_cases e : k = p.1
    · simp only [decide_eq_true e, cond_true, Option.some.injEq] at h ⊢
      rw [e, ← h]
    · simp only [decide_eq_false e, cond_false] at h ⊢
      rw [mput_same h]
theorem mg_cons (p : Pr) (x : Mp) (k : Int × List UInt8) : mg (p :: x) k = if k = p.1 then some p.2 else mg x k := by
  show (bif eqV KT k p.1 then some p.2 else mg x k) = _
  rw [eqKT]
  by_cases e : k = p.1
  · rw [decide_eq_true e, if_pos e]; rfl
  · rw [decide_eq_false e, if_neg e]; rfl
theorem mg_append {x : Mp} {k : Int × List UInt8} : ∀ {w : Mp}, mg (x ++ w) k = (mg x k).orElse fun _ => mg w k := by
  intro w
  induction x with
  | nil => rfl
  | cons p x ih =>
    rw [List.cons_append, mg_cons, mg_cons]
    by_cases e : k = p.1
    · rw [if_pos e, if_pos e]; rfl
    · rw [if_neg e, if_neg e, ih]
theorem mg_none {m : Mp} {k : Int × List UInt8} : mg m k = none ↔ k ∉ m.map (·.1) := by
  induction m with
  | nil => simp [mg, mget]
  | cons p m ih =>
    rw [mg_cons, List.map_cons, List.mem_cons]
    by_cases e : k = p.1
    · simp [e]
    · rw [if_neg e, ih]; simp [e]
theorem merge_ask {x : Mp} {p : Pr} : ((Option.isSome (mget KT VT x (p.1.1, p.1.2))) && (!(eqV VT ((mgetD KT VT x (p.1.1, p.1.2) (([] : List UInt8), ((0 : Int), (0 : Int)))).1, ((mgetD KT VT x (p.1.1, p.1.2) (([] : List UInt8), ((0 : Int), (0 : Int)))).2.1, (mgetD KT VT x (p.1.1, p.1.2) (([] : List UInt8), ((0 : Int), (0 : Int)))).2.2)) (p.2.1, (p.2.2.1, p.2.2.2))))) = false ↔ okP x p := by
  have e : mget KT VT x (p.1.1, p.1.2) = mg x p.1 := rfl
  unfold mgetD okP
  rw [e, eqVT]
  cases h : mg x p.1 with
  | none => simp
  | some v => simp [Prod.ext_iff]
theorem loop1_run {n : Nat} (x z : Mp) : ∀ (k : Nat) (rest : Mp), rest.length < k → (F_index_Index_Merge_l0 n k x rest z).Runs fun r => match r with | .inl _ => ∀ p ∈ rest, okP x p | .inr _ => ∃ p ∈ rest, ¬ okP x p
  | 0, rest, h => by omega
  | k + 1, [], h => by
    unfold F_index_Index_Merge_l0
    exact R_ite_t rfl (fun p hp => by cases hp)
  | k + 1, p0 :: rest0, h => by
    unfold F_index_Index_Merge_l0
    refine R_ite_f rfl ?_
    rintro ⟨p, rest⟩ hp
    have hp : (p :: rest).Perm (p0 :: rest0) := hp
    have hlen : rest.length = rest0.length := by have := hp.length_eq; simpa using this
    simp only [List.length_cons] at h
    by_cases hk : okP x p
    · refine R_ite_f (merge_ask.2 hk) (R_sub (loop1_run x z k rest (by omega)) fun r hr => ?_)
      cases r with
      | inl y =>
        intro q hq
        rcases List.mem_cons.1 (hp.mem_iff.2 hq) with rfl | hq
        · exact hk
        · exact hr q hq
      | inr y =>
        obtain ⟨q, hq, hn⟩ := hr
        exact ⟨q, hp.mem_iff.1 (.tail _ hq), hn⟩
    · refine R_ite_t ?_ ⟨p, hp.mem_iff.1 (.head _), hk⟩
      cases hb : ((Option.isSome (mget T1 T2 x (p.1.1, p.1.2))) && (!(eqV T2 ((mgetD T1 T2 x (p.1.1, p.1.2) (([] : List UInt8), ((0 : Int), (0 : Int)))).1, ((mgetD T1 T2 x (p.1.1, p.1.2) (([] : List UInt8), ((0 : Int), (0 : Int)))).2.1, (mgetD T1 T2 x (p.1.1, p.1.2) (([] : List UInt8), ((0 : Int), (0 : Int)))).2.2)) (p.2.1, (p.2.2.1, p.2.2.2)))))
      · exact absurd (merge_ask.1 hb) hk
      · rfl
theorem loop2_run {n : Nat} (x z : Mp) : ∀ (k : Nat) (acc rest : Mp), rest.length < k → (rest.map (·.1)).Nodup → (∀ p ∈ rest, mg acc p.1 = none) → (∀ p ∈ rest, okP x p) →
    (F_index_Index_Merge_l2 n k (x ++ acc) rest z).Runs fun r => ∃ w, (match r with | .inl _ => x ++ acc | .inr q => q.1) = x ++ acc ++ w ∧ w.Perm (rest.filter (isNew x))
  | 0, acc, rest, h, hn, ha, hk => by omega
  | k + 1, acc, [], h, hn, ha, hk => by
    unfold F_index_Index_Merge_l2
    exact R_ite_t rfl ⟨[], by rw [List.append_nil], .nil⟩
  | k + 1, acc, p0 :: rest0, h, hn, ha, hk => by
    unfold F_index_Index_Merge_l2
    refine R_ite_f rfl ?_
    rintro ⟨p, rest⟩ hp
    have hp : (p :: rest).Perm (p0 :: rest0) := hp
    have hlen : rest.length = rest0.length := by have := hp.length_eq; simpa using this
    simp only [List.length_cons] at h
    have hn2 : ((p :: rest).map (·.1)).Nodup := (hp.map _).nodup_iff.2 hn
    rw [List.map_cons, List.nodup_cons] at hn2
    have ha2 : ∀ q ∈ p :: rest, mg acc q.1 = none := fun q hq => ha q (hp.mem_iff.1 hq)
    have hk2 : ∀ q ∈ p :: rest, okP x q := fun q hq => hk q (hp.mem_iff.1 hq)
    have hf : ((p0 :: rest0).filter (isNew x)).Perm ((p :: rest).filter (isNew x)) := (hp.filter _).symm
    cases hx : mg x p.1 with
    | some v =>
      have hv := hk2 p (.head _) v hx
      have e : mput T1 T2 (x ++ acc) (p.1.1, p.1.2) (p.2.1, (p.2.2.1, p.2.2.2)) = x ++ acc := by
        refine mput_same ?_
        rw [mg_append]
        show (mg x p.1).orElse _ = _
        rw [hx, hv]; rfl
      have hnew : isNew x p = false := by unfold isNew; rw [hx]; rfl
      rw [show (p :: rest).filter (isNew x) = rest.filter (isNew x) by rw [List.filter_cons, hnew]; rfl] at hf
      show (Tree.sub (F_index_Index_Merge_l2 n k (mput T1 T2 (x ++ acc) (p.1.1, p.1.2) (p.2.1, (p.2.2.1, p.2.2.2))) rest z) _).Runs _
      rw [e]
      refine R_sub (loop2_run x z k acc rest (by omega) hn2.2 (fun q hq => ha2 q (.tail _ hq)) (fun q hq => hk2 q (.tail _ hq))) fun r hr => ?_
      obtain ⟨w, h1, h2⟩ := hr
      cases r with
      | inl y => exact ⟨w, h1, h2.trans hf.symm⟩
      | inr y => exact ⟨w, h1, h2.trans hf.symm⟩
    | none =>
      have e : mput T1 T2 (x ++ acc) (p.1.1, p.1.2) (p.2.1, (p.2.2.1, p.2.2.2)) = x ++ (acc ++ [p]) := by
        have := mput_new (kt := KT) (vt := VT) (xs := x ++ acc) (x := p.1) (v := p.2) (by
          show mg (x ++ acc) p.1 = none
          rw [mg_append, hx, ha2 p (.head _)]; rfl)
        rw [List.append_assoc] at this
        exact this
      have hnew : isNew x p = true := by unfold isNew; rw [hx]; rfl
      rw [show (p :: rest).filter (isNew x) = p :: rest.filter (isNew x) by rw [List.filter_cons, hnew]; rfl] at hf
      show (Tree.sub (F_index_Index_Merge_l2 n k (mput T1 T2 (x ++ acc) (p.1.1, p.1.2) (p.2.1, (p.2.2.1, p.2.2.2))) rest z) _).Runs _
      rw [e]
      refine R_sub (loop2_run x z k (acc ++ [p]) rest (by omega) hn2.2 (fun q hq => ?_) (fun q hq => hk2 q (.tail _ hq))) fun r hr => ?_
      · rw [mg_append, ha2 q (.tail _ hq), mg_none.2]
        · rfl
        · intro hm
          simp at hm
          exact hn2.1 (hm ▸ List.mem_map_of_mem hq)
      · obtain ⟨w, h1, h2⟩ := hr
        have h3 : (p :: w).Perm ((p0 :: rest0).filter (isNew x)) := (h2.cons p).trans hf.symm
        cases r with
        | inl y => exact ⟨p :: w, by rw [show x ++ (acc ++ [p]) = x ++ (acc ++ [p]) ++ w from h1]; simp, h3⟩
        | inr y => exact ⟨p :: w, by rw [show y.1 = x ++ (acc ++ [p]) ++ w from h1]; simp, h3⟩
/-- Two indices gainsay one another. -/
def Clash (x y : Mp) : Prop := ∃ p ∈ y, ¬ okP x p
theorem InvM.merge {x y w : Mp} (hx : InvM x) (hy : InvM y) (hw : w.Perm (y.filter (isNew x))) : InvM (x ++ w) where
  nd := by
    rw [List.map_append, List.nodup_append]
    have h1 : (w.map (·.1)).Nodup := (hw.map _).nodup_iff.2 (hy.nd.sublist (List.filter_sublist.map _))
    refine ⟨hx.nd, h1, fun a ha b hb e => ?_⟩
    subst e
    obtain ⟨p, hp, rfl⟩ := List.mem_map.1 hb
    have := (List.mem_filter.1 (hw.mem_iff.1 hp)).2
    unfold isNew at this
    rw [Option.isNone_iff_eq_none, mg_none] at this
    exact this ha
  ok p hp := by
    rcases List.mem_append.1 hp with hp | hp
    · exact hx.ok p hp
    · exact hy.ok p (List.mem_filter.1 (hw.mem_iff.1 hp)).1
theorem merge_len {x y w : Mp} (hw : w.Perm (y.filter (isNew x))) : (x ++ w).length ≤ x.length + y.length := by
  rw [List.length_append, hw.length_eq]
  have := List.length_filter_le (isNew x) y
  omega
theorem loops_run {n : Nat} {x y : Mp} (hy : InvM y) (hn : y.length < n) {α : Type} {K : Unit ⊕ (Mp × Mp) → Tree α} {E : Mp → Tree α} {Q : α → Prop} (h1 : Clash x y → ∀ r, (E r).Runs Q)
    (h2 : ¬ Clash x y → ∀ (r : Unit ⊕ (Mp × Mp)) (w : Mp), (match r with | .inl _ => x | .inr q => q.1) = x ++ w → w.Perm (y.filter (isNew x)) → (K r).Runs Q) :
    (Tree.sub (F_index_Index_Merge_l0 n n x y y) fun y2 => .alt y2 (fun _ => .sub (F_index_Index_Merge_l2 n n x y y) K) E).Runs Q := by
  refine R_sub (loop1_run x y n y hn) fun r hr => ?_
  cases r with
  | inr z => exact h1 hr z
  | inl z =>
    have hno : ¬ Clash x y := fun ⟨p, hp, hq⟩ => hq (hr p hp)
    have h3 := loop2_run (n := n) x y n [] y hn hy.nd (fun p hp => rfl) hr
    rw [List.append_nil] at h3
    refine R_sub h3 fun r hr2 => ?_
    obtain ⟨w, e1, e2⟩ := hr2
    exact h2 hno r w e1 e2
end Go.Proofs.Ytcipfbabjbcfkaa
