/- StoreHonest in plain words: the names that are listed; the whole. -/
import Derived.Test.YtdlbmjbbnplpjaaHG
set_option linter.unusedVariables false
set_option linter.unusedSimpArgs false
namespace Go.Proofs.Ytdlbmjbbnplpjaa
open Hyp
/-- How many names have something. -/
abbrev cnt (O : Ob) (rest : Ob) : Nat := (rest.filter fun p => (lastB O p.1).isSome).length
theorem walk_run {n : Nat} {O : Ob} (hv : ∀ nm, (vs O nm).length ≤ 1000) (g u w : Int) (dd : Bool) (rd : List Ch) (cs : List Cl) : ∀ (k : Nat) (acc : List (List UInt8)) (rest : Ob), rest.length < k → acc.length + rest.length ≤ 1000 →
    (F_store_Store_List_l1 n k g u w dd O rd cs acc rest).Runs fun r => (match r with | .inl _ => acc | .inr q => q.1).length = acc.length + cnt O rest
  | 0, acc, rest, h, h2 => by omega
  | k + 1, acc, rest, h, h2 => by
    unfold F_store_Store_List_l1
    cases rest with
    | nil => exact R_ite_t rfl rfl
    | cons p0 rest0 =>
      refine R_ite_f rfl ?_
      rintro ⟨p, rest⟩ hp
      have hp : (p :: rest).Perm (p0 :: rest0) := hp
      have hlen : rest.length = rest0.length := by have := hp.length_eq; simpa using this
      have hc : cnt O (p0 :: rest0) = cnt O (p :: rest) := (hp.filter _).length_eq.symm
      rw [hc]
      simp only [List.length_cons] at h h2
      have ih := fun acc' (ha : acc'.length ≤ acc.length + 1) => walk_run (n := n) hv g u w dd rd cs k acc' rest (by omega) (by omega)
      have hcons : cnt O (p :: rest) = (if (lastB O p.1).isSome = true then 1 else 0) + cnt O rest := by
        unfold cnt
        rw [List.filter_cons]
        split <;> simp; omega
      rw [hcons]
      refine R_run (stood_run (hv p.1)) ?_
      have hl : lastB O p.1 = match (vs O p.1).getLast? with | some (b, true) => some b | _ => none := rfl
      have skip : (lastB O p.1).isSome = false → (Tree.sub (F_store_Store_List_l1 n k g u w dd O rd cs acc rest) fun y17 => Tree.alt y17 (fun y18 => Tree.ret (Sum.inl y18 : Ob ⊕ (List (List UInt8) × Ob))) fun y19 => Tree.ret (Sum.inr (y19.1, y19.2))).Runs fun r => (match r with | .inl _ => acc | .inr q => q.1).length = acc.length + ((if (lastB O p.1).isSome = true then 1 else 0) + cnt O rest) := by
        intro hno
        refine R_sub (ih acc (by omega)) fun y hy => ?_
        rw [hno]
        simp only [Bool.false_eq_true, if_false, Nat.zero_add]
        cases y <;> exact hy
      cases hs : (vs O p.1).getLast? with
      | none =>
        rw [hs] at hl
        exact R_ite_f rfl (skip (by rw [hl]; rfl))
      | some v =>
        obtain ⟨b, t⟩ := v
        rw [hs] at hl
        cases t
        · exact R_ite_f rfl (skip (by rw [hl]; rfl))
        · refine R_ite_t rfl (R_get (acc ++ [p.1]) (by unfold appI; rw [if_pos (by simp; omega)]; rfl) (R_sub (ih (acc ++ [p.1]) (by simp)) fun y hy => ?_))
          rw [hl]
          simp only [Option.isSome_some, if_true]
          rw [List.length_append, List.length_singleton, Nat.add_assoc] at hy
          cases y <;> exact hy
theorem list_run {n : Nat} {O : Ob} (hv : ∀ nm, (vs O nm).length ≤ 1000) (g u w : Int) {cs : List Cl} (hc : cs.length ≤ 1000) (hO : O.length ≤ 1000) (hn : O.length < n) :
    (F_store_Store_List n g u w false O [] cs).Runs fun r => ∃ q, r = .inr q ∧ q.1.length = cnt O O := by
  unfold F_store_Store_List
  refine R_run (call_run hc) (R_ite_f rfl (R_ite_f rfl (R_ite_f rfl (R_sub (walk_run hv g u w false [] _ n [] O hn (by simpa using hO)) fun y hy => ?_))))
  rw [List.length_nil, Nat.zero_add] at hy
  have hlen : cnt O O ≤ 1000 := Nat.le_trans (List.length_filter_le _ _) hO
  cases y with
  | inl q =>
    refine R_get [] (by unfold sortI; rw [if_pos (by simp)]; simp) ⟨_, rfl, hy⟩
  | inr q =>
    have hy : q.1.length = cnt O O := hy
    refine R_get (q.1.mergeSort fun x y => decide (x ≤ y)) (by unfold sortI; rw [if_pos (by omega)]) ⟨_, rfl, ?_⟩
    show (q.1.mergeSort _).length = _
    rw [List.length_mergeSort, hy]
theorem cnt_have {O : Ob} {cs : List Cl} {hv : List (List UInt8 × List UInt8)} {i : Nat} (h : Inv O cs hv i) : cnt O O = hv.length := by
  have h1 : ((O.filter fun p => (lastB O p.1).isSome).map (·.1)).Nodup := h.okO.sublist (List.filter_sublist.map _)
  have hp : ((O.filter fun p => (lastB O p.1).isSome).map (·.1)).Perm (hv.map (·.1)) := by
    refine (List.perm_ext_iff_of_nodup h1 h.okH).2 fun z => ?_
    rw [← mget_mem (kt := .str) (vt := .list .u8), ← h.same z]
    simp only [List.mem_map, List.mem_filter]
    constructor
    · rintro ⟨p, ⟨_, hp⟩, rfl⟩; exact hp
    · intro hz
      have : (mget .str VT O z).isSome = true := by
        unfold lastB vs mgetD at hz
        cases hm : mget .str VT O z with
        | none => rw [hm] at hz; simp at hz
        | some v => rfl
      obtain ⟨p, hp, rfl⟩ := List.mem_map.1 (mget_mem.1 this)
      exact ⟨p, ⟨hp, hz⟩, rfl⟩
  have := hp.length_eq
  simpa using this
theorem awake_run (n : Nat) : (F_w16_awake (n + 1000)).run = some true := by kernel_rfl
theorem Inv.nil : Inv [] [] [] 0 := ⟨fun _ => rfl, .nil, .nil, fun _ => Nat.le_refl _, Nat.le_refl _, Nat.le_refl _, fun _ _ h => by cases h⟩
theorem honest_run {N : Nat} (hA : (F_w16_awake N).run = some true) (hn : 60 ≤ N) (c : Bool) (l : List Dst) (hlen : l.length ≤ 9223372036854775807) : (F_w16_StoreHonest N c l).Runs (· = true) := by
  unfold F_w16_StoreHonest
  obtain ⟨r, h1, h2⟩ := few_run hn c l hlen
  refine R_run h1 ?_
  cases r
  · exact R_ite_t rfl (R_run hA rfl)
  refine R_ite_f rfl ?_
  obtain ⟨hl, hf⟩ := h2 rfl
  refine R_run (t := F_store_New N) (a := ()) rfl ?_
  obtain ⟨r, g1, g2⟩ := loop_run hn c l hl hf N 0 [] [] [] 0 0 0 (by omega) (by omega) Inv.nil
  refine R_run g1 ?_
  have fin : ∀ (O : Ob) (cs : List Cl) (hv : List (List UInt8 × List UInt8)) (K1 : _ → Tree Bool) (K2 : _ → Tree Bool), Inv O cs hv l.length → (∀ q, q.1.length = hv.length → (K2 q).Runs (· = true)) → (Tree.sub (F_store_Store_List N 0 0 0 false O [] cs) fun y => .alt y K1 K2).Runs (· = true) := by
    intro O cs hv K1 K2 hI hk
    have b1 := hI.calls
    have b2 := hI.size
    refine R_sub (list_run (fun nm => by have := hI.vers nm; omega) 0 0 0 (by omega) (by omega) (by omega)) fun y hy => ?_
    obtain ⟨q, rfl, hq⟩ := hy
    exact hk q (hq.trans (cnt_have hI))
  have done : ∀ {b : Bool}, b = true → (Tree.ite true (Tree.ite b (Tree.sub (F_w16_awake N) fun y => .ret y) (.ret false)) (.ret false)).Runs (· = true) := fun hb => R_ite_t rfl (R_ite_t hb (R_run hA rfl))
  rcases r with q | q | q | q | q | q | q | q
  · exact g2.elim
  · exact g2.elim
  · obtain ⟨d, rd, cs⟩ := q
    obtain ⟨e1, e2, hI⟩ := g2
    simp only at e1 e2
    subst e1; subst e2
    exact fin _ _ _ _ _ hI fun q hq => done (by simpa using hq)
  · exact g2.elim
  · exact g2.elim
  · obtain ⟨d, rd, cs, hv⟩ := q
    obtain ⟨e1, e2, hI⟩ := g2
    simp only at e1 e2
    subst e1; subst e2
    exact fin _ _ _ _ _ hI fun q hq => done (by simp only [decide_eq_true_eq]; exact congrArg Nat.cast hq)
  · obtain ⟨d, O, rd, cs, hv⟩ := q
    obtain ⟨e1, e2, hI⟩ := g2
    simp only at e1 e2
    subst e1; subst e2
    exact fin _ _ _ _ _ hI fun q hq => done (by simp only [decide_eq_true_eq]; exact congrArg Nat.cast hq)
  · obtain ⟨d, O, rd, cs⟩ := q
    obtain ⟨e1, e2, hI⟩ := g2
    simp only at e1 e2
    subst e1; subst e2
    exact fin _ _ _ _ _ hI fun q hq => done (by simpa using hq)
end Go.Proofs.Ytdlbmjbbnplpjaa
