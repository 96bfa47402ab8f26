/- IndexOrder in plain words: in whatever order what is merged. -/
import Derived.Test.YtcipfbabjbcfkaaXM
set_option linter.unusedVariables false
set_option linter.unusedSimpArgs false
namespace Go.Proofs.Ytcipfbabjbcfkaa
open Hyp
abbrev Ky := Int × List UInt8
abbrev Vl := List UInt8 × Int × Int
def Mrg (x y : Mp) (r : Int × Mp) : Prop := (Clash x y ∧ r = (19, x)) ∨ (¬ Clash x y ∧ ∃ w, r = (0, x ++ w) ∧ w.Perm (y.filter (isNew x)))
theorem merge_run {n : Nat} {x y : Mp} (hy : InvM y) (hn : y.length < n) : (F_index_Index_Merge n x y).Runs (Mrg x y) := by
  unfold F_index_Index_Merge
  refine loops_run hy hn (fun hc r => .inl ⟨hc, rfl⟩) fun hno r w h1 h2 => ?_
  cases r with
  | inl u => exact .inr ⟨hno, w, congrArg (Prod.mk (0 : Int)) h1, h2⟩
  | inr q => exact .inr ⟨hno, w, congrArg (Prod.mk (0 : Int)) h1, h2⟩
/-- They gainsay one another. -/
def Cl (f g : Ky → Option Vl) : Prop := ∃ k a b, f k = some a ∧ g k = some b ∧ a ≠ b
theorem Cl.symm {f g : Ky → Option Vl} : Cl f g → Cl g f := fun ⟨k, a, b, h1, h2, h3⟩ => ⟨k, b, a, h2, h1, fun e => h3 e.symm⟩
theorem mem_mg : ∀ {m : Mp}, (m.map (·.1)).Nodup → ∀ {p : Pr}, p ∈ m ↔ mg m p.1 = some p.2
  | [], _, p => ⟨fun h => (List.not_mem_nil h).elim, fun h => by cases h⟩
  | q :: m, hn, p => by
    rw [List.map_cons, List.nodup_cons] at hn
    rw [mg_cons, List.mem_cons]
    by_cases e : p.1 = q.1
    · rw [if_pos e, Option.some.injEq]
      constructor
      · rintro (h | h)
        · rw [h]
        · exact absurd (e ▸ List.mem_map_of_mem h) hn.1
      · intro h
        exact .inl (Prod.ext e h.symm)
    · rw [if_neg e, ← mem_mg hn.2]
      constructor
      · rintro (h | h)
        · exact absurd (congrArg Prod.fst h) e
        · exact h
      · exact .inr
theorem clash_iff {x y : Mp} (hy : InvM y) : Clash x y ↔ Cl (mg x) (mg y) := by
  constructor
  · rintro ⟨p, hp, hn⟩
    unfold okP at hn
    obtain ⟨v, hn⟩ := Classical.not_forall.1 hn
    obtain ⟨hv, hne⟩ := Classical.not_imp.1 hn
    exact ⟨p.1, v, p.2, hv, (mem_mg hy.nd).1 hp, hne⟩
  · rintro ⟨k, a, b, h1, h2, h3⟩
    exact ⟨(k, b), (mem_mg hy.nd).2 h2, fun h => h3 (h a h1)⟩
theorem mrg_spec {x y : Mp} (hx : InvM x) (hy : InvM y) {r : Int × Mp} (h : Mrg x y r) : (Cl (mg x) (mg y) ∧ r.1 = 19) ∨ (¬ Cl (mg x) (mg y) ∧ r.1 = 0 ∧ InvM r.2 ∧ r.2.length ≤ x.length + y.length ∧ ∀ k, mg r.2 k = (mg x k).orElse fun _ => mg y k) := by
  rcases h with ⟨hc, rfl⟩ | ⟨hno, w, rfl, hw⟩
  · exact .inl ⟨(clash_iff hy).1 hc, rfl⟩
  · refine .inr ⟨fun h => hno ((clash_iff hy).2 h), rfl, hx.merge hy hw, merge_len hw, fun k => ?_⟩
    show mg (x ++ w) k = _
    rw [mg_append]
    cases hk : mg x k with
    | some v => rfl
    | none =>
      show mg w k = mg y k
      have hnw : (w.map (·.1)).Nodup := (hw.map _).nodup_iff.2 (hy.nd.sublist (List.filter_sublist.map _))
      apply Option.ext
      intro v
      rw [← mem_mg hnw (p := (k, v)), ← mem_mg hy.nd (p := (k, v)), hw.mem_iff, List.mem_filter]
      constructor
      · exact fun h => h.1
      · exact fun h => ⟨h, by unfold isNew; rw [show mg x (k, v).1 = none from hk]; rfl⟩
/-- Three merges. -/
theorem chain {x y z : Mp} (hx : InvM x) (hy : InvM y) (hz : InvM z) {r1 r2 r3 : Int × Mp} (h1 : Mrg [] x r1) (h2 : Mrg r1.2 y r2) (h3 : Mrg r2.2 z r3) :
    ((r1.1 = 0 ∧ r2.1 = 0 ∧ r3.1 = 0) ↔ (¬ Cl (mg x) (mg y) ∧ ¬ Cl (mg x) (mg z) ∧ ¬ Cl (mg y) (mg z))) ∧
    ((r1.1 = 0 ∧ r2.1 = 0 ∧ r3.1 = 0) → InvM r3.2 ∧ r3.2.length ≤ x.length + y.length + z.length ∧ ∀ k, mg r3.2 k = (mg x k).orElse fun _ => (mg y k).orElse fun _ => mg z k) := by
  rcases mrg_spec InvM.nil hx h1 with ⟨⟨k, a, b, e, _⟩, _⟩ | ⟨_, e1, i1, l1, m1⟩
  · cases e
  have f1 : mg r1.2 = mg x := funext fun k => m1 k
  have s2 := mrg_spec i1 hy h2
  rw [f1] at s2
  rcases s2 with ⟨c2, e2⟩ | ⟨c2, e2, i2, l2, m2⟩
  · refine ⟨⟨fun h => ?_, fun h => absurd c2 h.1⟩, fun h => ?_⟩
    · rw [e2] at h; exact absurd h.2.1 (by decide)
    · rw [e2] at h; exact absurd h.2.1 (by decide)
  have s3 := mrg_spec i2 hz h3
  have c3 : Cl (mg r2.2) (mg z) ↔ Cl (mg x) (mg z) ∨ Cl (mg y) (mg z) := by
    constructor
    · rintro ⟨k, a, b, q1, q2, q3⟩
      rw [m2 k] at q1
      cases hk : mg x k with
      | some v => rw [hk] at q1; cases q1; exact .inl ⟨k, a, b, hk, q2, q3⟩
      | none => rw [hk] at q1; exact .inr ⟨k, a, b, q1, q2, q3⟩
    · rintro (⟨k, a, b, q1, q2, q3⟩ | ⟨k, a, b, q1, q2, q3⟩)
      · exact ⟨k, a, b, by rw [m2 k, q1]; rfl, q2, q3⟩
      · cases hk : mg x k with
        | none => exact ⟨k, a, b, by rw [m2 k, hk]; exact q1, q2, q3⟩
        | some v =>
          have hva : v = a := Classical.byContradiction fun h => c2 ⟨k, v, a, hk, q1, h⟩
          exact ⟨k, a, b, by rw [m2 k, hk, hva]; rfl, q2, q3⟩
  rcases s3 with ⟨d3, e3⟩ | ⟨d3, e3, i3, l3, m3⟩
  · refine ⟨⟨fun h => ?_, fun h => ?_⟩, fun h => ?_⟩
    · rw [e3] at h; exact absurd h.2.2 (by decide)
    · rcases c3.1 d3 with q | q
      · exact absurd q h.2.1
      · exact absurd q h.2.2
    · rw [e3] at h; exact absurd h.2.2 (by decide)
  · refine ⟨⟨fun _ => ⟨c2, fun h => d3 (c3.2 (.inl h)), fun h => d3 (c3.2 (.inr h))⟩, fun _ => ⟨e1, e2, e3⟩⟩, fun _ => ⟨i3, ?_, fun k => ?_⟩⟩
    · simp only [List.length_nil] at l1; omega
    · rw [m3 k, m2 k]
      cases mg x k <;> rfl
theorem same_srt {m l : Mp} (hm : InvM m) (hl : InvM l) (h : ∀ k, mg m k = mg l k) : srt (flat m) = srt (flat l) := by
  have nd : ∀ {m : Mp}, InvM m → m.Nodup := fun hm => by
    have := hm.nd
    rw [List.Nodup, List.pairwise_map] at this
    exact this.imp fun h e => h (congrArg Prod.fst e)
  have hp : m.Perm l := (List.perm_ext_iff_of_nodup (nd hm) (nd hl)).2 fun p => by rw [mem_mg hm.nd, mem_mg hl.nd, h]
  have hf : (flat m).Perm (flat l) := hp.map _
  refine srt_uniq (goodK_perm (List.mergeSort_perm _ _).symm (flat_good hm)) (msort_srt _) (msort_srt _) (((List.mergeSort_perm _ _).trans hf).trans (List.mergeSort_perm _ _).symm)
theorem order_run {n : Nat} (hA : (F_w20_awake n).run = some true) (hn : 1000 ≤ n) (ca cb cc : Bool) (a b c : List Ent) (ha : a.length ≤ 9223372036854775807 ∧ (∀ e ∈ a, e.2.2.1.length < n) ∧ (∀ e ∈ a, e.2.2.1.length ≤ 9223372036854775807) ∧ ∀ e ∈ a, e.2.1.length = 32)
    (hb : b.length ≤ 9223372036854775807 ∧ (∀ e ∈ b, e.2.2.1.length < n) ∧ (∀ e ∈ b, e.2.2.1.length ≤ 9223372036854775807) ∧ ∀ e ∈ b, e.2.1.length = 32)
    (hc : c.length ≤ 9223372036854775807 ∧ (∀ e ∈ c, e.2.2.1.length < n) ∧ (∀ e ∈ c, e.2.2.1.length ≤ 9223372036854775807) ∧ ∀ e ∈ c, e.2.1.length = 32) : (F_w20_IndexOrder n ca a cb b cc c).Runs (· = true) := by
  obtain ⟨x, c1, x1, x2, x3⟩ := both_run hn ca a ha.1 ha.2.1 ha.2.2.1 ha.2.2.2
  obtain ⟨y, c2, y1, y2, y3⟩ := both_run hn cb b hb.1 hb.2.1 hb.2.2.1 hb.2.2.2
  obtain ⟨z, c3, z1, z2, z3⟩ := both_run hn cc c hc.1 hc.2.1 hc.2.2.1 hc.2.2.2
  have lN : (F_index_New n).run = some () := rfl
  unfold F_w20_IndexOrder
  refine R_run x1 (R_run y1 (R_run z1 (R_run lN (R_run lN ?_))))
  refine R_sub (merge_run (x := []) (y := x) x3 (by omega)) fun r1 h1 => ?_
  refine R_sub (merge_run (x := r1.2) (y := y) y3 (by omega)) fun r2 h2 => ?_
  refine R_sub (merge_run (x := r2.2) (y := z) z3 (by omega)) fun r3 h3 => ?_
  refine R_sub (merge_run (x := []) (y := z) z3 (by omega)) fun q1 k1 => ?_
  refine R_sub (merge_run (x := q1.2) (y := x) x3 (by omega)) fun q2 k2 => ?_
  refine R_sub (merge_run (x := q2.2) (y := y) y3 (by omega)) fun q3 k3 => ?_
  obtain ⟨u1, u2⟩ := chain x3 y3 z3 h1 h2 h3
  obtain ⟨v1, v2⟩ := chain z3 x3 y3 k1 k2 k3
  have done : (Tree.sub (F_w20_awake n) fun y => Tree.ret y).Runs (· = true) := R_run hA rfl
  have both : (r1.1 = 0 ∧ r2.1 = 0 ∧ r3.1 = 0) ↔ (q1.1 = 0 ∧ q2.1 = 0 ∧ q3.1 = 0) := by
    rw [u1, v1]
    constructor
    · rintro ⟨e1, e2, e3⟩; exact ⟨fun h => e2 h.symm, fun h => e3 h.symm, e1⟩
    · rintro ⟨e1, e2, e3⟩; exact ⟨e3, fun h => e1 h.symm, fun h => e2 h.symm⟩
  by_cases hok : r1.1 = 0 ∧ r2.1 = 0 ∧ r3.1 = 0
  · have hok2 := both.1 hok
    obtain ⟨i1, l1, m1⟩ := u2 hok
    obtain ⟨i2, l2, m2⟩ := v2 hok2
    have hsame : srt (flat r3.2) = srt (flat q3.2) := by
      refine same_srt i1 i2 fun k => ?_
      rw [m1 k, m2 k]
      obtain ⟨e1, e2, e3⟩ := u1.1 hok
      cases hx : mg x k with
      | none => cases hy : mg y k <;> cases hz : mg z k <;> first | rfl | skip
                rename_i a b
                have : a = b := Classical.byContradiction fun h => e3 ⟨k, a, b, hy, hz, h⟩
                rw [this]; rfl
      | some v =>
        cases hz : mg z k with
        | none => cases mg y k <;> rfl
        | some u =>
          have : v = u := Classical.byContradiction fun h => e2 ⟨k, v, u, hx, hz, h⟩
          rw [this]; rfl
    have e0 : ((!(decide (r1.1 = (0 : Int)))) || ((!(decide (r2.1 = (0 : Int)))) || (!(decide (r3.1 = (0 : Int)))))) = false := by
      rw [decide_eq_true hok.1, decide_eq_true hok.2.1, decide_eq_true hok.2.2]; rfl
    have p1 := plist_run hn i1 (by omega)
    have p2 := plist_run hn i2 (by omega)
    rw [← hsame] at p2
    have p3 := same_run (n := n) (srt (flat r3.2)) (by rw [srt_len, flat_len]; omega) (by rw [srt_len, flat_len]; omega)
    exact R_ite_f e0 (R_ite_t (decide_eq_true hok2.1) (R_ite_t (decide_eq_true hok2.2.1) (R_ite_t (decide_eq_true hok2.2.2) (R_run p1 (R_run p2 (R_run p3 (R_ite_t rfl done)))))))
  · have hno2 : ¬ (q1.1 = 0 ∧ q2.1 = 0 ∧ q3.1 = 0) := fun h => hok (both.2 h)
    have e0 : ((!(decide (r1.1 = (0 : Int)))) || ((!(decide (r2.1 = (0 : Int)))) || (!(decide (r3.1 = (0 : Int)))))) = true := by
      simp only [Bool.or_eq_true, Bool.not_eq_true', decide_eq_false_iff_not]
      by_cases q1 : r1.1 = 0
      · by_cases q2 : r2.1 = 0
        · exact .inr (.inr fun q3 => hok ⟨q1, q2, q3⟩)
        · exact .inr (.inl q2)
      · exact .inl q1
    refine R_ite_t e0 ?_
    by_cases g1 : q1.1 = 0
    · refine R_ite_f (by rw [decide_eq_true g1]; rfl) ?_
      by_cases g2 : q2.1 = 0
      · refine R_ite_f (by rw [decide_eq_true g2]; rfl) ?_
        have g3 : ¬ q3.1 = 0 := fun g3 => hno2 ⟨g1, g2, g3⟩
        exact R_ite_t (by rw [decide_eq_false g3]; rfl) done
      · exact R_ite_t (by rw [decide_eq_false g2]; rfl) done
    · exact R_ite_t (by rw [decide_eq_false g1]; rfl) done
theorem order_law (ca cb cc : Bool) (a b c : List Ent) (ga : KTL.ok a) (gb : KTL.ok b) (gc : KTL.ok c) : (F_w20_IndexOrder (fuel a + fuel b + fuel c + 1000) ca a cb b cc c).Runs (· = true) :=
  order_run (awake_run _) (by omega) ca cb cc a b c (arg_facts ga (by omega)) (arg_facts gb (by omega)) (arg_facts gc (by omega))
end Go.Proofs.Ytcipfbabjbcfkaa
