/- A region that draws its order: the theorem. -/
import Derived.Test.YtdlbmjbbnplpjaaMw
set_option linter.unusedVariables false
set_option linter.unusedSimpArgs false
namespace Hyp
open Go
section
variable {P : Program} {tab : Tab} {B : Base} {n m : Nat} {ν : Nms} {b0 bE : Nat} {L0 : List En} {F : List Ent} {w0 : World} {R : Recs} {val : Nat → D.GV}
/-- Names of an operation that is done, as they are told when another one runs. -/
theorem alike_done (hr : rangeOK R bE m b0 = true) {j : Nat} {rj : Rec} (hj : lookR R j = some rj) {top : Nat} (ht : ∀ i r, (i = j ∨ memN rj.tp i = true) → lookR R i = some r → r.hi ≤ top) (hb : b0 ≤ top) :
    Alike (mayN R b0 rj.tp j) (allN R ν b0 (valOf rj.tp (rj.tp.map val) j (val j))) bE (allN R ν b0 val) top := by
  intro i hi hm
  unfold mayN at hm
  unfold allN
  by_cases h0 : i < b0
  · rw [if_pos h0, if_pos h0]
    exact ⟨by omega, rfl⟩
  · rw [if_neg h0, if_neg h0]
    have : Nat.blt i b0 = false := by
      cases h : Nat.blt i b0
      · rfl
      · exact absurd (Nat.le_of_ble_eq_true h) (by omega)
    rw [this, Bool.false_or] at hm
    split at hm
    · rename_i j' ho
      obtain ⟨r, q1, q2, q3⟩ := ownr_at hr ho
      simp only [Bool.or_eq_true] at hm
      have hj' : j' = j ∨ memN rj.tp j' = true := hm.imp Nat.eq_of_beq_eq_true id
      refine ⟨by have := ht j' r hj' q1; omega, ?_⟩
      by_cases he : j' = j
      · subst he
        simp only [valOf, if_true, ho]
      · simp only [valOf, if_neg he, lookG_map val (memN_iff.1 (hj'.resolve_left he)), ho]
    · cases hm
/-- Names of an operation just done. -/
theorem alike_new (hr : rangeOK R bE m b0 = true) {k : Nat} {r : Rec} (hk : lookR R k = some r) {ν' : Nms} (hlo : ∀ i, i < r.lo → ν' i = allN R ν b0 val i) (ht : ∀ i, memN r.tp i = true → i < k) {v : Value} :
    Alike (mayN R b0 r.tp k) ν' r.hi (allN R ν b0 (valOf r.tp (r.tp.map val) k (v, ν'))) bE := by
  intro i hi hm
  obtain ⟨g1, g2, g3, g4⟩ := rangeOK_at hr hk
  refine ⟨by omega, ?_⟩
  unfold mayN at hm
  by_cases h0 : i < b0
  · have := hlo i (by omega)
    rw [this]
    unfold allN
    rw [if_pos h0, if_pos h0]
  · have hbl : Nat.blt i b0 = false := by
      cases h : Nat.blt i b0
      · rfl
      · exact absurd (Nat.le_of_ble_eq_true h) (by omega)
    rw [hbl, Bool.false_or] at hm
    split at hm
    · rename_i j' ho
      obtain ⟨r', q1, q2, q3⟩ := ownr_at hr ho
      simp only [Bool.or_eq_true] at hm
      have hj' : j' = k ∨ memN r.tp j' = true := hm.imp Nat.eq_of_beq_eq_true id
      by_cases he : j' = k
      · unfold allN
        rw [if_neg h0]
        simp only [ho, valOf, if_pos he]
      · have hm2 := hj'.resolve_left he
        have hlt := ht j' hm2
        have h2 := rangeOK_two hr q1 hk hlt
        rw [hlo i (by omega)]
        unfold allN
        rw [if_neg h0, if_neg h0]
        simp only [ho, valOf, if_neg he, lookG_map val (memN_iff.1 hm2)]
    · cases hm
theorem all_low {i : Nat} (h : i < b0) : allN R ν b0 val i = ν i := by unfold allN; rw [if_pos h]
theorem nthE_get : ∀ {L : List En} {i : Nat}, nthE L i = L[i]?
  | [], _ => by simp [nthE]
  | _ :: _, 0 => rfl
  | _ :: l, i + 1 => by simp [nthE, nthE_get (L := l)]
theorem memN_con {l : List Nat} {k : Nat} : l.contains k = memN l k := by
  rw [Bool.eq_iff_iff, memN_iff]
  simp
theorem steps_of {ops : Array Oper} {f0 : Fr} {l : List Ent} {sp0 : List D.Spec} : ∀ {os : List Oper} {ss : List D.Spec} {k : Nat}, os.length = ss.length → (∀ i o s, os[i]? = some o → ss[i]? = some s → D.StepAt P B m ops sp0 f0 w0 l (k + i) o s) → D.Steps P B m ops sp0 f0 w0 l k os ss
  | [], [], _, _, _ => trivial
  | o :: os, s :: ss, k, hl, h => ⟨h 0 o s rfl rfl, steps_of (by simpa using hl) fun i o' s' h1 h2 => by
      have := h (i + 1) o' s' (by simpa using h1) (by simpa using h2)
      rwa [show k + (i + 1) = k + 1 + i by omega] at this⟩
  | [], _ :: _, _, hl, _ => by cases hl
  | _ :: _, [], _, hl, _ => by cases hl
/-- The entries of the sources, as they are told. -/
theorem src_ents (H : Here B ν b0 w0 L0 F) (hr : rangeOK R bE m b0 = true) {w : World} {cur : List Ent} (hown : Own w0 (footU (ents ν L0 ++ [packE F])) w cur) {top : Nat} (hb : b0 ≤ top) {f : Fr} {ops : Array Oper}
    : ∀ {js : List Nat}, (∀ j ∈ js, j < m + L0.length) → (∀ j ∈ js, j < m → ∃ rj, lookR R j = some rj ∧ idsL (mayN R b0 rj.tp j) rj.out = true ∧ (∀ i r, (i = j ∨ memN rj.tp i = true) → lookR R i = some r → r.hi ≤ top) ∧ D.okAt (specs R ν b0 bE m) val j (B.Z cur) w) →
    js.flatMap (D.entB m (specs R ν b0 bE m) (ents ν L0 ++ [packE F]) val) = ents (allN R ν b0 val) (js.flatMap (srcEn R L0 m)) ∧ ∀ e ∈ js.flatMap (srcEn R L0 m), enF (allN R ν b0 val) top (B.Z cur) w e
  | [], _, _ => ⟨rfl, by simp⟩
  | j :: js, hlt, hjs => by
    obtain ⟨g1, g2⟩ := src_ents H hr hown hb (f := f) (ops := ops) (js := js) (fun i hi => hlt i (by simp [hi])) (fun i hi => hjs i (by simp [hi]))
    have one : D.entB m (specs R ν b0 bE m) (ents ν L0 ++ [packE F]) val j = ents (allN R ν b0 val) (srcEn R L0 m j) ∧ ∀ e ∈ srcEn R L0 m j, enF (allN R ν b0 val) top (B.Z cur) w e := by
      unfold D.entB srcEn
      by_cases hj : j < m
      · obtain ⟨rj, q1, q2, q3, q4⟩ := hjs j (by simp) hj
        have hrec : recAt R j = rj := by unfold recAt; rw [q1]; rfl
        have hbl : Nat.blt j m = true := Nat.ble_eq_true_of_le (by show j + 1 ≤ m; omega)
        rw [if_pos hj, hbl, specs_get hj, hrec]
        simp only [cond_true]
        unfold D.okAt at q4
        rw [specs_get hj, hrec] at q4
        have hal := alike_done (ν := ν) (val := val) hr q1 q3 hb
        obtain ⟨_, q6⟩ := q4
        refine ⟨?_, fun e he => hal.en (idsL_at q2 e he) (q6 e he)⟩
        refine List.map_congr_left fun e he => ?_
        exact (hal.ent (idsL_at q2 e he) (q6 e he)).symm
      · have hbl : Nat.blt j m = false := by
          cases h : Nat.blt j m
          · rfl
          · exact absurd (Nat.le_of_ble_eq_true h) (by omega)
        rw [if_neg hj, hbl]
        simp only [cond_false, nthE_get]
        have h1 : j - m < L0.length := by have := hlt j (by simp); omega
        rw [List.getElem?_append_left (by simpa using h1)]
        have hmem : L0[j - m] ∈ L0 := List.getElem_mem h1
        have hf := H.fact _ hmem
        have hfl : enF (allN R ν b0 val) top (B.Z cur) w L0[j - m] := hf.later ⟨fun k hk => all_low hk, hb, fun x hx hz => by
          rw [Z_pack (fun x => (footU_pack (ents ν L0) F x).symm)] at hz
          exact TT.now hown hx hz⟩
        simp only [List.getElem?_map, List.getElem?_eq_getElem h1, Option.map_some, Option.toList]
        refine ⟨?_, fun e he => by rw [List.mem_singleton] at he; subst he; exact hfl⟩
        simp only [List.map_cons, List.map_nil]
        rw [entOf_congr (fun k hk => all_low hk) hf.1 hf.2.1]
    refine ⟨by rw [List.flatMap_cons, List.flatMap_cons, one.1, g1]; exact List.map_append.symm, fun e he => ?_⟩
    rcases List.mem_append.1 (List.flatMap_cons ▸ he) with he | he
    · exact one.2 e he
    · exact g2 e he
end
end Hyp
