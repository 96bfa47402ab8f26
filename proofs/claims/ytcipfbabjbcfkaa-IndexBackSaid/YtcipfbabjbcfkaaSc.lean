/- slices.Compact of strings, as the machine sees it: by the kit's contract. -/
import Derived.Test.YtcipfbabjbcfkaaSj
import Derived.Shelf.SlicesG.CompactS
set_option linter.unusedVariables false
set_option linter.unusedSimpArgs false
namespace Hyp
open Go Go.Proofs Go.Shelf Go.Sort
def compactI (xs : List (List UInt8)) : Option (List (List UInt8)) := if xs.length ≤ 4611686018427387904 then some (Lib.compact xs) else none
def S_compactStr : Summ := fun avs L b => match avs with
  | [.whole k s] => match rowOf L k .str with
    | some xs => .get (compactI xs) fun ys => .ret (.whole b s, setE L k ⟨b, b, .row .str ys⟩, b + 1)
    | none => .fail
  | _ => .fail
theorem compact_len (xs : List (List UInt8)) : (Lib.compact xs).length ≤ xs.length := by
  unfold Lib.compact Lib.compactUpTo
  rw [List.length_map]
  exact Nat.le_trans (List.length_filter_le _ _) (by simp)
theorem ok_compactStr {P : Program} {ρ : Ren} (Ly : SlLaysN.n44 P ρ) : SoundF P (ρ.f 44) S_compactStr := by
  intro avs L b R hr B ν w F vs H hs
  unfold S_compactStr at hr
  split at hr
  · rename_i k s
    split at hr
    · rename_i xs hrow
      match vs, hs with
      | [v], ⟨hv, _⟩ =>
        obtain ⟨i, vid, h1, h2, h3, hk, hset⟩ := rowOf_set H hrow
        obtain ⟨_, _, hvv⟩ := sl_whole hv
        have hc := str_cells h3
        obtain ⟨g1, g2, g3⟩ := H.own.get h2
        rw [← hvv] at g1 g3
        obtain ⟨ys, hy, hr⟩ : ∃ ys, compactI xs = some ys ∧ R (.whole b s, setE L k ⟨b, b, .row .str ys⟩, b + 1) := hr
        unfold compactI at hy
        split at hy
        · rename_i hsz
          cases hy
          have hlen := compact_len xs
          generalize hys : Lib.compact xs = ys at hr hlen
          have fin : ∀ (w' : World) (v' : Value), (∀ b, ownB v' b → ownB v b) → IsSl v' ys.length → w.heap.size ≤ w'.heap.size → (∀ b, b < w.heap.size → ¬ ownB v b → w'.heap[b]? = w.heap[b]?) → (row 1 v' ys.length (ys.map Hyp.str)).holds w' → (∀ b, ownB v b → b < w.heap.size) → Kept w w' →
              Ret (GivesR B ν b w L F R) (.returned v') w' := by
            intro w' v' q0 qs q1 q2 q3 q4 q5
            have hown : Own w (footU (ents ν L ++ F)) w' ((ents ν L ++ F).set i (row 1 v' ys.length (ys.map Hyp.str))) :=
              H.own.put i h2 q1 (fun b hb hf => q2 b hb (by rw [hvv]; exact hf)) q3 (fun b hf => ⟨Nat.lt_of_lt_of_le (q4 b (q0 b hf)) q1, fun _ => by rw [row_foot, ← hvv]; exact q0 b hf⟩) q5
            have hl := H.set (m := ⟨0, v', ys.map Hyp.str⟩) (e' := ⟨b, b, .row .str ys⟩) h1 (Nat.lt_succ_self b) rfl (w' := w') (by
              show Own _ _ _ (List.set _ i (row 1 (updN ν b _ b).v ys.length (updN ν b _ b).cs))
              rw [updN_same]; exact hown) (fun Z' h => str_rel rfl)
            rw [← hset] at hl
            refine ⟨_, hr, _, hl, .of ?_⟩
            unfold avV
            rw [if_neg (by simp [AV.isAgg])]
            exact ⟨Nat.lt_succ_self b, v', rfl, by rw [vlen_is qs]; exact qs, by rw [updN_same]⟩
          have low : ∀ b, ownB v b → b < w.heap.size := by
            rintro b ⟨ad, n, c, rfl, hc0, rfl⟩
            obtain ⟨_, cs0, T, z, hb, _⟩ := g3 ad n c rfl hc0
            exact (Array.getElem?_eq_some_iff.1 hb).1
          obtain ⟨a, c, rfl, hn, hm, ha⟩ := g1
          rw [hc] at g3
          by_cases h0 : xs.length = 0
          · have hx0 : xs = [] := List.length_eq_zero_iff.1 h0
            subst hx0
            have hy0 : ys = [] := List.length_eq_zero_iff.1 (Nat.le_zero.1 hlen)
            subst hy0
            exact (AnyG.slices_Compact_string_empty Ly a c w).mono fun e w' ⟨h1, h2⟩ => by
              subst h1; subst h2
              exact fin _ _ (fun _ h => h) ⟨a, c, rfl, hn, hm, ha⟩ (Nat.le_refl _) (fun _ _ _ => rfl) ⟨⟨a, c, rfl, hn, hm, ha⟩, rfl, g3⟩ low (.refl _)
          · have hc0 : 0 < c := by omega
            obtain ⟨ad, rfl⟩ : ∃ ad, a = some ad := by
              cases a with
              | none => have := ha rfl; omega
              | some ad => exact ⟨ad, rfl⟩
            obtain ⟨hsp, cs0, T, z, hb, hfz, hoff, hget⟩ := g3 ad _ c rfl hc0
            obtain ⟨blk, off, sp⟩ := ad
            simp only at hsp hb hoff hget
            have hoff : off + c * 1 ≤ cs0.size := hoff
            rw [Nat.mul_one] at hoff
            subst hsp
            have hblk := (Array.getElem?_eq_some_iff.1 hb).1
            refine (AnyG.slices_Compact_string Ly blk off c xs w (fun j hj => ?_) (by omega) hn).mono fun e w' ⟨h1, n, h2⟩ => ?_
            · have hj' : j < xs.length := by simpa using hj
              have hgj := hget j (by simpa using hj')
              rw [List.getElem?_map, List.getElem?_eq_getElem hj'] at hgj
              have hlt := (Array.getElem?_eq_some_iff.1 hgj).1
              refine ⟨?_, ?_⟩
              · simp only [World.cell?, hb, hgj]
                simp [hj', Hyp.str]
              · have := hfz _ hlt
                simp only [World.frozen?, hb]
                simpa using this
            · rw [hys] at h1 h2
              have h2' : w' = grow (putRow encStr (Sort.ahead w n) blk off (ys ++ List.replicate (xs.length - ys.length) []).toArray) #[] := by rw [h2, grow_empty]
              subst h1; subst h2'
              refine fin _ _ (fun b ⟨ad, n', c', he, h0', e⟩ => ?_) ⟨_, c, rfl, by omega, hm, fun h => by cases h⟩ sorted_size (fun b hb' hne => sorted_same hb' fun h => hne (by subst h; exact ⟨_, _, _, rfl, hc0, rfl⟩)) ⟨⟨_, c, rfl, by omega, hm, fun h => by cases h⟩, by simp, fun ad n' c' he h0' => ?_⟩ low ⟨rfl, rfl, rfl, Nat.le_add_right _ _⟩
              · cases he; exact ⟨_, _, _, rfl, h0', e⟩
              · cases he
                refine ⟨rfl, _, T, z, sorted_cells hb, fun i hi => hfz i (by simpa [putCells] using hi), by rw [Nat.mul_one]; simpa [putCells] using hoff, fun j hj => ?_⟩
                have hj' : j < ys.length := by simpa using hj
                have hl : (ys ++ List.replicate (xs.length - ys.length) ([] : List UInt8)).length = xs.length := by simp; omega
                have := putCells_get (cs := cs0) (off := off) (ys := ys ++ List.replicate (xs.length - ys.length) []) (by rw [hl]; omega) (j := j) (by rw [hl]; omega)
                rw [this, List.map_append, List.getElem?_append_left (by simpa using hj')]
        · cases hy
    · exact hr.elim
  · exact hr.elim
end Hyp
