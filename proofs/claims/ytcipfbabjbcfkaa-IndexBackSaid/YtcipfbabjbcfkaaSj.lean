/- slices.Sort of strings, as the machine sees it: by the kit's contract. -/
import Derived.Test.YtcipfbabjbcfkaaZD
import Derived.Shelf.SortM.Plain
import Derived.Shelf.SortM.SortNone
set_option linter.unusedVariables false
set_option linter.unusedSimpArgs false
namespace Hyp
open Go Go.Proofs Go.Shelf Go.Sort
def sortI (xs : List (List UInt8)) : Option (List (List UInt8)) := if xs.length < 4611686018427387904 then some (xs.mergeSort fun x y => decide (x ≤ y)) else none
def S_sortStr : Summ := fun avs L b => match avs with
  | [.whole k s] => match rowOf L k .str with
    | some xs => .get (sortI xs) fun ys => .ret (.tup .un, setE L k ⟨k, b, .row .str ys⟩, b + 1)
    | none => .fail
  | [.snil _] => .ret (.tup .un, L, b)
  | _ => .fail
section
variable {α : Type} [Inhabited α] {enc : α → Value} {w : World} {blk off n : Nat} {d : Array α} {os : Array Obj}
theorem sorted_size : w.heap.size ≤ (grow (putRow enc (Sort.ahead w n) blk off d) os).heap.size := by
  simp [grow, putRow, mapBlock, Sort.ahead]
theorem sorted_same {b : Nat} (hb : b < w.heap.size) (hne : b ≠ blk) : (grow (putRow enc (Sort.ahead w n) blk off d) os).heap[b]? = w.heap[b]? := by
  have h1 : b < (w.heap.modify blk (onCells (putCells enc off d))).size := by simpa using hb
  show ((w.heap.modify blk (onCells (putCells enc off d))) ++ os)[b]? = _
  rw [Array.getElem?_append_left h1, Array.getElem?_modify, if_neg (fun h => hne h.symm)]
theorem sorted_cells {cs : Array Value} {T : TypeId} {z : Nat × Nat} (h : w.heap[blk]? = some (.cells cs T z)) : (grow (putRow enc (Sort.ahead w n) blk off d) os).heap[blk]? = some (.cells (putCells enc off d cs) T z) := by
  have hb := (Array.getElem?_eq_some_iff.1 h).1
  have h1 : blk < (w.heap.modify blk (onCells (putCells enc off d))).size := by simpa using hb
  show ((w.heap.modify blk (onCells (putCells enc off d))) ++ os)[blk]? = _
  rw [Array.getElem?_append_left h1, Array.getElem?_modify, if_pos rfl, h]; rfl
end
theorem flatMap_str : ∀ xs : List (List UInt8), xs.flatMap (fun x => [Hyp.str x]) = xs.map Hyp.str
  | [] => rfl
  | x :: xs => by rw [List.flatMap_cons, flatMap_str xs]; rfl
theorem str_cells {Z : Nat → Prop} {w : World} {xs : List (List UInt8)} {cs : List Value} (h : (RV xs.length (Ty.str).rty).rel Z w xs cs) : cs = xs.map Hyp.str := by
  have := chunks (A := (Ty.str).rty) (f := fun x => [Hyp.str x]) xs cs (by rw [h.2.1]) fun i x hx => h.2.2.2 i x hx
  rw [this, flatMap_str]
theorem str_rel {Z : Nat → Prop} {w : World} {n : Nat} {xs : List (List UInt8)} (hn : xs.length = n) : (RV n (Ty.str).rty).rel Z w xs (xs.map Hyp.str) := by
  refine ⟨hn, ?_, ?_, fun i x hx => ?_⟩
  · rw [List.length_map, hn]; exact (Nat.mul_one n).symm
  · clear hn
    induction xs with
    | nil => rfl
    | cons x xs ih => exact ih
  · show ((xs.map Hyp.str).drop (i * 1)).take 1 = [Hyp.str x]
    have hi := (List.getElem?_eq_some_iff.1 hx).1
    have hx' : xs[i] = x := (List.getElem?_eq_some_iff.1 hx).2
    rw [Nat.mul_one, List.drop_eq_getElem_cons (by simpa using hi)]
    simp [hx']
theorem putCells_get {cs : Array Value} {off : Nat} {ys : List (List UInt8)} (hl : off + ys.length ≤ cs.size) {j : Nat} (hj : j < ys.length) : (putCells encStr off ys.toArray cs)[off + j]? = (ys.map Hyp.str)[j]? := by
  have h1 : off + j < cs.size := by omega
  unfold putCells
  rw [Array.getElem?_mapIdx, Array.getElem?_eq_getElem h1, List.getElem?_map, List.getElem?_eq_getElem hj]
  simp [hj, Hyp.str]
theorem ok_sortStr {P : Program} {ρ : Ren} (Ly : SlLaysM.n6 P ρ) : SoundF P (ρ.f 6) S_sortStr := by
  intro avs L b R hr B ν w F vs H hs
  unfold S_sortStr at hr
  split at hr
  · rename_i k s
    split at hr
    · rename_i xs hrow
      match vs, hs with
      | [v], ⟨hv, _⟩ =>
        obtain ⟨i, vid, h1, h2, h3, hk, hset⟩ := rowOf_set H hrow
        obtain ⟨_, _, hvv⟩ := sl_whole hv
        have hc := str_cells h3
        obtain ⟨g1, g2, g3⟩ := H.own.get h2
        rw [← hvv] at g1 g3
        obtain ⟨ys, hy, hr⟩ : ∃ ys, sortI xs = some ys ∧ R (.tup .un, setE L k ⟨k, b, .row .str ys⟩, b + 1) := hr
        unfold sortI at hy
        split at hy
        · rename_i hsz
          cases hy
          have hlen : (xs.mergeSort fun x y => decide (x ≤ y)).length = xs.length := List.length_mergeSort _
          generalize hys : (xs.mergeSort fun x y => decide (x ≤ y)) = ys at hr hlen
          have fin : ∀ w' : World, w.heap.size ≤ w'.heap.size → (∀ b, b < w.heap.size → ¬ ownB v b → w'.heap[b]? = w.heap[b]?) → (row 1 v ys.length (ys.map Hyp.str)).holds w' → (∀ b, ownB v b → b < w.heap.size) → Kept w w' →
              Ret (GivesR B ν b w L F R) (.returned (.tuple #[])) w' := by
            intro w' q1 q2 q3 q4 q5
            have hown : Own w (footU (ents ν L ++ F)) w' ((ents ν L ++ F).set i (row 1 v ys.length (ys.map Hyp.str))) :=
              H.own.put i h2 q1 (fun b hb hf => q2 b hb (by rw [hvv]; exact hf)) q3 (fun b hf => ⟨Nat.lt_of_lt_of_le (q4 b hf) q1, fun _ => by rw [row_foot, ← hvv]; exact hf⟩) q5
            have hl := H.set (m := ⟨0, undef, ys.map Hyp.str⟩) (e' := ⟨k, b, .row .str ys⟩) h1 (Nat.lt_succ_of_lt hk) rfl (w' := w') (by
              show Own _ _ _ (List.set _ i (row 1 (updN ν b _ k).v ys.length (updN ν b _ b).cs))
              rw [updN_same, updN_lt _ _ _ _ hk, ← hvv]; exact hown) (fun Z' h => str_rel rfl)
            rw [← hset] at hl
            exact ⟨_, hr, _, hl, [], rfl, rfl⟩
          have low : ∀ b, ownB v b → b < w.heap.size := by
            rintro b ⟨ad, n, c, rfl, hc0, rfl⟩
            obtain ⟨_, cs0, T, z, hb, _⟩ := g3 ad n c rfl hc0
            exact (Array.getElem?_eq_some_iff.1 hb).1
          obtain ⟨a, c, rfl, hn, hm, ha⟩ := g1
          rw [hc] at g3
          by_cases h0 : xs.length = 0
          · have hx0 : xs = [] := List.length_eq_zero_iff.1 h0
            subst hx0
            have hy0 : ys = [] := List.length_eq_zero_iff.1 (hlen.trans rfl)
            subst hy0
            exact (AnyM.slices_Sort_string_none Ly a c w).mono fun e w' ⟨h1, h2⟩ => by
              subst h1; subst h2
              exact fin _ (Nat.le_refl _) (fun _ _ _ => rfl) ⟨⟨a, c, rfl, hn, hm, ha⟩, rfl, g3⟩ low (.refl _)
          · have hc0 : 0 < c := by omega
            obtain ⟨ad, rfl⟩ : ∃ ad, a = some ad := by
              cases a with
              | none => have := ha rfl; omega
              | some ad => exact ⟨ad, rfl⟩
            obtain ⟨hsp, cs0, T, z, hb, hfz, hoff, hget⟩ := g3 ad _ c rfl hc0
            obtain ⟨blk, off, sp⟩ := ad
            simp only at hsp hb hoff hget
            have hoff : off + c * 1 ≤ cs0.size := hoff
            rw [Nat.mul_one] at hoff
            subst hsp
            have hblk := (Array.getElem?_eq_some_iff.1 hb).1
            refine (AnyM.slices_Sort_string Ly blk off c xs w (fun j hj => ?_) hblk hsz).mono fun e w' ⟨h1, n, os, h2⟩ => ?_
            · have hj' : j < xs.length := by simpa using hj
              have hgj := hget j (by simpa using hj')
              rw [List.getElem?_map, List.getElem?_eq_getElem hj'] at hgj
              have hlt := (Array.getElem?_eq_some_iff.1 hgj).1
              refine ⟨?_, ?_⟩
              · simp only [World.cell?, hb, hgj]
                simp [hj', Hyp.str]
              · have := hfz _ hlt
                simp only [World.frozen?, hb]
                simpa using this
            · rw [hys] at h2
              subst h1; subst h2
              refine fin _ sorted_size (fun b hb' hne => sorted_same hb' fun h => hne (by subst h; exact ⟨_, _, _, rfl, hc0, rfl⟩)) ⟨⟨_, c, by rw [hlen], by omega, hm, ha⟩, by simp, fun ad n' c' he h0' => ?_⟩ low ⟨rfl, rfl, rfl, Nat.le_add_right _ _⟩
              cases he
              refine ⟨rfl, _, T, z, sorted_cells hb, fun i hi => hfz i (by simpa [putCells] using hi), by rw [Nat.mul_one]; simpa [putCells] using hoff, fun j hj => ?_⟩
              exact putCells_get (by omega) (by simpa using hj)
        · cases hy
    · exact hr.elim
  · rename_i e
    match vs, hs with
    | [v], ⟨hv, _⟩ =>
      have hv' : v = .slice none 0 0 := List.head_eq_of_cons_eq (show [v] = [_] from hv)
      subst hv'
      exact (AnyM.slices_Sort_string_none Ly none 0 w).mono fun e w' ⟨h1, h2⟩ => by
        subst h1; subst h2
        exact ⟨_, hr, ν, H.stay, [], rfl, rfl⟩
  · exact hr.elim
end Hyp
