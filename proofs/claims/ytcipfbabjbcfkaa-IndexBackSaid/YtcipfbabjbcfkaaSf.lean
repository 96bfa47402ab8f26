/- slices.SortFunc at structs, as the machine sees it: by the kit's contract. -/
import Derived.Test.YtcipfbabjbcfkaaSj
import Derived.Shelf.SlSortCmp.NoneTotal
set_option linter.unusedVariables false
set_option linter.unusedSimpArgs false
namespace Hyp
open Go Go.Proofs Go.Shelf Go.Sort
/-- A call that reads no memory: the world has only grown. -/
theorem calls_grow {P : Program} {g : FuncId} {S : Summ} {avs : List AV} {x : Int} {w : World} {vs : List Value} (hS : SoundF P g S) (hrun : (S avs [] 0).Runs fun r => r.1 = .val (.sint .i64) x ∧ r.2.1 = []) (hs : ∀ Z, slotsR nu0 0 Z w avs vs) :
    Calls P g vs.toArray w fun e w' => e = .returned (.int .i64 x) ∧ ∃ q os, w' = grow (w.drewN q) os := by
  have H : Here (topB w) nu0 0 w [] [] := ⟨Own.start w _, fun e he => by cases he⟩
  refine (hS _ _ _ _ hrun (topB w) nu0 w [] vs H (hs _)).mono fun e w' he => ?_
  cases e with
  | returned v =>
    obtain ⟨⟨a, L', b'⟩, ⟨h1, h2⟩, ν', hl, hv⟩ := he
    simp only at h1 h2
    subst h1; subst h2
    have hv' : v = .int .i64 x := List.head_eq_of_cons_eq (show [v] = [_] from hv)
    refine ⟨by rw [hv'], w'.drawn - w.drawn, w'.heap.extract w.heap.size w'.heap.size, ?_⟩
    have ho := hl.own
    obtain ⟨k1, k2, k3, k4⟩ := ho.kept
    have hh : w'.heap = w.heap ++ w'.heap.extract w.heap.size w'.heap.size := by
      apply Array.ext
      · simp; have := ho.size; omega
      · intro i h1 h2
        rw [Array.getElem_append]
        split
        · rename_i hi
          have := ho.old i hi (by rintro ⟨e, he, _⟩; simp at he)
          rw [Array.getElem?_eq_getElem h1, Array.getElem?_eq_getElem hi] at this
          exact Option.some.inj this
        · rename_i hi
          rw [Array.getElem_extract]
          congr 1
          omega
    have hd : w'.drawn = w.drawn + (w'.drawn - w.drawn) := by omega
    show w' = { w with heap := w.heap ++ _, drawn := w.drawn + (w'.drawn - w.drawn) }
    rw [← hh, ← hd, ← k1, ← k2, ← k3]
  | panicked _ => exact he.elim
  | outgrown => exact he.elim
theorem law_ofR {S : Tree MR} {β : Type} {t : Tree β} {x : β} {f : β → MR} {Q : MR → Prop} (h : t.run = some x) (e : S = .sub t fun r => .ret (f r)) (hq : Q (f x)) : S.Runs Q := by
  subst e
  exact Tree.Runs.mono (t := t) (Tree.Runs.of h) fun y hy => by subst hy; exact hq
def sortF {α : Type} (good : List α → Bool) (ord : α → α → Int) (xs : List α) : Option (List α) :=
  if good xs = true ∧ xs.length < 4611686018427387904 then some (xs.mergeSort fun x y => !decide (ord y x < 0)) else none
def S_sortF (t : Ty) (good : List t.den → Bool) (ord : t.den → t.den → Int) (g : Nat) : Summ := fun avs L b => match avs with
  | [.whole k s, .clo g' .un] => bif Nat.beq g g' then (match rowOf L k t with
    | some xs => .get (sortF good ord xs) fun ys => .ret (.tup .un, setE L k ⟨k, b, .row t ys⟩, b + 1)
    | none => .fail) else .fail
  | [.snil _, _] => .ret (.tup .un, L, b)
  | _ => .fail
section
variable {α : Type} [Inhabited α] {enc : α → List Value} {k : Nat} {w : World} {blk off n : Nat} {d : Array α} {os : Array Obj}
theorem sortedK_size : w.heap.size ≤ (sortWorldK enc k w blk off n d os).heap.size := by
  simp [sortWorldK, putRowK, grow, putRow, mapBlock, Sort.ahead]
theorem sortedK_same {b : Nat} (hb : b < w.heap.size) (hne : b ≠ blk) : (sortWorldK enc k w blk off n d os).heap[b]? = w.heap[b]? := sorted_same hb hne
theorem sortedK_cells {cs : Array Value} {T : TypeId} {z : Nat × Nat} (h : w.heap[blk]? = some (.cells cs T z)) : (sortWorldK enc k w blk off n d os).heap[blk]? = some (.cells (putCells id off (flatK enc k d) cs) T z) := sorted_cells h
/-- The cells, one behind the other. -/
theorem flat_at {β : Type} {f : β → List Value} {k : Nat} : ∀ {l : List β}, (∀ x ∈ l, (f x).length = k) → ∀ {j : Nat} (hk : 0 < k), (l.flatMap f)[j]? = (l[j / k]?).bind fun x => (f x)[j % k]?
  | [], _, j, _ => by simp
  | x :: l, h, j, hk => by
    rw [List.flatMap_cons, List.getElem?_append]
    have hx := h x (.head _)
    rw [hx]
    split
    · rename_i hj
      rw [Nat.div_eq_of_lt hj, Nat.mod_eq_of_lt hj]
      rfl
    · rename_i hj
      rw [flat_at (fun y hy => h y (.tail _ hy)) hk]
      obtain ⟨m, rfl⟩ : ∃ m, j = m + k := ⟨j - k, by omega⟩
      rw [Nat.add_sub_cancel, Nat.add_div_right _ hk, Nat.add_mod_right]
      rfl
theorem flatK_at {β : Type} {f : β → List Value} {v : α → β} (henc : ∀ x, enc x = f (v x)) (hk : 0 < k) (hl : ∀ x, (enc x).length = k) {j : Nat} (hj : j < d.size * k) : (flatK enc k d)[j]? = ((d.toList.map v).flatMap f)[j]? := by
  rw [flat_at (k := k) (by intro y hy; obtain ⟨x, _, rfl⟩ := List.mem_map.1 hy; rw [← henc]; exact hl x) hk]
  have h1 : j / k < d.size := by rw [Nat.div_lt_iff_lt_mul hk]; exact hj
  have h2 : j % k < k := Nat.mod_lt _ hk
  have h3 : j < (flatK enc k d).size := by simpa using hj
  rw [Array.getElem?_eq_getElem h3]
  have h4 := get_flatK enc k d j hj
  rw [getElem!_pos _ j h3] at h4
  rw [h4, List.getElem?_map, Array.getElem?_toList, Array.getElem?_eq_getElem h1, getElem!_pos d _ h1, Option.map_some, Option.bind_some, ← henc]
  have h5 : j % k < (enc d[j / k]).length := by rw [hl]; exact h2
  rw [getElem!_pos (enc d[j / k]) (j % k) h5, List.getElem?_eq_getElem h5]
end
theorem flat_rel {t : Ty} {Z : Nat → Prop} {w : World} : ∀ {xs : List t.den}, (∀ x ∈ xs, t.rty.rel Z w x (t.enc x)) → (RV xs.length t.rty).rel Z w xs (xs.flatMap t.enc) := by
  intro xs h
  have hlen : ∀ x ∈ xs, (t.enc x).length = t.rty.sz := fun x hx => t.rty.len (h x hx)
  have hl : (xs.flatMap t.enc).length = xs.length * t.rty.sz := by
    clear h
    induction xs with
    | nil => simp
    | cons x xs ih => rw [List.flatMap_cons, List.length_append, hlen x (.head _), ih fun y hy => hlen y (.tail _ hy), List.length_cons, Nat.succ_mul, Nat.add_comm]
  have ho : ones (xs.flatMap t.enc) = true := by
    simp only [ones, List.all_eq_true, List.mem_flatMap]
    rintro v ⟨x, hx, hv⟩
    have := t.rty.one (h x hx)
    simp only [ones, List.all_eq_true] at this
    exact this v hv
  refine ⟨rfl, hl, ho, ?_⟩
  clear hl ho
  induction xs with
  | nil => intro i x hx; simp at hx
  | cons x xs ih =>
    intro i y hy
    cases i with
    | zero =>
      simp only [List.getElem?_cons_zero, Option.some.injEq] at hy
      subst hy
      rw [Nat.zero_mul, List.drop_zero, List.flatMap_cons, ← hlen x (.head _), List.take_left]
      exact h x (.head _)
    | succ i =>
      rw [List.flatMap_cons, Nat.succ_mul, Nat.add_comm, ← List.drop_drop]
      conv => rhs; rw [show (t.enc x ++ xs.flatMap t.enc).drop t.rty.sz = xs.flatMap t.enc by rw [← hlen x (.head _)]; exact List.drop_left]
      exact ih (fun z hz => h z (.tail _ hz)) (fun z hz => hlen z (.tail _ hz)) i y (by simpa using hy)
theorem mem_rel {t : Ty} (hf : t.flat = true) {Z : Nat → Prop} {w : World} {n : Nat} {xs : List t.den} {cs : List Value} (h : (RV n t.rty).rel Z w xs cs) : cs = xs.flatMap t.enc ∧ ∀ x ∈ xs, ∀ {Z' : Nat → Prop} {w' : World}, t.rty.rel Z' w' x (t.enc x) := by
  obtain ⟨h1, h2, h3, h4⟩ := h
  refine ⟨chunks (A := t.rty) xs cs (by rw [h2, h1]) fun i x hx => t.rel_enc hf (h4 i x hx), fun x hx Z' w' => ?_⟩
  obtain ⟨i, hi⟩ := List.mem_iff_getElem?.1 hx
  have := h4 i x hi
  have he := t.rel_enc hf this
  rw [he] at this
  exact t.rel_any hf this
theorem lt_enc {t : Ty} {Z : Nat → Prop} {w : World} {x : t.den} (h : t.rty.rel Z w x (t.enc x)) : (t.enc x).length = t.sz := by rw [t.rty.len h, t.sz_rty]
/-- What is asked of an order. -/
structure OrdOK {α : Type} (good : List α → Bool) (ord : α → α → Int) : Prop where
  irrefl : ∀ xs, good xs = true → ∀ x ∈ xs, ¬ ord x x < 0
  trans : ∀ xs, good xs = true → ∀ x ∈ xs, ∀ y ∈ xs, ∀ z ∈ xs, ord x y < 0 → ord y z < 0 → ord x z < 0
  ntrans : ∀ xs, good xs = true → ∀ x ∈ xs, ∀ y ∈ xs, ∀ z ∈ xs, ¬ ord x y < 0 → ¬ ord y z < 0 → ¬ ord x z < 0
  total : ∀ xs, good xs = true → ∀ x ∈ xs, ∀ y ∈ xs, ¬ ord x y < 0 → ¬ ord y x < 0 → x = y
theorem ok_sortF {P : Program} {ρ : Ren} (Ly : SlLaysF0.n6 P ρ) {t : Ty} {good : List t.den → Bool} {ord : t.den → t.den → Int} {g : Nat} {S : Summ} (hf : t.flat = true) (hsz : 0 < t.sz) (aE : ∀ w, (isAgg (ρ.t 24)).run P w = .ok true w) (zE : ∀ w, (Go.sizeOf (ρ.t 24)).run P w = .ok t.sz w)
    (eg : ∀ args w, (callFunc g args).run P w = .ok (.enter g args) w) (hO : OrdOK good ord) (hS : SoundF P g S) {avs : t.den → t.den → List AV}
    (hv : ∀ (Z : Nat → Prop) (w : World) x y, t.rty.rel Z w x (t.enc x) → t.rty.rel Z w y (t.enc y) → slotsR nu0 0 Z w (avs x y) [.agg (t.enc x).toArray, .agg (t.enc y).toArray])
    (hR : ∀ xs, good xs = true → ∀ x ∈ xs, ∀ y ∈ xs, (∃ (Z : Nat → Prop) (w : World), t.rty.rel Z w x (t.enc x)) → (∃ (Z : Nat → Prop) (w : World), t.rty.rel Z w y (t.enc y)) → (S (avs x y) [] 0).Runs fun r => r.1 = .val (.sint .i64) (ord x y) ∧ r.2.1 = []) : SoundF P (ρ.f 6) (S_sortF t good ord g) := by
  intro as_ L b R hr B ν w F vs H hs
  unfold S_sortF at hr
  split at hr
  · rename_i k s g'
    cases hg : Nat.beq g g' <;> rw [hg] at hr
    · exact hr.elim
    obtain rfl := Nat.eq_of_beq_eq_true hg
    rw [cond_true] at hr
    split at hr
    · rename_i xs hrow
      match vs, hs with
      | [v, u], ⟨hv0, hu, _⟩ =>
        obtain ⟨us, hu1, hu2⟩ : ∃ us : List Value, [u] = [.func (.func g) #[] us.toArray] ∧ us = [] := hu
        obtain rfl : u = .func (.func g) #[] #[] := by subst hu2; exact List.head_eq_of_cons_eq hu1
        obtain ⟨i, vid, h1, h2, h3, hk, hset⟩ := rowOf_set H hrow
        obtain ⟨_, _, hvv⟩ := sl_whole hv0
        obtain ⟨hc, hmem⟩ := mem_rel hf h3
        obtain ⟨g1, g2, g3⟩ := H.own.get h2
        rw [← hvv] at g1 g3
        obtain ⟨ys, hy, hr⟩ : ∃ ys, sortF good ord xs = some ys ∧ R (.tup .un, setE L k ⟨k, b, .row t ys⟩, b + 1) := hr
        unfold sortF at hy
        split at hy
        · rename_i hgs
          obtain ⟨hgood, hlt⟩ := hgs
          cases hy
          have hlen : (xs.mergeSort fun x y => !decide (ord y x < 0)).length = xs.length := List.length_mergeSort _
          have hperm : (xs.mergeSort fun x y => !decide (ord y x < 0)).Perm xs := List.mergeSort_perm _ _
          generalize hys : (xs.mergeSort fun x y => !decide (ord y x < 0)) = ys at hr hlen hperm
          have hmem' : ∀ y ∈ ys, ∀ {Z' : Nat → Prop} {w' : World}, t.rty.rel Z' w' y (t.enc y) := fun y hy => hmem y (hperm.mem_iff.1 hy)
          have fin : ∀ w' : World, w.heap.size ≤ w'.heap.size → (∀ b, b < w.heap.size → ¬ ownB v b → w'.heap[b]? = w.heap[b]?) → (row t.sz v ys.length (ys.flatMap t.enc)).holds w' → (∀ b, ownB v b → b < w.heap.size) → Kept w w' →
              Ret (GivesR B ν b w L F R) (.returned (.tuple #[])) w' := by
            intro w' q1 q2 q3 q4 q5
            have hown : Own w (footU (ents ν L ++ F)) w' ((ents ν L ++ F).set i (row t.sz v ys.length (ys.flatMap t.enc))) :=
              H.own.put i h2 q1 (fun b hb hf => q2 b hb (by rw [hvv]; exact hf)) q3 (fun b hf => ⟨Nat.lt_of_lt_of_le (q4 b hf) q1, fun _ => by rw [row_foot, ← hvv]; exact hf⟩) q5
            have hl := H.set (m := ⟨0, undef, ys.flatMap t.enc⟩) (e' := ⟨k, b, .row t ys⟩) h1 (Nat.lt_succ_of_lt hk) rfl (w' := w') (by
              show Own _ _ _ (List.set _ i (row t.sz (updN ν b _ k).v ys.length (updN ν b _ b).cs))
              rw [updN_same, updN_lt _ _ _ _ hk, ← hvv]; exact hown) (fun Z' h => flat_rel fun y hy => hmem' y hy)
            rw [← hset] at hl
            exact ⟨_, hr, _, hl, [], rfl, rfl⟩
          have low : ∀ b, ownB v b → b < w.heap.size := by
            rintro b ⟨ad, n, c, rfl, hc0, rfl⟩
            obtain ⟨_, cs0, T, z, hb, _⟩ := g3 ad n c rfl hc0
            exact (Array.getElem?_eq_some_iff.1 hb).1
          obtain ⟨a, c, rfl, hn, hm, ha⟩ := g1
          rw [hc] at g3
          by_cases h0 : xs.length = 0
          · have hx0 : xs = [] := List.length_eq_zero_iff.1 h0
            subst hx0
            have hy0 : ys = [] := List.length_eq_zero_iff.1 (hlen.trans rfl)
            subst hy0
            exact (AnyF.slices_SortFunc_none Ly a c _ w).mono fun e w' ⟨h1, h2⟩ => by
              subst h1; subst h2
              exact fin _ (Nat.le_refl _) (fun _ _ _ => rfl) ⟨⟨a, c, rfl, hn, hm, ha⟩, by simp, g3⟩ low (.refl _)
          · have hc0 : 0 < c := by omega
            obtain ⟨ad, rfl⟩ : ∃ ad, a = some ad := by
              cases a with
              | none => have := ha rfl; omega
              | some ad => exact ⟨ad, rfl⟩
            obtain ⟨hsp, cs0, T, z, hb, hfz, hoff, hget⟩ := g3 ad _ c rfl hc0
            obtain ⟨blk, off, sp⟩ := ad
            simp only at hsp hb hoff hget
            subst hsp
            have hblk := (Array.getElem?_eq_some_iff.1 hb).1
            have hne : xs ≠ [] := fun h => h0 (by rw [h]; rfl)
            obtain ⟨x0, hx0⟩ : ∃ x, x ∈ xs := List.exists_mem_of_ne_nil _ hne
            let α := { x : t.den // x ∈ xs }
            letI : Inhabited α := ⟨⟨x0, hx0⟩⟩
            let enc : α → List Value := fun x => t.enc x.1
            have hke : ∀ x : α, (enc x).length = t.sz := fun x => lt_enc (Z := fun _ => True) (w := w) (hmem x.1 x.2)
            have h1e : ∀ x : α, ∀ v ∈ enc x, v.oneCell' = true := fun x v hv => by
              have := t.rty.one (hmem x.1 x.2 (Z' := fun _ => True) (w' := w))
              simp only [ones, List.all_eq_true] at this
              exact this v hv
            let cf : α → α → Int := fun x y => ord x.1 y.1
            have hSW : SWO (ltOf cf) := by
              refine ⟨fun x => ?_, fun x y z h1 h2 => ?_, fun x y z h1 h2 => ?_⟩
              · have := hO.irrefl xs hgood x.1 x.2
                simpa [ltOf, cf] using this
              · simp only [ltOf, cf, decide_eq_true_eq] at h1 h2 ⊢
                exact hO.trans xs hgood x.1 x.2 y.1 y.2 z.1 z.2 h1 h2
              · simp only [ltOf, cf, decide_eq_false_iff_not] at h1 h2 ⊢
                exact hO.ntrans xs hgood x.1 x.2 y.1 y.2 z.1 z.2 h1 h2
            have hT : ∀ x y, (ltOf cf) x y = false → (ltOf cf) y x = false → x = y := fun x y h1 h2 => by
              simp only [ltOf, cf, decide_eq_false_iff_not] at h1 h2
              exact Subtype.ext (hO.total xs hgood x.1 x.2 y.1 y.2 h1 h2)
            let d : Array α := xs.attach.toArray
            have hds : d.size = xs.length := by show xs.attach.toArray.size = _; rw [List.size_toArray, List.length_attach]
            have hdm : d.toList.map (·.1) = xs := List.attach_map_subtype_val xs
            have hcmp : CmpLays P g #[] enc t.sz cf blk off d.size w := fun m os dk _ x y => by
              have := calls_grow (w := sortWorldK enc t.sz w blk off m dk os) (vs := [.agg (enc x).toArray, .agg (enc y).toArray]) hS (hR xs hgood x.1 x.2 y.1 y.2 ⟨fun _ => True, w, hmem x.1 x.2⟩ ⟨fun _ => True, w, hmem y.1 y.2⟩) (fun Z => hv Z _ x.1 y.1 (hmem x.1 x.2) (hmem y.1 y.2))
              simpa using this
            have hcat : ∀ j, j < xs.length * t.sz → (flatK enc t.sz d)[j]? = (xs.flatMap t.enc)[j]? := fun j hj => by
              have := flatK_at (d := d) (enc := enc) (f := t.enc) (v := (·.1)) (fun _ => rfl) hsz hke (j := j) (by rw [hds]; exact hj)
              rw [this, hdm]
            have hfl : (xs.flatMap t.enc).length = xs.length * t.sz := by
              have := (flat_rel (Z := fun _ => True) (w := w) fun x hx => hmem x hx).2.1
              rw [this, t.sz_rty]
            have hH : HoldsK enc t.sz w blk off d := by
              intro j hj
              have hj' : j < xs.length * t.sz := by rw [size_flatK, hds] at hj; exact hj
              have hgj := hget j (by rw [hfl]; exact hj')
              have hcj := hcat j hj'
              rw [Array.getElem?_eq_getElem hj] at hcj
              have hlt' : off + j < cs0.size := by
                have h1 := Nat.mul_le_mul_right t.sz hn
                omega
              rw [← hcj] at hgj
              refine ⟨?_, ?_⟩
              · simp only [World.cell?, hb, hgj]
                rw [if_neg (by simp), getElem!_pos (flatK enc t.sz d) j hj]
                rfl
              · have := hfz _ hlt'
                simp only [World.frozen?, hb]
                simpa using this
            have hmain := AnyQ.slices_SortFunc_total Ly t.sz aE zE enc hke h1e cf hSW g #[] blk off c d w eg hcmp hH hblk (by rw [hds]; exact hlt) hT
            rw [hds] at hmain
            refine hmain.mono fun e w' ⟨h1, n, os, h2⟩ => ?_
            have hsorted : (d.toList.mergeSort fun x y => !(ltOf cf) y x).map (·.1) = ys := by
              rw [List.map_mergeSort (s := fun x y => !decide (ord y x < 0)) (by intro a _ b _; rfl), hdm, hys]
            generalize hd2 : (d.toList.mergeSort fun x y => !(ltOf cf) y x).toArray = d2 at h2
            have hd2m : d2.toList.map (·.1) = ys := by rw [← hd2]; exact hsorted
            have hd2s : d2.size = ys.length := by rw [← hd2m]; simp
            have hcat2 : ∀ j, j < ys.length * t.sz → (flatK enc t.sz d2)[j]? = (ys.flatMap t.enc)[j]? := fun j hj => by
              have := flatK_at (d := d2) (enc := enc) (f := t.enc) (v := (·.1)) (fun _ => rfl) hsz hke (j := j) (by rw [hd2s]; exact hj)
              rw [this, hd2m]
            have hfl2 : (ys.flatMap t.enc).length = ys.length * t.sz := by
              have := (flat_rel (Z := fun _ => True) (w := w) fun x hx => hmem' x hx).2.1
              rw [this, t.sz_rty]
            subst h1; subst h2
            refine fin _ sortedK_size (fun b hb' hne => sortedK_same hb' fun h => hne (by subst h; exact ⟨_, _, _, rfl, hc0, rfl⟩)) ⟨⟨_, c, by rw [hlen], by omega, hm, ha⟩, hfl2, fun ad n' c' he h0' => ?_⟩ low ⟨rfl, rfl, rfl, Nat.le_add_right _ _⟩
            cases he
            refine ⟨rfl, _, T, z, sortedK_cells hb, fun i hi => hfz i (by simpa [putCells] using hi), by simpa [putCells] using hoff, fun j hj => ?_⟩
            have hj' : j < ys.length * t.sz := by rw [hfl2] at hj; exact hj
            have hlt' : off + j < cs0.size := by
              have h1 := Nat.mul_le_mul_right t.sz hn
              rw [hlen] at hj'
              omega
            unfold putCells
            rw [Array.getElem?_mapIdx, Array.getElem?_eq_getElem hlt', ← hcat2 j hj']
            have hsz2 : j < (flatK enc t.sz d2).size := by rw [size_flatK, hd2s]; exact hj'
            rw [Array.getElem?_eq_getElem hsz2]
            simp only [Option.map_some, Option.some.injEq, id]
            rw [if_pos ⟨by omega, by omega⟩, show off + j - off = j by omega, getElem!_pos (flatK enc t.sz d2) j hsz2]
        · cases hy
    · exact hr.elim
  · rename_i e a
    match vs, hs with
    | [v, u], ⟨hv, _⟩ =>
      have hv' : v = .slice none 0 0 := List.head_eq_of_cons_eq (show [v] = [_] from hv)
      subst hv'
      exact (AnyF.slices_SortFunc_none Ly none 0 u w).mono fun e w' ⟨h1, h2⟩ => by
        subst h1; subst h2
        exact ⟨_, hr, ν, H.stay, [], rfl, rfl⟩
  · exact hr.elim
end Hyp
