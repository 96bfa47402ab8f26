/- Rules on memory: new blocks, stores, elements of slices, append. -/
import Derived.Test.YtdlbmjbbnplpjaaXd
set_option linter.unusedVariables false
set_option linter.unusedSimpArgs false
namespace Hyp
open Go
theorem run_storeCells_z (P : Program) (g o : Nat) (t : TypeId) (z : Nat × Nat) : ∀ (vs : List Value) (i : Nat) (cur : Array Value) (w : World), w.heap[g]? = some (.cells cur t z) → (∀ j, j < cur.size → ¬ (z.1 ≤ j ∧ j < z.2)) →
    o + i + vs.length ≤ cur.size → (∀ v ∈ vs, v.oneCell' = true) →
    (storeCells ⟨g, o, none⟩ vs i).run P w = .ok () (w.setRow g (cur.toList.take (o + i) ++ vs ++ cur.toList.drop (o + i + vs.length)).toArray)
  | [], i, cur, w, hg, _, _, _ => by
    simp only [storeCells, List.append_nil, List.length_nil, Nat.add_zero, List.take_append_drop, Array.toArray_toList]
    rw [setRow_self w g cur t z hg]
    rfl
  | v :: rest, i, cur, w, hg, hz, hl, h1 => by
    have hi : o + i < cur.size := by simp at hl; omega
    have hadd : (⟨g, o, none⟩ : Addr).add i = ⟨g, o + i, none⟩ := by unfold Addr.add; split <;> simp_all
    have hcell : w.cell? ⟨g, o + i, none⟩ = some cur[o + i] := by simp [World.cell?, hg, hi]
    have hfro : w.frozen? ⟨g, o + i, none⟩ = false := by
      have := hz (o + i) hi
      simp only [World.frozen?, hg, Bool.and_eq_false_iff, decide_eq_false_iff_not]
      omega
    have hst : (store ((⟨g, o, none⟩ : Addr).add i) v).run P w = .ok () (w.setRow g (cur.setIfInBounds (o + i) v)) := by
      rw [hadd, run_store P w _ v _ (h1 v (by simp)), hcell]
      simp [hfro, setCell_eq_setRow w g (o + i) cur t z v hg]
    have ih := run_storeCells_z P g o t z rest (i + 1) (cur.setIfInBounds (o + i) v) (w.setRow g (cur.setIfInBounds (o + i) v)) (setRow_heap w g cur _ t _ hg) (by simpa using hz) (by simp at hl ⊢; omega) (fun x hx => h1 x (by simp [hx]))
    simp only [storeCells, Sem.run_bind, hst, Result.andThen_ok, ih, setRow_setRow]
    congr 3
    have e := list_seg_step cur.toList (o + i) v rest (by simp at hl ⊢; omega)
    simpa [Array.toList_setIfInBounds, Nat.add_assoc] using e
/-- cs with ys from place i on. -/
def splice (cs : List Value) (i : Nat) (ys : List Value) : List Value := cs.take i ++ ys ++ cs.drop (i + ys.length)
def ones (ys : List Value) : Bool := ys.all fun v => v.oneCell'
theorem ones_mem {ys : List Value} (h : ones ys = true) : ∀ v ∈ ys, v.oneCell' = true := by simpa [ones] using h
theorem splice_get (cs : List Value) (i : Nat) (ys : List Value) (h : i + ys.length ≤ cs.length) (j : Nat) : (splice cs i ys)[j]? = if i ≤ j ∧ j < i + ys.length then ys[j - i]? else cs[j]? := by
  have h1 : (cs.take i).length = i := by rw [List.length_take]; omega
  unfold splice
  by_cases hj : j < i
  · rw [if_neg (by omega), List.append_assoc, List.getElem?_append_left (by omega), List.getElem?_take_of_lt hj]
  · by_cases hj2 : j < i + ys.length
    · rw [if_pos (by omega), List.append_assoc, List.getElem?_append_right (by omega), h1, List.getElem?_append_left (by omega)]
    · rw [if_neg (by omega), List.getElem?_append_right (by simp [h1]; omega), List.getElem?_drop]
      congr 1
      simp [h1]; omega
theorem splice_length (cs : List Value) (i : Nat) (ys : List Value) (h : i + ys.length ≤ cs.length) : (splice cs i ys).length = cs.length := by
  simp [splice, List.length_take]; omega
def ZeroIs (P : Program) (T : TypeId) (z : Value) : Prop := ∃ i, P.info? T = some i ∧ i.zero = some z
theorem ZeroIs.of {P : Program} {T : TypeId} {z : Value} (h : (P.info? T).bind (·.zero) = some z) : ZeroIs P T z := by
  cases hi : P.info? T with
  | none => simp [hi] at h
  | some i => exact ⟨i, hi, by simpa [hi] using h⟩
section
variable {P : Program} {ty : TypeId} {f : Fr} {w : World} {K : Value → World → Prop} {w0 : World} {o : Nat → Prop} {l l' : List Ent}
theorem ZeroIs.run {T : TypeId} {z : Value} (h : ZeroIs P T z) : (zeroValue T).run P w = .ok z w := by
  obtain ⟨i, hi, hz⟩ := h
  simp [zeroValue, run_info hi, hz]
theorem Own.box (H : Own w0 o w l) (cs : List Value) (T : TypeId) : Own w0 o (w.alloc (.cells cs.toArray T)) (bx w.heap.size cs :: l) := by
  have h1 := H.alloc (.cells cs.toArray T)
  have h2 := h1.put (w' := w.alloc (.cells cs.toArray T)) 0 (e' := bx w.heap.size cs) rfl (Nat.le_refl _) (fun b _ _ => rfl) ⟨T, h1.get (k := 0) rfl⟩ (fun b hb => by
    simp at hb; subst hb; simp)
  simpa using h2
theorem o_alloc {T : TypeId} {z : Value} {cs : List Value} (hz : ZeroIs P T z) (hc : z.cells.toList = cs) (H : Own w0 o w l) (h : ∀ g w', Own w0 o w' (bx g cs :: l) → K (.pointer (some ⟨g, 0, none⟩)) w') : OpW P (.alloc T) ty f w K := by
  subst hc
  refine .of_run (v := .pointer (some ⟨w.heap.size, 0, none⟩)) (w' := w.alloc (.cells z.cells T)) ?_ (h _ _ ?_)
  · simp [execOp, bare, Instr.alloc, hz.run, newVar, newRow]
  · have := H.box z.cells.toList T
    simpa using this
theorem o_box {T : TypeId} {x : Operand} {v : Value} {cs : List Value} (hx : ev f x = v) (hc : v.cells.toList = cs) (H : Own w0 o w l) (h : ∀ g w', Own w0 o w' (bx g cs :: l) → K (.pointer (some ⟨g, 0, none⟩)) w') : OpW P (.box T x) ty f w K := by
  subst hc; subst hx
  refine .of_run (v := .pointer (some ⟨w.heap.size, 0, none⟩)) (w' := w.alloc (.cells (ev f x).cells T)) ?_ (h _ _ ?_)
  · simp [execOp, bare, Instr.box, newVar, newRow]
  · have := H.box (ev f x).cells.toList T
    simpa using this
/-- A store into a box. -/
theorem o_store {T : TypeId} {x y : Operand} {g off k : Nat} {cs ys cs' : List Value} {v : Value} (hk : l[k]? = some (bx g cs)) (H : Own w0 o w l) (hx : ev f x = .pointer (some ⟨g, off, none⟩)) (hy : ev f y = v) (hv : v.cells.toList = ys)
    (hs : SizeIs P T ys.length) (h1 : ones ys = true) (hl : off + ys.length ≤ cs.length) (hc : splice cs off ys = cs') (hl' : l.set k (bx g cs') = l') (h : ∀ w', Own w0 o w' l' → K undef w') : OpW P (.store T x y) ty f w K := by
  subst hv; subst hc; subst hl'
  obtain ⟨T', hT⟩ := H.get hk
  have hst := run_storeCells_z P g off T' (0, 0) v.cells.toList 0 cs.toArray w hT (by omega) (by simpa using hl) (ones_mem h1)
  refine .of_skip (w' := w.setRow g (splice cs off v.cells.toList).toArray) ?_ (h _ ?_)
  · have hsz : v.cells.size = v.cells.toList.length := by simp
    simp only [execOp, bare, hx, hy, Instr.storeAt, Instr.sureAddr, storeVar, Sem.run_bind, Sem.run_pure, Result.andThen_ok, hs.run, hsz, ne_eq, not_true, if_false]
    rw [hst]
    simp [splice]
  · refine H.put k hk (by simp) (fun b _ hb => setRow_other w g b _ hb) ⟨T', setRow_heap w g _ _ T' _ hT⟩ (fun b hb => ?_)
    simp at hb
    subst hb
    have := (Array.getElem?_eq_some_iff.1 hT).1
    simp [this]
/-- The address of an element. -/
theorem o_indexSl {T : TypeId} {x y : Operand} {e : TypeId} {v : Value} {n sz : Nat} {k : IntKind} {i : Int} {j : Nat} (hu : P.underlying T = some (.slice e)) (hs : SizeIs P e sz) (hx : ev f x = v) (hv : IsSl v n) (hy : ev f y = .int k i)
    (hj : i = (j : Int)) (hn : j < n) (h : K (.pointer (some (ptrOf v (j * sz)))) w) : OpW P (.indexAddr T x y) ty f w K := by
  subst hj
  obtain ⟨a, c, rfl, hc, _, ha⟩ := hv
  cases a with
  | none => have := ha rfl; omega
  | some ad =>
    refine .of_run ?_ h
    simp [execOp, bare, hx, hy, Instr.indexAt, asIntOf, run_und hu, hs.run, hn, ptrOf]
/-- The address of an array's element. -/
theorem o_indexArr {T : TypeId} {x y : Operand} {e : TypeId} {ad ad' : Addr} {n sz : Nat} {k : IntKind} {i : Int} {j : Nat} (hu : P.underlying T = some (.array n e)) (hs : SizeIs P e sz) (hx : ev f x = .pointer (some ad)) (hy : ev f y = .int k i)
    (hj : i = (j : Int)) (hn : j < n) (ha : ad.add (j * sz) = ad') (h : K (.pointer (some ad')) w) : OpW P (.indexAddr T x y) ty f w K := by
  subst hj; subst ha
  refine .of_run ?_ h
  simp [execOp, bare, hx, hy, Instr.indexAt, asIntOf, run_und hu, hs.run, hn, Instr.sureAddr]
/-- A store into an owned row. -/
theorem o_storeRow {T : TypeId} {x y : Operand} {sz n k i : Nat} {xs ys xs' : List Value} {v u : Value} (hk : l[k]? = some (row sz v n xs)) (H : Own w0 o w l) (hx : ev f x = .pointer (some (ptrOf v i))) (hy : ev f y = u) (hv : u.cells.toList = ys)
    (hs : SizeIs P T ys.length) (h1 : ones ys = true) (hl : i + ys.length ≤ xs.length) (hne : 0 < xs.length) (hc : splice xs i ys = xs') (hl' : l.set k (row sz v n xs') = l') (h : ∀ w', Own w0 o w' l' → K undef w') :
    OpW P (.store T x y) ty f w K := by
  subst hv; subst hc; subst hl'
  obtain ⟨his, hlen, hrow⟩ := H.get hk
  obtain ⟨a, c, rfl, hn, hcm, ha⟩ := his
  cases a with
  | none =>
    have := ha rfl
    have h0 : n = 0 := by omega
    subst h0
    omega
  | some ad =>
    have hc0 : 0 < c := by
      rcases Nat.eq_zero_or_pos n with h0 | h0
      · rw [h0, Nat.zero_mul] at hlen; omega
      · omega
    obtain ⟨hsp, cur, T', z, hT, hz, hroom, hcells⟩ := hrow ad n c rfl hc0
    have hle : n * sz ≤ c * sz := Nat.mul_le_mul_right _ hn
    have hadd : ad.add i = ⟨ad.block, ad.off + i, none⟩ := by
      obtain ⟨b, off, sp⟩ := ad
      simp only at hsp; subst hsp
      unfold Addr.add
      split
      · rename_i h0; subst h0; rfl
      · rfl
    have hsz0 : u.cells.toList.length = u.cells.size := by simp
    have hst := run_storeCells_z P ad.block (ad.off + i) T' z u.cells.toList 0 cur w hT hz (by rw [hlen] at hl; omega) (ones_mem h1)
    refine .of_skip (w' := w.setRow ad.block (cur.toList.take (ad.off + i) ++ u.cells.toList ++ cur.toList.drop (ad.off + i + u.cells.toList.length)).toArray) ?_ (h _ ?_)
    · have hsz : u.cells.size = u.cells.toList.length := by simp
      simp only [execOp, bare, hx, hy, Instr.storeAt, Instr.sureAddr, storeVar, Sem.run_bind, Sem.run_pure, Result.andThen_ok, hs.run, hsz, ne_eq, not_true, if_false, ptrOf, hadd]
      rw [hst]
      simp
    · have hcur : cur.toList.take (ad.off + i) ++ u.cells.toList ++ cur.toList.drop (ad.off + i + u.cells.toList.length) = splice cur.toList (ad.off + i) u.cells.toList := rfl
      have hfit : ad.off + i + u.cells.toList.length ≤ cur.toList.length := by simp only [Array.length_toList]; omega
      refine H.put k hk (by simp) (fun b _ hb => setRow_other w _ b _ (fun h => hb (by rw [row_foot, ownB_iff]; exact ⟨hc0, h.symm⟩))) ⟨⟨_, _, rfl, hn, hcm, ha⟩, by rw [splice_length _ _ _ hl, hlen], ?_⟩ ?_
      · rintro ad2 m2 c2 he _
        cases he
        refine ⟨hsp, _, T', z, setRow_heap w _ _ _ T' _ hT, ?_, ?_, ?_⟩
        · rw [hcur]; simpa [splice_length _ _ _ hfit] using hz
        · rw [hcur]; simpa [splice_length _ _ _ hfit] using hroom
        · intro j hj
          rw [splice_length _ _ _ hl] at hj
          rw [hcur, List.getElem?_toArray, splice_get _ _ _ hfit, splice_get _ _ _ hl]
          by_cases h2 : i ≤ j ∧ j < i + u.cells.toList.length
          · rw [if_pos h2, if_pos (by omega)]
            congr 1
            omega
          · rw [if_neg h2, if_neg (by omega)]
            simpa using hcells j hj
      · intro b hb
        rw [row_foot, ownB_iff] at hb
        obtain ⟨_, hb⟩ := hb
        subst hb
        have := (Array.getElem?_eq_some_iff.1 hT).1
        exact ⟨by simpa using this, fun _ => by rw [row_foot, ownB_iff]; exact ⟨hc0, rfl⟩⟩
/-- v[lo:hi]. -/
theorem o_slice {T : TypeId} {x : Operand} {lo hi : Option Operand} {e : TypeId} {v : Value} {n sz a b : Nat} (hu : P.underlying T = some (.slice e)) (hs : SizeIs P e sz) (hx : ev f x = v) (hv : IsSl v n)
    (hlo : (lo = none ∧ a = 0) ∨ (∃ p, lo = some p ∧ ∃ k, ev f p = .int k a)) (hhi : (hi = none ∧ b = n) ∨ (∃ p, hi = some p ∧ ∃ k, ev f p = .int k b)) (hab : a ≤ b) (hbn : b ≤ n) (h : K (subv sz v a b) w) : OpW P (.slice T x lo hi none) ty f w K := by
  obtain ⟨ad, c, rfl, hc, hcm, ha⟩ := hv
  refine .of_run ?_ h
  have hbc : b ≤ c := by omega
  rcases hlo with ⟨rfl, rfl⟩ | ⟨p, rfl, kp, hp⟩ <;> rcases hhi with ⟨rfl, rfl⟩ | ⟨q, rfl, kq, hq⟩ <;>
    simp [execOp, bare, hx, Instr.sliceAt, run_und hu, Instr.slice, Instr.sliceBounds, Instr.sliceBound, asIntOf, hs.run, subv, hab, hbc, *] <;> (try omega)
end
end Hyp
