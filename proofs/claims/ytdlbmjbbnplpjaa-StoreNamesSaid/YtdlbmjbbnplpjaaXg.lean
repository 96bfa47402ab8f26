/- Append onto an owned row; new rows. -/
import Derived.Test.YtdlbmjbbnplpjaaXf
set_option linter.unusedVariables false
set_option linter.unusedSimpArgs false
namespace Hyp
open Go
theorem set_self {α : Type} {l : List α} {k : Nat} {x : α} (h : l[k]? = some x) : l.set k x = l := by
  apply List.ext_getElem?
  intro j
  rw [List.getElem?_set]
  split
  · rename_i hkj
    subst hkj
    split
    · exact h.symm
    · rename_i hlt
      rw [List.getElem?_eq_none (by omega)] at h
      cases h
  · rfl
/-- t: slices of e, whose elements have sz cells and by bytes. -/
structure ElemIs (P : Program) (t e sz by_ : Nat) : Prop where
  und : P.underlying t = some (.slice e)
  info : ∃ i z, P.info? e = some i ∧ i.size = sz ∧ i.bytes = by_ ∧ i.zero = some z ∧ z.cells.size = sz
theorem ElemIs.of {P : Program} {t e sz by_ : Nat} (hu : P.underlying t = some (.slice e)) (h : (P.info? e).map (fun i => (i.size, i.bytes, i.zero.map fun z => z.cells.size)) = some (sz, by_, some sz)) : ElemIs P t e sz by_ := by
  refine ⟨hu, ?_⟩
  cases hi : P.info? e with
  | none => simp [hi] at h
  | some i =>
    simp only [hi, Option.map_some, Option.some.injEq, Prod.mk.injEq, Option.map_eq_some_iff] at h
    obtain ⟨h1, h2, z, h3, h4⟩ := h
    exact ⟨i, z, rfl, h1, h2, h3, h4⟩
theorem ElemIs.size {P : Program} {t e sz by_ : Nat} (h : ElemIs P t e sz by_) : SizeIs P e sz := by
  obtain ⟨i, z, hi, h1, _⟩ := h.info
  exact ⟨i, hi, h1⟩
section
variable {P : Program} {ty : TypeId} {f : Fr} {w : World} {K : Value → World → Prop} {w0 : World} {o : Nat → Prop} {l l' : List Ent}
theorem run_first {S : Nat → Prop} {u : Value} {m sz : Nat} {ys : List Value} (h : Sl S w u m ys) (hl : ys.length = m * sz) : (Builtin.firstCells sz m u).run P w = .ok ys.toArray w := by
  obtain ⟨⟨a, c, rfl, hn, hc, ha⟩, h2⟩ := h
  cases a with
  | none =>
    have := ha rfl
    have h0 : m = 0 := by omega
    subst h0
    have : ys = [] := List.eq_nil_of_length_eq_zero (by simpa using hl)
    subst this
    simp [Builtin.firstCells]
  | some ad =>
    rcases h2 with rfl | ⟨ad', ⟨c', he⟩, hS, hat⟩
    · have : m * sz = 0 := by simpa using hl.symm
      simp [Builtin.firstCells, this, loadCells, loadCellsFrom]
    · cases he
      simp only [Builtin.firstCells, ← hl]
      exact run_loadCells_list w ad ys hat.cells
/-- A slice without capacity is owned by whoever has it. -/
theorem Own.nilRow (H : Own w0 o w l) (sz : Nat) {v : Value} (hv : ∃ a, v = .slice a 0 0) : Own w0 o w (row sz v 0 [] :: l) := by
  obtain ⟨a, rfl⟩ := hv
  have hno : ∀ b, ¬ ownB (.slice a 0 0) b := by
    rintro b ⟨ad, n, c, h, h0, _⟩
    cases h
    omega
  refine ⟨H.size, H.old, ?_, ?_, ?_, H.kept⟩
  · intro e he
    rcases List.mem_cons.1 he with rfl | he
    · exact ⟨⟨_, _, rfl, Nat.le_refl _, Nat.zero_le _, fun _ => rfl⟩, by simp, fun ad m c h h0 => by cases h; omega⟩
    · exact H.all e he
  · intro e he b hb
    rcases List.mem_cons.1 he with rfl | he
    · exact absurd hb (hno b)
    · exact H.low e he b hb
  · exact List.pairwise_cons.2 ⟨fun e _ b hb => absurd hb (hno b), H.sep⟩
/-- A new row, of its own block. -/
theorem Own.newRow (H : Own w0 o w l) (xs : List Value) (rest : Array Value) (T sz n c : Nat) (hx : xs.length = n * sz) (hc : n ≤ c) (hm : c ≤ maxLen) (hr : n * sz + rest.size = c * sz) :
    Own w0 o (w.alloc (.cells (xs.toArray ++ rest) T)) (row sz (.slice (some ⟨w.heap.size, 0, none⟩) n c) n xs :: l) := by
  have h1 := H.alloc (.cells (xs.toArray ++ rest) T)
  have h2 := h1.put (w' := w.alloc (.cells (xs.toArray ++ rest) T)) 0 (e' := row sz (.slice (some ⟨w.heap.size, 0, none⟩) n c) n xs) rfl (Nat.le_refl _) (fun b _ _ => rfl)
    ⟨⟨_, _, rfl, hc, hm, fun h => by cases h⟩, hx, by
      rintro ad m c' he _
      cases he
      refine ⟨rfl, _, T, (0, 0), h1.get (k := 0) rfl, fun i _ => by omega, by simp [hx, hr], fun j hj => ?_⟩
      simp [Array.getElem?_append, hj]⟩
    (fun b hb => by rw [row_foot, ownB_iff] at hb; obtain ⟨_, hb⟩ := hb; simp only at hb; subst hb; simp)
  simpa using h2
/-- []T{}. -/
theorem o_slice0 {T e : TypeId} {sz by_ : Nat} (he : ElemIs P T e sz by_) (H : Own w0 o w l) (h : ∀ v w', (∃ a, v = .slice a 0 0) → Own w0 o w' l → K v w') : OpW P (.buildSlice T 0 #[]) ty f w K := by
  refine .of_run (v := .slice (some ⟨w.heap.size, 0, none⟩) 0 0) (w' := w.alloc (.cells #[] e)) ?_ (h _ _ ⟨_, rfl⟩ ((H.alloc _).sub (List.sublist_cons_self _ _)))
  simp [execOp, bare, Instr.buildSlice, run_und he.und, he.size.run, Instr.fill, Go.newRow, show (Array.range 0) = (#[] : Array Nat) from Array.eq_empty_of_size_eq_zero (by simp)]
theorem o_append {s x : Operand} {t e sz by_ k n m : Nat} {v u : Value} {xs ys zs : List Value} {S : Nat → Prop} (he : ElemIs P t e sz by_) (hk : l[k]? = some (row sz v n xs)) (H : Own w0 o w l) (hs : ev f s = v) (hx : ev f x = u)
    (hu : Sl S w u m ys) (hl : ys.length = m * sz) (h1 : ones ys = true) (hb : (n + m) * by_ ≤ 140737488355328) (hm : n + m ≤ maxLen) (hz : xs ++ ys = zs) (h : ∀ v' w' l', l.set k (row sz v' (n + m) zs) = l' → Own w0 o w' l' → K v' w') :
    OpW P (.call ⟨.builtin .append, #[s, x], #[t, t]⟩) ty f w K := by
  subst hz
  obtain ⟨i, z, hi, hsz, hby, hz, hzs⟩ := he.info
  subst hsz; subst hby
  obtain ⟨his, hlen, hrow⟩ := H.get hk
  obtain ⟨a, c, rfl, hn, hcm, ha⟩ := his
  have hsl := H.rowSl hk (S := fun _ => True) (fun _ _ => trivial)
  have hf := run_first (P := P) hu hl
  have hfo := run_first (P := P) hsl hlen
  have hlenOf : (Builtin.lenOf u).run P w = .ok m w := by
    obtain ⟨⟨a', c', rfl, _⟩, _⟩ := hu
    simp [Builtin.lenOf]
  have hty : ∀ d, P.underlying t = some d → (d matches .int _) = false := by intro d hd; rw [he.und] at hd; cases hd; rfl
  by_cases hroom : n + m ≤ c
  · -- within the capacity
    by_cases hc0 : 0 < c
    case neg =>
      have h0 : c = 0 := by omega
      have hm0 : m = 0 := by omega
      have hn0 : n = 0 := by omega
      subst hm0; subst hn0; subst h0
      have hxs : xs = [] := List.eq_nil_of_length_eq_zero (by simpa using hlen)
      have hys : ys = [] := List.eq_nil_of_length_eq_zero (by simpa using hl)
      subst hxs; subst hys
      refine .of_run (v := .slice a 0 0) (w' := w) ?_ (h _ _ _ rfl ?_)
      · simp only [execOp, bare, resolve, invoke, builtin, Builtin.append_, Sem.run_bind, Sem.run_pure, Result.andThen_ok, List.map_toArray, List.map_cons, List.map_nil, hs, hx]
        cases a <;> simp [run_und he.und, he.size.run, hlenOf, hf, storeCells]
      · have hset : l.set k (row i.size (.slice a 0 0) (0 + 0) ([] ++ [])) = l := by
          rw [List.append_nil]
          exact set_self hk
        rw [hset]; exact H
    case pos =>
    cases a with
    | none => have := ha rfl; omega
    | some ad =>
      obtain ⟨hsp, cur, T', zz, hT, hzz, hcap, hcells⟩ := hrow ad n c rfl hc0
      have hle : (n + m) * i.size ≤ c * i.size := Nat.mul_le_mul_right _ hroom
      have hmul : (n + m) * i.size = n * i.size + m * i.size := Nat.add_mul _ _ _
      have hadd : ad.add (n * i.size) = ⟨ad.block, ad.off + n * i.size, none⟩ := by
        obtain ⟨b, off, sp⟩ := ad
        simp only at hsp; subst hsp
        unfold Addr.add
        split
        · rename_i h0; rw [h0]; rfl
        · rfl
      have hst := run_storeCells_z P ad.block (ad.off + n * i.size) T' zz ys 0 cur w hT hzz (by omega) (ones_mem h1)
      have hcur : cur.toList.take (ad.off + n * i.size + 0) ++ ys ++ cur.toList.drop (ad.off + n * i.size + 0 + ys.length) = splice cur.toList (ad.off + n * i.size) ys := rfl
      have hfit : ad.off + n * i.size + ys.length ≤ cur.toList.length := by simp only [Array.length_toList]; omega
      refine .of_run (v := .slice (some ad) (n + m) c) (w' := w.setRow ad.block (splice cur.toList (ad.off + n * i.size) ys).toArray) ?_ (h _ _ _ rfl ?_)
      · simp only [execOp, bare, resolve, invoke, builtin, Builtin.append_, Sem.run_bind, Sem.run_pure, Result.andThen_ok, List.map_toArray, List.map_cons, List.map_nil, hs, hx]
        simp [run_und he.und, he.size.run, hlenOf, hf, hroom, hadd, hst, splice]
      · refine H.put k hk (by simp) (fun b _ hb' => setRow_other w _ b _ (fun h => hb' (by rw [row_foot, ownB_iff]; exact ⟨hc0, h.symm⟩))) ⟨⟨_, _, rfl, hroom, hcm, ha⟩, by simp [hlen, hl, hmul], ?_⟩ ?_
        · rintro ad2 m2 c2 he2 _
          cases he2
          refine ⟨hsp, _, T', zz, setRow_heap w _ _ _ T' _ hT, ?_, ?_, ?_⟩
          · simpa [splice_length _ _ _ hfit] using hzz
          · simpa [splice_length _ _ _ hfit] using hcap
          · intro j hj
            simp only [List.length_append, hlen, hl] at hj
            rw [List.getElem?_toArray, splice_get _ _ _ hfit]
            by_cases h2 : j < n * i.size
            · rw [if_neg (by omega), List.getElem?_append_left (by omega)]
              simpa using hcells j (by omega)
            · rw [if_pos (by omega), List.getElem?_append_right (by omega)]
              congr 1
              omega
        · intro b hb'
          rw [row_foot, ownB_iff] at hb'
          obtain ⟨_, hb'⟩ := hb'
          subst hb'
          have := (Array.getElem?_eq_some_iff.1 hT).1
          exact ⟨by simpa using this, fun _ => by rw [row_foot, ownB_iff]; exact ⟨hc0, rfl⟩⟩
  · -- a new array
    have hfits := growslice_fits (need := n + m) (old := c) (bytes := i.bytes) (by omega) hb
    have hge := grownCap_ge w (n + m) c e
    have hcap := grownCap_le_maxLen w (n + m) c e hm
    have hmul : (n + m) * i.size = n * i.size + m * i.size := Nat.add_mul _ _ _
    have hsm : ¬ ((n + m : Nat) : Int) > IntKind.i64.max := by
      have : maxLen = 9223372036854775807 := rfl
      rw [this] at hm
      simp [IntKind.max, IntKind.signed, IntKind.bits]
      omega
    refine .of_run (v := .slice (some ⟨w.heap.size, 0, none⟩) (n + m) (grownCap w (n + m) c e)) (w' := w.drew.alloc (.cells ((xs ++ ys).toArray ++ Builtin.zeroCells z.cells (grownCap w (n + m) c e - (n + m))) e)) ?_ (h _ _ _ rfl ?_)
    · have hsl2 := run_first (P := P) (w := w.drew) (S := fun _ => True) (u := u) (m := m) (ys := ys) (hu.congr (fun _ _ _ => rfl) |>.mono fun _ _ _ => trivial) hl
      have hsl3 := run_first (P := P) (w := w.drew) (S := fun _ => True) (hsl.congr (w' := w.drew) (fun _ _ _ => rfl)) hlen
      have hch : (choose (.appendCap (n + m) c e)).run P w = .ok (grownCap w (n + m) c e) w.drew := by
        simp [grownCap, Question.forced]
      have hzr : (zeroValue e).run P w.drew = .ok z w.drew := (show ZeroIs P e z from ⟨i, hi, hz⟩).run
      have hbig : ¬ (Builtin.nextslicecap (n + m) c * i.bytes > 2 ^ 48) := by omega
      simp only [execOp, bare, resolve, invoke, builtin, Builtin.append_, Sem.run_bind, Sem.run_pure, Result.andThen_ok, List.map_toArray, List.map_cons, List.map_nil, hs, hx]
      simp [run_und he.und, he.size.run, hlenOf, hroom, run_info hi, hbig, hch, hsl2, hsl3, hzr, Go.newRow]
      rw [if_neg (by
        rintro ⟨h1', _⟩
        have : maxLen = 9223372036854775807 := rfl
        omega)]
      simp [Question.forced, grownCap]
      have hap : (xs ++ ys).toArray = xs.toArray ++ ys.toArray := by simp
      rw [hap, Array.append_assoc]
    · have hn1 := (H.drew).newRow (xs ++ ys) (Builtin.zeroCells z.cells (grownCap w (n + m) c e - (n + m))) e i.size (n + m) (grownCap w (n + m) c e) (by simp [hlen, hl, hmul]) hge hcap (by
        rw [size_zeroCells, hzs, ← Nat.add_mul]
        congr 1
        omega)
      -- the old entry goes; the new one stands in its place
      have hp : (row i.size (.slice (some ⟨w.heap.size, 0, none⟩) (n + m) (grownCap w (n + m) c e)) (n + m) (xs ++ ys) :: l).Perm
          (row i.size (.slice a n c) n xs :: l.set k (row i.size (.slice (some ⟨w.heap.size, 0, none⟩) (n + m) (grownCap w (n + m) c e)) (n + m) (xs ++ ys))) := by
        have hkl : k < l.length := by
          rcases Nat.lt_or_ge k l.length with h1 | h1
          · exact h1
          · rw [List.getElem?_eq_none h1] at hk; cases hk
        have hek : l[k] = row i.size (.slice a n c) n xs := by rw [List.getElem?_eq_getElem hkl] at hk; exact Option.some.inj hk
        have h1 : l = l.take k ++ l[k] :: l.drop (k + 1) := by simp
        rw [hek] at h1
        have h2 : l.set k (row i.size (.slice (some ⟨w.heap.size, 0, none⟩) (n + m) (grownCap w (n + m) c e)) (n + m) (xs ++ ys)) = l.take k ++ row i.size (.slice (some ⟨w.heap.size, 0, none⟩) (n + m) (grownCap w (n + m) c e)) (n + m) (xs ++ ys) :: l.drop (k + 1) := by
          rw [List.set_eq_take_append_cons_drop, if_pos hkl]
        rw [h2]
        conv => lhs; rw [h1]
        refine (List.Perm.cons _ List.perm_middle).trans ((List.Perm.swap _ _ _).trans (List.Perm.cons _ List.perm_middle.symm))
      have h3 := hn1.perm hp
      exact h3.sub (List.sublist_cons_self _ _)
end
end Hyp
