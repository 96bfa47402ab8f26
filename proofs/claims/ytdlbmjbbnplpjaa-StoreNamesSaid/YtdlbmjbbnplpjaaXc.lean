/- Rows of cells: read where they lie, owned by a slice, boxed in a block of their own. -/
import Derived.Test.YtdlbmjbbnplpjaaXb
set_option linter.unusedVariables false
set_option linter.unusedSimpArgs false
namespace Hyp
open Go

/-! ### 1. Cells at an address -/
/-- From ad on lie the cells xs. -/
def At (w : World) (ad : Addr) (xs : List Value) : Prop := ad.spot = none ∧ ∃ cs T z, w.heap[ad.block]? = some (.cells cs T z) ∧ ∀ j, j < xs.length → cs[ad.off + j]? = xs[j]?
section
variable {w w' : World} {ad : Addr} {xs : List Value}
theorem At.congr (h : At w ad xs) (hb : w'.heap[ad.block]? = w.heap[ad.block]?) : At w' ad xs := by
  obtain ⟨h1, cs, T, z, h2, h3⟩ := h
  exact ⟨h1, cs, T, z, hb.trans h2, h3⟩
theorem At.lt (h : At w ad xs) : ad.block < w.heap.size := by
  obtain ⟨h1, cs, T, z, h2, h3⟩ := h
  exact (Array.getElem?_eq_some_iff.1 h2).1
theorem At.cell (h : At w ad xs) {j : Nat} {v : Value} (hv : xs[j]? = some v) : w.cell? (ad.add j) = some v := by
  obtain ⟨h1, cs, T, z, h2, h3⟩ := h
  have hj : j < xs.length := by
    rcases Nat.lt_or_ge j xs.length with h | h
    · exact h
    · rw [List.getElem?_eq_none h] at hv; cases hv
  have h4 := h3 j hj
  unfold Addr.add
  split
  · rename_i h0; subst h0
    simp only [World.cell?, h2, h1, Option.isSome_none, Bool.false_eq_true, if_false]
    simpa [hv] using h4
  · simp only [World.cell?, h2, Option.isSome_none, Bool.false_eq_true, if_false]
    rw [h4, hv]
theorem At.drop (h : At w ad xs) (k : Nat) : At w (ad.add k) (xs.drop k) := by
  obtain ⟨h1, cs, T, z, h2, h3⟩ := h
  unfold Addr.add
  split
  · rename_i h0; subst h0; exact ⟨h1, cs, T, z, h2, by simpa using h3⟩
  · refine ⟨rfl, cs, T, z, h2, fun j hj => ?_⟩
    simp only [List.length_drop] at hj
    have := h3 (k + j) (by omega)
    rw [List.getElem?_drop, ← this, Nat.add_assoc]
theorem At.take (h : At w ad xs) (k : Nat) : At w ad (xs.take k) := by
  obtain ⟨h1, cs, T, z, h2, h3⟩ := h
  refine ⟨h1, cs, T, z, h2, fun j hj => ?_⟩
  simp only [List.length_take] at hj
  rw [h3 j (by omega), List.getElem?_take, if_pos (by omega)]
theorem At.cells (h : At w ad xs) : ∀ j v, xs[j]? = some v → w.cell? (ad.add j) = some v := fun j v hv => h.cell hv
end
theorem add_add (ad : Addr) (i j : Nat) (h : ad.spot = none) : (ad.add i).add j = ad.add (i + j) := by
  unfold Addr.add
  by_cases hi : i = 0 <;> by_cases hj : j = 0 <;> simp [hi, hj, Nat.add_assoc]
theorem spot_add {ad : Addr} (h : ad.spot = none) (i : Nat) : (ad.add i).spot = none := by
  unfold Addr.add; split <;> simp [h]
@[simp] theorem block_add (ad : Addr) (i : Nat) : (ad.add i).block = ad.block := by unfold Addr.add; split <;> rfl

/-! ### 2. Slices as values -/
/-- v is a slice of n elements. -/
def IsSl (v : Value) (n : Nat) : Prop := ∃ a c, v = .slice a n c ∧ n ≤ c ∧ c ≤ maxLen ∧ (a = none → c = 0)
/-- The address of the k-th cell behind a slice's first. -/
def ptrOf : Value → Nat → Addr
  | .slice (some ad) _ _, k => ad.add k
  | _, _ => ⟨0, 0, none⟩
/-- v[lo:hi], of elements of sz cells, with the capacity that Go gives it. -/
def subv (sz : Nat) : Value → Nat → Nat → Value
  | .slice a _ c, lo, hi => .slice (if c = lo then a else a.map (·.add (lo * sz))) (hi - lo) (c - lo)
  | v, _, _ => v
/-- v[lo:hi:mx]. -/
def subv3 (sz : Nat) : Value → Nat → Nat → Nat → Value
  | .slice a _ _, lo, hi, mx => .slice (if mx = lo then a else a.map (·.add (lo * sz))) (hi - lo) (mx - lo)
  | v, _, _, _ => v
theorem IsSl.sub {v : Value} {n : Nat} (h : IsSl v n) (sz lo hi : Nat) (h1 : lo ≤ hi) (h2 : hi ≤ n) : IsSl (subv sz v lo hi) (hi - lo) := by
  obtain ⟨a, c, rfl, hn, hc, ha⟩ := h
  refine ⟨_, _, rfl, by omega, by omega, ?_⟩
  intro h
  split at h
  · have := ha h; omega
  · cases a with
    | none => have := ha rfl; omega
    | some a => cases h
theorem IsSl.sub3 {v : Value} {n : Nat} (h : IsSl v n) (sz lo hi : Nat) (h1 : lo ≤ hi) (h2 : hi ≤ n) (mx : Nat) (h3 : hi ≤ mx) (h4 : mx ≤ n) : IsSl (subv3 sz v lo hi mx) (hi - lo) := by
  obtain ⟨a, c, rfl, hn, hc, ha⟩ := h
  refine ⟨_, _, rfl, by omega, by omega, ?_⟩
  intro h
  split at h
  · have := ha h; omega
  · cases a with
    | none => have := ha rfl; omega
    | some a => cases h
theorem isSl_nil : IsSl (.slice none 0 0) 0 := ⟨_, _, rfl, Nat.le_refl _, Nat.zero_le _, fun _ => rfl⟩

/-! ### 3. A slice that is read: its cells xs; its block is one of S -/
def Sl (S : Nat → Prop) (w : World) (v : Value) (n : Nat) (xs : List Value) : Prop :=
  IsSl v n ∧ (xs = [] ∨ ∃ ad, (∃ c, v = .slice (some ad) n c) ∧ S ad.block ∧ At w ad xs)
section
variable {S S' : Nat → Prop} {w w' : World} {v : Value} {n : Nat} {xs : List Value}
theorem Sl.is (h : Sl S w v n xs) : IsSl v n := h.1
theorem Sl.mono (h : Sl S w v n xs) (hS : ∀ b, b < w.heap.size → S b → S' b) : Sl S' w v n xs := by
  refine ⟨h.1, ?_⟩
  rcases h.2 with h2 | ⟨ad, h2, h3, h4⟩
  · exact .inl h2
  · exact .inr ⟨ad, h2, hS _ h4.lt h3, h4⟩
theorem Sl.congr (h : Sl S w v n xs) (hb : ∀ b, b < w.heap.size → S b → w'.heap[b]? = w.heap[b]?) : Sl S w' v n xs := by
  refine ⟨h.1, ?_⟩
  rcases h.2 with h2 | ⟨ad, h2, h3, h4⟩
  · exact .inl h2
  · exact .inr ⟨ad, h2, h3, h4.congr (hb _ h4.lt h3)⟩
theorem Sl.cell (h : Sl S w v n xs) {j : Nat} {x : Value} (hx : xs[j]? = some x) : w.cell? (ptrOf v j) = some x := by
  rcases h.2 with rfl | ⟨ad, ⟨c, rfl⟩, h3, h4⟩
  · simp at hx
  · exact h4.cell hx
theorem Sl.at (h : Sl S w v n xs) (hne : xs ≠ []) (j : Nat) : At w (ptrOf v j) (xs.drop j) := by
  rcases h.2 with rfl | ⟨ad, ⟨c, rfl⟩, h3, h4⟩
  · exact absurd rfl hne
  · exact h4.drop j
theorem Sl.nil (S : Nat → Prop) (w : World) : Sl S w (.slice none 0 0) 0 [] := ⟨isSl_nil, .inl rfl⟩
theorem Sl.empty (S : Nat → Prop) (w : World) (h : IsSl v n) : Sl S w v n [] := ⟨h, .inl rfl⟩
theorem Sl.sub (h : Sl S w v n xs) (sz lo hi : Nat) (h1 : lo ≤ hi) (h2 : hi ≤ n) (hl : xs.length = n * sz) : Sl S w (subv sz v lo hi) (hi - lo) ((xs.drop (lo * sz)).take ((hi - lo) * sz)) := by
  refine ⟨h.1.sub sz lo hi h1 h2, ?_⟩
  rcases h.2 with rfl | ⟨ad, ⟨c, rfl⟩, h3, h4⟩
  · simp
  · simp only [subv]
    by_cases hlt : lo = hi
    · left; simp [hlt]
    · right
      obtain ⟨a', c', he, hn, hc, _⟩ := h.1
      cases he
      refine ⟨ad.add (lo * sz), ⟨c - lo, ?_⟩, by simpa using h3, (h4.drop _).take _⟩
      rw [if_neg (by omega)]
      rfl
theorem Sl.sub3 (h : Sl S w v n xs) (sz lo hi : Nat) (h1 : lo ≤ hi) (h2 : hi ≤ n) (hl : xs.length = n * sz) (mx : Nat) (h5 : hi ≤ mx) (h6 : mx ≤ n) :
    Sl S w (subv3 sz v lo hi mx) (hi - lo) ((xs.drop (lo * sz)).take ((hi - lo) * sz)) := by
  refine ⟨h.1.sub3 sz lo hi h1 h2 mx h5 h6, ?_⟩
  rcases h.2 with rfl | ⟨ad, ⟨c, rfl⟩, h3, h4⟩
  · simp
  · simp only [subv3]
    by_cases hlt : lo = hi
    · left; simp [hlt]
    · right
      refine ⟨ad.add (lo * sz), ⟨mx - lo, ?_⟩, by simpa using h3, (h4.drop _).take _⟩
      rw [if_neg (by omega)]
      rfl
end

/-! ### 4. A block that is a box of cells; a row that a slice owns -/
/-- Block g is the cells cs, none of them frozen. -/
def bx (g : Nat) (cs : List Value) : Ent := ⟨(· = g), fun w => ∃ T, w.heap[g]? = some (.cells cs.toArray T (0, 0)), fun h ⟨T, h'⟩ => ⟨T, (h _ rfl).trans h'⟩⟩
@[simp] theorem bx_foot (g : Nat) (cs : List Value) (b : Nat) : (bx g cs).foot b = (b = g) := rfl
/-- Block b is the slice v's own (a slice without capacity has none). -/
def ownB (v : Value) (b : Nat) : Prop := ∃ ad n c, v = .slice (some ad) n c ∧ 0 < c ∧ ad.block = b
theorem ownB_iff {ad : Addr} {n c b : Nat} : ownB (.slice (some ad) n c) b ↔ 0 < c ∧ ad.block = b := by
  constructor
  · rintro ⟨ad', n', c', h, h1, h2⟩
    cases h
    exact ⟨h1, h2⟩
  · rintro ⟨h1, h2⟩
    exact ⟨ad, n, c, rfl, h1, h2⟩
theorem ownB_none {n c b : Nat} : ¬ ownB (.slice none n c) b := by
  rintro ⟨ad', n', c', h, _⟩
  cases h
/-- The slice v, of n elements of sz cells, owns its block; its cells are xs. -/
def row (sz : Nat) (v : Value) (n : Nat) (xs : List Value) : Ent where
  foot b := ownB v b
  holds w := IsSl v n ∧ xs.length = n * sz ∧ ∀ ad m c, v = .slice (some ad) m c → 0 < c →
    ad.spot = none ∧ ∃ cs T z, w.heap[ad.block]? = some (.cells cs T z) ∧ (∀ i, i < cs.size → ¬ (z.1 ≤ i ∧ i < z.2)) ∧ ad.off + c * sz ≤ cs.size ∧ ∀ j, j < xs.length → cs[ad.off + j]? = xs[j]?
  loc := by
    intro w w' hb ⟨h1, h2, h3⟩
    refine ⟨h1, h2, fun ad m c he h0 => ?_⟩
    obtain ⟨hs, cs, T, z, hc, h4⟩ := h3 ad m c he h0
    exact ⟨hs, cs, T, z, (hb _ ⟨ad, m, c, he, h0, rfl⟩).trans hc, h4⟩
theorem row_foot (sz : Nat) (v : Value) (n : Nat) (xs : List Value) (b : Nat) : (row sz v n xs).foot b = ownB v b := rfl
section
variable {w0 w w' : World} {o : Nat → Prop} {l : List Ent} {k : Nat} {g : Nat} {cs : List Value} {sz n : Nat} {v : Value} {xs : List Value}
theorem Own.get (h : Own w0 o w l) {e : Ent} (he : l[k]? = some e) : e.holds w := h.all e (List.mem_of_getElem? he)
theorem Own.bxAt (h : Own w0 o w l) (hk : l[k]? = some (bx g cs)) : At w ⟨g, 0, none⟩ cs := by
  obtain ⟨T, hT⟩ := h.get hk
  exact ⟨rfl, cs.toArray, T, (0, 0), hT, fun j _ => by simp⟩
theorem Own.bxCell (h : Own w0 o w l) (hk : l[k]? = some (bx g cs)) (off : Nat) {x : Value} (hx : cs[off]? = some x) : w.cell? ⟨g, off, none⟩ = some x := by
  have := (h.bxAt hk).cell hx
  unfold Addr.add at this
  split at this
  · rename_i h0; rw [h0]; exact this
  · simpa using this
theorem Own.bxSub (h : Own w0 o w l) (hk : l[k]? = some (bx g cs)) (off s : Nat) {ys : List Value} (hy : (cs.drop off).take s = ys) : At w ⟨g, off, none⟩ ys := by
  have := ((h.bxAt hk).drop off).take s
  rw [hy] at this
  unfold Addr.add at this
  split at this
  · rename_i h0; rw [h0]; exact this
  · simpa using this
/-- The block of an entry other than o's, seen from a slice that is read. -/
theorem Own.rowSl (h : Own w0 o w l) (hk : l[k]? = some (row sz v n xs)) {S : Nat → Prop} (hS : ∀ b, ownB v b → S b) : Sl S w v n xs := by
  obtain ⟨h1, h2, h3⟩ := h.get hk
  refine ⟨h1, ?_⟩
  obtain ⟨a, c, rfl, hn, hc, ha⟩ := h1
  cases a with
  | none => left; have := ha rfl; have h0 : n = 0 := by omega
            subst h0; exact List.eq_nil_of_length_eq_zero (by simpa using h2)
  | some ad =>
    by_cases h0 : 0 < c
    · right
      obtain ⟨hs, cs, T, z, h4, h5, h6, h7⟩ := h3 ad n c rfl h0
      exact ⟨ad, ⟨c, rfl⟩, hS _ (ownB_iff.2 ⟨h0, rfl⟩), hs, cs, T, z, h4, h7⟩
    · left
      have h0 : n = 0 := by omega
      subst h0
      exact List.eq_nil_of_length_eq_zero (by simpa using h2)
theorem Own.rowIs (h : Own w0 o w l) (hk : l[k]? = some (row sz v n xs)) : IsSl v n := (h.get hk).1
theorem Own.rowLen (h : Own w0 o w l) (hk : l[k]? = some (row sz v n xs)) : xs.length = n * sz := (h.get hk).2.1
/-- What was read at the begin, out of the blocks that are not written, is so still. -/
theorem Own.sl (h : Own w0 o w l) (hs : Sl (fun b => ¬ o b) w0 v n xs) : Sl (fun b => b < w0.heap.size ∧ ¬ o b) w v n xs :=
  (hs.mono (S' := fun b => b < w0.heap.size ∧ ¬ o b) fun b hb hn => ⟨hb, hn⟩).congr fun b hb hS => h.old b hb hS.2
theorem Own.free (h : Own w0 o w l) {b : Nat} (hb : b < w0.heap.size ∧ ¬ o b) (l' : List Ent) (hl : ∀ e ∈ l', e ∈ l) : ¬ footU l' b := by
  rintro ⟨e, he, hf⟩
  exact hb.2 ((h.low e (hl e he) b hf).2 hb.1)
/-- The same, for a callee that takes the entries at ks. -/
theorem Own.slFor (h : Own w0 o w l) (hs : Sl (fun b => ¬ o b) w0 v n xs) (ks : List Nat) : Sl (fun b => ¬ footU (pick l ks) b) w v n xs :=
  (h.sl hs).mono fun b _ hb => h.free hb _ fun e he => let ⟨_, _, hk⟩ := mem_pick he; List.mem_of_getElem? hk
theorem Own.rowFor (h : Own w0 o w l) (hk : l[k]? = some (row sz v n xs)) (ks : List Nat) (hn : k ∉ ks) : Sl (fun b => ¬ footU (pick l ks) b) w v n xs := by
  refine h.rowSl hk fun b hb => ?_
  rintro ⟨e, he, hf⟩
  obtain ⟨j, hj, hje⟩ := mem_pick he
  exact sep_at h (by rintro rfl; exact hn hj) hje hk b hf hb
end
end Hyp
