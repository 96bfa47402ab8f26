/- Pure data as cells: encodings of what holds no address; relations for what does. -/
import Derived.Test.YtdlbmjbbnplpjaaXg
set_option linter.unusedVariables false
set_option linter.unusedSimpArgs false
namespace Hyp
open Go
abbrev u8 (b : UInt8) : Value := .int .u8 (b.toNat : Int)
abbrev u16 (b : UInt16) : Value := .int .u16 (b.toNat : Int)
abbrev u32 (b : UInt32) : Value := .int .u32 (b.toNat : Int)
abbrev u64 (b : UInt64) : Value := .int .u64 (b.toNat : Int)
abbrev i64 (n : Int) : Value := .int .i64 n
abbrev i32 (n : Int) : Value := .int .i32 n
def str (l : List UInt8) : Value := .string ⟨l.toArray⟩
/-- What holds no address, as cells. -/
structure Enc (α : Type) where
  sz : Nat
  enc : α → List Value
  len : ∀ x, (enc x).length = sz
  one : ∀ x, ones (enc x) = true
def cel {α : Type} (E : Enc α) (xs : List α) : List Value := xs.flatMap E.enc
def E8 : Enc UInt8 := ⟨1, fun b => [u8 b], fun _ => rfl, fun _ => rfl⟩
def E32 : Enc UInt32 := ⟨1, fun b => [u32 b], fun _ => rfl, fun _ => rfl⟩
def E64 : Enc UInt64 := ⟨1, fun b => [u64 b], fun _ => rfl, fun _ => rfl⟩
def EI : Enc Int := ⟨1, fun b => [i64 b], fun _ => rfl, fun _ => rfl⟩
def EB : Enc Bool := ⟨1, fun b => [.bool b], fun _ => rfl, fun _ => rfl⟩
def ES : Enc (List UInt8) := ⟨1, fun s => [str s], fun _ => rfl, fun _ => rfl⟩
theorem ones_append {a b : List Value} (ha : ones a = true) (hb : ones b = true) : ones (a ++ b) = true := by
  simp only [ones, List.all_append, Bool.and_eq_true] at *
  exact ⟨ha, hb⟩
def EP {α β : Type} (A : Enc α) (B : Enc β) : Enc (α × β) :=
  ⟨A.sz + B.sz, fun x => A.enc x.1 ++ B.enc x.2, fun x => by rw [List.length_append, A.len, B.len], fun x => ones_append (A.one _) (B.one _)⟩
section
variable {α : Type} {E : Enc α} {xs ys : List α}
@[simp] theorem cel_nil (E : Enc α) : cel E [] = [] := rfl
theorem cel_cons (x : α) : cel E (x :: xs) = E.enc x ++ cel E xs := rfl
theorem cel_append : cel E (xs ++ ys) = cel E xs ++ cel E ys := List.flatMap_append
theorem cel_one (x : α) : cel E [x] = E.enc x := by simp [cel]
theorem cel_len (xs : List α) : (cel E xs).length = xs.length * E.sz := by
  induction xs with
  | nil => simp
  | cons x xs ih => rw [cel_cons, List.length_append, E.len, ih, List.length_cons, Nat.succ_mul, Nat.add_comm]
theorem cel_ones (xs : List α) : ones (cel E xs) = true := by
  induction xs with
  | nil => rfl
  | cons x xs ih => rw [cel_cons]; exact ones_append (E.one x) ih
theorem cel_drop (k : Nat) : (cel E xs).drop (k * E.sz) = cel E (xs.drop k) := by
  induction xs generalizing k with
  | nil => simp
  | cons x xs ih =>
    cases k with
    | zero => simp
    | succ k =>
      rw [cel_cons, List.drop_succ_cons, ← ih k, List.drop_append, E.len, List.drop_of_length_le (by rw [E.len, Nat.succ_mul]; omega), List.nil_append]
      congr 1
      rw [Nat.succ_mul]; omega
theorem cel_take (k : Nat) : (cel E xs).take (k * E.sz) = cel E (xs.take k) := by
  induction xs generalizing k with
  | nil => simp
  | cons x xs ih =>
    cases k with
    | zero => simp
    | succ k =>
      rw [cel_cons, List.take_succ_cons, cel_cons, ← ih k, List.take_append, E.len, List.take_of_length_le (by rw [E.len, Nat.succ_mul]; omega)]
      congr 2
      rw [Nat.succ_mul]; omega
theorem cel_at {i : Nat} {x : α} (h : xs[i]? = some x) : ((cel E xs).drop (i * E.sz)).take E.sz = E.enc x := by
  have hi : i < xs.length := (List.getElem?_eq_some_iff.1 h).1
  have hx : xs[i] = x := (List.getElem?_eq_some_iff.1 h).2
  rw [cel_drop]
  have := cel_take (E := E) (xs := xs.drop i) 1
  rw [Nat.one_mul] at this
  rw [this, List.drop_eq_getElem_cons hi, hx]
  simp [cel_one]
theorem cel_get {i j : Nat} {x : α} (h : xs[i]? = some x) (hj : j < E.sz) : (cel E xs)[i * E.sz + j]? = (E.enc x)[j]? := by
  rw [← cel_at h, List.getElem?_take_of_lt hj, List.getElem?_drop]
theorem take_app {a b : List Value} {n : Nat} (h : a.length = n) : (a ++ b).take n = a := by subst h; simp
theorem drop_app {a b : List Value} {n : Nat} (h : a.length = n) : (a ++ b).drop n = b := by subst h; simp
theorem cel_set {i : Nat} (hi : i < xs.length) (y : α) : splice (cel E xs) (i * E.sz) (E.enc y) = cel E (xs.set i y) := by
  unfold splice
  rw [cel_take, E.len, show i * E.sz + E.sz = (i + 1) * E.sz by rw [Nat.succ_mul], cel_drop, List.set_eq_take_append_cons_drop, if_pos hi, cel_append, cel_cons, List.append_assoc]
end
/-- What may hold addresses: cells that stand for a datum, read in a world, out of the blocks S. -/
structure RTy (α : Type) where
  sz : Nat
  rel : (Nat → Prop) → World → α → List Value → Prop
  len : ∀ {S w x cs}, rel S w x cs → cs.length = sz
  one : ∀ {S w x cs}, rel S w x cs → ones cs = true
  go : ∀ {S S' : Nat → Prop} {w w' : World} {x cs}, rel S w x cs → (∀ b, b < w.heap.size → S b → S' b ∧ w'.heap[b]? = w.heap[b]?) → rel S' w' x cs
def RTy.ofEnc {α : Type} (E : Enc α) : RTy α := ⟨E.sz, fun _ _ x cs => cs = E.enc x, fun h => by subst h; exact E.len _, fun h => by subst h; exact E.one _, fun h _ => h⟩
def RP {α β : Type} (A : RTy α) (B : RTy β) : RTy (α × β) :=
  ⟨A.sz + B.sz, fun S w x cs => ∃ a b, cs = a ++ b ∧ A.rel S w x.1 a ∧ B.rel S w x.2 b, fun ⟨a, b, h, ha, hb⟩ => by rw [h, List.length_append, A.len ha, B.len hb], fun ⟨a, b, h, ha, hb⟩ => by rw [h]; exact ones_append (A.one ha) (B.one hb),
    fun ⟨a, b, h, ha, hb⟩ hg => ⟨a, b, h, A.go ha hg, B.go hb hg⟩⟩
theorem Sl.go {S S' : Nat → Prop} {w w' : World} {v : Value} {n : Nat} {xs : List Value} (h : Sl S w v n xs) (hg : ∀ b, b < w.heap.size → S b → S' b ∧ w'.heap[b]? = w.heap[b]?) : Sl S' w' v n xs := by
  refine ⟨h.1, ?_⟩
  rcases h.2 with h2 | ⟨ad, h2, h3, h4⟩
  · exact .inl h2
  · exact .inr ⟨ad, h2, (hg _ h4.lt h3).1, h4.congr (hg _ h4.lt h3).2⟩
/-- A slice whose elements stand for data. -/
def RSl {α : Type} (A : RTy α) (S : Nat → Prop) (w : World) (v : Value) (xs : List α) : Prop :=
  ∃ cs, Sl S w v xs.length cs ∧ cs.length = xs.length * A.sz ∧ ones cs = true ∧ ∀ i x, xs[i]? = some x → A.rel S w x ((cs.drop (i * A.sz)).take A.sz)
theorem RSl.go {α : Type} {A : RTy α} {S S' : Nat → Prop} {w w' : World} {v : Value} {xs : List α} (h : RSl A S w v xs) (hg : ∀ b, b < w.heap.size → S b → S' b ∧ w'.heap[b]? = w.heap[b]?) : RSl A S' w' v xs := by
  obtain ⟨cs, h1, h2, h3, h4⟩ := h
  exact ⟨cs, h1.go hg, h2, h3, fun i x hx => A.go (h4 i x hx) hg⟩
theorem RSl.is {α : Type} {A : RTy α} {S : Nat → Prop} {w : World} {v : Value} {xs : List α} (h : RSl A S w v xs) : IsSl v xs.length := by
  obtain ⟨cs, h1, _⟩ := h; exact h1.1
theorem RSl.at {α : Type} {A : RTy α} {S : Nat → Prop} {w : World} {v : Value} {xs : List α} (h : RSl A S w v xs) {i : Nat} {x : α} (hx : xs[i]? = some x) (hs : 0 < A.sz) : ∃ cs, At w (ptrOf v (i * A.sz)) cs ∧ A.rel S w x cs := by
  obtain ⟨cs, h1, h2, _, h4⟩ := h
  have hi : i < xs.length := (List.getElem?_eq_some_iff.1 hx).1
  have hne : cs ≠ [] := by
    rintro rfl
    have hp : 0 < xs.length * A.sz := Nat.mul_pos (by omega) hs
    rw [List.length_nil] at h2
    omega
  exact ⟨_, (h1.at hne (i * A.sz)).take A.sz, h4 i x hx⟩
def RS {α : Type} (A : RTy α) : RTy (List α) :=
  ⟨1, fun S w xs cs => ∃ v, cs = [v] ∧ RSl A S w v xs, fun ⟨v, h, _⟩ => by rw [h]; rfl, fun ⟨v, h, h1⟩ => by obtain ⟨a, c, rfl, _⟩ := h1.is; rw [h]; rfl, fun ⟨v, h, h1⟩ hg => ⟨v, h, h1.go hg⟩⟩
/-- Of what holds no address the two ways to read a slice are one. -/
theorem rsl_enc {α : Type} {E : Enc α} {S : Nat → Prop} {w : World} {v : Value} {xs : List α} (h : RSl (.ofEnc E) S w v xs) : Sl S w v xs.length (cel E xs) := by
  obtain ⟨cs, h1, h2, h3, h4⟩ := h
  have : cs = cel E xs := by
    clear h1 h3
    induction xs generalizing cs with
    | nil => simpa using h2
    | cons x xs ih =>
      have h0 := h4 0 x rfl
      simp only [RTy.ofEnc, Nat.zero_mul, List.drop_zero] at h0 h2 h4
      rw [cel_cons, ← h0, ← ih (cs.drop E.sz) (by simp [RTy.ofEnc, h2, Nat.succ_mul]) (fun i y hy => by
        have := h4 (i + 1) y (by simpa using hy)
        simp only [RTy.ofEnc]
        rw [List.drop_drop, show E.sz + i * E.sz = (i + 1) * E.sz by rw [Nat.succ_mul, Nat.add_comm]]
        exact this), List.take_append_drop]
  rw [← this]; exact h1
theorem enc_rsl {α : Type} {E : Enc α} {S : Nat → Prop} {w : World} {v : Value} {xs : List α} (h : Sl S w v xs.length (cel E xs)) : RSl (.ofEnc E) S w v xs :=
  ⟨_, h, cel_len xs, cel_ones xs, fun i x hx => cel_at hx⟩
/-! ### The pure reading of Go's looks -/
/-- l[i], if there is one. -/
def getI {α : Type} (l : List α) (i : Int) : Option α := if 0 ≤ i then l[i.toNat]? else none
theorem getI_some {α : Type} {l : List α} {i : Int} {x : α} (h : getI l i = some x) : ∃ j : Nat, i = j ∧ j < l.length ∧ l[j]? = some x := by
  unfold getI at h
  split at h
  · exact ⟨i.toNat, by omega, (List.getElem?_eq_some_iff.1 h).1, h⟩
  · cases h
theorem getI_at {α : Type} {l : List α} {i : Int} {x : α} (h : getI l i = some x) : i = (i.toNat : Nat) ∧ i.toNat < l.length ∧ l[i.toNat]? = some x := by
  obtain ⟨j, rfl, h1, h2⟩ := getI_some h
  exact ⟨by simp, by simpa using h1, by simpa using h2⟩
/-- l[lo:hi]. -/
def subI {α : Type} (l : List α) (lo hi : Int) : Option (List α) := if 0 ≤ lo ∧ lo ≤ hi ∧ hi ≤ l.length then some ((l.drop lo.toNat).take (hi.toNat - lo.toNat)) else none
theorem subI_some {α : Type} {l m : List α} {lo hi : Int} (h : subI l lo hi = some m) : ∃ a b : Nat, lo = a ∧ hi = b ∧ a ≤ b ∧ b ≤ l.length ∧ m = (l.drop a).take (b - a) := by
  unfold subI at h
  split at h
  · rename_i hc
    refine ⟨lo.toNat, hi.toNat, by omega, by omega, by omega, by omega, ?_⟩
    simpa using h.symm
  · cases h
/-- append, up to N elements. -/
def appI {α : Type} (N : Nat) (l m : List α) : Option (List α) := if l.length + m.length ≤ N then some (l ++ m) else none
theorem appI_some {α : Type} {N : Nat} {l m r : List α} (h : appI N l m = some r) : l.length + m.length ≤ N ∧ r = l ++ m := by
  unfold appI at h
  split at h
  · exact ⟨by assumption, by simpa using h.symm⟩
  · cases h
theorem bindE {α β : Type} {o : Option α} {g : α → Option β} {r : β} (h : o.bind g = some r) : ∃ x, o = some x ∧ g x = some r := by
  cases o with
  | none => simp at h
  | some x => exact ⟨x, rfl, h⟩
abbrev w64 (n : Int) : Int := IntKind.i64.wrap n
end Hyp
namespace Hyp
open Go
/-! ### Words that the printed walks use -/
theorem Own.trans {w0 w1 w2 : World} {o : Nat → Prop} {l1 l2 : List Ent} (h : Own w0 o w1 l1) (h2 : Own w1 (footU l1) w2 l2) : Own w0 o w2 l2 := by
  refine ⟨Nat.le_trans h.size h2.size, ?_, h2.all, ?_, h2.sep, h.kept.trans h2.kept⟩
  · intro b hb ho
    refine (h2.old b (Nat.lt_of_lt_of_le hb h.size) ?_).trans (h.old b hb ho)
    rintro ⟨e, he, hf⟩
    exact ho ((h.low e he b hf).2 hb)
  · intro e he b hb
    have := h2.low e he b hb
    refine ⟨this.1, fun hlt => ?_⟩
    obtain ⟨x, hx, hxb⟩ := this.2 (Nat.lt_of_lt_of_le hlt h.size)
    exact (h.low x hx b hxb).2 hlt
theorem Own.pick {w0 w : World} {o : Nat → Prop} {l : List Ent} (h : Own w0 o w l) (ks : List Nat) (hn : ks.Nodup) : Own w0 o w (pick l ks) :=
  ⟨h.size, h.old, fun e he => let ⟨_, _, hk⟩ := mem_pick he; h.all e (List.mem_of_getElem? hk), fun e he => let ⟨_, _, hk⟩ := mem_pick he; h.low e (List.mem_of_getElem? hk), pick_sep h hn, h.kept⟩
/-- The blocks that are read, where l is owned: neither of l, and either of S, or new, or once owned. -/
def TT (S o : Nat → Prop) (w0 : World) (l : List Ent) (b : Nat) : Prop := ¬ footU l b ∧ (S b ∨ w0.heap.size ≤ b ∨ o b)
section
variable {S o : Nat → Prop} {w0 wB w w' : World} {lB l m : List Ent} {v : Value} {n : Nat} {xs : List Value}
theorem TT.now (h : Own wB (footU lB) w l) {b : Nat} (hb : b < wB.heap.size) (ht : TT S o w0 lB b) : TT S o w0 l b ∧ w.heap[b]? = wB.heap[b]? :=
  ⟨⟨h.free ⟨hb, ht.1⟩ l fun e he => he, ht.2⟩, h.old b hb ht.1⟩
/-- What was read at the base, as it is read now. -/
theorem Sl.now (hs : Sl (TT S o w0 lB) wB v n xs) (h : Own wB (footU lB) w l) : Sl (TT S o w0 l) w v n xs := hs.go fun b hb ht => TT.now h hb ht
theorem RSl.now {α : Type} {A : RTy α} {ys : List α} (hs : RSl A (TT S o w0 lB) wB v ys) (h : Own wB (footU lB) w l) : RSl A (TT S o w0 l) w v ys := hs.go fun b hb ht => TT.now h hb ht
theorem relNow {α : Type} {A : RTy α} {x : α} {cs : List Value} (hs : A.rel (TT S o w0 lB) wB x cs) (h : Own wB (footU lB) w l) : A.rel (TT S o w0 l) w x cs := A.go hs fun b hb ht => TT.now h hb ht
/-- At a function's begin. -/
theorem TT.in (hS : ∀ b, S b → ¬ footU l b) {b : Nat} (h : S b) : TT S o w0 l b := ⟨hS b h, .inl h⟩
theorem Sl.in (hs : Sl S w v n xs) (hS : ∀ b, S b → ¬ footU l b) : Sl (TT S o w0 l) w v n xs := hs.mono fun b _ h => TT.in hS h
theorem RSl.in {α : Type} {A : RTy α} {ys : List α} (hs : RSl A S w v ys) (hS : ∀ b, S b → ¬ footU l b) : RSl A (TT S o w0 l) w v ys := hs.go fun b _ h => ⟨TT.in hS h, rfl⟩
/-- What a callee may read, that takes the entries at ks and hands back nothing that it read. -/
def SC (l : List Ent) (ks : List Nat) (b : Nat) : Prop := ¬ footU (Hyp.pick l ks) b
theorem SC.ok (l : List Ent) (ks : List Nat) : ∀ b, SC l ks b → ¬ footU (Hyp.pick l ks) b := fun _ h => h
theorem TT.sc (ks : List Nat) {b : Nat} (h : TT S o w0 l b) : SC l ks b := fun ⟨e, he, hf⟩ => h.1 ⟨e, let ⟨_, _, hk⟩ := mem_pick he; List.mem_of_getElem? hk, hf⟩
theorem Sl.sc (ks : List Nat) (h : Sl (TT S o w0 l) w v n xs) : Sl (SC l ks) w v n xs := h.mono fun _ _ hb => hb.sc ks
theorem RSl.sc {α : Type} {A : RTy α} {ys : List α} (ks : List Nat) (h : RSl A (TT S o w0 l) w v ys) : RSl A (SC l ks) w v ys := h.go fun _ _ hb => ⟨hb.sc ks, rfl⟩
/-- What a callee may read that hands back some of it. -/
def SR (S o : Nat → Prop) (w0 w : World) (l : List Ent) (b : Nat) : Prop := b < w.heap.size ∧ TT S o w0 l b
theorem SR.ok (ks : List Nat) : ∀ b, SR S o w0 w l b → ¬ footU (Hyp.pick l ks) b := fun _ h => h.2.sc ks
theorem Sl.sr (h : Sl (TT S o w0 l) w v n xs) : Sl (SR S o w0 w l) w v n xs := h.mono fun _ hb h => ⟨hb, h⟩
theorem RSl.sr {α : Type} {A : RTy α} {ys : List α} (h : RSl A (TT S o w0 l) w v ys) : RSl A (SR S o w0 w l) w v ys := h.go fun _ hb h => ⟨⟨hb, h⟩, rfl⟩
/-- The blocks of what is handed back to be read. -/
def SO (S o : Nat → Prop) (w : World) (m : List Ent) (b : Nat) : Prop := TT S o w m b
theorem TT.res (h : Own w0 o w l) (ks : List Nat) (hc : Own w (footU (Hyp.pick l ks)) w' m) {b : Nat} (hb : TT (SR S o w0 w l) (footU (Hyp.pick l ks)) w m b) : TT S o w0 (m ++ Hyp.drop l ks) b := by
  have hpick : footU (Hyp.pick l ks) b → ¬ footU (Hyp.drop l ks) b ∧ (b < w0.heap.size → o b) := by
    rintro ⟨x, hx, hxb⟩
    obtain ⟨j, hj, hje⟩ := mem_pick hx
    refine ⟨?_, fun hlt => (h.low x (List.mem_of_getElem? hje) b hxb).2 hlt⟩
    rintro ⟨e, he, hf⟩
    obtain ⟨k, hk, hke⟩ := mem_drop he
    exact sep_at h (by rintro rfl; exact hk hj) hje hke b hxb hf
  refine ⟨?_, ?_⟩
  · rw [footU_append]
    rintro (hm | ⟨e, he, hf⟩)
    · exact hb.1 hm
    · rcases hb.2 with h1 | h1 | h1
      · exact h1.2.1 ⟨e, (drop_sublist l ks).subset he, hf⟩
      · have := (h.low e ((drop_sublist l ks).subset he) b hf).1; omega
      · exact (hpick h1).1 ⟨e, he, hf⟩
  · rcases hb.2 with h1 | h1 | h1
    · exact h1.2.2
    · exact .inr (.inl (Nat.le_trans h.size h1))
    · rcases Nat.lt_or_ge b w0.heap.size with h2 | h2
      · exact .inr (.inr ((hpick h1).2 h2))
      · exact .inr (.inl h2)
theorem Sl.res {ks : List Nat} (hr : Sl (TT (SR S o w0 w l) (footU (Hyp.pick l ks)) w m) w' v n xs) (h : Own w0 o w l) (hc : Own w (footU (Hyp.pick l ks)) w' m) : Sl (TT S o w0 (m ++ Hyp.drop l ks)) w' v n xs := hr.mono fun _ _ hb => TT.res h ks hc hb
theorem RSl.res {ks : List Nat} {α : Type} {A : RTy α} {ys : List α} (hr : RSl A (TT (SR S o w0 w l) (footU (Hyp.pick l ks)) w m) w' v ys) (h : Own w0 o w l) (hc : Own w (footU (Hyp.pick l ks)) w' m) : RSl A (TT S o w0 (m ++ Hyp.drop l ks)) w' v ys :=
  hr.go fun _ _ hb => ⟨TT.res h ks hc hb, rfl⟩
/-- The entry at k is given up: what it held is read from then on. -/
theorem Own.freeze {k sz : Nat} (h : Own w0 o w l) (hk : l[k]? = some (row sz v n xs)) : Sl (TT S o w0 (Hyp.drop l [k])) w v n xs :=
  h.rowSl hk fun b hb => ⟨fun ⟨e, he, hf⟩ => by
    obtain ⟨j, hj, hje⟩ := mem_drop he
    exact sep_at h (by simpa using Ne.symm (by simpa using hj : j ≠ k)) hk hje b hb hf, by
    rcases Nat.lt_or_ge b w0.heap.size with h2 | h2
    · exact .inr (.inr ((h.low _ (List.mem_of_getElem? hk) b hb).2 h2))
    · exact .inr (.inl h2)⟩
theorem Own.rowSC {k sz : Nat} (h : Own w0 o w l) (hk : l[k]? = some (row sz v n xs)) (ks : List Nat) (hn : ks.contains k = false) : Sl (SC l ks) w v n xs := h.rowFor hk ks (by simpa using hn)
/-- Fewer owned: as much is read. -/
theorem Sl.less (h : Sl (TT S o w0 l) w v n xs) (hl : ∀ e ∈ m, e ∈ l) : Sl (TT S o w0 m) w v n xs := h.mono fun _ _ hb => ⟨fun ⟨e, he, hf⟩ => hb.1 ⟨e, hl e he, hf⟩, hb.2⟩
theorem RSl.less {α : Type} {A : RTy α} {ys : List α} (h : RSl A (TT S o w0 l) w v ys) (hl : ∀ e ∈ m, e ∈ l) : RSl A (TT S o w0 m) w v ys := h.go fun _ _ hb => ⟨⟨fun ⟨e, he, hf⟩ => hb.1 ⟨e, hl e he, hf⟩, hb.2⟩, rfl⟩
end
theorem Sl.subE {α : Type} {E : Enc α} {S : Nat → Prop} {w : World} {v : Value} {xs m : List α} (h : Sl S w v xs.length (cel E xs)) {a b : Nat} (hab : a ≤ b) (hb : b ≤ xs.length) (hm : m = (xs.drop a).take (b - a)) :
    Sl S w (subv E.sz v a b) m.length (cel E m) := by
  subst hm
  have h1 := h.sub E.sz a b hab hb (cel_len xs)
  rw [cel_drop, cel_take] at h1
  have : ((xs.drop a).take (b - a)).length = b - a := by simp; omega
  rw [this]; exact h1
theorem Own.dropped {w0 w : World} {o : Nat → Prop} {l : List Ent} (h : Own w0 o w l) (ks : List Nat) : Own w0 o w (Hyp.drop l ks) := h.sub (drop_sublist l ks)
theorem tup2 {f : Fr} {a b : Nat} {v u : Value} (h1 : f a = v) (h2 : f b = u) : Value.tuple #[f a, f b] = .tuple #[v, u] := by rw [h1, h2]
theorem tup3 {f : Fr} {a b c : Nat} {v u t : Value} (h1 : f a = v) (h2 : f b = u) (h3 : f c = t) : Value.tuple #[f a, f b, f c] = .tuple #[v, u, t] := by rw [h1, h2, h3]
def tupAt : Value → Nat → Value
  | .tuple vs, i => vs.getD i undef
  | _, _ => undef
def blkOf : Value → Nat
  | .pointer (some a) => a.block
  | _ => 0
theorem C_seqJ {P : Program} {n : Nat} {Q : Post} {f : Fr} {w : World} {x y : Code} (J : Fr → World → Prop) (h1 : C P n x (thenQ J Q) f w) (h2 : ∀ f w, J f w → C P n y Q f w) : C P n (.seq x y) Q f w := by
  refine C_seq (C_mono h1 ?_)
  intro e f w h
  cases e <;> first
    | exact h2 _ _ h
    | exact h
/-- A result: a slot, or the variable behind one. -/
def ResAt (P : Program) (f : Fr) (w : World) : ResultVar → Value → Prop
  | .tmp t, v => f t = v
  | .cell a T, v => ∃ ad, f a = .pointer (some ad) ∧ (loadVar T ad).run P w = .ok v w
theorem res_cellA {P : Program} {f : Fr} {w : World} {a T s : Nat} {ad : Addr} {d : TypeDesc} {xs : List Value} (hu : P.underlying T = some d) (hd : scal d = false) (hs : SizeIs P T s) (hx : f a = .pointer (some ad)) (hc : At w ad xs) (hl : xs.length = s) :
    ResAt P f w (.cell a T) (.agg xs.toArray) := by
  subst hl
  exact ⟨ad, hx, by simp [loadVar, run_isAgg hu, hd, hs.run, run_loadCells_list w ad xs hc.cells]⟩
theorem res_cell1 {P : Program} {f : Fr} {w : World} {a T : Nat} {ad : Addr} {d : TypeDesc} {v : Value} (hu : P.underlying T = some d) (hd : scal d = true) (hx : f a = .pointer (some ad)) (hc : w.cell? ad = some v) : ResAt P f w (.cell a T) v :=
  ⟨ad, hx, by simp [loadVar, run_isAgg hu, hd, hc]⟩
def resSem (tmps : Array Value) : ResultVar → Sem Value
  | .tmp t => pure (tmps.getD t undef)
  | .cell a t => do loadVar t (← asAddr (tmps.getD a undef))
theorem results_eq (fn : Func) (tmps : Array Value) : results fn tmps = (do let vs ← fn.results.mapM (resSem tmps); pure (if h : vs.size = 1 then vs[0] else .tuple vs)) := by
  unfold results
  congr 1
theorem resRun {P : Program} {f : Fr} {w : World} {tmps : Array Value} (ht : (fun t => tmps.getD t undef) = f) {r : ResultVar} {v : Value} (h : ResAt P f w r v) : (resSem tmps r).run P w = .ok v w := by
  subst ht
  cases r with
  | tmp t => simp only [ResAt] at h; simp [resSem, h]
  | cell a t =>
    obtain ⟨ad, h1, h2⟩ := h
    simp only at h1
    simp [resSem, h1, asAddr, h2]
theorem resR1 {P : Program} {fn : Func} {f : Fr} {w : World} {r1 : ResultVar} {v1 : Value} (h : fn.results = #[r1]) (h1 : ResAt P f w r1 v1) : resOf P fn f w v1 := by
  intro tmps ht
  have e1 := resRun ht h1
  rw [results_eq]
  simp [h, e1]
theorem resR2 {P : Program} {fn : Func} {f : Fr} {w : World} {r1 r2 : ResultVar} {v1 v2 : Value} (h : fn.results = #[r1, r2]) (h1 : ResAt P f w r1 v1) (h2 : ResAt P f w r2 v2) : resOf P fn f w (.tuple #[v1, v2]) := by
  intro tmps ht
  have e1 := resRun ht h1
  have e2 := resRun ht h2
  rw [results_eq]
  simp [h, e1, e2]
theorem resR3 {P : Program} {fn : Func} {f : Fr} {w : World} {r1 r2 r3 : ResultVar} {v1 v2 v3 : Value} (h : fn.results = #[r1, r2, r3]) (h1 : ResAt P f w r1 v1) (h2 : ResAt P f w r2 v2) (h3 : ResAt P f w r3 v3) : resOf P fn f w (.tuple #[v1, v2, v3]) := by
  intro tmps ht
  have e1 := resRun ht h1
  have e2 := resRun ht h2
  have e3 := resRun ht h3
  rw [results_eq]
  simp [h, e1, e2, e3]
theorem resR4 {P : Program} {fn : Func} {f : Fr} {w : World} {r1 r2 r3 r4 : ResultVar} {v1 v2 v3 v4 : Value} (h : fn.results = #[r1, r2, r3, r4]) (h1 : ResAt P f w r1 v1) (h2 : ResAt P f w r2 v2) (h3 : ResAt P f w r3 v3) (h4 : ResAt P f w r4 v4) :
    resOf P fn f w (.tuple #[v1, v2, v3, v4]) := by
  intro tmps ht
  have e1 := resRun ht h1
  have e2 := resRun ht h2
  have e3 := resRun ht h3
  have e4 := resRun ht h4
  rw [results_eq]
  simp [h, e1, e2, e3, e4]
end Hyp
namespace Hyp
theorem ifT {α : Type} {b : Bool} {x y : α} (h : b = true) : (if b = true then x else y) = x := if_pos h
theorem ifF {α : Type} {b : Bool} {x y : α} (h : b = false) : (if b = true then x else y) = y := if_neg (by rw [h]; decide)
end Hyp
namespace Hyp
open Go
theorem mem {l : List Ent} (k : Nat) {e : Ent} (h : l[k]? = some e) : e ∈ l := List.mem_of_getElem? h
/-- Cells at an address, in a block of S. -/
structure AtS (S : Nat → Prop) (w : World) (ad : Addr) (xs : List Value) : Prop where
  at_ : At w ad xs
  blk : S ad.block
section
variable {S S' o : Nat → Prop} {w0 wB w w' : World} {lB l m : List Ent} {g sz n : Nat} {v : Value} {xs cs : List Value} {ad : Addr}
theorem AtS.go (h : AtS S w ad xs) (hg : ∀ b, b < w.heap.size → S b → S' b ∧ w'.heap[b]? = w.heap[b]?) : AtS S' w' ad xs := ⟨h.at_.congr (hg _ h.at_.lt h.blk).2, (hg _ h.at_.lt h.blk).1⟩
theorem AtS.now (h : AtS (TT S o w0 lB) wB ad xs) (H : Own wB (footU lB) w l) : AtS (TT S o w0 l) w ad xs := h.go fun b hb ht => TT.now H hb ht
theorem AtS.in (h : AtS S w ad xs) (hS : ∀ b, S b → ¬ footU l b) : AtS (TT S o w0 l) w ad xs := h.go fun b _ hb => ⟨TT.in hS hb, rfl⟩
theorem AtS.sc (ks : List Nat) (h : AtS (TT S o w0 l) w ad xs) : AtS (SC l ks) w ad xs := h.go fun _ _ hb => ⟨hb.sc ks, rfl⟩
theorem AtS.sr (h : AtS (TT S o w0 l) w ad xs) : AtS (SR S o w0 w l) w ad xs := h.go fun _ hb ht => ⟨⟨hb, ht⟩, rfl⟩
theorem At.part (h : At w ⟨g, 0, none⟩ cs) (off s : Nat) {ys : List Value} (hy : (cs.drop off).take s = ys) : At w ⟨g, off, none⟩ ys := by
  have := (h.drop off).take s
  rw [hy] at this
  unfold Addr.add at this
  split at this
  · rename_i h0; rw [h0]; exact this
  · simpa using this
theorem At.one (h : At w ⟨g, 0, none⟩ cs) (off : Nat) {x : Value} (hx : cs[off]? = some x) : w.cell? ⟨g, off, none⟩ = some x := by
  have := h.cell hx
  unfold Addr.add at this
  split at this
  · rename_i h0; rw [h0]; exact this
  · simpa using this
theorem AtS.part (h : AtS S w ⟨g, 0, none⟩ cs) (off s : Nat) {ys : List Value} (hy : (cs.drop off).take s = ys) : At w ⟨g, off, none⟩ ys := h.at_.part off s hy
theorem AtS.one (h : AtS S w ⟨g, 0, none⟩ cs) (off : Nat) {x : Value} (hx : cs[off]? = some x) : w.cell? ⟨g, off, none⟩ = some x := h.at_.one off hx
theorem Own.bxM (H : Own w0 o w l) (hm : bx g cs ∈ l) : At w ⟨g, 0, none⟩ cs := by
  obtain ⟨k, hk⟩ := List.mem_iff_getElem?.1 hm
  exact H.bxAt hk
theorem Own.bxSCM (H : Own w0 o w l) (hm : bx g cs ∈ l) (ks : List Nat) {k : Nat} (hk : l[k]? = some (bx g cs)) (hn : ks.contains k = false) : AtS (SC l ks) w ⟨g, 0, none⟩ cs :=
  ⟨H.bxAt hk, by
    rintro ⟨e, he, hf⟩
    obtain ⟨j, hj, hje⟩ := mem_pick he
    exact sep_at H (by rintro rfl; simp [hj] at hn) hje hk g hf rfl⟩
theorem Own.rowM (H : Own w0 o w l) (hm : row sz v n xs ∈ l) : Sl (fun _ => True) w v n xs := by
  obtain ⟨k, hk⟩ := List.mem_iff_getElem?.1 hm
  exact H.rowSl hk fun _ _ => trivial
theorem Own.rowIsM (H : Own w0 o w l) (hm : row sz v n xs ∈ l) : IsSl v n := (H.rowM hm).1
theorem Own.rowSCM (H : Own w0 o w l) (hm : row sz v n xs ∈ l) (ks : List Nat) {k : Nat} (hk : l[k]? = some (row sz v n xs)) (hn : ks.contains k = false) : Sl (SC l ks) w v n xs := H.rowSC hk ks hn
theorem cap0_is (h : ∃ a, v = .slice a 0 0) : IsSl v 0 := by
  obtain ⟨a, rfl⟩ := h
  exact ⟨_, _, rfl, Nat.le_refl _, Nat.zero_le _, fun _ => rfl⟩
end
section
variable {P : Program} {ty : TypeId} {f : Fr} {w : World} {K : Value → World → Prop} {w0 : World} {o : Nat → Prop} {l l' : List Ent}
theorem Sl.celOne {α : Type} {E : Enc α} {S : Nat → Prop} {v : Value} {xs : List α} {n : Nat} (h : Sl S w v n (cel E xs)) {j : Nat} {x : α} {u : Value} (hx : xs[j]? = some x) (hs : E.sz = 1 := by rfl) (hu : (E.enc x)[0]? = some u := by rfl) :
    w.cell? (ptrOf v (j * 1)) = some u := by
  refine h.cell ?_
  have := cel_get (E := E) hx (j := 0) (by omega)
  rw [hs] at this
  rw [← hu, ← this, Nat.add_zero]
theorem o_storeCel {α : Type} {E : Enc α} {T : TypeId} {x y : Operand} {n k j sz : Nat} {xs : List α} {z z' : α} {v u : Value} (hk : l[k]? = some (row sz v n (cel E xs))) (H : Own w0 o w l) (hx : ev f x = .pointer (some (ptrOf v (j * sz))))
    (hy : ev f y = u) (hu : u.cells.toList = E.enc z') (hs : SizeIs P T sz) (hj : xs[j]? = some z) (he : E.sz = sz) (h : ∀ w', Own w0 o w' (l.set k (row sz v n (cel E (xs.set j z')))) → K undef w') (h0 : 0 < sz := by decide) :
    OpW P (.store T x y) ty f w K := by
  subst he
  have hjl : j < xs.length := (List.getElem?_eq_some_iff.1 hj).1
  have hle : (j + 1) * E.sz ≤ xs.length * E.sz := Nat.mul_le_mul_right _ hjl
  rw [Nat.succ_mul] at hle
  refine o_storeRow hk H hx hy hu (by rw [E.len]; exact hs) (E.one _) (by rw [E.len, cel_len]; exact hle) (by rw [cel_len]; exact Nat.mul_pos (by omega) h0) (cel_set hjl z') rfl h
theorem o_appendE {α : Type} {E : Enc α} {s x : Operand} {t e by_ k : Nat} {v u : Value} {xs ys zs : List α} {S : Nat → Prop} (he : ElemIs P t e E.sz by_) (hk : l[k]? = some (row E.sz v xs.length (cel E xs))) (H : Own w0 o w l)
    (hs : ev f s = v) (hx : ev f x = u) (hu : Sl S w u ys.length (cel E ys)) (hl : xs.length + ys.length ≤ 140737488355328 / by_) (hz : zs = xs ++ ys) (h : ∀ v' w' l', l.set k (row E.sz v' zs.length (cel E zs)) = l' → Own w0 o w' l' → K v' w') :
    OpW P (.call ⟨.builtin .append, #[s, x], #[t, t]⟩) ty f w K := by
  subst hz
  have hb : (xs.length + ys.length) * by_ ≤ 140737488355328 := Nat.le_trans (Nat.mul_le_mul_right _ hl) (Nat.div_mul_le_self _ _)
  have hm : xs.length + ys.length ≤ maxLen := by
    have h1 : 140737488355328 / by_ ≤ 140737488355328 := Nat.div_le_self _ _
    have : maxLen = 9223372036854775807 := rfl
    omega
  refine o_append he hk H hs hx hu (cel_len ys) (cel_ones ys) hb hm (cel_append (E := E)).symm ?_
  intro v' w' l' hl' H'
  refine h v' w' l' ?_ H'
  rw [← hl', List.length_append]
end
end Hyp
namespace Hyp
open Go
theorem same_upd {f f' : Fr} {ds : List Nat} {d : Nat} {v : Value} (h : ∀ t, ds.contains t = false → f' t = f t) (hd : ds.contains d = true) : ∀ t, ds.contains t = false → upd f' d v t = f t := by
  intro t ht
  have : t ≠ d := by rintro rfl; rw [hd] at ht; cases ht
  rw [upd_ne _ _ this, h t ht]
theorem C_seqG {P : Program} {n : Nat} {Q : Post} {f : Fr} {w : World} {x y : Code} (d : Nat) (e : Bool) (ds : List Nat) (h1 : C P n x (thenQ (fun f' w' => w' = w ∧ f' d = .bool e ∧ ∀ t, ds.contains t = false → f' t = f t) Q) f w)
    (h2 : ∀ f', f' d = .bool e → (∀ t, ds.contains t = false → f' t = f t) → C P n y Q f' w) : C P n (.seq x y) Q f w := by
  refine C_seqJ (fun f' w' => w' = w ∧ f' d = .bool e ∧ ∀ t, ds.contains t = false → f' t = f t) h1 ?_
  rintro f' w' ⟨rfl, h3, h4⟩
  exact h2 f' h3 h4
theorem RSl.atS {α : Type} {A : RTy α} {S : Nat → Prop} {w : World} {v : Value} {xs : List α} (h : RSl A S w v xs) {i : Nat} {x : α} (hx : xs[i]? = some x) (hs : 0 < A.sz) : ∃ cs, AtS S w (ptrOf v (i * A.sz)) cs ∧ A.rel S w x cs := by
  obtain ⟨cs, h1, h2, _, h4⟩ := h
  have hi : i < xs.length := (List.getElem?_eq_some_iff.1 hx).1
  have hne : cs ≠ [] := by
    rintro rfl
    have hp : 0 < xs.length * A.sz := Nat.mul_pos (by omega) hs
    rw [List.length_nil] at h2
    omega
  refine ⟨_, ⟨(h1.at hne (i * A.sz)).take A.sz, ?_⟩, h4 i x hx⟩
  rcases h1.2 with h | ⟨ad, ⟨c, rfl⟩, h3, _⟩
  · exact absurd h hne
  · simpa [ptrOf] using h3
end Hyp
