/- What is owned of memory: entries with their blocks, kept apart; what a step, a store, a call does to them. -/
import Derived.Test.YtdlbmjbbnplpjaaXa
set_option linter.unusedVariables false
set_option linter.unusedSimpArgs false
namespace Hyp
open Go

/-- A piece of memory: which blocks, and what holds of them. -/
structure Ent where
  foot : Nat → Prop
  holds : World → Prop
  loc : ∀ {w w' : World}, (∀ b, foot b → w'.heap[b]? = w.heap[b]?) → holds w → holds w'
/-- Block g is the object o. -/
def pt (g : Nat) (o : Obj) : Ent := ⟨(· = g), fun w => w.heap[g]? = some o, fun h h' => (h _ rfl).trans h'⟩
@[simp] theorem pt_foot (g : Nat) (o : Obj) (b : Nat) : (pt g o).foot b = (b = g) := rfl
@[simp] theorem pt_holds (g : Nat) (o : Obj) (w : World) : (pt g o).holds w = (w.heap[g]? = some o) := rfl
def footU (l : List Ent) (b : Nat) : Prop := ∃ e ∈ l, e.foot b
@[simp] theorem footU_nil (b : Nat) : footU [] b ↔ False := by simp [footU]
theorem footU_cons (e : Ent) (l : List Ent) (b : Nat) : footU (e :: l) b ↔ e.foot b ∨ footU l b := by simp [footU]
theorem footU_append (l m : List Ent) (b : Nat) : footU (l ++ m) b ↔ footU l b ∨ footU m b := by
  simp only [footU, List.mem_append]
  constructor
  · rintro ⟨e, h1 | h1, h2⟩
    · exact .inl ⟨e, h1, h2⟩
    · exact .inr ⟨e, h1, h2⟩
  · rintro (⟨e, h1, h2⟩ | ⟨e, h1, h2⟩)
    · exact ⟨e, .inl h1, h2⟩
    · exact ⟨e, .inr h1, h2⟩
def apart (e e' : Ent) : Prop := ∀ b, e.foot b → ¬ e'.foot b
theorem apart.symm {e e' : Ent} (h : apart e e') : apart e' e := fun b h1 h2 => h b h2 h1
/-- The streams are as they were. -/
structure Kept (w0 w : World) : Prop where
  os : w.os = w0.os
  tape : w.tape = w0.tape
  output : w.output = w0.output
theorem Kept.refl (w : World) : Kept w w := ⟨rfl, rfl, rfl⟩
theorem Kept.trans {a b c : World} (h : Kept a b) (k : Kept b c) : Kept a c := ⟨k.os.trans h.os, k.tape.trans h.tape, k.output.trans h.output⟩
/-- From w0 to w only the blocks o, and new ones, have changed; in w the pieces l hold, apart from one another; they are of o, or new. -/
structure Own (w0 : World) (o : Nat → Prop) (w : World) (l : List Ent) : Prop where
  size : w0.heap.size ≤ w.heap.size
  old : ∀ b, b < w0.heap.size → ¬ o b → w.heap[b]? = w0.heap[b]?
  all : ∀ e ∈ l, e.holds w
  low : ∀ e ∈ l, ∀ b, e.foot b → b < w.heap.size ∧ (b < w0.heap.size → o b)
  sep : l.Pairwise apart
  kept : Kept w0 w
theorem Own.start (w : World) (o : Nat → Prop) : Own w o w [] := ⟨Nat.le_refl _, fun _ _ _ => rfl, by simp, by simp, .nil, .refl _⟩
section
variable {w0 w w' : World} {o : Nat → Prop} {l l' : List Ent}
theorem Own.perm (h : Own w0 o w l) (hp : l.Perm l') : Own w0 o w l' :=
  ⟨h.size, h.old, fun e he => h.all e (hp.mem_iff.2 he), fun e he => h.low e (hp.mem_iff.2 he), hp.pairwise h.sep (fun h => apart.symm h), h.kept⟩
theorem Own.sub (h : Own w0 o w l) (hs : List.Sublist l' l) : Own w0 o w l' :=
  ⟨h.size, h.old, fun e he => h.all e (hs.subset he), fun e he => h.low e (hs.subset he), h.sep.sublist hs, h.kept⟩
/-- The world at which they hold is where one begins anew. -/
theorem Own.fresh (h : Own w0 o w l) : Own w (footU l) w l :=
  ⟨Nat.le_refl _, fun _ _ _ => rfl, h.all, fun e he b hb => ⟨(h.low e he b hb).1, fun _ => ⟨e, he, hb⟩⟩, h.sep, .refl _⟩
theorem Own.wider {o' : Nat → Prop} (h : Own w0 o w l) (ho : ∀ b, o b → o' b) : Own w0 o' w l :=
  ⟨h.size, fun b hb hn => h.old b hb fun h' => hn (ho b h'), h.all, fun e he b hb => ⟨(h.low e he b hb).1, fun h' => ho b ((h.low e he b hb).2 h')⟩, h.sep, h.kept⟩
/-- New blocks, nothing else changed. -/
theorem Own.grow (h : Own w0 o w l) (hs : w.heap.size ≤ w'.heap.size) (hk : ∀ b, b < w.heap.size → w'.heap[b]? = w.heap[b]?) {n : List Ent} (hn : ∀ e ∈ n, e.holds w')
    (hf : ∀ e ∈ n, ∀ b, e.foot b → w.heap.size ≤ b ∧ b < w'.heap.size) (hp : n.Pairwise apart) (hx : Kept w w' := by exact ⟨rfl, rfl, rfl⟩) : Own w0 o w' (n ++ l) := by
  refine ⟨Nat.le_trans h.size hs, fun b hb ho => (hk b (Nat.lt_of_lt_of_le hb h.size)).trans (h.old b hb ho), ?_, ?_, ?_, h.kept.trans hx⟩
  · intro e he
    rcases List.mem_append.1 he with he | he
    · exact hn e he
    · exact e.loc (fun b hb => hk b (h.low e he b hb).1) (h.all e he)
  · intro e he b hb
    rcases List.mem_append.1 he with he | he
    · have := hf e he b hb
      exact ⟨this.2, fun h' => absurd h' (Nat.not_lt.2 (Nat.le_trans h.size this.1))⟩
    · exact ⟨Nat.lt_of_lt_of_le (h.low e he b hb).1 hs, (h.low e he b hb).2⟩
  · rw [List.pairwise_append]
    refine ⟨hp, h.sep, fun e he e' he' b hb hb' => ?_⟩
    have h1 := hf e he b hb
    have h2 := (h.low e' he' b hb').1
    omega
theorem Own.alloc (h : Own w0 o w l) (x : Obj) : Own w0 o (w.alloc x) (pt w.heap.size x :: l) := by
  refine h.grow (n := [pt w.heap.size x]) (by simp) (fun b hb => by show (w.heap.push x)[b]? = _; rw [Array.getElem?_push, if_neg (Nat.ne_of_lt hb)]) ?_ ?_ (List.pairwise_singleton _ _)
  · intro e he
    simp at he
    subst he
    show (w.heap.push x)[w.heap.size]? = _
    simp
  · intro e he b hb
    simp at he
    subst he
    simp at hb
    subst hb
    simp
theorem Own.drew (h : Own w0 o w l) : Own w0 o w.drew l :=
  ⟨h.size, h.old, fun e he => e.loc (w := w) (fun _ _ => rfl) (h.all e he), h.low, h.sep, h.kept.trans ⟨rfl, rfl, rfl⟩⟩
/-- The entry at k becomes another one, over its own blocks and new ones. -/
theorem Own.put (h : Own w0 o w l) (k : Nat) {e e' : Ent} (he : l[k]? = some e) (hs : w.heap.size ≤ w'.heap.size) (hk : ∀ b, b < w.heap.size → ¬ e.foot b → w'.heap[b]? = w.heap[b]?)
    (h' : e'.holds w') (hf : ∀ b, e'.foot b → b < w'.heap.size ∧ (b < w.heap.size → e.foot b)) (hx : Kept w w' := by exact ⟨rfl, rfl, rfl⟩) : Own w0 o w' (l.set k e') := by
  have hm : e ∈ l := List.mem_of_getElem? he
  have hkl : k < l.length := by
    rcases Nat.lt_or_ge k l.length with h1 | h1
    · exact h1
    · rw [List.getElem?_eq_none h1] at he; cases he
  have hpw := h.sep
  rw [List.pairwise_iff_getElem] at hpw
  have hek : l[k] = e := by rw [List.getElem?_eq_getElem hkl] at he; exact Option.some.inj he
  have far : ∀ j (hj : j < l.length), j ≠ k → apart e l[j] := by
    intro j hj hjk
    rcases Nat.lt_or_gt_of_ne hjk with h1 | h1
    · exact hek ▸ (hpw j k hj hkl h1).symm
    · exact hek ▸ hpw k j hkl hj h1
  refine ⟨Nat.le_trans h.size hs, ?_, ?_, ?_, ?_, h.kept.trans hx⟩
  · intro b hb ho
    rw [hk b (Nat.lt_of_lt_of_le hb h.size) (fun hf => ho ((h.low e hm b hf).2 hb)), h.old b hb ho]
  · intro x hx
    obtain ⟨j, hj, rfl⟩ := List.getElem_of_mem hx
    rw [List.length_set] at hj
    rw [List.getElem_set]
    split
    · exact h'
    · rename_i hne
      refine (l[j]).loc (fun b hb => hk b (h.low _ (List.getElem_mem hj) b hb).1 ?_) (h.all _ (List.getElem_mem hj))
      exact fun hf => far j hj (Ne.symm hne) b hf hb
  · intro x hx b hb
    obtain ⟨j, hj, rfl⟩ := List.getElem_of_mem hx
    rw [List.length_set] at hj
    rw [List.getElem_set] at hb
    split at hb
    · have := hf b hb
      exact ⟨this.1, fun h1 => (h.low e hm b (this.2 (Nat.lt_of_lt_of_le h1 h.size))).2 h1⟩
    · have := h.low _ (List.getElem_mem hj) b hb
      exact ⟨Nat.lt_of_lt_of_le this.1 hs, this.2⟩
  · rw [List.pairwise_iff_getElem]
    have new : ∀ j (hj : j < l.length), j ≠ k → apart e' l[j] := by
      intro j hj hjk b h1 h2
      have h3 := (h.low _ (List.getElem_mem hj) b h2).1
      exact far j hj hjk b ((hf b h1).2 h3) h2
    intro i j hi hj hij
    rw [List.length_set] at hi hj
    rw [List.getElem_set, List.getElem_set]
    split <;> split
    · omega
    · exact new j hj (by omega)
    · exact (new i hi (by omega)).symm
    · exact hpw i j hi hj hij
/-- Entries at places. -/
def pick (l : List Ent) : List Nat → List Ent
  | [] => []
  | k :: ks => (match l[k]? with | some e => [e] | none => []) ++ pick l ks
def drop (l : List Ent) (ks : List Nat) : List Ent := (l.zipIdx.filter fun p => !ks.contains p.2).map (·.1)
theorem mem_pick {ks : List Nat} {e : Ent} (h : e ∈ pick l ks) : ∃ k ∈ ks, l[k]? = some e := by
  induction ks with
  | nil => simp [pick] at h
  | cons k ks ih =>
    simp only [pick, List.mem_append] at h
    rcases h with h | h
    · cases hk : l[k]? with
      | none => simp [hk] at h
      | some x => simp [hk] at h; subst h; exact ⟨k, by simp, hk⟩
    · obtain ⟨j, hj, he⟩ := ih h
      exact ⟨j, by simp [hj], he⟩
theorem mem_drop {ks : List Nat} {e : Ent} (h : e ∈ drop l ks) : ∃ k, k ∉ ks ∧ l[k]? = some e := by
  simp only [drop, List.mem_map, List.mem_filter] at h
  obtain ⟨⟨x, k⟩, ⟨h1, h2⟩, rfl⟩ := h
  refine ⟨k, by simpa using h2, ?_⟩
  have := List.mem_zipIdx h1
  simp at this
  rw [List.getElem?_eq_getElem this.1]
  simp [this.2]
theorem sep_at (h : Own w0 o w l) {j k : Nat} {e e' : Ent} (hjk : j ≠ k) (h1 : l[j]? = some e) (h2 : l[k]? = some e') : apart e e' := by
  have hpw := h.sep
  rw [List.pairwise_iff_getElem] at hpw
  have lt : ∀ {i : Nat} {x : Ent}, l[i]? = some x → ∃ hi : i < l.length, l[i] = x := by
    intro i x hx
    rcases Nat.lt_or_ge i l.length with h1 | h1
    · exact ⟨h1, by rw [List.getElem?_eq_getElem h1] at hx; exact Option.some.inj hx⟩
    · rw [List.getElem?_eq_none h1] at hx; cases hx
  obtain ⟨hj, rfl⟩ := lt h1
  obtain ⟨hk, rfl⟩ := lt h2
  rcases Nat.lt_or_gt_of_ne hjk with h3 | h3
  · exact hpw j k hj hk h3
  · exact (hpw k j hk hj h3).symm
theorem pick_sep (h : Own w0 o w l) {ks : List Nat} (hn : ks.Nodup) : (pick l ks).Pairwise apart := by
  induction ks with
  | nil => exact .nil
  | cons k ks ih =>
    rw [List.nodup_cons] at hn
    simp only [pick]
    rw [List.pairwise_append]
    refine ⟨?_, ih hn.2, ?_⟩
    · cases l[k]? <;> simp
    · intro e he e' he'
      cases hk : l[k]? with
      | none => simp [hk] at he
      | some x =>
        simp [hk] at he
        subst he
        obtain ⟨j, hj, hj'⟩ := mem_pick he'
        exact sep_at h (by rintro rfl; exact hn.1 hj) hk hj'
theorem drop_sublist (l : List Ent) (ks : List Nat) : List.Sublist (drop l ks) l := by
  have h1 : List.Sublist (l.zipIdx.filter fun p => !ks.contains p.2) l.zipIdx := List.filter_sublist
  have h2 := h1.map (·.1)
  simpa [drop] using h2
/-- A call that takes the entries at ks: they begin anew. -/
theorem Own.take (h : Own w0 o w l) (ks : List Nat) (hn : ks.Nodup) : Own w (footU (pick l ks)) w (pick l ks) :=
  ⟨Nat.le_refl _, fun _ _ _ => rfl, fun e he => let ⟨_, _, hk⟩ := mem_pick he; h.all e (List.mem_of_getElem? hk),
    fun e he b hb => ⟨let ⟨_, _, hk⟩ := mem_pick he; (h.low e (List.mem_of_getElem? hk) b hb).1, fun _ => ⟨e, he, hb⟩⟩, pick_sep h hn, .refl _⟩
/-- Behind the call: what it left stands in place of what it took. -/
theorem Own.back {m : List Ent} (h : Own w0 o w l) (ks : List Nat) (hc : Own w (footU (pick l ks)) w' m) : Own w0 o w' (m ++ drop l ks) := by
  have keep : ∀ e ∈ drop l ks, ∀ b, e.foot b → w'.heap[b]? = w.heap[b]? := by
    intro e he b hb
    obtain ⟨k, hk, hke⟩ := mem_drop he
    refine hc.old b (h.low e (List.mem_of_getElem? hke) b hb).1 ?_
    rintro ⟨x, hx, hxb⟩
    obtain ⟨j, hj, hje⟩ := mem_pick hx
    exact sep_at h (by rintro rfl; exact hk hj) hje hke b hxb hb
  refine ⟨Nat.le_trans h.size hc.size, ?_, ?_, ?_, ?_, h.kept.trans hc.kept⟩
  · intro b hb ho
    refine (hc.old b (Nat.lt_of_lt_of_le hb h.size) ?_).trans (h.old b hb ho)
    rintro ⟨x, hx, hxb⟩
    obtain ⟨j, hj, hje⟩ := mem_pick hx
    exact ho ((h.low x (List.mem_of_getElem? hje) b hxb).2 hb)
  · intro e he
    rcases List.mem_append.1 he with he | he
    · exact hc.all e he
    · exact e.loc (keep e he) (h.all e ((drop_sublist l ks).subset he))
  · intro e he b hb
    rcases List.mem_append.1 he with he | he
    · have := hc.low e he b hb
      refine ⟨this.1, fun hlt => ?_⟩
      obtain ⟨x, hx, hxb⟩ := this.2 (Nat.lt_of_lt_of_le hlt h.size)
      obtain ⟨j, hj, hje⟩ := mem_pick hx
      exact (h.low x (List.mem_of_getElem? hje) b hxb).2 hlt
    · have := h.low e ((drop_sublist l ks).subset he) b hb
      exact ⟨Nat.lt_of_lt_of_le this.1 hc.size, this.2⟩
  · rw [List.pairwise_append]
    refine ⟨hc.sep, h.sep.sublist (drop_sublist l ks), fun e he e' he' b hb hb' => ?_⟩
    obtain ⟨k, hk, hke⟩ := mem_drop he'
    have h1 := (h.low e' (List.mem_of_getElem? hke) b hb').1
    obtain ⟨x, hx, hxb⟩ := (hc.low e he b hb).2 h1
    obtain ⟨j, hj, hje⟩ := mem_pick hx
    exact sep_at h (by rintro rfl; exact hk hj) hje hke b hxb hb'
end
end Hyp
