/- Rows that are given up: from then on they are only read. -/
import Derived.Test.YtdlbmjbbnplpjaaOb
set_option linter.unusedVariables false
set_option linter.unusedSimpArgs false
namespace Hyp
open Go
/-- Row k, of e, is xs: what speaks of it speaks of what is read. -/
def AV.frz (k : Nat) (e : Ty) (xs : List e.den) : AV → Option AV
  | .whole k' s => bif Nat.beq k' k then (bif Nat.beq s e.sz then some (.ro false e xs) else none) else some (.whole k' s)
  | .win k' s lo n => bif Nat.beq k' k then (bif Nat.beq s e.sz then some (.ro false e ((xs.drop lo).take n)) else none) else some (.win k' s lo n)
  | .rowp k' e' i eo => bif Nat.beq k' k then none else some (.rowp k' e' i eo)
  | .agg a => (a.frz k e xs).map .agg
  | .tup a => (a.frz k e xs).map .tup
  | .pr a c => (a.frz k e xs).bind fun a => (c.frz k e xs).map fun c => .pr a c
  | a => some a
def frzs (k : Nat) (e : Ty) (xs : List e.den) : List AV → Option (List AV)
  | [] => some []
  | a :: l => (a.frz k e xs).bind fun a => (frzs k e xs l).map fun l => a :: l
def frzL (k : Nat) (e : Ty) (xs : List e.den) : List En → Option (List En)
  | [] => some []
  | ⟨k', v, .box a⟩ :: l => (a.frz k e xs).bind fun a => (frzL k e xs l).map fun l => ⟨k', v, .box a⟩ :: l
  | ⟨k', v, c⟩ :: l => (frzL k e xs l).map fun l => ⟨k', v, c⟩ :: l
theorem takeE_key : ∀ {L : List En} {k : Nat} {e : En} {L' : List En}, takeE L k = some (e, L') → e.key = k
  | [], _, _, _, h => by cases h
  | x :: l, k, e, L', h => by
    unfold takeE at h
    cases hb : Nat.beq x.key k <;> rw [hb] at h
    · simp only [cond_false, Option.map_eq_some_iff] at h
      obtain ⟨⟨e', l'⟩, h1, h2⟩ := h
      cases h2
      exact takeE_key h1
    · cases h; exact Nat.eq_of_beq_eq_true hb
section
variable {w w0 : World} {B : Base} {ν ν0 : Nms} {b b0 : Nat} {L L1 L2 L0 : List En} {F : List Ent}
/-- Less is kept. -/
theorem Left.less (h : Left B ν0 b0 w0 L0 F ν b w L) (hp : L.Perm (L1 ++ L2)) : Left B ν0 b0 w0 L0 F ν b w L1 ∧ ∀ x, B.Z (ents ν L ++ F) x → B.Z (ents ν L1 ++ F) x := by
  have hsub : ∀ e ∈ ents ν L1 ++ F, e ∈ ents ν L ++ F := by
    intro e he
    rcases List.mem_append.1 he with he | he
    · obtain ⟨x, hx, rfl⟩ := List.mem_map.1 he
      exact List.mem_append_left _ (List.mem_map_of_mem (hp.mem_iff.2 (List.mem_append_left _ hx)))
    · exact List.mem_append_right _ he
  have hz : ∀ x, B.Z (ents ν L ++ F) x → B.Z (ents ν L1 ++ F) x := fun x hx => ⟨fun ⟨e, he, hf⟩ => hx.1 ⟨e, hsub e he, hf⟩, hx.2⟩
  refine ⟨⟨h.nms, h.le, ?_, fun e he => ?_⟩, hz⟩
  · have hperm : (ents ν L ++ F).Perm (ents ν L1 ++ (ents ν L2 ++ F)) := by
      rw [← List.append_assoc, ← List.map_append]
      exact (hp.map _).append_right F
    refine (h.own.perm hperm).sub ?_
    exact List.Sublist.append_left (List.sublist_append_right _ _) _
  · exact (h.fact e (hp.mem_iff.2 (List.mem_append_left _ he))).later ⟨fun _ _ => rfl, Nat.le_refl _, fun x _ hx => ⟨hz x hx, rfl⟩⟩
end
section
variable {B : Base} {ν ν0 : Nms} {b b0 : Nat} {Z Z' : Nat → Prop} {w w0 : World} {k : Nat} {e : Ty} {xs : List e.den} {L L' L'' L0 : List En} {F : List Ent}
theorem RSl.part {α : Type} {A : RTy α} {Z : Nat → Prop} {w : World} {V : Value} {ys : List α} (h : RSl A Z w V ys) {s lo n : Nat} {v : Value} (hs : s = A.sz) (hv : IsSl v n) (hl : lo + n ≤ ys.length) (hc : v = subv s V lo (lo + n) ∨ ∃ a, v = .slice a 0 0) : RSl A Z w v ((ys.drop lo).take n) := by
  have hlen : ((ys.drop lo).take n).length = n := by rw [List.length_take, List.length_drop]; omega
  rcases hc with rfl | ⟨a, rfl⟩
  · obtain ⟨cs, h1, h2, h3, h4⟩ := h
    subst hs
    refine ⟨(cs.drop (lo * A.sz)).take (n * A.sz), ?_, ?_, by simp only [ones, List.all_eq_true] at h3 ⊢; exact fun v hv => h3 v (List.mem_of_mem_drop (List.mem_of_mem_take hv)), ?_⟩
    · rw [hlen]
      have := h1.sub A.sz lo (lo + n) (by omega) hl h2
      rwa [Nat.add_sub_cancel_left] at this
    · rw [hlen, List.length_take, List.length_drop, h2]
      have : (lo + n) * A.sz ≤ ys.length * A.sz := Nat.mul_le_mul_right _ hl
      rw [Nat.add_mul] at this
      omega
    · intro i x hx
      have hi : i < n := by
        have := (List.getElem?_eq_some_iff.1 hx).1
        omega
      rw [List.getElem?_take_of_lt hi, List.getElem?_drop] at hx
      have h5 := h4 (lo + i) x hx
      rw [List.drop_take, List.take_take, List.drop_drop, ← Nat.add_mul]
      have : min A.sz (n * A.sz - i * A.sz) = A.sz := by
        have : (i + 1) * A.sz ≤ n * A.sz := Nat.mul_le_mul_right _ hi
        rw [Nat.succ_mul] at this
        omega
      rw [this]
      exact h5
  · have hn : n = 0 := by
      obtain ⟨a', c, h1, h2, h3, h4⟩ := hv
      cases h1; rfl
    subst hn
    exact ⟨[], ⟨hv, .inl rfl⟩, by simp, rfl, fun i x hx => by simp at hx⟩
theorem avC.frz (hz : ∀ x, x < w.heap.size → Z x → Z' x ∧ w.heap[x]? = w.heap[x]?) (hr : RSl e.rty Z' w (ν k).v xs) (hl : vlen (ν k).v = xs.length) : ∀ {a a' : AV} {cs : List Value}, a.frz k e xs = some a' → avC ν b Z w a cs → avC ν b Z' w a' cs := by
  have keep : ∀ {a : AV} {cs : List Value}, avC ν b Z w a cs → avC ν b Z' w a cs := fun H => H.later ⟨fun _ _ => rfl, Nat.le_refl _, hz⟩
  intro a
  induction a with
  | whole k' s =>
    intro a' cs h H
    simp only [AV.frz] at h
    cases hb : Nat.beq k' k <;> rw [hb] at h
    · cases h; exact keep H
    · obtain rfl := Nat.eq_of_beq_eq_true hb
      obtain ⟨hs, rfl⟩ := bifT h
      obtain ⟨_, v, h1, h2, rfl⟩ := H
      exact ⟨_, h1, hr, fun h => by cases h⟩
  | win k' s lo n =>
    intro a' cs h H
    simp only [AV.frz] at h
    cases hb : Nat.beq k' k <;> rw [hb] at h
    · cases h; exact keep H
    · obtain rfl := Nat.eq_of_beq_eq_true hb
      obtain ⟨hs, rfl⟩ := bifT h
      obtain ⟨_, v, h1, h2, h3, h4⟩ := H
      refine ⟨v, h1, hr.part (by rw [Nat.eq_of_beq_eq_true hs, e.sz_rty]) h2 (by rw [← hl]; exact h3) h4, fun h => by cases h⟩
  | rowp k' e' i eo =>
    intro a' cs h H
    simp only [AV.frz] at h
    cases hb : Nat.beq k' k <;> rw [hb] at h
    · cases h; exact keep H
    · cases h
  | agg a ih =>
    intro a' cs h H
    simp only [AV.frz, Option.map_eq_some_iff] at h
    obtain ⟨a1, h1, rfl⟩ := h
    show avC ν b Z' w a1 cs
    exact ih h1 H
  | tup a ih => intro a' cs h H; exact H.elim
  | pr a c iha ihc =>
    intro a' cs h H
    simp only [AV.frz] at h
    obtain ⟨a1, h1, h2⟩ := bindE h
    simp only [Option.map_eq_some_iff] at h2
    obtain ⟨c1, h2, rfl⟩ := h2
    obtain ⟨x1, x2, h0, h3, h4⟩ := H
    exact ⟨x1, x2, h0, iha h1 h3, ihc h2 h4⟩
  | _ => intro a' cs h H; cases h; exact keep H
theorem avV.frz (hz : ∀ x, x < w.heap.size → Z x → Z' x ∧ w.heap[x]? = w.heap[x]?) (hr : RSl e.rty Z' w (ν k).v xs) (hl : vlen (ν k).v = xs.length) {a a' : AV} {v : Value} (h : a.frz k e xs = some a') (H : avV ν b Z w a v) : avV ν b Z' w a' v := by
  have hagg : a'.isAgg = a.isAgg := by
    cases a <;> simp only [AV.frz] at h
    case whole k' s =>
      cases hb : Nat.beq k' k <;> rw [hb] at h
      · cases h; rfl
      · obtain ⟨_, rfl⟩ := bifT h; rfl
    case win k' s lo n =>
      cases hb : Nat.beq k' k <;> rw [hb] at h
      · cases h; rfl
      · obtain ⟨_, rfl⟩ := bifT h; rfl
    case rowp k' e' i eo =>
      cases hb : Nat.beq k' k <;> rw [hb] at h
      · cases h; rfl
      · cases h
    case agg a => simp only [Option.map_eq_some_iff] at h; obtain ⟨_, _, rfl⟩ := h; rfl
    case tup a => simp only [Option.map_eq_some_iff] at h; obtain ⟨_, _, rfl⟩ := h; rfl
    case pr a c =>
      obtain ⟨a1, h1, h2⟩ := bindE h
      simp only [Option.map_eq_some_iff] at h2
      obtain ⟨c1, h2, rfl⟩ := h2
      rfl
    all_goals (cases h; rfl)
  unfold avV at *
  rw [hagg]
  split
  · rename_i ha
    rw [if_pos ha] at H
    obtain ⟨cs, h1, h2⟩ := H
    exact ⟨cs, h1, avC.frz hz hr hl h h2⟩
  · rename_i ha
    rw [if_neg ha] at H
    exact avC.frz hz hr hl h H
end
end Hyp
