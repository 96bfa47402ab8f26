/- From the reading of an argument to what the walks are told of it; from what they leave to the row's word. -/
import Derived.Test.YtdlbmjbbnplpjaaXi
import Derived.ProofKit
import Derived.OpenShut
import Derived.Below
import Derived.Deep.Slices
set_option linter.unusedVariables false
set_option linter.unusedSimpArgs false
namespace Hyp
open Go
theorem Own.below {w w' : World} {o : Nat → Prop} {l : List Ent} (h : Own w (footU []) w' l) : RowKit.Below w.heap.size w w' :=
  ⟨h.kept.os, h.kept.tape, h.kept.output, h.size, fun k hk => h.old k hk fun ⟨_, he, _⟩ => by cases he⟩
/-- Blocks that stand. -/
def Old (w : World) (b : Nat) : Prop := b < w.heap.size
/-- Whatever is read at type t stands, in its cells, for a datum of A of which Q holds. -/
structure Reads (P : Program) (t : TypeId) {α : Type} (A : RTy α) (Q : α → Prop) : Prop where
  sz : P.cellsOf t = A.sz
  read : ∀ {H : Type} {enc : TypeId × Value → H} {w : World} {fuel : Nat} {cs : List Value} {x : DataW H × List MemPlace}, DataW.trod enc P w 0 (fun _ => true) true fuel t cs = some x → ∃ a, Q a ∧ A.rel (Old w) w a cs
def QT {α : Type} (_ : α) : Prop := True
def QP {α β : Type} (Q : α → Prop) (R : β → Prop) (x : α × β) : Prop := Q x.1 ∧ R x.2
def QL {α : Type} (Q : α → Prop) (xs : List α) : Prop := xs.length ≤ maxLen ∧ ∀ x ∈ xs, Q x
def QS (s : List UInt8) : Prop := s.length ≤ maxLen
/-- The numbers that an int may be. -/
def I64 (n : Int) : Prop := -9223372036854775808 ≤ n ∧ n ≤ 9223372036854775807
section
variable {P : Program} {t e : TypeId}
theorem Reads.i64 (ht : P.underlying t = some (.int .i64)) (hc : P.cellsOf t = 1) : Reads P t (.ofEnc EI) I64 := by
  refine ⟨hc, fun {H enc w fuel cs x} h => ?_⟩
  obtain ⟨m, rfl, _, hw⟩ := DataW.trod_int ht h
  refine ⟨m, ?_, rfl⟩
  simp [Lit.wf, IntKind.min, IntKind.max, IntKind.signed, IntKind.bits] at hw
  exact ⟨by omega, by omega⟩
theorem Reads.u8 (ht : P.underlying t = some (.int .u8)) (hc : P.cellsOf t = 1) : Reads P t (.ofEnc E8) QT := by
  refine ⟨hc, fun {H enc w fuel cs x} h => ?_⟩
  obtain ⟨m, rfl, _, hw⟩ := DataW.trod_int ht h
  simp [Lit.wf, IntKind.min, IntKind.max, IntKind.signed, IntKind.bits] at hw
  refine ⟨UInt8.ofNat m.toNat, trivial, ?_⟩
  have h1 : ((UInt8.ofNat m.toNat).toNat : Int) = m := by
    rw [UInt8.toNat_ofNat']
    omega
  show [Value.int .u8 m] = [Value.int .u8 ((UInt8.ofNat m.toNat).toNat : Int)]
  rw [h1]
/-- Fields, from an offset on, stand for a datum of A. -/
structure ReadsT (P : Program) (l : List Field) (off : Nat) {α : Type} (A : RTy α) (Q : α → Prop) : Prop where
  read : ∀ {H : Type} {enc : TypeId × Value → H} {w : World} {n : Nat} {cs : List Value}, (∀ (i : Nat) (f : Field), l[i]? = some f → ∃ x, DataW.trod enc P w 0 (fun _ => true) true n f.type ((cs.drop f.offset).take (P.cellsOf f.type)) = some x) →
    cs.length = off + A.sz → ∃ a, Q a ∧ A.rel (Old w) w a (cs.drop off)
theorem ReadsT.one {α : Type} {A : RTy α} {Q : α → Prop} {f : Field} {off : Nat} (ho : f.offset = off) (h : Reads P f.type A Q) : ReadsT P [f] off A Q := by
  refine ⟨fun {H enc w n cs} hx hl => ?_⟩
  subst ho
  obtain ⟨x, hx⟩ := hx 0 f rfl
  rw [h.sz, List.take_of_length_le (by rw [List.length_drop, hl]; omega)] at hx
  exact h.read hx
theorem ReadsT.cons {α β : Type} {A : RTy α} {B : RTy β} {Q : α → Prop} {R : β → Prop} {f : Field} {l : List Field} {off : Nat} (ho : f.offset = off) (h : Reads P f.type A Q) (hr : ReadsT P l (off + A.sz) B R) :
    ReadsT P (f :: l) off (RP A B) (QP Q R) := by
  refine ⟨fun {H enc w n cs} hx hl => ?_⟩
  subst ho
  have hl' : cs.length = f.offset + A.sz + B.sz := by rw [hl]; show f.offset + (A.sz + B.sz) = _; omega
  obtain ⟨v, hv, rv⟩ := hr.read (fun i g hg => hx (i + 1) g (by simpa using hg)) hl'
  obtain ⟨x, hx⟩ := hx 0 f rfl
  rw [h.sz] at hx
  obtain ⟨u, hu, ru⟩ := h.read hx
  refine ⟨(u, v), ⟨hu, hv⟩, _, _, ?_, ru, rv⟩
  rw [← List.drop_drop, List.take_append_drop]
theorem Reads.struct {α : Type} {A : RTy α} {Q : α → Prop} {fs : Array Field} (ht : P.underlying t = some (.struct fs)) (hc : P.cellsOf t = A.sz) {l : List Field} (h : ReadsT P l 0 A Q) (hl : fs.toList = l := by rfl) : Reads P t A Q := by
  subst hl
  refine ⟨hc, fun {H enc w fuel cs x} hx => ?_⟩
  obtain ⟨xs, n, rfl, rfl, hl, hxs, hf⟩ := DataW.trod_struct ht hx
  have := h.read (cs := cs) (n := n) (enc := enc) (w := w) (fun i f hi => by
    have hi' : fs[i]? = some f := by simpa using hi
    have hlt : i < xs.length := by rw [hxs]; exact (Array.getElem?_eq_some_iff.1 hi').1
    exact ⟨xs[i], by rw [hf i f hi', List.getElem?_eq_getElem hlt]⟩) (by rw [hl, hc]; omega)
  simpa using this
theorem Reads.str (ht : P.underlying t = some .string) (hc : P.cellsOf t = 1) : Reads P t (.ofEnc ES) QS := by
  refine ⟨hc, fun {H enc w fuel cs x} h => ?_⟩
  obtain ⟨s, rfl, _, hs⟩ := DataW.trod_string ht h
  refine ⟨s.data.toList, (by unfold QS; rw [Array.length_toList]; exact hs), ?_⟩
  show [Value.string s] = [Hyp.str s.data.toList]
  simp [Hyp.str]
theorem Reads.bool (ht : P.underlying t = some .bool) (hc : P.cellsOf t = 1) : Reads P t (.ofEnc EB) QT := by
  refine ⟨hc, fun {H enc w fuel cs x} h => ?_⟩
  obtain ⟨b, rfl, _⟩ := DataW.trod_bool ht h
  exact ⟨b, trivial, rfl⟩
theorem add_add' (ad : Addr) (i j : Nat) : (ad.add i).add j = ad.add (i + j) := by
  unfold Addr.add
  by_cases hi : i = 0 <;> by_cases hj : j = 0 <;> simp [hi, hj, Nat.add_assoc]
theorem At.of_cells {w : World} {a : Addr} {cs : List Value} (hne : cs ≠ []) (h : ∀ j v, cs[j]? = some v → w.cell? (a.add j) = some v) : At w a cs := by
  obtain ⟨v, r, rfl⟩ := List.exists_cons_of_ne_nil hne
  have h0 := h 0 v rfl
  have hs : a.spot = none := by simpa [Addr.add] using World.cell?_spot h0
  have ha : ∀ j, (a.add j).block = a.block ∧ (a.add j).off = a.off + j ∧ (a.add j).spot = none := by
    intro j
    refine ⟨block_add a j, ?_, spot_add hs j⟩
    unfold Addr.add; split
    · rename_i hj; rw [hj]; rfl
    · rfl
  cases hb : w.heap[a.block]? with
  | none => simp [World.cell?, (ha 0).1, hb] at h0
  | some o =>
    cases o with
    | cells xs T z =>
      refine ⟨hs, xs, T, z, hb, fun j hj => ?_⟩
      have h1 := h j _ (List.getElem?_eq_getElem hj)
      simp only [World.cell?, (ha j).1, (ha j).2.1, (ha j).2.2, hb] at h1
      rw [List.getElem?_eq_getElem hj, ← h1]
      simp
    | _ => simp [World.cell?, (ha 0).1, hb] at h0
theorem Reads.slice {α : Type} {A : RTy α} {Q : α → Prop} (ht : P.underlying t = some (.slice e)) (hc : P.cellsOf t = 1) (h : Reads P e A Q) : Reads P t (RS A) (QL Q) := by
  refine ⟨hc, fun {H enc w fuel cs x} hx => ?_⟩
  rcases Go.Deep.open_slice ht hx with ⟨rfl, _⟩ | ⟨a, len, cap, m, n, D, Pl, rfl, _, hl, hm, hmm, _, hel⟩
  · exact ⟨[], ⟨Nat.zero_le _, by simp⟩, _, rfl, [], Sl.nil _ _, by simp, rfl, by simp⟩
  · simp only [if_true] at hmm
    rw [h.sz] at hel
    have key : ∀ k, k ≤ len → ∃ (xs : List α) (cs : List Value), xs.length = k ∧ cs.length = k * A.sz ∧ ones cs = true ∧ (∀ x ∈ xs, Q x) ∧ (∀ j v, cs[j]? = some v → w.cell? (a.add j) = some v) ∧
        ∀ i x, xs[i]? = some x → A.rel (Old w) w x ((cs.drop (i * A.sz)).take A.sz) := by
      intro k
      induction k with
      | zero => intro _; exact ⟨[], [], rfl, by simp, rfl, by simp, by simp, by simp⟩
      | succ k ih =>
        intro hk
        obtain ⟨xs, cs, h1, h2, h3, h4, h5, h6⟩ := ih (by omega)
        obtain ⟨cs', g1, g2⟩ := hel k (by rw [hmm]; omega)
        obtain ⟨y, hy, ry⟩ := h.read g2
        obtain ⟨_, g3, g4⟩ := World.cells?_some g1
        refine ⟨xs ++ [y], cs ++ cs', by simp [h1], by rw [List.length_append, h2, g3, Nat.succ_mul], ones_append h3 (A.one ry), ?_, ?_, ?_⟩
        · intro z hz
          rcases List.mem_append.1 hz with hz | hz
          · exact h4 z hz
          · rw [List.mem_singleton.1 hz]; exact hy
        · intro j v hv
          rcases Nat.lt_or_ge j cs.length with hj | hj
          · exact h5 j v (by rwa [List.getElem?_append_left hj] at hv)
          · rw [List.getElem?_append_right hj] at hv
            have hj2 : j - cs.length < A.sz := by rw [← g3]; exact (List.getElem?_eq_some_iff.1 hv).1
            have h7 := g4 _ hj2
            rw [hv] at h7
            rw [add_add', h2] at h7
            rw [← h7]
            congr 1
            congr 1
            omega
        · intro i z hz
          rcases Nat.lt_or_ge i xs.length with hi | hi
          · have hz' : xs[i]? = some z := by rwa [List.getElem?_append_left hi] at hz
            have h7 := h6 i z hz'
            have hle : (i + 1) * A.sz ≤ cs.length := by rw [h2, ← h1]; exact Nat.mul_le_mul_right _ hi
            rw [Nat.succ_mul] at hle
            rw [List.drop_append_of_le_length (by omega), List.take_append_of_le_length (by rw [List.length_drop]; omega)]
            exact h7
          · rw [List.getElem?_append_right hi] at hz
            have : i = k := by
              have := (List.getElem?_eq_some_iff.1 hz).1
              simp at this; omega
            subst this
            have hzy : y = z := by simpa [h1] using hz
            subst hzy
            rw [← h2, List.drop_left, List.take_of_length_le (by omega)]
            exact ry
    obtain ⟨xs, cs, h1, h2, h3, h4, h5, h6⟩ := key len (Nat.le_refl _)
    have his : IsSl (.slice (some a) len cap) len := ⟨_, _, rfl, hl, hm, fun h => by cases h⟩
    refine ⟨xs, ⟨by omega, h4⟩, _, rfl, cs, ?_, by rw [h2, h1], h3, h6⟩
    subst h1
    refine ⟨his, ?_⟩
    by_cases hne : cs = []
    · exact .inl hne
    · have hat := At.of_cells hne h5
      exact .inr ⟨a, ⟨_, rfl⟩, hat.lt, hat⟩
end
end Hyp
