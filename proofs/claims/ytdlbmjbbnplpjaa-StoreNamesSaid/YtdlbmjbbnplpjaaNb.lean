/- Rows that are given up: entries and results. -/
import Derived.Test.YtdlbmjbbnplpjaaNa
set_option linter.unusedVariables false
set_option linter.unusedSimpArgs false
namespace Hyp
open Go
section
variable {B : Base} {ν ν0 : Nms} {b b0 : Nat} {Z Z' : Nat → Prop} {w w0 : World} {k : Nat} {e : Ty} {xs : List e.den} {L L' L'' L0 : List En} {F : List Ent}
theorem avT.frz (hz : ∀ x, x < w.heap.size → Z x → Z' x ∧ w.heap[x]? = w.heap[x]?) (hr : RSl e.rty Z' w (ν k).v xs) (hl : vlen (ν k).v = xs.length) : ∀ {a a' : AV} {vs : List Value}, a.frz k e xs = some a' → avT ν b Z w a vs → avT ν b Z' w a' vs
  | .un, _, _, h, H => by cases h; exact H
  | .pr a c, _, _, h, ⟨v, vs', h0, h1, h2⟩ => by
    simp only [AV.frz] at h
    obtain ⟨a1, q1, q2⟩ := bindE h
    simp only [Option.map_eq_some_iff] at q2
    obtain ⟨c1, q2, rfl⟩ := q2
    exact ⟨v, vs', h0, avV.frz hz hr hl q1 h1, avT.frz hz hr hl q2 h2⟩
  | .any, _, _, _, H | .und, _, _, _, H | .tup _, _, _, _, H | .tt, _, _, _, H | .ff, _, _, _, H | .nil, _, _, _, H | .mnil, _, _, _, H | .fnil, _, _, _, H | .snil _, _, _, _, H | .val _ _, _, _, _, H | .agg _, _, _, _, H | .ptr _ _, _, _, _, H | .pel _ _ _ _ _ _, _, _, _, H | .rowp _ _ _ _, _, _, _, H | .rop _ _ _ _ _, _, _, _, H
  | .whole _ _, _, _, _, H | .win _ _ _ _, _, _, _, H | .bwin _ _ _ _ _ _, _, _, _, H | .ro _ _ _, _, _, _, H | .mpv _, _, _, _, H | .clo _ _, _, _, _, H => H.elim
theorem slotR.frz (hz : ∀ x, x < w.heap.size → Z x → Z' x ∧ w.heap[x]? = w.heap[x]?) (hr : RSl e.rty Z' w (ν k).v xs) (hl : vlen (ν k).v = xs.length) {a a' : AV} {v : Value} (h : a.frz k e xs = some a') (H : slotR ν b Z w a v) : slotR ν b Z' w a' v := by
  unfold slotR at H
  split at H
  · cases h; trivial
  · cases h; exact H
  · simp only [AV.frz, Option.map_eq_some_iff] at h
    obtain ⟨a1, h1, rfl⟩ := h
    obtain ⟨vs, h0, h2⟩ := H
    exact ⟨vs, h0, avT.frz hz hr hl h1 h2⟩
  · exact .of (avV.frz hz hr hl h H)
theorem slotsR.frz (hz : ∀ x, x < w.heap.size → Z x → Z' x ∧ w.heap[x]? = w.heap[x]?) (hr : RSl e.rty Z' w (ν k).v xs) (hl : vlen (ν k).v = xs.length) : ∀ {l l' : List AV} {vs : List Value}, frzs k e xs l = some l' → slotsR ν b Z w l vs → slotsR ν b Z' w l' vs
  | [], _, [], h, _ => by cases h; trivial
  | a :: l, _, v :: vs, h, H => by
    simp only [frzs] at h
    obtain ⟨a1, q1, q2⟩ := bindE h
    simp only [Option.map_eq_some_iff] at q2
    obtain ⟨l1, q2, rfl⟩ := q2
    exact ⟨slotR.frz hz hr hl q1 H.1, slotsR.frz hz hr hl q2 H.2⟩
  | [], _, _ :: _, _, H => H.elim
  | _ :: _, _, [], _, H => H.elim
theorem frzL_ok (hz : ∀ x, x < w.heap.size → Z x → Z' x ∧ w.heap[x]? = w.heap[x]?) (hr : RSl e.rty Z' w (ν k).v xs) (hl : vlen (ν k).v = xs.length) : ∀ {L L' : List En}, frzL k e xs L = some L' → (∀ x ∈ L, enF ν b Z w x) → ents ν L' = ents ν L ∧ ∀ x ∈ L', enF ν b Z' w x
  | [], _, h, _ => by cases h; exact ⟨rfl, fun _ h => by cases h⟩
  | ⟨k', v, .box a⟩ :: L, _, h, H => by
    simp only [frzL] at h
    obtain ⟨a1, q1, q2⟩ := bindE h
    simp only [Option.map_eq_some_iff] at q2
    obtain ⟨L1, q2, rfl⟩ := q2
    obtain ⟨g1, g2⟩ := frzL_ok hz hr hl q2 fun x hx => H x (by simp [hx])
    refine ⟨by show entOf ν _ :: _ = entOf ν _ :: _; rw [show List.map (entOf ν) L1 = List.map (entOf ν) L from g1]; rfl, fun x hx => ?_⟩
    rcases List.mem_cons.1 hx with rfl | hx
    · have := H ⟨k', v, .box a⟩ (by simp)
      exact ⟨this.1, this.2.1, avC.frz hz hr hl q1 this.2.2⟩
    · exact g2 x hx
  | ⟨k', v, .row e' ys⟩ :: L, _, h, H => by
    simp only [frzL, Option.map_eq_some_iff] at h
    obtain ⟨L1, q2, rfl⟩ := h
    obtain ⟨g1, g2⟩ := frzL_ok hz hr hl q2 fun x hx => H x (by simp [hx])
    refine ⟨by show entOf ν _ :: _ = entOf ν _ :: _; rw [show List.map (entOf ν) L1 = List.map (entOf ν) L from g1], fun x hx => ?_⟩
    rcases List.mem_cons.1 hx with rfl | hx
    · exact (H ⟨k', v, .row e' ys⟩ (by simp)).later ⟨fun _ _ => rfl, Nat.le_refl _, hz⟩
    · exact g2 x hx
  | ⟨k', v, .mp kt vt ys⟩ :: L, _, h, H => by
    simp only [frzL, Option.map_eq_some_iff] at h
    obtain ⟨L1, q2, rfl⟩ := h
    obtain ⟨g1, g2⟩ := frzL_ok hz hr hl q2 fun x hx => H x (by simp [hx])
    refine ⟨by show entOf ν _ :: _ = entOf ν _ :: _; rw [show List.map (entOf ν) L1 = List.map (entOf ν) L from g1], fun x hx => ?_⟩
    rcases List.mem_cons.1 hx with rfl | hx
    · exact (H ⟨k', v, .mp kt vt ys⟩ (by simp)).later ⟨fun _ _ => rfl, Nat.le_refl _, hz⟩
    · exact g2 x hx
  | ⟨k', v, .it mk mv kt vt ys⟩ :: L, _, h, H => by
    simp only [frzL, Option.map_eq_some_iff] at h
    obtain ⟨L1, q2, rfl⟩ := h
    obtain ⟨g1, g2⟩ := frzL_ok hz hr hl q2 fun x hx => H x (by simp [hx])
    refine ⟨by show entOf ν _ :: _ = entOf ν _ :: _; rw [show List.map (entOf ν) L1 = List.map (entOf ν) L from g1], fun x hx => ?_⟩
    rcases List.mem_cons.1 hx with rfl | hx
    · exact (H ⟨k', v, .it mk mv kt vt ys⟩ (by simp)).later ⟨fun _ _ => rfl, Nat.le_refl _, hz⟩
    · exact g2 x hx
  | ⟨k', v, .itc mk mv kt vt kx vx ys⟩ :: L, _, h, H => by
    simp only [frzL, Option.map_eq_some_iff] at h
    obtain ⟨L1, q2, rfl⟩ := h
    obtain ⟨g1, g2⟩ := frzL_ok hz hr hl q2 fun x hx => H x (by simp [hx])
    refine ⟨by show entOf ν _ :: _ = entOf ν _ :: _; rw [show List.map (entOf ν) L1 = List.map (entOf ν) L from g1], fun x hx => ?_⟩
    rcases List.mem_cons.1 hx with rfl | hx
    · exact (H ⟨k', v, .itc mk mv kt vt kx vx ys⟩ (by simp)).later ⟨fun _ _ => rfl, Nat.le_refl _, hz⟩
    · exact g2 x hx
/-- One row is given up. -/
theorem freeze_ok {v : Nat} {rs rs' : List AV} {vs : List Value} (h : Left B ν0 b0 w0 L0 F ν b w L) (ht : takeE L k = some (⟨k, v, .row e xs⟩, L')) (hf : frzL k e xs L' = some L'') (hs : slotsR ν b (B.Z (ents ν L ++ F)) w rs vs) (hr : frzs k e xs rs = some rs') :
    Left B ν0 b0 w0 L0 F ν b w L'' ∧ slotsR ν b (B.Z (ents ν L'' ++ F)) w rs' vs := by
  have hp := takeE_perm ht
  obtain ⟨h1, hz⟩ := h.less (L1 := L') (L2 := [⟨k, v, .row e xs⟩]) (hp.trans (List.perm_append_singleton _ _).symm)
  have hmem : (⟨k, v, .row e xs⟩ : En) ∈ L := hp.mem_iff.2 (by simp)
  have hfact := h.fact _ hmem
  have hent : row e.sz (ν k).v xs.length (ν v).cs ∈ ents ν L ++ F := List.mem_append_left _ (List.mem_map_of_mem hmem)
  have hholds := h.own.all _ hent
  have hsep : (ents ν (⟨k, v, .row e xs⟩ :: L') ++ F).Pairwise apart := by
    have := (h.own.perm ((hp.map (entOf ν)).append_right F)).sep
    exact this
  have hz2 : ∀ x, ownB (ν k).v x → B.Z (ents ν L' ++ F) x := by
    intro x hx
    refine ⟨?_, .inr (.inr (B.all x))⟩
    rintro ⟨en, hen, hfx⟩
    exact (List.pairwise_cons.1 hsep).1 en hen x hx hfx
  obtain ⟨i, hi, hie⟩ := List.mem_iff_getElem.1 hent
  have hsl := h.own.rowSl (k := i) (by rw [List.getElem?_eq_getElem hi, hie]) hz2
  have hrsl : RSl e.rty (B.Z (ents ν L' ++ F)) w (ν k).v xs := by
    obtain ⟨_, _, hrv⟩ := hfact
    obtain ⟨r1, r2, r3, r4⟩ := hrv
    refine ⟨(ν v).cs, hsl, r2, r3, fun i x hx => e.rty.go (r4 i x hx) fun b _ hb => ⟨hz b hb, rfl⟩⟩
  have hvl : vlen (ν k).v = xs.length := by
    obtain ⟨a, c, g1, _⟩ := hsl.1
    rw [g1]; rfl
  have hzz : ∀ x, x < w.heap.size → B.Z (ents ν L ++ F) x → B.Z (ents ν L' ++ F) x ∧ w.heap[x]? = w.heap[x]? := fun x _ hx => ⟨hz x hx, rfl⟩
  obtain ⟨g1, g2⟩ := frzL_ok (Z := B.Z (ents ν L ++ F)) hzz hrsl hvl hf fun x hx => h.fact x (hp.mem_iff.2 (by simp [hx]))
  have hs2 := slotsR.frz hzz hrsl hvl hr hs
  refine ⟨⟨h1.nms, h1.le, by rw [g1]; exact h1.own, fun x hx => by rw [g1]; exact g2 x hx⟩, by rw [g1]; exact hs2⟩
/-- The rows of those names are given up, where it may be. -/
def frzK : List Nat → List AV → List En → List AV × List En
  | [], rs, L => (rs, L)
  | k :: ks, rs, L => match takeE L k with
    | some (⟨k', _, .row e xs⟩, L') => match frzL k e xs L', frzs k e xs rs with
      | some L'', some rs' => bif Nat.beq k' k then frzK ks rs' L'' else frzK ks rs L
      | _, _ => frzK ks rs L
    | _ => frzK ks rs L
theorem frzK_ok : ∀ {ks : List Nat} {rs : List AV} {L : List En} {vs : List Value}, Left B ν0 b0 w0 L0 F ν b w L → slotsR ν b (B.Z (ents ν L ++ F)) w rs vs →
    Left B ν0 b0 w0 L0 F ν b w (frzK ks rs L).2 ∧ slotsR ν b (B.Z (ents ν (frzK ks rs L).2 ++ F)) w (frzK ks rs L).1 vs
  | [], rs, L, vs, h, hs => ⟨h, hs⟩
  | k :: ks, rs, L, vs, h, hs => by
    unfold frzK
    split
    · rename_i k' v e xs L' ht
      split
      · rename_i L2 rs2 h1 h2
        cases hb : Nat.beq k' k
        · exact frzK_ok h hs
        · obtain rfl := Nat.eq_of_beq_eq_true hb
          obtain ⟨g1, g2⟩ := freeze_ok h ht h1 hs h2
          exact frzK_ok g1 g2
      · exact frzK_ok h hs
    · exact frzK_ok h hs
end
end Hyp
