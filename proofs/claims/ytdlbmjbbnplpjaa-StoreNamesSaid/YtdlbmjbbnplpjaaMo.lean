/- Shapes made alike: what is told anew, with nothing done; what is reached, in its own order. -/
import Derived.Test.YtdlbmjbbnplpjaaMn
set_option linter.unusedVariables false
set_option linter.unusedSimpArgs false
namespace Hyp
open Go
def normA : AV → List En → Nat → Option (AV × List En × Nat)
  | .tt, L, b => some (.val .bool true, L, b)
  | .ff, L, b => some (.val .bool false, L, b)
  | .snil (some e), L, b => some (.whole b e.sz, ⟨b, b, .row e []⟩ :: L, b + 1)
  | .win k s lo n, L, b => match rowTy L k with
    | some e => match rowOf L k e with
      | some xs => bif Nat.beq s e.sz then some (.whole b s, setE L k ⟨b, b, .row e ((xs.drop lo).take n)⟩, b + 1) else none
      | none => none
    | none => none
  | .agg a, L, b => (normA a L b).bind fun r => some (.agg r.1, r.2.1, r.2.2)
  | .pr a c, L, b => (normA a L b).bind fun r => (normA c r.2.1 r.2.2).bind fun q => some (.pr r.1 q.1, q.2.1, q.2.2)
  | a, L, b => some (a, L, b)
def normL : List AV → List En → Nat → Option (List AV × List En × Nat)
  | [], L, b => some ([], L, b)
  | a :: l, L, b => (normA a L b).bind fun r => (normL l r.2.1 r.2.2).bind fun q => some (r.1 :: q.1, q.2.1, q.2.2)
/-- The boxes of keys, their contents made alike. -/
def normB : List Nat → List En → Nat → Option (List En × Nat)
  | [], L, b => some (L, b)
  | k :: ks, L, b => match findE L k with
    | some ⟨_, vid, .box a⟩ => (normA a L b).bind fun r => match findE r.2.1 k with
      | some ⟨_, vid', .box _⟩ => bif Nat.beq vid vid' then normB ks (setE r.2.1 k ⟨k, vid, .box r.1⟩) r.2.2 else none
      | _ => none
    | some ⟨_, vid, .itc mk mv kt vt _ _ xs⟩ => normB ks (setE L k ⟨k, vid, .it mk mv kt vt xs⟩) b
    | _ => normB ks L b
section
variable {P : Program} {f : Fr} {w w' : World} {B : Base} {ν ν' : Nms} {b b' : Nat} {Z Z' : Nat → Prop} {L L' L1 L2 : List En} {F : List Ent}
theorem normA_ok : ∀ {a a' : AV} {L L' : List En} {b b' : Nat} {ν : Nms} {cs : List Value}, Here B ν b w L F → avC ν b (B.Z (ents ν L ++ F)) w a cs → normA a L b = some (a', L', b') →
    ∃ ν', Left B ν b w L F ν' b' w L' ∧ avC ν' b' (B.Z (ents ν' L' ++ F)) w a' cs
  | .tt, a', L, L', b, b', ν, cs, H, h, hn => by cases hn; exact ⟨ν, H.stay, h⟩
  | .ff, a', L, L', b, b', ν, cs, H, h, hn => by cases hn; exact ⟨ν, H.stay, h⟩
  | .snil (some e), a', L, L', b, b', ν, cs, H, h, hn => by
    cases hn
    have hown := H.own.nilRow e.sz (v := .slice none 0 0) ⟨none, rfl⟩
    have hleft := H.cons (m := ⟨0, .slice none 0 0, []⟩) (c := .row e []) (w' := w) (by
      show Own _ _ _ (row e.sz (updN ν b _ b).v 0 (updN ν b _ b).cs :: _)
      rw [updN_same]; exact hown) (fun Z' h => ⟨rfl, by simp, rfl, by simp⟩)
    refine ⟨_, hleft, Nat.lt_succ_self b, .slice none 0 0, h, ⟨_, _, rfl, Nat.le_refl _, Nat.zero_le _, fun _ => rfl⟩, by rw [updN_same]⟩
  | .win k s lo n, a', L, L', b, b', ν, cs, H, h, hn => by
    unfold normA at hn
    split at hn
    · rename_i e he
      split at hn
      · rename_i xs hxs
        cases hc : Nat.beq s e.sz <;> rw [hc] at hn
        · cases hn
        · have hse := Nat.eq_of_beq_eq_true hc
          subst hse
          cases hn
          obtain ⟨i, vid, g1, g2, g3, g4, g5⟩ := rowOf_set H hxs
          obtain ⟨hk, v, hcs, his, hle, h4⟩ := h
          have hV := H.own.rowIs g2
          rw [vlen_is hV] at hle
          have hsub := RV_sub g3 hle
          rw [e.sz_rty] at hsub
          have hown := H.own.shrink g2 his hle h4
          have hnl : ((xs.drop lo).take n).length = n := by simp; omega
          have hleft := H.set (m := ⟨0, v, ((ν vid).cs.drop (lo * e.sz)).take (n * e.sz)⟩) (e' := ⟨b, b, .row e ((xs.drop lo).take n)⟩) g1 (Nat.lt_succ_self b) rfl (w' := w) (by
            show Own _ _ _ (List.set _ i (row e.sz (updN ν b _ b).v ((xs.drop lo).take n).length (updN ν b _ b).cs))
            rw [updN_same, hnl]; exact hown) (fun Z' h => by
              show (RV ((xs.drop lo).take n).length e.rty).rel _ _ _ _
              rw [hnl]
              exact (RV _ e.rty).go hsub h.mem)
          rw [g5]
          exact ⟨_, hleft, Nat.lt_succ_self b, v, hcs, by rw [vlen_is his]; exact his, by rw [updN_same]⟩
      · cases hn
    · cases hn
  | .agg a, a', L, L', b, b', ν, cs, H, h, hn => by
    unfold normA at hn
    obtain ⟨⟨a1, L1, b1⟩, h1, h2⟩ := bindE hn
    cases h2
    obtain ⟨ν', g1, g2⟩ := normA_ok (a := a) H h h1
    exact ⟨ν', g1, g2⟩
  | .pr a c, a', L, L', b, b', ν, cs, H, ⟨c1, c2, h0, h1, h2⟩, hn => by
    unfold normA at hn
    obtain ⟨⟨a1, L1, b1⟩, q1, q2⟩ := bindE hn
    obtain ⟨⟨a2, L2, b2⟩, q3, q4⟩ := bindE q2
    cases q4
    obtain ⟨ν1, g1, g2⟩ := normA_ok (a := a) H h1 q1
    obtain ⟨ν2, g3, g4⟩ := normA_ok (a := c) g1.here (h2.later g1.later) q3
    exact ⟨ν2, g1.trans g3, c1, c2, h0, g2.later g3.later, g4⟩
  | .snil none, a', L, L', b, b', ν, cs, H, h, hn => by cases hn; exact ⟨ν, H.stay, h⟩
  | .any, a', L, L', b, b', ν, cs, H, h, hn | .und, a', L, L', b, b', ν, cs, H, h, hn | .un, a', L, L', b, b', ν, cs, H, h, hn | .nil, a', L, L', b, b', ν, cs, H, h, hn | .mnil, a', L, L', b, b', ν, cs, H, h, hn | .fnil, a', L, L', b, b', ν, cs, H, h, hn | .tup _, a', L, L', b, b', ν, cs, H, h, hn => by cases hn; exact ⟨ν, H.stay, h⟩
  | .val _ _, a', L, L', b, b', ν, cs, H, h, hn | .ptr _ _, a', L, L', b, b', ν, cs, H, h, hn | .pel _ _ _ _ _ _, a', L, L', b, b', ν, cs, H, h, hn | .rowp _ _ _ _, a', L, L', b, b', ν, cs, H, h, hn => by cases hn; exact ⟨ν, H.stay, h⟩
  | .rop _ _ _ _ _, a', L, L', b, b', ν, cs, H, h, hn | .whole _ _, a', L, L', b, b', ν, cs, H, h, hn | .bwin _ _ _ _ _ _, a', L, L', b, b', ν, cs, H, h, hn | .ro _ _ _, a', L, L', b, b', ν, cs, H, h, hn | .mpv _, a', L, L', b, b', ν, cs, H, h, hn | .clo _ _, a', L, L', b, b', ν, cs, H, h, hn => by cases hn; exact ⟨ν, H.stay, h⟩
theorem normA_agg {a a' : AV} {L L' : List En} {b b' : Nat} (h : normA a L b = some (a', L', b')) : a'.isAgg = a.isAgg := by
  unfold normA at h
  split at h
  · cases h; rfl
  · cases h; rfl
  · cases h; rfl
  · split at h
    · split at h
      · rename_i s _ _ e _ _ xs _
        revert h
        cases Nat.beq _ _ <;> intro h <;> cases h
        rfl
      · cases h
    · cases h
  · obtain ⟨r, _, h⟩ := bindE h; cases h; rfl
  · obtain ⟨r, _, h⟩ := bindE h
    obtain ⟨q, _, h⟩ := bindE h
    cases h; rfl
  · cases h; rfl
theorem normS_ok {a a' : AV} {v : Value} (H : Here B ν b w L F) (h : slotR ν b (B.Z (ents ν L ++ F)) w a v) (hn : normA a L b = some (a', L', b')) : ∃ ν', Left B ν b w L F ν' b' w L' ∧ slotR ν' b' (B.Z (ents ν' L' ++ F)) w a' v := by
  have same : ∀ a, normA a L b = some (a, L, b) → slotR ν b (B.Z (ents ν L ++ F)) w a v → a = a' → ∃ ν', Left B ν b w L F ν' b w L ∧ slotR ν' b (B.Z (ents ν' L ++ F)) w a' v := fun a _ h e => e ▸ ⟨ν, H.stay, h⟩
  unfold slotR at h
  split at h
  · cases hn; exact ⟨ν, H.stay, trivial⟩
  · cases hn; exact ⟨ν, H.stay, h⟩
  · cases hn; exact ⟨ν, H.stay, h⟩
  · unfold avV at h
    split at h
    · rename_i hag
      obtain ⟨cs, h0, h1⟩ := h
      obtain ⟨ν', g1, g2⟩ := normA_ok H h1 hn
      refine ⟨ν', g1, .of ?_⟩
      unfold avV
      rw [if_pos (by rw [normA_agg hn]; exact hag)]
      exact ⟨cs, h0, g2⟩
    · rename_i hag
      obtain ⟨ν', g1, g2⟩ := normA_ok H h hn
      refine ⟨ν', g1, .of ?_⟩
      unfold avV
      rw [if_neg (by rw [normA_agg hn]; exact hag)]
      exact g2
theorem normL_ok : ∀ {l l' : List AV} {vs : List Value} {L L' : List En} {b b' : Nat} {ν : Nms}, Here B ν b w L F → slotsR ν b (B.Z (ents ν L ++ F)) w l vs → normL l L b = some (l', L', b') →
    ∃ ν', Left B ν b w L F ν' b' w L' ∧ slotsR ν' b' (B.Z (ents ν' L' ++ F)) w l' vs
  | [], l', vs, L, L', b, b', ν, H, h, hn => by cases hn; exact ⟨ν, H.stay, h⟩
  | a :: l, l', [], L, L', b, b', ν, H, h, hn => h.elim
  | a :: l, l', v :: vs, L, L', b, b', ν, H, h, hn => by
    unfold normL at hn
    obtain ⟨⟨a1, L1, b1⟩, q1, q2⟩ := bindE hn
    obtain ⟨⟨l2, L2, b2⟩, q3, q4⟩ := bindE q2
    cases q4
    obtain ⟨ν1, g1, g2⟩ := normS_ok H h.1 q1
    obtain ⟨ν2, g3, g4⟩ := normL_ok g1.here (h.2.later g1.later) q3
    exact ⟨ν2, g1.trans g3, g2.later g3.later, g4⟩
/-- A box told anew. -/
theorem Here.tell (H : Here B ν b w L F) {i k vid : Nat} {a a' : AV} (hi : L[i]? = some (En.mk k vid (.box a))) (ha : avC ν b (B.Z (ents ν L ++ F)) w a' (ν vid).cs) : Left B ν b w L F ν b w (L.set i ⟨k, vid, .box a'⟩) := by
  have he : ents ν (L.set i ⟨k, vid, .box a'⟩) = ents ν L := by
    show (L.set i _).map _ = _
    rw [List.map_set]
    exact set_self (by rw [List.getElem?_map, hi]; rfl)
  refine ⟨fun _ _ => rfl, Nat.le_refl _, by rw [he]; exact H.own, fun e hm => ?_⟩
  rw [he]
  rcases List.mem_or_eq_of_mem_set hm with hm | rfl
  · exact H.fact e hm
  · have := H.fact _ (List.mem_of_getElem? hi)
    exact ⟨this.1, this.2.1, ha⟩
/-- Another content of the same name. -/
theorem Here.tellC (H : Here B ν b w L F) {i k vid : Nat} {c c' : Cont} (hi : L[i]? = some (En.mk k vid c)) (he : entOf ν ⟨k, vid, c'⟩ = entOf ν ⟨k, vid, c⟩) (ha : contF ν b (B.Z (ents ν L ++ F)) w c' (ν vid).cs) : Left B ν b w L F ν b w (L.set i ⟨k, vid, c'⟩) := by
  have he : ents ν (L.set i ⟨k, vid, c'⟩) = ents ν L := by
    show (L.set i _).map _ = _
    rw [List.map_set]
    exact set_self (by rw [List.getElem?_map, hi, Option.map_some, he])
  refine ⟨fun _ _ => rfl, Nat.le_refl _, by rw [he]; exact H.own, fun e hm => ?_⟩
  rw [he]
  rcases List.mem_or_eq_of_mem_set hm with hm | rfl
  · exact H.fact e hm
  · have := H.fact _ (List.mem_of_getElem? hi)
    exact ⟨this.1, this.2.1, ha⟩
theorem normB_ok : ∀ {ks : List Nat} {L L' : List En} {b b' : Nat} {ν : Nms}, Here B ν b w L F → normB ks L b = some (L', b') → ∃ ν', Left B ν b w L F ν' b' w L'
  | [], L, L', b, b', ν, H, h => by cases h; exact ⟨ν, H.stay⟩
  | k :: ks, L, L', b, b', ν, H, h => by
    unfold normB at h
    split at h
    · rename_i k' vid a hf
      obtain ⟨⟨a1, L1, b1⟩, q1, q2⟩ := bindE h
      obtain ⟨i, h1, h2, _⟩ := findE_ok hf
      simp only at h2
      subst h2
      have hfa := (H.fact _ (List.mem_of_getElem? h1))
      obtain ⟨ν1, g1, g2⟩ := normA_ok H (cs := (ν vid).cs) hfa.2.2 q1
      dsimp only at q2
      split at q2
      · rename_i k2 vid' a2 hf2
        cases hc : Nat.beq vid vid' <;> rw [hc] at q2
        · cases q2
        · have hv := Nat.eq_of_beq_eq_true hc
          subst hv
          obtain ⟨i2, e1, e2, e3⟩ := findE_ok hf2
          simp only at e2
          subst e2
          have htell := g1.here.tell e1 (a' := a1) (by rw [g1.nms _ hfa.2.1]; exact g2)
          rw [e3] at q2
          obtain ⟨ν3, g3⟩ := normB_ok htell.here q2
          exact ⟨ν3, (g1.trans htell).trans g3⟩
      · cases q2
    · rename_i k' vid mk mv kt vt kx vx xs hf
      obtain ⟨i, h1, h2, h3⟩ := findE_ok hf
      simp only at h2
      subst h2
      have hfa := (H.fact _ (List.mem_of_getElem? h1)).2.2
      have htell := H.tellC h1 (c' := .it mk mv kt vt xs) rfl ⟨hfa.1, hfa.2.1, hfa.2.2.it⟩
      rw [h3] at h
      obtain ⟨ν3, g3⟩ := normB_ok htell.here h
      exact ⟨ν3, htell.trans g3⟩
    · exact normB_ok H h
end
end Hyp
