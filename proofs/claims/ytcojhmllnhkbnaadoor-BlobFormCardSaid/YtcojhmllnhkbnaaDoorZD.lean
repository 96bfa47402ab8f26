/- Shapes made alike: what is told anew, with nothing done; what is reached, in its own order. -/
import Derived.Test.YtcojhmllnhkbnaaDoorZC
import Derived.WideShapes
import Derived.OpenShut
import Derived.Lib.Bytealg
import Derived.Laws.Externs
set_option linter.unusedVariables false
set_option linter.unusedSimpArgs false
namespace Hyp
open Go
def normA : AV → List En → Nat → Option (AV × List En × Nat)
  | .tt, L, b => some (.val .bool true, L, b)
  | .ff, L, b => some (.val .bool false, L, b)
  | .snil (some e), L, b => some (.whole b e.sz, ⟨b, b, .row e []⟩ :: L, b + 1)
  | .win k s lo n, L, b => match rowTy L k with
    | some e => match rowOf L k e with
      | some xs => bif Nat.beq s e.sz then some (.whole b s, setE L k ⟨b, b, .row e ((xs.drop lo).take n)⟩, b + 1) else none
      | none => none
    | none => none
  | .agg a, L, b => (normA a L b).bind fun r => some (.agg r.1, r.2.1, r.2.2)
  | .pr a c, L, b => (normA a L b).bind fun r => (normA c r.2.1 r.2.2).bind fun q => some (.pr r.1 q.1, q.2.1, q.2.2)
  | a, L, b => some (a, L, b)
def normL : List AV → List En → Nat → Option (List AV × List En × Nat)
  | [], L, b => some ([], L, b)
  | a :: l, L, b => (normA a L b).bind fun r => (normL l r.2.1 r.2.2).bind fun q => some (r.1 :: q.1, q.2.1, q.2.2)
def normB : List Nat → List En → Nat → Option (List En × Nat)
  | [], L, b => some (L, b)
  | k :: ks, L, b => match findE L k with
    | some ⟨_, vid, .box a⟩ => (normA a L b).bind fun r => match findE r.2.1 k with
      | some ⟨_, vid', .box _⟩ => bif Nat.beq vid vid' then normB ks (setE r.2.1 k ⟨k, vid, .box r.1⟩) r.2.2 else none
      | _ => none
    | some ⟨_, vid, .itc mk mv kt vt _ _ xs⟩ => normB ks (setE L k ⟨k, vid, .it mk mv kt vt xs⟩) b
    | _ => normB ks L b
section
variable {P : Program} {f : Fr} {w w' : World} {B : Base} {ν ν' : Nms} {b b' : Nat} {Z Z' : Nat → Prop} {L L' L1 L2 : List En} {F : List Ent}
theorem normA_ok : ∀ {a a' : AV} {L L' : List En} {b b' : Nat} {ν : Nms} {cs : List Value}, Here B ν b w L F → avC ν b (B.Z (ents ν L ++ F)) w a cs → normA a L b = some (a', L', b') →
    ∃ ν', Left B ν b w L F ν' b' w L' ∧ avC ν' b' (B.Z (ents ν' L' ++ F)) w a' cs
  | .tt, a', L, L', b, b', ν, cs, H, h, hn => by cases hn; exact ⟨ν, H.stay, h⟩
  | .ff, a', L, L', b, b', ν, cs, H, h, hn => by cases hn; exact ⟨ν, H.stay, h⟩
  | .snil (some e), a', L, L', b, b', ν, cs, H, h, hn => by
    cases hn
    have hown := H.own.nilRow e.sz (v := .slice none 0 0) ⟨none, rfl⟩
    have hleft := H.cons (m := ⟨0, .slice none 0 0, []⟩) (c := .row e []) (w' := w) (by
      show Own _ _ _ (row e.sz (updN ν b _ b).v 0 (updN ν b _ b).cs :: _)
      rw [updN_same]; exact hown) (fun Z' h => ⟨rfl, by simp, rfl, by simp⟩)
    refine ⟨_, hleft, Nat.lt_succ_self b, .slice none 0 0, h, ⟨_, _, rfl, Nat.le_refl _, Nat.zero_le _, fun _ => rfl⟩, by rw [updN_same]⟩
  | .win k s lo n, a', L, L', b, b', ν, cs, H, h, hn => by
    unfold normA at hn
    split at hn
    · rename_i e he
      split at hn
      · rename_i xs hxs
        cases hc : Nat.beq s e.sz <;> rw [hc] at hn
        · cases hn
        · have hse := Nat.eq_of_beq_eq_true hc
          subst hse
          cases hn
          obtain ⟨i, vid, g1, g2, g3, g4, g5⟩ := rowOf_set H hxs
          obtain ⟨hk, v, hcs, his, hle, h4⟩ := h
          have hV := H.own.rowIs g2
          rw [vlen_is hV] at hle
          have hsub := RV_sub g3 hle
          rw [e.sz_rty] at hsub
          have hown := H.own.shrink g2 his hle h4
          have hnl : ((xs.drop lo).take n).length = n := by simp; omega
          have hleft := H.set (m := ⟨0, v, ((ν vid).cs.drop (lo * e.sz)).take (n * e.sz)⟩) (e' := ⟨b, b, .row e ((xs.drop lo).take n)⟩) g1 (Nat.lt_succ_self b) rfl (w' := w) (by
            show Own _ _ _ (List.set _ i (row e.sz (updN ν b _ b).v ((xs.drop lo).take n).length (updN ν b _ b).cs))
            rw [updN_same, hnl]; exact hown) (fun Z' h => by
              show (RV ((xs.drop lo).take n).length e.rty).rel _ _ _ _
              rw [hnl]
              exact (RV _ e.rty).go hsub h.mem)
          rw [g5]
          exact ⟨_, hleft, Nat.lt_succ_self b, v, hcs, by rw [vlen_is his]; exact his, by rw [updN_same]⟩
      · cases hn
    · cases hn
  | .agg a, a', L, L', b, b', ν, cs, H, h, hn => by
    unfold normA at hn
    obtain ⟨⟨a1, L1, b1⟩, h1, h2⟩ := bindE hn
    cases h2
    obtain ⟨ν', g1, g2⟩ := normA_ok (a := a) H h h1
    exact ⟨ν', g1, g2⟩
  | .pr a c, a', L, L', b, b', ν, cs, H, ⟨c1, c2, h0, h1, h2⟩, hn => by
    unfold normA at hn
    obtain ⟨⟨a1, L1, b1⟩, q1, q2⟩ := bindE hn
    obtain ⟨⟨a2, L2, b2⟩, q3, q4⟩ := bindE q2
    cases q4
    obtain ⟨ν1, g1, g2⟩ := normA_ok (a := a) H h1 q1
    obtain ⟨ν2, g3, g4⟩ := normA_ok (a := c) g1.here (h2.later g1.later) q3
    exact ⟨ν2, g1.trans g3, c1, c2, h0, g2.later g3.later, g4⟩
  | .snil none, a', L, L', b, b', ν, cs, H, h, hn => by cases hn; exact ⟨ν, H.stay, h⟩
  | .any, a', L, L', b, b', ν, cs, H, h, hn | .und, a', L, L', b, b', ν, cs, H, h, hn | .un, a', L, L', b, b', ν, cs, H, h, hn | .nil, a', L, L', b, b', ν, cs, H, h, hn | .mnil, a', L, L', b, b', ν, cs, H, h, hn | .fnil, a', L, L', b, b', ν, cs, H, h, hn | .tup _, a', L, L', b, b', ν, cs, H, h, hn => by cases hn; exact ⟨ν, H.stay, h⟩
  | .val _ _, a', L, L', b, b', ν, cs, H, h, hn | .ptr _ _, a', L, L', b, b', ν, cs, H, h, hn | .pel _ _ _ _ _ _, a', L, L', b, b', ν, cs, H, h, hn | .rowp _ _ _ _, a', L, L', b, b', ν, cs, H, h, hn => by cases hn; exact ⟨ν, H.stay, h⟩
  | .rop _ _ _ _ _, a', L, L', b, b', ν, cs, H, h, hn | .whole _ _, a', L, L', b, b', ν, cs, H, h, hn | .bwin _ _ _ _ _ _, a', L, L', b, b', ν, cs, H, h, hn | .ro _ _ _, a', L, L', b, b', ν, cs, H, h, hn | .mpv _, a', L, L', b, b', ν, cs, H, h, hn | .clo _ _, a', L, L', b, b', ν, cs, H, h, hn => by cases hn; exact ⟨ν, H.stay, h⟩
theorem normA_agg {a a' : AV} {L L' : List En} {b b' : Nat} (h : normA a L b = some (a', L', b')) : a'.isAgg = a.isAgg := by
  unfold normA at h
  split at h
  · cases h; rfl
  · cases h; rfl
  · cases h; rfl
  · split at h
    · split at h
      · rename_i s _ _ e _ _ xs _
        revert h
        cases Nat.beq _ _ <;> intro h <;> cases h
        rfl
      · cases h
    · cases h
  · obtain ⟨r, _, h⟩ := bindE h; cases h; rfl
  · obtain ⟨r, _, h⟩ := bindE h
    obtain ⟨q, _, h⟩ := bindE h
    cases h; rfl
  · cases h; rfl
theorem normS_ok {a a' : AV} {v : Value} (H : Here B ν b w L F) (h : slotR ν b (B.Z (ents ν L ++ F)) w a v) (hn : normA a L b = some (a', L', b')) : ∃ ν', Left B ν b w L F ν' b' w L' ∧ slotR ν' b' (B.Z (ents ν' L' ++ F)) w a' v := by
  have same : ∀ a, normA a L b = some (a, L, b) → slotR ν b (B.Z (ents ν L ++ F)) w a v → a = a' → ∃ ν', Left B ν b w L F ν' b w L ∧ slotR ν' b (B.Z (ents ν' L ++ F)) w a' v := fun a _ h e => e ▸ ⟨ν, H.stay, h⟩
  unfold slotR at h
  split at h
  · cases hn; exact ⟨ν, H.stay, trivial⟩
  · cases hn; exact ⟨ν, H.stay, h⟩
  · cases hn; exact ⟨ν, H.stay, h⟩
  · unfold avV at h
    split at h
    · rename_i hag
      obtain ⟨cs, h0, h1⟩ := h
      obtain ⟨ν', g1, g2⟩ := normA_ok H h1 hn
      refine ⟨ν', g1, .of ?_⟩
      unfold avV
      rw [if_pos (by rw [normA_agg hn]; exact hag)]
      exact ⟨cs, h0, g2⟩
    · rename_i hag
      obtain ⟨ν', g1, g2⟩ := normA_ok H h hn
      refine ⟨ν', g1, .of ?_⟩
      unfold avV
      rw [if_neg (by rw [normA_agg hn]; exact hag)]
      exact g2
theorem normL_ok : ∀ {l l' : List AV} {vs : List Value} {L L' : List En} {b b' : Nat} {ν : Nms}, Here B ν b w L F → slotsR ν b (B.Z (ents ν L ++ F)) w l vs → normL l L b = some (l', L', b') →
    ∃ ν', Left B ν b w L F ν' b' w L' ∧ slotsR ν' b' (B.Z (ents ν' L' ++ F)) w l' vs
  | [], l', vs, L, L', b, b', ν, H, h, hn => by cases hn; exact ⟨ν, H.stay, h⟩
  | a :: l, l', [], L, L', b, b', ν, H, h, hn => h.elim
  | a :: l, l', v :: vs, L, L', b, b', ν, H, h, hn => by
    unfold normL at hn
    obtain ⟨⟨a1, L1, b1⟩, q1, q2⟩ := bindE hn
    obtain ⟨⟨l2, L2, b2⟩, q3, q4⟩ := bindE q2
    cases q4
    obtain ⟨ν1, g1, g2⟩ := normS_ok H h.1 q1
    obtain ⟨ν2, g3, g4⟩ := normL_ok g1.here (h.2.later g1.later) q3
    exact ⟨ν2, g1.trans g3, g2.later g3.later, g4⟩
theorem Here.tell (H : Here B ν b w L F) {i k vid : Nat} {a a' : AV} (hi : L[i]? = some (En.mk k vid (.box a))) (ha : avC ν b (B.Z (ents ν L ++ F)) w a' (ν vid).cs) : Left B ν b w L F ν b w (L.set i ⟨k, vid, .box a'⟩) := by
  have he : ents ν (L.set i ⟨k, vid, .box a'⟩) = ents ν L := by
    show (L.set i _).map _ = _
    rw [List.map_set]
    exact set_self (by rw [List.getElem?_map, hi]; rfl)
  refine ⟨fun _ _ => rfl, Nat.le_refl _, by rw [he]; exact H.own, fun e hm => ?_, by rw [he]; exact H.glb⟩
  rw [he]
  rcases List.mem_or_eq_of_mem_set hm with hm | rfl
  · exact H.fact e hm
  · have := H.fact _ (List.mem_of_getElem? hi)
    exact ⟨this.1, this.2.1, ha⟩
theorem Here.tellC (H : Here B ν b w L F) {i k vid : Nat} {c c' : Cont} (hi : L[i]? = some (En.mk k vid c)) (he : entOf ν ⟨k, vid, c'⟩ = entOf ν ⟨k, vid, c⟩) (ha : contF ν b (B.Z (ents ν L ++ F)) w c' (ν vid).cs) : Left B ν b w L F ν b w (L.set i ⟨k, vid, c'⟩) := by
  have he : ents ν (L.set i ⟨k, vid, c'⟩) = ents ν L := by
    show (L.set i _).map _ = _
    rw [List.map_set]
    exact set_self (by rw [List.getElem?_map, hi, Option.map_some, he])
  refine ⟨fun _ _ => rfl, Nat.le_refl _, by rw [he]; exact H.own, fun e hm => ?_, by rw [he]; exact H.glb⟩
  rw [he]
  rcases List.mem_or_eq_of_mem_set hm with hm | rfl
  · exact H.fact e hm
  · have := H.fact _ (List.mem_of_getElem? hi)
    exact ⟨this.1, this.2.1, ha⟩
theorem normB_ok : ∀ {ks : List Nat} {L L' : List En} {b b' : Nat} {ν : Nms}, Here B ν b w L F → normB ks L b = some (L', b') → ∃ ν', Left B ν b w L F ν' b' w L'
  | [], L, L', b, b', ν, H, h => by cases h; exact ⟨ν, H.stay⟩
  | k :: ks, L, L', b, b', ν, H, h => by
    unfold normB at h
    split at h
    · rename_i k' vid a hf
      obtain ⟨⟨a1, L1, b1⟩, q1, q2⟩ := bindE h
      obtain ⟨i, h1, h2, _⟩ := findE_ok hf
      simp only at h2
      subst h2
      have hfa := (H.fact _ (List.mem_of_getElem? h1))
      obtain ⟨ν1, g1, g2⟩ := normA_ok H (cs := (ν vid).cs) hfa.2.2 q1
      dsimp only at q2
      split at q2
      · rename_i k2 vid' a2 hf2
        cases hc : Nat.beq vid vid' <;> rw [hc] at q2
        · cases q2
        · have hv := Nat.eq_of_beq_eq_true hc
          subst hv
          obtain ⟨i2, e1, e2, e3⟩ := findE_ok hf2
          simp only at e2
          subst e2
          have htell := g1.here.tell e1 (a' := a1) (by rw [g1.nms _ hfa.2.1]; exact g2)
          rw [e3] at q2
          obtain ⟨ν3, g3⟩ := normB_ok htell.here q2
          exact ⟨ν3, (g1.trans htell).trans g3⟩
      · cases q2
    · rename_i k' vid mk mv kt vt kx vx xs hf
      obtain ⟨i, h1, h2, h3⟩ := findE_ok hf
      simp only at h2
      subst h2
      have hfa := (H.fact _ (List.mem_of_getElem? h1)).2.2
      have htell := H.tellC h1 (c' := .it mk mv kt vt xs) rfl ⟨hfa.1, hfa.2.1, hfa.2.2.it⟩
      rw [h3] at h
      obtain ⟨ν3, g3⟩ := normB_ok htell.here h
      exact ⟨ν3, htell.trans g3⟩
    · exact normB_ok H h
end
end Hyp
set_option linter.unusedVariables false
set_option linter.unusedSimpArgs false
namespace Hyp
open Go
def isBoxE (e : En) : Bool := match e.c with | .box _ | .mp _ _ _ => true | _ => false
def upto : Nat → List Nat
  | 0 => []
  | n + 1 => upto n ++ [n]
def boxKeys (b0 : Nat) (L : List En) : List Nat := (upto b0).filter fun k => match findE L k with | some ⟨_, _, .box _⟩ => true | some ⟨_, _, .mp _ _ _⟩ => true | some ⟨_, _, .itc _ _ _ _ _ _ _⟩ => true | _ => false
def keepBox (ks : List Nat) (b0 : Nat) (e : En) : Bool := (isBoxE e || memN ks e.key) && Nat.blt e.key b0
def kpvOf (kv : Bool) (b0 : Nat) (e : En) : Bool := bif kv then keepV b0 e else false
theorem kpvOf_lt {kv : Bool} {b0 : Nat} (e : En) (h : kpvOf kv b0 e = true) : e.vid < b0 := by
  cases kv
  · cases h
  · exact keepV_lt h
def finT (kv : Bool) (ks : List Nat) (avs : List AV) (L : List En) (b b0 : Nat) : Option (List AV × List En × Nat) :=
  (normL avs L b).bind fun r =>
    (normB (keysL (grab 1000 (keysOf r.1 ++ boxKeys b0 r.2.1) r.2.1).1) r.2.1 r.2.2).bind fun q =>
      match grab 1000 (keysOf r.1 ++ (boxKeys b0 q.1 ++ upto b0)) q.1 with
      | (R, _) => bif allIds (memK R) r.1 && enKeys (memK R) R then
          some (r.1.map (AV.ren (newKey b0 (keepBox ks b0) (kpvOf kv b0) R)), number b0 (newKey b0 (keepBox ks b0) (kpvOf kv b0) R) (keepBox ks b0) (kpvOf kv b0) 0 R, b0 + 2 * R.length) else none
section
variable {P : Program} {f : Fr} {w w' : World} {B : Base} {ν ν' ν0 : Nms} {b b' b0 : Nat} {Z Z' : Nat → Prop} {L L' L1 L2 L0 : List En} {F : List Ent} {w0 : World}
theorem finT_ok {kv : Bool} {ks : List Nat} {avs avs' : List AV} {vs : List Value} (h : Left B ν0 b0 w0 L0 F ν b w L) (hs : slotsR ν b (B.Z (ents ν L ++ F)) w avs vs) (hf : finT kv ks avs L b b0 = some (avs', L', b')) :
    ∃ ν', Left B ν0 b0 w0 L0 F ν' b' w L' ∧ slotsR ν' b' (B.Z (ents ν' L' ++ F)) w avs' vs := by
  unfold finT at hf
  obtain ⟨⟨a1, La, ba⟩, q1, q2⟩ := bindE hf
  obtain ⟨⟨Lb, bb⟩, q3, q4⟩ := bindE q2
  obtain ⟨ν1, g1, g2⟩ := normL_ok h.here hs q1
  obtain ⟨ν2, g3⟩ := normB_ok g1.here q3
  have h2 := (h.trans g1).trans g3
  have hs2 := g2.later g3.later
  dsimp only at q4
  generalize hg : grab 1000 (keysOf a1 ++ (boxKeys b0 Lb ++ upto b0)) Lb = pr at q4
  obtain ⟨R, U⟩ := pr
  have hp : Lb.Perm (R ++ U) := by have := grab_perm 1000 (keysOf a1 ++ (boxKeys b0 Lb ++ upto b0)) Lb; rw [hg] at this; exact this
  dsimp only at q4
  obtain ⟨h3, hz⟩ := h2.less hp
  have hs3 : slotsR ν2 bb (B.Z (ents ν2 R ++ F)) w a1 vs := hs2.later ⟨fun _ _ => rfl, Nat.le_refl _, fun x _ hx => ⟨hz x hx, rfl⟩⟩
  cases hc : (allIds (memK R) a1 && enKeys (memK R) R) <;> rw [hc] at q4
  · cases q4
  · cases q4
    simp only [Bool.and_eq_true] at hc
    have hkeep : ∀ e, keepBox ks b0 e = true → e.key < b0 := by
      intro e he
      simp only [keepBox, Bool.and_eq_true] at he
      exact Nat.le_of_ble_eq_true he.2
    have hφ : ∀ k, k < bb → memK R k = true → newKey b0 (keepBox ks b0) (kpvOf kv b0) R k < b0 + 2 * R.length ∧ numN ν2 b0 R (newKey b0 (keepBox ks b0) (kpvOf kv b0) R k) = ν2 k := fun k _ hk => newKey_ok hkeep kpvOf_lt hk
    have hlow : ∀ k, k < b0 → numN ν2 b0 R k = ν2 k := fun k hk => by unfold numN; rw [if_pos hk]
    obtain ⟨e1, e2⟩ := number_ok (b0 := b0) (Z := B.Z (ents ν2 R ++ F)) (w := w) hφ (fun k hk => ⟨by omega, hlow k hk⟩) kpvOf_lt R 0 h3.fact hc.2 (fun e _ he => ⟨by have := hkeep e he; omega, hlow _ (hkeep e he)⟩) (fun j e hj => by
      obtain ⟨k1, k2⟩ := numN_key (ν := ν2) (b0 := b0) hj
      obtain ⟨_, _, k3⟩ := enIds_at hj
      rw [Nat.zero_add]
      exact ⟨k1, k2, by omega⟩)
    refine ⟨numN ν2 b0 R, ⟨fun k hk => (hlow k hk).trans (h3.nms k hk), by omega, ?_, ?_, by rw [e1]; exact h3.glb⟩, ?_⟩
    · rw [e1]; exact h3.own
    · rw [e1]; exact e2
    · rw [e1]; exact hs3.ren hφ hc.1
end
inductive Ex
  | nm | rt
  | ex (id : Nat)
  | go (l : Nat)
abbrev CutF := List AV → List En → Nat → Tree (Ex × List AV × List En × Nat)
structure Cut where
  ins : List Nat
  outs : Ex → List Nat
  κ : CutF
def slotsAt : List Nat → List AV → Nat → AV
  | d :: ds, a :: l, t => bif Nat.beq t d then a else slotsAt ds l t
  | _, _, _ => .any
def cutIn (avs : List AV) (L : List En) (b : Nat) : Option (List AV × List En × List En × Nat) :=
  (normL avs L b).bind fun r => (normB (keysL (grab 1000 (keysOf r.1) r.2.1).1) r.2.1 r.2.2).bind fun q =>
    match grab 1000 (keysOf r.1) q.1 with
    | (L1, L2) => bif allIds (memK L1) r.1 && enKeys (memK L1) L1 then some (r.1, L1, L2, q.2) else none
def useCut (ws : List Nat) (c : Cut) (st : St) : Tree (Ex × St) := match cutIn (c.ins.map st.sl) st.L st.b with
  | some (avs, L1, L2, b) => (c.κ (avs.map (AV.ren (newKey 0 noKeep noKeep L1))) (partE L1) (2 * L1.length)).bind fun r =>
      forceAs (r.2.1.map (AV.ren (backN (enIds L1) b))) fun os => forceL (r.2.2.1.map (En.ren (backN (enIds L1) b)) ++ L2) fun L => forceN (b + (r.2.2.2 - 2 * L1.length)) fun b =>
      .ret (r.1, ⟨fun t => bif memN ws t then slotsAt (c.outs r.1) os t else st.sl t, L, b⟩)
  | none => .fail
def wr : Code → List Nat
  | .region _ ops _ => dsts ops.toList
  | .seq a c => wr a ++ wr c
  | .cond _ a c => wr a ++ wr c
  | .block _ c | .loop c | .scope c => wr c
  | .rangeFunc _ ps a c => ps.toList ++ (wr a ++ wr c)
  | _ => []
def opC (sl : Nat → AV) (x : Operand) : AV := opA sl x
def labelOf : Code → Option Nat
  | .seq a b => match labelOf a with | some l => some l | none => labelOf b
  | .label l => some l
  | _ => none
def labKey (l : Nat) : Nat := l + 100000
def evC (P : Program) (tab : Tab) (cuts : Nat → Option Cut) : Code → St → Tree (Ex × St)
  | .skip, st => .ret (.nm, st)
  | .exit id, st => .ret (.ex id, st)
  | .ret, st => .ret (.rt, st)
  | .region _ ops false, st => (evL P tab ops ops.toList st).bind fun st' => .ret (.nm, st')
  | .region _ ops true, st => (drawnT P tab ops st).strip.bind fun st' => .ret (.nm, st')
  | .seq a c, st => (evC P tab cuts a st).bind fun r => match r.1 with | .nm => evC P tab cuts c r.2 | e => .ret (e, r.2)
  | .cond x a c, st => match opA st.sl x with
    | .tt => evC P tab cuts a st
    | .ff => evC P tab cuts c st
    | .val .bool y => .ite y (evC P tab cuts a st) (evC P tab cuts c st)
    | _ => .fail
  | .block id c, st => match c with
    | .loop body => match cuts id with
      | some k => (useCut (wr body) k st).bind fun r => match r.1 with | .ex i => .ret (bif Nat.beq i id then .nm else .ex i, r.2) | e => .ret (e, r.2)
      | none => .fail
    | c => (evC P tab cuts c st).bind fun r => match r.1 with | .ex i => .ret (bif Nat.beq i id then .nm else .ex i, r.2) | e => .ret (e, r.2)
  | .label _, st => .ret (.nm, st)
  | .goto l, st => .ret (.go l, st)
  | .scope c, st => match labelOf c with
    | some l => match findLabel c l with
      | some rest => (evC P tab cuts c st).bind fun r => match r.1 with
        | .go l' => bif Nat.beq l' l then (match cuts (labKey l) with | some k => useCut (wr rest) k r.2 | none => .fail) else .fail
        | e => .ret (e, r.2)
      | none => .fail
    | none => .fail
  | _, _ => .fail
end Hyp
set_option linter.unusedVariables false
set_option linter.unusedSimpArgs false
namespace Hyp
open Go
def Ex.toExit : Ex → Exit
  | .nm => .normal
  | .rt => .ret
  | .ex id => .exit id
  | .go l => .goto l
def SoundX (X : Post → Fr → World → Prop) (ws : List Nat) (c : Cut) : Prop := ∀ avs L b (B : Base) (ν : Nms) (w : World) (F : List Ent) (f : Fr) (Q : Post),
  (c.κ avs L b).Runs (fun r => ∀ f' w' ν', Left B ν b w L F ν' r.2.2.2 w' r.2.2.1 → slotsR ν' r.2.2.2 (B.Z (ents ν' r.2.2.1 ++ F)) w' r.2.1 ((c.outs r.1).map f') → (∀ t, memN ws t = false → f' t = f t) → Q r.1.toExit f' w') →
  Here B ν b w L F → slotsR ν b (B.Z (ents ν L ++ F)) w avs (c.ins.map f) → X Q f w
abbrev SoundC (P : Program) (n : Nat) (code : Code) (ws : List Nat) (c : Cut) : Prop := SoundX (C P n code) ws c
def bndC (n : Nat) : Code → Bool
  | .region _ ops _ => bnd n ops.toList && Nat.ble n 1000000
  | .seq a c | .cond _ a c => bndC n a && bndC n c
  | .block _ c | .loop c | .scope c => bndC n c
  | _ => true
def CutsOK (P : Program) (n : Nat) (cuts : Nat → Option Cut) : Code → Prop
  | .seq a c | .cond _ a c => CutsOK P n cuts a ∧ CutsOK P n cuts c
  | .block id c => match c with
    | .loop body => ∀ k, cuts id = some k → SoundC P n (.loop body) (wr body) k
    | c => CutsOK P n cuts c
  | .scope c => CutsOK P n cuts c ∧ ∀ l rest, labelOf c = some l → findLabel c l = some rest → ∀ k, cuts (labKey l) = some k → SoundX (JX P n l rest) (wr rest) k
  | _ => True
theorem wr_rest {t : Nat} : ∀ {c rest : Code} {l : Nat}, findLabel c l = some rest → memN (wr c) t = false → memN (wr rest) t = false
  | .seq a b, rest, l, h, ht => by
    have ht' : memN (wr a) t = false ∧ memN (wr b) t = false := by
      have : ∀ (x y : List Nat), memN (x ++ y) t = false → memN x t = false ∧ memN y t = false := by
        intro x y h
        induction x with
        | nil => exact ⟨rfl, h⟩
        | cons z x ih =>
          simp only [List.cons_append, memN, Bool.or_eq_false_iff] at h ⊢
          exact ⟨⟨h.1, (ih h.2).1⟩, (ih h.2).2⟩
      exact this _ _ ht
    unfold findLabel at h
    split at h
    · rename_i r hr
      cases h
      have h1 := wr_rest hr ht'.1
      show memN (wr r ++ wr b) t = false
      have : ∀ (x y : List Nat), memN x t = false → memN y t = false → memN (x ++ y) t = false := by
        intro x y hx hy
        induction x with
        | nil => exact hy
        | cons z x ih =>
          simp only [List.cons_append, memN, Bool.or_eq_false_iff] at hx ⊢
          exact ⟨hx.1, ih hx.2⟩
      exact this _ _ h1 ht'.2
    · exact wr_rest h ht'.2
  | .label l', rest, l, h, ht => by
    unfold findLabel at h
    split at h
    · cases h; rfl
    · cases h
  | .skip, _, _, h, _ | .exit _, _, _, h, _ | .ret, _, _, h, _ | .region _ _ _, _, _, h, _ | .cond _ _ _, _, _, h, _ | .block _ _, _, _, h, _ | .loop _, _, _, h, _ | .rangeFunc _ _ _ _, _, _, h, _ | .scope _, _, _, h, _ | .goto _, _, _, h, _ | .refuse _, _, _, h, _ => by simp [findLabel] at h
section
variable {P : Program} {n : Nat} {Q : Post} {f : Fr} {w w' w0 : World} {B : Base} {ν ν' ν0 : Nms} {b b' b0 : Nat} {L L' L1 L2 L0 : List En} {F : List Ent} {tab : Tab} {cuts : Nat → Option Cut}
theorem memN_append {a c : List Nat} {t : Nat} (h : memN (a ++ c) t = false) : memN a t = false ∧ memN c t = false := by
  induction a with
  | nil => exact ⟨rfl, h⟩
  | cons x a ih =>
    simp only [List.cons_append, memN, Bool.or_eq_false_iff] at h ⊢
    exact ⟨⟨h.1, (ih h.2).1⟩, (ih h.2).2⟩
theorem slotsAt_ok {Z : Nat → Prop} : ∀ {ds : List Nat} {l : List AV}, slotsR ν b Z w l (ds.map f) → ∀ t, slotR ν b Z w (slotsAt ds l t) (f t)
  | [], l, _, t => by cases l <;> trivial
  | d :: ds, [], h, t => h.elim
  | d :: ds, a :: l, h, t => by
    unfold slotsAt
    cases hc : Nat.beq t d
    · exact slotsAt_ok (ds := ds) h.2 t
    · rw [Nat.eq_of_beq_eq_true hc]; exact h.1
theorem slots_of {Z : Nat → Prop} {sl : Nat → AV} (h : ∀ t, slotR ν b Z w (sl t) (f t)) : ∀ ds : List Nat, slotsR ν b Z w (ds.map sl) (ds.map f)
  | [] => trivial
  | d :: ds => ⟨h d, slots_of h ds⟩
theorem cutIn_ok {avs avs' : List AV} {vs : List Value} (H : Here B ν b w L F) (hs : slotsR ν b (B.Z (ents ν L ++ F)) w avs vs) (h : cutIn avs L b = some (avs', L1, L2, b')) :
    ∃ ν' La, Left B ν b w L F ν' b' w La ∧ La.Perm (L1 ++ L2) ∧ slotsR ν' b' (B.Z (ents ν' La ++ F)) w avs' vs ∧ allIds (memK L1) avs' = true ∧ enKeys (memK L1) L1 = true := by
  unfold cutIn at h
  obtain ⟨⟨a1, La, ba⟩, q1, q2⟩ := bindE h
  obtain ⟨⟨Lb, bb⟩, q3, q4⟩ := bindE q2
  obtain ⟨ν1, g1, g2⟩ := normL_ok H hs q1
  obtain ⟨ν2, g3⟩ := normB_ok g1.here q3
  dsimp only at q4
  generalize hg : grab 1000 (keysOf a1) Lb = pr at q4
  obtain ⟨R, U⟩ := pr
  have hp : Lb.Perm (R ++ U) := by have := grab_perm 1000 (keysOf a1) Lb; rw [hg] at this; exact this
  dsimp only at q4
  cases hc : (allIds (memK R) a1 && enKeys (memK R) R) <;> rw [hc] at q4
  · cases q4
  · cases q4
    simp only [Bool.and_eq_true] at hc
    exact ⟨ν2, Lb, g1.trans g3, hp, g2.later g3.later, hc.1, hc.2⟩
theorem allIdsTrue : ∀ l : List AV, allIds (fun _ => true) l = true
  | [] => rfl
  | a :: l => by simp only [allIds, idsTrue, allIdsTrue l, Bool.and_self]
def EndsC (B : Base) (ν0 : Nms) (b0 : Nat) (w0 : World) (L0 : List En) (F : List Ent) (ws : List Nat) (f : Fr) (Q : Post) (r : Ex × St) : Prop :=
  ∀ f' w', SRel B ν0 b0 w0 L0 F r.2 f' w' → (∀ t, memN ws t = false → f' t = f t) → Q r.1.toExit f' w'
theorem useCut_ok {ws : List Nat} {c : Cut} {st : St} {X : Post → Fr → World → Prop} (hc : SoundX X ws c) (h : (useCut ws c st).Runs (EndsC B ν0 b0 w0 L0 F ws f Q)) (hs : SRel B ν0 b0 w0 L0 F st f w) : X Q f w := by
  unfold useCut at h
  split at h
  · rename_i avs L1 L2 b1 hin
    rw [Tree.runs_bind] at h
    obtain ⟨ν, hl, hsl⟩ := hs
    obtain ⟨ν1, La, g1, hp, g2, g3, g4⟩ := cutIn_ok hl.here (slots_of hsl c.ins) hin
    have H := g1.here
    have hmem : ∀ e ∈ L1, e ∈ La := fun e he => hp.mem_iff.2 (List.mem_append_left _ he)
    obtain ⟨hh, hz⟩ := H.part hp g4
    have hs2 := g2.ren (part_names H hmem g4 rfl).1 g3
    rw [← hz] at hs2
    refine hc _ _ _ B _ w _ f Q (h.mono fun r hr f' w' νc q1 q2 q3 => ?_) hh hs2
    simp only [forceAs_eq, forceL_eq, forceN_eq] at hr
    obtain ⟨ν', hl', hz', hback⟩ := Left.whole H hp g4 q1
    have hall := (hl.trans g1).trans hl'
    refine hr f' w' ⟨ν', hall, fun t => ?_⟩ q3
    cases hm : memN ws t
    · simp only [hm, cond_false]
      rw [q3 t hm]
      exact ((hsl t).later g1.later).later hl'.later
    · simp only [hm, cond_true]
      have q4 := q2.ren (p := fun _ => true) (φ := backN (enIds L1) b1) (fun i hi _ => hback i hi trivial) (allIdsTrue r.2.1)
      rw [hz'] at q4
      exact slotsAt_ok q4 t
  · exact h.elim
theorem outC {id : Nat} {ws : List Nat} {r : Ex × St} (h : (match r.1 with | .ex i => Tree.ret (bif Nat.beq i id then Ex.nm else .ex i, r.2) | e => .ret (e, r.2)).Runs (EndsC B ν0 b0 w0 L0 F ws f Q)) :
    EndsC B ν0 b0 w0 L0 F ws f (inBlock id Q) r := by
  obtain ⟨e, st⟩ := r
  intro f' w' g1 g2
  cases e with
  | nm => exact h f' w' g1 g2
  | rt => exact h f' w' g1 g2
  | go l => exact h f' w' g1 g2
  | ex i =>
    have h := h f' w' g1 g2
    show (if i = id then Q .normal f' w' else Q (.exit i) f' w')
    cases hi : Nat.beq i id
    · have hne : ¬ i = id := by rintro rfl; simp at hi
      rw [if_neg hne]
      dsimp only at h
      rw [hi] at h
      exact h
    · have he := Nat.eq_of_beq_eq_true hi
      rw [if_pos he]
      dsimp only at h
      rw [hi] at h
      exact h
theorem evC_ok (ht : TabOK P tab) : ∀ (c : Code) (st : St) (f : Fr) (w : World) (Q : Post), CutsOK P n cuts c → bndC n c = true → (evC P tab cuts c st).Runs (EndsC B ν0 b0 w0 L0 F (wr c) f Q) → SRel B ν0 b0 w0 L0 F st f w → C P n c Q f w
  | .skip, st, f, w, Q, hc, hb, h, hs => C_skip (h f w hs fun _ _ => rfl)
  | .exit id, st, f, w, Q, hc, hb, h, hs => C_exit (h f w hs fun _ _ => rfl)
  | .ret, st, f, w, Q, hc, hb, h, hs => C_ret (h f w hs fun _ _ => rfl)
  | .region id ops false, st, f, w, Q, hc, hb, h, hs => by
    simp only [evC, Tree.runs_bind] at h
    obtain ⟨l, rfl⟩ : ∃ l : List Oper, ops = l.toArray := ⟨ops.toList, by simp⟩
    simp only [bndC, Bool.and_eq_true] at hb
    have hbl : bnd n l = true := by simpa using hb.1
    refine C_region hbl ?_
    have h1' : (evL P tab l.toArray l st).Runs fun a => (Tree.ret (Ex.nm, a)).Runs (EndsC B ν0 b0 w0 L0 F (wr (.region id l.toArray false)) f Q) := by simpa using h
    refine evL_ok ht l st f w (h1'.mono fun st' hr f' w' g1 g2 => hr f' w' g1 fun t ht => g2 t ?_) hs
    simpa [wr] using ht
  | .region id ops true, st, f, w, Q, hc, hb, h, hs => by
    simp only [evC, Tree.runs_bind] at h
    simp only [bndC, Bool.and_eq_true] at hb
    obtain ⟨ν, hl, hsl⟩ := hs
    obtain ⟨st', h1, hr⟩ := Tree.strip_runs h
    refine drawn_ok ht hb.1 (Nat.le_of_ble_eq_true hb.2) h1 hl.here hsl fun f' w' ν' g1 g2 g3 => hr f' w' ⟨ν', hl.trans g1, g2⟩ fun t ht => g3 t ?_
    simpa [wr] using ht
  | .seq a c, st, f, w, Q, hc, hb, h, hs => by
    simp only [bndC, Bool.and_eq_true] at hb
    simp only [evC, Tree.runs_bind] at h
    refine C_seq ?_
    refine evC_ok ht a st f w _ hc.1 hb.1 (h.mono fun r hr f' w' g1 g2 => ?_) hs
    obtain ⟨e1, st1⟩ := r
    dsimp only at hr
    cases e1 with
    | nm =>
      refine evC_ok ht c st1 f' w' Q hc.2 hb.2 (Tree.Runs.mono hr fun r2 hr2 f2 w2 q1 q2 => hr2 f2 w2 q1 fun t ht => ?_) g1
      obtain ⟨m1, m2⟩ := memN_append (a := wr a) ht
      rw [q2 t m2, g2 t m1]
    | rt => exact hr f' w' g1 fun t ht => g2 t (memN_append (a := wr a) ht).1
    | go l => exact hr f' w' g1 fun t ht => g2 t (memN_append (a := wr a) ht).1
    | ex id => exact hr f' w' g1 fun t ht => g2 t (memN_append (a := wr a) ht).1
  | .cond x a c, st, f, w, Q, hc, hb, h, hs => by
    simp only [bndC, Bool.and_eq_true] at hb
    obtain ⟨ν, hl, hsl⟩ := hs
    have hx := opA_ok hsl x
    have ka : (evC P tab cuts a st).Runs (EndsC B ν0 b0 w0 L0 F (wr (.cond x a c)) f Q) → C P n a Q f w := fun h => evC_ok ht a st f w Q hc.1 hb.1 (h.mono fun r hr f' w' g1 g2 => hr f' w' g1 fun t ht => g2 t (memN_append (a := wr a) ht).1) ⟨ν, hl, hsl⟩
    have kc : (evC P tab cuts c st).Runs (EndsC B ν0 b0 w0 L0 F (wr (.cond x a c)) f Q) → C P n c Q f w := fun h => evC_ok ht c st f w Q hc.2 hb.2 (h.mono fun r hr f' w' g1 g2 => hr f' w' g1 fun t ht => g2 t (memN_append (a := wr a) ht).2) ⟨ν, hl, hsl⟩
    unfold evC at h
    split at h
    · rename_i hv
      rw [hv] at hx
      exact C_cond (sl_tt hx) (fun _ => ka h) (fun hf => by cases hf)
    · rename_i hv
      rw [hv] at hx
      exact C_cond (sl_ff hx) (fun hf => by cases hf) (fun _ => kc h)
    · rename_i y hv
      rw [hv] at hx
      exact C_cond (sl_bool hx) (fun hy => ka (h.1 hy)) (fun hy => kc (h.2 hy))
    · exact h.elim
  | .block id c, st, f, w, Q, hc, hb, h, hs => by
    by_cases hl : ∃ body, c = .loop body
    · obtain ⟨body, rfl⟩ := hl
      cases hcut : cuts id with
      | none =>
        have h2 : evC P tab cuts (.block id (.loop body)) st = .fail := by
          show (match cuts id with | some k => _ | none => _) = _
          rw [hcut]
        rw [h2] at h
        exact h.elim
      | some k =>
        have h2 : evC P tab cuts (.block id (.loop body)) st = (useCut (wr body) k st).bind fun r => match r.1 with | .ex i => .ret (bif Nat.beq i id then .nm else .ex i, r.2) | e => .ret (e, r.2) := by
          show (match cuts id with | some k => _ | none => _) = _
          rw [hcut] <;> rfl
        rw [h2, Tree.runs_bind] at h
        refine C_block ?_
        exact useCut_ok (hc k hcut) (h.mono fun r hr => outC hr) hs
    · have hne : ∀ body, c ≠ .loop body := fun body he => hl ⟨body, he⟩
      have h2 : evC P tab cuts (.block id c) st = (evC P tab cuts c st).bind fun r => match r.1 with | .ex i => .ret (bif Nat.beq i id then .nm else .ex i, r.2) | e => .ret (e, r.2) := by
        cases c <;> first | rfl | exact absurd rfl (hne _)
      have hc2 : CutsOK P n cuts c := by
        cases c <;> first | exact hc | exact absurd rfl (hne _)
      rw [h2, Tree.runs_bind] at h
      refine C_block ?_
      exact evC_ok ht c st f w _ hc2 hb (h.mono fun r hr => outC hr) hs
  | .loop c, st, f, w, Q, hc, hb, h, hs => h.elim
  | .rangeFunc x ps a c, st, f, w, Q, hc, hb, h, hs => h.elim
  | .scope c, st, f, w, Q, hc, hb, h, hs => by
    unfold evC at h
    split at h
    · rename_i l hl
      split at h
      · rename_i rest hrest
        rw [Tree.runs_bind] at h
        refine C_scope hrest ?_
        refine evC_ok ht c st f w _ hc.1 hb (h.mono fun r hr f' w' g1 g2 => ?_) hs
        obtain ⟨e1, st1⟩ := r
        dsimp only at hr
        cases e1 with
        | nm => exact hr f' w' g1 g2
        | rt => exact hr f' w' g1 g2
        | ex i => exact hr f' w' g1 g2
        | go l' =>
          dsimp only at hr
          cases hb' : Nat.beq l' l <;> rw [hb'] at hr
          · exact hr.elim
          · have he := Nat.eq_of_beq_eq_true hb'
            refine ⟨he, ?_⟩
            simp only [cond_true] at hr
            split at hr
            · rename_i k hk
              refine useCut_ok (hc.2 l rest hl hrest k hk) (Tree.Runs.mono hr fun r2 hr2 f2 w2 q1 q2 => hr2 f2 w2 q1 fun t ht => ?_) g1
              rw [q2 t (wr_rest hrest ht), g2 t ht]
            · exact hr.elim
      · exact h.elim
    · exact h.elim
  | .label l, st, f, w, Q, hc, hb, h, hs => C_label (h f w hs fun _ _ => rfl)
  | .goto l, st, f, w, Q, hc, hb, h, hs => C_goto (h f w hs fun _ _ => rfl)
  | .refuse l, st, f, w, Q, hc, hb, h, hs => h.elim
end
def roundT (P : Program) (tab : Tab) (cuts : Nat → Option Cut) (body : Code) (c : Cut) (avs : List AV) (L : List En) (b : Nat) : Tree (Ex × List AV × List En × Nat) :=
  (evC P tab cuts body ⟨slotsAt c.ins avs, L, b⟩).bind fun r => (match r.1 with | .nm => useCut (wr body) c r.2 | _ => .ret r).bind fun q => match q.1 with
    | .nm => .fail
    | e => match finT true (keysOf avs) ((c.outs e).map q.2.sl) q.2.L q.2.b b with
      | some o => .ret (e, o)
      | none => .fail
def Rounds (P : Program) (n : Nat) (body : Code) (mk : CutF → Cut) (K : List CutF) (κ : CutF) : Prop := ∀ avs L b R, (κ avs L b).Wp R →
  ∃ tab cuts κ', TabOK P tab ∧ CutsOK P n cuts body ∧ (∀ avs L b R, (κ' avs L b).Wp R → ∃ κ'' ∈ K, (κ'' avs L b).Wp R) ∧ (roundT P tab cuts body (mk κ') avs L b).Wp R
theorem Rounds.mono {P : Program} {n : Nat} {body : Code} {mk : CutF → Cut} {K K' : List CutF} {κ : CutF} (h : Rounds P n body mk K κ) (hk : ∀ κ ∈ K, κ ∈ K') : Rounds P n body mk K' κ := by
  intro avs L b R hw
  obtain ⟨tab, cuts, κ', h1, h2, h3, h4⟩ := h _ _ _ _ hw
  exact ⟨tab, cuts, κ', h1, h2, fun _ _ _ _ q => (h3 _ _ _ _ q).imp fun _ q => ⟨hk _ q.1, q.2⟩, h4⟩
section
variable {P : Program} {n : Nat} {Q : Post} {f : Fr} {w w' w0 : World} {B : Base} {ν ν' ν0 : Nms} {b b' b0 : Nat} {L L' L1 L2 L0 : List En} {F : List Ent}
theorem loop_rounds {body : Code} {ins : List Nat} {outs : Ex → List Nat} {mk : CutF → Cut} {K : Nat → List CutF} (hmk : ∀ κ, mk κ = ⟨ins, outs, κ⟩) (hb : bndC n body = true) (h0 : ∀ κ ∈ K 0, ∀ avs L b R, (κ avs L b).Wp R → False)
    (hstep : ∀ k, ∀ κ ∈ K (k + 1), Rounds P n body mk (K k) κ) : ∀ k, ∀ κ ∈ K k, SoundC P n (.loop body) (wr body) (mk κ) := by
  intro k κ hκ
  rw [hmk]
  intro avs L b B ν w F f Q hrun H hs
  refine C_loop (fun k f w => ∃ κ ∈ K k, ∃ avs L b B ν F, (κ avs L b).Runs (fun r => ∀ f' w' ν', Left B ν b w L F ν' r.2.2.2 w' r.2.2.1 → slotsR ν' r.2.2.2 (B.Z (ents ν' r.2.2.1 ++ F)) w' r.2.1 ((outs r.1).map f') → (∀ t, memN (wr body) t = false → f' t = f t) → Q r.1.toExit f' w') ∧
    Here B ν b w L F ∧ slotsR ν b (B.Z (ents ν L ++ F)) w avs (ins.map f)) k ⟨κ, hκ, avs, L, b, B, ν, F, hrun, H, hs⟩ ?_
  rintro k f w ⟨κ, hκ, avs, L, b, B, ν, F, hrun, H, hs⟩
  cases k with
  | zero => exact (h0 _ hκ _ _ _ _ ⟨hrun⟩).elim
  | succ k =>
    obtain ⟨tab, cuts, κ', ht, hc, hsub, ⟨h⟩⟩ := hstep k κ hκ avs L b _ ⟨hrun⟩
    rw [hmk] at h
    unfold roundT at h
    simp only [Tree.runs_bind] at h
    have hs1 : SRel B ν b w L F ⟨slotsAt ins avs, L, b⟩ f w := ⟨ν, H.stay, slotsAt_ok hs⟩
    have fin : ∀ {e2 : Ex} {st2 : St} {f' : Fr} {w' : World}, (match e2 with
        | .nm => Tree.fail
        | e => match finT true (keysOf avs) ((outs e).map st2.sl) st2.L st2.b b with
          | some o => .ret (e, o)
          | none => .fail).Runs (fun r : Ex × List AV × List En × Nat => ∀ f' w' ν', Left B ν b w L F ν' r.2.2.2 w' r.2.2.1 → slotsR ν' r.2.2.2 (B.Z (ents ν' r.2.2.1 ++ F)) w' r.2.1 ((outs r.1).map f') → (∀ t, memN (wr body) t = false → f' t = f t) → Q r.1.toExit f' w') →
        SRel B ν b w L F st2 f' w' → (∀ t, memN (wr body) t = false → f' t = f t) → e2 ≠ .nm ∧ Q e2.toExit f' w' := by
      intro e2 st2 f' w' h4 hs2 hfr
      split at h4
      · exact h4.elim
      · rename_i hne
        refine ⟨fun he => hne he, ?_⟩
        split at h4
        · rename_i o hfin
          obtain ⟨ν2, hl2, hsl2⟩ := hs2
          obtain ⟨ν3, g1, g2⟩ := finT_ok hl2 (slots_of hsl2 _) hfin
          exact h4 f' w' ν3 g1 g2 hfr
        · exact h4.elim
    refine evC_ok ht body _ f w _ hc hb (h.mono fun r hr f' w' g1 g2 => ?_) hs1
    obtain ⟨e1, st1⟩ := r
    dsimp only at hr
    cases e1 with
    | nm =>
      dsimp only at hr
      unfold useCut at hr
      split at hr
      · rename_i avs1 L1 L2 b1 hin
        rw [Tree.runs_bind] at hr
        obtain ⟨ν1, hl1, hsl1⟩ := g1
        obtain ⟨ν2, La, k1, hp, k2, k3, k4⟩ := cutIn_ok hl1.here (slots_of hsl1 ins) hin
        have H2 := k1.here
        have hmem : ∀ e ∈ L1, e ∈ La := fun e he => hp.mem_iff.2 (List.mem_append_left _ he)
        obtain ⟨hh, hz⟩ := H2.part hp k4
        have hs2 := k2.ren (part_names H2 hmem k4 rfl).1 k3
        rw [← hz] at hs2
        obtain ⟨κ'', hκ'', ⟨hr⟩⟩ := hsub _ _ _ _ ⟨hr⟩
        refine ⟨k, Nat.lt_succ_self k, κ'', hκ'', _, _, _, B, _, _, hr.mono fun r hr2 f2 w2 νc r1 r2 r3 => ?_, hh, hs2⟩
        simp only [forceAs_eq, forceL_eq, forceN_eq] at hr2
        obtain ⟨ν3, hl3, hz3, hback⟩ := Left.whole H2 hp k4 r1
        have hall := (hl1.trans k1).trans hl3
        refine (fin (e2 := r.1) hr2 ⟨ν3, hall, fun t => ?_⟩ (fun t ht => by rw [r3 t ht, g2 t ht])).2
        cases hm : memN (wr body) t
        · simp only [hm, cond_false]
          rw [r3 t hm]
          exact ((hsl1 t).later k1.later).later hl3.later
        · simp only [hm, cond_true]
          have q4 := r2.ren (p := fun _ => true) (φ := backN (enIds L1) b1) (fun i hi _ => hback i hi trivial) (allIdsTrue r.2.1)
          rw [hz3] at q4
          exact slotsAt_ok q4 t
      · exact hr.elim
    | rt => exact (fin (e2 := .rt) hr g1 g2).2
    | go l => exact (fin (e2 := .go l) hr g1 g2).2
    | ex i => exact (fin (e2 := .ex i) hr g1 g2).2
end
def roundJ (P : Program) (tab : Tab) (cuts : Nat → Option Cut) (l : Nat) (body : Code) (c : Cut) (avs : List AV) (L : List En) (b : Nat) : Tree (Ex × List AV × List En × Nat) :=
  (evC P tab cuts body ⟨slotsAt c.ins avs, L, b⟩).bind fun r => (match r.1 with | .go l' => bif Nat.beq l' l then useCut (wr body) c r.2 else .fail | _ => .ret r).bind fun q => match q.1 with
    | .go _ => .fail
    | e => match finT true (keysOf avs) ((c.outs e).map q.2.sl) q.2.L q.2.b b with
      | some o => .ret (e, o)
      | none => .fail
def RoundsJ (P : Program) (n l : Nat) (body : Code) (mk : CutF → Cut) (K : List CutF) (κ : CutF) : Prop := ∀ avs L b R, (κ avs L b).Wp R →
  ∃ tab cuts κ', TabOK P tab ∧ CutsOK P n cuts body ∧ (∀ avs L b R, (κ' avs L b).Wp R → ∃ κ'' ∈ K, (κ'' avs L b).Wp R) ∧ (roundJ P tab cuts l body (mk κ') avs L b).Wp R
section
variable {P : Program} {n : Nat} {Q : Post} {f : Fr} {w w' w0 : World} {B : Base} {ν ν' ν0 : Nms} {b b' b0 : Nat} {L L' L1 L2 L0 : List En} {F : List Ent}
theorem jump_rounds' {l : Nat} {body : Code} {ins : List Nat} {outs : Ex → List Nat} {mk : CutF → Cut} {K : Nat → List CutF} (hmk : ∀ κ, mk κ = ⟨ins, outs, κ⟩) (hb : bndC n body = true) (h0 : ∀ κ ∈ K 0, ∀ avs L b R, (κ avs L b).Wp R → False)
    (hstep : ∀ k, ∀ κ ∈ K (k + 1), RoundsJ P n l body mk (K k) κ) : ∀ k, ∀ κ ∈ K k, SoundX (fun Q f w => JW P n l body Q k f w) (wr body) (mk κ)
  | 0, κ, hκ => by
    rw [hmk]
    intro avs L b B ν w F f Q hrun H hs
    exact (h0 _ hκ _ _ _ _ ⟨hrun⟩).elim
  | k + 1, κ, hκ => by
    have ih := jump_rounds' hmk hb h0 hstep k
    rw [hmk]
    intro avs L b B ν w F f Q hrun H hs
    obtain ⟨tab, cuts, κ', ht, hc, hsub, ⟨h⟩⟩ := hstep k κ hκ avs L b _ ⟨hrun⟩
    rw [hmk] at h
    unfold roundJ at h
    simp only [Tree.runs_bind] at h
    have hs1 : SRel B ν b w L F ⟨slotsAt ins avs, L, b⟩ f w := ⟨ν, H.stay, slotsAt_ok hs⟩
    have fin : ∀ {e2 : Ex} {st2 : St} {f' : Fr} {w' : World}, (match e2 with
        | .go _ => Tree.fail
        | e => match finT true (keysOf avs) ((outs e).map st2.sl) st2.L st2.b b with
          | some o => .ret (e, o)
          | none => .fail).Runs (fun r : Ex × List AV × List En × Nat => ∀ f' w' ν', Left B ν b w L F ν' r.2.2.2 w' r.2.2.1 → slotsR ν' r.2.2.2 (B.Z (ents ν' r.2.2.1 ++ F)) w' r.2.1 ((outs r.1).map f') → (∀ t, memN (wr body) t = false → f' t = f t) → Q r.1.toExit f' w') →
        SRel B ν b w L F st2 f' w' → (∀ t, memN (wr body) t = false → f' t = f t) → Q e2.toExit f' w' := by
      intro e2 st2 f' w' h4 hs2 hfr
      split at h4
      · exact h4.elim
      · split at h4
        · rename_i o hfin
          obtain ⟨ν2, hl2, hsl2⟩ := hs2
          obtain ⟨ν3, g1, g2⟩ := finT_ok hl2 (slots_of hsl2 _) hfin
          exact h4 f' w' ν3 g1 g2 hfr
        · exact h4.elim
    show C P n body (jumpQ l (JW P n l body Q k) Q) f w
    refine evC_ok ht body _ f w _ hc hb (h.mono fun r hr f' w' g1 g2 => ?_) hs1
    obtain ⟨e1, st1⟩ := r
    dsimp only at hr
    cases e1 with
    | nm => exact fin (e2 := .nm) hr g1 g2
    | rt => exact fin (e2 := .rt) hr g1 g2
    | ex i => exact fin (e2 := .ex i) hr g1 g2
    | go l' =>
      dsimp only at hr
      cases hb' : Nat.beq l' l <;> rw [hb'] at hr
      · exact hr.elim
      refine ⟨Nat.eq_of_beq_eq_true hb', ?_⟩
      simp only [cond_true] at hr
      unfold useCut at hr
      split at hr
      · rename_i avs1 L1 L2 b1 hin
        rw [Tree.runs_bind] at hr
        obtain ⟨ν1, hl1, hsl1⟩ := g1
        obtain ⟨ν2, La, k1, hp, k2, k3, k4⟩ := cutIn_ok hl1.here (slots_of hsl1 ins) hin
        have H2 := k1.here
        have hmem : ∀ e ∈ L1, e ∈ La := fun e he => hp.mem_iff.2 (List.mem_append_left _ he)
        obtain ⟨hh, hz⟩ := H2.part hp k4
        have hs2 := k2.ren (part_names H2 hmem k4 rfl).1 k3
        rw [← hz] at hs2
        obtain ⟨κ'', hκ'', ⟨hr⟩⟩ := hsub _ _ _ _ ⟨hr⟩
        have ihk := ih κ'' hκ''
        rw [hmk] at ihk
        refine ihk _ _ _ B _ _ _ _ _ (hr.mono fun r hr2 f2 w2 νc r1 r2 r3 => ?_) hh hs2
        simp only [forceAs_eq, forceL_eq, forceN_eq] at hr2
        obtain ⟨ν3, hl3, hz3, hback⟩ := Left.whole H2 hp k4 r1
        have hall := (hl1.trans k1).trans hl3
        refine fin (e2 := r.1) hr2 ⟨ν3, hall, fun t => ?_⟩ (fun t ht => by rw [r3 t ht, g2 t ht])
        cases hm : memN (wr body) t
        · simp only [hm, cond_false]
          rw [r3 t hm]
          exact ((hsl1 t).later k1.later).later hl3.later
        · simp only [hm, cond_true]
          have q4 := r2.ren (p := fun _ => true) (φ := backN (enIds L1) b1) (fun i hi _ => hback i hi trivial) (allIdsTrue r.2.1)
          rw [hz3] at q4
          exact slotsAt_ok q4 t
      · exact hr.elim
theorem jump_rounds {l : Nat} {body : Code} {ins : List Nat} {outs : Ex → List Nat} {mk : CutF → Cut} {K : Nat → List CutF} (hmk : ∀ κ, mk κ = ⟨ins, outs, κ⟩) (hb : bndC n body = true) (h0 : ∀ κ ∈ K 0, ∀ avs L b R, (κ avs L b).Wp R → False)
    (hstep : ∀ k, ∀ κ ∈ K (k + 1), RoundsJ P n l body mk (K k) κ) : ∀ k, ∀ κ ∈ K k, SoundX (JX P n l body) (wr body) (mk κ) :=
  fun k κ hκ avs L b B ν w F f Q h1 h2 h3 => ⟨k, jump_rounds' hmk hb h0 hstep k κ hκ avs L b B ν w F f Q h1 h2 h3⟩
end
def resA (P : Program) (st : St) : List ResultVar → Option (List AV)
  | [] => some []
  | .tmp t :: l => (resA P st l).map fun r => st.sl t :: r
  | .cell a T :: l => match st.sl a with
    | .ptr k o => match loadT P T (.ptr k o) st.L with
      | .ret x => (resA P st l).map fun r => x :: r
      | _ => none
    | _ => none
def prL : List AV → AV
  | [] => .un
  | a :: l => .pr a (prL l)
def oneT : List AV → AV
  | [a] => a
  | l => .tup (prL l)
def okAll : List AV → Bool
  | [] => true
  | a :: l => a.okC && okAll l
def argsSl (avs : List AV) (t : Nat) : AV := match avs, t with
  | [], _ => .und
  | a :: _, 0 => a
  | _ :: l, t + 1 => argsSl l t
def endT (P : Program) (ts : List TypeId) (fz : Bool) (rs : List AV) (L : List En) : List AV × List En := bif fz then frzK (keysOf rs) ((tyL P ts rs).map roN) L else (tyL P ts rs, L)
def fnT (P : Program) (tab : Tab) (cuts : Nat → Option Cut) (fz kv : Bool) (fn : Func) : Summ := fun avs L b => bif Nat.ble avs.length fn.ntmps then (match fn.body with
  | some c => bif bndC fn.ntmps c then (evC P tab cuts c ⟨argsSl avs, L, b⟩).bind fun r => (match r.1 with
    | .ex _ => .fail
    | .go _ => .fail
    | _ => match resA P r.2 fn.results.toList with
      | some rs => match endT P fn.resultTypes.toList fz rs r.2.L with
        | (rs, L2) => match finT kv (keysOf avs) rs L2 r.2.b b with
          | some (rs', L', b') => bif okAll rs' then .ret (oneT rs', L', b') else .fail
          | none => .fail
      | none => .fail) else .fail
  | none => .fail) else .fail
section
variable {P : Program} {n : Nat} {Q : Post} {f : Fr} {w w' w0 : World} {B : Base} {ν ν' ν0 : Nms} {b b' b0 : Nat} {L L' L1 L2 L0 : List En} {F : List Ent} {tab : Tab} {cuts : Nat → Option Cut}
theorem slotsR_len {Z : Nat → Prop} : ∀ {l : List AV} {vs : List Value}, slotsR ν b Z w l vs → l.length = vs.length
  | [], [], _ => rfl
  | a :: l, v :: vs, h => by simp [slotsR_len h.2]
  | [], _ :: _, h => h.elim
  | _ :: _, [], h => h.elim
theorem argsSl_ok {Z : Nat → Prop} : ∀ {l : List AV} {vs : List Value}, slotsR ν b Z w l vs → ∀ t, slotR ν b Z w (argsSl l t) (vs[t]?.getD undef)
  | [], [], _, t => rfl
  | a :: l, v :: vs, h, 0 => h.1
  | a :: l, v :: vs, h, t + 1 => by
    show slotR ν b Z w (argsSl l t) _
    simpa using argsSl_ok h.2 t
  | [], _ :: _, h, _ => h.elim
  | _ :: _, [], h, _ => h.elim
theorem load_run {T : TypeId} {x : Operand} {ty : TypeId} {ad : Addr} {K : Value → World → Prop} (hx : ev f x = .pointer (some ad)) (h : OpW P (.load T x) ty f w K) : ∃ v w', (loadVar T ad).run P w = .ok v w' ∧ K v w' := by
  unfold OpW after at h
  simp only [execOp, bare, hx, Instr.loadAt, Instr.sureAddr, Sem.run_bind, Sem.run_pure, Result.andThen_ok] at h
  cases hr : (loadVar T ad).run P w <;> rw [hr] at h <;> simp at h
  exact ⟨_, _, rfl, h⟩
theorem resA_ok (H : Here B ν b w L F) {sl : Nat → AV} (hs : ∀ t, slotR ν b (B.Z (ents ν L ++ F)) w (sl t) (f t)) : ∀ {l : List ResultVar} {rs : List AV}, resA P ⟨sl, L, b⟩ l = some rs →
    ∃ vs : List Value, slotsR ν b (B.Z (ents ν L ++ F)) w rs vs ∧ ∀ tmps : Array Value, (fun t => tmps.getD t undef) = f → (l.mapM (resSem tmps)).run P w = .ok vs w
  | [], rs, h => by cases h; exact ⟨[], trivial, fun _ _ => rfl⟩
  | .tmp t :: l, rs, h => by
    unfold resA at h
    simp only [Option.map_eq_some_iff] at h
    obtain ⟨r, h1, rfl⟩ := h
    obtain ⟨vs, g2, g1⟩ := resA_ok H hs h1
    refine ⟨f t :: vs, ⟨hs t, g2⟩, fun tmps htm => ?_⟩
    have ht : tmps.getD t undef = f t := congrFun htm t
    simp only [List.mapM_cons, resSem, Sem.run_bind, Sem.run_pure, Result.andThen_ok, g1 tmps htm, ht]
  | .cell a T :: l, rs, h => by
    unfold resA at h
    split at h
    · rename_i k o ha
      split at h
      · rename_i x hx
        simp only [Option.map_eq_some_iff] at h
        obtain ⟨r, h1, rfl⟩ := h
        obtain ⟨vs, g2, g1⟩ := resA_ok H hs h1
        have hsa := hs a
        rw [show sl a = AV.ptr k o from ha] at hsa
        have hload := loadT_ok (P := P) (T := T) (ty := 0) (x := .tmp a) H hsa x (by rw [hx]; rfl)
        obtain ⟨v, w2, q1, hw2, q3⟩ := load_run (f := f) (x := .tmp a) (sl_ptr hsa).2 hload
        rw [hw2] at q1
        refine ⟨v :: vs, ⟨q3, g2⟩, fun tmps htm => ?_⟩
        have ht : tmps.getD a undef = f a := congrFun htm a
        simp only [List.mapM_cons, resSem, Sem.run_bind, Sem.run_pure, Result.andThen_ok, g1 tmps htm, ht, (sl_ptr hsa).2, asAddr, q1]
      · cases h
    · cases h
theorem okAll_T {Z : Nat → Prop} : ∀ {l : List AV} {vs : List Value}, okAll l = true → slotsR ν b Z w l vs → avT ν b Z w (prL l) vs
  | [], [], _, _ => rfl
  | a :: l, v :: vs, h, hs => by
    simp only [okAll, Bool.and_eq_true] at h
    refine ⟨v, vs, rfl, ?_, okAll_T h.2 hs.2⟩
    obtain ⟨k1, k2, k3⟩ := AV.okC_ok h.1
    have := hs.1
    unfold slotR at this
    split at this
    · exact absurd rfl k2
    · exact absurd rfl k3
    · exact (k1 _ rfl).elim
    · exact this
  | [], _ :: _, _, h => h.elim
  | _ :: _, [], _, h => h.elim
theorem oneT_ok {Z : Nat → Prop} {rs : List AV} {vs : List Value} (ho : okAll rs = true) (hs : slotsR ν b Z w rs vs) : slotR ν b Z w (oneT rs) (if h : vs.toArray.size = 1 then vs.toArray[0] else .tuple vs.toArray) := by
  have hl := slotsR_len hs
  unfold oneT
  split
  · rename_i a
    match vs, hs with
    | [v], hs => exact hs.1
  · rename_i hne
    have : ¬ vs.toArray.size = 1 := by
      intro h
      have h2 : rs.length = 1 := by rw [hl]; simpa using h
      obtain ⟨a, ha⟩ := List.length_eq_one_iff.1 h2
      exact hne a ha
    rw [dif_neg this]
    exact ⟨vs, rfl, okAll_T ho hs⟩
theorem fn_sound {g : FuncId} {fn : Func} {c : Code} {S : Summ} (fz kv : Bool) (hf : P.funcs[g]? = some fn) (hbd : fn.body = some c) (ht : TabOK P tab) (hc : CutsOK P fn.ntmps cuts c)
    (hS : ∀ avs L b R, (S avs L b).Wp R → (fnT P tab cuts fz kv fn avs L b).Wp R) : SoundF P g S := by
  intro avs L b R hrun B ν w F vs H hs
  have h := (hS avs L b _ ⟨hrun⟩).h
  unfold fnT at h
  cases hle : Nat.ble avs.length fn.ntmps <;> rw [hle] at h
  · exact h.elim
  rw [hbd] at h
  dsimp only [cond_true] at h
  cases hbc : bndC fn.ntmps c <;> rw [hbc] at h
  · exact h.elim
  rw [cond_true, Tree.runs_bind] at h
  refine calls_C hf hbd rfl (by simpa [slotsR_len hs] using hle) ?_
  have hs1 : SRel B ν b w L F ⟨argsSl avs, L, b⟩ (frame0 vs.toArray) w := ⟨ν, H.stay, fun t => by
    have := argsSl_ok hs t
    simpa [frame0, Array.getD_eq_getD_getElem?] using this⟩
  refine evC_ok ht c _ _ w _ hc hbc (h.mono fun r hr f' w' g1 _ => ?_) hs1
  obtain ⟨e, st⟩ := r
  have fin : (match resA P st fn.results.toList with
      | some rs => match endT P fn.resultTypes.toList fz rs st.L with
        | (rs, L2) => match finT kv (keysOf avs) rs L2 st.b b with
          | some (rs', L', b') => bif okAll rs' then Tree.ret (oneT rs', L', b') else .fail
          | none => .fail
      | none => .fail).Runs R → ∃ v, resOf P fn f' w' v ∧ GivesR B ν b w L F R v w' := by
    intro h2
    split at h2
    · rename_i rs hrs
      generalize hend : endT P fn.resultTypes.toList fz rs st.L = pr at h2
      obtain ⟨rsE, LE⟩ := pr
      dsimp only at h2
      split at h2
      · rename_i rs' L2 b2 hfin
        cases hok : okAll rs' <;> rw [hok] at h2
        · exact h2.elim
        · obtain ⟨ν1, hl1, hsl1⟩ := g1
          obtain ⟨vs, q2, q1⟩ := resA_ok hl1.here hsl1 hrs
          have hE : Left B ν b w L F ν1 st.b w' LE ∧ slotsR ν1 st.b (B.Z (ents ν1 LE ++ F)) w' rsE vs := by
            unfold endT at hend
            cases fz
            · cases hend; exact ⟨hl1, tyL_slots q2⟩
            · simp only [cond_true] at hend
              have := frzK_ok (ks := keysOf rs) hl1 (roNs_slots (tyL_slots (P := P) (ts := fn.resultTypes.toList) q2))
              rw [hend] at this
              exact this
          obtain ⟨ν2, r1, r2⟩ := finT_ok hE.1 hE.2 hfin
          refine ⟨if h : vs.toArray.size = 1 then vs.toArray[0] else .tuple vs.toArray, fun tmps htm => ?_, _, h2, ν2, r1, oneT_ok hok r2⟩
          rw [results_eq, Array.mapM_eq_mapM_toList]
          simp only [Sem.run_bind, Sem.run_map, q1 tmps htm, Result.andThen_ok, Sem.run_pure]
      · exact h2.elim
    · exact h2.elim
  dsimp only at hr
  cases e with
  | nm => exact fin hr
  | rt => exact fin hr
  | go l => exact hr.elim
  | ex i => exact hr.elim
end
end Hyp
set_option linter.unusedVariables false
set_option linter.unusedSimpArgs false
namespace Hyp
open Go
inductive Lf
  | d (t : Ty) (x : t.den)
  | n (k : Nat)
  | c (b : Bool)
def sameA : AV → AV → Option (List Lf)
  | .any, .any | .und, .und | .tt, .tt | .ff, .ff | .un, .un | .nil, .nil | .mnil, .mnil | .fnil, .fnil => some []
  | .snil e, .snil e' => bif decide (e = e') then some [] else none
  | .val t _, .val t' x => bif decide (t = t') then some [.d t' x] else none
  | .agg a, .agg a' => sameA a a'
  | .tup a, .tup a' => sameA a a'
  | .pr a c, .pr a' c' => (sameA a a').bind fun l => (sameA c c').map fun m => l ++ m
  | .ptr k o, .ptr k' o' => bif Nat.beq k k' && Nat.beq o o' then some [] else none
  | .pel k o e N _ eo, .pel k' o' e' N' i eo' => bif Nat.beq k k' && (Nat.beq o o' && (decide (e = e') && (Nat.beq N N' && Nat.beq eo eo'))) then some [.n i] else none
  | .rowp k e _ eo, .rowp k' e' i eo' => bif Nat.beq k k' && (decide (e = e') && Nat.beq eo eo') then some [.n i] else none
  | .whole k s, .whole k' s' => bif Nat.beq k k' && Nat.beq s s' then some [] else none
  | .win k s _ _, .win k' s' lo n => bif Nat.beq k k' && Nat.beq s s' then some [.n lo, .n n] else none
  | .bwin k o e N _ _, .bwin k' o' e' N' lo n => bif Nat.beq k k' && (Nat.beq o o' && (decide (e = e') && Nat.beq N N')) then some [.n lo, .n n] else none
  | .ro _ e _, .ro c e' xs => bif decide (e = e') then some [.c c, .d (.list e') xs] else none
  | .mpv k, .mpv k' => bif Nat.beq k k' then some [] else none
  | .clo g a, .clo g' a' => bif Nat.beq g g' then sameA a a' else none
  | _, _ => none
def fillA : AV → List Lf → Option (AV × List Lf)
  | .val _ _, .d t x :: l => some (.val t x, l)
  | .agg a, l => (fillA a l).map fun p => (.agg p.1, p.2)
  | .tup a, l => (fillA a l).map fun p => (.tup p.1, p.2)
  | .pr a c, l => (fillA a l).bind fun p => (fillA c p.2).map fun q => (.pr p.1 q.1, q.2)
  | .pel k o e N _ eo, .n i :: l => some (.pel k o e N i eo, l)
  | .rowp k e _ eo, .n i :: l => some (.rowp k e i eo, l)
  | .win k s _ _, .n lo :: .n n :: l => some (.win k s lo n, l)
  | .bwin k o e N _ _, .n lo :: .n n :: l => some (.bwin k o e N lo n, l)
  | .ro _ _ _, .c c :: .d (.list e) xs :: l => some (.ro c e xs, l)
  | .clo g a, l => (fillA a l).map fun p => (.clo g p.1, p.2)
  | a, l => some (a, l)
theorem bifS {α : Type} {c : Bool} {x : α} {r : α} (h : (bif c then some x else none) = some r) : c = true ∧ x = r := bifT h
theorem sameA_ok : ∀ {p a : AV} {l : List Lf}, sameA p a = some l → ∀ m, fillA p (l ++ m) = some (a, m) := by
  intro p
  induction p with
  | agg p ih =>
    intro a l h m
    cases a <;> simp only [sameA, reduceCtorEq] at h
    rw [fillA, ih h m]; rfl
  | tup p ih =>
    intro a l h m
    cases a <;> simp only [sameA, reduceCtorEq] at h
    rw [fillA, ih h m]; rfl
  | pr p q ihp ihq =>
    intro a l h m
    cases a <;> simp only [sameA, reduceCtorEq] at h
    obtain ⟨l1, h1, h2⟩ := bindE h
    simp only [Option.map_eq_some_iff] at h2
    obtain ⟨l2, h2, rfl⟩ := h2
    rw [fillA, List.append_assoc, ihp h1, Option.bind_some, ihq h2]; rfl
  | val t x =>
    intro a l h m
    cases a <;> simp only [sameA, reduceCtorEq] at h
    obtain ⟨h1, rfl⟩ := bifS h
    rfl
  | snil e =>
    intro a l h m
    cases a <;> simp only [sameA, reduceCtorEq] at h
    rename_i e'
    obtain ⟨h1, rfl⟩ := bifS h
    have : e = e' := by simpa using h1
    subst this
    rfl
  | ptr k o =>
    intro a l h m
    cases a <;> simp only [sameA, reduceCtorEq] at h
    obtain ⟨h1, rfl⟩ := bifS h
    simp only [Bool.and_eq_true] at h1
    obtain rfl := Nat.eq_of_beq_eq_true h1.1
    obtain rfl := Nat.eq_of_beq_eq_true h1.2
    rfl
  | pel k o e N i eo =>
    intro a l h m
    cases a <;> simp only [sameA, reduceCtorEq] at h
    obtain ⟨h1, rfl⟩ := bifS h
    simp only [Bool.and_eq_true, decide_eq_true_eq] at h1
    obtain ⟨q1, q2, q3, q4, q5⟩ := h1
    obtain rfl := Nat.eq_of_beq_eq_true q1
    obtain rfl := Nat.eq_of_beq_eq_true q2
    subst q3
    obtain rfl := Nat.eq_of_beq_eq_true q4
    obtain rfl := Nat.eq_of_beq_eq_true q5
    rfl
  | rowp k e i eo =>
    intro a l h m
    cases a <;> simp only [sameA, reduceCtorEq] at h
    obtain ⟨h1, rfl⟩ := bifS h
    simp only [Bool.and_eq_true, decide_eq_true_eq] at h1
    obtain ⟨q1, q2, q3⟩ := h1
    obtain rfl := Nat.eq_of_beq_eq_true q1
    subst q2
    obtain rfl := Nat.eq_of_beq_eq_true q3
    rfl
  | whole k s =>
    intro a l h m
    cases a <;> simp only [sameA, reduceCtorEq] at h
    obtain ⟨h1, rfl⟩ := bifS h
    simp only [Bool.and_eq_true] at h1
    obtain rfl := Nat.eq_of_beq_eq_true h1.1
    obtain rfl := Nat.eq_of_beq_eq_true h1.2
    rfl
  | win k s lo n =>
    intro a l h m
    cases a <;> simp only [sameA, reduceCtorEq] at h
    obtain ⟨h1, rfl⟩ := bifS h
    simp only [Bool.and_eq_true] at h1
    obtain rfl := Nat.eq_of_beq_eq_true h1.1
    obtain rfl := Nat.eq_of_beq_eq_true h1.2
    rfl
  | bwin k o e N lo n =>
    intro a l h m
    cases a <;> simp only [sameA, reduceCtorEq] at h
    obtain ⟨h1, rfl⟩ := bifS h
    simp only [Bool.and_eq_true, decide_eq_true_eq] at h1
    obtain ⟨q1, q2, q3, q4⟩ := h1
    obtain rfl := Nat.eq_of_beq_eq_true q1
    obtain rfl := Nat.eq_of_beq_eq_true q2
    subst q3
    obtain rfl := Nat.eq_of_beq_eq_true q4
    rfl
  | ro c e xs =>
    intro a l h m
    cases a <;> simp only [sameA, reduceCtorEq] at h
    rename_i c' e' xs'
    obtain ⟨h1, rfl⟩ := bifS h
    have : e = e' := by simpa using h1
    subst this
    rfl
  | rop e xs i y eo =>
    intro a l h m
    cases a <;> simp only [sameA, reduceCtorEq] at h
  | mpv k =>
    intro a l h m
    cases a <;> simp only [sameA, reduceCtorEq] at h
    obtain ⟨h1, rfl⟩ := bifS h
    obtain rfl := Nat.eq_of_beq_eq_true h1
    rfl
  | clo g p ih =>
    intro a l h m
    cases a <;> simp only [sameA, reduceCtorEq] at h
    rename_i g' a'
    cases hb : Nat.beq g g' <;> rw [hb] at h
    · cases h
    · obtain rfl := Nat.eq_of_beq_eq_true hb
      rw [fillA, ih h]; rfl
  | _ =>
    intro a l h m
    cases a <;> simp only [sameA, reduceCtorEq, Option.some.injEq] at h <;> subst h <;> rfl
def sameAs : List AV → List AV → Option (List Lf)
  | [], [] => some []
  | p :: ps, a :: l => (sameA p a).bind fun x => (sameAs ps l).map fun y => x ++ y
  | _, _ => none
def fillAs : List AV → List Lf → Option (List AV × List Lf)
  | [], l => some ([], l)
  | p :: ps, l => (fillA p l).bind fun x => (fillAs ps x.2).map fun y => (x.1 :: y.1, y.2)
theorem sameAs_ok : ∀ {p a : List AV} {l : List Lf}, sameAs p a = some l → ∀ m, fillAs p (l ++ m) = some (a, m)
  | [], [], l, h, m => by cases h; rfl
  | p :: ps, a :: as_, l, h, m => by
    unfold sameAs at h
    obtain ⟨l1, h1, h2⟩ := bindE h
    simp only [Option.map_eq_some_iff] at h2
    obtain ⟨l2, h2, rfl⟩ := h2
    rw [fillAs, List.append_assoc, sameA_ok h1, Option.bind_some, sameAs_ok h2]; rfl
  | [], _ :: _, l, h, m => by cases h
  | _ :: _, [], l, h, m => by cases h
def sameE : En → En → Option (List Lf)
  | ⟨k, v, .box p⟩, ⟨k', v', .box a⟩ => bif Nat.beq k k' && Nat.beq v v' then sameA p a else none
  | ⟨k, v, .row e _⟩, ⟨k', v', .row e' xs⟩ => bif Nat.beq k k' && (Nat.beq v v' && decide (e = e')) then some [.d (.list e') xs] else none
  | ⟨k, v, .mp kt vt _⟩, ⟨k', v', .mp kt' vt' xs⟩ => bif Nat.beq k k' && (Nat.beq v v' && (decide (kt = kt') && decide (vt = vt'))) then some [.d (.list (.rcd (.pair kt' vt'))) xs] else none
  | ⟨k, v, .it mk mv kt vt _⟩, ⟨k', v', .it mk' mv' kt' vt' xs⟩ => bif Nat.beq k k' && (Nat.beq v v' && (Nat.beq mk mk' && (Nat.beq mv mv' && (decide (kt = kt') && decide (vt = vt'))))) then some [.d (.list (.rcd (.pair kt' vt'))) xs] else none
  | _, _ => none
def fillE : En → List Lf → Option (En × List Lf)
  | ⟨k, v, .box p⟩, l => (fillA p l).map fun x => (⟨k, v, .box x.1⟩, x.2)
  | ⟨k, v, .row _ _⟩, .d (.list e) xs :: l => some (⟨k, v, .row e xs⟩, l)
  | ⟨k, v, .mp _ _ _⟩, .d (.list (.rcd (.pair kt vt))) xs :: l => some (⟨k, v, .mp kt vt xs⟩, l)
  | ⟨k, v, .it mk mv _ _ _⟩, .d (.list (.rcd (.pair kt vt))) xs :: l => some (⟨k, v, .it mk mv kt vt xs⟩, l)
  | _, _ => none
theorem sameE_ok {p a : En} {l : List Lf} (h : sameE p a = some l) (m : List Lf) : fillE p (l ++ m) = some (a, m) := by
  obtain ⟨k, v, c⟩ := p
  obtain ⟨k', v', c'⟩ := a
  cases c <;> cases c' <;> simp only [sameE, reduceCtorEq] at h
  · cases hb : (Nat.beq k k' && Nat.beq v v') <;> rw [hb] at h
    · cases h
    · simp only [Bool.and_eq_true] at hb
      obtain rfl := Nat.eq_of_beq_eq_true hb.1
      obtain rfl := Nat.eq_of_beq_eq_true hb.2
      rw [fillE, sameA_ok h]; rfl
  · obtain ⟨h1, rfl⟩ := bifS h
    simp only [Bool.and_eq_true, decide_eq_true_eq] at h1
    obtain ⟨q1, q2, q3⟩ := h1
    obtain rfl := Nat.eq_of_beq_eq_true q1
    obtain rfl := Nat.eq_of_beq_eq_true q2
    subst q3
    rfl
  · obtain ⟨h1, rfl⟩ := bifS h
    simp only [Bool.and_eq_true, decide_eq_true_eq] at h1
    obtain ⟨q1, q2, q3, q4⟩ := h1
    obtain rfl := Nat.eq_of_beq_eq_true q1
    obtain rfl := Nat.eq_of_beq_eq_true q2
    subst q3; subst q4
    rfl
  · obtain ⟨h1, rfl⟩ := bifS h
    simp only [Bool.and_eq_true, decide_eq_true_eq] at h1
    obtain ⟨q1, q2, q3, q4, q5, q6⟩ := h1
    obtain rfl := Nat.eq_of_beq_eq_true q1
    obtain rfl := Nat.eq_of_beq_eq_true q2
    obtain rfl := Nat.eq_of_beq_eq_true q3
    obtain rfl := Nat.eq_of_beq_eq_true q4
    subst q5; subst q6
    rfl
def sameL : List En → List En → Option (List Lf)
  | [], [] => some []
  | p :: ps, a :: l => (sameE p a).bind fun x => (sameL ps l).map fun y => x ++ y
  | _, _ => none
def fillL' : List En → List Lf → Option (List En × List Lf)
  | [], l => some ([], l)
  | p :: ps, l => (fillE p l).bind fun x => (fillL' ps x.2).map fun y => (x.1 :: y.1, y.2)
theorem sameL_ok : ∀ {p a : List En} {l : List Lf}, sameL p a = some l → ∀ m, fillL' p (l ++ m) = some (a, m)
  | [], [], l, h, m => by cases h; rfl
  | p :: ps, a :: as_, l, h, m => by
    unfold sameL at h
    obtain ⟨l1, h1, h2⟩ := bindE h
    simp only [Option.map_eq_some_iff] at h2
    obtain ⟨l2, h2, rfl⟩ := h2
    rw [fillL', List.append_assoc, sameE_ok h1, Option.bind_some, sameL_ok h2]; rfl
  | [], _ :: _, l, h, m => by cases h
  | _ :: _, [], l, h, m => by cases h
structure Sk where
  a : List AV
  L : List En
  b : Nat
def sameS (s : Sk) (avs : List AV) (L : List En) (b : Nat) : Option (List Lf) := bif Nat.beq s.b b then (sameAs s.a avs).bind fun l => (sameL s.L L).map fun m => l ++ m else none
def fillS (s : Sk) (l : List Lf) : List AV × List En := match fillAs s.a l with
  | some (avs, l) => match fillL' s.L l with
    | some (L, _) => (avs, L)
    | none => ([], [])
  | none => ([], [])
theorem sameS_ok {s : Sk} {avs : List AV} {L : List En} {b : Nat} {l : List Lf} (h : sameS s avs L b = some l) : b = s.b ∧ avs = (fillS s l).1 ∧ L = (fillS s l).2 := by
  unfold sameS at h
  cases hb : Nat.beq s.b b <;> rw [hb] at h
  · cases h
  · obtain ⟨l1, h1, h2⟩ := bindE h
    simp only [Option.map_eq_some_iff] at h2
    obtain ⟨l2, h2, rfl⟩ := h2
    have e1 := sameAs_ok h1 l2
    have e2 := sameL_ok h2 []
    rw [List.append_nil] at e2
    have : fillS s (l1 ++ l2) = (avs, L) := by unfold fillS; rw [e1]; dsimp only; rw [e2]
    rw [this]
    exact ⟨(Nat.eq_of_beq_eq_true hb).symm, rfl, rfl⟩
def lfD {α : Type} (t : Ty) (l : List Lf) (k : t.den → List Lf → Tree α) : Tree α := match l with
  | .d t' x :: l => match castTy t t' x with
    | some y => k y l
    | none => .fail
  | _ => .fail
def lfN {α : Type} (l : List Lf) (k : Nat → List Lf → Tree α) : Tree α := match l with
  | .n x :: l => k x l
  | _ => .fail
def lfC {α : Type} (l : List Lf) (k : Bool → List Lf → Tree α) : Tree α := match l with
  | .c x :: l => k x l
  | _ => .fail
def lfE {α : Type} (l : List Lf) (t : Tree α) : Tree α := match l with
  | [] => t
  | _ => .fail
def bySk {α : Type} (s : Sk) (avs : List AV) (L : List En) (b : Nat) (k : List Lf → Tree α) (other : Tree α) : Tree α := match sameS s avs L b with
  | some l => k l
  | none => other
end Hyp
set_option linter.unusedVariables false
set_option linter.unusedSimpArgs false
namespace Hyp
open Go
def dfl : (t : Ty) → t.den
  | .sint _ => (0 : Int) | .u8 => (0 : UInt8) | .u16 => (0 : UInt16) | .u32 => (0 : UInt32) | .u64 => (0 : UInt64)
  | .bool => false | .str => [] | .unit => () | .arr _ _ => [] | .pair a b => (dfl a, dfl b) | .rcd t => dfl t | .list _ => []
def mkTab : List (Nat × CallE) → Tab
  | [], _ => none
  | (g, e) :: l, h => bif Nat.beq h g then some e else mkTab l h
theorem TabOK.nil {P : Program} : TabOK P (mkTab []) := fun _ _ h => by cases h
theorem TabOK.consE {P : Program} {g : Nat} {e : CallE} {l : List (Nat × CallE)} (h : CallOK P g e.S) (hl : TabOK P (mkTab l)) : TabOK P (mkTab ((g, e) :: l)) := by
  intro g' e' he
  unfold mkTab at he
  cases hb : Nat.beq g' g <;> rw [hb] at he
  · exact hl g' e' he
  · cases he
    obtain rfl := Nat.eq_of_beq_eq_true hb
    exact h
theorem TabOK.cons {P : Program} {g : Nat} {e : CallE} {l : List (Nat × CallE)} (h : SoundF P g e.S) (hf : ∃ fn, P.funcs[g]? = some fn ∧ callable fn = true) (hl : TabOK P (mkTab l)) : TabOK P (mkTab ((g, e) :: l)) :=
  let ⟨_, h2, h3⟩ := hf
  .consE (h.callOK h2 h3) hl
def orT {α : Type} : Tree α → Tree α → Tree α
  | .fail, t => t
  | t, _ => t
theorem orT_ok {α : Type} {t u : Tree α} {R : α → Prop} (h : (orT t u).Runs R) : t.Runs R ∨ u.Runs R := by
  cases t <;> first | exact .inl h | exact .inr h
def orS (S T : Summ) : Summ := fun avs L b => orT (S avs L b) (T avs L b)
theorem SoundF.or {P : Program} {g : Nat} {S T : Summ} (hS : SoundF P g S) (hT : SoundF P g T) : SoundF P g (orS S T) := by
  intro avs L b R h
  rcases orT_ok h with h | h
  · exact hS _ _ _ _ h
  · exact hT _ _ _ _ h
def orC (S T : CutF) : CutF := fun avs L b => orT (S avs L b) (T avs L b)
def orCL (a : CutF) : List CutF → CutF
  | [] => a
  | c :: l => orC a (orCL c l)
theorem orCL_mem : ∀ {l : List CutF} {a : CutF} (avs : List AV) (L : List En) (b : Nat) (R : Ex × List AV × List En × Nat → Prop), (orCL a l avs L b).Wp R → ∃ κ ∈ a :: l, (κ avs L b).Wp R
  | [], a, _, _, _, _, h => ⟨a, .head _, h⟩
  | c :: l, a, avs, L, b, R, h => by
    rcases orT_ok h.h with h | h
    · exact ⟨a, .head _, ⟨h⟩⟩
    · obtain ⟨κ, q1, q2⟩ := orCL_mem avs L b R ⟨h⟩
      exact ⟨κ, .tail _ q1, q2⟩
def mkCuts : List (Nat × Cut) → Nat → Option Cut
  | [], _ => none
  | (g, e) :: l, h => bif Nat.beq h g then some e else mkCuts l h
inductive Lp
  | lp (body : Code)
  | jp (l : Nat) (rest : Code)
def Lp.X (P : Program) (n : Nat) : Lp → Post → Fr → World → Prop
  | .lp body => C P n (.loop body)
  | .jp l rest => JX P n l rest
def Lp.ws : Lp → List Nat
  | .lp body => wr body
  | .jp _ rest => wr rest
def loopsOf : Code → List (Nat × Lp)
  | .seq a c | .cond _ a c => loopsOf a ++ loopsOf c
  | .block id c => match c with
    | .loop body => [(id, .lp body)]
    | c => loopsOf c
  | .scope c => loopsOf c ++ (match labelOf c with
    | some l => match findLabel c l with
      | some rest => [(labKey l, .jp l rest)]
      | none => []
    | none => [])
  | _ => []
theorem CutsOK.of {P : Program} {n : Nat} {cuts : Nat → Option Cut} : ∀ {c : Code}, (∀ p ∈ loopsOf c, ∀ k, cuts p.1 = some k → SoundX (p.2.X P n) p.2.ws k) → CutsOK P n cuts c
  | .seq a c, h => ⟨CutsOK.of fun p hp => h p (List.mem_append_left _ hp), CutsOK.of fun p hp => h p (List.mem_append_right _ hp)⟩
  | .cond _ a c, h => ⟨CutsOK.of fun p hp => h p (List.mem_append_left _ hp), CutsOK.of fun p hp => h p (List.mem_append_right _ hp)⟩
  | .block id c, h => by
    by_cases hl : ∃ body, c = .loop body
    · obtain ⟨body, rfl⟩ := hl
      exact h (id, .lp body) (by simp [loopsOf])
    · have hne : ∀ body, c ≠ .loop body := fun body he => hl ⟨body, he⟩
      have h2 : loopsOf (.block id c) = loopsOf c := by
        cases c <;> first | rfl | exact absurd rfl (hne _)
      have := CutsOK.of (P := P) (n := n) (cuts := cuts) (c := c) fun p hp => h p (by rw [h2]; exact hp)
      cases c <;> first | exact this | exact absurd rfl (hne _)
  | .scope c, h => ⟨CutsOK.of fun p hp => h p (List.mem_append_left _ hp), fun l rest hl hr k hk => h (labKey l, .jp l rest) (List.mem_append_right _ (by rw [hl]; dsimp only; rw [hr]; exact .head _)) k hk⟩
  | .skip, _ | .exit _, _ | .ret, _ | .region _ _ _, _ | .loop _, _ | .rangeFunc _ _ _ _, _ | .label _, _ | .goto _, _ | .refuse _, _ => trivial
def loopIn : Nat → Code → Option Code
  | i, .seq a c | i, .cond _ a c => (loopIn i a).orElse fun _ => loopIn i c
  | i, .block id c => match c with
    | .loop body => bif Nat.beq i id then some body else loopIn i body
    | c => loopIn i c
  | i, .scope c => loopIn i c
  | _, _ => none
def labelIn : Nat → Code → Option Code
  | i, .seq a c | i, .cond _ a c => (labelIn i a).orElse fun _ => labelIn i c
  | i, .block _ c | i, .loop c => labelIn i c
  | i, .scope c => (findLabel c i).orElse fun _ => labelIn i c
  | _, _ => none
def bodyOf (fn : Func) (i : Nat) : Code := match fn.body with
  | some c => (loopIn i c).getD .skip
  | none => .skip
def restOf (fn : Func) (l : Nat) : Code := match fn.body with
  | some c => (labelIn l c).getD .skip
  | none => .skip
def codeOf (fn : Func) : Code := fn.body.getD .skip
theorem CutsOK.list {P : Program} {n : Nat} {cuts : Nat → Option Cut} {c : Code} {l : List (Nat × Lp)} (e : loopsOf c = l) (h : ∀ p ∈ l, ∀ k, cuts p.1 = some k → SoundX (p.2.X P n) p.2.ws k) : CutsOK P n cuts c := .of (by rw [e]; exact h)
def LoopsOK (P : Program) (n : Nat) (cuts : Nat → Option Cut) : List (Nat × Lp) → Prop
  | [] => True
  | (i, body) :: l => (cuts i = none ∨ ∃ k, cuts i = some k ∧ SoundX (body.X P n) body.ws k) ∧ LoopsOK P n cuts l
theorem LoopsOK.all {P : Program} {n : Nat} {cuts : Nat → Option Cut} : ∀ {l : List (Nat × Lp)}, LoopsOK P n cuts l → ∀ p ∈ l, ∀ k, cuts p.1 = some k → SoundX (p.2.X P n) p.2.ws k
  | [], _, _, h, _, _ => by cases h
  | (i, body) :: l, ⟨h1, h2⟩, p, hp, k, hk => by
    rcases List.mem_cons.1 hp with rfl | hp
    · rcases h1 with h1 | ⟨k0, h0, h1⟩
      · rw [h1] at hk; cases hk
      · rw [h0] at hk; cases hk; exact h1
    · exact LoopsOK.all h2 p hp k hk
theorem SoundX.or {X : Post → Fr → World → Prop} {ws : List Nat} {ins : List Nat} {outs : Ex → List Nat} {S T : CutF} (hS : SoundX X ws ⟨ins, outs, S⟩) (hT : SoundX X ws ⟨ins, outs, T⟩) : SoundX X ws ⟨ins, outs, orC S T⟩ := by
  intro avs L b B ν w F f Q h
  rcases orT_ok h with h | h
  · exact hS _ _ _ _ _ _ _ _ _ h
  · exact hT _ _ _ _ _ _ _ _ _ h
inductive LfK
  | d (t : Ty)
  | n
  | c
@[reducible] def LfK.den : LfK → Type
  | .d t => t.den
  | .n => Nat
  | .c => Bool
@[reducible] def Tup : List LfK → Type
  | [] => Unit
  | k :: l => k.den × Tup l
def getLf : (ts : List LfK) → List Lf → Option (Tup ts)
  | [], [] => some ()
  | .d t :: ts, .d t' x :: l => match castTy t t' x, getLf ts l with
    | some y, some r => some (y, r)
    | _, _ => none
  | .n :: ts, .n x :: l => match getLf ts l with
    | some r => some (x, r)
    | none => none
  | .c :: ts, .c x :: l => match getLf ts l with
    | some r => some (x, r)
    | none => none
  | _, _ => none
def putLf : (ts : List LfK) → Tup ts → List Lf
  | [], _ => []
  | .d t :: ts, v => .d t v.1 :: putLf ts v.2
  | .n :: ts, v => .n v.1 :: putLf ts v.2
  | .c :: ts, v => .c v.1 :: putLf ts v.2
theorem getLf_ok : ∀ {ts : List LfK} {l : List Lf} {v : Tup ts}, getLf ts l = some v → l = putLf ts v
  | [], [], v, _ => rfl
  | .d t :: ts, .d t' x :: l, v, h => by
    unfold getLf at h
    split at h
    · rename_i y r hy hr
      obtain ⟨rfl, rfl⟩ := castTy_ok hy
      cases h
      rw [getLf_ok hr]
      rfl
    · cases h
  | .n :: ts, .n x :: l, v, h => by
    unfold getLf at h
    split at h
    · rename_i r hr
      cases h
      rw [getLf_ok hr]
      rfl
    · cases h
  | .c :: ts, .c x :: l, v, h => by
    unfold getLf at h
    split at h
    · rename_i r hr
      cases h
      rw [getLf_ok hr]
      rfl
    · cases h
  | [], _ :: _, _, h | .d _ :: _, [], _, h | .d _ :: _, .n _ :: _, _, h | .d _ :: _, .c _ :: _, _, h | .n :: _, [], _, h | .n :: _, .d _ _ :: _, _, h | .n :: _, .c _ :: _, _, h | .c :: _, [], _, h | .c :: _, .d _ _ :: _, _, h | .c :: _, .n _ :: _, _, h => by simp [getLf] at h
def mkS {α : Type} (s : Sk) (ts : List LfK) (k : Tup ts → Tree α) (avs : List AV) (L : List En) (b : Nat) : Tree α := match sameS s avs L b with
  | some l => match getLf ts l with
    | some v => k v
    | none => .fail
  | none => .fail
theorem mkS_ok {α : Type} {s : Sk} {ts : List LfK} {k : Tup ts → Tree α} {avs : List AV} {L : List En} {b : Nat} {R : α → Prop} (h : (mkS s ts k avs L b).Wp R) :
    ∃ v, b = s.b ∧ avs = (fillS s (putLf ts v)).1 ∧ L = (fillS s (putLf ts v)).2 ∧ (k v).Wp R := by
  replace h := h.h
  unfold mkS at h
  split at h
  · rename_i l hl
    split at h
    · rename_i v hv
      obtain ⟨h1, h2, h3⟩ := sameS_ok hl
      rw [getLf_ok hv] at h2 h3
      exact ⟨v, h1, h2, h3, ⟨h⟩⟩
    · exact h.elim
  · exact h.elim
def Tree.unalt {α : Type} : Tree α → Tree α
  | .alt s k l => match s with
    | .inl y => (k y).unalt
    | .inr y => (l y).unalt
  | t => t
theorem runs_unalt {α : Type} {R : α → Prop} (t : Tree α) : t.Runs R → t.unalt.Runs R := by
  induction t with
  | alt s k l hk hl =>
    intro h
    cases s with
    | inl y => exact hk y h
    | inr y => exact hl y h
  | _ => exact fun h => h
theorem run_un {α β : Type} {t : Tree β} {p : β → Tree α} {u : Tree α} {R : α → Prop} (h : (Tree.sub t p).Wp R) (e : u = t.bind fun y => (p y).unalt) : u.Wp R := by
  refine ⟨?_⟩
  rw [e, Tree.runs_bind]
  exact Tree.Runs.mono (t := t) h.h fun y hy => runs_unalt _ hy
section
variable {P : Program} {g : FuncId} {fn : Func} {c : Code} {tab : Tab} {cuts : Nat → Option Cut} {β : Type} {s : Sk} {ts : List LfK}
theorem fn_go (fz kv : Bool) {t : Tup ts → Tree β} {p : Tup ts → β → Tree MR} (hf : P.funcs[g]? = some fn) (hbd : fn.body = some c) (ht : TabOK P tab) (hc : CutsOK P fn.ntmps cuts c)
    (h : ∀ v, fnT P tab cuts fz kv fn (fillS s (putLf ts v)).1 (fillS s (putLf ts v)).2 s.b = (t v).bind fun y => (p v y).unalt) : SoundF P g (mkS s ts fun v => .sub (t v) (p v)) :=
  fn_sound fz kv hf hbd ht hc fun avs L b R hr => by
    obtain ⟨v, rfl, rfl, rfl, q⟩ := mkS_ok hr
    exact run_un q (h v)
theorem z_go {α : Type} {t : Tup ts → Tree β} {p : Tup ts → β → Tree α} (h : ∀ v, t v = .fail) (avs : List AV) (L : List En) (b : Nat) (R : α → Prop) (hr : (mkS s ts (fun v => .sub (t v) (p v)) avs L b).Wp R) : False := by
  obtain ⟨v, _, _, _, q⟩ := mkS_ok hr
  rw [h v] at q
  exact q.h
theorem rounds_go {n : Nat} {body : Code} {mk : CutF → Cut} {K : List CutF} {t : Tup ts → Tree β} {p : Tup ts → β → Tree (Ex × List AV × List En × Nat)} (κ : CutF) (l : List CutF) (ht : TabOK P tab) (hc : CutsOK P n cuts body) (hK : κ :: l = K)
    (h : ∀ v, roundT P tab cuts body (mk (orCL κ l)) (fillS s (putLf ts v)).1 (fillS s (putLf ts v)).2 s.b = (t v).bind fun y => (p v y).unalt) : Rounds P n body mk K (mkS s ts fun v => .sub (t v) (p v)) := by
  intro avs L b R hr
  obtain ⟨v, rfl, rfl, rfl, q⟩ := mkS_ok hr
  subst hK
  exact ⟨tab, cuts, orCL κ l, ht, hc, orCL_mem, run_un q (h v)⟩
theorem roundsJ_go {n j : Nat} {body : Code} {mk : CutF → Cut} {K : List CutF} {t : Tup ts → Tree β} {p : Tup ts → β → Tree (Ex × List AV × List En × Nat)} (κ : CutF) (l : List CutF) (ht : TabOK P tab) (hc : CutsOK P n cuts body) (hK : κ :: l = K)
    (h : ∀ v, roundJ P tab cuts j body (mk (orCL κ l)) (fillS s (putLf ts v)).1 (fillS s (putLf ts v)).2 s.b = (t v).bind fun y => (p v y).unalt) : RoundsJ P n j body mk K (mkS s ts fun v => .sub (t v) (p v)) := by
  intro avs L b R hr
  obtain ⟨v, rfl, rfl, rfl, q⟩ := mkS_ok hr
  subst hK
  exact ⟨tab, cuts, orCL κ l, ht, hc, orCL_mem, run_un q (h v)⟩
def AllF {α : Type 1} (q : α → Prop) : List α → Prop
  | [] => True
  | a :: l => q a ∧ AllF q l
theorem AllF.mem {α : Type 1} {q : α → Prop} : ∀ {l : List α}, AllF q l → ∀ a ∈ l, q a
  | [], _, _, h => by cases h
  | a :: l, ⟨h1, h2⟩, b, hb => by
    rcases List.mem_cons.1 hb with rfl | hb
    · exact h1
    · exact AllF.mem h2 b hb
theorem loop_go {n : Nat} {body : Code} {ins : List Nat} {outs : Ex → List Nat} {mk : CutF → Cut} {K : Nat → List CutF} (hmk : ∀ κ, mk κ = ⟨ins, outs, κ⟩) (hb : bndC n body = true) (h0 : AllF (fun κ => ∀ avs L b R, (κ avs L b).Wp R → False) (K 0))
    (hs : ∀ k, AllF (Rounds P n body mk (K k)) (K (k + 1))) (k : Nat) {κ : CutF} {l : List CutF} (hK : κ :: l = K k) : SoundC P n (.loop body) (wr body) (mk κ) :=
  loop_rounds hmk hb h0.mem (fun k => (hs k).mem) k κ (by rw [← hK]; exact .head _)
theorem jump_go {n j : Nat} {body : Code} {ins : List Nat} {outs : Ex → List Nat} {mk : CutF → Cut} {K : Nat → List CutF} (hmk : ∀ κ, mk κ = ⟨ins, outs, κ⟩) (hb : bndC n body = true) (h0 : AllF (fun κ => ∀ avs L b R, (κ avs L b).Wp R → False) (K 0))
    (hs : ∀ k, AllF (RoundsJ P n j body mk (K k)) (K (k + 1))) (k : Nat) {κ : CutF} {l : List CutF} (hK : κ :: l = K k) : SoundX (JX P n j body) (wr body) (mk κ) :=
  jump_rounds hmk hb h0.mem (fun k => (hs k).mem) k κ (by rw [← hK]; exact .head _)
end
def p0 {a0 : LfK} {l : List LfK} (v : Tup (a0 :: l)) : a0.den := v.1
def p1 {a0 a1 : LfK} {l : List LfK} (v : Tup (a0 :: a1 :: l)) : a1.den := v.2.1
def p2 {a0 a1 a2 : LfK} {l : List LfK} (v : Tup (a0 :: a1 :: a2 :: l)) : a2.den := v.2.2.1
def p3 {a0 a1 a2 a3 : LfK} {l : List LfK} (v : Tup (a0 :: a1 :: a2 :: a3 :: l)) : a3.den := v.2.2.2.1
def p4 {a0 a1 a2 a3 a4 : LfK} {l : List LfK} (v : Tup (a0 :: a1 :: a2 :: a3 :: a4 :: l)) : a4.den := v.2.2.2.2.1
def p5 {a0 a1 a2 a3 a4 a5 : LfK} {l : List LfK} (v : Tup (a0 :: a1 :: a2 :: a3 :: a4 :: a5 :: l)) : a5.den := v.2.2.2.2.2.1
def p6 {a0 a1 a2 a3 a4 a5 a6 : LfK} {l : List LfK} (v : Tup (a0 :: a1 :: a2 :: a3 :: a4 :: a5 :: a6 :: l)) : a6.den := v.2.2.2.2.2.2.1
def p7 {a0 a1 a2 a3 a4 a5 a6 a7 : LfK} {l : List LfK} (v : Tup (a0 :: a1 :: a2 :: a3 :: a4 :: a5 :: a6 :: a7 :: l)) : a7.den := v.2.2.2.2.2.2.2.1
def p8 {a0 a1 a2 a3 a4 a5 a6 a7 a8 : LfK} {l : List LfK} (v : Tup (a0 :: a1 :: a2 :: a3 :: a4 :: a5 :: a6 :: a7 :: a8 :: l)) : a8.den := v.2.2.2.2.2.2.2.2.1
def p9 {a0 a1 a2 a3 a4 a5 a6 a7 a8 a9 : LfK} {l : List LfK} (v : Tup (a0 :: a1 :: a2 :: a3 :: a4 :: a5 :: a6 :: a7 :: a8 :: a9 :: l)) : a9.den := v.2.2.2.2.2.2.2.2.2.1
def p10 {a0 a1 a2 a3 a4 a5 a6 a7 a8 a9 a10 : LfK} {l : List LfK} (v : Tup (a0 :: a1 :: a2 :: a3 :: a4 :: a5 :: a6 :: a7 :: a8 :: a9 :: a10 :: l)) : a10.den := v.2.2.2.2.2.2.2.2.2.2.1
def p11 {a0 a1 a2 a3 a4 a5 a6 a7 a8 a9 a10 a11 : LfK} {l : List LfK} (v : Tup (a0 :: a1 :: a2 :: a3 :: a4 :: a5 :: a6 :: a7 :: a8 :: a9 :: a10 :: a11 :: l)) : a11.den := v.2.2.2.2.2.2.2.2.2.2.2.1
def p12 {a0 a1 a2 a3 a4 a5 a6 a7 a8 a9 a10 a11 a12 : LfK} {l : List LfK} (v : Tup (a0 :: a1 :: a2 :: a3 :: a4 :: a5 :: a6 :: a7 :: a8 :: a9 :: a10 :: a11 :: a12 :: l)) : a12.den := v.2.2.2.2.2.2.2.2.2.2.2.2.1
def p13 {a0 a1 a2 a3 a4 a5 a6 a7 a8 a9 a10 a11 a12 a13 : LfK} {l : List LfK} (v : Tup (a0 :: a1 :: a2 :: a3 :: a4 :: a5 :: a6 :: a7 :: a8 :: a9 :: a10 :: a11 :: a12 :: a13 :: l)) : a13.den := v.2.2.2.2.2.2.2.2.2.2.2.2.2.1
def p14 {a0 a1 a2 a3 a4 a5 a6 a7 a8 a9 a10 a11 a12 a13 a14 : LfK} {l : List LfK} (v : Tup (a0 :: a1 :: a2 :: a3 :: a4 :: a5 :: a6 :: a7 :: a8 :: a9 :: a10 :: a11 :: a12 :: a13 :: a14 :: l)) : a14.den := v.2.2.2.2.2.2.2.2.2.2.2.2.2.2.1
def p15 {a0 a1 a2 a3 a4 a5 a6 a7 a8 a9 a10 a11 a12 a13 a14 a15 : LfK} {l : List LfK} (v : Tup (a0 :: a1 :: a2 :: a3 :: a4 :: a5 :: a6 :: a7 :: a8 :: a9 :: a10 :: a11 :: a12 :: a13 :: a14 :: a15 :: l)) : a15.den := v.2.2.2.2.2.2.2.2.2.2.2.2.2.2.2.1
def p16 {a0 a1 a2 a3 a4 a5 a6 a7 a8 a9 a10 a11 a12 a13 a14 a15 a16 : LfK} {l : List LfK} (v : Tup (a0 :: a1 :: a2 :: a3 :: a4 :: a5 :: a6 :: a7 :: a8 :: a9 :: a10 :: a11 :: a12 :: a13 :: a14 :: a15 :: a16 :: l)) : a16.den := v.2.2.2.2.2.2.2.2.2.2.2.2.2.2.2.2.1
def p17 {a0 a1 a2 a3 a4 a5 a6 a7 a8 a9 a10 a11 a12 a13 a14 a15 a16 a17 : LfK} {l : List LfK} (v : Tup (a0 :: a1 :: a2 :: a3 :: a4 :: a5 :: a6 :: a7 :: a8 :: a9 :: a10 :: a11 :: a12 :: a13 :: a14 :: a15 :: a16 :: a17 :: l)) : a17.den := v.2.2.2.2.2.2.2.2.2.2.2.2.2.2.2.2.2.1
def p18 {a0 a1 a2 a3 a4 a5 a6 a7 a8 a9 a10 a11 a12 a13 a14 a15 a16 a17 a18 : LfK} {l : List LfK} (v : Tup (a0 :: a1 :: a2 :: a3 :: a4 :: a5 :: a6 :: a7 :: a8 :: a9 :: a10 :: a11 :: a12 :: a13 :: a14 :: a15 :: a16 :: a17 :: a18 :: l)) : a18.den := v.2.2.2.2.2.2.2.2.2.2.2.2.2.2.2.2.2.2.1
def p19 {a0 a1 a2 a3 a4 a5 a6 a7 a8 a9 a10 a11 a12 a13 a14 a15 a16 a17 a18 a19 : LfK} {l : List LfK} (v : Tup (a0 :: a1 :: a2 :: a3 :: a4 :: a5 :: a6 :: a7 :: a8 :: a9 :: a10 :: a11 :: a12 :: a13 :: a14 :: a15 :: a16 :: a17 :: a18 :: a19 :: l)) : a19.den := v.2.2.2.2.2.2.2.2.2.2.2.2.2.2.2.2.2.2.2.1
def p20 {a0 a1 a2 a3 a4 a5 a6 a7 a8 a9 a10 a11 a12 a13 a14 a15 a16 a17 a18 a19 a20 : LfK} {l : List LfK} (v : Tup (a0 :: a1 :: a2 :: a3 :: a4 :: a5 :: a6 :: a7 :: a8 :: a9 :: a10 :: a11 :: a12 :: a13 :: a14 :: a15 :: a16 :: a17 :: a18 :: a19 :: a20 :: l)) : a20.den := v.2.2.2.2.2.2.2.2.2.2.2.2.2.2.2.2.2.2.2.2.1
def p21 {a0 a1 a2 a3 a4 a5 a6 a7 a8 a9 a10 a11 a12 a13 a14 a15 a16 a17 a18 a19 a20 a21 : LfK} {l : List LfK} (v : Tup (a0 :: a1 :: a2 :: a3 :: a4 :: a5 :: a6 :: a7 :: a8 :: a9 :: a10 :: a11 :: a12 :: a13 :: a14 :: a15 :: a16 :: a17 :: a18 :: a19 :: a20 :: a21 :: l)) : a21.den := v.2.2.2.2.2.2.2.2.2.2.2.2.2.2.2.2.2.2.2.2.2.1
def p22 {a0 a1 a2 a3 a4 a5 a6 a7 a8 a9 a10 a11 a12 a13 a14 a15 a16 a17 a18 a19 a20 a21 a22 : LfK} {l : List LfK} (v : Tup (a0 :: a1 :: a2 :: a3 :: a4 :: a5 :: a6 :: a7 :: a8 :: a9 :: a10 :: a11 :: a12 :: a13 :: a14 :: a15 :: a16 :: a17 :: a18 :: a19 :: a20 :: a21 :: a22 :: l)) : a22.den := v.2.2.2.2.2.2.2.2.2.2.2.2.2.2.2.2.2.2.2.2.2.2.1
def p23 {a0 a1 a2 a3 a4 a5 a6 a7 a8 a9 a10 a11 a12 a13 a14 a15 a16 a17 a18 a19 a20 a21 a22 a23 : LfK} {l : List LfK} (v : Tup (a0 :: a1 :: a2 :: a3 :: a4 :: a5 :: a6 :: a7 :: a8 :: a9 :: a10 :: a11 :: a12 :: a13 :: a14 :: a15 :: a16 :: a17 :: a18 :: a19 :: a20 :: a21 :: a22 :: a23 :: l)) : a23.den := v.2.2.2.2.2.2.2.2.2.2.2.2.2.2.2.2.2.2.2.2.2.2.2.1
def p24 {a0 a1 a2 a3 a4 a5 a6 a7 a8 a9 a10 a11 a12 a13 a14 a15 a16 a17 a18 a19 a20 a21 a22 a23 a24 : LfK} {l : List LfK} (v : Tup (a0 :: a1 :: a2 :: a3 :: a4 :: a5 :: a6 :: a7 :: a8 :: a9 :: a10 :: a11 :: a12 :: a13 :: a14 :: a15 :: a16 :: a17 :: a18 :: a19 :: a20 :: a21 :: a22 :: a23 :: a24 :: l)) : a24.den := v.2.2.2.2.2.2.2.2.2.2.2.2.2.2.2.2.2.2.2.2.2.2.2.2.1
def p25 {a0 a1 a2 a3 a4 a5 a6 a7 a8 a9 a10 a11 a12 a13 a14 a15 a16 a17 a18 a19 a20 a21 a22 a23 a24 a25 : LfK} {l : List LfK} (v : Tup (a0 :: a1 :: a2 :: a3 :: a4 :: a5 :: a6 :: a7 :: a8 :: a9 :: a10 :: a11 :: a12 :: a13 :: a14 :: a15 :: a16 :: a17 :: a18 :: a19 :: a20 :: a21 :: a22 :: a23 :: a24 :: a25 :: l)) : a25.den := v.2.2.2.2.2.2.2.2.2.2.2.2.2.2.2.2.2.2.2.2.2.2.2.2.2.1
def p26 {a0 a1 a2 a3 a4 a5 a6 a7 a8 a9 a10 a11 a12 a13 a14 a15 a16 a17 a18 a19 a20 a21 a22 a23 a24 a25 a26 : LfK} {l : List LfK} (v : Tup (a0 :: a1 :: a2 :: a3 :: a4 :: a5 :: a6 :: a7 :: a8 :: a9 :: a10 :: a11 :: a12 :: a13 :: a14 :: a15 :: a16 :: a17 :: a18 :: a19 :: a20 :: a21 :: a22 :: a23 :: a24 :: a25 :: a26 :: l)) : a26.den := v.2.2.2.2.2.2.2.2.2.2.2.2.2.2.2.2.2.2.2.2.2.2.2.2.2.2.1
def p27 {a0 a1 a2 a3 a4 a5 a6 a7 a8 a9 a10 a11 a12 a13 a14 a15 a16 a17 a18 a19 a20 a21 a22 a23 a24 a25 a26 a27 : LfK} {l : List LfK} (v : Tup (a0 :: a1 :: a2 :: a3 :: a4 :: a5 :: a6 :: a7 :: a8 :: a9 :: a10 :: a11 :: a12 :: a13 :: a14 :: a15 :: a16 :: a17 :: a18 :: a19 :: a20 :: a21 :: a22 :: a23 :: a24 :: a25 :: a26 :: a27 :: l)) : a27.den := v.2.2.2.2.2.2.2.2.2.2.2.2.2.2.2.2.2.2.2.2.2.2.2.2.2.2.2.1
def p28 {a0 a1 a2 a3 a4 a5 a6 a7 a8 a9 a10 a11 a12 a13 a14 a15 a16 a17 a18 a19 a20 a21 a22 a23 a24 a25 a26 a27 a28 : LfK} {l : List LfK} (v : Tup (a0 :: a1 :: a2 :: a3 :: a4 :: a5 :: a6 :: a7 :: a8 :: a9 :: a10 :: a11 :: a12 :: a13 :: a14 :: a15 :: a16 :: a17 :: a18 :: a19 :: a20 :: a21 :: a22 :: a23 :: a24 :: a25 :: a26 :: a27 :: a28 :: l)) : a28.den := v.2.2.2.2.2.2.2.2.2.2.2.2.2.2.2.2.2.2.2.2.2.2.2.2.2.2.2.2.1
def p29 {a0 a1 a2 a3 a4 a5 a6 a7 a8 a9 a10 a11 a12 a13 a14 a15 a16 a17 a18 a19 a20 a21 a22 a23 a24 a25 a26 a27 a28 a29 : LfK} {l : List LfK} (v : Tup (a0 :: a1 :: a2 :: a3 :: a4 :: a5 :: a6 :: a7 :: a8 :: a9 :: a10 :: a11 :: a12 :: a13 :: a14 :: a15 :: a16 :: a17 :: a18 :: a19 :: a20 :: a21 :: a22 :: a23 :: a24 :: a25 :: a26 :: a27 :: a28 :: a29 :: l)) : a29.den := v.2.2.2.2.2.2.2.2.2.2.2.2.2.2.2.2.2.2.2.2.2.2.2.2.2.2.2.2.2.1
def p30 {a0 a1 a2 a3 a4 a5 a6 a7 a8 a9 a10 a11 a12 a13 a14 a15 a16 a17 a18 a19 a20 a21 a22 a23 a24 a25 a26 a27 a28 a29 a30 : LfK} {l : List LfK} (v : Tup (a0 :: a1 :: a2 :: a3 :: a4 :: a5 :: a6 :: a7 :: a8 :: a9 :: a10 :: a11 :: a12 :: a13 :: a14 :: a15 :: a16 :: a17 :: a18 :: a19 :: a20 :: a21 :: a22 :: a23 :: a24 :: a25 :: a26 :: a27 :: a28 :: a29 :: a30 :: l)) : a30.den := v.2.2.2.2.2.2.2.2.2.2.2.2.2.2.2.2.2.2.2.2.2.2.2.2.2.2.2.2.2.2.1
def p31 {a0 a1 a2 a3 a4 a5 a6 a7 a8 a9 a10 a11 a12 a13 a14 a15 a16 a17 a18 a19 a20 a21 a22 a23 a24 a25 a26 a27 a28 a29 a30 a31 : LfK} {l : List LfK} (v : Tup (a0 :: a1 :: a2 :: a3 :: a4 :: a5 :: a6 :: a7 :: a8 :: a9 :: a10 :: a11 :: a12 :: a13 :: a14 :: a15 :: a16 :: a17 :: a18 :: a19 :: a20 :: a21 :: a22 :: a23 :: a24 :: a25 :: a26 :: a27 :: a28 :: a29 :: a30 :: a31 :: l)) : a31.den := v.2.2.2.2.2.2.2.2.2.2.2.2.2.2.2.2.2.2.2.2.2.2.2.2.2.2.2.2.2.2.2.1
def p32 {a0 a1 a2 a3 a4 a5 a6 a7 a8 a9 a10 a11 a12 a13 a14 a15 a16 a17 a18 a19 a20 a21 a22 a23 a24 a25 a26 a27 a28 a29 a30 a31 a32 : LfK} {l : List LfK} (v : Tup (a0 :: a1 :: a2 :: a3 :: a4 :: a5 :: a6 :: a7 :: a8 :: a9 :: a10 :: a11 :: a12 :: a13 :: a14 :: a15 :: a16 :: a17 :: a18 :: a19 :: a20 :: a21 :: a22 :: a23 :: a24 :: a25 :: a26 :: a27 :: a28 :: a29 :: a30 :: a31 :: a32 :: l)) : a32.den := v.2.2.2.2.2.2.2.2.2.2.2.2.2.2.2.2.2.2.2.2.2.2.2.2.2.2.2.2.2.2.2.2.1
def p33 {a0 a1 a2 a3 a4 a5 a6 a7 a8 a9 a10 a11 a12 a13 a14 a15 a16 a17 a18 a19 a20 a21 a22 a23 a24 a25 a26 a27 a28 a29 a30 a31 a32 a33 : LfK} {l : List LfK} (v : Tup (a0 :: a1 :: a2 :: a3 :: a4 :: a5 :: a6 :: a7 :: a8 :: a9 :: a10 :: a11 :: a12 :: a13 :: a14 :: a15 :: a16 :: a17 :: a18 :: a19 :: a20 :: a21 :: a22 :: a23 :: a24 :: a25 :: a26 :: a27 :: a28 :: a29 :: a30 :: a31 :: a32 :: a33 :: l)) : a33.den := v.2.2.2.2.2.2.2.2.2.2.2.2.2.2.2.2.2.2.2.2.2.2.2.2.2.2.2.2.2.2.2.2.2.1
def p34 {a0 a1 a2 a3 a4 a5 a6 a7 a8 a9 a10 a11 a12 a13 a14 a15 a16 a17 a18 a19 a20 a21 a22 a23 a24 a25 a26 a27 a28 a29 a30 a31 a32 a33 a34 : LfK} {l : List LfK} (v : Tup (a0 :: a1 :: a2 :: a3 :: a4 :: a5 :: a6 :: a7 :: a8 :: a9 :: a10 :: a11 :: a12 :: a13 :: a14 :: a15 :: a16 :: a17 :: a18 :: a19 :: a20 :: a21 :: a22 :: a23 :: a24 :: a25 :: a26 :: a27 :: a28 :: a29 :: a30 :: a31 :: a32 :: a33 :: a34 :: l)) : a34.den := v.2.2.2.2.2.2.2.2.2.2.2.2.2.2.2.2.2.2.2.2.2.2.2.2.2.2.2.2.2.2.2.2.2.2.1
def p35 {a0 a1 a2 a3 a4 a5 a6 a7 a8 a9 a10 a11 a12 a13 a14 a15 a16 a17 a18 a19 a20 a21 a22 a23 a24 a25 a26 a27 a28 a29 a30 a31 a32 a33 a34 a35 : LfK} {l : List LfK} (v : Tup (a0 :: a1 :: a2 :: a3 :: a4 :: a5 :: a6 :: a7 :: a8 :: a9 :: a10 :: a11 :: a12 :: a13 :: a14 :: a15 :: a16 :: a17 :: a18 :: a19 :: a20 :: a21 :: a22 :: a23 :: a24 :: a25 :: a26 :: a27 :: a28 :: a29 :: a30 :: a31 :: a32 :: a33 :: a34 :: a35 :: l)) : a35.den := v.2.2.2.2.2.2.2.2.2.2.2.2.2.2.2.2.2.2.2.2.2.2.2.2.2.2.2.2.2.2.2.2.2.2.2.1
def p36 {a0 a1 a2 a3 a4 a5 a6 a7 a8 a9 a10 a11 a12 a13 a14 a15 a16 a17 a18 a19 a20 a21 a22 a23 a24 a25 a26 a27 a28 a29 a30 a31 a32 a33 a34 a35 a36 : LfK} {l : List LfK} (v : Tup (a0 :: a1 :: a2 :: a3 :: a4 :: a5 :: a6 :: a7 :: a8 :: a9 :: a10 :: a11 :: a12 :: a13 :: a14 :: a15 :: a16 :: a17 :: a18 :: a19 :: a20 :: a21 :: a22 :: a23 :: a24 :: a25 :: a26 :: a27 :: a28 :: a29 :: a30 :: a31 :: a32 :: a33 :: a34 :: a35 :: a36 :: l)) : a36.den := v.2.2.2.2.2.2.2.2.2.2.2.2.2.2.2.2.2.2.2.2.2.2.2.2.2.2.2.2.2.2.2.2.2.2.2.2.1
def p37 {a0 a1 a2 a3 a4 a5 a6 a7 a8 a9 a10 a11 a12 a13 a14 a15 a16 a17 a18 a19 a20 a21 a22 a23 a24 a25 a26 a27 a28 a29 a30 a31 a32 a33 a34 a35 a36 a37 : LfK} {l : List LfK} (v : Tup (a0 :: a1 :: a2 :: a3 :: a4 :: a5 :: a6 :: a7 :: a8 :: a9 :: a10 :: a11 :: a12 :: a13 :: a14 :: a15 :: a16 :: a17 :: a18 :: a19 :: a20 :: a21 :: a22 :: a23 :: a24 :: a25 :: a26 :: a27 :: a28 :: a29 :: a30 :: a31 :: a32 :: a33 :: a34 :: a35 :: a36 :: a37 :: l)) : a37.den := v.2.2.2.2.2.2.2.2.2.2.2.2.2.2.2.2.2.2.2.2.2.2.2.2.2.2.2.2.2.2.2.2.2.2.2.2.2.1
def p38 {a0 a1 a2 a3 a4 a5 a6 a7 a8 a9 a10 a11 a12 a13 a14 a15 a16 a17 a18 a19 a20 a21 a22 a23 a24 a25 a26 a27 a28 a29 a30 a31 a32 a33 a34 a35 a36 a37 a38 : LfK} {l : List LfK} (v : Tup (a0 :: a1 :: a2 :: a3 :: a4 :: a5 :: a6 :: a7 :: a8 :: a9 :: a10 :: a11 :: a12 :: a13 :: a14 :: a15 :: a16 :: a17 :: a18 :: a19 :: a20 :: a21 :: a22 :: a23 :: a24 :: a25 :: a26 :: a27 :: a28 :: a29 :: a30 :: a31 :: a32 :: a33 :: a34 :: a35 :: a36 :: a37 :: a38 :: l)) : a38.den := v.2.2.2.2.2.2.2.2.2.2.2.2.2.2.2.2.2.2.2.2.2.2.2.2.2.2.2.2.2.2.2.2.2.2.2.2.2.2.1
def p39 {a0 a1 a2 a3 a4 a5 a6 a7 a8 a9 a10 a11 a12 a13 a14 a15 a16 a17 a18 a19 a20 a21 a22 a23 a24 a25 a26 a27 a28 a29 a30 a31 a32 a33 a34 a35 a36 a37 a38 a39 : LfK} {l : List LfK} (v : Tup (a0 :: a1 :: a2 :: a3 :: a4 :: a5 :: a6 :: a7 :: a8 :: a9 :: a10 :: a11 :: a12 :: a13 :: a14 :: a15 :: a16 :: a17 :: a18 :: a19 :: a20 :: a21 :: a22 :: a23 :: a24 :: a25 :: a26 :: a27 :: a28 :: a29 :: a30 :: a31 :: a32 :: a33 :: a34 :: a35 :: a36 :: a37 :: a38 :: a39 :: l)) : a39.den := v.2.2.2.2.2.2.2.2.2.2.2.2.2.2.2.2.2.2.2.2.2.2.2.2.2.2.2.2.2.2.2.2.2.2.2.2.2.2.2.1
theorem CutsOK.none0 {P : Program} {n : Nat} {cuts : Nat → Option Cut} {c : Code} (e : loopsOf c = []) : CutsOK P n cuts c := CutsOK.list (l := []) e (fun _ h => by cases h)
abbrev ln {α : Type} (l : List α) : Int := (l.length : Int)
abbrev gt {α : Type} (l : List α) (i : Nat) : Option α := l[i]?
abbrev zs (n : Nat) : List UInt8 := List.replicate n 0
end Hyp
set_option linter.unusedVariables false
namespace Hyp
open Go
def topB (w : World) : Base := ⟨fun _ => True, fun _ => True, w, fun _ => trivial⟩
theorem topZ (w : World) (x : Nat) : (topB w).Z [] x := ⟨fun ⟨_, he, _⟩ => by simp at he, .inl trivial⟩
theorem top_call {P : Program} {g : FuncId} {S : Summ} {avs : List AV} {w : World} {vs : List Value} (hS : SoundF P g S) (hrun : (S avs [] 0).Runs fun r => r.1 = .val .bool true ∧ r.2.1 = []) (hs : slotsR nu0 0 ((topB w).Z []) w avs vs) (hgl : ∀ p ∈ gl, globF ((topB w).Z (ents nu0 [] ++ [])) w p := by intro p hp; simp [gl] at hp) :
    Calls P g vs.toArray w (Ret fun v w' => v = .bool true ∧ Own w (footU []) w' []) := by
  have H : Here (topB w) nu0 0 w [] [] := ⟨Own.start w _, fun e he => (by cases he), hgl⟩
  refine (hS _ _ _ _ hrun (topB w) nu0 w [] vs H hs).mono fun e w' he => ?_
  cases e with
  | returned v =>
    obtain ⟨⟨a, L', b'⟩, ⟨h1, h2⟩, ν', hl, hv⟩ := he
    simp only at h1 h2
    subst h1; subst h2
    exact ⟨sl_bool hv, hl.own⟩
  | panicked _ => exact he
  | outgrown => exact he
end Hyp
set_option linter.unusedVariables false
set_option linter.unusedSimpArgs false
namespace Hyp
open Go
def rdFld (P : Program) (f : Field) (off : Nat) (t : Ty) : Bool := Nat.beq f.offset off && szIs P f.type t.sz
mutual
def rdTy (P : Program) : Nat → TypeId → Ty → Bool
  | 0, _, _ => false
  | d + 1, T, t => match P.underlying T with
    | some .bool => (match t with | .bool => true | _ => false)
    | some .string => (match t with | .str => true | _ => false)
    | some (.int k) => (match k, t with
      | .u8, .u8 => true
      | .u16, .u16 => true
      | .u32, .u32 => true
      | .u64, .u64 => true
      | k, .sint k' => decide (k = k')
      | _, _ => false)
    | some (.array n E) => (match t with | .arr n' e => Nat.beq n n' && (szIs P E e.sz && rdTy P d E e) | _ => false)
    | some (.slice E) => (match t with | .list e => szIs P E e.sz && rdTy P d E e | _ => false)
    | some (.struct fs) => (match t with | .rcd t => rdFs P d fs.toList 0 t | _ => false)
    | _ => false
def rdFs (P : Program) : Nat → List Field → Nat → Ty → Bool
  | 0, _, _, _ => false
  | d + 1, [], _, t => false
  | d + 1, f :: fs, off, t => (match t with
    | .pair a b => rdFld P f off a && (rdTy P d f.type a && rdFs P d fs (off + a.sz) b)
    | t => (match fs with | [] => rdFld P f off t && rdTy P d f.type t | _ => false))
end
theorem law_of {S : Tree MR} {t : Tree Bool} (h : t.Runs (· = true)) (e : S = .sub t fun r => .ret (.val .bool r, [], 0)) : S.Runs fun r => r.1 = .val .bool true ∧ r.2.1 = [] := by
  subst e
  exact Tree.Runs.mono (t := t) h fun y hy => by subst hy; exact ⟨rfl, rfl⟩
def Ty.ok : (t : Ty) → t.den → Prop
  | .sint k, x => k.min ≤ x ∧ x ≤ k.max
  | .u8, _ | .u16, _ | .u32, _ | .u64, _ | .bool, _ | .unit, _ => True
  | .str, x => x.length ≤ maxLen
  | .arr n e, xs => xs.length = n ∧ ∀ x ∈ xs, e.ok x
  | .pair a b, x => a.ok x.1 ∧ b.ok x.2
  | .rcd t, x => t.ok x
  | .list e, xs => xs.length ≤ maxLen ∧ ∀ x ∈ xs, e.ok x
section
variable {P : Program} {T E : TypeId} {t e : Ty}
theorem Reads.int {k : IntKind} (ht : P.underlying T = some (.int k)) (hc : P.cellsOf T = 1) : Reads P T (.ofEnc (EK k)) (Ty.sint k).ok := by
  refine ⟨hc, fun {H enc w fuel cs x} h => ?_⟩
  obtain ⟨m, rfl, _, hw⟩ := DataW.trod_int ht h
  have h1 : k.min ≤ m ∧ m ≤ k.max := by simpa [Lit.wf] using hw
  exact ⟨m, h1, rfl⟩
theorem Reads.u16 (ht : P.underlying T = some (.int .u16)) (hc : P.cellsOf T = 1) : Reads P T (.ofEnc E16) (Ty.u16).ok := by
  refine ⟨hc, fun {H enc w fuel cs x} h => ?_⟩
  obtain ⟨m, rfl, _, hw⟩ := DataW.trod_int ht h
  simp [Lit.wf, IntKind.min, IntKind.max, IntKind.signed, IntKind.bits] at hw
  refine ⟨UInt16.ofNat m.toNat, trivial, ?_⟩
  have h1 : ((UInt16.ofNat m.toNat).toNat : Int) = m := by rw [UInt16.toNat_ofNat']; omega
  show [Value.int .u16 m] = [Value.int .u16 ((UInt16.ofNat m.toNat).toNat : Int)]
  rw [h1]
theorem Reads.u32 (ht : P.underlying T = some (.int .u32)) (hc : P.cellsOf T = 1) : Reads P T (.ofEnc E32) (Ty.u32).ok := by
  refine ⟨hc, fun {H enc w fuel cs x} h => ?_⟩
  obtain ⟨m, rfl, _, hw⟩ := DataW.trod_int ht h
  simp [Lit.wf, IntKind.min, IntKind.max, IntKind.signed, IntKind.bits] at hw
  refine ⟨UInt32.ofNat m.toNat, trivial, ?_⟩
  have h1 : ((UInt32.ofNat m.toNat).toNat : Int) = m := by rw [UInt32.toNat_ofNat']; omega
  show [Value.int .u32 m] = [Value.int .u32 ((UInt32.ofNat m.toNat).toNat : Int)]
  rw [h1]
theorem Reads.u64 (ht : P.underlying T = some (.int .u64)) (hc : P.cellsOf T = 1) : Reads P T (.ofEnc E64) (Ty.u64).ok := by
  refine ⟨hc, fun {H enc w fuel cs x} h => ?_⟩
  obtain ⟨m, rfl, _, hw⟩ := DataW.trod_int ht h
  simp [Lit.wf, IntKind.min, IntKind.max, IntKind.signed, IntKind.bits] at hw
  refine ⟨UInt64.ofNat m.toNat, trivial, ?_⟩
  have h1 : ((UInt64.ofNat m.toNat).toNat : Int) = m := by rw [UInt64.toNat_ofNat']; omega
  show [Value.int .u64 m] = [Value.int .u64 ((UInt64.ofNat m.toNat).toNat : Int)]
  rw [h1]
open Go.WideShapes in
end
end Hyp
set_option linter.unusedVariables false
set_option linter.unusedSimpArgs false
namespace Hyp
open Go
def Weak (r r' : MR) : Prop := ∀ (B : Base) (ν : Nms) (b : Nat) (w : World) (L : List En) (F : List Ent) (ν' : Nms) (w' : World) (v : Value), Left B ν b w L F ν' r.2.2 w' r.2.1 → slotR ν' r.2.2 (B.Z (ents ν' r.2.1 ++ F)) w' r.1 v →
  Left B ν b w L F ν' r'.2.2 w' r'.2.1 ∧ slotR ν' r'.2.2 (B.Z (ents ν' r'.2.1 ++ F)) w' r'.1 v
def cloneT {α : Type} (N : Nat) (x : List α) : Tree (Unit ⊕ List α) := .ite (decide ((Nat.cast x.length : Int) = (0 : Int)))
  (.all (fun (_ : Bool) => True) fun y => .ite y (.ret (.inl ())) (.get (appI N [] x) fun z => .ret (.inr z))) (.get (appI N [] x) fun z => .ret (.inr z))
theorem clone_det {α : Type} {N : Nat} {x : List α} {Q : List α → Prop} (h : (Tree.get (appI N [] x) fun z => .ret z).Runs Q) : (Tree.ite (decide ((Nat.cast x.length : Int) = (0 : Int))) (.all (fun (_ : Bool) => True) fun y => .ite y (.ret []) (.get (appI N [] x) fun z => .ret z)) (.get (appI N [] x) fun z => .ret z)).Runs Q := by
  refine ⟨fun he => ?_, fun _ => h⟩
  have hx : x = [] := by
    rw [decide_eq_true_eq] at he
    exact List.length_eq_zero_iff.1 (by omega)
  subst hx
  rintro y -
  refine ⟨fun _ => ?_, fun _ => h⟩
  obtain ⟨z, h1, h2⟩ := h
  have hz : z = [] := by have := (appI_some h1).2; simpa using this
  subst hz
  exact h2
theorem S_weak {P : Program} {g : FuncId} {β : Type} {s : Sk} {ts : List LfK} {t t' : Tup ts → Tree β} {p : Tup ts → β → Tree MR} (hS : SoundF P g (mkS s ts fun v => .sub (t' v) (p v))) (h : ∀ v (Q : β → Prop), (t v).Runs Q → (t' v).Runs Q) : SoundF P g (mkS s ts fun v => .sub (t v) (p v)) := by
  intro avs L b R hr
  refine hS avs L b R ?_
  unfold mkS at hr ⊢
  split at hr
  · rename_i l hl
    split at hr
    · rename_i v hv
      simp only [hl, hv]
      exact h v _ hr
    · exact hr.elim
  · exact hr.elim
end Hyp
set_option linter.unusedVariables false
set_option linter.unusedSimpArgs false
namespace Hyp
open Go
def S_compare : Summ := fun avs L b => match avs with
  | [x, y] => match rdSl L .u8 x, rdSl L .u8 y with
    | some xs, some ys => .ret (.val (.sint .i64) (Lib.compareBytes xs ys), L, b)
    | _, _ => .fail
  | _ => .fail
end Hyp
set_option linter.unusedVariables false
set_option linter.unusedSimpArgs false
namespace Hyp
theorem run_l {α β γ : Type} {y : β} {k : β → Tree α} {l : γ → Tree α} : (Tree.alt (.inl y) k l).run = (k y).run := rfl
theorem run_r {α β γ : Type} {y : γ} {k : β → Tree α} {l : γ → Tree α} : (Tree.alt (.inr y) k l).run = (l y).run := rfl
theorem w64_nat {n : Nat} (h : n ≤ 9223372036854775807) : w64 (n : Int) = n := w64_id (by omega) (by omega)
theorem w64_succ {n : Nat} (h : n < 9223372036854775807) : w64 ((n : Int) + 1) = ((n + 1 : Nat) : Int) := by rw [w64_id (by omega) (by omega)]; omega
theorem inI_nat {i m : Nat} (h : i < m) : inI m (i : Int) = some i := by
  unfold inI; rw [if_pos (by omega)]; simp
theorem gt_lt {α : Type} {l : List α} {i : Nat} (h : i < l.length) : gt l i = some l[i] := List.getElem?_eq_getElem h
theorem int8_nat (m : Nat) : int8 (m : Int) = UInt8.ofNat (m % 256) := by
  unfold int8; congr 1
theorem ofNat_mod (m : Nat) : UInt8.ofNat (m % 256) = UInt8.ofNat m := by
  apply UInt8.toNat_inj.1; simp
theorem rem256_nat (m : Nat) : Int.tmod (m : Int) 256 = ((m % 256 : Nat) : Int) := rfl
def clamp (f : Nat) (x : Int) : Nat := min x.toNat f
def leB (m : Nat) : List UInt8 := if h : m = 0 then [] else UInt8.ofNat (m % 256) :: leB (m / 256)
decreasing_by omega
def dig (m : Nat) : List UInt8 := (leB m).reverse
abbrev far : Nat := 9007199254740992
def num (b : List UInt8) (x : Int) : List UInt8 := b ++ (UInt8.ofNat (dig (clamp far x)).length :: dig (clamp far x))
def be (l : List UInt8) : Nat := l.foldl (fun n c => n * 256 + c.toNat) 0
def beF (n : Nat) (l : List UInt8) : Nat := l.foldl (fun n c => n * 256 + c.toNat) n
theorem be_append (l : List UInt8) (c : UInt8) : be (l ++ [c]) = be l * 256 + c.toNat := by unfold be; rw [List.foldl_append]; rfl
theorem beF_lt : ∀ {l : List UInt8} {n k : Nat}, n < 256 ^ k → beF n l < 256 ^ (k + l.length)
  | [], n, k, h => h
  | c :: l, n, k, h => by
    have hc := c.toNat_lt
    have := beF_lt (l := l) (n := n * 256 + c.toNat) (k := k + 1) (by rw [Nat.pow_succ]; omega)
    rw [List.length_cons, show k + (l.length + 1) = k + 1 + l.length by omega]
    exact this
theorem be_lt (l : List UInt8) : be l < 256 ^ l.length := by
  have := beF_lt (l := l) (n := 0) (k := 0) (by decide)
  rw [Nat.zero_add] at this
  exact this
def nxt (s : List UInt8) : Int ⊕ (Nat × List UInt8) := match s with
  | [] => .inl 3
  | c :: t => if 7 < c.toNat then .inl 5 else if t.length < c.toNat then .inl 3 else if 0 < c.toNat ∧ t.head? = some 0 then .inl 5
    else if far < be (t.take c.toNat) then .inl 6 else .inr (be (t.take c.toNat), t.drop c.toNat)
def scanN (s : List UInt8) (e lo hi : Int) : Int × List UInt8 × Int := if e = 0 then (match nxt s with
  | .inl er => (0, s, er)
  | .inr (v, r) => if (v : Int) < lo ∨ hi < (v : Int) then (0, s, 6) else ((v : Int), r, 0)) else (0, s, e)
def scanF (s : List UInt8) (e n : Int) : Int ⊕ (List UInt8 × List UInt8) := if e ≠ 0 ∨ n < 1 then .inl e else if (s.length : Int) < n then .inl 3 else .inr (s.take n.toNat, s.drop n.toNat)
def scanT (s : List UInt8) (e most : Int) : (List UInt8 × Int) ⊕ (List UInt8 × List UInt8) := match scanN s e 0 9007199254740992 with
  | (v, r, e') => if e' ≠ 0 then .inl (r, e') else if max most 0 < v then .inl (s, 2) else if (r.length : Int) < v then .inl (s, 3) else match scanF r e' v with
    | .inl e'' => .inl (r, e'')
    | .inr p => .inr p
def scanI (s : List UInt8) (e : Int) : List UInt8 × List UInt8 × Int := match scanF s e 32 with
  | .inl e' => (zs 32, s, e')
  | .inr (a, r) => (a, r, 0)
end Hyp
