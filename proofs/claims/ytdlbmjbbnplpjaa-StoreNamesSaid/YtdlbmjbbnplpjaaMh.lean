/- Operations on memory. -/
import Derived.Test.YtdlbmjbbnplpjaaMg
set_option linter.unusedVariables false
set_option linter.unusedSimpArgs false
namespace Hyp
open Go
abbrev MR := AV × List En × Nat
def findE : List En → Nat → Option En
  | [], _ => none
  | e :: l, k => bif Nat.beq e.key k then some e else findE l k
def setE : List En → Nat → En → List En
  | [], _, _ => []
  | e :: l, k, x => bif Nat.beq e.key k then x :: l else e :: setE l k x
theorem findE_ok : ∀ {L : List En} {k : Nat} {e : En}, findE L k = some e → ∃ i, L[i]? = some e ∧ e.key = k ∧ ∀ x, setE L k x = L.set i x
  | [], _, _, h => by cases h
  | e :: l, k, e', h => by
    unfold findE at h
    cases hc : Nat.beq e.key k <;> rw [hc] at h
    · obtain ⟨i, h1, h2, h3⟩ := findE_ok h
      refine ⟨i + 1, by simpa using h1, h2, fun x => ?_⟩
      simp only [setE, hc, cond_false, h3 x, List.set_cons_succ]
    · cases h
      exact ⟨0, rfl, Nat.eq_of_beq_eq_true hc, fun x => by simp only [setE, hc, cond_true, List.set_cons_zero]⟩
def updN (ν : Nms) (b : Nat) (m : Nm) : Nms := fun k => if k = b then m else ν k
theorem updN_same (ν : Nms) (b : Nat) (m : Nm) : updN ν b m b = m := if_pos rfl
theorem updN_lt (ν : Nms) (b : Nat) (m : Nm) : ∀ k, k < b → updN ν b m k = ν k := fun k hk => if_neg (Nat.ne_of_lt hk)
def M (P : Program) (op : Op) (ty : TypeId) (f : Fr) (B : Base) (ν : Nms) (b : Nat) (w : World) (L : List En) (F : List Ent) (t : Tree MR) : Prop :=
  ∀ a L' b', t.run = some (a, L', b') → OpW P op ty f w (Gives B ν b w L F b' L' a)
section
variable {P : Program} {ty T U : TypeId} {f : Fr} {w w' : World} {B : Base} {ν ν' : Nms} {b b' : Nat} {L L' : List En} {F : List Ent} {x y : Operand} {p q : AV} {r : Operand → AV}
theorem Here.z (H : Here B ν b w L F) (h : Left B ν b w L F ν' b' w' L') {a : AV} {v : Value} (hs : slotR ν b (B.Z (ents ν L ++ F)) w a v) : slotR ν' b' (B.Z (ents ν' L' ++ F)) w' a v := hs.later h.later
/-- What only computes. -/
theorem Q.m {op : Op} {t : Tree AV} (H : Here B ν b w L F) (h : Q P op ty f w ν b (B.Z (ents ν L ++ F)) t) : M P op ty f B ν b w L F (t.bind fun a => .ret (a, L, b)) := by
  intro a L' b' ha
  obtain ⟨a', h1, h2⟩ := Tree.bind_some ha
  cases h2
  refine (h a h1).mono ?_
  rintro v w' ⟨rfl, hs⟩
  exact ⟨ν, H.stay, hs⟩
theorem ents_new (H : Here B ν b w L F) (hn : ∀ k, k < b → ν' k = ν k) : ents ν' L = ents ν L := List.map_congr_left fun e he => entOf_congr hn (H.fact e he).1 (H.fact e he).2.1
/-- A new entry. -/
theorem Here.cons (H : Here B ν b w L F) {m : Nm} {c : Cont} (ho : Own w (footU (ents ν L ++ F)) w' (entOf (updN ν b m) ⟨b, b, c⟩ :: (ents ν L ++ F)))
    (hf : ∀ Z', Later ν (updN ν b m) b (b + 1) (B.Z (ents ν L ++ F)) Z' w w' → contF (updN ν b m) (b + 1) Z' w' c m.cs) : Left B ν b w L F (updN ν b m) (b + 1) w' (⟨b, b, c⟩ :: L) := by
  have he := ents_new (F := F) H (updN_lt ν b m)
  have hown : Own w (footU (ents ν L ++ F)) w' (ents (updN ν b m) (⟨b, b, c⟩ :: L) ++ F) := by
    show Own w _ w' (entOf (updN ν b m) ⟨b, b, c⟩ :: (ents (updN ν b m) L ++ F))
    rw [he]; exact ho
  have hl : Later ν (updN ν b m) b (b + 1) (B.Z (ents ν L ++ F)) (B.Z (ents (updN ν b m) (⟨b, b, c⟩ :: L) ++ F)) w w' := ⟨updN_lt ν b m, Nat.le_succ b, fun x hx hz => TT.now hown hx hz⟩
  refine ⟨updN_lt ν b m, Nat.le_succ b, hown, fun e he' => ?_⟩
  rcases List.mem_cons.1 he' with rfl | he'
  · exact ⟨Nat.lt_succ_self b, Nat.lt_succ_self b, by rw [updN_same]; exact hf _ hl⟩
  · exact (H.fact e he').later hl
/-- Another entry in an entry's place. -/
theorem Here.set (H : Here B ν b w L F) {i : Nat} {e : En} {m : Nm} {e' : En} (hi : L[i]? = some e) (hk : e'.key < b + 1) (hv : e'.vid = b) (ho : Own w (footU (ents ν L ++ F)) w' ((ents ν L ++ F).set i (entOf (updN ν b m) e')))
    (hf : ∀ Z', Later ν (updN ν b m) b (b + 1) (B.Z (ents ν L ++ F)) Z' w w' → contF (updN ν b m) (b + 1) Z' w' e'.c m.cs) : Left B ν b w L F (updN ν b m) (b + 1) w' (L.set i e') := by
  have he := ents_new (F := F) H (updN_lt ν b m)
  have hil : i < L.length := (List.getElem?_eq_some_iff.1 hi).1
  have e1 : (ents ν L ++ F).set i (entOf (updN ν b m) e') = ents (updN ν b m) (L.set i e') ++ F := by
    rw [List.set_append_left _ _ (by simpa using hil)]
    show _ = (L.set i e').map _ ++ F
    rw [List.map_set]
    show (ents ν L).set i _ ++ F = (ents (updN ν b m) L).set i _ ++ F
    rw [he]
  rw [e1] at ho
  have hl : Later ν (updN ν b m) b (b + 1) (B.Z (ents ν L ++ F)) (B.Z (ents (updN ν b m) (L.set i e') ++ F)) w w' := ⟨updN_lt ν b m, Nat.le_succ b, fun x hx hz => TT.now ho hx hz⟩
  refine ⟨updN_lt ν b m, Nat.le_succ b, ho, fun x hx => ?_⟩
  rcases List.mem_or_eq_of_mem_set hx with hx | rfl
  · exact (H.fact x hx).later hl
  · exact ⟨hk, by omega, by rw [hv, updN_same]; exact hf _ hl⟩
theorem ents_at {i : Nat} {e : En} (hi : L[i]? = some e) : (ents ν L ++ F)[i]? = some (entOf ν e) := by
  have hil : i < L.length := (List.getElem?_eq_some_iff.1 hi).1
  rw [List.getElem?_append_left (by simpa using hil), List.getElem?_map, hi]
  rfl
end
/-! ### 1. New boxes -/
def allocT (P : Program) (T : TypeId) (L : List En) (b : Nat) : Tree MR := match zeroOf P T with
  | some (a, _) => .ret (.ptr b 0, ⟨b, b, .box a⟩ :: L, b + 1)
  | none => .fail
def boxT (x : AV) (L : List En) (b : Nat) : Tree MR := bif x.okC then .ret (.ptr b 0, ⟨b, b, .box x⟩ :: L, b + 1) else .fail
/-! ### 2. Loads -/
def aggT (P : Program) (T : TypeId) : Option Bool := (P.underlying T).map fun d => !scal d
/-- The part of a datum's abstract value at an offset. -/
def partT (P : Program) (T : TypeId) (a : AV) (o : Nat) : Tree AV := match aggT P T, (P.info? T).map (·.size) with
  | some wa, some s => match atOff wa a o s with
    | some y => bif wa == y.isAgg && (wa || Nat.beq s 1) then .ret y else .fail
    | none => .fail
  | _, _ => .fail
/-- The row that a key names, as a list of e. -/
def rowOf (L : List En) (k : Nat) (e : Ty) : Option (List e.den) := match findE L k with
  | some ⟨_, _, .row e' xs⟩ => castL e e' xs
  | _ => none
def boxOf (L : List En) (k : Nat) : Option AV := match findE L k with
  | some ⟨_, _, .box a⟩ => some a
  | _ => none
/-- The array of N at an offset of a box, as a list of e. -/
def arrIn (a : AV) (off : Nat) (e : Ty) (N : Nat) : Option (List e.den) := match atOff false a off (N * e.sz) with
  | some (.val t xs) => castTy (.arr N e) t xs
  | _ => none
def loadT (P : Program) (T : TypeId) (x : AV) (L : List En) : Tree AV := match x with
  | .ptr k o => match boxOf L k with
    | some a => partT P T a o
    | none => .fail
  | .rop e xs i y eo => bif Nat.blt 0 e.sz then partT P T (explode e y) eo else .fail
  | .rowp k e i eo => match rowOf L k e with
    | some xs => bif Nat.blt 0 e.sz then .get xs[i]? fun y => partT P T (explode e y) eo else .fail
    | none => .fail
  | .pel k off e N i eo => match boxOf L k with
    | some a => match arrIn a off e N with
      | some xs => .get xs[i]? fun y => partT P T (explode e y) eo
      | none => .fail
    | none => .fail
  | _ => .fail
section
variable {P : Program} {ty T U : TypeId} {f : Fr} {w w' : World} {B : Base} {ν ν' : Nms} {b b' : Nat} {L L' : List En} {F : List Ent} {x y : Operand} {p q : AV} {r : Operand → AV}
theorem rowOf_ok {k : Nat} {e : Ty} {xs : List e.den} (H : Here B ν b w L F) (h : rowOf L k e = some xs) : ∃ (i vid : Nat), L[i]? = some (En.mk k vid (.row e xs)) ∧ (ents ν L ++ F)[i]? = some (row e.sz (ν k).v xs.length (ν vid).cs) ∧
    (RV xs.length e.rty).rel (B.Z (ents ν L ++ F)) w xs (ν vid).cs := by
  unfold rowOf at h
  split at h
  · rename_i k' vid e' xs' hf
    obtain ⟨i, h1, h2, _⟩ := findE_ok hf
    obtain ⟨he, hx⟩ := castTy_ok (t := .list _) (t' := .list _) h
    cases he
    cases hx
    simp only at h2
    subst h2
    have := ents_at (ν := ν) (F := F) h1
    have hfact := H.fact _ (List.mem_of_getElem? h1)
    exact ⟨i, vid, h1, this, hfact.2.2⟩
  · cases h
theorem boxOf_ok {k : Nat} {a : AV} (H : Here B ν b w L F) (h : boxOf L k = some a) : ∃ (i vid : Nat), L[i]? = some (En.mk k vid (.box a)) ∧ (ents ν L ++ F)[i]? = some (bx (ν k).g (ν vid).cs) ∧ avC ν b (B.Z (ents ν L ++ F)) w a (ν vid).cs := by
  unfold boxOf at h
  split at h
  · rename_i k' vid a' hf
    obtain ⟨i, h1, h2, _⟩ := findE_ok hf
    cases h
    simp only at h2
    subst h2
    exact ⟨i, vid, h1, ents_at (ν := ν) (F := F) h1, (H.fact _ (List.mem_of_getElem? h1)).2.2⟩
  · cases h
/-- Cells that lie at an address, and stand for an abstract value, are loaded as a part of it. -/
theorem partT_ok {a : AV} {o : Nat} {Z : Nat → Prop} {ad : Addr} {cs : List Value} (hx : ev f x = .pointer (some (ad.add o))) (hs : ad.spot = none) (hat : At w ad cs) (hc : avC ν b Z w a cs) : Q P (.load T x) ty f w ν b Z (partT P T a o) := by
  intro a' ha
  unfold partT at ha
  split at ha
  · rename_i wa s hw hsz
    split at ha
    · rename_i y hy
      cases hwy : (wa == y.isAgg && (wa || Nat.beq s 1)) <;> rw [hwy] at ha
      · cases ha
      · simp only [Bool.and_eq_true, beq_iff_eq, Bool.or_eq_true] at hwy
        obtain ⟨h1, h2, h3⟩ := atOff_ok hc hy
        unfold aggT at hw
        simp only [Option.map_eq_some_iff] at hw
        obtain ⟨d, hu, hd⟩ := hw
        have hat2 := (hat.drop o).take s
        have hl : ((cs.drop o).take s).length = s := by rw [List.length_take, List.length_drop]; omega
        cases hag : y.isAgg
        · have hwa : wa = false := hwy.1.trans hag
          subst hwa
          have hsc : scal d = true := by cases h : scal d <;> simp [h] at hd ⊢
          have hs1 : s = 1 := by
            rcases hwy.2 with h | h
            · cases h
            · exact Nat.eq_of_beq_eq_true h
          subst hs1
          obtain ⟨v, hv⟩ := List.length_eq_one_iff.1 hl
          rw [hv] at h1 hat2
          have hcell := hat2.cell (j := 0) rfl
          have h0 : (ad.add o).add 0 = ad.add o := rfl
          rw [h0] at hcell
          cases ha
          refine o_load hu hsc hx hcell ⟨rfl, .of ?_⟩
          unfold avV
          rw [if_neg (by simp [hag])]
          exact h1
        · have hwa : wa = true := hwy.1.trans hag
          subst hwa
          have hsc : scal d = false := by cases h : scal d <;> simp [h] at hd ⊢
          cases ha
          refine o_loadA hu hsc (.of hsz) hx hat2 hl ⟨rfl, .of ?_⟩
          unfold avV
          rw [if_pos hag]
          exact ⟨_, rfl, h1⟩
    · cases ha
  · cases ha
theorem arrIn_ok {off N : Nat} {e : Ty} {xs : List e.den} {Z : Nat → Prop} {a : AV} {cs : List Value} (h3 : avC ν b Z w a cs) (h : arrIn a off e N = some xs) : (RV N e.rty).rel Z w xs ((cs.drop off).take (N * e.sz)) ∧ off + N * e.sz ≤ cs.length := by
  unfold arrIn at h
  split at h
  · rename_i t ys ha
    obtain ⟨g1, g2, g3⟩ := atOff_ok h3 ha
    exact ⟨cast_rel (t := .arr N e) h g1, g2⟩
  · cases h
theorem loadT_ok (H : Here B ν b w L F) (hx : slotR ν b (B.Z (ents ν L ++ F)) w p (ev f x)) : Q P (.load T x) ty f w ν b (B.Z (ents ν L ++ F)) (loadT P T p L) := by
  have add0 : ∀ (g o : Nat), (⟨g, o, none⟩ : Addr) = (⟨g, 0, none⟩ : Addr).add o := fun g o => by
    unfold Addr.add
    split
    · rename_i h0; rw [h0]
    · simp
  unfold loadT
  split
  · rename_i k o
    split
    · rename_i a hb
      obtain ⟨i, vid, h1, h2, h3⟩ := boxOf_ok H hb
      exact partT_ok (ad := ⟨(ν k).g, 0, none⟩) (by rw [(sl_ptr hx).2, ← add0]) rfl (H.own.bxAt h2) h3
    · intro a ha; cases ha
  · rename_i e xs i y eo
    obtain ⟨hy, ad, m, c, h1, h2⟩ := hx
    have h3 := List.head_eq_of_cons_eq (show [ev f x] = [_] from h1)
    cases h0 : Nat.blt 0 e.sz
    · intro a ha; cases ha
    · have h0 : 0 < e.sz := Nat.le_of_ble_eq_true h0
      obtain ⟨cs, g1, g2⟩ := h2.at hy (by rw [e.sz_rty]; exact h0)
      rw [e.sz_rty] at g1
      exact partT_ok (ad := ad.add (i * e.sz)) (by rw [h3, addAdd]) (g1.1) g1 (explode_ok e g2)
  · rename_i k e i eo
    split
    · rename_i xs hr
      cases h0 : Nat.blt 0 e.sz
      · intro a ha; cases ha
      · have h0 : 0 < e.sz := Nat.le_of_ble_eq_true h0
        obtain ⟨i', vid, h1, h2, h3⟩ := rowOf_ok H hr
        intro a ha
        obtain ⟨y, hy, ha⟩ := bindE ha
        obtain ⟨hk, ad, m, c, g1, g2⟩ := hx
        have g3 := List.head_eq_of_cons_eq (show [ev f x] = [_] from g2)
        have hsl := H.own.rowSl h2 (S := fun _ => True) (fun _ _ => trivial)
        have hl : (ν vid).cs.length = xs.length * e.rty.sz := h3.2.1
        rw [e.sz_rty] at hl
        have hi : i < xs.length := (List.getElem?_eq_some_iff.1 hy).1
        have hne : (ν vid).cs ≠ [] := by
          intro h
          rw [h, List.length_nil] at hl
          have : 0 < xs.length * e.sz := Nat.mul_pos (by omega) h0
          omega
        have hat := (hsl.at hne (i * e.sz)).take e.sz
        rw [g1] at hat
        have h6 := h3.2.2.2 i y hy
        rw [e.sz_rty] at h6
        exact partT_ok (ad := ad.add (i * e.sz)) (by rw [g3, addAdd]) hat.1 hat (explode_ok e h6) a ha
    · intro a ha; cases ha
  · rename_i k off e N i eo
    split
    · rename_i a0 hb
      split
      · rename_i xs hr
        obtain ⟨i', vid, h1, h2, h3⟩ := boxOf_ok H hb
        obtain ⟨h4, h5⟩ := arrIn_ok h3 hr
        intro a ha
        obtain ⟨y, hy, ha⟩ := bindE ha
        have hi : i < N := by have := (List.getElem?_eq_some_iff.1 hy).1; rw [h4.1] at this; exact this
        have hle : (i + 1) * e.sz ≤ N * e.sz := Nat.mul_le_mul_right _ hi
        rw [Nat.succ_mul] at hle
        have h6 := h4.2.2.2 i y hy
        rw [e.sz_rty, List.drop_take, List.take_take, List.drop_drop, Nat.min_eq_left (by omega)] at h6
        have hat := ((H.own.bxAt h2).drop (off + i * e.sz)).take e.sz
        exact partT_ok (ad := (⟨(ν k).g, 0, none⟩ : Addr).add (off + i * e.sz)) (by rw [(sl_pel hx).2, addAdd, ← add0]) hat.1 hat (explode_ok e h6) a ha
      · intro a ha; cases ha
    · intro a ha; cases ha
  · intro a ha; cases ha
theorem allocT_ok (H : Here B ν b w L F) : M P (.alloc T) ty f B ν b w L F (allocT P T L b) := by
  intro a L' b' ha
  unfold allocT at ha
  split at ha
  · rename_i a0 z hz
    cases ha
    obtain ⟨h1, h2⟩ := zeroOf_ok hz
    refine o_alloc h1 rfl H.own fun g w' hw => ?_
    have hl := H.cons (m := ⟨g, undef, z.cells.toList⟩) (c := .box a0) (w' := w') (by
      show Own _ _ _ (bx (updN ν b _ b).g (updN ν b _ b).cs :: _)
      rw [updN_same]; exact hw) (fun Z' _ => h2)
    exact ⟨_, hl, .of ⟨Nat.lt_succ_self b, by rw [updN_same]⟩⟩
  · cases ha
theorem boxT_ok (H : Here B ν b w L F) (hx : slotR ν b (B.Z (ents ν L ++ F)) w p (ev f x)) : M P (.box T x) ty f B ν b w L F (boxT p L b) := by
  intro a L' b' ha
  unfold boxT at ha
  cases hc : p.okC <;> rw [hc] at ha
  · cases ha
  · cases ha
    obtain ⟨k1, k2, k3⟩ := AV.okC_ok hc
    have hcx := hx.cells k1 k2 k3
    refine o_box rfl rfl H.own fun g w' hw => ?_
    have hl := H.cons (m := ⟨g, undef, (ev f x).cells.toList⟩) (c := .box p) (w' := w') (by
      show Own _ _ _ (bx (updN ν b _ b).g (updN ν b _ b).cs :: _)
      rw [updN_same]; exact hw) (fun Z' h => hcx.later h)
    exact ⟨_, hl, .of ⟨Nat.lt_succ_self b, by rw [updN_same]⟩⟩
end
end Hyp
