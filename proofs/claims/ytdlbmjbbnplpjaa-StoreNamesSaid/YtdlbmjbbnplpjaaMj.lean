/- Elements' addresses; slices read, appended to, made. -/
import Derived.Test.YtdlbmjbbnplpjaaMi
set_option linter.unusedVariables false
set_option linter.unusedSimpArgs false
namespace Hyp
open Go
def rowLen (L : List En) (k : Nat) : Option Nat := match findE L k with
  | some ⟨_, _, .row _ xs⟩ => some xs.length
  | _ => none
/-- A whole row as a window. -/
def normW (L : List En) : AV → AV
  | .whole k s => match rowLen L k with | some n => .win k s 0 n | none => .any
  | x => x
/-- i, if there is a place i of n. -/
def inI (n : Nat) (i : Int) : Option Nat := if 0 ≤ i ∧ i < n then some i.toNat else none
/-- With constants it is asked at once. -/
def getT {α β : Type} (c : Bool) (o : Option β) (k : β → Tree α) : Tree α := bif c then (match o with | some y => k y | none => .fail) else .get o k
def rowTy (L : List En) (k : Nat) : Option Ty := match findE L k with
  | some ⟨_, _, .row e _⟩ => some e
  | _ => none
def indexAddrT (P : Program) (T : TypeId) (c : Bool) (x i : AV) (L : List En) : Tree AV := match x, i.int? with
  | .ro _ e xs, some (_, n) => match elemSz P T with
    | some s => bif Nat.beq s e.sz then .get (getI xs n) fun y => .ret (.rop e xs n.toNat y 0) else .fail
    | none => .fail
  | .win k s lo m, some (_, n) => match elemSz P T, rowTy L k with
    | some s', some e => bif Nat.beq s' s && Nat.beq e.sz s then getT false (inI m n) fun j => .ret (.rowp k e (lo + j) 0) else .fail
    | _, _ => .fail
  | .bwin k off e N lo m, some (_, n) => match elemSz P T with
    | some s' => bif Nat.beq s' e.sz then getT false (inI m n) fun j => .ret (.pel k off e N (lo + j) 0) else .fail
    | none => .fail
  | .ptr k off, some (_, n) => match P.underlying T with
    | some (.array N et) => match arrTy P et, (P.info? et).map (·.size) with
      | some e, some s => bif Nat.beq s e.sz then getT c (inI N n) fun j => .ret (.pel k off e N j 0) else .fail
      | _, _ => .fail
    | _ => .fail
  | _, _ => .fail
/-- What a slice of e has. -/
def rdSl (L : List En) (e : Ty) (x : AV) : Option (List e.den) := match x with
  | .ro _ e' xs => castL e e' xs
  | .whole k s => bif Nat.beq s e.sz then rowOf L k e else none
  | .win k s lo n => bif Nat.beq s e.sz then (rowOf L k e).map fun xs => (xs.drop lo).take n else none
  | .bwin k off e' N lo n => bif decide (e' = e) then (boxOf L k).bind fun a => (arrIn a off e N).map fun xs => (xs.drop lo).take n else none
  | .snil _ => some []
  | _ => none
section
variable {P : Program} {ty T U S : TypeId} {f : Fr} {w w' : World} {B : Base} {ν ν' : Nms} {b b' : Nat} {L L' : List En} {F : List Ent} {x y : Operand} {p q : AV} {r : Operand → AV}
theorem getT_ok {α β : Type} {c : Bool} {o : Option β} {k : β → Tree α} {a : α} (h : (getT c o k).run = some a) : ∃ y, o = some y ∧ (k y).run = some a := by
  cases c
  · exact bindE h
  · cases o with
    | none => cases h
    | some y => exact ⟨y, rfl, h⟩
theorem inI_ok {n : Nat} {i : Int} {j : Nat} (h : inI n i = some j) : i = j ∧ j < n := by
  unfold inI at h
  split at h
  · cases h; omega
  · cases h
theorem vlen_is {v : Value} {n : Nat} (h : IsSl v n) : vlen v = n := by
  obtain ⟨a, c, rfl, _⟩ := h; rfl
theorem rowLen_ok {k n : Nat} (H : Here B ν b w L F) (h : rowLen L k = some n) : IsSl (ν k).v n := by
  unfold rowLen at h
  split at h
  · rename_i k' vid e xs hf
    obtain ⟨i, h1, h2, h3⟩ := findE_ok hf
    cases h
    simp only at h2
    subst h2
    exact H.own.rowIs (ents_at (ν := ν) (F := F) h1)
  · cases h
theorem subv_all {v : Value} {n s : Nat} (h : IsSl v n) : subv s v 0 (0 + n) = v := by
  obtain ⟨a, c, rfl, _⟩ := h
  have h0 : ∀ ad : Addr, ad.add (0 * s) = ad := fun ad => by rw [Nat.zero_mul]; rfl
  simp only [subv, Nat.zero_add, Nat.sub_zero]
  cases a with
  | none => simp
  | some ad => simp [Addr.add]
theorem normW_ok {v : Value} (H : Here B ν b w L F) (h : slotR ν b (B.Z (ents ν L ++ F)) w p v) : slotR ν b (B.Z (ents ν L ++ F)) w (normW L p) v := by
  unfold normW
  split
  · rename_i k s
    split
    · rename_i n hn
      obtain ⟨h1, h2, h3⟩ := sl_whole h
      have h4 := rowLen_ok H hn
      exact ⟨h1, v, rfl, by rw [h3]; exact h4, by rw [vlen_is h4]; omega, .inl (by rw [h3, subv_all h4])⟩
    · trivial
  · exact h
theorem rowTy_ok {k : Nat} {e : Ty} (h : rowTy L k = some e) : ∃ xs, rowOf L k e = some xs := by
  unfold rowTy at h
  unfold rowOf
  split at h
  · rename_i k' vid e' xs hf
    cases h
    rw [hf]
    exact ⟨xs, by simp [castL, castTy]⟩
  · cases h
theorem indexAddrT_ok {c : Bool} {i : Operand} (H : Here B ν b w L F) (hx : slotR ν b (B.Z (ents ν L ++ F)) w p (ev f x)) (hi : slotR ν b (B.Z (ents ν L ++ F)) w q (ev f i)) :
    Q P (.indexAddr T x i) ty f w ν b (B.Z (ents ν L ++ F)) (indexAddrT P T c p q L) := by
  intro a ha
  unfold indexAddrT at ha
  split at ha
  · rename_i ct e xs k n hq
    split at ha
    · rename_i s hs
      cases hb : Nat.beq s e.sz <;> rw [hb] at ha
      · cases ha
      · obtain ⟨z, hz, ha⟩ := bindE ha
        cases ha
        obtain ⟨et, hu, hsz⟩ := elemSz_ok hs
        have hse := Nat.eq_of_beq_eq_true hb
        subst hse
        obtain ⟨hj, hn, hzz⟩ := getI_at hz
        obtain ⟨hro, _⟩ := sl_ro hx
        have his := hro.is
        refine o_indexSl (v := ev f x) hu hsz rfl his (int_ok hi hq) hj hn ⟨rfl, ?_⟩
        obtain ⟨ad, cc, hv, h1, h2, h3⟩ := his
        cases ad with
        | none => have := h3 rfl; omega
        | some ad =>
          rw [hv] at hro ⊢
          exact ⟨hzz, ad, _, cc, rfl, hro⟩
    · cases ha
  · rename_i k s lo m kk n hq
    split at ha
    · rename_i s' e hs he
      cases hb : (Nat.beq s' s && Nat.beq e.sz s) <;> rw [hb] at ha
      · cases ha
      · simp only [Bool.and_eq_true] at hb
        obtain ⟨j, hj, ha⟩ := getT_ok (c := false) ha
        cases ha
        obtain ⟨hj1, hj2⟩ := inI_ok hj
        obtain ⟨et, hu, hsz⟩ := elemSz_ok hs
        have e1 := Nat.eq_of_beq_eq_true hb.1
        have e2 := Nat.eq_of_beq_eq_true hb.2
        subst e1
        obtain ⟨h1, h2, h3, h4⟩ := sl_win hx
        refine o_indexSl (v := ev f x) hu hsz rfl h2 (int_ok hi hq) hj1 hj2 ⟨rfl, ?_⟩
        obtain ⟨xs, hxs⟩ := rowTy_ok he
        obtain ⟨i', vid, g1, g2, g3⟩ := rowOf_ok H hxs
        have hV := H.own.rowIs g2
        obtain ⟨aV, cV, hVe, hV1, hV2, hV3⟩ := hV
        rcases h4 with h4 | ⟨a0, h4⟩
        · rw [hVe] at h4 h3
          simp only [subv, vlen] at h4 h3
          have hne : ¬ cV = lo := by
            intro h
            rw [if_pos h] at h4
            obtain ⟨_, c2, q1, q2, _⟩ := h2
            rw [h4] at q1
            simp only [Value.slice.injEq] at q1
            omega
          rw [if_neg hne] at h4
          cases aV with
          | none => have := hV3 rfl; omega
          | some ad =>
            refine ⟨h1, ad, xs.length, cV, hVe, ?_⟩
            rw [h4]
            show [Value.pointer (some ((ad.add (lo * s')).add (j * s')))] = _
            rw [addAdd, ← Nat.add_mul, e2, Nat.add_zero]
        · obtain ⟨_, c2, q1, q2, _⟩ := h2
          rw [h4] at q1
          cases q1
          omega
    · cases ha
  · rename_i k off e N lo m kk n hq
    split at ha
    · rename_i s' hs
      cases hb : Nat.beq s' e.sz <;> rw [hb] at ha
      · cases ha
      · obtain ⟨j, hj, ha⟩ := getT_ok (c := false) ha
        cases ha
        obtain ⟨hj1, hj2⟩ := inI_ok hj
        obtain ⟨et, hu, hsz⟩ := elemSz_ok hs
        have e1 := Nat.eq_of_beq_eq_true hb
        subst e1
        obtain ⟨h1, h2, h3, h4⟩ := sl_bwin hx
        refine o_indexSl (v := ev f x) hu hsz rfl h2 (int_ok hi hq) hj1 hj2 ⟨rfl, h1, ?_⟩
        rcases h4 with h4 | ⟨a0, h4⟩
        · rw [h4]
          show [Value.pointer (some ((⟨(ν k).g, off + lo * e.sz, none⟩ : Addr).add (j * e.sz)))] = _
          unfold Addr.add
          split
          · rename_i hz; rw [Nat.add_mul, hz, Nat.add_zero, Nat.add_zero]
          · rw [Nat.add_mul, ← Nat.add_assoc, Nat.add_zero]
        · obtain ⟨_, c2, q1, q2, _⟩ := h2
          rw [h4] at q1
          cases q1
          omega
    · cases ha
  · rename_i k off kk n hq
    split at ha
    · rename_i N et hu
      split at ha
      · rename_i e s he hs
        cases hb : Nat.beq s e.sz <;> rw [hb] at ha
        · cases ha
        · obtain ⟨j, hj, ha⟩ := getT_ok ha
          cases ha
          obtain ⟨hj1, hj2⟩ := inI_ok hj
          have e1 := Nat.eq_of_beq_eq_true hb
          subst e1
          refine o_indexArr hu (.of hs) (sl_ptr hx).2 (int_ok hi hq) hj1 hj2 rfl ⟨rfl, (sl_ptr hx).1, ?_⟩
          show [Value.pointer (some ((⟨(ν k).g, off, none⟩ : Addr).add (j * e.sz)))] = _
          unfold Addr.add
          split
          · rename_i hz; rw [hz]; rfl
          · rfl
      · cases ha
    · cases ha
  · cases ha
theorem RV_sub {α : Type} {A : RTy α} {Z : Nat → Prop} {xs : List α} {cs : List Value} {N lo n : Nat} (h : (RV N A).rel Z w xs cs) (hl : lo + n ≤ N) : (RV n A).rel Z w ((xs.drop lo).take n) ((cs.drop (lo * A.sz)).take (n * A.sz)) := by
  obtain ⟨h1, h2, h3, h4⟩ := h
  have e2 : lo * A.sz + n * A.sz ≤ cs.length := by rw [h2, ← Nat.add_mul]; exact Nat.mul_le_mul_right _ hl
  refine ⟨by simp; omega, by rw [List.length_take, List.length_drop]; omega, ?_, ?_⟩
  · simp only [ones, List.all_eq_true] at h3 ⊢
    exact fun x hx => h3 x (List.mem_of_mem_drop (List.mem_of_mem_take hx))
  · intro i x hx
    have hi : i < n := by have := (List.getElem?_eq_some_iff.1 hx).1; simp at this; omega
    rw [List.getElem?_take_of_lt hi, List.getElem?_drop] at hx
    have h5 := h4 (lo + i) x hx
    have e3 : (i + 1) * A.sz ≤ n * A.sz := Nat.mul_le_mul_right _ hi
    rw [Nat.succ_mul] at e3
    rw [List.drop_take, List.take_take, List.drop_drop, ← Nat.add_mul, Nat.min_eq_left (by omega)]
    exact h5
theorem rdSl_ok {e : Ty} {xs : List e.den} {v : Value} (H : Here B ν b w L F) (hx : slotR ν b (B.Z (ents ν L ++ F)) w p v) (h : rdSl L e p = some xs) :
    ∃ cs, Sl (fun _ => True) w v xs.length cs ∧ (RV xs.length e.rty).rel (B.Z (ents ν L ++ F)) w xs cs := by
  unfold rdSl at h
  split at h
  · rename_i c e' xs'
    obtain ⟨hro, _⟩ := sl_ro hx
    obtain ⟨he, hxx⟩ := castTy_ok (t := .list _) (t' := .list _) h
    cases he
    cases hxx
    obtain ⟨cs, g1, g2, g3, g4⟩ := hro
    exact ⟨cs, g1.mono fun _ _ _ => trivial, rfl, g2, g3, g4⟩
  · rename_i k s
    cases hb : Nat.beq s e.sz <;> rw [hb] at h
    · cases h
    · obtain ⟨h1, h2, h3⟩ := sl_whole hx
      obtain ⟨i, vid, g1, g2, g3⟩ := rowOf_ok H h
      rw [h3]
      exact ⟨_, H.own.rowSl g2 fun _ _ => trivial, g3⟩
  · rename_i k s lo n
    cases hb : Nat.beq s e.sz <;> rw [hb] at h
    · cases h
    · have hse := Nat.eq_of_beq_eq_true hb
      subst hse
      simp only [cond_true, Option.map_eq_some_iff] at h
      obtain ⟨ys, hy, rfl⟩ := h
      obtain ⟨h1, h2, h3, h4⟩ := sl_win hx
      obtain ⟨i, vid, g1, g2, g3⟩ := rowOf_ok H hy
      have hV := H.own.rowIs g2
      rw [vlen_is hV] at h3
      have hl : ((ys.drop lo).take n).length = n := by simp; omega
      have hsub := RV_sub g3 h3
      rw [e.sz_rty] at hsub
      rw [hl]
      rcases h4 with h4 | ⟨a0, h4⟩
      · have hs2 := (H.own.rowSl g2 (S := fun _ => True) fun _ _ => trivial).sub e.sz lo (lo + n) (by omega) h3 (by have := g3.2.1; rw [e.sz_rty] at this; exact this)
        rw [← h4, Nat.add_sub_cancel_left] at hs2
        exact ⟨_, hs2, hsub⟩
      · have hn : n = 0 := by obtain ⟨_, _, q1, _⟩ := h2; rw [h4] at q1; cases q1; rfl
        subst hn
        rw [Nat.zero_mul, List.take_zero] at hsub
        exact ⟨[], .empty _ _ h2, hsub⟩
  · rename_i k off e' N lo n
    cases hb : decide (e' = e) <;> rw [hb] at h
    · cases h
    · have he : e' = e := by simpa using hb
      subst he
      simp only [cond_true] at h
      obtain ⟨a, ha, h⟩ := bindE h
      simp only [Option.map_eq_some_iff] at h
      obtain ⟨ys, hy, rfl⟩ := h
      obtain ⟨h1, h2, h3, h4⟩ := sl_bwin hx
      obtain ⟨i, vid, g1, g2, g3⟩ := boxOf_ok H ha
      obtain ⟨q1, q2⟩ := arrIn_ok g3 hy
      have hl : ((ys.drop lo).take n).length = n := by have := q1.1; simp; omega
      have hsub := RV_sub q1 h3
      rw [e'.sz_rty] at hsub
      rw [hl]
      rcases h4 with h4 | ⟨a0, h4⟩
      · refine ⟨_, ⟨h2, ?_⟩, hsub⟩
        have hle : lo * e'.sz + n * e'.sz ≤ N * e'.sz := by rw [← Nat.add_mul]; exact Nat.mul_le_mul_right _ h3
        have hat := ((H.own.bxAt g2).drop (off + lo * e'.sz)).take (n * e'.sz)
        right
        refine ⟨_, ⟨_, h4⟩, trivial, ?_⟩
        have e1 : (⟨(ν k).g, 0, none⟩ : Addr).add (off + lo * e'.sz) = ⟨(ν k).g, off + lo * e'.sz, none⟩ := by
          unfold Addr.add
          split
          · rename_i h0; rw [h0]
          · simp
        rw [e1] at hat
        rw [List.drop_take, List.take_take, List.drop_drop, Nat.min_eq_left (by omega)]
        exact hat
      · have hn : n = 0 := by obtain ⟨_, _, q1, _⟩ := h2; rw [h4] at q1; cases q1; rfl
        subst hn
        rw [Nat.zero_mul, List.take_zero] at hsub
        exact ⟨[], .empty _ _ h2, hsub⟩
  · cases h
    rw [sl_snil hx]
    exact ⟨[], Sl.nil _ _, by simp [RV, ones]⟩
  · cases h
end
end Hyp
