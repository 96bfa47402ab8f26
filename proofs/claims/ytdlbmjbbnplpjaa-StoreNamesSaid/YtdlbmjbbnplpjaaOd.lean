/- Keys of maps, and what is found by them. -/
import Derived.Test.YtdlbmjbbnplpjaaOc
set_option linter.unusedVariables false
set_option linter.unusedSimpArgs false
namespace Hyp
open Go
section
variable {P : Program} {Z : Nat → Prop} {w w' : World} {t kt vt : Ty} {x y : kt.den} {v u : Value}
theorem checkKey_ok (em : Bool) : ∀ d : Nat, (∀ (T : TypeId) (t : Ty) (x : t.den) (v : Value) (D : Nat), cmpTy P d T t = true → d ≤ D → rv Z w t x v → (Instr.checkKey em D T v).run P w' = .ok () w') ∧
    ∀ (fs : List Field) (off : Nat) (t : Ty) (x : t.den) (xs : Array Value) (D : Nat), cmpFs P d fs off t = true → d ≤ D → t.rty.rel Z w x ((xs.toList.drop off).take t.sz) →
      ∀ f ∈ fs, f.name ≠ "_" ∧ ∃ a, (part f.type xs f.offset).run P w' = .ok a w' ∧ (Instr.checkKey em D f.type a).run P w' = .ok () w' := by
  intro d
  induction d with
  | zero => exact ⟨fun _ _ _ _ _ h => by simp [cmpTy] at h, fun _ _ _ _ _ _ h => by simp [cmpFs] at h⟩
  | succ d ih =>
    have one : ∀ (f : Field) (off : Nat) (t : Ty) (x : t.den) (xs : Array Value) (D : Nat), fldOK P f off t = true → cmpTy P d f.type t = true → d ≤ D → t.rty.rel Z w x ((xs.toList.drop off).take t.sz) →
        f.name ≠ "_" ∧ ∃ a, (part f.type xs f.offset).run P w' = .ok a w' ∧ (Instr.checkKey em D f.type a).run P w' = .ok () w' := by
      intro f off t x xs D h1 h2 h3 h4
      simp only [fldOK, Bool.and_eq_true, bne_iff_ne, ne_eq] at h1
      obtain ⟨g1, g2, g3⟩ := h1
      obtain rfl := Nat.eq_of_beq_eq_true g2
      obtain ⟨a, p1, p2⟩ := part_ok (w' := w') h2 g3 h4
      exact ⟨g1, a, p1, ih.1 _ _ _ _ _ h2 h3 p2⟩
    refine ⟨fun T t x v D h hD hv => ?_, fun fs off t x xs D h hD hx => ?_⟩
    · obtain ⟨D, rfl⟩ : ∃ D', D = D' + 1 := ⟨D - 1, by omega⟩
      have hD : d ≤ D := by omega
      unfold cmpTy at h
      split at h
      · rename_i hT
        split at h
        · have h1 := List.head_eq_of_cons_eq (show [_] = [_] from rv_one rfl hv)
          subst h1
          unfold Instr.checkKey
          simp [run_underlying hT]
        · cases h
      · rename_i hT
        split at h
        · have h1 := List.head_eq_of_cons_eq (show [_] = [_] from rv_one rfl hv)
          subst h1
          unfold Instr.checkKey Hyp.str
          simp [run_underlying hT]
        · cases h
      · rename_i k hT
        have num : ∀ {n : Int}, v = .int k n → (Instr.checkKey em (D + 1) T v).run P w' = .ok () w' := by
          intro n h1
          subst h1
          unfold Instr.checkKey
          simp [run_underlying hT]
        split at h
        · exact num (List.head_eq_of_cons_eq (show [_] = [_] from rv_one rfl hv))
        · exact num (List.head_eq_of_cons_eq (show [_] = [_] from rv_one rfl hv))
        · exact num (List.head_eq_of_cons_eq (show [_] = [_] from rv_one rfl hv))
        · exact num (List.head_eq_of_cons_eq (show [_] = [_] from rv_one rfl hv))
        · simp only [decide_eq_true_eq] at h
          subst h
          exact num (List.head_eq_of_cons_eq (show [_] = [_] from rv_one rfl hv))
        · cases h
      · rename_i n E hT
        split at h
        · rename_i n' e
          simp only [Bool.and_eq_true] at h
          obtain ⟨h1, h2, h3⟩ := h
          obtain rfl := Nat.eq_of_beq_eq_true h1
          obtain ⟨hsz, i, hi⟩ := szIs_cells h2
          obtain ⟨cs, rfl, g1, g2, g3, g4⟩ := rv_agg rfl hv
          have each : ∀ i, i < n → ∃ a, (part E cs.toArray (i * e.sz)).run P w' = .ok a w' ∧ (Instr.checkKey em D E a).run P w' = .ok () w' := by
            intro i hi'
            obtain ⟨x', hx'⟩ : ∃ x', x[i]? = some x' := ⟨x[i]'(by rw [g1]; exact hi'), List.getElem?_eq_getElem _⟩
            have e1 := g4 i x' hx'
            rw [e.sz_rty] at e1
            obtain ⟨a, p1, p2⟩ := part_ok (w' := w') (xs := cs.toArray) (off := i * e.sz) h3 h2 (by simpa using e1)
            exact ⟨a, p1, ih.1 _ _ _ _ _ h3 hD p2⟩
          unfold Instr.checkKey
          simp only [Sem.run_bind, run_underlying hT, Result.andThen_ok]
          simp only [Std.Legacy.Range.forIn_eq_forIn_range', Std.Legacy.Range.size, Nat.sub_zero, Nat.add_one_sub_one, Nat.div_one]
          have key : ∀ m j, j + m ≤ n → ∀ i ∈ List.range' j m, i < n := by
            intro m j hj i hi'
            have := List.mem_range'_1.1 hi'
            omega
          have all := key n 0 (by omega)
          generalize List.range' 0 n = is at all
          induction is with
          | nil => simp
          | cons i is ihi =>
            obtain ⟨a, p1, p2⟩ := each i (all i (by simp))
            simp only [List.forIn_cons, Sem.run_bind, run_sizeOf w' hi, hsz, Result.andThen_ok, p1, p2, Sem.run_pure]
            exact ihi fun j hj => all j (by simp [hj])
        · cases h
      · rename_i fs hT
        split at h
        · rename_i t
          simp only [Bool.and_eq_true, Bool.not_eq_true'] at h
          obtain ⟨cs, rfl, g1⟩ := rv_agg rfl hv
          unfold Instr.checkKey
          simp only [Sem.run_bind, run_underlying hT, Result.andThen_ok]
          rw [← Array.forIn_toList]
          have hl1 := t.rty.len g1
          rw [t.sz_rty] at hl1
          have a1 : ((cs.toArray).toList.drop 0).take t.sz = cs := by rw [List.drop_zero, List.take_of_length_le (Nat.le_of_eq hl1)]
          have each := ih.2 fs.toList 0 t x cs.toArray D h.2 hD (by rw [a1]; exact g1)
          generalize fs.toList = Lf at each
          induction Lf with
          | nil => simp
          | cons f Lf ihf =>
            obtain ⟨hn, a, p1, p2⟩ := each f (by simp)
            simp only [List.forIn_cons, Sem.run_bind, hn, ne_eq, not_false_eq_true, if_true, Result.andThen_ok, p1, p2, Sem.run_pure]
            exact ihf fun g hg => each g (by simp [hg])
        · cases h
      · cases h
    · cases fs with
      | nil => simp
      | cons f fs =>
        unfold cmpFs at h
        split at h
        · rename_i a b
          simp only [Bool.and_eq_true] at h
          obtain ⟨c1, c2, g0, g1, g2⟩ := hx
          have hc1 := a.rty.len g1
          rw [a.sz_rty] at hc1
          have hc2 := b.rty.len g2
          rw [b.sz_rty] at hc2
          have cut : (xs.toList.drop off).take a.sz = c1 ∧ (xs.toList.drop (off + a.sz)).take b.sz = c2 := by
            have hs : (Ty.pair a b).sz = a.sz + b.sz := rfl
            rw [hs, List.take_add] at g0
            have hh := List.append_inj g0 (by
              have h3 := congrArg List.length g0
              simp only [List.length_append, List.length_take, List.length_drop] at h3 ⊢
              omega)
            rw [List.drop_drop] at hh
            exact hh
          obtain ⟨q1, a', p1, p2⟩ := one f off a x.1 xs D h.1 h.2.1 (by omega) (by rw [cut.1]; exact g1)
          have rest := ih.2 fs (off + a.sz) b x.2 xs D h.2.2 (by omega) (by rw [cut.2]; exact g2)
          intro g hg
          rcases List.mem_cons.1 hg with rfl | hg
          · exact ⟨q1, a', p1, p2⟩
          · exact rest g hg
        · split at h
          · simp only [Bool.and_eq_true] at h
            obtain ⟨q1, a', p1, p2⟩ := one f off t x xs D h.1 h.2 (by omega) hx
            intro g hg
            rcases List.mem_cons.1 hg with rfl | hg
            · exact ⟨q1, a', p1, p2⟩
            · simp at hg
          · cases h
/-- What is found at once is what asking finds. -/
theorem findNow_ok {T : TypeId} {kd : TypeDesc} (hT : P.underlying T = some kd) : ∀ (es : List MapEntry) (i : Nat) (r : Option (Nat × Value)), Instr.findNow kd v es i = some r → (Instr.findAsking T v es i).run P w = .ok r w
  | [], i, r, h => by cases h; rfl
  | e :: es, i, r, h => by
    have eqs : ∀ c, Instr.sameNow kd v e.key = some c → (Op.equal T v e.key).run P w = .ok c w := by
      intro c hc
      unfold Instr.sameNow at hc
      revert hc
      generalize e.key = ek
      cases kd <;> cases v <;> cases ek <;> intro hc <;> simp only [reduceCtorEq] at hc
      · cases hc
        exact run_equalIn_bool w 9999 T _ _ hT
      · split at hc
        · rename_i hk
          cases hc
          subst hk
          exact run_equalIn_int w 9999 T _ _ _ _ hT
        · cases hc
      · cases hc
        show (Op.equalIn (9999 + 1) T _ _).run P w = _
        rw [run_equalIn_string w 9999 T _ _ hT, beq_toListBytes]
    unfold Instr.findNow at h
    unfold Instr.findAsking
    split at h
    · rename_i hs
      cases h
      simp only [Sem.run_bind, eqs true hs, Result.andThen_ok, if_true, Sem.run_pure]
    · rename_i hs
      simp only [Sem.run_bind, eqs false hs, Result.andThen_ok, Bool.false_eq_true, if_false]
      exact findNow_ok hT es (i + 1) r h
    · cases h
theorem findKey_asks {d : Nat} {T : TypeId} {es : List MapEntry} {r : Option (Nat × Value)} (hc : cmpTy P d T kt = true) (h : (Instr.findAsking T v es).run P w = .ok r w) : (Instr.findKey T v es).run P w = .ok r w := by
  obtain ⟨k, hk, _⟩ := cmpTy_agg hc
  unfold Instr.findKey
  simp only [Sem.run_bind, run_underlying hk, Result.andThen_ok]
  split
  · rename_i r' hr
    have := findNow_ok (w := w) hk es 0 r' hr
    rw [this] at h
    cases h
    rfl
  · exact h
theorem findKey_ok {d : Nat} {T : TypeId} (hc : cmpTy P d T kt = true) (hd : d ≤ 10000) (hv : rv Z w kt x v) {es : List MapEntry} {ys : List (kt.den × vt.den)} (hm : meR Z w kt vt es ys) :
    ((Instr.findKey T v es).run P w = .ok none w ∧ ∀ p ∈ ys, p.1 ≠ x) ∨ ∃ j e y, (Instr.findKey T v es).run P w = .ok (some (j, e.val)) w ∧ es[j]? = some e ∧ ys[j]? = some (x, y) := by
  have key : ∀ (es : List MapEntry) (ys : List (kt.den × vt.den)) (i : Nat), meR Z w kt vt es ys →
      ((Instr.findAsking T v es i).run P w = .ok none w ∧ ∀ p ∈ ys, p.1 ≠ x) ∨ ∃ j e y, (Instr.findAsking T v es i).run P w = .ok (some (i + j, e.val)) w ∧ es[j]? = some e ∧ ys[j]? = some (x, y) := by
    intro es
    induction es with
    | nil =>
      intro ys i hm
      cases ys with
      | nil => exact .inl ⟨rfl, by simp⟩
      | cons y ys => exact hm.elim
    | cons e es ih =>
      intro ys i hm
      cases ys with
      | nil => exact hm.elim
      | cons y ys =>
        have heq := equal_ok (w := w) hc hd hv hm.1
        unfold Instr.findAsking
        simp only [Sem.run_bind, heq, Result.andThen_ok]
        cases hb : eqV kt x y.1
        · have hne : y.1 ≠ x := fun h => by rw [h, eqV_self] at hb; cases hb
          simp only [Bool.false_eq_true, if_false]
          rcases ih ys (i + 1) hm.2.2 with ⟨h1, h2⟩ | ⟨j, e', y', h1, h2, h3⟩
          · exact .inl ⟨h1, fun p hp => by
              rcases List.mem_cons.1 hp with rfl | hp
              · exact hne
              · exact h2 p hp⟩
          · exact .inr ⟨j + 1, e', y', by rw [h1, Nat.add_assoc, Nat.add_comm 1 j], by simpa using h2, by simpa using h3⟩
        · have he := (eqV_iff kt x y.1).1 hb
          exact .inr ⟨0, e, y.2, by simp, rfl, by rw [he]; rfl⟩
  rcases key es ys 0 hm with ⟨h1, h2⟩ | ⟨j, e, y, h1, h2, h3⟩
  · exact .inl ⟨findKey_asks hc h1, h2⟩
  · exact .inr ⟨j, e, y, findKey_asks hc (by simpa using h1), h2, h3⟩
/-- Values of one datum without addresses are one value. -/
theorem rv_same (hf : kt.flat = true) (h1 : rv Z w kt x v) (h2 : rv Z w kt x u) : v = u := by
  cases ha : kt.isAgg
  · have e1 := kt.rel_enc hf (rv_one ha h1)
    have e2 := kt.rel_enc hf (rv_one ha h2)
    rw [← e2] at e1
    exact List.head_eq_of_cons_eq e1
  · obtain ⟨c1, rfl, g1⟩ := rv_agg ha h1
    obtain ⟨c2, rfl, g2⟩ := rv_agg ha h2
    rw [kt.rel_enc hf g1, kt.rel_enc hf g2]
theorem enc_scal : ∀ (t : Ty) (n : Nat) (x : t.den), ∀ c ∈ t.enc x, Instr.sameBits n c c = true
  | .sint k, n, x, c, h => by simp only [Ty.enc, List.mem_singleton] at h; subst h; cases n <;> simp [Instr.sameBits]
  | .u8, n, x, c, h => by simp only [Ty.enc, List.mem_singleton] at h; subst h; cases n <;> simp [Instr.sameBits, Hyp.u8]
  | .u16, n, x, c, h => by simp only [Ty.enc, List.mem_singleton] at h; subst h; cases n <;> simp [Instr.sameBits, Hyp.u16]
  | .u32, n, x, c, h => by simp only [Ty.enc, List.mem_singleton] at h; subst h; cases n <;> simp [Instr.sameBits, Hyp.u32]
  | .u64, n, x, c, h => by simp only [Ty.enc, List.mem_singleton] at h; subst h; cases n <;> simp [Instr.sameBits, Hyp.u64]
  | .bool, n, x, c, h => by simp only [Ty.enc, List.mem_singleton] at h; subst h; cases n <;> simp [Instr.sameBits]
  | .str, n, x, c, h => by
    simp only [Ty.enc, List.mem_singleton] at h
    subst h
    cases n <;> simp [Instr.sameBits, Hyp.str, beq_toListBytes]
  | .unit, n, x, c, h => by simp [Ty.enc] at h
  | .arr m e, n, xs, c, h => by
    simp only [Ty.enc, List.mem_flatMap] at h
    obtain ⟨x, _, hc⟩ := h
    exact enc_scal e n x c hc
  | .pair a b, n, x, c, h => by
    simp only [Ty.enc, List.mem_append] at h
    rcases h with h | h
    · exact enc_scal a n _ c h
    · exact enc_scal b n _ c h
  | .rcd t, n, x, c, h => enc_scal t n x c h
  | .list e, n, x, c, h => by simp [Ty.enc] at h
theorem stays_ok (hf : kt.flat = true) (h1 : rv Z w kt x v) : (Instr.keyThatStays v v).run P w' = .ok v w' := by
  have hs : Instr.sameBits 10000 v v = true := by
    cases ha : kt.isAgg
    · have e1 := kt.rel_enc hf (rv_one ha h1)
      exact enc_scal kt 10000 x v (by rw [← e1]; simp)
    · obtain ⟨c1, rfl, g1⟩ := rv_agg ha h1
      have e1 := kt.rel_enc hf g1
      show Instr.sameBits (9999 + 1) _ _ = true
      simp only [Instr.sameBits, beq_self_eq_true, Bool.true_and, List.all_eq_true]
      intro p hp
      obtain ⟨i, hi, e⟩ := List.getElem_of_mem hp
      rw [List.getElem_zip] at e
      rw [← e]
      exact enc_scal kt 9999 x _ (by rw [← e1]; simp)
  simp [Instr.keyThatStays, hs]
end
end Hyp
