/- Are two data alike? Equality of values that hold no address; keys of maps. -/
import Derived.Test.YtdlbmjbbnplpjaaMk
import Derived.DeepKeys3
set_option linter.unusedVariables false
set_option linter.unusedSimpArgs false
namespace Hyp
open Go
def eqL {α : Type} (f : α → α → Bool) : List α → List α → Bool
  | [], [] => true
  | x :: xs, y :: ys => f x y && eqL f xs ys
  | _, _ => false
theorem eqL_iff {α : Type} {f : α → α → Bool} (h : ∀ x y, f x y = true ↔ x = y) : ∀ xs ys, eqL f xs ys = true ↔ xs = ys
  | [], [] => by simp [eqL]
  | x :: xs, y :: ys => by simp [eqL, h x y, eqL_iff h xs ys]
  | [], _ :: _ => by simp [eqL]
  | _ :: _, [] => by simp [eqL]
/-- Alike? -/
def eqV : (t : Ty) → t.den → t.den → Bool
  | .sint _, x, y => decide ((x : Int) = y)
  | .u8, x, y => decide ((x : UInt8) = y)
  | .u16, x, y => decide ((x : UInt16) = y)
  | .u32, x, y => decide ((x : UInt32) = y)
  | .u64, x, y => decide ((x : UInt64) = y)
  | .bool, x, y => decide ((x : Bool) = y)
  | .str, x, y => decide ((x : List UInt8) = y)
  | .unit, _, _ => true
  | .arr _ e, xs, ys => eqL (eqV e) xs ys
  | .pair a b, x, y => eqV a x.1 y.1 && eqV b x.2 y.2
  | .rcd t, x, y => eqV t x y
  | .list e, xs, ys => eqL (eqV e) xs ys
theorem eqV_iff : (t : Ty) → ∀ x y : t.den, eqV t x y = true ↔ x = y
  | .sint _, x, y => by simp [eqV]
  | .u8, x, y => by simp [eqV]
  | .u16, x, y => by simp [eqV]
  | .u32, x, y => by simp [eqV]
  | .u64, x, y => by simp [eqV]
  | .bool, x, y => by simp [eqV]
  | .str, x, y => by simp [eqV]
  | .unit, _, _ => by simp [eqV]
  | .arr _ e, xs, ys => eqL_iff (eqV_iff e) xs ys
  | .pair a b, x, y => by
    simp only [eqV, Bool.and_eq_true, eqV_iff a, eqV_iff b]
    exact Prod.ext_iff.symm
  | .rcd t, x, y => eqV_iff t x y
  | .list e, xs, ys => eqL_iff (eqV_iff e) xs ys
def fldOK (P : Program) (f : Field) (off : Nat) (t : Ty) : Bool := f.name != "_" && (Nat.beq f.offset off && szIs P f.type t.sz)
mutual
/-- A Go type whose values are compared as data of t. -/
def cmpTy (P : Program) : Nat → TypeId → Ty → Bool
  | 0, _, _ => false
  | d + 1, T, t => match P.underlying T with
    | some .bool => (match t with | .bool => true | _ => false)
    | some .string => (match t with | .str => true | _ => false)
    | some (.int k) => (match k, t with
      | .u8, .u8 => true
      | .u16, .u16 => true
      | .u32, .u32 => true
      | .u64, .u64 => true
      | k, .sint k' => decide (k = k')
      | _, _ => false)
    | some (.array n E) => (match t with | .arr n' e => Nat.beq n n' && (szIs P E e.sz && cmpTy P d E e) | _ => false)
    | some (.struct fs) => (match t with | .rcd t => !P.stoodInHeld T && cmpFs P d fs.toList 0 t | _ => false)
    | _ => false
def cmpFs (P : Program) : Nat → List Field → Nat → Ty → Bool
  | 0, _, _, _ => false
  | d + 1, [], _, t => (match t with | .unit => true | _ => false)
  | d + 1, f :: fs, off, t => (match t with
    | .pair a b => fldOK P f off a && (cmpTy P d f.type a && cmpFs P d fs (off + a.sz) b)
    | t => (match fs with | [] => fldOK P f off t && cmpTy P d f.type t | _ => false))
end
section
variable {P : Program} {Z : Nat → Prop} {w w' : World} {t : Ty} {x y : t.den} {v u : Value}
theorem rv_avV {ν : Nms} {b : Nat} : avV ν b Z w (.val t x) v ↔ rv Z w t x v := Iff.rfl
theorem rv_agg (h : t.isAgg = true) (H : rv Z w t x v) : ∃ cs, v = .agg cs.toArray ∧ t.rty.rel Z w x cs := by unfold rv at H; rwa [if_pos h] at H
theorem rv_one (h : t.isAgg = false) (H : rv Z w t x v) : t.rty.rel Z w x [v] := by unfold rv at H; rwa [if_neg (by simp [h])] at H
theorem rv_of_agg (h : t.isAgg = true) {cs : List Value} (H : t.rty.rel Z w x cs) : rv Z w t x (.agg cs.toArray) := by unfold rv; rw [if_pos h]; exact ⟨cs, rfl, H⟩
theorem rv_of_one (h : t.isAgg = false) (H : t.rty.rel Z w x [v]) : rv Z w t x v := by unfold rv; rw [if_neg (by simp [h])]; exact H
/-- What a type that is compared looks like. -/
theorem cmpTy_agg : ∀ {d : Nat} {T : TypeId} {t : Ty}, cmpTy P d T t = true → (∃ k, P.underlying T = some k ∧ (t.isAgg = true ↔ ((∃ n e, k = .array n e) ∨ ∃ fs, k = .struct fs)))
  | 0, _, _, h => by simp [cmpTy] at h
  | d + 1, T, t, h => by
    unfold cmpTy at h
    split at h
    · split at h
      · exact ⟨_, by assumption, by simp [Ty.isAgg]⟩
      · cases h
    · split at h
      · exact ⟨_, by assumption, by simp [Ty.isAgg]⟩
      · cases h
    · split at h
      · exact ⟨_, by assumption, by simp [Ty.isAgg]⟩
      · exact ⟨_, by assumption, by simp [Ty.isAgg]⟩
      · exact ⟨_, by assumption, by simp [Ty.isAgg]⟩
      · exact ⟨_, by assumption, by simp [Ty.isAgg]⟩
      · exact ⟨_, by assumption, by simp [Ty.isAgg]⟩
      · cases h
    · split at h
      · exact ⟨_, by assumption, by simp [Ty.isAgg]⟩
      · cases h
    · split at h
      · exact ⟨_, by assumption, by simp [Ty.isAgg]⟩
      · cases h
    · cases h
theorem cmpTy_flat : (∀ {d : Nat} {T : TypeId} {t : Ty}, cmpTy P d T t = true → t.flat = true) ∧ ∀ {d : Nat} {fs : List Field} {off : Nat} {t : Ty}, cmpFs P d fs off t = true → t.flat = true := by
  have key : ∀ d, (∀ (T : TypeId) (t : Ty), cmpTy P d T t = true → t.flat = true) ∧ ∀ (fs : List Field) (off : Nat) (t : Ty), cmpFs P d fs off t = true → t.flat = true := by
    intro d
    induction d with
    | zero => exact ⟨fun _ _ h => by simp [cmpTy] at h, fun _ _ _ h => by simp [cmpFs] at h⟩
    | succ d ih =>
      refine ⟨fun T t h => ?_, fun fs off t h => ?_⟩
      · unfold cmpTy at h
        split at h
        · split at h
          · rfl
          · cases h
        · split at h
          · rfl
          · cases h
        · split at h <;> first | rfl | cases h
        · split at h
          · simp only [Bool.and_eq_true] at h
            simpa only [Ty.flat] using ih.1 _ _ h.2.2
          · cases h
        · split at h
          · simp only [Bool.and_eq_true] at h
            simpa only [Ty.flat] using ih.2 _ _ _ h.2
          · cases h
        · cases h
      · cases fs with
        | nil =>
          unfold cmpFs at h
          split at h
          · rfl
          · cases h
        | cons f fs =>
          unfold cmpFs at h
          split at h
          · simp only [Bool.and_eq_true] at h
            simp only [Ty.flat, Bool.and_eq_true]
            exact ⟨ih.1 _ _ h.2.1, ih.2 _ _ _ h.2.2⟩
          · split at h
            · simp only [Bool.and_eq_true] at h; exact ih.1 _ _ h.2
            · cases h
  exact ⟨fun h => (key _).1 _ _ h, fun h => (key _).2 _ _ _ h⟩
theorem szIs_cells {T : TypeId} {s : Nat} (h : szIs P T s = true) : P.cellsOf T = s ∧ ∃ i, P.info? T = some i := by
  unfold szIs at h
  cases hi : P.info? T with
  | none => simp [hi] at h
  | some i =>
    simp only [hi, Option.map_some] at h
    exact ⟨by simp [Program.cellsOf, hi, Nat.eq_of_beq_eq_true h], i, rfl⟩
/-- A part of cells. -/
theorem part_ok {d off : Nat} {T : TypeId} {xs : Array Value} (hc : cmpTy P d T t = true) (hs : szIs P T t.sz = true) (h : t.rty.rel Z w x ((xs.toList.drop off).take t.sz)) : ∃ v, (part T xs off).run P w' = .ok v w' ∧ rv Z w t x v := by
  obtain ⟨k, hk, hagg⟩ := cmpTy_agg hc
  obtain ⟨hsz, i, hi⟩ := szIs_cells hs
  cases ha : t.isAgg
  · have hne : ¬ ((∃ n e, k = .array n e) ∨ ∃ fs, k = .struct fs) := fun hh => by have := hagg.2 hh; rw [ha] at this; cases this
    have hl := t.rty.len h
    rw [t.sz_rty] at hl
    have h1 : t.sz = 1 := by
      unfold cmpTy at hc
      cases d with
      | zero => simp [cmpTy] at hc
      | succ d => cases t <;> simp_all [Ty.sz, Ty.isAgg, cmpTy] <;> (split at hc <;> simp_all)
    obtain ⟨v, hv⟩ : ∃ v, (xs.toList.drop off).take t.sz = [v] := by
      rw [h1] at hl ⊢
      exact List.length_eq_one_iff.1 hl
    refine ⟨v, ?_, rv_of_one ha (by rw [← hv]; exact h)⟩
    have hx := getElem?_of_chunk hv
    cases k <;> simp_all [part, isAgg, run_underlying hk]
  · have hl : (xs.extract off (off + P.cellsOf T)).toList = (xs.toList.drop off).take (P.cellsOf T) := by
      rw [Array.toList_extract]
      simp [List.extract]
    refine ⟨.agg (xs.extract off (off + P.cellsOf T)), ?_, ?_⟩
    · rcases hagg.1 ha with ⟨n, e', rfl⟩ | ⟨fs, rfl⟩ <;> simp [part, isAgg, run_underlying hk, run_sizeOf w' hi]
    · have : (Value.agg (xs.extract off (off + P.cellsOf T))) = .agg ((xs.toList.drop off).take t.sz).toArray := by
        rw [← hsz, ← hl]
      rw [this]
      exact rv_of_agg ha h
theorem eqItems_ok {E : TypeId} {D s : Nat} {xs ys : Array Value} {e : Ty} : ∀ (is : List Nat) (X Y : List e.den), is.length = X.length → is.length = Y.length →
    (∀ (j i : Nat) (x y : e.den), is[j]? = some i → X[j]? = some x → Y[j]? = some y → ∃ a c, (part E xs (i * s)).run P w = .ok a w ∧ (part E ys (i * s)).run P w = .ok c w ∧ (Op.equalIn D E a c).run P w = .ok (eqV e x y) w) →
    (Op.eqItems D E s xs ys is).run P w = .ok (eqL (eqV e) X Y) w
  | [], X, Y, h1, h2, _ => by
    obtain rfl : X = [] := List.length_eq_zero_iff.1 h1.symm
    obtain rfl : Y = [] := List.length_eq_zero_iff.1 h2.symm
    simp [Op.eqItems, eqL]
  | i :: is, X, Y, h1, h2, h => by
    cases X with
    | nil => simp at h1
    | cons x X =>
      cases Y with
      | nil => simp at h2
      | cons y Y =>
        obtain ⟨a, c, p1, p2, p3⟩ := h 0 i x y rfl rfl rfl
        have ih := eqItems_ok is X Y (by simpa using h1) (by simpa using h2) fun j i x y q1 q2 q3 => h (j + 1) i x y (by simpa using q1) (by simpa using q2) (by simpa using q3)
        simp only [Op.eqItems, Sem.run_bind, p1, p2, p3, Result.andThen_ok, eqL]
        cases eqV e x y
        · simp
        · simpa using ih
theorem equalIn_ok : ∀ d : Nat, (∀ (T : TypeId) (t : Ty) (x y : t.den) (v u : Value) (D : Nat), cmpTy P d T t = true → d ≤ D → rv Z w t x v → rv Z w t y u → (Op.equalIn D T v u).run P w = .ok (eqV t x y) w) ∧
    ∀ (fs : List Field) (off : Nat) (t : Ty) (x y : t.den) (xs ys : Array Value) (D : Nat), cmpFs P d fs off t = true → d ≤ D → t.rty.rel Z w x ((xs.toList.drop off).take t.sz) → t.rty.rel Z w y ((ys.toList.drop off).take t.sz) →
      (Op.eqFields D xs ys fs).run P w = .ok (eqV t x y) w := by
  intro d
  induction d with
  | zero => exact ⟨fun _ _ _ _ _ _ _ h => by simp [cmpTy] at h, fun _ _ _ _ _ _ _ _ h => by simp [cmpFs] at h⟩
  | succ d ih =>
    have one : ∀ (f : Field) (off : Nat) (t : Ty) (x y : t.den) (xs ys : Array Value) (D : Nat), fldOK P f off t = true → cmpTy P d f.type t = true → d ≤ D → t.rty.rel Z w x ((xs.toList.drop off).take t.sz) → t.rty.rel Z w y ((ys.toList.drop off).take t.sz) →
        f.name ≠ "_" ∧ f.offset = off ∧ ∃ a c, (part f.type xs f.offset).run P w = .ok a w ∧ (part f.type ys f.offset).run P w = .ok c w ∧ (Op.equalIn D f.type a c).run P w = .ok (eqV t x y) w := by
      intro f off t x y xs ys D h1 h2 h3 h4 h5
      simp only [fldOK, Bool.and_eq_true, bne_iff_ne, ne_eq] at h1
      obtain ⟨g1, g2, g3⟩ := h1
      obtain rfl := Nat.eq_of_beq_eq_true g2
      obtain ⟨a, p1, p2⟩ := part_ok (w' := w) h2 g3 h4
      obtain ⟨c, q1, q2⟩ := part_ok (w' := w) h2 g3 h5
      exact ⟨g1, rfl, a, c, p1, q1, ih.1 _ _ _ _ _ _ _ h2 h3 p2 q2⟩
    refine ⟨fun T t x y v u D h hD hv hu => ?_, fun fs off t x y xs ys D h hD hx hy => ?_⟩
    · obtain ⟨D, rfl⟩ : ∃ D', D = D' + 1 := ⟨D - 1, by omega⟩
      have hD : d ≤ D := by omega
      unfold cmpTy at h
      split at h
      · rename_i hT
        split at h
        · have h1 := List.head_eq_of_cons_eq (show [_] = [_] from rv_one rfl hv)
          have h2 := List.head_eq_of_cons_eq (show [_] = [_] from rv_one rfl hu)
          subst h1; subst h2
          rw [run_equalIn_bool w D T _ _ hT, show (x == y) = eqV .bool x y by cases x <;> cases y <;> rfl]
        · cases h
      · rename_i hT
        split at h
        · have h1 := List.head_eq_of_cons_eq (show [_] = [_] from rv_one rfl hv)
          have h2 := List.head_eq_of_cons_eq (show [_] = [_] from rv_one rfl hu)
          subst h1; subst h2
          unfold Hyp.str
          rw [run_equalIn_string w D T _ _ hT]
          congr 1
          rw [Bool.eq_iff_iff, eqV_iff, beq_iff_eq, ByteArray.toList_eq, ByteArray.toList_eq]
        · cases h
      · rename_i k hT
        have num : ∀ {n m : Int} {r : Bool}, v = .int k n → u = .int k m → (r = true ↔ n = m) → (Op.equalIn (D + 1) T v u).run P w = .ok r w := by
          intro n m r h1 h2 h3
          subst h1; subst h2
          rw [run_equalIn_int w D T k k n m hT]
          congr 1
          rw [Bool.eq_iff_iff, h3, beq_iff_eq]
        split at h
        · exact num (List.head_eq_of_cons_eq (show [_] = [_] from rv_one rfl hv)) (List.head_eq_of_cons_eq (show [_] = [_] from rv_one rfl hu)) (by simp only [eqV, decide_eq_true_eq]; constructor <;> intro h <;> first | (subst h; rfl) | exact UInt8.toNat.inj (by omega))
        · exact num (List.head_eq_of_cons_eq (show [_] = [_] from rv_one rfl hv)) (List.head_eq_of_cons_eq (show [_] = [_] from rv_one rfl hu)) (by simp only [eqV, decide_eq_true_eq]; constructor <;> intro h <;> first | (subst h; rfl) | exact UInt16.toNat.inj (by omega))
        · exact num (List.head_eq_of_cons_eq (show [_] = [_] from rv_one rfl hv)) (List.head_eq_of_cons_eq (show [_] = [_] from rv_one rfl hu)) (by simp only [eqV, decide_eq_true_eq]; constructor <;> intro h <;> first | (subst h; rfl) | exact UInt32.toNat.inj (by omega))
        · exact num (List.head_eq_of_cons_eq (show [_] = [_] from rv_one rfl hv)) (List.head_eq_of_cons_eq (show [_] = [_] from rv_one rfl hu)) (by simp only [eqV, decide_eq_true_eq]; constructor <;> intro h <;> first | (subst h; rfl) | exact UInt64.toNat.inj (by omega))
        · simp only [decide_eq_true_eq] at h
          subst h
          exact num (List.head_eq_of_cons_eq (show [_] = [_] from rv_one rfl hv)) (List.head_eq_of_cons_eq (show [_] = [_] from rv_one rfl hu)) (by simp only [eqV, decide_eq_true_eq])
        · cases h
      · rename_i n E hT
        split at h
        · rename_i n' e
          simp only [Bool.and_eq_true] at h
          obtain ⟨h1, h2, h3⟩ := h
          obtain rfl := Nat.eq_of_beq_eq_true h1
          obtain ⟨hsz, i, hi⟩ := szIs_cells h2
          obtain ⟨cs, rfl, g1, g2, g3, g4⟩ := rv_agg rfl hv
          obtain ⟨ds, rfl, k1, k2, k3, k4⟩ := rv_agg rfl hu
          rw [run_equalIn_array w D _ _ hT hi]
          refine eqItems_ok (e := e) (List.range n) x y (by rw [List.length_range]; exact g1.symm) (by rw [List.length_range]; exact k1.symm) fun j i x' y' q1 q2 q3 => ?_
          have hji : j = i := by
            have := List.getElem?_eq_some_iff.1 q1
            obtain ⟨hlt, hh⟩ := this
            rw [List.getElem_range] at hh
            exact hh
          subst hji
          have e1 := g4 j x' q2
          have e2 := k4 j y' q3
          rw [e.sz_rty] at e1 e2
          rw [hsz]
          obtain ⟨a, p1, p2⟩ := part_ok (w' := w) (xs := cs.toArray) (off := j * e.sz) h3 h2 (by simpa using e1)
          obtain ⟨c, p3, p4⟩ := part_ok (w' := w) (xs := ds.toArray) (off := j * e.sz) h3 h2 (by simpa using e2)
          exact ⟨a, c, p1, p3, ih.1 _ _ _ _ _ _ _ h3 hD p2 p4⟩
        · cases h
      · rename_i fs hT
        split at h
        · rename_i t
          simp only [Bool.and_eq_true, Bool.not_eq_true'] at h
          obtain ⟨cs, rfl, g1⟩ := rv_agg rfl hv
          obtain ⟨ds, rfl, k1⟩ := rv_agg rfl hu
          have hfs : P.fieldsOf T = fs := by simp [Program.fieldsOf, hT]
          rw [run_equalIn_struct w D T _ _ (by rw [hfs]; exact hT) h.1, hfs]
          have hl1 := t.rty.len g1
          have hl2 := t.rty.len k1
          rw [t.sz_rty] at hl1 hl2
          have a1 : ((cs.toArray).toList.drop 0).take t.sz = cs := by rw [List.drop_zero, List.take_of_length_le (Nat.le_of_eq hl1)]
          have a2 : ((ds.toArray).toList.drop 0).take t.sz = ds := by rw [List.drop_zero, List.take_of_length_le (Nat.le_of_eq hl2)]
          exact ih.2 fs.toList 0 t x y _ _ D h.2 hD (by rw [a1]; exact g1) (by rw [a2]; exact k1)
        · cases h
      · cases h
    · cases fs with
      | nil =>
        unfold cmpFs at h
        split at h
        · simp [Op.eqFields, eqV]
        · cases h
      | cons f fs =>
        unfold cmpFs at h
        split at h
        · rename_i a b
          simp only [Bool.and_eq_true] at h
          obtain ⟨c1, c2, g0, g1, g2⟩ := hx
          obtain ⟨d1, d2, k0, k1, k2⟩ := hy
          have hc1 := a.rty.len g1
          have hd1 := a.rty.len k1
          rw [a.sz_rty] at hc1 hd1
          have hc2 := b.rty.len g2
          have hd2 := b.rty.len k2
          rw [b.sz_rty] at hc2 hd2
          have cut : ∀ {zs : List Value} {e1 e2 : List Value}, (zs.drop off).take (Ty.pair a b).sz = e1 ++ e2 → e1.length = a.sz → e2.length = b.sz → (zs.drop off).take a.sz = e1 ∧ (zs.drop (off + a.sz)).take b.sz = e2 := by
            intro zs e1 e2 h h1 h2
            have hs : (Ty.pair a b).sz = a.sz + b.sz := rfl
            rw [hs, List.take_add] at h
            have hh := List.append_inj h (by
              have h3 := congrArg List.length h
              simp only [List.length_append, List.length_take, List.length_drop] at h3 ⊢
              omega)
            rw [List.drop_drop] at hh
            exact hh
          obtain ⟨m1, m2⟩ := cut g0 hc1 hc2
          obtain ⟨n1, n2⟩ := cut k0 hd1 hd2
          obtain ⟨q1, q2, a', c', p1, p2, p3⟩ := one f off a x.1 y.1 xs ys D h.1 h.2.1 (by omega) (by rw [m1]; exact g1) (by rw [n1]; exact k1)
          have rest := ih.2 fs (off + a.sz) b x.2 y.2 xs ys D h.2.2 (by omega) (by rw [m2]; exact g2) (by rw [n2]; exact k2)
          simp only [Op.eqFields, q1, ne_eq, not_false_eq_true, if_true, Sem.run_bind, p1, p2, p3, Result.andThen_ok, eqV]
          cases eqV a x.1 y.1
          · simp
          · simpa using rest
        · split at h
          · simp only [Bool.and_eq_true] at h
            obtain ⟨q1, q2, a', c', p1, p2, p3⟩ := one f off t x y xs ys D h.1 h.2 (by omega) hx hy
            simp only [Op.eqFields, q1, ne_eq, not_false_eq_true, if_true, Sem.run_bind, p1, p2, p3, Result.andThen_ok]
            cases eqV t x y <;> simp
          · cases h
theorem equal_ok {d : Nat} {T : TypeId} (hc : cmpTy P d T t = true) (hd : d ≤ 10000) (hv : rv Z w t x v) (hu : rv Z w t y u) : (Op.equal T v u).run P w = .ok (eqV t x y) w := (equalIn_ok d).1 _ _ _ _ _ _ _ hc hd hv hu
end
end Hyp
