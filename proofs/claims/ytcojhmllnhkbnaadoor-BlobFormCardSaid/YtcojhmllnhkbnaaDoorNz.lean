/- Arguments whose sizes are known: each slice takes at most reachBytes bytes. -/
import Derived.Test.YtcojhmllnhkbnaaDoorZD
import Derived.SizedLaws
set_option linter.unusedVariables false
set_option linter.unusedSimpArgs false
namespace Hyp
open Go
def Ty.lo : Ty → Nat
  | .sint .i64 => 8
  | .sint _ => 1
  | .u8 => 1
  | .u16 => 2
  | .u32 => 4
  | .u64 => 8
  | .bool => 1
  | .str => 16
  | .arr n e => n * e.lo
  | .pair a b => a.lo + b.lo
  | .rcd t => t.lo
  | .list _ => 24
  | .unit => 0
mutual
def rdTyW (P : Program) : Nat → TypeId → Ty → Bool
  | 0, _, _ => false
  | d + 1, T, t => match P.underlying T with
    | some .bool => (match t with | .bool => true | _ => false)
    | some .string => (match t with | .str => true | _ => false)
    | some (.int k) => (match k, t with
      | .u8, .u8 => true
      | .u16, .u16 => true
      | .u32, .u32 => true
      | .u64, .u64 => true
      | k, .sint k' => decide (k = k')
      | _, _ => false)
    | some (.array n E) => (match t with | .arr n' e => Nat.beq n n' && (szIs P E e.sz && rdTyW P d E e) | _ => false)
    | some (.slice E) => (match t with | .list e => Nat.ble e.lo (P.bytesOf E) && (szIs P E e.sz && rdTyW P d E e) | _ => false)
    | some (.struct fs) => (match t with | .rcd t => rdFsW P d fs.toList 0 t | _ => false)
    | _ => false
def rdFsW (P : Program) : Nat → List Field → Nat → Ty → Bool
  | 0, _, _, _ => false
  | d + 1, [], _, t => false
  | d + 1, f :: fs, off, t => (match t with
    | .pair a b => rdFld P f off a && (rdTyW P d f.type a && rdFsW P d fs (off + a.sz) b)
    | t => (match fs with | [] => rdFld P f off t && rdTyW P d f.type t | _ => false))
end
def Ty.okW : (t : Ty) → t.den → Prop
  | .sint k, x => k.min ≤ x ∧ x ≤ k.max
  | .u8, _ | .u16, _ | .u32, _ | .u64, _ | .bool, _ | .unit, _ => True
  | .str, x => x.length ≤ maxLen ∧ x.length ≤ reachBytes
  | .arr n e, xs => xs.length = n ∧ ∀ x ∈ xs, e.okW x
  | .pair a b, x => a.okW x.1 ∧ b.okW x.2
  | .rcd t, x => t.okW x
  | .list e, xs => (xs.length ≤ maxLen ∧ xs.length * e.lo ≤ reachBytes) ∧ ∀ x ∈ xs, e.okW x
def Small (l : List Nat) : Prop := ∀ m ∈ l, m ≤ reachBytes
structure ReadsW (P : Program) (t : TypeId) {α : Type} (A : RTy α) (Q : α → Prop) : Prop where
  sz : P.cellsOf t = A.sz
  read : ∀ {H : Type} {enc : TypeId × Value → H} {w : World} {fuel : Nat} {cs : List Value} {x : DataW H × List MemPlace}, DataW.trod enc P w 0 (fun _ => true) true fuel t cs = some x → Small (x.1.weights P t) → ∃ a, Q a ∧ A.rel (Old w) w a cs
structure ReadsTW (P : Program) (l : List Field) (off : Nat) {α : Type} (A : RTy α) (Q : α → Prop) : Prop where
  read : ∀ {H : Type} {enc : TypeId × Value → H} {w : World} {n : Nat} {cs : List Value}, (∀ (i : Nat) (f : Field), l[i]? = some f → ∃ x, DataW.trod enc P w 0 (fun _ => true) true n f.type ((cs.drop f.offset).take (P.cellsOf f.type)) = some x ∧ Small (x.1.weights P f.type)) →
    cs.length = off + A.sz → ∃ a, Q a ∧ A.rel (Old w) w a (cs.drop off)
theorem weights_mem_all {H : Type} {P : Program} {e : TypeId} : ∀ {ds : List (DataW H)} {j : Nat} {d : DataW H}, ds[j]? = some d → ∀ n ∈ d.weights P e, n ∈ DataW.weightsAll P e ds
  | d0 :: ds, 0, d, hd, n, hn => by
    simp only [List.getElem?_cons_zero, Option.some.injEq] at hd
    subst hd
    simp only [DataW.weightsAll, List.mem_append]
    exact Or.inl hn
  | d0 :: ds, j + 1, d, hd, n, hn => by
    simp only [List.getElem?_cons_succ] at hd
    simp only [DataW.weightsAll, List.mem_append]
    exact Or.inr (weights_mem_all hd n hn)
  | [], _, _, hd, _, _ => by simp at hd
section
variable {P : Program} {t e : TypeId}
theorem ReadsW.of {α : Type} {A : RTy α} {Q R : α → Prop} (h : Reads P t A Q) (hq : ∀ a, Q a → R a) : ReadsW P t A R :=
  ⟨h.sz, fun hx _ => by obtain ⟨a, ha, r⟩ := h.read hx; exact ⟨a, hq a ha, r⟩⟩
theorem ReadsW.str (ht : P.underlying t = some .string) (hc : P.cellsOf t = 1) : ReadsW P t (.ofEnc ES) (fun x : List UInt8 => x.length ≤ maxLen ∧ x.length ≤ reachBytes) := by
  refine ⟨hc, fun {H enc w fuel cs x} h hw => ?_⟩
  obtain ⟨s, rfl, hx, hs⟩ := DataW.trod_string ht h
  have hm : s.data.toList.length ≤ reachBytes := by
    rw [hx] at hw
    exact hw _ (by simp [DataW.weights])
  refine ⟨s.data.toList, ⟨by rw [Array.length_toList]; exact hs, hm⟩, ?_⟩
  show [Value.string s] = [Hyp.str s.data.toList]
  simp [Hyp.str]
theorem ReadsTW.one {α : Type} {A : RTy α} {Q : α → Prop} {f : Field} {off : Nat} (ho : f.offset = off) (h : ReadsW P f.type A Q) : ReadsTW P [f] off A Q := by
  refine ⟨fun {H enc w n cs} hx hl => ?_⟩
  subst ho
  obtain ⟨x, hx, hm⟩ := hx 0 f rfl
  rw [h.sz, List.take_of_length_le (by rw [List.length_drop, hl]; omega)] at hx
  exact h.read hx hm
theorem ReadsTW.cons {α β : Type} {A : RTy α} {B : RTy β} {Q : α → Prop} {R : β → Prop} {f : Field} {l : List Field} {off : Nat} (ho : f.offset = off) (h : ReadsW P f.type A Q) (hr : ReadsTW P l (off + A.sz) B R) :
    ReadsTW P (f :: l) off (RP A B) (QP Q R) := by
  refine ⟨fun {H enc w n cs} hx hl => ?_⟩
  subst ho
  have hl' : cs.length = f.offset + A.sz + B.sz := by rw [hl]; show f.offset + (A.sz + B.sz) = _; omega
  obtain ⟨v, hv, rv⟩ := hr.read (fun i g hg => hx (i + 1) g (by simpa using hg)) hl'
  obtain ⟨x, hx, hm⟩ := hx 0 f rfl
  rw [h.sz] at hx
  obtain ⟨u, hu, ru⟩ := h.read hx hm
  refine ⟨(u, v), ⟨hu, hv⟩, _, _, ?_, ru, rv⟩
  rw [← List.drop_drop, List.take_append_drop]
theorem ReadsW.struct {α : Type} {A : RTy α} {Q : α → Prop} {fs : Array Field} (ht : P.underlying t = some (.struct fs)) (hc : P.cellsOf t = A.sz) {l : List Field} (h : ReadsTW P l 0 A Q) (hl : fs.toList = l := by rfl) : ReadsW P t A Q := by
  subst hl
  refine ⟨hc, fun {H enc w fuel cs x} hx hm => ?_⟩
  obtain ⟨xs, n, rfl, rfl, hl, hxs, hf⟩ := DataW.trod_struct ht hx
  have := h.read (cs := cs) (n := n) (enc := enc) (w := w) (fun i f hi => by
    have hi' : fs[i]? = some f := by simpa using hi
    have hlt : i < xs.length := by rw [hxs]; exact (Array.getElem?_eq_some_iff.1 hi').1
    refine ⟨xs[i], by rw [hf i f hi', List.getElem?_eq_getElem hlt], fun m hm' => hm m ?_⟩
    simp only [DataW.weights, ht]
    exact DataW.weights_mem_each (j := i) (t := f.type) (d := xs[i].1) (by simp [hi']) (by simp [hlt]) m hm') (by rw [hl, hc]; omega)
  simpa using this
theorem ReadsW.slice {α : Type} {A : RTy α} {Q : α → Prop} (ht : P.underlying t = some (.slice e)) (hc : P.cellsOf t = 1) (h : ReadsW P e A Q) {k : Nat} (hk : k ≤ P.bytesOf e) : ReadsW P t (RS A) (fun xs : List α => (xs.length ≤ maxLen ∧ xs.length * k ≤ reachBytes) ∧ ∀ x ∈ xs, Q x) := by
  refine ⟨hc, fun {H enc w fuel cs x} hx hw => ?_⟩
  rcases Go.Deep.open_slice ht hx with ⟨rfl, _⟩ | ⟨a, len, cap, m, n, D, Pl, rfl, _, hl, hm, hmm, rfl, hel⟩
  · exact ⟨[], ⟨⟨Nat.zero_le _, by simp⟩, by simp⟩, _, rfl, [], Sl.nil _ _, by simp, rfl, by simp⟩
  · simp only [if_true] at hmm
    rw [h.sz] at hel
    simp only [DataW.weights, ht] at hw
    have hsz : (len + (m - len)) * P.bytesOf e ≤ reachBytes := by
      have := hw _ (List.mem_cons_self ..)
      simpa using this
    have hel' : ∀ i, i < len → Small ((D i).weights P e) := fun i hi n hn => hw n (List.mem_cons_of_mem _ (List.mem_append_left _ (weights_mem_all (j := i) (by simp [hi]) n hn)))
    have hlk : len * k ≤ reachBytes := Nat.le_trans (Nat.mul_le_mul (by omega) hk) hsz
    clear hw
    have key : ∀ k, k ≤ len → ∃ (xs : List α) (cs : List Value), xs.length = k ∧ cs.length = k * A.sz ∧ ones cs = true ∧ (∀ x ∈ xs, Q x) ∧ (∀ j v, cs[j]? = some v → w.cell? (a.add j) = some v) ∧
        ∀ i x, xs[i]? = some x → A.rel (Old w) w x ((cs.drop (i * A.sz)).take A.sz) := by
      intro k
      induction k with
      | zero => intro _; exact ⟨[], [], rfl, by simp, rfl, by simp, by simp, by simp⟩
      | succ k ih =>
        intro hk
        obtain ⟨xs, cs, h1, h2, h3, h4, h5, h6⟩ := ih (by omega)
        obtain ⟨cs', g1, g2⟩ := hel k (by rw [hmm]; omega)
        obtain ⟨y, hy, ry⟩ := h.read g2 (hel' k (by omega))
        obtain ⟨_, g3, g4⟩ := World.cells?_some g1
        refine ⟨xs ++ [y], cs ++ cs', by simp [h1], by rw [List.length_append, h2, g3, Nat.succ_mul], ones_append h3 (A.one ry), ?_, ?_, ?_⟩
        · intro z hz
          rcases List.mem_append.1 hz with hz | hz
          · exact h4 z hz
          · rw [List.mem_singleton.1 hz]; exact hy
        · intro j v hv
          rcases Nat.lt_or_ge j cs.length with hj | hj
          · exact h5 j v (by rwa [List.getElem?_append_left hj] at hv)
          · rw [List.getElem?_append_right hj] at hv
            have hj2 : j - cs.length < A.sz := by rw [← g3]; exact (List.getElem?_eq_some_iff.1 hv).1
            have h7 := g4 _ hj2
            rw [hv] at h7
            rw [add_add', h2] at h7
            rw [← h7]
            congr 1
            congr 1
            omega
        · intro i z hz
          rcases Nat.lt_or_ge i xs.length with hi | hi
          · have hz' : xs[i]? = some z := by rwa [List.getElem?_append_left hi] at hz
            have h7 := h6 i z hz'
            have hle : (i + 1) * A.sz ≤ cs.length := by rw [h2, ← h1]; exact Nat.mul_le_mul_right _ hi
            rw [Nat.succ_mul] at hle
            rw [List.drop_append_of_le_length (by omega), List.take_append_of_le_length (by rw [List.length_drop]; omega)]
            exact h7
          · rw [List.getElem?_append_right hi] at hz
            have : i = k := by
              have := (List.getElem?_eq_some_iff.1 hz).1
              simp at this; omega
            subst this
            have hzy : y = z := by simpa [h1] using hz
            subst hzy
            rw [← h2, List.drop_left, List.take_of_length_le (by omega)]
            exact ry
    obtain ⟨xs, cs, h1, h2, h3, h4, h5, h6⟩ := key len (Nat.le_refl _)
    have his : IsSl (.slice (some a) len cap) len := ⟨_, _, rfl, hl, hm, fun h => by cases h⟩
    refine ⟨xs, ⟨⟨by omega, by rw [h1]; exact hlk⟩, h4⟩, _, rfl, cs, ?_, by rw [h2, h1], h3, h6⟩
    subst h1
    refine ⟨his, ?_⟩
    by_cases hne : cs = []
    · exact .inl hne
    · have hat := At.of_cells hne h5
      exact .inr ⟨a, ⟨_, rfl⟩, hat.lt, hat⟩
end
section
variable {P : Program} {T E : TypeId} {t e : Ty}
theorem ReadsW.arr {n : Nat} (ht : P.underlying T = some (.array n E)) (hc : P.cellsOf T = n * e.sz) (h : ReadsW P E e.rty e.okW) : ReadsW P T (RV n e.rty) (Ty.arr n e).okW := by
  have hz := e.sz_rty
  refine ⟨by rw [hc]; show _ = n * e.rty.sz; rw [hz], fun {H enc w fuel cs x} hx hw => ?_⟩
  obtain ⟨xs, m, rfl, rfl, hl, hxs, hf⟩ := DataW.trod_array ht hx
  have hE := h.sz
  simp only [DataW.weights, ht] at hw
  have hel' : ∀ i (hi : i < xs.length), Small (xs[i].1.weights P E) := fun i hi n hn => hw n (weights_mem_all (j := i) (by simp [hi]) n hn)
  clear hw
  rw [hz] at hE
  have key : ∀ k, k ≤ n → ∃ ys : List e.den, ys.length = k ∧ (∀ y ∈ ys, e.okW y) ∧ ones (cs.take (k * e.sz)) = true ∧ ∀ i y, ys[i]? = some y → e.rty.rel (Old w) w y ((cs.drop (i * e.sz)).take e.sz) := by
    intro k
    induction k with
    | zero => intro _; exact ⟨[], rfl, by simp, by simp [ones], by simp⟩
    | succ k ih =>
      intro hk
      obtain ⟨ys, h1, h2, h3, h4⟩ := ih (by omega)
      have h5 := hf k (by omega)
      rw [List.getElem?_eq_getElem (by omega), hE] at h5
      obtain ⟨y, hy, ry⟩ := h.read h5 (hel' k (by omega))
      refine ⟨ys ++ [y], by simp [h1], ?_, ?_, ?_⟩
      · intro z hz
        rcases List.mem_append.1 hz with hz | hz
        · exact h2 z hz
        · rw [List.mem_singleton.1 hz]; exact hy
      · rw [Nat.succ_mul, List.take_add]
        exact ones_append h3 (e.rty.one ry)
      · intro i z hz
        rcases Nat.lt_or_ge i ys.length with hi | hi
        · exact h4 i z (by rwa [List.getElem?_append_left hi] at hz)
        · rw [List.getElem?_append_right hi] at hz
          have hik : i - ys.length = 0 := by
            have := (List.getElem?_eq_some_iff.1 hz).1
            simp at this; omega
          rw [hik] at hz
          simp only [List.getElem?_cons_zero, Option.some.injEq] at hz
          subst hz
          have : i = k := by omega
          rw [this]; exact ry
  obtain ⟨ys, h1, h2, h3, h4⟩ := key n (Nat.le_refl _)
  rw [List.take_of_length_le (by rw [hl, hc]; exact Nat.le_refl _)] at h3
  exact ⟨ys, ⟨h1, h2⟩, h1, by rw [hl, hc, hz], h3, fun i y hy => by rw [hz]; exact h4 i y hy⟩
theorem readsW_ty : ∀ d : Nat, (∀ (T : TypeId) (t : Ty), rdTyW P d T t = true → szIs P T t.sz = true → ReadsW P T t.rty t.okW) ∧
    ∀ (fs : List Field) (off : Nat) (t : Ty), rdFsW P d fs off t = true → ReadsTW P fs off t.rty t.okW := by
  intro d
  induction d with
  | zero => exact ⟨fun _ _ h => by simp [rdTyW] at h, fun _ _ _ h => by simp [rdFsW] at h⟩
  | succ d ih =>
    have fld : ∀ {f : Field} {off : Nat} {t : Ty}, rdFld P f off t = true → rdTyW P d f.type t = true → f.offset = off ∧ ReadsW P f.type t.rty t.okW := by
      intro f off t h1 h2
      simp only [rdFld, Bool.and_eq_true] at h1
      exact ⟨Nat.eq_of_beq_eq_true h1.1, ih.1 _ _ h2 h1.2⟩
    refine ⟨fun T t h hs => ?_, fun fs off t h => ?_⟩
    · have hsz := (szIs_cells hs).1
      unfold rdTyW at h
      split at h
      · rename_i hT
        split at h
        · have := Reads.bool hT hsz
          exact .of this fun _ _ => trivial
        · cases h
      · rename_i hT
        split at h
        · exact ReadsW.str hT hsz
        · cases h
      · rename_i k hT
        split at h
        · have := Reads.u8 hT hsz
          exact .of this fun _ _ => trivial
        · exact .of (Reads.u16 hT hsz) fun _ h => h
        · exact .of (Reads.u32 hT hsz) fun _ h => h
        · exact .of (Reads.u64 hT hsz) fun _ h => h
        · simp only [decide_eq_true_eq] at h
          subst h
          exact .of (Reads.int hT hsz) fun _ h => h
        · cases h
      · rename_i n E hT
        split at h
        · rename_i n' e
          simp only [Bool.and_eq_true] at h
          obtain rfl := Nat.eq_of_beq_eq_true h.1
          exact ReadsW.arr hT hsz (ih.1 _ _ h.2.2 h.2.1)
        · cases h
      · rename_i E hT
        split at h
        · rename_i e
          simp only [Bool.and_eq_true] at h
          exact ReadsW.slice hT hsz (ih.1 _ _ h.2.2 h.2.1) (Nat.le_of_ble_eq_true h.1)
        · cases h
      · rename_i fs hT
        split at h
        · rename_i t
          have : ReadsW P T t.rty t.okW := ReadsW.struct hT (by rw [hsz]; exact t.sz_rty.symm) (ih.2 _ _ _ h)
          exact this
        · cases h
      · cases h
    · cases fs with
      | nil => simp [rdFsW] at h
      | cons f fs =>
        unfold rdFsW at h
        split at h
        · rename_i a b
          simp only [Bool.and_eq_true] at h
          obtain ⟨h1, h2⟩ := fld h.1 h.2.1
          have h3 := ih.2 _ _ _ h.2.2
          rw [← a.sz_rty] at h3
          exact ReadsTW.cons h1 h2 h3
        · split at h
          · simp only [Bool.and_eq_true] at h
            obtain ⟨h1, h2⟩ := fld h.1 h.2
            exact ReadsTW.one h1 h2
          · cases h
open Go.WideShapes in
theorem arg_okW {H : Type} {enc : TypeId × Value → H} {w : World} {base : Nat} {r : Reach} {v : Value} {dd : DataW H} {ps : List MemPlace} (hrd : rdTyW P deep T t = true) (hs : szIs P T t.sz = true) (hd : DataW.Trod enc P w 0 (fun _ => true) true T v dd ps)
    (hw : Small (dd.weights P T)) (hok : Value.okWide P w r base T v) : ∃ x : t.den, t.okW x ∧ slotR nu0 0 ((topB w).Z []) w (explode t x) v := by
  obtain ⟨fuel, hf⟩ := hd
  obtain ⟨x, hx, hr⟩ := ((readsW_ty deep).1 T t hrd hs).read hf hw
  refine ⟨x, hx, .of (explode_avV ?_)⟩
  have hr2 : t.rty.rel ((topB w).Z []) w x v.cells.toList := t.rty.go hr fun b _ _ => ⟨topZ w b, rfl⟩
  have agg : ∀ cs, v = .agg cs → t.isAgg = true → rv ((topB w).Z []) w t x v := by
    rintro cs rfl ht
    exact rv_of_agg (cs := cs.toList) ht hr2
  have one : v.cells = #[v] → t.isAgg = false → rv ((topB w).Z []) w t x v := by
    intro hv ht
    rw [hv] at hr2
    exact rv_of_one ht hr2
  have hrd' : rdTyW P (39 + 1) T t = true := hrd
  unfold rdTyW at hrd'
  split at hrd'
  · rename_i hT
    split at hrd'
    · obtain ⟨b, rfl⟩ := okWide_bool hT hok; exact one rfl rfl
    · cases hrd'
  · rename_i hT
    split at hrd'
    · obtain ⟨b, rfl⟩ := okWide_string hT hok; exact one rfl rfl
    · cases hrd'
  · rename_i k hT
    obtain ⟨n, rfl⟩ := okWide_int hT hok
    split at hrd' <;> first | exact one rfl rfl | cases hrd'
  · rename_i n E hT
    split at hrd'
    · simp only [Value.okWide, hT] at hok
      obtain ⟨cs, rfl, _⟩ := hok
      exact agg cs rfl rfl
    · cases hrd'
  · rename_i E hT
    split at hrd'
    · obtain ⟨a, l, c, rfl⟩ := okWide_slice hT hok; exact one rfl rfl
    · cases hrd'
  · rename_i fs hT
    split at hrd'
    · obtain ⟨cs, rfl, _⟩ := okWide_struct hT hok
      exact agg cs rfl rfl
    · cases hrd'
  · cases hrd'
end
end Hyp
