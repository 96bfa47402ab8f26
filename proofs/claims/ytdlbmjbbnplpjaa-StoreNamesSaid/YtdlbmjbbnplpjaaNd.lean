/- From the arguments of a row, whatever their types, to a call at the top. -/
import Derived.Test.YtdlbmjbbnplpjaaNc
import Derived.Test.YtdlbmjbbnplpjaaXj
import Derived.WideShapes
import Derived.OpenShut
set_option linter.unusedVariables false
set_option linter.unusedSimpArgs false
namespace Hyp
open Go
def rdFld (P : Program) (f : Field) (off : Nat) (t : Ty) : Bool := Nat.beq f.offset off && szIs P f.type t.sz
mutual
/-- A Go type whose arguments are data of t. -/
def rdTy (P : Program) : Nat → TypeId → Ty → Bool
  | 0, _, _ => false
  | d + 1, T, t => match P.underlying T with
    | some .bool => (match t with | .bool => true | _ => false)
    | some .string => (match t with | .str => true | _ => false)
    | some (.int k) => (match k, t with
      | .u8, .u8 => true
      | .u16, .u16 => true
      | .u32, .u32 => true
      | .u64, .u64 => true
      | k, .sint k' => decide (k = k')
      | _, _ => false)
    | some (.array n E) => (match t with | .arr n' e => Nat.beq n n' && (szIs P E e.sz && rdTy P d E e) | _ => false)
    | some (.slice E) => (match t with | .list e => szIs P E e.sz && rdTy P d E e | _ => false)
    | some (.struct fs) => (match t with | .rcd t => rdFs P d fs.toList 0 t | _ => false)
    | _ => false
def rdFs (P : Program) : Nat → List Field → Nat → Ty → Bool
  | 0, _, _, _ => false
  | d + 1, [], _, t => false
  | d + 1, f :: fs, off, t => (match t with
    | .pair a b => rdFld P f off a && (rdTy P d f.type a && rdFs P d fs (off + a.sz) b)
    | t => (match fs with | [] => rdFld P f off t && rdTy P d f.type t | _ => false))
end
/-- A law's summary, of what its function comes to. -/
theorem law_of {S : Tree MR} {t : Tree Bool} (h : t.Runs (· = true)) (e : S = .sub t fun r => .ret (.val .bool r, [], 0)) : S.Runs fun r => r.1 = .val .bool true ∧ r.2.1 = [] := by
  subst e
  exact Tree.Runs.mono (t := t) h fun y hy => by subst hy; exact ⟨rfl, rfl⟩
/-- What an argument's datum is like. -/
def Ty.ok : (t : Ty) → t.den → Prop
  | .sint k, x => k.min ≤ x ∧ x ≤ k.max
  | .u8, _ | .u16, _ | .u32, _ | .u64, _ | .bool, _ | .unit, _ => True
  | .str, x => x.length ≤ maxLen
  | .arr n e, xs => xs.length = n ∧ ∀ x ∈ xs, e.ok x
  | .pair a b, x => a.ok x.1 ∧ b.ok x.2
  | .rcd t, x => t.ok x
  | .list e, xs => xs.length ≤ maxLen ∧ ∀ x ∈ xs, e.ok x
section
variable {P : Program} {T E : TypeId} {t e : Ty}
theorem Reads.int {k : IntKind} (ht : P.underlying T = some (.int k)) (hc : P.cellsOf T = 1) : Reads P T (.ofEnc (EK k)) (Ty.sint k).ok := by
  refine ⟨hc, fun {H enc w fuel cs x} h => ?_⟩
  obtain ⟨m, rfl, _, hw⟩ := DataW.trod_int ht h
  have h1 : k.min ≤ m ∧ m ≤ k.max := by simpa [Lit.wf] using hw
  exact ⟨m, h1, rfl⟩
theorem Reads.u16 (ht : P.underlying T = some (.int .u16)) (hc : P.cellsOf T = 1) : Reads P T (.ofEnc E16) (Ty.u16).ok := by
  refine ⟨hc, fun {H enc w fuel cs x} h => ?_⟩
  obtain ⟨m, rfl, _, hw⟩ := DataW.trod_int ht h
  simp [Lit.wf, IntKind.min, IntKind.max, IntKind.signed, IntKind.bits] at hw
  refine ⟨UInt16.ofNat m.toNat, trivial, ?_⟩
  have h1 : ((UInt16.ofNat m.toNat).toNat : Int) = m := by rw [UInt16.toNat_ofNat']; omega
  show [Value.int .u16 m] = [Value.int .u16 ((UInt16.ofNat m.toNat).toNat : Int)]
  rw [h1]
theorem Reads.u32 (ht : P.underlying T = some (.int .u32)) (hc : P.cellsOf T = 1) : Reads P T (.ofEnc E32) (Ty.u32).ok := by
  refine ⟨hc, fun {H enc w fuel cs x} h => ?_⟩
  obtain ⟨m, rfl, _, hw⟩ := DataW.trod_int ht h
  simp [Lit.wf, IntKind.min, IntKind.max, IntKind.signed, IntKind.bits] at hw
  refine ⟨UInt32.ofNat m.toNat, trivial, ?_⟩
  have h1 : ((UInt32.ofNat m.toNat).toNat : Int) = m := by rw [UInt32.toNat_ofNat']; omega
  show [Value.int .u32 m] = [Value.int .u32 ((UInt32.ofNat m.toNat).toNat : Int)]
  rw [h1]
theorem Reads.u64 (ht : P.underlying T = some (.int .u64)) (hc : P.cellsOf T = 1) : Reads P T (.ofEnc E64) (Ty.u64).ok := by
  refine ⟨hc, fun {H enc w fuel cs x} h => ?_⟩
  obtain ⟨m, rfl, _, hw⟩ := DataW.trod_int ht h
  simp [Lit.wf, IntKind.min, IntKind.max, IntKind.signed, IntKind.bits] at hw
  refine ⟨UInt64.ofNat m.toNat, trivial, ?_⟩
  have h1 : ((UInt64.ofNat m.toNat).toNat : Int) = m := by rw [UInt64.toNat_ofNat']; omega
  show [Value.int .u64 m] = [Value.int .u64 ((UInt64.ofNat m.toNat).toNat : Int)]
  rw [h1]
theorem Reads.arr {n : Nat} (ht : P.underlying T = some (.array n E)) (hc : P.cellsOf T = n * e.sz) (h : Reads P E e.rty e.ok) : Reads P T (RV n e.rty) (Ty.arr n e).ok := by
  have hz := e.sz_rty
  refine ⟨by rw [hc]; show _ = n * e.rty.sz; rw [hz], fun {H enc w fuel cs x} hx => ?_⟩
  obtain ⟨xs, m, rfl, rfl, hl, hxs, hf⟩ := DataW.trod_array ht hx
  have hE := h.sz
  rw [hz] at hE
  have key : ∀ k, k ≤ n → ∃ ys : List e.den, ys.length = k ∧ (∀ y ∈ ys, e.ok y) ∧ ones (cs.take (k * e.sz)) = true ∧ ∀ i y, ys[i]? = some y → e.rty.rel (Old w) w y ((cs.drop (i * e.sz)).take e.sz) := by
    intro k
    induction k with
    | zero => intro _; exact ⟨[], rfl, by simp, by simp [ones], by simp⟩
    | succ k ih =>
      intro hk
      obtain ⟨ys, h1, h2, h3, h4⟩ := ih (by omega)
      have h5 := hf k (by omega)
      rw [List.getElem?_eq_getElem (by omega), hE] at h5
      obtain ⟨y, hy, ry⟩ := h.read h5
      refine ⟨ys ++ [y], by simp [h1], ?_, ?_, ?_⟩
      · intro z hz
        rcases List.mem_append.1 hz with hz | hz
        · exact h2 z hz
        · rw [List.mem_singleton.1 hz]; exact hy
      · rw [Nat.succ_mul, List.take_add]
        exact ones_append h3 (e.rty.one ry)
      · intro i z hz
        rcases Nat.lt_or_ge i ys.length with hi | hi
        · exact h4 i z (by rwa [List.getElem?_append_left hi] at hz)
        · rw [List.getElem?_append_right hi] at hz
          have hik : i - ys.length = 0 := by
            have := (List.getElem?_eq_some_iff.1 hz).1
            simp at this; omega
          rw [hik] at hz
          simp only [List.getElem?_cons_zero, Option.some.injEq] at hz
          subst hz
          have : i = k := by omega
          rw [this]; exact ry
  obtain ⟨ys, h1, h2, h3, h4⟩ := key n (Nat.le_refl _)
  rw [List.take_of_length_le (by rw [hl, hc]; exact Nat.le_refl _)] at h3
  exact ⟨ys, ⟨h1, h2⟩, h1, by rw [hl, hc, hz], h3, fun i y hy => by rw [hz]; exact h4 i y hy⟩
theorem reads_ty : ∀ d : Nat, (∀ (T : TypeId) (t : Ty), rdTy P d T t = true → szIs P T t.sz = true → Reads P T t.rty t.ok) ∧
    ∀ (fs : List Field) (off : Nat) (t : Ty), rdFs P d fs off t = true → ReadsT P fs off t.rty t.ok := by
  intro d
  induction d with
  | zero => exact ⟨fun _ _ h => by simp [rdTy] at h, fun _ _ _ h => by simp [rdFs] at h⟩
  | succ d ih =>
    have fld : ∀ {f : Field} {off : Nat} {t : Ty}, rdFld P f off t = true → rdTy P d f.type t = true → f.offset = off ∧ Reads P f.type t.rty t.ok := by
      intro f off t h1 h2
      simp only [rdFld, Bool.and_eq_true] at h1
      exact ⟨Nat.eq_of_beq_eq_true h1.1, ih.1 _ _ h2 h1.2⟩
    refine ⟨fun T t h hs => ?_, fun fs off t h => ?_⟩
    · have hsz := (szIs_cells hs).1
      unfold rdTy at h
      split at h
      · rename_i hT
        split at h
        · have := Reads.bool hT hsz
          exact ⟨this.sz, fun hx => by obtain ⟨a, _, r⟩ := this.read hx; exact ⟨a, trivial, r⟩⟩
        · cases h
      · rename_i hT
        split at h
        · exact Reads.str hT hsz
        · cases h
      · rename_i k hT
        split at h
        · have := Reads.u8 hT hsz
          exact ⟨this.sz, fun hx => by obtain ⟨a, _, r⟩ := this.read hx; exact ⟨a, trivial, r⟩⟩
        · exact Reads.u16 hT hsz
        · exact Reads.u32 hT hsz
        · exact Reads.u64 hT hsz
        · simp only [decide_eq_true_eq] at h
          subst h
          exact Reads.int hT hsz
        · cases h
      · rename_i n E hT
        split at h
        · rename_i n' e
          simp only [Bool.and_eq_true] at h
          obtain rfl := Nat.eq_of_beq_eq_true h.1
          exact Reads.arr hT hsz (ih.1 _ _ h.2.2 h.2.1)
        · cases h
      · rename_i E hT
        split at h
        · rename_i e
          simp only [Bool.and_eq_true] at h
          exact Reads.slice hT hsz (ih.1 _ _ h.2 h.1)
        · cases h
      · rename_i fs hT
        split at h
        · rename_i t
          have : Reads P T t.rty t.ok := Reads.struct hT (by rw [hsz]; exact t.sz_rty.symm) (ih.2 _ _ _ h)
          exact this
        · cases h
      · cases h
    · cases fs with
      | nil => simp [rdFs] at h
      | cons f fs =>
        unfold rdFs at h
        split at h
        · rename_i a b
          simp only [Bool.and_eq_true] at h
          obtain ⟨h1, h2⟩ := fld h.1 h.2.1
          have h3 := ih.2 _ _ _ h.2.2
          rw [← a.sz_rty] at h3
          exact ReadsT.cons h1 h2 h3
        · split at h
          · simp only [Bool.and_eq_true] at h
            obtain ⟨h1, h2⟩ := fld h.1 h.2
            exact ReadsT.one h1 h2
          · cases h
open Go.WideShapes in
/-- An argument. -/
theorem arg_ok {H : Type} {enc : TypeId × Value → H} {w : World} {base : Nat} {r : Reach} {v : Value} {dd : DataW H} {ps : List MemPlace} (hrd : rdTy P deep T t = true) (hs : szIs P T t.sz = true) (hd : DataW.Trod enc P w 0 (fun _ => true) true T v dd ps)
    (hok : Value.okWide P w r base T v) : ∃ x : t.den, t.ok x ∧ slotR nu0 0 ((topB w).Z []) w (explode t x) v := by
  obtain ⟨fuel, hf⟩ := hd
  obtain ⟨x, hx, hr⟩ := ((reads_ty deep).1 T t hrd hs).read hf
  refine ⟨x, hx, .of (explode_avV ?_)⟩
  have hr2 : t.rty.rel ((topB w).Z []) w x v.cells.toList := t.rty.go hr fun b _ _ => ⟨topZ w b, rfl⟩
  have agg : ∀ cs, v = .agg cs → t.isAgg = true → rv ((topB w).Z []) w t x v := by
    rintro cs rfl ht
    exact rv_of_agg (cs := cs.toList) ht hr2
  have one : v.cells = #[v] → t.isAgg = false → rv ((topB w).Z []) w t x v := by
    intro hv ht
    rw [hv] at hr2
    exact rv_of_one ht hr2
  have hrd' : rdTy P (39 + 1) T t = true := hrd
  unfold rdTy at hrd'
  split at hrd'
  · rename_i hT
    split at hrd'
    · obtain ⟨b, rfl⟩ := okWide_bool hT hok; exact one rfl rfl
    · cases hrd'
  · rename_i hT
    split at hrd'
    · obtain ⟨b, rfl⟩ := okWide_string hT hok; exact one rfl rfl
    · cases hrd'
  · rename_i k hT
    obtain ⟨n, rfl⟩ := okWide_int hT hok
    split at hrd' <;> first | exact one rfl rfl | cases hrd'
  · rename_i n E hT
    split at hrd'
    · simp only [Value.okWide, hT] at hok
      obtain ⟨cs, rfl, _⟩ := hok
      exact agg cs rfl rfl
    · cases hrd'
  · rename_i E hT
    split at hrd'
    · obtain ⟨a, l, c, rfl⟩ := okWide_slice hT hok; exact one rfl rfl
    · cases hrd'
  · rename_i fs hT
    split at hrd'
    · obtain ⟨cs, rfl, _⟩ := okWide_struct hT hok
      exact agg cs rfl rfl
    · cases hrd'
  · cases hrd'
end
end Hyp
