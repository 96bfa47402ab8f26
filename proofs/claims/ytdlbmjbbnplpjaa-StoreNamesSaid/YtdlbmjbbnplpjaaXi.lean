/- Rules over pure data: building, texts, unsigned numbers. -/
import Derived.Test.YtdlbmjbbnplpjaaXe
import Derived.Test.YtdlbmjbbnplpjaaXh
import Derived.Laws.BytesArg
set_option linter.unusedVariables false
set_option linter.unusedSimpArgs false
namespace Hyp
open Go
/-! ### Building a struct, a slice -/
def partsAre (f : Fr) : List (Nat × Operand) → List (Nat × List Value) → Prop
  | [], [] => True
  | (i, x) :: r, (j, c) :: s => i = j ∧ (ev f x).cells.toList = c ∧ partsAre f r s
  | _, _ => False
theorem pc {f : Fr} {x : Operand} {v : Value} {c : List Value} (h : ev f x = v) (hc : v.cells.toList = c) : (ev f x).cells.toList = c := by rw [h, hc]
def fillL (pl : List (Nat × Nat)) : List Value → List (Nat × List Value) → Option (List Value)
  | cs, [] => some cs
  | cs, (i, c) :: r =>
    match pl[i]? with
    | some (off, s) => if Nat.beq c.length s && Nat.ble (off + s) cs.length then fillL pl (splice cs off c) r else none
    | none => none
theorem foldl_splice (off : Nat) : ∀ (ys : List Value) (k : Nat) (cs : Array Value), off + k + ys.length ≤ cs.size →
    (ys.zipIdx k).foldl (fun cs p => cs.setIfInBounds (off + p.2) p.1) cs = (splice cs.toList (off + k) ys).toArray
  | [], k, cs, _ => by simp [splice]
  | y :: ys, k, cs, h => by
    simp only [List.length_cons] at h
    rw [List.zipIdx_cons, List.foldl_cons, foldl_splice off ys (k + 1) _ (by simp; omega)]
    congr 1
    apply List.ext_getElem?
    intro j
    have h1 : (cs.setIfInBounds (off + k) y).toList.length = cs.toList.length := by simp
    rw [splice_get _ _ _ (by rw [h1]; simp; omega), splice_get _ _ _ (by simp; omega)]
    simp only [Array.toList_setIfInBounds, List.length_cons, List.getElem?_set]
    by_cases h2 : j = off + k
    · subst h2
      rw [if_neg (by omega), if_pos rfl, if_pos (by simp; omega), if_pos (by omega)]
      simp
    · by_cases h3 : off + (k + 1) ≤ j ∧ j < off + (k + 1) + ys.length
      · rw [if_pos h3, if_pos (by omega)]
        rw [show j - (off + k) = (j - (off + (k + 1))) + 1 by omega, List.getElem?_cons_succ]
      · rw [if_neg h3, if_neg (by omega), if_neg (by omega)]
theorem fill_of {f : Fr} {pl : List (Nat × Nat)} : ∀ {l : List (Nat × Operand)} {vs : List (Nat × List Value)} {cs cs' : List Value}, partsAre f l vs → fillL pl cs vs = some cs' → Instr.fill (fun i => pl[i]?) cs.toArray (l.map fun p => (p.1, ev f p.2)) = some cs'.toArray
  | [], [], cs, cs', _, h => by simp only [fillL, Option.some.injEq] at h; subst h; rfl
  | [], _ :: _, _, _, hp, _ => hp.elim
  | _ :: _, [], _, _, hp, _ => hp.elim
  | (i, x) :: r, (j, c) :: s', cs, cs', ⟨hij, hcx, hp⟩, h => by
    subst hij; subst hcx
    simp only [fillL] at h
    simp only [List.map_cons, Instr.fill]
    cases hpl : pl[i]? with
    | none => simp [hpl] at h
    | some p =>
      obtain ⟨off, s⟩ := p
      simp only [hpl] at h
      by_cases hc : (Nat.beq (ev f x).cells.toList.length s && Nat.ble (off + s) cs.length) = true
      · rw [if_pos hc] at h
        simp only [Bool.and_eq_true] at hc
        have h1 : (ev f x).cells.toList.length = s := Nat.eq_of_beq_eq_true hc.1
        have h2 := Nat.le_of_ble_eq_true hc.2
        have h3 : (ev f x).cells.size = s := by simpa using h1
        simp only [h3, ne_eq, not_true, decide_false, Bool.false_or, List.size_toArray]
        rw [if_neg (by simp; omega)]
        have h4 := foldl_splice off (ev f x).cells.toList 0 cs.toArray (by simp; omega)
        have h5 : (ev f x).cells.zipIdx.foldl (fun cs p => cs.setIfInBounds (off + p.2) p.1) cs.toArray = ((ev f x).cells.toList.zipIdx 0).foldl (fun cs p => cs.setIfInBounds (off + p.2) p.1) cs.toArray := by
          rw [← Array.foldl_toList]; simp
        have h6 : (ev f x).cells.zipIdx.foldl (fun cs x => match x with | (c, j) => cs.setIfInBounds (off + j) c) cs.toArray = (splice cs off (ev f x).cells.toList).toArray := by
          rw [Nat.add_zero] at h4
          exact h5.trans (by simpa using h4)
        rw [h6]
        exact fill_of hp h
      · rw [if_neg hc] at h; cases h
/-- A struct type's places (offset, size) and its zero. -/
def BuildIs (P : Program) (T : TypeId) (pl : List (Nat × Nat)) (zs : List Value) : Prop :=
  ∃ fs : Array Field, P.underlying T = some (.struct fs) ∧ (∀ w, (fs.mapM fun f => do pure (f.offset, ← Go.sizeOf f.type) : Sem (Array (Nat × Nat))).run P w = .ok pl.toArray w) ∧ ZeroIs P T (.agg zs.toArray)
theorem mapM_places {P : Program} : ∀ (fs : List Field) (pl : List (Nat × Nat)), fs.map (fun f => (P.info? f.type).map fun i => (f.offset, i.size)) = pl.map some → ∀ w, (fs.mapM fun f => do pure (f.offset, ← Go.sizeOf f.type) : Sem (List (Nat × Nat))).run P w = .ok pl w
  | [], [], _, w => rfl
  | f :: fs, [], h, w => by simp at h
  | [], p :: pl, h, w => by simp at h
  | f :: fs, p :: pl, h, w => by
    simp only [List.map_cons, List.cons.injEq] at h
    obtain ⟨h1, h2⟩ := h
    cases hi : P.info? f.type with
    | none => simp [hi] at h1
    | some i =>
      simp only [hi, Option.map_some, Option.some.injEq] at h1
      have hs : (Go.sizeOf f.type).run P w = .ok i.size w := (show SizeIs P f.type i.size from ⟨i, hi, rfl⟩).run
      rw [List.mapM_cons]
      have ih := mapM_places fs pl h2 w
      simp only [Sem.run_bind, hs, Result.andThen_ok, Sem.run_pure, ih, h1]
theorem BuildIs.of {P : Program} {T : TypeId} {pl : List (Nat × Nat)} {zs : List Value} {fs : Array Field} (hu : P.underlying T = some (.struct fs)) (hp : fs.toList.map (fun f => (P.info? f.type).map fun i => (f.offset, i.size)) = pl.map some)
    (hz : (P.info? T).bind (·.zero) = some (.agg zs.toArray)) : BuildIs P T pl zs := by
  refine ⟨fs, hu, fun w => ?_, ZeroIs.of hz⟩
  have h1 := mapM_places fs.toList pl hp w
  rw [Array.mapM_eq_mapM_toList]
  simp only [Sem.run_map, h1, Result.andThen_ok]
section
variable {P : Program} {ty : TypeId} {f : Fr} {w : World} {K : Value → World → Prop} {w0 : World} {o : Nat → Prop} {l l' : List Ent}
theorem o_buildL {T : TypeId} {parts : Array (Nat × Operand)} {pl : List (Nat × Nat)} {zs cs : List Value} {vs : List (Nat × List Value)} (hb : BuildIs P T pl zs) (hp : partsAre f parts.toList vs) (hf : fillL pl zs vs = some cs) (h : K (.agg cs.toArray) w) :
    OpW P (.build T parts) ty f w K := by
  obtain ⟨fs, hu, hpl, hz⟩ := hb
  refine .of_run ?_ h
  have h2 := fill_of hp hf
  simp only [execOp, bare, Instr.build, Sem.run_bind, hz.run, Result.andThen_ok, run_und hu]
  have h3 := hpl w
  rw [h3]
  simp only [Result.andThen_ok, Value.cells]
  have h4 : (parts.map fun (i, x) => (i, ev f x)).toList = parts.toList.map fun p => (p.1, ev f p.2) := by simp
  simp only [h4]
  have h5 : (fun i : Nat => pl.toArray[i]?) = fun i => pl[i]? := by funext i; simp
  rw [h5, h2]
  simp
/-- []T{..}. -/
theorem o_sliceLit {α : Type} {E : Enc α} {xs : List α} {T e sz by_ n : Nat} {parts : Array (Nat × Operand)} {vs : List (Nat × List Value)} {z : Value} (he : ElemIs P T e sz by_) (hz : ZeroIs P e z) (hsz : E.sz = sz) (hn : xs.length = n) (hsm : Nat.ble (n * sz) 16777216 = true)
    (h0 : Nat.blt 0 (n * sz) = true) (hp : partsAre f parts.toList vs)
    (hf : fillL ((List.range n).map fun i => (i * sz, sz)) ((List.range (n * sz)).map fun i => z.cells[i % z.cells.size]!) vs = some (cel E xs)) (H : Own w0 o w l)
    (h : ∀ v w', Own w0 o w' (row sz v xs.length (cel E xs) :: l) → K v w') : OpW P (.buildSlice T n parts) ty f w K := by
  subst hsz; subst hn
  have hlt : 0 < xs.length * E.sz := by have := Nat.le_of_ble_eq_true h0; omega
  have hle : xs.length * E.sz ≤ 16777216 := Nat.le_of_ble_eq_true hsm
  have hpos : 0 < E.sz := by rcases Nat.eq_zero_or_pos E.sz with h | h; · rw [h] at hlt; omega
                             · exact h
  have hxm : xs.length ≤ maxLen := by
    have : xs.length * 1 ≤ xs.length * E.sz := Nat.mul_le_mul_left _ hpos
    have h2 : maxLen = 9223372036854775807 := rfl
    omega
  refine .of_run (v := .slice (some ⟨w.heap.size, 0, none⟩) xs.length xs.length) (w' := w.alloc (.cells ((cel E xs).toArray ++ #[]) e)) ?_ (h _ _ (H.newRow (cel E xs) #[] e E.sz xs.length xs.length (cel_len xs) (Nat.le_refl _) hxm (by simp)))
  have h2 := fill_of hp hf
  have h4 : (parts.map fun (i, x) => (i, ev f x)).toList = parts.toList.map fun p => (p.1, ev f p.2) := by simp
  have h5 : Instr.fill (fun i => some (i * E.sz, E.sz)) (((List.range (xs.length * E.sz)).map fun i => z.cells[i % z.cells.size]!).toArray) (parts.toList.map fun p => (p.1, ev f p.2)) = some (cel E xs).toArray := by
    have key : ∀ (vs : List (Nat × Value)) (cs : Array Value) r, Instr.fill (fun i => ((List.range xs.length).map fun i => (i * E.sz, E.sz))[i]?) cs vs = some r → Instr.fill (fun i => some (i * E.sz, E.sz)) cs vs = some r := by
      intro vs
      induction vs with
      | nil => intro cs r h; exact h
      | cons p vs ih =>
        intro cs r h
        obtain ⟨i, v⟩ := p
        simp only [Instr.fill] at h ⊢
        by_cases hi : i < xs.length
        · have : ((List.range xs.length).map fun i => (i * E.sz, E.sz))[i]? = some (i * E.sz, E.sz) := by simp [hi]
          simp only [this] at h
          split at h
          · cases h
          · rename_i hcond
            rw [if_neg hcond]
            exact ih _ _ h
        · have : ((List.range xs.length).map fun i => (i * E.sz, E.sz))[i]? = none := by simp; omega
          simp only [this] at h
          cases h
    exact key _ _ _ h2
  have h6 : (Array.range (xs.length * E.sz)).map (fun i => z.cells[i % z.cells.size]!) = ((List.range (xs.length * E.sz)).map fun i => z.cells[i % z.cells.size]!).toArray := by
    apply Array.ext'
    simp
  have hz0 : ¬ xs.length * E.sz = 0 := by omega
  have hbig : ¬ (xs.length * E.sz > 2 ^ 24) := by omega
  simp only [execOp, bare, Instr.buildSlice, Sem.run_bind, run_und he.und, Result.andThen_ok, he.size.run, Sem.run_ite, hbig, hz0, if_false, Sem.run_pure, hz.run, h4, h6, h5]
  simp [Go.newRow]
/-! ### Texts -/
theorem o_lenStr' {T : TypeId} {x : Operand} {s : List UInt8} (hu : P.underlying T = some .string) (hx : ev f x = str s) (h : K (i64 (s.length : Int)) w) : OpW P (.call ⟨.builtin .len, #[x], #[T]⟩) ty f w K := by
  refine o_lenStr hu hx ?_
  exact h
theorem str_toList (s : List UInt8) : (ByteArray.mk s.toArray).toList = s := ByteArray.toList_mk s
theorem beq_list (s t : List UInt8) : (s == t) = decide (s = t) := by by_cases h : s = t <;> simp [h]
theorem o_eqlStr {T U : TypeId} {x y : Operand} {s t : List UInt8} (hx : ev f x = str s) (hy : ev f y = str t) (h : K (.bool (decide (s = t))) w) : OpW P (.binOp .eql T x y U) ty f w K :=
  .of_run (by simp [execOp, bare, hx, hy, binOp, eqGuard, str, Op.stringOp, str_toList, beq_list]) h
theorem o_neqStr {T U : TypeId} {x y : Operand} {s t : List UInt8} (hx : ev f x = str s) (hy : ev f y = str t) (h : K (.bool (!decide (s = t))) w) : OpW P (.binOp .neq T x y U) ty f w K :=
  .of_run (by simp [execOp, bare, hx, hy, binOp, eqGuard, str, Op.stringOp, str_toList, beq_list]) h
theorem cel8 (l : List UInt8) : cel E8 l = l.map fun b => u8 b := by
  induction l with
  | nil => rfl
  | cons b l ih => rw [cel_cons, ih]; rfl
/-- string(b) -/
theorem o_bytesStr {S T e : TypeId} {x : Operand} {v : Value} {l : List UInt8} {R : Nat → Prop} (hs : P.underlying S = some (.slice e)) (ht : P.underlying T = some .string) (he : P.underlying e = some (.int .u8)) (hx : ev f x = v)
    (hv : Sl R w v l.length (cel E8 l)) (h : K (str l) w) : OpW P (.convert S T x) ty f w K := by
  have hf := run_first (P := P) (sz := 1) hv (by rw [cel_len]; rfl)
  obtain ⟨⟨a, c, rfl, hn, hc, ha⟩, _⟩ := hv
  refine .of_run ?_ h
  cases a with
  | none =>
    have := ha rfl
    have h0 : l = [] := List.eq_nil_of_length_eq_zero (by omega)
    subst h0
    simp only [execOp, bare, hx, Sem.run_bind, run_convert_bytes_nil w S e hs he _ _ T ht, Result.andThen_ok, Sem.run_pure]
    rfl
  | some ad =>
    simp only [Builtin.firstCells, Nat.mul_one] at hf
    have hl : (loadCells ad l.length).run P w = .ok ((l.map fun b => (b.toNat : Int)).map (Value.int .u8)).toArray w := by
      rw [hf, cel8, List.map_map]
      rfl
    simp only [execOp, bare, hx, Sem.run_bind, run_convert_bytes_string w S T e ad l.length c hs he ht, run_bytesToString w ad l.length c _ hl, foldl_push_bytes, Result.andThen_ok, Sem.run_pure]
    congr 3
    rw [List.map_map]
    have : l.map ((fun n : Int => UInt8.ofNat n.toNat) ∘ fun b => (b.toNat : Int)) = l := by
      rw [List.map_congr_left (g := id)]
      · simp
      · intro b _; simp
    rw [this]
    simp [str, ByteArray.empty, ByteArray.emptyWithCapacity]
    rfl
theorem wrapU8 (a b : UInt8) (n : Int) (h : ∃ q : Int, n = ((a.toNat : Int)) + 256 * q) : IntKind.u8.wrap n = (a.toNat : Int) := by
  obtain ⟨q, rfl⟩ := h
  have := a.toNat_lt
  simp [IntKind.wrap, IntKind.bits, IntKind.signed]
  omega
theorem o_addU8 {T U : TypeId} {x y : Operand} {a b : UInt8} (hx : ev f x = u8 a) (hy : ev f y = u8 b) (h : K (u8 (a + b)) w) : OpW P (.binOp .add T x y U) ty f w K := by
  refine o_add hx hy ?_
  have : IntKind.u8.wrap ((a.toNat : Int) + b.toNat) = ((a + b).toNat : Int) := by
    simp [IntKind.wrap, IntKind.bits, IntKind.signed, UInt8.toNat_add]
  rw [this]; exact h
theorem o_eqlU8 {T U : TypeId} {x y : Operand} {a b : UInt8} (hx : ev f x = u8 a) (hy : ev f y = u8 b) (h : K (.bool (decide (a = b))) w) : OpW P (.binOp .eql T x y U) ty f w K := by
  refine o_eql hx hy ?_
  have : decide ((a.toNat : Int) = b.toNat) = decide (a = b) := by
    rw [decide_eq_decide, Int.ofNat_inj, UInt8.toNat_inj]
  rw [this]; exact h
theorem o_neqU8 {T U : TypeId} {x y : Operand} {a b : UInt8} (hx : ev f x = u8 a) (hy : ev f y = u8 b) (h : K (.bool (!decide (a = b))) w) : OpW P (.binOp .neq T x y U) ty f w K := by
  refine o_neq hx hy ?_
  have : decide ((a.toNat : Int) = b.toNat) = decide (a = b) := by
    rw [decide_eq_decide, Int.ofNat_inj, UInt8.toNat_inj]
  rw [this]; exact h
theorem o_lssU8 {T U : TypeId} {x y : Operand} {a b : UInt8} (hx : ev f x = u8 a) (hy : ev f y = u8 b) (h : K (.bool (decide (a < b))) w) : OpW P (.binOp .lss T x y U) ty f w K := by
  refine o_lss hx hy ?_
  have : decide ((a.toNat : Int) < b.toNat) = decide (a < b) := by
    rw [decide_eq_decide]; simp [UInt8.lt_iff_toNat_lt]
  rw [this]; exact h
theorem o_leqU8 {T U : TypeId} {x y : Operand} {a b : UInt8} (hx : ev f x = u8 a) (hy : ev f y = u8 b) (h : K (.bool (decide (a ≤ b))) w) : OpW P (.binOp .leq T x y U) ty f w K := by
  refine o_leq hx hy ?_
  have : decide ((a.toNat : Int) ≤ b.toNat) = decide (a ≤ b) := by
    rw [decide_eq_decide]; simp [UInt8.le_iff_toNat_le]
  rw [this]; exact h
theorem o_gtrU8 {T U : TypeId} {x y : Operand} {a b : UInt8} (hx : ev f x = u8 a) (hy : ev f y = u8 b) (h : K (.bool (decide (b < a))) w) : OpW P (.binOp .gtr T x y U) ty f w K := by
  refine o_gtr hx hy ?_
  have : decide ((b.toNat : Int) < a.toNat) = decide (b < a) := by
    rw [decide_eq_decide]; simp [UInt8.lt_iff_toNat_lt]
  rw [this]; exact h
theorem o_geqU8 {T U : TypeId} {x y : Operand} {a b : UInt8} (hx : ev f x = u8 a) (hy : ev f y = u8 b) (h : K (.bool (decide (b ≤ a))) w) : OpW P (.binOp .geq T x y U) ty f w K := by
  refine o_geq hx hy ?_
  have : decide ((b.toNat : Int) ≤ a.toNat) = decide (b ≤ a) := by
    rw [decide_eq_decide]; simp [UInt8.le_iff_toNat_le]
  rw [this]; exact h
theorem wrapU16 (a b : UInt16) (n : Int) (h : ∃ q : Int, n = ((a.toNat : Int)) + 65536 * q) : IntKind.u16.wrap n = (a.toNat : Int) := by
  obtain ⟨q, rfl⟩ := h
  have := a.toNat_lt
  simp [IntKind.wrap, IntKind.bits, IntKind.signed]
  omega
theorem o_addU16 {T U : TypeId} {x y : Operand} {a b : UInt16} (hx : ev f x = u16 a) (hy : ev f y = u16 b) (h : K (u16 (a + b)) w) : OpW P (.binOp .add T x y U) ty f w K := by
  refine o_add hx hy ?_
  have : IntKind.u16.wrap ((a.toNat : Int) + b.toNat) = ((a + b).toNat : Int) := by
    simp [IntKind.wrap, IntKind.bits, IntKind.signed, UInt16.toNat_add]
  rw [this]; exact h
theorem o_eqlU16 {T U : TypeId} {x y : Operand} {a b : UInt16} (hx : ev f x = u16 a) (hy : ev f y = u16 b) (h : K (.bool (decide (a = b))) w) : OpW P (.binOp .eql T x y U) ty f w K := by
  refine o_eql hx hy ?_
  have : decide ((a.toNat : Int) = b.toNat) = decide (a = b) := by
    rw [decide_eq_decide, Int.ofNat_inj, UInt16.toNat_inj]
  rw [this]; exact h
theorem o_neqU16 {T U : TypeId} {x y : Operand} {a b : UInt16} (hx : ev f x = u16 a) (hy : ev f y = u16 b) (h : K (.bool (!decide (a = b))) w) : OpW P (.binOp .neq T x y U) ty f w K := by
  refine o_neq hx hy ?_
  have : decide ((a.toNat : Int) = b.toNat) = decide (a = b) := by
    rw [decide_eq_decide, Int.ofNat_inj, UInt16.toNat_inj]
  rw [this]; exact h
theorem o_lssU16 {T U : TypeId} {x y : Operand} {a b : UInt16} (hx : ev f x = u16 a) (hy : ev f y = u16 b) (h : K (.bool (decide (a < b))) w) : OpW P (.binOp .lss T x y U) ty f w K := by
  refine o_lss hx hy ?_
  have : decide ((a.toNat : Int) < b.toNat) = decide (a < b) := by
    rw [decide_eq_decide]; simp [UInt16.lt_iff_toNat_lt]
  rw [this]; exact h
theorem o_leqU16 {T U : TypeId} {x y : Operand} {a b : UInt16} (hx : ev f x = u16 a) (hy : ev f y = u16 b) (h : K (.bool (decide (a ≤ b))) w) : OpW P (.binOp .leq T x y U) ty f w K := by
  refine o_leq hx hy ?_
  have : decide ((a.toNat : Int) ≤ b.toNat) = decide (a ≤ b) := by
    rw [decide_eq_decide]; simp [UInt16.le_iff_toNat_le]
  rw [this]; exact h
theorem o_gtrU16 {T U : TypeId} {x y : Operand} {a b : UInt16} (hx : ev f x = u16 a) (hy : ev f y = u16 b) (h : K (.bool (decide (b < a))) w) : OpW P (.binOp .gtr T x y U) ty f w K := by
  refine o_gtr hx hy ?_
  have : decide ((b.toNat : Int) < a.toNat) = decide (b < a) := by
    rw [decide_eq_decide]; simp [UInt16.lt_iff_toNat_lt]
  rw [this]; exact h
theorem o_geqU16 {T U : TypeId} {x y : Operand} {a b : UInt16} (hx : ev f x = u16 a) (hy : ev f y = u16 b) (h : K (.bool (decide (b ≤ a))) w) : OpW P (.binOp .geq T x y U) ty f w K := by
  refine o_geq hx hy ?_
  have : decide ((b.toNat : Int) ≤ a.toNat) = decide (b ≤ a) := by
    rw [decide_eq_decide]; simp [UInt16.le_iff_toNat_le]
  rw [this]; exact h
theorem wrapU32 (a b : UInt32) (n : Int) (h : ∃ q : Int, n = ((a.toNat : Int)) + 4294967296 * q) : IntKind.u32.wrap n = (a.toNat : Int) := by
  obtain ⟨q, rfl⟩ := h
  have := a.toNat_lt
  simp [IntKind.wrap, IntKind.bits, IntKind.signed]
  omega
theorem o_addU32 {T U : TypeId} {x y : Operand} {a b : UInt32} (hx : ev f x = u32 a) (hy : ev f y = u32 b) (h : K (u32 (a + b)) w) : OpW P (.binOp .add T x y U) ty f w K := by
  refine o_add hx hy ?_
  have : IntKind.u32.wrap ((a.toNat : Int) + b.toNat) = ((a + b).toNat : Int) := by
    simp [IntKind.wrap, IntKind.bits, IntKind.signed, UInt32.toNat_add]
  rw [this]; exact h
theorem o_eqlU32 {T U : TypeId} {x y : Operand} {a b : UInt32} (hx : ev f x = u32 a) (hy : ev f y = u32 b) (h : K (.bool (decide (a = b))) w) : OpW P (.binOp .eql T x y U) ty f w K := by
  refine o_eql hx hy ?_
  have : decide ((a.toNat : Int) = b.toNat) = decide (a = b) := by
    rw [decide_eq_decide, Int.ofNat_inj, UInt32.toNat_inj]
  rw [this]; exact h
theorem o_neqU32 {T U : TypeId} {x y : Operand} {a b : UInt32} (hx : ev f x = u32 a) (hy : ev f y = u32 b) (h : K (.bool (!decide (a = b))) w) : OpW P (.binOp .neq T x y U) ty f w K := by
  refine o_neq hx hy ?_
  have : decide ((a.toNat : Int) = b.toNat) = decide (a = b) := by
    rw [decide_eq_decide, Int.ofNat_inj, UInt32.toNat_inj]
  rw [this]; exact h
theorem o_lssU32 {T U : TypeId} {x y : Operand} {a b : UInt32} (hx : ev f x = u32 a) (hy : ev f y = u32 b) (h : K (.bool (decide (a < b))) w) : OpW P (.binOp .lss T x y U) ty f w K := by
  refine o_lss hx hy ?_
  have : decide ((a.toNat : Int) < b.toNat) = decide (a < b) := by
    rw [decide_eq_decide]; simp [UInt32.lt_iff_toNat_lt]
  rw [this]; exact h
theorem o_leqU32 {T U : TypeId} {x y : Operand} {a b : UInt32} (hx : ev f x = u32 a) (hy : ev f y = u32 b) (h : K (.bool (decide (a ≤ b))) w) : OpW P (.binOp .leq T x y U) ty f w K := by
  refine o_leq hx hy ?_
  have : decide ((a.toNat : Int) ≤ b.toNat) = decide (a ≤ b) := by
    rw [decide_eq_decide]; simp [UInt32.le_iff_toNat_le]
  rw [this]; exact h
theorem o_gtrU32 {T U : TypeId} {x y : Operand} {a b : UInt32} (hx : ev f x = u32 a) (hy : ev f y = u32 b) (h : K (.bool (decide (b < a))) w) : OpW P (.binOp .gtr T x y U) ty f w K := by
  refine o_gtr hx hy ?_
  have : decide ((b.toNat : Int) < a.toNat) = decide (b < a) := by
    rw [decide_eq_decide]; simp [UInt32.lt_iff_toNat_lt]
  rw [this]; exact h
theorem o_geqU32 {T U : TypeId} {x y : Operand} {a b : UInt32} (hx : ev f x = u32 a) (hy : ev f y = u32 b) (h : K (.bool (decide (b ≤ a))) w) : OpW P (.binOp .geq T x y U) ty f w K := by
  refine o_geq hx hy ?_
  have : decide ((b.toNat : Int) ≤ a.toNat) = decide (b ≤ a) := by
    rw [decide_eq_decide]; simp [UInt32.le_iff_toNat_le]
  rw [this]; exact h
theorem wrapU64 (a b : UInt64) (n : Int) (h : ∃ q : Int, n = ((a.toNat : Int)) + 18446744073709551616 * q) : IntKind.u64.wrap n = (a.toNat : Int) := by
  obtain ⟨q, rfl⟩ := h
  have := a.toNat_lt
  simp [IntKind.wrap, IntKind.bits, IntKind.signed]
  omega
theorem o_addU64 {T U : TypeId} {x y : Operand} {a b : UInt64} (hx : ev f x = u64 a) (hy : ev f y = u64 b) (h : K (u64 (a + b)) w) : OpW P (.binOp .add T x y U) ty f w K := by
  refine o_add hx hy ?_
  have : IntKind.u64.wrap ((a.toNat : Int) + b.toNat) = ((a + b).toNat : Int) := by
    simp [IntKind.wrap, IntKind.bits, IntKind.signed, UInt64.toNat_add]
  rw [this]; exact h
theorem o_eqlU64 {T U : TypeId} {x y : Operand} {a b : UInt64} (hx : ev f x = u64 a) (hy : ev f y = u64 b) (h : K (.bool (decide (a = b))) w) : OpW P (.binOp .eql T x y U) ty f w K := by
  refine o_eql hx hy ?_
  have : decide ((a.toNat : Int) = b.toNat) = decide (a = b) := by
    rw [decide_eq_decide, Int.ofNat_inj, UInt64.toNat_inj]
  rw [this]; exact h
theorem o_neqU64 {T U : TypeId} {x y : Operand} {a b : UInt64} (hx : ev f x = u64 a) (hy : ev f y = u64 b) (h : K (.bool (!decide (a = b))) w) : OpW P (.binOp .neq T x y U) ty f w K := by
  refine o_neq hx hy ?_
  have : decide ((a.toNat : Int) = b.toNat) = decide (a = b) := by
    rw [decide_eq_decide, Int.ofNat_inj, UInt64.toNat_inj]
  rw [this]; exact h
theorem o_lssU64 {T U : TypeId} {x y : Operand} {a b : UInt64} (hx : ev f x = u64 a) (hy : ev f y = u64 b) (h : K (.bool (decide (a < b))) w) : OpW P (.binOp .lss T x y U) ty f w K := by
  refine o_lss hx hy ?_
  have : decide ((a.toNat : Int) < b.toNat) = decide (a < b) := by
    rw [decide_eq_decide]; simp [UInt64.lt_iff_toNat_lt]
  rw [this]; exact h
theorem o_leqU64 {T U : TypeId} {x y : Operand} {a b : UInt64} (hx : ev f x = u64 a) (hy : ev f y = u64 b) (h : K (.bool (decide (a ≤ b))) w) : OpW P (.binOp .leq T x y U) ty f w K := by
  refine o_leq hx hy ?_
  have : decide ((a.toNat : Int) ≤ b.toNat) = decide (a ≤ b) := by
    rw [decide_eq_decide]; simp [UInt64.le_iff_toNat_le]
  rw [this]; exact h
theorem o_gtrU64 {T U : TypeId} {x y : Operand} {a b : UInt64} (hx : ev f x = u64 a) (hy : ev f y = u64 b) (h : K (.bool (decide (b < a))) w) : OpW P (.binOp .gtr T x y U) ty f w K := by
  refine o_gtr hx hy ?_
  have : decide ((b.toNat : Int) < a.toNat) = decide (b < a) := by
    rw [decide_eq_decide]; simp [UInt64.lt_iff_toNat_lt]
  rw [this]; exact h
theorem o_geqU64 {T U : TypeId} {x y : Operand} {a b : UInt64} (hx : ev f x = u64 a) (hy : ev f y = u64 b) (h : K (.bool (decide (b ≤ a))) w) : OpW P (.binOp .geq T x y U) ty f w K := by
  refine o_geq hx hy ?_
  have : decide ((b.toNat : Int) ≤ a.toNat) = decide (b ≤ a) := by
    rw [decide_eq_decide]; simp [UInt64.le_iff_toNat_le]
  rw [this]; exact h
end
end Hyp
namespace Hyp
open Go
theorem C_cut {P : Program} {n : Nat} {Q : Post} {f : Fr} {w : World} {x : Code} (J : Fr → World → Prop) (h1 : C P n x (thenQ J Q) f w) (h2 : ∀ f w, J f w → Q .normal f w) : C P n x Q f w := by
  refine C_mono h1 ?_
  intro e f w h
  cases e <;> first
    | exact h2 _ _ h
    | exact h
theorem ones_nil : ones [] = true := rfl
theorem ones_cons {v : Value} {l : List Value} (h : v.oneCell' = true) (hl : ones l = true) : ones (v :: l) = true := by
  simp only [ones, List.all_cons, Bool.and_eq_true]
  exact ⟨h, hl⟩
theorem cells_sl {v : Value} {n : Nat} (h : IsSl v n) : v.cells.toList = [v] := by obtain ⟨a, c, rfl, _⟩ := h; rfl
theorem onec {v : Value} {n : Nat} (h : IsSl v n) : v.oneCell' = true := by obtain ⟨a, c, rfl, _⟩ := h; rfl
theorem Sl.lessP {S o : Nat → Prop} {w0 w : World} {l : List Ent} {v : Value} {n : Nat} {xs : List Value} (h : Sl (TT S o w0 l) w v n xs) (ks : List Nat) : Sl (TT S o w0 (Hyp.pick l ks)) w v n xs :=
  h.less fun e he => let ⟨_, _, hk⟩ := mem_pick he; List.mem_of_getElem? hk
theorem RSl.lessP {S o : Nat → Prop} {w0 w : World} {l : List Ent} {v : Value} {α : Type} {A : RTy α} {xs : List α} (h : RSl A (TT S o w0 l) w v xs) (ks : List Nat) : RSl A (TT S o w0 (Hyp.pick l ks)) w v xs :=
  h.less fun e he => let ⟨_, _, hk⟩ := mem_pick he; List.mem_of_getElem? hk
end Hyp
namespace Hyp
open Go
def dv (tp deps : List Nat) (g : List Value → Value) : Spec := ⟨tp, deps, fun vs x => x = g vs, fun _ _ => [], []⟩
theorem Known.w {m : Nat} {ops : Array Oper} {sp : List Spec} {val : Nat → Value} {f : Fr} {l : List Ent} {k j : Nat} (h : Known m ops sp val f l k j) {tp deps : List Nat} {g : List Value → Value} (hs : sp[j]? = some (dv tp deps g)) {d : Nat} (hd : dstD ops j = d) : f d = g (deps.map val) := by
  have h2 := h.2.1
  simp only [okAt, hs, dv] at h2
  rw [← hd, h.1, h2]
theorem fin_w {sp : List Spec} {val : Nat → Value} {f : Fr} {d : Nat} {j : Nat} (h : f d = val j ∧ okAt sp val j) {tp deps : List Nat} {g : List Value → Value} (hs : sp[j]? = some (dv tp deps g)) : f d = g (deps.map val) := by
  have h2 := h.2
  simp only [okAt, hs, dv] at h2
  rw [h.1, h2]
theorem Own.back0 {wB w w' : World} {o : Nat → Prop} {l m : List Ent} (h : Own wB o w l) (hc : Own w (footU (Hyp.pick l [])) w' m) : Own wB o w' (m ++ l) := by
  have h1 := h.back [] hc
  have : Hyp.drop l [] = l := by
    have e : (l.zipIdx.filter fun p => !([] : List Nat).contains p.2) = l.zipIdx := List.filter_eq_self.2 (by simp)
    simp only [Hyp.drop, e, List.zipIdx_map_fst]
  rwa [this] at h1
theorem AtS.sc0 {l : List Ent} {w : World} {ad : Addr} {xs : List Value} (h : At w ad xs) : AtS (SC l []) w ad xs := ⟨h, fun ⟨_, he, _⟩ => by simp [Hyp.pick] at he⟩
theorem Sl.sc0 {S : Nat → Prop} {l : List Ent} {w : World} {v : Value} {n : Nat} {xs : List Value} (h : Sl S w v n xs) : Sl (SC l []) w v n xs := h.mono fun _ _ _ ⟨_, he, _⟩ => by simp [Hyp.pick] at he
theorem RSl.sc0 {S : Nat → Prop} {l : List Ent} {w : World} {v : Value} {α : Type} {A : RTy α} {xs : List α} (h : RSl A S w v xs) : RSl A (SC l []) w v xs := h.go fun _ _ _ => ⟨fun ⟨_, he, _⟩ => by simp [Hyp.pick] at he, rfl⟩
/-- append onto a slice without capacity, of which nothing is owned. -/
theorem o_append0 {P : Program} {ty : TypeId} {f : Fr} {w : World} {K : Value → World → Prop} {w0 : World} {o : Nat → Prop} {l : List Ent} {α : Type} {E : Enc α} {s x : Operand} {t e by_ : Nat} {v u : Value} {ys zs : List α} {S : Nat → Prop} (he : ElemIs P t e E.sz by_) (hv : ∃ a, v = .slice a 0 0) (H : Own w0 o w l)
    (hs : ev f s = v) (hx : ev f x = u) (hu : Sl S w u ys.length (cel E ys)) (hl : ([] : List α).length + ys.length ≤ 140737488355328 / by_) (hz : zs = [] ++ ys) (h : ∀ v' w', Own w0 o w' (row E.sz v' zs.length (cel E zs) :: l) → K v' w') :
    OpW P (.call ⟨.builtin .append, #[s, x], #[t, t]⟩) ty f w K := by
  refine o_appendE (E := E) (xs := []) (k := 0) he rfl (H.nilRow E.sz hv) hs hx hu hl hz ?_
  rintro v' w' _ rfl H'
  exact h v' w' H'
end Hyp
namespace Hyp
open Go
theorem args1 {f : Fr} {x0 : Operand} {v0 : Value} (h0 : ev f x0 = v0) : (#[x0] : Array Operand).map (ev f) = #[v0] := by simp [h0]
theorem args2 {f : Fr} {x0 : Operand} {v0 : Value} {x1 : Operand} {v1 : Value} (h0 : ev f x0 = v0) (h1 : ev f x1 = v1) : (#[x0, x1] : Array Operand).map (ev f) = #[v0, v1] := by simp [h0, h1]
theorem args3 {f : Fr} {x0 : Operand} {v0 : Value} {x1 : Operand} {v1 : Value} {x2 : Operand} {v2 : Value} (h0 : ev f x0 = v0) (h1 : ev f x1 = v1) (h2 : ev f x2 = v2) : (#[x0, x1, x2] : Array Operand).map (ev f) = #[v0, v1, v2] := by simp [h0, h1, h2]
theorem args4 {f : Fr} {x0 : Operand} {v0 : Value} {x1 : Operand} {v1 : Value} {x2 : Operand} {v2 : Value} {x3 : Operand} {v3 : Value} (h0 : ev f x0 = v0) (h1 : ev f x1 = v1) (h2 : ev f x2 = v2) (h3 : ev f x3 = v3) : (#[x0, x1, x2, x3] : Array Operand).map (ev f) = #[v0, v1, v2, v3] := by simp [h0, h1, h2, h3]
theorem args5 {f : Fr} {x0 : Operand} {v0 : Value} {x1 : Operand} {v1 : Value} {x2 : Operand} {v2 : Value} {x3 : Operand} {v3 : Value} {x4 : Operand} {v4 : Value} (h0 : ev f x0 = v0) (h1 : ev f x1 = v1) (h2 : ev f x2 = v2) (h3 : ev f x3 = v3) (h4 : ev f x4 = v4) : (#[x0, x1, x2, x3, x4] : Array Operand).map (ev f) = #[v0, v1, v2, v3, v4] := by simp [h0, h1, h2, h3, h4]
theorem args6 {f : Fr} {x0 : Operand} {v0 : Value} {x1 : Operand} {v1 : Value} {x2 : Operand} {v2 : Value} {x3 : Operand} {v3 : Value} {x4 : Operand} {v4 : Value} {x5 : Operand} {v5 : Value} (h0 : ev f x0 = v0) (h1 : ev f x1 = v1) (h2 : ev f x2 = v2) (h3 : ev f x3 = v3) (h4 : ev f x4 = v4) (h5 : ev f x5 = v5) : (#[x0, x1, x2, x3, x4, x5] : Array Operand).map (ev f) = #[v0, v1, v2, v3, v4, v5] := by simp [h0, h1, h2, h3, h4, h5]
theorem args7 {f : Fr} {x0 : Operand} {v0 : Value} {x1 : Operand} {v1 : Value} {x2 : Operand} {v2 : Value} {x3 : Operand} {v3 : Value} {x4 : Operand} {v4 : Value} {x5 : Operand} {v5 : Value} {x6 : Operand} {v6 : Value} (h0 : ev f x0 = v0) (h1 : ev f x1 = v1) (h2 : ev f x2 = v2) (h3 : ev f x3 = v3) (h4 : ev f x4 = v4) (h5 : ev f x5 = v5) (h6 : ev f x6 = v6) : (#[x0, x1, x2, x3, x4, x5, x6] : Array Operand).map (ev f) = #[v0, v1, v2, v3, v4, v5, v6] := by simp [h0, h1, h2, h3, h4, h5, h6]
theorem args8 {f : Fr} {x0 : Operand} {v0 : Value} {x1 : Operand} {v1 : Value} {x2 : Operand} {v2 : Value} {x3 : Operand} {v3 : Value} {x4 : Operand} {v4 : Value} {x5 : Operand} {v5 : Value} {x6 : Operand} {v6 : Value} {x7 : Operand} {v7 : Value} (h0 : ev f x0 = v0) (h1 : ev f x1 = v1) (h2 : ev f x2 = v2) (h3 : ev f x3 = v3) (h4 : ev f x4 = v4) (h5 : ev f x5 = v5) (h6 : ev f x6 = v6) (h7 : ev f x7 = v7) : (#[x0, x1, x2, x3, x4, x5, x6, x7] : Array Operand).map (ev f) = #[v0, v1, v2, v3, v4, v5, v6, v7] := by simp [h0, h1, h2, h3, h4, h5, h6, h7]
end Hyp
namespace Hyp
theorem AtS.lessP {S o : Nat → Prop} {w0 w : Go.World} {l : List Ent} {ad : Go.Addr} {xs : List Go.Value} (h : AtS (TT S o w0 l) w ad xs) (ks : List Nat) : AtS (TT S o w0 (Hyp.pick l ks)) w ad xs :=
  h.go fun b hb ht => ⟨⟨fun ⟨e, he, hf⟩ => ht.1 ⟨e, (let ⟨_, _, hk⟩ := mem_pick he; List.mem_of_getElem? hk), hf⟩, ht.2⟩, rfl⟩
end Hyp
namespace Hyp
open Go
theorem args0 {f : Fr} : (#[] : Array Operand).map (ev f) = #[] := by simp
end Hyp
namespace Hyp
open Go
section
variable {P : Program} {ty : TypeId} {f : Fr} {w : World} {K : Value → World → Prop}
theorem o_moveE {x : Operand} {v : Value} (hx : ev f x = v) (h : K v w) : OpW P (.move x) ty f w K := by subst hx; exact o_move h
theorem o_assignE {x : Operand} {v : Value} (hx : ev f x = v) (h : K v w) : OpW P (.assign x) ty f w K := by subst hx; exact o_assign h
theorem o_pickE {c x y : Operand} {b : Bool} {v : Value} (hc : ev f c = .bool b) (hx : (bif b then ev f x else ev f y) = v) (h : K v w) : OpW P (.pick c x y) ty f w K := by subst hx; exact o_pick hc h
end
end Hyp
namespace Hyp
open Go
theorem o_storeCelE {P : Program} {ty : TypeId} {f : Fr} {w : World} {K : Value → World → Prop} {w0 : World} {o : Nat → Prop} {l : List Ent} {α : Type} {E : Enc α} {T : TypeId} {x y : Operand} {k j sz : Nat} {xs : List α} {z z' : α} {v u : Value}
    (hk : l[k]? = some (row sz v xs.length (cel E xs))) (H : Own w0 o w l) (hx : ev f x = .pointer (some (ptrOf v (j * sz))))
    (hy : ev f y = u) (hu : u.cells.toList = E.enc z') (hs : SizeIs P T sz) (hj : xs[j]? = some z) (he : E.sz = sz) (h : ∀ w', Own w0 o w' (l.set k (row sz v (xs.set j z').length (cel E (xs.set j z')))) → K undef w') (h0 : 0 < sz := by decide) :
    OpW P (.store T x y) ty f w K := by
  refine o_storeCel hk H hx hy hu hs hj he ?_ h0
  rw [List.length_set] at h
  exact h
end Hyp
