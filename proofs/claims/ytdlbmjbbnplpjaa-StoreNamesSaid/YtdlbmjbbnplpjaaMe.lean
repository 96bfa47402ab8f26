/- More operations that only compute. -/
import Derived.Test.YtdlbmjbbnplpjaaMd
set_option linter.unusedVariables false
set_option linter.unusedSimpArgs false
namespace Hyp
open Go
def tupA : AV → Nat → AV
  | .pr a _, 0 => a
  | .pr _ c, i + 1 => tupA c i
  | _, _ => .any
section
variable {ν : Nms} {b : Nat} {Z : Nat → Prop} {w : World}
theorem slotR.of {a : AV} {v : Value} (h : avV ν b Z w a v) : slotR ν b Z w a v := by
  unfold slotR
  split
  · trivial
  · simp [avV, AV.isAgg, avC] at h
  · simp [avV, AV.isAgg, avC] at h
  · exact h
theorem tupA_ok : ∀ {a : AV} {vs : List Value} {i : Nat} {v : Value}, avT ν b Z w a vs → vs[i]? = some v → slotR ν b Z w (tupA a i) v
  | .pr a c, _, 0, v, ⟨u, vs', h0, h1, h2⟩, hv => by
    subst h0
    cases hv
    exact .of h1
  | .pr a c, _, i + 1, v, ⟨u, vs', h0, h1, h2⟩, hv => by
    subst h0
    exact tupA_ok (a := c) (i := i) h2 (by simpa using hv)
  | .un, _, _, _, _, _ | .any, _, _, _, _, _ | .und, _, _, _, _, _ | .tup _, _, _, _, _, _ | .tt, _, _, _, _, _ | .ff, _, _, _, _, _ | .nil, _, _, _, _, _ | .mnil, _, _, _, _, _ | .fnil, _, _, _, _, _ | .snil _, _, _, _, _, _ | .val _ _, _, _, _, _, _ | .agg _, _, _, _, _, _ | .ptr _ _, _, _, _, _, _
  | .pel _ _ _ _ _ _, _, _, _, _, _ | .rowp _ _ _ _, _, _, _, _, _ | .rop _ _ _ _ _, _, _, _, _, _ | .whole _ _, _, _, _, _, _ | .win _ _ _ _, _, _, _, _, _ | .bwin _ _ _ _ _ _, _, _, _, _, _ | .ro _ _ _, _, _, _, _, _ => trivial
theorem avT_len : ∀ {a : AV} {vs : List Value}, avT ν b Z w a vs → ∀ i, tupA a i ≠ .any → i < vs.length
  | .pr a c, _, ⟨u, vs', h0, h1, h2⟩, i, h => by
    subst h0
    cases i with
    | zero => simp
    | succ i => have := avT_len h2 i h; simp; omega
  | .un, _, _, i, h => by cases i <;> exact absurd rfl h
  | .any, _, H, _, _ | .und, _, H, _, _ | .tup _, _, H, _, _ | .tt, _, H, _, _ | .ff, _, H, _, _ | .nil, _, H, _, _ | .mnil, _, H, _, _ | .fnil, _, H, _, _ | .snil _, _, H, _, _ | .val _ _, _, H, _, _ | .agg _, _, H, _, _ | .ptr _ _, _, H, _, _
  | .pel _ _ _ _ _ _, _, H, _, _ | .rowp _ _ _ _, _, H, _, _ | .rop _ _ _ _ _, _, H, _, _ | .whole _ _, _, H, _, _ | .win _ _ _ _, _, H, _, _ | .bwin _ _ _ _ _ _, _, H, _, _ | .ro _ _ _, _, H, _, _ | .mpv _, _, H, _, _ | .clo _ _, _, H, _, _ => H.elim
end
/-- The i-th of several results. -/
def extractT (x : AV) (i : Nat) : Tree AV := match x with
  | .tup a => match tupA a i with | .any => .fail | y => .ret y
  | _ => .fail
def notT (x : AV) : Tree AV := match x with
  | .tt => .ret .ff
  | .ff => .ret .tt
  | .val .bool x => .ret (.val .bool (!x))
  | _ => .fail
def negT (x : AV) : Tree AV := match x with
  | .val (.sint k) n => .ret (.val (.sint k) (k.wrap (0 - n)))
  | .val .u8 n => .ret (.val .u8 (0 - n))
  | .val .u16 n => .ret (.val .u16 (0 - n))
  | .val .u32 n => .ret (.val .u32 (0 - n))
  | .val .u64 n => .ret (.val .u64 (0 - n))
  | _ => .fail
/-- ^x -/
def comT (x : AV) : Tree AV := match x with
  | .val .u8 n => .ret (.val .u8 (255 ^^^ n))
  | .val .u16 n => .ret (.val .u16 (65535 ^^^ n))
  | .val .u32 n => .ret (.val .u32 (4294967295 ^^^ n))
  | .val .u64 n => .ret (.val .u64 (18446744073709551615 ^^^ n))
  | _ => .fail
def unT (op : UnOp) (x : AV) : Tree AV := match op with
  | .not => notT x
  | .neg => negT x
  | .xor => comT x
  | _ => .fail
def int8 (n : Int) : UInt8 := UInt8.ofNat (n % 256).toNat
def int16 (n : Int) : UInt16 := UInt16.ofNat (n % 65536).toNat
def int32 (n : Int) : UInt32 := UInt32.ofNat (n % 4294967296).toNat
def int64 (n : Int) : UInt64 := UInt64.ofNat (n % 18446744073709551616).toNat
/-- A number as one of another kind. -/
def toKind (k : IntKind) (x : AV) : Option AV := match k, x with
  | .u8, .val .u8 n => some (.val .u8 n)
  | .u8, .val .u16 n => some (.val .u8 (UInt8.ofNat n.toNat))
  | .u8, .val .u32 n => some (.val .u8 (UInt8.ofNat n.toNat))
  | .u8, .val .u64 n => some (.val .u8 (UInt8.ofNat n.toNat))
  | .u8, .val (.sint _) n => some (.val .u8 (int8 n))
  | .u16, .val (.sint _) n => some (.val .u16 (int16 n))
  | .u32, .val .u8 n => some (.val .u32 (UInt32.ofNat n.toNat))
  | .u32, .val .u32 n => some (.val .u32 n)
  | .u32, .val .u64 n => some (.val .u32 (UInt32.ofNat n.toNat))
  | .u32, .val (.sint _) n => some (.val .u32 (int32 n))
  | .u64, .val .u8 n => some (.val .u64 (UInt64.ofNat n.toNat))
  | .u64, .val .u16 n => some (.val .u64 (UInt64.ofNat n.toNat))
  | .u64, .val .u32 n => some (.val .u64 (UInt64.ofNat n.toNat))
  | .u64, .val .u64 n => some (.val .u64 n)
  | .u64, .val (.sint _) n => some (.val .u64 (int64 n))
  | .i64, .val .u8 n => some (.val (.sint .i64) (n.toNat : Int))
  | .i64, .val .u16 n => some (.val (.sint .i64) (n.toNat : Int))
  | .i64, .val .u32 n => some (.val (.sint .i64) (n.toNat : Int))
  | .i64, .val .u64 n => some (.val (.sint .i64) (IntKind.i64.wrap (n.toNat : Int)))
  | .i32, .val .u8 n => some (.val (.sint .i32) (n.toNat : Int))
  | .i64, .val (.sint .i64) n => some (.val (.sint .i64) (IntKind.i64.wrap n))
  | .i64, .val (.sint .i32) n => some (.val (.sint .i64) (IntKind.i64.wrap n))
  | .i32, .val (.sint .i32) n => some (.val (.sint .i32) (IntKind.i32.wrap n))
  | .i32, .val (.sint .i64) n => some (.val (.sint .i32) (IntKind.i32.wrap n))
  | _, _ => none
/-- How many: of what tells it. -/
def lenA : AV → Option Int
  | .val .str s => some ((s.length : Nat) : Int)
  | .ro _ e xs => some ((xs.length : Nat) : Int)
  | .win _ _ _ n => some ((n : Nat) : Int)
  | .bwin _ _ _ _ _ n => some ((n : Nat) : Int)
  | .snil _ => some 0
  | _ => none
def fieldAddrT (P : Program) (T : TypeId) (x : AV) (i : Nat) : Tree AV := match P.underlying T with
  | some (.struct fs) => match fs[i]? with
    | some fd => match (P.info? fd.type).map (·.size) with
      | some (_ + 1) => match x with
        | .ptr k off => .ret (.ptr k (off + fd.offset))
        | .pel k off e N i eo => .ret (.pel k off e N i (eo + fd.offset))
        | .rowp k e i eo => .ret (.rowp k e i (eo + fd.offset))
        | .rop e xs i y eo => .ret (.rop e xs i y (eo + fd.offset))
        | _ => .fail
      | _ => .fail
    | none => .fail
  | _ => .fail
def nilCheckT (x : AV) : Tree AV := match x with
  | .ptr _ _ | .pel _ _ _ _ _ _ | .rowp _ _ _ _ | .rop _ _ _ _ _ => .ret x
  | _ => .fail
def minI (x y : Int) : Int := if y < x then y else x
def maxI (x y : Int) : Int := if x < y then y else x
section
variable {P : Program} {ty T U : TypeId} {f : Fr} {w : World} {ν : Nms} {b : Nat} {Z : Nat → Prop} {x y : Operand} {p q : AV} {c : Bool}
theorem extractT_ok {i : Nat} (hx : slotR ν b Z w p (ev f x)) : Q P (.extract x i) ty f w ν b Z (extractT p i) := by
  intro a ha
  unfold extractT at ha
  split at ha
  · rename_i a'
    obtain ⟨vs, h1, h2⟩ := hx
    have key : tupA a' i = a ∧ a ≠ .any := by
      split at ha
      · cases ha
      · rename_i hne
        cases ha
        exact ⟨rfl, hne⟩
    have hl := avT_len h2 i (by rw [key.1]; exact key.2)
    refine o_extract (vs := vs.toArray) (v := vs[i]) h1 (by simp [hl]) ⟨rfl, ?_⟩
    rw [← key.1]
    exact tupA_ok h2 (by simp [hl])
  · cases ha
theorem un_run {op : UnOp} {v r : Value} (hx : ev f x = v) (h : (Op.unary op v).run P w = .ok r w) : (execOp (ev f) (bare (.unOp op T x) ty)).run P w = .ok (.value r) w := by
  simp only [execOp, bare, hx, Sem.run_bind, h, Result.andThen_ok, Sem.run_pure]
theorem unT_ok {op : UnOp} (hx : slotR ν b Z w p (ev f x)) : Q P (.unOp op T x) ty f w ν b Z (unT op p) := by
  refine Q.of fun a ha => ?_
  unfold unT at ha
  split at ha
  · unfold notT at ha
    split at ha <;> simp only [Tree.run, Option.some.injEq, reduceCtorEq] at ha <;> subst ha
    · exact ⟨.bool false, un_run (sl_tt hx) rfl, rfl⟩
    · exact ⟨.bool true, un_run (sl_ff hx) rfl, rfl⟩
    · exact ⟨_, un_run (sl_bool hx) rfl, sl_mk rfl rfl⟩
  · unfold negT at ha
    split at ha <;> simp only [Tree.run, Option.some.injEq, reduceCtorEq] at ha <;> subst ha
    · exact ⟨_, un_run (sl_sint hx) rfl, sl_mk rfl rfl⟩
    · rename_i n
      exact ⟨_, un_run (sl_u8 hx) (arith8_ok (P := P) (w := w) (T := 0) (U := 0) (op := .sub) (a := 0) (b := n) rfl), sl_mk rfl rfl⟩
    · rename_i n
      exact ⟨_, un_run (sl_u16 hx) (arith16_ok (P := P) (w := w) (T := 0) (U := 0) (op := .sub) (a := 0) (b := n) rfl), sl_mk rfl rfl⟩
    · rename_i n
      exact ⟨_, un_run (sl_u32 hx) (arith32_ok (P := P) (w := w) (T := 0) (U := 0) (op := .sub) (a := 0) (b := n) rfl), sl_mk rfl rfl⟩
    · rename_i n
      exact ⟨_, un_run (sl_u64 hx) (arith64_ok (P := P) (w := w) (T := 0) (U := 0) (op := .sub) (a := 0) (b := n) rfl), sl_mk rfl rfl⟩
  · unfold comT at ha
    split at ha <;> simp only [Tree.run, Option.some.injEq, reduceCtorEq] at ha <;> subst ha
    · rename_i n
      exact ⟨_, un_run (sl_u8 hx) (arith8_ok (P := P) (w := w) (T := 0) (U := 0) (op := .xor) (a := 255) (b := n) rfl), sl_mk rfl rfl⟩
    · rename_i n
      exact ⟨_, un_run (sl_u16 hx) (arith16_ok (P := P) (w := w) (T := 0) (U := 0) (op := .xor) (a := 65535) (b := n) rfl), sl_mk rfl rfl⟩
    · rename_i n
      exact ⟨_, un_run (sl_u32 hx) (arith32_ok (P := P) (w := w) (T := 0) (U := 0) (op := .xor) (a := 4294967295) (b := n) rfl), sl_mk rfl rfl⟩
    · rename_i n
      exact ⟨_, un_run (sl_u64 hx) (arith64_ok (P := P) (w := w) (T := 0) (U := 0) (op := .xor) (a := 18446744073709551615) (b := n) rfl), sl_mk rfl rfl⟩
  · cases ha
theorem wrapSelf {k : IntKind} {n : Int} (h : k.min ≤ n ∧ n ≤ k.max) : k.wrap n = n := by
  obtain ⟨h1, h2⟩ := h
  cases k <;> simp [IntKind.wrap, IntKind.min, IntKind.max, IntKind.bits, IntKind.signed] at * <;> (try split) <;> omega
theorem toKind_ok {k : IntKind} {v : Value} {a : AV} (hx : slotR ν b Z w p v) (h : toKind k p = some a) : ∃ k' n, v = .int k' n ∧ slotR ν b Z w a (.int k (k.wrap n)) := by
  unfold toKind at h
  split at h <;> simp only [Option.some.injEq, reduceCtorEq] at h <;> subst h
  · rename_i n; exact ⟨_, _, sl_u8 hx, (sl_mk rfl (by rw [wrap8_self]; rfl))⟩
  · rename_i n; exact ⟨_, _, sl_u16 hx, (sl_mk rfl (by rw [wrap8_nat]; rfl))⟩
  · rename_i n; exact ⟨_, _, sl_u32 hx, (sl_mk rfl (by rw [wrap8_nat]; rfl))⟩
  · rename_i n; exact ⟨_, _, sl_u64 hx, (sl_mk rfl (by rw [wrap8_nat]; rfl))⟩
  · rename_i n
    refine ⟨_, _, sl_sint hx, sl_mk rfl ?_⟩
    have : IntKind.u8.wrap n = ((int8 n).toNat : Int) := by
      unfold int8
      rw [UInt8.toNat_ofNat']
      simp [IntKind.wrap, IntKind.bits, IntKind.signed]
      omega
    rw [this]; rfl
  · rename_i n
    refine ⟨_, _, sl_sint hx, sl_mk rfl ?_⟩
    have : IntKind.u16.wrap n = ((int16 n).toNat : Int) := by
      unfold int16
      rw [UInt16.toNat_ofNat']
      simp [IntKind.wrap, IntKind.bits, IntKind.signed]
      omega
    rw [this]; rfl
  · rename_i n; exact ⟨_, _, sl_u8 hx, (sl_mk rfl (by rw [wrap32_nat]; rfl))⟩
  · rename_i n; exact ⟨_, _, sl_u32 hx, (sl_mk rfl (by rw [wrap32_self]; rfl))⟩
  · rename_i n; exact ⟨_, _, sl_u64 hx, (sl_mk rfl (by rw [wrap32_nat]; rfl))⟩
  · rename_i n
    refine ⟨_, _, sl_sint hx, sl_mk rfl ?_⟩
    have : IntKind.u32.wrap n = ((int32 n).toNat : Int) := by
      unfold int32
      rw [UInt32.toNat_ofNat']
      simp [IntKind.wrap, IntKind.bits, IntKind.signed]
      omega
    rw [this]; rfl
  · rename_i n; exact ⟨_, _, sl_u8 hx, (sl_mk rfl (by rw [wrap64_nat]; rfl))⟩
  · rename_i n; exact ⟨_, _, sl_u16 hx, (sl_mk rfl (by rw [wrap64_nat]; rfl))⟩
  · rename_i n; exact ⟨_, _, sl_u32 hx, (sl_mk rfl (by rw [wrap64_nat]; rfl))⟩
  · rename_i n; exact ⟨_, _, sl_u64 hx, (sl_mk rfl (by rw [wrap64_self]; rfl))⟩
  · rename_i n
    refine ⟨_, _, sl_sint hx, sl_mk rfl ?_⟩
    have : IntKind.u64.wrap n = ((int64 n).toNat : Int) := by
      unfold int64
      rw [UInt64.toNat_ofNat']
      simp [IntKind.wrap, IntKind.bits, IntKind.signed]
      omega
    rw [this]; rfl
  · rename_i n; exact ⟨_, _, sl_u8 hx, (sl_mk rfl (by rw [wrapSelf (by have := n.toNat_lt; simp [IntKind.min, IntKind.max, IntKind.bits, IntKind.signed]; omega)]; rfl))⟩
  · rename_i n; exact ⟨_, _, sl_u16 hx, (sl_mk rfl (by rw [wrapSelf (by have := n.toNat_lt; simp [IntKind.min, IntKind.max, IntKind.bits, IntKind.signed]; omega)]; rfl))⟩
  · rename_i n; exact ⟨_, _, sl_u32 hx, (sl_mk rfl (by rw [wrapSelf (by have := n.toNat_lt; simp [IntKind.min, IntKind.max, IntKind.bits, IntKind.signed]; omega)]; rfl))⟩
  · rename_i n; exact ⟨_, _, sl_u64 hx, sl_mk rfl rfl⟩
  · rename_i n; exact ⟨_, _, sl_u8 hx, (sl_mk rfl (by rw [wrapSelf (by have := n.toNat_lt; simp [IntKind.min, IntKind.max, IntKind.bits, IntKind.signed]; omega)]; rfl))⟩
  · rename_i n; exact ⟨_, _, sl_sint hx, sl_mk rfl rfl⟩
  · rename_i n; exact ⟨_, _, sl_sint hx, sl_mk rfl rfl⟩
  · rename_i n; exact ⟨_, _, sl_sint hx, sl_mk rfl rfl⟩
  · rename_i n; exact ⟨_, _, sl_sint hx, sl_mk rfl rfl⟩
end
end Hyp
