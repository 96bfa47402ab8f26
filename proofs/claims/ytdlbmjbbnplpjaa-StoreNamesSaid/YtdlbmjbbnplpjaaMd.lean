/- Operations that only compute. -/
import Derived.Test.YtdlbmjbbnplpjaaMc
set_option linter.unusedVariables false
set_option linter.unusedSimpArgs false
namespace Hyp
open Go
/-! ### 1. Numbers as abstract values -/
def AV.int? : AV → Option (IntKind × Int)
  | .val (.sint k) x => some (k, x)
  | .val .u8 x => some (.u8, (x.toNat : Int))
  | .val .u16 x => some (.u16, (x.toNat : Int))
  | .val .u32 x => some (.u32, (x.toNat : Int))
  | .val .u64 x => some (.u64, (x.toNat : Int))
  | _ => none
def AV.bool? : AV → Option Bool
  | .tt => some true
  | .ff => some false
  | .val .bool x => some x
  | _ => none
section
variable {ν : Nms} {b : Nat} {Z : Nat → Prop} {w : World} {v : Value}
theorem sl_sint {k : IntKind} {x : Int} (h : slotR ν b Z w (.val (.sint k) x) v) : v = .int k x := List.head_eq_of_cons_eq (show [v] = [_] from h)
theorem sl_u8 {x : UInt8} (h : slotR ν b Z w (.val .u8 x) v) : v = u8 x := List.head_eq_of_cons_eq (show [v] = [_] from h)
theorem sl_u16 {x : UInt16} (h : slotR ν b Z w (.val .u16 x) v) : v = u16 x := List.head_eq_of_cons_eq (show [v] = [_] from h)
theorem sl_u32 {x : UInt32} (h : slotR ν b Z w (.val .u32 x) v) : v = u32 x := List.head_eq_of_cons_eq (show [v] = [_] from h)
theorem sl_u64 {x : UInt64} (h : slotR ν b Z w (.val .u64 x) v) : v = u64 x := List.head_eq_of_cons_eq (show [v] = [_] from h)
theorem sl_bool {x : Bool} (h : slotR ν b Z w (.val .bool x) v) : v = .bool x := List.head_eq_of_cons_eq (show [v] = [_] from h)
theorem sl_str {x : List UInt8} (h : slotR ν b Z w (.val .str x) v) : v = str x := List.head_eq_of_cons_eq (show [v] = [_] from h)
theorem sl_tt (h : slotR ν b Z w .tt v) : v = .bool true := List.head_eq_of_cons_eq (show [v] = [_] from h)
theorem sl_ff (h : slotR ν b Z w .ff v) : v = .bool false := List.head_eq_of_cons_eq (show [v] = [_] from h)
theorem sl_nil (h : slotR ν b Z w .nil v) : v = .pointer none := List.head_eq_of_cons_eq (show [v] = [_] from h)
theorem sl_snil {oe : Option Ty} (h : slotR ν b Z w (.snil oe) v) : v = .slice none 0 0 := List.head_eq_of_cons_eq (show [v] = [_] from h)
theorem sl_ptr {k off : Nat} (h : slotR ν b Z w (.ptr k off) v) : k < b ∧ v = .pointer (some ⟨(ν k).g, off, none⟩) := ⟨h.1, List.head_eq_of_cons_eq (show [v] = [_] from h.2)⟩
theorem sl_pel {k off : Nat} {e : Ty} {N i eo : Nat} (h : slotR ν b Z w (.pel k off e N i eo) v) : k < b ∧ v = .pointer (some ⟨(ν k).g, off + i * e.sz + eo, none⟩) := ⟨h.1, List.head_eq_of_cons_eq (show [v] = [_] from h.2)⟩
theorem sl_win {k s lo n : Nat} (h : slotR ν b Z w (.win k s lo n) v) : k < b ∧ IsSl v n ∧ lo + n ≤ vlen (ν k).v ∧ (v = subv s (ν k).v lo (lo + n) ∨ ∃ a, v = .slice a 0 0) := by
  obtain ⟨h1, u, h2, h3, h5, h4⟩ := h
  have : v = u := List.head_eq_of_cons_eq (show [v] = [_] from h2)
  exact ⟨h1, this ▸ h3, h5, this ▸ h4⟩
theorem sl_bwin {k off : Nat} {e : Ty} {N lo n : Nat} (h : slotR ν b Z w (.bwin k off e N lo n) v) : k < b ∧ IsSl v n ∧ lo + n ≤ N ∧ (v = .slice (some ⟨(ν k).g, off + lo * e.sz, none⟩) n (N - lo) ∨ ∃ a, v = .slice a 0 0) := by
  obtain ⟨h1, u, h2, h3, h5, h4⟩ := h
  have : v = u := List.head_eq_of_cons_eq (show [v] = [_] from h2)
  exact ⟨h1, this ▸ h3, h5, this ▸ h4⟩
theorem sl_whole {k s : Nat} (h : slotR ν b Z w (.whole k s) v) : k < b ∧ IsSl v (vlen v) ∧ v = (ν k).v := by
  obtain ⟨h1, u, h2, h3, h4⟩ := h
  have : v = u := List.head_eq_of_cons_eq (show [v] = [_] from h2)
  exact ⟨h1, this ▸ h3, this ▸ h4⟩
theorem sl_ro {c : Bool} {e : Ty} {xs : List e.den} (h : slotR ν b Z w (.ro c e xs) v) : RSl e.rty Z w v xs ∧ (c = true → Tight v) := by
  obtain ⟨u, h1, h2, h3⟩ := h
  have : v = u := List.head_eq_of_cons_eq (show [v] = [_] from h1)
  subst this
  exact ⟨h2, h3⟩
theorem int_ok {a : AV} {k : IntKind} {n : Int} (h : slotR ν b Z w a v) (hi : a.int? = some (k, n)) : v = .int k n := by
  unfold AV.int? at hi
  split at hi <;> simp only [Option.some.injEq, Prod.mk.injEq, reduceCtorEq] at hi <;> obtain ⟨rfl, rfl⟩ := hi
  · exact sl_sint h
  · exact sl_u8 h
  · exact sl_u16 h
  · exact sl_u32 h
  · exact sl_u64 h
theorem bool_ok {a : AV} {x : Bool} (h : slotR ν b Z w a v) (hi : a.bool? = some x) : v = .bool x := by
  unfold AV.bool? at hi
  split at hi <;> simp only [Option.some.injEq, reduceCtorEq] at hi <;> subst hi
  · exact sl_tt h
  · exact sl_ff h
  · exact sl_bool h
end
/-! ### 2. Two that become one -/
def AV.scalT : Ty → Bool
  | .sint _ | .u8 | .u16 | .u32 | .u64 | .bool | .str => true
  | _ => false
/-- x decides: a, or c. -/
def mergeAV (x : Bool) : AV → AV → AV
  | .tt, .tt => .tt
  | .ff, .ff => .ff
  | .tt, .ff => .val .bool x
  | .ff, .tt => .val .bool (!x)
  | .tt, .val .bool q => .val .bool (x || q)
  | .ff, .val .bool q => .val .bool (!x && q)
  | .val .bool p, .tt => .val .bool (!x || p)
  | .val .bool p, .ff => .val .bool (x && p)
  | .val t p, .val t' q => match castTy t t' q with | some q => .val t (bif x then p else q) | none => .any
  | .und, .und => .und
  | .nil, .nil => .nil
  | .mnil, .mnil => .mnil
  | .fnil, .fnil => .fnil
  | .snil e, .snil _ => .snil e
  | .un, .un => .un
  | .whole k s, .whole k' s' => bif Nat.beq k k' && Nat.beq s s' then .whole k s else .any
  | .ptr k o, .ptr k' o' => bif Nat.beq k k' && Nat.beq o o' then .ptr k o else .any
  | .ro c e xs, .ro c' e' ys => match castL e e' ys with | some ys => .ro (c && c') e (bif x then xs else ys) | none => .any
  | .ro _ e xs, .snil _ => .ro false e (bif x then xs else [])
  | .snil _, .ro _ e ys => .ro false e (bif x then [] else ys)
  | .win k s lo n, .win k' s' lo' n' => bif Nat.beq k k' && Nat.beq s s' then .win k s (bif x then lo else lo') (bif x then n else n') else .any
  | _, _ => .any
section
variable {ν : Nms} {b : Nat} {Z : Nat → Prop} {w : World} {v : Value}
theorem mergeAV_ok {x : Bool} {a c : AV} (h1 : x = true → slotR ν b Z w a v) (h2 : x = false → slotR ν b Z w c v) : slotR ν b Z w (mergeAV x a c) v := by
  unfold mergeAV
  split
  case h_9 t p t' q hne =>
    split
    · rename_i q' hq
      obtain ⟨rfl, rfl⟩ := castTy_ok hq
      cases x
      · exact h2 rfl
      · exact h1 rfl
    · trivial
  case h_18 e xs c' e' ys =>
    split
    · rename_i ys' hy
      obtain ⟨he, hy2⟩ := castTy_ok (t := .list _) (t' := .list _) hy
      cases he
      cases hy2
      cases x
      · obtain ⟨u, g1, g2, g3⟩ := h2 rfl
        exact ⟨u, g1, g2, fun h => g3 (by simp only [Bool.and_eq_true] at h; exact h.2)⟩
      · obtain ⟨u, g1, g2, g3⟩ := h1 rfl
        exact ⟨u, g1, g2, fun h => g3 (by simp only [Bool.and_eq_true] at h; exact h.1)⟩
    · trivial
  all_goals first
    | (cases x <;> first | exact h1 rfl | exact h2 rfl)
    | skip
  case h_16 k s k' s' =>
    cases hc : (Nat.beq k k' && Nat.beq s s')
    · trivial
    · simp only [Bool.and_eq_true] at hc
      obtain rfl := Nat.eq_of_beq_eq_true hc.1
      obtain rfl := Nat.eq_of_beq_eq_true hc.2
      cases x
      · exact h2 rfl
      · exact h1 rfl
  case h_17 k o k' o' =>
    cases hc : (Nat.beq k k' && Nat.beq o o')
    · trivial
    · simp only [Bool.and_eq_true] at hc
      obtain rfl := Nat.eq_of_beq_eq_true hc.1
      obtain rfl := Nat.eq_of_beq_eq_true hc.2
      cases x
      · exact h2 rfl
      · exact h1 rfl
  case h_19 c e xs =>
    cases x
    · exact ⟨.slice none 0 0, (h2 rfl), ⟨[], Sl.nil _ _, by simp, rfl, by simp⟩, fun h => by cases h⟩
    · obtain ⟨u, g1, g2, g3⟩ := h1 rfl
      exact ⟨u, g1, g2, fun h => by cases h⟩
  case h_20 c e xs =>
    cases x
    · obtain ⟨u, g1, g2, g3⟩ := h2 rfl
      exact ⟨u, g1, g2, fun h => by cases h⟩
    · exact ⟨.slice none 0 0, (h1 rfl), ⟨[], Sl.nil _ _, by simp, rfl, by simp⟩, fun h => by cases h⟩
  case h_21 k s lo n k' s' lo' n' =>
    cases hc : (Nat.beq k k' && Nat.beq s s')
    · trivial
    · simp only [Bool.and_eq_true] at hc
      obtain rfl := Nat.eq_of_beq_eq_true hc.1
      obtain rfl := Nat.eq_of_beq_eq_true hc.2
      cases x
      · exact h2 rfl
      · exact h1 rfl
  · trivial
end
/-! ### 3. Operations -/
/-- What is read of a frame. -/
def opA (sl : Nat → AV) : Operand → AV
  | .tmp t => sl t
  | .const v => constAV v
  | .func g => .clo g .un
  | _ => .any
def isC : Operand → Bool
  | .const _ => true
  | _ => false
/-- A condition that must not be; of constants it is asked at once. -/
def guardT {α : Type} (c bad : Bool) (t : Tree α) : Tree α := bif c then (bif bad then .fail else t) else .get (nz bad) fun _ => t
theorem guardT_ok {α : Type} {c bad : Bool} {t : Tree α} {a : α} (h : (guardT c bad t).run = some a) : bad = false ∧ t.run = some a := by
  cases c <;> cases bad <;> simp [guardT, Tree.run, nz] at h ⊢ <;> exact h
def numA (k : IntKind) (n : Int) : AV := .val (.sint k) n
/-- The second one's number, as a count. -/
def countT (c : Bool) (y : AV) (k : Nat → Tree AV) : Tree AV := match y with
  | .val .u8 n => k n.toNat
  | .val .u16 n => k n.toNat
  | .val .u32 n => k n.toNat
  | .val .u64 n => k n.toNat
  | .val (.sint _) n => guardT c (decide (n < 0)) (k n.toNat)
  | _ => .fail
def shiftT (op : BinOp) (c : Bool) (x y : AV) : Tree AV := countT c y fun n => match op, x with
  | .shl, .val .u8 a => .ret (.val .u8 (shl8 a n))
  | .shr, .val .u8 a => .ret (.val .u8 (shr8 a n))
  | .shl, .val .u16 a => .ret (.val .u16 (shl16 a n))
  | .shr, .val .u16 a => .ret (.val .u16 (shr16 a n))
  | .shl, .val .u32 a => .ret (.val .u32 (shl32 a n))
  | .shr, .val .u32 a => .ret (.val .u32 (shr32 a n))
  | .shl, .val .u64 a => .ret (.val .u64 (shl64 a n))
  | .shr, .val .u64 a => .ret (.val .u64 (shr64 a n))
  | .shl, .val (.sint k) a => .ret (.val (.sint k) (shlI k a n))
  | .shr, .val (.sint k) a => .ret (.val (.sint k) (shrI k a n))
  | _, _ => .fail
def numT (op : BinOp) (c : Bool) (x y : AV) : Tree AV := match x, y with
  | .val .u8 a, .val .u8 d => match op with
    | .quo => guardT c (decide (d = 0)) (.ret (.val .u8 (a / d)))
    | .rem => guardT c (decide (d = 0)) (.ret (.val .u8 (a % d)))
    | _ => match arith8 op a d with | some r => .ret (.val .u8 r) | none => match cmp8 op a d with | some r => .ret (.val .bool r) | none => .fail
  | .val .u16 a, .val .u16 d => match op with
    | .quo => guardT c (decide (d = 0)) (.ret (.val .u16 (a / d)))
    | .rem => guardT c (decide (d = 0)) (.ret (.val .u16 (a % d)))
    | _ => match arith16 op a d with | some r => .ret (.val .u16 r) | none => match cmp16 op a d with | some r => .ret (.val .bool r) | none => .fail
  | .val .u32 a, .val .u32 d => match op with
    | .quo => guardT c (decide (d = 0)) (.ret (.val .u32 (a / d)))
    | .rem => guardT c (decide (d = 0)) (.ret (.val .u32 (a % d)))
    | _ => match arith32 op a d with | some r => .ret (.val .u32 r) | none => match cmp32 op a d with | some r => .ret (.val .bool r) | none => .fail
  | .val .u64 a, .val .u64 d => match op with
    | .quo => guardT c (decide (d = 0)) (.ret (.val .u64 (a / d)))
    | .rem => guardT c (decide (d = 0)) (.ret (.val .u64 (a % d)))
    | _ => match arith64 op a d with | some r => .ret (.val .u64 r) | none => match cmp64 op a d with | some r => .ret (.val .bool r) | none => .fail
  | .val (.sint k) a, .val (.sint k') d => bif decide (k = k') then (match op with
    | .quo => guardT c (decide (d = 0)) (.ret (.val (.sint k) (quoI k a d)))
    | .rem => guardT c (decide (d = 0)) (.ret (.val (.sint k) (a.tmod d)))
    | _ => match arithI k op a d with | some r => .ret (.val (.sint k) r) | none => match cmpI op a d with | some r => .ret (.val .bool r) | none => .fail) else .fail
  | .val .str a, .val .str d => match op with
    | .add => .get (catS a d) fun r => .ret (.val .str r)
    | _ => match cmpS op a d with | some r => .ret (.val .bool r) | none => .fail
  | _, _ => .fail
def isPtrT (P : Program) (T : TypeId) : Bool := match P.underlying T with | some (.pointer _) => true | _ => false
def nilT (P : Program) (T : TypeId) (op : BinOp) (x y : AV) : Tree AV := match op, x, y with
  | .eql, .nil, .nil => bif isPtrT P T then .ret .tt else .fail
  | .neq, .nil, .nil => bif isPtrT P T then .ret .ff else .fail
  | .eql, .ptr _ _, .nil => bif isPtrT P T then .ret .ff else .fail
  | .neq, .ptr _ _, .nil => bif isPtrT P T then .ret .tt else .fail
  | _, _, _ => .fail
def binT (P : Program) (T : TypeId) (op : BinOp) (c : Bool) (x y : AV) : Tree AV := match op with
  | .shl | .shr => shiftT op c x y
  | _ => match y with
    | .nil => nilT P T op x y
    | _ => numT op c x y
/-- The rule's form: whatever the tree comes to, the operation gives it, and nothing has changed. -/
def Q (P : Program) (op : Op) (ty : TypeId) (f : Fr) (w : World) (ν : Nms) (b : Nat) (Z : Nat → Prop) (t : Tree AV) : Prop :=
  ∀ a, t.run = some a → OpW P op ty f w fun v w' => w' = w ∧ slotR ν b Z w a v
section
variable {P : Program} {op : BinOp} {ty T U : TypeId} {f : Fr} {w : World} {ν : Nms} {b : Nat} {Z : Nat → Prop} {x y : Operand} {p q : AV} {c : Bool}
theorem Q.of {op : Op} {t : Tree AV} (h : ∀ a, t.run = some a → ∃ v, (execOp (ev f) (bare op ty)).run P w = .ok (.value v) w ∧ slotR ν b Z w a v) : Q P op ty f w ν b Z t := by
  intro a ha
  obtain ⟨v, h1, h2⟩ := h a ha
  exact .of_run h1 ⟨rfl, h2⟩
theorem sl_mk {t : Ty} {d : t.den} {v : Value} (hs : t.isAgg = false) (h : t.rty.rel Z w d [v]) : slotR ν b Z w (.val t d) v := by
  show avV ν b Z w (.val t d) v
  unfold avV
  rw [if_neg (by simp [AV.isAgg, hs])]
  exact h
theorem bin_run {v u r : Value} (hx : ev f x = v) (hy : ev f y = u) (hg : (eqGuard op T x y v u).run P w = .ok () w) (h : (binOp op T v u).run P w = .ok r w) : (execOp (ev f) (bare (.binOp op T x y U) ty)).run P w = .ok (.value r) w := by
  simp only [execOp, bare, hx, hy, Sem.run_bind, hg, Result.andThen_ok, h, Sem.run_pure]
theorem eqg_int {k k' : IntKind} {n m : Int} : (eqGuard op T x y (.int k n) (.int k' m)).run P w = .ok () w := by
  unfold eqGuard
  cases op <;> rfl
theorem eqg_str {k m : ByteArray} : (eqGuard op T x y (.string k) (.string m)).run P w = .ok () w := by
  unfold eqGuard
  cases op <;> rfl
theorem count_ok {k : Nat → Tree AV} {a : AV} {u : Value} (h : (countT c q k).run = some a) (hq : slotR ν b Z w q u) : ∃ (yk : IntKind) (n : Nat), u = .int yk (n : Int) ∧ (k n).run = some a := by
  unfold countT at h
  split at h
  · exact ⟨_, _, sl_u8 hq, h⟩
  · exact ⟨_, _, sl_u16 hq, h⟩
  · exact ⟨_, _, sl_u32 hq, h⟩
  · exact ⟨_, _, sl_u64 hq, h⟩
  · rename_i kk n
    obtain ⟨h1, h2⟩ := guardT_ok h
    have : 0 ≤ n := by simpa using h1
    exact ⟨kk, n.toNat, by rw [sl_sint hq, Int.toNat_of_nonneg this], h2⟩
  · cases h
theorem shiftT_ok (hx : slotR ν b Z w p (ev f x)) (hy : slotR ν b Z w q (ev f y)) : Q P (.binOp op T x y U) ty f w ν b Z (shiftT op c p q) := by
  refine Q.of fun a ha => ?_
  obtain ⟨yk, n, hu, h⟩ := count_ok ha hy
  split at h <;> simp only [Tree.run, Option.some.injEq, reduceCtorEq] at h <;> subst h
  · exact ⟨_, bin_run (sl_u8 hx) hu eqg_int shl8_ok, sl_mk rfl rfl⟩
  · exact ⟨_, bin_run (sl_u8 hx) hu eqg_int shr8_ok, sl_mk rfl rfl⟩
  · exact ⟨_, bin_run (sl_u16 hx) hu eqg_int shl16_ok, sl_mk rfl rfl⟩
  · exact ⟨_, bin_run (sl_u16 hx) hu eqg_int shr16_ok, sl_mk rfl rfl⟩
  · exact ⟨_, bin_run (sl_u32 hx) hu eqg_int shl32_ok, sl_mk rfl rfl⟩
  · exact ⟨_, bin_run (sl_u32 hx) hu eqg_int shr32_ok, sl_mk rfl rfl⟩
  · exact ⟨_, bin_run (sl_u64 hx) hu eqg_int shl64_ok, sl_mk rfl rfl⟩
  · exact ⟨_, bin_run (sl_u64 hx) hu eqg_int shr64_ok, sl_mk rfl rfl⟩
  · exact ⟨_, bin_run (sl_sint hx) hu eqg_int shlI_ok, sl_mk rfl rfl⟩
  · exact ⟨_, bin_run (sl_sint hx) hu eqg_int shrI_ok, sl_mk rfl rfl⟩
theorem numT_ok (hx : slotR ν b Z w p (ev f x)) (hy : slotR ν b Z w q (ev f y)) : Q P (.binOp op T x y U) ty f w ν b Z (numT op c p q) := by
  refine Q.of fun a ha => ?_
  unfold numT at ha
  split at ha
  · split at ha
    · obtain ⟨h1, h2⟩ := guardT_ok ha; cases h2; exact ⟨_, bin_run (sl_u8 hx) (sl_u8 hy) eqg_int (quo8_ok h1), sl_mk rfl rfl⟩
    · obtain ⟨h1, h2⟩ := guardT_ok ha; cases h2; exact ⟨_, bin_run (sl_u8 hx) (sl_u8 hy) eqg_int (rem8_ok h1), sl_mk rfl rfl⟩
    · split at ha
      · rename_i r hr; cases ha; exact ⟨_, bin_run (sl_u8 hx) (sl_u8 hy) eqg_int (arith8_ok (U := U) hr), sl_mk rfl rfl⟩
      · split at ha
        · rename_i r hr; cases ha; exact ⟨_, bin_run (sl_u8 hx) (sl_u8 hy) eqg_int (cmp8_ok (U := U) hr), sl_mk rfl rfl⟩
        · cases ha
  · split at ha
    · obtain ⟨h1, h2⟩ := guardT_ok ha; cases h2; exact ⟨_, bin_run (sl_u16 hx) (sl_u16 hy) eqg_int (quo16_ok h1), sl_mk rfl rfl⟩
    · obtain ⟨h1, h2⟩ := guardT_ok ha; cases h2; exact ⟨_, bin_run (sl_u16 hx) (sl_u16 hy) eqg_int (rem16_ok h1), sl_mk rfl rfl⟩
    · split at ha
      · rename_i r hr; cases ha; exact ⟨_, bin_run (sl_u16 hx) (sl_u16 hy) eqg_int (arith16_ok (U := U) hr), sl_mk rfl rfl⟩
      · split at ha
        · rename_i r hr; cases ha; exact ⟨_, bin_run (sl_u16 hx) (sl_u16 hy) eqg_int (cmp16_ok (U := U) hr), sl_mk rfl rfl⟩
        · cases ha
  · split at ha
    · obtain ⟨h1, h2⟩ := guardT_ok ha; cases h2; exact ⟨_, bin_run (sl_u32 hx) (sl_u32 hy) eqg_int (quo32_ok h1), sl_mk rfl rfl⟩
    · obtain ⟨h1, h2⟩ := guardT_ok ha; cases h2; exact ⟨_, bin_run (sl_u32 hx) (sl_u32 hy) eqg_int (rem32_ok h1), sl_mk rfl rfl⟩
    · split at ha
      · rename_i r hr; cases ha; exact ⟨_, bin_run (sl_u32 hx) (sl_u32 hy) eqg_int (arith32_ok (U := U) hr), sl_mk rfl rfl⟩
      · split at ha
        · rename_i r hr; cases ha; exact ⟨_, bin_run (sl_u32 hx) (sl_u32 hy) eqg_int (cmp32_ok (U := U) hr), sl_mk rfl rfl⟩
        · cases ha
  · split at ha
    · obtain ⟨h1, h2⟩ := guardT_ok ha; cases h2; exact ⟨_, bin_run (sl_u64 hx) (sl_u64 hy) eqg_int (quo64_ok h1), sl_mk rfl rfl⟩
    · obtain ⟨h1, h2⟩ := guardT_ok ha; cases h2; exact ⟨_, bin_run (sl_u64 hx) (sl_u64 hy) eqg_int (rem64_ok h1), sl_mk rfl rfl⟩
    · split at ha
      · rename_i r hr; cases ha; exact ⟨_, bin_run (sl_u64 hx) (sl_u64 hy) eqg_int (arith64_ok (U := U) hr), sl_mk rfl rfl⟩
      · split at ha
        · rename_i r hr; cases ha; exact ⟨_, bin_run (sl_u64 hx) (sl_u64 hy) eqg_int (cmp64_ok (U := U) hr), sl_mk rfl rfl⟩
        · cases ha
  · rename_i k a' k' d
    cases hk : decide (k = k')
    · rw [hk] at ha; cases ha
    · rw [hk] at ha
      have hk : k = k' := by simpa using hk
      subst hk
      simp only [cond_true] at ha
      split at ha
      · obtain ⟨h1, h2⟩ := guardT_ok ha; cases h2; exact ⟨_, bin_run (sl_sint hx) (sl_sint hy) eqg_int (quoI_ok h1), sl_mk rfl rfl⟩
      · obtain ⟨h1, h2⟩ := guardT_ok ha; cases h2; exact ⟨_, bin_run (sl_sint hx) (sl_sint hy) eqg_int (remI_ok h1), sl_mk rfl rfl⟩
      · split at ha
        · rename_i r hr; cases ha; exact ⟨_, bin_run (sl_sint hx) (sl_sint hy) eqg_int (arithI_ok hr), sl_mk rfl rfl⟩
        · split at ha
          · rename_i r hr; cases ha; exact ⟨_, bin_run (sl_sint hx) (sl_sint hy) eqg_int (cmpI_ok hr), sl_mk rfl rfl⟩
          · cases ha
  · split at ha
    · obtain ⟨r, hr, h2⟩ := bindE ha
      cases h2
      exact ⟨_, bin_run (sl_str hx) (sl_str hy) eqg_str (catS_ok hr), sl_mk rfl rfl⟩
    · split at ha
      · rename_i r hr; cases ha; exact ⟨_, bin_run (sl_str hx) (sl_str hy) eqg_str (cmpS_ok hr), sl_mk rfl rfl⟩
      · cases ha
  · cases ha
theorem isPtr_ok (h : isPtrT P T = true) : ∃ e, P.underlying T = some (.pointer e) := by
  unfold isPtrT at h
  split at h
  · exact ⟨_, by assumption⟩
  · cases h
theorem nilT_ok (hx : slotR ν b Z w p (ev f x)) (hy : slotR ν b Z w q (ev f y)) : Q P (.binOp op T x y U) ty f w ν b Z (nilT P T op p q) := by
  intro a ha
  unfold nilT at ha
  split at ha
  · cases h : isPtrT P T <;> rw [h] at ha
    · cases ha
    · obtain ⟨e, he⟩ := isPtr_ok h; cases ha; exact o_eqPtrNil he (sl_nil hx) (sl_nil hy) ⟨rfl, rfl⟩
  · cases h : isPtrT P T <;> rw [h] at ha
    · cases ha
    · obtain ⟨e, he⟩ := isPtr_ok h; cases ha; exact o_nePtrNil he (sl_nil hx) (sl_nil hy) ⟨rfl, rfl⟩
  · cases h : isPtrT P T <;> rw [h] at ha
    · cases ha
    · obtain ⟨e, he⟩ := isPtr_ok h; cases ha; exact o_eqPtrNil he (sl_ptr hx).2 (sl_nil hy) ⟨rfl, rfl⟩
  · cases h : isPtrT P T <;> rw [h] at ha
    · cases ha
    · obtain ⟨e, he⟩ := isPtr_ok h; cases ha; exact o_nePtrNil he (sl_ptr hx).2 (sl_nil hy) ⟨rfl, rfl⟩
  · cases ha
theorem binT_ok (hx : slotR ν b Z w p (ev f x)) (hy : slotR ν b Z w q (ev f y)) : Q P (.binOp op T x y U) ty f w ν b Z (binT P T op c p q) := by
  unfold binT
  split
  · exact shiftT_ok hx hy
  · exact shiftT_ok hx hy
  · split
    · exact nilT_ok hx hy
    · exact numT_ok hx hy
end
end Hyp
