/- Operations that only compute. -/
import Derived.Test.YtcojhmllnhkbnaaDoorZA
import Derived.DeepKeys3
import Derived.ChangeMaps4
set_option linter.unusedVariables false
set_option linter.unusedSimpArgs false
namespace Hyp
open Go
def AV.int? : AV → Option (IntKind × Int)
  | .val (.sint k) x => some (k, x)
  | .val .u8 x => some (.u8, (x.toNat : Int))
  | .val .u16 x => some (.u16, (x.toNat : Int))
  | .val .u32 x => some (.u32, (x.toNat : Int))
  | .val .u64 x => some (.u64, (x.toNat : Int))
  | _ => none
def AV.bool? : AV → Option Bool
  | .tt => some true
  | .ff => some false
  | .val .bool x => some x
  | _ => none
section
variable {ν : Nms} {b : Nat} {Z : Nat → Prop} {w : World} {v : Value}
theorem sl_sint {k : IntKind} {x : Int} (h : slotR ν b Z w (.val (.sint k) x) v) : v = .int k x := List.head_eq_of_cons_eq (show [v] = [_] from h)
theorem sl_u8 {x : UInt8} (h : slotR ν b Z w (.val .u8 x) v) : v = u8 x := List.head_eq_of_cons_eq (show [v] = [_] from h)
theorem sl_u16 {x : UInt16} (h : slotR ν b Z w (.val .u16 x) v) : v = u16 x := List.head_eq_of_cons_eq (show [v] = [_] from h)
theorem sl_u32 {x : UInt32} (h : slotR ν b Z w (.val .u32 x) v) : v = u32 x := List.head_eq_of_cons_eq (show [v] = [_] from h)
theorem sl_u64 {x : UInt64} (h : slotR ν b Z w (.val .u64 x) v) : v = u64 x := List.head_eq_of_cons_eq (show [v] = [_] from h)
theorem sl_bool {x : Bool} (h : slotR ν b Z w (.val .bool x) v) : v = .bool x := List.head_eq_of_cons_eq (show [v] = [_] from h)
theorem sl_str {x : List UInt8} (h : slotR ν b Z w (.val .str x) v) : v = str x := List.head_eq_of_cons_eq (show [v] = [_] from h)
theorem sl_tt (h : slotR ν b Z w .tt v) : v = .bool true := List.head_eq_of_cons_eq (show [v] = [_] from h)
theorem sl_ff (h : slotR ν b Z w .ff v) : v = .bool false := List.head_eq_of_cons_eq (show [v] = [_] from h)
theorem sl_nil (h : slotR ν b Z w .nil v) : v = .pointer none := List.head_eq_of_cons_eq (show [v] = [_] from h)
theorem sl_snil {oe : Option Ty} (h : slotR ν b Z w (.snil oe) v) : v = .slice none 0 0 := List.head_eq_of_cons_eq (show [v] = [_] from h)
theorem sl_ptr {k off : Nat} (h : slotR ν b Z w (.ptr k off) v) : k < b ∧ v = .pointer (some ⟨(ν k).g, off, none⟩) := ⟨h.1, List.head_eq_of_cons_eq (show [v] = [_] from h.2)⟩
theorem sl_pel {k off : Nat} {e : Ty} {N i eo : Nat} (h : slotR ν b Z w (.pel k off e N i eo) v) : k < b ∧ v = .pointer (some ⟨(ν k).g, off + i * e.sz + eo, none⟩) := ⟨h.1, List.head_eq_of_cons_eq (show [v] = [_] from h.2)⟩
theorem sl_win {k s lo n : Nat} (h : slotR ν b Z w (.win k s lo n) v) : k < b ∧ IsSl v n ∧ lo + n ≤ vlen (ν k).v ∧ (v = subv s (ν k).v lo (lo + n) ∨ ∃ a, v = .slice a 0 0) := by
  obtain ⟨h1, u, h2, h3, h5, h4⟩ := h
  have : v = u := List.head_eq_of_cons_eq (show [v] = [_] from h2)
  exact ⟨h1, this ▸ h3, h5, this ▸ h4⟩
theorem sl_bwin {k off : Nat} {e : Ty} {N lo n : Nat} (h : slotR ν b Z w (.bwin k off e N lo n) v) : k < b ∧ IsSl v n ∧ lo + n ≤ N ∧ (v = .slice (some ⟨(ν k).g, off + lo * e.sz, none⟩) n (N - lo) ∨ ∃ a, v = .slice a 0 0) := by
  obtain ⟨h1, u, h2, h3, h5, h4⟩ := h
  have : v = u := List.head_eq_of_cons_eq (show [v] = [_] from h2)
  exact ⟨h1, this ▸ h3, h5, this ▸ h4⟩
theorem sl_whole {k s : Nat} (h : slotR ν b Z w (.whole k s) v) : k < b ∧ IsSl v (vlen v) ∧ v = (ν k).v := by
  obtain ⟨h1, u, h2, h3, h4⟩ := h
  have : v = u := List.head_eq_of_cons_eq (show [v] = [_] from h2)
  exact ⟨h1, this ▸ h3, this ▸ h4⟩
theorem sl_ro {c : Bool} {e : Ty} {xs : List e.den} (h : slotR ν b Z w (.ro c e xs) v) : RSl e.rty Z w v xs ∧ (c = true → Tight v) := by
  obtain ⟨u, h1, h2, h3⟩ := h
  have : v = u := List.head_eq_of_cons_eq (show [v] = [_] from h1)
  subst this
  exact ⟨h2, h3⟩
theorem int_ok {a : AV} {k : IntKind} {n : Int} (h : slotR ν b Z w a v) (hi : a.int? = some (k, n)) : v = .int k n := by
  unfold AV.int? at hi
  split at hi <;> simp only [Option.some.injEq, Prod.mk.injEq, reduceCtorEq] at hi <;> obtain ⟨rfl, rfl⟩ := hi
  · exact sl_sint h
  · exact sl_u8 h
  · exact sl_u16 h
  · exact sl_u32 h
  · exact sl_u64 h
theorem bool_ok {a : AV} {x : Bool} (h : slotR ν b Z w a v) (hi : a.bool? = some x) : v = .bool x := by
  unfold AV.bool? at hi
  split at hi <;> simp only [Option.some.injEq, reduceCtorEq] at hi <;> subst hi
  · exact sl_tt h
  · exact sl_ff h
  · exact sl_bool h
end
def AV.scalT : Ty → Bool
  | .sint _ | .u8 | .u16 | .u32 | .u64 | .bool | .str => true
  | _ => false
def mergeAV (x : Bool) : AV → AV → AV
  | .tt, .tt => .tt
  | .ff, .ff => .ff
  | .tt, .ff => .val .bool x
  | .ff, .tt => .val .bool (!x)
  | .tt, .val .bool q => .val .bool (x || q)
  | .ff, .val .bool q => .val .bool (!x && q)
  | .val .bool p, .tt => .val .bool (!x || p)
  | .val .bool p, .ff => .val .bool (x && p)
  | .val t p, .val t' q => match castTy t t' q with | some q => .val t (bif x then p else q) | none => .any
  | .und, .und => .und
  | .nil, .nil => .nil
  | .mnil, .mnil => .mnil
  | .fnil, .fnil => .fnil
  | .snil e, .snil _ => .snil e
  | .un, .un => .un
  | .whole k s, .whole k' s' => bif Nat.beq k k' && Nat.beq s s' then .whole k s else .any
  | .ptr k o, .ptr k' o' => bif Nat.beq k k' && Nat.beq o o' then .ptr k o else .any
  | .ro c e xs, .ro c' e' ys => match castL e e' ys with | some ys => .ro (c && c') e (bif x then xs else ys) | none => .any
  | .ro _ e xs, .snil _ => .ro false e (bif x then xs else [])
  | .snil _, .ro _ e ys => .ro false e (bif x then [] else ys)
  | .win k s lo n, .win k' s' lo' n' => bif Nat.beq k k' && Nat.beq s s' then .win k s (bif x then lo else lo') (bif x then n else n') else .any
  | _, _ => .any
section
variable {ν : Nms} {b : Nat} {Z : Nat → Prop} {w : World} {v : Value}
theorem mergeAV_ok {x : Bool} {a c : AV} (h1 : x = true → slotR ν b Z w a v) (h2 : x = false → slotR ν b Z w c v) : slotR ν b Z w (mergeAV x a c) v := by
  unfold mergeAV
  split
  case h_9 t p t' q hne =>
    split
    · rename_i q' hq
      obtain ⟨rfl, rfl⟩ := castTy_ok hq
      cases x
      · exact h2 rfl
      · exact h1 rfl
    · trivial
  case h_18 e xs c' e' ys =>
    split
    · rename_i ys' hy
      obtain ⟨he, hy2⟩ := castTy_ok (t := .list _) (t' := .list _) hy
      cases he
      cases hy2
      cases x
      · obtain ⟨u, g1, g2, g3⟩ := h2 rfl
        exact ⟨u, g1, g2, fun h => g3 (by simp only [Bool.and_eq_true] at h; exact h.2)⟩
      · obtain ⟨u, g1, g2, g3⟩ := h1 rfl
        exact ⟨u, g1, g2, fun h => g3 (by simp only [Bool.and_eq_true] at h; exact h.1)⟩
    · trivial
  all_goals first
    | (cases x <;> first | exact h1 rfl | exact h2 rfl)
    | skip
  case h_16 k s k' s' =>
    cases hc : (Nat.beq k k' && Nat.beq s s')
    · trivial
    · simp only [Bool.and_eq_true] at hc
      obtain rfl := Nat.eq_of_beq_eq_true hc.1
      obtain rfl := Nat.eq_of_beq_eq_true hc.2
      cases x
      · exact h2 rfl
      · exact h1 rfl
  case h_17 k o k' o' =>
    cases hc : (Nat.beq k k' && Nat.beq o o')
    · trivial
    · simp only [Bool.and_eq_true] at hc
      obtain rfl := Nat.eq_of_beq_eq_true hc.1
      obtain rfl := Nat.eq_of_beq_eq_true hc.2
      cases x
      · exact h2 rfl
      · exact h1 rfl
  case h_19 c e xs =>
    cases x
    · exact ⟨.slice none 0 0, (h2 rfl), ⟨[], Sl.nil _ _, by simp, rfl, by simp⟩, fun h => by cases h⟩
    · obtain ⟨u, g1, g2, g3⟩ := h1 rfl
      exact ⟨u, g1, g2, fun h => by cases h⟩
  case h_20 c e xs =>
    cases x
    · obtain ⟨u, g1, g2, g3⟩ := h2 rfl
      exact ⟨u, g1, g2, fun h => by cases h⟩
    · exact ⟨.slice none 0 0, (h1 rfl), ⟨[], Sl.nil _ _, by simp, rfl, by simp⟩, fun h => by cases h⟩
  case h_21 k s lo n k' s' lo' n' =>
    cases hc : (Nat.beq k k' && Nat.beq s s')
    · trivial
    · simp only [Bool.and_eq_true] at hc
      obtain rfl := Nat.eq_of_beq_eq_true hc.1
      obtain rfl := Nat.eq_of_beq_eq_true hc.2
      cases x
      · exact h2 rfl
      · exact h1 rfl
  · trivial
end
def opA (sl : Nat → AV) : Operand → AV
  | .tmp t => sl t
  | .const v => constAV v
  | .func g => .clo g .un
  | _ => .any
def isC : Operand → Bool
  | .const _ => true
  | _ => false
def guardT {α : Type} (c bad : Bool) (t : Tree α) : Tree α := bif c then (bif bad then .fail else t) else .get (nz bad) fun _ => t
theorem guardT_ok {α : Type} {c bad : Bool} {t : Tree α} {a : α} (h : (guardT c bad t).run = some a) : bad = false ∧ t.run = some a := by
  cases c <;> cases bad <;> simp [guardT, Tree.run, nz] at h ⊢ <;> exact h
def numA (k : IntKind) (n : Int) : AV := .val (.sint k) n
def countT (c : Bool) (y : AV) (k : Nat → Tree AV) : Tree AV := match y with
  | .val .u8 n => k n.toNat
  | .val .u16 n => k n.toNat
  | .val .u32 n => k n.toNat
  | .val .u64 n => k n.toNat
  | .val (.sint _) n => guardT c (decide (n < 0)) (k n.toNat)
  | _ => .fail
def shiftT (op : BinOp) (c : Bool) (x y : AV) : Tree AV := countT c y fun n => match op, x with
  | .shl, .val .u8 a => .ret (.val .u8 (shl8 a n))
  | .shr, .val .u8 a => .ret (.val .u8 (shr8 a n))
  | .shl, .val .u16 a => .ret (.val .u16 (shl16 a n))
  | .shr, .val .u16 a => .ret (.val .u16 (shr16 a n))
  | .shl, .val .u32 a => .ret (.val .u32 (shl32 a n))
  | .shr, .val .u32 a => .ret (.val .u32 (shr32 a n))
  | .shl, .val .u64 a => .ret (.val .u64 (shl64 a n))
  | .shr, .val .u64 a => .ret (.val .u64 (shr64 a n))
  | .shl, .val (.sint k) a => .ret (.val (.sint k) (shlI k a n))
  | .shr, .val (.sint k) a => .ret (.val (.sint k) (shrI k a n))
  | _, _ => .fail
def numT (op : BinOp) (c : Bool) (x y : AV) : Tree AV := match x, y with
  | .val .u8 a, .val .u8 d => match op with
    | .quo => guardT c (decide (d = 0)) (.ret (.val .u8 (a / d)))
    | .rem => guardT c (decide (d = 0)) (.ret (.val .u8 (a % d)))
    | _ => match arith8 op a d with | some r => .ret (.val .u8 r) | none => match cmp8 op a d with | some r => .ret (.val .bool r) | none => .fail
  | .val .u16 a, .val .u16 d => match op with
    | .quo => guardT c (decide (d = 0)) (.ret (.val .u16 (a / d)))
    | .rem => guardT c (decide (d = 0)) (.ret (.val .u16 (a % d)))
    | _ => match arith16 op a d with | some r => .ret (.val .u16 r) | none => match cmp16 op a d with | some r => .ret (.val .bool r) | none => .fail
  | .val .u32 a, .val .u32 d => match op with
    | .quo => guardT c (decide (d = 0)) (.ret (.val .u32 (a / d)))
    | .rem => guardT c (decide (d = 0)) (.ret (.val .u32 (a % d)))
    | _ => match arith32 op a d with | some r => .ret (.val .u32 r) | none => match cmp32 op a d with | some r => .ret (.val .bool r) | none => .fail
  | .val .u64 a, .val .u64 d => match op with
    | .quo => guardT c (decide (d = 0)) (.ret (.val .u64 (a / d)))
    | .rem => guardT c (decide (d = 0)) (.ret (.val .u64 (a % d)))
    | _ => match arith64 op a d with | some r => .ret (.val .u64 r) | none => match cmp64 op a d with | some r => .ret (.val .bool r) | none => .fail
  | .val (.sint k) a, .val (.sint k') d => bif decide (k = k') then (match op with
    | .quo => guardT c (decide (d = 0)) (.ret (.val (.sint k) (quoI k a d)))
    | .rem => guardT c (decide (d = 0)) (.ret (.val (.sint k) (a.tmod d)))
    | _ => match arithI k op a d with | some r => .ret (.val (.sint k) r) | none => match cmpI op a d with | some r => .ret (.val .bool r) | none => .fail) else .fail
  | .val .str a, .val .str d => match op with
    | .add => .get (catS a d) fun r => .ret (.val .str r)
    | _ => match cmpS op a d with | some r => .ret (.val .bool r) | none => .fail
  | _, _ => .fail
def isPtrT (P : Program) (T : TypeId) : Bool := match P.underlying T with | some (.pointer _) => true | _ => false
def nilT (P : Program) (T : TypeId) (op : BinOp) (x y : AV) : Tree AV := match op, x, y with
  | .eql, .nil, .nil => bif isPtrT P T then .ret .tt else .fail
  | .neq, .nil, .nil => bif isPtrT P T then .ret .ff else .fail
  | .eql, .ptr _ _, .nil => bif isPtrT P T then .ret .ff else .fail
  | .neq, .ptr _ _, .nil => bif isPtrT P T then .ret .tt else .fail
  | _, _, _ => .fail
def binT (P : Program) (T : TypeId) (op : BinOp) (c : Bool) (x y : AV) : Tree AV := match op with
  | .shl | .shr => shiftT op c x y
  | _ => match y with
    | .nil => nilT P T op x y
    | _ => numT op c x y
def Q (P : Program) (op : Op) (ty : TypeId) (f : Fr) (w : World) (ν : Nms) (b : Nat) (Z : Nat → Prop) (t : Tree AV) : Prop :=
  ∀ a, t.run = some a → OpW P op ty f w fun v w' => w' = w ∧ slotR ν b Z w a v
section
variable {P : Program} {op : BinOp} {ty T U : TypeId} {f : Fr} {w : World} {ν : Nms} {b : Nat} {Z : Nat → Prop} {x y : Operand} {p q : AV} {c : Bool}
theorem Q.of {op : Op} {t : Tree AV} (h : ∀ a, t.run = some a → ∃ v, (execOp (ev f) (bare op ty)).run P w = .ok (.value v) w ∧ slotR ν b Z w a v) : Q P op ty f w ν b Z t := by
  intro a ha
  obtain ⟨v, h1, h2⟩ := h a ha
  exact .of_run h1 ⟨rfl, h2⟩
theorem sl_mk {t : Ty} {d : t.den} {v : Value} (hs : t.isAgg = false) (h : t.rty.rel Z w d [v]) : slotR ν b Z w (.val t d) v := by
  show avV ν b Z w (.val t d) v
  unfold avV
  rw [if_neg (by simp [AV.isAgg, hs])]
  exact h
theorem bin_run {v u r : Value} (hx : ev f x = v) (hy : ev f y = u) (hg : (eqGuard op T x y v u).run P w = .ok () w) (h : (binOp op T v u).run P w = .ok r w) : (execOp (ev f) (bare (.binOp op T x y U) ty)).run P w = .ok (.value r) w := by
  simp only [execOp, bare, hx, hy, Sem.run_bind, hg, Result.andThen_ok, h, Sem.run_pure]
theorem eqg_int {k k' : IntKind} {n m : Int} : (eqGuard op T x y (.int k n) (.int k' m)).run P w = .ok () w := by
  unfold eqGuard
  cases op <;> rfl
theorem eqg_str {k m : ByteArray} : (eqGuard op T x y (.string k) (.string m)).run P w = .ok () w := by
  unfold eqGuard
  cases op <;> rfl
theorem count_ok {k : Nat → Tree AV} {a : AV} {u : Value} (h : (countT c q k).run = some a) (hq : slotR ν b Z w q u) : ∃ (yk : IntKind) (n : Nat), u = .int yk (n : Int) ∧ (k n).run = some a := by
  unfold countT at h
  split at h
  · exact ⟨_, _, sl_u8 hq, h⟩
  · exact ⟨_, _, sl_u16 hq, h⟩
  · exact ⟨_, _, sl_u32 hq, h⟩
  · exact ⟨_, _, sl_u64 hq, h⟩
  · rename_i kk n
    obtain ⟨h1, h2⟩ := guardT_ok h
    have : 0 ≤ n := by simpa using h1
    exact ⟨kk, n.toNat, by rw [sl_sint hq, Int.toNat_of_nonneg this], h2⟩
  · cases h
theorem shiftT_ok (hx : slotR ν b Z w p (ev f x)) (hy : slotR ν b Z w q (ev f y)) : Q P (.binOp op T x y U) ty f w ν b Z (shiftT op c p q) := by
  refine Q.of fun a ha => ?_
  obtain ⟨yk, n, hu, h⟩ := count_ok ha hy
  split at h <;> simp only [Tree.run, Option.some.injEq, reduceCtorEq] at h <;> subst h
  · exact ⟨_, bin_run (sl_u8 hx) hu eqg_int shl8_ok, sl_mk rfl rfl⟩
  · exact ⟨_, bin_run (sl_u8 hx) hu eqg_int shr8_ok, sl_mk rfl rfl⟩
  · exact ⟨_, bin_run (sl_u16 hx) hu eqg_int shl16_ok, sl_mk rfl rfl⟩
  · exact ⟨_, bin_run (sl_u16 hx) hu eqg_int shr16_ok, sl_mk rfl rfl⟩
  · exact ⟨_, bin_run (sl_u32 hx) hu eqg_int shl32_ok, sl_mk rfl rfl⟩
  · exact ⟨_, bin_run (sl_u32 hx) hu eqg_int shr32_ok, sl_mk rfl rfl⟩
  · exact ⟨_, bin_run (sl_u64 hx) hu eqg_int shl64_ok, sl_mk rfl rfl⟩
  · exact ⟨_, bin_run (sl_u64 hx) hu eqg_int shr64_ok, sl_mk rfl rfl⟩
  · exact ⟨_, bin_run (sl_sint hx) hu eqg_int shlI_ok, sl_mk rfl rfl⟩
  · exact ⟨_, bin_run (sl_sint hx) hu eqg_int shrI_ok, sl_mk rfl rfl⟩
theorem numT_ok (hx : slotR ν b Z w p (ev f x)) (hy : slotR ν b Z w q (ev f y)) : Q P (.binOp op T x y U) ty f w ν b Z (numT op c p q) := by
  refine Q.of fun a ha => ?_
  unfold numT at ha
  split at ha
  · split at ha
    · obtain ⟨h1, h2⟩ := guardT_ok ha; cases h2; exact ⟨_, bin_run (sl_u8 hx) (sl_u8 hy) eqg_int (quo8_ok h1), sl_mk rfl rfl⟩
    · obtain ⟨h1, h2⟩ := guardT_ok ha; cases h2; exact ⟨_, bin_run (sl_u8 hx) (sl_u8 hy) eqg_int (rem8_ok h1), sl_mk rfl rfl⟩
    · split at ha
      · rename_i r hr; cases ha; exact ⟨_, bin_run (sl_u8 hx) (sl_u8 hy) eqg_int (arith8_ok (U := U) hr), sl_mk rfl rfl⟩
      · split at ha
        · rename_i r hr; cases ha; exact ⟨_, bin_run (sl_u8 hx) (sl_u8 hy) eqg_int (cmp8_ok (U := U) hr), sl_mk rfl rfl⟩
        · cases ha
  · split at ha
    · obtain ⟨h1, h2⟩ := guardT_ok ha; cases h2; exact ⟨_, bin_run (sl_u16 hx) (sl_u16 hy) eqg_int (quo16_ok h1), sl_mk rfl rfl⟩
    · obtain ⟨h1, h2⟩ := guardT_ok ha; cases h2; exact ⟨_, bin_run (sl_u16 hx) (sl_u16 hy) eqg_int (rem16_ok h1), sl_mk rfl rfl⟩
    · split at ha
      · rename_i r hr; cases ha; exact ⟨_, bin_run (sl_u16 hx) (sl_u16 hy) eqg_int (arith16_ok (U := U) hr), sl_mk rfl rfl⟩
      · split at ha
        · rename_i r hr; cases ha; exact ⟨_, bin_run (sl_u16 hx) (sl_u16 hy) eqg_int (cmp16_ok (U := U) hr), sl_mk rfl rfl⟩
        · cases ha
  · split at ha
    · obtain ⟨h1, h2⟩ := guardT_ok ha; cases h2; exact ⟨_, bin_run (sl_u32 hx) (sl_u32 hy) eqg_int (quo32_ok h1), sl_mk rfl rfl⟩
    · obtain ⟨h1, h2⟩ := guardT_ok ha; cases h2; exact ⟨_, bin_run (sl_u32 hx) (sl_u32 hy) eqg_int (rem32_ok h1), sl_mk rfl rfl⟩
    · split at ha
      · rename_i r hr; cases ha; exact ⟨_, bin_run (sl_u32 hx) (sl_u32 hy) eqg_int (arith32_ok (U := U) hr), sl_mk rfl rfl⟩
      · split at ha
        · rename_i r hr; cases ha; exact ⟨_, bin_run (sl_u32 hx) (sl_u32 hy) eqg_int (cmp32_ok (U := U) hr), sl_mk rfl rfl⟩
        · cases ha
  · split at ha
    · obtain ⟨h1, h2⟩ := guardT_ok ha; cases h2; exact ⟨_, bin_run (sl_u64 hx) (sl_u64 hy) eqg_int (quo64_ok h1), sl_mk rfl rfl⟩
    · obtain ⟨h1, h2⟩ := guardT_ok ha; cases h2; exact ⟨_, bin_run (sl_u64 hx) (sl_u64 hy) eqg_int (rem64_ok h1), sl_mk rfl rfl⟩
    · split at ha
      · rename_i r hr; cases ha; exact ⟨_, bin_run (sl_u64 hx) (sl_u64 hy) eqg_int (arith64_ok (U := U) hr), sl_mk rfl rfl⟩
      · split at ha
        · rename_i r hr; cases ha; exact ⟨_, bin_run (sl_u64 hx) (sl_u64 hy) eqg_int (cmp64_ok (U := U) hr), sl_mk rfl rfl⟩
        · cases ha
  · rename_i k a' k' d
    cases hk : decide (k = k')
    · rw [hk] at ha; cases ha
    · rw [hk] at ha
      have hk : k = k' := by simpa using hk
      subst hk
      simp only [cond_true] at ha
      split at ha
      · obtain ⟨h1, h2⟩ := guardT_ok ha; cases h2; exact ⟨_, bin_run (sl_sint hx) (sl_sint hy) eqg_int (quoI_ok h1), sl_mk rfl rfl⟩
      · obtain ⟨h1, h2⟩ := guardT_ok ha; cases h2; exact ⟨_, bin_run (sl_sint hx) (sl_sint hy) eqg_int (remI_ok h1), sl_mk rfl rfl⟩
      · split at ha
        · rename_i r hr; cases ha; exact ⟨_, bin_run (sl_sint hx) (sl_sint hy) eqg_int (arithI_ok hr), sl_mk rfl rfl⟩
        · split at ha
          · rename_i r hr; cases ha; exact ⟨_, bin_run (sl_sint hx) (sl_sint hy) eqg_int (cmpI_ok hr), sl_mk rfl rfl⟩
          · cases ha
  · split at ha
    · obtain ⟨r, hr, h2⟩ := bindE ha
      cases h2
      exact ⟨_, bin_run (sl_str hx) (sl_str hy) eqg_str (catS_ok hr), sl_mk rfl rfl⟩
    · split at ha
      · rename_i r hr; cases ha; exact ⟨_, bin_run (sl_str hx) (sl_str hy) eqg_str (cmpS_ok hr), sl_mk rfl rfl⟩
      · cases ha
  · cases ha
theorem isPtr_ok (h : isPtrT P T = true) : ∃ e, P.underlying T = some (.pointer e) := by
  unfold isPtrT at h
  split at h
  · exact ⟨_, by assumption⟩
  · cases h
theorem nilT_ok (hx : slotR ν b Z w p (ev f x)) (hy : slotR ν b Z w q (ev f y)) : Q P (.binOp op T x y U) ty f w ν b Z (nilT P T op p q) := by
  intro a ha
  unfold nilT at ha
  split at ha
  · cases h : isPtrT P T <;> rw [h] at ha
    · cases ha
    · obtain ⟨e, he⟩ := isPtr_ok h; cases ha; exact o_eqPtrNil he (sl_nil hx) (sl_nil hy) ⟨rfl, rfl⟩
  · cases h : isPtrT P T <;> rw [h] at ha
    · cases ha
    · obtain ⟨e, he⟩ := isPtr_ok h; cases ha; exact o_nePtrNil he (sl_nil hx) (sl_nil hy) ⟨rfl, rfl⟩
  · cases h : isPtrT P T <;> rw [h] at ha
    · cases ha
    · obtain ⟨e, he⟩ := isPtr_ok h; cases ha; exact o_eqPtrNil he (sl_ptr hx).2 (sl_nil hy) ⟨rfl, rfl⟩
  · cases h : isPtrT P T <;> rw [h] at ha
    · cases ha
    · obtain ⟨e, he⟩ := isPtr_ok h; cases ha; exact o_nePtrNil he (sl_ptr hx).2 (sl_nil hy) ⟨rfl, rfl⟩
  · cases ha
theorem binT_ok (hx : slotR ν b Z w p (ev f x)) (hy : slotR ν b Z w q (ev f y)) : Q P (.binOp op T x y U) ty f w ν b Z (binT P T op c p q) := by
  unfold binT
  split
  · exact shiftT_ok hx hy
  · exact shiftT_ok hx hy
  · split
    · exact nilT_ok hx hy
    · exact numT_ok hx hy
end
end Hyp
set_option linter.unusedVariables false
set_option linter.unusedSimpArgs false
namespace Hyp
open Go
def tupA : AV → Nat → AV
  | .pr a _, 0 => a
  | .pr _ c, i + 1 => tupA c i
  | _, _ => .any
section
variable {ν : Nms} {b : Nat} {Z : Nat → Prop} {w : World}
theorem slotR.of {a : AV} {v : Value} (h : avV ν b Z w a v) : slotR ν b Z w a v := by
  unfold slotR
  split
  · trivial
  · simp [avV, AV.isAgg, avC] at h
  · simp [avV, AV.isAgg, avC] at h
  · exact h
theorem tupA_ok : ∀ {a : AV} {vs : List Value} {i : Nat} {v : Value}, avT ν b Z w a vs → vs[i]? = some v → slotR ν b Z w (tupA a i) v
  | .pr a c, _, 0, v, ⟨u, vs', h0, h1, h2⟩, hv => by
    subst h0
    cases hv
    exact .of h1
  | .pr a c, _, i + 1, v, ⟨u, vs', h0, h1, h2⟩, hv => by
    subst h0
    exact tupA_ok (a := c) (i := i) h2 (by simpa using hv)
  | .un, _, _, _, _, _ | .any, _, _, _, _, _ | .und, _, _, _, _, _ | .tup _, _, _, _, _, _ | .tt, _, _, _, _, _ | .ff, _, _, _, _, _ | .nil, _, _, _, _, _ | .mnil, _, _, _, _, _ | .fnil, _, _, _, _, _ | .snil _, _, _, _, _, _ | .val _ _, _, _, _, _, _ | .agg _, _, _, _, _, _ | .ptr _ _, _, _, _, _, _
  | .pel _ _ _ _ _ _, _, _, _, _, _ | .rowp _ _ _ _, _, _, _, _, _ | .rop _ _ _ _ _, _, _, _, _, _ | .whole _ _, _, _, _, _, _ | .win _ _ _ _, _, _, _, _, _ | .bwin _ _ _ _ _ _, _, _, _, _, _ | .ro _ _ _, _, _, _, _, _ => trivial
theorem avT_len : ∀ {a : AV} {vs : List Value}, avT ν b Z w a vs → ∀ i, tupA a i ≠ .any → i < vs.length
  | .pr a c, _, ⟨u, vs', h0, h1, h2⟩, i, h => by
    subst h0
    cases i with
    | zero => simp
    | succ i => have := avT_len h2 i h; simp; omega
  | .un, _, _, i, h => by cases i <;> exact absurd rfl h
  | .any, _, H, _, _ | .und, _, H, _, _ | .tup _, _, H, _, _ | .tt, _, H, _, _ | .ff, _, H, _, _ | .nil, _, H, _, _ | .mnil, _, H, _, _ | .fnil, _, H, _, _ | .snil _, _, H, _, _ | .val _ _, _, H, _, _ | .agg _, _, H, _, _ | .ptr _ _, _, H, _, _
  | .pel _ _ _ _ _ _, _, H, _, _ | .rowp _ _ _ _, _, H, _, _ | .rop _ _ _ _ _, _, H, _, _ | .whole _ _, _, H, _, _ | .win _ _ _ _, _, H, _, _ | .bwin _ _ _ _ _ _, _, H, _, _ | .ro _ _ _, _, H, _, _ | .mpv _, _, H, _, _ | .clo _ _, _, H, _, _ => H.elim
end
def extractT (x : AV) (i : Nat) : Tree AV := match x with
  | .tup a => match tupA a i with | .any => .fail | y => .ret y
  | _ => .fail
def notT (x : AV) : Tree AV := match x with
  | .tt => .ret .ff
  | .ff => .ret .tt
  | .val .bool x => .ret (.val .bool (!x))
  | _ => .fail
def negT (x : AV) : Tree AV := match x with
  | .val (.sint k) n => .ret (.val (.sint k) (k.wrap (0 - n)))
  | .val .u8 n => .ret (.val .u8 (0 - n))
  | .val .u16 n => .ret (.val .u16 (0 - n))
  | .val .u32 n => .ret (.val .u32 (0 - n))
  | .val .u64 n => .ret (.val .u64 (0 - n))
  | _ => .fail
def comT (x : AV) : Tree AV := match x with
  | .val .u8 n => .ret (.val .u8 (255 ^^^ n))
  | .val .u16 n => .ret (.val .u16 (65535 ^^^ n))
  | .val .u32 n => .ret (.val .u32 (4294967295 ^^^ n))
  | .val .u64 n => .ret (.val .u64 (18446744073709551615 ^^^ n))
  | _ => .fail
def unT (op : UnOp) (x : AV) : Tree AV := match op with
  | .not => notT x
  | .neg => negT x
  | .xor => comT x
  | _ => .fail
def int8 (n : Int) : UInt8 := UInt8.ofNat (n % 256).toNat
def int16 (n : Int) : UInt16 := UInt16.ofNat (n % 65536).toNat
def int32 (n : Int) : UInt32 := UInt32.ofNat (n % 4294967296).toNat
def int64 (n : Int) : UInt64 := UInt64.ofNat (n % 18446744073709551616).toNat
def toKind (k : IntKind) (x : AV) : Option AV := match k, x with
  | .u8, .val .u8 n => some (.val .u8 n)
  | .u8, .val .u16 n => some (.val .u8 (UInt8.ofNat n.toNat))
  | .u8, .val .u32 n => some (.val .u8 (UInt8.ofNat n.toNat))
  | .u8, .val .u64 n => some (.val .u8 (UInt8.ofNat n.toNat))
  | .u8, .val (.sint _) n => some (.val .u8 (int8 n))
  | .u16, .val (.sint _) n => some (.val .u16 (int16 n))
  | .u32, .val .u8 n => some (.val .u32 (UInt32.ofNat n.toNat))
  | .u32, .val .u32 n => some (.val .u32 n)
  | .u32, .val .u64 n => some (.val .u32 (UInt32.ofNat n.toNat))
  | .u32, .val (.sint _) n => some (.val .u32 (int32 n))
  | .u64, .val .u8 n => some (.val .u64 (UInt64.ofNat n.toNat))
  | .u64, .val .u16 n => some (.val .u64 (UInt64.ofNat n.toNat))
  | .u64, .val .u32 n => some (.val .u64 (UInt64.ofNat n.toNat))
  | .u64, .val .u64 n => some (.val .u64 n)
  | .u64, .val (.sint _) n => some (.val .u64 (int64 n))
  | .i64, .val .u8 n => some (.val (.sint .i64) (n.toNat : Int))
  | .i64, .val .u16 n => some (.val (.sint .i64) (n.toNat : Int))
  | .i64, .val .u32 n => some (.val (.sint .i64) (n.toNat : Int))
  | .i64, .val .u64 n => some (.val (.sint .i64) (IntKind.i64.wrap (n.toNat : Int)))
  | .i32, .val .u8 n => some (.val (.sint .i32) (n.toNat : Int))
  | .i64, .val (.sint .i64) n => some (.val (.sint .i64) (IntKind.i64.wrap n))
  | .i64, .val (.sint .i32) n => some (.val (.sint .i64) (IntKind.i64.wrap n))
  | .i32, .val (.sint .i32) n => some (.val (.sint .i32) (IntKind.i32.wrap n))
  | .i32, .val (.sint .i64) n => some (.val (.sint .i32) (IntKind.i32.wrap n))
  | _, _ => none
def lenA : AV → Option Int
  | .val .str s => some ((s.length : Nat) : Int)
  | .ro _ e xs => some ((xs.length : Nat) : Int)
  | .win _ _ _ n => some ((n : Nat) : Int)
  | .bwin _ _ _ _ _ n => some ((n : Nat) : Int)
  | .snil _ => some 0
  | _ => none
def fieldAddrT (P : Program) (T : TypeId) (x : AV) (i : Nat) : Tree AV := match P.underlying T with
  | some (.struct fs) => match fs[i]? with
    | some fd => match (P.info? fd.type).map (·.size) with
      | some (_ + 1) => match x with
        | .ptr k off => .ret (.ptr k (off + fd.offset))
        | .pel k off e N i eo => .ret (.pel k off e N i (eo + fd.offset))
        | .rowp k e i eo => .ret (.rowp k e i (eo + fd.offset))
        | .rop e xs i y eo => .ret (.rop e xs i y (eo + fd.offset))
        | _ => .fail
      | _ => .fail
    | none => .fail
  | _ => .fail
def nilCheckT (x : AV) : Tree AV := match x with
  | .ptr _ _ | .pel _ _ _ _ _ _ | .rowp _ _ _ _ | .rop _ _ _ _ _ => .ret x
  | _ => .fail
def minI (x y : Int) : Int := if y < x then y else x
def maxI (x y : Int) : Int := if x < y then y else x
section
variable {P : Program} {ty T U : TypeId} {f : Fr} {w : World} {ν : Nms} {b : Nat} {Z : Nat → Prop} {x y : Operand} {p q : AV} {c : Bool}
theorem extractT_ok {i : Nat} (hx : slotR ν b Z w p (ev f x)) : Q P (.extract x i) ty f w ν b Z (extractT p i) := by
  intro a ha
  unfold extractT at ha
  split at ha
  · rename_i a'
    obtain ⟨vs, h1, h2⟩ := hx
    have key : tupA a' i = a ∧ a ≠ .any := by
      split at ha
      · cases ha
      · rename_i hne
        cases ha
        exact ⟨rfl, hne⟩
    have hl := avT_len h2 i (by rw [key.1]; exact key.2)
    refine o_extract (vs := vs.toArray) (v := vs[i]) h1 (by simp [hl]) ⟨rfl, ?_⟩
    rw [← key.1]
    exact tupA_ok h2 (by simp [hl])
  · cases ha
theorem un_run {op : UnOp} {v r : Value} (hx : ev f x = v) (h : (Op.unary op v).run P w = .ok r w) : (execOp (ev f) (bare (.unOp op T x) ty)).run P w = .ok (.value r) w := by
  simp only [execOp, bare, hx, Sem.run_bind, h, Result.andThen_ok, Sem.run_pure]
theorem unT_ok {op : UnOp} (hx : slotR ν b Z w p (ev f x)) : Q P (.unOp op T x) ty f w ν b Z (unT op p) := by
  refine Q.of fun a ha => ?_
  unfold unT at ha
  split at ha
  · unfold notT at ha
    split at ha <;> simp only [Tree.run, Option.some.injEq, reduceCtorEq] at ha <;> subst ha
    · exact ⟨.bool false, un_run (sl_tt hx) rfl, rfl⟩
    · exact ⟨.bool true, un_run (sl_ff hx) rfl, rfl⟩
    · exact ⟨_, un_run (sl_bool hx) rfl, sl_mk rfl rfl⟩
  · unfold negT at ha
    split at ha <;> simp only [Tree.run, Option.some.injEq, reduceCtorEq] at ha <;> subst ha
    · exact ⟨_, un_run (sl_sint hx) rfl, sl_mk rfl rfl⟩
    · rename_i n
      exact ⟨_, un_run (sl_u8 hx) (arith8_ok (P := P) (w := w) (T := 0) (U := 0) (op := .sub) (a := 0) (b := n) rfl), sl_mk rfl rfl⟩
    · rename_i n
      exact ⟨_, un_run (sl_u16 hx) (arith16_ok (P := P) (w := w) (T := 0) (U := 0) (op := .sub) (a := 0) (b := n) rfl), sl_mk rfl rfl⟩
    · rename_i n
      exact ⟨_, un_run (sl_u32 hx) (arith32_ok (P := P) (w := w) (T := 0) (U := 0) (op := .sub) (a := 0) (b := n) rfl), sl_mk rfl rfl⟩
    · rename_i n
      exact ⟨_, un_run (sl_u64 hx) (arith64_ok (P := P) (w := w) (T := 0) (U := 0) (op := .sub) (a := 0) (b := n) rfl), sl_mk rfl rfl⟩
  · unfold comT at ha
    split at ha <;> simp only [Tree.run, Option.some.injEq, reduceCtorEq] at ha <;> subst ha
    · rename_i n
      exact ⟨_, un_run (sl_u8 hx) (arith8_ok (P := P) (w := w) (T := 0) (U := 0) (op := .xor) (a := 255) (b := n) rfl), sl_mk rfl rfl⟩
    · rename_i n
      exact ⟨_, un_run (sl_u16 hx) (arith16_ok (P := P) (w := w) (T := 0) (U := 0) (op := .xor) (a := 65535) (b := n) rfl), sl_mk rfl rfl⟩
    · rename_i n
      exact ⟨_, un_run (sl_u32 hx) (arith32_ok (P := P) (w := w) (T := 0) (U := 0) (op := .xor) (a := 4294967295) (b := n) rfl), sl_mk rfl rfl⟩
    · rename_i n
      exact ⟨_, un_run (sl_u64 hx) (arith64_ok (P := P) (w := w) (T := 0) (U := 0) (op := .xor) (a := 18446744073709551615) (b := n) rfl), sl_mk rfl rfl⟩
  · cases ha
theorem wrapSelf {k : IntKind} {n : Int} (h : k.min ≤ n ∧ n ≤ k.max) : k.wrap n = n := by
  obtain ⟨h1, h2⟩ := h
  cases k <;> simp [IntKind.wrap, IntKind.min, IntKind.max, IntKind.bits, IntKind.signed] at * <;> (try split) <;> omega
theorem toKind_ok {k : IntKind} {v : Value} {a : AV} (hx : slotR ν b Z w p v) (h : toKind k p = some a) : ∃ k' n, v = .int k' n ∧ slotR ν b Z w a (.int k (k.wrap n)) := by
  unfold toKind at h
  split at h <;> simp only [Option.some.injEq, reduceCtorEq] at h <;> subst h
  · rename_i n; exact ⟨_, _, sl_u8 hx, (sl_mk rfl (by rw [wrap8_self]; rfl))⟩
  · rename_i n; exact ⟨_, _, sl_u16 hx, (sl_mk rfl (by rw [wrap8_nat]; rfl))⟩
  · rename_i n; exact ⟨_, _, sl_u32 hx, (sl_mk rfl (by rw [wrap8_nat]; rfl))⟩
  · rename_i n; exact ⟨_, _, sl_u64 hx, (sl_mk rfl (by rw [wrap8_nat]; rfl))⟩
  · rename_i n
    refine ⟨_, _, sl_sint hx, sl_mk rfl ?_⟩
    have : IntKind.u8.wrap n = ((int8 n).toNat : Int) := by
      unfold int8
      rw [UInt8.toNat_ofNat']
      simp [IntKind.wrap, IntKind.bits, IntKind.signed]
      omega
    rw [this]; rfl
  · rename_i n
    refine ⟨_, _, sl_sint hx, sl_mk rfl ?_⟩
    have : IntKind.u16.wrap n = ((int16 n).toNat : Int) := by
      unfold int16
      rw [UInt16.toNat_ofNat']
      simp [IntKind.wrap, IntKind.bits, IntKind.signed]
      omega
    rw [this]; rfl
  · rename_i n; exact ⟨_, _, sl_u8 hx, (sl_mk rfl (by rw [wrap32_nat]; rfl))⟩
  · rename_i n; exact ⟨_, _, sl_u32 hx, (sl_mk rfl (by rw [wrap32_self]; rfl))⟩
  · rename_i n; exact ⟨_, _, sl_u64 hx, (sl_mk rfl (by rw [wrap32_nat]; rfl))⟩
  · rename_i n
    refine ⟨_, _, sl_sint hx, sl_mk rfl ?_⟩
    have : IntKind.u32.wrap n = ((int32 n).toNat : Int) := by
      unfold int32
      rw [UInt32.toNat_ofNat']
      simp [IntKind.wrap, IntKind.bits, IntKind.signed]
      omega
    rw [this]; rfl
  · rename_i n; exact ⟨_, _, sl_u8 hx, (sl_mk rfl (by rw [wrap64_nat]; rfl))⟩
  · rename_i n; exact ⟨_, _, sl_u16 hx, (sl_mk rfl (by rw [wrap64_nat]; rfl))⟩
  · rename_i n; exact ⟨_, _, sl_u32 hx, (sl_mk rfl (by rw [wrap64_nat]; rfl))⟩
  · rename_i n; exact ⟨_, _, sl_u64 hx, (sl_mk rfl (by rw [wrap64_self]; rfl))⟩
  · rename_i n
    refine ⟨_, _, sl_sint hx, sl_mk rfl ?_⟩
    have : IntKind.u64.wrap n = ((int64 n).toNat : Int) := by
      unfold int64
      rw [UInt64.toNat_ofNat']
      simp [IntKind.wrap, IntKind.bits, IntKind.signed]
      omega
    rw [this]; rfl
  · rename_i n; exact ⟨_, _, sl_u8 hx, (sl_mk rfl (by rw [wrapSelf (by have := n.toNat_lt; simp [IntKind.min, IntKind.max, IntKind.bits, IntKind.signed]; omega)]; rfl))⟩
  · rename_i n; exact ⟨_, _, sl_u16 hx, (sl_mk rfl (by rw [wrapSelf (by have := n.toNat_lt; simp [IntKind.min, IntKind.max, IntKind.bits, IntKind.signed]; omega)]; rfl))⟩
  · rename_i n; exact ⟨_, _, sl_u32 hx, (sl_mk rfl (by rw [wrapSelf (by have := n.toNat_lt; simp [IntKind.min, IntKind.max, IntKind.bits, IntKind.signed]; omega)]; rfl))⟩
  · rename_i n; exact ⟨_, _, sl_u64 hx, sl_mk rfl rfl⟩
  · rename_i n; exact ⟨_, _, sl_u8 hx, (sl_mk rfl (by rw [wrapSelf (by have := n.toNat_lt; simp [IntKind.min, IntKind.max, IntKind.bits, IntKind.signed]; omega)]; rfl))⟩
  · rename_i n; exact ⟨_, _, sl_sint hx, sl_mk rfl rfl⟩
  · rename_i n; exact ⟨_, _, sl_sint hx, sl_mk rfl rfl⟩
  · rename_i n; exact ⟨_, _, sl_sint hx, sl_mk rfl rfl⟩
  · rename_i n; exact ⟨_, _, sl_sint hx, sl_mk rfl rfl⟩
end
end Hyp
set_option linter.unusedVariables false
set_option linter.unusedSimpArgs false
namespace Hyp
open Go
theorem addAdd (ad : Addr) (m n : Nat) : (ad.add m).add n = ad.add (m + n) := by
  unfold Addr.add
  by_cases hi : m = 0 <;> by_cases hj : n = 0 <;> simp [hi, hj, Nat.add_assoc]
theorem RSl.sub {α : Type} {A : RTy α} {S : Nat → Prop} {w : World} {v : Value} {xs : List α} (h : RSl A S w v xs) (lo hi : Nat) (h1 : lo ≤ hi) (h2 : hi ≤ xs.length) : RSl A S w (subv A.sz v lo hi) ((xs.drop lo).take (hi - lo)) := by
  obtain ⟨cs, g1, g2, g3, g4⟩ := h
  have hl : ((xs.drop lo).take (hi - lo)).length = hi - lo := by simp; omega
  have e1 : lo * A.sz + (hi - lo) * A.sz = hi * A.sz := by rw [← Nat.add_mul]; congr 1; omega
  have e2 : hi * A.sz ≤ cs.length := by rw [g2]; exact Nat.mul_le_mul_right _ h2
  refine ⟨(cs.drop (lo * A.sz)).take ((hi - lo) * A.sz), by rw [hl]; exact g1.sub A.sz lo hi h1 h2 g2, by rw [hl, List.length_take, List.length_drop]; omega, ?_, ?_⟩
  · simp only [ones, List.all_eq_true] at g3 ⊢
    exact fun x hx => g3 x (List.mem_of_mem_drop (List.mem_of_mem_take hx))
  · intro i x hx
    have hi2 : i < hi - lo := by have := (List.getElem?_eq_some_iff.1 hx).1; omega
    rw [List.getElem?_take_of_lt hi2, List.getElem?_drop] at hx
    have h5 := g4 (lo + i) x hx
    have e3 : (i + 1) * A.sz ≤ (hi - lo) * A.sz := Nat.mul_le_mul_right _ hi2
    rw [Nat.succ_mul] at e3
    rw [List.drop_take, List.take_take, List.drop_drop, ← Nat.add_mul, Nat.min_eq_left (by omega)]
    exact h5
theorem RSl.sub3 {α : Type} {A : RTy α} {S : Nat → Prop} {w : World} {v : Value} {xs : List α} (h : RSl A S w v xs) (lo hi mx : Nat) (h1 : lo ≤ hi) (h2 : hi ≤ mx) (h3 : mx ≤ xs.length) : RSl A S w (subv3 A.sz v lo hi mx) ((xs.drop lo).take (hi - lo)) := by
  obtain ⟨cs, g1, g2, g3, g4⟩ := h
  have hl : ((xs.drop lo).take (hi - lo)).length = hi - lo := by simp; omega
  have e1 : lo * A.sz + (hi - lo) * A.sz = hi * A.sz := by rw [← Nat.add_mul]; congr 1; omega
  have e2 : hi * A.sz ≤ cs.length := by rw [g2]; exact Nat.mul_le_mul_right _ (by omega)
  refine ⟨(cs.drop (lo * A.sz)).take ((hi - lo) * A.sz), by rw [hl]; exact g1.sub3 A.sz lo hi h1 (by omega) g2 mx h2 h3, by rw [hl, List.length_take, List.length_drop]; omega, ?_, ?_⟩
  · simp only [ones, List.all_eq_true] at g3 ⊢
    exact fun x hx => g3 x (List.mem_of_mem_drop (List.mem_of_mem_take hx))
  · intro i x hx
    have hi2 : i < hi - lo := by have := (List.getElem?_eq_some_iff.1 hx).1; omega
    rw [List.getElem?_take_of_lt hi2, List.getElem?_drop] at hx
    have h5 := g4 (lo + i) x hx
    have e3 : (i + 1) * A.sz ≤ (hi - lo) * A.sz := Nat.mul_le_mul_right _ hi2
    rw [Nat.succ_mul] at e3
    rw [List.drop_take, List.take_take, List.drop_drop, ← Nat.add_mul, Nat.min_eq_left (by omega)]
    exact h5
def bndA (r : Operand → AV) (x : Option Operand) (d : Int) : Option Int := match x with
  | none => some d
  | some p => match (r p).int? with | some (_, n) => some n | none => none
def bndT {α : Type} (lo hi : Int) (n : Nat) (k : Nat → Nat → Tree α) : Tree α := .get (if 0 ≤ lo ∧ lo ≤ hi ∧ hi ≤ n then some () else none) fun _ => k lo.toNat hi.toNat
def und? (P : Program) (T : TypeId) : Option TypeDesc := P.underlying T
def elemSz (P : Program) (T : TypeId) : Option Nat := match P.underlying T with
  | some (.slice e) => (P.info? e).map (·.size)
  | _ => none
def isStrT (P : Program) (T : TypeId) : Bool := match P.underlying T with | some .string => true | _ => false
def sliceStrT (P : Program) (T : TypeId) (s : List UInt8) (lo hi : Int) : Tree AV := bif isStrT P T then .get (subI s lo hi) fun y => .ret (.val .str y) else .fail
def sliceRoT (P : Program) (T : TypeId) (e : Ty) (xs : List e.den) (lo hi : Int) : Tree AV := match elemSz P T with
  | some s => bif Nat.beq s e.sz then .get (subI xs lo hi) fun y => .ret (.ro false e y) else .fail
  | none => .fail
def sliceRo3T (P : Program) (T : TypeId) (e : Ty) (xs : List e.den) (lo hi mx : Int) : Tree AV := match elemSz P T with
  | some s => bif Nat.beq s e.sz then .get (if hi ≤ mx ∧ mx ≤ xs.length then subI xs lo hi else none) fun y => .ret (.ro (decide (hi = mx)) e y) else .fail
  | none => .fail
mutual
def tyOf (P : Program) : Nat → TypeId → Option Ty
  | 0, _ => none
  | d + 1, t => match P.underlying t with
    | some .bool => some .bool
    | some (.int .u8) => some .u8
    | some (.int .u16) => some .u16
    | some (.int .u32) => some .u32
    | some (.int .u64) => some .u64
    | some (.int k) => some (.sint k)
    | some .string => some .str
    | some (.array n e) => (tyOf P d e).map (.arr n)
    | some (.slice e) => (tyOf P d e).map .list
    | some (.struct fs) => (tysOf P d fs.toList).map .rcd
    | _ => none
def tysOf (P : Program) : Nat → List Field → Option Ty
  | 0, _ => none
  | _ + 1, [] => some .unit
  | d + 1, [f] => tyOf P d f.type
  | d + 1, f :: fs => (tyOf P d f.type).bind fun a => (tysOf P d fs).map fun b => .pair a b
end
def deep : Nat := 40
def arrTy (P : Program) (et : TypeId) : Option Ty := tyOf P deep et
def isC0 : Option Operand → Bool
  | none => true
  | _ => false
def sliceT (P : Program) (r : Operand → AV) (T : TypeId) (x : AV) (lo hi mx : Option Operand) : Tree AV := match x with
  | .val .str s => match bndA r lo 0, bndA r hi (s.length : Nat), mx with
    | some a, some c, none => sliceStrT P T s a c
    | _, _, _ => .fail
  | .ro _ e xs => match bndA r lo 0, bndA r hi (xs.length : Nat), mx with
    | some a, some c, none => sliceRoT P T e xs a c
    | some a, some c, some m => bif isC0 hi then .fail else match (r m).int? with | some (_, m) => sliceRo3T P T e xs a c m | none => .fail
    | _, _, _ => .fail
  | .win k s l n => match bndA r lo 0, bndA r hi (n : Nat), mx with
    | some a, some c, none => match elemSz P T with
      | some s' => bif Nat.beq s s' then bndT a c n fun a c => .ret (.win k s (l + a) (c - a)) else .fail
      | none => .fail
    | _, _, _ => .fail
  | .bwin k off e N l n => match bndA r lo 0, bndA r hi (n : Nat), mx with
    | some a, some c, none => match elemSz P T with
      | some s' => bif Nat.beq s' e.sz then bndT a c n fun a c => .ret (.bwin k off e N (l + a) (c - a)) else .fail
      | none => .fail
    | _, _, _ => .fail
  | .ptr k off => match P.underlying T, mx with
    | some (.array N et), none => match bndA r lo 0, bndA r hi (N : Nat), (P.info? et).map (·.size), arrTy P et with
      | some a, some c, some s, some e => bif Nat.beq s e.sz && Nat.ble N 9223372036854775807 then bndT a c N fun a c => .ret (.bwin k off e N a (c - a)) else .fail
      | _, _, _, _ => .fail
    | _, _ => .fail
  | _ => .fail
section
variable {P : Program} {ty T U : TypeId} {f : Fr} {w : World} {ν : Nms} {b : Nat} {Z : Nat → Prop} {x y : Operand} {p q : AV} {c : Bool}
theorem moveT_ok (hx : slotR ν b Z w p (ev f x)) : Q P (.move x) ty f w ν b Z (.ret p) := by
  intro a ha; cases ha; exact o_move ⟨rfl, hx⟩
theorem assignT_ok (hx : slotR ν b Z w p (ev f x)) : Q P (.assign x) ty f w ν b Z (.ret p) := by
  intro a ha; cases ha; exact o_assign ⟨rfl, hx⟩
theorem nilCheckT_ok (hx : slotR ν b Z w p (ev f x)) : Q P (.nilCheck x) ty f w ν b Z (nilCheckT p) := by
  intro a ha
  unfold nilCheckT at ha
  split at ha
  · cases ha; exact o_nilCheck (sl_ptr hx).2 ⟨rfl, (sl_ptr hx).2 ▸ hx⟩
  · cases ha; exact o_nilCheck (sl_pel hx).2 ⟨rfl, (sl_pel hx).2 ▸ hx⟩
  · cases ha
    obtain ⟨h0, ad, m, c, h1, h2⟩ := hx
    have h3 := List.head_eq_of_cons_eq (show [_] = [_] from h2)
    exact o_nilCheck h3 ⟨rfl, h0, ad, m, c, h1, rfl⟩
  · cases ha
    obtain ⟨h0, ad, m, c, h1, h2⟩ := hx
    have h3 := List.head_eq_of_cons_eq (show [_] = [_] from h1)
    exact o_nilCheck h3 ⟨rfl, h0, ad, m, c, rfl, h2⟩
  · cases ha
theorem lenA_ok {v : Value} {n : Int} (hx : slotR ν b Z w p v) (h : lenA p = some n) : (∃ s, p = .val .str s ∧ n = (s.length : Nat)) ∨ ∃ m : Nat, n = m ∧ IsSl v m := by
  unfold lenA at h
  split at h <;> simp only [Option.some.injEq, reduceCtorEq] at h <;> subst h
  · exact .inl ⟨_, rfl, rfl⟩
  · exact .inr ⟨_, rfl, (sl_ro hx).1.is⟩
  · exact .inr ⟨_, rfl, (sl_win hx).2.1⟩
  · exact .inr ⟨_, rfl, (sl_bwin hx).2.1⟩
  · exact .inr ⟨0, rfl, by rw [sl_snil hx]; exact isSl_nil⟩
def isSlT (P : Program) (T : TypeId) : Bool := match P.underlying T with | some (.slice _) => true | _ => false
def lenT (P : Program) (T : TypeId) (x : AV) : Tree AV := match x with
  | .val .str s => bif isStrT P T then .ret (.val (.sint .i64) ((s.length : Nat) : Int)) else .fail
  | _ => match lenA x with | some n => bif isSlT P T then .ret (.val (.sint .i64) n) else .fail | none => .fail
theorem isStr_ok (h : isStrT P T = true) : P.underlying T = some .string := by
  unfold isStrT at h
  split at h
  · assumption
  · cases h
theorem isSl_ok (h : isSlT P T = true) : ∃ e, P.underlying T = some (.slice e) := by
  unfold isSlT at h
  split at h
  · exact ⟨_, by assumption⟩
  · cases h
theorem lenT_ok (hx : slotR ν b Z w p (ev f x)) : Q P (.call ⟨.builtin .len, #[x], #[T]⟩) ty f w ν b Z (lenT P T p) := by
  intro a ha
  unfold lenT at ha
  split at ha
  · cases h : isStrT P T <;> rw [h] at ha
    · cases ha
    · cases ha
      exact o_lenStr' (isStr_ok h) (sl_str hx) ⟨rfl, rfl⟩
  · split at ha
    · rename_i n hn
      cases h : isSlT P T <;> rw [h] at ha
      · cases ha
      · cases ha
        obtain ⟨e, he⟩ := isSl_ok h
        rcases lenA_ok hx hn with ⟨s, rfl, _⟩ | ⟨m, rfl, hm⟩
        · rename_i hne; exact absurd rfl (hne s)
        · exact o_lenSl he rfl hm ⟨rfl, rfl⟩
    · cases ha
theorem fieldAddrT_ok {i : Nat} (hx : slotR ν b Z w p (ev f x)) : Q P (.fieldAddr T x i) ty f w ν b Z (fieldAddrT P T p i) := by
  intro a ha
  unfold fieldAddrT at ha
  split at ha
  · rename_i fs hu
    split at ha
    · rename_i fd hf
      split at ha
      · rename_i s hs
        have hsz : SizeIs P fd.type (s + 1) := .of hs
        have hadd : ∀ (ad : Addr) (m n : Nat), (ad.add m).add n = ad.add (m + n) := fun ad m n => by
          unfold Addr.add
          by_cases hi : m = 0 <;> by_cases hj : n = 0 <;> simp [hi, hj, Nat.add_assoc]
        have hadd0 : ∀ (g o n : Nat), (⟨g, o, none⟩ : Addr).add n = ⟨g, o + n, none⟩ := fun g o n => by
          unfold Addr.add
          by_cases hj : n = 0 <;> simp [hj]
        split at ha
        · cases ha
          exact o_fieldAddr hu hf hsz (sl_ptr hx).2 rfl ⟨rfl, (sl_ptr hx).1, by rw [hadd0]⟩
        · cases ha
          exact o_fieldAddr hu hf hsz (sl_pel hx).2 rfl ⟨rfl, (sl_pel hx).1, by rw [hadd0, Nat.add_assoc]⟩
        · cases ha
          obtain ⟨h0, ad, m, c, h1, h2⟩ := hx
          have h3 := List.head_eq_of_cons_eq (show [_] = [_] from h2)
          exact o_fieldAddr hu hf hsz h3 rfl ⟨rfl, h0, ad, m, c, h1, by rw [hadd, Nat.add_assoc]⟩
        · cases ha
          obtain ⟨h0, ad, m, c, h1, h2⟩ := hx
          have h3 := List.head_eq_of_cons_eq (show [_] = [_] from h1)
          exact o_fieldAddr hu hf hsz h3 rfl ⟨rfl, h0, ad, m, c, by rw [hadd, Nat.add_assoc], h2⟩
        · cases ha
      · cases ha
    · cases ha
  · cases ha
theorem elemSz_ok {s : Nat} (h : elemSz P T = some s) : ∃ e, P.underlying T = some (.slice e) ∧ SizeIs P e s := by
  unfold elemSz at h
  split at h
  · rename_i e he; exact ⟨e, he, .of h⟩
  · cases h
theorem bndA_ok {r : Operand → AV} {o : Option Operand} {d n : Int} (hr : ∀ x, slotR ν b Z w (r x) (ev f x)) (h : bndA r o d = some n) : (o = none ∧ n = d) ∨ ∃ p, o = some p ∧ ∃ k, ev f p = .int k n := by
  unfold bndA at h
  split at h
  · cases h; exact .inl ⟨rfl, rfl⟩
  · rename_i p
    split at h
    · rename_i k m hi
      cases h
      exact .inr ⟨p, rfl, k, int_ok (hr p) hi⟩
    · cases h
theorem toN {n : Int} {v : Value} {k : IntKind} (h : v = .int k n) (h0 : 0 ≤ n) : v = .int k (n.toNat : Int) := by rw [h, Int.toNat_of_nonneg h0]
theorem bnds {o1 o2 : Option Operand} {a c : Int} {n : Nat} {A C : Nat} (h1 : (o1 = none ∧ a = 0) ∨ ∃ p, o1 = some p ∧ ∃ k, ev f p = .int k a) (h2 : (o2 = none ∧ c = (n : Int)) ∨ ∃ p, o2 = some p ∧ ∃ k, ev f p = .int k c) (hA : a = A) (hC : c = C) :
    ((o1 = none ∧ A = 0) ∨ ∃ p, o1 = some p ∧ ∃ k, ev f p = .int k (A : Int)) ∧ ((o2 = none ∧ C = n) ∨ ∃ p, o2 = some p ∧ ∃ k, ev f p = .int k (C : Int)) := by
  subst hA; subst hC
  refine ⟨?_, ?_⟩
  · rcases h1 with ⟨e, h⟩ | h
    · exact .inl ⟨e, by omega⟩
    · exact .inr h
  · rcases h2 with ⟨e, h⟩ | h
    · exact .inl ⟨e, by omega⟩
    · exact .inr h
theorem o_sliceStr {K : Value → World → Prop} {s : List UInt8} {lo hi : Option Operand} {A C : Nat} (hu : P.underlying T = some .string) (hx : ev f x = str s) (h1 : (lo = none ∧ A = 0) ∨ ∃ p, lo = some p ∧ ∃ k, ev f p = .int k (A : Int))
    (h2 : (hi = none ∧ C = s.length) ∨ ∃ p, hi = some p ∧ ∃ k, ev f p = .int k (C : Int)) (hAC : A ≤ C) (hC : C ≤ s.length) (h : K (str ((s.drop A).take (C - A))) w) : OpW P (.slice T x lo hi none) ty f w K := by
  refine .of_run ?_ h
  have hsz : (ByteArray.mk s.toArray).size = s.length := by show s.toArray.size = _; simp
  have hex : (ByteArray.mk s.toArray).extract A C = ByteArray.mk ((s.drop A).take (C - A)).toArray := by
    apply ByteArray.ext
    apply Array.ext'
    rw [ByteArray.data_extract]
    simp [List.extract_eq_take_drop]
  rcases h1 with ⟨rfl, rfl⟩ | ⟨p, rfl, kp, hp⟩ <;> rcases h2 with ⟨rfl, rfl⟩ | ⟨q, rfl, kq, hq⟩ <;>
    simp [execOp, bare, hx, Instr.sliceAt, run_und hu, Instr.slice, Instr.sliceBounds, Instr.sliceBound, asIntOf, str, hsz, hex, *] <;> (try omega)
theorem o_slice3 {K : Value → World → Prop} {e : TypeId} {lo hi mx : Option Operand} {v : Value} {n sz a c m : Nat} (hu : P.underlying T = some (.slice e)) (hs : SizeIs P e sz) (hx : ev f x = v) (hv : IsSl v n)
    (hlo : (lo = none ∧ a = 0) ∨ (∃ p, lo = some p ∧ ∃ k, ev f p = .int k (a : Int))) (hhi : ∃ p, hi = some p ∧ ∃ k, ev f p = .int k (c : Int)) (hmx : ∃ p, mx = some p ∧ ∃ k, ev f p = .int k (m : Int))
    (hac : a ≤ c) (hcm : c ≤ m) (hmn : m ≤ n) (h : K (subv3 sz v a c m) w) : OpW P (.slice T x lo hi mx) ty f w K := by
  obtain ⟨ad, cp, rfl, hc, hcm', ha⟩ := hv
  refine .of_run ?_ h
  have hbc : m ≤ cp := by omega
  obtain ⟨q, rfl, kq, hq⟩ := hhi
  obtain ⟨t, rfl, kt, ht⟩ := hmx
  rcases hlo with ⟨rfl, rfl⟩ | ⟨p, rfl, kp, hp⟩ <;>
    simp [execOp, bare, hx, Instr.sliceAt, run_und hu, Instr.slice, Instr.sliceBounds, Instr.sliceBound, asIntOf, hs.run, subv3, hac, hbc, *] <;> (try omega)
theorem o_sliceArr {K : Value → World → Prop} {N et sz a c : Nat} {ad : Addr} {lo hi : Option Operand} (hu : P.underlying T = some (.array N et)) (hs : SizeIs P et sz) (hx : ev f x = .pointer (some ad))
    (hlo : (lo = none ∧ a = 0) ∨ (∃ p, lo = some p ∧ ∃ k, ev f p = .int k (a : Int))) (hhi : (hi = none ∧ c = N) ∨ (∃ p, hi = some p ∧ ∃ k, ev f p = .int k (c : Int))) (hac : a ≤ c) (hcN : c ≤ N)
    (h : K (.slice (some (if N = a then ad else ad.add (a * sz))) (c - a) (N - a)) w) : OpW P (.slice T x lo hi none) ty f w K := by
  refine .of_run ?_ h
  rcases hlo with ⟨rfl, rfl⟩ | ⟨p, rfl, kp, hp⟩ <;> rcases hhi with ⟨rfl, rfl⟩ | ⟨q, rfl, kq, hq⟩ <;>
    simp [execOp, bare, hx, Instr.sliceAt, run_und hu, Instr.sureAddr, Instr.sliceBounds, Instr.sliceBound, asIntOf, hs.run, hac, hcN, *] <;> (try omega)
theorem subv_sub {s : Nat} {V v : Value} {l n A C : Nat} (h : IsSl v n) (hv : v = subv s V l (l + n) ∨ ∃ a, v = .slice a 0 0) (h1 : A ≤ C) (h2 : C ≤ n) : subv s v A C = subv s V (l + A) (l + A + (C - A)) ∨ ∃ a, subv s v A C = .slice a 0 0 := by
  obtain ⟨ad, cp, rfl, hn, hm, ha⟩ := h
  by_cases h0 : cp - A = 0
  · right
    have e1 : C - A = 0 := by omega
    exact ⟨_, by simp only [subv, h0, e1]; rfl⟩
  · left
    rcases hv with hv | ⟨a, hv⟩
    · cases V with
      | slice a0 n0 c0 =>
        simp only [subv, Value.slice.injEq] at hv
        obtain ⟨hv1, hv2, hv3⟩ := hv
        have e2 : ¬ c0 = l := by omega
        have e3 : ¬ c0 = l + A := by omega
        have e4 : ¬ cp = A := by omega
        rw [if_neg e2] at hv1
        simp only [subv, if_neg e3, if_neg e4, Value.slice.injEq]
        refine ⟨?_, by omega, by omega⟩
        rw [hv1, Option.map_map]
        congr 1
        funext x
        show (x.add (l * s)).add (A * s) = x.add ((l + A) * s)
        rw [addAdd, Nat.add_mul]
      | _ => simp [subv] at hv
    · cases hv
      omega
theorem sliceT_ok {r : Operand → AV} {lo hi mx : Option Operand} (hr : ∀ x, slotR ν b Z w (r x) (ev f x)) (hp : p = r x) : Q P (.slice T x lo hi mx) ty f w ν b Z (sliceT P r T p lo hi mx) := by
  intro a ha
  subst hp
  have hx := hr x
  generalize r x = p at hx ha
  unfold sliceT at ha
  split at ha
  ·
    rename_i s
    split at ha
    · rename_i A C hA hC
      unfold sliceStrT at ha
      cases h : isStrT P T <;> rw [h] at ha
      · cases ha
      · obtain ⟨y, hy, h2⟩ := bindE ha
        cases h2
        obtain ⟨A', C', rfl, rfl, h1, h2, h3⟩ := subI_some hy
        obtain ⟨g1, g2⟩ := bnds (n := s.length) (bndA_ok hr hA) (bndA_ok hr hC) rfl rfl
        exact o_sliceStr (isStr_ok h) (sl_str hx) g1 g2 h1 h2 ⟨rfl, by rw [← h3]; exact sl_mk rfl rfl⟩
    · cases ha
  ·
    rename_i ct e xs
    obtain ⟨hro, htight⟩ := sl_ro hx
    split at ha
    · rename_i A C hA hC
      unfold sliceRoT at ha
      split at ha
      · rename_i s hs
        cases hb : Nat.beq s e.sz <;> rw [hb] at ha
        · cases ha
        · obtain ⟨y, hy, h2⟩ := bindE ha
          cases h2
          obtain ⟨A', C', rfl, rfl, h1, h2, h3⟩ := subI_some hy
          obtain ⟨g1, g2⟩ := bnds (n := xs.length) (bndA_ok hr hA) (bndA_ok hr hC) rfl rfl
          obtain ⟨et, hu, hsz⟩ := elemSz_ok hs
          have hse := Nat.eq_of_beq_eq_true hb
          subst hse
          refine o_slice hu hsz rfl hro.is g1 g2 h1 h2 ⟨rfl, _, rfl, ?_, fun h => by cases h⟩
          have := hro.sub A' C' h1 h2
          rw [e.sz_rty] at this
          rw [h3]
          exact this
      · cases ha
    · rename_i A C m hA hC
      cases h0 : isC0 hi <;> rw [h0] at ha
      case true => cases ha
      simp only [cond_false] at ha
      split at ha
      · rename_i k M hM
        unfold sliceRo3T at ha
        split at ha
        · rename_i s hs
          cases hb : Nat.beq s e.sz <;> rw [hb] at ha
          · cases ha
          · obtain ⟨y, hy, h2⟩ := bindE ha
            cases h2
            split at hy
            · rename_i hm
              obtain ⟨A', C', rfl, rfl, h1, h2, h3⟩ := subI_some hy
              obtain ⟨g1, _⟩ := bnds (n := xs.length) (bndA_ok hr hA) (bndA_ok hr hC) rfl rfl
              obtain ⟨et, hu, hsz⟩ := elemSz_ok hs
              have hse := Nat.eq_of_beq_eq_true hb
              subst hse
              have g2 : ∃ p, hi = some p ∧ ∃ k, ev f p = .int k (C' : Int) := by
                rcases bndA_ok hr hC with ⟨e1, _⟩ | h
                · rw [e1] at h0; cases h0
                · exact h
              have hM0 : 0 ≤ M := by omega
              refine o_slice3 (m := M.toNat) hu hsz rfl hro.is g1 g2 ⟨_, rfl, k, toN (int_ok (hr _) hM) hM0⟩ h1 (by omega) (by omega) ⟨rfl, _, rfl, ?_, fun h => ?_⟩
              · have := hro.sub3 A' C' M.toNat h1 (by omega) (by omega)
                rw [e.sz_rty] at this
                rw [h3]
                exact this
              · have hcm : (C' : Int) = M := by simpa using h
                have : M.toNat = C' := by omega
                rw [this]
                obtain ⟨ad, cp, hv, _⟩ := hro.is
                rw [hv]
                exact ⟨_, _, rfl⟩
            · cases hy
        · cases ha
      · cases ha
    · cases ha
  ·
    rename_i k s l n
    split at ha
    · rename_i A C hA hC
      split at ha
      · rename_i s' hs
        cases hb : Nat.beq s s' <;> rw [hb] at ha
        · cases ha
        · unfold bndT at ha
          obtain ⟨y, hy, h2⟩ := bindE ha
          cases h2
          split at hy
          · rename_i hb3
            obtain ⟨et, hu, hsz⟩ := elemSz_ok hs
            have hse := Nat.eq_of_beq_eq_true hb
            subst hse
            obtain ⟨g1, g2⟩ := bnds (n := n) (A := A.toNat) (C := C.toNat) (bndA_ok hr hA) (bndA_ok hr hC) (by omega) (by omega)
            obtain ⟨k1, k2, k4, k3⟩ := sl_win hx
            exact o_slice hu hsz rfl k2 g1 g2 (by omega) (by omega) ⟨rfl, k1, _, rfl, k2.sub s _ _ (by omega) (by omega), by omega, subv_sub k2 k3 (by omega) (by omega)⟩
          · cases hy
      · cases ha
    · cases ha
  ·
    rename_i k off e N l n
    split at ha
    · rename_i A C hA hC
      split at ha
      · rename_i s' hs
        cases hb : Nat.beq s' e.sz <;> rw [hb] at ha
        · cases ha
        · unfold bndT at ha
          obtain ⟨y, hy, h2⟩ := bindE ha
          cases h2
          split at hy
          · rename_i hb3
            obtain ⟨et, hu, hsz⟩ := elemSz_ok hs
            have hse := Nat.eq_of_beq_eq_true hb
            subst hse
            obtain ⟨g1, g2⟩ := bnds (n := n) (A := A.toNat) (C := C.toNat) (bndA_ok hr hA) (bndA_ok hr hC) (by omega) (by omega)
            obtain ⟨k1, k2, k4, k3⟩ := sl_bwin hx
            refine o_slice hu hsz rfl k2 g1 g2 (by omega) (by omega) ⟨rfl, k1, _, rfl, k2.sub _ _ _ (by omega) (by omega), by omega, ?_⟩
            rcases k3 with k3 | ⟨ad, k3⟩
            · rw [k3]
              by_cases h0 : N - l - A.toNat = 0
              · right
                have : C.toNat - A.toNat = 0 := by omega
                exact ⟨_, by simp only [subv, h0, this]; rfl⟩
              · left
                have e4 : ¬ N - l = A.toNat := by omega
                simp only [subv, if_neg e4, Option.map_some, Value.slice.injEq, Option.some.injEq]
                refine ⟨?_, trivial, by omega⟩
                unfold Addr.add
                split
                · rename_i hz
                  simp only [Addr.mk.injEq, true_and, and_true]
                  rw [Nat.add_mul, hz]
                  omega
                · simp only [Addr.mk.injEq, true_and, and_true]
                  rw [Nat.add_mul]
                  omega
            · right
              have hn : n = 0 := by
                obtain ⟨_, _, q1, q2, _⟩ := k2
                rw [k3] at q1
                cases q1
                rfl
              have h0 : A.toNat = 0 := by omega
              have h1 : C.toNat = 0 := by omega
              exact ⟨_, by rw [k3, h0, h1]; rfl⟩
          · cases hy
      · cases ha
    · cases ha
  ·
    rename_i k off
    split at ha
    · rename_i N et hu
      split at ha
      · rename_i A C s e hA hC hs he
        cases hb : (Nat.beq s e.sz && Nat.ble N 9223372036854775807) <;> rw [hb] at ha
        · cases ha
        · simp only [Bool.and_eq_true] at hb
          unfold bndT at ha
          obtain ⟨y, hy, h2⟩ := bindE ha
          cases h2
          split at hy
          · rename_i hb3
            have hse := Nat.eq_of_beq_eq_true hb.1
            subst hse
            obtain ⟨g1, g2⟩ := bnds (n := N) (A := A.toNat) (C := C.toNat) (bndA_ok hr hA) (bndA_ok hr hC) (by omega) (by omega)
            obtain ⟨k1, k2⟩ := sl_ptr hx
            have hsz : SizeIs P et e.sz := .of hs
            have hNm : N ≤ maxLen := Nat.le_of_ble_eq_true hb.2
            refine o_sliceArr hu hsz k2 g1 g2 (by omega) (by omega) ⟨rfl, k1, _, rfl, ⟨_, _, rfl, by omega, by omega, fun h => by cases h⟩, by omega, ?_⟩
            · by_cases h0 : N = A.toNat
              · right
                have : C.toNat - A.toNat = 0 := by omega
                exact ⟨_, by rw [this, ← h0, Nat.sub_self]⟩
              · left
                rw [if_neg h0]
                simp only [Value.slice.injEq, Option.some.injEq, and_true]
                unfold Addr.add
                split
                · rename_i hz; simp only [Addr.mk.injEq, true_and, and_true]; omega
                · rfl
          · cases hy
      · cases ha
    · cases ha
  · cases ha
end
end Hyp
set_option linter.unusedVariables false
set_option linter.unusedSimpArgs false
namespace Hyp
open Go
def Ty.wf : (t : Ty) → t.den → Bool
  | .arr n e, xs => Nat.beq xs.length n && xs.all e.wf
  | .pair a b, x => a.wf x.1 && b.wf x.2
  | .rcd t, x => t.wf x
  | .list _, _ => false
  | _, _ => true
theorem Ty.len_enc : (t : Ty) → t.flat = true → ∀ x : t.den, t.wf x = true → (t.enc x).length = t.sz
  | .sint _, _, _, _ | .u8, _, _, _ | .u16, _, _, _ | .u32, _, _, _ | .u64, _, _, _ | .bool, _, _, _ | .str, _, _, _ | .unit, _, _, _ => rfl
  | .list _, h, _, _ => by cases h
  | .rcd t, h, x, hw => t.len_enc h x hw
  | .pair a b, h, x, hw => by
    simp only [Ty.flat, Ty.wf, Bool.and_eq_true] at h hw
    show (a.enc x.1 ++ b.enc x.2).length = a.sz + b.sz
    rw [List.length_append, a.len_enc h.1 _ hw.1, b.len_enc h.2 _ hw.2]
  | .arr n e, h, xs, hw => by
    simp only [Ty.wf, Bool.and_eq_true] at hw
    have hn := Nat.eq_of_beq_eq_true hw.1
    have hall : ∀ x ∈ xs, e.wf x = true := by simpa using hw.2
    show (xs.flatMap e.enc).length = n * e.sz
    rw [← hn]
    clear hn hw
    induction xs with
    | nil => simp
    | cons x xs ih =>
      rw [List.flatMap_cons, List.length_append, e.len_enc h x (hall x (by simp)), ih (fun y hy => hall y (by simp [hy])), List.length_cons, Nat.succ_mul, Nat.add_comm]
theorem Ty.enc_rel : (t : Ty) → t.flat = true → ∀ {Z w} {x : t.den}, t.wf x = true → t.rty.rel Z w x (t.enc x)
  | .sint _, _, _, _, _, _ | .u8, _, _, _, _, _ | .u16, _, _, _, _, _ | .u32, _, _, _, _, _ | .u64, _, _, _, _, _ | .bool, _, _, _, _, _ | .str, _, _, _, _, _ | .unit, _, _, _, _, _ => rfl
  | .list _, h, _, _, _, _ => by cases h
  | .rcd t, h, _, _, _, hw => t.enc_rel h hw
  | .pair a b, h, _, _, x, hw => by
    simp only [Ty.flat, Ty.wf, Bool.and_eq_true] at h hw
    exact ⟨_, _, rfl, a.enc_rel h.1 hw.1, b.enc_rel h.2 hw.2⟩
  | .arr n e, h, Z, w, xs, hw => by
    have hw0 := hw
    simp only [Ty.wf, Bool.and_eq_true] at hw
    have hn := Nat.eq_of_beq_eq_true hw.1
    have hall : ∀ x ∈ xs, e.wf x = true := by simpa using hw.2
    have hlen : ((Ty.arr n e).enc xs).length = n * e.sz := (Ty.arr n e).len_enc h xs hw0
    have key : ∀ (xs : List e.den), (∀ x ∈ xs, e.wf x = true) → ones (xs.flatMap e.enc) = true ∧ ∀ i x, xs[i]? = some x → e.rty.rel Z w x (((xs.flatMap e.enc).drop (i * e.sz)).take e.sz) := by
      intro xs
      induction xs with
      | nil => intro _; exact ⟨rfl, by simp⟩
      | cons x xs ih =>
        intro hall
        have ih := ih (fun y hy => hall y (by simp [hy]))
        have hx := e.enc_rel h (Z := Z) (w := w) (hall x (by simp))
        have hl := e.len_enc h x (hall x (by simp))
        refine ⟨by rw [List.flatMap_cons]; exact ones_append (e.rty.one hx) ih.1, fun i y hy => ?_⟩
        rw [List.flatMap_cons]
        cases i with
        | zero =>
          simp only [List.getElem?_cons_zero, Option.some.injEq] at hy
          subst hy
          rw [Nat.zero_mul, List.drop_zero, List.take_append_of_le_length (by omega), List.take_of_length_le (by omega)]
          exact hx
        | succ i =>
          rw [Nat.succ_mul, List.drop_append, List.drop_of_length_le (by omega), List.nil_append, show i * e.sz + e.sz - (e.enc x).length = i * e.sz by omega]
          exact ih.2 i y (by simpa using hy)
    have h5 := key xs hall
    rw [← e.sz_rty] at hlen h5
    exact ⟨hn, hlen, h5.1, h5.2⟩
def vEq : Value → Value → Bool
  | .bool a, .bool b => a == b
  | .int k a, .int k' b => decide (k = k') && decide (a = b)
  | .string a, .string b => a.data.toList == b.data.toList
  | .pointer none, .pointer none => true
  | .slice none 0 0, .slice none 0 0 => true
  | .map none, .map none => true
  | .nilFunc, .nilFunc => true
  | _, _ => false
theorem vEq_ok {a b : Value} (h : vEq a b = true) : a = b := by
  unfold vEq at h
  split at h
  · simp only [beq_iff_eq] at h; rw [h]
  · simp only [Bool.and_eq_true, decide_eq_true_eq] at h; rw [h.1, h.2]
  · rename_i a b
    simp only [beq_iff_eq] at h
    have : a = b := by
      obtain ⟨a⟩ := a; obtain ⟨b⟩ := b
      congr 1
      exact Array.ext' h
    rw [this]
  · rfl
  · rfl
  · rfl
  · rfl
  · cases h
def vsEq : List Value → List Value → Bool
  | [], [] => true
  | a :: x, b :: y => vEq a b && vsEq x y
  | _, _ => false
theorem vsEq_ok : ∀ {a b : List Value}, vsEq a b = true → a = b
  | [], [], _ => rfl
  | a :: x, b :: y, h => by
    simp only [vsEq, Bool.and_eq_true] at h
    rw [vEq_ok h.1, vsEq_ok h.2]
  | [], _ :: _, h => by cases h
  | _ :: _, [], h => by cases h
def encA : AV → Option (List Value)
  | .tt => some [.bool true]
  | .ff => some [.bool false]
  | .un => some []
  | .nil => some [.pointer none]
  | .mnil => some [.map none]
  | .fnil => some [.nilFunc]
  | .snil _ => some [.slice none 0 0]
  | .val t x => bif t.flat && t.wf x then some (t.enc x) else none
  | .agg a => encA a
  | .pr a c => (encA a).bind fun x => (encA c).map fun y => x ++ y
  | _ => none
theorem encA_ok {ν : Nms} {b : Nat} {Z : Nat → Prop} {w : World} : ∀ {a : AV} {cs : List Value}, encA a = some cs → avC ν b Z w a cs
  | .tt, _, h | .ff, _, h | .un, _, h | .nil, _, h | .mnil, _, h | .fnil, _, h | .snil _, _, h => by cases h; exact rfl
  | .val t x, cs, h => by
    unfold encA at h
    obtain ⟨h1, rfl⟩ : (t.flat && t.wf x) = true ∧ t.enc x = cs := by
      cases hc : (t.flat && t.wf x) <;> rw [hc] at h
      · cases h
      · exact ⟨rfl, Option.some.inj h⟩
    simp only [Bool.and_eq_true] at h1
    exact t.enc_rel h1.1 h1.2
  | .agg a, _, h => encA_ok (a := a) h
  | .pr a c, _, h => by
    unfold encA at h
    obtain ⟨x, h1, h2⟩ := bindE h
    simp only [Option.map_eq_some_iff] at h2
    obtain ⟨y, h2, rfl⟩ := h2
    exact ⟨x, y, rfl, encA_ok h1, encA_ok h2⟩
  | .any, _, h | .und, _, h | .tup _, _, h | .ptr _ _, _, h | .pel _ _ _ _ _ _, _, h | .rowp _ _ _ _, _, h | .rop _ _ _ _ _, _, h | .whole _ _, _, h | .win _ _ _ _, _, h | .bwin _ _ _ _ _ _, _, h | .ro _ _ _, _, h | .mpv _, _, h | .clo _ _, _, h => by cases h
def Ty.zero : (t : Ty) → t.den
  | .sint _ => (0 : Int)
  | .u8 => (0 : UInt8) | .u16 => (0 : UInt16) | .u32 => (0 : UInt32) | .u64 => (0 : UInt64)
  | .bool => false
  | .str => []
  | .unit => ()
  | .arr n e => List.replicate n e.zero
  | .pair a b => (a.zero, b.zero)
  | .rcd t => t.zero
  | .list _ => []
mutual
def zeroA (P : Program) : Nat → TypeId → Option AV
  | 0, _ => none
  | d + 1, t => match P.underlying t with
    | some .bool => some .ff
    | some (.pointer _) => some .nil
    | some (.map _ _) => some .mnil
    | some (.func _ _ _) => some .fnil
    | some (.slice e) => some (.snil (tyOf P d e))
    | some (.array n e) => match tyOf P d e with
      | some te => bif te.flat then some (.val (.arr n te) (Ty.arr n te).zero) else (zeroA P d e).map fun z => .agg (Nat.rec .un (fun _ r => .pr z r) n)
      | none => (zeroA P d e).map fun z => .agg (Nat.rec .un (fun _ r => .pr z r) n)
    | some (.struct fs) => (zerosA P d fs.toList).map .agg
    | _ => (tyOf P (d + 1) t).map fun te => .val te te.zero
def zerosA (P : Program) : Nat → List Field → Option AV
  | 0, _ => none
  | _ + 1, [] => some .un
  | d + 1, f :: fs => (zeroA P d f.type).bind fun a => (zerosA P d fs).map fun b => .pr a b
end
def zeroOf (P : Program) (t : TypeId) : Option (AV × Value) := match (P.info? t).bind (·.zero), zeroA P deep t with
  | some z, some a => match encA a with
    | some cs => bif vsEq z.cells.toList cs then some (a, z) else none
    | none => none
  | _, _ => none
theorem zeroOf_ok {P : Program} {t : TypeId} {a : AV} {z : Value} (h : zeroOf P t = some (a, z)) : ZeroIs P t z ∧ ∀ {ν : Nms} {b : Nat} {Z : Nat → Prop} {w : World}, avC ν b Z w a z.cells.toList := by
  unfold zeroOf at h
  split at h
  · rename_i z' a' h1 h2
    split at h
    · rename_i cs h3
      cases h4 : vsEq z'.cells.toList cs <;> rw [h4] at h
      · cases h
      · cases h
        exact ⟨.of h1, by rw [vsEq_ok h4]; exact encA_ok h3⟩
    · cases h
  · cases h
def AV.okC : AV → Bool
  | .any | .und | .tup _ => false
  | _ => true
theorem AV.okC_ok {a : AV} (h : a.okC = true) : (∀ x, a = .tup x → False) ∧ a ≠ .any ∧ a ≠ .und := by
  refine ⟨?_, ?_, ?_⟩
  · rintro x rfl; cases h
  · rintro rfl; cases h
  · rintro rfl; cases h
def putParts (pl : List (Nat × Nat)) (r : Operand → AV) : AV → List (Nat × Operand) → Option AV
  | a, [] => some a
  | a, (i, x) :: l => match pl[i]? with
    | some (off, s) => bif (r x).okC && Nat.beq (r x).csz s then (putOff (r x) a off).bind fun a' => putParts pl r a' l else none
    | none => none
def putElems (e : Ty) (r : Operand → AV) : List e.den → List (Nat × Operand) → Option (List e.den)
  | xs, [] => some xs
  | xs, (i, x) :: l => bif Nat.blt i xs.length && (r x).okC then (implode e (r x)).bind fun y => putElems e r (xs.set i y) l else none
def placesOf (P : Program) (fs : List Field) : Option (List (Nat × Nat)) := match fs with
  | [] => some []
  | f :: l => ((P.info? f.type).map (·.size)).bind fun s => (placesOf P l).map fun r => (f.offset, s) :: r
theorem placesOf_ok {P : Program} : ∀ {fs : List Field} {pl : List (Nat × Nat)}, placesOf P fs = some pl → fs.map (fun f => (P.info? f.type).map fun i => (f.offset, i.size)) = pl.map some
  | [], _, h => by cases h; rfl
  | f :: l, pl, h => by
    unfold placesOf at h
    obtain ⟨s, h1, h2⟩ := bindE h
    simp only [Option.map_eq_some_iff] at h1 h2
    obtain ⟨i, h1, rfl⟩ := h1
    obtain ⟨r, h2, rfl⟩ := h2
    simp only [List.map_cons, h1, Option.map_some, placesOf_ok h2]
def buildT (P : Program) (T : TypeId) (r : Operand → AV) (parts : List (Nat × Operand)) : Tree AV := match P.underlying T, zeroOf P T with
  | some (.struct fs), some (a, .agg _) => match placesOf P fs.toList with
    | some pl => match putParts pl r a parts with | some (.agg a') => .ret (.agg a') | _ => .fail
    | none => .fail
  | some (.array n et), some (.val (.arr n' e) xs, .agg _) => bif Nat.beq n n' && (match (P.info? et).map (·.size) with | some s => Nat.beq s e.sz | none => false) then (match putElems e r xs parts with | some ys => .ret (.val (.arr n' e) ys) | none => .fail) else .fail
  | _, _ => .fail
def intT (P : Program) (S T : TypeId) (x : AV) : Tree AV := match P.underlying S, P.underlying T with
  | some _, some (.int k) => match toKind k x with | some a => .ret a | none => .fail
  | some .string, some .string => match x with | .val .str s => .ret (.val .str s) | _ => .fail
  | _, _ => .fail
def indexT (P : Program) (T : TypeId) (x i : AV) : Tree AV := match x, i.int? with
  | .val .str s, some (_, n) => bif isStrT P T then .get (getI s n) fun y => .ret (.val .u8 y) else .fail
  | _, _ => .fail
section
variable {P : Program} {ty T U S : TypeId} {f : Fr} {w : World} {ν : Nms} {b : Nat} {Z : Nat → Prop} {x y : Operand} {p q : AV} {c : Bool} {r : Operand → AV}
theorem slotR.cells {a : AV} {v : Value} (h : slotR ν b Z w a v) (ha : ∀ x, a = .tup x → False) (h1 : a ≠ .any) (h2 : a ≠ .und) : avC ν b Z w a v.cells.toList := by
  unfold slotR at h
  split at h
  · exact absurd rfl h1
  · exact absurd rfl h2
  · exact (ha _ rfl).elim
  · exact avV.cells h
theorem ones_splice {cs ys : List Value} {o : Nat} (h : ones cs = true) (hy : ones ys = true) : ones (splice cs o ys) = true := by
  simp only [ones, List.all_eq_true] at h hy ⊢
  intro x hx
  simp only [splice, List.mem_append] at hx
  rcases hx with (hx | hx) | hx
  · exact h x (List.mem_of_mem_take hx)
  · exact hy x hx
  · exact h x (List.mem_of_mem_drop hx)
theorem RV_set {α : Type} {A : RTy α} {S : Nat → Prop} {xs : List α} {cs ys : List Value} {n i : Nat} {d : α} (h : (RV n A).rel S w xs cs) (hi : i < n) (hy : A.rel S w d ys) : (RV n A).rel S w (xs.set i d) (splice cs (i * A.sz) ys) := by
  obtain ⟨h1, h2, h3, h4⟩ := h
  have hl := A.len hy
  have hle : i * A.sz + ys.length ≤ cs.length := by
    have : (i + 1) * A.sz ≤ n * A.sz := Nat.mul_le_mul_right _ hi
    rw [Nat.succ_mul] at this
    omega
  refine ⟨by simp [h1], by rw [splice_length _ _ _ hle, h2], ones_splice h3 (A.one hy), ?_⟩
  intro j x hx
  have hj : j < n := by have := (List.getElem?_eq_some_iff.1 hx).1; simpa [h1] using this
  have ext : ∀ (k : Nat), (((splice cs (i * A.sz) ys).drop (j * A.sz)).take A.sz)[k]? = if i = j then ys[k]? else ((cs.drop (j * A.sz)).take A.sz)[k]? := by
    intro k
    rw [List.getElem?_take, List.getElem?_drop, splice_get _ _ _ hle]
    by_cases hk : k < A.sz
    · rw [if_pos hk]
      by_cases hij : i = j
      · subst hij
        rw [if_pos (by omega), if_pos rfl]
        congr 1
        omega
      · rw [if_neg hij, List.getElem?_take, if_pos hk, List.getElem?_drop, if_neg]
        intro hc
        rcases Nat.lt_or_gt_of_ne hij with h5 | h5
        · have : (i + 1) * A.sz ≤ j * A.sz := Nat.mul_le_mul_right _ h5
          rw [Nat.succ_mul] at this
          omega
        · have : (j + 1) * A.sz ≤ i * A.sz := Nat.mul_le_mul_right _ h5
          rw [Nat.succ_mul] at this
          omega
    · rw [if_neg hk]
      split
      · rw [List.getElem?_eq_none (by omega)]
      · rw [List.getElem?_take, if_neg hk]
  by_cases hij : i = j
  · subst hij
    have e : ((splice cs (i * A.sz) ys).drop (i * A.sz)).take A.sz = ys := List.ext_getElem? fun k => by rw [ext k, if_pos rfl]
    rw [e]
    have : x = d := by
      rw [List.getElem?_set_self (by omega)] at hx
      exact (Option.some.inj hx).symm
    rw [this]
    exact hy
  · have e : ((splice cs (i * A.sz) ys).drop (j * A.sz)).take A.sz = (cs.drop (j * A.sz)).take A.sz := List.ext_getElem? fun k => by rw [ext k, if_neg hij]
    rw [e]
    rw [List.getElem?_set_ne hij] at hx
    exact h4 j x hx
theorem putParts_ok {pl : List (Nat × Nat)} (hr : ∀ x, slotR ν b Z w (r x) (ev f x)) : ∀ {l : List (Nat × Operand)} {a a' : AV} {cs : List Value}, avC ν b Z w a cs → putParts pl r a l = some a' →
    ∃ vs cs', partsAre f l vs ∧ fillL pl cs vs = some cs' ∧ avC ν b Z w a' cs'
  | [], a, a', cs, H, h => by cases h; exact ⟨[], cs, trivial, rfl, H⟩
  | (i, x) :: l, a, a', cs, H, h => by
    unfold putParts at h
    split at h
    · rename_i off s hpl
      cases hc : ((r x).okC && Nat.beq (r x).csz s) <;> rw [hc] at h
      · cases h
      · simp only [Bool.and_eq_true] at hc
        obtain ⟨a2, h1, h2⟩ := bindE h
        obtain ⟨k1, k2, k3⟩ := AV.okC_ok hc.1
        have hcx := (hr x).cells k1 k2 k3
        obtain ⟨g1, g2⟩ := putOff_ok hcx H h1
        obtain ⟨vs, cs', q1, q2, q3⟩ := putParts_ok hr g1 h2
        have hlen : (ev f x).cells.toList.length = s := by rw [hcx.len]; exact Nat.eq_of_beq_eq_true hc.2
        refine ⟨(i, (ev f x).cells.toList) :: vs, cs', ⟨rfl, rfl, q1⟩, ?_, q3⟩
        simp only [fillL, hpl]
        rw [if_pos (by simp only [Bool.and_eq_true]; exact ⟨by rw [hlen]; exact Nat.beq_refl s, Nat.ble_eq_true_of_le (by omega)⟩)]
        exact q2
    · cases h
theorem putElems_ok {e : Ty} {n : Nat} (hr : ∀ x, slotR ν b Z w (r x) (ev f x)) : ∀ {l : List (Nat × Operand)} {xs ys : List e.den} {cs : List Value}, (RV n e.rty).rel Z w xs cs → putElems e r xs l = some ys →
    ∃ vs cs', partsAre f l vs ∧ fillL ((List.range n).map fun i => (i * e.sz, e.sz)) cs vs = some cs' ∧ (RV n e.rty).rel Z w ys cs'
  | [], xs, ys, cs, H, h => by cases h; exact ⟨[], cs, trivial, rfl, H⟩
  | (i, x) :: l, xs, ys, cs, H, h => by
    unfold putElems at h
    cases hc : (Nat.blt i xs.length && (r x).okC) <;> rw [hc] at h
    · cases h
    · simp only [Bool.and_eq_true] at hc
      obtain ⟨d, h1, h2⟩ := bindE h
      have hi : i < n := by have h5 : i < xs.length := Nat.le_of_ble_eq_true hc.1; rw [H.1] at h5; exact h5
      have hne := AV.okC_ok hc.2
      have hd := implode_ok e ((hr x).cells hne.1 hne.2.1 hne.2.2) h1
      have hl := e.rty.len hd
      rw [e.sz_rty] at hl
      have g := RV_set H hi hd
      rw [e.sz_rty] at g
      obtain ⟨vs, cs', q1, q2, q3⟩ := putElems_ok hr g h2
      refine ⟨(i, (ev f x).cells.toList) :: vs, cs', ⟨rfl, rfl, q1⟩, ?_, q3⟩
      have hpl : ((List.range n).map fun i => (i * e.sz, e.sz))[i]? = some (i * e.sz, e.sz) := by simp [hi]
      have hle : i * e.sz + e.sz ≤ cs.length := by
        have : (i + 1) * e.sz ≤ n * e.sz := Nat.mul_le_mul_right _ hi
        rw [Nat.succ_mul] at this
        have h6 : cs.length = n * e.rty.sz := H.2.1
        rw [e.sz_rty] at h6
        omega
      simp only [fillL, hpl]
      rw [if_pos (by simp only [Bool.and_eq_true]; exact ⟨by rw [hl]; exact Nat.beq_refl _, Nat.ble_eq_true_of_le hle⟩)]
      exact q2
theorem fill_wide {n sz : Nat} : ∀ (vs : List (Nat × Value)) (cs : Array Value) (r : Array Value), Instr.fill (fun i => ((List.range n).map fun i => (i * sz, sz))[i]?) cs vs = some r → Instr.fill (fun i => some (i * sz, sz)) cs vs = some r := by
  intro vs
  induction vs with
  | nil => intro cs r h; exact h
  | cons p vs ih =>
    intro cs r h
    obtain ⟨i, v⟩ := p
    simp only [Instr.fill] at h ⊢
    by_cases hi : i < n
    · have : ((List.range n).map fun i => (i * sz, sz))[i]? = some (i * sz, sz) := by simp [hi]
      simp only [this] at h
      split at h
      · cases h
      · rename_i hcond
        rw [if_neg hcond]
        exact ih _ _ h
    · have : ((List.range n).map fun i => (i * sz, sz))[i]? = none := by simp; omega
      simp only [this] at h
      cases h
theorem o_buildArr {K : Value → World → Prop} {n et sz : Nat} {parts : Array (Nat × Operand)} {zs cs : List Value} {vs : List (Nat × List Value)} (hu : P.underlying T = some (.array n et)) (hs : SizeIs P et sz) (hz : ZeroIs P T (.agg zs.toArray)) (hp : partsAre f parts.toList vs)
    (hf : fillL ((List.range n).map fun i => (i * sz, sz)) zs vs = some cs) (h : K (.agg cs.toArray) w) : OpW P (.build T parts) ty f w K := by
  refine .of_run ?_ h
  have h2 := fill_wide _ _ _ (fill_of hp hf)
  have h4 : (parts.map fun (i, x) => (i, ev f x)).toList = parts.toList.map fun p => (p.1, ev f p.2) := by simp
  simp only [execOp, bare, Instr.build, Sem.run_bind, hz.run, Result.andThen_ok, run_und hu, hs.run, Value.cells, h4, h2, Sem.run_pure]
theorem buildT_ok {parts : Array (Nat × Operand)} (hr : ∀ x, slotR ν b Z w (r x) (ev f x)) : Q P (.build T parts) ty f w ν b Z (buildT P T r parts.toList) := by
  intro a ha
  unfold buildT at ha
  split at ha
  · rename_i fs a0 zc hu hz
    obtain ⟨h1, h2⟩ := zeroOf_ok hz
    split at ha
    · rename_i pl hpl
      split at ha
      · rename_i a' hp
        cases ha
        have H := h2 (ν := ν) (b := b) (Z := Z) (w := w)
        obtain ⟨vs, cs', q1, q2, q3⟩ := putParts_ok hr H hp
        have hb : BuildIs P T pl (Value.agg zc).cells.toList := by
          obtain ⟨i, hi, hzi⟩ := h1
          exact .of hu (placesOf_ok hpl) (by rw [hi]; simp [hzi, Value.cells])
        exact o_buildL hb q1 q2 ⟨rfl, cs', rfl, q3⟩
      · cases ha
    · cases ha
  · rename_i n et n' e xs zc hu hz
    obtain ⟨h1, h2⟩ := zeroOf_ok hz
    cases hc : (Nat.beq n n' && (match (P.info? et).map (·.size) with | some s => Nat.beq s e.sz | none => false)) <;> rw [hc] at ha
    · cases ha
    · simp only [Bool.and_eq_true] at hc
      have hn := Nat.eq_of_beq_eq_true hc.1
      subst hn
      have hs : SizeIs P et e.sz := by
        have h5 := hc.2
        split at h5
        · rename_i s hs
          rw [← Nat.eq_of_beq_eq_true h5]
          exact .of hs
        · cases h5
      simp only [cond_true] at ha
      split at ha
      · rename_i ys hp
        cases ha
        have H := h2 (ν := ν) (b := b) (Z := Z) (w := w)
        obtain ⟨vs, cs', q1, q2, q3⟩ := putElems_ok (n := n) hr (cs := (Value.agg zc).cells.toList) H hp
        refine o_buildArr hu hs (zs := (Value.agg zc).cells.toList) ?_ q1 q2 ⟨rfl, cs', rfl, q3⟩
        simpa [Value.cells] using h1
      · cases ha
  · cases ha
theorem intT_ok (hx : slotR ν b Z w p (ev f x)) : Q P (.convert S T x) ty f w ν b Z (intT P S T p) := by
  refine Q.of fun a ha => ?_
  unfold intT at ha
  split at ha
  · rename_i d k hs ht
    split at ha
    · rename_i a' hk
      cases ha
      obtain ⟨k', n, hv, hr⟩ := toKind_ok hx hk
      refine ⟨_, ?_, hr⟩
      have hc : (convert S T (.int k' n)).run P w = .ok (.int k (k.wrap n)) w := by
        unfold convert
        simp only [Sem.run_bind, run_und hs, run_und ht, Result.andThen_ok]
        cases d <;> rfl
      simp only [execOp, bare, hv, Sem.run_bind, hc, Result.andThen_ok, Sem.run_pure]
    · cases ha
  · rename_i hs ht
    split at ha
    · cases ha
      rename_i s
      refine ⟨_, ?_, sl_mk rfl rfl⟩
      have hv := sl_str hx
      have hc : (convert S T (str s)).run P w = .ok (str s) w := by
        unfold convert
        simp only [Sem.run_bind, run_und hs, run_und ht, Result.andThen_ok, str]
        rfl
      simp only [execOp, bare, hv, Sem.run_bind, hc, Result.andThen_ok, Sem.run_pure]
    · cases ha
  · cases ha
theorem indexT_ok (hx : slotR ν b Z w p (ev f x)) (hy : slotR ν b Z w q (ev f y)) : Q P (.index T x y) ty f w ν b Z (indexT P T p q) := by
  refine Q.of fun a ha => ?_
  unfold indexT at ha
  split at ha
  · rename_i s k n hi
    cases h : isStrT P T <;> rw [h] at ha
    · cases ha
    · obtain ⟨d, hd, h2⟩ := bindE ha
      cases h2
      obtain ⟨h3, h4, h5⟩ := getI_at hd
      refine ⟨u8 d, ?_, sl_mk rfl rfl⟩
      have hn : 0 ≤ n := by omega
      have hget : (ByteArray.mk s.toArray)[n.toNat]? = some d := by
        show (if h : _ then _ else _) = _
        rw [dif_pos (by show n.toNat < s.toArray.size; simpa using h4)]
        have : (ByteArray.mk s.toArray)[n.toNat]'(by show n.toNat < s.toArray.size; simpa using h4) = s[n.toNat] := rfl
        rw [this, ← h5, List.getElem?_eq_getElem h4]
      simp only [execOp, bare, sl_str hx, int_ok hy hi, Instr.index, asIntOf, str, Sem.run_bind, Sem.run_pure, Result.andThen_ok, run_und (isStr_ok h), hn, if_true, hget]
  · cases ha
end
end Hyp
set_option linter.unusedVariables false
set_option linter.unusedSimpArgs false
namespace Hyp
open Go
abbrev MR := AV × List En × Nat
def findE : List En → Nat → Option En
  | [], _ => none
  | e :: l, k => bif Nat.beq e.key k then some e else findE l k
def setE : List En → Nat → En → List En
  | [], _, _ => []
  | e :: l, k, x => bif Nat.beq e.key k then x :: l else e :: setE l k x
theorem findE_ok : ∀ {L : List En} {k : Nat} {e : En}, findE L k = some e → ∃ i, L[i]? = some e ∧ e.key = k ∧ ∀ x, setE L k x = L.set i x
  | [], _, _, h => by cases h
  | e :: l, k, e', h => by
    unfold findE at h
    cases hc : Nat.beq e.key k <;> rw [hc] at h
    · obtain ⟨i, h1, h2, h3⟩ := findE_ok h
      refine ⟨i + 1, by simpa using h1, h2, fun x => ?_⟩
      simp only [setE, hc, cond_false, h3 x, List.set_cons_succ]
    · cases h
      exact ⟨0, rfl, Nat.eq_of_beq_eq_true hc, fun x => by simp only [setE, hc, cond_true, List.set_cons_zero]⟩
def updN (ν : Nms) (b : Nat) (m : Nm) : Nms := fun k => if k = b then m else ν k
theorem updN_same (ν : Nms) (b : Nat) (m : Nm) : updN ν b m b = m := if_pos rfl
theorem updN_lt (ν : Nms) (b : Nat) (m : Nm) : ∀ k, k < b → updN ν b m k = ν k := fun k hk => if_neg (Nat.ne_of_lt hk)
def M (P : Program) (op : Op) (ty : TypeId) (f : Fr) (B : Base) (ν : Nms) (b : Nat) (w : World) (L : List En) (F : List Ent) (t : Tree MR) : Prop :=
  ∀ a L' b', t.run = some (a, L', b') → OpW P op ty f w (Gives B ν b w L F b' L' a)
section
variable {P : Program} {ty T U : TypeId} {f : Fr} {w w' : World} {B : Base} {ν ν' : Nms} {b b' : Nat} {L L' : List En} {F : List Ent} {x y : Operand} {p q : AV} {r : Operand → AV}
theorem Here.z (H : Here B ν b w L F) (h : Left B ν b w L F ν' b' w' L') {a : AV} {v : Value} (hs : slotR ν b (B.Z (ents ν L ++ F)) w a v) : slotR ν' b' (B.Z (ents ν' L' ++ F)) w' a v := hs.later h.later
theorem Q.m {op : Op} {t : Tree AV} (H : Here B ν b w L F) (h : Q P op ty f w ν b (B.Z (ents ν L ++ F)) t) : M P op ty f B ν b w L F (t.bind fun a => .ret (a, L, b)) := by
  intro a L' b' ha
  obtain ⟨a', h1, h2⟩ := Tree.bind_some ha
  cases h2
  refine (h a h1).mono ?_
  rintro v w' ⟨rfl, hs⟩
  exact ⟨ν, H.stay, hs⟩
theorem ents_new (H : Here B ν b w L F) (hn : ∀ k, k < b → ν' k = ν k) : ents ν' L = ents ν L := List.map_congr_left fun e he => entOf_congr hn (H.fact e he).1 (H.fact e he).2.1
theorem Here.cons (H : Here B ν b w L F) {m : Nm} {c : Cont} (ho : Own w (footU (ents ν L ++ F)) w' (entOf (updN ν b m) ⟨b, b, c⟩ :: (ents ν L ++ F)))
    (hf : ∀ Z', Later ν (updN ν b m) b (b + 1) (B.Z (ents ν L ++ F)) Z' w w' → contF (updN ν b m) (b + 1) Z' w' c m.cs) : Left B ν b w L F (updN ν b m) (b + 1) w' (⟨b, b, c⟩ :: L) := by
  have he := ents_new (F := F) H (updN_lt ν b m)
  have hown : Own w (footU (ents ν L ++ F)) w' (ents (updN ν b m) (⟨b, b, c⟩ :: L) ++ F) := by
    show Own w _ w' (entOf (updN ν b m) ⟨b, b, c⟩ :: (ents (updN ν b m) L ++ F))
    rw [he]; exact ho
  have hl : Later ν (updN ν b m) b (b + 1) (B.Z (ents ν L ++ F)) (B.Z (ents (updN ν b m) (⟨b, b, c⟩ :: L) ++ F)) w w' := ⟨updN_lt ν b m, Nat.le_succ b, fun x hx hz => TT.now hown hx hz⟩
  refine ⟨updN_lt ν b m, Nat.le_succ b, hown, fun e he' => ?_, gnow hown H.glb⟩
  rcases List.mem_cons.1 he' with rfl | he'
  · exact ⟨Nat.lt_succ_self b, Nat.lt_succ_self b, by rw [updN_same]; exact hf _ hl⟩
  · exact (H.fact e he').later hl
theorem Here.set (H : Here B ν b w L F) {i : Nat} {e : En} {m : Nm} {e' : En} (hi : L[i]? = some e) (hk : e'.key < b + 1) (hv : e'.vid = b) (ho : Own w (footU (ents ν L ++ F)) w' ((ents ν L ++ F).set i (entOf (updN ν b m) e')))
    (hf : ∀ Z', Later ν (updN ν b m) b (b + 1) (B.Z (ents ν L ++ F)) Z' w w' → contF (updN ν b m) (b + 1) Z' w' e'.c m.cs) : Left B ν b w L F (updN ν b m) (b + 1) w' (L.set i e') := by
  have he := ents_new (F := F) H (updN_lt ν b m)
  have hil : i < L.length := (List.getElem?_eq_some_iff.1 hi).1
  have e1 : (ents ν L ++ F).set i (entOf (updN ν b m) e') = ents (updN ν b m) (L.set i e') ++ F := by
    rw [List.set_append_left _ _ (by simpa using hil)]
    show _ = (L.set i e').map _ ++ F
    rw [List.map_set]
    show (ents ν L).set i _ ++ F = (ents (updN ν b m) L).set i _ ++ F
    rw [he]
  rw [e1] at ho
  have hl : Later ν (updN ν b m) b (b + 1) (B.Z (ents ν L ++ F)) (B.Z (ents (updN ν b m) (L.set i e') ++ F)) w w' := ⟨updN_lt ν b m, Nat.le_succ b, fun x hx hz => TT.now ho hx hz⟩
  refine ⟨updN_lt ν b m, Nat.le_succ b, ho, fun x hx => ?_, gnow ho H.glb⟩
  rcases List.mem_or_eq_of_mem_set hx with hx | rfl
  · exact (H.fact x hx).later hl
  · exact ⟨hk, by omega, by rw [hv, updN_same]; exact hf _ hl⟩
theorem ents_at {i : Nat} {e : En} (hi : L[i]? = some e) : (ents ν L ++ F)[i]? = some (entOf ν e) := by
  have hil : i < L.length := (List.getElem?_eq_some_iff.1 hi).1
  rw [List.getElem?_append_left (by simpa using hil), List.getElem?_map, hi]
  rfl
end
def allocT (P : Program) (T : TypeId) (L : List En) (b : Nat) : Tree MR := match zeroOf P T with
  | some (a, _) => .ret (.ptr b 0, ⟨b, b, .box a⟩ :: L, b + 1)
  | none => .fail
def boxT (x : AV) (L : List En) (b : Nat) : Tree MR := bif x.okC then .ret (.ptr b 0, ⟨b, b, .box x⟩ :: L, b + 1) else .fail
def aggT (P : Program) (T : TypeId) : Option Bool := (P.underlying T).map fun d => !scal d
def partT (P : Program) (T : TypeId) (a : AV) (o : Nat) : Tree AV := match aggT P T, (P.info? T).map (·.size) with
  | some wa, some s => match atOff wa a o s with
    | some y => bif wa == y.isAgg && (wa || Nat.beq s 1) then .ret y else .fail
    | none => .fail
  | _, _ => .fail
def rowOf (L : List En) (k : Nat) (e : Ty) : Option (List e.den) := match findE L k with
  | some ⟨_, _, .row e' xs⟩ => castL e e' xs
  | _ => none
def boxOf (L : List En) (k : Nat) : Option AV := match findE L k with
  | some ⟨_, _, .box a⟩ => some a
  | _ => none
def arrIn (a : AV) (off : Nat) (e : Ty) (N : Nat) : Option (List e.den) := match atOff false a off (N * e.sz) with
  | some (.val t xs) => castTy (.arr N e) t xs
  | _ => none
def loadT (P : Program) (T : TypeId) (x : AV) (L : List En) : Tree AV := match x with
  | .ptr k o => match boxOf L k with
    | some a => partT P T a o
    | none => .fail
  | .rop e xs i y eo => bif Nat.blt 0 e.sz then partT P T (explode e y) eo else .fail
  | .rowp k e i eo => match rowOf L k e with
    | some xs => bif Nat.blt 0 e.sz then .get xs[i]? fun y => partT P T (explode e y) eo else .fail
    | none => .fail
  | .pel k off e N i eo => match boxOf L k with
    | some a => match arrIn a off e N with
      | some xs => .get xs[i]? fun y => partT P T (explode e y) eo
      | none => .fail
    | none => .fail
  | _ => .fail
section
variable {P : Program} {ty T U : TypeId} {f : Fr} {w w' : World} {B : Base} {ν ν' : Nms} {b b' : Nat} {L L' : List En} {F : List Ent} {x y : Operand} {p q : AV} {r : Operand → AV}
theorem rowOf_ok {k : Nat} {e : Ty} {xs : List e.den} (H : Here B ν b w L F) (h : rowOf L k e = some xs) : ∃ (i vid : Nat), L[i]? = some (En.mk k vid (.row e xs)) ∧ (ents ν L ++ F)[i]? = some (row e.sz (ν k).v xs.length (ν vid).cs) ∧
    (RV xs.length e.rty).rel (B.Z (ents ν L ++ F)) w xs (ν vid).cs := by
  unfold rowOf at h
  split at h
  · rename_i k' vid e' xs' hf
    obtain ⟨i, h1, h2, _⟩ := findE_ok hf
    obtain ⟨he, hx⟩ := castTy_ok (t := .list _) (t' := .list _) h
    cases he
    cases hx
    simp only at h2
    subst h2
    have := ents_at (ν := ν) (F := F) h1
    have hfact := H.fact _ (List.mem_of_getElem? h1)
    exact ⟨i, vid, h1, this, hfact.2.2⟩
  · cases h
theorem boxOf_ok {k : Nat} {a : AV} (H : Here B ν b w L F) (h : boxOf L k = some a) : ∃ (i vid : Nat), L[i]? = some (En.mk k vid (.box a)) ∧ (ents ν L ++ F)[i]? = some (bx (ν k).g (ν vid).cs) ∧ avC ν b (B.Z (ents ν L ++ F)) w a (ν vid).cs := by
  unfold boxOf at h
  split at h
  · rename_i k' vid a' hf
    obtain ⟨i, h1, h2, _⟩ := findE_ok hf
    cases h
    simp only at h2
    subst h2
    exact ⟨i, vid, h1, ents_at (ν := ν) (F := F) h1, (H.fact _ (List.mem_of_getElem? h1)).2.2⟩
  · cases h
theorem partT_ok {a : AV} {o : Nat} {Z : Nat → Prop} {ad : Addr} {cs : List Value} (hx : ev f x = .pointer (some (ad.add o))) (hs : ad.spot = none) (hat : At w ad cs) (hc : avC ν b Z w a cs) : Q P (.load T x) ty f w ν b Z (partT P T a o) := by
  intro a' ha
  unfold partT at ha
  split at ha
  · rename_i wa s hw hsz
    split at ha
    · rename_i y hy
      cases hwy : (wa == y.isAgg && (wa || Nat.beq s 1)) <;> rw [hwy] at ha
      · cases ha
      · simp only [Bool.and_eq_true, beq_iff_eq, Bool.or_eq_true] at hwy
        obtain ⟨h1, h2, h3⟩ := atOff_ok hc hy
        unfold aggT at hw
        simp only [Option.map_eq_some_iff] at hw
        obtain ⟨d, hu, hd⟩ := hw
        have hat2 := (hat.drop o).take s
        have hl : ((cs.drop o).take s).length = s := by rw [List.length_take, List.length_drop]; omega
        cases hag : y.isAgg
        · have hwa : wa = false := hwy.1.trans hag
          subst hwa
          have hsc : scal d = true := by cases h : scal d <;> simp [h] at hd ⊢
          have hs1 : s = 1 := by
            rcases hwy.2 with h | h
            · cases h
            · exact Nat.eq_of_beq_eq_true h
          subst hs1
          obtain ⟨v, hv⟩ := List.length_eq_one_iff.1 hl
          rw [hv] at h1 hat2
          have hcell := hat2.cell (j := 0) rfl
          have h0 : (ad.add o).add 0 = ad.add o := rfl
          rw [h0] at hcell
          cases ha
          refine o_load hu hsc hx hcell ⟨rfl, .of ?_⟩
          unfold avV
          rw [if_neg (by simp [hag])]
          exact h1
        · have hwa : wa = true := hwy.1.trans hag
          subst hwa
          have hsc : scal d = false := by cases h : scal d <;> simp [h] at hd ⊢
          cases ha
          refine o_loadA hu hsc (.of hsz) hx hat2 hl ⟨rfl, .of ?_⟩
          unfold avV
          rw [if_pos hag]
          exact ⟨_, rfl, h1⟩
    · cases ha
  · cases ha
theorem arrIn_ok {off N : Nat} {e : Ty} {xs : List e.den} {Z : Nat → Prop} {a : AV} {cs : List Value} (h3 : avC ν b Z w a cs) (h : arrIn a off e N = some xs) : (RV N e.rty).rel Z w xs ((cs.drop off).take (N * e.sz)) ∧ off + N * e.sz ≤ cs.length := by
  unfold arrIn at h
  split at h
  · rename_i t ys ha
    obtain ⟨g1, g2, g3⟩ := atOff_ok h3 ha
    exact ⟨cast_rel (t := .arr N e) h g1, g2⟩
  · cases h
theorem loadT_ok (H : Here B ν b w L F) (hx : slotR ν b (B.Z (ents ν L ++ F)) w p (ev f x)) : Q P (.load T x) ty f w ν b (B.Z (ents ν L ++ F)) (loadT P T p L) := by
  have add0 : ∀ (g o : Nat), (⟨g, o, none⟩ : Addr) = (⟨g, 0, none⟩ : Addr).add o := fun g o => by
    unfold Addr.add
    split
    · rename_i h0; rw [h0]
    · simp
  unfold loadT
  split
  · rename_i k o
    split
    · rename_i a hb
      obtain ⟨i, vid, h1, h2, h3⟩ := boxOf_ok H hb
      exact partT_ok (ad := ⟨(ν k).g, 0, none⟩) (by rw [(sl_ptr hx).2, ← add0]) rfl (H.own.bxAt h2) h3
    · intro a ha; cases ha
  · rename_i e xs i y eo
    obtain ⟨hy, ad, m, c, h1, h2⟩ := hx
    have h3 := List.head_eq_of_cons_eq (show [ev f x] = [_] from h1)
    cases h0 : Nat.blt 0 e.sz
    · intro a ha; cases ha
    · have h0 : 0 < e.sz := Nat.le_of_ble_eq_true h0
      obtain ⟨cs, g1, g2⟩ := h2.at hy (by rw [e.sz_rty]; exact h0)
      rw [e.sz_rty] at g1
      exact partT_ok (ad := ad.add (i * e.sz)) (by rw [h3, addAdd]) (g1.1) g1 (explode_ok e g2)
  · rename_i k e i eo
    split
    · rename_i xs hr
      cases h0 : Nat.blt 0 e.sz
      · intro a ha; cases ha
      · have h0 : 0 < e.sz := Nat.le_of_ble_eq_true h0
        obtain ⟨i', vid, h1, h2, h3⟩ := rowOf_ok H hr
        intro a ha
        obtain ⟨y, hy, ha⟩ := bindE ha
        obtain ⟨hk, ad, m, c, g1, g2⟩ := hx
        have g3 := List.head_eq_of_cons_eq (show [ev f x] = [_] from g2)
        have hsl := H.own.rowSl h2 (S := fun _ => True) (fun _ _ => trivial)
        have hl : (ν vid).cs.length = xs.length * e.rty.sz := h3.2.1
        rw [e.sz_rty] at hl
        have hi : i < xs.length := (List.getElem?_eq_some_iff.1 hy).1
        have hne : (ν vid).cs ≠ [] := by
          intro h
          rw [h, List.length_nil] at hl
          have : 0 < xs.length * e.sz := Nat.mul_pos (by omega) h0
          omega
        have hat := (hsl.at hne (i * e.sz)).take e.sz
        rw [g1] at hat
        have h6 := h3.2.2.2 i y hy
        rw [e.sz_rty] at h6
        exact partT_ok (ad := ad.add (i * e.sz)) (by rw [g3, addAdd]) hat.1 hat (explode_ok e h6) a ha
    · intro a ha; cases ha
  · rename_i k off e N i eo
    split
    · rename_i a0 hb
      split
      · rename_i xs hr
        obtain ⟨i', vid, h1, h2, h3⟩ := boxOf_ok H hb
        obtain ⟨h4, h5⟩ := arrIn_ok h3 hr
        intro a ha
        obtain ⟨y, hy, ha⟩ := bindE ha
        have hi : i < N := by have := (List.getElem?_eq_some_iff.1 hy).1; rw [h4.1] at this; exact this
        have hle : (i + 1) * e.sz ≤ N * e.sz := Nat.mul_le_mul_right _ hi
        rw [Nat.succ_mul] at hle
        have h6 := h4.2.2.2 i y hy
        rw [e.sz_rty, List.drop_take, List.take_take, List.drop_drop, Nat.min_eq_left (by omega)] at h6
        have hat := ((H.own.bxAt h2).drop (off + i * e.sz)).take e.sz
        exact partT_ok (ad := (⟨(ν k).g, 0, none⟩ : Addr).add (off + i * e.sz)) (by rw [(sl_pel hx).2, addAdd, ← add0]) hat.1 hat (explode_ok e h6) a ha
      · intro a ha; cases ha
    · intro a ha; cases ha
  · intro a ha; cases ha
theorem allocT_ok (H : Here B ν b w L F) : M P (.alloc T) ty f B ν b w L F (allocT P T L b) := by
  intro a L' b' ha
  unfold allocT at ha
  split at ha
  · rename_i a0 z hz
    cases ha
    obtain ⟨h1, h2⟩ := zeroOf_ok hz
    refine o_alloc h1 rfl H.own fun g w' hw => ?_
    have hl := H.cons (m := ⟨g, undef, z.cells.toList⟩) (c := .box a0) (w' := w') (by
      show Own _ _ _ (bx (updN ν b _ b).g (updN ν b _ b).cs :: _)
      rw [updN_same]; exact hw) (fun Z' _ => h2)
    exact ⟨_, hl, .of ⟨Nat.lt_succ_self b, by rw [updN_same]⟩⟩
  · cases ha
theorem boxT_ok (H : Here B ν b w L F) (hx : slotR ν b (B.Z (ents ν L ++ F)) w p (ev f x)) : M P (.box T x) ty f B ν b w L F (boxT p L b) := by
  intro a L' b' ha
  unfold boxT at ha
  cases hc : p.okC <;> rw [hc] at ha
  · cases ha
  · cases ha
    obtain ⟨k1, k2, k3⟩ := AV.okC_ok hc
    have hcx := hx.cells k1 k2 k3
    refine o_box rfl rfl H.own fun g w' hw => ?_
    have hl := H.cons (m := ⟨g, undef, (ev f x).cells.toList⟩) (c := .box p) (w' := w') (by
      show Own _ _ _ (bx (updN ν b _ b).g (updN ν b _ b).cs :: _)
      rw [updN_same]; exact hw) (fun Z' h => hcx.later h)
    exact ⟨_, hl, .of ⟨Nat.lt_succ_self b, by rw [updN_same]⟩⟩
end
end Hyp
set_option linter.unusedVariables false
set_option linter.unusedSimpArgs false
namespace Hyp
open Go
def wrE (L : List En) (k b : Nat) (c : Cont) : List En := setE L k ⟨k, b, c⟩
def partPut (e : Ty) (y : e.den) (p : AV) (eo : Nat) : Option e.den := (putOff p (explode e y) eo).bind fun a => implode e a
def szIs (P : Program) (T : TypeId) (s : Nat) : Bool := match (P.info? T).map (·.size) with | some s' => Nat.beq s' s | none => false
theorem szIs_ok {P : Program} {T : TypeId} {s : Nat} (h : szIs P T s = true) : SizeIs P T s := by
  unfold szIs at h
  split at h
  · rename_i s' hs; rw [← Nat.eq_of_beq_eq_true h]; exact .of hs
  · cases h
def storeT (P : Program) (T : TypeId) (x p : AV) (L : List En) (b : Nat) : Tree MR := bif p.okC && szIs P T p.csz then (match x with
  | .ptr k o => match boxOf L k with
    | some a => match putOff p a o with
      | some a' => .ret (.und, wrE L k b (.box a'), b + 1)
      | none => .fail
    | none => .fail
  | .rowp k e i eo => match rowOf L k e with
    | some xs => bif Nat.blt 0 e.sz then .get xs[i]? fun y => (match partPut e y p eo with
      | some y' => .ret (.und, wrE L k b (.row e (xs.set i y')), b + 1)
      | none => .fail) else .fail
    | none => .fail
  | .pel k off e N i eo => match boxOf L k with
    | some a => match arrIn a off e N with
      | some xs => .get xs[i]? fun y => (match partPut e y p eo with
        | some y' => match putOff (.val (.arr N e) (xs.set i y')) a off with
          | some a' => .ret (.und, wrE L k b (.box a'), b + 1)
          | none => .fail
        | none => .fail)
      | none => .fail
    | none => .fail
  | _ => .fail) else .fail
section
variable {P : Program} {ty T U : TypeId} {f : Fr} {w w' : World} {B : Base} {ν ν' : Nms} {b b' : Nat} {L L' : List En} {F : List Ent} {x y : Operand} {p q : AV} {r : Operand → AV}
theorem boxOf_set {k : Nat} {a : AV} (H : Here B ν b w L F) (h : boxOf L k = some a) : ∃ (i vid : Nat), L[i]? = some (En.mk k vid (.box a)) ∧ (ents ν L ++ F)[i]? = some (bx (ν k).g (ν vid).cs) ∧ avC ν b (B.Z (ents ν L ++ F)) w a (ν vid).cs ∧ k < b ∧ ∀ e, setE L k e = L.set i e := by
  unfold boxOf at h
  split at h
  · rename_i k' vid a' hf
    obtain ⟨i, h1, h2, h3⟩ := findE_ok hf
    cases h
    simp only at h2
    subst h2
    have hf := H.fact _ (List.mem_of_getElem? h1)
    exact ⟨i, vid, h1, ents_at (ν := ν) (F := F) h1, hf.2.2, hf.1, h3⟩
  · cases h
theorem rowOf_set {k : Nat} {e : Ty} {xs : List e.den} (H : Here B ν b w L F) (h : rowOf L k e = some xs) : ∃ (i vid : Nat), L[i]? = some (En.mk k vid (.row e xs)) ∧ (ents ν L ++ F)[i]? = some (row e.sz (ν k).v xs.length (ν vid).cs) ∧
    (RV xs.length e.rty).rel (B.Z (ents ν L ++ F)) w xs (ν vid).cs ∧ k < b ∧ ∀ e, setE L k e = L.set i e := by
  unfold rowOf at h
  split at h
  · rename_i k' vid e' xs' hf
    obtain ⟨i, h1, h2, h3⟩ := findE_ok hf
    obtain ⟨he, hx⟩ := castTy_ok (t := .list _) (t' := .list _) h
    cases he
    cases hx
    simp only at h2
    subst h2
    have hfact := H.fact _ (List.mem_of_getElem? h1)
    exact ⟨i, vid, h1, ents_at (ν := ν) (F := F) h1, hfact.2.2, hfact.1, h3⟩
  · cases h
theorem o_storeBox {ys : List Value} {a' : AV} {i k vid off : Nat} {a : AV} (H : Here B ν b w L F) (h1 : L[i]? = some (En.mk k vid (.box a))) (h2 : (ents ν L ++ F)[i]? = some (bx (ν k).g (ν vid).cs)) (hk : k < b) (hset : ∀ e, setE L k e = L.set i e)
    (hx : ev f x = .pointer (some ⟨(ν k).g, off, none⟩)) (hv : (ev f y).cells.toList = ys) (hs : SizeIs P T ys.length) (hy : ones ys = true) (hl : off + ys.length ≤ (ν vid).cs.length)
    (hf : avC ν b (B.Z (ents ν L ++ F)) w a' (splice (ν vid).cs off ys)) : OpW P (.store T x y) ty f w (Gives B ν b w L F (b + 1) (wrE L k b (.box a')) .und) := by
  refine o_store h2 H.own hx rfl hv hs hy hl rfl rfl fun w' hw => ?_
  have hl := H.set (m := ⟨0, undef, splice (ν vid).cs off ys⟩) (e' := ⟨k, b, .box a'⟩) h1 (Nat.lt_succ_of_lt hk) rfl (w' := w') (by
    show Own _ _ _ (List.set _ i (bx (updN ν b _ k).g (updN ν b _ b).cs))
    rw [updN_same, updN_lt _ _ _ _ hk]; exact hw) (fun Z' h => hf.later h)
  unfold wrE
  rw [hset]
  exact ⟨_, hl, rfl⟩
theorem splice_mid {cs ys zs : List Value} {o i s : Nat} (h : o + s ≤ cs.length) (hi : i + ys.length ≤ s) (hz : zs = splice ((cs.drop o).take s) i ys) : splice cs o zs = splice cs (o + i) ys := by
  have hl : ((cs.drop o).take s).length = s := by rw [List.length_take, List.length_drop]; omega
  have hzl : zs.length = s := by rw [hz, splice_length _ _ _ (by omega), hl]
  apply List.ext_getElem?
  intro j
  rw [splice_get _ _ _ (by omega), splice_get _ _ _ (by omega)]
  by_cases h1 : o ≤ j ∧ j < o + zs.length
  · rw [if_pos h1, hz, splice_get _ _ _ (by omega)]
    by_cases h2 : i ≤ j - o ∧ j - o < i + ys.length
    · rw [if_pos h2, if_pos (by omega)]
      congr 1; omega
    · rw [if_neg h2, if_neg (by omega), List.getElem?_take, if_pos (by omega), List.getElem?_drop]
      congr 1; omega
  · rw [if_neg h1, if_neg (by omega)]
theorem storeT_ok (H : Here B ν b w L F) (hx : slotR ν b (B.Z (ents ν L ++ F)) w q (ev f x)) (hy : slotR ν b (B.Z (ents ν L ++ F)) w p (ev f y)) : M P (.store T x y) ty f B ν b w L F (storeT P T q p L b) := by
  intro a L' b' ha
  unfold storeT at ha
  cases hc : (p.okC && szIs P T p.csz) <;> rw [hc] at ha
  · cases ha
  simp only [Bool.and_eq_true] at hc
  obtain ⟨k1, k2, k3⟩ := AV.okC_ok hc.1
  have hcx := hy.cells k1 k2 k3
  have hlen := hcx.len
  have hsz : SizeIs P T (ev f y).cells.toList.length := by rw [hlen]; exact szIs_ok hc.2
  have hones := hcx.ones
  simp only [cond_true] at ha
  split at ha
  · rename_i k o
    split at ha
    · rename_i a0 hb
      split at ha
      · rename_i a' hp
        cases ha
        obtain ⟨i, vid, h1, h2, h3, hk, hset⟩ := boxOf_set H hb
        obtain ⟨g1, g2⟩ := putOff_ok hcx h3 hp
        exact o_storeBox H h1 h2 hk hset (sl_ptr hx).2 rfl hsz hones g2 g1
      · cases ha
    · cases ha
  · rename_i k e i eo
    split at ha
    · rename_i xs hr
      cases h0 : Nat.blt 0 e.sz <;> rw [h0] at ha
      · cases ha
      · have h0 : 0 < e.sz := Nat.le_of_ble_eq_true h0
        simp only [cond_true] at ha
        obtain ⟨z, hz, ha⟩ := bindE ha
        dsimp only at ha
        split at ha
        · rename_i y' hp
          cases ha
          obtain ⟨i', vid, h1, h2, h3, hk, hset⟩ := rowOf_set H hr
          obtain ⟨hkb, ad, m, c, g1, g2⟩ := hx
          have g3 := List.head_eq_of_cons_eq (show [ev f x] = [_] from g2)
          have hi : i < xs.length := (List.getElem?_eq_some_iff.1 hz).1
          have hl : (ν vid).cs.length = xs.length * e.rty.sz := h3.2.1
          have h6 := h3.2.2.2 i z hz
          have hle : (i + 1) * e.sz ≤ xs.length * e.sz := Nat.mul_le_mul_right _ hi
          rw [Nat.succ_mul] at hle
          rw [e.sz_rty] at hl h6
          unfold partPut at hp
          obtain ⟨a', hp1, hp2⟩ := bindE hp
          obtain ⟨q1, q2⟩ := putOff_ok hcx (explode_ok e h6) hp1
          have q3 := implode_ok e q1 hp2
          have hdl : (((ν vid).cs.drop (i * e.sz)).take e.sz).length = e.sz := by rw [List.length_take, List.length_drop]; omega
          rw [hdl] at q2
          have q4 := RV_set h3 hi q3
          rw [e.sz_rty] at q4
          rw [splice_mid (s := e.sz) (by omega) q2 rfl] at q4
          refine o_storeRow (i := i * e.sz + eo) h2 H.own (by rw [g3, g1]; rfl) rfl rfl hsz hones (by omega) (by omega) rfl rfl fun w' hw => ?_
          have hll := H.set (m := ⟨0, undef, splice (ν vid).cs (i * e.sz + eo) (ev f y).cells.toList⟩) (e' := ⟨k, b, .row e (xs.set i y')⟩) h1 (Nat.lt_succ_of_lt hk) rfl (w' := w') (by
            show Own _ _ _ (List.set _ i' (row e.sz (updN ν b _ k).v (xs.set i y').length (updN ν b _ b).cs))
            rw [updN_same, updN_lt _ _ _ _ hk, List.length_set]; exact hw) (fun Z' h => by
              show (RV (xs.set i y').length e.rty).rel _ _ _ _
              rw [List.length_set]
              exact (RV xs.length e.rty).go q4 h.mem)
          unfold wrE
          rw [hset]
          exact ⟨_, hll, rfl⟩
        · cases ha
    · cases ha
  · rename_i k off e N i eo
    split at ha
    · rename_i a0 hb
      split at ha
      · rename_i xs hr
        obtain ⟨z, hz, ha⟩ := bindE ha
        dsimp only at ha
        split at ha
        · rename_i y' hp
          split at ha
          · rename_i a' hpo
            cases ha
            obtain ⟨i', vid, h1, h2, h3, hk, hset⟩ := boxOf_set H hb
            obtain ⟨h4, h5⟩ := arrIn_ok h3 hr
            have hi : i < N := by have := (List.getElem?_eq_some_iff.1 hz).1; rw [h4.1] at this; exact this
            have hle : (i + 1) * e.sz ≤ N * e.sz := Nat.mul_le_mul_right _ hi
            rw [Nat.succ_mul] at hle
            have h6 := h4.2.2.2 i z hz
            rw [e.sz_rty] at h6
            unfold partPut at hp
            obtain ⟨a2, hp1, hp2⟩ := bindE hp
            obtain ⟨q1, q2⟩ := putOff_ok hcx (explode_ok e h6) hp1
            have q3 := implode_ok e q1 hp2
            have hdl0 : (((ν vid).cs.drop off).take (N * e.sz)).length = N * e.sz := by rw [List.length_take, List.length_drop]; omega
            have hdl : (((((ν vid).cs.drop off).take (N * e.sz)).drop (i * e.sz)).take e.sz).length = e.sz := by rw [List.length_take, List.length_drop, hdl0]; omega
            rw [hdl] at q2
            have q4 := RV_set h4 hi q3
            rw [e.sz_rty] at q4
            rw [splice_mid (s := e.sz) (by omega) q2 rfl] at q4
            have hone : (i * e.sz + eo) + (ev f y).cells.toList.length ≤ N * e.sz := by omega
            obtain ⟨g1, g2⟩ := putOff_ok (y := .val (.arr N e) (xs.set i y')) q4 h3 hpo
            rw [splice_mid (s := N * e.sz) (by omega) hone rfl] at g1
            refine o_storeBox (off := off + (i * e.sz + eo)) H h1 h2 hk hset (by rw [(sl_pel hx).2, Nat.add_assoc]) rfl hsz hones (by omega) g1
          · cases ha
        · cases ha
      · cases ha
    · cases ha
  · cases ha
end
end Hyp
set_option linter.unusedVariables false
set_option linter.unusedSimpArgs false
namespace Hyp
open Go
def rowLen (L : List En) (k : Nat) : Option Nat := match findE L k with
  | some ⟨_, _, .row _ xs⟩ => some xs.length
  | _ => none
def normW (L : List En) : AV → AV
  | .whole k s => match rowLen L k with | some n => .win k s 0 n | none => .any
  | x => x
def inI (n : Nat) (i : Int) : Option Nat := if 0 ≤ i ∧ i < n then some i.toNat else none
def getT {α β : Type} (c : Bool) (o : Option β) (k : β → Tree α) : Tree α := bif c then (match o with | some y => k y | none => .fail) else .get o k
def rowTy (L : List En) (k : Nat) : Option Ty := match findE L k with
  | some ⟨_, _, .row e _⟩ => some e
  | _ => none
def indexAddrT (P : Program) (T : TypeId) (c : Bool) (x i : AV) (L : List En) : Tree AV := match x, i.int? with
  | .ro _ e xs, some (_, n) => match elemSz P T with
    | some s => bif Nat.beq s e.sz then .get (getI xs n) fun y => .ret (.rop e xs n.toNat y 0) else .fail
    | none => .fail
  | .win k s lo m, some (_, n) => match elemSz P T, rowTy L k with
    | some s', some e => bif Nat.beq s' s && Nat.beq e.sz s then getT false (inI m n) fun j => .ret (.rowp k e (lo + j) 0) else .fail
    | _, _ => .fail
  | .bwin k off e N lo m, some (_, n) => match elemSz P T with
    | some s' => bif Nat.beq s' e.sz then getT false (inI m n) fun j => .ret (.pel k off e N (lo + j) 0) else .fail
    | none => .fail
  | .ptr k off, some (_, n) => match P.underlying T with
    | some (.array N et) => match arrTy P et, (P.info? et).map (·.size) with
      | some e, some s => bif Nat.beq s e.sz then getT c (inI N n) fun j => .ret (.pel k off e N j 0) else .fail
      | _, _ => .fail
    | _ => .fail
  | _, _ => .fail
def rdSl (L : List En) (e : Ty) (x : AV) : Option (List e.den) := match x with
  | .ro _ e' xs => castL e e' xs
  | .whole k s => bif Nat.beq s e.sz then rowOf L k e else none
  | .win k s lo n => bif Nat.beq s e.sz then (rowOf L k e).map fun xs => (xs.drop lo).take n else none
  | .bwin k off e' N lo n => bif decide (e' = e) then (boxOf L k).bind fun a => (arrIn a off e N).map fun xs => (xs.drop lo).take n else none
  | .snil _ => some []
  | _ => none
section
variable {P : Program} {ty T U S : TypeId} {f : Fr} {w w' : World} {B : Base} {ν ν' : Nms} {b b' : Nat} {L L' : List En} {F : List Ent} {x y : Operand} {p q : AV} {r : Operand → AV}
theorem getT_ok {α β : Type} {c : Bool} {o : Option β} {k : β → Tree α} {a : α} (h : (getT c o k).run = some a) : ∃ y, o = some y ∧ (k y).run = some a := by
  cases c
  · exact bindE h
  · cases o with
    | none => cases h
    | some y => exact ⟨y, rfl, h⟩
theorem inI_ok {n : Nat} {i : Int} {j : Nat} (h : inI n i = some j) : i = j ∧ j < n := by
  unfold inI at h
  split at h
  · cases h; omega
  · cases h
theorem vlen_is {v : Value} {n : Nat} (h : IsSl v n) : vlen v = n := by
  obtain ⟨a, c, rfl, _⟩ := h; rfl
theorem rowLen_ok {k n : Nat} (H : Here B ν b w L F) (h : rowLen L k = some n) : IsSl (ν k).v n := by
  unfold rowLen at h
  split at h
  · rename_i k' vid e xs hf
    obtain ⟨i, h1, h2, h3⟩ := findE_ok hf
    cases h
    simp only at h2
    subst h2
    exact H.own.rowIs (ents_at (ν := ν) (F := F) h1)
  · cases h
theorem subv_all {v : Value} {n s : Nat} (h : IsSl v n) : subv s v 0 (0 + n) = v := by
  obtain ⟨a, c, rfl, _⟩ := h
  have h0 : ∀ ad : Addr, ad.add (0 * s) = ad := fun ad => by rw [Nat.zero_mul]; rfl
  simp only [subv, Nat.zero_add, Nat.sub_zero]
  cases a with
  | none => simp
  | some ad => simp [Addr.add]
theorem normW_ok {v : Value} (H : Here B ν b w L F) (h : slotR ν b (B.Z (ents ν L ++ F)) w p v) : slotR ν b (B.Z (ents ν L ++ F)) w (normW L p) v := by
  unfold normW
  split
  · rename_i k s
    split
    · rename_i n hn
      obtain ⟨h1, h2, h3⟩ := sl_whole h
      have h4 := rowLen_ok H hn
      exact ⟨h1, v, rfl, by rw [h3]; exact h4, by rw [vlen_is h4]; omega, .inl (by rw [h3, subv_all h4])⟩
    · trivial
  · exact h
theorem rowTy_ok {k : Nat} {e : Ty} (h : rowTy L k = some e) : ∃ xs, rowOf L k e = some xs := by
  unfold rowTy at h
  unfold rowOf
  split at h
  · rename_i k' vid e' xs hf
    cases h
    try rw [hf]
    exact ⟨xs, by simp [castL, castTy]⟩
  · cases h
theorem indexAddrT_ok {c : Bool} {i : Operand} (H : Here B ν b w L F) (hx : slotR ν b (B.Z (ents ν L ++ F)) w p (ev f x)) (hi : slotR ν b (B.Z (ents ν L ++ F)) w q (ev f i)) :
    Q P (.indexAddr T x i) ty f w ν b (B.Z (ents ν L ++ F)) (indexAddrT P T c p q L) := by
  intro a ha
  unfold indexAddrT at ha
  split at ha
  · rename_i ct e xs k n hq
    split at ha
    · rename_i s hs
      cases hb : Nat.beq s e.sz <;> rw [hb] at ha
      · cases ha
      · obtain ⟨z, hz, ha⟩ := bindE ha
        cases ha
        obtain ⟨et, hu, hsz⟩ := elemSz_ok hs
        have hse := Nat.eq_of_beq_eq_true hb
        subst hse
        obtain ⟨hj, hn, hzz⟩ := getI_at hz
        obtain ⟨hro, _⟩ := sl_ro hx
        have his := hro.is
        refine o_indexSl (v := ev f x) hu hsz rfl his (int_ok hi hq) hj hn ⟨rfl, ?_⟩
        obtain ⟨ad, cc, hv, h1, h2, h3⟩ := his
        cases ad with
        | none => have := h3 rfl; omega
        | some ad =>
          rw [hv] at hro ⊢
          exact ⟨hzz, ad, _, cc, rfl, hro⟩
    · cases ha
  · rename_i k s lo m kk n hq
    split at ha
    · rename_i s' e hs he
      cases hb : (Nat.beq s' s && Nat.beq e.sz s) <;> rw [hb] at ha
      · cases ha
      · simp only [Bool.and_eq_true] at hb
        obtain ⟨j, hj, ha⟩ := getT_ok (c := false) ha
        cases ha
        obtain ⟨hj1, hj2⟩ := inI_ok hj
        obtain ⟨et, hu, hsz⟩ := elemSz_ok hs
        have e1 := Nat.eq_of_beq_eq_true hb.1
        have e2 := Nat.eq_of_beq_eq_true hb.2
        subst e1
        obtain ⟨h1, h2, h3, h4⟩ := sl_win hx
        refine o_indexSl (v := ev f x) hu hsz rfl h2 (int_ok hi hq) hj1 hj2 ⟨rfl, ?_⟩
        obtain ⟨xs, hxs⟩ := rowTy_ok he
        obtain ⟨i', vid, g1, g2, g3⟩ := rowOf_ok H hxs
        have hV := H.own.rowIs g2
        obtain ⟨aV, cV, hVe, hV1, hV2, hV3⟩ := hV
        rcases h4 with h4 | ⟨a0, h4⟩
        · rw [hVe] at h4 h3
          simp only [subv, vlen] at h4 h3
          have hne : ¬ cV = lo := by
            intro h
            rw [if_pos h] at h4
            obtain ⟨_, c2, q1, q2, _⟩ := h2
            rw [h4] at q1
            simp only [Value.slice.injEq] at q1
            omega
          rw [if_neg hne] at h4
          cases aV with
          | none => have := hV3 rfl; omega
          | some ad =>
            refine ⟨h1, ad, xs.length, cV, hVe, ?_⟩
            rw [h4]
            show [Value.pointer (some ((ad.add (lo * s')).add (j * s')))] = _
            rw [addAdd, ← Nat.add_mul, e2, Nat.add_zero]
        · obtain ⟨_, c2, q1, q2, _⟩ := h2
          rw [h4] at q1
          cases q1
          omega
    · cases ha
  · rename_i k off e N lo m kk n hq
    split at ha
    · rename_i s' hs
      cases hb : Nat.beq s' e.sz <;> rw [hb] at ha
      · cases ha
      · obtain ⟨j, hj, ha⟩ := getT_ok (c := false) ha
        cases ha
        obtain ⟨hj1, hj2⟩ := inI_ok hj
        obtain ⟨et, hu, hsz⟩ := elemSz_ok hs
        have e1 := Nat.eq_of_beq_eq_true hb
        subst e1
        obtain ⟨h1, h2, h3, h4⟩ := sl_bwin hx
        refine o_indexSl (v := ev f x) hu hsz rfl h2 (int_ok hi hq) hj1 hj2 ⟨rfl, h1, ?_⟩
        rcases h4 with h4 | ⟨a0, h4⟩
        · rw [h4]
          show [Value.pointer (some ((⟨(ν k).g, off + lo * e.sz, none⟩ : Addr).add (j * e.sz)))] = _
          unfold Addr.add
          split
          · rename_i hz; rw [Nat.add_mul, hz, Nat.add_zero, Nat.add_zero]
          · rw [Nat.add_mul, ← Nat.add_assoc, Nat.add_zero]
        · obtain ⟨_, c2, q1, q2, _⟩ := h2
          rw [h4] at q1
          cases q1
          omega
    · cases ha
  · rename_i k off kk n hq
    split at ha
    · rename_i N et hu
      split at ha
      · rename_i e s he hs
        cases hb : Nat.beq s e.sz <;> rw [hb] at ha
        · cases ha
        · obtain ⟨j, hj, ha⟩ := getT_ok ha
          cases ha
          obtain ⟨hj1, hj2⟩ := inI_ok hj
          have e1 := Nat.eq_of_beq_eq_true hb
          subst e1
          refine o_indexArr hu (.of hs) (sl_ptr hx).2 (int_ok hi hq) hj1 hj2 rfl ⟨rfl, (sl_ptr hx).1, ?_⟩
          show [Value.pointer (some ((⟨(ν k).g, off, none⟩ : Addr).add (j * e.sz)))] = _
          unfold Addr.add
          split
          · rename_i hz; rw [hz]; rfl
          · rfl
      · cases ha
    · cases ha
  · cases ha
theorem RV_sub {α : Type} {A : RTy α} {Z : Nat → Prop} {xs : List α} {cs : List Value} {N lo n : Nat} (h : (RV N A).rel Z w xs cs) (hl : lo + n ≤ N) : (RV n A).rel Z w ((xs.drop lo).take n) ((cs.drop (lo * A.sz)).take (n * A.sz)) := by
  obtain ⟨h1, h2, h3, h4⟩ := h
  have e2 : lo * A.sz + n * A.sz ≤ cs.length := by rw [h2, ← Nat.add_mul]; exact Nat.mul_le_mul_right _ hl
  refine ⟨by simp; omega, by rw [List.length_take, List.length_drop]; omega, ?_, ?_⟩
  · simp only [ones, List.all_eq_true] at h3 ⊢
    exact fun x hx => h3 x (List.mem_of_mem_drop (List.mem_of_mem_take hx))
  · intro i x hx
    have hi : i < n := by have := (List.getElem?_eq_some_iff.1 hx).1; simp at this; omega
    rw [List.getElem?_take_of_lt hi, List.getElem?_drop] at hx
    have h5 := h4 (lo + i) x hx
    have e3 : (i + 1) * A.sz ≤ n * A.sz := Nat.mul_le_mul_right _ hi
    rw [Nat.succ_mul] at e3
    rw [List.drop_take, List.take_take, List.drop_drop, ← Nat.add_mul, Nat.min_eq_left (by omega)]
    exact h5
theorem rdSl_in {e : Ty} {xs : List e.den} {v : Value} (H : Here B ν b w L F) (hx : slotR ν b (B.Z (ents ν L ++ F)) w p v) (h : rdSl L e p = some xs) :
    ∃ cs, Sl (fun x => footU (ents ν L) x ∨ B.Z (ents ν L ++ F) x) w v xs.length cs ∧ (RV xs.length e.rty).rel (B.Z (ents ν L ++ F)) w xs cs := by
  unfold rdSl at h
  split at h
  · rename_i c e' xs'
    obtain ⟨hro, _⟩ := sl_ro hx
    obtain ⟨he, hxx⟩ := castTy_ok (t := .list _) (t' := .list _) h
    cases he
    cases hxx
    obtain ⟨cs, g1, g2, g3, g4⟩ := hro
    exact ⟨cs, g1.mono fun _ _ hz => .inr hz, rfl, g2, g3, g4⟩
  · rename_i k s
    cases hb : Nat.beq s e.sz <;> rw [hb] at h
    · cases h
    · obtain ⟨h1, h2, h3⟩ := sl_whole hx
      obtain ⟨i, vid, g1, g2, g3⟩ := rowOf_ok H h
      rw [h3]
      exact ⟨_, H.own.rowSl g2 fun x hx => .inl ⟨_, List.mem_map_of_mem (List.mem_of_getElem? g1), hx⟩, g3⟩
  · rename_i k s lo n
    cases hb : Nat.beq s e.sz <;> rw [hb] at h
    · cases h
    · have hse := Nat.eq_of_beq_eq_true hb
      subst hse
      simp only [cond_true, Option.map_eq_some_iff] at h
      obtain ⟨ys, hy, rfl⟩ := h
      obtain ⟨h1, h2, h3, h4⟩ := sl_win hx
      obtain ⟨i, vid, g1, g2, g3⟩ := rowOf_ok H hy
      have hV := H.own.rowIs g2
      rw [vlen_is hV] at h3
      have hl : ((ys.drop lo).take n).length = n := by simp; omega
      have hsub := RV_sub g3 h3
      rw [e.sz_rty] at hsub
      rw [hl]
      rcases h4 with h4 | ⟨a0, h4⟩
      · have hs2 := (H.own.rowSl g2 (S := fun x => footU (ents ν L) x ∨ B.Z (ents ν L ++ F) x) fun x hx => .inl ⟨_, List.mem_map_of_mem (List.mem_of_getElem? g1), hx⟩).sub e.sz lo (lo + n) (by omega) h3 (by have := g3.2.1; rw [e.sz_rty] at this; exact this)
        rw [← h4, Nat.add_sub_cancel_left] at hs2
        exact ⟨_, hs2, hsub⟩
      · have hn : n = 0 := by obtain ⟨_, _, q1, _⟩ := h2; rw [h4] at q1; cases q1; rfl
        subst hn
        rw [Nat.zero_mul, List.take_zero] at hsub
        exact ⟨[], .empty _ _ h2, hsub⟩
  · rename_i k off e' N lo n
    cases hb : decide (e' = e) <;> rw [hb] at h
    · cases h
    · have he : e' = e := by simpa using hb
      subst he
      simp only [cond_true] at h
      obtain ⟨a, ha, h⟩ := bindE h
      simp only [Option.map_eq_some_iff] at h
      obtain ⟨ys, hy, rfl⟩ := h
      obtain ⟨h1, h2, h3, h4⟩ := sl_bwin hx
      obtain ⟨i, vid, g1, g2, g3⟩ := boxOf_ok H ha
      obtain ⟨q1, q2⟩ := arrIn_ok g3 hy
      have hl : ((ys.drop lo).take n).length = n := by have := q1.1; simp; omega
      have hsub := RV_sub q1 h3
      rw [e'.sz_rty] at hsub
      rw [hl]
      rcases h4 with h4 | ⟨a0, h4⟩
      · refine ⟨_, ⟨h2, ?_⟩, hsub⟩
        have hle : lo * e'.sz + n * e'.sz ≤ N * e'.sz := by rw [← Nat.add_mul]; exact Nat.mul_le_mul_right _ h3
        have hat := ((H.own.bxAt g2).drop (off + lo * e'.sz)).take (n * e'.sz)
        right
        refine ⟨_, ⟨_, h4⟩, .inl ⟨_, List.mem_map_of_mem (List.mem_of_getElem? g1), rfl⟩, ?_⟩
        have e1 : (⟨(ν k).g, 0, none⟩ : Addr).add (off + lo * e'.sz) = ⟨(ν k).g, off + lo * e'.sz, none⟩ := by
          unfold Addr.add
          split
          · rename_i h0; rw [h0]
          · simp
        rw [e1] at hat
        rw [List.drop_take, List.take_take, List.drop_drop, Nat.min_eq_left (by omega)]
        exact hat
      · have hn : n = 0 := by obtain ⟨_, _, q1, _⟩ := h2; rw [h4] at q1; cases q1; rfl
        subst hn
        rw [Nat.zero_mul, List.take_zero] at hsub
        exact ⟨[], .empty _ _ h2, hsub⟩
  · cases h
    rw [sl_snil hx]
    exact ⟨[], Sl.nil _ _, by simp [RV, ones]⟩
  · cases h
theorem rdSl_ok {e : Ty} {xs : List e.den} {v : Value} (H : Here B ν b w L F) (hx : slotR ν b (B.Z (ents ν L ++ F)) w p v) (h : rdSl L e p = some xs) :
    ∃ cs, Sl (fun _ => True) w v xs.length cs ∧ (RV xs.length e.rty).rel (B.Z (ents ν L ++ F)) w xs cs := by
  obtain ⟨cs, h1, h2⟩ := rdSl_in H hx h
  exact ⟨cs, h1.mono fun _ _ _ => trivial, h2⟩
end
end Hyp
set_option linter.unusedVariables false
set_option linter.unusedSimpArgs false
namespace Hyp
open Go
def elemBy (P : Program) (T : TypeId) (e : Ty) : Option Nat := match P.underlying T with
  | some (.slice et) => match (P.info? et).map (fun i => (i.size, i.bytes, i.zero.map fun z => z.cells.size)) with
    | some (s, y, some s') => bif Nat.beq s e.sz && Nat.beq s' e.sz then some y else none
    | _ => none
  | _ => none
theorem elemBy_ok {P : Program} {T : TypeId} {e : Ty} {y : Nat} (h : elemBy P T e = some y) : ∃ et, ElemIs P T et e.sz y := by
  unfold elemBy at h
  split at h
  · rename_i et hu
    split at h
    · rename_i s y' s' hi
      cases hb : (Nat.beq s e.sz && Nat.beq s' e.sz) <;> rw [hb] at h
      · cases h
      · cases h
        simp only [Bool.and_eq_true] at hb
        have e1 := Nat.eq_of_beq_eq_true hb.1
        have e2 := Nat.eq_of_beq_eq_true hb.2
        subst e1
        subst e2
        exact ⟨et, .of hu hi⟩
    · cases h
  · cases h
def sliceElTy (P : Program) (T : TypeId) : Option Ty := match P.underlying T with
  | some (.slice et) => arrTy P et
  | _ => none
def tightI {α : Type} (c : Bool) (N : Nat) (xs ys : List α) : Option (List α) := bif c && !ys.isEmpty then appI N xs ys else none
def appendT (P : Program) (T : TypeId) (x y : AV) (L : List En) (b : Nat) : Tree MR := match x with
  | .ro c e xs => match elemBy P T e, rdSl L e y with
    | some by_, some ys => .get (tightI c (140737488355328 / by_) xs ys) fun zs => .ret (.whole b e.sz, ⟨b, b, .row e zs⟩ :: L, b + 1)
    | _, _ => .fail
  | .snil _ => match sliceElTy P T with
    | some e => match elemBy P T e, rdSl L e y with
      | some by_, some ys => .get (appI (140737488355328 / by_) [] ys) fun zs => .ret (.whole b e.sz, ⟨b, b, .row e zs⟩ :: L, b + 1)
      | _, _ => .fail
    | none => .fail
  | .whole k s => match rowTy L k with
    | some e => match elemBy P T e, rowOf L k e, rdSl L e y with
      | some by_, some xs, some ys => bif Nat.beq s e.sz then .get (appI (140737488355328 / by_) xs ys) fun zs => .ret (.whole b e.sz, setE L k ⟨b, b, .row e zs⟩, b + 1) else .fail
      | _, _, _ => .fail
    | none => .fail
  | .win k s lo n => match rowTy L k with
    | some e => match elemBy P T e, rowOf L k e, rdSl L e y with
      | some by_, some xs, some ys => bif Nat.beq s e.sz then .get (appI (140737488355328 / by_) ((xs.drop lo).take n) ys) fun zs => .ret (.whole b e.sz, setE L k ⟨b, b, .row e zs⟩, b + 1) else .fail
      | _, _, _ => .fail
    | none => .fail
  | _ => .fail
section
variable {P : Program} {ty T U S : TypeId} {f : Fr} {w w' : World} {B : Base} {ν ν' : Nms} {b b' : Nat} {L L' : List En} {F : List Ent} {x y : Operand} {p q : AV} {r : Operand → AV}
theorem RV_append {α : Type} {A : RTy α} {Z : Nat → Prop} {xs ys : List α} {cs ds : List Value} {n m : Nat} (h : (RV n A).rel Z w xs cs) (g : (RV m A).rel Z w ys ds) : (RV (n + m) A).rel Z w (xs ++ ys) (cs ++ ds) := by
  obtain ⟨h1, h2, h3, h4⟩ := h
  obtain ⟨g1, g2, g3, g4⟩ := g
  refine ⟨by simp [h1, g1], by rw [List.length_append, h2, g2, Nat.add_mul], ones_append h3 g3, fun i x hx => ?_⟩
  by_cases hi : i < n
  · rw [List.getElem?_append_left (by omega)] at hx
    have h5 := h4 i x hx
    have : (i + 1) * A.sz ≤ n * A.sz := Nat.mul_le_mul_right _ hi
    rw [Nat.succ_mul] at this
    rw [List.drop_append_of_le_length (by omega), List.take_append_of_le_length (by rw [List.length_drop]; omega)]
    exact h5
  · rw [List.getElem?_append_right (by omega), h1] at hx
    have h5 := g4 (i - n) x hx
    have e1 : n * A.sz + (i - n) * A.sz = i * A.sz := by rw [← Nat.add_mul]; congr 1; omega
    have e2 : n * A.sz ≤ i * A.sz := Nat.mul_le_mul_right _ (by omega)
    rw [List.drop_append, List.drop_of_length_le (by omega), List.nil_append, h2, show i * A.sz - n * A.sz = (i - n) * A.sz by omega]
    exact h5
theorem Own.shrink {w0 : World} {o : Nat → Prop} {l : List Ent} {i sz N lo n : Nat} {V v : Value} {cs : List Value} (H : Own w0 o w l) (hi : l[i]? = some (row sz V N cs)) (hv : IsSl v n) (hl : lo + n ≤ N) (h4 : v = subv sz V lo (lo + n) ∨ ∃ a, v = .slice a 0 0) :
    Own w0 o w (l.set i (row sz v n ((cs.drop (lo * sz)).take (n * sz)))) := by
  obtain ⟨hV, hlen, hmem⟩ := H.get hi
  have hle : lo * sz + n * sz ≤ cs.length := by rw [hlen, ← Nat.add_mul]; exact Nat.mul_le_mul_right _ hl
  have hcl : ((cs.drop (lo * sz)).take (n * sz)).length = n * sz := by rw [List.length_take, List.length_drop]; omega
  rcases h4 with h4 | ⟨a0, h4⟩
  · obtain ⟨a, c, rfl, hn, hm, ha⟩ := hV
    have key : ∀ ad' m' c', v = .slice (some ad') m' c' → 0 < c' → ∃ ad, a = some ad ∧ ad' = ad.add (lo * sz) ∧ c' = c - lo ∧ 0 < c := by
      intro ad' m' c' he h0
      rw [he] at h4
      simp only [subv, Value.slice.injEq] at h4
      obtain ⟨q1, q2, q3⟩ := h4
      have hne : ¬ c = lo := by omega
      rw [if_neg hne] at q1
      cases a with
      | none => cases q1
      | some ad => exact ⟨ad, rfl, by simpa using q1, q3, by omega⟩
    refine H.put i hi (Nat.le_refl _) (fun _ _ _ => rfl) ⟨hv, hcl, ?_⟩ ?_
    · intro ad' m' c' he h0
      obtain ⟨ad, rfl, rfl, rfl, hc0⟩ := key ad' m' c' he h0
      obtain ⟨hsp, cur, T', z, q1, q2, q3, q4⟩ := hmem ad N c rfl hc0
      refine ⟨spot_add hsp _, cur, T', z, by rw [block_add]; exact q1, q2, ?_, ?_⟩
      · have hoff : (ad.add (lo * sz)).off = ad.off + lo * sz := by
          unfold Addr.add
          split
          · rename_i h; rw [h]; rfl
          · rfl
        have e1 : lo * sz + (c - lo) * sz = c * sz := by rw [← Nat.add_mul]; congr 1; omega
        rw [hoff]; omega
      · intro j hj
        have hoff : (ad.add (lo * sz)).off = ad.off + lo * sz := by
          unfold Addr.add
          split
          · rename_i h; rw [h]; rfl
          · rfl
        rw [hcl] at hj
        rw [hoff, Nat.add_assoc, q4 _ (by omega), List.getElem?_take_of_lt hj, List.getElem?_drop]
    · intro x hx
      rw [row_foot] at hx
      obtain ⟨ad', m', c', he, h0, hb⟩ := hx
      obtain ⟨ad, rfl, rfl, rfl, hc0⟩ := key ad' m' c' he h0
      rw [block_add] at hb
      have hf : (row sz (Value.slice (some ad) N c) N cs).foot x := by rw [row_foot, ownB_iff]; exact ⟨hc0, hb⟩
      exact ⟨(H.low _ (List.mem_of_getElem? hi) x hf).1, fun _ => hf⟩
  · have hn0 : n = 0 := by obtain ⟨_, _, q1, _⟩ := hv; rw [h4] at q1; cases q1; rfl
    subst hn0
    subst h4
    refine H.put i hi (Nat.le_refl _) (fun _ _ _ => rfl) ⟨hv, hcl, ?_⟩ ?_
    · intro ad m c he h0; cases he; omega
    · intro x hx
      rw [row_foot] at hx
      obtain ⟨ad', m', c', he, h0, hb⟩ := hx
      cases he
      omega
theorem appI_len {α : Type} {by_ : Nat} {xs ys zs : List α} (h : appI (140737488355328 / by_) xs ys = some zs) : zs = xs ++ ys ∧ (xs.length + ys.length) * by_ ≤ 140737488355328 ∧ xs.length + ys.length ≤ maxLen := by
  obtain ⟨h1, h2⟩ := appI_some h
  refine ⟨h2, Nat.le_trans (Nat.mul_le_mul_right _ h1) (Nat.div_mul_le_self _ _), ?_⟩
  have h3 : 140737488355328 / by_ ≤ 140737488355328 := Nat.div_le_self _ _
  have : maxLen = 9223372036854775807 := rfl
  omega
theorem o_append_tight {w0 : World} {o : Nat → Prop} {l : List Ent} {K : Value → World → Prop} {s x : Operand} {t e sz by_ n m : Nat} {v u : Value} {xs ys : List Value} {S S' : Nat → Prop} (he : ElemIs P t e sz by_) (H : Own w0 o w l) (hs : ev f s = v) (hx : ev f x = u)
    (hv : Sl S' w v n xs) (hlen : xs.length = n * sz) (ht : Tight v) (hm0 : 0 < m) (hu : Sl S w u m ys) (hl : ys.length = m * sz) (hb : (n + m) * by_ ≤ 140737488355328) (hm : n + m ≤ maxLen)
    (h : ∀ v' w', Own w0 o w' (row sz v' (n + m) (xs ++ ys) :: l) → K v' w') :
    OpW P (.call ⟨.builtin .append, #[s, x], #[t, t]⟩) ty f w K := by
  obtain ⟨i, z, hi, hsz, hby, hz, hzs⟩ := he.info
  subst hsz; subst hby
  obtain ⟨⟨a, c, rfl, hn, hcm, ha⟩, hrest⟩ := id hv
  have hcn : c = n := by
    obtain ⟨a', n', h⟩ := ht
    cases h
    rfl
  subst hcn
  have hf := run_first (P := P) hu hl
  have hfo := run_first (P := P) hv hlen
  have hlenOf : (Builtin.lenOf u).run P w = .ok m w := by
    obtain ⟨⟨a', c', rfl, _⟩, _⟩ := hu
    simp [Builtin.lenOf]
  have hty : ∀ d, P.underlying t = some d → (d matches .int _) = false := by intro d hd; rw [he.und] at hd; cases hd; rfl
  have hroom : ¬ c + m ≤ c := by omega
  have hfits := growslice_fits (need := c + m) (old := c) (bytes := i.bytes) (by omega) hb
  have hge := grownCap_ge w (c + m) c e
  have hcap := grownCap_le_maxLen w (c + m) c e hm
  have hmul : (c + m) * i.size = c * i.size + m * i.size := Nat.add_mul _ _ _
  have hsm : ¬ ((c + m : Nat) : Int) > IntKind.i64.max := by
    have : maxLen = 9223372036854775807 := rfl
    rw [this] at hm
    simp [IntKind.max, IntKind.signed, IntKind.bits]
    omega
  refine .of_run (v := .slice (some ⟨w.heap.size, 0, none⟩) (c + m) (grownCap w (c + m) c e)) (w' := w.drew.alloc (.cells ((xs ++ ys).toArray ++ Builtin.zeroCells z.cells (grownCap w (c + m) c e - (c + m))) e)) ?_ (h _ _ ?_)
  · have hsl2 := run_first (P := P) (w := w.drew) (S := fun _ => True) (u := u) (m := m) (ys := ys) (hu.congr (fun _ _ _ => rfl) |>.mono fun _ _ _ => trivial) hl
    have hsl3 := run_first (P := P) (w := w.drew) (S := fun _ => True) (hv.congr (w' := w.drew) (fun _ _ _ => rfl) |>.mono fun _ _ _ => trivial) hlen
    have hch : (choose (.appendCap (c + m) c e)).run P w = .ok (grownCap w (c + m) c e) w.drew := by
      simp [grownCap, Question.forced]
    have hzr : (zeroValue e).run P w.drew = .ok z w.drew := (show ZeroIs P e z from ⟨i, hi, hz⟩).run
    have hbig : ¬ (Builtin.nextslicecap (c + m) c * i.bytes > 2 ^ 48) := by omega
    simp only [execOp, bare, resolve, invoke, builtin, Builtin.append_, Sem.run_bind, Sem.run_pure, Result.andThen_ok, List.map_toArray, List.map_cons, List.map_nil, hs, hx]
    simp [run_und he.und, he.size.run, hlenOf, hroom, run_info hi, hbig, hch, hsl2, hsl3, hzr, Go.newRow]
    rw [if_neg (by
      rintro ⟨h1', _⟩
      have : maxLen = 9223372036854775807 := rfl
      omega)]
    simp [Question.forced, grownCap]
    have hap : (xs ++ ys).toArray = xs.toArray ++ ys.toArray := by simp
    rw [hap, Array.append_assoc]
  · exact (H.drew).newRow (xs ++ ys) (Builtin.zeroCells z.cells (grownCap w (c + m) c e - (c + m))) e i.size (c + m) (grownCap w (c + m) c e) (by simp [hlen, hl, hmul]) hge hcap (by
      rw [size_zeroCells, hzs, ← Nat.add_mul]
      congr 1
      omega)
theorem append_row {e : Ty} {by_ et i k vid lo n : Nat} {xs ys zs : List e.den} {ycs : List Value} (H : Here B ν b w L F) (he : ElemIs P T et e.sz by_) (hi : L[i]? = some (En.mk k vid (.row e xs))) (hset : ∀ x, setE L k x = L.set i x)
    (hrel : (RV xs.length e.rty).rel (B.Z (ents ν L ++ F)) w xs (ν vid).cs) (hv : IsSl (ev f x) n) (hl : lo + n ≤ xs.length) (h4 : ev f x = subv e.sz (ν k).v lo (lo + n) ∨ ∃ a, ev f x = .slice a 0 0)
    (hy : Sl (fun _ => True) w (ev f y) ys.length ycs) (hyr : (RV ys.length e.rty).rel (B.Z (ents ν L ++ F)) w ys ycs) (hz : appI (140737488355328 / by_) ((xs.drop lo).take n) ys = some zs) :
    OpW P (.call ⟨.builtin .append, #[x, y], #[T, T]⟩) ty f w (Gives B ν b w L F (b + 1) (setE L k ⟨b, b, .row e zs⟩) (.whole b e.sz)) := by
  have hat := ents_at (ν := ν) (F := F) hi
  have hil : i < (ents ν L ++ F).length := (List.getElem?_eq_some_iff.1 hat).1
  have hown := H.own.shrink hat hv hl h4
  have hsub := RV_sub hrel hl
  have hnl : ((xs.drop lo).take n).length = n := by simp; omega
  obtain ⟨hz1, hz2, hz3⟩ := appI_len hz
  rw [hnl] at hz2 hz3
  have hcomb := RV_append hsub hyr
  rw [e.sz_rty] at hcomb
  have hyl : ycs.length = ys.length * e.sz := by have := hyr.2.1; rw [e.sz_rty] at this; exact this
  refine o_append (k := i) he (by rw [List.getElem?_set_self hil]) hown rfl rfl hy hyl hyr.2.2.1 hz2 hz3 rfl ?_
  intro v' w' l' hl' hw
  subst hl'
  rw [List.set_set] at hw
  have hlen : zs.length = n + ys.length := by rw [hz1, List.length_append, hnl]
  have hleft := H.set (m := ⟨0, v', ((ν vid).cs.drop (lo * e.sz)).take (n * e.sz) ++ ycs⟩) (e' := ⟨b, b, .row e zs⟩) hi (Nat.lt_succ_self b) rfl (w' := w') (by
    show Own _ _ _ (List.set _ i (row e.sz (updN ν b _ b).v zs.length (updN ν b _ b).cs))
    rw [updN_same, hlen]; exact hw) (fun Z' h => by
      show (RV zs.length e.rty).rel _ _ _ _
      rw [hlen, hz1]
      exact (RV _ e.rty).go hcomb h.mem)
  rw [hset]
  refine ⟨_, hleft, .of ⟨Nat.lt_succ_self b, v', rfl, ?_, by rw [updN_same]⟩⟩
  have hrow := hw.rowIs (k := i) (by rw [List.getElem?_set_self hil])
  rw [vlen_is hrow]
  exact hrow
theorem appendT_ok (H : Here B ν b w L F) (hx : slotR ν b (B.Z (ents ν L ++ F)) w p (ev f x)) (hy : slotR ν b (B.Z (ents ν L ++ F)) w q (ev f y)) : M P (.call ⟨.builtin .append, #[x, y], #[T, T]⟩) ty f B ν b w L F (appendT P T p q L b) := by
  intro a L' b' ha
  unfold appendT at ha
  split at ha
  · rename_i c e xs
    split at ha
    · rename_i by_ ys hb hys
      obtain ⟨zs, hz, ha⟩ := bindE ha
      cases ha
      obtain ⟨et, he⟩ := elemBy_ok hb
      obtain ⟨ycs, hsl, hrel⟩ := rdSl_ok H hy hys
      obtain ⟨⟨xcs, g1, g2, g3, g4⟩, ht⟩ := sl_ro hx
      unfold tightI at hz
      cases hc : (c && !ys.isEmpty) <;> rw [hc] at hz
      · cases hz
      simp only [Bool.and_eq_true, Bool.not_eq_true', List.isEmpty_eq_false_iff] at hc
      obtain ⟨hz1, hz2, hz3⟩ := appI_len hz
      have hyl : ycs.length = ys.length * e.sz := by have := hrel.2.1; rw [e.sz_rty] at this; exact this
      have hxl : xcs.length = xs.length * e.sz := by rw [e.sz_rty] at g2; exact g2
      refine o_append_tight he H.own rfl rfl g1 hxl (ht hc.1) (List.length_pos_iff.2 hc.2) hsl hyl hz2 hz3 ?_
      intro v' w' hw
      have hzl : zs.length = xs.length + ys.length := by rw [hz1, List.length_append]
      have hleft := H.cons (m := ⟨0, v', xcs ++ ycs⟩) (c := .row e zs) (w' := w') (by
        show Own _ _ _ (row e.sz (updN ν b _ b).v zs.length (updN ν b _ b).cs :: _)
        rw [updN_same, hzl]; exact hw) (fun Z' h => by
          show (RV zs.length e.rty).rel _ _ _ _
          rw [hzl, hz1]
          exact (RV _ e.rty).go (RV_append ⟨rfl, g2, g3, g4⟩ hrel) h.mem)
      refine ⟨_, hleft, .of ⟨Nat.lt_succ_self b, v', rfl, ?_, by rw [updN_same]⟩⟩
      have hrow := hw.rowIs (k := 0) rfl
      rw [vlen_is hrow]
      exact hrow
    · cases ha
  · split at ha
    · rename_i e he0
      split at ha
      · rename_i by_ ys hb hys
        obtain ⟨zs, hz, ha⟩ := bindE ha
        cases ha
        obtain ⟨et, he⟩ := elemBy_ok hb
        obtain ⟨ycs, hsl, hrel⟩ := rdSl_ok H hy hys
        obtain ⟨hz1, hz2, hz3⟩ := appI_len hz
        have hyl : ycs.length = ys.length * e.sz := by have := hrel.2.1; rw [e.sz_rty] at this; exact this
        have hown := H.own.nilRow e.sz (v := ev f x) ⟨none, sl_snil hx⟩
        refine o_append (k := 0) he rfl hown rfl rfl hsl hyl hrel.2.2.1 hz2 hz3 rfl ?_
        intro v' w' l' hl' hw
        subst hl'
        simp only [List.set_cons_zero, List.nil_append, Nat.zero_add, List.length_nil] at hw hz1
        subst hz1
        have hleft := H.cons (m := ⟨0, v', ycs⟩) (c := .row e zs) (w' := w') (by
          show Own _ _ _ (row e.sz (updN ν b _ b).v zs.length (updN ν b _ b).cs :: _)
          rw [updN_same]; exact hw) (fun Z' h => (RV _ e.rty).go hrel h.mem)
        refine ⟨_, hleft, .of ⟨Nat.lt_succ_self b, v', rfl, ?_, by rw [updN_same]⟩⟩
        have hrow := hw.rowIs (k := 0) rfl
        rw [vlen_is hrow]
        exact hrow
      · cases ha
    · cases ha
  · rename_i k s
    split at ha
    · rename_i e he0
      split at ha
      · rename_i by_ xs ys hb hxs hys
        cases hc : Nat.beq s e.sz <;> rw [hc] at ha
        · cases ha
        · obtain ⟨zs, hz, ha⟩ := bindE ha
          cases ha
          obtain ⟨et, he⟩ := elemBy_ok hb
          obtain ⟨ycs, hsl, hrel⟩ := rdSl_ok H hy hys
          obtain ⟨i, vid, g1, g2, g3, g4, g5⟩ := rowOf_set H hxs
          obtain ⟨h1, h2, h3⟩ := sl_whole hx
          have hV := H.own.rowIs g2
          refine append_row (lo := 0) (n := xs.length) H he g1 g5 g3 (by rw [h3]; exact hV) (by omega) (.inl (by rw [h3, subv_all hV])) hsl hrel ?_
          rw [List.drop_zero, List.take_length]
          exact hz
      · cases ha
    · cases ha
  · rename_i k s lo n
    split at ha
    · rename_i e he0
      split at ha
      · rename_i by_ xs ys hb hxs hys
        cases hc : Nat.beq s e.sz <;> rw [hc] at ha
        · cases ha
        · have hse := Nat.eq_of_beq_eq_true hc
          subst hse
          obtain ⟨zs, hz, ha⟩ := bindE ha
          cases ha
          obtain ⟨et, he⟩ := elemBy_ok hb
          obtain ⟨ycs, hsl, hrel⟩ := rdSl_ok H hy hys
          obtain ⟨i, vid, g1, g2, g3, g4, g5⟩ := rowOf_set H hxs
          obtain ⟨h1, h2, h3, h4⟩ := sl_win hx
          have hV := H.own.rowIs g2
          rw [vlen_is hV] at h3
          exact append_row H he g1 g5 g3 h2 h3 h4 hsl hrel hz
      · cases ha
    · cases ha
  · cases ha
end
def Ty.zenc : Ty → List Value
  | .list _ => [.slice none 0 0]
  | .pair a b => a.zenc ++ b.zenc
  | .rcd t => t.zenc
  | .arr n e => (List.replicate n e.zenc).flatten
  | t => t.enc t.zero
def buildSliceT (P : Program) (T : TypeId) (n : Nat) (r : Operand → AV) (parts : List (Nat × Operand)) (L : List En) (b : Nat) : Tree MR := match P.underlying T, sliceElTy P T with
  | some (.slice et), some e => match elemBy P T e, zeroOf P et with
    | some _, some (_, z) => bif Nat.blt 0 e.sz && (Nat.ble (n * e.sz) 16777216 && vsEq z.cells.toList e.zenc) then
        (bif Nat.beq n 0 then .ret (.whole b e.sz, ⟨b, b, .row e []⟩ :: L, b + 1) else
          match putElems e r (List.replicate n e.zero) parts with | some xs => .ret (.whole b e.sz, ⟨b, b, .row e xs⟩ :: L, b + 1) | none => .fail) else .fail
    | _, _ => .fail
  | _, _ => .fail
def bytesStrT (P : Program) (S T : TypeId) (x : AV) (L : List En) : Tree AV := match P.underlying S, P.underlying T with
  | some (.slice e), some .string => match P.underlying e with
    | some (.int .u8) => match rdSl L .u8 x with
      | some xs => .ret (.val .str xs)
      | none => .fail
    | _ => .fail
  | _, _ => .fail
section
variable {P : Program} {ty T U S : TypeId} {f : Fr} {w w' : World} {B : Base} {ν ν' : Nms} {b b' : Nat} {L L' : List En} {F : List Ent} {x y : Operand} {p q : AV} {r : Operand → AV}
theorem bytesStrT_ok (H : Here B ν b w L F) (hx : slotR ν b (B.Z (ents ν L ++ F)) w p (ev f x)) : Q P (.convert S T x) ty f w ν b (B.Z (ents ν L ++ F)) (bytesStrT P S T p L) := by
  intro a ha
  unfold bytesStrT at ha
  split at ha
  · rename_i e hs ht
    split at ha
    · rename_i he
      split at ha
      · rename_i xs hxs
        cases ha
        obtain ⟨cs, h1, h2⟩ := rdSl_ok (e := .u8) H hx hxs
        have h3 : cs = (Ty.arr xs.length .u8).enc xs := Ty.rel_enc (.arr xs.length .u8) rfl h2
        rw [h3] at h1
        exact o_bytesStr (l := xs) hs ht he rfl h1 ⟨rfl, sl_mk rfl rfl⟩
      · cases ha
    · cases ha
  · cases ha
theorem zenc_rel : (t : Ty) → ∀ {Z : Nat → Prop} {w : World}, t.rty.rel Z w t.zero t.zenc
  | .sint _, _, _ | .u8, _, _ | .u16, _, _ | .u32, _, _ | .u64, _, _ | .bool, _, _ | .str, _, _ | .unit, _, _ => rfl
  | .list e, _, _ => ⟨.slice none 0 0, rfl, [], Sl.nil _ _, by simp [Ty.zero], rfl, by simp [Ty.zero]⟩
  | .rcd t, _, _ => zenc_rel t
  | .pair a b, _, _ => ⟨_, _, rfl, zenc_rel a, zenc_rel b⟩
  | .arr n e, Z, w => by
    show (RV n e.rty).rel Z w (List.replicate n e.zero) (List.replicate n e.zenc).flatten
    induction n with
    | zero => exact ⟨rfl, by simp, rfl, by simp⟩
    | succ n ih =>
      have h1 : (RV 1 e.rty).rel Z w [e.zero] e.zenc := ⟨rfl, by rw [e.rty.len (zenc_rel e (Z := Z) (w := w)), Nat.one_mul], e.rty.one (zenc_rel e (Z := Z) (w := w)), fun i x hx => by
        have hi : i = 0 := by have := (List.getElem?_eq_some_iff.1 hx).1; simp at this; omega
        subst hi
        simp only [List.getElem?_cons_zero, Option.some.injEq] at hx
        subst hx
        rw [Nat.zero_mul, List.drop_zero, List.take_of_length_le (by rw [e.rty.len (zenc_rel e (Z := Z) (w := w))]; exact Nat.le_refl _)]
        exact zenc_rel e⟩
      have h2 := RV_append h1 ih
      rw [Nat.add_comm] at h2
      exact h2
theorem flat_rep {α : Type} (l : List α) (h : 0 < l.length) : ∀ n j, j < n * l.length → (List.replicate n l).flatten[j]? = l[j % l.length]?
  | 0, j, hj => by omega
  | n + 1, j, hj => by
    rw [List.replicate_succ, List.flatten_cons]
    by_cases h1 : j < l.length
    · rw [List.getElem?_append_left h1, Nat.mod_eq_of_lt h1]
    · rw [Nat.succ_mul] at hj
      rw [List.getElem?_append_right (by omega), flat_rep l h n _ (by omega), ← Nat.mod_eq_sub_mod (by omega)]
theorem o_sliceRow {K : Value → World → Prop} {w0 : World} {o : Nat → Prop} {l : List Ent} {e : Ty} {et by_ n : Nat} {cs : List Value} {parts : Array (Nat × Operand)} {vs : List (Nat × List Value)} {z : Value} (he : ElemIs P T et e.sz by_) (hz : ZeroIs P et z) (hzc : z.cells.toList = e.zenc)
    (hsm : n * e.sz ≤ 16777216) (h0 : 0 < n * e.sz) (hp : partsAre f parts.toList vs) (hf : fillL ((List.range n).map fun i => (i * e.sz, e.sz)) (List.replicate n e.zenc).flatten vs = some cs) (hl : cs.length = n * e.sz) (H : Own w0 o w l)
    (h : ∀ v w', Own w0 o w' (row e.sz v n cs :: l) → K v w') : OpW P (.buildSlice T n parts) ty f w K := by
  have hpos : 0 < e.sz := by rcases Nat.eq_zero_or_pos e.sz with h | h; · rw [h] at h0; omega
                             · exact h
  have hxm : n ≤ maxLen := by
    have : n * 1 ≤ n * e.sz := Nat.mul_le_mul_left _ hpos
    have h2 : maxLen = 9223372036854775807 := rfl
    omega
  refine .of_run (v := .slice (some ⟨w.heap.size, 0, none⟩) n n) (w' := w.alloc (.cells (cs.toArray ++ #[]) et)) ?_ (h _ _ (H.newRow cs #[] et e.sz n n hl (Nat.le_refl _) hxm (by simp)))
  have h2 := fill_wide _ _ _ (fill_of hp hf)
  have h4 : (parts.map fun (i, x) => (i, ev f x)).toList = parts.toList.map fun p => (p.1, ev f p.2) := by simp
  have hzl : z.cells.size = e.sz := by
    have := e.rty.len (zenc_rel e (Z := fun _ => True) (w := w))
    rw [← hzc, e.sz_rty] at this
    simpa using this
  have h6 : (Array.range (n * e.sz)).map (fun i => z.cells[i % z.cells.size]!) = ((List.replicate n e.zenc).flatten).toArray := by
    apply Array.ext'
    rw [← hzc, ← hzl]
    simp only [Array.toList_map, Array.toList_range]
    have hzp : 0 < z.cells.size := by omega
    clear h2 hf hp h hl hsm h0 hxm hzc hzl
    generalize z.cells = zc at hzp
    apply List.ext_getElem?
    intro j
    by_cases hj : j < n * zc.size
    · rw [List.getElem?_map, List.getElem?_range hj]
      simp only [Option.map_some]
      have hm : j % zc.size < zc.size := Nat.mod_lt _ hzp
      rw [getElem!_pos zc (j % zc.size) hm]
      have h7 := flat_rep zc.toList (by simpa using hzp) n j (by simpa using hj)
      rw [h7]
      simp [hm]
    · rw [List.getElem?_eq_none (by simp; omega), List.getElem?_eq_none (by simp; omega)]
  have hz0 : ¬ n * e.sz = 0 := by omega
  have hbig : ¬ (n * e.sz > 2 ^ 24) := by omega
  simp only [execOp, bare, Instr.buildSlice, Sem.run_bind, run_und he.und, Result.andThen_ok, he.size.run, Sem.run_ite, hbig, hz0, if_false, Sem.run_pure, hz.run, h4, h6, h2]
  simp [Go.newRow]
theorem buildSliceT_ok {n : Nat} {parts : Array (Nat × Operand)} (H : Here B ν b w L F) (hr : ∀ x, slotR ν b (B.Z (ents ν L ++ F)) w (r x) (ev f x)) (hn : n = 0 → parts = #[]) : M P (.buildSlice T n parts) ty f B ν b w L F (buildSliceT P T n r parts.toList L b) := by
  intro a L' b' ha
  unfold buildSliceT at ha
  split at ha
  · rename_i et e hu he0
    split at ha
    · rename_i by_ a0 z hb hz
      cases hc : (Nat.blt 0 e.sz && (Nat.ble (n * e.sz) 16777216 && vsEq z.cells.toList e.zenc)) <;> rw [hc] at ha
      · cases ha
      · simp only [Bool.and_eq_true] at hc
        obtain ⟨hz1, _⟩ := zeroOf_ok hz
        obtain ⟨et', he⟩ := elemBy_ok hb
        have het : et' = et := by have := he.und; rw [hu] at this; cases this; rfl
        subst het
        have hpos : 0 < e.sz := Nat.le_of_ble_eq_true hc.1
        simp only [cond_true] at ha
        cases hn0 : Nat.beq n 0 <;> rw [hn0] at ha
        · simp only [cond_false] at ha
          split at ha
          · rename_i xs hp
            cases ha
            have hnn : 0 < n := by rcases Nat.eq_zero_or_pos n with h | h; · rw [h] at hn0; cases hn0
                                   · exact h
            have h0 : (RV n e.rty).rel (B.Z (ents ν L ++ F)) w (List.replicate n e.zero) (List.replicate n e.zenc).flatten := zenc_rel (.arr n e)
            obtain ⟨vs, cs, q1, q2, q3⟩ := putElems_ok hr h0 hp
            have hl : cs.length = n * e.sz := by have := q3.2.1; rw [e.sz_rty] at this; exact this
            refine o_sliceRow he hz1 (vsEq_ok hc.2.2) (Nat.le_of_ble_eq_true hc.2.1) (Nat.mul_pos hnn hpos) q1 q2 hl H.own fun v' w' hw => ?_
            have hxl : xs.length = n := q3.1
            have hleft := H.cons (m := ⟨0, v', cs⟩) (c := .row e xs) (w' := w') (by
              show Own _ _ _ (row e.sz (updN ν b _ b).v xs.length (updN ν b _ b).cs :: _)
              rw [updN_same, hxl]; exact hw) (fun Z' h => by
                show (RV xs.length e.rty).rel _ _ _ _
                rw [hxl]
                exact (RV _ e.rty).go q3 h.mem)
            refine ⟨_, hleft, .of ⟨Nat.lt_succ_self b, v', rfl, ?_, by rw [updN_same]⟩⟩
            have hrow := hw.rowIs (k := 0) rfl
            rw [vlen_is hrow]
            exact hrow
          · cases ha
        · have hn1 := Nat.eq_of_beq_eq_true hn0
          have hp0 := hn hn1
          subst hn1
          subst hp0
          cases ha
          refine o_slice0 he H.own fun v' w' hv hw => ?_
          have hown := hw.nilRow e.sz hv
          have hleft := H.cons (m := ⟨0, v', []⟩) (c := .row e []) (w' := w') (by
            show Own _ _ _ (row e.sz (updN ν b _ b).v 0 (updN ν b _ b).cs :: _)
            rw [updN_same]; exact hown) (fun Z' h => ⟨rfl, by simp, rfl, by simp⟩)
          refine ⟨_, hleft, .of ⟨Nat.lt_succ_self b, v', rfl, ?_, by rw [updN_same]⟩⟩
          obtain ⟨a1, rfl⟩ := hv
          exact ⟨_, _, rfl, Nat.le_refl _, Nat.zero_le _, fun _ => rfl⟩
    · cases ha
  · cases ha
end
end Hyp
set_option linter.unusedVariables false
set_option linter.unusedSimpArgs false
namespace Hyp
open Go
def eqL {α : Type} (f : α → α → Bool) : List α → List α → Bool
  | [], [] => true
  | x :: xs, y :: ys => f x y && eqL f xs ys
  | _, _ => false
theorem eqL_iff {α : Type} {f : α → α → Bool} (h : ∀ x y, f x y = true ↔ x = y) : ∀ xs ys, eqL f xs ys = true ↔ xs = ys
  | [], [] => by simp [eqL]
  | x :: xs, y :: ys => by simp [eqL, h x y, eqL_iff h xs ys]
  | [], _ :: _ => by simp [eqL]
  | _ :: _, [] => by simp [eqL]
def eqV : (t : Ty) → t.den → t.den → Bool
  | .sint _, x, y => decide ((x : Int) = y)
  | .u8, x, y => decide ((x : UInt8) = y)
  | .u16, x, y => decide ((x : UInt16) = y)
  | .u32, x, y => decide ((x : UInt32) = y)
  | .u64, x, y => decide ((x : UInt64) = y)
  | .bool, x, y => decide ((x : Bool) = y)
  | .str, x, y => decide ((x : List UInt8) = y)
  | .unit, _, _ => true
  | .arr _ e, xs, ys => eqL (eqV e) xs ys
  | .pair a b, x, y => eqV a x.1 y.1 && eqV b x.2 y.2
  | .rcd t, x, y => eqV t x y
  | .list e, xs, ys => eqL (eqV e) xs ys
theorem eqV_iff : (t : Ty) → ∀ x y : t.den, eqV t x y = true ↔ x = y
  | .sint _, x, y => by simp [eqV]
  | .u8, x, y => by simp [eqV]
  | .u16, x, y => by simp [eqV]
  | .u32, x, y => by simp [eqV]
  | .u64, x, y => by simp [eqV]
  | .bool, x, y => by simp [eqV]
  | .str, x, y => by simp [eqV]
  | .unit, _, _ => by simp [eqV]
  | .arr _ e, xs, ys => eqL_iff (eqV_iff e) xs ys
  | .pair a b, x, y => by
    simp only [eqV, Bool.and_eq_true, eqV_iff a, eqV_iff b]
    exact Prod.ext_iff.symm
  | .rcd t, x, y => eqV_iff t x y
  | .list e, xs, ys => eqL_iff (eqV_iff e) xs ys
def fldOK (P : Program) (f : Field) (off : Nat) (t : Ty) : Bool := f.name != "_" && (Nat.beq f.offset off && szIs P f.type t.sz)
mutual
def cmpTy (P : Program) : Nat → TypeId → Ty → Bool
  | 0, _, _ => false
  | d + 1, T, t => match P.underlying T with
    | some .bool => (match t with | .bool => true | _ => false)
    | some .string => (match t with | .str => true | _ => false)
    | some (.int k) => (match k, t with
      | .u8, .u8 => true
      | .u16, .u16 => true
      | .u32, .u32 => true
      | .u64, .u64 => true
      | k, .sint k' => decide (k = k')
      | _, _ => false)
    | some (.array n E) => (match t with | .arr n' e => Nat.beq n n' && (szIs P E e.sz && cmpTy P d E e) | _ => false)
    | some (.struct fs) => (match t with | .rcd t => !P.stoodInHeld T && cmpFs P d fs.toList 0 t | _ => false)
    | _ => false
def cmpFs (P : Program) : Nat → List Field → Nat → Ty → Bool
  | 0, _, _, _ => false
  | d + 1, [], _, t => (match t with | .unit => true | _ => false)
  | d + 1, f :: fs, off, t => (match t with
    | .pair a b => fldOK P f off a && (cmpTy P d f.type a && cmpFs P d fs (off + a.sz) b)
    | t => (match fs with | [] => fldOK P f off t && cmpTy P d f.type t | _ => false))
end
section
variable {P : Program} {Z : Nat → Prop} {w w' : World} {t : Ty} {x y : t.den} {v u : Value}
theorem rv_agg (h : t.isAgg = true) (H : rv Z w t x v) : ∃ cs, v = .agg cs.toArray ∧ t.rty.rel Z w x cs := by unfold rv at H; rwa [if_pos h] at H
theorem rv_one (h : t.isAgg = false) (H : rv Z w t x v) : t.rty.rel Z w x [v] := by unfold rv at H; rwa [if_neg (by simp [h])] at H
theorem rv_of_agg (h : t.isAgg = true) {cs : List Value} (H : t.rty.rel Z w x cs) : rv Z w t x (.agg cs.toArray) := by unfold rv; rw [if_pos h]; exact ⟨cs, rfl, H⟩
theorem rv_of_one (h : t.isAgg = false) (H : t.rty.rel Z w x [v]) : rv Z w t x v := by unfold rv; rw [if_neg (by simp [h])]; exact H
theorem cmpTy_agg : ∀ {d : Nat} {T : TypeId} {t : Ty}, cmpTy P d T t = true → (∃ k, P.underlying T = some k ∧ (t.isAgg = true ↔ ((∃ n e, k = .array n e) ∨ ∃ fs, k = .struct fs)))
  | 0, _, _, h => by simp [cmpTy] at h
  | d + 1, T, t, h => by
    unfold cmpTy at h
    split at h
    · split at h
      · exact ⟨_, by assumption, by simp [Ty.isAgg]⟩
      · cases h
    · split at h
      · exact ⟨_, by assumption, by simp [Ty.isAgg]⟩
      · cases h
    · split at h
      · exact ⟨_, by assumption, by simp [Ty.isAgg]⟩
      · exact ⟨_, by assumption, by simp [Ty.isAgg]⟩
      · exact ⟨_, by assumption, by simp [Ty.isAgg]⟩
      · exact ⟨_, by assumption, by simp [Ty.isAgg]⟩
      · exact ⟨_, by assumption, by simp [Ty.isAgg]⟩
      · cases h
    · split at h
      · exact ⟨_, by assumption, by simp [Ty.isAgg]⟩
      · cases h
    · split at h
      · exact ⟨_, by assumption, by simp [Ty.isAgg]⟩
      · cases h
    · cases h
theorem cmpTy_flat : (∀ {d : Nat} {T : TypeId} {t : Ty}, cmpTy P d T t = true → t.flat = true) ∧ ∀ {d : Nat} {fs : List Field} {off : Nat} {t : Ty}, cmpFs P d fs off t = true → t.flat = true := by
  have key : ∀ d, (∀ (T : TypeId) (t : Ty), cmpTy P d T t = true → t.flat = true) ∧ ∀ (fs : List Field) (off : Nat) (t : Ty), cmpFs P d fs off t = true → t.flat = true := by
    intro d
    induction d with
    | zero => exact ⟨fun _ _ h => by simp [cmpTy] at h, fun _ _ _ h => by simp [cmpFs] at h⟩
    | succ d ih =>
      refine ⟨fun T t h => ?_, fun fs off t h => ?_⟩
      · unfold cmpTy at h
        split at h
        · split at h
          · rfl
          · cases h
        · split at h
          · rfl
          · cases h
        · split at h <;> first | rfl | cases h
        · split at h
          · simp only [Bool.and_eq_true] at h
            simpa only [Ty.flat] using ih.1 _ _ h.2.2
          · cases h
        · split at h
          · simp only [Bool.and_eq_true] at h
            simpa only [Ty.flat] using ih.2 _ _ _ h.2
          · cases h
        · cases h
      · cases fs with
        | nil =>
          unfold cmpFs at h
          split at h
          · rfl
          · cases h
        | cons f fs =>
          unfold cmpFs at h
          split at h
          · simp only [Bool.and_eq_true] at h
            simp only [Ty.flat, Bool.and_eq_true]
            exact ⟨ih.1 _ _ h.2.1, ih.2 _ _ _ h.2.2⟩
          · split at h
            · simp only [Bool.and_eq_true] at h; exact ih.1 _ _ h.2
            · cases h
  exact ⟨fun h => (key _).1 _ _ h, fun h => (key _).2 _ _ _ h⟩
theorem szIs_cells {T : TypeId} {s : Nat} (h : szIs P T s = true) : P.cellsOf T = s ∧ ∃ i, P.info? T = some i := by
  unfold szIs at h
  cases hi : P.info? T with
  | none => simp [hi] at h
  | some i =>
    simp only [hi, Option.map_some] at h
    exact ⟨by simp [Program.cellsOf, hi, Nat.eq_of_beq_eq_true h], i, rfl⟩
theorem part_ok {d off : Nat} {T : TypeId} {xs : Array Value} (hc : cmpTy P d T t = true) (hs : szIs P T t.sz = true) (h : t.rty.rel Z w x ((xs.toList.drop off).take t.sz)) : ∃ v, (part T xs off).run P w' = .ok v w' ∧ rv Z w t x v := by
  obtain ⟨k, hk, hagg⟩ := cmpTy_agg hc
  obtain ⟨hsz, i, hi⟩ := szIs_cells hs
  cases ha : t.isAgg
  · have hne : ¬ ((∃ n e, k = .array n e) ∨ ∃ fs, k = .struct fs) := fun hh => by have := hagg.2 hh; rw [ha] at this; cases this
    have hl := t.rty.len h
    rw [t.sz_rty] at hl
    have h1 : t.sz = 1 := by
      unfold cmpTy at hc
      cases d with
      | zero => simp [cmpTy] at hc
      | succ d => cases t <;> simp_all [Ty.sz, Ty.isAgg, cmpTy] <;> (split at hc <;> simp_all)
    obtain ⟨v, hv⟩ : ∃ v, (xs.toList.drop off).take t.sz = [v] := by
      rw [h1] at hl ⊢
      exact List.length_eq_one_iff.1 hl
    refine ⟨v, ?_, rv_of_one ha (by rw [← hv]; exact h)⟩
    have hx := getElem?_of_chunk hv
    cases k <;> simp_all [part, isAgg, run_underlying hk]
  · have hl : (xs.extract off (off + P.cellsOf T)).toList = (xs.toList.drop off).take (P.cellsOf T) := by
      rw [Array.toList_extract]
      simp [List.extract]
    refine ⟨.agg (xs.extract off (off + P.cellsOf T)), ?_, ?_⟩
    · rcases hagg.1 ha with ⟨n, e', rfl⟩ | ⟨fs, rfl⟩ <;> simp [part, isAgg, run_underlying hk, run_sizeOf w' hi]
    · have : (Value.agg (xs.extract off (off + P.cellsOf T))) = .agg ((xs.toList.drop off).take t.sz).toArray := by
        rw [← hsz, ← hl]
      rw [this]
      exact rv_of_agg ha h
theorem eqItems_ok {E : TypeId} {D s : Nat} {xs ys : Array Value} {e : Ty} : ∀ (is : List Nat) (X Y : List e.den), is.length = X.length → is.length = Y.length →
    (∀ (j i : Nat) (x y : e.den), is[j]? = some i → X[j]? = some x → Y[j]? = some y → ∃ a c, (part E xs (i * s)).run P w = .ok a w ∧ (part E ys (i * s)).run P w = .ok c w ∧ (Op.equalIn D E a c).run P w = .ok (eqV e x y) w) →
    (Op.eqItems D E s xs ys is).run P w = .ok (eqL (eqV e) X Y) w
  | [], X, Y, h1, h2, _ => by
    obtain rfl : X = [] := List.length_eq_zero_iff.1 h1.symm
    obtain rfl : Y = [] := List.length_eq_zero_iff.1 h2.symm
    simp [Op.eqItems, eqL]
  | i :: is, X, Y, h1, h2, h => by
    cases X with
    | nil => simp at h1
    | cons x X =>
      cases Y with
      | nil => simp at h2
      | cons y Y =>
        obtain ⟨a, c, p1, p2, p3⟩ := h 0 i x y rfl rfl rfl
        have ih := eqItems_ok is X Y (by simpa using h1) (by simpa using h2) fun j i x y q1 q2 q3 => h (j + 1) i x y (by simpa using q1) (by simpa using q2) (by simpa using q3)
        simp only [Op.eqItems, Sem.run_bind, p1, p2, p3, Result.andThen_ok, eqL]
        cases eqV e x y
        · simp
        · simpa using ih
theorem equalIn_ok : ∀ d : Nat, (∀ (T : TypeId) (t : Ty) (x y : t.den) (v u : Value) (D : Nat), cmpTy P d T t = true → d ≤ D → rv Z w t x v → rv Z w t y u → (Op.equalIn D T v u).run P w = .ok (eqV t x y) w) ∧
    ∀ (fs : List Field) (off : Nat) (t : Ty) (x y : t.den) (xs ys : Array Value) (D : Nat), cmpFs P d fs off t = true → d ≤ D → t.rty.rel Z w x ((xs.toList.drop off).take t.sz) → t.rty.rel Z w y ((ys.toList.drop off).take t.sz) →
      (Op.eqFields D xs ys fs).run P w = .ok (eqV t x y) w := by
  intro d
  induction d with
  | zero => exact ⟨fun _ _ _ _ _ _ _ h => by simp [cmpTy] at h, fun _ _ _ _ _ _ _ _ h => by simp [cmpFs] at h⟩
  | succ d ih =>
    have one : ∀ (f : Field) (off : Nat) (t : Ty) (x y : t.den) (xs ys : Array Value) (D : Nat), fldOK P f off t = true → cmpTy P d f.type t = true → d ≤ D → t.rty.rel Z w x ((xs.toList.drop off).take t.sz) → t.rty.rel Z w y ((ys.toList.drop off).take t.sz) →
        f.name ≠ "_" ∧ f.offset = off ∧ ∃ a c, (part f.type xs f.offset).run P w = .ok a w ∧ (part f.type ys f.offset).run P w = .ok c w ∧ (Op.equalIn D f.type a c).run P w = .ok (eqV t x y) w := by
      intro f off t x y xs ys D h1 h2 h3 h4 h5
      simp only [fldOK, Bool.and_eq_true, bne_iff_ne, ne_eq] at h1
      obtain ⟨g1, g2, g3⟩ := h1
      obtain rfl := Nat.eq_of_beq_eq_true g2
      obtain ⟨a, p1, p2⟩ := part_ok (w' := w) h2 g3 h4
      obtain ⟨c, q1, q2⟩ := part_ok (w' := w) h2 g3 h5
      exact ⟨g1, rfl, a, c, p1, q1, ih.1 _ _ _ _ _ _ _ h2 h3 p2 q2⟩
    refine ⟨fun T t x y v u D h hD hv hu => ?_, fun fs off t x y xs ys D h hD hx hy => ?_⟩
    · obtain ⟨D, rfl⟩ : ∃ D', D = D' + 1 := ⟨D - 1, by omega⟩
      have hD : d ≤ D := by omega
      unfold cmpTy at h
      split at h
      · rename_i hT
        split at h
        · have h1 := List.head_eq_of_cons_eq (show [_] = [_] from rv_one rfl hv)
          have h2 := List.head_eq_of_cons_eq (show [_] = [_] from rv_one rfl hu)
          subst h1; subst h2
          rw [run_equalIn_bool w D T _ _ hT, show (x == y) = eqV .bool x y by cases x <;> cases y <;> rfl]
        · cases h
      · rename_i hT
        split at h
        · have h1 := List.head_eq_of_cons_eq (show [_] = [_] from rv_one rfl hv)
          have h2 := List.head_eq_of_cons_eq (show [_] = [_] from rv_one rfl hu)
          subst h1; subst h2
          unfold Hyp.str
          rw [run_equalIn_string w D T _ _ hT]
          congr 1
          rw [Bool.eq_iff_iff, eqV_iff, beq_iff_eq, ByteArray.toList_eq, ByteArray.toList_eq]
        · cases h
      · rename_i k hT
        have num : ∀ {n m : Int} {r : Bool}, v = .int k n → u = .int k m → (r = true ↔ n = m) → (Op.equalIn (D + 1) T v u).run P w = .ok r w := by
          intro n m r h1 h2 h3
          subst h1; subst h2
          rw [run_equalIn_int w D T k k n m hT]
          congr 1
          rw [Bool.eq_iff_iff, h3, beq_iff_eq]
        split at h
        · exact num (List.head_eq_of_cons_eq (show [_] = [_] from rv_one rfl hv)) (List.head_eq_of_cons_eq (show [_] = [_] from rv_one rfl hu)) (by simp only [eqV, decide_eq_true_eq]; constructor <;> intro h <;> first | (subst h; rfl) | exact UInt8.toNat.inj (by omega))
        · exact num (List.head_eq_of_cons_eq (show [_] = [_] from rv_one rfl hv)) (List.head_eq_of_cons_eq (show [_] = [_] from rv_one rfl hu)) (by simp only [eqV, decide_eq_true_eq]; constructor <;> intro h <;> first | (subst h; rfl) | exact UInt16.toNat.inj (by omega))
        · exact num (List.head_eq_of_cons_eq (show [_] = [_] from rv_one rfl hv)) (List.head_eq_of_cons_eq (show [_] = [_] from rv_one rfl hu)) (by simp only [eqV, decide_eq_true_eq]; constructor <;> intro h <;> first | (subst h; rfl) | exact UInt32.toNat.inj (by omega))
        · exact num (List.head_eq_of_cons_eq (show [_] = [_] from rv_one rfl hv)) (List.head_eq_of_cons_eq (show [_] = [_] from rv_one rfl hu)) (by simp only [eqV, decide_eq_true_eq]; constructor <;> intro h <;> first | (subst h; rfl) | exact UInt64.toNat.inj (by omega))
        · simp only [decide_eq_true_eq] at h
          subst h
          exact num (List.head_eq_of_cons_eq (show [_] = [_] from rv_one rfl hv)) (List.head_eq_of_cons_eq (show [_] = [_] from rv_one rfl hu)) (by simp only [eqV, decide_eq_true_eq])
        · cases h
      · rename_i n E hT
        split at h
        · rename_i n' e
          simp only [Bool.and_eq_true] at h
          obtain ⟨h1, h2, h3⟩ := h
          obtain rfl := Nat.eq_of_beq_eq_true h1
          obtain ⟨hsz, i, hi⟩ := szIs_cells h2
          obtain ⟨cs, rfl, g1, g2, g3, g4⟩ := rv_agg rfl hv
          obtain ⟨ds, rfl, k1, k2, k3, k4⟩ := rv_agg rfl hu
          rw [run_equalIn_array w D _ _ hT hi]
          refine eqItems_ok (e := e) (List.range n) x y (by rw [List.length_range]; exact g1.symm) (by rw [List.length_range]; exact k1.symm) fun j i x' y' q1 q2 q3 => ?_
          have hji : j = i := by
            have := List.getElem?_eq_some_iff.1 q1
            obtain ⟨hlt, hh⟩ := this
            rw [List.getElem_range] at hh
            exact hh
          subst hji
          have e1 := g4 j x' q2
          have e2 := k4 j y' q3
          rw [e.sz_rty] at e1 e2
          rw [hsz]
          obtain ⟨a, p1, p2⟩ := part_ok (w' := w) (xs := cs.toArray) (off := j * e.sz) h3 h2 (by simpa using e1)
          obtain ⟨c, p3, p4⟩ := part_ok (w' := w) (xs := ds.toArray) (off := j * e.sz) h3 h2 (by simpa using e2)
          exact ⟨a, c, p1, p3, ih.1 _ _ _ _ _ _ _ h3 hD p2 p4⟩
        · cases h
      · rename_i fs hT
        split at h
        · rename_i t
          simp only [Bool.and_eq_true, Bool.not_eq_true'] at h
          obtain ⟨cs, rfl, g1⟩ := rv_agg rfl hv
          obtain ⟨ds, rfl, k1⟩ := rv_agg rfl hu
          have hfs : P.fieldsOf T = fs := by simp [Program.fieldsOf, hT]
          rw [run_equalIn_struct w D T _ _ (by rw [hfs]; exact hT) h.1, hfs]
          have hl1 := t.rty.len g1
          have hl2 := t.rty.len k1
          rw [t.sz_rty] at hl1 hl2
          have a1 : ((cs.toArray).toList.drop 0).take t.sz = cs := by rw [List.drop_zero, List.take_of_length_le (Nat.le_of_eq hl1)]
          have a2 : ((ds.toArray).toList.drop 0).take t.sz = ds := by rw [List.drop_zero, List.take_of_length_le (Nat.le_of_eq hl2)]
          exact ih.2 fs.toList 0 t x y _ _ D h.2 hD (by rw [a1]; exact g1) (by rw [a2]; exact k1)
        · cases h
      · cases h
    · cases fs with
      | nil =>
        unfold cmpFs at h
        split at h
        · simp [Op.eqFields, eqV]
        · cases h
      | cons f fs =>
        unfold cmpFs at h
        split at h
        · rename_i a b
          simp only [Bool.and_eq_true] at h
          obtain ⟨c1, c2, g0, g1, g2⟩ := hx
          obtain ⟨d1, d2, k0, k1, k2⟩ := hy
          have hc1 := a.rty.len g1
          have hd1 := a.rty.len k1
          rw [a.sz_rty] at hc1 hd1
          have hc2 := b.rty.len g2
          have hd2 := b.rty.len k2
          rw [b.sz_rty] at hc2 hd2
          have cut : ∀ {zs : List Value} {e1 e2 : List Value}, (zs.drop off).take (Ty.pair a b).sz = e1 ++ e2 → e1.length = a.sz → e2.length = b.sz → (zs.drop off).take a.sz = e1 ∧ (zs.drop (off + a.sz)).take b.sz = e2 := by
            intro zs e1 e2 h h1 h2
            have hs : (Ty.pair a b).sz = a.sz + b.sz := rfl
            rw [hs, List.take_add] at h
            have hh := List.append_inj h (by
              have h3 := congrArg List.length h
              simp only [List.length_append, List.length_take, List.length_drop] at h3 ⊢
              omega)
            rw [List.drop_drop] at hh
            exact hh
          obtain ⟨m1, m2⟩ := cut g0 hc1 hc2
          obtain ⟨n1, n2⟩ := cut k0 hd1 hd2
          obtain ⟨q1, q2, a', c', p1, p2, p3⟩ := one f off a x.1 y.1 xs ys D h.1 h.2.1 (by omega) (by rw [m1]; exact g1) (by rw [n1]; exact k1)
          have rest := ih.2 fs (off + a.sz) b x.2 y.2 xs ys D h.2.2 (by omega) (by rw [m2]; exact g2) (by rw [n2]; exact k2)
          simp only [Op.eqFields, q1, ne_eq, not_false_eq_true, if_true, Sem.run_bind, p1, p2, p3, Result.andThen_ok, eqV]
          cases eqV a x.1 y.1
          · simp
          · simpa using rest
        · split at h
          · simp only [Bool.and_eq_true] at h
            obtain ⟨q1, q2, a', c', p1, p2, p3⟩ := one f off t x y xs ys D h.1 h.2 (by omega) hx hy
            simp only [Op.eqFields, q1, ne_eq, not_false_eq_true, if_true, Sem.run_bind, p1, p2, p3, Result.andThen_ok]
            cases eqV t x y <;> simp
          · cases h
theorem equal_ok {d : Nat} {T : TypeId} (hc : cmpTy P d T t = true) (hd : d ≤ 10000) (hv : rv Z w t x v) (hu : rv Z w t y u) : (Op.equal T v u).run P w = .ok (eqV t x y) w := (equalIn_ok d).1 _ _ _ _ _ _ _ hc hd hv hu
end
end Hyp
set_option linter.unusedVariables false
set_option linter.unusedSimpArgs false
namespace Hyp
open Go
def AV.ren (φ : Nat → Nat) : AV → AV
  | .agg a => .agg (a.ren φ)
  | .pr a c => .pr (a.ren φ) (c.ren φ)
  | .tup a => .tup (a.ren φ)
  | .ptr k o => .ptr (φ k) o
  | .pel k o e N i eo => .pel (φ k) o e N i eo
  | .rowp k e i eo => .rowp (φ k) e i eo
  | .whole k s => .whole (φ k) s
  | .win k s lo n => .win (φ k) s lo n
  | .bwin k o e N lo n => .bwin (φ k) o e N lo n
  | .mpv k => .mpv (φ k)
  | .clo g a => .clo g (a.ren φ)
  | a => a
def AV.ids (p : Nat → Bool) : AV → Bool
  | .agg a => a.ids p
  | .pr a c => a.ids p && c.ids p
  | .tup a | .clo _ a => a.ids p
  | .ptr k _ | .pel k _ _ _ _ _ | .rowp k _ _ _ | .whole k _ | .win k _ _ _ | .bwin k _ _ _ _ _ | .mpv k => p k
  | _ => true
def AV.keys : AV → List Nat
  | .agg a => a.keys
  | .pr a c => a.keys ++ c.keys
  | .tup a | .clo _ a => a.keys
  | .ptr k _ | .pel k _ _ _ _ _ | .rowp k _ _ _ | .whole k _ | .win k _ _ _ | .bwin k _ _ _ _ _ | .mpv k => [k]
  | _ => []
def Cont.ren (φ : Nat → Nat) : Cont → Cont
  | .box a => .box (a.ren φ)
  | .row e xs => .row e xs
  | .mp kt vt xs => .mp kt vt xs
  | .it mk mv kt vt xs => .it (φ mk) (φ mv) kt vt xs
  | .itc mk mv kt vt kx vx xs => .itc (φ mk) (φ mv) kt vt kx vx xs
def Cont.ids (p : Nat → Bool) : Cont → Bool
  | .box a => a.ids p
  | .row _ _ | .mp _ _ _ => true
  | .it mk mv _ _ _ | .itc mk mv _ _ _ _ _ => p mk && p mv
def Cont.keys : Cont → List Nat
  | .box a => a.keys
  | .row _ _ | .mp _ _ _ => []
  | .it mk _ _ _ _ | .itc mk _ _ _ _ _ _ => [mk]
def En.ren (φ : Nat → Nat) (e : En) : En := ⟨φ e.key, φ e.vid, e.c.ren φ⟩
def En.ids (p : Nat → Bool) (e : En) : Bool := p e.key && (p e.vid && e.c.ids p)
theorem AV.ren_agg (φ : Nat → Nat) : ∀ a : AV, (a.ren φ).isAgg = a.isAgg
  | .agg _ | .pr _ _ | .tup _ | .ptr _ _ | .pel _ _ _ _ _ _ | .rowp _ _ _ _ | .whole _ _ | .win _ _ _ _ | .bwin _ _ _ _ _ _ | .any | .und | .tt | .ff | .un | .nil | .mnil | .fnil | .snil _ | .val _ _ | .rop _ _ _ _ _ | .ro _ _ _ | .mpv _ | .clo _ _ => rfl
section
variable {ν ν' : Nms} {b b' : Nat} {Z : Nat → Prop} {w : World} {p : Nat → Bool} {φ : Nat → Nat}
theorem avC.ren (h : ∀ i, i < b → p i = true → φ i < b' ∧ ν' (φ i) = ν i) : ∀ {a : AV} {cs : List Value}, a.ids p = true → avC ν b Z w a cs → avC ν' b' Z w (a.ren φ) cs
  | .any, _, _, H | .und, _, _, H | .tup _, _, _, H => H.elim
  | .tt, _, _, H | .ff, _, _, H | .un, _, _, H | .nil, _, _, H | .mnil, _, _, H | .fnil, _, _, H | .snil _, _, _, H => H
  | .val t x, _, _, H => H
  | .agg a, _, hi, H => avC.ren h (a := a) hi H
  | .pr a c, _, hi, ⟨c1, c2, h0, h1, h2⟩ => by
    simp only [AV.ids, Bool.and_eq_true] at hi
    exact ⟨c1, c2, h0, avC.ren h hi.1 h1, avC.ren h hi.2 h2⟩
  | .ptr k _, _, hi, H => ⟨(h k H.1 hi).1, by rw [(h k H.1 hi).2]; exact H.2⟩
  | .pel k _ _ _ _ _, _, hi, H => ⟨(h k H.1 hi).1, by rw [(h k H.1 hi).2]; exact H.2⟩
  | .rowp k _ _ _, _, hi, H => ⟨(h k H.1 hi).1, by rw [(h k H.1 hi).2]; exact H.2⟩
  | .rop _ _ _ _ _, _, _, H => H
  | .whole k _, _, hi, H => ⟨(h k H.1 hi).1, by rw [(h k H.1 hi).2]; exact H.2⟩
  | .win k _ _ _, _, hi, H => ⟨(h k H.1 hi).1, by rw [(h k H.1 hi).2]; exact H.2⟩
  | .bwin k _ _ _ _ _, _, hi, H => ⟨(h k H.1 hi).1, by rw [(h k H.1 hi).2]; exact H.2⟩
  | .ro _ _ _, _, _, H => H
  | .mpv k, _, hi, H => ⟨(h k H.1 hi).1, by rw [(h k H.1 hi).2]; exact H.2⟩
  | .clo _ a, _, hi, ⟨vs, h0, h1⟩ => ⟨vs, h0, avC.ren h (a := a) hi h1⟩
theorem avV.ren (h : ∀ i, i < b → p i = true → φ i < b' ∧ ν' (φ i) = ν i) {a : AV} {v : Value} (hi : a.ids p = true) (H : avV ν b Z w a v) : avV ν' b' Z w (a.ren φ) v := by
  unfold avV at *
  rw [AV.ren_agg]
  split
  · rename_i ha
    rw [if_pos ha] at H
    obtain ⟨cs, h1, h2⟩ := H
    exact ⟨cs, h1, h2.ren h hi⟩
  · rename_i ha
    rw [if_neg ha] at H
    exact H.ren h hi
theorem avT.ren (h : ∀ i, i < b → p i = true → φ i < b' ∧ ν' (φ i) = ν i) : ∀ {a : AV} {vs : List Value}, a.ids p = true → avT ν b Z w a vs → avT ν' b' Z w (a.ren φ) vs
  | .un, _, _, H => H
  | .pr _ _, _, hi, ⟨v, vs', h0, h1, h2⟩ => by
    simp only [AV.ids, Bool.and_eq_true] at hi
    exact ⟨v, vs', h0, h1.ren h hi.1, avT.ren h hi.2 h2⟩
  | .any, _, _, H | .und, _, _, H | .tup _, _, _, H | .tt, _, _, H | .ff, _, _, H | .nil, _, _, H | .mnil, _, _, H | .fnil, _, _, H | .snil _, _, _, H | .val _ _, _, _, H | .agg _, _, _, H | .ptr _ _, _, _, H | .pel _ _ _ _ _ _, _, _, H | .rowp _ _ _ _, _, _, H | .rop _ _ _ _ _, _, _, H
  | .whole _ _, _, _, H | .win _ _ _ _, _, _, H | .bwin _ _ _ _ _ _, _, _, H | .ro _ _ _, _, _, H | .mpv _, _, _, H | .clo _ _, _, _, H => H.elim
theorem slotR.ren (h : ∀ i, i < b → p i = true → φ i < b' ∧ ν' (φ i) = ν i) {a : AV} {v : Value} (hi : a.ids p = true) (H : slotR ν b Z w a v) : slotR ν' b' Z w (a.ren φ) v := by
  unfold slotR at H
  split at H
  · trivial
  · exact H
  · obtain ⟨vs, h0, h1⟩ := H; exact ⟨vs, h0, h1.ren h hi⟩
  · exact .of (avV.ren h hi H)
theorem contF.ren (h : ∀ i, i < b → p i = true → φ i < b' ∧ ν' (φ i) = ν i) {c : Cont} {cs : List Value} (hi : c.ids p = true) (H : contF ν b Z w c cs) : contF ν' b' Z w (c.ren φ) cs := by
  cases c with
  | box a => exact avC.ren h hi H
  | row e xs => exact H
  | mp kt vt xs => exact H
  | it mk mv kt vt xs =>
    obtain ⟨h1, h2, h3⟩ := H
    simp only [Cont.ids, Bool.and_eq_true] at hi
    exact ⟨(h _ h1 hi.1).1, (h _ h2 hi.2).1, by rw [(h _ h1 hi.1).2, (h _ h2 hi.2).2]; exact h3⟩
  | itc mk mv kt vt kx vx xs =>
    obtain ⟨h1, h2, h3⟩ := H
    simp only [Cont.ids, Bool.and_eq_true] at hi
    exact ⟨(h _ h1 hi.1).1, (h _ h2 hi.2).1, by rw [(h _ h1 hi.1).2, (h _ h2 hi.2).2]; exact h3⟩
theorem enF.ren (h : ∀ i, i < b → p i = true → φ i < b' ∧ ν' (φ i) = ν i) {e : En} (hi : e.ids p = true) (H : enF ν b Z w e) : enF ν' b' Z w (e.ren φ) := by
  simp only [En.ids, Bool.and_eq_true] at hi
  obtain ⟨h1, h2, h3⟩ := H
  refine ⟨(h _ h1 hi.1).1, (h _ h2 hi.2.1).1, ?_⟩
  show contF ν' b' Z w (e.c.ren φ) (ν' (φ e.vid)).cs
  rw [(h _ h2 hi.2.1).2]
  exact h3.ren h hi.2.2
theorem entOf_ren (h : ∀ i, i < b → p i = true → φ i < b' ∧ ν' (φ i) = ν i) {e : En} (hi : e.ids p = true) (h1 : e.key < b) (h2 : e.vid < b) : entOf ν' (e.ren φ) = entOf ν e := by
  simp only [En.ids, Bool.and_eq_true] at hi
  unfold entOf En.ren
  simp only [(h _ h1 hi.1).2, (h _ h2 hi.2.1).2]
  cases e.c <;> rfl
end
def takeE : List En → Nat → Option (En × List En)
  | [], _ => none
  | e :: l, k => bif Nat.beq e.key k then some (e, l) else (takeE l k).map fun p => (p.1, e :: p.2)
def grab : Nat → List Nat → List En → List En × List En
  | 0, _, L => ([], L)
  | _ + 1, [], L => ([], L)
  | n + 1, k :: ks, L => match takeE L k with
    | some (e, L') => match grab n (e.c.keys ++ ks) L' with | (t, r) => (e :: t, r)
    | none => grab n ks L
theorem takeE_perm : ∀ {L : List En} {k : Nat} {e : En} {L' : List En}, takeE L k = some (e, L') → L.Perm (e :: L')
  | [], _, _, _, h => by cases h
  | x :: l, k, e, L', h => by
    unfold takeE at h
    cases hc : Nat.beq x.key k <;> rw [hc] at h
    · simp only [cond_false, Option.map_eq_some_iff] at h
      obtain ⟨⟨e', l'⟩, h1, h2⟩ := h
      cases h2
      exact (List.Perm.cons x (takeE_perm h1)).trans (List.Perm.swap _ _ _)
    · cases h
      exact .refl _
theorem grab_perm : ∀ (n : Nat) (ks : List Nat) (L : List En), L.Perm ((grab n ks L).1 ++ (grab n ks L).2)
  | 0, _, L => .refl _
  | _ + 1, [], L => .refl _
  | n + 1, k :: ks, L => by
    unfold grab
    split
    · rename_i e L' h
      have ih := grab_perm n (e.c.keys ++ ks) L'
      exact (takeE_perm h).trans (List.Perm.cons e ih)
    · exact grab_perm n ks L
def enIds : List En → List Nat
  | [] => []
  | e :: l => e.key :: e.vid :: enIds l
def idxOf (ks : List Nat) (k : Nat) : Nat := match ks with
  | [] => 0
  | x :: l => bif Nat.beq x k then 0 else idxOf l k + 1
def memN (ks : List Nat) (k : Nat) : Bool := match ks with
  | [] => false
  | x :: l => Nat.beq x k || memN l k
def nthN (ks : List Nat) (i : Nat) : Nat := match ks, i with
  | [], _ => 0
  | x :: _, 0 => x
  | _ :: l, i + 1 => nthN l i
def backN (ks : List Nat) (b i : Nat) : Nat := bif Nat.blt i ks.length then nthN ks i else b + (i - ks.length)
theorem nthN_mem : ∀ {ks : List Nat} {i : Nat}, i < ks.length → nthN ks i ∈ ks
  | [], _, h => by simp at h
  | x :: l, 0, _ => by simp [nthN]
  | x :: l, i + 1, h => by
    have := nthN_mem (ks := l) (i := i) (by simpa using h)
    simp only [nthN, List.mem_cons]
    exact .inr this
theorem enIds_lt {B : Base} {ν : Nms} {b : Nat} {w : World} {L1 : List En} {F : List Ent} (H : ∀ e ∈ L1, enF ν b (B.Z F) w e) : ∀ k ∈ enIds L1, k < b := by
  induction L1 with
  | nil => simp [enIds]
  | cons e l ih =>
    intro k hk
    simp only [enIds, List.mem_cons] at hk
    have he := H e (by simp)
    rcases hk with rfl | rfl | hk
    · exact he.1
    · exact he.2.1
    · exact ih (fun x hx => H x (by simp [hx])) k hk
section
variable {B : Base} {ν ν' : Nms} {b b' : Nat} {w w' : World} {L L' L1 L2 : List En} {F : List Ent}
theorem footU_perm {l l' : List Ent} (h : l.Perm l') (x : Nat) : footU l x ↔ footU l' x := by
  simp only [footU]
  exact ⟨fun ⟨e, he, hf⟩ => ⟨e, h.mem_iff.1 he, hf⟩, fun ⟨e, he, hf⟩ => ⟨e, h.mem_iff.2 he, hf⟩⟩
theorem Z_perm {l l' : List Ent} (h : l.Perm l') : B.Z l = B.Z l' := by
  funext x
  simp only [Base.Z, TT, footU_perm h]
def keysL : List En → List Nat
  | [] => []
  | e :: l => e.key :: keysL l
def vidsL : List En → List Nat
  | [] => []
  | e :: l => e.vid :: vidsL l
def memK (l : List En) (k : Nat) : Bool := memN (keysL l) k || memN (vidsL l) k
def nthE : List En → Nat → Option En
  | [], _ => none
  | e :: _, 0 => some e
  | _ :: l, i + 1 => nthE l i
def keepV (b0 : Nat) (e : En) : Bool := match e.c with
  | .mp _ _ _ => Nat.blt e.vid b0
  | _ => false
theorem keepV_lt {b0 : Nat} {e : En} (h : keepV b0 e = true) : e.vid < b0 := by
  unfold keepV at h
  split at h
  · exact Nat.le_of_ble_eq_true h
  · cases h
def number (b0 : Nat) (φ : Nat → Nat) (keep kpv : En → Bool) : Nat → List En → List En
  | _, [] => []
  | i, e :: l => ⟨bif keep e then e.key else b0 + 2 * i, bif kpv e then e.vid else b0 + 2 * i + 1, e.c.ren φ⟩ :: number b0 φ keep kpv (i + 1) l
def newKey (b0 : Nat) (keep kpv : En → Bool) (l : List En) (k : Nat) : Nat := match nthE l (idxOf (keysL l) k) with
  | some e => bif keep e then e.key else b0 + 2 * idxOf (keysL l) k
  | none => match nthE l (idxOf (vidsL l) k) with
    | some e => bif kpv e then e.vid else b0 + 2 * idxOf (vidsL l) k + 1
    | none => b0 + 2 * idxOf (vidsL l) k + 1
def enKeys (p : Nat → Bool) : List En → Bool
  | [] => true
  | e :: l => e.c.ids p && enKeys p l
theorem enIds_len : ∀ l : List En, (enIds l).length = 2 * l.length
  | [] => rfl
  | e :: l => by simp only [enIds, List.length_cons, enIds_len l]; omega
theorem enIds_at : ∀ {l : List En} {i : Nat} {e : En}, nthE l i = some e → nthN (enIds l) (2 * i) = e.key ∧ nthN (enIds l) (2 * i + 1) = e.vid ∧ i < l.length
  | [], _, _, h => by cases h
  | x :: l, 0, e, h => by cases h; exact ⟨rfl, rfl, by simp⟩
  | x :: l, i + 1, e, h => by
    obtain ⟨h1, h2, h3⟩ := enIds_at (l := l) (i := i) h
    have e1 : 2 * (i + 1) = 2 * i + 1 + 1 := by omega
    rw [e1]
    exact ⟨h1, h2, by simp; omega⟩
theorem keys_at : ∀ {l : List En} {k : Nat}, memN (keysL l) k = true → ∃ e, nthE l (idxOf (keysL l) k) = some e ∧ e.key = k
  | [], _, h => by cases h
  | x :: l, k, h => by
    unfold keysL memN at h
    unfold keysL idxOf
    cases hc : Nat.beq x.key k <;> rw [hc] at h
    · simp only [Bool.false_or] at h
      obtain ⟨e, h1, h2⟩ := keys_at h
      exact ⟨e, h1, h2⟩
    · exact ⟨x, rfl, Nat.eq_of_beq_eq_true hc⟩
theorem vids_at : ∀ {l : List En} {k : Nat}, memN (vidsL l) k = true → ∃ e, nthE l (idxOf (vidsL l) k) = some e ∧ e.vid = k
  | [], _, h => by cases h
  | x :: l, k, h => by
    unfold vidsL memN at h
    unfold vidsL idxOf
    cases hc : Nat.beq x.vid k <;> rw [hc] at h
    · simp only [Bool.false_or] at h
      obtain ⟨e, h1, h2⟩ := vids_at h
      exact ⟨e, h1, h2⟩
    · exact ⟨x, rfl, Nat.eq_of_beq_eq_true hc⟩
theorem keys_no : ∀ {l : List En} {k : Nat}, memN (keysL l) k = false → nthE l (idxOf (keysL l) k) = none
  | [], _, h => rfl
  | x :: l, k, h => by
    unfold keysL memN at h
    simp only [Bool.or_eq_false_iff] at h
    unfold keysL idxOf
    rw [h.1]
    exact keys_no h.2
def numN (ν : Nms) (b0 : Nat) (l : List En) : Nms := fun j => if j < b0 then ν j else ν (nthN (enIds l) (j - b0))
theorem numN_key {l : List En} {i : Nat} {e : En} {b0 : Nat} (h : nthE l i = some e) : numN ν b0 l (b0 + 2 * i) = ν e.key ∧ numN ν b0 l (b0 + 2 * i + 1) = ν e.vid := by
  obtain ⟨h1, h2, _⟩ := enIds_at h
  unfold numN
  rw [if_neg (by omega), if_neg (by omega), show b0 + 2 * i - b0 = 2 * i by omega, show b0 + 2 * i + 1 - b0 = 2 * i + 1 by omega, h1, h2]
  exact ⟨rfl, rfl⟩
theorem newKey_ok {keep kpv : En → Bool} {b0 : Nat} {l : List En} (hkeep : ∀ e, keep e = true → e.key < b0) (hkpv : ∀ e, kpv e = true → e.vid < b0) {k : Nat} (h : memK l k = true) :
    newKey b0 keep kpv l k < b0 + 2 * l.length ∧ numN ν b0 l (newKey b0 keep kpv l k) = ν k := by
  cases hkk : memN (keysL l) k
  · have hv : memN (vidsL l) k = true := by unfold memK at h; rw [hkk] at h; simpa using h
    obtain ⟨e, h1, h2⟩ := vids_at hv
    obtain ⟨_, _, h3⟩ := enIds_at h1
    unfold newKey
    rw [keys_no hkk, h1]
    simp only
    cases hv : kpv e
    · exact ⟨by simp only [cond_false]; omega, by simp only [cond_false]; rw [(numN_key h1).2, h2]⟩
    · have := hkpv e hv
      exact ⟨by simp only [cond_true]; omega, by simp only [cond_true]; unfold numN; rw [if_pos this, h2]⟩
  replace h := hkk
  obtain ⟨e, h1, h2⟩ := keys_at h
  obtain ⟨_, _, h3⟩ := enIds_at h1
  unfold newKey
  rw [h1]
  simp only
  cases hk : keep e
  · simp only [cond_false]
    exact ⟨by omega, by rw [(numN_key h1).1, h2]⟩
  · simp only [cond_true]
    have := hkeep e hk
    exact ⟨by omega, by unfold numN; rw [if_pos this, h2]⟩
theorem number_ok {ν2 : Nms} {b2 : Nat} {Z : Nat → Prop} {φ : Nat → Nat} {p : Nat → Bool} {keep kpv : En → Bool} {b0 : Nat} (hφ : ∀ k, k < b → p k = true → φ k < b2 ∧ ν2 (φ k) = ν k) (hlow : ∀ k, k < b0 → k < b2 ∧ ν2 k = ν k) (hkpv : ∀ e, kpv e = true → e.vid < b0) : ∀ (l : List En) (i : Nat), (∀ e ∈ l, enF ν b Z w e) → enKeys p l = true →
    (∀ e ∈ l, keep e = true → e.key < b2 ∧ ν2 e.key = ν e.key) → (∀ j e, nthE l j = some e → ν2 (b0 + 2 * (i + j)) = ν e.key ∧ ν2 (b0 + 2 * (i + j) + 1) = ν e.vid ∧ b0 + 2 * (i + j) + 1 < b2) →
    ents ν2 (number b0 φ keep kpv i l) = ents ν l ∧ ∀ e ∈ number b0 φ keep kpv i l, enF ν2 b2 Z w e
  | [], i, _, _, _, _ => ⟨rfl, by simp [number]⟩
  | e :: l, i, hf, hp, hk, hn => by
    simp only [enKeys, Bool.and_eq_true] at hp
    obtain ⟨h1, h2⟩ := number_ok hφ hlow hkpv l (i + 1) (fun x hx => hf x (by simp [hx])) hp.2 (fun x hx => hk x (by simp [hx])) (fun j x hx => by
      have := hn (j + 1) x hx
      rw [show i + 1 + j = i + (j + 1) by omega]
      exact this)
    have h0 := hn 0 e rfl
    rw [Nat.add_zero] at h0
    have hfe := hf e (by simp)
    have hkey : (bif keep e then e.key else b0 + 2 * i) < b2 ∧ ν2 (bif keep e then e.key else b0 + 2 * i) = ν e.key := by
      cases hke : keep e
      · exact ⟨by simp only [cond_false]; omega, h0.1⟩
      · exact hk e (by simp) hke
    have hvid : (bif kpv e then e.vid else b0 + 2 * i + 1) < b2 ∧ ν2 (bif kpv e then e.vid else b0 + 2 * i + 1) = ν e.vid := by
      cases hke : kpv e
      · exact ⟨h0.2.2, h0.2.1⟩
      · exact hlow _ (hkpv e hke)
    refine ⟨?_, ?_⟩
    · show entOf ν2 _ :: ents ν2 (number b0 φ keep kpv (i + 1) l) = entOf ν e :: ents ν l
      rw [h1]
      congr 1
      unfold entOf
      simp only [hkey.2, hvid.2]
      cases e.c <;> rfl
    · intro x hx
      simp only [number, List.mem_cons] at hx
      rcases hx with rfl | hx
      · refine ⟨hkey.1, hvid.1, ?_⟩
        show contF ν2 b2 Z w (e.c.ren φ) (ν2 (bif kpv e then e.vid else b0 + 2 * i + 1)).cs
        rw [hvid.2]
        exact hfe.2.2.ren hφ hp.1
      · exact h2 x hx
def noKeep : En → Bool := fun _ => false
def partE (L1 : List En) : List En := number 0 (newKey 0 noKeep noKeep L1) noKeep noKeep 0 L1
theorem part_names (H : Here B ν b w L F) (hm : ∀ e ∈ L1, e ∈ L) (hi : enKeys (memK L1) L1 = true) {Z : Nat → Prop} (hz : Z = B.Z (ents ν L ++ F)) :
    (∀ k, k < b → memK L1 k = true → newKey 0 noKeep noKeep L1 k < 2 * L1.length ∧ numN ν 0 L1 (newKey 0 noKeep noKeep L1 k) = ν k) ∧
    ents (numN ν 0 L1) (partE L1) = ents ν L1 ∧ ∀ e ∈ partE L1, enF (numN ν 0 L1) (2 * L1.length) Z w e := by
  have hφ : ∀ k, k < b → memK L1 k = true → newKey 0 noKeep noKeep L1 k < 2 * L1.length ∧ numN ν 0 L1 (newKey 0 noKeep noKeep L1 k) = ν k := by
    intro k _ hk
    have := newKey_ok (ν := ν) (keep := noKeep) (kpv := noKeep) (b0 := 0) (l := L1) (fun e h => by cases h) (fun e h => by cases h) hk
    rwa [Nat.zero_add] at this
  refine ⟨hφ, number_ok hφ (fun k hk => absurd hk (Nat.not_lt_zero _)) (fun e h => by cases h) L1 0 (fun e he => by rw [hz]; exact H.fact e (hm e he)) hi (fun e _ h => by cases h) fun j e hj => ?_⟩
  obtain ⟨h1, h2⟩ := numN_key (ν := ν) (b0 := 0) hj
  obtain ⟨_, _, h3⟩ := enIds_at hj
  rw [Nat.zero_add j]
  exact ⟨h1, h2, by omega⟩
theorem Here.part (H : Here B ν b w L F) (hp : L.Perm (L1 ++ L2)) (hi : enKeys (memK L1) L1 = true) :
    Here B (numN ν 0 L1) (2 * L1.length) w (partE L1) (ents ν L2 ++ F) ∧ B.Z (ents (numN ν 0 L1) (partE L1) ++ (ents ν L2 ++ F)) = B.Z (ents ν L ++ F) := by
  have hmem : ∀ e ∈ L1, e ∈ L := fun e he => hp.mem_iff.2 (List.mem_append_left _ he)
  obtain ⟨_, hents, hfact⟩ := part_names H hmem hi rfl
  have hperm : (ents ν L ++ F).Perm (ents ν L1 ++ (ents ν L2 ++ F)) := by
    rw [← List.append_assoc, ← List.map_append]
    exact (hp.map _).append_right F
  rw [hents]
  have hz := Z_perm (B := B) hperm
  refine ⟨⟨?_, ?_, by rw [hents, ← hz]; exact H.glb⟩, hz.symm⟩
  · rw [hents]
    have h1 := H.own.perm hperm
    exact h1.fresh
  · rw [hents, ← hz]
    exact hfact
theorem Left.whole {νc : Nms} {b1 : Nat} {Lc : List En} (H : Here B ν b w L F) (hp : L.Perm (L1 ++ L2)) (hi : enKeys (memK L1) L1 = true)
    (h : Left B (numN ν 0 L1) (2 * L1.length) w (partE L1) (ents ν L2 ++ F) νc b1 w' Lc) :
    ∃ ν', Left B ν b w L F ν' (b + (b1 - 2 * L1.length)) w' (Lc.map (En.ren (backN (enIds L1) b)) ++ L2) ∧
      B.Z (ents νc Lc ++ (ents ν L2 ++ F)) = B.Z (ents ν' (Lc.map (En.ren (backN (enIds L1) b)) ++ L2) ++ F) ∧
      ∀ i, i < b1 → True → backN (enIds L1) b i < b + (b1 - 2 * L1.length) ∧ ν' (backN (enIds L1) b i) = νc i := by
  have hmem : ∀ e ∈ L1, e ∈ L := fun e he => hp.mem_iff.2 (List.mem_append_left _ he)
  have hmem2 : ∀ e ∈ L2, e ∈ L := fun e he => hp.mem_iff.2 (List.mem_append_right _ he)
  have hlt := enIds_lt (B := B) (F := ents ν L ++ F) fun e he => H.fact e (hmem e he)
  have hidl := enIds_len L1
  refine ⟨fun k => if k < b then ν k else νc (2 * L1.length + (k - b)), ?_⟩
  have hle := h.le
  have hback : ∀ i, i < b1 → True → backN (enIds L1) b i < b + (b1 - 2 * L1.length) ∧ (fun k => if k < b then ν k else νc (2 * L1.length + (k - b))) (backN (enIds L1) b i) = νc i := by
    intro i hi1 _
    unfold backN
    cases hc : Nat.blt i (enIds L1).length
    · have hge : (enIds L1).length ≤ i := by
        rcases Nat.lt_or_ge i (enIds L1).length with h3 | h3
        · have : Nat.blt i (enIds L1).length = true := Nat.ble_eq_true_of_le h3
          rw [this] at hc; cases hc
        · exact h3
      simp only [cond_false]
      rw [if_neg (by omega)]
      exact ⟨by omega, by congr 1; omega⟩
    · have hlt2 : i < (enIds L1).length := Nat.le_of_ble_eq_true hc
      simp only [cond_true]
      have h4 := hlt _ (nthN_mem hlt2)
      rw [if_pos h4]
      refine ⟨by omega, ?_⟩
      rw [h.nms i (by omega)]
      unfold numN
      rw [if_neg (by omega), Nat.sub_zero]
  have hn : ∀ k, k < b → (fun k => if k < b then ν k else νc (2 * L1.length + (k - b))) k = ν k := fun k hk => if_pos hk
  have hents2 : ents (fun k => if k < b then ν k else νc (2 * L1.length + (k - b))) L2 = ents ν L2 := List.map_congr_left fun e he => entOf_congr hn (H.fact e (hmem2 e he)).1 (H.fact e (hmem2 e he)).2.1
  have hback' : ∀ i, i < b1 → (fun _ => true) i = true → backN (enIds L1) b i < b + (b1 - 2 * L1.length) ∧ (fun k => if k < b then ν k else νc (2 * L1.length + (k - b))) (backN (enIds L1) b i) = νc i := fun i hi _ => hback i hi trivial
  have hall : ∀ a : AV, a.ids (fun _ => true) = true := by
    intro a
    induction a with
    | agg a ih => exact ih
    | pr a c h1 h2 => simp only [AV.ids, h1, h2, Bool.and_self]
    | tup a ih => exact ih
    | clo g a ih => exact ih
    | _ => rfl
  have halle : ∀ e : En, e.ids (fun _ => true) = true := by
    rintro ⟨k, v, c⟩
    cases c with
    | box a => simp only [En.ids, Cont.ids, hall a, Bool.and_self]
    | row e xs => rfl
    | mp kt vt xs => rfl
    | it mk mv kt vt xs => rfl
    | itc mk mv kt vt kx vx xs => rfl
  have hentsc : ents (fun k => if k < b then ν k else νc (2 * L1.length + (k - b))) (Lc.map (En.ren (backN (enIds L1) b))) = ents νc Lc := by
    show (Lc.map _).map _ = Lc.map _
    rw [List.map_map]
    refine List.map_congr_left fun e he => ?_
    have hf := h.fact e he
    exact entOf_ren hback' (halle e) hf.1 hf.2.1
  have hperm : (ents ν L ++ F).Perm (ents ν L1 ++ (ents ν L2 ++ F)) := by
    rw [← List.append_assoc, ← List.map_append]
    exact (hp.map _).append_right F
  have hents1 := (part_names H hmem hi rfl).2.1
  have hcat : ents (fun k => if k < b then ν k else νc (2 * L1.length + (k - b))) (Lc.map (En.ren (backN (enIds L1) b)) ++ L2) ++ F = ents νc Lc ++ (ents ν L2 ++ F) := by
    show (Lc.map _ ++ L2).map _ ++ F = _
    rw [List.map_append, ← List.append_assoc]
    show ents _ (Lc.map _) ++ ents _ L2 ++ F = _
    rw [hentsc, hents2]
  have hzz : B.Z (ents νc Lc ++ (ents ν L2 ++ F)) = B.Z (ents (fun k => if k < b then ν k else νc (2 * L1.length + (k - b))) (Lc.map (En.ren (backN (enIds L1) b)) ++ L2) ++ F) := by rw [hcat]
  have hown : Own w (footU (ents ν L ++ F)) w' (ents (fun k => if k < b then ν k else νc (2 * L1.length + (k - b))) (Lc.map (En.ren (backN (enIds L1) b)) ++ L2) ++ F) := by
    rw [hcat]
    have h2 := h.own
    rw [hents1] at h2
    exact h2.wider fun x hx => (footU_perm hperm x).2 hx
  refine ⟨⟨hn, by omega, hown, ?_, gnow hown H.glb⟩, hzz, hback⟩
  intro e he
  rw [← hzz]
  rcases List.mem_append.1 he with he | he
  · obtain ⟨e0, he0, rfl⟩ := List.mem_map.1 he
    exact (h.fact e0 he0).ren hback' (halle e0)
  · have hl : Later ν (fun k => if k < b then ν k else νc (2 * L1.length + (k - b))) b (b + (b1 - 2 * L1.length)) (B.Z (ents ν L ++ F)) (B.Z (ents νc Lc ++ (ents ν L2 ++ F))) w w' :=
      ⟨hn, by omega, fun x hx hz => by rw [hzz]; exact TT.now hown hx hz⟩
    exact (H.fact e (hmem2 e he)).later hl
end
end Hyp
set_option linter.unusedVariables false
set_option linter.unusedSimpArgs false
namespace Hyp
open Go
def slotsR (ν : Nms) (b : Nat) (Z : Nat → Prop) (w : World) : List AV → List Value → Prop
  | [], [] => True
  | a :: l, v :: vs => slotR ν b Z w a v ∧ slotsR ν b Z w l vs
  | _, _ => False
abbrev Summ := List AV → List En → Nat → Tree MR
def GivesR (B : Base) (ν : Nms) (b : Nat) (w : World) (L : List En) (F : List Ent) (R : MR → Prop) (v : Value) (w' : World) : Prop := ∃ r, R r ∧ Gives B ν b w L F r.2.2 r.2.1 r.1 v w'
def M' (P : Program) (op : Op) (ty : TypeId) (f : Fr) (B : Base) (ν : Nms) (b : Nat) (w : World) (L : List En) (F : List Ent) (t : Tree MR) : Prop :=
  ∀ R, t.Runs R → OpW P op ty f w (GivesR B ν b w L F R)
theorem M.m' {P : Program} {op : Op} {ty : TypeId} {f : Fr} {B : Base} {ν : Nms} {b : Nat} {w : World} {L : List En} {F : List Ent} {t : Tree MR} (h : M P op ty f B ν b w L F t) (hd : t.Det) : M' P op ty f B ν b w L F t := by
  intro R hr
  obtain ⟨⟨a, L', b'⟩, h1, h2⟩ := hd.runs hr
  exact (h a L' b' h1).mono fun v w' hg => ⟨_, h2, hg⟩
theorem M'.m {P : Program} {op : Op} {ty : TypeId} {f : Fr} {B : Base} {ν : Nms} {b : Nat} {w : World} {L : List En} {F : List Ent} {t : Tree MR} (h : M' P op ty f B ν b w L F t) : M P op ty f B ν b w L F t := by
  intro a L' b' hr
  exact (h _ (.of hr)).mono fun v w' ⟨r, h1, h2⟩ => by subst h1; exact h2
def SoundF (P : Program) (g : FuncId) (S : Summ) : Prop := ∀ avs L b R, (S avs L b).Runs R → ∀ (B : Base) (ν : Nms) (w : World) (F : List Ent) (vs : List Value),
  Here B ν b w L F → slotsR ν b (B.Z (ents ν L ++ F)) w avs vs → Calls P g vs.toArray w (Ret (GivesR B ν b w L F R))
def allIds (p : Nat → Bool) : List AV → Bool
  | [] => true
  | a :: l => a.ids p && allIds p l
def enAll (p : Nat → Bool) : List En → Bool
  | [] => true
  | e :: l => e.ids p && enAll p l
def keysOf : List AV → List Nat
  | [] => []
  | a :: l => a.keys ++ keysOf l
def callT (S : Summ) (avs : List AV) (L : List En) (b : Nat) : Tree MR := match grab 1000 (keysOf avs) L with
  | (L1, L2) => bif allIds (memK L1) avs && enKeys (memK L1) L1 then
      (S (avs.map (AV.ren (newKey 0 noKeep noKeep L1))) (partE L1) (2 * L1.length)).bind fun r =>
        .ret (r.1.ren (backN (enIds L1) b), r.2.1.map (En.ren (backN (enIds L1) b)) ++ L2, b + (r.2.2 - 2 * L1.length)) else .fail
def AV.noRo : AV → Bool
  | .val t _ => t.flat
  | .agg a | .tup a | .clo _ a => a.noRo
  | .pr a c => a.noRo && c.noRo
  | .ro _ _ _ | .rop _ _ _ _ _ => false
  | _ => true
def Cont.noRo : Cont → Bool
  | .box a => a.noRo
  | .row e _ => e.flat
  | _ => false
def enNoRo : List En → Bool
  | [] => true
  | e :: l => e.c.noRo && enNoRo l
def lendA (P : Program) (L : List En) : TypeId → AV → Option AV
  | t, .whole k s => (sliceElTy P t).bind fun e => (rdSl L e (.whole k s)).map fun xs => .ro false e xs
  | t, .win k s lo n => (sliceElTy P t).bind fun e => (rdSl L e (.win k s lo n)).map fun xs => .ro false e xs
  | t, .bwin k o e N lo n => (sliceElTy P t).bind fun e' => (rdSl L e' (.bwin k o e N lo n)).map fun xs => .ro false e' xs
  | t, .snil _ => (sliceElTy P t).map fun e => .ro false e []
  | _, a => some a
def lendL (P : Program) (L : List En) : List TypeId → List Bool → List AV → Option (List AV)
  | _, _, [] => some []
  | t :: ts, true :: ms, a :: l => (lendA P L t a).bind fun a' => (lendL P L ts ms l).map fun l' => a' :: l'
  | t :: ts, _ :: ms, a :: l => (lendL P L ts ms l).map fun l' => a :: l'
  | t :: ts, [], a :: l => (lendL P L ts [] l).map fun l' => a :: l'
  | [], _, _ :: _ => none
def keepA : List Bool → List AV → List AV
  | true :: ms, _ :: l => keepA ms l
  | _ :: ms, a :: l => a :: keepA ms l
  | [], l => l
  | _, [] => []
def callLT (P : Program) (S : Summ) (ts : List TypeId) (ms : List Bool) (avs : List AV) (L : List En) (b : Nat) : Tree MR := match grab 1000 (keysOf (keepA ms avs)) L with
  | (L1, L2) => match lendL P L2 ts ms avs with
    | some avs' => bif allIds (memK L1) avs' && enKeys (memK L1) L1 then
      (S (avs'.map (AV.ren (newKey 0 noKeep noKeep L1))) (partE L1) (2 * L1.length)).bind fun r =>
        bif r.1.noRo && enNoRo r.2.1 then .ret (r.1.ren (backN (enIds L1) b), r.2.1.map (En.ren (backN (enIds L1) b)) ++ L2, b + (r.2.2 - 2 * L1.length)) else .fail else .fail
    | none => .fail
section
variable {P : Program} {ty T U : TypeId} {f : Fr} {w w' : World} {B : Base} {ν ν' : Nms} {b b' : Nat} {Z Z' : Nat → Prop} {L L' L1 L2 : List En} {F : List Ent}
theorem slotsR.ren {p : Nat → Bool} {φ : Nat → Nat} (h : ∀ i, i < b → p i = true → φ i < b' ∧ ν' (φ i) = ν i) : ∀ {l : List AV} {vs : List Value}, allIds p l = true → slotsR ν b Z w l vs → slotsR ν' b' Z w (l.map (AV.ren φ)) vs
  | [], [], _, _ => trivial
  | a :: l, v :: vs, hi, H => by
    simp only [allIds, Bool.and_eq_true] at hi
    exact ⟨H.1.ren h hi.1, slotsR.ren h hi.2 H.2⟩
  | [], _ :: _, _, H => H.elim
  | _ :: _, [], _, H => H.elim
theorem slotsR.later (h : Later ν ν' b b' Z Z' w w') : ∀ {l : List AV} {vs : List Value}, slotsR ν b Z w l vs → slotsR ν' b' Z' w' l vs
  | [], [], _ => trivial
  | a :: l, v :: vs, H => ⟨H.1.later h, slotsR.later h H.2⟩
  | [], _ :: _, H => H.elim
  | _ :: _, [], H => H.elim
theorem idsTrue : ∀ a : AV, a.ids (fun _ => true) = true := by
  intro a
  induction a with
  | agg a ih => exact ih
  | pr a c h1 h2 => simp only [AV.ids, h1, h2, Bool.and_self]
  | tup a ih => exact ih
  | clo g a ih => exact ih
  | _ => rfl
theorem o_callA {c : Call} {g : FuncId} {args : Array Value} {K : Value → World → Prop} (hc : c.callee = .value (.func g)) (ha : c.args.map (ev f) = args) (h : after P K ((callFunc g args).run P w)) : OpW P (.call c) ty f w K := by
  subst ha
  unfold OpW
  have hrun : (execOp (ev f) (bare (.call c) ty)).run P w = (callFunc g (c.args.map (ev f))).run P w := by
    simp only [execOp, bare, resolve, hc, ev, Deferred.ofValue, invoke, Sem.run_bind, Sem.run_pure, Result.andThen_ok, Array.append_empty, Array.empty_append]
  rw [hrun]
  exact h
def CallOK (P : Program) (g : FuncId) (S : Summ) : Prop := ∀ avs L b R, (S avs L b).Runs R → ∀ (B : Base) (ν : Nms) (w : World) (F : List Ent) (vs : List Value),
  Here B ν b w L F → slotsR ν b (B.Z (ents ν L ++ F)) w avs vs → after P (GivesR B ν b w L F R) ((callFunc g vs.toArray).run P w)
theorem SoundF.callOK {S : Summ} {g : FuncId} {fn : Func} (hS : SoundF P g S) (hf : P.funcs[g]? = some fn) (hn : callable fn = true) : CallOK P g S := by
  intro avs L b R hr B ν w F vs H hs
  have hcall := hS avs L b R hr B ν w F vs H hs
  simp only [callable, Bool.and_eq_true, Bool.not_eq_true', Option.isSome_iff_ne_none] at hn
  have hb : fn.body.isNone = false := by
    cases hx : fn.body with
    | none => exact absurd hx hn.2
    | some _ => rfl
  have hrun : (callFunc g vs.toArray).run P w = .ok (.enter g vs.toArray) w := by
    simp only [callFunc, hf, hn.1, hb, Sem.run_bind, Sem.run_pure, Result.andThen_ok, run_program, Bool.false_eq_true, if_false]
  rw [hrun]
  refine hcall.mono ?_
  intro e w' he
  cases e with
  | returned v => exact he
  | panicked _ => exact he.elim
  | outgrown => exact he.elim
theorem callT_ok {S : Summ} {avs : List AV} {c : Call} {g : FuncId} {args : List Operand} (hS : CallOK P g S) (hc : c.callee = .value (.func g)) (hargs : c.args = args.toArray)
    (H : Here B ν b w L F) (ha : slotsR ν b (B.Z (ents ν L ++ F)) w avs (args.map (ev f))) : M' P (.call c) ty f B ν b w L F (callT S avs L b) := by
  intro Q hr
  unfold callT at hr
  generalize hg : grab 1000 (keysOf avs) L = pr at hr
  obtain ⟨L1, L2⟩ := pr
  have hp : L.Perm (L1 ++ L2) := by have := grab_perm 1000 (keysOf avs) L; rw [hg] at this; exact this
  dsimp only at hr
  cases hb : (allIds (memK L1) avs && enKeys (memK L1) L1) <;> rw [hb] at hr
  · cases hr
  · simp only [Bool.and_eq_true] at hb
    simp only [cond_true, Tree.runs_bind] at hr
    have hmem : ∀ e ∈ L1, e ∈ L := fun e he => hp.mem_iff.2 (List.mem_append_left _ he)
    obtain ⟨hh, hz⟩ := H.part hp hb.2
    have hsl : slotsR (numN ν 0 L1) (2 * L1.length) (B.Z (ents ν L ++ F)) w (avs.map (AV.ren (newKey 0 noKeep noKeep L1))) (args.map (ev f)) := ha.ren (part_names H hmem hb.2 rfl).1 hb.1
    rw [← hz] at hsl
    refine o_callA hc (args := (args.map (ev f)).toArray) (by rw [hargs]; simp) (after_mono (hS _ _ _ _ hr B _ w _ _ hh hsl) fun v w' hv => ?_)
    obtain ⟨⟨a1, Lc, b1⟩, h2, νc, hl, hs⟩ := hv
    obtain ⟨ν', hl', hz', hback⟩ := Left.whole H hp hb.2 hl
    refine ⟨_, h2, ν', hl', ?_⟩
    rw [← hz']
    exact hs.ren (p := fun _ => true) (fun i hi _ => hback i hi trivial) (idsTrue _)
theorem avC.noRo : ∀ {a : AV} {cs : List Value}, a.noRo = true → avC ν b Z w a cs → avC ν b Z' w' a cs
  | .any, _, _, H | .und, _, _, H | .tup _, _, _, H => H.elim
  | .tt, _, _, H | .ff, _, _, H | .un, _, _, H | .nil, _, _, H | .mnil, _, _, H | .fnil, _, _, H | .snil _, _, _, H => H
  | .val t x, _, h, H => t.rel_any h H
  | .agg a, _, h, H => avC.noRo (a := a) h H
  | .pr a c, _, h, ⟨c1, c2, h0, h1, h2⟩ => by
    simp only [AV.noRo, Bool.and_eq_true] at h
    exact ⟨c1, c2, h0, avC.noRo h.1 h1, avC.noRo h.2 h2⟩
  | .ptr k _, _, _, H | .pel k _ _ _ _ _, _, _, H | .rowp k _ _ _, _, _, H | .whole k _, _, _, H | .win k _ _ _, _, _, H | .bwin k _ _ _ _ _, _, _, H | .mpv _, _, _, H => H
  | .clo _ a, _, h, ⟨vs, h0, h1⟩ => ⟨vs, h0, avC.noRo (a := a) h h1⟩
  | .rop _ _ _ _ _, _, h, _ | .ro _ _ _, _, h, _ => by cases h
theorem avV.noRo {a : AV} {v : Value} (h : a.noRo = true) (H : avV ν b Z w a v) : avV ν b Z' w' a v := by
  unfold avV at *
  split
  · rename_i ha
    rw [if_pos ha] at H
    obtain ⟨cs, h1, h2⟩ := H
    exact ⟨cs, h1, h2.noRo h⟩
  · rename_i ha
    rw [if_neg ha] at H
    exact H.noRo h
theorem avT.noRo : ∀ {a : AV} {vs : List Value}, a.noRo = true → avT ν b Z w a vs → avT ν b Z' w' a vs
  | .un, _, _, H => H
  | .pr _ _, _, h, ⟨v, vs', h0, h1, h2⟩ => by
    simp only [AV.noRo, Bool.and_eq_true] at h
    exact ⟨v, vs', h0, h1.noRo h.1, avT.noRo h.2 h2⟩
  | .any, _, _, H | .und, _, _, H | .tup _, _, _, H | .tt, _, _, H | .ff, _, _, H | .nil, _, _, H | .mnil, _, _, H | .fnil, _, _, H | .snil _, _, _, H | .val _ _, _, _, H | .agg _, _, _, H | .ptr _ _, _, _, H | .pel _ _ _ _ _ _, _, _, H | .rowp _ _ _ _, _, _, H | .rop _ _ _ _ _, _, _, H
  | .whole _ _, _, _, H | .win _ _ _ _, _, _, H | .bwin _ _ _ _ _ _, _, _, H | .ro _ _ _, _, _, H | .mpv _, _, _, H | .clo _ _, _, _, H => H.elim
theorem slotR.noRo {a : AV} {v : Value} (h : a.noRo = true) (H : slotR ν b Z w a v) : slotR ν b Z' w' a v := by
  unfold slotR at H
  split at H
  · trivial
  · exact H
  · obtain ⟨vs, h0, h1⟩ := H; exact ⟨vs, h0, h1.noRo h⟩
  · exact .of (avV.noRo h H)
theorem enF.noRo {e : En} (h : e.c.noRo = true) (H : enF ν b Z w e) : enF ν b Z' w' e := by
  obtain ⟨h1, h2, h3⟩ := H
  refine ⟨h1, h2, ?_⟩
  revert h h3
  cases e.c with
  | box a => exact fun h h3 => avC.noRo h h3
  | row t xs => exact fun h h3 => Ty.rel_any (.arr xs.length t) h h3
  | mp kt vt xs => exact fun h => by cases h
  | it mk mv kt vt xs => exact fun h => by cases h
  | itc mk mv kt vt kx vx xs => exact fun h => by cases h
theorem enNoRo_ok : ∀ {L : List En}, enNoRo L = true → ∀ e ∈ L, e.c.noRo = true
  | [], _, _, h => by simp at h
  | x :: l, h, e, he => by
    simp only [enNoRo, Bool.and_eq_true] at h
    rcases List.mem_cons.1 he with rfl | he
    · exact h.1
    · exact enNoRo_ok h.2 e he
theorem Here.other (H : Here B ν b w L F) (hp : L.Perm (L1 ++ L2)) : Here B ν b w L2 (ents ν L1 ++ F) ∧ B.Z (ents ν L2 ++ (ents ν L1 ++ F)) = B.Z (ents ν L ++ F) := by
  have hperm : (ents ν L ++ F).Perm (ents ν L2 ++ (ents ν L1 ++ F)) := by
    have h1 : (ents ν L).Perm (ents ν L2 ++ ents ν L1) := by
      rw [← List.map_append]
      exact (hp.trans List.perm_append_comm).map _
    rw [← List.append_assoc]
    exact h1.append_right F
  have hz := Z_perm (B := B) hperm
  refine ⟨⟨(H.own.perm hperm).fresh, fun e he => ?_, by rw [← hz]; exact H.glb⟩, hz.symm⟩
  rw [← hz]
  exact H.fact e (hp.mem_iff.2 (List.mem_append_right _ he))
theorem lendRo (H : Here B ν b w L F) {Z' : Nat → Prop} (hz : ∀ x, x < w.heap.size → (footU (ents ν L) x ∨ B.Z (ents ν L ++ F) x) → Z' x) {e : Ty} {a : AV} {xs : List e.den} {v : Value} (h : slotR ν b (B.Z (ents ν L ++ F)) w a v) (hr : rdSl L e a = some xs) :
    slotR ν b Z' w (.ro false e xs) v := by
  obtain ⟨cs, h1, h2⟩ := rdSl_in H h hr
  refine ⟨v, rfl, ⟨cs, h1.mono hz, h2.2.1, h2.2.2.1, fun i x hx => e.rty.go (h2.2.2.2 i x hx) fun y hy hZ => ⟨hz y hy (.inr hZ), rfl⟩⟩, fun h => by cases h⟩
theorem lendA_ok (H : Here B ν b w L F) {Z' : Nat → Prop} (hz : ∀ x, x < w.heap.size → (footU (ents ν L) x ∨ B.Z (ents ν L ++ F) x) → Z' x) {t : TypeId} {a a' : AV} {v : Value} (h : slotR ν b (B.Z (ents ν L ++ F)) w a v) (ha : lendA P L t a = some a') : slotR ν b Z' w a' v := by
  unfold lendA at ha
  split at ha
  · obtain ⟨e, _, ha⟩ := bindE ha
    simp only [Option.map_eq_some_iff] at ha
    obtain ⟨xs, h1, rfl⟩ := ha
    exact lendRo H hz h h1
  · obtain ⟨e, _, ha⟩ := bindE ha
    simp only [Option.map_eq_some_iff] at ha
    obtain ⟨xs, h1, rfl⟩ := ha
    exact lendRo H hz h h1
  · obtain ⟨e, _, ha⟩ := bindE ha
    simp only [Option.map_eq_some_iff] at ha
    obtain ⟨xs, h1, rfl⟩ := ha
    exact lendRo H hz h h1
  · simp only [Option.map_eq_some_iff] at ha
    obtain ⟨e, _, rfl⟩ := ha
    rw [sl_snil h]
    exact ⟨_, rfl, ⟨[], Sl.nil _ _, by simp, rfl, by simp⟩, fun h => by cases h⟩
  · cases ha
    exact h.later ⟨fun _ _ => rfl, Nat.le_refl _, fun x hx hZ => ⟨hz x hx (.inr hZ), rfl⟩⟩
theorem lendL_ok (H : Here B ν b w L F) {Z' : Nat → Prop} (hz : ∀ x, x < w.heap.size → (footU (ents ν L) x ∨ B.Z (ents ν L ++ F) x) → Z' x) : ∀ {ts : List TypeId} {ms : List Bool} {l l' : List AV} {vs : List Value}, slotsR ν b (B.Z (ents ν L ++ F)) w l vs → lendL P L ts ms l = some l' → slotsR ν b Z' w l' vs
  | _, _, [], l', vs, h, hl => by
    simp only [lendL, Option.some.injEq] at hl
    subst hl
    cases vs with
    | nil => trivial
    | cons _ _ => exact h.elim
  | t :: ts, true :: ms, a :: l, l', [], h, hl => h.elim
  | t :: ts, true :: ms, a :: l, l', v :: vs, h, hl => by
    obtain ⟨a', h1, h2⟩ := bindE hl
    simp only [Option.map_eq_some_iff] at h2
    obtain ⟨l2, h2, rfl⟩ := h2
    exact ⟨lendA_ok H hz h.1 h1, lendL_ok H hz h.2 h2⟩
  | t :: ts, false :: ms, a :: l, l', [], h, hl => h.elim
  | t :: ts, false :: ms, a :: l, l', v :: vs, h, hl => by
    have hl : (lendL P L ts ms l).map (fun l' => a :: l') = some l' := hl
    simp only [Option.map_eq_some_iff] at hl
    obtain ⟨l2, h2, rfl⟩ := hl
    exact ⟨h.1.later ⟨fun _ _ => rfl, Nat.le_refl _, fun x hx hZ => ⟨hz x hx (.inr hZ), rfl⟩⟩, lendL_ok H hz h.2 h2⟩
  | t :: ts, [], a :: l, l', [], h, hl => h.elim
  | t :: ts, [], a :: l, l', v :: vs, h, hl => by
    have hl : (lendL P L ts [] l).map (fun l' => a :: l') = some l' := hl
    simp only [Option.map_eq_some_iff] at hl
    obtain ⟨l2, h2, rfl⟩ := hl
    exact ⟨h.1.later ⟨fun _ _ => rfl, Nat.le_refl _, fun x hx hZ => ⟨hz x hx (.inr hZ), rfl⟩⟩, lendL_ok H hz h.2 h2⟩
  | [], _ :: _, a :: l, l', vs, h, hl => by cases hl
  | [], [], a :: l, l', vs, h, hl => by cases hl
theorem Own.beside {o : Nat → Prop} {E M R : List Ent} {w0 : World} (h : Own w0 o w (E ++ R)) (hc : Own w (footU E) w' M) : Own w (footU (E ++ R)) w' (M ++ R) := by
  have hs := List.pairwise_append.1 h.sep
  refine ⟨hc.size, fun x hx hn => hc.old x hx fun hf => hn ((footU_append E R x).2 (.inl hf)), ?_, ?_, ?_, hc.kept⟩
  · intro e he
    rcases List.mem_append.1 he with he | he
    · exact hc.all e he
    · refine e.loc (fun x hx => hc.old x (h.low e (List.mem_append_right _ he) x hx).1 ?_) (h.all e (List.mem_append_right _ he))
      rintro ⟨e', he', hx'⟩
      exact hs.2.2 e' he' e he x hx' hx
  · intro e he x hx
    rcases List.mem_append.1 he with he | he
    · exact ⟨(hc.low e he x hx).1, fun hlt => (footU_append E R x).2 (.inl ((hc.low e he x hx).2 hlt))⟩
    · exact ⟨Nat.lt_of_lt_of_le (h.low e (List.mem_append_right _ he) x hx).1 hc.size, fun _ => (footU_append E R x).2 (.inr ⟨e, he, hx⟩)⟩
  · rw [List.pairwise_append]
    refine ⟨hc.sep, hs.2.1, fun e he e' he' x hx hx' => ?_⟩
    have h1 := (h.low e' (List.mem_append_right _ he') x hx').1
    obtain ⟨e2, he2, hx2⟩ := (hc.low e he x hx).2 h1
    exact hs.2.2 e2 he2 e' he' x hx2 hx'
theorem callLT_ok {S : Summ} {ts : List TypeId} {ms : List Bool} {avs : List AV} {c : Call} {g : FuncId} {args : List Operand} (hS : CallOK P g S) (hc : c.callee = .value (.func g)) (hargs : c.args = args.toArray)
    (H : Here B ν b w L F) (ha : slotsR ν b (B.Z (ents ν L ++ F)) w avs (args.map (ev f))) : M' P (.call c) ty f B ν b w L F (callLT P S ts ms avs L b) := by
  intro Q hr
  unfold callLT at hr
  generalize hg : grab 1000 (keysOf (keepA ms avs)) L = pr at hr
  obtain ⟨L1, L2⟩ := pr
  have hp : L.Perm (L1 ++ L2) := by have := grab_perm 1000 (keysOf (keepA ms avs)) L; rw [hg] at this; exact this
  dsimp only at hr
  cases hl : lendL P L2 ts ms avs with
  | none => rw [hl] at hr; exact hr.elim
  | some avs' =>
  rw [hl] at hr
  dsimp only at hr
  cases hb : (allIds (memK L1) avs' && enKeys (memK L1) L1) <;> rw [hb] at hr
  · exact hr.elim
  · simp only [Bool.and_eq_true] at hb
    simp only [cond_true, Tree.runs_bind] at hr
    have hmem : ∀ e ∈ L1, e ∈ L := fun e he => hp.mem_iff.2 (List.mem_append_left _ he)
    obtain ⟨H2, hz2⟩ := H.other hp
    obtain ⟨Hp, hzp⟩ := H.part hp hb.2
    have hownE : Own w (footU (ents (numN ν 0 L1) (partE L1) ++ (ents ν L2 ++ F))) w (ents (numN ν 0 L1) (partE L1) ++ (ents ν L2 ++ F)) := Hp.own
    have hsep := List.pairwise_append.1 hownE.sep
    have hzz : ∀ x, x < w.heap.size → (footU (ents ν L2) x ∨ B.Z (ents ν L ++ F) x) → B.Z (ents (numN ν 0 L1) (partE L1) ++ []) x := by
      intro x hx h
      refine ⟨?_, .inr (.inr (B.all x))⟩
      rw [List.append_nil]
      rcases h with ⟨e, he, hf⟩ | h
      · rintro ⟨e', he', hf'⟩
        exact hsep.2.2 e' he' e (List.mem_append_left _ he) x hf' hf
      · rw [← hzp] at h
        exact fun hf => h.1 ((footU_append _ _ x).2 (.inl hf))
    have hlat : Later (numN ν 0 L1) (numN ν 0 L1) (2 * L1.length) (2 * L1.length) (B.Z (ents ν L ++ F)) (B.Z (ents (numN ν 0 L1) (partE L1) ++ [])) w w :=
      ⟨fun _ _ => rfl, Nat.le_refl _, fun x hx h => ⟨hzz x hx (.inr h), rfl⟩⟩
    have hh : Here B (numN ν 0 L1) (2 * L1.length) w (partE L1) [] := by
      refine ⟨?_, fun e he => ?_, fun p hp' => ?_⟩
      · rw [List.append_nil]
        exact (hownE.sub (List.sublist_append_left _ _)).fresh
      · have h1 := Hp.fact e he
        rw [hzp] at h1
        exact h1.later hlat
      · obtain ⟨q1, T, z, q2⟩ := H.glb p hp'
        exact ⟨hzz p.1 (Array.getElem?_eq_some_iff.1 q2).1 (.inr q1), T, z, q2⟩
    have hsl0 : slotsR ν b (B.Z (ents (numN ν 0 L1) (partE L1) ++ [])) w avs' (args.map (ev f)) := by
      refine lendL_ok H2 (Z' := B.Z (ents (numN ν 0 L1) (partE L1) ++ [])) (fun x hx h => ?_) (by rw [hz2]; exact ha) hl
      rw [hz2] at h
      exact hzz x hx h
    have hsl := hsl0.ren (part_names H hmem hb.2 rfl).1 hb.1
    refine o_callA hc (args := (args.map (ev f)).toArray) (by rw [hargs]; simp) (after_mono (hS _ _ _ _ hr B _ w _ _ hh hsl) fun v w' hv => ?_)
    obtain ⟨⟨a1, Lc, b1⟩, h2, νc, hl', hs⟩ := hv
    cases hn : (a1.noRo && enNoRo Lc) <;> rw [hn] at h2
    · exact h2.elim
    · simp only [Bool.and_eq_true] at hn
      simp only [cond_true] at h2
      have hown' : Own w (footU (ents (numN ν 0 L1) (partE L1) ++ (ents ν L2 ++ F))) w' (ents νc Lc ++ (ents ν L2 ++ F)) := by
        have h3 := hl'.own
        rw [List.append_nil, List.append_nil] at h3
        exact Own.beside hownE h3
      have hleft : Left B (numN ν 0 L1) (2 * L1.length) w (partE L1) (ents ν L2 ++ F) νc b1 w' Lc :=
        ⟨hl'.nms, hl'.le, hown', fun e he => (hl'.fact e he).noRo (enNoRo_ok hn.2 e he), gnow hown' Hp.glb⟩
      obtain ⟨ν', hl2, hz', hback⟩ := Left.whole H hp hb.2 hleft
      refine ⟨_, h2, ν', hl2, ?_⟩
      rw [← hz']
      have hs' : slotR νc b1 (B.Z (ents νc Lc ++ (ents ν L2 ++ F))) w' a1 v := hs.noRo hn.1
      exact hs'.ren (p := fun _ => true) (fun i hi _ => hback i hi trivial) (idsTrue _)
end
end Hyp
set_option linter.unusedVariables false
set_option linter.unusedSimpArgs false
namespace Hyp
open Go
theorem d_ret {α : Type} (a : α) : (Tree.ret a).Det := trivial
theorem d_fail {α : Type} : (Tree.fail : Tree α).Det := trivial
theorem d_get {α β : Type} {o : Option β} {k : β → Tree α} (h : ∀ y, (k y).Det) : (Tree.get o k).Det := h
theorem d_bif {α : Type} {b : Bool} {x y : Tree α} (h : x.Det) (g : y.Det) : (bif b then x else y).Det := by cases b <;> assumption
theorem d_guard {α : Type} {c bad : Bool} {t : Tree α} (h : t.Det) : (guardT c bad t).Det := by unfold guardT; exact d_bif (d_bif d_fail h) (d_get fun _ => h)
theorem d_getT {α β : Type} {c : Bool} {o : Option β} {k : β → Tree α} (h : ∀ y, (k y).Det) : (getT c o k).Det := by
  unfold getT
  refine d_bif ?_ (d_get h)
  split
  · exact h _
  · exact d_fail
theorem d_count {c : Bool} {y : AV} {k : Nat → Tree AV} (h : ∀ n, (k n).Det) : (countT c y k).Det := by
  unfold countT
  split <;> first | exact h _ | exact d_guard (h _) | exact d_fail
section
variable {P : Program} {T U : TypeId} {op : BinOp} {uo : UnOp} {c : Bool} {x y p q : AV} {L : List En} {b : Nat} {r : Operand → AV}
theorem d_shift : (shiftT op c x y).Det := by
  refine d_count fun n => ?_
  split <;> trivial
theorem d_num : (numT op c x y).Det := by
  unfold numT
  repeat' first | exact d_ret _ | exact d_fail | exact d_guard (d_ret _) | refine d_get fun _ => ?_ | refine d_bif ?_ ?_ | split
theorem d_nil : (nilT P T op x y).Det := by
  unfold nilT
  split <;> first | exact d_bif (d_ret _) d_fail | exact d_fail
theorem d_bin : (binT P T op c x y).Det := by
  unfold binT
  split
  · exact d_shift
  · exact d_shift
  · split
    · exact d_nil
    · exact d_num
theorem d_extract {i : Nat} : (extractT x i).Det := by
  unfold extractT
  repeat' first | exact d_ret _ | exact d_fail | split
theorem d_un : (unT uo x).Det := by
  unfold unT notT negT comT
  repeat' first | exact d_ret _ | exact d_fail | split
theorem d_fieldAddr {i : Nat} : (fieldAddrT P T x i).Det := by
  unfold fieldAddrT
  repeat' first | exact d_ret _ | exact d_fail | split
theorem d_nilCheck : (nilCheckT x).Det := by
  unfold nilCheckT
  repeat' first | exact d_ret _ | exact d_fail | split
theorem d_slice {lo hi mx : Option Operand} : (sliceT P r T x lo hi mx).Det := by
  unfold sliceT sliceStrT sliceRoT sliceRo3T
  repeat' first | exact d_ret _ | exact d_fail | refine d_get fun _ => ?_ | refine d_bnd fun _ _ => ?_ | refine d_bif ?_ ?_ | split
theorem d_len : (lenT P T x).Det := by
  unfold lenT
  repeat' first | exact d_ret _ | exact d_fail | refine d_get fun _ => ?_ | refine d_bif ?_ ?_ | split
theorem d_build {ps : List (Nat × Operand)} : (buildT P T r ps).Det := by
  unfold buildT
  repeat' first | exact d_ret _ | exact d_fail | refine d_get fun _ => ?_ | refine d_bif ?_ ?_ | split
theorem d_int : (intT P T U x).Det := by
  unfold intT
  repeat' first | exact d_ret _ | exact d_fail | refine d_get fun _ => ?_ | refine d_bif ?_ ?_ | split
theorem d_index {i : AV} : (indexT P T x i).Det := by
  unfold indexT
  repeat' first | exact d_ret _ | exact d_fail | refine d_get fun _ => ?_ | refine d_bif ?_ ?_ | split
theorem d_part {a : AV} {o : Nat} : (partT P T a o).Det := by
  unfold partT
  repeat' first | exact d_ret _ | exact d_fail | refine d_get fun _ => ?_ | refine d_bif ?_ ?_ | split
theorem d_load : (loadT P T x L).Det := by
  unfold loadT
  repeat' first | exact d_ret _ | exact d_fail | exact d_part | refine d_get fun _ => ?_ | refine d_getT fun _ => ?_ | refine d_bif ?_ ?_ | split
theorem d_alloc : (allocT P T L b).Det := by
  unfold allocT
  repeat' first | exact d_ret _ | exact d_fail | refine d_get fun _ => ?_ | refine d_bif ?_ ?_ | split
theorem d_box : (boxT x L b).Det := by
  unfold boxT
  repeat' first | exact d_ret _ | exact d_fail | refine d_get fun _ => ?_ | refine d_bif ?_ ?_ | split
theorem d_store : (storeT P T x p L b).Det := by
  unfold storeT
  repeat' first | exact d_ret _ | exact d_fail | refine d_get fun _ => ?_ | refine d_getT fun _ => ?_ | refine d_bif ?_ ?_ | split
theorem d_indexAddr {i : AV} : (indexAddrT P T c x i L).Det := by
  unfold indexAddrT
  repeat' first | exact d_ret _ | exact d_fail | refine d_get fun _ => ?_ | refine d_getT fun _ => ?_ | refine d_bif ?_ ?_ | split
theorem d_append : (appendT P T x y L b).Det := by
  unfold appendT
  repeat' first | exact d_ret _ | exact d_fail | refine d_get fun _ => ?_ | refine d_getT fun _ => ?_ | refine d_bif ?_ ?_ | split
theorem d_buildSlice {n : Nat} {ps : List (Nat × Operand)} : (buildSliceT P T n r ps L b).Det := by
  unfold buildSliceT
  repeat' first | exact d_ret _ | exact d_fail | refine d_get fun _ => ?_ | refine d_getT fun _ => ?_ | refine d_bif ?_ ?_ | split
theorem d_bytesStr : (bytesStrT P T U x L).Det := by
  unfold bytesStrT
  repeat' first | exact d_ret _ | exact d_fail | refine d_get fun _ => ?_ | refine d_getT fun _ => ?_ | refine d_bif ?_ ?_ | split
end
end Hyp
set_option linter.unusedVariables false
set_option linter.unusedSimpArgs false
namespace Hyp
open Go
def AV.frz (k : Nat) (e : Ty) (xs : List e.den) : AV → Option AV
  | .whole k' s => bif Nat.beq k' k then (bif Nat.beq s e.sz then some (.ro false e xs) else none) else some (.whole k' s)
  | .win k' s lo n => bif Nat.beq k' k then (bif Nat.beq s e.sz then some (.ro false e ((xs.drop lo).take n)) else none) else some (.win k' s lo n)
  | .rowp k' e' i eo => bif Nat.beq k' k then none else some (.rowp k' e' i eo)
  | .agg a => (a.frz k e xs).map .agg
  | .tup a => (a.frz k e xs).map .tup
  | .pr a c => (a.frz k e xs).bind fun a => (c.frz k e xs).map fun c => .pr a c
  | a => some a
def frzs (k : Nat) (e : Ty) (xs : List e.den) : List AV → Option (List AV)
  | [] => some []
  | a :: l => (a.frz k e xs).bind fun a => (frzs k e xs l).map fun l => a :: l
def frzL (k : Nat) (e : Ty) (xs : List e.den) : List En → Option (List En)
  | [] => some []
  | ⟨k', v, .box a⟩ :: l => (a.frz k e xs).bind fun a => (frzL k e xs l).map fun l => ⟨k', v, .box a⟩ :: l
  | ⟨k', v, c⟩ :: l => (frzL k e xs l).map fun l => ⟨k', v, c⟩ :: l
section
variable {w w0 : World} {B : Base} {ν ν0 : Nms} {b b0 : Nat} {L L1 L2 L0 : List En} {F : List Ent}
theorem Left.less (h : Left B ν0 b0 w0 L0 F ν b w L) (hp : L.Perm (L1 ++ L2)) : Left B ν0 b0 w0 L0 F ν b w L1 ∧ ∀ x, B.Z (ents ν L ++ F) x → B.Z (ents ν L1 ++ F) x := by
  have hsub : ∀ e ∈ ents ν L1 ++ F, e ∈ ents ν L ++ F := by
    intro e he
    rcases List.mem_append.1 he with he | he
    · obtain ⟨x, hx, rfl⟩ := List.mem_map.1 he
      exact List.mem_append_left _ (List.mem_map_of_mem (hp.mem_iff.2 (List.mem_append_left _ hx)))
    · exact List.mem_append_right _ he
  have hz : ∀ x, B.Z (ents ν L ++ F) x → B.Z (ents ν L1 ++ F) x := fun x hx => ⟨fun ⟨e, he, hf⟩ => hx.1 ⟨e, hsub e he, hf⟩, hx.2⟩
  refine ⟨⟨h.nms, h.le, ?_, fun e he => ?_, fun p hp => ⟨hz _ (h.glb p hp).1, (h.glb p hp).2⟩⟩, hz⟩
  · have hperm : (ents ν L ++ F).Perm (ents ν L1 ++ (ents ν L2 ++ F)) := by
      rw [← List.append_assoc, ← List.map_append]
      exact (hp.map _).append_right F
    refine (h.own.perm hperm).sub ?_
    exact List.Sublist.append_left (List.sublist_append_right _ _) _
  · exact (h.fact e (hp.mem_iff.2 (List.mem_append_left _ he))).later ⟨fun _ _ => rfl, Nat.le_refl _, fun x _ hx => ⟨hz x hx, rfl⟩⟩
end
section
variable {B : Base} {ν ν0 : Nms} {b b0 : Nat} {Z Z' : Nat → Prop} {w w0 : World} {k : Nat} {e : Ty} {xs : List e.den} {L L' L'' L0 : List En} {F : List Ent}
theorem RSl.part {α : Type} {A : RTy α} {Z : Nat → Prop} {w : World} {V : Value} {ys : List α} (h : RSl A Z w V ys) {s lo n : Nat} {v : Value} (hs : s = A.sz) (hv : IsSl v n) (hl : lo + n ≤ ys.length) (hc : v = subv s V lo (lo + n) ∨ ∃ a, v = .slice a 0 0) : RSl A Z w v ((ys.drop lo).take n) := by
  have hlen : ((ys.drop lo).take n).length = n := by rw [List.length_take, List.length_drop]; omega
  rcases hc with rfl | ⟨a, rfl⟩
  · obtain ⟨cs, h1, h2, h3, h4⟩ := h
    subst hs
    refine ⟨(cs.drop (lo * A.sz)).take (n * A.sz), ?_, ?_, by simp only [ones, List.all_eq_true] at h3 ⊢; exact fun v hv => h3 v (List.mem_of_mem_drop (List.mem_of_mem_take hv)), ?_⟩
    · rw [hlen]
      have := h1.sub A.sz lo (lo + n) (by omega) hl h2
      rwa [Nat.add_sub_cancel_left] at this
    · rw [hlen, List.length_take, List.length_drop, h2]
      have : (lo + n) * A.sz ≤ ys.length * A.sz := Nat.mul_le_mul_right _ hl
      rw [Nat.add_mul] at this
      omega
    · intro i x hx
      have hi : i < n := by
        have := (List.getElem?_eq_some_iff.1 hx).1
        omega
      rw [List.getElem?_take_of_lt hi, List.getElem?_drop] at hx
      have h5 := h4 (lo + i) x hx
      rw [List.drop_take, List.take_take, List.drop_drop, ← Nat.add_mul]
      have : min A.sz (n * A.sz - i * A.sz) = A.sz := by
        have : (i + 1) * A.sz ≤ n * A.sz := Nat.mul_le_mul_right _ hi
        rw [Nat.succ_mul] at this
        omega
      rw [this]
      exact h5
  · have hn : n = 0 := by
      obtain ⟨a', c, h1, h2, h3, h4⟩ := hv
      cases h1; rfl
    subst hn
    exact ⟨[], ⟨hv, .inl rfl⟩, by simp, rfl, fun i x hx => by simp at hx⟩
theorem avC.frz (hz : ∀ x, x < w.heap.size → Z x → Z' x ∧ w.heap[x]? = w.heap[x]?) (hr : RSl e.rty Z' w (ν k).v xs) (hl : vlen (ν k).v = xs.length) : ∀ {a a' : AV} {cs : List Value}, a.frz k e xs = some a' → avC ν b Z w a cs → avC ν b Z' w a' cs := by
  have keep : ∀ {a : AV} {cs : List Value}, avC ν b Z w a cs → avC ν b Z' w a cs := fun H => H.later ⟨fun _ _ => rfl, Nat.le_refl _, hz⟩
  intro a
  induction a with
  | whole k' s =>
    intro a' cs h H
    simp only [AV.frz] at h
    cases hb : Nat.beq k' k <;> rw [hb] at h
    · cases h; exact keep H
    · obtain rfl := Nat.eq_of_beq_eq_true hb
      obtain ⟨hs, rfl⟩ := bifT h
      obtain ⟨_, v, h1, h2, rfl⟩ := H
      exact ⟨_, h1, hr, fun h => by cases h⟩
  | win k' s lo n =>
    intro a' cs h H
    simp only [AV.frz] at h
    cases hb : Nat.beq k' k <;> rw [hb] at h
    · cases h; exact keep H
    · obtain rfl := Nat.eq_of_beq_eq_true hb
      obtain ⟨hs, rfl⟩ := bifT h
      obtain ⟨_, v, h1, h2, h3, h4⟩ := H
      refine ⟨v, h1, hr.part (by rw [Nat.eq_of_beq_eq_true hs, e.sz_rty]) h2 (by rw [← hl]; exact h3) h4, fun h => by cases h⟩
  | rowp k' e' i eo =>
    intro a' cs h H
    simp only [AV.frz] at h
    cases hb : Nat.beq k' k <;> rw [hb] at h
    · cases h; exact keep H
    · cases h
  | agg a ih =>
    intro a' cs h H
    simp only [AV.frz, Option.map_eq_some_iff] at h
    obtain ⟨a1, h1, rfl⟩ := h
    show avC ν b Z' w a1 cs
    exact ih h1 H
  | tup a ih => intro a' cs h H; exact H.elim
  | pr a c iha ihc =>
    intro a' cs h H
    simp only [AV.frz] at h
    obtain ⟨a1, h1, h2⟩ := bindE h
    simp only [Option.map_eq_some_iff] at h2
    obtain ⟨c1, h2, rfl⟩ := h2
    obtain ⟨x1, x2, h0, h3, h4⟩ := H
    exact ⟨x1, x2, h0, iha h1 h3, ihc h2 h4⟩
  | _ => intro a' cs h H; cases h; exact keep H
theorem avV.frz (hz : ∀ x, x < w.heap.size → Z x → Z' x ∧ w.heap[x]? = w.heap[x]?) (hr : RSl e.rty Z' w (ν k).v xs) (hl : vlen (ν k).v = xs.length) {a a' : AV} {v : Value} (h : a.frz k e xs = some a') (H : avV ν b Z w a v) : avV ν b Z' w a' v := by
  have hagg : a'.isAgg = a.isAgg := by
    cases a <;> simp only [AV.frz] at h
    case whole k' s =>
      cases hb : Nat.beq k' k <;> rw [hb] at h
      · cases h; rfl
      · obtain ⟨_, rfl⟩ := bifT h; rfl
    case win k' s lo n =>
      cases hb : Nat.beq k' k <;> rw [hb] at h
      · cases h; rfl
      · obtain ⟨_, rfl⟩ := bifT h; rfl
    case rowp k' e' i eo =>
      cases hb : Nat.beq k' k <;> rw [hb] at h
      · cases h; rfl
      · cases h
    case agg a => simp only [Option.map_eq_some_iff] at h; obtain ⟨_, _, rfl⟩ := h; rfl
    case tup a => simp only [Option.map_eq_some_iff] at h; obtain ⟨_, _, rfl⟩ := h; rfl
    case pr a c =>
      obtain ⟨a1, h1, h2⟩ := bindE h
      simp only [Option.map_eq_some_iff] at h2
      obtain ⟨c1, h2, rfl⟩ := h2
      rfl
    all_goals (cases h; rfl)
  unfold avV at *
  rw [hagg]
  split
  · rename_i ha
    rw [if_pos ha] at H
    obtain ⟨cs, h1, h2⟩ := H
    exact ⟨cs, h1, avC.frz hz hr hl h h2⟩
  · rename_i ha
    rw [if_neg ha] at H
    exact avC.frz hz hr hl h H
end
end Hyp
set_option linter.unusedVariables false
set_option linter.unusedSimpArgs false
namespace Hyp
open Go
section
variable {B : Base} {ν ν0 : Nms} {b b0 : Nat} {Z Z' : Nat → Prop} {w w0 : World} {k : Nat} {e : Ty} {xs : List e.den} {L L' L'' L0 : List En} {F : List Ent}
theorem avT.frz (hz : ∀ x, x < w.heap.size → Z x → Z' x ∧ w.heap[x]? = w.heap[x]?) (hr : RSl e.rty Z' w (ν k).v xs) (hl : vlen (ν k).v = xs.length) : ∀ {a a' : AV} {vs : List Value}, a.frz k e xs = some a' → avT ν b Z w a vs → avT ν b Z' w a' vs
  | .un, _, _, h, H => by cases h; exact H
  | .pr a c, _, _, h, ⟨v, vs', h0, h1, h2⟩ => by
    simp only [AV.frz] at h
    obtain ⟨a1, q1, q2⟩ := bindE h
    simp only [Option.map_eq_some_iff] at q2
    obtain ⟨c1, q2, rfl⟩ := q2
    exact ⟨v, vs', h0, avV.frz hz hr hl q1 h1, avT.frz hz hr hl q2 h2⟩
  | .any, _, _, _, H | .und, _, _, _, H | .tup _, _, _, _, H | .tt, _, _, _, H | .ff, _, _, _, H | .nil, _, _, _, H | .mnil, _, _, _, H | .fnil, _, _, _, H | .snil _, _, _, _, H | .val _ _, _, _, _, H | .agg _, _, _, _, H | .ptr _ _, _, _, _, H | .pel _ _ _ _ _ _, _, _, _, H | .rowp _ _ _ _, _, _, _, H | .rop _ _ _ _ _, _, _, _, H
  | .whole _ _, _, _, _, H | .win _ _ _ _, _, _, _, H | .bwin _ _ _ _ _ _, _, _, _, H | .ro _ _ _, _, _, _, H | .mpv _, _, _, _, H | .clo _ _, _, _, _, H => H.elim
theorem slotR.frz (hz : ∀ x, x < w.heap.size → Z x → Z' x ∧ w.heap[x]? = w.heap[x]?) (hr : RSl e.rty Z' w (ν k).v xs) (hl : vlen (ν k).v = xs.length) {a a' : AV} {v : Value} (h : a.frz k e xs = some a') (H : slotR ν b Z w a v) : slotR ν b Z' w a' v := by
  unfold slotR at H
  split at H
  · cases h; trivial
  · cases h; exact H
  · simp only [AV.frz, Option.map_eq_some_iff] at h
    obtain ⟨a1, h1, rfl⟩ := h
    obtain ⟨vs, h0, h2⟩ := H
    exact ⟨vs, h0, avT.frz hz hr hl h1 h2⟩
  · exact .of (avV.frz hz hr hl h H)
theorem slotsR.frz (hz : ∀ x, x < w.heap.size → Z x → Z' x ∧ w.heap[x]? = w.heap[x]?) (hr : RSl e.rty Z' w (ν k).v xs) (hl : vlen (ν k).v = xs.length) : ∀ {l l' : List AV} {vs : List Value}, frzs k e xs l = some l' → slotsR ν b Z w l vs → slotsR ν b Z' w l' vs
  | [], _, [], h, _ => by cases h; trivial
  | a :: l, _, v :: vs, h, H => by
    simp only [frzs] at h
    obtain ⟨a1, q1, q2⟩ := bindE h
    simp only [Option.map_eq_some_iff] at q2
    obtain ⟨l1, q2, rfl⟩ := q2
    exact ⟨slotR.frz hz hr hl q1 H.1, slotsR.frz hz hr hl q2 H.2⟩
  | [], _, _ :: _, _, H => H.elim
  | _ :: _, _, [], _, H => H.elim
theorem frzL_ok (hz : ∀ x, x < w.heap.size → Z x → Z' x ∧ w.heap[x]? = w.heap[x]?) (hr : RSl e.rty Z' w (ν k).v xs) (hl : vlen (ν k).v = xs.length) : ∀ {L L' : List En}, frzL k e xs L = some L' → (∀ x ∈ L, enF ν b Z w x) → ents ν L' = ents ν L ∧ ∀ x ∈ L', enF ν b Z' w x
  | [], _, h, _ => by cases h; exact ⟨rfl, fun _ h => by cases h⟩
  | ⟨k', v, .box a⟩ :: L, _, h, H => by
    simp only [frzL] at h
    obtain ⟨a1, q1, q2⟩ := bindE h
    simp only [Option.map_eq_some_iff] at q2
    obtain ⟨L1, q2, rfl⟩ := q2
    obtain ⟨g1, g2⟩ := frzL_ok hz hr hl q2 fun x hx => H x (by simp [hx])
    refine ⟨by show entOf ν _ :: _ = entOf ν _ :: _; rw [show List.map (entOf ν) L1 = List.map (entOf ν) L from g1]; rfl, fun x hx => ?_⟩
    rcases List.mem_cons.1 hx with rfl | hx
    · have := H ⟨k', v, .box a⟩ (by simp)
      exact ⟨this.1, this.2.1, avC.frz hz hr hl q1 this.2.2⟩
    · exact g2 x hx
  | ⟨k', v, .row e' ys⟩ :: L, _, h, H => by
    simp only [frzL, Option.map_eq_some_iff] at h
    obtain ⟨L1, q2, rfl⟩ := h
    obtain ⟨g1, g2⟩ := frzL_ok hz hr hl q2 fun x hx => H x (by simp [hx])
    refine ⟨by show entOf ν _ :: _ = entOf ν _ :: _; rw [show List.map (entOf ν) L1 = List.map (entOf ν) L from g1], fun x hx => ?_⟩
    rcases List.mem_cons.1 hx with rfl | hx
    · exact (H ⟨k', v, .row e' ys⟩ (by simp)).later ⟨fun _ _ => rfl, Nat.le_refl _, hz⟩
    · exact g2 x hx
  | ⟨k', v, .mp kt vt ys⟩ :: L, _, h, H => by
    simp only [frzL, Option.map_eq_some_iff] at h
    obtain ⟨L1, q2, rfl⟩ := h
    obtain ⟨g1, g2⟩ := frzL_ok hz hr hl q2 fun x hx => H x (by simp [hx])
    refine ⟨by show entOf ν _ :: _ = entOf ν _ :: _; rw [show List.map (entOf ν) L1 = List.map (entOf ν) L from g1], fun x hx => ?_⟩
    rcases List.mem_cons.1 hx with rfl | hx
    · exact (H ⟨k', v, .mp kt vt ys⟩ (by simp)).later ⟨fun _ _ => rfl, Nat.le_refl _, hz⟩
    · exact g2 x hx
  | ⟨k', v, .it mk mv kt vt ys⟩ :: L, _, h, H => by
    simp only [frzL, Option.map_eq_some_iff] at h
    obtain ⟨L1, q2, rfl⟩ := h
    obtain ⟨g1, g2⟩ := frzL_ok hz hr hl q2 fun x hx => H x (by simp [hx])
    refine ⟨by show entOf ν _ :: _ = entOf ν _ :: _; rw [show List.map (entOf ν) L1 = List.map (entOf ν) L from g1], fun x hx => ?_⟩
    rcases List.mem_cons.1 hx with rfl | hx
    · exact (H ⟨k', v, .it mk mv kt vt ys⟩ (by simp)).later ⟨fun _ _ => rfl, Nat.le_refl _, hz⟩
    · exact g2 x hx
  | ⟨k', v, .itc mk mv kt vt kx vx ys⟩ :: L, _, h, H => by
    simp only [frzL, Option.map_eq_some_iff] at h
    obtain ⟨L1, q2, rfl⟩ := h
    obtain ⟨g1, g2⟩ := frzL_ok hz hr hl q2 fun x hx => H x (by simp [hx])
    refine ⟨by show entOf ν _ :: _ = entOf ν _ :: _; rw [show List.map (entOf ν) L1 = List.map (entOf ν) L from g1], fun x hx => ?_⟩
    rcases List.mem_cons.1 hx with rfl | hx
    · exact (H ⟨k', v, .itc mk mv kt vt kx vx ys⟩ (by simp)).later ⟨fun _ _ => rfl, Nat.le_refl _, hz⟩
    · exact g2 x hx
theorem freeze_ok {v : Nat} {rs rs' : List AV} {vs : List Value} (h : Left B ν0 b0 w0 L0 F ν b w L) (ht : takeE L k = some (⟨k, v, .row e xs⟩, L')) (hf : frzL k e xs L' = some L'') (hs : slotsR ν b (B.Z (ents ν L ++ F)) w rs vs) (hr : frzs k e xs rs = some rs') :
    Left B ν0 b0 w0 L0 F ν b w L'' ∧ slotsR ν b (B.Z (ents ν L'' ++ F)) w rs' vs := by
  have hp := takeE_perm ht
  obtain ⟨h1, hz⟩ := h.less (L1 := L') (L2 := [⟨k, v, .row e xs⟩]) (hp.trans (List.perm_append_singleton _ _).symm)
  have hmem : (⟨k, v, .row e xs⟩ : En) ∈ L := hp.mem_iff.2 (by simp)
  have hfact := h.fact _ hmem
  have hent : row e.sz (ν k).v xs.length (ν v).cs ∈ ents ν L ++ F := List.mem_append_left _ (List.mem_map_of_mem hmem)
  have hholds := h.own.all _ hent
  have hsep : (ents ν (⟨k, v, .row e xs⟩ :: L') ++ F).Pairwise apart := by
    have := (h.own.perm ((hp.map (entOf ν)).append_right F)).sep
    exact this
  have hz2 : ∀ x, ownB (ν k).v x → B.Z (ents ν L' ++ F) x := by
    intro x hx
    refine ⟨?_, .inr (.inr (B.all x))⟩
    rintro ⟨en, hen, hfx⟩
    exact (List.pairwise_cons.1 hsep).1 en hen x hx hfx
  obtain ⟨i, hi, hie⟩ := List.mem_iff_getElem.1 hent
  have hsl := h.own.rowSl (k := i) (by rw [List.getElem?_eq_getElem hi, hie]) hz2
  have hrsl : RSl e.rty (B.Z (ents ν L' ++ F)) w (ν k).v xs := by
    obtain ⟨_, _, hrv⟩ := hfact
    obtain ⟨r1, r2, r3, r4⟩ := hrv
    refine ⟨(ν v).cs, hsl, r2, r3, fun i x hx => e.rty.go (r4 i x hx) fun b _ hb => ⟨hz b hb, rfl⟩⟩
  have hvl : vlen (ν k).v = xs.length := by
    obtain ⟨a, c, g1, _⟩ := hsl.1
    rw [g1]; rfl
  have hzz : ∀ x, x < w.heap.size → B.Z (ents ν L ++ F) x → B.Z (ents ν L' ++ F) x ∧ w.heap[x]? = w.heap[x]? := fun x _ hx => ⟨hz x hx, rfl⟩
  obtain ⟨g1, g2⟩ := frzL_ok (Z := B.Z (ents ν L ++ F)) hzz hrsl hvl hf fun x hx => h.fact x (hp.mem_iff.2 (by simp [hx]))
  have hs2 := slotsR.frz hzz hrsl hvl hr hs
  refine ⟨⟨h1.nms, h1.le, by rw [g1]; exact h1.own, fun x hx => by rw [g1]; exact g2 x hx, fun p hp => by rw [g1]; exact ⟨hz _ (h.glb p hp).1, (h.glb p hp).2⟩⟩, by rw [g1]; exact hs2⟩
def frzK : List Nat → List AV → List En → List AV × List En
  | [], rs, L => (rs, L)
  | k :: ks, rs, L => match takeE L k with
    | some (⟨k', _, .row e xs⟩, L') => match frzL k e xs L', frzs k e xs rs with
      | some L'', some rs' => bif Nat.beq k' k then frzK ks rs' L'' else frzK ks rs L
      | _, _ => frzK ks rs L
    | _ => frzK ks rs L
theorem frzK_ok : ∀ {ks : List Nat} {rs : List AV} {L : List En} {vs : List Value}, Left B ν0 b0 w0 L0 F ν b w L → slotsR ν b (B.Z (ents ν L ++ F)) w rs vs →
    Left B ν0 b0 w0 L0 F ν b w (frzK ks rs L).2 ∧ slotsR ν b (B.Z (ents ν (frzK ks rs L).2 ++ F)) w (frzK ks rs L).1 vs
  | [], rs, L, vs, h, hs => ⟨h, hs⟩
  | k :: ks, rs, L, vs, h, hs => by
    unfold frzK
    split
    · rename_i k' v e xs L' ht
      split
      · rename_i L2 rs2 h1 h2
        cases hb : Nat.beq k' k
        · exact frzK_ok h hs
        · obtain rfl := Nat.eq_of_beq_eq_true hb
          obtain ⟨g1, g2⟩ := freeze_ok h ht h1 hs h2
          exact frzK_ok g1 g2
      · exact frzK_ok h hs
    · exact frzK_ok h hs
end
end Hyp
set_option linter.unusedVariables false
set_option linter.unusedSimpArgs false
namespace Hyp
open Go
def mget (kt vt : Ty) : List (kt.den × vt.den) → kt.den → Option vt.den
  | [], _ => none
  | p :: l, k => bif eqV kt k p.1 then some p.2 else mget kt vt l k
def mput (kt vt : Ty) : List (kt.den × vt.den) → kt.den → vt.den → List (kt.den × vt.den)
  | [], k, v => [(k, v)]
  | p :: l, k, v => bif eqV kt k p.1 then (k, v) :: l else p :: mput kt vt l k v
def mgetD (kt vt : Ty) (xs : List (kt.den × vt.den)) (x : kt.den) (z : vt.den) : vt.den := (mget kt vt xs x).getD z
def mdel (kt vt : Ty) : List (kt.den × vt.den) → kt.den → List (kt.den × vt.den)
  | [], _ => []
  | p :: l, k => bif eqV kt k p.1 then l else p :: mdel kt vt l k
section
variable {kt vt : Ty} {xs ys : List (kt.den × vt.den)} {x : kt.den} {y v : vt.den}
theorem eqV_self : eqV kt x x = true := (eqV_iff kt x x).2 rfl
theorem eqV_ne {z : kt.den} (h : x ≠ z) : eqV kt x z = false := by
  cases hc : eqV kt x z
  · rfl
  · exact absurd ((eqV_iff kt x z).1 hc) h
theorem mget_none : ∀ {xs : List (kt.den × vt.den)}, mget kt vt xs x = none ↔ ∀ p ∈ xs, p.1 ≠ x
  | [] => by simp [mget]
  | p :: l => by
    unfold mget
    cases hc : eqV kt x p.1
    · have hne : p.1 ≠ x := fun h => by rw [h, eqV_self] at hc; cases hc
      simp only [cond_false, mget_none (xs := l), List.mem_cons, forall_eq_or_imp]
      exact ⟨fun h => ⟨hne, h⟩, fun h => h.2⟩
    · have he := (eqV_iff kt x p.1).1 hc
      simp only [cond_true, List.mem_cons, forall_eq_or_imp, reduceCtorEq, false_iff]
      exact fun h => h.1 he.symm
theorem mget_perm : ∀ {xs : List (kt.den × vt.den)}, mget kt vt xs x = some y → xs.Perm ((x, y) :: mdel kt vt xs x)
  | [], h => by cases h
  | p :: l, h => by
    unfold mget at h
    unfold mdel
    cases hc : eqV kt x p.1 <;> rw [hc] at h
    · simp only [cond_false] at h ⊢
      exact ((mget_perm h).cons p).trans (List.Perm.swap _ _ _)
    · have he := (eqV_iff kt x p.1).1 hc
      simp only [cond_true, Option.some.injEq] at h ⊢
      subst h; subst he
      exact List.Perm.refl _
theorem mput_perm : ∀ {xs : List (kt.den × vt.den)}, mget kt vt xs x = some y → (mput kt vt xs x v).Perm ((x, v) :: mdel kt vt xs x)
  | [], h => by cases h
  | p :: l, h => by
    unfold mget at h
    unfold mput mdel
    cases hc : eqV kt x p.1 <;> rw [hc] at h
    · simp only [cond_false] at h ⊢
      exact ((mput_perm h).cons p).trans (List.Perm.swap _ _ _)
    · simp only [cond_true]
      exact List.Perm.refl _
theorem mput_new : ∀ {xs : List (kt.den × vt.den)}, mget kt vt xs x = none → mput kt vt xs x v = xs ++ [(x, v)]
  | [], _ => rfl
  | p :: l, h => by
    unfold mget at h
    unfold mput
    cases hc : eqV kt x p.1 <;> rw [hc] at h
    · simp only [cond_false] at h ⊢
      rw [mput_new h]; rfl
    · cases h
theorem mdel_none : ∀ {xs : List (kt.den × vt.den)}, mget kt vt xs x = none → mdel kt vt xs x = xs
  | [], _ => rfl
  | p :: l, h => by
    unfold mget at h
    unfold mdel
    cases hc : eqV kt x p.1 <;> rw [hc] at h
    · simp only [cond_false] at h ⊢
      rw [mdel_none h]
    · cases h
theorem mget_mem (hn : (xs.map (·.1)).Nodup) (h : (x, y) ∈ xs) : mget kt vt xs x = some y := by
  induction xs with
  | nil => simp at h
  | cons p l ih =>
    simp only [List.map_cons, List.nodup_cons] at hn
    unfold mget
    rcases List.mem_cons.1 h with rfl | h
    · rw [eqV_self]; rfl
    · have hne : x ≠ p.1 := fun he => hn.1 (by rw [← he]; exact List.mem_map_of_mem (f := (·.1)) h)
      rw [eqV_ne hne]
      exact ih hn.2 h
theorem mput_keys (hn : (xs.map (·.1)).Nodup) : ((mput kt vt xs x v).map (·.1)).Nodup := by
  cases hg : mget kt vt xs x with
  | none =>
    rw [mput_new hg, List.map_append, List.nodup_append]
    refine ⟨hn, by simp, fun a ha b hb => ?_⟩
    obtain ⟨p, hp, rfl⟩ := List.mem_map.1 ha
    simp only [List.map_cons, List.map_nil, List.mem_singleton] at hb
    subst hb
    exact mget_none.1 hg p hp
  | some y0 =>
    have h1 := ((mget_perm hg).map (·.1)).nodup_iff.1 hn
    exact ((mput_perm (v := v) hg).map (·.1)).nodup_iff.2 h1
theorem mdel_keys (hn : (xs.map (·.1)).Nodup) : ((mdel kt vt xs x).map (·.1)).Nodup := by
  cases hg : mget kt vt xs x with
  | none => rw [mdel_none hg]; exact hn
  | some y0 =>
    have h1 := ((mget_perm hg).map (·.1)).nodup_iff.1 hn
    simp only [List.map_cons, List.nodup_cons] at h1
    exact h1.2
theorem perm_none (hp : ys.Perm xs) (h : ∀ p ∈ ys, p.1 ≠ x) : mget kt vt xs x = none := mget_none.2 fun p hp' => h p (hp.mem_iff.2 hp')
theorem perm_some {j : Nat} (hp : ys.Perm xs) (hn : (xs.map (·.1)).Nodup) (h : ys[j]? = some (x, y)) : mget kt vt xs x = some y := mget_mem hn (hp.mem_iff.1 (List.mem_of_getElem? h))
theorem erase_perm {j : Nat} (hp : ys.Perm xs) (hn : (xs.map (·.1)).Nodup) (h : ys[j]? = some (x, y)) : (ys.eraseIdx j).Perm (mdel kt vt xs x) := by
  obtain ⟨hj, he⟩ := List.getElem?_eq_some_iff.1 h
  have h1 : ys.Perm ((x, y) :: ys.eraseIdx j) := by
    have := ChangeMaps.set_perm ys j hj (x, y)
    rwa [← he, List.set_getElem_self, he] at this
  exact List.Perm.cons_inv ((h1.symm.trans hp).trans (mget_perm (perm_some hp hn h)))
theorem set_perm' {j : Nat} (hp : ys.Perm xs) (hn : (xs.map (·.1)).Nodup) (h : ys[j]? = some (x, y)) : (ys.set j (x, v)).Perm (mput kt vt xs x v) := by
  obtain ⟨hj, he⟩ := List.getElem?_eq_some_iff.1 h
  exact ((ChangeMaps.set_perm ys j hj (x, v)).trans ((erase_perm hp hn h).cons _)).trans (mput_perm (perm_some hp hn h)).symm
end
end Hyp
set_option linter.unusedVariables false
set_option linter.unusedSimpArgs false
namespace Hyp
open Go
section
variable {P : Program} {Z : Nat → Prop} {w w' : World} {t kt vt : Ty} {x y : kt.den} {v u : Value}
theorem checkKey_ok (em : Bool) : ∀ d : Nat, (∀ (T : TypeId) (t : Ty) (x : t.den) (v : Value) (D : Nat), cmpTy P d T t = true → d ≤ D → rv Z w t x v → (Instr.checkKey em D T v).run P w' = .ok () w') ∧
    ∀ (fs : List Field) (off : Nat) (t : Ty) (x : t.den) (xs : Array Value) (D : Nat), cmpFs P d fs off t = true → d ≤ D → t.rty.rel Z w x ((xs.toList.drop off).take t.sz) →
      ∀ f ∈ fs, f.name ≠ "_" ∧ ∃ a, (part f.type xs f.offset).run P w' = .ok a w' ∧ (Instr.checkKey em D f.type a).run P w' = .ok () w' := by
  intro d
  induction d with
  | zero => exact ⟨fun _ _ _ _ _ h => by simp [cmpTy] at h, fun _ _ _ _ _ _ h => by simp [cmpFs] at h⟩
  | succ d ih =>
    have one : ∀ (f : Field) (off : Nat) (t : Ty) (x : t.den) (xs : Array Value) (D : Nat), fldOK P f off t = true → cmpTy P d f.type t = true → d ≤ D → t.rty.rel Z w x ((xs.toList.drop off).take t.sz) →
        f.name ≠ "_" ∧ ∃ a, (part f.type xs f.offset).run P w' = .ok a w' ∧ (Instr.checkKey em D f.type a).run P w' = .ok () w' := by
      intro f off t x xs D h1 h2 h3 h4
      simp only [fldOK, Bool.and_eq_true, bne_iff_ne, ne_eq] at h1
      obtain ⟨g1, g2, g3⟩ := h1
      obtain rfl := Nat.eq_of_beq_eq_true g2
      obtain ⟨a, p1, p2⟩ := part_ok (w' := w') h2 g3 h4
      exact ⟨g1, a, p1, ih.1 _ _ _ _ _ h2 h3 p2⟩
    refine ⟨fun T t x v D h hD hv => ?_, fun fs off t x xs D h hD hx => ?_⟩
    · obtain ⟨D, rfl⟩ : ∃ D', D = D' + 1 := ⟨D - 1, by omega⟩
      have hD : d ≤ D := by omega
      unfold cmpTy at h
      split at h
      · rename_i hT
        split at h
        · have h1 := List.head_eq_of_cons_eq (show [_] = [_] from rv_one rfl hv)
          subst h1
          unfold Instr.checkKey
          simp [run_underlying hT]
        · cases h
      · rename_i hT
        split at h
        · have h1 := List.head_eq_of_cons_eq (show [_] = [_] from rv_one rfl hv)
          subst h1
          unfold Instr.checkKey Hyp.str
          simp [run_underlying hT]
        · cases h
      · rename_i k hT
        have num : ∀ {n : Int}, v = .int k n → (Instr.checkKey em (D + 1) T v).run P w' = .ok () w' := by
          intro n h1
          subst h1
          unfold Instr.checkKey
          simp [run_underlying hT]
        split at h
        · exact num (List.head_eq_of_cons_eq (show [_] = [_] from rv_one rfl hv))
        · exact num (List.head_eq_of_cons_eq (show [_] = [_] from rv_one rfl hv))
        · exact num (List.head_eq_of_cons_eq (show [_] = [_] from rv_one rfl hv))
        · exact num (List.head_eq_of_cons_eq (show [_] = [_] from rv_one rfl hv))
        · simp only [decide_eq_true_eq] at h
          subst h
          exact num (List.head_eq_of_cons_eq (show [_] = [_] from rv_one rfl hv))
        · cases h
      · rename_i n E hT
        split at h
        · rename_i n' e
          simp only [Bool.and_eq_true] at h
          obtain ⟨h1, h2, h3⟩ := h
          obtain rfl := Nat.eq_of_beq_eq_true h1
          obtain ⟨hsz, i, hi⟩ := szIs_cells h2
          obtain ⟨cs, rfl, g1, g2, g3, g4⟩ := rv_agg rfl hv
          have each : ∀ i, i < n → ∃ a, (part E cs.toArray (i * e.sz)).run P w' = .ok a w' ∧ (Instr.checkKey em D E a).run P w' = .ok () w' := by
            intro i hi'
            obtain ⟨x', hx'⟩ : ∃ x', x[i]? = some x' := ⟨x[i]'(by rw [g1]; exact hi'), List.getElem?_eq_getElem _⟩
            have e1 := g4 i x' hx'
            rw [e.sz_rty] at e1
            obtain ⟨a, p1, p2⟩ := part_ok (w' := w') (xs := cs.toArray) (off := i * e.sz) h3 h2 (by simpa using e1)
            exact ⟨a, p1, ih.1 _ _ _ _ _ h3 hD p2⟩
          unfold Instr.checkKey
          simp only [Sem.run_bind, run_underlying hT, Result.andThen_ok]
          simp only [Std.Legacy.Range.forIn_eq_forIn_range', Std.Legacy.Range.size, Nat.sub_zero, Nat.add_one_sub_one, Nat.div_one]
          have key : ∀ m j, j + m ≤ n → ∀ i ∈ List.range' j m, i < n := by
            intro m j hj i hi'
            have := List.mem_range'_1.1 hi'
            omega
          have all := key n 0 (by omega)
          generalize List.range' 0 n = is at all
          induction is with
          | nil => simp
          | cons i is ihi =>
            obtain ⟨a, p1, p2⟩ := each i (all i (by simp))
            simp only [List.forIn_cons, Sem.run_bind, run_sizeOf w' hi, hsz, Result.andThen_ok, p1, p2, Sem.run_pure]
            exact ihi fun j hj => all j (by simp [hj])
        · cases h
      · rename_i fs hT
        split at h
        · rename_i t
          simp only [Bool.and_eq_true, Bool.not_eq_true'] at h
          obtain ⟨cs, rfl, g1⟩ := rv_agg rfl hv
          unfold Instr.checkKey
          simp only [Sem.run_bind, run_underlying hT, Result.andThen_ok]
          rw [← Array.forIn_toList]
          have hl1 := t.rty.len g1
          rw [t.sz_rty] at hl1
          have a1 : ((cs.toArray).toList.drop 0).take t.sz = cs := by rw [List.drop_zero, List.take_of_length_le (Nat.le_of_eq hl1)]
          have each := ih.2 fs.toList 0 t x cs.toArray D h.2 hD (by rw [a1]; exact g1)
          generalize fs.toList = Lf at each
          induction Lf with
          | nil => simp
          | cons f Lf ihf =>
            obtain ⟨hn, a, p1, p2⟩ := each f (by simp)
            simp only [List.forIn_cons, Sem.run_bind, hn, ne_eq, not_false_eq_true, if_true, Result.andThen_ok, p1, p2, Sem.run_pure]
            exact ihf fun g hg => each g (by simp [hg])
        · cases h
      · cases h
    · cases fs with
      | nil => simp
      | cons f fs =>
        unfold cmpFs at h
        split at h
        · rename_i a b
          simp only [Bool.and_eq_true] at h
          obtain ⟨c1, c2, g0, g1, g2⟩ := hx
          have hc1 := a.rty.len g1
          rw [a.sz_rty] at hc1
          have hc2 := b.rty.len g2
          rw [b.sz_rty] at hc2
          have cut : (xs.toList.drop off).take a.sz = c1 ∧ (xs.toList.drop (off + a.sz)).take b.sz = c2 := by
            have hs : (Ty.pair a b).sz = a.sz + b.sz := rfl
            rw [hs, List.take_add] at g0
            have hh := List.append_inj g0 (by
              have h3 := congrArg List.length g0
              simp only [List.length_append, List.length_take, List.length_drop] at h3 ⊢
              omega)
            rw [List.drop_drop] at hh
            exact hh
          obtain ⟨q1, a', p1, p2⟩ := one f off a x.1 xs D h.1 h.2.1 (by omega) (by rw [cut.1]; exact g1)
          have rest := ih.2 fs (off + a.sz) b x.2 xs D h.2.2 (by omega) (by rw [cut.2]; exact g2)
          intro g hg
          rcases List.mem_cons.1 hg with rfl | hg
          · exact ⟨q1, a', p1, p2⟩
          · exact rest g hg
        · split at h
          · simp only [Bool.and_eq_true] at h
            obtain ⟨q1, a', p1, p2⟩ := one f off t x xs D h.1 h.2 (by omega) hx
            intro g hg
            rcases List.mem_cons.1 hg with rfl | hg
            · exact ⟨q1, a', p1, p2⟩
            · simp at hg
          · cases h
theorem findNow_ok {T : TypeId} {kd : TypeDesc} (hT : P.underlying T = some kd) : ∀ (es : List MapEntry) (i : Nat) (r : Option (Nat × Value)), Instr.findNow kd v es i = some r → (Instr.findAsking T v es i).run P w = .ok r w
  | [], i, r, h => by cases h; rfl
  | e :: es, i, r, h => by
    have eqs : ∀ c, Instr.sameNow kd v e.key = some c → (Op.equal T v e.key).run P w = .ok c w := by
      intro c hc
      unfold Instr.sameNow at hc
      revert hc
      generalize e.key = ek
      cases kd <;> cases v <;> cases ek <;> intro hc <;> simp only [reduceCtorEq] at hc
      · cases hc
        exact run_equalIn_bool w 9999 T _ _ hT
      · split at hc
        · rename_i hk
          cases hc
          subst hk
          exact run_equalIn_int w 9999 T _ _ _ _ hT
        · cases hc
      · cases hc
        show (Op.equalIn (9999 + 1) T _ _).run P w = _
        rw [run_equalIn_string w 9999 T _ _ hT, beq_toListBytes]
    unfold Instr.findNow at h
    unfold Instr.findAsking
    split at h
    · rename_i hs
      cases h
      simp only [Sem.run_bind, eqs true hs, Result.andThen_ok, if_true, Sem.run_pure]
    · rename_i hs
      simp only [Sem.run_bind, eqs false hs, Result.andThen_ok, Bool.false_eq_true, if_false]
      exact findNow_ok hT es (i + 1) r h
    · cases h
theorem findKey_asks {d : Nat} {T : TypeId} {es : List MapEntry} {r : Option (Nat × Value)} (hc : cmpTy P d T kt = true) (h : (Instr.findAsking T v es).run P w = .ok r w) : (Instr.findKey T v es).run P w = .ok r w := by
  obtain ⟨k, hk, _⟩ := cmpTy_agg hc
  unfold Instr.findKey
  simp only [Sem.run_bind, run_underlying hk, Result.andThen_ok]
  split
  · rename_i r' hr
    have := findNow_ok (w := w) hk es 0 r' hr
    rw [this] at h
    cases h
    rfl
  · exact h
theorem findKey_ok {d : Nat} {T : TypeId} (hc : cmpTy P d T kt = true) (hd : d ≤ 10000) (hv : rv Z w kt x v) {es : List MapEntry} {ys : List (kt.den × vt.den)} (hm : meR Z w kt vt es ys) :
    ((Instr.findKey T v es).run P w = .ok none w ∧ ∀ p ∈ ys, p.1 ≠ x) ∨ ∃ j e y, (Instr.findKey T v es).run P w = .ok (some (j, e.val)) w ∧ es[j]? = some e ∧ ys[j]? = some (x, y) := by
  have key : ∀ (es : List MapEntry) (ys : List (kt.den × vt.den)) (i : Nat), meR Z w kt vt es ys →
      ((Instr.findAsking T v es i).run P w = .ok none w ∧ ∀ p ∈ ys, p.1 ≠ x) ∨ ∃ j e y, (Instr.findAsking T v es i).run P w = .ok (some (i + j, e.val)) w ∧ es[j]? = some e ∧ ys[j]? = some (x, y) := by
    intro es
    induction es with
    | nil =>
      intro ys i hm
      cases ys with
      | nil => exact .inl ⟨rfl, by simp⟩
      | cons y ys => exact hm.elim
    | cons e es ih =>
      intro ys i hm
      cases ys with
      | nil => exact hm.elim
      | cons y ys =>
        have heq := equal_ok (w := w) hc hd hv hm.1
        unfold Instr.findAsking
        simp only [Sem.run_bind, heq, Result.andThen_ok]
        cases hb : eqV kt x y.1
        · have hne : y.1 ≠ x := fun h => by rw [h, eqV_self] at hb; cases hb
          simp only [Bool.false_eq_true, if_false]
          rcases ih ys (i + 1) hm.2.2 with ⟨h1, h2⟩ | ⟨j, e', y', h1, h2, h3⟩
          · exact .inl ⟨h1, fun p hp => by
              rcases List.mem_cons.1 hp with rfl | hp
              · exact hne
              · exact h2 p hp⟩
          · exact .inr ⟨j + 1, e', y', by rw [h1, Nat.add_assoc, Nat.add_comm 1 j], by simpa using h2, by simpa using h3⟩
        · have he := (eqV_iff kt x y.1).1 hb
          exact .inr ⟨0, e, y.2, by simp, rfl, by rw [he]; rfl⟩
  rcases key es ys 0 hm with ⟨h1, h2⟩ | ⟨j, e, y, h1, h2, h3⟩
  · exact .inl ⟨findKey_asks hc h1, h2⟩
  · exact .inr ⟨j, e, y, findKey_asks hc (by simpa using h1), h2, h3⟩
theorem rv_same (hf : kt.flat = true) (h1 : rv Z w kt x v) (h2 : rv Z w kt x u) : v = u := by
  cases ha : kt.isAgg
  · have e1 := kt.rel_enc hf (rv_one ha h1)
    have e2 := kt.rel_enc hf (rv_one ha h2)
    rw [← e2] at e1
    exact List.head_eq_of_cons_eq e1
  · obtain ⟨c1, rfl, g1⟩ := rv_agg ha h1
    obtain ⟨c2, rfl, g2⟩ := rv_agg ha h2
    rw [kt.rel_enc hf g1, kt.rel_enc hf g2]
theorem enc_scal : ∀ (t : Ty) (n : Nat) (x : t.den), ∀ c ∈ t.enc x, Instr.sameBits n c c = true
  | .sint k, n, x, c, h => by simp only [Ty.enc, List.mem_singleton] at h; subst h; cases n <;> simp [Instr.sameBits]
  | .u8, n, x, c, h => by simp only [Ty.enc, List.mem_singleton] at h; subst h; cases n <;> simp [Instr.sameBits, Hyp.u8]
  | .u16, n, x, c, h => by simp only [Ty.enc, List.mem_singleton] at h; subst h; cases n <;> simp [Instr.sameBits, Hyp.u16]
  | .u32, n, x, c, h => by simp only [Ty.enc, List.mem_singleton] at h; subst h; cases n <;> simp [Instr.sameBits, Hyp.u32]
  | .u64, n, x, c, h => by simp only [Ty.enc, List.mem_singleton] at h; subst h; cases n <;> simp [Instr.sameBits, Hyp.u64]
  | .bool, n, x, c, h => by simp only [Ty.enc, List.mem_singleton] at h; subst h; cases n <;> simp [Instr.sameBits]
  | .str, n, x, c, h => by
    simp only [Ty.enc, List.mem_singleton] at h
    subst h
    cases n <;> simp [Instr.sameBits, Hyp.str, beq_toListBytes]
  | .unit, n, x, c, h => by simp [Ty.enc] at h
  | .arr m e, n, xs, c, h => by
    simp only [Ty.enc, List.mem_flatMap] at h
    obtain ⟨x, _, hc⟩ := h
    exact enc_scal e n x c hc
  | .pair a b, n, x, c, h => by
    simp only [Ty.enc, List.mem_append] at h
    rcases h with h | h
    · exact enc_scal a n _ c h
    · exact enc_scal b n _ c h
  | .rcd t, n, x, c, h => enc_scal t n x c h
  | .list e, n, x, c, h => by simp [Ty.enc] at h
theorem stays_ok (hf : kt.flat = true) (h1 : rv Z w kt x v) : (Instr.keyThatStays v v).run P w' = .ok v w' := by
  have hs : Instr.sameBits 10000 v v = true := by
    cases ha : kt.isAgg
    · have e1 := kt.rel_enc hf (rv_one ha h1)
      exact enc_scal kt 10000 x v (by rw [← e1]; simp)
    · obtain ⟨c1, rfl, g1⟩ := rv_agg ha h1
      have e1 := kt.rel_enc hf g1
      show Instr.sameBits (9999 + 1) _ _ = true
      simp only [Instr.sameBits, beq_self_eq_true, Bool.true_and, List.all_eq_true]
      intro p hp
      obtain ⟨i, hi, e⟩ := List.getElem_of_mem hp
      rw [List.getElem_zip] at e
      rw [← e]
      exact enc_scal kt 9999 x _ (by rw [← e1]; simp)
  simp [Instr.keyThatStays, hs]
end
end Hyp
set_option linter.unusedVariables false
set_option linter.unusedSimpArgs false
namespace Hyp
open Go
def asD (t : Ty) (a : AV) : Option t.den := bif (bif a.isAgg then t.isAgg else !t.isAgg) && a.okC then implode t a else none
def mapTys (P : Program) (T : TypeId) (kt : Ty) : Option (TypeId × TypeId) := match P.underlying T with
  | some (.map K V) => bif cmpTy P deep K kt then some (K, V) else none
  | _ => none
def zeroD (P : Program) (V : TypeId) (vt : Ty) : Option vt.den := match zeroOf P V with
  | some (az, z) => bif (match z with | .agg _ => vt.isAgg | _ => !vt.isAgg) then implode vt az else none
  | none => none
def lookupT (P : Program) (T : TypeId) (m k : AV) (ok : Bool) (L : List En) : Tree AV := match m with
  | .mpv key => match findE L key with
    | some ⟨_, _, .mp kt vt xs⟩ => match mapTys P T kt, asD kt k with
      | some (_, V), some x => match zeroD P V vt with
        | some z => .ret (bif ok then .tup (.pr (explode vt (mgetD kt vt xs x z)) (.pr (.val .bool (mget kt vt xs x).isSome) .un)) else explode vt (mgetD kt vt xs x z))
        | none => .fail
      | _, _ => .fail
    | _ => .fail
  | _ => .fail
def mapUpdT (P : Program) (T : TypeId) (m k x : AV) (L : List En) (b : Nat) : Tree MR := match m with
  | .mpv key => match findE L key with
    | some ⟨_, _, .mp kt vt xs⟩ => match mapTys P T kt, asD kt k, asD vt x with
      | some _, some k, some y => .ret (.und, setE L key ⟨key, b, .mp kt vt (mput kt vt xs k y)⟩, b + 1)
      | _, _, _ => .fail
    | _ => .fail
  | _ => .fail
def mapDelT (P : Program) (T : TypeId) (m k : AV) (L : List En) (b : Nat) : Tree MR := match m with
  | .mpv key => match findE L key with
    | some ⟨_, _, .mp kt vt xs⟩ => match mapTys P T kt, asD kt k with
      | some _, some k => .ret (.tup .un, setE L key ⟨key, b, .mp kt vt (mdel kt vt xs k)⟩, b + 1)
      | _, _ => .fail
    | _ => .fail
  | _ => .fail
def makeMapT (P : Program) (T : TypeId) (L : List En) (b : Nat) : Tree MR := match P.underlying T with
  | some (.map K V) => match tyOf P deep K, tyOf P deep V with
    | some kt, some vt => .ret (.mpv b, ⟨b, b, .mp kt vt []⟩ :: L, b + 1)
    | _, _ => .fail
  | _ => .fail
def mapLenT (P : Program) (T : TypeId) (m : AV) (L : List En) : Tree AV := match m with
  | .mpv key => match findE L key, P.underlying T with
    | some ⟨_, _, .mp kt vt xs⟩, some (.map _ _) => .ret (numA .i64 ((xs.length : Nat) : Int))
    | _, _ => .fail
  | _ => .fail
def rangeT (P : Program) (T : TypeId) (m : AV) (L : List En) (b : Nat) : Tree MR := match m with
  | .mpv key => match findE L key, P.underlying T with
    | some ⟨_, _, .mp kt vt xs⟩, some (.map _ _) => .ret (.ptr (b + 1) 0, ⟨b + 1, b + 1, .it key b kt vt xs⟩ :: setE L key ⟨key, b, .mp kt vt xs⟩, b + 2)
    | _, _ => .fail
  | _ => .fail
def nextT (it : AV) (L : List En) (b : Nat) : Tree MR := match it with
  | .ptr ik 0 => match findE L ik with
    | some ⟨_, _, .it mk mv kt vt xs⟩ => match findE L mk with
      | some ⟨_, mv', .mp _ _ _⟩ => bif Nat.beq mv mv' then
          .ite xs.isEmpty (.ret (.tup (.pr .ff .un), L, b))
            (.all (fun p : (kt.den × vt.den) × List (kt.den × vt.den) => (p.1 :: p.2).Perm xs) fun p =>
              .ret (.tup (.pr .tt (.pr (explode kt p.1.1) (.pr (explode vt p.1.2) .un))), setE L ik ⟨ik, b, .itc mk mv kt vt p.1.1 p.1.2 p.2⟩, b + 1)) else .fail
      | _ => .fail
    | _ => .fail
  | _ => .fail
def entryT (it : AV) (L : List En) : Tree AV := match it with
  | .ptr ik 0 => match findE L ik with
    | some ⟨_, _, .itc mk mv kt vt kx vx xs⟩ => match findE L mk with
      | some ⟨_, mv', .mp _ _ _⟩ => bif Nat.beq mv mv' then .ret (.tup (.pr (explode kt kx) (.pr (explode vt vx) .un))) else .fail
      | _ => .fail
    | _ => .fail
  | _ => .fail
section
variable {P : Program} {ty T U : TypeId} {f : Fr} {w w' : World} {B : Base} {ν ν' : Nms} {b b' : Nat} {Z : Nat → Prop} {L L' : List En} {F : List Ent} {x y z : Operand} {p q a : AV} {kt vt t : Ty} {v u : Value}
theorem asD_ok {d : t.den} (h : asD t p = some d) (hs : slotR ν b Z w p v) : rv Z w t d v := by
  unfold asD at h
  cases hc : ((bif p.isAgg then t.isAgg else !t.isAgg) && p.okC) <;> rw [hc] at h
  · cases h
  · simp only [cond_true] at h
    simp only [Bool.and_eq_true] at hc
    obtain ⟨k1, k2, k3⟩ := AV.okC_ok hc.2
    have hv : avV ν b Z w p v := by
      unfold slotR at hs
      split at hs
      · exact absurd rfl k2
      · exact absurd rfl k3
      · exact (k1 _ rfl).elim
      · exact hs
    unfold avV at hv
    cases ha : p.isAgg
    · rw [if_neg (by simp [ha])] at hv
      rw [ha] at hc
      have ht : t.isAgg = false := by simpa using hc.1
      exact rv_of_one ht (implode_ok t hv h)
    · rw [if_pos ha] at hv
      obtain ⟨cs, rfl, h2⟩ := hv
      rw [ha] at hc
      exact rv_of_agg hc.1 (implode_ok t h2 h)
theorem explode_agg (t : Ty) (d : t.den) : (explode t d).isAgg = t.isAgg := by cases t <;> rfl
theorem explode_avV {d : t.den} (h : rv Z w t d v) : avV ν b Z w (explode t d) v := by
  unfold avV
  rw [explode_agg]
  cases ha : t.isAgg
  · rw [if_neg (by simp)]
    exact explode_ok t (rv_one ha h)
  · rw [if_pos rfl]
    obtain ⟨cs, rfl, h2⟩ := rv_agg ha h
    exact ⟨cs, rfl, explode_ok t h2⟩
theorem zeroD_ok {V : TypeId} {d : vt.den} (h : zeroD P V vt = some d) : ∃ z, (∀ w : World, (zeroValue V).run P w = .ok z w) ∧ ∀ (Z : Nat → Prop) (w : World), rv Z w vt d z := by
  unfold zeroD at h
  split at h
  · rename_i az z hz
    obtain ⟨h1, h2⟩ := zeroOf_ok hz
    cases hc : (match z with | .agg _ => vt.isAgg | _ => !vt.isAgg) <;> rw [hc] at h
    · cases h
    · simp only [cond_true] at h
      refine ⟨z, fun w => h1.run, fun Z w => ?_⟩
      have h3 := implode_ok vt (h2 (ν := fun _ => ⟨0, undef, []⟩) (b := 0) (Z := Z) (w := w)) h
      cases z with
      | agg cs => exact rv_of_agg (cs := cs.toList) hc h3
      | _ =>
        refine rv_of_one (by simpa using hc) ?_
        exact h3
  · cases h
theorem mapTys_ok {K V : TypeId} (h : mapTys P T kt = some (K, V)) : P.underlying T = some (.map K V) ∧ cmpTy P deep K kt = true := by
  unfold mapTys at h
  split at h
  · rename_i K' V' hu
    cases hc : cmpTy P deep K' kt <;> rw [hc] at h
    · cases h
    · cases h; exact ⟨hu, hc⟩
  · cases h
structure MapAt (ν : Nms) (b : Nat) (Z : Nat → Prop) (w : World) (L : List En) (F : List Ent) (key vid : Nat) (kt vt : Ty) (xs : List (kt.den × vt.den)) (i : Nat) (es : Array MapEntry) (clock : Nat) (ys : List (kt.den × vt.den)) : Prop where
  at_ : L[i]? = some ⟨key, vid, .mp kt vt xs⟩
  ent : (ents ν L ++ F)[i]? = some (mpe (ν key).g (ν vid).cs)
  set : ∀ x, setE L key x = L.set i x
  heap : w.heap[(ν key).g]? = some (.map es clock)
  cells : (ν vid).cs = mEnc es.toList clock
  rel : meR Z w kt vt es.toList ys
  perm : ys.Perm xs
  born : ∀ e ∈ es.toList, e.born < clock
  dist : (es.toList.map (·.born)).Nodup
  keys : (xs.map (·.1)).Nodup
  klt : key < b
  vlt : vid < b
theorem map_at {key k' vid : Nat} {xs : List (kt.den × vt.den)} (H : Here B ν b w L F) (h : findE L key = some ⟨k', vid, .mp kt vt xs⟩) : ∃ i es clock ys, MapAt ν b (B.Z (ents ν L ++ F)) w L F key vid kt vt xs i es clock ys := by
  obtain ⟨i, h1, h2, h3⟩ := findE_ok h
  simp only at h2
  subst h2
  have hf := H.fact _ (List.mem_of_getElem? h1)
  have he := ents_at (ν := ν) (F := F) h1
  obtain ⟨es, clock, g1, g2⟩ := H.own.all _ (List.mem_of_getElem? he)
  obtain ⟨es', clock', ys, k1, k2, k3, k4, k5, k6⟩ := hf.2.2
  have hcs : (ν vid).cs = mEnc es.toList clock := g2
  simp only at k1
  rw [hcs] at k1
  obtain ⟨rfl, rfl⟩ := mEnc_inj k1
  exact ⟨i, es, clock, ys, h1, he, h3, g1, hcs, k2, k3, k4, k5, k6, hf.1, hf.2.1⟩
theorem meR_len {es : List MapEntry} {ys : List (kt.den × vt.den)} : meR Z w kt vt es ys → es.length = ys.length := by
  induction es generalizing ys with
  | nil => cases ys with
    | nil => exact fun _ => rfl
    | cons _ _ => exact fun h => h.elim
  | cons e es ih => cases ys with
    | nil => exact fun h => h.elim
    | cons y ys => exact fun h => by simp [ih h.2.2]
theorem meR_at : ∀ {es : List MapEntry} {ys : List (kt.den × vt.den)} {j : Nat} {e : MapEntry} {y : kt.den × vt.den}, meR Z w kt vt es ys → es[j]? = some e → ys[j]? = some y → rv Z w kt y.1 e.key ∧ rv Z w vt y.2 e.val
  | e :: es, y :: ys, 0, _, _, h, h1, h2 => by cases h1; cases h2; exact ⟨h.1, h.2.1⟩
  | e :: es, y :: ys, j + 1, _, _, h, h1, h2 => meR_at h.2.2 (by simpa using h1) (by simpa using h2)
  | [], _, _, _, _, _, h1, _ => by simp at h1
  | _ :: _, [], _, _, _, h, _, _ => h.elim
theorem meR_set : ∀ {es : List MapEntry} {ys : List (kt.den × vt.den)} {j : Nat} {e : MapEntry} {y : kt.den × vt.den}, meR Z w kt vt es ys → rv Z w kt y.1 e.key → rv Z w vt y.2 e.val → meR Z w kt vt (es.set j e) (ys.set j y)
  | [], [], _, _, _, _, _, _ => trivial
  | e :: es, y :: ys, 0, _, _, h, h1, h2 => ⟨h1, h2, h.2.2⟩
  | e :: es, y :: ys, j + 1, _, _, h, h1, h2 => ⟨h.1, h.2.1, meR_set h.2.2 h1 h2⟩
  | [], _ :: _, _, _, _, h, _, _ => h.elim
  | _ :: _, [], _, _, _, h, _, _ => h.elim
theorem meR_push : ∀ {es : List MapEntry} {ys : List (kt.den × vt.den)} {e : MapEntry} {y : kt.den × vt.den}, meR Z w kt vt es ys → rv Z w kt y.1 e.key → rv Z w vt y.2 e.val → meR Z w kt vt (es ++ [e]) (ys ++ [y])
  | [], [], _, _, _, h1, h2 => ⟨h1, h2, trivial⟩
  | e :: es, y :: ys, _, _, h, h1, h2 => ⟨h.1, h.2.1, meR_push h.2.2 h1 h2⟩
  | [], _ :: _, _, _, h, _, _ => h.elim
  | _ :: _, [], _, _, h, _, _ => h.elim
theorem meR_erase : ∀ {es : List MapEntry} {ys : List (kt.den × vt.den)} {j : Nat}, meR Z w kt vt es ys → meR Z w kt vt (es.eraseIdx j) (ys.eraseIdx j)
  | [], [], _, _ => trivial
  | e :: es, y :: ys, 0, h => h.2.2
  | e :: es, y :: ys, j + 1, h => ⟨h.1, h.2.1, meR_erase h.2.2⟩
  | [], _ :: _, _, h => h.elim
  | _ :: _, [], _, h => h.elim
def setB (w : World) (r : Nat) (o : Obj) : World := { w with heap := w.heap.setIfInBounds r o }
theorem setB_same {r : Nat} {o o' : Obj} (h : w.heap[r]? = some o) : (setB w r o').heap[r]? = some o' := by
  have := (Array.getElem?_eq_some_iff.1 h).1
  simp [setB, Array.getElem?_setIfInBounds, this]
theorem setB_other {r k : Nat} {o' : Obj} (h : k ≠ r) : (setB w r o').heap[k]? = w.heap[k]? := by
  simp [setB, Array.getElem?_setIfInBounds, Ne.symm h]
theorem setB_size {r : Nat} {o' : Obj} : (setB w r o').heap.size = w.heap.size := by simp [setB]
theorem Own.setB {w0 : World} {o : Nat → Prop} {l : List Ent} {i r : Nat} {e e' : Ent} {ob ob' : Obj} (H : Own w0 o w l) (hi : l[i]? = some e) (hf : ∀ k, e.foot k ↔ k = r) (hf' : ∀ k, e'.foot k ↔ k = r) (hh : w.heap[r]? = some ob) (h' : e'.holds (setB w r ob')) : Own w0 o (setB w r ob') (l.set i e') := by
  refine H.put i hi (by rw [setB_size]; exact Nat.le_refl _) (fun k _ hk => setB_other fun h => hk ((hf k).2 h)) h' (fun k hk => ?_)
  have : k = r := (hf' k).1 hk
  subst this
  have := (Array.getElem?_eq_some_iff.1 hh).1
  exact ⟨by rw [setB_size]; exact this, fun _ => (hf k).2 rfl⟩
theorem Own.new1 {w0 : World} {o : Nat → Prop} {l : List Ent} {e' : Ent} {x : Obj} (H : Own w0 o w l) (hf : ∀ k, e'.foot k ↔ k = w.heap.size) (hh : e'.holds (w.alloc x)) : Own w0 o (w.alloc x) (e' :: l) := by
  have h1 := H.alloc x
  have h2 := h1.put (w' := w.alloc x) 0 (e' := e') rfl (Nat.le_refl _) (fun b _ _ => rfl) hh (fun k hk => by
    have := (hf k).1 hk
    subst this
    simp)
  simpa using h2
theorem lookupT_ok {k : Operand} {ok : Bool} (H : Here B ν b w L F) (hm : slotR ν b (B.Z (ents ν L ++ F)) w p (ev f x)) (hk : slotR ν b (B.Z (ents ν L ++ F)) w q (ev f k)) :
    Q P (.lookup T x k ok) ty f w ν b (B.Z (ents ν L ++ F)) (lookupT P T p q ok L) := by
  refine Q.of fun a ha => ?_
  unfold lookupT at ha
  split at ha
  · rename_i key
    split at ha
    · rename_i k' vid kt vt xs hfind
      split at ha
      · rename_i K V d hT hd
        split at ha
        · rename_i z hz
          obtain ⟨hu, hcmp⟩ := mapTys_ok hT
          obtain ⟨i, es, clock, ys, A⟩ := map_at H hfind
          have hrv := asD_ok hd hk
          obtain ⟨zv, hz1, hz2⟩ := zeroD_ok hz
          have hx : ev f x = .map (some (ν key).g) := List.head_eq_of_cons_eq (show [_] = [_] from hm.2)
          have hck := (checkKey_ok (P := P) (w' := w) (Z := B.Z (ents ν L ++ F)) (w := w) es.isEmpty deep).1 K kt d (ev f k) 10000 hcmp (by decide) hrv
          have main : ∃ yv, (Instr.lookup T (ev f x) (ev f k) ok).run P w = .ok (if ok = true then .tuple #[yv, .bool (mget kt vt xs d).isSome] else yv) w ∧ rv (B.Z (ents ν L ++ F)) w vt ((mget kt vt xs d).getD z) yv := by
            rcases findKey_ok (P := P) hcmp (by decide) hrv A.rel with ⟨h1, h2⟩ | ⟨j, e, y, h1, h2, h3⟩
            · refine ⟨zv, ?_, ?_⟩
              · rw [hx, perm_none A.perm h2]
                simp [Instr.lookup, run_underlying hu, MapKept.run_getObj_map A.heap, hck, h1, hz1]
              · rw [perm_none A.perm h2]
                exact hz2 _ _
            · refine ⟨e.val, ?_, ?_⟩
              · rw [hx, perm_some A.perm A.keys h3]
                simp [Instr.lookup, run_underlying hu, MapKept.run_getObj_map A.heap, hck, h1]
              · rw [perm_some A.perm A.keys h3]
                exact (meR_at A.rel h2 h3).2
          obtain ⟨yv, h1, h2⟩ := main
          refine ⟨_, by simp only [execOp, bare, Sem.run_bind, h1, Result.andThen_ok, Sem.run_pure]; rfl, ?_⟩
          cases ok
          · cases ha
            exact .of (explode_avV h2)
          · cases ha
            exact ⟨[yv, .bool (mget kt vt xs d).isSome], rfl, yv, _, rfl, explode_avV h2, _, _, rfl, (by unfold avV; exact rfl), rfl⟩
        · cases ha
      · cases ha
    · cases ha
  · cases ha
end
end Hyp
