/- Still more operations that only compute. -/
import Derived.Test.YtdlbmjbbnplpjaaMe
set_option linter.unusedVariables false
set_option linter.unusedSimpArgs false
namespace Hyp
open Go
theorem addAdd (ad : Addr) (m n : Nat) : (ad.add m).add n = ad.add (m + n) := by
  unfold Addr.add
  by_cases hi : m = 0 <;> by_cases hj : n = 0 <;> simp [hi, hj, Nat.add_assoc]
theorem RSl.sub {α : Type} {A : RTy α} {S : Nat → Prop} {w : World} {v : Value} {xs : List α} (h : RSl A S w v xs) (lo hi : Nat) (h1 : lo ≤ hi) (h2 : hi ≤ xs.length) : RSl A S w (subv A.sz v lo hi) ((xs.drop lo).take (hi - lo)) := by
  obtain ⟨cs, g1, g2, g3, g4⟩ := h
  have hl : ((xs.drop lo).take (hi - lo)).length = hi - lo := by simp; omega
  have e1 : lo * A.sz + (hi - lo) * A.sz = hi * A.sz := by rw [← Nat.add_mul]; congr 1; omega
  have e2 : hi * A.sz ≤ cs.length := by rw [g2]; exact Nat.mul_le_mul_right _ h2
  refine ⟨(cs.drop (lo * A.sz)).take ((hi - lo) * A.sz), by rw [hl]; exact g1.sub A.sz lo hi h1 h2 g2, by rw [hl, List.length_take, List.length_drop]; omega, ?_, ?_⟩
  · simp only [ones, List.all_eq_true] at g3 ⊢
    exact fun x hx => g3 x (List.mem_of_mem_drop (List.mem_of_mem_take hx))
  · intro i x hx
    have hi2 : i < hi - lo := by have := (List.getElem?_eq_some_iff.1 hx).1; omega
    rw [List.getElem?_take_of_lt hi2, List.getElem?_drop] at hx
    have h5 := g4 (lo + i) x hx
    have e3 : (i + 1) * A.sz ≤ (hi - lo) * A.sz := Nat.mul_le_mul_right _ hi2
    rw [Nat.succ_mul] at e3
    rw [List.drop_take, List.take_take, List.drop_drop, ← Nat.add_mul, Nat.min_eq_left (by omega)]
    exact h5
theorem RSl.sub3 {α : Type} {A : RTy α} {S : Nat → Prop} {w : World} {v : Value} {xs : List α} (h : RSl A S w v xs) (lo hi mx : Nat) (h1 : lo ≤ hi) (h2 : hi ≤ mx) (h3 : mx ≤ xs.length) : RSl A S w (subv3 A.sz v lo hi mx) ((xs.drop lo).take (hi - lo)) := by
  obtain ⟨cs, g1, g2, g3, g4⟩ := h
  have hl : ((xs.drop lo).take (hi - lo)).length = hi - lo := by simp; omega
  have e1 : lo * A.sz + (hi - lo) * A.sz = hi * A.sz := by rw [← Nat.add_mul]; congr 1; omega
  have e2 : hi * A.sz ≤ cs.length := by rw [g2]; exact Nat.mul_le_mul_right _ (by omega)
  refine ⟨(cs.drop (lo * A.sz)).take ((hi - lo) * A.sz), by rw [hl]; exact g1.sub3 A.sz lo hi h1 (by omega) g2 mx h2 h3, by rw [hl, List.length_take, List.length_drop]; omega, ?_, ?_⟩
  · simp only [ones, List.all_eq_true] at g3 ⊢
    exact fun x hx => g3 x (List.mem_of_mem_drop (List.mem_of_mem_take hx))
  · intro i x hx
    have hi2 : i < hi - lo := by have := (List.getElem?_eq_some_iff.1 hx).1; omega
    rw [List.getElem?_take_of_lt hi2, List.getElem?_drop] at hx
    have h5 := g4 (lo + i) x hx
    have e3 : (i + 1) * A.sz ≤ (hi - lo) * A.sz := Nat.mul_le_mul_right _ hi2
    rw [Nat.succ_mul] at e3
    rw [List.drop_take, List.take_take, List.drop_drop, ← Nat.add_mul, Nat.min_eq_left (by omega)]
    exact h5
/-- The parts of a slice expression: a bound that is missing, or a number. -/
def bndA (r : Operand → AV) (x : Option Operand) (d : Int) : Option Int := match x with
  | none => some d
  | some p => match (r p).int? with | some (_, n) => some n | none => none
/-- l[lo:hi] of so many: as two counts. -/
def bndT {α : Type} (lo hi : Int) (n : Nat) (k : Nat → Nat → Tree α) : Tree α := .get (if 0 ≤ lo ∧ lo ≤ hi ∧ hi ≤ n then some () else none) fun _ => k lo.toNat hi.toNat
def und? (P : Program) (T : TypeId) : Option TypeDesc := P.underlying T
/-- The number of cells of a slice type's element. -/
def elemSz (P : Program) (T : TypeId) : Option Nat := match P.underlying T with
  | some (.slice e) => (P.info? e).map (·.size)
  | _ => none
def isStrT (P : Program) (T : TypeId) : Bool := match P.underlying T with | some .string => true | _ => false
def sliceStrT (P : Program) (T : TypeId) (s : List UInt8) (lo hi : Int) : Tree AV := bif isStrT P T then .get (subI s lo hi) fun y => .ret (.val .str y) else .fail
def sliceRoT (P : Program) (T : TypeId) (e : Ty) (xs : List e.den) (lo hi : Int) : Tree AV := match elemSz P T with
  | some s => bif Nat.beq s e.sz then .get (subI xs lo hi) fun y => .ret (.ro false e y) else .fail
  | none => .fail
def sliceRo3T (P : Program) (T : TypeId) (e : Ty) (xs : List e.den) (lo hi mx : Int) : Tree AV := match elemSz P T with
  | some s => bif Nat.beq s e.sz then .get (if hi ≤ mx ∧ mx ≤ xs.length then subI xs lo hi else none) fun y => .ret (.ro (decide (hi = mx)) e y) else .fail
  | none => .fail
mutual
/-- The type of pure data of a Go type. -/
def tyOf (P : Program) : Nat → TypeId → Option Ty
  | 0, _ => none
  | d + 1, t => match P.underlying t with
    | some .bool => some .bool
    | some (.int .u8) => some .u8
    | some (.int .u16) => some .u16
    | some (.int .u32) => some .u32
    | some (.int .u64) => some .u64
    | some (.int k) => some (.sint k)
    | some .string => some .str
    | some (.array n e) => (tyOf P d e).map (.arr n)
    | some (.slice e) => (tyOf P d e).map .list
    | some (.struct fs) => (tysOf P d fs.toList).map .rcd
    | _ => none
def tysOf (P : Program) : Nat → List Field → Option Ty
  | 0, _ => none
  | _ + 1, [] => some .unit
  | d + 1, [f] => tyOf P d f.type
  | d + 1, f :: fs => (tyOf P d f.type).bind fun a => (tysOf P d fs).map fun b => .pair a b
end
def deep : Nat := 40
def arrTy (P : Program) (et : TypeId) : Option Ty := tyOf P deep et
def isC0 : Option Operand → Bool
  | none => true
  | _ => false
def sliceT (P : Program) (r : Operand → AV) (T : TypeId) (x : AV) (lo hi mx : Option Operand) : Tree AV := match x with
  | .val .str s => match bndA r lo 0, bndA r hi (s.length : Nat), mx with
    | some a, some c, none => sliceStrT P T s a c
    | _, _, _ => .fail
  | .ro _ e xs => match bndA r lo 0, bndA r hi (xs.length : Nat), mx with
    | some a, some c, none => sliceRoT P T e xs a c
    | some a, some c, some m => bif isC0 hi then .fail else match (r m).int? with | some (_, m) => sliceRo3T P T e xs a c m | none => .fail
    | _, _, _ => .fail
  | .win k s l n => match bndA r lo 0, bndA r hi (n : Nat), mx with
    | some a, some c, none => match elemSz P T with
      | some s' => bif Nat.beq s s' then bndT a c n fun a c => .ret (.win k s (l + a) (c - a)) else .fail
      | none => .fail
    | _, _, _ => .fail
  | .bwin k off e N l n => match bndA r lo 0, bndA r hi (n : Nat), mx with
    | some a, some c, none => match elemSz P T with
      | some s' => bif Nat.beq s' e.sz then bndT a c n fun a c => .ret (.bwin k off e N (l + a) (c - a)) else .fail
      | none => .fail
    | _, _, _ => .fail
  | .ptr k off => match P.underlying T, mx with
    | some (.array N et), none => match bndA r lo 0, bndA r hi (N : Nat), (P.info? et).map (·.size), arrTy P et with
      | some a, some c, some s, some e => bif Nat.beq s e.sz && Nat.ble N 9223372036854775807 then bndT a c N fun a c => .ret (.bwin k off e N a (c - a)) else .fail
      | _, _, _, _ => .fail
    | _, _ => .fail
  | _ => .fail
section
variable {P : Program} {ty T U : TypeId} {f : Fr} {w : World} {ν : Nms} {b : Nat} {Z : Nat → Prop} {x y : Operand} {p q : AV} {c : Bool}
theorem moveT_ok (hx : slotR ν b Z w p (ev f x)) : Q P (.move x) ty f w ν b Z (.ret p) := by
  intro a ha; cases ha; exact o_move ⟨rfl, hx⟩
theorem assignT_ok (hx : slotR ν b Z w p (ev f x)) : Q P (.assign x) ty f w ν b Z (.ret p) := by
  intro a ha; cases ha; exact o_assign ⟨rfl, hx⟩
theorem pickT_ok {z : Operand} {g : AV} {d : Bool} (hd : g.bool? = some d) (hz : slotR ν b Z w g (ev f z)) (hx : d = true → slotR ν b Z w p (ev f x)) (hy : d = false → slotR ν b Z w q (ev f y)) : Q P (.pick z x y) ty f w ν b Z (.ret (mergeAV d p q)) := by
  intro a ha
  cases ha
  refine o_pick (bool_ok hz hd) ⟨rfl, mergeAV_ok (fun h => ?_) (fun h => ?_)⟩
  · subst h; exact hx rfl
  · subst h; exact hy rfl
theorem nilCheckT_ok (hx : slotR ν b Z w p (ev f x)) : Q P (.nilCheck x) ty f w ν b Z (nilCheckT p) := by
  intro a ha
  unfold nilCheckT at ha
  split at ha
  · cases ha; exact o_nilCheck (sl_ptr hx).2 ⟨rfl, (sl_ptr hx).2 ▸ hx⟩
  · cases ha; exact o_nilCheck (sl_pel hx).2 ⟨rfl, (sl_pel hx).2 ▸ hx⟩
  · cases ha
    obtain ⟨h0, ad, m, c, h1, h2⟩ := hx
    have h3 := List.head_eq_of_cons_eq (show [_] = [_] from h2)
    exact o_nilCheck h3 ⟨rfl, h0, ad, m, c, h1, rfl⟩
  · cases ha
    obtain ⟨h0, ad, m, c, h1, h2⟩ := hx
    have h3 := List.head_eq_of_cons_eq (show [_] = [_] from h1)
    exact o_nilCheck h3 ⟨rfl, h0, ad, m, c, rfl, h2⟩
  · cases ha
theorem lenA_ok {v : Value} {n : Int} (hx : slotR ν b Z w p v) (h : lenA p = some n) : (∃ s, p = .val .str s ∧ n = (s.length : Nat)) ∨ ∃ m : Nat, n = m ∧ IsSl v m := by
  unfold lenA at h
  split at h <;> simp only [Option.some.injEq, reduceCtorEq] at h <;> subst h
  · exact .inl ⟨_, rfl, rfl⟩
  · exact .inr ⟨_, rfl, (sl_ro hx).1.is⟩
  · exact .inr ⟨_, rfl, (sl_win hx).2.1⟩
  · exact .inr ⟨_, rfl, (sl_bwin hx).2.1⟩
  · exact .inr ⟨0, rfl, by rw [sl_snil hx]; exact isSl_nil⟩
def isSlT (P : Program) (T : TypeId) : Bool := match P.underlying T with | some (.slice _) => true | _ => false
def lenT (P : Program) (T : TypeId) (x : AV) : Tree AV := match x with
  | .val .str s => bif isStrT P T then .ret (.val (.sint .i64) ((s.length : Nat) : Int)) else .fail
  | _ => match lenA x with | some n => bif isSlT P T then .ret (.val (.sint .i64) n) else .fail | none => .fail
theorem isStr_ok (h : isStrT P T = true) : P.underlying T = some .string := by
  unfold isStrT at h
  split at h
  · assumption
  · cases h
theorem isSl_ok (h : isSlT P T = true) : ∃ e, P.underlying T = some (.slice e) := by
  unfold isSlT at h
  split at h
  · exact ⟨_, by assumption⟩
  · cases h
theorem lenT_ok (hx : slotR ν b Z w p (ev f x)) : Q P (.call ⟨.builtin .len, #[x], #[T]⟩) ty f w ν b Z (lenT P T p) := by
  intro a ha
  unfold lenT at ha
  split at ha
  · cases h : isStrT P T <;> rw [h] at ha
    · cases ha
    · cases ha
      exact o_lenStr' (isStr_ok h) (sl_str hx) ⟨rfl, rfl⟩
  · split at ha
    · rename_i n hn
      cases h : isSlT P T <;> rw [h] at ha
      · cases ha
      · cases ha
        obtain ⟨e, he⟩ := isSl_ok h
        rcases lenA_ok hx hn with ⟨s, rfl, _⟩ | ⟨m, rfl, hm⟩
        · rename_i hne; exact absurd rfl (hne s)
        · exact o_lenSl he rfl hm ⟨rfl, rfl⟩
    · cases ha
theorem fieldAddrT_ok {i : Nat} (hx : slotR ν b Z w p (ev f x)) : Q P (.fieldAddr T x i) ty f w ν b Z (fieldAddrT P T p i) := by
  intro a ha
  unfold fieldAddrT at ha
  split at ha
  · rename_i fs hu
    split at ha
    · rename_i fd hf
      split at ha
      · rename_i s hs
        have hsz : SizeIs P fd.type (s + 1) := .of hs
        have hadd : ∀ (ad : Addr) (m n : Nat), (ad.add m).add n = ad.add (m + n) := fun ad m n => by
          unfold Addr.add
          by_cases hi : m = 0 <;> by_cases hj : n = 0 <;> simp [hi, hj, Nat.add_assoc]
        have hadd0 : ∀ (g o n : Nat), (⟨g, o, none⟩ : Addr).add n = ⟨g, o + n, none⟩ := fun g o n => by
          unfold Addr.add
          by_cases hj : n = 0 <;> simp [hj]
        split at ha
        · cases ha
          exact o_fieldAddr hu hf hsz (sl_ptr hx).2 rfl ⟨rfl, (sl_ptr hx).1, by rw [hadd0]⟩
        · cases ha
          exact o_fieldAddr hu hf hsz (sl_pel hx).2 rfl ⟨rfl, (sl_pel hx).1, by rw [hadd0, Nat.add_assoc]⟩
        · cases ha
          obtain ⟨h0, ad, m, c, h1, h2⟩ := hx
          have h3 := List.head_eq_of_cons_eq (show [_] = [_] from h2)
          exact o_fieldAddr hu hf hsz h3 rfl ⟨rfl, h0, ad, m, c, h1, by rw [hadd, Nat.add_assoc]⟩
        · cases ha
          obtain ⟨h0, ad, m, c, h1, h2⟩ := hx
          have h3 := List.head_eq_of_cons_eq (show [_] = [_] from h1)
          exact o_fieldAddr hu hf hsz h3 rfl ⟨rfl, h0, ad, m, c, by rw [hadd, Nat.add_assoc], h2⟩
        · cases ha
      · cases ha
    · cases ha
  · cases ha
theorem elemSz_ok {s : Nat} (h : elemSz P T = some s) : ∃ e, P.underlying T = some (.slice e) ∧ SizeIs P e s := by
  unfold elemSz at h
  split at h
  · rename_i e he; exact ⟨e, he, .of h⟩
  · cases h
theorem bndA_ok {r : Operand → AV} {o : Option Operand} {d n : Int} (hr : ∀ x, slotR ν b Z w (r x) (ev f x)) (h : bndA r o d = some n) : (o = none ∧ n = d) ∨ ∃ p, o = some p ∧ ∃ k, ev f p = .int k n := by
  unfold bndA at h
  split at h
  · cases h; exact .inl ⟨rfl, rfl⟩
  · rename_i p
    split at h
    · rename_i k m hi
      cases h
      exact .inr ⟨p, rfl, k, int_ok (hr p) hi⟩
    · cases h
theorem toN {n : Int} {v : Value} {k : IntKind} (h : v = .int k n) (h0 : 0 ≤ n) : v = .int k (n.toNat : Int) := by rw [h, Int.toNat_of_nonneg h0]
theorem bnds {o1 o2 : Option Operand} {a c : Int} {n : Nat} {A C : Nat} (h1 : (o1 = none ∧ a = 0) ∨ ∃ p, o1 = some p ∧ ∃ k, ev f p = .int k a) (h2 : (o2 = none ∧ c = (n : Int)) ∨ ∃ p, o2 = some p ∧ ∃ k, ev f p = .int k c) (hA : a = A) (hC : c = C) :
    ((o1 = none ∧ A = 0) ∨ ∃ p, o1 = some p ∧ ∃ k, ev f p = .int k (A : Int)) ∧ ((o2 = none ∧ C = n) ∨ ∃ p, o2 = some p ∧ ∃ k, ev f p = .int k (C : Int)) := by
  subst hA; subst hC
  refine ⟨?_, ?_⟩
  · rcases h1 with ⟨e, h⟩ | h
    · exact .inl ⟨e, by omega⟩
    · exact .inr h
  · rcases h2 with ⟨e, h⟩ | h
    · exact .inl ⟨e, by omega⟩
    · exact .inr h
theorem o_sliceStr {K : Value → World → Prop} {s : List UInt8} {lo hi : Option Operand} {A C : Nat} (hu : P.underlying T = some .string) (hx : ev f x = str s) (h1 : (lo = none ∧ A = 0) ∨ ∃ p, lo = some p ∧ ∃ k, ev f p = .int k (A : Int))
    (h2 : (hi = none ∧ C = s.length) ∨ ∃ p, hi = some p ∧ ∃ k, ev f p = .int k (C : Int)) (hAC : A ≤ C) (hC : C ≤ s.length) (h : K (str ((s.drop A).take (C - A))) w) : OpW P (.slice T x lo hi none) ty f w K := by
  refine .of_run ?_ h
  have hsz : (ByteArray.mk s.toArray).size = s.length := by show s.toArray.size = _; simp
  have hex : (ByteArray.mk s.toArray).extract A C = ByteArray.mk ((s.drop A).take (C - A)).toArray := by
    apply ByteArray.ext
    apply Array.ext'
    rw [ByteArray.data_extract]
    simp [List.extract_eq_take_drop]
  rcases h1 with ⟨rfl, rfl⟩ | ⟨p, rfl, kp, hp⟩ <;> rcases h2 with ⟨rfl, rfl⟩ | ⟨q, rfl, kq, hq⟩ <;>
    simp [execOp, bare, hx, Instr.sliceAt, run_und hu, Instr.slice, Instr.sliceBounds, Instr.sliceBound, asIntOf, str, hsz, hex, *] <;> (try omega)
theorem o_slice3 {K : Value → World → Prop} {e : TypeId} {lo hi mx : Option Operand} {v : Value} {n sz a c m : Nat} (hu : P.underlying T = some (.slice e)) (hs : SizeIs P e sz) (hx : ev f x = v) (hv : IsSl v n)
    (hlo : (lo = none ∧ a = 0) ∨ (∃ p, lo = some p ∧ ∃ k, ev f p = .int k (a : Int))) (hhi : ∃ p, hi = some p ∧ ∃ k, ev f p = .int k (c : Int)) (hmx : ∃ p, mx = some p ∧ ∃ k, ev f p = .int k (m : Int))
    (hac : a ≤ c) (hcm : c ≤ m) (hmn : m ≤ n) (h : K (subv3 sz v a c m) w) : OpW P (.slice T x lo hi mx) ty f w K := by
  obtain ⟨ad, cp, rfl, hc, hcm', ha⟩ := hv
  refine .of_run ?_ h
  have hbc : m ≤ cp := by omega
  obtain ⟨q, rfl, kq, hq⟩ := hhi
  obtain ⟨t, rfl, kt, ht⟩ := hmx
  rcases hlo with ⟨rfl, rfl⟩ | ⟨p, rfl, kp, hp⟩ <;>
    simp [execOp, bare, hx, Instr.sliceAt, run_und hu, Instr.slice, Instr.sliceBounds, Instr.sliceBound, asIntOf, hs.run, subv3, hac, hbc, *] <;> (try omega)
theorem o_sliceArr {K : Value → World → Prop} {N et sz a c : Nat} {ad : Addr} {lo hi : Option Operand} (hu : P.underlying T = some (.array N et)) (hs : SizeIs P et sz) (hx : ev f x = .pointer (some ad))
    (hlo : (lo = none ∧ a = 0) ∨ (∃ p, lo = some p ∧ ∃ k, ev f p = .int k (a : Int))) (hhi : (hi = none ∧ c = N) ∨ (∃ p, hi = some p ∧ ∃ k, ev f p = .int k (c : Int))) (hac : a ≤ c) (hcN : c ≤ N)
    (h : K (.slice (some (if N = a then ad else ad.add (a * sz))) (c - a) (N - a)) w) : OpW P (.slice T x lo hi none) ty f w K := by
  refine .of_run ?_ h
  rcases hlo with ⟨rfl, rfl⟩ | ⟨p, rfl, kp, hp⟩ <;> rcases hhi with ⟨rfl, rfl⟩ | ⟨q, rfl, kq, hq⟩ <;>
    simp [execOp, bare, hx, Instr.sliceAt, run_und hu, Instr.sureAddr, Instr.sliceBounds, Instr.sliceBound, asIntOf, hs.run, hac, hcN, *] <;> (try omega)
theorem subv_sub {s : Nat} {V v : Value} {l n A C : Nat} (h : IsSl v n) (hv : v = subv s V l (l + n) ∨ ∃ a, v = .slice a 0 0) (h1 : A ≤ C) (h2 : C ≤ n) : subv s v A C = subv s V (l + A) (l + A + (C - A)) ∨ ∃ a, subv s v A C = .slice a 0 0 := by
  obtain ⟨ad, cp, rfl, hn, hm, ha⟩ := h
  by_cases h0 : cp - A = 0
  · right
    have e1 : C - A = 0 := by omega
    exact ⟨_, by simp only [subv, h0, e1]; rfl⟩
  · left
    rcases hv with hv | ⟨a, hv⟩
    · cases V with
      | slice a0 n0 c0 =>
        simp only [subv, Value.slice.injEq] at hv
        obtain ⟨hv1, hv2, hv3⟩ := hv
        have e2 : ¬ c0 = l := by omega
        have e3 : ¬ c0 = l + A := by omega
        have e4 : ¬ cp = A := by omega
        rw [if_neg e2] at hv1
        simp only [subv, if_neg e3, if_neg e4, Value.slice.injEq]
        refine ⟨?_, by omega, by omega⟩
        rw [hv1, Option.map_map]
        congr 1
        funext x
        show (x.add (l * s)).add (A * s) = x.add ((l + A) * s)
        rw [addAdd, Nat.add_mul]
      | _ => simp [subv] at hv
    · cases hv
      omega
theorem sliceT_ok {r : Operand → AV} {lo hi mx : Option Operand} (hr : ∀ x, slotR ν b Z w (r x) (ev f x)) (hp : p = r x) : Q P (.slice T x lo hi mx) ty f w ν b Z (sliceT P r T p lo hi mx) := by
  intro a ha
  subst hp
  have hx := hr x
  generalize r x = p at hx ha
  unfold sliceT at ha
  split at ha
  · -- a text
    rename_i s
    split at ha
    · rename_i A C hA hC
      unfold sliceStrT at ha
      cases h : isStrT P T <;> rw [h] at ha
      · cases ha
      · obtain ⟨y, hy, h2⟩ := bindE ha
        cases h2
        obtain ⟨A', C', rfl, rfl, h1, h2, h3⟩ := subI_some hy
        obtain ⟨g1, g2⟩ := bnds (n := s.length) (bndA_ok hr hA) (bndA_ok hr hC) rfl rfl
        exact o_sliceStr (isStr_ok h) (sl_str hx) g1 g2 h1 h2 ⟨rfl, by rw [← h3]; exact sl_mk rfl rfl⟩
    · cases ha
  · -- a slice that is read
    rename_i ct e xs
    obtain ⟨hro, htight⟩ := sl_ro hx
    split at ha
    · rename_i A C hA hC
      unfold sliceRoT at ha
      split at ha
      · rename_i s hs
        cases hb : Nat.beq s e.sz <;> rw [hb] at ha
        · cases ha
        · obtain ⟨y, hy, h2⟩ := bindE ha
          cases h2
          obtain ⟨A', C', rfl, rfl, h1, h2, h3⟩ := subI_some hy
          obtain ⟨g1, g2⟩ := bnds (n := xs.length) (bndA_ok hr hA) (bndA_ok hr hC) rfl rfl
          obtain ⟨et, hu, hsz⟩ := elemSz_ok hs
          have hse := Nat.eq_of_beq_eq_true hb
          subst hse
          refine o_slice hu hsz rfl hro.is g1 g2 h1 h2 ⟨rfl, _, rfl, ?_, fun h => by cases h⟩
          have := hro.sub A' C' h1 h2
          rw [e.sz_rty] at this
          rw [h3]
          exact this
      · cases ha
    · rename_i A C m hA hC
      cases h0 : isC0 hi <;> rw [h0] at ha
      case true => cases ha
      simp only [cond_false] at ha
      split at ha
      · rename_i k M hM
        unfold sliceRo3T at ha
        split at ha
        · rename_i s hs
          cases hb : Nat.beq s e.sz <;> rw [hb] at ha
          · cases ha
          · obtain ⟨y, hy, h2⟩ := bindE ha
            cases h2
            split at hy
            · rename_i hm
              obtain ⟨A', C', rfl, rfl, h1, h2, h3⟩ := subI_some hy
              obtain ⟨g1, _⟩ := bnds (n := xs.length) (bndA_ok hr hA) (bndA_ok hr hC) rfl rfl
              obtain ⟨et, hu, hsz⟩ := elemSz_ok hs
              have hse := Nat.eq_of_beq_eq_true hb
              subst hse
              have g2 : ∃ p, hi = some p ∧ ∃ k, ev f p = .int k (C' : Int) := by
                rcases bndA_ok hr hC with ⟨e1, _⟩ | h
                · rw [e1] at h0; cases h0
                · exact h
              have hM0 : 0 ≤ M := by omega
              refine o_slice3 (m := M.toNat) hu hsz rfl hro.is g1 g2 ⟨_, rfl, k, toN (int_ok (hr _) hM) hM0⟩ h1 (by omega) (by omega) ⟨rfl, _, rfl, ?_, fun h => ?_⟩
              · have := hro.sub3 A' C' M.toNat h1 (by omega) (by omega)
                rw [e.sz_rty] at this
                rw [h3]
                exact this
              · have hcm : (C' : Int) = M := by simpa using h
                have : M.toNat = C' := by omega
                rw [this]
                obtain ⟨ad, cp, hv, _⟩ := hro.is
                rw [hv]
                exact ⟨_, _, rfl⟩
            · cases hy
        · cases ha
      · cases ha
    · cases ha
  · -- a window
    rename_i k s l n
    split at ha
    · rename_i A C hA hC
      split at ha
      · rename_i s' hs
        cases hb : Nat.beq s s' <;> rw [hb] at ha
        · cases ha
        · unfold bndT at ha
          obtain ⟨y, hy, h2⟩ := bindE ha
          cases h2
          split at hy
          · rename_i hb3
            obtain ⟨et, hu, hsz⟩ := elemSz_ok hs
            have hse := Nat.eq_of_beq_eq_true hb
            subst hse
            obtain ⟨g1, g2⟩ := bnds (n := n) (A := A.toNat) (C := C.toNat) (bndA_ok hr hA) (bndA_ok hr hC) (by omega) (by omega)
            obtain ⟨k1, k2, k4, k3⟩ := sl_win hx
            exact o_slice hu hsz rfl k2 g1 g2 (by omega) (by omega) ⟨rfl, k1, _, rfl, k2.sub s _ _ (by omega) (by omega), by omega, subv_sub k2 k3 (by omega) (by omega)⟩
          · cases hy
      · cases ha
    · cases ha
  · -- a window on an array
    rename_i k off e N l n
    split at ha
    · rename_i A C hA hC
      split at ha
      · rename_i s' hs
        cases hb : Nat.beq s' e.sz <;> rw [hb] at ha
        · cases ha
        · unfold bndT at ha
          obtain ⟨y, hy, h2⟩ := bindE ha
          cases h2
          split at hy
          · rename_i hb3
            obtain ⟨et, hu, hsz⟩ := elemSz_ok hs
            have hse := Nat.eq_of_beq_eq_true hb
            subst hse
            obtain ⟨g1, g2⟩ := bnds (n := n) (A := A.toNat) (C := C.toNat) (bndA_ok hr hA) (bndA_ok hr hC) (by omega) (by omega)
            obtain ⟨k1, k2, k4, k3⟩ := sl_bwin hx
            refine o_slice hu hsz rfl k2 g1 g2 (by omega) (by omega) ⟨rfl, k1, _, rfl, k2.sub _ _ _ (by omega) (by omega), by omega, ?_⟩
            rcases k3 with k3 | ⟨ad, k3⟩
            · rw [k3]
              by_cases h0 : N - l - A.toNat = 0
              · right
                have : C.toNat - A.toNat = 0 := by omega
                exact ⟨_, by simp only [subv, h0, this]; rfl⟩
              · left
                have e4 : ¬ N - l = A.toNat := by omega
                simp only [subv, if_neg e4, Option.map_some, Value.slice.injEq, Option.some.injEq]
                refine ⟨?_, trivial, by omega⟩
                unfold Addr.add
                split
                · rename_i hz
                  simp only [Addr.mk.injEq, true_and, and_true]
                  rw [Nat.add_mul, hz]
                  omega
                · simp only [Addr.mk.injEq, true_and, and_true]
                  rw [Nat.add_mul]
                  omega
            · right
              have hn : n = 0 := by
                obtain ⟨_, _, q1, q2, _⟩ := k2
                rw [k3] at q1
                cases q1
                rfl
              have h0 : A.toNat = 0 := by omega
              have h1 : C.toNat = 0 := by omega
              exact ⟨_, by rw [k3, h0, h1]; rfl⟩
          · cases hy
      · cases ha
    · cases ha
  · -- an array's address
    rename_i k off
    split at ha
    · rename_i N et hu
      split at ha
      · rename_i A C s e hA hC hs he
        cases hb : (Nat.beq s e.sz && Nat.ble N 9223372036854775807) <;> rw [hb] at ha
        · cases ha
        · simp only [Bool.and_eq_true] at hb
          unfold bndT at ha
          obtain ⟨y, hy, h2⟩ := bindE ha
          cases h2
          split at hy
          · rename_i hb3
            have hse := Nat.eq_of_beq_eq_true hb.1
            subst hse
            obtain ⟨g1, g2⟩ := bnds (n := N) (A := A.toNat) (C := C.toNat) (bndA_ok hr hA) (bndA_ok hr hC) (by omega) (by omega)
            obtain ⟨k1, k2⟩ := sl_ptr hx
            have hsz : SizeIs P et e.sz := .of hs
            have hNm : N ≤ maxLen := Nat.le_of_ble_eq_true hb.2
            refine o_sliceArr hu hsz k2 g1 g2 (by omega) (by omega) ⟨rfl, k1, _, rfl, ⟨_, _, rfl, by omega, by omega, fun h => by cases h⟩, by omega, ?_⟩
            · by_cases h0 : N = A.toNat
              · right
                have : C.toNat - A.toNat = 0 := by omega
                exact ⟨_, by rw [this, ← h0, Nat.sub_self]⟩
              · left
                rw [if_neg h0]
                simp only [Value.slice.injEq, Option.some.injEq, and_true]
                unfold Addr.add
                split
                · rename_i hz; simp only [Addr.mk.injEq, true_and, and_true]; omega
                · rfl
          · cases hy
      · cases ha
    · cases ha
  · cases ha
end
end Hyp
