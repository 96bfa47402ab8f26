/- Data as abstract values and back; entries of memory; what an operation leaves. -/
import Derived.Test.YtdlbmjbbnplpjaaMa
set_option linter.unusedVariables false
set_option linter.unusedSimpArgs false
namespace Hyp
open Go
/-! ### 1. Data as abstract values -/
mutual
def explode : (t : Ty) → t.den → AV
  | .rcd t, x => .agg (flds t x)
  | .list e, x => .ro false e x
  | .sint k, x => .val (.sint k) x
  | .u8, x => .val .u8 x | .u16, x => .val .u16 x | .u32, x => .val .u32 x | .u64, x => .val .u64 x
  | .bool, x => .val .bool x | .str, x => .val .str x | .unit, x => .val .unit x
  | .arr n e, x => .val (.arr n e) x
  | .pair a b, x => .val (.pair a b) x
def flds : (t : Ty) → t.den → AV
  | .pair a b, x => .pr (explode a x.1) (flds b x.2)
  | .unit, _ => .un
  | .rcd t, x => .pr (.agg (flds t x)) .un
  | .list e, x => .pr (.ro false e x) .un
  | .sint k, x => .pr (.val (.sint k) x) .un
  | .u8, x => .pr (.val .u8 x) .un | .u16, x => .pr (.val .u16 x) .un | .u32, x => .pr (.val .u32 x) .un | .u64, x => .pr (.val .u64 x) .un
  | .bool, x => .pr (.val .bool x) .un | .str, x => .pr (.val .str x) .un
  | .arr n e, x => .pr (.val (.arr n e) x) .un
end
def castTy (t t' : Ty) (x : t'.den) : Option t.den := if h : t' = t then some (h ▸ x) else none
theorem castTy_ok {t t' : Ty} {x : t'.den} {y : t.den} (h : castTy t t' x = some y) : ∃ h : t' = t, h ▸ x = y := by
  unfold castTy at h
  split at h
  · rename_i he; exact ⟨he, Option.some.inj h⟩
  · cases h
def castL (t t' : Ty) (x : List t'.den) : Option (List t.den) := castTy (.list t) (.list t') x
mutual
def implode : (t : Ty) → AV → Option t.den
  | .rcd t, .agg a => fldsI t a
  | .list e, .ro _ e' xs => castL e e' xs
  | .list _, .snil _ => some []
  | .bool, .tt => some true
  | .bool, .ff => some false
  | t, .val t' x => castTy t t' x
  | _, _ => none
def fldsI : (t : Ty) → AV → Option t.den
  | .pair a b, .pr x y => (implode a x).bind fun p => (fldsI b y).map fun q => (p, q)
  | .unit, .un => some ()
  | .pair _ _, _ => none
  | .unit, _ => none
  | .rcd t, .pr x .un => match x with | .agg a => fldsI t a | .val t' x => castTy (.rcd t) t' x | _ => none
  | .list e, .pr x .un => match x with | .ro _ e' xs => castL e e' xs | .snil _ => some [] | .val t' x => castTy (.list e) t' x | _ => none
  | .bool, .pr x .un => match x with | .tt => some true | .ff => some false | .val t' x => castTy .bool t' x | _ => none
  | t, .pr (.val t' x) .un => castTy t t' x
  | _, _ => none
end
section
variable {ν : Nms} {b : Nat} {Z : Nat → Prop} {w : World}
mutual
theorem explode_ok : (t : Ty) → ∀ {x : t.den} {cs : List Value}, t.rty.rel Z w x cs → avC ν b Z w (explode t x) cs
  | .rcd t, _, _, h => flds_ok t h
  | .list e, _, _, h => by
    obtain ⟨v, h0, h1⟩ := h
    exact ⟨v, h0, h1, fun h => by cases h⟩
  | .sint k, _, _, h => h
  | .u8, _, _, h => h | .u16, _, _, h => h | .u32, _, _, h => h | .u64, _, _, h => h
  | .bool, _, _, h => h | .str, _, _, h => h | .unit, _, _, h => h
  | .arr n e, _, _, h => h
  | .pair a c, _, _, h => h
theorem flds_ok : (t : Ty) → ∀ {x : t.den} {cs : List Value}, t.rty.rel Z w x cs → avC ν b Z w (flds t x) cs
  | .pair a c, x, cs, h => by
    obtain ⟨c1, c2, h0, h1, h2⟩ := h
    exact ⟨c1, c2, h0, explode_ok a h1, flds_ok c h2⟩
  | .unit, _, _, h => h
  | .rcd t, _, cs, h => ⟨cs, [], by simp, flds_ok t h, rfl⟩
  | .list e, _, cs, h => by
    obtain ⟨v, h0, h1⟩ := h
    exact ⟨cs, [], by simp, ⟨v, h0, h1, fun h => by cases h⟩, rfl⟩
  | .sint k, _, cs, h => ⟨cs, [], by simp, h, rfl⟩
  | .u8, _, cs, h => ⟨cs, [], by simp, h, rfl⟩ | .u16, _, cs, h => ⟨cs, [], by simp, h, rfl⟩ | .u32, _, cs, h => ⟨cs, [], by simp, h, rfl⟩ | .u64, _, cs, h => ⟨cs, [], by simp, h, rfl⟩
  | .bool, _, cs, h => ⟨cs, [], by simp, h, rfl⟩ | .str, _, cs, h => ⟨cs, [], by simp, h, rfl⟩
  | .arr n e, _, cs, h => ⟨cs, [], by simp, h, rfl⟩
end
theorem cast_rel {t t' : Ty} {x : t'.den} {y : t.den} {cs : List Value} (h : castTy t t' x = some y) (H : t'.rty.rel Z w x cs) : t.rty.rel Z w y cs := by
  obtain ⟨rfl, rfl⟩ := castTy_ok h
  exact H
theorem cast_ro {e e' : Ty} {c : Bool} {xs : List e'.den} {ys : List e.den} {cs : List Value} (h : castL e e' xs = some ys) (H : avC ν b Z w (.ro c e' xs) cs) : (Ty.list e).rty.rel Z w ys cs := by
  obtain ⟨v, h0, h1, _⟩ := H
  exact cast_rel (t := .list e) (t' := .list e') h ⟨v, h0, h1⟩
theorem snil_rel {e : Ty} {oe : Option Ty} {cs : List Value} (H : avC ν b Z w (.snil oe) cs) : (Ty.list e).rty.rel Z w ([] : List e.den) cs :=
  ⟨.slice none 0 0, H, [], Sl.nil _ _, by simp, rfl, by simp⟩
theorem un_app {cs c1 c2 : List Value} (h : cs = c1 ++ c2) (h2 : avC ν b Z w .un c2) : cs = c1 := by
  rw [h, show c2 = [] from h2, List.append_nil]
mutual
theorem implode_ok : (t : Ty) → ∀ {a : AV} {x : t.den} {cs : List Value}, avC ν b Z w a cs → implode t a = some x → t.rty.rel Z w x cs := by
  intro t a x cs H h
  unfold implode at h
  split at h
  · rename_i t a
    exact fldsI_ok t (a := a) H h
  · exact cast_ro h H
  · cases h; exact snil_rel H
  · cases h; exact H
  · cases h; exact H
  · exact cast_rel h H
  · cases h
theorem fldsI_ok : (t : Ty) → ∀ {a : AV} {x : t.den} {cs : List Value}, avC ν b Z w a cs → fldsI t a = some x → t.rty.rel Z w x cs := by
  intro t a x cs H h
  unfold fldsI at h
  split at h
  · obtain ⟨c1, c2, h0, h1, h2⟩ := H
    obtain ⟨p, hp, hq⟩ := bindE h
    simp only [Option.map_eq_some_iff] at hq
    obtain ⟨q, hq, rfl⟩ := hq
    exact ⟨c1, c2, h0, implode_ok _ h1 hp, fldsI_ok _ h2 hq⟩
  · exact H
  · cases h
  · cases h
  · obtain ⟨c1, c2, h0, h1, h2⟩ := H
    rw [un_app h0 h2]
    split at h
    · rename_i t _ a
      exact fldsI_ok t (a := a) h1 h
    · exact cast_rel h h1
    · cases h
  · obtain ⟨c1, c2, h0, h1, h2⟩ := H
    rw [un_app h0 h2]
    split at h
    · exact cast_ro h h1
    · cases h; exact snil_rel h1
    · exact cast_rel h h1
    · cases h
  · obtain ⟨c1, c2, h0, h1, h2⟩ := H
    rw [un_app h0 h2]
    split at h
    · cases h; exact h1
    · cases h; exact h1
    · exact cast_rel h h1
    · cases h
  · obtain ⟨c1, c2, h0, h1, h2⟩ := H
    rw [un_app h0 h2]
    exact cast_rel h h1
  · cases h
end
end
/-- A constant. -/
def constAV : Value → AV
  | .bool true => .tt
  | .bool false => .ff
  | .int .u8 n => bif decide (0 ≤ n) && decide (n < 256) then .val .u8 (UInt8.ofNat n.toNat) else .any
  | .int .u16 n => bif decide (0 ≤ n) && decide (n < 65536) then .val .u16 (UInt16.ofNat n.toNat) else .any
  | .int .u32 n => bif decide (0 ≤ n) && decide (n < 4294967296) then .val .u32 (UInt32.ofNat n.toNat) else .any
  | .int .u64 n => bif decide (0 ≤ n) && decide (n < 18446744073709551616) then .val .u64 (UInt64.ofNat n.toNat) else .any
  | .int k n => .val (.sint k) n
  | .string s => .val .str s.data.toList
  | .pointer none => .nil
  | .map none => .mnil
  | .nilFunc => .fnil
  | .slice none 0 0 => .snil none
  | _ => .any
section
variable {ν : Nms} {b : Nat} {Z : Nat → Prop} {w : World}
theorem constAV_ok (v : Value) : slotR ν b Z w (constAV v) v := by
  have key : ∀ (c : Bool) (a : AV) (v : Value), (c = true → slotR ν b Z w a v) → slotR ν b Z w (bif c then a else .any) v := by
    intro c a v h
    cases c
    · trivial
    · exact h rfl
  unfold constAV
  split
  · exact rfl
  · exact rfl
  · refine key _ _ _ fun h => ?_
    simp only [Bool.and_eq_true, decide_eq_true_eq] at h
    rename_i n
    show [Value.int .u8 n] = [Hyp.u8 (UInt8.ofNat n.toNat)]
    have : ((UInt8.ofNat n.toNat).toNat : Int) = n := by rw [UInt8.toNat_ofNat']; omega
    simp only [Hyp.u8, this]
  · refine key _ _ _ fun h => ?_
    simp only [Bool.and_eq_true, decide_eq_true_eq] at h
    rename_i n
    show [Value.int .u16 n] = [Hyp.u16 (UInt16.ofNat n.toNat)]
    have : ((UInt16.ofNat n.toNat).toNat : Int) = n := by rw [UInt16.toNat_ofNat']; omega
    simp only [Hyp.u16, this]
  · refine key _ _ _ fun h => ?_
    simp only [Bool.and_eq_true, decide_eq_true_eq] at h
    rename_i n
    show [Value.int .u32 n] = [Hyp.u32 (UInt32.ofNat n.toNat)]
    have : ((UInt32.ofNat n.toNat).toNat : Int) = n := by rw [UInt32.toNat_ofNat']; omega
    simp only [Hyp.u32, this]
  · refine key _ _ _ fun h => ?_
    simp only [Bool.and_eq_true, decide_eq_true_eq] at h
    rename_i n
    show [Value.int .u64 n] = [Hyp.u64 (UInt64.ofNat n.toNat)]
    have : ((UInt64.ofNat n.toNat).toNat : Int) = n := by rw [UInt64.toNat_ofNat']; omega
    simp only [Hyp.u64, this]
  · exact rfl
  · rename_i s
    show [Value.string s] = [Hyp.str s.data.toList]
    simp [Hyp.str]
  · exact rfl
  · exact rfl
  · exact rfl
  · exact rfl
  · trivial
end
/-! ### 2. Entries -/
inductive Cont
  | box (a : AV)
  | row (e : Ty) (xs : List e.den)
  | mp (kt vt : Ty) (xs : List (kt.den × vt.den))
  | it (mk mv : Nat) (kt vt : Ty) (xs : List (kt.den × vt.den))
  | itc (mk mv : Nat) (kt vt : Ty) (kx : kt.den) (vx : vt.den) (xs : List (kt.den × vt.den))
/-- A value, for a datum. -/
def rv (Z : Nat → Prop) (w : World) (t : Ty) (x : t.den) (v : Value) : Prop := if t.isAgg = true then ∃ cs, v = .agg cs.toArray ∧ t.rty.rel Z w x cs else t.rty.rel Z w x [v]
theorem rv.go {Z Z' : Nat → Prop} {w w' : World} {t : Ty} {x : t.den} {v : Value} (H : rv Z w t x v) (h : ∀ b, b < w.heap.size → Z b → Z' b ∧ w'.heap[b]? = w.heap[b]?) : rv Z' w' t x v := by
  unfold rv at *
  split
  · rename_i ha
    rw [if_pos ha] at H
    obtain ⟨cs, h1, h2⟩ := H
    exact ⟨cs, h1, t.rty.go h2 h⟩
  · rename_i ha
    rw [if_neg ha] at H
    exact t.rty.go H h
/-- A map's entries. -/
abbrev ME := MapEntry
/-- The same as a list of values, and when the next one will be. -/
def mEnc (es : List ME) (clock : Nat) : List Value := .int .i64 (clock : Int) :: es.flatMap fun e => [e.key, e.val, .int .i64 (e.born : Int)]
theorem mEnc_inj : ∀ {es es' : List ME} {c c' : Nat}, mEnc es c = mEnc es' c' → es = es' ∧ c = c' := by
  intro es es' c c' h
  simp only [mEnc, List.cons.injEq, Value.int.injEq, true_and] at h
  refine ⟨?_, by omega⟩
  have h2 := h.2
  clear h
  induction es generalizing es' with
  | nil =>
    cases es' with
    | nil => rfl
    | cons e es' => simp at h2
  | cons e es ih =>
    cases es' with
    | nil => simp at h2
    | cons e' es' =>
      simp only [List.flatMap_cons, List.cons_append, List.nil_append, List.cons.injEq, Value.int.injEq, true_and] at h2
      obtain ⟨h3, h4, h5, h6⟩ := h2
      have := ih h6
      subst this
      obtain ⟨k, v, b⟩ := e
      obtain ⟨k', v', b'⟩ := e'
      have h7 : b = b' := Int.ofNat.inj (show (b : Int) = (b' : Int) from h5)
      simp only at h3 h4
      subst h3; subst h4; subst h7
      rfl
/-- Block g is a map of so many entries. -/
def mpe (g : Nat) (cs : List Value) : Ent where
  foot := (· = g)
  holds w := ∃ es clock, w.heap[g]? = some (.map es clock) ∧ cs = mEnc es.toList clock
  loc h := fun ⟨es, clock, h1, h2⟩ => ⟨es, clock, (h _ rfl).trans h1, h2⟩
/-- Entries that stand for pairs. -/
def meR (Z : Nat → Prop) (w : World) (kt vt : Ty) : List ME → List (kt.den × vt.den) → Prop
  | [], [] => True
  | e :: es, x :: xs => rv Z w kt x.1 e.key ∧ rv Z w vt x.2 e.val ∧ meR Z w kt vt es xs
  | _, _ => False
theorem meR.go {Z Z' : Nat → Prop} {w w' : World} {kt vt : Ty} (h : ∀ b, b < w.heap.size → Z b → Z' b ∧ w'.heap[b]? = w.heap[b]?) : ∀ {es : List ME} {xs : List (kt.den × vt.den)}, meR Z w kt vt es xs → meR Z' w' kt vt es xs
  | [], [], _ => trivial
  | e :: es, x :: xs, H => ⟨H.1.go h, H.2.1.go h, meR.go h H.2.2⟩
  | [], _ :: _, H => H.elim
  | _ :: _, [], H => H.elim
/-- What a map's cells stand for: the pairs, in whatever order. -/
def mpR (Z : Nat → Prop) (w : World) (kt vt : Ty) (xs : List (kt.den × vt.den)) (cs : List Value) : Prop :=
  ∃ es clock ys, cs = mEnc es clock ∧ meR Z w kt vt es ys ∧ ys.Perm xs ∧ (∀ e ∈ es, e.born < clock) ∧ (es.map (·.born)).Nodup ∧ (xs.map (·.1)).Nodup
theorem mpR.go {Z Z' : Nat → Prop} {w w' : World} {kt vt : Ty} {xs : List (kt.den × vt.den)} {cs : List Value} (h : ∀ b, b < w.heap.size → Z b → Z' b ∧ w'.heap[b]? = w.heap[b]?) (H : mpR Z w kt vt xs cs) : mpR Z' w' kt vt xs cs := by
  obtain ⟨es, clock, ys, h1, h2, h3⟩ := H
  exact ⟨es, clock, ys, h1, h2.go h, h3⟩
/-- Block g is a walk through the map m. -/
def itE (g : Nat) (cs : List Value) : Ent where
  foot := (· = g)
  holds w := ∃ m since seen last, w.heap[g]? = some (.mapIter (some m) since seen last) ∧ cs = .int .i64 (m : Int) :: .int .i64 (since : Int) :: .int .i64 (last : Int) :: seen.toList.map fun n => .int .i64 ((n : Nat) : Int)
  loc h := fun ⟨m, s, se, l, h1, h2⟩ => ⟨m, s, se, l, (h _ rfl).trans h1, h2⟩
/-- What is left of a walk through a map of those cells, that stands as it stood when the walk began. -/
def itR (Z : Nat → Prop) (w : World) (g : Nat) (mcs : List Value) (kt vt : Ty) (xs : List (kt.den × vt.den)) (cs : List Value) : Prop :=
  ∃ (es : List ME) (clock : Nat) (seen : List Nat) (ys : List (kt.den × vt.den)), mcs = mEnc es clock ∧ cs = .int .i64 (g : Int) :: .int .i64 (clock : Int) :: .int .i64 (clock : Int) :: seen.map (fun n => .int .i64 ((n : Nat) : Int)) ∧ meR Z w kt vt (es.filter fun e => !seen.contains e.born) ys ∧ ys.Perm xs ∧ (∀ n ∈ seen, n < clock)
theorem itR.go {Z Z' : Nat → Prop} {w w' : World} {g : Nat} {mcs : List Value} {kt vt : Ty} {xs : List (kt.den × vt.den)} {cs : List Value} (h : ∀ b, b < w.heap.size → Z b → Z' b ∧ w'.heap[b]? = w.heap[b]?) (H : itR Z w g mcs kt vt xs cs) : itR Z' w' g mcs kt vt xs cs := by
  obtain ⟨es, clock, seen, ys, h1, h0, h2, h3⟩ := H
  exact ⟨es, clock, seen, ys, h1, h0, h2.go h, h3⟩
/-- It stands at a pair. -/
def itcR (Z : Nat → Prop) (w : World) (g : Nat) (mcs : List Value) (kt vt : Ty) (kx : kt.den) (vx : vt.den) (xs : List (kt.den × vt.den)) (cs : List Value) : Prop :=
  ∃ (es : List ME) (clock : Nat) (seen : List Nat) (e : ME) (ys : List (kt.den × vt.den)), mcs = mEnc es clock ∧ cs = .int .i64 (g : Int) :: .int .i64 (clock : Int) :: .int .i64 (clock : Int) :: (seen ++ [e.born]).map (fun n => .int .i64 ((n : Nat) : Int)) ∧
    meR Z w kt vt (es.filter fun e' => !(seen ++ [e.born]).contains e'.born) ys ∧ ys.Perm xs ∧ (∀ n ∈ seen ++ [e.born], n < clock) ∧ e ∈ es ∧ (es.map (·.born)).Nodup ∧ rv Z w kt kx e.key ∧ rv Z w vt vx e.val
theorem itcR.go {Z Z' : Nat → Prop} {w w' : World} {g : Nat} {mcs : List Value} {kt vt : Ty} {kx : kt.den} {vx : vt.den} {xs : List (kt.den × vt.den)} {cs : List Value} (h : ∀ b, b < w.heap.size → Z b → Z' b ∧ w'.heap[b]? = w.heap[b]?) (H : itcR Z w g mcs kt vt kx vx xs cs) : itcR Z' w' g mcs kt vt kx vx xs cs := by
  obtain ⟨es, clock, seen, e, ys, h1, h0, h2, h3, h4, h5, h6, h7, h8⟩ := H
  exact ⟨es, clock, seen, e, ys, h1, h0, h2.go h, h3, h4, h5, h6, h7.go h, h8.go h⟩
theorem itcR.it {Z : Nat → Prop} {w : World} {g : Nat} {mcs : List Value} {kt vt : Ty} {kx : kt.den} {vx : vt.den} {xs : List (kt.den × vt.den)} {cs : List Value} (H : itcR Z w g mcs kt vt kx vx xs cs) : itR Z w g mcs kt vt xs cs := by
  obtain ⟨es, clock, seen, e, ys, h1, h0, h2, h3, h4, _⟩ := H
  exact ⟨es, clock, seen ++ [e.born], ys, h1, h0, h2, h3, h4⟩
structure En where
  key : Nat
  vid : Nat
  c : Cont
def entOf (ν : Nms) (e : En) : Ent := match e.c with
  | .box _ => bx (ν e.key).g (ν e.vid).cs
  | .row t xs => row t.sz (ν e.key).v xs.length (ν e.vid).cs
  | .mp _ _ _ => mpe (ν e.key).g (ν e.vid).cs
  | .it _ _ _ _ _ | .itc _ _ _ _ _ _ _ => itE (ν e.key).g (ν e.vid).cs
/-- What an entry's cells stand for. -/
def contF (ν : Nms) (b : Nat) (Z : Nat → Prop) (w : World) : Cont → List Value → Prop
  | .box a, cs => avC ν b Z w a cs
  | .row t xs, cs => (RV xs.length t.rty).rel Z w xs cs
  | .mp kt vt xs, cs => mpR Z w kt vt xs cs
  | .it mk mv kt vt xs, cs => mk < b ∧ mv < b ∧ itR Z w (ν mk).g (ν mv).cs kt vt xs cs
  | .itc mk mv kt vt kx vx xs, cs => mk < b ∧ mv < b ∧ itcR Z w (ν mk).g (ν mv).cs kt vt kx vx xs cs
def enF (ν : Nms) (b : Nat) (Z : Nat → Prop) (w : World) (e : En) : Prop := e.key < b ∧ e.vid < b ∧ contF ν b Z w e.c (ν e.vid).cs
theorem contF.later {ν ν' : Nms} {b b' : Nat} {Z Z' : Nat → Prop} {w w' : World} (h : Later ν ν' b b' Z Z' w w') {c : Cont} {cs : List Value} (H : contF ν b Z w c cs) : contF ν' b' Z' w' c cs := by
  cases c with
  | box a => exact avC.later h H
  | row t xs => exact (RV xs.length t.rty).go H h.mem
  | mp kt vt xs => exact mpR.go h.mem H
  | it mk mv kt vt xs => exact ⟨Nat.lt_of_lt_of_le H.1 h.le, Nat.lt_of_lt_of_le H.2.1 h.le, by rw [h.nms _ H.1, h.nms _ H.2.1]; exact itR.go h.mem H.2.2⟩
  | itc mk mv kt vt kx vx xs => exact ⟨Nat.lt_of_lt_of_le H.1 h.le, Nat.lt_of_lt_of_le H.2.1 h.le, by rw [h.nms _ H.1, h.nms _ H.2.1]; exact itcR.go h.mem H.2.2⟩
abbrev ents (ν : Nms) (L : List En) : List Ent := L.map (entOf ν)
theorem entOf_congr {ν ν' : Nms} {b : Nat} {e : En} (h : ∀ k, k < b → ν' k = ν k) (hk : e.key < b) (hv : e.vid < b) : entOf ν' e = entOf ν e := by
  unfold entOf
  rw [h _ hk, h _ hv]
theorem enF.later {ν ν' : Nms} {b b' : Nat} {Z Z' : Nat → Prop} {w w' : World} (h : Later ν ν' b b' Z Z' w w') {e : En} (H : enF ν b Z w e) : enF ν' b' Z' w' e := by
  obtain ⟨h1, h2, h3⟩ := H
  exact ⟨Nat.lt_of_lt_of_le h1 h.le, Nat.lt_of_lt_of_le h2 h.le, by rw [h.nms _ h2]; exact h3.later h⟩
/-- Where one stands: what was there at the function's begin (S read, o owned); names; the entries L, and others F. -/
structure Base where
  S : Nat → Prop
  o : Nat → Prop
  w0 : World
  all : ∀ x, o x
abbrev Base.Z (B : Base) (l : List Ent) : Nat → Prop := TT B.S B.o B.w0 l
structure Here (B : Base) (ν : Nms) (b : Nat) (w : World) (L : List En) (F : List Ent) : Prop where
  own : Own w (footU (ents ν L ++ F)) w (ents ν L ++ F)
  fact : ∀ e ∈ L, enF ν b (B.Z (ents ν L ++ F)) w e
/-- What a step leaves. -/
structure Left (B : Base) (ν : Nms) (b : Nat) (w : World) (L : List En) (F : List Ent) (ν' : Nms) (b' : Nat) (w' : World) (L' : List En) : Prop where
  nms : ∀ k, k < b → ν' k = ν k
  le : b ≤ b'
  own : Own w (footU (ents ν L ++ F)) w' (ents ν' L' ++ F)
  fact : ∀ e ∈ L', enF ν' b' (B.Z (ents ν' L' ++ F)) w' e
section
variable {B : Base} {ν ν' ν'' : Nms} {b b' b'' : Nat} {w w' w'' : World} {L L' L'' : List En} {F : List Ent}
theorem Left.later (h : Left B ν b w L F ν' b' w' L') : Later ν ν' b b' (B.Z (ents ν L ++ F)) (B.Z (ents ν' L' ++ F)) w w' :=
  ⟨h.nms, h.le, fun x hx hz => TT.now h.own hx hz⟩
theorem Left.here (h : Left B ν b w L F ν' b' w' L') : Here B ν' b' w' L' F := ⟨h.own.fresh, h.fact⟩
theorem Here.stay (h : Here B ν b w L F) : Left B ν b w L F ν b w L := ⟨fun _ _ => rfl, Nat.le_refl _, h.own, h.fact⟩
theorem Left.trans (h : Left B ν b w L F ν' b' w' L') (h2 : Left B ν' b' w' L' F ν'' b'' w'' L'') : Left B ν b w L F ν'' b'' w'' L'' :=
  ⟨fun k hk => (h2.nms k (Nat.lt_of_lt_of_le hk h.le)).trans (h.nms k hk), Nat.le_trans h.le h2.le, h.own.trans h2.own, h2.fact⟩
/-- The step's value and what it leaves. -/
def Gives (B : Base) (ν : Nms) (b : Nat) (w : World) (L : List En) (F : List Ent) (b' : Nat) (L' : List En) (a : AV) (v : Value) (w' : World) : Prop :=
  ∃ ν', Left B ν b w L F ν' b' w' L' ∧ slotR ν' b' (B.Z (ents ν' L' ++ F)) w' a v
end
/-! ### 3. What is told is told whole: for the kernel's sake -/
def forceN {α : Type 1} : Nat → (Nat → α) → α
  | 0, k => k 0
  | n + 1, k => k (n + 1)
@[simp] theorem forceN_eq {α : Type 1} (n : Nat) (k : Nat → α) : forceN n k = k n := by cases n <;> rfl
def forceB {α : Type 1} : Bool → (Bool → α) → α
  | true, k => k true
  | false, k => k false
@[simp] theorem forceB_eq {α : Type 1} (n : Bool) (k : Bool → α) : forceB n k = k n := by cases n <;> rfl
def forceK {α : Type 1} : IntKind → (IntKind → α) → α
  | .i8, k => k .i8 | .i16, k => k .i16 | .i32, k => k .i32 | .i64, k => k .i64
  | .u8, k => k .u8 | .u16, k => k .u16 | .u32, k => k .u32 | .u64, k => k .u64
@[simp] theorem forceK_eq {α : Type 1} (n : IntKind) (k : IntKind → α) : forceK n k = k n := by cases n <;> rfl
/-- A type, with whatever hangs on it. -/
def forceTy {α : Type 1} : (t : Ty) → (G : Ty → Type) → G t → ((t : Ty) → G t → α) → α
  | .sint k, G, x, K => (match k, x with | .i64, x => K (.sint .i64) x | k, x => K (.sint k) x)
  | .u8, _, x, K => K .u8 x
  | .u16, _, x, K => K .u16 x
  | .u32, _, x, K => K .u32 x
  | .u64, _, x, K => K .u64 x
  | .bool, _, x, K => K .bool x
  | .str, _, x, K => K .str x
  | .unit, _, x, K => K .unit x
  | .arr n e, G, x, K => forceTy e (fun e => G (.arr n e)) x fun e x => K (.arr n e) x
  | .pair a b, G, x, K => forceTy a (fun a => G (.pair a b)) x fun a x => forceTy b (fun b => G (.pair a b)) x fun b x => K (.pair a b) x
  | .rcd t, G, x, K => forceTy t (fun t => G (.rcd t)) x fun t x => K (.rcd t) x
  | .list e, G, x, K => forceTy e (fun e => G (.list e)) x fun e x => K (.list e) x
@[simp] theorem forceTy_eq {α : Type 1} : ∀ (t : Ty) (G : Ty → Type) (x : G t) (K : (t : Ty) → G t → α), forceTy t G x K = K t x
  | .sint k, G, x, K => by cases k <;> rfl
  | .u8, _, _, _ | .u16, _, _, _ | .u32, _, _, _ | .u64, _, _, _ | .bool, _, _, _ | .str, _, _, _ | .unit, _, _, _ => rfl
  | .arr n e, G, x, K => by unfold forceTy; rw [forceTy_eq e]
  | .pair a b, G, x, K => by unfold forceTy; rw [forceTy_eq a, forceTy_eq b]
  | .rcd t, G, x, K => by unfold forceTy; rw [forceTy_eq t]
  | .list e, G, x, K => by unfold forceTy; rw [forceTy_eq e]
def AV.force {α : Type 1} : AV → (AV → α) → α
  | .any, K => K .any
  | .und, K => K .und
  | .tt, K => K .tt
  | .ff, K => K .ff
  | .un, K => K .un
  | .nil, K => K .nil
  | .mnil, K => K .mnil
  | .fnil, K => K .fnil
  | .snil none, K => K (.snil none)
  | .snil (some e), K => forceTy e (fun _ => Unit) () fun e _ => K (.snil (some e))
  | .val t x, K => forceTy t Ty.den x fun t x => K (.val t x)
  | .agg a, K => a.force fun a => K (.agg a)
  | .pr a b, K => a.force fun a => b.force fun b => K (.pr a b)
  | .tup a, K => a.force fun a => K (.tup a)
  | .ptr k off, K => forceN k fun k => forceN off fun off => K (.ptr k off)
  | .pel k off e N i eo, K => forceN k fun k => forceN off fun off => forceTy e (fun _ => Unit) () fun e _ => forceN N fun N => forceN eo fun eo => K (.pel k off e N i eo)
  | .rowp k e i eo, K => forceN k fun k => forceTy e (fun _ => Unit) () fun e _ => forceN eo fun eo => K (.rowp k e i eo)
  | .rop e xs i y eo, K => forceTy e (fun e => List e.den × e.den) (xs, y) fun e x => forceN eo fun eo => K (.rop e x.1 i x.2 eo)
  | .whole k s, K => forceN k fun k => forceN s fun s => K (.whole k s)
  | .win k s lo n, K => forceN k fun k => forceN s fun s => K (.win k s lo n)
  | .bwin k off e N lo n, K => forceN k fun k => forceN off fun off => forceTy e (fun _ => Unit) () fun e _ => forceN N fun N => K (.bwin k off e N lo n)
  | .ro c e xs, K => forceTy e (fun e => List e.den) xs fun e xs => K (.ro c e xs)
  | .mpv k, K => forceN k fun k => K (.mpv k)
  | .clo g a, K => forceN g fun g => a.force fun a => K (.clo g a)
@[simp] theorem AV.force_eq {α : Type 1} (a : AV) : ∀ K : AV → α, a.force K = K a := by
  induction a with
  | snil e => intro K; cases e <;> simp [AV.force]
  | _ => intro K; simp [AV.force, *]
def forceAs {α : Type 1} : List AV → (List AV → α) → α
  | [], K => K []
  | a :: l, K => a.force fun a => forceAs l fun l => K (a :: l)
@[simp] theorem forceAs_eq {α : Type 1} : ∀ (l : List AV) (K : List AV → α), forceAs l K = K l
  | [], _ => rfl
  | a :: l, K => by simp [forceAs, forceAs_eq l]
def forceL {α : Type 1} : List En → (List En → α) → α
  | [], K => K []
  | ⟨k, v, .box a⟩ :: l, K => forceN k fun k => forceN v fun v => a.force fun a => forceL l fun l => K (⟨k, v, .box a⟩ :: l)
  | ⟨k, v, .row e xs⟩ :: l, K => forceN k fun k => forceN v fun v => forceTy e (fun e => List e.den) xs fun e xs => forceL l fun l => K (⟨k, v, .row e xs⟩ :: l)
  | ⟨k, v, .mp kt vt xs⟩ :: l, K => forceN k fun k => forceN v fun v => forceTy kt (fun kt => List (kt.den × vt.den)) xs fun kt xs => forceTy vt (fun vt => List (kt.den × vt.den)) xs fun vt xs => forceL l fun l => K (⟨k, v, .mp kt vt xs⟩ :: l)
  | ⟨k, v, .it mk mv kt vt xs⟩ :: l, K => forceN k fun k => forceN v fun v => forceN mk fun mk => forceN mv fun mv => forceTy kt (fun kt => List (kt.den × vt.den)) xs fun kt xs => forceTy vt (fun vt => List (kt.den × vt.den)) xs fun vt xs => forceL l fun l => K (⟨k, v, .it mk mv kt vt xs⟩ :: l)
  | ⟨k, v, .itc mk mv kt vt kx vx xs⟩ :: l, K => forceN k fun k => forceN v fun v => forceN mk fun mk => forceN mv fun mv => forceTy kt (fun kt => kt.den × (vt.den × List (kt.den × vt.den))) (kx, vx, xs) fun kt p => forceTy vt (fun vt => kt.den × (vt.den × List (kt.den × vt.den))) p fun vt p => forceL l fun l => K (⟨k, v, .itc mk mv kt vt p.1 p.2.1 p.2.2⟩ :: l)
@[simp] theorem forceL_eq {α : Type 1} : ∀ (l : List En) (K : List En → α), forceL l K = K l
  | [], _ => rfl
  | ⟨k, v, .box a⟩ :: l, K => by simp [forceL, forceL_eq l]
  | ⟨k, v, .row e xs⟩ :: l, K => by simp [forceL, forceL_eq l]
  | ⟨k, v, .mp kt vt xs⟩ :: l, K => by simp [forceL, forceL_eq l]
  | ⟨k, v, .it mk mv kt vt xs⟩ :: l, K => by simp [forceL, forceL_eq l]
  | ⟨k, v, .itc mk mv kt vt kx vx xs⟩ :: l, K => by simp [forceL, forceL_eq l]
end Hyp
