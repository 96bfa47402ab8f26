/- Trees of pure steps; types of pure data; abstract values and what they stand for. -/
import Derived.Test.YtdlbmjbbnplpjaaXi
set_option linter.unusedVariables false
set_option linter.unusedSimpArgs false
namespace Hyp
open Go
/-! ### 1. Trees -/
inductive Tree : Type → Type 1
  | ret {α : Type} (a : α) : Tree α
  | fail {α : Type} : Tree α
  | ite {α : Type} (b : Bool) (x y : Tree α) : Tree α
  | get {α β : Type} (o : Option β) (k : β → Tree α) : Tree α
  | sub {α β : Type} (t : Tree β) (k : β → Tree α) : Tree α
  | alt {α β γ : Type} (s : β ⊕ γ) (k : β → Tree α) (l : γ → Tree α) : Tree α
  | all {α β : Type} (S : β → Prop) (k : β → Tree α) : Tree α
namespace Tree
def bind {α γ : Type} : Tree α → (α → Tree γ) → Tree γ
  | ret a, f => f a
  | fail, _ => fail
  | ite b x y, f => ite b (x.bind f) (y.bind f)
  | get o k, f => get o fun y => (k y).bind f
  | sub t k, f => sub t fun y => (k y).bind f
  | alt s k l, f => alt s (fun y => (k y).bind f) (fun y => (l y).bind f)
  | all S k, f => all S fun y => (k y).bind f
def run {α : Type} : Tree α → Option α
  | ret a => some a
  | fail => none
  | ite b x y => bif b then x.run else y.run
  | get o k => o.bind fun y => (k y).run
  | sub t k => t.run.bind fun y => (k y).run
  | alt s k l => match s with | .inl y => (k y).run | .inr y => (l y).run
  | all _ _ => none
theorem run_bind {α γ : Type} (t : Tree α) (f : α → Tree γ) : (t.bind f).run = t.run.bind fun a => (f a).run := by
  induction t with
  | ret a => rfl
  | fail => rfl
  | ite b x y hx hy => cases b <;> simp [bind, run, hx, hy]
  | get o k h => cases o <;> simp [bind, run, h]
  | sub t k ht h =>
    simp only [bind, run]
    cases t.run <;> simp [h]
  | alt s k l hk hl => cases s <;> simp [bind, run, hk, hl]
  | all S k h => rfl
theorem bind_some {α γ : Type} {t : Tree α} {f : α → Tree γ} {c : γ} (h : (t.bind f).run = some c) : ∃ a, t.run = some a ∧ (f a).run = some c := by
  rw [run_bind] at h
  exact bindE h
/-- Whatever is chosen, it comes to something of Q. -/
def Runs {α : Type} : Tree α → (α → Prop) → Prop
  | ret a, Q => Q a
  | fail, _ => False
  | ite b x y, Q => (b = true → x.Runs Q) ∧ (b = false → y.Runs Q)
  | get o k, Q => ∃ y, o = some y ∧ (k y).Runs Q
  | sub t k, Q => t.Runs fun y => (k y).Runs Q
  | alt s k l, Q => match s with | .inl y => (k y).Runs Q | .inr y => (l y).Runs Q
  | all S k, Q => ∀ y, S y → (k y).Runs Q
/-- The same, that nobody opens by himself. -/
structure Wp {α : Type} (t : Tree α) (Q : α → Prop) : Prop where
  h : t.Runs Q
theorem Runs.mono {α : Type} {t : Tree α} : ∀ {Q R : α → Prop}, t.Runs Q → (∀ a, Q a → R a) → t.Runs R := by
  induction t with
  | ret a => exact fun h hr => hr _ h
  | fail => exact fun h _ => h
  | ite b x y hx hy => exact fun h hr => ⟨fun e => hx (h.1 e) hr, fun e => hy (h.2 e) hr⟩
  | get o k ih => rintro Q R ⟨y, h1, h2⟩ hr; exact ⟨y, h1, ih y h2 hr⟩
  | sub t k ht hk => exact fun h hr => ht h fun y hy => hk y hy hr
  | alt s k l hk hl => cases s with
    | inl y => exact fun h hr => hk y h hr
    | inr y => exact fun h hr => hl y h hr
  | all S k ih => exact fun h hr y hy => ih y (h y hy) hr
theorem runs_bind {α γ : Type} (t : Tree α) (f : α → Tree γ) : ∀ Q : γ → Prop, (t.bind f).Runs Q ↔ t.Runs fun a => (f a).Runs Q := by
  induction t with
  | ret a => exact fun _ => Iff.rfl
  | fail => exact fun _ => Iff.rfl
  | ite b x y hx hy => intro Q; simp only [bind, Runs, hx, hy]
  | get o k ih => intro Q; simp only [bind, Runs, ih]
  | sub t k ht hk => intro Q; simp only [bind, Runs, hk]
  | alt s k l hk hl => intro Q; cases s <;> simp only [bind, Runs, hk, hl]
  | all S k ih => intro Q; simp only [bind, Runs, ih]
theorem runs_run {α : Type} {t : Tree α} : ∀ {a : α} {Q : α → Prop}, t.run = some a → (t.Runs Q ↔ Q a) := by
  induction t with
  | ret a => intro b Q h; cases h; exact Iff.rfl
  | fail => intro b Q h; cases h
  | ite b x y hx hy =>
    intro a Q h
    cases b
    · have : (ite false x y).Runs Q ↔ y.Runs Q := ⟨fun h => h.2 rfl, fun h => ⟨fun e => (by cases e), fun _ => h⟩⟩
      rw [this]; exact hy h
    · have : (ite true x y).Runs Q ↔ x.Runs Q := ⟨fun h => h.1 rfl, fun h => ⟨fun _ => h, fun e => (by cases e)⟩⟩
      rw [this]; exact hx h
  | get o k ih =>
    intro a Q h
    obtain ⟨y, h1, h2⟩ := bindE h
    subst h1
    exact ⟨fun ⟨z, hz, h3⟩ => by cases hz; exact (ih y h2).1 h3, fun h3 => ⟨y, rfl, (ih y h2).2 h3⟩⟩
  | sub t k ht hk =>
    intro a Q h
    obtain ⟨y, h1, h2⟩ := bindE h
    show t.Runs _ ↔ _
    rw [ht h1]
    exact hk y h2
  | alt s k l hk hl =>
    intro a Q h
    cases s with
    | inl y => exact hk y h
    | inr y => exact hl y h
  | all S k ih => intro a Q h; cases h
theorem Runs.of {α : Type} {t : Tree α} {a : α} (h : t.run = some a) : t.Runs (· = a) := (runs_run h).2 rfl
/-- Nothing is chosen. -/
def Det {α : Type} : Tree α → Prop
  | ret _ => True
  | fail => True
  | ite _ x y => x.Det ∧ y.Det
  | get _ k => ∀ y, (k y).Det
  | sub t k => t.Det ∧ ∀ y, (k y).Det
  | alt _ k l => (∀ y, (k y).Det) ∧ ∀ y, (l y).Det
  | all _ _ => False
theorem Det.bind {α γ : Type} {t : Tree α} {f : α → Tree γ} : t.Det → (∀ a, (f a).Det) → (t.bind f).Det := by
  intro h hf
  induction t with
  | ret a => exact hf a
  | fail => exact h
  | ite b x y hx hy => exact ⟨hx h.1 hf, hy h.2 hf⟩
  | get o k ih => exact fun y => ih y (h y) hf
  | sub t k ht hk => exact ⟨h.1, fun y => hk y (h.2 y) hf⟩
  | alt s k l hk hl => exact ⟨fun y => hk y (h.1 y) hf, fun y => hl y (h.2 y) hf⟩
  | all S k ih => exact h.elim
theorem Det.runs {α : Type} {t : Tree α} : ∀ {Q : α → Prop}, t.Det → t.Runs Q → ∃ a, t.run = some a ∧ Q a := by
  induction t with
  | ret a => exact fun _ h => ⟨a, rfl, h⟩
  | fail => exact fun _ h => h.elim
  | ite b x y hx hy =>
    intro Q hd h
    cases b
    · exact hy hd.2 (h.2 rfl)
    · exact hx hd.1 (h.1 rfl)
  | get o k ih =>
    rintro Q hd ⟨y, h1, h2⟩
    obtain ⟨a, h3, h4⟩ := ih y (hd y) h2
    exact ⟨a, by rw [h1]; exact h3, h4⟩
  | sub t k ht hk =>
    intro Q hd h
    obtain ⟨y, h1, h2⟩ := ht hd.1 h
    obtain ⟨a, h3, h4⟩ := hk y (hd.2 y) h2
    exact ⟨a, by show (t.run.bind _) = _; rw [h1]; exact h3, h4⟩
  | alt s k l hk hl =>
    intro Q hd h
    cases s with
    | inl y => exact hk y (hd.1 y) h
    | inr y => exact hl y (hd.2 y) h
  | all S k ih => exact fun hd => hd.elim
/-- Where something is chosen it fails. -/
def strip {α : Type} : Tree α → Tree α
  | ret a => ret a
  | fail => fail
  | ite b x y => ite b x.strip y.strip
  | get o k => get o fun y => (k y).strip
  | sub t k => get t.run fun y => (k y).strip
  | alt s k l => alt s (fun y => (k y).strip) (fun y => (l y).strip)
  | all _ _ => fail
theorem strip_run {α : Type} (t : Tree α) : t.strip.run = t.run := by
  induction t with
  | ret a => rfl
  | fail => rfl
  | ite b x y hx hy => simp only [strip, run, hx, hy]
  | get o k ih => simp only [strip, run, ih]
  | sub t k ht hk => simp only [strip, run, hk]
  | alt s k l hk hl => cases s <;> simp only [strip, run, hk, hl]
  | all S k ih => rfl
theorem strip_det {α : Type} (t : Tree α) : t.strip.Det := by
  induction t with
  | ret a => trivial
  | fail => trivial
  | ite b x y hx hy => exact ⟨hx, hy⟩
  | get o k ih => exact ih
  | sub t k ht hk => exact hk
  | alt s k l hk hl => exact ⟨hk, hl⟩
  | all S k ih => trivial
theorem strip_runs {α : Type} {t : Tree α} {Q : α → Prop} (h : t.strip.Runs Q) : ∃ a, t.run = some a ∧ Q a := by
  obtain ⟨a, h1, h2⟩ := (strip_det t).runs h
  exact ⟨a, by rw [← strip_run]; exact h1, h2⟩
def ofOption {α : Type} (o : Option α) : Tree α := match o with | some a => ret a | none => fail
@[simp] theorem run_ofOption {α : Type} (o : Option α) : (ofOption o).run = o := by cases o <;> rfl
end Tree
/-! ### 2. Types of pure data -/
inductive Ty
  | sint (k : IntKind) | u8 | u16 | u32 | u64 | bool | str | unit
  | arr (n : Nat) (e : Ty)
  | pair (a b : Ty)
  | rcd (t : Ty)
  | list (e : Ty)
  deriving DecidableEq
@[reducible] def Ty.den : Ty → Type
  | .sint _ => Int
  | .u8 => UInt8 | .u16 => UInt16 | .u32 => UInt32 | .u64 => UInt64
  | .bool => Bool
  | .str => List UInt8
  | .unit => Unit
  | .arr _ e => List e.den
  | .pair a b => a.den × b.den
  | .rcd t => t.den
  | .list e => List e.den
def E16 : Enc UInt16 := ⟨1, fun b => [u16 b], fun _ => rfl, fun _ => rfl⟩
def EK (k : IntKind) : Enc Int := ⟨1, fun b => [.int k b], fun _ => rfl, fun _ => rfl⟩
def EU : Enc Unit := ⟨0, fun _ => [], fun _ => rfl, fun _ => rfl⟩
/-- n data, one behind the other. -/
def RV {α : Type} (n : Nat) (A : RTy α) : RTy (List α) where
  sz := n * A.sz
  rel S w xs cs := xs.length = n ∧ cs.length = n * A.sz ∧ ones cs = true ∧ ∀ i x, xs[i]? = some x → A.rel S w x ((cs.drop (i * A.sz)).take A.sz)
  len h := h.2.1
  one h := h.2.2.1
  go h hg := ⟨h.1, h.2.1, h.2.2.1, fun i x hx => A.go (h.2.2.2 i x hx) hg⟩
def Ty.rty : (t : Ty) → RTy t.den
  | .sint k => .ofEnc (EK k)
  | .u8 => .ofEnc E8 | .u16 => .ofEnc E16 | .u32 => .ofEnc E32 | .u64 => .ofEnc E64
  | .bool => .ofEnc EB
  | .str => .ofEnc ES
  | .unit => .ofEnc EU
  | .arr n e => RV n e.rty
  | .pair a b => RP a.rty b.rty
  | .rcd t => t.rty
  | .list e => RS e.rty
/-- Cells of a datum. -/
def Ty.sz : Ty → Nat
  | .unit => 0
  | .arr n e => n * e.sz
  | .pair a b => a.sz + b.sz
  | .rcd t => t.sz
  | _ => 1
theorem Ty.sz_rty : (t : Ty) → t.rty.sz = t.sz
  | .sint _ | .u8 | .u16 | .u32 | .u64 | .bool | .str | .unit | .list _ => rfl
  | .arr n e => by show n * e.rty.sz = n * e.sz; rw [e.sz_rty]
  | .pair a b => by show a.rty.sz + b.rty.sz = a.sz + b.sz; rw [a.sz_rty, b.sz_rty]
  | .rcd t => t.sz_rty
/-- It holds no address. -/
def Ty.flat : Ty → Bool
  | .arr _ e => e.flat
  | .pair a b => a.flat && b.flat
  | .rcd t => t.flat
  | .list _ => false
  | _ => true
/-- A struct or an array, as a value. -/
def Ty.isAgg : Ty → Bool
  | .rcd _ | .arr _ _ => true
  | _ => false
/-- Its cells, where it holds no address. -/
def Ty.enc : (t : Ty) → t.den → List Value
  | .sint k, x => [.int k x]
  | .u8, x => [Hyp.u8 x] | .u16, x => [Hyp.u16 x] | .u32, x => [Hyp.u32 x] | .u64, x => [Hyp.u64 x]
  | .bool, x => [.bool x]
  | .str, x => [Hyp.str x]
  | .unit, _ => []
  | .arr _ e, xs => xs.flatMap e.enc
  | .pair a b, x => a.enc x.1 ++ b.enc x.2
  | .rcd t, x => t.enc x
  | .list _, _ => []
theorem chunks {α : Type} {A : RTy α} {f : α → List Value} : ∀ (xs : List α) (cs : List Value), cs.length = xs.length * A.sz → (∀ i x, xs[i]? = some x → (cs.drop (i * A.sz)).take A.sz = f x) → cs = xs.flatMap f
  | [], cs, h, _ => by simpa using h
  | x :: xs, cs, h, h4 => by
    have h0 := h4 0 x rfl
    simp only [Nat.zero_mul, List.drop_zero] at h0
    rw [List.flatMap_cons, ← h0, ← chunks (A := A) xs (cs.drop A.sz) (by simp [h, Nat.succ_mul]) (fun i y hy => by
      have := h4 (i + 1) y (by simpa using hy)
      rw [List.drop_drop, show A.sz + i * A.sz = (i + 1) * A.sz by rw [Nat.succ_mul, Nat.add_comm]]
      exact this), List.take_append_drop]
theorem Ty.rel_enc : (t : Ty) → t.flat = true → ∀ {S w x cs}, t.rty.rel S w x cs → cs = t.enc x
  | .sint _, _, _, _, _, _, h | .u8, _, _, _, _, _, h | .u16, _, _, _, _, _, h | .u32, _, _, _, _, _, h | .u64, _, _, _, _, _, h | .bool, _, _, _, _, _, h | .str, _, _, _, _, _, h | .unit, _, _, _, _, _, h => h
  | .list _, hf, _, _, _, _, _ => by cases hf
  | .rcd t, hf, _, _, _, _, h => t.rel_enc hf h
  | .pair a b, hf, _, _, _, _, h => by
    simp only [Ty.flat, Bool.and_eq_true] at hf
    obtain ⟨c1, c2, rfl, h1, h2⟩ := h
    rw [a.rel_enc hf.1 h1, b.rel_enc hf.2 h2]
    rfl
  | .arr n e, hf, S, w, xs, cs, h => by
    obtain ⟨h1, h2, _, h4⟩ := h
    exact chunks (A := e.rty) xs cs (by rw [h2, h1]) fun i x hx => e.rel_enc hf (h4 i x hx)
/-- What holds no address is read alike everywhere. -/
theorem Ty.rel_any : (t : Ty) → t.flat = true → ∀ {S S' : Nat → Prop} {w w' : World} {x cs}, t.rty.rel S w x cs → t.rty.rel S' w' x cs
  | .sint _, _, _, _, _, _, _, _, h | .u8, _, _, _, _, _, _, _, h | .u16, _, _, _, _, _, _, _, h | .u32, _, _, _, _, _, _, _, h | .u64, _, _, _, _, _, _, _, h | .bool, _, _, _, _, _, _, _, h | .str, _, _, _, _, _, _, _, h | .unit, _, _, _, _, _, _, _, h => h
  | .list _, hf, _, _, _, _, _, _, _ => by cases hf
  | .rcd t, hf, _, _, _, _, _, _, h => t.rel_any hf h
  | .pair a b, hf, _, _, _, _, _, _, h => by
    simp only [Ty.flat, Bool.and_eq_true] at hf
    obtain ⟨c1, c2, h0, h1, h2⟩ := h
    exact ⟨c1, c2, h0, a.rel_any hf.1 h1, b.rel_any hf.2 h2⟩
  | .arr n e, hf, _, _, _, _, _, _, h => ⟨h.1, h.2.1, h.2.2.1, fun i x hx => e.rel_any hf (h.2.2.2 i x hx)⟩
/-! ### 3. Abstract values -/
inductive AV
  | any | und | tt | ff | un | nil
  | snil (e : Option Ty)
  | val (t : Ty) (x : t.den)
  | agg (a : AV)
  | pr (a b : AV)
  | tup (a : AV)
  | ptr (k off : Nat)
  | pel (k off : Nat) (e : Ty) (N i eo : Nat)
  | rowp (k : Nat) (e : Ty) (i eo : Nat)
  | rop (e : Ty) (xs : List e.den) (i : Nat) (y : e.den) (eo : Nat)
  | whole (k s : Nat)
  | win (k s lo n : Nat)
  | bwin (k off : Nat) (e : Ty) (N lo n : Nat)
  | ro (c : Bool) (e : Ty) (xs : List e.den)
  | mnil | fnil
  | mpv (k : Nat)
  | clo (g : Nat) (a : AV)
/-- What a name stands for: a block; a slice; cells. -/
structure Nm where
  g : Nat
  v : Value
  cs : List Value
abbrev Nms := Nat → Nm
/-- How many elements a slice has. -/
def vlen : Value → Nat
  | .slice _ n _ => n
  | _ => 0
/-- A slice without room. -/
def Tight (v : Value) : Prop := ∃ a n, v = .slice a n n
section
variable (ν : Nms) (b : Nat) (Z : Nat → Prop) (w : World)
/-- The cells that stand for an abstract value; of names below b. -/
def avC : AV → List Value → Prop
  | .any, _ | .und, _ | .tup _, _ => False
  | .tt, cs => cs = [.bool true]
  | .ff, cs => cs = [.bool false]
  | .un, cs => cs = []
  | .nil, cs => cs = [.pointer none]
  | .mnil, cs => cs = [.map none]
  | .fnil, cs => cs = [.nilFunc]
  | .snil _, cs => cs = [.slice none 0 0]
  | .val t x, cs => t.rty.rel Z w x cs
  | .agg a, cs => avC a cs
  | .pr a c, cs => ∃ c1 c2, cs = c1 ++ c2 ∧ avC a c1 ∧ avC c c2
  | .ptr k off, cs => k < b ∧ cs = [.pointer (some ⟨(ν k).g, off, none⟩)]
  | .pel k off e N i eo, cs => k < b ∧ cs = [.pointer (some ⟨(ν k).g, off + i * e.sz + eo, none⟩)]
  | .rowp k e i eo, cs => k < b ∧ ∃ ad m c, (ν k).v = .slice (some ad) m c ∧ cs = [.pointer (some (ad.add (i * e.sz + eo)))]
  | .rop e xs i y eo, cs => xs[i]? = some y ∧ ∃ ad m c, cs = [.pointer (some (ad.add (i * e.sz + eo)))] ∧ RSl e.rty Z w (.slice (some ad) m c) xs
  | .whole k s, cs => k < b ∧ ∃ v, cs = [v] ∧ IsSl v (vlen v) ∧ v = (ν k).v
  | .win k s lo n, cs => k < b ∧ ∃ v, cs = [v] ∧ IsSl v n ∧ lo + n ≤ vlen (ν k).v ∧ (v = subv s (ν k).v lo (lo + n) ∨ ∃ a, v = .slice a 0 0)
  | .bwin k off e N lo n, cs => k < b ∧ ∃ v, cs = [v] ∧ IsSl v n ∧ lo + n ≤ N ∧ (v = .slice (some ⟨(ν k).g, off + lo * e.sz, none⟩) n (N - lo) ∨ ∃ a, v = .slice a 0 0)
  | .ro c e xs, cs => ∃ v, cs = [v] ∧ RSl e.rty Z w v xs ∧ (c = true → Tight v)
  | .mpv k, cs => k < b ∧ cs = [.map (some (ν k).g)]
  | .clo g a, cs => ∃ vs : List Value, cs = [.func (.func g) #[] vs.toArray] ∧ avC a vs
def AV.isAgg : AV → Bool
  | .agg _ => true
  | .val t _ => t.isAgg
  | _ => false
def avV (a : AV) (v : Value) : Prop := if a.isAgg = true then ∃ cs, v = .agg cs.toArray ∧ avC ν b Z w a cs else avC ν b Z w a [v]
def avT : AV → List Value → Prop
  | .un, vs => vs = []
  | .pr a c, vs => ∃ v vs', vs = v :: vs' ∧ avV ν b Z w a v ∧ avT c vs'
  | _, _ => False
/-- What a slot holds. -/
def slotR : AV → Value → Prop
  | .any, _ => True
  | .und, v => v = undef
  | .tup a, v => ∃ vs, v = .tuple vs.toArray ∧ avT ν b Z w a vs
  | a, v => avV ν b Z w a v
end
/-! ### 4. What holds of it -/
section
variable {ν ν' : Nms} {b b' : Nat} {Z Z' : Nat → Prop} {w w' : World}
structure Later (ν ν' : Nms) (b b' : Nat) (Z Z' : Nat → Prop) (w w' : World) : Prop where
  nms : ∀ k, k < b → ν' k = ν k
  le : b ≤ b'
  mem : ∀ x, x < w.heap.size → Z x → Z' x ∧ w'.heap[x]? = w.heap[x]?
theorem avC.later (h : Later ν ν' b b' Z Z' w w') : ∀ {a : AV} {cs : List Value}, avC ν b Z w a cs → avC ν' b' Z' w' a cs
  | .any, _, H | .und, _, H | .tup _, _, H => H
  | .tt, _, H | .ff, _, H | .un, _, H | .nil, _, H | .mnil, _, H | .fnil, _, H | .snil _, _, H => H
  | .val t x, _, H => t.rty.go H h.mem
  | .agg a, _, H => avC.later h (a := a) H
  | .pr _ _, _, ⟨c1, c2, h0, h1, h2⟩ => ⟨c1, c2, h0, avC.later h h1, avC.later h h2⟩
  | .ptr k _, _, H => ⟨Nat.lt_of_lt_of_le H.1 h.le, by rw [h.nms k H.1]; exact H.2⟩
  | .pel k _ _ _ _ _, _, H => ⟨Nat.lt_of_lt_of_le H.1 h.le, by rw [h.nms k H.1]; exact H.2⟩
  | .rowp k _ _ _, _, H => ⟨Nat.lt_of_lt_of_le H.1 h.le, by rw [h.nms k H.1]; exact H.2⟩
  | .rop _ _ _ _ _, _, ⟨hy, ad, m, c, h0, h1⟩ => ⟨hy, ad, m, c, h0, h1.go h.mem⟩
  | .whole k _, _, H => ⟨Nat.lt_of_lt_of_le H.1 h.le, by rw [h.nms k H.1]; exact H.2⟩
  | .win k _ _ _, _, H => ⟨Nat.lt_of_lt_of_le H.1 h.le, by rw [h.nms k H.1]; exact H.2⟩
  | .bwin k _ _ _ _ _, _, H => ⟨Nat.lt_of_lt_of_le H.1 h.le, by rw [h.nms k H.1]; exact H.2⟩
  | .ro _ _ _, _, ⟨v, h0, h1, h2⟩ => ⟨v, h0, h1.go h.mem, h2⟩
  | .mpv k, _, H => ⟨Nat.lt_of_lt_of_le H.1 h.le, by rw [h.nms k H.1]; exact H.2⟩
  | .clo _ a, _, ⟨vs, h0, h1⟩ => ⟨vs, h0, avC.later h h1⟩
theorem avV.later (h : Later ν ν' b b' Z Z' w w') {a : AV} {v : Value} (H : avV ν b Z w a v) : avV ν' b' Z' w' a v := by
  unfold avV at *
  split
  · rename_i ha
    rw [if_pos ha] at H
    obtain ⟨cs, h1, h2⟩ := H
    exact ⟨cs, h1, h2.later h⟩
  · rename_i ha
    rw [if_neg ha] at H
    exact H.later h
theorem avT.later (h : Later ν ν' b b' Z Z' w w') : ∀ {a : AV} {vs : List Value}, avT ν b Z w a vs → avT ν' b' Z' w' a vs
  | .un, _, H => H
  | .pr _ _, _, ⟨v, vs', h0, h1, h2⟩ => ⟨v, vs', h0, h1.later h, avT.later h h2⟩
  | .any, _, H | .und, _, H | .tup _, _, H | .tt, _, H | .ff, _, H | .nil, _, H | .mnil, _, H | .fnil, _, H | .snil _, _, H | .val _ _, _, H | .agg _, _, H | .ptr _ _, _, H | .pel _ _ _ _ _ _, _, H | .rowp _ _ _ _, _, H | .rop _ _ _ _ _, _, H | .whole _ _, _, H | .win _ _ _ _, _, H | .bwin _ _ _ _ _ _, _, H | .ro _ _ _, _, H | .mpv _, _, H | .clo _ _, _, H => H.elim
theorem slotR.later (h : Later ν ν' b b' Z Z' w w') {a : AV} {v : Value} (H : slotR ν b Z w a v) : slotR ν' b' Z' w' a v := by
  unfold slotR at *
  split at H
  · trivial
  · exact H
  · obtain ⟨vs, h0, h1⟩ := H; exact ⟨vs, h0, h1.later h⟩
  · exact avV.later h H
def AV.csz : AV → Nat
  | .val t _ => t.sz
  | .agg a => a.csz
  | .pr a c => a.csz + c.csz
  | .un => 0
  | _ => 1
theorem avC.len : ∀ {a : AV} {cs : List Value}, avC ν b Z w a cs → cs.length = a.csz
  | .any, _, H | .und, _, H | .tup _, _, H => H.elim
  | .tt, _, H | .ff, _, H | .un, _, H | .nil, _, H | .mnil, _, H | .fnil, _, H | .snil _, _, H => by rw [show _ = _ from H]; rfl
  | .val t x, _, H => by rw [t.rty.len H, t.sz_rty]; rfl
  | .agg a, _, H => avC.len (a := a) H
  | .pr _ _, _, ⟨c1, c2, h0, h1, h2⟩ => by rw [h0, List.length_append, avC.len h1, avC.len h2]; rfl
  | .ptr k _, _, H | .pel k _ _ _ _ _, _, H | .mpv k, _, H => by rw [H.2]; rfl
  | .clo _ _, _, ⟨vs, h0, _⟩ => by rw [h0]; rfl
  | .rowp k _ _ _, _, ⟨_, ad, m, c, h0, h1⟩ => by rw [h1]; rfl
  | .rop _ _ _ _ _, _, ⟨_, ad, m, c, h0, h1⟩ => by rw [h0]; rfl
  | .whole k _, _, ⟨_, v, h0, _⟩ | .win k _ _ _, _, ⟨_, v, h0, _⟩ | .bwin k _ _ _ _ _, _, ⟨_, v, h0, _⟩ => by rw [h0]; rfl
  | .ro _ _ _, _, ⟨v, h0, h1, h2⟩ => by rw [h0]; rfl
theorem avC.ones : ∀ {a : AV} {cs : List Value}, avC ν b Z w a cs → ones cs = true
  | .any, _, H | .und, _, H | .tup _, _, H => H.elim
  | .tt, _, H | .ff, _, H | .un, _, H | .nil, _, H | .mnil, _, H | .fnil, _, H | .snil _, _, H => by rw [show _ = _ from H]; rfl
  | .val t x, _, H => t.rty.one H
  | .agg a, _, H => avC.ones (a := a) H
  | .pr _ _, _, ⟨c1, c2, h0, h1, h2⟩ => by rw [h0]; exact ones_append (avC.ones h1) (avC.ones h2)
  | .ptr k _, _, H | .pel k _ _ _ _ _, _, H | .mpv k, _, H => by rw [H.2]; rfl
  | .clo _ _, _, ⟨vs, h0, _⟩ => by rw [h0]; rfl
  | .rowp k _ _ _, _, ⟨_, ad, m, c, h0, h1⟩ => by rw [h1]; rfl
  | .rop _ _ _ _ _, _, ⟨_, ad, m, c, h0, h1⟩ => by rw [h0]; rfl
  | .whole k _, _, ⟨_, v, h0, h1, _⟩ | .win k _ _ _, _, ⟨_, v, h0, h1, _⟩ | .bwin k _ _ _ _ _, _, ⟨_, v, h0, h1, _⟩ => by rw [h0]; exact ones_cons (onec h1) rfl
  | .ro _ _ _, _, ⟨v, h0, h1, h2⟩ => by rw [h0]; exact ones_cons (onec h1.is) rfl
/-- A value's cells. -/
theorem avV.cells {a : AV} {v : Value} (H : avV ν b Z w a v) : avC ν b Z w a v.cells.toList := by
  unfold avV at H
  split at H
  · obtain ⟨cs, rfl, h⟩ := H; simpa [Value.cells] using h
  · rename_i ha
    have h1 := H.ones
    have : v.cells = #[v] := by
      cases v <;> first
        | rfl
        | (simp [Hyp.ones, Value.oneCell'] at h1)
    rw [this]; exact H
/-- The part of so many cells at an offset. -/
def atOff (wa : Bool) : AV → Nat → Nat → Option AV
  | .agg a, o, s => bif wa && (Nat.beq o 0 && Nat.beq a.csz s) then some (.agg a) else atOff wa a o s
  | .pr a c, o, s => bif Nat.blt o a.csz then atOff wa a o s else atOff wa c (o - a.csz) s
  | .un, _, _ | .any, _, _ | .und, _, _ | .tup _, _, _ => none
  | x, o, s => bif Nat.beq o 0 && Nat.beq x.csz s then some x else none
theorem bifT {α : Type} {c : Bool} {x : α} {r : α} (h : (bif c then some x else none) = some r) : c = true ∧ x = r := by
  cases c
  · cases h
  · exact ⟨rfl, Option.some.inj h⟩
theorem leaf_ok {wa : Bool} {a x : AV} {o s : Nat} {cs : List Value} (H : avC ν b Z w a cs) (h : (bif Nat.beq o 0 && Nat.beq a.csz s then some a else none) = some x) : avC ν b Z w x ((cs.drop o).take s) ∧ o + s ≤ cs.length ∧ x.csz = s := by
  obtain ⟨h1, rfl⟩ := bifT h
  simp only [Bool.and_eq_true] at h1
  have h2 := Nat.eq_of_beq_eq_true h1.1
  have h3 := Nat.eq_of_beq_eq_true h1.2
  have h4 := H.len
  subst h2
  rw [List.drop_zero, List.take_of_length_le (by omega)]
  exact ⟨H, by omega, h3⟩
theorem atOff_ok {wa : Bool} : ∀ {a x : AV} {o s : Nat} {cs : List Value}, avC ν b Z w a cs → atOff wa a o s = some x → avC ν b Z w x ((cs.drop o).take s) ∧ o + s ≤ cs.length ∧ x.csz = s
  | .agg a, x, o, s, cs, H, h => by
    unfold atOff at h
    cases hc : (wa && (Nat.beq o 0 && Nat.beq a.csz s))
    · rw [hc] at h
      exact atOff_ok (a := a) H h
    · rw [hc] at h
      simp only [Bool.and_eq_true] at hc
      have : (bif Nat.beq o 0 && Nat.beq (AV.agg a).csz s then some (AV.agg a) else none) = some x := by
        have : (Nat.beq o 0 && Nat.beq (AV.agg a).csz s) = true := by simp only [Bool.and_eq_true]; exact hc.2
        rw [this]; exact h
      exact leaf_ok (wa := wa) (a := .agg a) H this
  | .pr a c, x, o, s, cs, ⟨c1, c2, h0, h1, h2⟩, h => by
    unfold atOff at h
    have hl := h1.len
    subst h0
    cases hb : Nat.blt o a.csz
    · rw [hb] at h
      have hge : a.csz ≤ o := by
        rcases Nat.lt_or_ge o a.csz with h3 | h3
        · have : Nat.blt o a.csz = true := Nat.ble_eq_true_of_le h3
          rw [this] at hb; cases hb
        · exact h3
      obtain ⟨g1, g2, g3⟩ := atOff_ok h2 h
      rw [List.drop_append, List.drop_of_length_le (by omega), List.nil_append, hl, List.length_append]
      exact ⟨g1, by omega, g3⟩
    · rw [hb] at h
      have hlt : o < a.csz := Nat.le_of_ble_eq_true hb
      obtain ⟨g1, g2, g3⟩ := atOff_ok h1 h
      rw [List.drop_append_of_le_length (by omega), List.take_append_of_le_length (by rw [List.length_drop]; omega), List.length_append]
      exact ⟨g1, by omega, g3⟩
  | .un, _, _, _, _, _, h | .any, _, _, _, _, _, h | .und, _, _, _, _, _, h | .tup _, _, _, _, _, _, h => by cases h
  | .tt, _, _, _, _, H, h | .ff, _, _, _, _, H, h | .nil, _, _, _, _, H, h | .mnil, _, _, _, _, H, h | .fnil, _, _, _, _, H, h | .snil _, _, _, _, _, H, h | .val _ _, _, _, _, _, H, h | .ptr _ _, _, _, _, _, H, h | .pel _ _ _ _ _ _, _, _, _, _, H, h | .rowp _ _ _ _, _, _, _, _, H, h
  | .rop _ _ _ _ _, _, _, _, _, H, h | .whole _ _, _, _, _, _, H, h | .win _ _ _ _, _, _, _, _, H, h | .bwin _ _ _ _ _ _, _, _, _, _, H, h | .ro _ _ _, _, _, _, _, H, h | .mpv _, _, _, _, _, H, h | .clo _ _, _, _, _, _, H, h => leaf_ok (wa := wa) H h
/-- The same with another part at an offset. -/
def putOff (y : AV) : AV → Nat → Option AV
  | .agg a, o => bif y.isAgg && (Nat.beq o 0 && Nat.beq a.csz y.csz) then some y else (putOff y a o).map .agg
  | .pr a c, o => bif Nat.blt o a.csz then (putOff y a o).map fun a' => .pr a' c else (putOff y c (o - a.csz)).map fun c' => .pr a c'
  | .un, _ | .any, _ | .und, _ | .tup _, _ => none
  | x, o => bif Nat.beq o 0 && Nat.beq x.csz y.csz then some y else none
theorem splice_all {cs ys : List Value} (h : cs.length = ys.length) : splice cs 0 ys = ys := by
  simp [splice, h]
theorem leafp_ok {a x y : AV} {o : Nat} {cs ys : List Value} (H : avC ν b Z w a cs) (Hy : avC ν b Z w y ys) (h : (bif Nat.beq o 0 && Nat.beq a.csz y.csz then some y else none) = some x) : avC ν b Z w x (splice cs o ys) ∧ o + ys.length ≤ cs.length := by
  obtain ⟨h1, rfl⟩ := bifT h
  simp only [Bool.and_eq_true] at h1
  have h2 := Nat.eq_of_beq_eq_true h1.1
  have h3 := Nat.eq_of_beq_eq_true h1.2
  have h4 := H.len
  have h5 := Hy.len
  subst h2
  rw [splice_all (by omega)]
  exact ⟨Hy, by omega⟩
theorem putOff_ok {y : AV} {ys : List Value} (Hy : avC ν b Z w y ys) : ∀ {a x : AV} {o : Nat} {cs : List Value}, avC ν b Z w a cs → putOff y a o = some x → avC ν b Z w x (splice cs o ys) ∧ o + ys.length ≤ cs.length
  | .agg a, x, o, cs, H, h => by
    unfold putOff at h
    cases hc : (y.isAgg && (Nat.beq o 0 && Nat.beq a.csz y.csz))
    · rw [hc] at h
      simp only [cond_false, Option.map_eq_some_iff] at h
      obtain ⟨a', h1, rfl⟩ := h
      exact putOff_ok Hy (a := a) (x := a') H h1
    · rw [hc] at h
      simp only [Bool.and_eq_true] at hc
      have : (bif Nat.beq o 0 && Nat.beq (AV.agg a).csz y.csz then some y else none) = some x := by
        have : (Nat.beq o 0 && Nat.beq (AV.agg a).csz y.csz) = true := by simp only [Bool.and_eq_true]; exact hc.2
        rw [this]; exact h
      exact leafp_ok (a := .agg a) H Hy this
  | .pr a c, x, o, cs, ⟨c1, c2, h0, h1, h2⟩, h => by
    unfold putOff at h
    have hl := h1.len
    subst h0
    cases hb : Nat.blt o a.csz
    · rw [hb] at h
      simp only [cond_false, Option.map_eq_some_iff] at h
      obtain ⟨c', h3, rfl⟩ := h
      have hge : a.csz ≤ o := by
        rcases Nat.lt_or_ge o a.csz with h3 | h3
        · have : Nat.blt o a.csz = true := Nat.ble_eq_true_of_le h3
          rw [this] at hb; cases hb
        · exact h3
      obtain ⟨g1, g2⟩ := putOff_ok Hy h2 h3
      refine ⟨⟨c1, splice c2 (o - a.csz) ys, ?_, h1, g1⟩, by rw [List.length_append]; omega⟩
      unfold splice
      rw [List.take_append, List.take_of_length_le (by omega), List.drop_append, List.drop_of_length_le (by omega), hl, List.nil_append, show o + ys.length - a.csz = o - a.csz + ys.length by omega]
      simp only [List.append_assoc]
    · rw [hb] at h
      simp only [cond_true, Option.map_eq_some_iff] at h
      obtain ⟨a', h3, rfl⟩ := h
      have hlt : o < a.csz := Nat.le_of_ble_eq_true hb
      obtain ⟨g1, g2⟩ := putOff_ok Hy h1 h3
      refine ⟨⟨splice c1 o ys, c2, ?_, g1, h2⟩, by rw [List.length_append]; omega⟩
      unfold splice
      rw [List.take_append_of_le_length (by omega), List.drop_append_of_le_length (by omega), List.append_assoc, List.append_assoc, List.append_assoc]
  | .un, _, _, _, _, h | .any, _, _, _, _, h | .und, _, _, _, _, h | .tup _, _, _, _, _, h => by cases h
  | .tt, _, _, _, H, h | .ff, _, _, _, H, h | .nil, _, _, _, H, h | .mnil, _, _, _, H, h | .fnil, _, _, _, H, h | .snil _, _, _, _, H, h | .val _ _, _, _, _, H, h | .ptr _ _, _, _, _, H, h | .pel _ _ _ _ _ _, _, _, _, H, h | .rowp _ _ _ _, _, _, _, H, h
  | .rop _ _ _ _ _, _, _, _, H, h | .whole _ _, _, _, _, H, h | .win _ _ _ _, _, _, _, H, h | .bwin _ _ _ _ _ _, _, _, _, H, h | .ro _ _ _, _, _, _, H, h | .mpv _, _, _, _, H, h | .clo _ _, _, _, _, H, h => leafp_ok H Hy h
end
end Hyp
