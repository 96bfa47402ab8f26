/- Shapes: a summary told by one shape, with its leaves as variables. -/
import Derived.Test.YtdlbmjbbnplpjaaMq
set_option linter.unusedVariables false
set_option linter.unusedSimpArgs false
namespace Hyp
open Go
/-- A leaf. -/
inductive Lf
  | d (t : Ty) (x : t.den)
  | n (k : Nat)
  | c (b : Bool)
/-- Is it of the shape? Its leaves. -/
def sameA : AV → AV → Option (List Lf)
  | .any, .any | .und, .und | .tt, .tt | .ff, .ff | .un, .un | .nil, .nil | .mnil, .mnil | .fnil, .fnil => some []
  | .snil e, .snil e' => bif decide (e = e') then some [] else none
  | .val t _, .val t' x => bif decide (t = t') then some [.d t' x] else none
  | .agg a, .agg a' => sameA a a'
  | .tup a, .tup a' => sameA a a'
  | .pr a c, .pr a' c' => (sameA a a').bind fun l => (sameA c c').map fun m => l ++ m
  | .ptr k o, .ptr k' o' => bif Nat.beq k k' && Nat.beq o o' then some [] else none
  | .pel k o e N _ eo, .pel k' o' e' N' i eo' => bif Nat.beq k k' && (Nat.beq o o' && (decide (e = e') && (Nat.beq N N' && Nat.beq eo eo'))) then some [.n i] else none
  | .rowp k e _ eo, .rowp k' e' i eo' => bif Nat.beq k k' && (decide (e = e') && Nat.beq eo eo') then some [.n i] else none
  | .whole k s, .whole k' s' => bif Nat.beq k k' && Nat.beq s s' then some [] else none
  | .win k s _ _, .win k' s' lo n => bif Nat.beq k k' && Nat.beq s s' then some [.n lo, .n n] else none
  | .bwin k o e N _ _, .bwin k' o' e' N' lo n => bif Nat.beq k k' && (Nat.beq o o' && (decide (e = e') && Nat.beq N N')) then some [.n lo, .n n] else none
  | .ro _ e _, .ro c e' xs => bif decide (e = e') then some [.c c, .d (.list e') xs] else none
  | .mpv k, .mpv k' => bif Nat.beq k k' then some [] else none
  | .clo g a, .clo g' a' => bif Nat.beq g g' then sameA a a' else none
  | _, _ => none
def fillA : AV → List Lf → Option (AV × List Lf)
  | .val _ _, .d t x :: l => some (.val t x, l)
  | .agg a, l => (fillA a l).map fun p => (.agg p.1, p.2)
  | .tup a, l => (fillA a l).map fun p => (.tup p.1, p.2)
  | .pr a c, l => (fillA a l).bind fun p => (fillA c p.2).map fun q => (.pr p.1 q.1, q.2)
  | .pel k o e N _ eo, .n i :: l => some (.pel k o e N i eo, l)
  | .rowp k e _ eo, .n i :: l => some (.rowp k e i eo, l)
  | .win k s _ _, .n lo :: .n n :: l => some (.win k s lo n, l)
  | .bwin k o e N _ _, .n lo :: .n n :: l => some (.bwin k o e N lo n, l)
  | .ro _ _ _, .c c :: .d (.list e) xs :: l => some (.ro c e xs, l)
  | .clo g a, l => (fillA a l).map fun p => (.clo g p.1, p.2)
  | a, l => some (a, l)
theorem bifS {α : Type} {c : Bool} {x : α} {r : α} (h : (bif c then some x else none) = some r) : c = true ∧ x = r := bifT h
theorem sameA_ok : ∀ {p a : AV} {l : List Lf}, sameA p a = some l → ∀ m, fillA p (l ++ m) = some (a, m) := by
  intro p
  induction p with
  | agg p ih =>
    intro a l h m
    cases a <;> simp only [sameA, reduceCtorEq] at h
    rw [fillA, ih h m]; rfl
  | tup p ih =>
    intro a l h m
    cases a <;> simp only [sameA, reduceCtorEq] at h
    rw [fillA, ih h m]; rfl
  | pr p q ihp ihq =>
    intro a l h m
    cases a <;> simp only [sameA, reduceCtorEq] at h
    obtain ⟨l1, h1, h2⟩ := bindE h
    simp only [Option.map_eq_some_iff] at h2
    obtain ⟨l2, h2, rfl⟩ := h2
    rw [fillA, List.append_assoc, ihp h1, Option.bind_some, ihq h2]; rfl
  | val t x =>
    intro a l h m
    cases a <;> simp only [sameA, reduceCtorEq] at h
    obtain ⟨h1, rfl⟩ := bifS h
    rfl
  | snil e =>
    intro a l h m
    cases a <;> simp only [sameA, reduceCtorEq] at h
    rename_i e'
    obtain ⟨h1, rfl⟩ := bifS h
    have : e = e' := by simpa using h1
    subst this
    rfl
  | ptr k o =>
    intro a l h m
    cases a <;> simp only [sameA, reduceCtorEq] at h
    obtain ⟨h1, rfl⟩ := bifS h
    simp only [Bool.and_eq_true] at h1
    obtain rfl := Nat.eq_of_beq_eq_true h1.1
    obtain rfl := Nat.eq_of_beq_eq_true h1.2
    rfl
  | pel k o e N i eo =>
    intro a l h m
    cases a <;> simp only [sameA, reduceCtorEq] at h
    obtain ⟨h1, rfl⟩ := bifS h
    simp only [Bool.and_eq_true, decide_eq_true_eq] at h1
    obtain ⟨q1, q2, q3, q4, q5⟩ := h1
    obtain rfl := Nat.eq_of_beq_eq_true q1
    obtain rfl := Nat.eq_of_beq_eq_true q2
    subst q3
    obtain rfl := Nat.eq_of_beq_eq_true q4
    obtain rfl := Nat.eq_of_beq_eq_true q5
    rfl
  | rowp k e i eo =>
    intro a l h m
    cases a <;> simp only [sameA, reduceCtorEq] at h
    obtain ⟨h1, rfl⟩ := bifS h
    simp only [Bool.and_eq_true, decide_eq_true_eq] at h1
    obtain ⟨q1, q2, q3⟩ := h1
    obtain rfl := Nat.eq_of_beq_eq_true q1
    subst q2
    obtain rfl := Nat.eq_of_beq_eq_true q3
    rfl
  | whole k s =>
    intro a l h m
    cases a <;> simp only [sameA, reduceCtorEq] at h
    obtain ⟨h1, rfl⟩ := bifS h
    simp only [Bool.and_eq_true] at h1
    obtain rfl := Nat.eq_of_beq_eq_true h1.1
    obtain rfl := Nat.eq_of_beq_eq_true h1.2
    rfl
  | win k s lo n =>
    intro a l h m
    cases a <;> simp only [sameA, reduceCtorEq] at h
    obtain ⟨h1, rfl⟩ := bifS h
    simp only [Bool.and_eq_true] at h1
    obtain rfl := Nat.eq_of_beq_eq_true h1.1
    obtain rfl := Nat.eq_of_beq_eq_true h1.2
    rfl
  | bwin k o e N lo n =>
    intro a l h m
    cases a <;> simp only [sameA, reduceCtorEq] at h
    obtain ⟨h1, rfl⟩ := bifS h
    simp only [Bool.and_eq_true, decide_eq_true_eq] at h1
    obtain ⟨q1, q2, q3, q4⟩ := h1
    obtain rfl := Nat.eq_of_beq_eq_true q1
    obtain rfl := Nat.eq_of_beq_eq_true q2
    subst q3
    obtain rfl := Nat.eq_of_beq_eq_true q4
    rfl
  | ro c e xs =>
    intro a l h m
    cases a <;> simp only [sameA, reduceCtorEq] at h
    rename_i c' e' xs'
    obtain ⟨h1, rfl⟩ := bifS h
    have : e = e' := by simpa using h1
    subst this
    rfl
  | rop e xs i y eo =>
    intro a l h m
    cases a <;> simp only [sameA, reduceCtorEq] at h
  | mpv k =>
    intro a l h m
    cases a <;> simp only [sameA, reduceCtorEq] at h
    obtain ⟨h1, rfl⟩ := bifS h
    obtain rfl := Nat.eq_of_beq_eq_true h1
    rfl
  | clo g p ih =>
    intro a l h m
    cases a <;> simp only [sameA, reduceCtorEq] at h
    rename_i g' a'
    cases hb : Nat.beq g g' <;> rw [hb] at h
    · cases h
    · obtain rfl := Nat.eq_of_beq_eq_true hb
      rw [fillA, ih h]; rfl
  | _ =>
    intro a l h m
    cases a <;> simp only [sameA, reduceCtorEq, Option.some.injEq] at h <;> subst h <;> rfl
def sameAs : List AV → List AV → Option (List Lf)
  | [], [] => some []
  | p :: ps, a :: l => (sameA p a).bind fun x => (sameAs ps l).map fun y => x ++ y
  | _, _ => none
def fillAs : List AV → List Lf → Option (List AV × List Lf)
  | [], l => some ([], l)
  | p :: ps, l => (fillA p l).bind fun x => (fillAs ps x.2).map fun y => (x.1 :: y.1, y.2)
theorem sameAs_ok : ∀ {p a : List AV} {l : List Lf}, sameAs p a = some l → ∀ m, fillAs p (l ++ m) = some (a, m)
  | [], [], l, h, m => by cases h; rfl
  | p :: ps, a :: as_, l, h, m => by
    unfold sameAs at h
    obtain ⟨l1, h1, h2⟩ := bindE h
    simp only [Option.map_eq_some_iff] at h2
    obtain ⟨l2, h2, rfl⟩ := h2
    rw [fillAs, List.append_assoc, sameA_ok h1, Option.bind_some, sameAs_ok h2]; rfl
  | [], _ :: _, l, h, m => by cases h
  | _ :: _, [], l, h, m => by cases h
def sameE : En → En → Option (List Lf)
  | ⟨k, v, .box p⟩, ⟨k', v', .box a⟩ => bif Nat.beq k k' && Nat.beq v v' then sameA p a else none
  | ⟨k, v, .row e _⟩, ⟨k', v', .row e' xs⟩ => bif Nat.beq k k' && (Nat.beq v v' && decide (e = e')) then some [.d (.list e') xs] else none
  | ⟨k, v, .mp kt vt _⟩, ⟨k', v', .mp kt' vt' xs⟩ => bif Nat.beq k k' && (Nat.beq v v' && (decide (kt = kt') && decide (vt = vt'))) then some [.d (.list (.rcd (.pair kt' vt'))) xs] else none
  | ⟨k, v, .it mk mv kt vt _⟩, ⟨k', v', .it mk' mv' kt' vt' xs⟩ => bif Nat.beq k k' && (Nat.beq v v' && (Nat.beq mk mk' && (Nat.beq mv mv' && (decide (kt = kt') && decide (vt = vt'))))) then some [.d (.list (.rcd (.pair kt' vt'))) xs] else none
  | _, _ => none
def fillE : En → List Lf → Option (En × List Lf)
  | ⟨k, v, .box p⟩, l => (fillA p l).map fun x => (⟨k, v, .box x.1⟩, x.2)
  | ⟨k, v, .row _ _⟩, .d (.list e) xs :: l => some (⟨k, v, .row e xs⟩, l)
  | ⟨k, v, .mp _ _ _⟩, .d (.list (.rcd (.pair kt vt))) xs :: l => some (⟨k, v, .mp kt vt xs⟩, l)
  | ⟨k, v, .it mk mv _ _ _⟩, .d (.list (.rcd (.pair kt vt))) xs :: l => some (⟨k, v, .it mk mv kt vt xs⟩, l)
  | _, _ => none
theorem sameE_ok {p a : En} {l : List Lf} (h : sameE p a = some l) (m : List Lf) : fillE p (l ++ m) = some (a, m) := by
  obtain ⟨k, v, c⟩ := p
  obtain ⟨k', v', c'⟩ := a
  cases c <;> cases c' <;> simp only [sameE, reduceCtorEq] at h
  · cases hb : (Nat.beq k k' && Nat.beq v v') <;> rw [hb] at h
    · cases h
    · simp only [Bool.and_eq_true] at hb
      obtain rfl := Nat.eq_of_beq_eq_true hb.1
      obtain rfl := Nat.eq_of_beq_eq_true hb.2
      rw [fillE, sameA_ok h]; rfl
  · obtain ⟨h1, rfl⟩ := bifS h
    simp only [Bool.and_eq_true, decide_eq_true_eq] at h1
    obtain ⟨q1, q2, q3⟩ := h1
    obtain rfl := Nat.eq_of_beq_eq_true q1
    obtain rfl := Nat.eq_of_beq_eq_true q2
    subst q3
    rfl
  · obtain ⟨h1, rfl⟩ := bifS h
    simp only [Bool.and_eq_true, decide_eq_true_eq] at h1
    obtain ⟨q1, q2, q3, q4⟩ := h1
    obtain rfl := Nat.eq_of_beq_eq_true q1
    obtain rfl := Nat.eq_of_beq_eq_true q2
    subst q3; subst q4
    rfl
  · obtain ⟨h1, rfl⟩ := bifS h
    simp only [Bool.and_eq_true, decide_eq_true_eq] at h1
    obtain ⟨q1, q2, q3, q4, q5, q6⟩ := h1
    obtain rfl := Nat.eq_of_beq_eq_true q1
    obtain rfl := Nat.eq_of_beq_eq_true q2
    obtain rfl := Nat.eq_of_beq_eq_true q3
    obtain rfl := Nat.eq_of_beq_eq_true q4
    subst q5; subst q6
    rfl
def sameL : List En → List En → Option (List Lf)
  | [], [] => some []
  | p :: ps, a :: l => (sameE p a).bind fun x => (sameL ps l).map fun y => x ++ y
  | _, _ => none
def fillL' : List En → List Lf → Option (List En × List Lf)
  | [], l => some ([], l)
  | p :: ps, l => (fillE p l).bind fun x => (fillL' ps x.2).map fun y => (x.1 :: y.1, y.2)
theorem sameL_ok : ∀ {p a : List En} {l : List Lf}, sameL p a = some l → ∀ m, fillL' p (l ++ m) = some (a, m)
  | [], [], l, h, m => by cases h; rfl
  | p :: ps, a :: as_, l, h, m => by
    unfold sameL at h
    obtain ⟨l1, h1, h2⟩ := bindE h
    simp only [Option.map_eq_some_iff] at h2
    obtain ⟨l2, h2, rfl⟩ := h2
    rw [fillL', List.append_assoc, sameE_ok h1, Option.bind_some, sameL_ok h2]; rfl
  | [], _ :: _, l, h, m => by cases h
  | _ :: _, [], l, h, m => by cases h
/-- A shape: of arguments, of entries, of how many names. -/
structure Sk where
  a : List AV
  L : List En
  b : Nat
def sameS (s : Sk) (avs : List AV) (L : List En) (b : Nat) : Option (List Lf) := bif Nat.beq s.b b then (sameAs s.a avs).bind fun l => (sameL s.L L).map fun m => l ++ m else none
def fillS (s : Sk) (l : List Lf) : List AV × List En := match fillAs s.a l with
  | some (avs, l) => match fillL' s.L l with
    | some (L, _) => (avs, L)
    | none => ([], [])
  | none => ([], [])
theorem sameS_ok {s : Sk} {avs : List AV} {L : List En} {b : Nat} {l : List Lf} (h : sameS s avs L b = some l) : b = s.b ∧ avs = (fillS s l).1 ∧ L = (fillS s l).2 := by
  unfold sameS at h
  cases hb : Nat.beq s.b b <;> rw [hb] at h
  · cases h
  · obtain ⟨l1, h1, h2⟩ := bindE h
    simp only [Option.map_eq_some_iff] at h2
    obtain ⟨l2, h2, rfl⟩ := h2
    have e1 := sameAs_ok h1 l2
    have e2 := sameL_ok h2 []
    rw [List.append_nil] at e2
    have : fillS s (l1 ++ l2) = (avs, L) := by unfold fillS; rw [e1]; dsimp only; rw [e2]
    rw [this]
    exact ⟨(Nat.eq_of_beq_eq_true hb).symm, rfl, rfl⟩
/-- The next leaf. -/
def lfD {α : Type} (t : Ty) (l : List Lf) (k : t.den → List Lf → Tree α) : Tree α := match l with
  | .d t' x :: l => match castTy t t' x with
    | some y => k y l
    | none => .fail
  | _ => .fail
def lfN {α : Type} (l : List Lf) (k : Nat → List Lf → Tree α) : Tree α := match l with
  | .n x :: l => k x l
  | _ => .fail
def lfC {α : Type} (l : List Lf) (k : Bool → List Lf → Tree α) : Tree α := match l with
  | .c x :: l => k x l
  | _ => .fail
def lfE {α : Type} (l : List Lf) (t : Tree α) : Tree α := match l with
  | [] => t
  | _ => .fail
theorem lfD_ok {α : Type} {t : Ty} {l : List Lf} {k : t.den → List Lf → Tree α} {R : α → Prop} (h : (lfD t l k).Wp R) : ∃ x l', l = .d t x :: l' ∧ (k x l').Wp R := by
  replace h := h.h
  unfold lfD at h
  split at h
  · split at h
    · rename_i y hy
      obtain ⟨rfl, rfl⟩ := castTy_ok hy
      exact ⟨_, _, rfl, ⟨h⟩⟩
    · exact h.elim
  · exact h.elim
theorem lfN_ok {α : Type} {l : List Lf} {k : Nat → List Lf → Tree α} {R : α → Prop} (h : (lfN l k).Wp R) : ∃ x l', l = .n x :: l' ∧ (k x l').Wp R := by
  replace h := h.h
  unfold lfN at h
  split at h
  · exact ⟨_, _, rfl, ⟨h⟩⟩
  · exact h.elim
theorem lfC_ok {α : Type} {l : List Lf} {k : Bool → List Lf → Tree α} {R : α → Prop} (h : (lfC l k).Wp R) : ∃ x l', l = .c x :: l' ∧ (k x l').Wp R := by
  replace h := h.h
  unfold lfC at h
  split at h
  · exact ⟨_, _, rfl, ⟨h⟩⟩
  · exact h.elim
theorem lfE_ok {α : Type} {l : List Lf} {t : Tree α} {R : α → Prop} (h : (lfE l t).Wp R) : l = [] ∧ t.Wp R := by
  replace h := h.h
  unfold lfE at h
  split at h
  · exact ⟨rfl, ⟨h⟩⟩
  · exact h.elim
/-- By shape: if it is s, its leaves go to k; else another way. -/
def bySk {α : Type} (s : Sk) (avs : List AV) (L : List En) (b : Nat) (k : List Lf → Tree α) (other : Tree α) : Tree α := match sameS s avs L b with
  | some l => k l
  | none => other
theorem bySk_ok {α : Type} {s : Sk} {avs : List AV} {L : List En} {b : Nat} {k : List Lf → Tree α} {other : Tree α} {R : α → Prop} (h : (bySk s avs L b k other).Wp R) :
    (∃ l, b = s.b ∧ avs = (fillS s l).1 ∧ L = (fillS s l).2 ∧ (k l).Wp R) ∨ other.Wp R := by
  replace h := h.h
  unfold bySk at h
  split at h
  · rename_i l hl
    obtain ⟨h1, h2, h3⟩ := sameS_ok hl
    exact .inl ⟨l, h1, h2, h3, ⟨h⟩⟩
  · exact .inr ⟨h⟩
theorem run_sub {α β : Type} {t : Tree β} {k : β → Tree α} {u : Tree α} {R : α → Prop} (h : (Tree.sub t k).Wp R) (e : u = t.bind k) : u.Wp R := by
  refine ⟨?_⟩
  rw [e, Tree.runs_bind]
  exact h.h
end Hyp
