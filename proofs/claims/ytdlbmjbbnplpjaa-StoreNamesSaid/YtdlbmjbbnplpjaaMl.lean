/- Names in their own order: a part of memory, handed to a callee or a loop, and what comes back. -/
import Derived.Test.YtdlbmjbbnplpjaaMk
set_option linter.unusedVariables false
set_option linter.unusedSimpArgs false
namespace Hyp
open Go
/-! ### 1. Other names -/
def AV.ren (φ : Nat → Nat) : AV → AV
  | .agg a => .agg (a.ren φ)
  | .pr a c => .pr (a.ren φ) (c.ren φ)
  | .tup a => .tup (a.ren φ)
  | .ptr k o => .ptr (φ k) o
  | .pel k o e N i eo => .pel (φ k) o e N i eo
  | .rowp k e i eo => .rowp (φ k) e i eo
  | .whole k s => .whole (φ k) s
  | .win k s lo n => .win (φ k) s lo n
  | .bwin k o e N lo n => .bwin (φ k) o e N lo n
  | .mpv k => .mpv (φ k)
  | .clo g a => .clo g (a.ren φ)
  | a => a
/-- All names of it are such. -/
def AV.ids (p : Nat → Bool) : AV → Bool
  | .agg a => a.ids p
  | .pr a c => a.ids p && c.ids p
  | .tup a | .clo _ a => a.ids p
  | .ptr k _ | .pel k _ _ _ _ _ | .rowp k _ _ _ | .whole k _ | .win k _ _ _ | .bwin k _ _ _ _ _ | .mpv k => p k
  | _ => true
/-- The names that stand in it, in order. -/
def AV.keys : AV → List Nat
  | .agg a => a.keys
  | .pr a c => a.keys ++ c.keys
  | .tup a | .clo _ a => a.keys
  | .ptr k _ | .pel k _ _ _ _ _ | .rowp k _ _ _ | .whole k _ | .win k _ _ _ | .bwin k _ _ _ _ _ | .mpv k => [k]
  | _ => []
def Cont.ren (φ : Nat → Nat) : Cont → Cont
  | .box a => .box (a.ren φ)
  | .row e xs => .row e xs
  | .mp kt vt xs => .mp kt vt xs
  | .it mk mv kt vt xs => .it (φ mk) (φ mv) kt vt xs
  | .itc mk mv kt vt kx vx xs => .itc (φ mk) (φ mv) kt vt kx vx xs
def Cont.ids (p : Nat → Bool) : Cont → Bool
  | .box a => a.ids p
  | .row _ _ | .mp _ _ _ => true
  | .it mk mv _ _ _ | .itc mk mv _ _ _ _ _ => p mk && p mv
def Cont.keys : Cont → List Nat
  | .box a => a.keys
  | .row _ _ | .mp _ _ _ => []
  | .it mk _ _ _ _ | .itc mk _ _ _ _ _ _ => [mk]
def En.ren (φ : Nat → Nat) (e : En) : En := ⟨φ e.key, φ e.vid, e.c.ren φ⟩
def En.ids (p : Nat → Bool) (e : En) : Bool := p e.key && (p e.vid && e.c.ids p)
theorem AV.ren_agg (φ : Nat → Nat) : ∀ a : AV, (a.ren φ).isAgg = a.isAgg
  | .agg _ | .pr _ _ | .tup _ | .ptr _ _ | .pel _ _ _ _ _ _ | .rowp _ _ _ _ | .whole _ _ | .win _ _ _ _ | .bwin _ _ _ _ _ _ | .any | .und | .tt | .ff | .un | .nil | .mnil | .fnil | .snil _ | .val _ _ | .rop _ _ _ _ _ | .ro _ _ _ | .mpv _ | .clo _ _ => rfl
section
variable {ν ν' : Nms} {b b' : Nat} {Z : Nat → Prop} {w : World} {p : Nat → Bool} {φ : Nat → Nat}
theorem avC.ren (h : ∀ i, i < b → p i = true → φ i < b' ∧ ν' (φ i) = ν i) : ∀ {a : AV} {cs : List Value}, a.ids p = true → avC ν b Z w a cs → avC ν' b' Z w (a.ren φ) cs
  | .any, _, _, H | .und, _, _, H | .tup _, _, _, H => H.elim
  | .tt, _, _, H | .ff, _, _, H | .un, _, _, H | .nil, _, _, H | .mnil, _, _, H | .fnil, _, _, H | .snil _, _, _, H => H
  | .val t x, _, _, H => H
  | .agg a, _, hi, H => avC.ren h (a := a) hi H
  | .pr a c, _, hi, ⟨c1, c2, h0, h1, h2⟩ => by
    simp only [AV.ids, Bool.and_eq_true] at hi
    exact ⟨c1, c2, h0, avC.ren h hi.1 h1, avC.ren h hi.2 h2⟩
  | .ptr k _, _, hi, H => ⟨(h k H.1 hi).1, by rw [(h k H.1 hi).2]; exact H.2⟩
  | .pel k _ _ _ _ _, _, hi, H => ⟨(h k H.1 hi).1, by rw [(h k H.1 hi).2]; exact H.2⟩
  | .rowp k _ _ _, _, hi, H => ⟨(h k H.1 hi).1, by rw [(h k H.1 hi).2]; exact H.2⟩
  | .rop _ _ _ _ _, _, _, H => H
  | .whole k _, _, hi, H => ⟨(h k H.1 hi).1, by rw [(h k H.1 hi).2]; exact H.2⟩
  | .win k _ _ _, _, hi, H => ⟨(h k H.1 hi).1, by rw [(h k H.1 hi).2]; exact H.2⟩
  | .bwin k _ _ _ _ _, _, hi, H => ⟨(h k H.1 hi).1, by rw [(h k H.1 hi).2]; exact H.2⟩
  | .ro _ _ _, _, _, H => H
  | .mpv k, _, hi, H => ⟨(h k H.1 hi).1, by rw [(h k H.1 hi).2]; exact H.2⟩
  | .clo _ a, _, hi, ⟨vs, h0, h1⟩ => ⟨vs, h0, avC.ren h (a := a) hi h1⟩
theorem avV.ren (h : ∀ i, i < b → p i = true → φ i < b' ∧ ν' (φ i) = ν i) {a : AV} {v : Value} (hi : a.ids p = true) (H : avV ν b Z w a v) : avV ν' b' Z w (a.ren φ) v := by
  unfold avV at *
  rw [AV.ren_agg]
  split
  · rename_i ha
    rw [if_pos ha] at H
    obtain ⟨cs, h1, h2⟩ := H
    exact ⟨cs, h1, h2.ren h hi⟩
  · rename_i ha
    rw [if_neg ha] at H
    exact H.ren h hi
theorem avT.ren (h : ∀ i, i < b → p i = true → φ i < b' ∧ ν' (φ i) = ν i) : ∀ {a : AV} {vs : List Value}, a.ids p = true → avT ν b Z w a vs → avT ν' b' Z w (a.ren φ) vs
  | .un, _, _, H => H
  | .pr _ _, _, hi, ⟨v, vs', h0, h1, h2⟩ => by
    simp only [AV.ids, Bool.and_eq_true] at hi
    exact ⟨v, vs', h0, h1.ren h hi.1, avT.ren h hi.2 h2⟩
  | .any, _, _, H | .und, _, _, H | .tup _, _, _, H | .tt, _, _, H | .ff, _, _, H | .nil, _, _, H | .mnil, _, _, H | .fnil, _, _, H | .snil _, _, _, H | .val _ _, _, _, H | .agg _, _, _, H | .ptr _ _, _, _, H | .pel _ _ _ _ _ _, _, _, H | .rowp _ _ _ _, _, _, H | .rop _ _ _ _ _, _, _, H
  | .whole _ _, _, _, H | .win _ _ _ _, _, _, H | .bwin _ _ _ _ _ _, _, _, H | .ro _ _ _, _, _, H | .mpv _, _, _, H | .clo _ _, _, _, H => H.elim
theorem slotR.ren (h : ∀ i, i < b → p i = true → φ i < b' ∧ ν' (φ i) = ν i) {a : AV} {v : Value} (hi : a.ids p = true) (H : slotR ν b Z w a v) : slotR ν' b' Z w (a.ren φ) v := by
  unfold slotR at H
  split at H
  · trivial
  · exact H
  · obtain ⟨vs, h0, h1⟩ := H; exact ⟨vs, h0, h1.ren h hi⟩
  · exact .of (avV.ren h hi H)
theorem contF.ren (h : ∀ i, i < b → p i = true → φ i < b' ∧ ν' (φ i) = ν i) {c : Cont} {cs : List Value} (hi : c.ids p = true) (H : contF ν b Z w c cs) : contF ν' b' Z w (c.ren φ) cs := by
  cases c with
  | box a => exact avC.ren h hi H
  | row e xs => exact H
  | mp kt vt xs => exact H
  | it mk mv kt vt xs =>
    obtain ⟨h1, h2, h3⟩ := H
    simp only [Cont.ids, Bool.and_eq_true] at hi
    exact ⟨(h _ h1 hi.1).1, (h _ h2 hi.2).1, by rw [(h _ h1 hi.1).2, (h _ h2 hi.2).2]; exact h3⟩
  | itc mk mv kt vt kx vx xs =>
    obtain ⟨h1, h2, h3⟩ := H
    simp only [Cont.ids, Bool.and_eq_true] at hi
    exact ⟨(h _ h1 hi.1).1, (h _ h2 hi.2).1, by rw [(h _ h1 hi.1).2, (h _ h2 hi.2).2]; exact h3⟩
theorem enF.ren (h : ∀ i, i < b → p i = true → φ i < b' ∧ ν' (φ i) = ν i) {e : En} (hi : e.ids p = true) (H : enF ν b Z w e) : enF ν' b' Z w (e.ren φ) := by
  simp only [En.ids, Bool.and_eq_true] at hi
  obtain ⟨h1, h2, h3⟩ := H
  refine ⟨(h _ h1 hi.1).1, (h _ h2 hi.2.1).1, ?_⟩
  show contF ν' b' Z w (e.c.ren φ) (ν' (φ e.vid)).cs
  rw [(h _ h2 hi.2.1).2]
  exact h3.ren h hi.2.2
theorem entOf_ren (h : ∀ i, i < b → p i = true → φ i < b' ∧ ν' (φ i) = ν i) {e : En} (hi : e.ids p = true) (h1 : e.key < b) (h2 : e.vid < b) : entOf ν' (e.ren φ) = entOf ν e := by
  simp only [En.ids, Bool.and_eq_true] at hi
  unfold entOf En.ren
  simp only [(h _ h1 hi.1).2, (h _ h2 hi.2.1).2]
  cases e.c <;> rfl
end
/-! ### 2. A part of memory -/
def takeE : List En → Nat → Option (En × List En)
  | [], _ => none
  | e :: l, k => bif Nat.beq e.key k then some (e, l) else (takeE l k).map fun p => (p.1, e :: p.2)
/-- What is reached from names, and the rest. -/
def grab : Nat → List Nat → List En → List En × List En
  | 0, _, L => ([], L)
  | _ + 1, [], L => ([], L)
  | n + 1, k :: ks, L => match takeE L k with
    | some (e, L') => match grab n (e.c.keys ++ ks) L' with | (t, r) => (e :: t, r)
    | none => grab n ks L
theorem takeE_perm : ∀ {L : List En} {k : Nat} {e : En} {L' : List En}, takeE L k = some (e, L') → L.Perm (e :: L')
  | [], _, _, _, h => by cases h
  | x :: l, k, e, L', h => by
    unfold takeE at h
    cases hc : Nat.beq x.key k <;> rw [hc] at h
    · simp only [cond_false, Option.map_eq_some_iff] at h
      obtain ⟨⟨e', l'⟩, h1, h2⟩ := h
      cases h2
      exact (List.Perm.cons x (takeE_perm h1)).trans (List.Perm.swap _ _ _)
    · cases h
      exact .refl _
theorem grab_perm : ∀ (n : Nat) (ks : List Nat) (L : List En), L.Perm ((grab n ks L).1 ++ (grab n ks L).2)
  | 0, _, L => .refl _
  | _ + 1, [], L => .refl _
  | n + 1, k :: ks, L => by
    unfold grab
    split
    · rename_i e L' h
      have ih := grab_perm n (e.c.keys ++ ks) L'
      exact (takeE_perm h).trans (List.Perm.cons e ih)
    · exact grab_perm n ks L
/-- All names of entries, in order. -/
def enIds : List En → List Nat
  | [] => []
  | e :: l => e.key :: e.vid :: enIds l
def idxOf (ks : List Nat) (k : Nat) : Nat := match ks with
  | [] => 0
  | x :: l => bif Nat.beq x k then 0 else idxOf l k + 1
def memN (ks : List Nat) (k : Nat) : Bool := match ks with
  | [] => false
  | x :: l => Nat.beq x k || memN l k
def nthN (ks : List Nat) (i : Nat) : Nat := match ks, i with
  | [], _ => 0
  | x :: _, 0 => x
  | _ :: l, i + 1 => nthN l i
theorem idx_ok : ∀ {ks : List Nat} {k : Nat}, memN ks k = true → idxOf ks k < ks.length ∧ nthN ks (idxOf ks k) = k
  | [], _, h => by cases h
  | x :: l, k, h => by
    unfold memN at h
    unfold idxOf
    cases hc : Nat.beq x k <;> rw [hc] at h
    · simp only [Bool.false_or] at h
      obtain ⟨h1, h2⟩ := idx_ok h
      exact ⟨by simp; omega, h2⟩
    · exact ⟨by simp, Nat.eq_of_beq_eq_true hc⟩
/-- Back: a name of the part, or a new one. -/
def backN (ks : List Nat) (b i : Nat) : Nat := bif Nat.blt i ks.length then nthN ks i else b + (i - ks.length)
theorem nthN_mem : ∀ {ks : List Nat} {i : Nat}, i < ks.length → nthN ks i ∈ ks
  | [], _, h => by simp at h
  | x :: l, 0, _ => by simp [nthN]
  | x :: l, i + 1, h => by
    have := nthN_mem (ks := l) (i := i) (by simpa using h)
    simp only [nthN, List.mem_cons]
    exact .inr this
theorem enIds_lt {B : Base} {ν : Nms} {b : Nat} {w : World} {L1 : List En} {F : List Ent} (H : ∀ e ∈ L1, enF ν b (B.Z F) w e) : ∀ k ∈ enIds L1, k < b := by
  induction L1 with
  | nil => simp [enIds]
  | cons e l ih =>
    intro k hk
    simp only [enIds, List.mem_cons] at hk
    have he := H e (by simp)
    rcases hk with rfl | rfl | hk
    · exact he.1
    · exact he.2.1
    · exact ih (fun x hx => H x (by simp [hx])) k hk
section
variable {B : Base} {ν ν' : Nms} {b b' : Nat} {w w' : World} {L L' L1 L2 : List En} {F : List Ent}
theorem footU_perm {l l' : List Ent} (h : l.Perm l') (x : Nat) : footU l x ↔ footU l' x := by
  simp only [footU]
  exact ⟨fun ⟨e, he, hf⟩ => ⟨e, h.mem_iff.1 he, hf⟩, fun ⟨e, he, hf⟩ => ⟨e, h.mem_iff.2 he, hf⟩⟩
theorem Z_perm {l l' : List Ent} (h : l.Perm l') : B.Z l = B.Z l' := by
  funext x
  simp only [Base.Z, TT, footU_perm h]
def keysL : List En → List Nat
  | [] => []
  | e :: l => e.key :: keysL l
def vidsL : List En → List Nat
  | [] => []
  | e :: l => e.vid :: vidsL l
/-- A name of these entries. -/
def memK (l : List En) (k : Nat) : Bool := memN (keysL l) k || memN (vidsL l) k
def nthE : List En → Nat → Option En
  | [], _ => none
  | e :: _, 0 => some e
  | _ :: l, i + 1 => nthE l i
/-- Entries numbered anew, from b0 on, two names each; those that are to keep their keys keep them. -/
def number (b0 : Nat) (φ : Nat → Nat) (keep : En → Bool) : Nat → List En → List En
  | _, [] => []
  | i, e :: l => ⟨bif keep e then e.key else b0 + 2 * i, b0 + 2 * i + 1, e.c.ren φ⟩ :: number b0 φ keep (i + 1) l
/-- The new key of an old one. -/
def newKey (b0 : Nat) (keep : En → Bool) (l : List En) (k : Nat) : Nat := match nthE l (idxOf (keysL l) k) with
  | some e => bif keep e then e.key else b0 + 2 * idxOf (keysL l) k
  | none => b0 + 2 * idxOf (vidsL l) k + 1
def enKeys (p : Nat → Bool) : List En → Bool
  | [] => true
  | e :: l => e.c.ids p && enKeys p l
theorem enIds_len : ∀ l : List En, (enIds l).length = 2 * l.length
  | [] => rfl
  | e :: l => by simp only [enIds, List.length_cons, enIds_len l]; omega
theorem enIds_at : ∀ {l : List En} {i : Nat} {e : En}, nthE l i = some e → nthN (enIds l) (2 * i) = e.key ∧ nthN (enIds l) (2 * i + 1) = e.vid ∧ i < l.length
  | [], _, _, h => by cases h
  | x :: l, 0, e, h => by cases h; exact ⟨rfl, rfl, by simp⟩
  | x :: l, i + 1, e, h => by
    obtain ⟨h1, h2, h3⟩ := enIds_at (l := l) (i := i) h
    have e1 : 2 * (i + 1) = 2 * i + 1 + 1 := by omega
    rw [e1]
    exact ⟨h1, h2, by simp; omega⟩
theorem keys_at : ∀ {l : List En} {k : Nat}, memN (keysL l) k = true → ∃ e, nthE l (idxOf (keysL l) k) = some e ∧ e.key = k
  | [], _, h => by cases h
  | x :: l, k, h => by
    unfold keysL memN at h
    unfold keysL idxOf
    cases hc : Nat.beq x.key k <;> rw [hc] at h
    · simp only [Bool.false_or] at h
      obtain ⟨e, h1, h2⟩ := keys_at h
      exact ⟨e, h1, h2⟩
    · exact ⟨x, rfl, Nat.eq_of_beq_eq_true hc⟩
theorem vids_at : ∀ {l : List En} {k : Nat}, memN (vidsL l) k = true → ∃ e, nthE l (idxOf (vidsL l) k) = some e ∧ e.vid = k
  | [], _, h => by cases h
  | x :: l, k, h => by
    unfold vidsL memN at h
    unfold vidsL idxOf
    cases hc : Nat.beq x.vid k <;> rw [hc] at h
    · simp only [Bool.false_or] at h
      obtain ⟨e, h1, h2⟩ := vids_at h
      exact ⟨e, h1, h2⟩
    · exact ⟨x, rfl, Nat.eq_of_beq_eq_true hc⟩
theorem keys_no : ∀ {l : List En} {k : Nat}, memN (keysL l) k = false → nthE l (idxOf (keysL l) k) = none
  | [], _, h => rfl
  | x :: l, k, h => by
    unfold keysL memN at h
    simp only [Bool.or_eq_false_iff] at h
    unfold keysL idxOf
    rw [h.1]
    exact keys_no h.2
/-- The names behind a numbering. -/
def numN (ν : Nms) (b0 : Nat) (l : List En) : Nms := fun j => if j < b0 then ν j else ν (nthN (enIds l) (j - b0))
theorem numN_key {l : List En} {i : Nat} {e : En} {b0 : Nat} (h : nthE l i = some e) : numN ν b0 l (b0 + 2 * i) = ν e.key ∧ numN ν b0 l (b0 + 2 * i + 1) = ν e.vid := by
  obtain ⟨h1, h2, _⟩ := enIds_at h
  unfold numN
  rw [if_neg (by omega), if_neg (by omega), show b0 + 2 * i - b0 = 2 * i by omega, show b0 + 2 * i + 1 - b0 = 2 * i + 1 by omega, h1, h2]
  exact ⟨rfl, rfl⟩
theorem newKey_ok {keep : En → Bool} {b0 : Nat} {l : List En} (hkeep : ∀ e, keep e = true → e.key < b0) {k : Nat} (h : memK l k = true) :
    newKey b0 keep l k < b0 + 2 * l.length ∧ numN ν b0 l (newKey b0 keep l k) = ν k := by
  cases hkk : memN (keysL l) k
  · have hv : memN (vidsL l) k = true := by unfold memK at h; rw [hkk] at h; simpa using h
    obtain ⟨e, h1, h2⟩ := vids_at hv
    obtain ⟨_, _, h3⟩ := enIds_at h1
    unfold newKey
    rw [keys_no hkk]
    simp only
    exact ⟨by omega, by rw [(numN_key h1).2, h2]⟩
  replace h := hkk
  obtain ⟨e, h1, h2⟩ := keys_at h
  obtain ⟨_, _, h3⟩ := enIds_at h1
  unfold newKey
  rw [h1]
  simp only
  cases hk : keep e
  · simp only [cond_false]
    exact ⟨by omega, by rw [(numN_key h1).1, h2]⟩
  · simp only [cond_true]
    have := hkeep e hk
    exact ⟨by omega, by unfold numN; rw [if_pos this, h2]⟩
theorem number_ok {ν2 : Nms} {b2 : Nat} {Z : Nat → Prop} {φ : Nat → Nat} {p : Nat → Bool} {keep : En → Bool} {b0 : Nat} (hφ : ∀ k, k < b → p k = true → φ k < b2 ∧ ν2 (φ k) = ν k) : ∀ (l : List En) (i : Nat), (∀ e ∈ l, enF ν b Z w e) → enKeys p l = true →
    (∀ e ∈ l, keep e = true → e.key < b2 ∧ ν2 e.key = ν e.key) → (∀ j e, nthE l j = some e → ν2 (b0 + 2 * (i + j)) = ν e.key ∧ ν2 (b0 + 2 * (i + j) + 1) = ν e.vid ∧ b0 + 2 * (i + j) + 1 < b2) →
    ents ν2 (number b0 φ keep i l) = ents ν l ∧ ∀ e ∈ number b0 φ keep i l, enF ν2 b2 Z w e
  | [], i, _, _, _, _ => ⟨rfl, by simp [number]⟩
  | e :: l, i, hf, hp, hk, hn => by
    simp only [enKeys, Bool.and_eq_true] at hp
    obtain ⟨h1, h2⟩ := number_ok hφ l (i + 1) (fun x hx => hf x (by simp [hx])) hp.2 (fun x hx => hk x (by simp [hx])) (fun j x hx => by
      have := hn (j + 1) x hx
      rw [show i + 1 + j = i + (j + 1) by omega]
      exact this)
    have h0 := hn 0 e rfl
    rw [Nat.add_zero] at h0
    have hfe := hf e (by simp)
    have hkey : (bif keep e then e.key else b0 + 2 * i) < b2 ∧ ν2 (bif keep e then e.key else b0 + 2 * i) = ν e.key := by
      cases hke : keep e
      · exact ⟨by simp only [cond_false]; omega, h0.1⟩
      · exact hk e (by simp) hke
    refine ⟨?_, ?_⟩
    · show entOf ν2 _ :: ents ν2 (number b0 φ keep (i + 1) l) = entOf ν e :: ents ν l
      rw [h1]
      congr 1
      unfold entOf
      simp only [hkey.2, h0.2.1]
      cases e.c <;> rfl
    · intro x hx
      simp only [number, List.mem_cons] at hx
      rcases hx with rfl | hx
      · refine ⟨hkey.1, h0.2.2, ?_⟩
        show contF ν2 b2 Z w (e.c.ren φ) (ν2 (b0 + 2 * i + 1)).cs
        rw [h0.2.1]
        exact hfe.2.2.ren hφ hp.1
      · exact h2 x hx
def noKeep : En → Bool := fun _ => false
/-- The part in its own names. -/
def partE (L1 : List En) : List En := number 0 (newKey 0 noKeep L1) noKeep 0 L1
theorem part_names (H : Here B ν b w L F) (hm : ∀ e ∈ L1, e ∈ L) (hi : enKeys (memK L1) L1 = true) {Z : Nat → Prop} (hz : Z = B.Z (ents ν L ++ F)) :
    (∀ k, k < b → memK L1 k = true → newKey 0 noKeep L1 k < 2 * L1.length ∧ numN ν 0 L1 (newKey 0 noKeep L1 k) = ν k) ∧
    ents (numN ν 0 L1) (partE L1) = ents ν L1 ∧ ∀ e ∈ partE L1, enF (numN ν 0 L1) (2 * L1.length) Z w e := by
  have hφ : ∀ k, k < b → memK L1 k = true → newKey 0 noKeep L1 k < 2 * L1.length ∧ numN ν 0 L1 (newKey 0 noKeep L1 k) = ν k := by
    intro k _ hk
    have := newKey_ok (ν := ν) (keep := noKeep) (b0 := 0) (l := L1) (fun e h => by cases h) hk
    rwa [Nat.zero_add] at this
  refine ⟨hφ, number_ok hφ L1 0 (fun e he => by rw [hz]; exact H.fact e (hm e he)) hi (fun e _ h => by cases h) fun j e hj => ?_⟩
  obtain ⟨h1, h2⟩ := numN_key (ν := ν) (b0 := 0) hj
  obtain ⟨_, _, h3⟩ := enIds_at hj
  rw [Nat.zero_add j]
  exact ⟨h1, h2, by omega⟩
theorem Here.part (H : Here B ν b w L F) (hp : L.Perm (L1 ++ L2)) (hi : enKeys (memK L1) L1 = true) :
    Here B (numN ν 0 L1) (2 * L1.length) w (partE L1) (ents ν L2 ++ F) ∧ B.Z (ents (numN ν 0 L1) (partE L1) ++ (ents ν L2 ++ F)) = B.Z (ents ν L ++ F) := by
  have hmem : ∀ e ∈ L1, e ∈ L := fun e he => hp.mem_iff.2 (List.mem_append_left _ he)
  obtain ⟨_, hents, hfact⟩ := part_names H hmem hi rfl
  have hperm : (ents ν L ++ F).Perm (ents ν L1 ++ (ents ν L2 ++ F)) := by
    rw [← List.append_assoc, ← List.map_append]
    exact (hp.map _).append_right F
  rw [hents]
  have hz := Z_perm (B := B) hperm
  refine ⟨⟨?_, ?_⟩, hz.symm⟩
  · rw [hents]
    have h1 := H.own.perm hperm
    exact h1.fresh
  · rw [hents, ← hz]
    exact hfact
/-- What comes back, in the old names. -/
theorem Left.whole {νc : Nms} {b1 : Nat} {Lc : List En} (H : Here B ν b w L F) (hp : L.Perm (L1 ++ L2)) (hi : enKeys (memK L1) L1 = true)
    (h : Left B (numN ν 0 L1) (2 * L1.length) w (partE L1) (ents ν L2 ++ F) νc b1 w' Lc) :
    ∃ ν', Left B ν b w L F ν' (b + (b1 - 2 * L1.length)) w' (Lc.map (En.ren (backN (enIds L1) b)) ++ L2) ∧
      B.Z (ents νc Lc ++ (ents ν L2 ++ F)) = B.Z (ents ν' (Lc.map (En.ren (backN (enIds L1) b)) ++ L2) ++ F) ∧
      ∀ i, i < b1 → True → backN (enIds L1) b i < b + (b1 - 2 * L1.length) ∧ ν' (backN (enIds L1) b i) = νc i := by
  have hmem : ∀ e ∈ L1, e ∈ L := fun e he => hp.mem_iff.2 (List.mem_append_left _ he)
  have hmem2 : ∀ e ∈ L2, e ∈ L := fun e he => hp.mem_iff.2 (List.mem_append_right _ he)
  have hlt := enIds_lt (B := B) (F := ents ν L ++ F) fun e he => H.fact e (hmem e he)
  have hidl := enIds_len L1
  refine ⟨fun k => if k < b then ν k else νc (2 * L1.length + (k - b)), ?_⟩
  have hle := h.le
  have hback : ∀ i, i < b1 → True → backN (enIds L1) b i < b + (b1 - 2 * L1.length) ∧ (fun k => if k < b then ν k else νc (2 * L1.length + (k - b))) (backN (enIds L1) b i) = νc i := by
    intro i hi1 _
    unfold backN
    cases hc : Nat.blt i (enIds L1).length
    · have hge : (enIds L1).length ≤ i := by
        rcases Nat.lt_or_ge i (enIds L1).length with h3 | h3
        · have : Nat.blt i (enIds L1).length = true := Nat.ble_eq_true_of_le h3
          rw [this] at hc; cases hc
        · exact h3
      simp only [cond_false]
      rw [if_neg (by omega)]
      exact ⟨by omega, by congr 1; omega⟩
    · have hlt2 : i < (enIds L1).length := Nat.le_of_ble_eq_true hc
      simp only [cond_true]
      have h4 := hlt _ (nthN_mem hlt2)
      rw [if_pos h4]
      refine ⟨by omega, ?_⟩
      rw [h.nms i (by omega)]
      unfold numN
      rw [if_neg (by omega), Nat.sub_zero]
  have hn : ∀ k, k < b → (fun k => if k < b then ν k else νc (2 * L1.length + (k - b))) k = ν k := fun k hk => if_pos hk
  have hents2 : ents (fun k => if k < b then ν k else νc (2 * L1.length + (k - b))) L2 = ents ν L2 := List.map_congr_left fun e he => entOf_congr hn (H.fact e (hmem2 e he)).1 (H.fact e (hmem2 e he)).2.1
  have hback' : ∀ i, i < b1 → (fun _ => true) i = true → backN (enIds L1) b i < b + (b1 - 2 * L1.length) ∧ (fun k => if k < b then ν k else νc (2 * L1.length + (k - b))) (backN (enIds L1) b i) = νc i := fun i hi _ => hback i hi trivial
  have hall : ∀ a : AV, a.ids (fun _ => true) = true := by
    intro a
    induction a with
    | agg a ih => exact ih
    | pr a c h1 h2 => simp only [AV.ids, h1, h2, Bool.and_self]
    | tup a ih => exact ih
    | clo g a ih => exact ih
    | _ => rfl
  have halle : ∀ e : En, e.ids (fun _ => true) = true := by
    rintro ⟨k, v, c⟩
    cases c with
    | box a => simp only [En.ids, Cont.ids, hall a, Bool.and_self]
    | row e xs => rfl
    | mp kt vt xs => rfl
    | it mk mv kt vt xs => rfl
    | itc mk mv kt vt kx vx xs => rfl
  have hentsc : ents (fun k => if k < b then ν k else νc (2 * L1.length + (k - b))) (Lc.map (En.ren (backN (enIds L1) b))) = ents νc Lc := by
    show (Lc.map _).map _ = Lc.map _
    rw [List.map_map]
    refine List.map_congr_left fun e he => ?_
    have hf := h.fact e he
    exact entOf_ren hback' (halle e) hf.1 hf.2.1
  have hperm : (ents ν L ++ F).Perm (ents ν L1 ++ (ents ν L2 ++ F)) := by
    rw [← List.append_assoc, ← List.map_append]
    exact (hp.map _).append_right F
  have hents1 := (part_names H hmem hi rfl).2.1
  have hcat : ents (fun k => if k < b then ν k else νc (2 * L1.length + (k - b))) (Lc.map (En.ren (backN (enIds L1) b)) ++ L2) ++ F = ents νc Lc ++ (ents ν L2 ++ F) := by
    show (Lc.map _ ++ L2).map _ ++ F = _
    rw [List.map_append, ← List.append_assoc]
    show ents _ (Lc.map _) ++ ents _ L2 ++ F = _
    rw [hentsc, hents2]
  have hzz : B.Z (ents νc Lc ++ (ents ν L2 ++ F)) = B.Z (ents (fun k => if k < b then ν k else νc (2 * L1.length + (k - b))) (Lc.map (En.ren (backN (enIds L1) b)) ++ L2) ++ F) := by rw [hcat]
  have hown : Own w (footU (ents ν L ++ F)) w' (ents (fun k => if k < b then ν k else νc (2 * L1.length + (k - b))) (Lc.map (En.ren (backN (enIds L1) b)) ++ L2) ++ F) := by
    rw [hcat]
    have h2 := h.own
    rw [hents1] at h2
    exact h2.wider fun x hx => (footU_perm hperm x).2 hx
  refine ⟨⟨hn, by omega, hown, ?_⟩, hzz, hback⟩
  intro e he
  rw [← hzz]
  rcases List.mem_append.1 he with he | he
  · obtain ⟨e0, he0, rfl⟩ := List.mem_map.1 he
    exact (h.fact e0 he0).ren hback' (halle e0)
  · have hl : Later ν (fun k => if k < b then ν k else νc (2 * L1.length + (k - b))) b (b + (b1 - 2 * L1.length)) (B.Z (ents ν L ++ F)) (B.Z (ents νc Lc ++ (ents ν L2 ++ F))) w w' :=
      ⟨hn, by omega, fun x hx hz => by rw [hzz]; exact TT.now hown hx hz⟩
    exact (H.fact e (hmem2 e he)).later hl
end
end Hyp
