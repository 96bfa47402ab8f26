/- Noughts; what is built of parts; numbers as other kinds; elements of what is read. -/
import Derived.Test.YtdlbmjbbnplpjaaMf
set_option linter.unusedVariables false
set_option linter.unusedSimpArgs false
namespace Hyp
open Go
/-! ### 1. Cells that stand by themselves -/
def Ty.wf : (t : Ty) → t.den → Bool
  | .arr n e, xs => Nat.beq xs.length n && xs.all e.wf
  | .pair a b, x => a.wf x.1 && b.wf x.2
  | .rcd t, x => t.wf x
  | .list _, _ => false
  | _, _ => true
theorem Ty.len_enc : (t : Ty) → t.flat = true → ∀ x : t.den, t.wf x = true → (t.enc x).length = t.sz
  | .sint _, _, _, _ | .u8, _, _, _ | .u16, _, _, _ | .u32, _, _, _ | .u64, _, _, _ | .bool, _, _, _ | .str, _, _, _ | .unit, _, _, _ => rfl
  | .list _, h, _, _ => by cases h
  | .rcd t, h, x, hw => t.len_enc h x hw
  | .pair a b, h, x, hw => by
    simp only [Ty.flat, Ty.wf, Bool.and_eq_true] at h hw
    show (a.enc x.1 ++ b.enc x.2).length = a.sz + b.sz
    rw [List.length_append, a.len_enc h.1 _ hw.1, b.len_enc h.2 _ hw.2]
  | .arr n e, h, xs, hw => by
    simp only [Ty.wf, Bool.and_eq_true] at hw
    have hn := Nat.eq_of_beq_eq_true hw.1
    have hall : ∀ x ∈ xs, e.wf x = true := by simpa using hw.2
    show (xs.flatMap e.enc).length = n * e.sz
    rw [← hn]
    clear hn hw
    induction xs with
    | nil => simp
    | cons x xs ih =>
      rw [List.flatMap_cons, List.length_append, e.len_enc h x (hall x (by simp)), ih (fun y hy => hall y (by simp [hy])), List.length_cons, Nat.succ_mul, Nat.add_comm]
theorem Ty.enc_rel : (t : Ty) → t.flat = true → ∀ {Z w} {x : t.den}, t.wf x = true → t.rty.rel Z w x (t.enc x)
  | .sint _, _, _, _, _, _ | .u8, _, _, _, _, _ | .u16, _, _, _, _, _ | .u32, _, _, _, _, _ | .u64, _, _, _, _, _ | .bool, _, _, _, _, _ | .str, _, _, _, _, _ | .unit, _, _, _, _, _ => rfl
  | .list _, h, _, _, _, _ => by cases h
  | .rcd t, h, _, _, _, hw => t.enc_rel h hw
  | .pair a b, h, _, _, x, hw => by
    simp only [Ty.flat, Ty.wf, Bool.and_eq_true] at h hw
    exact ⟨_, _, rfl, a.enc_rel h.1 hw.1, b.enc_rel h.2 hw.2⟩
  | .arr n e, h, Z, w, xs, hw => by
    have hw0 := hw
    simp only [Ty.wf, Bool.and_eq_true] at hw
    have hn := Nat.eq_of_beq_eq_true hw.1
    have hall : ∀ x ∈ xs, e.wf x = true := by simpa using hw.2
    have hlen : ((Ty.arr n e).enc xs).length = n * e.sz := (Ty.arr n e).len_enc h xs hw0
    have key : ∀ (xs : List e.den), (∀ x ∈ xs, e.wf x = true) → ones (xs.flatMap e.enc) = true ∧ ∀ i x, xs[i]? = some x → e.rty.rel Z w x (((xs.flatMap e.enc).drop (i * e.sz)).take e.sz) := by
      intro xs
      induction xs with
      | nil => intro _; exact ⟨rfl, by simp⟩
      | cons x xs ih =>
        intro hall
        have ih := ih (fun y hy => hall y (by simp [hy]))
        have hx := e.enc_rel h (Z := Z) (w := w) (hall x (by simp))
        have hl := e.len_enc h x (hall x (by simp))
        refine ⟨by rw [List.flatMap_cons]; exact ones_append (e.rty.one hx) ih.1, fun i y hy => ?_⟩
        rw [List.flatMap_cons]
        cases i with
        | zero =>
          simp only [List.getElem?_cons_zero, Option.some.injEq] at hy
          subst hy
          rw [Nat.zero_mul, List.drop_zero, List.take_append_of_le_length (by omega), List.take_of_length_le (by omega)]
          exact hx
        | succ i =>
          rw [Nat.succ_mul, List.drop_append, List.drop_of_length_le (by omega), List.nil_append, show i * e.sz + e.sz - (e.enc x).length = i * e.sz by omega]
          exact ih.2 i y (by simpa using hy)
    have h5 := key xs hall
    rw [← e.sz_rty] at hlen h5
    exact ⟨hn, hlen, h5.1, h5.2⟩
def vEq : Value → Value → Bool
  | .bool a, .bool b => a == b
  | .int k a, .int k' b => decide (k = k') && decide (a = b)
  | .string a, .string b => a.data.toList == b.data.toList
  | .pointer none, .pointer none => true
  | .slice none 0 0, .slice none 0 0 => true
  | .map none, .map none => true
  | .nilFunc, .nilFunc => true
  | _, _ => false
theorem vEq_ok {a b : Value} (h : vEq a b = true) : a = b := by
  unfold vEq at h
  split at h
  · simp only [beq_iff_eq] at h; rw [h]
  · simp only [Bool.and_eq_true, decide_eq_true_eq] at h; rw [h.1, h.2]
  · rename_i a b
    simp only [beq_iff_eq] at h
    have : a = b := by
      obtain ⟨a⟩ := a; obtain ⟨b⟩ := b
      congr 1
      exact Array.ext' h
    rw [this]
  · rfl
  · rfl
  · rfl
  · rfl
  · cases h
def vsEq : List Value → List Value → Bool
  | [], [] => true
  | a :: x, b :: y => vEq a b && vsEq x y
  | _, _ => false
theorem vsEq_ok : ∀ {a b : List Value}, vsEq a b = true → a = b
  | [], [], _ => rfl
  | a :: x, b :: y, h => by
    simp only [vsEq, Bool.and_eq_true] at h
    rw [vEq_ok h.1, vsEq_ok h.2]
  | [], _ :: _, h => by cases h
  | _ :: _, [], h => by cases h
def encA : AV → Option (List Value)
  | .tt => some [.bool true]
  | .ff => some [.bool false]
  | .un => some []
  | .nil => some [.pointer none]
  | .mnil => some [.map none]
  | .fnil => some [.nilFunc]
  | .snil _ => some [.slice none 0 0]
  | .val t x => bif t.flat && t.wf x then some (t.enc x) else none
  | .agg a => encA a
  | .pr a c => (encA a).bind fun x => (encA c).map fun y => x ++ y
  | _ => none
theorem encA_ok {ν : Nms} {b : Nat} {Z : Nat → Prop} {w : World} : ∀ {a : AV} {cs : List Value}, encA a = some cs → avC ν b Z w a cs
  | .tt, _, h | .ff, _, h | .un, _, h | .nil, _, h | .mnil, _, h | .fnil, _, h | .snil _, _, h => by cases h; exact rfl
  | .val t x, cs, h => by
    unfold encA at h
    obtain ⟨h1, rfl⟩ : (t.flat && t.wf x) = true ∧ t.enc x = cs := by
      cases hc : (t.flat && t.wf x) <;> rw [hc] at h
      · cases h
      · exact ⟨rfl, Option.some.inj h⟩
    simp only [Bool.and_eq_true] at h1
    exact t.enc_rel h1.1 h1.2
  | .agg a, _, h => encA_ok (a := a) h
  | .pr a c, _, h => by
    unfold encA at h
    obtain ⟨x, h1, h2⟩ := bindE h
    simp only [Option.map_eq_some_iff] at h2
    obtain ⟨y, h2, rfl⟩ := h2
    exact ⟨x, y, rfl, encA_ok h1, encA_ok h2⟩
  | .any, _, h | .und, _, h | .tup _, _, h | .ptr _ _, _, h | .pel _ _ _ _ _ _, _, h | .rowp _ _ _ _, _, h | .rop _ _ _ _ _, _, h | .whole _ _, _, h | .win _ _ _ _, _, h | .bwin _ _ _ _ _ _, _, h | .ro _ _ _, _, h | .mpv _, _, h | .clo _ _, _, h => by cases h
/-! ### 2. Noughts -/
def Ty.zero : (t : Ty) → t.den
  | .sint _ => (0 : Int)
  | .u8 => (0 : UInt8) | .u16 => (0 : UInt16) | .u32 => (0 : UInt32) | .u64 => (0 : UInt64)
  | .bool => false
  | .str => []
  | .unit => ()
  | .arr n e => List.replicate n e.zero
  | .pair a b => (a.zero, b.zero)
  | .rcd t => t.zero
  | .list _ => []
mutual
def zeroA (P : Program) : Nat → TypeId → Option AV
  | 0, _ => none
  | d + 1, t => match P.underlying t with
    | some .bool => some .ff
    | some (.pointer _) => some .nil
    | some (.map _ _) => some .mnil
    | some (.func _ _ _) => some .fnil
    | some (.slice e) => some (.snil (tyOf P d e))
    | some (.array n e) => match tyOf P d e with
      | some te => bif te.flat then some (.val (.arr n te) (Ty.arr n te).zero) else (zeroA P d e).map fun z => .agg (Nat.rec .un (fun _ r => .pr z r) n)
      | none => (zeroA P d e).map fun z => .agg (Nat.rec .un (fun _ r => .pr z r) n)
    | some (.struct fs) => (zerosA P d fs.toList).map .agg
    | _ => (tyOf P (d + 1) t).map fun te => .val te te.zero
def zerosA (P : Program) : Nat → List Field → Option AV
  | 0, _ => none
  | _ + 1, [] => some .un
  | d + 1, f :: fs => (zeroA P d f.type).bind fun a => (zerosA P d fs).map fun b => .pr a b
end
/-- The nought of a type, and its cells: as the program has it. -/
def zeroOf (P : Program) (t : TypeId) : Option (AV × Value) := match (P.info? t).bind (·.zero), zeroA P deep t with
  | some z, some a => match encA a with
    | some cs => bif vsEq z.cells.toList cs then some (a, z) else none
    | none => none
  | _, _ => none
theorem zeroOf_ok {P : Program} {t : TypeId} {a : AV} {z : Value} (h : zeroOf P t = some (a, z)) : ZeroIs P t z ∧ ∀ {ν : Nms} {b : Nat} {Z : Nat → Prop} {w : World}, avC ν b Z w a z.cells.toList := by
  unfold zeroOf at h
  split at h
  · rename_i z' a' h1 h2
    split at h
    · rename_i cs h3
      cases h4 : vsEq z'.cells.toList cs <;> rw [h4] at h
      · cases h
      · cases h
        exact ⟨.of h1, by rw [vsEq_ok h4]; exact encA_ok h3⟩
    · cases h
  · cases h
/-! ### 3. Building -/
def AV.okC : AV → Bool
  | .any | .und | .tup _ => false
  | _ => true
theorem AV.okC_ok {a : AV} (h : a.okC = true) : (∀ x, a = .tup x → False) ∧ a ≠ .any ∧ a ≠ .und := by
  refine ⟨?_, ?_, ?_⟩
  · rintro x rfl; cases h
  · rintro rfl; cases h
  · rintro rfl; cases h
/-- Parts put at their places, one behind the other. -/
def putParts (pl : List (Nat × Nat)) (r : Operand → AV) : AV → List (Nat × Operand) → Option AV
  | a, [] => some a
  | a, (i, x) :: l => match pl[i]? with
    | some (off, s) => bif (r x).okC && Nat.beq (r x).csz s then (putOff (r x) a off).bind fun a' => putParts pl r a' l else none
    | none => none
/-- Data put at their places of an array. -/
def putElems (e : Ty) (r : Operand → AV) : List e.den → List (Nat × Operand) → Option (List e.den)
  | xs, [] => some xs
  | xs, (i, x) :: l => bif Nat.blt i xs.length && (r x).okC then (implode e (r x)).bind fun y => putElems e r (xs.set i y) l else none
def placesOf (P : Program) (fs : List Field) : Option (List (Nat × Nat)) := match fs with
  | [] => some []
  | f :: l => ((P.info? f.type).map (·.size)).bind fun s => (placesOf P l).map fun r => (f.offset, s) :: r
theorem placesOf_ok {P : Program} : ∀ {fs : List Field} {pl : List (Nat × Nat)}, placesOf P fs = some pl → fs.map (fun f => (P.info? f.type).map fun i => (f.offset, i.size)) = pl.map some
  | [], _, h => by cases h; rfl
  | f :: l, pl, h => by
    unfold placesOf at h
    obtain ⟨s, h1, h2⟩ := bindE h
    simp only [Option.map_eq_some_iff] at h1 h2
    obtain ⟨i, h1, rfl⟩ := h1
    obtain ⟨r, h2, rfl⟩ := h2
    simp only [List.map_cons, h1, Option.map_some, placesOf_ok h2]
def buildT (P : Program) (T : TypeId) (r : Operand → AV) (parts : List (Nat × Operand)) : Tree AV := match P.underlying T, zeroOf P T with
  | some (.struct fs), some (a, .agg _) => match placesOf P fs.toList with
    | some pl => match putParts pl r a parts with | some (.agg a') => .ret (.agg a') | _ => .fail
    | none => .fail
  | some (.array n et), some (.val (.arr n' e) xs, .agg _) => bif Nat.beq n n' && (match (P.info? et).map (·.size) with | some s => Nat.beq s e.sz | none => false) then (match putElems e r xs parts with | some ys => .ret (.val (.arr n' e) ys) | none => .fail) else .fail
  | _, _ => .fail
def intT (P : Program) (S T : TypeId) (x : AV) : Tree AV := match P.underlying S, P.underlying T with
  | some _, some (.int k) => match toKind k x with | some a => .ret a | none => .fail
  | some .string, some .string => match x with | .val .str s => .ret (.val .str s) | _ => .fail
  | _, _ => .fail
/-- s[i] -/
def indexT (P : Program) (T : TypeId) (x i : AV) : Tree AV := match x, i.int? with
  | .val .str s, some (_, n) => bif isStrT P T then .get (getI s n) fun y => .ret (.val .u8 y) else .fail
  | _, _ => .fail
section
variable {P : Program} {ty T U S : TypeId} {f : Fr} {w : World} {ν : Nms} {b : Nat} {Z : Nat → Prop} {x y : Operand} {p q : AV} {c : Bool} {r : Operand → AV}
/-- The cells of a value that a slot holds. -/
theorem slotR.cells {a : AV} {v : Value} (h : slotR ν b Z w a v) (ha : ∀ x, a = .tup x → False) (h1 : a ≠ .any) (h2 : a ≠ .und) : avC ν b Z w a v.cells.toList := by
  unfold slotR at h
  split at h
  · exact absurd rfl h1
  · exact absurd rfl h2
  · exact (ha _ rfl).elim
  · exact avV.cells h
theorem putOff_slot {a a' : AV} {o : Nat} {v : Value} {cs : List Value} (h : slotR ν b Z w p v) (hc : avC ν b Z w a cs) (hp : putOff p a o = some a') (hs : p.csz = v.cells.toList.length ∨ True) : p ≠ .any → p ≠ .und → (∀ x, p = .tup x → False) → avC ν b Z w a' (splice cs o v.cells.toList) ∧ o + v.cells.toList.length ≤ cs.length :=
  fun h1 h2 h3 => putOff_ok (h.cells h3 h1 h2) hc hp
theorem ones_splice {cs ys : List Value} {o : Nat} (h : ones cs = true) (hy : ones ys = true) : ones (splice cs o ys) = true := by
  simp only [ones, List.all_eq_true] at h hy ⊢
  intro x hx
  simp only [splice, List.mem_append] at hx
  rcases hx with (hx | hx) | hx
  · exact h x (List.mem_of_mem_take hx)
  · exact hy x hx
  · exact h x (List.mem_of_mem_drop hx)
theorem RV_set {α : Type} {A : RTy α} {S : Nat → Prop} {xs : List α} {cs ys : List Value} {n i : Nat} {d : α} (h : (RV n A).rel S w xs cs) (hi : i < n) (hy : A.rel S w d ys) : (RV n A).rel S w (xs.set i d) (splice cs (i * A.sz) ys) := by
  obtain ⟨h1, h2, h3, h4⟩ := h
  have hl := A.len hy
  have hle : i * A.sz + ys.length ≤ cs.length := by
    have : (i + 1) * A.sz ≤ n * A.sz := Nat.mul_le_mul_right _ hi
    rw [Nat.succ_mul] at this
    omega
  refine ⟨by simp [h1], by rw [splice_length _ _ _ hle, h2], ones_splice h3 (A.one hy), ?_⟩
  intro j x hx
  have hj : j < n := by have := (List.getElem?_eq_some_iff.1 hx).1; simpa [h1] using this
  have ext : ∀ (k : Nat), (((splice cs (i * A.sz) ys).drop (j * A.sz)).take A.sz)[k]? = if i = j then ys[k]? else ((cs.drop (j * A.sz)).take A.sz)[k]? := by
    intro k
    rw [List.getElem?_take, List.getElem?_drop, splice_get _ _ _ hle]
    by_cases hk : k < A.sz
    · rw [if_pos hk]
      by_cases hij : i = j
      · subst hij
        rw [if_pos (by omega), if_pos rfl]
        congr 1
        omega
      · rw [if_neg hij, List.getElem?_take, if_pos hk, List.getElem?_drop, if_neg]
        intro hc
        rcases Nat.lt_or_gt_of_ne hij with h5 | h5
        · have : (i + 1) * A.sz ≤ j * A.sz := Nat.mul_le_mul_right _ h5
          rw [Nat.succ_mul] at this
          omega
        · have : (j + 1) * A.sz ≤ i * A.sz := Nat.mul_le_mul_right _ h5
          rw [Nat.succ_mul] at this
          omega
    · rw [if_neg hk]
      split
      · rw [List.getElem?_eq_none (by omega)]
      · rw [List.getElem?_take, if_neg hk]
  by_cases hij : i = j
  · subst hij
    have e : ((splice cs (i * A.sz) ys).drop (i * A.sz)).take A.sz = ys := List.ext_getElem? fun k => by rw [ext k, if_pos rfl]
    rw [e]
    have : x = d := by
      rw [List.getElem?_set_self (by omega)] at hx
      exact (Option.some.inj hx).symm
    rw [this]
    exact hy
  · have e : ((splice cs (i * A.sz) ys).drop (j * A.sz)).take A.sz = (cs.drop (j * A.sz)).take A.sz := List.ext_getElem? fun k => by rw [ext k, if_neg hij]
    rw [e]
    rw [List.getElem?_set_ne hij] at hx
    exact h4 j x hx
theorem putParts_ok {pl : List (Nat × Nat)} (hr : ∀ x, slotR ν b Z w (r x) (ev f x)) : ∀ {l : List (Nat × Operand)} {a a' : AV} {cs : List Value}, avC ν b Z w a cs → putParts pl r a l = some a' →
    ∃ vs cs', partsAre f l vs ∧ fillL pl cs vs = some cs' ∧ avC ν b Z w a' cs'
  | [], a, a', cs, H, h => by cases h; exact ⟨[], cs, trivial, rfl, H⟩
  | (i, x) :: l, a, a', cs, H, h => by
    unfold putParts at h
    split at h
    · rename_i off s hpl
      cases hc : ((r x).okC && Nat.beq (r x).csz s) <;> rw [hc] at h
      · cases h
      · simp only [Bool.and_eq_true] at hc
        obtain ⟨a2, h1, h2⟩ := bindE h
        obtain ⟨k1, k2, k3⟩ := AV.okC_ok hc.1
        have hcx := (hr x).cells k1 k2 k3
        obtain ⟨g1, g2⟩ := putOff_ok hcx H h1
        obtain ⟨vs, cs', q1, q2, q3⟩ := putParts_ok hr g1 h2
        have hlen : (ev f x).cells.toList.length = s := by rw [hcx.len]; exact Nat.eq_of_beq_eq_true hc.2
        refine ⟨(i, (ev f x).cells.toList) :: vs, cs', ⟨rfl, rfl, q1⟩, ?_, q3⟩
        simp only [fillL, hpl]
        rw [if_pos (by simp only [Bool.and_eq_true]; exact ⟨by rw [hlen]; exact Nat.beq_refl s, Nat.ble_eq_true_of_le (by omega)⟩)]
        exact q2
    · cases h
theorem putElems_ok {e : Ty} {n : Nat} (hr : ∀ x, slotR ν b Z w (r x) (ev f x)) : ∀ {l : List (Nat × Operand)} {xs ys : List e.den} {cs : List Value}, (RV n e.rty).rel Z w xs cs → putElems e r xs l = some ys →
    ∃ vs cs', partsAre f l vs ∧ fillL ((List.range n).map fun i => (i * e.sz, e.sz)) cs vs = some cs' ∧ (RV n e.rty).rel Z w ys cs'
  | [], xs, ys, cs, H, h => by cases h; exact ⟨[], cs, trivial, rfl, H⟩
  | (i, x) :: l, xs, ys, cs, H, h => by
    unfold putElems at h
    cases hc : (Nat.blt i xs.length && (r x).okC) <;> rw [hc] at h
    · cases h
    · simp only [Bool.and_eq_true] at hc
      obtain ⟨d, h1, h2⟩ := bindE h
      have hi : i < n := by have h5 : i < xs.length := Nat.le_of_ble_eq_true hc.1; rw [H.1] at h5; exact h5
      have hne := AV.okC_ok hc.2
      have hd := implode_ok e ((hr x).cells hne.1 hne.2.1 hne.2.2) h1
      have hl := e.rty.len hd
      rw [e.sz_rty] at hl
      have g := RV_set H hi hd
      rw [e.sz_rty] at g
      obtain ⟨vs, cs', q1, q2, q3⟩ := putElems_ok hr g h2
      refine ⟨(i, (ev f x).cells.toList) :: vs, cs', ⟨rfl, rfl, q1⟩, ?_, q3⟩
      have hpl : ((List.range n).map fun i => (i * e.sz, e.sz))[i]? = some (i * e.sz, e.sz) := by simp [hi]
      have hle : i * e.sz + e.sz ≤ cs.length := by
        have : (i + 1) * e.sz ≤ n * e.sz := Nat.mul_le_mul_right _ hi
        rw [Nat.succ_mul] at this
        have h6 : cs.length = n * e.rty.sz := H.2.1
        rw [e.sz_rty] at h6
        omega
      simp only [fillL, hpl]
      rw [if_pos (by simp only [Bool.and_eq_true]; exact ⟨by rw [hl]; exact Nat.beq_refl _, Nat.ble_eq_true_of_le hle⟩)]
      exact q2
theorem fill_wide {n sz : Nat} : ∀ (vs : List (Nat × Value)) (cs : Array Value) (r : Array Value), Instr.fill (fun i => ((List.range n).map fun i => (i * sz, sz))[i]?) cs vs = some r → Instr.fill (fun i => some (i * sz, sz)) cs vs = some r := by
  intro vs
  induction vs with
  | nil => intro cs r h; exact h
  | cons p vs ih =>
    intro cs r h
    obtain ⟨i, v⟩ := p
    simp only [Instr.fill] at h ⊢
    by_cases hi : i < n
    · have : ((List.range n).map fun i => (i * sz, sz))[i]? = some (i * sz, sz) := by simp [hi]
      simp only [this] at h
      split at h
      · cases h
      · rename_i hcond
        rw [if_neg hcond]
        exact ih _ _ h
    · have : ((List.range n).map fun i => (i * sz, sz))[i]? = none := by simp; omega
      simp only [this] at h
      cases h
theorem o_buildArr {K : Value → World → Prop} {n et sz : Nat} {parts : Array (Nat × Operand)} {zs cs : List Value} {vs : List (Nat × List Value)} (hu : P.underlying T = some (.array n et)) (hs : SizeIs P et sz) (hz : ZeroIs P T (.agg zs.toArray)) (hp : partsAre f parts.toList vs)
    (hf : fillL ((List.range n).map fun i => (i * sz, sz)) zs vs = some cs) (h : K (.agg cs.toArray) w) : OpW P (.build T parts) ty f w K := by
  refine .of_run ?_ h
  have h2 := fill_wide _ _ _ (fill_of hp hf)
  have h4 : (parts.map fun (i, x) => (i, ev f x)).toList = parts.toList.map fun p => (p.1, ev f p.2) := by simp
  simp only [execOp, bare, Instr.build, Sem.run_bind, hz.run, Result.andThen_ok, run_und hu, hs.run, Value.cells, h4, h2, Sem.run_pure]
theorem agg_of {z : Value} {a : Array Value} (h : z = .agg a) : z = .agg z.cells.toList.toArray := by subst h; simp [Value.cells]
theorem buildT_ok {parts : Array (Nat × Operand)} (hr : ∀ x, slotR ν b Z w (r x) (ev f x)) : Q P (.build T parts) ty f w ν b Z (buildT P T r parts.toList) := by
  intro a ha
  unfold buildT at ha
  split at ha
  · rename_i fs a0 zc hu hz
    obtain ⟨h1, h2⟩ := zeroOf_ok hz
    split at ha
    · rename_i pl hpl
      split at ha
      · rename_i a' hp
        cases ha
        have H := h2 (ν := ν) (b := b) (Z := Z) (w := w)
        obtain ⟨vs, cs', q1, q2, q3⟩ := putParts_ok hr H hp
        have hb : BuildIs P T pl (Value.agg zc).cells.toList := by
          obtain ⟨i, hi, hzi⟩ := h1
          exact .of hu (placesOf_ok hpl) (by rw [hi]; simp [hzi, Value.cells])
        exact o_buildL hb q1 q2 ⟨rfl, cs', rfl, q3⟩
      · cases ha
    · cases ha
  · rename_i n et n' e xs zc hu hz
    obtain ⟨h1, h2⟩ := zeroOf_ok hz
    cases hc : (Nat.beq n n' && (match (P.info? et).map (·.size) with | some s => Nat.beq s e.sz | none => false)) <;> rw [hc] at ha
    · cases ha
    · simp only [Bool.and_eq_true] at hc
      have hn := Nat.eq_of_beq_eq_true hc.1
      subst hn
      have hs : SizeIs P et e.sz := by
        have h5 := hc.2
        split at h5
        · rename_i s hs
          rw [← Nat.eq_of_beq_eq_true h5]
          exact .of hs
        · cases h5
      simp only [cond_true] at ha
      split at ha
      · rename_i ys hp
        cases ha
        have H := h2 (ν := ν) (b := b) (Z := Z) (w := w)
        obtain ⟨vs, cs', q1, q2, q3⟩ := putElems_ok (n := n) hr (cs := (Value.agg zc).cells.toList) H hp
        refine o_buildArr hu hs (zs := (Value.agg zc).cells.toList) ?_ q1 q2 ⟨rfl, cs', rfl, q3⟩
        simpa [Value.cells] using h1
      · cases ha
  · cases ha
theorem intT_ok (hx : slotR ν b Z w p (ev f x)) : Q P (.convert S T x) ty f w ν b Z (intT P S T p) := by
  refine Q.of fun a ha => ?_
  unfold intT at ha
  split at ha
  · rename_i d k hs ht
    split at ha
    · rename_i a' hk
      cases ha
      obtain ⟨k', n, hv, hr⟩ := toKind_ok hx hk
      refine ⟨_, ?_, hr⟩
      have hc : (convert S T (.int k' n)).run P w = .ok (.int k (k.wrap n)) w := by
        unfold convert
        simp only [Sem.run_bind, run_und hs, run_und ht, Result.andThen_ok]
        cases d <;> rfl
      simp only [execOp, bare, hv, Sem.run_bind, hc, Result.andThen_ok, Sem.run_pure]
    · cases ha
  · rename_i hs ht
    split at ha
    · cases ha
      rename_i s
      refine ⟨_, ?_, sl_mk rfl rfl⟩
      have hv := sl_str hx
      have hc : (convert S T (str s)).run P w = .ok (str s) w := by
        unfold convert
        simp only [Sem.run_bind, run_und hs, run_und ht, Result.andThen_ok, str]
        rfl
      simp only [execOp, bare, hv, Sem.run_bind, hc, Result.andThen_ok, Sem.run_pure]
    · cases ha
  · cases ha
theorem indexT_ok (hx : slotR ν b Z w p (ev f x)) (hy : slotR ν b Z w q (ev f y)) : Q P (.index T x y) ty f w ν b Z (indexT P T p q) := by
  refine Q.of fun a ha => ?_
  unfold indexT at ha
  split at ha
  · rename_i s k n hi
    cases h : isStrT P T <;> rw [h] at ha
    · cases ha
    · obtain ⟨d, hd, h2⟩ := bindE ha
      cases h2
      obtain ⟨h3, h4, h5⟩ := getI_at hd
      refine ⟨u8 d, ?_, sl_mk rfl rfl⟩
      have hn : 0 ≤ n := by omega
      have hget : (ByteArray.mk s.toArray)[n.toNat]? = some d := by
        show (if h : _ then _ else _) = _
        rw [dif_pos (by show n.toNat < s.toArray.size; simpa using h4)]
        have : (ByteArray.mk s.toArray)[n.toNat]'(by show n.toNat < s.toArray.size; simpa using h4) = s[n.toNat] := rfl
        rw [this, ← h5, List.getElem?_eq_getElem h4]
      simp only [execOp, bare, sl_str hx, int_ok hy hi, Instr.index, asIntOf, str, Sem.run_bind, Sem.run_pure, Result.andThen_ok, run_und (isStr_ok h), hn, if_true, hget]
  · cases ha
end
end Hyp
