/- cipher.Mix, walked by hand: a range over a function whose iterator has cells of its own. -/
import Derived.Test.YtcojhmllnhkbnaaDoorXr
import Derived.Test.YtcojhmllnhkbnaaDoorCB
set_option linter.unusedVariables false
set_option linter.unusedSimpArgs false
set_option maxRecDepth 100000
namespace Hyp
open Go Go.Proofs
def xorL (a b : List UInt8) : List UInt8 := List.zipWith (· ^^^ ·) a b
def mixL : Nat → List UInt32 → List UInt8 → Option (List UInt8)
  | 0, _, _ => none
  | k + 1, g, rest => (F_cipher_grid_block 100 g).run.bind fun x =>
    if rest.length ≤ 64 then some (xorL rest x) else
    if g.getD 12 0 + 1 = 0 then none else (mixL k (g.set 12 (g.getD 12 0 + 1)) (rest.drop 64)).map (xorL (rest.take 64) x ++ ·)
def mixI (ks ns : List UInt8) (n : UInt32) (b : List UInt8) : Option (List UInt8 × Int) :=
  if ks.length ≠ 32 ∨ ns.length ≠ 12 then some ([], 1) else
  if (4294967296 - n.toNat) * 64 < b.length then some ([], 10) else
  if b = [] then some ([], 0) else
  (F_cipher_begun 100 false ks false ns).run.bind fun g => if g.2 then (mixL (b.length + 1) (g.1.set 12 n) b).map fun out => (out, 0) else none
def S_mix : Summ := fun avs L b => match avs with
  | [k, m, .val .u32 n, x] => match rdSl L .u8 k, rdSl L .u8 m, rdSl L .u8 x with
    | some ks, some ns, some xs => .get (mixI ks ns n xs) fun r => .ret (.tup (.pr (.ro false .u8 r.1) (.pr (.val (.sint .i64) r.2) .un)), L, b)
    | _, _, _ => .fail
  | _ => .fail
theorem mixedTryd : Tryd.prog.follows .mixedOrders = true := by kernel_rfl
theorem sz22 : SizeIs Tryd.prog 22 1 := .of (by kernel_rfl)
theorem sz5 : SizeIs Tryd.prog 5 1 := .of (by kernel_rfl)
theorem sz196 : SizeIs Tryd.prog 196 64 := .of (by kernel_rfl)
theorem sz135 : SizeIs Tryd.prog 135 1 := .of (by kernel_rfl)
theorem sz238 : SizeIs Tryd.prog 238 16 := .of (by kernel_rfl)
theorem zr238 : ZeroIs Tryd.prog 238 (.agg (List.replicate 16 (u32 0)).toArray) := .of (by kernel_rfl)
theorem zr196 : ZeroIs Tryd.prog 196 (.agg (List.replicate 64 (u8 0)).toArray) := .of (by kernel_rfl)
theorem zr22 : ZeroIs Tryd.prog 22 (.slice none 0 0) := .of (by kernel_rfl)
theorem sz4 : SizeIs Tryd.prog 4 1 := .of (by kernel_rfl)
theorem zr4 : ZeroIs Tryd.prog 4 (.bool false) := .of (by kernel_rfl)
theorem el22 : ElemIs Tryd.prog 22 5 1 1 := .of Tryd.underlying22 (by kernel_rfl)
def rowE (ov : Value) (out : List UInt8) : Ent := row 1 ov out.length (cel E8 out)
structure Sub (ov rv : Value) (d n : Nat) : Prop where
  is : IsSl rv n
  at_ : ∀ i, i < n → ptrOf rv i = ptrOf ov (d + i)
def vals15 (ov rv : Value) (d i xb : Nat) (cur xi : UInt8) : Nat → Value
  | 0 => rv
  | 1 => .int .i64 i
  | 2 => .pointer (some (ptrOf ov (d + i)))
  | 3 => u8 cur
  | 4 => .int .i64 i
  | 5 => .pointer (some ⟨xb, i, none⟩)
  | 6 => u8 xi
  | 7 => u8 (cur ^^^ xi)
  | _ => .pointer (some (ptrOf ov (d + i)))
structure Inv15 (w0 : World) (l l' : List Ent) (f : Fr) (val : Nat → Value) (listed : Array Bool) (a : Act) (W : World) : Prop where
  size : a.tmps.size = 70
  defers : a.defers = []
  len : listed.size = 10
  done : ∀ k, k < 9 → listed.getD k false = true → fr a (53 + k) = val k
  base : ∀ t, t < 53 ∨ 61 < t → fr a t = f t
  closed : listed.getD 9 false = true → ∀ k, k < 9 → listed.getD k false = true
  own : listed.getD 9 false = false → Own w0 (fun _ => False) W l
  own' : listed.getD 9 false = true → Own w0 (fun _ => False) W l'
theorem getD_up {listed : Array Bool} {k j : Nat} (h : listed.getD j false = true) : (listed.setIfInBounds k true).getD j false = true := by
  simp only [Array.getD_eq_getD_getElem?, Array.getElem?_setIfInBounds] at h ⊢
  by_cases hk : k = j
  · subst hk
    by_cases hl : k < listed.size
    · simp [hl]
    · rw [Array.getElem?_eq_none (by omega)] at h; simp at h
  · rw [if_neg hk]; exact h
theorem Inv15.put {w0 : World} {l l' : List Ent} {f : Fr} {val : Nat → Value} {listed : Array Bool} {a : Act} {W : World} (h : Inv15 w0 l l' f val listed a W) {k : Nat} (hk : k < 9) {v : Value} (hv : v = val k) :
    Inv15 w0 l l' f val (listed.setIfInBounds k true) (a.put (some (53 + k)) v) W := by
  have hg : GoodD [] 70 (fr a) a := ⟨h.size, h.defers, rfl⟩
  have h2 := hg.put (some (53 + k)) (by intro d hd; cases hd; omega) v
  have h9 : (listed.setIfInBounds k true).getD 9 false = listed.getD 9 false := by
    simp only [Array.getD_eq_getD_getElem?, Array.getElem?_setIfInBounds]
    rw [if_neg (by omega)]
  refine ⟨h2.size, h2.defers, by simp [h.len], fun j hj hl => ?_, fun t ht => ?_, fun hl j hj => getD_up (h.closed (h9 ▸ hl) j hj), fun hl => h.own (h9 ▸ hl), fun hl => h.own' (h9 ▸ hl)⟩
  · rw [h2.eq]
    by_cases hjk : j = k
    · subst hjk; rw [hv]; exact upd_same _ _ _
    · show upd (fr a) (53 + k) v (53 + j) = _
      rw [upd_ne _ _ (by omega)]
      refine h.done j hj ?_
      simp only [Array.getD_eq_getD_getElem?, Array.getElem?_setIfInBounds] at hl ⊢
      rw [if_neg (fun h => hjk h.symm)] at hl
      exact hl
  · rw [h2.eq]
    show upd (fr a) (53 + k) v t = _
    rw [upd_ne _ _ (by omega)]
    exact h.base t ht
theorem wpOpIn_of {F : Fence} {m : Nat} {P : Program} {ops : Array Oper} {Q : Exit → Act → World → Prop} {i : Nat} {K : Act → World → Prop} {a : Act} {w : World} {o : Oper} (ho : ops[i]? = some o) (hg : o.guard = none) (h : o.wpIn F m P a w K Q) : wpOpIn F m P ops Q i K a w := by
  unfold wpOpIn
  rw [ho]
  have : Region.wanted o (yielded ops a.tmps) = true := by simp [Region.wanted, hg]
  simp only [this, if_true]
  exact h
theorem ready_dep {ops : Array Oper} {listed : Array Bool} {i j : Nat} (h : i ∈ Region.ready .any ops listed) (hj : j ∈ direct ops i) : listed.getD j false = true := by
  obtain ⟨_, o, ho, hall⟩ := mem_ready.1 h
  simp only [direct, ho, List.mem_map, List.mem_filter, Array.mem_toList_iff] at hj
  obtain ⟨e, ⟨he, hb⟩, rfl⟩ := hj
  exact hall e he hb
def need15 : Nat → List Nat
  | 2 => [0, 1]
  | 3 => [2]
  | 5 => [4]
  | 6 => [5]
  | 7 => [3, 6]
  | 8 => [0, 1]
  | 9 => [0, 1, 2, 3, 4, 5, 6, 7, 8]
  | _ => []
def depsB (need : Nat → List Nat) (m : Nat) (ops : Array Oper) : Bool := (List.range m).all fun k => (need k).all fun j => (direct ops k).contains j
theorem depsB_ok {need : Nat → List Nat} {m : Nat} {ops : Array Oper} (h : depsB need m ops = true) {listed : Array Bool} {i j : Nat} (hi : i < m) (hr : i ∈ Region.ready .any ops listed) (hj : j ∈ need i) : listed.getD j false = true := by
  simp only [depsB, List.all_eq_true, List.mem_range, List.contains_eq_mem, decide_eq_true_eq] at h
  exact ready_dep hr (h i hi j hj)
theorem xorU8 {P : Program} {T U ty : TypeId} {x y : Operand} {f : Fr} {w : World} {K : Value → World → Prop} {a b : UInt8} (hT : isBoolT P T = false) (hx : ev f x = u8 a) (hy : ev f y = u8 b) (h : K (u8 (a ^^^ b)) w) : OpW P (.binOp .xor T x y U) ty f w K := by
  have hq : Q P (.binOp .xor T x y U) ty f w (fun _ => ⟨0, undef, []⟩) 0 (fun _ => True) (bin2T P T .xor false (.val .u8 a) (.val .u8 b)) := bin2T_ok (sl_mk rfl (by rw [hx]; rfl)) (sl_mk rfl (by rw [hy]; rfl))
  have hb : (bin2T P T .xor false (.val .u8 a) (.val .u8 b)).run = some (.val .u8 (a ^^^ b)) := by
    unfold bin2T
    show ((bif isBoolT P T then boolT .xor (.val .u8 a) (.val .u8 b) else .ret (.val .u8 (a ^^^ b)) : Tree AV)).run = _
    rw [hT]
    rfl
  refine (hq _ hb).mono ?_
  rintro v w' ⟨rfl, hv⟩
  have : v = u8 (a ^^^ b) := List.head_eq_of_cons_eq (show [v] = [_] from hv)
  rw [this]; exact h
theorem add0 (b i : Nat) : (⟨b, 0, none⟩ : Addr).add i = ⟨b, i, none⟩ := by
  unfold Addr.add
  split
  · rename_i h; rw [h]
  · simp
theorem reg15 {lr id : Nat} {f : Fr} {W w0 : World} {ov rv : Value} {out x : List UInt8} {d i n rb xb jx : Nat} {l : List Ent} {ops : Array Oper} {Q : Post}
    {y0 y1 y2 y3 y4 y5 y6 y7 y8 y9 : TypeId} {p0 p1 p2 p3 p4 p5 p6 p7 p8 p9 : String} {a0 a1 a2 a3 a4 a5 a6 a7 a8 a9 : Array Edge}
    (h0 : ops[0]? = some ⟨some 53, .load 22 (.tmp 11), y0, p0, a0, none⟩) (h1 : ops[1]? = some ⟨some 54, .move (.tmp 15), y1, p1, a1, none⟩) (h2 : ops[2]? = some ⟨some 55, .indexAddr 22 (.tmp 53) (.tmp 54), y2, p2, a2, none⟩)
    (h3 : ops[3]? = some ⟨some 56, .load 5 (.tmp 55), y3, p3, a3, none⟩) (h4 : ops[4]? = some ⟨some 57, .move (.tmp 15), y4, p4, a4, none⟩) (h5 : ops[5]? = some ⟨some 58, .indexAddr 196 (.tmp 13) (.tmp 57), y5, p5, a5, none⟩)
    (h6 : ops[6]? = some ⟨some 59, .load 5 (.tmp 58), y6, p6, a6, none⟩) (h7 : ops[7]? = some ⟨some 60, .binOp .xor 5 (.tmp 56) (.tmp 59) 5, y7, p7, a7, none⟩) (h8 : ops[8]? = some ⟨some 61, .indexAddr 22 (.tmp 53) (.tmp 54), y8, p8, a8, none⟩)
    (h9 : ops[9]? = some ⟨none, .store 5 (.tmp 61) (.tmp 60), y9, p9, a9, none⟩) (hsz : ops.size = 10) (hdep : depsB need15 10 ops = true) (hdir : ((List.range 10).all fun k => (direct ops k).all fun j => decide (j < k)) = true)
    (hr : l[0]? = some (rowE ov out)) (hb : l[1]? = some (bx rb [rv])) (hx : l[jx]? = some (bx xb (cel E8 x))) (H : Own w0 (fun _ => False) W l)
    (f11 : f 11 = .pointer (some ⟨rb, 0, none⟩)) (f13 : f 13 = .pointer (some ⟨xb, 0, none⟩)) (f15 : f 15 = .int .i64 i)
    (hs : Sub ov rv d n) (hi : i < n) (hd : d + i < out.length) (hxi : i < x.length) (hx64 : x.length = 64)
    (hQ : ∀ f' W', (∀ t, t < 53 ∨ 61 < t → f' t = f t) → Own w0 (fun _ => False) W' (l.set 0 (rowE ov (out.set (d + i) (out[d + i] ^^^ x[i])))) → Q .normal f' W') :
    CR (some lr) [] Tryd.prog 70 (.region id ops true) Q f W := by
  intro a ha
  refine wpIn_region_any mixedTryd ?_
  let val := vals15 ov rv d i xb out[d + i] x[i]
  let l' := l.set 0 (rowE ov (out.set (d + i) (out[d + i] ^^^ x[i])))
  refine any_inv (Inv15 w0 l l' f val) ?_ ?_ ?_ _ _ _ _ ⟨ha.size, ha.defers, by simp [hsz], ?_, fun t _ => congrFun ha.eq t, ?_, fun _ => H.drew, ?_⟩ ?_
  · intro listed a W j inv hj
    obtain ⟨hun, o, ho, _⟩ := mem_ready.1 hj
    have hun : listed.getD j false = false := getD_both hun
    have hj10 : j < 10 := by rw [← hsz]; exact (Array.getElem?_eq_some_iff.1 ho).1
    have hg : GoodD [] 70 (fr a) a := ⟨inv.size, inv.defers, rfl⟩
    have dep : ∀ k, k ∈ need15 j → k < 9 → fr a (53 + k) = val k := fun k hk h9 => inv.done k h9 (depsB_ok hdep hj10 hj hk)
    have b11 : fr a 11 = .pointer (some ⟨rb, 0, none⟩) := (inv.base 11 (by omega)).trans f11
    have b13 : fr a 13 = .pointer (some ⟨xb, 0, none⟩) := (inv.base 13 (by omega)).trans f13
    have b15 : fr a 15 = .int .i64 i := (inv.base 15 (by omega)).trans f15
    have n9 : j < 9 → listed.getD 9 false = false := by
      intro h9
      cases h : listed.getD 9 false with
      | false => rfl
      | true => have := inv.closed h j h9; rw [hun] at this; cases this
    have quiet : ∀ (k : Nat) (op : Op) (ty : TypeId) (ps : String) (af : Array Edge), k < 9 → notDefer (bare op ty) = true → ops[k]? = some ⟨some (53 + k), op, ty, ps, af, none⟩ → j = k → OpW Tryd.prog op ty (fr a) W (fun v w' => v = val k ∧ w' = W) →
        wpOpIn (RF (some lr)) 3 Tryd.prog ops (liftD [] 70 Q) j (fun a' w' => Inv15 w0 l l' f val (listed.setIfInBounds j true) a' w') a W := by
      intro k op ty ps af hk hnd hop hjk hw
      subst hjk
      refine wpOpIn_of hop rfl (OpW.wpIn (o := ⟨some (53 + j), op, ty, ps, af, none⟩) (ro := some lr) (D := []) (n := 70) hnd hg hw ?_)
      rintro v w' ⟨hv, rfl⟩
      exact inv.put hk hv
    have hown : j < 9 → Own w0 (fun _ => False) W l := fun h => inv.own (n9 h)
    have hcases : j = 0 ∨ j = 1 ∨ j = 2 ∨ j = 3 ∨ j = 4 ∨ j = 5 ∨ j = 6 ∨ j = 7 ∨ j = 8 ∨ j = 9 := by omega
    rcases hcases with hk | hk | hk | hk | hk | hk | hk | hk | hk | hk
    · exact quiet 0 _ _ _ _ (by omega) rfl h0 hk (o_load Tryd.underlying22 rfl b11 ((hown (by omega)).bxCell hb 0 rfl) ⟨rfl, rfl⟩)
    · exact quiet 1 _ _ _ _ (by omega) rfl h1 hk (o_moveE b15 ⟨rfl, rfl⟩)
    · subst hk
      exact quiet 2 _ _ _ _ (by omega) rfl h2 rfl (o_indexSl Tryd.underlying22 sz5 (dep 0 (by decide) (by omega)) hs.is (dep 1 (by decide) (by omega)) rfl hi ⟨by show Value.pointer (some (ptrOf rv (i * 1))) = .pointer (some (ptrOf ov (d + i))); rw [Nat.mul_one, hs.at_ i hi], rfl⟩)
    · subst hk
      refine quiet 3 _ _ _ _ (by omega) rfl h3 rfl (o_load Tryd.underlying5 rfl (dep 2 (by decide) (by omega)) (((hown (by omega)).rowSl (S := fun _ => True) hr fun _ _ => trivial).cell (j := d + i) (x := u8 out[d + i]) ?_) ⟨rfl, rfl⟩)
      rw [cel8]; simp [hd]
    · exact quiet 4 _ _ _ _ (by omega) rfl h4 hk (o_moveE b15 ⟨rfl, rfl⟩)
    · subst hk
      exact quiet 5 _ _ _ _ (by omega) rfl h5 rfl (o_indexArr Tryd.underlying196 sz5 b13 (dep 4 (by decide) (by omega)) rfl (by omega) (by rw [Nat.mul_one]; exact add0 xb i) ⟨rfl, rfl⟩)
    · subst hk
      exact quiet 6 _ _ _ _ (by omega) rfl h6 rfl (o_load Tryd.underlying5 rfl (dep 5 (by decide) (by omega)) ((hown (by omega)).bxCell hx i (x := u8 x[i]) (by rw [cel8]; simp [hxi])) ⟨rfl, rfl⟩)
    · subst hk
      exact quiet 7 _ _ _ _ (by omega) rfl h7 rfl (xorU8 (by kernel_rfl) (dep 3 (by decide) (by omega)) (dep 6 (by decide) (by omega)) ⟨rfl, rfl⟩)
    · subst hk
      exact quiet 8 _ _ _ _ (by omega) rfl h8 rfl (o_indexSl Tryd.underlying22 sz5 (dep 0 (by decide) (by omega)) hs.is (dep 1 (by decide) (by omega)) rfl hi ⟨by show Value.pointer (some (ptrOf rv (i * 1))) = .pointer (some (ptrOf ov (d + i))); rw [Nat.mul_one, hs.at_ i hi], rfl⟩)
    · subst hk
      have o9 : Own w0 (fun _ => False) W l := inv.own hun
      refine wpOpIn_of h9 rfl (OpW.wpIn (o := ⟨none, .store 5 (.tmp 61) (.tmp 60), y9, p9, a9, none⟩) (ro := some lr) (D := []) (n := 70) rfl hg (K := fun v w' => Own w0 (fun _ => False) w' l') ?_ ?_)
      · refine o_storeCelE (E := E8) (k := 0) (j := d + i) (xs := out) (z := out[d + i]) (z' := out[d + i] ^^^ x[i]) (v := ov) hr o9 ?_ (dep 7 (by decide) (by omega)) rfl sz5 (List.getElem?_eq_getElem hd) rfl fun w' h => h
        have := dep 8 (by decide) (by omega)
        rw [Nat.mul_one]
        exact this
      · intro v w' hw
        have h9' : (listed.setIfInBounds 9 true).getD 9 false = true := by
          simp [Array.getD_eq_getD_getElem?, Array.getElem?_setIfInBounds, inv.len]
        refine ⟨inv.size, inv.defers, by simp [inv.len], fun k hk hl => inv.done k hk ?_, inv.base, fun _ k hk => getD_up (depsB_ok hdep (i := 9) (by omega) hj (j := k) ?_), fun h => (by rw [h9'] at h; cases h), fun _ => hw⟩
        · simp only [Array.getD_eq_getD_getElem?, Array.getElem?_setIfInBounds] at hl ⊢
          rw [if_neg (by omega)] at hl
          exact hl
        · show k ∈ [0, 1, 2, 3, 4, 5, 6, 7, 8]
          have : k = 0 ∨ k = 1 ∨ k = 2 ∨ k = 3 ∨ k = 4 ∨ k = 5 ∨ k = 6 ∨ k = 7 ∨ k = 8 := by omega
          simp [this]
  · intro listed a W inv hr0
    have all : ∀ k, k < 10 → listed.getD k false = true := by
      intro k
      induction k using Nat.strongRecOn with
      | _ k ih =>
        intro hk
        cases hc : listed.getD k false with
        | true => rfl
        | false =>
          have hlt : k < ops.size := by omega
          have : k ∈ Region.ready .any ops listed := by
            refine mem_ready.2 ⟨getD_in (by rw [inv.len]; exact hk) hc, ops[k], by simp [hlt], fun e he hb => ?_⟩
            have hdk : e.on ∈ direct ops k := by
              simp only [direct, Array.getElem?_eq_getElem hlt, List.mem_map, List.mem_filter, Array.mem_toList_iff]
              exact ⟨e, ⟨he, hb⟩, rfl⟩
            simp only [List.all_eq_true, List.mem_range, decide_eq_true_eq] at hdir
            have h1 := hdir k hk e.on hdk
            exact ih e.on h1 (by omega)
          rw [hr0] at this
          cases this
    exact ⟨⟨inv.size, inv.defers⟩, hQ _ _ inv.base (inv.own' (all 9 (by omega)))⟩
  · exact fun listed a W h => by rw [h.len, hsz]
  · intro k hk h; rw [getD_replicate_false] at h; cases h
  · intro h; rw [getD_replicate_false] at h; cases h
  · intro h; rw [getD_replicate_false] at h; cases h
  · simp
theorem wpIn_any_n {ro : Option Nat} {m : Nat} {P : Program} {c : Code} {Q : Exit → Act → World → Prop} {a : Act} {w : World} (h : c.wpIn (RF ro) 3 P Q a w) : c.wpIn (RF ro) m P Q a w :=
  fun b k cs hro hb _ => h b k cs hro hb (fun _ h => by cases h)
theorem Own.putObj {w0 w : World} {o : Nat → Prop} {l : List Ent} (h : Own w0 o w l) {k g : Nat} {ob ob' : Obj} (hk : l[k]? = some (pt g ob)) : Own w0 o (w.putObj g ob') (l.set k (pt g ob')) := by
  have hg : w.heap[g]? = some ob := h.get hk
  have hlt := (Array.getElem?_eq_some_iff.1 hg).1
  refine h.put k hk (by simp) (fun b _ hb => World.putObj_heap_other (fun e => hb e)) (World.putObj_heap_same hlt) (fun b hb => ?_)
  have : b = g := hb
  subst this
  exact ⟨by simpa using hlt, fun _ => rfl⟩
theorem o_minI {P : Program} {T U ty : TypeId} {x y : Operand} {f : Fr} {w : World} {K : Value → World → Prop} {a b : Int} (hx : ev f x = .int .i64 a) (hy : ev f y = .int .i64 b) (h : K (.int .i64 (minI a b)) w) : OpW P (.call ⟨.builtin .min, #[x, y], #[T, U]⟩) ty f w K := by
  have hq := minmaxT_ok (P := P) (ty := ty) (ν := fun _ => ⟨0, undef, []⟩) (b := 0) (Z := fun _ => True) (w := w) (ts := #[T, U]) (mx := false) (p := .val (.sint .i64) a) (q := .val (.sint .i64) b) (x := x) (y := y) (f := f) (sl_mk rfl (by rw [hx]; rfl)) (sl_mk rfl (by rw [hy]; rfl))
  refine (hq (.val (.sint .i64) (minI a b)) rfl).mono ?_
  rintro v w' ⟨rfl, hv⟩
  have : v = .int .i64 (minI a b) := List.head_eq_of_cons_eq (show [v] = [_] from hv)
  rw [this]; exact h
def curL (d rest x : List UInt8) (i : Nat) : List UInt8 := d ++ (xorL (rest.take i) x ++ rest.drop i)
theorem xorL_len {a b : List UInt8} (h : a.length ≤ b.length) : (xorL a b).length = a.length := by unfold xorL; simp; omega
theorem curL_len {d rest x : List UInt8} {i : Nat} (hi : i ≤ rest.length) (hx : i ≤ x.length) : (curL d rest x i).length = d.length + rest.length := by
  unfold curL
  rw [List.length_append, List.length_append, xorL_len (by simp; omega)]
  simp; omega
theorem curL_zero (d rest x : List UInt8) : curL d rest x 0 = d ++ rest := by simp [curL, xorL]
theorem curL_get {d rest x : List UInt8} {i : Nat} (hi : i < rest.length) (hx : i < x.length) : (curL d rest x i)[d.length + i]? = some rest[i] := by
  unfold curL
  have h1 : (xorL (rest.take i) x).length = i := by rw [xorL_len (by simp; omega)]; simp; omega
  rw [List.getElem?_append_right (by omega), List.getElem?_append_right (by omega), h1]
  simp [hi]
theorem zip_take_succ : ∀ (i : Nat) (a b : List UInt8) (ha : i < a.length) (hb : i < b.length), xorL (a.take (i + 1)) b = xorL (a.take i) b ++ [a[i] ^^^ b[i]]
  | 0, x :: a, y :: b, _, _ => rfl
  | i + 1, x :: a, y :: b, ha, hb => by
    have ha' : i < a.length := by simpa using ha
    have hb' : i < b.length := by simpa using hb
    have := zip_take_succ i a b ha' hb'
    show (x ^^^ y) :: xorL (a.take (i + 1)) b = (x ^^^ y) :: (xorL (a.take i) b ++ [a[i] ^^^ b[i]])
    rw [this]
  | _, [], _, ha, _ => by simp at ha
  | _, _ :: _, [], _, hb => by simp at hb
theorem curL_succ {d rest x : List UInt8} {i : Nat} (hi : i < rest.length) (hx : i < x.length) : curL d rest x (i + 1) = (curL d rest x i).set (d.length + i) (rest[i] ^^^ x[i]) := by
  unfold curL
  have h1 : (xorL (rest.take i) x).length = i := by rw [xorL_len (by simp; omega)]; simp; omega
  have h2 : xorL (rest.take (i + 1)) x = xorL (rest.take i) x ++ [rest[i] ^^^ x[i]] := by
    exact zip_take_succ i rest x hi hx
  rw [List.set_append_right _ _ (by omega), Nat.add_sub_cancel_left, List.set_append_right _ _ (by omega), h1, Nat.sub_self, List.drop_eq_getElem_cons hi, List.set_cons_zero, h2, List.append_assoc]
  rfl
def ptrV (b : Nat) : Value := .pointer (some ⟨b, 0, none⟩)
def roundR (w0 : World) (ov : Value) (rb lr : Nat) (rc : LoopState → Option Code → Loop) (done rest x : List UInt8) (E : List Ent) : Ending → World → Prop := fun e W' =>
  ∃ rv', (rest.length ≤ 64 ∧ e = .returned (.bool false) ∧ Own w0 (fun _ => False) W' (rowE ov (done ++ xorL rest x) :: bx rb [rv'] :: pt lr (.loop (rc .done (some (.exit 0)))) :: E)) ∨
    (64 < rest.length ∧ e = .returned (.bool true) ∧ Sub ov rv' (done.length + 64) (rest.length - 64) ∧ Own w0 (fun _ => False) W' (rowE ov (done ++ xorL (rest.take 64) x ++ rest.drop 64) :: bx rb [rv'] :: pt lr (.loop (rc .ready none)) :: E))
def tmOf (T : Array Value) (c : UInt32) (x : List UInt8) : Array Value := ((#[44, 45] : Array Nat).zip #[u32 c, .agg (x.map u8).toArray]).foldl (fun t (p, v) => t.setIfInBounds p v) T
def RoundsOK (w0 : World) (ov : Value) (rb lr : Nat) (rc : LoopState → Option Code → Loop) (fn : FuncId) (T : Array Value) (assign body : Code) : Prop :=
  (∀ st pe, rc st pe = { rc .ready none with state := st, pending := pe }) ∧ (rc .ready none).state = .ready ∧ (rc .ready none).fn = fn ∧ (rc .ready none).tmps = T ∧ (rc .ready none).params = #[44, 45] ∧ (rc .ready none).assign = assign ∧ (rc .ready none).body = body ∧
  ∀ (done rest x : List UInt8) (c : UInt32) (rv : Value) (W : World) (E : List Ent), x.length = 64 → rest ≠ [] → Sub ov rv done.length rest.length → Own w0 (fun _ => False) W (rowE ov (done ++ rest) :: bx rb [rv] :: pt lr (.loop (rc .ready none)) :: E) →
    RoundIn (RF none) 2 Tryd.prog lr fn (tmOf T c x) assign body W (roundR w0 ov rb lr rc done rest x E)
theorem SoundF.use {S : Summ} {g : FuncId} (hS : SoundF Tryd.prog g S) {avs : List AV} {a : AV} {w0 w : World} {l : List Ent} {vs : List Value} (hr : (S avs [] 0).Runs fun r => r = (a, [], 0)) (H : Own w0 (fun _ => False) w l) (hw : ∀ p ∈ gl, globF (fun _ => True) w0 p)
    (hs : ∀ (ν : Nms) (Z : Nat → Prop), (∀ x, x < w0.heap.size → Z x) → slotsR ν 0 Z w avs vs) : Calls Tryd.prog g vs.toArray w (Ret fun v w' => Own w0 (fun _ => False) w' l ∧ ∃ ν b Z, slotR ν b Z w' a v) := by
  let B : Base := ⟨fun _ => True, fun _ => True, w0, fun _ => trivial⟩
  have low : ∀ x, x < w0.heap.size → ¬ footU l x := fun x hx ⟨e, he, hf⟩ => (H.low e he x hf).2 hx
  have hz : ∀ x, x < w0.heap.size → B.Z (ents (fun _ => ⟨0, undef, []⟩) [] ++ l) x := fun x hx => ⟨low x hx, .inl trivial⟩
  have hh : Here B (fun _ => ⟨0, undef, []⟩) 0 w [] l := ⟨H.fresh, fun e he => (by cases he), fun p hp => by
    obtain ⟨_, T, z, h2⟩ := hw p hp
    have hlt := (Array.getElem?_eq_some_iff.1 h2).1
    exact ⟨hz _ hlt, T, z, (H.old _ hlt (fun h => h)).trans h2⟩⟩
  refine (hS _ _ _ _ hr B _ w l vs hh (hs _ _ hz)).mono fun e w' he => ?_
  cases e with
  | returned v =>
    obtain ⟨r, rfl, ν', hl, hv⟩ := he
    exact ⟨H.trans hl.own, ν', 0, _, hv⟩
  | panicked _ => exact he.elim
  | outgrown => exact he.elim
theorem map_rel {α : Type} {e : Ty} {f : α → Value} (c : α → e.den) {n : Nat} {Z : Nat → Prop} {w : World} {xs : List α} (h1 : e.rty.sz = 1) (ho : ∀ x, (f x).oneCell' = true) (hf : ∀ x, e.rty.rel Z w (c x) [f x]) (hn : xs.length = n) : (RV n e.rty).rel Z w (xs.map c) (xs.map f) := by
  refine ⟨by rw [List.length_map]; exact hn, by rw [List.length_map, h1, hn]; omega, ?_, fun i x hx => ?_⟩
  · simp only [ones, List.all_eq_true, List.mem_map]
    rintro _ ⟨x, _, rfl⟩
    exact ho x
  · rw [List.getElem?_map] at hx
    simp only [Option.map_eq_some_iff] at hx
    obtain ⟨y, hy, rfl⟩ := hx
    have hi := (List.getElem?_eq_some_iff.1 hy).1
    have hy' : xs[i] = y := (List.getElem?_eq_some_iff.1 hy).2
    rw [h1, Nat.mul_one, List.drop_eq_getElem_cons (by simpa using hi)]
    simp only [List.take_succ_cons, List.take_zero, List.getElem_map, hy']
    exact hf y
theorem rel32 {n : Nat} {Z : Nat → Prop} {w : World} {g : List UInt32} (h : g.length = n) : (RV n (Ty.u32).rty).rel Z w g (g.map u32) := by
  have := map_rel (e := .u32) (f := u32) (fun x => x) (Z := Z) (w := w) rfl (fun _ => rfl) (fun _ => rfl) h
  rwa [List.map_id'] at this
theorem flat1 {α : Type} (f : α → Value) : ∀ xs : List α, xs.flatMap (fun x => [f x]) = xs.map f
  | [] => rfl
  | x :: xs => by rw [List.flatMap_cons, flat1 f xs]; rfl
theorem of8 {n : Nat} {Z : Nat → Prop} {w : World} {x : List UInt8} {cs : List Value} (h : (RV n (Ty.u8).rty).rel Z w x cs) : x.length = n ∧ cs = x.map u8 := by
  refine ⟨h.1, ?_⟩
  have := chunks (A := (Ty.u8).rty) (f := fun x => [u8 x]) x cs (by rw [h.2.1, h.1]) fun i y hy => h.2.2.2 i y hy
  rw [this, flat1]
theorem of32 {n : Nat} {Z : Nat → Prop} {w : World} {x : List UInt32} {cs : List Value} (h : (RV n (Ty.u32).rty).rel Z w x cs) : x.length = n ∧ cs = x.map u32 := by
  refine ⟨h.1, ?_⟩
  have := chunks (A := (Ty.u32).rty) (f := fun x => [u32 x]) x cs (by rw [h.2.1, h.1]) fun i y hy => h.2.2.2 i y hy
  rw [this, flat1]
theorem block_calls (n : Nat) {g : List UInt32} {x : List UInt8} (hg : g.length = 16) (hx : (F_cipher_grid_block n g).run = some x) {w0 w : World} {l : List Ent} (H : Own w0 (fun _ => False) w l) (hw : ∀ p ∈ gl, globF (fun _ => True) w0 p) :
    Calls Tryd.prog 188 #[.agg (g.map u32).toArray] w (Ret fun v w' => v = .agg (x.map u8).toArray ∧ x.length = 64 ∧ Own w0 (fun _ => False) w' l) := by
  have hS : S_cipher_grid_block n [.val (.arr 16 .u32) g] [] 0 = .sub (F_cipher_grid_block n g) fun r => .ret (.val (.arr 64 .u8) r, [], 0) := by kernel_rfl
  have hr : (S_cipher_grid_block n [.val (.arr 16 .u32) g] [] 0).Runs fun r => r = (.val (.arr 64 .u8) x, [], 0) := by
    rw [hS]
    show (F_cipher_grid_block n g).Runs fun y => (_, _, _) = _
    exact (Tree.runs_run hx).2 rfl
  have hc := (ok_cipher_grid_block n).use hr H hw (vs := [.agg (g.map u32).toArray]) fun ν Z _ => ⟨⟨_, rfl, rel32 hg⟩, trivial⟩
  have key : ∀ {ν : Nms} {b : Nat} {Z : Nat → Prop} {w' : World} {v : Value}, slotR ν b Z w' (.val (.arr 64 .u8) x) v → x.length = 64 ∧ v = .agg (x.map u8).toArray := by
    rintro ν b Z w' v ⟨cs, rfl, h⟩
    obtain ⟨h1, rfl⟩ := of8 h
    exact ⟨h1, rfl⟩
  refine hc.mono fun e w' he => ?_
  cases e with
  | returned v =>
    obtain ⟨h1, ν, b, Z, h2⟩ := he
    obtain ⟨h3, h4⟩ := key h2
    exact ⟨h4, h3, h1⟩
  | panicked _ => exact he.elim
  | outgrown => exact he.elim
def vals3 (lr wb : Nat) (g : List UInt32) (x : List UInt8) (b : Bool) : Nat → Value
  | 0 => .func (.yield lr) #[] #[]
  | 1 => .pointer (some ⟨wb, 12, none⟩)
  | 2 => u32 (g.getD 12 0)
  | 3 => .agg (g.map u32).toArray
  | 4 => .agg (x.map u8).toArray
  | 5 => .bool b
  | _ => .bool (!b)
def need3 : Nat → List Nat
  | 2 => [1]
  | 4 => [3]
  | 5 => [0, 2, 4]
  | 6 => [5]
  | _ => []
structure Inv3 (w0 : World) (l : List Ent) (R : Bool → World → Prop) (f : Fr) (lr wb : Nat) (g : List UInt32) (x : List UInt8) (listed : Array Bool) (a : Act) (W : World) : Prop where
  size : a.tmps.size = 24
  defers : a.defers = []
  len : listed.size = 7
  base : ∀ t, t < 10 ∨ 16 < t → fr a t = f t
  done : ∀ b k, k < 5 → listed.getD k false = true → fr a (10 + k) = vals3 lr wb g x b k
  len64 : listed.getD 4 false = true → x.length = 64
  own : listed.getD 5 false = false → Own w0 (fun _ => False) W l
  own' : listed.getD 5 false = true → ∃ b, R b W ∧ fr a 15 = .bool b ∧ (listed.getD 6 false = true → fr a 16 = .bool (!b))
  deps : ∀ j, listed.getD j false = true → ∀ k, k ∈ need3 j → listed.getD k false = true
theorem Inv3.last {w0 : World} {l : List Ent} {R : Bool → World → Prop} {f : Fr} {lr wb : Nat} {g : List UInt32} {x : List UInt8} {listed : Array Bool} {a : Act} {W : World} (h : Inv3 w0 l R f lr wb g x listed a W) : listed.getD 6 false = true → listed.getD 5 false = true :=
  fun h6 => h.deps 6 h6 5 (by decide)
theorem Inv3.closed {w0 : World} {l : List Ent} {R : Bool → World → Prop} {f : Fr} {lr wb : Nat} {g : List UInt32} {x : List UInt8} {listed : Array Bool} {a : Act} {W : World} (h : Inv3 w0 l R f lr wb g x listed a W) (h5 : listed.getD 5 false = true) : ∀ k, k < 5 → listed.getD k false = true := by
  intro k hk
  have h2 := h.deps 5 h5 2 (by decide)
  have h4 := h.deps 5 h5 4 (by decide)
  have : k = 0 ∨ k = 1 ∨ k = 2 ∨ k = 3 ∨ k = 4 := by omega
  rcases this with rfl | rfl | rfl | rfl | rfl
  · exact h.deps 5 h5 0 (by decide)
  · exact h.deps 2 h2 1 (by decide)
  · exact h2
  · exact h.deps 4 h4 3 (by decide)
  · exact h4
theorem deps_up {need : Nat → List Nat} {m : Nat} {ops : Array Oper} {listed : Array Bool} {j : Nat} (hdep : depsB need m ops = true) (hj : j < m) (hr : j ∈ Region.ready .any ops listed) (hm : m = listed.size)
    (h : ∀ j, listed.getD j false = true → ∀ k, k ∈ need j → listed.getD k false = true) : ∀ i, (listed.setIfInBounds j true).getD i false = true → ∀ k, k ∈ need i → (listed.setIfInBounds j true).getD k false = true := by
  intro i hi k hk
  by_cases hij : j = i
  · subst hij; exact getD_up (depsB_ok hdep hj hr hk)
  · refine getD_up (h i ?_ k hk)
    simp only [Array.getD_eq_getD_getElem?, Array.getElem?_setIfInBounds] at hi ⊢
    rw [if_neg hij] at hi; exact hi
theorem reg3 {id : Nat} {f : Fr} {W w0 : World} {l : List Ent} {R : Bool → World → Prop} {lr wb jw : Nat} {g : List UInt32} {x : List UInt8} {ops : Array Oper} {Q : Post}
    {y0 y1 y2 y3 y4 y5 y6 : TypeId} {p0 p1 p2 p3 p4 p5 p6 : String} {a0 a1 a2 a3 a4 a5 a6 : Array Edge} {t4 t5 : Array TypeId}
    (h0 : ops[0]? = some ⟨some 10, .move (.tmp 0), y0, p0, a0, none⟩) (h1 : ops[1]? = some ⟨some 11, .indexAddr 238 (.tmp 5) (.const (.int .i64 12)), y1, p1, a1, none⟩) (h2 : ops[2]? = some ⟨some 12, .load 135 (.tmp 11), y2, p2, a2, none⟩)
    (h3 : ops[3]? = some ⟨some 13, .load 238 (.tmp 5), y3, p3, a3, none⟩) (h4 : ops[4]? = some ⟨some 14, .call ⟨.value (.func 188), #[.tmp 13], t4⟩, y4, p4, a4, none⟩) (h5 : ops[5]? = some ⟨some 15, .call ⟨.value (.tmp 10), #[.tmp 12, .tmp 14], t5⟩, y5, p5, a5, none⟩)
    (h6 : ops[6]? = some ⟨some 16, .unOp .not 4 (.tmp 15), y6, p6, a6, none⟩) (hsz : ops.size = 7) (hdep : depsB need3 7 ops = true) (hdir : ((List.range 7).all fun k => (direct ops k).all fun j => decide (j < k)) = true)
    (hw : l[jw]? = some (bx wb (g.map u32))) (H : Own w0 (fun _ => False) W l) (hgl : ∀ p ∈ gl, globF (fun _ => True) w0 p) (f0 : f 0 = .func (.yield lr) #[] #[]) (f5 : f 5 = .pointer (some ⟨wb, 0, none⟩)) (hg : g.length = 16) {nf : Nat} (hx : (F_cipher_grid_block nf g).run = some x)
    (hyield : ∀ W, x.length = 64 → Own w0 (fun _ => False) W l → ∃ fn tm as_ bd, (Instr.yield lr #[u32 (g.getD 12 0), .agg (x.map u8).toArray]).run Tryd.prog W = .ok (.round lr fn tm as_ bd) W ∧ RoundIn (RF none) 2 Tryd.prog lr fn tm as_ bd W fun e W' => ∃ b, e = .returned (.bool b) ∧ R b W')
    (hQ : ∀ f' W' b, x.length = 64 → (∀ t, t < 10 ∨ 16 < t → f' t = f t) → f' 16 = .bool (!b) → R b W' → Q .normal f' W') :
    CR none [] Tryd.prog 24 (.region id ops true) Q f W := by
  intro a ha
  refine wpIn_region_any mixedTryd ?_
  refine any_inv (Inv3 w0 l R f lr wb g x) ?_ ?_ ?_ _ _ _ _ ⟨ha.size, ha.defers, by simp [hsz], fun t _ => congrFun ha.eq t, ?_, ?_, fun _ => H.drew, ?_, ?_⟩ ?_
  · intro listed a W j inv hj
    obtain ⟨hun, o, ho, _⟩ := mem_ready.1 hj
    have hun : listed.getD j false = false := getD_both hun
    have hj7 : j < 7 := by rw [← hsz]; exact (Array.getElem?_eq_some_iff.1 ho).1
    have hga : GoodD [] 24 (fr a) a := ⟨inv.size, inv.defers, rfl⟩
    have lis : ∀ k, k ∈ need3 j → listed.getD k false = true := fun k hk => depsB_ok hdep hj7 hj hk
    have dep : ∀ k, k ∈ need3 j → k < 5 → fr a (10 + k) = vals3 lr wb g x true k := fun k hk h5 => inv.done true k h5 (lis k hk)
    have b0 : fr a 0 = .func (.yield lr) #[] #[] := (inv.base 0 (by omega)).trans f0
    have b5 : fr a 5 = .pointer (some ⟨wb, 0, none⟩) := (inv.base 5 (by omega)).trans f5
    have n5 : j < 5 → listed.getD 5 false = false := by
      intro h9
      cases h : listed.getD 5 false with
      | false => rfl
      | true => have := inv.closed h j h9; rw [hun] at this; cases this
    have hown : j < 5 → Own w0 (fun _ => False) W l := fun h => inv.own (n5 h)
    have ne : ∀ {k i : Nat}, k ≠ i → (listed.setIfInBounds k true).getD i false = listed.getD i false := fun {k i} h => by
      simp only [Array.getD_eq_getD_getElem?, Array.getElem?_setIfInBounds]; rw [if_neg h]
    have put : ∀ (k : Nat) (v : Value) (W' : World), k < 5 → j = k → (∀ b, v = vals3 lr wb g x b k) → (k = 4 → x.length = 64) → Own w0 (fun _ => False) W' l → Inv3 w0 l R f lr wb g x (listed.setIfInBounds j true) (a.put (some (10 + k)) v) W' := by
      intro k v W' hk hjk hv h64 hW
      subst hjk
      have h2 := hga.put (some (10 + j)) (by intro d hd; cases hd; omega) v
      have h5f := n5 hk
      refine ⟨h2.size, h2.defers, by simp [inv.len], fun t ht => ?_, fun b i hi hl => ?_, fun hl => ?_, fun _ => hW, fun hl => ?_, deps_up hdep hj7 hj inv.len.symm inv.deps⟩
      · rw [h2.eq]
        show upd (fr a) (10 + j) v t = _
        rw [upd_ne _ _ (by omega)]
        exact inv.base t ht
      · rw [h2.eq]
        by_cases hij : i = j
        · subst hij; rw [← hv b]; exact upd_same _ _ _
        · show upd (fr a) (10 + j) v (10 + i) = _
          rw [upd_ne _ _ (by omega)]
          rw [ne (Ne.symm hij)] at hl
          exact inv.done b i hi hl
      · by_cases h4j : j = 4
        · exact h64 h4j
        · rw [ne h4j] at hl; exact inv.len64 hl
      · rw [ne (by omega), h5f] at hl; cases hl
    have quiet : ∀ (k : Nat) (op : Op) (ty : TypeId) (ps : String) (af : Array Edge), k < 5 → notDefer (bare op ty) = true → ops[k]? = some ⟨some (10 + k), op, ty, ps, af, none⟩ → j = k → OpW Tryd.prog op ty (fr a) W (fun v w' => (∀ b, v = vals3 lr wb g x b k) ∧ (k = 4 → x.length = 64) ∧ Own w0 (fun _ => False) w' l) →
        wpOpIn (RF none) 3 Tryd.prog ops (liftD [] 24 Q) j (fun a' w' => Inv3 w0 l R f lr wb g x (listed.setIfInBounds j true) a' w') a W := by
      intro k op ty ps af hk hnd hop hjk hw
      have hjk' := hjk
      subst hjk
      refine wpOpIn_of hop rfl (OpW.wpIn (o := ⟨some (10 + j), op, ty, ps, af, none⟩) (ro := none) (D := []) (n := 24) hnd hga hw ?_)
      rintro v w' ⟨hv, h64, hW⟩
      exact put j v w' hk rfl hv h64 hW
    have hcases : j = 0 ∨ j = 1 ∨ j = 2 ∨ j = 3 ∨ j = 4 ∨ j = 5 ∨ j = 6 := by omega
    have hcell : (g.map u32)[12]? = some (u32 (g.getD 12 0)) := by
      rw [List.getElem?_map, List.getD_eq_getElem?_getD, List.getElem?_eq_getElem (by omega)]; rfl
    rcases hcases with hk | hk | hk | hk | hk | hk | hk
    · exact quiet 0 _ _ _ _ (by omega) rfl h0 hk (o_moveE b0 ⟨fun _ => rfl, fun h => (by cases h), hown (by omega)⟩)
    · exact quiet 1 _ _ _ _ (by omega) rfl h1 hk (o_indexArr Tryd.underlying238 sz135 b5 rfl rfl (by decide) (add0 wb 12) ⟨fun _ => rfl, fun h => (by cases h), hown (by omega)⟩)
    · subst hk
      exact quiet 2 _ _ _ _ (by omega) rfl h2 rfl (o_load Tryd.underlying135 rfl (dep 1 (by decide) (by omega)) ((hown (by omega)).bxCell hw 12 hcell) ⟨fun _ => rfl, fun h => (by cases h), hown (by omega)⟩)
    · exact quiet 3 _ _ _ _ (by omega) rfl h3 hk (o_loadA Tryd.underlying238 rfl sz238 b5 ((hown (by omega)).bxAt hw) (by simp [hg]) ⟨fun _ => rfl, fun h => (by cases h), hown (by omega)⟩)
    · subst hk
      refine quiet 4 _ _ _ _ (by omega) rfl h4 rfl (o_call (args := #[.agg (g.map u32).toArray]) rfl Tryd.func188 rfl (args1 (dep 3 (by decide) (by omega))) (block_calls nf hg hx (hown (by omega)) hgl) ?_)
      rintro v w' ⟨rfl, h64, hW⟩
      exact ⟨fun _ => rfl, fun _ => h64, hW⟩
    · subst hk
      have o5 : Own w0 (fun _ => False) W l := inv.own hun
      have h64 : x.length = 64 := inv.len64 (lis 4 (by decide))
      obtain ⟨fn, tm, as_, bd, hy, hR⟩ := hyield W h64 o5
      have e10 : fr a 10 = .func (.yield lr) #[] #[] := dep 0 (by decide) (by omega)
      have e12 : fr a 12 = u32 (g.getD 12 0) := dep 2 (by decide) (by omega)
      have e14 : fr a 14 = .agg (x.map u8).toArray := dep 4 (by decide) (by omega)
      refine wpOpIn_of h5 rfl ⟨fun _ _ => trivial, ?_⟩
      have hrun : (Oper.semAt none a.eval ⟨some 15, .call ⟨.value (.tmp 10), #[.tmp 12, .tmp 14], t5⟩, y5, p5, a5, none⟩).run Tryd.prog W = .ok (.round lr fn tm as_ bd) W := by
        rw [Oper.semAt_none, eval_fr]
        simp only [execOp, resolve, ev, e10, Deferred.ofValue, invoke, List.map_toArray, List.map_cons, List.map_nil, e12, e14, Sem.run_bind, Sem.run_pure, Result.andThen_ok, Array.append_empty, Array.empty_append]
        exact hy
      show Oper.uponIn (RF none) 3 Tryd.prog _ a _ _ ((Oper.semAt none a.eval _).run Tryd.prog W)
      rw [hrun]
      refine ⟨fun h => (by cases h), hR.mono fun e W' he => ?_⟩
      obtain ⟨b, rfl, hRb⟩ := he
      have h2 := hga.put (some 15) (by intro d hd; cases hd; omega) (.bool b)
      have hl5 : (listed.setIfInBounds 5 true).getD 5 false = true := by
        simp [Array.getD_eq_getD_getElem?, Array.getElem?_setIfInBounds, inv.len]
      have n6 : (listed.setIfInBounds 5 true).getD 6 false = true → False := by
        intro h
        rw [ne (by omega)] at h
        have := inv.last h
        rw [hun] at this; cases this
      refine ⟨h2.size, h2.defers, by simp [inv.len], fun t ht => ?_, fun b' i hi hl => ?_, fun _ => h64, fun h => (by rw [hl5] at h; cases h), fun _ => ⟨b, hRb, ?_, fun h => (n6 h).elim⟩, deps_up hdep hj7 hj inv.len.symm inv.deps⟩
      · rw [h2.eq]
        show upd (fr a) 15 (.bool b) t = _
        rw [upd_ne _ _ (by omega)]
        exact inv.base t ht
      · rw [h2.eq]
        show upd (fr a) 15 (.bool b) (10 + i) = _
        rw [upd_ne _ _ (by omega)]
        rw [ne (by omega)] at hl
        exact inv.done b' i hi hl
      · rw [h2.eq]; exact upd_same _ _ _
    · subst hk
      have hl5 := lis 5 (by decide)
      obtain ⟨b, hRb, e15, _⟩ := inv.own' hl5
      refine wpOpIn_of h6 rfl (OpW.wpIn (o := ⟨some 16, .unOp .not 4 (.tmp 15), y6, p6, a6, none⟩) (ro := none) (D := []) (n := 24) rfl hga (K := fun v w' => v = .bool (!b) ∧ w' = W) (o_not e15 ⟨rfl, rfl⟩) ?_)
      rintro v w' ⟨rfl, rfl⟩
      have h2 := hga.put (some 16) (by intro d hd; cases hd; omega) (.bool (!b))
      refine ⟨h2.size, h2.defers, by simp [inv.len], fun t ht => ?_, fun b' i hi hl => ?_, fun hl => ?_, fun h => ?_, fun _ => ⟨b, hRb, ?_, fun _ => ?_⟩, deps_up hdep hj7 hj inv.len.symm inv.deps⟩
      · rw [h2.eq]
        show upd (fr a) 16 (.bool (!b)) t = _
        rw [upd_ne _ _ (by omega)]
        exact inv.base t ht
      · rw [h2.eq]
        show upd (fr a) 16 (.bool (!b)) (10 + i) = _
        rw [upd_ne _ _ (by omega)]
        rw [ne (by omega)] at hl
        exact inv.done b' i hi hl
      · rw [ne (by omega)] at hl; exact inv.len64 hl
      · rw [ne (by omega), hl5] at h; cases h
      · rw [h2.eq]
        show upd (fr a) 16 (.bool (!b)) 15 = _
        rw [upd_ne _ _ (by omega)]; exact e15
      · rw [h2.eq]; exact upd_same _ _ _
  · intro listed a W inv hr0
    have all : ∀ k, k < 7 → listed.getD k false = true := by
      intro k
      induction k using Nat.strongRecOn with
      | _ k ih =>
        intro hk
        cases hc : listed.getD k false with
        | true => rfl
        | false =>
          have hlt : k < ops.size := by omega
          have : k ∈ Region.ready .any ops listed := by
            refine mem_ready.2 ⟨getD_in (by rw [inv.len]; exact hk) hc, ops[k], by simp [hlt], fun e he hb => ?_⟩
            have hdk : e.on ∈ direct ops k := by
              simp only [direct, Array.getElem?_eq_getElem hlt, List.mem_map, List.mem_filter, Array.mem_toList_iff]
              exact ⟨e, ⟨he, hb⟩, rfl⟩
            simp only [List.all_eq_true, List.mem_range, decide_eq_true_eq] at hdir
            have h1 := hdir k hk e.on hdk
            exact ih e.on h1 (by omega)
          rw [hr0] at this
          cases this
    obtain ⟨b, hRb, _, h16⟩ := inv.own' (all 5 (by omega))
    exact ⟨⟨inv.size, inv.defers⟩, hQ _ _ b (inv.len64 (all 4 (by omega))) inv.base (h16 (all 6 (by omega))) hRb⟩
  · exact fun listed a W h => by rw [h.len, hsz]
  · intro b k hk h; rw [getD_replicate_false] at h; cases h
  · intro h; rw [getD_replicate_false] at h; cases h
  · intro h; rw [getD_replicate_false] at h; cases h
  · intro j h; rw [getD_replicate_false] at h; cases h
  · simp
theorem splice_set {cs : List Value} {i : Nat} {v : Value} (h : i < cs.length) : splice cs i [v] = cs.set i v := by
  unfold splice
  rw [List.set_eq_take_append_cons_drop, if_pos h]
  simp
theorem map_set32 (g : List UInt32) (i : Nat) (v : UInt32) : (g.map u32).set i (u32 v) = (g.set i v).map u32 := by rw [List.map_set]
theorem yieldsTryd {w0 W : World} {ov rv : Value} {rb lr : Nat} {rc : LoopState → Option Code → Loop} {fn : FuncId} {T : Array Value} {assign body : Code} (hR : RoundsOK w0 ov rb lr rc fn T assign body) {done rest x : List UInt8} {c : UInt32} {E : List Ent}
    (hx : x.length = 64) (hr : rest ≠ []) (hs : Sub ov rv done.length rest.length) (H : Own w0 (fun _ => False) W (rowE ov (done ++ rest) :: bx rb [rv] :: pt lr (.loop (rc .ready none)) :: E)) :
    ∃ fn tm as_ bd, (Instr.yield lr #[u32 c, .agg (x.map u8).toArray]).run Tryd.prog W = .ok (.round lr fn tm as_ bd) W ∧ RoundIn (RF none) 2 Tryd.prog lr fn tm as_ bd W fun e W' => ∃ b, e = .returned (.bool b) ∧ roundR w0 ov rb lr rc done rest x E (.returned (.bool b)) W' := by
  obtain ⟨e1, e2, e3, e4, e5, e6, e7, hround⟩ := hR
  have hl : W.heap[lr]? = some (.loop (rc .ready none)) := H.get (k := 2) rfl
  have hy := run_yield (P := Tryd.prog) (args := #[u32 c, .agg (x.map u8).toArray]) hl (by rw [e5]; rfl)
  rw [e3, e4, e5, e6, e7] at hy
  refine ⟨_, _, _, _, hy, (hround done rest x c rv W E hx hr hs H).mono fun e W' he => ?_⟩
  obtain ⟨rv', h | h⟩ := he
  · obtain ⟨h1, rfl, h3⟩ := h
    exact ⟨false, rfl, rv', .inl ⟨h1, rfl, h3⟩⟩
  · obtain ⟨h1, rfl, h3⟩ := h
    exact ⟨true, rfl, rv', .inr ⟨h1, rfl, h3⟩⟩
theorem iterTryd {w0 W1 : World} {ov rv : Value} {rb lr gb fb okb : Nat} {rc : LoopState → Option Code → Loop} {fn : FuncId} {T : Array Value} {assign body : Code} (hR : RoundsOK w0 ov rb lr rc fn T assign body) (hgl : ∀ p ∈ gl, globF (fun _ => True) w0 p)
    {done rest r : List UInt8} {g : List UInt32} {c : UInt32} {E : List Ent} (hg : g.length = 16) (hr : rest ≠ []) (hs : Sub ov rv done.length rest.length) {k : Nat} (hm : mixL k (g.set 12 c) rest = some r)
    (H : Own w0 (fun _ => False) W1 (rowE ov (done ++ rest) :: bx rb [rv] :: pt lr (.loop (rc .ready none)) :: bx gb (g.map u32) :: bx fb [u32 c] :: bx okb [.bool true] :: E)) :
    Calls Tryd.prog 187 #[.func (.yield lr) #[] #[], .pointer (some ⟨gb, 0, none⟩), .pointer (some ⟨fb, 0, none⟩), .pointer (some ⟨okb, 0, none⟩)] W1 (Ret fun _ W' => ∃ rv', Own w0 (fun _ => False) W' (rowE ov (done ++ r) :: bx rb [rv'] :: pt lr (.loop (rc .done (some (.exit 0)))) :: bx gb (g.map u32) :: bx fb [u32 c] :: bx okb [.bool true] :: E)) := by
  refine callsIn_wide (n := 3).1 ?_
  let Rf : World → Prop := fun W' => ∃ rv', Own w0 (fun _ => False) W' (rowE ov (done ++ r) :: bx rb [rv'] :: pt lr (.loop (rc .done (some (.exit 0)))) :: bx gb (g.map u32) :: bx fb [u32 c] :: bx okb [.bool true] :: E)
  refine callsIn_of_wp (F := RF none) (n := 3) Tryd.func187 rfl trivial (wpIn_mono (Q := liftD [] 24 fun e f W => (e = .ret ∨ e = .normal) ∧ Rf W) ?_ ?_)
  rotate_left
  · rintro e a w' ⟨⟨h1, h2⟩, h3, h4⟩
    rcases h3 with rfl | rfl
    · exact ⟨h2, .tuple #[], by simp [results, Tryd.func187], h4⟩
    · exact ⟨h2, .tuple #[], by simp [results, Tryd.func187], h4⟩
  have good : GoodD [] 24 (frame0 #[.func (.yield lr) #[] #[], .pointer (some ⟨gb, 0, none⟩), .pointer (some ⟨fb, 0, none⟩), .pointer (some ⟨okb, 0, none⟩)]) { tmps := #[.func (.yield lr) #[] #[], .pointer (some ⟨gb, 0, none⟩), .pointer (some ⟨fb, 0, none⟩), .pointer (some ⟨okb, 0, none⟩)] ++ Array.replicate (24 - 4) undef, defers := [] } := by
    have := good_enter 24 #[.func (.yield lr) #[] #[], .pointer (some ⟨gb, 0, none⟩), .pointer (some ⟨fb, 0, none⟩), .pointer (some ⟨okb, 0, none⟩)] (Nat.le_of_ble_eq_true rfl)
    exact ⟨this.size, this.defers, this.eq⟩
  refine (show CR none [] Tryd.prog 24 _ (fun e f W => (e = .ret ∨ e = .normal) ∧ Rf W) (frame0 _) W1 from ?_) _ good
  refine CR_seq (CR_region rfl ?_)
  refine LR_op (o_loadA Tryd.underlying238 rfl sz238 (ad := ⟨gb, 0, none⟩) (xs := g.map u32) rfl (H.bxAt (k := 3) rfl) (by simp [hg]) ?_)
  refine LR_op (o_alloc zr238 (cs := List.replicate 16 (u32 0)) (by simp [Value.cells]) H ?_)
  intro wb W2 H2
  refine LR_do (o_store (k := 0) (g := wb) (off := 0) (cs := List.replicate 16 (u32 0)) (ys := g.map u32) (cs' := g.map u32) (l' := bx wb (g.map u32) :: rowE ov (done ++ rest) :: bx rb [rv] :: pt lr (.loop (rc .ready none)) :: bx gb (g.map u32) :: bx fb [u32 c] :: bx okb [.bool true] :: E) rfl H2 rfl (v := .agg (g.map u32).toArray) rfl rfl (by rw [List.length_map, hg]; exact sz238) (by simp only [ones, List.all_eq_true, List.mem_map]; rintro _ ⟨x, _, rfl⟩; rfl) (by simp [hg]) (splice_all (by simp [hg])) rfl ?_)
  intro W3 H3
  refine LR_nil ?_
  refine CR_seq (CR_region rfl ?_)
  refine LR_op (o_load Tryd.underlying135 rfl (ad := ⟨fb, 0, none⟩) rfl (H3.bxCell (k := 5) (g := fb) (cs := [u32 c]) rfl 0 rfl) ?_)
  refine LR_op (o_indexArr Tryd.underlying238 sz135 (ad := ⟨wb, 0, none⟩) rfl rfl (j := 12) rfl (by decide) (add0 wb 12) ?_)
  refine LR_do (o_store (k := 0) (g := wb) (off := 12) (cs := g.map u32) (ys := [u32 c]) (cs' := (g.set 12 c).map u32) (l' := bx wb ((g.set 12 c).map u32) :: rowE ov (done ++ rest) :: bx rb [rv] :: pt lr (.loop (rc .ready none)) :: bx gb (g.map u32) :: bx fb [u32 c] :: bx okb [.bool true] :: E) rfl H3 rfl rfl rfl sz135 rfl (by simp [hg]) (by rw [splice_set (by simp [hg]), map_set32]) rfl ?_)
  intro W4 H4
  refine LR_nil ?_
  have H5 : Own w0 (fun _ => False) W4 (rowE ov (done ++ rest) :: bx rb [rv] :: pt lr (.loop (rc .ready none)) :: bx wb ((g.set 12 c).map u32) :: bx gb (g.map u32) :: bx fb [u32 c] :: bx okb [.bool true] :: E) := H4.perm (List.perm_middle (l₁ := [rowE ov (done ++ rest), bx rb [rv], pt lr (.loop (rc .ready none))])).symm
  refine CR_block ?_
  let J : Nat → Fr → World → Prop := fun k f W => ∃ (done' rest' r' : List UInt8) (g' : List UInt32) (rv' : Value), f 0 = .func (.yield lr) #[] #[] ∧ f 3 = .pointer (some ⟨okb, 0, none⟩) ∧ f 5 = .pointer (some ⟨wb, 0, none⟩) ∧ g'.length = 16 ∧ rest' ≠ [] ∧ Sub ov rv' done'.length rest'.length ∧ mixL k g' rest' = some r' ∧ done' ++ r' = done ++ r ∧
    Own w0 (fun _ => False) W (rowE ov (done' ++ rest') :: bx rb [rv'] :: pt lr (.loop (rc .ready none)) :: bx wb (g'.map u32) :: bx gb (g.map u32) :: bx fb [u32 c] :: bx okb [.bool true] :: E)
  refine CR_loop J k ⟨done, rest, r, g.set 12 c, rv, rfl, rfl, rfl, by simp [hg], hr, hs, hm, rfl, H5⟩ ?_
  clear H2 H3 H4 H5 hm hs hr H
  rintro k f W ⟨done', rest', r', g', rv', f0, f3, f5, hg', hr', hs', hm', hdr, H⟩
  cases k with
  | zero => cases hm'
  | succ k =>
  unfold mixL at hm'
  obtain ⟨x, hx, hm'⟩ := bindE hm'
  refine CR_seq (CR_seq (CR_region rfl ?_))
  refine LR_op (o_load Tryd.underlying4 rfl (ad := ⟨okb, 0, none⟩) f3 (H.bxCell (k := 6) (g := okb) (cs := [.bool true]) rfl 0 rfl) ?_)
  refine LR_nil (CR_cond (b := true) rfl (fun _ => CR_skip ?_) (fun h => by cases h))
  refine CR_block (CR_seq (CR_seq ?_))
  refine reg3 (R := fun b W => roundR w0 ov rb lr rc done' rest' x (bx wb (g'.map u32) :: bx gb (g.map u32) :: bx fb [u32 c] :: bx okb [.bool true] :: E) (.returned (.bool b)) W) (lr := lr) (wb := wb) (jw := 3) (g := g') (x := x) (nf := 100) rfl rfl rfl rfl rfl rfl rfl rfl (by kernel_rfl) (by kernel_rfl) rfl H hgl f0 f5 hg' hx ?_ ?_
  · exact fun W hx64 HW => yieldsTryd hR hx64 hr' hs' HW
  · rintro f' W' b hx64 hf h16 ⟨rv2, hRR⟩
    have g0 : f' 0 = .func (.yield lr) #[] #[] := (hf 0 (by omega)).trans f0
    have g3 : f' 3 = .pointer (some ⟨okb, 0, none⟩) := (hf 3 (by omega)).trans f3
    have g5 : f' 5 = .pointer (some ⟨wb, 0, none⟩) := (hf 5 (by omega)).trans f5
    rcases hRR with ⟨h64, hb, HW⟩ | ⟨h64, hb, hs2, HW⟩
    · cases hb
      rw [if_pos h64] at hm'
      cases hm'
      refine CR_cond (b := true) h16 (fun _ => CR_ret ⟨.inl rfl, rv2, ?_⟩) (fun h => by cases h)
      rw [← hdr]
      exact HW.sub (.cons_cons _ (.cons_cons _ (.cons_cons _ (.cons _ (.refl _)))))
    · cases hb
      rw [if_neg (by omega)] at hm'
      by_cases hz : g'.getD 12 0 + 1 = 0
      · rw [if_pos hz] at hm'; cases hm'
      rw [if_neg hz] at hm'
      obtain ⟨r2, hr2, rfl⟩ := Option.map_eq_some_iff.1 hm'
      refine CR_cond (b := false) h16 (fun h => by cases h) (fun _ => CR_skip ?_)
      have hcell : (g'.map u32)[12]? = some (u32 (g'.getD 12 0)) := by
        rw [List.getElem?_map, List.getD_eq_getElem?_getD, List.getElem?_eq_getElem (by omega)]; rfl
      refine CR_seq (CR_region rfl ?_)
      refine LR_op (o_indexArr Tryd.underlying238 sz135 (ad := ⟨wb, 0, none⟩) g5 rfl (j := 12) rfl (by decide) (add0 wb 12) ?_)
      refine LR_op (o_load Tryd.underlying135 rfl (ad := ⟨wb, 12, none⟩) rfl (HW.bxCell (k := 3) (g := wb) rfl 12 hcell) ?_)
      refine LR_op (o_addU32 (a := g'.getD 12 0) (b := 1) rfl rfl ?_)
      refine LR_op (o_indexArr Tryd.underlying238 sz135 (ad := ⟨wb, 0, none⟩) g5 rfl (j := 12) rfl (by decide) (add0 wb 12) ?_)
      refine LR_do (o_store (k := 3) (g := wb) (off := 12) (cs := g'.map u32) (ys := [u32 (g'.getD 12 0 + 1)]) (cs' := (g'.set 12 (g'.getD 12 0 + 1)).map u32) (l' := rowE ov (done' ++ xorL (rest'.take 64) x ++ rest'.drop 64) :: bx rb [rv2] :: pt lr (.loop (rc .ready none)) :: bx wb ((g'.set 12 (g'.getD 12 0 + 1)).map u32) :: bx gb (g.map u32) :: bx fb [u32 c] :: bx okb [.bool true] :: E) rfl HW rfl rfl rfl sz135 rfl (by simp [hg']) (by rw [splice_set (by simp [hg']), map_set32]) rfl ?_)
      intro W5 H5
      refine LR_nil ?_
      refine CR_seq (CR_region rfl ?_)
      refine LR_op (o_indexArr Tryd.underlying238 sz135 (ad := ⟨wb, 0, none⟩) g5 rfl (j := 12) rfl (by decide) (add0 wb 12) ?_)
      refine LR_op (o_load Tryd.underlying135 rfl (ad := ⟨wb, 12, none⟩) rfl (H5.bxCell (k := 3) (g := wb) rfl 12 (x := u32 (g'.getD 12 0 + 1)) (by rw [List.getElem?_map, List.getElem?_set_self (by omega)]; rfl)) ?_)
      refine LR_op (o_eqlU32 (a := g'.getD 12 0 + 1) (b := 0) rfl rfl ?_)
      refine LR_nil (CR_cond (b := decide (g'.getD 12 0 + 1 = 0)) rfl (fun h => (hz (of_decide_eq_true h)).elim) (fun _ => CR_skip ?_))
      have hl1 : (done' ++ xorL (rest'.take 64) x).length = done'.length + 64 := by
        rw [List.length_append, xorL_len (by simp; omega)]; simp; omega
      refine ⟨k, by omega, done' ++ xorL (rest'.take 64) x, rest'.drop 64, r2, g'.set 12 (g'.getD 12 0 + 1), rv2, g0, g3, g5, by simp [hg'], ?_, ?_, hr2, ?_, H5⟩
      · intro h
        have := congrArg List.length h
        simp at this; omega
      · rw [hl1, List.length_drop]; exact hs2
      · rw [List.append_assoc]; exact hdr
def rangeCode : Code → Option (Code × Code)
  | .seq a b => match rangeCode a with | some r => some r | none => rangeCode b
  | .block _ c => rangeCode c
  | .rangeFunc _ _ a b => some (a, b)
  | _ => none
def rangeAB (f : Func) : Code × Code := (f.body.bind rangeCode).getD (.skip, .skip)
theorem Sub.sub {ov rv : Value} {d n k : Nat} (h : Sub ov rv d n) (hk : k ≤ n) : Sub ov (subv 1 rv k n) (d + k) (n - k) := by
  refine ⟨h.is.sub 1 k n hk (Nat.le_refl _), fun i hi => ?_⟩
  rw [Nat.add_assoc, ← h.at_ (k + i) (by omega)]
  obtain ⟨a, c, rfl, hn, hc, ha⟩ := h.is
  have hck : c ≠ k := by omega
  simp only [subv, if_neg hck, Nat.mul_one]
  cases a with
  | none => have := ha rfl; omega
  | some a => simp only [Option.map_some, ptrOf, addAdd]
def mixR (ab : Code × Code) (fn : FuncId) (T : Array Value) (D : Nat) (st : LoopState) (pe : Option Code) : Loop := { state := st, pending := pe, fn, tmps := T, params := #[44, 45], assign := ab.1, body := ab.2, defers := D }
theorem roundsTryd {w0 : World} {ov : Value} {rb lr D : Nat} {fn : FuncId} {T : Array Value} (hT : T.size = 70) (h11 : T.getD 11 undef = .pointer (some ⟨rb, 0, none⟩)) :
    RoundsOK w0 ov rb lr (mixR (rangeAB Tryd.f127) fn T D) fn T (rangeAB Tryd.f127).1 (rangeAB Tryd.f127).2 := by
  refine ⟨fun _ _ => rfl, rfl, rfl, rfl, rfl, rfl, rfl, ?_⟩
  intro done rest x c rv W E hx hr hs H
  refine roundIn_of_wpIn (F := RF none) (n := 2) trivial ?_
  let a0 : Act := { tmps := tmOf T c x, defers := [] }
  have ha0 : GoodD [] 70 (fr a0) a0 := ⟨by simp [a0, tmOf, hT], rfl, rfl⟩
  have f11 : fr a0 11 = .pointer (some ⟨rb, 0, none⟩) := by
    show (tmOf T c x).getD 11 undef = _
    rw [← h11]
    simp [tmOf, Array.getD_eq_getD_getElem?, Array.getElem?_setIfInBounds]
  have f45 : fr a0 45 = .agg (x.map u8).toArray := by
    show (tmOf T c x).getD 45 undef = _
    simp [tmOf, Array.getD_eq_getD_getElem?, Array.getElem?_setIfInBounds, hT]
  refine wpIn_any_n (ro := some lr) ?_
  let rec1 : World → Fr → Prop := fun W f => ∃ xb, f 11 = .pointer (some ⟨rb, 0, none⟩) ∧ f 13 = .pointer (some ⟨xb, 0, none⟩) ∧ Own w0 (fun _ => False) W (rowE ov (done ++ rest) :: bx rb [rv] :: pt lr (.loop (mixR (rangeAB Tryd.f127) fn T D .ready none)) :: bx xb (cel E8 x) :: E)
  have hA : CR (some lr) [] Tryd.prog 70 (rangeAB Tryd.f127).1 (fun e f W => e = .normal ∧ rec1 W f) (fr a0) W := by
    refine CR_region rfl ?_
    refine LR_op (o_alloc zr196 (cs := List.replicate 64 (u8 0)) (by simp [Value.cells]) H ?_)
    intro xb W2 H2
    refine LR_do (o_store (k := 0) (g := xb) (off := 0) (cs := List.replicate 64 (u8 0)) (ys := x.map u8) (cs' := x.map u8) (l' := bx xb (x.map u8) :: rowE ov (done ++ rest) :: bx rb [rv] :: pt lr (.loop (mixR (rangeAB Tryd.f127) fn T D .ready none)) :: E) rfl H2 rfl (v := .agg (x.map u8).toArray) f45 rfl (by rw [List.length_map, hx]; exact sz196) (by simp only [ones, List.all_eq_true, List.mem_map]; rintro _ ⟨x, _, rfl⟩; rfl) (by simp [hx]) (splice_all (by simp [hx])) rfl ?_)
    intro W3 H3
    refine LR_nil ⟨rfl, xb, f11, rfl, ?_⟩
    rw [cel8]
    exact H3.perm (List.perm_middle (l₁ := [rowE ov (done ++ rest), bx rb [rv], pt lr (.loop (mixR (rangeAB Tryd.f127) fn T D .ready none))])).symm
  refine wpIn_mono (hA a0 ha0) ?_
  rintro e a W1 ⟨⟨hsz, hdf⟩, rfl, xb, g11, g13, H1⟩
  show ∃ w₂, _ ∧ _
  refine ⟨_, run_beginRound (H1.get (k := 2) rfl) rfl, wpIn_any_n (ro := some lr) ?_⟩
  have H2 := H1.putObj (k := 2) (ob' := .loop { mixR (rangeAB Tryd.f127) fn T D .ready none with state := .busy }) rfl
  revert H2
  generalize W1.putObj lr (.loop { mixR (rangeAB Tryd.f127) fn T D .ready none with state := .busy }) = W2
  intro H2
  have H2 : Own w0 (fun _ => False) W2 (rowE ov (done ++ rest) :: bx rb [rv] :: pt lr (.loop (mixR (rangeAB Tryd.f127) fn T D .busy none)) :: bx xb (cel E8 x) :: E) := H2
  refine wpIn_mono (Q := liftD [] 70 fun e f W => ∃ rv', (rest.length ≤ 64 ∧ e = .exit 0 ∧ Own w0 (fun _ => False) W (rowE ov (done ++ xorL rest x) :: bx rb [rv'] :: pt lr (.loop (mixR (rangeAB Tryd.f127) fn T D .busy none)) :: bx xb (cel E8 x) :: E)) ∨
    (64 < rest.length ∧ e = .normal ∧ Sub ov rv' (done.length + 64) (rest.length - 64) ∧ Own w0 (fun _ => False) W (rowE ov (done ++ xorL (rest.take 64) x ++ rest.drop 64) :: bx rb [rv'] :: pt lr (.loop (mixR (rangeAB Tryd.f127) fn T D .busy none)) :: bx xb (cel E8 x) :: E))) ?_ ?_
  · have hlen : rest.length ≤ maxLen := by obtain ⟨_, c, _, h1, h2, _⟩ := hs.is; omega
    have hml : maxLen = 9223372036854775807 := by decide
    have hone : (subv 1 rv 0 0).oneCell' = true := by obtain ⟨_, _, rfl, _⟩ := hs.is; rfl
    obtain ⟨n, hn⟩ : ∃ n, n = min 64 rest.length := ⟨_, rfl⟩
    refine (show CR (some lr) [] Tryd.prog 70 (rangeAB Tryd.f127).2 _ (fr a) W2 from ?_) a ⟨hsz, hdf, rfl⟩
    revert g11 g13
    generalize fr a = f
    intro g11 g13
    refine CR_block ?_
    refine CR_seq (CR_region rfl ?_)
    refine LR_op (o_load Tryd.underlying22 rfl (ad := ⟨rb, 0, none⟩) g11 (H2.bxCell (k := 1) rfl 0 rfl) ?_)
    refine LR_op (o_lenSl Tryd.underlying22 rfl hs.is ?_)
    refine LR_op (o_minI (a := 64) (b := rest.length) rfl rfl ?_)
    refine LR_op (o_assignE (v := .int .i64 n) (congrArg (Value.int .i64) (by unfold minI; split <;> omega)) ?_)
    refine LR_nil (CR_seq (CR_seq (CR_region rfl ?_)))
    refine LR_op (o_moveE (v := .int .i64 n) rfl ?_)
    refine LR_op (o_moveE (v := .int .i64 (0 : Nat)) rfl ?_)
    refine LR_nil (CR_block ?_)
    let J : Nat → Fr → World → Prop := fun k f W => ∃ i, i + k = n ∧ f 11 = .pointer (some ⟨rb, 0, none⟩) ∧ f 13 = .pointer (some ⟨xb, 0, none⟩) ∧ f 14 = .int .i64 n ∧ f 49 = .int .i64 n ∧ f 50 = .int .i64 i ∧
      Own w0 (fun _ => False) W (rowE ov (curL done rest x i) :: bx rb [rv] :: pt lr (.loop (mixR (rangeAB Tryd.f127) fn T D .busy none)) :: bx xb (cel E8 x) :: E)
    refine CR_loop J n ⟨0, by omega, g11, g13, rfl, rfl, rfl, by rw [curL_zero]; exact H2⟩ ?_
    clear g11 g13
    rintro k f W ⟨i, hik, g11, g13, g14, g49, g50, HW⟩
    refine CR_seq (CR_region rfl ?_)
    refine LR_op (o_lss g50 g49 ?_)
    by_cases hi : i < n
    · refine LR_nil (CR_seq (CR_cond (b := decide ((i : Int) < n)) rfl (fun _ => CR_skip ?_) (fun h => by simp at h; omega)))
      refine CR_seq (CR_block (CR_seq (CR_region rfl ?_)))
      refine LR_op (o_moveE (v := .int .i64 i) g50 ?_)
      refine LR_op (o_assignE (v := .int .i64 i) rfl ?_)
      refine LR_nil ?_
      have hcl : (curL done rest x i).length = done.length + rest.length := curL_len (by omega) (by omega)
      refine reg15 (jx := 3) (rb := rb) (xb := xb) (rv := rv) (ov := ov) (out := curL done rest x i) (x := x) (d := done.length) (i := i) (n := rest.length) rfl rfl rfl rfl rfl rfl rfl rfl rfl rfl rfl (by kernel_rfl) (by kernel_rfl) rfl rfl rfl HW g11 g13 rfl hs (by omega) (by omega) (by omega) hx ?_
      intro f' W' hf HW'
      have e1 : (curL done rest x i)[done.length + i]'(by omega) = rest[i]'(by omega) := by
        have := curL_get (d := done) (x := x) (rest := rest) (i := i) (by omega) (by omega)
        exact (List.getElem?_eq_some_iff.1 this).2
      have e2 := curL_succ (d := done) (x := x) (rest := rest) (i := i) (by omega) (by omega)
      rw [e1, ← e2] at HW'
      have q50 : f' 50 = .int .i64 i := (hf 50 (by omega)).trans g50
      refine CR_region rfl ?_
      refine LR_op (o_add (a := i) (b := 1) q50 rfl ?_)
      refine LR_op (o_moveE (v := .int .i64 (i + 1 : Nat)) (congrArg (Value.int .i64) (w64_succ (by omega))) ?_)
      refine LR_nil ⟨k - 1, by omega, i + 1, by omega, (hf 11 (by omega)).trans g11, (hf 13 (by omega)).trans g13, (hf 14 (by omega)).trans g14, (hf 49 (by omega)).trans g49, rfl, HW'⟩
    · refine LR_nil (CR_seq (CR_cond (b := decide ((i : Int) < n)) rfl (fun h => by simp at h; omega) (fun _ => CR_exit ?_)))
      have hin : i = n := by omega
      subst hin
      refine CR_seq (CR_region rfl ?_)
      refine LR_op (o_load Tryd.underlying22 rfl (ad := ⟨rb, 0, none⟩) g11 (HW.bxCell (k := 1) rfl 0 rfl) ?_)
      refine LR_op (o_moveE (v := .int .i64 i) g14 ?_)
      refine LR_op (o_slice (a := i) (b := rest.length) Tryd.underlying22 sz5 rfl hs.is (.inr ⟨_, rfl, _, rfl⟩) (.inl ⟨rfl, rfl⟩) (by omega) (by omega) ?_)
      refine LR_do (o_store (k := 1) (g := rb) (off := 0) (cs := [rv]) (ys := [subv 1 rv i rest.length]) (cs' := [subv 1 rv i rest.length]) (l' := rowE ov (curL done rest x i) :: bx rb [subv 1 rv i rest.length] :: pt lr (.loop (mixR (rangeAB Tryd.f127) fn T D .busy none)) :: bx xb (cel E8 x) :: E) rfl HW g11 (v := subv 1 rv i rest.length) rfl (by obtain ⟨_, _, rfl, _⟩ := hs.is; rfl) sz22 (by obtain ⟨_, _, rfl, _⟩ := hs.is; rfl) (by simp) (splice_all (by simp)) rfl ?_)
      intro W5 H5
      refine LR_nil (CR_seq (CR_region rfl ?_))
      have hsub := hs.sub (k := i) (by omega)
      refine LR_op (o_load Tryd.underlying22 rfl (ad := ⟨rb, 0, none⟩) g11 (H5.bxCell (k := 1) rfl 0 rfl) ?_)
      refine LR_op (o_lenSl Tryd.underlying22 rfl hsub.is ?_)
      refine LR_op (o_eql (a := ((rest.length - i : Nat) : Int)) (b := 0) rfl rfl ?_)
      by_cases h64 : rest.length ≤ 64
      · refine LR_nil (CR_cond (b := decide (((rest.length - i : Nat) : Int) = 0)) rfl (fun _ => CR_exit ?_) (fun h => by simp at h; omega))
        refine ⟨subv 1 rv i rest.length, .inl ⟨h64, rfl, ?_⟩⟩
        have : curL done rest x i = done ++ xorL rest x := by
          unfold curL
          rw [List.take_of_length_le (by omega), List.drop_eq_nil_of_le (by omega), List.append_nil]
        rw [this] at H5
        exact H5
      · refine LR_nil (CR_cond (b := decide (((rest.length - i : Nat) : Int) = 0)) rfl (fun h => by simp at h; omega) (fun _ => CR_skip ?_))
        have hi64 : i = 64 := by omega
        rw [hi64] at hsub H5
        refine ⟨subv 1 rv 64 rest.length, .inr ⟨by omega, rfl, hsub, ?_⟩⟩
        have : curL done rest x 64 = done ++ xorL (rest.take 64) x ++ rest.drop 64 := by
          unfold curL
          rw [List.append_assoc]
        rw [this] at H5
        exact H5
  · rintro e a W3 ⟨_, rv', h⟩
    rcases h with ⟨h1, rfl, h2⟩ | ⟨h1, rfl, h2, h3⟩
    · refine ⟨_, _, run_endRound (some (.exit 0)) (h2.get (k := 2) rfl), rv', .inl ⟨h1, rfl, ?_⟩⟩
      have := h2.putObj (k := 2) (ob' := .loop (mixR (rangeAB Tryd.f127) fn T D .done (some (.exit 0)))) rfl
      exact this.sub (.cons_cons _ (.cons_cons _ (.cons_cons _ (.cons _ (.refl _)))))
    · refine ⟨_, _, run_endRound none (h3.get (k := 2) rfl), rv', .inr ⟨h1, rfl, h2, ?_⟩⟩
      have := h3.putObj (k := 2) (ob' := .loop (mixR (rangeAB Tryd.f127) fn T D .ready none)) rfl
      exact this.sub (.cons_cons _ (.cons_cons _ (.cons_cons _ (.cons _ (.refl _)))))
theorem o_convI {P : Program} {S T ty : TypeId} {d k k' : IntKind} {x : Operand} {n : Int} {f : Fr} {w : World} {K : Value → World → Prop} (hs : P.underlying S = some (.int d)) (ht : P.underlying T = some (.int k)) (hx : ev f x = .int k' n) (h : K (.int k (k.wrap n)) w) : OpW P (.convert S T x) ty f w K := by
  refine .of_run (v := .int k (k.wrap n)) (w' := w) ?_ h
  have hc : (convert S T (.int k' n)).run P w = .ok (.int k (k.wrap n)) w := by
    unfold convert
    simp only [Sem.run_bind, run_und hs, run_und ht, Result.andThen_ok]
    cases d <;> rfl
  simp only [execOp, bare, hx, Sem.run_bind, hc, Result.andThen_ok, Sem.run_pure]
theorem o_makeF {P : Program} {ty : TypeId} {g : Nat} {caps : Array Operand} {vs : Array Value} {f : Fr} {w : World} {K : Value → World → Prop} (hc : caps.map (ev f) = vs) (h : K (.func (.func g) #[] vs) w) : OpW P (.makeFunc (.func g) #[] caps) ty f w K := by
  subst hc
  exact .of_run (v := .func (.func g) #[] (caps.map (ev f))) (w' := w) (by simp [execOp, bare, Instr.makeFunc]) h
abbrev RB (w : World) (v : Value) (xs : List UInt8) : Prop := RSl (Ty.u8).rty (fun _ => True) w v xs
theorem RB.at {w0 w : World} {l : List Ent} {v : Value} {xs : List UInt8} (h : RB w0 v xs) (H : Own w0 (fun _ => False) w l) {Z : Nat → Prop} (hz : ∀ x, x < w0.heap.size → Z x) : RSl (Ty.u8).rty Z w v xs :=
  h.go fun b hb _ => ⟨hz b hb, H.old b hb (fun h => h)⟩
theorem blocks_calls (nf : Nat) {ks ns : List UInt8} {g : List UInt32} {n : UInt32} (hf : (F_cipher_begun nf false ks false ns).run = some (g, true)) {k m : Value} {w0 w : World} {l : List Ent} (hk : RB w0 k ks) (hm : RB w0 m ns) (H : Own w0 (fun _ => False) w l) (hw : ∀ p ∈ gl, globF (fun _ => True) w0 p) :
    Calls Tryd.prog 161 #[k, m, u32 n] w (Ret fun v W => g.length = 16 ∧ ∃ gb fb okb, v = .func (.func 187) #[] #[ptrV gb, ptrV fb, ptrV okb] ∧ Own w0 (fun _ => False) W (bx gb (g.map u32) :: bx fb [u32 n] :: bx okb [.bool true] :: l)) := by
  refine callsIn_wide (n := 3).1 ?_
  let Rf : Value → World → Prop := fun v W => g.length = 16 ∧ ∃ gb fb okb, v = .func (.func 187) #[] #[ptrV gb, ptrV fb, ptrV okb] ∧ Own w0 (fun _ => False) W (bx gb (g.map u32) :: bx fb [u32 n] :: bx okb [.bool true] :: l)
  refine callsIn_of_wp (F := RF none) (n := 3) Tryd.func161 rfl trivial (wpIn_mono (Q := liftD [] 16 fun e f W => e = .ret ∧ Rf (f 6) W) ?_ ?_)
  rotate_left
  · rintro e a w' ⟨⟨h1, h2⟩, rfl, h4⟩
    exact ⟨h2, fr a 6, by simp [results, Tryd.f161, fr], h4⟩
  have good : GoodD [] 16 (frame0 #[k, m, u32 n]) { tmps := #[k, m, u32 n] ++ Array.replicate (16 - 3) undef, defers := [] } := by
    have := good_enter 16 #[k, m, u32 n] (Nat.le_of_ble_eq_true rfl)
    exact ⟨this.size, this.defers, this.eq⟩
  refine (show CR none [] Tryd.prog 16 (codeOf Tryd.f161) (fun e f W => e = .ret ∧ Rf (f 6) W) (frame0 _) w from ?_) _ good
  refine CR_seq (CR_region rfl ?_)
  refine LR_op (o_box (v := u32 n) (cs := [u32 n]) rfl rfl H ?_)
  intro fb W1 H1
  refine LR_op (o_assignE rfl (LR_nil ?_))
  refine CR_seq (CR_region rfl ?_)
  refine LR_op (o_moveE (v := k) rfl ?_)
  refine LR_op (o_moveE (v := m) rfl ?_)
  have hS : S_cipher_begun nf [.ro false .u8 ks, .ro false .u8 ns] [] 0 = .sub (F_cipher_begun nf false ks false ns) fun r => .ret (.tup (.pr (.val (.arr 16 .u32) r.1) (.pr (.val .bool r.2) .un)), [], 0) := by kernel_rfl
  have hr : (S_cipher_begun nf [.ro false .u8 ks, .ro false .u8 ns] [] 0).Runs fun r => r = (.tup (.pr (.val (.arr 16 .u32) g) (.pr (.val .bool true) .un)), [], 0) := by
    rw [hS]
    show (F_cipher_begun nf false ks false ns).Runs fun y => (_, _, _) = _
    exact (Tree.runs_run hf).2 rfl
  have hc := (ok_cipher_begun nf).use hr H1 hw (vs := [k, m]) fun ν Z hz => ⟨⟨k, rfl, hk.at H1 hz, fun h => by cases h⟩, ⟨m, rfl, hm.at H1 hz, fun h => by cases h⟩, trivial⟩
  refine LR_op (o_call (args := #[k, m]) rfl Tryd.func186 rfl (args2 rfl rfl) hc ?_)
  rintro v W2 ⟨H2, ν, b, Z, hv⟩
  obtain ⟨hg, rfl⟩ : g.length = 16 ∧ v = .tuple #[.agg (g.map u32).toArray, .bool true] := by
    obtain ⟨vs, rfl, v1, vs1, rfl, h1, v2, vs2, rfl, h2, rfl⟩ := hv
    obtain ⟨cs, rfl, h3⟩ := h1
    obtain ⟨h4, rfl⟩ := of32 h3
    have h5 : v2 = .bool true := List.head_eq_of_cons_eq (show [v2] = [_] from h2)
    exact ⟨h4, by rw [h5]⟩
  refine LR_op (o_moveE rfl ?_)
  refine LR_op (o_extract rfl rfl ?_)
  refine LR_op (o_extract rfl rfl ?_)
  refine LR_op (o_alloc zr238 (cs := List.replicate 16 (u32 0)) (by simp [Value.cells]) H2 ?_)
  intro gb W3 H3
  refine LR_op (o_alloc zr4 (cs := [.bool false]) rfl H3 ?_)
  intro okb W4 H4
  refine LR_do (o_store (k := 1) (g := gb) (off := 0) (cs := List.replicate 16 (u32 0)) (ys := g.map u32) (cs' := g.map u32) (l' := bx okb [.bool false] :: bx gb (g.map u32) :: bx fb [u32 n] :: l) rfl H4 rfl (v := .agg (g.map u32).toArray) rfl rfl (by rw [List.length_map, hg]; exact sz238) (by simp only [ones, List.all_eq_true, List.mem_map]; rintro _ ⟨x, _, rfl⟩; rfl) (by simp [hg]) (splice_all (by simp [hg])) rfl ?_)
  intro W5 H5
  refine LR_do (o_store (k := 0) (g := okb) (off := 0) (cs := [.bool false]) (ys := [.bool true]) (cs' := [.bool true]) (l' := bx okb [.bool true] :: bx gb (g.map u32) :: bx fb [u32 n] :: l) rfl H5 rfl (v := .bool true) rfl rfl sz4 rfl (by simp) (splice_all (by simp)) rfl ?_)
  intro W6 H6
  refine LR_nil (CR_seq (CR_region rfl ?_))
  refine LR_op (o_makeF (vs := #[ptrV gb, ptrV fb, ptrV okb]) (args3 rfl rfl rfl) ?_)
  refine LR_op (o_assignE rfl (LR_nil (CR_ret ⟨rfl, hg, gb, fb, okb, rfl, ?_⟩)))
  exact H6.perm (List.perm_middle (l₁ := [bx gb (g.map u32), bx fb [u32 n]])).symm
section
variable {ro : Option Nat} {D : List Deferred} {P : Program} {n : Nat} {Q : Exit → Act → World → Prop} {f : Fr} {w : World}
theorem yieldsD {a : Act} {ops : Array Oper} (ha : GoodD D n f a) {j dj : Nat} (hj : (ops[j]?).bind (·.dst) = some dj) {b : Bool} (hv : f dj = .bool b) : yielded ops a.tmps j = some b := by
  have h1 : a.tmps.getD dj undef = .bool b := by have := congrFun ha.eq dj; simp only [fr] at this; rw [this, hv]
  have h2 : a.tmps[dj]? = some (.bool b) := by
    rw [Array.getD_eq_getD_getElem?] at h1
    cases h3 : a.tmps[dj]? with
    | none => rw [h3] at h1; simp [undef] at h1
    | some v => rw [h3] at h1; simp at h1; rw [h1]
  simp [yielded, hj, h2]
theorem LR_on {ops : Array Oper} {Q : Post} {l : List Oper} {d j dj : Nat} {b : Bool} {op : Op} {ty : TypeId} {pos : String} {af : Array Edge} (hj : (ops[j]?).bind (·.dst) = some dj) (hv : f dj = .bool b)
    (h : OpW P op ty f w fun v w' => LR ro D P n ops Q l (upd f d v) w') (hd : notDefer (bare op ty) = true := by rfl) : LR ro D P n ops Q (⟨some d, op, ty, pos, af, some (j, b)⟩ :: l) f w := by
  intro hb a ha
  have hw' : Region.wanted (⟨some d, op, ty, pos, af, some (j, b)⟩ : Oper) (yielded ops a.tmps) = true := by simp [Region.wanted, yieldsD ha hj hv]
  simp only [wpListIn, hw', if_true]
  refine OpW.wpIn (o := ⟨some d, op, ty, pos, af, some (j, b)⟩) hd ha h ?_
  intro v w' hl
  exact hl (bnd_cons hb).2 _ (ha.put (some d) (bnd_cons hb).1 v)
theorem LR_off {ops : Array Oper} {Q : Post} {l : List Oper} {d j dj : Nat} {b : Bool} {op : Op} {ty : TypeId} {pos : String} {af : Array Edge} (hj : (ops[j]?).bind (·.dst) = some dj) (hv : f dj = .bool (!b))
    (h : LR ro D P n ops Q l (upd f d undef) w) : LR ro D P n ops Q (⟨some d, op, ty, pos, af, some (j, b)⟩ :: l) f w := by
  intro hb a ha
  have : Region.wanted (⟨some d, op, ty, pos, af, some (j, b)⟩ : Oper) (yielded ops a.tmps) = false := by
    simp [Region.wanted, yieldsD ha hj hv]
  simp only [wpListIn, this, if_false, Bool.false_eq_true]
  exact ⟨fun _ _ => trivial, h (bnd_cons hb).2 _ (ha.put (some d) (bnd_cons hb).1 undef)⟩
def QD (D : List Deferred) (n : Nat) (Q : Exit → Act → World → Prop) : Post := fun e f w => ∀ a, GoodD D n f a → Q e a w
theorem CR.raw {c : Code} {a : Act} (h : CR ro D P n c (QD D n Q) f w) (ha : GoodD D n f a) : c.wpIn (RF ro) 3 P Q a w :=
  wpIn_mono (h a ha) fun e a' w' ⟨h1, h2⟩ => h2 a' ⟨h1.1, h1.2, rfl⟩
theorem raw_seq {x y : Code} (h : CR ro D P n x (thenQ (fun f w => ∀ a, GoodD D n f a → y.wpIn (RF ro) 3 P Q a w) (QD D n Q)) f w) : ∀ a, GoodD D n f a → (Code.seq x y).wpIn (RF ro) 3 P Q a w := by
  intro a ha
  refine wpIn_seq (wpIn_mono (h a ha) ?_)
  intro e a' w' ⟨h1, h2⟩
  cases e <;> exact h2 a' ⟨h1.1, h1.2, rfl⟩
end
theorem mix_calls {ks ns bs : List UInt8} {n : UInt32} {r : List UInt8 × Int} (hr : mixI ks ns n bs = some r) {k m x : Value} {w : World} (hk : RB w k ks) (hm : RB w m ns) (hx : RB w x bs) (hw : ∀ p ∈ gl, globF (fun _ => True) w p) :
    Calls Tryd.prog 127 #[k, m, u32 n, x] w (Ret fun v W => ∃ v1, v = .tuple #[v1, .int .i64 r.2] ∧ Own w (fun _ => False) W [rowE v1 r.1]) := by
  refine callsIn_wide (n := 3).1 ?_
  let Rf : Ending → World → Prop := Ret fun v W => ∃ v1, v = .tuple #[v1, .int .i64 r.2] ∧ Own w (fun _ => False) W [rowE v1 r.1]
  refine callsIn_of_wp_marks (F := RF none) (n := 3) Tryd.func127 rfl trivial ?_ rfl
  let Qb : Exit → Act → World → Prop := bodyPostM (RF none) 3 Tryd.prog Tryd.f127 Rf
  have good : GoodD [] 70 (frame0 #[k, m, u32 n, x]) { tmps := #[k, m, u32 n, x] ++ Array.replicate (70 - 4) undef, defers := [] } := by
    have := good_enter 70 #[k, m, u32 n, x] (Nat.le_of_ble_eq_true rfl)
    exact ⟨this.size, this.defers, this.eq⟩
  refine (show ∀ a, GoodD [] 70 (frame0 #[k, m, u32 n, x]) a → (codeOf Tryd.f127).wpIn (RF none) 3 Tryd.prog Qb a w from ?_) _ good
  have out0 : ∀ (v1 : Value) (f : Fr) (W : World), f 8 = v1 → f 9 = .int .i64 r.2 → Own w (fun _ => False) W [rowE v1 r.1] → QD [] 70 Qb .ret f W := by
    intro v1 f W h8 h9 hW a ha
    show LeavesInM _ _ _ _ _ _ a.defers .returning W
    rw [ha.defers]
    refine ⟨.tuple #[v1, .int .i64 r.2], ?_, v1, rfl, hW⟩
    rw [← ha.eq] at h8 h9
    rw [← h8, ← h9]
    simp [results, Tryd.f127, fr]
  have nilOwn : r.1 = [] → Own w (fun _ => False) w [rowE (.slice none 0 0) r.1] := by
    intro h; rw [h]; exact (Own.start w _).nilRow 1 ⟨_, rfl⟩
  have hmx : maxLen = 9223372036854775807 := by decide
  have lk : ks.length ≤ maxLen := by obtain ⟨_, _, _, h1, h2, _⟩ := hk.is; omega
  have lm : ns.length ≤ maxLen := by obtain ⟨_, _, _, h1, h2, _⟩ := hm.is; omega
  have lx : bs.length ≤ maxLen := by obtain ⟨_, _, _, h1, h2, _⟩ := hx.is; omega
  unfold mixI at hr
  refine raw_seq (CR_region rfl ?_)
  refine LR_op (o_assignE rfl (LR_op (o_assignE rfl (LR_nil ?_))))
  refine raw_seq (CR_seq (CR_region rfl ?_))
  refine LR_op (o_moveE (v := k) rfl ?_)
  refine LR_op (o_lenSl Tryd.underlying22 rfl hk.is ?_)
  refine LR_op (o_neq (a := ks.length) (b := 32) rfl rfl ?_)
  refine LR_op (o_moveE (v := .bool (!decide ((ks.length : Int) = 32))) rfl ?_)
  by_cases hk32 : ks.length = 32
  rotate_left
  · rw [if_pos (.inl hk32)] at hr
    cases hr
    have e1 : (!decide ((ks.length : Int) = 32)) = true := by simp; omega
    refine LR_off (dj := 19) (b := false) rfl (congrArg Value.bool e1) ?_
    refine LR_off (dj := 19) (b := false) rfl (congrArg Value.bool e1) ?_
    refine LR_off (dj := 19) (b := false) rfl (congrArg Value.bool e1) ?_
    refine LR_op (o_pickE (b := true) (v := .bool true) (congrArg Value.bool e1) rfl (LR_nil ?_))
    refine CR_cond (b := true) rfl (fun _ => ?_) (fun h => by cases h)
    refine CR_seq (CR_region rfl (LR_op (o_assignE rfl (LR_op (o_assignE rfl (LR_nil (CR_ret ?_)))))))
    exact out0 _ _ _ rfl rfl (nilOwn rfl)
  have e1 : (!decide ((ks.length : Int) = 32)) = false := by simp; omega
  refine LR_on (dj := 19) (b := false) rfl (congrArg Value.bool e1) (o_moveE (v := m) rfl ?_)
  refine LR_on (dj := 19) (b := false) rfl (congrArg Value.bool e1) (o_lenSl Tryd.underlying22 rfl hm.is ?_)
  refine LR_on (dj := 19) (b := false) rfl (congrArg Value.bool e1) (o_neq (a := ns.length) (b := 12) rfl rfl ?_)
  refine LR_op (o_pickE (b := false) (v := .bool (!decide ((ns.length : Int) = 12))) (congrArg Value.bool e1) rfl (LR_nil ?_))
  by_cases hn12 : ns.length = 12
  rotate_left
  · rw [if_pos (.inr hn12)] at hr
    cases hr
    have e2 : (!decide ((ns.length : Int) = 12)) = true := by simp; omega
    refine CR_cond (b := true) (congrArg Value.bool e2) (fun _ => ?_) (fun h => by cases h)
    refine CR_seq (CR_region rfl (LR_op (o_assignE rfl (LR_op (o_assignE rfl (LR_nil (CR_ret ?_)))))))
    exact out0 _ _ _ rfl rfl (nilOwn rfl)
  rw [if_neg (by omega)] at hr
  have e2 : (!decide ((ns.length : Int) = 12)) = false := by simp; omega
  refine CR_cond (b := false) (congrArg Value.bool e2) (fun h => by cases h) (fun _ => CR_skip ?_)
  refine raw_seq (CR_seq (CR_region rfl ?_))
  have hn := n.toNat_lt
  refine LR_op (o_moveE (v := x) rfl ?_)
  refine LR_op (o_lenSl Tryd.underlying22 rfl hx.is ?_)
  refine LR_op (o_convI Tryd.underlying3 Tryd.underlying138 rfl ?_)
  refine LR_op (o_moveE (v := u32 n) rfl ?_)
  refine LR_op (o_convI Tryd.underlying135 Tryd.underlying138 rfl ?_)
  refine LR_op (o_sub (a := 4294967296) (b := IntKind.u64.wrap n.toNat) rfl rfl ?_)
  refine LR_op (o_mul (a := IntKind.u64.wrap (4294967296 - IntKind.u64.wrap n.toNat)) (b := 64) rfl rfl ?_)
  refine LR_op (o_gtr (a := IntKind.u64.wrap bs.length) (b := IntKind.u64.wrap (IntKind.u64.wrap (4294967296 - IntKind.u64.wrap n.toNat) * 64)) rfl rfl ?_)
  have e3 : decide (IntKind.u64.wrap (IntKind.u64.wrap (4294967296 - IntKind.u64.wrap n.toNat) * 64) < IntKind.u64.wrap bs.length) = decide ((4294967296 - n.toNat) * 64 < bs.length) := by
    have w1 : ∀ z : Int, 0 ≤ z → z < 18446744073709551616 → IntKind.u64.wrap z = z := fun z h1 h2 => by
      show z % 18446744073709551616 = z
      omega
    rw [w1 n.toNat (by omega) (by omega), w1 (4294967296 - (n.toNat : Int)) (by omega) (by omega), w1 ((4294967296 - (n.toNat : Int)) * 64) (by omega) (by omega), w1 bs.length (by omega) (by omega)]
    exact decide_eq_decide.2 (by omega)
  refine LR_nil ?_
  by_cases hlong : (4294967296 - n.toNat) * 64 < bs.length
  · rw [if_pos hlong] at hr
    cases hr
    refine CR_cond (b := true) (congrArg Value.bool (e3.trans (decide_eq_true hlong))) (fun _ => ?_) (fun h => by cases h)
    refine CR_seq (CR_region rfl (LR_op (o_assignE rfl (LR_op (o_assignE rfl (LR_nil (CR_ret ?_)))))))
    exact out0 _ _ _ rfl rfl (nilOwn rfl)
  rw [if_neg hlong] at hr
  refine CR_cond (b := false) (congrArg Value.bool (e3.trans (decide_eq_false hlong))) (fun h => by cases h) (fun _ => CR_skip ?_)
  refine raw_seq (CR_region rfl ?_)
  refine LR_op (o_slice0 el22 (Own.start w (fun _ => False)) ?_)
  intro v0 W0 hv0 H0
  refine LR_op (o_moveE (v := x) rfl ?_)
  refine LR_op (o_append0 (E := E8) el22 hv0 H0 rfl rfl (rsl_enc (hx.at H0 (Z := fun _ => True) fun _ _ => trivial)) (by simp; omega) rfl ?_)
  intro ov W1 H1
  refine LR_op (o_assignE rfl (LR_nil ?_))
  refine raw_seq (CR_region rfl ?_)
  refine LR_op (o_moveE (v := ov) rfl ?_)
  refine LR_op (o_alloc zr22 (cs := [.slice none 0 0]) rfl H1 ?_)
  intro rb W2 H2
  have ho := H1.rowIs (k := 0) rfl
  have hone : ov.cells.toList = [ov] := by obtain ⟨_, _, rfl, _⟩ := ho; rfl
  refine LR_do (o_store (k := 0) (g := rb) (off := 0) (cs := [.slice none 0 0]) (ys := [ov]) (cs' := [ov]) (l' := [bx rb [ov], rowE ov bs]) rfl H2 rfl (v := ov) rfl hone sz22 (by obtain ⟨_, _, rfl, _⟩ := ho; rfl) (by simp) (splice_all (by simp)) rfl ?_)
  intro W3 H3
  refine LR_nil (raw_seq (CR_seq (CR_region rfl ?_)))
  refine LR_op (o_load Tryd.underlying22 rfl (ad := ⟨rb, 0, none⟩) rfl (H3.bxCell (k := 0) rfl 0 rfl) ?_)
  refine LR_op (o_lenSl Tryd.underlying22 rfl ho ?_)
  refine LR_op (o_eql (a := (bs.length : Int)) (b := 0) rfl rfl (LR_nil ?_))
  by_cases hbs : bs = []
  · rw [if_pos hbs] at hr
    cases hr
    refine CR_cond (b := true) (congrArg Value.bool (by rw [hbs]; rfl)) (fun _ => ?_) (fun h => by cases h)
    refine CR_seq (CR_region rfl (LR_op (o_moveE (v := ov) rfl (LR_op (o_assignE rfl (LR_op (o_assignE rfl (LR_nil (CR_ret ?_)))))))))
    refine out0 ov _ _ rfl rfl ?_
    have := H3.sub (l' := [rowE ov bs]) (List.sublist_cons_self _ _)
    rw [hbs] at this
    exact this
  rw [if_neg hbs] at hr
  have hb0 : bs.length ≠ 0 := by simpa using hbs
  refine CR_cond (b := false) (congrArg Value.bool (decide_eq_false (by omega))) (fun h => by cases h) (fun _ => CR_skip ?_)
  obtain ⟨g, hg, hr⟩ := bindE hr
  obtain ⟨g, ok⟩ := g
  cases ok with
  | false => cases hr
  | true =>
  obtain ⟨out, hout, rfl⟩ := Option.map_eq_some_iff.1 hr
  intro a ha
  refine wpIn_seq ?_
  refine raw_seq (CR_region rfl ?_) a ha
  refine LR_op (o_moveE (v := k) rfl ?_)
  refine LR_op (o_moveE (v := m) rfl ?_)
  refine LR_op (o_moveE (v := u32 n) rfl ?_)
  refine LR_op (o_call (args := #[k, m, u32 n]) rfl Tryd.func161 rfl (args3 rfl rfl rfl) (blocks_calls 100 hg hk hm H3 hw) ?_)
  rintro v W4 ⟨hg16, gb, fb, okb, rfl, H4⟩
  refine LR_nil ?_
  clear a ha
  intro a ha
  have H5 : Own w (fun _ => False) W4 [rowE ov bs, bx rb [ov], bx gb (g.map u32), bx fb [u32 n], bx okb [.bool true]] := H4.perm (by
    have h1 : [bx gb (g.map u32), bx fb [u32 n], bx okb [.bool true], bx rb [ov], rowE ov bs].Perm ([rowE ov bs, bx rb [ov]] ++ [bx gb (g.map u32), bx fb [u32 n], bx okb [.bool true]]) :=
      (List.perm_append_comm (l₁ := [bx gb (g.map u32), bx fb [u32 n], bx okb [.bool true]]) (l₂ := [bx rb [ov], rowE ov bs])).trans ((List.Perm.swap _ _ _))
    exact h1)
  have e11 : a.tmps.getD 11 undef = .pointer (some ⟨rb, 0, none⟩) := congrFun ha.eq 11
  have e43 : fr a 43 = .func (.func 187) #[] #[ptrV gb, ptrV fb, ptrV okb] := congrFun ha.eq 43
  have e10 : fr a 10 = ov := congrFun ha.eq 10
  refine wpIn_block (wpIn_rangeFunc ?_)
  intro fn _
  let W5 : World := (W4.alloc (.deferred (some []))).alloc (.loop (mixR (rangeAB Tryd.f127) fn a.tmps W4.heap.size .ready none))
  have H6 := (H5.alloc (.deferred (some []))).alloc (.loop (mixR (rangeAB Tryd.f127) fn a.tmps W4.heap.size .ready none))
  rw [World.size_alloc] at H6
  have H7 : Own w (fun _ => False) W5 (rowE ov ([] ++ bs) :: bx rb [ov] :: pt (W4.heap.size + 1) (.loop (mixR (rangeAB Tryd.f127) fn a.tmps W4.heap.size .ready none)) :: bx gb (g.map u32) :: bx fb [u32 n] :: bx okb [.bool true] :: [pt W4.heap.size (.deferred (some []))]) :=
    H6.perm (((List.perm_append_comm (l₁ := [pt W4.heap.size (.deferred (some []))]) (l₂ := [rowE ov bs, bx rb [ov], bx gb (g.map u32), bx fb [u32 n], bx okb [.bool true]])).cons _).trans (List.perm_middle (l₁ := [rowE ov bs, bx rb [ov]])).symm)
  refine ⟨W4.heap.size + 1, [{ target := .collected W4.heap.size, args := #[] }], W5, { target := .fn (.func 187) #[ptrV gb, ptrV fb, ptrV okb], args := #[.func (.yield (W4.heap.size + 1)) #[] #[]] }, W5, 187,
    #[.func (.yield (W4.heap.size + 1)) #[] #[], ptrV gb, ptrV fb, ptrV okb], W5, ?_, ?_, ?_, ?_, fun _ => by omega, callsRF ((iterTryd (roundsTryd ha.size e11) hw (done := []) (rest := bs) (c := n) hg16 hbs ⟨ho, fun i _ => by rw [List.length_nil, Nat.zero_add]⟩ hout H7).mono ?_)⟩
  · exact run_enterLoop_outer _ _ _ _ _
  · rw [eval_fr]
    simp [resolve, go_sem, ev, e43]
  · intro f' hf'; trivial
  · simp [invoke, go_sem]
  · intro e W6 he
    cases e with
    | panicked _ => exact he.elim
    | outgrown => exact he.elim
    | returned v =>
    obtain ⟨rv', H8⟩ := he
    have hend := run_endLoop (P := Tryd.prog) (H8.get (k := 2) rfl) (by simp [mixR])
    have H9 := H8.putObj (k := 2) (ob' := .loop { mixR (rangeAB Tryd.f127) fn a.tmps W4.heap.size .done (some (.exit 0)) with state := .exhausted }) rfl
    refine ⟨some (.exit 0), _, hend, wpIn_exit ?_⟩
    revert H9
    generalize W6.putObj (W4.heap.size + 1) (.loop { mixR (rangeAB Tryd.f127) fn a.tmps W4.heap.size .done (some (.exit 0)) with state := .exhausted }) = W7
    intro H9
    refine raw_seq (ro := none) (D := [{ target := .collected W4.heap.size, args := #[] }]) (n := 70) (f := fr a) (Q := Qb) ?_ _ ⟨ha.size, by simp [ha.defers], rfl⟩
    refine CR_region rfl (LR_op (o_moveE (v := ov) e10 (LR_op (o_assignE rfl (LR_op (o_assignE rfl (LR_nil ?_)))))))
    intro a2 ha2
    refine CR.raw (ro := none) (CR_ret ?_) ha2
    intro a3 ha3
    show LeavesInM _ _ _ _ _ _ a3.defers .returning W7
    rw [ha3.defers]
    refine ⟨by simp, .inl ⟨_, _, rfl, run_takeDeferred (H9.get (k := 6) rfl), ?_⟩⟩
    refine ⟨.tuple #[ov, .int .i64 0], ?_, ov, rfl, ?_⟩
    · have h8 : fr a3 8 = ov := congrFun ha3.eq 8
      have h9 : fr a3 9 = .int .i64 0 := congrFun ha3.eq 9
      rw [← h8, ← h9]
      simp [results, Tryd.f127, fr]
    · have := H9.putObj (k := 6) (ob' := .deferred none) rfl
      exact this.sub (.cons_cons _ (List.nil_sublist _))
theorem ok_mix : SoundF Tryd.prog 127 S_mix := by
  intro avs L b R hr B ν w F vs H hs
  unfold S_mix at hr
  split at hr
  · rename_i k m n x
    split at hr
    · rename_i ks ns xs hk hm hx
      match vs, hs with
      | [vk, vm, vn, vx], ⟨h1, h2, h3, h4, _⟩ =>
        obtain ⟨r, hi, hR⟩ : ∃ r, mixI ks ns n xs = some r ∧ R (.tup (.pr (.ro false .u8 r.1) (.pr (.val (.sint .i64) r.2) .un)), L, b) := hr
        have en : vn = u32 n := List.head_eq_of_cons_eq (show [vn] = [_] from h3)
        subst en
        have rb : ∀ {p : AV} {v : Value} {l : List UInt8}, slotR ν b (B.Z (ents ν L ++ F)) w p v → rdSl L .u8 p = some l → RB w v l := by
          intro p v l hv hl
          obtain ⟨v', he, h, _⟩ := lendRo H (Z' := fun _ => True) (fun _ _ _ => trivial) hv hl
          have : v = v' := List.head_eq_of_cons_eq he
          subst this
          exact h
        have hg : ∀ p ∈ gl, globF (fun _ => True) w p := fun p hp => ⟨trivial, (H.glb p hp).2⟩
        refine (mix_calls hi (rb h1 hk) (rb h2 hm) (rb h4 hx) hg).mono fun e w' he => ?_
        cases e with
        | returned v =>
          obtain ⟨v1, rfl, ho⟩ := he
          have hc : Own w (footU (Hyp.pick (ents ν L ++ F) [])) w' [rowE v1 r.1] := ho.wider fun _ h => h.elim
          have hb := H.own.back0 hc
          have hE : Own w (footU (ents ν L ++ F)) w' (ents ν L ++ F) := hb.sub (List.sublist_cons_self _ _)
          have hsl : Sl (B.Z (ents ν L ++ F)) w' v1 r.1.length (cel E8 r.1) := hb.rowSl (k := 0) rfl fun x hx => ⟨fun ⟨e, he, hf⟩ => (List.pairwise_cons.1 hb.sep).1 e he x hx hf, .inr (.inr (B.all x))⟩
          refine ⟨_, hR, ν, ⟨fun _ _ => rfl, Nat.le_refl _, hE, fun e he => (H.fact e he).later ⟨fun _ _ => rfl, Nat.le_refl _, fun x hx hz => TT.now hE hx hz⟩, gnow hE H.glb⟩, ⟨_, rfl, v1, _, rfl, ⟨v1, rfl, enc_rsl hsl, fun h => by cases h⟩, .int .i64 r.2, [], rfl, ?_, rfl⟩⟩
          show [_] = [_]
          rfl
        | panicked _ => exact he.elim
        | outgrown => exact he.elim
    · exact hr.elim
  · exact hr.elim
theorem ok_mixC : CallOK Tryd.prog 127 S_mix := ok_mix.callOK Tryd.func127 (by kernel_rfl)
end Hyp
