/- Operations on maps. -/
import Derived.Test.YtdlbmjbbnplpjaaOd
set_option linter.unusedVariables false
set_option linter.unusedSimpArgs false
namespace Hyp
open Go
/-- As a datum, whole. -/
def asD (t : Ty) (a : AV) : Option t.den := bif (bif a.isAgg then t.isAgg else !t.isAgg) && a.okC then implode t a else none
/-- The types of a map's keys and values, if keys are compared as data. -/
def mapTys (P : Program) (T : TypeId) (kt : Ty) : Option (TypeId × TypeId) := match P.underlying T with
  | some (.map K V) => bif cmpTy P deep K kt then some (K, V) else none
  | _ => none
/-- The nought of a type, as a datum. -/
def zeroD (P : Program) (V : TypeId) (vt : Ty) : Option vt.den := match zeroOf P V with
  | some (az, z) => bif (match z with | .agg _ => vt.isAgg | _ => !vt.isAgg) then implode vt az else none
  | none => none
def lookupT (P : Program) (T : TypeId) (m k : AV) (ok : Bool) (L : List En) : Tree AV := match m with
  | .mpv key => match findE L key with
    | some ⟨_, _, .mp kt vt xs⟩ => match mapTys P T kt, asD kt k with
      | some (_, V), some x => match zeroD P V vt with
        | some z => .ret (bif ok then .tup (.pr (explode vt (mgetD kt vt xs x z)) (.pr (.val .bool (mget kt vt xs x).isSome) .un)) else explode vt (mgetD kt vt xs x z))
        | none => .fail
      | _, _ => .fail
    | _ => .fail
  | _ => .fail
def mapUpdT (P : Program) (T : TypeId) (m k x : AV) (L : List En) (b : Nat) : Tree MR := match m with
  | .mpv key => match findE L key with
    | some ⟨_, _, .mp kt vt xs⟩ => match mapTys P T kt, asD kt k, asD vt x with
      | some _, some k, some y => .ret (.und, setE L key ⟨key, b, .mp kt vt (mput kt vt xs k y)⟩, b + 1)
      | _, _, _ => .fail
    | _ => .fail
  | _ => .fail
def mapDelT (P : Program) (T : TypeId) (m k : AV) (L : List En) (b : Nat) : Tree MR := match m with
  | .mpv key => match findE L key with
    | some ⟨_, _, .mp kt vt xs⟩ => match mapTys P T kt, asD kt k with
      | some _, some k => .ret (.tup .un, setE L key ⟨key, b, .mp kt vt (mdel kt vt xs k)⟩, b + 1)
      | _, _ => .fail
    | _ => .fail
  | _ => .fail
def makeMapT (P : Program) (T : TypeId) (L : List En) (b : Nat) : Tree MR := match P.underlying T with
  | some (.map K V) => match tyOf P deep K, tyOf P deep V with
    | some kt, some vt => .ret (.mpv b, ⟨b, b, .mp kt vt []⟩ :: L, b + 1)
    | _, _ => .fail
  | _ => .fail
def mapLenT (P : Program) (T : TypeId) (m : AV) (L : List En) : Tree AV := match m with
  | .mpv key => match findE L key, P.underlying T with
    | some ⟨_, _, .mp kt vt xs⟩, some (.map _ _) => .ret (numA .i64 ((xs.length : Nat) : Int))
    | _, _ => .fail
  | _ => .fail
def rangeT (P : Program) (T : TypeId) (m : AV) (L : List En) (b : Nat) : Tree MR := match m with
  | .mpv key => match findE L key, P.underlying T with
    | some ⟨_, _, .mp kt vt xs⟩, some (.map _ _) => .ret (.ptr (b + 1) 0, ⟨b + 1, b + 1, .it key b kt vt xs⟩ :: setE L key ⟨key, b, .mp kt vt xs⟩, b + 2)
    | _, _ => .fail
  | _ => .fail
def nextT (it : AV) (L : List En) (b : Nat) : Tree MR := match it with
  | .ptr ik 0 => match findE L ik with
    | some ⟨_, _, .it mk mv kt vt xs⟩ => match findE L mk with
      | some ⟨_, mv', .mp _ _ _⟩ => bif Nat.beq mv mv' then
          .ite xs.isEmpty (.ret (.tup (.pr .ff .un), L, b))
            (.all (fun p : (kt.den × vt.den) × List (kt.den × vt.den) => (p.1 :: p.2).Perm xs) fun p =>
              .ret (.tup (.pr .tt (.pr (explode kt p.1.1) (.pr (explode vt p.1.2) .un))), setE L ik ⟨ik, b, .itc mk mv kt vt p.1.1 p.1.2 p.2⟩, b + 1)) else .fail
      | _ => .fail
    | _ => .fail
  | _ => .fail
def entryT (it : AV) (L : List En) : Tree AV := match it with
  | .ptr ik 0 => match findE L ik with
    | some ⟨_, _, .itc mk mv kt vt kx vx xs⟩ => match findE L mk with
      | some ⟨_, mv', .mp _ _ _⟩ => bif Nat.beq mv mv' then .ret (.tup (.pr (explode kt kx) (.pr (explode vt vx) .un))) else .fail
      | _ => .fail
    | _ => .fail
  | _ => .fail
section
variable {P : Program} {ty T U : TypeId} {f : Fr} {w w' : World} {B : Base} {ν ν' : Nms} {b b' : Nat} {Z : Nat → Prop} {L L' : List En} {F : List Ent} {x y z : Operand} {p q a : AV} {kt vt t : Ty} {v u : Value}
theorem asD_ok {d : t.den} (h : asD t p = some d) (hs : slotR ν b Z w p v) : rv Z w t d v := by
  unfold asD at h
  cases hc : ((bif p.isAgg then t.isAgg else !t.isAgg) && p.okC) <;> rw [hc] at h
  · cases h
  · simp only [cond_true] at h
    simp only [Bool.and_eq_true] at hc
    obtain ⟨k1, k2, k3⟩ := AV.okC_ok hc.2
    have hv : avV ν b Z w p v := by
      unfold slotR at hs
      split at hs
      · exact absurd rfl k2
      · exact absurd rfl k3
      · exact (k1 _ rfl).elim
      · exact hs
    unfold avV at hv
    cases ha : p.isAgg
    · rw [if_neg (by simp [ha])] at hv
      rw [ha] at hc
      have ht : t.isAgg = false := by simpa using hc.1
      exact rv_of_one ht (implode_ok t hv h)
    · rw [if_pos ha] at hv
      obtain ⟨cs, rfl, h2⟩ := hv
      rw [ha] at hc
      exact rv_of_agg hc.1 (implode_ok t h2 h)
theorem explode_agg (t : Ty) (d : t.den) : (explode t d).isAgg = t.isAgg := by cases t <;> rfl
theorem explode_avV {d : t.den} (h : rv Z w t d v) : avV ν b Z w (explode t d) v := by
  unfold avV
  rw [explode_agg]
  cases ha : t.isAgg
  · rw [if_neg (by simp)]
    exact explode_ok t (rv_one ha h)
  · rw [if_pos rfl]
    obtain ⟨cs, rfl, h2⟩ := rv_agg ha h
    exact ⟨cs, rfl, explode_ok t h2⟩
theorem zeroD_ok {V : TypeId} {d : vt.den} (h : zeroD P V vt = some d) : ∃ z, (∀ w : World, (zeroValue V).run P w = .ok z w) ∧ ∀ (Z : Nat → Prop) (w : World), rv Z w vt d z := by
  unfold zeroD at h
  split at h
  · rename_i az z hz
    obtain ⟨h1, h2⟩ := zeroOf_ok hz
    cases hc : (match z with | .agg _ => vt.isAgg | _ => !vt.isAgg) <;> rw [hc] at h
    · cases h
    · simp only [cond_true] at h
      refine ⟨z, fun w => h1.run, fun Z w => ?_⟩
      have h3 := implode_ok vt (h2 (ν := fun _ => ⟨0, undef, []⟩) (b := 0) (Z := Z) (w := w)) h
      cases z with
      | agg cs => exact rv_of_agg (cs := cs.toList) hc h3
      | _ =>
        refine rv_of_one (by simpa using hc) ?_
        exact h3
  · cases h
theorem mapTys_ok {K V : TypeId} (h : mapTys P T kt = some (K, V)) : P.underlying T = some (.map K V) ∧ cmpTy P deep K kt = true := by
  unfold mapTys at h
  split at h
  · rename_i K' V' hu
    cases hc : cmpTy P deep K' kt <;> rw [hc] at h
    · cases h
    · cases h; exact ⟨hu, hc⟩
  · cases h
/-- What is known of a map. -/
structure MapAt (ν : Nms) (b : Nat) (Z : Nat → Prop) (w : World) (L : List En) (F : List Ent) (key vid : Nat) (kt vt : Ty) (xs : List (kt.den × vt.den)) (i : Nat) (es : Array MapEntry) (clock : Nat) (ys : List (kt.den × vt.den)) : Prop where
  at_ : L[i]? = some ⟨key, vid, .mp kt vt xs⟩
  ent : (ents ν L ++ F)[i]? = some (mpe (ν key).g (ν vid).cs)
  set : ∀ x, setE L key x = L.set i x
  heap : w.heap[(ν key).g]? = some (.map es clock)
  cells : (ν vid).cs = mEnc es.toList clock
  rel : meR Z w kt vt es.toList ys
  perm : ys.Perm xs
  born : ∀ e ∈ es.toList, e.born < clock
  dist : (es.toList.map (·.born)).Nodup
  keys : (xs.map (·.1)).Nodup
  klt : key < b
  vlt : vid < b
theorem map_at {key k' vid : Nat} {xs : List (kt.den × vt.den)} (H : Here B ν b w L F) (h : findE L key = some ⟨k', vid, .mp kt vt xs⟩) : ∃ i es clock ys, MapAt ν b (B.Z (ents ν L ++ F)) w L F key vid kt vt xs i es clock ys := by
  obtain ⟨i, h1, h2, h3⟩ := findE_ok h
  simp only at h2
  subst h2
  have hf := H.fact _ (List.mem_of_getElem? h1)
  have he := ents_at (ν := ν) (F := F) h1
  obtain ⟨es, clock, g1, g2⟩ := H.own.all _ (List.mem_of_getElem? he)
  obtain ⟨es', clock', ys, k1, k2, k3, k4, k5, k6⟩ := hf.2.2
  have hcs : (ν vid).cs = mEnc es.toList clock := g2
  simp only at k1
  rw [hcs] at k1
  obtain ⟨rfl, rfl⟩ := mEnc_inj k1
  exact ⟨i, es, clock, ys, h1, he, h3, g1, hcs, k2, k3, k4, k5, k6, hf.1, hf.2.1⟩
theorem meR_len {es : List MapEntry} {ys : List (kt.den × vt.den)} : meR Z w kt vt es ys → es.length = ys.length := by
  induction es generalizing ys with
  | nil => cases ys with
    | nil => exact fun _ => rfl
    | cons _ _ => exact fun h => h.elim
  | cons e es ih => cases ys with
    | nil => exact fun h => h.elim
    | cons y ys => exact fun h => by simp [ih h.2.2]
theorem meR_at : ∀ {es : List MapEntry} {ys : List (kt.den × vt.den)} {j : Nat} {e : MapEntry} {y : kt.den × vt.den}, meR Z w kt vt es ys → es[j]? = some e → ys[j]? = some y → rv Z w kt y.1 e.key ∧ rv Z w vt y.2 e.val
  | e :: es, y :: ys, 0, _, _, h, h1, h2 => by cases h1; cases h2; exact ⟨h.1, h.2.1⟩
  | e :: es, y :: ys, j + 1, _, _, h, h1, h2 => meR_at h.2.2 (by simpa using h1) (by simpa using h2)
  | [], _, _, _, _, _, h1, _ => by simp at h1
  | _ :: _, [], _, _, _, h, _, _ => h.elim
theorem meR_set : ∀ {es : List MapEntry} {ys : List (kt.den × vt.den)} {j : Nat} {e : MapEntry} {y : kt.den × vt.den}, meR Z w kt vt es ys → rv Z w kt y.1 e.key → rv Z w vt y.2 e.val → meR Z w kt vt (es.set j e) (ys.set j y)
  | [], [], _, _, _, _, _, _ => trivial
  | e :: es, y :: ys, 0, _, _, h, h1, h2 => ⟨h1, h2, h.2.2⟩
  | e :: es, y :: ys, j + 1, _, _, h, h1, h2 => ⟨h.1, h.2.1, meR_set h.2.2 h1 h2⟩
  | [], _ :: _, _, _, _, h, _, _ => h.elim
  | _ :: _, [], _, _, _, h, _, _ => h.elim
theorem meR_push : ∀ {es : List MapEntry} {ys : List (kt.den × vt.den)} {e : MapEntry} {y : kt.den × vt.den}, meR Z w kt vt es ys → rv Z w kt y.1 e.key → rv Z w vt y.2 e.val → meR Z w kt vt (es ++ [e]) (ys ++ [y])
  | [], [], _, _, _, h1, h2 => ⟨h1, h2, trivial⟩
  | e :: es, y :: ys, _, _, h, h1, h2 => ⟨h.1, h.2.1, meR_push h.2.2 h1 h2⟩
  | [], _ :: _, _, _, h, _, _ => h.elim
  | _ :: _, [], _, _, h, _, _ => h.elim
theorem meR_erase : ∀ {es : List MapEntry} {ys : List (kt.den × vt.den)} {j : Nat}, meR Z w kt vt es ys → meR Z w kt vt (es.eraseIdx j) (ys.eraseIdx j)
  | [], [], _, _ => trivial
  | e :: es, y :: ys, 0, h => h.2.2
  | e :: es, y :: ys, j + 1, h => ⟨h.1, h.2.1, meR_erase h.2.2⟩
  | [], _ :: _, _, h => h.elim
  | _ :: _, [], _, h => h.elim
/-- A block's content is another one. -/
def setB (w : World) (r : Nat) (o : Obj) : World := { w with heap := w.heap.setIfInBounds r o }
theorem setB_same {r : Nat} {o o' : Obj} (h : w.heap[r]? = some o) : (setB w r o').heap[r]? = some o' := by
  have := (Array.getElem?_eq_some_iff.1 h).1
  simp [setB, Array.getElem?_setIfInBounds, this]
theorem setB_other {r k : Nat} {o' : Obj} (h : k ≠ r) : (setB w r o').heap[k]? = w.heap[k]? := by
  simp [setB, Array.getElem?_setIfInBounds, Ne.symm h]
theorem setB_size {r : Nat} {o' : Obj} : (setB w r o').heap.size = w.heap.size := by simp [setB]
theorem Own.setB {w0 : World} {o : Nat → Prop} {l : List Ent} {i r : Nat} {e e' : Ent} {ob ob' : Obj} (H : Own w0 o w l) (hi : l[i]? = some e) (hf : ∀ k, e.foot k ↔ k = r) (hf' : ∀ k, e'.foot k ↔ k = r) (hh : w.heap[r]? = some ob) (h' : e'.holds (setB w r ob')) : Own w0 o (setB w r ob') (l.set i e') := by
  refine H.put i hi (by rw [setB_size]; exact Nat.le_refl _) (fun k _ hk => setB_other fun h => hk ((hf k).2 h)) h' (fun k hk => ?_)
  have : k = r := (hf' k).1 hk
  subst this
  have := (Array.getElem?_eq_some_iff.1 hh).1
  exact ⟨by rw [setB_size]; exact this, fun _ => (hf k).2 rfl⟩
theorem Own.new1 {w0 : World} {o : Nat → Prop} {l : List Ent} {e' : Ent} {x : Obj} (H : Own w0 o w l) (hf : ∀ k, e'.foot k ↔ k = w.heap.size) (hh : e'.holds (w.alloc x)) : Own w0 o (w.alloc x) (e' :: l) := by
  have h1 := H.alloc x
  have h2 := h1.put (w' := w.alloc x) 0 (e' := e') rfl (Nat.le_refl _) (fun b _ _ => rfl) hh (fun k hk => by
    have := (hf k).1 hk
    subst this
    simp)
  simpa using h2
theorem lookupT_ok {k : Operand} {ok : Bool} (H : Here B ν b w L F) (hm : slotR ν b (B.Z (ents ν L ++ F)) w p (ev f x)) (hk : slotR ν b (B.Z (ents ν L ++ F)) w q (ev f k)) :
    Q P (.lookup T x k ok) ty f w ν b (B.Z (ents ν L ++ F)) (lookupT P T p q ok L) := by
  refine Q.of fun a ha => ?_
  unfold lookupT at ha
  split at ha
  · rename_i key
    split at ha
    · rename_i k' vid kt vt xs hfind
      split at ha
      · rename_i K V d hT hd
        split at ha
        · rename_i z hz
          obtain ⟨hu, hcmp⟩ := mapTys_ok hT
          obtain ⟨i, es, clock, ys, A⟩ := map_at H hfind
          have hrv := asD_ok hd hk
          obtain ⟨zv, hz1, hz2⟩ := zeroD_ok hz
          have hx : ev f x = .map (some (ν key).g) := List.head_eq_of_cons_eq (show [_] = [_] from hm.2)
          have hck := (checkKey_ok (P := P) (w' := w) (Z := B.Z (ents ν L ++ F)) (w := w) es.isEmpty deep).1 K kt d (ev f k) 10000 hcmp (by decide) hrv
          have main : ∃ yv, (Instr.lookup T (ev f x) (ev f k) ok).run P w = .ok (if ok = true then .tuple #[yv, .bool (mget kt vt xs d).isSome] else yv) w ∧ rv (B.Z (ents ν L ++ F)) w vt ((mget kt vt xs d).getD z) yv := by
            rcases findKey_ok (P := P) hcmp (by decide) hrv A.rel with ⟨h1, h2⟩ | ⟨j, e, y, h1, h2, h3⟩
            · refine ⟨zv, ?_, ?_⟩
              · rw [hx, perm_none A.perm h2]
                simp [Instr.lookup, run_underlying hu, MapKept.run_getObj_map A.heap, hck, h1, hz1]
              · rw [perm_none A.perm h2]
                exact hz2 _ _
            · refine ⟨e.val, ?_, ?_⟩
              · rw [hx, perm_some A.perm A.keys h3]
                simp [Instr.lookup, run_underlying hu, MapKept.run_getObj_map A.heap, hck, h1]
              · rw [perm_some A.perm A.keys h3]
                exact (meR_at A.rel h2 h3).2
          obtain ⟨yv, h1, h2⟩ := main
          refine ⟨_, by simp only [execOp, bare, Sem.run_bind, h1, Result.andThen_ok, Sem.run_pure]; rfl, ?_⟩
          cases ok
          · cases ha
            exact .of (explode_avV h2)
          · cases ha
            exact ⟨[yv, .bool (mget kt vt xs d).isSome], rfl, yv, _, rfl, explode_avV h2, _, _, rfl, (by unfold avV; exact rfl), rfl⟩
        · cases ha
      · cases ha
    · cases ha
  · cases ha
end
end Hyp
