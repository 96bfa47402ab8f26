/- Operations that change maps; walks through maps. -/
import Derived.Test.YtdlbmjbbnplpjaaOe
set_option linter.unusedVariables false
set_option linter.unusedSimpArgs false
namespace Hyp
open Go
section
variable {P : Program} {ty T U : TypeId} {f : Fr} {w w' : World} {B : Base} {ν ν' : Nms} {b b' : Nat} {Z : Nat → Prop} {L L' : List En} {F : List Ent} {x y z k : Operand} {p q r a : AV} {kt vt t : Ty} {v u : Value}
theorem mpe_foot (g : Nat) (cs : List Value) (n : Nat) : (mpe g cs).foot n ↔ n = g := Iff.rfl
/-- A map's entries become others. -/
theorem map_set {key vid i : Nat} {xs xs' ys ys' : List (kt.den × vt.den)} {es es' : Array MapEntry} {clock clock' : Nat} (H : Here B ν b w L F) (A : MapAt ν b (B.Z (ents ν L ++ F)) w L F key vid kt vt xs i es clock ys)
    (hrel : meR (B.Z (ents ν L ++ F)) w kt vt es'.toList ys') (hp : ys'.Perm xs') (hb : ∀ e ∈ es'.toList, e.born < clock') (hd : (es'.toList.map (·.born)).Nodup) (hk : (xs'.map (·.1)).Nodup) :
    Left B ν b w L F (updN ν b ⟨0, undef, mEnc es'.toList clock'⟩) (b + 1) (setB w (ν key).g (.map es' clock')) (setE L key ⟨key, b, .mp kt vt xs'⟩) := by
  rw [A.set]
  refine H.set (m := ⟨0, undef, mEnc es'.toList clock'⟩) (e' := ⟨key, b, .mp kt vt xs'⟩) A.at_ (Nat.lt_succ_of_lt A.klt) rfl ?_ ?_
  · show Own _ _ _ (List.set _ i (mpe (updN ν b _ key).g (updN ν b _ b).cs))
    rw [updN_same, updN_lt _ _ _ _ A.klt]
    exact H.own.setB A.ent (mpe_foot _ _) (mpe_foot _ _) A.heap ⟨es', clock', setB_same A.heap, rfl⟩
  · intro Z' h
    exact ⟨es'.toList, clock', ys', rfl, hrel.go h.mem, hp, hb, hd, hk⟩
theorem list_modify {α : Type} {g : α → α} : ∀ {l : List α} {j : Nat} {e : α}, l[j]? = some e → l.modify j g = l.set j (g e)
  | [], _, _, h => by simp at h
  | x :: l, 0, e, h => by simp at h; subst h; simp
  | x :: l, j + 1, e, h => by
    have := list_modify (g := g) (l := l) (j := j) (e := e) (by simpa using h)
    simp [this]
theorem toList_modify {α : Type} {es : Array α} {j : Nat} {g : α → α} {e : α} (h : es.toList[j]? = some e) : (es.modify j g).toList = es.toList.set j (g e) := by
  rw [Array.toList_modify, list_modify h]
theorem mapUpdT_ok (H : Here B ν b w L F) (hm : slotR ν b (B.Z (ents ν L ++ F)) w p (ev f x)) (hk : slotR ν b (B.Z (ents ν L ++ F)) w q (ev f k)) (hy : slotR ν b (B.Z (ents ν L ++ F)) w r (ev f y)) :
    M P (.mapUpdate T x k y) ty f B ν b w L F (mapUpdT P T p q r L b) := by
  intro a L' b' ha
  unfold mapUpdT at ha
  split at ha
  · rename_i key
    split at ha
    · rename_i k' vid kt vt xs hfind
      split at ha
      · rename_i KV d dv hT hd hdv
        obtain ⟨K, V⟩ := KV
        cases ha
        obtain ⟨hu, hcmp⟩ := mapTys_ok hT
        obtain ⟨i, es, clock, ys, A⟩ := map_at H hfind
        have hrv := asD_ok hd hk
        have hrw := asD_ok hdv hy
        have hx : ev f x = .map (some (ν key).g) := List.head_eq_of_cons_eq (show [_] = [_] from hm.2)
        have hck := (checkKey_ok (P := P) (w' := w) (Z := B.Z (ents ν L ++ F)) (w := w) false deep).1 K kt d (ev f k) 10000 hcmp (by decide) hrv
        have hflat := cmpTy_flat.1 hcmp
        rcases findKey_ok (P := P) hcmp (by decide) hrv A.rel with ⟨h1, h2⟩ | ⟨j, e, y0, h1, h2, h3⟩
        · have hput : mput kt vt xs d dv = xs ++ [(d, dv)] := mput_new (perm_none A.perm h2)
          refine .of_skip (w' := setB w (ν key).g (.map (es.push ⟨ev f k, ev f y, clock⟩) (clock + 1))) ?_ ⟨_, map_set (es' := es.push ⟨ev f k, ev f y, clock⟩) (ys' := ys ++ [(d, dv)]) (clock' := clock + 1) H A ?_ ?_ ?_ ?_ (mput_keys A.keys), rfl⟩
          · simp only [execOp, bare, hx]
            simp [Instr.mapUpdate, run_underlying hu, MapKept.run_getObj_map A.heap, hck, h1, MapKept.run_setObj_map _ A.heap, setB]
          · rw [Array.toList_push]
            exact meR_push A.rel hrv hrw
          · rw [hput]
            exact A.perm.append_right _
          · intro e he
            rw [Array.toList_push] at he
            rcases List.mem_append.1 he with he | he
            · exact Nat.lt_succ_of_lt (A.born e he)
            · simp only [List.mem_singleton] at he
              subst he
              exact Nat.lt_succ_self _
          · rw [Array.toList_push, List.map_append, List.nodup_append]
            refine ⟨A.dist, by simp, fun a ha c hc => ?_⟩
            obtain ⟨e, he, rfl⟩ := List.mem_map.1 ha
            simp only [List.map_cons, List.map_nil, List.mem_singleton] at hc
            subst hc
            have := A.born e he
            omega
        · have hkey : e.key = ev f k := rv_same hflat (meR_at A.rel h2 h3).1 hrv
          have hst := stays_ok (P := P) (w' := w) hflat hrv
          have hj : es[j]? = some e := by simpa using h2
          have hmod : (es.modify j fun e => { e with key := ev f k, val := ev f y }).toList = es.toList.set j ⟨ev f k, ev f y, e.born⟩ := toList_modify h2
          refine .of_skip (w' := setB w (ν key).g (.map (es.modify j fun e => { e with key := ev f k, val := ev f y }) clock)) ?_ ⟨_, map_set (es' := es.modify j fun e => { e with key := ev f k, val := ev f y }) (ys' := ys.set j (d, dv)) (clock' := clock) H A ?_ ?_ ?_ ?_ (mput_keys A.keys), rfl⟩
          · simp only [execOp, bare, hx]
            simp [Instr.mapUpdate, run_underlying hu, MapKept.run_getObj_map A.heap, hck, h1, hj, hkey, hst, MapKept.run_setObj_map _ A.heap, setB]
          · rw [hmod]
            exact meR_set A.rel hrv hrw
          · exact set_perm' A.perm A.keys h3
          · intro e' he
            rw [hmod] at he
            rcases List.mem_or_eq_of_mem_set he with he | rfl
            · exact A.born e' he
            · exact A.born e (List.mem_of_getElem? h2)
          · rw [hmod, List.map_set]
            have : (es.toList.map (·.born)).set j e.born = es.toList.map (·.born) := set_self (by rw [List.getElem?_map, h2]; rfl)
            rw [this]
            exact A.dist
      · cases ha
    · cases ha
  · cases ha
theorem makeMapT_ok (H : Here B ν b w L F) : M P (.makeMap T none) ty f B ν b w L F (makeMapT P T L b) := by
  intro a L' b' ha
  unfold makeMapT at ha
  split at ha
  · rename_i K V hu
    split at ha
    · rename_i kt vt hk hv
      cases ha
      have hl := H.cons (m := ⟨w.heap.size, undef, mEnc [] 0⟩) (c := .mp kt vt []) (w' := w.alloc (.map #[] 0)) (by
        show Own _ _ _ (mpe (updN ν b _ b).g (updN ν b _ b).cs :: _)
        rw [updN_same]
        exact H.own.new1 (mpe_foot _ _) ⟨#[], 0, by show (w.heap.push _)[w.heap.size]? = _; simp, rfl⟩) (fun Z' h => ⟨[], 0, [], rfl, trivial, .refl _, by simp, by simp, by simp⟩)
      refine .of_run (v := .map (some w.heap.size)) (w' := w.alloc (.map #[] 0)) ?_ ⟨_, hl, ?_⟩
      · simp [execOp, bare, Instr.makeMap, newObj, Sem.run]
      · refine .of ?_
        show avV _ _ _ _ (.mpv b) _
        unfold avV
        refine ⟨Nat.lt_succ_self b, ?_⟩
        rw [updN_same]
    · cases ha
  · cases ha
theorem mapLenT_ok (H : Here B ν b w L F) (hm : slotR ν b (B.Z (ents ν L ++ F)) w p (ev f x)) : Q P (.call ⟨.builtin .len, #[x], #[T]⟩) ty f w ν b (B.Z (ents ν L ++ F)) (mapLenT P T p L) := by
  refine Q.of fun a ha => ?_
  unfold mapLenT at ha
  split at ha
  · rename_i key
    split at ha
    · rename_i k' vid kt vt xs K V hfind hu
      cases ha
      obtain ⟨i, es, clock, ys, A⟩ := map_at H hfind
      have hx : ev f x = .map (some (ν key).g) := List.head_eq_of_cons_eq (show [_] = [_] from hm.2)
      refine ⟨.int .i64 (es.size : Int), ?_, ?_⟩
      · simp [execOp, bare, resolve, invoke, builtin, Builtin.len_, hx, run_underlying hu, MapKept.run_getObj_map A.heap, goInt]
      · have : es.size = xs.length := by rw [← A.perm.length_eq, ← meR_len A.rel, Array.length_toList]
        rw [this]
        exact sl_mk rfl rfl
    · cases ha
  · cases ha
theorem mapDelT_ok (H : Here B ν b w L F) (hm : slotR ν b (B.Z (ents ν L ++ F)) w p (ev f x)) (hk : slotR ν b (B.Z (ents ν L ++ F)) w q (ev f k)) :
    M P (.call ⟨.builtin .delete, #[x, k], #[T, U]⟩) ty f B ν b w L F (mapDelT P T p q L b) := by
  intro a L' b' ha
  unfold mapDelT at ha
  split at ha
  · rename_i key
    split at ha
    · rename_i k' vid kt vt xs hfind
      split at ha
      · rename_i KV d hT hd
        obtain ⟨K, V⟩ := KV
        cases ha
        obtain ⟨hu, hcmp⟩ := mapTys_ok hT
        obtain ⟨i, es, clock, ys, A⟩ := map_at H hfind
        have hrv := asD_ok hd hk
        have hx : ev f x = .map (some (ν key).g) := List.head_eq_of_cons_eq (show [_] = [_] from hm.2)
        have hck := (checkKey_ok (P := P) (w' := w) (Z := B.Z (ents ν L ++ F)) (w := w) es.isEmpty deep).1 K kt d (ev f k) 10000 hcmp (by decide) hrv
        rcases findKey_ok (P := P) hcmp (by decide) hrv A.rel with ⟨h1, h2⟩ | ⟨j, e, y0, h1, h2, h3⟩
        · refine .of_run (v := .tuple #[]) (w' := setB w (ν key).g (.map es clock)) ?_ ⟨_, map_set (es' := es) (ys' := ys) (clock' := clock) H A A.rel ?_ A.born A.dist (mdel_keys A.keys), ⟨[], rfl, rfl⟩⟩
          · simp only [execOp, bare, resolve, invoke, builtin, List.map_toArray, List.map_cons, List.map_nil, hx]
            simp [Builtin.delete_, run_underlying hu, MapKept.run_getObj_map A.heap, hck, h1, MapKept.run_setObj_map _ A.heap, setB, hx]
          · rw [mdel_none (perm_none A.perm h2)]
            exact A.perm
        · have hj : j < es.size := by simpa using (List.getElem?_eq_some_iff.1 h2).1
          have her : (es.eraseIdxIfInBounds j).toList = es.toList.eraseIdx j := by
            simp [Array.eraseIdxIfInBounds, hj]
          have hsub : List.Sublist (es.toList.eraseIdx j) es.toList := List.eraseIdx_sublist _ _
          refine .of_run (v := .tuple #[]) (w' := setB w (ν key).g (.map (es.eraseIdxIfInBounds j) clock)) ?_ ⟨_, map_set (es' := es.eraseIdxIfInBounds j) (ys' := ys.eraseIdx j) (clock' := clock) H A ?_ (erase_perm A.perm A.keys h3) ?_ ?_ (mdel_keys A.keys), ⟨[], rfl, rfl⟩⟩
          · simp only [execOp, bare, resolve, invoke, builtin, List.map_toArray, List.map_cons, List.map_nil, hx]
            simp [Builtin.delete_, run_underlying hu, MapKept.run_getObj_map A.heap, hck, h1, MapKept.run_setObj_map _ A.heap, setB, hx]
          · rw [her]; exact meR_erase A.rel
          · rw [her]; exact fun e he => A.born e (hsub.subset he)
          · rw [her]; exact (hsub.map _).nodup A.dist
      · cases ha
    · cases ha
  · cases ha
theorem itE_foot (g : Nat) (cs : List Value) (n : Nat) : (itE g cs).foot n ↔ n = g := Iff.rfl
theorem rangeT_ok (H : Here B ν b w L F) (hm : slotR ν b (B.Z (ents ν L ++ F)) w p (ev f x)) : M P (.range T x) ty f B ν b w L F (rangeT P T p L b) := by
  intro a L' b' ha
  unfold rangeT at ha
  split at ha
  · rename_i key
    split at ha
    · rename_i k' vid kt vt xs K V hfind hu
      cases ha
      obtain ⟨i, es, clock, ys, A⟩ := map_at H hfind
      have hx : ev f x = .map (some (ν key).g) := List.head_eq_of_cons_eq (show [_] = [_] from hm.2)
      -- the map under another name
      have hsame : entOf (updN ν b ⟨0, undef, (ν vid).cs⟩) ⟨key, b, .mp kt vt xs⟩ = mpe (ν key).g (ν vid).cs := by
        show mpe (updN ν b _ key).g (updN ν b _ b).cs = _
        rw [updN_same, updN_lt _ _ _ _ A.klt]
      have hl1 : Left B ν b w L F (updN ν b ⟨0, undef, (ν vid).cs⟩) (b + 1) w (setE L key ⟨key, b, .mp kt vt xs⟩) := by
        rw [A.set]
        refine H.set (m := ⟨0, undef, (ν vid).cs⟩) (e' := ⟨key, b, .mp kt vt xs⟩) A.at_ (Nat.lt_succ_of_lt A.klt) rfl ?_ ?_
        · rw [hsame, set_self A.ent]; exact H.own
        · exact fun Z' h => ⟨es.toList, clock, ys, A.cells, A.rel.go h.mem, A.perm, A.born, A.dist, A.keys⟩
      have H1 := hl1.here
      have hcs : (updN ν b ⟨0, undef, (ν vid).cs⟩ b).cs = mEnc es.toList clock := by rw [updN_same]; exact A.cells
      have hg : (updN ν b ⟨0, undef, (ν vid).cs⟩ key).g = (ν key).g := by rw [updN_lt _ _ _ _ A.klt]
      have hl2 := H1.cons (m := ⟨w.heap.size, undef, .int .i64 ((ν key).g : Int) :: .int .i64 (clock : Int) :: .int .i64 (clock : Int) :: []⟩) (c := .it key b kt vt xs) (w' := w.alloc (.mapIter (some (ν key).g) clock #[] clock)) (by
        show Own _ _ _ (itE (updN _ (b + 1) _ (b + 1)).g (updN _ (b + 1) _ (b + 1)).cs :: _)
        rw [updN_same]
        exact H1.own.new1 (itE_foot _ _) ⟨(ν key).g, clock, #[], clock, by show (w.heap.push _)[w.heap.size]? = _; simp, rfl⟩) (fun Z' h => by
          refine ⟨Nat.lt_succ_of_lt (Nat.lt_succ_of_lt A.klt), by omega, ?_⟩
          rw [updN_lt _ _ _ key (Nat.lt_succ_of_lt A.klt), updN_lt _ _ _ b (Nat.lt_succ_self b), hg, hcs]
          refine ⟨es.toList, clock, [], ys, rfl, rfl, ?_, A.perm, by simp⟩
          have hfl : (es.toList.filter fun e => !([] : List Nat).contains e.born) = es.toList := by simp
          rw [hfl]
          exact (A.rel.go hl1.later.mem).go h.mem)
      refine .of_run (v := .pointer (some ⟨w.heap.size, 0, none⟩)) (w' := w.alloc (.mapIter (some (ν key).g) clock #[] clock)) ?_ ⟨_, hl1.trans hl2, ?_⟩
      · simp [execOp, bare, Instr.range, hx, run_underlying hu, MapKept.run_getObj_map A.heap, newObj, Sem.run]
      · refine .of ?_
        show avV _ _ _ _ (.ptr (b + 1) 0) _
        unfold avV
        refine ⟨by omega, ?_⟩
        rw [updN_same]
    · cases ha
  · cases ha
theorem run_next (n : Nat) (h : 0 < n) : ∃ j w', (choose (.mapNext n)).run P w = .ok j w' ∧ j < n ∧ (w' = w ∨ w' = w.drew) := by
  by_cases h1 : n ≤ 1
  · refine ⟨0, w, ?_, h, .inl rfl⟩
    simp [choose, Sem.run, Question.forced, h1]
  · refine ⟨w.tape w.drawn (.mapNext n) % n, w.drew, ?_, Nat.mod_lt _ h, .inr rfl⟩
    simp [choose, Sem.run, Question.forced, h1, Question.cut]
theorem ints_inj : ∀ {a c : List Nat}, (a.map fun n => Value.int .i64 ((n : Nat) : Int)) = c.map (fun n => .int .i64 ((n : Nat) : Int)) → a = c
  | [], [], _ => rfl
  | x :: a, y :: c, h => by
    simp only [List.map_cons, List.cons.injEq, Value.int.injEq, true_and] at h
    rw [ints_inj h.2, show x = y from Int.ofNat.inj h.1]
  | [], _ :: _, h => by simp at h
  | _ :: _, [], h => by simp at h
theorem filter_erase {es : List MapEntry} {g : MapEntry → Bool} {j : Nat} {e : MapEntry} (hd : (es.map (·.born)).Nodup) (h : (es.filter g)[j]? = some e) : es.filter (fun e' => g e' && !(e'.born == e.born)) = (es.filter g).eraseIdx j := by
  induction es generalizing j with
  | nil => simp at h
  | cons x es ih =>
    simp only [List.map_cons, List.nodup_cons] at hd
    cases hg : g x
    · have e1 : List.filter g (x :: es) = List.filter g es := List.filter_cons_of_neg (by simp [hg])
      rw [e1] at h ⊢
      rw [List.filter_cons_of_neg (by simp [hg])]
      exact ih hd.2 h
    · have e1 : List.filter g (x :: es) = x :: List.filter g es := List.filter_cons_of_pos (by simp [hg])
      rw [e1] at h ⊢
      cases j with
      | zero =>
        simp only [List.getElem?_cons_zero, Option.some.injEq] at h
        subst h
        rw [List.filter_cons_of_neg (by simp), List.eraseIdx_cons_zero]
        refine List.filter_congr fun y hy => ?_
        have : y.born ≠ x.born := fun he => hd.1 (by rw [← he]; exact List.mem_map_of_mem (f := (·.born)) hy)
        simp [this]
      | succ j =>
        simp only [List.getElem?_cons_succ] at h
        have hmem : e ∈ es := (List.mem_filter.1 (List.mem_of_getElem? h)).1
        have : x.born ≠ e.born := fun he => hd.1 (by rw [he]; exact List.mem_map_of_mem (f := (·.born)) hmem)
        rw [List.filter_cons_of_pos (by simp [hg, this]), List.eraseIdx_cons_succ, ih hd.2 h]
theorem meR_get : ∀ {es : List MapEntry} {ys : List (kt.den × vt.den)} {j : Nat} {e : MapEntry}, meR Z w kt vt es ys → es[j]? = some e → ∃ y, ys[j]? = some y
  | e :: es, y :: ys, 0, _, h, h1 => ⟨y, rfl⟩
  | e :: es, y :: ys, j + 1, _, h, h1 => by
    obtain ⟨y', h2⟩ := meR_get h.2.2 (j := j) (by simpa using h1)
    exact ⟨y', by simpa using h2⟩
  | [], _, _, _, _, h1 => by simp at h1
  | _ :: _, [], _, _, h, _ => h.elim
theorem drew_heap : w.drew.heap = w.heap := rfl
theorem nextT_ok {x : Operand} (H : Here B ν b w L F) (hx : slotR ν b (B.Z (ents ν L ++ F)) w p (ev f x)) : M' P (.next x false) ty f B ν b w L F (nextT p L b) := by
  intro R hr
  unfold nextT at hr
  split at hr
  · rename_i ik
    split at hr
    · rename_i k1 iv mk mv kt vt xs hfi
      split at hr
      · rename_i k2 mv' kt' vt' xs' hfm
        cases hv : Nat.beq mv mv' <;> rw [hv] at hr
        · exact hr.elim
        · have hv := Nat.eq_of_beq_eq_true hv
          subst hv
          simp only [cond_true] at hr
          obtain ⟨i, es, clock, ys0, A⟩ := map_at H hfm
          obtain ⟨j, e1, e2, e3⟩ := findE_ok hfi
          simp only at e2
          subst e2
          have hfa := H.fact _ (List.mem_of_getElem? e1)
          have hea := ents_at (ν := ν) (F := F) e1
          obtain ⟨m, since, seen, last, g1, g2⟩ := H.own.all _ (List.mem_of_getElem? hea)
          obtain ⟨_, _, es', clock', seen', ys, q1, q2, q3, q4, q5⟩ := hfa.2.2
          have hcm : (ν mv).cs = mEnc es.toList clock := A.cells
          simp only at q1 q2 g2
          rw [hcm] at q1
          obtain ⟨q1a, q1b⟩ := mEnc_inj q1
          subst q1a; subst q1b
          rw [g2] at q2
          simp only [List.cons.injEq, Value.int.injEq, true_and] at q2
          obtain ⟨s1, s2, s3, s4⟩ := q2
          have s1 : (ν mk).g = m := (Int.ofNat.inj s1).symm
          have s2 : clock = since := (Int.ofNat.inj s2).symm
          have s3 : clock = last := (Int.ofNat.inj s3).symm
          have s4 : seen.toList = seen' := ints_inj s4
          subst s1; subst s2; subst s3; subst s4
          have hptr : ev f x = .pointer (some ⟨(ν k1).g, 0, none⟩) := (sl_ptr hx).2
          have hget : (getObj (ν k1).g).run P w = .ok (.mapIter (some (ν mk).g) clock seen clock) w := by simp [getObj, Sem.run, g1]
          have hgm := MapKept.run_getObj_map (P := P) A.heap
          -- what is left
          have hleft : (es.filter fun e => !seen.contains e.born).toList = es.toList.filter fun e => !seen.toList.contains e.born := by
            rw [Array.toList_filter]
            refine List.filter_congr fun y _ => ?_
            simp
          have hold : ((es.filter fun e => !seen.contains e.born).filter fun e => decide (e.born < clock)) = es.filter fun e => !seen.contains e.born := by
            apply Array.ext'
            rw [Array.toList_filter, hleft]
            refine List.filter_eq_self.2 fun y hy => ?_
            have := A.born y (List.mem_filter.1 hy).1
            simp [this]
          have hnew : ((es.filter fun e => !seen.contains e.born).filter fun e => decide (e.born ≥ clock)) = #[] := by
            apply Array.ext'
            rw [Array.toList_filter, hleft]
            refine List.filter_eq_nil_iff.2 fun y hy => ?_
            have := A.born y (List.mem_filter.1 hy).1
            simp; omega
          have hchk : (!seen.isEmpty && !es.isEmpty && es.all fun e => decide (e.born ≥ clock)) = false := by
            cases hes : es.isEmpty
            · have : es.all (fun e => decide (e.born ≥ clock)) = false := by
                rw [Array.all_eq_false]
                have hpos : 0 < es.size := by
                  rcases Nat.eq_zero_or_pos es.size with h0 | h0
                  · rw [Array.isEmpty_iff_size_eq_zero.2 h0] at hes; cases hes
                  · exact h0
                refine ⟨0, hpos, ?_⟩
                have := A.born es[0] (by simp)
                simp; omega
              simp [this]
            · simp
          have hlen := meR_len q3
          rw [← hleft] at q3 hlen
          rcases hxs : xs with _ | ⟨x0, xs1⟩
          · -- it is over
            have hy0 : ys = [] := by rw [hxs] at q4; exact List.Perm.eq_nil q4
            rw [hy0] at hlen
            have hl0 : es.filter (fun e => !seen.contains e.born) = #[] := by
              apply Array.ext'
              exact List.eq_nil_of_length_eq_zero (by simpa using hlen)
            obtain ⟨jj, w', h1, h2, h3⟩ := run_next (P := P) (w := w) 1 (by omega)
            obtain rfl : jj = 0 := by omega
            have hr1 : R (.tup (.pr .ff .un), L, b) := hr.1 (by rw [hxs]; rfl)
            refine .of_run (v := .tuple #[.bool false]) (w' := w') ?_ ⟨_, hr1, ν, ?_, [.bool false], rfl, .bool false, [], rfl, (by unfold avV; exact rfl), rfl⟩
            · have hcand0 : ((if (#[] : Array MapEntry).isEmpty = true then #[none] else #[]) ++ ((#[] : Array MapEntry) ++ #[]).map some : Array (Option MapEntry)) = #[none] := by simp
              have hsz0 : (#[none] : Array (Option MapEntry)).size = 1 := rfl
              have hat0 : (#[none] : Array (Option MapEntry))[0]? = some none := rfl
              rw [hl0] at hold hnew
              simp only [execOp, bare, hptr, Instr.next, Sem.run_bind, hget, Result.andThen_ok, hgm, hchk, Bool.false_eq_true, if_false, hold, hnew, hl0, hcand0, hsz0, h1, hat0, Sem.run_pure]
            · rcases h3 with rfl | rfl
              · exact H.stay
              · have hd := H.own.drew
                exact ⟨fun _ _ => rfl, Nat.le_refl _, hd, fun e he => enF.later (ν := ν) (ν' := ν) (b := b) (b' := b) (Z := B.Z (ents ν L ++ F)) (Z' := B.Z (ents ν L ++ F)) (w := w) (w' := w.drew) ⟨fun _ _ => rfl, Nat.le_refl _, fun n _ hn => ⟨hn, rfl⟩⟩ (H.fact e he)⟩
          · -- one of them
            have hpos : 0 < (es.filter fun e => !seen.contains e.born).size := by
              rw [← Array.length_toList, hlen, q4.length_eq, hxs]; simp
            obtain ⟨jj, w', h1, h2, h3⟩ := run_next (P := P) (w := w) (es.filter fun e => !seen.contains e.born).size hpos
            obtain ⟨e, he⟩ : ∃ e, (es.filter fun e => !seen.contains e.born)[jj]? = some e := ⟨_, Array.getElem?_eq_getElem h2⟩
            have heL : (es.filter fun e => !seen.contains e.born).toList[jj]? = some e := by rw [Array.getElem?_toList]; exact he
            obtain ⟨y, hy⟩ := meR_get q3 heL
            have hrvs := meR_at q3 heL hy
            have hyl : jj < ys.length := (List.getElem?_eq_some_iff.1 hy).1
            have hperm : (y :: ys.eraseIdx jj).Perm xs := by
              have h5 := ChangeMaps.set_perm ys jj hyl y
              rw [set_self hy] at h5
              exact h5.symm.trans q4
            have hr1 : R (.tup (.pr .tt (.pr (explode kt y.1) (.pr (explode vt y.2) .un))), setE L k1 ⟨k1, b, .itc mk mv kt vt y.1 y.2 (ys.eraseIdx jj)⟩, b + 1) := hr.2 (by rw [hxs]; rfl) (y, ys.eraseIdx jj) hperm
            have hw' : w'.heap = w.heap := by rcases h3 with rfl | rfl <;> rfl
            have hemem : e ∈ es.toList := by
              rw [hleft] at heL
              exact (List.mem_filter.1 (List.mem_of_getElem? heL)).1
            have hne : (es.filter fun e => !seen.contains e.born).isEmpty = false := by
              cases hh : (es.filter fun e => !seen.contains e.born).isEmpty
              · rfl
              · rw [Array.isEmpty_iff_size_eq_zero.1 hh] at hpos; omega
            -- where it stands now
            have hH : Here B ν b w' L F := by
              rcases h3 with rfl | rfl
              · exact H
              · exact ⟨H.own.drew.fresh, fun e he => enF.later (ν := ν) (ν' := ν) (b := b) (b' := b) (Z := B.Z (ents ν L ++ F)) (Z' := B.Z (ents ν L ++ F)) (w := w) (w' := w.drew) ⟨fun _ _ => rfl, Nat.le_refl _, fun n _ hn => ⟨hn, rfl⟩⟩ (H.fact e he)⟩
            have hlw : Left B ν b w L F ν b w' L := by
              rcases h3 with rfl | rfl
              · exact H.stay
              · exact ⟨fun _ _ => rfl, Nat.le_refl _, H.own.drew, hH.fact⟩
            have hheap : w'.heap[(ν k1).g]? = some (.mapIter (some (ν mk).g) clock seen clock) := by rw [hw']; exact g1
            have hmem : ∀ n, n < w.heap.size → B.Z (ents ν L ++ F) n → B.Z (ents ν L ++ F) n ∧ w'.heap[n]? = w.heap[n]? := fun n _ hn => ⟨hn, by rw [hw']⟩
            have hset := hH.set (m := ⟨0, undef, .int .i64 ((ν mk).g : Int) :: .int .i64 (clock : Int) :: .int .i64 (clock : Int) :: (seen.toList ++ [e.born]).map fun n => .int .i64 ((n : Nat) : Int)⟩) (e' := ⟨k1, b, .itc mk mv kt vt y.1 y.2 (ys.eraseIdx jj)⟩) e1 (Nat.lt_succ_of_lt hfa.1) rfl
              (w' := setB w' (ν k1).g (.mapIter (some (ν mk).g) clock (seen.push e.born) clock)) (by
                show Own _ _ _ (List.set _ j (itE (updN ν b _ k1).g (updN ν b _ b).cs))
                rw [updN_same, updN_lt _ _ _ _ hfa.1]
                exact hH.own.setB hea (itE_foot _ _) (itE_foot _ _) hheap ⟨(ν mk).g, clock, seen.push e.born, clock, setB_same hheap, by rw [Array.toList_push]⟩) (fun Z' h => by
                refine ⟨Nat.lt_succ_of_lt A.klt, Nat.lt_succ_of_lt A.vlt, ?_⟩
                rw [updN_lt _ _ _ mk A.klt, updN_lt _ _ _ mv A.vlt]
                refine ⟨es.toList, clock, seen.toList, e, ys.eraseIdx jj, A.cells, rfl, ?_, .refl _, ?_, hemem, A.dist, (hrvs.1.go hmem).go h.mem, (hrvs.2.go hmem).go h.mem⟩
                · have hfe := filter_erase (g := fun e => !seen.toList.contains e.born) A.dist (by rw [← hleft]; exact heL)
                  have hcong : (es.toList.filter fun e' => !(seen.toList ++ [e.born]).contains e'.born) = es.toList.filter fun e' => (!seen.toList.contains e'.born) && !(e'.born == e.born) := by
                    refine List.filter_congr fun y _ => ?_
                    rw [List.contains_append, Bool.not_or]
                    congr 1
                    cases hye : (y.born == e.born) <;> simp [List.contains, List.elem, hye]
                  rw [hcong, hfe, ← hleft]
                  exact ((meR_erase q3).go hmem).go h.mem
                · intro n hn
                  rcases List.mem_append.1 hn with hn | hn
                  · exact q5 n hn
                  · simp only [List.mem_singleton] at hn
                    subst hn
                    exact A.born e hemem)
            rw [← e3] at hset
            refine .of_run (v := .tuple #[.bool true, e.key, e.val]) (w' := setB w' (ν k1).g (.mapIter (some (ν mk).g) clock (seen.push e.born) clock)) ?_ ⟨_, hr1, _, hlw.trans hset, [.bool true, e.key, e.val], rfl, .bool true, _, rfl, (by unfold avV; exact rfl), e.key, _, rfl, explode_avV ((hrvs.1.go hmem).go hset.later.mem), e.val, _, rfl, explode_avV ((hrvs.2.go hmem).go hset.later.mem), rfl⟩
            have hcand : ((if (es.filter fun e => !seen.contains e.born).isEmpty = true then #[none] else #[]) ++ ((es.filter fun e => !seen.contains e.born) ++ (#[] : Array MapEntry)).map some : Array (Option MapEntry)) = (es.filter fun e => !seen.contains e.born).map some := by
              rw [hne]; simp
            have hsz : ((es.filter fun e => !seen.contains e.born).map some).size = (es.filter fun e => !seen.contains e.born).size := by simp
            have hat : ((es.filter fun e => !seen.contains e.born).map some)[jj]? = some (some e) := by rw [Array.getElem?_map, he]; rfl
            have hso : (setObj (ν k1).g (.mapIter (some (ν mk).g) clock (seen.push e.born) clock)).run P w' = .ok () (setB w' (ν k1).g (.mapIter (some (ν mk).g) clock (seen.push e.born) clock)) := by
              simp [setObj, Sem.run, hheap, setB]
            simp only [execOp, bare, hptr, Instr.next, Sem.run_bind, hget, Result.andThen_ok, hgm, hchk, Bool.false_eq_true, if_false, hold, hnew, hcand, hsz, h1, hat, hso, Sem.run_pure]
      · exact hr.elim
    · exact hr.elim
  · exact hr.elim
theorem entryT_ok {x : Operand} (H : Here B ν b w L F) (hx : slotR ν b (B.Z (ents ν L ++ F)) w p (ev f x)) : Q P (.entry x) ty f w ν b (B.Z (ents ν L ++ F)) (entryT p L) := by
  refine Q.of fun a ha => ?_
  unfold entryT at ha
  split at ha
  · rename_i ik
    split at ha
    · rename_i k1 iv mk mv kt vt kx vx xs hfi
      split at ha
      · rename_i k2 mv' kt' vt' xs' hfm
        cases hv : Nat.beq mv mv' <;> rw [hv] at ha
        · cases ha
        · have hv := Nat.eq_of_beq_eq_true hv
          subst hv
          cases ha
          obtain ⟨i, es, clock, ys0, A⟩ := map_at H hfm
          obtain ⟨j, e1, e2, e3⟩ := findE_ok hfi
          simp only at e2
          subst e2
          have hfa := H.fact _ (List.mem_of_getElem? e1)
          have hea := ents_at (ν := ν) (F := F) e1
          obtain ⟨m, since, seen, last, g1, g2⟩ := H.own.all _ (List.mem_of_getElem? hea)
          obtain ⟨_, _, es', clock', seen', e, ys, q1, q2, q3, q4, q5, q6, q7, q8, q9⟩ := hfa.2.2
          have hcm : (ν mv).cs = mEnc es.toList clock := A.cells
          simp only at q1 q2 g2
          rw [hcm] at q1
          obtain ⟨q1a, q1b⟩ := mEnc_inj q1
          subst q1a; subst q1b
          rw [g2] at q2
          simp only [List.cons.injEq, Value.int.injEq, true_and] at q2
          obtain ⟨s1, s2, s3, s4⟩ := q2
          have s1 : (ν mk).g = m := (Int.ofNat.inj s1).symm
          have s3 : clock = last := (Int.ofNat.inj s3).symm
          have s4 : seen.toList = seen' ++ [e.born] := ints_inj s4
          subst s1; subst s3
          have hback : seen.back? = some e.born := by rw [← Array.getLast?_toList, s4]; simp
          have hptr : ev f x = .pointer (some ⟨(ν k1).g, 0, none⟩) := (sl_ptr hx).2
          have hget : (getObj (ν k1).g).run P w = .ok (.mapIter (some (ν mk).g) since seen clock) w := by simp [getObj, Sem.run, g1]
          have hgm := MapKept.run_getObj_map (P := P) A.heap
          have hfind : es.find? (fun e' => e'.born == e.born) = some e := by
            rw [← Array.find?_toList]
            have : ∀ (l : List MapEntry), (l.map (·.born)).Nodup → e ∈ l → l.find? (fun e' => e'.born == e.born) = some e := by
              intro l
              induction l with
              | nil => intro _ h; simp at h
              | cons x l ih =>
                intro hd hm
                simp only [List.map_cons, List.nodup_cons] at hd
                rcases List.mem_cons.1 hm with rfl | hm
                · simp
                · have hne : x.born ≠ e.born := fun hh => hd.1 (by rw [hh]; exact List.mem_map_of_mem (f := (·.born)) hm)
                  rw [List.find?_cons_of_neg (by simp [hne])]
                  exact ih hd.2 hm
            exact this _ A.dist q6
          refine ⟨.tuple #[e.key, e.val], ?_, [e.key, e.val], rfl, e.key, _, rfl, explode_avV q8, e.val, _, rfl, explode_avV q9, rfl⟩
          simp only [execOp, bare, hptr, Instr.entry, Sem.run_bind, hget, Result.andThen_ok, hgm, hback, hfind, bne_self_eq_false, Bool.false_eq_true, if_false, Sem.run_pure]
      · cases ha
    · cases ha
  · cases ha
end
end Hyp
