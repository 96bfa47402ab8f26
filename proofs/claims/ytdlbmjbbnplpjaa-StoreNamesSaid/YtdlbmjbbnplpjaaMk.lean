/- Slices appended to, built; bytes as text. -/
import Derived.Test.YtdlbmjbbnplpjaaMj
set_option linter.unusedVariables false
set_option linter.unusedSimpArgs false
namespace Hyp
open Go
/-- The bytes of an element, where slices of T hold e. -/
def elemBy (P : Program) (T : TypeId) (e : Ty) : Option Nat := match P.underlying T with
  | some (.slice et) => match (P.info? et).map (fun i => (i.size, i.bytes, i.zero.map fun z => z.cells.size)) with
    | some (s, y, some s') => bif Nat.beq s e.sz && Nat.beq s' e.sz then some y else none
    | _ => none
  | _ => none
theorem elemBy_ok {P : Program} {T : TypeId} {e : Ty} {y : Nat} (h : elemBy P T e = some y) : ∃ et, ElemIs P T et e.sz y := by
  unfold elemBy at h
  split at h
  · rename_i et hu
    split at h
    · rename_i s y' s' hi
      cases hb : (Nat.beq s e.sz && Nat.beq s' e.sz) <;> rw [hb] at h
      · cases h
      · cases h
        simp only [Bool.and_eq_true] at hb
        have e1 := Nat.eq_of_beq_eq_true hb.1
        have e2 := Nat.eq_of_beq_eq_true hb.2
        subst e1
        subst e2
        exact ⟨et, .of hu hi⟩
    · cases h
  · cases h
def sliceElTy (P : Program) (T : TypeId) : Option Ty := match P.underlying T with
  | some (.slice et) => arrTy P et
  | _ => none
/-- What is appended where there is no room. -/
def tightI {α : Type} (c : Bool) (N : Nat) (xs ys : List α) : Option (List α) := bif c && !ys.isEmpty then appI N xs ys else none
def appendT (P : Program) (T : TypeId) (x y : AV) (L : List En) (b : Nat) : Tree MR := match x with
  | .ro c e xs => match elemBy P T e, rdSl L e y with
    | some by_, some ys => .get (tightI c (140737488355328 / by_) xs ys) fun zs => .ret (.whole b e.sz, ⟨b, b, .row e zs⟩ :: L, b + 1)
    | _, _ => .fail
  | .snil _ => match sliceElTy P T with
    | some e => match elemBy P T e, rdSl L e y with
      | some by_, some ys => .get (appI (140737488355328 / by_) [] ys) fun zs => .ret (.whole b e.sz, ⟨b, b, .row e zs⟩ :: L, b + 1)
      | _, _ => .fail
    | none => .fail
  | .whole k s => match rowTy L k with
    | some e => match elemBy P T e, rowOf L k e, rdSl L e y with
      | some by_, some xs, some ys => bif Nat.beq s e.sz then .get (appI (140737488355328 / by_) xs ys) fun zs => .ret (.whole b e.sz, setE L k ⟨b, b, .row e zs⟩, b + 1) else .fail
      | _, _, _ => .fail
    | none => .fail
  | .win k s lo n => match rowTy L k with
    | some e => match elemBy P T e, rowOf L k e, rdSl L e y with
      | some by_, some xs, some ys => bif Nat.beq s e.sz then .get (appI (140737488355328 / by_) ((xs.drop lo).take n) ys) fun zs => .ret (.whole b e.sz, setE L k ⟨b, b, .row e zs⟩, b + 1) else .fail
      | _, _, _ => .fail
    | none => .fail
  | _ => .fail
section
variable {P : Program} {ty T U S : TypeId} {f : Fr} {w w' : World} {B : Base} {ν ν' : Nms} {b b' : Nat} {L L' : List En} {F : List Ent} {x y : Operand} {p q : AV} {r : Operand → AV}
theorem RV_append {α : Type} {A : RTy α} {Z : Nat → Prop} {xs ys : List α} {cs ds : List Value} {n m : Nat} (h : (RV n A).rel Z w xs cs) (g : (RV m A).rel Z w ys ds) : (RV (n + m) A).rel Z w (xs ++ ys) (cs ++ ds) := by
  obtain ⟨h1, h2, h3, h4⟩ := h
  obtain ⟨g1, g2, g3, g4⟩ := g
  refine ⟨by simp [h1, g1], by rw [List.length_append, h2, g2, Nat.add_mul], ones_append h3 g3, fun i x hx => ?_⟩
  by_cases hi : i < n
  · rw [List.getElem?_append_left (by omega)] at hx
    have h5 := h4 i x hx
    have : (i + 1) * A.sz ≤ n * A.sz := Nat.mul_le_mul_right _ hi
    rw [Nat.succ_mul] at this
    rw [List.drop_append_of_le_length (by omega), List.take_append_of_le_length (by rw [List.length_drop]; omega)]
    exact h5
  · rw [List.getElem?_append_right (by omega), h1] at hx
    have h5 := g4 (i - n) x hx
    have e1 : n * A.sz + (i - n) * A.sz = i * A.sz := by rw [← Nat.add_mul]; congr 1; omega
    have e2 : n * A.sz ≤ i * A.sz := Nat.mul_le_mul_right _ (by omega)
    rw [List.drop_append, List.drop_of_length_le (by omega), List.nil_append, h2, show i * A.sz - n * A.sz = (i - n) * A.sz by omega]
    exact h5
/-- A slice of a row that one owns, in the row's place. -/
theorem Own.shrink {w0 : World} {o : Nat → Prop} {l : List Ent} {i sz N lo n : Nat} {V v : Value} {cs : List Value} (H : Own w0 o w l) (hi : l[i]? = some (row sz V N cs)) (hv : IsSl v n) (hl : lo + n ≤ N) (h4 : v = subv sz V lo (lo + n) ∨ ∃ a, v = .slice a 0 0) :
    Own w0 o w (l.set i (row sz v n ((cs.drop (lo * sz)).take (n * sz)))) := by
  obtain ⟨hV, hlen, hmem⟩ := H.get hi
  have hle : lo * sz + n * sz ≤ cs.length := by rw [hlen, ← Nat.add_mul]; exact Nat.mul_le_mul_right _ hl
  have hcl : ((cs.drop (lo * sz)).take (n * sz)).length = n * sz := by rw [List.length_take, List.length_drop]; omega
  rcases h4 with h4 | ⟨a0, h4⟩
  · obtain ⟨a, c, rfl, hn, hm, ha⟩ := hV
    have key : ∀ ad' m' c', v = .slice (some ad') m' c' → 0 < c' → ∃ ad, a = some ad ∧ ad' = ad.add (lo * sz) ∧ c' = c - lo ∧ 0 < c := by
      intro ad' m' c' he h0
      rw [he] at h4
      simp only [subv, Value.slice.injEq] at h4
      obtain ⟨q1, q2, q3⟩ := h4
      have hne : ¬ c = lo := by omega
      rw [if_neg hne] at q1
      cases a with
      | none => cases q1
      | some ad => exact ⟨ad, rfl, by simpa using q1, q3, by omega⟩
    refine H.put i hi (Nat.le_refl _) (fun _ _ _ => rfl) ⟨hv, hcl, ?_⟩ ?_
    · intro ad' m' c' he h0
      obtain ⟨ad, rfl, rfl, rfl, hc0⟩ := key ad' m' c' he h0
      obtain ⟨hsp, cur, T', z, q1, q2, q3, q4⟩ := hmem ad N c rfl hc0
      refine ⟨spot_add hsp _, cur, T', z, by rw [block_add]; exact q1, q2, ?_, ?_⟩
      · have hoff : (ad.add (lo * sz)).off = ad.off + lo * sz := by
          unfold Addr.add
          split
          · rename_i h; rw [h]; rfl
          · rfl
        have e1 : lo * sz + (c - lo) * sz = c * sz := by rw [← Nat.add_mul]; congr 1; omega
        rw [hoff]; omega
      · intro j hj
        have hoff : (ad.add (lo * sz)).off = ad.off + lo * sz := by
          unfold Addr.add
          split
          · rename_i h; rw [h]; rfl
          · rfl
        rw [hcl] at hj
        rw [hoff, Nat.add_assoc, q4 _ (by omega), List.getElem?_take_of_lt hj, List.getElem?_drop]
    · intro x hx
      rw [row_foot] at hx
      obtain ⟨ad', m', c', he, h0, hb⟩ := hx
      obtain ⟨ad, rfl, rfl, rfl, hc0⟩ := key ad' m' c' he h0
      rw [block_add] at hb
      have hf : (row sz (Value.slice (some ad) N c) N cs).foot x := by rw [row_foot, ownB_iff]; exact ⟨hc0, hb⟩
      exact ⟨(H.low _ (List.mem_of_getElem? hi) x hf).1, fun _ => hf⟩
  · have hn0 : n = 0 := by obtain ⟨_, _, q1, _⟩ := hv; rw [h4] at q1; cases q1; rfl
    subst hn0
    subst h4
    refine H.put i hi (Nat.le_refl _) (fun _ _ _ => rfl) ⟨hv, hcl, ?_⟩ ?_
    · intro ad m c he h0; cases he; omega
    · intro x hx
      rw [row_foot] at hx
      obtain ⟨ad', m', c', he, h0, hb⟩ := hx
      cases he
      omega
theorem appI_len {α : Type} {by_ : Nat} {xs ys zs : List α} (h : appI (140737488355328 / by_) xs ys = some zs) : zs = xs ++ ys ∧ (xs.length + ys.length) * by_ ≤ 140737488355328 ∧ xs.length + ys.length ≤ maxLen := by
  obtain ⟨h1, h2⟩ := appI_some h
  refine ⟨h2, Nat.le_trans (Nat.mul_le_mul_right _ h1) (Nat.div_mul_le_self _ _), ?_⟩
  have h3 : 140737488355328 / by_ ≤ 140737488355328 := Nat.div_le_self _ _
  have : maxLen = 9223372036854775807 := rfl
  omega
/-- Onto a slice that is only read and has no room: always a new array. -/
theorem o_append_tight {w0 : World} {o : Nat → Prop} {l : List Ent} {K : Value → World → Prop} {s x : Operand} {t e sz by_ n m : Nat} {v u : Value} {xs ys : List Value} {S S' : Nat → Prop} (he : ElemIs P t e sz by_) (H : Own w0 o w l) (hs : ev f s = v) (hx : ev f x = u)
    (hv : Sl S' w v n xs) (hlen : xs.length = n * sz) (ht : Tight v) (hm0 : 0 < m) (hu : Sl S w u m ys) (hl : ys.length = m * sz) (hb : (n + m) * by_ ≤ 140737488355328) (hm : n + m ≤ maxLen)
    (h : ∀ v' w', Own w0 o w' (row sz v' (n + m) (xs ++ ys) :: l) → K v' w') :
    OpW P (.call ⟨.builtin .append, #[s, x], #[t, t]⟩) ty f w K := by
  obtain ⟨i, z, hi, hsz, hby, hz, hzs⟩ := he.info
  subst hsz; subst hby
  obtain ⟨⟨a, c, rfl, hn, hcm, ha⟩, hrest⟩ := id hv
  have hcn : c = n := by
    obtain ⟨a', n', h⟩ := ht
    cases h
    rfl
  subst hcn
  have hf := run_first (P := P) hu hl
  have hfo := run_first (P := P) hv hlen
  have hlenOf : (Builtin.lenOf u).run P w = .ok m w := by
    obtain ⟨⟨a', c', rfl, _⟩, _⟩ := hu
    simp [Builtin.lenOf]
  have hty : ∀ d, P.underlying t = some d → (d matches .int _) = false := by intro d hd; rw [he.und] at hd; cases hd; rfl
  have hroom : ¬ c + m ≤ c := by omega
  have hfits := growslice_fits (need := c + m) (old := c) (bytes := i.bytes) (by omega) hb
  have hge := grownCap_ge w (c + m) c e
  have hcap := grownCap_le_maxLen w (c + m) c e hm
  have hmul : (c + m) * i.size = c * i.size + m * i.size := Nat.add_mul _ _ _
  have hsm : ¬ ((c + m : Nat) : Int) > IntKind.i64.max := by
    have : maxLen = 9223372036854775807 := rfl
    rw [this] at hm
    simp [IntKind.max, IntKind.signed, IntKind.bits]
    omega
  refine .of_run (v := .slice (some ⟨w.heap.size, 0, none⟩) (c + m) (grownCap w (c + m) c e)) (w' := w.drew.alloc (.cells ((xs ++ ys).toArray ++ Builtin.zeroCells z.cells (grownCap w (c + m) c e - (c + m))) e)) ?_ (h _ _ ?_)
  · have hsl2 := run_first (P := P) (w := w.drew) (S := fun _ => True) (u := u) (m := m) (ys := ys) (hu.congr (fun _ _ _ => rfl) |>.mono fun _ _ _ => trivial) hl
    have hsl3 := run_first (P := P) (w := w.drew) (S := fun _ => True) (hv.congr (w' := w.drew) (fun _ _ _ => rfl) |>.mono fun _ _ _ => trivial) hlen
    have hch : (choose (.appendCap (c + m) c e)).run P w = .ok (grownCap w (c + m) c e) w.drew := by
      simp [grownCap, Question.forced]
    have hzr : (zeroValue e).run P w.drew = .ok z w.drew := (show ZeroIs P e z from ⟨i, hi, hz⟩).run
    have hbig : ¬ (Builtin.nextslicecap (c + m) c * i.bytes > 2 ^ 48) := by omega
    simp only [execOp, bare, resolve, invoke, builtin, Builtin.append_, Sem.run_bind, Sem.run_pure, Result.andThen_ok, List.map_toArray, List.map_cons, List.map_nil, hs, hx]
    simp [run_und he.und, he.size.run, hlenOf, hroom, run_info hi, hbig, hch, hsl2, hsl3, hzr, Go.newRow]
    rw [if_neg (by
      rintro ⟨h1', _⟩
      have : maxLen = 9223372036854775807 := rfl
      omega)]
    simp [Question.forced, grownCap]
    have hap : (xs ++ ys).toArray = xs.toArray ++ ys.toArray := by simp
    rw [hap, Array.append_assoc]
  · exact (H.drew).newRow (xs ++ ys) (Builtin.zeroCells z.cells (grownCap w (c + m) c e - (c + m))) e i.size (c + m) (grownCap w (c + m) c e) (by simp [hlen, hl, hmul]) hge hcap (by
      rw [size_zeroCells, hzs, ← Nat.add_mul]
      congr 1
      omega)
/-- Onto a row at i, of which v is a part. -/
theorem append_row {e : Ty} {by_ et i k vid lo n : Nat} {xs ys zs : List e.den} {ycs : List Value} (H : Here B ν b w L F) (he : ElemIs P T et e.sz by_) (hi : L[i]? = some (En.mk k vid (.row e xs))) (hset : ∀ x, setE L k x = L.set i x)
    (hrel : (RV xs.length e.rty).rel (B.Z (ents ν L ++ F)) w xs (ν vid).cs) (hv : IsSl (ev f x) n) (hl : lo + n ≤ xs.length) (h4 : ev f x = subv e.sz (ν k).v lo (lo + n) ∨ ∃ a, ev f x = .slice a 0 0)
    (hy : Sl (fun _ => True) w (ev f y) ys.length ycs) (hyr : (RV ys.length e.rty).rel (B.Z (ents ν L ++ F)) w ys ycs) (hz : appI (140737488355328 / by_) ((xs.drop lo).take n) ys = some zs) :
    OpW P (.call ⟨.builtin .append, #[x, y], #[T, T]⟩) ty f w (Gives B ν b w L F (b + 1) (setE L k ⟨b, b, .row e zs⟩) (.whole b e.sz)) := by
  have hat := ents_at (ν := ν) (F := F) hi
  have hil : i < (ents ν L ++ F).length := (List.getElem?_eq_some_iff.1 hat).1
  have hown := H.own.shrink hat hv hl h4
  have hsub := RV_sub hrel hl
  have hnl : ((xs.drop lo).take n).length = n := by simp; omega
  obtain ⟨hz1, hz2, hz3⟩ := appI_len hz
  rw [hnl] at hz2 hz3
  have hcomb := RV_append hsub hyr
  rw [e.sz_rty] at hcomb
  have hyl : ycs.length = ys.length * e.sz := by have := hyr.2.1; rw [e.sz_rty] at this; exact this
  refine o_append (k := i) he (by rw [List.getElem?_set_self hil]) hown rfl rfl hy hyl hyr.2.2.1 hz2 hz3 rfl ?_
  intro v' w' l' hl' hw
  subst hl'
  rw [List.set_set] at hw
  have hlen : zs.length = n + ys.length := by rw [hz1, List.length_append, hnl]
  have hleft := H.set (m := ⟨0, v', ((ν vid).cs.drop (lo * e.sz)).take (n * e.sz) ++ ycs⟩) (e' := ⟨b, b, .row e zs⟩) hi (Nat.lt_succ_self b) rfl (w' := w') (by
    show Own _ _ _ (List.set _ i (row e.sz (updN ν b _ b).v zs.length (updN ν b _ b).cs))
    rw [updN_same, hlen]; exact hw) (fun Z' h => by
      show (RV zs.length e.rty).rel _ _ _ _
      rw [hlen, hz1]
      exact (RV _ e.rty).go hcomb h.mem)
  rw [hset]
  refine ⟨_, hleft, .of ⟨Nat.lt_succ_self b, v', rfl, ?_, by rw [updN_same]⟩⟩
  have hrow := hw.rowIs (k := i) (by rw [List.getElem?_set_self hil])
  rw [vlen_is hrow]
  exact hrow
theorem appendT_ok (H : Here B ν b w L F) (hx : slotR ν b (B.Z (ents ν L ++ F)) w p (ev f x)) (hy : slotR ν b (B.Z (ents ν L ++ F)) w q (ev f y)) : M P (.call ⟨.builtin .append, #[x, y], #[T, T]⟩) ty f B ν b w L F (appendT P T p q L b) := by
  intro a L' b' ha
  unfold appendT at ha
  split at ha
  · rename_i c e xs
    split at ha
    · rename_i by_ ys hb hys
      obtain ⟨zs, hz, ha⟩ := bindE ha
      cases ha
      obtain ⟨et, he⟩ := elemBy_ok hb
      obtain ⟨ycs, hsl, hrel⟩ := rdSl_ok H hy hys
      obtain ⟨⟨xcs, g1, g2, g3, g4⟩, ht⟩ := sl_ro hx
      unfold tightI at hz
      cases hc : (c && !ys.isEmpty) <;> rw [hc] at hz
      · cases hz
      simp only [Bool.and_eq_true, Bool.not_eq_true', List.isEmpty_eq_false_iff] at hc
      obtain ⟨hz1, hz2, hz3⟩ := appI_len hz
      have hyl : ycs.length = ys.length * e.sz := by have := hrel.2.1; rw [e.sz_rty] at this; exact this
      have hxl : xcs.length = xs.length * e.sz := by rw [e.sz_rty] at g2; exact g2
      refine o_append_tight he H.own rfl rfl g1 hxl (ht hc.1) (List.length_pos_iff.2 hc.2) hsl hyl hz2 hz3 ?_
      intro v' w' hw
      have hzl : zs.length = xs.length + ys.length := by rw [hz1, List.length_append]
      have hleft := H.cons (m := ⟨0, v', xcs ++ ycs⟩) (c := .row e zs) (w' := w') (by
        show Own _ _ _ (row e.sz (updN ν b _ b).v zs.length (updN ν b _ b).cs :: _)
        rw [updN_same, hzl]; exact hw) (fun Z' h => by
          show (RV zs.length e.rty).rel _ _ _ _
          rw [hzl, hz1]
          exact (RV _ e.rty).go (RV_append ⟨rfl, g2, g3, g4⟩ hrel) h.mem)
      refine ⟨_, hleft, .of ⟨Nat.lt_succ_self b, v', rfl, ?_, by rw [updN_same]⟩⟩
      have hrow := hw.rowIs (k := 0) rfl
      rw [vlen_is hrow]
      exact hrow
    · cases ha
  · split at ha
    · rename_i e he0
      split at ha
      · rename_i by_ ys hb hys
        obtain ⟨zs, hz, ha⟩ := bindE ha
        cases ha
        obtain ⟨et, he⟩ := elemBy_ok hb
        obtain ⟨ycs, hsl, hrel⟩ := rdSl_ok H hy hys
        obtain ⟨hz1, hz2, hz3⟩ := appI_len hz
        have hyl : ycs.length = ys.length * e.sz := by have := hrel.2.1; rw [e.sz_rty] at this; exact this
        have hown := H.own.nilRow e.sz (v := ev f x) ⟨none, sl_snil hx⟩
        refine o_append (k := 0) he rfl hown rfl rfl hsl hyl hrel.2.2.1 hz2 hz3 rfl ?_
        intro v' w' l' hl' hw
        subst hl'
        simp only [List.set_cons_zero, List.nil_append, Nat.zero_add, List.length_nil] at hw hz1
        subst hz1
        have hleft := H.cons (m := ⟨0, v', ycs⟩) (c := .row e zs) (w' := w') (by
          show Own _ _ _ (row e.sz (updN ν b _ b).v zs.length (updN ν b _ b).cs :: _)
          rw [updN_same]; exact hw) (fun Z' h => (RV _ e.rty).go hrel h.mem)
        refine ⟨_, hleft, .of ⟨Nat.lt_succ_self b, v', rfl, ?_, by rw [updN_same]⟩⟩
        have hrow := hw.rowIs (k := 0) rfl
        rw [vlen_is hrow]
        exact hrow
      · cases ha
    · cases ha
  · rename_i k s
    split at ha
    · rename_i e he0
      split at ha
      · rename_i by_ xs ys hb hxs hys
        cases hc : Nat.beq s e.sz <;> rw [hc] at ha
        · cases ha
        · obtain ⟨zs, hz, ha⟩ := bindE ha
          cases ha
          obtain ⟨et, he⟩ := elemBy_ok hb
          obtain ⟨ycs, hsl, hrel⟩ := rdSl_ok H hy hys
          obtain ⟨i, vid, g1, g2, g3, g4, g5⟩ := rowOf_set H hxs
          obtain ⟨h1, h2, h3⟩ := sl_whole hx
          have hV := H.own.rowIs g2
          refine append_row (lo := 0) (n := xs.length) H he g1 g5 g3 (by rw [h3]; exact hV) (by omega) (.inl (by rw [h3, subv_all hV])) hsl hrel ?_
          rw [List.drop_zero, List.take_length]
          exact hz
      · cases ha
    · cases ha
  · rename_i k s lo n
    split at ha
    · rename_i e he0
      split at ha
      · rename_i by_ xs ys hb hxs hys
        cases hc : Nat.beq s e.sz <;> rw [hc] at ha
        · cases ha
        · have hse := Nat.eq_of_beq_eq_true hc
          subst hse
          obtain ⟨zs, hz, ha⟩ := bindE ha
          cases ha
          obtain ⟨et, he⟩ := elemBy_ok hb
          obtain ⟨ycs, hsl, hrel⟩ := rdSl_ok H hy hys
          obtain ⟨i, vid, g1, g2, g3, g4, g5⟩ := rowOf_set H hxs
          obtain ⟨h1, h2, h3, h4⟩ := sl_win hx
          have hV := H.own.rowIs g2
          rw [vlen_is hV] at h3
          exact append_row H he g1 g5 g3 h2 h3 h4 hsl hrel hz
      · cases ha
    · cases ha
  · cases ha
end
/-! ### Slices of parts -/
def Ty.zenc : Ty → List Value
  | .list _ => [.slice none 0 0]
  | .pair a b => a.zenc ++ b.zenc
  | .rcd t => t.zenc
  | .arr n e => (List.replicate n e.zenc).flatten
  | t => t.enc t.zero
def buildSliceT (P : Program) (T : TypeId) (n : Nat) (r : Operand → AV) (parts : List (Nat × Operand)) (L : List En) (b : Nat) : Tree MR := match P.underlying T, sliceElTy P T with
  | some (.slice et), some e => match elemBy P T e, zeroOf P et with
    | some _, some (_, z) => bif Nat.blt 0 e.sz && (Nat.ble (n * e.sz) 16777216 && vsEq z.cells.toList e.zenc) then
        (bif Nat.beq n 0 then .ret (.whole b e.sz, ⟨b, b, .row e []⟩ :: L, b + 1) else
          match putElems e r (List.replicate n e.zero) parts with | some xs => .ret (.whole b e.sz, ⟨b, b, .row e xs⟩ :: L, b + 1) | none => .fail) else .fail
    | _, _ => .fail
  | _, _ => .fail
/-- Bytes as text. -/
def bytesStrT (P : Program) (S T : TypeId) (x : AV) (L : List En) : Tree AV := match P.underlying S, P.underlying T with
  | some (.slice e), some .string => match P.underlying e with
    | some (.int .u8) => match rdSl L .u8 x with
      | some xs => .ret (.val .str xs)
      | none => .fail
    | _ => .fail
  | _, _ => .fail
section
variable {P : Program} {ty T U S : TypeId} {f : Fr} {w w' : World} {B : Base} {ν ν' : Nms} {b b' : Nat} {L L' : List En} {F : List Ent} {x y : Operand} {p q : AV} {r : Operand → AV}
theorem bytesStrT_ok (H : Here B ν b w L F) (hx : slotR ν b (B.Z (ents ν L ++ F)) w p (ev f x)) : Q P (.convert S T x) ty f w ν b (B.Z (ents ν L ++ F)) (bytesStrT P S T p L) := by
  intro a ha
  unfold bytesStrT at ha
  split at ha
  · rename_i e hs ht
    split at ha
    · rename_i he
      split at ha
      · rename_i xs hxs
        cases ha
        obtain ⟨cs, h1, h2⟩ := rdSl_ok (e := .u8) H hx hxs
        have h3 : cs = (Ty.arr xs.length .u8).enc xs := Ty.rel_enc (.arr xs.length .u8) rfl h2
        rw [h3] at h1
        exact o_bytesStr (l := xs) hs ht he rfl h1 ⟨rfl, sl_mk rfl rfl⟩
      · cases ha
    · cases ha
  · cases ha
theorem zenc_rel : (t : Ty) → ∀ {Z : Nat → Prop} {w : World}, t.rty.rel Z w t.zero t.zenc
  | .sint _, _, _ | .u8, _, _ | .u16, _, _ | .u32, _, _ | .u64, _, _ | .bool, _, _ | .str, _, _ | .unit, _, _ => rfl
  | .list e, _, _ => ⟨.slice none 0 0, rfl, [], Sl.nil _ _, by simp [Ty.zero], rfl, by simp [Ty.zero]⟩
  | .rcd t, _, _ => zenc_rel t
  | .pair a b, _, _ => ⟨_, _, rfl, zenc_rel a, zenc_rel b⟩
  | .arr n e, Z, w => by
    show (RV n e.rty).rel Z w (List.replicate n e.zero) (List.replicate n e.zenc).flatten
    induction n with
    | zero => exact ⟨rfl, by simp, rfl, by simp⟩
    | succ n ih =>
      have h1 : (RV 1 e.rty).rel Z w [e.zero] e.zenc := ⟨rfl, by rw [e.rty.len (zenc_rel e (Z := Z) (w := w)), Nat.one_mul], e.rty.one (zenc_rel e (Z := Z) (w := w)), fun i x hx => by
        have hi : i = 0 := by have := (List.getElem?_eq_some_iff.1 hx).1; simp at this; omega
        subst hi
        simp only [List.getElem?_cons_zero, Option.some.injEq] at hx
        subst hx
        rw [Nat.zero_mul, List.drop_zero, List.take_of_length_le (by rw [e.rty.len (zenc_rel e (Z := Z) (w := w))]; exact Nat.le_refl _)]
        exact zenc_rel e⟩
      have h2 := RV_append h1 ih
      rw [Nat.add_comm] at h2
      exact h2
theorem flat_rep {α : Type} (l : List α) (h : 0 < l.length) : ∀ n j, j < n * l.length → (List.replicate n l).flatten[j]? = l[j % l.length]?
  | 0, j, hj => by omega
  | n + 1, j, hj => by
    rw [List.replicate_succ, List.flatten_cons]
    by_cases h1 : j < l.length
    · rw [List.getElem?_append_left h1, Nat.mod_eq_of_lt h1]
    · rw [Nat.succ_mul] at hj
      rw [List.getElem?_append_right (by omega), flat_rep l h n _ (by omega), ← Nat.mod_eq_sub_mod (by omega)]
theorem o_sliceRow {K : Value → World → Prop} {w0 : World} {o : Nat → Prop} {l : List Ent} {e : Ty} {et by_ n : Nat} {cs : List Value} {parts : Array (Nat × Operand)} {vs : List (Nat × List Value)} {z : Value} (he : ElemIs P T et e.sz by_) (hz : ZeroIs P et z) (hzc : z.cells.toList = e.zenc)
    (hsm : n * e.sz ≤ 16777216) (h0 : 0 < n * e.sz) (hp : partsAre f parts.toList vs) (hf : fillL ((List.range n).map fun i => (i * e.sz, e.sz)) (List.replicate n e.zenc).flatten vs = some cs) (hl : cs.length = n * e.sz) (H : Own w0 o w l)
    (h : ∀ v w', Own w0 o w' (row e.sz v n cs :: l) → K v w') : OpW P (.buildSlice T n parts) ty f w K := by
  have hpos : 0 < e.sz := by rcases Nat.eq_zero_or_pos e.sz with h | h; · rw [h] at h0; omega
                             · exact h
  have hxm : n ≤ maxLen := by
    have : n * 1 ≤ n * e.sz := Nat.mul_le_mul_left _ hpos
    have h2 : maxLen = 9223372036854775807 := rfl
    omega
  refine .of_run (v := .slice (some ⟨w.heap.size, 0, none⟩) n n) (w' := w.alloc (.cells (cs.toArray ++ #[]) et)) ?_ (h _ _ (H.newRow cs #[] et e.sz n n hl (Nat.le_refl _) hxm (by simp)))
  have h2 := fill_wide _ _ _ (fill_of hp hf)
  have h4 : (parts.map fun (i, x) => (i, ev f x)).toList = parts.toList.map fun p => (p.1, ev f p.2) := by simp
  have hzl : z.cells.size = e.sz := by
    have := e.rty.len (zenc_rel e (Z := fun _ => True) (w := w))
    rw [← hzc, e.sz_rty] at this
    simpa using this
  have h6 : (Array.range (n * e.sz)).map (fun i => z.cells[i % z.cells.size]!) = ((List.replicate n e.zenc).flatten).toArray := by
    apply Array.ext'
    rw [← hzc, ← hzl]
    simp only [Array.toList_map, Array.toList_range]
    have hzp : 0 < z.cells.size := by omega
    clear h2 hf hp h hl hsm h0 hxm hzc hzl
    generalize z.cells = zc at hzp
    apply List.ext_getElem?
    intro j
    by_cases hj : j < n * zc.size
    · rw [List.getElem?_map, List.getElem?_range hj]
      simp only [Option.map_some]
      have hm : j % zc.size < zc.size := Nat.mod_lt _ hzp
      rw [getElem!_pos zc (j % zc.size) hm]
      have h7 := flat_rep zc.toList (by simpa using hzp) n j (by simpa using hj)
      rw [h7]
      simp [hm]
    · rw [List.getElem?_eq_none (by simp; omega), List.getElem?_eq_none (by simp; omega)]
  have hz0 : ¬ n * e.sz = 0 := by omega
  have hbig : ¬ (n * e.sz > 2 ^ 24) := by omega
  simp only [execOp, bare, Instr.buildSlice, Sem.run_bind, run_und he.und, Result.andThen_ok, he.size.run, Sem.run_ite, hbig, hz0, if_false, Sem.run_pure, hz.run, h4, h6, h2]
  simp [Go.newRow]
theorem buildSliceT_ok {n : Nat} {parts : Array (Nat × Operand)} (H : Here B ν b w L F) (hr : ∀ x, slotR ν b (B.Z (ents ν L ++ F)) w (r x) (ev f x)) (hn : n = 0 → parts = #[]) : M P (.buildSlice T n parts) ty f B ν b w L F (buildSliceT P T n r parts.toList L b) := by
  intro a L' b' ha
  unfold buildSliceT at ha
  split at ha
  · rename_i et e hu he0
    split at ha
    · rename_i by_ a0 z hb hz
      cases hc : (Nat.blt 0 e.sz && (Nat.ble (n * e.sz) 16777216 && vsEq z.cells.toList e.zenc)) <;> rw [hc] at ha
      · cases ha
      · simp only [Bool.and_eq_true] at hc
        obtain ⟨hz1, _⟩ := zeroOf_ok hz
        obtain ⟨et', he⟩ := elemBy_ok hb
        have het : et' = et := by have := he.und; rw [hu] at this; cases this; rfl
        subst het
        have hpos : 0 < e.sz := Nat.le_of_ble_eq_true hc.1
        simp only [cond_true] at ha
        cases hn0 : Nat.beq n 0 <;> rw [hn0] at ha
        · simp only [cond_false] at ha
          split at ha
          · rename_i xs hp
            cases ha
            have hnn : 0 < n := by rcases Nat.eq_zero_or_pos n with h | h; · rw [h] at hn0; cases hn0
                                   · exact h
            have h0 : (RV n e.rty).rel (B.Z (ents ν L ++ F)) w (List.replicate n e.zero) (List.replicate n e.zenc).flatten := zenc_rel (.arr n e)
            obtain ⟨vs, cs, q1, q2, q3⟩ := putElems_ok hr h0 hp
            have hl : cs.length = n * e.sz := by have := q3.2.1; rw [e.sz_rty] at this; exact this
            refine o_sliceRow he hz1 (vsEq_ok hc.2.2) (Nat.le_of_ble_eq_true hc.2.1) (Nat.mul_pos hnn hpos) q1 q2 hl H.own fun v' w' hw => ?_
            have hxl : xs.length = n := q3.1
            have hleft := H.cons (m := ⟨0, v', cs⟩) (c := .row e xs) (w' := w') (by
              show Own _ _ _ (row e.sz (updN ν b _ b).v xs.length (updN ν b _ b).cs :: _)
              rw [updN_same, hxl]; exact hw) (fun Z' h => by
                show (RV xs.length e.rty).rel _ _ _ _
                rw [hxl]
                exact (RV _ e.rty).go q3 h.mem)
            refine ⟨_, hleft, .of ⟨Nat.lt_succ_self b, v', rfl, ?_, by rw [updN_same]⟩⟩
            have hrow := hw.rowIs (k := 0) rfl
            rw [vlen_is hrow]
            exact hrow
          · cases ha
        · have hn1 := Nat.eq_of_beq_eq_true hn0
          have hp0 := hn hn1
          subst hn1
          subst hp0
          cases ha
          refine o_slice0 he H.own fun v' w' hv hw => ?_
          have hown := hw.nilRow e.sz hv
          have hleft := H.cons (m := ⟨0, v', []⟩) (c := .row e []) (w' := w') (by
            show Own _ _ _ (row e.sz (updN ν b _ b).v 0 (updN ν b _ b).cs :: _)
            rw [updN_same]; exact hown) (fun Z' h => ⟨rfl, by simp, rfl, by simp⟩)
          refine ⟨_, hleft, .of ⟨Nat.lt_succ_self b, v', rfl, ?_, by rw [updN_same]⟩⟩
          obtain ⟨a1, rfl⟩ := hv
          exact ⟨_, _, rfl, Nat.le_refl _, Nat.zero_le _, fun _ => rfl⟩
    · cases ha
  · cases ha
end
end Hyp
