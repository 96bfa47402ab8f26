/- Text as bytes; function values and their calls; rows given up ahead of an operation. -/
import Derived.Test.YtdlbmjbbnplpjaaOg
set_option linter.unusedVariables false
set_option linter.unusedSimpArgs false
namespace Hyp
open Go
/-- A row given up, as operands see it. -/
def frzO (k : Nat) (e : Ty) (xs : List e.den) (r : Operand → AV) : Operand → AV := fun x => (AV.frz k e xs (r x)).getD (r x)
/-- The rows of those keys are given up. -/
def frzR : List Nat → (Operand → AV) → List En → (Operand → AV) × List En
  | [], r, L => (r, L)
  | k :: ks, r, L => match takeE L k with
    | some (⟨k', _, .row e xs⟩, L') => match frzL k e xs L' with
      | some L'' => bif Nat.beq k' k then frzR ks (frzO k e xs r) L'' else frzR ks r L
      | none => frzR ks r L
    | _ => frzR ks r L
/-- Of which operands the rows must be only read. -/
def frzKeys (r : Operand → AV) (L : List En) : Op → List Nat
  | .buildSlice _ _ ps => keysOf (ps.toList.map fun p => r p.2)
  | .mapUpdate _ _ k x => (r k).keys ++ (r x).keys
  | .store _ x y => match r x with
    | .rowp _ _ _ _ | .pel _ _ _ _ _ _ => (r y).keys
    | _ => []
  | .build _ _ => []
  | _ => []
section
variable {P : Program} {ty T U S : TypeId} {f : Fr} {w w' : World} {B : Base} {ν ν' : Nms} {b b' : Nat} {Z : Nat → Prop} {L L' : List En} {F : List Ent} {x y z k : Operand} {p q a : AV} {kt vt t : Ty} {v u : Value} {op : BinOp} {r : Operand → AV}
theorem M'.pre {op : Op} {L1 : List En} {t : Tree MR} (h : Left B ν b w L F ν b w L1) (hm : M' P op ty f B ν b w L1 F t) : M' P op ty f B ν b w L F t := by
  intro R hr
  exact (hm R hr).mono fun v w' ⟨res, h1, ν', hl, hv⟩ => ⟨res, h1, ν', h.trans hl, hv⟩
theorem frzR_ok : ∀ {ks : List Nat} {r : Operand → AV} {L : List En}, Here B ν b w L F → (∀ x, slotR ν b (B.Z (ents ν L ++ F)) w (r x) (ev f x)) →
    Left B ν b w L F ν b w (frzR ks r L).2 ∧ ∀ x, slotR ν b (B.Z (ents ν (frzR ks r L).2 ++ F)) w ((frzR ks r L).1 x) (ev f x)
  | [], r, L, H, hr => ⟨H.stay, hr⟩
  | k :: ks, r, L, H, hr => by
    unfold frzR
    split
    · rename_i k' vid e xs L' ht
      split
      · rename_i L2 h1
        cases hb : Nat.beq k' k
        · exact frzR_ok H hr
        · obtain rfl := Nat.eq_of_beq_eq_true hb
          obtain ⟨g1, _⟩ := freeze_ok (rs := []) (vs := []) (rs' := []) H.stay ht h1 trivial rfl
          have hsl : ∀ x, slotR ν b (B.Z (ents ν L2 ++ F)) w (frzO k' e xs r x) (ev f x) := by
            intro x
            unfold frzO
            cases hx : AV.frz k' e xs (r x) with
            | none => exact (hr x).later g1.later
            | some a' =>
              obtain ⟨_, g2⟩ := freeze_ok (rs := [r x]) (vs := [ev f x]) (rs' := [a']) H.stay ht h1 ⟨hr x, trivial⟩ (by simp [frzs, hx])
              exact g2.1
          obtain ⟨q1, q2⟩ := frzR_ok (ks := ks) g1.here hsl
          exact ⟨g1.trans q1, q2⟩
      · exact frzR_ok H hr
    · exact frzR_ok H hr
/-! ### Text as bytes -/
theorem strBytesT_ok (H : Here B ν b w L F) (hx : slotR ν b (B.Z (ents ν L ++ F)) w p (ev f x)) : M P (.convert S T x) ty f B ν b w L F (strBytesT P S T p L b) := by
  intro a L' b' ha
  unfold strBytesT at ha
  split at ha
  · rename_i s
    split at ha
    · rename_i e hs ht
      split at ha
      · rename_i he
        obtain ⟨xs, h1, h2⟩ := bindE ha
        cases h2
        unfold bytesI at h1
        split at h1
        · rename_i hlen
          cases h1
          have hv : ev f x = .string ⟨s.toArray⟩ := sl_str hx
          have hsz : (ByteArray.mk s.toArray).size = s.length := by simp [ByteArray.size]
          have hrun := run_bytes_of_string (P := P) w S T e ⟨s.toArray⟩ hs ht he
          rw [hsz] at hrun
          have hcap : s.length ≤ grownCap w s.length 0 e ∧ grownCap w s.length 0 e ≤ maxLen := by
            have hm : maxLen = 9223372036854775807 := rfl
            unfold grownCap Question.cut
            simp only
            have : w.tape w.drawn (.appendCap s.length 0 e) % (2 ^ 63 - s.length) < 2 ^ 63 - s.length := Nat.mod_lt _ (by omega)
            omega
          have hrow : (bytesRow ⟨s.toArray⟩ (grownCap w s.length 0 e)) = (s.map fun c => Value.int .u8 ((c.toNat : Nat) : Int)).toArray ++ Array.replicate (grownCap w s.length 0 e - s.length) (.int .u8 0) := by
            unfold bytesRow
            rw [hsz]
            congr 1
            simp
          have hbs : (bytesRow ⟨s.toArray⟩ (grownCap w s.length 0 e)).size = grownCap w s.length 0 e := by
            rw [hrow]; simp; omega
          have hl := H.cons (m := ⟨0, .slice (some ⟨w.heap.size, 0, none⟩) s.length (grownCap w s.length 0 e), s.map fun c => Value.int .u8 ((c.toNat : Nat) : Int)⟩) (c := .row .u8 s)
            (w' := w.drew.alloc (.cells (bytesRow ⟨s.toArray⟩ (grownCap w s.length 0 e)) e ((bytesRow ⟨s.toArray⟩ (grownCap w s.length 0 e)).size, (bytesRow ⟨s.toArray⟩ (grownCap w s.length 0 e)).size + 1))) (by
              show Own _ _ _ (row 1 (updN ν b _ b).v s.length (updN ν b _ b).cs :: _)
              rw [updN_same]
              have h1 := H.own.drew.alloc (.cells (bytesRow ⟨s.toArray⟩ (grownCap w s.length 0 e)) e ((bytesRow ⟨s.toArray⟩ (grownCap w s.length 0 e)).size, (bytesRow ⟨s.toArray⟩ (grownCap w s.length 0 e)).size + 1))
              have h2 := h1.put (w' := w.drew.alloc _) 0 (e' := row 1 (.slice (some ⟨w.heap.size, 0, none⟩) s.length (grownCap w s.length 0 e)) s.length (s.map fun c => Value.int .u8 ((c.toNat : Nat) : Int))) rfl (Nat.le_refl _) (fun b _ _ => rfl)
                ⟨⟨_, _, rfl, hcap.1, hcap.2, fun h => by cases h⟩, by simp, by
                  rintro ad m c' hc _
                  cases hc
                  refine ⟨rfl, _, e, _, h1.get (k := 0) rfl, fun i hi => by simp only; omega, by show 0 + _ * 1 ≤ _; rw [hbs]; omega, fun j hj => ?_⟩
                  rw [hrow]
                  have hj' : j < s.length := by simpa using hj
                  simp [Array.getElem?_append, hj']⟩
                (fun b hb => by rw [row_foot, ownB_iff] at hb; obtain ⟨_, hb⟩ := hb; simp only at hb; subst hb; exact ⟨by show w.heap.size < (w.heap.push _).size; simp, fun _ => rfl⟩)
              simpa using h2) (fun Z' h => by
              show (RV s.length (Ty.rty .u8)).rel Z' _ s (s.map fun c => Value.int .u8 ((c.toNat : Nat) : Int))
              refine ⟨rfl, by show _ = s.length * 1; simp, ?_, fun i c hc => ?_⟩
              · simp only [ones, List.all_eq_true]
                intro v hv
                obtain ⟨c, _, rfl⟩ := List.mem_map.1 hv
                rfl
              · show _ = [_]
                have hi := (List.getElem?_eq_some_iff.1 hc).1
                show ((s.map fun c => Value.int .u8 ((c.toNat : Nat) : Int)).drop (i * 1)).take 1 = [Hyp.u8 c]
                rw [Nat.mul_one]
                have h6 : (s.map fun c => Value.int .u8 ((c.toNat : Nat) : Int))[i]? = some (Hyp.u8 c) := by rw [List.getElem?_map, hc]; rfl
                obtain ⟨h7, h8⟩ := List.getElem?_eq_some_iff.1 h6
                rw [List.drop_eq_getElem_cons h7, h8]
                rfl)
          refine .of_run (v := .slice (some ⟨w.heap.size, 0, none⟩) s.length (grownCap w s.length 0 e)) ?_ ⟨_, hl, .of ?_⟩
          · simp only [execOp, bare, hv, Sem.run_bind, hrun, Result.andThen_ok, Sem.run_pure]
          · show avV _ _ _ _ (.whole b 1) _
            unfold avV
            refine ⟨Nat.lt_succ_self b, _, rfl, ⟨_, _, rfl, hcap.1, hcap.2, fun h => by cases h⟩, ?_⟩
            rw [updN_same]
        · cases h1
      · cases ha
    · cases ha
  · cases ha
/-! ### Function values -/
theorem capsA_ok : ∀ {l : List AV} {vs : List Value} {a : AV}, capsA l = some a → slotsR ν b Z w l vs → avC ν b Z w a vs
  | [], [], a, h, _ => by cases h; exact rfl
  | c :: l, v :: vs, a, h, hs => by
    unfold capsA at h
    cases hc : (c.okC && (!c.isAgg && Nat.beq c.csz 1)) <;> rw [hc] at h
    · cases h
    · simp only [cond_true, Option.map_eq_some_iff] at h
      obtain ⟨r, h1, rfl⟩ := h
      simp only [Bool.and_eq_true, Bool.not_eq_true'] at hc
      obtain ⟨k1, k2, k3⟩ := AV.okC_ok hc.1
      have hv : avV ν b Z w c v := by
        have hs1 := hs.1
        unfold slotR at hs1
        split at hs1
        · exact absurd rfl k2
        · exact absurd rfl k3
        · exact (k1 _ rfl).elim
        · exact hs1
      unfold avV at hv
      rw [if_neg (by simp [hc.2.1])] at hv
      exact ⟨[v], vs, rfl, hv, capsA_ok h1 hs.2⟩
  | [], _ :: _, _, _, h => h.elim
  | _ :: _, [], _, _, h => h.elim
theorem capsL_ok : ∀ {a : AV} {l : List AV} {vs : List Value}, capsL a = some l → avC ν b Z w a vs → slotsR ν b Z w l vs
  | .un, l, vs, h, H => by
    cases h
    have : vs = [] := H
    subst this
    exact trivial
  | .pr c d, l, vs, h, H => by
    unfold capsL at h
    cases hc : (c.okC && (!c.isAgg && Nat.beq c.csz 1)) <;> rw [hc] at h
    · cases h
    · simp only [cond_true, Option.map_eq_some_iff] at h
      obtain ⟨l', h1, rfl⟩ := h
      simp only [Bool.and_eq_true, Bool.not_eq_true'] at hc
      obtain ⟨c1, c2, rfl, g1, g2⟩ := H
      have hl := g1.len
      rw [Nat.eq_of_beq_eq_true hc.2.2] at hl
      obtain ⟨v, rfl⟩ := List.length_eq_one_iff.1 hl
      refine ⟨.of ?_, capsL_ok h1 g2⟩
      unfold avV
      rw [if_neg (by simp [hc.2.1])]
      exact g1
  | .any, _, _, h, _ | .und, _, _, h, _ | .tup _, _, _, h, _ | .tt, _, _, h, _ | .ff, _, _, h, _ | .nil, _, _, h, _ | .mnil, _, _, h, _ | .fnil, _, _, h, _ | .snil _, _, _, h, _ | .val _ _, _, _, h, _ | .agg _, _, _, h, _ | .ptr _ _, _, _, h, _
  | .pel _ _ _ _ _ _, _, _, h, _ | .rowp _ _ _ _, _, _, h, _ | .rop _ _ _ _ _, _, _, h, _ | .whole _ _, _, _, h, _ | .win _ _ _ _, _, _, h, _ | .bwin _ _ _ _ _ _, _, _, h, _ | .ro _ _ _, _, _, h, _ | .mpv _, _, _, h, _ | .clo _ _, _, _, h, _ => by cases h
theorem makeFuncT_ok {fn : Fn} {first caps : Array Operand} (hr : ∀ x, slotR ν b Z w (r x) (ev f x)) : Q P (.makeFunc fn first caps) ty f w ν b Z (makeFuncT fn first.toList (caps.toList.map r)) := by
  refine Q.of fun a ha => ?_
  unfold makeFuncT at ha
  split at ha
  · rename_i g hfirst
    split at ha
    · rename_i c hc
      cases ha
      have hs : ∀ l : List Operand, slotsR ν b Z w (l.map r) (l.map (ev f)) := by
        intro l
        induction l with
        | nil => exact trivial
        | cons x l ih => exact ⟨hr x, ih⟩
      have h1 := capsA_ok hc (hs caps.toList)
      have hf0 : first = #[] := by apply Array.ext'; exact hfirst
      subst hf0
      refine ⟨.func (.func g) #[] (caps.map (ev f)), ?_, .of ?_⟩
      · simp [execOp, bare, Instr.makeFunc]
      · unfold avV
        refine ⟨caps.toList.map (ev f), ?_, h1⟩
        congr 2
        apply Array.ext'
        simp
    · cases ha
  · cases ha
/-- A call of a function value. -/
theorem callV_ok {S : Summ} {avs caps : List AV} {g : FuncId} {fn : Func} {args : Array Operand} {fx : Operand} {c : AV} {ts : Array TypeId} (hS : SoundF P g S) (hf : P.funcs[g]? = some fn) (hn : callable fn = true) (hx : slotR ν b (B.Z (ents ν L ++ F)) w (.clo g c) (ev f fx))
    (hc : capsL c = some caps) (H : Here B ν b w L F) (ha : slotsR ν b (B.Z (ents ν L ++ F)) w avs (args.toList.map (ev f))) : M' P (.call ⟨.value fx, args, ts⟩) ty f B ν b w L F (callT S (avs ++ caps) L b) := by
  obtain ⟨vs, h1, h2⟩ := hx
  have h1 := List.head_eq_of_cons_eq (show [_] = [_] from h1)
  have hcs := capsL_ok hc h2
  have happ : slotsR ν b (B.Z (ents ν L ++ F)) w (avs ++ caps) (args.toList.map (ev f) ++ vs) := by
    have : ∀ {l m : List AV} {us ts : List Value}, slotsR ν b (B.Z (ents ν L ++ F)) w l us → slotsR ν b (B.Z (ents ν L ++ F)) w m ts → slotsR ν b (B.Z (ents ν L ++ F)) w (l ++ m) (us ++ ts) := by
      intro l
      induction l with
      | nil => intro m us ts h1 h2; cases us with
        | nil => exact h2
        | cons _ _ => exact h1.elim
      | cons a l ih => intro m us ts h1 h2; cases us with
        | nil => exact h1.elim
        | cons _ _ => exact ⟨h1.1, ih h1.2 h2⟩
    exact this ha hcs
  intro R hr
  have key := callT_ok (P := P) (ty := ty) (f := fun t => ((args.toList.map (ev f) ++ vs)[t]?).getD undef) (c := ⟨.value (.func g), ((List.range (args.toList.map (ev f) ++ vs).length).map Operand.tmp).toArray, ts⟩)
    (args := (List.range (args.toList.map (ev f) ++ vs).length).map Operand.tmp) hS rfl hf hn rfl H (by
      have : ((List.range (args.toList.map (ev f) ++ vs).length).map Operand.tmp).map (ev fun t => ((args.toList.map (ev f) ++ vs)[t]?).getD undef) = args.toList.map (ev f) ++ vs := by
        apply List.ext_getElem?
        intro i
        rw [List.map_map, List.getElem?_map]
        by_cases hi : i < (args.toList.map (ev f) ++ vs).length
        · rw [List.getElem?_range hi]
          simp only [Option.map_some, Function.comp, ev]
          rw [List.getElem?_eq_getElem hi]
          rfl
        · rw [List.getElem?_eq_none (by simpa using hi), List.getElem?_eq_none (by omega)]
          rfl
      rw [this]
      exact happ) R hr
  have hsame : (execOp (ev f) (bare (.call ⟨.value fx, args, ts⟩) ty)).run P w = (execOp (ev fun t => ((args.toList.map (ev f) ++ vs)[t]?).getD undef) (bare (.call ⟨.value (.func g), ((List.range (args.toList.map (ev f) ++ vs).length).map Operand.tmp).toArray, ts⟩) ty)).run P w := by
    have hargs : (((List.range (args.toList.map (ev f) ++ vs).length).map Operand.tmp).toArray).map (ev fun t => ((args.toList.map (ev f) ++ vs)[t]?).getD undef) = args.map (ev f) ++ vs.toArray := by
      apply Array.ext'
      rw [Array.toList_map, Array.toList_append, Array.toList_map]
      simp only [List.map_map]
      apply List.ext_getElem?
      intro i
      rw [List.getElem?_map]
      by_cases hi : i < (args.toList.map (ev f) ++ vs).length
      · rw [List.getElem?_range hi]
        simp only [Option.map_some, Function.comp, ev]
        rw [List.getElem?_eq_getElem hi]
        rfl
      · rw [List.getElem?_eq_none (by simpa using hi), List.getElem?_eq_none (by simpa using hi)]
        rfl
    have evg : ev (fun t => ((args.toList.map (ev f) ++ vs)[t]?).getD undef) (.func g) = .func (.func g) #[] #[] := rfl
    simp only [execOp, bare, resolve, h1, hargs, evg]
    simp [Deferred.ofValue, invoke]
  unfold OpW at key ⊢
  rw [hsame]
  exact key
end
end Hyp
