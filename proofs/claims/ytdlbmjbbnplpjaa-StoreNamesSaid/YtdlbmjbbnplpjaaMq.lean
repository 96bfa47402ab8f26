/- Code, loops and functions: what the evaluator tells is so. -/
import Derived.Test.YtdlbmjbbnplpjaaMp
set_option linter.unusedVariables false
set_option linter.unusedSimpArgs false
namespace Hyp
open Go
def Ex.toExit : Ex → Exit
  | .nm => .normal
  | .rt => .ret
  | .ex id => .exit id
  | .go l => .goto l
/-- The cut tells what X does. -/
def SoundX (X : Post → Fr → World → Prop) (ws : List Nat) (c : Cut) : Prop := ∀ avs L b (B : Base) (ν : Nms) (w : World) (F : List Ent) (f : Fr) (Q : Post),
  (c.κ avs L b).Runs (fun r => ∀ f' w' ν', Left B ν b w L F ν' r.2.2.2 w' r.2.2.1 → slotsR ν' r.2.2.2 (B.Z (ents ν' r.2.2.1 ++ F)) w' r.2.1 ((c.outs r.1).map f') → (∀ t, memN ws t = false → f' t = f t) → Q r.1.toExit f' w') →
  Here B ν b w L F → slotsR ν b (B.Z (ents ν L ++ F)) w avs (c.ins.map f) → X Q f w
/-- The cut tells what the code does. -/
abbrev SoundC (P : Program) (n : Nat) (code : Code) (ws : List Nat) (c : Cut) : Prop := SoundX (C P n code) ws c
/-- Slots are within the frame. -/
def bndC (n : Nat) : Code → Bool
  | .region _ ops _ => bnd n ops.toList && Nat.ble n 1000000
  | .seq a c | .cond _ a c => bndC n a && bndC n c
  | .block _ c | .loop c | .scope c => bndC n c
  | _ => true
def CutsOK (P : Program) (n : Nat) (cuts : Nat → Option Cut) : Code → Prop
  | .seq a c | .cond _ a c => CutsOK P n cuts a ∧ CutsOK P n cuts c
  | .block id c => match c with
    | .loop body => ∀ k, cuts id = some k → SoundC P n (.loop body) (wr body) k
    | c => CutsOK P n cuts c
  | .scope c => CutsOK P n cuts c ∧ ∀ l rest, labelOf c = some l → findLabel c l = some rest → ∀ k, cuts (labKey l) = some k → SoundX (JX P n l rest) (wr rest) k
  | _ => True
/-- What stands behind a label is of the whole. -/
theorem wr_rest {t : Nat} : ∀ {c rest : Code} {l : Nat}, findLabel c l = some rest → memN (wr c) t = false → memN (wr rest) t = false
  | .seq a b, rest, l, h, ht => by
    have ht' : memN (wr a) t = false ∧ memN (wr b) t = false := by
      have : ∀ (x y : List Nat), memN (x ++ y) t = false → memN x t = false ∧ memN y t = false := by
        intro x y h
        induction x with
        | nil => exact ⟨rfl, h⟩
        | cons z x ih =>
          simp only [List.cons_append, memN, Bool.or_eq_false_iff] at h ⊢
          exact ⟨⟨h.1, (ih h.2).1⟩, (ih h.2).2⟩
      exact this _ _ ht
    unfold findLabel at h
    split at h
    · rename_i r hr
      cases h
      have h1 := wr_rest hr ht'.1
      show memN (wr r ++ wr b) t = false
      have : ∀ (x y : List Nat), memN x t = false → memN y t = false → memN (x ++ y) t = false := by
        intro x y hx hy
        induction x with
        | nil => exact hy
        | cons z x ih =>
          simp only [List.cons_append, memN, Bool.or_eq_false_iff] at hx ⊢
          exact ⟨hx.1, ih hx.2⟩
      exact this _ _ h1 ht'.2
    · exact wr_rest h ht'.2
  | .label l', rest, l, h, ht => by
    unfold findLabel at h
    split at h
    · cases h; rfl
    · cases h
  | .skip, _, _, h, _ | .exit _, _, _, h, _ | .ret, _, _, h, _ | .region _ _ _, _, _, h, _ | .cond _ _ _, _, _, h, _ | .block _ _, _, _, h, _ | .loop _, _, _, h, _ | .rangeFunc _ _ _ _, _, _, h, _ | .scope _, _, _, h, _ | .goto _, _, _, h, _ | .refuse _, _, _, h, _ => by simp [findLabel] at h
section
variable {P : Program} {n : Nat} {Q : Post} {f : Fr} {w w' w0 : World} {B : Base} {ν ν' ν0 : Nms} {b b' b0 : Nat} {L L' L1 L2 L0 : List En} {F : List Ent} {tab : Tab} {cuts : Nat → Option Cut}
theorem memN_append {a c : List Nat} {t : Nat} (h : memN (a ++ c) t = false) : memN a t = false ∧ memN c t = false := by
  induction a with
  | nil => exact ⟨rfl, h⟩
  | cons x a ih =>
    simp only [List.cons_append, memN, Bool.or_eq_false_iff] at h ⊢
    exact ⟨⟨h.1, (ih h.2).1⟩, (ih h.2).2⟩
theorem slotsAt_ok {Z : Nat → Prop} : ∀ {ds : List Nat} {l : List AV}, slotsR ν b Z w l (ds.map f) → ∀ t, slotR ν b Z w (slotsAt ds l t) (f t)
  | [], l, _, t => by cases l <;> trivial
  | d :: ds, [], h, t => h.elim
  | d :: ds, a :: l, h, t => by
    unfold slotsAt
    cases hc : Nat.beq t d
    · exact slotsAt_ok (ds := ds) h.2 t
    · rw [Nat.eq_of_beq_eq_true hc]; exact h.1
theorem slots_of {Z : Nat → Prop} {sl : Nat → AV} (h : ∀ t, slotR ν b Z w (sl t) (f t)) : ∀ ds : List Nat, slotsR ν b Z w (ds.map sl) (ds.map f)
  | [] => trivial
  | d :: ds => ⟨h d, slots_of h ds⟩
theorem cutIn_ok {avs avs' : List AV} {vs : List Value} (H : Here B ν b w L F) (hs : slotsR ν b (B.Z (ents ν L ++ F)) w avs vs) (h : cutIn avs L b = some (avs', L1, L2, b')) :
    ∃ ν' La, Left B ν b w L F ν' b' w La ∧ La.Perm (L1 ++ L2) ∧ slotsR ν' b' (B.Z (ents ν' La ++ F)) w avs' vs ∧ allIds (memK L1) avs' = true ∧ enKeys (memK L1) L1 = true := by
  unfold cutIn at h
  obtain ⟨⟨a1, La, ba⟩, q1, q2⟩ := bindE h
  obtain ⟨⟨Lb, bb⟩, q3, q4⟩ := bindE q2
  obtain ⟨ν1, g1, g2⟩ := normL_ok H hs q1
  obtain ⟨ν2, g3⟩ := normB_ok g1.here q3
  dsimp only at q4
  generalize hg : grab 1000 (keysOf a1) Lb = pr at q4
  obtain ⟨R, U⟩ := pr
  have hp : Lb.Perm (R ++ U) := by have := grab_perm 1000 (keysOf a1) Lb; rw [hg] at this; exact this
  dsimp only at q4
  cases hc : (allIds (memK R) a1 && enKeys (memK R) R) <;> rw [hc] at q4
  · cases q4
  · cases q4
    simp only [Bool.and_eq_true] at hc
    exact ⟨ν2, Lb, g1.trans g3, hp, g2.later g3.later, hc.1, hc.2⟩
theorem allIdsTrue : ∀ l : List AV, allIds (fun _ => true) l = true
  | [] => rfl
  | a :: l => by simp only [allIds, idsTrue, allIdsTrue l, Bool.and_self]
/-- What is to hold of what code comes to. -/
def EndsC (B : Base) (ν0 : Nms) (b0 : Nat) (w0 : World) (L0 : List En) (F : List Ent) (ws : List Nat) (f : Fr) (Q : Post) (r : Ex × St) : Prop :=
  ∀ f' w', SRel B ν0 b0 w0 L0 F r.2 f' w' → (∀ t, memN ws t = false → f' t = f t) → Q r.1.toExit f' w'
theorem useCut_ok {ws : List Nat} {c : Cut} {st : St} {X : Post → Fr → World → Prop} (hc : SoundX X ws c) (h : (useCut ws c st).Runs (EndsC B ν0 b0 w0 L0 F ws f Q)) (hs : SRel B ν0 b0 w0 L0 F st f w) : X Q f w := by
  unfold useCut at h
  split at h
  · rename_i avs L1 L2 b1 hin
    rw [Tree.runs_bind] at h
    obtain ⟨ν, hl, hsl⟩ := hs
    obtain ⟨ν1, La, g1, hp, g2, g3, g4⟩ := cutIn_ok hl.here (slots_of hsl c.ins) hin
    have H := g1.here
    have hmem : ∀ e ∈ L1, e ∈ La := fun e he => hp.mem_iff.2 (List.mem_append_left _ he)
    obtain ⟨hh, hz⟩ := H.part hp g4
    have hs2 := g2.ren (part_names H hmem g4 rfl).1 g3
    rw [← hz] at hs2
    refine hc _ _ _ B _ w _ f Q (h.mono fun r hr f' w' νc q1 q2 q3 => ?_) hh hs2
    simp only [forceAs_eq, forceL_eq, forceN_eq] at hr
    obtain ⟨ν', hl', hz', hback⟩ := Left.whole H hp g4 q1
    have hall := (hl.trans g1).trans hl'
    refine hr f' w' ⟨ν', hall, fun t => ?_⟩ q3
    cases hm : memN ws t
    · simp only [hm, cond_false]
      rw [q3 t hm]
      exact ((hsl t).later g1.later).later hl'.later
    · simp only [hm, cond_true]
      have q4 := q2.ren (p := fun _ => true) (φ := backN (enIds L1) b1) (fun i hi _ => hback i hi trivial) (allIdsTrue r.2.1)
      rw [hz'] at q4
      exact slotsAt_ok q4 t
  · exact h.elim
/-- An exit at its block. -/
theorem outC {id : Nat} {ws : List Nat} {r : Ex × St} (h : (match r.1 with | .ex i => Tree.ret (bif Nat.beq i id then Ex.nm else .ex i, r.2) | e => .ret (e, r.2)).Runs (EndsC B ν0 b0 w0 L0 F ws f Q)) :
    EndsC B ν0 b0 w0 L0 F ws f (inBlock id Q) r := by
  obtain ⟨e, st⟩ := r
  intro f' w' g1 g2
  cases e with
  | nm => exact h f' w' g1 g2
  | rt => exact h f' w' g1 g2
  | go l => exact h f' w' g1 g2
  | ex i =>
    have h := h f' w' g1 g2
    show (if i = id then Q .normal f' w' else Q (.exit i) f' w')
    cases hi : Nat.beq i id
    · have hne : ¬ i = id := by rintro rfl; simp at hi
      rw [if_neg hne]
      dsimp only at h
      rw [hi] at h
      exact h
    · have he := Nat.eq_of_beq_eq_true hi
      rw [if_pos he]
      dsimp only at h
      rw [hi] at h
      exact h
theorem evC_ok (ht : TabOK P tab) : ∀ (c : Code) (st : St) (f : Fr) (w : World) (Q : Post), CutsOK P n cuts c → bndC n c = true → (evC P tab cuts c st).Runs (EndsC B ν0 b0 w0 L0 F (wr c) f Q) → SRel B ν0 b0 w0 L0 F st f w → C P n c Q f w
  | .skip, st, f, w, Q, hc, hb, h, hs => C_skip (h f w hs fun _ _ => rfl)
  | .exit id, st, f, w, Q, hc, hb, h, hs => C_exit (h f w hs fun _ _ => rfl)
  | .ret, st, f, w, Q, hc, hb, h, hs => C_ret (h f w hs fun _ _ => rfl)
  | .region id ops false, st, f, w, Q, hc, hb, h, hs => by
    simp only [evC, Tree.runs_bind] at h
    obtain ⟨l, rfl⟩ : ∃ l : List Oper, ops = l.toArray := ⟨ops.toList, by simp⟩
    simp only [bndC, Bool.and_eq_true] at hb
    have hbl : bnd n l = true := by simpa using hb.1
    refine C_region hbl ?_
    have h1' : (evL P tab l.toArray l st).Runs fun a => (Tree.ret (Ex.nm, a)).Runs (EndsC B ν0 b0 w0 L0 F (wr (.region id l.toArray false)) f Q) := by simpa using h
    refine evL_ok ht l st f w (h1'.mono fun st' hr f' w' g1 g2 => hr f' w' g1 fun t ht => g2 t ?_) hs
    simpa [wr] using ht
  | .region id ops true, st, f, w, Q, hc, hb, h, hs => by
    simp only [evC, Tree.runs_bind] at h
    simp only [bndC, Bool.and_eq_true] at hb
    obtain ⟨ν, hl, hsl⟩ := hs
    obtain ⟨st', h1, hr⟩ := Tree.strip_runs h
    refine drawn_ok ht hb.1 (Nat.le_of_ble_eq_true hb.2) h1 hl.here hsl fun f' w' ν' g1 g2 g3 => hr f' w' ⟨ν', hl.trans g1, g2⟩ fun t ht => g3 t ?_
    simpa [wr] using ht
  | .seq a c, st, f, w, Q, hc, hb, h, hs => by
    simp only [bndC, Bool.and_eq_true] at hb
    simp only [evC, Tree.runs_bind] at h
    refine C_seq ?_
    refine evC_ok ht a st f w _ hc.1 hb.1 (h.mono fun r hr f' w' g1 g2 => ?_) hs
    obtain ⟨e1, st1⟩ := r
    dsimp only at hr
    cases e1 with
    | nm =>
      refine evC_ok ht c st1 f' w' Q hc.2 hb.2 (Tree.Runs.mono hr fun r2 hr2 f2 w2 q1 q2 => hr2 f2 w2 q1 fun t ht => ?_) g1
      obtain ⟨m1, m2⟩ := memN_append (a := wr a) ht
      rw [q2 t m2, g2 t m1]
    | rt => exact hr f' w' g1 fun t ht => g2 t (memN_append (a := wr a) ht).1
    | go l => exact hr f' w' g1 fun t ht => g2 t (memN_append (a := wr a) ht).1
    | ex id => exact hr f' w' g1 fun t ht => g2 t (memN_append (a := wr a) ht).1
  | .cond x a c, st, f, w, Q, hc, hb, h, hs => by
    simp only [bndC, Bool.and_eq_true] at hb
    obtain ⟨ν, hl, hsl⟩ := hs
    have hx := opA_ok hsl x
    have ka : (evC P tab cuts a st).Runs (EndsC B ν0 b0 w0 L0 F (wr (.cond x a c)) f Q) → C P n a Q f w := fun h => evC_ok ht a st f w Q hc.1 hb.1 (h.mono fun r hr f' w' g1 g2 => hr f' w' g1 fun t ht => g2 t (memN_append (a := wr a) ht).1) ⟨ν, hl, hsl⟩
    have kc : (evC P tab cuts c st).Runs (EndsC B ν0 b0 w0 L0 F (wr (.cond x a c)) f Q) → C P n c Q f w := fun h => evC_ok ht c st f w Q hc.2 hb.2 (h.mono fun r hr f' w' g1 g2 => hr f' w' g1 fun t ht => g2 t (memN_append (a := wr a) ht).2) ⟨ν, hl, hsl⟩
    unfold evC at h
    split at h
    · rename_i hv
      rw [hv] at hx
      exact C_cond (sl_tt hx) (fun _ => ka h) (fun hf => by cases hf)
    · rename_i hv
      rw [hv] at hx
      exact C_cond (sl_ff hx) (fun hf => by cases hf) (fun _ => kc h)
    · rename_i y hv
      rw [hv] at hx
      exact C_cond (sl_bool hx) (fun hy => ka (h.1 hy)) (fun hy => kc (h.2 hy))
    · exact h.elim
  | .block id c, st, f, w, Q, hc, hb, h, hs => by
    by_cases hl : ∃ body, c = .loop body
    · obtain ⟨body, rfl⟩ := hl
      cases hcut : cuts id with
      | none =>
        have h2 : evC P tab cuts (.block id (.loop body)) st = .fail := by
          show (match cuts id with | some k => _ | none => _) = _
          rw [hcut]
        rw [h2] at h
        exact h.elim
      | some k =>
        have h2 : evC P tab cuts (.block id (.loop body)) st = (useCut (wr body) k st).bind fun r => match r.1 with | .ex i => .ret (bif Nat.beq i id then .nm else .ex i, r.2) | e => .ret (e, r.2) := by
          show (match cuts id with | some k => _ | none => _) = _
          rw [hcut]
          rfl
        rw [h2, Tree.runs_bind] at h
        refine C_block ?_
        exact useCut_ok (hc k hcut) (h.mono fun r hr => outC hr) hs
    · have hne : ∀ body, c ≠ .loop body := fun body he => hl ⟨body, he⟩
      have h2 : evC P tab cuts (.block id c) st = (evC P tab cuts c st).bind fun r => match r.1 with | .ex i => .ret (bif Nat.beq i id then .nm else .ex i, r.2) | e => .ret (e, r.2) := by
        cases c <;> first | rfl | exact absurd rfl (hne _)
      have hc2 : CutsOK P n cuts c := by
        cases c <;> first | exact hc | exact absurd rfl (hne _)
      rw [h2, Tree.runs_bind] at h
      refine C_block ?_
      exact evC_ok ht c st f w _ hc2 hb (h.mono fun r hr => outC hr) hs
  | .loop c, st, f, w, Q, hc, hb, h, hs => h.elim
  | .rangeFunc x ps a c, st, f, w, Q, hc, hb, h, hs => h.elim
  | .scope c, st, f, w, Q, hc, hb, h, hs => by
    unfold evC at h
    split at h
    · rename_i l hl
      split at h
      · rename_i rest hrest
        rw [Tree.runs_bind] at h
        refine C_scope hrest ?_
        refine evC_ok ht c st f w _ hc.1 hb (h.mono fun r hr f' w' g1 g2 => ?_) hs
        obtain ⟨e1, st1⟩ := r
        dsimp only at hr
        cases e1 with
        | nm => exact hr f' w' g1 g2
        | rt => exact hr f' w' g1 g2
        | ex i => exact hr f' w' g1 g2
        | go l' =>
          dsimp only at hr
          cases hb' : Nat.beq l' l <;> rw [hb'] at hr
          · exact hr.elim
          · have he := Nat.eq_of_beq_eq_true hb'
            refine ⟨he, ?_⟩
            simp only [cond_true] at hr
            split at hr
            · rename_i k hk
              refine useCut_ok (hc.2 l rest hl hrest k hk) (Tree.Runs.mono hr fun r2 hr2 f2 w2 q1 q2 => hr2 f2 w2 q1 fun t ht => ?_) g1
              rw [q2 t (wr_rest hrest ht), g2 t ht]
            · exact hr.elim
      · exact h.elim
    · exact h.elim
  | .label l, st, f, w, Q, hc, hb, h, hs => C_label (h f w hs fun _ _ => rfl)
  | .goto l, st, f, w, Q, hc, hb, h, hs => C_goto (h f w hs fun _ _ => rfl)
  | .refuse l, st, f, w, Q, hc, hb, h, hs => h.elim
end
/-! ### Loops -/
def roundT (P : Program) (tab : Tab) (cuts : Nat → Option Cut) (body : Code) (c : Cut) (avs : List AV) (L : List En) (b : Nat) : Tree (Ex × List AV × List En × Nat) :=
  (evC P tab cuts body ⟨slotsAt c.ins avs, L, b⟩).bind fun r => (match r.1 with | .nm => useCut (wr body) c r.2 | _ => .ret r).bind fun q => match q.1 with
    | .nm => .fail
    | e => match finT (keysOf avs) ((c.outs e).map q.2.sl) q.2.L q.2.b b with
      | some o => .ret (e, o)
      | none => .fail
/-- A round of a loop comes to what κ says, if the rounds after it are of K. -/
def Rounds (P : Program) (n : Nat) (body : Code) (mk : CutF → Cut) (K : List CutF) (κ : CutF) : Prop := ∀ avs L b R, (κ avs L b).Wp R →
  ∃ tab cuts κ', TabOK P tab ∧ CutsOK P n cuts body ∧ (∀ avs L b R, (κ' avs L b).Wp R → ∃ κ'' ∈ K, (κ'' avs L b).Wp R) ∧ (roundT P tab cuts body (mk κ') avs L b).Wp R
theorem Rounds.mono {P : Program} {n : Nat} {body : Code} {mk : CutF → Cut} {K K' : List CutF} {κ : CutF} (h : Rounds P n body mk K κ) (hk : ∀ κ ∈ K, κ ∈ K') : Rounds P n body mk K' κ := by
  intro avs L b R hw
  obtain ⟨tab, cuts, κ', h1, h2, h3, h4⟩ := h _ _ _ _ hw
  exact ⟨tab, cuts, κ', h1, h2, fun _ _ _ _ q => (h3 _ _ _ _ q).imp fun _ q => ⟨hk _ q.1, q.2⟩, h4⟩
section
variable {P : Program} {n : Nat} {Q : Post} {f : Fr} {w w' w0 : World} {B : Base} {ν ν' ν0 : Nms} {b b' b0 : Nat} {L L' L1 L2 L0 : List En} {F : List Ent}
theorem loop_rounds {body : Code} {ins : List Nat} {outs : Ex → List Nat} {mk : CutF → Cut} {K : Nat → List CutF} (hmk : ∀ κ, mk κ = ⟨ins, outs, κ⟩) (hb : bndC n body = true) (h0 : ∀ κ ∈ K 0, ∀ avs L b R, (κ avs L b).Wp R → False)
    (hstep : ∀ k, ∀ κ ∈ K (k + 1), Rounds P n body mk (K k) κ) : ∀ k, ∀ κ ∈ K k, SoundC P n (.loop body) (wr body) (mk κ) := by
  intro k κ hκ
  rw [hmk]
  intro avs L b B ν w F f Q hrun H hs
  refine C_loop (fun k f w => ∃ κ ∈ K k, ∃ avs L b B ν F, (κ avs L b).Runs (fun r => ∀ f' w' ν', Left B ν b w L F ν' r.2.2.2 w' r.2.2.1 → slotsR ν' r.2.2.2 (B.Z (ents ν' r.2.2.1 ++ F)) w' r.2.1 ((outs r.1).map f') → (∀ t, memN (wr body) t = false → f' t = f t) → Q r.1.toExit f' w') ∧
    Here B ν b w L F ∧ slotsR ν b (B.Z (ents ν L ++ F)) w avs (ins.map f)) k ⟨κ, hκ, avs, L, b, B, ν, F, hrun, H, hs⟩ ?_
  rintro k f w ⟨κ, hκ, avs, L, b, B, ν, F, hrun, H, hs⟩
  cases k with
  | zero => exact (h0 _ hκ _ _ _ _ ⟨hrun⟩).elim
  | succ k =>
    obtain ⟨tab, cuts, κ', ht, hc, hsub, ⟨h⟩⟩ := hstep k κ hκ avs L b _ ⟨hrun⟩
    rw [hmk] at h
    unfold roundT at h
    simp only [Tree.runs_bind] at h
    have hs1 : SRel B ν b w L F ⟨slotsAt ins avs, L, b⟩ f w := ⟨ν, H.stay, slotsAt_ok hs⟩
    -- what comes at the end of the whole
    have fin : ∀ {e2 : Ex} {st2 : St} {f' : Fr} {w' : World}, (match e2 with
        | .nm => Tree.fail
        | e => match finT (keysOf avs) ((outs e).map st2.sl) st2.L st2.b b with
          | some o => .ret (e, o)
          | none => .fail).Runs (fun r : Ex × List AV × List En × Nat => ∀ f' w' ν', Left B ν b w L F ν' r.2.2.2 w' r.2.2.1 → slotsR ν' r.2.2.2 (B.Z (ents ν' r.2.2.1 ++ F)) w' r.2.1 ((outs r.1).map f') → (∀ t, memN (wr body) t = false → f' t = f t) → Q r.1.toExit f' w') →
        SRel B ν b w L F st2 f' w' → (∀ t, memN (wr body) t = false → f' t = f t) → e2 ≠ .nm ∧ Q e2.toExit f' w' := by
      intro e2 st2 f' w' h4 hs2 hfr
      split at h4
      · exact h4.elim
      · rename_i hne
        refine ⟨fun he => hne he, ?_⟩
        split at h4
        · rename_i o hfin
          obtain ⟨ν2, hl2, hsl2⟩ := hs2
          obtain ⟨ν3, g1, g2⟩ := finT_ok hl2 (slots_of hsl2 _) hfin
          exact h4 f' w' ν3 g1 g2 hfr
        · exact h4.elim
    refine evC_ok ht body _ f w _ hc hb (h.mono fun r hr f' w' g1 g2 => ?_) hs1
    obtain ⟨e1, st1⟩ := r
    dsimp only at hr
    cases e1 with
    | nm =>
      -- round again
      dsimp only at hr
      unfold useCut at hr
      split at hr
      · rename_i avs1 L1 L2 b1 hin
        rw [Tree.runs_bind] at hr
        obtain ⟨ν1, hl1, hsl1⟩ := g1
        obtain ⟨ν2, La, k1, hp, k2, k3, k4⟩ := cutIn_ok hl1.here (slots_of hsl1 ins) hin
        have H2 := k1.here
        have hmem : ∀ e ∈ L1, e ∈ La := fun e he => hp.mem_iff.2 (List.mem_append_left _ he)
        obtain ⟨hh, hz⟩ := H2.part hp k4
        have hs2 := k2.ren (part_names H2 hmem k4 rfl).1 k3
        rw [← hz] at hs2
        obtain ⟨κ'', hκ'', ⟨hr⟩⟩ := hsub _ _ _ _ ⟨hr⟩
        refine ⟨k, Nat.lt_succ_self k, κ'', hκ'', _, _, _, B, _, _, hr.mono fun r hr2 f2 w2 νc r1 r2 r3 => ?_, hh, hs2⟩
        simp only [forceAs_eq, forceL_eq, forceN_eq] at hr2
        obtain ⟨ν3, hl3, hz3, hback⟩ := Left.whole H2 hp k4 r1
        have hall := (hl1.trans k1).trans hl3
        refine (fin (e2 := r.1) hr2 ⟨ν3, hall, fun t => ?_⟩ (fun t ht => by rw [r3 t ht, g2 t ht])).2
        cases hm : memN (wr body) t
        · simp only [hm, cond_false]
          rw [r3 t hm]
          exact ((hsl1 t).later k1.later).later hl3.later
        · simp only [hm, cond_true]
          have q4 := r2.ren (p := fun _ => true) (φ := backN (enIds L1) b1) (fun i hi _ => hback i hi trivial) (allIdsTrue r.2.1)
          rw [hz3] at q4
          exact slotsAt_ok q4 t
      · exact hr.elim
    | rt => exact (fin (e2 := .rt) hr g1 g2).2
    | go l => exact (fin (e2 := .go l) hr g1 g2).2
    | ex i => exact (fin (e2 := .ex i) hr g1 g2).2
end
/-! ### Jumps back to a label -/
def roundJ (P : Program) (tab : Tab) (cuts : Nat → Option Cut) (l : Nat) (body : Code) (c : Cut) (avs : List AV) (L : List En) (b : Nat) : Tree (Ex × List AV × List En × Nat) :=
  (evC P tab cuts body ⟨slotsAt c.ins avs, L, b⟩).bind fun r => (match r.1 with | .go l' => bif Nat.beq l' l then useCut (wr body) c r.2 else .fail | _ => .ret r).bind fun q => match q.1 with
    | .go _ => .fail
    | e => match finT (keysOf avs) ((c.outs e).map q.2.sl) q.2.L q.2.b b with
      | some o => .ret (e, o)
      | none => .fail
def RoundsJ (P : Program) (n l : Nat) (body : Code) (mk : CutF → Cut) (K : List CutF) (κ : CutF) : Prop := ∀ avs L b R, (κ avs L b).Wp R →
  ∃ tab cuts κ', TabOK P tab ∧ CutsOK P n cuts body ∧ (∀ avs L b R, (κ' avs L b).Wp R → ∃ κ'' ∈ K, (κ'' avs L b).Wp R) ∧ (roundJ P tab cuts l body (mk κ') avs L b).Wp R
theorem RoundsJ.mono {P : Program} {n l : Nat} {body : Code} {mk : CutF → Cut} {K K' : List CutF} {κ : CutF} (h : RoundsJ P n l body mk K κ) (hk : ∀ κ ∈ K, κ ∈ K') : RoundsJ P n l body mk K' κ := by
  intro avs L b R hw
  obtain ⟨tab, cuts, κ', h1, h2, h3, h4⟩ := h _ _ _ _ hw
  exact ⟨tab, cuts, κ', h1, h2, fun _ _ _ _ q => (h3 _ _ _ _ q).imp fun _ q => ⟨hk _ q.1, q.2⟩, h4⟩
section
variable {P : Program} {n : Nat} {Q : Post} {f : Fr} {w w' w0 : World} {B : Base} {ν ν' ν0 : Nms} {b b' b0 : Nat} {L L' L1 L2 L0 : List En} {F : List Ent}
theorem jump_rounds' {l : Nat} {body : Code} {ins : List Nat} {outs : Ex → List Nat} {mk : CutF → Cut} {K : Nat → List CutF} (hmk : ∀ κ, mk κ = ⟨ins, outs, κ⟩) (hb : bndC n body = true) (h0 : ∀ κ ∈ K 0, ∀ avs L b R, (κ avs L b).Wp R → False)
    (hstep : ∀ k, ∀ κ ∈ K (k + 1), RoundsJ P n l body mk (K k) κ) : ∀ k, ∀ κ ∈ K k, SoundX (fun Q f w => JW P n l body Q k f w) (wr body) (mk κ)
  | 0, κ, hκ => by
    rw [hmk]
    intro avs L b B ν w F f Q hrun H hs
    exact (h0 _ hκ _ _ _ _ ⟨hrun⟩).elim
  | k + 1, κ, hκ => by
    have ih := jump_rounds' hmk hb h0 hstep k
    rw [hmk]
    intro avs L b B ν w F f Q hrun H hs
    obtain ⟨tab, cuts, κ', ht, hc, hsub, ⟨h⟩⟩ := hstep k κ hκ avs L b _ ⟨hrun⟩
    rw [hmk] at h
    unfold roundJ at h
    simp only [Tree.runs_bind] at h
    have hs1 : SRel B ν b w L F ⟨slotsAt ins avs, L, b⟩ f w := ⟨ν, H.stay, slotsAt_ok hs⟩
    have fin : ∀ {e2 : Ex} {st2 : St} {f' : Fr} {w' : World}, (match e2 with
        | .go _ => Tree.fail
        | e => match finT (keysOf avs) ((outs e).map st2.sl) st2.L st2.b b with
          | some o => .ret (e, o)
          | none => .fail).Runs (fun r : Ex × List AV × List En × Nat => ∀ f' w' ν', Left B ν b w L F ν' r.2.2.2 w' r.2.2.1 → slotsR ν' r.2.2.2 (B.Z (ents ν' r.2.2.1 ++ F)) w' r.2.1 ((outs r.1).map f') → (∀ t, memN (wr body) t = false → f' t = f t) → Q r.1.toExit f' w') →
        SRel B ν b w L F st2 f' w' → (∀ t, memN (wr body) t = false → f' t = f t) → Q e2.toExit f' w' := by
      intro e2 st2 f' w' h4 hs2 hfr
      split at h4
      · exact h4.elim
      · split at h4
        · rename_i o hfin
          obtain ⟨ν2, hl2, hsl2⟩ := hs2
          obtain ⟨ν3, g1, g2⟩ := finT_ok hl2 (slots_of hsl2 _) hfin
          exact h4 f' w' ν3 g1 g2 hfr
        · exact h4.elim
    show C P n body (jumpQ l (JW P n l body Q k) Q) f w
    refine evC_ok ht body _ f w _ hc hb (h.mono fun r hr f' w' g1 g2 => ?_) hs1
    obtain ⟨e1, st1⟩ := r
    dsimp only at hr
    cases e1 with
    | nm => exact fin (e2 := .nm) hr g1 g2
    | rt => exact fin (e2 := .rt) hr g1 g2
    | ex i => exact fin (e2 := .ex i) hr g1 g2
    | go l' =>
      dsimp only at hr
      cases hb' : Nat.beq l' l <;> rw [hb'] at hr
      · exact hr.elim
      refine ⟨Nat.eq_of_beq_eq_true hb', ?_⟩
      simp only [cond_true] at hr
      unfold useCut at hr
      split at hr
      · rename_i avs1 L1 L2 b1 hin
        rw [Tree.runs_bind] at hr
        obtain ⟨ν1, hl1, hsl1⟩ := g1
        obtain ⟨ν2, La, k1, hp, k2, k3, k4⟩ := cutIn_ok hl1.here (slots_of hsl1 ins) hin
        have H2 := k1.here
        have hmem : ∀ e ∈ L1, e ∈ La := fun e he => hp.mem_iff.2 (List.mem_append_left _ he)
        obtain ⟨hh, hz⟩ := H2.part hp k4
        have hs2 := k2.ren (part_names H2 hmem k4 rfl).1 k3
        rw [← hz] at hs2
        obtain ⟨κ'', hκ'', ⟨hr⟩⟩ := hsub _ _ _ _ ⟨hr⟩
        have ihk := ih κ'' hκ''
        rw [hmk] at ihk
        refine ihk _ _ _ B _ _ _ _ _ (hr.mono fun r hr2 f2 w2 νc r1 r2 r3 => ?_) hh hs2
        simp only [forceAs_eq, forceL_eq, forceN_eq] at hr2
        obtain ⟨ν3, hl3, hz3, hback⟩ := Left.whole H2 hp k4 r1
        have hall := (hl1.trans k1).trans hl3
        refine fin (e2 := r.1) hr2 ⟨ν3, hall, fun t => ?_⟩ (fun t ht => by rw [r3 t ht, g2 t ht])
        cases hm : memN (wr body) t
        · simp only [hm, cond_false]
          rw [r3 t hm]
          exact ((hsl1 t).later k1.later).later hl3.later
        · simp only [hm, cond_true]
          have q4 := r2.ren (p := fun _ => true) (φ := backN (enIds L1) b1) (fun i hi _ => hback i hi trivial) (allIdsTrue r.2.1)
          rw [hz3] at q4
          exact slotsAt_ok q4 t
      · exact hr.elim
theorem jump_rounds {l : Nat} {body : Code} {ins : List Nat} {outs : Ex → List Nat} {mk : CutF → Cut} {K : Nat → List CutF} (hmk : ∀ κ, mk κ = ⟨ins, outs, κ⟩) (hb : bndC n body = true) (h0 : ∀ κ ∈ K 0, ∀ avs L b R, (κ avs L b).Wp R → False)
    (hstep : ∀ k, ∀ κ ∈ K (k + 1), RoundsJ P n l body mk (K k) κ) : ∀ k, ∀ κ ∈ K k, SoundX (JX P n l body) (wr body) (mk κ) :=
  fun k κ hκ avs L b B ν w F f Q h1 h2 h3 => ⟨k, jump_rounds' hmk hb h0 hstep k κ hκ avs L b B ν w F f Q h1 h2 h3⟩
end
/-! ### Functions -/
def resA (P : Program) (st : St) : List ResultVar → Option (List AV)
  | [] => some []
  | .tmp t :: l => (resA P st l).map fun r => st.sl t :: r
  | .cell a T :: l => match st.sl a with
    | .ptr k o => match loadT P T (.ptr k o) st.L with
      | .ret x => (resA P st l).map fun r => x :: r
      | _ => none
    | _ => none
def prL : List AV → AV
  | [] => .un
  | a :: l => .pr a (prL l)
def oneT : List AV → AV
  | [a] => a
  | l => .tup (prL l)
def okAll : List AV → Bool
  | [] => true
  | a :: l => a.okC && okAll l
def argsSl (avs : List AV) (t : Nat) : AV := match avs, t with
  | [], _ => .und
  | a :: _, 0 => a
  | _ :: l, t + 1 => argsSl l t
/-- At the end: whether rows that the results reach are given up. -/
def endT (fz : Bool) (rs : List AV) (L : List En) : List AV × List En := bif fz then frzK (keysOf rs) rs L else (rs, L)
def fnT (P : Program) (tab : Tab) (cuts : Nat → Option Cut) (fz : Bool) (fn : Func) : Summ := fun avs L b => bif Nat.ble avs.length fn.ntmps then (match fn.body with
  | some c => bif bndC fn.ntmps c then (evC P tab cuts c ⟨argsSl avs, L, b⟩).bind fun r => (match r.1 with
    | .ex _ => .fail
    | .go _ => .fail
    | _ => match resA P r.2 fn.results.toList with
      | some rs => match endT fz rs r.2.L with
        | (rs, L2) => match finT (keysOf avs) rs L2 r.2.b b with
          | some (rs', L', b') => bif okAll rs' then .ret (oneT rs', L', b') else .fail
          | none => .fail
      | none => .fail) else .fail
  | none => .fail) else .fail
section
variable {P : Program} {n : Nat} {Q : Post} {f : Fr} {w w' w0 : World} {B : Base} {ν ν' ν0 : Nms} {b b' b0 : Nat} {L L' L1 L2 L0 : List En} {F : List Ent} {tab : Tab} {cuts : Nat → Option Cut}
theorem slotsR_len {Z : Nat → Prop} : ∀ {l : List AV} {vs : List Value}, slotsR ν b Z w l vs → l.length = vs.length
  | [], [], _ => rfl
  | a :: l, v :: vs, h => by simp [slotsR_len h.2]
  | [], _ :: _, h => h.elim
  | _ :: _, [], h => h.elim
theorem argsSl_ok {Z : Nat → Prop} : ∀ {l : List AV} {vs : List Value}, slotsR ν b Z w l vs → ∀ t, slotR ν b Z w (argsSl l t) (vs[t]?.getD undef)
  | [], [], _, t => rfl
  | a :: l, v :: vs, h, 0 => h.1
  | a :: l, v :: vs, h, t + 1 => by
    show slotR ν b Z w (argsSl l t) _
    simpa using argsSl_ok h.2 t
  | [], _ :: _, h, _ => h.elim
  | _ :: _, [], h, _ => h.elim
theorem load_run {T : TypeId} {x : Operand} {ty : TypeId} {ad : Addr} {K : Value → World → Prop} (hx : ev f x = .pointer (some ad)) (h : OpW P (.load T x) ty f w K) : ∃ v w', (loadVar T ad).run P w = .ok v w' ∧ K v w' := by
  unfold OpW after at h
  simp only [execOp, bare, hx, Instr.loadAt, Instr.sureAddr, Sem.run_bind, Sem.run_pure, Result.andThen_ok] at h
  cases hr : (loadVar T ad).run P w <;> rw [hr] at h <;> simp at h
  exact ⟨_, _, rfl, h⟩
theorem resA_ok (H : Here B ν b w L F) {sl : Nat → AV} (hs : ∀ t, slotR ν b (B.Z (ents ν L ++ F)) w (sl t) (f t)) : ∀ {l : List ResultVar} {rs : List AV}, resA P ⟨sl, L, b⟩ l = some rs →
    ∃ vs : List Value, slotsR ν b (B.Z (ents ν L ++ F)) w rs vs ∧ ∀ tmps : Array Value, (fun t => tmps.getD t undef) = f → (l.mapM (resSem tmps)).run P w = .ok vs w
  | [], rs, h => by cases h; exact ⟨[], trivial, fun _ _ => rfl⟩
  | .tmp t :: l, rs, h => by
    unfold resA at h
    simp only [Option.map_eq_some_iff] at h
    obtain ⟨r, h1, rfl⟩ := h
    obtain ⟨vs, g2, g1⟩ := resA_ok H hs h1
    refine ⟨f t :: vs, ⟨hs t, g2⟩, fun tmps htm => ?_⟩
    have ht : tmps.getD t undef = f t := congrFun htm t
    simp only [List.mapM_cons, resSem, Sem.run_bind, Sem.run_pure, Result.andThen_ok, g1 tmps htm, ht]
  | .cell a T :: l, rs, h => by
    unfold resA at h
    split at h
    · rename_i k o ha
      split at h
      · rename_i x hx
        simp only [Option.map_eq_some_iff] at h
        obtain ⟨r, h1, rfl⟩ := h
        obtain ⟨vs, g2, g1⟩ := resA_ok H hs h1
        have hsa := hs a
        rw [show sl a = AV.ptr k o from ha] at hsa
        have hload := loadT_ok (P := P) (T := T) (ty := 0) (x := .tmp a) H hsa x (by rw [hx]; rfl)
        obtain ⟨v, w2, q1, hw2, q3⟩ := load_run (f := f) (x := .tmp a) (sl_ptr hsa).2 hload
        rw [hw2] at q1
        refine ⟨v :: vs, ⟨q3, g2⟩, fun tmps htm => ?_⟩
        have ht : tmps.getD a undef = f a := congrFun htm a
        simp only [List.mapM_cons, resSem, Sem.run_bind, Sem.run_pure, Result.andThen_ok, g1 tmps htm, ht, (sl_ptr hsa).2, asAddr, q1]
      · cases h
    · cases h
theorem okAll_T {Z : Nat → Prop} : ∀ {l : List AV} {vs : List Value}, okAll l = true → slotsR ν b Z w l vs → avT ν b Z w (prL l) vs
  | [], [], _, _ => rfl
  | a :: l, v :: vs, h, hs => by
    simp only [okAll, Bool.and_eq_true] at h
    refine ⟨v, vs, rfl, ?_, okAll_T h.2 hs.2⟩
    obtain ⟨k1, k2, k3⟩ := AV.okC_ok h.1
    have := hs.1
    unfold slotR at this
    split at this
    · exact absurd rfl k2
    · exact absurd rfl k3
    · exact (k1 _ rfl).elim
    · exact this
  | [], _ :: _, _, h => h.elim
  | _ :: _, [], _, h => h.elim
theorem oneT_ok {Z : Nat → Prop} {rs : List AV} {vs : List Value} (ho : okAll rs = true) (hs : slotsR ν b Z w rs vs) : slotR ν b Z w (oneT rs) (if h : vs.toArray.size = 1 then vs.toArray[0] else .tuple vs.toArray) := by
  have hl := slotsR_len hs
  unfold oneT
  split
  · rename_i a
    match vs, hs with
    | [v], hs => exact hs.1
  · rename_i hne
    have : ¬ vs.toArray.size = 1 := by
      intro h
      have h2 : rs.length = 1 := by rw [hl]; simpa using h
      obtain ⟨a, ha⟩ := List.length_eq_one_iff.1 h2
      exact hne a ha
    rw [dif_neg this]
    exact ⟨vs, rfl, okAll_T ho hs⟩
theorem fn_sound {g : FuncId} {fn : Func} {c : Code} {S : Summ} (fz : Bool) (hf : P.funcs[g]? = some fn) (hbd : fn.body = some c) (ht : TabOK P tab) (hc : CutsOK P fn.ntmps cuts c)
    (hS : ∀ avs L b R, (S avs L b).Wp R → (fnT P tab cuts fz fn avs L b).Wp R) : SoundF P g S := by
  intro avs L b R hrun B ν w F vs H hs
  have h := (hS avs L b _ ⟨hrun⟩).h
  unfold fnT at h
  cases hle : Nat.ble avs.length fn.ntmps <;> rw [hle] at h
  · exact h.elim
  rw [hbd] at h
  dsimp only [cond_true] at h
  cases hbc : bndC fn.ntmps c <;> rw [hbc] at h
  · exact h.elim
  rw [cond_true, Tree.runs_bind] at h
  refine calls_C hf hbd rfl (by simpa [slotsR_len hs] using hle) ?_
  have hs1 : SRel B ν b w L F ⟨argsSl avs, L, b⟩ (frame0 vs.toArray) w := ⟨ν, H.stay, fun t => by
    have := argsSl_ok hs t
    simpa [frame0, Array.getD_eq_getD_getElem?] using this⟩
  refine evC_ok ht c _ _ w _ hc hbc (h.mono fun r hr f' w' g1 _ => ?_) hs1
  obtain ⟨e, st⟩ := r
  have fin : (match resA P st fn.results.toList with
      | some rs => match endT fz rs st.L with
        | (rs, L2) => match finT (keysOf avs) rs L2 st.b b with
          | some (rs', L', b') => bif okAll rs' then Tree.ret (oneT rs', L', b') else .fail
          | none => .fail
      | none => .fail).Runs R → ∃ v, resOf P fn f' w' v ∧ GivesR B ν b w L F R v w' := by
    intro h2
    split at h2
    · rename_i rs hrs
      generalize hend : endT fz rs st.L = pr at h2
      obtain ⟨rsE, LE⟩ := pr
      dsimp only at h2
      split at h2
      · rename_i rs' L2 b2 hfin
        cases hok : okAll rs' <;> rw [hok] at h2
        · exact h2.elim
        · obtain ⟨ν1, hl1, hsl1⟩ := g1
          obtain ⟨vs, q2, q1⟩ := resA_ok hl1.here hsl1 hrs
          have hE : Left B ν b w L F ν1 st.b w' LE ∧ slotsR ν1 st.b (B.Z (ents ν1 LE ++ F)) w' rsE vs := by
            unfold endT at hend
            cases fz
            · cases hend; exact ⟨hl1, q2⟩
            · simp only [cond_true] at hend
              have := frzK_ok (ks := keysOf rs) hl1 q2
              rw [hend] at this
              exact this
          obtain ⟨ν2, r1, r2⟩ := finT_ok hE.1 hE.2 hfin
          refine ⟨if h : vs.toArray.size = 1 then vs.toArray[0] else .tuple vs.toArray, fun tmps htm => ?_, _, h2, ν2, r1, oneT_ok hok r2⟩
          rw [results_eq, Array.mapM_eq_mapM_toList]
          simp only [Sem.run_bind, Sem.run_map, q1 tmps htm, Result.andThen_ok, Sem.run_pure]
      · exact h2.elim
    · exact h2.elim
  dsimp only at hr
  cases e with
  | nm => exact fin hr
  | rt => exact fin hr
  | go l => exact hr.elim
  | ex i => exact hr.elim
end
end Hyp
