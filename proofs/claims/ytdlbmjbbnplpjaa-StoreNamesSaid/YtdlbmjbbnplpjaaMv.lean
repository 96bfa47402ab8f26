/- What the evaluation of a drawn region tells of each operation. -/
import Derived.Test.YtdlbmjbbnplpjaaMu
set_option linter.unusedVariables false
set_option linter.unusedSimpArgs false
namespace Hyp
open Go
def srcEn (R : Recs) (L0 : List En) (m j : Nat) : List En := bif Nat.blt j m then (recAt R j).out else (match nthE L0 (j - m) with | some e => [e] | none => [])
/-- What is known of what was asked. -/
def KF (R : Recs) (kn : List (Nat × Bool)) (k : Nat) : Prop := ∀ j c, lookB kn j = some c → j < k ∧ ∀ x, (recAt R j).a = .val .bool x → x = c
def IsW (R : Recs) (j : Nat) (want : Bool) : Prop := ∀ ν b Z w v, slotR ν b Z w (recAt R j).a v → v = .bool want
def NotW (R : Recs) (j : Nat) (want : Bool) : Prop := ∀ ν b Z w v, slotR ν b Z w (recAt R j).a v → ∃ y : Option Bool, v = gval y ∧ y ≠ some want
def dstA (o : Oper) (a : AV) : AV := match o.dst with | some _ => a | none => .und
def StepOK (P : Program) (tab : Tab) (I : List (Nat × List Nat)) (sl0 : Nat → AV) (L0 : List En) (m : Nat) (R : Recs) (k : Nat) (o : Oper) (r : Rec) : Prop :=
  (∃ j want, o.guard = some (j, want) ∧ memN r.tp j = true ∧ NotW R j want ∧ r.a = .und ∧ r.out = [] ∧ r.src = [] ∧ r.eat = false ∧ r.hi = r.lo) ∨
  ((o.guard = none ∨ ∃ j want, o.guard = some (j, want) ∧ memN r.tp j = true ∧ IsW R j want) ∧ ∃ kn a L' b', KF R kn k ∧
    (opF P tab o.op (opA (slD I R kn sl0 r.tp k)) (r.src.flatMap (srcEn R L0 m)) r.lo).run = some (a, L', b') ∧ r.a = dstA o a ∧
    ((pureOp P o.op = true ∧ r.out = [] ∧ r.hi = r.lo ∧ r.eat = false) ∨ (r.out = L' ∧ r.hi = b' ∧ r.eat = true)))
section
variable {P : Program} {tab : Tab} {I : List (Nat × List Nat)} {sl0 : Nat → AV} {L0 : List En} {m : Nat}
theorem findD_lt : ∀ {I : List (Nat × List Nat)} {i k t j : Nat}, findD I i k t = some j → j < k
  | [], _, _, _, _, h => by cases h
  | (d, tp) :: I, i, k, t, j, h => by
    unfold findD at h
    cases hc : (Nat.beq d t && Nat.blt i k) <;> rw [hc] at h
    · exact findD_lt h
    · cases h
      simp only [Bool.and_eq_true] at hc
      exact Nat.le_of_ble_eq_true hc.2
theorem recAt_congr {R R' : Recs} {j : Nat} (h : lookR R' j = lookR R j) : recAt R' j = recAt R j := by unfold recAt; rw [h]
theorem slD_congr {R R' : Recs} {kn : List (Nat × Bool)} {tpk : List Nat} {k : Nat} (h : ∀ j, j < k → lookR R' j = lookR R j) : slD I R' kn sl0 tpk k = slD I R kn sl0 tpk k := by
  funext t
  unfold slD
  split
  · rename_i j hj
    rw [recAt_congr (h j (findD_lt hj))]
  · rfl
theorem KF.congr {R R' : Recs} {kn : List (Nat × Bool)} {k : Nat} (h : ∀ j, j < k → lookR R' j = lookR R j) (H : KF R kn k) : KF R' kn k := by
  intro j c hj
  obtain ⟨h1, h2⟩ := H j c hj
  exact ⟨h1, by rw [recAt_congr (h j h1)]; exact h2⟩
theorem KF.le {R : Recs} {kn : List (Nat × Bool)} {k k' : Nat} (H : KF R kn k) (h : k ≤ k') : KF R kn k' := fun j c hj => ⟨Nat.lt_of_lt_of_le (H j c hj).1 h, (H j c hj).2⟩
theorem refine_slot {R : Recs} {kn : List (Nat × Bool)} {k j : Nat} (H : KF R kn k) {ν : Nms} {b : Nat} {Z : Nat → Prop} {w : World} {v : Value} (h : slotR ν b Z w (recAt R j).a v) : slotR ν b Z w (refineA kn j (recAt R j).a) v := by
  unfold refineA
  split
  · rename_i c hc
    split
    · rename_i x hx
      have := (H j c hc).2 x hx
      subst this
      rw [hx] at h
      have hv := sl_bool h
      subst hv
      cases x <;> exact rfl
    · exact h
  · exact h
theorem refine_back {R : Recs} {kn : List (Nat × Bool)} {k j : Nat} (H : KF R kn k) : (refineA kn j (recAt R j).a = .tt → IsW R j true ∧ NotW R j false) ∧ (refineA kn j (recAt R j).a = .ff → IsW R j false ∧ NotW R j true) ∧ (refineA kn j (recAt R j).a = .und → ∀ w, NotW R j w) := by
  refine ⟨fun h => ?_, fun h => ?_, fun h want => ?_⟩
  · have key : IsW R j true := fun ν b Z w v hs => by
      have := refine_slot H hs
      rw [h] at this
      exact sl_tt this
    exact ⟨key, fun ν b Z w v hs => ⟨some true, key ν b Z w v hs, by simp⟩⟩
  · have key : IsW R j false := fun ν b Z w v hs => by
      have := refine_slot H hs
      rw [h] at this
      exact sl_ff this
    exact ⟨key, fun ν b Z w v hs => ⟨some false, key ν b Z w v hs, by simp⟩⟩
  · intro ν b Z w v hs
    have := refine_slot H hs
    rw [h] at this
    exact ⟨none, this, by simp⟩
theorem refine_ask {R : Recs} {kn : List (Nat × Bool)} {j : Nat} {x : Bool} (h : refineA kn j (recAt R j).a = .val .bool x) : (recAt R j).a = .val .bool x := by
  unfold refineA at h
  split at h
  · rename_i c hc
    split at h
    · cases c <;> cases h
    · exact h
  · exact h
theorem look_any {R : Recs} {j : Nat} (h : lookR R j = none) : (recAt R j).a = .any := by unfold recAt; rw [h]; rfl
/-- The sources that are there. -/
def CurOK (R : Recs) (L0 : List En) (m k : Nat) (cur : Src) : Prop := ∀ s ∈ cur, srcEn R L0 m s.1 = s.2 ∧ (s.1 < m → s.1 < k)
theorem CurOK.congr {R R' : Recs} {k k' : Nat} {cur : Src} (h : ∀ j, j < k → lookR R' j = lookR R j) (hk : k ≤ k') (H : CurOK R L0 m k cur) : CurOK R' L0 m k' cur := by
  intro s hs
  obtain ⟨h1, h2⟩ := H s hs
  refine ⟨?_, fun hm => Nat.lt_of_lt_of_le (h2 hm) hk⟩
  rw [← h1]
  unfold srcEn
  cases hb : Nat.blt s.1 m
  · rfl
  · rw [recAt_congr (h _ (h2 (Nat.le_of_ble_eq_true hb)))]
theorem takeS_perm : ∀ {cur : Src} {ks : List Nat} {s : Nat × List En} {rest : Src}, takeS cur ks = some (s, rest) → cur.Perm (s :: rest)
  | [], _, _, _, h => by cases h
  | x :: l, ks, s, rest, h => by
    unfold takeS at h
    cases hc : hasK x.2 ks <;> rw [hc] at h
    · simp only [cond_false, Option.map_eq_some_iff] at h
      obtain ⟨⟨s', r'⟩, h1, h2⟩ := h
      cases h2
      exact (List.Perm.cons x (takeS_perm h1)).trans (List.Perm.swap _ _ _)
    · cases h; exact .refl _
theorem selS_perm (cl : Bool) : ∀ (n : Nat) (ks : List Nat) (cur : Src), cur.Perm ((selS cl n ks cur).1 ++ (selS cl n ks cur).2)
  | 0, _, cur => .refl _
  | n + 1, ks, cur => by
    unfold selS
    split
    · exact .refl _
    · rename_i s rest h
      generalize hg : selS cl n (bif cl then contK s.2 ++ ks else ks) rest = pr
      obtain ⟨a, c⟩ := pr
      have := selS_perm cl n (bif cl then contK s.2 ++ ks else ks) rest
      rw [hg] at this
      exact (takeS_perm h).trans (List.Perm.cons s this)
theorem flatS_src {R : Recs} {k : Nat} : ∀ {sel : Src}, CurOK R L0 m k sel → (idxS sel).flatMap (srcEn R L0 m) = flatS sel
  | [], _ => rfl
  | s :: l, h => by
    rw [idxS, List.flatMap_cons, flatS, (h s (by simp)).1, flatS_src fun x hx => h x (by simp [hx])]
theorem idxS_lt {R : Recs} {k : Nat} : ∀ {sel : Src}, CurOK R L0 m k sel → ∀ j ∈ idxS sel, j < m → j < k
  | [], _, _, hj, _ => by cases hj
  | s :: l, h, j, hj, hm => by
    rcases List.mem_cons.1 hj with rfl | hj
    · exact (h s (by simp)).2 hm
    · exact idxS_lt (fun x hx => h x (by simp [hx])) j hj hm
theorem src_congr {R R' : Recs} {k : Nat} (h : ∀ j, j < k → lookR R' j = lookR R j) {js : List Nat} (hj : ∀ j ∈ js, j < m → j < k) : js.flatMap (srcEn R' L0 m) = js.flatMap (srcEn R L0 m) := by
  rw [List.flatMap_def, List.flatMap_def, List.map_congr_left]
  intro j hj2
  unfold srcEn
  cases hb : Nat.blt j m
  · rfl
  · rw [recAt_congr (h _ (hj j hj2 (Nat.le_of_ble_eq_true hb)))]
/-- What is told of the rest. -/
def Told (P : Program) (tab : Tab) (I : List (Nat × List Nat)) (sl0 : Nat → AV) (L0 : List En) (m : Nat) (l : List Oper) (J : List (Nat × List Nat)) (k : Nat) (R R' : Recs) (kn' : List (Nat × Bool)) : Prop :=
  (∀ j, j < k → lookR R' j = lookR R j) ∧ KF R' kn' (k + l.length) ∧ (∀ j r, lookR R' j = some r → j < k + l.length) ∧ ∀ i o, l[i]? = some o → ∃ r t, J[i]? = some t ∧ lookR R' (k + i) = some r ∧ r.tp = t.2 ∧ StepOK P tab I sl0 L0 m R' (k + i) o r
theorem evD_ok : ∀ (l : List Oper) (J : List (Nat × List Nat)) (k : Nat) (R : Recs) (kn : List (Nat × Bool)) (cur : Src) (b : Nat) (R' : Recs) (kn' : List (Nat × Bool)) (b' : Nat), (evD P tab I sl0 l J k R kn cur b).run = some (R', kn', b') →
    k + l.length ≤ m → (∀ j r, lookR R j = some r → j < k) → KF R kn k → CurOK R L0 m k cur →
    Told P tab I sl0 L0 m l J k R R' kn'
  | [], J, k, R, kn, cur, b, R', kn', b', h, hm, hr, hk, hc => by
    have h2 : (Tree.ret (R, kn, b) : Tree (Recs × List (Nat × Bool) × Nat)).run = some (R', kn', b') := by
      cases J <;> exact h
    cases h2
    exact ⟨fun _ _ => rfl, hk, hr, fun i o hi => by simp at hi⟩
  | o :: l, [], k, R, kn, cur, b, R', kn', b', h, hm, hr, hk, hc => by cases h
  | o :: l, (d, tpk) :: J, k, R, kn, cur, b, R', kn', b', h, hm, hr, hk, hc => by
    simp only [List.length_cons] at hm
    -- one step more
    have go : ∀ (r : Rec) (kn1 : List (Nat × Bool)) (cur1 : Src) (b1 : Nat), r.tp = tpk → KF R kn1 k → (∀ R2, (∀ j, j < k → lookR R2 j = lookR R j) → lookR R2 k = some r → StepOK P tab I sl0 L0 m R2 k o r) →
        CurOK ((k, r) :: R) L0 m (k + 1) cur1 → (evD P tab I sl0 l J (k + 1) ((k, r) :: R) kn1 cur1 b1).run = some (R', kn', b') →
        Told P tab I sl0 L0 m (o :: l) ((d, tpk) :: J) k R R' kn' := by
      intro r kn1 cur1 b1 htp hkn hst hcur hrun
      have hext : ∀ j, j < k → lookR ((k, r) :: R) j = lookR R j := by
        intro j hj
        have : Nat.beq j k = false := by
          cases hb : Nat.beq j k
          · rfl
          · have := Nat.eq_of_beq_eq_true hb; omega
        simp only [lookR, this, cond_false]
      have hself : lookR ((k, r) :: R) k = some r := by simp only [lookR, Nat.beq_refl, cond_true]
      obtain ⟨g1, g2, g3, g4⟩ := evD_ok l J (k + 1) ((k, r) :: R) kn1 cur1 b1 R' kn' b' hrun (by omega) (fun j r' hj => by
        simp only [lookR] at hj
        cases hb : Nat.beq j k <;> rw [hb] at hj
        · have := hr j r' hj; omega
        · have := Nat.eq_of_beq_eq_true hb; omega) ((hkn.congr hext).le (Nat.le_succ k)) hcur
      have hlow : ∀ j, j < k → lookR R' j = lookR R j := fun j hj => (g1 j (by omega)).trans (hext j hj)
      have hk2 : lookR R' k = some r := (g1 k (by omega)).trans hself
      unfold Told
      simp only [List.length_cons]
      refine ⟨hlow, by rw [show k + (l.length + 1) = k + 1 + l.length by omega]; exact g2, fun j r' hj => by have := g3 j r' hj; omega, fun i o' hi => ?_⟩
      cases i with
      | zero =>
        simp only [List.getElem?_cons_zero, Option.some.injEq] at hi
        subst hi
        exact ⟨r, (d, tpk), rfl, hk2, htp, hst R' hlow hk2⟩
      | succ i =>
        simp only [List.getElem?_cons_succ] at hi
        obtain ⟨r', t, q1, q2, q3, q4⟩ := g4 i o' hi
        refine ⟨r', t, by simpa using q1, by rw [show k + (i + 1) = k + 1 + i by omega]; exact q2, q3, by rw [show k + (i + 1) = k + 1 + i by omega]; exact q4⟩
    have hcext : ∀ (r : Rec) (c : Src), CurOK R L0 m k c → CurOK ((k, r) :: R) L0 m (k + 1) c := fun r c h => h.congr (fun j hj => by
      have : Nat.beq j k = false := by
        cases hb : Nat.beq j k
        · rfl
        · have := Nat.eq_of_beq_eq_true hb; omega
      simp only [lookR, this, cond_false]) (Nat.le_succ k)
    -- the guard's facts
    have skip : ∀ (kn1 : List (Nat × Bool)) (j : Nat) (want : Bool), o.guard = some (j, want) → memN tpk j = true → j < k → NotW R j want → KF R kn1 k → (evD P tab I sl0 l J (k + 1) ((k, ⟨tpk, .und, b, b, [], [], false⟩) :: R) kn1 cur b).run = some (R', kn', b') → Told P tab I sl0 L0 m (o :: l) ((d, tpk) :: J) k R R' kn' := by
      intro kn1 j want hg hmem hj hn hkn hrun
      refine go _ kn1 cur b rfl hkn (fun R2 h1 h2 => .inl ⟨j, want, hg, hmem, ?_, rfl, rfl, rfl, rfl, rfl⟩) (hcext _ _ hc) hrun
      unfold NotW at hn ⊢
      rw [recAt_congr (h1 j hj)]
      exact hn
    have doit : ∀ (kn1 : List (Nat × Bool)), (o.guard = none ∨ ∃ j want, o.guard = some (j, want) ∧ memN tpk j = true ∧ j < k ∧ IsW R j want) → KF R kn1 k →
        ((match selS (isCallV o.op) 100 (needK (opA (slD I R kn1 sl0 tpk k)) o.op) cur with
          | (sel, rest) => forceS sel fun sel => forceS rest fun rest => (opF P tab o.op (opA (slD I R kn1 sl0 tpk k)) (flatS sel) b).bind fun r => forceMR2 r fun a L' b' => forceIds (idxS sel) fun ids =>
            bif pureOp P o.op then evD P tab I sl0 l J (k + 1) ((k, ⟨tpk, match o.dst with | some _ => a | none => .und, b, b, [], ids, false⟩) :: R) kn1 cur b
            else evD P tab I sl0 l J (k + 1) ((k, ⟨tpk, match o.dst with | some _ => a | none => .und, b, b', L', ids, true⟩) :: R) kn1 ((k, L') :: rest) b').run = some (R', kn', b')) → Told P tab I sl0 L0 m (o :: l) ((d, tpk) :: J) k R R' kn' := by
      intro kn1 hg hkn hrun
      have hp := selS_perm (isCallV o.op) 100 (needK (opA (slD I R kn1 sl0 tpk k)) o.op) cur
      generalize selS (isCallV o.op) 100 (needK (opA (slD I R kn1 sl0 tpk k)) o.op) cur = pr at hp hrun
      obtain ⟨sel, rest⟩ := pr
      dsimp only at hrun hp
      simp only [forceS_eq] at hrun
      obtain ⟨⟨a, L', b2⟩, h1, h2⟩ := Tree.bind_some hrun
      simp only [forceMR2, AV.force_eq, forceL_eq, forceN_eq, forceIds_eq] at h2
      have hsel : CurOK R L0 m k sel := fun s hs => hc s (hp.mem_iff.2 (List.mem_append_left _ hs))
      have hrest : CurOK R L0 m k rest := fun s hs => hc s (hp.mem_iff.2 (List.mem_append_right _ hs))
      have hgd : ∀ R2, (∀ j, j < k → lookR R2 j = lookR R j) → (o.guard = none ∨ ∃ j want, o.guard = some (j, want) ∧ memN tpk j = true ∧ IsW R2 j want) := by
        intro R2 hR
        rcases hg with hg | ⟨j, want, g1, g2, g3, g4⟩
        · exact .inl hg
        · refine .inr ⟨j, want, g1, g2, ?_⟩
          unfold IsW at g4 ⊢
          rw [recAt_congr (hR j g3)]
          exact g4
      have hop : ∀ R2, (∀ j, j < k → lookR R2 j = lookR R j) → (opF P tab o.op (opA (slD I R2 kn1 sl0 tpk k)) ((idxS sel).flatMap (srcEn R2 L0 m)) b).run = some (a, L', b2) := by
        intro R2 hR
        rw [slD_congr hR, src_congr hR (idxS_lt hsel), flatS_src hsel]
        exact h1
      cases hpure : pureOp P o.op <;> rw [hpure] at h2
      · refine go _ kn1 _ _ rfl hkn (fun R2 hR h4 => .inr ⟨hgd R2 hR, kn1, a, L', b2, hkn.congr hR, hop R2 hR, rfl, .inr ⟨rfl, rfl, rfl⟩⟩) ?_ h2
        intro s hs
        rcases List.mem_cons.1 hs with rfl | hs
        · refine ⟨?_, fun _ => Nat.lt_succ_self k⟩
          have hkm : Nat.blt k m = true := Nat.ble_eq_true_of_le (by show k + 1 ≤ m; omega)
          simp only [srcEn, hkm, cond_true, recAt, lookR, Nat.beq_refl, Option.getD_some]
        · exact hcext _ _ hrest s hs
      · exact go _ kn1 _ _ rfl hkn (fun R2 hR h4 => .inr ⟨hgd R2 hR, kn1, a, L', b2, hkn.congr hR, hop R2 hR, rfl, .inl ⟨hpure, rfl, rfl, rfl⟩⟩) (hcext _ _ hc) h2
    -- by the guard
    unfold evD at h
    dsimp only at h
    have hjk : ∀ j, (recAt R j).a ≠ .any → j < k := by
      intro j hj
      cases hl : lookR R j with
      | none => exact absurd (look_any hl) hj
      | some r => exact hr j r hl
    cases hgu : o.guard with
    | none =>
      rw [hgu] at h
      exact doit kn (.inl hgu) hk h
    | some p =>
      obtain ⟨j, want⟩ := p
      rw [hgu] at h
      simp only [gdD] at h
      cases hmem : memN tpk j <;> rw [hmem] at h
      · cases h
      obtain ⟨rb1, rb2, rb3⟩ := refine_back (j := j) hk
      have hne : ∀ c, refineA kn j (recAt R j).a = c → c ≠ .any → j < k := by
        intro c hc hca
        refine hjk j fun ha => hca ?_
        rw [← hc, ha]
        unfold refineA
        split <;> rfl
      generalize hra : refineA kn j (recAt R j).a = ra at h
      have hne2 := hne ra hra
      cases ra
      all_goals try (cases h; done)
      case und => exact skip kn j want hgu hmem (hne2 (by simp)) (rb3 hra want) hk h
      case tt =>
        cases want
        · exact skip kn j false hgu hmem (hne2 (by simp)) (rb1 hra).2 hk h
        · exact doit kn (.inr ⟨j, true, hgu, hmem, hne2 (by simp), (rb1 hra).1⟩) hk h
      case ff =>
        cases want
        · exact doit kn (.inr ⟨j, false, hgu, hmem, hne2 (by simp), (rb2 hra).1⟩) hk h
        · exact skip kn j true hgu hmem (hne2 (by simp)) (rb2 hra).2 hk h
      case val t x =>
        cases t <;> try (cases h; done)
        have hax := refine_ask hra
        have hlt := hne2 (by simp)
        have hnew : KF R ((j, x) :: kn) k := by
          intro i c hi
          simp only [lookB] at hi
          cases hb : Nat.beq i j <;> rw [hb] at hi
          · exact hk i c hi
          · cases hi
            obtain rfl := Nat.eq_of_beq_eq_true hb
            refine ⟨hlt, fun y hy => ?_⟩
            rw [hax] at hy
            cases hy; rfl
        have hw : IsW R j x := fun ν b Z w v hs => by rw [hax] at hs; exact sl_bool hs
        have hnw : NotW R j (!x) := fun ν b Z w v hs => ⟨some x, hw ν b Z w v hs, by cases x <;> simp⟩
        cases x
        · cases want
          · exact doit _ (.inr ⟨j, false, hgu, hmem, hlt, hw⟩) hnew h
          · exact skip _ j true hgu hmem hlt hnw hnew h
        · cases want
          · exact skip _ j false hgu hmem hlt hnw hnew h
          · exact doit _ (.inr ⟨j, true, hgu, hmem, hlt, hw⟩) hnew h
end
end Hyp
