/- A region that draws its order: the whole. -/
import Derived.Test.YtdlbmjbbnplpjaaMy
set_option linter.unusedVariables false
set_option linter.unusedSimpArgs false
namespace Hyp
open Go
def srcs0 : Nat → List En → Src
  | _, [] => []
  | m, e :: l => (m, [e]) :: srcs0 (m + 1) l
def eatenL : Recs → List Nat
  | [] => []
  | (_, r) :: l => (bif r.eat then r.src else []) ++ eatenL l
def endE (R : Recs) (ea : List Nat) (L0 : List En) (m : Nat) : Nat → List En
  | 0 => []
  | j + 1 => endE R ea L0 m j ++ (bif memN ea j then [] else srcEn R L0 m j)
def endSl {α : Type 1} (R : Recs) (kn : List (Nat × Bool)) : List (Nat × List Nat) → Nat → (Nat → AV) → ((Nat → AV) → α) → α
  | [], _, sl, K => K sl
  | (d, _) :: I, j, sl, K => (refineA kn j (recAt R j).a).force fun a => endSl R kn I (j + 1) (updA sl d a) K
def drawnT (P : Program) (tab : Tab) (ops : Array Oper) : St → Tree St
  | ⟨sl0, L0, b0⟩ => tpsF ops.toList 0 [] fun I => (evD P tab I sl0 ops.toList I 0 [] [] (srcs0 ops.toList.length L0) b0).bind fun r =>
    bif P.follows .mixedOrders && checkD 1000000 ops r.1 L0 b0 r.2.2 ops.toList.length then
      endSl r.1 r.2.1 I 0 sl0 fun sl => forceL (endE r.1 (eatenL r.1) L0 ops.toList.length (ops.toList.length + L0.length)) fun L => .ret ⟨sl, L, r.2.2⟩
    else .fail
theorem check_n {n m nb : Nat} {ops : Array Oper} {sp : List D.Spec} (h : D.checkAny 1000000 m nb ops sp = true) (hb : bnd n ops.toList = true) (hn : n ≤ 1000000) : D.checkAny n m nb ops sp = true := by
  have hd : ∀ (k : Nat) (o : Oper) (d : Nat), ops[k]? = some o → o.dst = some d → d < n := by
    intro k o d ho hd
    simp only [bnd, List.all_eq_true] at hb
    have := hb o (by
      have := List.mem_of_getElem? (l := ops.toList) (i := k) (a := o) (by simpa using ho)
      exact this)
    simpa [hd] using this
  simp only [D.checkAny, Bool.and_eq_true, List.all_eq_true, List.mem_range] at h ⊢
  obtain ⟨⟨⟨⟨⟨h1, h2, h3⟩, h4⟩, h5⟩, h6⟩, h7⟩ := h
  refine ⟨⟨⟨⟨⟨h1, h2, decide_eq_true hn⟩, fun k hk => ?_⟩, h5⟩, h6⟩, ?_⟩
  · obtain ⟨⟨⟨q1, q2⟩, q3⟩, q4⟩ := h4 k hk
    refine ⟨⟨⟨?_, q2⟩, q3⟩, q4⟩
    cases ho : ops[k]? with
    | none => rw [ho] at q1; cases q1
    | some o =>
      rw [ho] at q1
      simp only [Bool.and_eq_true] at q1 ⊢
      refine ⟨?_, q1.2⟩
      cases hdo : o.dst with
      | none => rfl
      | some d => exact decide_eq_true (hd k o d ho hdo)
  · simp only [bnd, List.all_eq_true] at hb ⊢
    exact fun o ho => hb o (List.mem_of_mem_drop ho)
section
variable {P : Program} {tab : Tab} {B : Base} {n : Nat} {ν : Nms} {b0 : Nat} {L0 : List En} {F : List Ent} {w0 : World}
theorem srcs0_ok (m : Nat) : ∀ (L : List En) (p : Nat), (∀ i, L[i]? = L0[p + i]?) → CurOK [] L0 m 0 (srcs0 (m + p) L)
  | [], _, _ => fun s hs => by cases hs
  | e :: l, p, h => by
    intro s hs
    rcases List.mem_cons.1 hs with rfl | hs
    · refine ⟨?_, fun h => by simp at h; omega⟩
      have hbl : Nat.blt (m + p) m = false := by
        cases h : Nat.blt (m + p) m
        · rfl
        · exact absurd (Nat.le_of_ble_eq_true h) (by omega)
      have := h 0
      simp only [List.getElem?_cons_zero, Nat.add_zero] at this
      simp only [srcEn, hbl, cond_false, nthE_get, Nat.add_sub_cancel_left, ← this]
    · exact srcs0_ok m l (p + 1) (fun i => by have := h (i + 1); simpa [Nat.add_assoc, Nat.add_comm 1] using this) s (by simpa [Nat.add_assoc] using hs)
theorem endE_eq (R : Recs) (ea : List Nat) (m : Nat) : ∀ N, endE R ea L0 m N = (List.range N).flatMap fun j => bif memN ea j then [] else srcEn R L0 m j
  | 0 => rfl
  | N + 1 => by
    rw [endE, endE_eq R ea m N, List.range_succ, List.flatMap_append]
    simp
theorem endSl_ok {R : Recs} {kn : List (Nat × Bool)} {f : Fr} {N : Nms} {bE : Nat} {Z : Nat → Prop} {w : World} : ∀ {I : List (Nat × List Nat)} {j : Nat} {sl : Nat → AV} {K : (Nat → AV) → Tree St} {r : St}, (endSl R kn I j sl K).run = some r →
    (∀ (i : Nat) (p : Nat × List Nat), I[i]? = some p → slotR N bE Z w (refineA kn (j + i) (recAt R (j + i)).a) (f p.1)) → (∀ t, (∀ (i : Nat) (p : Nat × List Nat), I[i]? = some p → p.1 ≠ t) → slotR N bE Z w (sl t) (f t)) →
    ∃ sl', (K sl').run = some r ∧ ∀ t, slotR N bE Z w (sl' t) (f t)
  | [], j, sl, K, r, h, _, hs => ⟨sl, h, fun t => hs t fun i p hi => by simp at hi⟩
  | (d, tp) :: I, j, sl, K, r, h, hi, hs => by
    unfold endSl at h
    rw [AV.force_eq] at h
    refine endSl_ok h (fun i p hp => ?_) fun t ht => ?_
    · have := hi (i + 1) p (by simpa using hp)
      rwa [show j + (i + 1) = j + 1 + i by omega] at this
    · unfold updA
      cases hb : Nat.beq t d
      · refine hs t fun i p hp => ?_
        cases i with
        | zero =>
          simp only [List.getElem?_cons_zero, Option.some.injEq] at hp
          subst hp
          rintro rfl
          simp at hb
        | succ i => exact ht i p (by simpa using hp)
      · obtain rfl := Nat.eq_of_beq_eq_true hb
        exact hi 0 (t, tp) rfl
theorem mem_eaten : ∀ {R : Recs} {top idx b0 : Nat}, rangeOK R top idx b0 = true → ∀ {x : Nat}, x ∈ eatenL R ↔ ∃ k r, lookR R k = some r ∧ x ∈ (bif r.eat then r.src else [])
  | [], _, _, _, _, x => by simp [eatenL, lookR]
  | (i, r) :: l, top, idx, b0, h, x => by
    simp only [rangeOK, Bool.and_eq_true] at h
    rw [eatenL, List.mem_append, mem_eaten h.2.2.2]
    constructor
    · rintro (h1 | ⟨k, r', h1, h2⟩)
      · exact ⟨i, r, by simp [lookR], h1⟩
      · refine ⟨k, r', ?_, h2⟩
        have := (rangeOK_at h.2.2.2 h1).1
        have hne : Nat.beq k i = false := by
          cases hb : Nat.beq k i
          · rfl
          · have := Nat.eq_of_beq_eq_true hb; omega
        simp only [lookR, hne, cond_false, h1]
    · rintro ⟨k, r', h1, h2⟩
      simp only [lookR] at h1
      cases hb : Nat.beq k i <;> rw [hb] at h1
      · exact .inr ⟨k, r', h1, h2⟩
      · cases h1; exact .inl h2
theorem drawn_ok {id : Nat} {ops : Array Oper} {Q : Post} {f0 : Fr} {st st' : St} (ht : TabOK P tab) (hb : bnd n ops.toList = true) (hn : n ≤ 1000000) (h : (drawnT P tab ops st).run = some st') (H : Here B ν st.b w0 st.L F) (hsl : ∀ t, slotR ν st.b (B.Z (ents ν st.L ++ F)) w0 (st.sl t) (f0 t))
    (hk : ∀ f' w' ν', Left B ν st.b w0 st.L F ν' st'.b w' st'.L → (∀ t, slotR ν' st'.b (B.Z (ents ν' st'.L ++ F)) w' (st'.sl t) (f' t)) → (∀ t, memN (dsts ops.toList) t = false → f' t = f0 t) → Q .normal f' w') : C P n (.region id ops true) Q f0 w0 := by
  obtain ⟨sl0, L0, b0⟩ := st
  dsimp only at H hsl hk
  unfold drawnT at h
  dsimp only at h
  rw [tpsF_eq] at h
  obtain ⟨⟨R, kn, bE⟩, h1, h2⟩ := Tree.bind_some h
  dsimp only at h2
  generalize hlo : ops.toList = lo at *
  have hops : ops = lo.toArray := by rw [← hlo]
  subst hops
  generalize hm : lo.length = m at *
  cases hc : (P.follows .mixedOrders && checkD 1000000 lo.toArray R L0 b0 bE m) <;> rw [hc] at h2
  · cases h2
  simp only [Bool.and_eq_true, checkD] at hc
  obtain ⟨hmix, hc1, hrange, hrecs⟩ := hc
  simp only [cond_true] at h2
  -- what is told of each
  have htold := evD_ok (P := P) (tab := tab) (I := tpsOf lo 0 []) (sl0 := sl0) (L0 := L0) (m := m) lo (tpsOf lo 0 []) 0 [] [] (srcs0 m L0) b0 R kn bE h1 (by omega) (fun j r hj => by cases hj) (fun j c hj => by cases hj) (by have := srcs0_ok (L0 := L0) m L0 0 (fun i => by simp); simpa using this)
  obtain ⟨_, hkf, _, hat⟩ := htold
  rw [Nat.zero_add, hm] at hkf
  have hI : ∀ j p, (tpsOf lo 0 [])[j]? = some p → p.1 = D.dstD lo.toArray j := by
    intro j p hp
    obtain ⟨o, q1, q2⟩ := tps_at hp
    rw [q2, Nat.zero_add]
    simp [D.dstD, q1]
  have hIm : (tpsOf lo 0 []).length = m := by rw [tps_len, hm]
  have hall : ∀ j, j < m → ∃ r, lookR R j = some r := by
    intro j hj
    obtain ⟨r, t, q1, q2, q3, q4⟩ := hat j (lo[j]'(by omega)) (List.getElem?_eq_getElem _)
    rw [Nat.zero_add] at q2
    exact ⟨r, q2⟩
  have hItp : ∀ j p, (tpsOf lo 0 [])[j]? = some p → p.2 = (recAt R j).tp := by
    intro j p hp
    have hj : j < lo.length := by rw [hm, ← hIm]; exact (List.getElem?_eq_some_iff.1 hp).1
    obtain ⟨r, t, q1, q2, q3, q4⟩ := hat j (lo[j]'hj) (List.getElem?_eq_getElem _)
    rw [Nat.zero_add] at q2
    rw [q1] at hp
    cases hp
    unfold recAt
    rw [q2]
    exact q3.symm
  have hrec : ∀ {j r}, lookR R j = some r → recOK R b0 (m + L0.length) m j r = true := fun h => recsOK_at hrecs h
  have hlt : ∀ {j r}, lookR R j = some r → j < m := fun h => (rangeOK_at hrange h).1
  have hc2 : D.checkAny n m (ents ν L0 ++ [packE F]).length lo.toArray (specs R ν b0 bE m) = true := by
    have : (ents ν L0 ++ [packE F]).length = L0.length + 1 := by simp
    rw [this, D.check_congr (specs_same R ν nu0 b0 bE m)]
    exact check_n hc1 (by simpa using hb) hn
  have hsrc : ∀ k r, lookR R k = some r → ∀ j ∈ r.src, j < m → memN r.tp j = true := by
    intro k r hkr j hj hjm
    have hkm := hlt hkr
    have hatk : recAt R k = r := by unfold recAt; rw [hkr]; rfl
    have h3 := hc2
    simp only [D.checkAny, Bool.and_eq_true, List.all_eq_true, List.mem_range] at h3
    have h4 := h3.1.1.1.2 k hkm
    have h5 := h4.1.2
    rw [specs_get hkm, hatk] at h5
    simp only [Bool.and_eq_true, List.all_eq_true, Bool.or_eq_true, decide_eq_true_eq] at h5
    rw [← memN_con]
    cases he : r.eat
    · have h6 := (h5.1.2.1 j (by show j ∈ (bif r.eat then [] else r.src); rw [he]; exact hj)).1
      rcases h6 with h6 | h6
      · exact h6
      · omega
    · have h6 := h5.1.1.1.2 j (by show j ∈ (bif r.eat then r.src else []); rw [he]; exact hj)
      rcases h6 with h6 | h6
      · exact h6
      · omega
  have hF : F.Pairwise apart := (List.pairwise_append.1 H.own.sep).2.1
  have hz0 : ∀ x, footU (ents ν L0 ++ [packE F]) x ↔ footU (ents ν L0 ++ F) x := fun x => footU_pack (ents ν L0) F x
  refine D.C_any (B := B) m (specs R ν b0 bE m) hmix hc2 (H.own.pack.wider fun x hx => (hz0 x).2 hx) ?_ ?_
  · refine steps_of (by simp [specs, hm]) fun i o s hio his => ?_
    rw [Nat.zero_add]
    have him : i < m := by rw [← hm]; exact (List.getElem?_eq_some_iff.1 hio).1
    rw [specs_get him] at his
    cases his
    obtain ⟨r, t, q1, q2, q3, q4⟩ := hat i o hio
    rw [Nat.zero_add] at q2 q4
    have hati : recAt R i = r := by unfold recAt; rw [q2]; rfl
    rw [hati]
    exact drawn_step ht H hsl hrange hrec hI hItp hIm hsrc him q2 hall q4
  · intro f w val cur hcur hown hdone hbase hhigh
    have hdrop : lo.drop m = [] := by rw [← hm]; simp
    rw [hdrop]
    refine L_nil ?_
    -- at the end
    have hends : ∀ {j rj}, lookR R j = some rj → ∀ i r', (i = j ∨ memN rj.tp i = true) → lookR R i = some r' → r'.hi ≤ bE := fun hj i r' _ hr' => (rangeOK_at hrange hr').2.1
    have hble := rangeOK_le hrange
    have fin1 : ∀ {j rj}, lookR R j = some rj → slotR (allN R ν b0 val) bE (B.Z cur) w rj.a (f (D.dstD lo.toArray j)) ∧ D.okAt (specs R ν b0 bE m) val j (B.Z cur) w := by
      intro j rj hj
      have hjm := hlt hj
      have hatj : recAt R j = rj := by unfold recAt; rw [hj]; rfl
      obtain ⟨d1, d2⟩ := hdone j hjm
      refine ⟨?_, d2⟩
      unfold D.okAt at d2
      rw [specs_get hjm, hatj] at d2
      rw [d1]
      exact (alike_done hrange hj (hends hj) hble).slot (recOK_at (hrec hj)).1 d2.1
    -- the entries
    have hkeep : ∀ j, D.keeps m (specs R ν b0 bE m) j = !memN (eatenL R) j := by
      intro j
      rw [Bool.eq_iff_iff]
      simp only [D.keeps, List.all_eq_true, List.mem_range, Bool.not_eq_true']
      constructor
      · intro hx
        cases hmem : memN (eatenL R) j
        · rfl
        · obtain ⟨k, r, q1, q2⟩ := (mem_eaten hrange).1 (memN_iff.1 hmem)
          have := hx k (hlt q1)
          have hatk : recAt R k = r := by unfold recAt; rw [q1]; rfl
          unfold D.eatsAt at this
          rw [specs_get (hlt q1), hatk] at this
          simp only [recSpec] at this
          simp only [List.contains_eq_mem, decide_eq_false_iff_not] at this
          exact absurd q2 this
      · intro hx k hkm
        unfold D.eatsAt
        rw [specs_get hkm]
        obtain ⟨r, hr⟩ := hall k hkm
        have hatk : recAt R k = r := by unfold recAt; rw [hr]; rfl
        rw [hatk]
        simp only [recSpec, List.contains_eq_mem, decide_eq_false_iff_not]
        intro hmem
        have := memN_iff.2 ((mem_eaten hrange).2 ⟨k, r, hr, hmem⟩)
        rw [hx] at this
        cases this
    generalize hjs : (List.range (m + L0.length)).filter (fun j => !memN (eatenL R) j) = js
    have hjlt : ∀ j ∈ js, j < m + L0.length := by
      intro j hj
      rw [← hjs] at hj
      exact List.mem_range.1 (List.mem_filter.1 hj).1
    obtain ⟨e1, e2⟩ := src_ents (val := val) (f := f) (ops := lo.toArray) H hrange hown hble (js := js) hjlt (fun j hj hjm => by
      obtain ⟨rj, hrj⟩ := hall j hjm
      exact ⟨rj, hrj, (recOK_at (hrec hrj)).2.1, hends hrj, (fin1 hrj).2⟩)
    have hflat : ∀ {α : Type} (g : Nat → List α) (l : List Nat) (p : Nat → Bool), (l.filter p).flatMap g = l.flatMap fun j => bif p j then g j else [] := by
      intro α g l p
      induction l with
      | nil => rfl
      | cons x l ih =>
        rw [List.filter_cons, List.flatMap_cons, ← ih]
        cases p x <;> simp
    have hL : js.flatMap (srcEn R L0 m) = endE R (eatenL R) L0 m (m + L0.length) := by
      rw [endE_eq, ← hjs, hflat]
      congr 1
      funext j
      cases memN (eatenL R) j <;> rfl
    have hcur2 : cur = ents (allN R ν b0 val) (endE R (eatenL R) L0 m (m + L0.length)) ++ [packE F] := by
      rw [hcur, ← hL, ← e1, ← hjs, hflat]
      have : (ents ν L0 ++ [packE F]).length = L0.length + 1 := by simp
      rw [this, ← Nat.add_assoc, List.range_succ, List.flatMap_append]
      congr 1
      · congr 1
        funext j
        rw [hkeep]
        cases memN (eatenL R) j <;> simp
      · have hnot : memN (eatenL R) (m + L0.length) = false := by
          cases hmem : memN (eatenL R) (m + L0.length)
          · rfl
          · obtain ⟨k, r, q1, q2⟩ := (mem_eaten hrange).1 (memN_iff.1 hmem)
            have := (recOK_at (hrec q1)).2.2.2 (m + L0.length) (by
              cases he : r.eat <;> rw [he] at q2
              · cases q2
              · exact q2)
            omega
        have hnl : ¬ m + L0.length < m := by omega
        simp [hkeep, hnot, D.entB, hnl]
    rw [hL] at e2
    have hzc : B.Z cur = B.Z (ents (allN R ν b0 val) (endE R (eatenL R) L0 m (m + L0.length)) ++ F) := by
      rw [hcur2]
      exact Z_pack fun x => footU_pack _ F x
    -- the slots
    obtain ⟨sl', hK, hsl'⟩ := endSl_ok (N := allN R ν b0 val) (bE := bE) (Z := B.Z cur) (w := w) (f := f) h2 (fun i p hp => by
      rw [Nat.zero_add]
      have him : i < m := by rw [← hIm]; exact (List.getElem?_eq_some_iff.1 hp).1
      obtain ⟨r, hr⟩ := hall i him
      have hati : recAt R i = r := by unfold recAt; rw [hr]; rfl
      refine refine_slot hkf ?_
      rw [hati, hI i p hp]
      exact (fin1 hr).1) (fun t ht => by
      have hbe : D.baseEnd m lo.toArray t = true := by
        simp only [D.baseEnd, List.all_eq_true, List.mem_range]
        intro j hj
        obtain ⟨p, hp⟩ : ∃ p, (tpsOf lo 0 [])[j]? = some p := ⟨(tpsOf lo 0 [])[j]'(by omega), List.getElem?_eq_getElem _⟩
        have := ht j p hp
        rw [hI j p hp] at this
        simpa using this
      rw [hbase t hbe]
      exact (hsl t).later ⟨fun i hi => all_low hi, hble, fun x hx hz => by
        rw [← Z_pack hz0] at hz
        exact TT.now hown hx hz⟩)
    rw [forceL_eq] at hK
    cases hK
    dsimp only at hk
    refine hk f w (allN R ν b0 val) ⟨fun i hi => all_low hi, hble, ?_, ?_⟩ ?_ ?_
    · rw [hcur2] at hown
      exact (hown.unpack hF).wider fun x hx => (hz0 x).1 hx
    · intro e he
      rw [← hzc]
      exact e2 e he
    · intro t
      rw [← hzc]
      exact hsl' t
    · intro t htm
      by_cases hbe : D.baseEnd m lo.toArray t = true
      · exact hbase t hbe
      · refine hhigh t ?_
        simp only [D.baseEnd, Bool.not_eq_true, List.all_eq_false, List.mem_range] at hbe
        obtain ⟨j, hj, hjt⟩ := hbe
        have hjl : j < lo.length := by omega
        have hjt : D.dstD lo.toArray j = t := by simpa using hjt
        simp only [D.dstD, List.getElem?_toArray, List.getElem?_eq_getElem hjl, Option.bind_some] at hjt
        cases hd : lo[j].dst with
        | none =>
          rw [hd] at hjt
          simp only [Option.getD_none] at hjt
          omega
        | some d =>
          rw [hd] at hjt
          simp only [Option.getD_some] at hjt
          subst hjt
          have : ∀ (l : List Oper) (i : Nat) (hi : i < l.length), l[i].dst = some d → memN (dsts l) d = true := by
            intro l
            induction l with
            | nil => intro i hi; simp at hi
            | cons o l ih =>
              intro i hi hx
              cases i with
              | zero =>
                simp only [List.getElem_cons_zero] at hx
                simp [dsts, hx, memN]
              | succ i =>
                have := ih i (by simpa using hi) (by simpa using hx)
                simp only [dsts]
                cases o.dst with
                | none => exact this
                | some d' => simp [memN, this]
          rw [this lo j hjl hd] at htm
          cases htm
end
end Hyp
