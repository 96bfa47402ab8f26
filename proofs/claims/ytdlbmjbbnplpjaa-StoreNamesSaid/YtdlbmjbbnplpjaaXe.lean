/- A region that draws its order: each operation by what it makes of those that it waits for; whatever the order, the same comes of it. -/
import Derived.Test.YtdlbmjbbnplpjaaXb
import Derived.StillTail
set_option linter.unusedVariables false
set_option linter.unusedSimpArgs false
namespace Hyp
open Go
/-- One operation of a region: tp: earlier ones that are done whenever it runs or has run; deps: those whose values it speaks of; what holds of its value; which entries it makes; of which earlier ones it takes the entries away. -/
structure Spec where
  tp : List Nat
  deps : List Nat
  ok : List Value → Value → Prop
  ent : List Value → Value → List Ent
  eats : List Nat := []
def dstD (ops : Array Oper) (k : Nat) : Nat := ((ops[k]?).bind (·.dst)).getD (1000000 + k)
/-- What an operation puts: nothing, if it has no slot. -/
def kv (o : Oper) (v : Value) : Value := match o.dst with | some _ => v | none => undef
def direct (ops : Array Oper) (k : Nat) : List Nat := match ops[k]? with | some o => (o.after.toList.filter (Region.binds .any)).map (·.on) | none => []
/-- The head of m operations, told by sp; the others come behind them, in their order. -/
def checkAny (n m nb : Nat) (ops : Array Oper) (sp : List Spec) : Bool :=
  sp.length == m && (decide (m ≤ ops.size) && decide (n ≤ 1000000)) &&
  ((List.range m).all fun k =>
    (match ops[k]? with | some o => (match o.dst with | some d => decide (d < n) | none => true) && (match o.guard with | some (j, _) => ((ops[j]?).bind (·.dst)).isSome | none => true) | none => false) &&
    (direct ops k).all (fun j => decide (j < k)) &&
    (match sp[k]? with
      | some s => s.tp.all (fun j => decide (j < k) && ((direct ops k).contains j || (direct ops k).any fun i => match sp[i]? with | some si => si.tp.contains j | none => false)) && s.deps.all (fun j => s.tp.contains j) && s.eats.all (fun j => s.tp.contains j || decide (m ≤ j ∧ j < m + nb)) && decide s.eats.Nodup &&
          (List.range m).all (fun i => i == k || (match sp[i]? with | some si => si.eats.all (fun j => !s.eats.contains j) | none => true))
      | none => false) &&
    ((List.range k).all fun j => dstD ops j != dstD ops k)) &&
  (decide (m = ops.size) || (Region.sinkB .any ops m && Region.chainB .any ops m)) &&
  Region.seqB .any ops (ops.size - m) m ((Array.range ops.size).map fun i => decide (i < m)) &&
  bnd n (ops.toList.drop m)
/-- Slot t holds, when operation k runs, what it held ahead of the region. -/
def baseAt (m : Nat) (ops : Array Oper) (sp : List Spec) (k t : Nat) : Bool :=
  (List.range m).all fun j => dstD ops j != t || j == k || (match sp[j]? with | some s => s.tp.contains k | none => false)
/-- Slot t is written by none of the head. -/
def baseEnd (m : Nat) (ops : Array Oper) (t : Nat) : Bool := (List.range m).all fun j => dstD ops j != t
def okAt (sp : List Spec) (val : Nat → Value) (k : Nat) : Prop := match sp[k]? with | some s => s.ok (s.deps.map val) (val k) | none => True
/-- An entry of an operation of the head, or of those that stood ahead. -/
def entB (m : Nat) (sp : List Spec) (l : List Ent) (val : Nat → Value) (k : Nat) : List Ent := if k < m then (match sp[k]? with | some s => s.ent (s.deps.map val) (val k) | none => []) else (l[k - m]?).toList
def entAt (sp : List Spec) (val : Nat → Value) (k : Nat) : List Ent := match sp[k]? with | some s => s.ent (s.deps.map val) (val k) | none => []
def eatsAt (sp : List Spec) (k : Nat) : List Nat := match sp[k]? with | some s => s.eats | none => []
/-- Operation j's entries are taken away by none. -/
def keeps (m : Nat) (sp : List Spec) (j : Nat) : Bool := (List.range m).all fun k => !(eatsAt sp k).contains j
/-- Nobody has taken operation j's entries away when operation k runs. -/
def stays (m : Nat) (sp : List Spec) (k j : Nat) : Bool := (List.range m).all fun i => !(eatsAt sp i).contains j || (match sp[i]? with | some s => s.tp.contains k | none => false)
/-- What is known of operation j, when it is done and operation k is ahead. -/
def Known (m : Nat) (ops : Array Oper) (sp : List Spec) (val : Nat → Value) (f : Fr) (l : List Ent) (k j : Nat) : Prop := f (dstD ops j) = val j ∧ okAt sp val j ∧ (stays m sp k j = true → ∀ e ∈ entAt sp val j, e ∈ l)
def StepAt (P : Program) (m : Nat) (ops : Array Oper) (sp : List Spec) (f0 : Fr) (w0 : World) (ow : Nat → Prop) (l : List Ent) (k : Nat) (o : Oper) (s : Spec) : Prop :=
  ∀ (f : Fr) (w : World) (l' : List Ent) (val : Nat → Value), Own w0 ow w (s.eats.flatMap (entB m sp l val) ++ l') → (∀ (p : Nat) (e : Ent), l[p]? = some e → stays m sp k (m + p) = true → e ∈ l') → (∀ t, baseAt m ops sp k t = true → f t = f0 t) →
    (∀ j, s.tp.contains j = true → Known m ops sp val f l' k j) →
    match o.guard with
    | none => OpW P o.op o.type f w fun v w' => s.ok (s.deps.map val) (kv o v) ∧ Own w0 ow w' (s.ent (s.deps.map val) (kv o v) ++ l')
    | some (j, b) => s.tp.contains j = true ∧ ∃ y, f (dstD ops j) = gval y ∧
        (y = some b → OpW P o.op o.type f w fun v w' => s.ok (s.deps.map val) (kv o v) ∧ Own w0 ow w' (s.ent (s.deps.map val) (kv o v) ++ l')) ∧
        (y ≠ some b → s.ok (s.deps.map val) undef ∧ s.ent (s.deps.map val) undef = [] ∧ s.eats = [])
/-- An operation whose value is v, and that makes nothing. -/
def qv (tp : List Nat) (v : Value) : Spec := ⟨tp, [], fun _ x => x = v, fun _ _ => [], []⟩
theorem Known.v {m : Nat} {ops : Array Oper} {sp : List Spec} {val : Nat → Value} {f : Fr} {l : List Ent} {k j : Nat} (h : Known m ops sp val f l k j) {tp : List Nat} {v : Value} (hs : sp[j]? = some (qv tp v)) {d : Nat} (hd : dstD ops j = d) : f d = v := by
  have h2 := h.2.1
  simp only [okAt, hs, qv] at h2
  rw [← hd, h.1, h2]
theorem fin_v {sp : List Spec} {val : Nat → Value} {f : Fr} {d : Nat} {j : Nat} (h : f d = val j ∧ okAt sp val j) {tp : List Nat} {v : Value} (hs : sp[j]? = some (qv tp v)) : f d = v := by
  have h2 := h.2
  simp only [okAt, hs, qv] at h2
  rw [h.1, h2]
/-- The steps of all operations of the head. -/
def Steps (P : Program) (m : Nat) (ops : Array Oper) (sp : List Spec) (f0 : Fr) (w0 : World) (ow : Nat → Prop) (l : List Ent) : Nat → List Oper → List Spec → Prop
  | k, o :: os, s :: ss => StepAt P m ops sp f0 w0 ow l k o s ∧ Steps P m ops sp f0 w0 ow l (k + 1) os ss
  | _, _, [] => True
  | _, [], _ :: _ => False
theorem Steps.at {P : Program} {m : Nat} {ops : Array Oper} {sp : List Spec} {f0 : Fr} {w0 : World} {ow : Nat → Prop} {l : List Ent} : ∀ {ss : List Spec} {os : List Oper} {k : Nat}, Steps P m ops sp f0 w0 ow l k os ss →
    ∀ {i : Nat} {o : Oper} {s : Spec}, os[i]? = some o → ss[i]? = some s → StepAt P m ops sp f0 w0 ow l (k + i) o s
  | [], _, _, _, _, _, _, _, h => by simp at h
  | _ :: _, [], _, h, _, _, _, _, _ => h.elim
  | s :: ss, o :: os, k, h, 0, _, _, ho, hs => by
    simp at ho hs
    subst ho; subst hs
    exact h.1
  | s :: ss, o :: os, k, h, i + 1, o', s', ho, hs => by
    simp at ho hs
    have := h.2.at ho hs
    rwa [Nat.add_assoc, Nat.add_comm 1 i] at this
theorem flat_perm' {g g' : Nat → List Ent} {k : Nat} (h0 : g k = []) (h : ∀ i, i ≠ k → g' i = g i) : ∀ r : List Nat, r.Nodup → k ∈ r → (r.flatMap g').Perm (g' k ++ r.flatMap g)
  | [], _, hk => by simp at hk
  | i :: r, hn, hk => by
    rw [List.nodup_cons] at hn
    simp only [List.flatMap_cons]
    by_cases hik : i = k
    · subst hik
      have : r.flatMap g' = r.flatMap g := by
        have hx : ∀ j ∈ r, g' j = g j := fun j hj => h j (by rintro rfl; exact hn.1 hj)
        rw [List.flatMap_def, List.flatMap_def, List.map_congr_left hx]
      rw [this, h0, List.nil_append]
    · have hk' : k ∈ r := by simpa [Ne.symm hik] using hk
      rw [h i hik]
      refine (List.Perm.append_left _ (flat_perm' h0 h r hn.2 hk')).trans ?_
      rw [← List.append_assoc, ← List.append_assoc]
      exact List.Perm.append_right _ List.perm_append_comm
theorem flat_take {g : Nat → List Ent} {r : List Nat} (hr : r.Nodup) : ∀ ks : List Nat, ks.Nodup → (∀ k ∈ ks, k ∈ r) → (r.flatMap g).Perm (ks.flatMap g ++ r.flatMap fun k => if k ∈ ks then [] else g k)
  | [], _, _ => by simp
  | k :: ks, hn, hk => by
    rw [List.nodup_cons] at hn
    have ih := flat_take (g := g) hr ks hn.2 (fun j hj => hk j (by simp [hj]))
    refine ih.trans ?_
    have h1 := flat_perm' (g := fun j => if j ∈ k :: ks then [] else g j) (g' := fun j => if j ∈ ks then [] else g j) (k := k) (by simp) (by
      intro i hi
      simp only [List.mem_cons, hi, false_or]) r hr (hk k (by simp))
    simp only [hn.1, if_false] at h1
    rw [List.flatMap_cons]
    refine (List.Perm.append_left _ h1).trans ?_
    rw [← List.append_assoc]
    exact List.Perm.append_right _ List.perm_append_comm
section
variable {P : Program} {n m nb : Nat} {ops : Array Oper} {sp : List Spec} {Q : Post} {f0 : Fr} {w0 : World} {ow : Nat → Prop} {l : List Ent}
/-- Operation k is done, and none that takes its entries away is. -/
def here (m : Nat) (sp : List Spec) (listed : Array Bool) (k : Nat) : Bool := (decide (m ≤ k) || listed.getD k false) && (List.range m).all fun i => !(listed.getD i false && (eatsAt sp i).contains k)
/-- What holds while the head is under way. -/
structure Under (n m : Nat) (ops : Array Oper) (sp : List Spec) (f0 : Fr) (w0 : World) (ow : Nat → Prop) (l : List Ent) (listed : Array Bool) (a : Act) (w : World) (val : Nat → Value) : Prop where
  size : a.tmps.size = n
  defers : a.defers = []
  own : Own w0 ow w ((List.range (m + l.length)).flatMap fun k => if here m sp listed k then entB m sp l val k else [])
  done : ∀ k, k < m → listed.getD k false = true → fr a (dstD ops k) = val k ∧ okAt sp val k
  base : ∀ t, (∀ k, k < m → listed.getD k false = true → dstD ops k ≠ t) → fr a t = f0 t
theorem closed_tp (hc : checkAny n m nb ops sp = true) {listed : Array Bool} (inv : HeadInv .any ops m listed) : ∀ k, k < m → (listed.getD k false = true ∨ k ∈ Region.ready .any ops listed) →
    ∀ s, sp[k]? = some s → ∀ j ∈ s.tp, j < k ∧ listed.getD j false = true := by
  intro k
  induction k using Nat.strongRecOn with
  | _ k ih =>
    intro hk hl s hs j hj
    simp only [checkAny, Bool.and_eq_true, List.all_eq_true, List.mem_range] at hc
    have h1 := hc.1.1.1.2 k hk
    simp only [hs, Bool.and_eq_true, List.all_eq_true, decide_eq_true_eq, Bool.or_eq_true, List.any_eq_true, List.contains_eq_mem] at h1
    have hd : ∀ i ∈ direct ops k, i < k ∧ listed.getD i false = true := by
      intro i hi
      refine ⟨h1.1.1.2 i hi, ?_⟩
      simp only [direct] at hi
      cases ho : ops[k]? with
      | none => simp [ho] at hi
      | some o =>
        simp only [ho, List.mem_map, List.mem_filter, Array.mem_toList_iff] at hi
        obtain ⟨e, ⟨he, hb⟩, rfl⟩ := hi
        rcases hl with hl | hl
        · exact inv.closed k o ho hl e he hb
        · obtain ⟨_, o', ho', hall⟩ := mem_ready.1 hl
          have : o' = o := Option.some.inj (ho'.symm.trans ho)
          subst this
          exact hall e he hb
    have h2 := h1.1.2.1.1.1.1 j hj
    refine ⟨h2.1, ?_⟩
    rcases h2.2 with h3 | ⟨i, hi, h3⟩
    · exact (hd j h3).2
    · have hik := hd i hi
      cases hsi : sp[i]? with
      | none => simp [hsi] at h3
      | some si =>
        simp [hsi] at h3
        exact (ih i hik.1 (by omega) (.inl hik.2) si hsi j h3).2
/-- One operation of the head more. -/
theorem Under.step {Q' : Exit → Act → World → Prop} (hc : checkAny n m l.length ops sp = true) (hs : ∀ {i : Nat} {o : Oper} {s : Spec}, ops[i]? = some o → sp[i]? = some s → StepAt P m ops sp f0 w0 ow l i o s) {listed : Array Bool}
    (inv : HeadInv .any ops m listed) {a : Act} {w : World} {val : Nat → Value} (h : Under n m ops sp f0 w0 ow l listed a w val) {i : Nat} (hi : i ∈ Region.ready .any ops listed) (him : i < m)
    {K : Act → World → Prop} (hK : ∀ a w val, Under n m ops sp f0 w0 ow l (listed.setIfInBounds i true) a w val → K a w) : wpOp P ops Q' i K a w := by
  obtain ⟨hun, o, ho, hall⟩ := mem_ready.1 hi
  have hc' := hc
  simp only [checkAny, Bool.and_eq_true, List.all_eq_true, List.mem_range] at hc'
  have hck := hc'.1.1.1.2
  have hsz : sp.length = m := by simpa using hc'.1.1.1.1.1
  have hms : m ≤ ops.size := of_decide_eq_true hc'.1.1.1.1.2.1
  have hn6 : n ≤ 1000000 := of_decide_eq_true hc'.1.1.1.1.2.2
  have hck1 := hck i him
  obtain ⟨s, hsi⟩ : ∃ s, sp[i]? = some s := ⟨sp[i]'(by omega), List.getElem?_eq_getElem _⟩
  have htp := closed_tp hc inv i him (.inr hi) s hsi
  simp only [hsi, ho, Bool.and_eq_true, List.all_eq_true, decide_eq_true_eq, Bool.or_eq_true, List.any_eq_true, List.contains_eq_mem] at hck1
  have hdn : ∀ d, o.dst = some d → d < n ∧ dstD ops i = d := by
    intro d hd
    have h1 := hck1.1.1.1.1
    rw [hd] at h1
    refine ⟨by simpa using h1, by simp [dstD, ho, hd]⟩
  have hdno : o.dst = none → dstD ops i = 1000000 + i := by
    intro hd
    simp [dstD, ho, hd]
  have uniq : ∀ j k, j < m → k < m → dstD ops j = dstD ops k → j = k := by
    intro j k hj hk hjk
    rcases Nat.lt_trichotomy j k with h1 | h1 | h1
    · have h2 := (hck k hk)
      have h3 := h2.2 j h1
      simp [hjk] at h3
    · exact h1
    · have h2 := (hck j hj)
      have h3 := h2.2 k h1
      simp [hjk] at h3
  have hlis : listed.size = ops.size := inv.size
  have hunf : listed.getD i false = false := getD_both hun
  have tpOf : ∀ k, k < m → listed.getD k false = true → ∀ s', sp[k]? = some s' → ∀ j ∈ s'.tp, j < k ∧ listed.getD j false = true := fun k hk hl => closed_tp hc inv k hk (.inl hl)
  have depsTp : ∀ k s', k < m → sp[k]? = some s' → ∀ j ∈ s'.deps, j ∈ s'.tp := by
    intro k s' hk hs'
    have h2 := hck k hk
    simp only [hs', Bool.and_eq_true, List.all_eq_true, List.contains_eq_mem, decide_eq_true_eq] at h2
    exact h2.1.2.1.1.1.2
  have eatsTp : ∀ k s', k < m → sp[k]? = some s' → ∀ j ∈ s'.eats, j ∈ s'.tp ∨ (m ≤ j ∧ j < m + l.length) := by
    intro k s' hk hs'
    have h2 := hck k hk
    simp only [hs', Bool.and_eq_true, Bool.or_eq_true, List.all_eq_true, List.contains_eq_mem, decide_eq_true_eq] at h2
    exact h2.1.2.1.1.2
  have hnodup : s.eats.Nodup := hck1.1.2.1.2
  have hone : ∀ k, k < m → k ≠ i → ∀ j ∈ eatsAt sp k, j ∉ s.eats := by
    intro k hk hki j hj hje
    have h2 := hck1.1.2.2 k (List.mem_range.2 hk)
    simp only [Bool.or_eq_true, beq_iff_eq, hki, false_or] at h2
    cases hsk : sp[k]? with
    | none => simp [eatsAt, hsk] at hj
    | some sk =>
      simp only [eatsAt, hsk] at hj
      simp only [hsk, List.all_eq_true] at h2
      have := h2 j hj
      simp [hje] at this
  have eatListed : ∀ k, k < m → listed.getD k false = true → ∀ j ∈ eatsAt sp k, m ≤ j ∨ listed.getD j false = true := by
    intro k hk hl j hj
    cases hsk : sp[k]? with
    | none => simp [eatsAt, hsk] at hj
    | some sk =>
      simp only [eatsAt, hsk] at hj
      rcases eatsTp k sk hk hsk j hj with h1 | h1
      · exact .inr (tpOf k hk hl sk hsk j h1).2
      · exact .inl h1.1
  have hereEat : ∀ j ∈ s.eats, here m sp listed j = true := by
    intro j hj
    simp only [here, Bool.and_eq_true, List.all_eq_true, List.mem_range, Bool.not_eq_true', Bool.and_eq_false_iff, Bool.or_eq_true, decide_eq_true_eq]
    refine ⟨?_, fun k hk => ?_⟩
    · rcases eatsTp i s him hsi j hj with h1 | h1
      · exact .inr (htp j h1).2
      · exact .inl h1.1
    · by_cases hki : k = i
      · subst hki; exact .inl hunf
      · right
        simp only [List.contains_eq_mem, decide_eq_false_iff_not]
        exact fun hjk => hone k hk hki j hjk hj
  let N := m + l.length
  let g : Nat → List Ent := fun k => if here m sp listed k then entB m sp l val k else []
  let l2 : List Ent := (List.range N).flatMap (fun k => if k ∈ s.eats then [] else g k)
  have hown2 : Own w0 ow w (s.eats.flatMap (entB m sp l val) ++ l2) := by
    refine h.own.perm ?_
    have h1 := flat_take (g := g) (List.nodup_range (n := N)) s.eats hnodup (fun k hk => List.mem_range.2 (by
      rcases eatsTp i s him hsi k hk with h1 | h1
      · have := (htp k h1).1
        show k < m + l.length
        omega
      · exact h1.2))
    have h2 : s.eats.flatMap g = s.eats.flatMap (entB m sp l val) := by
      rw [List.flatMap_def, List.flatMap_def, List.map_congr_left]
      intro k hk
      simp only [g, hereEat k hk, if_true]
    rw [h2] at h1
    exact h1
  have stay : ∀ j, (m ≤ j ∨ listed.getD j false = true) → stays m sp i j = true → j ∉ s.eats ∧ here m sp listed j = true := by
    intro j hj hst
    simp only [stays, List.all_eq_true, List.mem_range, Bool.or_eq_true, Bool.not_eq_true', List.contains_eq_mem, decide_eq_false_iff_not] at hst
    have key : ∀ k, k < m → j ∈ eatsAt sp k → ∃ sk, sp[k]? = some sk ∧ i ∈ sk.tp := by
      intro k hk hjk
      have h1 := hst k hk
      rcases h1 with h1 | h1
      · exact absurd hjk h1
      · cases hsk : sp[k]? with
        | none => simp [hsk] at h1
        | some sk => simp [hsk] at h1; exact ⟨sk, rfl, h1⟩
    refine ⟨fun hje => ?_, ?_⟩
    · obtain ⟨sk, hsk, hik⟩ := key i him (by simpa [eatsAt, hsi] using hje)
      have : s = sk := by rw [hsi] at hsk; exact Option.some.inj hsk
      subst this
      exact Nat.lt_irrefl _ (htp i hik).1
    · simp only [here, Bool.and_eq_true, Bool.or_eq_true, decide_eq_true_eq, List.all_eq_true, List.mem_range, Bool.not_eq_true', Bool.and_eq_false_iff]
      refine ⟨hj, fun k hk => ?_⟩
      cases hl : listed.getD k false with
      | false => exact .inl rfl
      | true =>
        right
        simp only [List.contains_eq_mem, decide_eq_false_iff_not]
        intro hjk
        obtain ⟨sk, hsk, hik⟩ := key k hk hjk
        have := (tpOf k hk hl sk hsk i hik).2
        rw [hunf] at this; cases this
  -- what the step gives
  have key := hs ho hsi (fr a) w l2 val hown2
    (by
      intro p e hp hst
      have h1 := stay (m + p) (.inl (Nat.le_add_right _ _)) hst
      have hpl : p < l.length := (List.getElem?_eq_some_iff.1 hp).1
      refine List.mem_flatMap.2 ⟨m + p, List.mem_range.2 (by show m + p < m + l.length; omega), ?_⟩
      rw [if_neg h1.1]
      have h3 : ¬ (m + p < m) := by omega
      simp only [g, h1.2, if_true, entB, h3, if_false, Nat.add_sub_cancel_left, hp, Option.toList, List.mem_singleton])
    (by
      intro t ht
      refine h.base t fun k hk hl heq => ?_
      simp only [baseAt, List.all_eq_true, List.mem_range, Bool.or_eq_true] at ht
      have h2 := ht k hk
      rcases h2 with (h2 | h2) | h2
      · simp [heq] at h2
      · have : k = i := by simpa using h2
        subst this
        rw [hunf] at hl; cases hl
      · cases hsk : sp[k]? with
        | none => simp [hsk] at h2
        | some sk =>
          simp [hsk] at h2
          have := (tpOf k hk hl sk hsk i h2).2
          rw [hunf] at this; cases this)
    (by
      intro j hj
      have hj2 := htp j (by simpa using hj)
      have hjm : j < m := by omega
      have hd := h.done j hjm hj2.2
      refine ⟨hd.1, hd.2, fun hkp e he => List.mem_flatMap.2 ⟨j, List.mem_range.2 (by show j < m + l.length; omega), ?_⟩⟩
      have h1 := stay j (.inr hj2.2) hkp
      rw [if_neg h1.1]
      simp only [g, h1.2, if_true, entB, hjm]
      exact he)
  -- what the next state is
  have next : ∀ v w', s.ok (s.deps.map val) (kv o v) → Own w0 ow w' (s.ent (s.deps.map val) (kv o v) ++ l2) → K (a.put o.dst v) w' := by
    intro v w' hok hown
    have hput : ∀ t, fr (a.put o.dst v) t = if t = dstD ops i then kv o v else fr a t := by
      intro t
      cases hd : o.dst with
      | some d =>
        have h1 := hdn d hd
        have hg := (Good.put (n := n) (f := fr a) ⟨h.size, h.defers, rfl⟩ (some d) (by intro d' hd'; cases hd'; exact h1.1) v).eq
        rw [congrFun hg t, h1.2]
        simp only [updo, upd, kv, hd]
        by_cases ht : t = d
        · subst ht; simp
        · simp [beq_ne ht, ht]
      | none =>
        simp only [Act.put, hdno hd, kv, hd]
        by_cases ht : t = 1000000 + i
        · subst ht
          have : a.tmps.size ≤ 1000000 + i := by rw [h.size]; omega
          simp [fr, Array.getD_eq_getD_getElem?, Array.getElem?_eq_none this]
        · simp [ht]
    let val' : Nat → Value := fun k => if k = i then kv o v else val k
    have vne : ∀ k, k ≠ i → val' k = val k := fun k hk => by simp [val', hk]
    have vi : val' i = kv o v := by simp [val']
    have same : ∀ k, k < m → listed.getD k false = true → okAt sp val' k = okAt sp val k ∧ entB m sp l val' k = entB m sp l val k := by
      intro k hk hl
      have hki : k ≠ i := by rintro rfl; rw [hunf] at hl; cases hl
      cases hsk : sp[k]? with
      | none => simp [okAt, entB, hsk]
      | some sk =>
        have hm : sk.deps.map val' = sk.deps.map val := List.map_congr_left fun j hj => vne j (by
          rintro rfl
          have := (tpOf k hk hl sk hsk j (depsTp k sk hk hsk j hj)).2
          rw [hunf] at this; cases this)
        simp [okAt, entB, hsk, hm, vne k hki]
    have hmi : s.deps.map val' = s.deps.map val := List.map_congr_left fun j hj => vne j (by
      rintro rfl
      exact Nat.lt_irrefl _ (htp j (depsTp j s him hsi j hj)).1)
    have seti : ∀ k, (listed.setIfInBounds i true).getD k false = if k = i then true else listed.getD k false := by
      intro k
      by_cases hk : k = i
      · subst hk
        rw [if_pos rfl]
        have : k < listed.size := by omega
        simp [Array.getD_eq_getD_getElem?, Array.getElem?_setIfInBounds, this]
      · rw [if_neg hk, getD_set_ne false (Ne.symm hk)]
    refine hK _ _ val' ⟨?_, ?_, ?_, ?_, ?_⟩
    · cases o.dst <;> simp [Act.put, h.size]
    · cases o.dst <;> exact h.defers
    · refine hown.perm ?_
      have herei : here m sp (listed.setIfInBounds i true) i = true := by
        simp only [here, Bool.and_eq_true, Bool.or_eq_true, List.all_eq_true, List.mem_range, Bool.not_eq_true', Bool.and_eq_false_iff]
        refine ⟨.inr (by rw [seti, if_pos rfl]), fun k hk => ?_⟩
        rw [seti]
        by_cases hki : k = i
        · subst hki
          right
          simp only [List.contains_eq_mem, decide_eq_false_iff_not, eatsAt, hsi]
          intro hkk
          rcases eatsTp k s him hsi k hkk with h1 | h1
          · exact Nat.lt_irrefl _ (htp k h1).1
          · omega
        · rw [if_neg hki]
          cases hl : listed.getD k false with
          | false => exact .inl rfl
          | true =>
            right
            simp only [List.contains_eq_mem, decide_eq_false_iff_not]
            intro hik
            rcases eatListed k hk hl i hik with h1 | h1
            · omega
            · rw [hunf] at h1; cases h1
      have hp := flat_perm' (k := i) (g := fun k => if k ∈ s.eats then [] else g k) (g' := fun k => if here m sp (listed.setIfInBounds i true) k then entB m sp l val' k else [])
        (by
          have h0 : ¬ m ≤ i := by omega
          have : here m sp listed i = false := by simp only [here, hunf, h0, decide_false, Bool.or_false, Bool.false_and]
          simp only [g, this, Bool.false_eq_true, if_false, ite_self])
        (by
          intro k hk
          by_cases hke : k ∈ s.eats
          · rw [if_pos hke]
            have : here m sp (listed.setIfInBounds i true) k = false := by
              simp only [here, Bool.and_eq_false_iff]
              right
              rw [List.all_eq_false]
              refine ⟨i, List.mem_range.2 him, ?_⟩
              rw [seti, if_pos rfl]
              simp [eatsAt, hsi, hke]
            simp only [this, Bool.false_eq_true, if_false]
          · rw [if_neg hke]
            have : here m sp (listed.setIfInBounds i true) k = here m sp listed k := by
              simp only [here]
              rw [seti, if_neg hk]
              congr 1
              rw [Bool.eq_iff_iff, List.all_eq_true, List.all_eq_true]
              constructor
              · intro hall2 k2 hk2
                have h5 := hall2 k2 hk2
                rw [seti] at h5
                by_cases h6 : k2 = i
                · subst h6; simp [hunf]
                · rwa [if_neg h6] at h5
              · intro hall2 k2 hk2
                have h5 := hall2 k2 hk2
                rw [seti]
                by_cases h6 : k2 = i
                · subst h6; simp [eatsAt, hsi, hke]
                · rwa [if_neg h6]
            simp only [this, g]
            cases hh : here m sp listed k with
            | false => simp
            | true =>
              simp only [if_true]
              by_cases hkm : k < m
              · have hl : listed.getD k false = true := by
                  simp only [here, Bool.and_eq_true, Bool.or_eq_true, decide_eq_true_eq] at hh
                  rcases hh.1 with h1 | h1
                  · omega
                  · exact h1
                exact (same k hkm hl).2
              · simp [entB, hkm])
        (List.range N) List.nodup_range (List.mem_range.2 (by show i < m + l.length; omega))
      refine List.Perm.symm (hp.trans ?_)
      simp only [herei, if_true]
      have : entB m sp l val' i = s.ent (s.deps.map val) (kv o v) := by simp [entB, hsi, hmi, vi, him]
      rw [this]
    · intro k hk hl
      rw [seti] at hl
      by_cases hki : k = i
      · subst hki
        refine ⟨by rw [hput, if_pos rfl, vi], ?_⟩
        simp [okAt, hsi, hmi, vi, hok]
      · rw [if_neg hki] at hl
        have hd := h.done k hk hl
        refine ⟨?_, by rw [(same k hk hl).1]; exact hd.2⟩
        rw [hput, if_neg (fun he => hki (uniq k i hk him he)), vne k hki]
        exact hd.1
    · intro t ht
      have hti : t ≠ dstD ops i := fun he => ht i him (by rw [seti, if_pos rfl]) he.symm
      rw [hput, if_neg hti]
      refine h.base t fun k hk hl => ht k hk ?_
      rw [seti]
      split
      · rfl
      · exact hl
  have hg : Good n (fr a) a := ⟨h.size, h.defers, rfl⟩
  unfold wpOp
  simp only [ho]
  cases hgd : o.guard with
  | none =>
    simp only [hgd] at key
    simp only [Region.wanted, hgd, if_true]
    exact .inl (key.wp hg fun v w' hk => next v w' hk.1 hk.2)
  | some p =>
    obtain ⟨j, b⟩ := p
    simp only [hgd] at key
    obtain ⟨hjt, b', hb', hon, hoff⟩ := key
    have hjd : (ops[j]?).bind (·.dst) = some (dstD ops j) := by
      have h2 := hck1.1.1.1.2
      simp only [hgd] at h2
      simp only [dstD]
      cases hx : (ops[j]?).bind (·.dst) with
      | none => simp [hx] at h2
      | some d => rfl
    have hy : yielded ops a.tmps j = b' := yieldsG hg hjd hb'
    simp only [Region.wanted, hgd, hy]
    by_cases hbb : b' = some b
    · rw [if_pos (by simp [hbb])]
      exact .inl ((hon hbb).wp hg fun v w' hk => next v w' hk.1 hk.2)
    · rw [if_neg (by simpa using hbb)]
      have h1 := hoff hbb
      have hku : kv o undef = undef := by unfold kv; cases o.dst <;> rfl
      refine next undef w (by rw [hku]; exact h1.1) ?_
      rw [hku, h1.2.1]
      have h2 := hown2
      rw [h1.2.2] at h2
      exact h2
/-- A region that draws its order: its head by its specs, in whatever order; then the tail, in the order of the text. -/
theorem C_any {id : Nat} {lo : List Oper} {w : World} (m : Nat) (sp : List Spec) (hm : P.follows .mixedOrders = true) (hc : checkAny n m nb lo.toArray sp = true) (H : Own w0 ow w l)
    (step : Steps P m lo.toArray sp f0 w0 ow l 0 lo sp)
    (fin : ∀ f w val, Own w0 ow w ((List.range (m + nb)).flatMap (fun k => if keeps m sp k then entB m sp l val k else [])) → (∀ k, k < m → f (dstD lo.toArray k) = val k ∧ okAt sp val k) → (∀ t, baseEnd m lo.toArray t = true → f t = f0 t) →
      L P n lo.toArray Q (lo.drop m) f w) (hnb : l.length = nb := by rfl) : C P n (.region id lo.toArray true) Q f0 w := by
  subst hnb
  intro a ha
  have hc' := hc
  simp only [checkAny, Bool.and_eq_true, List.all_eq_true, List.mem_range, decide_eq_true_eq, Bool.or_eq_true] at hc'
  obtain ⟨⟨⟨⟨⟨hsz, hms, hn6⟩, hck⟩, htail⟩, hseq⟩, hbnd⟩ := hc'
  have hs : ∀ {i : Nat} {o : Oper} {s : Spec}, lo.toArray[i]? = some o → sp[i]? = some s → StepAt P m lo.toArray sp f0 w0 ow l i o s := by
    intro i o s ho hs
    have := step.at (i := i) (by simpa using ho) hs
    rwa [Nat.zero_add] at this
  refine wp_region_any hm ?_
  generalize hops : lo.toArray = ops at *
  have main : ∀ (u : Nat) (listed : Array Bool) (a : Act) (w : World) (val : Nat → Value), HeadInv .any ops m listed → ((List.range m).filter fun k => !listed.getD k false).length = u → Under n m ops sp f0 w0 ow l listed a w val →
      wpAny P .any ops (lift n Q) (u + (ops.size - m)) listed a w := by
    intro u
    induction u with
    | zero =>
      intro listed a w val inv hu h
      have hall : ∀ k, k < m → listed.getD k false = true := by
        intro k hk
        have h1 : (List.range m).filter (fun k => !listed.getD k false) = [] := List.eq_nil_of_length_eq_zero hu
        rw [List.filter_eq_nil_iff] at h1
        have := h1 k (List.mem_range.2 hk)
        simpa using this
      have hl : listed = (Array.range ops.size).map fun i => decide (i < m) := by
        apply Array.ext
        · simp [inv.size]
        · intro i h1 h2
          simp only [Array.getElem_map, Array.getElem_range]
          by_cases him : i < m
          · have := hall i him
            simp [Array.getD_eq_getD_getElem?, h1] at this
            simp [this, him]
          · have := inv.tail i (by omega) (by rw [← inv.size]; exact h1)
            simp [Array.getD_eq_getD_getElem?, h1] at this
            simp [this, him]
      rw [Nat.zero_add]
      have hdl : (ops.toList.drop m).length = ops.size - m := by simp
      rw [← hdl]
      refine wpAny_of_seq (ops.toList.drop m) m listed a w (fun j => by simp) (by rw [hdl, hl]; exact hseq) ?_
      have hown := h.own
      have he : (List.range (m + l.length)).flatMap (fun k => if here m sp listed k then entB m sp l val k else []) = (List.range (m + l.length)).flatMap (fun k => if keeps m sp k then entB m sp l val k else []) := by
        rw [List.flatMap_def, List.flatMap_def, List.map_congr_left]
        intro k hk
        have : here m sp listed k = keeps m sp k := by
          have h0 : (decide (m ≤ k) || listed.getD k false) = true := by
            by_cases hkm : k < m
            · simp [hall k hkm]
            · simp; omega
          simp only [here, keeps, h0, Bool.true_and]
          rw [Bool.eq_iff_iff, List.all_eq_true, List.all_eq_true]
          constructor
          · intro h1 k2 hk2
            have := h1 k2 hk2
            rw [hall k2 (List.mem_range.1 hk2), Bool.true_and] at this
            exact this
          · intro h1 k2 hk2
            rw [hall k2 (List.mem_range.1 hk2), Bool.true_and]
            exact h1 k2 hk2
        rw [this]
      rw [he] at hown
      have hf := fin (fr a) w val hown (fun k hk => h.done k hk (hall k hk)) (fun t ht => h.base t fun k hk _ => by
        simp only [baseEnd, List.all_eq_true, List.mem_range] at ht
        have := ht k hk
        simpa using this)
      have hlo : ops.toList = lo := by rw [← hops]
      rw [hlo]
      exact hf hbnd a ⟨h.size, h.defers, rfl⟩
    | succ u ih =>
      intro listed a w val inv hu h
      -- some operation of the head is not listed: the least of them is ready
      have hex : ∃ k, k < m ∧ listed.getD k false = false := by
        have : (List.range m).filter (fun k => !listed.getD k false) ≠ [] := by intro h1; rw [h1] at hu; cases hu
        obtain ⟨k, hk⟩ := List.exists_mem_of_ne_nil _ this
        simp only [List.mem_filter, List.mem_range] at hk
        exact ⟨k, hk.1, by simpa using hk.2⟩
      obtain ⟨k0, hk0, hmin⟩ := least hex
      have hready : k0 ∈ Region.ready .any ops listed := by
        have hlt : k0 < ops.size := by omega
        refine mem_ready.2 ⟨getD_in (by rw [inv.size]; exact hlt) hk0.2, ops[k0], by simp [hlt], ?_⟩
        intro e he hb
        have h1 := hck k0 hk0.1
        have hdir : e.on ∈ direct ops k0 := by
          simp only [direct, Array.getElem?_eq_getElem hlt, List.mem_map, List.mem_filter, Array.mem_toList_iff]
          exact ⟨e, ⟨he, hb⟩, rfl⟩
        have hlt2 : e.on < k0 := h1.1.1.2 e.on hdir
        cases hl : listed.getD e.on false with
        | true => rfl
        | false => have := hmin e.on ⟨by omega, hl⟩; omega
      have hhead : ∀ i ∈ Region.ready .any ops listed, i < m := by
        intro i hi
        obtain ⟨_, o, ho, _⟩ := mem_ready.1 hi
        have hlt : i < ops.size := (Array.getElem?_eq_some_iff.1 ho).1
        rcases htail with h1 | ⟨h1, h2⟩
        · omega
        · rcases Nat.lt_or_ge i m with h3 | h3
          · exact h3
          · exact absurd hi (tail_waits h1 h2 (by omega) inv (m - k0) k0 rfl hk0.1 (getD_in (by rw [inv.size]; omega) hk0.2) i h3)
      have hfuel : u + 1 + (ops.size - m) = (u + (ops.size - m)) + 1 := by omega
      rw [hfuel]
      refine ⟨fun h1 => (by rw [h1] at hready; cases hready), fun i hi => ?_⟩
      refine Under.step hc hs inv h hi (hhead i hi) fun a' w' val' h' => ?_
      have hunl := getD_both (mem_ready.1 hi).1
      refine ih _ a' w' val' (inv.set hi (hhead i hi)) ?_ h'
      have hsz' : i < listed.size := by rw [inv.size]; have := hhead i hi; omega
      have hcnt : ((List.range m).filter fun k => !listed.getD k false).Perm (i :: (List.range m).filter fun k => !(listed.setIfInBounds i true).getD k false) := by
        have hnd : (List.range m).Nodup := List.nodup_range
        rw [List.perm_ext_iff_of_nodup (hnd.filter _) (by
          rw [List.nodup_cons]
          refine ⟨?_, hnd.filter _⟩
          simp [Array.getD_eq_getD_getElem?, Array.getElem?_setIfInBounds, hsz'])]
        intro k
        simp only [List.mem_cons, List.mem_filter, List.mem_range]
        by_cases hki : k = i
        · subst hki
          simp [hunl, hhead k hi]
        · rw [getD_set_ne false (Ne.symm hki)]
          simp [hki]
      have := hcnt.length_eq
      rw [hu] at this
      simpa using this.symm
  have hcount : ((List.range m).filter fun k => !(Array.replicate ops.size false).getD k false).length = m := by
    have : (List.range m).filter (fun k => !(Array.replicate ops.size false).getD k false) = List.range m := by
      rw [List.filter_eq_self]
      intro k _
      rw [getD_replicate_false]; rfl
    rw [this, List.length_range]
  have hfin := main m (Array.replicate ops.size false) a w.drew (fun _ => undef) ⟨by simp, fun j oj _ hl => (by rw [getD_replicate_false] at hl; cases hl), fun t _ ht => by simp [Array.getD_eq_getD_getElem?, ht]⟩ hcount
    ⟨ha.size, ha.defers, by
      have h0 : (List.range (m + l.length)).flatMap (fun k => if here m sp (Array.replicate ops.size false) k then entB m sp l (fun _ => undef) k else []) = l := by
        rw [List.range_add, List.flatMap_append]
        have h1 : (List.range m).flatMap (fun k => if here m sp (Array.replicate ops.size false) k then entB m sp l (fun _ => undef) k else []) = [] := by
          rw [List.flatMap_eq_nil_iff]
          intro k hk
          have : ¬ m ≤ k := by have := List.mem_range.1 hk; omega
          simp only [here, getD_replicate_false, Bool.or_false, this, decide_false, Bool.false_and, Bool.false_eq_true, if_false]
        rw [h1, List.nil_append, List.flatMap_map]
        have h2 : ∀ l : List Ent, (List.range l.length).flatMap (fun p => (l[p]?).toList) = l := by
          intro l
          induction l with
          | nil => rfl
          | cons x l ih =>
            rw [List.length_cons, List.range_succ_eq_map, List.flatMap_cons, List.flatMap_map]
            simp only [List.getElem?_cons_zero, List.getElem?_cons_succ, Option.toList, List.singleton_append]
            exact congrArg (x :: ·) ih
        refine Eq.trans ?_ (h2 l)
        rw [List.flatMap_def, List.flatMap_def, List.map_congr_left]
        intro p _
        have h3 : ¬ (m + p < m) := by omega
        have h4 : here m sp (Array.replicate ops.size false) (m + p) = true := by
          simp only [here, Nat.le_add_right, decide_true, Bool.true_or, Bool.true_and, List.all_eq_true, getD_replicate_false, Bool.false_and, Bool.not_false, implies_true]
        simp only [h4, if_true, entB, h3, if_false, Nat.add_sub_cancel_left]
      rw [h0]; exact H.drew, fun k _ hl => (by rw [getD_replicate_false] at hl; cases hl), fun t _ => by rw [ha.eq]⟩
  have hsum : m + (ops.size - m) = ops.size := by omega
  rw [hsum] at hfin
  exact hfin
end
end Hyp
